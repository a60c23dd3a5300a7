/-
  Contracts: which histories are valid, in the program and in the reference; the committed part.
-/
import Derived.Test.YtnbkihkdfhjlmaaCd
namespace Go.Proofs.Ytnbkihkdfhjlmaa
open Go Go.VC

/-- An operation that a loop loads into a variable of its own. -/
theorem loadEv {w : World} {s : Sl} {h : List Ev} (hs : Hs w s h) {i : Nat} (hi : i < h.length) {T : TypeId} (hz : (zc Try.prog T).size = 3) {B : World → Prop}
    (hB : ∀ w5, Blk w5 w.heap.size (eO h[i]) T → Ext w w5 → B w5) :
    ∃ p : Pt, s.a = some ⟨p.b, p.o, none⟩ ∧ 0 ≤ (i : Int) ∧ (i : Int) < ((s.n : Nat) : Int) ∧ ∃ a : Int, ∃ b : Int, ∃ c : Int, rd w p.b (p.o + Int.toNat (i : Int) * 3) [.int .i64 a, .int .i64 b, .int .i64 c] ∧
      Let (w.alloc (.cells (zc Try.prog T) T)) fun w4 => StoreOk w4 w.heap.size 0 [.int .i64 a, .int .i64 b, .int .i64 c] 3 ∧ Let (put w4 w.heap.size 0 [.int .i64 a, .int .i64 b, .int .i64 c]) fun w5 => B w5 := by
  obtain ⟨p, hp, h2, h3, hr⟩ := Sli.at eO_len hs hi
  obtain ⟨a, b, c⟩ := new_var w T (z := zc Try.prog T) (vs := eO h[i]) (by rw [hz, eO_len]) (eO_one _)
  exact ⟨p, hp, h2, h3, _, _, _, hr, a, hB _ b c⟩

/-- An operation that a loop loads into a variable of its own. -/
theorem loadEvN {w : World} {s : Sl} {h : List Ev} (hs : Hs w s h) {i : Nat} (hi : i < h.length) {n : Nat} (hin : (i : Int) < (n : Int)) {T : TypeId} (hz : (zc Try.prog T).size = 3) {B : World → Prop}
    (hB : ∀ w5, Blk w5 w.heap.size (eO h[i]) T → Ext w w5 → B w5) :
    ∃ p : Pt, s.a = some ⟨p.b, p.o, none⟩ ∧ 0 ≤ (i : Int) ∧ (i : Int) < ((n : Nat) : Int) ∧ ∃ a : Int, ∃ b : Int, ∃ c : Int, rd w p.b (p.o + Int.toNat (i : Int) * 3) [.int .i64 a, .int .i64 b, .int .i64 c] ∧
      Let (w.alloc (.cells (zc Try.prog T) T)) fun w4 => StoreOk w4 w.heap.size 0 [.int .i64 a, .int .i64 b, .int .i64 c] 3 ∧ Let (put w4 w.heap.size 0 [.int .i64 a, .int .i64 b, .int .i64 c]) fun w5 => B w5 := by
  obtain ⟨p, hp, h2, _, hr⟩ := Sli.at eO_len hs hi
  obtain ⟨a, b, c⟩ := new_var w T (z := zc Try.prog T) (vs := eO h[i]) (by rw [hz, eO_len]) (eO_one _)
  exact ⟨p, hp, h2, hin, _, _, _, hr, a, hB _ b c⟩

def okOp (o : Ev) : Prop := 1 ≤ o.t ∧ o.t ≤ 6 ∧ 0 ≤ o.k ∧ o.k ≤ 3 ∧ 0 ≤ o.i ∧ o.i ≤ 5 ∧ (1 < o.k → o.i = 0)
instance : DecidablePred okOp := fun o => by unfold okOp; infer_instance
/-- No operation of a transaction behind its end. -/
def apart (p o : Ev) : Prop := ¬ (p.t = o.t ∧ 1 < p.k)
instance (p o : Ev) : Decidable (apart p o) := by unfold apart; infer_instance
/-- A history, but for its length. -/
def Wf (h : List Ev) : Prop := (∀ o ∈ h, okOp o) ∧ h.Pairwise apart
instance (h : List Ev) : Decidable (Wf h) := by unfold Wf; infer_instance
def Valid (h : List Ev) : Prop := Wf h ∧ h.length ≤ 40
instance (h : List Ev) : Decidable (Valid h) := by unfold Valid; infer_instance
theorem wf_step {h : List Ev} {i : Nat} (hi : i < h.length) (hw : Wf (h.take i)) : Wf (h.take (i + 1)) ↔ okOp h[i] ∧ ∀ p ∈ h.take i, apart p h[i] := by
  unfold Wf
  rw [List.take_succ_eq_append_getElem hi]
  constructor
  · rintro ⟨h1, h2⟩
    exact ⟨h1 _ (List.mem_append_right _ (List.mem_singleton.2 rfl)), fun p hp => (List.pairwise_append.1 h2).2.2 p hp _ (List.mem_singleton.2 rfl)⟩
  · rintro ⟨h1, h2⟩
    refine ⟨fun o ho => ?_, List.pairwise_append.2 ⟨hw.2, by simp, fun p hp o ho => ?_⟩⟩
    · rcases List.mem_append.1 ho with ho | ho
      · exact hw.1 o ho
      · simp at ho; subst ho; exact h1
    · simp at ho; subst ho; exact h2 p hp
theorem wf_take {h : List Ev} (hw : Wf h) (i : Nat) : Wf (h.take i) := ⟨fun o ho => hw.1 o (List.mem_of_mem_take ho), hw.2.sublist (List.take_sublist i h)⟩

theorem u84 : Try.prog.underlying 84 = some (.map 3 4) := by kernel_rfl
theorem zero4 (w : World) : (zeroValue 4).run Try.prog w = .ok (.bool false) w := Try.zeroValue4 w

theorem c26 {w : World} {s : Sl} {h : List Ev} (hs : Hs w s h) (hl : h.length ≤ big) :
    Calls Try.prog 26 [.slice s.a s.n s.c].toArray w fun e w' => e = .returned (.bool (decide (Valid h))) ∧ Ext w w' := by
  refine (call26 s (R := fun v w' => v = .bool (decide (Valid h)) ∧ Ext w w') ?_).mono fun e w' ⟨v, he, hv, hx⟩ => ⟨by rw [he, hv], hx⟩
  have hn := hs.len
  refine Let.intro fun w1 e1 => ?_
  have hm1 : Mp kI kB w1 w.heap.size ([] : List (Ent Int Bool)) 0 := by rw [e1]; exact Mp.made w
  have hx1 : Ext w w1 := by rw [e1]; exact Ext.alloc ..
  refine cond_intro (fun h40 => ?_) (fun h40 => ?_)
  · have h40 : ¬ h.length ≤ 40 := by simp [hn] at h40; omega
    exact ⟨by simp [Valid, h40], hx1⟩
  have h40 : h.length ≤ 40 := by simp [hn] at h40; omega
  refine Join.dir (rangeI (fun i w' => Wf (h.take i) ∧ (∃ (l : List (Ent Int Bool)) (c : Nat), Mp kI kB w' w.heap.size l c ∧ ∀ t, (mget l t).getD false = decide (∃ p ∈ h.take i, p.t = t ∧ 1 < p.k)) ∧ Ext w w') (by rw [hn]; exact hl)
    ⟨⟨by simp, by simp⟩, ⟨[], 0, hm1, fun t => by simp [mget]⟩, hx1⟩ ?_ ?_)
  · rintro i hi w3 ⟨hw, ⟨l, c, hm, hg⟩, hx⟩ K hK
    have hi : i < h.length := by omega
    refine loadEv (hs.ext hx) hi zc38 fun w6 hb hx6 => ?_
    have hm6 := hm.ext hx6
    have hgo : Wf (h.take (i + 1)) ↔ okOp h[i] ∧ ∀ p ∈ h.take i, apart p h[i] := wf_step hi hw
    have hno : ¬ Wf (h.take (i + 1)) → ¬ Valid h := fun h1 h2 => h1 (wf_take h2.1 _)
    refine ⟨fun (b : Bool) w' => b = decide (h[i].k = 2 ∨ h[i].k = 3) ∧ w' = w6, ?_, ?_⟩
    · rintro b6 w7 ⟨rfl, rfl⟩
      refine ⟨fun (b : Bool) w' => b = decide (¬ Wf (h.take (i + 1))) ∧ w' = w7, ?_, ?_⟩
      · rintro b w8 ⟨rfl, rfl⟩
        refine cond_intro (fun hc => ?_) (fun hc => ?_)
        · have hc : ¬ Wf (h.take (i + 1)) := by simpa using hc
          exact ⟨by simp [hno hc], hx.trans hx6⟩
        · have hc : Wf (h.take (i + 1)) := by simpa using hc
          obtain ⟨w9, c', hrun, hm9, hf9⟩ := put_run K3 u84 hm6 h[i].t (decide (h[i].k = 2 ∨ h[i].k = 3))
          refine ⟨_, hb.cell 0, w9, hrun, hK _ ⟨hc, ⟨_, c', hm9, fun t => ?_⟩, (hx.trans hx6).newer hf9 fun b hb => by omega⟩⟩
          have hok := (hgo.1 hc).1
          have hap := (hgo.1 hc).2
          rw [mget_mput, List.take_succ_eq_append_getElem hi]
          by_cases e : t = h[i].t
          · subst e
            rw [if_pos rfl]
            simp only [Option.getD_some]
            apply decide_eq_decide.2
            constructor
            · intro hk; exact ⟨h[i], List.mem_append_right _ (List.mem_singleton.2 rfl), rfl, by omega⟩
            · rintro ⟨p, hp, hpt, hpk⟩
              rcases List.mem_append.1 hp with hp | hp
              · exact absurd ⟨hpt, hpk⟩ (hap p hp)
              · simp at hp; subst hp; unfold okOp at hok; omega
          · rw [if_neg e, hg]
            apply decide_eq_decide.2
            constructor
            · rintro ⟨p, hp, hpt, hpk⟩; exact ⟨p, List.mem_append_left _ hp, hpt, hpk⟩
            · rintro ⟨p, hp, hpt, hpk⟩
              rcases List.mem_append.1 hp with hp | hp
              · exact ⟨p, hp, hpt, hpk⟩
              · simp at hp; subst hp; exact absurd hpt.symm e
      · have hbad : ¬ okOp h[i] → true = decide (¬ Wf (h.take (i + 1))) ∧ w7 = w7 := fun h1 => ⟨by simp [hgo, h1], rfl⟩
        have hlast : ∀ t, t = h[i].t → (Instr.lookup 84 (.map (some w.heap.size)) (.int .i64 t) false).run Try.prog w7 = .ok (.bool (decide (∃ p ∈ h.take i, p.t = h[i].t ∧ 1 < p.k))) w7 := fun t ht => by
          subst ht
          have := (look_run K3 u84 hm6 zero4 h[i].t).1
          rw [show (Value.int .i64 h[i].t) = kI h[i].t from rfl, this, ← hg]
          cases mget l h[i].t <;> rfl
        refine ⟨_, hb.cell 0, cond_intro (fun hc => hbad fun h => ?_) (fun h1 => ?_)⟩
        · unfold okOp at h; simp at hc; omega
        refine ⟨_, hb.cell 0, cond_intro (fun hc => hbad fun h => ?_) (fun h2 => ?_)⟩
        · unfold okOp at h; simp at hc; omega
        refine ⟨_, hb.cell 1, cond_intro (fun hc => hbad fun h => ?_) (fun h3 => ?_)⟩
        · unfold okOp at h; simp at hc; omega
        refine ⟨_, hb.cell 1, cond_intro (fun hc => hbad fun h => ?_) (fun h4 => ?_)⟩
        · unfold okOp at h; simp at hc; omega
        refine ⟨_, hb.cell 2, cond_intro (fun hc => hbad fun h => ?_) (fun h5 => ?_)⟩
        · unfold okOp at h; simp at hc; omega
        refine ⟨_, hb.cell 2, cond_intro (fun hc => hbad fun h => ?_) (fun h6 => ?_)⟩
        · unfold okOp at h; simp at hc; omega
        have hfin : okOp h[i] → decide (∃ p ∈ h.take i, p.t = h[i].t ∧ 1 < p.k) = decide (¬ Wf (h.take (i + 1))) ∧ w7 = w7 := fun hok => ⟨by
          apply decide_eq_decide.2
          rw [hgo]
          constructor
          · rintro ⟨p, hp, h1⟩ ⟨_, h2⟩; exact h2 p hp h1
          · intro h1
            rcases Classical.em (∃ p ∈ h.take i, p.t = h[i].t ∧ 1 < p.k) with h2 | h2
            · exact h2
            · exact absurd ⟨hok, fun p hp h3 => h2 ⟨p, hp, h3⟩⟩ h1, rfl⟩
        refine cond_intro (fun h7 => ?_) (fun h7 => ?_)
        · refine ⟨_, hb.cell 2, cond_intro (fun hc => hbad fun h => ?_) (fun h8 => ?_)⟩
          · unfold okOp at h; simp at hc h7; omega
          · exact ⟨_, hb.cell 0, _, hlast _ rfl, hfin (by unfold okOp; simp at h1 h2 h3 h4 h5 h6 h7 h8; omega)⟩
        · exact ⟨_, hb.cell 0, _, hlast _ rfl, hfin (by unfold okOp; simp at h1 h2 h3 h4 h5 h6 h7; omega)⟩
    · refine ⟨_, hb.cell 1, cond_intro (fun hc => ?_) (fun hc => ?_)⟩
      · exact ⟨by simp at hc; simp [hc], rfl⟩
      · refine ⟨_, hb.cell 1, ?_, rfl⟩
        simp at hc
        by_cases h3 : h[i].k = 3 <;> simp [hc, h3]
  · rintro w3 ⟨hw, _, hx⟩
    rw [hn, List.take_length] at hw
    exact ⟨by simp [Valid, hw, h40], hx⟩

theorem zc37' : (zc Try.prog 37).size = 3 := zc37
theorem c13 {w : World} {s : Sl} {h : List Ev} (hs : Hs w s h) (hl : h.length ≤ big) :
    Calls Try.prog 13 [.slice s.a s.n s.c].toArray w fun e w' => e = .returned (.bool (decide (Valid h))) ∧ Ext w w' := by
  refine (call13 s (R := fun v w' => v = .bool (decide (Valid h)) ∧ Ext w w') ?_).mono fun e w' ⟨v, he, hv, hx⟩ => ⟨by rw [he, hv], hx⟩
  have hn := hs.len
  have hcap := hs.cap
  refine Join.dir (rangeI (fun i w' => Wf (h.take i) ∧ Ext w w') (by rw [hn]; exact hl) ⟨⟨by simp, by simp⟩, Fr.refl _ w⟩ ?_ ?_)
  · rintro i hi w2 ⟨hw, hx⟩ K hK
    have hi : i < h.length := by omega
    refine loadEv (hs.ext hx) hi zc37 fun w5 hb hx5 => ?_
    have hgo : Wf (h.take (i + 1)) ↔ okOp h[i] ∧ ∀ p ∈ h.take i, apart p h[i] := wf_step hi hw
    have hno : ¬ Wf (h.take (i + 1)) → ¬ Valid h := fun h1 h2 => h1 (wf_take h2.1 _)
    refine ⟨fun (b : Bool) w' => b = decide (¬ okOp h[i]) ∧ w' = w5, ?_, ?_⟩
    · rintro b w6 ⟨rfl, rfl⟩
      refine cond_intro (fun hc => ?_) (fun hc => ?_)
      · have hc : ¬ okOp h[i] := by simpa using hc
        exact ⟨by simp [hno (fun h1 => hc (hgo.1 h1).1)], hx.trans hx5⟩
      have hok : okOp h[i] := by simpa using hc
      refine ⟨by omega, by omega, Join.dir (rangeI (fun j w' => (∀ p ∈ h.take j, apart p h[i]) ∧ Ext w6 w') ?_ ⟨by simp, Fr.refl _ w6⟩ ?_ ?_)⟩
      · have : h.length ≤ 9223372036854775807 := hl
        show Int.toNat (i : Int) ≤ 9223372036854775807
        omega
      · rintro j hj w8 ⟨hap, hx8⟩ K2 hK2
        have hji : j < i := by omega
        have hjl : j < h.length := by omega
        obtain ⟨p, hp, h1, h2, hrest⟩ := loadEv (B := fun w11 => _) (((hs.ext hx).ext hx5).ext hx8) hjl zc37 fun w11 hb11 hx11 => by
          have hb' := hb.ext (hx8.trans hx11)
          show Join [(69, .bool)] (fun (b69 : Bool) (w12 : World) => cond b69 (((Value.bool false : Value) = .bool (decide (Valid h)) ∧ Ext w w12)) (K2 w12)) (fun J_5 =>
            ∃ x61 : Int, World.cell? w11 ⟨w8.heap.size, (0 + 0), none⟩ = some (.int .i64 x61) ∧ ∃ x63 : Int, World.cell? w11 ⟨w2.heap.size, (0 + 0), none⟩ = some (.int .i64 x63) ∧ cond (x61 == x63) (∃ x67 : Int, World.cell? w11 ⟨w8.heap.size, (0 + 1), none⟩ = some (.int .i64 x67) ∧ J_5 (decide (x67 > (1 : Int))) w11) (J_5 false w11))
          refine ⟨fun (b : Bool) w' => b = decide (¬ apart h[j] h[i]) ∧ w' = w11, ?_, ?_⟩
          · rintro b w12 ⟨rfl, rfl⟩
            refine cond_intro (fun hc => ?_) (fun hc => ?_)
            · have hc : ¬ apart h[j] h[i] := by simpa using hc
              refine ⟨?_, (hx.trans hx5).trans (hx8.trans hx11)⟩
              rw [decide_eq_false (hno fun h1 => hc ((hgo.1 h1).2 _ ?_))]
              exact List.mem_take_iff_getElem.2 ⟨j, by omega, rfl⟩
            · have hc : apart h[j] h[i] := by simpa using hc
              refine hK2 _ ⟨fun p hp => ?_, hx8.trans hx11⟩
              rw [List.take_succ_eq_append_getElem hjl] at hp
              rcases List.mem_append.1 hp with hp | hp
              · exact hap p hp
              · rw [List.mem_singleton.1 hp]; exact hc
          · refine ⟨_, hb11.cell 0, _, hb'.cell 0, cond_intro (fun hc => ?_) (fun hc => ?_)⟩
            · exact ⟨_, hb11.cell 1, by simp at hc; simp [apart, hc], rfl⟩
            · exact ⟨by simp at hc; simp [apart, hc], rfl⟩
        exact ⟨p, hp, h1, by omega, hrest⟩
      · rintro w8 ⟨hap, hx8⟩
        exact hK _ ⟨hgo.2 ⟨hok, by simpa using hap⟩, (hx.trans hx5).trans hx8⟩
    · have hbad : ¬ okOp h[i] → true = decide (¬ okOp h[i]) ∧ w5 = w5 := fun h1 => ⟨by simp [h1], rfl⟩
      refine ⟨_, hb.cell 0, cond_intro (fun hc => hbad fun h => ?_) (fun h1 => ?_)⟩
      · unfold okOp at h; simp at hc; omega
      refine ⟨_, hb.cell 0, cond_intro (fun hc => hbad fun h => ?_) (fun h2 => ?_)⟩
      · unfold okOp at h; simp at hc; omega
      refine ⟨_, hb.cell 1, cond_intro (fun hc => hbad fun h => ?_) (fun h3 => ?_)⟩
      · unfold okOp at h; simp at hc; omega
      refine ⟨_, hb.cell 1, cond_intro (fun hc => hbad fun h => ?_) (fun h4 => ?_)⟩
      · unfold okOp at h; simp at hc; omega
      refine ⟨_, hb.cell 2, cond_intro (fun hc => hbad fun h => ?_) (fun h5 => ?_)⟩
      · unfold okOp at h; simp at hc; omega
      refine ⟨_, hb.cell 2, cond_intro (fun hc => hbad fun h => ?_) (fun h6 => ?_)⟩
      · unfold okOp at h; simp at hc; omega
      refine ⟨_, hb.cell 1, cond_intro (fun h7 => ?_) (fun h7 => ?_)⟩
      · refine ⟨_, hb.cell 2, ?_, rfl⟩
        simp at h1 h2 h3 h4 h5 h6 h7
        by_cases h8 : h[i].i = 0
        · have : okOp h[i] := by unfold okOp; omega
          simp [h8, this]
        · have : ¬ okOp h[i] := by unfold okOp; omega
          simp [h8, this]
      · simp at h1 h2 h3 h4 h5 h6 h7
        have : okOp h[i] := by unfold okOp; omega
        exact ⟨by simp [this], rfl⟩
  · rintro w3 ⟨hw, hx⟩
    rw [hn, List.take_length] at hw
    refine ⟨?_, hx⟩
    rw [hn]
    congr 1
    apply decide_eq_decide.2
    unfold Valid
    constructor
    · intro h1; exact ⟨hw, by omega⟩
    · intro h1; have := h1.2; omega
end Go.Proofs.Ytnbkihkdfhjlmaa
