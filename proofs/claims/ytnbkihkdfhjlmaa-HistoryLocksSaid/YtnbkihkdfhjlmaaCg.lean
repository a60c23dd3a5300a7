/-
  Contracts: from which transaction each operation reads, in the program and in the reference.
-/
import Derived.Test.YtnbkihkdfhjlmaaCf
namespace Go.Proofs.Ytnbkihkdfhjlmaa
open Go Go.VC

def e0 : Ev := ⟨0, 0, 0⟩
/-- A write to the Item that is not undone ahead of i. -/
def good (h : List Ev) (it : Int) (i : Nat) (p : Ev) : Prop := p.k = 1 ∧ p.i = it ∧ ¬ (0 ≤ fin h 3 p.t ∧ fin h 3 p.t < i)
instance (h : List Ev) (it : Int) (i : Nat) (p : Ev) : Decidable (good h it i p) := by unfold good; infer_instance
/-- The last such write among the first j operations. -/
def srcUp (h : List Ev) (it : Int) (i : Nat) : Nat → Int
  | 0 => 0
  | j + 1 => if good h it i (h.getD j e0) then (h.getD j e0).t else srcUp h it i j
def frm1 (h : List Ev) (i : Nat) : Int := if (h.getD i e0).k = 0 then srcUp h (h.getD i e0).i i i else -1
def frm (h : List Ev) : List Int := (List.range h.length).map (frm1 h)
theorem getD_at {h : List Ev} {i : Nat} (hi : i < h.length) : h.getD i e0 = h[i] := by simp [List.getD, hi]
theorem frm1_read {h : List Ev} {i : Nat} (hi : i < h.length) (hk : h[i].k = 0) : frm1 h i = srcUp h h[i].i i i := by rw [frm1, getD_at hi, if_pos hk]
theorem frm1_not {h : List Ev} {i : Nat} (hi : i < h.length) (hk : ¬ h[i].k = 0) : frm1 h i = -1 := by rw [frm1, getD_at hi, if_neg hk]
theorem range_step (f : Nat → Int) (i : Nat) : (List.range (i + 1)).map f = (List.range i).map f ++ [f i] := by rw [List.range_succ, List.map_append]; rfl

theorem c55 {w : World} {s : Sl} {h : List Ev} (hs : Hs w s h) (hok : ∀ o ∈ h, okOp o) (hl : h.length ≤ 1000) :
    Calls Try.prog 55 [.slice s.a s.n s.c].toArray w fun e w' => ∃ s' : Sl, e = .returned (.slice s'.a s'.n s'.c) ∧ Own 3 1 eI w.heap.size w' s' (frm h) ∧ Ext w w' := by
  refine (call55 s (R := fun v w' => ∃ s' : Sl, v = .slice s'.a s'.n s'.c ∧ Own 3 1 eI w.heap.size w' s' (frm h) ∧ Ext w w') ?_).mono fun e w' ⟨v, he, s', hv, hx⟩ => ⟨s', by rw [he, hv], hx⟩
  have hn := hs.len
  have hbig : h.length ≤ big := by show h.length ≤ 9223372036854775807; omega
  refine (c54 hs 3 hbig).mono fun e w1 ⟨he, hm, hx1⟩ => ⟨_, he, ?_⟩
  have hmb := hm.ex
  refine Join.dir (rangeSI (fun i (s' : Sl) w' => Own 3 1 eI w1.heap.size w' s' ((List.range i).map (frm1 h)) ∧ Ext w1 w') (by rw [hn]; exact hbig) ⟨Own.nil .., Fr.refl _ _⟩ ?_ ?_)
  · rintro i hi s' w3 ⟨ho, hx⟩ K hK
    have hi : i < h.length := by omega
    have hlen : ((List.range i).map (frm1 h)).length ≤ 1000000 := by simp; omega
    -- an element more
    have hadd : ∀ (x : Int) (w6 : World), x = frm1 h i → Ext w3 w6 → ∃ (s1 : Sl) (w7 : World), (Instr.buildSlice 24 1 [(0, .int .i64 x)].toArray).run Try.prog w6 = .ok (.slice s1.a s1.n s1.c) w7 ∧
        ∃ (s2 : Sl) (w8 : World), (Builtin.append_ #[24, 24] 24 #[.slice s'.a s'.n s'.c, .slice s1.a s1.n s1.c]).run Try.prog w7 = .ok (.slice s2.a s2.n s2.c) w8 ∧ K s2 w8 := by
      intro x w6 hxe hx6
      subst hxe
      have ho6 := ho.ext hx6
      obtain ⟨s1, w9, e9, s2, w10, e10, ho2, hf⟩ := appendInt ho6 (frm1 h i) hlen (by have := (hx.trans hx6).size; omega)
      exact ⟨s1, w9, e9, s2, w10, e10, hK _ _ ⟨by rw [range_step]; exact ho2, Own.newer ho6 (hx.trans hx6) hf (Nat.le_refl _)⟩⟩
    refine loadEv ((hs.ext hx1).ext hx) hi zc38 fun w6 hb hx6 => ⟨_, hb.cell 1, cond_intro (fun hc => ?_) (fun hc => ?_)⟩
    · have hc : ¬ h[i].k = 0 := by simpa using hc
      exact hadd (-1) w6 (frm1_not hi hc).symm hx6
    · have hc : h[i].k = 0 := by simpa using hc
      refine ⟨fun (x : Int) w' => x = srcUp h h[i].i i i ∧ Ext w6 w', ?_, ?_⟩
      · rintro x w9 ⟨hxe, hx9⟩
        exact hadd x w9 (by rw [frm1_read hi hc]; exact hxe) (hx6.trans hx9)
      refine LoopV.intro (fun n (x7 x8 : Int) w' => x7 = 0 ∧ ∃ j : Nat, x8 = (j : Int) - 1 ∧ n = j ∧ j ≤ i ∧ srcUp h h[i].i i i = srcUp h h[i].i i j ∧ Ext w6 w') i ⟨rfl, i, by rw [wrap64 (by omega) (by omega)], rfl, Nat.le_refl _, rfl, Fr.refl _ _⟩ ?_
      rintro n x7 x8 w12 ⟨rfl, j, rfl, hnj, hj, hsr, hx12⟩
      refine cond_intro (fun hj0 => ?_) (fun hj0 => ?_)
      · obtain ⟨m, rfl⟩ : ∃ m, j = m + 1 := ⟨j - 1, by have : (0 : Int) ≤ (j : Int) - 1 := by simpa using hj0
                                                       omega⟩
        have hm1 : ((m + 1 : Nat) : Int) - 1 = (m : Int) := by omega
        rw [hm1]
        have hml : m < h.length := by omega
        have hokm := hok h[m] (List.getElem_mem hml)
        refine Join.dir (loadEv ((((hs.ext hx1).ext hx).ext hx6).ext hx12) hml zc38 fun w15 hb15 hx15 => ?_)
        have hm15 := hm.ext (hx.trans (hx6.trans (hx12.trans hx15)))
        have hlook : (Instr.lookup 103 (.map (some w.heap.size)) (.int .i64 h[m].t) false).run Try.prog w15 = .ok (.int .i64 (fin h 3 h[m].t)) w15 := by
          rw [hm15.look, if_pos (by unfold okOp at hokm; omega)]
        refine ⟨fun (b : Bool) w' => b = decide (0 ≤ fin h 3 h[m].t ∧ fin h 3 h[m].t < i) ∧ w' = w15, ?_, ?_⟩
        · rintro b w16 ⟨rfl, rfl⟩
          refine ⟨fun (b : Bool) w' => b = decide (good h h[i].i i h[m]) ∧ w' = w16, ?_, ?_⟩
          · rintro b w17 ⟨rfl, rfl⟩
            have hstep : srcUp h h[i].i i (m + 1) = if good h h[i].i i h[m] then h[m].t else srcUp h h[i].i i m := by rw [srcUp, getD_at hml]
            refine cond_intro (fun hg => ?_) (fun hg => ?_)
            · refine ⟨_, hb15.cell 0, ?_, hx12.trans hx15⟩
              rw [hsr, hstep, if_pos (by simpa using hg)]
            · refine ⟨m, by omega, rfl, m, ?_, rfl, by omega, ?_, hx12.trans hx15⟩
              · rw [wrap64 (by omega) (by omega)]
              · rw [hsr, hstep, if_neg (by simpa using hg)]
          · have hb6 := hb.ext (hx12.trans hx15)
            refine ⟨_, hb15.cell 1, cond_intro (fun h1 => ?_) (fun h1 => ?_)⟩
            · refine ⟨_, hb15.cell 2, _, hb6.cell 2, cond_intro (fun h2 => ?_) (fun h2 => ?_)⟩
              · refine ⟨?_, rfl⟩
                simp at h1 h2
                rw [← decide_not]
                apply decide_eq_decide.2
                unfold good
                exact ⟨fun h3 => ⟨h1, h2, h3⟩, fun h3 => h3.2.2⟩
              · refine ⟨?_, rfl⟩
                simp at h1 h2
                simp [good, h2]
            · refine ⟨?_, rfl⟩
              simp at h1
              simp [good, h1]
        · refine ⟨_, hb15.cell 0, _, hlook, cond_intro (fun h1 => ?_) (fun h1 => ?_)⟩
          · refine ⟨_, hb15.cell 0, _, hlook, ?_, rfl⟩
            simp at h1
            simp [h1]
          · refine ⟨?_, rfl⟩
            simp at h1
            rw [eq_comm, decide_eq_false_iff_not]; omega
      · have : j = 0 := by have : ¬ (0 : Int) ≤ (j : Int) - 1 := by simpa using hj0
                           omega
        subst this
        exact ⟨hsr.symm, hx12⟩
  · rintro s' w' ⟨ho, hx⟩
    rw [hn] at ho
    exact ⟨s', rfl, ho.mono hx1.size, hx1.trans hx⟩

theorem c92 {w : World} {s : Sl} {h : List Ev} (hs : Hs w s h) (hok : ∀ o ∈ h, okOp o) (hl : h.length ≤ 1000) :
    Calls Try.prog 92 [.slice s.a s.n s.c].toArray w fun e w' => ∃ s' : Sl, e = .returned (.slice s'.a s'.n s'.c) ∧ Own 3 1 eI w.heap.size w' s' (frm h) ∧ Ext w w' := by
  refine (call92 s (R := fun v w' => ∃ s' : Sl, v = .slice s'.a s'.n s'.c ∧ Own 3 1 eI w.heap.size w' s' (frm h) ∧ Ext w w') ?_).mono fun e w' ⟨v, he, s', hv, hx⟩ => ⟨s', by rw [he, hv], hx⟩
  have hn := hs.len
  have hcap := hs.cap
  have hbig : h.length ≤ big := by show h.length ≤ 9223372036854775807; omega
  refine Join.dir (rangeSI (fun i (s' : Sl) w' => Own 3 1 eI w.heap.size w' s' ((List.range i).map (frm1 h)) ∧ Ext w w') (by rw [hn]; exact hbig) ⟨Own.nil .., Fr.refl _ _⟩ ?_ ?_)
  · rintro i hi s' w3 ⟨ho, hx⟩ K hK
    have hi : i < h.length := by omega
    have hlen : ((List.range i).map (frm1 h)).length ≤ 1000000 := by simp; omega
    refine loadEv (hs.ext hx) hi zc37 fun w5 hb hx5 => ⟨_, hb.cell 1, ?_⟩
    refine ⟨fun (x : Int) w' => x = frm1 h i ∧ Ext w5 w', ?_, ?_⟩
    · rintro x w6 ⟨rfl, hx6⟩
      have ho6 := ho.ext (hx5.trans hx6)
      obtain ⟨s1, w9, e9, s2, w10, e10, ho2, hf⟩ := appendInt ho6 (frm1 h i) hlen (by have := (hx.trans (hx5.trans hx6)).size; omega)
      exact ⟨s1, w9, e9, s2, w10, e10, hK _ _ ⟨by rw [range_step]; exact ho2, Own.newer ho6 (hx.trans (hx5.trans hx6)) hf (Nat.le_refl _)⟩⟩
    refine cond_intro (fun hc => ?_) (fun hc => ?_)
    · have hc : h[i].k = 0 := by simpa using hc
      refine ⟨by omega, by omega, Join.dir (rangeKI (k := .int .i64) (fun j (x : Int) w' => x = srcUp h h[i].i i j ∧ Ext w5 w') ?_ ⟨rfl, Fr.refl _ _⟩ ?_ ?_)⟩
      · show Int.toNat (i : Int) ≤ 9223372036854775807; omega
      · rintro j hj x w10 ⟨hxe, hx10⟩ K2 hK2
        have hji : j < i := by omega
        have hjl : j < h.length := by omega
        have hokj := hok h[j] (List.getElem_mem hjl)
        have hstep : srcUp h h[i].i i (j + 1) = if good h h[i].i i h[j] then h[j].t else srcUp h h[i].i i j := by rw [srcUp, getD_at hjl]
        refine loadEvN (n := Int.toNat (i : Int)) (((hs.ext hx).ext hx5).ext hx10) hjl (by omega) zc37 fun w13 hb13 hx13 => ?_
        have hb' := hb.ext (hx10.trans hx13)
        have hx513 := hx10.trans hx13
        have hnot : ¬ (h[j].k = 1 ∧ h[j].i = h[i].i) → K2 x w13 := fun hng => hK2 _ _ ⟨by rw [hstep, if_neg (fun hg => hng ⟨hg.1, hg.2.1⟩)]; exact hxe, hx513⟩
        refine ⟨fun (b : Bool) w' => b = decide (h[j].k = 1 ∧ h[j].i = h[i].i) ∧ w' = w13, ?_, ?_⟩
        · rintro b w14 ⟨rfl, rfl⟩
          refine Join.dir (cond_intro (fun hg => ?_) (fun hg => ?_))
          · have hg : h[j].k = 1 ∧ h[j].i = h[i].i := by simpa using hg
            refine ⟨_, hb13.cell 0, (c68 ((((hs.ext hx).ext hx5).ext hx10).ext hx13) hok h[j].t 3 (by omega) hbig).mono fun e w16 ⟨he, hx16⟩ => ⟨_, he, ?_⟩⟩
            have hne : fin h 3 h[j].t ≠ (i : Int) := fun e => by
              have hm : (⟨h[j].t, 3, 0⟩ : Ev) ∈ h := ix_nonneg.1 (by show 0 ≤ fin h 3 h[j].t; omega)
              obtain ⟨i', h1, h2, _⟩ := ix_mem hm
              have : i' = i := by have : fin h 3 h[j].t = i' := h1
                                  omega
              subst this
              rw [List.getElem?_eq_getElem hi] at h2
              have := Option.some.inj h2
              rw [this] at hc
              simp at hc
            refine ⟨fun (b : Bool) w' => b = decide (good h h[i].i i h[j]) ∧ w' = w16, ?_, ?_⟩
            · rintro b w17 ⟨rfl, rfl⟩
              refine Join.dir (cond_intro (fun hg2 => ?_) (fun hg2 => ?_))
              · refine ⟨_, (hb13.ext hx16).cell 0, hK2 _ _ ⟨?_, hx513.trans hx16⟩⟩
                rw [hstep, if_pos (by simpa using hg2)]
              · refine hK2 _ _ ⟨?_, hx513.trans hx16⟩
                rw [hstep, if_neg (by simpa using hg2)]; exact hxe
            · refine cond_intro (fun h1 => ?_) (fun h1 => ?_)
              · refine ⟨?_, rfl⟩
                simp at h1
                have : good h h[i].i i h[j] := ⟨hg.1, hg.2, by omega⟩
                simp [this]
              · refine ⟨?_, rfl⟩
                simp at h1
                apply decide_eq_decide.2
                unfold good
                constructor
                · intro h2; exact ⟨hg.1, hg.2, by omega⟩
                · intro h2; have := h2.2.2; omega
          · exact hnot (by simpa using hg)
        · refine ⟨_, hb13.cell 1, cond_intro (fun h1 => ?_) (fun h1 => ?_)⟩
          · refine ⟨_, hb13.cell 2, _, hb'.cell 2, ?_, rfl⟩
            simp at h1
            by_cases h2 : h[j].i = h[i].i <;> simp [h1, h2]
          · refine ⟨?_, rfl⟩
            simp at h1
            simp [h1]
      · rintro x w10 ⟨hxe, hx10⟩
        have hxe : x = srcUp h h[i].i i i := by simpa using hxe
        exact ⟨by rw [frm1_read hi hc]; exact hxe, hx10⟩
    · have hc : ¬ h[i].k = 0 := by simpa using hc
      exact ⟨(frm1_not hi hc).symm, Fr.refl _ _⟩
  · rintro s' w' ⟨ho, hx⟩
    rw [hn] at ho
    exact ⟨s', rfl, ho, hx⟩
end Go.Proofs.Ytnbkihkdfhjlmaa
