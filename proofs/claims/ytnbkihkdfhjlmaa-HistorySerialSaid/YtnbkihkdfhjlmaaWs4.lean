/-
  Texts Ci, Cj, Ck, Cl, Cm, Vt, Cn, Co, Da, Ea, Eb of this proof, joined.
-/
import Derived.Test.YtnbkihkdfhjlmaaWs3
import Derived.Lib.SliceRun
/-
  Contracts: views that are the same, in the program and in the reference.
-/
namespace Go.Proofs.Ytnbkihkdfhjlmaa
open Go Go.VC
set_option maxHeartbeats 400000

theorem A63 : IntArr Try.prog 63 3 6 := ⟨by kernel_rfl, by kernel_rfl, by kernel_rfl, by kernel_rfl⟩
/-- Two histories whose views are the same. -/
def SameV (h h' : List Ev) : Prop := (∀ t, 1 ≤ t → t ≤ 6 → reads h t = reads h' t) ∧ lasts h = lasts h'
theorem lasts_len (h : List Ev) : (lasts h).length = 6 := rfl

theorem c39 {w : World} {m m' : Option Nat} {a b c d e f a' b' c' d' e' f' : Int} {h h' : List Ev} (v : ViewV w m [a, b, c, d, e, f] h) (v' : ViewV w m' [a', b', c', d', e', f'] h') (hl : h.length ≤ 1000) :
    Calls Try.prog 39 [.agg [.map m, .int .i64 a, .int .i64 b, .int .i64 c, .int .i64 d, .int .i64 e, .int .i64 f].toArray, .agg [.map m', .int .i64 a', .int .i64 b', .int .i64 c', .int .i64 d', .int .i64 e', .int .i64 f'].toArray].toArray w
      fun ee w' => ∃ r : Bool, ee = .returned (.bool r) ∧ (r = true ↔ SameV h h') ∧ Ext w w' := by
  refine (call39 m a b c d e f m' a' b' c' d' e' f' (R := fun v w' => ∃ r : Bool, v = (.bool r) ∧ (r = true ↔ SameV h h') ∧ Ext w w') ?_).mono fun ee w' ⟨v, he, r, hv, hx⟩ => ⟨r, by rw [he, hv], hx⟩
  refine Let.intro fun w1 e1 => Let.intro fun w2 e2 => ?_
  have hx1 : Ext w w1 := by rw [e1]; exact Ext.alloc ..
  have hx2 : Ext w1 w2 := by rw [e2]; exact Ext.alloc ..
  have hb1 : Blk w1 w.heap.size [.map m, .int .i64 a, .int .i64 b, .int .i64 c, .int .i64 d, .int .i64 e, .int .i64 f] 65 := by rw [e1]; exact Blk.alloc ..
  have hb2 : Blk w2 w1.heap.size [.map m', .int .i64 a', .int .i64 b', .int .i64 c', .int .i64 d', .int .i64 e', .int .i64 f'] 65 := by rw [e2]; exact Blk.alloc ..
  have hrl : ∀ t, (reads h t).length ≤ 1000 := fun t => by
    unfold reads rds
    rw [List.length_map]
    refine Nat.le_trans (List.length_filter_le ..) ?_
    simpa using hl
  refine Join.dir (LoopV.intro (fun n (x : Int) w' => 1 ≤ x ∧ x ≤ 7 ∧ (n : Int) = 7 - x ∧ (∀ t, 1 ≤ t → t < x → reads h t = reads h' t) ∧ Ext w2 w') 6 ⟨by omega, by omega, by omega, fun t h1 h2 => by omega, Fr.refl _ _⟩ ?_)
  rintro n (x : Int) w4 ⟨h1, h2, hn, hall, hx4⟩
  have hx04 : Ext w w4 := (hx1.trans hx2).trans hx4
  refine cond_intro (fun hc => ?_) (fun hc => ?_)
  · have hc : x ≤ 6 := by simpa using hc
    obtain ⟨bb, l, cc, rfl, hm, hr⟩ := (v.ext hx04).ex
    obtain ⟨bb', l', cc', rfl, hm', hr'⟩ := (v'.ext hx04).ex
    refine Join.dir ⟨_, (hb1.ext (hx2.trans hx4)).cell 0, sAt l x, lookS hm x, _, (hb2.ext hx4).cell 0, sAt l' x, lookS hm' x, ?_⟩
    refine (c16 (hr x) (hr' x) (Nat.le_trans (hrl x) (by decide))).mono fun ee w6 ⟨he, hx6⟩ => ⟨_, he, cond_intro (fun hq => ?_) (fun hq => ?_)⟩
    · refine ⟨false, rfl, ⟨fun h => (by cases h), fun hs => ?_⟩, hx04.trans hx6⟩
      have := hs.1 x h1 hc
      simp [this] at hq
    · have hq : reads h x = reads h' x := by simpa using hq
      refine ⟨(6 - x).toNat, by omega, ?_⟩
      rw [wrap64 (by omega) (by omega)]
      refine ⟨by omega, by omega, by omega, fun t h3 h4 => ?_, hx4.trans hx6⟩
      by_cases e : t = x
      · subst e; exact hq
      · exact hall t h3 (by omega)
  · have hc : x = 7 := by have : ¬ x ≤ 6 := by simpa using hc
                          omega
    subst hc
    have h3 := v.last
    have h4 := v'.last
    have hq := aggEq_ints A63 (xs := lasts h) (ys := lasts h') rfl rfl
    refine ⟨(lasts h).map (Value.int .i64), rfl, ?_, (lasts h').map (Value.int .i64), rfl, ?_, decide (lasts h = lasts h'), hq, decide (lasts h = lasts h'), rfl, ?_, hx04⟩
    · rw [← h3]; exact ((hb1.ext (hx2.trans hx4)).rd).2
    · rw [← h4]; exact ((hb2.ext hx4).rd).2
    · rw [decide_eq_true_iff]
      exact ⟨fun h5 => ⟨fun t h6 h7 => hall t h6 (by omega), h5⟩, fun h5 => h5.2⟩

/-- The reference's view. -/
def six : List Int := [1, 2, 3, 4, 5, 6]
def viewL (h : List Ev) : List Int := six.flatMap (reads h) ++ lasts h
theorem zc63 : zc Try.prog 63 = [.int .i64 0, .int .i64 0, .int .i64 0, .int .i64 0, .int .i64 0, .int .i64 0].toArray := by kernel_rfl
theorem six_at {i : Nat} (hi : i < six.length) : six[i] = (i : Int) + 1 := by
  have : ∀ i : Fin 6, six[i.1]'(by simp [six]) = (i.1 : Int) + 1 := by decide
  exact this ⟨i, by simpa [six] using hi⟩
theorem flat_len {h : List Ev} (hr : ∀ t n, (rds h t n).length ≤ n) : ∀ l : List Int, (l.flatMap (reads h)).length ≤ l.length * h.length
  | [] => by simp
  | t :: r => by
    have := flat_len hr r
    have h2 : (reads h t).length ≤ h.length := hr t _
    rw [List.flatMap_cons, List.length_append, List.length_cons, Nat.add_mul]; omega
theorem rds_len (h : List Ev) (t : Int) (n : Nat) : (rds h t n).length ≤ n := by
  unfold rds
  rw [List.length_map]
  refine Nat.le_trans (List.length_filter_le ..) ?_
  simp

theorem c69 {w : World} {s : Sl} {h : List Ev} (hs : Hs w s h) (hok : ∀ o ∈ h, okOp o) (hl : h.length ≤ 1000) :
    Calls Try.prog 69 [.slice s.a s.n s.c].toArray w fun e w' => ∃ s' : Sl, e = .returned (.slice s'.a s'.n s'.c) ∧ Own 3 1 eI w.heap.size w' s' (viewL h) ∧ Ext w w' := by
  refine (call69 s (R := fun v w' => ∃ s' : Sl, v = .slice s'.a s'.n s'.c ∧ Own 3 1 eI w.heap.size w' s' (viewL h) ∧ Ext w w') ?_).mono fun e w' ⟨v, he, s', hv, hx⟩ => ⟨s', by rw [he, hv], hx⟩
  have hn := hs.len
  have hbig : h.length ≤ big := by show h.length ≤ 9223372036854775807; omega
  refine (c92 hs hok hl).mono fun e w1 ⟨s12, he, ho12, hx1⟩ => ⟨s12, he, ?_⟩
  have hn12 : s12.n = h.length := by have := ho12.1; simpa [frm] using this
  refine Join.dir (LoopV.intro (fun n (s' : Sl) (x : Int) w' => ∃ i : Nat, x = (i : Int) + 1 ∧ i ≤ 6 ∧ n = 6 - i ∧ Own 3 1 eI w1.heap.size w' s' ((six.take i).flatMap (reads h)) ∧ Ext w1 w') 6
    ⟨0, rfl, by omega, by omega, Own.nil .., Fr.refl _ _⟩ ?_)
  rintro n s4 x w12 ⟨i, rfl, hi, rfl, ho, hx⟩
  refine cond_intro (fun hc => ?_) (fun hc => ?_)
  · have hi6 : i < 6 := by have : (i : Int) + 1 ≤ 6 := by simpa using hc
                           omega
    have hil : i < six.length := by simpa [six] using hi6
    refine Join.dir (Join.dir (rangeSI (fun j (s' : Sl) w' => Own 3 1 eI w1.heap.size w' s' ((six.take i).flatMap (reads h) ++ rds h ((i : Int) + 1) j) ∧ Ext w1 w') (by rw [hn]; exact hbig) ⟨by simpa [rds] using ho, hx⟩ ?_ ?_))
    · rintro j hj s5 w15 ⟨ho5, hx5⟩ K hK
      have hj : j < h.length := by omega
      refine loadEv ((hs.ext hx1).ext hx5) hj zc37 fun w18 hb hx18 => ?_
      have ho18 := ho5.ext hx18
      refine ⟨fun (b : Bool) w' => b = decide (h[j].t = (i : Int) + 1 ∧ h[j].k = 0) ∧ w' = w18, ?_, ?_⟩
      · rintro b w19 ⟨rfl, rfl⟩
        refine Join.dir (cond_intro (fun hg => ?_) (fun hg => ?_))
        · have hg : h[j].t = (i : Int) + 1 ∧ h[j].k = 0 := by simpa using hg
          have hj9 : j < (frm h).length := by simp [frm]; exact hj
          obtain ⟨p, hp, h1, h2, hr⟩ := Ints.at ((ho12.sli.ext hx5).ext hx18) hj9
          rw [show (frm h)[j] = frm1 h j from by simp [frm]] at hr
          have hlen : ((six.take i).flatMap (reads h) ++ rds h ((i : Int) + 1) j).length ≤ 1000000 := by
            rw [List.length_append]
            have h1 := flat_len (rds_len h) (six.take i)
            have h2 := rds_len h ((i : Int) + 1) j
            have h3 : (six.take i).length * h.length ≤ 6 * 1000 := Nat.mul_le_mul (by simp; omega) hl
            omega
          obtain ⟨s1, w9, e9, s2, w10, e10, ho2, hf⟩ := appendInt ho18 (frm1 h j) hlen (by have := (hx5.trans hx18).size; omega)
          refine ⟨p, hp, h1, h2, _, hr, s1, w9, e9, s2, w10, e10, hK _ _ ⟨?_, Own.newer ho18 (hx5.trans hx18) hf (Nat.le_refl _)⟩⟩
          rw [rds_step hj, if_pos hg, ← List.append_assoc]; exact ho2
        · have hg : ¬ (h[j].t = (i : Int) + 1 ∧ h[j].k = 0) := by simpa using hg
          refine hK _ _ ⟨?_, hx5.trans hx18⟩
          rw [rds_step hj, if_neg hg, List.append_nil]; exact ho18
      · refine ⟨_, hb.cell 0, cond_intro (fun hg => ?_) (fun hg => ?_)⟩
        · refine ⟨_, hb.cell 1, ?_, rfl⟩
          simp at hg
          by_cases h2 : h[j].k = 0 <;> simp [hg, h2]
        · refine ⟨?_, rfl⟩
          simp at hg
          simp [hg]
    · rintro s5 w15 ⟨ho5, hx5⟩
      rw [hn] at ho5
      refine ⟨6 - (i + 1), by omega, i + 1, by rw [wrap64 (by omega) (by omega)]; rfl, by omega, rfl, ?_, hx5⟩
      rw [List.take_succ_eq_append_getElem hil, List.flatMap_append, six_at hil]
      simpa [reads] using ho5
  · have : i = 6 := by have : ¬ (i : Int) + 1 ≤ 6 := by simpa using hc
                       omega
    subst this
    refine Let.intro fun w3 e3 => ?_
    have hb3 : Blk w3 w12.heap.size ((lastsAt h 0).map (Value.int .i64)) 63 := by rw [e3, zc63]; exact Blk.alloc w12 _ 63
    have hx3 : Ext w12 w3 := by rw [e3]; exact Ext.alloc ..
    refine Join.dir (rangeI (fun j w' => Blk w' w12.heap.size ((lastsAt h j).map (Value.int .i64)) 63 ∧ Ext w12 w') (by rw [hn]; exact hbig) ⟨hb3, hx3⟩ ?_ ?_)
    · rintro j hj w6 ⟨hb6, hx6⟩ K hK
      have hj : j < h.length := by omega
      have hokj := hok h[j] (List.getElem_mem hj)
      refine loadEv ((hs.ext hx1).ext (hx.trans hx6)) hj zc37 fun w9 hb hx9 => ⟨_, hb.cell 1, Join.dir (cond_intro (fun hg => ?_) (fun hg => ?_))⟩
      · have hg : h[j].k = 1 := by simpa using hg
        have hio : 0 ≤ h[j].i ∧ h[j].i ≤ 5 := by unfold okOp at hokj; omega
        have hb9 := hb6.ext hx9
        refine ⟨_, hb.cell 2, _, hb.cell 0, hio.1, by omega, hb9.storeOk rfl (by simp [Value.oneCell']) (by simp [lastsAt]; omega), Let.intro fun w11 e11 => ?_⟩
        have hb11 := hb9.put (o := 0 + Int.toNat h[j].i * 1) (vs := [.int .i64 h[j].t])
        have hf11 : Fr (fun b => b = w12.heap.size) w9 w11 := by rw [e11]; exact Fr.put ..
        refine hK _ ⟨?_, (hx6.trans hx9).newer hf11 fun b hb => by omega⟩
        rw [e11, lastsAt_step hj hg hio.1 hio.2]
        have : setR ((lastsAt h j).map (Value.int .i64)) (0 + Int.toNat h[j].i * 1) [.int .i64 h[j].t] = ((lastsAt h j).set h[j].i.toNat h[j].t).map (Value.int .i64) := by
          rw [setR, setR, show 0 + Int.toNat h[j].i * 1 = Int.toNat h[j].i from by omega, List.map_set]
        rw [← this]; exact hb11
      · have hg : ¬ h[j].k = 1 := by simpa using hg
        exact hK _ ⟨by rw [lastsAt_not hj hg]; exact hb6.ext hx9, hx6.trans hx9⟩
    · rintro w4 ⟨hb4, hx4⟩
      rw [hn] at hb4
      have ho4 := ho.ext hx4
      have hsl : Sli 1 eI w4 ⟨some ⟨w12.heap.size, 0, none⟩, 6, 6⟩ (lasts h) := ⟨rfl, Nat.le_refl _, fun _ => ⟨⟨w12.heap.size, 0⟩, rfl, by rw [eI_flat]; exact hb4.rd⟩⟩
      have hlen : ((six.take 6).flatMap (reads h)).length ≤ 6000 := by
        have h1 := flat_len (rds_len h) (six.take 6)
        have h3 : (six.take 6).length * h.length ≤ 6 * 1000 := Nat.mul_le_mul (by simp [six]) hl
        omega
      have hl6 : (lasts h).length = 6 := rfl
      obtain ⟨s58, w5, e5, ho5, hf5⟩ := appendSli E24 ho4 hsl eI_len eI_one (by omega) (by simp only [maxLen]; omega) (by have := (hx.trans hx4).size; omega) 24
      exact ⟨s58, w5, e5, s58, rfl, ho5.mono hx1.size, hx1.trans (Own.newer ho4 (hx.trans hx4) hf5 (Nat.le_refl _))⟩

theorem c42 {w : World} {s s' : Sl} {h : List Ev} {order : List Int} (hs : Hs w s h) (hs' : Ints w s' order) (hok : ∀ o ∈ h, okOp o) (hl : h.length ≤ 100) (hl' : order.length ≤ 6) (hlen : (viewL (part h)).length = (viewL (serial h order)).length) :
    Calls Try.prog 42 [.slice s.a s.n s.c, .slice s'.a s'.n s'.c].toArray w fun e w' => ∃ r : Bool, e = .returned (.bool r) ∧ (r = true ↔ viewL (part h) = viewL (serial h order)) ∧ Ext w w' := by
  refine (call42 s s' (R := fun v w' => ∃ r : Bool, v = .bool r ∧ (r = true ↔ viewL (part h) = viewL (serial h order)) ∧ Ext w w') ?_).mono fun e w' ⟨v, he, s', hv, hx⟩ => ⟨s', by rw [he, hv], hx⟩
  have hokp : ∀ o ∈ part h, okOp o := fun o ho => hok o (List.mem_filter.1 ho).1
  have hoks : ∀ o ∈ serial h order, okOp o := fun o ho => by
    obtain ⟨t, _, h2⟩ := List.mem_flatMap.1 ho
    exact hok o (List.mem_filter.1 h2).1
  have hlp : (part h).length ≤ 1000 := Nat.le_trans (List.length_filter_le ..) (by omega)
  have hls : (serial h order).length ≤ 1000 := by
    have h1 := serial_len h order
    have h3 : order.length * h.length ≤ 6 * 100 := Nat.mul_le_mul hl' hl
    omega
  have hvl : ∀ h : List Ev, h.length ≤ 1000 → (viewL h).length ≤ 6006 := fun h hl => by
    unfold viewL
    have h1 := flat_len (rds_len h) six
    have h3 : six.length * h.length ≤ 6 * 1000 := Nat.mul_le_mul (by simp [six]) hl
    rw [List.length_append]
    have : (lasts h).length = 6 := rfl
    omega
  refine (c70 hs hok (by omega)).mono fun e w1 ⟨s10, he, ho10, hx1⟩ => ⟨s10, he, ?_⟩
  refine (c69 ho10.sli hokp hlp).mono fun e w2 ⟨s11, he, ho11, hx2⟩ => ⟨s11, he, ?_⟩
  refine (c71 ((hs.ext hx1).ext hx2) ((hs'.ext hx1).ext hx2) (by omega) (by omega)).mono fun e w3 ⟨s14, he, ho14, hx3⟩ => ⟨s14, he, ?_⟩
  refine (c69 ho14.sli hoks hls).mono fun e w4 ⟨s15, he, ho15, hx4⟩ => ⟨s15, he, ?_⟩
  have hx : Ext w w4 := ((hx1.trans hx2).trans hx3).trans hx4
  have ha := ho11.sli.ext (hx3.trans hx4)
  have hna := ha.len
  refine Join.dir (rangeI (fun i w' => (viewL (part h)).take i = (viewL (serial h order)).take i ∧ Ext w4 w') (by rw [hna]; exact Nat.le_trans (hvl _ hlp) (by decide)) ⟨by simp, Fr.refl _ _⟩ ?_ ?_)
  · rintro i hi w6 ⟨heq, hx6⟩ K hK
    have hi1 : i < (viewL (part h)).length := by omega
    have hi2 : i < (viewL (serial h order)).length := by omega
    obtain ⟨p, hp, h1, h2, hr⟩ := Ints.at (ha.ext hx6) hi1
    obtain ⟨p', hp', h1', h2', hr'⟩ := Ints.at (ho15.sli.ext hx6) hi2
    refine ⟨p, hp, h1, h2, _, hr, p', hp', h1', h2', _, hr', cond_intro (fun hc => ?_) (fun hc => ?_)⟩
    · have hc : ¬ (viewL (serial h order))[i] = (viewL (part h))[i] := by simpa using hc
      refine ⟨false, rfl, ⟨fun h => (by cases h), fun h => ?_⟩, hx.trans hx6⟩
      exact absurd (by simp [h]) hc
    · have hc : (viewL (serial h order))[i] = (viewL (part h))[i] := by simpa using hc
      refine hK _ ⟨?_, hx6⟩
      rw [List.take_succ_eq_append_getElem hi1, List.take_succ_eq_append_getElem hi2, heq, hc]
  · rintro w6 ⟨heq, hx6⟩
    rw [hna, List.take_length, hlen, List.take_length] at heq
    exact ⟨true, rfl, by simp [heq], hx.trans hx6⟩
end Go.Proofs.Ytnbkihkdfhjlmaa
/-
  Contracts: all orders of the transactions, in the reference.
-/
namespace Go.Proofs.Ytnbkihkdfhjlmaa
open Go Go.VC
set_option maxHeartbeats 400000

/-- All orders of a list. -/
def permsN : Nat → List Int → List (List Int)
  | 0, _ => [[]]
  | n + 1, l => (List.range l.length).flatMap fun i => (permsN n (l.eraseIdx i)).map fun p => l.getD i 0 :: p
theorem flatMap_le {α β : Type} {f : α → List β} {K : Nat} : ∀ {l : List α}, (∀ x ∈ l, (f x).length ≤ K) → (l.flatMap f).length ≤ l.length * K
  | [], _ => by simp
  | x :: r, h => by
    have h1 := h x (by simp)
    have h2 := flatMap_le (l := r) fun y hy => h y (by simp [hy])
    rw [List.flatMap_cons, List.length_append, List.length_cons, Nat.add_mul]; omega
theorem permsN_le : ∀ (n : Nat) (l : List Int), n ≤ 6 → l.length = n → (permsN n l).length ≤ 6 ^ n
  | 0, _, _, _ => by simp [permsN]
  | n + 1, l, hn, hl => by
    have := flatMap_le (l := List.range l.length) (f := fun i => (permsN n (l.eraseIdx i)).map fun p => l.getD i 0 :: p) (K := 6 ^ n) fun i hi => by
      rw [List.length_map]
      exact permsN_le n _ (by omega) (by rw [List.length_eraseIdx]; simp at hi; rw [if_pos hi]; omega)
    unfold permsN
    refine Nat.le_trans this ?_
    rw [List.length_range, hl, Nat.pow_succ, Nat.mul_comm]
    exact Nat.mul_le_mul_left _ hn
theorem permsN_len : ∀ (n : Nat) (l : List Int), l.length = n → ∀ p ∈ permsN n l, p.length = n
  | 0, _, _, p, hp => by simp [permsN] at hp; subst hp; rfl
  | n + 1, l, hl, p, hp => by
    unfold permsN at hp
    obtain ⟨i, hi, h⟩ := List.mem_flatMap.1 hp
    obtain ⟨q, hq, rfl⟩ := List.mem_map.1 h
    simp at hi
    have := permsN_len n _ (by rw [List.length_eraseIdx, if_pos hi]; omega) q hq
    simp [this]

def eS (s : Sl) : List Value := [.slice s.a s.n s.c]
theorem eS_len (s : Sl) : (eS s).length = 1 := rfl
theorem eS_one (s : Sl) : ∀ v ∈ eS s, v.oneCell' = true := by intro v hv; simp [eS] at hv; subst hv; rfl
theorem E70 : Elem Try.prog 70 24 1 24 := Elem.of (by kernel_rfl) (by kernel_rfl) (by decide)
/-- A slice of slices of ints, all from block B on. -/
structure LL (B : Nat) (w : World) (s : Sl) (ll : List (List Int)) : Prop where
  ex : ∃ ss : List Sl, Own 24 1 eS B w s ss ∧ ss.length = ll.length ∧ ∀ p ∈ ss.zip ll, Ints w p.1 p.2 ∧ ∀ a, p.1.a = some a → B ≤ a.block ∧ a.block < w.heap.size ∧ ∀ b, s.a = some b → a.block ≠ b.block
theorem LL.fr {B : Nat} {w w' : World} {s : Sl} {ll : List (List Int)} {M : Nat → Prop} (h : LL B w s ll) (f : Fr M w w') (hn : ∀ i, B ≤ i → i < w.heap.size → ¬ M i) : LL B w' s ll := by
  obtain ⟨ss, ho, hl, h⟩ := h.ex
  refine ⟨ss, ho.fr f fun a ha => hn _ (ho.base ha).1 (ho.base ha).2, hl, fun p hp => ?_⟩
  obtain ⟨h1, h2⟩ := h p hp
  exact ⟨h1.fr f fun a ha => hn _ (h2 a ha).1 (h2 a ha).2.1, fun a ha => ⟨(h2 a ha).1, Nat.lt_of_lt_of_le (h2 a ha).2.1 f.size, (h2 a ha).2.2⟩⟩
theorem LL.ext {B : Nat} {w w' : World} {s : Sl} {ll : List (List Int)} (h : LL B w s ll) (f : Ext w w') : LL B w' s ll := h.fr f fun _ _ _ h => h
theorem LL.len {B : Nat} {w : World} {s : Sl} {ll : List (List Int)} (h : LL B w s ll) : s.n = ll.length := by obtain ⟨ss, ho, hl, _⟩ := h.ex; rw [ho.1, hl]
theorem LL.at {B : Nat} {w : World} {s : Sl} {ll : List (List Int)} (h : LL B w s ll) {j : Nat} (hj : j < ll.length) :
    ∃ (p : Pt) (x : Sl), s.a = some ⟨p.b, p.o, none⟩ ∧ 0 ≤ (j : Int) ∧ (j : Int) < ((s.n : Nat) : Int) ∧ w.cell? ⟨p.b, p.o + Int.toNat (j : Int) * 1, none⟩ = some (.slice x.a x.n x.c) ∧ Ints w x ll[j] := by
  obtain ⟨ss, ho, hl, h⟩ := h.ex
  have hj' : j < ss.length := by omega
  obtain ⟨p, hp, h1, h2, hr⟩ := Sli.at eS_len ho.sli hj'
  refine ⟨p, ss[j], hp, h1, h2, hr.1, (h (ss[j], ll[j]) ?_).1⟩
  refine List.mem_iff_getElem.2 ⟨j, by simp; omega, ?_⟩
  rw [List.getElem_zip]

theorem c40 : ∀ (n : Nat) (l : List Int) (w : World) (s : Sl), n ≤ 6 → l.length = n → Ints w s l →
    Calls Try.prog 40 [.slice s.a s.n s.c].toArray w fun e w' => ∃ s' : Sl, e = .returned (.slice s'.a s'.n s'.c) ∧ LL w.heap.size w' s' (permsN n l) ∧ Ext w w' := by
  intro n
  induction n with
  | zero =>
    intro l w s _ hl hs
    refine (call40 s (R := fun v w' => ∃ s' : Sl, v = (.slice s'.a s'.n s'.c) ∧ LL w.heap.size w' s' (permsN 0 l) ∧ Ext w w') ?_).mono fun e w' ⟨v, he, s', hv, hx⟩ => ⟨s', by rw [he, hv], hx⟩
    refine cond_intro (fun hc => ?_) (fun hc => ?_)
    · refine ⟨⟨some ⟨w.heap.size, 0, none⟩, 1, 1⟩, _, buildOne_run E70 (v := .slice none 0 0) (vs := eS nilS) rfl rfl (by omega) w, _, rfl, ⟨[nilS], Own.one w nilS rfl, rfl, ?_⟩, Ext.alloc ..⟩
      intro p hp
      simp [permsN] at hp
      subst hp
      exact ⟨Sli.nil .., fun a ha => by simp [nilS] at ha⟩
    · have := hs.len; simp [this, hl] at hc
  | succ n ih =>
    intro l w s hn6 hl hs
    refine (call40 s (R := fun v w' => ∃ s' : Sl, v = (.slice s'.a s'.n s'.c) ∧ LL w.heap.size w' s' (permsN (n + 1) l) ∧ Ext w w') ?_).mono fun e w' ⟨v, he, s', hv, hx⟩ => ⟨s', by rw [he, hv], hx⟩
    have hn := hs.len
    have hcap := hs.cap
    refine cond_intro (fun hc => ?_) (fun _ => ?_)
    · simp [hn, hl] at hc; omega
    have hrest : ∀ i, i < l.length → (l.eraseIdx i).length = n := fun i hi => by rw [List.length_eraseIdx, if_pos hi]; omega
    refine Join.dir (rangeSI (fun i (s' : Sl) w' => LL w.heap.size w' s' ((List.range i).flatMap fun i => (permsN n (l.eraseIdx i)).map fun p => l.getD i 0 :: p) ∧ Ext w w') (by rw [hn, hl]; exact Nat.le_trans hn6 (by decide))
      ⟨⟨[], Own.nil .., rfl, by simp⟩, Fr.refl _ _⟩ ?_ ?_)
    · rintro i hi s3 w3 ⟨hLL, hx⟩ K hK
      have hi : i < l.length := by omega
      obtain ⟨p, hp, h1, h2, hr⟩ := Ints.at (hs.ext hx) hi
      refine ⟨p, hp, h1, h2, _, hr, Let.intro fun w5 e5 => ?_⟩
      have hx5 : Ext w3 w5 := by rw [e5]; exact Ext.drew _
      have hwr : IntKind.wrap .i64 ((i : Int) + 1) = ((i + 1 : Nat) : Int) := by rw [wrap64 (by omega) (by omega)]; rfl
      rw [hwr]
      refine ⟨h1, by omega, by omega, by omega, ⟨some ⟨w5.heap.size, 0, none⟩, 0, 0⟩, _, buildNone_run E24 w5, ?_⟩
      have hx6 := Ext.alloc w5 (.cells #[] 3)
      have hs6 := ((hs.ext hx).ext hx5).ext hx6
      have ho6 : Own 3 1 eI w5.heap.size (w5.alloc (.cells #[] 3)) ⟨some ⟨w5.heap.size, 0, none⟩, 0, 0⟩ ([] : List Int) := Own.empty w5
      have ht6 : Sli 1 eI _ ⟨s.a, i, s.c⟩ (l.take i) := hs6.take (by omega)
      obtain ⟨s24, w7, e7, ho7, hf7⟩ := appendSli E24 ho6 ht6 eI_len eI_one (by simp; omega) (by simp [maxLen]; omega) hx6.size 24
      have hx7 : Ext w5 w7 := Own.newer ho6 hx6 hf7 (Nat.le_refl _)
      refine ⟨s24, w7, e7, ?_⟩
      have hd7 : Sli 1 eI w7 ⟨subA s.a s.c (i + 1) 1, s.n - (i + 1), s.c - (i + 1)⟩ (l.drop (i + 1)) := (((hs.ext hx).ext hx5).ext hx7).drop eI_len (by omega)
      obtain ⟨s29, w8, e8, ho8, hf8⟩ := appendSli E24 ho7 hd7 eI_len eI_one (by simp; omega) (by simp [maxLen]; omega) hx7.size 24
      have hx8 : Ext w5 w8 := Own.newer ho7 hx7 hf8 (Nat.le_refl _)
      refine ⟨s29, w8, e8, ?_⟩
      have hl8 : ([] ++ l.take i) ++ l.drop (i + 1) = l.eraseIdx i := by rw [List.eraseIdx_eq_take_drop_succ]; rfl
      rw [hl8] at ho8
      have hx08 : Ext w w8 := (hx.trans hx5).trans hx8
      refine (ih (l.eraseIdx i) w8 s29 (by omega) (hrest i hi) ho8.sli).mono fun e w9 ⟨s31, he, hL31, hx9⟩ => ⟨s31, he, ?_⟩
      have hn31 := hL31.len
      have hpl := permsN_le n (l.eraseIdx i) (by omega) (hrest i hi)
      have hp6 : 6 ^ n ≤ 6 ^ 5 := Nat.pow_le_pow_right (by omega) (by omega)
      have hb3 : ∀ a, s3.a = some a → a.block < w3.heap.size := fun a ha => by obtain ⟨ss, ho, _⟩ := hLL.ex; exact (ho.base ha).2
      have z5 := hx5.size
      have z8 := hx8.size
      have z9 := hx9.size
      have z3 := hx.size
      have hprev : ((List.range i).flatMap fun i => (permsN n (l.eraseIdx i)).map fun p => l.getD i 0 :: p).length ≤ 6 * 6 ^ 5 := by
        refine Nat.le_trans (flatMap_le (K := 6 ^ 5) fun j hj => ?_) ?_
        · rw [List.length_map]
          have hjl : j < l.length := by simp at hj; omega
          exact Nat.le_trans (permsN_le n _ (by omega) (hrest j hjl)) hp6
        · rw [List.length_range]; exact Nat.mul_le_mul_right _ (by omega)
      refine Join.dir (rangeSI (fun j (s' : Sl) w' => LL w.heap.size w' s' (((List.range i).flatMap fun i => (permsN n (l.eraseIdx i)).map fun p => l.getD i 0 :: p) ++ ((permsN n (l.eraseIdx i)).take j).map fun p => l.getD i 0 :: p) ∧
          (∀ a, s'.a = some a → a.block < w8.heap.size ∨ w9.heap.size ≤ a.block) ∧ Fr (fun k => k < w8.heap.size ∨ w9.heap.size ≤ k) w9 w' ∧ Ext w w') (by rw [hn31]; exact Nat.le_trans (Nat.le_trans hpl hp6) (by decide))
        ⟨by simpa using ((hLL.ext hx5).ext hx8).ext hx9, fun a ha => .inl (by have := hb3 a ha; omega), Fr.refl _ _, hx08.trans hx9⟩ ?_ ?_)
      · rintro j hj s5 w11 ⟨hL5, hb5, hf11, hx11⟩ K2 hK2
        have hj : j < (permsN n (l.eraseIdx i)).length := by omega
        have hL31' := hL31.fr hf11 fun k h1 h2 h3 => by omega
        obtain ⟨p, x, hp, h1, h2, hr, hxl⟩ := hL31'.at hj
        have hplen : ((permsN n (l.eraseIdx i))[j]).length = n := permsN_len n _ (hrest i hi) _ (List.getElem_mem hj)
        refine ⟨p, hp, h1, h2, x, hr, ⟨some ⟨w11.heap.size, 0, none⟩, 1, 1⟩, _, buildOne_run E24 (v := .int .i64 l[i]) (vs := eI l[i]) rfl rfl (by omega) w11, ?_⟩
        have hx13 := Ext.alloc w11 (.cells (eI l[i]).toArray 3)
        have ho13 : Own 3 1 eI w11.heap.size (w11.alloc (.cells (eI l[i]).toArray 3)) ⟨some ⟨w11.heap.size, 0, none⟩, 1, 1⟩ [l[i]] := Own.one w11 l[i] rfl
        obtain ⟨s41, w14, e14, ho14, hf14⟩ := appendSli E24 ho13 (hxl.ext hx13) eI_len eI_one (by simp; omega) (by simp [maxLen]; omega) hx13.size 24
        have hx14 : Ext w11 w14 := Own.newer ho13 hx13 hf14 (Nat.le_refl _)
        refine ⟨s41, w14, e14, ⟨some ⟨w14.heap.size, 0, none⟩, 1, 1⟩, _, buildOne_run E70 (v := .slice s41.a s41.n s41.c) (vs := eS s41) rfl rfl (by omega) w14, ?_⟩
        have hx15 := Ext.alloc w14 (.cells (eS s41).toArray 24)
        obtain ⟨ss, hos, hsl, hsg⟩ := hL5.ex
        have hos15 := (hos.ext hx14).ext hx15
        have hlen : ss.length ≤ 100000 := by
          rw [hsl, List.length_append, List.length_map, List.length_take]
          omega
        have h2 : Sli 1 eS (w14.alloc (.cells (eS s41).toArray 24)) ⟨some ⟨w14.heap.size, 0, none⟩, 1, 1⟩ [s41] := (Own.one (T := 24) (enc := eS) w14 s41 rfl).sli
        obtain ⟨s43, w16, e16, ho16, hf16⟩ := appendSli E70 hos15 h2 eS_len eS_one (by simp; omega) (by simp [maxLen]; omega) (by have := hx11.size; have := hx14.size; have := hx15.size; omega) 70
        have hwh := append_where E70 hos15 h2 eS_len eS_one (by simp; omega) (by simp [maxLen]; omega) 70 e16
        refine ⟨s43, w16, e16, hK2 _ _ ⟨⟨ss ++ [s41], ho16, ?_, ?_⟩, ?_, ?_, ?_⟩⟩
        · rw [List.length_append, hsl, List.take_succ_eq_append_getElem hj]; simp; omega
        · have z11 := hx11.size
          have z14 := hx14.size
          have z15 := hx15.size
          have z16 := hf16.size
          have e1 : l.getD i 0 = l[i] := by simp [List.getD, hi]
          rw [List.take_succ_eq_append_getElem hj, List.map_append, ← List.append_assoc, List.zip_append hsl]
          intro q hq
          rcases List.mem_append.1 hq with hq | hq
          · obtain ⟨g1, g2⟩ := hsg q hq
            have hne : ∀ a, q.1.a = some a → ¬ Bl s5 a.block := fun a ha ⟨b, hb, hbb⟩ => (g2 a ha).2.2 b hb hbb.symm
            refine ⟨((g1.ext hx14).ext hx15).fr hf16 hne, fun a ha => ?_⟩
            obtain ⟨k1, k2, k3⟩ := g2 a ha
            refine ⟨k1, by omega, fun b hb => ?_⟩
            rcases hwh with hw | hw
            · rw [hw] at hb; exact k3 b hb
            · have := hw b hb; omega
          · simp at hq
            subst hq
            have g41 : ∀ a, s41.a = some a → w11.heap.size ≤ a.block ∧ a.block < w14.heap.size := fun a ha => ho14.base ha
            have hacc : ∀ b, s5.a = some b → b.block < w11.heap.size := fun b hb => (hos.base hb).2
            refine ⟨?_, fun a ha => ?_⟩
            · have := (ho14.sli.ext hx15).fr hf16 fun a ha ⟨b, hb, hbb⟩ => by have := g41 a ha; have := hacc b hb; omega
              simpa [hi] using this
            · have ga := g41 a ha
              refine ⟨by omega, by omega, fun b hb => ?_⟩
              rcases hwh with hw | hw
              · rw [hw] at hb; have := hacc b hb; omega
              · have := hw b hb; omega
        · intro a ha
          rcases hwh with hw | hw
          · rw [hw] at ha; exact hb5 a ha
          · have := hw a ha; have := hx14.size; have := hx15.size; have := hf11.size; exact .inr (by omega)
        · exact ((hf11.ext hx14).ext hx15).trans hf16 fun k hk ⟨a, ha, hb⟩ => by subst hb; exact hb5 a ha
        · exact ((hx11.trans hx14).trans hx15).newer hf16 fun b ⟨a, ha, hb⟩ => by have := (hos.base ha).1; omega
      · rintro s5 w11 ⟨hL5, hb5, hf11, hx11⟩
        rw [hn31, List.take_length] at hL5
        refine hK _ _ ⟨?_, hx11⟩
        rw [List.range_succ, List.flatMap_append]
        simpa using hL5
    · rintro s3 w3 ⟨hLL, hx⟩
      rw [hn] at hLL
      exact ⟨s3, rfl, by unfold permsN; exact hLL, hx⟩
end Go.Proofs.Ytnbkihkdfhjlmaa
/-
  Plain laws of the views' lengths; the contract of the reference's View.
-/
namespace Go.Proofs.Ytnbkihkdfhjlmaa
open Go Go.VC
set_option maxHeartbeats 400000

def isRead (t : Int) (o : Ev) : Bool := decide (o.t = t ∧ o.k = 0)
theorem rds_count {h : List Ev} (t : Int) : ∀ n, n ≤ h.length → (rds h t n).length = ((h.take n).filter (isRead t)).length
  | 0, _ => by simp [rds]
  | n + 1, hn => by
    have hi : n < h.length := by omega
    rw [rds_step hi, filter_step hi, List.length_append, List.length_append, rds_count t n (by omega)]
    congr 1
    unfold isRead
    by_cases hc : h[n].t = t ∧ h[n].k = 0 <;> simp [hc]
theorem reads_count (h : List Ev) (t : Int) : (reads h t).length = (h.filter (isRead t)).length := by
  have := rds_count (h := h) t h.length (Nat.le_refl _)
  rw [List.take_length] at this; exact this
theorem serial_filter {h : List Ev} {t : Int} {p : Ev → Bool} (hp : ∀ o, p o = true → o.t = t) : ∀ {order : List Int}, order.Nodup → (serial h order).filter p = if t ∈ order then h.filter p else []
  | [], _ => by simp [serial]
  | u :: r, hn => by
    have ih := serial_filter (h := h) hp (order := r) (List.nodup_cons.1 hn).2
    have hu := (List.nodup_cons.1 hn).1
    unfold serial at ih ⊢
    rw [List.flatMap_cons, List.filter_append, ih, List.filter_filter]
    by_cases e : t = u
    · subst e
      rw [if_neg hu, if_pos (by simp), List.append_nil]
      apply List.filter_congr
      intro o _
      by_cases ho : p o = true
      · simp [hp o ho]
      · simp [ho]
    · have h1 : h.filter (fun o => p o && decide (o.t = u)) = [] := by
        rw [List.filter_eq_nil_iff]
        intro o _ ho
        simp only [Bool.and_eq_true, decide_eq_true_eq] at ho
        exact e ((hp o ho.1).symm.trans ho.2)
      rw [h1, List.nil_append]
      by_cases h2 : t ∈ r
      · rw [if_pos h2, if_pos (by simp [h2])]
      · rw [if_neg h2, if_neg (by simp [h2, e])]
theorem part_filter {h : List Ev} {t : Int} {p : Ev → Bool} (hp : ∀ o, p o = true → o.t = t) : (part h).filter p = if t ∈ com h then h.filter p else [] := by
  unfold part
  rw [List.filter_filter]
  by_cases hc : t ∈ com h
  · rw [if_pos hc]
    apply List.filter_congr
    intro o _
    by_cases ho : p o = true
    · simp [ho, hp o ho, hc]
    · simp [ho]
  · rw [if_neg hc, List.filter_eq_nil_iff]
    intro o _ ho
    simp only [Bool.and_eq_true, decide_eq_true_eq] at ho
    rw [hp o ho.1] at ho
    exact hc ho.2
theorem isRead_t (t : Int) (o : Ev) (h : isRead t o = true) : o.t = t := by simp [isRead] at h; exact h.1
theorem reads_len_eq {h : List Ev} {order : List Int} (hp : order.Perm (com h)) (t : Int) : (reads (part h) t).length = (reads (serial h order) t).length := by
  have hn : order.Nodup := hp.nodup_iff.2 (pairwise_lt_nodup (com_sorted h))
  rw [reads_count, reads_count, part_filter (isRead_t t), serial_filter (isRead_t t) hn]
  by_cases hc : t ∈ com h
  · rw [if_pos hc, if_pos (hp.mem_iff.2 hc)]
  · rw [if_neg hc, if_neg (fun h => hc (hp.mem_iff.1 h))]
theorem viewL_len {h : List Ev} {order : List Int} (hp : order.Perm (com h)) : (viewL (part h)).length = (viewL (serial h order)).length := by
  have hg : ∀ l : List Int, (l.flatMap (reads (part h))).length = (l.flatMap (reads (serial h order))).length := by
    intro l
    induction l with
    | nil => rfl
    | cons t r ih => rw [List.flatMap_cons, List.flatMap_cons, List.length_append, List.length_append, ih, reads_len_eq hp]
  unfold viewL
  rw [List.length_append, List.length_append, hg]; rfl
theorem permsN_perm : ∀ (n : Nat) (l : List Int), l.length = n → ∀ p ∈ permsN n l, p.Perm l
  | 0, l, hl, p, hp => by
    simp [permsN] at hp
    subst hp
    rw [List.eq_nil_of_length_eq_zero hl]
  | n + 1, l, hl, p, hp => by
    unfold permsN at hp
    obtain ⟨i, hi, h⟩ := List.mem_flatMap.1 hp
    obtain ⟨q, hq, rfl⟩ := List.mem_map.1 h
    simp at hi
    have h1 := permsN_perm n _ (by rw [List.length_eraseIdx, if_pos hi]; omega) q hq
    have h2 : l.getD i 0 = l[i] := by simp [List.getD, hi]
    rw [h2]
    refine (List.Perm.cons _ h1).trans ?_
    have e : l = l.take i ++ l[i] :: l.drop (i + 1) := by rw [← List.drop_eq_getElem_cons hi, List.take_append_drop]
    rw [List.eraseIdx_eq_take_drop_succ]
    exact List.perm_middle.symm.trans (List.Perm.of_eq e.symm)

/-- An order that is view equivalent, as the reference says. -/
def okP (h : List Ev) (p : List Int) : Prop := viewL (part h) = viewL (serial h p)
instance (h : List Ev) (p : List Int) : Decidable (okP h p) := by unfold okP; infer_instance
def refV (h : List Ev) : Option (List Int) := (permsN (com h).length (com h)).find? fun p => decide (okP h p)
theorem find_take {α : Type} {l : List α} {P : α → Bool} {i : Nat} {x : α} (hn : ∀ y ∈ l.take i, P y = false) (hi : l[i]? = some x) (hx : P x = true) : l.find? P = some x := by
  obtain ⟨hl, he⟩ := List.getElem?_eq_some_iff.1 hi
  have e : l = l.take i ++ x :: l.drop (i + 1) := by rw [← he, ← List.drop_eq_getElem_cons hl, List.take_append_drop]
  rw [e, List.find?_append, List.find?_eq_none.2 (fun y hy => by simp [hn y hy]), List.find?_cons, hx]; rfl

theorem c15 {w : World} {s : Sl} {h : List Ev} (hs : Hs w s h) (hok : ∀ o ∈ h, okOp o) (hl : h.length ≤ 100) :
    Calls Try.prog 15 [.slice s.a s.n s.c].toArray w fun e w' => ∃ (s' : Sl) (x : Int), e = .returned (.tuple [.slice s'.a s'.n s'.c, .int .i64 x].toArray) ∧ Ints w' s' ((refV h).getD []) ∧ x = (if (refV h).isSome then 0 else 5) ∧ Ext w w' := by
  refine (call15 s (R := fun v w' => ∃ (s' : Sl) (x : Int), v = (.tuple [.slice s'.a s'.n s'.c, .int .i64 x].toArray) ∧ Ints w' s' ((refV h).getD []) ∧ x = (if (refV h).isSome then 0 else 5) ∧ Ext w w') ?_).mono
    fun e w' ⟨v, he, s', x, hv, hx⟩ => ⟨s', x, by rw [he, hv], hx⟩
  refine (c41 hs hok (by omega)).mono fun e w1 ⟨s7, he, ho7, hx1⟩ => ⟨s7, he, ?_⟩
  refine (c40 (com h).length (com h) w1 s7 (com_len h) rfl ho7.sli).mono fun e w2 ⟨s8, he, hL, hx2⟩ => ⟨s8, he, ?_⟩
  have hn8 := hL.len
  have hx := hx1.trans hx2
  have hpl := permsN_le (com h).length (com h) (com_len h) rfl
  have hp6 : 6 ^ (com h).length ≤ 6 ^ 6 := Nat.pow_le_pow_right (by omega) (com_len h)
  refine Join.dir (rangeI (fun i w' => (∀ p ∈ (permsN (com h).length (com h)).take i, (decide (okP h p)) = false) ∧ Ext w2 w') (by rw [hn8]; exact Nat.le_trans (Nat.le_trans hpl hp6) (by decide)) ⟨by simp, Fr.refl _ _⟩ ?_ ?_)
  · rintro i hi w4 ⟨hno, hx4⟩ K hK
    have hi : i < (permsN (com h).length (com h)).length := by omega
    obtain ⟨p, x, hp, h1, h2, hr, hxl⟩ := (hL.ext hx4).at hi
    have hmem := List.getElem_mem hi
    have hperm := permsN_perm _ _ rfl _ hmem
    refine ⟨p, hp, h1, h2, x, hr, ?_⟩
    refine (c42 (hs.ext (hx.trans hx4)) hxl hok hl (by rw [hperm.length_eq]; exact com_len h) (viewL_len hperm)).mono fun e w6 ⟨r, he, hiff, hx6⟩ => ⟨r, he, cond_intro (fun hc => ?_) (fun hc => ?_)⟩
    · have hf : refV h = some (permsN (com h).length (com h))[i] := find_take hno (List.getElem?_eq_getElem hi) (decide_eq_true (hiff.1 hc))
      exact ⟨x, 0, rfl, by rw [hf]; exact hxl.ext hx6, by rw [hf]; rfl, (hx.trans hx4).trans hx6⟩
    · refine hK _ ⟨fun q hq => ?_, hx4.trans hx6⟩
      rw [List.take_succ_eq_append_getElem hi] at hq
      rcases List.mem_append.1 hq with hq | hq
      · exact hno q hq
      · rw [List.mem_singleton.1 hq, decide_eq_false_iff_not]
        intro h; rw [hiff.2 h] at hc; cases hc
  · rintro w4 ⟨hno, hx4⟩
    rw [hn8, List.take_length] at hno
    have hf : refV h = none := List.find?_eq_none.2 fun p hp => by simp [hno p hp]
    exact ⟨⟨none, 0, 0⟩, 5, rfl, by rw [hf]; exact Sli.nil .., by rw [hf]; rfl, hx.trans hx4⟩
end Go.Proofs.Ytnbkihkdfhjlmaa
/-
  Contracts: the program's View: the search that its closure does.
-/
namespace Go.Proofs.Ytnbkihkdfhjlmaa
open Go Go.VC
set_option maxHeartbeats 400000

/-- An order that is view equivalent, as the program says. -/
noncomputable def okB (h : List Ev) (p : List Int) : Bool := @decide (SameV (serial (part h) p) (part h)) (Classical.propDecidable _)
theorem okB_iff {h : List Ev} {p : List Int} : okB h p = true ↔ SameV (serial (part h) p) (part h) := @decide_eq_true_iff _ (Classical.propDecidable _)
/-- The first such order that begins so, n transactions being left. -/
noncomputable def search (h : List Ev) : Nat → List Int → Option (List Int)
  | 0, ord => if okB h ord then some ord else none
  | n + 1, ord => (com h).findSome? fun t => if t ∈ ord then none else search h n (ord ++ [t])
theorem findSome_take {α β : Type} {l : List α} {f : α → Option β} {i : Nat} {x : α} (hn : ∀ y ∈ l.take i, f y = none) (hi : l[i]? = some x) {r : β} (hx : f x = some r) : l.findSome? f = some r := by
  obtain ⟨hl, he⟩ := List.getElem?_eq_some_iff.1 hi
  have e : l = l.take i ++ x :: l.drop (i + 1) := by rw [← he, ← List.drop_eq_getElem_cons hl, List.take_append_drop]
  rw [e, List.findSome?_append, List.findSome?_eq_none_iff.2 hn, List.findSome?_cons, hx]; rfl

/-- What stands still while the closure runs. -/
structure Fixd (h : List Ev) (w0 : World) (pl pp pw : Nat) (sl sp : Sl) (m : Option Nat) (a b c d e f : Int) : Prop where
  l : Blk w0 pl [.slice sl.a sl.n sl.c] 24
  li : Ints w0 sl (com h)
  p : Blk w0 pp [.slice sp.a sp.n sp.c] 29
  pi : Hs w0 sp (part h)
  v : Blk w0 pw [.map m, .int .i64 a, .int .i64 b, .int .i64 c, .int .i64 d, .int .i64 e, .int .i64 f] 65
  vi : ViewV w0 m [a, b, c, d, e, f] (part h)
def caps (po pl pp pw pt : Nat) : List Value := [.pointer (some ⟨po, 0, none⟩), .pointer (some ⟨pl, 0, none⟩), .pointer (some ⟨pp, 0, none⟩), .pointer (some ⟨pw, 0, none⟩), .pointer (some ⟨pt, 0, none⟩)]
/-- The closure's variables, the order so far being ord. -/
structure Tr (w0 : World) (po pl pp pw pt : Nat) (w : World) (ord : List Int) : Prop where
  base : Ext w0 w
  ord : ∃ so : Sl, Blk w po [.slice so.a so.n so.c] 24 ∧ Own 3 1 eI w0.heap.size w so ord ∧ ∀ x, so.a = some x → x.block ≠ po ∧ x.block ≠ pt
  self : Blk w pt [.func (.func 37) #[] (caps po pl pp pw pt).toArray] 32
theorem Tr.ext {w0 : World} {po pl pp pw pt : Nat} {w w' : World} {ord : List Int} (h : Tr w0 po pl pp pw pt w ord) (f : Ext w w') : Tr w0 po pl pp pw pt w' ord := by
  obtain ⟨so, h1, h2, h3⟩ := h.ord
  exact ⟨h.base.trans f, ⟨so, h1.ext f, h2.ext f, h3⟩, h.self.ext f⟩
theorem callable37 : callable Try.prog 37 = true := by kernel_rfl

theorem c37 {h : List Ev} {w0 : World} {po pl pp pw pt : Nat} {sl sp : Sl} {m : Option Nat} {a b c d e f : Int} (F : Fixd h w0 pl pp pw sl sp m a b c d e f) (hok : ∀ o ∈ h, okOp o) (hl : h.length ≤ 100) (hpo : w0.heap.size ≤ po) (hne : po ≠ pt) :
    ∀ (n : Nat) (ord : List Int) (w : World), ord.length + n = (com h).length → Tr w0 po pl pp pw pt w ord →
      Calls Try.prog 37 (caps po pl pp pw pt).toArray w fun ee w' => ee = .returned (.bool (search h n ord).isSome) ∧ Tr w0 po pl pp pw pt w' ((search h n ord).getD ord) := by
  have hcl := com_len h
  have hokp : ∀ o ∈ part h, okOp o := fun o ho => hok o (List.mem_filter.1 ho).1
  have hlp : (part h).length ≤ 100 := Nat.le_trans (List.length_filter_le ..) hl
  intro n
  induction n with
  | zero =>
    intro ord w hn hT
    refine (call37 ⟨po, 0⟩ ⟨pl, 0⟩ ⟨pp, 0⟩ ⟨pw, 0⟩ ⟨pt, 0⟩ (R := fun v w' => v = .bool (search h 0 ord).isSome ∧ Tr w0 po pl pp pw pt w' ((search h 0 ord).getD ord)) ?_).mono fun ee w' ⟨v, he, hv, hx⟩ => ⟨by rw [he, hv], hx⟩
    obtain ⟨so, hso, hown, hsep⟩ := hT.ord
    have hlen1 := hown.1
    have hlen2 := F.li.len
    refine ⟨so, hso.cell 0, sl, (F.l.ext hT.base).cell 0, cond_intro (fun _ => ?_) (fun hc => ?_)⟩
    · have hTd := hT.ext (Ext.drew w)
      have hsd : ∀ u, (Ext w u) → World.cell? u ⟨po, 0, none⟩ = some (.slice so.a so.n so.c) := fun u hu => (hso.ext hu).cell 0
      refine ⟨fun u => Ext w u, Ext.drew w, Let.intro fun w1 e1 => ?_⟩
      have hx1 : Ext w w1 := by rw [e1]; exact Ext.drew _
      refine ⟨sp, fun u hu => (F.p.ext (hT.base.trans hu)).cell 0, so, hsd, m, a, b, c, d, e, f, fun u hu => (F.v.ext (hT.base.trans hu)).rd, ?_⟩
      have hb1 := hT.base.trans hx1
      refine (c38 (F.pi.ext hb1) (hown.sli.ext hx1) (by omega) (by omega)).mono fun ee w2 ⟨s15, he, ho15, hx2⟩ => ⟨s15, he, hx1.trans hx2, ?_⟩
      have hoks : ∀ o ∈ serial (part h) ord, okOp o := fun o ho => by
        obtain ⟨t, _, h2⟩ := List.mem_flatMap.1 ho
        exact hokp o (List.mem_filter.1 h2).1
      have hls : (serial (part h) ord).length ≤ 1000 := by
        have h1 := serial_len (part h) ord
        have h3 : ord.length * (part h).length ≤ 6 * 100 := Nat.mul_le_mul (by omega) hlp
        omega
      refine (c35 ho15.sli hoks hls).mono fun ee w3 ⟨m', a', b', c', d', e', f', he, hv, hx3⟩ => ⟨m', a', b', c', d', e', f', he, (hx1.trans hx2).trans hx3, ?_⟩
      refine (c39 hv (F.vi.ext ((hb1.trans hx2).trans hx3)) hls).mono fun ee w4 ⟨r, he, hiff, hx4⟩ => ⟨r, he, ((hx1.trans hx2).trans hx3).trans hx4, ?_⟩
      have hT4 := hT.ext (((hx1.trans hx2).trans hx3).trans hx4)
      have hr : r = okB h ord := Bool.eq_iff_iff.2 (hiff.trans okB_iff.symm)
      subst hr
      unfold search
      cases okB h ord with
      | true => exact ⟨rfl, hT4⟩
      | false => exact ⟨rfl, hT4⟩
    · simp [hlen1, hlen2] at hc; omega
  | succ n ih =>
    intro ord w hn hT
    refine (call37 ⟨po, 0⟩ ⟨pl, 0⟩ ⟨pp, 0⟩ ⟨pw, 0⟩ ⟨pt, 0⟩ (R := fun v w' => v = .bool (search h (n + 1) ord).isSome ∧ Tr w0 po pl pp pw pt w' ((search h (n + 1) ord).getD ord)) ?_).mono fun ee w' ⟨v, he, hv, hx⟩ => ⟨by rw [he, hv], hx⟩
    obtain ⟨so, hso, hown, hsep⟩ := hT.ord
    have hlen1 := hown.1
    have hlen2 := F.li.len
    refine ⟨so, hso.cell 0, sl, (F.l.ext hT.base).cell 0, cond_intro (fun hc => ?_) (fun _ => ?_)⟩
    · simp [hlen1, hlen2] at hc; omega
    refine ⟨sl, (F.l.ext hT.base).cell 0, Join.dir (rangeI (fun i w' => Tr w0 po pl pp pw pt w' ord ∧ ∀ t ∈ (com h).take i, (if t ∈ ord then none else search h n (ord ++ [t])) = none) (by rw [hlen2]; exact Nat.le_trans hcl (by decide)) ⟨hT, by simp⟩ ?_ ?_)⟩
    · rintro i hi w6 ⟨hT6, hno⟩ K hK
      have hi : i < (com h).length := by omega
      obtain ⟨q, hq, h1, h2, hr⟩ := Ints.at (F.li.ext hT6.base) hi
      obtain ⟨so6, hso6, hown6, hsep6⟩ := hT6.ord
      have hn6 := hown6.1
      have hskip : (if (com h)[i] ∈ ord then none else search h n (ord ++ [(com h)[i]])) = none → ∀ w', Tr w0 po pl pp pw pt w' ord → K w' := fun hs w' hT' => hK w' ⟨hT', fun t ht => by
        rw [List.take_succ_eq_append_getElem hi] at ht
        rcases List.mem_append.1 ht with ht | ht
        · exact hno t ht
        · rw [List.mem_singleton.1 ht]; exact hs⟩
      refine ⟨q, hq, h1, h2, _, hr, so6, hso6.cell 0, (c28 hown6.sli (com h)[i] (Nat.le_trans (show ord.length ≤ 6 by omega) (by decide))).mono fun ee w8 ⟨he, hx8⟩ => ⟨_, he, cond_intro (fun hc => ?_) (fun hc => ?_)⟩⟩
      · have hc : (com h)[i] ∈ ord := by simpa using hc
        exact hskip (by rw [if_pos hc]) _ (hT6.ext hx8)
      · have hc : ¬ (com h)[i] ∈ ord := by simpa using hc
        have hso8 := hso6.ext hx8
        have hb8 := (hT6.base.trans hx8)
        obtain ⟨s30, w9, e9, hx9, s31, w10, e10, ho10, hf10, hwh⟩ := appendIntW (hown6.ext hx8) (com h)[i] (show ord.length ≤ 1000000 by omega) hb8.size
        have hso10 : Blk w10 po [.slice so6.a so6.n so6.c] 24 := (hso8.ext hx9).fr hf10 fun ⟨x, hx, hb⟩ => (hsep6 x hx).1 hb
        have hself10 : Blk w10 pt [.func (.func 37) #[] (caps po pl pp pw pt).toArray] 32 := ((hT6.self.ext hx8).ext hx9).fr hf10 fun ⟨x, hx, hb⟩ => (hsep6 x hx).2 hb
        have hb10 : Ext w0 w10 := (hb8.trans hx9).newer hf10 fun b ⟨x, hx, hb⟩ => by have := (hown6.base hx).1; omega
        have hs31 : ∀ x, s31.a = some x → x.block ≠ po ∧ x.block ≠ pt := fun x hx => by
          rcases hwh with hw | hw
          · rw [hw] at hx; exact hsep6 x hx
          · have := hw x hx
            have h3 := hso8.lt
            have h4 := (hT6.self.ext hx8).lt
            omega
        refine ⟨so6, hso8.cell 0, s30, w9, e9, s31, w10, e10, hso10.storeOk rfl (by simp [Value.oneCell']) (by simp), Let.intro fun w11 e11 => ?_⟩
        have hf11 : Fr (fun k => k = po) w10 w11 := by rw [e11]; exact Fr.put ..
        have hb11 := hso10.put (o := 0) (vs := [.slice s31.a s31.n s31.c])
        have hT11 : Tr w0 po pl pp pw pt w11 (ord ++ [(com h)[i]]) :=
          ⟨hb10.newer hf11 fun k hk => by omega, ⟨s31, by rw [e11]; exact hb11, ho10.fr hf11 fun x hx hb => (hs31 x hx).1 hb, hs31⟩, hself10.fr hf11 (Ne.symm hne)⟩
        refine ⟨37, caps po pl pp pw pt, hT11.self.cell 0, ?_⟩
        rw [callable37]
        refine (ih (ord ++ [(com h)[i]]) w11 (by simp; omega) hT11).mono fun ee w12 ⟨he, hT12⟩ => ⟨_, he, cond_intro (fun hr => ?_) (fun hr => ?_)⟩
        · obtain ⟨res, hres⟩ := Option.isSome_iff_exists.1 hr
          have hs : search h (n + 1) ord = some res := by
            rw [search]
            exact findSome_take hno (List.getElem?_eq_getElem hi) (by rw [if_neg hc, hres])
          rw [hs]
          rw [hres] at hT12
          exact ⟨rfl, hT12⟩
        · have hres : search h n (ord ++ [(com h)[i]]) = none := by
            cases hh : search h n (ord ++ [(com h)[i]]) with
            | none => rfl
            | some x => rw [hh] at hr; cases hr
          rw [hres] at hT12
          obtain ⟨so12, hso12, hown12, hsep12⟩ := hT12.ord
          have hn12 : so12.n = ord.length + 1 := by have := hown12.1; simpa using this
          have hcap12 := hown12.sli.cap
          have hwr : IntKind.wrap .i64 (((so12.n : Nat) : Int) - 1) = ((ord.length : Nat) : Int) := by rw [wrap64 (by omega) (by omega)]; omega
          refine ⟨so12, hso12.cell 0, so12, hso12.cell 0, ?_⟩
          rw [hwr]
          refine ⟨by omega, by omega, hso12.storeOk rfl (by simp [Value.oneCell']) (by simp), Let.intro fun w13 e13 => ?_⟩
          have hf13 : Fr (fun k => k = po) w12 w13 := by rw [e13]; exact Fr.put ..
          have hb13 := hso12.put (o := 0) (vs := [.slice so12.a ord.length so12.c])
          have htr := Own.trunc (m := ord.length) eI_len hown12 (by simp)
          rw [show (((none : Option (List Int)).getD (ord ++ [(com h)[i]])).take ord.length) = ord from by simp] at htr
          refine hskip (by rw [if_neg hc, hres]) _ ⟨hT12.base.newer hf13 fun k hk => by omega, ⟨⟨so12.a, ord.length, so12.c⟩, by rw [e13]; exact hb13, htr.fr hf13 fun x hx hb => (hsep12 x hx).1 hb, hsep12⟩, hT12.self.fr hf13 (Ne.symm hne)⟩
    · rintro w6 ⟨hT6, hno⟩
      rw [hlen2, List.take_length] at hno
      have hs : search h (n + 1) ord = none := by rw [search]; exact List.findSome?_eq_none_iff.2 hno
      rw [hs]
      exact ⟨rfl, hT6⟩
end Go.Proofs.Ytnbkihkdfhjlmaa
/-
  Contract: the program's View.
-/
namespace Go.Proofs.Ytnbkihkdfhjlmaa
open Go Go.VC
set_option maxHeartbeats 400000

theorem zc29 : (zc Try.prog 29).size = 1 := by kernel_rfl
theorem zc24 : (zc Try.prog 24).size = 1 := by kernel_rfl
theorem zc32 : (zc Try.prog 32).size = 1 := by kernel_rfl
/-- What View returns of a valid history. -/
noncomputable def progV (h : List Ev) : Option (List Int) := search h (com h).length []
theorem c11 {w : World} {s : Sl} {h : List Ev} (hs : Hs w s h) (hl : h.length ≤ 100) :
    Calls Try.prog 11 [.slice s.a s.n s.c].toArray w fun e w' => ∃ (s' : Sl) (x : Int), e = .returned (.tuple [.slice s'.a s'.n s'.c, .int .i64 x].toArray) ∧
      ((¬ Valid h ∧ s'.n = 0 ∧ x = 2) ∨ (Valid h ∧ Ints w' s' ((progV h).getD []) ∧ x = if (progV h).isSome then 0 else 5)) ∧ Ext w w' := by
  refine (call11 s (R := fun v w' => ∃ (s' : Sl) (x : Int), v = (.tuple [.slice s'.a s'.n s'.c, .int .i64 x].toArray) ∧
      ((¬ Valid h ∧ s'.n = 0 ∧ x = 2) ∨ (Valid h ∧ Ints w' s' ((progV h).getD []) ∧ x = if (progV h).isSome then 0 else 5)) ∧ Ext w w') ?_).mono fun e w' ⟨v, he, s', x, hv, hx⟩ => ⟨s', x, by rw [he, hv], hx⟩
  have hbig : h.length ≤ big := by show h.length ≤ 9223372036854775807; omega
  refine (c26 hs hbig).mono fun e w1 ⟨he, hx1⟩ => ⟨_, he, cond_intro (fun hc => ?_) (fun hc => ?_)⟩
  · have hc : ¬ Valid h := by simpa using hc
    exact ⟨⟨none, 0, 0⟩, 2, rfl, .inl ⟨hc, rfl, rfl⟩, hx1⟩
  have hval : Valid h := by simpa using hc
  have hok := hval.1.1
  refine (c34 (hs.ext hx1) (by omega)).mono fun e w2 ⟨s13, he, ho13, hx2⟩ => ⟨s13, he, Let.intro fun w3 e3 => ?_⟩
  obtain ⟨hst4, hb4, hx4⟩ := new_var w2 29 (z := zc Try.prog 29) (vs := [.slice s13.a s13.n s13.c]) zc29 (by simp [Value.oneCell'])
  rw [← e3] at hst4 hb4 hx4
  refine ⟨hst4, Let.intro fun w4 e4 => ?_⟩
  rw [← e4] at hb4 hx4
  have hokp : ∀ o ∈ part h, okOp o := fun o ho => hok o (List.mem_filter.1 ho).1
  have hlp : (part h).length ≤ 100 := Nat.le_trans (List.length_filter_le ..) hl
  refine ⟨s13, hb4.cell 0, (c35 (ho13.sli.ext hx4) hokp (by omega)).mono fun e w5 ⟨m, a, b, c, d, e', f, he, hv5, hx5⟩ => ⟨m, a, b, c, d, e', f, he, ?_⟩⟩
  have hx05 := ((hx1.trans hx2).trans hx4).trans hx5
  refine (c36 (hs.ext hx05) hbig).mono fun e w6 ⟨s17, he, ho17, hx6⟩ => ⟨s17, he, ?_⟩
  refine Let.intro fun w7 e7 => Let.intro fun w8 e8 => ?_
  -- the view's variable
  have hz7 : Blk w7 w6.heap.size (zc Try.prog 65).toList 65 := by rw [e7]; simpa using Blk.alloc w6 (zc Try.prog 65).toList 65
  have hx7 : Ext w6 w7 := by rw [e7]; exact Ext.alloc ..
  have hz8 : Blk w8 w7.heap.size (zc Try.prog 24).toList 24 := by rw [e8]; simpa using Blk.alloc w7 (zc Try.prog 24).toList 24
  have hx8 : Ext w7 w8 := by rw [e8]; exact Ext.alloc ..
  have hone : ∀ v ∈ ([.map m, .int .i64 a, .int .i64 b, .int .i64 c, .int .i64 d, .int .i64 e', .int .i64 f] : List Value), v.oneCell' = true := by
    intro v hv; simp at hv; rcases hv with rfl | rfl | rfl | rfl | rfl | rfl | rfl <;> rfl
  have hz78 := hz7.ext hx8
  refine ⟨hz78.storeOk rfl hone (by simp [zc65]), Let.intro fun w9 e9 => ?_⟩
  have hf9 : Fr (fun k => k = w6.heap.size) w8 w9 := by rw [e9]; exact Fr.put ..
  have hb9 := hz78.put (o := 0) (vs := [.map m, .int .i64 a, .int .i64 b, .int .i64 c, .int .i64 d, .int .i64 e', .int .i64 f])
  rw [show setR (zc Try.prog 65).toList 0 [.map m, .int .i64 a, .int .i64 b, .int .i64 c, .int .i64 d, .int .i64 e', .int .i64 f] = [.map m, .int .i64 a, .int .i64 b, .int .i64 c, .int .i64 d, .int .i64 e', .int .i64 f] from by
    simpa using setR_all (vs := [.map m, .int .i64 a, .int .i64 b, .int .i64 c, .int .i64 d, .int .i64 e', .int .i64 f]) (l := (zc Try.prog 65).toList) (pre := []) (by simp [zc65]), ← e9] at hb9
  have n7 : w6.heap.size < w7.heap.size := hz7.lt
  have n8 : w7.heap.size < w8.heap.size := hz8.lt
  have hz89 := hz8.fr hf9 (by omega)
  refine ⟨hz89.storeOk rfl (by simp [Value.oneCell']) (by simp [zc24]), Let.intro fun w10 e10 => ?_⟩
  have hf10 : Fr (fun k => k = w7.heap.size) w9 w10 := by rw [e10]; exact Fr.put ..
  have hb10 := hz89.put (o := 0) (vs := [.slice s17.a s17.n s17.c])
  rw [show setR (zc Try.prog 24).toList 0 [.slice s17.a s17.n s17.c] = [.slice s17.a s17.n s17.c] from by
    simpa using setR_all (vs := [.slice s17.a s17.n s17.c]) (l := (zc Try.prog 24).toList) (pre := []) (by simp [zc24]), ← e10] at hb10
  have hx69 : Ext w6 w9 := (hx7.trans hx8).newer hf9 fun k hk => by omega
  have hx610 : Ext w6 w10 := hx69.newer hf10 fun k hk => by omega
  have hx010 := (hx05.trans hx6).trans hx610
  -- what stands still
  have F : Fixd h w10 w7.heap.size w2.heap.size w6.heap.size s17 s13 m a b c d e' f :=
    ⟨hb10, ho17.sli.ext hx610, ((hb4.ext hx5).ext hx6).ext hx610, (((ho13.sli.ext hx4).ext hx5).ext hx6).ext hx610, hb9.fr hf10 (by omega), (hv5.ext hx6).ext hx610⟩
  refine ⟨⟨some ⟨w10.heap.size, 0, none⟩, 0, 0⟩, _, buildNone_run E24 w10, ?_⟩
  generalize hw11 : (w10.alloc (.cells #[] 3)) = w11
  refine Let.intro fun w12 e12 => ?_
  have hx11 : Ext w10 w11 := by rw [← hw11]; exact Ext.alloc ..
  have ho11 : Own 3 1 eI w10.heap.size w11 ⟨some ⟨w10.heap.size, 0, none⟩, 0, 0⟩ ([] : List Int) := by rw [← hw11]; exact Own.empty w10
  have n11 : w10.heap.size < w11.heap.size := (ho11.base rfl).2
  obtain ⟨hst13, hb13, hx13⟩ := new_var w11 24 (z := zc Try.prog 24) (vs := [.slice (some ⟨w10.heap.size, 0, none⟩) 0 0]) zc24 (by simp [Value.oneCell'])
  rw [← e12] at hst13 hb13 hx13
  refine ⟨hst13, Let.intro fun w13 e13 => ?_⟩
  rw [← e13] at hb13 hx13
  have n13 : w11.heap.size < w13.heap.size := hb13.lt
  obtain ⟨hst15, hb15, hx15⟩ := new_var w13 32 (z := zc Try.prog 32) (vs := [.func (.func 37) #[] (caps w11.heap.size w7.heap.size w2.heap.size w6.heap.size w13.heap.size).toArray]) zc32 (by simp [Value.oneCell'])
  refine Let.intro fun w14 e14 => ?_
  rw [← e14] at hst15 hb15 hx15
  refine ⟨hst15, Let.intro fun w15 e15 => ?_⟩
  have hb15 : Blk w15 w13.heap.size [.func (.func 37) #[] (caps w11.heap.size w7.heap.size w2.heap.size w6.heap.size w13.heap.size).toArray] 32 := by rw [e15]; exact hb15
  have hx15 : Ext w13 w15 := by rw [e15]; exact hx15
  have hT : Tr w10 w11.heap.size w7.heap.size w2.heap.size w6.heap.size w13.heap.size w15 [] :=
    ⟨(hx11.trans hx13).trans hx15, ⟨⟨some ⟨w10.heap.size, 0, none⟩, 0, 0⟩, hb13.ext hx15, (ho11.ext hx13).ext hx15, fun x hx => by
      have : x = ⟨w10.heap.size, 0, none⟩ := (Option.some.inj hx).symm
      subst this
      exact ⟨by show w10.heap.size ≠ w11.heap.size; omega, by show w10.heap.size ≠ w13.heap.size; omega⟩⟩, hb15⟩
  refine ⟨37, caps w11.heap.size w7.heap.size w2.heap.size w6.heap.size w13.heap.size, hb15.cell 0, ?_⟩
  rw [callable37]
  refine (c37 F hok hl (by omega) (by omega) (com h).length [] w15 (by simp) hT).mono fun e w16 ⟨he, hT16⟩ => ⟨_, he, ?_⟩
  have hx16 : Ext w w16 := hx010.trans hT16.base
  show cond (!(progV h).isSome) _ _
  have hT16 : Tr w10 w11.heap.size w7.heap.size w2.heap.size w6.heap.size w13.heap.size w16 ((progV h).getD []) := hT16
  cases hp : progV h with
  | none => exact ⟨⟨none, 0, 0⟩, 5, rfl, .inr ⟨hval, Sli.nil .., rfl⟩, hx16⟩
  | some r =>
    rw [hp] at hT16
    obtain ⟨so, hso, ho, _⟩ := hT16.ord
    exact ⟨so, hso.cell 0, so, 0, rfl, .inr ⟨hval, ho.sli, rfl⟩, hx16⟩
end Go.Proofs.Ytnbkihkdfhjlmaa
/-
  An element deleted from a slice that the call owns. For every program.
-/
namespace Go.VC
open Go
variable {P : Program}
theorem put_eq : ∀ (vs : List Value) (w : World) (b o : Nat), put w b o vs = w.setCells b o vs
  | [], _, _, _ => rfl
  | v :: r, w, b, o => by rw [VC.put, World.setCells, put_eq r]
theorem setR_mid : ∀ {vs mid pre post : List Value}, vs.length = mid.length → setR (pre ++ (mid ++ post)) pre.length vs = pre ++ (vs ++ post)
  | [], [], pre, post, _ => by simp [setR]
  | v :: r, x :: l, pre, post, h => by
    have h' : r.length = l.length := by simpa using h
    have := setR_mid (vs := r) (mid := l) (pre := pre ++ [v]) (post := post) h'
    simp only [List.append_assoc, List.singleton_append, List.length_append, List.length_singleton] at this
    rw [setR]
    rw [show (pre ++ (x :: l ++ post)).set pre.length v = pre ++ v :: (l ++ post) from by simp]
    exact this
theorem delete_run {t e bytes : Nat} (E : Elem P t e 1 bytes) (hz : ∀ w, (zeroValue e).run P w = .ok (.int .i64 0) w) {B : Nat} {w : World} {s : Sl} {l : List Int} (ho : Own e 1 eI B w s l) {i : Nat} (hi : i < l.length) (ty ty' : Nat) :
    ∃ (s2 : Sl) (w2 : World), (Builtin.append_ #[t, t] ty #[.slice s.a i s.c, .slice (subA s.a s.c (i + 1) 1) (s.n - (i + 1)) (s.c - (i + 1))]).run P w = .ok (.slice s2.a s2.n s2.c) w2 ∧ s2.a = s.a ∧ s2.n = l.length - 1 ∧ s2.c = s.c ∧
      ∃ w3, (Builtin.clear_ #[t] ty' #[.slice (subA s2.a s2.c s2.n 1) (s.n - s2.n) (s2.c - s2.n)]).run P w2 = .ok (.tuple #[]) w3 ∧ Own e 1 eI B w3 s2 (l.eraseIdx i) ∧ Fr (fun b => ∃ a, s.a = some a ∧ a.block = b) w w3 := by
  obtain ⟨ii, z, hi', hz', hsz, hby, hzs⟩ := E.info
  have hsl := ho.sli
  obtain ⟨hn, hll, h⟩ := ho
  rcases h with ⟨_, h0⟩ | ⟨g, cap, cur, hv, hb, hg, hc, hm, hcs, ht⟩
  · omega
  simp only [Value.slice.injEq] at hv
  obtain ⟨ha, hsn, hsc⟩ := hv
  have hbk : Blk w g cur.toList e := by unfold Blk; simpa using hg
  rw [eI_flat] at ht
  have hcur : cur.toList = l.map (Value.int .i64) ++ cur.toList.drop l.length := by
    rw [Nat.mul_one] at ht
    rw [← ht, List.take_append_drop]
  generalize hrest : cur.toList.drop l.length = rest at hcur
  have hlen : cur.toList.length = cap := by simp [hcs]
  have hm' : (l.drop (i + 1)).length = l.length - (i + 1) := by simp
  -- the append
  have happ : (Builtin.append_ #[t, t] ty #[.slice s.a i s.c, .slice (subA s.a s.c (i + 1) 1) (s.n - (i + 1)) (s.c - (i + 1))]).run P w = .ok (.slice s.a (l.length - 1) s.c) (put w g i ((l.drop (i + 1)).map (Value.int .i64))) := by
    by_cases hlast : i + 1 = l.length
    · have := appendNil E (s := ⟨s.a, i, s.c⟩) (s2 := ⟨subA s.a s.c (i + 1) 1, s.n - (i + 1), s.c - (i + 1)⟩) (by simp only; omega) (by simp only; omega) ty w
      simp only at this
      rw [this, show l.drop (i + 1) = [] from List.drop_eq_nil_of_le (by omega), show l.length - 1 = i from by omega]
      rfl
    · have hsub : subA s.a s.c (i + 1) 1 = some ⟨g, i + 1, none⟩ := by
        unfold subA
        rw [if_neg (by omega), ha, Option.map_some, addr_add_plain]; simp
      rw [hsub, ha, hsc, put_eq]
      have hr := run_append_room_cells (P := P) w t ty e ii E.under hi' g 0 i cap ⟨g, i + 1, none⟩ (s.n - (i + 1)) (cap - (i + 1)) ((l.drop (i + 1)).map (Value.int .i64)) (by rw [hsz]; simp; omega)
        (fun j u hu => by
          rw [addr_add_plain, hbk.cell, hcur]
          have hj : j < l.length - (i + 1) := by
            rcases Nat.lt_or_ge j (l.length - (i + 1)) with h | h
            · exact h
            · rw [List.getElem?_eq_none (by simp; omega)] at hu; cases hu
          rw [List.getElem?_append_left (by simp; omega)]
          rw [List.getElem?_map, List.getElem?_drop] at hu
          rw [List.getElem?_map]; exact hu)
        (fun u hu => by obtain ⟨x, _, rfl⟩ := List.mem_map.1 hu; rfl) (by omega)
        (fun j hj => by
          rw [hbk.cell, hsz]
          have : 0 + i * 1 + j < cur.toList.length := by simp at hj; omega
          rw [List.getElem?_eq_getElem this]; rfl)
        (fun j hj => frozen_of_row w g _ cur e hg)
      rw [hr, hsz]
      rw [show i + (s.n - (i + 1)) = l.length - 1 from by omega, show 0 + i * 1 = i from by omega]
  have hb2 := hbk.put (o := i) (vs := (l.drop (i + 1)).map (Value.int .i64))
  have hY : (l.drop i).map (Value.int .i64) = ((l.drop i).map (Value.int .i64)).take (l.length - (i + 1)) ++ ((l.drop i).map (Value.int .i64)).drop (l.length - (i + 1)) := (List.take_append_drop ..).symm
  have hset : setR cur.toList i ((l.drop (i + 1)).map (Value.int .i64)) = (l.take i).map (Value.int .i64) ++ ((l.drop (i + 1)).map (Value.int .i64) ++ (((l.drop i).map (Value.int .i64)).drop (l.length - (i + 1)) ++ rest)) := by
    have := setR_mid (vs := (l.drop (i + 1)).map (Value.int .i64)) (mid := ((l.drop i).map (Value.int .i64)).take (l.length - (i + 1))) (pre := (l.take i).map (Value.int .i64)) (post := ((l.drop i).map (Value.int .i64)).drop (l.length - (i + 1)) ++ rest) (by simp; omega)
    rw [show ((l.take i).map (Value.int .i64)).length = i from by simp; omega] at this
    rw [← this]
    congr 1
    rw [hcur, ← List.append_assoc (((l.drop i).map (Value.int .i64)).take (l.length - (i + 1))), ← hY, ← List.append_assoc, ← List.map_append, List.take_append_drop]
  rw [hset] at hb2
  refine ⟨⟨s.a, l.length - 1, s.c⟩, _, happ, rfl, rfl, rfl, ?_⟩
  generalize hw2 : put w g i ((l.drop (i + 1)).map (Value.int .i64)) = w2 at hb2
  have hf2 : Fr (fun b => b = g) w w2 := by rw [← hw2]; exact Fr.put ..
  have hsub2 : subA s.a s.c (l.length - 1) 1 = some ⟨g, l.length - 1, none⟩ := by
    unfold subA
    rw [if_neg (by omega), ha, Option.map_some, addr_add_plain]; simp
  have hcells : ∀ j, j < 1 → (w2.cell? ⟨g, l.length - 1 + j, none⟩).isSome = true := fun j hj => by
    rw [hb2.cell, List.getElem?_eq_getElem (by simp; omega)]; rfl
  have hclr := Lib.run_clear_slice (P := P) w2 t e ty' (.int .i64 0) E.under hz rfl rfl g (l.length - 1) 1 (s.c - (l.length - 1)) (by omega) hcells (fun j hj => frozen_of_row w2 g _ _ e hb2)
  refine ⟨w2.setCells g (l.length - 1) (List.replicate 1 (.int .i64 0)), ?_, ?_, ?_⟩
  · simp only
    rw [hsub2, show s.n - (l.length - 1) = 1 from by omega]; exact hclr
  · rw [← put_eq]
    have hb3 := hb2.put (o := l.length - 1) (vs := List.replicate 1 (Value.int .i64 0))
    have hset3 := setR_mid (vs := List.replicate 1 (Value.int .i64 0)) (mid := ((l.drop i).map (Value.int .i64)).drop (l.length - (i + 1))) (pre := (l.take i).map (Value.int .i64) ++ (l.drop (i + 1)).map (Value.int .i64)) (post := rest) (by simp; omega)
    rw [show ((l.take i).map (Value.int .i64) ++ (l.drop (i + 1)).map (Value.int .i64)).length = l.length - 1 from by simp; omega, List.append_assoc] at hset3
    rw [hset3] at hb3
    have hel : (l.eraseIdx i).length = l.length - 1 := by rw [List.length_eraseIdx, if_pos hi]
    refine ⟨hel.symm, by rw [eI_flat]; simp, .inr ⟨g, cap, ((l.take i).map (Value.int .i64) ++ (l.drop (i + 1)).map (Value.int .i64) ++ (List.replicate 1 (Value.int .i64 0) ++ rest)).toArray, ?_, hb, hb3, by omega, hm, ?_, ?_⟩⟩
    · simp only [ha, hsc, hel]
    · have : rest.length = cap - l.length := by rw [← hrest, List.length_drop, hlen]
      simp [this]; omega
    · rw [eI_flat, hel, List.eraseIdx_eq_take_drop_succ, List.map_append, Nat.mul_one]
      simp only
      rw [List.take_left' (by simp; omega)]
  · rw [← put_eq]
    exact (hf2.trans (Fr.put _ _ _ _) fun _ _ h => h).mono fun b _ hb => ⟨_, ha, hb.symm⟩
end Go.VC
namespace Go.VC
open Go
variable {P : Program}
theorem fill_list {α : Type} {k : Nat} {enc : α → List Value} {val : α → Value} (hk : ∀ x, (enc x).length = k) (hv : ∀ x, cellsV (val x) = enc x) : ∀ (l pre : List α) (post : List Value), post.length = l.length * k →
    Instr.fill (fun i => some (i * k, k)) ((pre.flatMap enc) ++ post).toArray ((l.zipIdx pre.length).map fun p => (p.2, val p.1)) = some ((pre ++ l).flatMap enc).toArray
  | [], pre, post, h => by
    have : post = [] := List.eq_nil_of_length_eq_zero (by simpa using h)
    subst this
    simp [Instr.fill]
  | x :: r, pre, post, h => by
    have hc : (val x).cells.toList = enc x := by rw [← hv x]; exact cellsV_eq _
    have hcs : (val x).cells.size = k := by rw [← hk x, ← hc]; simp
    have hf := fold_setR' (pre.length * k) (val x).cells ((pre.flatMap enc) ++ post).toArray
    have hpl := flatMap_len hk pre
    have hsplit : post = post.take k ++ post.drop k := (List.take_append_drop ..).symm
    have hlen : k ≤ post.length := by rw [h, List.length_cons, Nat.add_mul]; omega
    have hset : setR ((pre.flatMap enc) ++ post) (pre.length * k) (val x).cells.toList = ((pre ++ [x]).flatMap enc) ++ post.drop k := by
      have := setR_mid (vs := enc x) (mid := post.take k) (pre := pre.flatMap enc) (post := post.drop k) (by simp [hk, hlen])
      rw [hpl] at this
      rw [hc]
      rw [show pre.flatMap enc ++ post = pre.flatMap enc ++ (post.take k ++ post.drop k) from by rw [← hsplit], this]
      simp
    rw [List.zipIdx_cons, List.map_cons, Instr.fill]
    simp only
    rw [if_neg (by simp [hcs, hpl]; omega)]
    rw [hf]
    simp only at hset ⊢
    rw [hset]
    have := fill_list hk hv r (pre ++ [x]) (post.drop k) (by rw [List.length_drop, h, List.length_cons, Nat.add_mul]; omega)
    simp only [List.length_append, List.length_singleton] at this
    rw [this]; simp
/-- A slice literal. -/
theorem buildList_run {α : Type} {t e size bytes : Nat} (E : Elem P t e size bytes) {enc : α → List Value} {val : α → Value} (hk : ∀ x, (enc x).length = size) (hv : ∀ x, cellsV (val x) = enc x) (l : List α) (hl : l ≠ []) (hbig : l.length * size ≤ 16777216) (w : World) :
    (Instr.buildSlice t l.length ((l.zipIdx).map fun p => (p.2, val p.1)).toArray).run P w = .ok (.slice (some ⟨w.heap.size, 0, none⟩) l.length l.length) (w.alloc (.cells (l.flatMap enc).toArray e)) := by
  obtain ⟨i, z, hi, hz, hsz, _, hzs⟩ := E.info
  have hpos := E.pos
  have h0 : 0 < l.length := List.length_pos_iff.2 hl
  have hf := fill_list (k := size) hk hv l [] (((Array.range (l.length * size)).map (z.cells[· % z.cells.size]!)).toList) (by simp)
  simp only [List.flatMap_nil, List.nil_append, List.length_nil, Array.toArray_toList] at hf
  have hsr : (sizeOf e).run P w = .ok size w := by rw [size_run hi, hsz]
  have hzr : (zeroValue e).run P w = .ok z w := by simp [zeroValue, typeInfo, hi, hz]
  simp only [Instr.buildSlice, Sem.run_bind, under_run E.under, Result.andThen_ok, hsr]
  rw [if_neg (by omega)]
  rw [if_neg (Nat.mul_ne_zero (by omega) (by omega))]
  simp only [Sem.run_bind, hzr, Result.andThen_ok, Sem.run_pure, hf, newRow, run_newObj]
  rfl
theorem sli_new {α : Type} {size : Nat} {enc : α → List Value} (w : World) (l : List α) (T : TypeId) : Sli size enc (w.alloc (.cells (l.flatMap enc).toArray T)) ⟨some ⟨w.heap.size, 0, none⟩, l.length, l.length⟩ l :=
  ⟨rfl, Nat.le_refl _, fun _ => ⟨⟨w.heap.size, 0⟩, rfl, (Blk.alloc w _ T).rd⟩⟩
end Go.VC
namespace Go.VC
open Go
variable {P : Program}
/-- Behind an append the old slice still reads as it did. -/
theorem append_old {α : Type} {t e size bytes : Nat} (E : Elem P t e size bytes) {enc : α → List Value} {B : Nat} {w : World} {s : Sl} {l : List α} (h : Own e size enc B w s l) {s2 : Sl} {l2 : List α}
    (h2 : Sli size enc w s2 l2) (hk : ∀ x, (enc x).length = size) (h1 : ∀ x, ∀ v ∈ enc x, v.oneCell' = true) (hlen : (l.length + l2.length) * bytes ≤ 140737488355328) (hlen' : l.length + l2.length ≤ maxLen) (ty : Nat) {s' : Sl} {w' : World}
    (hrun : (Builtin.append_ #[t, t] ty #[.slice s.a s.n s.c, .slice s2.a s2.n s2.c]).run P w = .ok (.slice s'.a s'.n s'.c) w') : Own e size enc B w' s l := by
  by_cases hl : l2 = []
  · subst hl
    rw [appendNil E h.sli.cap h2.len ty w] at hrun
    injection hrun with _ hw
    rw [← hw]; exact h
  obtain ⟨p, hp, hr⟩ := h2.mem hl
  obtain ⟨i, z, hi, hz, hsz, hby, hzs⟩ := E.info
  have hown := h
  obtain ⟨hn, hll, h⟩ := h
  rcases h with ⟨hnil, h0⟩ | ⟨g, cap, cur, hv, hb, hg, hc, hm, hcs, ht⟩
  · exact ⟨hn, hll, .inl ⟨hnil, h0⟩⟩
  · simp only [Value.slice.injEq] at hv
    obtain ⟨ha, hsn, hsc⟩ := hv
    have hbk : Blk w g cur.toList e := by unfold Blk; simpa using hg
    have hfl := flatMap_len hk
    rw [hp, h2.len, ha, hsn, hsc] at hrun
    rcases Nat.lt_or_ge cap (l.length + l2.length) with hgr | hroom
    · obtain ⟨v', w2, hr2, _, hg2⟩ := run_append_arg_grows (P := P) w t ty e i z size bytes E.under hi hz hsz hby hzs E.pos ⟨g, 0, none⟩ l.length cap (l.flatMap enc) (hfl l)
        (fun j u hu => by
          rw [addr_add_plain, Nat.zero_add, hbk.cell]
          rw [← ht, List.getElem?_take] at hu
          split at hu
          · exact hu
          · cases hu) ⟨p.b, p.o, none⟩ l2.length s2.c (l2.flatMap enc) (hfl l2) (fun j u hu => by rw [addr_add_plain]; exact rd_get hr hu) hgr hlen' hlen
      rw [hr2] at hrun
      injection hrun with _ hw
      subst hw
      exact hown.ext ((Fr.grown hg2).mono fun b _ hb => by cases hb)
    · have hr2 := run_append_room_cells (P := P) w t ty e i E.under hi g 0 l.length cap ⟨p.b, p.o, none⟩ l2.length s2.c (l2.flatMap enc) (by rw [hsz]; exact hfl l2) (fun j u hu => by rw [addr_add_plain]; exact rd_get hr hu)
        (fun u hu => by obtain ⟨x, _, hx⟩ := List.mem_flatMap.1 hu; exact h1 x u hx) hroom
        (fun j hj => by
          rw [hbk.cell, hsz]
          have : l.length * size + j < cur.toList.length := by
            rw [hfl] at hj
            have h3 : (l.length + l2.length) * size ≤ cap * size := Nat.mul_le_mul_right _ hroom
            rw [Nat.add_mul] at h3
            simp; omega
          rw [Nat.zero_add, List.getElem?_eq_getElem this]; rfl)
        (fun j hj => frozen_of_row w g _ cur e hg)
      rw [hr2] at hrun
      injection hrun with _ hw
      rw [hsz, Nat.zero_add] at hw
      have hb2 := hbk.put (o := l.length * size) (vs := l2.flatMap enc)
      rw [put_eq, hw] at hb2
      have hsplit : cur.toList = cur.toList.take (l.length * size) ++ cur.toList.drop (l.length * size) := (List.take_append_drop ..).symm
      have hlt : (cur.toList.take (l.length * size)).length = l.length * size := by
        have : l.length * size ≤ cap * size := Nat.mul_le_mul_right _ hc
        simp; omega
      have hsetlen : ∀ (vs cs : List Value) (o : Nat), (setR cs o vs).length = cs.length := by
        intro vs
        induction vs with
        | nil => intro cs o; rfl
        | cons v r ih => intro cs o; rw [setR, ih]; simp
      have hsettake : ∀ (vs cs : List Value) (o k : Nat), k ≤ o → (setR cs o vs).take k = cs.take k := by
        intro vs
        induction vs with
        | nil => intro cs o k _; rfl
        | cons v r ih =>
          intro cs o k hk
          rw [setR, ih _ _ _ (by omega)]
          rw [List.take_set_of_le (by omega)]
      refine ⟨hn, hll, .inr ⟨g, cap, (setR cur.toList (l.length * size) (l2.flatMap enc)).toArray, by rw [ha, hsn, hsc], hb, hb2, hc, hm, ?_, ?_⟩⟩
      · have := hsetlen (l2.flatMap enc) cur.toList (l.length * size)
        simp [this, hcs]
      · simp only
        rw [hsettake _ _ _ _ (Nat.le_refl _)]; exact ht
end Go.VC
namespace Go.VC
open Go
variable {P : Program}
/-- 's[i] = v' of an owned slice, whatever its elements. -/
theorem Own.storeN {α : Type} {T k B : Nat} {enc : α → List Value} (hk : ∀ x, (enc x).length = k) (h1 : ∀ x, ∀ v ∈ enc x, v.oneCell' = true) {w : World} {s : Sl} {l : List α} (h : Own T k enc B w s l) {i : Nat} (hi : i < l.length) (x : α) :
    ∃ p : Pt, s.a = some ⟨p.b, p.o, none⟩ ∧ 0 ≤ (i : Int) ∧ (i : Int) < ((s.n : Nat) : Int) ∧ StoreOk w p.b (p.o + Int.toNat (i : Int) * k) (enc x) k ∧
      Own T k enc B (put w p.b (p.o + Int.toNat (i : Int) * k) (enc x)) s (l.set i x) ∧ Fr (fun b => ∃ a, s.a = some a ∧ a.block = b) w (put w p.b (p.o + Int.toNat (i : Int) * k) (enc x)) := by
  obtain ⟨hn, hl, h⟩ := h
  have hfl := flatMap_len hk
  rcases h with ⟨_, h2⟩ | ⟨g, cap, cur, hv, hb, hg, hc, hm, hsz, ht⟩
  · omega
  · simp only [Value.slice.injEq] at hv
    obtain ⟨ha, h2, h3⟩ := hv
    have hb' : Blk w g cur.toList T := by unfold Blk; simpa using hg
    have e : (⟨g, 0⟩ : Pt).o + Int.toNat (i : Int) * k = i * k := by simp
    have hcur : cur.toList = l.flatMap enc ++ cur.toList.drop (l.length * k) := by rw [← ht, List.take_append_drop]
    generalize hrest : cur.toList.drop (l.length * k) = rest at hcur
    have hsplit : l.flatMap enc = (l.take i).flatMap enc ++ (enc l[i] ++ (l.drop (i + 1)).flatMap enc) := by
      have e1 : l = l.take i ++ l[i] :: l.drop (i + 1) := by rw [← List.drop_eq_getElem_cons hi, List.take_append_drop]
      have e2 : (l.take i ++ l[i] :: l.drop (i + 1)).flatMap enc = (l.take i).flatMap enc ++ (enc l[i] ++ (l.drop (i + 1)).flatMap enc) := by rw [List.flatMap_append, List.flatMap_cons]
      rw [← e2, ← e1]
    have hnew : (l.set i x).flatMap enc = (l.take i).flatMap enc ++ (enc x ++ (l.drop (i + 1)).flatMap enc) := by
      rw [List.set_eq_take_append_cons_drop, if_pos hi, List.flatMap_append, List.flatMap_cons]
    have hil : ((l.take i).flatMap enc).length = i * k := by rw [hfl, List.length_take, Nat.min_eq_left (by omega)]
    have hset : setR cur.toList (i * k) (enc x) = (l.set i x).flatMap enc ++ rest := by
      have := setR_mid (vs := enc x) (mid := enc l[i]) (pre := (l.take i).flatMap enc) (post := (l.drop (i + 1)).flatMap enc ++ rest) (by rw [hk, hk])
      rw [hil] at this
      rw [hnew]
      simp only [List.append_assoc] at this ⊢
      rw [← this]
      congr 1
      rw [hcur, hsplit]
      simp only [List.append_assoc]
    have hbnd : i * k + k ≤ cur.toList.length := by
      have h4 : (i + 1) * k ≤ cap * k := Nat.mul_le_mul_right _ (by omega)
      rw [Nat.add_mul, Nat.one_mul] at h4
      simp [hsz]; omega
    refine ⟨⟨g, 0⟩, ha, by omega, by omega, ?_, ?_, ?_⟩
    · rw [e]; exact hb'.storeOk (hk x) (h1 x) hbnd
    · rw [e]
      have hput := hb'.put (o := i * k) (vs := enc x)
      rw [hset] at hput
      refine ⟨by simp [hn], by rw [hfl], .inr ⟨g, cap, _, by rw [ha, h2, h3]; simp, hb, hput, by simpa using hc, hm, ?_, ?_⟩⟩
      · have h5 : l.length * k ≤ cap * k := Nat.mul_le_mul_right _ hc
        have h6 : rest.length = cap * k - l.length * k := by rw [← hrest, List.length_drop]; simp [hsz]
        simp [hfl, h6]; omega
      · simp only
        rw [List.take_left' (hfl _)]
    · exact (Fr.put _ _ _ _).mono fun b _ hb => ⟨_, ha, hb.symm⟩
end Go.VC
/-
  Contracts: conflicts, the first order that agrees with edges, Order, awake.
-/
namespace Go.Proofs.Ytnbkihkdfhjlmaa
open Go Go.VC
set_option maxHeartbeats 400000

theorem A79 : IntArr Try.prog 79 3 2 := ⟨by kernel_rfl, by kernel_rfl, by kernel_rfl, by kernel_rfl⟩
def kE (k : Int × Int) : Value := ints [k.1, k.2]
theorem K79 : KeyOk Try.prog 79 kE := KeyOk.arr A79 (fun k : Int × Int => [k.1, k.2]) (fun a b h => by simpa [Prod.ext_iff] using h) (fun _ => rfl)
theorem u75 : Try.prog.underlying 75 = some (.map 79 4) := by kernel_rfl
/-- A map of edges. -/
structure EdgeM (w : World) (b : Nat) (E : Int → Int → Bool) : Prop where
  ex : ∃ (l : List (Ent (Int × Int) Bool)) (c : Nat), Mp kE kB w b l c ∧ ∀ x y, (mget l (x, y)).getD false = E x y
theorem EdgeM.ext {w w' : World} {b : Nat} {E : Int → Int → Bool} (m : EdgeM w b E) (f : Ext w w') : EdgeM w' b E := by
  obtain ⟨l, c, h1, h2⟩ := m.ex
  exact ⟨l, c, h1.ext f, h2⟩
theorem EdgeM.look {w : World} {b : Nat} {E : Int → Int → Bool} (m : EdgeM w b E) (x y : Int) :
    (Instr.lookup 75 (.map (some b)) (.agg [.int .i64 x, .int .i64 y].toArray) false).run Try.prog w = .ok (.bool (E x y)) w := by
  obtain ⟨l, c, h1, h2⟩ := m.ex
  have := (look_run K79 u75 h1 zero4 (x, y)).1
  rw [← h2]
  refine Eq.trans this ?_
  cases mget l (x, y) <;> rfl

/-- Two operations, in this order, are in conflict. -/
def cfl (x y : Ev) : Bool := x.t != y.t && (x.i == y.i && ((if y.k > x.k then y.k else x.k) == 1))
/-- Some x ahead of some y is in conflict with it. -/
def conf (p : List Ev) (a b : Int) : Bool := (List.range p.length).any fun i => (List.range p.length).any fun j => decide (i < j) && cfl (p.getD i e0) (p.getD j e0) && ((p.getD i e0).t == a && (p.getD j e0).t == b)
theorem conf_iff {p : List Ev} {a b : Int} : conf p a b = true ↔ ∃ i j, ∃ (hi : i < p.length) (hj : j < p.length), i < j ∧ cfl p[i] p[j] = true ∧ p[i].t = a ∧ p[j].t = b := by
  unfold conf
  simp only [List.any_eq_true, List.mem_range, Bool.and_eq_true, decide_eq_true_eq, beq_iff_eq]
  constructor
  · rintro ⟨i, hi, j, hj, ⟨h1, h2⟩, h3, h4⟩
    rw [getD_at hi] at h2 h3
    rw [getD_at hj] at h2 h4
    exact ⟨i, j, hi, hj, h1, h2, h3, h4⟩
  · rintro ⟨i, j, hi, hj, h1, h2, h3, h4⟩
    refine ⟨i, hi, j, hj, ⟨h1, ?_⟩, ?_, ?_⟩
    · rw [getD_at hi, getD_at hj]; exact h2
    · rw [getD_at hi]; exact h3
    · rw [getD_at hj]; exact h4
/-- The edges that the first i operations, and of the next one the first j, give. -/
def confTo (p : List Ev) (i j : Nat) (a b : Int) : Prop := ∃ i' j', ∃ (hi : i' < p.length) (hj : j' < p.length), i' < j' ∧ (i' < i ∨ i' = i ∧ j' < j) ∧ cfl p[i'] p[j'] = true ∧ p[i'].t = a ∧ p[j'].t = b

theorem c43 {w : World} {s : Sl} {p : List Ev} (hs : Hs w s p) (hl : p.length ≤ 1000) :
    Calls Try.prog 43 [.slice s.a s.n s.c].toArray w fun e w' => e = .returned (.map (some w.heap.size)) ∧ EdgeM w' w.heap.size (conf p) ∧ Ext w w' := by
  refine (call43 s (R := fun v w' => v = .map (some w.heap.size) ∧ EdgeM w' w.heap.size (conf p) ∧ Ext w w') ?_).mono fun e w' ⟨v, he, hv, hx⟩ => ⟨by rw [he, hv], hx⟩
  have hn := hs.len
  have hbig : p.length ≤ big := by show p.length ≤ 9223372036854775807; omega
  refine Let.intro fun w1 e1 => ?_
  have hm1 : Mp kE kB w1 w.heap.size ([] : List (Ent (Int × Int) Bool)) 0 := by rw [e1]; exact Mp.made w
  have hx1 : Ext w w1 := by rw [e1]; exact Ext.alloc ..
  have hInv0 : ∀ (i : Nat) (a b : Int), confTo p (i + 1) 0 a b ↔ confTo p i p.length a b := by
    intro i a b
    constructor
    · rintro ⟨i', j', hi, hj, h1, h2, h3⟩; exact ⟨i', j', hi, hj, h1, by omega, h3⟩
    · rintro ⟨i', j', hi, hj, h1, h2, h3⟩; exact ⟨i', j', hi, hj, h1, by omega, h3⟩
  refine Join.dir (rangeI (fun i w' => (∃ (l : List (Ent (Int × Int) Bool)) (c : Nat), Mp kE kB w' w.heap.size l c ∧ ∀ x y, (mget l (x, y)).getD false = true ↔ confTo p i 0 x y) ∧ Ext w w') (by rw [hn]; exact hbig)
    ⟨⟨[], 0, hm1, fun x y => ⟨fun h => by simp [mget] at h, fun ⟨i', j', _, _, _, h, _⟩ => by omega⟩⟩, hx1⟩ ?_ ?_)
  · rintro i hi w3 ⟨⟨l, c, hm, hg⟩, hx⟩ K hK
    have hi : i < p.length := by omega
    have hb0 : w.heap.size < w3.heap.size := hm.bound
    refine loadEv (hs.ext hx) hi zc38 fun w6 hb hx6 => ?_
    have hwr : IntKind.wrap .i64 ((i : Int) + 1) = ((i + 1 : Nat) : Int) := by rw [wrap64 (by omega) (by omega)]; rfl
    rw [hwr]
    have hdl : (p.drop (i + 1)).length = p.length - (i + 1) := by simp
    refine ⟨by omega, by omega, Join.dir (rangeI (fun k w' => (∃ (l : List (Ent (Int × Int) Bool)) (c : Nat), Mp kE kB w' w.heap.size l c ∧ ∀ x y, (mget l (x, y)).getD false = true ↔ confTo p i (i + 1 + k) x y) ∧ Ext w w' ∧ Blk w' w3.heap.size (eO p[i]) 38) (by show s.n - (i + 1) ≤ 9223372036854775807; omega)
      ⟨⟨l, c, hm.ext hx6, fun x y => (hg x y).trans ⟨fun ⟨i', j', a, b, h1, h2, h3⟩ => ⟨i', j', a, b, h1, by omega, h3⟩, fun ⟨i', j', a, b, h1, h2, h3⟩ => ⟨i', j', a, b, h1, by omega, h3⟩⟩⟩, hx.trans hx6, hb⟩ ?_ ?_)⟩
    · rintro k hk w8 ⟨⟨l, c, hm, hg⟩, hx8, hb8⟩ K2 hK2
      have hk : k < (p.drop (i + 1)).length := by
        have : k < s.n - (i + 1) := hk
        omega
      have hkl : i + 1 + k < p.length := by omega
      have hget : (p.drop (i + 1))[k] = p[i + 1 + k] := by simp
      refine loadEvN (n := s.n - (i + 1)) (s := ⟨subA s.a s.c (i + 1) 3, s.n - (i + 1), s.c - (i + 1)⟩) ((hs.ext hx8).drop eO_len (by omega)) hk (by omega) zc38 fun w11 hb11 hx11 => ?_
      rw [hget] at hb11
      have hb3 := hb8.ext hx11
      have hm11 := hm.ext hx11
      have hstep : ∀ x y, confTo p i (i + 1 + (k + 1)) x y ↔ confTo p i (i + 1 + k) x y ∨ (cfl p[i] p[i + 1 + k] = true ∧ p[i].t = x ∧ p[i + 1 + k].t = y) := by
        intro x y
        constructor
        · rintro ⟨i', j', a, b, h1, h2, h3⟩
          by_cases e : i' = i ∧ j' = i + 1 + k
          · obtain ⟨rfl, rfl⟩ := e; exact .inr h3
          · exact .inl ⟨i', j', a, b, h1, by omega, h3⟩
        · rintro (⟨i', j', a, b, h1, h2, h3⟩ | h3)
          · exact ⟨i', j', a, b, h1, by omega, h3⟩
          · exact ⟨i, i + 1 + k, hi, hkl, by omega, by omega, h3⟩
      refine ⟨fun (b : Bool) w' => b = cfl p[i] p[i + 1 + k] ∧ w' = w11, ?_, ?_⟩
      · rintro b w12 ⟨rfl, rfl⟩
        refine Join.dir (cond_intro (fun hc => ?_) (fun hc => ?_))
        · obtain ⟨w14, c', hrun, hm14, hf14⟩ := put_run K79 u75 hm11 (p[i].t, p[i + 1 + k].t) true
          refine ⟨_, hb3.cell 0, _, hb11.cell 0, w14, hrun, hK2 _ ⟨⟨_, c', hm14, fun x y => ?_⟩, (hx8.trans hx11).newer hf14 fun b hb => by omega, hb3.fr hf14 ?_⟩⟩
          · rw [mget_mput, hstep]
            by_cases e : (x, y) = (p[i].t, p[i + 1 + k].t)
            · rw [if_pos e]
              injection e with e1 e2
              simp [hc, e1, e2]
            · rw [if_neg e, hg]
              constructor
              · exact fun h => .inl h
              · rintro (h | ⟨_, h1, h2⟩)
                · exact h
                · exact absurd (by rw [h1, h2]) e
          · omega
        · refine hK2 _ ⟨⟨l, c, hm11, fun x y => ?_⟩, hx8.trans hx11, hb3⟩
          rw [hg, hstep]
          constructor
          · exact fun h => .inl h
          · rintro (h | ⟨h, _⟩)
            · exact h
            · rw [hc] at h; cases h
      · refine ⟨_, hb3.cell 0, _, hb11.cell 0, cond_intro (fun h1 => ?_) (fun h1 => ?_)⟩
        · refine ⟨_, hb3.cell 2, _, hb11.cell 2, cond_intro (fun h2 => ?_) (fun h2 => ?_)⟩
          · refine ⟨_, hb3.cell 1, _, hb11.cell 1, ?_, rfl⟩
            unfold cfl; rw [h1, h2]; rfl
          · refine ⟨?_, rfl⟩
            unfold cfl; rw [h1, h2]; rfl
        · refine ⟨?_, rfl⟩
          unfold cfl; rw [h1]; rfl
    · rintro w8 ⟨⟨l, c, hm, hg⟩, hx8, _⟩
      refine hK _ ⟨⟨l, c, hm, fun x y => (hg x y).trans ⟨fun ⟨i', j', a, b, h1, h2, h3⟩ => ⟨i', j', a, b, h1, by omega, h3⟩, fun ⟨i', j', a, b, h1, h2, h3⟩ => ⟨i', j', a, b, h1, ?_, h3⟩⟩⟩, hx8⟩
      have : i + 1 + (s.n - Int.toNat ((i + 1 : Nat) : Int)) = p.length := by omega
      omega
  · rintro w3 ⟨⟨l, c, hm, hg⟩, hx⟩
    refine ⟨rfl, ⟨l, c, hm, fun x y => ?_⟩, hx⟩
    rw [Bool.eq_iff_iff, hg, conf_iff]
    constructor
    · rintro ⟨i', j', a, b, h1, h2, h3⟩; exact ⟨i', j', a, b, h1, h3⟩
    · rintro ⟨i', j', a, b, h1, h3⟩; exact ⟨i', j', a, b, h1, by omega, h3⟩
end Go.Proofs.Ytnbkihkdfhjlmaa
/-
  Contracts: the first order that agrees with edges, Order, awake.
-/
namespace Go.Proofs.Ytnbkihkdfhjlmaa
open Go Go.VC
set_option maxHeartbeats 400000

/-- The first place with a property. -/
def ixf (P : Int → Bool) : List Int → Int
  | [] => -1
  | y :: r => if P y then 0 else if ixf P r < 0 then -1 else ixf P r + 1
theorem ixf_not {P : Int → Bool} : ∀ {l : List Int}, (∀ y ∈ l, P y = false) → ixf P l = -1
  | [], _ => rfl
  | y :: r, h => by
    rw [ixf, if_neg (by simp [h y]), ixf_not fun z hz => h z (by simp [hz])]; rfl
theorem ixf_at {P : Int → Bool} : ∀ {l : List Int} {i : Nat} {x : Int}, l[i]? = some x → P x = true → (∀ y ∈ l.take i, P y = false) → ixf P l = i
  | [], _, _, h, _, _ => by cases h
  | y :: r, 0, x, h, hx, _ => by cases h; simp [ixf, hx]
  | y :: r, i + 1, x, h, hx, hn => by
    have := ixf_at (l := r) (i := i) (by simpa using h) hx fun z hz => hn z (by simp [hz])
    rw [ixf, if_neg (by rw [hn y (by simp)]; simp), this, if_neg (by omega)]; rfl
theorem ixf_some {P : Int → Bool} : ∀ {l : List Int}, (∃ y ∈ l, P y = true) → ∃ i : Nat, ixf P l = i ∧ i < l.length
  | [], h => by obtain ⟨y, hy, _⟩ := h; cases hy
  | y :: r, h => by
    by_cases e : P y = true
    · exact ⟨0, by simp [ixf, e], by simp⟩
    · obtain ⟨i, h1, h2⟩ := ixf_some (l := r) (by
        obtain ⟨z, hz, hp⟩ := h
        rcases List.mem_cons.1 hz with rfl | hz
        · exact absurd hp e
        · exact ⟨z, hz, hp⟩)
      exact ⟨i + 1, by rw [ixf, if_neg e, h1, if_neg (by omega)]; rfl, by simp; omega⟩
theorem ixf_nonneg {P : Int → Bool} {l : List Int} : decide (ixf P l ≥ 0) = l.any P := by
  by_cases h : ∃ y ∈ l, P y = true
  · obtain ⟨i, h1, _⟩ := ixf_some h
    rw [h1, List.any_eq_true.2 h]; simp
  · have : ∀ y ∈ l, P y = false := fun y hy => by
      cases hp : P y with
      | false => rfl
      | true => exact absurd ⟨y, hy, hp⟩ h
    rw [ixf_not this, List.any_eq_false.2 (fun y hy => by simp [this y hy])]; rfl

/-- slices.IndexFunc, of a function that only adds to memory. -/
theorem c72 {w : World} {s : Sl} {l : List Int} (hs : Ints w s l) (hl : l.length ≤ big) (f : Nat) (cap : List Value) (hc : callable Try.prog f = true) (Q : Int → Bool)
    (hf : ∀ x ∈ l, ∀ w', Ext w w' → Calls Try.prog f (Value.int .i64 x :: cap).toArray w' fun e w2 => e = .returned (.bool (Q x)) ∧ Ext w' w2) :
    Calls Try.prog 72 [.slice s.a s.n s.c, .func (.func f) #[] cap.toArray].toArray w fun e w' => e = .returned (.int .i64 (ixf Q l)) ∧ Ext w w' := by
  refine (call72 s f cap (R := fun v w' => v = .int .i64 (ixf Q l) ∧ Ext w w') ?_).mono fun e w' ⟨v, he, hv, hx⟩ => ⟨by rw [he, hv], hx⟩
  refine Join.dir (rangeI (fun i w2 => (∀ y ∈ l.take i, Q y = false) ∧ Ext w w2) (by rw [hs.len]; exact hl) ⟨by simp, Fr.refl _ w⟩ ?_ ?_)
  · rintro i hi w2 ⟨hn, hx⟩ K hK
    have hi : i < l.length := by rw [← hs.len]; exact hi
    obtain ⟨p, hp, h1, h2, hr⟩ := Ints.at (hs.ext hx) hi
    refine ⟨p, hp, h1, h2, _, hr, ?_⟩
    rw [hc, List.singleton_append]
    refine (hf l[i] (List.getElem_mem hi) w2 hx).mono fun e w4 ⟨he, hx4⟩ => ⟨_, he, cond_intro (fun hq => ?_) (fun hq => ?_)⟩
    · exact ⟨by rw [ixf_at (List.getElem?_eq_getElem hi) hq hn], hx.trans hx4⟩
    · refine hK _ ⟨fun y hy => ?_, hx.trans hx4⟩
      rw [List.take_succ_eq_append_getElem hi] at hy
      rcases List.mem_append.1 hy with hy | hy
      · exact hn y hy
      · rw [List.mem_singleton.1 hy]; exact hq
  · rintro w2 ⟨hn, hx⟩
    rw [hs.len, List.take_length] at hn
    exact ⟨by rw [ixf_not hn], hx⟩
theorem c47 {w : World} {s : Sl} {l : List Int} (hs : Ints w s l) (hl : l.length ≤ big) (f : Nat) (cap : List Value) (hc : callable Try.prog f = true) (Q : Int → Bool)
    (hf : ∀ x ∈ l, ∀ w', Ext w w' → Calls Try.prog f (Value.int .i64 x :: cap).toArray w' fun e w2 => e = .returned (.bool (Q x)) ∧ Ext w' w2) :
    Calls Try.prog 47 [.slice s.a s.n s.c, .func (.func f) #[] cap.toArray].toArray w fun e w' => e = .returned (.bool (l.any Q)) ∧ Ext w w' := by
  refine (call47 s f cap (R := fun v w' => v = .bool (l.any Q) ∧ Ext w w') ?_).mono fun e w' ⟨v, he, hv, hx⟩ => ⟨by rw [he, hv], hx⟩
  exact (c72 hs hl f cap hc Q hf).mono fun e w1 ⟨he, hx⟩ => ⟨_, he, by rw [ixf_nonneg], hx⟩
theorem callable73 : callable Try.prog 73 = true := by kernel_rfl
theorem callable74 : callable Try.prog 74 = true := by kernel_rfl

theorem c74 {w : World} {E : Int → Int → Bool} {b pe pb : Nat} (hm : EdgeM w b E) (he : Blk w pe [.map (some b)] 75) {y : Int} (hb : Blk w pb [.int .i64 y] 3) (x : Int) :
    Calls Try.prog 74 [.int .i64 x, .pointer (some ⟨pe, 0, none⟩), .pointer (some ⟨pb, 0, none⟩)].toArray w fun e w' => e = .returned (.bool (E x y)) ∧ Ext w w' := by
  refine (call74 x ⟨pe, 0⟩ ⟨pb, 0⟩ (R := fun v w' => v = .bool (E x y) ∧ Ext w w') ?_).mono fun e w' ⟨v, he, hv, hx⟩ => ⟨by rw [he, hv], hx⟩
  exact ⟨_, he.cell 0, _, hb.cell 0, _, hm.look x y, rfl, Fr.refl _ _⟩
/-- No one left has to come ahead. -/
def free (E : Int → Int → Bool) (left : List Int) (b : Int) : Bool := !left.any fun a => E a b
theorem c73 {w : World} {E : Int → Int → Bool} {b pe pl : Nat} {s : Sl} {left : List Int} (hm : EdgeM w b E) (he : Blk w pe [.map (some b)] 75) (hl : Blk w pl [.slice s.a s.n s.c] 24) (hs : Ints w s left) (hb : left.length ≤ big) (x : Int) :
    Calls Try.prog 73 [.int .i64 x, .pointer (some ⟨pl, 0, none⟩), .pointer (some ⟨pe, 0, none⟩)].toArray w fun e w' => e = .returned (.bool (free E left x)) ∧ Ext w w' := by
  refine (call73 x ⟨pl, 0⟩ ⟨pe, 0⟩ (R := fun v w' => v = .bool (free E left x) ∧ Ext w w') ?_).mono fun e w' ⟨v, he, hv, hx⟩ => ⟨by rw [he, hv], hx⟩
  refine Let.intro fun w1 e1 => ?_
  have hx1 : Ext w w1 := by rw [e1]; exact Ext.alloc ..
  have hb1 : Blk w1 w.heap.size [.int .i64 x] 3 := by rw [e1]; exact Blk.alloc ..
  refine ⟨s, (hl.ext hx1).cell 0, (c47 (hs.ext hx1) hb 74 [.pointer (some ⟨pe, 0, none⟩), .pointer (some ⟨w.heap.size, 0, none⟩)] callable74 (fun a => E a x) fun a _ w' hx' => c74 ((hm.ext hx1).ext hx') ((he.ext hx1).ext hx') (hb1.ext hx') a).mono fun e w2 ⟨he, hx2⟩ => ⟨_, he, rfl, hx1.trans hx2⟩⟩

theorem c75 {B : Nat} {w : World} {s : Sl} {l : List Int} (ho : Own 3 1 eI B w s l) {i : Nat} (hi : i < l.length) (hl : l.length ≤ 1000000) :
    Calls Try.prog 75 [.slice s.a s.n s.c, .int .i64 i, .int .i64 (IntKind.wrap .i64 ((i : Int) + 1))].toArray w fun e w' => ∃ s' : Sl, e = .returned (.slice s'.a s'.n s'.c) ∧ s'.a = s.a ∧ Own 3 1 eI B w' s' (l.eraseIdx i) ∧ Fr (Bl s) w w' := by
  have hwr : IntKind.wrap .i64 ((i : Int) + 1) = ((i + 1 : Nat) : Int) := by rw [wrap64 (by omega) (by omega)]; rfl
  rw [hwr]
  refine (call75 s i ((i + 1 : Nat) : Int) (R := fun v w' => ∃ s' : Sl, v = (.slice s'.a s'.n s'.c) ∧ s'.a = s.a ∧ Own 3 1 eI B w' s' (l.eraseIdx i) ∧ Fr (Bl s) w w') ?_).mono fun e w' ⟨v, he, s', hv, hx⟩ => ⟨s', by rw [he, hv], hx⟩
  have hn := ho.1
  have hcap := ho.sli.cap
  refine ⟨by omega, by omega, by omega, by omega, by omega, by omega, cond_intro (fun hc => ?_) (fun _ => ?_)⟩
  · have : (i : Int) = ((i + 1 : Nat) : Int) := by simpa using hc
    omega
  refine Let.intro fun w1 e1 => ?_
  have hx1 : Ext w w1 := by rw [e1]; exact Ext.drew _
  obtain ⟨s2, w2, happ, ha, hn2, hc2, w3, hclr, ho3, hf3⟩ := delete_run E24 (fun w => Try.zeroValue3 w) (ho.ext hx1) hi 24 0
  refine ⟨by omega, by omega, by omega, by omega, s2, w2, happ, by omega, by omega, by omega, by omega, w3, hclr, s2, rfl, ha, ho3, Ext.fr hx1 hf3⟩

/-- The first order that agrees with edges. -/
def srt (E : Int → Int → Bool) : Nat → List Int → Option (List Int)
  | 0, _ => some []
  | n + 1, left => if ixf (free E left) left < 0 then none else (srt E n (left.eraseIdx (ixf (free E left) left).toNat)).map (left.getD (ixf (free E left) left).toNat 0 :: ·)
theorem zc24' : (zc Try.prog 24).size = 1 := zc24
theorem c44 {w : World} {E : Int → Int → Bool} {b : Nat} {s : Sl} {l : List Int} (hm : EdgeM w b E) (hs : Ints w s l) (hl : l.length ≤ 6) :
    Calls Try.prog 44 [.map (some b), .slice s.a s.n s.c].toArray w fun e w' => ∃ (s' : Sl) (x : Bool), e = .returned (.tuple [.slice s'.a s'.n s'.c, .bool x].toArray) ∧ x = (srt E l.length l).isSome ∧ Ints w' s' ((srt E l.length l).getD []) ∧ Ext w w' := by
  refine (call44 (some b) s (R := fun v w' => ∃ (s' : Sl) (x : Bool), v = (.tuple [.slice s'.a s'.n s'.c, .bool x].toArray) ∧ x = (srt E l.length l).isSome ∧ Ints w' s' ((srt E l.length l).getD []) ∧ Ext w w') ?_).mono fun e w' ⟨v, he, s', x, hv, hx⟩ => ⟨s', x, by rw [he, hv], hx⟩
  refine Let.intro fun w1 e1 => ?_
  have hx1 : Ext w w1 := by rw [e1]; exact Ext.alloc ..
  have hb1 : Blk w1 w.heap.size [.map (some b)] 75 := by rw [e1]; exact Blk.alloc ..
  refine (c46 (hs.ext hx1) (by omega)).mono fun e w2 ⟨s10, he, ho10, hx2⟩ => ⟨s10, he, Let.intro fun w3 e3 => ?_⟩
  obtain ⟨hst, hb4, hx4⟩ := new_var w2 24 (z := zc Try.prog 24) (vs := [.slice s10.a s10.n s10.c]) zc24 (by simp [Value.oneCell'])
  rw [← e3] at hst hb4 hx4
  refine ⟨hst, Let.intro fun w4 e4 => ?_⟩
  rw [← e4] at hb4 hx4
  have n4 := hb4.lt
  have z1 := hx1.size
  have z2 := hx2.size
  have hx04 := (hx1.trans hx2).trans hx4
  have n1 := hb1.lt
  refine Join.dir (LoopV.intro (fun n (s7 : Sl) w' => ∃ (sl : Sl) (left out : List Int), n = left.length ∧ left.length ≤ 6 ∧ out.length + left.length = l.length ∧ srt E l.length l = (srt E left.length left).map (out ++ ·) ∧
      Blk w' w2.heap.size [.slice sl.a sl.n sl.c] 24 ∧ Own 3 1 eI w1.heap.size w' sl left ∧ (∀ a, sl.a = some a → a.block < w2.heap.size) ∧ Own 3 1 eI w4.heap.size w' s7 out ∧ Ext w w' ∧ EdgeM w' b E ∧ Blk w' w.heap.size [.map (some b)] 75 ∧ w4.heap.size ≤ w'.heap.size) l.length
    ⟨s10, l, [], rfl, hl, by simp, by simp, hb4, ho10.ext hx4, fun a ha => (ho10.base ha).2, Own.nil .., hx04, hm.ext hx04, hb1.ext (hx2.trans hx4), Nat.le_refl _⟩ ?_)
  rintro n s7 w6 ⟨sl, left, out, rfl, hl6, hlen, hsr, hb6, hol, hlb, hou, hx6, hm6, he6, z6⟩
  have hnl := hol.1
  refine ⟨sl, hb6.cell 0, cond_intro (fun hc => ?_) (fun hc => ?_)⟩
  · have hpos : 0 < left.length := by have : (0 : Int) < (sl.n : Int) := by simpa using hc
                                      omega
    obtain ⟨m, hm'⟩ : ∃ m, left.length = m + 1 := ⟨left.length - 1, by omega⟩
    have hbig : left.length ≤ big := by show left.length ≤ 9223372036854775807; omega
    refine Join.dir ⟨sl, hb6.cell 0, (c72 hol.sli hbig 73 [.pointer (some ⟨w2.heap.size, 0, none⟩), .pointer (some ⟨w.heap.size, 0, none⟩)] callable73 (free E left) fun x _ w' hx' => c73 (hm6.ext hx') (he6.ext hx') (hb6.ext hx') (hol.sli.ext hx') hbig x).mono fun e w8 ⟨he, hx8⟩ => ⟨_, he, ?_⟩⟩
    rw [hm'] at hsr
    refine cond_intro (fun hneg => ?_) (fun hneg => ?_)
    · have hneg : ixf (free E left) left < 0 := by simpa using hneg
      rw [srt, if_pos hneg] at hsr
      rw [hsr]
      exact ⟨⟨none, 0, 0⟩, false, rfl, rfl, Sli.nil .., hx6.trans hx8⟩
    · have hneg : ¬ ixf (free E left) left < 0 := by simpa using hneg
      rw [srt, if_neg hneg] at hsr
      obtain ⟨k, hk, hkl⟩ : ∃ k : Nat, ixf (free E left) left = k ∧ k < left.length := by
        apply ixf_some
        have h1 : decide (ixf (free E left) left ≥ 0) = true := by simp; omega
        rw [ixf_nonneg, List.any_eq_true] at h1
        exact h1
      rw [hk] at hsr ⊢
      have hb8 := hb6.ext hx8
      have hol8 := hol.ext hx8
      have hou8 := hou.ext hx8
      obtain ⟨q, hq, h1, h2, hr⟩ := Ints.at hol8.sli hkl
      have z8 := hx8.size
      obtain ⟨s24, w9, e9, s25, w10, e10, ho10', hf10⟩ := appendInt hou8 left[k] (by omega) (by omega)
      have hnb : ∀ i, i < w4.heap.size → ¬ Bl s7 i := fun i hi ⟨a, ha, hb⟩ => by have := (hou.base ha).1; omega
      have hb10 := hb8.fr hf10 (hnb _ n4)
      have hol10 := hol8.fr hf10 fun a ha => hnb _ (by have := hlb a ha; omega)
      have hx10 : Ext w w10 := (hx6.trans hx8).newer hf10 fun i hi => by
        rcases Nat.lt_or_ge i w4.heap.size with h | h
        · exact absurd hi (hnb i h)
        · have := hx04.size; omega
      refine ⟨sl, hb8.cell 0, q, hq, h1, h2, _, hr, s24, w9, e9, s25, w10, e10, sl, hb10.cell 0, ?_⟩
      refine (c75 hol10 hkl (by omega)).mono fun e w11 ⟨s30, he, ha30, ho30, hf11⟩ => ⟨s30, he, ?_⟩
      have hlo : ∀ i, Bl sl i → w1.heap.size ≤ i ∧ i < w2.heap.size := fun i ⟨a, ha, hb⟩ => by have := (hol.base ha).1; have := hlb a ha; omega
      have hb11 := hb10.fr hf11 fun h => by have := (hlo _ h).2; omega
      have hou11 := ho10'.fr hf11 fun a ha h => by have := (hlo _ h).2; have := (ho10'.base ha).1; omega
      have he11 := ((he6.ext hx8).fr hf10 (hnb _ (by omega))).fr hf11 fun h => by have := (hlo _ h).1; omega
      have hx11 : Ext w w11 := hx10.newer hf11 fun i hi => by have := (hlo _ hi).1; omega
      refine ⟨hb11.storeOk rfl (by simp [Value.oneCell']) (by simp), Let.intro fun w12 e12 => ?_⟩
      have hf12 : Fr (fun i => i = w2.heap.size) w11 w12 := by rw [e12]; exact Fr.put ..
      have hb12 := hb11.put (o := 0) (vs := [.slice s30.a s30.n s30.c])
      rw [← e12] at hb12
      have hx12 : Ext w w12 := hx11.newer hf12 fun i hi => by omega
      have hel : (left.eraseIdx k).length = m := by rw [List.length_eraseIdx, if_pos hkl]; omega
      refine ⟨m, by omega, s30, left.eraseIdx k, out ++ [left[k]], hel.symm, by omega, by simp; omega, ?_, hb12, ho30.fr hf12 fun a ha h => by rw [ha30] at ha; have := hlb a ha; omega, fun a ha => by rw [ha30] at ha; exact hlb a ha, hou11.fr hf12 fun a ha h => by have := (hou11.base ha).1; omega, hx12, hm.ext hx12, he11.fr hf12 (by omega), by have := hf10.size; have := hf11.size; have := hf12.size; omega⟩
      rw [hsr, hel, Option.map_map]
      have hgd : left.getD (Int.toNat (k : Int)) 0 = left[k] := by simp [List.getD, hkl]
      rw [hgd, Int.toNat_natCast]
      cases srt E m (left.eraseIdx k) with
      | none => rfl
      | some r => simp
  · have hl0 : left = [] := by
      have : ¬ (0 : Int) < (sl.n : Int) := by simpa using hc
      exact List.eq_nil_of_length_eq_zero (by omega)
    subst hl0
    simp only [List.length_nil, srt, Option.map_some, List.append_nil] at hsr
    rw [hsr]
    exact ⟨s7, true, rfl, rfl, hou.sli, hx6⟩

/-- What Order returns of a valid history. -/
def progO (h : List Ev) : Option (List Int) := srt (conf (part h)) (com h).length (com h)
theorem c17 {w : World} {s : Sl} {h : List Ev} (hs : Hs w s h) (hl : h.length ≤ 100) :
    Calls Try.prog 17 [.slice s.a s.n s.c].toArray w fun e w' => ∃ (s' : Sl) (x : Int), e = .returned (.tuple [.slice s'.a s'.n s'.c, .int .i64 x].toArray) ∧
      ((¬ Valid h ∧ s'.n = 0 ∧ x = 2) ∨ (Valid h ∧ Ints w' s' ((progO h).getD []) ∧ x = if (progO h).isSome then 0 else 8)) ∧ Ext w w' := by
  refine (call17 s (R := fun v w' => ∃ (s' : Sl) (x : Int), v = (.tuple [.slice s'.a s'.n s'.c, .int .i64 x].toArray) ∧
      ((¬ Valid h ∧ s'.n = 0 ∧ x = 2) ∨ (Valid h ∧ Ints w' s' ((progO h).getD []) ∧ x = if (progO h).isSome then 0 else 8)) ∧ Ext w w') ?_).mono fun e w' ⟨v, he, s', x, hv, hx⟩ => ⟨s', x, by rw [he, hv], hx⟩
  have hbig : h.length ≤ big := by show h.length ≤ 9223372036854775807; omega
  refine (c26 hs hbig).mono fun e w1 ⟨he, hx1⟩ => ⟨_, he, cond_intro (fun hc => ?_) (fun hc => ?_)⟩
  · have hc : ¬ Valid h := by simpa using hc
    exact ⟨⟨none, 0, 0⟩, 2, rfl, .inl ⟨hc, rfl, rfl⟩, hx1⟩
  have hval : Valid h := by simpa using hc
  refine (c34 (hs.ext hx1) (by omega)).mono fun e w2 ⟨s11, he, ho11, hx2⟩ => ⟨s11, he, ?_⟩
  have hlp : (part h).length ≤ 100 := Nat.le_trans (List.length_filter_le ..) hl
  refine (c43 ho11.sli (by omega)).mono fun e w3 ⟨he, hm, hx3⟩ => ⟨_, he, ?_⟩
  refine (c36 (((hs.ext hx1).ext hx2).ext hx3) hbig).mono fun e w4 ⟨s14, he, ho14, hx4⟩ => ⟨s14, he, ?_⟩
  refine (c44 (hm.ext hx4) ho14.sli (com_len h)).mono fun e w5 ⟨s15, x, he, hx, hi, hx5⟩ => ⟨s15, x, he, ?_⟩
  have hx05 := (((hx1.trans hx2).trans hx3).trans hx4).trans hx5
  subst hx
  have hi : Ints w5 s15 ((progO h).getD []) := hi
  show cond (!(progO h).isSome) _ _
  cases hp : progO h with
  | none => exact ⟨⟨none, 0, 0⟩, 8, rfl, .inr ⟨hval, Sli.nil .., rfl⟩, hx05⟩
  | some r => rw [hp] at hi; exact ⟨s15, 0, rfl, .inr ⟨hval, hi, rfl⟩, hx05⟩

def hA : List Ev := [⟨2, 1, 0⟩, ⟨1, 0, 0⟩, ⟨1, 2, 0⟩, ⟨2, 2, 0⟩]
theorem c14 (w : World) : Calls Try.prog 14 [].toArray w fun e w' => e = .returned (.bool true) ∧ Ext w w' := by
  refine (call14 (R := fun v w' => v = .bool true ∧ Ext w w') ?_).mono fun e w' ⟨v, he, hv, hx⟩ => ⟨by rw [he, hv], hx⟩
  have h1 := buildList_run E29 (val := fun o : Ev => .agg [.int .i64 o.t, .int .i64 o.k, .int .i64 o.i].toArray) eO_len (fun _ => rfl) hA (by simp [hA]) (by simp [hA]) w
  have hs := sli_new (size := 3) (enc := eO) w hA 38
  have hx1 := Ext.alloc w (.cells (hA.flatMap eO).toArray 38)
  refine ⟨⟨some ⟨w.heap.size, 0, none⟩, 4, 4⟩, _, h1, ?_⟩
  refine (c17 (h := hA) hs (by decide)).mono fun e w2 ⟨s9, x, he, hcase, hx2⟩ => ⟨s9, x, he, ?_⟩
  have hv : Valid hA := by decide
  have hp : progO hA = some [2, 1] := by decide
  rcases hcase with ⟨h, _⟩ | ⟨_, hi, hxx⟩
  · exact absurd hv h
  rw [hp] at hi hxx
  have hxx : x = 0 := hxx
  subst hxx
  refine Join.dir ?_
  have h2 := buildList_run E24 (val := fun o : Int => .int .i64 o) eI_len (fun _ => rfl) [2, 1] (by simp) (by simp) w2
  have hs2 := sli_new (size := 1) (enc := eI) w2 [2, 1] 3
  have hx3 := Ext.alloc w2 (.cells (([2, 1] : List Int).flatMap eI).toArray 3)
  refine ⟨⟨some ⟨w2.heap.size, 0, none⟩, 2, 2⟩, _, h2, ?_⟩
  refine (c16 (hi.ext hx3) hs2 (by decide)).mono fun e w5 ⟨he, hx5⟩ => ⟨_, he, ?_, ((hx1.trans hx2).trans hx3).trans hx5⟩
  rfl
end Go.Proofs.Ytnbkihkdfhjlmaa
/-
  The plain law of HistoryViews, and its contract.
-/
namespace Go.Proofs.Ytnbkihkdfhjlmaa
open Go Go.VC
set_option maxHeartbeats 400000

theorem flat_inj {f g : Int → List Int} : ∀ {l : List Int}, (∀ t, (f t).length = (g t).length) → (l.flatMap f = l.flatMap g ↔ ∀ t ∈ l, f t = g t)
  | [], _ => by simp
  | t :: r, h => by
    rw [List.flatMap_cons, List.flatMap_cons]
    constructor
    · intro e
      obtain ⟨h1, h2⟩ := List.append_inj e (h t)
      intro u hu
      rcases List.mem_cons.1 hu with rfl | hu
      · exact h1
      · exact (flat_inj h).1 h2 u hu
    · intro e
      rw [e t (by simp), (flat_inj h).2 fun u hu => e u (by simp [hu])]
theorem mem_six {t : Int} : t ∈ six ↔ 1 ≤ t ∧ t ≤ 6 := by
  simp only [six, List.mem_cons, List.not_mem_nil, or_false]
  omega
theorem serial_part {h : List Ev} {p : List Int} (hp : ∀ t ∈ p, t ∈ com h) : serial (part h) p = serial h p := by
  unfold serial
  have : ∀ p : List Int, (∀ t ∈ p, t ∈ com h) → (p.flatMap fun t => (part h).filter fun o => decide (o.t = t)) = p.flatMap fun t => h.filter fun o => decide (o.t = t) := by
    intro p
    induction p with
    | nil => intro _; rfl
    | cons t r ih =>
      intro hp
      rw [List.flatMap_cons, List.flatMap_cons, ih fun u hu => hp u (by simp [hu]), part_filter (t := t) (by intro o ho; simpa using ho), if_pos (hp t (by simp))]
  exact this p hp
theorem ok_iff {h : List Ev} {p : List Int} (hp : p.Perm (com h)) : okB h p = decide (okP h p) := by
  rw [Bool.eq_iff_iff, okB_iff, decide_eq_true_iff, serial_part fun t ht => hp.mem_iff.1 ht]
  unfold SameV okP viewL
  have hlen := reads_len_eq hp
  constructor
  · rintro ⟨h1, h2⟩
    rw [h2, (flat_inj hlen).2 fun t ht => (h1 t (mem_six.1 ht).1 (mem_six.1 ht).2).symm]
  · intro e
    obtain ⟨h1, h2⟩ := List.append_inj' e rfl
    exact ⟨fun t h3 h4 => ((flat_inj hlen).1 h1 t (mem_six.2 ⟨h3, h4⟩)).symm, h2.symm⟩

theorem eraseIdx_filter : ∀ {l : List Int} {i : Nat} (hi : i < l.length), l.Nodup → l.eraseIdx i = l.filter fun x => decide (x ≠ l[i])
  | [], _, hi, _ => by simp at hi
  | y :: r, 0, _, hn => by
    have hy := (List.nodup_cons.1 hn).1
    simp only [List.eraseIdx_cons_zero, List.getElem_cons_zero]
    rw [List.filter_cons, if_neg (by simp), List.filter_eq_self.2]
    intro x hx; simp; rintro rfl; exact hy hx
  | y :: r, i + 1, hi, hn => by
    have hi' : i < r.length := by simpa using hi
    have hy := (List.nodup_cons.1 hn).1
    simp only [List.eraseIdx_cons_succ, List.getElem_cons_succ]
    rw [List.filter_cons, if_pos (by simp; intro e; exact hy (e ▸ List.getElem_mem hi')), eraseIdx_filter hi' (List.nodup_cons.1 hn).2]
theorem findSome_filter {β : Type} {q : Int → Bool} {f : Int → Option β} : ∀ l : List Int, (l.findSome? fun t => if q t then f t else none) = (l.filter q).findSome? f
  | [] => rfl
  | t :: r => by
    rw [List.findSome?_cons, List.filter_cons]
    by_cases hq : q t = true
    · rw [if_pos hq, if_pos hq, List.findSome?_cons, findSome_filter r]
    · rw [if_neg hq, if_neg hq, findSome_filter r]
theorem findSome_range {β : Type} {f : Int → Option β} : ∀ (l : List Int) (g : Nat → Option β), (∀ i (hi : i < l.length), g i = f l[i]) → (List.range l.length).findSome? g = l.findSome? f
  | [], _, _ => rfl
  | t :: r, g, h => by
    rw [List.length_cons, List.range_succ_eq_map, List.findSome?_cons, List.findSome?_cons, h 0 (by simp)]
    have := findSome_range r (fun i => g (i + 1)) fun i hi => h (i + 1) (by simpa using hi)
    rw [List.findSome?_map]
    simp only [List.getElem_cons_zero]
    cases f t with
    | none => exact this
    | some x => rfl
theorem find_congr {α : Type} {p q : α → Bool} : ∀ {l : List α}, (∀ x ∈ l, p x = q x) → l.find? p = l.find? q
  | [], _ => rfl
  | x :: r, h => by
    rw [List.find?_cons, List.find?_cons, h x (by simp), find_congr fun y hy => h y (by simp [hy])]

/-- Those that are not yet in the order. -/
def rem (h : List Ev) (ord : List Int) : List Int := (com h).filter fun t => !decide (t ∈ ord)
theorem search_perms {h : List Ev} : ∀ (n : Nat) (ord : List Int), (rem h ord).length = n → search h n ord = ((permsN n (rem h ord)).map (ord ++ ·)).find? (okB h)
  | 0, ord, _ => by
    simp only [search, permsN, List.map_cons, List.append_nil, List.map_nil, List.find?_cons, List.find?_nil]
    cases okB h ord <;> rfl
  | n + 1, ord, hl => by
    have hnd : (rem h ord).Nodup := (pairwise_lt_nodup (com_sorted h)).filter _
    rw [search]
    have h1 : ((com h).findSome? fun t => if t ∈ ord then none else search h n (ord ++ [t])) = ((com h).findSome? fun t => if (!decide (t ∈ ord)) then search h n (ord ++ [t]) else none) := by
      congr 1; funext t
      by_cases e : t ∈ ord <;> simp [e]
    rw [h1, findSome_filter]
    show (rem h ord).findSome? _ = _
    unfold permsN
    rw [List.map_flatMap, List.find?_flatMap]
    refine (findSome_range _ _ fun i hi => ?_).symm
    have hgd : (rem h ord).getD i 0 = (rem h ord)[i] := by simp [List.getD, hi]
    have hrem : (rem h ord).eraseIdx i = rem h (ord ++ [(rem h ord)[i]]) := by
      rw [eraseIdx_filter hi hnd]
      generalize (rem h ord)[i] = t
      unfold rem
      rw [List.filter_filter]
      apply List.filter_congr
      intro x _
      simp only [List.mem_append, List.mem_singleton]
      by_cases h1 : x ∈ ord <;> by_cases h2 : x = t <;> simp [h1, h2]
    have hlen : (rem h (ord ++ [(rem h ord)[i]])).length = n := by rw [← hrem, List.length_eraseIdx, if_pos hi]; omega
    rw [search_perms n _ hlen, ← hrem, hgd, List.map_map]
    congr 1
    apply List.map_congr_left
    intro p _
    simp
theorem progV_eq (h : List Ev) : progV h = refV h := by
  have hr : rem h [] = com h := by unfold rem; rw [List.filter_eq_self]; simp
  unfold progV refV
  rw [search_perms _ [] (by rw [hr]), hr]
  rw [show (permsN (com h).length (com h)).map (([] : List Int) ++ ·) = permsN (com h).length (com h) from by simp]
  exact find_congr fun p hp => ok_iff (permsN_perm _ _ rfl p hp)
theorem valid_take (h : List Ev) : Valid (h.take 43) ↔ Valid h := by
  by_cases hl : h.length ≤ 43
  · rw [List.take_of_length_le hl]
  · constructor
    · intro h1; have := h1.2; simp at this; omega
    · intro h1; have := h1.2; omega
theorem valid_self {h : List Ev} (hv : Valid h) : h.take 43 = h := List.take_of_length_le (by have := hv.2; omega)

theorem c3 {w : World} {s : Sl} {h : List Ev} (hs : Hs w s h) (hl : h.length ≤ big) :
    Calls Try.prog 3 [.slice s.a s.n s.c].toArray w fun e w' => e = .returned (.bool true) ∧ Ext w w' := by
  refine (call3 s (R := fun v w' => v = .bool true ∧ Ext w w') ?_).mono fun e w' ⟨v, he, hv, hx⟩ => ⟨by rw [he, hv], hx⟩
  refine (of_ok hs hl).mono fun e w1 ⟨s9, he, ho9, hx1⟩ => ⟨s9, he, ?_⟩
  refine (c11 ho9.sli (by simp; omega)).mono fun e w2 ⟨s10, x10, he, hcase, hx2⟩ => ⟨s10, x10, he, ?_⟩
  rw [valid_take] at hcase
  refine (c13 ((hs.ext hx1).ext hx2) hl).mono fun e w3 ⟨he, hx3⟩ => ⟨_, he, ?_⟩
  have hx03 := (hx1.trans hx2).trans hx3
  rcases hcase with ⟨hnv, hn0, rfl⟩ | ⟨hv, hi10, hxx⟩
  · refine cond_intro (fun _ => ?_) (fun hc => ?_)
    · refine Join.dir (cond_intro (fun _ => cond_intro (fun _ => ?_) (fun hc => ?_)) (fun hc => ?_))
      · exact (c14 w3).mono fun e w5 ⟨he, hx5⟩ => ⟨_, he, rfl, hx03.trans hx5⟩
      · simp at hc
      · simp [hn0] at hc
    · simp [hnv] at hc
  · have hok := hv.1.1
    rw [valid_self hv] at hi10 hxx
    rw [progV_eq] at hi10 hxx
    refine cond_intro (fun hc => ?_) (fun _ => ?_)
    · simp [hv] at hc
    refine (c15 (hs.ext hx03) hok (by have := hv.2; omega)).mono fun e w6 ⟨s28, x28, he, hi28, hx28, hx6⟩ => ⟨s28, x28, he, Join.dir ?_⟩
    have hlen : ((refV h).getD []).length ≤ big := by
      cases hr : refV h with
      | none => simp
      | some p =>
        have hp := permsN_perm _ _ rfl p (List.mem_of_find?_eq_some hr)
        simp only [Option.getD_some]
        rw [hp.length_eq]
        exact Nat.le_trans (com_len h) (by decide)
    refine (c16 ((hi10.ext hx3).ext hx6) hi28 hlen).mono fun e w8 ⟨he, hx8⟩ => ⟨_, he, cond_intro (fun _ => cond_intro (fun _ => ?_) (fun hc => ?_)) (fun hc => ?_)⟩
    · exact (c14 w8).mono fun e w9 ⟨he, hx9⟩ => ⟨_, he, rfl, ((hx03.trans hx6).trans hx8).trans hx9⟩
    · simp [hxx, hx28] at hc
    · simp at hc
end Go.Proofs.Ytnbkihkdfhjlmaa
/-
  Strict two-phase locks, as an abstract machine, and its first laws.
-/
namespace Go.Proofs.Ytnbkihkdfhjlmaa
set_option maxHeartbeats 400000

/-- The operation at a place. -/
def opA (h : List Ev) (j : Nat) : Ev := h.getD j e0
theorem opA_at {h : List Ev} {j : Nat} (hj : j < h.length) : opA h j = h[j] := getD_at hj
/-- What strict two-phase locking has: who has which lock, what was done, who was aborted, what waits. -/
structure LS where
  sh : Int → Int → Bool
  ex : Int → Int → Bool
  dn : List Ev
  ab : List Int
  q : Int → List Nat
def LS.init : LS := ⟨fun _ _ => false, fun _ _ => false, [], [], fun _ => []⟩
/-- Does x hinder the operation? -/
def hind (st : LS) (o : Ev) (x : Int) : Bool := decide (x ≠ o.t) && ((decide (o.k < 2) && st.ex x o.i) || (decide (o.k = 1) && st.sh x o.i))
def hit (st : LS) (o : Ev) : Bool := six.any (hind st o)
def upq (q : Int → List Nat) (t : Int) (l : List Nat) : Int → List Nat := fun u => if u = t then l else q u
def relL (f : Int → Int → Bool) (t : Int) : Int → Int → Bool := fun x i => decide (x ≠ t) && f x i
def getL (f : Int → Int → Bool) (t i : Int) : Int → Int → Bool := fun x j => f x j || (decide (x = t) && decide (j = i))
/-- An operation is done. -/
def doL (st : LS) (o : Ev) : LS :=
  { st with dn := st.dn ++ [o],
            sh := if o.k = 0 then getL st.sh o.t o.i else if o.k = 1 then st.sh else relL st.sh o.t,
            ex := if o.k = 1 then getL st.ex o.t o.i else if o.k = 0 then st.ex else relL st.ex o.t }
def setq (st : LS) (t : Int) (l : List Nat) : LS := { st with q := upq st.q t l }
def abortL (st : LS) (t : Int) : LS := doL { setq st t [] with ab := st.ab ++ [t] } ⟨t, 3, 0⟩
/-- x waits for y. -/
def stepL (h : List Ev) (st : LS) (x y : Int) : Prop := ∃ j r, st.q x = j :: r ∧ hind st (opA h j) y = true
inductive Rch (R : Int → Int → Prop) (t : Int) : Int → Prop where
  | one {y : Int} : R t y → Rch R t y
  | more {x y : Int} : Rch R t x → R x y → Rch R t y
def caught (h : List Ev) (st : LS) (t : Int) : Prop := Rch (stepL h st) t t
open Classical in
/-- A transaction goes on with what it holds back. -/
noncomputable def goP (h : List Ev) (t : Int) : Nat → LS → LS
  | 0, st => st
  | n + 1, st =>
    match st.q t with
    | [] => st
    | j :: r => if hit st (opA h j) then (if caught h st t then abortL st t else st) else goP h t n (doL (setq st t r) (opA h j))
/-- Who goes on next. -/
def nextJ (h : List Ev) (st : LS) (j : Nat) : Bool := decide ((st.q (opA h j).t).head? = some j) && !hit st (opA h j)
def nextP (h : List Ev) (st : LS) : Option Int := ((List.range h.length).find? (nextJ h st)).map fun j => (opA h j).t
noncomputable def retryP (h : List Ev) : Nat → LS → LS
  | 0, st => st
  | n + 1, st =>
    match nextP h st with
    | none => st
    | some t => retryP h n (goP h t (st.q t).length st)
def total (st : LS) : Nat := (six.map fun t => (st.q t).length).sum
noncomputable def lockA (h : List Ev) (st : LS) (i : Nat) : LS :=
  if st.q (opA h i).t = [] then goP h (opA h i).t 1 (setq st (opA h i).t [i]) else setq st (opA h i).t (st.q (opA h i).t ++ [i])
noncomputable def lockStep (h : List Ev) (st : LS) (i : Nat) : LS :=
  if (opA h i).t ∈ st.ab then st else retryP h (total (lockA h st i)) (lockA h st i)
noncomputable def lockN (h : List Ev) : Nat → LS
  | 0 => LS.init
  | n + 1 => lockStep h (lockN h n) n
noncomputable def lockP (h : List Ev) : LS := lockN h h.length

/-! ### the queues -/
theorem upq_same (q : Int → List Nat) (t : Int) (l : List Nat) : upq q t l t = l := by unfold upq; rw [if_pos rfl]
theorem upq_other {q : Int → List Nat} {t u : Int} {l : List Nat} (h : u ≠ t) : upq q t l u = q u := by unfold upq; rw [if_neg h]
theorem doL_q (st : LS) (o : Ev) : (doL st o).q = st.q := rfl
theorem setq_q (st : LS) (t : Int) (l : List Nat) : (setq st t l).q = upq st.q t l := rfl
theorem abortL_q (st : LS) (t : Int) : (abortL st t).q = upq st.q t [] := rfl
/-- What holds of the queues and locks throughout. -/
structure Gd (h : List Ev) (st : LS) : Prop where
  q : ∀ t, ∀ j ∈ st.q t, j < h.length ∧ (opA h j).t = t
  srt : ∀ t, (st.q t).Pairwise (· < ·)
  sh : ∀ x i, st.sh x i = true → 1 ≤ x ∧ x ≤ 6
  ex : ∀ x i, st.ex x i = true → 1 ≤ x ∧ x ≤ 6
  one : ∀ x y i, st.ex x i = true → st.ex y i = true → x = y
theorem Gd.init (h : List Ev) : Gd h LS.init := ⟨by simp [LS.init], by simp [LS.init], by simp [LS.init], by simp [LS.init], by simp [LS.init]⟩
theorem hit_mem {h : List Ev} {st : LS} (g : Gd h st) {o : Ev} {x : Int} (hx : hind st o x = true) : hit st o = true := by
  unfold hit
  refine List.any_eq_true.2 ⟨x, mem_six.2 ?_, hx⟩
  unfold hind at hx
  simp only [Bool.and_eq_true, Bool.or_eq_true, decide_eq_true_eq] at hx
  rcases hx.2 with h1 | h1
  · exact g.ex _ _ h1.2
  · exact g.sh _ _ h1.2
theorem Gd.setq {h : List Ev} {st : LS} (g : Gd h st) (t : Int) {l : List Nat} (h1 : ∀ j ∈ l, j < h.length ∧ (opA h j).t = t) (h2 : l.Pairwise (· < ·)) : Gd h (setq st t l) := by
  refine ⟨fun u j hj => ?_, fun u => ?_, g.sh, g.ex, g.one⟩
  · rw [setq_q] at hj
    by_cases e : u = t
    · subst e; rw [upq_same] at hj; exact h1 j hj
    · rw [upq_other e] at hj; exact g.q u j hj
  · rw [setq_q]
    by_cases e : u = t
    · subst e; rw [upq_same]; exact h2
    · rw [upq_other e]; exact g.srt u
theorem Gd.doL {h : List Ev} {st : LS} (g : Gd h st) {o : Ev} (ho : okOp o) (hh : hit st o = false) : Gd h (doL st o) := by
  unfold okOp at ho
  refine ⟨g.q, g.srt, fun x i hx => ?_, fun x i hx => ?_, fun x y i hx hy => ?_⟩
  · unfold Go.Proofs.Ytnbkihkdfhjlmaa.doL at hx
    simp only at hx
    split at hx
    · unfold getL at hx
      simp only [Bool.or_eq_true, Bool.and_eq_true, decide_eq_true_eq] at hx
      rcases hx with hx | hx
      · exact g.sh _ _ hx
      · omega
    · split at hx
      · exact g.sh _ _ hx
      · unfold relL at hx; simp only [Bool.and_eq_true] at hx; exact g.sh _ _ hx.2
  · unfold Go.Proofs.Ytnbkihkdfhjlmaa.doL at hx
    simp only at hx
    split at hx
    · unfold getL at hx
      simp only [Bool.or_eq_true, Bool.and_eq_true, decide_eq_true_eq] at hx
      rcases hx with hx | hx
      · exact g.ex _ _ hx
      · omega
    · split at hx
      · exact g.ex _ _ hx
      · unfold relL at hx; simp only [Bool.and_eq_true] at hx; exact g.ex _ _ hx.2
  · unfold Go.Proofs.Ytnbkihkdfhjlmaa.doL at hx hy
    simp only at hx hy
    split at hx
    · rename_i hk
      rw [if_pos hk] at hy
      unfold getL at hx hy
      simp only [Bool.or_eq_true, Bool.and_eq_true, decide_eq_true_eq] at hx hy
      have hno : ∀ z, st.ex z o.i = true → z = o.t := fun z hz => by
        by_cases e : z = o.t
        · exact e
        · have : hind st o z = true := by unfold hind; simp [e, hz]; left; omega
          rw [hit_mem g this] at hh; cases hh
      rcases hx with hx | ⟨hx, hi⟩ <;> rcases hy with hy | ⟨hy, hi'⟩
      · exact g.one _ _ _ hx hy
      · subst hi'; rw [hy, hno _ hx]
      · subst hi; rw [hx, hno _ hy]
      · rw [hx, hy]
    · rename_i hk
      rw [if_neg hk] at hy
      split at hx
      · rename_i hk2; rw [if_pos hk2] at hy; exact g.one _ _ _ hx hy
      · rename_i hk2; rw [if_neg hk2] at hy
        unfold relL at hx hy
        simp only [Bool.and_eq_true] at hx hy
        exact g.one _ _ _ hx.2 hy.2
theorem hit_abort (st : LS) (t : Int) : hit st ⟨t, 3, 0⟩ = false := by
  unfold hit
  rw [List.any_eq_false]
  intro x _
  unfold hind; simp
theorem Gd.abortL {h : List Ev} {st : LS} (g : Gd h st) {t : Int} (h1 : 1 ≤ t) (h6 : t ≤ 6) : Gd h (abortL st t) := by
  have g1 : Gd h (Go.Proofs.Ytnbkihkdfhjlmaa.setq st t []) := Gd.setq g t (fun _ h => by cases h) List.Pairwise.nil
  have g2 : Gd h { Go.Proofs.Ytnbkihkdfhjlmaa.setq st t [] with ab := st.ab ++ [t] } := ⟨g1.q, g1.srt, g1.sh, g1.ex, g1.one⟩
  exact g2.doL (by unfold okOp; simp; omega) (hit_abort _ _)

/-! ### going on -/
open Classical in
theorem goP_succ {h : List Ev} {t : Int} {n : Nat} {st : LS} {j : Nat} {r : List Nat} (hq : st.q t = j :: r) :
    goP h t (n + 1) st = if hit st (opA h j) then (if caught h st t then abortL st t else st) else goP h t n (doL (setq st t r) (opA h j)) := by
  rw [goP, hq]
theorem hit_setq (st : LS) (t : Int) (l : List Nat) (o : Ev) : hit (setq st t l) o = hit st o := rfl
theorem goP_nil {h : List Ev} {t : Int} {st : LS} (hq : st.q t = []) : ∀ n, goP h t n st = st
  | 0 => rfl
  | n + 1 => by rw [goP, hq]
/-- A history's operations are operations. -/
def OkH (h : List Ev) : Prop := ∀ o ∈ h, okOp o
theorem OkH.at {h : List Ev} (ho : OkH h) {j : Nat} (hj : j < h.length) : okOp (opA h j) := by rw [opA_at hj]; exact ho _ (List.getElem_mem hj)
theorem Gd.range {h : List Ev} {st : LS} (g : Gd h st) (ho : OkH h) {t : Int} {j : Nat} {r : List Nat} (hq : st.q t = j :: r) : 1 ≤ t ∧ t ≤ 6 := by
  obtain ⟨hj, ht⟩ := g.q t j (by rw [hq]; simp)
  have := ho.at hj
  unfold okOp at this
  omega
theorem Gd.next {h : List Ev} {st : LS} (g : Gd h st) (ho : OkH h) {t : Int} {j : Nat} {r : List Nat} (hq : st.q t = j :: r) (hh : hit st (opA h j) = false) : Gd h (Go.Proofs.Ytnbkihkdfhjlmaa.doL (Go.Proofs.Ytnbkihkdfhjlmaa.setq st t r) (opA h j)) := by
  have hs := g.srt t
  rw [hq] at hs
  have hr : ∀ k ∈ r, k < h.length ∧ (opA h k).t = t := fun k hk => g.q t k (by rw [hq]; simp [hk])
  refine (Gd.setq g t hr (List.pairwise_cons.1 hs).2).doL (ho.at (g.q t j (by rw [hq]; simp)).1) hh
theorem goP_gd {h : List Ev} (ho : OkH h) {t : Int} : ∀ (n : Nat) {st : LS}, Gd h st → Gd h (goP h t n st)
  | 0, _, g => g
  | n + 1, st, g => by
    cases hq : st.q t with
    | nil => rw [goP_nil hq]; exact g
    | cons j r =>
      rw [goP_succ hq]
      split
      · split
        · have := g.range ho hq; exact g.abortL this.1 this.2
        · exact g
      · rename_i hh
        exact goP_gd ho n (g.next ho hq (by simpa using hh))
/-- The others' queues stay; its own is used up, or its head is hindered; or it was aborted. -/
theorem goP_other {h : List Ev} {t u : Int} (hu : u ≠ t) : ∀ (n : Nat) {st : LS}, (goP h t n st).q u = st.q u
  | 0, _ => rfl
  | n + 1, st => by
    cases hq : st.q t with
    | nil => rw [goP_nil hq]
    | cons j r =>
      rw [goP_succ hq]
      split
      · split
        · rw [abortL_q, upq_other hu]
        · rfl
      · rw [goP_other hu n, doL_q, setq_q, upq_other hu]
theorem goP_own {h : List Ev} {t : Int} : ∀ (n : Nat) {st : LS}, (st.q t).length ≤ n → (goP h t n st).q t = [] ∨ ∃ j r, (goP h t n st).q t = j :: r ∧ hit (goP h t n st) (opA h j) = true
  | 0, st, hl => .inl (by have : st.q t = [] := List.eq_nil_of_length_eq_zero (by omega)
                          rw [goP_nil this]; exact this)
  | n + 1, st, hl => by
    cases hq : st.q t with
    | nil => rw [goP_nil hq]; exact .inl hq
    | cons j r =>
      rw [goP_succ hq]
      split
      · rename_i hh
        split
        · exact .inl (by rw [abortL_q, upq_same])
        · exact .inr ⟨j, r, hq, hh⟩
      · refine goP_own n ?_
        rw [doL_q, setq_q, upq_same]
        rw [hq] at hl; simpa using hl
theorem goP_len {h : List Ev} {t : Int} : ∀ (n : Nat) {st : LS}, ((goP h t n st).q t).length ≤ (st.q t).length
  | 0, _ => Nat.le_refl _
  | n + 1, st => by
    cases hq : st.q t with
    | nil => rw [goP_nil hq, hq]; exact Nat.le_refl _
    | cons j r =>
      rw [goP_succ hq]
      split
      · split
        · rw [abortL_q, upq_same]; simp
        · rw [hq]; exact Nat.le_refl _
      · have := goP_len (h := h) (t := t) n (st := doL (setq st t r) (opA h j))
        rw [doL_q, setq_q, upq_same] at this
        simp; omega
theorem goP_lt {h : List Ev} {t : Int} {n : Nat} {st : LS} {j : Nat} {r : List Nat} (hq : st.q t = j :: r) (hh : hit st (opA h j) = false) : ((goP h t (n + 1) st).q t).length < (st.q t).length := by
  rw [goP_succ hq, if_neg (by simp [hh])]
  have := goP_len (h := h) (t := t) n (st := doL (setq st t r) (opA h j))
  rw [doL_q, setq_q, upq_same] at this
  rw [hq]; simp; omega

/-! ### who goes on next -/
def quiet (h : List Ev) (st : LS) : Prop := ∀ t j r, st.q t = j :: r → hit st (opA h j) = true
theorem nextP_none {h : List Ev} {st : LS} (g : Gd h st) : nextP h st = none ↔ quiet h st := by
  unfold nextP
  rw [Option.map_eq_none_iff, List.find?_eq_none]
  constructor
  · intro hn t j r hq
    obtain ⟨hj, ht⟩ := g.q t j (by rw [hq]; simp)
    have := hn j (by simpa using hj)
    unfold nextJ at this
    rw [ht, hq] at this
    simpa using this
  · intro hq j hj
    unfold nextJ
    cases hh : st.q (opA h j).t with
    | nil => simp
    | cons k r =>
      by_cases e : k = j
      · subst e
        have := hq _ _ _ hh
        simp at this ⊢
        rw [this]
      · simp [e]
theorem nextP_some {h : List Ev} {st : LS} {t : Int} (hn : nextP h st = some t) : ∃ j r, j < h.length ∧ (opA h j).t = t ∧ st.q t = j :: r ∧ hit st (opA h j) = false ∧ ∀ k < j, nextJ h st k = false := by
  unfold nextP at hn
  obtain ⟨j, hj, ht⟩ := Option.map_eq_some_iff.1 hn
  obtain ⟨h1, h2, h3, h4⟩ := List.find?_eq_some_iff_getElem.1 hj
  have hjl : j < h.length := by
    have := List.mem_of_find?_eq_some hj
    simpa using this
  have hk : ∀ k < j, nextJ h st k = false := fun k hk => by
    have hki : k < h2 := by
      have e : (List.range h.length)[h2] = j := h4.1
      rw [List.getElem_range] at e
      omega
    have := h4.2 k hki
    rw [List.getElem_range] at this
    simpa using this
  unfold nextJ at h1
  simp only [Bool.and_eq_true, decide_eq_true_eq, Bool.not_eq_true'] at h1
  rw [ht] at h1
  cases hq : st.q t with
  | nil => rw [hq] at h1; simp at h1
  | cons a r =>
    rw [hq] at h1
    simp only [List.head?_cons, Option.some.injEq] at h1
    obtain ⟨rfl, h1⟩ := h1
    exact ⟨a, r, hjl, ht, rfl, h1, hk⟩
theorem sum_lt {f g : Int → Nat} {t : Int} : ∀ {l : List Int}, t ∈ l → f t < g t → (∀ u, u ≠ t → f u = g u) → (l.map f).sum < (l.map g).sum
  | [], h, _, _ => by cases h
  | a :: r, h, hlt, he => by
    have hle : ∀ r : List Int, (r.map f).sum ≤ (r.map g).sum := fun r => by
      induction r with
      | nil => simp
      | cons b r ih =>
        simp only [List.map_cons, List.sum_cons]
        by_cases e : b = t
        · subst e; omega
        · rw [he b e]; omega
    simp only [List.map_cons, List.sum_cons]
    have := hle r
    by_cases e : a = t
    · subst e; omega
    · rw [he a e]
      rcases List.mem_cons.1 h with rfl | h
      · exact absurd rfl e
      · have := sum_lt h hlt he; omega
theorem next_total {h : List Ev} (ho : OkH h) {st : LS} (g : Gd h st) {t : Int} (hn : nextP h st = some t) : total (goP h t (st.q t).length st) < total st := by
  obtain ⟨j, r, _, _, hq, hh, _⟩ := nextP_some hn
  unfold total
  refine sum_lt (mem_six.2 (g.range ho hq)) ?_ fun u hu => by rw [goP_other hu]
  have hlen : (st.q t).length = r.length + 1 := by rw [hq]; rfl
  rw [hlen]
  have := goP_lt (n := r.length) hq hh
  omega
theorem retry_gd {h : List Ev} (ho : OkH h) : ∀ (n : Nat) {st : LS}, Gd h st → Gd h (retryP h n st)
  | 0, _, g => g
  | n + 1, st, g => by
    rw [retryP]
    cases hn : nextP h st with
    | none => exact g
    | some t => exact retry_gd ho n (goP_gd ho _ g)
theorem retry_quiet {h : List Ev} (ho : OkH h) : ∀ (n : Nat) {st : LS}, Gd h st → total st ≤ n → quiet h (retryP h n st)
  | 0, st, g, hl => by
    rw [retryP, ← nextP_none g]
    cases hn : nextP h st with
    | none => rfl
    | some t => have := next_total ho g hn; omega
  | n + 1, st, g, hl => by
    rw [retryP]
    cases hn : nextP h st with
    | none => exact (nextP_none g).1 hn
    | some t => exact retry_quiet ho n (goP_gd ho _ g) (by have := next_total ho g hn; omega)
theorem retry_same {h : List Ev} {st : LS} (g : Gd h st) (hq : quiet h st) : ∀ n, retryP h n st = st
  | 0 => rfl
  | n + 1 => by rw [retryP, (nextP_none g).2 hq]
/-- Enough rounds are enough. -/
theorem retry_more {h : List Ev} (ho : OkH h) : ∀ (n m : Nat) {st : LS}, Gd h st → total st ≤ n → n ≤ m → retryP h m st = retryP h n st
  | 0, m, st, g, hl, _ => by
    have := retry_quiet ho 0 g hl
    rw [retryP] at this
    rw [retry_same g this, retryP]
  | n + 1, 0, _, _, _, hm => by omega
  | n + 1, m + 1, st, g, hl, hm => by
    rw [retryP, retryP]
    cases hn : nextP h st with
    | none => rfl
    | some t => exact retry_more ho n m (goP_gd ho _ g) (by have := next_total ho g hn; omega) (by omega)
/-- One round more. -/
theorem retry_step {h : List Ev} (ho : OkH h) {st : LS} (g : Gd h st) {t : Int} (hn : nextP h st = some t) : retryP h (total st) st = retryP h (total (goP h t (st.q t).length st)) (goP h t (st.q t).length st) := by
  have hlt := next_total ho g hn
  obtain ⟨m, hm⟩ : ∃ m, total st = m + 1 := ⟨total st - 1, by omega⟩
  rw [hm, retryP, hn]
  exact retry_more ho _ m (goP_gd ho _ g) (Nat.le_refl _) (by omega)
/-- Locks that only grew. -/
def Grew (st st' : LS) : Prop := (∀ x i, st.sh x i = true → st'.sh x i = true) ∧ ∀ x i, st.ex x i = true → st'.ex x i = true
theorem Grew.refl (st : LS) : Grew st st := ⟨fun _ _ h => h, fun _ _ h => h⟩
theorem Grew.trans {a b c : LS} (h : Grew a b) (k : Grew b c) : Grew a c := ⟨fun x i h1 => k.1 x i (h.1 x i h1), fun x i h1 => k.2 x i (h.2 x i h1)⟩
theorem Grew.doL {st : LS} {o : Ev} (hk : o.k ≤ 1) (h0 : 0 ≤ o.k) (t : Int) (l : List Nat) : Grew st (Go.Proofs.Ytnbkihkdfhjlmaa.doL (setq st t l) o) := by
  have : o.k = 0 ∨ o.k = 1 := by omega
  unfold Go.Proofs.Ytnbkihkdfhjlmaa.doL
  rcases this with e | e <;> simp only [e] <;> constructor <;> intro x i hx
  · simp only [if_true]; unfold getL; simp [setq, hx]
  · simpa [setq] using hx
  · simpa [setq] using hx
  · simp only [if_true]; unfold getL; simp [setq, hx]
theorem Grew.hind {st st' : LS} (g : Grew st st') {o : Ev} {x : Int} (h : hind st o x = true) : hind st' o x = true := by
  unfold Go.Proofs.Ytnbkihkdfhjlmaa.hind at h ⊢
  simp only [Bool.and_eq_true, Bool.or_eq_true, decide_eq_true_eq] at h ⊢
  refine ⟨h.1, ?_⟩
  rcases h.2 with ⟨a, b⟩ | ⟨a, b⟩
  · exact .inl ⟨a, g.2 _ _ b⟩
  · exact .inr ⟨a, g.1 _ _ b⟩
theorem Grew.hit {st st' : LS} (g : Grew st st') {o : Ev} (h : hit st o = true) : hit st' o = true := by
  unfold Go.Proofs.Ytnbkihkdfhjlmaa.hit at h ⊢
  obtain ⟨x, hx, h1⟩ := List.any_eq_true.1 h
  exact List.any_eq_true.2 ⟨x, hx, g.hind h1⟩
/-- If nothing was released nobody else can go on. -/
theorem quiet_goP {h : List Ev} {st : LS} {t : Int} (hq : ∀ u, u ≠ t → ∀ j r, st.q u = j :: r → hit st (opA h j) = true) {n : Nat} (hl : (st.q t).length ≤ n) (g : Grew st (goP h t n st)) : quiet h (goP h t n st) := by
  intro u j r hu
  by_cases e : u = t
  · subst e
    rcases goP_own (h := h) n hl with h1 | ⟨j', r', h1, h2⟩
    · rw [h1] at hu; cases hu
    · rw [h1] at hu; cases hu; exact h2
  · rw [goP_other e] at hu
    exact g.hit (hq u e j r hu)
end Go.Proofs.Ytnbkihkdfhjlmaa
/-
  Plain laws of strict two-phase locks: what was done is a history in which nothing was hindered, and goes through again unchanged.
-/
namespace Go.Proofs.Ytnbkihkdfhjlmaa
set_option maxHeartbeats 400000

/-- The locks behind operations that were done. -/
def lks (l : List Ev) : LS := l.foldl doL LS.init
theorem lks_snoc (l : List Ev) (o : Ev) : lks (l ++ [o]) = doL (lks l) o := by unfold lks; rw [List.foldl_append]; rfl
theorem lks_dn (l : List Ev) : (lks l).dn = l := by
  have : ∀ (l : List Ev) (st : LS), (l.foldl doL st).dn = st.dn ++ l := by
    intro l
    induction l with
    | nil => intro st; simp
    | cons o r ih => intro st; rw [List.foldl_cons, ih]; simp [doL]
  unfold lks; rw [this]; simp [LS.init]
theorem lks_q (l : List Ev) : (lks l).q = fun _ => [] := by
  have : ∀ (l : List Ev) (st : LS), (l.foldl doL st).q = st.q := by
    intro l
    induction l with
    | nil => intro st; rfl
    | cons o r ih => intro st; rw [List.foldl_cons, ih]; rfl
  unfold lks; rw [this]; rfl
theorem lks_ab (l : List Ev) : (lks l).ab = [] := by
  have : ∀ (l : List Ev) (st : LS), (l.foldl doL st).ab = st.ab := by
    intro l
    induction l with
    | nil => intro st; rfl
    | cons o r ih => intro st; rw [List.foldl_cons, ih]; rfl
  unfold lks; rw [this]; rfl
/-- No operation was hindered when it was done. -/
def Clean (l : List Ev) : Prop := ∀ i, ∀ hi : i < l.length, hit (lks (l.take i)) l[i] = false
theorem clean_nil : Clean [] := fun i hi => by simp at hi
theorem clean_snoc {l : List Ev} {o : Ev} (hc : Clean l) (ho : hit (lks l) o = false) : Clean (l ++ [o]) := by
  intro i hi
  rcases Nat.lt_or_ge i l.length with h | h
  · rw [List.take_append_of_le_length (by omega), List.getElem_append_left h]; exact hc i h
  · have : i = l.length := by simp at hi; omega
    subst this
    simpa using ho
theorem hit_congr {a b : LS} (h1 : a.sh = b.sh) (h2 : a.ex = b.ex) (o : Ev) : hit a o = hit b o := by
  unfold hit hind; rw [h1, h2]
/-- The locks are those of what was done. -/
structure Dn (st : LS) : Prop where
  sh : st.sh = (lks st.dn).sh
  ex : st.ex = (lks st.dn).ex
  clean : Clean st.dn
theorem Dn.init : Dn LS.init := ⟨rfl, rfl, clean_nil⟩
theorem Dn.doL {st : LS} (d : Dn st) {o : Ev} (hh : hit st o = false) : Dn (Go.Proofs.Ytnbkihkdfhjlmaa.doL st o) := by
  have e : (Go.Proofs.Ytnbkihkdfhjlmaa.doL st o).dn = st.dn ++ [o] := rfl
  refine ⟨?_, ?_, ?_⟩
  · rw [e, lks_snoc]; unfold Go.Proofs.Ytnbkihkdfhjlmaa.doL; simp only; rw [d.sh]
  · rw [e, lks_snoc]; unfold Go.Proofs.Ytnbkihkdfhjlmaa.doL; simp only; rw [d.ex]
  · rw [e]; exact clean_snoc d.clean (by rw [← hit_congr d.sh d.ex]; exact hh)
theorem Dn.setq {st : LS} (d : Dn st) (t : Int) (l : List Nat) : Dn (Go.Proofs.Ytnbkihkdfhjlmaa.setq st t l) := ⟨d.sh, d.ex, d.clean⟩
theorem Dn.abortL {st : LS} (d : Dn st) (t : Int) : Dn (Go.Proofs.Ytnbkihkdfhjlmaa.abortL st t) := by
  have d2 : Dn { Go.Proofs.Ytnbkihkdfhjlmaa.setq st t [] with ab := st.ab ++ [t] } := ⟨d.sh, d.ex, d.clean⟩
  exact d2.doL (hit_abort _ _)

/-! ### transaction by transaction -/
def ofT (t : Int) (o : Ev) : Bool := decide (o.t = t)
def opsT (h : List Ev) (i : Nat) (t : Int) : List Ev := (h.take i).filter (ofT t)
/-- What becomes of a transaction's operations. -/
def TI (h : List Ev) (i : Nat) (st : LS) (t : Int) : Prop :=
  (t ∉ st.ab ∧ st.dn.filter (ofT t) ++ (st.q t).map (opA h) = opsT h i t) ∨
  (t ∈ st.ab ∧ st.q t = [] ∧ ∃ p o r, st.dn.filter (ofT t) = p ++ [⟨t, 3, 0⟩] ∧ opsT h i t = p ++ o :: r)
structure LI (h : List Ev) (i : Nat) (st : LS) : Prop where
  gd : Gd h st
  dn : Dn st
  ti : ∀ t, TI h i st t
  nd : st.ab.Nodup
  rg : ∀ t ∈ st.ab, 1 ≤ t ∧ t ≤ 6
theorem LI.init (h : List Ev) : LI h 0 LS.init := ⟨Gd.init h, Dn.init, fun t => .inl ⟨by simp [LS.init], by simp [LS.init, opsT]⟩, by simp [LS.init], by simp [LS.init]⟩
theorem LI.next {h : List Ev} (ho : OkH h) {i : Nat} {st : LS} (v : LI h i st) {t : Int} {j : Nat} {r : List Nat} (hq : st.q t = j :: r) (hh : hit st (opA h j) = false) : LI h i (doL (setq st t r) (opA h j)) := by
  have ht := (v.gd.q t j (by rw [hq]; simp)).2
  refine ⟨v.gd.next ho hq hh, (v.dn.setq t r).doL hh, fun u => ?_, v.nd, v.rg⟩
  have edn : (doL (setq st t r) (opA h j)).dn = st.dn ++ [opA h j] := rfl
  have eq' : (doL (setq st t r) (opA h j)).q = upq st.q t r := rfl
  have eab : (doL (setq st t r) (opA h j)).ab = st.ab := rfl
  unfold TI
  rw [edn, eq', eab]
  by_cases e : u = t
  · subst e
    rcases v.ti u with ⟨h1, h2⟩ | ⟨_, h2, _⟩
    · refine .inl ⟨h1, ?_⟩
      rw [upq_same, ← h2, hq, List.filter_append, List.map_cons, List.filter_cons, if_pos (by simp [ofT, ht])]
      simp
    · rw [hq] at h2; cases h2
  · have hf : (st.dn ++ [opA h j]).filter (ofT u) = st.dn.filter (ofT u) := by
      rw [List.filter_append, List.filter_cons, if_neg (by unfold ofT; rw [ht]; simpa using fun h => e h.symm)]; simp
    rw [hf, upq_other e]
    exact v.ti u
theorem LI.abortL {h : List Ev} (ho : OkH h) {i : Nat} {st : LS} (v : LI h i st) {t : Int} {j : Nat} {r : List Nat} (hq : st.q t = j :: r) : LI h i (Go.Proofs.Ytnbkihkdfhjlmaa.abortL st t) := by
  have hrg := v.gd.range ho hq
  have edn : (Go.Proofs.Ytnbkihkdfhjlmaa.abortL st t).dn = st.dn ++ [⟨t, 3, 0⟩] := rfl
  have eq' : (Go.Proofs.Ytnbkihkdfhjlmaa.abortL st t).q = upq st.q t [] := rfl
  have eab : (Go.Proofs.Ytnbkihkdfhjlmaa.abortL st t).ab = st.ab ++ [t] := rfl
  have hnot : t ∉ st.ab := fun hm => by
    rcases v.ti t with ⟨h1, _⟩ | ⟨_, h2, _⟩
    · exact h1 hm
    · rw [hq] at h2; cases h2
  refine ⟨v.gd.abortL hrg.1 hrg.2, v.dn.abortL t, fun u => ?_, ?_, ?_⟩
  · unfold TI
    rw [edn, eq', eab]
    by_cases e : u = t
    · subst e
      rcases v.ti u with ⟨h1, h2⟩ | ⟨_, h2, _⟩
      · refine .inr ⟨by simp, upq_same .., st.dn.filter (ofT u), opA h j, r.map (opA h), ?_, ?_⟩
        · rw [List.filter_append, List.filter_cons, if_pos (by simp [ofT])]; rfl
        · rw [← h2, hq]; rfl
      · rw [hq] at h2; cases h2
    · have hf : (st.dn ++ [(⟨t, 3, 0⟩ : Ev)]).filter (ofT u) = st.dn.filter (ofT u) := by
        rw [List.filter_append, List.filter_cons, if_neg (by unfold ofT; simpa using fun h => e h.symm)]; simp
      rw [hf, upq_other e]
      rcases v.ti u with ⟨h1, h2⟩ | ⟨h1, h2⟩
      · exact .inl ⟨by simp [h1, e], h2⟩
      · exact .inr ⟨by simp [h1], h2⟩
  · rw [eab, List.nodup_append]
    exact ⟨v.nd, by simp, by intro a ha b hb e; simp at hb; subst hb; subst e; exact hnot ha⟩
  · rw [eab]
    intro u hu
    rcases List.mem_append.1 hu with hu | hu
    · exact v.rg u hu
    · simp at hu; subst hu; exact hrg
theorem LI.goP {h : List Ev} (ho : OkH h) {i : Nat} {t : Int} : ∀ (n : Nat) {st : LS}, LI h i st → LI h i (Go.Proofs.Ytnbkihkdfhjlmaa.goP h t n st)
  | 0, _, v => v
  | n + 1, st, v => by
    cases hq : st.q t with
    | nil => rw [goP_nil hq]; exact v
    | cons j r =>
      rw [goP_succ hq]
      split
      · split
        · exact v.abortL ho hq
        · exact v
      · rename_i hh
        exact LI.goP ho n (v.next ho hq (by simpa using hh))
theorem LI.retry {h : List Ev} (ho : OkH h) {i : Nat} : ∀ (n : Nat) {st : LS}, LI h i st → LI h i (retryP h n st)
  | 0, _, v => v
  | n + 1, st, v => by
    rw [retryP]
    cases nextP h st with
    | none => exact v
    | some t => exact LI.retry ho n (LI.goP ho _ v)
theorem opsT_same {h : List Ev} {i : Nat} (hi : i < h.length) : opsT h (i + 1) (opA h i).t = opsT h i (opA h i).t ++ [opA h i] := by
  unfold opsT
  rw [List.take_succ_eq_append_getElem hi, List.filter_append, List.filter_cons, if_pos (by rw [opA_at hi]; simp [ofT]), opA_at hi]; rfl
theorem opsT_other {h : List Ev} {i : Nat} (hi : i < h.length) {t : Int} (ht : t ≠ (opA h i).t) : opsT h (i + 1) t = opsT h i t := by
  unfold opsT
  rw [opA_at hi] at ht
  rw [List.take_succ_eq_append_getElem hi, List.filter_append, List.filter_cons, if_neg (by unfold ofT; simpa using fun h => ht h.symm)]; simp
theorem LI.add {h : List Ev} {i : Nat} (hi : i < h.length) {st : LS} (v : LI h i st) (hlt : ∀ t, ∀ j ∈ st.q t, j < i) (hn : (opA h i).t ∉ st.ab) : LI h (i + 1) (setq st (opA h i).t (st.q (opA h i).t ++ [i])) := by
  refine ⟨Gd.setq v.gd _ (fun j hj => ?_) ?_, v.dn.setq _ _, fun u => ?_, v.nd, v.rg⟩
  · rcases List.mem_append.1 hj with hj | hj
    · exact v.gd.q _ j hj
    · simp at hj; subst hj; exact ⟨hi, rfl⟩
  · rw [List.pairwise_append]
    exact ⟨v.gd.srt _, by simp, fun a ha b hb => by simp at hb; subst hb; exact hlt _ a ha⟩
  · show (u ∉ st.ab ∧ st.dn.filter (ofT u) ++ (upq st.q (opA h i).t (st.q (opA h i).t ++ [i]) u).map (opA h) = opsT h (i + 1) u) ∨
      (u ∈ st.ab ∧ upq st.q (opA h i).t (st.q (opA h i).t ++ [i]) u = [] ∧ ∃ p o r, st.dn.filter (ofT u) = p ++ [⟨u, 3, 0⟩] ∧ opsT h (i + 1) u = p ++ o :: r)
    by_cases e : u = (opA h i).t
    · subst e
      rcases v.ti (opA h i).t with ⟨h1, h2⟩ | ⟨h1, _⟩
      · refine .inl ⟨hn, ?_⟩
        rw [upq_same, opsT_same hi, ← h2]; simp
      · exact absurd h1 hn
    · rw [upq_other e, opsT_other hi e]
      exact v.ti u
theorem LI.skip {h : List Ev} {i : Nat} (hi : i < h.length) {st : LS} (v : LI h i st) (hn : (opA h i).t ∈ st.ab) : LI h (i + 1) st := by
  refine ⟨v.gd, v.dn, fun u => ?_, v.nd, v.rg⟩
  by_cases e : u = (opA h i).t
  · subst e
    rcases v.ti (opA h i).t with ⟨h1, _⟩ | ⟨h1, h2, p, o, r, h3, h4⟩
    · exact absurd hn h1
    · exact .inr ⟨h1, h2, p, o, r ++ [opA h i], h3, by rw [opsT_same hi, h4]; simp⟩
  · unfold TI; rw [opsT_other hi e]; exact v.ti u
/-- Queues hold places that are past. -/
theorem goP_sub {h : List Ev} {t u : Int} : ∀ (n : Nat) {st : LS}, ∀ j ∈ (goP h t n st).q u, j ∈ st.q u
  | 0, _ => fun _ h => h
  | n + 1, st => by
    intro j hj
    by_cases e : u = t
    · subst e
      cases hq : st.q u with
      | nil => rw [goP_nil hq, hq] at hj; exact hj
      | cons k r =>
        rw [goP_succ hq] at hj
        split at hj
        · split at hj
          · rw [abortL_q, upq_same] at hj; cases hj
          · rw [hq] at hj; exact hj
        · have := goP_sub n j hj
          rw [doL_q, setq_q, upq_same] at this
          exact List.mem_cons_of_mem _ this
    · rw [goP_other e] at hj; exact hj
theorem retry_sub {h : List Ev} {u : Int} : ∀ (n : Nat) {st : LS}, ∀ j ∈ (retryP h n st).q u, j ∈ st.q u
  | 0, _ => fun _ h => h
  | n + 1, st => by
    intro j hj
    rw [retryP] at hj
    cases hn : nextP h st with
    | none => rw [hn] at hj; exact hj
    | some t => rw [hn] at hj; exact goP_sub _ j (retry_sub n j hj)
theorem lockA_eq {h : List Ev} {st : LS} {i : Nat} : lockA h st i = if st.q (opA h i).t = [] then goP h (opA h i).t 1 (setq st (opA h i).t (st.q (opA h i).t ++ [i])) else setq st (opA h i).t (st.q (opA h i).t ++ [i]) := by
  unfold lockA
  split
  · rename_i e; rw [e]; rfl
  · rfl
/-- All that is kept, step by step. -/
structure LJ (h : List Ev) (i : Nat) (st : LS) : Prop where
  li : LI h i st
  lt : ∀ t, ∀ j ∈ st.q t, j < i
  qt : quiet h st
theorem LI.lockA {h : List Ev} (ho : OkH h) {i : Nat} (hi : i < h.length) {st : LS} (v : LI h i st) (hlt : ∀ t, ∀ j ∈ st.q t, j < i) (hn : (opA h i).t ∉ st.ab) : LI h (i + 1) (Go.Proofs.Ytnbkihkdfhjlmaa.lockA h st i) := by
  rw [lockA_eq]
  split
  · exact LI.goP ho _ (v.add hi hlt hn)
  · exact v.add hi hlt hn
theorem lockA_lt {h : List Ev} {i : Nat} {st : LS} (hlt : ∀ t, ∀ j ∈ st.q t, j < i) : ∀ t, ∀ j ∈ (lockA h st i).q t, j < i + 1 := by
  intro t j hj
  have hadd : ∀ j ∈ (setq st (opA h i).t (st.q (opA h i).t ++ [i])).q t, j < i + 1 := fun j hj => by
    rw [setq_q] at hj
    by_cases e : t = (opA h i).t
    · subst e
      rw [upq_same] at hj
      rcases List.mem_append.1 hj with hj | hj
      · have := hlt _ _ hj; omega
      · simp at hj; omega
    · rw [upq_other e] at hj; have := hlt _ _ hj; omega
  rw [lockA_eq] at hj
  split at hj
  · exact hadd j (goP_sub _ j hj)
  · exact hadd j hj
theorem LJ.step {h : List Ev} (ho : OkH h) {i : Nat} (hi : i < h.length) {st : LS} (v : LJ h i st) : LJ h (i + 1) (lockStep h st i) := by
  unfold lockStep
  split
  · rename_i hn
    exact ⟨v.li.skip hi hn, fun t j hj => by have := v.lt t j hj; omega, v.qt⟩
  · rename_i hn
    have h1 := v.li.lockA ho hi v.lt hn
    exact ⟨LI.retry ho _ h1, fun t j hj => lockA_lt v.lt t j (retry_sub _ j hj), retry_quiet ho _ h1.gd (Nat.le_refl _)⟩
theorem lockN_lj {h : List Ev} (ho : OkH h) : ∀ n, n ≤ h.length → LJ h n (lockN h n)
  | 0, _ => ⟨LI.init h, by simp [lockN, LS.init], fun t j r hq => by simp [lockN, LS.init] at hq⟩
  | n + 1, hn => (lockN_lj ho n (by omega)).step ho (by omega)
theorem lockP_lj {h : List Ev} (ho : OkH h) : LJ h h.length (lockP h) := lockN_lj ho _ (Nat.le_refl _)

/-! ### what was done is a history -/
theorem len_six : ∀ {l : List Ev}, (∀ o ∈ l, 1 ≤ o.t ∧ o.t ≤ 6) → l.length = (six.map fun t => (l.filter (ofT t)).length).sum
  | [], _ => by simp [six]
  | o :: r, h => by
    have ih := len_six (l := r) fun p hp => h p (by simp [hp])
    have ho := h o (by simp)
    simp only [six, List.map_cons, List.map_nil, List.sum_cons, List.sum_nil] at ih ⊢
    have hc : ∀ t, ((o :: r).filter (ofT t)).length = (r.filter (ofT t)).length + if o.t = t then 1 else 0 := fun t => by
      rw [List.filter_cons]
      by_cases e : o.t = t
      · rw [if_pos (by simp [ofT, e]), if_pos e]; rfl
      · rw [if_neg (by simp [ofT, e]), if_neg e]; rfl
    rw [List.length_cons, hc, hc, hc, hc, hc, hc]
    have : o.t = 1 ∨ o.t = 2 ∨ o.t = 3 ∨ o.t = 4 ∨ o.t = 5 ∨ o.t = 6 := by omega
    rcases this with e | e | e | e | e | e <;> simp [e] <;> omega
theorem pairwise_filters : ∀ {l : List Ev}, (∀ t, (l.filter (ofT t)).Pairwise apart) → l.Pairwise apart
  | [], _ => List.Pairwise.nil
  | a :: r, h => by
    refine List.pairwise_cons.2 ⟨fun b hb => ?_, pairwise_filters fun t => ?_⟩
    · by_cases e : a.t = b.t
      · have := h a.t
        rw [List.filter_cons, if_pos (by simp [ofT])] at this
        exact (List.pairwise_cons.1 this).1 b (List.mem_filter.2 ⟨hb, by simp [ofT, e]⟩)
      · exact fun h => e h.1
    · have := h t
      rw [List.filter_cons] at this
      split at this
      · exact (List.pairwise_cons.1 this).2
      · exact this
/-- Of each transaction: the first of its operations; or some that do not end it, and an abort. -/
theorem done_of {h : List Ev} (hv : Wf h) {st : LS} (v : LI h h.length st) (t : Int) :
    (t ∉ st.ab ∧ ∃ q, st.dn.filter (ofT t) ++ q = h.filter (ofT t)) ∨
    (t ∈ st.ab ∧ ∃ p o r, st.dn.filter (ofT t) = p ++ [⟨t, 3, 0⟩] ∧ h.filter (ofT t) = p ++ o :: r ∧ ∀ x ∈ p, x.k ≤ 1) := by
  have e : opsT h h.length t = h.filter (ofT t) := by unfold opsT; rw [List.take_length]
  rcases v.ti t with ⟨h1, h2⟩ | ⟨h1, _, p, o, r, h3, h4⟩
  · rw [e] at h2; exact .inl ⟨h1, _, h2⟩
  · rw [e] at h4
    refine .inr ⟨h1, p, o, r, h3, h4, fun x hx => ?_⟩
    have hp : (h.filter (ofT t)).Pairwise apart := hv.2.filter _
    have hxm : x ∈ h.filter (ofT t) := by rw [h4]; simp [hx]
    have hom : o ∈ h.filter (ofT t) := by rw [h4]; simp
    have hxt : x.t = t := by simpa [ofT] using (List.mem_filter.1 hxm).2
    have hot : o.t = t := by simpa [ofT] using (List.mem_filter.1 hom).2
    rw [h4] at hp
    have := (List.pairwise_append.1 hp).2.2 x hx o (by simp)
    unfold apart at this
    have hk : ¬ 1 < x.k := fun hk => this ⟨by rw [hxt, hot], hk⟩
    omega
theorem done_mem {h : List Ev} (hv : Wf h) {st : LS} (v : LI h h.length st) {o : Ev} (ho : o ∈ st.dn) : o ∈ h ∨ (o.t ∈ st.ab ∧ o = ⟨o.t, 3, 0⟩) := by
  have hm : o ∈ st.dn.filter (ofT o.t) := List.mem_filter.2 ⟨ho, by simp [ofT]⟩
  rcases done_of hv v o.t with ⟨_, q, hq⟩ | ⟨hab, p, x, r, h1, h2, _⟩
  · have : o ∈ h.filter (ofT o.t) := by rw [← hq]; simp [hm]
    exact .inl (List.mem_filter.1 this).1
  · rw [h1] at hm
    rcases List.mem_append.1 hm with hm | hm
    · have : o ∈ h.filter (ofT o.t) := by rw [h2]; simp [hm]
      exact .inl (List.mem_filter.1 this).1
    · simp at hm; exact .inr ⟨hab, hm⟩
theorem done_okH {h : List Ev} (hv : Wf h) {st : LS} (v : LI h h.length st) : OkH st.dn := by
  intro o ho
  rcases done_mem hv v ho with h1 | ⟨h1, h2⟩
  · exact hv.1 o h1
  · have := v.rg _ h1
    rw [h2]; unfold okOp; simp; omega
theorem done_valid {h : List Ev} (hv : Valid h) {st : LS} (v : LI h h.length st) : Valid st.dn := by
  have hok := done_okH hv.1 v
  refine ⟨⟨hok, pairwise_filters fun t => ?_⟩, ?_⟩
  · rcases done_of hv.1 v t with ⟨_, q, hq⟩ | ⟨_, p, x, r, h1, h2, h3⟩
    · have : (h.filter (ofT t)).Pairwise apart := hv.1.2.filter _
      rw [← hq] at this
      exact (List.pairwise_append.1 this).1
    · rw [h1, List.pairwise_append]
      have : (h.filter (ofT t)).Pairwise apart := hv.1.2.filter _
      rw [h2] at this
      refine ⟨(List.pairwise_append.1 this).1, by simp, fun a ha b _ hab => ?_⟩
      have := h3 a ha
      omega
  · have h1 := len_six (l := st.dn) fun o ho => by have := hok o ho; unfold okOp at this; omega
    have h2 := len_six (l := h) fun o ho => by have := hv.1.1 o ho; unfold okOp at this; omega
    have hle : ∀ t, (st.dn.filter (ofT t)).length ≤ (h.filter (ofT t)).length := fun t => by
      rcases done_of hv.1 v t with ⟨_, q, hq⟩ | ⟨_, p, x, r, h1, h2, h3⟩
      · rw [← hq]; simp
      · rw [h1, h2]; simp
    have := hv.2
    simp only [six, List.map_cons, List.map_nil, List.sum_cons, List.sum_nil] at h1 h2
    have a1 := hle 1
    have a2 := hle 2
    have a3 := hle 3
    have a4 := hle 4
    have a5 := hle 5
    have a6 := hle 6
    omega
theorem done_abort {h : List Ev} (hv : Wf h) {st : LS} (v : LI h h.length st) {t : Int} (ht : t ∈ st.ab) : (⟨t, 3, 0⟩ : Ev) ∈ st.dn ∧ ∀ o ∈ st.dn, o.t = t → o.k ≠ 2 := by
  rcases done_of hv v t with ⟨h1, _⟩ | ⟨_, p, x, r, h1, h2, h3⟩
  · exact absurd ht h1
  · refine ⟨(List.mem_filter.1 (show (⟨t, 3, 0⟩ : Ev) ∈ st.dn.filter (ofT t) by rw [h1]; simp)).1, fun o ho hot => ?_⟩
    have : o ∈ st.dn.filter (ofT t) := List.mem_filter.2 ⟨ho, by simp [ofT, hot]⟩
    rw [h1] at this
    rcases List.mem_append.1 this with hm | hm
    · have := h3 o hm; omega
    · simp at hm; subst hm; simp

/-! ### locking what locking made -/
theorem lock_again {l : List Ev} (hc : Clean l) : ∀ n, n ≤ l.length → lockN l n = lks (l.take n)
  | 0, _ => rfl
  | n + 1, hn => by
    have hi : n < l.length := by omega
    rw [lockN, lock_again hc n (by omega), List.take_succ_eq_append_getElem hi, lks_snoc]
    have hq : (lks (l.take n)).q = fun _ => [] := lks_q _
    unfold lockStep
    rw [if_neg (by rw [lks_ab]; simp)]
    have hA : lockA l (lks (l.take n)) n = doL (lks (l.take n)) l[n] := by
      have e := lockA_eq (h := l) (st := lks (l.take n)) (i := n)
      rw [e, if_pos (by rw [hq])]
      have e2 : (setq (lks (l.take n)) (opA l n).t ((lks (l.take n)).q (opA l n).t ++ [n])).q (opA l n).t = n :: [] := by rw [setq_q, upq_same, hq]; rfl
      rw [goP_succ e2, hit_setq, opA_at hi, hc n hi]
      simp only [Bool.false_eq_true, if_false, goP]
      congr 1
      unfold setq
      simp only
      have : upq (upq (lks (l.take n)).q l[n].t ((lks (l.take n)).q l[n].t ++ [n])) l[n].t [] = (lks (l.take n)).q := by
        funext u; unfold upq
        by_cases e : u = l[n].t
        · rw [if_pos e, hq]
        · rw [if_neg e, if_neg e]
      rw [this]
    rw [hA]
    have ht : total (doL (lks (l.take n)) l[n]) = 0 := by
      unfold total
      rw [doL_q, hq]; rfl
    rw [ht, retryP]
theorem lock_twice {l : List Ev} (hc : Clean l) : (lockP l).dn = l ∧ (lockP l).ab = [] := by
  have := lock_again hc l.length (Nat.le_refl _)
  rw [List.take_length] at this
  unfold lockP
  rw [this]
  exact ⟨lks_dn l, lks_ab l⟩
end Go.Proofs.Ytnbkihkdfhjlmaa
