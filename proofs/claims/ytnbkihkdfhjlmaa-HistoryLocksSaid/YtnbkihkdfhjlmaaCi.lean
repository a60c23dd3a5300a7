/-
  Contracts: views that are the same, in the program and in the reference.
-/
import Derived.Test.YtnbkihkdfhjlmaaCh
namespace Go.Proofs.Ytnbkihkdfhjlmaa
open Go Go.VC
set_option maxHeartbeats 400000

theorem A63 : IntArr Try.prog 63 3 6 := ⟨by kernel_rfl, by kernel_rfl, by kernel_rfl, by kernel_rfl⟩
/-- Two histories whose views are the same. -/
def SameV (h h' : List Ev) : Prop := (∀ t, 1 ≤ t → t ≤ 6 → reads h t = reads h' t) ∧ lasts h = lasts h'
theorem lasts_len (h : List Ev) : (lasts h).length = 6 := rfl

theorem c39 {w : World} {m m' : Option Nat} {a b c d e f a' b' c' d' e' f' : Int} {h h' : List Ev} (v : ViewV w m [a, b, c, d, e, f] h) (v' : ViewV w m' [a', b', c', d', e', f'] h') (hl : h.length ≤ 1000) :
    Calls Try.prog 39 [.agg [.map m, .int .i64 a, .int .i64 b, .int .i64 c, .int .i64 d, .int .i64 e, .int .i64 f].toArray, .agg [.map m', .int .i64 a', .int .i64 b', .int .i64 c', .int .i64 d', .int .i64 e', .int .i64 f'].toArray].toArray w
      fun ee w' => ∃ r : Bool, ee = .returned (.bool r) ∧ (r = true ↔ SameV h h') ∧ Ext w w' := by
  refine (call39 m a b c d e f m' a' b' c' d' e' f' (R := fun v w' => ∃ r : Bool, v = (.bool r) ∧ (r = true ↔ SameV h h') ∧ Ext w w') ?_).mono fun ee w' ⟨v, he, r, hv, hx⟩ => ⟨r, by rw [he, hv], hx⟩
  refine Let.intro fun w1 e1 => Let.intro fun w2 e2 => ?_
  have hx1 : Ext w w1 := by rw [e1]; exact Ext.alloc ..
  have hx2 : Ext w1 w2 := by rw [e2]; exact Ext.alloc ..
  have hb1 : Blk w1 w.heap.size [.map m, .int .i64 a, .int .i64 b, .int .i64 c, .int .i64 d, .int .i64 e, .int .i64 f] 65 := by rw [e1]; exact Blk.alloc ..
  have hb2 : Blk w2 w1.heap.size [.map m', .int .i64 a', .int .i64 b', .int .i64 c', .int .i64 d', .int .i64 e', .int .i64 f'] 65 := by rw [e2]; exact Blk.alloc ..
  have hrl : ∀ t, (reads h t).length ≤ 1000 := fun t => by
    unfold reads rds
    rw [List.length_map]
    refine Nat.le_trans (List.length_filter_le ..) ?_
    simpa using hl
  refine Join.dir (LoopV.intro (fun n (x : Int) w' => 1 ≤ x ∧ x ≤ 7 ∧ (n : Int) = 7 - x ∧ (∀ t, 1 ≤ t → t < x → reads h t = reads h' t) ∧ Ext w2 w') 6 ⟨by omega, by omega, by omega, fun t h1 h2 => by omega, Fr.refl _ _⟩ ?_)
  rintro n (x : Int) w4 ⟨h1, h2, hn, hall, hx4⟩
  have hx04 : Ext w w4 := (hx1.trans hx2).trans hx4
  refine cond_intro (fun hc => ?_) (fun hc => ?_)
  · have hc : x ≤ 6 := by simpa using hc
    obtain ⟨bb, l, cc, rfl, hm, hr⟩ := (v.ext hx04).ex
    obtain ⟨bb', l', cc', rfl, hm', hr'⟩ := (v'.ext hx04).ex
    refine Join.dir ⟨_, (hb1.ext (hx2.trans hx4)).cell 0, sAt l x, lookS hm x, _, (hb2.ext hx4).cell 0, sAt l' x, lookS hm' x, ?_⟩
    refine (c16 (hr x) (hr' x) (Nat.le_trans (hrl x) (by decide))).mono fun ee w6 ⟨he, hx6⟩ => ⟨_, he, cond_intro (fun hq => ?_) (fun hq => ?_)⟩
    · refine ⟨false, rfl, ⟨fun h => (by cases h), fun hs => ?_⟩, hx04.trans hx6⟩
      have := hs.1 x h1 hc
      simp [this] at hq
    · have hq : reads h x = reads h' x := by simpa using hq
      refine ⟨(6 - x).toNat, by omega, ?_⟩
      rw [wrap64 (by omega) (by omega)]
      refine ⟨by omega, by omega, by omega, fun t h3 h4 => ?_, hx4.trans hx6⟩
      by_cases e : t = x
      · subst e; exact hq
      · exact hall t h3 (by omega)
  · have hc : x = 7 := by have : ¬ x ≤ 6 := by simpa using hc
                          omega
    subst hc
    have h3 := v.last
    have h4 := v'.last
    have hq := aggEq_ints A63 (xs := lasts h) (ys := lasts h') rfl rfl
    refine ⟨(lasts h).map (Value.int .i64), rfl, ?_, (lasts h').map (Value.int .i64), rfl, ?_, decide (lasts h = lasts h'), hq, decide (lasts h = lasts h'), rfl, ?_, hx04⟩
    · rw [← h3]; exact ((hb1.ext (hx2.trans hx4)).rd).2
    · rw [← h4]; exact ((hb2.ext hx4).rd).2
    · rw [decide_eq_true_iff]
      exact ⟨fun h5 => ⟨fun t h6 h7 => hall t h6 (by omega), h5⟩, fun h5 => h5.2⟩

/-- The reference's view. -/
def six : List Int := [1, 2, 3, 4, 5, 6]
def viewL (h : List Ev) : List Int := six.flatMap (reads h) ++ lasts h
theorem zc63 : zc Try.prog 63 = [.int .i64 0, .int .i64 0, .int .i64 0, .int .i64 0, .int .i64 0, .int .i64 0].toArray := by kernel_rfl
theorem six_at {i : Nat} (hi : i < six.length) : six[i] = (i : Int) + 1 := by
  have : ∀ i : Fin 6, six[i.1]'(by simp [six]) = (i.1 : Int) + 1 := by decide
  exact this ⟨i, by simpa [six] using hi⟩
theorem flat_len {h : List Ev} (hr : ∀ t n, (rds h t n).length ≤ n) : ∀ l : List Int, (l.flatMap (reads h)).length ≤ l.length * h.length
  | [] => by simp
  | t :: r => by
    have := flat_len hr r
    have h2 : (reads h t).length ≤ h.length := hr t _
    rw [List.flatMap_cons, List.length_append, List.length_cons, Nat.add_mul]; omega
theorem rds_len (h : List Ev) (t : Int) (n : Nat) : (rds h t n).length ≤ n := by
  unfold rds
  rw [List.length_map]
  refine Nat.le_trans (List.length_filter_le ..) ?_
  simp

theorem c69 {w : World} {s : Sl} {h : List Ev} (hs : Hs w s h) (hok : ∀ o ∈ h, okOp o) (hl : h.length ≤ 1000) :
    Calls Try.prog 69 [.slice s.a s.n s.c].toArray w fun e w' => ∃ s' : Sl, e = .returned (.slice s'.a s'.n s'.c) ∧ Own 3 1 eI w.heap.size w' s' (viewL h) ∧ Ext w w' := by
  refine (call69 s (R := fun v w' => ∃ s' : Sl, v = .slice s'.a s'.n s'.c ∧ Own 3 1 eI w.heap.size w' s' (viewL h) ∧ Ext w w') ?_).mono fun e w' ⟨v, he, s', hv, hx⟩ => ⟨s', by rw [he, hv], hx⟩
  have hn := hs.len
  have hbig : h.length ≤ big := by show h.length ≤ 9223372036854775807; omega
  refine (c92 hs hok hl).mono fun e w1 ⟨s12, he, ho12, hx1⟩ => ⟨s12, he, ?_⟩
  have hn12 : s12.n = h.length := by have := ho12.1; simpa [frm] using this
  refine Join.dir (LoopV.intro (fun n (s' : Sl) (x : Int) w' => ∃ i : Nat, x = (i : Int) + 1 ∧ i ≤ 6 ∧ n = 6 - i ∧ Own 3 1 eI w1.heap.size w' s' ((six.take i).flatMap (reads h)) ∧ Ext w1 w') 6
    ⟨0, rfl, by omega, by omega, Own.nil .., Fr.refl _ _⟩ ?_)
  rintro n s4 x w12 ⟨i, rfl, hi, rfl, ho, hx⟩
  refine cond_intro (fun hc => ?_) (fun hc => ?_)
  · have hi6 : i < 6 := by have : (i : Int) + 1 ≤ 6 := by simpa using hc
                           omega
    have hil : i < six.length := by simpa [six] using hi6
    refine Join.dir (Join.dir (rangeSI (fun j (s' : Sl) w' => Own 3 1 eI w1.heap.size w' s' ((six.take i).flatMap (reads h) ++ rds h ((i : Int) + 1) j) ∧ Ext w1 w') (by rw [hn]; exact hbig) ⟨by simpa [rds] using ho, hx⟩ ?_ ?_))
    · rintro j hj s5 w15 ⟨ho5, hx5⟩ K hK
      have hj : j < h.length := by omega
      refine loadEv ((hs.ext hx1).ext hx5) hj zc37 fun w18 hb hx18 => ?_
      have ho18 := ho5.ext hx18
      refine ⟨fun (b : Bool) w' => b = decide (h[j].t = (i : Int) + 1 ∧ h[j].k = 0) ∧ w' = w18, ?_, ?_⟩
      · rintro b w19 ⟨rfl, rfl⟩
        refine Join.dir (cond_intro (fun hg => ?_) (fun hg => ?_))
        · have hg : h[j].t = (i : Int) + 1 ∧ h[j].k = 0 := by simpa using hg
          have hj9 : j < (frm h).length := by simp [frm]; exact hj
          obtain ⟨p, hp, h1, h2, hr⟩ := Ints.at ((ho12.sli.ext hx5).ext hx18) hj9
          rw [show (frm h)[j] = frm1 h j from by simp [frm]] at hr
          have hlen : ((six.take i).flatMap (reads h) ++ rds h ((i : Int) + 1) j).length ≤ 1000000 := by
            rw [List.length_append]
            have h1 := flat_len (rds_len h) (six.take i)
            have h2 := rds_len h ((i : Int) + 1) j
            have h3 : (six.take i).length * h.length ≤ 6 * 1000 := Nat.mul_le_mul (by simp; omega) hl
            omega
          obtain ⟨s1, w9, e9, s2, w10, e10, ho2, hf⟩ := appendInt ho18 (frm1 h j) hlen (by have := (hx5.trans hx18).size; omega)
          refine ⟨p, hp, h1, h2, _, hr, s1, w9, e9, s2, w10, e10, hK _ _ ⟨?_, Own.newer ho18 (hx5.trans hx18) hf (Nat.le_refl _)⟩⟩
          rw [rds_step hj, if_pos hg, ← List.append_assoc]; exact ho2
        · have hg : ¬ (h[j].t = (i : Int) + 1 ∧ h[j].k = 0) := by simpa using hg
          refine hK _ _ ⟨?_, hx5.trans hx18⟩
          rw [rds_step hj, if_neg hg, List.append_nil]; exact ho18
      · refine ⟨_, hb.cell 0, cond_intro (fun hg => ?_) (fun hg => ?_)⟩
        · refine ⟨_, hb.cell 1, ?_, rfl⟩
          simp at hg
          by_cases h2 : h[j].k = 0 <;> simp [hg, h2]
        · refine ⟨?_, rfl⟩
          simp at hg
          simp [hg]
    · rintro s5 w15 ⟨ho5, hx5⟩
      rw [hn] at ho5
      refine ⟨6 - (i + 1), by omega, i + 1, by rw [wrap64 (by omega) (by omega)]; rfl, by omega, rfl, ?_, hx5⟩
      rw [List.take_succ_eq_append_getElem hil, List.flatMap_append, six_at hil]
      simpa [reads] using ho5
  · have : i = 6 := by have : ¬ (i : Int) + 1 ≤ 6 := by simpa using hc
                       omega
    subst this
    refine Let.intro fun w3 e3 => ?_
    have hb3 : Blk w3 w12.heap.size ((lastsAt h 0).map (Value.int .i64)) 63 := by rw [e3, zc63]; exact Blk.alloc w12 _ 63
    have hx3 : Ext w12 w3 := by rw [e3]; exact Ext.alloc ..
    refine Join.dir (rangeI (fun j w' => Blk w' w12.heap.size ((lastsAt h j).map (Value.int .i64)) 63 ∧ Ext w12 w') (by rw [hn]; exact hbig) ⟨hb3, hx3⟩ ?_ ?_)
    · rintro j hj w6 ⟨hb6, hx6⟩ K hK
      have hj : j < h.length := by omega
      have hokj := hok h[j] (List.getElem_mem hj)
      refine loadEv ((hs.ext hx1).ext (hx.trans hx6)) hj zc37 fun w9 hb hx9 => ⟨_, hb.cell 1, Join.dir (cond_intro (fun hg => ?_) (fun hg => ?_))⟩
      · have hg : h[j].k = 1 := by simpa using hg
        have hio : 0 ≤ h[j].i ∧ h[j].i ≤ 5 := by unfold okOp at hokj; omega
        have hb9 := hb6.ext hx9
        refine ⟨_, hb.cell 2, _, hb.cell 0, hio.1, by omega, hb9.storeOk rfl (by simp [Value.oneCell']) (by simp [lastsAt]; omega), Let.intro fun w11 e11 => ?_⟩
        have hb11 := hb9.put (o := 0 + Int.toNat h[j].i * 1) (vs := [.int .i64 h[j].t])
        have hf11 : Fr (fun b => b = w12.heap.size) w9 w11 := by rw [e11]; exact Fr.put ..
        refine hK _ ⟨?_, (hx6.trans hx9).newer hf11 fun b hb => by omega⟩
        rw [e11, lastsAt_step hj hg hio.1 hio.2]
        have : setR ((lastsAt h j).map (Value.int .i64)) (0 + Int.toNat h[j].i * 1) [.int .i64 h[j].t] = ((lastsAt h j).set h[j].i.toNat h[j].t).map (Value.int .i64) := by
          rw [setR, setR, show 0 + Int.toNat h[j].i * 1 = Int.toNat h[j].i from by omega, List.map_set]
        rw [← this]; exact hb11
      · have hg : ¬ h[j].k = 1 := by simpa using hg
        exact hK _ ⟨by rw [lastsAt_not hj hg]; exact hb6.ext hx9, hx6.trans hx9⟩
    · rintro w4 ⟨hb4, hx4⟩
      rw [hn] at hb4
      have ho4 := ho.ext hx4
      have hsl : Sli 1 eI w4 ⟨some ⟨w12.heap.size, 0, none⟩, 6, 6⟩ (lasts h) := ⟨rfl, Nat.le_refl _, fun _ => ⟨⟨w12.heap.size, 0⟩, rfl, by rw [eI_flat]; exact hb4.rd⟩⟩
      have hlen : ((six.take 6).flatMap (reads h)).length ≤ 6000 := by
        have h1 := flat_len (rds_len h) (six.take 6)
        have h3 : (six.take 6).length * h.length ≤ 6 * 1000 := Nat.mul_le_mul (by simp [six]) hl
        omega
      have hl6 : (lasts h).length = 6 := rfl
      obtain ⟨s58, w5, e5, ho5, hf5⟩ := appendSli E24 ho4 hsl eI_len eI_one (by omega) (by simp only [maxLen]; omega) (by have := (hx.trans hx4).size; omega) 24
      exact ⟨s58, w5, e5, s58, rfl, ho5.mono hx1.size, hx1.trans (Own.newer ho4 (hx.trans hx4) hf5 (Nat.le_refl _))⟩

theorem c42 {w : World} {s s' : Sl} {h : List Ev} {order : List Int} (hs : Hs w s h) (hs' : Ints w s' order) (hok : ∀ o ∈ h, okOp o) (hl : h.length ≤ 100) (hl' : order.length ≤ 6) (hlen : (viewL (part h)).length = (viewL (serial h order)).length) :
    Calls Try.prog 42 [.slice s.a s.n s.c, .slice s'.a s'.n s'.c].toArray w fun e w' => ∃ r : Bool, e = .returned (.bool r) ∧ (r = true ↔ viewL (part h) = viewL (serial h order)) ∧ Ext w w' := by
  refine (call42 s s' (R := fun v w' => ∃ r : Bool, v = .bool r ∧ (r = true ↔ viewL (part h) = viewL (serial h order)) ∧ Ext w w') ?_).mono fun e w' ⟨v, he, s', hv, hx⟩ => ⟨s', by rw [he, hv], hx⟩
  have hokp : ∀ o ∈ part h, okOp o := fun o ho => hok o (List.mem_filter.1 ho).1
  have hoks : ∀ o ∈ serial h order, okOp o := fun o ho => by
    obtain ⟨t, _, h2⟩ := List.mem_flatMap.1 ho
    exact hok o (List.mem_filter.1 h2).1
  have hlp : (part h).length ≤ 1000 := Nat.le_trans (List.length_filter_le ..) (by omega)
  have hls : (serial h order).length ≤ 1000 := by
    have h1 := serial_len h order
    have h3 : order.length * h.length ≤ 6 * 100 := Nat.mul_le_mul hl' hl
    omega
  have hvl : ∀ h : List Ev, h.length ≤ 1000 → (viewL h).length ≤ 6006 := fun h hl => by
    unfold viewL
    have h1 := flat_len (rds_len h) six
    have h3 : six.length * h.length ≤ 6 * 1000 := Nat.mul_le_mul (by simp [six]) hl
    rw [List.length_append]
    have : (lasts h).length = 6 := rfl
    omega
  refine (c70 hs hok (by omega)).mono fun e w1 ⟨s10, he, ho10, hx1⟩ => ⟨s10, he, ?_⟩
  refine (c69 ho10.sli hokp hlp).mono fun e w2 ⟨s11, he, ho11, hx2⟩ => ⟨s11, he, ?_⟩
  refine (c71 ((hs.ext hx1).ext hx2) ((hs'.ext hx1).ext hx2) (by omega) (by omega)).mono fun e w3 ⟨s14, he, ho14, hx3⟩ => ⟨s14, he, ?_⟩
  refine (c69 ho14.sli hoks hls).mono fun e w4 ⟨s15, he, ho15, hx4⟩ => ⟨s15, he, ?_⟩
  have hx : Ext w w4 := ((hx1.trans hx2).trans hx3).trans hx4
  have ha := ho11.sli.ext (hx3.trans hx4)
  have hna := ha.len
  refine Join.dir (rangeI (fun i w' => (viewL (part h)).take i = (viewL (serial h order)).take i ∧ Ext w4 w') (by rw [hna]; exact Nat.le_trans (hvl _ hlp) (by decide)) ⟨by simp, Fr.refl _ _⟩ ?_ ?_)
  · rintro i hi w6 ⟨heq, hx6⟩ K hK
    have hi1 : i < (viewL (part h)).length := by omega
    have hi2 : i < (viewL (serial h order)).length := by omega
    obtain ⟨p, hp, h1, h2, hr⟩ := Ints.at (ha.ext hx6) hi1
    obtain ⟨p', hp', h1', h2', hr'⟩ := Ints.at (ho15.sli.ext hx6) hi2
    refine ⟨p, hp, h1, h2, _, hr, p', hp', h1', h2', _, hr', cond_intro (fun hc => ?_) (fun hc => ?_)⟩
    · have hc : ¬ (viewL (serial h order))[i] = (viewL (part h))[i] := by simpa using hc
      refine ⟨false, rfl, ⟨fun h => (by cases h), fun h => ?_⟩, hx.trans hx6⟩
      exact absurd (by simp [h]) hc
    · have hc : (viewL (serial h order))[i] = (viewL (part h))[i] := by simpa using hc
      refine hK _ ⟨?_, hx6⟩
      rw [List.take_succ_eq_append_getElem hi1, List.take_succ_eq_append_getElem hi2, heq, hc]
  · rintro w6 ⟨heq, hx6⟩
    rw [hna, List.take_length, hlen, List.take_length] at heq
    exact ⟨true, rfl, by simp [heq], hx.trans hx6⟩
end Go.Proofs.Ytnbkihkdfhjlmaa
