/-
  Contracts of the reference: going on (F51), who is next (F52), Lock (F20).
-/
import Derived.Test.YtnbkihkdfhjlmaaEm
namespace Go.Proofs.Ytnbkihkdfhjlmaa
open Go Go.VC
set_option maxHeartbeats 1000000
set_option maxRecDepth 100000

/-- Who waits, but for one. -/
def WTo (st : LS) (wt : Nat → Bool) (n : Nat) : Prop := ∀ x : Nat, x < 7 → x ≠ n → wt x = decide (st.q x ≠ [])
def TabX (h : List Ev) (B : Nat) (sh : Sl) (w : World) (b : Nat) (st : LS) : Prop := ∃ wt f sd sa sq, Tab h B w b st wt f sd sa sh sq ∧ WT st wt
section
variable {h : List Ev} {B : Nat} {sh : Sl} {b : Nat}
theorem TabX.ext {w w' : World} {st : LS} (t : TabX h B sh w b st) (x : Ext w w') : TabX h B sh w' b st := by obtain ⟨wt, f, sd, sa, sq, t, hw⟩ := t; exact ⟨wt, f, sd, sa, sq, t.ext x, hw⟩

theorem c51 {w : World} {st : LS} {wt : Nat → Bool} {f : Nat → Value} {sd sa : Sl} {sq : Nat → Sl} (t : Tab h B w b st wt f sd sa sh sq) (ho : OkH h) (hlen : h.length ≤ 1000) {i : Nat} (v : LI h i st) {n : Nat} (hn1 : 1 ≤ n) (hn7 : n < 7) (hw : WTo st wt n) :
    Calls Try.prog 51 [.pointer (some ⟨b, 0, none⟩), .int .i64 (n : Int)].toArray w fun e w' => e = .returned (.tuple [].toArray) ∧ TabX h B sh w' b (goP h n (st.q n).length st) ∧ Fr (fun y => B ≤ y) w w' := by
  refine (call51 ⟨b, 0⟩ (n : Int) (R := fun u w' => u = .tuple [].toArray ∧ TabX h B sh w' b (goP h n (st.q n).length st) ∧ Fr (fun y => B ≤ y) w w') ?_).mono fun e w' ⟨u, he, hu, hx⟩ => ⟨by rw [he, hu], hx⟩
  have hn6 : (n : Int) ∈ six := mem_six.2 (by omega)
  have hiw : 0 + 92 + Int.toNat (n : Int) * 1 = 92 + n := by simp
  have hiq : 0 + 85 + Int.toNat (n : Int) * 1 = 85 + n := by simp
  obtain ⟨d1, t1, f1⟩ := t.setW hn7 false
  have hbB := t.base
  refine ⟨by omega, by omega, ?_, Let.intro fun w1 e1 => ?_⟩
  · show StoreOk w b (0 + 92 + Int.toNat (n : Int) * 1) _ 1
    rw [hiw]; exact d1
  have e1 : w1 = VC.put w b (0 + 92 + Int.toNat (n : Int) * 1) [.bool false] := e1
  rw [hiw] at e1
  rw [← e1] at t1 f1
  refine Join.dir (LoopV.intro (fun m w3 => ∃ st1 wt1 f1 sd1 sa1 sq1, Tab h B w3 b st1 wt1 f1 sd1 sa1 sh sq1 ∧ WTo st1 wt1 n ∧ wt1 n = false ∧ LI h i st1 ∧ goP h n (st1.q n).length st1 = goP h n (st.q n).length st ∧ m = (st1.q n).length ∧ Fr (fun y => B ≤ y) w w3) (st.q n).length
    ⟨st, _, _, _, _, _, t1, fun x hx hne => (if_neg hne).trans (hw x hx hne), if_pos rfl, v, rfl, rfl, f1.mono fun y _ (hy : y = b) => by omega⟩ ?_)
  rintro m w3 ⟨st1, wt1, f1', sd1, sa1, sq1, t3, hw3, hwn, v3, hgo, rfl, hfr⟩
  have hq3 := t3.qlen hn7
  have hcq : ∀ u, Ext w3 u → World.cell? u ⟨b, 0 + 85 + Int.toNat (n : Int) * 1, none⟩ = some (.slice (sq1 n).a (sq1 n).n (sq1 n).c) := fun u hu => by rw [hiq]; exact (t3.ext hu).cq hn7
  refine ⟨by omega, by omega, sq1 n, hcq w3 (Fr.refl _ _), cond_intro (fun hc => ?_) (fun hc => ?_)⟩
  rotate_left
  · have hq : st1.q n = [] := List.eq_nil_of_length_eq_zero (by simp at hc; omega)
    rw [goP_nil hq] at hgo
    rw [← hgo]
    refine ⟨rfl, ⟨_, _, _, _, _, t3, fun x hx => ?_⟩, hfr⟩
    by_cases e : x = n
    · subst e; rw [hwn, hq]; simp
    · exact hw3 x hx e
  obtain ⟨j, l, hq⟩ : ∃ j l, st1.q n = j :: l := by
    cases hq : st1.q n with
    | nil => rw [hq] at hq3; simp at hq3; rw [hq3] at hc; simp at hc
    | cons j l => exact ⟨j, l, rfl⟩
  have hjl := (v3.gd.q n j (by rw [hq]; simp)).1
  have hoj := ho.at hjl
  have hll : (st1.q n).length = l.length + 1 := by rw [hq]; rfl
  rw [hll, goP_succ hq] at hgo
  have hdl := v3.dn_len ho
  have hal := v3.ab_len
  have hB3 := t3.hBw
  refine Join.dir ⟨fun u => Ext w3 u, Ext.drew _, Let.intro fun w5 e5 => ?_⟩
  have hx5 : Ext w3 w5 := by rw [e5]; exact Ext.drew _
  have z5 := hx5.size
  obtain ⟨p28, hp28, a1, a2, _⟩ := t3.head hn7 hq
  obtain ⟨p30, hp30, c1, c2, _⟩ := t3.op hjl
  obtain ⟨n1, n2, n3⟩ := new_var w5 37 (z := zc Try.prog 37) (vs := eO (opA h j)) (by rw [zc37]; rfl) (eO_one _)
  refine ⟨sh, fun u hu => (t3.ext hu).ch, by omega, by omega, sq1 n, hcq, p28, hp28, a1, a2, (j : Int), fun u hu => ?_, p30, hp30, c1, c2, (opA h j).t, (opA h j).k, (opA h j).i, fun u hu => ?_, Let.intro fun w6 e6 => ⟨?_, ?_, Let.intro fun w7 e7 => ?_⟩⟩
  · obtain ⟨p', hp', _, _, hr'⟩ := (t3.ext hu).head hn7 hq
    rw [same_pt hp28 hp']; simpa using hr'
  · obtain ⟨p', hp', _, _, hr'⟩ := (t3.ext hu).op hjl
    rw [same_pt hp30 hp']; exact hr'
  · rw [e6]; exact hx5.trans (Ext.alloc ..)
  · rw [e6]; exact n1
  have e7 : w7 = VC.put w6 w5.heap.size 0 (eO (opA h j)) := e7
  rw [← e6] at n2 n3
  rw [← e7] at n2 n3
  have hx7 := hx5.trans n3
  have t7 := t3.ext hx7
  refine ⟨(opA h j).t, (opA h j).k, (opA h j).i, n2.rd, (c80 t7 hoj).mono fun e w8 ⟨s34, he, ho34, hx8⟩ => ⟨s34, he, ?_⟩⟩
  have hx38 := hx7.trans hx8
  have t8 := t3.ext hx38
  have hb8 := n2.ext hx8
  have n34 := ho34.sli.len
  have hfh := filter_hit (st := st1) (o := opA h j)
  refine cond_intro (fun hc => ?_) (fun hc => ?_)
  · -- it has to wait
    have hh : hit st1 (opA h j) = true := hfh.1 (by simp at hc; omega)
    rw [if_pos hh] at hgo
    obtain ⟨d9, t9, f9⟩ := t8.setW hn7 true
    refine ⟨by omega, by omega, ?_, Let.intro fun w9 e9 => ?_⟩
    · show StoreOk w8 b (0 + 92 + Int.toNat (n : Int) * 1) _ 1
      rw [hiw]; exact d9
    have e9 : w9 = VC.put w8 b (0 + 92 + Int.toNat (n : Int) * 1) [.bool true] := e9
    rw [hiw] at e9
    rw [← e9] at t9 f9
    have hW9 : WT st1 (fun y => if y = n then true else wt1 y) := fun x hx => by
      by_cases e : x = n
      · subst e; exact (if_pos rfl).trans (by rw [hq]; simp)
      · exact (if_neg e).trans (hw3 x hx e)
    have hfr9 : Fr (fun y => B ≤ y) w w9 := (hfr.ext hx38).trans f9 fun y _ (hy : y = b) => by omega
    refine (c81 t9 ho v3.gd hW9 hn6).mono fun e w10 ⟨c, he, hca, hx10⟩ => ⟨c, he, Join.dir (cond_intro (fun hc1 => ?_) (fun hc1 => ?_))⟩
    rotate_left
    · rw [if_neg fun h => by rw [hca.2 h] at hc1; cases hc1] at hgo
      rw [← hgo]
      exact ⟨rfl, ⟨_, _, _, _, _, t9.ext hx10, hW9⟩, hfr9.ext hx10⟩
    rw [if_pos (hca.1 hc1)] at hgo
    have t10 := t9.ext hx10
    obtain ⟨d12, t12, f12⟩ := t10.setW hn7 false
    refine ⟨by omega, by omega, ?_, Let.intro fun w12 e12 => ?_⟩
    · show StoreOk w10 b (0 + 92 + Int.toNat (n : Int) * 1) _ 1
      rw [hiw]; exact d12
    have e12 : w12 = VC.put w10 b (0 + 92 + Int.toNat (n : Int) * 1) [.bool false] := e12
    rw [hiw] at e12
    rw [← e12] at t12 f12
    obtain ⟨d13, t13, f13⟩ := t12.setQ hn7 (w2 := w12) ((Fr.refl (fun _ => False) w12).mono fun _ _ h => h.elim) (s' := ⟨none, 0, 0⟩) (l := []) (Tl.nil ..) (fun y _ _ g ⟨h0, _⟩ => absurd h0 (Nat.lt_irrefl _)) (fun g ⟨h0, _⟩ => absurd h0 (Nat.lt_irrefl _))
    refine ⟨by omega, by omega, ?_, Let.intro fun w13 e13 => ?_⟩
    · show StoreOk w12 b (0 + 85 + Int.toNat (n : Int) * 1) _ 1
      rw [hiq]; exact d13
    have e13 : w13 = VC.put w12 b (0 + 85 + Int.toNat (n : Int) * 1) [.slice none 0 0] := e13
    rw [hiq] at e13
    have e13' : w13 = VC.put w12 b (85 + n) [.slice (⟨none, 0, 0⟩ : Sl).a (⟨none, 0, 0⟩ : Sl).n (⟨none, 0, 0⟩ : Sl).c] := e13
    rw [← e13'] at t13 f13
    obtain ⟨s3, w14, e14, hx14, s4, w15, e15, ho15, hf15, hwh⟩ := appendIntW t13.oa (n : Int) (by show st1.ab.length ≤ 1000000; omega) t13.hBw
    obtain ⟨d16, t16, f16⟩ := t13.setA hx14 hf15 ho15 fun g ⟨a, ha, hg⟩ => by
      rcases hwh with hwh | hwh
      · rw [hwh] at ha; exact .inl ⟨a, ha, hg⟩
      · have := hwh a ha; exact .inr (by omega)
    refine ⟨sa1, t13.ca, s3, w14, e14, s4, w15, e15, d16, Let.intro fun w16 e16 => ?_⟩
    have e16 : w16 = VC.put w15 b 99 [.slice s4.a s4.n s4.c] := e16
    rw [← e16] at t16 f16
    have hfr16 : Fr (fun y => B ≤ y) w w16 := by
      have g1 : Fr (fun y => B ≤ y) w w12 := (hfr9.ext hx10).trans f12 fun y _ (hy : y = b) => by omega
      have g2 : Fr (fun y => B ≤ y) w w13 := g1.trans f13 fun y _ (hy : y = b) => by omega
      exact ((g2.ext hx14).trans hf15 fun y _ ⟨a, ha, hy⟩ => by have := (t13.oa.base ha).1; omega).trans f16 fun y _ (hy : y = b) => by omega
    refine (c82 t16 (o := ⟨n, 3, 0⟩) (by unfold okOp; simp; omega) (by show st1.dn.length ≤ 1000; omega)).mono fun e w17 ⟨he, ⟨f', sd', t17⟩, f17⟩ => ⟨he, rfl, ?_, hfr16.trans f17 fun _ _ h => h⟩
    rw [← hgo]
    refine ⟨_, f', sd', _, _, t17, fun x hx => ?_⟩
    rw [abortL_q]
    by_cases e : x = n
    · subst e; rw [if_pos rfl, upq_same]; simp
    · rw [if_neg e, if_neg e, upq_other (by omega)]; exact hw3 x hx e
  · -- it is done
    have hh : hit st1 (opA h j) = false := Bool.eq_false_iff.2 fun h => by have := hfh.2 h; simp at hc; omega
    rw [if_neg (by simp [hh])] at hgo
    refine Let.intro fun w18 e18 => ?_
    have hx18 : Ext w8 w18 := by rw [e18]; exact Ext.drew _
    have t18 := t8.ext hx18
    have hb18 := hb8.ext hx18
    have hx318 := hx38.trans hx18
    have htl := (t18.tl n hn7).drop eI_len (m := 1) (by rw [hq]; simp)
    have hql : ((st1.q n).map jI).drop 1 = l.map jI := by rw [hq]; rfl
    have htl : Tl 3 1 eI B w18 ⟨subA (sq1 n).a (sq1 n).c 1 1, (sq1 n).n - 1, (sq1 n).c - 1⟩ (l.map jI) := by rw [← hql]; exact htl
    have hcap := (t18.tl n hn7).cap
    obtain ⟨d19, t19, f19⟩ := t18.setQ hn7 (w2 := w18) ((Fr.refl (fun _ => False) w18).mono fun _ _ h => h.elim) htl (fun y hy hne g hg h2 => t18.sep y n hy hn7 hne g h2 (Rm.drop (size := 1) (by omega) hg)) (fun g hg => t18.sepa n hn7 g (Rm.drop (size := 1) (by omega) hg))
    refine ⟨by omega, by omega, sq1 n, hcq w18 hx318, by omega, by omega, by omega, by omega, ?_, Let.intro fun w19 e19 => ?_⟩
    · show StoreOk w18 b (0 + 85 + Int.toNat (n : Int) * 1) _ 1
      rw [hiq]; exact d19
    have e19 : w19 = VC.put w18 b (0 + 85 + Int.toNat (n : Int) * 1) [.slice (subA (sq1 n).a (sq1 n).c 1 1) ((sq1 n).n - 1) ((sq1 n).c - 1)] := e19
    rw [hiq] at e19
    have e19' : w19 = VC.put w18 b (85 + n) [.slice (⟨subA (sq1 n).a (sq1 n).c 1 1, (sq1 n).n - 1, (sq1 n).c - 1⟩ : Sl).a (⟨subA (sq1 n).a (sq1 n).c 1 1, (sq1 n).n - 1, (sq1 n).c - 1⟩ : Sl).n (⟨subA (sq1 n).a (sq1 n).c 1 1, (sq1 n).n - 1, (sq1 n).c - 1⟩ : Sl).c] := e19
    rw [← e19'] at t19 f19
    have hb19 := hb18.fr f19 (by have := t3.fb.lt; omega)
    have hfr19 : Fr (fun y => B ≤ y) w w19 := (hfr.ext hx318).trans f19 fun y _ (hy : y = b) => by omega
    refine ⟨(opA h j).t, (opA h j).k, (opA h j).i, hb19.rd, (c82 t19 hoj (by show st1.dn.length ≤ 1000; omega)).mono fun e w20 ⟨he, ⟨f', sd', t20⟩, f20⟩ => ⟨he, l.length, by omega, doL (setq st1 n l) (opA h j), _, _, _, _, _, t20, fun x hx hne => ?_, hwn, v3.next ho hq hh, ?_, ?_, hfr19.trans f20 fun _ _ h => h⟩⟩
    · rw [doL_q, setq_q, upq_other (by omega)]; exact hw3 x hx hne
    · rw [doL_q, setq_q, upq_same]; exact hgo
    · rw [doL_q, setq_q, upq_same]

theorem c52 {w : World} {st : LS} {wt : Nat → Bool} {f : Nat → Value} {sd sa : Sl} {sq : Nat → Sl} (t : Tab h B w b st wt f sd sa sh sq) (ho : OkH h) (hlen : h.length ≤ 1000) (hw : WT st wt) :
    Calls Try.prog 52 [.pointer (some ⟨b, 0, none⟩)].toArray w fun e w' => e = .returned (.int .i64 ((nextP h st).getD 0)) ∧ Ext w w' := by
  refine (call52 ⟨b, 0⟩ (R := fun u w' => u = .int .i64 ((nextP h st).getD 0) ∧ Ext w w') ?_).mono fun e w' ⟨u, he, hu, hx⟩ => ⟨by rw [he, hu], hx⟩
  have hn := t.hs.len
  refine ⟨sh, t.ch, Join.dir (rangeI (fun i w' => (∀ k < i, nextJ h st k = false) ∧ Ext w w') (by rw [hn]; show h.length ≤ 9223372036854775807; omega) ⟨by simp, Fr.refl _ _⟩ ?_ ?_)⟩
  · rintro i hi w2 ⟨hno, hx2⟩ K hK
    have hi : i < h.length := by omega
    refine loadEv (t.hs.ext hx2) hi zc37 fun w5 hb5 hx5 => ?_
    rw [← opA_at hi] at hb5
    have hoi := ho.at hi
    obtain ⟨m, hmt, hm1, hm7⟩ := txn_nat hoi
    have hx05 := hx2.trans hx5
    have t5 := t.ext hx05
    have hK' : nextJ h st i = false → ∀ w', Ext w w' → K w' := fun h1 w' h2 => hK w' ⟨fun k hk => by
      by_cases e : k = i
      · subst e; exact h1
      · exact hno k (by omega), h2⟩
    refine ⟨fun (c : Bool) w6 => c = nextJ h st i ∧ Ext w5 w6, ?_, ?_⟩
    · rintro c w6 ⟨rfl, hx6⟩
      refine cond_intro (fun hc => ?_) (fun hc => hK' hc _ (hx05.trans hx6))
      refine ⟨(opA h i).t, (hb5.ext hx6).cell 0, ?_, hx05.trans hx6⟩
      have : (List.range h.length).find? (nextJ h st) = some i := by
        rw [List.find?_eq_some_iff_getElem]
        refine ⟨hc, i, by simpa using hi, by simp, fun k hk => ?_⟩
        rw [List.getElem_range]; simp [hno k hk]
      unfold nextP
      rw [this]; rfl
    · refine ⟨fun u => Ext w5 u, Ext.drew _, Let.intro fun w7 e7 => ?_⟩
      have hx7 : Ext w5 w7 := by rw [e7]; exact Ext.drew _
      have hrt : ∀ u, Ext w5 u → World.cell? u ⟨w2.heap.size, 0 + 0, none⟩ = some (.int .i64 (opA h i).t) := fun u hu => (hb5.ext hu).cell 0
      have hcw : ∀ u, Ext w5 u → World.cell? u ⟨b, 0 + 92 + Int.toNat (opA h i).t * 1, none⟩ = some (.bool (wt m)) := fun u hu => by rw [hmt]; simpa using (t5.ext hu).cwt hm7
      have hcq : ∀ u, Ext w5 u → World.cell? u ⟨b, 0 + 85 + Int.toNat (opA h i).t * 1, none⟩ = some (.slice (sq m).a (sq m).n (sq m).c) := fun u hu => by rw [hmt]; simpa using (t5.ext hu).cq hm7
      have hwm := hw m hm7
      rw [← hmt] at hwm
      refine ⟨(opA h i).t, hrt, by omega, by omega, wt m, hcw, cond_intro (fun hc => ?_) (fun hc => ⟨?_, hx7⟩)⟩
      rotate_left
      · rw [hwm] at hc
        have hq : st.q (opA h i).t = [] := by simpa using hc
        unfold nextJ; rw [hq]; simp
      obtain ⟨j, l, hq⟩ : ∃ j l, st.q (opA h i).t = j :: l := by
        cases hq : st.q (opA h i).t with
        | nil => rw [hwm, hq] at hc; simp at hc
        | cons j l => exact ⟨j, l, rfl⟩
      have hqm : st.q (m : Int) = j :: l := by rw [← hmt]; exact hq
      obtain ⟨p, hp, a1, a2, _⟩ := t5.head hm7 hqm
      refine ⟨(opA h i).t, hrt, by omega, by omega, sq m, hcq, p, hp, a1, a2, (j : Int), fun u hu => ?_, cond_intro (fun hc2 => ?_) (fun hc2 => ⟨?_, hx7⟩)⟩
      · obtain ⟨p', hp', _, _, hr'⟩ := (t5.ext hu).head hm7 hqm
        rw [same_pt hp hp']; simpa using hr'
      · have hji : j = i := by simp at hc2; omega
        subst hji
        refine ⟨(opA h j).t, (opA h j).k, (opA h j).i, fun u hu => (hb5.ext hu).rd, (c80 (t5.ext hx7) hoi).mono fun e w8 ⟨s38, he, ho38, hx8⟩ => ⟨s38, he, hx7.trans hx8, ?_, hx7.trans hx8⟩⟩
        have n38 := ho38.sli.len
        have hfh := filter_hit (st := st) (o := opA h j)
        unfold nextJ
        rw [hq]
        cases hh : hit st (opA h j) with
        | true => have := hfh.2 hh; simp; omega
        | false =>
          have : ¬ (six.filter (hind st (opA h j))).length > 0 := fun h0 => by rw [hfh.1 h0] at hh; cases hh
          simp; omega
      · have hji : ¬ j = i := by simp at hc2; omega
        unfold nextJ; rw [hq]; simp [hji]
  · rintro w2 ⟨hno, hx2⟩
    rw [hn] at hno
    refine ⟨?_, hx2⟩
    have : nextP h st = none := by
      unfold nextP
      rw [Option.map_eq_none_iff, List.find?_eq_none]
      intro k hk
      simp [hno k (by simpa using hk)]
    rw [this]; rfl
end
end Go.Proofs.Ytnbkihkdfhjlmaa
