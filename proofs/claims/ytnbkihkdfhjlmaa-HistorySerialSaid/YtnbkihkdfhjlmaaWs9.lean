/-
  Texts En, Eo, Gd, Dr of this proof, joined.
-/
import Derived.Test.YtnbkihkdfhjlmaaWs8
import Derived.Test.YtnbkihkdfhjlmaaRows
import Derived.ProofKit
import Derived.SizedLaws
import Derived.Deep.Slices
/-
  Contracts of the reference: going on (F51), who is next (F52), Lock (F20).
-/
namespace Go.Proofs.Ytnbkihkdfhjlmaa
open Go Go.VC
set_option maxHeartbeats 1000000
set_option maxRecDepth 100000

/-- Who waits, but for one. -/
def WTo (st : LS) (wt : Nat → Bool) (n : Nat) : Prop := ∀ x : Nat, x < 7 → x ≠ n → wt x = decide (st.q x ≠ [])
def TabX (h : List Ev) (B : Nat) (sh : Sl) (w : World) (b : Nat) (st : LS) : Prop := ∃ wt f sd sa sq, Tab h B w b st wt f sd sa sh sq ∧ WT st wt
section
variable {h : List Ev} {B : Nat} {sh : Sl} {b : Nat}
theorem TabX.ext {w w' : World} {st : LS} (t : TabX h B sh w b st) (x : Ext w w') : TabX h B sh w' b st := by obtain ⟨wt, f, sd, sa, sq, t, hw⟩ := t; exact ⟨wt, f, sd, sa, sq, t.ext x, hw⟩

theorem c51 {w : World} {st : LS} {wt : Nat → Bool} {f : Nat → Value} {sd sa : Sl} {sq : Nat → Sl} (t : Tab h B w b st wt f sd sa sh sq) (ho : OkH h) (hlen : h.length ≤ 1000) {i : Nat} (v : LI h i st) {n : Nat} (hn1 : 1 ≤ n) (hn7 : n < 7) (hw : WTo st wt n) :
    Calls Try.prog 51 [.pointer (some ⟨b, 0, none⟩), .int .i64 (n : Int)].toArray w fun e w' => e = .returned (.tuple [].toArray) ∧ TabX h B sh w' b (goP h n (st.q n).length st) ∧ Fr (fun y => B ≤ y) w w' := by
  refine (call51 ⟨b, 0⟩ (n : Int) (R := fun u w' => u = .tuple [].toArray ∧ TabX h B sh w' b (goP h n (st.q n).length st) ∧ Fr (fun y => B ≤ y) w w') ?_).mono fun e w' ⟨u, he, hu, hx⟩ => ⟨by rw [he, hu], hx⟩
  have hn6 : (n : Int) ∈ six := mem_six.2 (by omega)
  have hiw : 0 + 92 + Int.toNat (n : Int) * 1 = 92 + n := by simp
  have hiq : 0 + 85 + Int.toNat (n : Int) * 1 = 85 + n := by simp
  obtain ⟨d1, t1, f1⟩ := t.setW hn7 false
  have hbB := t.base
  refine ⟨by omega, by omega, ?_, Let.intro fun w1 e1 => ?_⟩
  · show StoreOk w b (0 + 92 + Int.toNat (n : Int) * 1) _ 1
    rw [hiw]; exact d1
  have e1 : w1 = VC.put w b (0 + 92 + Int.toNat (n : Int) * 1) [.bool false] := e1
  rw [hiw] at e1
  rw [← e1] at t1 f1
  refine Join.dir (LoopV.intro (fun m w3 => ∃ st1 wt1 f1 sd1 sa1 sq1, Tab h B w3 b st1 wt1 f1 sd1 sa1 sh sq1 ∧ WTo st1 wt1 n ∧ wt1 n = false ∧ LI h i st1 ∧ goP h n (st1.q n).length st1 = goP h n (st.q n).length st ∧ m = (st1.q n).length ∧ Fr (fun y => B ≤ y) w w3) (st.q n).length
    ⟨st, _, _, _, _, _, t1, fun x hx hne => (if_neg hne).trans (hw x hx hne), if_pos rfl, v, rfl, rfl, f1.mono fun y _ (hy : y = b) => by omega⟩ ?_)
  rintro m w3 ⟨st1, wt1, f1', sd1, sa1, sq1, t3, hw3, hwn, v3, hgo, rfl, hfr⟩
  have hq3 := t3.qlen hn7
  have hcq : ∀ u, Ext w3 u → World.cell? u ⟨b, 0 + 85 + Int.toNat (n : Int) * 1, none⟩ = some (.slice (sq1 n).a (sq1 n).n (sq1 n).c) := fun u hu => by rw [hiq]; exact (t3.ext hu).cq hn7
  refine ⟨by omega, by omega, sq1 n, hcq w3 (Fr.refl _ _), cond_intro (fun hc => ?_) (fun hc => ?_)⟩
  rotate_left
  · have hq : st1.q n = [] := List.eq_nil_of_length_eq_zero (by simp at hc; omega)
    rw [goP_nil hq] at hgo
    rw [← hgo]
    refine ⟨rfl, ⟨_, _, _, _, _, t3, fun x hx => ?_⟩, hfr⟩
    by_cases e : x = n
    · subst e; rw [hwn, hq]; simp
    · exact hw3 x hx e
  obtain ⟨j, l, hq⟩ : ∃ j l, st1.q n = j :: l := by
    cases hq : st1.q n with
    | nil => rw [hq] at hq3; simp at hq3; rw [hq3] at hc; simp at hc
    | cons j l => exact ⟨j, l, rfl⟩
  have hjl := (v3.gd.q n j (by rw [hq]; simp)).1
  have hoj := ho.at hjl
  have hll : (st1.q n).length = l.length + 1 := by rw [hq]; rfl
  rw [hll, goP_succ hq] at hgo
  have hdl := v3.dn_len ho
  have hal := v3.ab_len
  have hB3 := t3.hBw
  refine Join.dir ⟨fun u => Ext w3 u, Ext.drew _, Let.intro fun w5 e5 => ?_⟩
  have hx5 : Ext w3 w5 := by rw [e5]; exact Ext.drew _
  have z5 := hx5.size
  obtain ⟨p28, hp28, a1, a2, _⟩ := t3.head hn7 hq
  obtain ⟨p30, hp30, c1, c2, _⟩ := t3.op hjl
  obtain ⟨n1, n2, n3⟩ := new_var w5 37 (z := zc Try.prog 37) (vs := eO (opA h j)) (by rw [zc37]; rfl) (eO_one _)
  refine ⟨sh, fun u hu => (t3.ext hu).ch, by omega, by omega, sq1 n, hcq, p28, hp28, a1, a2, (j : Int), fun u hu => ?_, p30, hp30, c1, c2, (opA h j).t, (opA h j).k, (opA h j).i, fun u hu => ?_, Let.intro fun w6 e6 => ⟨?_, ?_, Let.intro fun w7 e7 => ?_⟩⟩
  · obtain ⟨p', hp', _, _, hr'⟩ := (t3.ext hu).head hn7 hq
    rw [same_pt hp28 hp']; simpa using hr'
  · obtain ⟨p', hp', _, _, hr'⟩ := (t3.ext hu).op hjl
    rw [same_pt hp30 hp']; exact hr'
  · rw [e6]; exact hx5.trans (Ext.alloc ..)
  · rw [e6]; exact n1
  have e7 : w7 = VC.put w6 w5.heap.size 0 (eO (opA h j)) := e7
  rw [← e6] at n2 n3
  rw [← e7] at n2 n3
  have hx7 := hx5.trans n3
  have t7 := t3.ext hx7
  refine ⟨(opA h j).t, (opA h j).k, (opA h j).i, n2.rd, (c80 t7 hoj).mono fun e w8 ⟨s34, he, ho34, hx8⟩ => ⟨s34, he, ?_⟩⟩
  have hx38 := hx7.trans hx8
  have t8 := t3.ext hx38
  have hb8 := n2.ext hx8
  have n34 := ho34.sli.len
  have hfh := filter_hit (st := st1) (o := opA h j)
  refine cond_intro (fun hc => ?_) (fun hc => ?_)
  · -- it has to wait
    have hh : hit st1 (opA h j) = true := hfh.1 (by simp at hc; omega)
    rw [if_pos hh] at hgo
    obtain ⟨d9, t9, f9⟩ := t8.setW hn7 true
    refine ⟨by omega, by omega, ?_, Let.intro fun w9 e9 => ?_⟩
    · show StoreOk w8 b (0 + 92 + Int.toNat (n : Int) * 1) _ 1
      rw [hiw]; exact d9
    have e9 : w9 = VC.put w8 b (0 + 92 + Int.toNat (n : Int) * 1) [.bool true] := e9
    rw [hiw] at e9
    rw [← e9] at t9 f9
    have hW9 : WT st1 (fun y => if y = n then true else wt1 y) := fun x hx => by
      by_cases e : x = n
      · subst e; exact (if_pos rfl).trans (by rw [hq]; simp)
      · exact (if_neg e).trans (hw3 x hx e)
    have hfr9 : Fr (fun y => B ≤ y) w w9 := (hfr.ext hx38).trans f9 fun y _ (hy : y = b) => by omega
    refine (c81 t9 ho v3.gd hW9 hn6).mono fun e w10 ⟨c, he, hca, hx10⟩ => ⟨c, he, Join.dir (cond_intro (fun hc1 => ?_) (fun hc1 => ?_))⟩
    rotate_left
    · rw [if_neg fun h => by rw [hca.2 h] at hc1; cases hc1] at hgo
      rw [← hgo]
      exact ⟨rfl, ⟨_, _, _, _, _, t9.ext hx10, hW9⟩, hfr9.ext hx10⟩
    rw [if_pos (hca.1 hc1)] at hgo
    have t10 := t9.ext hx10
    obtain ⟨d12, t12, f12⟩ := t10.setW hn7 false
    refine ⟨by omega, by omega, ?_, Let.intro fun w12 e12 => ?_⟩
    · show StoreOk w10 b (0 + 92 + Int.toNat (n : Int) * 1) _ 1
      rw [hiw]; exact d12
    have e12 : w12 = VC.put w10 b (0 + 92 + Int.toNat (n : Int) * 1) [.bool false] := e12
    rw [hiw] at e12
    rw [← e12] at t12 f12
    obtain ⟨d13, t13, f13⟩ := t12.setQ hn7 (w2 := w12) ((Fr.refl (fun _ => False) w12).mono fun _ _ h => h.elim) (s' := ⟨none, 0, 0⟩) (l := []) (Tl.nil ..) (fun y _ _ g ⟨h0, _⟩ => absurd h0 (Nat.lt_irrefl _)) (fun g ⟨h0, _⟩ => absurd h0 (Nat.lt_irrefl _))
    refine ⟨by omega, by omega, ?_, Let.intro fun w13 e13 => ?_⟩
    · show StoreOk w12 b (0 + 85 + Int.toNat (n : Int) * 1) _ 1
      rw [hiq]; exact d13
    have e13 : w13 = VC.put w12 b (0 + 85 + Int.toNat (n : Int) * 1) [.slice none 0 0] := e13
    rw [hiq] at e13
    have e13' : w13 = VC.put w12 b (85 + n) [.slice (⟨none, 0, 0⟩ : Sl).a (⟨none, 0, 0⟩ : Sl).n (⟨none, 0, 0⟩ : Sl).c] := e13
    rw [← e13'] at t13 f13
    obtain ⟨s3, w14, e14, hx14, s4, w15, e15, ho15, hf15, hwh⟩ := appendIntW t13.oa (n : Int) (by show st1.ab.length ≤ 1000000; omega) t13.hBw
    obtain ⟨d16, t16, f16⟩ := t13.setA hx14 hf15 ho15 fun g ⟨a, ha, hg⟩ => by
      rcases hwh with hwh | hwh
      · rw [hwh] at ha; exact .inl ⟨a, ha, hg⟩
      · have := hwh a ha; exact .inr (by omega)
    refine ⟨sa1, t13.ca, s3, w14, e14, s4, w15, e15, d16, Let.intro fun w16 e16 => ?_⟩
    have e16 : w16 = VC.put w15 b 99 [.slice s4.a s4.n s4.c] := e16
    rw [← e16] at t16 f16
    have hfr16 : Fr (fun y => B ≤ y) w w16 := by
      have g1 : Fr (fun y => B ≤ y) w w12 := (hfr9.ext hx10).trans f12 fun y _ (hy : y = b) => by omega
      have g2 : Fr (fun y => B ≤ y) w w13 := g1.trans f13 fun y _ (hy : y = b) => by omega
      exact ((g2.ext hx14).trans hf15 fun y _ ⟨a, ha, hy⟩ => by have := (t13.oa.base ha).1; omega).trans f16 fun y _ (hy : y = b) => by omega
    refine (c82 t16 (o := ⟨n, 3, 0⟩) (by unfold okOp; simp; omega) (by show st1.dn.length ≤ 1000; omega)).mono fun e w17 ⟨he, ⟨f', sd', t17⟩, f17⟩ => ⟨he, rfl, ?_, hfr16.trans f17 fun _ _ h => h⟩
    rw [← hgo]
    refine ⟨_, f', sd', _, _, t17, fun x hx => ?_⟩
    rw [abortL_q]
    by_cases e : x = n
    · subst e; rw [if_pos rfl, upq_same]; simp
    · rw [if_neg e, if_neg e, upq_other (by omega)]; exact hw3 x hx e
  · -- it is done
    have hh : hit st1 (opA h j) = false := Bool.eq_false_iff.2 fun h => by have := hfh.2 h; simp at hc; omega
    rw [if_neg (by simp [hh])] at hgo
    refine Let.intro fun w18 e18 => ?_
    have hx18 : Ext w8 w18 := by rw [e18]; exact Ext.drew _
    have t18 := t8.ext hx18
    have hb18 := hb8.ext hx18
    have hx318 := hx38.trans hx18
    have htl := (t18.tl n hn7).drop eI_len (m := 1) (by rw [hq]; simp)
    have hql : ((st1.q n).map jI).drop 1 = l.map jI := by rw [hq]; rfl
    have htl : Tl 3 1 eI B w18 ⟨subA (sq1 n).a (sq1 n).c 1 1, (sq1 n).n - 1, (sq1 n).c - 1⟩ (l.map jI) := by rw [← hql]; exact htl
    have hcap := (t18.tl n hn7).cap
    obtain ⟨d19, t19, f19⟩ := t18.setQ hn7 (w2 := w18) ((Fr.refl (fun _ => False) w18).mono fun _ _ h => h.elim) htl (fun y hy hne g hg h2 => t18.sep y n hy hn7 hne g h2 (Rm.drop (size := 1) (by omega) hg)) (fun g hg => t18.sepa n hn7 g (Rm.drop (size := 1) (by omega) hg))
    refine ⟨by omega, by omega, sq1 n, hcq w18 hx318, by omega, by omega, by omega, by omega, ?_, Let.intro fun w19 e19 => ?_⟩
    · show StoreOk w18 b (0 + 85 + Int.toNat (n : Int) * 1) _ 1
      rw [hiq]; exact d19
    have e19 : w19 = VC.put w18 b (0 + 85 + Int.toNat (n : Int) * 1) [.slice (subA (sq1 n).a (sq1 n).c 1 1) ((sq1 n).n - 1) ((sq1 n).c - 1)] := e19
    rw [hiq] at e19
    have e19' : w19 = VC.put w18 b (85 + n) [.slice (⟨subA (sq1 n).a (sq1 n).c 1 1, (sq1 n).n - 1, (sq1 n).c - 1⟩ : Sl).a (⟨subA (sq1 n).a (sq1 n).c 1 1, (sq1 n).n - 1, (sq1 n).c - 1⟩ : Sl).n (⟨subA (sq1 n).a (sq1 n).c 1 1, (sq1 n).n - 1, (sq1 n).c - 1⟩ : Sl).c] := e19
    rw [← e19'] at t19 f19
    have hb19 := hb18.fr f19 (by have := t3.fb.lt; omega)
    have hfr19 : Fr (fun y => B ≤ y) w w19 := (hfr.ext hx318).trans f19 fun y _ (hy : y = b) => by omega
    refine ⟨(opA h j).t, (opA h j).k, (opA h j).i, hb19.rd, (c82 t19 hoj (by show st1.dn.length ≤ 1000; omega)).mono fun e w20 ⟨he, ⟨f', sd', t20⟩, f20⟩ => ⟨he, l.length, by omega, doL (setq st1 n l) (opA h j), _, _, _, _, _, t20, fun x hx hne => ?_, hwn, v3.next ho hq hh, ?_, ?_, hfr19.trans f20 fun _ _ h => h⟩⟩
    · rw [doL_q, setq_q, upq_other (by omega)]; exact hw3 x hx hne
    · rw [doL_q, setq_q, upq_same]; exact hgo
    · rw [doL_q, setq_q, upq_same]

theorem c52 {w : World} {st : LS} {wt : Nat → Bool} {f : Nat → Value} {sd sa : Sl} {sq : Nat → Sl} (t : Tab h B w b st wt f sd sa sh sq) (ho : OkH h) (hlen : h.length ≤ 1000) (hw : WT st wt) :
    Calls Try.prog 52 [.pointer (some ⟨b, 0, none⟩)].toArray w fun e w' => e = .returned (.int .i64 ((nextP h st).getD 0)) ∧ Ext w w' := by
  refine (call52 ⟨b, 0⟩ (R := fun u w' => u = .int .i64 ((nextP h st).getD 0) ∧ Ext w w') ?_).mono fun e w' ⟨u, he, hu, hx⟩ => ⟨by rw [he, hu], hx⟩
  have hn := t.hs.len
  refine ⟨sh, t.ch, Join.dir (rangeI (fun i w' => (∀ k < i, nextJ h st k = false) ∧ Ext w w') (by rw [hn]; show h.length ≤ 9223372036854775807; omega) ⟨by simp, Fr.refl _ _⟩ ?_ ?_)⟩
  · rintro i hi w2 ⟨hno, hx2⟩ K hK
    have hi : i < h.length := by omega
    refine loadEv (t.hs.ext hx2) hi zc37 fun w5 hb5 hx5 => ?_
    rw [← opA_at hi] at hb5
    have hoi := ho.at hi
    obtain ⟨m, hmt, hm1, hm7⟩ := txn_nat hoi
    have hx05 := hx2.trans hx5
    have t5 := t.ext hx05
    have hK' : nextJ h st i = false → ∀ w', Ext w w' → K w' := fun h1 w' h2 => hK w' ⟨fun k hk => by
      by_cases e : k = i
      · subst e; exact h1
      · exact hno k (by omega), h2⟩
    refine ⟨fun (c : Bool) w6 => c = nextJ h st i ∧ Ext w5 w6, ?_, ?_⟩
    · rintro c w6 ⟨rfl, hx6⟩
      refine cond_intro (fun hc => ?_) (fun hc => hK' hc _ (hx05.trans hx6))
      refine ⟨(opA h i).t, (hb5.ext hx6).cell 0, ?_, hx05.trans hx6⟩
      have : (List.range h.length).find? (nextJ h st) = some i := by
        rw [List.find?_eq_some_iff_getElem]
        refine ⟨hc, i, by simpa using hi, by simp, fun k hk => ?_⟩
        rw [List.getElem_range]; simp [hno k hk]
      unfold nextP
      rw [this]; rfl
    · refine ⟨fun u => Ext w5 u, Ext.drew _, Let.intro fun w7 e7 => ?_⟩
      have hx7 : Ext w5 w7 := by rw [e7]; exact Ext.drew _
      have hrt : ∀ u, Ext w5 u → World.cell? u ⟨w2.heap.size, 0 + 0, none⟩ = some (.int .i64 (opA h i).t) := fun u hu => (hb5.ext hu).cell 0
      have hcw : ∀ u, Ext w5 u → World.cell? u ⟨b, 0 + 92 + Int.toNat (opA h i).t * 1, none⟩ = some (.bool (wt m)) := fun u hu => by rw [hmt]; simpa using (t5.ext hu).cwt hm7
      have hcq : ∀ u, Ext w5 u → World.cell? u ⟨b, 0 + 85 + Int.toNat (opA h i).t * 1, none⟩ = some (.slice (sq m).a (sq m).n (sq m).c) := fun u hu => by rw [hmt]; simpa using (t5.ext hu).cq hm7
      have hwm := hw m hm7
      rw [← hmt] at hwm
      refine ⟨(opA h i).t, hrt, by omega, by omega, wt m, hcw, cond_intro (fun hc => ?_) (fun hc => ⟨?_, hx7⟩)⟩
      rotate_left
      · rw [hwm] at hc
        have hq : st.q (opA h i).t = [] := by simpa using hc
        unfold nextJ; rw [hq]; simp
      obtain ⟨j, l, hq⟩ : ∃ j l, st.q (opA h i).t = j :: l := by
        cases hq : st.q (opA h i).t with
        | nil => rw [hwm, hq] at hc; simp at hc
        | cons j l => exact ⟨j, l, rfl⟩
      have hqm : st.q (m : Int) = j :: l := by rw [← hmt]; exact hq
      obtain ⟨p, hp, a1, a2, _⟩ := t5.head hm7 hqm
      refine ⟨(opA h i).t, hrt, by omega, by omega, sq m, hcq, p, hp, a1, a2, (j : Int), fun u hu => ?_, cond_intro (fun hc2 => ?_) (fun hc2 => ⟨?_, hx7⟩)⟩
      · obtain ⟨p', hp', _, _, hr'⟩ := (t5.ext hu).head hm7 hqm
        rw [same_pt hp hp']; simpa using hr'
      · have hji : j = i := by simp at hc2; omega
        subst hji
        refine ⟨(opA h j).t, (opA h j).k, (opA h j).i, fun u hu => (hb5.ext hu).rd, (c80 (t5.ext hx7) hoi).mono fun e w8 ⟨s38, he, ho38, hx8⟩ => ⟨s38, he, hx7.trans hx8, ?_, hx7.trans hx8⟩⟩
        have n38 := ho38.sli.len
        have hfh := filter_hit (st := st) (o := opA h j)
        unfold nextJ
        rw [hq]
        cases hh : hit st (opA h j) with
        | true => have := hfh.2 hh; simp; omega
        | false =>
          have : ¬ (six.filter (hind st (opA h j))).length > 0 := fun h0 => by rw [hfh.1 h0] at hh; cases hh
          simp; omega
      · have hji : ¬ j = i := by simp at hc2; omega
        unfold nextJ; rw [hq]; simp [hji]
  · rintro w2 ⟨hno, hx2⟩
    rw [hn] at hno
    refine ⟨?_, hx2⟩
    have : nextP h st = none := by
      unfold nextP
      rw [Option.map_eq_none_iff, List.find?_eq_none]
      intro k hk
      simp [hno k (by simpa using hk)]
    rw [this]; rfl
end
end Go.Proofs.Ytnbkihkdfhjlmaa
/-
  Contracts: the reference's Lock (F20); the law HistoryLocks.
-/
namespace Go.Proofs.Ytnbkihkdfhjlmaa
open Go Go.VC
set_option maxHeartbeats 1000000
set_option maxRecDepth 100000

theorem c20 {w : World} {s : Sl} {h : List Ev} (hs : Hs w s h) (ho : OkH h) (hl : h.length ≤ 1000) :
    Calls Try.prog 20 [.slice s.a s.n s.c].toArray w fun e w' => ∃ s1 s2 : Sl, e = .returned (.tuple [.slice s1.a s1.n s1.c, .slice s2.a s2.n s2.c].toArray) ∧
      Own 37 3 eO w.heap.size w' s1 (lockP h).dn ∧ Own 3 1 eI w.heap.size w' s2 (lockP h).ab ∧ Ext w w' := by
  refine (call20 s (R := fun v w' => ∃ s1 s2 : Sl, v = (.tuple [.slice s1.a s1.n s1.c, .slice s2.a s2.n s2.c].toArray) ∧
      Own 37 3 eO w.heap.size w' s1 (lockP h).dn ∧ Own 3 1 eI w.heap.size w' s2 (lockP h).ab ∧ Ext w w') ?_).mono fun e w' ⟨v, he, s1, s2, hv, hx⟩ => ⟨s1, s2, by rw [he, hv], hx⟩
  have hn := hs.len
  have hbig : h.length ≤ big := by show h.length ≤ 9223372036854775807; omega
  refine Let.intro fun w1 e1 => ?_
  have hx1 : Ext w w1 := by rw [e1]; exact Ext.alloc ..
  have z1 := hx1.size
  have hfb : FB w1 w.heap.size 101 (fun i => if i = 100 then kS s else if 85 ≤ i ∧ i < 92 ∨ i = 0 ∨ i = 99 then .slice none 0 0 else .bool false) 99 := by
    rw [e1]
    exact Blk.alloc w _ 99
  generalize hf0 : (fun i : Nat => if i = 100 then kS s else if 85 ≤ i ∧ i < 92 ∨ i = 0 ∨ i = 99 then Value.slice none 0 0 else Value.bool false) = f0 at hfb
  have hlt1 := hfb.lt
  have ht1 : Tab h w.heap.size w1 w.heap.size LS.init (fun _ => false) f0 ⟨none, 0, 0⟩ ⟨none, 0, 0⟩ s (fun _ => ⟨none, 0, 0⟩) := by
    refine ⟨hfb, Nat.le_refl _, by subst hf0; rfl, fun x i hx hi => ?_, fun x i hx hi => ?_, fun x hx => ?_, fun x hx => ?_, by subst hf0; rfl, by subst hf0; rfl, Own.nil .., Own.nil .., fun x hx => Tl.nil .., fun x y _ _ _ g hg => absurd hg.1 (Nat.lt_irrefl _), fun x _ g hg => absurd hg.1 (Nat.lt_irrefl _), hs.ext hx1, fun a hne ha => hs.lt (by intro o; simp [eO]) hne ha⟩
    · subst hf0; simp only; rw [if_neg (by omega), if_neg (by omega)]; rfl
    · subst hf0; simp only; rw [if_neg (by omega), if_neg (by omega)]; rfl
    · subst hf0; simp only; rw [if_neg (by omega), if_pos (by omega)]; rfl
    · subst hf0; simp only; rw [if_neg (by omega), if_neg (by omega)]
  have hT1 : TabX h w.heap.size s w1 w.heap.size LS.init := ⟨_, _, _, _, _, ht1, fun x _ => by simp [LS.init]⟩
  refine Join.dir (rangeI (fun i w' => TabX h w.heap.size s w' w.heap.size (lockN h i) ∧ Ext w w') (by rw [hn]; exact hbig) ⟨hT1, hx1⟩ ?_ ?_)
  · rintro i hi w4 ⟨hT4, hx4⟩ K hK
    have hi : i < h.length := by omega
    have v := lockN_lj ho i (by omega)
    have hK : ∀ w', TabX h w.heap.size s w' w.heap.size (lockStep h (lockN h i) i) → Ext w w' → K w' := fun w' h1 h2 => hK w' ⟨h1, h2⟩
    generalize hst : lockN h i = st at hT4 v hK
    refine loadEv (hs.ext hx4) hi zc37 fun w7 hb7 hx7 => ?_
    rw [← opA_at hi] at hb7
    have hoi := ho.at hi
    obtain ⟨m, hmt, hm1, hm7⟩ := txn_nat hoi
    obtain ⟨wt, f, sd, sa, sq, t4, hw4⟩ := hT4
    have t7 := t4.ext hx7
    have hx07 := hx4.trans hx7
    have hab := v.li.ab_len
    refine ⟨sa, t7.ca, ?_⟩
    have hsa := t7.oa.sli
    refine ⟨fun (c : Bool) w8 => c = decide ((opA h i).t ∈ st.ab) ∧ Ext w7 w8, ?_, ?_⟩
    rotate_left
    · refine rangeKI (k := .bool) (fun j (c : Bool) w' => c = decide ((opA h i).t ∈ st.ab.take j) ∧ Ext w7 w') (by rw [hsa.len]; show st.ab.length ≤ 9223372036854775807; omega) ⟨by simp, Fr.refl _ _⟩ ?_ ?_
      · rintro j hj c w22 ⟨rfl, hx22⟩ K2 hK2
        have hj : j < st.ab.length := by have := hsa.len; omega
        obtain ⟨p, hp, a1, a2, hr⟩ := Ints.at (hsa.ext hx22) hj
        refine ⟨p, hp, a1, a2, _, hr, Join.dir (cond_intro (fun hc => hK2 _ _ ⟨?_, hx22⟩) (fun hc => ⟨(opA h i).t, (hb7.ext hx22).cell 0, hK2 _ _ ⟨?_, hx22⟩⟩))⟩
        · rw [List.take_succ_eq_append_getElem hj]
          have : (opA h i).t ∈ st.ab.take j := by simpa using hc
          exact (decide_eq_true (List.mem_append_left _ this)).symm
        · rw [List.take_succ_eq_append_getElem hj]
          have : ¬ (opA h i).t ∈ st.ab.take j := by simpa using hc
          rw [Bool.eq_iff_iff]
          simp only [beq_iff_eq, decide_eq_true_eq, List.mem_append, List.mem_singleton]
          exact ⟨fun h => .inr h.symm, fun h => by rcases h with h | h; exact absurd h this; exact h.symm⟩
      · rintro c w' ⟨rfl, hx'⟩
        rw [hsa.len, List.take_length]
        exact ⟨rfl, hx'⟩
    rintro c w8 ⟨rfl, hx8⟩
    have t8 := t7.ext hx8
    have hb8 := hb7.ext hx8
    have hx08 := hx07.trans hx8
    refine cond_intro (fun hc => ?_) (fun hc => ?_)
    · have hin : (opA h i).t ∈ st.ab := by simpa using hc
      refine hK _ ?_ hx08
      unfold lockStep
      rw [if_pos hin]
      exact ⟨_, _, _, _, _, t8, hw4⟩
    have hnin : (opA h i).t ∉ st.ab := by simpa using hc
    have hS : ∀ u, Ext w8 u → World.cell? u ⟨w4.heap.size, 0 + 0, none⟩ = some (.int .i64 (opA h i).t) ∧ World.cell? u ⟨w.heap.size, 0 + 85 + Int.toNat (opA h i).t * 1, none⟩ = some (.slice (sq m).a (sq m).n (sq m).c) := fun u hu =>
      ⟨(hb8.ext hu).cell 0, by rw [hmt]; simpa using (t8.ext hu).cq hm7⟩
    refine ⟨fun u => World.cell? u ⟨w4.heap.size, 0 + 0, none⟩ = some (.int .i64 (opA h i).t) ∧ World.cell? u ⟨w.heap.size, 0 + 85 + Int.toNat (opA h i).t * 1, none⟩ = some (.slice (sq m).a (sq m).n (sq m).c), hS _ (Ext.drew _), Let.intro fun w9 e9 => ?_⟩
    have hx9 : Ext w8 w9 := by rw [e9]; exact Ext.drew _
    have t9 := t8.ext hx9
    have hql : (st.q (m : Int)).length ≤ i := by
      have h1 : (st.q (m : Int)).Nodup := (v.li.gd.srt (m : Int)).imp fun h e => by omega
      have := h1.length_le_of_subset (l₂ := List.range i) fun j hj => by simpa using v.lt _ j hj
      simpa using this
    obtain ⟨s49, w10, e10, hx10, s50, w11, e11, ht11, hf11, hwh⟩ := appendTl3 (t9.tl m hm7) (i : Int) (by simp; omega) t9.hBw
    have hx810 := hx9.trans hx10
    have t10 := t8.ext hx810
    have z10 := hx10.size
    have hmap : (st.q (m : Int)).map jI ++ [(i : Int)] = (st.q (m : Int) ++ [i]).map jI := by rw [List.map_append]; rfl
    rw [hmap] at ht11
    obtain ⟨d12, t12, f12⟩ := t10.setQ hm7 hf11 ht11 (fun y hy hne g hg h2 => by
      rcases hwh with hwh | hwh
      · exact t10.sep y m hy hm7 hne g h2 (hwh g hg)
      · have h3 := hwh g hg
        have h4 := (rm_cells t9 hy h2).2.1
        omega) (fun g hg => by
      rcases hwh with hwh | hwh
      · exact t10.sepa m hm7 g (hwh g hg)
      · have h3 := hwh g hg
        rintro ⟨a, ha, hga⟩
        have h4 := (t9.oa.base ha).2
        omega)
    have hS11 : World.cell? w11 ⟨w4.heap.size, 0 + 0, none⟩ = some (.int .i64 (opA h i).t) ∧ World.cell? w11 ⟨w.heap.size, 0 + 85 + Int.toNat (opA h i).t * 1, none⟩ = some (.slice (sq m).a (sq m).n (sq m).c) := by
      have hRm : ∀ y, Rm (sq m) y → ∃ cur, Blk w10 y cur 3 := fun y hy => (rm_cells t10 hm7 hy).2.2
      refine ⟨hf11.cell (a := ⟨w4.heap.size, 0 + 0, none⟩) (fun hy => ?_) (hS w10 hx810).1, hf11.cell (a := ⟨w.heap.size, _, none⟩) (fun hy => ?_) (hS w10 hx810).2⟩
      · obtain ⟨cur, hc⟩ := hRm _ hy; exact Blk.ne_ty hc (hb8.ext hx810) (by decide) rfl
      · obtain ⟨cur, hc⟩ := hRm _ hy; exact Blk.ne_ty hc t10.fb (by decide) rfl
    have hiq : 0 + 85 + Int.toNat (opA h i).t * 1 = 85 + m := by rw [hmt]; simp
    refine ⟨(opA h i).t, fun u hu => hu.1, (opA h i).t, fun u hu => hu.1, by omega, by omega, sq m, fun u hu => hu.2, s49, w10, e10, hS _ hx810, s50, w11, e11, hS11, by omega, by omega, by rw [hiq]; exact d12, Let.intro fun w12 e12 => Let.intro fun w13 e13 => ?_⟩
    rw [hiq] at e12
    rw [← e12] at t12 f12
    have hx13 : Ext w12 w13 := by rw [e13]; exact Ext.drew _
    have t13 := t12.ext hx13
    have hb13 : World.cell? w13 ⟨w4.heap.size, 0 + 0, none⟩ = some (.int .i64 (opA h i).t) := by
      refine Ext.cell hx13 (f12.cell (a := ⟨w4.heap.size, 0 + 0, none⟩) (fun (e : w4.heap.size = w.heap.size) => ?_) hS11.1)
      have := t4.fb.lt; omega
    have hxx13 : Ext w w13 := by
      have g1 : Ext w w11 := (hx08.trans hx810).newer hf11 fun y hy => (rm_cells t10 hm7 hy).1
      exact (g1.newer f12 fun y (hy : y = w.heap.size) => by omega).trans hx13
    have v1 := v.li.add hi v.lt hnin
    have vA := v.li.lockA ho hi v.lt hnin
    have hlA := lockA_eq (h := h) (st := st) (i := i)
    rw [hmt] at v1 hlA
    have hcw : World.cell? w13 ⟨w.heap.size, 0 + 92 + Int.toNat (opA h i).t * 1, none⟩ = some (.bool (wt m)) := by rw [hmt]; simpa using t13.cwt hm7
    have hwm := hw4 m hm7
    refine ⟨(opA h i).t, hb13, by omega, by omega, wt m, hcw, ?_⟩
    refine ⟨fun w14 => TabX h w.heap.size s w14 w.heap.size (lockA h st i) ∧ Ext w w14, ?_, ?_⟩
    · rintro w14 ⟨hT14, hx14⟩
      refine Join.dir (LoopV.intro (fun n w16 => ∃ st1, TabX h w.heap.size s w16 w.heap.size st1 ∧ LI h (i + 1) st1 ∧ retryP h (total st1) st1 = retryP h (total (lockA h st i)) (lockA h st i) ∧ n = total st1 ∧ Ext w w16) (total (lockA h st i))
        ⟨_, hT14, vA, rfl, rfl, hx14⟩ ?_)
      rintro n w16 ⟨st1, hT16, v16, hre, rfl, hx16⟩
      obtain ⟨wt', f', sd', sa', sq', t16, hw16⟩ := hT16
      refine (c52 t16 ho hl hw16).mono fun e w17 ⟨he, hx17⟩ => ⟨_, he, ?_⟩
      cases hnp : nextP h st1 with
      | none =>
        refine cond_intro (fun hc => by simp at hc) (fun _ => ?_)
        refine hK _ ?_ (hx16.trans hx17)
        rw [step_of ho hi v hnin, ← hre, retry_same v16.gd ((nextP_none v16.gd).1 hnp)]
        exact ⟨_, _, _, _, _, t16.ext hx17, hw16⟩
      | some u =>
        obtain ⟨j, r, hjl, hju, hqu, _, _⟩ := nextP_some hnp
        have hu := v16.gd.range ho hqu
        obtain ⟨k, hk, hk1, hk7⟩ := six_nat (mem_six.2 hu)
        refine cond_intro (fun _ => ?_) (fun hc => ?_)
        rotate_left
        · simp at hc; omega
        refine Join.dir ?_
        refine (c52 (t16.ext hx17) ho hl hw16).mono fun e w19 ⟨he, hx19⟩ => ⟨_, he, ?_⟩
        rw [hnp]
        simp only [Option.getD_some]
        subst hk
        have t19 := (t16.ext hx17).ext hx19
        refine (c51 t19 ho hl v16 hk1 hk7 (fun x hx _ => hw16 x hx)).mono fun e w20 ⟨he, hT20, f20⟩ => ⟨he, total (goP h k (st1.q k).length st1), next_total ho v16.gd hnp, _, hT20, v16.goP ho _, ?_, rfl, ((hx16.trans hx17).trans hx19).newer f20 fun _ h => h⟩
        rw [← hre, retry_step ho v16.gd hnp]
    · refine cond_intro (fun hc => ?_) (fun hc => ?_)
      · have hq0 : st.q (m : Int) = [] := by rw [hwm] at hc; simpa using hc
        rw [if_pos hq0] at hlA
        refine ⟨(opA h i).t, hb13, ?_⟩
        rw [hmt]
        have hl1 : ((setq st (m : Int) (st.q (m : Int) ++ [i])).q (m : Int)).length = 1 := by rw [setq_q, upq_same, hq0]; rfl
        refine (c51 t13 ho hl v1 hm1 hm7 fun x hx hne => ?_).mono fun e w21 ⟨he, hT21, f21⟩ => ⟨he, ?_, hxx13.newer f21 fun _ h => h⟩
        · rw [setq_q, upq_other (by omega)]; exact hw4 x hx
        · rw [hl1] at hT21; rw [hlA]; exact hT21
      · have hq0 : st.q (m : Int) ≠ [] := by rw [hwm] at hc; simpa using hc
        rw [if_neg hq0] at hlA
        refine ⟨?_, hxx13⟩
        rw [hlA]
        refine ⟨_, _, _, _, _, t13, fun x hx => ?_⟩
        rw [setq_q]
        by_cases e : x = m
        · subst e; rw [upq_same, hwm]; simp [hq0]
        · rw [upq_other (by omega)]; exact hw4 x hx
  · rintro w4 ⟨hT4, hx4⟩
    refine Let.intro fun w3 e3 => ?_
    have hx3 : Ext w4 w3 := by rw [e3]; exact Ext.drew _
    rw [hn] at hT4
    obtain ⟨wt, f, sd, sa, sq, t4, _⟩ := hT4
    have t3 := t4.ext hx3
    exact ⟨sd, t3.cd, sa, t3.ca, sd, sa, rfl, t3.od, t3.oa, hx4.trans hx3⟩
theorem c22 {w : World} {s : Sl} {h : List Ev} (hs : Hs w s h) (hl : h.length ≤ 1000000) :
    Calls Try.prog 22 [.slice s.a s.n s.c].toArray w fun e w' => ∃ s' : Sl, e = .returned (.slice s'.a s'.n s'.c) ∧ Own 37 3 eO w.heap.size w' s' h ∧ Ext w w' := by
  refine (call22 s (R := fun v w' => ∃ s' : Sl, v = .slice s'.a s'.n s'.c ∧ Own 37 3 eO w.heap.size w' s' h ∧ Ext w w') ?_).mono fun e w' ⟨v, he, s', hv, h1, h2⟩ => ⟨s', by rw [he, hv], h1, h2⟩
  have hn := hs.len
  have hbig : h.length ≤ big := by show h.length ≤ 9223372036854775807; omega
  refine Join.dir (rangeSI (fun i (s' : Sl) w' => Own 37 3 eO w.heap.size w' s' (h.take i) ∧ Ext w w') (by rw [hn]; exact hbig) ⟨Own.nil .., Fr.refl _ _⟩ ?_ ?_)
  · rintro i hi s' w2 ⟨ho, hx⟩ K hK
    have hi : i < h.length := by omega
    refine loadEv (hs.ext hx) hi zc38 fun w5 hb hx5 => ⟨_, hb.cell 0, _, hb.cell 1, _, hb.cell 2, ?_⟩
    have ho5 := ho.ext hx5
    obtain ⟨s1, w9, e9, s2, w10, e10, ho2, hf⟩ := appendEv E23 ho5 h[i] (by simp; omega) (by have := (hx.trans hx5).size; omega)
    exact ⟨s1, w9, e9, s2, w10, e10, hK _ _ ⟨by rw [List.take_succ_eq_append_getElem hi]; exact ho2, Own.newer ho5 (hx.trans hx5) hf (Nat.le_refl _)⟩⟩
  · rintro s' w' ⟨ho, hx⟩
    rw [hn, List.take_length] at ho
    exact ⟨s', rfl, ho, hx⟩

theorem c5 {w : World} {s : Sl} {h : List Ev} (hs : Hs w s h) (hl : h.length ≤ big) :
    Calls Try.prog 5 [.slice s.a s.n s.c].toArray w fun e w' => e = .returned (.bool true) ∧ Ext w w' := by
  refine (call5 s (R := fun v w' => v = .bool true ∧ Ext w w') ?_).mono fun e w' ⟨v, he, hv, hx⟩ => ⟨by rw [he, hv], hx⟩
  refine (of_ok hs hl).mono fun e w1 ⟨s10, he, ho10, hx1⟩ => ⟨s10, he, ?_⟩
  refine (c19 ho10.sli (by simp; omega)).mono fun e w2 ⟨s1, s2, x, he, hcase, hx2⟩ => ⟨s1, s2, x, he, ?_⟩
  have hx02 := hx1.trans hx2
  refine (c13 (hs.ext hx02) hl).mono fun e w3 ⟨he, hx3⟩ => ⟨_, he, ?_⟩
  have hx03 := hx02.trans hx3
  rw [valid_take] at hcase
  rcases hcase with ⟨hnv, n1, n2, rfl⟩ | ⟨hv, ho1, ho2, rfl⟩
  · refine cond_intro (fun _ => Join.dir (cond_intro (fun _ => cond_intro (fun _ => hawake hx03) (fun hc => by simp at hc)) (fun hc => ?_))) (fun hc => ?_)
    · rw [n1, n2] at hc; simp [wrap64] at hc
    · simp [hnv] at hc
  rw [valid_self hv] at ho1 ho2
  refine cond_intro (fun hc => by simp [hv] at hc) (fun _ => ?_)
  have h40 := hv.2
  obtain ⟨hv2, _⟩ := lockP_facts hv
  have v := lockP_lj (h := h) hv.1.1
  have hdl := hv2.2
  have hal := v.li.ab_len
  refine (c20 (hs.ext hx03) hv.1.1 (by omega)).mono fun e w6 ⟨s3, s4, he, ho3, ho4, hx6⟩ => ⟨s3, s4, he, Join.dir ?_⟩
  have hx36 := hx3.trans hx6
  refine (c22 (ho1.sli.ext hx36) (by omega)).mono fun e w8 ⟨s37, he, ho37, hx8⟩ => ⟨s37, he, ?_⟩
  refine (c21 ho37.sli (ho3.sli.ext hx8) (by show _ ≤ 9223372036854775807; omega)).mono fun e w9 ⟨he, hx9⟩ => ⟨_, he, cond_intro (fun _ => ?_) (fun hc => by simp at hc)⟩
  refine (c16 ((ho2.sli.ext hx36).ext (hx8.trans hx9)) (ho4.sli.ext (hx8.trans hx9)) (by show _ ≤ 9223372036854775807; omega)).mono fun e w10 ⟨he, hx10⟩ => ⟨_, he, cond_intro (fun _ => cond_intro (fun _ => ?_) (fun hc => by simp at hc)) (fun hc => by simp at hc)⟩
  exact hawake ((((hx03.trans hx6).trans hx8).trans hx9).trans hx10)
end Go.Proofs.Ytnbkihkdfhjlmaa
/-
  Contract: the law HistorySerial.
-/
namespace Go.Proofs.Ytnbkihkdfhjlmaa
open Go Go.VC
set_option maxHeartbeats 1000000
set_option maxRecDepth 100000

/-- An operation appended, and where the slice then lies. -/
theorem appendEvW {t e : Nat} (E : Elem Try.prog t e 3 24) {B : Nat} {w : World} {s : Sl} {l : List Ev} (ho : Own e 3 eO B w s l) (x : Ev) (hl : l.length ≤ 1000000) (hB : B ≤ w.heap.size) :
    ∃ (s1 : Sl) (w1 : World), (Instr.buildSlice t 1 [(0, .agg [.int .i64 x.t, .int .i64 x.k, .int .i64 x.i].toArray)].toArray).run Try.prog w = .ok (.slice s1.a s1.n s1.c) w1 ∧
      ∃ (s' : Sl) (w' : World), (Builtin.append_ #[t, t] t #[.slice s.a s.n s.c, .slice s1.a s1.n s1.c]).run Try.prog w1 = .ok (.slice s'.a s'.n s'.c) w' ∧ Own e 3 eO B w' s' (l ++ [x]) ∧ Fr (Bl s) w w' ∧ (s'.a = s.a ∨ ∀ a, s'.a = some a → w.heap.size ≤ a.block) := by
  have hb := buildOne_run E (v := .agg [.int .i64 x.t, .int .i64 x.k, .int .i64 x.i].toArray) (vs := eO x) rfl rfl (by omega) w
  have hx := Ext.alloc w (.cells (eO x).toArray e)
  have h2 : Sli 3 eO (w.alloc (.cells (eO x).toArray e)) ⟨some ⟨w.heap.size, 0, none⟩, 1, 1⟩ [x] := ⟨rfl, Nat.le_refl _, fun _ => ⟨⟨w.heap.size, 0⟩, rfl, by simpa using (Blk.alloc w (eO x) e).rd⟩⟩
  obtain ⟨s', w', hr, ho', hf⟩ := appendSli E (ho.ext hx) h2 eO_len eO_one (by simp; omega) (by simp [maxLen]; omega) (by have := hx.size; omega) t
  refine ⟨⟨some ⟨w.heap.size, 0, none⟩, 1, 1⟩, _, hb, s', w', hr, ho', hx.fr hf, ?_⟩
  rcases append_where E (ho.ext hx) h2 eO_len eO_one (by simp; omega) (by simp [maxLen]; omega) t hr with h | h
  · exact .inl h
  · exact .inr fun a ha => Nat.le_trans hx.size (h a ha)

theorem c9 {w : World} {s s' : Sl} {h : List Ev} {ord : List Int} (hs : Hs w s h) (hs' : Ints w s' ord) (hl : h.length ≤ big) (hl' : ord.length ≤ big) :
    Calls Try.prog 9 [.slice s.a s.n s.c, .slice s'.a s'.n s'.c].toArray w fun e w' => e = .returned (.bool true) ∧ Ext w w' := by
  refine (call9 s s' (R := fun v w' => v = .bool true ∧ Ext w w') ?_).mono fun e w' ⟨v, he, hv, hx⟩ => ⟨by rw [he, hv], hx⟩
  have hn' := hs'.len
  -- the history that is made
  refine ⟨fun (s5 s6 : Sl) w1 => ∃ ds : List Int, ds.Nodup ∧ (∀ t ∈ ds, t ∈ six) ∧ (ds ≠ [] → Valid h) ∧ (ser h ds).length ≤ 36 ∧ Own 38 3 eO w.heap.size w1 s5 (ser h ds) ∧ Own 3 1 eI w.heap.size w1 s6 ds ∧ Ext w w1, ?_, ?_⟩
  · rintro s5 s6 w1 ⟨ds, hn, h6, hvd, hlen, ho5, ho6, hx1⟩
    have hok : ∀ ds' : List Int, ds' = ds → OkH (ser h ds) ∧ Wf (ser h ds) ∧ ((∃ r, progO (ser h ds) = some r ∧ cmpL r ds ≤ 0) ∧ strictB (ser h ds) = true ∧ allowP (ser h ds) ∧ (∃ r, progS (ser h ds) = some r ∧ cmpL r ds ≤ 0) ∧ (lockP (ser h ds)).dn = ser h ds ∧ (lockP (ser h ds)).ab = [] ∧
        ds.Perm (com (ser h ds)) ∧ ds.Pairwise fun a b => conf (part (ser h ds)) b a = false) := fun _ _ => by
      by_cases hd : ds = []
      · subst hd
        have e : ser h [] = ser [] [] := rfl
        rw [e]
        have h0 : OkH ([] : List Ev) := fun o ho => by cases ho
        exact ⟨ser_ok h0 h6, ser_wf h0 hn h6, ser_law h0 hn h6⟩
      · have h0 : OkH h := (hvd hd).1.1
        exact ⟨ser_ok h0 h6, ser_wf h0 hn h6, ser_law h0 hn h6⟩
    obtain ⟨hok, hwf, ⟨r, hr, hrc⟩, hst, hal, ⟨r2, hr2, hrc2⟩, hl1, hl2, hperm, hpw⟩ := hok ds rfl
    have hv : Valid (ser h ds) := ⟨hwf, by omega⟩
    generalize ser h ds = g at hlen ho5 hok hwf hr hst hal hr2 hl1 hl2 hperm hpw hv
    have hgb : g.length ≤ big := by show g.length ≤ 9223372036854775807; omega
    refine (c17 ho5.sli (by omega)).mono fun e w2 ⟨s83, x83, he, hc, hx2⟩ => ⟨s83, x83, he, ?_⟩
    rcases hc with ⟨hnv, _⟩ | ⟨_, hi83, hx83⟩
    · exact absurd hv hnv
    rw [hr] at hi83 hx83
    refine (c25 (ho5.sli.ext hx2) (by omega)).mono fun e w3 ⟨b0, b1, b2, x88, he, hc, hx3⟩ => ⟨b0, b1, b2, x88, he, ?_⟩
    rcases hc with ⟨hnv, _⟩ | ⟨_, hb2, hx88⟩
    · exact absurd hv hnv
    rw [hst] at hb2
    have hx13 := hx2.trans hx3
    refine (c30 (ho5.sli.ext hx13) hgb).mono fun e w4 ⟨b95, x95, he, hc, hx4⟩ => ⟨b95, x95, he, ?_⟩
    rcases hc with ⟨hnv, _⟩ | ⟨_, hb95, hx95⟩
    · exact absurd hv hnv
    have hb95 := hb95.2 hal
    have hx14 := hx13.trans hx4
    refine (c31 (ho5.sli.ext hx14) hgb).mono fun e w5 ⟨s100, x100, he, hc, hx5⟩ => ⟨s100, x100, he, ?_⟩
    rcases hc with ⟨hnv, _⟩ | ⟨_, hna, _⟩ | ⟨_, _, hi100, hx100⟩
    · exact absurd hv hnv
    · exact absurd hal hna
    rw [hr2] at hi100 hx100
    have hx15 := hx14.trans hx5
    refine (c19 (ho5.sli.ext hx15) (by omega)).mono fun e w6 ⟨s105, s105', x105, he, hc, hx6⟩ => ⟨s105, s105', x105, he, ?_⟩
    rcases hc with ⟨hnv, _⟩ | ⟨_, hm, hab, hx105⟩
    · exact absurd hv hnv
    rw [hl1] at hm
    rw [hl2] at hab
    have nab := hab.1
    have hx16 := hx15.trans hx6
    have hx26 := (hx3.trans hx4).trans (hx5.trans hx6)
    simp only [Option.getD_some, Option.isSome_some, if_true] at hi83 hx83 hi100 hx100
    subst hx83 hb2 hx88 hb95 hx95 hx100 hx105
    have hds6 : ds.length ≤ 6 := by simpa [six] using hn.length_le_of_subset (l₂ := six) h6
    have hrl : ∀ (q : List Int) (E : Int → Int → Bool), srt E (com g).length (com g) = some q → q.length ≤ big := fun q E hq => by
      have := (srt_some _ _ q rfl hq).1.length_eq
      have h3 := com_len g
      show q.length ≤ 9223372036854775807; omega
    refine Join.dir (cond_intro (fun _ => ?_) (fun hc => by simp at hc))
    refine (c24 (hi83.ext hx26) (ho6.sli.ext hx16) (hrl r _ hr)).mono fun e w8 ⟨he, hx8⟩ => ⟨_, he, cond_intro (fun _ => ?_) (fun hc => by simp at hc; omega)⟩
    refine (c22 ((ho5.sli.ext hx16).ext hx8) (by omega)).mono fun e w9 ⟨s119, he, ho119, hx9⟩ => ⟨s119, he, ?_⟩
    have hx19 := (hx16.trans hx8).trans hx9
    refine (c29 ho119.sli (ho6.sli.ext hx19) hok (by omega) hperm).mono fun e w10 ⟨c, he, hc, hx10⟩ => ⟨c, he, ?_⟩
    have hct := hc.2 hpw
    subst hct
    have hx110 := hx19.trans hx10
    refine cond_intro (fun _ => cond_intro (fun _ => cond_intro (fun _ => cond_intro (fun _ => cond_intro (fun _ => cond_intro (fun _ => ?_) (fun hc => by simp at hc)) (fun hc => by simp at hc)) (fun hc => by simp at hc)) (fun hc => by simp at hc)) (fun hc => by simp at hc)) (fun hc => by simp at hc)
    have hx510 := (hx6.trans hx8).trans (hx9.trans hx10)
    have hx610 := hx8.trans (hx9.trans hx10)
    refine (c24 (hi100.ext hx510) (ho6.sli.ext hx110) (hrl r2 _ hr2)).mono fun e w11 ⟨he, hx11⟩ => ⟨_, he, cond_intro (fun _ => ?_) (fun hc => by simp at hc; omega)⟩
    refine (c23 ((hm.sli.ext hx610).ext hx11) ((ho5.sli.ext hx110).ext hx11) hgb).mono fun e w12 ⟨he, hx12⟩ => ⟨_, he, cond_intro (fun _ => cond_intro (fun _ => cond_intro (fun _ => ?_) (fun hc => by simp at hc)) (fun hc => ?_)) (fun hc => by simp at hc)⟩
    · exact hawake (((hx1.trans hx110).trans hx11).trans hx12)
    · simp at nab; simp [nab] at hc
  · refine LoopV.intro (fun m (s5 s6 : Sl) (x : Int) w1 => ∃ (i : Nat) (ds : List Int), x = i ∧ m = ord.length - i ∧ i ≤ ord.length ∧ ds.Nodup ∧ (∀ t ∈ ds, t ∈ six) ∧ (ds ≠ [] → Valid h) ∧ (ser h ds).length ≤ 36 ∧ Own 38 3 eO w.heap.size w1 s5 (ser h ds) ∧ Own 3 1 eI w.heap.size w1 s6 ds ∧ Ext w w1) ord.length
      ⟨0, [], rfl, by omega, by omega, by simp, by simp, by simp, by simp [ser], Own.nil .., Own.nil .., Fr.refl _ _⟩ ?_
    rintro m s5 s6 x w14 ⟨i, ds, rfl, rfl, hi, hn, h6, hvd, hlen, ho5, ho6, hx14⟩
    refine cond_intro (fun hc => ?_) (fun hc => ?_)
    rotate_left
    · exact ⟨ds, hn, h6, hvd, hlen, ho5, ho6, hx14⟩
    have hi : i < ord.length := by have : (i : Int) < (s'.n : Int) := by simpa using hc
                                   omega
    have hnext : ∀ (s5 s6 : Sl) (w1 : World) (ds : List Int), ds.Nodup → (∀ t ∈ ds, t ∈ six) → (ds ≠ [] → Valid h) → (ser h ds).length ≤ 36 → Own 38 3 eO w.heap.size w1 s5 (ser h ds) → Own 3 1 eI w.heap.size w1 s6 ds → Ext w w1 →
        ltC [(5, .slice), (6, .slice), (26, .int .i64)] (ord.length - i) (fun m (s5 s6 : Sl) (x : Int) w1 => ∃ (i : Nat) (ds : List Int), x = i ∧ m = ord.length - i ∧ i ≤ ord.length ∧ ds.Nodup ∧ (∀ t ∈ ds, t ∈ six) ∧ (ds ≠ [] → Valid h) ∧ (ser h ds).length ≤ 36 ∧ Own 38 3 eO w.heap.size w1 s5 (ser h ds) ∧ Own 3 1 eI w.heap.size w1 s6 ds ∧ Ext w w1) s5 s6 (IntKind.wrap .i64 ((i : Int) + 1)) w1 := fun s5 s6 w1 ds h1 h2 h3 h4 h5 h6 h7 =>
      ⟨ord.length - (i + 1), by omega, i + 1, ds, by rw [wrap64 (by omega) (by have : ord.length ≤ 9223372036854775807 := hl'; omega)]; rfl, rfl, by omega, h1, h2, h3, h4, h5, h6, h7⟩
    obtain ⟨p, hp, a1, a2, hr⟩ := Ints.at (hs'.ext hx14) hi
    generalize ord[i] = t at hr
    have hds6 : ds.length ≤ 6 := by simpa [six] using hn.length_le_of_subset (l₂ := six) h6
    refine Join.dir ⟨p, hp, a1, a2, t, hr, ?_⟩
    refine ⟨fun (c : Bool) w16 => (c = false → 1 ≤ t ∧ t ≤ 6 ∧ t ∉ ds ∧ Valid h) ∧ Ext w14 w16, ?_, ?_⟩
    rotate_left
    · refine cond_intro (fun _ => ⟨(fun h => by cases h), Fr.refl _ _⟩) (fun g1 => cond_intro (fun _ => ⟨(fun h => by cases h), Fr.refl _ _⟩) (fun g2 => ?_))
      refine (c28 ho6.sli t (by show ds.length ≤ 9223372036854775807; omega)).mono fun e w32 ⟨he, hx32⟩ => ⟨_, he, cond_intro (fun _ => ⟨(fun h => by cases h), hx32⟩) (fun g3 => ?_)⟩
      refine (c13 ((hs.ext hx14).ext hx32) hl).mono fun e w33 ⟨he, hx33⟩ => ⟨_, he, fun g4 => ?_, hx32.trans hx33⟩
      simp at g1 g2 g3 g4
      exact ⟨by omega, by omega, g3, g4⟩
    rintro c w16 ⟨hc, hx16⟩
    refine cond_intro (fun _ => hnext _ _ _ ds hn h6 hvd hlen (ho5.ext hx16) (ho6.ext hx16) (hx14.trans hx16)) (fun hcf => ?_)
    obtain ⟨t1, t6, hnt, hv⟩ := hc hcf
    have hself := valid_self hv
    have h40 := hv.2
    have hx016 := hx14.trans hx16
    refine (of_ok (hs.ext hx016) hl).mono fun e w17 ⟨s47, he, ho47, hx17⟩ => ⟨s47, he, ?_⟩
    rw [hself] at ho47
    have n47 := ho47.sli.len
    have hx017 := hx016.trans hx17
    have ho5' := (ho5.ext hx16).ext hx17
    have ho6' := (ho6.ext hx16).ext hx17
    have zz := hx016.size
    have zz17 := hx17.size
    refine ⟨fun (s : Sl) w18 => Own 38 3 eO w.heap.size w18 s (ser h ds ++ h.filter fun o => decide (o.t = t ∧ o.k < 2)) ∧ Own 3 1 eI w.heap.size w18 s6 ds ∧ Ext w w18, ?_, ?_⟩
    · rintro s5' w18 ⟨ho18, ho6, hx18⟩
      refine cond_intro (fun _ => hawake hx18) (fun g => ?_)
      have hl34 : (ser h ds ++ h.filter fun o => decide (o.t = t ∧ o.k < 2)).length ≤ 34 := by have := ho18.sli.len; simp at g; omega
      have hB : w.heap.size ≤ w18.heap.size := hx18.size
      obtain ⟨s73, w20, e20, s74, w21, e21, ho21, hf21⟩ := appendInt ho6 t (by omega) hB
      have hx21 : Ext w w21 := Own.newer ho6 hx18 hf21 (Nat.le_refl _)
      have ho18' := ho18.fr hf21 fun a ha ⟨a', ha', hy⟩ => by
        obtain ⟨cur, hc⟩ := ho18.blk ha
        obtain ⟨cur', hc'⟩ := ho6.blk ha'
        rw [hy] at hc'
        exact Blk.ne_ty hc hc' (by decide) rfl
      obtain ⟨s78, w22, e22, s79, w23, e23, ho23, hf23⟩ := appendEv E29 ho18' ⟨t, 2, 0⟩ (by omega) hx21.size
      have ho6' := ho21.fr hf23 fun a ha ⟨a', ha', hy⟩ => by
        obtain ⟨cur, hc⟩ := ho21.blk ha
        obtain ⟨cur', hc'⟩ := ho18'.blk ha'
        rw [hy] at hc'
        exact Blk.ne_ty hc hc' (by decide) rfl
      have hse : ser h (ds ++ [t]) = ser h ds ++ (h.filter fun o => decide (o.t = t ∧ o.k < 2)) ++ [⟨t, 2, 0⟩] := by rw [ser_snoc]; unfold blkT; rw [List.append_assoc]
      refine ⟨s73, w20, e20, s74, w21, e21, s78, w22, e22, s79, w23, e23, hnext _ _ _ (ds ++ [t]) ?_ ?_ (fun _ => hv) ?_ ?_ ho6' (Own.newer ho18' hx21 hf23 (Nat.le_refl _))⟩
      · rw [List.nodup_append]; exact ⟨hn, by simp, by intro a ha b hb e; simp at hb; subst hb; subst e; exact hnt ha⟩
      · intro u hu
        rcases List.mem_append.1 hu with hu | hu
        · exact h6 u hu
        · simp at hu; subst hu; exact mem_six.2 ⟨t1, t6⟩
      · rw [hse, List.length_append]; simp only [List.length_singleton]; omega
      · rw [hse]; exact ho23
    · refine rangeSI (fun j (s : Sl) w24 => Own 38 3 eO w.heap.size w24 s (ser h ds ++ (h.take j).filter fun o => decide (o.t = t ∧ o.k < 2)) ∧ Own 3 1 eI w.heap.size w24 s6 ds ∧ Ext w w24
          ∧ Own 38 3 eO w16.heap.size w24 s47 h ∧ ∀ a, s.a = some a → ∀ b, s47.a = some b → b.block ≠ a.block) (by rw [n47]; exact hl) ⟨by simpa using ho5', ho6', hx017, ho47, fun a ha b hb e => ?_⟩ ?_ ?_
      · obtain ⟨cur, hc⟩ := (ho5.ext hx16).blk ha
        have h1 := hc.lt
        have h2 := (ho47.base hb).1
        omega
      · rintro j hj s w24 ⟨ho24, ho24', hx24, hs47, hwh⟩ K hK
        have hj : j < h.length := by omega
        refine loadEv hs47.sli hj zc38 fun w27 hb27 hx27 => ?_
        have ho27 := ho24.ext hx27
        have ho27' := ho24'.ext hx27
        have hs27 := hs47.ext hx27
        have hx027 := hx24.trans hx27
        refine ⟨fun (c : Bool) w28 => c = decide (h[j].t = t ∧ h[j].k < 2) ∧ w28 = w27, ?_, ?_⟩
        · rintro c w28 ⟨rfl, rfl⟩
          refine Join.dir (cond_intro (fun hc => ?_) (fun hc => ?_))
          · have hlen2 : (ser h ds ++ (h.take j).filter fun o => decide (o.t = t ∧ o.k < 2)).length ≤ 1000000 := by
              have := List.length_filter_le (fun o : Ev => decide (o.t = t ∧ o.k < 2)) (h.take j)
              rw [List.length_append]; simp at this ⊢; omega
            obtain ⟨s1, w9, e9, s2, w10, e10, ho2, hf, hwh2⟩ := appendEvW E29 ho27 h[j] hlen2 hx027.size
            refine ⟨_, _, _, hb27.rd, s1, w9, e9, s2, w10, e10, hK _ _ ⟨?_, ho27'.fr hf fun a ha ⟨a', ha', hy⟩ => ?_, Own.newer ho27 hx027 hf (Nat.le_refl _), hs27.fr hf fun a ha ⟨a', ha', hy⟩ => hwh a' ha' a ha hy.symm, fun a ha b hb => ?_⟩⟩
            · rw [filter_step hj, if_pos hc, ← List.append_assoc]; exact ho2
            · obtain ⟨cur, hc⟩ := ho27'.blk ha
              obtain ⟨cur', hc'⟩ := ho27.blk ha'
              rw [hy] at hc'
              exact Blk.ne_ty hc hc' (by decide) rfl
            · rcases hwh2 with h | h
              · exact hwh a (h ▸ ha) b hb
              · obtain ⟨cur, hc⟩ := hs27.blk hb
                have h1 := hc.lt
                have h2 := h a ha
                omega
          · refine hK _ _ ⟨?_, ho27', hx027, hs27, hwh⟩
            rw [filter_step hj, if_neg (by rw [hc]; simp), List.append_nil]; exact ho27
        · refine ⟨_, hb27.cell 0, cond_intro (fun g => ⟨_, hb27.cell 1, ?_, rfl⟩) (fun g => ⟨?_, rfl⟩)⟩
          · have g : h[j].t = t := by simpa using g
            simp [g]
          · have g : ¬ h[j].t = t := by simpa using g
            simp [g]
      · rintro s w24 ⟨ho24, ho24', hx24, _, _⟩
        rw [n47, List.take_length] at ho24
        exact ⟨ho24, ho24', hx24⟩
end Go.Proofs.Ytnbkihkdfhjlmaa
/-
  The frame of the rows: a history as an argument.
-/
namespace Go.Proofs.Ytnbkihkdfhjlmaa
open Go Go.VC Go.ChangeShapes Go.WideShapes Go.RowKit
set_option maxRecDepth 100000

theorem own0 : ownKnob Try.prog.godebug = none := by kernel_rfl
theorem laid0 : laidOutB Try.prog = true := by kernel_rfl
theorem cells37 : Try.prog.cellsOf 37 = 3 := by kernel_rfl
theorem cells3 : Try.prog.cellsOf 3 = 1 := by kernel_rfl

section
variable {H : Type} {enc : TypeId × Value → H} {w : World} {base : Nat} {spare : Nat → Bool} {held : Bool}
/-- Three cells that read as an operation. -/
theorem open_op {fuel : Nat} {cs : List Value} {x : DataW H × List MemPlace} (h : DataW.trod enc Try.prog w base spare held fuel 37 cs = some x) : ∃ o : Ev, cs = eO o := by
  obtain ⟨xs, n, _, _, hl, hlen, hf⟩ := DataW.trod_struct Try.underlying37 h
  rw [cells37] at hl
  match cs, hl with
  | [c0, c1, c2], _ =>
    have hfield : ∀ (i : Nat) (f : Field), (#[{ name := "Txn", type := 3, offset := 0, embedded := false, tag := "", pkgPath := "", byteOffset := 0 }, { name := "Kind", type := 3, offset := 1, embedded := false, tag := "", pkgPath := "", byteOffset := 8 }, { name := "Item", type := 3, offset := 2, embedded := false, tag := "", pkgPath := "", byteOffset := 16 }] : Array Field)[i]? = some f → f.type = 3 → ∃ m : Int, (([c0, c1, c2] : List Value).drop f.offset).take 1 = [.int .i64 m] := by
      intro i f hi ht
      have h1 := hf i f hi
      have hil : i < xs.length := by rw [hlen]; exact (Array.getElem?_eq_some_iff.1 hi).1
      rw [List.getElem?_eq_getElem hil, ht, cells3] at h1
      obtain ⟨m, hm, _⟩ := DataW.trod_int Try.underlying3 h1
      exact ⟨m, hm⟩
    obtain ⟨a, ha⟩ := hfield 0 _ rfl rfl
    obtain ⟨b, hb⟩ := hfield 1 _ rfl rfl
    obtain ⟨c, hc⟩ := hfield 2 _ rfl rfl
    simp at ha hb hc
    exact ⟨⟨a, b, c⟩, by rw [ha, hb, hc]; rfl⟩
/-- Cells that are there one by one. -/
theorem rd_of {b : Nat} : ∀ {vs : List Value} {o : Nat}, (∀ i v, vs[i]? = some v → w.cell? ⟨b, o + i, none⟩ = some v) → rd w b o vs
  | [], _, _ => trivial
  | v :: r, o, h => ⟨by simpa using h 0 v rfl, rd_of fun i u hu => by
      have := h (i + 1) u (by simpa using hu)
      rw [show o + 1 + i = o + (i + 1) from by omega]; exact this⟩
theorem rd_flat {b o : Nat} {n : Nat} {f : Nat → Ev} : ∀ {k : Nat}, k ≤ n → (∀ i, i < n → rd w b (o + i * 3) (eO (f i))) → rd w b o (((List.range k).map f).flatMap eO)
  | 0, _, _ => trivial
  | k + 1, hk, h => by
    rw [List.range_succ, List.map_append, List.flatMap_append, rd_append]
    refine ⟨rd_flat (by omega) h, ?_⟩
    rw [flatMap_len eO_len, List.length_map, List.length_range]
    simpa using h k (by omega)
/-- A slice that reads as data is a history. -/
theorem open_hist {t : TypeId} (ht : Try.prog.underlying t = some (.slice 37)) {a : Option Addr} {len cap : Nat} {d : DataW H} {ps : List MemPlace} (h : DataW.Trod enc Try.prog w base spare held t (.slice a len cap) d ps) :
    ∃ l : List Ev, Hs w ⟨a, len, cap⟩ l ∧ len ≤ maxLen := by
  obtain ⟨fuel, hf⟩ := h
  rcases Deep.open_slice ht hf with ⟨hcs, _⟩ | ⟨a', len', cap', m, n, D, Pl, hcs, _, hl, hm, hmm, _, hi⟩
  · simp [Value.cells] at hcs
    obtain ⟨rfl, rfl, rfl⟩ := hcs
    exact ⟨[], Sli.nil .., Nat.zero_le _⟩
  · simp [Value.cells] at hcs
    obtain ⟨rfl, rfl, rfl⟩ := hcs
    have hlm : len ≤ m := by rw [hmm]; split <;> omega
    have hall : ∀ i, i < len → ∃ o : Ev, ∀ j v, (eO o)[j]? = some v → w.cell? (a'.add (i * 3 + j)) = some v := by
      intro i hil
      obtain ⟨cs', hc, hd⟩ := hi i (by omega)
      obtain ⟨o, rfl⟩ := open_op hd
      rw [cells37] at hc
      obtain ⟨_, _, hat⟩ := World.cells?_some hc
      refine ⟨o, fun j v hv => ?_⟩
      have hj : j < 3 := by
        rcases Nat.lt_or_ge j 3 with h | h
        · exact h
        · rw [List.getElem?_eq_none (by rw [eO_len]; exact h)] at hv; cases hv
      have := hat j hj
      rw [hv] at this
      rw [← this]
      congr 1
      unfold Addr.add
      by_cases h0 : i * 3 = 0 <;> by_cases h1 : j = 0 <;> simp [h0, h1, Nat.add_assoc]
    have hsp : 0 < len → a'.spot = none := fun h0 => by
      obtain ⟨o, ho⟩ := hall 0 h0
      have h1 := World.cell?_spot (ho 0 _ rfl)
      have h2 : a'.add (0 * 3 + 0) = a' := by unfold Addr.add; simp
      rw [h2] at h1; exact h1
    let f : Nat → Ev := fun i => if h : i < len then (hall i h).choose else ⟨0, 0, 0⟩
    have hfc : ∀ i, i < len → rd w a'.block (a'.off + i * 3) (eO (f i)) := by
      intro i hil
      have h1 := (hall i hil).choose_spec
      have h2 : f i = (hall i hil).choose := by simp [f, hil]
      rw [h2]
      refine rd_of fun j v hv => ?_
      have h3 := h1 j v hv
      obtain ⟨b, o, sp⟩ := a'
      have h4 : sp = none := hsp (by omega)
      subst h4
      rw [addr_add_plain] at h3
      rw [Nat.add_assoc]; exact h3
    refine ⟨(List.range len).map f, ⟨by simp, hl, fun hne => ?_⟩, by omega⟩
    have h0 : 0 < len := by
      rcases Nat.eq_zero_or_pos len with h | h
      · subst h; exact absurd rfl hne
      · exact h
    obtain ⟨b, o, sp⟩ := a'
    have h4 : sp = none := hsp h0
    subst h4
    exact ⟨⟨b, o⟩, rfl, rd_flat (Nat.le_refl _) hfc⟩
end
end Go.Proofs.Ytnbkihkdfhjlmaa
