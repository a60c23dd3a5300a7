/-
  Contracts: the reference's Lock (F20); the law HistoryLocks.
-/
import Derived.Test.YtnbkihkdfhjlmaaEn
import Derived.Test.YtnbkihkdfhjlmaaEi
namespace Go.Proofs.Ytnbkihkdfhjlmaa
open Go Go.VC
set_option maxHeartbeats 1000000
set_option maxRecDepth 100000

theorem c20 {w : World} {s : Sl} {h : List Ev} (hs : Hs w s h) (ho : OkH h) (hl : h.length ≤ 1000) :
    Calls Try.prog 20 [.slice s.a s.n s.c].toArray w fun e w' => ∃ s1 s2 : Sl, e = .returned (.tuple [.slice s1.a s1.n s1.c, .slice s2.a s2.n s2.c].toArray) ∧
      Own 37 3 eO w.heap.size w' s1 (lockP h).dn ∧ Own 3 1 eI w.heap.size w' s2 (lockP h).ab ∧ Ext w w' := by
  refine (call20 s (R := fun v w' => ∃ s1 s2 : Sl, v = (.tuple [.slice s1.a s1.n s1.c, .slice s2.a s2.n s2.c].toArray) ∧
      Own 37 3 eO w.heap.size w' s1 (lockP h).dn ∧ Own 3 1 eI w.heap.size w' s2 (lockP h).ab ∧ Ext w w') ?_).mono fun e w' ⟨v, he, s1, s2, hv, hx⟩ => ⟨s1, s2, by rw [he, hv], hx⟩
  have hn := hs.len
  have hbig : h.length ≤ big := by show h.length ≤ 9223372036854775807; omega
  refine Let.intro fun w1 e1 => ?_
  have hx1 : Ext w w1 := by rw [e1]; exact Ext.alloc ..
  have z1 := hx1.size
  have hfb : FB w1 w.heap.size 101 (fun i => if i = 100 then kS s else if 85 ≤ i ∧ i < 92 ∨ i = 0 ∨ i = 99 then .slice none 0 0 else .bool false) 99 := by
    rw [e1]
    exact Blk.alloc w _ 99
  generalize hf0 : (fun i : Nat => if i = 100 then kS s else if 85 ≤ i ∧ i < 92 ∨ i = 0 ∨ i = 99 then Value.slice none 0 0 else Value.bool false) = f0 at hfb
  have hlt1 := hfb.lt
  have ht1 : Tab h w.heap.size w1 w.heap.size LS.init (fun _ => false) f0 ⟨none, 0, 0⟩ ⟨none, 0, 0⟩ s (fun _ => ⟨none, 0, 0⟩) := by
    refine ⟨hfb, Nat.le_refl _, by subst hf0; rfl, fun x i hx hi => ?_, fun x i hx hi => ?_, fun x hx => ?_, fun x hx => ?_, by subst hf0; rfl, by subst hf0; rfl, Own.nil .., Own.nil .., fun x hx => Tl.nil .., fun x y _ _ _ g hg => absurd hg.1 (Nat.lt_irrefl _), fun x _ g hg => absurd hg.1 (Nat.lt_irrefl _), hs.ext hx1, fun a hne ha => hs.lt (by intro o; simp [eO]) hne ha⟩
    · subst hf0; simp only; rw [if_neg (by omega), if_neg (by omega)]; rfl
    · subst hf0; simp only; rw [if_neg (by omega), if_neg (by omega)]; rfl
    · subst hf0; simp only; rw [if_neg (by omega), if_pos (by omega)]; rfl
    · subst hf0; simp only; rw [if_neg (by omega), if_neg (by omega)]
  have hT1 : TabX h w.heap.size s w1 w.heap.size LS.init := ⟨_, _, _, _, _, ht1, fun x _ => by simp [LS.init]⟩
  refine Join.dir (rangeI (fun i w' => TabX h w.heap.size s w' w.heap.size (lockN h i) ∧ Ext w w') (by rw [hn]; exact hbig) ⟨hT1, hx1⟩ ?_ ?_)
  · rintro i hi w4 ⟨hT4, hx4⟩ K hK
    have hi : i < h.length := by omega
    have v := lockN_lj ho i (by omega)
    have hK : ∀ w', TabX h w.heap.size s w' w.heap.size (lockStep h (lockN h i) i) → Ext w w' → K w' := fun w' h1 h2 => hK w' ⟨h1, h2⟩
    generalize hst : lockN h i = st at hT4 v hK
    refine loadEv (hs.ext hx4) hi zc37 fun w7 hb7 hx7 => ?_
    rw [← opA_at hi] at hb7
    have hoi := ho.at hi
    obtain ⟨m, hmt, hm1, hm7⟩ := txn_nat hoi
    obtain ⟨wt, f, sd, sa, sq, t4, hw4⟩ := hT4
    have t7 := t4.ext hx7
    have hx07 := hx4.trans hx7
    have hab := v.li.ab_len
    refine ⟨sa, t7.ca, ?_⟩
    have hsa := t7.oa.sli
    refine ⟨fun (c : Bool) w8 => c = decide ((opA h i).t ∈ st.ab) ∧ Ext w7 w8, ?_, ?_⟩
    rotate_left
    · refine rangeKI (k := .bool) (fun j (c : Bool) w' => c = decide ((opA h i).t ∈ st.ab.take j) ∧ Ext w7 w') (by rw [hsa.len]; show st.ab.length ≤ 9223372036854775807; omega) ⟨by simp, Fr.refl _ _⟩ ?_ ?_
      · rintro j hj c w22 ⟨rfl, hx22⟩ K2 hK2
        have hj : j < st.ab.length := by have := hsa.len; omega
        obtain ⟨p, hp, a1, a2, hr⟩ := Ints.at (hsa.ext hx22) hj
        refine ⟨p, hp, a1, a2, _, hr, Join.dir (cond_intro (fun hc => hK2 _ _ ⟨?_, hx22⟩) (fun hc => ⟨(opA h i).t, (hb7.ext hx22).cell 0, hK2 _ _ ⟨?_, hx22⟩⟩))⟩
        · rw [List.take_succ_eq_append_getElem hj]
          have : (opA h i).t ∈ st.ab.take j := by simpa using hc
          exact (decide_eq_true (List.mem_append_left _ this)).symm
        · rw [List.take_succ_eq_append_getElem hj]
          have : ¬ (opA h i).t ∈ st.ab.take j := by simpa using hc
          rw [Bool.eq_iff_iff]
          simp only [beq_iff_eq, decide_eq_true_eq, List.mem_append, List.mem_singleton]
          exact ⟨fun h => .inr h.symm, fun h => by rcases h with h | h; exact absurd h this; exact h.symm⟩
      · rintro c w' ⟨rfl, hx'⟩
        rw [hsa.len, List.take_length]
        exact ⟨rfl, hx'⟩
    rintro c w8 ⟨rfl, hx8⟩
    have t8 := t7.ext hx8
    have hb8 := hb7.ext hx8
    have hx08 := hx07.trans hx8
    refine cond_intro (fun hc => ?_) (fun hc => ?_)
    · have hin : (opA h i).t ∈ st.ab := by simpa using hc
      refine hK _ ?_ hx08
      unfold lockStep
      rw [if_pos hin]
      exact ⟨_, _, _, _, _, t8, hw4⟩
    have hnin : (opA h i).t ∉ st.ab := by simpa using hc
    have hS : ∀ u, Ext w8 u → World.cell? u ⟨w4.heap.size, 0 + 0, none⟩ = some (.int .i64 (opA h i).t) ∧ World.cell? u ⟨w.heap.size, 0 + 85 + Int.toNat (opA h i).t * 1, none⟩ = some (.slice (sq m).a (sq m).n (sq m).c) := fun u hu =>
      ⟨(hb8.ext hu).cell 0, by rw [hmt]; simpa using (t8.ext hu).cq hm7⟩
    refine ⟨fun u => World.cell? u ⟨w4.heap.size, 0 + 0, none⟩ = some (.int .i64 (opA h i).t) ∧ World.cell? u ⟨w.heap.size, 0 + 85 + Int.toNat (opA h i).t * 1, none⟩ = some (.slice (sq m).a (sq m).n (sq m).c), hS _ (Ext.drew _), Let.intro fun w9 e9 => ?_⟩
    have hx9 : Ext w8 w9 := by rw [e9]; exact Ext.drew _
    have t9 := t8.ext hx9
    have hql : (st.q (m : Int)).length ≤ i := by
      have h1 : (st.q (m : Int)).Nodup := (v.li.gd.srt (m : Int)).imp fun h e => by omega
      have := h1.length_le_of_subset (l₂ := List.range i) fun j hj => by simpa using v.lt _ j hj
      simpa using this
    obtain ⟨s49, w10, e10, hx10, s50, w11, e11, ht11, hf11, hwh⟩ := appendTl3 (t9.tl m hm7) (i : Int) (by simp; omega) t9.hBw
    have hx810 := hx9.trans hx10
    have t10 := t8.ext hx810
    have z10 := hx10.size
    have hmap : (st.q (m : Int)).map jI ++ [(i : Int)] = (st.q (m : Int) ++ [i]).map jI := by rw [List.map_append]; rfl
    rw [hmap] at ht11
    obtain ⟨d12, t12, f12⟩ := t10.setQ hm7 hf11 ht11 (fun y hy hne g hg h2 => by
      rcases hwh with hwh | hwh
      · exact t10.sep y m hy hm7 hne g h2 (hwh g hg)
      · have h3 := hwh g hg
        have h4 := (rm_cells t9 hy h2).2.1
        omega) (fun g hg => by
      rcases hwh with hwh | hwh
      · exact t10.sepa m hm7 g (hwh g hg)
      · have h3 := hwh g hg
        rintro ⟨a, ha, hga⟩
        have h4 := (t9.oa.base ha).2
        omega)
    have hS11 : World.cell? w11 ⟨w4.heap.size, 0 + 0, none⟩ = some (.int .i64 (opA h i).t) ∧ World.cell? w11 ⟨w.heap.size, 0 + 85 + Int.toNat (opA h i).t * 1, none⟩ = some (.slice (sq m).a (sq m).n (sq m).c) := by
      have hRm : ∀ y, Rm (sq m) y → ∃ cur, Blk w10 y cur 3 := fun y hy => (rm_cells t10 hm7 hy).2.2
      refine ⟨hf11.cell (a := ⟨w4.heap.size, 0 + 0, none⟩) (fun hy => ?_) (hS w10 hx810).1, hf11.cell (a := ⟨w.heap.size, _, none⟩) (fun hy => ?_) (hS w10 hx810).2⟩
      · obtain ⟨cur, hc⟩ := hRm _ hy; exact Blk.ne_ty hc (hb8.ext hx810) (by decide) rfl
      · obtain ⟨cur, hc⟩ := hRm _ hy; exact Blk.ne_ty hc t10.fb (by decide) rfl
    have hiq : 0 + 85 + Int.toNat (opA h i).t * 1 = 85 + m := by rw [hmt]; simp
    refine ⟨(opA h i).t, fun u hu => hu.1, (opA h i).t, fun u hu => hu.1, by omega, by omega, sq m, fun u hu => hu.2, s49, w10, e10, hS _ hx810, s50, w11, e11, hS11, by omega, by omega, by rw [hiq]; exact d12, Let.intro fun w12 e12 => Let.intro fun w13 e13 => ?_⟩
    rw [hiq] at e12
    rw [← e12] at t12 f12
    have hx13 : Ext w12 w13 := by rw [e13]; exact Ext.drew _
    have t13 := t12.ext hx13
    have hb13 : World.cell? w13 ⟨w4.heap.size, 0 + 0, none⟩ = some (.int .i64 (opA h i).t) := by
      refine Ext.cell hx13 (f12.cell (a := ⟨w4.heap.size, 0 + 0, none⟩) (fun (e : w4.heap.size = w.heap.size) => ?_) hS11.1)
      have := t4.fb.lt; omega
    have hxx13 : Ext w w13 := by
      have g1 : Ext w w11 := (hx08.trans hx810).newer hf11 fun y hy => (rm_cells t10 hm7 hy).1
      exact (g1.newer f12 fun y (hy : y = w.heap.size) => by omega).trans hx13
    have v1 := v.li.add hi v.lt hnin
    have vA := v.li.lockA ho hi v.lt hnin
    have hlA := lockA_eq (h := h) (st := st) (i := i)
    rw [hmt] at v1 hlA
    have hcw : World.cell? w13 ⟨w.heap.size, 0 + 92 + Int.toNat (opA h i).t * 1, none⟩ = some (.bool (wt m)) := by rw [hmt]; simpa using t13.cwt hm7
    have hwm := hw4 m hm7
    refine ⟨(opA h i).t, hb13, by omega, by omega, wt m, hcw, ?_⟩
    refine ⟨fun w14 => TabX h w.heap.size s w14 w.heap.size (lockA h st i) ∧ Ext w w14, ?_, ?_⟩
    · rintro w14 ⟨hT14, hx14⟩
      refine Join.dir (LoopV.intro (fun n w16 => ∃ st1, TabX h w.heap.size s w16 w.heap.size st1 ∧ LI h (i + 1) st1 ∧ retryP h (total st1) st1 = retryP h (total (lockA h st i)) (lockA h st i) ∧ n = total st1 ∧ Ext w w16) (total (lockA h st i))
        ⟨_, hT14, vA, rfl, rfl, hx14⟩ ?_)
      rintro n w16 ⟨st1, hT16, v16, hre, rfl, hx16⟩
      obtain ⟨wt', f', sd', sa', sq', t16, hw16⟩ := hT16
      refine (c52 t16 ho hl hw16).mono fun e w17 ⟨he, hx17⟩ => ⟨_, he, ?_⟩
      cases hnp : nextP h st1 with
      | none =>
        refine cond_intro (fun hc => by simp at hc) (fun _ => ?_)
        refine hK _ ?_ (hx16.trans hx17)
        rw [step_of ho hi v hnin, ← hre, retry_same v16.gd ((nextP_none v16.gd).1 hnp)]
        exact ⟨_, _, _, _, _, t16.ext hx17, hw16⟩
      | some u =>
        obtain ⟨j, r, hjl, hju, hqu, _, _⟩ := nextP_some hnp
        have hu := v16.gd.range ho hqu
        obtain ⟨k, hk, hk1, hk7⟩ := six_nat (mem_six.2 hu)
        refine cond_intro (fun _ => ?_) (fun hc => ?_)
        rotate_left
        · simp at hc; omega
        refine Join.dir ?_
        refine (c52 (t16.ext hx17) ho hl hw16).mono fun e w19 ⟨he, hx19⟩ => ⟨_, he, ?_⟩
        rw [hnp]
        simp only [Option.getD_some]
        subst hk
        have t19 := (t16.ext hx17).ext hx19
        refine (c51 t19 ho hl v16 hk1 hk7 (fun x hx _ => hw16 x hx)).mono fun e w20 ⟨he, hT20, f20⟩ => ⟨he, total (goP h k (st1.q k).length st1), next_total ho v16.gd hnp, _, hT20, v16.goP ho _, ?_, rfl, ((hx16.trans hx17).trans hx19).newer f20 fun _ h => h⟩
        rw [← hre, retry_step ho v16.gd hnp]
    · refine cond_intro (fun hc => ?_) (fun hc => ?_)
      · have hq0 : st.q (m : Int) = [] := by rw [hwm] at hc; simpa using hc
        rw [if_pos hq0] at hlA
        refine ⟨(opA h i).t, hb13, ?_⟩
        rw [hmt]
        have hl1 : ((setq st (m : Int) (st.q (m : Int) ++ [i])).q (m : Int)).length = 1 := by rw [setq_q, upq_same, hq0]; rfl
        refine (c51 t13 ho hl v1 hm1 hm7 fun x hx hne => ?_).mono fun e w21 ⟨he, hT21, f21⟩ => ⟨he, ?_, hxx13.newer f21 fun _ h => h⟩
        · rw [setq_q, upq_other (by omega)]; exact hw4 x hx
        · rw [hl1] at hT21; rw [hlA]; exact hT21
      · have hq0 : st.q (m : Int) ≠ [] := by rw [hwm] at hc; simpa using hc
        rw [if_neg hq0] at hlA
        refine ⟨?_, hxx13⟩
        rw [hlA]
        refine ⟨_, _, _, _, _, t13, fun x hx => ?_⟩
        rw [setq_q]
        by_cases e : x = m
        · subst e; rw [upq_same, hwm]; simp [hq0]
        · rw [upq_other (by omega)]; exact hw4 x hx
  · rintro w4 ⟨hT4, hx4⟩
    refine Let.intro fun w3 e3 => ?_
    have hx3 : Ext w4 w3 := by rw [e3]; exact Ext.drew _
    rw [hn] at hT4
    obtain ⟨wt, f, sd, sa, sq, t4, _⟩ := hT4
    have t3 := t4.ext hx3
    exact ⟨sd, t3.cd, sa, t3.ca, sd, sa, rfl, t3.od, t3.oa, hx4.trans hx3⟩
theorem c22 {w : World} {s : Sl} {h : List Ev} (hs : Hs w s h) (hl : h.length ≤ 1000000) :
    Calls Try.prog 22 [.slice s.a s.n s.c].toArray w fun e w' => ∃ s' : Sl, e = .returned (.slice s'.a s'.n s'.c) ∧ Own 37 3 eO w.heap.size w' s' h ∧ Ext w w' := by
  refine (call22 s (R := fun v w' => ∃ s' : Sl, v = .slice s'.a s'.n s'.c ∧ Own 37 3 eO w.heap.size w' s' h ∧ Ext w w') ?_).mono fun e w' ⟨v, he, s', hv, h1, h2⟩ => ⟨s', by rw [he, hv], h1, h2⟩
  have hn := hs.len
  have hbig : h.length ≤ big := by show h.length ≤ 9223372036854775807; omega
  refine Join.dir (rangeSI (fun i (s' : Sl) w' => Own 37 3 eO w.heap.size w' s' (h.take i) ∧ Ext w w') (by rw [hn]; exact hbig) ⟨Own.nil .., Fr.refl _ _⟩ ?_ ?_)
  · rintro i hi s' w2 ⟨ho, hx⟩ K hK
    have hi : i < h.length := by omega
    refine loadEv (hs.ext hx) hi zc38 fun w5 hb hx5 => ⟨_, hb.cell 0, _, hb.cell 1, _, hb.cell 2, ?_⟩
    have ho5 := ho.ext hx5
    obtain ⟨s1, w9, e9, s2, w10, e10, ho2, hf⟩ := appendEv E23 ho5 h[i] (by simp; omega) (by have := (hx.trans hx5).size; omega)
    exact ⟨s1, w9, e9, s2, w10, e10, hK _ _ ⟨by rw [List.take_succ_eq_append_getElem hi]; exact ho2, Own.newer ho5 (hx.trans hx5) hf (Nat.le_refl _)⟩⟩
  · rintro s' w' ⟨ho, hx⟩
    rw [hn, List.take_length] at ho
    exact ⟨s', rfl, ho, hx⟩

theorem c5 {w : World} {s : Sl} {h : List Ev} (hs : Hs w s h) (hl : h.length ≤ big) :
    Calls Try.prog 5 [.slice s.a s.n s.c].toArray w fun e w' => e = .returned (.bool true) ∧ Ext w w' := by
  refine (call5 s (R := fun v w' => v = .bool true ∧ Ext w w') ?_).mono fun e w' ⟨v, he, hv, hx⟩ => ⟨by rw [he, hv], hx⟩
  refine (of_ok hs hl).mono fun e w1 ⟨s10, he, ho10, hx1⟩ => ⟨s10, he, ?_⟩
  refine (c19 ho10.sli (by simp; omega)).mono fun e w2 ⟨s1, s2, x, he, hcase, hx2⟩ => ⟨s1, s2, x, he, ?_⟩
  have hx02 := hx1.trans hx2
  refine (c13 (hs.ext hx02) hl).mono fun e w3 ⟨he, hx3⟩ => ⟨_, he, ?_⟩
  have hx03 := hx02.trans hx3
  rw [valid_take] at hcase
  rcases hcase with ⟨hnv, n1, n2, rfl⟩ | ⟨hv, ho1, ho2, rfl⟩
  · refine cond_intro (fun _ => Join.dir (cond_intro (fun _ => cond_intro (fun _ => hawake hx03) (fun hc => by simp at hc)) (fun hc => ?_))) (fun hc => ?_)
    · rw [n1, n2] at hc; simp [wrap64] at hc
    · simp [hnv] at hc
  rw [valid_self hv] at ho1 ho2
  refine cond_intro (fun hc => by simp [hv] at hc) (fun _ => ?_)
  have h40 := hv.2
  obtain ⟨hv2, _⟩ := lockP_facts hv
  have v := lockP_lj (h := h) hv.1.1
  have hdl := hv2.2
  have hal := v.li.ab_len
  refine (c20 (hs.ext hx03) hv.1.1 (by omega)).mono fun e w6 ⟨s3, s4, he, ho3, ho4, hx6⟩ => ⟨s3, s4, he, Join.dir ?_⟩
  have hx36 := hx3.trans hx6
  refine (c22 (ho1.sli.ext hx36) (by omega)).mono fun e w8 ⟨s37, he, ho37, hx8⟩ => ⟨s37, he, ?_⟩
  refine (c21 ho37.sli (ho3.sli.ext hx8) (by show _ ≤ 9223372036854775807; omega)).mono fun e w9 ⟨he, hx9⟩ => ⟨_, he, cond_intro (fun _ => ?_) (fun hc => by simp at hc)⟩
  refine (c16 ((ho2.sli.ext hx36).ext (hx8.trans hx9)) (ho4.sli.ext (hx8.trans hx9)) (by show _ ≤ 9223372036854775807; omega)).mono fun e w10 ⟨he, hx10⟩ => ⟨_, he, cond_intro (fun _ => cond_intro (fun _ => ?_) (fun hc => by simp at hc)) (fun hc => by simp at hc)⟩
  exact hawake ((((hx03.trans hx6).trans hx8).trans hx9).trans hx10)
end Go.Proofs.Ytnbkihkdfhjlmaa
