/-
  Contract of the reference: is a transaction caught in a circle of waits.
-/
import Derived.Test.YtnbkihkdfhjlmaaEl
namespace Go.Proofs.Ytnbkihkdfhjlmaa
open Go Go.VC
set_option maxHeartbeats 1000000
set_option maxRecDepth 100000

theorem six_nat {x : Int} (hx : x ∈ six) : ∃ n : Nat, x = (n : Int) ∧ 1 ≤ n ∧ n < 7 := by
  obtain ⟨h1, h2⟩ := mem_six.1 hx
  exact ⟨x.toNat, by omega, by omega, by omega⟩
theorem filter_hit {st : LS} {o : Ev} : (six.filter (hind st o)).length > 0 ↔ hit st o = true := by
  unfold hit
  rw [List.any_eq_true]
  constructor
  · intro h0
    obtain ⟨x, hx⟩ := List.exists_mem_of_ne_nil (six.filter (hind st o)) (by intro e; rw [e] at h0; simp at h0)
    obtain ⟨h1, h2⟩ := List.mem_filter.1 hx
    exact ⟨x, h1, h2⟩
  · rintro ⟨x, h1, h2⟩
    exact List.length_pos_of_mem (List.mem_filter.2 ⟨h1, h2⟩)
theorem filter_len {st : LS} {o : Ev} : (six.filter (hind st o)).length ≤ 6 := by
  have := List.length_filter_le (hind st o) six
  simpa [six] using this
section
variable {h : List Ev} {B : Nat} {w w' : World} {b : Nat} {st : LS} {wt : Nat → Bool} {f : Nat → Value} {sd sa sh : Sl} {sq : Nat → Sl}
theorem Tab.qlen (t : Tab h B w b st wt f sd sa sh sq) {x : Nat} (hx : x < 7) : (sq x).n = (st.q x).length := by have := (t.tl x hx).len; simpa using this
/-- The head of a queue, and its operation. -/
theorem Tab.head (t : Tab h B w b st wt f sd sa sh sq) {x : Nat} (hx : x < 7) {j : Nat} {l : List Nat} (hq : st.q x = j :: l) : ∃ p : Pt, (sq x).a = some ⟨p.b, p.o, none⟩ ∧ 0 ≤ (0 : Int) ∧ (0 : Int) < (((sq x).n : Nat) : Int) ∧ World.cell? w ⟨p.b, p.o, none⟩ = some (.int .i64 (j : Int)) := by
  have hs := (t.tl x hx).sli
  rw [hq] at hs
  obtain ⟨p, hp, h1, h2, h3⟩ := Ints.at (i := 0) (show Ints w (sq x) (jI j :: l.map jI) from hs) (by simp)
  exact ⟨p, hp, h1, h2, by simpa [jI] using h3⟩
theorem Tab.op (t : Tab h B w b st wt f sd sa sh sq) {j : Nat} (hj : j < h.length) : ∃ p : Pt, sh.a = some ⟨p.b, p.o, none⟩ ∧ 0 ≤ (j : Int) ∧ (j : Int) < ((sh.n : Nat) : Int) ∧ rd w p.b (p.o + Int.toNat (j : Int) * 3) (eO (opA h j)) := by
  rw [opA_at hj]
  exact Sli.at eO_len t.hs hj
theorem same_pt {a : Option Addr} {p p' : Pt} (h1 : a = some ⟨p.b, p.o, none⟩) (h2 : a = some ⟨p'.b, p'.o, none⟩) : p = p' := by
  rw [h1] at h2
  have e : (⟨p.b, p.o, none⟩ : Addr) = ⟨p'.b, p'.o, none⟩ := Option.some.inj h2
  have e1 : p.b = p'.b := congrArg Addr.block e
  have e2 : p.o = p'.o := congrArg Addr.off e
  cases p; cases p'; simp_all
/-- Who waits. -/
def WT (st : LS) (wt : Nat → Bool) : Prop := ∀ x : Nat, x < 7 → wt x = decide (st.q x ≠ [])

theorem c81 (t : Tab h B w b st wt f sd sa sh sq) (ho : OkH h) (g : Gd h st) (hw : WT st wt) {x : Int} (hx6 : x ∈ six) :
    Calls Try.prog 81 [.pointer (some ⟨b, 0, none⟩), .int .i64 x].toArray w fun e w' => ∃ c : Bool, e = .returned (.bool c) ∧ (c = true ↔ caught h st x) ∧ Ext w w' := by
  refine (call81 ⟨b, 0⟩ x (R := fun v w' => ∃ c : Bool, v = .bool c ∧ (c = true ↔ caught h st x) ∧ Ext w w') ?_).mono fun e w' ⟨v, he, c, hv, hx⟩ => ⟨c, by rw [he, hv], hx⟩
  obtain ⟨n1, n2, n3⟩ := new_var w 97 (z := zc Try.prog 97) (vs := [.bool false, .bool false, .bool false, .bool false, .bool false, .bool false, .bool false]) (by kernel_rfl) (by simp [Value.oneCell'])
  refine Let.intro fun w1 e1 => ?_
  rw [← e1] at n1 n2 n3
  refine ⟨n1, Let.intro fun w2 e2 => ?_⟩
  rw [← e2] at n2 n3
  have hx2 : Ext w w2 := n3
  have z2 := hx2.size
  have hfb2 : FB w2 w.heap.size 7 (fun i => .bool (decide ((i : Int) ∈ ([] : List Int)))) 97 := n2
  have hl2 := hfb2.lt
  have hb := buildOne_run (P := Try.prog) E24 (v := .int .i64 x) (vs := eI x) rfl rfl (by omega) w2
  have hx3 := Ext.alloc w2 (.cells (eI x).toArray 3)
  refine ⟨⟨some ⟨w2.heap.size, 0, none⟩, 1, 1⟩, _, hb, ?_⟩
  have ho3 : Own 3 1 eI w2.heap.size (w2.alloc (.cells (eI x).toArray 3)) ⟨some ⟨w2.heap.size, 0, none⟩, 1, 1⟩ [x] := Own.one w2 x rfl
  generalize w2.alloc (.cells (eI x).toArray 3) = w3 at hx3 ho3
  refine Join.dir (LoopV.intro (fun n (s6 : Sl) w4 => ∃ S Q, BI (stepL h st) x S Q none ∧ n = 2 * (6 - S.length) + Q.length ∧ n ≤ 13 ∧ Tl 3 1 eI w.heap.size w4 s6 Q ∧ FB w4 w.heap.size 7 (fun i => .bool (decide ((i : Int) ∈ S))) 97 ∧ Ext w w4) 13
    ⟨[], [x], BI.init, by simp, by simp, ho3.tl.mono z2, hfb2.ext hx3, hx2.trans hx3⟩ ?_)
  rintro n s6 w5 ⟨S, Q, hbi, rfl, hn13, htl, hsm, hx5⟩
  have hn6 := htl.len
  have hS6 := hbi.len
  refine cond_intro (fun hc => ?_) (fun hc => ?_)
  rotate_left
  · have hq : Q = [] := List.eq_nil_of_length_eq_zero (by have : ¬ (0 : Int) < (s6.n : Int) := by simpa using hc
                                                          omega)
    subst hq
    exact ⟨false, rfl, by simp; exact hbi.done, hx5⟩
  obtain ⟨y, Q, rfl⟩ : ∃ x Q', Q = x :: Q' := by
    cases Q with
    | nil => simp at hn6; simp [hn6] at hc
    | cons x Q' => exact ⟨x, Q', rfl⟩
  have hys := hbi.at
  have hy6 : y ∈ six := by
    rcases hys with rfl | h1
    · exact hx6
    · exact hbi.rg y h1
  obtain ⟨yn, hyn, hy1, hy7⟩ := six_nat hy6
  obtain ⟨p, hp, a1, a2, hr⟩ := Ints.at (i := 0) (show Ints w5 s6 (y :: Q) from htl.sli) (by simp)
  have hdrop : Tl 3 1 eI w.heap.size w5 ⟨subA s6.a s6.c 1 1, s6.n - 1, s6.c - 1⟩ Q := by
    have := htl.drop eI_len (m := 1) (by simp)
    simpa using this
  have tt := t.ext hx5
  have hcw : World.cell? w5 ⟨b, 0 + 92 + Int.toNat y * 1, none⟩ = some (.bool (wt yn)) := by rw [hyn]; simpa using tt.cwt hy7
  refine Join.dir ⟨p, hp, a1, a2, y, hr, by omega, by omega, by omega, by omega, wt yn, hcw, ?_⟩
  have hwy := hw yn hy7
  refine cond_intro (fun hc2 => ?_) (fun hc2 => ?_)
  · have hq : st.q y = [] := by rw [hwy] at hc2; simp at hc2; rw [hyn]; exact hc2
    exact ⟨2 * (6 - S.length) + Q.length, by simp, S, Q, hbi.pop.close fun z ⟨j, r', hj, _⟩ => (by rw [hq] at hj; cases hj), rfl, by simp at hn13; omega, hdrop, hsm, hx5⟩
  obtain ⟨j, l, hq⟩ : ∃ j l, st.q y = j :: l := by
    cases hq : st.q y with
    | nil => rw [hwy] at hc2; simp at hc2; rw [hyn] at hq; exact absurd hq hc2
    | cons j l => exact ⟨j, l, rfl⟩
  have hqn : st.q (yn : Int) = j :: l := by rw [← hyn]; exact hq
  refine ⟨fun u => Ext w5 u, Ext.drew _, Let.intro fun w7 e7 => ?_⟩
  have hx7 : Ext w5 w7 := by rw [e7]; exact Ext.drew _
  have hjl := (g.q y j (by rw [hq]; simp)).1
  have hoj := ho.at hjl
  obtain ⟨p39, hp39, b1, b2, _⟩ := tt.head hy7 hqn
  obtain ⟨p41, hp41, c1, c2, _⟩ := tt.op hjl
  refine ⟨sh, fun u hu => (tt.ext hu).ch, by omega, by omega, sq yn, fun u hu => by have := (tt.ext hu).cq hy7; rw [hyn]; simpa using this, p39, hp39, b1, b2, (j : Int), fun u hu => ?_, p41, hp41, c1, c2, (opA h j).t, (opA h j).k, (opA h j).i, fun u hu => ?_, ?_⟩
  · obtain ⟨p', hp', _, _, hr'⟩ := (tt.ext hu).head hy7 hqn
    rw [same_pt hp39 hp']; simpa using hr'
  · obtain ⟨p', hp', _, _, hr'⟩ := (tt.ext hu).op hjl
    rw [same_pt hp41 hp']; exact hr'
  have hx07 := hx5.trans hx7
  refine (c80 (t.ext hx07) hoj).mono fun e w8 ⟨s43, he, ho43, hx8⟩ => ⟨s43, he, hx7.trans hx8, ?_⟩
  generalize hls : six.filter (hind st (opA h j)) = ls at ho43
  have hml : ∀ z, z ∈ ls ↔ hind st (opA h j) z = true := fun z => by
    rw [← hls, List.mem_filter]
    exact ⟨fun h => h.2, fun h => ⟨hind_six g h, h⟩⟩
  have hll : ls.length ≤ 6 := by rw [← hls]; exact filter_len
  have hstep : ∀ z, stepL h st y z ↔ z ∈ ls := fun z => by
    rw [hml]
    constructor
    · rintro ⟨j', r', hj', hz⟩; rw [hq] at hj'; cases hj'; exact hz
    · intro hz; exact ⟨j, l, hq, hz⟩
  have hx58 := hx7.trans hx8
  have hx08 := hx5.trans hx58
  have n43 := ho43.sli.len
  have hz8 := hx08.size
  have hz7 := hx07.size
  have hz78 := hx8.size
  have hz57 := hx7.size
  have hm13 : 2 * (6 - S.length) + Q.length ≤ 12 := by simp at hn13; omega
  refine Join.dir (rangeSI (fun i (s : Sl) w9 => ∃ S' Q', BI (stepL h st) x S' Q' (some y) ∧ (y = x ∨ y ∈ S') ∧ (∀ z ∈ ls.take i, z ≠ x ∧ z ∈ S') ∧ 2 * (6 - S'.length) + Q'.length ≤ 2 * (6 - S.length) + Q.length ∧ Tl 3 1 eI w.heap.size w9 s Q' ∧ FB w9 w.heap.size 7 (fun i => .bool (decide ((i : Int) ∈ S'))) 97 ∧ Ext w w9 ∧ w8.heap.size ≤ w9.heap.size ∧ Ints w9 s43 ls ∧ (∀ a, s43.a = some a → ¬ Rm s a.block))
    (by rw [n43]; show ls.length ≤ 9223372036854775807; omega) ⟨S, Q, hbi.pop, hys, by simp, Nat.le_refl _, hdrop.ext hx58, hsm.ext hx58, hx08, Nat.le_refl _, ho43.sli, ?_⟩ ?_ ?_)
  · intro a ha hR
    have h1 := (ho43.base ha).1
    have h2 := (hdrop.base hR).2.1
    omega
  · rintro i hi s w10 ⟨S', Q', hb', hx', hall, hmeas, htl', hsm', hx9, hz9, hi9, hsep⟩ K hK
    have hi : i < ls.length := by omega
    obtain ⟨p47, hp47, d1, d2, hr47⟩ := Ints.at hi9 hi
    refine ⟨p47, hp47, d1, d2, ls[i], hr47, ?_⟩
    have hst := (hstep ls[i]).2 (List.getElem_mem hi)
    refine cond_intro (fun hc => ?_) (fun hc => ?_)
    · have hc : ls[i] = x := by simpa using hc
      rw [hc] at hst
      exact ⟨true, rfl, by simp; exact hb'.found hx' hst, hx9⟩
    have hne : ls[i] ≠ x := by simpa using hc
    have h6 : ls[i] ∈ six := by
      obtain ⟨j', r', _, hy⟩ := hst
      exact hind_six g hy
    obtain ⟨m, hm, hm1, hm7⟩ := six_nat h6
    have hidx : 0 + Int.toNat ls[i] * 1 = m := by rw [hm]; simp
    have hcm : World.cell? w10 ⟨w.heap.size, 0 + Int.toNat ls[i] * 1, none⟩ = some (.bool (decide (ls[i] ∈ S'))) := by
      rw [hidx, hm]; exact hsm'.cell hm7 rfl
    refine ⟨by omega, by omega, decide (ls[i] ∈ S'), hcm, Join.dir (cond_intro (fun hc => ?_) (fun hc => ?_))⟩
    · have hn : ls[i] ∉ S' := by simpa using hc
      have hb2 := hb'.add hx' hst hne hn h6
      have hl3 := hb2.len
      have hso := hsm'.storeOk (o := m) (k := 1) (vs := [.bool true]) rfl (by simp [Value.oneCell']) (by omega)
      have hfbp := hsm'.put (o := m) (vs := [.bool true]) (by simp; omega)
      have hfp : Fr (fun y => y = w.heap.size) w10 (VC.put w10 w.heap.size m [.bool true]) := Fr.put ..
      refine ⟨by omega, by omega, by rw [hidx]; exact hso, Let.intro fun w13 e13 => ?_⟩
      rw [hidx] at e13
      rw [← e13] at hfbp hfp
      have hRm : ∀ y, Rm s y → y ≠ w.heap.size := fun y hy e => by
        obtain ⟨_, _, cur, hcur⟩ := htl'.base hy
        subst e
        exact Blk.ne_ty hcur hsm' (by decide) rfl
      have htl13 := htl'.fr hfp fun y hy e => hRm y hy e
      have z13 := hfp.size
      obtain ⟨s1, w14, e14, hx14, s2, w15, e15, htl15, hf15, hwh⟩ := appendTl3 htl13 ls[i] (by omega) (by omega)
      have z14 := hx14.size
      have z15 := hf15.size
      have hx13 : Ext w w13 := hx9.newer hfp fun y (hy : y = w.heap.size) => by omega
      have h43 : ∀ a, s43.a = some a → a.block ≠ w.heap.size := fun a ha e => by
        obtain ⟨cur, hc⟩ := ho43.blk ha
        rw [e] at hc
        exact Blk.ne_ty hc (hsm.ext hx58) (by decide) rfl
      refine ⟨s1, w14, e14, s2, w15, e15, hK _ _ ⟨S' ++ [ls[i]], Q' ++ [ls[i]], hb2, ?_, ?_, ?_, htl15, ?_, ?_, by omega, ?_, ?_⟩⟩
      · rcases hx' with h1 | h1
        · exact .inl h1
        · exact .inr (by simp [h1])
      · intro z hz
        rw [List.take_succ_eq_append_getElem hi] at hz
        rcases List.mem_append.1 hz with hz | hz
        · exact ⟨(hall z hz).1, by simp [(hall z hz).2]⟩
        · simp at hz; subst hz; exact ⟨hne, by simp⟩
      · simp at hl3 ⊢; omega
      · have hfb15 : FB w15 w.heap.size 7 (updF (fun i => .bool (decide ((i : Int) ∈ S'))) m [.bool true]) 97 := (hfbp.ext hx14).fr hf15 fun hy => hRm _ hy rfl
        have hfe : (List.range 7).map (updF (fun i => .bool (decide ((i : Int) ∈ S'))) m [.bool true]) = (List.range 7).map (fun k : Nat => Value.bool (decide ((k : Int) ∈ S' ++ [ls[i]]))) := by
          apply List.map_congr_left
          intro k hk
          by_cases e : k = m
          · subst e
            rw [updF_in (Nat.le_refl _) (v := .bool true) (by simp), hm]; simp
          · rw [updF_out (by simp; omega), hm]
            have : ¬ (k : Int) = (m : Int) := by omega
            simp [this]
        unfold FB at hfb15 ⊢
        rw [hfe] at hfb15
        exact hfb15
      · refine (hx13.trans hx14).newer hf15 fun y hy => ?_
        have := (htl'.base hy).1
        omega
      · refine ((hi9.fr hfp h43).ext hx14).fr hf15 fun a ha hR => hsep a ha hR
      · intro a ha hR
        rcases hwh with hwh | hwh
        · exact hsep a ha (hwh _ hR)
        · have h1 := hwh _ hR
          have h2 := (ho43.base ha).2
          omega
    · have hin : ls[i] ∈ S' := by simpa using hc
      refine hK _ _ ⟨S', Q', hb', hx', fun z hz => ?_, hmeas, htl', hsm', hx9, hz9, hi9, hsep⟩
      rw [List.take_succ_eq_append_getElem hi] at hz
      rcases List.mem_append.1 hz with hz | hz
      · exact hall z hz
      · simp at hz; subst hz; exact ⟨hne, hin⟩
  · rintro s w10 ⟨S', Q', hb', hx', hall, hmeas, htl', hsm', hx9, _, _, _⟩
    rw [n43, List.take_length] at hall
    exact ⟨2 * (6 - S'.length) + Q'.length, by simp; omega, S', Q', hb'.close fun z hz => hall z ((hstep z).1 hz), rfl, by omega, htl', hsm', hx9⟩
end
end Go.Proofs.Ytnbkihkdfhjlmaa
