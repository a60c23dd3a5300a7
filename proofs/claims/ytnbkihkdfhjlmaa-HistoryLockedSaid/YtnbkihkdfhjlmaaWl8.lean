/-
  Texts Em, Fc, En, Eo, Fd, Dr of this proof, joined.
-/
import Derived.Test.YtnbkihkdfhjlmaaWl7
import Derived.Test.YtnbkihkdfhjlmaaRows
import Derived.ProofKit
import Derived.SizedLaws
import Derived.Deep.Slices
/-
  Contract of the reference: is a transaction caught in a circle of waits.
-/
namespace Go.Proofs.Ytnbkihkdfhjlmaa
open Go Go.VC
set_option maxHeartbeats 1000000
set_option maxRecDepth 100000

theorem six_nat {x : Int} (hx : x ∈ six) : ∃ n : Nat, x = (n : Int) ∧ 1 ≤ n ∧ n < 7 := by
  obtain ⟨h1, h2⟩ := mem_six.1 hx
  exact ⟨x.toNat, by omega, by omega, by omega⟩
theorem filter_hit {st : LS} {o : Ev} : (six.filter (hind st o)).length > 0 ↔ hit st o = true := by
  unfold hit
  rw [List.any_eq_true]
  constructor
  · intro h0
    obtain ⟨x, hx⟩ := List.exists_mem_of_ne_nil (six.filter (hind st o)) (by intro e; rw [e] at h0; simp at h0)
    obtain ⟨h1, h2⟩ := List.mem_filter.1 hx
    exact ⟨x, h1, h2⟩
  · rintro ⟨x, h1, h2⟩
    exact List.length_pos_of_mem (List.mem_filter.2 ⟨h1, h2⟩)
theorem filter_len {st : LS} {o : Ev} : (six.filter (hind st o)).length ≤ 6 := by
  have := List.length_filter_le (hind st o) six
  simpa [six] using this
section
variable {h : List Ev} {B : Nat} {w w' : World} {b : Nat} {st : LS} {wt : Nat → Bool} {f : Nat → Value} {sd sa sh : Sl} {sq : Nat → Sl}
theorem Tab.qlen (t : Tab h B w b st wt f sd sa sh sq) {x : Nat} (hx : x < 7) : (sq x).n = (st.q x).length := by have := (t.tl x hx).len; simpa using this
/-- The head of a queue, and its operation. -/
theorem Tab.head (t : Tab h B w b st wt f sd sa sh sq) {x : Nat} (hx : x < 7) {j : Nat} {l : List Nat} (hq : st.q x = j :: l) : ∃ p : Pt, (sq x).a = some ⟨p.b, p.o, none⟩ ∧ 0 ≤ (0 : Int) ∧ (0 : Int) < (((sq x).n : Nat) : Int) ∧ World.cell? w ⟨p.b, p.o, none⟩ = some (.int .i64 (j : Int)) := by
  have hs := (t.tl x hx).sli
  rw [hq] at hs
  obtain ⟨p, hp, h1, h2, h3⟩ := Ints.at (i := 0) (show Ints w (sq x) (jI j :: l.map jI) from hs) (by simp)
  exact ⟨p, hp, h1, h2, by simpa [jI] using h3⟩
theorem Tab.op (t : Tab h B w b st wt f sd sa sh sq) {j : Nat} (hj : j < h.length) : ∃ p : Pt, sh.a = some ⟨p.b, p.o, none⟩ ∧ 0 ≤ (j : Int) ∧ (j : Int) < ((sh.n : Nat) : Int) ∧ rd w p.b (p.o + Int.toNat (j : Int) * 3) (eO (opA h j)) := by
  rw [opA_at hj]
  exact Sli.at eO_len t.hs hj
theorem same_pt {a : Option Addr} {p p' : Pt} (h1 : a = some ⟨p.b, p.o, none⟩) (h2 : a = some ⟨p'.b, p'.o, none⟩) : p = p' := by
  rw [h1] at h2
  have e : (⟨p.b, p.o, none⟩ : Addr) = ⟨p'.b, p'.o, none⟩ := Option.some.inj h2
  have e1 : p.b = p'.b := congrArg Addr.block e
  have e2 : p.o = p'.o := congrArg Addr.off e
  cases p; cases p'; simp_all
/-- Who waits. -/
def WT (st : LS) (wt : Nat → Bool) : Prop := ∀ x : Nat, x < 7 → wt x = decide (st.q x ≠ [])

theorem c81 (t : Tab h B w b st wt f sd sa sh sq) (ho : OkH h) (g : Gd h st) (hw : WT st wt) {x : Int} (hx6 : x ∈ six) :
    Calls Try.prog 81 [.pointer (some ⟨b, 0, none⟩), .int .i64 x].toArray w fun e w' => ∃ c : Bool, e = .returned (.bool c) ∧ (c = true ↔ caught h st x) ∧ Ext w w' := by
  refine (call81 ⟨b, 0⟩ x (R := fun v w' => ∃ c : Bool, v = .bool c ∧ (c = true ↔ caught h st x) ∧ Ext w w') ?_).mono fun e w' ⟨v, he, c, hv, hx⟩ => ⟨c, by rw [he, hv], hx⟩
  obtain ⟨n1, n2, n3⟩ := new_var w 97 (z := zc Try.prog 97) (vs := [.bool false, .bool false, .bool false, .bool false, .bool false, .bool false, .bool false]) (by kernel_rfl) (by simp [Value.oneCell'])
  refine Let.intro fun w1 e1 => ?_
  rw [← e1] at n1 n2 n3
  refine ⟨n1, Let.intro fun w2 e2 => ?_⟩
  rw [← e2] at n2 n3
  have hx2 : Ext w w2 := n3
  have z2 := hx2.size
  have hfb2 : FB w2 w.heap.size 7 (fun i => .bool (decide ((i : Int) ∈ ([] : List Int)))) 97 := n2
  have hl2 := hfb2.lt
  have hb := buildOne_run (P := Try.prog) E24 (v := .int .i64 x) (vs := eI x) rfl rfl (by omega) w2
  have hx3 := Ext.alloc w2 (.cells (eI x).toArray 3)
  refine ⟨⟨some ⟨w2.heap.size, 0, none⟩, 1, 1⟩, _, hb, ?_⟩
  have ho3 : Own 3 1 eI w2.heap.size (w2.alloc (.cells (eI x).toArray 3)) ⟨some ⟨w2.heap.size, 0, none⟩, 1, 1⟩ [x] := Own.one w2 x rfl
  generalize w2.alloc (.cells (eI x).toArray 3) = w3 at hx3 ho3
  refine Join.dir (LoopV.intro (fun n (s6 : Sl) w4 => ∃ S Q, BI (stepL h st) x S Q none ∧ n = 2 * (6 - S.length) + Q.length ∧ n ≤ 13 ∧ Tl 3 1 eI w.heap.size w4 s6 Q ∧ FB w4 w.heap.size 7 (fun i => .bool (decide ((i : Int) ∈ S))) 97 ∧ Ext w w4) 13
    ⟨[], [x], BI.init, by simp, by simp, ho3.tl.mono z2, hfb2.ext hx3, hx2.trans hx3⟩ ?_)
  rintro n s6 w5 ⟨S, Q, hbi, rfl, hn13, htl, hsm, hx5⟩
  have hn6 := htl.len
  have hS6 := hbi.len
  refine cond_intro (fun hc => ?_) (fun hc => ?_)
  rotate_left
  · have hq : Q = [] := List.eq_nil_of_length_eq_zero (by have : ¬ (0 : Int) < (s6.n : Int) := by simpa using hc
                                                          omega)
    subst hq
    exact ⟨false, rfl, by simp; exact hbi.done, hx5⟩
  obtain ⟨y, Q, rfl⟩ : ∃ x Q', Q = x :: Q' := by
    cases Q with
    | nil => simp at hn6; simp [hn6] at hc
    | cons x Q' => exact ⟨x, Q', rfl⟩
  have hys := hbi.at
  have hy6 : y ∈ six := by
    rcases hys with rfl | h1
    · exact hx6
    · exact hbi.rg y h1
  obtain ⟨yn, hyn, hy1, hy7⟩ := six_nat hy6
  obtain ⟨p, hp, a1, a2, hr⟩ := Ints.at (i := 0) (show Ints w5 s6 (y :: Q) from htl.sli) (by simp)
  have hdrop : Tl 3 1 eI w.heap.size w5 ⟨subA s6.a s6.c 1 1, s6.n - 1, s6.c - 1⟩ Q := by
    have := htl.drop eI_len (m := 1) (by simp)
    simpa using this
  have tt := t.ext hx5
  have hcw : World.cell? w5 ⟨b, 0 + 92 + Int.toNat y * 1, none⟩ = some (.bool (wt yn)) := by rw [hyn]; simpa using tt.cwt hy7
  refine Join.dir ⟨p, hp, a1, a2, y, hr, by omega, by omega, by omega, by omega, wt yn, hcw, ?_⟩
  have hwy := hw yn hy7
  refine cond_intro (fun hc2 => ?_) (fun hc2 => ?_)
  · have hq : st.q y = [] := by rw [hwy] at hc2; simp at hc2; rw [hyn]; exact hc2
    exact ⟨2 * (6 - S.length) + Q.length, by simp, S, Q, hbi.pop.close fun z ⟨j, r', hj, _⟩ => (by rw [hq] at hj; cases hj), rfl, by simp at hn13; omega, hdrop, hsm, hx5⟩
  obtain ⟨j, l, hq⟩ : ∃ j l, st.q y = j :: l := by
    cases hq : st.q y with
    | nil => rw [hwy] at hc2; simp at hc2; rw [hyn] at hq; exact absurd hq hc2
    | cons j l => exact ⟨j, l, rfl⟩
  have hqn : st.q (yn : Int) = j :: l := by rw [← hyn]; exact hq
  refine ⟨fun u => Ext w5 u, Ext.drew _, Let.intro fun w7 e7 => ?_⟩
  have hx7 : Ext w5 w7 := by rw [e7]; exact Ext.drew _
  have hjl := (g.q y j (by rw [hq]; simp)).1
  have hoj := ho.at hjl
  obtain ⟨p39, hp39, b1, b2, _⟩ := tt.head hy7 hqn
  obtain ⟨p41, hp41, c1, c2, _⟩ := tt.op hjl
  refine ⟨sh, fun u hu => (tt.ext hu).ch, by omega, by omega, sq yn, fun u hu => by have := (tt.ext hu).cq hy7; rw [hyn]; simpa using this, p39, hp39, b1, b2, (j : Int), fun u hu => ?_, p41, hp41, c1, c2, (opA h j).t, (opA h j).k, (opA h j).i, fun u hu => ?_, ?_⟩
  · obtain ⟨p', hp', _, _, hr'⟩ := (tt.ext hu).head hy7 hqn
    rw [same_pt hp39 hp']; simpa using hr'
  · obtain ⟨p', hp', _, _, hr'⟩ := (tt.ext hu).op hjl
    rw [same_pt hp41 hp']; exact hr'
  have hx07 := hx5.trans hx7
  refine (c80 (t.ext hx07) hoj).mono fun e w8 ⟨s43, he, ho43, hx8⟩ => ⟨s43, he, hx7.trans hx8, ?_⟩
  generalize hls : six.filter (hind st (opA h j)) = ls at ho43
  have hml : ∀ z, z ∈ ls ↔ hind st (opA h j) z = true := fun z => by
    rw [← hls, List.mem_filter]
    exact ⟨fun h => h.2, fun h => ⟨hind_six g h, h⟩⟩
  have hll : ls.length ≤ 6 := by rw [← hls]; exact filter_len
  have hstep : ∀ z, stepL h st y z ↔ z ∈ ls := fun z => by
    rw [hml]
    constructor
    · rintro ⟨j', r', hj', hz⟩; rw [hq] at hj'; cases hj'; exact hz
    · intro hz; exact ⟨j, l, hq, hz⟩
  have hx58 := hx7.trans hx8
  have hx08 := hx5.trans hx58
  have n43 := ho43.sli.len
  have hz8 := hx08.size
  have hz7 := hx07.size
  have hz78 := hx8.size
  have hz57 := hx7.size
  have hm13 : 2 * (6 - S.length) + Q.length ≤ 12 := by simp at hn13; omega
  refine Join.dir (rangeSI (fun i (s : Sl) w9 => ∃ S' Q', BI (stepL h st) x S' Q' (some y) ∧ (y = x ∨ y ∈ S') ∧ (∀ z ∈ ls.take i, z ≠ x ∧ z ∈ S') ∧ 2 * (6 - S'.length) + Q'.length ≤ 2 * (6 - S.length) + Q.length ∧ Tl 3 1 eI w.heap.size w9 s Q' ∧ FB w9 w.heap.size 7 (fun i => .bool (decide ((i : Int) ∈ S'))) 97 ∧ Ext w w9 ∧ w8.heap.size ≤ w9.heap.size ∧ Ints w9 s43 ls ∧ (∀ a, s43.a = some a → ¬ Rm s a.block))
    (by rw [n43]; show ls.length ≤ 9223372036854775807; omega) ⟨S, Q, hbi.pop, hys, by simp, Nat.le_refl _, hdrop.ext hx58, hsm.ext hx58, hx08, Nat.le_refl _, ho43.sli, ?_⟩ ?_ ?_)
  · intro a ha hR
    have h1 := (ho43.base ha).1
    have h2 := (hdrop.base hR).2.1
    omega
  · rintro i hi s w10 ⟨S', Q', hb', hx', hall, hmeas, htl', hsm', hx9, hz9, hi9, hsep⟩ K hK
    have hi : i < ls.length := by omega
    obtain ⟨p47, hp47, d1, d2, hr47⟩ := Ints.at hi9 hi
    refine ⟨p47, hp47, d1, d2, ls[i], hr47, ?_⟩
    have hst := (hstep ls[i]).2 (List.getElem_mem hi)
    refine cond_intro (fun hc => ?_) (fun hc => ?_)
    · have hc : ls[i] = x := by simpa using hc
      rw [hc] at hst
      exact ⟨true, rfl, by simp; exact hb'.found hx' hst, hx9⟩
    have hne : ls[i] ≠ x := by simpa using hc
    have h6 : ls[i] ∈ six := by
      obtain ⟨j', r', _, hy⟩ := hst
      exact hind_six g hy
    obtain ⟨m, hm, hm1, hm7⟩ := six_nat h6
    have hidx : 0 + Int.toNat ls[i] * 1 = m := by rw [hm]; simp
    have hcm : World.cell? w10 ⟨w.heap.size, 0 + Int.toNat ls[i] * 1, none⟩ = some (.bool (decide (ls[i] ∈ S'))) := by
      rw [hidx, hm]; exact hsm'.cell hm7 rfl
    refine ⟨by omega, by omega, decide (ls[i] ∈ S'), hcm, Join.dir (cond_intro (fun hc => ?_) (fun hc => ?_))⟩
    · have hn : ls[i] ∉ S' := by simpa using hc
      have hb2 := hb'.add hx' hst hne hn h6
      have hl3 := hb2.len
      have hso := hsm'.storeOk (o := m) (k := 1) (vs := [.bool true]) rfl (by simp [Value.oneCell']) (by omega)
      have hfbp := hsm'.put (o := m) (vs := [.bool true]) (by simp; omega)
      have hfp : Fr (fun y => y = w.heap.size) w10 (VC.put w10 w.heap.size m [.bool true]) := Fr.put ..
      refine ⟨by omega, by omega, by rw [hidx]; exact hso, Let.intro fun w13 e13 => ?_⟩
      rw [hidx] at e13
      rw [← e13] at hfbp hfp
      have hRm : ∀ y, Rm s y → y ≠ w.heap.size := fun y hy e => by
        obtain ⟨_, _, cur, hcur⟩ := htl'.base hy
        subst e
        exact Blk.ne_ty hcur hsm' (by decide) rfl
      have htl13 := htl'.fr hfp fun y hy e => hRm y hy e
      have z13 := hfp.size
      obtain ⟨s1, w14, e14, hx14, s2, w15, e15, htl15, hf15, hwh⟩ := appendTl3 htl13 ls[i] (by omega) (by omega)
      have z14 := hx14.size
      have z15 := hf15.size
      have hx13 : Ext w w13 := hx9.newer hfp fun y (hy : y = w.heap.size) => by omega
      have h43 : ∀ a, s43.a = some a → a.block ≠ w.heap.size := fun a ha e => by
        obtain ⟨cur, hc⟩ := ho43.blk ha
        rw [e] at hc
        exact Blk.ne_ty hc (hsm.ext hx58) (by decide) rfl
      refine ⟨s1, w14, e14, s2, w15, e15, hK _ _ ⟨S' ++ [ls[i]], Q' ++ [ls[i]], hb2, ?_, ?_, ?_, htl15, ?_, ?_, by omega, ?_, ?_⟩⟩
      · rcases hx' with h1 | h1
        · exact .inl h1
        · exact .inr (by simp [h1])
      · intro z hz
        rw [List.take_succ_eq_append_getElem hi] at hz
        rcases List.mem_append.1 hz with hz | hz
        · exact ⟨(hall z hz).1, by simp [(hall z hz).2]⟩
        · simp at hz; subst hz; exact ⟨hne, by simp⟩
      · simp at hl3 ⊢; omega
      · have hfb15 : FB w15 w.heap.size 7 (updF (fun i => .bool (decide ((i : Int) ∈ S'))) m [.bool true]) 97 := (hfbp.ext hx14).fr hf15 fun hy => hRm _ hy rfl
        have hfe : (List.range 7).map (updF (fun i => .bool (decide ((i : Int) ∈ S'))) m [.bool true]) = (List.range 7).map (fun k : Nat => Value.bool (decide ((k : Int) ∈ S' ++ [ls[i]]))) := by
          apply List.map_congr_left
          intro k hk
          by_cases e : k = m
          · subst e
            rw [updF_in (Nat.le_refl _) (v := .bool true) (by simp), hm]; simp
          · rw [updF_out (by simp; omega), hm]
            have : ¬ (k : Int) = (m : Int) := by omega
            simp [this]
        unfold FB at hfb15 ⊢
        rw [hfe] at hfb15
        exact hfb15
      · refine (hx13.trans hx14).newer hf15 fun y hy => ?_
        have := (htl'.base hy).1
        omega
      · refine ((hi9.fr hfp h43).ext hx14).fr hf15 fun a ha hR => hsep a ha hR
      · intro a ha hR
        rcases hwh with hwh | hwh
        · exact hsep a ha (hwh _ hR)
        · have h1 := hwh _ hR
          have h2 := (ho43.base ha).2
          omega
    · have hin : ls[i] ∈ S' := by simpa using hc
      refine hK _ _ ⟨S', Q', hb', hx', fun z hz => ?_, hmeas, htl', hsm', hx9, hz9, hi9, hsep⟩
      rw [List.take_succ_eq_append_getElem hi] at hz
      rcases List.mem_append.1 hz with hz | hz
      · exact hall z hz
      · simp at hz; subst hz; exact ⟨hne, hin⟩
  · rintro s w10 ⟨S', Q', hb', hx', hall, hmeas, htl', hsm', hx9, _, _, _⟩
    rw [n43, List.take_length] at hall
    exact ⟨2 * (6 - S'.length) + Q'.length, by simp; omega, S', Q', hb'.close fun z hz => hall z ((hstep z).1 hz), rfl, by omega, htl', hsm', hx9⟩
end
end Go.Proofs.Ytnbkihkdfhjlmaa
/-
  Contracts of the reference: conflicts (F59), agrees (F58), Equivalent (F29).
-/
namespace Go.Proofs.Ytnbkihkdfhjlmaa
open Go Go.VC
set_option maxHeartbeats 1000000
set_option maxRecDepth 100000

/-- The conflicts found so far: the later operation is one of the first i, or the i-th, the earlier one of the first j. -/
def confBy (p : List Ev) (i j : Nat) (a b : Int) : Prop := ∃ i' j', ∃ (hi : i' < p.length) (hj : j' < p.length), i' < j' ∧ (j' < i ∨ j' = i ∧ i' < j) ∧ cfl p[i'] p[j'] = true ∧ p[i'].t = a ∧ p[j'].t = b
def EdgeF (f : Nat → Value) (Q : Int → Int → Prop) : Prop := ∀ x y : Nat, x < 7 → y < 7 → ∃ c : Bool, f (x * 7 + y) = .bool c ∧ (c = true ↔ Q x y)
theorem EdgeF.congr {f : Nat → Value} {Q Q' : Int → Int → Prop} (e : EdgeF f Q) (h : ∀ x y : Nat, Q' x y ↔ Q x y) : EdgeF f Q' := fun x y hx hy => by
  obtain ⟨c, h1, h2⟩ := e x y hx hy; exact ⟨c, h1, by rw [h2, h]⟩
theorem u109 : (zc Try.prog 109).toList = (List.range 49).map fun _ => Value.bool false := by kernel_rfl

theorem c59 {w : World} {s : Sl} {h : List Ev} (hs : Hs w s h) (hok : OkH h) (hl : h.length ≤ 1000) :
    Calls Try.prog 59 [.slice s.a s.n s.c].toArray w fun e w' => ∃ cs : List Value, cs.length = 49 ∧ e = .returned (.agg cs.toArray) ∧ (∃ f, cs = (List.range 49).map f ∧ EdgeF f fun a b => conf (part h) a b = true) ∧ Ext w w' := by
  refine (call59 s (R := fun v w' => ∃ cs : List Value, cs.length = 49 ∧ v = (.agg cs.toArray) ∧ (∃ f, cs = (List.range 49).map f ∧ EdgeF f fun a b => conf (part h) a b = true) ∧ Ext w w') ?_).mono fun e w' ⟨v, he, cs, h1, hv, hx⟩ => ⟨cs, h1, by rw [he, hv], hx⟩
  refine Let.intro fun w1 e1 => Let.intro fun w2 e2 => ?_
  have hx1 : Ext w w1 := by rw [e1]; exact Ext.alloc ..
  have hx2 : Ext w1 w2 := by rw [e2]; exact Ext.alloc ..
  have hb1 : FB w1 w.heap.size 49 (fun _ => .bool false) 109 := by
    unfold FB; rw [← u109, e1]; simpa using Blk.alloc w (zc Try.prog 109).toList 109
  have hb2 : FB w2 w1.heap.size 49 (fun _ => .bool false) 109 := by
    unfold FB; rw [← u109, e2]; simpa using Blk.alloc w1 (zc Try.prog 109).toList 109
  have z1 := hx1.size
  have z2 := hx2.size
  have lt1 := hb1.lt
  have lt2 := hb2.lt
  have hx02 := hx1.trans hx2
  refine (c70 (hs.ext hx02) hok (by omega)).mono fun e w3 ⟨s9, he, ho9, hx3⟩ => ⟨s9, he, ?_⟩
  have z3 := hx3.size
  have hx03 := hx02.trans hx3
  have hp9 := ho9.sli
  have hn9 := hp9.len
  have hpl : (part h).length ≤ 1000 := Nat.le_trans (List.length_filter_le ..) hl
  have hpok : OkH (part h) := fun o ho => hok o (List.mem_filter.1 ho).1
  generalize hpe : part h = p at hp9 hn9 hpl hpok ho9
  refine Join.dir (rangeI (fun i w' => (∃ f, FB w' w1.heap.size 49 f 109 ∧ EdgeF f (confBy p i 0)) ∧ FB w' w.heap.size 49 (fun _ => .bool false) 109 ∧ Ext w w' ∧ Hs w' s9 p ∧ w3.heap.size ≤ w'.heap.size) (by rw [hn9]; show p.length ≤ 9223372036854775807; omega)
    ⟨⟨_, hb2.ext hx3, fun x y _ _ => ⟨false, rfl, by simp; rintro ⟨i', j', _, _, _, h1 | ⟨_, h1⟩, _⟩ <;> omega⟩⟩, (hb1.ext hx2).ext hx3, hx03, hp9, Nat.le_refl _⟩ ?_ ?_)
  · rintro i hi w6 ⟨⟨f, hf, hE⟩, hr6, hx6, hp6, hz6⟩ K hK
    have hi : i < p.length := by omega
    refine loadEv hp6 hi zc37 fun w9 hb9 hx9 => ?_
    rw [← opA_at hi] at hb9
    have hlb := hb9.lt
    have z9 := hx9.size
    refine ⟨by omega, by have := hp6.cap; omega, Join.dir (rangeI (n := i) (fun j w' => (∃ f, FB w' w1.heap.size 49 f 109 ∧ EdgeF f (confBy p i j)) ∧ FB w' w.heap.size 49 (fun _ => .bool false) 109 ∧ Ext w w' ∧ Hs w' s9 p ∧ w9.heap.size ≤ w'.heap.size ∧ Blk w' w6.heap.size (eO (opA p i)) 37) (by show i ≤ 9223372036854775807; omega)
      ⟨⟨f, hf.ext hx9, hE⟩, hr6.ext hx9, hx6.trans hx9, hp6.ext hx9, Nat.le_refl _, hb9⟩ ?_ ?_)⟩
    · rintro j hj w11 ⟨⟨f1, hf1, hE1⟩, hr11, hx11, hp11, hz11, hb11⟩ K2 hK2
      have hjl : j < p.length := by omega
      refine loadEvN hp11 hjl (by omega) zc37 fun w14 hb14 hx14 => ?_
      rw [← opA_at hjl] at hb14
      have hb11' := hb11.ext hx14
      have hoi := hpok.at hi
      have hoj := hpok.at hjl
      have hxx := hx11.trans hx14
      have z14 := hx14.size
      have hcf : cfl p[j] p[i] = cfl (opA p j) (opA p i) := by rw [opA_at hi, opA_at hjl]
      have hstep : ∀ a b : Int, confBy p i (j + 1) a b ↔ confBy p i j a b ∨ (cfl (opA p j) (opA p i) = true ∧ (opA p j).t = a ∧ (opA p i).t = b) := fun a b => by
        constructor
        · rintro ⟨i', j', g1, g2, g3, g4, g5, g6, g7⟩
          by_cases e : j' = i ∧ i' = j
          · obtain ⟨rfl, rfl⟩ := e
            exact .inr ⟨by rw [← hcf]; exact g5, by rw [opA_at hjl]; exact g6, by rw [opA_at hi]; exact g7⟩
          · exact .inl ⟨i', j', g1, g2, g3, by omega, g5, g6, g7⟩
        · rintro (⟨i', j', g1, g2, g3, g4, g5, g6, g7⟩ | ⟨g5, g6, g7⟩)
          · exact ⟨i', j', g1, g2, g3, by omega, g5, g6, g7⟩
          · exact ⟨j, i, hjl, hi, hj, .inr ⟨rfl, by omega⟩, by rw [hcf]; exact g5, by rw [← opA_at hjl]; exact g6, by rw [← opA_at hi]; exact g7⟩
      refine ⟨fun (c : Bool) w15 => c = cfl (opA p j) (opA p i) ∧ w15 = w14, ?_, ?_⟩
      · rintro c w15 ⟨rfl, rfl⟩
        refine Join.dir (cond_intro (fun hc => ?_) (fun hc => ?_))
        · refine Let.intro fun w17 e17 => ?_
          have hx17 : Ext w15 w17 := by rw [e17]; exact Ext.drew _
          obtain ⟨m, hm, hm1, hm7⟩ := txn_nat hoj
          obtain ⟨n, hn, hn1, hn7⟩ := txn_nat hoi
          have hidx : 0 + Int.toNat (opA p j).t * 7 + Int.toNat (opA p i).t * 1 = m * 7 + n := by rw [hm, hn]; simp
          have hf17 := (hf1.ext hx14).ext hx17
          have hfp := hf17.put (o := m * 7 + n) (vs := [.bool true]) (by simp; omega)
          have hfr : Fr (fun y => y = w1.heap.size) w17 (VC.put w17 w1.heap.size (m * 7 + n) [.bool true]) := Fr.put ..
          refine ⟨(opA p j).t, (hb14.ext hx17).cell 0, (opA p i).t, (hb11'.ext hx17).cell 0, by omega, by omega, by omega, by omega, ?_, Let.intro fun w18 e18 => ?_⟩
          · rw [hidx]; exact hf17.storeOk rfl (by simp [Value.oneCell']) (by omega)
          rw [hidx] at e18
          rw [← e18] at hfp hfr
          have z17 := hx17.size
          have z18 := hfr.size
          refine hK2 _ ⟨⟨_, hfp, fun x y hx hy => ?_⟩, ((hr11.ext hx14).ext hx17).fr hfr fun (e : w.heap.size = w1.heap.size) => by omega, (hxx.trans hx17).newer hfr fun y (hy : y = w1.heap.size) => by omega, ((hp11.ext hx14).ext hx17).fr hfr fun a ha (e : a.block = w1.heap.size) => ?_, by omega, (hb11'.ext hx17).fr hfr fun (e : w6.heap.size = w1.heap.size) => by omega⟩
          · by_cases e : x = m ∧ y = n
            · obtain ⟨rfl, rfl⟩ := e
              exact ⟨true, updF_in (Nat.le_refl _) (by simp), by simp only [true_iff]; exact (hstep _ _).2 (.inr ⟨hc, hm, hn⟩)⟩
            · obtain ⟨c, h1, h2⟩ := hE1 x y hx hy
              refine ⟨c, by rw [updF_out (by simp; omega)]; exact h1, by rw [h2, hstep]; constructor; exact .inl; rintro (h | ⟨_, h3, h4⟩); exact h; exfalso; rw [hm] at h3; rw [hn] at h4; omega⟩
          · have := (ho9.base ha).1
            omega
        · refine hK2 _ ⟨⟨f1, hf1.ext hx14, hE1.congr fun x y => ?_⟩, hr11.ext hx14, hxx, hp11.ext hx14, by omega, hb11'⟩
          rw [hstep]
          exact ⟨fun h => (by rcases h with h | ⟨h, _⟩; exact h; rw [hc] at h; cases h), .inl⟩
      · unfold okOp at hoi hoj
        have hcfl : cfl (opA p j) (opA p i) = (decide ((opA p i).k < 2) && (decide ((opA p j).k < 2) && (decide ((opA p i).k + (opA p j).k > 0) && (decide ((opA p i).i = (opA p j).i) && decide ((opA p i).t ≠ (opA p j).t))))) := by
          unfold cfl
          rw [Bool.eq_iff_iff]
          simp only [Bool.and_eq_true, bne_iff_ne, ne_eq, beq_iff_eq, decide_eq_true_eq]
          constructor
          · rintro ⟨g1, g2, g3⟩
            split at g3 <;> exact ⟨by omega, by omega, by omega, g2.symm, fun e => g1 e.symm⟩
          · rintro ⟨g1, g2, g3, g4, g5⟩
            exact ⟨fun e => g5 e.symm, g4.symm, by split <;> omega⟩
        rw [hcfl]
        refine ⟨_, hb11'.cell 1, cond_intro (fun g1 => ?_) (fun g1 => ⟨?_, rfl⟩)⟩
        rotate_left
        · simp at g1; simp; intro h; omega
        refine ⟨_, hb14.cell 1, cond_intro (fun g2 => ?_) (fun g2 => ⟨?_, rfl⟩)⟩
        rotate_left
        · simp at g2; simp; intro _ h; omega
        refine ⟨_, hb11'.cell 1, _, hb14.cell 1, ?_⟩
        simp only [decide_eq_true_eq] at g1 g2
        rw [wrap64 (by omega) (by omega)]
        refine cond_intro (fun g3 => ?_) (fun g3 => ⟨?_, rfl⟩)
        rotate_left
        · simp at g3; simp; intros; omega
        refine ⟨_, hb11'.cell 2, _, hb14.cell 2, cond_intro (fun g4 => ?_) (fun g4 => ⟨?_, rfl⟩)⟩
        rotate_left
        · simp at g4; simp [g4]
        refine ⟨_, hb11'.cell 0, _, hb14.cell 0, ?_, rfl⟩
        simp only [decide_eq_true_eq] at g3
        have g4 : (opA p i).i = (opA p j).i := by simpa using g4
        simp only [g1, g2, g3, g4, decide_true, Bool.true_and]
        by_cases e : (opA p i).t = (opA p j).t <;> simp [e]
    · rintro w11 ⟨⟨f1, hf1, hE1⟩, hr11, hx11, hp11, hz11, _⟩
      refine hK _ ⟨⟨f1, hf1, hE1.congr fun x y => ?_⟩, hr11, hx11, hp11, by omega⟩
      constructor
      · rintro ⟨i', j', g1, g2, g3, g4, g5⟩; exact ⟨i', j', g1, g2, g3, by omega, g5⟩
      · rintro ⟨i', j', g1, g2, g3, g4, g5⟩; exact ⟨i', j', g1, g2, g3, by omega, g5⟩
  · rintro w4 ⟨⟨f, hf, hE⟩, hr4, hx4, _, hz4⟩
    have hst := hr4.storeOk (o := 0) (k := 49) (vs := (List.range 49).map f) (by simp) (fun v hv => ?_) (by omega)
    rotate_left
    · obtain ⟨k, hk, rfl⟩ := List.mem_map.1 hv
      have hk : k < 49 := by simpa using hk
      obtain ⟨c, h1, _⟩ := hE (k / 7) (k % 7) (by omega) (by omega)
      rw [show k / 7 * 7 + k % 7 = k from by omega] at h1
      rw [h1]; rfl
    have hfr : Fr (fun y => y = w.heap.size) w4 (VC.put w4 w.heap.size 0 ((List.range 49).map f)) := Fr.put ..
    refine ⟨(List.range 49).map f, by simp, Blk.rd hf, hst, Let.intro fun w5 e5 => ?_⟩
    rw [← e5] at hfr
    have hfp := Blk.put (vs := (List.range 49).map f) (o := 0) hr4
    rw [show setR ((List.range 49).map fun _ => Value.bool false) 0 ((List.range 49).map f) = (List.range 49).map f from by simpa using setR_all (vs := (List.range 49).map f) (l := (List.range 49).map fun _ => Value.bool false) (pre := []) (by simp), ← e5] at hfp
    refine ⟨(List.range 49).map f, by simp, hfp.rd, (List.range 49).map f, by simp, rfl, ⟨f, rfl, hE.congr fun x y => ?_⟩, hx4.newer hfr fun y (hy : y = w.heap.size) => by omega⟩
    rw [conf_iff]
    constructor
    · rintro ⟨i', j', g1, g2, g3, g5⟩; exact ⟨i', j', g1, g2, g3, .inl (by omega), g5⟩
    · rintro ⟨i', j', g1, g2, g3, _, g5⟩; exact ⟨i', j', g1, g2, g3, g5⟩

theorem c58 {w : World} {s : Sl} {l : List Int} (hs : Ints w s l) (hl : l.length ≤ 1000) (h6 : ∀ x ∈ l, x ∈ six) {f : Nat → Value} {Q : Int → Int → Prop} (hE : EdgeF f Q) :
    Calls Try.prog 58 [.slice s.a s.n s.c, .agg ((List.range 49).map f).toArray].toArray w fun e w' => ∃ c : Bool, e = .returned (.bool c) ∧ (c = true ↔ l.Pairwise fun a b => ¬ Q b a) ∧ Ext w w' := by
  refine (call58 s ((List.range 49).map f) (R := fun v w' => ∃ c : Bool, v = .bool c ∧ (c = true ↔ l.Pairwise fun a b => ¬ Q b a) ∧ Ext w w') ?_).mono fun e w' ⟨v, he, c, hv, hx⟩ => ⟨c, by rw [he, hv], hx⟩
  refine Let.intro fun w1 e1 => ?_
  have hx1 : Ext w w1 := by rw [e1]; exact Ext.alloc ..
  have hb1 : FB w1 w.heap.size 49 f 109 := by unfold FB; rw [e1]; exact Blk.alloc ..
  have hn := hs.len
  have hbig : l.length ≤ big := by show l.length ≤ 9223372036854775807; omega
  refine Join.dir (rangeI (fun i w' => (l.take i).Pairwise (fun a b => ¬ Q b a) ∧ Ext w1 w') (by rw [hn]; exact hbig) ⟨by simp, Fr.refl _ _⟩ ?_ ?_)
  · rintro i hi w3 ⟨hp, hx3⟩ K hK
    have hi : i < l.length := by omega
    have hx03 := hx1.trans hx3
    obtain ⟨p, hpp, a1, a2, hr⟩ := Ints.at (hs.ext hx03) hi
    refine ⟨p, hpp, a1, a2, _, hr, by omega, by have := hs.cap; omega, Join.dir (rangeI (n := i) (fun j w' => (∀ a ∈ (l.take i).take j, ¬ Q l[i] a) ∧ Ext w3 w') (by omega) ⟨by simp, Fr.refl _ _⟩ ?_ ?_)⟩
    · rintro j hj w6 ⟨hq, hx6⟩ K2 hK2
      have hjl : j < l.length := by omega
      have hx06 := hx03.trans hx6
      obtain ⟨q, hq', b1, _, hr'⟩ := Ints.at (hs.ext hx06) hjl
      obtain ⟨m, hm, hm1, hm7⟩ := six_nat (h6 _ (List.getElem_mem hi))
      obtain ⟨n, hnn, hn1, hn7⟩ := six_nat (h6 _ (List.getElem_mem hjl))
      obtain ⟨c, h1, h2⟩ := hE m n hm7 hn7
      have hidx : 0 + Int.toNat l[i] * 7 + Int.toNat l[j] * 1 = m * 7 + n := by rw [hm, hnn]; simp
      have hjt : j < (l.take i).length := by simp; omega
      refine ⟨q, hq', b1, by omega, _, hr', by omega, by omega, by omega, by omega, c, ?_, cond_intro (fun hc => ?_) (fun hc => ?_)⟩
      · rw [hidx]; exact ((hb1.ext hx3).ext hx6).cell (by omega) h1
      · refine ⟨false, rfl, ?_, hx06⟩
        simp only [Bool.false_eq_true, false_iff]
        intro hpw
        have := List.pairwise_iff_getElem.1 hpw j i hjl hi hj
        rw [hm, hnn] at this
        exact this (h2.1 hc)
      · refine hK2 _ ⟨fun a ha => ?_, hx6⟩
        rw [List.take_succ_eq_append_getElem hjt] at ha
        rcases List.mem_append.1 ha with ha | ha
        · exact hq a ha
        · have : a = l[j] := by simpa using ha
          rw [this, hm, hnn]
          intro h3; rw [h2.2 h3] at hc; cases hc
    · rintro w6 ⟨hq, hx6⟩
      refine hK _ ⟨?_, hx3.trans hx6⟩
      rw [List.take_succ_eq_append_getElem hi, List.pairwise_append]
      rw [List.take_of_length_le (by simp; omega)] at hq
      exact ⟨hp, by simp, fun a ha b hb => by simp at hb; subst hb; exact hq a ha⟩
  · rintro w3 ⟨hp, hx3⟩
    rw [hn, List.take_length] at hp
    exact ⟨true, rfl, by simp; exact hp, hx1.trans hx3⟩

theorem c29 {w : World} {s s' : Sl} {h : List Ev} {l : List Int} (hs : Hs w s h) (hs' : Ints w s' l) (hok : OkH h) (hl : h.length ≤ 1000) (hp : l.Perm (com h)) :
    Calls Try.prog 29 [.slice s.a s.n s.c, .slice s'.a s'.n s'.c].toArray w fun e w' => ∃ c : Bool, e = .returned (.bool c) ∧ (c = true ↔ l.Pairwise fun a b => conf (part h) b a = false) ∧ Ext w w' := by
  refine (call29 s s' (R := fun v w' => ∃ c : Bool, v = .bool c ∧ (c = true ↔ l.Pairwise fun a b => conf (part h) b a = false) ∧ Ext w w') ?_).mono fun e w' ⟨v, he, c, hv, hx⟩ => ⟨c, by rw [he, hv], hx⟩
  have hcl := com_len h
  have hll : l.length ≤ 6 := by rw [hp.length_eq]; exact hcl
  have hn' := hs'.len
  refine (c41 hs hok (by omega)).mono fun e w1 ⟨s11, he, ho11, hx1⟩ => ⟨s11, he, ?_⟩
  refine (c40 (com h).length (com h) w1 s11 hcl rfl ho11.sli).mono fun e w2 ⟨s12, he, hL, hx2⟩ => ⟨s12, he, ?_⟩
  have hn12 := hL.len
  have hx02 := hx1.trans hx2
  have hpl := permsN_le (com h).length (com h) hcl rfl
  have hp6 : 6 ^ (com h).length ≤ 6 ^ 6 := Nat.pow_le_pow_right (by omega) hcl
  refine Join.dir (rangeI (fun i w' => l ∉ (permsN (com h).length (com h)).take i ∧ Ext w2 w') (by rw [hn12]; exact Nat.le_trans (Nat.le_trans hpl hp6) (by decide)) ⟨by simp, Fr.refl _ _⟩ ?_ ?_)
  · rintro i hi w4 ⟨hno, hx4⟩ K hK
    have hi : i < (permsN (com h).length (com h)).length := by omega
    obtain ⟨p16, x, hp16, a1, a2, hr, hxl⟩ := (hL.ext hx4).at hi
    generalize hpe : (permsN (com h).length (com h))[i] = p at hxl
    have hpp : p.Perm (com h) := by rw [← hpe]; exact permsN_perm _ _ rfl _ (List.getElem_mem hi)
    have hpl2 : p.length = l.length := by rw [hpp.length_eq, hp.length_eq]
    have hx04 := hx02.trans hx4
    have nx := hxl.len
    refine ⟨p16, hp16, a1, a2, x, hr, ?_⟩
    refine ⟨fun (c : Bool) w6 => c = decide (p = l) ∧ Ext w4 w6, ?_, ?_⟩
    · rintro c w6 ⟨rfl, hx6⟩
      have hx06 := hx04.trans hx6
      refine cond_intro (fun hc => ?_) (fun hc => ?_)
      · have hc : p = l := by simpa using hc
        refine (c59 (hs.ext hx06) hok hl).mono fun e w7 ⟨cs, hcs, he, ⟨f, hcf, hE⟩, hx7⟩ => ⟨cs, hcs, he, ?_⟩
        subst hcf
        refine (c58 ((hs'.ext hx06).ext hx7) (by omega) (fun y hy => ?_) hE).mono fun e w8 ⟨c, he, hiff, hx8⟩ => ⟨c, he, c, rfl, ?_, (hx06.trans hx7).trans hx8⟩
        · have := mem_com.1 (hp.mem_iff.1 hy); exact mem_six.2 ⟨this.1, this.2.1⟩
        · rw [hiff]
          constructor
          · intro h; exact h.imp fun h => by simpa using h
          · intro h; exact h.imp fun h => by simpa using h
      · have hc : ¬ p = l := by simpa using hc
        refine hK _ ⟨?_, hx4.trans hx6⟩
        rw [List.take_succ_eq_append_getElem hi, List.mem_append, not_or]
        exact ⟨hno, by rw [hpe]; simp; exact fun e => hc e.symm⟩
    · have hinit : (((x.n : Nat) : Int) == ((s'.n : Nat) : Int)) = true := by rw [nx, hn', hpl2]; simp
      rw [hinit]
      refine rangeKI (k := .bool) (fun j (c : Bool) w' => c = decide (p.take j = l.take j) ∧ Ext w4 w') (by rw [nx]; show p.length ≤ 9223372036854775807; omega) ⟨by simp, Fr.refl _ _⟩ ?_ ?_
      · rintro j hj c w9 ⟨rfl, hx9⟩ K2 hK2
        have hj : j < p.length := by omega
        have hjl : j < l.length := by omega
        obtain ⟨p28, hp28, b1, b2, hr28⟩ := Ints.at (hxl.ext hx9) hj
        obtain ⟨p34, hp34, d1, d2, hr34⟩ := Ints.at ((hs'.ext hx04).ext hx9) hjl
        have hst : (p.take (j + 1) = l.take (j + 1)) ↔ (p.take j = l.take j ∧ l[j] = p[j]) := by
          rw [List.take_succ_eq_append_getElem hj, List.take_succ_eq_append_getElem hjl]
          constructor
          · intro e
            obtain ⟨e1, e2⟩ := List.append_inj e (by simp; omega)
            exact ⟨e1, by simpa using e2.symm⟩
          · rintro ⟨e1, e2⟩; rw [e1, e2]
        refine ⟨p28, hp28, b1, b2, _, hr28, Join.dir (cond_intro (fun hc => ?_) (fun hc => ?_))⟩
        · have hc : p.take j = l.take j := by simpa using hc
          refine ⟨p34, hp34, d1, d2, _, hr34, hK2 _ _ ⟨?_, hx9⟩⟩
          rw [Bool.eq_iff_iff]
          simp only [beq_iff_eq, decide_eq_true_eq, hst, hc, true_and]
        · have hc : ¬ p.take j = l.take j := by simpa using hc
          refine hK2 _ _ ⟨?_, hx9⟩
          rw [eq_comm, decide_eq_false_iff_not, hst]
          exact fun h => hc h.1
      · rintro c w9 ⟨rfl, hx9⟩
        refine ⟨?_, hx9⟩
        rw [nx, List.take_length, hpl2, List.take_length]
  · rintro w4 ⟨hno, hx4⟩
    rw [hn12, List.take_length] at hno
    exact absurd (permsN_all _ _ _ rfl hp) hno
end Go.Proofs.Ytnbkihkdfhjlmaa
/-
  Contracts of the reference: going on (F51), who is next (F52), Lock (F20).
-/
namespace Go.Proofs.Ytnbkihkdfhjlmaa
open Go Go.VC
set_option maxHeartbeats 1000000
set_option maxRecDepth 100000

/-- Who waits, but for one. -/
def WTo (st : LS) (wt : Nat → Bool) (n : Nat) : Prop := ∀ x : Nat, x < 7 → x ≠ n → wt x = decide (st.q x ≠ [])
def TabX (h : List Ev) (B : Nat) (sh : Sl) (w : World) (b : Nat) (st : LS) : Prop := ∃ wt f sd sa sq, Tab h B w b st wt f sd sa sh sq ∧ WT st wt
section
variable {h : List Ev} {B : Nat} {sh : Sl} {b : Nat}
theorem TabX.ext {w w' : World} {st : LS} (t : TabX h B sh w b st) (x : Ext w w') : TabX h B sh w' b st := by obtain ⟨wt, f, sd, sa, sq, t, hw⟩ := t; exact ⟨wt, f, sd, sa, sq, t.ext x, hw⟩

theorem c51 {w : World} {st : LS} {wt : Nat → Bool} {f : Nat → Value} {sd sa : Sl} {sq : Nat → Sl} (t : Tab h B w b st wt f sd sa sh sq) (ho : OkH h) (hlen : h.length ≤ 1000) {i : Nat} (v : LI h i st) {n : Nat} (hn1 : 1 ≤ n) (hn7 : n < 7) (hw : WTo st wt n) :
    Calls Try.prog 51 [.pointer (some ⟨b, 0, none⟩), .int .i64 (n : Int)].toArray w fun e w' => e = .returned (.tuple [].toArray) ∧ TabX h B sh w' b (goP h n (st.q n).length st) ∧ Fr (fun y => B ≤ y) w w' := by
  refine (call51 ⟨b, 0⟩ (n : Int) (R := fun u w' => u = .tuple [].toArray ∧ TabX h B sh w' b (goP h n (st.q n).length st) ∧ Fr (fun y => B ≤ y) w w') ?_).mono fun e w' ⟨u, he, hu, hx⟩ => ⟨by rw [he, hu], hx⟩
  have hn6 : (n : Int) ∈ six := mem_six.2 (by omega)
  have hiw : 0 + 92 + Int.toNat (n : Int) * 1 = 92 + n := by simp
  have hiq : 0 + 85 + Int.toNat (n : Int) * 1 = 85 + n := by simp
  obtain ⟨d1, t1, f1⟩ := t.setW hn7 false
  have hbB := t.base
  refine ⟨by omega, by omega, ?_, Let.intro fun w1 e1 => ?_⟩
  · show StoreOk w b (0 + 92 + Int.toNat (n : Int) * 1) _ 1
    rw [hiw]; exact d1
  have e1 : w1 = VC.put w b (0 + 92 + Int.toNat (n : Int) * 1) [.bool false] := e1
  rw [hiw] at e1
  rw [← e1] at t1 f1
  refine Join.dir (LoopV.intro (fun m w3 => ∃ st1 wt1 f1 sd1 sa1 sq1, Tab h B w3 b st1 wt1 f1 sd1 sa1 sh sq1 ∧ WTo st1 wt1 n ∧ wt1 n = false ∧ LI h i st1 ∧ goP h n (st1.q n).length st1 = goP h n (st.q n).length st ∧ m = (st1.q n).length ∧ Fr (fun y => B ≤ y) w w3) (st.q n).length
    ⟨st, _, _, _, _, _, t1, fun x hx hne => (if_neg hne).trans (hw x hx hne), if_pos rfl, v, rfl, rfl, f1.mono fun y _ (hy : y = b) => by omega⟩ ?_)
  rintro m w3 ⟨st1, wt1, f1', sd1, sa1, sq1, t3, hw3, hwn, v3, hgo, rfl, hfr⟩
  have hq3 := t3.qlen hn7
  have hcq : ∀ u, Ext w3 u → World.cell? u ⟨b, 0 + 85 + Int.toNat (n : Int) * 1, none⟩ = some (.slice (sq1 n).a (sq1 n).n (sq1 n).c) := fun u hu => by rw [hiq]; exact (t3.ext hu).cq hn7
  refine ⟨by omega, by omega, sq1 n, hcq w3 (Fr.refl _ _), cond_intro (fun hc => ?_) (fun hc => ?_)⟩
  rotate_left
  · have hq : st1.q n = [] := List.eq_nil_of_length_eq_zero (by simp at hc; omega)
    rw [goP_nil hq] at hgo
    rw [← hgo]
    refine ⟨rfl, ⟨_, _, _, _, _, t3, fun x hx => ?_⟩, hfr⟩
    by_cases e : x = n
    · subst e; rw [hwn, hq]; simp
    · exact hw3 x hx e
  obtain ⟨j, l, hq⟩ : ∃ j l, st1.q n = j :: l := by
    cases hq : st1.q n with
    | nil => rw [hq] at hq3; simp at hq3; rw [hq3] at hc; simp at hc
    | cons j l => exact ⟨j, l, rfl⟩
  have hjl := (v3.gd.q n j (by rw [hq]; simp)).1
  have hoj := ho.at hjl
  have hll : (st1.q n).length = l.length + 1 := by rw [hq]; rfl
  rw [hll, goP_succ hq] at hgo
  have hdl := v3.dn_len ho
  have hal := v3.ab_len
  have hB3 := t3.hBw
  refine Join.dir ⟨fun u => Ext w3 u, Ext.drew _, Let.intro fun w5 e5 => ?_⟩
  have hx5 : Ext w3 w5 := by rw [e5]; exact Ext.drew _
  have z5 := hx5.size
  obtain ⟨p28, hp28, a1, a2, _⟩ := t3.head hn7 hq
  obtain ⟨p30, hp30, c1, c2, _⟩ := t3.op hjl
  obtain ⟨n1, n2, n3⟩ := new_var w5 37 (z := zc Try.prog 37) (vs := eO (opA h j)) (by rw [zc37]; rfl) (eO_one _)
  refine ⟨sh, fun u hu => (t3.ext hu).ch, by omega, by omega, sq1 n, hcq, p28, hp28, a1, a2, (j : Int), fun u hu => ?_, p30, hp30, c1, c2, (opA h j).t, (opA h j).k, (opA h j).i, fun u hu => ?_, Let.intro fun w6 e6 => ⟨?_, ?_, Let.intro fun w7 e7 => ?_⟩⟩
  · obtain ⟨p', hp', _, _, hr'⟩ := (t3.ext hu).head hn7 hq
    rw [same_pt hp28 hp']; simpa using hr'
  · obtain ⟨p', hp', _, _, hr'⟩ := (t3.ext hu).op hjl
    rw [same_pt hp30 hp']; exact hr'
  · rw [e6]; exact hx5.trans (Ext.alloc ..)
  · rw [e6]; exact n1
  have e7 : w7 = VC.put w6 w5.heap.size 0 (eO (opA h j)) := e7
  rw [← e6] at n2 n3
  rw [← e7] at n2 n3
  have hx7 := hx5.trans n3
  have t7 := t3.ext hx7
  refine ⟨(opA h j).t, (opA h j).k, (opA h j).i, n2.rd, (c80 t7 hoj).mono fun e w8 ⟨s34, he, ho34, hx8⟩ => ⟨s34, he, ?_⟩⟩
  have hx38 := hx7.trans hx8
  have t8 := t3.ext hx38
  have hb8 := n2.ext hx8
  have n34 := ho34.sli.len
  have hfh := filter_hit (st := st1) (o := opA h j)
  refine cond_intro (fun hc => ?_) (fun hc => ?_)
  · -- it has to wait
    have hh : hit st1 (opA h j) = true := hfh.1 (by simp at hc; omega)
    rw [if_pos hh] at hgo
    obtain ⟨d9, t9, f9⟩ := t8.setW hn7 true
    refine ⟨by omega, by omega, ?_, Let.intro fun w9 e9 => ?_⟩
    · show StoreOk w8 b (0 + 92 + Int.toNat (n : Int) * 1) _ 1
      rw [hiw]; exact d9
    have e9 : w9 = VC.put w8 b (0 + 92 + Int.toNat (n : Int) * 1) [.bool true] := e9
    rw [hiw] at e9
    rw [← e9] at t9 f9
    have hW9 : WT st1 (fun y => if y = n then true else wt1 y) := fun x hx => by
      by_cases e : x = n
      · subst e; exact (if_pos rfl).trans (by rw [hq]; simp)
      · exact (if_neg e).trans (hw3 x hx e)
    have hfr9 : Fr (fun y => B ≤ y) w w9 := (hfr.ext hx38).trans f9 fun y _ (hy : y = b) => by omega
    refine (c81 t9 ho v3.gd hW9 hn6).mono fun e w10 ⟨c, he, hca, hx10⟩ => ⟨c, he, Join.dir (cond_intro (fun hc1 => ?_) (fun hc1 => ?_))⟩
    rotate_left
    · rw [if_neg fun h => by rw [hca.2 h] at hc1; cases hc1] at hgo
      rw [← hgo]
      exact ⟨rfl, ⟨_, _, _, _, _, t9.ext hx10, hW9⟩, hfr9.ext hx10⟩
    rw [if_pos (hca.1 hc1)] at hgo
    have t10 := t9.ext hx10
    obtain ⟨d12, t12, f12⟩ := t10.setW hn7 false
    refine ⟨by omega, by omega, ?_, Let.intro fun w12 e12 => ?_⟩
    · show StoreOk w10 b (0 + 92 + Int.toNat (n : Int) * 1) _ 1
      rw [hiw]; exact d12
    have e12 : w12 = VC.put w10 b (0 + 92 + Int.toNat (n : Int) * 1) [.bool false] := e12
    rw [hiw] at e12
    rw [← e12] at t12 f12
    obtain ⟨d13, t13, f13⟩ := t12.setQ hn7 (w2 := w12) ((Fr.refl (fun _ => False) w12).mono fun _ _ h => h.elim) (s' := ⟨none, 0, 0⟩) (l := []) (Tl.nil ..) (fun y _ _ g ⟨h0, _⟩ => absurd h0 (Nat.lt_irrefl _)) (fun g ⟨h0, _⟩ => absurd h0 (Nat.lt_irrefl _))
    refine ⟨by omega, by omega, ?_, Let.intro fun w13 e13 => ?_⟩
    · show StoreOk w12 b (0 + 85 + Int.toNat (n : Int) * 1) _ 1
      rw [hiq]; exact d13
    have e13 : w13 = VC.put w12 b (0 + 85 + Int.toNat (n : Int) * 1) [.slice none 0 0] := e13
    rw [hiq] at e13
    have e13' : w13 = VC.put w12 b (85 + n) [.slice (⟨none, 0, 0⟩ : Sl).a (⟨none, 0, 0⟩ : Sl).n (⟨none, 0, 0⟩ : Sl).c] := e13
    rw [← e13'] at t13 f13
    obtain ⟨s3, w14, e14, hx14, s4, w15, e15, ho15, hf15, hwh⟩ := appendIntW t13.oa (n : Int) (by show st1.ab.length ≤ 1000000; omega) t13.hBw
    obtain ⟨d16, t16, f16⟩ := t13.setA hx14 hf15 ho15 fun g ⟨a, ha, hg⟩ => by
      rcases hwh with hwh | hwh
      · rw [hwh] at ha; exact .inl ⟨a, ha, hg⟩
      · have := hwh a ha; exact .inr (by omega)
    refine ⟨sa1, t13.ca, s3, w14, e14, s4, w15, e15, d16, Let.intro fun w16 e16 => ?_⟩
    have e16 : w16 = VC.put w15 b 99 [.slice s4.a s4.n s4.c] := e16
    rw [← e16] at t16 f16
    have hfr16 : Fr (fun y => B ≤ y) w w16 := by
      have g1 : Fr (fun y => B ≤ y) w w12 := (hfr9.ext hx10).trans f12 fun y _ (hy : y = b) => by omega
      have g2 : Fr (fun y => B ≤ y) w w13 := g1.trans f13 fun y _ (hy : y = b) => by omega
      exact ((g2.ext hx14).trans hf15 fun y _ ⟨a, ha, hy⟩ => by have := (t13.oa.base ha).1; omega).trans f16 fun y _ (hy : y = b) => by omega
    refine (c82 t16 (o := ⟨n, 3, 0⟩) (by unfold okOp; simp; omega) (by show st1.dn.length ≤ 1000; omega)).mono fun e w17 ⟨he, ⟨f', sd', t17⟩, f17⟩ => ⟨he, rfl, ?_, hfr16.trans f17 fun _ _ h => h⟩
    rw [← hgo]
    refine ⟨_, f', sd', _, _, t17, fun x hx => ?_⟩
    rw [abortL_q]
    by_cases e : x = n
    · subst e; rw [if_pos rfl, upq_same]; simp
    · rw [if_neg e, if_neg e, upq_other (by omega)]; exact hw3 x hx e
  · -- it is done
    have hh : hit st1 (opA h j) = false := Bool.eq_false_iff.2 fun h => by have := hfh.2 h; simp at hc; omega
    rw [if_neg (by simp [hh])] at hgo
    refine Let.intro fun w18 e18 => ?_
    have hx18 : Ext w8 w18 := by rw [e18]; exact Ext.drew _
    have t18 := t8.ext hx18
    have hb18 := hb8.ext hx18
    have hx318 := hx38.trans hx18
    have htl := (t18.tl n hn7).drop eI_len (m := 1) (by rw [hq]; simp)
    have hql : ((st1.q n).map jI).drop 1 = l.map jI := by rw [hq]; rfl
    have htl : Tl 3 1 eI B w18 ⟨subA (sq1 n).a (sq1 n).c 1 1, (sq1 n).n - 1, (sq1 n).c - 1⟩ (l.map jI) := by rw [← hql]; exact htl
    have hcap := (t18.tl n hn7).cap
    obtain ⟨d19, t19, f19⟩ := t18.setQ hn7 (w2 := w18) ((Fr.refl (fun _ => False) w18).mono fun _ _ h => h.elim) htl (fun y hy hne g hg h2 => t18.sep y n hy hn7 hne g h2 (Rm.drop (size := 1) (by omega) hg)) (fun g hg => t18.sepa n hn7 g (Rm.drop (size := 1) (by omega) hg))
    refine ⟨by omega, by omega, sq1 n, hcq w18 hx318, by omega, by omega, by omega, by omega, ?_, Let.intro fun w19 e19 => ?_⟩
    · show StoreOk w18 b (0 + 85 + Int.toNat (n : Int) * 1) _ 1
      rw [hiq]; exact d19
    have e19 : w19 = VC.put w18 b (0 + 85 + Int.toNat (n : Int) * 1) [.slice (subA (sq1 n).a (sq1 n).c 1 1) ((sq1 n).n - 1) ((sq1 n).c - 1)] := e19
    rw [hiq] at e19
    have e19' : w19 = VC.put w18 b (85 + n) [.slice (⟨subA (sq1 n).a (sq1 n).c 1 1, (sq1 n).n - 1, (sq1 n).c - 1⟩ : Sl).a (⟨subA (sq1 n).a (sq1 n).c 1 1, (sq1 n).n - 1, (sq1 n).c - 1⟩ : Sl).n (⟨subA (sq1 n).a (sq1 n).c 1 1, (sq1 n).n - 1, (sq1 n).c - 1⟩ : Sl).c] := e19
    rw [← e19'] at t19 f19
    have hb19 := hb18.fr f19 (by have := t3.fb.lt; omega)
    have hfr19 : Fr (fun y => B ≤ y) w w19 := (hfr.ext hx318).trans f19 fun y _ (hy : y = b) => by omega
    refine ⟨(opA h j).t, (opA h j).k, (opA h j).i, hb19.rd, (c82 t19 hoj (by show st1.dn.length ≤ 1000; omega)).mono fun e w20 ⟨he, ⟨f', sd', t20⟩, f20⟩ => ⟨he, l.length, by omega, doL (setq st1 n l) (opA h j), _, _, _, _, _, t20, fun x hx hne => ?_, hwn, v3.next ho hq hh, ?_, ?_, hfr19.trans f20 fun _ _ h => h⟩⟩
    · rw [doL_q, setq_q, upq_other (by omega)]; exact hw3 x hx hne
    · rw [doL_q, setq_q, upq_same]; exact hgo
    · rw [doL_q, setq_q, upq_same]

theorem c52 {w : World} {st : LS} {wt : Nat → Bool} {f : Nat → Value} {sd sa : Sl} {sq : Nat → Sl} (t : Tab h B w b st wt f sd sa sh sq) (ho : OkH h) (hlen : h.length ≤ 1000) (hw : WT st wt) :
    Calls Try.prog 52 [.pointer (some ⟨b, 0, none⟩)].toArray w fun e w' => e = .returned (.int .i64 ((nextP h st).getD 0)) ∧ Ext w w' := by
  refine (call52 ⟨b, 0⟩ (R := fun u w' => u = .int .i64 ((nextP h st).getD 0) ∧ Ext w w') ?_).mono fun e w' ⟨u, he, hu, hx⟩ => ⟨by rw [he, hu], hx⟩
  have hn := t.hs.len
  refine ⟨sh, t.ch, Join.dir (rangeI (fun i w' => (∀ k < i, nextJ h st k = false) ∧ Ext w w') (by rw [hn]; show h.length ≤ 9223372036854775807; omega) ⟨by simp, Fr.refl _ _⟩ ?_ ?_)⟩
  · rintro i hi w2 ⟨hno, hx2⟩ K hK
    have hi : i < h.length := by omega
    refine loadEv (t.hs.ext hx2) hi zc37 fun w5 hb5 hx5 => ?_
    rw [← opA_at hi] at hb5
    have hoi := ho.at hi
    obtain ⟨m, hmt, hm1, hm7⟩ := txn_nat hoi
    have hx05 := hx2.trans hx5
    have t5 := t.ext hx05
    have hK' : nextJ h st i = false → ∀ w', Ext w w' → K w' := fun h1 w' h2 => hK w' ⟨fun k hk => by
      by_cases e : k = i
      · subst e; exact h1
      · exact hno k (by omega), h2⟩
    refine ⟨fun (c : Bool) w6 => c = nextJ h st i ∧ Ext w5 w6, ?_, ?_⟩
    · rintro c w6 ⟨rfl, hx6⟩
      refine cond_intro (fun hc => ?_) (fun hc => hK' hc _ (hx05.trans hx6))
      refine ⟨(opA h i).t, (hb5.ext hx6).cell 0, ?_, hx05.trans hx6⟩
      have : (List.range h.length).find? (nextJ h st) = some i := by
        rw [List.find?_eq_some_iff_getElem]
        refine ⟨hc, i, by simpa using hi, by simp, fun k hk => ?_⟩
        rw [List.getElem_range]; simp [hno k hk]
      unfold nextP
      rw [this]; rfl
    · refine ⟨fun u => Ext w5 u, Ext.drew _, Let.intro fun w7 e7 => ?_⟩
      have hx7 : Ext w5 w7 := by rw [e7]; exact Ext.drew _
      have hrt : ∀ u, Ext w5 u → World.cell? u ⟨w2.heap.size, 0 + 0, none⟩ = some (.int .i64 (opA h i).t) := fun u hu => (hb5.ext hu).cell 0
      have hcw : ∀ u, Ext w5 u → World.cell? u ⟨b, 0 + 92 + Int.toNat (opA h i).t * 1, none⟩ = some (.bool (wt m)) := fun u hu => by rw [hmt]; simpa using (t5.ext hu).cwt hm7
      have hcq : ∀ u, Ext w5 u → World.cell? u ⟨b, 0 + 85 + Int.toNat (opA h i).t * 1, none⟩ = some (.slice (sq m).a (sq m).n (sq m).c) := fun u hu => by rw [hmt]; simpa using (t5.ext hu).cq hm7
      have hwm := hw m hm7
      rw [← hmt] at hwm
      refine ⟨(opA h i).t, hrt, by omega, by omega, wt m, hcw, cond_intro (fun hc => ?_) (fun hc => ⟨?_, hx7⟩)⟩
      rotate_left
      · rw [hwm] at hc
        have hq : st.q (opA h i).t = [] := by simpa using hc
        unfold nextJ; rw [hq]; simp
      obtain ⟨j, l, hq⟩ : ∃ j l, st.q (opA h i).t = j :: l := by
        cases hq : st.q (opA h i).t with
        | nil => rw [hwm, hq] at hc; simp at hc
        | cons j l => exact ⟨j, l, rfl⟩
      have hqm : st.q (m : Int) = j :: l := by rw [← hmt]; exact hq
      obtain ⟨p, hp, a1, a2, _⟩ := t5.head hm7 hqm
      refine ⟨(opA h i).t, hrt, by omega, by omega, sq m, hcq, p, hp, a1, a2, (j : Int), fun u hu => ?_, cond_intro (fun hc2 => ?_) (fun hc2 => ⟨?_, hx7⟩)⟩
      · obtain ⟨p', hp', _, _, hr'⟩ := (t5.ext hu).head hm7 hqm
        rw [same_pt hp hp']; simpa using hr'
      · have hji : j = i := by simp at hc2; omega
        subst hji
        refine ⟨(opA h j).t, (opA h j).k, (opA h j).i, fun u hu => (hb5.ext hu).rd, (c80 (t5.ext hx7) hoi).mono fun e w8 ⟨s38, he, ho38, hx8⟩ => ⟨s38, he, hx7.trans hx8, ?_, hx7.trans hx8⟩⟩
        have n38 := ho38.sli.len
        have hfh := filter_hit (st := st) (o := opA h j)
        unfold nextJ
        rw [hq]
        cases hh : hit st (opA h j) with
        | true => have := hfh.2 hh; simp; omega
        | false =>
          have : ¬ (six.filter (hind st (opA h j))).length > 0 := fun h0 => by rw [hfh.1 h0] at hh; cases hh
          simp; omega
      · have hji : ¬ j = i := by simp at hc2; omega
        unfold nextJ; rw [hq]; simp [hji]
  · rintro w2 ⟨hno, hx2⟩
    rw [hn] at hno
    refine ⟨?_, hx2⟩
    have : nextP h st = none := by
      unfold nextP
      rw [Option.map_eq_none_iff, List.find?_eq_none]
      intro k hk
      simp [hno k (by simpa using hk)]
    rw [this]; rfl
end
end Go.Proofs.Ytnbkihkdfhjlmaa
/-
  Contracts: the reference's Lock (F20); the law HistoryLocks.
-/
namespace Go.Proofs.Ytnbkihkdfhjlmaa
open Go Go.VC
set_option maxHeartbeats 1000000
set_option maxRecDepth 100000

theorem c20 {w : World} {s : Sl} {h : List Ev} (hs : Hs w s h) (ho : OkH h) (hl : h.length ≤ 1000) :
    Calls Try.prog 20 [.slice s.a s.n s.c].toArray w fun e w' => ∃ s1 s2 : Sl, e = .returned (.tuple [.slice s1.a s1.n s1.c, .slice s2.a s2.n s2.c].toArray) ∧
      Own 37 3 eO w.heap.size w' s1 (lockP h).dn ∧ Own 3 1 eI w.heap.size w' s2 (lockP h).ab ∧ Ext w w' := by
  refine (call20 s (R := fun v w' => ∃ s1 s2 : Sl, v = (.tuple [.slice s1.a s1.n s1.c, .slice s2.a s2.n s2.c].toArray) ∧
      Own 37 3 eO w.heap.size w' s1 (lockP h).dn ∧ Own 3 1 eI w.heap.size w' s2 (lockP h).ab ∧ Ext w w') ?_).mono fun e w' ⟨v, he, s1, s2, hv, hx⟩ => ⟨s1, s2, by rw [he, hv], hx⟩
  have hn := hs.len
  have hbig : h.length ≤ big := by show h.length ≤ 9223372036854775807; omega
  refine Let.intro fun w1 e1 => ?_
  have hx1 : Ext w w1 := by rw [e1]; exact Ext.alloc ..
  have z1 := hx1.size
  have hfb : FB w1 w.heap.size 101 (fun i => if i = 100 then kS s else if 85 ≤ i ∧ i < 92 ∨ i = 0 ∨ i = 99 then .slice none 0 0 else .bool false) 99 := by
    rw [e1]
    exact Blk.alloc w _ 99
  generalize hf0 : (fun i : Nat => if i = 100 then kS s else if 85 ≤ i ∧ i < 92 ∨ i = 0 ∨ i = 99 then Value.slice none 0 0 else Value.bool false) = f0 at hfb
  have hlt1 := hfb.lt
  have ht1 : Tab h w.heap.size w1 w.heap.size LS.init (fun _ => false) f0 ⟨none, 0, 0⟩ ⟨none, 0, 0⟩ s (fun _ => ⟨none, 0, 0⟩) := by
    refine ⟨hfb, Nat.le_refl _, by subst hf0; rfl, fun x i hx hi => ?_, fun x i hx hi => ?_, fun x hx => ?_, fun x hx => ?_, by subst hf0; rfl, by subst hf0; rfl, Own.nil .., Own.nil .., fun x hx => Tl.nil .., fun x y _ _ _ g hg => absurd hg.1 (Nat.lt_irrefl _), fun x _ g hg => absurd hg.1 (Nat.lt_irrefl _), hs.ext hx1, fun a hne ha => hs.lt (by intro o; simp [eO]) hne ha⟩
    · subst hf0; simp only; rw [if_neg (by omega), if_neg (by omega)]; rfl
    · subst hf0; simp only; rw [if_neg (by omega), if_neg (by omega)]; rfl
    · subst hf0; simp only; rw [if_neg (by omega), if_pos (by omega)]; rfl
    · subst hf0; simp only; rw [if_neg (by omega), if_neg (by omega)]
  have hT1 : TabX h w.heap.size s w1 w.heap.size LS.init := ⟨_, _, _, _, _, ht1, fun x _ => by simp [LS.init]⟩
  refine Join.dir (rangeI (fun i w' => TabX h w.heap.size s w' w.heap.size (lockN h i) ∧ Ext w w') (by rw [hn]; exact hbig) ⟨hT1, hx1⟩ ?_ ?_)
  · rintro i hi w4 ⟨hT4, hx4⟩ K hK
    have hi : i < h.length := by omega
    have v := lockN_lj ho i (by omega)
    have hK : ∀ w', TabX h w.heap.size s w' w.heap.size (lockStep h (lockN h i) i) → Ext w w' → K w' := fun w' h1 h2 => hK w' ⟨h1, h2⟩
    generalize hst : lockN h i = st at hT4 v hK
    refine loadEv (hs.ext hx4) hi zc37 fun w7 hb7 hx7 => ?_
    rw [← opA_at hi] at hb7
    have hoi := ho.at hi
    obtain ⟨m, hmt, hm1, hm7⟩ := txn_nat hoi
    obtain ⟨wt, f, sd, sa, sq, t4, hw4⟩ := hT4
    have t7 := t4.ext hx7
    have hx07 := hx4.trans hx7
    have hab := v.li.ab_len
    refine ⟨sa, t7.ca, ?_⟩
    have hsa := t7.oa.sli
    refine ⟨fun (c : Bool) w8 => c = decide ((opA h i).t ∈ st.ab) ∧ Ext w7 w8, ?_, ?_⟩
    rotate_left
    · refine rangeKI (k := .bool) (fun j (c : Bool) w' => c = decide ((opA h i).t ∈ st.ab.take j) ∧ Ext w7 w') (by rw [hsa.len]; show st.ab.length ≤ 9223372036854775807; omega) ⟨by simp, Fr.refl _ _⟩ ?_ ?_
      · rintro j hj c w22 ⟨rfl, hx22⟩ K2 hK2
        have hj : j < st.ab.length := by have := hsa.len; omega
        obtain ⟨p, hp, a1, a2, hr⟩ := Ints.at (hsa.ext hx22) hj
        refine ⟨p, hp, a1, a2, _, hr, Join.dir (cond_intro (fun hc => hK2 _ _ ⟨?_, hx22⟩) (fun hc => ⟨(opA h i).t, (hb7.ext hx22).cell 0, hK2 _ _ ⟨?_, hx22⟩⟩))⟩
        · rw [List.take_succ_eq_append_getElem hj]
          have : (opA h i).t ∈ st.ab.take j := by simpa using hc
          exact (decide_eq_true (List.mem_append_left _ this)).symm
        · rw [List.take_succ_eq_append_getElem hj]
          have : ¬ (opA h i).t ∈ st.ab.take j := by simpa using hc
          rw [Bool.eq_iff_iff]
          simp only [beq_iff_eq, decide_eq_true_eq, List.mem_append, List.mem_singleton]
          exact ⟨fun h => .inr h.symm, fun h => by rcases h with h | h; exact absurd h this; exact h.symm⟩
      · rintro c w' ⟨rfl, hx'⟩
        rw [hsa.len, List.take_length]
        exact ⟨rfl, hx'⟩
    rintro c w8 ⟨rfl, hx8⟩
    have t8 := t7.ext hx8
    have hb8 := hb7.ext hx8
    have hx08 := hx07.trans hx8
    refine cond_intro (fun hc => ?_) (fun hc => ?_)
    · have hin : (opA h i).t ∈ st.ab := by simpa using hc
      refine hK _ ?_ hx08
      unfold lockStep
      rw [if_pos hin]
      exact ⟨_, _, _, _, _, t8, hw4⟩
    have hnin : (opA h i).t ∉ st.ab := by simpa using hc
    have hS : ∀ u, Ext w8 u → World.cell? u ⟨w4.heap.size, 0 + 0, none⟩ = some (.int .i64 (opA h i).t) ∧ World.cell? u ⟨w.heap.size, 0 + 85 + Int.toNat (opA h i).t * 1, none⟩ = some (.slice (sq m).a (sq m).n (sq m).c) := fun u hu =>
      ⟨(hb8.ext hu).cell 0, by rw [hmt]; simpa using (t8.ext hu).cq hm7⟩
    refine ⟨fun u => World.cell? u ⟨w4.heap.size, 0 + 0, none⟩ = some (.int .i64 (opA h i).t) ∧ World.cell? u ⟨w.heap.size, 0 + 85 + Int.toNat (opA h i).t * 1, none⟩ = some (.slice (sq m).a (sq m).n (sq m).c), hS _ (Ext.drew _), Let.intro fun w9 e9 => ?_⟩
    have hx9 : Ext w8 w9 := by rw [e9]; exact Ext.drew _
    have t9 := t8.ext hx9
    have hql : (st.q (m : Int)).length ≤ i := by
      have h1 : (st.q (m : Int)).Nodup := (v.li.gd.srt (m : Int)).imp fun h e => by omega
      have := h1.length_le_of_subset (l₂ := List.range i) fun j hj => by simpa using v.lt _ j hj
      simpa using this
    obtain ⟨s49, w10, e10, hx10, s50, w11, e11, ht11, hf11, hwh⟩ := appendTl3 (t9.tl m hm7) (i : Int) (by simp; omega) t9.hBw
    have hx810 := hx9.trans hx10
    have t10 := t8.ext hx810
    have z10 := hx10.size
    have hmap : (st.q (m : Int)).map jI ++ [(i : Int)] = (st.q (m : Int) ++ [i]).map jI := by rw [List.map_append]; rfl
    rw [hmap] at ht11
    obtain ⟨d12, t12, f12⟩ := t10.setQ hm7 hf11 ht11 (fun y hy hne g hg h2 => by
      rcases hwh with hwh | hwh
      · exact t10.sep y m hy hm7 hne g h2 (hwh g hg)
      · have h3 := hwh g hg
        have h4 := (rm_cells t9 hy h2).2.1
        omega) (fun g hg => by
      rcases hwh with hwh | hwh
      · exact t10.sepa m hm7 g (hwh g hg)
      · have h3 := hwh g hg
        rintro ⟨a, ha, hga⟩
        have h4 := (t9.oa.base ha).2
        omega)
    have hS11 : World.cell? w11 ⟨w4.heap.size, 0 + 0, none⟩ = some (.int .i64 (opA h i).t) ∧ World.cell? w11 ⟨w.heap.size, 0 + 85 + Int.toNat (opA h i).t * 1, none⟩ = some (.slice (sq m).a (sq m).n (sq m).c) := by
      have hRm : ∀ y, Rm (sq m) y → ∃ cur, Blk w10 y cur 3 := fun y hy => (rm_cells t10 hm7 hy).2.2
      refine ⟨hf11.cell (a := ⟨w4.heap.size, 0 + 0, none⟩) (fun hy => ?_) (hS w10 hx810).1, hf11.cell (a := ⟨w.heap.size, _, none⟩) (fun hy => ?_) (hS w10 hx810).2⟩
      · obtain ⟨cur, hc⟩ := hRm _ hy; exact Blk.ne_ty hc (hb8.ext hx810) (by decide) rfl
      · obtain ⟨cur, hc⟩ := hRm _ hy; exact Blk.ne_ty hc t10.fb (by decide) rfl
    have hiq : 0 + 85 + Int.toNat (opA h i).t * 1 = 85 + m := by rw [hmt]; simp
    refine ⟨(opA h i).t, fun u hu => hu.1, (opA h i).t, fun u hu => hu.1, by omega, by omega, sq m, fun u hu => hu.2, s49, w10, e10, hS _ hx810, s50, w11, e11, hS11, by omega, by omega, by rw [hiq]; exact d12, Let.intro fun w12 e12 => Let.intro fun w13 e13 => ?_⟩
    rw [hiq] at e12
    rw [← e12] at t12 f12
    have hx13 : Ext w12 w13 := by rw [e13]; exact Ext.drew _
    have t13 := t12.ext hx13
    have hb13 : World.cell? w13 ⟨w4.heap.size, 0 + 0, none⟩ = some (.int .i64 (opA h i).t) := by
      refine Ext.cell hx13 (f12.cell (a := ⟨w4.heap.size, 0 + 0, none⟩) (fun (e : w4.heap.size = w.heap.size) => ?_) hS11.1)
      have := t4.fb.lt; omega
    have hxx13 : Ext w w13 := by
      have g1 : Ext w w11 := (hx08.trans hx810).newer hf11 fun y hy => (rm_cells t10 hm7 hy).1
      exact (g1.newer f12 fun y (hy : y = w.heap.size) => by omega).trans hx13
    have v1 := v.li.add hi v.lt hnin
    have vA := v.li.lockA ho hi v.lt hnin
    have hlA := lockA_eq (h := h) (st := st) (i := i)
    rw [hmt] at v1 hlA
    have hcw : World.cell? w13 ⟨w.heap.size, 0 + 92 + Int.toNat (opA h i).t * 1, none⟩ = some (.bool (wt m)) := by rw [hmt]; simpa using t13.cwt hm7
    have hwm := hw4 m hm7
    refine ⟨(opA h i).t, hb13, by omega, by omega, wt m, hcw, ?_⟩
    refine ⟨fun w14 => TabX h w.heap.size s w14 w.heap.size (lockA h st i) ∧ Ext w w14, ?_, ?_⟩
    · rintro w14 ⟨hT14, hx14⟩
      refine Join.dir (LoopV.intro (fun n w16 => ∃ st1, TabX h w.heap.size s w16 w.heap.size st1 ∧ LI h (i + 1) st1 ∧ retryP h (total st1) st1 = retryP h (total (lockA h st i)) (lockA h st i) ∧ n = total st1 ∧ Ext w w16) (total (lockA h st i))
        ⟨_, hT14, vA, rfl, rfl, hx14⟩ ?_)
      rintro n w16 ⟨st1, hT16, v16, hre, rfl, hx16⟩
      obtain ⟨wt', f', sd', sa', sq', t16, hw16⟩ := hT16
      refine (c52 t16 ho hl hw16).mono fun e w17 ⟨he, hx17⟩ => ⟨_, he, ?_⟩
      cases hnp : nextP h st1 with
      | none =>
        refine cond_intro (fun hc => by simp at hc) (fun _ => ?_)
        refine hK _ ?_ (hx16.trans hx17)
        rw [step_of ho hi v hnin, ← hre, retry_same v16.gd ((nextP_none v16.gd).1 hnp)]
        exact ⟨_, _, _, _, _, t16.ext hx17, hw16⟩
      | some u =>
        obtain ⟨j, r, hjl, hju, hqu, _, _⟩ := nextP_some hnp
        have hu := v16.gd.range ho hqu
        obtain ⟨k, hk, hk1, hk7⟩ := six_nat (mem_six.2 hu)
        refine cond_intro (fun _ => ?_) (fun hc => ?_)
        rotate_left
        · simp at hc; omega
        refine Join.dir ?_
        refine (c52 (t16.ext hx17) ho hl hw16).mono fun e w19 ⟨he, hx19⟩ => ⟨_, he, ?_⟩
        rw [hnp]
        simp only [Option.getD_some]
        subst hk
        have t19 := (t16.ext hx17).ext hx19
        refine (c51 t19 ho hl v16 hk1 hk7 (fun x hx _ => hw16 x hx)).mono fun e w20 ⟨he, hT20, f20⟩ => ⟨he, total (goP h k (st1.q k).length st1), next_total ho v16.gd hnp, _, hT20, v16.goP ho _, ?_, rfl, ((hx16.trans hx17).trans hx19).newer f20 fun _ h => h⟩
        rw [← hre, retry_step ho v16.gd hnp]
    · refine cond_intro (fun hc => ?_) (fun hc => ?_)
      · have hq0 : st.q (m : Int) = [] := by rw [hwm] at hc; simpa using hc
        rw [if_pos hq0] at hlA
        refine ⟨(opA h i).t, hb13, ?_⟩
        rw [hmt]
        have hl1 : ((setq st (m : Int) (st.q (m : Int) ++ [i])).q (m : Int)).length = 1 := by rw [setq_q, upq_same, hq0]; rfl
        refine (c51 t13 ho hl v1 hm1 hm7 fun x hx hne => ?_).mono fun e w21 ⟨he, hT21, f21⟩ => ⟨he, ?_, hxx13.newer f21 fun _ h => h⟩
        · rw [setq_q, upq_other (by omega)]; exact hw4 x hx
        · rw [hl1] at hT21; rw [hlA]; exact hT21
      · have hq0 : st.q (m : Int) ≠ [] := by rw [hwm] at hc; simpa using hc
        rw [if_neg hq0] at hlA
        refine ⟨?_, hxx13⟩
        rw [hlA]
        refine ⟨_, _, _, _, _, t13, fun x hx => ?_⟩
        rw [setq_q]
        by_cases e : x = m
        · subst e; rw [upq_same, hwm]; simp [hq0]
        · rw [upq_other (by omega)]; exact hw4 x hx
  · rintro w4 ⟨hT4, hx4⟩
    refine Let.intro fun w3 e3 => ?_
    have hx3 : Ext w4 w3 := by rw [e3]; exact Ext.drew _
    rw [hn] at hT4
    obtain ⟨wt, f, sd, sa, sq, t4, _⟩ := hT4
    have t3 := t4.ext hx3
    exact ⟨sd, t3.cd, sa, t3.ca, sd, sa, rfl, t3.od, t3.oa, hx4.trans hx3⟩
theorem c22 {w : World} {s : Sl} {h : List Ev} (hs : Hs w s h) (hl : h.length ≤ 1000000) :
    Calls Try.prog 22 [.slice s.a s.n s.c].toArray w fun e w' => ∃ s' : Sl, e = .returned (.slice s'.a s'.n s'.c) ∧ Own 37 3 eO w.heap.size w' s' h ∧ Ext w w' := by
  refine (call22 s (R := fun v w' => ∃ s' : Sl, v = .slice s'.a s'.n s'.c ∧ Own 37 3 eO w.heap.size w' s' h ∧ Ext w w') ?_).mono fun e w' ⟨v, he, s', hv, h1, h2⟩ => ⟨s', by rw [he, hv], h1, h2⟩
  have hn := hs.len
  have hbig : h.length ≤ big := by show h.length ≤ 9223372036854775807; omega
  refine Join.dir (rangeSI (fun i (s' : Sl) w' => Own 37 3 eO w.heap.size w' s' (h.take i) ∧ Ext w w') (by rw [hn]; exact hbig) ⟨Own.nil .., Fr.refl _ _⟩ ?_ ?_)
  · rintro i hi s' w2 ⟨ho, hx⟩ K hK
    have hi : i < h.length := by omega
    refine loadEv (hs.ext hx) hi zc38 fun w5 hb hx5 => ⟨_, hb.cell 0, _, hb.cell 1, _, hb.cell 2, ?_⟩
    have ho5 := ho.ext hx5
    obtain ⟨s1, w9, e9, s2, w10, e10, ho2, hf⟩ := appendEv E23 ho5 h[i] (by simp; omega) (by have := (hx.trans hx5).size; omega)
    exact ⟨s1, w9, e9, s2, w10, e10, hK _ _ ⟨by rw [List.take_succ_eq_append_getElem hi]; exact ho2, Own.newer ho5 (hx.trans hx5) hf (Nat.le_refl _)⟩⟩
  · rintro s' w' ⟨ho, hx⟩
    rw [hn, List.take_length] at ho
    exact ⟨s', rfl, ho, hx⟩

theorem c5 {w : World} {s : Sl} {h : List Ev} (hs : Hs w s h) (hl : h.length ≤ big) :
    Calls Try.prog 5 [.slice s.a s.n s.c].toArray w fun e w' => e = .returned (.bool true) ∧ Ext w w' := by
  refine (call5 s (R := fun v w' => v = .bool true ∧ Ext w w') ?_).mono fun e w' ⟨v, he, hv, hx⟩ => ⟨by rw [he, hv], hx⟩
  refine (of_ok hs hl).mono fun e w1 ⟨s10, he, ho10, hx1⟩ => ⟨s10, he, ?_⟩
  refine (c19 ho10.sli (by simp; omega)).mono fun e w2 ⟨s1, s2, x, he, hcase, hx2⟩ => ⟨s1, s2, x, he, ?_⟩
  have hx02 := hx1.trans hx2
  refine (c13 (hs.ext hx02) hl).mono fun e w3 ⟨he, hx3⟩ => ⟨_, he, ?_⟩
  have hx03 := hx02.trans hx3
  rw [valid_take] at hcase
  rcases hcase with ⟨hnv, n1, n2, rfl⟩ | ⟨hv, ho1, ho2, rfl⟩
  · refine cond_intro (fun _ => Join.dir (cond_intro (fun _ => cond_intro (fun _ => hawake hx03) (fun hc => by simp at hc)) (fun hc => ?_))) (fun hc => ?_)
    · rw [n1, n2] at hc; simp [wrap64] at hc
    · simp [hnv] at hc
  rw [valid_self hv] at ho1 ho2
  refine cond_intro (fun hc => by simp [hv] at hc) (fun _ => ?_)
  have h40 := hv.2
  obtain ⟨hv2, _⟩ := lockP_facts hv
  have v := lockP_lj (h := h) hv.1.1
  have hdl := hv2.2
  have hal := v.li.ab_len
  refine (c20 (hs.ext hx03) hv.1.1 (by omega)).mono fun e w6 ⟨s3, s4, he, ho3, ho4, hx6⟩ => ⟨s3, s4, he, Join.dir ?_⟩
  have hx36 := hx3.trans hx6
  refine (c22 (ho1.sli.ext hx36) (by omega)).mono fun e w8 ⟨s37, he, ho37, hx8⟩ => ⟨s37, he, ?_⟩
  refine (c21 ho37.sli (ho3.sli.ext hx8) (by show _ ≤ 9223372036854775807; omega)).mono fun e w9 ⟨he, hx9⟩ => ⟨_, he, cond_intro (fun _ => ?_) (fun hc => by simp at hc)⟩
  refine (c16 ((ho2.sli.ext hx36).ext (hx8.trans hx9)) (ho4.sli.ext (hx8.trans hx9)) (by show _ ≤ 9223372036854775807; omega)).mono fun e w10 ⟨he, hx10⟩ => ⟨_, he, cond_intro (fun _ => cond_intro (fun _ => ?_) (fun hc => by simp at hc)) (fun hc => by simp at hc)⟩
  exact hawake ((((hx03.trans hx6).trans hx8).trans hx9).trans hx10)
end Go.Proofs.Ytnbkihkdfhjlmaa
/-
  Contract: the law HistoryLocked.
-/
namespace Go.Proofs.Ytnbkihkdfhjlmaa
open Go Go.VC
set_option maxHeartbeats 1000000
set_option maxRecDepth 100000

theorem c8 {w : World} {s : Sl} {h : List Ev} (hs : Hs w s h) (hl : h.length ≤ big) :
    Calls Try.prog 8 [.slice s.a s.n s.c].toArray w fun e w' => e = .returned (.bool true) ∧ Ext w w' := by
  refine (call8 s (R := fun v w' => v = .bool true ∧ Ext w w') ?_).mono fun e w' ⟨v, he, hv, hx⟩ => ⟨by rw [he, hv], hx⟩
  refine (of_ok hs hl).mono fun e w1 ⟨s19, he, ho19, hx1⟩ => ⟨s19, he, ?_⟩
  refine (c19 ho19.sli (by simp; omega)).mono fun e w2 ⟨s1, s2, x, he, hcase, hx2⟩ => ⟨s1, s2, x, he, ?_⟩
  have hx02 := hx1.trans hx2
  rw [valid_take] at hcase
  rcases hcase with ⟨hnv, n1, n2, rfl⟩ | ⟨hv, ho1, ho2, rfl⟩
  · refine cond_intro (fun _ => Join.dir (cond_intro (fun _ => cond_intro (fun _ => hawake hx02) (fun hc => ?_)) (fun hc => by simp at hc))) (fun hc => by simp at hc)
    rw [n1, n2] at hc; simp [wrap64] at hc
  rw [valid_self hv] at ho1 ho2
  obtain ⟨hv2, hcl⟩ := lockP_facts hv
  have v := lockP_lj (h := h) hv.1.1
  have hmem := fun o ho => done_mem hv.1 v.li (o := o) ho
  have habt := fun t ht => done_abort hv.1 v.li (t := t) ht
  have hal := v.li.ab_len
  generalize (lockP h).dn = l at ho1 hv2 hcl hmem habt
  generalize (lockP h).ab = ab at ho2 hmem habt hal
  have hl40 := hv2.2
  have hlb : l.length ≤ big := by show l.length ≤ 9223372036854775807; omega
  refine cond_intro (fun hc => by simp at hc) (fun _ => ?_)
  refine (c25 ho1.sli (by omega)).mono fun e w5 ⟨b0, b1, b2, x3, he, hc25, hx5⟩ => ⟨b0, b1, b2, x3, he, ?_⟩
  rcases hc25 with ⟨hnv, _⟩ | ⟨_, hb2, rfl⟩
  · exact absurd hv2 hnv
  rw [clean_strict hv2.1 hcl] at hb2
  subst hb2
  refine (c17 (ho1.sli.ext hx5) (by omega)).mono fun e w6 ⟨s48, x48, he, hc17, hx6⟩ => ⟨s48, x48, he, ?_⟩
  rcases hc17 with ⟨hnv, _⟩ | ⟨_, _, hx48⟩
  · exact absurd hv2 hnv
  rw [clean_order hv2.1 hcl, if_pos rfl] at hx48
  subst hx48
  have hx26 := hx5.trans hx6
  refine ⟨fun (c : Bool) w' => c = false ∧ Ext w6 w', ?_, ?_⟩
  rotate_left
  · refine (c26 (ho1.sli.ext hx26) hlb).mono fun e w30 ⟨he, hx30⟩ => ⟨_, he, cond_intro (fun hc => by simp [hv2] at hc) (fun _ => cond_intro (fun hc => by simp at hc) (fun _ => cond_intro (fun hc => by simp at hc) (fun _ => ⟨rfl, hx30⟩)))⟩
  rintro c w7 ⟨rfl, hx7⟩
  refine cond_intro (fun hc => by cases hc) (fun _ => ?_)
  have hx27 := hx26.trans hx7
  have hx07 := hx02.trans hx27
  have ho7 := ho1.ext hx27
  have n1 := ho1.sli.len
  -- the commits are gathered
  refine ⟨fun (s12 : Sl) w8 => Own 3 1 eI w7.heap.size w8 s12 (cm l) ∧ Ext w7 w8, ?_, ?_⟩
  rotate_left
  · refine rangeSI (fun i (s12 : Sl) w' => Own 3 1 eI w7.heap.size w' s12 (((l.take i).filter isCm).map (·.t)) ∧ Ext w7 w') (by rw [n1]; exact hlb) ⟨by simpa using Own.nil .., Fr.refl _ _⟩ ?_ ?_
    · rintro i hi s12 w19 ⟨ho12, hx19⟩ K hK
      have hi : i < l.length := by omega
      refine loadEv (ho7.sli.ext hx19) hi zc38 fun w22 hb22 hx22 => ?_
      have ho22 := ho12.ext hx22
      have hstep : ((l.take (i + 1)).filter isCm).map (·.t) = ((l.take i).filter isCm).map (·.t) ++ if isCm l[i] then [l[i].t] else [] := by
        rw [filter_step hi, List.map_append]; split <;> rfl
      have hlen : (((l.take i).filter isCm).map (·.t)).length ≤ 1000000 := by
        rw [List.length_map]
        exact Nat.le_trans (List.length_filter_le ..) (by simp; omega)
      have hx1922 := hx19.trans hx22
      refine ⟨l[i].k, hb22.cell 1, ?_⟩
      refine ⟨fun (s : Sl) w23 => Own 3 1 eI w7.heap.size w23 s (((l.take (i + 1)).filter isCm).map (·.t)) ∧ Ext w7 w23 ∧ Blk w23 w19.heap.size (eO l[i]) 38, ?_, ?_⟩
      rotate_left
      · refine cond_intro (fun hc => ?_) (fun hc => ?_)
        · have hc : l[i].k = 2 := by simpa using hc
          obtain ⟨s1, w9, e9, s2, w10, e10, ho2', hf⟩ := appendInt ho22 l[i].t hlen (by have := hx1922.size; omega)
          refine ⟨l[i].t, hb22.cell 0, s1, w9, e9, s2, w10, e10, ?_, Own.newer ho22 hx1922 hf (Nat.le_refl _), hb22.fr hf fun ⟨a, ha, hy⟩ => ?_⟩
          · rw [hstep, if_pos (by simp [isCm, hc])]; exact ho2'
          · obtain ⟨cur, hcur⟩ := ho22.blk ha
            rw [hy] at hcur
            exact Blk.ne_ty hcur hb22 (by decide) rfl
        · have hc : ¬ l[i].k = 2 := by simpa using hc
          refine ⟨?_, hx1922, hb22⟩
          rw [hstep, if_neg (by simp [isCm, hc]), List.append_nil]; exact ho22
      rintro s12' w23 ⟨ho23, hx23, hb23⟩
      refine ⟨fun (c : Bool) w' => c = false ∧ Ext w23 w', ?_, ?_⟩
      · rintro c w24 ⟨rfl, hx24⟩
        exact cond_intro (fun hc => by cases hc) (fun _ => hK _ _ ⟨ho23.ext hx24, hx23.trans hx24⟩)
      · refine ⟨fun u => Ext w23 u, Ext.drew _, Let.intro fun w25 e25 => ⟨l[i].k, fun u hu => (hb23.ext hu).cell 1, ?_⟩⟩
        have hx25 : Ext w23 w25 := by rw [e25]; exact Ext.drew _
        refine cond_intro (fun hc => ?_) (fun _ => ⟨rfl, hx25⟩)
        have hk3 : l[i].k ≠ 3 := by simpa using hc
        refine ⟨l[i].t, l[i].k, l[i].i, fun u hu => (hb23.ext hu).rd, ?_⟩
        refine (of_ok (hs.ext ((hx07.trans hx23).trans hx25)) hl).mono fun e w26 ⟨s85, he, ho85, hx26'⟩ => ⟨s85, he, hx25.trans hx26', ?_⟩
        rw [valid_self hv] at ho85
        refine (c27 ho85.sli l[i] hl).mono fun e w27 ⟨he, hx27'⟩ => ⟨_, he, (hx25.trans hx26').trans hx27', ?_, (hx25.trans hx26').trans hx27'⟩
        rcases hmem l[i] (List.getElem_mem hi) with h1 | ⟨_, h1⟩
        · simp [h1]
        · rw [h1] at hk3; exact absurd rfl hk3
    · rintro s12 w8 ⟨ho12, hx8⟩
      rw [n1, List.take_length] at ho12
      exact ⟨ho12, hx8⟩
  rintro s12 w8 ⟨ho12, hx8⟩
  have hx08 := hx07.trans hx8
  have hx28 := hx27.trans hx8
  have ho8 := ho1.ext hx28
  have ha8 := ho2.ext hx28
  have n2 := ho2.sli.len
  have hcml : (cm l).length ≤ 40 := by unfold cm; rw [List.length_map]; exact Nat.le_trans (List.length_filter_le ..) hl40
  refine Join.dir (rangeI (fun i w' => Ext w8 w') (by rw [n2]; show ab.length ≤ 9223372036854775807; omega) (Fr.refl _ _) ?_ ?_)
  · rintro i hi w14 hx14 K hK
    have hi : i < ab.length := by omega
    obtain ⟨p, hp, a1, a2, hr⟩ := Ints.at (ha8.sli.ext hx14) hi
    obtain ⟨h1, h2⟩ := habt ab[i] (List.getElem_mem hi)
    refine ⟨p, hp, a1, a2, _, hr, ?_⟩
    refine ⟨fun (c : Bool) w' => c = false ∧ Ext w14 w', ?_, ?_⟩
    · rintro c w16 ⟨rfl, hx16⟩
      exact cond_intro (fun hc => by cases hc) (fun _ => hK _ (hx14.trans hx16))
    · refine (c28 (ho12.sli.ext hx14) ab[i] (by show (cm l).length ≤ 9223372036854775807; omega)).mono fun e w17 ⟨he, hx17⟩ => ⟨_, he, cond_intro (fun hc => ?_) (fun _ => ?_)⟩
      · exfalso
        have hc : ab[i] ∈ cm l := by simpa using hc
        exact h2 _ ((mem_cm hv2.1.1).1 hc) rfl rfl
      · refine (c27 ((ho8.sli.ext hx14).ext hx17) ⟨ab[i], 3, 0⟩ hlb).mono fun e w18 ⟨he, hx18⟩ => ⟨_, he, by simp [h1], hx17.trans hx18⟩
  · intro w9 hx9
    refine Join.dir ?_
    refine (c22 (ho8.sli.ext hx9) (by omega)).mono fun e w11 ⟨s109, he, ho109, hx11⟩ => ⟨s109, he, ?_⟩
    refine (c29 ho109.sli ((ho12.sli.ext hx9).ext hx11) hv2.1.1 (by omega) (cm_perm hv2.1)).mono fun e w12 ⟨c, he, hc, hx12⟩ => ⟨c, he, ?_⟩
    have hct := hc.2 (cm_agrees hv2.1 hcl)
    subst hct
    exact cond_intro (fun _ => hawake (((hx08.trans hx9).trans hx11).trans hx12)) (fun h => by cases h)
end Go.Proofs.Ytnbkihkdfhjlmaa
/-
  The frame of the rows: a history as an argument.
-/
namespace Go.Proofs.Ytnbkihkdfhjlmaa
open Go Go.VC Go.ChangeShapes Go.WideShapes Go.RowKit
set_option maxRecDepth 100000

theorem own0 : ownKnob Try.prog.godebug = none := by kernel_rfl
theorem laid0 : laidOutB Try.prog = true := by kernel_rfl
theorem cells37 : Try.prog.cellsOf 37 = 3 := by kernel_rfl
theorem cells3 : Try.prog.cellsOf 3 = 1 := by kernel_rfl

section
variable {H : Type} {enc : TypeId × Value → H} {w : World} {base : Nat} {spare : Nat → Bool} {held : Bool}
/-- Three cells that read as an operation. -/
theorem open_op {fuel : Nat} {cs : List Value} {x : DataW H × List MemPlace} (h : DataW.trod enc Try.prog w base spare held fuel 37 cs = some x) : ∃ o : Ev, cs = eO o := by
  obtain ⟨xs, n, _, _, hl, hlen, hf⟩ := DataW.trod_struct Try.underlying37 h
  rw [cells37] at hl
  match cs, hl with
  | [c0, c1, c2], _ =>
    have hfield : ∀ (i : Nat) (f : Field), (#[{ name := "Txn", type := 3, offset := 0, embedded := false, tag := "", pkgPath := "", byteOffset := 0 }, { name := "Kind", type := 3, offset := 1, embedded := false, tag := "", pkgPath := "", byteOffset := 8 }, { name := "Item", type := 3, offset := 2, embedded := false, tag := "", pkgPath := "", byteOffset := 16 }] : Array Field)[i]? = some f → f.type = 3 → ∃ m : Int, (([c0, c1, c2] : List Value).drop f.offset).take 1 = [.int .i64 m] := by
      intro i f hi ht
      have h1 := hf i f hi
      have hil : i < xs.length := by rw [hlen]; exact (Array.getElem?_eq_some_iff.1 hi).1
      rw [List.getElem?_eq_getElem hil, ht, cells3] at h1
      obtain ⟨m, hm, _⟩ := DataW.trod_int Try.underlying3 h1
      exact ⟨m, hm⟩
    obtain ⟨a, ha⟩ := hfield 0 _ rfl rfl
    obtain ⟨b, hb⟩ := hfield 1 _ rfl rfl
    obtain ⟨c, hc⟩ := hfield 2 _ rfl rfl
    simp at ha hb hc
    exact ⟨⟨a, b, c⟩, by rw [ha, hb, hc]; rfl⟩
/-- Cells that are there one by one. -/
theorem rd_of {b : Nat} : ∀ {vs : List Value} {o : Nat}, (∀ i v, vs[i]? = some v → w.cell? ⟨b, o + i, none⟩ = some v) → rd w b o vs
  | [], _, _ => trivial
  | v :: r, o, h => ⟨by simpa using h 0 v rfl, rd_of fun i u hu => by
      have := h (i + 1) u (by simpa using hu)
      rw [show o + 1 + i = o + (i + 1) from by omega]; exact this⟩
theorem rd_flat {b o : Nat} {n : Nat} {f : Nat → Ev} : ∀ {k : Nat}, k ≤ n → (∀ i, i < n → rd w b (o + i * 3) (eO (f i))) → rd w b o (((List.range k).map f).flatMap eO)
  | 0, _, _ => trivial
  | k + 1, hk, h => by
    rw [List.range_succ, List.map_append, List.flatMap_append, rd_append]
    refine ⟨rd_flat (by omega) h, ?_⟩
    rw [flatMap_len eO_len, List.length_map, List.length_range]
    simpa using h k (by omega)
/-- A slice that reads as data is a history. -/
theorem open_hist {t : TypeId} (ht : Try.prog.underlying t = some (.slice 37)) {a : Option Addr} {len cap : Nat} {d : DataW H} {ps : List MemPlace} (h : DataW.Trod enc Try.prog w base spare held t (.slice a len cap) d ps) :
    ∃ l : List Ev, Hs w ⟨a, len, cap⟩ l ∧ len ≤ maxLen := by
  obtain ⟨fuel, hf⟩ := h
  rcases Deep.open_slice ht hf with ⟨hcs, _⟩ | ⟨a', len', cap', m, n, D, Pl, hcs, _, hl, hm, hmm, _, hi⟩
  · simp [Value.cells] at hcs
    obtain ⟨rfl, rfl, rfl⟩ := hcs
    exact ⟨[], Sli.nil .., Nat.zero_le _⟩
  · simp [Value.cells] at hcs
    obtain ⟨rfl, rfl, rfl⟩ := hcs
    have hlm : len ≤ m := by rw [hmm]; split <;> omega
    have hall : ∀ i, i < len → ∃ o : Ev, ∀ j v, (eO o)[j]? = some v → w.cell? (a'.add (i * 3 + j)) = some v := by
      intro i hil
      obtain ⟨cs', hc, hd⟩ := hi i (by omega)
      obtain ⟨o, rfl⟩ := open_op hd
      rw [cells37] at hc
      obtain ⟨_, _, hat⟩ := World.cells?_some hc
      refine ⟨o, fun j v hv => ?_⟩
      have hj : j < 3 := by
        rcases Nat.lt_or_ge j 3 with h | h
        · exact h
        · rw [List.getElem?_eq_none (by rw [eO_len]; exact h)] at hv; cases hv
      have := hat j hj
      rw [hv] at this
      rw [← this]
      congr 1
      unfold Addr.add
      by_cases h0 : i * 3 = 0 <;> by_cases h1 : j = 0 <;> simp [h0, h1, Nat.add_assoc]
    have hsp : 0 < len → a'.spot = none := fun h0 => by
      obtain ⟨o, ho⟩ := hall 0 h0
      have h1 := World.cell?_spot (ho 0 _ rfl)
      have h2 : a'.add (0 * 3 + 0) = a' := by unfold Addr.add; simp
      rw [h2] at h1; exact h1
    let f : Nat → Ev := fun i => if h : i < len then (hall i h).choose else ⟨0, 0, 0⟩
    have hfc : ∀ i, i < len → rd w a'.block (a'.off + i * 3) (eO (f i)) := by
      intro i hil
      have h1 := (hall i hil).choose_spec
      have h2 : f i = (hall i hil).choose := by simp [f, hil]
      rw [h2]
      refine rd_of fun j v hv => ?_
      have h3 := h1 j v hv
      obtain ⟨b, o, sp⟩ := a'
      have h4 : sp = none := hsp (by omega)
      subst h4
      rw [addr_add_plain] at h3
      rw [Nat.add_assoc]; exact h3
    refine ⟨(List.range len).map f, ⟨by simp, hl, fun hne => ?_⟩, by omega⟩
    have h0 : 0 < len := by
      rcases Nat.eq_zero_or_pos len with h | h
      · subst h; exact absurd rfl hne
      · exact h
    obtain ⟨b, o, sp⟩ := a'
    have h4 : sp = none := hsp h0
    subst h4
    exact ⟨⟨b, o⟩, rfl, rd_flat (Nat.le_refl _) hfc⟩
end
end Go.Proofs.Ytnbkihkdfhjlmaa
