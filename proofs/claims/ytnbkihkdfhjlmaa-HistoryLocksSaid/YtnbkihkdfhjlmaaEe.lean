/-
  The state of the program's Lock in memory; contract: does a transaction wait for itself.
-/
import Derived.Test.YtnbkihkdfhjlmaaEd
namespace Go.Proofs.Ytnbkihkdfhjlmaa
open Go Go.VC
set_option maxHeartbeats 1000000
set_option maxRecDepth 100000

/-! ### the search for a circle -/
section
variable {R : Int → Int → Prop} {t : Int}
/-- The search: S was met, Q waits; 'ex' is being looked at. -/
structure BI (R : Int → Int → Prop) (t : Int) (S Q : List Int) (ex : Option Int) : Prop where
  rch : ∀ y ∈ S, y ≠ t ∧ Rch R t y
  sub : ∀ y ∈ Q, y = t ∨ y ∈ S
  cl : ∀ x, (x = t ∨ x ∈ S) → x ∉ Q → some x ≠ ex → ∀ y, R x y → y ≠ t ∧ y ∈ S
  nd : S.Nodup
  rg : ∀ y ∈ S, y ∈ six
theorem BI.init : BI R t [] [t] none := ⟨by simp, by simp, fun x hx hq => by simp at hx; subst hx; simp at hq, by simp, by simp⟩
theorem BI.pop {S Q : List Int} {x : Int} (b : BI R t S (x :: Q) none) : BI R t S Q (some x) :=
  ⟨b.rch, fun y hy => b.sub y (by simp [hy]), fun z hz hq he => b.cl z hz (by simp only [List.mem_cons, not_or]; exact ⟨fun e => he (by rw [e]), hq⟩) (by simp), b.nd, b.rg⟩
theorem BI.at {S Q : List Int} {x : Int} (b : BI R t S (x :: Q) none) : x = t ∨ x ∈ S := b.sub x (by simp)
theorem BI.found {S Q : List Int} {ex : Option Int} {x : Int} (b : BI R t S Q ex) (hx : x = t ∨ x ∈ S) (h : R x t) : Rch R t t := by
  rcases hx with rfl | hx
  · exact .one h
  · exact .more (b.rch x hx).2 h
theorem BI.add {S Q : List Int} {x y : Int} (b : BI R t S Q (some x)) (hx : x = t ∨ x ∈ S) (h : R x y) (hy : y ≠ t) (hn : y ∉ S) (h6 : y ∈ six) : BI R t (S ++ [y]) (Q ++ [y]) (some x) := by
  refine ⟨fun z hz => ?_, fun z hz => ?_, fun z hz hq he u hu => ?_, ?_, fun z hz => ?_⟩
  · rcases List.mem_append.1 hz with hz | hz
    · exact b.rch z hz
    · simp at hz; subst hz
      refine ⟨hy, ?_⟩
      rcases hx with rfl | hx
      · exact .one h
      · exact .more (b.rch x hx).2 h
  · rcases List.mem_append.1 hz with hz | hz
    · rcases b.sub z hz with h1 | h1
      · exact .inl h1
      · exact .inr (by simp [h1])
    · simp at hz; subst hz; exact .inr (by simp)
  · have hzy : z ≠ y := fun e => hq (by simp [e])
    have hz' : z = t ∨ z ∈ S := by
      rcases hz with hz | hz
      · exact .inl hz
      · rcases List.mem_append.1 hz with hz | hz
        · exact .inr hz
        · simp at hz; exact absurd hz hzy
    obtain ⟨h1, h2⟩ := b.cl z hz' (fun h => hq (by simp [h])) he u hu
    exact ⟨h1, by simp [h2]⟩
  · rw [List.nodup_append]; exact ⟨b.nd, by simp, by intro a ha c hc e; simp at hc; subst hc; subst e; exact hn ha⟩
  · rcases List.mem_append.1 hz with hz | hz
    · exact b.rg z hz
    · simp at hz; subst hz; exact h6
theorem BI.close {S Q : List Int} {x : Int} (b : BI R t S Q (some x)) (h : ∀ y, R x y → y ≠ t ∧ y ∈ S) : BI R t S Q none :=
  ⟨b.rch, b.sub, fun z hz hq _ y hy => by
    by_cases e : z = x
    · subst e; exact h y hy
    · exact b.cl z hz hq (fun h => e (Option.some.inj h)) y hy, b.nd, b.rg⟩
theorem BI.done {S : List Int} (b : BI R t S [] none) : ¬ Rch R t t := by
  have : ∀ y, Rch R t y → y ≠ t ∧ y ∈ S := fun y hy => by
    induction hy with
    | one h => exact b.cl t (.inl rfl) (by simp) (by simp) _ h
    | more _ h ih => exact b.cl _ (.inr ih.2) (by simp) (by simp) _ h
  exact fun h => (this t h).1 rfl
theorem BI.len {S Q : List Int} {ex : Option Int} (b : BI R t S Q ex) : S.length ≤ 6 := by simpa [six] using b.nd.length_le_of_subset (l₂ := six) b.rg
end
theorem hind_six {h : List Ev} {st : LS} (g : Gd h st) {o : Ev} {x : Int} (hx : hind st o x = true) : x ∈ six := by
  unfold hind at hx
  simp only [Bool.and_eq_true, Bool.or_eq_true, decide_eq_true_eq] at hx
  rcases hx.2 with h1 | h1
  · exact mem_six.2 (g.ex _ _ h1.2)
  · exact mem_six.2 (g.sh _ _ h1.2)
theorem hit_kind {st : LS} {o : Ev} (hh : hit st o = true) : o.k ≤ 1 := by
  unfold hit at hh
  obtain ⟨x, _, hx⟩ := List.any_eq_true.1 hh
  unfold hind at hx
  simp only [Bool.and_eq_true, Bool.or_eq_true, decide_eq_true_eq] at hx
  omega
/-- Who waits waits with a read or a write. -/
def HK (h : List Ev) (st : LS) (ex : Option Int) : Prop := ∀ x j r, some x ≠ ex → st.q x = j :: r → (opA h j).k ≤ 1

/-! ### the state in memory -/
def eH (x : Ev × Int) : List Value := [.int .i64 x.1.t, .int .i64 x.1.k, .int .i64 x.1.i, .int .i64 x.2]
theorem eH_len (x : Ev × Int) : (eH x).length = 4 := rfl
theorem eH_one (x : Ev × Int) : ∀ v ∈ eH x, v.oneCell' = true := by intro v hv; simp [eH] at hv; rcases hv with rfl | rfl | rfl | rfl <;> rfl
theorem E90 : Elem Try.prog 90 92 4 32 := Elem.of (by kernel_rfl) (by kernel_rfl) (by decide)
theorem u83 : Try.prog.underlying 83 = some (.map 3 90) := by kernel_rfl
theorem zero90 (w : World) : (zeroValue 90).run Try.prog w = .ok (.slice none 0 0) w := Try.zeroValue90 w
def hd (h : List Ev) (j : Nat) : Ev × Int := (opA h j, (j : Int))
theorem lookH {w : World} {b c : Nat} {l : List (Ent Int Sl)} (h : Mp kI kS w b l c) (t : Int) :
    (Instr.lookup 83 (.map (some b)) (.int .i64 t) false).run Try.prog w = .ok (.slice (sAt l t).a (sAt l t).n (sAt l t).c) w := by
  have := (look_run K3 u83 h zero90 t).1
  rw [show (Value.int .i64 t) = kI t from rfl, this]
  unfold sAt
  cases mget l t <;> rfl
structure Run (h : List Ev) (B : Nat) (w : World) (b : Nat) (st : LS) (f : Nat → Value) (ms : Nat → Option Nat) (sd sa : Sl) (bw : Nat) (lw : List (Ent Int Sl)) (cw : Nat) : Prop where
  lk : Lk B w b st f ms
  fd : f 12 = kS sd
  fa : f 13 = kS sa
  fw : f 14 = .map (some bw)
  od : Own 38 3 eO B w sd st.dn
  oa : Own 3 1 eI B w sa st.ab
  bwB : B ≤ bw
  mw : Mp kI kS w bw lw cw
  bm : ∀ i, i < 6 → ms i ≠ some bw
  tl : ∀ t, Tl 92 4 eH B w (sAt lw t) ((st.q t).map (hd h))
  sep : ∀ t u, t ≠ u → ∀ y, Rm (sAt lw t) y → ¬ Rm (sAt lw u) y
section
variable {h : List Ev} {B : Nat} {w w' : World} {b : Nat} {st : LS} {f : Nat → Value} {ms : Nat → Option Nat} {sd sa : Sl} {bw : Nat} {lw : List (Ent Int Sl)} {kw : Nat}
theorem Run.ext (r : Run h B w b st f ms sd sa bw lw kw) (x : Ext w w') : Run h B w' b st f ms sd sa bw lw kw :=
  ⟨r.lk.ext x, r.fd, r.fa, r.fw, r.od.ext x, r.oa.ext x, r.bwB, r.mw.ext x, r.bm, fun t => (r.tl t).ext x, r.sep⟩
theorem Run.hB (r : Run h B w b st f ms sd sa bw lw kw) : B ≤ w.heap.size := by have := r.lk.base; have := r.lk.fb.lt; omega
theorem Run.cd (r : Run h B w b st f ms sd sa bw lw kw) : World.cell? w ⟨b, 12, none⟩ = some (.slice sd.a sd.n sd.c) := r.lk.fb.cell (by omega) r.fd
theorem Run.ca (r : Run h B w b st f ms sd sa bw lw kw) : World.cell? w ⟨b, 13, none⟩ = some (.slice sa.a sa.n sa.c) := r.lk.fb.cell (by omega) r.fa
theorem Run.cw (r : Run h B w b st f ms sd sa bw lw kw) : World.cell? w ⟨b, 14, none⟩ = some (.map (some bw)) := r.lk.fb.cell (by omega) r.fw
theorem Run.len (r : Run h B w b st f ms sd sa bw lw kw) (t : Int) : (sAt lw t).n = (st.q t).length := by have := (r.tl t).len; simpa using this
/-- The head of a queue. -/
theorem Run.head (r : Run h B w b st f ms sd sa bw lw kw) {t : Int} {j : Nat} {l : List Nat} (hq : st.q t = j :: l) : ∃ p : Pt, (sAt lw t).a = some ⟨p.b, p.o, none⟩ ∧ 0 ≤ (0 : Int) ∧ (0 : Int) < (((sAt lw t).n : Nat) : Int) ∧ rd w p.b p.o (eH (hd h j)) := by
  have hs := (r.tl t).sli
  rw [hq] at hs
  obtain ⟨p, hp, h1, h2, h3⟩ := Sli.at eH_len hs (i := 0) (by simp)
  exact ⟨p, hp, h1, h2, by simpa using h3⟩
theorem head_op {w : World} {b o : Nat} {x : Ev × Int} (hr : rd w b o (eH x)) : rd w b o (eO x.1) := ⟨hr.1, hr.2.1, hr.2.2.1, trivial⟩

/-- What was met. -/
def SeenM (w : World) (b : Nat) (S : List Int) : Prop := ∃ (l : List (Ent Int Bool)) (c : Nat), Mp kI kB w b l c ∧ ∀ y, (mget l y).getD false = decide (y ∈ S)
theorem SeenM.ext {w w' : World} {b : Nat} {S : List Int} (m : SeenM w b S) (x : Ext w w') : SeenM w' b S := by obtain ⟨l, c, h1, h2⟩ := m; exact ⟨l, c, h1.ext x, h2⟩
theorem SeenM.look {w : World} {b : Nat} {S : List Int} (m : SeenM w b S) (y : Int) : (Instr.lookup 84 (.map (some b)) (.int .i64 y) false).run Try.prog w = .ok (.bool (decide (y ∈ S))) w := by
  obtain ⟨l, c, h1, h2⟩ := m
  have := (look_run K3 u84 h1 zero4 y).1
  rw [show (Value.int .i64 y) = kI y from rfl, this, ← h2]
  cases mget l y <;> rfl
theorem appendTl3 {B : Nat} {w : World} {s : Sl} {l : List Int} (ho : Tl 3 1 eI B w s l) (x : Int) (hl : l.length ≤ 1000000) (hB : B ≤ w.heap.size) :
    ∃ (s1 : Sl) (w1 : World), (Instr.buildSlice 24 1 [(0, .int .i64 x)].toArray).run Try.prog w = .ok (.slice s1.a s1.n s1.c) w1 ∧ Ext w w1 ∧
      ∃ (s' : Sl) (w' : World), (Builtin.append_ #[24, 24] 24 #[.slice s.a s.n s.c, .slice s1.a s1.n s1.c]).run Try.prog w1 = .ok (.slice s'.a s'.n s'.c) w' ∧ Tl 3 1 eI B w' s' (l ++ [x]) ∧ Fr (Rm s) w1 w' ∧ ((∀ b, Rm s' b → Rm s b) ∨ ∀ b, Rm s' b → w.heap.size ≤ b) :=  by
  exact Tl.append E24 ho (x := x) (v := .int .i64 x) rfl eI_len eI_one (by omega) (by omega) (by simp only [maxLen]; omega) hB 24

theorem c77 (r : Run h B w b st f ms sd sa bw lw kw) (ho : OkH h) (g : Gd h st) (hk : HK h st none) (t : Int) :
    Calls Try.prog 77 [.pointer (some ⟨b, 0, none⟩), .int .i64 t].toArray w fun e w' => ∃ c : Bool, e = .returned (.bool c) ∧ (c = true ↔ caught h st t) ∧ Ext w w' := by
  refine (call77 ⟨b, 0⟩ t (R := fun v w' => ∃ c : Bool, v = .bool c ∧ (c = true ↔ caught h st t) ∧ Ext w w') ?_).mono fun e w' ⟨v, he, c, hv, hx⟩ => ⟨c, by rw [he, hv], hx⟩
  refine Let.intro fun w1 e1 => ?_
  have hx1 : Ext w w1 := by rw [e1]; exact Ext.alloc ..
  have hm1 : Mp kI kB w1 w.heap.size ([] : List (Ent Int Bool)) 0 := by rw [e1]; exact Mp.made w
  have z1 := hx1.size
  have hb := buildOne_run (P := Try.prog) E24 (v := .int .i64 t) (vs := eI t) rfl rfl (by omega) w1
  have hx2 := Ext.alloc w1 (.cells (eI t).toArray 3)
  refine ⟨⟨some ⟨w1.heap.size, 0, none⟩, 1, 1⟩, _, hb, ?_⟩
  have ho2 : Own 3 1 eI w1.heap.size (w1.alloc (.cells (eI t).toArray 3)) ⟨some ⟨w1.heap.size, 0, none⟩, 1, 1⟩ [t] := Own.one w1 t rfl
  generalize w1.alloc (.cells (eI t).toArray 3) = w2 at hx2 ho2
  have hl1 := hm1.bound
  refine Join.dir (LoopV.intro (fun n (s6 : Sl) w4 => ∃ S Q, BI (stepL h st) t S Q none ∧ n = 2 * (6 - S.length) + Q.length ∧ n ≤ 13 ∧ Tl 3 1 eI w.heap.size w4 s6 Q ∧ SeenM w4 w.heap.size S ∧ Ext w w4) 13
    ⟨[], [t], BI.init, by simp, by simp, ho2.tl.mono z1, ⟨[], 0, hm1.ext hx2, by simp [mget]⟩, hx1.trans hx2⟩ ?_)
  rintro n s6 w4 ⟨S, Q, hbi, rfl, hn13, htl, hsm, hx4⟩
  have hn6 := htl.len
  have hS6 := hbi.len
  refine cond_intro (fun hc => ?_) (fun hc => ?_)
  rotate_left
  · have hq : Q = [] := List.eq_nil_of_length_eq_zero (by have : ¬ (0 : Int) < (s6.n : Int) := by simpa using hc
                                                          omega)
    subst hq
    exact ⟨false, rfl, by simp; exact hbi.done, hx4⟩
  obtain ⟨x, Q, rfl⟩ : ∃ x Q', Q = x :: Q' := by
    cases Q with
    | nil => simp at hn6; simp [hn6] at hc
    | cons x Q' => exact ⟨x, Q', rfl⟩
  have hxs := hbi.at
  obtain ⟨p, hp, a1, a2, hr⟩ := Ints.at (i := 0) (show Ints w4 s6 (x :: Q) from htl.sli) (by simp)
  have hdrop : Tl 3 1 eI w.heap.size w4 ⟨subA s6.a s6.c 1 1, s6.n - 1, s6.c - 1⟩ Q := by
    have := htl.drop eI_len (m := 1) (by simp)
    simpa using this
  have rr := r.ext hx4
  refine Join.dir ⟨p, hp, a1, a2, x, hr, by omega, by omega, some bw, rr.cw, sAt lw x, lookH rr.mw x, ?_⟩
  refine cond_intro (fun hc2 => ?_) (fun hc2 => ?_)
  · -- x waits for nobody
    have hq : st.q x = [] := List.eq_nil_of_length_eq_zero (by have := rr.len x; simp at hc2; omega)
    refine ⟨2 * (6 - S.length) + Q.length, by simp, S, Q, hbi.pop.close fun y ⟨j, r', hj, _⟩ => (by rw [hq] at hj; cases hj), rfl, by simp at hn13; omega, hdrop, hsm, hx4⟩
  obtain ⟨j, l, hq⟩ : ∃ j l, st.q x = j :: l := by
    cases hq : st.q x with
    | nil => have := rr.len x; rw [hq] at this; simp at this; rw [this] at hc2; simp at hc2
    | cons j l => exact ⟨j, l, rfl⟩
  refine ⟨fun u => Ext w4 u, Ext.drew _, Let.intro fun w6 e6 => ?_⟩
  have hx6 : Ext w4 w6 := by rw [e6]; exact Ext.drew _
  obtain ⟨p35, hp35, b1, b2, _⟩ := rr.head hq
  refine ⟨p35, hp35, b1, b2, (opA h j).t, (opA h j).k, (opA h j).i, fun u hu => ?_, ?_⟩
  · obtain ⟨p', hp', _, _, hr'⟩ := (rr.ext hu).head hq
    rw [hp35] at hp'
    have e : (⟨p35.b, p35.o, none⟩ : Addr) = ⟨p'.b, p'.o, none⟩ := Option.some.inj hp'
    have e1 : p35.b = p'.b := congrArg Addr.block e
    have e2 : p35.o = p'.o := congrArg Addr.off e
    have := head_op hr'
    rw [← e1, ← e2] at this
    simpa [eO, hd] using this
  have hoj := ho.at (g.q x j (by rw [hq]; simp)).1
  have hkj := hk x j l (by simp) hq
  have hx06 := hx4.trans hx6
  refine (c79 (r.ext hx06).lk g hoj hkj).mono fun e w7 ⟨s38, ls, he, hi38, hml, hll, hx7⟩ => ⟨s38, he, hx6.trans hx7, ?_⟩
  have hstep : ∀ y, stepL h st x y ↔ y ∈ ls := fun y => by
    rw [hml]
    constructor
    · rintro ⟨j', r', hj', hy⟩; rw [hq] at hj'; cases hj'; exact hy
    · intro hy; exact ⟨j, l, hq, hy⟩
  have hx47 := hx6.trans hx7
  have hx07 := hx4.trans hx47
  have n38 := hi38.sli.len
  have hz7 := hx07.size
  have hz6 := hx06.size
  have hz67 := hx7.size
  have hz46 := hx6.size
  have hm13 : 2 * (6 - S.length) + Q.length ≤ 12 := by simp at hn13; omega
  refine Join.dir (rangeSI (fun i (s : Sl) w9 => ∃ S' Q', BI (stepL h st) t S' Q' (some x) ∧ (x = t ∨ x ∈ S') ∧ (∀ y ∈ ls.take i, y ≠ t ∧ y ∈ S') ∧ 2 * (6 - S'.length) + Q'.length ≤ 2 * (6 - S.length) + Q.length ∧ Tl 3 1 eI w.heap.size w9 s Q' ∧ SeenM w9 w.heap.size S' ∧ Ext w w9 ∧ w7.heap.size ≤ w9.heap.size ∧ Ints w9 s38 ls ∧ (∀ a, s38.a = some a → ¬ Rm s a.block))
    (by rw [n38]; show ls.length ≤ 9223372036854775807; omega) ⟨S, Q, hbi.pop, hxs, by simp, Nat.le_refl _, hdrop.ext hx47, hsm.ext hx47, hx07, Nat.le_refl _, hi38.sli, ?_⟩ ?_ ?_)
  · intro a ha hR
    have h1 := (hi38.base ha).1
    have h2 := (hdrop.base hR).2.1
    omega
  · rintro i hi s w9 ⟨S', Q', hb', hx', hall, hmeas, htl', hsm', hx9, hz9, hi9, hsep⟩ K hK
    have hi : i < ls.length := by omega
    obtain ⟨p42, hp42, c1, c2, hr42⟩ := Ints.at hi9 hi
    refine ⟨p42, hp42, c1, c2, ls[i], hr42, ?_⟩
    have hst := (hstep ls[i]).2 (List.getElem_mem hi)
    refine cond_intro (fun hc => ?_) (fun hc => ?_)
    · have hc : ls[i] = t := by simpa using hc
      rw [hc] at hst
      exact ⟨true, rfl, by simp; exact hb'.found hx' hst, hx9⟩
    have hne : ls[i] ≠ t := by simpa using hc
    refine ⟨decide (ls[i] ∈ S'), hsm'.look _, Join.dir (cond_intro (fun hc => ?_) (fun hc => ?_))⟩
    · have hn : ls[i] ∉ S' := by simpa using hc
      have h6 : ls[i] ∈ six := by
        obtain ⟨j', r', _, hy⟩ := hst
        exact hind_six g hy
      have hb2 := hb'.add hx' hst hne hn h6
      have hl2 := hb2.len
      obtain ⟨l1, cc1, hmp, hml2⟩ := hsm'
      obtain ⟨w12, cc2, hrun, hmp12, hf12⟩ := put_run K3 u84 hmp ls[i] true
      have hRm : ∀ y, Rm s y → y ≠ w.heap.size := fun y hy e => by
        obtain ⟨_, _, cur, hcur⟩ := htl'.base hy
        subst e
        exact hmp.ne_blk hcur rfl
      have htl12 := htl'.fr hf12 fun y hy e => hRm y hy e
      have z12 := hf12.size
      obtain ⟨s1, w13, e13, hx13, s2, w14, e14, htl14, hf14, hwh⟩ := appendTl3 htl12 ls[i] (by omega) (by omega)
      have z13 := hx13.size
      have z14 := hf14.size
      have hx12 : Ext w w12 := hx9.newer hf12 fun y (hy : y = w.heap.size) => by omega
      have h38 : ∀ a, s38.a = some a → a.block ≠ w.heap.size := fun a ha e => by
        obtain ⟨cur, hcur⟩ := hi38.blk ha
        obtain ⟨l0, c0, hmp0, _⟩ := hsm.ext hx47
        rw [e] at hcur
        exact hmp0.ne_blk hcur rfl
      refine ⟨w12, hrun, s1, w13, e13, s2, w14, e14, hK _ _ ⟨S' ++ [ls[i]], Q' ++ [ls[i]], hb2, ?_, ?_, ?_, htl14, ?_, ?_, by omega, ?_, ?_⟩⟩
      · rcases hx' with h1 | h1
        · exact .inl h1
        · exact .inr (by simp [h1])
      · intro y hy
        rw [List.take_succ_eq_append_getElem hi] at hy
        rcases List.mem_append.1 hy with hy | hy
        · exact ⟨(hall y hy).1, by simp [(hall y hy).2]⟩
        · simp at hy; subst hy; exact ⟨hne, by simp⟩
      · simp at hl2 ⊢; omega
      · refine ⟨_, cc2, (hmp12.ext hx13).fr hf14 fun hy => hRm _ hy rfl, fun y => ?_⟩
        rw [mget_mput]
        by_cases e : y = ls[i]
        · simp [e]
        · rw [if_neg e, hml2]; simp [e]
      · refine (hx12.trans hx13).newer hf14 fun y hy => ?_
        have := (htl'.base hy).1
        omega
      · refine ((hi9.fr hf12 h38).ext hx13).fr hf14 fun a ha hR => hsep a ha hR
      · intro a ha hR
        rcases hwh with hwh | hwh
        · exact hsep a ha (hwh _ hR)
        · have h1 := hwh _ hR
          have h2 := (hi38.base ha).2
          omega
    · have hin : ls[i] ∈ S' := by simpa using hc
      refine hK _ _ ⟨S', Q', hb', hx', fun y hy => ?_, hmeas, htl', hsm', hx9, hz9, hi9, hsep⟩
      rw [List.take_succ_eq_append_getElem hi] at hy
      rcases List.mem_append.1 hy with hy | hy
      · exact hall y hy
      · simp at hy; subst hy; exact ⟨hne, hin⟩
  · rintro s w9 ⟨S', Q', hb', hx', hall, hmeas, htl', hsm', hx9, _, _, _⟩
    rw [n38, List.take_length] at hall
    exact ⟨2 * (6 - S'.length) + Q'.length, by simp; omega, S', Q', hb'.close fun y hy => hall y ((hstep y).1 hy), rfl, by omega, htl', hsm', hx9⟩
end
end Go.Proofs.Ytnbkihkdfhjlmaa
