/-
  Contracts: Cycle.
-/
import Derived.Test.YtnbkihkdfhjlmaaCo
import Derived.Test.YtnbkihkdfhjlmaaSc
namespace Go.Proofs.Ytnbkihkdfhjlmaa
open Go Go.VC
set_option maxHeartbeats 400000

/-- slices.IndexFunc, of a function that keeps I until it finds something, and then makes T. -/
theorem c72T {w : World} {s : Sl} {l : List Int} (hl : l.length ≤ big) (f : Nat) (cap : List Value) (hc : callable Try.prog f = true) (Q : Int → Bool) {I : World → Prop} {T : Int → World → Prop} (hI : I w) (hs : ∀ w', I w' → Ints w' s l)
    (hf : ∀ x ∈ l, ∀ w', I w' → Calls Try.prog f (Value.int .i64 x :: cap).toArray w' fun e w2 => e = .returned (.bool (Q x)) ∧ (Q x = false → I w2) ∧ (Q x = true → T x w2)) :
    Calls Try.prog 72 [.slice s.a s.n s.c, .func (.func f) #[] cap.toArray].toArray w fun e w' => e = .returned (.int .i64 (ixf Q l)) ∧
      ((∃ (i : Nat) (x : Int), l[i]? = some x ∧ Q x = true ∧ (∀ y ∈ l.take i, Q y = false) ∧ T x w') ∨ ((∀ y ∈ l, Q y = false) ∧ I w')) := by
  refine (call72 s f cap (R := fun v w' => v = .int .i64 (ixf Q l) ∧
      ((∃ (i : Nat) (x : Int), l[i]? = some x ∧ Q x = true ∧ (∀ y ∈ l.take i, Q y = false) ∧ T x w') ∨ ((∀ y ∈ l, Q y = false) ∧ I w'))) ?_).mono fun e w' ⟨v, he, hv, hx⟩ => ⟨by rw [he, hv], hx⟩
  have hn := (hs w hI).len
  refine Join.dir (rangeI (fun i w2 => (∀ y ∈ l.take i, Q y = false) ∧ I w2) (by rw [hn]; exact hl) ⟨by simp, hI⟩ ?_ ?_)
  · rintro i hi w2 ⟨hno, hI2⟩ K hK
    have hi : i < l.length := by omega
    obtain ⟨p, hp, h1, h2, hr⟩ := Ints.at (hs w2 hI2) hi
    refine ⟨p, hp, h1, h2, _, hr, ?_⟩
    rw [hc, List.singleton_append]
    refine (hf l[i] (List.getElem_mem hi) w2 hI2).mono fun e w4 ⟨he, hf0, hf1⟩ => ⟨_, he, cond_intro (fun hq => ?_) (fun hq => ?_)⟩
    · exact ⟨by rw [ixf_at (List.getElem?_eq_getElem hi) hq hno], .inl ⟨i, l[i], List.getElem?_eq_getElem hi, hq, hno, hf1 hq⟩⟩
    · refine hK _ ⟨fun y hy => ?_, hf0 hq⟩
      rw [List.take_succ_eq_append_getElem hi] at hy
      rcases List.mem_append.1 hy with hy | hy
      · exact hno y hy
      · rw [List.mem_singleton.1 hy]; exact hq
  · rintro w2 ⟨hno, hI2⟩
    rw [hn, List.take_length] at hno
    exact ⟨by rw [ixf_not hno], .inr ⟨hno, hI2⟩⟩
theorem c47T {w : World} {s : Sl} {l : List Int} (hl : l.length ≤ big) (f : Nat) (cap : List Value) (hc : callable Try.prog f = true) (Q : Int → Bool) {I : World → Prop} {T : Int → World → Prop} (hI : I w) (hs : ∀ w', I w' → Ints w' s l)
    (hf : ∀ x ∈ l, ∀ w', I w' → Calls Try.prog f (Value.int .i64 x :: cap).toArray w' fun e w2 => e = .returned (.bool (Q x)) ∧ (Q x = false → I w2) ∧ (Q x = true → T x w2)) :
    Calls Try.prog 47 [.slice s.a s.n s.c, .func (.func f) #[] cap.toArray].toArray w fun e w' => e = .returned (.bool (l.any Q)) ∧
      ((∃ (i : Nat) (x : Int), l[i]? = some x ∧ Q x = true ∧ (∀ y ∈ l.take i, Q y = false) ∧ T x w') ∨ ((∀ y ∈ l, Q y = false) ∧ I w')) := by
  refine (call47 s f cap (R := fun v w' => v = .bool (l.any Q) ∧
      ((∃ (i : Nat) (x : Int), l[i]? = some x ∧ Q x = true ∧ (∀ y ∈ l.take i, Q y = false) ∧ T x w') ∨ ((∀ y ∈ l, Q y = false) ∧ I w'))) ?_).mono fun e w' ⟨v, he, hv, hx⟩ => ⟨by rw [he, hv], hx⟩
  exact (c72T hl f cap hc Q hI hs hf).mono fun e w1 ⟨he, hx⟩ => ⟨_, he, by rw [ixf_nonneg], hx⟩
theorem callable45 : callable Try.prog 45 = true := by kernel_rfl
theorem callable48 : callable Try.prog 48 = true := by kernel_rfl

/-- An int appended; the old slice still reads. -/
theorem appendIntO {B : Nat} {w : World} {s : Sl} {l : List Int} (ho : Own 3 1 eI B w s l) (x : Int) (hl : l.length ≤ 1000000) (hB : B ≤ w.heap.size) :
    ∃ (s1 : Sl) (w1 : World), (Instr.buildSlice 24 1 [(0, .int .i64 x)].toArray).run Try.prog w = .ok (.slice s1.a s1.n s1.c) w1 ∧ Ext w w1 ∧
      ∃ (s' : Sl) (w' : World), (Builtin.append_ #[24, 24] 24 #[.slice s.a s.n s.c, .slice s1.a s1.n s1.c]).run Try.prog w1 = .ok (.slice s'.a s'.n s'.c) w' ∧ Own 3 1 eI B w' s' (l ++ [x]) ∧ Own 3 1 eI B w' s l ∧ Fr (Bl s) w1 w' ∧ ((s'.a = s.a ∧ s'.c = s.c) ∨ ∀ a, s'.a = some a → w.heap.size ≤ a.block) := by
  have hb := buildOne_run E24 (v := .int .i64 x) (vs := eI x) rfl rfl (by omega) w
  have hx := Ext.alloc w (.cells (eI x).toArray 3)
  have h2 : Sli 1 eI (w.alloc (.cells (eI x).toArray 3)) ⟨some ⟨w.heap.size, 0, none⟩, 1, 1⟩ [x] := ⟨rfl, Nat.le_refl _, fun _ => ⟨⟨w.heap.size, 0⟩, rfl, by simpa using (Blk.alloc w (eI x) 3).rd⟩⟩
  obtain ⟨s', w', hr, ho', hf⟩ := appendSli E24 (ho.ext hx) h2 eI_len eI_one (by simp; omega) (by simp [maxLen]; omega) (by have := hx.size; omega) 24
  refine ⟨⟨some ⟨w.heap.size, 0, none⟩, 1, 1⟩, _, hb, hx, s', w', hr, ho', append_old E24 (ho.ext hx) h2 eI_len eI_one (by simp; omega) (by simp [maxLen]; omega) 24 hr, hf, ?_⟩
  rcases append_where2 E24 (ho.ext hx) h2 eI_len eI_one (by simp; omega) (by simp [maxLen]; omega) 24 hr with h | h
  · exact .inl h
  · exact .inr fun a ha => Nat.le_trans hx.size (h a ha)

/-- The first cycle that begins so, n transactions being to come. -/
def grow (E : Int → Int → Bool) (l : List Int) : Nat → List Int → Option (List Int)
  | 0, c => if E (c.getLast?.getD 0) (c.head?.getD 0) then some c else none
  | n + 1, c => l.findSome? fun t => if !decide (t ∈ c) && E (c.getLast?.getD 0) t then grow E l n (c ++ [t]) else none

def capsC (pf pe pl pt : Nat) : List Value := [.pointer (some ⟨pf, 0, none⟩), .pointer (some ⟨pe, 0, none⟩), .pointer (some ⟨pl, 0, none⟩), .pointer (some ⟨pt, 0, none⟩)]
/-- The variables of Cycle, while its closure runs. -/
structure Cy (E : Int → Int → Bool) (l : List Int) (w0 : World) (b pf pe pl pt : Nat) (sl : Sl) (w : World) : Prop where
  base : Ext w0 w
  found : ∃ sf : Sl, Blk w pf [.slice sf.a sf.n sf.c] 24
  self : Blk w pt [.func (.func 45) #[] (capsC pf pe pl pt).toArray] 52
structure CyF (E : Int → Int → Bool) (l : List Int) (w0 : World) (b pf pe pl pt : Nat) (sl : Sl) : Prop where
  edge : EdgeM w0 b E
  e : Blk w0 pe [.map (some b)] 75
  lv : Blk w0 pl [.slice sl.a sl.n sl.c] 24
  li : Ints w0 sl l
  nf : w0.heap.size ≤ pf
  nt : pf ≠ pt
  len : l.length ≤ 6
theorem Cy.ext {E : Int → Int → Bool} {l : List Int} {w0 : World} {b pf pe pl pt : Nat} {sl : Sl} {w w' : World} (h : Cy E l w0 b pf pe pl pt sl w) (f : Ext w w') : Cy E l w0 b pf pe pl pt sl w' := by
  obtain ⟨sf, h1⟩ := h.found
  exact ⟨h.base.trans f, ⟨sf, h1.ext f⟩, h.self.ext f⟩

/-- The argument of the closure: a slice of its own, apart from the variables. -/
structure Arg (pf pt : Nat) (B : Nat) (w : World) (s : Sl) (c : List Int) : Prop where
  own : Own 3 1 eI B w s c
  sep : ∀ a, s.a = some a → a.block ≠ pf ∧ a.block ≠ pt
theorem Arg.ext {pf pt B : Nat} {w w' : World} {s : Sl} {c : List Int} (h : Arg pf pt B w s c) (f : Ext w w') : Arg pf pt B w' s c := ⟨h.own.ext f, h.sep⟩

/-- Inside the closure's loop. -/
structure Lp (E : Int → Int → Bool) (l : List Int) (w0 : World) (b pf pe pl pt : Nat) (sl : Sl) (w : World) (s : Sl) (c : List Int) (pc pn px : Nat) (long last : Int) (w' : World) : Prop where
  cy : Cy E l w0 b pf pe pl pt sl w'
  arg : Arg pf pt w0.heap.size w' s c
  fr : Fr (fun i => i = pf ∨ Bl s i) w w'
  c : Blk w' pc [.slice s.a s.n s.c] 24
  n : Blk w' pn [.int .i64 long] 3
  x : Blk w' px [.int .i64 last] 3
theorem Lp.ext {E : Int → Int → Bool} {l : List Int} {w0 : World} {b pf pe pl pt : Nat} {sl : Sl} {w : World} {s : Sl} {c : List Int} {pc pn px : Nat} {long last : Int} {w' w2 : World} (h : Lp E l w0 b pf pe pl pt sl w s c pc pn px long last w') (f : Ext w' w2) :
    Lp E l w0 b pf pe pl pt sl w s c pc pn px long last w2 := ⟨h.cy.ext f, h.arg.ext f, h.fr.ext f, h.c.ext f, h.n.ext f, h.x.ext f⟩

def Post45 (E : Int → Int → Bool) (l : List Int) (w0 : World) (b pf pe pl pt : Nat) (sl : Sl) (n : Nat) (c : List Int) (s : Sl) (w : World) (w' : World) : Prop :=
  Cy E l w0 b pf pe pl pt sl w' ∧ Arg pf pt w0.heap.size w' s c ∧ Fr (fun i => i = pf ∨ Bl s i) w w' ∧ (∀ r, grow E l n c = some r → ∃ sf : Sl, Blk w' pf [.slice sf.a sf.n sf.c] 24 ∧ Ints w' sf r)

theorem c45 {E : Int → Int → Bool} {l : List Int} {w0 : World} {b pf pe pl pt : Nat} {sl : Sl} (F : CyF E l w0 b pf pe pl pt sl) :
    ∀ (n : Nat) (c : List Int) (s : Sl) (w : World), c ≠ [] → c.length + n ≤ 6 → Cy E l w0 b pf pe pl pt sl w → Arg pf pt w0.heap.size w s c →
      Calls Try.prog 45 (Value.slice s.a s.n s.c :: .int .i64 ((c.length + n : Nat) : Int) :: capsC pf pe pl pt).toArray w fun ee w' =>
        ee = .returned (.bool (grow E l n c).isSome) ∧ Post45 E l w0 b pf pe pl pt sl n c s w w' := by
  intro n
  induction n with
  | zero =>
    intro c s w hne hlen hC hA
    refine (call45 s ((c.length + 0 : Nat) : Int) ⟨pf, 0⟩ ⟨pe, 0⟩ ⟨pl, 0⟩ ⟨pt, 0⟩ (R := fun v w' => v = .bool (grow E l 0 c).isSome ∧ Post45 E l w0 b pf pe pl pt sl 0 c s w w') ?_).mono fun ee w' ⟨v, he, hv, hx⟩ => ⟨by rw [he, hv], hx⟩
    have hpos : 0 < c.length := List.length_pos_iff.2 hne
    have hn := hA.own.1
    refine Let.intro fun w1 e1 => Let.intro fun w2 e2 => ?_
    have hx1 : Ext w w1 := by rw [e1]; exact Ext.alloc ..
    have hx2 : Ext w1 w2 := by rw [e2]; exact Ext.alloc ..
    have hc1 : Blk w1 w.heap.size [.slice s.a s.n s.c] 24 := by rw [e1]; exact Blk.alloc ..
    have hn2 : Blk w2 w1.heap.size [.int .i64 ((c.length + 0 : Nat) : Int)] 3 := by rw [e2]; exact Blk.alloc ..
    have hx02 := hx1.trans hx2
    have hwr : IntKind.wrap .i64 (((s.n : Nat) : Int) - 1) = ((c.length - 1 : Nat) : Int) := by rw [wrap64 (by omega) (by omega)]; omega
    obtain ⟨p, hp, h1, h2, hr⟩ := Ints.at (hA.own.sli.ext hx02) (i := c.length - 1) (by omega)
    refine ⟨s, (hc1.ext hx2).cell 0, s, (hc1.ext hx2).cell 0, p, hp, ?_⟩
    rw [hwr]
    refine ⟨h1, h2, _, hr, Let.intro fun w3 e3 => ?_⟩
    obtain ⟨hst, hb4, hx4⟩ := new_var w2 3 (z := zc Try.prog 3) (vs := [.int .i64 (c[c.length - 1]'(by omega))]) (by kernel_rfl) (by simp [Value.oneCell'])
    rw [← e3] at hst hb4 hx4
    refine ⟨hst, Let.intro fun w4 e4 => ?_⟩
    rw [← e4] at hb4 hx4
    have hx04 := hx02.trans hx4
    refine ⟨s, (hc1.ext (hx2.trans hx4)).cell 0, _, (hn2.ext hx4).cell 0, cond_intro (fun _ => ?_) (fun hc => ?_)⟩
    · obtain ⟨sf, hsf⟩ := hC.found
      have npf := hsf.lt
      have z1 := hx1.size
      have z2 := hx2.size
      have z4 := hx4.size
      refine ⟨s, (hc1.ext (hx2.trans hx4)).cell 0, (c46 (hA.own.sli.ext hx04) (by omega)).mono fun ee w5 ⟨s21, he, ho21, hx5⟩ => ⟨s21, he, ?_⟩⟩
      have hx05 := hx04.trans hx5
      have hsf5 := hsf.ext hx05
      refine ⟨hsf5.storeOk rfl (by simp [Value.oneCell']) (by simp), Let.intro fun w6 e6 => ?_⟩
      have hf6 : Fr (fun i => i = pf) w5 w6 := by rw [e6]; exact Fr.put ..
      have hb6 : Blk w6 pf [.slice s21.a s21.n s21.c] 24 := by rw [e6]; exact hsf5.put (o := 0) (vs := [.slice s21.a s21.n s21.c])
      refine Let.intro fun w7 e7 => ?_
      have hx7 : Ext w6 w7 := by rw [e7]; exact Ext.drew _
      have hbase7 : Ext w0 w7 := ((hC.base.trans hx05).newer hf6 fun i hi => by have := F.nf; omega).trans hx7
      have hlast : Blk w7 w2.heap.size [.int .i64 (c[c.length - 1]'(by omega))] 3 := ((hb4.ext hx5).fr hf6 (by omega)).ext hx7
      have hcc : Blk w7 w.heap.size [.slice s.a s.n s.c] 24 := ((hc1.ext ((hx2.trans hx4).trans hx5)).fr hf6 (by omega)).ext hx7
      have hown7 : Own 3 1 eI w0.heap.size w7 s c := ((hA.own.ext hx05).fr hf6 fun a ha h => (hA.sep a ha).1 h).ext hx7
      obtain ⟨q, hq, h1', h2', hr'⟩ := Ints.at hown7.sli (i := 0) hpos
      refine ⟨_, (F.e.ext hbase7).cell 0, _, hlast.cell 0, s, hcc.cell 0, q, hq, h1', h2', _, hr', _, (F.edge.ext hbase7).look _ _, ?_, ?_⟩
      · have hg : grow E l 0 c = if E (c[c.length - 1]'(by omega)) (c[0]'hpos) then some c else none := by
          rw [grow, List.getLast?_eq_getElem?, List.head?_eq_getElem?, List.getElem?_eq_getElem (by omega), List.getElem?_eq_getElem hpos]; rfl
        rw [hg]
        cases E (c[c.length - 1]'(by omega)) (c[0]'hpos) <;> rfl
      · have ho21' : Own 3 1 eI w4.heap.size w7 s21 c := (ho21.fr hf6 fun a ha h => by have := (ho21.base ha).1; omega).ext hx7
        refine ⟨⟨hbase7, ⟨s21, hb6.ext hx7⟩, ((hC.self.ext hx05).fr hf6 (Ne.symm F.nt)).ext hx7⟩, ⟨hown7, hA.sep⟩, ?_, fun r hr => ⟨s21, hb6.ext hx7, ?_⟩⟩
        · exact ((Ext.fr hx05 hf6).ext hx7).mono fun i _ h => .inl h
        · rw [grow] at hr
          split at hr
          · cases hr; exact ho21'.sli
          · cases hr
    · simp [hn] at hc
  | succ n ih =>
    intro c s w hne hlen hC hA
    refine (call45 s ((c.length + (n + 1) : Nat) : Int) ⟨pf, 0⟩ ⟨pe, 0⟩ ⟨pl, 0⟩ ⟨pt, 0⟩ (R := fun v w' => v = .bool (grow E l (n + 1) c).isSome ∧ Post45 E l w0 b pf pe pl pt sl (n + 1) c s w w') ?_).mono fun ee w' ⟨v, he, hv, hx⟩ => ⟨by rw [he, hv], hx⟩
    have hpos : 0 < c.length := List.length_pos_iff.2 hne
    have hn := hA.own.1
    refine Let.intro fun w1 e1 => Let.intro fun w2 e2 => ?_
    have hx1 : Ext w w1 := by rw [e1]; exact Ext.alloc ..
    have hx2 : Ext w1 w2 := by rw [e2]; exact Ext.alloc ..
    have hc1 : Blk w1 w.heap.size [.slice s.a s.n s.c] 24 := by rw [e1]; exact Blk.alloc ..
    have hn2 : Blk w2 w1.heap.size [.int .i64 ((c.length + (n + 1) : Nat) : Int)] 3 := by rw [e2]; exact Blk.alloc ..
    have hx02 := hx1.trans hx2
    have hwr : IntKind.wrap .i64 (((s.n : Nat) : Int) - 1) = ((c.length - 1 : Nat) : Int) := by rw [wrap64 (by omega) (by omega)]; omega
    obtain ⟨p, hp, h1, h2, hr⟩ := Ints.at (hA.own.sli.ext hx02) (i := c.length - 1) (by omega)
    refine ⟨s, (hc1.ext hx2).cell 0, s, (hc1.ext hx2).cell 0, p, hp, ?_⟩
    rw [hwr]
    refine ⟨h1, h2, _, hr, Let.intro fun w3 e3 => ?_⟩
    obtain ⟨hst, hb4, hx4⟩ := new_var w2 3 (z := zc Try.prog 3) (vs := [.int .i64 (c[c.length - 1]'(by omega))]) (by kernel_rfl) (by simp [Value.oneCell'])
    rw [← e3] at hst hb4 hx4
    refine ⟨hst, Let.intro fun w4 e4 => ?_⟩
    rw [← e4] at hb4 hx4
    have hx04 := hx02.trans hx4
    have n1 := hc1.lt
    have n2 := hn2.lt
    have n4 := hb4.lt
    obtain ⟨sf0, hsf0⟩ := hC.found
    have npf := hsf0.lt
    have npt := hC.self.lt
    generalize hlast : c[c.length - 1]'(by omega) = last at hb4 hr
    have hlastD : c.getLast?.getD 0 = last := by rw [List.getLast?_eq_getElem?, List.getElem?_eq_getElem (by omega), ← hlast]; rfl
    generalize hlong : ((c.length + (n + 1) : Nat) : Int) = long at hn2
    refine ⟨s, (hc1.ext (hx2.trans hx4)).cell 0, _, (hn2.ext hx4).cell 0, cond_intro (fun hc => ?_) (fun _ => ?_)⟩
    · rw [← hlong] at hc; simp [hn] at hc; omega
    have hI4 : Lp E l w0 b pf pe pl pt sl w s c w.heap.size w1.heap.size w2.heap.size long last w4 :=
      ⟨hC.ext hx04, hA.ext hx04, (Fr.mono hx04 fun _ _ h => h.elim), hc1.ext (hx2.trans hx4), hn2.ext hx4, hb4⟩
    refine ⟨sl, (F.lv.ext (hC.base.trans hx04)).cell 0, ?_⟩
    refine (c47T (l := l) (s := sl) (Nat.le_trans F.len (by decide)) 48 [.pointer (some ⟨w.heap.size, 0, none⟩), .pointer (some ⟨pe, 0, none⟩), .pointer (some ⟨w2.heap.size, 0, none⟩), .pointer (some ⟨pt, 0, none⟩), .pointer (some ⟨w1.heap.size, 0, none⟩)] callable48
      (fun t => (if !decide (t ∈ c) && E last t then grow E l n (c ++ [t]) else none).isSome)
      (I := Lp E l w0 b pf pe pl pt sl w s c w.heap.size w1.heap.size w2.heap.size long last)
      (T := fun t w' => Cy E l w0 b pf pe pl pt sl w' ∧ Arg pf pt w0.heap.size w' s c ∧ Fr (fun i => i = pf ∨ Bl s i) w w' ∧ ∀ r, grow E l n (c ++ [t]) = some r → ∃ sf : Sl, Blk w' pf [.slice sf.a sf.n sf.c] 24 ∧ Ints w' sf r)
      hI4 (fun w' h => F.li.ext h.cy.base) ?_).mono fun ee w8 ⟨he, hres⟩ => ⟨_, he, ?_⟩
    · -- one round
      intro t ht w' hI
      refine (call48 t ⟨w.heap.size, 0⟩ ⟨pe, 0⟩ ⟨w2.heap.size, 0⟩ ⟨pt, 0⟩ ⟨w1.heap.size, 0⟩ (R := fun v w2' => v = .bool ((if !decide (t ∈ c) && E last t then grow E l n (c ++ [t]) else none).isSome) ∧
        ((if !decide (t ∈ c) && E last t then grow E l n (c ++ [t]) else none).isSome = false → Lp E l w0 b pf pe pl pt sl w s c w.heap.size w1.heap.size w2.heap.size long last w2') ∧
        ((if !decide (t ∈ c) && E last t then grow E l n (c ++ [t]) else none).isSome = true → Cy E l w0 b pf pe pl pt sl w2' ∧ Arg pf pt w0.heap.size w2' s c ∧ Fr (fun i => i = pf ∨ Bl s i) w w2' ∧ ∀ r, grow E l n (c ++ [t]) = some r → ∃ sf : Sl, Blk w2' pf [.slice sf.a sf.n sf.c] 24 ∧ Ints w2' sf r)) ?_).mono fun ee w2' ⟨v, he, hv, hx⟩ => ⟨by rw [he, hv], hx⟩
      refine Join.dir ?_
      refine ⟨Lp E l w0 b pf pe pl pt sl w s c w.heap.size w1.heap.size w2.heap.size long last, hI.ext (Ext.drew _), Let.intro fun wd ed => ?_⟩
      have hId : Lp E l w0 b pf pe pl pt sl w s c w.heap.size w1.heap.size w2.heap.size long last wd := by rw [ed]; exact hI.ext (Ext.drew _)
      refine ⟨s, fun u hu => hu.c.cell 0, ?_⟩
      refine (c28 hId.arg.own.sli t (Nat.le_trans (show c.length ≤ 6 by omega) (by decide))).mono fun ee w3' ⟨he, hx3⟩ => ⟨_, he, hId.ext hx3, ?_⟩
      have hI3 := hId.ext hx3
      refine cond_intro (fun hnot => ?_) (fun hin => ?_)
      · refine ⟨_, fun u hu => (F.e.ext hu.cy.base).cell 0, _, fun u hu => hu.x.cell 0, _, fun u hu => (F.edge.ext hu.cy.base).look _ _, cond_intro (fun hE => ?_) (fun hE => ?_)⟩
        · -- the call
          have hcond : (!decide (t ∈ c) && E last t) = true := by rw [hnot, hE]; rfl
          rw [if_pos hcond]
          have hsz3 : w.heap.size ≤ w3'.heap.size := hI3.fr.size
          obtain ⟨s23, w4', e4', hx4', s24, w5', e5', ho24, hold, hf5, hwh⟩ := appendIntO hI3.arg.own t (by omega) (hI3.cy.base.size)
          have hself3 := hI3.cy.self.ext hx4'
          have hnb : ∀ i, w.heap.size ≤ i → ¬ Bl s i := fun i hi ⟨a, ha, hb⟩ => by have := (hA.own.base ha).2; omega
          obtain ⟨sf3, hsf3⟩ := hI3.cy.found
          have hC5 : Cy E l w0 b pf pe pl pt sl w5' := ⟨(hI3.cy.base.trans hx4').newer hf5 fun i ⟨a, ha, hb⟩ => by have := (hI3.arg.own.base ha).1; omega,
            ⟨sf3, (hsf3.ext hx4').fr hf5 fun ⟨a, ha, hb⟩ => (hI3.arg.sep a ha).1 hb⟩, hself3.fr hf5 fun ⟨a, ha, hb⟩ => (hI3.arg.sep a ha).2 hb⟩
          have hI5 : Lp E l w0 b pf pe pl pt sl w s c w.heap.size w1.heap.size w2.heap.size long last w5' :=
            ⟨hC5, ⟨hold, hI3.arg.sep⟩, (hI3.fr.ext hx4').trans hf5 fun i _ h => .inr h, (hI3.c.ext hx4').fr hf5 (hnb _ (Nat.le_refl _)), (hI3.n.ext hx4').fr hf5 (hnb _ (by omega)), (hI3.x.ext hx4').fr hf5 (hnb _ (by omega))⟩
          have hA5 : Arg pf pt w0.heap.size w5' s24 (c ++ [t]) := ⟨ho24, fun a ha => by
            rcases hwh with hw | hw
            · rw [hw.1] at ha; exact hI3.arg.sep a ha
            · have := hw a ha; omega⟩
          refine ⟨45, capsC pf pe pl pt, fun u hu => hu.cy.self.cell 0, s, fun u hu => hu.c.cell 0, long, fun u hu => hu.n.cell 0, s23, w4', e4', hI3.ext hx4', s24, w5', e5', hI5, ?_⟩
          rw [callable45]
          have hlg : ((((c ++ [t]).length + n : Nat)) : Int) = long := by rw [← hlong]; simp; omega
          have hcall := ih (c ++ [t]) s24 w5' (by simp) (by simp; omega) hC5 hA5
          rw [hlg] at hcall
          refine hcall.mono fun ee w6' ⟨he, hC6, hA6, hf6, hg6⟩ => ⟨_, he, ?_⟩
          -- what holds behind the call
          have hown6 : Own 3 1 eI w0.heap.size w6' s c := by
            rcases hwh with hw | hw
            · have := Own.trunc (m := c.length) eI_len hA6.own (by simp)
              rw [hw.1, hw.2] at this
              have e1 : (⟨s.a, c.length, s.c⟩ : Sl) = s := by
                have := hn
                cases s; simp_all
              rw [e1] at this
              simpa using this
            · refine hold.fr hf6 fun a ha h => ?_
              rcases h with h | ⟨a', ha', h⟩
              · exact (hI3.arg.sep a ha).1 h
              · have := hw a' ha'
                have := (hI3.arg.own.base ha).2
                omega
          have hfr6 : Fr (fun i => i = pf ∨ Bl s i) w w6' := hI5.fr.trans hf6 fun i hi h => by
            rcases h with h | ⟨a', ha', h⟩
            · exact .inl h
            · rcases hwh with hw | hw
              · rw [hw.1] at ha'; exact .inr ⟨a', ha', h⟩
              · have := hw a' ha'; omega
          have hno : ∀ i, w.heap.size ≤ i → i < w3'.heap.size → i ≠ pf → ¬ (i = pf ∨ Bl s24 i) := fun i h1 h2 h3 h => by
            rcases h with h | ⟨a', ha', h⟩
            · exact h3 h
            · rcases hwh with hw | hw
              · rw [hw.1] at ha'; exact hnb i h1 ⟨a', ha', h⟩
              · have := hw a' ha'; omega
          have hLp6 : Lp E l w0 b pf pe pl pt sl w s c w.heap.size w1.heap.size w2.heap.size long last w6' :=
            ⟨hC6, ⟨hown6, hI3.arg.sep⟩, hfr6, hI5.c.fr hf6 (hno _ (Nat.le_refl _) hI3.c.lt (by omega)), hI5.n.fr hf6 (hno _ (by omega) hI3.n.lt (by omega)), hI5.x.fr hf6 (hno _ (by omega) hI3.x.lt (by omega))⟩
          exact ⟨hLp6, rfl, fun _ => hLp6, fun _ => ⟨hC6, ⟨hown6, hI3.arg.sep⟩, hfr6, hg6⟩⟩
        · have hcond : ¬ (!decide (t ∈ c) && E last t) = true := by rw [hE]; simp
          rw [if_neg hcond]
          exact ⟨rfl, fun _ => hI3, fun h => by cases h⟩
      · have hcond : ¬ (!decide (t ∈ c) && E last t) = true := by rw [hin]; simp
        rw [if_neg hcond]
        exact ⟨rfl, fun _ => hI3, fun h => by cases h⟩
    · -- the result
      have hgrow : grow E l (n + 1) c = l.findSome? fun t => if !decide (t ∈ c) && E last t then grow E l n (c ++ [t]) else none := by rw [grow, hlastD]
      rcases hres with ⟨i, t, hi, hq, hno, hC8, hA8, hf8, hg8⟩ | ⟨hno, hI8⟩
      · obtain ⟨r, hr'⟩ := Option.isSome_iff_exists.1 hq
        have hcond : (!decide (t ∈ c) && E last t) = true := by
          by_cases h : (!decide (t ∈ c) && E last t) = true
          · exact h
          · rw [if_neg h] at hr'; cases hr'
        have hg : grow E l (n + 1) c = some r := by
          rw [hgrow]
          refine findSome_take (fun y hy => ?_) hi hr'
          have := hno y hy
          exact Option.not_isSome_iff_eq_none.1 (by rw [this]; simp)
        rw [if_pos hcond] at hr'
        have hany : l.any (fun t => (if !decide (t ∈ c) && E last t then grow E l n (c ++ [t]) else none).isSome) = true := List.any_eq_true.2 ⟨t, List.mem_of_getElem? hi, hq⟩
        refine ⟨by rw [hany, hg]; rfl, hC8, hA8, hf8, fun r' h => ?_⟩
        rw [hg] at h
        cases h
        exact hg8 r hr'
      · have hg : grow E l (n + 1) c = none := by
          rw [hgrow]
          exact List.findSome?_eq_none_iff.2 fun y hy => Option.not_isSome_iff_eq_none.1 (by rw [hno y hy]; simp)
        have hany : l.any (fun t => (if !decide (t ∈ c) && E last t then grow E l n (c ++ [t]) else none).isSome) = false := List.any_eq_false.2 fun y hy => by rw [hno y hy]; simp
        refine ⟨by rw [hany, hg]; rfl, hI8.cy, hI8.arg, hI8.fr, fun r h => ?_⟩
        rw [hg] at h; cases h
end Go.Proofs.Ytnbkihkdfhjlmaa
