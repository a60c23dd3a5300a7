/-
  Contracts: copies of facts and atoms; equality of facts; the facts and the rules handed to the program.
-/
import Derived.Test.YtoljknamnkkgcaaCn
import Derived.Test.YtoljknamnkkgcaaSd
namespace Go.Proofs.Ytoljknamnkkgcaa
open Go Go.VC
set_option maxHeartbeats 1000000
set_option maxRecDepth 100000

/-! ### ints in a block of ints -/
structure TI (w : World) (s : Sl) (l : List Int) : Prop where
  i : Ints w s l
  t : ∀ a, s.a = some a → ∃ cur, Blk w a.block cur 3
theorem TI.fr {M : Nat → Prop} {w w' : World} {s : Sl} {l : List Int} (h : TI w s l) (f : Fr M w w') (hM : ∀ q cur, Blk w q cur 3 → ¬ M q) : TI w' s l := by
  have hn : ∀ a, s.a = some a → ¬ M a.block := fun a ha => by obtain ⟨cur, hc⟩ := h.t a ha; exact hM _ _ hc
  exact ⟨Sli.fr h.i f hn, fun a ha => by obtain ⟨cur, hc⟩ := h.t a ha; exact ⟨cur, hc.fr f (hn a ha)⟩⟩
theorem TI.ext {w w' : World} {s : Sl} {l : List Int} (h : TI w s l) (x : Ext w w') : TI w' s l := h.fr x fun _ _ _ h => h
theorem Own.ti {B : Nat} {w : World} {s : Sl} {l : List Int} (h : Own 3 1 eI B w s l) : TI w s l := ⟨h.sli, fun a ha => h.blk ha⟩
theorem c64 {w : World} {s : Sl} {l : List Int} (hs : Ints w s l) (hl : l.length ≤ 1000000) :
    Calls Try.prog 64 [.slice s.a s.n s.c].toArray w fun e w' => ∃ s' : Sl, e = .returned (.slice s'.a s'.n s'.c) ∧ Own 3 1 eI w.heap.size w' s' l ∧ Ext w w' := by
  refine (call64 s (R := fun v w' => ∃ s' : Sl, v = .slice s'.a s'.n s'.c ∧ Own 3 1 eI w.heap.size w' s' l ∧ Ext w w') ?_).mono fun e w' ⟨v, he, s', hv, h1, h2⟩ => ⟨s', by rw [he, hv], h1, h2⟩
  refine cond_intro (fun h => ?_) (fun h => ?_)
  · have hn : l = [] := by
      rcases Classical.em (l = []) with h' | h'
      · exact h'
      · obtain ⟨p, hp, _⟩ := hs.mem h'; rw [hp] at h; cases h
    subst hn
    exact ⟨⟨none, 0, 0⟩, rfl, Own.nil .., Fr.refl _ w⟩
  · have hx := Ext.alloc w (.cells #[] 3)
    refine ⟨⟨some ⟨w.heap.size, 0, none⟩, 0, 0⟩, _, buildNone_run E34 w, ?_⟩
    obtain ⟨s', w', hrun, ho', hf⟩ := appendSli E34 (Own.empty w) (hs.ext hx) eI_len eI_one (by simp; omega) (by simp [maxLen]; omega) (by simp) 34
    exact ⟨s', w', hrun, s', rfl, by simpa using ho', hx.newer hf fun b ⟨a, ha, hb⟩ => by cases ha; simp at hb; omega⟩
def cut (n : Nat) (f : Fa) : Fa := ⟨f.rel, f.args.take n⟩
theorem minN {n m : Nat} : (if (n : Int) < (m : Int) then (n : Int) else (m : Int)) = ((min n m : Nat) : Int) := by split <;> omega
/-- The first few numbers of a slice, copied. -/
theorem c59 {w : World} {s : Sl} {l : List Int} (hs : Ints w s l) :
    Calls Try.prog 59 [.slice s.a s.n s.c].toArray w fun e w' => ∃ s' : Sl, e = .returned (.slice s'.a s'.n s'.c) ∧ Own 3 1 eI w.heap.size w' s' (l.take 9) ∧ Ext w w' := by
  refine (call59 s (R := fun v w' => ∃ s' : Sl, v = .slice s'.a s'.n s'.c ∧ Own 3 1 eI w.heap.size w' s' (l.take 9) ∧ Ext w w') ?_).mono fun e w' ⟨v, he, s', hv, h1, h2⟩ => ⟨s', by rw [he, hv], h1, h2⟩
  have hn := hs.len
  have hc := hs.cap
  unfold S59
  rw [show (if (9 : Int) < ((s.n : Nat) : Int) then (9 : Int) else ((s.n : Nat) : Int)) = ((min 9 s.n : Nat) : Int) from minN (n := 9)]
  have ht := Sli.take hs (m := min 9 s.n) (by omega)
  have e9 : l.take (min 9 s.n) = l.take 9 := by rw [hn]; simp [List.take_eq_take_iff]
  rw [e9] at ht
  refine ⟨by omega, by omega, (c64 ht (by simp; omega)).mono fun e w1 ⟨s', he, ho, hx⟩ => ⟨s', he, s', rfl, ho, hx⟩⟩
theorem zc48 : (zc Try.prog 48).size = 2 := by kernel_rfl
/-- atom(a): an atom copied, at most five Args. -/
theorem cutW {w : World} {x : DF} {T1 T2 : TypeId} (hz : (zc Try.prog T2).size = 2) (hx : Ints w x.sl x.args) {R : Value → World → Prop}
    (hR : ∀ (y : DF) (w' : World), y.p = cut 5 x.p → TI w' y.sl y.args → (∀ a, y.sl.a = some a → w.heap.size ≤ a.block) → Ext w w' → R (.agg [.int .i64 y.rel, .slice y.sl.a y.sl.n y.sl.c].toArray) w') :
    Let (w.alloc (.cells [(.int .i64 x.rel), (.slice x.sl.a x.sl.n x.sl.c)].toArray T1)) fun w1 =>
    Let (w1.alloc (.cells (zc Try.prog T2) T2)) fun w2 =>
    ∃ S1 : World → Prop, S1 w2.drew ∧ Let w2.drew fun w3 =>
    ∃ x4 : Int, (∀ u, S1 u → World.cell? u ⟨w.heap.size, (0 + 0), none⟩ = some (.int .i64 x4)) ∧ ∃ s6 : Sl, (∀ u, S1 u → World.cell? u ⟨w.heap.size, (0 + 1), none⟩ = some (.slice s6.a s6.n s6.c)) ∧ ∃ s8 : Sl, (∀ u, S1 u → World.cell? u ⟨w.heap.size, (0 + 1), none⟩ = some (.slice s8.a s8.n s8.c)) ∧ 0 ≤ (if (5 : Int) < ((s8.n : Nat) : Int) then (5 : Int) else ((s8.n : Nat) : Int)) ∧ (if (5 : Int) < ((s8.n : Nat) : Int) then (5 : Int) else ((s8.n : Nat) : Int)) ≤ ((s6.c : Nat) : Int) ∧ Calls Try.prog 64 [(.slice s6.a (Int.toNat (if (5 : Int) < ((s8.n : Nat) : Int) then (5 : Int) else ((s8.n : Nat) : Int))) s6.c)].toArray w3 (fun e w4 => ∃ s12 : Sl, e = .returned (.slice s12.a s12.n s12.c) ∧
    S1 w4 ∧ StoreOk w4 w1.heap.size 0 [(.int .i64 x4), (.slice s12.a s12.n s12.c)] 2 ∧ Let (put w4 w1.heap.size 0 [(.int .i64 x4), (.slice s12.a s12.n s12.c)]) fun w5 =>
    ∃ xr2_0 : Int, ∃ sr2_1 : Sl, rd w5 w1.heap.size 0 [(.int .i64 xr2_0), (.slice sr2_1.a sr2_1.n sr2_1.c)] ∧ R (.agg [(.int .i64 xr2_0), (.slice sr2_1.a sr2_1.n sr2_1.c)].toArray) w5) := by
  have hn := hx.len
  have hc := hx.cap
  obtain ⟨b1, x1⟩ := eF_cells w x T1
  refine Let.intro fun w1 e1 => ?_
  have e1 : w1 = w.alloc (.cells (eF x).toArray T1) := e1
  rw [← e1] at b1 x1
  refine Let.intro fun w2 e2 => ?_
  have b2 : Blk w2 w1.heap.size (zc Try.prog T2).toList T2 := by rw [e2]; simpa using Blk.alloc w1 (zc Try.prog T2).toList T2
  have x2 : Ext w1 w2 := by rw [e2]; exact Ext.alloc ..
  have b1 := b1.ext x2
  refine ⟨fun u => Ext w2 u, Ext.drew _, Let.intro fun w3 e3 => ?_⟩
  have x3 : Ext w2 w3 := by rw [e3]; exact Ext.drew _
  refine ⟨x.rel, fun u hu => (b1.ext hu).cell 0, x.sl, fun u hu => (b1.ext hu).cell 1, x.sl, fun u hu => (b1.ext hu).cell 1, ?_⟩
  rw [show (if (5 : Int) < ((x.sl.n : Nat) : Int) then (5 : Int) else ((x.sl.n : Nat) : Int)) = ((min 5 x.sl.n : Nat) : Int) from minN (n := 5)]
  have x03 := (x1.trans x2).trans x3
  have ht := Sli.take (hx.ext x03) (m := min 5 x.sl.n) (by omega)
  have e9 : x.args.take (min 5 x.sl.n) = x.args.take 5 := by rw [hn]; simp [List.take_eq_take_iff]
  rw [e9] at ht
  refine ⟨by omega, by omega, (c64 ht (by simp; omega)).mono fun e w4 ⟨s', he, ho, x4⟩ => ⟨s', he, x3.trans x4, ?_⟩⟩
  obtain ⟨p1, p2, p3⟩ := blk_all (b2.ext (x3.trans x4)) (vs := [.int .i64 x.rel, .slice s'.a s'.n s'.c]) (by simp [hz]) (by intro v hv; simp at hv; rcases hv with rfl | rfl <;> rfl)
  refine ⟨p1, Let.intro fun w5 e5 => ?_⟩
  rw [← e5] at p2 p3
  have z3 := x03.size
  have z1 := x1.size
  have z2 : w1.heap.size < w3.heap.size := Nat.lt_of_lt_of_le b2.lt x3.size
  have hnb : ∀ a, s'.a = some a → ¬ a.block = w1.heap.size := fun a ha e => by have := (ho.base ha).1; omega
  exact ⟨x.rel, s', p2.rd, hR ⟨x.rel, s', x.args.take 5⟩ w5 rfl (Own.ti (ho.fr p3 hnb)) (fun a ha => by have := (ho.base ha).1; omega) ((x03.trans x4).newer p3 fun y (hy : y = w1.heap.size) => by omega)⟩
theorem c58 {w : World} {x : DF} (hx : Ints w x.sl x.args) :
    Calls Try.prog 58 [.agg [.int .i64 x.rel, .slice x.sl.a x.sl.n x.sl.c].toArray].toArray w fun e w' => ∃ y : DF, e = .returned (.agg [.int .i64 y.rel, .slice y.sl.a y.sl.n y.sl.c].toArray) ∧ y.p = cut 5 x.p ∧ TI w' y.sl y.args ∧ (∀ a, y.sl.a = some a → w.heap.size ≤ a.block) ∧ Ext w w' := by
  refine (call58 x.rel x.sl (R := fun v w' => ∃ y : DF, v = (.agg [.int .i64 y.rel, .slice y.sl.a y.sl.n y.sl.c].toArray) ∧ y.p = cut 5 x.p ∧ TI w' y.sl y.args ∧ (∀ a, y.sl.a = some a → w.heap.size ≤ a.block) ∧ Ext w w') ?_).mono fun e w' ⟨v, he, y, hv, hx⟩ => ⟨y, by rw [he, hv], hx⟩
  exact cutW (T1 := 91) zc48 hx (R := fun v w' => ∃ y : DF, v = (.agg [.int .i64 y.rel, .slice y.sl.a y.sl.n y.sl.c].toArray) ∧ y.p = cut 5 x.p ∧ TI w' y.sl y.args ∧ (∀ a, y.sl.a = some a → w.heap.size ≤ a.block) ∧ Ext w w') fun y w' h1 h2 h3 h4 => ⟨y, rfl, h1, h2, h3, h4⟩
theorem c23 {w : World} {x : DF} (hx : Ints w x.sl x.args) :
    Calls Try.prog 23 [.agg [.int .i64 x.rel, .slice x.sl.a x.sl.n x.sl.c].toArray].toArray w fun e w' => ∃ y : DF, e = .returned (.agg [.int .i64 y.rel, .slice y.sl.a y.sl.n y.sl.c].toArray) ∧ y.p = cut 5 x.p ∧ TI w' y.sl y.args ∧ (∀ a, y.sl.a = some a → w.heap.size ≤ a.block) ∧ Ext w w' := by
  refine (call23 x.rel x.sl (R := fun v w' => ∃ y : DF, v = (.agg [.int .i64 y.rel, .slice y.sl.a y.sl.n y.sl.c].toArray) ∧ y.p = cut 5 x.p ∧ TI w' y.sl y.args ∧ (∀ a, y.sl.a = some a → w.heap.size ≤ a.block) ∧ Ext w w') ?_).mono fun e w' ⟨v, he, y, hv, hx⟩ => ⟨y, by rw [he, hv], hx⟩
  exact cutW (T1 := 36) zc36 hx (R := fun v w' => ∃ y : DF, v = (.agg [.int .i64 y.rel, .slice y.sl.a y.sl.n y.sl.c].toArray) ∧ y.p = cut 5 x.p ∧ TI w' y.sl y.args ∧ (∀ a, y.sl.a = some a → w.heap.size ≤ a.block) ∧ Ext w w') fun y w' h1 h2 h3 h4 => ⟨y, rfl, h1, h2, h3, h4⟩
/-! ### equality -/
theorem c32 {w : World} {s s' : Sl} {l l' : List Int} (hs : Ints w s l) (hs' : Ints w s' l') (hl : l.length ≤ big) :
    Calls Try.prog 32 [.slice s.a s.n s.c, .slice s'.a s'.n s'.c].toArray w fun e w' => e = .returned (.bool (decide (l = l'))) ∧ Ext w w' := by
  refine (call32 s s' (R := fun v w' => v = .bool (decide (l = l')) ∧ Ext w w') ?_).mono fun e w' ⟨v, he, hv, hx⟩ => ⟨by rw [he, hv], hx⟩
  have h1 := hs.len
  have h2 := hs'.len
  refine cond_intro (fun h => ?_) (fun h => ?_)
  · have h : ¬ l = l' := by rintro rfl; simp [h1, h2] at h
    exact ⟨by simp [h], Fr.refl _ w⟩
  · have h : l.length = l'.length := by simp at h; omega
    refine Join.dir (rangeI (fun i w2 => l.take i = l'.take i ∧ Ext w w2) (by rw [hs.len]; exact hl) ⟨by simp, Fr.refl _ w⟩ ?_ ?_)
    · rintro i hi w2 ⟨hn, hx⟩ K hK
      have hi : i < l.length := by omega
      have hi' : i < l'.length := by omega
      refine Let.intro fun w4 e4 => ?_
      have hx4 : Ext w w4 := by rw [e4]; exact hx.trans (Ext.drew _)
      obtain ⟨p, hp, h1, h2, hr⟩ := Ints.at (hs.ext hx4) hi
      obtain ⟨p', hp', h1', h2', hr'⟩ := Ints.at (hs'.ext hx4) hi'
      refine ⟨p, hp, h1, h2, _, hr, p', hp', h1', h2', _, hr', cond_intro (fun hc => ?_) (fun hc => ?_)⟩
      · have h : ¬ l[i] = l'[i] := by simpa using hc
        exact ⟨by simp; rintro rfl; exact h rfl, hx4⟩
      · have h : l[i] = l'[i] := by simpa using hc
        exact hK _ ⟨by rw [List.take_succ_eq_append_getElem hi, List.take_succ_eq_append_getElem hi', hn, h], hx4⟩
    · rintro w2 ⟨hn, hx⟩
      rw [hs.len, List.take_length, h, List.take_length] at hn
      exact ⟨by simp [hn], hx⟩
theorem callable61 : callable Try.prog 61 = true := by kernel_rfl
theorem c61 {w : World} {x y : DF} (hx : Ints w x.sl x.args) (hy : Ints w y.sl y.args) (hl : x.args.length ≤ big) :
    Calls Try.prog 61 [.agg [.int .i64 x.rel, .slice x.sl.a x.sl.n x.sl.c].toArray, .agg [.int .i64 y.rel, .slice y.sl.a y.sl.n y.sl.c].toArray].toArray w fun e w' => e = .returned (.bool (decide (x.p = y.p))) ∧ Ext w w' := by
  refine (call61 x.rel x.sl y.rel y.sl (R := fun v w' => v = .bool (decide (x.p = y.p)) ∧ Ext w w') ?_).mono fun e w' ⟨v, he, hv, hx⟩ => ⟨by rw [he, hv], hx⟩
  obtain ⟨b1, x1⟩ := eF_cells w x 36
  refine Let.intro fun w1 e1 => ?_
  have e1 : w1 = w.alloc (.cells (eF x).toArray 36) := e1
  rw [← e1] at b1 x1
  obtain ⟨b2, x2⟩ := eF_cells w1 y 36
  refine Let.intro fun w2 e2 => ?_
  have e2 : w2 = w1.alloc (.cells (eF y).toArray 36) := e2
  rw [← e2] at b2 x2
  have b1 := b1.ext x2
  have x12 := x1.trans x2
  refine Join.dir ⟨_, b1.cell 0, _, b2.cell 0, cond_intro (fun g => ?_) (fun g => ?_)⟩
  · have g : x.rel = y.rel := by simpa using g
    refine ⟨_, b1.cell 1, _, b2.cell 1, (c32 (hx.ext x12) (hy.ext x12) hl).mono fun e w4 ⟨he, x4⟩ => ⟨_, he, ?_, x12.trans x4⟩⟩
    congr 1
    apply decide_eq_decide.2
    simp [DF.p, g]
  · have g : ¬ x.rel = y.rel := by simpa using g
    exact ⟨by simp [DF.p, g], x12⟩
/-- Two lists of facts are equal. -/
theorem c21 {w : World} {s s' : Sl} {l l' : List DF} (hs : NF w s l) (hs' : NF w s' l') (hl : l.length ≤ big) (ha : ∀ x ∈ l, x.args.length ≤ big) :
    Calls Try.prog 21 [.slice s.a s.n s.c, .slice s'.a s'.n s'.c].toArray w fun e w' => e = .returned (.bool (decide (l.map DF.p = l'.map DF.p))) ∧ Ext w w' := by
  refine (call21 s s' (R := fun v w' => v = .bool (decide (l.map DF.p = l'.map DF.p)) ∧ Ext w w') ?_).mono fun e w' ⟨v, he, hv, hx⟩ => ⟨by rw [he, hv], hx⟩
  have h1 := hs.len
  have h2 := hs'.len
  refine (call60 s s' 61 [] (R := fun v w' => v = .bool (decide (l.map DF.p = l'.map DF.p)) ∧ Ext w w') ?_).mono fun e w' ⟨v, he, hv, hx⟩ => ⟨_, by rw [he, hv], rfl, hx⟩
  refine cond_intro (fun h => ?_) (fun h => ?_)
  · have h : ¬ l.map DF.p = l'.map DF.p := by
      intro e
      have := congrArg List.length e
      simp at this
      simp [h1, h2, this] at h
    exact ⟨by simp [h], Fr.refl _ w⟩
  · have h : l.length = l'.length := by simp at h; omega
    refine Join.dir (rangeI (fun i w2 => (l.take i).map DF.p = (l'.take i).map DF.p ∧ Ext w w2) (by rw [h1]; exact hl) ⟨by simp, Fr.refl _ w⟩ ?_ ?_)
    · rintro i hi w2 ⟨hn, hx⟩ K hK
      have hi : i < l.length := by omega
      have hi' : i < l'.length := by omega
      refine loadF (hs.ext hx) hi zc36 fun w5 b5 x5 => ?_
      refine loadF ((hs'.ext hx).ext x5) hi' zc36 fun w7 b7 x7 => ?_
      refine ⟨_, _, (b5.ext x7).rd, _, _, b7.rd, ?_⟩
      have x27 := (hx.trans x5).trans x7
      rw [callable61]
      refine (c61 ((hs.ok _ (List.getElem_mem hi)).ext x27) ((hs'.ok _ (List.getElem_mem hi')).ext x27) (ha _ (List.getElem_mem hi))).mono fun e w8 ⟨he, x8⟩ => ⟨_, he, cond_intro (fun g => ?_) (fun g => ?_)⟩
      · have g : ¬ (l[i]).p = (l'[i]).p := by simpa using g
        refine ⟨?_, x27.trans x8⟩
        have : ¬ l.map DF.p = l'.map DF.p := fun e => g (by
          have h3 : (l.map DF.p)[i]'(by simpa using hi) = (l'.map DF.p)[i]'(by simpa using hi') := by simp only [e]
          simpa using h3)
        simp [this]
      · have g : (l[i]).p = (l'[i]).p := by simpa using g
        refine hK _ ⟨?_, x27.trans x8⟩
        rw [List.take_succ_eq_append_getElem hi, List.take_succ_eq_append_getElem hi', List.map_append, List.map_append, hn]
        simp [g]
    · rintro w2 ⟨hn, hx⟩
      rw [h1, List.take_length, h, List.take_length] at hn
      exact ⟨by simp [hn], hx⟩
/-- Facts, copied. -/
def factsC (l : List Fa) : List Fa := (l.take 26).map (cut 9)
theorem c18 {w : World} {s : Sl} {l : List DF} (hs : NF w s l) (hl : l.length ≤ big) :
    Calls Try.prog 18 [.slice s.a s.n s.c].toArray w fun e w' => ∃ (s' : Sl) (L : List DF), e = .returned (.slice s'.a s'.n s'.c) ∧ Own 36 2 eF w.heap.size w' s' L ∧ (∀ x ∈ L, TI w' x.sl x.args) ∧ L.map DF.p = factsC (l.map DF.p) ∧ Ext w w' := by
  refine (call18 s (R := fun v w' => ∃ (s' : Sl) (L : List DF), v = (.slice s'.a s'.n s'.c) ∧ Own 36 2 eF w.heap.size w' s' L ∧ (∀ x ∈ L, TI w' x.sl x.args) ∧ L.map DF.p = factsC (l.map DF.p) ∧ Ext w w') ?_).mono fun e w' ⟨v, he, s', L, hv, hx⟩ => ⟨s', L, by rw [he, hv], hx⟩
  have hn := hs.len
  refine ⟨fun s3 w1 => ∃ L : List DF, Own 36 2 eF w.heap.size w1 s3 L ∧ (∀ x ∈ L, TI w1 x.sl x.args) ∧ L.map DF.p = factsC (l.map DF.p) ∧ Ext w w1, ?_, ?_⟩
  · rintro s3 w1 ⟨L, h1, h2, h3, h4⟩; exact ⟨s3, L, rfl, h1, h2, h3, h4⟩
  refine rangeSI (fun i (s3 : Sl) w1 => ∃ L : List DF, Own 36 2 eF w.heap.size w1 s3 L ∧ (∀ x ∈ L, TI w1 x.sl x.args) ∧ i ≤ 26 ∧ L.map DF.p = (l.take i).map (fun x => cut 9 x.p) ∧ Ext w w1) (by rw [hn]; exact hl) ⟨[], Own.nil .., by simp, by omega, by simp, Fr.refl _ _⟩ ?_ ?_
  · rintro i hi s3 w2 ⟨L, ho, hti, hi26, hLp, x2⟩ K hK
    have hi : i < l.length := by omega
    refine loadF (hs.ext x2) hi zc36 fun w5 b5 x5 => cond_intro (fun g => ?_) (fun g => ?_)
    · have g : i = 26 := by simp at g; omega
      refine ⟨L, ho.ext x5, fun x hx => (hti x hx).ext x5, ?_, x2.trans x5⟩
      rw [hLp, g]; simp [factsC, List.map_take]; rfl
    have g : i < 26 := by simp at g; omega
    refine ⟨fun u => Fr (BlS s3) w5 u, Fr.mono (Ext.drew _) fun _ _ h => h.elim, Let.intro fun w6 e6 => ?_⟩
    have x6 : Ext w5 w6 := by rw [e6]; exact Ext.drew _
    have hno : ¬ BlS s3 w2.heap.size := fun ⟨a, ha, e⟩ => by have := (ho.base ha).2; omega
    refine ⟨_, fun u hu => (b5.fr hu hno).cell 0, _, fun u hu => (b5.fr hu hno).cell 1, ?_⟩
    have x26 := (x2.trans x5).trans x6
    refine (c59 ((hs.ok _ (List.getElem_mem hi)).ext x26)).mono fun e w7 ⟨s7, he, ho7, x7⟩ => ⟨s7, he, (x6.trans x7).mono fun _ _ h => h.elim, ?_⟩
    have hLl : L.length ≤ 26 := by have := congrArg List.length hLp; simp at this; omega
    have x57 := (x5.trans x6).trans x7
    have ho' := ho.ext x57
    have hb := buildOne_run E23 (v := .agg [.int .i64 (l[i]).rel, .slice s7.a s7.n s7.c].toArray) (vs := eF ⟨(l[i]).rel, s7, (l[i]).args.take 9⟩) rfl rfl (by omega) w7
    have x8 := Ext.alloc w7 (.cells (eF ⟨(l[i]).rel, s7, (l[i]).args.take 9⟩).toArray 36)
    have hs8 : Sli 2 eF (w7.alloc (.cells (eF ⟨(l[i]).rel, s7, (l[i]).args.take 9⟩).toArray 36)) ⟨some ⟨w7.heap.size, 0, none⟩, 1, 1⟩ [⟨(l[i]).rel, s7, (l[i]).args.take 9⟩] := ⟨rfl, Nat.le_refl _, fun _ => ⟨⟨w7.heap.size, 0⟩, rfl, by simpa using (Blk.alloc w7 (eF ⟨(l[i]).rel, s7, (l[i]).args.take 9⟩) 36).rd⟩⟩
    obtain ⟨s9, w9, hr9, ho9, hf9⟩ := appendSli E23 (ho'.ext x8) hs8 eF_len eF_one (by simp; omega) (by simp [maxLen]; omega) (by have := x2.size; have := x57.size; have := x8.size; omega) 23
    refine ⟨⟨some ⟨w7.heap.size, 0, none⟩, 1, 1⟩, _, hb, ((x6.trans x7).trans x8).mono fun _ _ h => h.elim, s9, w9, hr9, ((x6.trans x7).trans x8).fr hf9, hK _ _ ⟨L ++ [⟨(l[i]).rel, s7, (l[i]).args.take 9⟩], ho9, fun x hx => ?_, by omega, ?_, ?_⟩⟩
    · have hxt : TI (w7.alloc (.cells (eF ⟨(l[i]).rel, s7, (l[i]).args.take 9⟩).toArray 36)) x.sl x.args := by
        rcases List.mem_append.1 hx with hx | hx
        · exact ((hti x hx).ext x57).ext x8
        · simp only [List.mem_singleton] at hx; subst hx; exact (Own.ti ho7).ext x8
      exact hxt.fr hf9 fun q cur hq ⟨a, ha, e⟩ => by
        obtain ⟨cur', hc'⟩ := (ho'.ext x8).blk ha
        rw [e] at hc'
        exact Blk.ne_ty hq hc' (by decide) rfl
    · rw [List.map_append, hLp, List.take_succ_eq_append_getElem hi, List.map_append]; rfl
    · exact ((x2.trans x57).trans x8).newer hf9 fun y ⟨a, ha, e⟩ => by have := ((ho'.ext x8).base ha).1; omega
  · rintro s3 w1 ⟨L, ho, hti, hi26, hLp, x1⟩
    refine ⟨L, ho, hti, ?_, x1⟩
    rw [hLp, hn, List.take_length]
    rw [hn] at hi26
    rw [factsC, List.take_of_length_le (by simp; omega)]; simp
end Go.Proofs.Ytoljknamnkkgcaa
