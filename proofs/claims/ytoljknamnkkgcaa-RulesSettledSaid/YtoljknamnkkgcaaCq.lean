/-
  Contracts: rules without Not; the program is awake.
-/
import Derived.Test.YtoljknamnkkgcaaCp
import Derived.Test.YtoljknamnkkgcaaDa
import Derived.Test.YtoljknamnkkgcaaSc
namespace Go.Proofs.Ytoljknamnkkgcaa
open Go Go.VC
set_option maxHeartbeats 1000000
set_option maxRecDepth 100000

theorem c19 {w : World} {s : Sl} {l : List DR} (hs : NR w s l) (hl : l.length ≤ big) (hb : ∀ r ∈ l, r.body.length ≤ big) :
    Calls Try.prog 19 [.slice s.a s.n s.c].toArray w fun e w' => ∃ b : Bool, e = .returned (.bool b) ∧ (b = true ↔ PlainP (l.map DR.p)) ∧ Ext w w' := by
  refine (call19 s (R := fun v w' => ∃ b : Bool, v = .bool b ∧ (b = true ↔ PlainP (l.map DR.p)) ∧ Ext w w') ?_).mono fun e w' ⟨v, he, b, hv, hx⟩ => ⟨b, by rw [he, hv], hx⟩
  have hn := hs.len
  refine Join.dir (rangeI (fun i w2 => (∀ r ∈ l.take i, ∀ b ∈ r.body, b.neg = false) ∧ Ext w w2) (by rw [hn]; exact hl) ⟨by simp, Fr.refl _ _⟩ ?_ ?_)
  · rintro i hi w2 ⟨hok, x2⟩ K hK
    have hi : i < l.length := by omega
    refine loadRT (hs.ext x2) hi zc94 fun w5 b5 x5 => ?_
    have hro := hs.ok _ (List.getElem_mem hi)
    have hbb := hb _ (List.getElem_mem hi)
    have hm := List.getElem_mem hi
    generalize hri : l[i] = r at b5 hro hbb hm
    have hbn := hro.bd.len
    have x25 := x2.trans x5
    refine ⟨_, b5.cell 2, Join.dir (rangeI (fun j w7 => (∀ b ∈ r.body.take j, b.neg = false) ∧ Ext w5 w7) (by rw [hbn]; exact hbb) ⟨by simp, Fr.refl _ _⟩ ?_ ?_)⟩
    · rintro j hj w7 ⟨hok2, x7⟩ K2 hK2
      have hj : j < r.body.length := by omega
      refine loadLT ((hro.ext x25).ext x7).bd hj zc96 fun w10 b10 x10 => ⟨_, b10.cell 0, cond_intro (fun g => ?_) (fun g => ?_)⟩
      · refine ⟨false, rfl, ?_, (x25.trans x7).trans x10⟩
        simp only [Bool.false_eq_true, false_iff]
        intro hp
        have := hp r.p (List.mem_map.2 ⟨r, hm, rfl⟩) (r.body[j]).p (List.mem_map.2 ⟨_, List.getElem_mem hj, rfl⟩)
        have g' : (r.body[j]).p.neg = true := g
        rw [this] at g'; cases g'
      · refine hK2 _ ⟨fun b hb => ?_, x7.trans x10⟩
        rw [List.take_succ_eq_append_getElem hj, List.mem_append, List.mem_singleton] at hb
        rcases hb with hb | rfl
        · exact hok2 b hb
        · exact g
    · rintro w6 ⟨hok2, x6⟩
      rw [hbn, List.take_length] at hok2
      refine hK _ ⟨fun r' hr' => ?_, x25.trans x6⟩
      rw [List.take_succ_eq_append_getElem hi, List.mem_append, List.mem_singleton, hri] at hr'
      rcases hr' with hr' | rfl
      · exact hok r' hr'
      · exact hok2
  · rintro w2 ⟨hok, x2⟩
    rw [hn, List.take_length] at hok
    refine ⟨true, rfl, ?_, x2⟩
    simp only [true_iff]
    intro r hr b hb
    obtain ⟨r', hr', rfl⟩ := List.mem_map.1 hr
    obtain ⟨b', hb', rfl⟩ := List.mem_map.1 hb
    exact hok r' hr' b' hb'
/-! ### awake -/
def awR : List Ru := [⟨⟨1, [0]⟩, [⟨false, ⟨0, [0]⟩⟩]⟩]
def awF : List Fa := [⟨0, [3]⟩]
theorem aw_valid : ValidP awR awF := by
  refine ⟨by decide, by decide, by decide, ?_, by unfold Consist; decide⟩
  intro r hr
  simp only [awR, List.mem_singleton] at hr
  subst hr
  refine ⟨by decide, ?_, by decide⟩
  intro a ha x hx h0
  refine ⟨⟨false, ⟨0, [0]⟩⟩, by simp, rfl, ?_⟩
  simp [Ru.atoms] at ha
  rcases ha with rfl | rfl <;> simpa using hx
theorem aw_plain : PlainP awR := by
  intro r hr b hb
  simp only [awR, List.mem_singleton] at hr
  subst hr
  simp only [List.mem_singleton] at hb
  subst hb; rfl
theorem aw_mdl (k : Ky) : Mdl awR zero6 (giv awF) k ↔ k = ⟨0, 3, 0⟩ ∨ k = ⟨1, 3, 0⟩ := by
  rw [Mdl_plain aw_plain (fun _ => False)]
  refine Cl.eq (S := fun k => k = ⟨0, 3, 0⟩ ∨ k = ⟨1, 3, 0⟩) ?_ ?_ ?_ k
  · rintro k ⟨f, hf, rfl⟩
    simp only [awF, List.mem_singleton] at hf
    subst hf; exact .inl rfl
  · intro r hr u h1 _
    simp only [awR, List.mem_singleton] at hr
    subst hr
    simp only [En, if_neg (show ¬ (false = true) by simp)] at h1
    obtain ⟨g, v', hg, ⟨h2, h3⟩, rfl⟩ := h1
    rcases hg with rfl | rfl
    · right
      have : fitA z8 [0] [3, 0] = some [3, 0, 0, 0, 0, 0, 0, 0] := by decide
      simp only at h3
      rw [this] at h3
      injection h3 with h3
      subst h3; decide
    · simp at h2
  · rintro k (rfl | rfl)
    · exact Cl.base ⟨⟨0, [3]⟩, by simp [awF], rfl⟩
    · have h := Cl.closed awR (giv awF) (fun _ => False) ⟨⟨1, [0]⟩, [⟨false, ⟨0, [0]⟩⟩]⟩ (by simp [awR]) [3, 0, 0, 0, 0, 0, 0, 0] ?_ ?_
      · exact h
      · simp only [En, if_neg (show ¬ (false = true) by simp)]
        exact ⟨⟨0, 3, 0⟩, _, Cl.base ⟨⟨0, [3]⟩, by simp [awF], rfl⟩, ⟨rfl, by decide⟩, rfl⟩
      · intro b hb hn
        simp only [List.mem_singleton] at hb
        subst hb; cases hn
theorem aw_list : IsL (Mdl awR zero6 (giv awF)) [⟨0, [3]⟩, ⟨1, [3]⟩] where
  ord := by decide
  nd := by decide
  mem := fun f => by
    simp only [List.mem_cons, List.not_mem_nil, or_false]
    constructor
    · rintro (rfl | rfl)
      · exact ⟨⟨0, 3, 0⟩, (aw_mdl _).2 (.inl rfl), rfl⟩
      · exact ⟨⟨1, 3, 0⟩, (aw_mdl _).2 (.inr rfl), rfl⟩
    · rintro ⟨k, hk, rfl⟩
      rcases (aw_mdl _).1 hk with rfl | rfl
      · exact .inl rfl
      · exact .inr rfl
theorem new1 (w : World) (x : Int) : (Instr.buildSlice 34 1 [(0, .int .i64 x)].toArray).run Try.prog w = .ok (.slice (some ⟨w.heap.size, 0, none⟩) 1 1) (w.alloc (.cells (eI x).toArray 3)) ∧ Ints (w.alloc (.cells (eI x).toArray 3)) ⟨some ⟨w.heap.size, 0, none⟩, 1, 1⟩ [x] ∧ Ext w (w.alloc (.cells (eI x).toArray 3)) :=
  ⟨buildOne_run E34 (v := .int .i64 x) (vs := eI x) rfl rfl (by omega) w, ⟨rfl, Nat.le_refl _, fun _ => ⟨⟨w.heap.size, 0⟩, rfl, by simpa using (Blk.alloc w (eI x) 3).rd⟩⟩, Ext.alloc ..⟩
theorem newOne {α : Type} {t e size bytes : Nat} (E : Elem Try.prog t e size bytes) {enc : α → List Value} (w : World) (x : α) {v : Value} (hv : cellsV v = enc x) (hs : (enc x).length = size) (hb : size ≤ 16777216) :
    (Instr.buildSlice t 1 [(0, v)].toArray).run Try.prog w = .ok (.slice (some ⟨w.heap.size, 0, none⟩) 1 1) (w.alloc (.cells (enc x).toArray e)) ∧ Sli size enc (w.alloc (.cells (enc x).toArray e)) ⟨some ⟨w.heap.size, 0, none⟩, 1, 1⟩ [x] ∧ Ext w (w.alloc (.cells (enc x).toArray e)) :=
  ⟨buildOne_run E hv hs hb w, ⟨rfl, Nat.le_refl _, fun _ => ⟨⟨w.heap.size, 0⟩, rfl, by simpa using (Blk.alloc w (enc x) e).rd⟩⟩, Ext.alloc ..⟩
theorem c20 (w : World) : Calls Try.prog 20 ([] : List Value).toArray w fun e w' => e = .returned (.bool true) ∧ Ext w w' := by
  refine (call20 (R := fun v w' => v = .bool true ∧ Ext w w') ?_).mono fun e w' ⟨v, he, hv, hx⟩ => ⟨by rw [he, hv], hx⟩
  obtain ⟨r1, i1, x1⟩ := new1 w 0
  refine ⟨⟨some ⟨w.heap.size, 0, none⟩, 1, 1⟩, _, r1, ?_⟩
  generalize w.alloc (.cells (eI 0).toArray 3) = w1 at i1 x1
  generalize (⟨some ⟨w.heap.size, 0, none⟩, 1, 1⟩ : Sl) = sA at i1
  obtain ⟨r2, i2, x2⟩ := new1 w1 0
  refine ⟨⟨some ⟨w1.heap.size, 0, none⟩, 1, 1⟩, _, r2, rfl, by decide, ?_⟩
  generalize w1.alloc (.cells (eI 0).toArray 3) = w2 at i2 x2
  generalize (⟨some ⟨w1.heap.size, 0, none⟩, 1, 1⟩ : Sl) = sB at i2
  obtain ⟨r3, i3, x3⟩ := newOne E50 (enc := eL) w2 ⟨false, ⟨0, sB, [0]⟩⟩ (v := .agg [.bool false, .int .i64 0, .slice sB.a sB.n sB.c].toArray) rfl rfl (by omega)
  refine ⟨⟨some ⟨w2.heap.size, 0, none⟩, 1, 1⟩, _, r3, rfl, by decide, ?_⟩
  generalize w2.alloc (.cells (eL ⟨false, ⟨0, sB, [0]⟩⟩).toArray 54) = w3 at i3 x3
  generalize (⟨some ⟨w2.heap.size, 0, none⟩, 1, 1⟩ : Sl) = sC at i3
  let R : DR := ⟨⟨1, sA, [0]⟩, sC, [⟨false, ⟨0, sB, [0]⟩⟩]⟩
  obtain ⟨r4, i4, x4⟩ := newOne E27 (enc := eR) w3 R (v := .agg [.int .i64 1, .slice sA.a sA.n sA.c, .slice sC.a sC.n sC.c].toArray) rfl rfl (by omega)
  refine ⟨⟨some ⟨w3.heap.size, 0, none⟩, 1, 1⟩, _, r4, ?_⟩
  generalize w3.alloc (.cells (eR R).toArray 52) = w4 at i4 x4
  generalize (⟨some ⟨w3.heap.size, 0, none⟩, 1, 1⟩ : Sl) = sD at i4
  obtain ⟨r5, i5, x5⟩ := new1 w4 3
  refine ⟨⟨some ⟨w4.heap.size, 0, none⟩, 1, 1⟩, _, r5, ?_⟩
  generalize w4.alloc (.cells (eI 3).toArray 3) = w5 at i5 x5
  generalize (⟨some ⟨w4.heap.size, 0, none⟩, 1, 1⟩ : Sl) = sE at i5
  obtain ⟨r6, i6, x6⟩ := newOne E23 (enc := eF) w5 ⟨0, sE, [3]⟩ (v := .agg [.int .i64 0, .slice sE.a sE.n sE.c].toArray) rfl rfl (by omega)
  refine ⟨⟨some ⟨w5.heap.size, 0, none⟩, 1, 1⟩, _, r6, ?_⟩
  generalize w5.alloc (.cells (eF ⟨0, sE, [3]⟩).toArray 36) = w6 at i6 x6
  generalize (⟨some ⟨w5.heap.size, 0, none⟩, 1, 1⟩ : Sl) = sF at i6
  have x26 := ((x3.trans x4).trans x5).trans x6
  have x16 := x2.trans x26
  have hNR : NR w6 sD [R] := ⟨(i4.ext x5).ext x6, fun r hr => by
    simp only [List.mem_singleton] at hr
    subst hr
    exact ⟨i1.ext x16, i3.ext ((x4.trans x5).trans x6), fun b hb => by
      have hb : b = ⟨false, ⟨0, sB, [0]⟩⟩ := by simpa [R] using hb
      subst hb; exact i2.ext x26⟩⟩
  have hNF : NF w6 sF [⟨0, sE, [3]⟩] := ⟨i6, fun x hx => by
    simp only [List.mem_singleton] at hx
    subst hx; exact i5.ext x6⟩
  refine (c16 hNR hNF (by simp) (by simp) (fun r hr => by
    simp only [List.mem_singleton] at hr
    subst hr
    exact ⟨by simp [R], fun x hx => by simp [R, DR.atoms] at hx; rcases hx with rfl | rfl <;> simp⟩) (fun f hf => by simp only [List.mem_singleton] at hf; subst hf; simp)).mono fun e w7 ⟨s2, x, L, he, hL, hLl, hcase, x7⟩ => ⟨s2, x, he, ?_⟩
  have hx06 := ((x1.trans x16).trans x7)
  have e1 : [R].map DR.p = awR := rfl
  have e2 : ([⟨0, sE, [3]⟩] : List DF).map DF.p = awF := rfl
  rw [e1, e2] at hcase
  rcases hcase with ⟨h, _⟩ | ⟨_, h, _⟩ | ⟨_, t, ht, rfl, hIs⟩
  · exact absurd aw_valid h
  · exact absurd ⟨_, plain_str aw_plain⟩ h
  have := ht.uniq (plain_str aw_plain)
  subst this
  have hLe := hIs.uniq aw_list
  refine Join.dir (cond_intro (fun _ => ?_) (fun h => by simp at h))
  obtain ⟨r8, i8, x8⟩ := new1 w7 3
  refine ⟨⟨some ⟨w7.heap.size, 0, none⟩, 1, 1⟩, _, r8, ?_⟩
  generalize w7.alloc (.cells (eI 3).toArray 3) = w8 at i8 x8
  generalize (⟨some ⟨w7.heap.size, 0, none⟩, 1, 1⟩ : Sl) = sG at i8
  obtain ⟨r9, i9, x9⟩ := new1 w8 3
  refine ⟨⟨some ⟨w8.heap.size, 0, none⟩, 1, 1⟩, _, r9, ?_⟩
  generalize w8.alloc (.cells (eI 3).toArray 3) = w9 at i9 x9
  generalize (⟨some ⟨w8.heap.size, 0, none⟩, 1, 1⟩ : Sl) = sH at i9
  have hb := buildList_run E23 (enc := eF) (val := fun x : DF => Value.agg [.int .i64 x.rel, .slice x.sl.a x.sl.n x.sl.c].toArray) eF_len (fun _ => rfl) [⟨0, sG, [3]⟩, ⟨1, sH, [3]⟩] (by simp) (by simp) w9
  have hs := sli_new (size := 2) (enc := eF) w9 [⟨0, sG, [3]⟩, ⟨1, sH, [3]⟩] 36
  have x10 := Ext.alloc w9 (.cells (([⟨0, sG, [3]⟩, ⟨1, sH, [3]⟩] : List DF).flatMap eF).toArray 36)
  refine ⟨⟨some ⟨w9.heap.size, 0, none⟩, 2, 2⟩, _, hb, ?_⟩
  have x89 := x8.trans (x9.trans x10)
  refine (c21 (hL.ext x89) (l' := [⟨0, sG, [3]⟩, ⟨1, sH, [3]⟩]) ⟨hs, fun y hy => ?_⟩ (by show L.length ≤ 9223372036854775807; omega) (fun y hy => ?_)).mono fun e w12 ⟨he, x12⟩ => ⟨_, he, ?_, (hx06.trans x89).trans x12⟩
  · simp only [List.mem_cons, List.not_mem_nil, or_false] at hy
    rcases hy with rfl | rfl
    · exact (i8.ext x9).ext x10
    · exact i9.ext x10
  · have : y.p ∈ L.map DF.p := List.mem_map.2 ⟨y, hy, rfl⟩
    rw [hLe] at this
    simp only [List.mem_cons, List.not_mem_nil, or_false] at this
    have h1 : y.args = [3] := by rcases this with h | h <;> exact congrArg Fa.args h
    rw [h1]; decide
  · rw [hLe]; rfl
end Go.Proofs.Ytoljknamnkkgcaa
