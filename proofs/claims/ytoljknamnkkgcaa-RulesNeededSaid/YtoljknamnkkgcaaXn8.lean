/-
  Texts Cq, Se, Db, Cr, Cs, Ct, Si, De, Ea, Sj, Eb, Sk of this proof, joined.
-/
import Derived.Test.YtoljknamnkkgcaaXn7
import Derived.Test.YtoljknamnkkgcaaProg
import Derived.KernelRfl
/-
  Contracts: rules without Not; the program is awake.
-/
namespace Go.Proofs.Ytoljknamnkkgcaa
open Go Go.VC
set_option maxHeartbeats 1000000
set_option maxRecDepth 100000

theorem c19 {w : World} {s : Sl} {l : List DR} (hs : NR w s l) (hl : l.length ≤ big) (hb : ∀ r ∈ l, r.body.length ≤ big) :
    Calls Try.prog 19 [.slice s.a s.n s.c].toArray w fun e w' => ∃ b : Bool, e = .returned (.bool b) ∧ (b = true ↔ PlainP (l.map DR.p)) ∧ Ext w w' := by
  refine (call19 s (R := fun v w' => ∃ b : Bool, v = .bool b ∧ (b = true ↔ PlainP (l.map DR.p)) ∧ Ext w w') ?_).mono fun e w' ⟨v, he, b, hv, hx⟩ => ⟨b, by rw [he, hv], hx⟩
  have hn := hs.len
  refine Join.dir (rangeI (fun i w2 => (∀ r ∈ l.take i, ∀ b ∈ r.body, b.neg = false) ∧ Ext w w2) (by rw [hn]; exact hl) ⟨by simp, Fr.refl _ _⟩ ?_ ?_)
  · rintro i hi w2 ⟨hok, x2⟩ K hK
    have hi : i < l.length := by omega
    refine loadRT (hs.ext x2) hi zc94 fun w5 b5 x5 => ?_
    have hro := hs.ok _ (List.getElem_mem hi)
    have hbb := hb _ (List.getElem_mem hi)
    have hm := List.getElem_mem hi
    generalize hri : l[i] = r at b5 hro hbb hm
    have hbn := hro.bd.len
    have x25 := x2.trans x5
    refine ⟨_, b5.cell 2, Join.dir (rangeI (fun j w7 => (∀ b ∈ r.body.take j, b.neg = false) ∧ Ext w5 w7) (by rw [hbn]; exact hbb) ⟨by simp, Fr.refl _ _⟩ ?_ ?_)⟩
    · rintro j hj w7 ⟨hok2, x7⟩ K2 hK2
      have hj : j < r.body.length := by omega
      refine loadLT ((hro.ext x25).ext x7).bd hj zc96 fun w10 b10 x10 => ⟨_, b10.cell 0, cond_intro (fun g => ?_) (fun g => ?_)⟩
      · refine ⟨false, rfl, ?_, (x25.trans x7).trans x10⟩
        simp only [Bool.false_eq_true, false_iff]
        intro hp
        have := hp r.p (List.mem_map.2 ⟨r, hm, rfl⟩) (r.body[j]).p (List.mem_map.2 ⟨_, List.getElem_mem hj, rfl⟩)
        have g' : (r.body[j]).p.neg = true := g
        rw [this] at g'; cases g'
      · refine hK2 _ ⟨fun b hb => ?_, x7.trans x10⟩
        rw [List.take_succ_eq_append_getElem hj, List.mem_append, List.mem_singleton] at hb
        rcases hb with hb | rfl
        · exact hok2 b hb
        · exact g
    · rintro w6 ⟨hok2, x6⟩
      rw [hbn, List.take_length] at hok2
      refine hK _ ⟨fun r' hr' => ?_, x25.trans x6⟩
      rw [List.take_succ_eq_append_getElem hi, List.mem_append, List.mem_singleton, hri] at hr'
      rcases hr' with hr' | rfl
      · exact hok r' hr'
      · exact hok2
  · rintro w2 ⟨hok, x2⟩
    rw [hn, List.take_length] at hok
    refine ⟨true, rfl, ?_, x2⟩
    simp only [true_iff]
    intro r hr b hb
    obtain ⟨r', hr', rfl⟩ := List.mem_map.1 hr
    obtain ⟨b', hb', rfl⟩ := List.mem_map.1 hb
    exact hok r' hr' b' hb'
/-! ### awake -/
def awR : List Ru := [⟨⟨1, [0]⟩, [⟨false, ⟨0, [0]⟩⟩]⟩]
def awF : List Fa := [⟨0, [3]⟩]
theorem aw_valid : ValidP awR awF := by
  refine ⟨by decide, by decide, by decide, ?_, by unfold Consist; decide⟩
  intro r hr
  simp only [awR, List.mem_singleton] at hr
  subst hr
  refine ⟨by decide, ?_, by decide⟩
  intro a ha x hx h0
  refine ⟨⟨false, ⟨0, [0]⟩⟩, by simp, rfl, ?_⟩
  simp [Ru.atoms] at ha
  rcases ha with rfl | rfl <;> simpa using hx
theorem aw_plain : PlainP awR := by
  intro r hr b hb
  simp only [awR, List.mem_singleton] at hr
  subst hr
  simp only [List.mem_singleton] at hb
  subst hb; rfl
theorem aw_mdl (k : Ky) : Mdl awR zero6 (giv awF) k ↔ k = ⟨0, 3, 0⟩ ∨ k = ⟨1, 3, 0⟩ := by
  rw [Mdl_plain aw_plain (fun _ => False)]
  refine Cl.eq (S := fun k => k = ⟨0, 3, 0⟩ ∨ k = ⟨1, 3, 0⟩) ?_ ?_ ?_ k
  · rintro k ⟨f, hf, rfl⟩
    simp only [awF, List.mem_singleton] at hf
    subst hf; exact .inl rfl
  · intro r hr u h1 _
    simp only [awR, List.mem_singleton] at hr
    subst hr
    simp only [En, if_neg (show ¬ (false = true) by simp)] at h1
    obtain ⟨g, v', hg, ⟨h2, h3⟩, rfl⟩ := h1
    rcases hg with rfl | rfl
    · right
      have : fitA z8 [0] [3, 0] = some [3, 0, 0, 0, 0, 0, 0, 0] := by decide
      simp only at h3
      rw [this] at h3
      injection h3 with h3
      subst h3; decide
    · simp at h2
  · rintro k (rfl | rfl)
    · exact Cl.base ⟨⟨0, [3]⟩, by simp [awF], rfl⟩
    · have h := Cl.closed awR (giv awF) (fun _ => False) ⟨⟨1, [0]⟩, [⟨false, ⟨0, [0]⟩⟩]⟩ (by simp [awR]) [3, 0, 0, 0, 0, 0, 0, 0] ?_ ?_
      · exact h
      · simp only [En, if_neg (show ¬ (false = true) by simp)]
        exact ⟨⟨0, 3, 0⟩, _, Cl.base ⟨⟨0, [3]⟩, by simp [awF], rfl⟩, ⟨rfl, by decide⟩, rfl⟩
      · intro b hb hn
        simp only [List.mem_singleton] at hb
        subst hb; cases hn
theorem aw_list : IsL (Mdl awR zero6 (giv awF)) [⟨0, [3]⟩, ⟨1, [3]⟩] where
  ord := by decide
  nd := by decide
  mem := fun f => by
    simp only [List.mem_cons, List.not_mem_nil, or_false]
    constructor
    · rintro (rfl | rfl)
      · exact ⟨⟨0, 3, 0⟩, (aw_mdl _).2 (.inl rfl), rfl⟩
      · exact ⟨⟨1, 3, 0⟩, (aw_mdl _).2 (.inr rfl), rfl⟩
    · rintro ⟨k, hk, rfl⟩
      rcases (aw_mdl _).1 hk with rfl | rfl
      · exact .inl rfl
      · exact .inr rfl
theorem new1 (w : World) (x : Int) : (Instr.buildSlice 34 1 [(0, .int .i64 x)].toArray).run Try.prog w = .ok (.slice (some ⟨w.heap.size, 0, none⟩) 1 1) (w.alloc (.cells (eI x).toArray 3)) ∧ Ints (w.alloc (.cells (eI x).toArray 3)) ⟨some ⟨w.heap.size, 0, none⟩, 1, 1⟩ [x] ∧ Ext w (w.alloc (.cells (eI x).toArray 3)) :=
  ⟨buildOne_run E34 (v := .int .i64 x) (vs := eI x) rfl rfl (by omega) w, ⟨rfl, Nat.le_refl _, fun _ => ⟨⟨w.heap.size, 0⟩, rfl, by simpa using (Blk.alloc w (eI x) 3).rd⟩⟩, Ext.alloc ..⟩
theorem newOne {α : Type} {t e size bytes : Nat} (E : Elem Try.prog t e size bytes) {enc : α → List Value} (w : World) (x : α) {v : Value} (hv : cellsV v = enc x) (hs : (enc x).length = size) (hb : size ≤ 16777216) :
    (Instr.buildSlice t 1 [(0, v)].toArray).run Try.prog w = .ok (.slice (some ⟨w.heap.size, 0, none⟩) 1 1) (w.alloc (.cells (enc x).toArray e)) ∧ Sli size enc (w.alloc (.cells (enc x).toArray e)) ⟨some ⟨w.heap.size, 0, none⟩, 1, 1⟩ [x] ∧ Ext w (w.alloc (.cells (enc x).toArray e)) :=
  ⟨buildOne_run E hv hs hb w, ⟨rfl, Nat.le_refl _, fun _ => ⟨⟨w.heap.size, 0⟩, rfl, by simpa using (Blk.alloc w (enc x) e).rd⟩⟩, Ext.alloc ..⟩
theorem c20 (w : World) : Calls Try.prog 20 ([] : List Value).toArray w fun e w' => e = .returned (.bool true) ∧ Ext w w' := by
  refine (call20 (R := fun v w' => v = .bool true ∧ Ext w w') ?_).mono fun e w' ⟨v, he, hv, hx⟩ => ⟨by rw [he, hv], hx⟩
  obtain ⟨r1, i1, x1⟩ := new1 w 0
  refine ⟨⟨some ⟨w.heap.size, 0, none⟩, 1, 1⟩, _, r1, ?_⟩
  generalize w.alloc (.cells (eI 0).toArray 3) = w1 at i1 x1
  generalize (⟨some ⟨w.heap.size, 0, none⟩, 1, 1⟩ : Sl) = sA at i1
  obtain ⟨r2, i2, x2⟩ := new1 w1 0
  refine ⟨⟨some ⟨w1.heap.size, 0, none⟩, 1, 1⟩, _, r2, rfl, by decide, ?_⟩
  generalize w1.alloc (.cells (eI 0).toArray 3) = w2 at i2 x2
  generalize (⟨some ⟨w1.heap.size, 0, none⟩, 1, 1⟩ : Sl) = sB at i2
  obtain ⟨r3, i3, x3⟩ := newOne E50 (enc := eL) w2 ⟨false, ⟨0, sB, [0]⟩⟩ (v := .agg [.bool false, .int .i64 0, .slice sB.a sB.n sB.c].toArray) rfl rfl (by omega)
  refine ⟨⟨some ⟨w2.heap.size, 0, none⟩, 1, 1⟩, _, r3, rfl, by decide, ?_⟩
  generalize w2.alloc (.cells (eL ⟨false, ⟨0, sB, [0]⟩⟩).toArray 54) = w3 at i3 x3
  generalize (⟨some ⟨w2.heap.size, 0, none⟩, 1, 1⟩ : Sl) = sC at i3
  let R : DR := ⟨⟨1, sA, [0]⟩, sC, [⟨false, ⟨0, sB, [0]⟩⟩]⟩
  obtain ⟨r4, i4, x4⟩ := newOne E27 (enc := eR) w3 R (v := .agg [.int .i64 1, .slice sA.a sA.n sA.c, .slice sC.a sC.n sC.c].toArray) rfl rfl (by omega)
  refine ⟨⟨some ⟨w3.heap.size, 0, none⟩, 1, 1⟩, _, r4, ?_⟩
  generalize w3.alloc (.cells (eR R).toArray 52) = w4 at i4 x4
  generalize (⟨some ⟨w3.heap.size, 0, none⟩, 1, 1⟩ : Sl) = sD at i4
  obtain ⟨r5, i5, x5⟩ := new1 w4 3
  refine ⟨⟨some ⟨w4.heap.size, 0, none⟩, 1, 1⟩, _, r5, ?_⟩
  generalize w4.alloc (.cells (eI 3).toArray 3) = w5 at i5 x5
  generalize (⟨some ⟨w4.heap.size, 0, none⟩, 1, 1⟩ : Sl) = sE at i5
  obtain ⟨r6, i6, x6⟩ := newOne E23 (enc := eF) w5 ⟨0, sE, [3]⟩ (v := .agg [.int .i64 0, .slice sE.a sE.n sE.c].toArray) rfl rfl (by omega)
  refine ⟨⟨some ⟨w5.heap.size, 0, none⟩, 1, 1⟩, _, r6, ?_⟩
  generalize w5.alloc (.cells (eF ⟨0, sE, [3]⟩).toArray 36) = w6 at i6 x6
  generalize (⟨some ⟨w5.heap.size, 0, none⟩, 1, 1⟩ : Sl) = sF at i6
  have x26 := ((x3.trans x4).trans x5).trans x6
  have x16 := x2.trans x26
  have hNR : NR w6 sD [R] := ⟨(i4.ext x5).ext x6, fun r hr => by
    simp only [List.mem_singleton] at hr
    subst hr
    exact ⟨i1.ext x16, i3.ext ((x4.trans x5).trans x6), fun b hb => by
      have hb : b = ⟨false, ⟨0, sB, [0]⟩⟩ := by simpa [R] using hb
      subst hb; exact i2.ext x26⟩⟩
  have hNF : NF w6 sF [⟨0, sE, [3]⟩] := ⟨i6, fun x hx => by
    simp only [List.mem_singleton] at hx
    subst hx; exact i5.ext x6⟩
  refine (c16 hNR hNF (by simp) (by simp) (fun r hr => by
    simp only [List.mem_singleton] at hr
    subst hr
    exact ⟨by simp [R], fun x hx => by simp [R, DR.atoms] at hx; rcases hx with rfl | rfl <;> simp⟩) (fun f hf => by simp only [List.mem_singleton] at hf; subst hf; simp)).mono fun e w7 ⟨s2, x, L, he, hL, hLl, hcase, x7⟩ => ⟨s2, x, he, ?_⟩
  have hx06 := ((x1.trans x16).trans x7)
  have e1 : [R].map DR.p = awR := rfl
  have e2 : ([⟨0, sE, [3]⟩] : List DF).map DF.p = awF := rfl
  rw [e1, e2] at hcase
  rcases hcase with ⟨h, _⟩ | ⟨_, h, _⟩ | ⟨_, t, ht, rfl, hIs⟩
  · exact absurd aw_valid h
  · exact absurd ⟨_, plain_str aw_plain⟩ h
  have := ht.uniq (plain_str aw_plain)
  subst this
  have hLe := hIs.uniq aw_list
  refine Join.dir (cond_intro (fun _ => ?_) (fun h => by simp at h))
  obtain ⟨r8, i8, x8⟩ := new1 w7 3
  refine ⟨⟨some ⟨w7.heap.size, 0, none⟩, 1, 1⟩, _, r8, ?_⟩
  generalize w7.alloc (.cells (eI 3).toArray 3) = w8 at i8 x8
  generalize (⟨some ⟨w7.heap.size, 0, none⟩, 1, 1⟩ : Sl) = sG at i8
  obtain ⟨r9, i9, x9⟩ := new1 w8 3
  refine ⟨⟨some ⟨w8.heap.size, 0, none⟩, 1, 1⟩, _, r9, ?_⟩
  generalize w8.alloc (.cells (eI 3).toArray 3) = w9 at i9 x9
  generalize (⟨some ⟨w8.heap.size, 0, none⟩, 1, 1⟩ : Sl) = sH at i9
  have hb := buildList_run E23 (enc := eF) (val := fun x : DF => Value.agg [.int .i64 x.rel, .slice x.sl.a x.sl.n x.sl.c].toArray) eF_len (fun _ => rfl) [⟨0, sG, [3]⟩, ⟨1, sH, [3]⟩] (by simp) (by simp) w9
  have hs := sli_new (size := 2) (enc := eF) w9 [⟨0, sG, [3]⟩, ⟨1, sH, [3]⟩] 36
  have x10 := Ext.alloc w9 (.cells (([⟨0, sG, [3]⟩, ⟨1, sH, [3]⟩] : List DF).flatMap eF).toArray 36)
  refine ⟨⟨some ⟨w9.heap.size, 0, none⟩, 2, 2⟩, _, hb, ?_⟩
  have x89 := x8.trans (x9.trans x10)
  refine (c21 (hL.ext x89) (l' := [⟨0, sG, [3]⟩, ⟨1, sH, [3]⟩]) ⟨hs, fun y hy => ?_⟩ (by show L.length ≤ 9223372036854775807; omega) (fun y hy => ?_)).mono fun e w12 ⟨he, x12⟩ => ⟨_, he, ?_, (hx06.trans x89).trans x12⟩
  · simp only [List.mem_cons, List.not_mem_nil, or_false] at hy
    rcases hy with rfl | rfl
    · exact (i8.ext x9).ext x10
    · exact i9.ext x10
  · have : y.p ∈ L.map DF.p := List.mem_map.2 ⟨y, hy, rfl⟩
    rw [hLe] at this
    simp only [List.mem_cons, List.not_mem_nil, or_false] at this
    have h1 : y.args = [3] := by rcases this with h | h <;> exact congrArg Fa.args h
    rw [h1]; decide
  · rw [hLe]; rfl
end Go.Proofs.Ytoljknamnkkgcaa
/-
  Printed by a program of this session (wip/tools/vcprint.py): of each Go function the shallow form, and that the calculus comes to it, by the kernel.
-/
namespace Go.Proofs.Ytoljknamnkkgcaa
open Go Go.VC
set_option maxRecDepth 100000

/-- F3: cubeb/cubeblaw03.RulesAgain -/
def An3 : An := (.sq .lf (.sq .lf (.sq (.sq (.rj [] [(27, .bool)]) (.cd (.sq (.rj [] [(4, .bool)]) .lf) .lf)) (.sq .lf (.sq (.rj [] [(4, .bool)]) .lf)))))
def S3 (s0 : Sl) (s1 : Sl) (R : Value → World → Prop) (w : World) : Prop :=
  Calls Try.prog 17 [(.slice s0.a s0.n s0.c)].toArray w (fun e w1 => ∃ s10 : Sl, e = .returned (.slice s10.a s10.n s10.c) ∧
  Calls Try.prog 18 [(.slice s1.a s1.n s1.c)].toArray w1 (fun e_2 w2 => ∃ s12 : Sl, e_2 = .returned (.slice s12.a s12.n s12.c) ∧
  Calls Try.prog 16 [(.slice s10.a s10.n s10.c), (.slice s12.a s12.n s12.c)].toArray w2 (fun e_3 w3 => ∃ s13_0 : Sl, ∃ x13_1 : Int, e_3 = .returned (.tuple [(.slice s13_0.a s13_0.n s13_0.c), (.int .i64 x13_1)].toArray) ∧
  Join [(27, .bool)] (fun (b27 : Bool) (w4 : World) => cond b27 (
  Join [(4, .bool)] (fun (b4 : Bool) (w5 : World) => R (.bool b4) w5) (fun J =>
  cond (x13_1 == (0 : Int)) (Calls Try.prog 20 [].toArray w4 (fun e_4 w6 => ∃ b39 : Bool, e_4 = .returned (.bool b39) ∧
  J b39 w6)) (cond (x13_1 == (2 : Int)) (Calls Try.prog 20 [].toArray w4 (fun e_5 w7 => ∃ b39_2 : Bool, e_5 = .returned (.bool b39_2) ∧
  J b39_2 w7)) (cond (x13_1 == (8 : Int)) (Calls Try.prog 20 [].toArray w4 (fun e_6 w8 => ∃ b39_3 : Bool, e_6 = .returned (.bool b39_3) ∧
  J b39_3 w8)) (J false w4))))) (
  Calls Try.prog 17 [(.slice s0.a s0.n s0.c)].toArray w4 (fun e_7 w9 => ∃ s43 : Sl, e_7 = .returned (.slice s43.a s43.n s43.c) ∧
  Calls Try.prog 16 [(.slice s43.a s43.n s43.c), (.slice s13_0.a s13_0.n s13_0.c)].toArray w9 (fun e_8 w10 => ∃ s45_0 : Sl, ∃ x45_1 : Int, e_8 = .returned (.tuple [(.slice s45_0.a s45_0.n s45_0.c), (.int .i64 x45_1)].toArray) ∧
  Join [(4, .bool)] (fun (b4_2 : Bool) (w11 : World) => R (.bool b4_2) w11) (fun J_2 =>
  cond (x45_1 == (0 : Int)) (Calls Try.prog 21 [(.slice s13_0.a s13_0.n s13_0.c), (.slice s45_0.a s45_0.n s45_0.c)].toArray w10 (fun e_9 w12 => ∃ b53 : Bool, e_9 = .returned (.bool b53) ∧
  cond b53 (Calls Try.prog 20 [].toArray w12 (fun e_10 w13 => ∃ b56 : Bool, e_10 = .returned (.bool b56) ∧
  J_2 b56 w13)) (J_2 false w12))) (J_2 false w10)))))) (fun J_3 =>
  cond (x13_1 != (0 : Int)) (J_3 true w3) (Calls Try.prog 19 [(.slice s0.a s0.n s0.c)].toArray w3 (fun e_11 w14 => ∃ b20 : Bool, e_11 = .returned (.bool b20) ∧
  cond (!b20) (J_3 true w14) (J_3 (decide (((s13_0.n : Nat) : Int) > (20 : Int))) w14)))))))
theorem eq3 (s0 : Sl) (s1 : Sl) (R : Value → World → Prop) (w : World) : funV Try.prog Try.f3 An3 [(.slice s0.a s0.n s0.c), (.slice s1.a s1.n s1.c)] R w = S3 s0 s1 R w := by kernel_rfl
theorem call3 (s0 : Sl) (s1 : Sl) {R : Value → World → Prop} {w : World} (h : S3 s0 s1 R w) : Calls Try.prog 3 [(.slice s0.a s0.n s0.c), (.slice s1.a s1.n s1.c)].toArray w fun e w' => ∃ v, e = .returned v ∧ R v w' :=
  funV_calls mixed Try.func3 (an := An3) (by rw [eq3]; exact h)

/-- F5: cubeb/cubeblaw03.RulesFounded -/
def An5 : An := (.sq .lf (.sq .lf (.sq (.sq .lf (.cd (.sq (.rj [] [(4, .bool)]) .lf) .lf)) (.sq .lf (.sq (.rj [] [(4, .bool)]) .lf)))))
def S5 (s0 : Sl) (s1 : Sl) (R : Value → World → Prop) (w : World) : Prop :=
  Calls Try.prog 17 [(.slice s0.a s0.n s0.c)].toArray w (fun e w1 => ∃ s12 : Sl, e = .returned (.slice s12.a s12.n s12.c) ∧
  Calls Try.prog 18 [(.slice s1.a s1.n s1.c)].toArray w1 (fun e_2 w2 => ∃ s14 : Sl, e_2 = .returned (.slice s14.a s14.n s14.c) ∧
  Calls Try.prog 25 [(.slice s12.a s12.n s12.c), (.slice s14.a s14.n s14.c)].toArray w2 (fun e_3 w3 => ∃ s15_0 : Sl, ∃ s15_1 : Sl, ∃ x15_2 : Int, e_3 = .returned (.tuple [(.slice s15_0.a s15_0.n s15_0.c), (.slice s15_1.a s15_1.n s15_1.c), (.int .i64 x15_2)].toArray) ∧
  Calls Try.prog 22 [(.slice s0.a s0.n s0.c), (.slice s1.a s1.n s1.c)].toArray w3 (fun e_4 w4 => ∃ b21 : Bool, e_4 = .returned (.bool b21) ∧
  cond (!b21) (
  Join [(4, .bool)] (fun (b4 : Bool) (w5 : World) => R (.bool b4) w5) (fun J =>
  cond ((IntKind.wrap .i64 (((s15_0.n : Nat) : Int) + ((s15_1.n : Nat) : Int))) == (0 : Int)) (cond (x15_2 == (2 : Int)) (Calls Try.prog 20 [].toArray w4 (fun e_5 w6 => ∃ b34 : Bool, e_5 = .returned (.bool b34) ∧
  J b34 w6)) (J false w4)) (J false w4))) (
  Calls Try.prog 26 [(.slice s0.a s0.n s0.c), (.slice s1.a s1.n s1.c)].toArray w4 (fun e_6 w7 => ∃ cs39_0 : List Value, cs39_0.length = 252 ∧ ∃ cs39_1 : List Value, cs39_1.length = 252 ∧ e_6 = .returned (.tuple [(.agg cs39_0.toArray), (.agg cs39_1.toArray)].toArray) ∧
  Let (w7.alloc (.cells (zc Try.prog 43) 43)) fun w8 => 
  Let (w8.alloc (.cells (zc Try.prog 43) 43)) fun w9 => 
  StoreOk w9 w7.heap.size 0 cs39_0 252 ∧ Let (put w9 w7.heap.size 0 cs39_0) fun w10 => 
  StoreOk w10 w8.heap.size 0 cs39_1 252 ∧ Let (put w10 w8.heap.size 0 cs39_1) fun w11 => 
  Join [(4, .bool)] (fun (b4_2 : Bool) (w12 : World) => R (.bool b4_2) w12) (fun J_2 =>
  ∃ cs43 : List Value, cs43.length = 252 ∧ rd w11 w7.heap.size 0 cs43 ∧ Calls Try.prog 27 [(.agg cs43.toArray)].toArray w11 (fun e_7 w13 => ∃ s44 : Sl, e_7 = .returned (.slice s44.a s44.n s44.c) ∧
  Calls Try.prog 21 [(.slice s15_0.a s15_0.n s15_0.c), (.slice s44.a s44.n s44.c)].toArray w13 (fun e_8 w14 => ∃ b45 : Bool, e_8 = .returned (.bool b45) ∧
  cond b45 (∃ cs48 : List Value, cs48.length = 252 ∧ rd w14 w8.heap.size 0 cs48 ∧ Calls Try.prog 27 [(.agg cs48.toArray)].toArray w14 (fun e_9 w15 => ∃ s49 : Sl, e_9 = .returned (.slice s49.a s49.n s49.c) ∧
  Calls Try.prog 21 [(.slice s15_1.a s15_1.n s15_1.c), (.slice s49.a s49.n s49.c)].toArray w15 (fun e_10 w16 => ∃ b50 : Bool, e_10 = .returned (.bool b50) ∧
  cond b50 (cond (x15_2 == (0 : Int)) (Calls Try.prog 20 [].toArray w16 (fun e_11 w17 => ∃ b57 : Bool, e_11 = .returned (.bool b57) ∧
  J_2 b57 w17)) (J_2 false w16)) (J_2 false w16)))) (J_2 false w14))))))))))
theorem eq5 (s0 : Sl) (s1 : Sl) (R : Value → World → Prop) (w : World) : funV Try.prog Try.f5 An5 [(.slice s0.a s0.n s0.c), (.slice s1.a s1.n s1.c)] R w = S5 s0 s1 R w := by kernel_rfl
theorem call5 (s0 : Sl) (s1 : Sl) {R : Value → World → Prop} {w : World} (h : S5 s0 s1 R w) : Calls Try.prog 5 [(.slice s0.a s0.n s0.c), (.slice s1.a s1.n s1.c)].toArray w fun e w' => ∃ v, e = .returned v ∧ R v w' :=
  funV_calls mixed Try.func5 (an := An5) (by rw [eq5]; exact h)

end Go.Proofs.Ytoljknamnkkgcaa
/-
  Contract: the law RulesAgain.
-/
namespace Go.Proofs.Ytoljknamnkkgcaa
open Go Go.VC
set_option maxHeartbeats 1000000
set_option maxRecDepth 100000

theorem cut_len (n : Nat) (f : Fa) : (cut n f).args.length ≤ n := by simp [cut]; omega
theorem of_sz {L : List DR} {l : List Ru} (h : L.map DR.p = ofR l) : L.length ≤ 12 ∧ ∀ r ∈ L, SzR r := by
  refine ⟨by have := congrArg List.length h; simp [ofR] at this; omega, fun r hr => ?_⟩
  have hm : r.p ∈ ofR l := by rw [← h]; exact List.mem_map.2 ⟨r, hr, rfl⟩
  obtain ⟨q, _, hq⟩ := List.mem_map.1 hm
  have h1 : r.body.map DL.p = (q.body.take 5).map cutL := congrArg Ru.body hq.symm
  have hb : r.body.length ≤ 5 := by have := congrArg List.length h1; simp at this; omega
  refine ⟨by omega, fun x hx => ?_⟩
  rcases List.mem_cons.1 hx with rfl | hx
  · have h2 : r.head.p = cut 5 q.head := congrArg Ru.head hq.symm
    have := cut_len 5 q.head
    rw [← h2] at this
    exact Nat.le_trans this (by omega)
  · obtain ⟨b, hbm, rfl⟩ := List.mem_map.1 hx
    have : b.p ∈ (q.body.take 5).map cutL := by rw [← h1]; exact List.mem_map.2 ⟨b, hbm, rfl⟩
    obtain ⟨c, _, hc⟩ := List.mem_map.1 this
    have h2 : b.a.p = cut 5 c.a := congrArg Li.a hc.symm
    have := cut_len 5 c.a
    rw [← h2] at this
    exact Nat.le_trans this (by omega)
theorem facts_sz {L : List DF} {l : List Fa} (h : L.map DF.p = factsC l) : L.length ≤ 26 ∧ ∀ x ∈ L, x.args.length ≤ 9 := by
  refine ⟨by have := congrArg List.length h; simp [factsC] at this; omega, fun x hx => ?_⟩
  have hm : x.p ∈ factsC l := by rw [← h]; exact List.mem_map.2 ⟨x, hx, rfl⟩
  obtain ⟨q, _, hq⟩ := List.mem_map.1 hm
  have := cut_len 9 q
  rw [hq] at this
  exact this
theorem ofR_plain {l : List Ru} (h : PlainP l) : PlainP (ofR l) := by
  intro r hr b hb
  obtain ⟨q, hq, rfl⟩ := List.mem_map.1 hr
  obtain ⟨c, hc, rfl⟩ := List.mem_map.1 hb
  exact h q (List.mem_of_mem_take hq) c (List.mem_of_mem_take hc)
theorem IsL.giv {S : Ky → Prop} {l : List Fa} (h : IsL S l) (k : Ky) : giv l k ↔ S k := by
  constructor
  · rintro ⟨f, hf, rfl⟩
    obtain ⟨k, hk, rfl⟩ := (h.mem f).1 hf
    rw [Ky.fk]; exact hk
  · intro hk
    exact ⟨k.f, (h.mem _).2 ⟨k, hk, rfl⟩, Ky.fk k⟩
/-- The facts of a model go with the rules. -/
theorem again_valid {l : List Ru} {fs a : List Fa} {t : List Int} (hv : ValidP l fs) (h : IsL (Mdl l t (giv fs)) a) (hn : a.length ≤ 20) : ValidP l a := by
  obtain ⟨h1, h2⟩ := hv.ty
  have hty : ∀ k, Mdl l t (giv fs) k → TyK (allA l fs) k := Lay_ty hv.co h1 h2 6
  have hrl : ∀ x ∈ l.flatMap Ru.atoms, x ∈ allA l fs := fun x hx => List.mem_append_right _ hx
  refine ⟨hv.nl, hn, fun f hf => ?_, hv.ru, ?_⟩
  · obtain ⟨k, hk, rfl⟩ := (h.mem f).1 hf
    exact (hty k hk).ground
  · intro x hx y hy e
    rcases List.mem_append.1 hx with hx | hx <;> rcases List.mem_append.1 hy with hy | hy
    · obtain ⟨k, hk, rfl⟩ := (h.mem x).1 hx
      obtain ⟨k', hk', rfl⟩ := (h.mem y).1 hy
      -- both of one Rel: by an atom of it, or by the shapes
      have e' : k.rel = k'.rel := e
      by_cases hex : ∃ g ∈ allA l fs, g.rel = k.rel
      · obtain ⟨g, hg, eg⟩ := hex
        have h3 := (hty k hk).len g hg eg
        have h4 := (hty k' hk').len g hg (by rw [eg, e'])
        omega
      · -- there is no atom of this Rel: then no fact either
        exfalso
        have : ∀ k, Mdl l t (giv fs) k → ∃ g ∈ allA l fs, g.rel = k.rel := fun k hk => by
          have hl : ∀ n k, Lay l t (giv fs) n k → ∃ g ∈ allA l fs, g.rel = k.rel := by
            intro n
            induction n with
            | zero =>
              rintro k ⟨f, hf, rfl⟩
              exact ⟨f, List.mem_append_left _ hf, rfl⟩
            | succ n ih =>
              intro k hk
              exact hk (fun k => ∃ g ∈ allA l fs, g.rel = k.rel) ih fun r hr u _ _ => ⟨r.head, (h2 r (List.mem_filter.1 hr).1).2 _ (by simp [Ru.atoms]), rfl⟩
          exact hl 6 k hk
        exact hex (this k hk)
    · obtain ⟨k, hk, rfl⟩ := (h.mem x).1 hx
      exact ((hty k hk).len y (hrl y hy) e.symm).symm
    · obtain ⟨k, hk, rfl⟩ := (h.mem y).1 hy
      exact (hty k hk).len x (hrl x hx) e
    · exact hv.co x (hrl x hx) y (hrl y hy) e
theorem again_mdl {l : List Ru} (hp : PlainP l) {fs a : List Fa} (h : IsL (Mdl l zero6 (giv fs)) a) (k : Ky) : Mdl l zero6 (giv a) k ↔ Mdl l zero6 (giv fs) k := by
  rw [Mdl_plain hp (fun _ => False), Mdl_plain hp (fun _ => False)]
  have hg : ∀ k, giv a k ↔ Cl l (giv fs) (fun _ => False) k := fun k => by rw [h.giv, Mdl_plain hp (fun _ => False)]
  refine Cl.eq (fun k hk => (hg k).1 hk) (Cl.closed _ _ _) (fun k hk => Cl.base ((hg k).2 hk)) k
theorem c3 {w : World} {s s' : Sl} {l : List DR} {fs : List DF} (hs : NR w s l) (hf : NF w s' fs) (hl : l.length ≤ big) (hb : ∀ r ∈ l, r.body.length ≤ big) (hfl : fs.length ≤ big) :
    Calls Try.prog 3 [.slice s.a s.n s.c, .slice s'.a s'.n s'.c].toArray w fun e w' => e = .returned (.bool true) ∧ Ext w w' := by
  refine (call3 s s' (R := fun v w' => v = .bool true ∧ Ext w w') ?_).mono fun e w' ⟨v, he, hv, hx⟩ => ⟨by rw [he, hv], hx⟩
  refine (c17 hs hl hb).mono fun e w1 ⟨s10, L, he, hL, hLp, x1⟩ => ⟨s10, he, ?_⟩
  refine (c18 (hf.ext x1) hfl).mono fun e w2 ⟨s12, F, he, hFo, hFt, hFp, x2⟩ => ⟨s12, he, ?_⟩
  have hF : NF w2 s12 F := ⟨hFo.sli, fun x hx => (hFt x hx).i⟩
  obtain ⟨hL12, hLz⟩ := of_sz hLp
  obtain ⟨hF26, hFz⟩ := facts_sz hFp
  refine (c16 (hL.ext x2) hF (by omega) (by omega) hLz (fun f hf => by have := hFz f hf; omega)).mono fun e w3 ⟨s13, x, A, he, hA, hAl, hcase, x3⟩ => ⟨s13, x, he, ?_⟩
  have x03 := (x1.trans x2).trans x3
  have hAn := hA.len
  refine ⟨fun (b27 : Bool) w4 => (b27 = false → x = 0 ∧ PlainP (l.map DR.p) ∧ A.length ≤ 20) ∧ Ext w3 w4, ?_, ?_⟩
  rotate_left
  · refine cond_intro (fun _ => ⟨(fun h => by cases h), Fr.refl _ _⟩) (fun g => ?_)
    have g : x = 0 := by simpa using g
    refine (c19 (hs.ext x03) hl hb).mono fun e w14 ⟨b, he, hbp, x14⟩ => ⟨b, he, cond_intro (fun _ => ⟨(fun h => by cases h), x14⟩) (fun g2 => ⟨fun g3 => ?_, x14⟩)⟩
    have g2 : b = true := by simpa using g2
    exact ⟨g, hbp.1 g2, by simp [hAn] at g3; omega⟩
  rintro b27 w4 ⟨hb27, x4⟩
  have x04 := x03.trans x4
  refine cond_intro (fun _ => ?_) (fun g => ?_)
  · refine Join.dir (cond_intro (fun _ => (c20 w4).mono fun e w6 ⟨he, x6⟩ => ⟨_, he, rfl, x04.trans x6⟩) (fun g1 => cond_intro (fun _ => (c20 w4).mono fun e w6 ⟨he, x6⟩ => ⟨_, he, rfl, x04.trans x6⟩) (fun g2 => cond_intro (fun _ => (c20 w4).mono fun e w6 ⟨he, x6⟩ => ⟨_, he, rfl, x04.trans x6⟩) (fun g3 => ?_))))
    rcases hcase with ⟨_, h, _⟩ | ⟨_, _, h, _⟩ | ⟨_, t, _, h, _⟩ <;> subst h <;> simp at g1 g2 g3
  obtain ⟨hx0, hpl, hA20⟩ := hb27 g
  have hplo := ofR_plain hpl
  rw [← hLp] at hplo
  rcases hcase with ⟨_, h, _⟩ | ⟨_, _, h, _⟩ | ⟨hv, t, ht, _, hIs⟩
  · omega
  · omega
  have := ht.uniq (plain_str hplo)
  subst this
  have hv2 := again_valid hv hIs (by simpa using hA20)
  refine (c17 (hs.ext x04) hl hb).mono fun e w9 ⟨s43, L2, he, hL2, hLp2, x9⟩ => ⟨s43, he, ?_⟩
  have eL2 : L2.map DR.p = L.map DR.p := by rw [hLp2, hLp]
  obtain ⟨hL12', hLz'⟩ := of_sz hLp2
  have hAa : ∀ f ∈ A, f.args.length ≤ 2 := fun f hf => (hv2.gr f.p (List.mem_map.2 ⟨f, hf, rfl⟩)).2.2.2.1
  refine (c16 hL2 (hA.ext (x4.trans x9)) (by omega) (by omega) hLz' (fun f hf => by have := hAa f hf; omega)).mono fun e w10 ⟨s45, x', A2, he, hA2, hAl2, hcase2, x10⟩ => ⟨s45, x', he, ?_⟩
  rw [eL2] at hcase2
  rcases hcase2 with ⟨h, _⟩ | ⟨_, h, _⟩ | ⟨_, t2, ht2, rfl, hIs2⟩
  · exact absurd hv2 h
  · exact absurd ⟨_, ht⟩ h
  have := ht2.uniq ht
  subst this
  have heq : A.map DF.p = A2.map DF.p := hIs.uniq (hIs2.congr (again_mdl hplo hIs))
  have x09 := (x04.trans x9).trans x10
  refine Join.dir (cond_intro (fun _ => ?_) (fun h => by simp at h))
  refine (c21 (hA.ext ((x4.trans x9).trans x10)) hA2 (by show A.length ≤ 9223372036854775807; omega) (fun y hy => by have := hAa y hy; show y.args.length ≤ 9223372036854775807; omega)).mono fun e w12 ⟨he, x12⟩ => ⟨_, he, ?_⟩
  refine cond_intro (fun _ => ?_) (fun h => by simp [heq] at h)
  exact (c20 w12).mono fun e w13 ⟨he, x13⟩ => ⟨_, he, rfl, (x09.trans x12).trans x13⟩
end Go.Proofs.Ytoljknamnkkgcaa
/-
  Contract: validity as the reference has it.
-/
namespace Go.Proofs.Ytoljknamnkkgcaa
open Go Go.VC
set_option maxHeartbeats 1000000
set_option maxRecDepth 100000

/-- All Args are in a range, there are one or two, and the Rel is in range. -/
def RangeF (lo hi : Int) (f : Fa) : Prop := 0 ≤ f.rel ∧ f.rel ≤ 5 ∧ 1 ≤ f.args.length ∧ f.args.length ≤ 2 ∧ ∀ x ∈ f.args, lo ≤ x ∧ x ≤ hi
instance (lo hi : Int) (f : Fa) : Decidable (RangeF lo hi f) := by unfold RangeF; infer_instance
theorem rangeW {w : World} {x : DF} {T : TypeId} {lo up : Int} (hx : Ints w x.sl x.args) (hl : x.args.length ≤ big) {R : Value → World → Prop} (hR : ∀ b w', (b = true ↔ RangeF lo up x.p) → Ext w w' → R (.bool b) w') :
    Let (w.alloc (.cells [(.int .i64 x.rel), (.slice x.sl.a x.sl.n x.sl.c)].toArray T)) fun w1 =>
    ∃ s6 : Sl, World.cell? w1 ⟨w.heap.size, (0 + 1), none⟩ = some (.slice s6.a s6.n s6.c) ∧ Join [] (fun (w2 : World) => Join [(2, .bool)] (fun (b2 : Bool) (w3 : World) => R (.bool b2) w3) (fun J =>
    ∃ x20 : Int, World.cell? w2 ⟨w.heap.size, (0 + 0), none⟩ = some (.int .i64 x20) ∧ cond (decide (x20 ≥ (0 : Int))) (∃ x24 : Int, World.cell? w2 ⟨w.heap.size, (0 + 0), none⟩ = some (.int .i64 x24) ∧ cond (decide (x24 ≤ (5 : Int))) (∃ s29 : Sl, World.cell? w2 ⟨w.heap.size, (0 + 1), none⟩ = some (.slice s29.a s29.n s29.c) ∧ cond (decide (((s29.n : Nat) : Int) ≥ (1 : Int))) (∃ s35 : Sl, World.cell? w2 ⟨w.heap.size, (0 + 1), none⟩ = some (.slice s35.a s35.n s35.c) ∧ J (decide (((s35.n : Nat) : Int) ≤ (2 : Int))) w2) (J false w2)) (J false w2)) (J false w2))) (fun J_2 =>
    LoopV [(8, .int .i64)] (fun K => K (0 : Int) w1) (fun N => fun (x8 : Int) (w4 : World) =>
    cond (decide (x8 < ((s6.n : Nat) : Int))) (
    Join [] (fun (w5 : World) => N (IntKind.wrap .i64 (x8 + (1 : Int))) w5) (fun J_3 =>
    ∃ p10 : Pt, s6.a = some ⟨p10.b, p10.o, none⟩ ∧ 0 ≤ x8 ∧ x8 < ((s6.n : Nat) : Int) ∧ ∃ x11 : Int, World.cell? w4 ⟨p10.b, (p10.o + Int.toNat x8 * 1), none⟩ = some (.int .i64 x11) ∧ Join [(17, .bool)] (fun (b17 : Bool) (w6 : World) => cond b17 (
    R (.bool false) w6) (
    J_3 w6)) (fun J_4 =>
    cond (decide (x11 < lo)) (J_4 true w4) (J_4 (decide (x11 > up)) w4)))) (
    J_2 w4))) := by
  have hn := hx.len
  obtain ⟨b1, x1⟩ := eF_cells w x T
  refine Let.intro fun w1 e1 => ?_
  have e1 : w1 = w.alloc (.cells (eF x).toArray T) := e1
  rw [← e1] at b1 x1
  refine ⟨x.sl, b1.cell 1, ?_⟩
  refine ⟨fun w2 => Ext w1 w2 ∧ ∀ y ∈ x.args, lo ≤ y ∧ y ≤ up, ?_, ?_⟩
  · rintro w2 ⟨x2, hall⟩
    have b2 := b1.ext x2
    have x02 := x1.trans x2
    refine Join.dir ⟨x.rel, b2.cell 0, cond_intro (fun g1 => ⟨x.rel, b2.cell 0, cond_intro (fun g2 => ⟨x.sl, b2.cell 1, cond_intro (fun g3 => ⟨x.sl, b2.cell 1, hR _ _ ?_ x02⟩) (fun g3 => hR _ _ ?_ x02)⟩) (fun g2 => hR _ _ ?_ x02)⟩) (fun g1 => hR _ _ ?_ x02)⟩
    · have g1 : 0 ≤ x.rel := by simpa using g1
      have g2 : x.rel ≤ 5 := by simpa using g2
      have g3 : 1 ≤ x.args.length := by simp [hn] at g3; omega
      simp only [decide_eq_true_eq]
      constructor
      · intro h; exact ⟨g1, g2, g3, by show x.args.length ≤ 2; omega, hall⟩
      · intro h; have : x.args.length ≤ 2 := h.2.2.2.1; omega
    · have g3 : ¬ 1 ≤ x.args.length := by simp [hn] at g3; omega
      simp only [Bool.false_eq_true, false_iff]; exact fun h => g3 h.2.2.1
    · have g2 : ¬ x.rel ≤ 5 := by simpa using g2
      simp only [Bool.false_eq_true, false_iff]; exact fun h => g2 h.2.1
    · have g1 : ¬ 0 ≤ x.rel := by simpa using g1
      simp only [Bool.false_eq_true, false_iff]; exact fun h => g1 h.1
  · refine rangeI (fun i w4 => Ext w1 w4 ∧ ∀ y ∈ x.args.take i, lo ≤ y ∧ y ≤ up) (by rw [hn]; exact hl) ⟨Fr.refl _ _, by simp⟩ ?_ ?_
    · rintro i hi w4 ⟨x4, hok⟩ K hK
      have hi : i < x.args.length := by omega
      obtain ⟨p, hp, a1, a2, hr⟩ := Ints.at ((hx.ext x1).ext x4) hi
      refine ⟨p, hp, a1, a2, _, hr, ?_⟩
      refine ⟨fun (b17 : Bool) w6 => (b17 = true ↔ ¬ (lo ≤ x.args[i] ∧ x.args[i] ≤ up)) ∧ w6 = w4, ?_, ?_⟩
      · rintro b17 w6 ⟨hb, rfl⟩
        refine cond_intro (fun g => hR _ _ ?_ (x1.trans x4)) (fun g => hK _ ⟨x4, fun y hy => ?_⟩)
        · simp only [Bool.false_eq_true, false_iff]
          exact fun h => hb.1 g (h.2.2.2.2 _ (List.getElem_mem hi))
        · rw [List.take_succ_eq_append_getElem hi, List.mem_append, List.mem_singleton] at hy
          rcases hy with hy | rfl
          · exact hok y hy
          · exact Classical.byContradiction fun h => by rw [hb.2 h] at g; cases g
      · refine cond_intro (fun g => ⟨?_, rfl⟩) (fun g => ⟨?_, rfl⟩)
        · have g : x.args[i] < lo := by simpa using g
          simp only [true_iff]; omega
        · have g : ¬ x.args[i] < lo := by simpa using g
          simp only [decide_eq_true_eq]; omega
    · rintro w2 ⟨x2, hok⟩
      rw [hn, List.take_length] at hok
      exact ⟨x2, hok⟩
theorem c31 {w : World} {x : DF} (hx : Ints w x.sl x.args) (hl : x.args.length ≤ big) :
    Calls Try.prog 31 [.agg [.int .i64 x.rel, .slice x.sl.a x.sl.n x.sl.c].toArray].toArray w fun e w' => ∃ b : Bool, e = .returned (.bool b) ∧ (b = true ↔ GroundF x.p) ∧ Ext w w' := by
  refine (call31 x.rel x.sl (R := fun v w' => ∃ b : Bool, v = .bool b ∧ (b = true ↔ GroundF x.p) ∧ Ext w w') ?_).mono fun e w' ⟨v, he, b, hv, hx⟩ => ⟨b, by rw [he, hv], hx⟩
  exact rangeW (T := 36) hx hl (R := fun v w' => ∃ b : Bool, v = .bool b ∧ (b = true ↔ GroundF x.p) ∧ Ext w w') fun b w' h1 h2 => ⟨b, rfl, h1, h2⟩
theorem c62 {w : World} {x : DF} (hx : Ints w x.sl x.args) (hl : x.args.length ≤ big) :
    Calls Try.prog 62 [.agg [.int .i64 x.rel, .slice x.sl.a x.sl.n x.sl.c].toArray].toArray w fun e w' => ∃ b : Bool, e = .returned (.bool b) ∧ (b = true ↔ FitsF x.p) ∧ Ext w w' := by
  refine (call62 x.rel x.sl (R := fun v w' => ∃ b : Bool, v = .bool b ∧ (b = true ↔ FitsF x.p) ∧ Ext w w') ?_).mono fun e w' ⟨v, he, b, hv, hx⟩ => ⟨b, by rw [he, hv], hx⟩
  exact rangeW (T := 91) hx hl (R := fun v w' => ∃ b : Bool, v = .bool b ∧ (b = true ↔ FitsF x.p) ∧ Ext w w') fun b w' h1 h2 => ⟨b, rfl, h1, h2⟩
/-! ### sets of variables as bits -/
structure Bs (m : Int) (Q : Nat → Prop) : Prop where
  ex : ∃ n : Nat, m = n ∧ n < 256 ∧ ∀ i, n.testBit i = true ↔ Q i
theorem Bs.congr {m : Int} {Q Q' : Nat → Prop} (h : Bs m Q) (e : ∀ i, Q i ↔ Q' i) : Bs m Q' := by
  obtain ⟨n, h1, h2, h3⟩ := h.ex; exact ⟨n, h1, h2, fun i => (h3 i).trans (e i)⟩
theorem Bs.zero : Bs 0 fun _ => False := ⟨0, rfl, by omega, fun i => by simp⟩
theorem or_nat {a b : Nat} (ha : a < 256) (hb : b < 256) : bitsI .or .i64 (a : Int) (b : Int) = ((a ||| b : Nat) : Int) := by
  have h := Nat.or_lt_two_pow (x := a) (y := b) (n := 8) ha hb
  show IntKind.wrap .i64 ((BitVec.ofInt 64 (a : Int) ||| BitVec.ofInt 64 (b : Int)).toNat : Int) = _
  have e1 : (BitVec.ofInt 64 (a : Int)).toNat = a := by rw [BitVec.toNat_ofInt]; omega
  have e2 : (BitVec.ofInt 64 (b : Int)).toNat = b := by rw [BitVec.toNat_ofInt]; omega
  rw [BitVec.toNat_or, e1, e2, wrap64 (by omega) (by omega)]
theorem Bs.or {m m' : Int} {Q Q' : Nat → Prop} (h : Bs m Q) (h' : Bs m' Q') : Bs (bitsI .or .i64 m m') fun i => Q i ∨ Q' i := by
  obtain ⟨n, rfl, h2, h3⟩ := h.ex
  obtain ⟨n', rfl, h2', h3'⟩ := h'.ex
  refine ⟨n ||| n', or_nat h2 h2', Nat.or_lt_two_pow (n := 8) h2 h2', fun i => ?_⟩
  rw [Nat.testBit_or, Bool.or_eq_true, h3, h3']
theorem Bs.bit {x : Int} (h0 : 0 ≤ x) (h7 : x ≤ 7) : Bs (IntKind.wrap .i64 ((1 : Int) * 2 ^ (min (Int.toNat x) (IntKind.bits .i64)))) fun i => (i : Int) = x := by
  obtain ⟨k, rfl⟩ : ∃ k : Nat, x = k := ⟨x.toNat, by omega⟩
  have hk : k ≤ 7 := by omega
  refine ⟨2 ^ k, ?_, ?_, fun i => ?_⟩
  · have e : min (Int.toNat (k : Int)) (IntKind.bits .i64) = k := by
      have : Int.toNat (k : Int) = k := by omega
      rw [this]; exact Nat.min_eq_left (by show k ≤ 64; omega)
    rw [e]
    have e2 : (1 : Int) * 2 ^ k = ((2 ^ k : Nat) : Int) := by rw [Int.one_mul, Int.natCast_pow]; rfl
    rw [e2]
    have := Nat.pow_le_pow_right (n := 2) (by omega) hk
    generalize 2 ^ k = M at this
    exact wrap64 (by omega) (by omega)
  · exact Nat.lt_of_le_of_lt (Nat.pow_le_pow_right (n := 2) (by omega) hk) (by decide)
  · rw [Nat.testBit_two_pow]
    simp only [decide_eq_true_eq]
    omega
theorem Bs.eq {m m' : Int} {Q Q' : Nat → Prop} (h : Bs m Q) (h' : Bs m' Q') : m = m' ↔ ∀ i, Q i ↔ Q' i := by
  obtain ⟨n, rfl, h2, h3⟩ := h.ex
  obtain ⟨n', rfl, h2', h3'⟩ := h'.ex
  constructor
  · intro e i
    have : n = n' := by omega
    subst this
    rw [← h3, ← h3']
  · intro e
    have : n = n' := Nat.eq_of_testBit_eq fun i => by
      have := (h3 i).trans ((e i).trans (h3' i).symm)
      cases h1 : n.testBit i <;> cases h2 : n'.testBit i <;> simp_all
    rw [this]
/-- Is a number a variable of an atom? -/
def IsV (f : Fa) (i : Nat) : Prop := (i : Int) ∈ f.args
theorem c63 {w : World} {x : DF} (hx : Ints w x.sl x.args) (hf : FitsF x.p) :
    Calls Try.prog 63 [.agg [.int .i64 x.rel, .slice x.sl.a x.sl.n x.sl.c].toArray].toArray w fun e w' => ∃ m : Int, e = .returned (.int .i64 m) ∧ Bs m (IsV x.p) ∧ Ext w w' := by
  refine (call63 x.rel x.sl (R := fun v w' => ∃ m : Int, v = .int .i64 m ∧ Bs m (IsV x.p) ∧ Ext w w') ?_).mono fun e w' ⟨v, he, b, hv, hx⟩ => ⟨b, by rw [he, hv], hx⟩
  have hn := hx.len
  have hl2 : x.args.length ≤ 2 := hf.2.2.2.1
  obtain ⟨b1, x1⟩ := eF_cells w x 91
  refine Let.intro fun w1 e1 => ?_
  have e1 : w1 = w.alloc (.cells (eF x).toArray 91) := e1
  rw [← e1] at b1 x1
  refine ⟨x.sl, b1.cell 1, Join.dir (rangeKI (k := .int .i64) (fun i (m : Int) w3 => Bs m (fun j => (j : Int) ∈ x.args.take i) ∧ Ext w w3) (by rw [hn]; show x.args.length ≤ 9223372036854775807; omega) ⟨Bs.zero.congr fun i => by simp, x1⟩ ?_ ?_)⟩
  · rintro i hi m w3 ⟨hm, x3⟩ K hK
    have hi : i < x.args.length := by omega
    obtain ⟨p, hp, a1, a2, hr⟩ := Ints.at (hx.ext x3) hi
    have hb : -6 ≤ x.args[i] ∧ x.args[i] ≤ 7 := hf.2.2.2.2 _ (List.getElem_mem hi)
    refine ⟨p, hp, a1, a2, _, hr, Join.dir (cond_intro (fun g => ?_) (fun g => ?_))⟩
    · have g : 0 ≤ x.args[i] := by simpa using g
      refine ⟨g, hK _ _ ⟨(hm.or (Bs.bit g hb.2)).congr fun j => ?_, x3⟩⟩
      rw [List.take_succ_eq_append_getElem hi, List.mem_append, List.mem_singleton]
    · have g : ¬ 0 ≤ x.args[i] := by simpa using g
      refine hK _ _ ⟨hm.congr fun j => ?_, x3⟩
      rw [List.take_succ_eq_append_getElem hi, List.mem_append, List.mem_singleton]
      constructor
      · exact .inl
      · rintro (h | h)
        · exact h
        · omega
  · rintro m w3 ⟨hm, x3⟩
    rw [hn, List.take_length] at hm
    exact ⟨m, rfl, hm, x3⟩
/-! ### valid -/
abbrev eP (x : Int × Int) : List Value := [.int .i64 x.1, .int .i64 x.2]
theorem eP_len (x : Int × Int) : (eP x).length = 2 := rfl
theorem eP_one (x : Int × Int) : ∀ v ∈ eP x, v.oneCell' = true := by intro v hv; simp [eP] at hv; rcases hv with rfl | rfl <;> rfl
theorem E113 : Elem Try.prog 113 114 2 16 := Elem.of (by kernel_rfl) (by kernel_rfl) (by decide)
theorem zc114s : (zc Try.prog 114).size = 2 := by kernel_rfl
def szF (f : Fa) : Int × Int := (f.rel, (f.args.length : Int))
theorem consist_sz {l : List Fa} : Consist l ↔ ∀ x ∈ l.map szF, ∀ y ∈ l.map szF, x.1 = y.1 → x.2 = y.2 := by
  unfold Consist
  constructor
  · intro h x hx y hy e
    obtain ⟨f, hf, rfl⟩ := List.mem_map.1 hx
    obtain ⟨g, hg, rfl⟩ := List.mem_map.1 hy
    have := h f hf g hg e
    simp [szF, this]
  · intro h f hf g hg e
    have := h _ (List.mem_map.2 ⟨f, hf, rfl⟩) _ (List.mem_map.2 ⟨g, hg, rfl⟩) e
    simp only [szF] at this
    omega
/-- A pair appended. -/
theorem appP {B : Nat} {w : World} {s : Sl} {l : List (Int × Int)} (ho : Own 114 2 eP B w s l) (x : Int × Int) (hl : l.length ≤ 1000000) (hB : B ≤ w.heap.size) :
    ∃ (s1 : Sl) (w1 : World), (Instr.buildSlice 113 1 [(0, .agg [.int .i64 x.1, .int .i64 x.2].toArray)].toArray).run Try.prog w = .ok (.slice s1.a s1.n s1.c) w1 ∧
      ∃ (s' : Sl) (w' : World), (Builtin.append_ #[113, 113] 113 #[.slice s.a s.n s.c, .slice s1.a s1.n s1.c]).run Try.prog w1 = .ok (.slice s'.a s'.n s'.c) w' ∧ Own 114 2 eP B w' s' (l ++ [x]) ∧ Fr (BlS s) w w' :=
  appendOne E113 ho (x := x) rfl eP_len eP_one (by omega) (by omega) (by simp only [maxLen]; omega) hB 113
/-- All variables of a rule are in literals without Not. -/
theorem safe_bits {r : Ru} {a b : Int} (ha : Bs a fun i => ∃ f ∈ r.atoms, IsV f i) (hb : Bs b fun i => ∃ c ∈ r.body, c.neg = false ∧ IsV c.a i) : a = b ↔ SafeP r := by
  rw [ha.eq hb]
  constructor
  · intro h f hf x hx h0
    obtain ⟨k, rfl⟩ : ∃ k : Nat, x = k := ⟨x.toNat, by omega⟩
    exact (h k).1 ⟨f, hf, hx⟩
  · intro h i
    constructor
    · rintro ⟨f, hf, hx⟩
      exact h f hf _ hx (by omega)
    · rintro ⟨c, hc, _, hx⟩
      exact ⟨c.a, by simp [Ru.atoms]; exact .inr ⟨c, hc, rfl⟩, hx⟩
end Go.Proofs.Ytoljknamnkkgcaa
/-
  Contract: Valid of the reference.
-/
namespace Go.Proofs.Ytoljknamnkkgcaa
open Go Go.VC
set_option maxHeartbeats 1000000
set_option maxRecDepth 100000

theorem rdPair {w : World} {s : Sl} {l : List (Int × Int)} (hs : Sli 2 eP w s l) {i : Nat} (hi : i < l.length) {B : World → Prop}
    (hB : ∀ w5, Blk w5 w.heap.size (eP l[i]) 114 → Ext w w5 → B w5) :
    ∃ p : Pt, s.a = some ⟨p.b, p.o, none⟩ ∧ 0 ≤ (i : Int) ∧ (i : Int) < ((s.n : Nat) : Int) ∧ ∃ a : Int, ∃ b : Int, rd w p.b (p.o + Int.toNat (i : Int) * 2) [.int .i64 a, .int .i64 b] ∧
      Let (w.alloc (.cells (zc Try.prog 114) 114)) fun w4 => StoreOk w4 w.heap.size 0 [.int .i64 a, .int .i64 b] 2 ∧ Let (put w4 w.heap.size 0 [.int .i64 a, .int .i64 b]) fun w5 => B w5 := by
  obtain ⟨p, hp, h2, h3, hr⟩ := Sli.at eP_len hs hi
  obtain ⟨a, b, c⟩ := new_var w 114 (z := zc Try.prog 114) (vs := eP l[i]) (by rw [zc114s, eP_len]) (eP_one _)
  exact ⟨p, hp, h2, h3, _, _, hr, a, hB _ b c⟩
theorem flat_len {l : List Ru} (h : ∀ r ∈ l, r.body.length ≤ 3) : (l.flatMap Ru.atoms).length ≤ 4 * l.length := by
  induction l with
  | nil => simp
  | cons r q ih =>
    have h1 := h r (by simp)
    have h2 := ih fun r' hr' => h r' (by simp [hr'])
    simp only [List.flatMap_cons, List.length_append, List.length_cons, Ru.atoms, List.length_map] at h2 ⊢
    omega
theorem c22 {w : World} {s s' : Sl} {l : List DR} {fs : List DF} (hs : NR w s l) (hf : NF w s' fs) (hl : l.length ≤ big) (hfl : fs.length ≤ big) (hb : ∀ r ∈ l, r.body.length ≤ big) (ha : ∀ r ∈ l, ∀ x ∈ r.atoms, x.args.length ≤ big) (hfa : ∀ x ∈ fs, x.args.length ≤ big) :
    Calls Try.prog 22 [.slice s.a s.n s.c, .slice s'.a s'.n s'.c].toArray w fun e w' => ∃ b : Bool, e = .returned (.bool b) ∧ (b = true ↔ ValidP (l.map DR.p) (fs.map DF.p)) ∧ Ext w w' := by
  refine (call22 s s' (R := fun v w' => ∃ b : Bool, v = .bool b ∧ (b = true ↔ ValidP (l.map DR.p) (fs.map DF.p)) ∧ Ext w w') ?_).mono fun e w' ⟨v, he, b, hv, hx⟩ => ⟨b, by rw [he, hv], hx⟩
  have hn := hs.len
  have hfn := hf.len
  have no : ∀ {w' : World}, Ext w w' → ¬ ValidP (l.map DR.p) (fs.map DF.p) → ∃ b : Bool, Value.bool false = .bool b ∧ (b = true ↔ ValidP (l.map DR.p) (fs.map DF.p)) ∧ Ext w w' := fun hx hv => ⟨false, rfl, by simp [hv], hx⟩
  refine ⟨fun (b25 : Bool) w1 => (b25 = true ↔ l.length > 10 ∨ fs.length > 20) ∧ w1 = w, ?_, ?_⟩
  rotate_left
  · refine cond_intro (fun g => ⟨?_, rfl⟩) (fun g => ⟨?_, rfl⟩)
    · have g : l.length > 10 := by simp [hn] at g; omega
      simp [g]
    · have g : ¬ l.length > 10 := by simp [hn] at g; omega
      simp [g, hfn]; omega
  rintro b25 w1 ⟨hb25, rfl⟩
  refine cond_intro (fun g => ?_) (fun g => ?_)
  · refine no (Fr.refl _ _) fun hv => ?_
    have h1 := hv.nl
    have h2 := hv.nf
    simp at h1 h2
    rcases hb25.1 g with h | h <;> omega
  have hl10 : l.length ≤ 10 := Nat.le_of_not_lt fun h => by rw [hb25.2 (.inl h)] at g; cases g
  have hf20 : fs.length ≤ 20 := Nat.le_of_not_lt fun h => by rw [hb25.2 (.inr h)] at g; cases g
  refine ⟨fun s5 w2 => Own 114 2 eP w1.heap.size w2 s5 ((fs.map DF.p).map szF) ∧ (∀ f ∈ fs, GroundF f.p) ∧ Ext w1 w2, ?_, ?_⟩
  rotate_left
  · -- the facts
    refine rangeSI (fun i (s5 : Sl) w2 => Own 114 2 eP w1.heap.size w2 s5 (((fs.take i).map DF.p).map szF) ∧ (∀ f ∈ fs.take i, GroundF f.p) ∧ Ext w1 w2) (by rw [hfn]; exact hfl) ⟨Own.nil .., by simp, Fr.refl _ _⟩ ?_ ?_
    · rintro i hi s5 w35 ⟨ho, hgr, x35⟩ K hK
      have hi : i < fs.length := by omega
      have hm := List.getElem_mem hi
      refine loadF (hf.ext x35) hi zc36 fun w38 b38 x38 => ⟨_, _, b38.rd, ?_⟩
      have x038 := x35.trans x38
      refine (c31 ((hf.ok _ hm).ext x038) (hfa _ hm)).mono fun e w39 ⟨c, he, hc, x39⟩ => ⟨c, he, cond_intro (fun g => ?_) (fun g => ?_)⟩
      · have g : c = false := by simpa using g
        refine no (x038.trans x39) fun hv => ?_
        rw [hc.2 (hv.gr _ (List.mem_map.2 ⟨_, hm, rfl⟩))] at g; cases g
      have g : c = true := by simpa using g
      have b39 := b38.ext x39
      have hsl := (hf.ok _ hm).len
      refine ⟨_, b39.cell 0, _, b39.cell 1, ?_⟩
      obtain ⟨q1, w40, hb40, q2, w41, hr41, ho41, hf41⟩ := appP (ho.ext (x38.trans x39)) ((fs[i]).rel, (((fs[i]).sl.n : Nat) : Int)) (by simp; omega) (by have := (x038.trans x39).size; exact this)
      refine ⟨q1, w40, hb40, q2, w41, hr41, hK _ _ ⟨?_, fun f hf' => ?_, (x038.trans x39).newer hf41 fun y ⟨a, ha', e⟩ => by have := ((ho.ext (x38.trans x39)).base ha').1; omega⟩⟩
      · rw [List.take_succ_eq_append_getElem hi, List.map_append, List.map_append]
        rw [hsl] at ho41; exact ho41
      · rw [List.take_succ_eq_append_getElem hi, List.mem_append, List.mem_singleton] at hf'
        rcases hf' with hf' | rfl
        · exact hgr f hf'
        · exact hc.1 g
    · rintro s5 w2 ⟨ho, hgr, x2⟩
      rw [hfn, List.take_length] at ho hgr
      exact ⟨ho, hgr, x2⟩
  rintro s5 w2 ⟨ho2, hgr, x2⟩
  refine ⟨fun s5 w3 => Own 114 2 eP w1.heap.size w3 s5 ((fs.map DF.p ++ (l.map DR.p).flatMap Ru.atoms).map szF) ∧ (∀ r ∈ l, RuleP r.p) ∧ Ext w1 w3, ?_, ?_⟩
  · -- the sizes
    rintro s5 w3 ⟨ho3, hru, x3⟩
    generalize hS : (fs.map DF.p ++ (l.map DR.p).flatMap Ru.atoms).map szF = S at ho3
    have hco : Consist (fs.map DF.p ++ (l.map DR.p).flatMap Ru.atoms) ↔ ∀ x ∈ S, ∀ y ∈ S, x.1 = y.1 → x.2 = y.2 := by rw [← hS]; exact consist_sz
    have hSl : S.length ≤ 60 := by
      rw [← hS]
      have := flat_len (l := l.map DR.p) fun r hr => by obtain ⟨q, hq, rfl⟩ := List.mem_map.1 hr; exact (hru q hq).1
      simp at this ⊢; omega
    have h5n := ho3.sli.len
    refine Join.dir (rangeI (fun i w5 => (∀ x ∈ S.take i, ∀ y ∈ S, x.1 = y.1 → x.2 = y.2) ∧ Ext w3 w5) (by rw [h5n]; show S.length ≤ 9223372036854775807; omega) ⟨by simp, Fr.refl _ _⟩ ?_ ?_)
    · rintro i hi w5 ⟨hok, x5⟩ K hK
      have hi : i < S.length := by omega
      refine rdPair (ho3.ext x5).sli hi fun w8 b8 x8 => ?_
      refine Join.dir (rangeI (fun j w10 => (∀ y ∈ S.take j, S[i].1 = y.1 → S[i].2 = y.2) ∧ Ext w8 w10) (by rw [h5n]; show S.length ≤ 9223372036854775807; omega) ⟨by simp, Fr.refl _ _⟩ ?_ ?_)
      · rintro j hj w10 ⟨hok2, x10⟩ K2 hK2
        have hj : j < S.length := by omega
        refine rdPair ((ho3.ext x5).ext (x8.trans x10)).sli hj fun w13 b13 x13 => ?_
        have b8' := (b8.ext x10).ext x13
        have x013 := ((x3.trans x5).trans (x8.trans x10)).trans x13
        refine ⟨fun (b138 : Bool) w14 => (b138 = true ↔ ¬ (S[i].1 = S[j].1 → S[i].2 = S[j].2)) ∧ w14 = w13, ?_, ?_⟩
        · rintro b138 w14 ⟨hb138, rfl⟩
          refine cond_intro (fun g => no x013 fun hv => ?_) (fun g => hK2 _ ⟨fun y hy => ?_, x10.trans x13⟩)
          · exact hb138.1 g fun e => hco.1 hv.co _ (List.getElem_mem hi) _ (List.getElem_mem hj) e
          · rw [List.take_succ_eq_append_getElem hj, List.mem_append, List.mem_singleton] at hy
            rcases hy with hy | rfl
            · exact hok2 y hy
            · exact Classical.byContradiction fun h => by rw [hb138.2 h] at g; cases g
        · refine ⟨by decide, by decide, _, b8'.cell 0, by decide, by decide, _, b13.cell 0, cond_intro (fun g => ⟨by decide, by decide, _, b8'.cell 1, by decide, by decide, _, b13.cell 1, ?_, rfl⟩) (fun g => ⟨?_, rfl⟩)⟩
          · have g : S[i].1 = S[j].1 := by simpa using g
            simp [g]
          · have g : ¬ S[i].1 = S[j].1 := by simpa using g
            simp [g]
      · rintro w9 ⟨hok2, x9⟩
        rw [h5n, List.take_length] at hok2
        refine hK _ ⟨fun x hx => ?_, (x5.trans x8).trans x9⟩
        rw [List.take_succ_eq_append_getElem hi, List.mem_append, List.mem_singleton] at hx
        rcases hx with hx | rfl
        · exact hok x hx
        · exact hok2
    · rintro w4 ⟨hok, x4⟩
      rw [h5n, List.take_length] at hok
      refine ⟨true, rfl, ?_, x3.trans x4⟩
      simp only [true_iff]
      refine ⟨by simpa using hl10, by simpa using hf20, fun f hf => ?_, fun r hr => ?_, hco.2 hok⟩
      · obtain ⟨x, hx, rfl⟩ := List.mem_map.1 hf; exact hgr x hx
      · obtain ⟨x, hx, rfl⟩ := List.mem_map.1 hr; exact hru x hx
  · -- the rules
    refine rangeSI (fun i (s5 : Sl) w15 => Own 114 2 eP w1.heap.size w15 s5 ((fs.map DF.p ++ ((l.take i).map DR.p).flatMap Ru.atoms).map szF) ∧ (∀ r ∈ l.take i, RuleP r.p) ∧ Ext w1 w15) (by rw [hn]; exact hl) ⟨by simpa using ho2, by simp, x2⟩ ?_ ?_
    rotate_left
    · rintro s5 w3 ⟨ho3, hru, x3⟩
      rw [hn, List.take_length] at ho3 hru
      exact ⟨ho3, hru, x3⟩
    rintro i hi s5 w15 ⟨ho15, hru, x15⟩ K hK
    have hi : i < l.length := by omega
    have hm := List.getElem_mem hi
    have hbb := hb _ hm
    have haa := ha _ hm
    have hrp : (l[i]).p ∈ l.map DR.p := List.mem_map.2 ⟨_, hm, rfl⟩
    refine loadRT (hs.ext x15) hi zc94 fun w18 b18 x18 => ?_
    have hro := hs.ok _ hm
    have hbase : (fs.map DF.p ++ ((l.take i).map DR.p).flatMap Ru.atoms).length ≤ 60 := by
      have := flat_len (l := (l.take i).map DR.p) fun r hr => by obtain ⟨q, hq, rfl⟩ := List.mem_map.1 hr; exact (hru q hq).1
      simp at this ⊢; omega
    have htk : fs.map DF.p ++ ((l.take (i + 1)).map DR.p).flatMap Ru.atoms = (fs.map DF.p ++ ((l.take i).map DR.p).flatMap Ru.atoms) ++ (l[i]).p.atoms := by
      rw [List.take_succ_eq_append_getElem hi, List.map_append, List.flatMap_append]; simp
    have hruS : (∀ r ∈ l.take (i + 1), RuleP r.p) ↔ (∀ r ∈ l.take i, RuleP r.p) ∧ RuleP (l[i]).p := by
      rw [List.take_succ_eq_append_getElem hi]
      constructor
      · intro h; exact ⟨fun r hr => h r (List.mem_append_left _ hr), h _ (List.mem_append_right _ (List.mem_singleton.2 rfl))⟩
      · rintro ⟨h1, h2⟩ r hr
        rcases List.mem_append.1 hr with hr | hr
        · exact h1 r hr
        · simp only [List.mem_singleton] at hr; subst hr; exact h2
    have x018 := x15.trans x18
    generalize l[i] = r at b18 hro hbb haa hrp htk hruS
    generalize fs.map DF.p ++ ((l.take i).map DR.p).flatMap Ru.atoms = Ba at ho15 hbase htk
    have hbn := hro.bd.len
    have hatoms : r.p.atoms = r.head.p :: r.body.map (fun b => b.a.p) := by simp [Ru.atoms, DR.p, DL.p]
    refine ⟨fun (b60 : Bool) w19 => (b60 = true ↔ ¬ (FitsF r.head.p ∧ r.body.length ≤ 3)) ∧ Ext w18 w19, ?_, ?_⟩
    rotate_left
    · refine ⟨_, _, rdHead b18, (c62 (hro.hd.ext x018) (haa r.head (by simp [DR.atoms]))).mono fun e w34 ⟨c, he, hc, x34⟩ => ⟨c, he, cond_intro (fun g => ⟨?_, x34⟩) (fun g => ⟨_, (b18.ext x34).cell 2, ?_, x34⟩)⟩⟩
      · have g : c = false := by simpa using g
        simp only [true_iff]
        exact fun h => by rw [hc.2 h.1] at g; cases g
      · have g : c = true := by simpa using g
        have := hc.1 g
        simp [this, hbn]; omega
    rintro b60 w19 ⟨hb60, x19⟩
    have x019 := x018.trans x19
    refine cond_intro (fun g => no x019 fun hv => ?_) (fun g => ?_)
    · have := hv.ru _ hrp
      exact hb60.1 g ⟨this.2.2 _ (by simp [Ru.atoms, DR.p]), by have := this.1; simpa [DR.p] using this⟩
    have hgood : FitsF r.head.p ∧ r.body.length ≤ 3 := Classical.byContradiction fun h => by rw [hb60.2 h] at g; cases g
    obtain ⟨hfh, hb3⟩ := hgood
    have b19 := b18.ext x19
    have ho19 := ho15.ext (x18.trans x19)
    have hsl := hro.hd.len
    refine ⟨_, b19.cell 0, _, b19.cell 1, ?_⟩
    obtain ⟨q1, w20, hb20, q2, w21, hr21, ho21, hf21⟩ := appP ho19 (r.head.rel, ((r.head.sl.n : Nat) : Int)) (by simp; omega) x019.size
    refine ⟨q1, w20, hb20, q2, w21, hr21, ?_⟩
    have x021 : Ext w1 w21 := x019.newer hf21 fun y ⟨a, ha', e⟩ => by have := (ho19.base ha').1; omega
    have hnb : ∀ {w' : World} {s : Sl} {L : List (Int × Int)} {q : Nat} {vs : List Value} {T : TypeId}, Own 114 2 eP w1.heap.size w' s L → Blk w' q vs T → T ≠ 114 → ¬ BlS s q := fun ho hbk hT ⟨a, ha', e⟩ => by
      obtain ⟨cur, hc⟩ := ho.blk ha'
      rw [e] at hc
      exact Blk.ne_ty hbk hc hT rfl
    have b21 := b19.fr hf21 (hnb ho19 b19 (by decide))
    refine ⟨_, _, rdHead b21, (c63 (hro.hd.ext x021) hfh).mono fun e w22 ⟨m74, he, hm74, x22⟩ => ⟨m74, he, ?_⟩⟩
    have b22 := b21.ext x22
    have x022 := x021.trans x22
    rw [hsl] at ho21
    refine ⟨_, b22.cell 2, ?_⟩
    refine ⟨fun (s5 : Sl) (x10 x11 : Int) w23 => Own 114 2 eP w1.heap.size w23 s5 ((Ba ++ r.p.atoms).map szF) ∧ (Bs x10 fun k => ∃ f ∈ r.p.atoms, IsV f k) ∧ (Bs x11 fun k => ∃ c ∈ r.p.body, c.neg = false ∧ IsV c.a k) ∧ (∀ b ∈ r.body, FitsF b.a.p) ∧ Ext w1 w23, ?_, ?_⟩
    · rintro s5 x10 x11 w23 ⟨ho23, h10, h11, hfit, x23⟩
      have hsafe := safe_bits h10 h11
      refine cond_intro (fun g => no x23 fun hv => ?_) (fun g => ?_)
      · have g : x10 ≠ x11 := by simpa using g
        exact g (hsafe.2 (hv.ru _ hrp).2.1)
      · have g : x10 = x11 := by simpa using g
        refine hK _ _ ⟨?_, hruS.2 ⟨hru, by simpa [DR.p] using hb3, hsafe.1 g, fun a ha' => ?_⟩, x23⟩
        · rw [htk]; exact ho23
        · rw [hatoms] at ha'
          rcases List.mem_cons.1 ha' with rfl | ha'
          · exact hfh
          · obtain ⟨b, hbm, rfl⟩ := List.mem_map.1 ha'; exact hfit b hbm
    refine LoopV.intro (fun n (s5 : Sl) (x10 x11 x78 : Int) w24 => ∃ j : Nat, x78 = j ∧ n = r.body.length - j ∧ j ≤ r.body.length ∧ Own 114 2 eP w1.heap.size w24 s5 ((Ba ++ (r.head.p :: (r.body.take j).map (fun b => b.a.p))).map szF) ∧ (Bs x10 fun k => ∃ f ∈ r.head.p :: (r.body.take j).map (fun b => b.a.p), IsV f k) ∧ (Bs x11 fun k => ∃ c ∈ (r.body.take j).map DL.p, c.neg = false ∧ IsV c.a k) ∧ (∀ b ∈ r.body.take j, FitsF b.a.p) ∧ Ext w1 w24) r.body.length
      ⟨0, rfl, rfl, by omega, ?_, hm74.congr fun k => by simp, Bs.zero.congr fun k => by simp, by simp, x022⟩ ?_
    · have := ho21.ext x22
      rw [List.map_append]; exact this
    rintro n s5 x10 x11 x78 w24 ⟨j, rfl, rfl, hj, ho24, h10, h11, hfit, x24⟩
    refine cond_intro (fun g => ?_) (fun g => ?_)
    rotate_left
    · have hjl : j = r.body.length := by simp [hbn] at g; omega
      subst hjl
      rw [List.take_length] at ho24 h10 h11 hfit
      rw [← hatoms] at ho24 h10
      exact ⟨ho24, h10, by simpa [DR.p] using h11, hfit, x24⟩
    have hj : j < r.body.length := by simp [hbn] at g; omega
    have hbm := List.getElem_mem hj
    refine Join.dir (loadLT (hro.ext x24).bd hj zc96 fun w27 b27 x27 => ?_)
    have x027 := x24.trans x27
    have hint := hro.bd.ok _ hbm
    have hbl := haa (r.body[j]).a (by simp [DR.atoms]; exact .inr ⟨_, hbm, rfl⟩)
    have htj : (r.body.take (j + 1)).map (fun b => b.a.p) = (r.body.take j).map (fun b => b.a.p) ++ [(r.body[j]).a.p] := by rw [List.take_succ_eq_append_getElem hj, List.map_append]; rfl
    have htj2 : (r.body.take (j + 1)).map DL.p = (r.body.take j).map DL.p ++ [(r.body[j]).p] := by rw [List.take_succ_eq_append_getElem hj, List.map_append]; rfl
    have htj3 : ∀ b, b ∈ r.body.take (j + 1) ↔ b ∈ r.body.take j ∨ b = r.body[j] := fun b => by rw [List.take_succ_eq_append_getElem hj, List.mem_append, List.mem_singleton]
    have hbin : (r.body[j]).a.p ∈ r.p.atoms := by rw [hatoms]; exact List.mem_cons_of_mem _ (List.mem_map.2 ⟨_, hbm, rfl⟩)
    generalize r.body[j] = b at b27 hint hbl htj htj2 htj3 hbin
    refine ⟨_, _, rdAtom b27, (c62 (hint.ext x027) hbl).mono fun e w28 ⟨c, he, hc, x28⟩ => ⟨c, he, cond_intro (fun g => ?_) (fun g => ?_)⟩⟩
    · have g : c = false := by simpa using g
      refine no (x027.trans x28) fun hv => ?_
      rw [hc.2 ((hv.ru _ hrp).2.2 _ hbin)] at g; cases g
    have g : c = true := by simpa using g
    have hfb := hc.1 g
    have b28 := b27.ext x28
    have x028 := x027.trans x28
    have ho28 := (ho24.ext x27).ext x28
    have hbsl := hint.len
    refine ⟨_, b28.cell 1, _, b28.cell 2, ?_⟩
    have hlen : ((Ba ++ (r.head.p :: (r.body.take j).map (fun b => b.a.p))).map szF).length ≤ 1000000 := by simp; omega
    obtain ⟨q3, w29, hb29, q4, w30, hr30, ho30, hf30⟩ := appP ho28 (b.a.rel, ((b.a.sl.n : Nat) : Int)) hlen x028.size
    refine ⟨q3, w29, hb29, q4, w30, hr30, ?_⟩
    have x030 : Ext w1 w30 := x028.newer hf30 fun y ⟨a, ha', e⟩ => by have := (ho28.base ha').1; omega
    have b30 := b28.fr hf30 (hnb ho28 b28 (by decide))
    rw [hbsl] at ho30
    have ho30' : Own 114 2 eP w1.heap.size w30 q4 ((Ba ++ (r.head.p :: (r.body.take (j + 1)).map (fun b => b.a.p))).map szF) := by
      rw [htj, ← List.cons_append, ← List.append_assoc, List.map_append]; exact ho30
    refine ⟨_, _, rdAtom b30, (c63 (hint.ext x030) hfb).mono fun e w31 ⟨m100, he, hm100, x31⟩ => ⟨m100, he, ?_⟩⟩
    have b31 := b30.ext x31
    have x031 := x030.trans x31
    have h10' : Bs (bitsI .or .i64 x10 m100) fun k => ∃ f ∈ r.head.p :: (r.body.take (j + 1)).map (fun b => b.a.p), IsV f k := (h10.or hm100).congr fun k => by
      rw [htj]
      simp only [List.mem_cons, List.mem_append, List.not_mem_nil, or_false]
      constructor
      · rintro (⟨f, hf', h⟩ | h)
        · exact ⟨f, by rcases hf' with h' | h'; exact .inl h'; exact .inr (.inl h'), h⟩
        · exact ⟨_, .inr (.inr rfl), h⟩
      · rintro ⟨f, hf' | hf' | rfl, h⟩
        · exact .inl ⟨f, .inl hf', h⟩
        · exact .inl ⟨f, .inr hf', h⟩
        · exact .inr h
    refine ⟨_, b31.cell 0, ?_⟩
    refine ⟨fun (x11' : Int) w32 => (Bs x11' fun k => ∃ c ∈ (r.body.take (j + 1)).map DL.p, c.neg = false ∧ IsV c.a k) ∧ Ext w31 w32, ?_, ?_⟩
    · rintro x11' w32 ⟨h11', x32⟩
      exact ⟨r.body.length - (j + 1), by omega, j + 1, by rw [wrap64 (by omega) (by omega)]; rfl, rfl, by omega, (ho30'.ext x31).ext x32, h10', h11', fun b' hb' => by
        rcases (htj3 b').1 hb' with h | rfl
        · exact hfit b' h
        · exact hfb, x031.trans x32⟩
    · refine cond_intro (fun g3 => ?_) (fun g3 => ?_)
      · have g3 : b.neg = false := by simpa using g3
        refine ⟨_, _, rdAtom b31, (c63 (hint.ext x031) hfb).mono fun e w33 ⟨m108, he, hm108, x33⟩ => ⟨m108, he, (h11.or hm108).congr fun k => ?_, x33⟩⟩
        rw [htj2]
        simp only [List.mem_append, List.mem_singleton]
        constructor
        · rintro (⟨c', hc', h⟩ | h)
          · exact ⟨c', .inl hc', h⟩
          · exact ⟨_, .inr rfl, g3, h⟩
        · rintro ⟨c', hc' | rfl, h⟩
          · exact .inl ⟨c', hc', h⟩
          · exact .inr h.2
      · have g3 : b.neg = true := by simpa using g3
        refine ⟨h11.congr fun k => ?_, Fr.refl _ _⟩
        rw [htj2]
        simp only [List.mem_append, List.mem_singleton]
        constructor
        · rintro ⟨c', hc', h⟩; exact ⟨c', .inl hc', h⟩
        · rintro ⟨c', hc' | rfl, h⟩
          · exact ⟨c', hc', h⟩
          · have : b.neg = false := h.1
            rw [g3] at this; cases this
end Go.Proofs.Ytoljknamnkkgcaa
/-
  Contracts: is a fact in a list? What conversion leaves of valid arguments.
-/
namespace Go.Proofs.Ytoljknamnkkgcaa
open Go Go.VC
set_option maxHeartbeats 1000000
set_option maxRecDepth 100000

theorem cut_id {n : Nat} {f : Fa} (h : f.args.length ≤ n) : cut n f = f := by cases f; simp only [cut] at h ⊢; rw [List.take_of_length_le h]
theorem cut_small {n : Nat} {f : Fa} (hn : 2 < n) (h : (cut n f).args.length ≤ 2) : cut n f = f := cut_id (by simp [cut] at h; omega)
theorem ofRu_id {r : Ru} (h : RuleP (ofRu r)) : ofRu r = r := by
  obtain ⟨h1, h2, h3⟩ := h
  have hb : r.body.length ≤ 5 := by simp [ofRu] at h1; omega
  have ht : r.body.take 5 = r.body := List.take_of_length_le hb
  have hh := h3 (cut 5 r.head) (by simp [Ru.atoms, ofRu])
  obtain ⟨hd, bd⟩ := r
  simp only at ht hh hb
  have e1 : cut 5 hd = hd := cut_small (by omega) hh.2.2.2.1
  have e2 : bd.map cutL = bd := by
    have : ∀ b ∈ bd, cutL b = b := fun b hbm => by
      have := h3 (cut 5 b.a) (by simp [Ru.atoms, ofRu, ht]; exact .inr ⟨b, hbm, rfl⟩)
      cases b; simp only [cutL] at this ⊢; rw [cut_small (by omega) this.2.2.2.1]
    rw [List.map_congr_left this]; simp
  simp only [ofRu, ht, e1, e2]
theorem ofR_id {l : List Ru} {fs : List Fa} (h : ValidP (ofR l) fs) : ofR l = l := by
  have h1 := h.nl
  have hl : l.length ≤ 12 := by simp [ofR] at h1; omega
  have ht : l.take 12 = l := List.take_of_length_le hl
  have h2 := h.ru
  unfold ofR at h2 ⊢
  rw [ht] at h2 ⊢
  have : ∀ r ∈ l, ofRu r = r := fun r hr => ofRu_id (h2 _ (List.mem_map.2 ⟨r, hr, rfl⟩))
  rw [List.map_congr_left this]; simp
theorem factsC_id {l : List Ru} {fs : List Fa} (h : ValidP l (factsC fs)) : factsC fs = fs := by
  have h1 := h.nf
  have hl : fs.length ≤ 26 := by simp [factsC] at h1; omega
  have ht : fs.take 26 = fs := List.take_of_length_le hl
  have h2 := h.gr
  unfold factsC at h2 ⊢
  rw [ht] at h2 ⊢
  have : ∀ f ∈ fs, cut 9 f = f := fun f hf => cut_small (by omega) (h2 _ (List.mem_map.2 ⟨f, hf, rfl⟩)).2.2.2.1
  rw [List.map_congr_left this]; simp
theorem ru_of {r : Ru} (h : RuleP r) : ofRu r = r := by
  obtain ⟨h1, h2, h3⟩ := h
  obtain ⟨hd, bd⟩ := r
  simp only at h1
  have e1 : cut 5 hd = hd := cut_id (by have := (h3 hd (by simp [Ru.atoms])).2.2.2.1; omega)
  have e2 : bd.map cutL = bd := by
    have : ∀ b ∈ bd, cutL b = b := fun b hbm => by
      have := (h3 b.a (by simp [Ru.atoms]; exact .inr ⟨b, hbm, rfl⟩)).2.2.2.1
      cases b; simp only [cutL] at this ⊢; rw [cut_id (by omega)]
    rw [List.map_congr_left this]; simp
  simp only [ofRu, List.take_of_length_le (show bd.length ≤ 5 by omega), e1, e2]
/-- Valid arguments are handed on as they are. -/
theorem conv_id {l : List Ru} {fs : List Fa} (h : ValidP l fs) : ofR l = l ∧ factsC fs = fs := by
  refine ⟨?_, ?_⟩
  · have h1 := h.nl
    unfold ofR
    rw [List.take_of_length_le (by omega), List.map_congr_left (fun r hr => ru_of (h.ru r hr))]; simp
  · have h1 := h.nf
    unfold factsC
    rw [List.take_of_length_le (by omega), List.map_congr_left (fun f hf => cut_id (n := 9) (by have := (h.gr f hf).2.2.2.1; omega))]; simp
theorem conv_valid {l : List Ru} {fs : List Fa} : ValidP (ofR l) (factsC fs) ↔ ValidP l fs := by
  constructor
  · intro h
    have e1 := ofR_id h
    have e2 := factsC_id h
    rw [e1, e2] at h; exact h
  · intro h
    rw [(conv_id h).1, (conv_id h).2]; exact h
/-! ### within -/
theorem callable66 : callable Try.prog 66 = true := by kernel_rfl
theorem c24 {w : World} {s : Sl} {l : List DF} {f : DF} (hs : NF w s l) (hf : Ints w f.sl f.args) (hl : l.length ≤ big) (hfa : f.args.length ≤ big) :
    Calls Try.prog 24 [.slice s.a s.n s.c, .agg [.int .i64 f.rel, .slice f.sl.a f.sl.n f.sl.c].toArray].toArray w fun e w' => e = .returned (.bool (decide (f.p ∈ l.map DF.p))) ∧ Ext w w' := by
  refine (call24 s f.rel f.sl (R := fun v w' => v = .bool (decide (f.p ∈ l.map DF.p)) ∧ Ext w w') ?_).mono fun e w' ⟨v, he, hv, hx⟩ => ⟨by rw [he, hv], hx⟩
  obtain ⟨b1, x1⟩ := eF_cells w f 36
  refine Let.intro fun w1 e1 => ?_
  have e1 : w1 = w.alloc (.cells (eF f).toArray 36) := e1
  rw [← e1] at b1 x1
  have hn := hs.len
  generalize w.heap.size = q at b1 ⊢
  refine (call65 s 66 [.pointer (some ⟨q, 0, none⟩)] (R := fun v w' => v = .bool (decide (f.p ∈ l.map DF.p)) ∧ Ext w w') ?_).mono fun e w' ⟨v, he, hv, hx⟩ => ⟨_, by rw [he, hv], rfl, hx⟩
  refine (call91 s 66 [.pointer (some ⟨q, 0, none⟩)] (R := fun v w' => ∃ m : Int, v = .int .i64 m ∧ (0 ≤ m ↔ f.p ∈ l.map DF.p) ∧ Ext w w') ?_).mono fun e w' ⟨v, he, m, hv, hm, hx⟩ => ⟨m, by rw [he, hv], ?_, hx⟩
  rotate_left
  · congr 1; exact decide_eq_decide.2 hm
  refine Join.dir (rangeI (fun i w2 => f.p ∉ (l.take i).map DF.p ∧ Ext w1 w2) (by rw [hn]; exact hl) ⟨by simp, Fr.refl _ _⟩ ?_ ?_)
  · rintro i hi w2 ⟨hno, x2⟩ K hK
    have hi : i < l.length := by omega
    have x02 := x1.trans x2
    obtain ⟨p, hp, a1, a2, hr⟩ := Sli.at eF_len (hs.ext x02).sl hi
    have hint := (hs.ok _ (List.getElem_mem hi)).ext x02
    refine ⟨p, hp, a1, a2, _, _, hr, ?_⟩
    rw [callable66]
    show Calls Try.prog 66 _ w2 _
    refine (call66 (l[i]).rel (l[i]).sl ⟨q, 0⟩ (R := fun v w' => v = .bool (decide (f.p = (l[i]).p)) ∧ Ext w2 w') ?_).mono fun e w4 ⟨v, he, hv, x4⟩ => ⟨decide (f.p = (l[i]).p), by rw [he, hv], cond_intro (fun hc => ?_) (fun hc => ?_)⟩
    · obtain ⟨b3, x3⟩ := eF_cells w2 l[i] 36
      refine Let.intro fun w3 e3 => ?_
      have e3 : w3 = w2.alloc (.cells (eF l[i]).toArray 36) := e3
      rw [← e3] at b3 x3
      have bq := (b1.ext x2).ext x3
      refine Join.dir ⟨_, bq.cell 0, _, b3.cell 0, cond_intro (fun g => ?_) (fun g => ?_)⟩
      · have g : f.rel = (l[i]).rel := by simpa using g
        refine ⟨_, bq.cell 1, _, b3.cell 1, (c32 ((hf.ext x02).ext x3) (hint.ext x3) hfa).mono fun e w5 ⟨he, x5⟩ => ⟨_, he, ?_, x3.trans x5⟩⟩
        congr 1
        apply decide_eq_decide.2
        simp [DF.p, g]
      · have g : ¬ f.rel = (l[i]).rel := by simpa using g
        exact ⟨by simp [DF.p, g], x3⟩
    · have hc : f.p = (l[i]).p := by simpa using hc
      refine ⟨(i : Int), rfl, ?_, x02.trans x4⟩
      simp only [show (0 : Int) ≤ (i : Int) by omega, true_iff]
      exact List.mem_map.2 ⟨_, List.getElem_mem hi, hc.symm⟩
    · have hc : ¬ f.p = (l[i]).p := by simpa using hc
      refine hK _ ⟨?_, x2.trans x4⟩
      rw [List.take_succ_eq_append_getElem hi, List.map_append, List.mem_append]
      rintro (h | h)
      · exact hno h
      · simp only [List.map_cons, List.map_nil, List.mem_singleton] at h; exact hc h
  · rintro w2 ⟨hno, x2⟩
    rw [hn, List.take_length] at hno
    refine ⟨-1, rfl, ?_, x1.trans x2⟩
    simp [hno]
end Go.Proofs.Ytoljknamnkkgcaa
/-
  Printed by a program of this session (wip/tools/vcprint.py): of each Go function the shallow form, and that the calculus comes to it, by the kernel.
-/
namespace Go.Proofs.Ytoljknamnkkgcaa
open Go Go.VC
set_option maxRecDepth 100000

/-- F6: cubeb/cubeblaw03.RulesSettled -/
def An6 : An := (.sq .lf (.sq .lf (.sq .lf (.sq (.sq .lf (.cd (.sq (.rj [] [(4, .bool)]) .lf) .lf)) (.sq (.sq .lf (.bk [] (.lp [(42, .int .i64)] (.sq .lf (.sq (.cd .lf .lf) (.sq (.bk [] (.sq .lf (.sq .lf (.cd (.sq .lf .lf) .lf)))) .lf)))))) (.sq (.rj [] [(4, .bool)]) .lf))))))
def S6 (s0 : Sl) (s1 : Sl) (R : Value → World → Prop) (w : World) : Prop :=
  Calls Try.prog 17 [(.slice s0.a s0.n s0.c)].toArray w (fun e w1 => ∃ s14 : Sl, e = .returned (.slice s14.a s14.n s14.c) ∧
  Calls Try.prog 18 [(.slice s1.a s1.n s1.c)].toArray w1 (fun e_2 w2 => ∃ s16 : Sl, e_2 = .returned (.slice s16.a s16.n s16.c) ∧
  Calls Try.prog 16 [(.slice s14.a s14.n s14.c), (.slice s16.a s16.n s16.c)].toArray w2 (fun e_3 w3 => ∃ s17_0 : Sl, ∃ x17_1 : Int, e_3 = .returned (.tuple [(.slice s17_0.a s17_0.n s17_0.c), (.int .i64 x17_1)].toArray) ∧
  Calls Try.prog 17 [(.slice s0.a s0.n s0.c)].toArray w3 (fun e_4 w4 => ∃ s22 : Sl, e_4 = .returned (.slice s22.a s22.n s22.c) ∧
  Calls Try.prog 18 [(.slice s1.a s1.n s1.c)].toArray w4 (fun e_5 w5 => ∃ s24 : Sl, e_5 = .returned (.slice s24.a s24.n s24.c) ∧
  Calls Try.prog 25 [(.slice s22.a s22.n s22.c), (.slice s24.a s24.n s24.c)].toArray w5 (fun e_6 w6 => ∃ s25_0 : Sl, ∃ s25_1 : Sl, ∃ x25_2 : Int, e_6 = .returned (.tuple [(.slice s25_0.a s25_0.n s25_0.c), (.slice s25_1.a s25_1.n s25_1.c), (.int .i64 x25_2)].toArray) ∧
  cond (x25_2 != (0 : Int)) (
  Join [(4, .bool)] (fun (b4 : Bool) (w7 : World) => R (.bool b4) w7) (fun J =>
  cond (x17_1 == (2 : Int)) (cond (x25_2 == (2 : Int)) (Calls Try.prog 20 [].toArray w6 (fun e_7 w8 => ∃ b38 : Bool, e_7 = .returned (.bool b38) ∧
  J b38 w8)) (J false w6)) (J false w6))) (
  Join [] (fun (w9 : World) => Join [(4, .bool)] (fun (b4_2 : Bool) (w10 : World) => R (.bool b4_2) w10) (fun J_2 =>
  cond (x17_1 == (8 : Int)) (Calls Try.prog 20 [].toArray w9 (fun e_8 w11 => ∃ b67 : Bool, e_8 = .returned (.bool b67) ∧
  J_2 b67 w11)) (cond (x17_1 == (0 : Int)) (Calls Try.prog 21 [(.slice s25_0.a s25_0.n s25_0.c), (.slice s17_0.a s17_0.n s17_0.c)].toArray w9 (fun e_9 w12 => ∃ b58 : Bool, e_9 = .returned (.bool b58) ∧
  cond b58 (cond (((s25_1.n : Nat) : Int) == (0 : Int)) (Calls Try.prog 20 [].toArray w12 (fun e_10 w13 => ∃ b67_2 : Bool, e_10 = .returned (.bool b67_2) ∧
  J_2 b67_2 w13)) (J_2 false w12)) (J_2 false w12))) (J_2 false w9)))) (fun J_3 =>
  LoopV [(42, .int .i64)] (fun K => K (0 : Int) w6) (fun N => fun (x42 : Int) (w14 : World) =>
  cond (decide (x42 < ((s25_1.n : Nat) : Int))) (
  Join [] (fun (w15 : World) => N (IntKind.wrap .i64 (x42 + (1 : Int))) w15) (fun J_4 =>
  ∃ p44 : Pt, s25_1.a = some ⟨p44.b, p44.o, none⟩ ∧ 0 ≤ x42 ∧ x42 < ((s25_1.n : Nat) : Int) ∧ ∃ x45_0 : Int, ∃ s45_1 : Sl, rd w14 p44.b (p44.o + Int.toNat x42 * 2) [(.int .i64 x45_0), (.slice s45_1.a s45_1.n s45_1.c)] ∧ Let (w14.alloc (.cells (zc Try.prog 36) 36)) fun w16 => 
  StoreOk w16 w14.heap.size 0 [(.int .i64 x45_0), (.slice s45_1.a s45_1.n s45_1.c)] 2 ∧ Let (put w16 w14.heap.size 0 [(.int .i64 x45_0), (.slice s45_1.a s45_1.n s45_1.c)]) fun w17 => 
  ∃ x47_0 : Int, ∃ s47_1 : Sl, rd w17 w14.heap.size 0 [(.int .i64 x47_0), (.slice s47_1.a s47_1.n s47_1.c)] ∧ Calls Try.prog 24 [(.slice s25_0.a s25_0.n s25_0.c), (.agg [(.int .i64 x47_0), (.slice s47_1.a s47_1.n s47_1.c)].toArray)].toArray w17 (fun e_11 w18 => ∃ b48 : Bool, e_11 = .returned (.bool b48) ∧
  cond b48 (
  R (.bool false) w18) (
  J_4 w18)))) (
  J_3 w14))))))))))
theorem eq6 (s0 : Sl) (s1 : Sl) (R : Value → World → Prop) (w : World) : funV Try.prog Try.f6 An6 [(.slice s0.a s0.n s0.c), (.slice s1.a s1.n s1.c)] R w = S6 s0 s1 R w := by kernel_rfl
theorem call6 (s0 : Sl) (s1 : Sl) {R : Value → World → Prop} {w : World} (h : S6 s0 s1 R w) : Calls Try.prog 6 [(.slice s0.a s0.n s0.c), (.slice s1.a s1.n s1.c)].toArray w fun e w' => ∃ v, e = .returned v ∧ R v w' :=
  funV_calls mixed Try.func6 (an := An6) (by rw [eq6]; exact h)

end Go.Proofs.Ytoljknamnkkgcaa
/-
  The plain law of strata: the model is the one set that is its own step; so the alternating fixpoints meet in it. Contract: the law RulesSettled.
-/
namespace Go.Proofs.Ytoljknamnkkgcaa
open Go Go.VC
set_option maxHeartbeats 1000000
set_option maxRecDepth 100000

theorem En_monoR {A B : Ky → Prop} : ∀ {l : List Li} {v u : List Int}, (∀ b ∈ l, b.neg = false → ∀ k, k.rel = b.a.rel → A k → B k) → En A l v u → En B l v u
  | [], _, _, _, h' => h'
  | b :: r, v, u, h, h' => by
    have hr : ∀ b ∈ r, b.neg = false → ∀ k, k.rel = b.a.rel → A k → B k := fun b hb => h b (by simp [hb])
    rw [En] at h' ⊢
    split at h'
    · rw [if_pos (by assumption)]; exact En_monoR hr h'
    · rename_i hn
      rw [if_neg (by assumption)]
      obtain ⟨g, v', h1, h2, h3⟩ := h'
      exact ⟨g, v', h b (by simp) (by simpa using hn) g h2.1.symm h1, h2, En_monoR hr h3⟩
theorem NegOk.antiR {N N' : Ky → Prop} {body : List Li} {u : List Int} (h : ∀ b ∈ body, b.neg = true → ∀ k, k.rel = b.a.rel → N' k → N k) (x : NegOk N body u) : NegOk N' body u := fun b hb hn h' => x b hb hn (h b hb hn _ rfl h')
theorem nI_pos {b : Li} (h : b.neg = true) : nI b = 1 := by unfold nI; rw [if_pos h]
theorem nI_zero {b : Li} (h : b.neg = false) : nI b = 0 := by unfold nI; rw [if_neg (by rw [h]; simp)]
/-- One side of the step of a layer. -/
theorem strat_half {l : List Ru} {t : List Int} {G X X' Y Y' : Ky → Prop} (hs : ∀ r ∈ l, ∀ b ∈ r.body, lv t b.a.rel + nI b ≤ lv t r.head.rel) (hX : ∀ k, X k ↔ Cl l G Y k) (hX' : ∀ k, X' k ↔ Cl l G Y' k) {n : Int} (hY : ∀ k : Ky, lv t k.rel < n → (Y' k → Y k)) : ∀ k : Ky, lv t k.rel ≤ n → X k → X' k := fun k hk hx => by
  refine ((hX k).1 hx) (fun k => lv t k.rel ≤ n → X' k) (fun k hg _ => (hX' k).2 (Cl.base hg)) (fun r hr u h1 h2 hh => ?_) hk
  have hh : lv t r.head.rel ≤ n := hh
  refine (hX' _).2 (Cl.closed l G Y' r hr u ?_ ?_)
  · refine En_monoR (fun b hb hn k e hS => (hX' k).1 (hS ?_)) h1
    have := hs r hr b hb
    rw [nI_zero hn] at this
    rw [e]; omega
  · refine NegOk.antiR (fun b hb hn k e hk => hY k ?_ hk) h2
    have := hs r hr b hb
    rw [nI_pos hn] at this
    rw [e]; omega
theorem strat_uniq {l : List Ru} {t : List Int} {G X X' Y Y' : Ky → Prop} (ht : ∀ x ∈ t, 0 ≤ x) (hs : ∀ r ∈ l, ∀ b ∈ r.body, lv t b.a.rel + nI b ≤ lv t r.head.rel) (hX : ∀ k, X k ↔ Cl l G Y k) (hX' : ∀ k, X' k ↔ Cl l G Y' k) (hY : ∀ k, Y k ↔ Cl l G X k) (hY' : ∀ k, Y' k ↔ Cl l G X' k) :
    ∀ (n : Nat) (k : Ky), lv t k.rel < (n : Int) → (X k ↔ X' k) ∧ (Y k ↔ Y' k)
  | 0, k, h => by have := lv_nn ht k.rel; omega
  | n + 1, k, h => by
    have ih := strat_uniq ht hs hX hX' hY hY' n
    have hk : lv t k.rel ≤ (n : Int) := by omega
    exact ⟨⟨strat_half hs hX hX' (fun k h => (ih k h).2.2) k hk, strat_half hs hX' hX (fun k h => (ih k h).2.1) k hk⟩,
      ⟨strat_half hs hY hY' (fun k h => (ih k h).1.2) k hk, strat_half hs hY' hY (fun k h => (ih k h).1.1) k hk⟩⟩
theorem Lay_step {l : List Ru} {t : List Int} {G : Ky → Prop} {n : Nat} {k : Ky} (h : Lay l t G n k) : Lay l t G (n + 1) k := Cl.base h
theorem Lay_le {l : List Ru} {t : List Int} {G : Ky → Prop} {n : Nat} {k : Ky} (h : Lay l t G n k) : ∀ d, Lay l t G (n + d) k
  | 0 => h
  | d + 1 => Lay_step (Lay_le h d)
theorem Lay_back {l : List Ru} {t : List Int} {G : Ky → Prop} {n : Nat} {k : Ky} (hk : lv t k.rel < (n : Int)) (h : Lay l t G (n + 1) k) : Lay l t G n k := by
  have h : Cl (l.filter fun r => decide (lv t r.head.rel = (n : Int))) (Lay l t G n) (Lay l t G n) k := h
  refine h (fun k => lv t k.rel < (n : Int) → Lay l t G n k) (fun k h _ => h) (fun r hr u _ _ hh => ?_) hk
  have := (List.mem_filter.1 hr).2
  simp only [decide_eq_true_eq] at this
  have hh : lv t r.head.rel < (n : Int) := hh
  omega
theorem Lay_down {l : List Ru} {t : List Int} {G : Ky → Prop} {n : Nat} {k : Ky} (hk : lv t k.rel < (n : Int)) : ∀ d, Lay l t G (n + d) k → Lay l t G n k
  | 0, h => h
  | d + 1, h => Lay_down hk d (Lay_back (n := n + d) (by omega) h)
/-- The model is its own step. -/
theorem Mdl_fix {l : List Ru} {t : List Int} {G : Ky → Prop} (hR : RelOk l) (ht : IsStr l t) (k : Ky) : Mdl l t G k ↔ Cl l G (Mdl l t G) k := by
  have h5 : ∀ r, lv t r ≤ 5 := lv_le (by omega) (ht.le5 hR)
  have hnn : ∀ r, 0 ≤ lv t r := lv_nn ht.nn
  have hdown : ∀ (n : Nat) (k : Ky), n ≤ 6 → lv t k.rel < (n : Int) → Mdl l t G k → Lay l t G n k := fun n k hn hk h => by
    have h : Lay l t G (n + (6 - n)) k := by rw [show n + (6 - n) = 6 from by omega]; exact h
    exact Lay_down hk _ h
  have hup : ∀ (n : Nat) (k : Ky), n ≤ 6 → Lay l t G n k → Mdl l t G k := fun n k hn h => by
    have := Lay_le h (6 - n)
    rw [show n + (6 - n) = 6 from by omega] at this
    exact this
  constructor
  · have : ∀ n, n ≤ 6 → ∀ k, Lay l t G n k → Cl l G (Mdl l t G) k := fun n => by
      induction n with
      | zero => exact fun _ k h => Cl.base h
      | succ n ih =>
        intro hn k h
        have h : Cl (l.filter fun r => decide (lv t r.head.rel = (n : Int))) (Lay l t G n) (Lay l t G n) k := h
        refine h _ (ih (by omega)) fun r hr u h1 h2 => ?_
        obtain ⟨hr, hrn⟩ := List.mem_filter.1 hr
        simp only [decide_eq_true_eq] at hrn
        refine Cl.closed l G _ r hr u h1 (NegOk.antiR (fun b hb hneg k e hk => hdown n k (by omega) ?_ hk) h2)
        have := ht.sol r hr b hb
        rw [nI_pos hneg] at this
        rw [e]; omega
    exact this 6 (Nat.le_refl _) k
  · intro h
    refine h _ (fun k hk => hup 0 k (by omega) hk) fun r hr u h1 h2 => ?_
    obtain ⟨n, hn⟩ : ∃ n : Nat, lv t r.head.rel = n := ⟨(lv t r.head.rel).toNat, by have := hnn r.head.rel; omega⟩
    have h5r := h5 r.head.rel
    refine hup (n + 1) _ (by omega) (Cl.closed (l.filter fun r => decide (lv t r.head.rel = (n : Int))) (Lay l t G n) (Lay l t G n) r (List.mem_filter.2 ⟨hr, by simpa using hn⟩) u ?_ ?_)
    · refine En_monoR (fun b hb hneg k e hk => hdown (n + 1) k (by omega) ?_ hk) h1
      have := ht.sol r hr b hb
      rw [nI_zero hneg] at this
      rw [e]; omega
    · exact h2.anti fun k hk => hup n k (by omega) hk
/-- With strata, the true facts are the model and nothing is open. -/
theorem wf_mdl {l : List Ru} {t : List Int} {G T : Ky → Prop} (hR : RelOk l) (ht : IsStr l t) (hT : IsWF l G T) (k : Ky) : (T k ↔ Mdl l t G k) ∧ (T k ↔ Cl l G T k) := by
  have hk : lv t k.rel < ((lv t k.rel).toNat + 1 : Nat) := by omega
  have hM := Mdl_fix (G := G) hR ht
  have h1 := strat_uniq (X := T) (Y := Cl l G T) (X' := Mdl l t G) (Y' := Mdl l t G) ht.nn ht.sol hT.fix hM (fun _ => Iff.rfl) hM _ k hk
  exact ⟨h1.1, h1.1.trans h1.2.symm⟩
theorem IsL.nil {S : Ky → Prop} {l : List Fa} (h : IsL S l) (hS : ∀ k, ¬ S k) : l = [] := by
  cases l with
  | nil => rfl
  | cons f r => obtain ⟨k, hk, _⟩ := (h.mem f).1 (by simp); exact absurd hk (hS k)
theorem IsL.small {S : Ky → Prop} {l : List DF} (h : IsL S (l.map DF.p)) : ∀ g ∈ l, g.args.length ≤ 2 := fun g hg => by
  obtain ⟨k, _, hk⟩ := (h.mem g.p).1 (List.mem_map.2 ⟨g, hg, rfl⟩)
  have : g.args = (if k.b = 0 then [k.a] else [k.a, k.b]) := (congrArg Fa.args hk).symm
  rw [this]; split <;> simp
theorem c6 {w : World} {s s' : Sl} {l : List DR} {fs : List DF} (hs : NR w s l) (hf : NF w s' fs) (hl : l.length ≤ big) (hb : ∀ r ∈ l, r.body.length ≤ big) (hfl : fs.length ≤ big) (_hxa : ∀ r ∈ l, ∀ x ∈ r.atoms, x.args.length ≤ big) (_hfa : ∀ x ∈ fs, x.args.length ≤ big) :
    Calls Try.prog 6 [.slice s.a s.n s.c, .slice s'.a s'.n s'.c].toArray w fun e w' => e = .returned (.bool true) ∧ Ext w w' := by
  refine (call6 s s' (R := fun v w' => v = .bool true ∧ Ext w w') ?_).mono fun e w' ⟨v, he, hv, hx⟩ => ⟨by rw [he, hv], hx⟩
  refine (c17 hs hl hb).mono fun e w1 ⟨s14, L, he, hL, hLp, x1⟩ => ⟨s14, he, ?_⟩
  refine (c18 (hf.ext x1) hfl).mono fun e w2 ⟨s16, F, he, hFo, hFt, hFp, x2⟩ => ⟨s16, he, ?_⟩
  have hF : NF w2 s16 F := ⟨hFo.sli, fun x hx => (hFt x hx).i⟩
  obtain ⟨hL12, hLz⟩ := of_sz hLp
  obtain ⟨hF26, hFz⟩ := facts_sz hFp
  refine (c16 (hL.ext x2) hF (by omega) (by omega) hLz (fun f hf => by have := hFz f hf; omega)).mono fun e w3 ⟨s17, x, M, he, hM, hMn, hcase, x3⟩ => ⟨s17, x, he, ?_⟩
  have x03 := (x1.trans x2).trans x3
  refine (c17 (hs.ext x03) hl hb).mono fun e w4 ⟨s22, L2, he, hL2, hLp2, x4⟩ => ⟨s22, he, ?_⟩
  refine (c18 (hf.ext (x03.trans x4)) hfl).mono fun e w5 ⟨s24, F2, he, hFo2, hFt2, hFp2, x5⟩ => ⟨s24, he, ?_⟩
  have hF2 : NF w5 s24 F2 := ⟨hFo2.sli, fun x hx => (hFt2 x hx).i⟩
  obtain ⟨hL12', hLz'⟩ := of_sz hLp2
  obtain ⟨hF26', hFz'⟩ := facts_sz hFp2
  have eL : L2.map DR.p = L.map DR.p := by rw [hLp, hLp2]
  have eF : F2.map DF.p = F.map DF.p := by rw [hFp, hFp2]
  refine (c25 (hL2.ext x5) hF2 (by omega) (by omega) hLz' (fun f hf => by have := hFz' f hf; omega)).mono fun e w6 ⟨sA, sB, y, A, B, he, hA, hB, hAn, hBn, hcase2, x6⟩ => ⟨sA, sB, y, he, ?_⟩
  rw [eL, eF] at hcase2
  have x36 := (x4.trans x5).trans x6
  have x06 := x03.trans x36
  rcases hcase2 with ⟨hnv, rfl, _, _⟩ | ⟨hv, rfl, T, hT, hAl, hBl⟩
  · refine cond_intro (fun _ => Join.dir ?_) (fun h => by simp at h)
    rcases hcase with ⟨_, rfl, _⟩ | ⟨h, _⟩ | ⟨h, _⟩
    · exact cond_intro (fun _ => cond_intro (fun _ => (c20 w6).mono fun e w8 ⟨he, x8⟩ => ⟨_, he, rfl, x06.trans x8⟩) (fun h => by simp at h)) (fun h => by simp at h)
    · exact absurd h hnv
    · exact absurd h hnv
  refine cond_intro (fun h => by simp at h) (fun _ => ?_)
  have hBs := hB.len
  refine ⟨fun w9 => Ext w6 w9, ?_, ?_⟩
  · rintro w9 x9
    have x09 := x06.trans x9
    refine Join.dir (cond_intro (fun g => ?_) (fun g => ?_))
    · exact (c20 w9).mono fun e w11 ⟨he, x11⟩ => ⟨_, he, rfl, x09.trans x11⟩
    · have g : ¬ x = 8 := by simpa using g
      rcases hcase with ⟨h, _⟩ | ⟨_, _, h, _⟩ | ⟨_, t, ht, rfl, hMl⟩
      · exact absurd hv h
      · exact absurd h g
      refine cond_intro (fun _ => ?_) (fun h => by simp at h)
      have hR : RelOk (L.map DR.p) := RuleP.rel hv.ru
      have hW := fun k => wf_mdl hR ht hT k
      have heq : A.map DF.p = M.map DF.p := hAl.uniq (hMl.congr fun k => ((hW k).1).symm)
      have hB0 : B.map DF.p = [] := hBl.nil fun k ⟨h1, h2⟩ => h2 ((hW k).2.2 h1)
      have hB0 : B = [] := List.map_eq_nil_iff.1 hB0
      refine (c21 (hA.ext x9) (hM.ext (x36.trans x9)) (by show A.length ≤ 9223372036854775807; omega) (fun y hy => by have := hAl.small y hy; show y.args.length ≤ 9223372036854775807; omega)).mono fun e w12 ⟨he, x12⟩ => ⟨_, he, ?_⟩
      refine cond_intro (fun _ => cond_intro (fun _ => ?_) (fun h => by simp [hBs, hB0] at h)) (fun h => by simp [heq] at h)
      exact (c20 w12).mono fun e w13 ⟨he, x13⟩ => ⟨_, he, rfl, (x09.trans x12).trans x13⟩
  · refine rangeI (fun _ w14 => Ext w6 w14) (by rw [hBs]; show B.length ≤ 9223372036854775807; omega) (Fr.refl _ _) ?_ (fun _ h => h)
    rintro i hi w14 x14 K hK
    have hi : i < B.length := by omega
    refine loadF (hB.ext x14) hi zc36 fun w17 b17 x17 => ⟨_, _, b17.rd, ?_⟩
    have hm := List.getElem_mem hi
    refine (c24 ((hA.ext x14).ext x17) (((hB.ext x14).ext x17).ok _ hm) (by show A.length ≤ 9223372036854775807; omega) (by have := hBl.small _ hm; show (B[i]).args.length ≤ 9223372036854775807; omega)).mono fun e w18 ⟨he, x18⟩ => ⟨_, he, cond_intro (fun h => ?_) (fun _ => hK _ ((x14.trans x17).trans x18))⟩
    have h : (B[i]).p ∈ A.map DF.p := by simpa using h
    obtain ⟨k, hk, e1⟩ := (hAl.mem _).1 h
    obtain ⟨k', hk', e2⟩ := (hBl.mem _).1 (List.mem_map.2 ⟨_, hm, rfl⟩)
    have : k = k' := Ky.f_inj (e1.trans e2.symm)
    subst this
    exact absurd hk hk'.2
end Go.Proofs.Ytoljknamnkkgcaa
/-
  The plain law of the rounds of the reference: strata after sixty rounds; the Rels that a Rel needs, as bits.
-/
namespace Go.Proofs.Ytoljknamnkkgcaa
open Go Go.VC
set_option maxHeartbeats 400000

theorem lv_zero (r : Int) : lv zero6 r = 0 := by
  unfold lv zero6
  rcases hn : r.toNat with _ | _ | _ | _ | _ | _ | n <;> simp
theorem nn_of {s : List Int} (hl : s.length = 6) (h : ∀ x, 0 ≤ x → x ≤ 5 → 0 ≤ lv s x) : ∀ x ∈ s, 0 ≤ x := fun x hx => by
  obtain ⟨i, hi, e⟩ := List.getElem_of_mem hx
  have := h (i : Int) (by omega) (by omega)
  unfold lv at this
  simp [List.getD, hi, e] at this
  exact this
def itP (l : List Ru) : Nat → List Int
  | 0 => zero6
  | n + 1 => pass l (itP l n)
theorem IsStr.pass {l : List Ru} (hR : RelOk l) {s : List Int} (h : IsStr l s) : pass l s = s := by
  have hu := pass_up hR h.len
  refine ext6 hu.len h.len fun x h0 h1 => Int.le_antisymm (pass_under hR h.len h.least _ h.isSol x h0 h1) (hu.mono x h0 h1)
theorem itP_is {l : List Ru} (hR : RelOk l) : ∀ n : Nat, (itP l n).length = 6 ∧ Under l (itP l n) ∧ (∀ x ∈ itP l n, 0 ≤ x) ∧ (IsStr l (itP l n) ∨ (n : Int) ≤ sm (itP l n))
  | 0 => ⟨rfl, fun f hf x _ _ => by show lv zero6 x ≤ f x; rw [lv_zero]; exact hf.1 x, by simp [itP, zero6], .inr (by show (0 : Int) ≤ sm zero6; decide)⟩
  | n + 1 => by
    obtain ⟨h1, h2, h3, h4⟩ := itP_is hR n
    have hu := pass_up hR h1
    have hn : ∀ x ∈ pass l (itP l n), 0 ≤ x := nn_of hu.len fun x h0 h1 => by have := hu.mono x h0 h1; have := lv_nn h3 x; omega
    refine ⟨hu.len, pass_under hR h1 h2, hn, ?_⟩
    show IsStr l (pass l (itP l n)) ∨ ((n + 1 : Nat) : Int) ≤ sm (pass l (itP l n))
    rcases h4 with h4 | h4
    · rw [h4.pass hR]; exact .inl h4
    · rcases hu.sm with h | h
      · rw [h]; exact .inl ⟨h1, h3, pass_id hR h1 h, h2⟩
      · exact .inr (by omega)
theorem sm_le {s : List Int} {f : Int → Int} {B : Int} (h : ∀ x, 0 ≤ x → x ≤ 5 → lv s x ≤ f x) (hB : ∀ x, f x ≤ B) : sm s ≤ 6 * B := by
  have h0 := h 0 (by omega) (by omega)
  have h1 := h 1 (by omega) (by omega)
  have h2 := h 2 (by omega) (by omega)
  have h3 := h 3 (by omega) (by omega)
  have h4 := h 4 (by omega) (by omega)
  have h5 := h 5 (by omega) (by omega)
  have b0 := hB 0
  have b1 := hB 1
  have b2 := hB 2
  have b3 := hB 3
  have b4 := hB 4
  have b5 := hB 5
  unfold sm; omega
/-- If some strata are small, there are least ones. -/
theorem str_of_sol {l : List Ru} (hR : RelOk l) {f : Int → Int} (hf : Sol l f) (hB : ∀ x, f x ≤ 9) : IsStr l (itP l 60) := by
  obtain ⟨h1, h2, h3, h4⟩ := itP_is hR 60
  rcases h4 with h4 | h4
  · exact h4
  · have := sm_le (h2 f hf) hB
    omega
theorem itP_str {l : List Ru} (hR : RelOk l) {t : List Int} (h : IsStr l t) : itP l 60 = t :=
  (str_of_sol hR h.isSol fun x => Int.le_trans (lv_le (by omega) (h.le5 hR) x) (by omega)).uniq h
theorem itP_no {l : List Ru} (hR : RelOk l) (h : ¬ ∃ t, IsStr l t) : ∃ x ∈ itP l 60, 5 < x := by
  obtain ⟨h1, h2, h3, h4⟩ := itP_is hR 60
  rcases h4 with h4 | h4
  · exact absurd ⟨_, h4⟩ h
  · refine Classical.byContradiction fun hno => ?_
    have h5 : ∀ x ∈ itP l 60, x ≤ 5 := fun x hx => Int.not_lt.1 fun hlt => hno ⟨x, hx, hlt⟩
    have := sm_le (s := itP l 60) (f := lv (itP l 60)) (B := 5) (fun x _ _ => Int.le_refl _) (lv_le (by omega) h5)
    omega

/-! ### the Rels that are needed, as bits -/
/-- What a Rel needs. -/
def Rch (l : List Ru) (rel : Int) (r : Int) : Prop := ∀ S : Int → Prop, S rel → (∀ q ∈ l, S q.head.rel → ∀ b ∈ q.body, S b.a.rel) → S r
theorem Rch.base (l : List Ru) (rel : Int) : Rch l rel rel := fun _ h _ => h
theorem Rch.step {l : List Ru} {rel : Int} {q : Ru} (hq : q ∈ l) (h : Rch l rel q.head.rel) {b : Li} (hb : b ∈ q.body) : Rch l rel b.a.rel := fun S h1 h2 => h2 q hq (h S h1 h2) b hb
def ms (h m b : Nat) : Nat := if m.testBit h = true then m ||| 2 ^ b else m
def mR (m : Nat) (r : Ru) : Nat := r.body.foldl (fun m b => ms r.head.rel.toNat m b.a.rel.toNat) m
def mP (l : List Ru) (m : Nat) : Nat := l.foldl mR m
def cnt (m : Nat) : Nat := ((List.range 6).filter fun i => m.testBit i).length
theorem cnt_le (m : Nat) : cnt m ≤ 6 := by
  have := List.length_filter_le (fun i => m.testBit i) (List.range 6)
  simpa [cnt] using this
theorem cnt_or : ∀ m < 64, ∀ b < 6, m.testBit b = false → cnt m + 1 ≤ cnt (m ||| 2 ^ b) := by decide +kernel
theorem or_same : ∀ m < 64, ∀ b < 6, m.testBit b = true → m ||| 2 ^ b = m := by decide +kernel
theorem bit_or (m b i : Nat) : (m ||| 2 ^ b).testBit i = (m.testBit i || decide (b = i)) := by rw [Nat.testBit_or, Nat.testBit_two_pow]
theorem or_lt {m b : Nat} (hm : m < 64) (hb : b < 6) : m ||| 2 ^ b < 64 := by
  have : 2 ^ b < 2 ^ 6 := Nat.pow_lt_pow_right (by omega) hb
  exact Nat.or_lt_two_pow (n := 6) hm this
structure MUp (m n : Nat) : Prop where
  lt : n < 64
  mono : ∀ i, m.testBit i = true → n.testBit i = true
  ct : n = m ∨ cnt m < cnt n
theorem MUp.refl {m : Nat} (h : m < 64) : MUp m m := ⟨h, fun _ h => h, .inl rfl⟩
theorem MUp.trans {m n k : Nat} (h : MUp m n) (h' : MUp n k) : MUp m k := ⟨h'.lt, fun i hi => h'.mono i (h.mono i hi), by
  rcases h.ct with rfl | h1
  · exact h'.ct
  · rcases h'.ct with rfl | h2
    · exact .inr h1
    · exact .inr (by omega)⟩
theorem MUp.back {m n k : Nat} (h : MUp m n) (h' : MUp n k) (e : k = m) : n = m := by
  rcases h.ct with h | h
  · exact h
  · rcases h'.ct with h2 | h2
    · omega
    · rw [e] at h2; omega
theorem ms_up {h m b : Nat} (hm : m < 64) (hb : b < 6) : MUp m (ms h m b) := by
  unfold ms
  split
  · refine ⟨or_lt hm hb, fun i hi => by rw [bit_or, hi]; rfl, ?_⟩
    cases hbit : m.testBit b with
    | true => exact .inl (or_same m hm b hb hbit)
    | false => exact .inr (by have := cnt_or m hm b hb hbit; omega)
  · exact MUp.refl hm
theorem mB_up {h : Nat} : ∀ {body : List Li} {m : Nat}, m < 64 → (∀ b ∈ body, b.a.rel.toNat < 6) → MUp m (body.foldl (fun m b => ms h m b.a.rel.toNat) m)
  | [], m, hm, _ => MUp.refl hm
  | b :: r, m, hm, hb => by
    have h1 := ms_up (h := h) hm (hb b (by simp))
    exact h1.trans (mB_up (body := r) h1.lt fun b hb' => hb b (by simp [hb']))
theorem mR_up {r : Ru} {m : Nat} (hm : m < 64) (hr : ∀ a ∈ r.atoms, 0 ≤ a.rel ∧ a.rel ≤ 5) : MUp m (mR m r) := mB_up hm fun b hb => by
  have := hr b.a (by simp [Ru.atoms]; exact .inr ⟨b, hb, rfl⟩); omega
theorem mP_up : ∀ {l : List Ru} {m : Nat}, m < 64 → RelOk l → MUp m (mP l m)
  | [], m, hm, _ => MUp.refl hm
  | r :: l, m, hm, h => by
    have h1 := mR_up hm (h r (by simp))
    exact h1.trans (mP_up (l := l) h1.lt fun r' hr' => h r' (by simp [hr']))
theorem mB_id {h : Nat} : ∀ {body : List Li} {m : Nat}, m < 64 → (∀ b ∈ body, b.a.rel.toNat < 6) → body.foldl (fun m b => ms h m b.a.rel.toNat) m = m → m.testBit h = true → ∀ b ∈ body, m.testBit b.a.rel.toNat = true
  | [], _, _, _, _, _, b, hb => by cases hb
  | c :: r, m, hm, hb, he, hh, b, hbm => by
    have h1 := ms_up (h := h) hm (hb c (by simp))
    have hr : ∀ b ∈ r, b.a.rel.toNat < 6 := fun b hb' => hb b (by simp [hb'])
    have e1 : ms h m c.a.rel.toNat = m := h1.back (mB_up (h := h) h1.lt hr) he
    rw [List.foldl_cons, e1] at he
    rcases List.mem_cons.1 hbm with rfl | hbm
    · unfold ms at e1
      rw [if_pos hh] at e1
      rw [← e1, bit_or]; simp
    · exact mB_id hm hr he hh b hbm
theorem mP_id : ∀ {l : List Ru} {m : Nat}, m < 64 → RelOk l → mP l m = m → ∀ r ∈ l, m.testBit r.head.rel.toNat = true → ∀ b ∈ r.body, m.testBit b.a.rel.toNat = true
  | [], _, _, _, _, r, hr, _, _, _ => by cases hr
  | q :: l, m, hm, h, he, r, hr, hh, b, hb => by
    have h1 := mR_up hm (h q (by simp))
    have hl : RelOk l := fun r' hr' => h r' (by simp [hr'])
    have e1 : mR m q = m := h1.back (mP_up h1.lt hl) he
    rcases List.mem_cons.1 hr with rfl | hr
    · exact mB_id hm (fun b hb => by have := h r (by simp) b.a (by simp [Ru.atoms]; exact .inr ⟨b, hb, rfl⟩); omega) e1 hh b hb
    · have he : mP l (mR m q) = m := he
      rw [e1] at he
      exact mP_id hm hl he r hr hh b hb
def Snd (l : List Ru) (rel : Int) (m : Nat) : Prop := ∀ i : Nat, m.testBit i = true → Rch l rel i
theorem ms_snd {l : List Ru} {rel : Int} {q : Ru} (hq : q ∈ l) {b : Li} (hb : b ∈ q.body) (h0 : 0 ≤ q.head.rel) (b0 : 0 ≤ b.a.rel) {m : Nat} (h : Snd l rel m) : Snd l rel (ms q.head.rel.toNat m b.a.rel.toNat) := fun i hi => by
  unfold ms at hi
  split at hi
  · rename_i hh
    rw [bit_or, Bool.or_eq_true, decide_eq_true_eq] at hi
    rcases hi with hi | rfl
    · exact h i hi
    · have := h _ hh
      rw [Int.toNat_of_nonneg h0] at this
      have := Rch.step hq this hb
      rw [Int.toNat_of_nonneg b0]; exact this
  · exact h i hi
theorem mB_snd {l : List Ru} {rel : Int} {q : Ru} (hq : q ∈ l) (hr : ∀ a ∈ q.atoms, 0 ≤ a.rel ∧ a.rel ≤ 5) : ∀ {body : List Li} {m : Nat}, (∀ b ∈ body, b ∈ q.body) → Snd l rel m → Snd l rel (body.foldl (fun m b => ms q.head.rel.toNat m b.a.rel.toNat) m)
  | [], _, _, h => h
  | b :: r, m, hb, h => mB_snd (body := r) (m := ms q.head.rel.toNat m b.a.rel.toNat) hq hr (fun b' h' => hb b' (by simp [h'])) (ms_snd hq (hb b (by simp)) (hr q.head (by simp [Ru.atoms])).1 (hr b.a (by simp [Ru.atoms]; exact .inr ⟨b, hb b (by simp), rfl⟩)).1 h)
theorem mL_snd {l0 : List Ru} {rel : Int} : ∀ {l : List Ru} {m : Nat}, (∀ r ∈ l, r ∈ l0) → RelOk l → Snd l0 rel m → Snd l0 rel (mP l m)
  | [], _, _, _, h => h
  | q :: l, m, hl, hR, h => mL_snd (l := l) (m := mR m q) (fun r hr => hl r (by simp [hr])) (fun r hr => hR r (by simp [hr])) (mB_snd (hl q (by simp)) (hR q (by simp)) (fun _ h => h) h)
/-- The bits of the Rels that are needed. -/
structure IsNd (l : List Ru) (rel : Int) (m : Nat) : Prop where
  lt : m < 64
  base : m.testBit rel.toNat = true
  cl : ∀ r ∈ l, m.testBit r.head.rel.toNat = true → ∀ b ∈ r.body, m.testBit b.a.rel.toNat = true
  snd : Snd l rel m
theorem IsNd.of {l : List Ru} {rel r : Int} {m : Nat} (h : IsNd l rel m) (hr : Rch l rel r) : m.testBit r.toNat = true := hr (fun r => m.testBit r.toNat = true) h.base h.cl
theorem IsNd.uniq {l : List Ru} {rel : Int} {m m' : Nat} (h : IsNd l rel m) (h' : IsNd l rel m') : m = m' := by
  apply Nat.eq_of_testBit_eq
  intro i
  have h1 : m.testBit i = true → m'.testBit i = true := fun hi => by simpa using h'.of (h.snd i hi)
  have h2 : m'.testBit i = true → m.testBit i = true := fun hi => by simpa using h.of (h'.snd i hi)
  cases e : m.testBit i <;> cases e' : m'.testBit i <;> simp_all
def itM (l : List Ru) (rel : Int) : Nat → Nat
  | 0 => 2 ^ rel.toNat
  | n + 1 => mP l (itM l rel n)
theorem bit_base (k : Nat) : (2 ^ k).testBit k = true := by rw [Nat.testBit_two_pow]; simp
theorem itM_is {l : List Ru} (hR : RelOk l) {rel : Int} (h0 : 0 ≤ rel) (h5 : rel ≤ 5) : ∀ n, itM l rel n < 64 ∧ (itM l rel n).testBit rel.toNat = true ∧ Snd l rel (itM l rel n) ∧ (mP l (itM l rel n) = itM l rel n ∨ n + 1 ≤ cnt (itM l rel n))
  | 0 => by
    have h : ∀ k < 6, 2 ^ k < 64 ∧ 1 ≤ cnt (2 ^ k) := by decide +kernel
    have := h rel.toNat (by omega)
    refine ⟨this.1, bit_base _, fun i hi => ?_, .inr this.2⟩
    have hi : (2 ^ rel.toNat).testBit i = true := hi
    rw [Nat.testBit_two_pow, decide_eq_true_eq] at hi
    rw [← hi, Int.toNat_of_nonneg h0]; exact Rch.base l rel
  | n + 1 => by
    obtain ⟨h1, h2, h3, h4⟩ := itM_is hR h0 h5 n
    have hu := mP_up h1 hR
    refine ⟨hu.lt, hu.mono _ h2, mL_snd (fun _ h => h) hR h3, ?_⟩
    show mP l (mP l (itM l rel n)) = mP l (itM l rel n) ∨ n + 1 + 1 ≤ cnt (mP l (itM l rel n))
    rcases h4 with h4 | h4
    · rw [h4]; exact .inl h4
    · rcases hu.ct with h | h
      · rw [h]; exact .inl h
      · exact .inr (by omega)
theorem IsNd.mk' {l : List Ru} (hR : RelOk l) {rel : Int} {m : Nat} (hm : m < 64) (hb : m.testBit rel.toNat = true) (hs : Snd l rel m) (hf : mP l m = m) : IsNd l rel m := ⟨hm, hb, mP_id hm hR hf, hs⟩
/-- After six rounds. -/
theorem itM_nd {l : List Ru} (hR : RelOk l) {rel : Int} (h0 : 0 ≤ rel) (h5 : rel ≤ 5) : IsNd l rel (itM l rel 6) := by
  obtain ⟨h1, h2, h3, h4⟩ := itM_is hR h0 h5 6
  rcases h4 with h4 | h4
  · exact IsNd.mk' hR h1 h2 h3 h4
  · have := cnt_le (itM l rel 6); omega
/-- The rules that are needed. -/
def ndR (l : List Ru) (m : Nat) : List Ru := l.filter fun r => m.testBit r.head.rel.toNat
end Go.Proofs.Ytoljknamnkkgcaa
/-
  Printed by a program of this session (wip/tools/vcprint.py): of each Go function the shallow form, and that the calculus comes to it, by the kernel.
-/
namespace Go.Proofs.Ytoljknamnkkgcaa
open Go Go.VC
set_option maxRecDepth 100000

/-- F36: cubeb/rules.Strata -/
def An36 : An := (.sq .lf (.sq (.sq .lf (.cd (.sq .lf .lf) .lf)) (.sq .lf (.sq (.sq .lf (.cd (.sq .lf .lf) .lf)) (.sq .lf .lf)))))
def S36 (s0 : Sl) (R : Value → World → Prop) (w : World) : Prop :=
  Calls Try.prog 55 [(.slice s0.a s0.n s0.c), (.slice none 0 0)].toArray w (fun e w1 => ∃ b7 : Bool, e = .returned (.bool b7) ∧
  cond (!b7) (
  R (.tuple [(.slice none 0 0), (.int .i64 (2 : Int))].toArray) w1) (
  Calls Try.prog 84 [(.slice s0.a s0.n s0.c)].toArray w1 (fun e_2 w2 => ∃ s11_0 : Sl, ∃ b11_1 : Bool, e_2 = .returned (.tuple [(.slice s11_0.a s11_0.n s11_0.c), (.bool b11_1)].toArray) ∧
  cond (!b11_1) (
  R (.tuple [(.slice none 0 0), (.int .i64 (8 : Int))].toArray) w2) (
  R (.tuple [(.slice s11_0.a s11_0.n s11_0.c), (.int .i64 (0 : Int))].toArray) w2))))
theorem eq36 (s0 : Sl) (R : Value → World → Prop) (w : World) : funV Try.prog Try.f36 An36 [(.slice s0.a s0.n s0.c)] R w = S36 s0 R w := by kernel_rfl
theorem call36 (s0 : Sl) {R : Value → World → Prop} {w : World} (h : S36 s0 R w) : Calls Try.prog 36 [(.slice s0.a s0.n s0.c)].toArray w fun e w' => ∃ v, e = .returned v ∧ R v w' :=
  funV_calls mixed Try.func36 (an := An36) (by rw [eq36]; exact h)

/-- F37: cubeb/rules.Needed -/
def An37 : An := (.sq .lf (.sq (.sq (.rj [] [(25, .bool)]) (.cd (.sq .lf .lf) .lf)) (.sq .lf (.sq (.sq .lf (.bk [(6, .int .i64)] (.lp [(6, .int .i64), (7, .bool)] (.sq (.sq .lf (.cd .lf .lf)) (.bk [(6, .int .i64), (7, .bool)] (.sq .lf (.sq .lf (.bk [(6, .int .i64), (7, .bool)] (.lp [(6, .int .i64), (7, .bool), (31, .int .i64)] (.sq .lf (.sq (.cd .lf .lf) (.sq (.bk [(6, .int .i64), (7, .bool)] (.sq .lf (.sq (.sq .lf (.cd .lf .lf)) (.sq .lf (.bk [(6, .int .i64), (7, .bool)] (.lp [(6, .int .i64), (7, .bool), (45, .int .i64)] (.sq .lf (.sq (.cd .lf .lf) (.sq (.bk [(6, .int .i64), (7, .bool)] (.sq .lf (.sq .lf (.cj [(6, .int .i64), (7, .bool)] (.sq .lf .lf) .lf)))) .lf))))))))) .lf)))))))))))) (.sq .lf (.sq (.sq .lf (.bk [(12, .slice)] (.lp [(12, .slice), (66, .int .i64)] (.sq .lf (.sq (.cd .lf .lf) (.sq (.bk [(12, .slice)] (.sq .lf (.sq .lf (.cj [(12, .slice)] .lf .lf)))) .lf)))))) (.sq .lf .lf)))))))
def S37 (s0 : Sl) (x1 : Int) (R : Value → World → Prop) (w : World) : Prop :=
  Join [(25, .bool)] (fun (b25 : Bool) (w1 : World) => cond b25 (
  R (.tuple [(.slice none 0 0), (.int .i64 (2 : Int))].toArray) w1) (
  0 ≤ x1 ∧ Join [(6, .int .i64)] (fun (x6 : Int) (w2 : World) => Join [(12, .slice)] (fun (s12 : Sl) (w3 : World) => R (.tuple [(.slice s12.a s12.n s12.c), (.int .i64 (0 : Int))].toArray) w3) (fun J =>
  LoopV [(12, .slice), (66, .int .i64)] (fun K => K ⟨none, 0, 0⟩ (0 : Int) w2) (fun N => fun (s12_2 : Sl) (x66 : Int) (w4 : World) =>
  cond (decide (x66 < ((s0.n : Nat) : Int))) (
  Join [(12, .slice)] (fun (s12_3 : Sl) (w5 : World) => N ⟨s12_3.a, s12_3.n, s12_3.c⟩ (IntKind.wrap .i64 (x66 + (1 : Int))) w5) (fun J_2 =>
  ∃ p68 : Pt, s0.a = some ⟨p68.b, p68.o, none⟩ ∧ 0 ≤ x66 ∧ x66 < ((s0.n : Nat) : Int) ∧ ∃ x69_0 : Int, ∃ s69_1 : Sl, ∃ s69_2 : Sl, rd w4 p68.b (p68.o + Int.toNat x66 * 3) [(.int .i64 x69_0), (.slice s69_1.a s69_1.n s69_1.c), (.slice s69_2.a s69_2.n s69_2.c)] ∧ Let (w4.alloc (.cells (zc Try.prog 52) 52)) fun w6 => 
  StoreOk w6 w4.heap.size 0 [(.int .i64 x69_0), (.slice s69_1.a s69_1.n s69_1.c), (.slice s69_2.a s69_2.n s69_2.c)] 3 ∧ Let (put w6 w4.heap.size 0 [(.int .i64 x69_0), (.slice s69_1.a s69_1.n s69_1.c), (.slice s69_2.a s69_2.n s69_2.c)]) fun w7 => 
  ∃ x73 : Int, World.cell? w7 ⟨w4.heap.size, ((0 + 0) + 0), none⟩ = some (.int .i64 x73) ∧ 0 ≤ x73 ∧ Join [(12, .slice)] (fun (s12_4 : Sl) (w8 : World) => J_2 ⟨s12_4.a, s12_4.n, s12_4.c⟩ w8) (fun J_3 =>
  cond ((bitsI .and .i64 (Int.fdiv x6 (2 ^ (min (Int.toNat x73) (IntKind.bits .i64)))) (1 : Int)) == (1 : Int)) (
  ∃ x78_0 : Int, ∃ s78_1 : Sl, ∃ s78_2 : Sl, rd w7 w4.heap.size 0 [(.int .i64 x78_0), (.slice s78_1.a s78_1.n s78_1.c), (.slice s78_2.a s78_2.n s78_2.c)] ∧ Calls Try.prog 85 [(.agg [(.int .i64 x78_0), (.slice s78_1.a s78_1.n s78_1.c), (.slice s78_2.a s78_2.n s78_2.c)].toArray)].toArray w7 (fun e w9 => ∃ x79_0 : Int, ∃ s79_1 : Sl, ∃ s79_2 : Sl, e = .returned (.agg [(.int .i64 x79_0), (.slice s79_1.a s79_1.n s79_1.c), (.slice s79_2.a s79_2.n s79_2.c)].toArray) ∧
  ∃ (s80 : Sl) (w10 : World), Sem.run Try.prog (Instr.buildSlice 27 1 [(0, (.agg [(.int .i64 x79_0), (.slice s79_1.a s79_1.n s79_1.c), (.slice s79_2.a s79_2.n s79_2.c)].toArray))].toArray) w9 = .ok (.slice s80.a s80.n s80.c) w10 ∧
  ∃ (s81 : Sl) (w11 : World), Sem.run Try.prog (Builtin.append_ #[27, 27] 27 #[(.slice s12_2.a s12_2.n s12_2.c), (.slice s80.a s80.n s80.c)]) w10 = .ok (.slice s81.a s81.n s81.c) w11 ∧
  J_3 ⟨s81.a, s81.n, s81.c⟩ w11)) (
  J_3 ⟨s12_2.a, s12_2.n, s12_2.c⟩ w7)))) (
  J ⟨s12_2.a, s12_2.n, s12_2.c⟩ w4)))) (fun J_4 =>
  LoopV [(6, .int .i64), (7, .bool)] (fun K => K (IntKind.wrap .i64 ((1 : Int) * 2 ^ (min (Int.toNat x1) (IntKind.bits .i64)))) true w1) (fun N_2 => fun (x6_2 : Int) (b7 : Bool) (w12 : World) =>
  cond b7 (
  Join [(6, .int .i64), (7, .bool)] (fun (x6_3 : Int) (b7_2 : Bool) (w13 : World) => N_2 x6_3 b7_2 w13) (fun J_5 =>
  Join [(6, .int .i64), (7, .bool)] (fun (x6_4 : Int) (b7_3 : Bool) (w14 : World) => J_5 x6_4 b7_3 w14) (fun J_6 =>
  LoopV [(6, .int .i64), (7, .bool), (31, .int .i64)] (fun K => K x6_2 false (0 : Int) w12) (fun N_3 => fun (x6_5 : Int) (b7_4 : Bool) (x31 : Int) (w15 : World) =>
  cond (decide (x31 < ((s0.n : Nat) : Int))) (
  Join [(6, .int .i64), (7, .bool)] (fun (x6_6 : Int) (b7_5 : Bool) (w16 : World) => N_3 x6_6 b7_5 (IntKind.wrap .i64 (x31 + (1 : Int))) w16) (fun J_7 =>
  ∃ p33 : Pt, s0.a = some ⟨p33.b, p33.o, none⟩ ∧ 0 ≤ x31 ∧ x31 < ((s0.n : Nat) : Int) ∧ ∃ x34_0 : Int, ∃ s34_1 : Sl, ∃ s34_2 : Sl, rd w15 p33.b (p33.o + Int.toNat x31 * 3) [(.int .i64 x34_0), (.slice s34_1.a s34_1.n s34_1.c), (.slice s34_2.a s34_2.n s34_2.c)] ∧ Let (w15.alloc (.cells (zc Try.prog 52) 52)) fun w17 => 
  StoreOk w17 w15.heap.size 0 [(.int .i64 x34_0), (.slice s34_1.a s34_1.n s34_1.c), (.slice s34_2.a s34_2.n s34_2.c)] 3 ∧ Let (put w17 w15.heap.size 0 [(.int .i64 x34_0), (.slice s34_1.a s34_1.n s34_1.c), (.slice s34_2.a s34_2.n s34_2.c)]) fun w18 => 
  ∃ x38 : Int, World.cell? w18 ⟨w15.heap.size, ((0 + 0) + 0), none⟩ = some (.int .i64 x38) ∧ 0 ≤ x38 ∧ cond ((bitsI .and .i64 (Int.fdiv x6_5 (2 ^ (min (Int.toNat x38) (IntKind.bits .i64)))) (1 : Int)) == (0 : Int)) (
  J_7 x6_5 b7_4 w18) (
  ∃ s43 : Sl, World.cell? w18 ⟨w15.heap.size, (0 + 2), none⟩ = some (.slice s43.a s43.n s43.c) ∧ Join [(6, .int .i64), (7, .bool)] (fun (x6_7 : Int) (b7_6 : Bool) (w19 : World) => J_7 x6_7 b7_6 w19) (fun J_8 =>
  LoopV [(6, .int .i64), (7, .bool), (45, .int .i64)] (fun K => K x6_5 b7_4 (0 : Int) w18) (fun N_4 => fun (x6_8 : Int) (b7_7 : Bool) (x45 : Int) (w20 : World) =>
  cond (decide (x45 < ((s43.n : Nat) : Int))) (
  Join [(6, .int .i64), (7, .bool)] (fun (x6_9 : Int) (b7_8 : Bool) (w21 : World) => N_4 x6_9 b7_8 (IntKind.wrap .i64 (x45 + (1 : Int))) w21) (fun J_9 =>
  ∃ p47 : Pt, s43.a = some ⟨p47.b, p47.o, none⟩ ∧ 0 ≤ x45 ∧ x45 < ((s43.n : Nat) : Int) ∧ ∃ b48_0 : Bool, ∃ x48_1 : Int, ∃ s48_2 : Sl, rd w20 p47.b (p47.o + Int.toNat x45 * 3) [(.bool b48_0), (.int .i64 x48_1), (.slice s48_2.a s48_2.n s48_2.c)] ∧ Let (w20.alloc (.cells (zc Try.prog 54) 54)) fun w22 => 
  StoreOk w22 w20.heap.size 0 [(.bool b48_0), (.int .i64 x48_1), (.slice s48_2.a s48_2.n s48_2.c)] 3 ∧ Let (put w22 w20.heap.size 0 [(.bool b48_0), (.int .i64 x48_1), (.slice s48_2.a s48_2.n s48_2.c)]) fun w23 => 
  ∃ x52 : Int, World.cell? w23 ⟨w20.heap.size, ((0 + 1) + 0), none⟩ = some (.int .i64 x52) ∧ 0 ≤ x52 ∧ Join [(6, .int .i64), (7, .bool)] (fun (x6_10 : Int) (b7_9 : Bool) (w24 : World) => J_9 x6_10 b7_9 w24) (fun J_10 =>
  cond ((bitsI .and .i64 (Int.fdiv x6_8 (2 ^ (min (Int.toNat x52) (IntKind.bits .i64)))) (1 : Int)) == (0 : Int)) (
  ∃ x59 : Int, World.cell? w23 ⟨w20.heap.size, ((0 + 1) + 0), none⟩ = some (.int .i64 x59) ∧ 0 ≤ x59 ∧ J_10 (bitsI .or .i64 x6_8 (IntKind.wrap .i64 ((1 : Int) * 2 ^ (min (Int.toNat x59) (IntKind.bits .i64))))) true w23) (
  J_10 x6_8 b7_7 w23)))) (
  J_8 x6_8 b7_7 w20)))))) (
  J_6 x6_5 b7_4 w15))))) (
  J_4 x6_2 w12))))) (fun J_11 =>
  Calls Try.prog 55 [(.slice s0.a s0.n s0.c), (.slice none 0 0)].toArray w (fun e_2 w25 => ∃ b16 : Bool, e_2 = .returned (.bool b16) ∧
  cond (!b16) (J_11 true w25) (cond (decide (x1 < (0 : Int))) (J_11 true w25) (J_11 (decide (x1 ≥ (6 : Int))) w25))))
theorem eq37 (s0 : Sl) (x1 : Int) (R : Value → World → Prop) (w : World) : funV Try.prog Try.f37 An37 [(.slice s0.a s0.n s0.c), (.int .i64 x1)] R w = S37 s0 x1 R w := by kernel_rfl
theorem call37 (s0 : Sl) (x1 : Int) {R : Value → World → Prop} {w : World} (h : S37 s0 x1 R w) : Calls Try.prog 37 [(.slice s0.a s0.n s0.c), (.int .i64 x1)].toArray w fun e w' => ∃ v, e = .returned v ∧ R v w' :=
  funV_calls mixed Try.func37 (an := An37) (by rw [eq37]; exact h)

/-- F85: (cubeb/rules.Rule).clone -/
def An85 : An := (.sq .lf (.sq (.df [0, 1, 2, 3, 4, 5] 6 9 [7, 8, 9, 10] [6, 7, 8, 10] [10] [(3, .ptr)]) (.sq (.sq .lf (.bk [] (.lp [(18, .int .i64)] (.sq .lf (.sq (.cd .lf .lf) (.sq (.bk [] (.sq .lf (.dr [0, 1, 2, 3, 4, 5, 6, 7, 8, 9, 10, 11, 12, 13, 14, 15, 16] [16] true none))) .lf)))))) (.sq .lf .lf))))
def S85 (x0_0 : Int) (s0_1 : Sl) (s0_2 : Sl) (R : Value → World → Prop) (w : World) : Prop :=
  Let (w.alloc (.cells [(.int .i64 x0_0), (.slice s0_1.a s0_1.n s0_1.c), (.slice s0_2.a s0_2.n s0_2.c)].toArray 52)) fun w1 => 
  Let (w1.alloc (.cells (zc Try.prog 52) 52)) fun w2 => 
  Join [(3, .ptr)] (fun (p3 : Pt) (w4 : World) => ∃ s16 : Sl, World.cell? w4 ⟨w.heap.size, (0 + 2), none⟩ = some (.slice s16.a s16.n s16.c) ∧ Join [] (fun (w5 : World) => ∃ x39_0 : Int, ∃ s39_1 : Sl, ∃ s39_2 : Sl, rd w5 p3.b p3.o [(.int .i64 x39_0), (.slice s39_1.a s39_1.n s39_1.c), (.slice s39_2.a s39_2.n s39_2.c)] ∧ StoreOk w5 w1.heap.size 0 [(.int .i64 x39_0), (.slice s39_1.a s39_1.n s39_1.c), (.slice s39_2.a s39_2.n s39_2.c)] 3 ∧ Let (put w5 w1.heap.size 0 [(.int .i64 x39_0), (.slice s39_1.a s39_1.n s39_1.c), (.slice s39_2.a s39_2.n s39_2.c)]) fun w6 => 
  ∃ xr2_0 : Int, ∃ sr2_1 : Sl, ∃ sr2_2 : Sl, rd w6 w1.heap.size 0 [(.int .i64 xr2_0), (.slice sr2_1.a sr2_1.n sr2_1.c), (.slice sr2_2.a sr2_2.n sr2_2.c)] ∧ R (.agg [(.int .i64 xr2_0), (.slice sr2_1.a sr2_1.n sr2_1.c), (.slice sr2_2.a sr2_2.n sr2_2.c)].toArray) w6) (fun J =>
  LoopV [(18, .int .i64)] (fun K => K (0 : Int) w4) (fun N => fun (x18 : Int) (w7 : World) =>
  cond (decide (x18 < ((s16.n : Nat) : Int))) (
  Join [] (fun (w8 : World) => N (IntKind.wrap .i64 (x18 + (1 : Int))) w8) (fun J_2 =>
  ∃ p20 : Pt, s16.a = some ⟨p20.b, p20.o, none⟩ ∧ 0 ≤ x18 ∧ x18 < ((s16.n : Nat) : Int) ∧ ∃ b21_0 : Bool, ∃ x21_1 : Int, ∃ s21_2 : Sl, rd w7 p20.b (p20.o + Int.toNat x18 * 3) [(.bool b21_0), (.int .i64 x21_1), (.slice s21_2.a s21_2.n s21_2.c)] ∧ Let (w7.alloc (.cells (zc Try.prog 54) 54)) fun w9 => 
  StoreOk w9 w7.heap.size 0 [(.bool b21_0), (.int .i64 x21_1), (.slice s21_2.a s21_2.n s21_2.c)] 3 ∧ Let (put w9 w7.heap.size 0 [(.bool b21_0), (.int .i64 x21_1), (.slice s21_2.a s21_2.n s21_2.c)]) fun w10 => 
  ∃ S1 : World → Prop, S1 w10.drew ∧ Let w10.drew fun w11 =>
  ∃ s23 : Sl, (∀ u, S1 u → World.cell? u ⟨p3.b, (p3.o + 2), none⟩ = some (.slice s23.a s23.n s23.c)) ∧ ∃ b25 : Bool, (∀ u, S1 u → World.cell? u ⟨w7.heap.size, (0 + 0), none⟩ = some (.bool b25)) ∧ ∃ x28 : Int, (∀ u, S1 u → World.cell? u ⟨w7.heap.size, ((0 + 1) + 0), none⟩ = some (.int .i64 x28)) ∧ ∃ s31 : Sl, (∀ u, S1 u → World.cell? u ⟨w7.heap.size, ((0 + 1) + 1), none⟩ = some (.slice s31.a s31.n s31.c)) ∧ Calls Try.prog 64 [(.slice s31.a s31.n s31.c)].toArray w11 (fun e w12 => ∃ s32 : Sl, e = .returned (.slice s32.a s32.n s32.c) ∧
  S1 w12 ∧ 2 = 2 ∧ 3 ≤ 3 ∧ ∃ (s35 : Sl) (w13 : World), Sem.run Try.prog (Instr.buildSlice 50 1 [(0, (.agg [(.bool b25), (.int .i64 x28), (.slice s32.a s32.n s32.c)].toArray))].toArray) w12 = .ok (.slice s35.a s35.n s35.c) w13 ∧
  S1 w13 ∧ ∃ (s36 : Sl) (w14 : World), Sem.run Try.prog (Builtin.append_ #[50, 50] 50 #[(.slice s23.a s23.n s23.c), (.slice s35.a s35.n s35.c)]) w13 = .ok (.slice s36.a s36.n s36.c) w14 ∧
  S1 w14 ∧ StoreOk w14 p3.b (p3.o + 2) [(.slice s36.a s36.n s36.c)] 1 ∧ Let (put w14 p3.b (p3.o + 2) [(.slice s36.a s36.n s36.c)]) fun w15 => 
  J_2 w15))) (
  J w7)))) (fun J_3 =>
  ∃ S2 : World → Prop, S2 w2.drew ∧ Let w2.drew fun w3 =>
  ∃ x8 : Int, (∀ u, S2 u → World.cell? u ⟨w.heap.size, ((0 + 0) + 0), none⟩ = some (.int .i64 x8)) ∧ ∃ s11 : Sl, (∀ u, S2 u → World.cell? u ⟨w.heap.size, ((0 + 0) + 1), none⟩ = some (.slice s11.a s11.n s11.c)) ∧ (Calls Try.prog 64 [(.slice s11.a s11.n s11.c)].toArray w3 (fun e_2 w16 => ∃ s12 : Sl, e_2 = .returned (.slice s12.a s12.n s12.c) ∧
  S2 w16 ∧ 2 = 2 ∧ 2 ≤ 3 ∧ Let (w16.alloc (.cells (zc Try.prog 52) 52)) fun w17 => 
  S2 w17 ∧ StoreOk w17 w16.heap.size 0 [(.int .i64 x8), (.slice s12.a s12.n s12.c), (.slice none 0 0)] 3 ∧ Let (put w17 w16.heap.size 0 [(.int .i64 x8), (.slice s12.a s12.n s12.c), (.slice none 0 0)]) fun w18 => 
  J_3 ⟨w16.heap.size, 0⟩ w18)) ∧
  (Let (w3.alloc (.cells (zc Try.prog 52) 52)) fun w19 => 
  S2 w19 ∧ Calls Try.prog 64 [(.slice s11.a s11.n s11.c)].toArray w19 (fun e_3 w20 => ∃ s12_2 : Sl, e_3 = .returned (.slice s12_2.a s12_2.n s12_2.c) ∧
  S2 w20 ∧ 2 = 2 ∧ 2 ≤ 3 ∧ StoreOk w20 w3.heap.size 0 [(.int .i64 x8), (.slice s12_2.a s12_2.n s12_2.c), (.slice none 0 0)] 3 ∧ Let (put w20 w3.heap.size 0 [(.int .i64 x8), (.slice s12_2.a s12_2.n s12_2.c), (.slice none 0 0)]) fun w21 => 
  J_3 ⟨w3.heap.size, 0⟩ w21)))
theorem eq85 (x0_0 : Int) (s0_1 : Sl) (s0_2 : Sl) (R : Value → World → Prop) (w : World) : funV Try.prog Try.f85 An85 [(.agg [(.int .i64 x0_0), (.slice s0_1.a s0_1.n s0_1.c), (.slice s0_2.a s0_2.n s0_2.c)].toArray)] R w = S85 x0_0 s0_1 s0_2 R w := by kernel_rfl
theorem call85 (x0_0 : Int) (s0_1 : Sl) (s0_2 : Sl) {R : Value → World → Prop} {w : World} (h : S85 x0_0 s0_1 s0_2 R w) : Calls Try.prog 85 [(.agg [(.int .i64 x0_0), (.slice s0_1.a s0_1.n s0_1.c), (.slice s0_2.a s0_2.n s0_2.c)].toArray)].toArray w fun e w' => ∃ v, e = .returned v ∧ R v w' :=
  funV_calls mixed Try.func85 (an := An85) (by rw [eq85]; exact h)

end Go.Proofs.Ytoljknamnkkgcaa
/-
  Contracts: Strata; a rule copied; Needed.
-/
namespace Go.Proofs.Ytoljknamnkkgcaa
open Go Go.VC
set_option maxHeartbeats 1000000
set_option maxRecDepth 100000

theorem NF.nil (w : World) : NF w ⟨none, 0, 0⟩ [] := ⟨Sli.nil _ _, by simp⟩
theorem NR.nil (w : World) : NR w ⟨none, 0, 0⟩ [] := ⟨Sli.nil _ _, by simp⟩
theorem c36 {w : World} {s : Sl} {l : List DR} (hs : NR w s l) (hl : l.length ≤ 1000000) (hz : ∀ r ∈ l, SzR r) :
    Calls Try.prog 36 [.slice s.a s.n s.c].toArray w fun e w' => ∃ (s2 : Sl) (x : Int) (L : List Int), e = .returned (.tuple [.slice s2.a s2.n s2.c, .int .i64 x].toArray) ∧ Ints w' s2 L ∧ L.length ≤ 6 ∧
      ((¬ ValidP (l.map DR.p) [] ∧ x = 2 ∧ L = []) ∨ (ValidP (l.map DR.p) [] ∧ (¬ ∃ t, IsStr (l.map DR.p) t) ∧ x = 8 ∧ L = []) ∨ (ValidP (l.map DR.p) [] ∧ IsStr (l.map DR.p) L ∧ x = 0)) ∧ Ext w w' := by
  refine (call36 s (R := fun v w' => ∃ (s2 : Sl) (x : Int) (L : List Int), v = (.tuple [.slice s2.a s2.n s2.c, .int .i64 x].toArray) ∧ Ints w' s2 L ∧ L.length ≤ 6 ∧
      ((¬ ValidP (l.map DR.p) [] ∧ x = 2 ∧ L = []) ∨ (ValidP (l.map DR.p) [] ∧ (¬ ∃ t, IsStr (l.map DR.p) t) ∧ x = 8 ∧ L = []) ∨ (ValidP (l.map DR.p) [] ∧ IsStr (l.map DR.p) L ∧ x = 0)) ∧ Ext w w') ?_).mono fun e w' ⟨v, he, s2, x, L, hv, hx⟩ => ⟨s2, x, L, by rw [he, hv], hx⟩
  refine (c55 hs (NF.nil w) hl (by simp) hz (by simp)).mono fun e w1 ⟨b, he, hb, x1⟩ => ⟨b, he, cond_intro (fun g => ?_) (fun g => ?_)⟩
  · have g : b = false := by simpa using g
    exact ⟨⟨none, 0, 0⟩, 2, [], rfl, Sli.nil _ _, by simp, .inl ⟨(fun h => by rw [hb.2 h] at g; cases g), rfl, rfl⟩, x1⟩
  have g : b = true := by simpa using g
  have hv : ValidP (l.map DR.p) [] := hb.1 g
  have hru : ∀ r ∈ l, RuleP r.p := fun r hr => hv.ru _ (List.mem_map.2 ⟨r, hr, rfl⟩)
  have hR : RelOk (l.map DR.p) := RuleP.rel hv.ru
  have hl10 : l.length ≤ 10 := by have := hv.nl; simpa using this
  refine (c84 (hs.ext x1) (by omega) (fun r hr => by have := (hru r hr).1; simpa [DR.p] using this) hR).mono fun e w2 ⟨s1, ok, he, hok, hno, x2⟩ => ⟨s1, ok, he, cond_intro (fun g2 => ?_) (fun g2 => ?_)⟩
  · have g2 : ok = false := by simpa using g2
    refine ⟨⟨none, 0, 0⟩, 8, [], rfl, Sli.nil _ _, by simp, .inr (.inl ⟨hv, fun ⟨t, ht⟩ => ?_, rfl, rfl⟩), x1.trans x2⟩
    obtain ⟨x, h0, h1, h2⟩ := (hno g2).2 _ ht.isSol
    have := lv_le (by omega) (ht.le5 hR) x
    omega
  · have g2 : ok = true := by simpa using g2
    obtain ⟨t, hti, ht⟩ := hok g2
    exact ⟨s1, 0, t, rfl, hti, by rw [ht.len]; omega, .inr (.inr ⟨hv, ht, rfl⟩), x1.trans x2⟩
/-- A rule copied. -/
theorem c85 {w : World} {r : DR} (hr : RulOk w r) (hb : r.body.length ≤ 1000) (ha : ∀ x ∈ r.atoms, x.args.length ≤ 1000) :
    Calls Try.prog 85 [.agg [.int .i64 r.head.rel, .slice r.head.sl.a r.head.sl.n r.head.sl.c, .slice r.bs.a r.bs.n r.bs.c].toArray].toArray w fun e w' => ∃ y : DR, e = .returned (.agg [.int .i64 y.head.rel, .slice y.head.sl.a y.head.sl.n y.head.sl.c, .slice y.bs.a y.bs.n y.bs.c].toArray) ∧ y.p = r.p ∧ RT w' y ∧ Ext w w' := by
  refine (call85 r.head.rel r.head.sl r.bs (R := fun v w' => ∃ y : DR, v = (.agg [.int .i64 y.head.rel, .slice y.head.sl.a y.head.sl.n y.head.sl.c, .slice y.bs.a y.bs.n y.bs.c].toArray) ∧ y.p = r.p ∧ RT w' y ∧ Ext w w') ?_).mono fun e w' ⟨v, he, y, hv, hx⟩ => ⟨y, by rw [he, hv], hx⟩
  have hbn := hr.bd.len
  refine Let.intro fun w1 e1 => ?_
  have e1 : w1 = w.alloc (.cells (eR r).toArray 52) := e1
  have b1 : Blk w1 w.heap.size (eR r) 52 := by rw [e1]; exact Blk.alloc w _ 52
  have x1 : Ext w w1 := by rw [e1]; exact Ext.alloc ..
  refine Let.intro fun w2 e2 => ?_
  have bz : Blk w2 w1.heap.size (zc Try.prog 52).toList 52 := by rw [e2]; simpa using Blk.alloc w1 (zc Try.prog 52).toList 52
  have x2 : Ext w1 w2 := by rw [e2]; exact Ext.alloc ..
  have b2 := b1.ext x2
  have x02 := x1.trans x2
  have lz := bz.lt
  have l1 := b1.lt
  refine ⟨fun p3 w4 => ∃ (q : Nat) (h : Sl), p3 = ⟨q, 0⟩ ∧ w2.heap.size ≤ q ∧ Blk w4 q [.int .i64 r.head.rel, .slice h.a h.n h.c, .slice none 0 0] 52 ∧ TI w4 h r.head.args ∧ Ext w2 w4, ?_, ?_⟩
  rotate_left
  · -- the head
    refine ⟨fun u => Ext w2 u, Ext.drew _, Let.intro fun w3 e3 => ?_⟩
    have x3 : Ext w2 w3 := by rw [e3]; exact Ext.drew _
    have z3 := x3.size
    refine ⟨r.head.rel, fun u hu => (b2.ext hu).cell 0, r.head.sl, fun u hu => (b2.ext hu).cell 1, ?_, ?_⟩
    · refine (c64 (hr.hd.ext (x02.trans x3)) (Nat.le_trans (ha r.head (by simp [DR.atoms])) (by omega))).mono fun e w16 ⟨h, he, ho, x16⟩ => ⟨h, he, x3.trans x16, rfl, by decide, ?_⟩
      obtain ⟨n1, n2, n3⟩ := new_var w16 52 (z := zc Try.prog 52) (vs := [.int .i64 r.head.rel, .slice h.a h.n h.c, .slice none 0 0]) (by rw [zc52]; rfl) (by intro v hv; simp at hv; rcases hv with rfl | rfl | rfl <;> rfl)
      refine Let.intro fun w17 e17 => ?_
      have x17 : Ext w16 w17 := by rw [e17]; exact Ext.alloc ..
      rw [← e17] at n1 n2 n3
      refine ⟨(x3.trans x16).trans x17, n1, Let.intro fun w18 e18 => ?_⟩
      rw [← e18] at n2 n3
      have := x16.size
      exact ⟨_, h, rfl, by omega, n2, (Own.ti ho).ext n3, (x3.trans x16).trans n3⟩
    · refine Let.intro fun w19 e19 => ?_
      have x19 : Ext w3 w19 := by rw [e19]; exact Ext.alloc ..
      have bq : Blk w19 w3.heap.size (zc Try.prog 52).toList 52 := by rw [e19]; simpa using Blk.alloc w3 (zc Try.prog 52).toList 52
      refine ⟨x3.trans x19, (c64 (hr.hd.ext ((x02.trans x3).trans x19)) (Nat.le_trans (ha r.head (by simp [DR.atoms])) (by omega))).mono fun e w20 ⟨h, he, ho, x20⟩ => ⟨h, he, (x3.trans x19).trans x20, rfl, by decide, ?_⟩⟩
      obtain ⟨p1, p2, p3⟩ := blk_all (bq.ext x20) (vs := [.int .i64 r.head.rel, .slice h.a h.n h.c, .slice none 0 0]) (by simp [zc52]) (by intro v hv; simp at hv; rcases hv with rfl | rfl | rfl <;> rfl)
      refine ⟨p1, Let.intro fun w21 e21 => ?_⟩
      rw [← e21] at p2 p3
      exact ⟨_, h, rfl, by omega, p2, (Own.ti ho).fr p3 fun q cur hq (e : q = w3.heap.size) => by subst e; exact Blk.ne_ty hq (bq.ext x20) (by decide) rfl, ((x3.trans x19).trans x20).newer p3 fun q (hq : q = w3.heap.size) => by omega⟩
  rintro p3 w4 ⟨q, h, rfl, hq2, bq, hh, x4⟩
  have x04 := x02.trans x4
  refine ⟨r.bs, (b2.ext x4).cell 2, ?_⟩
  have lq := bq.lt
  have z4 := x4.size
  -- the body
  refine ⟨fun w5 => ∃ (sb : Sl) (B : List DL), Blk w5 q [.int .i64 r.head.rel, .slice h.a h.n h.c, .slice sb.a sb.n sb.c] 52 ∧ Own 54 3 eL w4.heap.size w5 sb B ∧ (∀ b ∈ B, TI w5 b.a.sl b.a.args) ∧ B.map DL.p = r.p.body ∧ Fr (fun y => y = q) w4 w5, ?_, ?_⟩
  · rintro w5 ⟨sb, B, b5, hob, hbt, hBp, f5⟩
    refine ⟨_, _, _, b5.rd, ?_⟩
    have hf25 : Ext w2 w5 := x4.newer f5 fun y (hy : y = q) => by omega
    obtain ⟨p1, p2, p3⟩ := blk_all (bz.ext hf25) (vs := [.int .i64 r.head.rel, .slice h.a h.n h.c, .slice sb.a sb.n sb.c]) (by simp [zc52]) (by intro v hv; simp at hv; rcases hv with rfl | rfl | rfl <;> rfl)
    refine ⟨p1, Let.intro fun w6 e6 => ?_⟩
    rw [← e6] at p2 p3
    let y : DR := ⟨⟨r.head.rel, h, r.head.args⟩, sb, B⟩
    have hh5 : TI w5 h r.head.args := hh.fr f5 fun y cur hy (e : y = q) => by subst e; exact Blk.ne_ty hy bq (by decide) rfl
    have hR5 : RT w5 y := ⟨hh5, hob.sli, fun a ha => hob.blk ha, hbt⟩
    refine ⟨_, _, _, p2.rd, y, rfl, ?_, hR5.fr p3 (fun y cur hy (e : y = w1.heap.size) => by subst e; exact Blk.ne_ty hy (bz.ext hf25) (by decide) rfl) (fun y cur hy (e : y = w1.heap.size) => by subst e; exact Blk.ne_ty hy (bz.ext hf25) (by decide) rfl), (x02.trans hf25).newer p3 fun y (hy : y = w1.heap.size) => by have := x1.size; omega⟩
    show (⟨⟨r.head.rel, r.head.args⟩, B.map DL.p⟩ : Ru) = r.p
    rw [hBp]; rfl
  refine rangeI (fun j w12 => ∃ (sb : Sl) (B : List DL), Blk w12 q [.int .i64 r.head.rel, .slice h.a h.n h.c, .slice sb.a sb.n sb.c] 52 ∧ Own 54 3 eL w4.heap.size w12 sb B ∧ (∀ b ∈ B, TI w12 b.a.sl b.a.args) ∧ B.map DL.p = r.p.body.take j ∧ Fr (fun y => y = q) w4 w12) (by rw [hbn]; show r.body.length ≤ 9223372036854775807; omega) ⟨⟨none, 0, 0⟩, [], bq, Own.nil .., by simp, by simp, Fr.refl _ _⟩ ?_ ?_
  rotate_left
  · rintro w12 ⟨sb, B, h1, h2, h3, h4, h5⟩
    have e : r.p.body.take r.bs.n = r.p.body := by rw [hbn]; exact List.take_of_length_le (by simp [DR.p])
    rw [e] at h4
    exact ⟨sb, B, h1, h2, h3, h4, h5⟩
  rintro j hj w12 ⟨sb, B, bq12, hob, hbt, hBp, f12⟩ K2 hK2
  have hj : j < r.body.length := by omega
  have x012 : Ext w w12 := x04.newer f12 fun y (hy : y = q) => by have := x02.size; omega
  have hro12 := hr.ext x012
  refine loadL hro12.bd hj fun w15 b15 x15 => ?_
  have hbp : r.p.body[j]'(by simpa [DR.p] using hj) = (r.body[j]).p := by simp [DR.p]
  have htk : r.p.body.take (j + 1) = r.p.body.take j ++ [(r.body[j]).p] := by rw [List.take_succ_eq_append_getElem (by simpa [DR.p] using hj), hbp]
  have hint := (hro12.bd.ok _ (List.getElem_mem hj)).ext x15
  have hlj : (r.p.body.take j).length = j := by simp [DR.p]; omega
  have hba : (r.body[j]).a.args.length ≤ 1000 := ha _ (by simp [DR.atoms]; exact .inr ⟨_, List.getElem_mem hj, rfl⟩)
  generalize r.body[j] = b at b15 htk hint hba
  have lw12 : q < w12.heap.size := by have := f12.size; omega
  have bq15 := bq12.ext x15
  have hob15 := hob.ext x15
  have hnq : ¬ BlS sb q := fun ⟨a, ha, e⟩ => by have := (hob.base ha).1; omega
  have hnl : ¬ BlS sb w12.heap.size := fun ⟨a, ha, e⟩ => by have := (hob.base ha).2; omega
  refine ⟨fun u => Fr (BlS sb) w15 u, Fr.mono (Ext.drew _) fun _ _ h => h.elim, Let.intro fun w17 e17 => ?_⟩
  have x17 : Ext w15 w17 := by rw [e17]; exact Ext.drew _
  refine ⟨sb, fun u hu => (bq15.fr hu hnq).cell 2, b.neg, fun u hu => (b15.fr hu hnl).cell 0, b.a.rel, fun u hu => (b15.fr hu hnl).cell 1, b.a.sl, fun u hu => (b15.fr hu hnl).cell 2, ?_⟩
  refine (c64 (hint.ext x17) (by omega)).mono fun e w18 ⟨z, he, hzo, x18⟩ => ⟨_, he, (x17.trans x18).mono fun _ _ h => h.elim, rfl, by decide, ?_⟩
  let D : DL := ⟨b.neg, ⟨b.a.rel, z, b.a.args⟩⟩
  have hbd := buildOne_run E50 (v := .agg [.bool b.neg, .int .i64 b.a.rel, .slice z.a z.n z.c].toArray) (vs := eL D) rfl rfl (by omega) w18
  have x19 := Ext.alloc w18 (.cells (eL D).toArray 54)
  have hs19 : Sli 3 eL (w18.alloc (.cells (eL D).toArray 54)) ⟨some ⟨w18.heap.size, 0, none⟩, 1, 1⟩ [D] := ⟨rfl, Nat.le_refl _, fun _ => ⟨⟨w18.heap.size, 0⟩, rfl, by simpa using (Blk.alloc w18 (eL D) 54).rd⟩⟩
  have x1519 := (x17.trans x18).trans x19
  have hob19 := hob15.ext x1519
  have hBl : B.length ≤ 1000 := by have := congrArg List.length hBp; simp at this; omega
  obtain ⟨s20, w20, hr20, ho20, hf20⟩ := appendSli E50 hob19 hs19 eL_len eL_one (by simp; omega) (by simp [maxLen]; omega) (by have := f12.size; have := x15.size; have := x1519.size; omega) 50
  have hf1520 : Fr (BlS sb) w15 w20 := x1519.fr hf20
  have bq20 := bq15.fr hf1520 hnq
  obtain ⟨p1, p2, p3⟩ := (⟨bq20.storeOk (o := 0 + 2) (vs := [.slice s20.a s20.n s20.c]) rfl (by simp [Value.oneCell']) (by simp), by
      have := bq20.put (o := 0 + 2) (vs := [.slice s20.a s20.n s20.c]); exact this, Fr.put ..⟩ : StoreOk w20 q (0 + 2) [.slice s20.a s20.n s20.c] 1 ∧ Blk (put w20 q (0 + 2) [.slice s20.a s20.n s20.c]) q [.int .i64 r.head.rel, .slice h.a h.n h.c, .slice s20.a s20.n s20.c] 52 ∧ Fr (fun y => y = q) w20 (put w20 q (0 + 2) [.slice s20.a s20.n s20.c]))
  refine ⟨⟨some ⟨w18.heap.size, 0, none⟩, 1, 1⟩, _, hbd, x1519.mono fun _ _ h => h.elim, s20, w20, hr20, hf1520, p1, Let.intro fun w21 e21 => ?_⟩
  have e21 : w21 = put w20 q (0 + 2) [.slice s20.a s20.n s20.c] := e21
  rw [← e21] at p2 p3
  refine hK2 _ ⟨s20, B ++ [D], p2, ho20.fr p3 fun a ha (e : a.block = q) => by have := (ho20.base ha).1; omega, fun b' hb' => ?_, ?_, ?_⟩
  · have h19 : TI (w18.alloc (.cells (eL D).toArray 54)) b'.a.sl b'.a.args := by
      rcases List.mem_append.1 hb' with hb' | hb'
      · exact ((hbt b' hb').ext x15).ext x1519
      · simp only [List.mem_singleton] at hb'; subst hb'; exact (Own.ti hzo).ext x19
    refine (h19.fr hf20 fun y cur hy ⟨a, ha, e⟩ => ?_).fr p3 fun y cur hy (e : y = q) => ?_
    · obtain ⟨cur', hc'⟩ := hob19.blk ha
      rw [e] at hc'
      exact Blk.ne_ty hy hc' (by decide) rfl
    · subst e; exact Blk.ne_ty hy bq20 (by decide) rfl
  · rw [List.map_append, hBp, htk]; rfl
  · exact ((f12.ext x15).trans hf1520 fun y hy ⟨a, ha, e⟩ => by have := (hob15.base ha).1; omega).trans p3 fun _ _ h => h
/-! ### a loop over counts that carries two -/
theorem rangeKKI {t t1 t2 n : Nat} {k1 k2 : SK} {w0 : World} {a0 : k1.T} {b0 : k2.T} {J : k1.T → k2.T → World → Prop} {B : k1.T → k2.T → Int → World → (k1.T → k2.T → World → Prop) → Prop} (Inv : Nat → k1.T → k2.T → World → Prop) (hn : n ≤ big) (h0 : Inv 0 a0 b0 w0)
    (hs : ∀ i, i < n → ∀ a b w, Inv i a b w → ∀ K : k1.T → k2.T → World → Prop, (∀ a' b' w', Inv (i + 1) a' b' w' → K a' b' w') → B a b (i : Int) w K) (he : ∀ a b w, Inv n a b w → J a b w) :
    LoopV [(t1, k1), (t2, k2), (t, .int .i64)] (fun K => K a0 b0 (0 : Int) w0) (fun N => fun (a : k1.T) (b : k2.T) (x : Int) (w : World) => cond (decide (x < (n : Int))) (Join [(t1, k1), (t2, k2)] (fun (a' : k1.T) (b' : k2.T) (w3 : World) => N a' b' (IntKind.wrap .i64 (x + 1)) w3) (fun J2 => B a b x w J2)) (J a b w)) := by
  refine LoopV.intro (fun m (a : k1.T) (b : k2.T) (x : Int) w => ∃ i : Nat, x = i ∧ m = n - i ∧ i ≤ n ∧ Inv i a b w) n ⟨0, rfl, by omega, by omega, h0⟩ ?_
  rintro m a b x w ⟨i, rfl, rfl, hi, hv⟩
  refine cond_intro (fun h => ?_) (fun h => ?_)
  · have hi : i < n := by simpa using h
    refine Join.dir (hs i hi a b w hv _ fun a' b' w' h' => ⟨n - (i + 1), by omega, i + 1, ?_, rfl, by omega, h'⟩)
    rw [wrap64 (by omega) (by have : n ≤ 9223372036854775807 := hn; omega)]; rfl
  · have hi : i = n := by have : ¬ i < n := by simpa using h
                          omega
    subst hi; exact he a b w hv
/-! ### bits of an int -/
theorem bit0 : ∀ m < 64, ∀ k < 6, ((bitsI .and .i64 (Int.fdiv ((m : Nat) : Int) (2 ^ (min k (IntKind.bits .i64)))) (1 : Int)) == (0 : Int)) = !(m.testBit k) := by decide +kernel
theorem bit1 : ∀ m < 64, ∀ k < 6, ((bitsI .and .i64 (Int.fdiv ((m : Nat) : Int) (2 ^ (min k (IntKind.bits .i64)))) (1 : Int)) == (1 : Int)) = m.testBit k := by decide +kernel
theorem bitOr : ∀ m < 64, ∀ k < 6, bitsI .or .i64 ((m : Nat) : Int) (IntKind.wrap .i64 ((1 : Int) * 2 ^ (min k (IntKind.bits .i64)))) = ((m ||| 2 ^ k : Nat) : Int) := by decide +kernel
theorem bitB : ∀ k < 6, IntKind.wrap .i64 ((1 : Int) * 2 ^ (min k (IntKind.bits .i64))) = ((2 ^ k : Nat) : Int) := by decide +kernel
theorem mB_on {h : Nat} : ∀ {body : List Li} {m : Nat}, m < 64 → (∀ b ∈ body, b.a.rel.toNat < 6) → m.testBit h = true → (body.foldl (fun m b => ms h m b.a.rel.toNat) m).testBit h = true := fun hm hb h1 => (mB_up hm hb).mono _ h1
theorem mB_off {h : Nat} : ∀ {body : List Li} {m : Nat}, m.testBit h = false → body.foldl (fun m b => ms h m b.a.rel.toNat) m = m
  | [], _, _ => rfl
  | b :: r, m, hh => by
    have e : ms h m b.a.rel.toNat = m := by unfold ms; rw [hh]; simp
    rw [List.foldl_cons, e]; exact mB_off hh
/-- What was found new. -/
def Cg (m m' : Nat) (b : Bool) : Prop := (b = false → m' = m) ∧ (b = true → cnt m < cnt m')
theorem c37 {w : World} {s : Sl} {l : List DR} {rel : Int} (hs : NR w s l) (hl : l.length ≤ 1000000) (hz : ∀ r ∈ l, SzR r) :
    Calls Try.prog 37 [.slice s.a s.n s.c, .int .i64 rel].toArray w fun e w' => ∃ (s2 : Sl) (x : Int) (L : List DR), e = .returned (.tuple [.slice s2.a s2.n s2.c, .int .i64 x].toArray) ∧ NR w' s2 L ∧
      ((¬ (ValidP (l.map DR.p) [] ∧ 0 ≤ rel ∧ rel ≤ 5) ∧ x = 2 ∧ L = []) ∨ ((ValidP (l.map DR.p) [] ∧ 0 ≤ rel ∧ rel ≤ 5) ∧ x = 0 ∧ ∃ m, IsNd (l.map DR.p) rel m ∧ L.map DR.p = ndR (l.map DR.p) m)) ∧ Ext w w' := by
  refine (call37 s rel (R := fun v w' => ∃ (s2 : Sl) (x : Int) (L : List DR), v = (.tuple [.slice s2.a s2.n s2.c, .int .i64 x].toArray) ∧ NR w' s2 L ∧
      ((¬ (ValidP (l.map DR.p) [] ∧ 0 ≤ rel ∧ rel ≤ 5) ∧ x = 2 ∧ L = []) ∨ ((ValidP (l.map DR.p) [] ∧ 0 ≤ rel ∧ rel ≤ 5) ∧ x = 0 ∧ ∃ m, IsNd (l.map DR.p) rel m ∧ L.map DR.p = ndR (l.map DR.p) m)) ∧ Ext w w') ?_).mono fun e w' ⟨v, he, s2, x, L, hv, hx⟩ => ⟨s2, x, L, by rw [he, hv], hx⟩
  refine ⟨fun (b25 : Bool) w1 => (b25 = false ↔ (ValidP (l.map DR.p) [] ∧ 0 ≤ rel ∧ rel ≤ 5)) ∧ Ext w w1, ?_, ?_⟩
  rotate_left
  · refine (c55 hs (NF.nil w) hl (by simp) hz (by simp)).mono fun e w1 ⟨b, he, hb, x1⟩ => ⟨b, he, cond_intro (fun g => ?_) (fun g => ?_)⟩
    · have g : b = false := by simpa using g
      exact ⟨⟨(fun h => by cases h), fun h => by have := hb.2 h.1; rw [g] at this; cases this⟩, x1⟩
    have g : b = true := by simpa using g
    have hv : ValidP (l.map DR.p) [] := hb.1 g
    refine cond_intro (fun g2 => ?_) (fun g2 => ?_)
    · have g2 : rel < 0 := by simpa using g2
      exact ⟨⟨(fun h => by cases h), fun h => by omega⟩, x1⟩
    · have g2 : ¬ rel < 0 := by simpa using g2
      refine ⟨?_, x1⟩
      rw [decide_eq_false_iff_not]
      exact ⟨fun h => ⟨hv, by omega, by omega⟩, fun h => by omega⟩
  rintro b25 w1 ⟨hb25, x1⟩
  refine cond_intro (fun g => ?_) (fun g => ?_)
  · subst g
    exact ⟨⟨none, 0, 0⟩, 2, [], rfl, NR.nil _, .inl ⟨(fun h => by have := hb25.2 h; cases this), rfl, rfl⟩, x1⟩
  have hall := hb25.1 g
  obtain ⟨hv, h0, h5⟩ := hall
  have hR : RelOk (l.map DR.p) := RuleP.rel hv.ru
  have hl10 : l.length ≤ 10 := by have := hv.nl; simpa using this
  have hru : ∀ r ∈ l, RuleP r.p := fun r hr => hv.ru _ (List.mem_map.2 ⟨r, hr, rfl⟩)
  have hsn := hs.len
  refine ⟨h0, ?_⟩
  generalize hLL : l.map DR.p = L at *
  have hLlen : L.length = l.length := by rw [← hLL]; simp
  refine ⟨fun (x6 : Int) w2 => ∃ m : Nat, x6 = m ∧ IsNd L rel m ∧ Ext w w2, ?_, ?_⟩
  · -- the rules that are handed out
    rintro x6 w2 ⟨m, rfl, hm, x2⟩
    refine Join.dir (rangeSI (fun j (s12 : Sl) w4 => ∃ part : List DR, Own 52 3 eR w2.heap.size w4 s12 part ∧ (∀ r ∈ part, RT w4 r) ∧ part.map DR.p = ndR (L.take j) m ∧ w2.heap.size ≤ w4.heap.size ∧ Ext w w4) (by rw [hsn]; show l.length ≤ 9223372036854775807; omega) ⟨[], Own.nil .., by simp, by simp [ndR], Nat.le_refl _, x2⟩ ?_ ?_)
    rotate_left
    · rintro s12 w4 ⟨part, ho, hrt, hp, z, x4⟩
      rw [hsn, ← hLlen, List.take_length] at hp
      exact ⟨s12, 0, part, rfl, ⟨ho.sli, fun r hr => (hrt r hr).ok⟩, .inr ⟨⟨hv, h0, h5⟩, rfl, m, hm, hp⟩, x4⟩
    rintro j hj s12 w4 ⟨part, ho, hrt, hp, z, x4⟩ K hK
    have hj : j < l.length := by omega
    have hjL : j < L.length := by omega
    refine loadR (hs.ext x4) hj fun w7 b7 x7 => ?_
    have hro := (hs.ok _ (List.getElem_mem hj)).ext (x4.trans x7)
    have hrr := hru _ (List.getElem_mem hj)
    have hLj : L[j] = (l[j]).p := by subst hLL; simp
    have hst : ndR (L.take (j + 1)) m = ndR (L.take j) m ++ (if m.testBit (l[j]).head.rel.toNat = true then [(l[j]).p] else []) := by
      unfold ndR
      rw [List.take_succ_eq_append_getElem hjL, List.filter_append, hLj]
      congr 1
      simp [List.filter_cons, DR.p, DF.p]
    have hpl := (List.length_filter_le (fun r : Ru => m.testBit r.head.rel.toNat) (L.take j))
    have hpl2 : part.length ≤ 10 := by
      have := congrArg List.length hp
      simp only [List.length_map] at this
      rw [this]; unfold ndR
      simp at hpl; omega
    generalize l[j] = r at b7 hro hst hrr
    have hrel := (hrr.2.2 r.head.p (by simp [Ru.atoms, DR.p]))
    have hrel0 : 0 ≤ r.head.rel := hrel.1
    have hrel5 : r.head.rel ≤ 5 := hrel.2.1
    refine ⟨_, b7.cell 0, hrel0, Join.dir ?_⟩
    rw [bit1 m hm.lt r.head.rel.toNat (by omega)]
    refine cond_intro (fun g2 => ?_) (fun g2 => ?_)
    · rw [if_pos g2] at hst
      refine ⟨_, _, _, b7.rd, ?_⟩
      have hsz : r.body.length ≤ 3 := by have := hrr.1; simpa [DR.p] using this
      refine (c85 hro (by omega) (fun x hx => ?_)).mono fun e w9 ⟨y, he, hy, hyt, x9⟩ => ⟨_, _, _, he, ?_⟩
      · have : FitsF x.p := hrr.2.2 x.p (by
          simp only [DR.atoms, List.mem_cons, List.mem_map] at hx
          simp only [Ru.atoms, DR.p, List.mem_cons, List.mem_map]
          rcases hx with rfl | ⟨b, hb, rfl⟩
          · exact .inl rfl
          · exact .inr ⟨b.p, ⟨b, hb, rfl⟩, rfl⟩)
        have := this.2.2.2.1
        have : x.args.length ≤ 2 := this
        omega
      have x79 := x7.trans x9
      have hbd := buildOne_run E27 (v := .agg [.int .i64 y.head.rel, .slice y.head.sl.a y.head.sl.n y.head.sl.c, .slice y.bs.a y.bs.n y.bs.c].toArray) (vs := eR y) rfl rfl (by omega) w9
      have x10 := Ext.alloc w9 (.cells (eR y).toArray 52)
      have hs10 : Sli 3 eR (w9.alloc (.cells (eR y).toArray 52)) ⟨some ⟨w9.heap.size, 0, none⟩, 1, 1⟩ [y] := ⟨rfl, Nat.le_refl _, fun _ => ⟨⟨w9.heap.size, 0⟩, rfl, by simpa using (Blk.alloc w9 (eR y) 52).rd⟩⟩
      have ho9 := ho.ext x79
      obtain ⟨s11, w11, hr11, ho11, hf11⟩ := appendSli E27 (ho9.ext x10) hs10 eR_len eR_one (by simp; omega) (by simp [maxLen]; omega) (by have := x79.size; have := x10.size; omega) 27
      refine ⟨⟨some ⟨w9.heap.size, 0, none⟩, 1, 1⟩, _, hbd, s11, w11, hr11, hK _ _ ⟨part ++ [y], ho11, fun r' hr' => ?_, by rw [List.map_append, hp, hst]; simp [hy], by have := hf11.size; have := x79.size; have := x10.size; omega, ?_⟩⟩
      · have hno : ∀ (T : TypeId), T ≠ 52 → ∀ q cur, Blk (w9.alloc (.cells (eR y).toArray 52)) q cur T → ¬ BlS s12 q := fun T hT q cur hq ⟨a, ha, e⟩ => by
          obtain ⟨cur', hc'⟩ := (ho9.ext x10).blk ha
          rw [e] at hc'
          exact Blk.ne_ty hq hc' hT rfl
        have hr10 : RT (w9.alloc (.cells (eR y).toArray 52)) r' := by
          rcases List.mem_append.1 hr' with hr' | hr'
          · exact ((hrt r' hr').ext x79).ext x10
          · simp only [List.mem_singleton] at hr'; subst hr'; exact hyt.ext x10
        exact hr10.fr hf11 (hno 3 (by decide)) (hno 54 (by decide))
      · have := x2.size
        exact ((x4.trans x79).trans x10).newer hf11 fun q ⟨a, ha, e⟩ => by have := ((ho9.ext x10).base ha).1; omega
    · rw [if_neg (by rw [g2]; simp), List.append_nil] at hst
      exact hK _ _ ⟨part, ho.ext x7, fun r' hr' => (hrt r' hr').ext x7, by rw [hp, hst], by have := x7.size; omega, x4.trans x7⟩
  -- the rounds
  have hb0 : rel.toNat < 6 := by omega
  rw [bitB rel.toNat hb0]
  have h2 : ∀ k < 6, 2 ^ k < 64 := by decide
  have hsnd0 : Snd L rel (2 ^ rel.toNat) := fun i hi => by
    rw [Nat.testBit_two_pow, decide_eq_true_eq] at hi
    rw [← hi, Int.toNat_of_nonneg h0]; exact Rch.base L rel
  refine LoopV.intro (fun n (x6 : Int) (b7 : Bool) w12 => ∃ m : Nat, x6 = m ∧ m < 64 ∧ m.testBit rel.toNat = true ∧ Snd L rel m ∧ n = 6 - cnt m + (if b7 then 1 else 0) ∧ (b7 = false → mP L m = m) ∧ Ext w w12)
    (6 - cnt (2 ^ rel.toNat) + 1) ⟨2 ^ rel.toNat, rfl, h2 _ hb0, bit_base _, hsnd0, rfl, (by intro h; cases h), x1⟩ ?_
  rintro n x6 b7 w12 ⟨m, rfl, hm, hmb, hms, rfl, hmf, x12⟩
  refine cond_intro (fun g7 => ?_) (fun g7 => ⟨m, rfl, IsNd.mk' hR hm hmb hms (hmf g7), x12⟩)
  subst g7
  refine Join.dir (Join.dir (rangeKKI (k1 := .int .i64) (k2 := .bool) (fun i (x6 : Int) (b : Bool) w15 => ∃ m' : Nat, x6 = m' ∧ m' = mP (L.take i) m ∧ Cg m m' b ∧ Ext w w15) (by rw [hsn]; show l.length ≤ 9223372036854775807; omega) ⟨m, rfl, by simp [mP], ⟨fun _ => rfl, fun h => by cases h⟩, x12⟩ ?_ ?_))
  rotate_left
  · rintro x6 b w15 ⟨m', rfl, hm', hcg, x15⟩
    rw [hsn, ← hLlen, List.take_length] at hm'
    have hu := mP_up hm hR
    have hsd := mL_snd (fun _ h => h) hR hms
    rw [← hm'] at hu hsd
    refine ⟨6 - cnt m' + (if b then 1 else 0), ?_, m', rfl, hu.lt, hu.mono _ hmb, hsd, rfl, fun hb => ?_, x15⟩
    · have c1 := cnt_le m'
      have c2 := cnt_le m
      cases b with
      | true => have := hcg.2 rfl; simp; omega
      | false => have := hcg.1 rfl; subst this; simp
    · have := hcg.1 hb
      rw [this] at hm' ⊢
      exact hm'.symm
  rintro i hi x6 b w15 ⟨m', rfl, hm', hcg, x15⟩ K hK
  have hi : i < l.length := by omega
  have hiL : i < L.length := by omega
  refine loadR (hs.ext x15) hi fun w18 b18 x18 => ?_
  have hro := (hs.ok _ (List.getElem_mem hi)).ext (x15.trans x18)
  have hrr := hru _ (List.getElem_mem hi)
  have hLi : L[i] = (l[i]).p := by subst hLL; simp
  have hst : mP (L.take (i + 1)) m = mR (mP (L.take i) m) (l[i]).p := by
    unfold mP
    rw [List.take_succ_eq_append_getElem hiL, List.foldl_append, hLi]; rfl
  have hup : MUp m (mP (L.take i) m) := mP_up hm fun r hr => hR r (List.mem_of_mem_take hr)
  rw [← hm'] at hst hup
  generalize l[i] = r at b18 hro hst hrr
  have hat : ∀ a ∈ r.p.atoms, 0 ≤ a.rel ∧ a.rel ≤ 5 := fun a ha => ⟨(hrr.2.2 a ha).1, (hrr.2.2 a ha).2.1⟩
  have hh0 : 0 ≤ r.head.rel ∧ r.head.rel ≤ 5 := hat r.head.p (by simp [Ru.atoms, DR.p])
  have hbodyR : ∀ b ∈ r.p.body, b.a.rel.toNat < 6 := fun b hb => by have := hat b.a (by simp [Ru.atoms]; exact .inr ⟨b, hb, rfl⟩); omega
  refine ⟨_, b18.cell 0, hh0.1, ?_⟩
  rw [bit0 m' hup.lt r.head.rel.toNat (by omega)]
  refine cond_intro (fun g2 => ?_) (fun g2 => ?_)
  · have g2 : m'.testBit r.p.head.rel.toNat = false := by simpa [DR.p, DF.p] using g2
    exact hK _ _ _ ⟨m', rfl, by rw [hst]; exact (mB_off g2).symm, hcg, x15.trans x18⟩
  have g2 : m'.testBit r.p.head.rel.toNat = true := by simpa [DR.p, DF.p] using g2
  have hbn := hro.bd.len
  have hlen3 : r.body.length ≤ 3 := by have := hrr.1; simpa [DR.p] using this
  refine ⟨r.bs, b18.cell 2, Join.dir (rangeKKI (k1 := .int .i64) (k2 := .bool) (fun j (x6 : Int) (b : Bool) w20 => ∃ m2 : Nat, x6 = m2 ∧ m2 = (r.p.body.take j).foldl (fun m b => ms r.p.head.rel.toNat m b.a.rel.toNat) m' ∧ Cg m m2 b ∧ Ext w18 w20) (by rw [hbn]; show r.body.length ≤ 9223372036854775807; omega) ⟨m', rfl, by simp, hcg, Fr.refl _ _⟩ ?_ ?_)⟩
  rotate_left
  · rintro x6 b w20 ⟨m2, rfl, hm2, hcg2, x20⟩
    have e : r.p.body.take r.bs.n = r.p.body := by rw [hbn]; exact List.take_of_length_le (by simp [DR.p])
    rw [e] at hm2
    exact hK _ _ _ ⟨m2, rfl, by rw [hst, hm2]; rfl, hcg2, (x15.trans x18).trans x20⟩
  rintro j hj x6 b w20 ⟨m2, rfl, hm2, hcg2, x20⟩ K2 hK2
  have hj : j < r.body.length := by omega
  have hjp : j < r.p.body.length := by simpa [DR.p] using hj
  refine loadL (hro.ext x20).bd hj fun w23 b23 x23 => ?_
  have hbp : r.p.body[j] = (r.body[j]).p := by simp [DR.p]
  have hst2 : (r.p.body.take (j + 1)).foldl (fun m b => ms r.p.head.rel.toNat m b.a.rel.toNat) m' = ms r.p.head.rel.toNat m2 (r.body[j]).a.rel.toNat := by
    rw [List.take_succ_eq_append_getElem hjp, List.foldl_append, hbp, ← hm2]; rfl
  have hup2 := mB_up (h := r.p.head.rel.toNat) (body := r.p.body.take j) hup.lt fun b hb => hbodyR b (List.mem_of_mem_take hb)
  have hon := hup2.mono _ g2
  rw [← hm2] at hup2 hon
  have hrel := hat (r.body[j]).p.a (by simp [Ru.atoms, DR.p]; exact .inr ⟨_, List.getElem_mem hj, rfl⟩)
  generalize r.body[j] = c at b23 hst2 hrel
  have hr0 : 0 ≤ c.a.rel := hrel.1
  have hr5 : c.a.rel ≤ 5 := hrel.2
  refine ⟨_, b23.cell 1, hr0, Join.dir ?_⟩
  rw [bit0 m2 hup2.lt c.a.rel.toNat (by omega)]
  have hms' : ms r.p.head.rel.toNat m2 c.a.rel.toNat = m2 ||| 2 ^ c.a.rel.toNat := by unfold ms; rw [if_pos hon]
  refine cond_intro (fun g3 => ?_) (fun g3 => ?_)
  · have g3 : m2.testBit c.a.rel.toNat = false := by simpa using g3
    refine ⟨_, b23.cell 1, hr0, ?_⟩
    rw [bitOr m2 hup2.lt c.a.rel.toNat (by omega)]
    refine hK2 _ _ _ ⟨_, rfl, by rw [hst2, hms'], ⟨(fun h => by cases h), fun _ => ?_⟩, x20.trans x23⟩
    have c1 := cnt_or m2 hup2.lt c.a.rel.toNat (by omega) g3
    have : cnt m ≤ cnt m2 := by
      cases b with
      | true => have := hcg2.2 rfl; omega
      | false => have := hcg2.1 rfl; rw [this]; exact Nat.le_refl _
    omega
  · have g3 : m2.testBit c.a.rel.toNat = true := by simpa using g3
    exact hK2 _ _ _ ⟨m2, rfl, by rw [hst2, hms', or_same m2 hup2.lt c.a.rel.toNat (by omega) g3], hcg2, x20.trans x23⟩
end Go.Proofs.Ytoljknamnkkgcaa
/-
  Printed by a program of this session (wip/tools/vcprint.py): of each Go function the shallow form, and that the calculus comes to it, by the kernel.
-/
namespace Go.Proofs.Ytoljknamnkkgcaa
open Go Go.VC
set_option maxRecDepth 100000

/-- F11: cubeb/cubeblaw03.RulesNeeded -/
def An11 : An := (.sq .lf (.sq .lf (.sq (.dr [0, 2, 1, 3, 4, 5, 6, 7, 8] [3] true none) (.sq .lf (.sq .lf (.sq (.sq (.rj [] [(45, .bool)]) (.cd (.sq (.rj [] [(6, .bool)]) .lf) .lf)) (.sq (.sq (.rj [] [(67, .bool)]) (.cd (.sq .lf .lf) .lf)) (.sq .lf (.sq (.rj [] [(6, .bool)]) .lf)))))))))
def S11 (s0 : Sl) (s1 : Sl) (x2 : Int) (R : Value → World → Prop) (w : World) : Prop :=
  Let (w.alloc (.cells [(.int .i64 x2)].toArray 3)) fun w1 => 
  ∃ x14 : Int, World.cell? w1 ⟨w.heap.size, 0, none⟩ = some (.int .i64 x14) ∧ (6 : Int) ≠ 0 ∧ StoreOk w1 w.heap.size 0 [(.int .i64 (IntKind.wrap .i64 (Int.tmod (IntKind.wrap .u64 x14) (6 : Int))))] 1 ∧ Let (put w1 w.heap.size 0 [(.int .i64 (IntKind.wrap .i64 (Int.tmod (IntKind.wrap .u64 x14) (6 : Int))))]) fun w2 => 
  ∃ S1 : World → Prop, S1 w2.drew ∧ Let w2.drew fun w3 =>
  ∃ x21 : Int, (∀ u, S1 u → World.cell? u ⟨w.heap.size, 0, none⟩ = some (.int .i64 x21)) ∧ Calls Try.prog 17 [(.slice s0.a s0.n s0.c)].toArray w3 (fun e w4 => ∃ s20 : Sl, e = .returned (.slice s20.a s20.n s20.c) ∧
  S1 w4 ∧ Calls Try.prog 37 [(.slice s20.a s20.n s20.c), (.int .i64 x21)].toArray w4 (fun e_2 w5 => ∃ s22_0 : Sl, ∃ x22_1 : Int, e_2 = .returned (.tuple [(.slice s22_0.a s22_0.n s22_0.c), (.int .i64 x22_1)].toArray) ∧
  Calls Try.prog 17 [(.slice s0.a s0.n s0.c)].toArray w5 (fun e_3 w6 => ∃ s27 : Sl, e_3 = .returned (.slice s27.a s27.n s27.c) ∧
  Calls Try.prog 18 [(.slice s1.a s1.n s1.c)].toArray w6 (fun e_4 w7 => ∃ s29 : Sl, e_4 = .returned (.slice s29.a s29.n s29.c) ∧
  Calls Try.prog 16 [(.slice s27.a s27.n s27.c), (.slice s29.a s29.n s29.c)].toArray w7 (fun e_5 w8 => ∃ s30_0 : Sl, ∃ x30_1 : Int, e_5 = .returned (.tuple [(.slice s30_0.a s30_0.n s30_0.c), (.int .i64 x30_1)].toArray) ∧
  Calls Try.prog 18 [(.slice s1.a s1.n s1.c)].toArray w8 (fun e_6 w9 => ∃ s36 : Sl, e_6 = .returned (.slice s36.a s36.n s36.c) ∧
  Calls Try.prog 16 [(.slice s22_0.a s22_0.n s22_0.c), (.slice s36.a s36.n s36.c)].toArray w9 (fun e_7 w10 => ∃ s37_0 : Sl, ∃ x37_1 : Int, e_7 = .returned (.tuple [(.slice s37_0.a s37_0.n s37_0.c), (.int .i64 x37_1)].toArray) ∧
  Join [(45, .bool)] (fun (b45 : Bool) (w11 : World) => cond b45 (
  Join [(6, .bool)] (fun (b6 : Bool) (w12 : World) => R (.bool b6) w12) (fun J =>
  cond (x22_1 == (2 : Int)) (Calls Try.prog 20 [].toArray w11 (fun e_8 w13 => ∃ b57 : Bool, e_8 = .returned (.bool b57) ∧
  J b57 w13)) (cond (x30_1 == (2 : Int)) (Calls Try.prog 20 [].toArray w11 (fun e_9 w14 => ∃ b57_2 : Bool, e_9 = .returned (.bool b57_2) ∧
  J b57_2 w14)) (cond (x30_1 == (8 : Int)) (Calls Try.prog 20 [].toArray w11 (fun e_10 w15 => ∃ b57_3 : Bool, e_10 = .returned (.bool b57_3) ∧
  J b57_3 w15)) (J false w11))))) (
  Join [(67, .bool)] (fun (b67 : Bool) (w16 : World) => cond b67 (
  R (.bool false) w16) (
  Join [(6, .bool)] (fun (b6_2 : Bool) (w17 : World) => R (.bool b6_2) w17) (fun J_2 =>
  Calls Try.prog 43 [(.slice s30_0.a s30_0.n s30_0.c), (.func (.func 42) #[] [(.pointer (some ⟨w.heap.size, 0, none⟩))].toArray)].toArray w16 (fun e_11 w18 => ∃ s71 : Sl, e_11 = .returned (.slice s71.a s71.n s71.c) ∧
  Calls Try.prog 43 [(.slice s37_0.a s37_0.n s37_0.c), (.func (.func 42) #[] [(.pointer (some ⟨w.heap.size, 0, none⟩))].toArray)].toArray w18 (fun e_12 w19 => ∃ s74 : Sl, e_12 = .returned (.slice s74.a s74.n s74.c) ∧
  Calls Try.prog 21 [(.slice s71.a s71.n s71.c), (.slice s74.a s74.n s74.c)].toArray w19 (fun e_13 w20 => ∃ b75 : Bool, e_13 = .returned (.bool b75) ∧
  cond b75 (Calls Try.prog 20 [].toArray w20 (fun e_14 w21 => ∃ b77 : Bool, e_14 = .returned (.bool b77) ∧
  J_2 b77 w21)) (J_2 false w20))))))) (fun J_3 =>
  cond (x37_1 != (0 : Int)) (J_3 true w11) (J_3 (decide (((s22_0.n : Nat) : Int) > ((s0.n : Nat) : Int))) w11)))) (fun J_4 =>
  cond (x22_1 != (0 : Int)) (J_4 true w10) (J_4 (x30_1 != (0 : Int)) w10)))))))))
theorem eq11 (s0 : Sl) (s1 : Sl) (x2 : Int) (R : Value → World → Prop) (w : World) : funV Try.prog Try.f11 An11 [(.slice s0.a s0.n s0.c), (.slice s1.a s1.n s1.c), (.int .i64 x2)] R w = S11 s0 s1 x2 R w := by kernel_rfl
theorem call11 (s0 : Sl) (s1 : Sl) (x2 : Int) {R : Value → World → Prop} {w : World} (h : S11 s0 s1 x2 R w) : Calls Try.prog 11 [(.slice s0.a s0.n s0.c), (.slice s1.a s1.n s1.c), (.int .i64 x2)].toArray w fun e w' => ∃ v, e = .returned v ∧ R v w' :=
  funV_calls mixed Try.func11 (an := An11) (by rw [eq11]; exact h)

end Go.Proofs.Ytoljknamnkkgcaa
