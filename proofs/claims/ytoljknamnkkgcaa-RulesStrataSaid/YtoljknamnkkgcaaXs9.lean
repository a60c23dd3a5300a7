/-
  Texts Dr of this proof, joined.
-/
import Derived.Test.YtoljknamnkkgcaaXs8
import Derived.Test.YtoljknamnkkgcaaRows
import Derived.ProofKit
import Derived.SizedLaws
import Derived.Deep.Slices
/-
  The frame of the rows: rules and facts as arguments.
-/
namespace Go.Proofs.Ytoljknamnkkgcaa
open Go Go.VC Go.ChangeShapes Go.WideShapes Go.RowKit
set_option maxRecDepth 100000

theorem own0 : ownKnob Try.prog.godebug = none := by kernel_rfl
theorem laid0 : laidOutB Try.prog = true := by kernel_rfl
theorem cells3 : Try.prog.cellsOf 3 = 1 := by kernel_rfl
theorem cells34 : Try.prog.cellsOf 34 = 1 := by kernel_rfl
theorem cells36 : Try.prog.cellsOf 36 = 2 := by kernel_rfl
theorem cells91 : Try.prog.cellsOf 91 = 2 := by kernel_rfl
theorem cells92 : Try.prog.cellsOf 92 = 1 := by kernel_rfl
theorem cells94 : Try.prog.cellsOf 94 = 3 := by kernel_rfl
theorem cells96 : Try.prog.cellsOf 96 = 3 := by kernel_rfl
theorem cells4 : Try.prog.cellsOf 4 = 1 := by kernel_rfl

section
variable {H : Type} {enc : TypeId × Value → H} {w : World} {base : Nat} {spare : Nat → Bool} {held : Bool}
/-- Cells that are there one by one. -/
theorem rd_of {b : Nat} : ∀ {vs : List Value} {o : Nat}, (∀ i v, vs[i]? = some v → w.cell? ⟨b, o + i, none⟩ = some v) → rd w b o vs
  | [], _, _ => trivial
  | v :: r, o, h => ⟨by simpa using h 0 v rfl, rd_of fun i u hu => by
      have := h (i + 1) u (by simpa using hu)
      rw [show o + 1 + i = o + (i + 1) from by omega]; exact this⟩
theorem rd_flat {α : Type} {k : Nat} {en : α → List Value} (hk : ∀ x, (en x).length = k) {b o : Nat} {n : Nat} {f : Nat → α} : ∀ {m : Nat}, m ≤ n → (∀ i, i < n → rd w b (o + i * k) (en (f i))) → rd w b o (((List.range m).map f).flatMap en)
  | 0, _, _ => trivial
  | m + 1, hm, h => by
    rw [List.range_succ, List.map_append, List.flatMap_append, rd_append]
    refine ⟨rd_flat hk (by omega) h, ?_⟩
    rw [flatMap_len hk, List.length_map, List.length_range]
    simpa using h m (by omega)
/-- A slice that reads as data, of elements that each are known. -/
theorem open_gen {α : Type} [Inhabited α] {t e k : Nat} (ht : Try.prog.underlying t = some (.slice e)) (hc : Try.prog.cellsOf e = k) (h0k : 0 < k) {en : α → List Value} (hk : ∀ x, (en x).length = k) {Q : α → Prop}
    (hel : ∀ n cs d, DataW.trod enc Try.prog w base spare held n e cs = some d → ∃ x, cs = en x ∧ Q x) {fuel : Nat} {cs : List Value} {x : DataW H × List MemPlace} (hf : DataW.trod enc Try.prog w base spare held fuel t cs = some x) :
    ∃ (s : Sl) (l : List α), cs = [.slice s.a s.n s.c] ∧ Sli k en w s l ∧ (∀ y ∈ l, Q y) ∧ l.length ≤ maxLen := by
  rcases Deep.open_slice ht hf with ⟨hcs, _⟩ | ⟨a', len, cap, m, n, D, Pl, hcs, _, hl, hm, hmm, _, hi⟩
  · exact ⟨⟨none, 0, 0⟩, [], hcs, Sli.nil .., by simp, by simp⟩
  · have hlm : len ≤ m := by rw [hmm]; split <;> omega
    have hall : ∀ i, i < len → ∃ o : α, Q o ∧ ∀ j v, (en o)[j]? = some v → w.cell? (a'.add (i * k + j)) = some v := by
      intro i hil
      obtain ⟨cs', hc', hd⟩ := hi i (by omega)
      obtain ⟨o, rfl, hq⟩ := hel _ _ _ hd
      rw [hc] at hc'
      obtain ⟨_, _, hat⟩ := World.cells?_some hc'
      refine ⟨o, hq, fun j v hv => ?_⟩
      have hj : j < k := by
        rcases Nat.lt_or_ge j k with h | h
        · exact h
        · rw [List.getElem?_eq_none (by rw [hk]; exact h)] at hv; cases hv
      have := hat j hj
      rw [hv] at this
      rw [← this]
      congr 1
      unfold Addr.add
      by_cases h0 : i * k = 0 <;> by_cases h1 : j = 0 <;> simp [h0, h1, Nat.add_assoc]
    have hsp : 0 < len → a'.spot = none := fun h0 => by
      obtain ⟨o, _, ho⟩ := hall 0 h0
      have hne : 0 < (en o).length := by rw [hk]; exact h0k
      have h1 := World.cell?_spot (ho 0 _ (List.getElem?_eq_getElem hne))
      have h2 : a'.add (0 * k + 0) = a' := by unfold Addr.add; simp
      rw [h2] at h1; exact h1
    let f : Nat → α := fun i => if h : i < len then (hall i h).choose else default
    have hff : ∀ i (hil : i < len), f i = (hall i hil).choose := fun i hil => by simp [f, hil]
    have hfc : ∀ i, i < len → rd w a'.block (a'.off + i * k) (en (f i)) := by
      intro i hil
      have h1 := (hall i hil).choose_spec.2
      rw [hff i hil]
      refine rd_of fun j v hv => ?_
      have h3 := h1 j v hv
      obtain ⟨b, o, sp⟩ := a'
      have h4 : sp = none := hsp (by omega)
      subst h4
      rw [addr_add_plain] at h3
      rw [Nat.add_assoc]; exact h3
    refine ⟨⟨some a', len, cap⟩, (List.range len).map f, hcs, ⟨by simp, hl, fun hne => ?_⟩, fun y hy => ?_, by simp; omega⟩
    · have h0 : 0 < len := by
        rcases Nat.eq_zero_or_pos len with h | h
        · subst h; exact absurd rfl hne
        · exact h
      obtain ⟨b, o, sp⟩ := a'
      have h4 : sp = none := hsp h0
      subst h4
      exact ⟨⟨b, o⟩, rfl, rd_flat hk (Nat.le_refl _) hfc⟩
    · obtain ⟨i, hi, rfl⟩ := List.mem_map.1 hy
      have hi := List.mem_range.1 hi
      rw [hff i hi]; exact (hall i hi).choose_spec.1
theorem open_intsl {n : Nat} {cs : List Value} {d : DataW H × List MemPlace} (h : DataW.trod enc Try.prog w base spare held n 34 cs = some d) : ∃ (s : Sl) (l : List Int), cs = [.slice s.a s.n s.c] ∧ Ints w s l ∧ l.length ≤ maxLen := by
  obtain ⟨s, l, h1, h2, _, h3⟩ := open_gen (α := Int) (en := eI) (Q := fun _ => True) Try.underlying34 cells3 (by decide) eI_len (fun n cs d hd => by
    obtain ⟨m, hm, _⟩ := DataW.trod_int Try.underlying3 hd
    exact ⟨m, hm, trivial⟩) h
  exact ⟨s, l, h1, h2, h3⟩
/-- A struct of a Rel and Args. -/
theorem open_fa {T : Nat} {f0 f1 : Field} (hT : Try.prog.underlying T = some (.struct #[f0, f1])) (h0 : f0.type = 3) (o0 : f0.offset = 0) (h1 : f1.type = 34) (o1 : f1.offset = 1) (hc : Try.prog.cellsOf T = 2) {n : Nat} {cs : List Value} {d : DataW H × List MemPlace}
    (h : DataW.trod enc Try.prog w base spare held n T cs = some d) : ∃ y : DF, cs = eF y ∧ Ints w y.sl y.args ∧ y.args.length ≤ maxLen := by
  obtain ⟨y0, y1, m, _, hl, g0, g1⟩ := trod_struct2 hT h
  rw [hc] at hl
  rw [h0, o0, cells3] at g0
  rw [h1, o1, cells34] at g1
  match cs, hl with
  | [c0, c1], _ =>
    obtain ⟨a, ha, _⟩ := DataW.trod_int Try.underlying3 g0
    obtain ⟨s, l, hs, hi, hll⟩ := open_intsl g1
    simp at ha hs
    exact ⟨⟨a, s, l⟩, by rw [ha, hs]; rfl, hi, hll⟩
theorem open_li {n : Nat} {cs : List Value} {d : DataW H × List MemPlace} (h : DataW.trod enc Try.prog w base spare held n 96 cs = some d) : ∃ y : DL, cs = eL y ∧ Ints w y.a.sl y.a.args ∧ y.a.args.length ≤ maxLen := by
  obtain ⟨y0, y1, m, _, hl, g0, g1⟩ := trod_struct2 Try.underlying96 h
  rw [cells96] at hl
  have g0 : DataW.trod enc Try.prog w base spare held m 4 ((cs.drop 0).take (Try.prog.cellsOf 4)) = some y0 := g0
  have g1 : DataW.trod enc Try.prog w base spare held m 91 ((cs.drop 1).take (Try.prog.cellsOf 91)) = some y1 := g1
  rw [cells4] at g0
  rw [cells91] at g1
  match cs, hl with
  | [c0, c1, c2], _ =>
    obtain ⟨b, hb, _⟩ := DataW.trod_bool Try.underlying4 g0
    obtain ⟨y, hy, hi, hll⟩ := open_fa Try.underlying91 rfl rfl rfl rfl cells91 g1
    simp at hb hy
    simp only [eF, List.cons.injEq, and_true] at hy
    exact ⟨⟨b, y⟩, by rw [hb, hy.1, hy.2]; rfl, hi, hll⟩
structure RulB (w : World) (r : DR) : Prop where
  ok : RulOk w r
  nb : r.body.length ≤ maxLen
  na : ∀ x ∈ r.head :: r.body.map (·.a), x.args.length ≤ maxLen
theorem open_ru {n : Nat} {cs : List Value} {d : DataW H × List MemPlace} (h : DataW.trod enc Try.prog w base spare held n 94 cs = some d) : ∃ y : DR, cs = eR y ∧ RulB w y := by
  obtain ⟨y0, y1, m, _, hl, g0, g1⟩ := trod_struct2 Try.underlying94 h
  rw [cells94] at hl
  have g0 : DataW.trod enc Try.prog w base spare held m 91 ((cs.drop 0).take (Try.prog.cellsOf 91)) = some y0 := g0
  have g1 : DataW.trod enc Try.prog w base spare held m 92 ((cs.drop 2).take (Try.prog.cellsOf 92)) = some y1 := g1
  rw [cells91] at g0
  rw [cells92] at g1
  match cs, hl with
  | [c0, c1, c2], _ =>
    obtain ⟨y, hy, hi, hll⟩ := open_fa Try.underlying91 rfl rfl rfl rfl cells91 g0
    obtain ⟨s, l, hs, hsl, hq, hln⟩ := open_gen (α := DL) (en := eL) Try.underlying92 cells96 (by decide) eL_len (fun n cs d hd => open_li hd) g1
    simp at hy hs
    simp only [eF, List.cons.injEq, and_true] at hy
    refine ⟨⟨y, s, l⟩, by rw [hy.1, hy.2, hs]; rfl, ⟨hi, hsl, fun x hx => (hq x hx).1⟩, hln, fun x hx => ?_⟩
    rcases List.mem_cons.1 hx with rfl | hx
    · exact hll
    · obtain ⟨b, hb, rfl⟩ := List.mem_map.1 hx
      exact (hq b hb).2
/-- The rules that are handed over. -/
theorem open_rules {a : Option Addr} {len cap : Nat} {d : DataW H} {ps : List MemPlace} (h : DataW.Trod enc Try.prog w base spare held 22 (.slice a len cap) d ps) :
    ∃ l : List DR, NR w ⟨a, len, cap⟩ l ∧ l.length ≤ maxLen ∧ ∀ r ∈ l, RulB w r := by
  obtain ⟨fuel, hf⟩ := h
  obtain ⟨s, l, hs, hsl, hq, hln⟩ := open_gen (α := DR) (en := eR) Try.underlying22 cells94 (by decide) eR_len (fun n cs d hd => open_ru hd) hf
  simp [Value.cells] at hs
  have e : (⟨a, len, cap⟩ : Sl) = s := by cases s; simp_all
  rw [e]
  exact ⟨l, ⟨hsl, fun r hr => (hq r hr).ok⟩, hln, hq⟩
/-- The facts that are handed over. -/
theorem open_facts {a : Option Addr} {len cap : Nat} {d : DataW H} {ps : List MemPlace} (h : DataW.Trod enc Try.prog w base spare held 23 (.slice a len cap) d ps) :
    ∃ l : List DF, Sli 2 eF w ⟨a, len, cap⟩ l ∧ (∀ x ∈ l, Ints w x.sl x.args) ∧ l.length ≤ maxLen ∧ ∀ x ∈ l, x.args.length ≤ maxLen := by
  obtain ⟨fuel, hf⟩ := h
  obtain ⟨s, l, hs, hsl, hq, hln⟩ := open_gen (α := DF) (en := eF) Try.underlying23 cells36 (by decide) eF_len (fun n cs d hd => open_fa Try.underlying36 rfl rfl rfl rfl cells36 hd) hf
  simp [Value.cells] at hs
  have e : (⟨a, len, cap⟩ : Sl) = s := by cases s; simp_all
  rw [e]
  exact ⟨l, hsl, fun x hx => (hq x hx).1, hln, fun x hx => (hq x hx).2⟩
/-- A fact that is handed over. -/
theorem open_fact {cs : Array Value} {d : DataW H} {ps : List MemPlace} (h : DataW.Trod enc Try.prog w base spare held 36 (.agg cs) d ps) :
    ∃ y : DF, cs = (eF y).toArray ∧ Ints w y.sl y.args ∧ y.args.length ≤ maxLen := by
  obtain ⟨fuel, hf⟩ := h
  obtain ⟨y, hy, hi, hl⟩ := open_fa Try.underlying36 rfl rfl rfl rfl cells36 hf
  refine ⟨y, ?_, hi, hl⟩
  apply Array.ext'
  simpa [Value.cells] using hy
theorem maxLen_big : maxLen ≤ big := by decide
end
end Go.Proofs.Ytoljknamnkkgcaa
