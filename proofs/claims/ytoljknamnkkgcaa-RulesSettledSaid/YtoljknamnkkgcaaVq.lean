/-
  More of append: an empty row of its own, nothing appended, another slice appended. For every program.
-/
import Derived.Test.YtoljknamnkkgcaaVp
namespace Go.VC
open Go
variable {P : Program}

theorem Own.empty {α : Type} {T size : Nat} {enc : α → List Value} (w : World) : Own T size enc w.heap.size (w.alloc (.cells #[] T)) ⟨some ⟨w.heap.size, 0, none⟩, 0, 0⟩ ([] : List α) :=
  ⟨rfl, by simp, .inr ⟨w.heap.size, 0, #[], rfl, Nat.le_refl _, by show (w.heap.push _)[w.heap.size]? = _; simp, Nat.le_refl _, Nat.zero_le _, by simp, by simp⟩⟩
theorem appendNil {t e size bytes : Nat} (E : Elem P t e size bytes) {s s2 : Sl} (hc : s.n ≤ s.c) (h2 : s2.n = 0) (ty : Nat) (w : World) :
    (Builtin.append_ #[t, t] ty #[.slice s.a s.n s.c, .slice s2.a s2.n s2.c]).run P w = .ok (.slice s.a s.n s.c) w := by
  obtain ⟨i, z, hi, _, hsz, _⟩ := E.info
  have hf : (Builtin.firstCells size 0 (.slice s2.a 0 s2.c)).run P w = .ok #[] w := by
    cases s2.a with
    | none => rfl
    | some a => simp [Builtin.firstCells, loadCells, loadCellsFrom]
  obtain ⟨a, n, c⟩ := s
  obtain ⟨a2, n2, c2⟩ := s2
  simp only at hc h2 hf ⊢
  subst h2
  subst hsz
  cases a with
  | none => simp [Builtin.append_, run_underlying E.under, sizeOf, typeInfo, hi, Builtin.lenOf, hc, hf]
  | some a => simp [Builtin.append_, run_underlying E.under, sizeOf, typeInfo, hi, Builtin.lenOf, hc, hf, storeCells]
/-- 'append(s, xs...)', xs any slice that reads as a list. -/
theorem appendSli {α : Type} {t e size bytes : Nat} (E : Elem P t e size bytes) {enc : α → List Value} {B : Nat} {w : World} {s : Sl} {l : List α} (h : Own e size enc B w s l) {s2 : Sl} {l2 : List α}
    (h2 : Sli size enc w s2 l2) (hk : ∀ x, (enc x).length = size) (h1 : ∀ x, ∀ v ∈ enc x, v.oneCell' = true) (hlen : (l.length + l2.length) * bytes ≤ 140737488355328) (hlen' : l.length + l2.length ≤ maxLen) (hB : B ≤ w.heap.size) (ty : Nat) :
    ∃ (s' : Sl) (w' : World), (Builtin.append_ #[t, t] ty #[.slice s.a s.n s.c, .slice s2.a s2.n s2.c]).run P w = .ok (.slice s'.a s'.n s'.c) w' ∧ Own e size enc B w' s' (l ++ l2) ∧ Fr (fun b => ∃ a, s.a = some a ∧ a.block = b) w w' := by
  by_cases hl : l2 = []
  · subst hl
    exact ⟨s, w, appendNil E h.sli.cap h2.len ty w, by simpa using h, Fr.refl _ w⟩
  · obtain ⟨p, hp, hr⟩ := h2.mem hl
    exact appendOwn E h h2.len hp hr hk h1 hlen hlen' hB ty
end Go.VC
