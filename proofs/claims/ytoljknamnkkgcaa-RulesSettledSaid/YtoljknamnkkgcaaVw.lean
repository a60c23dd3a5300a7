/-
  Sorting in place: an array that an owned slice holds, its swaps, and comparisons by a closure. For every program.
-/
import Derived.Test.YtoljknamnkkgcaaVt
import Derived.Sort.Lot0
set_option linter.unusedSectionVars false
namespace Go.VC
open Go
variable {P : Program} {α : Type} [Inhabited α] {T k : Nat} {enc : α → List Value} {Ok : α → Prop} {B : Nat} {w0 w : World} {s : Sl} {d : Array α}

/-- The blocks of a slice. -/
abbrev BlS (s : Sl) (b : Nat) : Prop := ∃ a, s.a = some a ∧ a.block = b
/-- An owned slice that reads as an array; all else is as in the first world. -/
structure Sd {α : Type} (T k : Nat) (enc : α → List Value) (Ok : α → Prop) (B : Nat) (w0 w : World) (s : Sl) (d : Array α) : Prop where
  own : Own T k enc B w s d.toList
  fr : Fr (BlS s) w0 w
  ok : ∀ x ∈ d.toList, Ok x
  sz : d.size ≤ 1000000
/-- A closure that compares. -/
structure Cf {α : Type} (P : Program) (enc : α → List Value) (Ok : α → Prop) (w0 : World) (s : Sl) (f : Nat) (c : List Value) (lt : α → α → Bool) : Prop where
  ca : callable P f = true
  run : ∀ (w : World) (x y : α), Fr (BlS s) w0 w → Ok x → Ok y → Calls P f (([.agg (enc x).toArray, .agg (enc y).toArray] : List Value) ++ c).toArray w fun e w' => ∃ v : Int, e = .returned (.int .i64 v) ∧ decide (v < 0) = lt x y ∧ Ext w w'
theorem Sd.len (h : Sd T k enc Ok B w0 w s d) : s.n = d.size := by have := h.own.1; simpa using this
theorem Sd.ext {w' : World} (h : Sd T k enc Ok B w0 w s d) (x : Ext w w') : Sd T k enc Ok B w0 w' s d := ⟨h.own.ext x, h.fr.ext x, h.ok, h.sz⟩
/-- What is newer than the first world may change. -/
theorem Sd.newer {M : Nat → Prop} {w' : World} (h : Sd T k enc Ok B w0 w s d) (f : Fr M w w') (h1 : ∀ b, M b → w0.heap.size ≤ b) (h2 : ∀ a, s.a = some a → ¬ M a.block) : Sd T k enc Ok B w0 w' s d :=
  ⟨h.own.fr f h2, h.fr.trans f fun b hb hM => absurd (h1 b hM) (by omega), h.ok, h.sz⟩
theorem Sd.get {i : Nat} (hi : i < d.size) : d[i]! = d.toList[i]'(by simpa using hi) := by
  rw [getElem!_pos d i hi]; simp
theorem Sd.okAt (h : Sd T k enc Ok B w0 w s d) {i : Nat} (hi : i < d.size) : Ok d[i]! := by
  rw [Sd.get hi]; exact h.ok _ (List.getElem_mem ..)
theorem Sd.at (hk : ∀ x, (enc x).length = k) (h : Sd T k enc Ok B w0 w s d) {i : Nat} {x : Int} (hx : x = (i : Int)) (hi : i < d.size) :
    ∃ p : Pt, s.a = some ⟨p.b, p.o, none⟩ ∧ 0 ≤ x ∧ x < ((s.n : Nat) : Int) ∧ rd w p.b (p.o + Int.toNat x * k) (enc d[i]!) := by
  subst hx
  obtain ⟨p, hp, h1, h2, hr⟩ := Sli.at hk h.own.sli (i := i) (by simpa using hi)
  exact ⟨p, hp, h1, h2, by rw [Sd.get hi]; simpa using hr⟩
theorem Sd.swap (hk : ∀ x, (enc x).length = k) (h1 : ∀ x, ∀ v ∈ enc x, v.oneCell' = true) (h : Sd T k enc Ok B w0 w s d) {i j : Nat} {x y : Int} (hx : x = (i : Int)) (hy : y = (j : Int)) (hi : i < d.size) (hj : j < d.size) :
    ∃ p : Pt, s.a = some ⟨p.b, p.o, none⟩ ∧ 0 ≤ x ∧ x < ((s.n : Nat) : Int) ∧ StoreOk w p.b (p.o + Int.toNat x * k) (enc d[j]!) k ∧
      ∃ q : Pt, s.a = some ⟨q.b, q.o, none⟩ ∧ 0 ≤ y ∧ y < ((s.n : Nat) : Int) ∧ StoreOk (put w p.b (p.o + Int.toNat x * k) (enc d[j]!)) q.b (q.o + Int.toNat y * k) (enc d[i]!) k ∧
        Sd T k enc Ok B w0 (put (put w p.b (p.o + Int.toNat x * k) (enc d[j]!)) q.b (q.o + Int.toNat y * k) (enc d[i]!)) s (Sort.swp d i j) := by
  subst hx hy
  obtain ⟨p, hp, a1, a2, st1, o1, f1⟩ := h.own.storeN hk h1 (i := i) (by simpa using hi) d[j]!
  obtain ⟨q, hq, b1, b2, st2, o2, f2⟩ := o1.storeN hk h1 (i := j) (by simpa using hj) d[i]!
  refine ⟨p, hp, a1, a2, st1, q, hq, b1, b2, st2, ?_, ?_, ?_, ?_⟩
  · have e : (Sort.swp d i j).toList = (d.toList.set i d[j]!).set j d[i]! := by simp [Sort.swp]
    rw [e]; exact o2
  · exact (h.fr.trans f1 fun _ _ h => h).trans f2 fun _ _ h => h
  · intro x hx
    have e : (Sort.swp d i j).toList = (d.toList.set i d[j]!).set j d[i]! := by simp [Sort.swp]
    rw [e] at hx
    rcases List.mem_or_eq_of_mem_set hx with hx | rfl
    · rcases List.mem_or_eq_of_mem_set hx with hx | rfl
      · exact h.ok x hx
      · exact h.okAt hj
    · exact h.okAt hi
  · simpa [Sort.swp] using h.sz
theorem Sd.permIn {d' : Array α} {a b : Nat} (h : Sort.PermIn a b d d') : d'.size = d.size := h.1
end Go.VC
