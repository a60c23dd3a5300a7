/-
  Loops that count from 0 on; the first place of an element. For every program.
-/
import Derived.Test.YtoljknamnkkgcaaVn
namespace Go.VC
open Go
variable {P : Program}

abbrev big : Nat := 9223372036854775807
theorem rangeI {t n : Nat} {w0 : World} {J : World → Prop} {B : Int → World → (World → Prop) → Prop} (Inv : Nat → World → Prop) (hn : n ≤ big) (h0 : Inv 0 w0)
    (hs : ∀ i, i < n → ∀ w, Inv i w → ∀ K : World → Prop, (∀ w', Inv (i + 1) w' → K w') → B (i : Int) w K) (he : ∀ w, Inv n w → J w) :
    LoopV [(t, .int .i64)] (fun K => K (0 : Int) w0) (fun N => fun (x : Int) (w : World) => cond (decide (x < (n : Int))) (Join [] (fun (w3 : World) => N (IntKind.wrap .i64 (x + 1)) w3) (fun J2 => B x w J2)) (J w)) := by
  refine LoopV.intro (fun m (x : Int) w => ∃ i : Nat, x = i ∧ m = n - i ∧ i ≤ n ∧ Inv i w) n ⟨0, rfl, by omega, by omega, h0⟩ ?_
  rintro m x w ⟨i, rfl, rfl, hi, hv⟩
  refine cond_intro (fun h => ?_) (fun h => ?_)
  · have hi : i < n := by simpa using h
    refine Join.dir (hs i hi w hv _ fun w' h' => ⟨n - (i + 1), by omega, i + 1, ?_, rfl, by omega, h'⟩)
    rw [wrap64 (by omega) (by have : n ≤ 9223372036854775807 := hn; omega)]; rfl
  · have hi : i = n := by have : ¬ i < n := by simpa using h
                          omega
    subst hi; exact he w hv
theorem rangeSI {t t' n : Nat} {w0 : World} {s0 : Sl} {J : Sl → World → Prop} {B : Sl → Int → World → (Sl → World → Prop) → Prop} (Inv : Nat → Sl → World → Prop) (hn : n ≤ big) (h0 : Inv 0 s0 w0)
    (hs : ∀ i, i < n → ∀ s w, Inv i s w → ∀ K : Sl → World → Prop, (∀ s' w', Inv (i + 1) s' w' → K s' w') → B s (i : Int) w K) (he : ∀ s w, Inv n s w → J s w) :
    LoopV [(t', .slice), (t, .int .i64)] (fun K => K s0 (0 : Int) w0) (fun N => fun (s : Sl) (x : Int) (w : World) => cond (decide (x < (n : Int))) (Join [(t', .slice)] (fun (s' : Sl) (w3 : World) => N s' (IntKind.wrap .i64 (x + 1)) w3) (fun J2 => B s x w J2)) (J s w)) := by
  refine LoopV.intro (fun m (s : Sl) (x : Int) w => ∃ i : Nat, x = i ∧ m = n - i ∧ i ≤ n ∧ Inv i s w) n ⟨0, rfl, by omega, by omega, h0⟩ ?_
  rintro m s x w ⟨i, rfl, rfl, hi, hv⟩
  refine cond_intro (fun h => ?_) (fun h => ?_)
  · have hi : i < n := by simpa using h
    refine Join.dir (hs i hi s w hv _ fun s' w' h' => ⟨n - (i + 1), by omega, i + 1, ?_, rfl, by omega, h'⟩)
    rw [wrap64 (by omega) (by have : n ≤ 9223372036854775807 := hn; omega)]; rfl
  · have hi : i = n := by have : ¬ i < n := by simpa using h
                          omega
    subst hi; exact he s w hv

/-! ### the first place of an element -/
section
variable {α : Type} [DecidableEq α]
def ix (x : α) : List α → Int
  | [] => -1
  | y :: r => if y = x then 0 else if ix x r < 0 then -1 else ix x r + 1
theorem ix_not {x : α} : ∀ {l : List α}, x ∉ l → ix x l = -1
  | [], _ => rfl
  | y :: r, h => by
    simp only [List.mem_cons, not_or] at h
    rw [ix, if_neg (fun e => h.1 e.symm), ix_not h.2]; rfl
theorem ix_at {x : α} : ∀ {l : List α} {i : Nat}, l[i]? = some x → x ∉ l.take i → ix x l = i
  | [], _, h, _ => by cases h
  | y :: r, 0, h, _ => by cases h; simp [ix]
  | y :: r, i + 1, h, hn => by
    simp only [List.take_succ_cons, List.mem_cons, not_or] at hn
    have := ix_at (l := r) (i := i) (by simpa using h) hn.2
    rw [ix, if_neg (fun e => hn.1 e.symm), this, if_neg (by omega)]; rfl
theorem ix_mem {x : α} : ∀ {l : List α}, x ∈ l → ∃ i : Nat, ix x l = i ∧ l[i]? = some x ∧ x ∉ l.take i
  | [], h => by cases h
  | y :: r, h => by
    by_cases e : y = x
    · subst e; exact ⟨0, by simp [ix], rfl, by simp⟩
    · obtain ⟨i, h1, h2, h3⟩ := ix_mem (l := r) (by rcases List.mem_cons.1 h with h | h; exact absurd h.symm e; exact h)
      refine ⟨i + 1, ?_, by simpa using h2, ?_⟩
      · rw [ix, if_neg e, h1, if_neg (by omega)]; rfl
      · simp only [List.take_succ_cons, List.mem_cons, not_or]; exact ⟨fun h => e h.symm, h3⟩
theorem ix_nonneg {x : α} {l : List α} : 0 ≤ ix x l ↔ x ∈ l := by
  constructor
  · intro h
    by_cases hm : x ∈ l
    · exact hm
    · rw [ix_not hm] at h; omega
  · intro h; obtain ⟨i, hi, _⟩ := ix_mem h; omega
end
theorem not_take {α : Type} {x : α} {l : List α} {i : Nat} (h : x ∉ l.take i) {y : α} (hy : l[i]? = some y) (hn : y ≠ x) : x ∉ l.take (i + 1) := by
  rw [List.take_add_one, hy]
  simp only [Option.toList_some, List.mem_append, List.mem_singleton, not_or]
  exact ⟨h, fun e => hn e.symm⟩
/-- An element that a loop loads. -/
theorem Sli.at {α : Type} {k : Nat} {enc : α → List Value} {w : World} {s : Sl} {l : List α} (hk : ∀ x, (enc x).length = k) (h : Sli k enc w s l) {i : Nat} (hi : i < l.length) :
    ∃ p : Pt, s.a = some ⟨p.b, p.o, none⟩ ∧ 0 ≤ (i : Int) ∧ (i : Int) < ((s.n : Nat) : Int) ∧ rd w p.b (p.o + i * k) (enc l[i]) := by
  obtain ⟨p, hp, hr⟩ := Sli.get hk h (List.getElem?_eq_getElem hi)
  exact ⟨p, hp, by omega, by have := h.len; omega, hr⟩
theorem Ints.at {w : World} {s : Sl} {l : List Int} (h : Ints w s l) {i : Nat} (hi : i < l.length) :
    ∃ p : Pt, s.a = some ⟨p.b, p.o, none⟩ ∧ 0 ≤ (i : Int) ∧ (i : Int) < ((s.n : Nat) : Int) ∧ w.cell? ⟨p.b, p.o + Int.toNat (i : Int) * 1, none⟩ = some (.int .i64 l[i]) := by
  obtain ⟨p, hp, h1, h2, hr⟩ := Sli.at eI_len h hi
  exact ⟨p, hp, h1, h2, hr.1⟩
/-- An element that a loop loads into a variable of its own. -/
theorem loadVar {α : Type} {enc : α → List Value} {k : Nat} {w : World} {s : Sl} {l : List α} (hk : ∀ x, (enc x).length = k) (h1 : ∀ x, ∀ v ∈ enc x, v.oneCell' = true) (h : Sli k enc w s l) {i : Nat} (hi : i < l.length) {T : TypeId} {z : Array Value} (hz : z.size = k) {B : Pt → World → World → Prop}
    (hB : ∀ p w4 w5, s.a = some ⟨p.b, p.o, none⟩ → Blk w5 w.heap.size (enc l[i]) T → Ext w w5 → B p w4 w5) :
    ∃ p : Pt, s.a = some ⟨p.b, p.o, none⟩ ∧ 0 ≤ (i : Int) ∧ (i : Int) < ((s.n : Nat) : Int) ∧ rd w p.b (p.o + Int.toNat (i : Int) * k) (enc l[i]) ∧ Let (w.alloc (.cells z T)) fun w4 => StoreOk w4 w.heap.size 0 (enc l[i]) k ∧ Let (put w4 w.heap.size 0 (enc l[i])) fun w5 => B p w4 w5 := by
  obtain ⟨p, hp, h2, h3, hr⟩ := Sli.at hk h hi
  obtain ⟨a, b, c⟩ := new_var w T (z := z) (vs := enc l[i]) (by rw [hz, hk]) (h1 _)
  refine ⟨p, hp, h2, h3, hr, ?_⟩
  rw [hk] at a
  exact ⟨a, hB p _ _ hp b c⟩
end Go.VC
