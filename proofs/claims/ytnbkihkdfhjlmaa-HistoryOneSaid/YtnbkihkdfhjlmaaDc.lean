/-
  The law of HistoryExchanged, and its contract.
-/
import Derived.Test.YtnbkihkdfhjlmaaDb
namespace Go.Proofs.Ytnbkihkdfhjlmaa
open Go Go.VC
set_option maxHeartbeats 400000

theorem com_congr {h h' : List Ev} (hm : ∀ o, o ∈ h ↔ o ∈ h') : com h = com h' := by
  unfold com
  apply List.filter_congr
  intro t _
  apply decide_eq_decide.2
  unfold fin
  rw [ix_nonneg, ix_nonneg, hm]
theorem swap_mem {x y : Ev} {p q : List Ev} (o : Ev) : o ∈ p ++ x :: y :: q ↔ o ∈ p ++ y :: x :: q := by
  simp only [List.mem_append, List.mem_cons]
  constructor <;> (rintro (h | h | h | h) <;> simp [h])
theorem com_swap {x y : Ev} {p q : List Ev} : com (p ++ x :: y :: q) = com (p ++ y :: x :: q) := com_congr swap_mem
/-- The committed part has no aborts. -/
theorem part_noabort {h : List Ev} (hv : Wf h) : ∀ o ∈ part h, o.k ≠ 3 := by
  intro o ho h3
  obtain ⟨hoh, hc⟩ := List.mem_filter.1 ho
  have hc := mem_com.1 (by simpa using hc)
  have hm : (⟨o.t, 2, 0⟩ : Ev) ∈ h := ix_nonneg.1 hc.2.2
  obtain ⟨i, hi, ei⟩ := List.getElem_of_mem hoh
  obtain ⟨j, hj, ej⟩ := List.getElem_of_mem hm
  have hp := List.pairwise_iff_getElem.1 hv.2
  rcases Nat.lt_trichotomy i j with hlt | heq | hlt
  · exact hp i j hi hj hlt ⟨by rw [ei, ej], by rw [ei, h3]; omega⟩
  · subst heq; rw [ei] at ej; rw [ej] at h3; cases h3
  · exact hp j i hj hi hlt ⟨by rw [ei, ej], by rw [ej]; show (1 : Int) < 2; omega⟩
theorem filter_one {x y : Ev} {p q : List Ev} {f : Ev → Bool} (h : ¬ (f x = true ∧ f y = true)) : (p ++ x :: y :: q).filter f = (p ++ y :: x :: q).filter f := by
  rw [List.filter_append, List.filter_append]
  congr 1
  simp only [List.filter_cons]
  by_cases h1 : f x = true
  · have h2 : ¬ f y = true := fun h2 => h ⟨h1, h2⟩
    rw [if_pos h1, if_neg h2, if_neg h2, if_pos h1]
  · rw [if_neg h1, if_neg h1]
theorem filter_two {x y : Ev} {p q : List Ev} {f : Ev → Bool} (h1 : f x = true) (h2 : f y = true) : (p ++ x :: y :: q).filter f = p.filter f ++ x :: y :: q.filter f := by
  rw [List.filter_append, List.filter_cons, List.filter_cons, if_pos h1, if_pos h2]
theorem part_swap {x y : Ev} (p q : List Ev) (hc : calm x y) (hv : Wf (p ++ x :: y :: q)) :
    conf (part (p ++ x :: y :: q)) = conf (part (p ++ y :: x :: q)) ∧ viewL (part (p ++ x :: y :: q)) = viewL (part (p ++ y :: x :: q)) := by
  have hna := part_noabort hv
  unfold part at hna ⊢
  rw [← com_swap (x := x) (y := y) (p := p) (q := q)]
  generalize com (p ++ x :: y :: q) = C at hna ⊢
  by_cases h : decide (x.t ∈ C) = true ∧ decide (y.t ∈ C) = true
  · rw [filter_two (f := fun o => decide (o.t ∈ C)) h.1 h.2] at hna ⊢
    rw [filter_two (f := fun o => decide (o.t ∈ C)) h.2 h.1]
    exact ⟨conf_swap hc, viewL_swap hc hna⟩
  · rw [filter_one (f := fun o => decide (o.t ∈ C)) h]
    exact ⟨rfl, rfl⟩
theorem serial_swap {x y : Ev} {p q : List Ev} (hc : calm x y) (o : List Int) : serial (p ++ x :: y :: q) o = serial (p ++ y :: x :: q) o := by
  unfold serial
  congr 1
  funext t
  exact filter_one fun h => hc.1 ((of_decide_eq_true h.1).trans (of_decide_eq_true h.2).symm)
theorem valid_swap {x y : Ev} {p q : List Ev} (hc : calm x y) (hv : Valid (p ++ x :: y :: q)) : Valid (p ++ y :: x :: q) := by
  obtain ⟨⟨h1, h2⟩, h3⟩ := hv
  refine ⟨⟨fun o ho => h1 o ((swap_mem o).2 ho), ?_⟩, by simpa using h3⟩
  rw [List.pairwise_append] at h2 ⊢
  obtain ⟨a, b, c⟩ := h2
  rw [List.pairwise_cons, List.pairwise_cons] at b
  obtain ⟨b1, b2, b3⟩ := b
  refine ⟨a, ?_, fun u hu v hv => c u hu v (by simp at hv ⊢; rcases hv with h | h | h <;> simp [h])⟩
  rw [List.pairwise_cons, List.pairwise_cons]
  refine ⟨fun z hz => ?_, fun z hz => b1 z (by simp [hz]), b3⟩
  rcases List.mem_cons.1 hz with rfl | hz
  · intro h; have := hc.2.2.1; omega
  · exact b2 z hz
theorem prog_swap {x y : Ev} {p q : List Ev} (hc : calm x y) (hv : Valid (p ++ x :: y :: q)) :
    progO (p ++ x :: y :: q) = progO (p ++ y :: x :: q) ∧ progC (p ++ x :: y :: q) = progC (p ++ y :: x :: q) ∧ progV (p ++ x :: y :: q) = progV (p ++ y :: x :: q) := by
  obtain ⟨h1, h2⟩ := part_swap p q hc hv.1
  refine ⟨?_, ?_, ?_⟩
  · unfold progO; rw [h1, com_swap]
  · unfold progC; rw [h1, com_swap]
  · rw [progV_eq, progV_eq]
    have hok : ∀ o, decide (okP (p ++ x :: y :: q) o) = decide (okP (p ++ y :: x :: q) o) := fun o => decide_eq_decide.2 (by unfold okP; rw [h2, serial_swap hc])
    unfold refV
    rw [com_swap (x := x) (y := y)]
    exact find_congr fun o _ => hok o
/-- Two neighbours exchanged. -/
def exch (h : List Ev) (i : Nat) (hi : i + 1 < h.length) : List Ev := (h.set i h[i + 1]).set (i + 1) (h[i]'(by omega))
theorem split_two {h : List Ev} {i : Nat} (hi : i + 1 < h.length) : h = h.take i ++ h[i]'(by omega) :: h[i + 1] :: h.drop (i + 2) := by
  have h1 : h.drop i = h[i]'(by omega) :: h.drop (i + 1) := List.drop_eq_getElem_cons (by omega)
  have h2 : h.drop (i + 1) = h[i + 1] :: h.drop (i + 2) := List.drop_eq_getElem_cons hi
  rw [← h2, ← h1, List.take_append_drop]
theorem exch_eq {h : List Ev} {i : Nat} (hi : i + 1 < h.length) : exch h i hi = h.take i ++ h[i + 1] :: h[i]'(by omega) :: h.drop (i + 2) := by
  unfold exch
  apply List.ext_getElem
  · simp; omega
  · intro j h1 h2
    rw [List.getElem_set, List.getElem_set, List.getElem_append]
    simp only [List.length_take, Nat.min_eq_left (show i ≤ h.length by omega)]
    by_cases e1 : i + 1 = j
    · subst e1; simp; intro h; omega
    · rw [if_neg e1]
      by_cases e2 : i = j
      · subst e2; simp
      · rw [if_neg e2]
        by_cases e3 : j < i
        · simp [e3]
        · obtain ⟨k, rfl⟩ : ∃ k, j = i + 2 + k := ⟨j - (i + 2), by omega⟩
          have e4 : i + 2 + k - i = k + 2 := by omega
          simp [e3, e4]
end Go.Proofs.Ytnbkihkdfhjlmaa
