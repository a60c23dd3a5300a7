/-
  Plain laws of Order and Cycle: an order that agrees with the edges, or a cycle.
-/
import Derived.Test.YtnbkihkdfhjlmaaDd
namespace Go.Proofs.Ytnbkihkdfhjlmaa
open Go Go.VC
set_option maxHeartbeats 400000

theorem ixf_spec {P : Int → Bool} : ∀ {l : List Int} {k : Nat}, ixf P l = k → ∃ x, l[k]? = some x ∧ P x = true
  | [], k, h => by rw [ixf] at h; omega
  | y :: r, k, h => by
    rw [ixf] at h
    by_cases hp : P y = true
    · rw [if_pos hp] at h
      have : k = 0 := by omega
      subst this
      exact ⟨y, rfl, hp⟩
    · rw [if_neg hp] at h
      split at h
      · omega
      · obtain ⟨m, rfl⟩ : ∃ m, k = m + 1 := ⟨k - 1, by omega⟩
        obtain ⟨x, hx, hpx⟩ := ixf_spec (P := P) (l := r) (k := m) (by omega)
        exact ⟨x, by simpa using hx, hpx⟩
/-- What srt returns: an order of all, each ahead of what it has to be ahead of. -/
theorem srt_some {E : Int → Int → Bool} : ∀ (n : Nat) (l r : List Int), l.length = n → srt E n l = some r → r.Perm l ∧ r.Pairwise (fun a b => E b a = false)
  | 0, l, r, hl, h => by
    simp [srt] at h; subst h
    rw [List.eq_nil_of_length_eq_zero hl]; exact ⟨.refl _, List.Pairwise.nil⟩
  | n + 1, l, r, hl, h => by
    rw [srt] at h
    by_cases hneg : ixf (free E l) l < 0
    · rw [if_pos hneg] at h; cases h
    · rw [if_neg hneg] at h
      obtain ⟨q, hq, rfl⟩ := Option.map_eq_some_iff.1 h
      obtain ⟨x, hx, hp⟩ := ixf_spec (P := free E l) (l := l) (k := (ixf (free E l) l).toNat) (by omega)
      obtain ⟨hk, he⟩ := List.getElem?_eq_some_iff.1 hx
      have hlen : (l.eraseIdx (ixf (free E l) l).toNat).length = n := by rw [List.length_eraseIdx, if_pos hk]; omega
      obtain ⟨h1, h2⟩ := srt_some n _ q hlen hq
      have hgd : l.getD (ixf (free E l) l).toNat 0 = x := by simp [List.getD, hx]
      rw [hgd]
      have hperm : (x :: l.eraseIdx (ixf (free E l) l).toNat).Perm l := by
        have e : l = l.take (ixf (free E l) l).toNat ++ x :: l.drop ((ixf (free E l) l).toNat + 1) := by rw [← he, ← List.drop_eq_getElem_cons hk, List.take_append_drop]
        rw [List.eraseIdx_eq_take_drop_succ]
        exact List.perm_middle.symm.trans (List.Perm.of_eq e.symm)
      refine ⟨(List.Perm.cons _ h1).trans hperm, List.pairwise_cons.2 ⟨fun b hb => ?_, h2⟩⟩
      have hbl : b ∈ l := hperm.mem_iff.1 (List.mem_cons_of_mem _ (h1.mem_iff.1 hb))
      unfold free at hp
      simp only [Bool.not_eq_true', List.any_eq_false] at hp
      exact Bool.eq_false_iff.2 (hp b hbl)
/-- If it returns none, some of them each have one of them ahead. -/
theorem srt_none {E : Int → Int → Bool} : ∀ (n : Nat) (l : List Int), l.length = n → srt E n l = none → ∃ m : List Int, m ≠ [] ∧ (∀ x ∈ m, x ∈ l) ∧ ∀ b ∈ m, ∃ a ∈ m, E a b = true
  | 0, l, _, h => by simp [srt] at h
  | n + 1, l, hl, h => by
    rw [srt] at h
    by_cases hneg : ixf (free E l) l < 0
    · refine ⟨l, by rintro rfl; simp at hl, fun _ h => h, fun b hb => ?_⟩
      have h1 : decide (ixf (free E l) l ≥ 0) = false := by simp; omega
      rw [ixf_nonneg, List.any_eq_false] at h1
      have := h1 b hb
      unfold free at this
      simp only [Bool.not_eq_true', Bool.not_eq_false, List.any_eq_true] at this
      obtain ⟨a, ha, he⟩ := this
      exact ⟨a, ha, he⟩
    · rw [if_neg hneg] at h
      have hq := Option.map_eq_none_iff.1 h
      obtain ⟨x, hx, hp⟩ := ixf_spec (P := free E l) (l := l) (k := (ixf (free E l) l).toNat) (by omega)
      obtain ⟨hk, he⟩ := List.getElem?_eq_some_iff.1 hx
      have hlen : (l.eraseIdx (ixf (free E l) l).toNat).length = n := by rw [List.length_eraseIdx, if_pos hk]; omega
      obtain ⟨m, h1, h2, h3⟩ := srt_none n _ hlen hq
      exact ⟨m, h1, fun x hx => List.mem_of_mem_eraseIdx (h2 x hx), h3⟩
end Go.Proofs.Ytnbkihkdfhjlmaa
