/-
  Plain laws of Cycle: where no order agrees with the edges it finds a cycle.
-/
import Derived.Test.YtnbkihkdfhjlmaaDf
namespace Go.Proofs.Ytnbkihkdfhjlmaa
open Go Go.VC
set_option maxHeartbeats 400000

theorem Path.take {E : Int → Int → Bool} : ∀ {p : List Int} (k : Nat), Path E p → Path E (p.take k)
  | [], k, _ => by simp [Path]
  | [a], 0, _ => trivial
  | [a], k + 1, _ => by simp [Path]
  | a :: b :: r, 0, _ => trivial
  | a :: b :: r, 1, _ => trivial
  | a :: b :: r, k + 2, h => ⟨h.1, Path.take (p := b :: r) (k + 1) h.2⟩
theorem Path.cons {E : Int → Int → Bool} {a : Int} : ∀ {p : List Int}, Path E p → (p ≠ [] → E a (p.head?.getD 0) = true) → Path E (a :: p)
  | [], _, _ => trivial
  | b :: r, hp, h => ⟨by simpa using h (by simp), hp⟩
theorem exists_cycle {E : Int → Int → Bool} {m : List Int} (hm : ∀ b ∈ m, ∃ a ∈ m, E a b = true) :
    ∀ (n : Nat) (p : List Int), p ≠ [] → p.Nodup → (∀ x ∈ p, x ∈ m) → Path E p → m.length + 1 ≤ p.length + n →
      ∃ c : List Int, c ≠ [] ∧ c.Nodup ∧ (∀ x ∈ c, x ∈ m) ∧ Path E c ∧ E (c.getLast?.getD 0) (c.head?.getD 0) = true
  | 0, p, _, hn, hs, _, hl => by
    have := hn.length_le_of_subset (l₂ := m) hs
    omega
  | n + 1, p, h0, hn, hs, hp, hl => by
    obtain ⟨b, r, rfl⟩ : ∃ b r, p = b :: r := by
      cases p with
      | nil => exact absurd rfl h0
      | cons b r => exact ⟨b, r, rfl⟩
    obtain ⟨a, ha, he⟩ := hm b (hs b (by simp))
    by_cases hin : a ∈ b :: r
    · obtain ⟨i, hi, e⟩ := List.getElem_of_mem hin
      refine ⟨(b :: r).take (i + 1), by simp, hn.sublist (List.take_sublist ..), fun x hx => hs x (List.mem_of_mem_take hx), hp.take (i + 1), ?_⟩
      rw [List.getLast?_eq_getElem?, List.length_take, Nat.min_eq_left (by omega)]
      simp only [Nat.add_sub_cancel, List.take_succ_cons, List.head?_cons, Option.getD_some]
      rw [show (b :: r.take i)[i]? = ((b :: r).take (i + 1))[i]? from rfl, List.getElem?_take, if_pos (by omega), List.getElem?_eq_getElem hi, e]
      exact he
    · exact exists_cycle hm n (a :: b :: r) (by simp) (List.nodup_cons.2 ⟨hin, hn⟩) (fun x hx => by rcases List.mem_cons.1 hx with rfl | hx; exact ha; exact hs x hx) ⟨he, hp⟩ (by simp at hl ⊢; omega)
/-- The search finds a cycle that is there. -/
theorem grow_finds {E : Int → Int → Bool} {l : List Int} : ∀ (rest c : List Int), c ≠ [] → (c ++ rest).Nodup → (∀ x ∈ rest, x ∈ l) → Path E (c ++ rest) → E ((c ++ rest).getLast?.getD 0) ((c ++ rest).head?.getD 0) = true → (grow E l rest.length c).isSome = true
  | [], c, _, _, _, _, he => by
    rw [List.append_nil] at he
    rw [List.length_nil, grow, if_pos he]; rfl
  | t :: r, c, h0, hn, hs, hp, he => by
    rw [List.length_cons, grow, List.findSome?_isSome_iff]
    refine ⟨t, hs t (by simp), ?_⟩
    have hnt : t ∉ c := fun h => (List.nodup_append.1 hn).2.2 t h t (by simp) rfl
    have hedge : E (c.getLast?.getD 0) t = true := by
      clear he hn hs hnt
      induction c with
      | nil => exact absurd rfl h0
      | cons a c' ih =>
        cases c' with
        | nil => exact hp.1
        | cons b c'' =>
          have := ih (by simp) hp.2
          simpa using this
    rw [if_pos (by simp [hnt, hedge])]
    have e : c ++ t :: r = (c ++ [t]) ++ r := by simp
    rw [e] at hn hp he
    exact grow_finds r (c ++ [t]) (by simp) hn (fun x hx => hs x (by simp [hx])) hp he
theorem cyc_finds {E : Int → Int → Bool} (hirr : ∀ a, E a a = false) {l : List Int} (h : srt E l.length l = none) : (cyc E l).isSome = true := by
  obtain ⟨m, h0, hs, hm⟩ := srt_none _ l rfl h
  obtain ⟨b, hb⟩ := List.exists_mem_of_ne_nil m h0
  obtain ⟨c, c0, c1, c2, c3, c4⟩ := exists_cycle hm m.length [b] (by simp) (by simp) (by intro x hx; simp at hx; subst hx; exact hb) trivial (by simp; omega)
  obtain ⟨t, r, rfl⟩ : ∃ t r, c = t :: r := by
    cases c with
    | nil => exact absurd rfl c0
    | cons t r => exact ⟨t, r, rfl⟩
  have hr : r ≠ [] := by
    rintro rfl
    simp [hirr] at c4
  have hlen := c1.length_le_of_subset (l₂ := l) fun x hx => hs x (c2 x hx)
  have hrl : 0 < r.length := List.length_pos_iff.2 hr
  unfold cyc
  rw [List.findSome?_isSome_iff]
  refine ⟨r.length - 1, by simp at hlen ⊢; omega, ?_⟩
  rw [List.findSome?_isSome_iff]
  refine ⟨t, hs t (c2 t (by simp)), ?_⟩
  rw [show r.length - 1 + 1 = r.length from by omega]
  exact grow_finds r [t] (by simp) c1 (fun x hx => hs x (c2 x (by simp [hx]))) c3 c4
end Go.Proofs.Ytnbkihkdfhjlmaa
