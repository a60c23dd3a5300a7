/-
  Plain laws of Cycle: what it returns is a cycle; there is none beside an order.
-/
import Derived.Test.YtnbkihkdfhjlmaaDe
namespace Go.Proofs.Ytnbkihkdfhjlmaa
open Go Go.VC
set_option maxHeartbeats 400000

/-- Each is ahead of the next. -/
def Path (E : Int → Int → Bool) : List Int → Prop
  | [] => True
  | [_] => True
  | a :: b :: r => E a b = true ∧ Path E (b :: r)
theorem Path.snoc {E : Int → Int → Bool} {t : Int} : ∀ {c : List Int}, Path E c → (c ≠ [] → E (c.getLast?.getD 0) t = true) → Path E (c ++ [t])
  | [], _, _ => trivial
  | [a], _, h => ⟨by simpa using h (by simp), trivial⟩
  | a :: b :: r, hp, h => by
    refine ⟨hp.1, ?_⟩
    have := Path.snoc (c := b :: r) (t := t) hp.2 (fun _ => by simpa using h (by simp))
    exact this
/-- What grow returns. -/
theorem grow_some {E : Int → Int → Bool} {l : List Int} : ∀ (n : Nat) (c r : List Int), c ≠ [] → c.Nodup → (∀ x ∈ c, x ∈ l) → Path E c → grow E l n c = some r →
    r ≠ [] ∧ r.Nodup ∧ (∀ x ∈ r, x ∈ l) ∧ Path E r ∧ E (r.getLast?.getD 0) (r.head?.getD 0) = true
  | 0, c, r, h0, h1, h2, h3, h => by
    rw [grow] at h
    split at h
    · rename_i he
      cases h; exact ⟨h0, h1, h2, h3, he⟩
    · cases h
  | n + 1, c, r, h0, h1, h2, h3, h => by
    rw [grow] at h
    obtain ⟨t, ht, hg⟩ := List.exists_of_findSome?_eq_some h
    split at hg
    · rename_i he
      simp only [Bool.and_eq_true, Bool.not_eq_true', decide_eq_false_iff_not] at he
      refine grow_some n (c ++ [t]) r (by simp) ?_ ?_ (h3.snoc fun _ => he.2) hg
      · rw [List.nodup_append]; exact ⟨h1, by simp, by intro a ha b hb e; simp at hb; subst hb; subst e; exact he.1 ha⟩
      · intro x hx
        rcases List.mem_append.1 hx with hx | hx
        · exact h2 x hx
        · simp at hx; subst hx; exact ht
    · cases hg
theorem cyc_some {E : Int → Int → Bool} {l r : List Int} (h : cyc E l = some r) : 2 ≤ r.length ∧ r.Nodup ∧ (∀ x ∈ r, x ∈ l) ∧ Path E r ∧ E (r.getLast?.getD 0) (r.head?.getD 0) = true := by
  obtain ⟨k, hk, h1⟩ := List.exists_of_findSome?_eq_some h
  obtain ⟨t, ht, h2⟩ := List.exists_of_findSome?_eq_some h1
  have h3 := grow_len _ _ _ h2
  obtain ⟨_, a, b, c, d⟩ := grow_some (k + 1) [t] r (by simp) (by simp) (by intro x hx; simp at hx; subst hx; exact ht) trivial h2
  exact ⟨by simp at h3; omega, a, b, c, d⟩
theorem path_mono {E : Int → Int → Bool} {f : Int → Nat} {l : List Int} (hf : ∀ a ∈ l, ∀ b ∈ l, E a b = true → f a < f b) : ∀ {r : List Int}, r ≠ [] → (∀ x ∈ r, x ∈ l) → Path E r → f (r.head?.getD 0) ≤ f (r.getLast?.getD 0)
  | [], h, _, _ => absurd rfl h
  | [a], _, _, _ => by simp
  | a :: b :: r, _, hl, hp => by
    have h1 := hf a (hl a (by simp)) b (hl b (by simp)) hp.1
    have h2 := path_mono hf (r := b :: r) (by simp) (fun x hx => hl x (by simp [hx])) hp.2
    simp only [List.head?_cons, Option.getD_some, List.getLast?_cons_cons] at h2 ⊢
    omega
/-- Beside an order that agrees with the edges there is no cycle. -/
theorem no_cycle {E : Int → Int → Bool} (hirr : ∀ a, E a a = false) {l r : List Int} (hp : r.Perm l) (ht : r.Pairwise fun a b => E b a = false) : cyc E l = none := by
  cases hc : cyc E l with
  | none => rfl
  | some c =>
    obtain ⟨h1, _, h3, h4, h5⟩ := cyc_some hc
    have hne : c ≠ [] := by rintro rfl; simp at h1
    have hf : ∀ a ∈ l, ∀ b ∈ l, E a b = true → r.idxOf a < r.idxOf b := by
      intro a ha b hb he
      have ha' := hp.mem_iff.2 ha
      have hb' := hp.mem_iff.2 hb
      have ia := List.idxOf_lt_length_of_mem ha'
      have ib := List.idxOf_lt_length_of_mem hb'
      have ga : r[r.idxOf a] = a := List.getElem_idxOf ia
      have gb : r[r.idxOf b] = b := List.getElem_idxOf ib
      rcases Nat.lt_trichotomy (r.idxOf a) (r.idxOf b) with h | h | h
      · exact h
      · have : a = b := by rw [← ga, ← gb]; simp only [h]
        subst this; rw [hirr] at he; cases he
      · have := List.pairwise_iff_getElem.1 ht _ _ ib ia h
        rw [ga, gb, he] at this; cases this
    have hm := path_mono hf hne h3 h4
    have hlast : c.getLast?.getD 0 ∈ c := by rw [List.getLast?_eq_some_getLast hne]; exact List.getLast_mem hne
    have hhead : c.head?.getD 0 ∈ c := by rw [List.head?_eq_some_head hne]; exact List.head_mem hne
    have := hf _ (h3 _ hlast) _ (h3 _ hhead) h5
    omega
theorem conf_irr {p : List Ev} (a : Int) : conf p a a = false := by
  rw [Bool.eq_false_iff]
  intro h
  obtain ⟨i, j, hi, hj, _, h1, h2, h3⟩ := conf_iff.1 h
  unfold cfl at h1
  simp [h2, h3] at h1
end Go.Proofs.Ytnbkihkdfhjlmaa
