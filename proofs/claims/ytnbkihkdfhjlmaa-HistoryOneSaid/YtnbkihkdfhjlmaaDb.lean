/-
  Plain laws: two neighbouring operations exchanged.
-/
import Derived.Test.YtnbkihkdfhjlmaaDa
import Derived.Test.YtnbkihkdfhjlmaaCq
namespace Go.Proofs.Ytnbkihkdfhjlmaa
open Go Go.VC
set_option maxHeartbeats 400000

/-! ### the reads, as a history is gone through -/
def upd (σ : Int → Int) (i v : Int) : Int → Int := fun j => if j = i then v else σ j
/-- What is known behind the operations. -/
def stf (σ : Int → Int) : List Ev → Int → Int
  | [] => σ
  | o :: r => stf (if o.k = 1 then upd σ o.i o.t else σ) r
/-- The reads of a transaction, each with what it reads from. -/
def ems (t : Int) (σ : Int → Int) : List Ev → List Int
  | [] => []
  | o :: r => (if o.t = t ∧ o.k = 0 then [σ o.i] else []) ++ ems t (if o.k = 1 then upd σ o.i o.t else σ) r
theorem stf_append (σ : Int → Int) : ∀ (p q : List Ev), stf σ (p ++ q) = stf (stf σ p) q
  | [], _ => rfl
  | o :: r, q => by simp only [List.cons_append, stf]; exact stf_append _ r q
theorem ems_append (t : Int) (σ : Int → Int) : ∀ (p q : List Ev), ems t σ (p ++ q) = ems t σ p ++ ems t (stf σ p) q
  | [], _ => rfl
  | o :: r, q => by simp only [List.cons_append, ems, stf]; rw [ems_append t _ r q, List.append_assoc]
theorem stf_lst {h : List Ev} (it : Int) : ∀ n, n ≤ h.length → stf (fun _ => 0) (h.take n) it = lst h it n
  | 0, _ => rfl
  | n + 1, hn => by
    have hi : n < h.length := by omega
    rw [List.take_succ_eq_append_getElem hi, stf_append, lst, getD_at hi]
    simp only [stf]
    by_cases hk : h[n].k = 1
    · rw [if_pos hk]
      unfold upd
      by_cases e : it = h[n].i
      · rw [if_pos e, if_pos ⟨hk, e.symm⟩]
      · rw [if_neg e, if_neg (fun h => e h.2.symm), stf_lst it n (by omega)]
    · rw [if_neg hk, if_neg (fun h => hk h.1), stf_lst it n (by omega)]
/-- Without aborts a read reads from the last writer. -/
theorem srcUp_lst {h : List Ev} (hna : ∀ o ∈ h, o.k ≠ 3) (it : Int) (i : Nat) : ∀ n, n ≤ h.length → srcUp h it i n = lst h it n
  | 0, _ => rfl
  | n + 1, hn => by
    have hi : n < h.length := by omega
    rw [srcUp, lst, srcUp_lst hna it i n (by omega), getD_at hi]
    have hfin : fin h 3 h[n].t = -1 := ix_not fun hm => hna _ hm rfl
    by_cases hg : h[n].k = 1 ∧ h[n].i = it
    · rw [if_pos hg, if_pos ⟨hg.1, hg.2, by rw [hfin]; omega⟩]
    · rw [if_neg hg, if_neg fun h => hg ⟨h.1, h.2.1⟩]
theorem reads_ems {h : List Ev} (hna : ∀ o ∈ h, o.k ≠ 3) (t : Int) : reads h t = ems t (fun _ => 0) h := by
  have main : ∀ n, n ≤ h.length → rds h t n = ems t (fun _ => 0) (h.take n) := by
    intro n
    induction n with
    | zero => intro _; rfl
    | succ n ih =>
      intro hn
      have hi : n < h.length := by omega
      rw [rds_step hi, List.take_succ_eq_append_getElem hi, ems_append, ih (by omega)]
      congr 1
      simp only [ems, List.append_nil]
      by_cases hc : h[n].t = t ∧ h[n].k = 0
      · rw [if_pos hc, if_pos hc, frm1_read hi hc.2, srcUp_lst hna _ _ _ (by omega), stf_lst _ _ (by omega)]
      · rw [if_neg hc, if_neg hc]
  have := main h.length (Nat.le_refl _)
  rw [List.take_length] at this; exact this
theorem lasts_stf (h : List Ev) : lasts h = ([0, 1, 2, 3, 4, 5] : List Int).map (stf (fun _ => 0) h) := by
  have := fun it => stf_lst (h := h) it h.length (Nat.le_refl _)
  simp only [List.take_length] at this
  simp only [List.map_cons, List.map_nil, this]
  rfl
/-- Two operations that may be exchanged. -/
def calm (x y : Ev) : Prop := x.t ≠ y.t ∧ x.k ≤ 1 ∧ y.k ≤ 1 ∧ 0 ≤ x.k ∧ 0 ≤ y.k ∧ ¬ (x.i = y.i ∧ 0 < x.k + y.k)
theorem calm.symm {x y : Ev} (h : calm x y) : calm y x := ⟨fun e => h.1 e.symm, h.2.2.1, h.2.1, h.2.2.2.2.1, h.2.2.2.1, fun e => h.2.2.2.2.2 ⟨e.1.symm, by omega⟩⟩
theorem upd_comm {σ : Int → Int} {i j a b : Int} (h : i ≠ j) : upd (upd σ i a) j b = upd (upd σ j b) i a := by
  funext k
  unfold upd
  by_cases e1 : k = j <;> by_cases e2 : k = i <;> simp [e1, e2]
  · exact absurd (e2.symm.trans e1) h
  · intro e; exact absurd e.symm h
  · intro e; exact absurd e h
theorem stf_swap {x y : Ev} (h : calm x y) (σ : Int → Int) (q : List Ev) : stf σ (x :: y :: q) = stf σ (y :: x :: q) := by
  simp only [stf]
  congr 1
  by_cases hx : x.k = 1 <;> by_cases hy : y.k = 1 <;> simp only [hx, hy, if_true, if_false]
  exact upd_comm fun e => h.2.2.2.2.2 ⟨e, by omega⟩
theorem ems_swap {x y : Ev} (h : calm x y) (t : Int) (σ : Int → Int) (q : List Ev) : ems t σ (x :: y :: q) = ems t σ (y :: x :: q) := by
  have hs := stf_swap h σ []
  simp only [stf] at hs
  simp only [ems]
  rw [← hs, ← List.append_assoc, ← List.append_assoc]
  congr 1
  obtain ⟨h1, h2, h3, h4, h5, h6⟩ := h
  have e1 : x.k = 1 → y.t = t ∧ y.k = 0 → upd σ x.i x.t y.i = σ y.i := fun hx hy => by
    unfold upd; rw [if_neg]; intro e; exact h6 ⟨e.symm, by omega⟩
  have e2 : y.k = 1 → x.t = t ∧ x.k = 0 → upd σ y.i y.t x.i = σ x.i := fun hx hy => by
    unfold upd; rw [if_neg]; intro e; exact h6 ⟨e, by omega⟩
  by_cases hx : x.t = t ∧ x.k = 0
  · have hy : ¬ (y.t = t ∧ y.k = 0) := fun hy => h1 (hx.1.trans hy.1.symm)
    rw [if_pos hx, if_neg hy, if_neg hy, if_pos hx]
    by_cases hk : y.k = 1
    · rw [if_pos hk, e2 hk hx]; simp
    · rw [if_neg hk]; simp
  · by_cases hy : y.t = t ∧ y.k = 0
    · rw [if_neg hx, if_pos hy, if_pos hy, if_neg hx]
      by_cases hk : x.k = 1
      · rw [if_pos hk, e1 hk hy]; simp
      · rw [if_neg hk]; simp
    · rw [if_neg hx, if_neg hy, if_neg hy, if_neg hx]
theorem viewL_swap {x y : Ev} (h : calm x y) {p q : List Ev} (hna : ∀ o ∈ p ++ x :: y :: q, o.k ≠ 3) : viewL (p ++ x :: y :: q) = viewL (p ++ y :: x :: q) := by
  have hna' : ∀ o ∈ p ++ y :: x :: q, o.k ≠ 3 := fun o ho => hna o (by simp at ho ⊢; rcases ho with h | h | h | h <;> simp [h])
  unfold viewL
  congr 1
  · congr 1
    funext t
    rw [reads_ems hna, reads_ems hna', ems_append, ems_append, ems_swap h]
  · rw [lasts_stf, lasts_stf, stf_append, stf_append, stf_swap h]

/-! ### conflicts -/
def confR : List Ev → Int → Int → Prop
  | [], _, _ => False
  | o :: r, a, b => (∃ y ∈ r, cfl o y = true ∧ o.t = a ∧ y.t = b) ∨ confR r a b
theorem conf_confR : ∀ {p : List Ev} {a b : Int}, conf p a b = true ↔ confR p a b
  | [], a, b => by simp [conf, confR]
  | o :: r, a, b => by
    rw [confR, ← conf_confR (p := r), conf_iff, conf_iff]
    constructor
    · rintro ⟨i, j, hi, hj, hij, h1, h2, h3⟩
      obtain ⟨j', rfl⟩ : ∃ j', j = j' + 1 := ⟨j - 1, by omega⟩
      have hj' : j' < r.length := by simpa using hj
      cases i with
      | zero => exact .inl ⟨r[j'], List.getElem_mem hj', by simpa using h1, by simpa using h2, by simpa using h3⟩
      | succ i' => exact .inr ⟨i', j', by simpa using hi, hj', by omega, by simpa using h1, by simpa using h2, by simpa using h3⟩
    · rintro (⟨y, hy, h1, h2, h3⟩ | ⟨i, j, hi, hj, hij, h1, h2, h3⟩)
      · obtain ⟨j, hj, rfl⟩ := List.getElem_of_mem hy
        exact ⟨0, j + 1, by simp, by simpa using hj, by omega, by simpa using h1, by simpa using h2, by simpa using h3⟩
      · exact ⟨i + 1, j + 1, by simpa using hi, by simpa using hj, by omega, by simpa using h1, by simpa using h2, by simpa using h3⟩
theorem calm_cfl {x y : Ev} (h : calm x y) : cfl x y = false := by
  obtain ⟨h1, h2, h3, h4, h5, h6⟩ := h
  unfold cfl
  by_cases e : x.i = y.i
  · have hx : x.k = 0 := by
      rcases Classical.em (x.k = 0) with h | h
      · exact h
      · exact absurd ⟨e, by omega⟩ h6
    have hy : y.k = 0 := by
      rcases Classical.em (y.k = 0) with h | h
      · exact h
      · exact absurd ⟨e, by omega⟩ h6
    simp [hx, hy]
  · simp [e]
theorem confR_swap {x y : Ev} (h : calm x y) {a b : Int} : ∀ {p q : List Ev}, confR (p ++ x :: y :: q) a b ↔ confR (p ++ y :: x :: q) a b
  | [], q => by
    simp only [List.nil_append, confR, List.mem_cons]
    have h1 := calm_cfl h
    have h2 := calm_cfl h.symm
    constructor
    · rintro (⟨z, rfl | hz, h3⟩ | ⟨z, hz, h3⟩ | h3)
      · rw [h1] at h3; cases h3.1
      · exact .inr (.inl ⟨z, hz, h3⟩)
      · exact .inl ⟨z, .inr hz, h3⟩
      · exact .inr (.inr h3)
    · rintro (⟨z, rfl | hz, h3⟩ | ⟨z, hz, h3⟩ | h3)
      · rw [h2] at h3; cases h3.1
      · exact .inr (.inl ⟨z, hz, h3⟩)
      · exact .inl ⟨z, .inr hz, h3⟩
      · exact .inr (.inr h3)
  | o :: p, q => by
    simp only [List.cons_append, confR]
    rw [confR_swap h (p := p)]
    have : ∀ z, z ∈ p ++ x :: y :: q ↔ z ∈ p ++ y :: x :: q := fun z => by simp only [List.mem_append, List.mem_cons]; constructor <;> (rintro (h | h | h | h) <;> simp [h])
    simp only [this]
theorem conf_swap {x y : Ev} (h : calm x y) {p q : List Ev} : conf (p ++ x :: y :: q) = conf (p ++ y :: x :: q) := by
  funext a b
  rw [Bool.eq_iff_iff, conf_confR, conf_confR, confR_swap h]
end Go.Proofs.Ytnbkihkdfhjlmaa
