/-
  Plain law: an order that agrees with all conflicts is view equivalent.
-/
import Derived.Test.YtnbkihkdfhjlmaaDg
namespace Go.Proofs.Ytnbkihkdfhjlmaa
open Go Go.VC
set_option maxHeartbeats 400000

/-- Two lists of operations that nobody can tell apart by reading. -/
def Eqv (p q : List Ev) : Prop := (∀ t σ, ems t σ p = ems t σ q) ∧ ∀ σ, stf σ p = stf σ q
theorem Eqv.refl (p : List Ev) : Eqv p p := ⟨fun _ _ => rfl, fun _ => rfl⟩
theorem Eqv.trans {p q r : List Ev} (h : Eqv p q) (k : Eqv q r) : Eqv p r := ⟨fun t σ => (h.1 t σ).trans (k.1 t σ), fun σ => (h.2 σ).trans (k.2 σ)⟩
theorem Eqv.cons {p q : List Ev} (o : Ev) (h : Eqv p q) : Eqv (o :: p) (o :: q) := ⟨fun t σ => by simp only [ems]; rw [h.1], fun σ => by simp only [stf]; rw [h.2]⟩
/-- Kinds of a valid history. -/
def okK (o : Ev) : Prop := 0 ≤ o.k
theorem cfl_false {x y : Ev} (ht : x.t ≠ y.t) (h : cfl x y = false) : ¬ (x.i = y.i ∧ (if y.k > x.k then y.k else x.k) = 1) := by
  rintro ⟨h1, h2⟩
  unfold cfl at h
  rw [h2] at h
  simp [ht, h1] at h
theorem Eqv.swap {x y : Ev} (hx0 : okK x) (hy0 : okK y) (ht : x.t ≠ y.t) (h : cfl x y = false) (q : List Ev) : Eqv (x :: y :: q) (y :: x :: q) := by
  have h6 := cfl_false ht h
  unfold okK at hx0 hy0
  have hst : ∀ σ : Int → Int, (if y.k = 1 then upd (if x.k = 1 then upd σ x.i x.t else σ) y.i y.t else (if x.k = 1 then upd σ x.i x.t else σ)) = (if x.k = 1 then upd (if y.k = 1 then upd σ y.i y.t else σ) x.i x.t else (if y.k = 1 then upd σ y.i y.t else σ)) := by
    intro σ
    by_cases hx : x.k = 1 <;> by_cases hy : y.k = 1 <;> simp only [hx, hy, if_true, if_false]
    exact upd_comm fun e => h6 ⟨e, by simp [hx, hy]⟩
  refine ⟨fun t σ => ?_, fun σ => ?_⟩
  · simp only [ems]
    rw [hst σ, ← List.append_assoc, ← List.append_assoc]
    congr 1
    have e1 : x.k = 1 → y.t = t ∧ y.k = 0 → upd σ x.i x.t y.i = σ y.i := fun hx hy => by
      unfold upd; rw [if_neg]; intro e; exact h6 ⟨e.symm, by simp [hx, hy.2]⟩
    have e2 : y.k = 1 → x.t = t ∧ x.k = 0 → upd σ y.i y.t x.i = σ x.i := fun hy hx => by
      unfold upd; rw [if_neg]; intro e; exact h6 ⟨e, by simp [hy, hx.2]⟩
    by_cases hx : x.t = t ∧ x.k = 0
    · have hy : ¬ (y.t = t ∧ y.k = 0) := fun hy => ht (hx.1.trans hy.1.symm)
      rw [if_pos hx, if_neg hy, if_neg hy, if_pos hx]
      by_cases hk : y.k = 1
      · rw [if_pos hk, e2 hk hx]; simp
      · rw [if_neg hk]; simp
    · by_cases hy : y.t = t ∧ y.k = 0
      · rw [if_neg hx, if_pos hy, if_pos hy, if_neg hx]
        by_cases hk : x.k = 1
        · rw [if_pos hk, e1 hk hy]; simp
        · rw [if_neg hk]; simp
      · rw [if_neg hx, if_neg hy, if_neg hy, if_neg hx]
  · simp only [stf]
    rw [hst σ]
/-- An operation moved over others that it does not clash with. -/
theorem Eqv.move {x : Ev} (hx0 : okK x) : ∀ (p q : List Ev), (∀ y ∈ p, okK y ∧ x.t ≠ y.t ∧ cfl x y = false) → Eqv (x :: (p ++ q)) (p ++ x :: q)
  | [], q, _ => Eqv.refl _
  | y :: p, q, h => by
    obtain ⟨h1, h2, h3⟩ := h y (by simp)
    exact (Eqv.swap hx0 h1 h2 h3 (p ++ q)).trans ((Eqv.move hx0 p q fun z hz => h z (by simp [hz])).cons y)
/-- The histories, transaction by transaction, of one operation more. -/
theorem serial_cons {x : Ev} {q : List Ev} : ∀ (a b : List Int), x.t ∉ a → x.t ∉ b → serial (x :: q) (a ++ x.t :: b) = serial q a ++ x :: serial q (x.t :: b)
  | a, b, ha, hb => by
    have hno : ∀ l : List Int, x.t ∉ l → serial (x :: q) l = serial q l := fun l hl => by
      unfold serial
      induction l with
      | nil => rfl
      | cons u r ih =>
        rw [List.flatMap_cons, List.flatMap_cons, ih (fun h => hl (by simp [h])), List.filter_cons, if_neg (by simp; intro e; exact hl (by simp [e]))]
    have hsplit : ∀ (h : List Ev) (l m : List Int), serial h (l ++ m) = serial h l ++ serial h m := fun h l m => by unfold serial; rw [List.flatMap_append]
    rw [hsplit, hno a ha]
    congr 1
    have h1 : ∀ (h : List Ev) (u : Int) (m : List Int), serial h (u :: m) = (h.filter fun o => decide (o.t = u)) ++ serial h m := fun h u m => by unfold serial; rw [List.flatMap_cons]
    rw [h1, h1, hno b hb, List.filter_cons, if_pos (by simp)]
    rfl
/-- An order that agrees with all conflicts. -/
theorem serial_eqv : ∀ (q : List Ev) (r : List Int), (∀ o ∈ q, okK o ∧ o.t ∈ r) → r.Nodup → (r.Pairwise fun a b => conf q b a = false) → Eqv q (serial q r)
  | [], r, _, _, _ => by
    have : serial [] r = [] := by unfold serial; simp
    rw [this]; exact Eqv.refl _
  | x :: q, r, hr, hn, hp => by
    have hx := hr x (by simp)
    obtain ⟨a, b, rfl⟩ := List.append_of_mem hx.2
    have hna : x.t ∉ a := fun h => (List.nodup_append.1 hn).2.2 _ h _ (by simp) rfl
    have hnb : x.t ∉ b := (List.nodup_cons.1 (List.nodup_append.1 hn).2.1).1
    have hsub : ∀ u v, conf (x :: q) u v = false → conf q u v = false := fun u v h => by
      rw [Bool.eq_false_iff] at h ⊢
      intro h2
      exact h (conf_confR.2 (.inr (conf_confR.1 h2)))
    have ih := serial_eqv q (a ++ x.t :: b) (fun o ho => hr o (by simp [ho])) hn (hp.imp fun h => hsub _ _ h)
    rw [serial_cons a b hna hnb]
    refine (ih.cons x).trans ?_
    have hs : serial q (a ++ x.t :: b) = serial q a ++ serial q (x.t :: b) := by unfold serial; rw [List.flatMap_append]
    rw [hs]
    refine Eqv.move hx.1 _ _ fun y hy => ?_
    obtain ⟨u, hu, hy2⟩ := List.mem_flatMap.1 hy
    obtain ⟨hyq, hyt⟩ := List.mem_filter.1 hy2
    have hyt : y.t = u := by simpa using hyt
    refine ⟨(hr y (by simp [hyq])).1, fun e => hna (by rw [e, hyt]; exact hu), ?_⟩
    have hpu := (List.pairwise_append.1 hp).2.2 u hu x.t (by simp)
    cases hc : cfl x y with
    | false => rfl
    | true =>
      have : conf (x :: q) x.t u = true := conf_confR.2 (.inl ⟨y, hyq, hc, rfl, hyt⟩)
      rw [this] at hpu; cases hpu
end Go.Proofs.Ytnbkihkdfhjlmaa
