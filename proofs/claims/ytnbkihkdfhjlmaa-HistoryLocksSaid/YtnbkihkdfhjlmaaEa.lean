/-
  Strict two-phase locks, as an abstract machine, and its first laws.
-/
import Derived.Test.YtnbkihkdfhjlmaaDa
namespace Go.Proofs.Ytnbkihkdfhjlmaa
set_option maxHeartbeats 400000

/-- The operation at a place. -/
def opA (h : List Ev) (j : Nat) : Ev := h.getD j e0
theorem opA_at {h : List Ev} {j : Nat} (hj : j < h.length) : opA h j = h[j] := getD_at hj
/-- What strict two-phase locking has: who has which lock, what was done, who was aborted, what waits. -/
structure LS where
  sh : Int → Int → Bool
  ex : Int → Int → Bool
  dn : List Ev
  ab : List Int
  q : Int → List Nat
def LS.init : LS := ⟨fun _ _ => false, fun _ _ => false, [], [], fun _ => []⟩
/-- Does x hinder the operation? -/
def hind (st : LS) (o : Ev) (x : Int) : Bool := decide (x ≠ o.t) && ((decide (o.k < 2) && st.ex x o.i) || (decide (o.k = 1) && st.sh x o.i))
def hit (st : LS) (o : Ev) : Bool := six.any (hind st o)
def upq (q : Int → List Nat) (t : Int) (l : List Nat) : Int → List Nat := fun u => if u = t then l else q u
def relL (f : Int → Int → Bool) (t : Int) : Int → Int → Bool := fun x i => decide (x ≠ t) && f x i
def getL (f : Int → Int → Bool) (t i : Int) : Int → Int → Bool := fun x j => f x j || (decide (x = t) && decide (j = i))
/-- An operation is done. -/
def doL (st : LS) (o : Ev) : LS :=
  { st with dn := st.dn ++ [o],
            sh := if o.k = 0 then getL st.sh o.t o.i else if o.k = 1 then st.sh else relL st.sh o.t,
            ex := if o.k = 1 then getL st.ex o.t o.i else if o.k = 0 then st.ex else relL st.ex o.t }
def setq (st : LS) (t : Int) (l : List Nat) : LS := { st with q := upq st.q t l }
def abortL (st : LS) (t : Int) : LS := doL { setq st t [] with ab := st.ab ++ [t] } ⟨t, 3, 0⟩
/-- x waits for y. -/
def stepL (h : List Ev) (st : LS) (x y : Int) : Prop := ∃ j r, st.q x = j :: r ∧ hind st (opA h j) y = true
inductive Rch (R : Int → Int → Prop) (t : Int) : Int → Prop where
  | one {y : Int} : R t y → Rch R t y
  | more {x y : Int} : Rch R t x → R x y → Rch R t y
def caught (h : List Ev) (st : LS) (t : Int) : Prop := Rch (stepL h st) t t
open Classical in
/-- A transaction goes on with what it holds back. -/
noncomputable def goP (h : List Ev) (t : Int) : Nat → LS → LS
  | 0, st => st
  | n + 1, st =>
    match st.q t with
    | [] => st
    | j :: r => if hit st (opA h j) then (if caught h st t then abortL st t else st) else goP h t n (doL (setq st t r) (opA h j))
/-- Who goes on next. -/
def nextJ (h : List Ev) (st : LS) (j : Nat) : Bool := decide ((st.q (opA h j).t).head? = some j) && !hit st (opA h j)
def nextP (h : List Ev) (st : LS) : Option Int := ((List.range h.length).find? (nextJ h st)).map fun j => (opA h j).t
noncomputable def retryP (h : List Ev) : Nat → LS → LS
  | 0, st => st
  | n + 1, st =>
    match nextP h st with
    | none => st
    | some t => retryP h n (goP h t (st.q t).length st)
def total (st : LS) : Nat := (six.map fun t => (st.q t).length).sum
noncomputable def lockA (h : List Ev) (st : LS) (i : Nat) : LS :=
  if st.q (opA h i).t = [] then goP h (opA h i).t 1 (setq st (opA h i).t [i]) else setq st (opA h i).t (st.q (opA h i).t ++ [i])
noncomputable def lockStep (h : List Ev) (st : LS) (i : Nat) : LS :=
  if (opA h i).t ∈ st.ab then st else retryP h (total (lockA h st i)) (lockA h st i)
noncomputable def lockN (h : List Ev) : Nat → LS
  | 0 => LS.init
  | n + 1 => lockStep h (lockN h n) n
noncomputable def lockP (h : List Ev) : LS := lockN h h.length

/-! ### the queues -/
theorem upq_same (q : Int → List Nat) (t : Int) (l : List Nat) : upq q t l t = l := by unfold upq; rw [if_pos rfl]
theorem upq_other {q : Int → List Nat} {t u : Int} {l : List Nat} (h : u ≠ t) : upq q t l u = q u := by unfold upq; rw [if_neg h]
theorem doL_q (st : LS) (o : Ev) : (doL st o).q = st.q := rfl
theorem setq_q (st : LS) (t : Int) (l : List Nat) : (setq st t l).q = upq st.q t l := rfl
theorem abortL_q (st : LS) (t : Int) : (abortL st t).q = upq st.q t [] := rfl
/-- What holds of the queues and locks throughout. -/
structure Gd (h : List Ev) (st : LS) : Prop where
  q : ∀ t, ∀ j ∈ st.q t, j < h.length ∧ (opA h j).t = t
  srt : ∀ t, (st.q t).Pairwise (· < ·)
  sh : ∀ x i, st.sh x i = true → 1 ≤ x ∧ x ≤ 6
  ex : ∀ x i, st.ex x i = true → 1 ≤ x ∧ x ≤ 6
  one : ∀ x y i, st.ex x i = true → st.ex y i = true → x = y
theorem Gd.init (h : List Ev) : Gd h LS.init := ⟨by simp [LS.init], by simp [LS.init], by simp [LS.init], by simp [LS.init], by simp [LS.init]⟩
theorem hit_mem {h : List Ev} {st : LS} (g : Gd h st) {o : Ev} {x : Int} (hx : hind st o x = true) : hit st o = true := by
  unfold hit
  refine List.any_eq_true.2 ⟨x, mem_six.2 ?_, hx⟩
  unfold hind at hx
  simp only [Bool.and_eq_true, Bool.or_eq_true, decide_eq_true_eq] at hx
  rcases hx.2 with h1 | h1
  · exact g.ex _ _ h1.2
  · exact g.sh _ _ h1.2
theorem Gd.setq {h : List Ev} {st : LS} (g : Gd h st) (t : Int) {l : List Nat} (h1 : ∀ j ∈ l, j < h.length ∧ (opA h j).t = t) (h2 : l.Pairwise (· < ·)) : Gd h (setq st t l) := by
  refine ⟨fun u j hj => ?_, fun u => ?_, g.sh, g.ex, g.one⟩
  · rw [setq_q] at hj
    by_cases e : u = t
    · subst e; rw [upq_same] at hj; exact h1 j hj
    · rw [upq_other e] at hj; exact g.q u j hj
  · rw [setq_q]
    by_cases e : u = t
    · subst e; rw [upq_same]; exact h2
    · rw [upq_other e]; exact g.srt u
theorem Gd.doL {h : List Ev} {st : LS} (g : Gd h st) {o : Ev} (ho : okOp o) (hh : hit st o = false) : Gd h (doL st o) := by
  unfold okOp at ho
  refine ⟨g.q, g.srt, fun x i hx => ?_, fun x i hx => ?_, fun x y i hx hy => ?_⟩
  · unfold Go.Proofs.Ytnbkihkdfhjlmaa.doL at hx
    simp only at hx
    split at hx
    · unfold getL at hx
      simp only [Bool.or_eq_true, Bool.and_eq_true, decide_eq_true_eq] at hx
      rcases hx with hx | hx
      · exact g.sh _ _ hx
      · omega
    · split at hx
      · exact g.sh _ _ hx
      · unfold relL at hx; simp only [Bool.and_eq_true] at hx; exact g.sh _ _ hx.2
  · unfold Go.Proofs.Ytnbkihkdfhjlmaa.doL at hx
    simp only at hx
    split at hx
    · unfold getL at hx
      simp only [Bool.or_eq_true, Bool.and_eq_true, decide_eq_true_eq] at hx
      rcases hx with hx | hx
      · exact g.ex _ _ hx
      · omega
    · split at hx
      · exact g.ex _ _ hx
      · unfold relL at hx; simp only [Bool.and_eq_true] at hx; exact g.ex _ _ hx.2
  · unfold Go.Proofs.Ytnbkihkdfhjlmaa.doL at hx hy
    simp only at hx hy
    split at hx
    · rename_i hk
      rw [if_pos hk] at hy
      unfold getL at hx hy
      simp only [Bool.or_eq_true, Bool.and_eq_true, decide_eq_true_eq] at hx hy
      have hno : ∀ z, st.ex z o.i = true → z = o.t := fun z hz => by
        by_cases e : z = o.t
        · exact e
        · have : hind st o z = true := by unfold hind; simp [e, hz]; left; omega
          rw [hit_mem g this] at hh; cases hh
      rcases hx with hx | ⟨hx, hi⟩ <;> rcases hy with hy | ⟨hy, hi'⟩
      · exact g.one _ _ _ hx hy
      · subst hi'; rw [hy, hno _ hx]
      · subst hi; rw [hx, hno _ hy]
      · rw [hx, hy]
    · rename_i hk
      rw [if_neg hk] at hy
      split at hx
      · rename_i hk2; rw [if_pos hk2] at hy; exact g.one _ _ _ hx hy
      · rename_i hk2; rw [if_neg hk2] at hy
        unfold relL at hx hy
        simp only [Bool.and_eq_true] at hx hy
        exact g.one _ _ _ hx.2 hy.2
theorem hit_abort (st : LS) (t : Int) : hit st ⟨t, 3, 0⟩ = false := by
  unfold hit
  rw [List.any_eq_false]
  intro x _
  unfold hind; simp
theorem Gd.abortL {h : List Ev} {st : LS} (g : Gd h st) {t : Int} (h1 : 1 ≤ t) (h6 : t ≤ 6) : Gd h (abortL st t) := by
  have g1 : Gd h (Go.Proofs.Ytnbkihkdfhjlmaa.setq st t []) := Gd.setq g t (fun _ h => by cases h) List.Pairwise.nil
  have g2 : Gd h { Go.Proofs.Ytnbkihkdfhjlmaa.setq st t [] with ab := st.ab ++ [t] } := ⟨g1.q, g1.srt, g1.sh, g1.ex, g1.one⟩
  exact g2.doL (by unfold okOp; simp; omega) (hit_abort _ _)

/-! ### going on -/
open Classical in
theorem goP_succ {h : List Ev} {t : Int} {n : Nat} {st : LS} {j : Nat} {r : List Nat} (hq : st.q t = j :: r) :
    goP h t (n + 1) st = if hit st (opA h j) then (if caught h st t then abortL st t else st) else goP h t n (doL (setq st t r) (opA h j)) := by
  rw [goP, hq]
theorem hit_setq (st : LS) (t : Int) (l : List Nat) (o : Ev) : hit (setq st t l) o = hit st o := rfl
theorem goP_nil {h : List Ev} {t : Int} {st : LS} (hq : st.q t = []) : ∀ n, goP h t n st = st
  | 0 => rfl
  | n + 1 => by rw [goP, hq]
/-- A history's operations are operations. -/
def OkH (h : List Ev) : Prop := ∀ o ∈ h, okOp o
theorem OkH.at {h : List Ev} (ho : OkH h) {j : Nat} (hj : j < h.length) : okOp (opA h j) := by rw [opA_at hj]; exact ho _ (List.getElem_mem hj)
theorem Gd.range {h : List Ev} {st : LS} (g : Gd h st) (ho : OkH h) {t : Int} {j : Nat} {r : List Nat} (hq : st.q t = j :: r) : 1 ≤ t ∧ t ≤ 6 := by
  obtain ⟨hj, ht⟩ := g.q t j (by rw [hq]; simp)
  have := ho.at hj
  unfold okOp at this
  omega
theorem Gd.next {h : List Ev} {st : LS} (g : Gd h st) (ho : OkH h) {t : Int} {j : Nat} {r : List Nat} (hq : st.q t = j :: r) (hh : hit st (opA h j) = false) : Gd h (Go.Proofs.Ytnbkihkdfhjlmaa.doL (Go.Proofs.Ytnbkihkdfhjlmaa.setq st t r) (opA h j)) := by
  have hs := g.srt t
  rw [hq] at hs
  have hr : ∀ k ∈ r, k < h.length ∧ (opA h k).t = t := fun k hk => g.q t k (by rw [hq]; simp [hk])
  refine (Gd.setq g t hr (List.pairwise_cons.1 hs).2).doL (ho.at (g.q t j (by rw [hq]; simp)).1) hh
theorem goP_gd {h : List Ev} (ho : OkH h) {t : Int} : ∀ (n : Nat) {st : LS}, Gd h st → Gd h (goP h t n st)
  | 0, _, g => g
  | n + 1, st, g => by
    cases hq : st.q t with
    | nil => rw [goP_nil hq]; exact g
    | cons j r =>
      rw [goP_succ hq]
      split
      · split
        · have := g.range ho hq; exact g.abortL this.1 this.2
        · exact g
      · rename_i hh
        exact goP_gd ho n (g.next ho hq (by simpa using hh))
/-- The others' queues stay; its own is used up, or its head is hindered; or it was aborted. -/
theorem goP_other {h : List Ev} {t u : Int} (hu : u ≠ t) : ∀ (n : Nat) {st : LS}, (goP h t n st).q u = st.q u
  | 0, _ => rfl
  | n + 1, st => by
    cases hq : st.q t with
    | nil => rw [goP_nil hq]
    | cons j r =>
      rw [goP_succ hq]
      split
      · split
        · rw [abortL_q, upq_other hu]
        · rfl
      · rw [goP_other hu n, doL_q, setq_q, upq_other hu]
theorem goP_own {h : List Ev} {t : Int} : ∀ (n : Nat) {st : LS}, (st.q t).length ≤ n → (goP h t n st).q t = [] ∨ ∃ j r, (goP h t n st).q t = j :: r ∧ hit (goP h t n st) (opA h j) = true
  | 0, st, hl => .inl (by have : st.q t = [] := List.eq_nil_of_length_eq_zero (by omega)
                          rw [goP_nil this]; exact this)
  | n + 1, st, hl => by
    cases hq : st.q t with
    | nil => rw [goP_nil hq]; exact .inl hq
    | cons j r =>
      rw [goP_succ hq]
      split
      · rename_i hh
        split
        · exact .inl (by rw [abortL_q, upq_same])
        · exact .inr ⟨j, r, hq, hh⟩
      · refine goP_own n ?_
        rw [doL_q, setq_q, upq_same]
        rw [hq] at hl; simpa using hl
theorem goP_len {h : List Ev} {t : Int} : ∀ (n : Nat) {st : LS}, ((goP h t n st).q t).length ≤ (st.q t).length
  | 0, _ => Nat.le_refl _
  | n + 1, st => by
    cases hq : st.q t with
    | nil => rw [goP_nil hq, hq]; exact Nat.le_refl _
    | cons j r =>
      rw [goP_succ hq]
      split
      · split
        · rw [abortL_q, upq_same]; simp
        · rw [hq]; exact Nat.le_refl _
      · have := goP_len (h := h) (t := t) n (st := doL (setq st t r) (opA h j))
        rw [doL_q, setq_q, upq_same] at this
        simp; omega
theorem goP_lt {h : List Ev} {t : Int} {n : Nat} {st : LS} {j : Nat} {r : List Nat} (hq : st.q t = j :: r) (hh : hit st (opA h j) = false) : ((goP h t (n + 1) st).q t).length < (st.q t).length := by
  rw [goP_succ hq, if_neg (by simp [hh])]
  have := goP_len (h := h) (t := t) n (st := doL (setq st t r) (opA h j))
  rw [doL_q, setq_q, upq_same] at this
  rw [hq]; simp; omega

/-! ### who goes on next -/
def quiet (h : List Ev) (st : LS) : Prop := ∀ t j r, st.q t = j :: r → hit st (opA h j) = true
theorem nextP_none {h : List Ev} {st : LS} (g : Gd h st) : nextP h st = none ↔ quiet h st := by
  unfold nextP
  rw [Option.map_eq_none_iff, List.find?_eq_none]
  constructor
  · intro hn t j r hq
    obtain ⟨hj, ht⟩ := g.q t j (by rw [hq]; simp)
    have := hn j (by simpa using hj)
    unfold nextJ at this
    rw [ht, hq] at this
    simpa using this
  · intro hq j hj
    unfold nextJ
    cases hh : st.q (opA h j).t with
    | nil => simp
    | cons k r =>
      by_cases e : k = j
      · subst e
        have := hq _ _ _ hh
        simp at this ⊢
        rw [this]
      · simp [e]
theorem nextP_some {h : List Ev} {st : LS} {t : Int} (hn : nextP h st = some t) : ∃ j r, j < h.length ∧ (opA h j).t = t ∧ st.q t = j :: r ∧ hit st (opA h j) = false ∧ ∀ k < j, nextJ h st k = false := by
  unfold nextP at hn
  obtain ⟨j, hj, ht⟩ := Option.map_eq_some_iff.1 hn
  obtain ⟨h1, h2, h3, h4⟩ := List.find?_eq_some_iff_getElem.1 hj
  have hjl : j < h.length := by
    have := List.mem_of_find?_eq_some hj
    simpa using this
  have hk : ∀ k < j, nextJ h st k = false := fun k hk => by
    have hki : k < h2 := by
      have e : (List.range h.length)[h2] = j := h4.1
      rw [List.getElem_range] at e
      omega
    have := h4.2 k hki
    rw [List.getElem_range] at this
    simpa using this
  unfold nextJ at h1
  simp only [Bool.and_eq_true, decide_eq_true_eq, Bool.not_eq_true'] at h1
  rw [ht] at h1
  cases hq : st.q t with
  | nil => rw [hq] at h1; simp at h1
  | cons a r =>
    rw [hq] at h1
    simp only [List.head?_cons, Option.some.injEq] at h1
    obtain ⟨rfl, h1⟩ := h1
    exact ⟨a, r, hjl, ht, rfl, h1, hk⟩
theorem sum_lt {f g : Int → Nat} {t : Int} : ∀ {l : List Int}, t ∈ l → f t < g t → (∀ u, u ≠ t → f u = g u) → (l.map f).sum < (l.map g).sum
  | [], h, _, _ => by cases h
  | a :: r, h, hlt, he => by
    have hle : ∀ r : List Int, (r.map f).sum ≤ (r.map g).sum := fun r => by
      induction r with
      | nil => simp
      | cons b r ih =>
        simp only [List.map_cons, List.sum_cons]
        by_cases e : b = t
        · subst e; omega
        · rw [he b e]; omega
    simp only [List.map_cons, List.sum_cons]
    have := hle r
    by_cases e : a = t
    · subst e; omega
    · rw [he a e]
      rcases List.mem_cons.1 h with rfl | h
      · exact absurd rfl e
      · have := sum_lt h hlt he; omega
theorem next_total {h : List Ev} (ho : OkH h) {st : LS} (g : Gd h st) {t : Int} (hn : nextP h st = some t) : total (goP h t (st.q t).length st) < total st := by
  obtain ⟨j, r, _, _, hq, hh, _⟩ := nextP_some hn
  unfold total
  refine sum_lt (mem_six.2 (g.range ho hq)) ?_ fun u hu => by rw [goP_other hu]
  have hlen : (st.q t).length = r.length + 1 := by rw [hq]; rfl
  rw [hlen]
  have := goP_lt (n := r.length) hq hh
  omega
theorem retry_gd {h : List Ev} (ho : OkH h) : ∀ (n : Nat) {st : LS}, Gd h st → Gd h (retryP h n st)
  | 0, _, g => g
  | n + 1, st, g => by
    rw [retryP]
    cases hn : nextP h st with
    | none => exact g
    | some t => exact retry_gd ho n (goP_gd ho _ g)
theorem retry_quiet {h : List Ev} (ho : OkH h) : ∀ (n : Nat) {st : LS}, Gd h st → total st ≤ n → quiet h (retryP h n st)
  | 0, st, g, hl => by
    rw [retryP, ← nextP_none g]
    cases hn : nextP h st with
    | none => rfl
    | some t => have := next_total ho g hn; omega
  | n + 1, st, g, hl => by
    rw [retryP]
    cases hn : nextP h st with
    | none => exact (nextP_none g).1 hn
    | some t => exact retry_quiet ho n (goP_gd ho _ g) (by have := next_total ho g hn; omega)
theorem retry_same {h : List Ev} {st : LS} (g : Gd h st) (hq : quiet h st) : ∀ n, retryP h n st = st
  | 0 => rfl
  | n + 1 => by rw [retryP, (nextP_none g).2 hq]
/-- Enough rounds are enough. -/
theorem retry_more {h : List Ev} (ho : OkH h) : ∀ (n m : Nat) {st : LS}, Gd h st → total st ≤ n → n ≤ m → retryP h m st = retryP h n st
  | 0, m, st, g, hl, _ => by
    have := retry_quiet ho 0 g hl
    rw [retryP] at this
    rw [retry_same g this, retryP]
  | n + 1, 0, _, _, _, hm => by omega
  | n + 1, m + 1, st, g, hl, hm => by
    rw [retryP, retryP]
    cases hn : nextP h st with
    | none => rfl
    | some t => exact retry_more ho n m (goP_gd ho _ g) (by have := next_total ho g hn; omega) (by omega)
/-- One round more. -/
theorem retry_step {h : List Ev} (ho : OkH h) {st : LS} (g : Gd h st) {t : Int} (hn : nextP h st = some t) : retryP h (total st) st = retryP h (total (goP h t (st.q t).length st)) (goP h t (st.q t).length st) := by
  have hlt := next_total ho g hn
  obtain ⟨m, hm⟩ : ∃ m, total st = m + 1 := ⟨total st - 1, by omega⟩
  rw [hm, retryP, hn]
  exact retry_more ho _ m (goP_gd ho _ g) (Nat.le_refl _) (by omega)
/-- Locks that only grew. -/
def Grew (st st' : LS) : Prop := (∀ x i, st.sh x i = true → st'.sh x i = true) ∧ ∀ x i, st.ex x i = true → st'.ex x i = true
theorem Grew.refl (st : LS) : Grew st st := ⟨fun _ _ h => h, fun _ _ h => h⟩
theorem Grew.trans {a b c : LS} (h : Grew a b) (k : Grew b c) : Grew a c := ⟨fun x i h1 => k.1 x i (h.1 x i h1), fun x i h1 => k.2 x i (h.2 x i h1)⟩
theorem Grew.doL {st : LS} {o : Ev} (hk : o.k ≤ 1) (h0 : 0 ≤ o.k) (t : Int) (l : List Nat) : Grew st (Go.Proofs.Ytnbkihkdfhjlmaa.doL (setq st t l) o) := by
  have : o.k = 0 ∨ o.k = 1 := by omega
  unfold Go.Proofs.Ytnbkihkdfhjlmaa.doL
  rcases this with e | e <;> simp only [e] <;> constructor <;> intro x i hx
  · simp only [if_true]; unfold getL; simp [setq, hx]
  · simpa [setq] using hx
  · simpa [setq] using hx
  · simp only [if_true]; unfold getL; simp [setq, hx]
theorem Grew.hind {st st' : LS} (g : Grew st st') {o : Ev} {x : Int} (h : hind st o x = true) : hind st' o x = true := by
  unfold Go.Proofs.Ytnbkihkdfhjlmaa.hind at h ⊢
  simp only [Bool.and_eq_true, Bool.or_eq_true, decide_eq_true_eq] at h ⊢
  refine ⟨h.1, ?_⟩
  rcases h.2 with ⟨a, b⟩ | ⟨a, b⟩
  · exact .inl ⟨a, g.2 _ _ b⟩
  · exact .inr ⟨a, g.1 _ _ b⟩
theorem Grew.hit {st st' : LS} (g : Grew st st') {o : Ev} (h : hit st o = true) : hit st' o = true := by
  unfold Go.Proofs.Ytnbkihkdfhjlmaa.hit at h ⊢
  obtain ⟨x, hx, h1⟩ := List.any_eq_true.1 h
  exact List.any_eq_true.2 ⟨x, hx, g.hind h1⟩
/-- If nothing was released nobody else can go on. -/
theorem quiet_goP {h : List Ev} {st : LS} {t : Int} (hq : ∀ u, u ≠ t → ∀ j r, st.q u = j :: r → hit st (opA h j) = true) {n : Nat} (hl : (st.q t).length ≤ n) (g : Grew st (goP h t n st)) : quiet h (goP h t n st) := by
  intro u j r hu
  by_cases e : u = t
  · subst e
    rcases goP_own (h := h) n hl with h1 | ⟨j', r', h1, h2⟩
    · rw [h1] at hu; cases hu
    · rw [h1] at hu; cases hu; exact h2
  · rw [goP_other e] at hu
    exact g.hit (hq u e j r hu)
end Go.Proofs.Ytnbkihkdfhjlmaa
