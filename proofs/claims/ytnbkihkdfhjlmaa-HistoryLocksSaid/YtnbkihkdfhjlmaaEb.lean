/-
  Plain laws of strict two-phase locks: what was done is a history in which nothing was hindered, and goes through again unchanged.
-/
import Derived.Test.YtnbkihkdfhjlmaaEa
namespace Go.Proofs.Ytnbkihkdfhjlmaa
set_option maxHeartbeats 400000

/-- The locks behind operations that were done. -/
def lks (l : List Ev) : LS := l.foldl doL LS.init
theorem lks_snoc (l : List Ev) (o : Ev) : lks (l ++ [o]) = doL (lks l) o := by unfold lks; rw [List.foldl_append]; rfl
theorem lks_dn (l : List Ev) : (lks l).dn = l := by
  have : ∀ (l : List Ev) (st : LS), (l.foldl doL st).dn = st.dn ++ l := by
    intro l
    induction l with
    | nil => intro st; simp
    | cons o r ih => intro st; rw [List.foldl_cons, ih]; simp [doL]
  unfold lks; rw [this]; simp [LS.init]
theorem lks_q (l : List Ev) : (lks l).q = fun _ => [] := by
  have : ∀ (l : List Ev) (st : LS), (l.foldl doL st).q = st.q := by
    intro l
    induction l with
    | nil => intro st; rfl
    | cons o r ih => intro st; rw [List.foldl_cons, ih]; rfl
  unfold lks; rw [this]; rfl
theorem lks_ab (l : List Ev) : (lks l).ab = [] := by
  have : ∀ (l : List Ev) (st : LS), (l.foldl doL st).ab = st.ab := by
    intro l
    induction l with
    | nil => intro st; rfl
    | cons o r ih => intro st; rw [List.foldl_cons, ih]; rfl
  unfold lks; rw [this]; rfl
/-- No operation was hindered when it was done. -/
def Clean (l : List Ev) : Prop := ∀ i, ∀ hi : i < l.length, hit (lks (l.take i)) l[i] = false
theorem clean_nil : Clean [] := fun i hi => by simp at hi
theorem clean_snoc {l : List Ev} {o : Ev} (hc : Clean l) (ho : hit (lks l) o = false) : Clean (l ++ [o]) := by
  intro i hi
  rcases Nat.lt_or_ge i l.length with h | h
  · rw [List.take_append_of_le_length (by omega), List.getElem_append_left h]; exact hc i h
  · have : i = l.length := by simp at hi; omega
    subst this
    simpa using ho
theorem hit_congr {a b : LS} (h1 : a.sh = b.sh) (h2 : a.ex = b.ex) (o : Ev) : hit a o = hit b o := by
  unfold hit hind; rw [h1, h2]
/-- The locks are those of what was done. -/
structure Dn (st : LS) : Prop where
  sh : st.sh = (lks st.dn).sh
  ex : st.ex = (lks st.dn).ex
  clean : Clean st.dn
theorem Dn.init : Dn LS.init := ⟨rfl, rfl, clean_nil⟩
theorem Dn.doL {st : LS} (d : Dn st) {o : Ev} (hh : hit st o = false) : Dn (Go.Proofs.Ytnbkihkdfhjlmaa.doL st o) := by
  have e : (Go.Proofs.Ytnbkihkdfhjlmaa.doL st o).dn = st.dn ++ [o] := rfl
  refine ⟨?_, ?_, ?_⟩
  · rw [e, lks_snoc]; unfold Go.Proofs.Ytnbkihkdfhjlmaa.doL; simp only; rw [d.sh]
  · rw [e, lks_snoc]; unfold Go.Proofs.Ytnbkihkdfhjlmaa.doL; simp only; rw [d.ex]
  · rw [e]; exact clean_snoc d.clean (by rw [← hit_congr d.sh d.ex]; exact hh)
theorem Dn.setq {st : LS} (d : Dn st) (t : Int) (l : List Nat) : Dn (Go.Proofs.Ytnbkihkdfhjlmaa.setq st t l) := ⟨d.sh, d.ex, d.clean⟩
theorem Dn.abortL {st : LS} (d : Dn st) (t : Int) : Dn (Go.Proofs.Ytnbkihkdfhjlmaa.abortL st t) := by
  have d2 : Dn { Go.Proofs.Ytnbkihkdfhjlmaa.setq st t [] with ab := st.ab ++ [t] } := ⟨d.sh, d.ex, d.clean⟩
  exact d2.doL (hit_abort _ _)

/-! ### transaction by transaction -/
def ofT (t : Int) (o : Ev) : Bool := decide (o.t = t)
def opsT (h : List Ev) (i : Nat) (t : Int) : List Ev := (h.take i).filter (ofT t)
/-- What becomes of a transaction's operations. -/
def TI (h : List Ev) (i : Nat) (st : LS) (t : Int) : Prop :=
  (t ∉ st.ab ∧ st.dn.filter (ofT t) ++ (st.q t).map (opA h) = opsT h i t) ∨
  (t ∈ st.ab ∧ st.q t = [] ∧ ∃ p o r, st.dn.filter (ofT t) = p ++ [⟨t, 3, 0⟩] ∧ opsT h i t = p ++ o :: r)
structure LI (h : List Ev) (i : Nat) (st : LS) : Prop where
  gd : Gd h st
  dn : Dn st
  ti : ∀ t, TI h i st t
  nd : st.ab.Nodup
  rg : ∀ t ∈ st.ab, 1 ≤ t ∧ t ≤ 6
theorem LI.init (h : List Ev) : LI h 0 LS.init := ⟨Gd.init h, Dn.init, fun t => .inl ⟨by simp [LS.init], by simp [LS.init, opsT]⟩, by simp [LS.init], by simp [LS.init]⟩
theorem LI.next {h : List Ev} (ho : OkH h) {i : Nat} {st : LS} (v : LI h i st) {t : Int} {j : Nat} {r : List Nat} (hq : st.q t = j :: r) (hh : hit st (opA h j) = false) : LI h i (doL (setq st t r) (opA h j)) := by
  have ht := (v.gd.q t j (by rw [hq]; simp)).2
  refine ⟨v.gd.next ho hq hh, (v.dn.setq t r).doL hh, fun u => ?_, v.nd, v.rg⟩
  have edn : (doL (setq st t r) (opA h j)).dn = st.dn ++ [opA h j] := rfl
  have eq' : (doL (setq st t r) (opA h j)).q = upq st.q t r := rfl
  have eab : (doL (setq st t r) (opA h j)).ab = st.ab := rfl
  unfold TI
  rw [edn, eq', eab]
  by_cases e : u = t
  · subst e
    rcases v.ti u with ⟨h1, h2⟩ | ⟨_, h2, _⟩
    · refine .inl ⟨h1, ?_⟩
      rw [upq_same, ← h2, hq, List.filter_append, List.map_cons, List.filter_cons, if_pos (by simp [ofT, ht])]
      simp
    · rw [hq] at h2; cases h2
  · have hf : (st.dn ++ [opA h j]).filter (ofT u) = st.dn.filter (ofT u) := by
      rw [List.filter_append, List.filter_cons, if_neg (by unfold ofT; rw [ht]; simpa using fun h => e h.symm)]; simp
    rw [hf, upq_other e]
    exact v.ti u
theorem LI.abortL {h : List Ev} (ho : OkH h) {i : Nat} {st : LS} (v : LI h i st) {t : Int} {j : Nat} {r : List Nat} (hq : st.q t = j :: r) : LI h i (Go.Proofs.Ytnbkihkdfhjlmaa.abortL st t) := by
  have hrg := v.gd.range ho hq
  have edn : (Go.Proofs.Ytnbkihkdfhjlmaa.abortL st t).dn = st.dn ++ [⟨t, 3, 0⟩] := rfl
  have eq' : (Go.Proofs.Ytnbkihkdfhjlmaa.abortL st t).q = upq st.q t [] := rfl
  have eab : (Go.Proofs.Ytnbkihkdfhjlmaa.abortL st t).ab = st.ab ++ [t] := rfl
  have hnot : t ∉ st.ab := fun hm => by
    rcases v.ti t with ⟨h1, _⟩ | ⟨_, h2, _⟩
    · exact h1 hm
    · rw [hq] at h2; cases h2
  refine ⟨v.gd.abortL hrg.1 hrg.2, v.dn.abortL t, fun u => ?_, ?_, ?_⟩
  · unfold TI
    rw [edn, eq', eab]
    by_cases e : u = t
    · subst e
      rcases v.ti u with ⟨h1, h2⟩ | ⟨_, h2, _⟩
      · refine .inr ⟨by simp, upq_same .., st.dn.filter (ofT u), opA h j, r.map (opA h), ?_, ?_⟩
        · rw [List.filter_append, List.filter_cons, if_pos (by simp [ofT])]; rfl
        · rw [← h2, hq]; rfl
      · rw [hq] at h2; cases h2
    · have hf : (st.dn ++ [(⟨t, 3, 0⟩ : Ev)]).filter (ofT u) = st.dn.filter (ofT u) := by
        rw [List.filter_append, List.filter_cons, if_neg (by unfold ofT; simpa using fun h => e h.symm)]; simp
      rw [hf, upq_other e]
      rcases v.ti u with ⟨h1, h2⟩ | ⟨h1, h2⟩
      · exact .inl ⟨by simp [h1, e], h2⟩
      · exact .inr ⟨by simp [h1], h2⟩
  · rw [eab, List.nodup_append]
    exact ⟨v.nd, by simp, by intro a ha b hb e; simp at hb; subst hb; subst e; exact hnot ha⟩
  · rw [eab]
    intro u hu
    rcases List.mem_append.1 hu with hu | hu
    · exact v.rg u hu
    · simp at hu; subst hu; exact hrg
theorem LI.goP {h : List Ev} (ho : OkH h) {i : Nat} {t : Int} : ∀ (n : Nat) {st : LS}, LI h i st → LI h i (Go.Proofs.Ytnbkihkdfhjlmaa.goP h t n st)
  | 0, _, v => v
  | n + 1, st, v => by
    cases hq : st.q t with
    | nil => rw [goP_nil hq]; exact v
    | cons j r =>
      rw [goP_succ hq]
      split
      · split
        · exact v.abortL ho hq
        · exact v
      · rename_i hh
        exact LI.goP ho n (v.next ho hq (by simpa using hh))
theorem LI.retry {h : List Ev} (ho : OkH h) {i : Nat} : ∀ (n : Nat) {st : LS}, LI h i st → LI h i (retryP h n st)
  | 0, _, v => v
  | n + 1, st, v => by
    rw [retryP]
    cases nextP h st with
    | none => exact v
    | some t => exact LI.retry ho n (LI.goP ho _ v)
theorem opsT_same {h : List Ev} {i : Nat} (hi : i < h.length) : opsT h (i + 1) (opA h i).t = opsT h i (opA h i).t ++ [opA h i] := by
  unfold opsT
  rw [List.take_succ_eq_append_getElem hi, List.filter_append, List.filter_cons, if_pos (by rw [opA_at hi]; simp [ofT]), opA_at hi]; rfl
theorem opsT_other {h : List Ev} {i : Nat} (hi : i < h.length) {t : Int} (ht : t ≠ (opA h i).t) : opsT h (i + 1) t = opsT h i t := by
  unfold opsT
  rw [opA_at hi] at ht
  rw [List.take_succ_eq_append_getElem hi, List.filter_append, List.filter_cons, if_neg (by unfold ofT; simpa using fun h => ht h.symm)]; simp
theorem LI.add {h : List Ev} {i : Nat} (hi : i < h.length) {st : LS} (v : LI h i st) (hlt : ∀ t, ∀ j ∈ st.q t, j < i) (hn : (opA h i).t ∉ st.ab) : LI h (i + 1) (setq st (opA h i).t (st.q (opA h i).t ++ [i])) := by
  refine ⟨Gd.setq v.gd _ (fun j hj => ?_) ?_, v.dn.setq _ _, fun u => ?_, v.nd, v.rg⟩
  · rcases List.mem_append.1 hj with hj | hj
    · exact v.gd.q _ j hj
    · simp at hj; subst hj; exact ⟨hi, rfl⟩
  · rw [List.pairwise_append]
    exact ⟨v.gd.srt _, by simp, fun a ha b hb => by simp at hb; subst hb; exact hlt _ a ha⟩
  · show (u ∉ st.ab ∧ st.dn.filter (ofT u) ++ (upq st.q (opA h i).t (st.q (opA h i).t ++ [i]) u).map (opA h) = opsT h (i + 1) u) ∨
      (u ∈ st.ab ∧ upq st.q (opA h i).t (st.q (opA h i).t ++ [i]) u = [] ∧ ∃ p o r, st.dn.filter (ofT u) = p ++ [⟨u, 3, 0⟩] ∧ opsT h (i + 1) u = p ++ o :: r)
    by_cases e : u = (opA h i).t
    · subst e
      rcases v.ti (opA h i).t with ⟨h1, h2⟩ | ⟨h1, _⟩
      · refine .inl ⟨hn, ?_⟩
        rw [upq_same, opsT_same hi, ← h2]; simp
      · exact absurd h1 hn
    · rw [upq_other e, opsT_other hi e]
      exact v.ti u
theorem LI.skip {h : List Ev} {i : Nat} (hi : i < h.length) {st : LS} (v : LI h i st) (hn : (opA h i).t ∈ st.ab) : LI h (i + 1) st := by
  refine ⟨v.gd, v.dn, fun u => ?_, v.nd, v.rg⟩
  by_cases e : u = (opA h i).t
  · subst e
    rcases v.ti (opA h i).t with ⟨h1, _⟩ | ⟨h1, h2, p, o, r, h3, h4⟩
    · exact absurd hn h1
    · exact .inr ⟨h1, h2, p, o, r ++ [opA h i], h3, by rw [opsT_same hi, h4]; simp⟩
  · unfold TI; rw [opsT_other hi e]; exact v.ti u
/-- Queues hold places that are past. -/
theorem goP_sub {h : List Ev} {t u : Int} : ∀ (n : Nat) {st : LS}, ∀ j ∈ (goP h t n st).q u, j ∈ st.q u
  | 0, _ => fun _ h => h
  | n + 1, st => by
    intro j hj
    by_cases e : u = t
    · subst e
      cases hq : st.q u with
      | nil => rw [goP_nil hq, hq] at hj; exact hj
      | cons k r =>
        rw [goP_succ hq] at hj
        split at hj
        · split at hj
          · rw [abortL_q, upq_same] at hj; cases hj
          · rw [hq] at hj; exact hj
        · have := goP_sub n j hj
          rw [doL_q, setq_q, upq_same] at this
          exact List.mem_cons_of_mem _ this
    · rw [goP_other e] at hj; exact hj
theorem retry_sub {h : List Ev} {u : Int} : ∀ (n : Nat) {st : LS}, ∀ j ∈ (retryP h n st).q u, j ∈ st.q u
  | 0, _ => fun _ h => h
  | n + 1, st => by
    intro j hj
    rw [retryP] at hj
    cases hn : nextP h st with
    | none => rw [hn] at hj; exact hj
    | some t => rw [hn] at hj; exact goP_sub _ j (retry_sub n j hj)
theorem lockA_eq {h : List Ev} {st : LS} {i : Nat} : lockA h st i = if st.q (opA h i).t = [] then goP h (opA h i).t 1 (setq st (opA h i).t (st.q (opA h i).t ++ [i])) else setq st (opA h i).t (st.q (opA h i).t ++ [i]) := by
  unfold lockA
  split
  · rename_i e; rw [e]; rfl
  · rfl
/-- All that is kept, step by step. -/
structure LJ (h : List Ev) (i : Nat) (st : LS) : Prop where
  li : LI h i st
  lt : ∀ t, ∀ j ∈ st.q t, j < i
  qt : quiet h st
theorem LI.lockA {h : List Ev} (ho : OkH h) {i : Nat} (hi : i < h.length) {st : LS} (v : LI h i st) (hlt : ∀ t, ∀ j ∈ st.q t, j < i) (hn : (opA h i).t ∉ st.ab) : LI h (i + 1) (Go.Proofs.Ytnbkihkdfhjlmaa.lockA h st i) := by
  rw [lockA_eq]
  split
  · exact LI.goP ho _ (v.add hi hlt hn)
  · exact v.add hi hlt hn
theorem lockA_lt {h : List Ev} {i : Nat} {st : LS} (hlt : ∀ t, ∀ j ∈ st.q t, j < i) : ∀ t, ∀ j ∈ (lockA h st i).q t, j < i + 1 := by
  intro t j hj
  have hadd : ∀ j ∈ (setq st (opA h i).t (st.q (opA h i).t ++ [i])).q t, j < i + 1 := fun j hj => by
    rw [setq_q] at hj
    by_cases e : t = (opA h i).t
    · subst e
      rw [upq_same] at hj
      rcases List.mem_append.1 hj with hj | hj
      · have := hlt _ _ hj; omega
      · simp at hj; omega
    · rw [upq_other e] at hj; have := hlt _ _ hj; omega
  rw [lockA_eq] at hj
  split at hj
  · exact hadd j (goP_sub _ j hj)
  · exact hadd j hj
theorem LJ.step {h : List Ev} (ho : OkH h) {i : Nat} (hi : i < h.length) {st : LS} (v : LJ h i st) : LJ h (i + 1) (lockStep h st i) := by
  unfold lockStep
  split
  · rename_i hn
    exact ⟨v.li.skip hi hn, fun t j hj => by have := v.lt t j hj; omega, v.qt⟩
  · rename_i hn
    have h1 := v.li.lockA ho hi v.lt hn
    exact ⟨LI.retry ho _ h1, fun t j hj => lockA_lt v.lt t j (retry_sub _ j hj), retry_quiet ho _ h1.gd (Nat.le_refl _)⟩
theorem lockN_lj {h : List Ev} (ho : OkH h) : ∀ n, n ≤ h.length → LJ h n (lockN h n)
  | 0, _ => ⟨LI.init h, by simp [lockN, LS.init], fun t j r hq => by simp [lockN, LS.init] at hq⟩
  | n + 1, hn => (lockN_lj ho n (by omega)).step ho (by omega)
theorem lockP_lj {h : List Ev} (ho : OkH h) : LJ h h.length (lockP h) := lockN_lj ho _ (Nat.le_refl _)

/-! ### what was done is a history -/
theorem len_six : ∀ {l : List Ev}, (∀ o ∈ l, 1 ≤ o.t ∧ o.t ≤ 6) → l.length = (six.map fun t => (l.filter (ofT t)).length).sum
  | [], _ => by simp [six]
  | o :: r, h => by
    have ih := len_six (l := r) fun p hp => h p (by simp [hp])
    have ho := h o (by simp)
    simp only [six, List.map_cons, List.map_nil, List.sum_cons, List.sum_nil] at ih ⊢
    have hc : ∀ t, ((o :: r).filter (ofT t)).length = (r.filter (ofT t)).length + if o.t = t then 1 else 0 := fun t => by
      rw [List.filter_cons]
      by_cases e : o.t = t
      · rw [if_pos (by simp [ofT, e]), if_pos e]; rfl
      · rw [if_neg (by simp [ofT, e]), if_neg e]; rfl
    rw [List.length_cons, hc, hc, hc, hc, hc, hc]
    have : o.t = 1 ∨ o.t = 2 ∨ o.t = 3 ∨ o.t = 4 ∨ o.t = 5 ∨ o.t = 6 := by omega
    rcases this with e | e | e | e | e | e <;> simp [e] <;> omega
theorem pairwise_filters : ∀ {l : List Ev}, (∀ t, (l.filter (ofT t)).Pairwise apart) → l.Pairwise apart
  | [], _ => List.Pairwise.nil
  | a :: r, h => by
    refine List.pairwise_cons.2 ⟨fun b hb => ?_, pairwise_filters fun t => ?_⟩
    · by_cases e : a.t = b.t
      · have := h a.t
        rw [List.filter_cons, if_pos (by simp [ofT])] at this
        exact (List.pairwise_cons.1 this).1 b (List.mem_filter.2 ⟨hb, by simp [ofT, e]⟩)
      · exact fun h => e h.1
    · have := h t
      rw [List.filter_cons] at this
      split at this
      · exact (List.pairwise_cons.1 this).2
      · exact this
/-- Of each transaction: the first of its operations; or some that do not end it, and an abort. -/
theorem done_of {h : List Ev} (hv : Wf h) {st : LS} (v : LI h h.length st) (t : Int) :
    (t ∉ st.ab ∧ ∃ q, st.dn.filter (ofT t) ++ q = h.filter (ofT t)) ∨
    (t ∈ st.ab ∧ ∃ p o r, st.dn.filter (ofT t) = p ++ [⟨t, 3, 0⟩] ∧ h.filter (ofT t) = p ++ o :: r ∧ ∀ x ∈ p, x.k ≤ 1) := by
  have e : opsT h h.length t = h.filter (ofT t) := by unfold opsT; rw [List.take_length]
  rcases v.ti t with ⟨h1, h2⟩ | ⟨h1, _, p, o, r, h3, h4⟩
  · rw [e] at h2; exact .inl ⟨h1, _, h2⟩
  · rw [e] at h4
    refine .inr ⟨h1, p, o, r, h3, h4, fun x hx => ?_⟩
    have hp : (h.filter (ofT t)).Pairwise apart := hv.2.filter _
    have hxm : x ∈ h.filter (ofT t) := by rw [h4]; simp [hx]
    have hom : o ∈ h.filter (ofT t) := by rw [h4]; simp
    have hxt : x.t = t := by simpa [ofT] using (List.mem_filter.1 hxm).2
    have hot : o.t = t := by simpa [ofT] using (List.mem_filter.1 hom).2
    rw [h4] at hp
    have := (List.pairwise_append.1 hp).2.2 x hx o (by simp)
    unfold apart at this
    have hk : ¬ 1 < x.k := fun hk => this ⟨by rw [hxt, hot], hk⟩
    omega
theorem done_mem {h : List Ev} (hv : Wf h) {st : LS} (v : LI h h.length st) {o : Ev} (ho : o ∈ st.dn) : o ∈ h ∨ (o.t ∈ st.ab ∧ o = ⟨o.t, 3, 0⟩) := by
  have hm : o ∈ st.dn.filter (ofT o.t) := List.mem_filter.2 ⟨ho, by simp [ofT]⟩
  rcases done_of hv v o.t with ⟨_, q, hq⟩ | ⟨hab, p, x, r, h1, h2, _⟩
  · have : o ∈ h.filter (ofT o.t) := by rw [← hq]; simp [hm]
    exact .inl (List.mem_filter.1 this).1
  · rw [h1] at hm
    rcases List.mem_append.1 hm with hm | hm
    · have : o ∈ h.filter (ofT o.t) := by rw [h2]; simp [hm]
      exact .inl (List.mem_filter.1 this).1
    · simp at hm; exact .inr ⟨hab, hm⟩
theorem done_okH {h : List Ev} (hv : Wf h) {st : LS} (v : LI h h.length st) : OkH st.dn := by
  intro o ho
  rcases done_mem hv v ho with h1 | ⟨h1, h2⟩
  · exact hv.1 o h1
  · have := v.rg _ h1
    rw [h2]; unfold okOp; simp; omega
theorem done_valid {h : List Ev} (hv : Valid h) {st : LS} (v : LI h h.length st) : Valid st.dn := by
  have hok := done_okH hv.1 v
  refine ⟨⟨hok, pairwise_filters fun t => ?_⟩, ?_⟩
  · rcases done_of hv.1 v t with ⟨_, q, hq⟩ | ⟨_, p, x, r, h1, h2, h3⟩
    · have : (h.filter (ofT t)).Pairwise apart := hv.1.2.filter _
      rw [← hq] at this
      exact (List.pairwise_append.1 this).1
    · rw [h1, List.pairwise_append]
      have : (h.filter (ofT t)).Pairwise apart := hv.1.2.filter _
      rw [h2] at this
      refine ⟨(List.pairwise_append.1 this).1, by simp, fun a ha b _ hab => ?_⟩
      have := h3 a ha
      omega
  · have h1 := len_six (l := st.dn) fun o ho => by have := hok o ho; unfold okOp at this; omega
    have h2 := len_six (l := h) fun o ho => by have := hv.1.1 o ho; unfold okOp at this; omega
    have hle : ∀ t, (st.dn.filter (ofT t)).length ≤ (h.filter (ofT t)).length := fun t => by
      rcases done_of hv.1 v t with ⟨_, q, hq⟩ | ⟨_, p, x, r, h1, h2, h3⟩
      · rw [← hq]; simp
      · rw [h1, h2]; simp
    have := hv.2
    simp only [six, List.map_cons, List.map_nil, List.sum_cons, List.sum_nil] at h1 h2
    have a1 := hle 1
    have a2 := hle 2
    have a3 := hle 3
    have a4 := hle 4
    have a5 := hle 5
    have a6 := hle 6
    omega
theorem done_abort {h : List Ev} (hv : Wf h) {st : LS} (v : LI h h.length st) {t : Int} (ht : t ∈ st.ab) : (⟨t, 3, 0⟩ : Ev) ∈ st.dn ∧ ∀ o ∈ st.dn, o.t = t → o.k ≠ 2 := by
  rcases done_of hv v t with ⟨h1, _⟩ | ⟨_, p, x, r, h1, h2, h3⟩
  · exact absurd ht h1
  · refine ⟨(List.mem_filter.1 (show (⟨t, 3, 0⟩ : Ev) ∈ st.dn.filter (ofT t) by rw [h1]; simp)).1, fun o ho hot => ?_⟩
    have : o ∈ st.dn.filter (ofT t) := List.mem_filter.2 ⟨ho, by simp [ofT, hot]⟩
    rw [h1] at this
    rcases List.mem_append.1 this with hm | hm
    · have := h3 o hm; omega
    · simp at hm; subst hm; simp

/-! ### locking what locking made -/
theorem lock_again {l : List Ev} (hc : Clean l) : ∀ n, n ≤ l.length → lockN l n = lks (l.take n)
  | 0, _ => rfl
  | n + 1, hn => by
    have hi : n < l.length := by omega
    rw [lockN, lock_again hc n (by omega), List.take_succ_eq_append_getElem hi, lks_snoc]
    have hq : (lks (l.take n)).q = fun _ => [] := lks_q _
    unfold lockStep
    rw [if_neg (by rw [lks_ab]; simp)]
    have hA : lockA l (lks (l.take n)) n = doL (lks (l.take n)) l[n] := by
      have e := lockA_eq (h := l) (st := lks (l.take n)) (i := n)
      rw [e, if_pos (by rw [hq])]
      have e2 : (setq (lks (l.take n)) (opA l n).t ((lks (l.take n)).q (opA l n).t ++ [n])).q (opA l n).t = n :: [] := by rw [setq_q, upq_same, hq]; rfl
      rw [goP_succ e2, hit_setq, opA_at hi, hc n hi]
      simp only [Bool.false_eq_true, if_false, goP]
      congr 1
      unfold setq
      simp only
      have : upq (upq (lks (l.take n)).q l[n].t ((lks (l.take n)).q l[n].t ++ [n])) l[n].t [] = (lks (l.take n)).q := by
        funext u; unfold upq
        by_cases e : u = l[n].t
        · rw [if_pos e, hq]
        · rw [if_neg e, if_neg e]
      rw [this]
    rw [hA]
    have ht : total (doL (lks (l.take n)) l[n]) = 0 := by
      unfold total
      rw [doL_q, hq]; rfl
    rw [ht, retryP]
theorem lock_twice {l : List Ev} (hc : Clean l) : (lockP l).dn = l ∧ (lockP l).ab = [] := by
  have := lock_again hc l.length (Nat.le_refl _)
  rw [List.take_length] at this
  unfold lockP
  rw [this]
  exact ⟨lks_dn l, lks_ab l⟩
end Go.Proofs.Ytnbkihkdfhjlmaa
