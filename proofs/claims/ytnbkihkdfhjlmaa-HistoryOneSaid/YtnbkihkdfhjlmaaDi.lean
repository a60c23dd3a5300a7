/-
  Plain law: Order's order is that of View or behind it.
-/
import Derived.Test.YtnbkihkdfhjlmaaDh
import Derived.Test.YtnbkihkdfhjlmaaCr
namespace Go.Proofs.Ytnbkihkdfhjlmaa
open Go Go.VC
set_option maxHeartbeats 400000

theorem viewL_eqv {p q : List Ev} (h : Eqv p q) (hp : ∀ o ∈ p, o.k ≠ 3) (hq : ∀ o ∈ q, o.k ≠ 3) : viewL p = viewL q := by
  unfold viewL
  congr 1
  · congr 1; funext t
    rw [reads_ems hp, reads_ems hq, h.1]
  · rw [lasts_stf, lasts_stf, h.2]
theorem ok_of_order {h : List Ev} (hv : Wf h) {r : List Int} (hp : r.Perm (com h)) (ht : r.Pairwise fun a b => conf (part h) b a = false) : okP h r := by
  unfold okP
  have hna := part_noabort hv
  have hs := serial_part (h := h) (p := r) fun t ht => hp.mem_iff.1 ht
  rw [← hs]
  refine viewL_eqv (serial_eqv (part h) r (fun o ho => ?_) (hp.nodup_iff.2 (pairwise_lt_nodup (com_sorted h))) ht) hna fun o ho => ?_
  · obtain ⟨h1, h2⟩ := List.mem_filter.1 ho
    have := hv.1 o h1
    unfold okOp at this
    exact ⟨this.2.2.1, hp.mem_iff.2 (by simpa using h2)⟩
  · obtain ⟨t, _, h2⟩ := List.mem_flatMap.1 ho
    exact hna o (List.mem_filter.1 h2).1
theorem cmpL_cons (a : Int) (l l' : List Int) : cmpL (a :: l) (a :: l') = cmpL l l' := by rw [cmpL, if_neg (by simp [cmpI])]
theorem cmpL_lt {a b : Int} (h : a < b) (l l' : List Int) : cmpL (a :: l) (b :: l') = -1 := by
  have : cmpI a b = -1 := by rw [cmpI, if_pos h]
  rw [cmpL, if_pos (by rw [this]; omega), this]
theorem cmpL_self : ∀ l : List Int, cmpL l l = 0
  | [] => rfl
  | a :: r => by rw [cmpL_cons, cmpL_self r]
/-- All orders stand in order. -/
theorem permsN_lex : ∀ (n : Nat) (l : List Int), l.length = n → l.Pairwise (· < ·) → (permsN n l).Pairwise fun a b => cmpL a b ≤ 0
  | 0, l, _, _ => by simp [permsN]
  | n + 1, l, hl, hs => by
    have hin : ∀ i, i < l.length → ((permsN n (l.eraseIdx i)).map fun p => l.getD i 0 :: p).Pairwise fun a b => cmpL a b ≤ 0 := fun i hi => by
      rw [List.pairwise_map]
      refine (permsN_lex n (l.eraseIdx i) (by rw [List.length_eraseIdx, if_pos hi]; omega) (hs.sublist (List.eraseIdx_sublist ..))).imp fun h => ?_
      rw [cmpL_cons]; exact h
    have hout : ∀ i j, i < j → j < l.length → ∀ a ∈ ((permsN n (l.eraseIdx i)).map fun p => l.getD i 0 :: p), ∀ b ∈ ((permsN n (l.eraseIdx j)).map fun p => l.getD j 0 :: p), cmpL a b ≤ 0 := by
      intro i j hij hj a ha b hb
      obtain ⟨p, _, rfl⟩ := List.mem_map.1 ha
      obtain ⟨q, _, rfl⟩ := List.mem_map.1 hb
      have h1 : l.getD i 0 = l[i]'(by omega) := by simp [List.getD, show i < l.length by omega]
      have h2 : l.getD j 0 = l[j] := by simp [List.getD, hj]
      rw [h1, h2, cmpL_lt (List.pairwise_iff_getElem.1 hs i j _ hj hij)]; omega
    have hall : ∀ k, k ≤ l.length → ((List.range k).flatMap fun i => (permsN n (l.eraseIdx i)).map fun p => l.getD i 0 :: p).Pairwise fun a b => cmpL a b ≤ 0 := by
      intro k
      induction k with
      | zero => intro _; simp
      | succ k ih =>
        intro hk
        rw [List.range_succ, List.flatMap_append, List.pairwise_append]
        refine ⟨ih (by omega), by simpa using hin k (by omega), fun a ha b hb => ?_⟩
        obtain ⟨i, hi, ha'⟩ := List.mem_flatMap.1 ha
        simp at hi
        exact hout i k hi (by omega) a ha' b (by simpa using hb)
    unfold permsN
    exact hall l.length (Nat.le_refl _)
theorem find_first {α : Type} {R : α → α → Prop} {P : α → Bool} : ∀ {l : List α} {c r : α}, l.Pairwise R → l.find? P = some c → r ∈ l → P r = true → c = r ∨ R c r
  | [], _, _, _, h, _, _ => by cases h
  | x :: t, c, r, hp, h, hr, hpr => by
    rw [List.find?_cons] at h
    obtain ⟨h1, h2⟩ := List.pairwise_cons.1 hp
    cases hx : P x with
    | true =>
      rw [hx] at h
      cases h
      rcases List.mem_cons.1 hr with rfl | hr
      · exact .inl rfl
      · exact .inr (h1 r hr)
    | false =>
      rw [hx] at h
      rcases List.mem_cons.1 hr with rfl | hr
      · rw [hx] at hpr; cases hpr
      · exact find_first h2 h hr hpr
theorem permsN_all : ∀ (n : Nat) (l p : List Int), l.length = n → p.Perm l → p ∈ permsN n l
  | 0, l, p, hl, hp => by
    have : l = [] := List.eq_nil_of_length_eq_zero hl
    subst this
    rw [hp.eq_nil]; simp [permsN]
  | n + 1, l, p, hl, hp => by
    obtain ⟨a, q, rfl⟩ : ∃ a q, p = a :: q := by
      cases p with
      | nil => have := hp.length_eq; simp at this; omega
      | cons a q => exact ⟨a, q, rfl⟩
    obtain ⟨i, hi, e⟩ := List.getElem_of_mem (hp.mem_iff.1 (List.mem_cons_self (a := a) (l := q)))
    unfold permsN
    refine List.mem_flatMap.2 ⟨i, by simpa using hi, List.mem_map.2 ⟨q, permsN_all n (l.eraseIdx i) q (by rw [List.length_eraseIdx, if_pos hi]; omega) ?_, ?_⟩⟩
    · have h1 : (a :: l.eraseIdx i).Perm l := by
        have e2 : l = l.take i ++ a :: l.drop (i + 1) := by rw [← e, ← List.drop_eq_getElem_cons hi, List.take_append_drop]
        rw [List.eraseIdx_eq_take_drop_succ]
        exact List.perm_middle.symm.trans (List.Perm.of_eq e2.symm)
      exact (List.perm_cons a).1 (hp.trans h1.symm)
    · have : l.getD i 0 = l[i] := by simp [List.getD, hi]
      rw [this, e]
/-- Order OK: no cycle, and View has an order that is not behind it. -/
theorem one_ok {h : List Ev} (hv : Wf h) {r : List Int} (ho : progO h = some r) : progC h = none ∧ ∃ c, progV h = some c ∧ cmpL c r ≤ 0 := by
  obtain ⟨hp, ht⟩ := srt_some _ _ r rfl ho
  refine ⟨no_cycle conf_irr hp ht, ?_⟩
  have hok := ok_of_order hv hp ht
  have hmem := permsN_all _ (com h) r rfl hp
  rw [progV_eq]
  cases hf : refV h with
  | none =>
    have := List.find?_eq_none.1 hf r hmem
    simp [hok] at this
  | some c =>
    refine ⟨c, rfl, ?_⟩
    rcases find_first (permsN_lex _ _ rfl (com_sorted h)) hf hmem (by simpa using hok) with rfl | h
    · rw [cmpL_self]; omega
    · exact h
theorem one_loop {h : List Ev} (ho : progO h = none) : ∃ c, progC h = some c := Option.isSome_iff_exists.1 (cyc_finds conf_irr ho)
end Go.Proofs.Ytnbkihkdfhjlmaa
