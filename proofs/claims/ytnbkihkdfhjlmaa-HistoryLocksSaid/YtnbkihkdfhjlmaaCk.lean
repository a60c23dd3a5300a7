/-
  Plain laws of the views' lengths; the contract of the reference's View.
-/
import Derived.Test.YtnbkihkdfhjlmaaCj
namespace Go.Proofs.Ytnbkihkdfhjlmaa
open Go Go.VC
set_option maxHeartbeats 400000

def isRead (t : Int) (o : Ev) : Bool := decide (o.t = t ∧ o.k = 0)
theorem rds_count {h : List Ev} (t : Int) : ∀ n, n ≤ h.length → (rds h t n).length = ((h.take n).filter (isRead t)).length
  | 0, _ => by simp [rds]
  | n + 1, hn => by
    have hi : n < h.length := by omega
    rw [rds_step hi, filter_step hi, List.length_append, List.length_append, rds_count t n (by omega)]
    congr 1
    unfold isRead
    by_cases hc : h[n].t = t ∧ h[n].k = 0 <;> simp [hc]
theorem reads_count (h : List Ev) (t : Int) : (reads h t).length = (h.filter (isRead t)).length := by
  have := rds_count (h := h) t h.length (Nat.le_refl _)
  rw [List.take_length] at this; exact this
theorem serial_filter {h : List Ev} {t : Int} {p : Ev → Bool} (hp : ∀ o, p o = true → o.t = t) : ∀ {order : List Int}, order.Nodup → (serial h order).filter p = if t ∈ order then h.filter p else []
  | [], _ => by simp [serial]
  | u :: r, hn => by
    have ih := serial_filter (h := h) hp (order := r) (List.nodup_cons.1 hn).2
    have hu := (List.nodup_cons.1 hn).1
    unfold serial at ih ⊢
    rw [List.flatMap_cons, List.filter_append, ih, List.filter_filter]
    by_cases e : t = u
    · subst e
      rw [if_neg hu, if_pos (by simp), List.append_nil]
      apply List.filter_congr
      intro o _
      by_cases ho : p o = true
      · simp [hp o ho]
      · simp [ho]
    · have h1 : h.filter (fun o => p o && decide (o.t = u)) = [] := by
        rw [List.filter_eq_nil_iff]
        intro o _ ho
        simp only [Bool.and_eq_true, decide_eq_true_eq] at ho
        exact e ((hp o ho.1).symm.trans ho.2)
      rw [h1, List.nil_append]
      by_cases h2 : t ∈ r
      · rw [if_pos h2, if_pos (by simp [h2])]
      · rw [if_neg h2, if_neg (by simp [h2, e])]
theorem part_filter {h : List Ev} {t : Int} {p : Ev → Bool} (hp : ∀ o, p o = true → o.t = t) : (part h).filter p = if t ∈ com h then h.filter p else [] := by
  unfold part
  rw [List.filter_filter]
  by_cases hc : t ∈ com h
  · rw [if_pos hc]
    apply List.filter_congr
    intro o _
    by_cases ho : p o = true
    · simp [ho, hp o ho, hc]
    · simp [ho]
  · rw [if_neg hc, List.filter_eq_nil_iff]
    intro o _ ho
    simp only [Bool.and_eq_true, decide_eq_true_eq] at ho
    rw [hp o ho.1] at ho
    exact hc ho.2
theorem isRead_t (t : Int) (o : Ev) (h : isRead t o = true) : o.t = t := by simp [isRead] at h; exact h.1
theorem reads_len_eq {h : List Ev} {order : List Int} (hp : order.Perm (com h)) (t : Int) : (reads (part h) t).length = (reads (serial h order) t).length := by
  have hn : order.Nodup := hp.nodup_iff.2 (pairwise_lt_nodup (com_sorted h))
  rw [reads_count, reads_count, part_filter (isRead_t t), serial_filter (isRead_t t) hn]
  by_cases hc : t ∈ com h
  · rw [if_pos hc, if_pos (hp.mem_iff.2 hc)]
  · rw [if_neg hc, if_neg (fun h => hc (hp.mem_iff.1 h))]
theorem viewL_len {h : List Ev} {order : List Int} (hp : order.Perm (com h)) : (viewL (part h)).length = (viewL (serial h order)).length := by
  have hg : ∀ l : List Int, (l.flatMap (reads (part h))).length = (l.flatMap (reads (serial h order))).length := by
    intro l
    induction l with
    | nil => rfl
    | cons t r ih => rw [List.flatMap_cons, List.flatMap_cons, List.length_append, List.length_append, ih, reads_len_eq hp]
  unfold viewL
  rw [List.length_append, List.length_append, hg]; rfl
theorem permsN_perm : ∀ (n : Nat) (l : List Int), l.length = n → ∀ p ∈ permsN n l, p.Perm l
  | 0, l, hl, p, hp => by
    simp [permsN] at hp
    subst hp
    rw [List.eq_nil_of_length_eq_zero hl]
  | n + 1, l, hl, p, hp => by
    unfold permsN at hp
    obtain ⟨i, hi, h⟩ := List.mem_flatMap.1 hp
    obtain ⟨q, hq, rfl⟩ := List.mem_map.1 h
    simp at hi
    have h1 := permsN_perm n _ (by rw [List.length_eraseIdx, if_pos hi]; omega) q hq
    have h2 : l.getD i 0 = l[i] := by simp [List.getD, hi]
    rw [h2]
    refine (List.Perm.cons _ h1).trans ?_
    have e : l = l.take i ++ l[i] :: l.drop (i + 1) := by rw [← List.drop_eq_getElem_cons hi, List.take_append_drop]
    rw [List.eraseIdx_eq_take_drop_succ]
    exact List.perm_middle.symm.trans (List.Perm.of_eq e.symm)

/-- An order that is view equivalent, as the reference says. -/
def okP (h : List Ev) (p : List Int) : Prop := viewL (part h) = viewL (serial h p)
instance (h : List Ev) (p : List Int) : Decidable (okP h p) := by unfold okP; infer_instance
def refV (h : List Ev) : Option (List Int) := (permsN (com h).length (com h)).find? fun p => decide (okP h p)
theorem find_take {α : Type} {l : List α} {P : α → Bool} {i : Nat} {x : α} (hn : ∀ y ∈ l.take i, P y = false) (hi : l[i]? = some x) (hx : P x = true) : l.find? P = some x := by
  obtain ⟨hl, he⟩ := List.getElem?_eq_some_iff.1 hi
  have e : l = l.take i ++ x :: l.drop (i + 1) := by rw [← he, ← List.drop_eq_getElem_cons hl, List.take_append_drop]
  rw [e, List.find?_append, List.find?_eq_none.2 (fun y hy => by simp [hn y hy]), List.find?_cons, hx]; rfl

theorem c15 {w : World} {s : Sl} {h : List Ev} (hs : Hs w s h) (hok : ∀ o ∈ h, okOp o) (hl : h.length ≤ 100) :
    Calls Try.prog 15 [.slice s.a s.n s.c].toArray w fun e w' => ∃ (s' : Sl) (x : Int), e = .returned (.tuple [.slice s'.a s'.n s'.c, .int .i64 x].toArray) ∧ Ints w' s' ((refV h).getD []) ∧ x = (if (refV h).isSome then 0 else 5) ∧ Ext w w' := by
  refine (call15 s (R := fun v w' => ∃ (s' : Sl) (x : Int), v = (.tuple [.slice s'.a s'.n s'.c, .int .i64 x].toArray) ∧ Ints w' s' ((refV h).getD []) ∧ x = (if (refV h).isSome then 0 else 5) ∧ Ext w w') ?_).mono
    fun e w' ⟨v, he, s', x, hv, hx⟩ => ⟨s', x, by rw [he, hv], hx⟩
  refine (c41 hs hok (by omega)).mono fun e w1 ⟨s7, he, ho7, hx1⟩ => ⟨s7, he, ?_⟩
  refine (c40 (com h).length (com h) w1 s7 (com_len h) rfl ho7.sli).mono fun e w2 ⟨s8, he, hL, hx2⟩ => ⟨s8, he, ?_⟩
  have hn8 := hL.len
  have hx := hx1.trans hx2
  have hpl := permsN_le (com h).length (com h) (com_len h) rfl
  have hp6 : 6 ^ (com h).length ≤ 6 ^ 6 := Nat.pow_le_pow_right (by omega) (com_len h)
  refine Join.dir (rangeI (fun i w' => (∀ p ∈ (permsN (com h).length (com h)).take i, (decide (okP h p)) = false) ∧ Ext w2 w') (by rw [hn8]; exact Nat.le_trans (Nat.le_trans hpl hp6) (by decide)) ⟨by simp, Fr.refl _ _⟩ ?_ ?_)
  · rintro i hi w4 ⟨hno, hx4⟩ K hK
    have hi : i < (permsN (com h).length (com h)).length := by omega
    obtain ⟨p, x, hp, h1, h2, hr, hxl⟩ := (hL.ext hx4).at hi
    have hmem := List.getElem_mem hi
    have hperm := permsN_perm _ _ rfl _ hmem
    refine ⟨p, hp, h1, h2, x, hr, ?_⟩
    refine (c42 (hs.ext (hx.trans hx4)) hxl hok hl (by rw [hperm.length_eq]; exact com_len h) (viewL_len hperm)).mono fun e w6 ⟨r, he, hiff, hx6⟩ => ⟨r, he, cond_intro (fun hc => ?_) (fun hc => ?_)⟩
    · have hf : refV h = some (permsN (com h).length (com h))[i] := find_take hno (List.getElem?_eq_getElem hi) (decide_eq_true (hiff.1 hc))
      exact ⟨x, 0, rfl, by rw [hf]; exact hxl.ext hx6, by rw [hf]; rfl, (hx.trans hx4).trans hx6⟩
    · refine hK _ ⟨fun q hq => ?_, hx4.trans hx6⟩
      rw [List.take_succ_eq_append_getElem hi] at hq
      rcases List.mem_append.1 hq with hq | hq
      · exact hno q hq
      · rw [List.mem_singleton.1 hq, decide_eq_false_iff_not]
        intro h; rw [hiff.2 h] at hc; cases hc
  · rintro w4 ⟨hno, hx4⟩
    rw [hn8, List.take_length] at hno
    have hf : refV h = none := List.find?_eq_none.2 fun p hp => by simp [hno p hp]
    exact ⟨⟨none, 0, 0⟩, 5, rfl, by rw [hf]; exact Sli.nil .., by rw [hf]; rfl, hx.trans hx4⟩
end Go.Proofs.Ytnbkihkdfhjlmaa
