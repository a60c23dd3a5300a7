/-
  Plain law: the operations of two neighbours of the cycle alone.
-/
import Derived.Test.YtnbkihkdfhjlmaaDi
namespace Go.Proofs.Ytnbkihkdfhjlmaa
open Go Go.VC
set_option maxHeartbeats 400000

/-- The operations of two transactions. -/
def two (h : List Ev) (x y : Int) : List Ev := h.filter fun o => decide (o.t = x ∨ o.t = y)
theorem wf_filter {h : List Ev} (hv : Wf h) (p : Ev → Bool) : Wf (h.filter p) := ⟨fun o ho => hv.1 o (List.mem_filter.1 ho).1, hv.2.filter _⟩
theorem valid_filter {h : List Ev} (hv : Valid h) (p : Ev → Bool) : Valid (h.filter p) := ⟨wf_filter hv.1 p, Nat.le_trans (List.length_filter_le ..) hv.2⟩
theorem com_mem_iff {h : List Ev} {t : Int} : t ∈ com h ↔ 1 ≤ t ∧ t ≤ 6 ∧ (⟨t, 2, 0⟩ : Ev) ∈ h := by rw [mem_com]; unfold fin; rw [ix_nonneg]
theorem com_two {h : List Ev} {x y t : Int} : t ∈ com (two h x y) ↔ t ∈ com h ∧ (t = x ∨ t = y) := by
  rw [com_mem_iff, com_mem_iff]; unfold two
  rw [List.mem_filter]
  simp only [decide_eq_true_eq]
  constructor
  · rintro ⟨a, b, c, d⟩; exact ⟨⟨a, b, c⟩, d⟩
  · rintro ⟨⟨a, b, c⟩, d⟩; exact ⟨a, b, c, d⟩
theorem confR_mono {a b : Int} {f : Ev → Bool} (hf : ∀ o : Ev, (o.t = a ∨ o.t = b) → f o = true) : ∀ {p : List Ev}, confR p a b → confR (p.filter f) a b
  | [], h => h.elim
  | o :: r, h => by
    rcases h with ⟨y, hy, h1, h2, h3⟩ | h
    · rw [List.filter_cons, if_pos (hf o (.inl h2))]
      exact .inl ⟨y, List.mem_filter.2 ⟨hy, hf y (.inr h3)⟩, h1, h2, h3⟩
    · rw [List.filter_cons]
      split
      · exact .inr (confR_mono hf h)
      · exact confR_mono hf h
theorem part_two {h : List Ev} {x y : Int} (hx : x ∈ com h) (hy : y ∈ com h) : part (two h x y) = two h x y := by
  unfold part
  rw [List.filter_eq_self]
  intro o ho
  have h1 := (List.mem_filter.1 ho).2
  simp only [decide_eq_true_eq] at h1 ⊢
  rw [com_two]
  rcases h1 with h1 | h1 <;> rw [h1]
  · exact ⟨hx, .inl rfl⟩
  · exact ⟨hy, .inr rfl⟩
theorem conf_two {h : List Ev} {x y : Int} (hx : x ∈ com h) (hy : y ∈ com h) (hc : conf (part h) x y = true) : conf (part (two h x y)) x y = true := by
  rw [part_two hx hy]
  have h1 := confR_mono (f := fun o => decide (o.t = x ∨ o.t = y)) (fun o ho => by simpa using ho) (conf_confR.1 hc)
  have h2 : (part h).filter (fun o => decide (o.t = x ∨ o.t = y)) = two h x y := by
    unfold part two
    rw [List.filter_filter]
    apply List.filter_congr
    intro o _
    by_cases e : o.t = x ∨ o.t = y
    · have : o.t ∈ com h := by rcases e with e | e <;> rw [e] <;> assumption
      simp [e, this]
    · simp [e]
  rw [h2] at h1
  exact conf_confR.2 h1
theorem progO_two {h : List Ev} {x y : Int} (hne : x ≠ y) (hx : x ∈ com h) (hy : y ∈ com h) (hc : conf (part h) x y = true) {r : List Int} (ho : progO (two h x y) = some r) : r = [x, y] := by
  obtain ⟨hp, ht⟩ := srt_some _ _ r rfl ho
  have hnd : r.Nodup := hp.nodup_iff.2 (pairwise_lt_nodup (com_sorted _))
  have hm : ∀ t, t ∈ r ↔ t = x ∨ t = y := fun t => by
    rw [hp.mem_iff, com_two]
    exact ⟨fun h => h.2, fun h => ⟨by rcases h with rfl | rfl <;> assumption, h⟩⟩
  have hlen : r.length = 2 := by
    have h1 := hnd.length_le_of_subset (l₂ := [x, y]) fun t ht => by simpa using (hm t).1 ht
    have h2 := (show [x, y].Nodup by simp [hne]).length_le_of_subset (l₂ := r) fun t ht => (hm t).2 (by simpa using ht)
    simp at h1 h2; omega
  match r, hlen with
  | [a, b], _ =>
    have hc2 := conf_two hx hy hc
    have hab : conf (part (two h x y)) b a = false := (List.pairwise_cons.1 ht).1 b (by simp)
    have ha := (hm a).1 (by simp)
    have hb := (hm b).1 (by simp)
    have hne' : a ≠ b := by simp at hnd; exact hnd
    rcases ha with rfl | rfl <;> rcases hb with rfl | rfl
    · exact absurd rfl hne'
    · rfl
    · rw [hc2] at hab; cases hab
    · exact absurd rfl hne'
/-- Neighbours of the cycle, the last and the first too. -/
theorem path_at {E : Int → Int → Bool} : ∀ {r : List Int}, Path E r → ∀ {i : Nat} (hi : i + 1 < r.length), E r[i] r[i + 1] = true
  | [], _, _, hi => by simp at hi
  | [a], _, _, hi => by simp at hi
  | a :: b :: r, h, 0, _ => h.1
  | a :: b :: r, h, i + 1, hi => by
    have := path_at (r := b :: r) h.2 (i := i) (by simpa using hi)
    simpa using this
theorem cyc_next {E : Int → Int → Bool} {r : List Int} (h1 : 2 ≤ r.length) (hp : Path E r) (he : E (r.getLast?.getD 0) (r.head?.getD 0) = true) {i : Nat} (hi : i < r.length) : ∃ hj : (i + 1) % r.length < r.length, E r[i] r[(i + 1) % r.length] = true := by
  refine ⟨Nat.mod_lt _ (by omega), ?_⟩
  rcases Nat.lt_or_ge (i + 1) r.length with h | h
  · have e : (i + 1) % r.length = i + 1 := Nat.mod_eq_of_lt h
    simp only [e]
    exact path_at hp h
  · have e1 : i + 1 = r.length := by omega
    have e : (i + 1) % r.length = 0 := by rw [e1, Nat.mod_self]
    simp only [e]
    have hne : r ≠ [] := by rintro rfl; simp at h1
    rw [List.getLast?_eq_getElem?, List.head?_eq_getElem?, List.getElem?_eq_getElem (by omega), List.getElem?_eq_getElem (by omega)] at he
    simp only [Option.getD_some] at he
    have e2 : r.length - 1 = i := by omega
    simp only [e2] at he
    exact he
/-- What HistoryOne asks of two neighbours. -/
theorem one_pair {h c : List Ev} {b : List Int} (hb : progC h = some b) : 2 ≤ b.length ∧ ∀ i (hi : i < b.length), ∃ hj : (i + 1) % b.length < b.length, ∀ r, progO (two h b[i] b[(i + 1) % b.length]) = some r → r = [b[i], b[(i + 1) % b.length]] := by
  obtain ⟨h1, h2, h3, h4, h5⟩ := cyc_some hb
  refine ⟨h1, fun i hi => ?_⟩
  obtain ⟨hj, he⟩ := cyc_next h1 h4 h5 hi
  refine ⟨hj, fun r hr => progO_two ?_ (h3 _ (List.getElem_mem _)) (h3 _ (List.getElem_mem _)) he hr⟩
  intro e
  rw [← e, conf_irr] at he; cases he
end Go.Proofs.Ytnbkihkdfhjlmaa
