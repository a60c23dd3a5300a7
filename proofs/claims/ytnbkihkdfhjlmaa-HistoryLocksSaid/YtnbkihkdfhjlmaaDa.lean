/-
  The plain law of HistoryViews, and its contract.
-/
import Derived.Test.YtnbkihkdfhjlmaaCo
namespace Go.Proofs.Ytnbkihkdfhjlmaa
open Go Go.VC
set_option maxHeartbeats 400000

theorem flat_inj {f g : Int → List Int} : ∀ {l : List Int}, (∀ t, (f t).length = (g t).length) → (l.flatMap f = l.flatMap g ↔ ∀ t ∈ l, f t = g t)
  | [], _ => by simp
  | t :: r, h => by
    rw [List.flatMap_cons, List.flatMap_cons]
    constructor
    · intro e
      obtain ⟨h1, h2⟩ := List.append_inj e (h t)
      intro u hu
      rcases List.mem_cons.1 hu with rfl | hu
      · exact h1
      · exact (flat_inj h).1 h2 u hu
    · intro e
      rw [e t (by simp), (flat_inj h).2 fun u hu => e u (by simp [hu])]
theorem mem_six {t : Int} : t ∈ six ↔ 1 ≤ t ∧ t ≤ 6 := by
  simp only [six, List.mem_cons, List.not_mem_nil, or_false]
  omega
theorem serial_part {h : List Ev} {p : List Int} (hp : ∀ t ∈ p, t ∈ com h) : serial (part h) p = serial h p := by
  unfold serial
  have : ∀ p : List Int, (∀ t ∈ p, t ∈ com h) → (p.flatMap fun t => (part h).filter fun o => decide (o.t = t)) = p.flatMap fun t => h.filter fun o => decide (o.t = t) := by
    intro p
    induction p with
    | nil => intro _; rfl
    | cons t r ih =>
      intro hp
      rw [List.flatMap_cons, List.flatMap_cons, ih fun u hu => hp u (by simp [hu]), part_filter (t := t) (by intro o ho; simpa using ho), if_pos (hp t (by simp))]
  exact this p hp
theorem ok_iff {h : List Ev} {p : List Int} (hp : p.Perm (com h)) : okB h p = decide (okP h p) := by
  rw [Bool.eq_iff_iff, okB_iff, decide_eq_true_iff, serial_part fun t ht => hp.mem_iff.1 ht]
  unfold SameV okP viewL
  have hlen := reads_len_eq hp
  constructor
  · rintro ⟨h1, h2⟩
    rw [h2, (flat_inj hlen).2 fun t ht => (h1 t (mem_six.1 ht).1 (mem_six.1 ht).2).symm]
  · intro e
    obtain ⟨h1, h2⟩ := List.append_inj' e rfl
    exact ⟨fun t h3 h4 => ((flat_inj hlen).1 h1 t (mem_six.2 ⟨h3, h4⟩)).symm, h2.symm⟩

theorem eraseIdx_filter : ∀ {l : List Int} {i : Nat} (hi : i < l.length), l.Nodup → l.eraseIdx i = l.filter fun x => decide (x ≠ l[i])
  | [], _, hi, _ => by simp at hi
  | y :: r, 0, _, hn => by
    have hy := (List.nodup_cons.1 hn).1
    simp only [List.eraseIdx_cons_zero, List.getElem_cons_zero]
    rw [List.filter_cons, if_neg (by simp), List.filter_eq_self.2]
    intro x hx; simp; rintro rfl; exact hy hx
  | y :: r, i + 1, hi, hn => by
    have hi' : i < r.length := by simpa using hi
    have hy := (List.nodup_cons.1 hn).1
    simp only [List.eraseIdx_cons_succ, List.getElem_cons_succ]
    rw [List.filter_cons, if_pos (by simp; intro e; exact hy (e ▸ List.getElem_mem hi')), eraseIdx_filter hi' (List.nodup_cons.1 hn).2]
theorem findSome_filter {β : Type} {q : Int → Bool} {f : Int → Option β} : ∀ l : List Int, (l.findSome? fun t => if q t then f t else none) = (l.filter q).findSome? f
  | [] => rfl
  | t :: r => by
    rw [List.findSome?_cons, List.filter_cons]
    by_cases hq : q t = true
    · rw [if_pos hq, if_pos hq, List.findSome?_cons, findSome_filter r]
    · rw [if_neg hq, if_neg hq, findSome_filter r]
theorem findSome_range {β : Type} {f : Int → Option β} : ∀ (l : List Int) (g : Nat → Option β), (∀ i (hi : i < l.length), g i = f l[i]) → (List.range l.length).findSome? g = l.findSome? f
  | [], _, _ => rfl
  | t :: r, g, h => by
    rw [List.length_cons, List.range_succ_eq_map, List.findSome?_cons, List.findSome?_cons, h 0 (by simp)]
    have := findSome_range r (fun i => g (i + 1)) fun i hi => h (i + 1) (by simpa using hi)
    rw [List.findSome?_map]
    simp only [List.getElem_cons_zero]
    cases f t with
    | none => exact this
    | some x => rfl
theorem find_congr {α : Type} {p q : α → Bool} : ∀ {l : List α}, (∀ x ∈ l, p x = q x) → l.find? p = l.find? q
  | [], _ => rfl
  | x :: r, h => by
    rw [List.find?_cons, List.find?_cons, h x (by simp), find_congr fun y hy => h y (by simp [hy])]

/-- Those that are not yet in the order. -/
def rem (h : List Ev) (ord : List Int) : List Int := (com h).filter fun t => !decide (t ∈ ord)
theorem search_perms {h : List Ev} : ∀ (n : Nat) (ord : List Int), (rem h ord).length = n → search h n ord = ((permsN n (rem h ord)).map (ord ++ ·)).find? (okB h)
  | 0, ord, _ => by
    simp only [search, permsN, List.map_cons, List.append_nil, List.map_nil, List.find?_cons, List.find?_nil]
    cases okB h ord <;> rfl
  | n + 1, ord, hl => by
    have hnd : (rem h ord).Nodup := (pairwise_lt_nodup (com_sorted h)).filter _
    rw [search]
    have h1 : ((com h).findSome? fun t => if t ∈ ord then none else search h n (ord ++ [t])) = ((com h).findSome? fun t => if (!decide (t ∈ ord)) then search h n (ord ++ [t]) else none) := by
      congr 1; funext t
      by_cases e : t ∈ ord <;> simp [e]
    rw [h1, findSome_filter]
    show (rem h ord).findSome? _ = _
    unfold permsN
    rw [List.map_flatMap, List.find?_flatMap]
    refine (findSome_range _ _ fun i hi => ?_).symm
    have hgd : (rem h ord).getD i 0 = (rem h ord)[i] := by simp [List.getD, hi]
    have hrem : (rem h ord).eraseIdx i = rem h (ord ++ [(rem h ord)[i]]) := by
      rw [eraseIdx_filter hi hnd]
      generalize (rem h ord)[i] = t
      unfold rem
      rw [List.filter_filter]
      apply List.filter_congr
      intro x _
      simp only [List.mem_append, List.mem_singleton]
      by_cases h1 : x ∈ ord <;> by_cases h2 : x = t <;> simp [h1, h2]
    have hlen : (rem h (ord ++ [(rem h ord)[i]])).length = n := by rw [← hrem, List.length_eraseIdx, if_pos hi]; omega
    rw [search_perms n _ hlen, ← hrem, hgd, List.map_map]
    congr 1
    apply List.map_congr_left
    intro p _
    simp
theorem progV_eq (h : List Ev) : progV h = refV h := by
  have hr : rem h [] = com h := by unfold rem; rw [List.filter_eq_self]; simp
  unfold progV refV
  rw [search_perms _ [] (by rw [hr]), hr]
  rw [show (permsN (com h).length (com h)).map (([] : List Int) ++ ·) = permsN (com h).length (com h) from by simp]
  exact find_congr fun p hp => ok_iff (permsN_perm _ _ rfl p hp)
theorem valid_take (h : List Ev) : Valid (h.take 43) ↔ Valid h := by
  by_cases hl : h.length ≤ 43
  · rw [List.take_of_length_le hl]
  · constructor
    · intro h1; have := h1.2; simp at this; omega
    · intro h1; have := h1.2; omega
theorem valid_self {h : List Ev} (hv : Valid h) : h.take 43 = h := List.take_of_length_le (by have := hv.2; omega)

theorem c3 {w : World} {s : Sl} {h : List Ev} (hs : Hs w s h) (hl : h.length ≤ big) :
    Calls Try.prog 3 [.slice s.a s.n s.c].toArray w fun e w' => e = .returned (.bool true) ∧ Ext w w' := by
  refine (call3 s (R := fun v w' => v = .bool true ∧ Ext w w') ?_).mono fun e w' ⟨v, he, hv, hx⟩ => ⟨by rw [he, hv], hx⟩
  refine (of_ok hs hl).mono fun e w1 ⟨s9, he, ho9, hx1⟩ => ⟨s9, he, ?_⟩
  refine (c11 ho9.sli (by simp; omega)).mono fun e w2 ⟨s10, x10, he, hcase, hx2⟩ => ⟨s10, x10, he, ?_⟩
  rw [valid_take] at hcase
  refine (c13 ((hs.ext hx1).ext hx2) hl).mono fun e w3 ⟨he, hx3⟩ => ⟨_, he, ?_⟩
  have hx03 := (hx1.trans hx2).trans hx3
  rcases hcase with ⟨hnv, hn0, rfl⟩ | ⟨hv, hi10, hxx⟩
  · refine cond_intro (fun _ => ?_) (fun hc => ?_)
    · refine Join.dir (cond_intro (fun _ => cond_intro (fun _ => ?_) (fun hc => ?_)) (fun hc => ?_))
      · exact (c14 w3).mono fun e w5 ⟨he, hx5⟩ => ⟨_, he, rfl, hx03.trans hx5⟩
      · simp at hc
      · simp [hn0] at hc
    · simp [hnv] at hc
  · have hok := hv.1.1
    rw [valid_self hv] at hi10 hxx
    rw [progV_eq] at hi10 hxx
    refine cond_intro (fun hc => ?_) (fun _ => ?_)
    · simp [hv] at hc
    refine (c15 (hs.ext hx03) hok (by have := hv.2; omega)).mono fun e w6 ⟨s28, x28, he, hi28, hx28, hx6⟩ => ⟨s28, x28, he, Join.dir ?_⟩
    have hlen : ((refV h).getD []).length ≤ big := by
      cases hr : refV h with
      | none => simp
      | some p =>
        have hp := permsN_perm _ _ rfl p (List.mem_of_find?_eq_some hr)
        simp only [Option.getD_some]
        rw [hp.length_eq]
        exact Nat.le_trans (com_len h) (by decide)
    refine (c16 ((hi10.ext hx3).ext hx6) hi28 hlen).mono fun e w8 ⟨he, hx8⟩ => ⟨_, he, cond_intro (fun _ => cond_intro (fun _ => ?_) (fun hc => ?_)) (fun hc => ?_)⟩
    · exact (c14 w8).mono fun e w9 ⟨he, hx9⟩ => ⟨_, he, rfl, ((hx03.trans hx6).trans hx8).trans hx9⟩
    · simp [hxx, hx28] at hc
    · simp at hc
end Go.Proofs.Ytnbkihkdfhjlmaa
