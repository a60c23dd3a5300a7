/-
  Contract: strata. The plain law of the rounds.
-/
import Derived.Test.YtoljknamnkkgcaaCk
import Derived.Laws.MakeOwn
namespace Go.Proofs.Ytoljknamnkkgcaa
open Go Go.VC
set_option maxHeartbeats 1000000
set_option maxRecDepth 100000

def lv (s : List Int) (r : Int) : Int := s.getD r.toNat 0
def nI (b : Li) : Int := if b.neg = true then 1 else 0
def stepB (h : Int) (s : List Int) (b : Li) : List Int := if lv s h < lv s b.a.rel + nI b then s.set h.toNat (lv s b.a.rel + nI b) else s
def passR (s : List Int) (r : Ru) : List Int := r.body.foldl (stepB r.head.rel) s
def pass (l : List Ru) (s : List Int) : List Int := l.foldl passR s
def sm (s : List Int) : Int := lv s 0 + lv s 1 + lv s 2 + lv s 3 + lv s 4 + lv s 5
def zero6 : List Int := [0, 0, 0, 0, 0, 0]
/-- Rels are from 0 to 5. -/
def RelOk (l : List Ru) : Prop := ∀ r ∈ l, ∀ a ∈ r.atoms, 0 ≤ a.rel ∧ a.rel ≤ 5
/-- Strata, as the rules ask for. -/
def Sol (l : List Ru) (f : Int → Int) : Prop := (∀ r, 0 ≤ f r) ∧ ∀ r ∈ l, ∀ b ∈ r.body, f b.a.rel + nI b ≤ f r.head.rel
theorem lv_set {s : List Int} (hl : s.length = 6) {h : Int} (h0 : 0 ≤ h) (h1 : h ≤ 5) (v : Int) {x : Int} (x0 : 0 ≤ x) (x1 : x ≤ 5) : lv (s.set h.toNat v) x = if x = h then v else lv s x := by
  unfold lv
  by_cases e : x = h
  · subst e
    have : x.toNat < s.length := by omega
    simp [List.getD, List.getElem?_set, this]
  · have : h.toNat ≠ x.toNat := by omega
    simp [List.getD, List.getElem?_set, this, e]
theorem stepB_len {h : Int} {s : List Int} {b : Li} : (stepB h s b).length = s.length := by unfold stepB; split <;> simp
theorem nI_nonneg (b : Li) : 0 ≤ nI b ∧ nI b ≤ 1 := by unfold nI; split <;> omega
theorem rel6 {x : Int} (h0 : 0 ≤ x) (h1 : x ≤ 5) : x = 0 ∨ x = 1 ∨ x = 2 ∨ x = 3 ∨ x = 4 ∨ x = 5 := by omega
theorem stepB_lv {h : Int} {s : List Int} {b : Li} (hl : s.length = 6) (h0 : 0 ≤ h) (h1 : h ≤ 5) {x : Int} (x0 : 0 ≤ x) (x1 : x ≤ 5) : lv (stepB h s b) x = if x = h ∧ lv s h < lv s b.a.rel + nI b then lv s b.a.rel + nI b else lv s x := by
  unfold stepB
  by_cases g : lv s h < lv s b.a.rel + nI b
  · rw [if_pos g, lv_set hl h0 h1 _ x0 x1]
    by_cases e : x = h
    · rw [if_pos e, if_pos ⟨e, g⟩]
    · rw [if_neg e, if_neg fun h => e h.1]
  · rw [if_neg g, if_neg fun h => g h.2]
theorem stepB_mono {h : Int} {s : List Int} {b : Li} (hl : s.length = 6) (h0 : 0 ≤ h) (h1 : h ≤ 5) {x : Int} (x0 : 0 ≤ x) (x1 : x ≤ 5) : lv s x ≤ lv (stepB h s b) x := by
  rw [stepB_lv hl h0 h1 x0 x1]
  split
  · rename_i g; rw [g.1]; omega
  · omega
theorem stepB_sm {h : Int} {s : List Int} {b : Li} (hl : s.length = 6) (h0 : 0 ≤ h) (h1 : h ≤ 5) : (stepB h s b = s ∧ lv s b.a.rel + nI b ≤ lv s h) ∨ (sm s < sm (stepB h s b) ∧ lv s h < lv s b.a.rel + nI b) := by
  by_cases g : lv s h < lv s b.a.rel + nI b
  · right
    refine ⟨?_, g⟩
    have hv := fun (x : Int) (x0 : 0 ≤ x) (x1 : x ≤ 5) => stepB_lv (b := b) hl h0 h1 x0 x1
    have e0 := hv 0 (by omega) (by omega)
    have e1 := hv 1 (by omega) (by omega)
    have e2 := hv 2 (by omega) (by omega)
    have e3 := hv 3 (by omega) (by omega)
    have e4 := hv 4 (by omega) (by omega)
    have e5 := hv 5 (by omega) (by omega)
    unfold sm
    rw [e0, e1, e2, e3, e4, e5]
    rcases rel6 h0 h1 with rfl | rfl | rfl | rfl | rfl | rfl <;> simp [g] <;> omega
  · left; exact ⟨by unfold stepB; rw [if_neg g], by omega⟩
theorem stepB_sol {h : Int} {s : List Int} {b : Li} {f : Int → Int} (hl : s.length = 6) (h0 : 0 ≤ h) (h1 : h ≤ 5) (b0 : 0 ≤ b.a.rel) (b1 : b.a.rel ≤ 5) (hf : f b.a.rel + nI b ≤ f h) (hs : ∀ x, 0 ≤ x → x ≤ 5 → lv s x ≤ f x) : ∀ x, 0 ≤ x → x ≤ 5 → lv (stepB h s b) x ≤ f x := fun x x0 x1 => by
  rw [stepB_lv hl h0 h1 x0 x1]
  split
  · rename_i g; rw [g.1]; have := hs _ b0 b1; omega
  · exact hs x x0 x1

/-! ### the rounds -/
/-- Of six numbers: what a part of a round leaves. -/
structure Up (s t : List Int) : Prop where
  len : t.length = 6
  mono : ∀ x, 0 ≤ x → x ≤ 5 → lv s x ≤ lv t x
  sm : t = s ∨ sm s < sm t
theorem Up.refl {s : List Int} (h : s.length = 6) : Up s s := ⟨h, fun _ _ _ => Int.le_refl _, .inl rfl⟩
theorem Up.trans {s t u : List Int} (h : Up s t) (k : Up t u) : Up s u := ⟨k.len, fun x h0 h1 => Int.le_trans (h.mono x h0 h1) (k.mono x h0 h1), by
  rcases h.sm with rfl | h1
  · exact k.sm
  · rcases k.sm with rfl | h2
    · exact .inr h1
    · exact .inr (by omega)⟩
theorem Up.step {s : List Int} {h : Int} {b : Li} (hl : s.length = 6) (h0 : 0 ≤ h) (h1 : h ≤ 5) : Up s (stepB h s b) := ⟨by rw [stepB_len, hl], fun x x0 x1 => stepB_mono hl h0 h1 x0 x1, by
  rcases stepB_sm (b := b) hl h0 h1 with h | h
  · exact .inl h.1
  · exact .inr h.1⟩
theorem Up.fold {h : Int} (h0 : 0 ≤ h) (h1 : h ≤ 5) : ∀ {body : List Li} {s : List Int}, s.length = 6 → Up s (body.foldl (stepB h) s)
  | [], s, hl => Up.refl hl
  | b :: r, s, hl => (Up.step hl h0 h1).trans (Up.fold h0 h1 (by rw [stepB_len, hl]))
theorem Up.back {s t u : List Int} (h : Up s t) (k : Up t u) (e : u = s) : t = s := by
  rcases h.sm with h | h
  · exact h
  · rcases k.sm with rfl | h2
    · exact e
    · subst e; omega
theorem fold_id {h : Int} (h0 : 0 ≤ h) (h1 : h ≤ 5) : ∀ {body : List Li} {s : List Int}, s.length = 6 → body.foldl (stepB h) s = s → ∀ b ∈ body, lv s b.a.rel + nI b ≤ lv s h
  | [], _, _, _, b, hb => by cases hb
  | a :: r, s, hl, he, b, hb => by
    have hl' : (stepB h s a).length = 6 := by rw [stepB_len, hl]
    have e1 : stepB h s a = s := (Up.step hl h0 h1).back (Up.fold h0 h1 hl') he
    rw [List.foldl_cons, e1] at he
    rcases List.mem_cons.1 hb with rfl | hb
    · rcases stepB_sm (b := b) hl h0 h1 with h | h
      · exact h.2
      · rw [e1] at h; omega
    · exact fold_id h0 h1 hl he b hb
theorem passR_up {r : Ru} (hr : ∀ a ∈ r.atoms, 0 ≤ a.rel ∧ a.rel ≤ 5) {s : List Int} (hl : s.length = 6) : Up s (passR s r) := Up.fold (hr r.head (by simp [Ru.atoms])).1 (hr r.head (by simp [Ru.atoms])).2 hl
theorem pass_up : ∀ {l : List Ru}, RelOk l → ∀ {s : List Int}, s.length = 6 → Up s (pass l s)
  | [], _, s, hl => Up.refl hl
  | r :: l, h, s, hl => by
    have h1 := passR_up (h r (by simp)) hl
    exact h1.trans (pass_up (fun r' hr' => h r' (by simp [hr'])) h1.len)
theorem pass_id : ∀ {l : List Ru}, RelOk l → ∀ {s : List Int}, s.length = 6 → pass l s = s → ∀ r ∈ l, ∀ b ∈ r.body, lv s b.a.rel + nI b ≤ lv s r.head.rel
  | [], _, _, _, _, r, hr, _, _ => by cases hr
  | q :: l, h, s, hl, he, r, hr, b, hb => by
    have h1 := passR_up (h q (by simp)) hl
    have hl' : RelOk l := fun r' hr' => h r' (by simp [hr'])
    have e1 : passR s q = s := h1.back (pass_up hl' h1.len) he
    have hq := h q (by simp) q.head (by simp [Ru.atoms])
    rcases List.mem_cons.1 hr with rfl | hr
    · exact fold_id hq.1 hq.2 hl e1 b hb
    · refine pass_id hl' hl ?_ r hr b hb
      have : pass l (passR s q) = s := he
      rw [e1] at this; exact this
/-- Below every solution. -/
def Under (l : List Ru) (s : List Int) : Prop := ∀ f, Sol l f → ∀ x, 0 ≤ x → x ≤ 5 → lv s x ≤ f x
theorem fold_under {f : Int → Int} {h : Int} (h0 : 0 ≤ h) (h1 : h ≤ 5) : ∀ {body : List Li} {s : List Int}, s.length = 6 → (∀ b ∈ body, 0 ≤ b.a.rel ∧ b.a.rel ≤ 5 ∧ f b.a.rel + nI b ≤ f h) → (∀ x, 0 ≤ x → x ≤ 5 → lv s x ≤ f x) → ∀ x, 0 ≤ x → x ≤ 5 → lv (body.foldl (stepB h) s) x ≤ f x
  | [], _, _, _, hs => hs
  | b :: r, s, hl, hb, hs => by
    obtain ⟨g1, g2, g3⟩ := hb b (by simp)
    exact fold_under (body := r) (s := stepB h s b) h0 h1 (by rw [stepB_len, hl]) (fun b' hb' => hb b' (by simp [hb'])) (stepB_sol hl h0 h1 g1 g2 g3 hs)
theorem pass_sol {f : Int → Int} : ∀ {l : List Ru}, RelOk l → (∀ r ∈ l, ∀ b ∈ r.body, f b.a.rel + nI b ≤ f r.head.rel) → ∀ {s : List Int}, s.length = 6 → (∀ x, 0 ≤ x → x ≤ 5 → lv s x ≤ f x) → ∀ x, 0 ≤ x → x ≤ 5 → lv (pass l s) x ≤ f x
  | [], _, _, _, _, hs => hs
  | r :: l, h, hf, s, hl, hs => by
    have hq := h r (by simp) r.head (by simp [Ru.atoms])
    have h1 := passR_up (h r (by simp)) hl
    refine pass_sol (l := l) (s := passR s r) (fun r' hr' => h r' (by simp [hr'])) (fun r' hr' => hf r' (by simp [hr'])) h1.len (fold_under hq.1 hq.2 hl (fun b hb => ?_) hs)
    have := h r (by simp) b.a (by simp [Ru.atoms]; exact .inr ⟨b, hb, rfl⟩)
    exact ⟨this.1, this.2, hf r (by simp) b hb⟩
theorem pass_under {l : List Ru} (h : RelOk l) {s : List Int} (hl : s.length = 6) (hu : Under l s) : Under l (pass l s) := fun f hf => pass_sol h hf.2 hl (hu f hf)
/-- The least strata. -/
structure IsStr (l : List Ru) (s : List Int) : Prop where
  len : s.length = 6
  nn : ∀ x ∈ s, 0 ≤ x
  sol : ∀ r ∈ l, ∀ b ∈ r.body, lv s b.a.rel + nI b ≤ lv s r.head.rel
  least : Under l s
theorem lv_nn {s : List Int} (h : ∀ x ∈ s, 0 ≤ x) (r : Int) : 0 ≤ lv s r := by
  unfold lv
  by_cases e : r.toNat < s.length
  · simp only [List.getD, List.getElem?_eq_getElem e, Option.getD_some]; exact h _ (List.getElem_mem e)
  · simp [List.getD, List.getElem?_eq_none (show s.length ≤ r.toNat by omega)]
theorem IsStr.isSol {l : List Ru} {s : List Int} (h : IsStr l s) : Sol l (lv s) := ⟨lv_nn h.nn, h.sol⟩
theorem ext6 {s t : List Int} (hs : s.length = 6) (ht : t.length = 6) (h : ∀ x, 0 ≤ x → x ≤ 5 → lv s x = lv t x) : s = t := by
  apply List.ext_getElem (by omega)
  intro i h1 h2
  have := h (i : Int) (by omega) (by omega)
  unfold lv at this
  simpa [List.getD, h1, h2] using this
theorem IsStr.uniq {l : List Ru} {s t : List Int} (h : IsStr l s) (k : IsStr l t) : s = t :=
  ext6 h.len k.len fun x h0 h1 => Int.le_antisymm (h.least _ k.isSol x h0 h1) (k.least _ h.isSol x h0 h1)
/-- The strata are at most 5. -/
theorem IsStr.le5 {l : List Ru} (hR : RelOk l) {s : List Int} (h : IsStr l s) : ∀ x ∈ s, x ≤ 5 := by
  -- a level that is skipped could be taken out
  have hskip : ∀ m : Int, 0 ≤ m → m ∉ s → ∀ x ∈ s, x ≤ m := fun m hm0 hm x hx => by
    refine Int.not_lt.1 fun hlt => ?_
    have hatt : ∀ r : Int, 0 ≤ r → r ≤ 5 → lv s r ≠ m := fun r r0 r1 e => hm (by
      unfold lv at e
      have : r.toNat < s.length := by have := h.len; omega
      simp only [List.getD, List.getElem?_eq_getElem this, Option.getD_some] at e
      rw [← e]; exact List.getElem_mem _)
    have hsol : Sol l fun r => if lv s r > m then lv s r - 1 else lv s r := by
      refine ⟨fun r => ?_, fun r hr b hb => ?_⟩
      · have := lv_nn h.nn r
        show 0 ≤ if lv s r > m then lv s r - 1 else lv s r
        split <;> omega
      · have h1 := h.sol r hr b hb
        have hb' := hR r hr b.a (by simp [Ru.atoms]; exact .inr ⟨b, hb, rfl⟩)
        have h2 := hatt b.a.rel hb'.1 hb'.2
        have h3 := nI_nonneg b
        show (if lv s b.a.rel > m then lv s b.a.rel - 1 else lv s b.a.rel) + nI b ≤ if lv s r.head.rel > m then lv s r.head.rel - 1 else lv s r.head.rel
        split <;> split <;> omega
    obtain ⟨i, hi, e⟩ := List.getElem_of_mem hx
    have h1 := h.least _ hsol (i : Int) (by omega) (by have := h.len; omega)
    have h2 : lv s (i : Int) = x := by unfold lv; simp [List.getD, hi, e]
    simp only [h2] at h1
    rw [if_pos hlt] at h1
    omega
  intro x hx
  refine Int.not_lt.1 fun hgt => ?_
  have hall : ∀ m ∈ ([0, 1, 2, 3, 4, 5, x] : List Int), m ∈ s := fun m hm => by
    refine Classical.byContradiction fun hno => ?_
    simp only [List.mem_cons, List.not_mem_nil, or_false] at hm
    rcases hm with rfl | rfl | rfl | rfl | rfl | rfl | rfl
    · have := hskip _ (by omega) hno x hx; omega
    · have := hskip _ (by omega) hno x hx; omega
    · have := hskip _ (by omega) hno x hx; omega
    · have := hskip _ (by omega) hno x hx; omega
    · have := hskip _ (by omega) hno x hx; omega
    · have := hskip _ (by omega) hno x hx; omega
    · exact hno hx
  have hnd : ([0, 1, 2, 3, 4, 5, x] : List Int).Nodup := by
    simp only [List.nodup_cons, List.mem_cons, List.not_mem_nil, or_false, not_or, not_false_eq_true, List.nodup_nil, and_true]
    omega
  have := hnd.length_le_of_subset hall
  rw [h.len] at this
  simp at this
end Go.Proofs.Ytoljknamnkkgcaa
