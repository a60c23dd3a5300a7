/-
  Contract: slices.Compare of ints.
-/
import Derived.Test.YtnbkihkdfhjlmaaCq
namespace Go.Proofs.Ytnbkihkdfhjlmaa
open Go Go.VC
set_option maxHeartbeats 400000

def cmpI (x y : Int) : Int := if x < y then -1 else if x > y then 1 else 0
def cmpL : List Int → List Int → Int
  | [], [] => 0
  | [], _ :: _ => -1
  | _ :: _, [] => 1
  | a :: r, b :: s => if cmpI a b ≠ 0 then cmpI a b else cmpL r s
theorem c53 (x y : Int) (w : World) : Calls Try.prog 53 [.int .i64 x, .int .i64 y].toArray w fun e w' => e = .returned (.int .i64 (cmpI x y)) ∧ w' = w := by
  have c83 : ∀ (x : Int) (w : World), Calls Try.prog 83 [.int .i64 x].toArray w fun e w' => e = .returned (.bool false) ∧ w' = w := fun x w => by
    refine (call83 x (R := fun v w' => v = .bool false ∧ w' = w) ?_).mono fun e w' ⟨v, he, hv, hx⟩ => ⟨by rw [he, hv], hx⟩
    exact ⟨by simp, rfl⟩
  refine (call53 x y (R := fun v w' => v = .int .i64 (cmpI x y) ∧ w' = w) ?_).mono fun e w' ⟨v, he, hv, hx⟩ => ⟨by rw [he, hv], hx⟩
  refine (c83 x w).mono fun e w1 ⟨he, h1⟩ => ⟨_, he, (c83 y w1).mono fun e w2 ⟨he, h2⟩ => ⟨_, he, ?_⟩⟩
  subst h1
  subst h2
  refine cond_intro (fun h => by cases h) (fun _ => cond_intro (fun h => by cases h) (fun _ => cond_intro (fun h => ⟨?_, rfl⟩) (fun h => cond_intro (fun h' => ⟨?_, rfl⟩) (fun h' => ⟨?_, rfl⟩))))
  · have h : x < y := by simpa using h
    rw [cmpI, if_pos h]
  · have h : ¬ x < y := by simpa using h
    have h' : x > y := by simpa using h'
    rw [cmpI, if_neg h, if_pos h']
  · have h : ¬ x < y := by simpa using h
    have h' : ¬ x > y := by simpa using h'
    rw [cmpI, if_neg h, if_neg h']
theorem cmpL_take : ∀ {l l' : List Int} {i : Nat}, l.take i = l'.take i → i ≤ l.length → i ≤ l'.length → cmpL l l' = cmpL (l.drop i) (l'.drop i)
  | _, _, 0, _, _, _ => by simp
  | [], _, i + 1, _, h, _ => by simp at h
  | _ :: _, [], i + 1, _, _, h => by simp at h
  | a :: r, b :: s, i + 1, h, h1, h2 => by
    simp only [List.take_succ_cons, List.cons.injEq] at h
    obtain ⟨rfl, h⟩ := h
    have := cmpL_take (l := r) (l' := s) h (by simpa using h1) (by simpa using h2)
    simp only [List.drop_succ_cons]
    rw [← this, cmpL, if_neg (by simp [cmpI])]
theorem c24 {w : World} {s s' : Sl} {l l' : List Int} (hs : Ints w s l) (hs' : Ints w s' l') (hl : l.length ≤ big) :
    Calls Try.prog 24 [.slice s.a s.n s.c, .slice s'.a s'.n s'.c].toArray w fun e w' => e = .returned (.int .i64 (cmpL l l')) ∧ Ext w w' := by
  refine (call24 s s' (R := fun v w' => v = .int .i64 (cmpL l l') ∧ Ext w w') ?_).mono fun e w' ⟨v, he, hv, hx⟩ => ⟨by rw [he, hv], hx⟩
  have h1 := hs.len
  have h2 := hs'.len
  refine Join.dir (rangeI (fun i w2 => l.take i = l'.take i ∧ i ≤ l'.length ∧ Ext w w2) (by rw [h1]; exact hl) ⟨by simp, by omega, Fr.refl _ w⟩ ?_ ?_)
  · rintro i hi w2 ⟨hn, hil, hx⟩ K hK
    have hi : i < l.length := by omega
    obtain ⟨p, hp, a1, a2, hr⟩ := Ints.at (hs.ext hx) hi
    have hd : l.drop i = l[i] :: l.drop (i + 1) := List.drop_eq_getElem_cons hi
    refine ⟨p, hp, a1, a2, _, hr, cond_intro (fun hc => ?_) (fun hc => ?_)⟩
    · have hc : l'.length ≤ i := by simp at hc; omega
      refine ⟨?_, hx⟩
      rw [cmpL_take hn (by omega) hil, hd, List.drop_eq_nil_of_le hc]; rfl
    · have hi' : i < l'.length := by simp at hc; omega
      have hd' : l'.drop i = l'[i] :: l'.drop (i + 1) := List.drop_eq_getElem_cons hi'
      obtain ⟨p', hp', b1, b2, hr'⟩ := Ints.at (hs'.ext hx) hi'
      refine ⟨p', hp', b1, b2, _, hr', (c53 _ _ w2).mono fun e w4 ⟨he, hw⟩ => ⟨_, he, ?_⟩⟩
      subst hw
      refine cond_intro (fun hc => ?_) (fun hc => ?_)
      · have hc : cmpI l[i] l'[i] ≠ 0 := by simpa using hc
        refine ⟨?_, hx⟩
        rw [cmpL_take hn (by omega) hil, hd, hd', cmpL, if_pos hc]
      · have hc : cmpI l[i] l'[i] = 0 := by simpa using hc
        have he : l[i] = l'[i] := by unfold cmpI at hc; split at hc <;> first | omega | (split at hc <;> omega)
        exact hK _ ⟨by rw [List.take_succ_eq_append_getElem hi, List.take_succ_eq_append_getElem hi', hn, he], by omega, hx⟩
  · rintro w2 ⟨hn, hil, hx⟩
    rw [h1] at hn hil
    have hc := cmpL_take hn (Nat.le_refl _) hil
    rw [List.drop_length] at hc
    refine cond_intro (fun h => ⟨?_, hx⟩) (fun h => ⟨?_, hx⟩)
    · have hlt : l.length < l'.length := by simp [h1, h2] at h; omega
      have hd' : l'.drop l.length = l'[l.length] :: l'.drop (l.length + 1) := List.drop_eq_getElem_cons hlt
      rw [hc, hd']; rfl
    · have hge : l'.length ≤ l.length := by simp [h1, h2] at h; omega
      rw [hc, List.drop_eq_nil_of_le hge]; rfl
end Go.Proofs.Ytnbkihkdfhjlmaa
