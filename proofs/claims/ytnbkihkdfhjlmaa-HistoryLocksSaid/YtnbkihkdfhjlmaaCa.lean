/-
  Contracts: what the first functions of the history layer and of its reference compute.
-/
import Derived.Test.YtnbkihkdfhjlmaaSa
import Derived.Test.YtnbkihkdfhjlmaaVm
namespace Go.Proofs.Ytnbkihkdfhjlmaa
open Go Go.VC

/-- An operation of a history. -/
structure Ev where
  t : Int
  k : Int
  i : Int
deriving DecidableEq
def eO (o : Ev) : List Value := [.int .i64 o.t, .int .i64 o.k, .int .i64 o.i]
abbrev Hs (w : World) (s : Sl) (h : List Ev) : Prop := Sli 3 eO w s h
theorem eO_len (o : Ev) : (eO o).length = 3 := rfl
theorem eO_one (o : Ev) : ∀ v ∈ eO o, v.oneCell' = true := by intro v hv; simp [eO] at hv; rcases hv with rfl | rfl | rfl <;> rfl
theorem eI_one (n : Int) : ∀ v ∈ eI n, v.oneCell' = true := by intro v hv; simp [eI] at hv; subst hv; rfl
theorem E29 : Elem Try.prog 29 38 3 24 := Elem.of (by kernel_rfl) (by kernel_rfl) (by decide)
theorem zc37 : (zc Try.prog 37).size = 3 := by kernel_rfl
theorem zc38 : (zc Try.prog 38).size = 3 := by kernel_rfl

/-- An element of a history, at a place. -/
theorem Hs_at {w : World} {s : Sl} {h : List Ev} (hs : Hs w s h) {i : Nat} (hi : i < h.length) :
    ∃ p : Pt, s.a = some ⟨p.b, p.o, none⟩ ∧ rd w p.b (p.o + i * 3) [.int .i64 h[i].t, .int .i64 h[i].k, .int .i64 h[i].i] :=
  Sli.get eO_len hs (List.getElem?_eq_getElem hi)

theorem of_ok {w : World} {s : Sl} {h : List Ev} (hs : Hs w s h) (hl : h.length ≤ 9223372036854775807) :
    Calls Try.prog 12 [.slice s.a s.n s.c].toArray w fun e w' => ∃ s' : Sl, e = .returned (.slice s'.a s'.n s'.c) ∧ Own 38 3 eO w.heap.size w' s' (h.take 43) ∧ Ext w w' := by
  refine (call12 s (R := fun v w' => ∃ s' : Sl, v = .slice s'.a s'.n s'.c ∧ Own 38 3 eO w.heap.size w' s' (h.take 43) ∧ Ext w w') ?_).mono fun e w' ⟨v, he, s', hv, h1, h2⟩ => ⟨s', by rw [he, hv], h1, h2⟩
  refine Join.dir (LoopV.intro (fun n (s' : Sl) (x : Int) w' => ∃ i : Nat, x = i ∧ n = h.length - i ∧ i ≤ h.length ∧ i ≤ 43 ∧ Own 38 3 eO w.heap.size w' s' (h.take i) ∧ Ext w w') h.length ⟨0, rfl, by omega, by omega, by omega, Own.nil .., Fr.refl _ w⟩ ?_)
  rintro n s' x w2 ⟨i, rfl, rfl, hi, hi2, hown, hx⟩
  refine cond_intro (fun hlt => ?_) (fun hge => ?_)
  · have hlt : i < h.length := by have := hs.len; simp at hlt; omega
    obtain ⟨p, hp, hr⟩ := Hs_at (hs.ext hx) hlt
    refine Join.dir ⟨p, hp, by omega, by have := hs.len; omega, _, _, _, by simpa using hr, ?_⟩
    refine Let.intro fun w4 e4 => ?_
    obtain ⟨h1, h2, h3⟩ := new_var w2 37 (z := zc Try.prog 37) (vs := [.int .i64 h[i].t, .int .i64 h[i].k, .int .i64 h[i].i]) zc37 (eO_one h[i])
    rw [← e4] at h1 h2 h3
    refine ⟨h1, Let.intro fun w5 e5 => ?_⟩
    rw [← e5] at h2 h3
    refine cond_intro (fun hgt => ?_) (fun hle => ?_)
    · have : i = 43 := by simp at hgt; omega
      subst this
      exact ⟨s', rfl, hown.ext h3, hx.trans h3⟩
    · have hle : i < 43 := by simp at hle; omega
      refine ⟨_, h2.cell 0, _, h2.cell 1, _, h2.cell 2, ?_⟩
      obtain ⟨s1, w6, e6, s2, w7, e7, ho, hf⟩ := appendOne E29 (hown.ext h3) (x := h[i]) (v := .agg [.int .i64 h[i].t, .int .i64 h[i].k, .int .i64 h[i].i].toArray) rfl eO_len eO_one (by omega) (by simp; omega) (by simp [maxLen]; omega) (by have := hx.size; have := h3.size; omega) 29
      refine ⟨s1, w6, e6, s2, w7, e7, h.length - (i + 1), by omega, i + 1, ?_, by omega, by omega, by omega, ?_, ?_⟩
      · rw [wrap64 (by omega) (by omega)]; rfl
      · rw [List.take_succ_eq_append_getElem hlt]; exact ho
      · exact (hx.trans h3).newer hf fun b ⟨a, ha, hb⟩ => by have := (hown.base ha).1; omega
  · have hge : i = h.length := by have := hs.len; simp at hge; omega
    subst hge
    exact ⟨s', rfl, by rw [List.take_of_length_le (by omega)]; rw [List.take_of_length_le (by omega)] at hown; exact hown, hx⟩
end Go.Proofs.Ytnbkihkdfhjlmaa
