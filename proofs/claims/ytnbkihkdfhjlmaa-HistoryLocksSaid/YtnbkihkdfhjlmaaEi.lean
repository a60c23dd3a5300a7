/-
  Contracts: slices.Equal of operations; the law HistoryTwice.
-/
import Derived.Test.YtnbkihkdfhjlmaaEh
import Derived.Test.YtnbkihkdfhjlmaaSf
namespace Go.Proofs.Ytnbkihkdfhjlmaa
open Go Go.VC
set_option maxHeartbeats 1000000
set_option maxRecDepth 100000

theorem T37 : IntStr Try.prog 37 3 := ⟨by kernel_rfl, by kernel_rfl, by kernel_rfl, by kernel_rfl, by kernel_rfl⟩
theorem opNe {T : Nat} (A : IntStr Try.prog T 3) (a b : Ev) (w : World) : Sem.run Try.prog (aggEq .neq T (.agg [(.int .i64 a.t), (.int .i64 a.k), (.int .i64 a.i)].toArray) (.agg [(.int .i64 b.t), (.int .i64 b.k), (.int .i64 b.i)].toArray)) w = .ok (.bool (!decide (a = b))) w := by
  have h := aggNe_str A (xs := [a.t, a.k, a.i]) (ys := [b.t, b.k, b.i]) rfl rfl w
  have e : decide ([a.t, a.k, a.i] = [b.t, b.k, b.i]) = decide (a = b) := by
    obtain ⟨a1, a2, a3⟩ := a; obtain ⟨b1, b2, b3⟩ := b; simp
  rw [e] at h
  exact h
theorem c23 {w : World} {s s' : Sl} {l l' : List Ev} (hs : Hs w s l) (hs' : Hs w s' l') (hl : l.length ≤ big) :
    Calls Try.prog 23 [.slice s.a s.n s.c, .slice s'.a s'.n s'.c].toArray w fun e w' => e = .returned (.bool (decide (l = l'))) ∧ Ext w w' := by
  refine (call23 s s' (R := fun v w' => v = .bool (decide (l = l')) ∧ Ext w w') ?_).mono fun e w' ⟨v, he, hv, hx⟩ => ⟨by rw [he, hv], hx⟩
  have h1 := hs.len
  have h2 := hs'.len
  refine cond_intro (fun h => ?_) (fun h => ?_)
  · have h : ¬ l = l' := by rintro rfl; simp [h1, h2] at h
    exact ⟨by simp [h], Fr.refl _ w⟩
  · have h : l.length = l'.length := by simp at h; omega
    refine Join.dir (rangeI (fun i w2 => l.take i = l'.take i ∧ Ext w w2) (by rw [hs.len]; exact hl) ⟨by simp, Fr.refl _ w⟩ ?_ ?_)
    · rintro i hi w2 ⟨hn, hx⟩ K hK
      have hi : i < l.length := by omega
      have hi' : i < l'.length := by omega
      refine Let.intro fun w4 e4 => ?_
      have hx4 : Ext w w4 := by rw [e4]; exact hx.trans (Ext.drew _)
      obtain ⟨p, hp, h1, h2, hr⟩ := Sli.at eO_len (hs.ext hx4) hi
      obtain ⟨p', hp', h1', h2', hr'⟩ := Sli.at eO_len (hs'.ext hx4) hi'
      refine ⟨p, hp, h1, h2, _, _, _, hr, p', hp', h1', h2', _, _, _, hr', _, fun w => opNe T38 l[i] l'[i] w, cond_intro (fun hc => ?_) (fun hc => ?_)⟩
      · have h : ¬ l[i] = l'[i] := by simpa using hc
        exact ⟨by simp; rintro rfl; exact h rfl, hx4⟩
      · have h : l[i] = l'[i] := by simpa using hc
        exact hK _ ⟨by rw [List.take_succ_eq_append_getElem hi, List.take_succ_eq_append_getElem hi', hn, h], hx4⟩
    · rintro w2 ⟨hn, hx⟩
      rw [hs.len, List.take_length, h, List.take_length] at hn
      exact ⟨by simp [hn], hx⟩
theorem c21 {w : World} {s s' : Sl} {l l' : List Ev} (hs : Hs w s l) (hs' : Hs w s' l') (hl : l.length ≤ big) :
    Calls Try.prog 21 [.slice s.a s.n s.c, .slice s'.a s'.n s'.c].toArray w fun e w' => e = .returned (.bool (decide (l = l'))) ∧ Ext w w' := by
  refine (call21 s s' (R := fun v w' => v = .bool (decide (l = l')) ∧ Ext w w') ?_).mono fun e w' ⟨v, he, hv, hx⟩ => ⟨by rw [he, hv], hx⟩
  have h1 := hs.len
  have h2 := hs'.len
  refine cond_intro (fun h => ?_) (fun h => ?_)
  · have h : ¬ l = l' := by rintro rfl; simp [h1, h2] at h
    exact ⟨by simp [h], Fr.refl _ w⟩
  · have h : l.length = l'.length := by simp at h; omega
    refine Join.dir (rangeI (fun i w2 => l.take i = l'.take i ∧ Ext w w2) (by rw [hs.len]; exact hl) ⟨by simp, Fr.refl _ w⟩ ?_ ?_)
    · rintro i hi w2 ⟨hn, hx⟩ K hK
      have hi : i < l.length := by omega
      have hi' : i < l'.length := by omega
      refine Let.intro fun w4 e4 => ?_
      have hx4 : Ext w w4 := by rw [e4]; exact hx.trans (Ext.drew _)
      obtain ⟨p, hp, h1, h2, hr⟩ := Sli.at eO_len (hs.ext hx4) hi
      obtain ⟨p', hp', h1', h2', hr'⟩ := Sli.at eO_len (hs'.ext hx4) hi'
      refine ⟨p, hp, h1, h2, _, _, _, hr, p', hp', h1', h2', _, _, _, hr', _, fun w => opNe T37 l[i] l'[i] w, cond_intro (fun hc => ?_) (fun hc => ?_)⟩
      · have h : ¬ l[i] = l'[i] := by simpa using hc
        exact ⟨by simp; rintro rfl; exact h rfl, hx4⟩
      · have h : l[i] = l'[i] := by simpa using hc
        exact hK _ ⟨by rw [List.take_succ_eq_append_getElem hi, List.take_succ_eq_append_getElem hi', hn, h], hx4⟩
    · rintro w2 ⟨hn, hx⟩
      rw [hs.len, List.take_length, h, List.take_length] at hn
      exact ⟨by simp [hn], hx⟩
/-- What Lock makes of a valid history. -/
theorem lockP_facts {h : List Ev} (hv : Valid h) : Valid (lockP h).dn ∧ Clean (lockP h).dn := by
  have v := lockP_lj (h := h) hv.1.1
  exact ⟨done_valid hv v.li, v.li.dn.clean⟩
theorem hawake {w w' : World} (hx : Ext w w') : Calls Try.prog 14 [].toArray w' fun e w2 => ∃ b : Bool, e = .returned (.bool b) ∧ (Value.bool b = .bool true ∧ Ext w w2) := (c14 w').mono fun e w2 ⟨he, hx2⟩ => ⟨true, he, rfl, hx.trans hx2⟩

theorem c6 {w : World} {s : Sl} {h : List Ev} (hs : Hs w s h) (hl : h.length ≤ big) :
    Calls Try.prog 6 [.slice s.a s.n s.c].toArray w fun e w' => e = .returned (.bool true) ∧ Ext w w' := by
  refine (call6 s (R := fun v w' => v = .bool true ∧ Ext w w') ?_).mono fun e w' ⟨v, he, hv, hx⟩ => ⟨by rw [he, hv], hx⟩
  refine (of_ok hs hl).mono fun e w1 ⟨s10, he, ho10, hx1⟩ => ⟨s10, he, ?_⟩
  refine (c19 ho10.sli (by simp; omega)).mono fun e w2 ⟨s1, s2, x, he, hcase, hx2⟩ => ⟨s1, s2, x, he, ?_⟩
  have hx02 := hx1.trans hx2
  rcases hcase with ⟨hnv, _, _, rfl⟩ | ⟨hv, ho1, ho2, rfl⟩
  · refine cond_intro (fun _ => Join.dir (cond_intro (fun _ => hawake hx02) (fun hc => by simp at hc))) (fun hc => by simp at hc)
  obtain ⟨hv2, hcl⟩ := lockP_facts hv
  obtain ⟨e1, e2⟩ := lock_twice hcl
  generalize (lockP (h.take 43)).dn = l at ho1 hv2 hcl e1 e2
  refine cond_intro (fun hc => by simp at hc) (fun _ => ?_)
  have hl40 := hv2.2
  refine (c19 ho1.sli (by omega)).mono fun e w5 ⟨s3, s4, y, he, hcase, hx5⟩ => ⟨s3, s4, y, he, ?_⟩
  rcases hcase with ⟨hnv, _⟩ | ⟨_, ho3, ho4, rfl⟩
  · exact absurd hv2 hnv
  rw [e1] at ho3
  rw [e2] at ho4
  have n4 := ho4.1
  refine Join.dir (cond_intro (fun _ => ?_) (fun hc => by simp at hc))
  refine (c23 (ho1.sli.ext hx5) ho3.sli (by show l.length ≤ 9223372036854775807; omega)).mono fun e w7 ⟨he, hx7⟩ => ⟨_, he, cond_intro (fun _ => cond_intro (fun _ => hawake ((hx02.trans hx5).trans hx7)) (fun hc => ?_)) (fun hc => by simp at hc)⟩
  simp at n4; simp [n4] at hc
end Go.Proofs.Ytnbkihkdfhjlmaa
