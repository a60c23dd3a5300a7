/-
  Contract: the law HistoryOne.
-/
import Derived.Test.YtnbkihkdfhjlmaaDj
namespace Go.Proofs.Ytnbkihkdfhjlmaa
open Go Go.VC
set_option maxHeartbeats 1000000

theorem progO_len' (h : List Ev) : ((progO h).getD []).length ≤ big := progO_len h
theorem tmod_next {i n : Nat} (hn : i < n) (hb : n ≤ 6) : (IntKind.wrap .i64 ((i : Int) + 1)).tmod (n : Int) = (((i + 1) % n : Nat) : Int) := by
  rw [wrap64 (by omega) (by omega)]
  rw [show (i : Int) + 1 = ((i + 1 : Nat) : Int) from rfl]
  rfl
theorem c7 {w : World} {s : Sl} {h : List Ev} (hs : Hs w s h) (hl : h.length ≤ big) :
    Calls Try.prog 7 [.slice s.a s.n s.c].toArray w fun e w' => e = .returned (.bool true) ∧ Ext w w' := by
  refine (call7 s (R := fun v w' => v = .bool true ∧ Ext w w') ?_).mono fun e w' ⟨v, he, hv, hx⟩ => ⟨by rw [he, hv], hx⟩
  have hn := hs.len
  have ht : (h.take 43).length ≤ 100 := by simp; omega
  refine (of_ok hs hl).mono fun e w1 ⟨s19, he, ho19, hx1⟩ => ⟨s19, he, ?_⟩
  refine (c17 ho19.sli ht).mono fun e w2 ⟨s20, x20, he, hc20, hx2⟩ => ⟨s20, x20, he, ?_⟩
  have hx02 := hx1.trans hx2
  refine (of_ok (hs.ext hx02) hl).mono fun e w3 ⟨s25, he, ho25, hx3⟩ => ⟨s25, he, ?_⟩
  refine (c18 ho25.sli ht).mono fun e w4 ⟨s26, x26, he, hc26, hx4⟩ => ⟨s26, x26, he, ?_⟩
  have hx04 := (hx02.trans hx3).trans hx4
  refine (of_ok (hs.ext hx04) hl).mono fun e w5 ⟨s31, he, ho31, hx5⟩ => ⟨s31, he, ?_⟩
  refine (c11 ho31.sli ht).mono fun e w6 ⟨s32, x32, he, hc32, hx6⟩ => ⟨s32, x32, he, ?_⟩
  have hx06 := (hx04.trans hx5).trans hx6
  have hx46 := hx5.trans hx6
  have hx26 := (hx3.trans hx4).trans hx46
  rw [valid_take] at hc20 hc26 hc32
  have hawake : ∀ w', Ext w w' → Calls Try.prog 14 [].toArray w' fun e w2 => ∃ b : Bool, e = .returned (.bool b) ∧ (Value.bool b = .bool true ∧ Ext w w2) := fun w' hx => (c14 w').mono fun e w2 ⟨he, hx2⟩ => ⟨true, he, rfl, hx.trans hx2⟩
  by_cases hv : Valid h
  rotate_left
  · rcases hc20 with ⟨_, _, rfl⟩ | ⟨h1, _⟩
    rotate_left
    · exact absurd h1 hv
    rcases hc26 with ⟨_, _, rfl⟩ | ⟨h1, _⟩
    rotate_left
    · exact absurd h1 hv
    rcases hc32 with ⟨_, _, rfl⟩ | ⟨h1, _⟩
    rotate_left
    · exact absurd h1 hv
    refine cond_intro (fun _ => Join.dir (cond_intro (fun _ => cond_intro (fun _ => hawake _ hx06) (fun hc => ?_)) (fun hc => ?_))) (fun hc => ?_)
    · simp at hc
    · simp at hc
    · simp at hc
  have hself := valid_self hv
  rw [hself] at hc20 hc26 hc32
  rcases hc20 with ⟨h1, _⟩ | ⟨_, hi20, hx20⟩
  · exact absurd hv h1
  rcases hc26 with ⟨h1, _⟩ | ⟨_, hi26, hx26e⟩
  · exact absurd hv h1
  rcases hc32 with ⟨h1, _⟩ | ⟨_, hi32, hx32⟩
  · exact absurd hv h1
  cases ho : progO h with
  | some r =>
    obtain ⟨hcn, c, hpv, hcmp⟩ := one_ok hv.1 ho
    rw [ho] at hi20 hx20
    rw [hcn] at hx26e
    rw [hpv] at hi32 hx32
    simp only [Option.getD_some, Option.isSome_some, if_true] at hi20 hx20 hi32 hx32
    simp only [Option.isSome_none, Bool.false_eq_true, if_false] at hx26e
    subst hx20
    subst hx26e
    subst hx32
    refine cond_intro (fun hc => ?_) (fun _ => cond_intro (fun _ => Join.dir ?_) (fun hc => ?_))
    · simp at hc
    rotate_left
    · simp at hc
    refine cond_intro (fun _ => cond_intro (fun _ => ?_) (fun hc => ?_)) (fun hc => ?_)
    rotate_left
    · simp at hc
    · simp at hc
    have hcl : c.length ≤ big := by have := progV_len h; rw [hpv] at this; exact this
    refine (c24 hi32 (hi20.ext hx26) hcl).mono fun e w10 ⟨he, hx10⟩ => ⟨_, he, cond_intro (fun _ => hawake _ (hx06.trans hx10)) (fun hc => ?_)⟩
    simp at hc; omega
  | none =>
    obtain ⟨b, hb⟩ := one_loop ho
    obtain ⟨hb2, hpair⟩ := one_pair (c := h) hb
    have hbl : b.length ≤ 6 := by
      obtain ⟨_, hnd, hsub, _⟩ := cyc_some hb
      exact Nat.le_trans (hnd.length_le_of_subset hsub) (com_len h)
    rw [ho] at hx20
    rw [hb] at hi26 hx26e
    simp only [Option.getD_some, Option.isSome_some, if_true] at hi26 hx26e
    simp only [Option.isSome_none, Bool.false_eq_true, if_false] at hx20
    subst hx20
    subst hx26e
    have hn26 := hi26.len
    refine cond_intro (fun hc => ?_) (fun _ => cond_intro (fun hc => ?_) (fun _ => ?_))
    · simp at hc
    · simp at hc
    refine ⟨fun (x : Bool) w' => x = false ∧ w' = w6, ?_, ?_⟩
    rotate_left
    · refine cond_intro (fun hc => ?_) (fun _ => cond_intro (fun hc => ?_) (fun _ => cond_intro (fun hc => ?_) (fun _ => cond_intro (fun h5 => ⟨?_, rfl⟩) (fun _ => ⟨rfl, rfl⟩))))
      · simp at hc
      · simp at hc
      · simp at hc; omega
      · rw [hx32] at h5 ⊢
        cases hpv : progV h with
        | none => rfl
        | some c => rw [hpv] at h5; simp at h5
    rintro x w12 ⟨rfl, rfl⟩
    refine cond_intro (fun hc => by cases hc) (fun _ => ?_)
    refine Join.dir (rangeI (fun i w' => Ext w12 w') (by rw [hn26]; show b.length ≤ 9223372036854775807; omega) (Fr.refl _ _) ?_ ?_)
    · rintro i hi w15 hx15 K hK
      have hi : i < b.length := by omega
      obtain ⟨hj, hr⟩ := hpair i hi
      have hi26' : Ints w15 s26 b := hi26.ext (hx46.trans hx15)
      obtain ⟨p, hp, a1, a2, a3⟩ := Ints.at hi26' hi
      obtain ⟨q, hq, b1, b2, b3⟩ := Ints.at hi26' hj
      have htm := tmod_next hi hbl
      rw [hn26, htm]
      rw [hn26] at a2 b2
      refine ⟨p, hp, a1, a2, _, a3, by omega, q, hq, b1, b2, _, b3, ?_⟩
      generalize hxe : b[i] = x at hr
      generalize hye : b[(i + 1) % b.length] = y at hr
      have hx015 := hx06.trans hx15
      refine (of_ok (hs.ext hx015) hl).mono fun e w17 ⟨s98, he, ho98, hx17⟩ => ⟨s98, he, ?_⟩
      rw [hself] at ho98
      have hn98 := ho98.sli.len
      have h40 := hv.2
      refine Join.dir (rangeSI (fun j (s' : Sl) w' => Own 38 3 eO w17.heap.size w' s' ((h.take j).filter fun o => decide (o.t = x ∨ o.t = y)) ∧ Ext w17 w') (by rw [hn98]; exact hl) ⟨Own.nil .., Fr.refl _ _⟩ ?_ ?_)
      · rintro j hj s12 w23 ⟨ho23, hx23⟩ K2 hK2
        have hj : j < h.length := by omega
        refine loadEv (ho98.sli.ext hx23) hj zc38 fun w26 hb26 hx26' => ?_
        have ho26 := ho23.ext hx26'
        refine ⟨fun (c : Bool) w' => c = decide (h[j].t = x ∨ h[j].t = y) ∧ w' = w26, ?_, ?_⟩
        rotate_left
        · refine ⟨_, hb26.cell 0, cond_intro (fun hc => ⟨?_, rfl⟩) (fun hc => ⟨_, hb26.cell 0, ?_, rfl⟩)⟩
          · have : h[j].t = x := by simpa using hc
            simp [this]
          · have : ¬ h[j].t = x := by simpa using hc
            simp [this]; rfl
        rintro c w27 ⟨rfl, rfl⟩
        refine Join.dir (cond_intro (fun hc => ?_) (fun hc => ?_))
        · obtain ⟨s1, w9, e9, s2, w10, e10, ho2, hf⟩ := appendEv E29 ho26 h[j] (Nat.le_trans (List.length_filter_le ..) (by simp; omega)) (by have := (hx23.trans hx26').size; omega)
          refine ⟨_, _, _, hb26.rd, s1, w9, e9, s2, w10, e10, hK2 _ _ ⟨?_, Own.newer ho26 (hx23.trans hx26') hf (Nat.le_refl _)⟩⟩
          rw [filter_step hj, if_pos hc]; exact ho2
        · refine hK2 _ _ ⟨?_, hx23.trans hx26'⟩
          rw [filter_step hj, if_neg (by rw [hc]; simp), List.append_nil]; exact ho26
      · rintro s12 w18 ⟨ho18, hx18⟩
        rw [hn98, List.take_length] at ho18
        have ho18 : Own 38 3 eO w17.heap.size w18 s12 (two h x y) := ho18
        have hvt : Valid (two h x y) := valid_filter hv _
        refine (c17 ho18.sli (by have := hvt.2; omega)).mono fun e w19 ⟨s121, x121, he, hc121, hx19⟩ => ⟨s121, x121, he, ?_⟩
        rcases hc121 with ⟨h1, _⟩ | ⟨_, hi121, hx121⟩
        · exact absurd hvt h1
        have hx1519 := ((hx15.trans hx17).trans hx18).trans hx19
        refine ⟨fun (c : Bool) w' => c = false ∧ Ext w12 w', ?_, ?_⟩
        · rintro c w20 ⟨rfl, hx20⟩
          exact cond_intro (fun hc => by cases hc) (fun _ => hK _ hx20)
        cases hpo : progO (two h x y) with
        | none =>
          rw [hpo] at hx121
          simp only [Option.isSome_none, Bool.false_eq_true, if_false] at hx121
          subst hx121
          refine cond_intro (fun hc => ?_) (fun _ => cond_intro (fun _ => ⟨rfl, hx1519⟩) (fun _ => ⟨rfl, hx1519⟩))
          simp at hc
        | some r =>
          obtain rfl := hr r hpo
          rw [hpo] at hi121 hx121
          simp only [Option.isSome_some, if_true] at hx121
          subst hx121
          refine cond_intro (fun _ => ?_) (fun hc => ?_)
          rotate_left
          · simp at hc
          have h2 := buildList_run E24 (val := fun o : Int => .int .i64 o) eI_len (fun _ => rfl) [x, y] (by simp) (by simp) w19
          have hs2 := sli_new (size := 1) (enc := eI) w19 [x, y] 3
          have hx3' := Ext.alloc w19 (.cells (([x, y] : List Int).flatMap eI).toArray 3)
          refine ⟨⟨some ⟨w19.heap.size, 0, none⟩, 2, 2⟩, _, h2, ?_⟩
          have hi121 : Ints w19 s121 [x, y] := hi121
          refine (c16 (hi121.ext hx3') hs2 (by show 2 ≤ big; decide)).mono fun e w22 ⟨he, hx22⟩ => ⟨_, he, ?_⟩
          have hxf := (hx1519.trans hx3').trans hx22
          refine cond_intro (fun hc => ?_) (fun _ => cond_intro (fun hc => ?_) (fun _ => ⟨rfl, hxf⟩))
          · simp at hc
          · simp at hc
    · rintro w13 hx13
      exact hawake _ (hx06.trans hx13)
end Go.Proofs.Ytnbkihkdfhjlmaa
