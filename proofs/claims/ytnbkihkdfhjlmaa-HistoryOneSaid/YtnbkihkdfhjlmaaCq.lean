/-
  Contract: Cycle.
-/
import Derived.Test.YtnbkihkdfhjlmaaCp
namespace Go.Proofs.Ytnbkihkdfhjlmaa
open Go Go.VC
set_option maxHeartbeats 400000

theorem zc75 : (zc Try.prog 75).size = 1 := by kernel_rfl
theorem zc52 : (zc Try.prog 52).size = 1 := by kernel_rfl
theorem zc24v : zc Try.prog 24 = [.slice none 0 0].toArray := by kernel_rfl
/-- What Cycle returns of a valid history. -/
def cyc (E : Int → Int → Bool) (l : List Int) : Option (List Int) := (List.range (l.length - 1)).findSome? fun k => l.findSome? fun t => grow E l (k + 1) [t]
def progC (h : List Ev) : Option (List Int) := cyc (conf (part h)) (com h)
theorem findSome_none_step {α β : Type} {l : List α} {f : α → Option β} {i : Nat} (hi : i < l.length) (hn : ∀ y ∈ l.take i, f y = none) (hx : f l[i] = none) : ∀ y ∈ l.take (i + 1), f y = none := by
  intro y hy
  rw [List.take_succ_eq_append_getElem hi] at hy
  rcases List.mem_append.1 hy with hy | hy
  · exact hn y hy
  · rw [List.mem_singleton.1 hy]; exact hx

theorem Cy.lt {E : Int → Int → Bool} {l : List Int} {w0 : World} {b pf pe pl pt : Nat} {sl : Sl} {w : World} (h : Cy E l w0 b pf pe pl pt sl w) : pf < w.heap.size := by
  obtain ⟨sf, hsf⟩ := h.found
  exact hsf.lt
theorem c18 {w : World} {s : Sl} {h : List Ev} (hs : Hs w s h) (hl : h.length ≤ 100) :
    Calls Try.prog 18 [.slice s.a s.n s.c].toArray w fun e w' => ∃ (s' : Sl) (x : Int), e = .returned (.tuple [.slice s'.a s'.n s'.c, .int .i64 x].toArray) ∧
      ((¬ Valid h ∧ s'.n = 0 ∧ x = 2) ∨ (Valid h ∧ Ints w' s' ((progC h).getD []) ∧ x = if (progC h).isSome then 0 else 5)) ∧ Ext w w' := by
  refine (call18 s (R := fun v w' => ∃ (s' : Sl) (x : Int), v = (.tuple [.slice s'.a s'.n s'.c, .int .i64 x].toArray) ∧
      ((¬ Valid h ∧ s'.n = 0 ∧ x = 2) ∨ (Valid h ∧ Ints w' s' ((progC h).getD []) ∧ x = if (progC h).isSome then 0 else 5)) ∧ Ext w w') ?_).mono fun e w' ⟨v, he, s', x, hv, hx⟩ => ⟨s', x, by rw [he, hv], hx⟩
  have hbig : h.length ≤ big := by show h.length ≤ 9223372036854775807; omega
  refine (c26 hs hbig).mono fun e w1 ⟨he, hx1⟩ => ⟨_, he, cond_intro (fun hc => ?_) (fun hc => ?_)⟩
  · have hc : ¬ Valid h := by simpa using hc
    exact ⟨⟨none, 0, 0⟩, 2, rfl, .inl ⟨hc, rfl, rfl⟩, hx1⟩
  have hval : Valid h := by simpa using hc
  refine (c34 (hs.ext hx1) (by omega)).mono fun e w2 ⟨s15, he, ho15, hx2⟩ => ⟨s15, he, ?_⟩
  have hlp : (part h).length ≤ 100 := Nat.le_trans (List.length_filter_le ..) hl
  refine (c43 ho15.sli (by omega)).mono fun e w3 ⟨he, hm, hx3⟩ => ⟨_, he, ?_⟩
  refine (c36 (((hs.ext hx1).ext hx2).ext hx3) hbig).mono fun e w4 ⟨s18, he, ho18, hx4⟩ => ⟨s18, he, ?_⟩
  refine Let.intro fun w5 e5 => Let.intro fun w6 e6 => ?_
  have hx5 : Ext w4 w5 := by rw [e5]; exact Ext.alloc ..
  have hx6 : Ext w5 w6 := by rw [e6]; exact Ext.alloc ..
  have hz5 : Blk w5 w4.heap.size (zc Try.prog 75).toList 75 := by rw [e5]; simpa using Blk.alloc w4 (zc Try.prog 75).toList 75
  have hz6 : Blk w6 w5.heap.size (zc Try.prog 24).toList 24 := by rw [e6]; simpa using Blk.alloc w5 (zc Try.prog 24).toList 24
  have n5 := hz5.lt
  have n6 := hz6.lt
  have hz56 := hz5.ext hx6
  refine ⟨hz56.storeOk rfl (by simp [Value.oneCell']) (by simp [zc75]), Let.intro fun w7 e7 => ?_⟩
  have hf7 : Fr (fun k => k = w4.heap.size) w6 w7 := by rw [e7]; exact Fr.put ..
  have hb7 := hz56.put (o := 0) (vs := [.map (some w2.heap.size)])
  rw [show setR (zc Try.prog 75).toList 0 [.map (some w2.heap.size)] = [.map (some w2.heap.size)] from by
    simpa using setR_all (vs := [.map (some w2.heap.size)]) (l := (zc Try.prog 75).toList) (pre := []) (by simp [zc75]), ← e7] at hb7
  have hz67 := hz6.fr hf7 (by omega)
  refine ⟨hz67.storeOk rfl (by simp [Value.oneCell']) (by simp [zc24]), Let.intro fun w8 e8 => ?_⟩
  have hf8 : Fr (fun k => k = w5.heap.size) w7 w8 := by rw [e8]; exact Fr.put ..
  have hb8 := hz67.put (o := 0) (vs := [.slice s18.a s18.n s18.c])
  rw [show setR (zc Try.prog 24).toList 0 [.slice s18.a s18.n s18.c] = [.slice s18.a s18.n s18.c] from by
    simpa using setR_all (vs := [.slice s18.a s18.n s18.c]) (l := (zc Try.prog 24).toList) (pre := []) (by simp [zc24]), ← e8] at hb8
  have hx48 : Ext w4 w8 := ((hx5.trans hx6).newer hf7 fun k hk => by omega).newer hf8 fun k hk => by omega
  have hx08 := (((hx1.trans hx2).trans hx3).trans hx4).trans hx48
  refine Let.intro fun w9 e9 => Let.intro fun w10 e10 => ?_
  have hx9 : Ext w8 w9 := by rw [e9]; exact Ext.alloc ..
  have hb9 : Blk w9 w8.heap.size [.slice none 0 0] 24 := by rw [e9, zc24v]; exact Blk.alloc ..
  have n9 := hb9.lt
  obtain ⟨hst11, hb11, hx11⟩ := new_var w9 52 (z := zc Try.prog 52) (vs := [.func (.func 45) #[] (capsC w8.heap.size w4.heap.size w5.heap.size w9.heap.size).toArray]) zc52 (by simp [Value.oneCell'])
  rw [← e10] at hst11 hb11 hx11
  refine ⟨hst11, Let.intro fun w11 e11 => ?_⟩
  have hb11 : Blk w11 w9.heap.size [.func (.func 45) #[] (capsC w8.heap.size w4.heap.size w5.heap.size w9.heap.size).toArray] 52 := by rw [e11]; exact hb11
  have hx11 : Ext w9 w11 := by rw [e11]; exact hx11
  have F : CyF (conf (part h)) (com h) w8 w2.heap.size w8.heap.size w4.heap.size w5.heap.size w9.heap.size s18 :=
    ⟨(hm.ext hx4).ext hx48, hb7.fr hf8 (by omega), hb8, ho18.sli.ext hx48, Nat.le_refl _, by omega, com_len h⟩
  have hC11 : Cy (conf (part h)) (com h) w8 w2.heap.size w8.heap.size w4.heap.size w5.heap.size w9.heap.size s18 w11 := ⟨hx9.trans hx11, ⟨⟨none, 0, 0⟩, hb9.ext hx11⟩, hb11⟩
  have hcl := com_len h
  have hnl := F.li.len
  have hrl : (List.range ((com h).length - 1)).length = (com h).length - 1 := List.length_range
  refine Join.dir (LoopV.intro (fun m (x : Int) w' => ∃ k : Nat, x = (k : Int) + 2 ∧ k ≤ 6 ∧ m = 7 - k ∧ Cy (conf (part h)) (com h) w8 w2.heap.size w8.heap.size w4.heap.size w5.heap.size w9.heap.size s18 w' ∧
      (∀ j ∈ (List.range ((com h).length - 1)).take k, ((com h).findSome? fun t => grow (conf (part h)) (com h) (j + 1) [t]) = none) ∧ (k = 0 ∨ k + 1 ≤ (com h).length)) 7
    ⟨0, rfl, by omega, by omega, hC11, by simp, .inl rfl⟩ ?_)
  rintro m x w13 ⟨k, rfl, hk6, rfl, hC, hno, hk1⟩
  refine ⟨s18, (F.lv.ext hC.base).cell 0, cond_intro (fun hc => ?_) (fun hc => ?_)⟩
  · have hk : k + 2 ≤ (com h).length := by have : (k : Int) + 2 ≤ (s18.n : Int) := by simpa using hc
                                           omega
    have hkr : k < (List.range ((com h).length - 1)).length := by omega
    refine Join.dir ⟨s18, (F.lv.ext hC.base).cell 0, Join.dir (rangeI (fun i w' => Cy (conf (part h)) (com h) w8 w2.heap.size w8.heap.size w4.heap.size w5.heap.size w9.heap.size s18 w' ∧
      ∀ t ∈ (com h).take i, grow (conf (part h)) (com h) (k + 1) [t] = none) (by rw [hnl]; exact Nat.le_trans hcl (by decide)) ⟨hC, by simp⟩ ?_ ?_)⟩
    · rintro i hi w16 ⟨hC16, hno16⟩ K hK
      have hi : i < (com h).length := by omega
      obtain ⟨p, hp, h1, h2, hr⟩ := Ints.at (F.li.ext hC16.base) hi
      refine ⟨p, hp, h1, h2, _, hr, 45, capsC w8.heap.size w4.heap.size w5.heap.size w9.heap.size, hC16.self.cell 0, ⟨some ⟨w16.heap.size, 0, none⟩, 1, 1⟩, _, buildOne_run E24 (v := .int .i64 (com h)[i]) (vs := eI (com h)[i]) rfl rfl (by omega) w16, ?_⟩
      have hx18 := Ext.alloc w16 (.cells (eI (com h)[i]).toArray 3)
      have z16 := hC16.base.size
      have ho18' : Own 3 1 eI w16.heap.size (w16.alloc (.cells (eI (com h)[i]).toArray 3)) ⟨some ⟨w16.heap.size, 0, none⟩, 1, 1⟩ [(com h)[i]] := Own.one w16 _ rfl
      have npt := hC16.self.lt
      have npf := hC16.lt
      rw [callable45]
      have hcall := c45 F (k + 1) [(com h)[i]] ⟨some ⟨w16.heap.size, 0, none⟩, 1, 1⟩ _ (by simp) (by simp; omega) (hC16.ext hx18) ⟨ho18'.mono z16, fun a ha => by
        have : a = ⟨w16.heap.size, 0, none⟩ := (Option.some.inj ha).symm
        subst this
        exact ⟨by show w16.heap.size ≠ _; omega, by show w16.heap.size ≠ _; omega⟩⟩
      rw [show ((([(com h)[i]] : List Int).length + (k + 1) : Nat) : Int) = (k : Int) + 2 from by simp; omega] at hcall
      refine hcall.mono fun ee w19 ⟨he, hC19, _, _, hg⟩ => ⟨_, he, cond_intro (fun hr => ?_) (fun hr => ?_)⟩
      · obtain ⟨r, hr'⟩ := Option.isSome_iff_exists.1 hr
        have hp1 : ((com h).findSome? fun t => grow (conf (part h)) (com h) (k + 1) [t]) = some r := findSome_take hno16 (List.getElem?_eq_getElem hi) hr'
        have hp : progC h = some r := findSome_take hno (List.getElem?_eq_getElem hkr) (by rw [List.getElem_range]; exact hp1)
        obtain ⟨sf, hsf, hif⟩ := hg r hr'
        exact ⟨sf, hsf.cell 0, sf, 0, rfl, .inr ⟨hval, by rw [hp]; exact hif, by rw [hp]; rfl⟩, hx08.trans hC19.base⟩
      · refine hK _ ⟨hC19, findSome_none_step (f := fun t => grow (conf (part h)) (com h) (k + 1) [t]) hi hno16 (Option.not_isSome_iff_eq_none.1 (by rw [hr]; simp))⟩
    · rintro w16 ⟨hC16, hno16⟩
      rw [hnl, List.take_length] at hno16
      refine ⟨7 - (k + 1), by omega, k + 1, by rw [wrap64 (by omega) (by omega)]; omega, by omega, rfl, hC16, ?_, .inr (by omega)⟩
      refine findSome_none_step (f := fun j => (com h).findSome? fun t => grow (conf (part h)) (com h) (j + 1) [t]) hkr hno ?_
      rw [List.getElem_range]
      exact List.findSome?_eq_none_iff.2 hno16
  · have hk : ¬ k + 2 ≤ (com h).length := by have : ¬ (k : Int) + 2 ≤ (s18.n : Int) := by simpa using hc
                                             omega
    have hp : progC h = none := by
      unfold progC cyc
      refine List.findSome?_eq_none_iff.2 fun j hj => hno j ?_
      rw [List.take_of_length_le (by omega)]; exact hj
    exact ⟨⟨none, 0, 0⟩, 5, rfl, .inr ⟨hval, by rw [hp]; exact Sli.nil .., by rw [hp]; rfl⟩, hx08.trans hC.base⟩
end Go.Proofs.Ytnbkihkdfhjlmaa
