/-
  Contract: the program's View.
-/
import Derived.Test.YtnbkihkdfhjlmaaCl
namespace Go.Proofs.Ytnbkihkdfhjlmaa
open Go Go.VC
set_option maxHeartbeats 400000

theorem zc29 : (zc Try.prog 29).size = 1 := by kernel_rfl
theorem zc24 : (zc Try.prog 24).size = 1 := by kernel_rfl
theorem zc32 : (zc Try.prog 32).size = 1 := by kernel_rfl
/-- What View returns of a valid history. -/
noncomputable def progV (h : List Ev) : Option (List Int) := search h (com h).length []
theorem c11 {w : World} {s : Sl} {h : List Ev} (hs : Hs w s h) (hl : h.length ≤ 100) :
    Calls Try.prog 11 [.slice s.a s.n s.c].toArray w fun e w' => ∃ (s' : Sl) (x : Int), e = .returned (.tuple [.slice s'.a s'.n s'.c, .int .i64 x].toArray) ∧
      ((¬ Valid h ∧ s'.n = 0 ∧ x = 2) ∨ (Valid h ∧ Ints w' s' ((progV h).getD []) ∧ x = if (progV h).isSome then 0 else 5)) ∧ Ext w w' := by
  refine (call11 s (R := fun v w' => ∃ (s' : Sl) (x : Int), v = (.tuple [.slice s'.a s'.n s'.c, .int .i64 x].toArray) ∧
      ((¬ Valid h ∧ s'.n = 0 ∧ x = 2) ∨ (Valid h ∧ Ints w' s' ((progV h).getD []) ∧ x = if (progV h).isSome then 0 else 5)) ∧ Ext w w') ?_).mono fun e w' ⟨v, he, s', x, hv, hx⟩ => ⟨s', x, by rw [he, hv], hx⟩
  have hbig : h.length ≤ big := by show h.length ≤ 9223372036854775807; omega
  refine (c26 hs hbig).mono fun e w1 ⟨he, hx1⟩ => ⟨_, he, cond_intro (fun hc => ?_) (fun hc => ?_)⟩
  · have hc : ¬ Valid h := by simpa using hc
    exact ⟨⟨none, 0, 0⟩, 2, rfl, .inl ⟨hc, rfl, rfl⟩, hx1⟩
  have hval : Valid h := by simpa using hc
  have hok := hval.1.1
  refine (c34 (hs.ext hx1) (by omega)).mono fun e w2 ⟨s13, he, ho13, hx2⟩ => ⟨s13, he, Let.intro fun w3 e3 => ?_⟩
  obtain ⟨hst4, hb4, hx4⟩ := new_var w2 29 (z := zc Try.prog 29) (vs := [.slice s13.a s13.n s13.c]) zc29 (by simp [Value.oneCell'])
  rw [← e3] at hst4 hb4 hx4
  refine ⟨hst4, Let.intro fun w4 e4 => ?_⟩
  rw [← e4] at hb4 hx4
  have hokp : ∀ o ∈ part h, okOp o := fun o ho => hok o (List.mem_filter.1 ho).1
  have hlp : (part h).length ≤ 100 := Nat.le_trans (List.length_filter_le ..) hl
  refine ⟨s13, hb4.cell 0, (c35 (ho13.sli.ext hx4) hokp (by omega)).mono fun e w5 ⟨m, a, b, c, d, e', f, he, hv5, hx5⟩ => ⟨m, a, b, c, d, e', f, he, ?_⟩⟩
  have hx05 := ((hx1.trans hx2).trans hx4).trans hx5
  refine (c36 (hs.ext hx05) hbig).mono fun e w6 ⟨s17, he, ho17, hx6⟩ => ⟨s17, he, ?_⟩
  refine Let.intro fun w7 e7 => Let.intro fun w8 e8 => ?_
  -- the view's variable
  have hz7 : Blk w7 w6.heap.size (zc Try.prog 65).toList 65 := by rw [e7]; simpa using Blk.alloc w6 (zc Try.prog 65).toList 65
  have hx7 : Ext w6 w7 := by rw [e7]; exact Ext.alloc ..
  have hz8 : Blk w8 w7.heap.size (zc Try.prog 24).toList 24 := by rw [e8]; simpa using Blk.alloc w7 (zc Try.prog 24).toList 24
  have hx8 : Ext w7 w8 := by rw [e8]; exact Ext.alloc ..
  have hone : ∀ v ∈ ([.map m, .int .i64 a, .int .i64 b, .int .i64 c, .int .i64 d, .int .i64 e', .int .i64 f] : List Value), v.oneCell' = true := by
    intro v hv; simp at hv; rcases hv with rfl | rfl | rfl | rfl | rfl | rfl | rfl <;> rfl
  have hz78 := hz7.ext hx8
  refine ⟨hz78.storeOk rfl hone (by simp [zc65]), Let.intro fun w9 e9 => ?_⟩
  have hf9 : Fr (fun k => k = w6.heap.size) w8 w9 := by rw [e9]; exact Fr.put ..
  have hb9 := hz78.put (o := 0) (vs := [.map m, .int .i64 a, .int .i64 b, .int .i64 c, .int .i64 d, .int .i64 e', .int .i64 f])
  rw [show setR (zc Try.prog 65).toList 0 [.map m, .int .i64 a, .int .i64 b, .int .i64 c, .int .i64 d, .int .i64 e', .int .i64 f] = [.map m, .int .i64 a, .int .i64 b, .int .i64 c, .int .i64 d, .int .i64 e', .int .i64 f] from by
    simpa using setR_all (vs := [.map m, .int .i64 a, .int .i64 b, .int .i64 c, .int .i64 d, .int .i64 e', .int .i64 f]) (l := (zc Try.prog 65).toList) (pre := []) (by simp [zc65]), ← e9] at hb9
  have n7 : w6.heap.size < w7.heap.size := hz7.lt
  have n8 : w7.heap.size < w8.heap.size := hz8.lt
  have hz89 := hz8.fr hf9 (by omega)
  refine ⟨hz89.storeOk rfl (by simp [Value.oneCell']) (by simp [zc24]), Let.intro fun w10 e10 => ?_⟩
  have hf10 : Fr (fun k => k = w7.heap.size) w9 w10 := by rw [e10]; exact Fr.put ..
  have hb10 := hz89.put (o := 0) (vs := [.slice s17.a s17.n s17.c])
  rw [show setR (zc Try.prog 24).toList 0 [.slice s17.a s17.n s17.c] = [.slice s17.a s17.n s17.c] from by
    simpa using setR_all (vs := [.slice s17.a s17.n s17.c]) (l := (zc Try.prog 24).toList) (pre := []) (by simp [zc24]), ← e10] at hb10
  have hx69 : Ext w6 w9 := (hx7.trans hx8).newer hf9 fun k hk => by omega
  have hx610 : Ext w6 w10 := hx69.newer hf10 fun k hk => by omega
  have hx010 := (hx05.trans hx6).trans hx610
  -- what stands still
  have F : Fixd h w10 w7.heap.size w2.heap.size w6.heap.size s17 s13 m a b c d e' f :=
    ⟨hb10, ho17.sli.ext hx610, ((hb4.ext hx5).ext hx6).ext hx610, (((ho13.sli.ext hx4).ext hx5).ext hx6).ext hx610, hb9.fr hf10 (by omega), (hv5.ext hx6).ext hx610⟩
  refine ⟨⟨some ⟨w10.heap.size, 0, none⟩, 0, 0⟩, _, buildNone_run E24 w10, ?_⟩
  generalize hw11 : (w10.alloc (.cells #[] 3)) = w11
  refine Let.intro fun w12 e12 => ?_
  have hx11 : Ext w10 w11 := by rw [← hw11]; exact Ext.alloc ..
  have ho11 : Own 3 1 eI w10.heap.size w11 ⟨some ⟨w10.heap.size, 0, none⟩, 0, 0⟩ ([] : List Int) := by rw [← hw11]; exact Own.empty w10
  have n11 : w10.heap.size < w11.heap.size := (ho11.base rfl).2
  obtain ⟨hst13, hb13, hx13⟩ := new_var w11 24 (z := zc Try.prog 24) (vs := [.slice (some ⟨w10.heap.size, 0, none⟩) 0 0]) zc24 (by simp [Value.oneCell'])
  rw [← e12] at hst13 hb13 hx13
  refine ⟨hst13, Let.intro fun w13 e13 => ?_⟩
  rw [← e13] at hb13 hx13
  have n13 : w11.heap.size < w13.heap.size := hb13.lt
  obtain ⟨hst15, hb15, hx15⟩ := new_var w13 32 (z := zc Try.prog 32) (vs := [.func (.func 37) #[] (caps w11.heap.size w7.heap.size w2.heap.size w6.heap.size w13.heap.size).toArray]) zc32 (by simp [Value.oneCell'])
  refine Let.intro fun w14 e14 => ?_
  rw [← e14] at hst15 hb15 hx15
  refine ⟨hst15, Let.intro fun w15 e15 => ?_⟩
  have hb15 : Blk w15 w13.heap.size [.func (.func 37) #[] (caps w11.heap.size w7.heap.size w2.heap.size w6.heap.size w13.heap.size).toArray] 32 := by rw [e15]; exact hb15
  have hx15 : Ext w13 w15 := by rw [e15]; exact hx15
  have hT : Tr w10 w11.heap.size w7.heap.size w2.heap.size w6.heap.size w13.heap.size w15 [] :=
    ⟨(hx11.trans hx13).trans hx15, ⟨⟨some ⟨w10.heap.size, 0, none⟩, 0, 0⟩, hb13.ext hx15, (ho11.ext hx13).ext hx15, fun x hx => by
      have : x = ⟨w10.heap.size, 0, none⟩ := (Option.some.inj hx).symm
      subst this
      exact ⟨by show w10.heap.size ≠ w11.heap.size; omega, by show w10.heap.size ≠ w13.heap.size; omega⟩⟩, hb15⟩
  refine ⟨37, caps w11.heap.size w7.heap.size w2.heap.size w6.heap.size w13.heap.size, hb15.cell 0, ?_⟩
  rw [callable37]
  refine (c37 F hok hl (by omega) (by omega) (com h).length [] w15 (by simp) hT).mono fun e w16 ⟨he, hT16⟩ => ⟨_, he, ?_⟩
  have hx16 : Ext w w16 := hx010.trans hT16.base
  show cond (!(progV h).isSome) _ _
  have hT16 : Tr w10 w11.heap.size w7.heap.size w2.heap.size w6.heap.size w13.heap.size w16 ((progV h).getD []) := hT16
  cases hp : progV h with
  | none => exact ⟨⟨none, 0, 0⟩, 5, rfl, .inr ⟨hval, Sli.nil .., rfl⟩, hx16⟩
  | some r =>
    rw [hp] at hT16
    obtain ⟨so, hso, ho, _⟩ := hT16.ord
    exact ⟨so, hso.cell 0, so, 0, rfl, .inr ⟨hval, ho.sli, rfl⟩, hx16⟩
end Go.Proofs.Ytnbkihkdfhjlmaa
