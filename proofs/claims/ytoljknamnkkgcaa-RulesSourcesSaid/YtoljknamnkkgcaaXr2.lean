/-
  Texts Sa of this proof, joined.
-/
import Derived.Test.YtoljknamnkkgcaaXr1
import Derived.Test.YtoljknamnkkgcaaProg
import Derived.KernelRfl
/-
  Printed by a program of this session (wip/tools/vcprint.py): of each Go function the shallow form, and that the calculus comes to it, by the kernel.
-/
namespace Go.Proofs.Ytoljknamnkkgcaa
open Go Go.VC
set_option maxRecDepth 100000
theorem mixed : Try.prog.follows .mixedOrders = true := by kernel_rfl

/-- F126: cmp.isNaN[int] -/
def An126 : An := (.sq .lf (.sq .lf .lf))
def S126 (x0 : Int) (R : Value → World → Prop) (w : World) : Prop :=
  R (.bool (x0 != x0)) w
theorem eq126 (x0 : Int) (R : Value → World → Prop) (w : World) : funV Try.prog Try.f126 An126 [(.int .i64 x0)] R w = S126 x0 R w := by kernel_rfl
theorem call126 (x0 : Int) {R : Value → World → Prop} {w : World} (h : S126 x0 R w) : Calls Try.prog 126 [(.int .i64 x0)].toArray w fun e w' => ∃ v, e = .returned v ∧ R v w' :=
  funV_calls mixed Try.func126 (an := An126) (by rw [eq126]; exact h)

/-- F111: cmp.Compare[int] -/
def An111 : An := (.sq .lf (.sq .lf (.sq .lf (.sq (.sq .lf (.cd (.sq (.sq .lf (.cd (.sq .lf .lf) .lf)) (.sq .lf .lf)) .lf)) (.sq (.sq .lf (.cd (.sq .lf .lf) .lf)) (.sq (.sq .lf (.cd (.sq .lf .lf) .lf)) (.sq (.sq .lf (.cd (.sq .lf .lf) .lf)) (.sq .lf .lf))))))))
def S111 (x0 : Int) (x1 : Int) (R : Value → World → Prop) (w : World) : Prop :=
  Calls Try.prog 126 [(.int .i64 x0)].toArray w (fun e w1 => ∃ b8 : Bool, e = .returned (.bool b8) ∧
  Calls Try.prog 126 [(.int .i64 x1)].toArray w1 (fun e_2 w2 => ∃ b10 : Bool, e_2 = .returned (.bool b10) ∧
  cond b8 (
  cond b10 (
  R (.int .i64 (0 : Int)) w2) (
  R (.int .i64 (-1 : Int)) w2)) (
  cond b10 (
  R (.int .i64 (1 : Int)) w2) (
  cond (decide (x0 < x1)) (
  R (.int .i64 (-1 : Int)) w2) (
  cond (decide (x0 > x1)) (
  R (.int .i64 (1 : Int)) w2) (
  R (.int .i64 (0 : Int)) w2))))))
theorem eq111 (x0 : Int) (x1 : Int) (R : Value → World → Prop) (w : World) : funV Try.prog Try.f111 An111 [(.int .i64 x0), (.int .i64 x1)] R w = S111 x0 x1 R w := by kernel_rfl
theorem call111 (x0 : Int) (x1 : Int) {R : Value → World → Prop} {w : World} (h : S111 x0 x1 R w) : Calls Try.prog 111 [(.int .i64 x0), (.int .i64 x1)].toArray w fun e w' => ∃ v, e = .returned v ∧ R v w' :=
  funV_calls mixed Try.func111 (an := An111) (by rw [eq111]; exact h)

/-- F112: slices.Compare[[]int,int] -/
def An112 : An := (.sq .lf (.sq (.sq .lf (.bk [] (.lp [(11, .int .i64)] (.sq .lf (.sq (.cd .lf .lf) (.sq (.bk [] (.sq .lf (.sq (.sq .lf (.cd (.sq .lf .lf) .lf)) (.sq .lf (.sq .lf (.sq .lf (.cd (.sq .lf .lf) .lf))))))) .lf)))))) (.sq (.sq .lf (.cd (.sq .lf .lf) .lf)) (.sq .lf .lf))))
def S112 (s0 : Sl) (s1 : Sl) (R : Value → World → Prop) (w : World) : Prop :=
  Join [] (fun (w1 : World) => cond (decide (((s0.n : Nat) : Int) < ((s1.n : Nat) : Int))) (
  R (.int .i64 (-1 : Int)) w1) (
  R (.int .i64 (0 : Int)) w1)) (fun J =>
  LoopV [(11, .int .i64)] (fun K => K (0 : Int) w) (fun N => fun (x11 : Int) (w2 : World) =>
  cond (decide (x11 < ((s0.n : Nat) : Int))) (
  Join [] (fun (w3 : World) => N (IntKind.wrap .i64 (x11 + (1 : Int))) w3) (fun J_2 =>
  ∃ p14 : Pt, s0.a = some ⟨p14.b, p14.o, none⟩ ∧ 0 ≤ x11 ∧ x11 < ((s0.n : Nat) : Int) ∧ ∃ x15 : Int, World.cell? w2 ⟨p14.b, (p14.o + Int.toNat x11 * 1), none⟩ = some (.int .i64 x15) ∧ cond (decide (x11 ≥ ((s1.n : Nat) : Int))) (
  R (.int .i64 (1 : Int)) w2) (
  ∃ p22 : Pt, s1.a = some ⟨p22.b, p22.o, none⟩ ∧ 0 ≤ x11 ∧ x11 < ((s1.n : Nat) : Int) ∧ ∃ x23 : Int, World.cell? w2 ⟨p22.b, (p22.o + Int.toNat x11 * 1), none⟩ = some (.int .i64 x23) ∧ Calls Try.prog 111 [(.int .i64 x15), (.int .i64 x23)].toArray w2 (fun e w4 => ∃ x26 : Int, e = .returned (.int .i64 x26) ∧
  cond (x26 != (0 : Int)) (
  R (.int .i64 x26) w4) (
  J_2 w4))))) (
  J w2)))
theorem eq112 (s0 : Sl) (s1 : Sl) (R : Value → World → Prop) (w : World) : funV Try.prog Try.f112 An112 [(.slice s0.a s0.n s0.c), (.slice s1.a s1.n s1.c)] R w = S112 s0 s1 R w := by kernel_rfl
theorem call112 (s0 : Sl) (s1 : Sl) {R : Value → World → Prop} {w : World} (h : S112 s0 s1 R w) : Calls Try.prog 112 [(.slice s0.a s0.n s0.c), (.slice s1.a s1.n s1.c)].toArray w fun e w' => ∃ v, e = .returned v ∧ R v w' :=
  funV_calls mixed Try.func112 (an := An112) (by rw [eq112]; exact h)

/-- F110: cmp.Or[int] -/
def An110 : An := (.sq .lf (.sq .lf (.sq (.sq .lf (.bk [] (.lp [(8, .int .i64)] (.sq .lf (.sq (.cd .lf .lf) (.sq (.bk [] (.sq .lf (.sq .lf (.cd (.sq .lf .lf) .lf)))) .lf)))))) (.sq .lf .lf))))
def S110 (s0 : Sl) (R : Value → World → Prop) (w : World) : Prop :=
  Join [] (fun (w1 : World) => R (.int .i64 (0 : Int)) w1) (fun J =>
  LoopV [(8, .int .i64)] (fun K => K (0 : Int) w) (fun N => fun (x8 : Int) (w2 : World) =>
  cond (decide (x8 < ((s0.n : Nat) : Int))) (
  Join [] (fun (w3 : World) => N (IntKind.wrap .i64 (x8 + (1 : Int))) w3) (fun J_2 =>
  ∃ p10 : Pt, s0.a = some ⟨p10.b, p10.o, none⟩ ∧ 0 ≤ x8 ∧ x8 < ((s0.n : Nat) : Int) ∧ ∃ x11 : Int, World.cell? w2 ⟨p10.b, (p10.o + Int.toNat x8 * 1), none⟩ = some (.int .i64 x11) ∧ cond (x11 != (0 : Int)) (
  R (.int .i64 x11) w2) (
  J_2 w2))) (
  J w2)))
theorem eq110 (s0 : Sl) (R : Value → World → Prop) (w : World) : funV Try.prog Try.f110 An110 [(.slice s0.a s0.n s0.c)] R w = S110 s0 R w := by kernel_rfl
theorem call110 (s0 : Sl) {R : Value → World → Prop} {w : World} (h : S110 s0 R w) : Calls Try.prog 110 [(.slice s0.a s0.n s0.c)].toArray w fun e w' => ∃ v, e = .returned v ∧ R v w' :=
  funV_calls mixed Try.func110 (an := An110) (by rw [eq110]; exact h)

/-- F109: (cubeb/rules.set).list$1 -/
def An109 : An := (.sq .lf (.sq (.dr [0, 1, 2, 3, 5, 6, 7, 8, 4, 9, 10, 11, 12] [] true none) .lf))
def S109 (x0_0 : Int) (s0_1 : Sl) (x1_0 : Int) (s1_1 : Sl) (R : Value → World → Prop) (w : World) : Prop :=
  Let (w.alloc (.cells [(.int .i64 x0_0), (.slice s0_1.a s0_1.n s0_1.c)].toArray 36)) fun w1 => 
  Let (w1.alloc (.cells [(.int .i64 x1_0), (.slice s1_1.a s1_1.n s1_1.c)].toArray 36)) fun w2 => 
  ∃ S1 : World → Prop, S1 w2.drew ∧ Let w2.drew fun w3 =>
  ∃ x6 : Int, (∀ u, S1 u → World.cell? u ⟨w.heap.size, (0 + 0), none⟩ = some (.int .i64 x6)) ∧ ∃ x8 : Int, (∀ u, S1 u → World.cell? u ⟨w1.heap.size, (0 + 0), none⟩ = some (.int .i64 x8)) ∧ ∃ s11 : Sl, (∀ u, S1 u → World.cell? u ⟨w.heap.size, (0 + 1), none⟩ = some (.slice s11.a s11.n s11.c)) ∧ ∃ s13 : Sl, (∀ u, S1 u → World.cell? u ⟨w1.heap.size, (0 + 1), none⟩ = some (.slice s13.a s13.n s13.c)) ∧ Calls Try.prog 111 [(.int .i64 x6), (.int .i64 x8)].toArray w3 (fun e w4 => ∃ x9 : Int, e = .returned (.int .i64 x9) ∧
  S1 w4 ∧ Calls Try.prog 112 [(.slice s11.a s11.n s11.c), (.slice s13.a s13.n s13.c)].toArray w4 (fun e_2 w5 => ∃ x14 : Int, e_2 = .returned (.int .i64 x14) ∧
  S1 w5 ∧ ∃ (s15 : Sl) (w6 : World), Sem.run Try.prog (Instr.buildSlice 34 2 [(0, (.int .i64 x9)), (1, (.int .i64 x14))].toArray) w5 = .ok (.slice s15.a s15.n s15.c) w6 ∧
  S1 w6 ∧ Calls Try.prog 110 [(.slice s15.a s15.n s15.c)].toArray w6 (fun e_3 w7 => ∃ x16 : Int, e_3 = .returned (.int .i64 x16) ∧
  S1 w7 ∧ R (.int .i64 x16) w7)))
theorem eq109 (x0_0 : Int) (s0_1 : Sl) (x1_0 : Int) (s1_1 : Sl) (R : Value → World → Prop) (w : World) : funV Try.prog Try.f109 An109 [(.agg [(.int .i64 x0_0), (.slice s0_1.a s0_1.n s0_1.c)].toArray), (.agg [(.int .i64 x1_0), (.slice s1_1.a s1_1.n s1_1.c)].toArray)] R w = S109 x0_0 s0_1 x1_0 s1_1 R w := by kernel_rfl
theorem call109 (x0_0 : Int) (s0_1 : Sl) (x1_0 : Int) (s1_1 : Sl) {R : Value → World → Prop} {w : World} (h : S109 x0_0 s0_1 x1_0 s1_1 R w) : Calls Try.prog 109 [(.agg [(.int .i64 x0_0), (.slice s0_1.a s0_1.n s0_1.c)].toArray), (.agg [(.int .i64 x1_0), (.slice s1_1.a s1_1.n s1_1.c)].toArray)].toArray w fun e w' => ∃ v, e = .returned v ∧ R v w' :=
  funV_calls mixed Try.func109 (an := An109) (by rw [eq109]; exact h)

/-- F125: math/bits.Len -/
def An125 : An := (.sq .lf (.sq (.cd (.sq .lf .lf) .lf) (.sq .lf .lf)))
def S125 (x0 : Int) (R : Value → World → Prop) (w : World) : Prop :=
  Calls Try.prog 139 [(.int .u64 x0)].toArray w (fun e_2 w2 => ∃ x7 : Int, e_2 = .returned (.int .i64 x7) ∧
  R (.int .i64 x7) w2)
theorem eq125 (x0 : Int) (R : Value → World → Prop) (w : World) : funV Try.prog Try.f125 An125 [(.int .u64 x0)] R w = S125 x0 R w := by kernel_rfl
theorem call125 (x0 : Int) {R : Value → World → Prop} {w : World} (h : S125 x0 R w) : Calls Try.prog 125 [(.int .u64 x0)].toArray w fun e w' => ∃ v, e = .returned v ∧ R v w' :=
  funV_calls mixed Try.func125 (an := An125) (by rw [eq125]; exact h)

/-- F145: slices.order2CmpFunc[cubeb/api.Fact] -/
def An145 : An := (.sq .lf (.sq (.sq (.dr [0, 1, 2, 3, 4, 5, 6, 7, 8, 9, 10] [] false none) (.cd (.sq .lf (.sq .lf .lf)) .lf)) (.sq .lf .lf)))
def S145 (s0 : Sl) (x1 : Int) (x2 : Int) (p3 : Pt) (f4 : Nat) (c4 : List Value) (R : Value → World → Prop) (w : World) : Prop :=
  Let w.drew fun w1 =>
  ∃ p15 : Pt, s0.a = some ⟨p15.b, p15.o, none⟩ ∧ 0 ≤ x2 ∧ x2 < ((s0.n : Nat) : Int) ∧ ∃ x16_0 : Int, ∃ s16_1 : Sl, rd w1 p15.b (p15.o + Int.toNat x2 * 2) [(.int .i64 x16_0), (.slice s16_1.a s16_1.n s16_1.c)] ∧ ∃ p19 : Pt, s0.a = some ⟨p19.b, p19.o, none⟩ ∧ 0 ≤ x1 ∧ x1 < ((s0.n : Nat) : Int) ∧ ∃ x20_0 : Int, ∃ s20_1 : Sl, rd w1 p19.b (p19.o + Int.toNat x1 * 2) [(.int .i64 x20_0), (.slice s20_1.a s20_1.n s20_1.c)] ∧ (bif callable Try.prog f4 then Calls Try.prog f4 (([(.agg [(.int .i64 x16_0), (.slice s16_1.a s16_1.n s16_1.c)].toArray), (.agg [(.int .i64 x20_0), (.slice s20_1.a s20_1.n s20_1.c)].toArray)] : List Value) ++ c4).toArray w1 (fun e w2 => ∃ x21 : Int, e = .returned (.int .i64 x21) ∧
  cond (decide (x21 < (0 : Int))) (
  ∃ x25 : Int, World.cell? w2 ⟨p3.b, p3.o, none⟩ = some (.int .i64 x25) ∧ StoreOk w2 p3.b p3.o [(.int .i64 (IntKind.wrap .i64 (x25 + (1 : Int))))] 1 ∧ Let (put w2 p3.b p3.o [(.int .i64 (IntKind.wrap .i64 (x25 + (1 : Int))))]) fun w3 => 
  R (.tuple [(.int .i64 x2), (.int .i64 x1)].toArray) w3) (
  R (.tuple [(.int .i64 x1), (.int .i64 x2)].toArray) w2)) else False)
theorem eq145 (s0 : Sl) (x1 : Int) (x2 : Int) (p3 : Pt) (f4 : Nat) (c4 : List Value) (R : Value → World → Prop) (w : World) : funV Try.prog Try.f145 An145 [(.slice s0.a s0.n s0.c), (.int .i64 x1), (.int .i64 x2), (.pointer (some ⟨p3.b, p3.o, none⟩)), (.func (.func f4) #[] c4.toArray)] R w = S145 s0 x1 x2 p3 f4 c4 R w := by kernel_rfl
theorem call145 (s0 : Sl) (x1 : Int) (x2 : Int) (p3 : Pt) (f4 : Nat) (c4 : List Value) {R : Value → World → Prop} {w : World} (h : S145 s0 x1 x2 p3 f4 c4 R w) : Calls Try.prog 145 [(.slice s0.a s0.n s0.c), (.int .i64 x1), (.int .i64 x2), (.pointer (some ⟨p3.b, p3.o, none⟩)), (.func (.func f4) #[] c4.toArray)].toArray w fun e w' => ∃ v, e = .returned v ∧ R v w' :=
  funV_calls mixed Try.func145 (an := An145) (by rw [eq145]; exact h)

/-- F144: slices.medianCmpFunc[cubeb/api.Fact] -/
def An144 : An := (.sq .lf (.sq .lf (.sq .lf (.sq .lf (.sq .lf .lf)))))
def S144 (s0 : Sl) (x1 : Int) (x2 : Int) (x3 : Int) (p4 : Pt) (f5 : Nat) (c5 : List Value) (R : Value → World → Prop) (w : World) : Prop :=
  Calls Try.prog 145 [(.slice s0.a s0.n s0.c), (.int .i64 x1), (.int .i64 x2), (.pointer (some ⟨p4.b, p4.o, none⟩)), (.func (.func f5) #[] c5.toArray)].toArray w (fun e w1 => ∃ x19_0 : Int, ∃ x19_1 : Int, e = .returned (.tuple [(.int .i64 x19_0), (.int .i64 x19_1)].toArray) ∧
  Calls Try.prog 145 [(.slice s0.a s0.n s0.c), (.int .i64 x19_1), (.int .i64 x3), (.pointer (some ⟨p4.b, p4.o, none⟩)), (.func (.func f5) #[] c5.toArray)].toArray w1 (fun e_2 w2 => ∃ x28_0 : Int, ∃ x28_1 : Int, e_2 = .returned (.tuple [(.int .i64 x28_0), (.int .i64 x28_1)].toArray) ∧
  Calls Try.prog 145 [(.slice s0.a s0.n s0.c), (.int .i64 x19_0), (.int .i64 x28_0), (.pointer (some ⟨p4.b, p4.o, none⟩)), (.func (.func f5) #[] c5.toArray)].toArray w2 (fun e_3 w3 => ∃ x37_0 : Int, ∃ x37_1 : Int, e_3 = .returned (.tuple [(.int .i64 x37_0), (.int .i64 x37_1)].toArray) ∧
  R (.int .i64 x37_1) w3)))
theorem eq144 (s0 : Sl) (x1 : Int) (x2 : Int) (x3 : Int) (p4 : Pt) (f5 : Nat) (c5 : List Value) (R : Value → World → Prop) (w : World) : funV Try.prog Try.f144 An144 [(.slice s0.a s0.n s0.c), (.int .i64 x1), (.int .i64 x2), (.int .i64 x3), (.pointer (some ⟨p4.b, p4.o, none⟩)), (.func (.func f5) #[] c5.toArray)] R w = S144 s0 x1 x2 x3 p4 f5 c5 R w := by kernel_rfl
theorem call144 (s0 : Sl) (x1 : Int) (x2 : Int) (x3 : Int) (p4 : Pt) (f5 : Nat) (c5 : List Value) {R : Value → World → Prop} {w : World} (h : S144 s0 x1 x2 x3 p4 f5 c5 R w) : Calls Try.prog 144 [(.slice s0.a s0.n s0.c), (.int .i64 x1), (.int .i64 x2), (.int .i64 x3), (.pointer (some ⟨p4.b, p4.o, none⟩)), (.func (.func f5) #[] c5.toArray)].toArray w fun e w' => ∃ v, e = .returned v ∧ R v w' :=
  funV_calls mixed Try.func144 (an := An144) (by rw [eq144]; exact h)

/-- F143: slices.medianAdjacentCmpFunc[cubeb/api.Fact] -/
def An143 : An := (.sq .lf (.sq .lf .lf))
def S143 (s0 : Sl) (x1 : Int) (p2 : Pt) (f3 : Nat) (c3 : List Value) (R : Value → World → Prop) (w : World) : Prop :=
  Calls Try.prog 144 [(.slice s0.a s0.n s0.c), (.int .i64 (IntKind.wrap .i64 (x1 - (1 : Int)))), (.int .i64 x1), (.int .i64 (IntKind.wrap .i64 (x1 + (1 : Int)))), (.pointer (some ⟨p2.b, p2.o, none⟩)), (.func (.func f3) #[] c3.toArray)].toArray w (fun e w1 => ∃ x17 : Int, e = .returned (.int .i64 x17) ∧
  R (.int .i64 x17) w1)
theorem eq143 (s0 : Sl) (x1 : Int) (p2 : Pt) (f3 : Nat) (c3 : List Value) (R : Value → World → Prop) (w : World) : funV Try.prog Try.f143 An143 [(.slice s0.a s0.n s0.c), (.int .i64 x1), (.pointer (some ⟨p2.b, p2.o, none⟩)), (.func (.func f3) #[] c3.toArray)] R w = S143 s0 x1 p2 f3 c3 R w := by kernel_rfl
theorem call143 (s0 : Sl) (x1 : Int) (p2 : Pt) (f3 : Nat) (c3 : List Value) {R : Value → World → Prop} {w : World} (h : S143 s0 x1 p2 f3 c3 R w) : Calls Try.prog 143 [(.slice s0.a s0.n s0.c), (.int .i64 x1), (.pointer (some ⟨p2.b, p2.o, none⟩)), (.func (.func f3) #[] c3.toArray)].toArray w fun e w' => ∃ v, e = .returned v ∧ R v w' :=
  funV_calls mixed Try.func143 (an := An143) (by rw [eq143]; exact h)

/-- F133: slices.choosePivotCmpFunc[cubeb/api.Fact] -/
def An133 : An := (.sq .lf (.sq .lf (.sq .lf (.sq .lf (.sq .lf (.sq .lf (.sq (.sq .lf (.cj [(13, .int .i64)] (.sq (.sq .lf (.cj [(12, .int .i64), (13, .int .i64), (14, .int .i64)] (.sq .lf (.sq .lf .lf)) .lf)) .lf) .lf)) (.sq .lf (.bk [(8, .int .i64), (9, .int .i64)] (.sq .lf (.cd (.sq .lf .lf) (.sq .lf (.cd (.sq .lf .lf) (.sq .lf .lf))))))))))))))
def S133 (s0 : Sl) (x1 : Int) (x2 : Int) (f3 : Nat) (c3 : List Value) (R : Value → World → Prop) (w : World) : Prop :=
  Let (w.alloc (.cells (zc Try.prog 3) 3)) fun w1 => 
  (4 : Int) ≠ 0 ∧ (4 : Int) ≠ 0 ∧ (4 : Int) ≠ 0 ∧ Join [(13, .int .i64)] (fun (x13 : Int) (w2 : World) => ∃ x55 : Int, World.cell? w2 ⟨w.heap.size, 0, none⟩ = some (.int .i64 x55) ∧ Join [(8, .int .i64), (9, .int .i64)] (fun (x8 : Int) (x9 : Int) (w3 : World) => R (.tuple [(.int .i64 x8), (.int .i64 x9)].toArray) w3) (fun J =>
  cond (x55 == (0 : Int)) (
  R (.tuple [(.int .i64 x13), (.int .i64 (1 : Int))].toArray) w2) (
  cond (x55 == (12 : Int)) (
  R (.tuple [(.int .i64 x13), (.int .i64 (2 : Int))].toArray) w2) (
  R (.tuple [(.int .i64 x13), (.int .i64 (0 : Int))].toArray) w2)))) (fun J_2 =>
  cond (decide ((IntKind.wrap .i64 (x2 - x1)) ≥ (8 : Int))) (
  Join [(12, .int .i64), (13, .int .i64), (14, .int .i64)] (fun (x12 : Int) (x13_2 : Int) (x14 : Int) (w4 : World) => Calls Try.prog 144 [(.slice s0.a s0.n s0.c), (.int .i64 x12), (.int .i64 x13_2), (.int .i64 x14), (.pointer (some ⟨w.heap.size, 0, none⟩)), (.func (.func f3) #[] c3.toArray)].toArray w4 (fun e w5 => ∃ x54 : Int, e = .returned (.int .i64 x54) ∧
  J_2 x54 w5)) (fun J_3 =>
  cond (decide ((IntKind.wrap .i64 (x2 - x1)) ≥ (50 : Int))) (
  Calls Try.prog 143 [(.slice s0.a s0.n s0.c), (.int .i64 (IntKind.wrap .i64 (x1 + (IntKind.wrap .i64 ((IntKind.wrap .i64 (Int.tdiv (IntKind.wrap .i64 (x2 - x1)) (4 : Int))) * (1 : Int)))))), (.pointer (some ⟨w.heap.size, 0, none⟩)), (.func (.func f3) #[] c3.toArray)].toArray w1 (fun e_2 w6 => ∃ x40 : Int, e_2 = .returned (.int .i64 x40) ∧
  Calls Try.prog 143 [(.slice s0.a s0.n s0.c), (.int .i64 (IntKind.wrap .i64 (x1 + (IntKind.wrap .i64 ((IntKind.wrap .i64 (Int.tdiv (IntKind.wrap .i64 (x2 - x1)) (4 : Int))) * (2 : Int)))))), (.pointer (some ⟨w.heap.size, 0, none⟩)), (.func (.func f3) #[] c3.toArray)].toArray w6 (fun e_3 w7 => ∃ x44 : Int, e_3 = .returned (.int .i64 x44) ∧
  Calls Try.prog 143 [(.slice s0.a s0.n s0.c), (.int .i64 (IntKind.wrap .i64 (x1 + (IntKind.wrap .i64 ((IntKind.wrap .i64 (Int.tdiv (IntKind.wrap .i64 (x2 - x1)) (4 : Int))) * (3 : Int)))))), (.pointer (some ⟨w.heap.size, 0, none⟩)), (.func (.func f3) #[] c3.toArray)].toArray w7 (fun e_4 w8 => ∃ x48 : Int, e_4 = .returned (.int .i64 x48) ∧
  J_3 x40 x44 x48 w8)))) (
  J_3 (IntKind.wrap .i64 (x1 + (IntKind.wrap .i64 ((IntKind.wrap .i64 (Int.tdiv (IntKind.wrap .i64 (x2 - x1)) (4 : Int))) * (1 : Int))))) (IntKind.wrap .i64 (x1 + (IntKind.wrap .i64 ((IntKind.wrap .i64 (Int.tdiv (IntKind.wrap .i64 (x2 - x1)) (4 : Int))) * (2 : Int))))) (IntKind.wrap .i64 (x1 + (IntKind.wrap .i64 ((IntKind.wrap .i64 (Int.tdiv (IntKind.wrap .i64 (x2 - x1)) (4 : Int))) * (3 : Int))))) w1))) (
  J_2 (IntKind.wrap .i64 (x1 + (IntKind.wrap .i64 ((IntKind.wrap .i64 (Int.tdiv (IntKind.wrap .i64 (x2 - x1)) (4 : Int))) * (2 : Int))))) w1))
theorem eq133 (s0 : Sl) (x1 : Int) (x2 : Int) (f3 : Nat) (c3 : List Value) (R : Value → World → Prop) (w : World) : funV Try.prog Try.f133 An133 [(.slice s0.a s0.n s0.c), (.int .i64 x1), (.int .i64 x2), (.func (.func f3) #[] c3.toArray)] R w = S133 s0 x1 x2 f3 c3 R w := by kernel_rfl
theorem call133 (s0 : Sl) (x1 : Int) (x2 : Int) (f3 : Nat) (c3 : List Value) {R : Value → World → Prop} {w : World} (h : S133 s0 x1 x2 f3 c3 R w) : Calls Try.prog 133 [(.slice s0.a s0.n s0.c), (.int .i64 x1), (.int .i64 x2), (.func (.func f3) #[] c3.toArray)].toArray w fun e w' => ∃ v, e = .returned v ∧ R v w' :=
  funV_calls mixed Try.func133 (an := An133) (by rw [eq133]; exact h)

/-- F142: (*slices.xorshift).Next -/
def An142 : An := (.sq .lf (.sq (.dr [0, 1, 2, 3, 4, 5, 6, 7, 8, 9] [] false none) (.sq (.dr [0, 1, 2, 3, 4, 5, 6, 7, 8, 9] [] false none) (.sq (.dr [0, 1, 2, 3, 4, 5, 6, 7, 8, 9] [] false none) (.sq .lf .lf)))))
def S142 (p0 : Pt) (R : Value → World → Prop) (w : World) : Prop :=
  Let w.drew fun w1 =>
  ∃ x5 : Int, World.cell? w1 ⟨p0.b, p0.o, none⟩ = some (.int .u64 x5) ∧ ∃ x8 : Int, World.cell? w1 ⟨p0.b, p0.o, none⟩ = some (.int .u64 x8) ∧ 0 ≤ (13 : Int) ∧ StoreOk w1 p0.b p0.o [(.int .u64 (bitsI .xor .u64 x5 (IntKind.wrap .u64 (x8 * 2 ^ (min (Int.toNat (13 : Int)) (IntKind.bits .u64))))))] 1 ∧ Let (put w1 p0.b p0.o [(.int .u64 (bitsI .xor .u64 x5 (IntKind.wrap .u64 (x8 * 2 ^ (min (Int.toNat (13 : Int)) (IntKind.bits .u64))))))]) fun w2 => 
  Let w2.drew fun w3 =>
  ∃ x14 : Int, World.cell? w3 ⟨p0.b, p0.o, none⟩ = some (.int .u64 x14) ∧ ∃ x17 : Int, World.cell? w3 ⟨p0.b, p0.o, none⟩ = some (.int .u64 x17) ∧ 0 ≤ (7 : Int) ∧ StoreOk w3 p0.b p0.o [(.int .u64 (bitsI .xor .u64 x14 (Int.fdiv x17 (2 ^ (min (Int.toNat (7 : Int)) (IntKind.bits .u64))))))] 1 ∧ Let (put w3 p0.b p0.o [(.int .u64 (bitsI .xor .u64 x14 (Int.fdiv x17 (2 ^ (min (Int.toNat (7 : Int)) (IntKind.bits .u64))))))]) fun w4 => 
  Let w4.drew fun w5 =>
  ∃ x23 : Int, World.cell? w5 ⟨p0.b, p0.o, none⟩ = some (.int .u64 x23) ∧ ∃ x26 : Int, World.cell? w5 ⟨p0.b, p0.o, none⟩ = some (.int .u64 x26) ∧ 0 ≤ (17 : Int) ∧ StoreOk w5 p0.b p0.o [(.int .u64 (bitsI .xor .u64 x23 (IntKind.wrap .u64 (x26 * 2 ^ (min (Int.toNat (17 : Int)) (IntKind.bits .u64))))))] 1 ∧ Let (put w5 p0.b p0.o [(.int .u64 (bitsI .xor .u64 x23 (IntKind.wrap .u64 (x26 * 2 ^ (min (Int.toNat (17 : Int)) (IntKind.bits .u64))))))]) fun w6 => 
  ∃ x32 : Int, World.cell? w6 ⟨p0.b, p0.o, none⟩ = some (.int .u64 x32) ∧ R (.int .u64 x32) w6
theorem eq142 (p0 : Pt) (R : Value → World → Prop) (w : World) : funV Try.prog Try.f142 An142 [(.pointer (some ⟨p0.b, p0.o, none⟩))] R w = S142 p0 R w := by kernel_rfl
theorem call142 (p0 : Pt) {R : Value → World → Prop} {w : World} (h : S142 p0 R w) : Calls Try.prog 142 [(.pointer (some ⟨p0.b, p0.o, none⟩))].toArray w fun e w' => ∃ v, e = .returned v ∧ R v w' :=
  funV_calls mixed Try.func142 (an := An142) (by rw [eq142]; exact h)

/-- F141: slices.nextPowerOfTwo -/
def An141 : An := (.sq .lf (.sq .lf .lf))
def S141 (x0 : Int) (R : Value → World → Prop) (w : World) : Prop :=
  Calls Try.prog 125 [(.int .u64 (IntKind.wrap .u64 x0))].toArray w (fun e w1 => ∃ x5 : Int, e = .returned (.int .i64 x5) ∧
  0 ≤ x5 ∧ R (.int .u64 (IntKind.wrap .u64 ((1 : Int) * 2 ^ (min (Int.toNat x5) (IntKind.bits .u64))))) w1)
theorem eq141 (x0 : Int) (R : Value → World → Prop) (w : World) : funV Try.prog Try.f141 An141 [(.int .i64 x0)] R w = S141 x0 R w := by kernel_rfl
theorem call141 (x0 : Int) {R : Value → World → Prop} {w : World} (h : S141 x0 R w) : Calls Try.prog 141 [(.int .i64 x0)].toArray w fun e w' => ∃ v, e = .returned v ∧ R v w' :=
  funV_calls mixed Try.func141 (an := An141) (by rw [eq141]; exact h)

/-- F132: slices.breakPatternsCmpFunc[cubeb/api.Fact] -/
def An132 : An := (.sq .lf (.sq .lf (.cj [] (.sq .lf (.sq .lf (.sq .lf (.bk [] (.lp [(11, .int .i64)] (.sq (.sq .lf (.cd .lf .lf)) (.sq (.bk [] (.sq .lf (.sq (.sq .lf (.cj [(12, .int .i64)] .lf .lf)) (.dr [0, 1, 2, 3, 4, 5, 6, 7, 8, 9, 10, 11, 12, 13, 14, 15, 16, 17, 18, 19] [] false none)))) .lf))))))) .lf)))
def S132 (s0 : Sl) (x1 : Int) (x2 : Int) (f3 : Nat) (c3 : List Value) (R : Value → World → Prop) (w : World) : Prop :=
  Join [] (fun (w1 : World) => R (.tuple [].toArray) w1) (fun J =>
  cond (decide ((IntKind.wrap .i64 (x2 - x1)) ≥ (8 : Int))) (
  Let (w.alloc (.cells (zc Try.prog 207) 207)) fun w2 => 
  StoreOk w2 w.heap.size 0 [(.int .u64 (IntKind.wrap .u64 (IntKind.wrap .i64 (x2 - x1))))] 1 ∧ Let (put w2 w.heap.size 0 [(.int .u64 (IntKind.wrap .u64 (IntKind.wrap .i64 (x2 - x1))))]) fun w3 => 
  Calls Try.prog 141 [(.int .i64 (IntKind.wrap .i64 (x2 - x1)))].toArray w3 (fun e w4 => ∃ x21 : Int, e = .returned (.int .u64 x21) ∧
  (4 : Int) ≠ 0 ∧ Join [] (fun (w5 : World) => J w5) (fun J_2 =>
  LoopV [(11, .int .i64)] (fun K => K (IntKind.wrap .i64 ((IntKind.wrap .i64 (x1 + (IntKind.wrap .i64 ((IntKind.wrap .i64 (Int.tdiv (IntKind.wrap .i64 (x2 - x1)) (4 : Int))) * (2 : Int))))) - (1 : Int))) w4) (fun N => fun (x11 : Int) (w6 : World) =>
  (4 : Int) ≠ 0 ∧ cond (decide (x11 ≤ (IntKind.wrap .i64 ((IntKind.wrap .i64 (x1 + (IntKind.wrap .i64 ((IntKind.wrap .i64 (Int.tdiv (IntKind.wrap .i64 (x2 - x1)) (4 : Int))) * (2 : Int))))) + (1 : Int))))) (
  Join [] (fun (w7 : World) => N (IntKind.wrap .i64 (x11 + (1 : Int))) w7) (fun J_3 =>
  Calls Try.prog 142 [(.pointer (some ⟨w.heap.size, 0, none⟩))].toArray w6 (fun e_2 w8 => ∃ x38 : Int, e_2 = .returned (.int .u64 x38) ∧
  Join [(12, .int .i64)] (fun (x12 : Int) (w9 : World) => Let w9.drew fun w10 =>
  ∃ p59 : Pt, s0.a = some ⟨p59.b, p59.o, none⟩ ∧ 0 ≤ (IntKind.wrap .i64 (x1 + x12)) ∧ (IntKind.wrap .i64 (x1 + x12)) < ((s0.n : Nat) : Int) ∧ ∃ x60_0 : Int, ∃ s60_1 : Sl, rd w10 p59.b (p59.o + Int.toNat (IntKind.wrap .i64 (x1 + x12)) * 2) [(.int .i64 x60_0), (.slice s60_1.a s60_1.n s60_1.c)] ∧ ∃ p63 : Pt, s0.a = some ⟨p63.b, p63.o, none⟩ ∧ 0 ≤ x11 ∧ x11 < ((s0.n : Nat) : Int) ∧ ∃ x64_0 : Int, ∃ s64_1 : Sl, rd w10 p63.b (p63.o + Int.toNat x11 * 2) [(.int .i64 x64_0), (.slice s64_1.a s64_1.n s64_1.c)] ∧ ∃ p65 : Pt, s0.a = some ⟨p65.b, p65.o, none⟩ ∧ 0 ≤ x11 ∧ x11 < ((s0.n : Nat) : Int) ∧ StoreOk w10 p65.b (p65.o + Int.toNat x11 * 2) [(.int .i64 x60_0), (.slice s60_1.a s60_1.n s60_1.c)] 2 ∧ Let (put w10 p65.b (p65.o + Int.toNat x11 * 2) [(.int .i64 x60_0), (.slice s60_1.a s60_1.n s60_1.c)]) fun w11 => 
  ∃ p66 : Pt, s0.a = some ⟨p66.b, p66.o, none⟩ ∧ 0 ≤ (IntKind.wrap .i64 (x1 + x12)) ∧ (IntKind.wrap .i64 (x1 + x12)) < ((s0.n : Nat) : Int) ∧ StoreOk w11 p66.b (p66.o + Int.toNat (IntKind.wrap .i64 (x1 + x12)) * 2) [(.int .i64 x64_0), (.slice s64_1.a s64_1.n s64_1.c)] 2 ∧ Let (put w11 p66.b (p66.o + Int.toNat (IntKind.wrap .i64 (x1 + x12)) * 2) [(.int .i64 x64_0), (.slice s64_1.a s64_1.n s64_1.c)]) fun w12 => 
  J_3 w12) (fun J_4 =>
  cond (decide ((IntKind.wrap .i64 (bitsI .and .u64 x38 (IntKind.wrap .u64 (x21 - (1 : Int))))) ≥ (IntKind.wrap .i64 (x2 - x1)))) (
  J_4 (IntKind.wrap .i64 ((IntKind.wrap .i64 (bitsI .and .u64 x38 (IntKind.wrap .u64 (x21 - (1 : Int))))) - (IntKind.wrap .i64 (x2 - x1)))) w8) (
  J_4 (IntKind.wrap .i64 (bitsI .and .u64 x38 (IntKind.wrap .u64 (x21 - (1 : Int))))) w8))))) (
  J_2 w6))))) (
  J w))
theorem eq132 (s0 : Sl) (x1 : Int) (x2 : Int) (f3 : Nat) (c3 : List Value) (R : Value → World → Prop) (w : World) : funV Try.prog Try.f132 An132 [(.slice s0.a s0.n s0.c), (.int .i64 x1), (.int .i64 x2), (.func (.func f3) #[] c3.toArray)] R w = S132 s0 x1 x2 f3 c3 R w := by kernel_rfl
theorem call132 (s0 : Sl) (x1 : Int) (x2 : Int) (f3 : Nat) (c3 : List Value) {R : Value → World → Prop} {w : World} (h : S132 s0 x1 x2 f3 c3 R w) : Calls Try.prog 132 [(.slice s0.a s0.n s0.c), (.int .i64 x1), (.int .i64 x2), (.func (.func f3) #[] c3.toArray)].toArray w fun e w' => ∃ v, e = .returned v ∧ R v w' :=
  funV_calls mixed Try.func132 (an := An132) (by rw [eq132]; exact h)

/-- F134: slices.reverseRangeCmpFunc[cubeb/api.Fact] -/
def An134 : An := (.sq .lf (.sq .lf (.bk [] (.lp [(8, .int .i64), (9, .int .i64)] (.sq (.sq .lf (.cd .lf .lf)) (.bk [(8, .int .i64), (9, .int .i64)] (.sq (.dr [0, 1, 2, 3, 4, 5, 6, 7, 8, 9, 10, 11, 12, 13, 14, 15] [] false none) (.sq .lf .lf))))))))
def S134 (s0 : Sl) (x1 : Int) (x2 : Int) (f3 : Nat) (c3 : List Value) (R : Value → World → Prop) (w : World) : Prop :=
  Join [] (fun (w1 : World) => R (.tuple [].toArray) w1) (fun J =>
  LoopV [(8, .int .i64), (9, .int .i64)] (fun K => K x1 (IntKind.wrap .i64 (x2 - (1 : Int))) w) (fun N => fun (x8 : Int) (x9 : Int) (w2 : World) =>
  cond (decide (x8 < x9)) (
  Join [(8, .int .i64), (9, .int .i64)] (fun (x8_2 : Int) (x9_2 : Int) (w3 : World) => N x8_2 x9_2 w3) (fun J_2 =>
  Let w2.drew fun w4 =>
  ∃ p22 : Pt, s0.a = some ⟨p22.b, p22.o, none⟩ ∧ 0 ≤ x9 ∧ x9 < ((s0.n : Nat) : Int) ∧ ∃ x23_0 : Int, ∃ s23_1 : Sl, rd w4 p22.b (p22.o + Int.toNat x9 * 2) [(.int .i64 x23_0), (.slice s23_1.a s23_1.n s23_1.c)] ∧ ∃ p26 : Pt, s0.a = some ⟨p26.b, p26.o, none⟩ ∧ 0 ≤ x8 ∧ x8 < ((s0.n : Nat) : Int) ∧ ∃ x27_0 : Int, ∃ s27_1 : Sl, rd w4 p26.b (p26.o + Int.toNat x8 * 2) [(.int .i64 x27_0), (.slice s27_1.a s27_1.n s27_1.c)] ∧ ∃ p28 : Pt, s0.a = some ⟨p28.b, p28.o, none⟩ ∧ 0 ≤ x8 ∧ x8 < ((s0.n : Nat) : Int) ∧ StoreOk w4 p28.b (p28.o + Int.toNat x8 * 2) [(.int .i64 x23_0), (.slice s23_1.a s23_1.n s23_1.c)] 2 ∧ Let (put w4 p28.b (p28.o + Int.toNat x8 * 2) [(.int .i64 x23_0), (.slice s23_1.a s23_1.n s23_1.c)]) fun w5 => 
  ∃ p29 : Pt, s0.a = some ⟨p29.b, p29.o, none⟩ ∧ 0 ≤ x9 ∧ x9 < ((s0.n : Nat) : Int) ∧ StoreOk w5 p29.b (p29.o + Int.toNat x9 * 2) [(.int .i64 x27_0), (.slice s27_1.a s27_1.n s27_1.c)] 2 ∧ Let (put w5 p29.b (p29.o + Int.toNat x9 * 2) [(.int .i64 x27_0), (.slice s27_1.a s27_1.n s27_1.c)]) fun w6 => 
  J_2 (IntKind.wrap .i64 (x8 + (1 : Int))) (IntKind.wrap .i64 (x9 - (1 : Int))) w6)) (
  J w2)))
theorem eq134 (s0 : Sl) (x1 : Int) (x2 : Int) (f3 : Nat) (c3 : List Value) (R : Value → World → Prop) (w : World) : funV Try.prog Try.f134 An134 [(.slice s0.a s0.n s0.c), (.int .i64 x1), (.int .i64 x2), (.func (.func f3) #[] c3.toArray)] R w = S134 s0 x1 x2 f3 c3 R w := by kernel_rfl
theorem call134 (s0 : Sl) (x1 : Int) (x2 : Int) (f3 : Nat) (c3 : List Value) {R : Value → World → Prop} {w : World} (h : S134 s0 x1 x2 f3 c3 R w) : Calls Try.prog 134 [(.slice s0.a s0.n s0.c), (.int .i64 x1), (.int .i64 x2), (.func (.func f3) #[] c3.toArray)].toArray w fun e w' => ∃ v, e = .returned v ∧ R v w' :=
  funV_calls mixed Try.func134 (an := An134) (by rw [eq134]; exact h)

/-- F130: slices.insertionSortCmpFunc[cubeb/api.Fact] -/
def An130 : An := (.sq .lf (.bk [] (.lp [(8, .int .i64)] (.sq (.sq .lf (.cd .lf .lf)) (.sq (.bk [] (.sq .lf (.bk [] (.lp [(9, .int .i64)] (.sq (.sq (.dr [0, 1, 2, 3, 4, 5, 6, 7, 8, 9, 10, 11, 12, 13, 14, 15, 16] [] false (some [(34, .bool)])) (.cd .lf .lf)) (.sq (.bk [] (.dr [0, 1, 2, 3, 4, 5, 6, 7, 8, 9, 10, 11, 12, 13, 14, 15, 16, 17] [] false none)) .lf)))))) .lf)))))
def S130 (s0 : Sl) (x1 : Int) (x2 : Int) (f3 : Nat) (c3 : List Value) (R : Value → World → Prop) (w : World) : Prop :=
  Join [] (fun (w1 : World) => R (.tuple [].toArray) w1) (fun J =>
  LoopV [(8, .int .i64)] (fun K => K (IntKind.wrap .i64 (x1 + (1 : Int))) w) (fun N => fun (x8 : Int) (w2 : World) =>
  cond (decide (x8 < x2)) (
  Join [] (fun (w3 : World) => N (IntKind.wrap .i64 (x8 + (1 : Int))) w3) (fun J_2 =>
  Join [] (fun (w4 : World) => J_2 w4) (fun J_3 =>
  LoopV [(9, .int .i64)] (fun K => K x8 w2) (fun N_2 => fun (x9 : Int) (w5 : World) =>
  Join [(34, .bool)] (fun (b34 : Bool) (w6 : World) => cond b34 (
  Join [] (fun (w7 : World) => N_2 (IntKind.wrap .i64 (x9 - (1 : Int))) w7) (fun J_4 =>
  Let w6.drew fun w8 =>
  ∃ p45 : Pt, s0.a = some ⟨p45.b, p45.o, none⟩ ∧ 0 ≤ (IntKind.wrap .i64 (x9 - (1 : Int))) ∧ (IntKind.wrap .i64 (x9 - (1 : Int))) < ((s0.n : Nat) : Int) ∧ ∃ x46_0 : Int, ∃ s46_1 : Sl, rd w8 p45.b (p45.o + Int.toNat (IntKind.wrap .i64 (x9 - (1 : Int))) * 2) [(.int .i64 x46_0), (.slice s46_1.a s46_1.n s46_1.c)] ∧ ∃ p49 : Pt, s0.a = some ⟨p49.b, p49.o, none⟩ ∧ 0 ≤ x9 ∧ x9 < ((s0.n : Nat) : Int) ∧ ∃ x50_0 : Int, ∃ s50_1 : Sl, rd w8 p49.b (p49.o + Int.toNat x9 * 2) [(.int .i64 x50_0), (.slice s50_1.a s50_1.n s50_1.c)] ∧ ∃ p51 : Pt, s0.a = some ⟨p51.b, p51.o, none⟩ ∧ 0 ≤ x9 ∧ x9 < ((s0.n : Nat) : Int) ∧ StoreOk w8 p51.b (p51.o + Int.toNat x9 * 2) [(.int .i64 x46_0), (.slice s46_1.a s46_1.n s46_1.c)] 2 ∧ Let (put w8 p51.b (p51.o + Int.toNat x9 * 2) [(.int .i64 x46_0), (.slice s46_1.a s46_1.n s46_1.c)]) fun w9 => 
  ∃ p52 : Pt, s0.a = some ⟨p52.b, p52.o, none⟩ ∧ 0 ≤ (IntKind.wrap .i64 (x9 - (1 : Int))) ∧ (IntKind.wrap .i64 (x9 - (1 : Int))) < ((s0.n : Nat) : Int) ∧ StoreOk w9 p52.b (p52.o + Int.toNat (IntKind.wrap .i64 (x9 - (1 : Int))) * 2) [(.int .i64 x50_0), (.slice s50_1.a s50_1.n s50_1.c)] 2 ∧ Let (put w9 p52.b (p52.o + Int.toNat (IntKind.wrap .i64 (x9 - (1 : Int))) * 2) [(.int .i64 x50_0), (.slice s50_1.a s50_1.n s50_1.c)]) fun w10 => 
  J_4 w10)) (
  J_3 w6)) (fun J_5 =>
  Let w5.drew fun w11 =>
  cond (decide (x9 > x1)) (∃ p25 : Pt, s0.a = some ⟨p25.b, p25.o, none⟩ ∧ 0 ≤ x9 ∧ x9 < ((s0.n : Nat) : Int) ∧ ∃ x26_0 : Int, ∃ s26_1 : Sl, rd w11 p25.b (p25.o + Int.toNat x9 * 2) [(.int .i64 x26_0), (.slice s26_1.a s26_1.n s26_1.c)] ∧ ∃ p30 : Pt, s0.a = some ⟨p30.b, p30.o, none⟩ ∧ 0 ≤ (IntKind.wrap .i64 (x9 - (1 : Int))) ∧ (IntKind.wrap .i64 (x9 - (1 : Int))) < ((s0.n : Nat) : Int) ∧ ∃ x31_0 : Int, ∃ s31_1 : Sl, rd w11 p30.b (p30.o + Int.toNat (IntKind.wrap .i64 (x9 - (1 : Int))) * 2) [(.int .i64 x31_0), (.slice s31_1.a s31_1.n s31_1.c)] ∧ (bif callable Try.prog f3 then Calls Try.prog f3 (([(.agg [(.int .i64 x26_0), (.slice s26_1.a s26_1.n s26_1.c)].toArray), (.agg [(.int .i64 x31_0), (.slice s31_1.a s31_1.n s31_1.c)].toArray)] : List Value) ++ c3).toArray w11 (fun e w12 => ∃ x32 : Int, e = .returned (.int .i64 x32) ∧
  J_5 (decide (x32 < (0 : Int))) w12) else False)) (J_5 false w11)))))) (
  J w2)))
theorem eq130 (s0 : Sl) (x1 : Int) (x2 : Int) (f3 : Nat) (c3 : List Value) (R : Value → World → Prop) (w : World) : funV Try.prog Try.f130 An130 [(.slice s0.a s0.n s0.c), (.int .i64 x1), (.int .i64 x2), (.func (.func f3) #[] c3.toArray)] R w = S130 s0 x1 x2 f3 c3 R w := by kernel_rfl
theorem call130 (s0 : Sl) (x1 : Int) (x2 : Int) (f3 : Nat) (c3 : List Value) {R : Value → World → Prop} {w : World} (h : S130 s0 x1 x2 f3 c3 R w) : Calls Try.prog 130 [(.slice s0.a s0.n s0.c), (.int .i64 x1), (.int .i64 x2), (.func (.func f3) #[] c3.toArray)].toArray w fun e w' => ∃ v, e = .returned v ∧ R v w' :=
  funV_calls mixed Try.func130 (an := An130) (by rw [eq130]; exact h)

/-- F140: slices.siftDownCmpFunc[cubeb/api.Fact] -/
def An140 : An := (.sq .lf (.bk [] (.lp [(10, .int .i64)] (.bk [(10, .int .i64)] (.sq .lf (.sq (.sq .lf (.cd .lf .lf)) (.sq (.sq (.dr [0, 1, 2, 3, 4, 5, 6, 7, 8, 9, 10, 11, 12, 13, 14, 15, 16, 17, 18, 19, 20, 21] [] false (some [(40, .bool)])) (.cj [(11, .int .i64)] .lf .lf)) (.sq (.sq (.dr [0, 1, 2, 3, 4, 5, 6, 7, 8, 9, 10, 11, 12, 13, 14, 15] [] false none) (.cd .lf .lf)) (.sq (.dr [0, 1, 2, 3, 4, 5, 6, 7, 8, 9, 10, 11, 12, 13, 14, 15, 16, 17, 18, 19, 20, 21, 22, 23] [] false none) .lf)))))))))
def S140 (s0 : Sl) (x1 : Int) (x2 : Int) (x3 : Int) (f4 : Nat) (c4 : List Value) (R : Value → World → Prop) (w : World) : Prop :=
  Join [] (fun (w1 : World) => R (.tuple [].toArray) w1) (fun J =>
  LoopV [(10, .int .i64)] (fun K => K x1 w) (fun N => fun (x10 : Int) (w2 : World) =>
  Join [(10, .int .i64)] (fun (x10_2 : Int) (w3 : World) => N x10_2 w3) (fun J_2 =>
  cond (decide ((IntKind.wrap .i64 ((IntKind.wrap .i64 ((2 : Int) * x10)) + (1 : Int))) ≥ x2)) (
  J w2) (
  Join [(40, .bool)] (fun (b40 : Bool) (w4 : World) => Join [(11, .int .i64)] (fun (x11 : Int) (w5 : World) => Let w5.drew fun w6 =>
  ∃ p48 : Pt, s0.a = some ⟨p48.b, p48.o, none⟩ ∧ 0 ≤ (IntKind.wrap .i64 (x3 + x10)) ∧ (IntKind.wrap .i64 (x3 + x10)) < ((s0.n : Nat) : Int) ∧ ∃ x49_0 : Int, ∃ s49_1 : Sl, rd w6 p48.b (p48.o + Int.toNat (IntKind.wrap .i64 (x3 + x10)) * 2) [(.int .i64 x49_0), (.slice s49_1.a s49_1.n s49_1.c)] ∧ ∃ p54 : Pt, s0.a = some ⟨p54.b, p54.o, none⟩ ∧ 0 ≤ (IntKind.wrap .i64 (x3 + x11)) ∧ (IntKind.wrap .i64 (x3 + x11)) < ((s0.n : Nat) : Int) ∧ ∃ x55_0 : Int, ∃ s55_1 : Sl, rd w6 p54.b (p54.o + Int.toNat (IntKind.wrap .i64 (x3 + x11)) * 2) [(.int .i64 x55_0), (.slice s55_1.a s55_1.n s55_1.c)] ∧ (bif callable Try.prog f4 then Calls Try.prog f4 (([(.agg [(.int .i64 x49_0), (.slice s49_1.a s49_1.n s49_1.c)].toArray), (.agg [(.int .i64 x55_0), (.slice s55_1.a s55_1.n s55_1.c)].toArray)] : List Value) ++ c4).toArray w6 (fun e w7 => ∃ x56 : Int, e = .returned (.int .i64 x56) ∧
  cond (!(decide (x56 < (0 : Int)))) (
  R (.tuple [].toArray) w7) (
  Let w7.drew fun w8 =>
  ∃ p71 : Pt, s0.a = some ⟨p71.b, p71.o, none⟩ ∧ 0 ≤ (IntKind.wrap .i64 (x3 + x11)) ∧ (IntKind.wrap .i64 (x3 + x11)) < ((s0.n : Nat) : Int) ∧ ∃ x72_0 : Int, ∃ s72_1 : Sl, rd w8 p71.b (p71.o + Int.toNat (IntKind.wrap .i64 (x3 + x11)) * 2) [(.int .i64 x72_0), (.slice s72_1.a s72_1.n s72_1.c)] ∧ ∃ p77 : Pt, s0.a = some ⟨p77.b, p77.o, none⟩ ∧ 0 ≤ (IntKind.wrap .i64 (x3 + x10)) ∧ (IntKind.wrap .i64 (x3 + x10)) < ((s0.n : Nat) : Int) ∧ ∃ x78_0 : Int, ∃ s78_1 : Sl, rd w8 p77.b (p77.o + Int.toNat (IntKind.wrap .i64 (x3 + x10)) * 2) [(.int .i64 x78_0), (.slice s78_1.a s78_1.n s78_1.c)] ∧ ∃ p79 : Pt, s0.a = some ⟨p79.b, p79.o, none⟩ ∧ 0 ≤ (IntKind.wrap .i64 (x3 + x10)) ∧ (IntKind.wrap .i64 (x3 + x10)) < ((s0.n : Nat) : Int) ∧ StoreOk w8 p79.b (p79.o + Int.toNat (IntKind.wrap .i64 (x3 + x10)) * 2) [(.int .i64 x72_0), (.slice s72_1.a s72_1.n s72_1.c)] 2 ∧ Let (put w8 p79.b (p79.o + Int.toNat (IntKind.wrap .i64 (x3 + x10)) * 2) [(.int .i64 x72_0), (.slice s72_1.a s72_1.n s72_1.c)]) fun w9 => 
  ∃ p80 : Pt, s0.a = some ⟨p80.b, p80.o, none⟩ ∧ 0 ≤ (IntKind.wrap .i64 (x3 + x11)) ∧ (IntKind.wrap .i64 (x3 + x11)) < ((s0.n : Nat) : Int) ∧ StoreOk w9 p80.b (p80.o + Int.toNat (IntKind.wrap .i64 (x3 + x11)) * 2) [(.int .i64 x78_0), (.slice s78_1.a s78_1.n s78_1.c)] 2 ∧ Let (put w9 p80.b (p80.o + Int.toNat (IntKind.wrap .i64 (x3 + x11)) * 2) [(.int .i64 x78_0), (.slice s78_1.a s78_1.n s78_1.c)]) fun w10 => 
  J_2 x11 w10)) else False)) (fun J_3 =>
  cond b40 (
  J_3 (IntKind.wrap .i64 ((IntKind.wrap .i64 ((IntKind.wrap .i64 ((2 : Int) * x10)) + (1 : Int))) + (1 : Int))) w4) (
  J_3 (IntKind.wrap .i64 ((IntKind.wrap .i64 ((2 : Int) * x10)) + (1 : Int))) w4))) (fun J_4 =>
  Let w2.drew fun w11 =>
  cond (decide ((IntKind.wrap .i64 ((IntKind.wrap .i64 ((IntKind.wrap .i64 ((2 : Int) * x10)) + (1 : Int))) + (1 : Int))) < x2)) (∃ p29 : Pt, s0.a = some ⟨p29.b, p29.o, none⟩ ∧ 0 ≤ (IntKind.wrap .i64 (x3 + (IntKind.wrap .i64 ((IntKind.wrap .i64 ((2 : Int) * x10)) + (1 : Int))))) ∧ (IntKind.wrap .i64 (x3 + (IntKind.wrap .i64 ((IntKind.wrap .i64 ((2 : Int) * x10)) + (1 : Int))))) < ((s0.n : Nat) : Int) ∧ ∃ x30_0 : Int, ∃ s30_1 : Sl, rd w11 p29.b (p29.o + Int.toNat (IntKind.wrap .i64 (x3 + (IntKind.wrap .i64 ((IntKind.wrap .i64 ((2 : Int) * x10)) + (1 : Int))))) * 2) [(.int .i64 x30_0), (.slice s30_1.a s30_1.n s30_1.c)] ∧ ∃ p36 : Pt, s0.a = some ⟨p36.b, p36.o, none⟩ ∧ 0 ≤ (IntKind.wrap .i64 ((IntKind.wrap .i64 (x3 + (IntKind.wrap .i64 ((IntKind.wrap .i64 ((2 : Int) * x10)) + (1 : Int))))) + (1 : Int))) ∧ (IntKind.wrap .i64 ((IntKind.wrap .i64 (x3 + (IntKind.wrap .i64 ((IntKind.wrap .i64 ((2 : Int) * x10)) + (1 : Int))))) + (1 : Int))) < ((s0.n : Nat) : Int) ∧ ∃ x37_0 : Int, ∃ s37_1 : Sl, rd w11 p36.b (p36.o + Int.toNat (IntKind.wrap .i64 ((IntKind.wrap .i64 (x3 + (IntKind.wrap .i64 ((IntKind.wrap .i64 ((2 : Int) * x10)) + (1 : Int))))) + (1 : Int))) * 2) [(.int .i64 x37_0), (.slice s37_1.a s37_1.n s37_1.c)] ∧ (bif callable Try.prog f4 then Calls Try.prog f4 (([(.agg [(.int .i64 x30_0), (.slice s30_1.a s30_1.n s30_1.c)].toArray), (.agg [(.int .i64 x37_0), (.slice s37_1.a s37_1.n s37_1.c)].toArray)] : List Value) ++ c4).toArray w11 (fun e_2 w12 => ∃ x38 : Int, e_2 = .returned (.int .i64 x38) ∧
  J_4 (decide (x38 < (0 : Int))) w12) else False)) (J_4 false w11))))))
theorem eq140 (s0 : Sl) (x1 : Int) (x2 : Int) (x3 : Int) (f4 : Nat) (c4 : List Value) (R : Value → World → Prop) (w : World) : funV Try.prog Try.f140 An140 [(.slice s0.a s0.n s0.c), (.int .i64 x1), (.int .i64 x2), (.int .i64 x3), (.func (.func f4) #[] c4.toArray)] R w = S140 s0 x1 x2 x3 f4 c4 R w := by kernel_rfl
theorem call140 (s0 : Sl) (x1 : Int) (x2 : Int) (x3 : Int) (f4 : Nat) (c4 : List Value) {R : Value → World → Prop} {w : World} (h : S140 s0 x1 x2 x3 f4 c4 R w) : Calls Try.prog 140 [(.slice s0.a s0.n s0.c), (.int .i64 x1), (.int .i64 x2), (.int .i64 x3), (.func (.func f4) #[] c4.toArray)].toArray w fun e w' => ∃ v, e = .returned v ∧ R v w' :=
  funV_calls mixed Try.func140 (an := An140) (by rw [eq140]; exact h)

/-- F131: slices.heapSortCmpFunc[cubeb/api.Fact] -/
def An131 : An := (.sq .lf (.sq .lf (.sq .lf (.sq (.sq .lf (.bk [] (.lp [(11, .int .i64)] (.sq (.sq .lf (.cd .lf .lf)) (.sq (.bk [] .lf) .lf))))) (.sq .lf (.bk [] (.lp [(12, .int .i64)] (.sq (.sq .lf (.cd .lf .lf)) (.sq (.bk [] (.sq (.dr [0, 1, 2, 3, 4, 5, 6, 7, 8, 9, 10, 11, 12, 13, 14, 15, 16, 17, 18, 19] [] false none) .lf)) .lf)))))))))
def S131 (s0 : Sl) (x1 : Int) (x2 : Int) (f3 : Nat) (c3 : List Value) (R : Value → World → Prop) (w : World) : Prop :=
  (2 : Int) ≠ 0 ∧ Join [] (fun (w1 : World) => Join [] (fun (w2 : World) => R (.tuple [].toArray) w2) (fun J =>
  LoopV [(12, .int .i64)] (fun K => K (IntKind.wrap .i64 ((IntKind.wrap .i64 (x2 - x1)) - (1 : Int))) w1) (fun N => fun (x12 : Int) (w3 : World) =>
  cond (decide (x12 ≥ (0 : Int))) (
  Join [] (fun (w4 : World) => N (IntKind.wrap .i64 (x12 - (1 : Int))) w4) (fun J_2 =>
  Let w3.drew fun w5 =>
  ∃ p46 : Pt, s0.a = some ⟨p46.b, p46.o, none⟩ ∧ 0 ≤ (IntKind.wrap .i64 (x1 + x12)) ∧ (IntKind.wrap .i64 (x1 + x12)) < ((s0.n : Nat) : Int) ∧ ∃ x47_0 : Int, ∃ s47_1 : Sl, rd w5 p46.b (p46.o + Int.toNat (IntKind.wrap .i64 (x1 + x12)) * 2) [(.int .i64 x47_0), (.slice s47_1.a s47_1.n s47_1.c)] ∧ ∃ p50 : Pt, s0.a = some ⟨p50.b, p50.o, none⟩ ∧ 0 ≤ x1 ∧ x1 < ((s0.n : Nat) : Int) ∧ ∃ x51_0 : Int, ∃ s51_1 : Sl, rd w5 p50.b (p50.o + Int.toNat x1 * 2) [(.int .i64 x51_0), (.slice s51_1.a s51_1.n s51_1.c)] ∧ ∃ p52 : Pt, s0.a = some ⟨p52.b, p52.o, none⟩ ∧ 0 ≤ x1 ∧ x1 < ((s0.n : Nat) : Int) ∧ StoreOk w5 p52.b (p52.o + Int.toNat x1 * 2) [(.int .i64 x47_0), (.slice s47_1.a s47_1.n s47_1.c)] 2 ∧ Let (put w5 p52.b (p52.o + Int.toNat x1 * 2) [(.int .i64 x47_0), (.slice s47_1.a s47_1.n s47_1.c)]) fun w6 => 
  ∃ p53 : Pt, s0.a = some ⟨p53.b, p53.o, none⟩ ∧ 0 ≤ (IntKind.wrap .i64 (x1 + x12)) ∧ (IntKind.wrap .i64 (x1 + x12)) < ((s0.n : Nat) : Int) ∧ StoreOk w6 p53.b (p53.o + Int.toNat (IntKind.wrap .i64 (x1 + x12)) * 2) [(.int .i64 x51_0), (.slice s51_1.a s51_1.n s51_1.c)] 2 ∧ Let (put w6 p53.b (p53.o + Int.toNat (IntKind.wrap .i64 (x1 + x12)) * 2) [(.int .i64 x51_0), (.slice s51_1.a s51_1.n s51_1.c)]) fun w7 => 
  Calls Try.prog 140 [(.slice s0.a s0.n s0.c), (.int .i64 (0 : Int)), (.int .i64 x12), (.int .i64 x1), (.func (.func f3) #[] c3.toArray)].toArray w7 (fun e w8 => e = .returned (.tuple [].toArray) ∧
  J_2 w8))) (
  J w3)))) (fun J_3 =>
  LoopV [(11, .int .i64)] (fun K => K (IntKind.wrap .i64 (Int.tdiv (IntKind.wrap .i64 ((IntKind.wrap .i64 (x2 - x1)) - (1 : Int))) (2 : Int))) w) (fun N_2 => fun (x11 : Int) (w9 : World) =>
  cond (decide (x11 ≥ (0 : Int))) (
  Join [] (fun (w10 : World) => N_2 (IntKind.wrap .i64 (x11 - (1 : Int))) w10) (fun J_4 =>
  Calls Try.prog 140 [(.slice s0.a s0.n s0.c), (.int .i64 x11), (.int .i64 (IntKind.wrap .i64 (x2 - x1))), (.int .i64 x1), (.func (.func f3) #[] c3.toArray)].toArray w9 (fun e_2 w11 => e_2 = .returned (.tuple [].toArray) ∧
  J_4 w11))) (
  J_3 w9)))
theorem eq131 (s0 : Sl) (x1 : Int) (x2 : Int) (f3 : Nat) (c3 : List Value) (R : Value → World → Prop) (w : World) : funV Try.prog Try.f131 An131 [(.slice s0.a s0.n s0.c), (.int .i64 x1), (.int .i64 x2), (.func (.func f3) #[] c3.toArray)] R w = S131 s0 x1 x2 f3 c3 R w := by kernel_rfl
theorem call131 (s0 : Sl) (x1 : Int) (x2 : Int) (f3 : Nat) (c3 : List Value) {R : Value → World → Prop} {w : World} (h : S131 s0 x1 x2 f3 c3 R w) : Calls Try.prog 131 [(.slice s0.a s0.n s0.c), (.int .i64 x1), (.int .i64 x2), (.func (.func f3) #[] c3.toArray)].toArray w fun e w' => ∃ v, e = .returned v ∧ R v w' :=
  funV_calls mixed Try.func131 (an := An131) (by rw [eq131]; exact h)

/-- F135: slices.partialInsertionSortCmpFunc[cubeb/api.Fact] -/
def An135 : An := (.sq .lf (.sq .lf (.sq (.sq .lf (.bk [] (.lp [(9, .int .i64), (10, .int .i64)] (.sq (.sq .lf (.cd .lf .lf)) (.sq (.bk [(9, .int .i64)] (.sq (.bk [(9, .int .i64)] (.lp [(9, .int .i64)] (.sq (.sq (.dr [0, 1, 2, 3, 4, 5, 6, 7, 8, 9, 10, 11, 12, 13, 14, 15, 16, 17] [] false (some [(36, .bool)])) (.cd .lf .lf)) (.bk [(9, .int .i64)] .lf)))) (.sq (.sq .lf (.cd (.sq .lf .lf) .lf)) (.sq (.sq .lf (.cd (.sq .lf .lf) .lf)) (.sq (.dr [0, 1, 2, 3, 4, 5, 6, 7, 8, 9, 10, 11, 12, 13, 14, 15, 16, 17] [] false none) (.sq (.sq .lf (.cj [] (.sq .lf (.bk [] (.lp [(11, .int .i64)] (.sq (.sq .lf (.cd .lf .lf)) (.sq (.bk [] (.sq (.sq (.dr [0, 1, 2, 3, 4, 5, 6, 7, 8, 9, 10, 11, 12] [] false none) (.cd .lf .lf)) (.dr [0, 1, 2, 3, 4, 5, 6, 7, 8, 9, 10, 11, 12, 13, 14, 15, 16, 17] [] false none))) .lf))))) .lf)) (.sq .lf (.cj [] (.sq .lf (.bk [] (.lp [(12, .int .i64)] (.sq (.sq .lf (.cd .lf .lf)) (.sq (.bk [] (.sq (.sq (.dr [0, 1, 2, 3, 4, 5, 6, 7, 8, 9, 10, 11, 12] [] false none) (.cd .lf .lf)) (.dr [0, 1, 2, 3, 4, 5, 6, 7, 8, 9, 10, 11, 12, 13, 14, 15, 16, 17] [] false none))) .lf))))) .lf)))))))) .lf))))) (.sq .lf .lf))))
def S135 (s0 : Sl) (x1 : Int) (x2 : Int) (f3 : Nat) (c3 : List Value) (R : Value → World → Prop) (w : World) : Prop :=
  Join [] (fun (w1 : World) => R (.bool false) w1) (fun J =>
  LoopV [(9, .int .i64), (10, .int .i64)] (fun K => K (IntKind.wrap .i64 (x1 + (1 : Int))) (0 : Int) w) (fun N => fun (x9 : Int) (x10 : Int) (w2 : World) =>
  cond (decide (x10 < (5 : Int))) (
  Join [(9, .int .i64)] (fun (x9_2 : Int) (w3 : World) => N x9_2 (IntKind.wrap .i64 (x10 + (1 : Int))) w3) (fun J_2 =>
  Join [(9, .int .i64)] (fun (x9_3 : Int) (w4 : World) => cond (x9_3 == x2) (
  R (.bool true) w4) (
  cond (decide ((IntKind.wrap .i64 (x2 - x1)) < (50 : Int))) (
  R (.bool false) w4) (
  Let w4.drew fun w5 =>
  ∃ p54 : Pt, s0.a = some ⟨p54.b, p54.o, none⟩ ∧ 0 ≤ (IntKind.wrap .i64 (x9_3 - (1 : Int))) ∧ (IntKind.wrap .i64 (x9_3 - (1 : Int))) < ((s0.n : Nat) : Int) ∧ ∃ x55_0 : Int, ∃ s55_1 : Sl, rd w5 p54.b (p54.o + Int.toNat (IntKind.wrap .i64 (x9_3 - (1 : Int))) * 2) [(.int .i64 x55_0), (.slice s55_1.a s55_1.n s55_1.c)] ∧ ∃ p58 : Pt, s0.a = some ⟨p58.b, p58.o, none⟩ ∧ 0 ≤ x9_3 ∧ x9_3 < ((s0.n : Nat) : Int) ∧ ∃ x59_0 : Int, ∃ s59_1 : Sl, rd w5 p58.b (p58.o + Int.toNat x9_3 * 2) [(.int .i64 x59_0), (.slice s59_1.a s59_1.n s59_1.c)] ∧ ∃ p60 : Pt, s0.a = some ⟨p60.b, p60.o, none⟩ ∧ 0 ≤ x9_3 ∧ x9_3 < ((s0.n : Nat) : Int) ∧ StoreOk w5 p60.b (p60.o + Int.toNat x9_3 * 2) [(.int .i64 x55_0), (.slice s55_1.a s55_1.n s55_1.c)] 2 ∧ Let (put w5 p60.b (p60.o + Int.toNat x9_3 * 2) [(.int .i64 x55_0), (.slice s55_1.a s55_1.n s55_1.c)]) fun w6 => 
  ∃ p61 : Pt, s0.a = some ⟨p61.b, p61.o, none⟩ ∧ 0 ≤ (IntKind.wrap .i64 (x9_3 - (1 : Int))) ∧ (IntKind.wrap .i64 (x9_3 - (1 : Int))) < ((s0.n : Nat) : Int) ∧ StoreOk w6 p61.b (p61.o + Int.toNat (IntKind.wrap .i64 (x9_3 - (1 : Int))) * 2) [(.int .i64 x59_0), (.slice s59_1.a s59_1.n s59_1.c)] 2 ∧ Let (put w6 p61.b (p61.o + Int.toNat (IntKind.wrap .i64 (x9_3 - (1 : Int))) * 2) [(.int .i64 x59_0), (.slice s59_1.a s59_1.n s59_1.c)]) fun w7 => 
  Join [] (fun (w8 : World) => Join [] (fun (w9 : World) => J_2 x9_3 w9) (fun J_3 =>
  cond (decide ((IntKind.wrap .i64 (x2 - x9_3)) ≥ (2 : Int))) (
  Join [] (fun (w10 : World) => J_3 w10) (fun J_4 =>
  LoopV [(12, .int .i64)] (fun K => K (IntKind.wrap .i64 (x9_3 + (1 : Int))) w8) (fun N_2 => fun (x12 : Int) (w11 : World) =>
  cond (decide (x12 < x2)) (
  Join [] (fun (w12 : World) => N_2 (IntKind.wrap .i64 (x12 + (1 : Int))) w12) (fun J_5 =>
  Let w11.drew fun w13 =>
  ∃ p115 : Pt, s0.a = some ⟨p115.b, p115.o, none⟩ ∧ 0 ≤ x12 ∧ x12 < ((s0.n : Nat) : Int) ∧ ∃ x116_0 : Int, ∃ s116_1 : Sl, rd w13 p115.b (p115.o + Int.toNat x12 * 2) [(.int .i64 x116_0), (.slice s116_1.a s116_1.n s116_1.c)] ∧ ∃ p120 : Pt, s0.a = some ⟨p120.b, p120.o, none⟩ ∧ 0 ≤ (IntKind.wrap .i64 (x12 - (1 : Int))) ∧ (IntKind.wrap .i64 (x12 - (1 : Int))) < ((s0.n : Nat) : Int) ∧ ∃ x121_0 : Int, ∃ s121_1 : Sl, rd w13 p120.b (p120.o + Int.toNat (IntKind.wrap .i64 (x12 - (1 : Int))) * 2) [(.int .i64 x121_0), (.slice s121_1.a s121_1.n s121_1.c)] ∧ (bif callable Try.prog f3 then Calls Try.prog f3 (([(.agg [(.int .i64 x116_0), (.slice s116_1.a s116_1.n s116_1.c)].toArray), (.agg [(.int .i64 x121_0), (.slice s121_1.a s121_1.n s121_1.c)].toArray)] : List Value) ++ c3).toArray w13 (fun e w14 => ∃ x122 : Int, e = .returned (.int .i64 x122) ∧
  cond (!(decide (x122 < (0 : Int)))) (
  J_4 w14) (
  Let w14.drew fun w15 =>
  ∃ p133 : Pt, s0.a = some ⟨p133.b, p133.o, none⟩ ∧ 0 ≤ (IntKind.wrap .i64 (x12 - (1 : Int))) ∧ (IntKind.wrap .i64 (x12 - (1 : Int))) < ((s0.n : Nat) : Int) ∧ ∃ x134_0 : Int, ∃ s134_1 : Sl, rd w15 p133.b (p133.o + Int.toNat (IntKind.wrap .i64 (x12 - (1 : Int))) * 2) [(.int .i64 x134_0), (.slice s134_1.a s134_1.n s134_1.c)] ∧ ∃ p137 : Pt, s0.a = some ⟨p137.b, p137.o, none⟩ ∧ 0 ≤ x12 ∧ x12 < ((s0.n : Nat) : Int) ∧ ∃ x138_0 : Int, ∃ s138_1 : Sl, rd w15 p137.b (p137.o + Int.toNat x12 * 2) [(.int .i64 x138_0), (.slice s138_1.a s138_1.n s138_1.c)] ∧ ∃ p139 : Pt, s0.a = some ⟨p139.b, p139.o, none⟩ ∧ 0 ≤ x12 ∧ x12 < ((s0.n : Nat) : Int) ∧ StoreOk w15 p139.b (p139.o + Int.toNat x12 * 2) [(.int .i64 x134_0), (.slice s134_1.a s134_1.n s134_1.c)] 2 ∧ Let (put w15 p139.b (p139.o + Int.toNat x12 * 2) [(.int .i64 x134_0), (.slice s134_1.a s134_1.n s134_1.c)]) fun w16 => 
  ∃ p140 : Pt, s0.a = some ⟨p140.b, p140.o, none⟩ ∧ 0 ≤ (IntKind.wrap .i64 (x12 - (1 : Int))) ∧ (IntKind.wrap .i64 (x12 - (1 : Int))) < ((s0.n : Nat) : Int) ∧ StoreOk w16 p140.b (p140.o + Int.toNat (IntKind.wrap .i64 (x12 - (1 : Int))) * 2) [(.int .i64 x138_0), (.slice s138_1.a s138_1.n s138_1.c)] 2 ∧ Let (put w16 p140.b (p140.o + Int.toNat (IntKind.wrap .i64 (x12 - (1 : Int))) * 2) [(.int .i64 x138_0), (.slice s138_1.a s138_1.n s138_1.c)]) fun w17 => 
  J_5 w17)) else False))) (
  J_4 w11)))) (
  J_3 w8))) (fun J_6 =>
  cond (decide ((IntKind.wrap .i64 (x9_3 - x1)) ≥ (2 : Int))) (
  Join [] (fun (w18 : World) => J_6 w18) (fun J_7 =>
  LoopV [(11, .int .i64)] (fun K => K (IntKind.wrap .i64 (x9_3 - (1 : Int))) w7) (fun N_3 => fun (x11 : Int) (w19 : World) =>
  cond (decide (x11 ≥ (1 : Int))) (
  Join [] (fun (w20 : World) => N_3 (IntKind.wrap .i64 (x11 - (1 : Int))) w20) (fun J_8 =>
  Let w19.drew fun w21 =>
  ∃ p75 : Pt, s0.a = some ⟨p75.b, p75.o, none⟩ ∧ 0 ≤ x11 ∧ x11 < ((s0.n : Nat) : Int) ∧ ∃ x76_0 : Int, ∃ s76_1 : Sl, rd w21 p75.b (p75.o + Int.toNat x11 * 2) [(.int .i64 x76_0), (.slice s76_1.a s76_1.n s76_1.c)] ∧ ∃ p80 : Pt, s0.a = some ⟨p80.b, p80.o, none⟩ ∧ 0 ≤ (IntKind.wrap .i64 (x11 - (1 : Int))) ∧ (IntKind.wrap .i64 (x11 - (1 : Int))) < ((s0.n : Nat) : Int) ∧ ∃ x81_0 : Int, ∃ s81_1 : Sl, rd w21 p80.b (p80.o + Int.toNat (IntKind.wrap .i64 (x11 - (1 : Int))) * 2) [(.int .i64 x81_0), (.slice s81_1.a s81_1.n s81_1.c)] ∧ (bif callable Try.prog f3 then Calls Try.prog f3 (([(.agg [(.int .i64 x76_0), (.slice s76_1.a s76_1.n s76_1.c)].toArray), (.agg [(.int .i64 x81_0), (.slice s81_1.a s81_1.n s81_1.c)].toArray)] : List Value) ++ c3).toArray w21 (fun e_2 w22 => ∃ x82 : Int, e_2 = .returned (.int .i64 x82) ∧
  cond (!(decide (x82 < (0 : Int)))) (
  J_7 w22) (
  Let w22.drew fun w23 =>
  ∃ p93 : Pt, s0.a = some ⟨p93.b, p93.o, none⟩ ∧ 0 ≤ (IntKind.wrap .i64 (x11 - (1 : Int))) ∧ (IntKind.wrap .i64 (x11 - (1 : Int))) < ((s0.n : Nat) : Int) ∧ ∃ x94_0 : Int, ∃ s94_1 : Sl, rd w23 p93.b (p93.o + Int.toNat (IntKind.wrap .i64 (x11 - (1 : Int))) * 2) [(.int .i64 x94_0), (.slice s94_1.a s94_1.n s94_1.c)] ∧ ∃ p97 : Pt, s0.a = some ⟨p97.b, p97.o, none⟩ ∧ 0 ≤ x11 ∧ x11 < ((s0.n : Nat) : Int) ∧ ∃ x98_0 : Int, ∃ s98_1 : Sl, rd w23 p97.b (p97.o + Int.toNat x11 * 2) [(.int .i64 x98_0), (.slice s98_1.a s98_1.n s98_1.c)] ∧ ∃ p99 : Pt, s0.a = some ⟨p99.b, p99.o, none⟩ ∧ 0 ≤ x11 ∧ x11 < ((s0.n : Nat) : Int) ∧ StoreOk w23 p99.b (p99.o + Int.toNat x11 * 2) [(.int .i64 x94_0), (.slice s94_1.a s94_1.n s94_1.c)] 2 ∧ Let (put w23 p99.b (p99.o + Int.toNat x11 * 2) [(.int .i64 x94_0), (.slice s94_1.a s94_1.n s94_1.c)]) fun w24 => 
  ∃ p100 : Pt, s0.a = some ⟨p100.b, p100.o, none⟩ ∧ 0 ≤ (IntKind.wrap .i64 (x11 - (1 : Int))) ∧ (IntKind.wrap .i64 (x11 - (1 : Int))) < ((s0.n : Nat) : Int) ∧ StoreOk w24 p100.b (p100.o + Int.toNat (IntKind.wrap .i64 (x11 - (1 : Int))) * 2) [(.int .i64 x98_0), (.slice s98_1.a s98_1.n s98_1.c)] 2 ∧ Let (put w24 p100.b (p100.o + Int.toNat (IntKind.wrap .i64 (x11 - (1 : Int))) * 2) [(.int .i64 x98_0), (.slice s98_1.a s98_1.n s98_1.c)]) fun w25 => 
  J_8 w25)) else False))) (
  J_7 w19)))) (
  J_6 w7))))) (fun J_9 =>
  LoopV [(9, .int .i64)] (fun K => K x9 w2) (fun N_4 => fun (x9_4 : Int) (w26 : World) =>
  Join [(36, .bool)] (fun (b36 : Bool) (w27 : World) => cond b36 (
  Join [(9, .int .i64)] (fun (x9_5 : Int) (w28 : World) => N_4 x9_5 w28) (fun J_10 =>
  J_10 (IntKind.wrap .i64 (x9_4 + (1 : Int))) w27)) (
  J_9 x9_4 w27)) (fun J_11 =>
  Let w26.drew fun w29 =>
  cond (decide (x9_4 < x2)) (∃ p26 : Pt, s0.a = some ⟨p26.b, p26.o, none⟩ ∧ 0 ≤ x9_4 ∧ x9_4 < ((s0.n : Nat) : Int) ∧ ∃ x27_0 : Int, ∃ s27_1 : Sl, rd w29 p26.b (p26.o + Int.toNat x9_4 * 2) [(.int .i64 x27_0), (.slice s27_1.a s27_1.n s27_1.c)] ∧ ∃ p31 : Pt, s0.a = some ⟨p31.b, p31.o, none⟩ ∧ 0 ≤ (IntKind.wrap .i64 (x9_4 - (1 : Int))) ∧ (IntKind.wrap .i64 (x9_4 - (1 : Int))) < ((s0.n : Nat) : Int) ∧ ∃ x32_0 : Int, ∃ s32_1 : Sl, rd w29 p31.b (p31.o + Int.toNat (IntKind.wrap .i64 (x9_4 - (1 : Int))) * 2) [(.int .i64 x32_0), (.slice s32_1.a s32_1.n s32_1.c)] ∧ (bif callable Try.prog f3 then Calls Try.prog f3 (([(.agg [(.int .i64 x27_0), (.slice s27_1.a s27_1.n s27_1.c)].toArray), (.agg [(.int .i64 x32_0), (.slice s32_1.a s32_1.n s32_1.c)].toArray)] : List Value) ++ c3).toArray w29 (fun e_3 w30 => ∃ x33 : Int, e_3 = .returned (.int .i64 x33) ∧
  J_11 (!(decide (x33 < (0 : Int)))) w30) else False)) (J_11 false w29)))))) (
  J w2)))
theorem eq135 (s0 : Sl) (x1 : Int) (x2 : Int) (f3 : Nat) (c3 : List Value) (R : Value → World → Prop) (w : World) : funV Try.prog Try.f135 An135 [(.slice s0.a s0.n s0.c), (.int .i64 x1), (.int .i64 x2), (.func (.func f3) #[] c3.toArray)] R w = S135 s0 x1 x2 f3 c3 R w := by kernel_rfl
theorem call135 (s0 : Sl) (x1 : Int) (x2 : Int) (f3 : Nat) (c3 : List Value) {R : Value → World → Prop} {w : World} (h : S135 s0 x1 x2 f3 c3 R w) : Calls Try.prog 135 [(.slice s0.a s0.n s0.c), (.int .i64 x1), (.int .i64 x2), (.func (.func f3) #[] c3.toArray)].toArray w fun e w' => ∃ v, e = .returned v ∧ R v w' :=
  funV_calls mixed Try.func135 (an := An135) (by rw [eq135]; exact h)

/-- F136: slices.partitionEqualCmpFunc[cubeb/api.Fact] -/
def An136 : An := (.sq .lf (.sq (.dr [0, 1, 2, 3, 4, 5, 6, 7, 8, 9, 10, 11, 12, 13, 14, 15] [] false none) (.sq .lf (.sq (.bk [(11, .int .i64)] (.lp [(11, .int .i64), (12, .int .i64)] (.bk [(11, .int .i64), (12, .int .i64)] (.sq (.bk [(11, .int .i64)] (.lp [(11, .int .i64)] (.sq (.sq (.dr [0, 1, 2, 3, 4, 5, 6, 7, 8, 9, 10, 11, 12, 13, 14, 15, 16] [] false (some [(47, .bool)])) (.cd .lf .lf)) (.bk [(11, .int .i64)] .lf)))) (.sq (.bk [(12, .int .i64)] (.lp [(12, .int .i64)] (.sq (.sq (.dr [0, 1, 2, 3, 4, 5, 6, 7, 8, 9, 10, 11, 12, 13, 14, 15] [] false (some [(65, .bool)])) (.cd .lf .lf)) (.bk [(12, .int .i64)] .lf)))) (.sq (.sq .lf (.cd .lf .lf)) (.sq (.dr [0, 1, 2, 3, 4, 5, 6, 7, 8, 9, 10, 11, 12, 13, 14, 15] [] false none) (.sq .lf .lf)))))))) (.sq .lf .lf)))))
def S136 (s0 : Sl) (x1 : Int) (x2 : Int) (x3 : Int) (f4 : Nat) (c4 : List Value) (R : Value → World → Prop) (w : World) : Prop :=
  Let w.drew fun w1 =>
  ∃ p19 : Pt, s0.a = some ⟨p19.b, p19.o, none⟩ ∧ 0 ≤ x3 ∧ x3 < ((s0.n : Nat) : Int) ∧ ∃ x20_0 : Int, ∃ s20_1 : Sl, rd w1 p19.b (p19.o + Int.toNat x3 * 2) [(.int .i64 x20_0), (.slice s20_1.a s20_1.n s20_1.c)] ∧ ∃ p23 : Pt, s0.a = some ⟨p23.b, p23.o, none⟩ ∧ 0 ≤ x1 ∧ x1 < ((s0.n : Nat) : Int) ∧ ∃ x24_0 : Int, ∃ s24_1 : Sl, rd w1 p23.b (p23.o + Int.toNat x1 * 2) [(.int .i64 x24_0), (.slice s24_1.a s24_1.n s24_1.c)] ∧ ∃ p25 : Pt, s0.a = some ⟨p25.b, p25.o, none⟩ ∧ 0 ≤ x1 ∧ x1 < ((s0.n : Nat) : Int) ∧ StoreOk w1 p25.b (p25.o + Int.toNat x1 * 2) [(.int .i64 x20_0), (.slice s20_1.a s20_1.n s20_1.c)] 2 ∧ Let (put w1 p25.b (p25.o + Int.toNat x1 * 2) [(.int .i64 x20_0), (.slice s20_1.a s20_1.n s20_1.c)]) fun w2 => 
  ∃ p26 : Pt, s0.a = some ⟨p26.b, p26.o, none⟩ ∧ 0 ≤ x3 ∧ x3 < ((s0.n : Nat) : Int) ∧ StoreOk w2 p26.b (p26.o + Int.toNat x3 * 2) [(.int .i64 x24_0), (.slice s24_1.a s24_1.n s24_1.c)] 2 ∧ Let (put w2 p26.b (p26.o + Int.toNat x3 * 2) [(.int .i64 x24_0), (.slice s24_1.a s24_1.n s24_1.c)]) fun w3 => 
  Join [(11, .int .i64)] (fun (x11 : Int) (w4 : World) => R (.int .i64 x11) w4) (fun J =>
  LoopV [(11, .int .i64), (12, .int .i64)] (fun K => K (IntKind.wrap .i64 (x1 + (1 : Int))) (IntKind.wrap .i64 (x2 - (1 : Int))) w3) (fun N => fun (x11_2 : Int) (x12 : Int) (w5 : World) =>
  Join [(11, .int .i64), (12, .int .i64)] (fun (x11_3 : Int) (x12_2 : Int) (w6 : World) => N x11_3 x12_2 w6) (fun J_2 =>
  Join [(11, .int .i64)] (fun (x11_4 : Int) (w7 : World) => Join [(12, .int .i64)] (fun (x12_3 : Int) (w8 : World) => cond (decide (x11_4 > x12_3)) (
  J x11_4 w8) (
  Let w8.drew fun w9 =>
  ∃ p77 : Pt, s0.a = some ⟨p77.b, p77.o, none⟩ ∧ 0 ≤ x12_3 ∧ x12_3 < ((s0.n : Nat) : Int) ∧ ∃ x78_0 : Int, ∃ s78_1 : Sl, rd w9 p77.b (p77.o + Int.toNat x12_3 * 2) [(.int .i64 x78_0), (.slice s78_1.a s78_1.n s78_1.c)] ∧ ∃ p81 : Pt, s0.a = some ⟨p81.b, p81.o, none⟩ ∧ 0 ≤ x11_4 ∧ x11_4 < ((s0.n : Nat) : Int) ∧ ∃ x82_0 : Int, ∃ s82_1 : Sl, rd w9 p81.b (p81.o + Int.toNat x11_4 * 2) [(.int .i64 x82_0), (.slice s82_1.a s82_1.n s82_1.c)] ∧ ∃ p83 : Pt, s0.a = some ⟨p83.b, p83.o, none⟩ ∧ 0 ≤ x11_4 ∧ x11_4 < ((s0.n : Nat) : Int) ∧ StoreOk w9 p83.b (p83.o + Int.toNat x11_4 * 2) [(.int .i64 x78_0), (.slice s78_1.a s78_1.n s78_1.c)] 2 ∧ Let (put w9 p83.b (p83.o + Int.toNat x11_4 * 2) [(.int .i64 x78_0), (.slice s78_1.a s78_1.n s78_1.c)]) fun w10 => 
  ∃ p84 : Pt, s0.a = some ⟨p84.b, p84.o, none⟩ ∧ 0 ≤ x12_3 ∧ x12_3 < ((s0.n : Nat) : Int) ∧ StoreOk w10 p84.b (p84.o + Int.toNat x12_3 * 2) [(.int .i64 x82_0), (.slice s82_1.a s82_1.n s82_1.c)] 2 ∧ Let (put w10 p84.b (p84.o + Int.toNat x12_3 * 2) [(.int .i64 x82_0), (.slice s82_1.a s82_1.n s82_1.c)]) fun w11 => 
  J_2 (IntKind.wrap .i64 (x11_4 + (1 : Int))) (IntKind.wrap .i64 (x12_3 - (1 : Int))) w11)) (fun J_3 =>
  LoopV [(12, .int .i64)] (fun K => K x12 w7) (fun N_2 => fun (x12_4 : Int) (w12 : World) =>
  Join [(65, .bool)] (fun (b65 : Bool) (w13 : World) => cond b65 (
  Join [(12, .int .i64)] (fun (x12_5 : Int) (w14 : World) => N_2 x12_5 w14) (fun J_4 =>
  J_4 (IntKind.wrap .i64 (x12_4 - (1 : Int))) w13)) (
  J_3 x12_4 w13)) (fun J_5 =>
  Let w12.drew fun w15 =>
  cond (decide (x11_4 ≤ x12_4)) (∃ p57 : Pt, s0.a = some ⟨p57.b, p57.o, none⟩ ∧ 0 ≤ x1 ∧ x1 < ((s0.n : Nat) : Int) ∧ ∃ x58_0 : Int, ∃ s58_1 : Sl, rd w15 p57.b (p57.o + Int.toNat x1 * 2) [(.int .i64 x58_0), (.slice s58_1.a s58_1.n s58_1.c)] ∧ ∃ p61 : Pt, s0.a = some ⟨p61.b, p61.o, none⟩ ∧ 0 ≤ x12_4 ∧ x12_4 < ((s0.n : Nat) : Int) ∧ ∃ x62_0 : Int, ∃ s62_1 : Sl, rd w15 p61.b (p61.o + Int.toNat x12_4 * 2) [(.int .i64 x62_0), (.slice s62_1.a s62_1.n s62_1.c)] ∧ (bif callable Try.prog f4 then Calls Try.prog f4 (([(.agg [(.int .i64 x58_0), (.slice s58_1.a s58_1.n s58_1.c)].toArray), (.agg [(.int .i64 x62_0), (.slice s62_1.a s62_1.n s62_1.c)].toArray)] : List Value) ++ c4).toArray w15 (fun e w16 => ∃ x63 : Int, e = .returned (.int .i64 x63) ∧
  J_5 (decide (x63 < (0 : Int))) w16) else False)) (J_5 false w15))))) (fun J_6 =>
  LoopV [(11, .int .i64)] (fun K => K x11_2 w5) (fun N_3 => fun (x11_5 : Int) (w17 : World) =>
  Join [(47, .bool)] (fun (b47 : Bool) (w18 : World) => cond b47 (
  Join [(11, .int .i64)] (fun (x11_6 : Int) (w19 : World) => N_3 x11_6 w19) (fun J_7 =>
  J_7 (IntKind.wrap .i64 (x11_5 + (1 : Int))) w18)) (
  J_6 x11_5 w18)) (fun J_8 =>
  Let w17.drew fun w20 =>
  cond (decide (x11_5 ≤ x12)) (∃ p38 : Pt, s0.a = some ⟨p38.b, p38.o, none⟩ ∧ 0 ≤ x1 ∧ x1 < ((s0.n : Nat) : Int) ∧ ∃ x39_0 : Int, ∃ s39_1 : Sl, rd w20 p38.b (p38.o + Int.toNat x1 * 2) [(.int .i64 x39_0), (.slice s39_1.a s39_1.n s39_1.c)] ∧ ∃ p42 : Pt, s0.a = some ⟨p42.b, p42.o, none⟩ ∧ 0 ≤ x11_5 ∧ x11_5 < ((s0.n : Nat) : Int) ∧ ∃ x43_0 : Int, ∃ s43_1 : Sl, rd w20 p42.b (p42.o + Int.toNat x11_5 * 2) [(.int .i64 x43_0), (.slice s43_1.a s43_1.n s43_1.c)] ∧ (bif callable Try.prog f4 then Calls Try.prog f4 (([(.agg [(.int .i64 x39_0), (.slice s39_1.a s39_1.n s39_1.c)].toArray), (.agg [(.int .i64 x43_0), (.slice s43_1.a s43_1.n s43_1.c)].toArray)] : List Value) ++ c4).toArray w20 (fun e_2 w21 => ∃ x44 : Int, e_2 = .returned (.int .i64 x44) ∧
  J_8 (!(decide (x44 < (0 : Int)))) w21) else False)) (J_8 false w20)))))))
theorem eq136 (s0 : Sl) (x1 : Int) (x2 : Int) (x3 : Int) (f4 : Nat) (c4 : List Value) (R : Value → World → Prop) (w : World) : funV Try.prog Try.f136 An136 [(.slice s0.a s0.n s0.c), (.int .i64 x1), (.int .i64 x2), (.int .i64 x3), (.func (.func f4) #[] c4.toArray)] R w = S136 s0 x1 x2 x3 f4 c4 R w := by kernel_rfl
theorem call136 (s0 : Sl) (x1 : Int) (x2 : Int) (x3 : Int) (f4 : Nat) (c4 : List Value) {R : Value → World → Prop} {w : World} (h : S136 s0 x1 x2 x3 f4 c4 R w) : Calls Try.prog 136 [(.slice s0.a s0.n s0.c), (.int .i64 x1), (.int .i64 x2), (.int .i64 x3), (.func (.func f4) #[] c4.toArray)].toArray w fun e w' => ∃ v, e = .returned v ∧ R v w' :=
  funV_calls mixed Try.func136 (an := An136) (by rw [eq136]; exact h)

/-- F137: slices.partitionCmpFunc[cubeb/api.Fact] -/
def An137 : An := (.sq .lf (.sq (.dr [0, 1, 2, 3, 4, 5, 6, 7, 8, 9, 10, 11, 12, 13, 14, 15] [] false none) (.sq .lf (.sq (.bk [(12, .int .i64)] (.lp [(12, .int .i64)] (.sq (.sq (.dr [0, 1, 2, 3, 4, 5, 6, 7, 8, 9, 10, 11, 12, 13, 14, 15] [] false (some [(47, .bool)])) (.cd .lf .lf)) (.bk [(12, .int .i64)] .lf)))) (.sq (.bk [(13, .int .i64)] (.lp [(13, .int .i64)] (.sq (.sq (.dr [0, 1, 2, 3, 4, 5, 6, 7, 8, 9, 10, 11, 12, 13, 14, 15, 16] [] false (some [(66, .bool)])) (.cd .lf .lf)) (.bk [(13, .int .i64)] .lf)))) (.sq (.sq .lf (.cd (.sq (.dr [0, 1, 2, 3, 4, 5, 6, 7, 8, 9, 10, 11, 12, 13, 14, 15] [] false none) (.sq .lf .lf)) .lf)) (.sq (.dr [0, 1, 2, 3, 4, 5, 6, 7, 8, 9, 10, 11, 12, 13, 14, 15] [] false none) (.sq .lf (.sq .lf (.sq (.bk [(13, .int .i64)] (.lp [(12, .int .i64), (13, .int .i64)] (.bk [(12, .int .i64), (13, .int .i64)] (.sq (.bk [(12, .int .i64)] (.lp [(12, .int .i64)] (.sq (.sq (.dr [0, 1, 2, 3, 4, 5, 6, 7, 8, 9, 10, 11, 12, 13, 14, 15] [] false (some [(120, .bool)])) (.cd .lf .lf)) (.bk [(12, .int .i64)] .lf)))) (.sq (.bk [(13, .int .i64)] (.lp [(13, .int .i64)] (.sq (.sq (.dr [0, 1, 2, 3, 4, 5, 6, 7, 8, 9, 10, 11, 12, 13, 14, 15, 16] [] false (some [(139, .bool)])) (.cd .lf .lf)) (.bk [(13, .int .i64)] .lf)))) (.sq (.sq .lf (.cd .lf .lf)) (.sq (.dr [0, 1, 2, 3, 4, 5, 6, 7, 8, 9, 10, 11, 12, 13, 14, 15] [] false none) (.sq .lf .lf)))))))) (.sq (.dr [0, 1, 2, 3, 4, 5, 6, 7, 8, 9, 10, 11, 12, 13, 14, 15] [] false none) (.sq .lf .lf))))))))))))
def S137 (s0 : Sl) (x1 : Int) (x2 : Int) (x3 : Int) (f4 : Nat) (c4 : List Value) (R : Value → World → Prop) (w : World) : Prop :=
  Let w.drew fun w1 =>
  ∃ p20 : Pt, s0.a = some ⟨p20.b, p20.o, none⟩ ∧ 0 ≤ x3 ∧ x3 < ((s0.n : Nat) : Int) ∧ ∃ x21_0 : Int, ∃ s21_1 : Sl, rd w1 p20.b (p20.o + Int.toNat x3 * 2) [(.int .i64 x21_0), (.slice s21_1.a s21_1.n s21_1.c)] ∧ ∃ p24 : Pt, s0.a = some ⟨p24.b, p24.o, none⟩ ∧ 0 ≤ x1 ∧ x1 < ((s0.n : Nat) : Int) ∧ ∃ x25_0 : Int, ∃ s25_1 : Sl, rd w1 p24.b (p24.o + Int.toNat x1 * 2) [(.int .i64 x25_0), (.slice s25_1.a s25_1.n s25_1.c)] ∧ ∃ p26 : Pt, s0.a = some ⟨p26.b, p26.o, none⟩ ∧ 0 ≤ x1 ∧ x1 < ((s0.n : Nat) : Int) ∧ StoreOk w1 p26.b (p26.o + Int.toNat x1 * 2) [(.int .i64 x21_0), (.slice s21_1.a s21_1.n s21_1.c)] 2 ∧ Let (put w1 p26.b (p26.o + Int.toNat x1 * 2) [(.int .i64 x21_0), (.slice s21_1.a s21_1.n s21_1.c)]) fun w2 => 
  ∃ p27 : Pt, s0.a = some ⟨p27.b, p27.o, none⟩ ∧ 0 ≤ x3 ∧ x3 < ((s0.n : Nat) : Int) ∧ StoreOk w2 p27.b (p27.o + Int.toNat x3 * 2) [(.int .i64 x25_0), (.slice s25_1.a s25_1.n s25_1.c)] 2 ∧ Let (put w2 p27.b (p27.o + Int.toNat x3 * 2) [(.int .i64 x25_0), (.slice s25_1.a s25_1.n s25_1.c)]) fun w3 => 
  Join [(12, .int .i64)] (fun (x12 : Int) (w4 : World) => Join [(13, .int .i64)] (fun (x13 : Int) (w5 : World) => cond (decide (x12 > x13)) (
  Let w5.drew fun w6 =>
  ∃ p78 : Pt, s0.a = some ⟨p78.b, p78.o, none⟩ ∧ 0 ≤ x1 ∧ x1 < ((s0.n : Nat) : Int) ∧ ∃ x79_0 : Int, ∃ s79_1 : Sl, rd w6 p78.b (p78.o + Int.toNat x1 * 2) [(.int .i64 x79_0), (.slice s79_1.a s79_1.n s79_1.c)] ∧ ∃ p82 : Pt, s0.a = some ⟨p82.b, p82.o, none⟩ ∧ 0 ≤ x13 ∧ x13 < ((s0.n : Nat) : Int) ∧ ∃ x83_0 : Int, ∃ s83_1 : Sl, rd w6 p82.b (p82.o + Int.toNat x13 * 2) [(.int .i64 x83_0), (.slice s83_1.a s83_1.n s83_1.c)] ∧ ∃ p84 : Pt, s0.a = some ⟨p84.b, p84.o, none⟩ ∧ 0 ≤ x13 ∧ x13 < ((s0.n : Nat) : Int) ∧ StoreOk w6 p84.b (p84.o + Int.toNat x13 * 2) [(.int .i64 x79_0), (.slice s79_1.a s79_1.n s79_1.c)] 2 ∧ Let (put w6 p84.b (p84.o + Int.toNat x13 * 2) [(.int .i64 x79_0), (.slice s79_1.a s79_1.n s79_1.c)]) fun w7 => 
  ∃ p85 : Pt, s0.a = some ⟨p85.b, p85.o, none⟩ ∧ 0 ≤ x1 ∧ x1 < ((s0.n : Nat) : Int) ∧ StoreOk w7 p85.b (p85.o + Int.toNat x1 * 2) [(.int .i64 x83_0), (.slice s83_1.a s83_1.n s83_1.c)] 2 ∧ Let (put w7 p85.b (p85.o + Int.toNat x1 * 2) [(.int .i64 x83_0), (.slice s83_1.a s83_1.n s83_1.c)]) fun w8 => 
  R (.tuple [(.int .i64 x13), (.bool true)].toArray) w8) (
  Let w5.drew fun w9 =>
  ∃ p93 : Pt, s0.a = some ⟨p93.b, p93.o, none⟩ ∧ 0 ≤ x13 ∧ x13 < ((s0.n : Nat) : Int) ∧ ∃ x94_0 : Int, ∃ s94_1 : Sl, rd w9 p93.b (p93.o + Int.toNat x13 * 2) [(.int .i64 x94_0), (.slice s94_1.a s94_1.n s94_1.c)] ∧ ∃ p97 : Pt, s0.a = some ⟨p97.b, p97.o, none⟩ ∧ 0 ≤ x12 ∧ x12 < ((s0.n : Nat) : Int) ∧ ∃ x98_0 : Int, ∃ s98_1 : Sl, rd w9 p97.b (p97.o + Int.toNat x12 * 2) [(.int .i64 x98_0), (.slice s98_1.a s98_1.n s98_1.c)] ∧ ∃ p99 : Pt, s0.a = some ⟨p99.b, p99.o, none⟩ ∧ 0 ≤ x12 ∧ x12 < ((s0.n : Nat) : Int) ∧ StoreOk w9 p99.b (p99.o + Int.toNat x12 * 2) [(.int .i64 x94_0), (.slice s94_1.a s94_1.n s94_1.c)] 2 ∧ Let (put w9 p99.b (p99.o + Int.toNat x12 * 2) [(.int .i64 x94_0), (.slice s94_1.a s94_1.n s94_1.c)]) fun w10 => 
  ∃ p100 : Pt, s0.a = some ⟨p100.b, p100.o, none⟩ ∧ 0 ≤ x13 ∧ x13 < ((s0.n : Nat) : Int) ∧ StoreOk w10 p100.b (p100.o + Int.toNat x13 * 2) [(.int .i64 x98_0), (.slice s98_1.a s98_1.n s98_1.c)] 2 ∧ Let (put w10 p100.b (p100.o + Int.toNat x13 * 2) [(.int .i64 x98_0), (.slice s98_1.a s98_1.n s98_1.c)]) fun w11 => 
  Join [(13, .int .i64)] (fun (x13_2 : Int) (w12 : World) => Let w12.drew fun w13 =>
  ∃ p169 : Pt, s0.a = some ⟨p169.b, p169.o, none⟩ ∧ 0 ≤ x1 ∧ x1 < ((s0.n : Nat) : Int) ∧ ∃ x170_0 : Int, ∃ s170_1 : Sl, rd w13 p169.b (p169.o + Int.toNat x1 * 2) [(.int .i64 x170_0), (.slice s170_1.a s170_1.n s170_1.c)] ∧ ∃ p173 : Pt, s0.a = some ⟨p173.b, p173.o, none⟩ ∧ 0 ≤ x13_2 ∧ x13_2 < ((s0.n : Nat) : Int) ∧ ∃ x174_0 : Int, ∃ s174_1 : Sl, rd w13 p173.b (p173.o + Int.toNat x13_2 * 2) [(.int .i64 x174_0), (.slice s174_1.a s174_1.n s174_1.c)] ∧ ∃ p175 : Pt, s0.a = some ⟨p175.b, p175.o, none⟩ ∧ 0 ≤ x13_2 ∧ x13_2 < ((s0.n : Nat) : Int) ∧ StoreOk w13 p175.b (p175.o + Int.toNat x13_2 * 2) [(.int .i64 x170_0), (.slice s170_1.a s170_1.n s170_1.c)] 2 ∧ Let (put w13 p175.b (p175.o + Int.toNat x13_2 * 2) [(.int .i64 x170_0), (.slice s170_1.a s170_1.n s170_1.c)]) fun w14 => 
  ∃ p176 : Pt, s0.a = some ⟨p176.b, p176.o, none⟩ ∧ 0 ≤ x1 ∧ x1 < ((s0.n : Nat) : Int) ∧ StoreOk w14 p176.b (p176.o + Int.toNat x1 * 2) [(.int .i64 x174_0), (.slice s174_1.a s174_1.n s174_1.c)] 2 ∧ Let (put w14 p176.b (p176.o + Int.toNat x1 * 2) [(.int .i64 x174_0), (.slice s174_1.a s174_1.n s174_1.c)]) fun w15 => 
  R (.tuple [(.int .i64 x13_2), (.bool false)].toArray) w15) (fun J =>
  LoopV [(12, .int .i64), (13, .int .i64)] (fun K => K (IntKind.wrap .i64 (x12 + (1 : Int))) (IntKind.wrap .i64 (x13 - (1 : Int))) w11) (fun N => fun (x12_2 : Int) (x13_3 : Int) (w16 : World) =>
  Join [(12, .int .i64), (13, .int .i64)] (fun (x12_3 : Int) (x13_4 : Int) (w17 : World) => N x12_3 x13_4 w17) (fun J_2 =>
  Join [(12, .int .i64)] (fun (x12_4 : Int) (w18 : World) => Join [(13, .int .i64)] (fun (x13_5 : Int) (w19 : World) => cond (decide (x12_4 > x13_5)) (
  J x13_5 w19) (
  Let w19.drew fun w20 =>
  ∃ p151 : Pt, s0.a = some ⟨p151.b, p151.o, none⟩ ∧ 0 ≤ x13_5 ∧ x13_5 < ((s0.n : Nat) : Int) ∧ ∃ x152_0 : Int, ∃ s152_1 : Sl, rd w20 p151.b (p151.o + Int.toNat x13_5 * 2) [(.int .i64 x152_0), (.slice s152_1.a s152_1.n s152_1.c)] ∧ ∃ p155 : Pt, s0.a = some ⟨p155.b, p155.o, none⟩ ∧ 0 ≤ x12_4 ∧ x12_4 < ((s0.n : Nat) : Int) ∧ ∃ x156_0 : Int, ∃ s156_1 : Sl, rd w20 p155.b (p155.o + Int.toNat x12_4 * 2) [(.int .i64 x156_0), (.slice s156_1.a s156_1.n s156_1.c)] ∧ ∃ p157 : Pt, s0.a = some ⟨p157.b, p157.o, none⟩ ∧ 0 ≤ x12_4 ∧ x12_4 < ((s0.n : Nat) : Int) ∧ StoreOk w20 p157.b (p157.o + Int.toNat x12_4 * 2) [(.int .i64 x152_0), (.slice s152_1.a s152_1.n s152_1.c)] 2 ∧ Let (put w20 p157.b (p157.o + Int.toNat x12_4 * 2) [(.int .i64 x152_0), (.slice s152_1.a s152_1.n s152_1.c)]) fun w21 => 
  ∃ p158 : Pt, s0.a = some ⟨p158.b, p158.o, none⟩ ∧ 0 ≤ x13_5 ∧ x13_5 < ((s0.n : Nat) : Int) ∧ StoreOk w21 p158.b (p158.o + Int.toNat x13_5 * 2) [(.int .i64 x156_0), (.slice s156_1.a s156_1.n s156_1.c)] 2 ∧ Let (put w21 p158.b (p158.o + Int.toNat x13_5 * 2) [(.int .i64 x156_0), (.slice s156_1.a s156_1.n s156_1.c)]) fun w22 => 
  J_2 (IntKind.wrap .i64 (x12_4 + (1 : Int))) (IntKind.wrap .i64 (x13_5 - (1 : Int))) w22)) (fun J_3 =>
  LoopV [(13, .int .i64)] (fun K => K x13_3 w18) (fun N_2 => fun (x13_6 : Int) (w23 : World) =>
  Join [(139, .bool)] (fun (b139 : Bool) (w24 : World) => cond b139 (
  Join [(13, .int .i64)] (fun (x13_7 : Int) (w25 : World) => N_2 x13_7 w25) (fun J_4 =>
  J_4 (IntKind.wrap .i64 (x13_6 - (1 : Int))) w24)) (
  J_3 x13_6 w24)) (fun J_5 =>
  Let w23.drew fun w26 =>
  cond (decide (x12_4 ≤ x13_6)) (∃ p130 : Pt, s0.a = some ⟨p130.b, p130.o, none⟩ ∧ 0 ≤ x13_6 ∧ x13_6 < ((s0.n : Nat) : Int) ∧ ∃ x131_0 : Int, ∃ s131_1 : Sl, rd w26 p130.b (p130.o + Int.toNat x13_6 * 2) [(.int .i64 x131_0), (.slice s131_1.a s131_1.n s131_1.c)] ∧ ∃ p134 : Pt, s0.a = some ⟨p134.b, p134.o, none⟩ ∧ 0 ≤ x1 ∧ x1 < ((s0.n : Nat) : Int) ∧ ∃ x135_0 : Int, ∃ s135_1 : Sl, rd w26 p134.b (p134.o + Int.toNat x1 * 2) [(.int .i64 x135_0), (.slice s135_1.a s135_1.n s135_1.c)] ∧ (bif callable Try.prog f4 then Calls Try.prog f4 (([(.agg [(.int .i64 x131_0), (.slice s131_1.a s131_1.n s131_1.c)].toArray), (.agg [(.int .i64 x135_0), (.slice s135_1.a s135_1.n s135_1.c)].toArray)] : List Value) ++ c4).toArray w26 (fun e w27 => ∃ x136 : Int, e = .returned (.int .i64 x136) ∧
  J_5 (!(decide (x136 < (0 : Int)))) w27) else False)) (J_5 false w26))))) (fun J_6 =>
  LoopV [(12, .int .i64)] (fun K => K x12_2 w16) (fun N_3 => fun (x12_5 : Int) (w28 : World) =>
  Join [(120, .bool)] (fun (b120 : Bool) (w29 : World) => cond b120 (
  Join [(12, .int .i64)] (fun (x12_6 : Int) (w30 : World) => N_3 x12_6 w30) (fun J_7 =>
  J_7 (IntKind.wrap .i64 (x12_5 + (1 : Int))) w29)) (
  J_6 x12_5 w29)) (fun J_8 =>
  Let w28.drew fun w31 =>
  cond (decide (x12_5 ≤ x13_3)) (∃ p112 : Pt, s0.a = some ⟨p112.b, p112.o, none⟩ ∧ 0 ≤ x12_5 ∧ x12_5 < ((s0.n : Nat) : Int) ∧ ∃ x113_0 : Int, ∃ s113_1 : Sl, rd w31 p112.b (p112.o + Int.toNat x12_5 * 2) [(.int .i64 x113_0), (.slice s113_1.a s113_1.n s113_1.c)] ∧ ∃ p116 : Pt, s0.a = some ⟨p116.b, p116.o, none⟩ ∧ 0 ≤ x1 ∧ x1 < ((s0.n : Nat) : Int) ∧ ∃ x117_0 : Int, ∃ s117_1 : Sl, rd w31 p116.b (p116.o + Int.toNat x1 * 2) [(.int .i64 x117_0), (.slice s117_1.a s117_1.n s117_1.c)] ∧ (bif callable Try.prog f4 then Calls Try.prog f4 (([(.agg [(.int .i64 x113_0), (.slice s113_1.a s113_1.n s113_1.c)].toArray), (.agg [(.int .i64 x117_0), (.slice s117_1.a s117_1.n s117_1.c)].toArray)] : List Value) ++ c4).toArray w31 (fun e_2 w32 => ∃ x118 : Int, e_2 = .returned (.int .i64 x118) ∧
  J_8 (decide (x118 < (0 : Int))) w32) else False)) (J_8 false w31))))))))) (fun J_9 =>
  LoopV [(13, .int .i64)] (fun K => K (IntKind.wrap .i64 (x2 - (1 : Int))) w4) (fun N_4 => fun (x13_8 : Int) (w33 : World) =>
  Join [(66, .bool)] (fun (b66 : Bool) (w34 : World) => cond b66 (
  Join [(13, .int .i64)] (fun (x13_9 : Int) (w35 : World) => N_4 x13_9 w35) (fun J_10 =>
  J_10 (IntKind.wrap .i64 (x13_8 - (1 : Int))) w34)) (
  J_9 x13_8 w34)) (fun J_11 =>
  Let w33.drew fun w36 =>
  cond (decide (x12 ≤ x13_8)) (∃ p57 : Pt, s0.a = some ⟨p57.b, p57.o, none⟩ ∧ 0 ≤ x13_8 ∧ x13_8 < ((s0.n : Nat) : Int) ∧ ∃ x58_0 : Int, ∃ s58_1 : Sl, rd w36 p57.b (p57.o + Int.toNat x13_8 * 2) [(.int .i64 x58_0), (.slice s58_1.a s58_1.n s58_1.c)] ∧ ∃ p61 : Pt, s0.a = some ⟨p61.b, p61.o, none⟩ ∧ 0 ≤ x1 ∧ x1 < ((s0.n : Nat) : Int) ∧ ∃ x62_0 : Int, ∃ s62_1 : Sl, rd w36 p61.b (p61.o + Int.toNat x1 * 2) [(.int .i64 x62_0), (.slice s62_1.a s62_1.n s62_1.c)] ∧ (bif callable Try.prog f4 then Calls Try.prog f4 (([(.agg [(.int .i64 x58_0), (.slice s58_1.a s58_1.n s58_1.c)].toArray), (.agg [(.int .i64 x62_0), (.slice s62_1.a s62_1.n s62_1.c)].toArray)] : List Value) ++ c4).toArray w36 (fun e_3 w37 => ∃ x63 : Int, e_3 = .returned (.int .i64 x63) ∧
  J_11 (!(decide (x63 < (0 : Int)))) w37) else False)) (J_11 false w36))))) (fun J_12 =>
  LoopV [(12, .int .i64)] (fun K => K (IntKind.wrap .i64 (x1 + (1 : Int))) w3) (fun N_5 => fun (x12_7 : Int) (w38 : World) =>
  Join [(47, .bool)] (fun (b47 : Bool) (w39 : World) => cond b47 (
  Join [(12, .int .i64)] (fun (x12_8 : Int) (w40 : World) => N_5 x12_8 w40) (fun J_13 =>
  J_13 (IntKind.wrap .i64 (x12_7 + (1 : Int))) w39)) (
  J_12 x12_7 w39)) (fun J_14 =>
  Let w38.drew fun w41 =>
  cond (decide (x12_7 ≤ (IntKind.wrap .i64 (x2 - (1 : Int))))) (∃ p39 : Pt, s0.a = some ⟨p39.b, p39.o, none⟩ ∧ 0 ≤ x12_7 ∧ x12_7 < ((s0.n : Nat) : Int) ∧ ∃ x40_0 : Int, ∃ s40_1 : Sl, rd w41 p39.b (p39.o + Int.toNat x12_7 * 2) [(.int .i64 x40_0), (.slice s40_1.a s40_1.n s40_1.c)] ∧ ∃ p43 : Pt, s0.a = some ⟨p43.b, p43.o, none⟩ ∧ 0 ≤ x1 ∧ x1 < ((s0.n : Nat) : Int) ∧ ∃ x44_0 : Int, ∃ s44_1 : Sl, rd w41 p43.b (p43.o + Int.toNat x1 * 2) [(.int .i64 x44_0), (.slice s44_1.a s44_1.n s44_1.c)] ∧ (bif callable Try.prog f4 then Calls Try.prog f4 (([(.agg [(.int .i64 x40_0), (.slice s40_1.a s40_1.n s40_1.c)].toArray), (.agg [(.int .i64 x44_0), (.slice s44_1.a s44_1.n s44_1.c)].toArray)] : List Value) ++ c4).toArray w41 (fun e_4 w42 => ∃ x45 : Int, e_4 = .returned (.int .i64 x45) ∧
  J_14 (decide (x45 < (0 : Int))) w42) else False)) (J_14 false w41))))
theorem eq137 (s0 : Sl) (x1 : Int) (x2 : Int) (x3 : Int) (f4 : Nat) (c4 : List Value) (R : Value → World → Prop) (w : World) : funV Try.prog Try.f137 An137 [(.slice s0.a s0.n s0.c), (.int .i64 x1), (.int .i64 x2), (.int .i64 x3), (.func (.func f4) #[] c4.toArray)] R w = S137 s0 x1 x2 x3 f4 c4 R w := by kernel_rfl
theorem call137 (s0 : Sl) (x1 : Int) (x2 : Int) (x3 : Int) (f4 : Nat) (c4 : List Value) {R : Value → World → Prop} {w : World} (h : S137 s0 x1 x2 x3 f4 c4 R w) : Calls Try.prog 137 [(.slice s0.a s0.n s0.c), (.int .i64 x1), (.int .i64 x2), (.int .i64 x3), (.func (.func f4) #[] c4.toArray)].toArray w fun e w' => ∃ v, e = .returned v ∧ R v w' :=
  funV_calls mixed Try.func137 (an := An137) (by rw [eq137]; exact h)

/-- F124: slices.pdqsortCmpFunc[cubeb/api.Fact] -/
def An124 : An := (.sq .lf (.sq .lf (.bk [] (.lp [(1, .int .i64), (2, .int .i64), (3, .int .i64), (10, .bool), (11, .bool)] (.bk [(1, .int .i64), (2, .int .i64), (3, .int .i64), (10, .bool), (11, .bool)] (.sq .lf (.sq (.sq .lf (.cd (.sq .lf .lf) .lf)) (.sq (.sq .lf (.cd (.sq .lf .lf) .lf)) (.sq (.sq .lf (.cj [(3, .int .i64)] (.sq .lf .lf) .lf)) (.sq .lf (.sq (.sq .lf (.cj [(13, .int .i64), (14, .int .i64)] (.sq .lf (.sq .lf .lf)) .lf)) (.sq (.sq (.rj [] [(75, .bool)]) (.cj [] (.sq .lf (.cd .lf .lf)) .lf)) (.sq (.sq (.dr [0, 1, 2, 3, 4, 5, 6, 7, 8, 9, 10, 11, 12, 13, 14, 15, 16] [] false (some [(97, .bool)])) (.cd (.sq .lf (.sq .lf .lf)) .lf)) (.sq .lf (.sq .lf (.sq .lf (.sq .lf (.sq .lf (.cj [(1, .int .i64), (2, .int .i64), (10, .bool)] (.sq .lf (.sq .lf .lf)) (.sq .lf (.sq .lf .lf)))))))))))))))))))))
def S124 (s0 : Sl) (x1 : Int) (x2 : Int) (x3 : Int) (f4 : Nat) (c4 : List Value) (R : Value → World → Prop) (w : World) : Prop :=
  Join [] (fun (w1 : World) => R (.tuple [].toArray) w1) (fun J =>
  LoopV [(1, .int .i64), (2, .int .i64), (3, .int .i64), (10, .bool), (11, .bool)] (fun K => K x1 x2 x3 true true w) (fun N => fun (x1_2 : Int) (x2_2 : Int) (x3_2 : Int) (b10 : Bool) (b11 : Bool) (w2 : World) =>
  Join [(1, .int .i64), (2, .int .i64), (3, .int .i64), (10, .bool), (11, .bool)] (fun (x1_3 : Int) (x2_3 : Int) (x3_3 : Int) (b10_2 : Bool) (b11_2 : Bool) (w3 : World) => N x1_3 x2_3 x3_3 b10_2 b11_2 w3) (fun J_2 =>
  cond (decide ((IntKind.wrap .i64 (x2_2 - x1_2)) ≤ (12 : Int))) (
  Calls Try.prog 130 [(.slice s0.a s0.n s0.c), (.int .i64 x1_2), (.int .i64 x2_2), (.func (.func f4) #[] c4.toArray)].toArray w2 (fun e w4 => e = .returned (.tuple [].toArray) ∧
  R (.tuple [].toArray) w4)) (
  cond (x3_2 == (0 : Int)) (
  Calls Try.prog 131 [(.slice s0.a s0.n s0.c), (.int .i64 x1_2), (.int .i64 x2_2), (.func (.func f4) #[] c4.toArray)].toArray w2 (fun e_2 w5 => e_2 = .returned (.tuple [].toArray) ∧
  R (.tuple [].toArray) w5)) (
  Join [(3, .int .i64)] (fun (x3_4 : Int) (w6 : World) => Calls Try.prog 133 [(.slice s0.a s0.n s0.c), (.int .i64 x1_2), (.int .i64 x2_2), (.func (.func f4) #[] c4.toArray)].toArray w6 (fun e_3 w7 => ∃ x52_0 : Int, ∃ x52_1 : Int, e_3 = .returned (.tuple [(.int .i64 x52_0), (.int .i64 x52_1)].toArray) ∧
  Join [(13, .int .i64), (14, .int .i64)] (fun (x13 : Int) (x14 : Int) (w8 : World) => Join [(75, .bool)] (fun (b75 : Bool) (w9 : World) => Join [] (fun (w10 : World) => Join [(97, .bool)] (fun (b97 : Bool) (w11 : World) => cond b97 (
  Calls Try.prog 136 [(.slice s0.a s0.n s0.c), (.int .i64 x1_2), (.int .i64 x2_2), (.int .i64 x13), (.func (.func f4) #[] c4.toArray)].toArray w11 (fun e_4 w12 => ∃ x103 : Int, e_4 = .returned (.int .i64 x103) ∧
  J_2 x103 x2_2 x3_4 b10 b11 w12)) (
  Calls Try.prog 137 [(.slice s0.a s0.n s0.c), (.int .i64 x1_2), (.int .i64 x2_2), (.int .i64 x13), (.func (.func f4) #[] c4.toArray)].toArray w11 (fun e_5 w13 => ∃ x111_0 : Int, ∃ b111_1 : Bool, e_5 = .returned (.tuple [(.int .i64 x111_0), (.bool b111_1)].toArray) ∧
  (8 : Int) ≠ 0 ∧ Join [(1, .int .i64), (2, .int .i64), (10, .bool)] (fun (x1_4 : Int) (x2_4 : Int) (b10_3 : Bool) (w14 : World) => J_2 x1_4 x2_4 x3_4 b10_3 b111_1 w14) (fun J_3 =>
  cond (decide ((IntKind.wrap .i64 (x111_0 - x1_2)) < (IntKind.wrap .i64 (x2_2 - x111_0)))) (
  Calls Try.prog 124 [(.slice s0.a s0.n s0.c), (.int .i64 x1_2), (.int .i64 x111_0), (.int .i64 x3_4), (.func (.func f4) #[] c4.toArray)].toArray w13 (fun e_6 w15 => e_6 = .returned (.tuple [].toArray) ∧
  J_3 (IntKind.wrap .i64 (x111_0 + (1 : Int))) x2_2 (decide ((IntKind.wrap .i64 (x111_0 - x1_2)) ≥ (IntKind.wrap .i64 (Int.tdiv (IntKind.wrap .i64 (x2_2 - x1_2)) (8 : Int))))) w15)) (
  Calls Try.prog 124 [(.slice s0.a s0.n s0.c), (.int .i64 (IntKind.wrap .i64 (x111_0 + (1 : Int)))), (.int .i64 x2_2), (.int .i64 x3_4), (.func (.func f4) #[] c4.toArray)].toArray w13 (fun e_7 w16 => e_7 = .returned (.tuple [].toArray) ∧
  J_3 x1_2 x111_0 (decide ((IntKind.wrap .i64 (x2_2 - x111_0)) ≥ (IntKind.wrap .i64 (Int.tdiv (IntKind.wrap .i64 (x2_2 - x1_2)) (8 : Int))))) w16)))))) (fun J_4 =>
  Let w10.drew fun w17 =>
  cond (decide (x1_2 > (0 : Int))) (∃ p88 : Pt, s0.a = some ⟨p88.b, p88.o, none⟩ ∧ 0 ≤ (IntKind.wrap .i64 (x1_2 - (1 : Int))) ∧ (IntKind.wrap .i64 (x1_2 - (1 : Int))) < ((s0.n : Nat) : Int) ∧ ∃ x89_0 : Int, ∃ s89_1 : Sl, rd w17 p88.b (p88.o + Int.toNat (IntKind.wrap .i64 (x1_2 - (1 : Int))) * 2) [(.int .i64 x89_0), (.slice s89_1.a s89_1.n s89_1.c)] ∧ ∃ p92 : Pt, s0.a = some ⟨p92.b, p92.o, none⟩ ∧ 0 ≤ x13 ∧ x13 < ((s0.n : Nat) : Int) ∧ ∃ x93_0 : Int, ∃ s93_1 : Sl, rd w17 p92.b (p92.o + Int.toNat x13 * 2) [(.int .i64 x93_0), (.slice s93_1.a s93_1.n s93_1.c)] ∧ (bif callable Try.prog f4 then Calls Try.prog f4 (([(.agg [(.int .i64 x89_0), (.slice s89_1.a s89_1.n s89_1.c)].toArray), (.agg [(.int .i64 x93_0), (.slice s93_1.a s93_1.n s93_1.c)].toArray)] : List Value) ++ c4).toArray w17 (fun e_8 w18 => ∃ x94 : Int, e_8 = .returned (.int .i64 x94) ∧
  J_4 (!(decide (x94 < (0 : Int)))) w18) else False)) (J_4 false w17))) (fun J_5 =>
  cond b75 (
  Calls Try.prog 135 [(.slice s0.a s0.n s0.c), (.int .i64 x1_2), (.int .i64 x2_2), (.func (.func f4) #[] c4.toArray)].toArray w9 (fun e_9 w19 => ∃ b80 : Bool, e_9 = .returned (.bool b80) ∧
  cond b80 (
  R (.tuple [].toArray) w19) (
  J_5 w19))) (
  J_5 w9))) (fun J_6 =>
  cond b10 (cond b11 (J_6 (x14 == (1 : Int)) w8) (J_6 false w8)) (J_6 false w8))) (fun J_7 =>
  cond (x52_1 == (2 : Int)) (
  Calls Try.prog 134 [(.slice s0.a s0.n s0.c), (.int .i64 x1_2), (.int .i64 x2_2), (.func (.func f4) #[] c4.toArray)].toArray w7 (fun e_10 w20 => e_10 = .returned (.tuple [].toArray) ∧
  J_7 (IntKind.wrap .i64 ((IntKind.wrap .i64 (x2_2 - (1 : Int))) - (IntKind.wrap .i64 (x52_0 - x1_2)))) (1 : Int) w20)) (
  J_7 x52_0 x52_1 w7)))) (fun J_8 =>
  cond (!b10) (
  Calls Try.prog 132 [(.slice s0.a s0.n s0.c), (.int .i64 x1_2), (.int .i64 x2_2), (.func (.func f4) #[] c4.toArray)].toArray w2 (fun e_11 w21 => e_11 = .returned (.tuple [].toArray) ∧
  J_8 (IntKind.wrap .i64 (x3_2 - (1 : Int))) w21)) (
  J_8 x3_2 w2)))))))
theorem eq124 (s0 : Sl) (x1 : Int) (x2 : Int) (x3 : Int) (f4 : Nat) (c4 : List Value) (R : Value → World → Prop) (w : World) : funV Try.prog Try.f124 An124 [(.slice s0.a s0.n s0.c), (.int .i64 x1), (.int .i64 x2), (.int .i64 x3), (.func (.func f4) #[] c4.toArray)] R w = S124 s0 x1 x2 x3 f4 c4 R w := by kernel_rfl
theorem call124 (s0 : Sl) (x1 : Int) (x2 : Int) (x3 : Int) (f4 : Nat) (c4 : List Value) {R : Value → World → Prop} {w : World} (h : S124 s0 x1 x2 x3 f4 c4 R w) : Calls Try.prog 124 [(.slice s0.a s0.n s0.c), (.int .i64 x1), (.int .i64 x2), (.int .i64 x3), (.func (.func f4) #[] c4.toArray)].toArray w fun e w' => ∃ v, e = .returned v ∧ R v w' :=
  funV_calls mixed Try.func124 (an := An124) (by rw [eq124]; exact h)

/-- F108: slices.SortFunc[[]cubeb/api.Fact,cubeb/api.Fact] -/
def An108 : An := (.sq .lf .lf)
def S108 (s0 : Sl) (f1 : Nat) (c1 : List Value) (R : Value → World → Prop) (w : World) : Prop :=
  Calls Try.prog 125 [(.int .u64 (IntKind.wrap .u64 ((s0.n : Nat) : Int)))].toArray w (fun e w1 => ∃ x11 : Int, e = .returned (.int .i64 x11) ∧
  Calls Try.prog 124 [(.slice s0.a s0.n s0.c), (.int .i64 (0 : Int)), (.int .i64 ((s0.n : Nat) : Int)), (.int .i64 x11), (.func (.func f1) #[] c1.toArray)].toArray w1 (fun e_2 w2 => e_2 = .returned (.tuple [].toArray) ∧
  R (.tuple [].toArray) w2))
theorem eq108 (s0 : Sl) (f1 : Nat) (c1 : List Value) (R : Value → World → Prop) (w : World) : funV Try.prog Try.f108 An108 [(.slice s0.a s0.n s0.c), (.func (.func f1) #[] c1.toArray)] R w = S108 s0 f1 c1 R w := by kernel_rfl
theorem call108 (s0 : Sl) (f1 : Nat) (c1 : List Value) {R : Value → World → Prop} {w : World} (h : S108 s0 f1 c1 R w) : Calls Try.prog 108 [(.slice s0.a s0.n s0.c), (.func (.func f1) #[] c1.toArray)].toArray w fun e w' => ∃ v, e = .returned v ∧ R v w' :=
  funV_calls mixed Try.func108 (an := An108) (by rw [eq108]; exact h)

end Go.Proofs.Ytoljknamnkkgcaa
