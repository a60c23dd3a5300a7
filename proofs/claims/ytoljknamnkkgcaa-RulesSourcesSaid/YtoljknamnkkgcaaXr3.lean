/-
  Texts Sb, Vm, Vn, Vo, Vp, Vq, Vr of this proof, joined.
-/
import Derived.Test.YtoljknamnkkgcaaXr2
import Derived.Test.YtoljknamnkkgcaaProg
import Derived.KernelRfl
import Derived.DeepKeys3
/-
  Printed by a program of this session (wip/tools/vcprint.py): of each Go function the shallow form, and that the calculus comes to it, by the kernel.
-/
namespace Go.Proofs.Ytoljknamnkkgcaa
open Go Go.VC
set_option maxRecDepth 100000

/-- F80: cubeb/rules.key -/
def An80 : An := (.sq .lf (.sq (.dr [0, 1, 2, 3, 4, 5, 6, 7, 8] [8] true none) (.sq (.sq .lf (.cj [] .lf .lf)) (.sq .lf .lf))))
def S80 (x0_0 : Int) (s0_1 : Sl) (R : Value → World → Prop) (w : World) : Prop :=
  Let (w.alloc (.cells [(.int .i64 x0_0), (.slice s0_1.a s0_1.n s0_1.c)].toArray 36)) fun w1 => 
  Let (w1.alloc (.cells (zc Try.prog 121) 121)) fun w2 => 
  ∃ S1 : World → Prop, S1 w2.drew ∧ Let w2.drew fun w3 =>
  ∃ x5 : Int, (∀ u, S1 u → World.cell? u ⟨w.heap.size, (0 + 0), none⟩ = some (.int .i64 x5)) ∧ ∃ s7 : Sl, (∀ u, S1 u → World.cell? u ⟨w.heap.size, (0 + 1), none⟩ = some (.slice s7.a s7.n s7.c)) ∧ ∃ p8 : Pt, s7.a = some ⟨p8.b, p8.o, none⟩ ∧ 0 ≤ (0 : Int) ∧ (0 : Int) < ((s7.n : Nat) : Int) ∧ ∃ x9 : Int, (∀ u, S1 u → World.cell? u ⟨p8.b, (p8.o + Int.toNat (0 : Int) * 1), none⟩ = some (.int .i64 x9)) ∧ Let (w3.alloc (.cells (zc Try.prog 121) 121)) fun w4 => 
  S1 w4 ∧ StoreOk w4 w3.heap.size 0 [(.int .i64 x5), (.int .i64 x9), (.int .i64 (0 : Int))] 3 ∧ Let (put w4 w3.heap.size 0 [(.int .i64 x5), (.int .i64 x9), (.int .i64 (0 : Int))]) fun w5 => 
  ∃ s12 : Sl, World.cell? w5 ⟨w.heap.size, (0 + 1), none⟩ = some (.slice s12.a s12.n s12.c) ∧ Join [] (fun (w6 : World) => ∃ x20_0 : Int, ∃ x20_1 : Int, ∃ x20_2 : Int, rd w6 w3.heap.size 0 [(.int .i64 x20_0), (.int .i64 x20_1), (.int .i64 x20_2)] ∧ StoreOk w6 w1.heap.size 0 [(.int .i64 x20_0), (.int .i64 x20_1), (.int .i64 x20_2)] 3 ∧ Let (put w6 w1.heap.size 0 [(.int .i64 x20_0), (.int .i64 x20_1), (.int .i64 x20_2)]) fun w7 => 
  ∃ xr2_0 : Int, ∃ xr2_1 : Int, ∃ xr2_2 : Int, rd w7 w1.heap.size 0 [(.int .i64 xr2_0), (.int .i64 xr2_1), (.int .i64 xr2_2)] ∧ R (.agg [(.int .i64 xr2_0), (.int .i64 xr2_1), (.int .i64 xr2_2)].toArray) w7) (fun J =>
  cond (decide (((s12.n : Nat) : Int) > (1 : Int))) (
  ∃ s16 : Sl, World.cell? w5 ⟨w.heap.size, (0 + 1), none⟩ = some (.slice s16.a s16.n s16.c) ∧ ∃ p17 : Pt, s16.a = some ⟨p17.b, p17.o, none⟩ ∧ 0 ≤ (1 : Int) ∧ (1 : Int) < ((s16.n : Nat) : Int) ∧ ∃ x18 : Int, World.cell? w5 ⟨p17.b, (p17.o + Int.toNat (1 : Int) * 1), none⟩ = some (.int .i64 x18) ∧ StoreOk w5 w3.heap.size (0 + 2) [(.int .i64 x18)] 1 ∧ Let (put w5 w3.heap.size (0 + 2) [(.int .i64 x18)]) fun w8 => 
  J w8) (
  J w5))
theorem eq80 (x0_0 : Int) (s0_1 : Sl) (R : Value → World → Prop) (w : World) : funV Try.prog Try.f80 An80 [(.agg [(.int .i64 x0_0), (.slice s0_1.a s0_1.n s0_1.c)].toArray)] R w = S80 x0_0 s0_1 R w := by kernel_rfl
theorem call80 (x0_0 : Int) (s0_1 : Sl) {R : Value → World → Prop} {w : World} (h : S80 x0_0 s0_1 R w) : Calls Try.prog 80 [(.agg [(.int .i64 x0_0), (.slice s0_1.a s0_1.n s0_1.c)].toArray)].toArray w fun e w' => ∃ v, e = .returned v ∧ R v w' :=
  funV_calls mixed Try.func80 (an := An80) (by rw [eq80]; exact h)

/-- F107: (cubeb/rules.fact).api -/
def An107 : An := (.sq .lf (.sq (.sq .lf (.cd (.sq .lf .lf) .lf)) (.sq .lf .lf)))
def S107 (x0_0 : Int) (x0_1 : Int) (x0_2 : Int) (R : Value → World → Prop) (w : World) : Prop :=
  Let (w.alloc (.cells [(.int .i64 x0_0), (.int .i64 x0_1), (.int .i64 x0_2)].toArray 121)) fun w1 => 
  Let (w1.alloc (.cells (zc Try.prog 36) 36)) fun w2 => 
  ∃ x4 : Int, World.cell? w2 ⟨w.heap.size, (0 + 2), none⟩ = some (.int .i64 x4) ∧ cond (x4 == (0 : Int)) (
  ∃ x7 : Int, World.cell? w2 ⟨w.heap.size, (0 + 0), none⟩ = some (.int .i64 x7) ∧ ∃ x9 : Int, World.cell? w2 ⟨w.heap.size, (0 + 1), none⟩ = some (.int .i64 x9) ∧ ∃ (s10 : Sl) (w3 : World), Sem.run Try.prog (Instr.buildSlice 34 1 [(0, (.int .i64 x9))].toArray) w2 = .ok (.slice s10.a s10.n s10.c) w3 ∧
  StoreOk w3 w1.heap.size 0 [(.int .i64 x7), (.slice s10.a s10.n s10.c)] 2 ∧ Let (put w3 w1.heap.size 0 [(.int .i64 x7), (.slice s10.a s10.n s10.c)]) fun w4 => 
  ∃ xr2_0 : Int, ∃ sr2_1 : Sl, rd w4 w1.heap.size 0 [(.int .i64 xr2_0), (.slice sr2_1.a sr2_1.n sr2_1.c)] ∧ R (.agg [(.int .i64 xr2_0), (.slice sr2_1.a sr2_1.n sr2_1.c)].toArray) w4) (
  ∃ x13 : Int, World.cell? w2 ⟨w.heap.size, (0 + 0), none⟩ = some (.int .i64 x13) ∧ ∃ x15 : Int, World.cell? w2 ⟨w.heap.size, (0 + 1), none⟩ = some (.int .i64 x15) ∧ ∃ x17 : Int, World.cell? w2 ⟨w.heap.size, (0 + 2), none⟩ = some (.int .i64 x17) ∧ ∃ (s18 : Sl) (w5 : World), Sem.run Try.prog (Instr.buildSlice 34 2 [(0, (.int .i64 x15)), (1, (.int .i64 x17))].toArray) w2 = .ok (.slice s18.a s18.n s18.c) w5 ∧
  StoreOk w5 w1.heap.size 0 [(.int .i64 x13), (.slice s18.a s18.n s18.c)] 2 ∧ Let (put w5 w1.heap.size 0 [(.int .i64 x13), (.slice s18.a s18.n s18.c)]) fun w6 => 
  ∃ xr2_0_2 : Int, ∃ sr2_1_2 : Sl, rd w6 w1.heap.size 0 [(.int .i64 xr2_0_2), (.slice sr2_1_2.a sr2_1_2.n sr2_1_2.c)] ∧ R (.agg [(.int .i64 xr2_0_2), (.slice sr2_1_2.a sr2_1_2.n sr2_1_2.c)].toArray) w6)
theorem eq107 (x0_0 : Int) (x0_1 : Int) (x0_2 : Int) (R : Value → World → Prop) (w : World) : funV Try.prog Try.f107 An107 [(.agg [(.int .i64 x0_0), (.int .i64 x0_1), (.int .i64 x0_2)].toArray)] R w = S107 x0_0 x0_1 x0_2 R w := by kernel_rfl
theorem call107 (x0_0 : Int) (x0_1 : Int) (x0_2 : Int) {R : Value → World → Prop} {w : World} (h : S107 x0_0 x0_1 x0_2 R w) : Calls Try.prog 107 [(.agg [(.int .i64 x0_0), (.int .i64 x0_1), (.int .i64 x0_2)].toArray)].toArray w fun e w' => ∃ v, e = .returned v ∧ R v w' :=
  funV_calls mixed Try.func107 (an := An107) (by rw [eq107]; exact h)

/-- F102: (*cubeb/rules.arities).add -/
def An102 : An := (.sq .lf (.sq (.sq (.rj [] [(37, .bool)]) (.cd (.sq .lf .lf) .lf)) (.sq .lf (.sq .lf .lf))))
def S102 (p0 : Pt) (x1 : Int) (x2 : Int) (R : Value → World → Prop) (w : World) : Prop :=
  Join [(37, .bool)] (fun (b37 : Bool) (w1 : World) => cond b37 (
  R (.bool false) w1) (
  0 ≤ x1 ∧ x1 < ((6 : Nat) : Int) ∧ StoreOk w1 p0.b (p0.o + Int.toNat x1 * 1) [(.int .i64 x2)] 1 ∧ Let (put w1 p0.b (p0.o + Int.toNat x1 * 1) [(.int .i64 x2)]) fun w2 => 
  R (.bool true) w2)) (fun J =>
  cond (decide (x1 < (0 : Int))) (J true w) (cond (decide (x1 ≥ (6 : Int))) (J true w) (cond (decide (x2 < (1 : Int))) (J true w) (cond (decide (x2 > (2 : Int))) (J true w) (0 ≤ x1 ∧ x1 < ((6 : Nat) : Int) ∧ ∃ x26 : Int, World.cell? w ⟨p0.b, (p0.o + Int.toNat x1 * 1), none⟩ = some (.int .i64 x26) ∧ cond (x26 != (0 : Int)) (0 ≤ x1 ∧ x1 < ((6 : Nat) : Int) ∧ ∃ x33 : Int, World.cell? w ⟨p0.b, (p0.o + Int.toNat x1 * 1), none⟩ = some (.int .i64 x33) ∧ J (x33 != x2) w) (J false w))))))
theorem eq102 (p0 : Pt) (x1 : Int) (x2 : Int) (R : Value → World → Prop) (w : World) : funV Try.prog Try.f102 An102 [(.pointer (some ⟨p0.b, p0.o, none⟩)), (.int .i64 x1), (.int .i64 x2)] R w = S102 p0 x1 x2 R w := by kernel_rfl
theorem call102 (p0 : Pt) (x1 : Int) (x2 : Int) {R : Value → World → Prop} {w : World} (h : S102 p0 x1 x2 R w) : Calls Try.prog 102 [(.pointer (some ⟨p0.b, p0.o, none⟩)), (.int .i64 x1), (.int .i64 x2)].toArray w fun e w' => ∃ v, e = .returned v ∧ R v w' :=
  funV_calls mixed Try.func102 (an := An102) (by rw [eq102]; exact h)

/-- F105: slices.Min[[]int,int] -/
def An105 : An := (.sq .lf (.sq (.sq .lf (.cj [] .lf .lf)) (.sq .lf (.sq (.sq .lf (.bk [(3, .int .i64)] (.lp [(3, .int .i64), (4, .int .i64)] (.sq (.sq .lf (.cd .lf .lf)) (.sq (.bk [(3, .int .i64)] .lf) .lf))))) (.sq .lf .lf)))))
def S105 (s0 : Sl) (R : Value → World → Prop) (w : World) : Prop :=
  Join [] (fun (w1 : World) => ∃ p10 : Pt, s0.a = some ⟨p10.b, p10.o, none⟩ ∧ 0 ≤ (0 : Int) ∧ (0 : Int) < ((s0.n : Nat) : Int) ∧ ∃ x11 : Int, World.cell? w1 ⟨p10.b, (p10.o + Int.toNat (0 : Int) * 1), none⟩ = some (.int .i64 x11) ∧ Join [(3, .int .i64)] (fun (x3 : Int) (w2 : World) => R (.int .i64 x3) w2) (fun J =>
  LoopV [(3, .int .i64), (4, .int .i64)] (fun K => K x11 (1 : Int) w1) (fun N => fun (x3_2 : Int) (x4 : Int) (w3 : World) =>
  cond (decide (x4 < ((s0.n : Nat) : Int))) (
  Join [(3, .int .i64)] (fun (x3_3 : Int) (w4 : World) => N x3_3 (IntKind.wrap .i64 (x4 + (1 : Int))) w4) (fun J_2 =>
  ∃ p21 : Pt, s0.a = some ⟨p21.b, p21.o, none⟩ ∧ 0 ≤ x4 ∧ x4 < ((s0.n : Nat) : Int) ∧ ∃ x22 : Int, World.cell? w3 ⟨p21.b, (p21.o + Int.toNat x4 * 1), none⟩ = some (.int .i64 x22) ∧ J_2 (if x22 < x3_2 then x22 else x3_2) w3)) (
  J x3_2 w3)))) (fun J_3 =>
  cond (decide (((s0.n : Nat) : Int) < (1 : Int))) (
  False) (
  J_3 w))
theorem eq105 (s0 : Sl) (R : Value → World → Prop) (w : World) : funV Try.prog Try.f105 An105 [(.slice s0.a s0.n s0.c)] R w = S105 s0 R w := by kernel_rfl
theorem call105 (s0 : Sl) {R : Value → World → Prop} {w : World} (h : S105 s0 R w) : Calls Try.prog 105 [(.slice s0.a s0.n s0.c)].toArray w fun e w' => ∃ v, e = .returned v ∧ R v w' :=
  funV_calls mixed Try.func105 (an := An105) (by rw [eq105]; exact h)

/-- F106: slices.Max[[]int,int] -/
def An106 : An := (.sq .lf (.sq (.sq .lf (.cj [] .lf .lf)) (.sq .lf (.sq (.sq .lf (.bk [(3, .int .i64)] (.lp [(3, .int .i64), (4, .int .i64)] (.sq (.sq .lf (.cd .lf .lf)) (.sq (.bk [(3, .int .i64)] .lf) .lf))))) (.sq .lf .lf)))))
def S106 (s0 : Sl) (R : Value → World → Prop) (w : World) : Prop :=
  Join [] (fun (w1 : World) => ∃ p10 : Pt, s0.a = some ⟨p10.b, p10.o, none⟩ ∧ 0 ≤ (0 : Int) ∧ (0 : Int) < ((s0.n : Nat) : Int) ∧ ∃ x11 : Int, World.cell? w1 ⟨p10.b, (p10.o + Int.toNat (0 : Int) * 1), none⟩ = some (.int .i64 x11) ∧ Join [(3, .int .i64)] (fun (x3 : Int) (w2 : World) => R (.int .i64 x3) w2) (fun J =>
  LoopV [(3, .int .i64), (4, .int .i64)] (fun K => K x11 (1 : Int) w1) (fun N => fun (x3_2 : Int) (x4 : Int) (w3 : World) =>
  cond (decide (x4 < ((s0.n : Nat) : Int))) (
  Join [(3, .int .i64)] (fun (x3_3 : Int) (w4 : World) => N x3_3 (IntKind.wrap .i64 (x4 + (1 : Int))) w4) (fun J_2 =>
  ∃ p21 : Pt, s0.a = some ⟨p21.b, p21.o, none⟩ ∧ 0 ≤ x4 ∧ x4 < ((s0.n : Nat) : Int) ∧ ∃ x22 : Int, World.cell? w3 ⟨p21.b, (p21.o + Int.toNat x4 * 1), none⟩ = some (.int .i64 x22) ∧ J_2 (if x22 > x3_2 then x22 else x3_2) w3)) (
  J x3_2 w3)))) (fun J_3 =>
  cond (decide (((s0.n : Nat) : Int) < (1 : Int))) (
  False) (
  J_3 w))
theorem eq106 (s0 : Sl) (R : Value → World → Prop) (w : World) : funV Try.prog Try.f106 An106 [(.slice s0.a s0.n s0.c)] R w = S106 s0 R w := by kernel_rfl
theorem call106 (s0 : Sl) {R : Value → World → Prop} {w : World} (h : S106 s0 R w) : Calls Try.prog 106 [(.slice s0.a s0.n s0.c)].toArray w fun e w' => ∃ v, e = .returned v ∧ R v w' :=
  funV_calls mixed Try.func106 (an := An106) (by rw [eq106]; exact h)

/-- F74: cubeb/rules.isFact -/
def An74 : An := (.sq .lf (.sq .lf (.sq (.rj [] [(2, .bool)]) .lf)))
def S74 (x0_0 : Int) (s0_1 : Sl) (R : Value → World → Prop) (w : World) : Prop :=
  Let (w.alloc (.cells [(.int .i64 x0_0), (.slice s0_1.a s0_1.n s0_1.c)].toArray 36)) fun w1 => 
  Let (w1.alloc (.cells (zc Try.prog 167) 167)) fun w2 => 
  Join [(2, .bool)] (fun (b2 : Bool) (w3 : World) => R (.bool b2) w3) (fun J =>
  ∃ x5 : Int, World.cell? w2 ⟨w.heap.size, (0 + 0), none⟩ = some (.int .i64 x5) ∧ ∃ s7 : Sl, World.cell? w2 ⟨w.heap.size, (0 + 1), none⟩ = some (.slice s7.a s7.n s7.c) ∧ Calls Try.prog 102 [(.pointer (some ⟨w1.heap.size, 0, none⟩)), (.int .i64 x5), (.int .i64 ((s7.n : Nat) : Int))].toArray w2 (fun e w4 => ∃ b9 : Bool, e = .returned (.bool b9) ∧
  cond b9 (∃ s12 : Sl, World.cell? w4 ⟨w.heap.size, (0 + 1), none⟩ = some (.slice s12.a s12.n s12.c) ∧ Calls Try.prog 105 [(.slice s12.a s12.n s12.c)].toArray w4 (fun e_2 w5 => ∃ x13 : Int, e_2 = .returned (.int .i64 x13) ∧
  cond (decide (x13 ≥ (1 : Int))) (∃ s18 : Sl, World.cell? w5 ⟨w.heap.size, (0 + 1), none⟩ = some (.slice s18.a s18.n s18.c) ∧ Calls Try.prog 106 [(.slice s18.a s18.n s18.c)].toArray w5 (fun e_3 w6 => ∃ x19 : Int, e_3 = .returned (.int .i64 x19) ∧
  J (decide (x19 ≤ (6 : Int))) w6)) (J false w5))) (J false w4)))
theorem eq74 (x0_0 : Int) (s0_1 : Sl) (R : Value → World → Prop) (w : World) : funV Try.prog Try.f74 An74 [(.agg [(.int .i64 x0_0), (.slice s0_1.a s0_1.n s0_1.c)].toArray)] R w = S74 x0_0 s0_1 R w := by kernel_rfl
theorem call74 (x0_0 : Int) (s0_1 : Sl) {R : Value → World → Prop} {w : World} (h : S74 x0_0 s0_1 R w) : Calls Try.prog 74 [(.agg [(.int .i64 x0_0), (.slice s0_1.a s0_1.n s0_1.c)].toArray)].toArray w fun e w' => ∃ v, e = .returned v ∧ R v w' :=
  funV_calls mixed Try.func74 (an := An74) (by rw [eq74]; exact h)

/-- F104: (cubeb/rules.Rule).atoms -/
def An104 : An := (.sq .lf (.sq .lf (.sq (.sq .lf (.bk [(3, .slice)] (.lp [(3, .slice), (12, .int .i64)] (.sq .lf (.sq (.cd .lf .lf) (.sq (.bk [(3, .slice)] (.sq .lf .lf)) .lf)))))) (.sq .lf .lf))))
def S104 (x0_0 : Int) (s0_1 : Sl) (s0_2 : Sl) (R : Value → World → Prop) (w : World) : Prop :=
  Let (w.alloc (.cells [(.int .i64 x0_0), (.slice s0_1.a s0_1.n s0_1.c), (.slice s0_2.a s0_2.n s0_2.c)].toArray 52)) fun w1 => 
  ∃ x7_0 : Int, ∃ s7_1 : Sl, rd w1 w.heap.size (0 + 0) [(.int .i64 x7_0), (.slice s7_1.a s7_1.n s7_1.c)] ∧ ∃ (s8 : Sl) (w2 : World), Sem.run Try.prog (Instr.buildSlice 169 1 [(0, (.agg [(.int .i64 x7_0), (.slice s7_1.a s7_1.n s7_1.c)].toArray))].toArray) w1 = .ok (.slice s8.a s8.n s8.c) w2 ∧
  ∃ s10 : Sl, World.cell? w2 ⟨w.heap.size, (0 + 2), none⟩ = some (.slice s10.a s10.n s10.c) ∧ Join [(3, .slice)] (fun (s3 : Sl) (w3 : World) => R (.slice s3.a s3.n s3.c) w3) (fun J =>
  LoopV [(3, .slice), (12, .int .i64)] (fun K => K ⟨s8.a, s8.n, s8.c⟩ (0 : Int) w2) (fun N => fun (s3_2 : Sl) (x12 : Int) (w4 : World) =>
  cond (decide (x12 < ((s10.n : Nat) : Int))) (
  Join [(3, .slice)] (fun (s3_3 : Sl) (w5 : World) => N ⟨s3_3.a, s3_3.n, s3_3.c⟩ (IntKind.wrap .i64 (x12 + (1 : Int))) w5) (fun J_2 =>
  ∃ p14 : Pt, s10.a = some ⟨p14.b, p14.o, none⟩ ∧ 0 ≤ x12 ∧ x12 < ((s10.n : Nat) : Int) ∧ ∃ b15_0 : Bool, ∃ x15_1 : Int, ∃ s15_2 : Sl, rd w4 p14.b (p14.o + Int.toNat x12 * 3) [(.bool b15_0), (.int .i64 x15_1), (.slice s15_2.a s15_2.n s15_2.c)] ∧ Let (w4.alloc (.cells (zc Try.prog 54) 54)) fun w6 => 
  StoreOk w6 w4.heap.size 0 [(.bool b15_0), (.int .i64 x15_1), (.slice s15_2.a s15_2.n s15_2.c)] 3 ∧ Let (put w6 w4.heap.size 0 [(.bool b15_0), (.int .i64 x15_1), (.slice s15_2.a s15_2.n s15_2.c)]) fun w7 => 
  ∃ x18_0 : Int, ∃ s18_1 : Sl, rd w7 w4.heap.size (0 + 1) [(.int .i64 x18_0), (.slice s18_1.a s18_1.n s18_1.c)] ∧ ∃ (s19 : Sl) (w8 : World), Sem.run Try.prog (Instr.buildSlice 169 1 [(0, (.agg [(.int .i64 x18_0), (.slice s18_1.a s18_1.n s18_1.c)].toArray))].toArray) w7 = .ok (.slice s19.a s19.n s19.c) w8 ∧
  ∃ (s20 : Sl) (w9 : World), Sem.run Try.prog (Builtin.append_ #[169, 169] 169 #[(.slice s3_2.a s3_2.n s3_2.c), (.slice s19.a s19.n s19.c)]) w8 = .ok (.slice s20.a s20.n s20.c) w9 ∧
  J_2 ⟨s20.a, s20.n, s20.c⟩ w9)) (
  J ⟨s3_2.a, s3_2.n, s3_2.c⟩ w4)))
theorem eq104 (x0_0 : Int) (s0_1 : Sl) (s0_2 : Sl) (R : Value → World → Prop) (w : World) : funV Try.prog Try.f104 An104 [(.agg [(.int .i64 x0_0), (.slice s0_1.a s0_1.n s0_1.c), (.slice s0_2.a s0_2.n s0_2.c)].toArray)] R w = S104 x0_0 s0_1 s0_2 R w := by kernel_rfl
theorem call104 (x0_0 : Int) (s0_1 : Sl) (s0_2 : Sl) {R : Value → World → Prop} {w : World} (h : S104 x0_0 s0_1 s0_2 R w) : Calls Try.prog 104 [(.agg [(.int .i64 x0_0), (.slice s0_1.a s0_1.n s0_1.c), (.slice s0_2.a s0_2.n s0_2.c)].toArray)].toArray w fun e w' => ∃ v, e = .returned v ∧ R v w' :=
  funV_calls mixed Try.func104 (an := An104) (by rw [eq104]; exact h)

/-- F103: (cubeb/rules.Rule).safe -/
def An103 : An := (.sq .lf (.sq .lf (.sq (.sq .lf (.bk [] (.lp [(16, .int .i64)] (.sq .lf (.sq (.cd .lf .lf) (.sq (.bk [] (.sq .lf (.sq .lf (.bk [] (.lp [(24, .int .i64)] (.sq .lf (.sq (.cd .lf .lf) (.sq (.bk [] (.sq .lf (.rj [] []))) .lf)))))))) .lf)))))) (.sq (.sq .lf (.bk [] (.lp [(43, .int .i64)] (.sq .lf (.sq (.cd .lf .lf) (.sq (.bk [] (.sq .lf (.sq .lf (.bk [] (.lp [(50, .int .i64)] (.sq .lf (.sq (.cd .lf .lf) (.sq (.bk [] (.sq .lf (.sq (.rj [] [(61, .bool)]) (.cd (.sq .lf .lf) .lf)))) .lf)))))))) .lf)))))) (.sq .lf .lf)))))
def S103 (x0_0 : Int) (s0_1 : Sl) (s0_2 : Sl) (R : Value → World → Prop) (w : World) : Prop :=
  Let (w.alloc (.cells [(.int .i64 x0_0), (.slice s0_1.a s0_1.n s0_1.c), (.slice s0_2.a s0_2.n s0_2.c)].toArray 52)) fun w1 => 
  Let (w1.alloc (.map #[] 0)) fun w2 => 
  ∃ s14 : Sl, World.cell? w2 ⟨w.heap.size, (0 + 2), none⟩ = some (.slice s14.a s14.n s14.c) ∧ Join [] (fun (w3 : World) => ∃ x40_0 : Int, ∃ s40_1 : Sl, ∃ s40_2 : Sl, rd w3 w.heap.size 0 [(.int .i64 x40_0), (.slice s40_1.a s40_1.n s40_1.c), (.slice s40_2.a s40_2.n s40_2.c)] ∧ Calls Try.prog 104 [(.agg [(.int .i64 x40_0), (.slice s40_1.a s40_1.n s40_1.c), (.slice s40_2.a s40_2.n s40_2.c)].toArray)].toArray w3 (fun e w4 => ∃ s41 : Sl, e = .returned (.slice s41.a s41.n s41.c) ∧
  Join [] (fun (w5 : World) => R (.bool true) w5) (fun J =>
  LoopV [(43, .int .i64)] (fun K => K (0 : Int) w4) (fun N => fun (x43 : Int) (w6 : World) =>
  cond (decide (x43 < ((s41.n : Nat) : Int))) (
  Join [] (fun (w7 : World) => N (IntKind.wrap .i64 (x43 + (1 : Int))) w7) (fun J_2 =>
  ∃ p45 : Pt, s41.a = some ⟨p45.b, p45.o, none⟩ ∧ 0 ≤ x43 ∧ x43 < ((s41.n : Nat) : Int) ∧ ∃ x46_0 : Int, ∃ s46_1 : Sl, rd w6 p45.b (p45.o + Int.toNat x43 * 2) [(.int .i64 x46_0), (.slice s46_1.a s46_1.n s46_1.c)] ∧ Let (w6.alloc (.cells (zc Try.prog 48) 48)) fun w8 => 
  StoreOk w8 w6.heap.size 0 [(.int .i64 x46_0), (.slice s46_1.a s46_1.n s46_1.c)] 2 ∧ Let (put w8 w6.heap.size 0 [(.int .i64 x46_0), (.slice s46_1.a s46_1.n s46_1.c)]) fun w9 => 
  ∃ s48 : Sl, World.cell? w9 ⟨w6.heap.size, (0 + 1), none⟩ = some (.slice s48.a s48.n s48.c) ∧ Join [] (fun (w10 : World) => J_2 w10) (fun J_3 =>
  LoopV [(50, .int .i64)] (fun K => K (0 : Int) w9) (fun N_2 => fun (x50 : Int) (w11 : World) =>
  cond (decide (x50 < ((s48.n : Nat) : Int))) (
  Join [] (fun (w12 : World) => N_2 (IntKind.wrap .i64 (x50 + (1 : Int))) w12) (fun J_4 =>
  ∃ p52 : Pt, s48.a = some ⟨p52.b, p52.o, none⟩ ∧ 0 ≤ x50 ∧ x50 < ((s48.n : Nat) : Int) ∧ ∃ x53 : Int, World.cell? w11 ⟨p52.b, (p52.o + Int.toNat x50 * 1), none⟩ = some (.int .i64 x53) ∧ Join [(61, .bool)] (fun (b61 : Bool) (w13 : World) => cond b61 (
  R (.bool false) w13) (
  J_4 w13)) (fun J_5 =>
  cond (decide (x53 ≥ (0 : Int))) (∃ b59 : Bool, Sem.run Try.prog (Instr.lookup 188 (.map (some w1.heap.size)) (.int .i64 x53) false) w11 = .ok (.bool b59) w11 ∧ J_5 (!b59) w11) (J_5 false w11)))) (
  J_3 w11))))) (
  J w6))))) (fun J_6 =>
  LoopV [(16, .int .i64)] (fun K => K (0 : Int) w2) (fun N_3 => fun (x16 : Int) (w14 : World) =>
  cond (decide (x16 < ((s14.n : Nat) : Int))) (
  Join [] (fun (w15 : World) => N_3 (IntKind.wrap .i64 (x16 + (1 : Int))) w15) (fun J_7 =>
  ∃ p18 : Pt, s14.a = some ⟨p18.b, p18.o, none⟩ ∧ 0 ≤ x16 ∧ x16 < ((s14.n : Nat) : Int) ∧ ∃ b19_0 : Bool, ∃ x19_1 : Int, ∃ s19_2 : Sl, rd w14 p18.b (p18.o + Int.toNat x16 * 3) [(.bool b19_0), (.int .i64 x19_1), (.slice s19_2.a s19_2.n s19_2.c)] ∧ Let (w14.alloc (.cells (zc Try.prog 54) 54)) fun w16 => 
  StoreOk w16 w14.heap.size 0 [(.bool b19_0), (.int .i64 x19_1), (.slice s19_2.a s19_2.n s19_2.c)] 3 ∧ Let (put w16 w14.heap.size 0 [(.bool b19_0), (.int .i64 x19_1), (.slice s19_2.a s19_2.n s19_2.c)]) fun w17 => 
  ∃ s22 : Sl, World.cell? w17 ⟨w14.heap.size, ((0 + 1) + 1), none⟩ = some (.slice s22.a s22.n s22.c) ∧ Join [] (fun (w18 : World) => J_7 w18) (fun J_8 =>
  LoopV [(24, .int .i64)] (fun K => K (0 : Int) w17) (fun N_4 => fun (x24 : Int) (w19 : World) =>
  cond (decide (x24 < ((s22.n : Nat) : Int))) (
  Join [] (fun (w20 : World) => N_4 (IntKind.wrap .i64 (x24 + (1 : Int))) w20) (fun J_9 =>
  ∃ p26 : Pt, s22.a = some ⟨p26.b, p26.o, none⟩ ∧ 0 ≤ x24 ∧ x24 < ((s22.n : Nat) : Int) ∧ ∃ x27 : Int, World.cell? w19 ⟨p26.b, (p26.o + Int.toNat x24 * 1), none⟩ = some (.int .i64 x27) ∧ Join [] (fun (w21 : World) => J_9 w21) (fun J_10 =>
  ∃ b32 : Bool, Sem.run Try.prog (Instr.lookup 188 (.map (some w1.heap.size)) (.int .i64 x27) false) w19 = .ok (.bool b32) w19 ∧ cond b32 (∃ w22 : World, Sem.run Try.prog (Instr.mapUpdate 188 (.map (some w1.heap.size)) (.int .i64 x27) (.bool true)) w19 = .ok () w22 ∧
  J_10 w22) (∃ b35 : Bool, World.cell? w19 ⟨w14.heap.size, (0 + 0), none⟩ = some (.bool b35) ∧ ∃ w23 : World, Sem.run Try.prog (Instr.mapUpdate 188 (.map (some w1.heap.size)) (.int .i64 x27) (.bool (!b35))) w19 = .ok () w23 ∧
  J_10 w23)))) (
  J_8 w19))))) (
  J_6 w14)))
theorem eq103 (x0_0 : Int) (s0_1 : Sl) (s0_2 : Sl) (R : Value → World → Prop) (w : World) : funV Try.prog Try.f103 An103 [(.agg [(.int .i64 x0_0), (.slice s0_1.a s0_1.n s0_1.c), (.slice s0_2.a s0_2.n s0_2.c)].toArray)] R w = S103 x0_0 s0_1 s0_2 R w := by kernel_rfl
theorem call103 (x0_0 : Int) (s0_1 : Sl) (s0_2 : Sl) {R : Value → World → Prop} {w : World} (h : S103 x0_0 s0_1 s0_2 R w) : Calls Try.prog 103 [(.agg [(.int .i64 x0_0), (.slice s0_1.a s0_1.n s0_1.c), (.slice s0_2.a s0_2.n s0_2.c)].toArray)].toArray w fun e w' => ∃ v, e = .returned v ∧ R v w' :=
  funV_calls mixed Try.func103 (an := An103) (by rw [eq103]; exact h)

/-- F55: cubeb/rules.valid -/
def An55 : An := (.sq .lf (.sq .lf (.sq (.sq (.rj [] [(19, .bool)]) (.cd (.sq .lf .lf) .lf)) (.sq (.sq .lf (.bk [] (.lp [(22, .int .i64)] (.sq .lf (.sq (.cd .lf .lf) (.sq (.bk [] (.sq .lf (.sq (.rj [] [(37, .bool)]) (.cd (.sq .lf .lf) .lf)))) .lf)))))) (.sq (.sq .lf (.bk [] (.lp [(41, .int .i64)] (.sq .lf (.sq (.cd .lf .lf) (.sq (.bk [] (.sq .lf (.sq (.sq (.rj [] [(53, .bool)]) (.cd (.sq .lf .lf) .lf)) (.sq .lf (.bk [] (.lp [(57, .int .i64)] (.sq .lf (.sq (.cd .lf .lf) (.sq (.bk [] (.sq .lf (.sq (.rj [] [(79, .bool)]) (.cd (.sq .lf .lf) .lf)))) .lf))))))))) .lf)))))) (.sq .lf .lf))))))
def S55 (s0 : Sl) (s1 : Sl) (R : Value → World → Prop) (w : World) : Prop :=
  Let (w.alloc (.cells (zc Try.prog 167) 167)) fun w1 => 
  Join [(19, .bool)] (fun (b19 : Bool) (w2 : World) => cond b19 (
  R (.bool false) w2) (
  Join [] (fun (w3 : World) => Join [] (fun (w4 : World) => R (.bool true) w4) (fun J =>
  LoopV [(41, .int .i64)] (fun K => K (0 : Int) w3) (fun N => fun (x41 : Int) (w5 : World) =>
  cond (decide (x41 < ((s0.n : Nat) : Int))) (
  Join [] (fun (w6 : World) => N (IntKind.wrap .i64 (x41 + (1 : Int))) w6) (fun J_2 =>
  ∃ p43 : Pt, s0.a = some ⟨p43.b, p43.o, none⟩ ∧ 0 ≤ x41 ∧ x41 < ((s0.n : Nat) : Int) ∧ ∃ x44_0 : Int, ∃ s44_1 : Sl, ∃ s44_2 : Sl, rd w5 p43.b (p43.o + Int.toNat x41 * 3) [(.int .i64 x44_0), (.slice s44_1.a s44_1.n s44_1.c), (.slice s44_2.a s44_2.n s44_2.c)] ∧ Let (w5.alloc (.cells (zc Try.prog 52) 52)) fun w7 => 
  StoreOk w7 w5.heap.size 0 [(.int .i64 x44_0), (.slice s44_1.a s44_1.n s44_1.c), (.slice s44_2.a s44_2.n s44_2.c)] 3 ∧ Let (put w7 w5.heap.size 0 [(.int .i64 x44_0), (.slice s44_1.a s44_1.n s44_1.c), (.slice s44_2.a s44_2.n s44_2.c)]) fun w8 => 
  Join [(53, .bool)] (fun (b53 : Bool) (w9 : World) => cond b53 (
  R (.bool false) w9) (
  ∃ x54_0 : Int, ∃ s54_1 : Sl, ∃ s54_2 : Sl, rd w9 w5.heap.size 0 [(.int .i64 x54_0), (.slice s54_1.a s54_1.n s54_1.c), (.slice s54_2.a s54_2.n s54_2.c)] ∧ Calls Try.prog 104 [(.agg [(.int .i64 x54_0), (.slice s54_1.a s54_1.n s54_1.c), (.slice s54_2.a s54_2.n s54_2.c)].toArray)].toArray w9 (fun e w10 => ∃ s55 : Sl, e = .returned (.slice s55.a s55.n s55.c) ∧
  Join [] (fun (w11 : World) => J_2 w11) (fun J_3 =>
  LoopV [(57, .int .i64)] (fun K => K (0 : Int) w10) (fun N_2 => fun (x57 : Int) (w12 : World) =>
  cond (decide (x57 < ((s55.n : Nat) : Int))) (
  Join [] (fun (w13 : World) => N_2 (IntKind.wrap .i64 (x57 + (1 : Int))) w13) (fun J_4 =>
  ∃ p59 : Pt, s55.a = some ⟨p59.b, p59.o, none⟩ ∧ 0 ≤ x57 ∧ x57 < ((s55.n : Nat) : Int) ∧ ∃ x60_0 : Int, ∃ s60_1 : Sl, rd w12 p59.b (p59.o + Int.toNat x57 * 2) [(.int .i64 x60_0), (.slice s60_1.a s60_1.n s60_1.c)] ∧ Let (w12.alloc (.cells (zc Try.prog 48) 48)) fun w14 => 
  StoreOk w14 w12.heap.size 0 [(.int .i64 x60_0), (.slice s60_1.a s60_1.n s60_1.c)] 2 ∧ Let (put w14 w12.heap.size 0 [(.int .i64 x60_0), (.slice s60_1.a s60_1.n s60_1.c)]) fun w15 => 
  Join [(79, .bool)] (fun (b79 : Bool) (w16 : World) => cond b79 (
  R (.bool false) w16) (
  J_4 w16)) (fun J_5 =>
  ∃ x62 : Int, World.cell? w15 ⟨w12.heap.size, (0 + 0), none⟩ = some (.int .i64 x62) ∧ ∃ s64 : Sl, World.cell? w15 ⟨w12.heap.size, (0 + 1), none⟩ = some (.slice s64.a s64.n s64.c) ∧ Calls Try.prog 102 [(.pointer (some ⟨w.heap.size, 0, none⟩)), (.int .i64 x62), (.int .i64 ((s64.n : Nat) : Int))].toArray w15 (fun e_2 w17 => ∃ b66 : Bool, e_2 = .returned (.bool b66) ∧
  cond (!b66) (J_5 true w17) (∃ s70 : Sl, World.cell? w17 ⟨w12.heap.size, (0 + 1), none⟩ = some (.slice s70.a s70.n s70.c) ∧ Calls Try.prog 105 [(.slice s70.a s70.n s70.c)].toArray w17 (fun e_3 w18 => ∃ x71 : Int, e_3 = .returned (.int .i64 x71) ∧
  cond (decide (x71 < (-6 : Int))) (J_5 true w18) (∃ s76 : Sl, World.cell? w18 ⟨w12.heap.size, (0 + 1), none⟩ = some (.slice s76.a s76.n s76.c) ∧ Calls Try.prog 106 [(.slice s76.a s76.n s76.c)].toArray w18 (fun e_4 w19 => ∃ x77 : Int, e_4 = .returned (.int .i64 x77) ∧
  J_5 (decide (x77 ≥ (8 : Int))) w19)))))))) (
  J_3 w12)))))) (fun J_6 =>
  ∃ s46 : Sl, World.cell? w8 ⟨w5.heap.size, (0 + 2), none⟩ = some (.slice s46.a s46.n s46.c) ∧ cond (decide (((s46.n : Nat) : Int) > (3 : Int))) (J_6 true w8) (∃ x50_0 : Int, ∃ s50_1 : Sl, ∃ s50_2 : Sl, rd w8 w5.heap.size 0 [(.int .i64 x50_0), (.slice s50_1.a s50_1.n s50_1.c), (.slice s50_2.a s50_2.n s50_2.c)] ∧ Calls Try.prog 103 [(.agg [(.int .i64 x50_0), (.slice s50_1.a s50_1.n s50_1.c), (.slice s50_2.a s50_2.n s50_2.c)].toArray)].toArray w8 (fun e_5 w20 => ∃ b51 : Bool, e_5 = .returned (.bool b51) ∧
  J_6 (!b51) w20))))) (
  J w5)))) (fun J_7 =>
  LoopV [(22, .int .i64)] (fun K => K (0 : Int) w2) (fun N_3 => fun (x22 : Int) (w21 : World) =>
  cond (decide (x22 < ((s1.n : Nat) : Int))) (
  Join [] (fun (w22 : World) => N_3 (IntKind.wrap .i64 (x22 + (1 : Int))) w22) (fun J_8 =>
  ∃ p24 : Pt, s1.a = some ⟨p24.b, p24.o, none⟩ ∧ 0 ≤ x22 ∧ x22 < ((s1.n : Nat) : Int) ∧ ∃ x25_0 : Int, ∃ s25_1 : Sl, rd w21 p24.b (p24.o + Int.toNat x22 * 2) [(.int .i64 x25_0), (.slice s25_1.a s25_1.n s25_1.c)] ∧ Let (w21.alloc (.cells (zc Try.prog 36) 36)) fun w23 => 
  StoreOk w23 w21.heap.size 0 [(.int .i64 x25_0), (.slice s25_1.a s25_1.n s25_1.c)] 2 ∧ Let (put w23 w21.heap.size 0 [(.int .i64 x25_0), (.slice s25_1.a s25_1.n s25_1.c)]) fun w24 => 
  Join [(37, .bool)] (fun (b37 : Bool) (w25 : World) => cond b37 (
  R (.bool false) w25) (
  J_8 w25)) (fun J_9 =>
  ∃ x26_0 : Int, ∃ s26_1 : Sl, rd w24 w21.heap.size 0 [(.int .i64 x26_0), (.slice s26_1.a s26_1.n s26_1.c)] ∧ Calls Try.prog 74 [(.agg [(.int .i64 x26_0), (.slice s26_1.a s26_1.n s26_1.c)].toArray)].toArray w24 (fun e_6 w26 => ∃ b27 : Bool, e_6 = .returned (.bool b27) ∧
  cond (!b27) (J_9 true w26) (∃ x31 : Int, World.cell? w26 ⟨w21.heap.size, (0 + 0), none⟩ = some (.int .i64 x31) ∧ ∃ s33 : Sl, World.cell? w26 ⟨w21.heap.size, (0 + 1), none⟩ = some (.slice s33.a s33.n s33.c) ∧ Calls Try.prog 102 [(.pointer (some ⟨w.heap.size, 0, none⟩)), (.int .i64 x31), (.int .i64 ((s33.n : Nat) : Int))].toArray w26 (fun e_7 w27 => ∃ b35 : Bool, e_7 = .returned (.bool b35) ∧
  J_9 (!b35) w27)))))) (
  J_7 w21))))) (fun J_10 =>
  cond (decide (((s0.n : Nat) : Int) > (10 : Int))) (J_10 true w1) (J_10 (decide (((s1.n : Nat) : Int) > (20 : Int))) w1))
theorem eq55 (s0 : Sl) (s1 : Sl) (R : Value → World → Prop) (w : World) : funV Try.prog Try.f55 An55 [(.slice s0.a s0.n s0.c), (.slice s1.a s1.n s1.c)] R w = S55 s0 s1 R w := by kernel_rfl
theorem call55 (s0 : Sl) (s1 : Sl) {R : Value → World → Prop} {w : World} (h : S55 s0 s1 R w) : Calls Try.prog 55 [(.slice s0.a s0.n s0.c), (.slice s1.a s1.n s1.c)].toArray w fun e w' => ∃ v, e = .returned v ∧ R v w' :=
  funV_calls mixed Try.func55 (an := An55) (by rw [eq55]; exact h)

/-- F115: (cubeb/rules.values).ground -/
def An115 : An := (.sq .lf (.sq .lf (.sq (.sq .lf (.bk [] (.lp [(11, .int .i64)] (.sq .lf (.sq (.cd .lf .lf) (.sq (.bk [] (.sq .lf (.sq .lf (.cj [] .lf .lf)))) .lf)))))) (.sq .lf .lf))))
def S115 (cs0 : List Value) (x1_0 : Int) (s1_1 : Sl) (R : Value → World → Prop) (w : World) : Prop :=
  Let (w.alloc (.cells cs0.toArray 178)) fun w1 => 
  Let (w1.alloc (.cells [(.int .i64 x1_0), (.slice s1_1.a s1_1.n s1_1.c)].toArray 48)) fun w2 => 
  Let (w2.alloc (.cells (zc Try.prog 121) 121)) fun w3 => 
  Let (w3.alloc (.cells (zc Try.prog 114) 114)) fun w4 => 
  ∃ s9 : Sl, World.cell? w4 ⟨w1.heap.size, (0 + 1), none⟩ = some (.slice s9.a s9.n s9.c) ∧ Join [] (fun (w5 : World) => ∃ x29 : Int, World.cell? w5 ⟨w1.heap.size, (0 + 0), none⟩ = some (.int .i64 x29) ∧ 0 ≤ (0 : Int) ∧ (0 : Int) < ((2 : Nat) : Int) ∧ ∃ x31 : Int, World.cell? w5 ⟨w3.heap.size, (0 + Int.toNat (0 : Int) * 1), none⟩ = some (.int .i64 x31) ∧ 0 ≤ (1 : Int) ∧ (1 : Int) < ((2 : Nat) : Int) ∧ ∃ x33 : Int, World.cell? w5 ⟨w3.heap.size, (0 + Int.toNat (1 : Int) * 1), none⟩ = some (.int .i64 x33) ∧ StoreOk w5 w2.heap.size 0 [(.int .i64 x29), (.int .i64 x31), (.int .i64 x33)] 3 ∧ Let (put w5 w2.heap.size 0 [(.int .i64 x29), (.int .i64 x31), (.int .i64 x33)]) fun w6 => 
  ∃ xr4_0 : Int, ∃ xr4_1 : Int, ∃ xr4_2 : Int, rd w6 w2.heap.size 0 [(.int .i64 xr4_0), (.int .i64 xr4_1), (.int .i64 xr4_2)] ∧ R (.agg [(.int .i64 xr4_0), (.int .i64 xr4_1), (.int .i64 xr4_2)].toArray) w6) (fun J =>
  LoopV [(11, .int .i64)] (fun K => K (0 : Int) w4) (fun N => fun (x11 : Int) (w7 : World) =>
  cond (decide (x11 < ((s9.n : Nat) : Int))) (
  Join [] (fun (w8 : World) => N (IntKind.wrap .i64 (x11 + (1 : Int))) w8) (fun J_2 =>
  ∃ p14 : Pt, s9.a = some ⟨p14.b, p14.o, none⟩ ∧ 0 ≤ x11 ∧ x11 < ((s9.n : Nat) : Int) ∧ ∃ x15 : Int, World.cell? w7 ⟨p14.b, (p14.o + Int.toNat x11 * 1), none⟩ = some (.int .i64 x15) ∧ Join [] (fun (w9 : World) => J_2 w9) (fun J_3 =>
  cond (decide (x15 < (0 : Int))) (
  0 ≤ x11 ∧ x11 < ((2 : Nat) : Int) ∧ StoreOk w7 w3.heap.size (0 + Int.toNat x11 * 1) [(.int .i64 (IntKind.wrap .i64 (0 - x15)))] 1 ∧ Let (put w7 w3.heap.size (0 + Int.toNat x11 * 1) [(.int .i64 (IntKind.wrap .i64 (0 - x15)))]) fun w10 => 
  J_3 w10) (
  0 ≤ x15 ∧ x15 < ((8 : Nat) : Int) ∧ ∃ x25 : Int, World.cell? w7 ⟨w.heap.size, (0 + Int.toNat x15 * 1), none⟩ = some (.int .i64 x25) ∧ 0 ≤ x11 ∧ x11 < ((2 : Nat) : Int) ∧ StoreOk w7 w3.heap.size (0 + Int.toNat x11 * 1) [(.int .i64 x25)] 1 ∧ Let (put w7 w3.heap.size (0 + Int.toNat x11 * 1) [(.int .i64 x25)]) fun w11 => 
  J_3 w11)))) (
  J w7)))
theorem eq115 (cs0 : List Value) (x1_0 : Int) (s1_1 : Sl) (R : Value → World → Prop) (w : World) : funV Try.prog Try.f115 An115 [(.agg cs0.toArray), (.agg [(.int .i64 x1_0), (.slice s1_1.a s1_1.n s1_1.c)].toArray)] R w = S115 cs0 x1_0 s1_1 R w := by kernel_rfl
theorem call115 (cs0 : List Value) (x1_0 : Int) (s1_1 : Sl) {R : Value → World → Prop} {w : World} (h : S115 cs0 x1_0 s1_1 R w) : Calls Try.prog 115 [(.agg cs0.toArray), (.agg [(.int .i64 x1_0), (.slice s1_1.a s1_1.n s1_1.c)].toArray)].toArray w fun e w' => ∃ v, e = .returned v ∧ R v w' :=
  funV_calls mixed Try.func115 (an := An115) (by rw [eq115]; exact h)

/-- F128: (cubeb/rules.values).fits -/
def An128 : An := (.sq .lf (.sq (.sq .lf (.bk [] (.lp [(14, .int .i64)] (.sq .lf (.sq (.cd .lf .lf) (.sq (.bk [] (.sq .lf (.sq .lf (.bk [] (.sq (.rj [] [(26, .bool)]) (.cd (.sq .lf .lf) (.sq .lf (.cj [] .lf .lf)))))))) .lf)))))) (.sq (.dr [0, 1, 2, 3, 4, 5, 6, 7] [] true none) .lf)))
def S128 (cs0 : List Value) (x1_0 : Int) (s1_1 : Sl) (x2_0 : Int) (x2_1 : Int) (x2_2 : Int) (R : Value → World → Prop) (w : World) : Prop :=
  Let (w.alloc (.cells cs0.toArray 178)) fun w1 => 
  Let (w1.alloc (.cells [(.int .i64 x1_0), (.slice s1_1.a s1_1.n s1_1.c)].toArray 48)) fun w2 => 
  Let (w2.alloc (.cells [(.int .i64 x2_0), (.int .i64 x2_1), (.int .i64 x2_2)].toArray 121)) fun w3 => 
  Let (w3.alloc (.cells (zc Try.prog 178) 178)) fun w4 => 
  ∃ s12 : Sl, World.cell? w4 ⟨w1.heap.size, (0 + 1), none⟩ = some (.slice s12.a s12.n s12.c) ∧ Join [] (fun (w5 : World) => ∃ S1 : World → Prop, S1 w5.drew ∧ Let w5.drew fun w6 =>
  ∃ cs60 : List Value, cs60.length = 8 ∧ (∀ u, S1 u → rd u w.heap.size 0 cs60) ∧ ∃ x62 : Int, (∀ u, S1 u → World.cell? u ⟨w1.heap.size, (0 + 0), none⟩ = some (.int .i64 x62)) ∧ ∃ x64 : Int, (∀ u, S1 u → World.cell? u ⟨w2.heap.size, (0 + 0), none⟩ = some (.int .i64 x64)) ∧ StoreOk w6 w3.heap.size 0 cs60 8 ∧ Let (put w6 w3.heap.size 0 cs60) fun w7 => 
  S1 w7 ∧ ∃ csr6 : List Value, csr6.length = 8 ∧ rd w7 w3.heap.size 0 csr6 ∧ R (.tuple [(.agg csr6.toArray), (.bool (x62 == x64))].toArray) w7) (fun J =>
  LoopV [(14, .int .i64)] (fun K => K (0 : Int) w4) (fun N => fun (x14 : Int) (w8 : World) =>
  cond (decide (x14 < ((s12.n : Nat) : Int))) (
  Join [] (fun (w9 : World) => N (IntKind.wrap .i64 (x14 + (1 : Int))) w9) (fun J_2 =>
  ∃ p17 : Pt, s12.a = some ⟨p17.b, p17.o, none⟩ ∧ 0 ≤ x14 ∧ x14 < ((s12.n : Nat) : Int) ∧ ∃ x18 : Int, World.cell? w8 ⟨p17.b, (p17.o + Int.toNat x14 * 1), none⟩ = some (.int .i64 x18) ∧ ∃ x20 : Int, World.cell? w8 ⟨w2.heap.size, (0 + 1), none⟩ = some (.int .i64 x20) ∧ ∃ x22 : Int, World.cell? w8 ⟨w2.heap.size, (0 + 2), none⟩ = some (.int .i64 x22) ∧ 0 ≤ x14 ∧ x14 < ((2 : Nat) : Int) ∧ ∃ x25 : Int, ([(.int .i64 x20), (.int .i64 x22)] : List Value)[Int.toNat x14]? = some (.int .i64 x25) ∧ Join [] (fun (w10 : World) => J_2 w10) (fun J_3 =>
  Join [(26, .bool)] (fun (b26 : Bool) (w11 : World) => cond b26 (
  ∃ cs52 : List Value, cs52.length = 8 ∧ rd w11 w.heap.size 0 cs52 ∧ StoreOk w11 w3.heap.size 0 cs52 8 ∧ Let (put w11 w3.heap.size 0 cs52) fun w12 => 
  ∃ csr6_2 : List Value, csr6_2.length = 8 ∧ rd w12 w3.heap.size 0 csr6_2 ∧ R (.tuple [(.agg csr6_2.toArray), (.bool false)].toArray) w12) (
  Join [] (fun (w13 : World) => J_3 w13) (fun J_4 =>
  cond (decide (x18 ≥ (0 : Int))) (
  0 ≤ x18 ∧ x18 < ((8 : Nat) : Int) ∧ StoreOk w11 w.heap.size (0 + Int.toNat x18 * 1) [(.int .i64 x25)] 1 ∧ Let (put w11 w.heap.size (0 + Int.toNat x18 * 1) [(.int .i64 x25)]) fun w14 => 
  J_4 w14) (
  J_4 w11)))) (fun J_5 =>
  cond (decide (x18 < (0 : Int))) (cond ((IntKind.wrap .i64 (0 - x18)) != x25) (J_5 true w8) (cond (decide (x18 ≥ (0 : Int))) (0 ≤ x18 ∧ x18 < ((8 : Nat) : Int) ∧ ∃ x41 : Int, World.cell? w8 ⟨w.heap.size, (0 + Int.toNat x18 * 1), none⟩ = some (.int .i64 x41) ∧ cond (x41 != (0 : Int)) (0 ≤ x18 ∧ x18 < ((8 : Nat) : Int) ∧ ∃ x47 : Int, World.cell? w8 ⟨w.heap.size, (0 + Int.toNat x18 * 1), none⟩ = some (.int .i64 x47) ∧ J_5 (x47 != x25) w8) (J_5 false w8)) (J_5 false w8))) (cond (decide (x18 ≥ (0 : Int))) (0 ≤ x18 ∧ x18 < ((8 : Nat) : Int) ∧ ∃ x41_2 : Int, World.cell? w8 ⟨w.heap.size, (0 + Int.toNat x18 * 1), none⟩ = some (.int .i64 x41_2) ∧ cond (x41_2 != (0 : Int)) (0 ≤ x18 ∧ x18 < ((8 : Nat) : Int) ∧ ∃ x47_2 : Int, World.cell? w8 ⟨w.heap.size, (0 + Int.toNat x18 * 1), none⟩ = some (.int .i64 x47_2) ∧ J_5 (x47_2 != x25) w8) (J_5 false w8)) (J_5 false w8)))))) (
  J w8)))
theorem eq128 (cs0 : List Value) (x1_0 : Int) (s1_1 : Sl) (x2_0 : Int) (x2_1 : Int) (x2_2 : Int) (R : Value → World → Prop) (w : World) : funV Try.prog Try.f128 An128 [(.agg cs0.toArray), (.agg [(.int .i64 x1_0), (.slice s1_1.a s1_1.n s1_1.c)].toArray), (.agg [(.int .i64 x2_0), (.int .i64 x2_1), (.int .i64 x2_2)].toArray)] R w = S128 cs0 x1_0 s1_1 x2_0 x2_1 x2_2 R w := by kernel_rfl
theorem call128 (cs0 : List Value) (x1_0 : Int) (s1_1 : Sl) (x2_0 : Int) (x2_1 : Int) (x2_2 : Int) {R : Value → World → Prop} {w : World} (h : S128 cs0 x1_0 s1_1 x2_0 x2_1 x2_2 R w) : Calls Try.prog 128 [(.agg cs0.toArray), (.agg [(.int .i64 x1_0), (.slice s1_1.a s1_1.n s1_1.c)].toArray), (.agg [(.int .i64 x2_0), (.int .i64 x2_1), (.int .i64 x2_2)].toArray)].toArray w fun e w' => ∃ v, e = .returned v ∧ R v w' :=
  funV_calls mixed Try.func128 (an := An128) (by rw [eq128]; exact h)

/-- F127: (cubeb/rules.Rule).instances$1 -/
def An127 : An := (.sq .lf (.sq (.sq .lf (.cd (.sq (.sq .lf (.bk [] (.lp [(24, .int .i64)] (.sq .lf (.sq (.cd .lf .lf) (.sq (.bk [] (.sq .lf (.sq (.dr [0, 1, 2, 3, 4, 5, 6, 7, 8, 9] [] true (some [(37, .bool)])) (.cd .lf .lf)))) .lf)))))) (.sq .lf .lf)) .lf)) (.sq .lf (.sq (.sq .lf (.cd (.sq .lf .lf) .lf)) (.sq .lf (.bk [] (.lp [(60, .int .i64)] (.sq .lf (.sq (.cd .lf .lf) (.sq (.bk [] (.sq .lf (.sq .lf (.sq .lf (.cj [] .lf .lf))))) .lf))))))))))
def S127 (x0 : Int) (cs1 : List Value) (p2 : Pt) (p3 : Pt) (p4 : Pt) (p5 : Pt) (p6 : Pt) (R : Value → World → Prop) (w : World) : Prop :=
  Let (w.alloc (.cells cs1.toArray 178)) fun w1 => 
  ∃ s18 : Sl, World.cell? w1 ⟨p2.b, (p2.o + 2), none⟩ = some (.slice s18.a s18.n s18.c) ∧ cond (x0 == ((s18.n : Nat) : Int)) (
  ∃ s22 : Sl, World.cell? w1 ⟨p2.b, (p2.o + 2), none⟩ = some (.slice s22.a s22.n s22.c) ∧ Join [] (fun (w2 : World) => ∃ (f39 : Nat) (c39 : List Value), World.cell? w2 ⟨p4.b, p4.o, none⟩ = some (.func (.func f39) #[] c39.toArray) ∧ ∃ cs40 : List Value, cs40.length = 8 ∧ rd w2 w.heap.size 0 cs40 ∧ (bif callable Try.prog f39 then Calls Try.prog f39 (([(.agg cs40.toArray)] : List Value) ++ c39).toArray w2 (fun e w3 => e = .returned (.tuple [].toArray) ∧
  R (.tuple [].toArray) w3) else False)) (fun J =>
  LoopV [(24, .int .i64)] (fun K => K (0 : Int) w1) (fun N => fun (x24 : Int) (w4 : World) =>
  cond (decide (x24 < ((s22.n : Nat) : Int))) (
  Join [] (fun (w5 : World) => N (IntKind.wrap .i64 (x24 + (1 : Int))) w5) (fun J_2 =>
  ∃ p26 : Pt, s22.a = some ⟨p26.b, p26.o, none⟩ ∧ 0 ≤ x24 ∧ x24 < ((s22.n : Nat) : Int) ∧ ∃ b27_0 : Bool, ∃ x27_1 : Int, ∃ s27_2 : Sl, rd w4 p26.b (p26.o + Int.toNat x24 * 3) [(.bool b27_0), (.int .i64 x27_1), (.slice s27_2.a s27_2.n s27_2.c)] ∧ Let (w4.alloc (.cells (zc Try.prog 54) 54)) fun w6 => 
  StoreOk w6 w4.heap.size 0 [(.bool b27_0), (.int .i64 x27_1), (.slice s27_2.a s27_2.n s27_2.c)] 3 ∧ Let (put w6 w4.heap.size 0 [(.bool b27_0), (.int .i64 x27_1), (.slice s27_2.a s27_2.n s27_2.c)]) fun w7 => 
  Join [(37, .bool)] (fun (b37 : Bool) (w8 : World) => cond b37 (
  R (.tuple [].toArray) w8) (
  J_2 w8)) (fun J_3 =>
  ∃ S1 : World → Prop, S1 w7.drew ∧ Let w7.drew fun w9 =>
  ∃ b29 : Bool, (∀ u, S1 u → World.cell? u ⟨w4.heap.size, (0 + 0), none⟩ = some (.bool b29)) ∧ cond b29 (∃ m31 : Option Nat, (∀ u, S1 u → World.cell? u ⟨p3.b, p3.o, none⟩ = some (.map m31)) ∧ ∃ cs32 : List Value, cs32.length = 8 ∧ (∀ u, S1 u → rd u w.heap.size 0 cs32) ∧ ∃ x34_0 : Int, ∃ s34_1 : Sl, (∀ u, S1 u → rd u w4.heap.size (0 + 1) [(.int .i64 x34_0), (.slice s34_1.a s34_1.n s34_1.c)]) ∧ Calls Try.prog 115 [(.agg cs32.toArray), (.agg [(.int .i64 x34_0), (.slice s34_1.a s34_1.n s34_1.c)].toArray)].toArray w9 (fun e_2 w10 => ∃ x35_0 : Int, ∃ x35_1 : Int, ∃ x35_2 : Int, e_2 = .returned (.agg [(.int .i64 x35_0), (.int .i64 x35_1), (.int .i64 x35_2)].toArray) ∧
  S1 w10 ∧ ∃ b36 : Bool, (∀ u, S1 u → Sem.run Try.prog (Instr.lookup 105 (.map m31) (.agg [(.int .i64 x35_0), (.int .i64 x35_1), (.int .i64 x35_2)].toArray) false) u = .ok (.bool b36) u) ∧ J_3 b36 w10)) (J_3 false w9)))) (
  J w4)))) (
  ∃ s43 : Sl, World.cell? w1 ⟨p2.b, (p2.o + 2), none⟩ = some (.slice s43.a s43.n s43.c) ∧ ∃ p45 : Pt, s43.a = some ⟨p45.b, p45.o, none⟩ ∧ 0 ≤ x0 ∧ x0 < ((s43.n : Nat) : Int) ∧ ∃ b46_0 : Bool, ∃ x46_1 : Int, ∃ s46_2 : Sl, rd w1 p45.b (p45.o + Int.toNat x0 * 3) [(.bool b46_0), (.int .i64 x46_1), (.slice s46_2.a s46_2.n s46_2.c)] ∧ Let (w1.alloc (.cells (zc Try.prog 54) 54)) fun w11 => 
  StoreOk w11 w1.heap.size 0 [(.bool b46_0), (.int .i64 x46_1), (.slice s46_2.a s46_2.n s46_2.c)] 3 ∧ Let (put w11 w1.heap.size 0 [(.bool b46_0), (.int .i64 x46_1), (.slice s46_2.a s46_2.n s46_2.c)]) fun w12 => 
  ∃ b48 : Bool, World.cell? w12 ⟨w1.heap.size, (0 + 0), none⟩ = some (.bool b48) ∧ cond b48 (
  ∃ (f49 : Nat) (c49 : List Value), World.cell? w12 ⟨p5.b, p5.o, none⟩ = some (.func (.func f49) #[] c49.toArray) ∧ ∃ cs52 : List Value, cs52.length = 8 ∧ rd w12 w.heap.size 0 cs52 ∧ (bif callable Try.prog f49 then Calls Try.prog f49 (([(.int .i64 (IntKind.wrap .i64 (x0 + (1 : Int)))), (.agg cs52.toArray)] : List Value) ++ c49).toArray w12 (fun e_3 w13 => e_3 = .returned (.tuple [].toArray) ∧
  R (.tuple [].toArray) w13) else False)) (
  ∃ m54 : Option Nat, World.cell? w12 ⟨p6.b, p6.o, none⟩ = some (.map m54) ∧ ∃ x57 : Int, World.cell? w12 ⟨w1.heap.size, ((0 + 1) + 0), none⟩ = some (.int .i64 x57) ∧ ∃ s58 : Sl, Sem.run Try.prog (Instr.lookup 191 (.map m54) (.int .i64 x57) false) w12 = .ok (.slice s58.a s58.n s58.c) w12 ∧ Join [] (fun (w14 : World) => R (.tuple [].toArray) w14) (fun J_4 =>
  LoopV [(60, .int .i64)] (fun K => K (0 : Int) w12) (fun N_2 => fun (x60 : Int) (w15 : World) =>
  cond (decide (x60 < ((s58.n : Nat) : Int))) (
  Join [] (fun (w16 : World) => N_2 (IntKind.wrap .i64 (x60 + (1 : Int))) w16) (fun J_5 =>
  ∃ p62 : Pt, s58.a = some ⟨p62.b, p62.o, none⟩ ∧ 0 ≤ x60 ∧ x60 < ((s58.n : Nat) : Int) ∧ ∃ x63_0 : Int, ∃ x63_1 : Int, ∃ x63_2 : Int, rd w15 p62.b (p62.o + Int.toNat x60 * 3) [(.int .i64 x63_0), (.int .i64 x63_1), (.int .i64 x63_2)] ∧ Let (w15.alloc (.cells (zc Try.prog 121) 121)) fun w17 => 
  StoreOk w17 w15.heap.size 0 [(.int .i64 x63_0), (.int .i64 x63_1), (.int .i64 x63_2)] 3 ∧ Let (put w17 w15.heap.size 0 [(.int .i64 x63_0), (.int .i64 x63_1), (.int .i64 x63_2)]) fun w18 => 
  ∃ cs65 : List Value, cs65.length = 8 ∧ rd w18 w.heap.size 0 cs65 ∧ ∃ x67_0 : Int, ∃ s67_1 : Sl, rd w18 w1.heap.size (0 + 1) [(.int .i64 x67_0), (.slice s67_1.a s67_1.n s67_1.c)] ∧ ∃ x68_0 : Int, ∃ x68_1 : Int, ∃ x68_2 : Int, rd w18 w15.heap.size 0 [(.int .i64 x68_0), (.int .i64 x68_1), (.int .i64 x68_2)] ∧ Calls Try.prog 128 [(.agg cs65.toArray), (.agg [(.int .i64 x67_0), (.slice s67_1.a s67_1.n s67_1.c)].toArray), (.agg [(.int .i64 x68_0), (.int .i64 x68_1), (.int .i64 x68_2)].toArray)].toArray w18 (fun e_4 w19 => ∃ cs69_0 : List Value, cs69_0.length = 8 ∧ ∃ b69_1 : Bool, e_4 = .returned (.tuple [(.agg cs69_0.toArray), (.bool b69_1)].toArray) ∧
  Let (w19.alloc (.cells (zc Try.prog 178) 178)) fun w20 => 
  StoreOk w20 w19.heap.size 0 cs69_0 8 ∧ Let (put w20 w19.heap.size 0 cs69_0) fun w21 => 
  Join [] (fun (w22 : World) => J_5 w22) (fun J_6 =>
  cond b69_1 (
  ∃ (f73 : Nat) (c73 : List Value), World.cell? w21 ⟨p5.b, p5.o, none⟩ = some (.func (.func f73) #[] c73.toArray) ∧ ∃ cs76 : List Value, cs76.length = 8 ∧ rd w21 w19.heap.size 0 cs76 ∧ (bif callable Try.prog f73 then Calls Try.prog f73 (([(.int .i64 (IntKind.wrap .i64 (x0 + (1 : Int)))), (.agg cs76.toArray)] : List Value) ++ c73).toArray w21 (fun e_5 w23 => e_5 = .returned (.tuple [].toArray) ∧
  J_6 w23) else False)) (
  J_6 w21))))) (
  J_4 w15)))))
theorem eq127 (x0 : Int) (cs1 : List Value) (p2 : Pt) (p3 : Pt) (p4 : Pt) (p5 : Pt) (p6 : Pt) (R : Value → World → Prop) (w : World) : funV Try.prog Try.f127 An127 [(.int .i64 x0), (.agg cs1.toArray), (.pointer (some ⟨p2.b, p2.o, none⟩)), (.pointer (some ⟨p3.b, p3.o, none⟩)), (.pointer (some ⟨p4.b, p4.o, none⟩)), (.pointer (some ⟨p5.b, p5.o, none⟩)), (.pointer (some ⟨p6.b, p6.o, none⟩))] R w = S127 x0 cs1 p2 p3 p4 p5 p6 R w := by kernel_rfl
theorem call127 (x0 : Int) (cs1 : List Value) (p2 : Pt) (p3 : Pt) (p4 : Pt) (p5 : Pt) (p6 : Pt) {R : Value → World → Prop} {w : World} (h : S127 x0 cs1 p2 p3 p4 p5 p6 R w) : Calls Try.prog 127 [(.int .i64 x0), (.agg cs1.toArray), (.pointer (some ⟨p2.b, p2.o, none⟩)), (.pointer (some ⟨p3.b, p3.o, none⟩)), (.pointer (some ⟨p4.b, p4.o, none⟩)), (.pointer (some ⟨p5.b, p5.o, none⟩)), (.pointer (some ⟨p6.b, p6.o, none⟩))].toArray w fun e w' => ∃ v, e = .returned v ∧ R v w' :=
  funV_calls mixed Try.func127 (an := An127) (by rw [eq127]; exact h)

/-- F113: (cubeb/rules.Rule).instances -/
def An113 : An := (.sq .lf (.sq .lf (.sq (.sq .lf (.bk [] (.lp [] (.sq .lf (.sq (.cd .lf .lf) (.bk [] (.sq (.lf [(0, 121, 4)]) (.dr [0, 1, 2, 3, 4, 5, 6, 7, 8, 9, 10] [10] true none)))))))) (.sq .lf (.sq .lf .lf)))))
def S113 (x0_0 : Int) (s0_1 : Sl) (s0_2 : Sl) (m1 : Option Nat) (m2 : Option Nat) (f3 : Nat) (c3 : List Value) (R : Value → World → Prop) (w : World) : Prop :=
  Let (w.alloc (.cells [(.int .i64 x0_0), (.slice s0_1.a s0_1.n s0_1.c), (.slice s0_2.a s0_2.n s0_2.c)].toArray 52)) fun w1 => 
  Let (w1.alloc (.cells [(.map m2)].toArray 105)) fun w2 => 
  Let (w2.alloc (.cells [(.func (.func f3) #[] c3.toArray)].toArray 180)) fun w3 => 
  Let (w3.alloc (.map #[] 0)) fun w4 => 
  Let (w4.alloc (.cells (zc Try.prog 191) 191)) fun w5 => 
  StoreOk w5 w4.heap.size 0 [(.map (some w3.heap.size))] 1 ∧ Let (put w5 w4.heap.size 0 [(.map (some w3.heap.size))]) fun w6 => 
  ∃ (p13 : Pt) (w7 : World), Sem.run Try.prog (Instr.range 105 (.map m1)) w6 = .ok (.pointer (some ⟨p13.b, p13.o, none⟩)) w7 ∧
  Join [] (fun (w8 : World) => Let (w8.alloc (.cells (zc Try.prog 192) 192)) fun w9 => 
  StoreOk w9 w8.heap.size 0 [(.func (.func 127) #[] [(.pointer (some ⟨w.heap.size, 0, none⟩)), (.pointer (some ⟨w1.heap.size, 0, none⟩)), (.pointer (some ⟨w2.heap.size, 0, none⟩)), (.pointer (some ⟨w8.heap.size, 0, none⟩)), (.pointer (some ⟨w4.heap.size, 0, none⟩))].toArray)] 1 ∧ Let (put w9 w8.heap.size 0 [(.func (.func 127) #[] [(.pointer (some ⟨w.heap.size, 0, none⟩)), (.pointer (some ⟨w1.heap.size, 0, none⟩)), (.pointer (some ⟨w2.heap.size, 0, none⟩)), (.pointer (some ⟨w8.heap.size, 0, none⟩)), (.pointer (some ⟨w4.heap.size, 0, none⟩))].toArray)]) fun w10 => 
  ∃ (f29 : Nat) (c29 : List Value), World.cell? w10 ⟨w8.heap.size, 0, none⟩ = some (.func (.func f29) #[] c29.toArray) ∧ (bif callable Try.prog f29 then Calls Try.prog f29 (([(.int .i64 (0 : Int)), (.agg [(.int .i64 (0 : Int)), (.int .i64 (0 : Int)), (.int .i64 (0 : Int)), (.int .i64 (0 : Int)), (.int .i64 (0 : Int)), (.int .i64 (0 : Int)), (.int .i64 (0 : Int)), (.int .i64 (0 : Int))].toArray)] : List Value) ++ c29).toArray w10 (fun e w11 => e = .returned (.tuple [].toArray) ∧
  R (.tuple [].toArray) w11) else False)) (fun J =>
  LoopV [] (fun K => K w7) (fun N => fun (w12 : World) =>
  ∃ (b14 : Bool) (kv14 : List Value) (w13 : World), Sem.run Try.prog (Instr.next (.pointer (some ⟨p13.b, p13.o, none⟩)) false 0) w12 = .ok (.tuple (Value.bool b14 :: kv14).toArray) w13 ∧
  cond b14 (
  Join [] (fun (w14 : World) => N w14) (fun J_2 =>
  ∃ x16_k_0 : Int, ∃ x16_k_1 : Int, ∃ x16_k_2 : Int, ∃ b16_v : Bool, Sem.run Try.prog (Instr.entry (.pointer (some ⟨p13.b, p13.o, none⟩))) w13 = .ok (.tuple #[(.agg [(.int .i64 x16_k_0), (.int .i64 x16_k_1), (.int .i64 x16_k_2)].toArray), (.bool b16_v)]) w13 ∧ Let (w13.alloc (.cells (zc Try.prog 121) 121)) fun w15 => 
  StoreOk w15 w13.heap.size 0 [(.int .i64 x16_k_0), (.int .i64 x16_k_1), (.int .i64 x16_k_2)] 3 ∧ Let (put w15 w13.heap.size 0 [(.int .i64 x16_k_0), (.int .i64 x16_k_1), (.int .i64 x16_k_2)]) fun w16 => 
  ∃ S1 : World → Prop, S1 w16.drew ∧ Let w16.drew fun w17 =>
  ∃ m18 : Option Nat, (∀ u, S1 u → World.cell? u ⟨w4.heap.size, 0, none⟩ = some (.map m18)) ∧ ∃ x20 : Int, (∀ u, S1 u → World.cell? u ⟨w13.heap.size, (0 + 0), none⟩ = some (.int .i64 x20)) ∧ ∃ m21 : Option Nat, (∀ u, S1 u → World.cell? u ⟨w4.heap.size, 0, none⟩ = some (.map m21)) ∧ ∃ x23 : Int, (∀ u, S1 u → World.cell? u ⟨w13.heap.size, (0 + 0), none⟩ = some (.int .i64 x23)) ∧ ∃ s24 : Sl, (∀ u, S1 u → Sem.run Try.prog (Instr.lookup 191 (.map m21) (.int .i64 x23) false) u = .ok (.slice s24.a s24.n s24.c) u) ∧ ∃ x25_0 : Int, ∃ x25_1 : Int, ∃ x25_2 : Int, (∀ u, S1 u → rd u w13.heap.size 0 [(.int .i64 x25_0), (.int .i64 x25_1), (.int .i64 x25_2)]) ∧ ∃ (s26 : Sl) (w18 : World), Sem.run Try.prog (Instr.buildSlice 150 1 [(0, (.agg [(.int .i64 x25_0), (.int .i64 x25_1), (.int .i64 x25_2)].toArray))].toArray) w17 = .ok (.slice s26.a s26.n s26.c) w18 ∧
  S1 w18 ∧ ∃ (s27 : Sl) (w19 : World), Sem.run Try.prog (Builtin.append_ #[150, 150] 150 #[(.slice s24.a s24.n s24.c), (.slice s26.a s26.n s26.c)]) w18 = .ok (.slice s27.a s27.n s27.c) w19 ∧
  S1 w19 ∧ ∃ w20 : World, Sem.run Try.prog (Instr.mapUpdate 191 (.map m18) (.int .i64 x20) (.slice s27.a s27.n s27.c)) w19 = .ok () w20 ∧
  J_2 w20)) (
  J w13)))
theorem eq113 (x0_0 : Int) (s0_1 : Sl) (s0_2 : Sl) (m1 : Option Nat) (m2 : Option Nat) (f3 : Nat) (c3 : List Value) (R : Value → World → Prop) (w : World) : funV Try.prog Try.f113 An113 [(.agg [(.int .i64 x0_0), (.slice s0_1.a s0_1.n s0_1.c), (.slice s0_2.a s0_2.n s0_2.c)].toArray), (.map m1), (.map m2), (.func (.func f3) #[] c3.toArray)] R w = S113 x0_0 s0_1 s0_2 m1 m2 f3 c3 R w := by kernel_rfl
theorem call113 (x0_0 : Int) (s0_1 : Sl) (s0_2 : Sl) (m1 : Option Nat) (m2 : Option Nat) (f3 : Nat) (c3 : List Value) {R : Value → World → Prop} {w : World} (h : S113 x0_0 s0_1 s0_2 m1 m2 f3 c3 R w) : Calls Try.prog 113 [(.agg [(.int .i64 x0_0), (.slice s0_1.a s0_1.n s0_1.c), (.slice s0_2.a s0_2.n s0_2.c)].toArray), (.map m1), (.map m2), (.func (.func f3) #[] c3.toArray)].toArray w fun e w' => ∃ v, e = .returned v ∧ R v w' :=
  funV_calls mixed Try.func113 (an := An113) (by rw [eq113]; exact h)

/-- F114: cubeb/rules.consequences$1 -/
def An114 : An := (.sq .lf (.sq .lf (.sq .lf (.cj [] .lf .lf))))
def S114 (cs0 : List Value) (p1 : Pt) (p2 : Pt) (p3 : Pt) (R : Value → World → Prop) (w : World) : Prop :=
  Let (w.alloc (.cells cs0.toArray 178)) fun w1 => 
  ∃ cs6 : List Value, cs6.length = 8 ∧ rd w1 w.heap.size 0 cs6 ∧ ∃ x8_0 : Int, ∃ s8_1 : Sl, rd w1 p1.b (p1.o + 0) [(.int .i64 x8_0), (.slice s8_1.a s8_1.n s8_1.c)] ∧ Calls Try.prog 115 [(.agg cs6.toArray), (.agg [(.int .i64 x8_0), (.slice s8_1.a s8_1.n s8_1.c)].toArray)].toArray w1 (fun e w2 => ∃ x9_0 : Int, ∃ x9_1 : Int, ∃ x9_2 : Int, e = .returned (.agg [(.int .i64 x9_0), (.int .i64 x9_1), (.int .i64 x9_2)].toArray) ∧
  Let (w2.alloc (.cells (zc Try.prog 121) 121)) fun w3 => 
  StoreOk w3 w2.heap.size 0 [(.int .i64 x9_0), (.int .i64 x9_1), (.int .i64 x9_2)] 3 ∧ Let (put w3 w2.heap.size 0 [(.int .i64 x9_0), (.int .i64 x9_1), (.int .i64 x9_2)]) fun w4 => 
  ∃ m10 : Option Nat, World.cell? w4 ⟨p2.b, p2.o, none⟩ = some (.map m10) ∧ ∃ x11_0 : Int, ∃ x11_1 : Int, ∃ x11_2 : Int, rd w4 w2.heap.size 0 [(.int .i64 x11_0), (.int .i64 x11_1), (.int .i64 x11_2)] ∧ ∃ b12 : Bool, Sem.run Try.prog (Instr.lookup 105 (.map m10) (.agg [(.int .i64 x11_0), (.int .i64 x11_1), (.int .i64 x11_2)].toArray) false) w4 = .ok (.bool b12) w4 ∧ Join [] (fun (w5 : World) => R (.tuple [].toArray) w5) (fun J =>
  cond (!b12) (
  ∃ s14 : Sl, World.cell? w4 ⟨p3.b, p3.o, none⟩ = some (.slice s14.a s14.n s14.c) ∧ ∃ x15_0 : Int, ∃ x15_1 : Int, ∃ x15_2 : Int, rd w4 w2.heap.size 0 [(.int .i64 x15_0), (.int .i64 x15_1), (.int .i64 x15_2)] ∧ ∃ (s16 : Sl) (w6 : World), Sem.run Try.prog (Instr.buildSlice 150 1 [(0, (.agg [(.int .i64 x15_0), (.int .i64 x15_1), (.int .i64 x15_2)].toArray))].toArray) w4 = .ok (.slice s16.a s16.n s16.c) w6 ∧
  ∃ (s17 : Sl) (w7 : World), Sem.run Try.prog (Builtin.append_ #[150, 150] 150 #[(.slice s14.a s14.n s14.c), (.slice s16.a s16.n s16.c)]) w6 = .ok (.slice s17.a s17.n s17.c) w7 ∧
  StoreOk w7 p3.b p3.o [(.slice s17.a s17.n s17.c)] 1 ∧ Let (put w7 p3.b p3.o [(.slice s17.a s17.n s17.c)]) fun w8 => 
  J w8) (
  J w4)))
theorem eq114 (cs0 : List Value) (p1 : Pt) (p2 : Pt) (p3 : Pt) (R : Value → World → Prop) (w : World) : funV Try.prog Try.f114 An114 [(.agg cs0.toArray), (.pointer (some ⟨p1.b, p1.o, none⟩)), (.pointer (some ⟨p2.b, p2.o, none⟩)), (.pointer (some ⟨p3.b, p3.o, none⟩))] R w = S114 cs0 p1 p2 p3 R w := by kernel_rfl
theorem call114 (cs0 : List Value) (p1 : Pt) (p2 : Pt) (p3 : Pt) {R : Value → World → Prop} {w : World} (h : S114 cs0 p1 p2 p3 R w) : Calls Try.prog 114 [(.agg cs0.toArray), (.pointer (some ⟨p1.b, p1.o, none⟩)), (.pointer (some ⟨p2.b, p2.o, none⟩)), (.pointer (some ⟨p3.b, p3.o, none⟩))].toArray w fun e w' => ∃ v, e = .returned v ∧ R v w' :=
  funV_calls mixed Try.func114 (an := An114) (by rw [eq114]; exact h)

/-- F68: cubeb/rules.consequences -/
def An68 : An := (.sq .lf (.sq .lf (.sq (.sq .lf (.bk [] (.lp [] (.sq .lf (.sq (.cd .lf .lf) (.bk [] (.sq (.lf [(0, 121, 4)]) .lf))))))) (.sq (.sq .lf (.bk [] (.lp [(9, .bool)] (.sq (.sq .lf (.cd .lf .lf)) (.bk [(9, .bool)] (.sq .lf (.sq (.sq .lf (.bk [] (.lp [(27, .int .i64)] (.sq .lf (.sq (.cd .lf .lf) (.sq (.bk [] (.sq .lf .lf)) .lf)))))) (.sq (.sq .lf (.bk [] (.lp [(39, .int .i64)] (.sq .lf (.sq (.cd .lf .lf) (.sq (.bk [] (.sq .lf .lf)) .lf)))))) .lf)))))))) (.sq .lf .lf)))))
def S68 (s0 : Sl) (m1 : Option Nat) (m2 : Option Nat) (R : Value → World → Prop) (w : World) : Prop :=
  Let (w.alloc (.map #[] 0)) fun w1 => 
  Let (w1.alloc (.cells (zc Try.prog 105) 105)) fun w2 => 
  StoreOk w2 w1.heap.size 0 [(.map (some w.heap.size))] 1 ∧ Let (put w2 w1.heap.size 0 [(.map (some w.heap.size))]) fun w3 => 
  ∃ (p17 : Pt) (w4 : World), Sem.run Try.prog (Instr.range 105 (.map m1)) w3 = .ok (.pointer (some ⟨p17.b, p17.o, none⟩)) w4 ∧
  Join [] (fun (w5 : World) => Join [] (fun (w6 : World) => ∃ m49 : Option Nat, World.cell? w6 ⟨w1.heap.size, 0, none⟩ = some (.map m49) ∧ R (.map m49) w6) (fun J =>
  LoopV [(9, .bool)] (fun K => K true w5) (fun N => fun (b9 : Bool) (w7 : World) =>
  cond b9 (
  Join [(9, .bool)] (fun (b9_2 : Bool) (w8 : World) => N b9_2 w8) (fun J_2 =>
  Let (w7.alloc (.cells (zc Try.prog 150) 150)) fun w9 => 
  Join [] (fun (w10 : World) => ∃ s37 : Sl, World.cell? w10 ⟨w7.heap.size, 0, none⟩ = some (.slice s37.a s37.n s37.c) ∧ Join [] (fun (w11 : World) => ∃ s46 : Sl, World.cell? w11 ⟨w7.heap.size, 0, none⟩ = some (.slice s46.a s46.n s46.c) ∧ J_2 (decide (((s46.n : Nat) : Int) > (0 : Int))) w11) (fun J_3 =>
  LoopV [(39, .int .i64)] (fun K => K (0 : Int) w10) (fun N_2 => fun (x39 : Int) (w12 : World) =>
  cond (decide (x39 < ((s37.n : Nat) : Int))) (
  Join [] (fun (w13 : World) => N_2 (IntKind.wrap .i64 (x39 + (1 : Int))) w13) (fun J_4 =>
  ∃ p41 : Pt, s37.a = some ⟨p41.b, p41.o, none⟩ ∧ 0 ≤ x39 ∧ x39 < ((s37.n : Nat) : Int) ∧ ∃ x42_0 : Int, ∃ x42_1 : Int, ∃ x42_2 : Int, rd w12 p41.b (p41.o + Int.toNat x39 * 3) [(.int .i64 x42_0), (.int .i64 x42_1), (.int .i64 x42_2)] ∧ Let (w12.alloc (.cells (zc Try.prog 121) 121)) fun w14 => 
  StoreOk w14 w12.heap.size 0 [(.int .i64 x42_0), (.int .i64 x42_1), (.int .i64 x42_2)] 3 ∧ Let (put w14 w12.heap.size 0 [(.int .i64 x42_0), (.int .i64 x42_1), (.int .i64 x42_2)]) fun w15 => 
  ∃ m43 : Option Nat, World.cell? w15 ⟨w1.heap.size, 0, none⟩ = some (.map m43) ∧ ∃ x44_0 : Int, ∃ x44_1 : Int, ∃ x44_2 : Int, rd w15 w12.heap.size 0 [(.int .i64 x44_0), (.int .i64 x44_1), (.int .i64 x44_2)] ∧ ∃ w16 : World, Sem.run Try.prog (Instr.mapUpdate 105 (.map m43) (.agg [(.int .i64 x44_0), (.int .i64 x44_1), (.int .i64 x44_2)].toArray) (.bool true)) w15 = .ok () w16 ∧
  J_4 w16)) (
  J_3 w12)))) (fun J_5 =>
  LoopV [(27, .int .i64)] (fun K => K (0 : Int) w9) (fun N_3 => fun (x27 : Int) (w17 : World) =>
  cond (decide (x27 < ((s0.n : Nat) : Int))) (
  Join [] (fun (w18 : World) => N_3 (IntKind.wrap .i64 (x27 + (1 : Int))) w18) (fun J_6 =>
  ∃ p29 : Pt, s0.a = some ⟨p29.b, p29.o, none⟩ ∧ 0 ≤ x27 ∧ x27 < ((s0.n : Nat) : Int) ∧ ∃ x30_0 : Int, ∃ s30_1 : Sl, ∃ s30_2 : Sl, rd w17 p29.b (p29.o + Int.toNat x27 * 3) [(.int .i64 x30_0), (.slice s30_1.a s30_1.n s30_1.c), (.slice s30_2.a s30_2.n s30_2.c)] ∧ Let (w17.alloc (.cells (zc Try.prog 52) 52)) fun w19 => 
  StoreOk w19 w17.heap.size 0 [(.int .i64 x30_0), (.slice s30_1.a s30_1.n s30_1.c), (.slice s30_2.a s30_2.n s30_2.c)] 3 ∧ Let (put w19 w17.heap.size 0 [(.int .i64 x30_0), (.slice s30_1.a s30_1.n s30_1.c), (.slice s30_2.a s30_2.n s30_2.c)]) fun w20 => 
  ∃ x31_0 : Int, ∃ s31_1 : Sl, ∃ s31_2 : Sl, rd w20 w17.heap.size 0 [(.int .i64 x31_0), (.slice s31_1.a s31_1.n s31_1.c), (.slice s31_2.a s31_2.n s31_2.c)] ∧ ∃ m32 : Option Nat, World.cell? w20 ⟨w1.heap.size, 0, none⟩ = some (.map m32) ∧ Calls Try.prog 113 [(.agg [(.int .i64 x31_0), (.slice s31_1.a s31_1.n s31_1.c), (.slice s31_2.a s31_2.n s31_2.c)].toArray), (.map m32), (.map m2), (.func (.func 114) #[] [(.pointer (some ⟨w17.heap.size, 0, none⟩)), (.pointer (some ⟨w1.heap.size, 0, none⟩)), (.pointer (some ⟨w7.heap.size, 0, none⟩))].toArray)].toArray w20 (fun e w21 => e = .returned (.tuple [].toArray) ∧
  J_6 w21))) (
  J_5 w17))))) (
  J w7)))) (fun J_7 =>
  LoopV [] (fun K => K w4) (fun N_4 => fun (w22 : World) =>
  ∃ (b18 : Bool) (kv18 : List Value) (w23 : World), Sem.run Try.prog (Instr.next (.pointer (some ⟨p17.b, p17.o, none⟩)) false 0) w22 = .ok (.tuple (Value.bool b18 :: kv18).toArray) w23 ∧
  cond b18 (
  Join [] (fun (w24 : World) => N_4 w24) (fun J_8 =>
  ∃ x20_k_0 : Int, ∃ x20_k_1 : Int, ∃ x20_k_2 : Int, ∃ b20_v : Bool, Sem.run Try.prog (Instr.entry (.pointer (some ⟨p17.b, p17.o, none⟩))) w23 = .ok (.tuple #[(.agg [(.int .i64 x20_k_0), (.int .i64 x20_k_1), (.int .i64 x20_k_2)].toArray), (.bool b20_v)]) w23 ∧ Let (w23.alloc (.cells (zc Try.prog 121) 121)) fun w25 => 
  StoreOk w25 w23.heap.size 0 [(.int .i64 x20_k_0), (.int .i64 x20_k_1), (.int .i64 x20_k_2)] 3 ∧ Let (put w25 w23.heap.size 0 [(.int .i64 x20_k_0), (.int .i64 x20_k_1), (.int .i64 x20_k_2)]) fun w26 => 
  ∃ m22 : Option Nat, World.cell? w26 ⟨w1.heap.size, 0, none⟩ = some (.map m22) ∧ ∃ x23_0 : Int, ∃ x23_1 : Int, ∃ x23_2 : Int, rd w26 w23.heap.size 0 [(.int .i64 x23_0), (.int .i64 x23_1), (.int .i64 x23_2)] ∧ ∃ w27 : World, Sem.run Try.prog (Instr.mapUpdate 105 (.map m22) (.agg [(.int .i64 x23_0), (.int .i64 x23_1), (.int .i64 x23_2)].toArray) (.bool true)) w26 = .ok () w27 ∧
  J_8 w27)) (
  J_7 w23)))
theorem eq68 (s0 : Sl) (m1 : Option Nat) (m2 : Option Nat) (R : Value → World → Prop) (w : World) : funV Try.prog Try.f68 An68 [(.slice s0.a s0.n s0.c), (.map m1), (.map m2)] R w = S68 s0 m1 m2 R w := by kernel_rfl
theorem call68 (s0 : Sl) (m1 : Option Nat) (m2 : Option Nat) {R : Value → World → Prop} {w : World} (h : S68 s0 m1 m2 R w) : Calls Try.prog 68 [(.slice s0.a s0.n s0.c), (.map m1), (.map m2)].toArray w fun e w' => ∃ v, e = .returned v ∧ R v w' :=
  funV_calls mixed Try.func68 (an := An68) (by rw [eq68]; exact h)

/-- F67: cubeb/rules.given -/
def An67 : An := (.sq .lf (.sq .lf (.sq (.sq .lf (.bk [] (.lp [(9, .int .i64)] (.sq .lf (.sq (.cd .lf .lf) (.sq (.bk [] (.sq .lf .lf)) .lf)))))) (.sq .lf .lf))))
def S67 (s0 : Sl) (R : Value → World → Prop) (w : World) : Prop :=
  Let (w.alloc (.map #[] 0)) fun w1 => 
  Join [] (fun (w2 : World) => R (.map (some w.heap.size)) w2) (fun J =>
  LoopV [(9, .int .i64)] (fun K => K (0 : Int) w1) (fun N => fun (x9 : Int) (w3 : World) =>
  cond (decide (x9 < ((s0.n : Nat) : Int))) (
  Join [] (fun (w4 : World) => N (IntKind.wrap .i64 (x9 + (1 : Int))) w4) (fun J_2 =>
  ∃ p11 : Pt, s0.a = some ⟨p11.b, p11.o, none⟩ ∧ 0 ≤ x9 ∧ x9 < ((s0.n : Nat) : Int) ∧ ∃ x12_0 : Int, ∃ s12_1 : Sl, rd w3 p11.b (p11.o + Int.toNat x9 * 2) [(.int .i64 x12_0), (.slice s12_1.a s12_1.n s12_1.c)] ∧ Let (w3.alloc (.cells (zc Try.prog 36) 36)) fun w5 => 
  StoreOk w5 w3.heap.size 0 [(.int .i64 x12_0), (.slice s12_1.a s12_1.n s12_1.c)] 2 ∧ Let (put w5 w3.heap.size 0 [(.int .i64 x12_0), (.slice s12_1.a s12_1.n s12_1.c)]) fun w6 => 
  ∃ x14_0 : Int, ∃ s14_1 : Sl, rd w6 w3.heap.size 0 [(.int .i64 x14_0), (.slice s14_1.a s14_1.n s14_1.c)] ∧ Calls Try.prog 80 [(.agg [(.int .i64 x14_0), (.slice s14_1.a s14_1.n s14_1.c)].toArray)].toArray w6 (fun e w7 => ∃ x15_0 : Int, ∃ x15_1 : Int, ∃ x15_2 : Int, e = .returned (.agg [(.int .i64 x15_0), (.int .i64 x15_1), (.int .i64 x15_2)].toArray) ∧
  ∃ w8 : World, Sem.run Try.prog (Instr.mapUpdate 105 (.map (some w.heap.size)) (.agg [(.int .i64 x15_0), (.int .i64 x15_1), (.int .i64 x15_2)].toArray) (.bool true)) w7 = .ok () w8 ∧
  J_2 w8))) (
  J w3)))
theorem eq67 (s0 : Sl) (R : Value → World → Prop) (w : World) : funV Try.prog Try.f67 An67 [(.slice s0.a s0.n s0.c)] R w = S67 s0 R w := by kernel_rfl
theorem call67 (s0 : Sl) {R : Value → World → Prop} {w : World} (h : S67 s0 R w) : Calls Try.prog 67 [(.slice s0.a s0.n s0.c)].toArray w fun e w' => ∃ v, e = .returned v ∧ R v w' :=
  funV_calls mixed Try.func67 (an := An67) (by rw [eq67]; exact h)

/-- F57: (cubeb/rules.set).list -/
def An57 : An := (.sq .lf (.sq .lf (.sq (.sq .lf (.bk [(3, .slice)] (.lp [(3, .slice)] (.sq .lf (.sq (.cd .lf .lf) (.bk [(3, .slice)] (.sq (.lf [(0, 121, 4)]) .lf))))))) (.sq .lf (.sq .lf .lf)))))
def S57 (m0 : Option Nat) (R : Value → World → Prop) (w : World) : Prop :=
  ∃ (p6 : Pt) (w1 : World), Sem.run Try.prog (Instr.range 105 (.map m0)) w = .ok (.pointer (some ⟨p6.b, p6.o, none⟩)) w1 ∧
  Join [(3, .slice)] (fun (s3 : Sl) (w2 : World) => Calls Try.prog 108 [(.slice s3.a s3.n s3.c), (.func (.func 109) #[] [].toArray)].toArray w2 (fun e w3 => e = .returned (.tuple [].toArray) ∧
  R (.slice s3.a s3.n s3.c) w3)) (fun J =>
  LoopV [(3, .slice)] (fun K => K ⟨none, 0, 0⟩ w1) (fun N => fun (s3_2 : Sl) (w4 : World) =>
  ∃ (b7 : Bool) (kv7 : List Value) (w5 : World), Sem.run Try.prog (Instr.next (.pointer (some ⟨p6.b, p6.o, none⟩)) false 0) w4 = .ok (.tuple (Value.bool b7 :: kv7).toArray) w5 ∧
  cond b7 (
  Join [(3, .slice)] (fun (s3_3 : Sl) (w6 : World) => N ⟨s3_3.a, s3_3.n, s3_3.c⟩ w6) (fun J_2 =>
  ∃ x9_k_0 : Int, ∃ x9_k_1 : Int, ∃ x9_k_2 : Int, ∃ b9_v : Bool, Sem.run Try.prog (Instr.entry (.pointer (some ⟨p6.b, p6.o, none⟩))) w5 = .ok (.tuple #[(.agg [(.int .i64 x9_k_0), (.int .i64 x9_k_1), (.int .i64 x9_k_2)].toArray), (.bool b9_v)]) w5 ∧ Let (w5.alloc (.cells (zc Try.prog 121) 121)) fun w7 => 
  StoreOk w7 w5.heap.size 0 [(.int .i64 x9_k_0), (.int .i64 x9_k_1), (.int .i64 x9_k_2)] 3 ∧ Let (put w7 w5.heap.size 0 [(.int .i64 x9_k_0), (.int .i64 x9_k_1), (.int .i64 x9_k_2)]) fun w8 => 
  ∃ x12_0 : Int, ∃ x12_1 : Int, ∃ x12_2 : Int, rd w8 w5.heap.size 0 [(.int .i64 x12_0), (.int .i64 x12_1), (.int .i64 x12_2)] ∧ Calls Try.prog 107 [(.agg [(.int .i64 x12_0), (.int .i64 x12_1), (.int .i64 x12_2)].toArray)].toArray w8 (fun e_2 w9 => ∃ x13_0 : Int, ∃ s13_1 : Sl, e_2 = .returned (.agg [(.int .i64 x13_0), (.slice s13_1.a s13_1.n s13_1.c)].toArray) ∧
  ∃ (s14 : Sl) (w10 : World), Sem.run Try.prog (Instr.buildSlice 23 1 [(0, (.agg [(.int .i64 x13_0), (.slice s13_1.a s13_1.n s13_1.c)].toArray))].toArray) w9 = .ok (.slice s14.a s14.n s14.c) w10 ∧
  ∃ (s15 : Sl) (w11 : World), Sem.run Try.prog (Builtin.append_ #[23, 23] 23 #[(.slice s3_2.a s3_2.n s3_2.c), (.slice s14.a s14.n s14.c)]) w10 = .ok (.slice s15.a s15.n s15.c) w11 ∧
  J_2 ⟨s15.a, s15.n, s15.c⟩ w11))) (
  J ⟨s3_2.a, s3_2.n, s3_2.c⟩ w5)))
theorem eq57 (m0 : Option Nat) (R : Value → World → Prop) (w : World) : funV Try.prog Try.f57 An57 [(.map m0)] R w = S57 m0 R w := by kernel_rfl
theorem call57 (m0 : Option Nat) {R : Value → World → Prop} {w : World} (h : S57 m0 R w) : Calls Try.prog 57 [(.map m0)].toArray w fun e w' => ∃ v, e = .returned v ∧ R v w' :=
  funV_calls mixed Try.func57 (an := An57) (by rw [eq57]; exact h)

/-- F84: cubeb/rules.strata -/
def An84 : An := (.sq .lf (.sq .lf (.sq .lf (.bk [(2, .slice), (3, .bool)] (.lp [(5, .int .i64)] (.sq (.bk [] (.sq .lf (.sq (.sq .lf (.bk [(6, .bool)] (.lp [(6, .bool), (17, .int .i64)] (.sq .lf (.sq (.cd .lf .lf) (.sq (.bk [(6, .bool)] (.sq .lf (.sq .lf (.bk [(6, .bool)] (.lp [(6, .bool), (24, .int .i64)] (.sq .lf (.sq (.cd .lf .lf) (.sq (.bk [(6, .bool)] (.sq .lf (.sq .lf (.sq (.sq .lf (.cj [(11, .int .i64)] .lf .lf)) (.sq .lf (.cj [(6, .bool)] (.sq .lf .lf) .lf)))))) .lf)))))))) .lf)))))) (.sq (.sq .lf (.cd (.sq .lf .lf) .lf)) (.sq .lf (.cd (.sq .lf .lf) .lf)))))) .lf))))))
def S84 (s0 : Sl) (R : Value → World → Prop) (w : World) : Prop :=
  ∃ (s12 : Sl) (w1 : World), Sem.run Try.prog (Instr.makeSlice 34 (.int .i64 (6 : Int)) (.int .i64 (6 : Int))) w = .ok (.slice s12.a s12.n s12.c) w1 ∧
  Join [(2, .slice), (3, .bool)] (fun (s2 : Sl) (b3 : Bool) (w2 : World) => R (.tuple [(.slice s2.a s2.n s2.c), (.bool b3)].toArray) w2) (fun J =>
  LoopV [(5, .int .i64)] (fun K => K (0 : Int) w1) (fun N => fun (x5 : Int) (w3 : World) =>
  Join [] (fun (w4 : World) => N (IntKind.wrap .i64 (x5 + (1 : Int))) w4) (fun J_2 =>
  Join [(6, .bool)] (fun (b6 : Bool) (w5 : World) => cond (!b6) (
  R (.tuple [(.slice s12.a s12.n s12.c), (.bool true)].toArray) w5) (
  Calls Try.prog 106 [(.slice s12.a s12.n s12.c)].toArray w5 (fun e w6 => ∃ x58 : Int, e = .returned (.int .i64 x58) ∧
  cond (decide (x58 > (6 : Int))) (
  R (.tuple [(.slice none 0 0), (.bool false)].toArray) w6) (
  J_2 w6)))) (fun J_3 =>
  LoopV [(6, .bool), (17, .int .i64)] (fun K => K false (0 : Int) w3) (fun N_2 => fun (b6_2 : Bool) (x17 : Int) (w7 : World) =>
  cond (decide (x17 < ((s0.n : Nat) : Int))) (
  Join [(6, .bool)] (fun (b6_3 : Bool) (w8 : World) => N_2 b6_3 (IntKind.wrap .i64 (x17 + (1 : Int))) w8) (fun J_4 =>
  ∃ p19 : Pt, s0.a = some ⟨p19.b, p19.o, none⟩ ∧ 0 ≤ x17 ∧ x17 < ((s0.n : Nat) : Int) ∧ ∃ x20_0 : Int, ∃ s20_1 : Sl, ∃ s20_2 : Sl, rd w7 p19.b (p19.o + Int.toNat x17 * 3) [(.int .i64 x20_0), (.slice s20_1.a s20_1.n s20_1.c), (.slice s20_2.a s20_2.n s20_2.c)] ∧ Let (w7.alloc (.cells (zc Try.prog 52) 52)) fun w9 => 
  StoreOk w9 w7.heap.size 0 [(.int .i64 x20_0), (.slice s20_1.a s20_1.n s20_1.c), (.slice s20_2.a s20_2.n s20_2.c)] 3 ∧ Let (put w9 w7.heap.size 0 [(.int .i64 x20_0), (.slice s20_1.a s20_1.n s20_1.c), (.slice s20_2.a s20_2.n s20_2.c)]) fun w10 => 
  ∃ s22 : Sl, World.cell? w10 ⟨w7.heap.size, (0 + 2), none⟩ = some (.slice s22.a s22.n s22.c) ∧ Join [(6, .bool)] (fun (b6_4 : Bool) (w11 : World) => J_4 b6_4 w11) (fun J_5 =>
  LoopV [(6, .bool), (24, .int .i64)] (fun K => K b6_2 (0 : Int) w10) (fun N_3 => fun (b6_5 : Bool) (x24 : Int) (w12 : World) =>
  cond (decide (x24 < ((s22.n : Nat) : Int))) (
  Join [(6, .bool)] (fun (b6_6 : Bool) (w13 : World) => N_3 b6_6 (IntKind.wrap .i64 (x24 + (1 : Int))) w13) (fun J_6 =>
  ∃ p26 : Pt, s22.a = some ⟨p26.b, p26.o, none⟩ ∧ 0 ≤ x24 ∧ x24 < ((s22.n : Nat) : Int) ∧ ∃ b27_0 : Bool, ∃ x27_1 : Int, ∃ s27_2 : Sl, rd w12 p26.b (p26.o + Int.toNat x24 * 3) [(.bool b27_0), (.int .i64 x27_1), (.slice s27_2.a s27_2.n s27_2.c)] ∧ Let (w12.alloc (.cells (zc Try.prog 54) 54)) fun w14 => 
  StoreOk w14 w12.heap.size 0 [(.bool b27_0), (.int .i64 x27_1), (.slice s27_2.a s27_2.n s27_2.c)] 3 ∧ Let (put w14 w12.heap.size 0 [(.bool b27_0), (.int .i64 x27_1), (.slice s27_2.a s27_2.n s27_2.c)]) fun w15 => 
  ∃ x31 : Int, World.cell? w15 ⟨w12.heap.size, ((0 + 1) + 0), none⟩ = some (.int .i64 x31) ∧ ∃ p32 : Pt, s12.a = some ⟨p32.b, p32.o, none⟩ ∧ 0 ≤ x31 ∧ x31 < ((s12.n : Nat) : Int) ∧ ∃ x33 : Int, World.cell? w15 ⟨p32.b, (p32.o + Int.toNat x31 * 1), none⟩ = some (.int .i64 x33) ∧ ∃ b35 : Bool, World.cell? w15 ⟨w12.heap.size, (0 + 0), none⟩ = some (.bool b35) ∧ Join [(11, .int .i64)] (fun (x11 : Int) (w16 : World) => ∃ x42 : Int, World.cell? w16 ⟨w7.heap.size, ((0 + 0) + 0), none⟩ = some (.int .i64 x42) ∧ ∃ p43 : Pt, s12.a = some ⟨p43.b, p43.o, none⟩ ∧ 0 ≤ x42 ∧ x42 < ((s12.n : Nat) : Int) ∧ ∃ x44 : Int, World.cell? w16 ⟨p43.b, (p43.o + Int.toNat x42 * 1), none⟩ = some (.int .i64 x44) ∧ Join [(6, .bool)] (fun (b6_7 : Bool) (w17 : World) => J_6 b6_7 w17) (fun J_7 =>
  cond (decide (x11 > x44)) (
  ∃ x49 : Int, World.cell? w16 ⟨w7.heap.size, ((0 + 0) + 0), none⟩ = some (.int .i64 x49) ∧ ∃ p51 : Pt, s12.a = some ⟨p51.b, p51.o, none⟩ ∧ 0 ≤ x49 ∧ x49 < ((s12.n : Nat) : Int) ∧ StoreOk w16 p51.b (p51.o + Int.toNat x49 * 1) [(.int .i64 x11)] 1 ∧ Let (put w16 p51.b (p51.o + Int.toNat x49 * 1) [(.int .i64 x11)]) fun w18 => 
  J_7 true w18) (
  J_7 b6_5 w16))) (fun J_8 =>
  cond b35 (
  J_8 (IntKind.wrap .i64 (x33 + (1 : Int))) w15) (
  J_8 x33 w15)))) (
  J_5 b6_5 w12))))) (
  J_3 b6_2 w7))))))
theorem eq84 (s0 : Sl) (R : Value → World → Prop) (w : World) : funV Try.prog Try.f84 An84 [(.slice s0.a s0.n s0.c)] R w = S84 s0 R w := by kernel_rfl
theorem call84 (s0 : Sl) {R : Value → World → Prop} {w : World} (h : S84 s0 R w) : Calls Try.prog 84 [(.slice s0.a s0.n s0.c)].toArray w fun e w' => ∃ v, e = .returned v ∧ R v w' :=
  funV_calls mixed Try.func84 (an := An84) (by rw [eq84]; exact h)

/-- F56: cubeb/rules.model -/
def An56 : An := (.sq .lf (.sq .lf (.sq (.sq .lf (.cd (.sq .lf .lf) .lf)) (.sq .lf (.sq (.sq .lf (.bk [(8, .map)] (.lp [(8, .map), (25, .int .i64)] (.sq .lf (.sq (.cd .lf .lf) (.sq (.bk [(8, .map)] (.sq .lf (.sq .lf (.sq (.sq .lf (.bk [(10, .slice)] (.lp [(10, .slice), (30, .int .i64)] (.sq .lf (.sq (.cd .lf .lf) (.sq (.bk [(10, .slice)] (.sq .lf (.sq .lf (.cj [(10, .slice)] .lf .lf)))) .lf)))))) .lf)))) .lf)))))) (.sq .lf .lf))))))
def S56 (s0 : Sl) (s1 : Sl) (R : Value → World → Prop) (w : World) : Prop :=
  Calls Try.prog 84 [(.slice s0.a s0.n s0.c)].toArray w (fun e w1 => ∃ s15_0 : Sl, ∃ b15_1 : Bool, e = .returned (.tuple [(.slice s15_0.a s15_0.n s15_0.c), (.bool b15_1)].toArray) ∧
  cond (!b15_1) (
  R (.tuple [(.map none), (.bool false)].toArray) w1) (
  Calls Try.prog 67 [(.slice s1.a s1.n s1.c)].toArray w1 (fun e_2 w2 => ∃ m21 : Option Nat, e_2 = .returned (.map m21) ∧
  Calls Try.prog 106 [(.slice s15_0.a s15_0.n s15_0.c)].toArray w2 (fun e_3 w3 => ∃ x23 : Int, e_3 = .returned (.int .i64 x23) ∧
  Join [(8, .map)] (fun (m8 : Option Nat) (w4 : World) => R (.tuple [(.map m8), (.bool true)].toArray) w4) (fun J =>
  LoopV [(8, .map), (25, .int .i64)] (fun K => K (m21) (0 : Int) w3) (fun N => fun (m8_2 : Option Nat) (x25 : Int) (w5 : World) =>
  cond (decide (x25 < (IntKind.wrap .i64 (x23 + (1 : Int))))) (
  Join [(8, .map)] (fun (m8_3 : Option Nat) (w6 : World) => N (m8_3) (IntKind.wrap .i64 (x25 + (1 : Int))) w6) (fun J_2 =>
  Join [(10, .slice)] (fun (s10 : Sl) (w7 : World) => Calls Try.prog 68 [(.slice s10.a s10.n s10.c), (.map m8_2), (.map m8_2)].toArray w7 (fun e_4 w8 => ∃ m50 : Option Nat, e_4 = .returned (.map m50) ∧
  J_2 (m50) w8)) (fun J_3 =>
  LoopV [(10, .slice), (30, .int .i64)] (fun K => K ⟨none, 0, 0⟩ (0 : Int) w5) (fun N_2 => fun (s10_2 : Sl) (x30 : Int) (w9 : World) =>
  cond (decide (x30 < ((s0.n : Nat) : Int))) (
  Join [(10, .slice)] (fun (s10_3 : Sl) (w10 : World) => N_2 ⟨s10_3.a, s10_3.n, s10_3.c⟩ (IntKind.wrap .i64 (x30 + (1 : Int))) w10) (fun J_4 =>
  ∃ p32 : Pt, s0.a = some ⟨p32.b, p32.o, none⟩ ∧ 0 ≤ x30 ∧ x30 < ((s0.n : Nat) : Int) ∧ ∃ x33_0 : Int, ∃ s33_1 : Sl, ∃ s33_2 : Sl, rd w9 p32.b (p32.o + Int.toNat x30 * 3) [(.int .i64 x33_0), (.slice s33_1.a s33_1.n s33_1.c), (.slice s33_2.a s33_2.n s33_2.c)] ∧ Let (w9.alloc (.cells (zc Try.prog 52) 52)) fun w11 => 
  StoreOk w11 w9.heap.size 0 [(.int .i64 x33_0), (.slice s33_1.a s33_1.n s33_1.c), (.slice s33_2.a s33_2.n s33_2.c)] 3 ∧ Let (put w11 w9.heap.size 0 [(.int .i64 x33_0), (.slice s33_1.a s33_1.n s33_1.c), (.slice s33_2.a s33_2.n s33_2.c)]) fun w12 => 
  ∃ x37 : Int, World.cell? w12 ⟨w9.heap.size, ((0 + 0) + 0), none⟩ = some (.int .i64 x37) ∧ ∃ p38 : Pt, s15_0.a = some ⟨p38.b, p38.o, none⟩ ∧ 0 ≤ x37 ∧ x37 < ((s15_0.n : Nat) : Int) ∧ ∃ x39 : Int, World.cell? w12 ⟨p38.b, (p38.o + Int.toNat x37 * 1), none⟩ = some (.int .i64 x39) ∧ Join [(10, .slice)] (fun (s10_4 : Sl) (w13 : World) => J_4 ⟨s10_4.a, s10_4.n, s10_4.c⟩ w13) (fun J_5 =>
  cond (x39 == x25) (
  ∃ x43_0 : Int, ∃ s43_1 : Sl, ∃ s43_2 : Sl, rd w12 w9.heap.size 0 [(.int .i64 x43_0), (.slice s43_1.a s43_1.n s43_1.c), (.slice s43_2.a s43_2.n s43_2.c)] ∧ ∃ (s44 : Sl) (w14 : World), Sem.run Try.prog (Instr.buildSlice 27 1 [(0, (.agg [(.int .i64 x43_0), (.slice s43_1.a s43_1.n s43_1.c), (.slice s43_2.a s43_2.n s43_2.c)].toArray))].toArray) w12 = .ok (.slice s44.a s44.n s44.c) w14 ∧
  ∃ (s45 : Sl) (w15 : World), Sem.run Try.prog (Builtin.append_ #[27, 27] 27 #[(.slice s10_2.a s10_2.n s10_2.c), (.slice s44.a s44.n s44.c)]) w14 = .ok (.slice s45.a s45.n s45.c) w15 ∧
  J_5 ⟨s45.a, s45.n, s45.c⟩ w15) (
  J_5 ⟨s10_2.a, s10_2.n, s10_2.c⟩ w12)))) (
  J_3 ⟨s10_2.a, s10_2.n, s10_2.c⟩ w9))))) (
  J (m8_2) w5)))))))
theorem eq56 (s0 : Sl) (s1 : Sl) (R : Value → World → Prop) (w : World) : funV Try.prog Try.f56 An56 [(.slice s0.a s0.n s0.c), (.slice s1.a s1.n s1.c)] R w = S56 s0 s1 R w := by kernel_rfl
theorem call56 (s0 : Sl) (s1 : Sl) {R : Value → World → Prop} {w : World} (h : S56 s0 s1 R w) : Calls Try.prog 56 [(.slice s0.a s0.n s0.c), (.slice s1.a s1.n s1.c)].toArray w fun e w' => ∃ v, e = .returned v ∧ R v w' :=
  funV_calls mixed Try.func56 (an := An56) (by rw [eq56]; exact h)

/-- F16: cubeb/rules.Model -/
def An16 : An := (.sq .lf (.sq (.sq .lf (.cd (.sq .lf .lf) .lf)) (.sq .lf (.sq (.sq .lf (.cd (.sq .lf .lf) .lf)) (.sq .lf .lf)))))
def S16 (s0 : Sl) (s1 : Sl) (R : Value → World → Prop) (w : World) : Prop :=
  Calls Try.prog 55 [(.slice s0.a s0.n s0.c), (.slice s1.a s1.n s1.c)].toArray w (fun e w1 => ∃ b10 : Bool, e = .returned (.bool b10) ∧
  cond (!b10) (
  R (.tuple [(.slice none 0 0), (.int .i64 (2 : Int))].toArray) w1) (
  Calls Try.prog 56 [(.slice s0.a s0.n s0.c), (.slice s1.a s1.n s1.c)].toArray w1 (fun e_2 w2 => ∃ m15_0 : Option Nat, ∃ b15_1 : Bool, e_2 = .returned (.tuple [(.map m15_0), (.bool b15_1)].toArray) ∧
  cond (!b15_1) (
  R (.tuple [(.slice none 0 0), (.int .i64 (8 : Int))].toArray) w2) (
  Calls Try.prog 57 [(.map m15_0)].toArray w2 (fun e_3 w3 => ∃ s21 : Sl, e_3 = .returned (.slice s21.a s21.n s21.c) ∧
  R (.tuple [(.slice s21.a s21.n s21.c), (.int .i64 (0 : Int))].toArray) w3)))))
theorem eq16 (s0 : Sl) (s1 : Sl) (R : Value → World → Prop) (w : World) : funV Try.prog Try.f16 An16 [(.slice s0.a s0.n s0.c), (.slice s1.a s1.n s1.c)] R w = S16 s0 s1 R w := by kernel_rfl
theorem call16 (s0 : Sl) (s1 : Sl) {R : Value → World → Prop} {w : World} (h : S16 s0 s1 R w) : Calls Try.prog 16 [(.slice s0.a s0.n s0.c), (.slice s1.a s1.n s1.c)].toArray w fun e w' => ∃ v, e = .returned v ∧ R v w' :=
  funV_calls mixed Try.func16 (an := An16) (by rw [eq16]; exact h)

end Go.Proofs.Ytoljknamnkkgcaa
/-
  Memory: frames, blocks, slices that read as a list. For every program.
-/
namespace Go.VC
open Go
variable {P : Program}

/-- The blocks beside M are as they were. -/
structure Fr (M : Nat → Prop) (w w' : World) : Prop where
  os : w'.os = w.os
  tape : w'.tape = w.tape
  output : w'.output = w.output
  size : w.heap.size ≤ w'.heap.size
  blk : ∀ b, b < w.heap.size → ¬ M b → w'.heap[b]? = w.heap[b]?
/-- Nothing that was there has changed. -/
abbrev Ext (w w' : World) : Prop := Fr (fun _ => False) w w'
theorem Fr.refl (M : Nat → Prop) (w : World) : Fr M w w := ⟨rfl, rfl, rfl, Nat.le_refl _, fun _ _ _ => rfl⟩
theorem Fr.trans {M M' : Nat → Prop} {a b c : World} (h : Fr M a b) (k : Fr M' b c) (hm : ∀ i, i < a.heap.size → M' i → M i) : Fr M a c :=
  ⟨k.os.trans h.os, k.tape.trans h.tape, k.output.trans h.output, Nat.le_trans h.size k.size, fun i hi hn =>
    (k.blk i (Nat.lt_of_lt_of_le hi h.size) (fun h' => hn (hm i hi h'))).trans (h.blk i hi hn)⟩
theorem Fr.mono {M M' : Nat → Prop} {a b : World} (h : Fr M a b) (hm : ∀ i, i < a.heap.size → M i → M' i) : Fr M' a b :=
  ⟨h.os, h.tape, h.output, h.size, fun i hi hn => h.blk i hi fun h' => hn (hm i hi h')⟩
theorem Ext.trans {a b c : World} (h : Ext a b) (k : Ext b c) : Ext a c := Fr.trans h k fun _ _ h => h
theorem Fr.ext {M : Nat → Prop} {a b c : World} (h : Fr M a b) (k : Ext b c) : Fr M a c := h.trans k fun _ _ h => h.elim
theorem Ext.fr {M : Nat → Prop} {a b c : World} (h : Ext a b) (k : Fr M b c) : Fr M a c := (Fr.mono (M' := M) h fun _ _ h => h.elim).trans k fun _ _ h => h
/-- What is written is newer than the first world. -/
theorem Ext.newer {M : Nat → Prop} {a b c : World} (h : Ext a b) (k : Fr M b c) (hm : ∀ i, M i → a.heap.size ≤ i) : Ext a c := Fr.trans h k fun i hi h' => absurd (hm i h') (by omega)
theorem Ext.of {M : Nat → Prop} {a b : World} (h : Fr M a b) (hm : ∀ i, M i → a.heap.size ≤ i) : Ext a b := h.mono fun i hi h' => absurd (hm i h') (by omega)
theorem Ext.alloc (w : World) (o : Obj) : Ext w (w.alloc o) := ⟨rfl, rfl, rfl, by simp, fun b hb _ => by show (w.heap.push o)[b]? = _; rw [Array.getElem?_push, if_neg (by omega)]⟩
theorem Ext.drew (w : World) : Ext w w.drew := ⟨rfl, rfl, rfl, Nat.le_refl _, fun _ _ _ => rfl⟩
theorem Fr.grown {w w' : World} {row : Option Nat} (h : w.grownBy w' row) : Fr (fun b => some b = row) w w' := ⟨h.os, h.tape, h.output, h.size, fun b hb hn => h.block b hb hn⟩
theorem Fr.setCell (w : World) (a : Addr) (v : Value) : Fr (fun b => b = a.block) w (w.setCell a v) :=
  ⟨rfl, rfl, rfl, by simp, fun b _ hn => heap_setCell_other w a b v hn⟩
theorem Fr.put : ∀ (vs : List Value) (w : World) (b o : Nat), Fr (fun i => i = b) w (put w b o vs)
  | [], w, _, _ => Fr.refl _ w
  | v :: r, w, b, o => (Fr.setCell w ⟨b, o, none⟩ v).trans (Fr.put r _ b (o + 1)) fun _ _ h => h
theorem Ext.below {w w' : World} (h : Ext w w') : RowKit.Below w.heap.size w w' := ⟨h.os, h.tape, h.output, h.size, fun k hk => h.blk k hk fun h => h⟩
theorem Ext.of_below {w w' : World} (h : RowKit.Below w.heap.size w w') : Ext w w' := ⟨h.os, h.tape, h.output, h.size, fun k hk _ => h.block k hk⟩

/-! ### reading -/
theorem Fr.cell {M : Nat → Prop} {w w' : World} (h : Fr M w w') {a : Addr} {v : Value} (hn : ¬ M a.block) (hc : w.cell? a = some v) : w'.cell? a = some v := by
  have := h.blk a.block (block_lt_of_cell hc) hn
  rw [World.cell?_of_block this]; exact hc
theorem Fr.rd {M : Nat → Prop} {w w' : World} (h : Fr M w w') {b : Nat} (hn : ¬ M b) : ∀ {vs : List Value} {o : Nat}, rd w b o vs → rd w' b o vs
  | [], _, _ => trivial
  | _ :: _, _, ⟨h1, h2⟩ => ⟨h.cell (a := ⟨b, _, none⟩) hn h1, h.rd hn h2⟩
theorem Ext.rd {w w' : World} (h : Ext w w') {b o : Nat} {vs : List Value} (k : rd w b o vs) : rd w' b o vs := Fr.rd h (fun h => h) k
theorem Ext.cell {w w' : World} (h : Ext w w') {a : Addr} {v : Value} (k : w.cell? a = some v) : w'.cell? a = some v := Fr.cell h (fun h => h) k
theorem rd_append {w : World} {b : Nat} : ∀ {xs ys : List Value} {o : Nat}, rd w b o (xs ++ ys) ↔ rd w b o xs ∧ rd w b (o + xs.length) ys
  | [], ys, o => by simp [VC.rd]
  | x :: xs, ys, o => by
    simp only [List.cons_append, VC.rd, rd_append (xs := xs), List.length_cons]
    rw [show o + 1 + xs.length = o + (xs.length + 1) from by omega, and_assoc]
theorem rd_lt {w : World} {b o : Nat} {vs : List Value} (h : rd w b o vs) (hv : vs ≠ []) : b < w.heap.size := by
  cases vs with
  | nil => exact absurd rfl hv
  | cons v r => exact block_lt_of_cell h.1
theorem rd_get {w : World} {b : Nat} : ∀ {vs : List Value} {o i : Nat} {v : Value}, rd w b o vs → vs[i]? = some v → w.cell? ⟨b, o + i, none⟩ = some v
  | [], _, _, _, _, h => by cases h
  | x :: r, o, 0, v, h, e => by cases e; exact h.1
  | x :: r, o, i + 1, v, h, e => by
    have := rd_get (o := o + 1) h.2 (by simpa using e)
    rw [show o + 1 + i = o + (i + 1) from by omega] at this
    exact this

/-! ### blocks known whole -/
def Blk (w : World) (b : Nat) (l : List Value) (T : TypeId) : Prop := w.heap[b]? = some (.cells l.toArray T (0, 0))
theorem Blk.lt {w : World} {b : Nat} {l : List Value} {T : TypeId} (h : Blk w b l T) : b < w.heap.size := (Array.getElem?_eq_some_iff.1 h).1
theorem Blk.cell {w : World} {b : Nat} {l : List Value} {T : TypeId} (h : Blk w b l T) (i : Nat) : w.cell? ⟨b, i, none⟩ = l[i]? := by
  rw [cell_of_row w b i l.toArray T (0, 0) h]; simp
theorem Blk.rd_drop {w : World} {b : Nat} {l : List Value} {T : TypeId} (h : Blk w b l T) : ∀ {vs : List Value} {o : Nat}, (∀ i v, vs[i]? = some v → l[o + i]? = some v) → rd w b o vs
  | [], _, _ => trivial
  | v :: r, o, hv => ⟨by rw [h.cell]; simpa using hv 0 v rfl, h.rd_drop fun i u hu => by
      have := hv (i + 1) u (by simpa using hu)
      rw [show o + 1 + i = o + (i + 1) from by omega]; exact this⟩
theorem Blk.rd {w : World} {b : Nat} {l : List Value} {T : TypeId} (h : Blk w b l T) : VC.rd w b 0 l := h.rd_drop fun i v hv => by simpa using hv
theorem Blk.fr {M : Nat → Prop} {w w' : World} {b : Nat} {l : List Value} {T : TypeId} (h : Blk w b l T) (k : Fr M w w') (hn : ¬ M b) : Blk w' b l T := (k.blk b h.lt hn).trans h
theorem Blk.ext {w w' : World} {b : Nat} {l : List Value} {T : TypeId} (h : Blk w b l T) (k : Ext w w') : Blk w' b l T := h.fr k fun h => h
theorem Blk.alloc (w : World) (l : List Value) (T : TypeId) : Blk (w.alloc (.cells l.toArray T)) w.heap.size l T := heap_alloc_new w _
theorem Blk.set {w : World} {b : Nat} {l : List Value} {T : TypeId} (h : Blk w b l T) (i : Nat) (v : Value) : Blk (w.setCell ⟨b, i, none⟩ v) b (l.set i v) T := by
  have := heap_setCell_same w b i l.toArray T v h
  unfold Blk; rw [this]; simp
theorem Blk.put {b : Nat} {T : TypeId} : ∀ {vs : List Value} {w : World} {l : List Value} {o : Nat}, Blk w b l T → Blk (put w b o vs) b (setR l o vs) T
  | [], _, _, _, h => h
  | v :: r, _, _, o, h => Blk.put (vs := r) (h.set o v)
theorem Blk.mayWr {w : World} {b : Nat} {l : List Value} {T : TypeId} (h : Blk w b l T) : ∀ {n o : Nat}, o + n ≤ l.length → mayWr w b o n
  | 0, _, _ => trivial
  | n + 1, o, hl => ⟨⟨l[o]'(by omega), by rw [h.cell]; simp⟩, frozen_of_row w b o l.toArray T h, h.mayWr (by omega)⟩
theorem Blk.storeOk {w : World} {b : Nat} {l : List Value} {T : TypeId} (h : Blk w b l T) {o n : Nat} {vs : List Value} (hv : vs.length = n) (h1 : ∀ v ∈ vs, v.oneCell' = true) (hl : o + n ≤ l.length) : StoreOk w b o vs n := ⟨hv, h1, h.mayWr hl⟩
theorem setR_all : ∀ {vs l pre : List Value}, vs.length = l.length → setR (pre ++ l) pre.length vs = pre ++ vs
  | [], [], pre, _ => by simp [setR]
  | v :: r, x :: l, pre, h => by
    have h' : r.length = l.length := by simpa using h
    have := setR_all (vs := r) (l := l) (pre := pre ++ [v]) h'
    simp only [List.append_assoc, List.singleton_append, List.length_append, List.length_singleton] at this
    rw [setR]
    rw [show (pre ++ x :: l).set pre.length v = pre ++ v :: l from by simp]
    exact this
/-- A new variable that is laid and at once stored into. -/
theorem new_var (w : World) (T : TypeId) {vs : List Value} {z : Array Value} (hz : z.size = vs.length) (h1 : ∀ v ∈ vs, v.oneCell' = true) :
    StoreOk (w.alloc (.cells z T)) w.heap.size 0 vs vs.length ∧ Blk (put (w.alloc (.cells z T)) w.heap.size 0 vs) w.heap.size vs T ∧ Ext w (put (w.alloc (.cells z T)) w.heap.size 0 vs) := by
  have hb : Blk (w.alloc (.cells z T)) w.heap.size z.toList T := by simpa using Blk.alloc w z.toList T
  refine ⟨hb.storeOk rfl h1 (by simp [hz]), ?_, (Ext.alloc w _).newer (Fr.put _ _ _ _) fun i hi => by omega⟩
  have := hb.put (o := 0) (vs := vs)
  rw [show setR z.toList 0 vs = vs from by simpa using setR_all (vs := vs) (l := z.toList) (pre := []) (by simp [hz])] at this
  exact this

/-! ### slices that read as a list -/
/-- The slice reads as l; each element takes k cells. -/
structure Sli {α : Type} (k : Nat) (enc : α → List Value) (w : World) (s : Sl) (l : List α) : Prop where
  len : s.n = l.length
  cap : s.n ≤ s.c
  mem : l ≠ [] → ∃ p : Pt, s.a = some ⟨p.b, p.o, none⟩ ∧ rd w p.b p.o (l.flatMap enc)
theorem flatMap_at {α : Type} {k : Nat} {enc : α → List Value} (hk : ∀ x, (enc x).length = k) {l : List α} {i : Nat} {x : α} (hx : l[i]? = some x) : ∃ pre post, l.flatMap enc = pre ++ enc x ++ post ∧ pre.length = i * k := by
  induction l generalizing i with
  | nil => cases hx
  | cons y r ih =>
    cases i with
    | zero => cases hx; exact ⟨[], r.flatMap enc, by simp, by simp⟩
    | succ i =>
      obtain ⟨pre, post, h1, h2⟩ := ih (by simpa using hx)
      exact ⟨enc y ++ pre, post, by simp [h1], by simp [h2, hk, Nat.add_mul]; omega⟩
theorem Sli.get {α : Type} {k : Nat} {enc : α → List Value} {w : World} {s : Sl} {l : List α} (hk : ∀ x, (enc x).length = k) (h : Sli k enc w s l) {i : Nat} {x : α} (hx : l[i]? = some x) :
    ∃ p : Pt, s.a = some ⟨p.b, p.o, none⟩ ∧ rd w p.b (p.o + i * k) (enc x) := by
  obtain ⟨p, hp, hr⟩ := h.mem (by rintro rfl; cases hx)
  obtain ⟨pre, post, h1, h2⟩ := flatMap_at hk hx
  rw [h1, rd_append, rd_append, h2] at hr
  exact ⟨p, hp, hr.1.2⟩
theorem Sli.fr {α : Type} {k : Nat} {enc : α → List Value} {M : Nat → Prop} {w w' : World} {s : Sl} {l : List α} (h : Sli k enc w s l) (f : Fr M w w') (hn : ∀ a, s.a = some a → ¬ M a.block) : Sli k enc w' s l :=
  ⟨h.len, h.cap, fun hl => by obtain ⟨p, hp, hr⟩ := h.mem hl; exact ⟨p, hp, Fr.rd f (hn _ hp) hr⟩⟩
theorem Sli.ext {α : Type} {k : Nat} {enc : α → List Value} {w w' : World} {s : Sl} {l : List α} (h : Sli k enc w s l) (f : Ext w w') : Sli k enc w' s l := h.fr f fun _ _ h => h
theorem Sli.nil {α : Type} {k : Nat} {enc : α → List Value} {w : World} (a : Option Addr) (c : Nat) : Sli (α := α) k enc w ⟨a, 0, c⟩ [] := ⟨rfl, Nat.zero_le _, fun h => absurd rfl h⟩
theorem Sli.lt {α : Type} {k : Nat} {enc : α → List Value} {w : World} {s : Sl} {l : List α} (h : Sli k enc w s l) (hk : ∀ x, enc x ≠ []) {a : Addr} (hl : l ≠ []) (ha : s.a = some a) : a.block < w.heap.size := by
  obtain ⟨p, hp, hr⟩ := h.mem hl
  rw [hp] at ha; cases ha
  exact rd_lt hr (by cases l with | nil => exact absurd rfl hl | cons x r => simp [hk x])

def eI (n : Int) : List Value := [.int .i64 n]
/-- A slice of ints. -/
abbrev Ints (w : World) (s : Sl) (l : List Int) : Prop := Sli 1 eI w s l
theorem eI_len (n : Int) : (eI n).length = 1 := rfl
theorem Ints.get {w : World} {s : Sl} {l : List Int} (h : Ints w s l) {i : Nat} {x : Int} (hx : l[i]? = some x) : ∃ p : Pt, s.a = some ⟨p.b, p.o, none⟩ ∧ w.cell? ⟨p.b, p.o + i * 1, none⟩ = some (.int .i64 x) := by
  obtain ⟨p, hp, hr⟩ := Sli.get eI_len h hx
  exact ⟨p, hp, hr.1⟩

/-! ### a slice that the call owns: kit's 'ownsRow' -/
structure Elem (P : Program) (t e size bytes : Nat) : Prop where
  under : P.underlying t = some (.slice e)
  info : ∃ i z, P.info? e = some i ∧ i.zero = some z ∧ i.size = size ∧ i.bytes = bytes ∧ z.cells.size = size
  pos : 0 < size
theorem Elem.of {t e size bytes : Nat} (h1 : P.underlying t = some (.slice e)) (h2 : (P.info? e).map (fun i => (i.zero.map (·.cells.size), i.size, i.bytes)) = some (some size, size, bytes)) (h3 : 0 < size) : Elem P t e size bytes := by
  refine ⟨h1, ?_, h3⟩
  cases hi : P.info? e with
  | none => rw [hi] at h2; cases h2
  | some i =>
    rw [hi] at h2
    simp only [Option.map_some, Option.some.injEq, Prod.mk.injEq] at h2
    obtain ⟨hz, hs, hb⟩ := h2
    cases hz' : i.zero with
    | none => rw [hz'] at hz; cases hz
    | some z => rw [hz'] at hz; exact ⟨i, z, rfl, hz', hs, hb, by simpa using hz⟩
/-- The slice is nil, or the head of a row of its own, from block B on. -/
def Own {α : Type} (T size : Nat) (enc : α → List Value) (B : Nat) (w : World) (s : Sl) (l : List α) : Prop :=
  s.n = l.length ∧ w.ownsRow B T size (.slice s.a s.n s.c) l.length (l.flatMap enc)
theorem Own.nil {α : Type} (T size : Nat) (enc : α → List Value) (B : Nat) (w : World) : Own T size enc B w ⟨none, 0, 0⟩ [] := ⟨rfl, World.ownsRow_nil w B T size⟩
theorem Own.sli {α : Type} {T size : Nat} {enc : α → List Value} {B : Nat} {w : World} {s : Sl} {l : List α} (h : Own T size enc B w s l) : Sli size enc w s l := by
  obtain ⟨hn, hl, h⟩ := h
  rcases h with ⟨h1, h2⟩ | ⟨g, cap, cur, hv, _, hg, hc, _, _, ht⟩
  · have : l = [] := List.eq_nil_of_length_eq_zero h2
    subst this
    simp only [Value.slice.injEq] at h1
    exact ⟨hn, by omega, fun h => absurd rfl h⟩
  · simp only [Value.slice.injEq] at hv
    obtain ⟨h1, h2, h3⟩ := hv
    refine ⟨hn, by rw [h2, h3]; exact hc, fun _ => ⟨⟨g, 0⟩, h1, ?_⟩⟩
    have hb : Blk w g cur.toList T := by unfold Blk; simpa using hg
    refine hb.rd_drop fun i v hv => ?_
    rw [← ht, List.getElem?_take] at hv
    split at hv
    · simpa using hv
    · cases hv
theorem Own.fr {α : Type} {T size : Nat} {enc : α → List Value} {B : Nat} {M : Nat → Prop} {w w' : World} {s : Sl} {l : List α} (h : Own T size enc B w s l) (f : Fr M w w') (hn : ∀ a, s.a = some a → ¬ M a.block) : Own T size enc B w' s l := by
  obtain ⟨h0, hl, h⟩ := h
  refine ⟨h0, hl, ?_⟩
  rcases h with h | ⟨g, cap, cur, hv, hb, hg, r⟩
  · exact .inl h
  · refine .inr ⟨g, cap, cur, hv, hb, ?_, r⟩
    simp only [Value.slice.injEq] at hv
    rw [f.blk g (Array.getElem?_eq_some_iff.1 hg).1 (hn _ hv.1)]; exact hg
theorem Own.ext {α : Type} {T size : Nat} {enc : α → List Value} {B : Nat} {w w' : World} {s : Sl} {l : List α} (h : Own T size enc B w s l) (f : Ext w w') : Own T size enc B w' s l := h.fr f fun _ _ h => h
theorem Own.base {α : Type} {T size : Nat} {enc : α → List Value} {B : Nat} {w : World} {s : Sl} {l : List α} (h : Own T size enc B w s l) {a : Addr} (ha : s.a = some a) : B ≤ a.block ∧ a.block < w.heap.size := by
  exact h.2.lt a.block (by simp [Value.ownBlock, ha])
theorem Own.mono {α : Type} {T size : Nat} {enc : α → List Value} {B B' : Nat} {w : World} {s : Sl} {l : List α} (h : Own T size enc B w s l) (hB : B' ≤ B) : Own T size enc B' w s l := by
  obtain ⟨h0, hl, h⟩ := h
  refine ⟨h0, hl, ?_⟩
  rcases h with h | ⟨g, cap, cur, hv, hb, r⟩
  · exact .inl h
  · exact .inr ⟨g, cap, cur, hv, Nat.le_trans hB hb, r⟩

theorem fill_one {place : Nat → Option (Nat × Nat)} {z : Array Value} {v : Value} {sz : Nat} (hp : place 0 = some (0, sz)) (hs : v.cells.size = sz) (hz : z.size = sz) : Instr.fill place z [(0, v)] = some v.cells := by
  have h := fold_setR' 0 v.cells z
  have e : setR z.toList 0 v.cells.toList = v.cells.toList := by simpa using setR_all (vs := v.cells.toList) (l := z.toList) (pre := []) (by simp [hs, hz])
  rw [Instr.fill, hp]
  simp only [hs, ne_eq, not_true_eq_false, Nat.zero_add]
  rw [if_neg (by simp [hz])]
  simp only [Nat.zero_add] at h
  rw [h, e]
  simp [Instr.fill]
/-- 'append(s, x)': x is laid in a block of its own first. -/
theorem buildOne_run {t e size bytes : Nat} (E : Elem P t e size bytes) {v : Value} {vs : List Value} (hv : cellsV v = vs) (hs : vs.length = size) (hbig : size ≤ 16777216) (w : World) :
    (Instr.buildSlice t 1 [(0, v)].toArray).run P w = .ok (.slice (some ⟨w.heap.size, 0, none⟩) 1 1) (w.alloc (.cells vs.toArray e)) := by
  obtain ⟨i, z, hi, hz, hsz, _, hzs⟩ := E.info
  have hpos := E.pos
  have hc : v.cells.size = size := by rw [← hs, ← hv, ← cellsV_eq]; simp
  have hz0 : ((Array.range (1 * size)).map (z.cells[· % z.cells.size]!)).size = size := by simp
  have hf : Instr.fill (fun i => some (i * size, size)) ((Array.range (1 * size)).map (z.cells[· % z.cells.size]!)) [(0, v)] = some v.cells := fill_one (by simp) hc hz0
  have hsr : (sizeOf e).run P w = .ok size w := by rw [size_run hi, hsz]
  have hzr : (zeroValue e).run P w = .ok z w := by simp [zeroValue, typeInfo, hi, hz]
  have hv' : v.cells = vs.toArray := by apply Array.ext'; rw [cellsV_eq, hv]
  simp only [Instr.buildSlice, Sem.run_bind, under_run E.under, Result.andThen_ok, hsr]
  rw [if_neg (by omega)]
  rw [if_neg (by omega)]
  simp only [Sem.run_bind, hzr, Result.andThen_ok, Sem.run_pure, hf, newRow, run_newObj, hv']
  rfl
theorem buildNone_run {t e size bytes : Nat} (E : Elem P t e size bytes) (w : World) :
    (Instr.buildSlice t 0 ([] : List (Nat × Value)).toArray).run P w = .ok (.slice (some ⟨w.heap.size, 0, none⟩) 0 0) (w.alloc (.cells #[] e)) := by
  obtain ⟨i, z, hi, hz, hsz, _, hzs⟩ := E.info
  have hsr : (sizeOf e).run P w = .ok size w := by rw [size_run hi, hsz]
  have e0 : (Array.range 0 : Array Nat) = #[] := rfl
  simp [Instr.buildSlice, under_run E.under, hsr, Instr.fill, newRow, e0]
/-- 'append' of cells that lie somewhere, to a slice that the call owns. -/
theorem appendOwn {α : Type} {t e size bytes : Nat} (E : Elem P t e size bytes) {enc : α → List Value} {B : Nat} {w : World} {s : Sl} {l : List α} (h : Own e size enc B w s l) {s2 : Sl} {l2 : List α} {b o : Nat}
    (h2n : s2.n = l2.length) (h2a : s2.a = some ⟨b, o, none⟩) (h2 : rd w b o (l2.flatMap enc)) (hk : ∀ x, (enc x).length = size) (h1 : ∀ x, ∀ v ∈ enc x, v.oneCell' = true) (hlen : (l.length + l2.length) * bytes ≤ 140737488355328) (hlen' : l.length + l2.length ≤ maxLen) (hB : B ≤ w.heap.size) (ty : Nat) :
    ∃ (s' : Sl) (w' : World), (Builtin.append_ #[t, t] ty #[.slice s.a s.n s.c, .slice s2.a s2.n s2.c]).run P w = .ok (.slice s'.a s'.n s'.c) w' ∧ Own e size enc B w' s' (l ++ l2) ∧ Fr (fun b => ∃ a, s.a = some a ∧ a.block = b) w w' := by
  obtain ⟨i, z, hi, hz, hsz, hby, hzs⟩ := E.info
  obtain ⟨hn, hown⟩ := h
  have hfl : ∀ l : List α, (l.flatMap enc).length = l.length * size := fun l => by
    induction l with
    | nil => simp
    | cons x r ih => simp [List.flatMap_cons, hk, ih, Nat.add_mul]; omega
  obtain ⟨v', w', hr, ho, hg, _⟩ := run_append_own (P := P) w B t ty e i z size bytes E.under hi hz hsz hby hzs E.pos (.slice s.a s.n s.c) l.length (l.flatMap enc) hown ⟨b, o, none⟩ l2.length s2.c (l2.flatMap enc) (hfl l2)
    (fun j u hu => by rw [addr_add_plain]; exact rd_get h2 hu) (fun u hu => by obtain ⟨x, _, hx⟩ := List.mem_flatMap.1 hu; exact h1 x u hx) hlen' hlen hB
  have hshape : ∃ s' : Sl, v' = .slice s'.a s'.n s'.c ∧ s'.n = l.length + l2.length := by
    rcases ho.2 with ⟨h1, h2⟩ | ⟨g, cap, cur, h1, _⟩
    · exact ⟨⟨none, 0, 0⟩, h1, h2.symm⟩
    · exact ⟨⟨some ⟨g, 0, none⟩, _, cap⟩, h1, rfl⟩
  obtain ⟨s', rfl, hs'⟩ := hshape
  refine ⟨s', w', by rw [h2a, h2n]; exact hr, ⟨by simp [hs'], by simpa using ho⟩, ?_⟩
  refine (Fr.grown hg).mono fun b hb h => ?_
  cases ha : s.a with
  | none => rw [ha] at h; simp [Value.ownBlock] at h
  | some a => rw [ha] at h; simp [Value.ownBlock] at h; exact ⟨a, rfl, h.symm⟩
/-- 'append(s, x)' as it is printed: the one-element slice, then the append. -/
theorem appendOne {α : Type} {t e size bytes : Nat} (E : Elem P t e size bytes) {enc : α → List Value} {B : Nat} {w : World} {s : Sl} {l : List α} (h : Own e size enc B w s l) {x : α} {v : Value} (hv : cellsV v = enc x) (hk : ∀ x, (enc x).length = size) (h1 : ∀ x, ∀ v ∈ enc x, v.oneCell' = true)
    (hbig : size ≤ 16777216) (hlen : (l.length + 1) * bytes ≤ 140737488355328) (hlen' : l.length + 1 ≤ maxLen) (hB : B ≤ w.heap.size) (ty : Nat) :
    ∃ (s1 : Sl) (w1 : World), (Instr.buildSlice t 1 [(0, v)].toArray).run P w = .ok (.slice s1.a s1.n s1.c) w1 ∧
      ∃ (s' : Sl) (w' : World), (Builtin.append_ #[t, t] ty #[.slice s.a s.n s.c, .slice s1.a s1.n s1.c]).run P w1 = .ok (.slice s'.a s'.n s'.c) w' ∧ Own e size enc B w' s' (l ++ [x]) ∧ Fr (fun b => ∃ a, s.a = some a ∧ a.block = b) w w' := by
  have hb := buildOne_run E hv (hk x) hbig w
  have hx := Ext.alloc w (.cells (enc x).toArray e)
  obtain ⟨s', w', hr, ho, hf⟩ := appendOwn E (h.ext hx) (s2 := ⟨some ⟨w.heap.size, 0, none⟩, 1, 1⟩) (l2 := [x]) rfl rfl (by simpa using (Blk.alloc w (enc x) e).rd) hk h1 (by simpa using hlen) (by simpa using hlen') (by simp; omega) ty
  exact ⟨⟨some ⟨w.heap.size, 0, none⟩, 1, 1⟩, _, hb, s', w', hr, ho, Ext.fr hx hf⟩

/-! ### numbers -/
theorem wrap64 {x : Int} (h1 : -9223372036854775808 ≤ x) (h2 : x < 9223372036854775808) : IntKind.wrap .i64 x = x := by
  rw [IntKind.wrap_i64]; omega
end Go.VC
/-
  Maps: what the operations on a map do, over a list of its entries. For every program.
-/
namespace Go.VC
open Go
variable {P : Program}

section
variable {κ β : Type} {ke : κ → Value} {ve : β → Value}
/-- The keys of a type: how they are compared. -/
structure KeyOk (P : Program) (kt : TypeId) (ke : κ → Value) : Prop where
  inj : ∀ a b, ke a = ke b → a = b
  chk : ∀ e k w, (Instr.checkKey e 10000 kt (ke k)).run P w = .ok () w
  find : ∀ k (es : List MapEntry) w, (∀ e ∈ es, ∃ k', e.key = ke k') → (Instr.findKey kt (ke k) es).run P w = .ok none w ∧ (∀ e ∈ es, e.key ≠ ke k) ∨
    ∃ i e, es[i]? = some e ∧ e.key = ke k ∧ (Instr.findKey kt (ke k) es).run P w = .ok (some (i, e.val)) w
  bits : ∀ k, Instr.sameBits 10000 (ke k) (ke k) = true

abbrev Ent (κ β : Type) := κ × β × Nat
def ent (ke : κ → Value) (ve : β → Value) (x : Ent κ β) : MapEntry := ⟨ke x.1, ve x.2.1, x.2.2⟩
/-- The element at a key. -/
def mget [DecidableEq κ] (l : List (Ent κ β)) (k : κ) : Option β := (l.find? fun x => x.1 = k).map (·.2.1)
def mput [DecidableEq κ] (l : List (Ent κ β)) (c : Nat) (k : κ) (v : β) : List (Ent κ β) := if (mget l k).isSome then l.map fun x => if x.1 = k then (k, v, x.2.2) else x else l ++ [(k, v, c)]
/-- Block b is a map with these entries. -/
structure Mp (ke : κ → Value) (ve : β → Value) (w : World) (b : Nat) (l : List (Ent κ β)) (c : Nat) : Prop where
  heap : w.heap[b]? = some (.map (l.map (ent ke ve)).toArray c)
  keys : (l.map (·.1)).Nodup
  stamps : (l.map (·.2.2)).Nodup
  lt : ∀ x ∈ l, x.2.2 < c
theorem Mp.fr {M : Nat → Prop} {w w' : World} {b c : Nat} {l : List (Ent κ β)} (h : Mp ke ve w b l c) (f : Fr M w w') (hn : ¬ M b) : Mp ke ve w' b l c :=
  ⟨(f.blk b (Array.getElem?_eq_some_iff.1 h.heap).1 hn).trans h.heap, h.keys, h.stamps, h.lt⟩
theorem Mp.ext {w w' : World} {b c : Nat} {l : List (Ent κ β)} (h : Mp ke ve w b l c) (f : Ext w w') : Mp ke ve w' b l c := h.fr f fun h => h
theorem Mp.bound {w : World} {b c : Nat} {l : List (Ent κ β)} (h : Mp ke ve w b l c) : b < w.heap.size := (Array.getElem?_eq_some_iff.1 h.heap).1
theorem Mp.made (w : World) : Mp ke ve (w.alloc (.map #[] 0)) w.heap.size ([] : List (Ent κ β)) 0 :=
  ⟨by show (w.heap.push _)[w.heap.size]? = _; simp, by simp, by simp, by simp⟩

theorem nodup_at {α : Type} {l : List α} (h : l.Nodup) {i j : Nat} {x : α} (h1 : l[i]? = some x) (h2 : l[j]? = some x) : i = j := by
  have hp := List.pairwise_iff_getElem.1 h
  obtain ⟨hi, ei⟩ := List.getElem?_eq_some_iff.1 h1
  obtain ⟨hj, ej⟩ := List.getElem?_eq_some_iff.1 h2
  rcases Nat.lt_trichotomy i j with h' | h' | h'
  · exact absurd (ei.trans ej.symm) (hp i j hi hj h')
  · exact h'
  · exact absurd (ej.trans ei.symm) (hp j i hj hi h')
theorem find_born : ∀ {l : List (Ent κ β)}, (l.map (·.2.2)).Nodup → ∀ {x : Ent κ β}, x ∈ l → (l.map (ent ke ve)).find? (fun e => e.born == x.2.2) = some (ent ke ve x)
  | y :: r, hst, x, hxl => by
    simp only [List.map_cons, List.nodup_cons] at hst
    rw [List.map_cons, List.find?_cons]
    by_cases e : y.2.2 = x.2.2
    · rcases List.mem_cons.1 hxl with rfl | hx
      · simp [ent]
      · exact absurd (List.mem_map.2 ⟨x, hx, e.symm⟩) hst.1
    · have e' : ((ent ke ve y).born == x.2.2) = false := by simpa [ent] using e
      rw [e']
      rcases List.mem_cons.1 hxl with rfl | hx
      · exact absurd rfl e
      · exact find_born hst.2 hx
theorem mget_some [DecidableEq κ] {l : List (Ent κ β)} (hn : (l.map (·.1)).Nodup) {x : Ent κ β} (hx : x ∈ l) : mget l x.1 = some x.2.1 := by
  induction l with
  | nil => cases hx
  | cons y r ih =>
    simp only [List.map_cons, List.nodup_cons] at hn
    unfold mget
    rw [List.find?_cons]
    by_cases e : y.1 = x.1
    · rw [show decide (y.1 = x.1) = true from by simpa using e]
      rcases List.mem_cons.1 hx with rfl | hx
      · rfl
      · exact absurd (List.mem_map.2 ⟨x, hx, e.symm⟩) hn.1
    · rw [show decide (y.1 = x.1) = false from by simpa using e]
      rcases List.mem_cons.1 hx with rfl | hx
      · exact absurd rfl e
      · exact ih hn.2 hx
theorem mget_mem [DecidableEq κ] {l : List (Ent κ β)} {k : κ} {v : β} (h : mget l k = some v) : ∃ s, (k, v, s) ∈ l := by
  unfold mget at h
  cases hf : l.find? fun x => x.1 = k with
  | none => rw [hf] at h; cases h
  | some x =>
    rw [hf] at h
    cases h
    have h1 := List.find?_some hf
    have h2 := List.mem_of_find?_eq_some hf
    simp only [decide_eq_true_eq] at h1
    subst h1
    exact ⟨x.2.2, h2⟩
theorem mget_none [DecidableEq κ] {l : List (Ent κ β)} {k : κ} (h : ∀ x ∈ l, x.1 ≠ k) : mget l k = none := by
  unfold mget
  rw [List.find?_eq_none.2 (by intro x hx; simpa using h x hx)]; rfl
theorem mget_none' [DecidableEq κ] {l : List (Ent κ β)} {k : κ} (h : mget l k = none) : ∀ x ∈ l, x.1 ≠ k := by
  intro x hx e
  unfold mget at h
  cases hf : l.find? fun x => x.1 = k with
  | none => have := List.find?_eq_none.1 hf x hx; simp [e] at this
  | some y => rw [hf] at h; cases h

theorem look_run [DecidableEq κ] {t kt vt : TypeId} (K : KeyOk P kt ke) (ht : P.underlying t = some (.map kt vt)) {w : World} {b c : Nat} {l : List (Ent κ β)} (h : Mp ke ve w b l c) {z : Value} (hz : ∀ w, (zeroValue vt).run P w = .ok z w) (k : κ) :
    (Instr.lookup t (.map (some b)) (ke k) false).run P w = .ok (((mget l k).map ve).getD z) w ∧
    (Instr.lookup t (.map (some b)) (ke k) true).run P w = .ok (.tuple #[((mget l k).map ve).getD z, .bool (mget l k).isSome]) w := by
  have hg : (getObj b).run P w = .ok (.map (l.map (ent ke ve)).toArray c) w := by simp [getObj, Sem.run, h.heap]
  have hk : ∀ e ∈ l.map (ent ke ve), ∃ k', e.key = ke k' := fun e he => by obtain ⟨x, _, rfl⟩ := List.mem_map.1 he; exact ⟨x.1, rfl⟩
  rcases K.find k (l.map (ent ke ve)) w hk with ⟨hf, hno⟩ | ⟨i, e, hi, he, hf⟩
  · have hm : mget l k = none := mget_none fun x hx e => hno _ (List.mem_map.2 ⟨x, hx, rfl⟩) (by show ke x.1 = ke k; rw [e])
    constructor <;> simp [Instr.lookup, under_run ht, hg, K.chk, hf, hz, hm]
  · have hi' : ∃ x, l[i]? = some x ∧ e = ent ke ve x := by
      rw [List.getElem?_map] at hi
      cases hx : l[i]? with
      | none => rw [hx] at hi; cases hi
      | some x => rw [hx] at hi; cases hi; exact ⟨x, rfl, rfl⟩
    obtain ⟨x, hx, rfl⟩ := hi'
    obtain rfl : x.1 = k := K.inj _ _ he
    have hm := mget_some h.keys (List.mem_of_getElem? hx)
    constructor <;> simp [Instr.lookup, under_run ht, hg, K.chk, hf, hm, ent]
theorem look_nil {t kt vt : TypeId} (K : KeyOk P kt ke) (ht : P.underlying t = some (.map kt vt)) {w : World} {z : Value} (hz : ∀ w, (zeroValue vt).run P w = .ok z w) (k : κ) :
    (Instr.lookup t (.map none) (ke k) false).run P w = .ok z w := by
  have hf : (Instr.findKey kt (ke k) []).run P w = .ok none w := by
    rcases K.find k [] w (by simp) with ⟨hf, _⟩ | ⟨i, e, hi, _⟩
    · exact hf
    · simp at hi
  simp [Instr.lookup, under_run ht, K.chk, hf, hz]

theorem mget_mput [DecidableEq κ] (l : List (Ent κ β)) (c : Nat) (k : κ) (v : β) (k' : κ) : mget (mput l c k v) k' = if k' = k then some v else mget l k' := by
  unfold mput
  split
  · rename_i hs
    have hmap : ∀ l : List (Ent κ β), mget (l.map fun x => if x.1 = k then (k, v, x.2.2) else x) k' = if k' = k then (mget l k).map (fun _ => v) else mget l k' := by
      intro l
      induction l with
      | nil => simp [mget]
      | cons x r ih =>
        unfold mget at ih ⊢
        rw [List.map_cons, List.find?_cons, List.find?_cons, List.find?_cons]
        by_cases hx : x.1 = k
        · by_cases hk : k' = k
          · subst hk; simp [hx]
          · have h1 : ¬ k = k' := fun e => hk e.symm
            have h2 : ¬ x.1 = k' := fun e => h1 (hx ▸ e)
            simp only [hx, if_true, h1, decide_false, hk, if_false] at ih ⊢
            exact ih
        · by_cases hk : k' = k
          · subst hk
            simp only [hx, if_false, decide_false, if_true] at ih ⊢
            exact ih
          · simp only [hx, if_false, hk, decide_false] at ih ⊢
            by_cases h2 : x.1 = k'
            · simp [h2]
            · simp only [h2, decide_false]; exact ih
    rw [hmap]
    split
    · obtain ⟨y, hy⟩ := Option.isSome_iff_exists.1 hs
      rw [hy]; rfl
    · rfl
  · rename_i hs
    have hn : mget l k = none := by cases h : mget l k with | none => rfl | some _ => rw [h] at hs; exact absurd rfl hs
    have hall := mget_none' hn
    unfold mget at hn ⊢
    rw [List.find?_append]
    by_cases hk : k' = k
    · subst hk
      rw [List.find?_eq_none.2 (by intro x hx; simpa using hall x hx)]
      simp
    · have h1 : ¬ k = k' := fun e => hk e.symm
      simp only [hk, if_false]
      cases hf : l.find? fun x => x.1 = k' with
      | none => simp [h1]
      | some x => simp

theorem put_run [DecidableEq κ] {t kt vt : TypeId} (K : KeyOk P kt ke) (ht : P.underlying t = some (.map kt vt)) {w : World} {b c : Nat} {l : List (Ent κ β)} (h : Mp ke ve w b l c) (k : κ) (v : β) :
    ∃ w' c', (Instr.mapUpdate t (.map (some b)) (ke k) (ve v)).run P w = .ok () w' ∧ Mp ke ve w' b (mput l c k v) c' ∧ Fr (fun i => i = b) w w' := by
  have hg : (getObj b).run P w = .ok (.map (l.map (ent ke ve)).toArray c) w := by simp [getObj, Sem.run, h.heap]
  have hb := h.bound
  have hset : ∀ es c', (setObj b (.map es c')).run P w = .ok () { w with heap := w.heap.setIfInBounds b (.map es c') } := fun es c' => by simp [setObj, Sem.run, h.heap]
  have hfr : ∀ es c', Fr (fun i => i = b) w { w with heap := w.heap.setIfInBounds b (.map es c') } := fun es c' =>
    ⟨rfl, rfl, rfl, by simp, fun i _ hi => by show (w.heap.setIfInBounds b _)[i]? = _; rw [Array.getElem?_setIfInBounds_ne (fun e => hi e.symm)]⟩
  have hk : ∀ e ∈ l.map (ent ke ve), ∃ k', e.key = ke k' := fun e he => by obtain ⟨x, _, rfl⟩ := List.mem_map.1 he; exact ⟨x.1, rfl⟩
  rcases K.find k (l.map (ent ke ve)) w hk with ⟨hf, hno⟩ | ⟨i, e, hi, he, hf⟩
  · have hm : mget l k = none := mget_none fun x hx e => hno _ (List.mem_map.2 ⟨x, hx, rfl⟩) (by show ke x.1 = ke k; rw [e])
    have hput : mput l c k v = l ++ [(k, v, c)] := by simp [mput, hm]
    refine ⟨_, c + 1, ?_, ?_, hfr ((l.map (ent ke ve)).toArray.push ⟨ke k, ve v, c⟩) (c + 1)⟩
    · simp only [Instr.mapUpdate, Sem.run_bind, under_run ht, Result.andThen_ok, hg, K.chk, hf, hset]
    · rw [hput]
      refine ⟨by simp [hb, ent], ?_, ?_, ?_⟩
      · rw [List.map_append, List.nodup_append]
        exact ⟨h.keys, by simp, by intro a ha b' hb' e; simp at hb'; subst hb'; obtain ⟨x, hx, rfl⟩ := List.mem_map.1 ha; exact mget_none' hm x hx e⟩
      · rw [List.map_append, List.nodup_append]
        exact ⟨h.stamps, by simp, by intro a ha b' hb' e; simp at hb'; subst hb'; obtain ⟨x, hx, rfl⟩ := List.mem_map.1 ha; have := h.lt x hx; omega⟩
      · intro x hx
        rcases List.mem_append.1 hx with hx | hx
        · have := h.lt x hx; omega
        · simp at hx; subst hx; simp
  · have hi' : ∃ x, l[i]? = some x ∧ e = ent ke ve x := by
      rw [List.getElem?_map] at hi
      cases hx : l[i]? with
      | none => rw [hx] at hi; cases hi
      | some x => rw [hx] at hi; cases hi; exact ⟨x, rfl, rfl⟩
    obtain ⟨x, hx, rfl⟩ := hi'
    obtain rfl : x.1 = k := K.inj _ _ he
    have hm := mget_some h.keys (List.mem_of_getElem? hx)
    have hput : mput l c x.1 v = l.map fun y => if y.1 = x.1 then (x.1, v, y.2.2) else y := by simp [mput, hm]
    have hstay : ∀ old : Value, old = ke x.1 → (Instr.keyThatStays old (ke x.1)).run P w = .ok (ke x.1) w := fun old ho => by
      subst ho; simp [Instr.keyThatStays, K.bits]
    have hil : i < l.length := by
      rcases Nat.lt_or_ge i l.length with h | h
      · exact h
      · rw [List.getElem?_eq_none h] at hx; cases hx
    have hxi : l[i] = x := by rw [List.getElem?_eq_getElem hil] at hx; exact Option.some.inj hx
    have hsame : ((l.map (ent ke ve)).toArray.modify i fun e => { e with key := ke x.1, val := ve v }) = ((l.map fun y => if y.1 = x.1 then (x.1, v, y.2.2) else y).map (ent ke ve)).toArray := by
      apply Array.ext'
      apply List.ext_getElem
      · simp
      · intro j h1 h2
        have hj : j < l.length := by simpa using h2
        simp only [Array.getElem_toList, Array.getElem_modify, List.getElem_map, List.getElem_toArray]
        by_cases e : i = j
        · subst e; simp [hxi, ent]
        · rw [if_neg e]
          have hne : l[j].1 ≠ x.1 := by
            intro e'
            have e1 : (l.map (·.1))[i]? = some x.1 := by simp [hx]
            have e2 : (l.map (·.1))[j]? = some x.1 := by simp [hj, e']
            exact e (nodup_at h.keys e1 e2)
          rw [if_neg hne]
    refine ⟨_, c, ?_, ?_, hfr ((l.map fun y => if y.1 = x.1 then (x.1, v, y.2.2) else y).map (ent ke ve)).toArray c⟩
    · have ho : (((l.map (ent ke ve)).toArray[i]?).map (·.key)).getD (ke x.1) = ke x.1 := by simp [hx, ent]
      simp only [Instr.mapUpdate, Sem.run_bind, under_run ht, Result.andThen_ok, hg, K.chk, hf, hstay _ ho, hset, hsame]
    · rw [hput]
      have hk' : ((l.map fun y => if y.1 = x.1 then (x.1, v, y.2.2) else y).map (·.1)) = l.map (·.1) := by
        rw [List.map_map]; apply List.map_congr_left; intro y _; simp only [Function.comp]; split <;> simp_all
      have hs' : ((l.map fun y => if y.1 = x.1 then (x.1, v, y.2.2) else y).map (·.2.2)) = l.map (·.2.2) := by
        rw [List.map_map]; apply List.map_congr_left; intro y _; simp only [Function.comp]; split <;> simp_all
      refine ⟨by simp [hb], by rw [hk']; exact h.keys, by rw [hs']; exact h.stamps, ?_⟩
      intro y hy
      obtain ⟨z, hz, rfl⟩ := List.mem_map.1 hy
      have := h.lt z hz
      split <;> exact this
theorem len_run {t kt vt T : TypeId} (ht : P.underlying t = some (.map kt vt)) {w : World} {b c : Nat} {l : List (Ent κ β)} (h : Mp ke ve w b l c) :
    (Builtin.len_ #[t] T #[.map (some b)]).run P w = .ok (.int .i64 l.length) w := by
  have hg : (getObj b).run P w = .ok (.map (l.map (ent ke ve)).toArray c) w := by simp [getObj, Sem.run, h.heap]
  simp [Builtin.len_, under_run ht, hg, goInt]

/-! ### ranging over a map that stays as it is -/
structure Itr (w : World) (r b c : Nat) (vis : List (Ent κ β)) : Prop where
  heap : w.heap[r]? = some (.mapIter (some b) c (vis.map (·.2.2)).toArray c)
theorem Itr.fr {M : Nat → Prop} {w w' : World} {r b c : Nat} {vis : List (Ent κ β)} (h : Itr w r b c vis) (f : Fr M w w') (hn : ¬ M r) : Itr w' r b c vis :=
  ⟨(f.blk r (Array.getElem?_eq_some_iff.1 h.heap).1 hn).trans h.heap⟩
theorem Itr.bound {w : World} {r b c : Nat} {vis : List (Ent κ β)} (h : Itr w r b c vis) : r < w.heap.size := (Array.getElem?_eq_some_iff.1 h.heap).1
theorem range_run {t kt vt : TypeId} (ht : P.underlying t = some (.map kt vt)) {w : World} {b c : Nat} {l : List (Ent κ β)} (h : Mp ke ve w b l c) :
    ∃ w', (Instr.range t (.map (some b))).run P w = .ok (.pointer (some ⟨w.heap.size, 0, none⟩)) w' ∧ Ext w w' ∧ Itr (κ := κ) (β := β) w' w.heap.size b c [] ∧ Mp ke ve w' b l c := by
  have hg : (getObj b).run P w = .ok (.map (l.map (ent ke ve)).toArray c) w := by simp [getObj, Sem.run, h.heap]
  have hx := Ext.alloc w (.mapIter (some b) c #[] c)
  refine ⟨w.alloc (.mapIter (some b) c #[] c), ?_, hx, ⟨by show (w.heap.push _)[w.heap.size]? = _; simp⟩, h.ext hx⟩
  simp [Instr.range, under_run ht, hg]
theorem next_run {w : World} {r b c T : Nat} {l vis : List (Ent κ β)} (h : Mp ke ve w b l c) (hi : Itr w r b c vis) (hv : ∀ x ∈ vis, x ∈ l) :
    ∃ (d : Bool) (kv : List Value) (w' : World), (Instr.next (.pointer (some ⟨r, 0, none⟩)) false T).run P w = .ok (.tuple (Value.bool d :: kv).toArray) w' ∧
      ((d = false ∧ (∀ x ∈ l, x ∈ vis) ∧ Ext w w') ∨
       (d = true ∧ ∃ x ∈ l, x ∉ vis ∧ Itr w' r b c (vis ++ [x]) ∧ Mp ke ve w' b l c ∧ Fr (fun i => i = r) w w' ∧ (Instr.entry (.pointer (some ⟨r, 0, none⟩))).run P w' = .ok (.tuple #[ke x.1, ve x.2.1]) w')) := by
  have hgr : (getObj r).run P w = .ok (.mapIter (some b) c (vis.map (·.2.2)).toArray c) w := by simp [getObj, Sem.run, hi.heap]
  have hg : ∀ w : World, w.heap[b]? = some (.map (l.map (ent ke ve)).toArray c) → (getObj b).run P w = .ok (.map (l.map (ent ke ve)).toArray c) w := fun w h => by simp [getObj, Sem.run, h]
  have hbr : b ≠ r := fun e => by have := h.heap; rw [e, hi.heap] at this; cases this
  -- an entry has been seen just if it is among those visited
  have hseen : ∀ x ∈ l, (vis.map (·.2.2)).toArray.contains x.2.2 = true ↔ x ∈ vis := fun x hx => by
    constructor
    · intro hc
      have : x.2.2 ∈ vis.map (·.2.2) := by simpa using hc
      obtain ⟨y, hy, he⟩ := List.mem_map.1 this
      have hyl := hv y hy
      obtain ⟨i, hi1, hi2⟩ := List.getElem_of_mem hx
      obtain ⟨j, hj1, hj2⟩ := List.getElem_of_mem hyl
      have e1 : (l.map (·.2.2))[i]? = some x.2.2 := by simp [hi1, hi2]
      have e2 : (l.map (·.2.2))[j]? = some x.2.2 := by simp [hj1, hj2, he]
      have hij := nodup_at h.stamps e1 e2
      subst hij; rw [hi2] at hj2; rw [hj2]; exact hy
    · intro hx; simp only [List.contains_toArray]; exact List.contains_iff_mem.2 (List.mem_map.2 ⟨x, hx, rfl⟩)
  generalize hleft : ((l.map (ent ke ve)).toArray.filter fun e => !(vis.map (·.2.2)).toArray.contains e.born) = left
  have hleft' : left.toList = (l.filter fun x => !(vis.map (·.2.2)).toArray.contains x.2.2).map (ent ke ve) := by
    rw [← hleft]
    simp only [List.filter_toArray, List.filter_map]
    rfl
  have hborn : ∀ e ∈ left.toList, e.born < c := fun e he => by
    rw [hleft'] at he
    obtain ⟨x, hx, rfl⟩ := List.mem_map.1 he
    exact h.lt x (List.mem_filter.1 hx).1
  have hold : left.filter (·.born < c) = left := by
    apply Array.ext'
    rw [Array.toList_filter]
    exact List.filter_eq_self.2 fun e he => by simpa using hborn e he
  have hnew : left.filter (·.born ≥ c) = #[] := by
    apply Array.ext'
    rw [Array.toList_filter]
    exact List.filter_eq_nil_iff.2 fun e he => by have := hborn e he; simp; omega
  have hnot : (!(vis.map (·.2.2)).toArray.isEmpty && !(l.map (ent ke ve)).toArray.isEmpty && (l.map (ent ke ve)).toArray.all (·.born ≥ c)) = false := by
    cases l with
    | nil => simp
    | cons x r =>
      have := h.lt x (by simp)
      simp only [List.map_cons, Bool.and_eq_false_iff]
      right
      rw [List.all_toArray]
      simp [ent]
      omega
  by_cases hempty : left.toList = []
  · have he : left = #[] := by apply Array.ext'; simpa using hempty
    refine ⟨false, [], w, ?_, .inl ⟨rfl, ?_, Fr.refl _ _⟩⟩
    · simp only [Instr.next, Sem.run_bind, hgr, Result.andThen_ok, hg w h.heap, hnot, Bool.false_eq_true, if_false, hleft, hold, hnew]
      subst he
      simp [Question.forced]
    · intro x hx
      rw [hleft'] at hempty
      have := List.map_eq_nil_iff.1 hempty
      rw [List.filter_eq_nil_iff] at this
      have h1 := this x hx
      exact (hseen x hx).1 (by simpa using h1)
  · have hne : left.isEmpty = false := by cases hl : left.toList with | nil => exact absurd hl hempty | cons a b => rw [Array.isEmpty]; simp; intro e; subst e; simp at hl
    have hsz : 0 < left.size := by
      rcases Nat.eq_zero_or_pos left.size with h0 | h0
      · exact absurd (by simpa using Array.eq_empty_of_size_eq_zero h0) (fun e : left = #[] => hempty (by rw [e]))
      · exact h0
    -- the choice
    have hchoose : ∃ i w1, i < left.size ∧ (choose (.mapNext left.size)).run P w = .ok i w1 ∧ Ext w w1 := by
      rw [run_choose]
      split
      · exact ⟨0, w, hsz, rfl, Fr.refl _ _⟩
      · exact ⟨_, _, Nat.mod_lt _ hsz, rfl, ⟨rfl, rfl, rfl, Nat.le_refl _, fun _ _ _ => rfl⟩⟩
    obtain ⟨i, w1, hilt, hch, hx1⟩ := hchoose
    have hmem : left[i] ∈ left.toList := by simp
    rw [hleft'] at hmem
    obtain ⟨x, hxm, hxe⟩ := List.mem_map.1 hmem
    obtain ⟨hxl, hxn⟩ := List.mem_filter.1 hxm
    have hxv : x ∉ vis := fun hx => by rw [(hseen x hxl).2 hx] at hxn; simp at hxn
    have hgr1 : w1.heap[r]? = some (.mapIter (some b) c (vis.map (·.2.2)).toArray c) := (hi.fr hx1 (fun h => h)).heap
    have hm1 := h.ext hx1
    have hset : (setObj r (.mapIter (some b) c ((vis.map (·.2.2)).toArray.push x.2.2) c)).run P w1 = .ok () { w1 with heap := w1.heap.setIfInBounds r (.mapIter (some b) c ((vis.map (·.2.2)).toArray.push x.2.2) c) } := by simp [setObj, Sem.run, hgr1]
    have hfr : Fr (fun i => i = r) w1 { w1 with heap := w1.heap.setIfInBounds r (.mapIter (some b) c ((vis.map (·.2.2)).toArray.push x.2.2) c) } :=
      ⟨rfl, rfl, rfl, by simp, fun i _ hi => by show (w1.heap.setIfInBounds r _)[i]? = _; rw [Array.getElem?_setIfInBounds_ne (fun e => hi e.symm)]⟩
    have hr1 : r < w1.heap.size := (Array.getElem?_eq_some_iff.1 hgr1).1
    have hm2 := hm1.fr hfr hbr
    have hit2 : Itr { w1 with heap := w1.heap.setIfInBounds r (.mapIter (some b) c ((vis.map (·.2.2)).toArray.push x.2.2) c) } r b c (vis ++ [x]) := ⟨by simp [hr1]⟩
    refine ⟨true, [ke x.1, ve x.2.1], _, ?_, .inr ⟨rfl, x, hxl, hxv, hit2, hm2, Ext.fr hx1 hfr, ?_⟩⟩
    · have hc : (((if left.isEmpty then #[none] else #[]) ++ (left ++ #[]).map some : Array (Option MapEntry)).size) = left.size := by simp [hne]
      have hci : ((if left.isEmpty then #[none] else #[]) ++ (left ++ #[]).map some : Array (Option MapEntry))[i]? = some (some (ent ke ve x)) := by
        simp [hne, hilt, hxe]
      simp only [Instr.next, Sem.run_bind, hgr, Result.andThen_ok, hg w h.heap, hnot, Bool.false_eq_true, if_false, hleft, hold, hnew, hc, hch, hci]
      have hset' := hset
      simp only [List.push_toArray] at hset'
      simp [ent, hset']
    · have hg2 : (getObj r).run P { w1 with heap := w1.heap.setIfInBounds r (.mapIter (some b) c ((vis.map (·.2.2)).toArray.push x.2.2) c) } = .ok (.mapIter (some b) c ((vis.map (·.2.2)).toArray.push x.2.2) c) { w1 with heap := w1.heap.setIfInBounds r (.mapIter (some b) c ((vis.map (·.2.2)).toArray.push x.2.2) c) } := by
        simp [getObj, Sem.run, hr1]
      have hfind : (l.map (ent ke ve)).toArray.find? (·.born == x.2.2) = some (ent ke ve x) := by
        rw [← Array.find?_toList]
        exact find_born h.stamps hxl
      simp only [Instr.entry, Sem.run_bind, hg2, Result.andThen_ok, Array.back?_push, hg _ hm2.heap, bne_self_eq_false, Bool.false_eq_true, if_false, hfind]
      rfl
end
end Go.VC
/-
  Loops that count from 0 on; the first place of an element. For every program.
-/
namespace Go.VC
open Go
variable {P : Program}

abbrev big : Nat := 9223372036854775807
theorem rangeI {t n : Nat} {w0 : World} {J : World → Prop} {B : Int → World → (World → Prop) → Prop} (Inv : Nat → World → Prop) (hn : n ≤ big) (h0 : Inv 0 w0)
    (hs : ∀ i, i < n → ∀ w, Inv i w → ∀ K : World → Prop, (∀ w', Inv (i + 1) w' → K w') → B (i : Int) w K) (he : ∀ w, Inv n w → J w) :
    LoopV [(t, .int .i64)] (fun K => K (0 : Int) w0) (fun N => fun (x : Int) (w : World) => cond (decide (x < (n : Int))) (Join [] (fun (w3 : World) => N (IntKind.wrap .i64 (x + 1)) w3) (fun J2 => B x w J2)) (J w)) := by
  refine LoopV.intro (fun m (x : Int) w => ∃ i : Nat, x = i ∧ m = n - i ∧ i ≤ n ∧ Inv i w) n ⟨0, rfl, by omega, by omega, h0⟩ ?_
  rintro m x w ⟨i, rfl, rfl, hi, hv⟩
  refine cond_intro (fun h => ?_) (fun h => ?_)
  · have hi : i < n := by simpa using h
    refine Join.dir (hs i hi w hv _ fun w' h' => ⟨n - (i + 1), by omega, i + 1, ?_, rfl, by omega, h'⟩)
    rw [wrap64 (by omega) (by have : n ≤ 9223372036854775807 := hn; omega)]; rfl
  · have hi : i = n := by have : ¬ i < n := by simpa using h
                          omega
    subst hi; exact he w hv
theorem rangeSI {t t' n : Nat} {w0 : World} {s0 : Sl} {J : Sl → World → Prop} {B : Sl → Int → World → (Sl → World → Prop) → Prop} (Inv : Nat → Sl → World → Prop) (hn : n ≤ big) (h0 : Inv 0 s0 w0)
    (hs : ∀ i, i < n → ∀ s w, Inv i s w → ∀ K : Sl → World → Prop, (∀ s' w', Inv (i + 1) s' w' → K s' w') → B s (i : Int) w K) (he : ∀ s w, Inv n s w → J s w) :
    LoopV [(t', .slice), (t, .int .i64)] (fun K => K s0 (0 : Int) w0) (fun N => fun (s : Sl) (x : Int) (w : World) => cond (decide (x < (n : Int))) (Join [(t', .slice)] (fun (s' : Sl) (w3 : World) => N s' (IntKind.wrap .i64 (x + 1)) w3) (fun J2 => B s x w J2)) (J s w)) := by
  refine LoopV.intro (fun m (s : Sl) (x : Int) w => ∃ i : Nat, x = i ∧ m = n - i ∧ i ≤ n ∧ Inv i s w) n ⟨0, rfl, by omega, by omega, h0⟩ ?_
  rintro m s x w ⟨i, rfl, rfl, hi, hv⟩
  refine cond_intro (fun h => ?_) (fun h => ?_)
  · have hi : i < n := by simpa using h
    refine Join.dir (hs i hi s w hv _ fun s' w' h' => ⟨n - (i + 1), by omega, i + 1, ?_, rfl, by omega, h'⟩)
    rw [wrap64 (by omega) (by have : n ≤ 9223372036854775807 := hn; omega)]; rfl
  · have hi : i = n := by have : ¬ i < n := by simpa using h
                          omega
    subst hi; exact he s w hv

/-! ### the first place of an element -/
section
variable {α : Type} [DecidableEq α]
def ix (x : α) : List α → Int
  | [] => -1
  | y :: r => if y = x then 0 else if ix x r < 0 then -1 else ix x r + 1
theorem ix_not {x : α} : ∀ {l : List α}, x ∉ l → ix x l = -1
  | [], _ => rfl
  | y :: r, h => by
    simp only [List.mem_cons, not_or] at h
    rw [ix, if_neg (fun e => h.1 e.symm), ix_not h.2]; rfl
theorem ix_at {x : α} : ∀ {l : List α} {i : Nat}, l[i]? = some x → x ∉ l.take i → ix x l = i
  | [], _, h, _ => by cases h
  | y :: r, 0, h, _ => by cases h; simp [ix]
  | y :: r, i + 1, h, hn => by
    simp only [List.take_succ_cons, List.mem_cons, not_or] at hn
    have := ix_at (l := r) (i := i) (by simpa using h) hn.2
    rw [ix, if_neg (fun e => hn.1 e.symm), this, if_neg (by omega)]; rfl
theorem ix_mem {x : α} : ∀ {l : List α}, x ∈ l → ∃ i : Nat, ix x l = i ∧ l[i]? = some x ∧ x ∉ l.take i
  | [], h => by cases h
  | y :: r, h => by
    by_cases e : y = x
    · subst e; exact ⟨0, by simp [ix], rfl, by simp⟩
    · obtain ⟨i, h1, h2, h3⟩ := ix_mem (l := r) (by rcases List.mem_cons.1 h with h | h; exact absurd h.symm e; exact h)
      refine ⟨i + 1, ?_, by simpa using h2, ?_⟩
      · rw [ix, if_neg e, h1, if_neg (by omega)]; rfl
      · simp only [List.take_succ_cons, List.mem_cons, not_or]; exact ⟨fun h => e h.symm, h3⟩
theorem ix_nonneg {x : α} {l : List α} : 0 ≤ ix x l ↔ x ∈ l := by
  constructor
  · intro h
    by_cases hm : x ∈ l
    · exact hm
    · rw [ix_not hm] at h; omega
  · intro h; obtain ⟨i, hi, _⟩ := ix_mem h; omega
end
theorem not_take {α : Type} {x : α} {l : List α} {i : Nat} (h : x ∉ l.take i) {y : α} (hy : l[i]? = some y) (hn : y ≠ x) : x ∉ l.take (i + 1) := by
  rw [List.take_add_one, hy]
  simp only [Option.toList_some, List.mem_append, List.mem_singleton, not_or]
  exact ⟨h, fun e => hn e.symm⟩
/-- An element that a loop loads. -/
theorem Sli.at {α : Type} {k : Nat} {enc : α → List Value} {w : World} {s : Sl} {l : List α} (hk : ∀ x, (enc x).length = k) (h : Sli k enc w s l) {i : Nat} (hi : i < l.length) :
    ∃ p : Pt, s.a = some ⟨p.b, p.o, none⟩ ∧ 0 ≤ (i : Int) ∧ (i : Int) < ((s.n : Nat) : Int) ∧ rd w p.b (p.o + i * k) (enc l[i]) := by
  obtain ⟨p, hp, hr⟩ := Sli.get hk h (List.getElem?_eq_getElem hi)
  exact ⟨p, hp, by omega, by have := h.len; omega, hr⟩
theorem Ints.at {w : World} {s : Sl} {l : List Int} (h : Ints w s l) {i : Nat} (hi : i < l.length) :
    ∃ p : Pt, s.a = some ⟨p.b, p.o, none⟩ ∧ 0 ≤ (i : Int) ∧ (i : Int) < ((s.n : Nat) : Int) ∧ w.cell? ⟨p.b, p.o + Int.toNat (i : Int) * 1, none⟩ = some (.int .i64 l[i]) := by
  obtain ⟨p, hp, h1, h2, hr⟩ := Sli.at eI_len h hi
  exact ⟨p, hp, h1, h2, hr.1⟩
/-- An element that a loop loads into a variable of its own. -/
theorem loadVar {α : Type} {enc : α → List Value} {k : Nat} {w : World} {s : Sl} {l : List α} (hk : ∀ x, (enc x).length = k) (h1 : ∀ x, ∀ v ∈ enc x, v.oneCell' = true) (h : Sli k enc w s l) {i : Nat} (hi : i < l.length) {T : TypeId} {z : Array Value} (hz : z.size = k) {B : Pt → World → World → Prop}
    (hB : ∀ p w4 w5, s.a = some ⟨p.b, p.o, none⟩ → Blk w5 w.heap.size (enc l[i]) T → Ext w w5 → B p w4 w5) :
    ∃ p : Pt, s.a = some ⟨p.b, p.o, none⟩ ∧ 0 ≤ (i : Int) ∧ (i : Int) < ((s.n : Nat) : Int) ∧ rd w p.b (p.o + Int.toNat (i : Int) * k) (enc l[i]) ∧ Let (w.alloc (.cells z T)) fun w4 => StoreOk w4 w.heap.size 0 (enc l[i]) k ∧ Let (put w4 w.heap.size 0 (enc l[i])) fun w5 => B p w4 w5 := by
  obtain ⟨p, hp, h2, h3, hr⟩ := Sli.at hk h hi
  obtain ⟨a, b, c⟩ := new_var w T (z := z) (vs := enc l[i]) (by rw [hz, hk]) (h1 _)
  refine ⟨p, hp, h2, h3, hr, ?_⟩
  rw [hk] at a
  exact ⟨a, hB p _ _ hp b c⟩
end Go.VC
/-
  Keys of maps and '==': ints, arrays of ints, structs of ints. For every program.
-/
namespace Go.VC
open Go
variable {P : Program}

theorem KeyOk.int {kt : TypeId} (h : P.underlying kt = some (.int .i64)) : KeyOk P kt (fun n : Int => Value.int .i64 n) where
  inj := fun a b e => by injection e
  chk := fun em k w => by
    have hall : ∀ n, (Instr.checkKey em (n + 1) kt (Value.int .i64 k)).run P w = .ok () w := fun n => by
      simp only [Instr.checkKey, Sem.run_bind, under_run h, Result.andThen_ok]
      rfl
    exact hall 9999
  bits := fun k => by simp [Instr.sameBits]
  find := by
    intro k es w hes
    have hfind : ∀ (es : List MapEntry) (i : Nat), (∀ e ∈ es, ∃ k' : Int, e.key = .int .i64 k') →
        (Instr.findNow (.int .i64) (.int .i64 k) es i = some none ∧ ∀ e ∈ es, e.key ≠ .int .i64 k) ∨
        ∃ j e, es[j]? = some e ∧ e.key = .int .i64 k ∧ Instr.findNow (.int .i64) (.int .i64 k) es i = some (some (i + j, e.val)) := by
      intro es
      induction es with
      | nil => intro i _; exact .inl ⟨rfl, by simp⟩
      | cons e r ih =>
        intro i hall
        obtain ⟨k', hk'⟩ := hall e (by simp)
        by_cases hkk : k = k'
        · subst hkk
          exact .inr ⟨0, e, rfl, hk', by simp [Instr.findNow, Instr.sameNow, hk']⟩
        · have hb : (k == k') = false := by simpa using hkk
          rcases ih (i + 1) (fun x hx => hall x (by simp [hx])) with ⟨h1, h2⟩ | ⟨j, x, h1, h2, h3⟩
          · refine .inl ⟨by simp only [Instr.findNow, Instr.sameNow, hk', if_true, hb, h1], ?_⟩
            intro x hx
            rcases List.mem_cons.1 hx with rfl | hx
            · rw [hk']; intro e; injection e with _ e; exact hkk e.symm
            · exact h2 x hx
          · refine .inr ⟨j + 1, x, by simpa using h1, h2, ?_⟩
            simp only [Instr.findNow, Instr.sameNow, hk', if_true, hb, h3]
            rw [show i + 1 + j = i + (j + 1) from by omega]
    rcases hfind es 0 hes with ⟨h1, h2⟩ | ⟨j, x, h1, h2, h3⟩
    · exact .inl ⟨by simp [Instr.findKey, under_run h, h1], h2⟩
    · exact .inr ⟨j, x, h1, h2, by simp [Instr.findKey, under_run h, h3]⟩

/-! ### arrays of ints -/
def ints (l : List Int) : Value := .agg (l.map (Value.int .i64)).toArray
structure IntArr (P : Program) (t e n : Nat) : Prop where
  arr : P.underlying t = some (.array n e)
  elem : P.underlying e = some (.int .i64)
  cell : P.cellsOf e = 1
  guard : P.eqGuardType P.depth t = false
theorem IntArr.info {t e n : Nat} (A : IntArr P t e n) : ∃ i, P.info? e = some i := info_of_underlying A.elem
theorem part_int {e : Nat} (he : P.underlying e = some (.int .i64)) {xs : List Int} {i : Nat} (hi : i < xs.length) (w : World) : (part e (xs.map (Value.int .i64)).toArray i).run P w = .ok (.int .i64 xs[i]) w :=
  run_part_plain w (by simp [Program.plainKey, he]) (by simp [hi])
theorem eqItems_ints {t e n : Nat} (A : IntArr P t e n) {xs ys : List Int} (hl : xs.length = ys.length) (d : Nat) (w : World) : ∀ is : List Nat, (∀ i ∈ is, i < xs.length) →
    (Op.eqItems (d + 1) e 1 (xs.map (Value.int .i64)).toArray (ys.map (Value.int .i64)).toArray is).run P w = .ok (is.all fun i => xs[i]? == ys[i]?) w
  | [], _ => rfl
  | i :: is, h => by
    have h1 : i < xs.length := h i (by simp)
    have h2 : i < ys.length := by omega
    simp only [Op.eqItems, Nat.mul_one, Sem.run_bind, part_int A.elem h1, part_int A.elem h2, Result.andThen_ok, run_equalIn_int w d e .i64 .i64 _ _ A.elem]
    rw [List.all_cons, List.getElem?_eq_getElem h1, List.getElem?_eq_getElem h2]
    by_cases e : xs[i] = ys[i]
    · simp [e, eqItems_ints A hl d w is (fun j hj => h j (by simp [hj]))]
    · simp [e]
theorem equalIn_ints {t e n : Nat} (A : IntArr P t e n) {xs ys : List Int} (hx : xs.length = n) (hy : ys.length = n) (d : Nat) (w : World) :
    (Op.equalIn (d + 2) t (ints xs) (ints ys)).run P w = .ok (decide (xs = ys)) w := by
  obtain ⟨i, hi⟩ := A.info
  unfold ints
  rw [show d + 2 = (d + 1) + 1 from rfl, run_equalIn_array w (d + 1) _ _ A.arr hi, A.cell, eqItems_ints A (by omega) d w _ (by simp [hx])]
  congr 1
  by_cases e : xs = ys
  · subst e; simp
  · simp only [e, decide_false]
    rw [Bool.eq_false_iff]
    intro hall
    apply e
    apply List.ext_getElem?
    intro j
    rw [List.all_eq_true] at hall
    by_cases hj : j < n
    · simpa using hall j (by simp [hj])
    · rw [List.getElem?_eq_none (by omega), List.getElem?_eq_none (by omega)]
theorem aggEq_ints {t e n : Nat} (A : IntArr P t e n) {xs ys : List Int} (hx : xs.length = n) (hy : ys.length = n) (w : World) :
    (aggEq .eql t (ints xs) (ints ys)).run P w = .ok (.bool (decide (xs = ys))) w := by
  have h := equalIn_ints A hx hy 9998 w
  unfold ints at h ⊢
  simp only [aggEq, Sem.run_bind, run_eqGuard_agg w .eql t _ _ _ _ A.guard, Result.andThen_ok, run_eql_struct w]
  rw [show (10000 : Nat) = 9998 + 2 from rfl, h]; rfl
theorem forIn_ok {α : Type} {f : α → PUnit → Sem (ForInStep PUnit)} {w : World} : ∀ {l : List α}, (∀ x ∈ l, (f x ()).run P w = .ok (.yield ()) w) → (forIn l PUnit.unit f).run P w = .ok () w
  | [], _ => rfl
  | x :: r, h => by
    rw [List.forIn_cons, Sem.run_bind, h x (by simp)]
    exact forIn_ok (l := r) fun y hy => h y (by simp [hy])
theorem checkKey_ints {t e n : Nat} (A : IntArr P t e n) {xs : List Int} (hx : xs.length = n) (em : Bool) (d : Nat) (w : World) : (Instr.checkKey em (d + 2) t (ints xs)).run P w = .ok () w := by
  obtain ⟨i, hi⟩ := A.info
  have hc : (sizeOf e).run P w = .ok 1 w := by rw [run_sizeOf w hi, A.cell]
  unfold ints
  simp only [Instr.checkKey, Sem.run_bind, under_run A.arr, Result.andThen_ok]
  simp only [Std.Legacy.Range.forIn_eq_forIn_range', Std.Legacy.Range.size, Nat.sub_zero, Nat.add_one_sub_one, Nat.div_one]
  rw [forIn_ok (P := P) (w := w)]
  · rfl
  · intro j hj
    have hj : j < xs.length := by simp [List.mem_range'] at hj; omega
    have hp := part_int A.elem hj w
    simp [hc, hp, under_run A.elem]
theorem findAsking_of {κ : Type} [DecidableEq κ] {kt : Nat} {ke : κ → Value} (inj : ∀ a b, ke a = ke b → a = b) (heq : ∀ a b w, (Op.equal kt (ke a) (ke b)).run P w = .ok (decide (a = b)) w) (k : κ) (w : World) :
    ∀ (es : List MapEntry) (i : Nat), (∀ e ∈ es, ∃ k', e.key = ke k') → (Instr.findAsking kt (ke k) es i).run P w = .ok none w ∧ (∀ e ∈ es, e.key ≠ ke k) ∨
      ∃ j e, es[j]? = some e ∧ e.key = ke k ∧ (Instr.findAsking kt (ke k) es i).run P w = .ok (some (i + j, e.val)) w
  | [], i, _ => .inl ⟨rfl, by simp⟩
  | e :: r, i, hall => by
    obtain ⟨k', hk'⟩ := hall e (by simp)
    by_cases hkk : k = k'
    · subst hkk
      exact .inr ⟨0, e, rfl, hk', by simp [Instr.findAsking, hk', heq]⟩
    · rcases findAsking_of inj heq k w r (i + 1) (fun x hx => hall x (by simp [hx])) with ⟨h1, h2⟩ | ⟨j, x, h1, h2, h3⟩
      · refine .inl ⟨by simp [Instr.findAsking, hk', heq, hkk, h1], ?_⟩
        intro x hx
        rcases List.mem_cons.1 hx with rfl | hx
        · rw [hk']; exact fun e => hkk (inj _ _ e).symm
        · exact h2 x hx
      · refine .inr ⟨j + 1, x, by simpa using h1, h2, ?_⟩
        simp [Instr.findAsking, hk', heq, hkk, h3]; omega
/-- The keys are arrays of ints. -/
theorem KeyOk.arr {κ : Type} [DecidableEq κ] {t e n : Nat} (A : IntArr P t e n) (f : κ → List Int) (hf : ∀ a b, f a = f b → a = b) (hl : ∀ a, (f a).length = n) : KeyOk P t (fun k => ints (f k)) where
  inj := fun a b h => hf a b (by
    have h : (f a).map (Value.int .i64) = (f b).map (Value.int .i64) := by simpa [ints] using h
    exact List.map_inj_right (fun x y e => by injection e) |>.1 h)
  chk := fun em k w => checkKey_ints A (hl k) em 9998 w
  bits := fun k => by
    show Instr.sameBits (9999 + 1) _ _ = true
    simp only [ints, Instr.sameBits, beq_self_eq_true, Bool.true_and, List.all_eq_true]
    intro p hp
    obtain ⟨i, hi, e⟩ := List.getElem_of_mem hp
    rw [List.getElem_zip] at e
    rw [← e]
    simp [Instr.sameBits]
  find := by
    intro k es w hes
    have hfe : (Instr.findKey t (ints (f k)) es).run P w = (Instr.findAsking t (ints (f k)) es).run P w := run_findKey_eq w (by simp [A.arr]) _ _
    have inj : ∀ a b, ints (f a) = ints (f b) → a = b := fun a b h => hf a b (by
      have h : (f a).map (Value.int .i64) = (f b).map (Value.int .i64) := by simpa [ints] using h
      exact List.map_inj_right (fun x y e => by injection e) |>.1 h)
    have heq : ∀ a b w, (Op.equal t (ints (f a)) (ints (f b))).run P w = .ok (decide (a = b)) w := fun a b w => by
      show (Op.equalIn (9998 + 2) t _ _).run P w = _
      rw [equalIn_ints A (hl a) (hl b) 9998 w]
      by_cases h : a = b
      · subst h; simp
      · have : ¬ f a = f b := fun e => h (hf _ _ e)
        simp [h, this]
    rcases findAsking_of (P := P) (kt := t) (ke := fun k => ints (f k)) inj heq k w es 0 hes with ⟨h1, h2⟩ | ⟨j, x, h1, h2, h3⟩
    · exact .inl ⟨by rw [hfe]; exact h1, h2⟩
    · exact .inr ⟨j, x, h1, h2, by rw [hfe]; simpa using h3⟩
end Go.VC
namespace Go.VC
open Go
variable {P : Program}
/-! ### structs of ints -/
structure IntStr (P : Program) (t n : Nat) : Prop where
  st : P.underlying t = some (.struct (P.fieldsOf t))
  held : P.stoodInHeld t = false
  guard : P.eqGuardType P.depth t = false
  flds : ((P.fieldsOf t).toList.all fun f => f.name != "_" && (match P.underlying f.type with | some (.int .i64) => true | _ => false)) = true
  offs : (P.fieldsOf t).toList.map (·.offset) = List.range n
theorem eqFields_ints {xs ys : List Int} (hl : xs.length = ys.length) (d : Nat) (w : World) : ∀ fs : List Field, (fs.all fun f => f.name != "_" && (match P.underlying f.type with | some (.int .i64) => true | _ => false)) = true → (∀ f ∈ fs, f.offset < xs.length) →
    (Op.eqFields (d + 1) (xs.map (Value.int .i64)).toArray (ys.map (Value.int .i64)).toArray fs).run P w = .ok (fs.all fun f => xs[f.offset]? == ys[f.offset]?) w
  | [], _, _ => rfl
  | f :: r, hf, h => by
    simp only [List.all_cons, Bool.and_eq_true] at hf
    obtain ⟨⟨hn, hu⟩, hr⟩ := hf
    have he : P.underlying f.type = some (.int .i64) := by split at hu <;> simp_all
    have h1 : f.offset < xs.length := h f (by simp)
    have h2 : f.offset < ys.length := by omega
    have hn : f.name ≠ "_" := by simpa using hn
    simp only [Op.eqFields, hn, ne_eq, not_false_eq_true, if_true, Sem.run_bind, part_int he h1, part_int he h2, Result.andThen_ok, run_equalIn_int w d f.type .i64 .i64 _ _ he]
    rw [List.all_cons, List.getElem?_eq_getElem h1, List.getElem?_eq_getElem h2]
    by_cases e : xs[f.offset] = ys[f.offset]
    · simp [e, eqFields_ints hl d w r hr (fun j hj => h j (by simp [hj]))]
    · simp [e]
theorem equalIn_str {t n : Nat} (A : IntStr P t n) {xs ys : List Int} (hx : xs.length = n) (hy : ys.length = n) (d : Nat) (w : World) :
    (Op.equalIn (d + 2) t (ints xs) (ints ys)).run P w = .ok (decide (xs = ys)) w := by
  unfold ints
  have hoff : ∀ f ∈ (P.fieldsOf t).toList, f.offset < xs.length := fun f hf => by
    have : f.offset ∈ List.range n := by rw [← A.offs]; exact List.mem_map.2 ⟨f, hf, rfl⟩
    simp at this; omega
  rw [show d + 2 = (d + 1) + 1 from rfl, run_equalIn_agg w (d + 1) t _ _ A.st A.held, eqFields_ints (by omega) d w _ A.flds hoff]
  congr 1
  by_cases e : xs = ys
  · subst e; simp
  · simp only [e, decide_false]
    rw [Bool.eq_false_iff]
    intro hall
    apply e
    apply List.ext_getElem?
    intro j
    rw [List.all_eq_true] at hall
    by_cases hj : j < n
    · have : j ∈ (P.fieldsOf t).toList.map (·.offset) := by rw [A.offs]; simp [hj]
      obtain ⟨f, hf, rfl⟩ := List.mem_map.1 this
      simpa using hall f hf
    · rw [List.getElem?_eq_none (by omega), List.getElem?_eq_none (by omega)]
theorem aggEq_str {t n : Nat} (A : IntStr P t n) {xs ys : List Int} (hx : xs.length = n) (hy : ys.length = n) (w : World) :
    (aggEq .eql t (ints xs) (ints ys)).run P w = .ok (.bool (decide (xs = ys))) w := by
  have h := equalIn_str A hx hy 9998 w
  unfold ints at h ⊢
  simp only [aggEq, Sem.run_bind, run_eqGuard_agg w .eql t _ _ _ _ A.guard, Result.andThen_ok, run_eql_struct w]
  rw [show (10000 : Nat) = 9998 + 2 from rfl, h]; rfl
end Go.VC
/-
  More of append: an empty row of its own, nothing appended, another slice appended. For every program.
-/
namespace Go.VC
open Go
variable {P : Program}

theorem Own.empty {α : Type} {T size : Nat} {enc : α → List Value} (w : World) : Own T size enc w.heap.size (w.alloc (.cells #[] T)) ⟨some ⟨w.heap.size, 0, none⟩, 0, 0⟩ ([] : List α) :=
  ⟨rfl, by simp, .inr ⟨w.heap.size, 0, #[], rfl, Nat.le_refl _, by show (w.heap.push _)[w.heap.size]? = _; simp, Nat.le_refl _, Nat.zero_le _, by simp, by simp⟩⟩
theorem appendNil {t e size bytes : Nat} (E : Elem P t e size bytes) {s s2 : Sl} (hc : s.n ≤ s.c) (h2 : s2.n = 0) (ty : Nat) (w : World) :
    (Builtin.append_ #[t, t] ty #[.slice s.a s.n s.c, .slice s2.a s2.n s2.c]).run P w = .ok (.slice s.a s.n s.c) w := by
  obtain ⟨i, z, hi, _, hsz, _⟩ := E.info
  have hf : (Builtin.firstCells size 0 (.slice s2.a 0 s2.c)).run P w = .ok #[] w := by
    cases s2.a with
    | none => rfl
    | some a => simp [Builtin.firstCells, loadCells, loadCellsFrom]
  obtain ⟨a, n, c⟩ := s
  obtain ⟨a2, n2, c2⟩ := s2
  simp only at hc h2 hf ⊢
  subst h2
  subst hsz
  cases a with
  | none => simp [Builtin.append_, run_underlying E.under, sizeOf, typeInfo, hi, Builtin.lenOf, hc, hf]
  | some a => simp [Builtin.append_, run_underlying E.under, sizeOf, typeInfo, hi, Builtin.lenOf, hc, hf, storeCells]
/-- 'append(s, xs...)', xs any slice that reads as a list. -/
theorem appendSli {α : Type} {t e size bytes : Nat} (E : Elem P t e size bytes) {enc : α → List Value} {B : Nat} {w : World} {s : Sl} {l : List α} (h : Own e size enc B w s l) {s2 : Sl} {l2 : List α}
    (h2 : Sli size enc w s2 l2) (hk : ∀ x, (enc x).length = size) (h1 : ∀ x, ∀ v ∈ enc x, v.oneCell' = true) (hlen : (l.length + l2.length) * bytes ≤ 140737488355328) (hlen' : l.length + l2.length ≤ maxLen) (hB : B ≤ w.heap.size) (ty : Nat) :
    ∃ (s' : Sl) (w' : World), (Builtin.append_ #[t, t] ty #[.slice s.a s.n s.c, .slice s2.a s2.n s2.c]).run P w = .ok (.slice s'.a s'.n s'.c) w' ∧ Own e size enc B w' s' (l ++ l2) ∧ Fr (fun b => ∃ a, s.a = some a ∧ a.block = b) w w' := by
  by_cases hl : l2 = []
  · subst hl
    exact ⟨s, w, appendNil E h.sli.cap h2.len ty w, by simpa using h, Fr.refl _ w⟩
  · obtain ⟨p, hp, hr⟩ := h2.mem hl
    exact appendOwn E h h2.len hp hr hk h1 hlen hlen' hB ty
end Go.VC
/-
  A slice that the call owns, written in place. For every program.
-/
namespace Go.VC
open Go
variable {P : Program}

theorem eI_flat (l : List Int) : l.flatMap eI = l.map (Value.int .i64) := by
  induction l with
  | nil => rfl
  | cons x r ih => simp [eI] at ih ⊢; exact ih
/-- 's[i] = v' of an owned slice of ints. -/
theorem Own.store {T B : Nat} {w : World} {s : Sl} {l : List Int} (h : Own T 1 eI B w s l) {i : Nat} (hi : i < l.length) (v : Int) :
    ∃ p : Pt, s.a = some ⟨p.b, p.o, none⟩ ∧ 0 ≤ (i : Int) ∧ (i : Int) < ((s.n : Nat) : Int) ∧ StoreOk w p.b (p.o + Int.toNat (i : Int) * 1) [.int .i64 v] 1 ∧
      Own T 1 eI B (put w p.b (p.o + Int.toNat (i : Int) * 1) [.int .i64 v]) s (l.set i v) ∧ Fr (fun b => ∃ a, s.a = some a ∧ a.block = b) w (put w p.b (p.o + Int.toNat (i : Int) * 1) [.int .i64 v]) := by
  obtain ⟨hn, hl, h⟩ := h
  rcases h with ⟨h1, h2⟩ | ⟨g, cap, cur, hv, hb, hg, hc, hm, hsz, ht⟩
  · omega
  · simp only [Value.slice.injEq] at hv
    obtain ⟨h1, h2, h3⟩ := hv
    have hb' : Blk w g cur.toList T := by unfold Blk; simpa using hg
    have hlt : i < cur.size := by omega
    have e : (⟨g, 0⟩ : Pt).o + Int.toNat (i : Int) * 1 = i := by simp
    refine ⟨⟨g, 0⟩, h1, by omega, by omega, ?_, ?_, ?_⟩
    · rw [e]; exact hb'.storeOk rfl (by simp [Value.oneCell']) (by simp; omega)
    · rw [e]
      have hput := hb'.put (o := i) (vs := [.int .i64 v])
      refine ⟨by simp [hn], by simp [eI_flat], .inr ⟨g, cap, cur.setIfInBounds i (.int .i64 v), by rw [h1, h2, h3]; simp, hb, ?_, by simpa using hc, hm, by simpa using hsz, ?_⟩⟩
      · unfold Blk at hput
        simp only [setR] at hput
        rw [hput]; congr 1; congr 1; apply Array.ext'; simp
      · rw [eI_flat] at ht ⊢
        simp only [Array.toList_setIfInBounds, List.length_set]
        rw [List.take_set, ht, List.map_set]
    · exact (Fr.put _ _ _ _).mono fun b _ hb => ⟨_, h1, hb.symm⟩
end Go.VC
namespace Go.VC
open Go
theorem flatMap_len {α : Type} {k : Nat} {enc : α → List Value} (hk : ∀ x, (enc x).length = k) : ∀ l : List α, (l.flatMap enc).length = l.length * k
  | [] => by simp
  | x :: r => by simp [List.flatMap_cons, hk, flatMap_len hk r, Nat.add_mul]; omega
/-- 's[m:]' -/
theorem Sli.drop {α : Type} {k : Nat} {enc : α → List Value} {w : World} {s : Sl} {l : List α} (hk : ∀ x, (enc x).length = k) (h : Sli k enc w s l) {m : Nat} (hm : m ≤ l.length) : Sli k enc w ⟨subA s.a s.c m k, s.n - m, s.c - m⟩ (l.drop m) := by
  have h1 := h.len
  have h2 := h.cap
  refine ⟨by simp [h1], by simp only; omega, fun hne => ?_⟩
  have hlt : m < l.length := by
    rcases Nat.lt_or_ge m l.length with h | h
    · exact h
    · exact absurd (List.drop_eq_nil_of_le h) hne
  obtain ⟨p, hp, hr⟩ := h.mem (by rintro rfl; simp at hlt)
  refine ⟨⟨p.b, p.o + m * k⟩, ?_, ?_⟩
  · simp only [subA]
    rw [if_neg (by omega), hp, Option.map_some, addr_add_plain]
  · have e : l.flatMap enc = (l.take m).flatMap enc ++ (l.drop m).flatMap enc := by rw [← List.flatMap_append, List.take_append_drop]
    rw [e, rd_append, flatMap_len hk, List.length_take, Nat.min_eq_left hm] at hr
    exact hr.2
/-- 's[:m]' -/
theorem Sli.take {α : Type} {k : Nat} {enc : α → List Value} {w : World} {s : Sl} {l : List α} (h : Sli k enc w s l) {m : Nat} (hm : m ≤ l.length) : Sli k enc w ⟨s.a, m, s.c⟩ (l.take m) := by
  have h1 := h.len
  have h2 := h.cap
  refine ⟨by simp [hm], by simp only; omega, fun hne => ?_⟩
  obtain ⟨p, hp, hr⟩ := h.mem (by rintro rfl; simp at hne)
  refine ⟨p, hp, ?_⟩
  have e : l.flatMap enc = (l.take m).flatMap enc ++ (l.drop m).flatMap enc := by rw [← List.flatMap_append, List.take_append_drop]
  rw [e, rd_append] at hr
  exact hr.1
end Go.VC
namespace Go.VC
open Go
theorem rangeKI {t t' n : Nat} {k : SK} {w0 : World} {s0 : k.T} {J : k.T → World → Prop} {B : k.T → Int → World → (k.T → World → Prop) → Prop} (Inv : Nat → k.T → World → Prop) (hn : n ≤ big) (h0 : Inv 0 s0 w0)
    (hs : ∀ i, i < n → ∀ s w, Inv i s w → ∀ K : k.T → World → Prop, (∀ s' w', Inv (i + 1) s' w' → K s' w') → B s (i : Int) w K) (he : ∀ s w, Inv n s w → J s w) :
    LoopV [(t', k), (t, .int .i64)] (fun K => K s0 (0 : Int) w0) (fun N => fun (s : k.T) (x : Int) (w : World) => cond (decide (x < (n : Int))) (Join [(t', k)] (fun (s' : k.T) (w3 : World) => N s' (IntKind.wrap .i64 (x + 1)) w3) (fun J2 => B s x w J2)) (J s w)) := by
  refine LoopV.intro (fun m (s : k.T) (x : Int) w => ∃ i : Nat, x = i ∧ m = n - i ∧ i ≤ n ∧ Inv i s w) n ⟨0, rfl, by omega, by omega, h0⟩ ?_
  rintro m s x w ⟨i, rfl, rfl, hi, hv⟩
  refine cond_intro (fun h => ?_) (fun h => ?_)
  · have hi : i < n := by simpa using h
    refine Join.dir (hs i hi s w hv _ fun s' w' h' => ⟨n - (i + 1), by omega, i + 1, ?_, rfl, by omega, h'⟩)
    rw [wrap64 (by omega) (by have : n ≤ 9223372036854775807 := hn; omega)]; rfl
  · have hi : i = n := by have : ¬ i < n := by simpa using h
                          omega
    subst hi; exact he s w hv
end Go.VC
