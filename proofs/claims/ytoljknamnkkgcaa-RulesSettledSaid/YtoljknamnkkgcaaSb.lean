/-
  Printed by a program of this session (wip/tools/vcprint.py): of each Go function the shallow form, and that the calculus comes to it, by the kernel.
-/
import Derived.Test.YtoljknamnkkgcaaSa
import Derived.Test.YtoljknamnkkgcaaProg
import Derived.KernelRfl
namespace Go.Proofs.Ytoljknamnkkgcaa
open Go Go.VC
set_option maxRecDepth 100000

/-- F80: cubeb/rules.key -/
def An80 : An := (.sq .lf (.sq (.dr [0, 1, 2, 3, 4, 5, 6, 7, 8] [8] true none) (.sq (.sq .lf (.cj [] .lf .lf)) (.sq .lf .lf))))
def S80 (x0_0 : Int) (s0_1 : Sl) (R : Value → World → Prop) (w : World) : Prop :=
  Let (w.alloc (.cells [(.int .i64 x0_0), (.slice s0_1.a s0_1.n s0_1.c)].toArray 36)) fun w1 => 
  Let (w1.alloc (.cells (zc Try.prog 121) 121)) fun w2 => 
  ∃ S1 : World → Prop, S1 w2.drew ∧ Let w2.drew fun w3 =>
  ∃ x5 : Int, (∀ u, S1 u → World.cell? u ⟨w.heap.size, (0 + 0), none⟩ = some (.int .i64 x5)) ∧ ∃ s7 : Sl, (∀ u, S1 u → World.cell? u ⟨w.heap.size, (0 + 1), none⟩ = some (.slice s7.a s7.n s7.c)) ∧ ∃ p8 : Pt, s7.a = some ⟨p8.b, p8.o, none⟩ ∧ 0 ≤ (0 : Int) ∧ (0 : Int) < ((s7.n : Nat) : Int) ∧ ∃ x9 : Int, (∀ u, S1 u → World.cell? u ⟨p8.b, (p8.o + Int.toNat (0 : Int) * 1), none⟩ = some (.int .i64 x9)) ∧ Let (w3.alloc (.cells (zc Try.prog 121) 121)) fun w4 => 
  S1 w4 ∧ StoreOk w4 w3.heap.size 0 [(.int .i64 x5), (.int .i64 x9), (.int .i64 (0 : Int))] 3 ∧ Let (put w4 w3.heap.size 0 [(.int .i64 x5), (.int .i64 x9), (.int .i64 (0 : Int))]) fun w5 => 
  ∃ s12 : Sl, World.cell? w5 ⟨w.heap.size, (0 + 1), none⟩ = some (.slice s12.a s12.n s12.c) ∧ Join [] (fun (w6 : World) => ∃ x20_0 : Int, ∃ x20_1 : Int, ∃ x20_2 : Int, rd w6 w3.heap.size 0 [(.int .i64 x20_0), (.int .i64 x20_1), (.int .i64 x20_2)] ∧ StoreOk w6 w1.heap.size 0 [(.int .i64 x20_0), (.int .i64 x20_1), (.int .i64 x20_2)] 3 ∧ Let (put w6 w1.heap.size 0 [(.int .i64 x20_0), (.int .i64 x20_1), (.int .i64 x20_2)]) fun w7 => 
  ∃ xr2_0 : Int, ∃ xr2_1 : Int, ∃ xr2_2 : Int, rd w7 w1.heap.size 0 [(.int .i64 xr2_0), (.int .i64 xr2_1), (.int .i64 xr2_2)] ∧ R (.agg [(.int .i64 xr2_0), (.int .i64 xr2_1), (.int .i64 xr2_2)].toArray) w7) (fun J =>
  cond (decide (((s12.n : Nat) : Int) > (1 : Int))) (
  ∃ s16 : Sl, World.cell? w5 ⟨w.heap.size, (0 + 1), none⟩ = some (.slice s16.a s16.n s16.c) ∧ ∃ p17 : Pt, s16.a = some ⟨p17.b, p17.o, none⟩ ∧ 0 ≤ (1 : Int) ∧ (1 : Int) < ((s16.n : Nat) : Int) ∧ ∃ x18 : Int, World.cell? w5 ⟨p17.b, (p17.o + Int.toNat (1 : Int) * 1), none⟩ = some (.int .i64 x18) ∧ StoreOk w5 w3.heap.size (0 + 2) [(.int .i64 x18)] 1 ∧ Let (put w5 w3.heap.size (0 + 2) [(.int .i64 x18)]) fun w8 => 
  J w8) (
  J w5))
theorem eq80 (x0_0 : Int) (s0_1 : Sl) (R : Value → World → Prop) (w : World) : funV Try.prog Try.f80 An80 [(.agg [(.int .i64 x0_0), (.slice s0_1.a s0_1.n s0_1.c)].toArray)] R w = S80 x0_0 s0_1 R w := by kernel_rfl
theorem call80 (x0_0 : Int) (s0_1 : Sl) {R : Value → World → Prop} {w : World} (h : S80 x0_0 s0_1 R w) : Calls Try.prog 80 [(.agg [(.int .i64 x0_0), (.slice s0_1.a s0_1.n s0_1.c)].toArray)].toArray w fun e w' => ∃ v, e = .returned v ∧ R v w' :=
  funV_calls mixed Try.func80 (an := An80) (by rw [eq80]; exact h)

/-- F107: (cubeb/rules.fact).api -/
def An107 : An := (.sq .lf (.sq (.sq .lf (.cd (.sq .lf .lf) .lf)) (.sq .lf .lf)))
def S107 (x0_0 : Int) (x0_1 : Int) (x0_2 : Int) (R : Value → World → Prop) (w : World) : Prop :=
  Let (w.alloc (.cells [(.int .i64 x0_0), (.int .i64 x0_1), (.int .i64 x0_2)].toArray 121)) fun w1 => 
  Let (w1.alloc (.cells (zc Try.prog 36) 36)) fun w2 => 
  ∃ x4 : Int, World.cell? w2 ⟨w.heap.size, (0 + 2), none⟩ = some (.int .i64 x4) ∧ cond (x4 == (0 : Int)) (
  ∃ x7 : Int, World.cell? w2 ⟨w.heap.size, (0 + 0), none⟩ = some (.int .i64 x7) ∧ ∃ x9 : Int, World.cell? w2 ⟨w.heap.size, (0 + 1), none⟩ = some (.int .i64 x9) ∧ ∃ (s10 : Sl) (w3 : World), Sem.run Try.prog (Instr.buildSlice 34 1 [(0, (.int .i64 x9))].toArray) w2 = .ok (.slice s10.a s10.n s10.c) w3 ∧
  StoreOk w3 w1.heap.size 0 [(.int .i64 x7), (.slice s10.a s10.n s10.c)] 2 ∧ Let (put w3 w1.heap.size 0 [(.int .i64 x7), (.slice s10.a s10.n s10.c)]) fun w4 => 
  ∃ xr2_0 : Int, ∃ sr2_1 : Sl, rd w4 w1.heap.size 0 [(.int .i64 xr2_0), (.slice sr2_1.a sr2_1.n sr2_1.c)] ∧ R (.agg [(.int .i64 xr2_0), (.slice sr2_1.a sr2_1.n sr2_1.c)].toArray) w4) (
  ∃ x13 : Int, World.cell? w2 ⟨w.heap.size, (0 + 0), none⟩ = some (.int .i64 x13) ∧ ∃ x15 : Int, World.cell? w2 ⟨w.heap.size, (0 + 1), none⟩ = some (.int .i64 x15) ∧ ∃ x17 : Int, World.cell? w2 ⟨w.heap.size, (0 + 2), none⟩ = some (.int .i64 x17) ∧ ∃ (s18 : Sl) (w5 : World), Sem.run Try.prog (Instr.buildSlice 34 2 [(0, (.int .i64 x15)), (1, (.int .i64 x17))].toArray) w2 = .ok (.slice s18.a s18.n s18.c) w5 ∧
  StoreOk w5 w1.heap.size 0 [(.int .i64 x13), (.slice s18.a s18.n s18.c)] 2 ∧ Let (put w5 w1.heap.size 0 [(.int .i64 x13), (.slice s18.a s18.n s18.c)]) fun w6 => 
  ∃ xr2_0_2 : Int, ∃ sr2_1_2 : Sl, rd w6 w1.heap.size 0 [(.int .i64 xr2_0_2), (.slice sr2_1_2.a sr2_1_2.n sr2_1_2.c)] ∧ R (.agg [(.int .i64 xr2_0_2), (.slice sr2_1_2.a sr2_1_2.n sr2_1_2.c)].toArray) w6)
theorem eq107 (x0_0 : Int) (x0_1 : Int) (x0_2 : Int) (R : Value → World → Prop) (w : World) : funV Try.prog Try.f107 An107 [(.agg [(.int .i64 x0_0), (.int .i64 x0_1), (.int .i64 x0_2)].toArray)] R w = S107 x0_0 x0_1 x0_2 R w := by kernel_rfl
theorem call107 (x0_0 : Int) (x0_1 : Int) (x0_2 : Int) {R : Value → World → Prop} {w : World} (h : S107 x0_0 x0_1 x0_2 R w) : Calls Try.prog 107 [(.agg [(.int .i64 x0_0), (.int .i64 x0_1), (.int .i64 x0_2)].toArray)].toArray w fun e w' => ∃ v, e = .returned v ∧ R v w' :=
  funV_calls mixed Try.func107 (an := An107) (by rw [eq107]; exact h)

/-- F102: (*cubeb/rules.arities).add -/
def An102 : An := (.sq .lf (.sq (.sq (.rj [] [(37, .bool)]) (.cd (.sq .lf .lf) .lf)) (.sq .lf (.sq .lf .lf))))
def S102 (p0 : Pt) (x1 : Int) (x2 : Int) (R : Value → World → Prop) (w : World) : Prop :=
  Join [(37, .bool)] (fun (b37 : Bool) (w1 : World) => cond b37 (
  R (.bool false) w1) (
  0 ≤ x1 ∧ x1 < ((6 : Nat) : Int) ∧ StoreOk w1 p0.b (p0.o + Int.toNat x1 * 1) [(.int .i64 x2)] 1 ∧ Let (put w1 p0.b (p0.o + Int.toNat x1 * 1) [(.int .i64 x2)]) fun w2 => 
  R (.bool true) w2)) (fun J =>
  cond (decide (x1 < (0 : Int))) (J true w) (cond (decide (x1 ≥ (6 : Int))) (J true w) (cond (decide (x2 < (1 : Int))) (J true w) (cond (decide (x2 > (2 : Int))) (J true w) (0 ≤ x1 ∧ x1 < ((6 : Nat) : Int) ∧ ∃ x26 : Int, World.cell? w ⟨p0.b, (p0.o + Int.toNat x1 * 1), none⟩ = some (.int .i64 x26) ∧ cond (x26 != (0 : Int)) (0 ≤ x1 ∧ x1 < ((6 : Nat) : Int) ∧ ∃ x33 : Int, World.cell? w ⟨p0.b, (p0.o + Int.toNat x1 * 1), none⟩ = some (.int .i64 x33) ∧ J (x33 != x2) w) (J false w))))))
theorem eq102 (p0 : Pt) (x1 : Int) (x2 : Int) (R : Value → World → Prop) (w : World) : funV Try.prog Try.f102 An102 [(.pointer (some ⟨p0.b, p0.o, none⟩)), (.int .i64 x1), (.int .i64 x2)] R w = S102 p0 x1 x2 R w := by kernel_rfl
theorem call102 (p0 : Pt) (x1 : Int) (x2 : Int) {R : Value → World → Prop} {w : World} (h : S102 p0 x1 x2 R w) : Calls Try.prog 102 [(.pointer (some ⟨p0.b, p0.o, none⟩)), (.int .i64 x1), (.int .i64 x2)].toArray w fun e w' => ∃ v, e = .returned v ∧ R v w' :=
  funV_calls mixed Try.func102 (an := An102) (by rw [eq102]; exact h)

/-- F105: slices.Min[[]int,int] -/
def An105 : An := (.sq .lf (.sq (.sq .lf (.cj [] .lf .lf)) (.sq .lf (.sq (.sq .lf (.bk [(3, .int .i64)] (.lp [(3, .int .i64), (4, .int .i64)] (.sq (.sq .lf (.cd .lf .lf)) (.sq (.bk [(3, .int .i64)] .lf) .lf))))) (.sq .lf .lf)))))
def S105 (s0 : Sl) (R : Value → World → Prop) (w : World) : Prop :=
  Join [] (fun (w1 : World) => ∃ p10 : Pt, s0.a = some ⟨p10.b, p10.o, none⟩ ∧ 0 ≤ (0 : Int) ∧ (0 : Int) < ((s0.n : Nat) : Int) ∧ ∃ x11 : Int, World.cell? w1 ⟨p10.b, (p10.o + Int.toNat (0 : Int) * 1), none⟩ = some (.int .i64 x11) ∧ Join [(3, .int .i64)] (fun (x3 : Int) (w2 : World) => R (.int .i64 x3) w2) (fun J =>
  LoopV [(3, .int .i64), (4, .int .i64)] (fun K => K x11 (1 : Int) w1) (fun N => fun (x3_2 : Int) (x4 : Int) (w3 : World) =>
  cond (decide (x4 < ((s0.n : Nat) : Int))) (
  Join [(3, .int .i64)] (fun (x3_3 : Int) (w4 : World) => N x3_3 (IntKind.wrap .i64 (x4 + (1 : Int))) w4) (fun J_2 =>
  ∃ p21 : Pt, s0.a = some ⟨p21.b, p21.o, none⟩ ∧ 0 ≤ x4 ∧ x4 < ((s0.n : Nat) : Int) ∧ ∃ x22 : Int, World.cell? w3 ⟨p21.b, (p21.o + Int.toNat x4 * 1), none⟩ = some (.int .i64 x22) ∧ J_2 (if x22 < x3_2 then x22 else x3_2) w3)) (
  J x3_2 w3)))) (fun J_3 =>
  cond (decide (((s0.n : Nat) : Int) < (1 : Int))) (
  False) (
  J_3 w))
theorem eq105 (s0 : Sl) (R : Value → World → Prop) (w : World) : funV Try.prog Try.f105 An105 [(.slice s0.a s0.n s0.c)] R w = S105 s0 R w := by kernel_rfl
theorem call105 (s0 : Sl) {R : Value → World → Prop} {w : World} (h : S105 s0 R w) : Calls Try.prog 105 [(.slice s0.a s0.n s0.c)].toArray w fun e w' => ∃ v, e = .returned v ∧ R v w' :=
  funV_calls mixed Try.func105 (an := An105) (by rw [eq105]; exact h)

/-- F106: slices.Max[[]int,int] -/
def An106 : An := (.sq .lf (.sq (.sq .lf (.cj [] .lf .lf)) (.sq .lf (.sq (.sq .lf (.bk [(3, .int .i64)] (.lp [(3, .int .i64), (4, .int .i64)] (.sq (.sq .lf (.cd .lf .lf)) (.sq (.bk [(3, .int .i64)] .lf) .lf))))) (.sq .lf .lf)))))
def S106 (s0 : Sl) (R : Value → World → Prop) (w : World) : Prop :=
  Join [] (fun (w1 : World) => ∃ p10 : Pt, s0.a = some ⟨p10.b, p10.o, none⟩ ∧ 0 ≤ (0 : Int) ∧ (0 : Int) < ((s0.n : Nat) : Int) ∧ ∃ x11 : Int, World.cell? w1 ⟨p10.b, (p10.o + Int.toNat (0 : Int) * 1), none⟩ = some (.int .i64 x11) ∧ Join [(3, .int .i64)] (fun (x3 : Int) (w2 : World) => R (.int .i64 x3) w2) (fun J =>
  LoopV [(3, .int .i64), (4, .int .i64)] (fun K => K x11 (1 : Int) w1) (fun N => fun (x3_2 : Int) (x4 : Int) (w3 : World) =>
  cond (decide (x4 < ((s0.n : Nat) : Int))) (
  Join [(3, .int .i64)] (fun (x3_3 : Int) (w4 : World) => N x3_3 (IntKind.wrap .i64 (x4 + (1 : Int))) w4) (fun J_2 =>
  ∃ p21 : Pt, s0.a = some ⟨p21.b, p21.o, none⟩ ∧ 0 ≤ x4 ∧ x4 < ((s0.n : Nat) : Int) ∧ ∃ x22 : Int, World.cell? w3 ⟨p21.b, (p21.o + Int.toNat x4 * 1), none⟩ = some (.int .i64 x22) ∧ J_2 (if x22 > x3_2 then x22 else x3_2) w3)) (
  J x3_2 w3)))) (fun J_3 =>
  cond (decide (((s0.n : Nat) : Int) < (1 : Int))) (
  False) (
  J_3 w))
theorem eq106 (s0 : Sl) (R : Value → World → Prop) (w : World) : funV Try.prog Try.f106 An106 [(.slice s0.a s0.n s0.c)] R w = S106 s0 R w := by kernel_rfl
theorem call106 (s0 : Sl) {R : Value → World → Prop} {w : World} (h : S106 s0 R w) : Calls Try.prog 106 [(.slice s0.a s0.n s0.c)].toArray w fun e w' => ∃ v, e = .returned v ∧ R v w' :=
  funV_calls mixed Try.func106 (an := An106) (by rw [eq106]; exact h)

/-- F74: cubeb/rules.isFact -/
def An74 : An := (.sq .lf (.sq .lf (.sq (.rj [] [(2, .bool)]) .lf)))
def S74 (x0_0 : Int) (s0_1 : Sl) (R : Value → World → Prop) (w : World) : Prop :=
  Let (w.alloc (.cells [(.int .i64 x0_0), (.slice s0_1.a s0_1.n s0_1.c)].toArray 36)) fun w1 => 
  Let (w1.alloc (.cells (zc Try.prog 167) 167)) fun w2 => 
  Join [(2, .bool)] (fun (b2 : Bool) (w3 : World) => R (.bool b2) w3) (fun J =>
  ∃ x5 : Int, World.cell? w2 ⟨w.heap.size, (0 + 0), none⟩ = some (.int .i64 x5) ∧ ∃ s7 : Sl, World.cell? w2 ⟨w.heap.size, (0 + 1), none⟩ = some (.slice s7.a s7.n s7.c) ∧ Calls Try.prog 102 [(.pointer (some ⟨w1.heap.size, 0, none⟩)), (.int .i64 x5), (.int .i64 ((s7.n : Nat) : Int))].toArray w2 (fun e w4 => ∃ b9 : Bool, e = .returned (.bool b9) ∧
  cond b9 (∃ s12 : Sl, World.cell? w4 ⟨w.heap.size, (0 + 1), none⟩ = some (.slice s12.a s12.n s12.c) ∧ Calls Try.prog 105 [(.slice s12.a s12.n s12.c)].toArray w4 (fun e_2 w5 => ∃ x13 : Int, e_2 = .returned (.int .i64 x13) ∧
  cond (decide (x13 ≥ (1 : Int))) (∃ s18 : Sl, World.cell? w5 ⟨w.heap.size, (0 + 1), none⟩ = some (.slice s18.a s18.n s18.c) ∧ Calls Try.prog 106 [(.slice s18.a s18.n s18.c)].toArray w5 (fun e_3 w6 => ∃ x19 : Int, e_3 = .returned (.int .i64 x19) ∧
  J (decide (x19 ≤ (6 : Int))) w6)) (J false w5))) (J false w4)))
theorem eq74 (x0_0 : Int) (s0_1 : Sl) (R : Value → World → Prop) (w : World) : funV Try.prog Try.f74 An74 [(.agg [(.int .i64 x0_0), (.slice s0_1.a s0_1.n s0_1.c)].toArray)] R w = S74 x0_0 s0_1 R w := by kernel_rfl
theorem call74 (x0_0 : Int) (s0_1 : Sl) {R : Value → World → Prop} {w : World} (h : S74 x0_0 s0_1 R w) : Calls Try.prog 74 [(.agg [(.int .i64 x0_0), (.slice s0_1.a s0_1.n s0_1.c)].toArray)].toArray w fun e w' => ∃ v, e = .returned v ∧ R v w' :=
  funV_calls mixed Try.func74 (an := An74) (by rw [eq74]; exact h)

/-- F104: (cubeb/rules.Rule).atoms -/
def An104 : An := (.sq .lf (.sq .lf (.sq (.sq .lf (.bk [(3, .slice)] (.lp [(3, .slice), (12, .int .i64)] (.sq .lf (.sq (.cd .lf .lf) (.sq (.bk [(3, .slice)] (.sq .lf .lf)) .lf)))))) (.sq .lf .lf))))
def S104 (x0_0 : Int) (s0_1 : Sl) (s0_2 : Sl) (R : Value → World → Prop) (w : World) : Prop :=
  Let (w.alloc (.cells [(.int .i64 x0_0), (.slice s0_1.a s0_1.n s0_1.c), (.slice s0_2.a s0_2.n s0_2.c)].toArray 52)) fun w1 => 
  ∃ x7_0 : Int, ∃ s7_1 : Sl, rd w1 w.heap.size (0 + 0) [(.int .i64 x7_0), (.slice s7_1.a s7_1.n s7_1.c)] ∧ ∃ (s8 : Sl) (w2 : World), Sem.run Try.prog (Instr.buildSlice 169 1 [(0, (.agg [(.int .i64 x7_0), (.slice s7_1.a s7_1.n s7_1.c)].toArray))].toArray) w1 = .ok (.slice s8.a s8.n s8.c) w2 ∧
  ∃ s10 : Sl, World.cell? w2 ⟨w.heap.size, (0 + 2), none⟩ = some (.slice s10.a s10.n s10.c) ∧ Join [(3, .slice)] (fun (s3 : Sl) (w3 : World) => R (.slice s3.a s3.n s3.c) w3) (fun J =>
  LoopV [(3, .slice), (12, .int .i64)] (fun K => K ⟨s8.a, s8.n, s8.c⟩ (0 : Int) w2) (fun N => fun (s3_2 : Sl) (x12 : Int) (w4 : World) =>
  cond (decide (x12 < ((s10.n : Nat) : Int))) (
  Join [(3, .slice)] (fun (s3_3 : Sl) (w5 : World) => N ⟨s3_3.a, s3_3.n, s3_3.c⟩ (IntKind.wrap .i64 (x12 + (1 : Int))) w5) (fun J_2 =>
  ∃ p14 : Pt, s10.a = some ⟨p14.b, p14.o, none⟩ ∧ 0 ≤ x12 ∧ x12 < ((s10.n : Nat) : Int) ∧ ∃ b15_0 : Bool, ∃ x15_1 : Int, ∃ s15_2 : Sl, rd w4 p14.b (p14.o + Int.toNat x12 * 3) [(.bool b15_0), (.int .i64 x15_1), (.slice s15_2.a s15_2.n s15_2.c)] ∧ Let (w4.alloc (.cells (zc Try.prog 54) 54)) fun w6 => 
  StoreOk w6 w4.heap.size 0 [(.bool b15_0), (.int .i64 x15_1), (.slice s15_2.a s15_2.n s15_2.c)] 3 ∧ Let (put w6 w4.heap.size 0 [(.bool b15_0), (.int .i64 x15_1), (.slice s15_2.a s15_2.n s15_2.c)]) fun w7 => 
  ∃ x18_0 : Int, ∃ s18_1 : Sl, rd w7 w4.heap.size (0 + 1) [(.int .i64 x18_0), (.slice s18_1.a s18_1.n s18_1.c)] ∧ ∃ (s19 : Sl) (w8 : World), Sem.run Try.prog (Instr.buildSlice 169 1 [(0, (.agg [(.int .i64 x18_0), (.slice s18_1.a s18_1.n s18_1.c)].toArray))].toArray) w7 = .ok (.slice s19.a s19.n s19.c) w8 ∧
  ∃ (s20 : Sl) (w9 : World), Sem.run Try.prog (Builtin.append_ #[169, 169] 169 #[(.slice s3_2.a s3_2.n s3_2.c), (.slice s19.a s19.n s19.c)]) w8 = .ok (.slice s20.a s20.n s20.c) w9 ∧
  J_2 ⟨s20.a, s20.n, s20.c⟩ w9)) (
  J ⟨s3_2.a, s3_2.n, s3_2.c⟩ w4)))
theorem eq104 (x0_0 : Int) (s0_1 : Sl) (s0_2 : Sl) (R : Value → World → Prop) (w : World) : funV Try.prog Try.f104 An104 [(.agg [(.int .i64 x0_0), (.slice s0_1.a s0_1.n s0_1.c), (.slice s0_2.a s0_2.n s0_2.c)].toArray)] R w = S104 x0_0 s0_1 s0_2 R w := by kernel_rfl
theorem call104 (x0_0 : Int) (s0_1 : Sl) (s0_2 : Sl) {R : Value → World → Prop} {w : World} (h : S104 x0_0 s0_1 s0_2 R w) : Calls Try.prog 104 [(.agg [(.int .i64 x0_0), (.slice s0_1.a s0_1.n s0_1.c), (.slice s0_2.a s0_2.n s0_2.c)].toArray)].toArray w fun e w' => ∃ v, e = .returned v ∧ R v w' :=
  funV_calls mixed Try.func104 (an := An104) (by rw [eq104]; exact h)

/-- F103: (cubeb/rules.Rule).safe -/
def An103 : An := (.sq .lf (.sq .lf (.sq (.sq .lf (.bk [] (.lp [(16, .int .i64)] (.sq .lf (.sq (.cd .lf .lf) (.sq (.bk [] (.sq .lf (.sq .lf (.bk [] (.lp [(24, .int .i64)] (.sq .lf (.sq (.cd .lf .lf) (.sq (.bk [] (.sq .lf (.rj [] []))) .lf)))))))) .lf)))))) (.sq (.sq .lf (.bk [] (.lp [(43, .int .i64)] (.sq .lf (.sq (.cd .lf .lf) (.sq (.bk [] (.sq .lf (.sq .lf (.bk [] (.lp [(50, .int .i64)] (.sq .lf (.sq (.cd .lf .lf) (.sq (.bk [] (.sq .lf (.sq (.rj [] [(61, .bool)]) (.cd (.sq .lf .lf) .lf)))) .lf)))))))) .lf)))))) (.sq .lf .lf)))))
def S103 (x0_0 : Int) (s0_1 : Sl) (s0_2 : Sl) (R : Value → World → Prop) (w : World) : Prop :=
  Let (w.alloc (.cells [(.int .i64 x0_0), (.slice s0_1.a s0_1.n s0_1.c), (.slice s0_2.a s0_2.n s0_2.c)].toArray 52)) fun w1 => 
  Let (w1.alloc (.map #[] 0)) fun w2 => 
  ∃ s14 : Sl, World.cell? w2 ⟨w.heap.size, (0 + 2), none⟩ = some (.slice s14.a s14.n s14.c) ∧ Join [] (fun (w3 : World) => ∃ x40_0 : Int, ∃ s40_1 : Sl, ∃ s40_2 : Sl, rd w3 w.heap.size 0 [(.int .i64 x40_0), (.slice s40_1.a s40_1.n s40_1.c), (.slice s40_2.a s40_2.n s40_2.c)] ∧ Calls Try.prog 104 [(.agg [(.int .i64 x40_0), (.slice s40_1.a s40_1.n s40_1.c), (.slice s40_2.a s40_2.n s40_2.c)].toArray)].toArray w3 (fun e w4 => ∃ s41 : Sl, e = .returned (.slice s41.a s41.n s41.c) ∧
  Join [] (fun (w5 : World) => R (.bool true) w5) (fun J =>
  LoopV [(43, .int .i64)] (fun K => K (0 : Int) w4) (fun N => fun (x43 : Int) (w6 : World) =>
  cond (decide (x43 < ((s41.n : Nat) : Int))) (
  Join [] (fun (w7 : World) => N (IntKind.wrap .i64 (x43 + (1 : Int))) w7) (fun J_2 =>
  ∃ p45 : Pt, s41.a = some ⟨p45.b, p45.o, none⟩ ∧ 0 ≤ x43 ∧ x43 < ((s41.n : Nat) : Int) ∧ ∃ x46_0 : Int, ∃ s46_1 : Sl, rd w6 p45.b (p45.o + Int.toNat x43 * 2) [(.int .i64 x46_0), (.slice s46_1.a s46_1.n s46_1.c)] ∧ Let (w6.alloc (.cells (zc Try.prog 48) 48)) fun w8 => 
  StoreOk w8 w6.heap.size 0 [(.int .i64 x46_0), (.slice s46_1.a s46_1.n s46_1.c)] 2 ∧ Let (put w8 w6.heap.size 0 [(.int .i64 x46_0), (.slice s46_1.a s46_1.n s46_1.c)]) fun w9 => 
  ∃ s48 : Sl, World.cell? w9 ⟨w6.heap.size, (0 + 1), none⟩ = some (.slice s48.a s48.n s48.c) ∧ Join [] (fun (w10 : World) => J_2 w10) (fun J_3 =>
  LoopV [(50, .int .i64)] (fun K => K (0 : Int) w9) (fun N_2 => fun (x50 : Int) (w11 : World) =>
  cond (decide (x50 < ((s48.n : Nat) : Int))) (
  Join [] (fun (w12 : World) => N_2 (IntKind.wrap .i64 (x50 + (1 : Int))) w12) (fun J_4 =>
  ∃ p52 : Pt, s48.a = some ⟨p52.b, p52.o, none⟩ ∧ 0 ≤ x50 ∧ x50 < ((s48.n : Nat) : Int) ∧ ∃ x53 : Int, World.cell? w11 ⟨p52.b, (p52.o + Int.toNat x50 * 1), none⟩ = some (.int .i64 x53) ∧ Join [(61, .bool)] (fun (b61 : Bool) (w13 : World) => cond b61 (
  R (.bool false) w13) (
  J_4 w13)) (fun J_5 =>
  cond (decide (x53 ≥ (0 : Int))) (∃ b59 : Bool, Sem.run Try.prog (Instr.lookup 188 (.map (some w1.heap.size)) (.int .i64 x53) false) w11 = .ok (.bool b59) w11 ∧ J_5 (!b59) w11) (J_5 false w11)))) (
  J_3 w11))))) (
  J w6))))) (fun J_6 =>
  LoopV [(16, .int .i64)] (fun K => K (0 : Int) w2) (fun N_3 => fun (x16 : Int) (w14 : World) =>
  cond (decide (x16 < ((s14.n : Nat) : Int))) (
  Join [] (fun (w15 : World) => N_3 (IntKind.wrap .i64 (x16 + (1 : Int))) w15) (fun J_7 =>
  ∃ p18 : Pt, s14.a = some ⟨p18.b, p18.o, none⟩ ∧ 0 ≤ x16 ∧ x16 < ((s14.n : Nat) : Int) ∧ ∃ b19_0 : Bool, ∃ x19_1 : Int, ∃ s19_2 : Sl, rd w14 p18.b (p18.o + Int.toNat x16 * 3) [(.bool b19_0), (.int .i64 x19_1), (.slice s19_2.a s19_2.n s19_2.c)] ∧ Let (w14.alloc (.cells (zc Try.prog 54) 54)) fun w16 => 
  StoreOk w16 w14.heap.size 0 [(.bool b19_0), (.int .i64 x19_1), (.slice s19_2.a s19_2.n s19_2.c)] 3 ∧ Let (put w16 w14.heap.size 0 [(.bool b19_0), (.int .i64 x19_1), (.slice s19_2.a s19_2.n s19_2.c)]) fun w17 => 
  ∃ s22 : Sl, World.cell? w17 ⟨w14.heap.size, ((0 + 1) + 1), none⟩ = some (.slice s22.a s22.n s22.c) ∧ Join [] (fun (w18 : World) => J_7 w18) (fun J_8 =>
  LoopV [(24, .int .i64)] (fun K => K (0 : Int) w17) (fun N_4 => fun (x24 : Int) (w19 : World) =>
  cond (decide (x24 < ((s22.n : Nat) : Int))) (
  Join [] (fun (w20 : World) => N_4 (IntKind.wrap .i64 (x24 + (1 : Int))) w20) (fun J_9 =>
  ∃ p26 : Pt, s22.a = some ⟨p26.b, p26.o, none⟩ ∧ 0 ≤ x24 ∧ x24 < ((s22.n : Nat) : Int) ∧ ∃ x27 : Int, World.cell? w19 ⟨p26.b, (p26.o + Int.toNat x24 * 1), none⟩ = some (.int .i64 x27) ∧ Join [] (fun (w21 : World) => J_9 w21) (fun J_10 =>
  ∃ b32 : Bool, Sem.run Try.prog (Instr.lookup 188 (.map (some w1.heap.size)) (.int .i64 x27) false) w19 = .ok (.bool b32) w19 ∧ cond b32 (∃ w22 : World, Sem.run Try.prog (Instr.mapUpdate 188 (.map (some w1.heap.size)) (.int .i64 x27) (.bool true)) w19 = .ok () w22 ∧
  J_10 w22) (∃ b35 : Bool, World.cell? w19 ⟨w14.heap.size, (0 + 0), none⟩ = some (.bool b35) ∧ ∃ w23 : World, Sem.run Try.prog (Instr.mapUpdate 188 (.map (some w1.heap.size)) (.int .i64 x27) (.bool (!b35))) w19 = .ok () w23 ∧
  J_10 w23)))) (
  J_8 w19))))) (
  J_6 w14)))
theorem eq103 (x0_0 : Int) (s0_1 : Sl) (s0_2 : Sl) (R : Value → World → Prop) (w : World) : funV Try.prog Try.f103 An103 [(.agg [(.int .i64 x0_0), (.slice s0_1.a s0_1.n s0_1.c), (.slice s0_2.a s0_2.n s0_2.c)].toArray)] R w = S103 x0_0 s0_1 s0_2 R w := by kernel_rfl
theorem call103 (x0_0 : Int) (s0_1 : Sl) (s0_2 : Sl) {R : Value → World → Prop} {w : World} (h : S103 x0_0 s0_1 s0_2 R w) : Calls Try.prog 103 [(.agg [(.int .i64 x0_0), (.slice s0_1.a s0_1.n s0_1.c), (.slice s0_2.a s0_2.n s0_2.c)].toArray)].toArray w fun e w' => ∃ v, e = .returned v ∧ R v w' :=
  funV_calls mixed Try.func103 (an := An103) (by rw [eq103]; exact h)

/-- F55: cubeb/rules.valid -/
def An55 : An := (.sq .lf (.sq .lf (.sq (.sq (.rj [] [(19, .bool)]) (.cd (.sq .lf .lf) .lf)) (.sq (.sq .lf (.bk [] (.lp [(22, .int .i64)] (.sq .lf (.sq (.cd .lf .lf) (.sq (.bk [] (.sq .lf (.sq (.rj [] [(37, .bool)]) (.cd (.sq .lf .lf) .lf)))) .lf)))))) (.sq (.sq .lf (.bk [] (.lp [(41, .int .i64)] (.sq .lf (.sq (.cd .lf .lf) (.sq (.bk [] (.sq .lf (.sq (.sq (.rj [] [(53, .bool)]) (.cd (.sq .lf .lf) .lf)) (.sq .lf (.bk [] (.lp [(57, .int .i64)] (.sq .lf (.sq (.cd .lf .lf) (.sq (.bk [] (.sq .lf (.sq (.rj [] [(79, .bool)]) (.cd (.sq .lf .lf) .lf)))) .lf))))))))) .lf)))))) (.sq .lf .lf))))))
def S55 (s0 : Sl) (s1 : Sl) (R : Value → World → Prop) (w : World) : Prop :=
  Let (w.alloc (.cells (zc Try.prog 167) 167)) fun w1 => 
  Join [(19, .bool)] (fun (b19 : Bool) (w2 : World) => cond b19 (
  R (.bool false) w2) (
  Join [] (fun (w3 : World) => Join [] (fun (w4 : World) => R (.bool true) w4) (fun J =>
  LoopV [(41, .int .i64)] (fun K => K (0 : Int) w3) (fun N => fun (x41 : Int) (w5 : World) =>
  cond (decide (x41 < ((s0.n : Nat) : Int))) (
  Join [] (fun (w6 : World) => N (IntKind.wrap .i64 (x41 + (1 : Int))) w6) (fun J_2 =>
  ∃ p43 : Pt, s0.a = some ⟨p43.b, p43.o, none⟩ ∧ 0 ≤ x41 ∧ x41 < ((s0.n : Nat) : Int) ∧ ∃ x44_0 : Int, ∃ s44_1 : Sl, ∃ s44_2 : Sl, rd w5 p43.b (p43.o + Int.toNat x41 * 3) [(.int .i64 x44_0), (.slice s44_1.a s44_1.n s44_1.c), (.slice s44_2.a s44_2.n s44_2.c)] ∧ Let (w5.alloc (.cells (zc Try.prog 52) 52)) fun w7 => 
  StoreOk w7 w5.heap.size 0 [(.int .i64 x44_0), (.slice s44_1.a s44_1.n s44_1.c), (.slice s44_2.a s44_2.n s44_2.c)] 3 ∧ Let (put w7 w5.heap.size 0 [(.int .i64 x44_0), (.slice s44_1.a s44_1.n s44_1.c), (.slice s44_2.a s44_2.n s44_2.c)]) fun w8 => 
  Join [(53, .bool)] (fun (b53 : Bool) (w9 : World) => cond b53 (
  R (.bool false) w9) (
  ∃ x54_0 : Int, ∃ s54_1 : Sl, ∃ s54_2 : Sl, rd w9 w5.heap.size 0 [(.int .i64 x54_0), (.slice s54_1.a s54_1.n s54_1.c), (.slice s54_2.a s54_2.n s54_2.c)] ∧ Calls Try.prog 104 [(.agg [(.int .i64 x54_0), (.slice s54_1.a s54_1.n s54_1.c), (.slice s54_2.a s54_2.n s54_2.c)].toArray)].toArray w9 (fun e w10 => ∃ s55 : Sl, e = .returned (.slice s55.a s55.n s55.c) ∧
  Join [] (fun (w11 : World) => J_2 w11) (fun J_3 =>
  LoopV [(57, .int .i64)] (fun K => K (0 : Int) w10) (fun N_2 => fun (x57 : Int) (w12 : World) =>
  cond (decide (x57 < ((s55.n : Nat) : Int))) (
  Join [] (fun (w13 : World) => N_2 (IntKind.wrap .i64 (x57 + (1 : Int))) w13) (fun J_4 =>
  ∃ p59 : Pt, s55.a = some ⟨p59.b, p59.o, none⟩ ∧ 0 ≤ x57 ∧ x57 < ((s55.n : Nat) : Int) ∧ ∃ x60_0 : Int, ∃ s60_1 : Sl, rd w12 p59.b (p59.o + Int.toNat x57 * 2) [(.int .i64 x60_0), (.slice s60_1.a s60_1.n s60_1.c)] ∧ Let (w12.alloc (.cells (zc Try.prog 48) 48)) fun w14 => 
  StoreOk w14 w12.heap.size 0 [(.int .i64 x60_0), (.slice s60_1.a s60_1.n s60_1.c)] 2 ∧ Let (put w14 w12.heap.size 0 [(.int .i64 x60_0), (.slice s60_1.a s60_1.n s60_1.c)]) fun w15 => 
  Join [(79, .bool)] (fun (b79 : Bool) (w16 : World) => cond b79 (
  R (.bool false) w16) (
  J_4 w16)) (fun J_5 =>
  ∃ x62 : Int, World.cell? w15 ⟨w12.heap.size, (0 + 0), none⟩ = some (.int .i64 x62) ∧ ∃ s64 : Sl, World.cell? w15 ⟨w12.heap.size, (0 + 1), none⟩ = some (.slice s64.a s64.n s64.c) ∧ Calls Try.prog 102 [(.pointer (some ⟨w.heap.size, 0, none⟩)), (.int .i64 x62), (.int .i64 ((s64.n : Nat) : Int))].toArray w15 (fun e_2 w17 => ∃ b66 : Bool, e_2 = .returned (.bool b66) ∧
  cond (!b66) (J_5 true w17) (∃ s70 : Sl, World.cell? w17 ⟨w12.heap.size, (0 + 1), none⟩ = some (.slice s70.a s70.n s70.c) ∧ Calls Try.prog 105 [(.slice s70.a s70.n s70.c)].toArray w17 (fun e_3 w18 => ∃ x71 : Int, e_3 = .returned (.int .i64 x71) ∧
  cond (decide (x71 < (-6 : Int))) (J_5 true w18) (∃ s76 : Sl, World.cell? w18 ⟨w12.heap.size, (0 + 1), none⟩ = some (.slice s76.a s76.n s76.c) ∧ Calls Try.prog 106 [(.slice s76.a s76.n s76.c)].toArray w18 (fun e_4 w19 => ∃ x77 : Int, e_4 = .returned (.int .i64 x77) ∧
  J_5 (decide (x77 ≥ (8 : Int))) w19)))))))) (
  J_3 w12)))))) (fun J_6 =>
  ∃ s46 : Sl, World.cell? w8 ⟨w5.heap.size, (0 + 2), none⟩ = some (.slice s46.a s46.n s46.c) ∧ cond (decide (((s46.n : Nat) : Int) > (3 : Int))) (J_6 true w8) (∃ x50_0 : Int, ∃ s50_1 : Sl, ∃ s50_2 : Sl, rd w8 w5.heap.size 0 [(.int .i64 x50_0), (.slice s50_1.a s50_1.n s50_1.c), (.slice s50_2.a s50_2.n s50_2.c)] ∧ Calls Try.prog 103 [(.agg [(.int .i64 x50_0), (.slice s50_1.a s50_1.n s50_1.c), (.slice s50_2.a s50_2.n s50_2.c)].toArray)].toArray w8 (fun e_5 w20 => ∃ b51 : Bool, e_5 = .returned (.bool b51) ∧
  J_6 (!b51) w20))))) (
  J w5)))) (fun J_7 =>
  LoopV [(22, .int .i64)] (fun K => K (0 : Int) w2) (fun N_3 => fun (x22 : Int) (w21 : World) =>
  cond (decide (x22 < ((s1.n : Nat) : Int))) (
  Join [] (fun (w22 : World) => N_3 (IntKind.wrap .i64 (x22 + (1 : Int))) w22) (fun J_8 =>
  ∃ p24 : Pt, s1.a = some ⟨p24.b, p24.o, none⟩ ∧ 0 ≤ x22 ∧ x22 < ((s1.n : Nat) : Int) ∧ ∃ x25_0 : Int, ∃ s25_1 : Sl, rd w21 p24.b (p24.o + Int.toNat x22 * 2) [(.int .i64 x25_0), (.slice s25_1.a s25_1.n s25_1.c)] ∧ Let (w21.alloc (.cells (zc Try.prog 36) 36)) fun w23 => 
  StoreOk w23 w21.heap.size 0 [(.int .i64 x25_0), (.slice s25_1.a s25_1.n s25_1.c)] 2 ∧ Let (put w23 w21.heap.size 0 [(.int .i64 x25_0), (.slice s25_1.a s25_1.n s25_1.c)]) fun w24 => 
  Join [(37, .bool)] (fun (b37 : Bool) (w25 : World) => cond b37 (
  R (.bool false) w25) (
  J_8 w25)) (fun J_9 =>
  ∃ x26_0 : Int, ∃ s26_1 : Sl, rd w24 w21.heap.size 0 [(.int .i64 x26_0), (.slice s26_1.a s26_1.n s26_1.c)] ∧ Calls Try.prog 74 [(.agg [(.int .i64 x26_0), (.slice s26_1.a s26_1.n s26_1.c)].toArray)].toArray w24 (fun e_6 w26 => ∃ b27 : Bool, e_6 = .returned (.bool b27) ∧
  cond (!b27) (J_9 true w26) (∃ x31 : Int, World.cell? w26 ⟨w21.heap.size, (0 + 0), none⟩ = some (.int .i64 x31) ∧ ∃ s33 : Sl, World.cell? w26 ⟨w21.heap.size, (0 + 1), none⟩ = some (.slice s33.a s33.n s33.c) ∧ Calls Try.prog 102 [(.pointer (some ⟨w.heap.size, 0, none⟩)), (.int .i64 x31), (.int .i64 ((s33.n : Nat) : Int))].toArray w26 (fun e_7 w27 => ∃ b35 : Bool, e_7 = .returned (.bool b35) ∧
  J_9 (!b35) w27)))))) (
  J_7 w21))))) (fun J_10 =>
  cond (decide (((s0.n : Nat) : Int) > (10 : Int))) (J_10 true w1) (J_10 (decide (((s1.n : Nat) : Int) > (20 : Int))) w1))
theorem eq55 (s0 : Sl) (s1 : Sl) (R : Value → World → Prop) (w : World) : funV Try.prog Try.f55 An55 [(.slice s0.a s0.n s0.c), (.slice s1.a s1.n s1.c)] R w = S55 s0 s1 R w := by kernel_rfl
theorem call55 (s0 : Sl) (s1 : Sl) {R : Value → World → Prop} {w : World} (h : S55 s0 s1 R w) : Calls Try.prog 55 [(.slice s0.a s0.n s0.c), (.slice s1.a s1.n s1.c)].toArray w fun e w' => ∃ v, e = .returned v ∧ R v w' :=
  funV_calls mixed Try.func55 (an := An55) (by rw [eq55]; exact h)

/-- F115: (cubeb/rules.values).ground -/
def An115 : An := (.sq .lf (.sq .lf (.sq (.sq .lf (.bk [] (.lp [(11, .int .i64)] (.sq .lf (.sq (.cd .lf .lf) (.sq (.bk [] (.sq .lf (.sq .lf (.cj [] .lf .lf)))) .lf)))))) (.sq .lf .lf))))
def S115 (cs0 : List Value) (x1_0 : Int) (s1_1 : Sl) (R : Value → World → Prop) (w : World) : Prop :=
  Let (w.alloc (.cells cs0.toArray 178)) fun w1 => 
  Let (w1.alloc (.cells [(.int .i64 x1_0), (.slice s1_1.a s1_1.n s1_1.c)].toArray 48)) fun w2 => 
  Let (w2.alloc (.cells (zc Try.prog 121) 121)) fun w3 => 
  Let (w3.alloc (.cells (zc Try.prog 114) 114)) fun w4 => 
  ∃ s9 : Sl, World.cell? w4 ⟨w1.heap.size, (0 + 1), none⟩ = some (.slice s9.a s9.n s9.c) ∧ Join [] (fun (w5 : World) => ∃ x29 : Int, World.cell? w5 ⟨w1.heap.size, (0 + 0), none⟩ = some (.int .i64 x29) ∧ 0 ≤ (0 : Int) ∧ (0 : Int) < ((2 : Nat) : Int) ∧ ∃ x31 : Int, World.cell? w5 ⟨w3.heap.size, (0 + Int.toNat (0 : Int) * 1), none⟩ = some (.int .i64 x31) ∧ 0 ≤ (1 : Int) ∧ (1 : Int) < ((2 : Nat) : Int) ∧ ∃ x33 : Int, World.cell? w5 ⟨w3.heap.size, (0 + Int.toNat (1 : Int) * 1), none⟩ = some (.int .i64 x33) ∧ StoreOk w5 w2.heap.size 0 [(.int .i64 x29), (.int .i64 x31), (.int .i64 x33)] 3 ∧ Let (put w5 w2.heap.size 0 [(.int .i64 x29), (.int .i64 x31), (.int .i64 x33)]) fun w6 => 
  ∃ xr4_0 : Int, ∃ xr4_1 : Int, ∃ xr4_2 : Int, rd w6 w2.heap.size 0 [(.int .i64 xr4_0), (.int .i64 xr4_1), (.int .i64 xr4_2)] ∧ R (.agg [(.int .i64 xr4_0), (.int .i64 xr4_1), (.int .i64 xr4_2)].toArray) w6) (fun J =>
  LoopV [(11, .int .i64)] (fun K => K (0 : Int) w4) (fun N => fun (x11 : Int) (w7 : World) =>
  cond (decide (x11 < ((s9.n : Nat) : Int))) (
  Join [] (fun (w8 : World) => N (IntKind.wrap .i64 (x11 + (1 : Int))) w8) (fun J_2 =>
  ∃ p14 : Pt, s9.a = some ⟨p14.b, p14.o, none⟩ ∧ 0 ≤ x11 ∧ x11 < ((s9.n : Nat) : Int) ∧ ∃ x15 : Int, World.cell? w7 ⟨p14.b, (p14.o + Int.toNat x11 * 1), none⟩ = some (.int .i64 x15) ∧ Join [] (fun (w9 : World) => J_2 w9) (fun J_3 =>
  cond (decide (x15 < (0 : Int))) (
  0 ≤ x11 ∧ x11 < ((2 : Nat) : Int) ∧ StoreOk w7 w3.heap.size (0 + Int.toNat x11 * 1) [(.int .i64 (IntKind.wrap .i64 (0 - x15)))] 1 ∧ Let (put w7 w3.heap.size (0 + Int.toNat x11 * 1) [(.int .i64 (IntKind.wrap .i64 (0 - x15)))]) fun w10 => 
  J_3 w10) (
  0 ≤ x15 ∧ x15 < ((8 : Nat) : Int) ∧ ∃ x25 : Int, World.cell? w7 ⟨w.heap.size, (0 + Int.toNat x15 * 1), none⟩ = some (.int .i64 x25) ∧ 0 ≤ x11 ∧ x11 < ((2 : Nat) : Int) ∧ StoreOk w7 w3.heap.size (0 + Int.toNat x11 * 1) [(.int .i64 x25)] 1 ∧ Let (put w7 w3.heap.size (0 + Int.toNat x11 * 1) [(.int .i64 x25)]) fun w11 => 
  J_3 w11)))) (
  J w7)))
theorem eq115 (cs0 : List Value) (x1_0 : Int) (s1_1 : Sl) (R : Value → World → Prop) (w : World) : funV Try.prog Try.f115 An115 [(.agg cs0.toArray), (.agg [(.int .i64 x1_0), (.slice s1_1.a s1_1.n s1_1.c)].toArray)] R w = S115 cs0 x1_0 s1_1 R w := by kernel_rfl
theorem call115 (cs0 : List Value) (x1_0 : Int) (s1_1 : Sl) {R : Value → World → Prop} {w : World} (h : S115 cs0 x1_0 s1_1 R w) : Calls Try.prog 115 [(.agg cs0.toArray), (.agg [(.int .i64 x1_0), (.slice s1_1.a s1_1.n s1_1.c)].toArray)].toArray w fun e w' => ∃ v, e = .returned v ∧ R v w' :=
  funV_calls mixed Try.func115 (an := An115) (by rw [eq115]; exact h)

/-- F128: (cubeb/rules.values).fits -/
def An128 : An := (.sq .lf (.sq (.sq .lf (.bk [] (.lp [(14, .int .i64)] (.sq .lf (.sq (.cd .lf .lf) (.sq (.bk [] (.sq .lf (.sq .lf (.bk [] (.sq (.rj [] [(26, .bool)]) (.cd (.sq .lf .lf) (.sq .lf (.cj [] .lf .lf)))))))) .lf)))))) (.sq (.dr [0, 1, 2, 3, 4, 5, 6, 7] [] true none) .lf)))
def S128 (cs0 : List Value) (x1_0 : Int) (s1_1 : Sl) (x2_0 : Int) (x2_1 : Int) (x2_2 : Int) (R : Value → World → Prop) (w : World) : Prop :=
  Let (w.alloc (.cells cs0.toArray 178)) fun w1 => 
  Let (w1.alloc (.cells [(.int .i64 x1_0), (.slice s1_1.a s1_1.n s1_1.c)].toArray 48)) fun w2 => 
  Let (w2.alloc (.cells [(.int .i64 x2_0), (.int .i64 x2_1), (.int .i64 x2_2)].toArray 121)) fun w3 => 
  Let (w3.alloc (.cells (zc Try.prog 178) 178)) fun w4 => 
  ∃ s12 : Sl, World.cell? w4 ⟨w1.heap.size, (0 + 1), none⟩ = some (.slice s12.a s12.n s12.c) ∧ Join [] (fun (w5 : World) => ∃ S1 : World → Prop, S1 w5.drew ∧ Let w5.drew fun w6 =>
  ∃ cs60 : List Value, cs60.length = 8 ∧ (∀ u, S1 u → rd u w.heap.size 0 cs60) ∧ ∃ x62 : Int, (∀ u, S1 u → World.cell? u ⟨w1.heap.size, (0 + 0), none⟩ = some (.int .i64 x62)) ∧ ∃ x64 : Int, (∀ u, S1 u → World.cell? u ⟨w2.heap.size, (0 + 0), none⟩ = some (.int .i64 x64)) ∧ StoreOk w6 w3.heap.size 0 cs60 8 ∧ Let (put w6 w3.heap.size 0 cs60) fun w7 => 
  S1 w7 ∧ ∃ csr6 : List Value, csr6.length = 8 ∧ rd w7 w3.heap.size 0 csr6 ∧ R (.tuple [(.agg csr6.toArray), (.bool (x62 == x64))].toArray) w7) (fun J =>
  LoopV [(14, .int .i64)] (fun K => K (0 : Int) w4) (fun N => fun (x14 : Int) (w8 : World) =>
  cond (decide (x14 < ((s12.n : Nat) : Int))) (
  Join [] (fun (w9 : World) => N (IntKind.wrap .i64 (x14 + (1 : Int))) w9) (fun J_2 =>
  ∃ p17 : Pt, s12.a = some ⟨p17.b, p17.o, none⟩ ∧ 0 ≤ x14 ∧ x14 < ((s12.n : Nat) : Int) ∧ ∃ x18 : Int, World.cell? w8 ⟨p17.b, (p17.o + Int.toNat x14 * 1), none⟩ = some (.int .i64 x18) ∧ ∃ x20 : Int, World.cell? w8 ⟨w2.heap.size, (0 + 1), none⟩ = some (.int .i64 x20) ∧ ∃ x22 : Int, World.cell? w8 ⟨w2.heap.size, (0 + 2), none⟩ = some (.int .i64 x22) ∧ 0 ≤ x14 ∧ x14 < ((2 : Nat) : Int) ∧ ∃ x25 : Int, ([(.int .i64 x20), (.int .i64 x22)] : List Value)[Int.toNat x14]? = some (.int .i64 x25) ∧ Join [] (fun (w10 : World) => J_2 w10) (fun J_3 =>
  Join [(26, .bool)] (fun (b26 : Bool) (w11 : World) => cond b26 (
  ∃ cs52 : List Value, cs52.length = 8 ∧ rd w11 w.heap.size 0 cs52 ∧ StoreOk w11 w3.heap.size 0 cs52 8 ∧ Let (put w11 w3.heap.size 0 cs52) fun w12 => 
  ∃ csr6_2 : List Value, csr6_2.length = 8 ∧ rd w12 w3.heap.size 0 csr6_2 ∧ R (.tuple [(.agg csr6_2.toArray), (.bool false)].toArray) w12) (
  Join [] (fun (w13 : World) => J_3 w13) (fun J_4 =>
  cond (decide (x18 ≥ (0 : Int))) (
  0 ≤ x18 ∧ x18 < ((8 : Nat) : Int) ∧ StoreOk w11 w.heap.size (0 + Int.toNat x18 * 1) [(.int .i64 x25)] 1 ∧ Let (put w11 w.heap.size (0 + Int.toNat x18 * 1) [(.int .i64 x25)]) fun w14 => 
  J_4 w14) (
  J_4 w11)))) (fun J_5 =>
  cond (decide (x18 < (0 : Int))) (cond ((IntKind.wrap .i64 (0 - x18)) != x25) (J_5 true w8) (cond (decide (x18 ≥ (0 : Int))) (0 ≤ x18 ∧ x18 < ((8 : Nat) : Int) ∧ ∃ x41 : Int, World.cell? w8 ⟨w.heap.size, (0 + Int.toNat x18 * 1), none⟩ = some (.int .i64 x41) ∧ cond (x41 != (0 : Int)) (0 ≤ x18 ∧ x18 < ((8 : Nat) : Int) ∧ ∃ x47 : Int, World.cell? w8 ⟨w.heap.size, (0 + Int.toNat x18 * 1), none⟩ = some (.int .i64 x47) ∧ J_5 (x47 != x25) w8) (J_5 false w8)) (J_5 false w8))) (cond (decide (x18 ≥ (0 : Int))) (0 ≤ x18 ∧ x18 < ((8 : Nat) : Int) ∧ ∃ x41_2 : Int, World.cell? w8 ⟨w.heap.size, (0 + Int.toNat x18 * 1), none⟩ = some (.int .i64 x41_2) ∧ cond (x41_2 != (0 : Int)) (0 ≤ x18 ∧ x18 < ((8 : Nat) : Int) ∧ ∃ x47_2 : Int, World.cell? w8 ⟨w.heap.size, (0 + Int.toNat x18 * 1), none⟩ = some (.int .i64 x47_2) ∧ J_5 (x47_2 != x25) w8) (J_5 false w8)) (J_5 false w8)))))) (
  J w8)))
theorem eq128 (cs0 : List Value) (x1_0 : Int) (s1_1 : Sl) (x2_0 : Int) (x2_1 : Int) (x2_2 : Int) (R : Value → World → Prop) (w : World) : funV Try.prog Try.f128 An128 [(.agg cs0.toArray), (.agg [(.int .i64 x1_0), (.slice s1_1.a s1_1.n s1_1.c)].toArray), (.agg [(.int .i64 x2_0), (.int .i64 x2_1), (.int .i64 x2_2)].toArray)] R w = S128 cs0 x1_0 s1_1 x2_0 x2_1 x2_2 R w := by kernel_rfl
theorem call128 (cs0 : List Value) (x1_0 : Int) (s1_1 : Sl) (x2_0 : Int) (x2_1 : Int) (x2_2 : Int) {R : Value → World → Prop} {w : World} (h : S128 cs0 x1_0 s1_1 x2_0 x2_1 x2_2 R w) : Calls Try.prog 128 [(.agg cs0.toArray), (.agg [(.int .i64 x1_0), (.slice s1_1.a s1_1.n s1_1.c)].toArray), (.agg [(.int .i64 x2_0), (.int .i64 x2_1), (.int .i64 x2_2)].toArray)].toArray w fun e w' => ∃ v, e = .returned v ∧ R v w' :=
  funV_calls mixed Try.func128 (an := An128) (by rw [eq128]; exact h)

/-- F127: (cubeb/rules.Rule).instances$1 -/
def An127 : An := (.sq .lf (.sq (.sq .lf (.cd (.sq (.sq .lf (.bk [] (.lp [(24, .int .i64)] (.sq .lf (.sq (.cd .lf .lf) (.sq (.bk [] (.sq .lf (.sq (.dr [0, 1, 2, 3, 4, 5, 6, 7, 8, 9] [] true (some [(37, .bool)])) (.cd .lf .lf)))) .lf)))))) (.sq .lf .lf)) .lf)) (.sq .lf (.sq (.sq .lf (.cd (.sq .lf .lf) .lf)) (.sq .lf (.bk [] (.lp [(60, .int .i64)] (.sq .lf (.sq (.cd .lf .lf) (.sq (.bk [] (.sq .lf (.sq .lf (.sq .lf (.cj [] .lf .lf))))) .lf))))))))))
def S127 (x0 : Int) (cs1 : List Value) (p2 : Pt) (p3 : Pt) (p4 : Pt) (p5 : Pt) (p6 : Pt) (R : Value → World → Prop) (w : World) : Prop :=
  Let (w.alloc (.cells cs1.toArray 178)) fun w1 => 
  ∃ s18 : Sl, World.cell? w1 ⟨p2.b, (p2.o + 2), none⟩ = some (.slice s18.a s18.n s18.c) ∧ cond (x0 == ((s18.n : Nat) : Int)) (
  ∃ s22 : Sl, World.cell? w1 ⟨p2.b, (p2.o + 2), none⟩ = some (.slice s22.a s22.n s22.c) ∧ Join [] (fun (w2 : World) => ∃ (f39 : Nat) (c39 : List Value), World.cell? w2 ⟨p4.b, p4.o, none⟩ = some (.func (.func f39) #[] c39.toArray) ∧ ∃ cs40 : List Value, cs40.length = 8 ∧ rd w2 w.heap.size 0 cs40 ∧ (bif callable Try.prog f39 then Calls Try.prog f39 (([(.agg cs40.toArray)] : List Value) ++ c39).toArray w2 (fun e w3 => e = .returned (.tuple [].toArray) ∧
  R (.tuple [].toArray) w3) else False)) (fun J =>
  LoopV [(24, .int .i64)] (fun K => K (0 : Int) w1) (fun N => fun (x24 : Int) (w4 : World) =>
  cond (decide (x24 < ((s22.n : Nat) : Int))) (
  Join [] (fun (w5 : World) => N (IntKind.wrap .i64 (x24 + (1 : Int))) w5) (fun J_2 =>
  ∃ p26 : Pt, s22.a = some ⟨p26.b, p26.o, none⟩ ∧ 0 ≤ x24 ∧ x24 < ((s22.n : Nat) : Int) ∧ ∃ b27_0 : Bool, ∃ x27_1 : Int, ∃ s27_2 : Sl, rd w4 p26.b (p26.o + Int.toNat x24 * 3) [(.bool b27_0), (.int .i64 x27_1), (.slice s27_2.a s27_2.n s27_2.c)] ∧ Let (w4.alloc (.cells (zc Try.prog 54) 54)) fun w6 => 
  StoreOk w6 w4.heap.size 0 [(.bool b27_0), (.int .i64 x27_1), (.slice s27_2.a s27_2.n s27_2.c)] 3 ∧ Let (put w6 w4.heap.size 0 [(.bool b27_0), (.int .i64 x27_1), (.slice s27_2.a s27_2.n s27_2.c)]) fun w7 => 
  Join [(37, .bool)] (fun (b37 : Bool) (w8 : World) => cond b37 (
  R (.tuple [].toArray) w8) (
  J_2 w8)) (fun J_3 =>
  ∃ S1 : World → Prop, S1 w7.drew ∧ Let w7.drew fun w9 =>
  ∃ b29 : Bool, (∀ u, S1 u → World.cell? u ⟨w4.heap.size, (0 + 0), none⟩ = some (.bool b29)) ∧ cond b29 (∃ m31 : Option Nat, (∀ u, S1 u → World.cell? u ⟨p3.b, p3.o, none⟩ = some (.map m31)) ∧ ∃ cs32 : List Value, cs32.length = 8 ∧ (∀ u, S1 u → rd u w.heap.size 0 cs32) ∧ ∃ x34_0 : Int, ∃ s34_1 : Sl, (∀ u, S1 u → rd u w4.heap.size (0 + 1) [(.int .i64 x34_0), (.slice s34_1.a s34_1.n s34_1.c)]) ∧ Calls Try.prog 115 [(.agg cs32.toArray), (.agg [(.int .i64 x34_0), (.slice s34_1.a s34_1.n s34_1.c)].toArray)].toArray w9 (fun e_2 w10 => ∃ x35_0 : Int, ∃ x35_1 : Int, ∃ x35_2 : Int, e_2 = .returned (.agg [(.int .i64 x35_0), (.int .i64 x35_1), (.int .i64 x35_2)].toArray) ∧
  S1 w10 ∧ ∃ b36 : Bool, (∀ u, S1 u → Sem.run Try.prog (Instr.lookup 105 (.map m31) (.agg [(.int .i64 x35_0), (.int .i64 x35_1), (.int .i64 x35_2)].toArray) false) u = .ok (.bool b36) u) ∧ J_3 b36 w10)) (J_3 false w9)))) (
  J w4)))) (
  ∃ s43 : Sl, World.cell? w1 ⟨p2.b, (p2.o + 2), none⟩ = some (.slice s43.a s43.n s43.c) ∧ ∃ p45 : Pt, s43.a = some ⟨p45.b, p45.o, none⟩ ∧ 0 ≤ x0 ∧ x0 < ((s43.n : Nat) : Int) ∧ ∃ b46_0 : Bool, ∃ x46_1 : Int, ∃ s46_2 : Sl, rd w1 p45.b (p45.o + Int.toNat x0 * 3) [(.bool b46_0), (.int .i64 x46_1), (.slice s46_2.a s46_2.n s46_2.c)] ∧ Let (w1.alloc (.cells (zc Try.prog 54) 54)) fun w11 => 
  StoreOk w11 w1.heap.size 0 [(.bool b46_0), (.int .i64 x46_1), (.slice s46_2.a s46_2.n s46_2.c)] 3 ∧ Let (put w11 w1.heap.size 0 [(.bool b46_0), (.int .i64 x46_1), (.slice s46_2.a s46_2.n s46_2.c)]) fun w12 => 
  ∃ b48 : Bool, World.cell? w12 ⟨w1.heap.size, (0 + 0), none⟩ = some (.bool b48) ∧ cond b48 (
  ∃ (f49 : Nat) (c49 : List Value), World.cell? w12 ⟨p5.b, p5.o, none⟩ = some (.func (.func f49) #[] c49.toArray) ∧ ∃ cs52 : List Value, cs52.length = 8 ∧ rd w12 w.heap.size 0 cs52 ∧ (bif callable Try.prog f49 then Calls Try.prog f49 (([(.int .i64 (IntKind.wrap .i64 (x0 + (1 : Int)))), (.agg cs52.toArray)] : List Value) ++ c49).toArray w12 (fun e_3 w13 => e_3 = .returned (.tuple [].toArray) ∧
  R (.tuple [].toArray) w13) else False)) (
  ∃ m54 : Option Nat, World.cell? w12 ⟨p6.b, p6.o, none⟩ = some (.map m54) ∧ ∃ x57 : Int, World.cell? w12 ⟨w1.heap.size, ((0 + 1) + 0), none⟩ = some (.int .i64 x57) ∧ ∃ s58 : Sl, Sem.run Try.prog (Instr.lookup 191 (.map m54) (.int .i64 x57) false) w12 = .ok (.slice s58.a s58.n s58.c) w12 ∧ Join [] (fun (w14 : World) => R (.tuple [].toArray) w14) (fun J_4 =>
  LoopV [(60, .int .i64)] (fun K => K (0 : Int) w12) (fun N_2 => fun (x60 : Int) (w15 : World) =>
  cond (decide (x60 < ((s58.n : Nat) : Int))) (
  Join [] (fun (w16 : World) => N_2 (IntKind.wrap .i64 (x60 + (1 : Int))) w16) (fun J_5 =>
  ∃ p62 : Pt, s58.a = some ⟨p62.b, p62.o, none⟩ ∧ 0 ≤ x60 ∧ x60 < ((s58.n : Nat) : Int) ∧ ∃ x63_0 : Int, ∃ x63_1 : Int, ∃ x63_2 : Int, rd w15 p62.b (p62.o + Int.toNat x60 * 3) [(.int .i64 x63_0), (.int .i64 x63_1), (.int .i64 x63_2)] ∧ Let (w15.alloc (.cells (zc Try.prog 121) 121)) fun w17 => 
  StoreOk w17 w15.heap.size 0 [(.int .i64 x63_0), (.int .i64 x63_1), (.int .i64 x63_2)] 3 ∧ Let (put w17 w15.heap.size 0 [(.int .i64 x63_0), (.int .i64 x63_1), (.int .i64 x63_2)]) fun w18 => 
  ∃ cs65 : List Value, cs65.length = 8 ∧ rd w18 w.heap.size 0 cs65 ∧ ∃ x67_0 : Int, ∃ s67_1 : Sl, rd w18 w1.heap.size (0 + 1) [(.int .i64 x67_0), (.slice s67_1.a s67_1.n s67_1.c)] ∧ ∃ x68_0 : Int, ∃ x68_1 : Int, ∃ x68_2 : Int, rd w18 w15.heap.size 0 [(.int .i64 x68_0), (.int .i64 x68_1), (.int .i64 x68_2)] ∧ Calls Try.prog 128 [(.agg cs65.toArray), (.agg [(.int .i64 x67_0), (.slice s67_1.a s67_1.n s67_1.c)].toArray), (.agg [(.int .i64 x68_0), (.int .i64 x68_1), (.int .i64 x68_2)].toArray)].toArray w18 (fun e_4 w19 => ∃ cs69_0 : List Value, cs69_0.length = 8 ∧ ∃ b69_1 : Bool, e_4 = .returned (.tuple [(.agg cs69_0.toArray), (.bool b69_1)].toArray) ∧
  Let (w19.alloc (.cells (zc Try.prog 178) 178)) fun w20 => 
  StoreOk w20 w19.heap.size 0 cs69_0 8 ∧ Let (put w20 w19.heap.size 0 cs69_0) fun w21 => 
  Join [] (fun (w22 : World) => J_5 w22) (fun J_6 =>
  cond b69_1 (
  ∃ (f73 : Nat) (c73 : List Value), World.cell? w21 ⟨p5.b, p5.o, none⟩ = some (.func (.func f73) #[] c73.toArray) ∧ ∃ cs76 : List Value, cs76.length = 8 ∧ rd w21 w19.heap.size 0 cs76 ∧ (bif callable Try.prog f73 then Calls Try.prog f73 (([(.int .i64 (IntKind.wrap .i64 (x0 + (1 : Int)))), (.agg cs76.toArray)] : List Value) ++ c73).toArray w21 (fun e_5 w23 => e_5 = .returned (.tuple [].toArray) ∧
  J_6 w23) else False)) (
  J_6 w21))))) (
  J_4 w15)))))
theorem eq127 (x0 : Int) (cs1 : List Value) (p2 : Pt) (p3 : Pt) (p4 : Pt) (p5 : Pt) (p6 : Pt) (R : Value → World → Prop) (w : World) : funV Try.prog Try.f127 An127 [(.int .i64 x0), (.agg cs1.toArray), (.pointer (some ⟨p2.b, p2.o, none⟩)), (.pointer (some ⟨p3.b, p3.o, none⟩)), (.pointer (some ⟨p4.b, p4.o, none⟩)), (.pointer (some ⟨p5.b, p5.o, none⟩)), (.pointer (some ⟨p6.b, p6.o, none⟩))] R w = S127 x0 cs1 p2 p3 p4 p5 p6 R w := by kernel_rfl
theorem call127 (x0 : Int) (cs1 : List Value) (p2 : Pt) (p3 : Pt) (p4 : Pt) (p5 : Pt) (p6 : Pt) {R : Value → World → Prop} {w : World} (h : S127 x0 cs1 p2 p3 p4 p5 p6 R w) : Calls Try.prog 127 [(.int .i64 x0), (.agg cs1.toArray), (.pointer (some ⟨p2.b, p2.o, none⟩)), (.pointer (some ⟨p3.b, p3.o, none⟩)), (.pointer (some ⟨p4.b, p4.o, none⟩)), (.pointer (some ⟨p5.b, p5.o, none⟩)), (.pointer (some ⟨p6.b, p6.o, none⟩))].toArray w fun e w' => ∃ v, e = .returned v ∧ R v w' :=
  funV_calls mixed Try.func127 (an := An127) (by rw [eq127]; exact h)

/-- F113: (cubeb/rules.Rule).instances -/
def An113 : An := (.sq .lf (.sq .lf (.sq (.sq .lf (.bk [] (.lp [] (.sq .lf (.sq (.cd .lf .lf) (.bk [] (.sq (.lf [(0, 121, 4)]) (.dr [0, 1, 2, 3, 4, 5, 6, 7, 8, 9, 10] [10] true none)))))))) (.sq .lf (.sq .lf .lf)))))
def S113 (x0_0 : Int) (s0_1 : Sl) (s0_2 : Sl) (m1 : Option Nat) (m2 : Option Nat) (f3 : Nat) (c3 : List Value) (R : Value → World → Prop) (w : World) : Prop :=
  Let (w.alloc (.cells [(.int .i64 x0_0), (.slice s0_1.a s0_1.n s0_1.c), (.slice s0_2.a s0_2.n s0_2.c)].toArray 52)) fun w1 => 
  Let (w1.alloc (.cells [(.map m2)].toArray 105)) fun w2 => 
  Let (w2.alloc (.cells [(.func (.func f3) #[] c3.toArray)].toArray 180)) fun w3 => 
  Let (w3.alloc (.map #[] 0)) fun w4 => 
  Let (w4.alloc (.cells (zc Try.prog 191) 191)) fun w5 => 
  StoreOk w5 w4.heap.size 0 [(.map (some w3.heap.size))] 1 ∧ Let (put w5 w4.heap.size 0 [(.map (some w3.heap.size))]) fun w6 => 
  ∃ (p13 : Pt) (w7 : World), Sem.run Try.prog (Instr.range 105 (.map m1)) w6 = .ok (.pointer (some ⟨p13.b, p13.o, none⟩)) w7 ∧
  Join [] (fun (w8 : World) => Let (w8.alloc (.cells (zc Try.prog 192) 192)) fun w9 => 
  StoreOk w9 w8.heap.size 0 [(.func (.func 127) #[] [(.pointer (some ⟨w.heap.size, 0, none⟩)), (.pointer (some ⟨w1.heap.size, 0, none⟩)), (.pointer (some ⟨w2.heap.size, 0, none⟩)), (.pointer (some ⟨w8.heap.size, 0, none⟩)), (.pointer (some ⟨w4.heap.size, 0, none⟩))].toArray)] 1 ∧ Let (put w9 w8.heap.size 0 [(.func (.func 127) #[] [(.pointer (some ⟨w.heap.size, 0, none⟩)), (.pointer (some ⟨w1.heap.size, 0, none⟩)), (.pointer (some ⟨w2.heap.size, 0, none⟩)), (.pointer (some ⟨w8.heap.size, 0, none⟩)), (.pointer (some ⟨w4.heap.size, 0, none⟩))].toArray)]) fun w10 => 
  ∃ (f29 : Nat) (c29 : List Value), World.cell? w10 ⟨w8.heap.size, 0, none⟩ = some (.func (.func f29) #[] c29.toArray) ∧ (bif callable Try.prog f29 then Calls Try.prog f29 (([(.int .i64 (0 : Int)), (.agg [(.int .i64 (0 : Int)), (.int .i64 (0 : Int)), (.int .i64 (0 : Int)), (.int .i64 (0 : Int)), (.int .i64 (0 : Int)), (.int .i64 (0 : Int)), (.int .i64 (0 : Int)), (.int .i64 (0 : Int))].toArray)] : List Value) ++ c29).toArray w10 (fun e w11 => e = .returned (.tuple [].toArray) ∧
  R (.tuple [].toArray) w11) else False)) (fun J =>
  LoopV [] (fun K => K w7) (fun N => fun (w12 : World) =>
  ∃ (b14 : Bool) (kv14 : List Value) (w13 : World), Sem.run Try.prog (Instr.next (.pointer (some ⟨p13.b, p13.o, none⟩)) false 0) w12 = .ok (.tuple (Value.bool b14 :: kv14).toArray) w13 ∧
  cond b14 (
  Join [] (fun (w14 : World) => N w14) (fun J_2 =>
  ∃ x16_k_0 : Int, ∃ x16_k_1 : Int, ∃ x16_k_2 : Int, ∃ b16_v : Bool, Sem.run Try.prog (Instr.entry (.pointer (some ⟨p13.b, p13.o, none⟩))) w13 = .ok (.tuple #[(.agg [(.int .i64 x16_k_0), (.int .i64 x16_k_1), (.int .i64 x16_k_2)].toArray), (.bool b16_v)]) w13 ∧ Let (w13.alloc (.cells (zc Try.prog 121) 121)) fun w15 => 
  StoreOk w15 w13.heap.size 0 [(.int .i64 x16_k_0), (.int .i64 x16_k_1), (.int .i64 x16_k_2)] 3 ∧ Let (put w15 w13.heap.size 0 [(.int .i64 x16_k_0), (.int .i64 x16_k_1), (.int .i64 x16_k_2)]) fun w16 => 
  ∃ S1 : World → Prop, S1 w16.drew ∧ Let w16.drew fun w17 =>
  ∃ m18 : Option Nat, (∀ u, S1 u → World.cell? u ⟨w4.heap.size, 0, none⟩ = some (.map m18)) ∧ ∃ x20 : Int, (∀ u, S1 u → World.cell? u ⟨w13.heap.size, (0 + 0), none⟩ = some (.int .i64 x20)) ∧ ∃ m21 : Option Nat, (∀ u, S1 u → World.cell? u ⟨w4.heap.size, 0, none⟩ = some (.map m21)) ∧ ∃ x23 : Int, (∀ u, S1 u → World.cell? u ⟨w13.heap.size, (0 + 0), none⟩ = some (.int .i64 x23)) ∧ ∃ s24 : Sl, (∀ u, S1 u → Sem.run Try.prog (Instr.lookup 191 (.map m21) (.int .i64 x23) false) u = .ok (.slice s24.a s24.n s24.c) u) ∧ ∃ x25_0 : Int, ∃ x25_1 : Int, ∃ x25_2 : Int, (∀ u, S1 u → rd u w13.heap.size 0 [(.int .i64 x25_0), (.int .i64 x25_1), (.int .i64 x25_2)]) ∧ ∃ (s26 : Sl) (w18 : World), Sem.run Try.prog (Instr.buildSlice 150 1 [(0, (.agg [(.int .i64 x25_0), (.int .i64 x25_1), (.int .i64 x25_2)].toArray))].toArray) w17 = .ok (.slice s26.a s26.n s26.c) w18 ∧
  S1 w18 ∧ ∃ (s27 : Sl) (w19 : World), Sem.run Try.prog (Builtin.append_ #[150, 150] 150 #[(.slice s24.a s24.n s24.c), (.slice s26.a s26.n s26.c)]) w18 = .ok (.slice s27.a s27.n s27.c) w19 ∧
  S1 w19 ∧ ∃ w20 : World, Sem.run Try.prog (Instr.mapUpdate 191 (.map m18) (.int .i64 x20) (.slice s27.a s27.n s27.c)) w19 = .ok () w20 ∧
  J_2 w20)) (
  J w13)))
theorem eq113 (x0_0 : Int) (s0_1 : Sl) (s0_2 : Sl) (m1 : Option Nat) (m2 : Option Nat) (f3 : Nat) (c3 : List Value) (R : Value → World → Prop) (w : World) : funV Try.prog Try.f113 An113 [(.agg [(.int .i64 x0_0), (.slice s0_1.a s0_1.n s0_1.c), (.slice s0_2.a s0_2.n s0_2.c)].toArray), (.map m1), (.map m2), (.func (.func f3) #[] c3.toArray)] R w = S113 x0_0 s0_1 s0_2 m1 m2 f3 c3 R w := by kernel_rfl
theorem call113 (x0_0 : Int) (s0_1 : Sl) (s0_2 : Sl) (m1 : Option Nat) (m2 : Option Nat) (f3 : Nat) (c3 : List Value) {R : Value → World → Prop} {w : World} (h : S113 x0_0 s0_1 s0_2 m1 m2 f3 c3 R w) : Calls Try.prog 113 [(.agg [(.int .i64 x0_0), (.slice s0_1.a s0_1.n s0_1.c), (.slice s0_2.a s0_2.n s0_2.c)].toArray), (.map m1), (.map m2), (.func (.func f3) #[] c3.toArray)].toArray w fun e w' => ∃ v, e = .returned v ∧ R v w' :=
  funV_calls mixed Try.func113 (an := An113) (by rw [eq113]; exact h)

/-- F114: cubeb/rules.consequences$1 -/
def An114 : An := (.sq .lf (.sq .lf (.sq .lf (.cj [] .lf .lf))))
def S114 (cs0 : List Value) (p1 : Pt) (p2 : Pt) (p3 : Pt) (R : Value → World → Prop) (w : World) : Prop :=
  Let (w.alloc (.cells cs0.toArray 178)) fun w1 => 
  ∃ cs6 : List Value, cs6.length = 8 ∧ rd w1 w.heap.size 0 cs6 ∧ ∃ x8_0 : Int, ∃ s8_1 : Sl, rd w1 p1.b (p1.o + 0) [(.int .i64 x8_0), (.slice s8_1.a s8_1.n s8_1.c)] ∧ Calls Try.prog 115 [(.agg cs6.toArray), (.agg [(.int .i64 x8_0), (.slice s8_1.a s8_1.n s8_1.c)].toArray)].toArray w1 (fun e w2 => ∃ x9_0 : Int, ∃ x9_1 : Int, ∃ x9_2 : Int, e = .returned (.agg [(.int .i64 x9_0), (.int .i64 x9_1), (.int .i64 x9_2)].toArray) ∧
  Let (w2.alloc (.cells (zc Try.prog 121) 121)) fun w3 => 
  StoreOk w3 w2.heap.size 0 [(.int .i64 x9_0), (.int .i64 x9_1), (.int .i64 x9_2)] 3 ∧ Let (put w3 w2.heap.size 0 [(.int .i64 x9_0), (.int .i64 x9_1), (.int .i64 x9_2)]) fun w4 => 
  ∃ m10 : Option Nat, World.cell? w4 ⟨p2.b, p2.o, none⟩ = some (.map m10) ∧ ∃ x11_0 : Int, ∃ x11_1 : Int, ∃ x11_2 : Int, rd w4 w2.heap.size 0 [(.int .i64 x11_0), (.int .i64 x11_1), (.int .i64 x11_2)] ∧ ∃ b12 : Bool, Sem.run Try.prog (Instr.lookup 105 (.map m10) (.agg [(.int .i64 x11_0), (.int .i64 x11_1), (.int .i64 x11_2)].toArray) false) w4 = .ok (.bool b12) w4 ∧ Join [] (fun (w5 : World) => R (.tuple [].toArray) w5) (fun J =>
  cond (!b12) (
  ∃ s14 : Sl, World.cell? w4 ⟨p3.b, p3.o, none⟩ = some (.slice s14.a s14.n s14.c) ∧ ∃ x15_0 : Int, ∃ x15_1 : Int, ∃ x15_2 : Int, rd w4 w2.heap.size 0 [(.int .i64 x15_0), (.int .i64 x15_1), (.int .i64 x15_2)] ∧ ∃ (s16 : Sl) (w6 : World), Sem.run Try.prog (Instr.buildSlice 150 1 [(0, (.agg [(.int .i64 x15_0), (.int .i64 x15_1), (.int .i64 x15_2)].toArray))].toArray) w4 = .ok (.slice s16.a s16.n s16.c) w6 ∧
  ∃ (s17 : Sl) (w7 : World), Sem.run Try.prog (Builtin.append_ #[150, 150] 150 #[(.slice s14.a s14.n s14.c), (.slice s16.a s16.n s16.c)]) w6 = .ok (.slice s17.a s17.n s17.c) w7 ∧
  StoreOk w7 p3.b p3.o [(.slice s17.a s17.n s17.c)] 1 ∧ Let (put w7 p3.b p3.o [(.slice s17.a s17.n s17.c)]) fun w8 => 
  J w8) (
  J w4)))
theorem eq114 (cs0 : List Value) (p1 : Pt) (p2 : Pt) (p3 : Pt) (R : Value → World → Prop) (w : World) : funV Try.prog Try.f114 An114 [(.agg cs0.toArray), (.pointer (some ⟨p1.b, p1.o, none⟩)), (.pointer (some ⟨p2.b, p2.o, none⟩)), (.pointer (some ⟨p3.b, p3.o, none⟩))] R w = S114 cs0 p1 p2 p3 R w := by kernel_rfl
theorem call114 (cs0 : List Value) (p1 : Pt) (p2 : Pt) (p3 : Pt) {R : Value → World → Prop} {w : World} (h : S114 cs0 p1 p2 p3 R w) : Calls Try.prog 114 [(.agg cs0.toArray), (.pointer (some ⟨p1.b, p1.o, none⟩)), (.pointer (some ⟨p2.b, p2.o, none⟩)), (.pointer (some ⟨p3.b, p3.o, none⟩))].toArray w fun e w' => ∃ v, e = .returned v ∧ R v w' :=
  funV_calls mixed Try.func114 (an := An114) (by rw [eq114]; exact h)

/-- F68: cubeb/rules.consequences -/
def An68 : An := (.sq .lf (.sq .lf (.sq (.sq .lf (.bk [] (.lp [] (.sq .lf (.sq (.cd .lf .lf) (.bk [] (.sq (.lf [(0, 121, 4)]) .lf))))))) (.sq (.sq .lf (.bk [] (.lp [(9, .bool)] (.sq (.sq .lf (.cd .lf .lf)) (.bk [(9, .bool)] (.sq .lf (.sq (.sq .lf (.bk [] (.lp [(27, .int .i64)] (.sq .lf (.sq (.cd .lf .lf) (.sq (.bk [] (.sq .lf .lf)) .lf)))))) (.sq (.sq .lf (.bk [] (.lp [(39, .int .i64)] (.sq .lf (.sq (.cd .lf .lf) (.sq (.bk [] (.sq .lf .lf)) .lf)))))) .lf)))))))) (.sq .lf .lf)))))
def S68 (s0 : Sl) (m1 : Option Nat) (m2 : Option Nat) (R : Value → World → Prop) (w : World) : Prop :=
  Let (w.alloc (.map #[] 0)) fun w1 => 
  Let (w1.alloc (.cells (zc Try.prog 105) 105)) fun w2 => 
  StoreOk w2 w1.heap.size 0 [(.map (some w.heap.size))] 1 ∧ Let (put w2 w1.heap.size 0 [(.map (some w.heap.size))]) fun w3 => 
  ∃ (p17 : Pt) (w4 : World), Sem.run Try.prog (Instr.range 105 (.map m1)) w3 = .ok (.pointer (some ⟨p17.b, p17.o, none⟩)) w4 ∧
  Join [] (fun (w5 : World) => Join [] (fun (w6 : World) => ∃ m49 : Option Nat, World.cell? w6 ⟨w1.heap.size, 0, none⟩ = some (.map m49) ∧ R (.map m49) w6) (fun J =>
  LoopV [(9, .bool)] (fun K => K true w5) (fun N => fun (b9 : Bool) (w7 : World) =>
  cond b9 (
  Join [(9, .bool)] (fun (b9_2 : Bool) (w8 : World) => N b9_2 w8) (fun J_2 =>
  Let (w7.alloc (.cells (zc Try.prog 150) 150)) fun w9 => 
  Join [] (fun (w10 : World) => ∃ s37 : Sl, World.cell? w10 ⟨w7.heap.size, 0, none⟩ = some (.slice s37.a s37.n s37.c) ∧ Join [] (fun (w11 : World) => ∃ s46 : Sl, World.cell? w11 ⟨w7.heap.size, 0, none⟩ = some (.slice s46.a s46.n s46.c) ∧ J_2 (decide (((s46.n : Nat) : Int) > (0 : Int))) w11) (fun J_3 =>
  LoopV [(39, .int .i64)] (fun K => K (0 : Int) w10) (fun N_2 => fun (x39 : Int) (w12 : World) =>
  cond (decide (x39 < ((s37.n : Nat) : Int))) (
  Join [] (fun (w13 : World) => N_2 (IntKind.wrap .i64 (x39 + (1 : Int))) w13) (fun J_4 =>
  ∃ p41 : Pt, s37.a = some ⟨p41.b, p41.o, none⟩ ∧ 0 ≤ x39 ∧ x39 < ((s37.n : Nat) : Int) ∧ ∃ x42_0 : Int, ∃ x42_1 : Int, ∃ x42_2 : Int, rd w12 p41.b (p41.o + Int.toNat x39 * 3) [(.int .i64 x42_0), (.int .i64 x42_1), (.int .i64 x42_2)] ∧ Let (w12.alloc (.cells (zc Try.prog 121) 121)) fun w14 => 
  StoreOk w14 w12.heap.size 0 [(.int .i64 x42_0), (.int .i64 x42_1), (.int .i64 x42_2)] 3 ∧ Let (put w14 w12.heap.size 0 [(.int .i64 x42_0), (.int .i64 x42_1), (.int .i64 x42_2)]) fun w15 => 
  ∃ m43 : Option Nat, World.cell? w15 ⟨w1.heap.size, 0, none⟩ = some (.map m43) ∧ ∃ x44_0 : Int, ∃ x44_1 : Int, ∃ x44_2 : Int, rd w15 w12.heap.size 0 [(.int .i64 x44_0), (.int .i64 x44_1), (.int .i64 x44_2)] ∧ ∃ w16 : World, Sem.run Try.prog (Instr.mapUpdate 105 (.map m43) (.agg [(.int .i64 x44_0), (.int .i64 x44_1), (.int .i64 x44_2)].toArray) (.bool true)) w15 = .ok () w16 ∧
  J_4 w16)) (
  J_3 w12)))) (fun J_5 =>
  LoopV [(27, .int .i64)] (fun K => K (0 : Int) w9) (fun N_3 => fun (x27 : Int) (w17 : World) =>
  cond (decide (x27 < ((s0.n : Nat) : Int))) (
  Join [] (fun (w18 : World) => N_3 (IntKind.wrap .i64 (x27 + (1 : Int))) w18) (fun J_6 =>
  ∃ p29 : Pt, s0.a = some ⟨p29.b, p29.o, none⟩ ∧ 0 ≤ x27 ∧ x27 < ((s0.n : Nat) : Int) ∧ ∃ x30_0 : Int, ∃ s30_1 : Sl, ∃ s30_2 : Sl, rd w17 p29.b (p29.o + Int.toNat x27 * 3) [(.int .i64 x30_0), (.slice s30_1.a s30_1.n s30_1.c), (.slice s30_2.a s30_2.n s30_2.c)] ∧ Let (w17.alloc (.cells (zc Try.prog 52) 52)) fun w19 => 
  StoreOk w19 w17.heap.size 0 [(.int .i64 x30_0), (.slice s30_1.a s30_1.n s30_1.c), (.slice s30_2.a s30_2.n s30_2.c)] 3 ∧ Let (put w19 w17.heap.size 0 [(.int .i64 x30_0), (.slice s30_1.a s30_1.n s30_1.c), (.slice s30_2.a s30_2.n s30_2.c)]) fun w20 => 
  ∃ x31_0 : Int, ∃ s31_1 : Sl, ∃ s31_2 : Sl, rd w20 w17.heap.size 0 [(.int .i64 x31_0), (.slice s31_1.a s31_1.n s31_1.c), (.slice s31_2.a s31_2.n s31_2.c)] ∧ ∃ m32 : Option Nat, World.cell? w20 ⟨w1.heap.size, 0, none⟩ = some (.map m32) ∧ Calls Try.prog 113 [(.agg [(.int .i64 x31_0), (.slice s31_1.a s31_1.n s31_1.c), (.slice s31_2.a s31_2.n s31_2.c)].toArray), (.map m32), (.map m2), (.func (.func 114) #[] [(.pointer (some ⟨w17.heap.size, 0, none⟩)), (.pointer (some ⟨w1.heap.size, 0, none⟩)), (.pointer (some ⟨w7.heap.size, 0, none⟩))].toArray)].toArray w20 (fun e w21 => e = .returned (.tuple [].toArray) ∧
  J_6 w21))) (
  J_5 w17))))) (
  J w7)))) (fun J_7 =>
  LoopV [] (fun K => K w4) (fun N_4 => fun (w22 : World) =>
  ∃ (b18 : Bool) (kv18 : List Value) (w23 : World), Sem.run Try.prog (Instr.next (.pointer (some ⟨p17.b, p17.o, none⟩)) false 0) w22 = .ok (.tuple (Value.bool b18 :: kv18).toArray) w23 ∧
  cond b18 (
  Join [] (fun (w24 : World) => N_4 w24) (fun J_8 =>
  ∃ x20_k_0 : Int, ∃ x20_k_1 : Int, ∃ x20_k_2 : Int, ∃ b20_v : Bool, Sem.run Try.prog (Instr.entry (.pointer (some ⟨p17.b, p17.o, none⟩))) w23 = .ok (.tuple #[(.agg [(.int .i64 x20_k_0), (.int .i64 x20_k_1), (.int .i64 x20_k_2)].toArray), (.bool b20_v)]) w23 ∧ Let (w23.alloc (.cells (zc Try.prog 121) 121)) fun w25 => 
  StoreOk w25 w23.heap.size 0 [(.int .i64 x20_k_0), (.int .i64 x20_k_1), (.int .i64 x20_k_2)] 3 ∧ Let (put w25 w23.heap.size 0 [(.int .i64 x20_k_0), (.int .i64 x20_k_1), (.int .i64 x20_k_2)]) fun w26 => 
  ∃ m22 : Option Nat, World.cell? w26 ⟨w1.heap.size, 0, none⟩ = some (.map m22) ∧ ∃ x23_0 : Int, ∃ x23_1 : Int, ∃ x23_2 : Int, rd w26 w23.heap.size 0 [(.int .i64 x23_0), (.int .i64 x23_1), (.int .i64 x23_2)] ∧ ∃ w27 : World, Sem.run Try.prog (Instr.mapUpdate 105 (.map m22) (.agg [(.int .i64 x23_0), (.int .i64 x23_1), (.int .i64 x23_2)].toArray) (.bool true)) w26 = .ok () w27 ∧
  J_8 w27)) (
  J_7 w23)))
theorem eq68 (s0 : Sl) (m1 : Option Nat) (m2 : Option Nat) (R : Value → World → Prop) (w : World) : funV Try.prog Try.f68 An68 [(.slice s0.a s0.n s0.c), (.map m1), (.map m2)] R w = S68 s0 m1 m2 R w := by kernel_rfl
theorem call68 (s0 : Sl) (m1 : Option Nat) (m2 : Option Nat) {R : Value → World → Prop} {w : World} (h : S68 s0 m1 m2 R w) : Calls Try.prog 68 [(.slice s0.a s0.n s0.c), (.map m1), (.map m2)].toArray w fun e w' => ∃ v, e = .returned v ∧ R v w' :=
  funV_calls mixed Try.func68 (an := An68) (by rw [eq68]; exact h)

/-- F67: cubeb/rules.given -/
def An67 : An := (.sq .lf (.sq .lf (.sq (.sq .lf (.bk [] (.lp [(9, .int .i64)] (.sq .lf (.sq (.cd .lf .lf) (.sq (.bk [] (.sq .lf .lf)) .lf)))))) (.sq .lf .lf))))
def S67 (s0 : Sl) (R : Value → World → Prop) (w : World) : Prop :=
  Let (w.alloc (.map #[] 0)) fun w1 => 
  Join [] (fun (w2 : World) => R (.map (some w.heap.size)) w2) (fun J =>
  LoopV [(9, .int .i64)] (fun K => K (0 : Int) w1) (fun N => fun (x9 : Int) (w3 : World) =>
  cond (decide (x9 < ((s0.n : Nat) : Int))) (
  Join [] (fun (w4 : World) => N (IntKind.wrap .i64 (x9 + (1 : Int))) w4) (fun J_2 =>
  ∃ p11 : Pt, s0.a = some ⟨p11.b, p11.o, none⟩ ∧ 0 ≤ x9 ∧ x9 < ((s0.n : Nat) : Int) ∧ ∃ x12_0 : Int, ∃ s12_1 : Sl, rd w3 p11.b (p11.o + Int.toNat x9 * 2) [(.int .i64 x12_0), (.slice s12_1.a s12_1.n s12_1.c)] ∧ Let (w3.alloc (.cells (zc Try.prog 36) 36)) fun w5 => 
  StoreOk w5 w3.heap.size 0 [(.int .i64 x12_0), (.slice s12_1.a s12_1.n s12_1.c)] 2 ∧ Let (put w5 w3.heap.size 0 [(.int .i64 x12_0), (.slice s12_1.a s12_1.n s12_1.c)]) fun w6 => 
  ∃ x14_0 : Int, ∃ s14_1 : Sl, rd w6 w3.heap.size 0 [(.int .i64 x14_0), (.slice s14_1.a s14_1.n s14_1.c)] ∧ Calls Try.prog 80 [(.agg [(.int .i64 x14_0), (.slice s14_1.a s14_1.n s14_1.c)].toArray)].toArray w6 (fun e w7 => ∃ x15_0 : Int, ∃ x15_1 : Int, ∃ x15_2 : Int, e = .returned (.agg [(.int .i64 x15_0), (.int .i64 x15_1), (.int .i64 x15_2)].toArray) ∧
  ∃ w8 : World, Sem.run Try.prog (Instr.mapUpdate 105 (.map (some w.heap.size)) (.agg [(.int .i64 x15_0), (.int .i64 x15_1), (.int .i64 x15_2)].toArray) (.bool true)) w7 = .ok () w8 ∧
  J_2 w8))) (
  J w3)))
theorem eq67 (s0 : Sl) (R : Value → World → Prop) (w : World) : funV Try.prog Try.f67 An67 [(.slice s0.a s0.n s0.c)] R w = S67 s0 R w := by kernel_rfl
theorem call67 (s0 : Sl) {R : Value → World → Prop} {w : World} (h : S67 s0 R w) : Calls Try.prog 67 [(.slice s0.a s0.n s0.c)].toArray w fun e w' => ∃ v, e = .returned v ∧ R v w' :=
  funV_calls mixed Try.func67 (an := An67) (by rw [eq67]; exact h)

/-- F57: (cubeb/rules.set).list -/
def An57 : An := (.sq .lf (.sq .lf (.sq (.sq .lf (.bk [(3, .slice)] (.lp [(3, .slice)] (.sq .lf (.sq (.cd .lf .lf) (.bk [(3, .slice)] (.sq (.lf [(0, 121, 4)]) .lf))))))) (.sq .lf (.sq .lf .lf)))))
def S57 (m0 : Option Nat) (R : Value → World → Prop) (w : World) : Prop :=
  ∃ (p6 : Pt) (w1 : World), Sem.run Try.prog (Instr.range 105 (.map m0)) w = .ok (.pointer (some ⟨p6.b, p6.o, none⟩)) w1 ∧
  Join [(3, .slice)] (fun (s3 : Sl) (w2 : World) => Calls Try.prog 108 [(.slice s3.a s3.n s3.c), (.func (.func 109) #[] [].toArray)].toArray w2 (fun e w3 => e = .returned (.tuple [].toArray) ∧
  R (.slice s3.a s3.n s3.c) w3)) (fun J =>
  LoopV [(3, .slice)] (fun K => K ⟨none, 0, 0⟩ w1) (fun N => fun (s3_2 : Sl) (w4 : World) =>
  ∃ (b7 : Bool) (kv7 : List Value) (w5 : World), Sem.run Try.prog (Instr.next (.pointer (some ⟨p6.b, p6.o, none⟩)) false 0) w4 = .ok (.tuple (Value.bool b7 :: kv7).toArray) w5 ∧
  cond b7 (
  Join [(3, .slice)] (fun (s3_3 : Sl) (w6 : World) => N ⟨s3_3.a, s3_3.n, s3_3.c⟩ w6) (fun J_2 =>
  ∃ x9_k_0 : Int, ∃ x9_k_1 : Int, ∃ x9_k_2 : Int, ∃ b9_v : Bool, Sem.run Try.prog (Instr.entry (.pointer (some ⟨p6.b, p6.o, none⟩))) w5 = .ok (.tuple #[(.agg [(.int .i64 x9_k_0), (.int .i64 x9_k_1), (.int .i64 x9_k_2)].toArray), (.bool b9_v)]) w5 ∧ Let (w5.alloc (.cells (zc Try.prog 121) 121)) fun w7 => 
  StoreOk w7 w5.heap.size 0 [(.int .i64 x9_k_0), (.int .i64 x9_k_1), (.int .i64 x9_k_2)] 3 ∧ Let (put w7 w5.heap.size 0 [(.int .i64 x9_k_0), (.int .i64 x9_k_1), (.int .i64 x9_k_2)]) fun w8 => 
  ∃ x12_0 : Int, ∃ x12_1 : Int, ∃ x12_2 : Int, rd w8 w5.heap.size 0 [(.int .i64 x12_0), (.int .i64 x12_1), (.int .i64 x12_2)] ∧ Calls Try.prog 107 [(.agg [(.int .i64 x12_0), (.int .i64 x12_1), (.int .i64 x12_2)].toArray)].toArray w8 (fun e_2 w9 => ∃ x13_0 : Int, ∃ s13_1 : Sl, e_2 = .returned (.agg [(.int .i64 x13_0), (.slice s13_1.a s13_1.n s13_1.c)].toArray) ∧
  ∃ (s14 : Sl) (w10 : World), Sem.run Try.prog (Instr.buildSlice 23 1 [(0, (.agg [(.int .i64 x13_0), (.slice s13_1.a s13_1.n s13_1.c)].toArray))].toArray) w9 = .ok (.slice s14.a s14.n s14.c) w10 ∧
  ∃ (s15 : Sl) (w11 : World), Sem.run Try.prog (Builtin.append_ #[23, 23] 23 #[(.slice s3_2.a s3_2.n s3_2.c), (.slice s14.a s14.n s14.c)]) w10 = .ok (.slice s15.a s15.n s15.c) w11 ∧
  J_2 ⟨s15.a, s15.n, s15.c⟩ w11))) (
  J ⟨s3_2.a, s3_2.n, s3_2.c⟩ w5)))
theorem eq57 (m0 : Option Nat) (R : Value → World → Prop) (w : World) : funV Try.prog Try.f57 An57 [(.map m0)] R w = S57 m0 R w := by kernel_rfl
theorem call57 (m0 : Option Nat) {R : Value → World → Prop} {w : World} (h : S57 m0 R w) : Calls Try.prog 57 [(.map m0)].toArray w fun e w' => ∃ v, e = .returned v ∧ R v w' :=
  funV_calls mixed Try.func57 (an := An57) (by rw [eq57]; exact h)

/-- F84: cubeb/rules.strata -/
def An84 : An := (.sq .lf (.sq .lf (.sq .lf (.bk [(2, .slice), (3, .bool)] (.lp [(5, .int .i64)] (.sq (.bk [] (.sq .lf (.sq (.sq .lf (.bk [(6, .bool)] (.lp [(6, .bool), (17, .int .i64)] (.sq .lf (.sq (.cd .lf .lf) (.sq (.bk [(6, .bool)] (.sq .lf (.sq .lf (.bk [(6, .bool)] (.lp [(6, .bool), (24, .int .i64)] (.sq .lf (.sq (.cd .lf .lf) (.sq (.bk [(6, .bool)] (.sq .lf (.sq .lf (.sq (.sq .lf (.cj [(11, .int .i64)] .lf .lf)) (.sq .lf (.cj [(6, .bool)] (.sq .lf .lf) .lf)))))) .lf)))))))) .lf)))))) (.sq (.sq .lf (.cd (.sq .lf .lf) .lf)) (.sq .lf (.cd (.sq .lf .lf) .lf)))))) .lf))))))
def S84 (s0 : Sl) (R : Value → World → Prop) (w : World) : Prop :=
  ∃ (s12 : Sl) (w1 : World), Sem.run Try.prog (Instr.makeSlice 34 (.int .i64 (6 : Int)) (.int .i64 (6 : Int))) w = .ok (.slice s12.a s12.n s12.c) w1 ∧
  Join [(2, .slice), (3, .bool)] (fun (s2 : Sl) (b3 : Bool) (w2 : World) => R (.tuple [(.slice s2.a s2.n s2.c), (.bool b3)].toArray) w2) (fun J =>
  LoopV [(5, .int .i64)] (fun K => K (0 : Int) w1) (fun N => fun (x5 : Int) (w3 : World) =>
  Join [] (fun (w4 : World) => N (IntKind.wrap .i64 (x5 + (1 : Int))) w4) (fun J_2 =>
  Join [(6, .bool)] (fun (b6 : Bool) (w5 : World) => cond (!b6) (
  R (.tuple [(.slice s12.a s12.n s12.c), (.bool true)].toArray) w5) (
  Calls Try.prog 106 [(.slice s12.a s12.n s12.c)].toArray w5 (fun e w6 => ∃ x58 : Int, e = .returned (.int .i64 x58) ∧
  cond (decide (x58 > (6 : Int))) (
  R (.tuple [(.slice none 0 0), (.bool false)].toArray) w6) (
  J_2 w6)))) (fun J_3 =>
  LoopV [(6, .bool), (17, .int .i64)] (fun K => K false (0 : Int) w3) (fun N_2 => fun (b6_2 : Bool) (x17 : Int) (w7 : World) =>
  cond (decide (x17 < ((s0.n : Nat) : Int))) (
  Join [(6, .bool)] (fun (b6_3 : Bool) (w8 : World) => N_2 b6_3 (IntKind.wrap .i64 (x17 + (1 : Int))) w8) (fun J_4 =>
  ∃ p19 : Pt, s0.a = some ⟨p19.b, p19.o, none⟩ ∧ 0 ≤ x17 ∧ x17 < ((s0.n : Nat) : Int) ∧ ∃ x20_0 : Int, ∃ s20_1 : Sl, ∃ s20_2 : Sl, rd w7 p19.b (p19.o + Int.toNat x17 * 3) [(.int .i64 x20_0), (.slice s20_1.a s20_1.n s20_1.c), (.slice s20_2.a s20_2.n s20_2.c)] ∧ Let (w7.alloc (.cells (zc Try.prog 52) 52)) fun w9 => 
  StoreOk w9 w7.heap.size 0 [(.int .i64 x20_0), (.slice s20_1.a s20_1.n s20_1.c), (.slice s20_2.a s20_2.n s20_2.c)] 3 ∧ Let (put w9 w7.heap.size 0 [(.int .i64 x20_0), (.slice s20_1.a s20_1.n s20_1.c), (.slice s20_2.a s20_2.n s20_2.c)]) fun w10 => 
  ∃ s22 : Sl, World.cell? w10 ⟨w7.heap.size, (0 + 2), none⟩ = some (.slice s22.a s22.n s22.c) ∧ Join [(6, .bool)] (fun (b6_4 : Bool) (w11 : World) => J_4 b6_4 w11) (fun J_5 =>
  LoopV [(6, .bool), (24, .int .i64)] (fun K => K b6_2 (0 : Int) w10) (fun N_3 => fun (b6_5 : Bool) (x24 : Int) (w12 : World) =>
  cond (decide (x24 < ((s22.n : Nat) : Int))) (
  Join [(6, .bool)] (fun (b6_6 : Bool) (w13 : World) => N_3 b6_6 (IntKind.wrap .i64 (x24 + (1 : Int))) w13) (fun J_6 =>
  ∃ p26 : Pt, s22.a = some ⟨p26.b, p26.o, none⟩ ∧ 0 ≤ x24 ∧ x24 < ((s22.n : Nat) : Int) ∧ ∃ b27_0 : Bool, ∃ x27_1 : Int, ∃ s27_2 : Sl, rd w12 p26.b (p26.o + Int.toNat x24 * 3) [(.bool b27_0), (.int .i64 x27_1), (.slice s27_2.a s27_2.n s27_2.c)] ∧ Let (w12.alloc (.cells (zc Try.prog 54) 54)) fun w14 => 
  StoreOk w14 w12.heap.size 0 [(.bool b27_0), (.int .i64 x27_1), (.slice s27_2.a s27_2.n s27_2.c)] 3 ∧ Let (put w14 w12.heap.size 0 [(.bool b27_0), (.int .i64 x27_1), (.slice s27_2.a s27_2.n s27_2.c)]) fun w15 => 
  ∃ x31 : Int, World.cell? w15 ⟨w12.heap.size, ((0 + 1) + 0), none⟩ = some (.int .i64 x31) ∧ ∃ p32 : Pt, s12.a = some ⟨p32.b, p32.o, none⟩ ∧ 0 ≤ x31 ∧ x31 < ((s12.n : Nat) : Int) ∧ ∃ x33 : Int, World.cell? w15 ⟨p32.b, (p32.o + Int.toNat x31 * 1), none⟩ = some (.int .i64 x33) ∧ ∃ b35 : Bool, World.cell? w15 ⟨w12.heap.size, (0 + 0), none⟩ = some (.bool b35) ∧ Join [(11, .int .i64)] (fun (x11 : Int) (w16 : World) => ∃ x42 : Int, World.cell? w16 ⟨w7.heap.size, ((0 + 0) + 0), none⟩ = some (.int .i64 x42) ∧ ∃ p43 : Pt, s12.a = some ⟨p43.b, p43.o, none⟩ ∧ 0 ≤ x42 ∧ x42 < ((s12.n : Nat) : Int) ∧ ∃ x44 : Int, World.cell? w16 ⟨p43.b, (p43.o + Int.toNat x42 * 1), none⟩ = some (.int .i64 x44) ∧ Join [(6, .bool)] (fun (b6_7 : Bool) (w17 : World) => J_6 b6_7 w17) (fun J_7 =>
  cond (decide (x11 > x44)) (
  ∃ x49 : Int, World.cell? w16 ⟨w7.heap.size, ((0 + 0) + 0), none⟩ = some (.int .i64 x49) ∧ ∃ p51 : Pt, s12.a = some ⟨p51.b, p51.o, none⟩ ∧ 0 ≤ x49 ∧ x49 < ((s12.n : Nat) : Int) ∧ StoreOk w16 p51.b (p51.o + Int.toNat x49 * 1) [(.int .i64 x11)] 1 ∧ Let (put w16 p51.b (p51.o + Int.toNat x49 * 1) [(.int .i64 x11)]) fun w18 => 
  J_7 true w18) (
  J_7 b6_5 w16))) (fun J_8 =>
  cond b35 (
  J_8 (IntKind.wrap .i64 (x33 + (1 : Int))) w15) (
  J_8 x33 w15)))) (
  J_5 b6_5 w12))))) (
  J_3 b6_2 w7))))))
theorem eq84 (s0 : Sl) (R : Value → World → Prop) (w : World) : funV Try.prog Try.f84 An84 [(.slice s0.a s0.n s0.c)] R w = S84 s0 R w := by kernel_rfl
theorem call84 (s0 : Sl) {R : Value → World → Prop} {w : World} (h : S84 s0 R w) : Calls Try.prog 84 [(.slice s0.a s0.n s0.c)].toArray w fun e w' => ∃ v, e = .returned v ∧ R v w' :=
  funV_calls mixed Try.func84 (an := An84) (by rw [eq84]; exact h)

/-- F56: cubeb/rules.model -/
def An56 : An := (.sq .lf (.sq .lf (.sq (.sq .lf (.cd (.sq .lf .lf) .lf)) (.sq .lf (.sq (.sq .lf (.bk [(8, .map)] (.lp [(8, .map), (25, .int .i64)] (.sq .lf (.sq (.cd .lf .lf) (.sq (.bk [(8, .map)] (.sq .lf (.sq .lf (.sq (.sq .lf (.bk [(10, .slice)] (.lp [(10, .slice), (30, .int .i64)] (.sq .lf (.sq (.cd .lf .lf) (.sq (.bk [(10, .slice)] (.sq .lf (.sq .lf (.cj [(10, .slice)] .lf .lf)))) .lf)))))) .lf)))) .lf)))))) (.sq .lf .lf))))))
def S56 (s0 : Sl) (s1 : Sl) (R : Value → World → Prop) (w : World) : Prop :=
  Calls Try.prog 84 [(.slice s0.a s0.n s0.c)].toArray w (fun e w1 => ∃ s15_0 : Sl, ∃ b15_1 : Bool, e = .returned (.tuple [(.slice s15_0.a s15_0.n s15_0.c), (.bool b15_1)].toArray) ∧
  cond (!b15_1) (
  R (.tuple [(.map none), (.bool false)].toArray) w1) (
  Calls Try.prog 67 [(.slice s1.a s1.n s1.c)].toArray w1 (fun e_2 w2 => ∃ m21 : Option Nat, e_2 = .returned (.map m21) ∧
  Calls Try.prog 106 [(.slice s15_0.a s15_0.n s15_0.c)].toArray w2 (fun e_3 w3 => ∃ x23 : Int, e_3 = .returned (.int .i64 x23) ∧
  Join [(8, .map)] (fun (m8 : Option Nat) (w4 : World) => R (.tuple [(.map m8), (.bool true)].toArray) w4) (fun J =>
  LoopV [(8, .map), (25, .int .i64)] (fun K => K (m21) (0 : Int) w3) (fun N => fun (m8_2 : Option Nat) (x25 : Int) (w5 : World) =>
  cond (decide (x25 < (IntKind.wrap .i64 (x23 + (1 : Int))))) (
  Join [(8, .map)] (fun (m8_3 : Option Nat) (w6 : World) => N (m8_3) (IntKind.wrap .i64 (x25 + (1 : Int))) w6) (fun J_2 =>
  Join [(10, .slice)] (fun (s10 : Sl) (w7 : World) => Calls Try.prog 68 [(.slice s10.a s10.n s10.c), (.map m8_2), (.map m8_2)].toArray w7 (fun e_4 w8 => ∃ m50 : Option Nat, e_4 = .returned (.map m50) ∧
  J_2 (m50) w8)) (fun J_3 =>
  LoopV [(10, .slice), (30, .int .i64)] (fun K => K ⟨none, 0, 0⟩ (0 : Int) w5) (fun N_2 => fun (s10_2 : Sl) (x30 : Int) (w9 : World) =>
  cond (decide (x30 < ((s0.n : Nat) : Int))) (
  Join [(10, .slice)] (fun (s10_3 : Sl) (w10 : World) => N_2 ⟨s10_3.a, s10_3.n, s10_3.c⟩ (IntKind.wrap .i64 (x30 + (1 : Int))) w10) (fun J_4 =>
  ∃ p32 : Pt, s0.a = some ⟨p32.b, p32.o, none⟩ ∧ 0 ≤ x30 ∧ x30 < ((s0.n : Nat) : Int) ∧ ∃ x33_0 : Int, ∃ s33_1 : Sl, ∃ s33_2 : Sl, rd w9 p32.b (p32.o + Int.toNat x30 * 3) [(.int .i64 x33_0), (.slice s33_1.a s33_1.n s33_1.c), (.slice s33_2.a s33_2.n s33_2.c)] ∧ Let (w9.alloc (.cells (zc Try.prog 52) 52)) fun w11 => 
  StoreOk w11 w9.heap.size 0 [(.int .i64 x33_0), (.slice s33_1.a s33_1.n s33_1.c), (.slice s33_2.a s33_2.n s33_2.c)] 3 ∧ Let (put w11 w9.heap.size 0 [(.int .i64 x33_0), (.slice s33_1.a s33_1.n s33_1.c), (.slice s33_2.a s33_2.n s33_2.c)]) fun w12 => 
  ∃ x37 : Int, World.cell? w12 ⟨w9.heap.size, ((0 + 0) + 0), none⟩ = some (.int .i64 x37) ∧ ∃ p38 : Pt, s15_0.a = some ⟨p38.b, p38.o, none⟩ ∧ 0 ≤ x37 ∧ x37 < ((s15_0.n : Nat) : Int) ∧ ∃ x39 : Int, World.cell? w12 ⟨p38.b, (p38.o + Int.toNat x37 * 1), none⟩ = some (.int .i64 x39) ∧ Join [(10, .slice)] (fun (s10_4 : Sl) (w13 : World) => J_4 ⟨s10_4.a, s10_4.n, s10_4.c⟩ w13) (fun J_5 =>
  cond (x39 == x25) (
  ∃ x43_0 : Int, ∃ s43_1 : Sl, ∃ s43_2 : Sl, rd w12 w9.heap.size 0 [(.int .i64 x43_0), (.slice s43_1.a s43_1.n s43_1.c), (.slice s43_2.a s43_2.n s43_2.c)] ∧ ∃ (s44 : Sl) (w14 : World), Sem.run Try.prog (Instr.buildSlice 27 1 [(0, (.agg [(.int .i64 x43_0), (.slice s43_1.a s43_1.n s43_1.c), (.slice s43_2.a s43_2.n s43_2.c)].toArray))].toArray) w12 = .ok (.slice s44.a s44.n s44.c) w14 ∧
  ∃ (s45 : Sl) (w15 : World), Sem.run Try.prog (Builtin.append_ #[27, 27] 27 #[(.slice s10_2.a s10_2.n s10_2.c), (.slice s44.a s44.n s44.c)]) w14 = .ok (.slice s45.a s45.n s45.c) w15 ∧
  J_5 ⟨s45.a, s45.n, s45.c⟩ w15) (
  J_5 ⟨s10_2.a, s10_2.n, s10_2.c⟩ w12)))) (
  J_3 ⟨s10_2.a, s10_2.n, s10_2.c⟩ w9))))) (
  J (m8_2) w5)))))))
theorem eq56 (s0 : Sl) (s1 : Sl) (R : Value → World → Prop) (w : World) : funV Try.prog Try.f56 An56 [(.slice s0.a s0.n s0.c), (.slice s1.a s1.n s1.c)] R w = S56 s0 s1 R w := by kernel_rfl
theorem call56 (s0 : Sl) (s1 : Sl) {R : Value → World → Prop} {w : World} (h : S56 s0 s1 R w) : Calls Try.prog 56 [(.slice s0.a s0.n s0.c), (.slice s1.a s1.n s1.c)].toArray w fun e w' => ∃ v, e = .returned v ∧ R v w' :=
  funV_calls mixed Try.func56 (an := An56) (by rw [eq56]; exact h)

/-- F16: cubeb/rules.Model -/
def An16 : An := (.sq .lf (.sq (.sq .lf (.cd (.sq .lf .lf) .lf)) (.sq .lf (.sq (.sq .lf (.cd (.sq .lf .lf) .lf)) (.sq .lf .lf)))))
def S16 (s0 : Sl) (s1 : Sl) (R : Value → World → Prop) (w : World) : Prop :=
  Calls Try.prog 55 [(.slice s0.a s0.n s0.c), (.slice s1.a s1.n s1.c)].toArray w (fun e w1 => ∃ b10 : Bool, e = .returned (.bool b10) ∧
  cond (!b10) (
  R (.tuple [(.slice none 0 0), (.int .i64 (2 : Int))].toArray) w1) (
  Calls Try.prog 56 [(.slice s0.a s0.n s0.c), (.slice s1.a s1.n s1.c)].toArray w1 (fun e_2 w2 => ∃ m15_0 : Option Nat, ∃ b15_1 : Bool, e_2 = .returned (.tuple [(.map m15_0), (.bool b15_1)].toArray) ∧
  cond (!b15_1) (
  R (.tuple [(.slice none 0 0), (.int .i64 (8 : Int))].toArray) w2) (
  Calls Try.prog 57 [(.map m15_0)].toArray w2 (fun e_3 w3 => ∃ s21 : Sl, e_3 = .returned (.slice s21.a s21.n s21.c) ∧
  R (.tuple [(.slice s21.a s21.n s21.c), (.int .i64 (0 : Int))].toArray) w3)))))
theorem eq16 (s0 : Sl) (s1 : Sl) (R : Value → World → Prop) (w : World) : funV Try.prog Try.f16 An16 [(.slice s0.a s0.n s0.c), (.slice s1.a s1.n s1.c)] R w = S16 s0 s1 R w := by kernel_rfl
theorem call16 (s0 : Sl) (s1 : Sl) {R : Value → World → Prop} {w : World} (h : S16 s0 s1 R w) : Calls Try.prog 16 [(.slice s0.a s0.n s0.c), (.slice s1.a s1.n s1.c)].toArray w fun e w' => ∃ v, e = .returned v ∧ R v w' :=
  funV_calls mixed Try.func16 (an := An16) (by rw [eq16]; exact h)

end Go.Proofs.Ytoljknamnkkgcaa
