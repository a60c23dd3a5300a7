/-
  Printed by a program of this session (wip/tools/vcprint.py): of each Go function the shallow form, and that the calculus comes to it, by the kernel.
-/
import Derived.Test.YtoljknamnkkgcaaSa
import Derived.Test.YtoljknamnkkgcaaProg
import Derived.KernelRfl
namespace Go.Proofs.Ytoljknamnkkgcaa
open Go Go.VC
set_option maxRecDepth 100000

/-- F17: cubeb/cubeblaw03.Of -/
def An17 : An := (.sq .lf (.sq .lf (.sq (.sq .lf (.bk [(3, .slice)] (.lp [(3, .slice), (11, .int .i64)] (.sq .lf (.sq (.cd .lf .lf) (.sq (.bk [(3, .slice)] (.sq .lf (.sq (.sq .lf (.cd .lf .lf)) (.sq .lf (.sq (.sq .lf (.bk [] (.lp [(25, .int .i64)] (.sq .lf (.sq (.cd .lf .lf) (.sq (.bk [] (.sq .lf (.sq .lf (.cj [] (.dr [0, 1, 2, 3, 4, 5, 6, 7, 8, 9, 10, 11] [11] true none) .lf)))) .lf)))))) .lf))))) .lf)))))) (.sq .lf .lf))))
def S17 (s0 : Sl) (R : Value → World → Prop) (w : World) : Prop :=
  Join [(3, .slice)] (fun (s3 : Sl) (w1 : World) => R (.slice s3.a s3.n s3.c) w1) (fun J =>
  LoopV [(3, .slice), (11, .int .i64)] (fun K => K ⟨none, 0, 0⟩ (0 : Int) w) (fun N => fun (s3_2 : Sl) (x11 : Int) (w2 : World) =>
  cond (decide (x11 < ((s0.n : Nat) : Int))) (
  Join [(3, .slice)] (fun (s3_3 : Sl) (w3 : World) => N ⟨s3_3.a, s3_3.n, s3_3.c⟩ (IntKind.wrap .i64 (x11 + (1 : Int))) w3) (fun J_2 =>
  ∃ p14 : Pt, s0.a = some ⟨p14.b, p14.o, none⟩ ∧ 0 ≤ x11 ∧ x11 < ((s0.n : Nat) : Int) ∧ ∃ x15_0 : Int, ∃ s15_1 : Sl, ∃ s15_2 : Sl, rd w2 p14.b (p14.o + Int.toNat x11 * 3) [(.int .i64 x15_0), (.slice s15_1.a s15_1.n s15_1.c), (.slice s15_2.a s15_2.n s15_2.c)] ∧ Let (w2.alloc (.cells (zc Try.prog 94) 94)) fun w4 => 
  StoreOk w4 w2.heap.size 0 [(.int .i64 x15_0), (.slice s15_1.a s15_1.n s15_1.c), (.slice s15_2.a s15_2.n s15_2.c)] 3 ∧ Let (put w4 w2.heap.size 0 [(.int .i64 x15_0), (.slice s15_1.a s15_1.n s15_1.c), (.slice s15_2.a s15_2.n s15_2.c)]) fun w5 => 
  cond (decide (x11 > (11 : Int))) (
  J ⟨s3_2.a, s3_2.n, s3_2.c⟩ w5) (
  ∃ x19_0 : Int, ∃ s19_1 : Sl, rd w5 w2.heap.size (0 + 0) [(.int .i64 x19_0), (.slice s19_1.a s19_1.n s19_1.c)] ∧ Calls Try.prog 58 [(.agg [(.int .i64 x19_0), (.slice s19_1.a s19_1.n s19_1.c)].toArray)].toArray w5 (fun e w6 => ∃ x20_0 : Int, ∃ s20_1 : Sl, e = .returned (.agg [(.int .i64 x20_0), (.slice s20_1.a s20_1.n s20_1.c)].toArray) ∧
  2 = 2 ∧ 2 ≤ 3 ∧ Let (w6.alloc (.cells (zc Try.prog 52) 52)) fun w7 => 
  StoreOk w7 w6.heap.size 0 [(.int .i64 x20_0), (.slice s20_1.a s20_1.n s20_1.c), (.slice none 0 0)] 3 ∧ Let (put w7 w6.heap.size 0 [(.int .i64 x20_0), (.slice s20_1.a s20_1.n s20_1.c), (.slice none 0 0)]) fun w8 => 
  ∃ s23 : Sl, World.cell? w8 ⟨w2.heap.size, (0 + 2), none⟩ = some (.slice s23.a s23.n s23.c) ∧ Join [] (fun (w9 : World) => ∃ x45_0 : Int, ∃ s45_1 : Sl, ∃ s45_2 : Sl, rd w9 w6.heap.size 0 [(.int .i64 x45_0), (.slice s45_1.a s45_1.n s45_1.c), (.slice s45_2.a s45_2.n s45_2.c)] ∧ ∃ (s46 : Sl) (w10 : World), Sem.run Try.prog (Instr.buildSlice 27 1 [(0, (.agg [(.int .i64 x45_0), (.slice s45_1.a s45_1.n s45_1.c), (.slice s45_2.a s45_2.n s45_2.c)].toArray))].toArray) w9 = .ok (.slice s46.a s46.n s46.c) w10 ∧
  ∃ (s47 : Sl) (w11 : World), Sem.run Try.prog (Builtin.append_ #[27, 27] 27 #[(.slice s3_2.a s3_2.n s3_2.c), (.slice s46.a s46.n s46.c)]) w10 = .ok (.slice s47.a s47.n s47.c) w11 ∧
  J_2 ⟨s47.a, s47.n, s47.c⟩ w11) (fun J_3 =>
  LoopV [(25, .int .i64)] (fun K => K (0 : Int) w8) (fun N_2 => fun (x25 : Int) (w12 : World) =>
  cond (decide (x25 < ((s23.n : Nat) : Int))) (
  Join [] (fun (w13 : World) => N_2 (IntKind.wrap .i64 (x25 + (1 : Int))) w13) (fun J_4 =>
  ∃ p28 : Pt, s23.a = some ⟨p28.b, p28.o, none⟩ ∧ 0 ≤ x25 ∧ x25 < ((s23.n : Nat) : Int) ∧ ∃ b29_0 : Bool, ∃ x29_1 : Int, ∃ s29_2 : Sl, rd w12 p28.b (p28.o + Int.toNat x25 * 3) [(.bool b29_0), (.int .i64 x29_1), (.slice s29_2.a s29_2.n s29_2.c)] ∧ Let (w12.alloc (.cells (zc Try.prog 96) 96)) fun w14 => 
  StoreOk w14 w12.heap.size 0 [(.bool b29_0), (.int .i64 x29_1), (.slice s29_2.a s29_2.n s29_2.c)] 3 ∧ Let (put w14 w12.heap.size 0 [(.bool b29_0), (.int .i64 x29_1), (.slice s29_2.a s29_2.n s29_2.c)]) fun w15 => 
  Join [] (fun (w16 : World) => J_4 w16) (fun J_5 =>
  cond (decide (x25 < (5 : Int))) (
  ∃ S1 : World → Prop, S1 w15.drew ∧ Let w15.drew fun w17 =>
  ∃ s33 : Sl, (∀ u, S1 u → World.cell? u ⟨w6.heap.size, (0 + 2), none⟩ = some (.slice s33.a s33.n s33.c)) ∧ ∃ b35 : Bool, (∀ u, S1 u → World.cell? u ⟨w12.heap.size, (0 + 0), none⟩ = some (.bool b35)) ∧ ∃ x37_0 : Int, ∃ s37_1 : Sl, (∀ u, S1 u → rd u w12.heap.size (0 + 1) [(.int .i64 x37_0), (.slice s37_1.a s37_1.n s37_1.c)]) ∧ Calls Try.prog 58 [(.agg [(.int .i64 x37_0), (.slice s37_1.a s37_1.n s37_1.c)].toArray)].toArray w17 (fun e_2 w18 => ∃ x38_0 : Int, ∃ s38_1 : Sl, e_2 = .returned (.agg [(.int .i64 x38_0), (.slice s38_1.a s38_1.n s38_1.c)].toArray) ∧
  S1 w18 ∧ 2 = 2 ∧ 3 ≤ 3 ∧ ∃ (s40 : Sl) (w19 : World), Sem.run Try.prog (Instr.buildSlice 50 1 [(0, (.agg [(.bool b35), (.int .i64 x38_0), (.slice s38_1.a s38_1.n s38_1.c)].toArray))].toArray) w18 = .ok (.slice s40.a s40.n s40.c) w19 ∧
  S1 w19 ∧ ∃ (s41 : Sl) (w20 : World), Sem.run Try.prog (Builtin.append_ #[50, 50] 50 #[(.slice s33.a s33.n s33.c), (.slice s40.a s40.n s40.c)]) w19 = .ok (.slice s41.a s41.n s41.c) w20 ∧
  S1 w20 ∧ StoreOk w20 w6.heap.size (0 + 2) [(.slice s41.a s41.n s41.c)] 1 ∧ Let (put w20 w6.heap.size (0 + 2) [(.slice s41.a s41.n s41.c)]) fun w21 => 
  J_5 w21)) (
  J_5 w15)))) (
  J_3 w12))))))) (
  J ⟨s3_2.a, s3_2.n, s3_2.c⟩ w2)))
theorem eq17 (s0 : Sl) (R : Value → World → Prop) (w : World) : funV Try.prog Try.f17 An17 [(.slice s0.a s0.n s0.c)] R w = S17 s0 R w := by kernel_rfl
theorem call17 (s0 : Sl) {R : Value → World → Prop} {w : World} (h : S17 s0 R w) : Calls Try.prog 17 [(.slice s0.a s0.n s0.c)].toArray w fun e w' => ∃ v, e = .returned v ∧ R v w' :=
  funV_calls mixed Try.func17 (an := An17) (by rw [eq17]; exact h)

/-- F18: cubeb/cubeblaw02.Facts -/
def An18 : An := (.sq .lf (.sq .lf (.sq (.sq .lf (.bk [(3, .slice)] (.lp [(3, .slice), (8, .int .i64)] (.sq .lf (.sq (.cd .lf .lf) (.sq (.bk [(3, .slice)] (.sq .lf (.sq (.sq .lf (.cd .lf .lf)) (.dr [0, 1, 2, 3, 4, 5, 6, 7, 8, 9] [] true none)))) .lf)))))) (.sq .lf .lf))))
def S18 (s0 : Sl) (R : Value → World → Prop) (w : World) : Prop :=
  Join [(3, .slice)] (fun (s3 : Sl) (w1 : World) => R (.slice s3.a s3.n s3.c) w1) (fun J =>
  LoopV [(3, .slice), (8, .int .i64)] (fun K => K ⟨none, 0, 0⟩ (0 : Int) w) (fun N => fun (s3_2 : Sl) (x8 : Int) (w2 : World) =>
  cond (decide (x8 < ((s0.n : Nat) : Int))) (
  Join [(3, .slice)] (fun (s3_3 : Sl) (w3 : World) => N ⟨s3_3.a, s3_3.n, s3_3.c⟩ (IntKind.wrap .i64 (x8 + (1 : Int))) w3) (fun J_2 =>
  ∃ p11 : Pt, s0.a = some ⟨p11.b, p11.o, none⟩ ∧ 0 ≤ x8 ∧ x8 < ((s0.n : Nat) : Int) ∧ ∃ x12_0 : Int, ∃ s12_1 : Sl, rd w2 p11.b (p11.o + Int.toNat x8 * 2) [(.int .i64 x12_0), (.slice s12_1.a s12_1.n s12_1.c)] ∧ Let (w2.alloc (.cells (zc Try.prog 36) 36)) fun w4 => 
  StoreOk w4 w2.heap.size 0 [(.int .i64 x12_0), (.slice s12_1.a s12_1.n s12_1.c)] 2 ∧ Let (put w4 w2.heap.size 0 [(.int .i64 x12_0), (.slice s12_1.a s12_1.n s12_1.c)]) fun w5 => 
  cond (decide (x8 > (25 : Int))) (
  J ⟨s3_2.a, s3_2.n, s3_2.c⟩ w5) (
  ∃ S1 : World → Prop, S1 w5.drew ∧ Let w5.drew fun w6 =>
  ∃ x17 : Int, (∀ u, S1 u → World.cell? u ⟨w2.heap.size, (0 + 0), none⟩ = some (.int .i64 x17)) ∧ ∃ s19 : Sl, (∀ u, S1 u → World.cell? u ⟨w2.heap.size, (0 + 1), none⟩ = some (.slice s19.a s19.n s19.c)) ∧ Calls Try.prog 59 [(.slice s19.a s19.n s19.c)].toArray w6 (fun e w7 => ∃ s20 : Sl, e = .returned (.slice s20.a s20.n s20.c) ∧
  S1 w7 ∧ ∃ (s22 : Sl) (w8 : World), Sem.run Try.prog (Instr.buildSlice 23 1 [(0, (.agg [(.int .i64 x17), (.slice s20.a s20.n s20.c)].toArray))].toArray) w7 = .ok (.slice s22.a s22.n s22.c) w8 ∧
  S1 w8 ∧ ∃ (s23 : Sl) (w9 : World), Sem.run Try.prog (Builtin.append_ #[23, 23] 23 #[(.slice s3_2.a s3_2.n s3_2.c), (.slice s22.a s22.n s22.c)]) w8 = .ok (.slice s23.a s23.n s23.c) w9 ∧
  S1 w9 ∧ J_2 ⟨s23.a, s23.n, s23.c⟩ w9)))) (
  J ⟨s3_2.a, s3_2.n, s3_2.c⟩ w2)))
theorem eq18 (s0 : Sl) (R : Value → World → Prop) (w : World) : funV Try.prog Try.f18 An18 [(.slice s0.a s0.n s0.c)] R w = S18 s0 R w := by kernel_rfl
theorem call18 (s0 : Sl) {R : Value → World → Prop} {w : World} (h : S18 s0 R w) : Calls Try.prog 18 [(.slice s0.a s0.n s0.c)].toArray w fun e w' => ∃ v, e = .returned v ∧ R v w' :=
  funV_calls mixed Try.func18 (an := An18) (by rw [eq18]; exact h)

/-- F20: cubeb/cubeblaw03.awake -/
def An20 : An := (.sq .lf (.sq .lf (.sq (.rj [] [(0, .bool)]) .lf)))
def S20  (R : Value → World → Prop) (w : World) : Prop :=
  ∃ (s4 : Sl) (w1 : World), Sem.run Try.prog (Instr.buildSlice 34 1 [(0, (.int .i64 (0 : Int)))].toArray) w = .ok (.slice s4.a s4.n s4.c) w1 ∧
  ∃ (s6 : Sl) (w2 : World), Sem.run Try.prog (Instr.buildSlice 34 1 [(0, (.int .i64 (0 : Int)))].toArray) w1 = .ok (.slice s6.a s6.n s6.c) w2 ∧
  2 = 2 ∧ 3 ≤ 3 ∧ ∃ (s9 : Sl) (w3 : World), Sem.run Try.prog (Instr.buildSlice 50 1 [(0, (.agg [(.bool false), (.int .i64 (0 : Int)), (.slice s6.a s6.n s6.c)].toArray))].toArray) w2 = .ok (.slice s9.a s9.n s9.c) w3 ∧
  2 = 2 ∧ 2 ≤ 3 ∧ ∃ (s11 : Sl) (w4 : World), Sem.run Try.prog (Instr.buildSlice 27 1 [(0, (.agg [(.int .i64 (1 : Int)), (.slice s4.a s4.n s4.c), (.slice s9.a s9.n s9.c)].toArray))].toArray) w3 = .ok (.slice s11.a s11.n s11.c) w4 ∧
  ∃ (s12 : Sl) (w5 : World), Sem.run Try.prog (Instr.buildSlice 34 1 [(0, (.int .i64 (3 : Int)))].toArray) w4 = .ok (.slice s12.a s12.n s12.c) w5 ∧
  ∃ (s14 : Sl) (w6 : World), Sem.run Try.prog (Instr.buildSlice 23 1 [(0, (.agg [(.int .i64 (0 : Int)), (.slice s12.a s12.n s12.c)].toArray))].toArray) w5 = .ok (.slice s14.a s14.n s14.c) w6 ∧
  Calls Try.prog 16 [(.slice s11.a s11.n s11.c), (.slice s14.a s14.n s14.c)].toArray w6 (fun e w7 => ∃ s15_0 : Sl, ∃ x15_1 : Int, e = .returned (.tuple [(.slice s15_0.a s15_0.n s15_0.c), (.int .i64 x15_1)].toArray) ∧
  Join [(0, .bool)] (fun (b0 : Bool) (w8 : World) => R (.bool b0) w8) (fun J =>
  cond (x15_1 == (0 : Int)) (∃ (s22 : Sl) (w9 : World), Sem.run Try.prog (Instr.buildSlice 34 1 [(0, (.int .i64 (3 : Int)))].toArray) w7 = .ok (.slice s22.a s22.n s22.c) w9 ∧
  ∃ (s24 : Sl) (w10 : World), Sem.run Try.prog (Instr.buildSlice 34 1 [(0, (.int .i64 (3 : Int)))].toArray) w9 = .ok (.slice s24.a s24.n s24.c) w10 ∧
  ∃ (s26 : Sl) (w11 : World), Sem.run Try.prog (Instr.buildSlice 23 2 [(0, (.agg [(.int .i64 (0 : Int)), (.slice s22.a s22.n s22.c)].toArray)), (1, (.agg [(.int .i64 (1 : Int)), (.slice s24.a s24.n s24.c)].toArray))].toArray) w10 = .ok (.slice s26.a s26.n s26.c) w11 ∧
  Calls Try.prog 21 [(.slice s15_0.a s15_0.n s15_0.c), (.slice s26.a s26.n s26.c)].toArray w11 (fun e_2 w12 => ∃ b27 : Bool, e_2 = .returned (.bool b27) ∧
  J b27 w12)) (J false w7)))
theorem eq20  (R : Value → World → Prop) (w : World) : funV Try.prog Try.f20 An20 [] R w = S20  R w := by kernel_rfl
theorem call20  {R : Value → World → Prop} {w : World} (h : S20  R w) : Calls Try.prog 20 [].toArray w fun e w' => ∃ v, e = .returned v ∧ R v w' :=
  funV_calls mixed Try.func20 (an := An20) (by rw [eq20]; exact h)

/-- F21: cubeb/cubeblaw02.Same -/
def An21 : An := (.sq .lf (.sq .lf .lf))
def S21 (s0 : Sl) (s1 : Sl) (R : Value → World → Prop) (w : World) : Prop :=
  Calls Try.prog 60 [(.slice s0.a s0.n s0.c), (.slice s1.a s1.n s1.c), (.func (.func 61) #[] [].toArray)].toArray w (fun e w1 => ∃ b7 : Bool, e = .returned (.bool b7) ∧
  R (.bool b7) w1)
theorem eq21 (s0 : Sl) (s1 : Sl) (R : Value → World → Prop) (w : World) : funV Try.prog Try.f21 An21 [(.slice s0.a s0.n s0.c), (.slice s1.a s1.n s1.c)] R w = S21 s0 s1 R w := by kernel_rfl
theorem call21 (s0 : Sl) (s1 : Sl) {R : Value → World → Prop} {w : World} (h : S21 s0 s1 R w) : Calls Try.prog 21 [(.slice s0.a s0.n s0.c), (.slice s1.a s1.n s1.c)].toArray w fun e w' => ∃ v, e = .returned v ∧ R v w' :=
  funV_calls mixed Try.func21 (an := An21) (by rw [eq21]; exact h)

/-- F58: cubeb/cubeblaw03.atom -/
def An58 : An := (.sq .lf (.sq (.dr [0, 1, 2, 3, 4, 5, 6, 7, 8, 9, 10, 11] [11] true none) .lf))
def S58 (x0_0 : Int) (s0_1 : Sl) (R : Value → World → Prop) (w : World) : Prop :=
  Let (w.alloc (.cells [(.int .i64 x0_0), (.slice s0_1.a s0_1.n s0_1.c)].toArray 91)) fun w1 => 
  Let (w1.alloc (.cells (zc Try.prog 48) 48)) fun w2 => 
  ∃ S1 : World → Prop, S1 w2.drew ∧ Let w2.drew fun w3 =>
  ∃ x4 : Int, (∀ u, S1 u → World.cell? u ⟨w.heap.size, (0 + 0), none⟩ = some (.int .i64 x4)) ∧ ∃ s6 : Sl, (∀ u, S1 u → World.cell? u ⟨w.heap.size, (0 + 1), none⟩ = some (.slice s6.a s6.n s6.c)) ∧ ∃ s8 : Sl, (∀ u, S1 u → World.cell? u ⟨w.heap.size, (0 + 1), none⟩ = some (.slice s8.a s8.n s8.c)) ∧ 0 ≤ (if (5 : Int) < ((s8.n : Nat) : Int) then (5 : Int) else ((s8.n : Nat) : Int)) ∧ (if (5 : Int) < ((s8.n : Nat) : Int) then (5 : Int) else ((s8.n : Nat) : Int)) ≤ ((s6.c : Nat) : Int) ∧ Calls Try.prog 64 [(.slice s6.a (Int.toNat (if (5 : Int) < ((s8.n : Nat) : Int) then (5 : Int) else ((s8.n : Nat) : Int))) s6.c)].toArray w3 (fun e w4 => ∃ s12 : Sl, e = .returned (.slice s12.a s12.n s12.c) ∧
  S1 w4 ∧ StoreOk w4 w1.heap.size 0 [(.int .i64 x4), (.slice s12.a s12.n s12.c)] 2 ∧ Let (put w4 w1.heap.size 0 [(.int .i64 x4), (.slice s12.a s12.n s12.c)]) fun w5 => 
  ∃ xr2_0 : Int, ∃ sr2_1 : Sl, rd w5 w1.heap.size 0 [(.int .i64 xr2_0), (.slice sr2_1.a sr2_1.n sr2_1.c)] ∧ R (.agg [(.int .i64 xr2_0), (.slice sr2_1.a sr2_1.n sr2_1.c)].toArray) w5)
theorem eq58 (x0_0 : Int) (s0_1 : Sl) (R : Value → World → Prop) (w : World) : funV Try.prog Try.f58 An58 [(.agg [(.int .i64 x0_0), (.slice s0_1.a s0_1.n s0_1.c)].toArray)] R w = S58 x0_0 s0_1 R w := by kernel_rfl
theorem call58 (x0_0 : Int) (s0_1 : Sl) {R : Value → World → Prop} {w : World} (h : S58 x0_0 s0_1 R w) : Calls Try.prog 58 [(.agg [(.int .i64 x0_0), (.slice s0_1.a s0_1.n s0_1.c)].toArray)].toArray w fun e w' => ∃ v, e = .returned v ∧ R v w' :=
  funV_calls mixed Try.func58 (an := An58) (by rw [eq58]; exact h)

/-- F59: cubeb/cubeblaw02.few -/
def An59 : An := (.sq .lf (.sq .lf .lf))
def S59 (s0 : Sl) (R : Value → World → Prop) (w : World) : Prop :=
  0 ≤ (if (9 : Int) < ((s0.n : Nat) : Int) then (9 : Int) else ((s0.n : Nat) : Int)) ∧ (if (9 : Int) < ((s0.n : Nat) : Int) then (9 : Int) else ((s0.n : Nat) : Int)) ≤ ((s0.c : Nat) : Int) ∧ Calls Try.prog 64 [(.slice s0.a (Int.toNat (if (9 : Int) < ((s0.n : Nat) : Int) then (9 : Int) else ((s0.n : Nat) : Int))) s0.c)].toArray w (fun e w1 => ∃ s8 : Sl, e = .returned (.slice s8.a s8.n s8.c) ∧
  R (.slice s8.a s8.n s8.c) w1)
theorem eq59 (s0 : Sl) (R : Value → World → Prop) (w : World) : funV Try.prog Try.f59 An59 [(.slice s0.a s0.n s0.c)] R w = S59 s0 R w := by kernel_rfl
theorem call59 (s0 : Sl) {R : Value → World → Prop} {w : World} (h : S59 s0 R w) : Calls Try.prog 59 [(.slice s0.a s0.n s0.c)].toArray w fun e w' => ∃ v, e = .returned v ∧ R v w' :=
  funV_calls mixed Try.func59 (an := An59) (by rw [eq59]; exact h)

/-- F60: slices.EqualFunc[[]cubeb/api.Fact,[]cubeb/api.Fact,cubeb/api.Fact,cubeb/api.Fact] -/
def An60 : An := (.sq .lf (.sq (.sq .lf (.cd (.sq .lf .lf) .lf)) (.sq (.sq .lf (.bk [] (.lp [(17, .int .i64)] (.sq .lf (.sq (.cd .lf .lf) (.sq (.bk [] (.sq .lf (.sq .lf (.sq .lf (.cd (.sq .lf .lf) .lf))))) .lf)))))) (.sq .lf .lf))))
def S60 (s0 : Sl) (s1 : Sl) (f2 : Nat) (c2 : List Value) (R : Value → World → Prop) (w : World) : Prop :=
  cond (((s0.n : Nat) : Int) != ((s1.n : Nat) : Int)) (
  R (.bool false) w) (
  Join [] (fun (w1 : World) => R (.bool true) w1) (fun J =>
  LoopV [(17, .int .i64)] (fun K => K (0 : Int) w) (fun N => fun (x17 : Int) (w2 : World) =>
  cond (decide (x17 < ((s0.n : Nat) : Int))) (
  Join [] (fun (w3 : World) => N (IntKind.wrap .i64 (x17 + (1 : Int))) w3) (fun J_2 =>
  ∃ p20 : Pt, s0.a = some ⟨p20.b, p20.o, none⟩ ∧ 0 ≤ x17 ∧ x17 < ((s0.n : Nat) : Int) ∧ ∃ x21_0 : Int, ∃ s21_1 : Sl, rd w2 p20.b (p20.o + Int.toNat x17 * 2) [(.int .i64 x21_0), (.slice s21_1.a s21_1.n s21_1.c)] ∧ Let (w2.alloc (.cells (zc Try.prog 36) 36)) fun w4 => 
  StoreOk w4 w2.heap.size 0 [(.int .i64 x21_0), (.slice s21_1.a s21_1.n s21_1.c)] 2 ∧ Let (put w4 w2.heap.size 0 [(.int .i64 x21_0), (.slice s21_1.a s21_1.n s21_1.c)]) fun w5 => 
  ∃ p24 : Pt, s1.a = some ⟨p24.b, p24.o, none⟩ ∧ 0 ≤ x17 ∧ x17 < ((s1.n : Nat) : Int) ∧ ∃ x25_0 : Int, ∃ s25_1 : Sl, rd w5 p24.b (p24.o + Int.toNat x17 * 2) [(.int .i64 x25_0), (.slice s25_1.a s25_1.n s25_1.c)] ∧ Let (w5.alloc (.cells (zc Try.prog 36) 36)) fun w6 => 
  StoreOk w6 w5.heap.size 0 [(.int .i64 x25_0), (.slice s25_1.a s25_1.n s25_1.c)] 2 ∧ Let (put w6 w5.heap.size 0 [(.int .i64 x25_0), (.slice s25_1.a s25_1.n s25_1.c)]) fun w7 => 
  ∃ x27_0 : Int, ∃ s27_1 : Sl, rd w7 w2.heap.size 0 [(.int .i64 x27_0), (.slice s27_1.a s27_1.n s27_1.c)] ∧ ∃ x28_0 : Int, ∃ s28_1 : Sl, rd w7 w5.heap.size 0 [(.int .i64 x28_0), (.slice s28_1.a s28_1.n s28_1.c)] ∧ (bif callable Try.prog f2 then Calls Try.prog f2 (([(.agg [(.int .i64 x27_0), (.slice s27_1.a s27_1.n s27_1.c)].toArray), (.agg [(.int .i64 x28_0), (.slice s28_1.a s28_1.n s28_1.c)].toArray)] : List Value) ++ c2).toArray w7 (fun e w8 => ∃ b29 : Bool, e = .returned (.bool b29) ∧
  cond (!b29) (
  R (.bool false) w8) (
  J_2 w8)) else False))) (
  J w2))))
theorem eq60 (s0 : Sl) (s1 : Sl) (f2 : Nat) (c2 : List Value) (R : Value → World → Prop) (w : World) : funV Try.prog Try.f60 An60 [(.slice s0.a s0.n s0.c), (.slice s1.a s1.n s1.c), (.func (.func f2) #[] c2.toArray)] R w = S60 s0 s1 f2 c2 R w := by kernel_rfl
theorem call60 (s0 : Sl) (s1 : Sl) (f2 : Nat) (c2 : List Value) {R : Value → World → Prop} {w : World} (h : S60 s0 s1 f2 c2 R w) : Calls Try.prog 60 [(.slice s0.a s0.n s0.c), (.slice s1.a s1.n s1.c), (.func (.func f2) #[] c2.toArray)].toArray w fun e w' => ∃ v, e = .returned v ∧ R v w' :=
  funV_calls mixed Try.func60 (an := An60) (by rw [eq60]; exact h)

/-- F61: cubeb/cubeblaw02.Same$1 -/
def An61 : An := (.sq .lf (.sq (.rj [] [(4, .bool)]) .lf))
def S61 (x0_0 : Int) (s0_1 : Sl) (x1_0 : Int) (s1_1 : Sl) (R : Value → World → Prop) (w : World) : Prop :=
  Let (w.alloc (.cells [(.int .i64 x0_0), (.slice s0_1.a s0_1.n s0_1.c)].toArray 36)) fun w1 => 
  Let (w1.alloc (.cells [(.int .i64 x1_0), (.slice s1_1.a s1_1.n s1_1.c)].toArray 36)) fun w2 => 
  Join [(4, .bool)] (fun (b4 : Bool) (w3 : World) => R (.bool b4) w3) (fun J =>
  ∃ x6 : Int, World.cell? w2 ⟨w.heap.size, (0 + 0), none⟩ = some (.int .i64 x6) ∧ ∃ x8 : Int, World.cell? w2 ⟨w1.heap.size, (0 + 0), none⟩ = some (.int .i64 x8) ∧ cond (x6 == x8) (∃ s12 : Sl, World.cell? w2 ⟨w.heap.size, (0 + 1), none⟩ = some (.slice s12.a s12.n s12.c) ∧ ∃ s14 : Sl, World.cell? w2 ⟨w1.heap.size, (0 + 1), none⟩ = some (.slice s14.a s14.n s14.c) ∧ Calls Try.prog 32 [(.slice s12.a s12.n s12.c), (.slice s14.a s14.n s14.c)].toArray w2 (fun e w4 => ∃ b15 : Bool, e = .returned (.bool b15) ∧
  J b15 w4)) (J false w2))
theorem eq61 (x0_0 : Int) (s0_1 : Sl) (x1_0 : Int) (s1_1 : Sl) (R : Value → World → Prop) (w : World) : funV Try.prog Try.f61 An61 [(.agg [(.int .i64 x0_0), (.slice s0_1.a s0_1.n s0_1.c)].toArray), (.agg [(.int .i64 x1_0), (.slice s1_1.a s1_1.n s1_1.c)].toArray)] R w = S61 x0_0 s0_1 x1_0 s1_1 R w := by kernel_rfl
theorem call61 (x0_0 : Int) (s0_1 : Sl) (x1_0 : Int) (s1_1 : Sl) {R : Value → World → Prop} {w : World} (h : S61 x0_0 s0_1 x1_0 s1_1 R w) : Calls Try.prog 61 [(.agg [(.int .i64 x0_0), (.slice s0_1.a s0_1.n s0_1.c)].toArray), (.agg [(.int .i64 x1_0), (.slice s1_1.a s1_1.n s1_1.c)].toArray)].toArray w fun e w' => ∃ v, e = .returned v ∧ R v w' :=
  funV_calls mixed Try.func61 (an := An61) (by rw [eq61]; exact h)

/-- F64: slices.Clone[[]int,int] -/
def An64 : An := (.sq .lf (.sq (.sq .lf (.cd (.sq .lf .lf) .lf)) (.sq .lf .lf)))
def S64 (s0 : Sl) (R : Value → World → Prop) (w : World) : Prop :=
  cond (Option.isNone s0.a) (
  R (.slice none 0 0) w) (
  ∃ (s5 : Sl) (w1 : World), Sem.run Try.prog (Instr.buildSlice 34 0 [].toArray) w = .ok (.slice s5.a s5.n s5.c) w1 ∧
  ∃ (s7 : Sl) (w2 : World), Sem.run Try.prog (Builtin.append_ #[34, 34] 34 #[(.slice s5.a s5.n s5.c), (.slice s0.a s0.n s0.c)]) w1 = .ok (.slice s7.a s7.n s7.c) w2 ∧
  R (.slice s7.a s7.n s7.c) w2)
theorem eq64 (s0 : Sl) (R : Value → World → Prop) (w : World) : funV Try.prog Try.f64 An64 [(.slice s0.a s0.n s0.c)] R w = S64 s0 R w := by kernel_rfl
theorem call64 (s0 : Sl) {R : Value → World → Prop} {w : World} (h : S64 s0 R w) : Calls Try.prog 64 [(.slice s0.a s0.n s0.c)].toArray w fun e w' => ∃ v, e = .returned v ∧ R v w' :=
  funV_calls mixed Try.func64 (an := An64) (by rw [eq64]; exact h)

/-- F23: cubeb/cubeblaw03.fact -/
def An23 : An := (.sq .lf (.sq (.dr [0, 1, 2, 3, 4, 5, 6, 7, 8, 9, 10, 11] [11] true none) .lf))
def S23 (x0_0 : Int) (s0_1 : Sl) (R : Value → World → Prop) (w : World) : Prop :=
  Let (w.alloc (.cells [(.int .i64 x0_0), (.slice s0_1.a s0_1.n s0_1.c)].toArray 36)) fun w1 => 
  Let (w1.alloc (.cells (zc Try.prog 36) 36)) fun w2 => 
  ∃ S1 : World → Prop, S1 w2.drew ∧ Let w2.drew fun w3 =>
  ∃ x4 : Int, (∀ u, S1 u → World.cell? u ⟨w.heap.size, (0 + 0), none⟩ = some (.int .i64 x4)) ∧ ∃ s6 : Sl, (∀ u, S1 u → World.cell? u ⟨w.heap.size, (0 + 1), none⟩ = some (.slice s6.a s6.n s6.c)) ∧ ∃ s8 : Sl, (∀ u, S1 u → World.cell? u ⟨w.heap.size, (0 + 1), none⟩ = some (.slice s8.a s8.n s8.c)) ∧ 0 ≤ (if (5 : Int) < ((s8.n : Nat) : Int) then (5 : Int) else ((s8.n : Nat) : Int)) ∧ (if (5 : Int) < ((s8.n : Nat) : Int) then (5 : Int) else ((s8.n : Nat) : Int)) ≤ ((s6.c : Nat) : Int) ∧ Calls Try.prog 64 [(.slice s6.a (Int.toNat (if (5 : Int) < ((s8.n : Nat) : Int) then (5 : Int) else ((s8.n : Nat) : Int))) s6.c)].toArray w3 (fun e w4 => ∃ s12 : Sl, e = .returned (.slice s12.a s12.n s12.c) ∧
  S1 w4 ∧ StoreOk w4 w1.heap.size 0 [(.int .i64 x4), (.slice s12.a s12.n s12.c)] 2 ∧ Let (put w4 w1.heap.size 0 [(.int .i64 x4), (.slice s12.a s12.n s12.c)]) fun w5 => 
  ∃ xr2_0 : Int, ∃ sr2_1 : Sl, rd w5 w1.heap.size 0 [(.int .i64 xr2_0), (.slice sr2_1.a sr2_1.n sr2_1.c)] ∧ R (.agg [(.int .i64 xr2_0), (.slice sr2_1.a sr2_1.n sr2_1.c)].toArray) w5)
theorem eq23 (x0_0 : Int) (s0_1 : Sl) (R : Value → World → Prop) (w : World) : funV Try.prog Try.f23 An23 [(.agg [(.int .i64 x0_0), (.slice s0_1.a s0_1.n s0_1.c)].toArray)] R w = S23 x0_0 s0_1 R w := by kernel_rfl
theorem call23 (x0_0 : Int) (s0_1 : Sl) {R : Value → World → Prop} {w : World} (h : S23 x0_0 s0_1 R w) : Calls Try.prog 23 [(.agg [(.int .i64 x0_0), (.slice s0_1.a s0_1.n s0_1.c)].toArray)].toArray w fun e w' => ∃ v, e = .returned v ∧ R v w' :=
  funV_calls mixed Try.func23 (an := An23) (by rw [eq23]; exact h)

/-- F24: cubeb/cubeblaw03.within -/
def An24 : An := (.sq .lf (.sq .lf .lf))
def S24 (s0 : Sl) (x1_0 : Int) (s1_1 : Sl) (R : Value → World → Prop) (w : World) : Prop :=
  Let (w.alloc (.cells [(.int .i64 x1_0), (.slice s1_1.a s1_1.n s1_1.c)].toArray 36)) fun w1 => 
  Calls Try.prog 65 [(.slice s0.a s0.n s0.c), (.func (.func 66) #[] [(.pointer (some ⟨w.heap.size, 0, none⟩))].toArray)].toArray w1 (fun e w2 => ∃ b7 : Bool, e = .returned (.bool b7) ∧
  R (.bool b7) w2)
theorem eq24 (s0 : Sl) (x1_0 : Int) (s1_1 : Sl) (R : Value → World → Prop) (w : World) : funV Try.prog Try.f24 An24 [(.slice s0.a s0.n s0.c), (.agg [(.int .i64 x1_0), (.slice s1_1.a s1_1.n s1_1.c)].toArray)] R w = S24 s0 x1_0 s1_1 R w := by kernel_rfl
theorem call24 (s0 : Sl) (x1_0 : Int) (s1_1 : Sl) {R : Value → World → Prop} {w : World} (h : S24 s0 x1_0 s1_1 R w) : Calls Try.prog 24 [(.slice s0.a s0.n s0.c), (.agg [(.int .i64 x1_0), (.slice s1_1.a s1_1.n s1_1.c)].toArray)].toArray w fun e w' => ∃ v, e = .returned v ∧ R v w' :=
  funV_calls mixed Try.func24 (an := An24) (by rw [eq24]; exact h)

/-- F65: slices.ContainsFunc[[]cubeb/api.Fact,cubeb/api.Fact] -/
def An65 : An := (.sq .lf (.sq .lf .lf))
def S65 (s0 : Sl) (f1 : Nat) (c1 : List Value) (R : Value → World → Prop) (w : World) : Prop :=
  Calls Try.prog 91 [(.slice s0.a s0.n s0.c), (.func (.func f1) #[] c1.toArray)].toArray w (fun e w1 => ∃ x7 : Int, e = .returned (.int .i64 x7) ∧
  R (.bool (decide (x7 ≥ (0 : Int)))) w1)
theorem eq65 (s0 : Sl) (f1 : Nat) (c1 : List Value) (R : Value → World → Prop) (w : World) : funV Try.prog Try.f65 An65 [(.slice s0.a s0.n s0.c), (.func (.func f1) #[] c1.toArray)] R w = S65 s0 f1 c1 R w := by kernel_rfl
theorem call65 (s0 : Sl) (f1 : Nat) (c1 : List Value) {R : Value → World → Prop} {w : World} (h : S65 s0 f1 c1 R w) : Calls Try.prog 65 [(.slice s0.a s0.n s0.c), (.func (.func f1) #[] c1.toArray)].toArray w fun e w' => ∃ v, e = .returned v ∧ R v w' :=
  funV_calls mixed Try.func65 (an := An65) (by rw [eq65]; exact h)

/-- F91: slices.IndexFunc[[]cubeb/api.Fact,cubeb/api.Fact] -/
def An91 : An := (.sq .lf (.sq (.sq .lf (.bk [] (.lp [(8, .int .i64)] (.sq .lf (.sq (.cd .lf .lf) (.sq (.bk [] (.sq .lf (.sq .lf (.cd (.sq .lf .lf) .lf)))) .lf)))))) (.sq .lf .lf)))
def S91 (s0 : Sl) (f1 : Nat) (c1 : List Value) (R : Value → World → Prop) (w : World) : Prop :=
  Join [] (fun (w1 : World) => R (.int .i64 (-1 : Int)) w1) (fun J =>
  LoopV [(8, .int .i64)] (fun K => K (0 : Int) w) (fun N => fun (x8 : Int) (w2 : World) =>
  cond (decide (x8 < ((s0.n : Nat) : Int))) (
  Join [] (fun (w3 : World) => N (IntKind.wrap .i64 (x8 + (1 : Int))) w3) (fun J_2 =>
  ∃ p14 : Pt, s0.a = some ⟨p14.b, p14.o, none⟩ ∧ 0 ≤ x8 ∧ x8 < ((s0.n : Nat) : Int) ∧ ∃ x15_0 : Int, ∃ s15_1 : Sl, rd w2 p14.b (p14.o + Int.toNat x8 * 2) [(.int .i64 x15_0), (.slice s15_1.a s15_1.n s15_1.c)] ∧ (bif callable Try.prog f1 then Calls Try.prog f1 (([(.agg [(.int .i64 x15_0), (.slice s15_1.a s15_1.n s15_1.c)].toArray)] : List Value) ++ c1).toArray w2 (fun e w4 => ∃ b16 : Bool, e = .returned (.bool b16) ∧
  cond b16 (
  R (.int .i64 x8) w4) (
  J_2 w4)) else False))) (
  J w2)))
theorem eq91 (s0 : Sl) (f1 : Nat) (c1 : List Value) (R : Value → World → Prop) (w : World) : funV Try.prog Try.f91 An91 [(.slice s0.a s0.n s0.c), (.func (.func f1) #[] c1.toArray)] R w = S91 s0 f1 c1 R w := by kernel_rfl
theorem call91 (s0 : Sl) (f1 : Nat) (c1 : List Value) {R : Value → World → Prop} {w : World} (h : S91 s0 f1 c1 R w) : Calls Try.prog 91 [(.slice s0.a s0.n s0.c), (.func (.func f1) #[] c1.toArray)].toArray w fun e w' => ∃ v, e = .returned v ∧ R v w' :=
  funV_calls mixed Try.func91 (an := An91) (by rw [eq91]; exact h)

/-- F66: cubeb/cubeblaw03.within$1 -/
def An66 : An := (.sq .lf (.sq (.rj [] [(3, .bool)]) .lf))
def S66 (x0_0 : Int) (s0_1 : Sl) (p1 : Pt) (R : Value → World → Prop) (w : World) : Prop :=
  Let (w.alloc (.cells [(.int .i64 x0_0), (.slice s0_1.a s0_1.n s0_1.c)].toArray 36)) fun w1 => 
  Join [(3, .bool)] (fun (b3 : Bool) (w2 : World) => R (.bool b3) w2) (fun J =>
  ∃ x5 : Int, World.cell? w1 ⟨p1.b, (p1.o + 0), none⟩ = some (.int .i64 x5) ∧ ∃ x7 : Int, World.cell? w1 ⟨w.heap.size, (0 + 0), none⟩ = some (.int .i64 x7) ∧ cond (x5 == x7) (∃ s11 : Sl, World.cell? w1 ⟨p1.b, (p1.o + 1), none⟩ = some (.slice s11.a s11.n s11.c) ∧ ∃ s13 : Sl, World.cell? w1 ⟨w.heap.size, (0 + 1), none⟩ = some (.slice s13.a s13.n s13.c) ∧ Calls Try.prog 32 [(.slice s11.a s11.n s11.c), (.slice s13.a s13.n s13.c)].toArray w1 (fun e w3 => ∃ b14 : Bool, e = .returned (.bool b14) ∧
  J b14 w3)) (J false w1))
theorem eq66 (x0_0 : Int) (s0_1 : Sl) (p1 : Pt) (R : Value → World → Prop) (w : World) : funV Try.prog Try.f66 An66 [(.agg [(.int .i64 x0_0), (.slice s0_1.a s0_1.n s0_1.c)].toArray), (.pointer (some ⟨p1.b, p1.o, none⟩))] R w = S66 x0_0 s0_1 p1 R w := by kernel_rfl
theorem call66 (x0_0 : Int) (s0_1 : Sl) (p1 : Pt) {R : Value → World → Prop} {w : World} (h : S66 x0_0 s0_1 p1 R w) : Calls Try.prog 66 [(.agg [(.int .i64 x0_0), (.slice s0_1.a s0_1.n s0_1.c)].toArray), (.pointer (some ⟨p1.b, p1.o, none⟩))].toArray w fun e w' => ∃ v, e = .returned v ∧ R v w' :=
  funV_calls mixed Try.func66 (an := An66) (by rw [eq66]; exact h)

/-- F32: slices.Equal[[]int,int] -/
def An32 : An := (.sq .lf (.sq (.sq .lf (.cd (.sq .lf .lf) .lf)) (.sq (.sq .lf (.bk [] (.lp [(13, .int .i64)] (.sq .lf (.sq (.cd .lf .lf) (.sq (.bk [] (.sq .lf (.sq (.dr [0, 1, 2, 3, 4, 5, 6, 7, 8] [] false none) (.cd (.sq .lf .lf) .lf)))) .lf)))))) (.sq .lf .lf))))
def S32 (s0 : Sl) (s1 : Sl) (R : Value → World → Prop) (w : World) : Prop :=
  cond (((s0.n : Nat) : Int) != ((s1.n : Nat) : Int)) (
  R (.bool false) w) (
  Join [] (fun (w1 : World) => R (.bool true) w1) (fun J =>
  LoopV [(13, .int .i64)] (fun K => K (0 : Int) w) (fun N => fun (x13 : Int) (w2 : World) =>
  cond (decide (x13 < ((s0.n : Nat) : Int))) (
  Join [] (fun (w3 : World) => N (IntKind.wrap .i64 (x13 + (1 : Int))) w3) (fun J_2 =>
  Let w2.drew fun w4 =>
  ∃ p18 : Pt, s0.a = some ⟨p18.b, p18.o, none⟩ ∧ 0 ≤ x13 ∧ x13 < ((s0.n : Nat) : Int) ∧ ∃ x19 : Int, World.cell? w4 ⟨p18.b, (p18.o + Int.toNat x13 * 1), none⟩ = some (.int .i64 x19) ∧ ∃ p22 : Pt, s1.a = some ⟨p22.b, p22.o, none⟩ ∧ 0 ≤ x13 ∧ x13 < ((s1.n : Nat) : Int) ∧ ∃ x23 : Int, World.cell? w4 ⟨p22.b, (p22.o + Int.toNat x13 * 1), none⟩ = some (.int .i64 x23) ∧ cond (x19 != x23) (
  R (.bool false) w4) (
  J_2 w4))) (
  J w2))))
theorem eq32 (s0 : Sl) (s1 : Sl) (R : Value → World → Prop) (w : World) : funV Try.prog Try.f32 An32 [(.slice s0.a s0.n s0.c), (.slice s1.a s1.n s1.c)] R w = S32 s0 s1 R w := by kernel_rfl
theorem call32 (s0 : Sl) (s1 : Sl) {R : Value → World → Prop} {w : World} (h : S32 s0 s1 R w) : Calls Try.prog 32 [(.slice s0.a s0.n s0.c), (.slice s1.a s1.n s1.c)].toArray w fun e w' => ∃ v, e = .returned v ∧ R v w' :=
  funV_calls mixed Try.func32 (an := An32) (by rw [eq32]; exact h)

end Go.Proofs.Ytoljknamnkkgcaa
