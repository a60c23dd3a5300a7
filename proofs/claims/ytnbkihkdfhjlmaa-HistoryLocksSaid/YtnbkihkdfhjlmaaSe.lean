/-
  Printed by a program of this session (wip/tools/vcprint.py): of each Go function the shallow form, and that the calculus comes to it, by the kernel.
-/
import Derived.Test.YtnbkihkdfhjlmaaSd
import Derived.Test.YtnbkihkdfhjlmaaProg
import Derived.KernelRfl
namespace Go.Proofs.Ytnbkihkdfhjlmaa
open Go Go.VC
set_option maxRecDepth 100000

/-- F80: (*cubeb/cubebref05.table).hinders -/
def An80 : An := (.sq .lf (.sq .lf (.sq (.sq .lf (.bk [(5, .slice)] (.lp [(5, .slice), (6, .int .i64)] (.sq (.sq .lf (.cd .lf .lf)) (.sq (.bk [(5, .slice)] (.sq (.dr [0, 1, 2, 3, 4, 5, 6, 7, 8, 9, 10, 11, 12, 13, 14, 15, 16, 17, 18, 19, 20, 21, 22, 23, 24, 25, 26, 27, 28, 29, 30, 31, 32, 33, 34, 35] [] false (some [(46, .bool)])) (.cj [(5, .slice)] .lf .lf))) .lf))))) (.sq .lf .lf))))
def S80 (p0 : Pt) (x1_0 : Int) (x1_1 : Int) (x1_2 : Int) (R : Value → World → Prop) (w : World) : Prop :=
  Let (w.alloc (.cells [(.int .i64 x1_0), (.int .i64 x1_1), (.int .i64 x1_2)].toArray 37)) fun w1 => 
  Join [(5, .slice)] (fun (s5 : Sl) (w2 : World) => R (.slice s5.a s5.n s5.c) w2) (fun J =>
  LoopV [(5, .slice), (6, .int .i64)] (fun K => K ⟨none, 0, 0⟩ (1 : Int) w1) (fun N => fun (s5_2 : Sl) (x6 : Int) (w3 : World) =>
  cond (decide (x6 ≤ (6 : Int))) (
  Join [(5, .slice)] (fun (s5_3 : Sl) (w4 : World) => N ⟨s5_3.a, s5_3.n, s5_3.c⟩ (IntKind.wrap .i64 (x6 + (1 : Int))) w4) (fun J_2 =>
  Join [(46, .bool)] (fun (b46 : Bool) (w5 : World) => Join [(5, .slice)] (fun (s5_4 : Sl) (w6 : World) => J_2 ⟨s5_4.a, s5_4.n, s5_4.c⟩ w6) (fun J_3 =>
  cond b46 (
  ∃ (s49 : Sl) (w7 : World), Sem.run Try.prog (Instr.buildSlice 24 1 [(0, (.int .i64 x6))].toArray) w5 = .ok (.slice s49.a s49.n s49.c) w7 ∧
  ∃ (s50 : Sl) (w8 : World), Sem.run Try.prog (Builtin.append_ #[24, 24] 24 #[(.slice s5_2.a s5_2.n s5_2.c), (.slice s49.a s49.n s49.c)]) w7 = .ok (.slice s50.a s50.n s50.c) w8 ∧
  J_3 ⟨s50.a, s50.n, s50.c⟩ w8) (
  J_3 ⟨s5_2.a, s5_2.n, s5_2.c⟩ w5))) (fun J_4 =>
  Let w3.drew fun w9 =>
  ∃ x13 : Int, World.cell? w9 ⟨w.heap.size, (0 + 0), none⟩ = some (.int .i64 x13) ∧ cond (x6 != x13) (∃ x17 : Int, World.cell? w9 ⟨w.heap.size, (0 + 1), none⟩ = some (.int .i64 x17) ∧ cond (decide (x17 < (2 : Int))) (∃ x23 : Int, World.cell? w9 ⟨w.heap.size, (0 + 2), none⟩ = some (.int .i64 x23) ∧ 0 ≤ x6 ∧ x6 < ((7 : Nat) : Int) ∧ 0 ≤ x23 ∧ x23 < ((6 : Nat) : Int) ∧ ∃ b28 : Bool, World.cell? w9 ⟨p0.b, (((p0.o + 43) + Int.toNat x6 * 6) + Int.toNat x23 * 1), none⟩ = some (.bool b28) ∧ cond b28 (J_4 true w9) (∃ x32 : Int, World.cell? w9 ⟨w.heap.size, (0 + 1), none⟩ = some (.int .i64 x32) ∧ cond (x32 == (1 : Int)) (∃ x38 : Int, World.cell? w9 ⟨w.heap.size, (0 + 2), none⟩ = some (.int .i64 x38) ∧ 0 ≤ x6 ∧ x6 < ((7 : Nat) : Int) ∧ 0 ≤ x38 ∧ x38 < ((6 : Nat) : Int) ∧ ∃ b43 : Bool, World.cell? w9 ⟨p0.b, (((p0.o + 1) + Int.toNat x6 * 6) + Int.toNat x38 * 1), none⟩ = some (.bool b43) ∧ J_4 b43 w9) (J_4 false w9))) (∃ x32_2 : Int, World.cell? w9 ⟨w.heap.size, (0 + 1), none⟩ = some (.int .i64 x32_2) ∧ cond (x32_2 == (1 : Int)) (∃ x38_2 : Int, World.cell? w9 ⟨w.heap.size, (0 + 2), none⟩ = some (.int .i64 x38_2) ∧ 0 ≤ x6 ∧ x6 < ((7 : Nat) : Int) ∧ 0 ≤ x38_2 ∧ x38_2 < ((6 : Nat) : Int) ∧ ∃ b43_2 : Bool, World.cell? w9 ⟨p0.b, (((p0.o + 1) + Int.toNat x6 * 6) + Int.toNat x38_2 * 1), none⟩ = some (.bool b43_2) ∧ J_4 b43_2 w9) (J_4 false w9))) (J_4 false w9)))) (
  J ⟨s5_2.a, s5_2.n, s5_2.c⟩ w3)))
theorem eq80 (p0 : Pt) (x1_0 : Int) (x1_1 : Int) (x1_2 : Int) (R : Value → World → Prop) (w : World) : funV Try.prog Try.f80 An80 [(.pointer (some ⟨p0.b, p0.o, none⟩)), (.agg [(.int .i64 x1_0), (.int .i64 x1_1), (.int .i64 x1_2)].toArray)] R w = S80 p0 x1_0 x1_1 x1_2 R w := by kernel_rfl
theorem call80 (p0 : Pt) (x1_0 : Int) (x1_1 : Int) (x1_2 : Int) {R : Value → World → Prop} {w : World} (h : S80 p0 x1_0 x1_1 x1_2 R w) : Calls Try.prog 80 [(.pointer (some ⟨p0.b, p0.o, none⟩)), (.agg [(.int .i64 x1_0), (.int .i64 x1_1), (.int .i64 x1_2)].toArray)].toArray w fun e w' => ∃ v, e = .returned v ∧ R v w' :=
  funV_calls mixed Try.func80 (an := An80) (by rw [eq80]; exact h)

/-- F94: (*cubeb/cubebref05.table).release -/
def An94 : An := (.dr [0, 1, 2, 3, 4, 5, 6, 7, 8, 10, 11, 9, 12, 13] [] false none)
def S94 (p0 : Pt) (x1 : Int) (R : Value → World → Prop) (w : World) : Prop :=
  Let w.drew fun w1 =>
  0 ≤ x1 ∧ x1 < ((7 : Nat) : Int) ∧ StoreOk w1 p0.b ((p0.o + 1) + Int.toNat x1 * 6) [(.bool false), (.bool false), (.bool false), (.bool false), (.bool false), (.bool false)] 6 ∧ Let (put w1 p0.b ((p0.o + 1) + Int.toNat x1 * 6) [(.bool false), (.bool false), (.bool false), (.bool false), (.bool false), (.bool false)]) fun w2 => 
  0 ≤ x1 ∧ x1 < ((7 : Nat) : Int) ∧ StoreOk w2 p0.b ((p0.o + 43) + Int.toNat x1 * 6) [(.bool false), (.bool false), (.bool false), (.bool false), (.bool false), (.bool false)] 6 ∧ Let (put w2 p0.b ((p0.o + 43) + Int.toNat x1 * 6) [(.bool false), (.bool false), (.bool false), (.bool false), (.bool false), (.bool false)]) fun w3 => 
  R (.tuple [].toArray) w3
theorem eq94 (p0 : Pt) (x1 : Int) (R : Value → World → Prop) (w : World) : funV Try.prog Try.f94 An94 [(.pointer (some ⟨p0.b, p0.o, none⟩)), (.int .i64 x1)] R w = S94 p0 x1 R w := by kernel_rfl
theorem call94 (p0 : Pt) (x1 : Int) {R : Value → World → Prop} {w : World} (h : S94 p0 x1 R w) : Calls Try.prog 94 [(.pointer (some ⟨p0.b, p0.o, none⟩)), (.int .i64 x1)].toArray w fun e w' => ∃ v, e = .returned v ∧ R v w' :=
  funV_calls mixed Try.func94 (an := An94) (by rw [eq94]; exact h)

/-- F82: (*cubeb/cubebref05.table).do -/
def An82 : An := (.sq .lf (.sq (.dr [0, 1, 2, 3, 4, 5, 6, 7, 8, 9, 10] [10] true none) (.sq .lf (.bk [] (.sq .lf (.cj [] (.dr [0, 1, 2, 3, 4, 5, 6, 7, 8, 9] [] false none) (.sq .lf (.cj [] (.dr [0, 1, 2, 3, 4, 5, 6, 7, 8, 9] [] false none) .lf))))))))
def S82 (p0 : Pt) (x1_0 : Int) (x1_1 : Int) (x1_2 : Int) (R : Value → World → Prop) (w : World) : Prop :=
  Let (w.alloc (.cells [(.int .i64 x1_0), (.int .i64 x1_1), (.int .i64 x1_2)].toArray 37)) fun w1 => 
  ∃ S1 : World → Prop, S1 w1.drew ∧ Let w1.drew fun w2 =>
  ∃ s8 : Sl, (∀ u, S1 u → World.cell? u ⟨p0.b, (p0.o + 0), none⟩ = some (.slice s8.a s8.n s8.c)) ∧ ∃ x9_0 : Int, ∃ x9_1 : Int, ∃ x9_2 : Int, (∀ u, S1 u → rd u w.heap.size 0 [(.int .i64 x9_0), (.int .i64 x9_1), (.int .i64 x9_2)]) ∧ ∃ (s10 : Sl) (w3 : World), Sem.run Try.prog (Instr.buildSlice 23 1 [(0, (.agg [(.int .i64 x9_0), (.int .i64 x9_1), (.int .i64 x9_2)].toArray))].toArray) w2 = .ok (.slice s10.a s10.n s10.c) w3 ∧
  S1 w3 ∧ ∃ (s11 : Sl) (w4 : World), Sem.run Try.prog (Builtin.append_ #[23, 23] 23 #[(.slice s8.a s8.n s8.c), (.slice s10.a s10.n s10.c)]) w3 = .ok (.slice s11.a s11.n s11.c) w4 ∧
  S1 w4 ∧ StoreOk w4 p0.b (p0.o + 0) [(.slice s11.a s11.n s11.c)] 1 ∧ Let (put w4 p0.b (p0.o + 0) [(.slice s11.a s11.n s11.c)]) fun w5 => 
  ∃ x15 : Int, World.cell? w5 ⟨w.heap.size, (0 + 1), none⟩ = some (.int .i64 x15) ∧ Join [] (fun (w6 : World) => R (.tuple [].toArray) w6) (fun J =>
  Join [] (fun (w7 : World) => J w7) (fun J_2 =>
  cond (x15 == (0 : Int)) (
  Let w5.drew fun w8 =>
  ∃ x24 : Int, World.cell? w8 ⟨w.heap.size, (0 + 0), none⟩ = some (.int .i64 x24) ∧ ∃ x26 : Int, World.cell? w8 ⟨w.heap.size, (0 + 2), none⟩ = some (.int .i64 x26) ∧ 0 ≤ x24 ∧ x24 < ((7 : Nat) : Int) ∧ 0 ≤ x26 ∧ x26 < ((6 : Nat) : Int) ∧ StoreOk w8 p0.b (((p0.o + 1) + Int.toNat x24 * 6) + Int.toNat x26 * 1) [(.bool true)] 1 ∧ Let (put w8 p0.b (((p0.o + 1) + Int.toNat x24 * 6) + Int.toNat x26 * 1) [(.bool true)]) fun w9 => 
  J_2 w9) (
  Join [] (fun (w10 : World) => J_2 w10) (fun J_3 =>
  cond (x15 == (1 : Int)) (
  Let w5.drew fun w11 =>
  ∃ x35 : Int, World.cell? w11 ⟨w.heap.size, (0 + 0), none⟩ = some (.int .i64 x35) ∧ ∃ x37 : Int, World.cell? w11 ⟨w.heap.size, (0 + 2), none⟩ = some (.int .i64 x37) ∧ 0 ≤ x35 ∧ x35 < ((7 : Nat) : Int) ∧ 0 ≤ x37 ∧ x37 < ((6 : Nat) : Int) ∧ StoreOk w11 p0.b (((p0.o + 43) + Int.toNat x35 * 6) + Int.toNat x37 * 1) [(.bool true)] 1 ∧ Let (put w11 p0.b (((p0.o + 43) + Int.toNat x35 * 6) + Int.toNat x37 * 1) [(.bool true)]) fun w12 => 
  J_3 w12) (
  ∃ x18 : Int, World.cell? w5 ⟨w.heap.size, (0 + 0), none⟩ = some (.int .i64 x18) ∧ Calls Try.prog 94 [(.pointer (some ⟨p0.b, p0.o, none⟩)), (.int .i64 x18)].toArray w5 (fun e w13 => e = .returned (.tuple [].toArray) ∧
  J_3 w13))))))
theorem eq82 (p0 : Pt) (x1_0 : Int) (x1_1 : Int) (x1_2 : Int) (R : Value → World → Prop) (w : World) : funV Try.prog Try.f82 An82 [(.pointer (some ⟨p0.b, p0.o, none⟩)), (.agg [(.int .i64 x1_0), (.int .i64 x1_1), (.int .i64 x1_2)].toArray)] R w = S82 p0 x1_0 x1_1 x1_2 R w := by kernel_rfl
theorem call82 (p0 : Pt) (x1_0 : Int) (x1_1 : Int) (x1_2 : Int) {R : Value → World → Prop} {w : World} (h : S82 p0 x1_0 x1_1 x1_2 R w) : Calls Try.prog 82 [(.pointer (some ⟨p0.b, p0.o, none⟩)), (.agg [(.int .i64 x1_0), (.int .i64 x1_1), (.int .i64 x1_2)].toArray)].toArray w fun e w' => ∃ v, e = .returned v ∧ R v w' :=
  funV_calls mixed Try.func82 (an := An82) (by rw [eq82]; exact h)

/-- F81: (*cubeb/cubebref05.table).caught -/
def An81 : An := (.sq .lf (.sq .lf (.sq .lf (.sq (.bk [] (.lp [(6, .slice)] (.sq (.sq .lf (.cd .lf .lf)) (.bk [(6, .slice)] (.sq .lf (.sq .lf (.sq (.sq .lf (.cd .lf .lf)) (.sq (.dr [0, 1, 2, 3, 4, 5, 6, 7, 8, 9, 10, 11, 12, 13, 14, 17, 15, 16] [] true none) (.bk [(6, .slice)] (.lp [(6, .slice), (45, .int .i64)] (.sq .lf (.sq (.cd .lf .lf) (.sq (.bk [(6, .slice)] (.sq .lf (.sq (.sq .lf (.cd (.sq .lf .lf) .lf)) (.sq .lf (.cj [(6, .slice)] (.sq .lf .lf) .lf))))) .lf))))))))))))) (.sq .lf .lf)))))
def S81 (p0 : Pt) (x1 : Int) (R : Value → World → Prop) (w : World) : Prop :=
  Let (w.alloc (.cells (zc Try.prog 97) 97)) fun w1 => 
  StoreOk w1 w.heap.size 0 [(.bool false), (.bool false), (.bool false), (.bool false), (.bool false), (.bool false), (.bool false)] 7 ∧ Let (put w1 w.heap.size 0 [(.bool false), (.bool false), (.bool false), (.bool false), (.bool false), (.bool false), (.bool false)]) fun w2 => 
  ∃ (s12 : Sl) (w3 : World), Sem.run Try.prog (Instr.buildSlice 24 1 [(0, (.int .i64 x1))].toArray) w2 = .ok (.slice s12.a s12.n s12.c) w3 ∧
  Join [] (fun (w4 : World) => R (.bool false) w4) (fun J =>
  LoopV [(6, .slice)] (fun K => K ⟨s12.a, s12.n, s12.c⟩ w3) (fun N => fun (s6 : Sl) (w5 : World) =>
  cond (decide (((s6.n : Nat) : Int) > (0 : Int))) (
  Join [(6, .slice)] (fun (s6_2 : Sl) (w6 : World) => N ⟨s6_2.a, s6_2.n, s6_2.c⟩ w6) (fun J_2 =>
  ∃ p17 : Pt, s6.a = some ⟨p17.b, p17.o, none⟩ ∧ 0 ≤ (0 : Int) ∧ (0 : Int) < ((s6.n : Nat) : Int) ∧ ∃ x18 : Int, World.cell? w5 ⟨p17.b, (p17.o + Int.toNat (0 : Int) * 1), none⟩ = some (.int .i64 x18) ∧ 0 ≤ (1 : Int) ∧ (1 : Int) ≤ ((s6.n : Nat) : Int) ∧ 0 ≤ x18 ∧ x18 < ((7 : Nat) : Int) ∧ ∃ b26 : Bool, World.cell? w5 ⟨p0.b, ((p0.o + 92) + Int.toNat x18 * 1), none⟩ = some (.bool b26) ∧ cond (!b26) (
  J_2 ⟨(subA s6.a s6.c (Int.toNat (1 : Int)) 1), (s6.n - (Int.toNat (1 : Int))), (s6.c - (Int.toNat (1 : Int)))⟩ w5) (
  ∃ S1 : World → Prop, S1 w5.drew ∧ Let w5.drew fun w7 =>
  ∃ s32 : Sl, (∀ u, S1 u → World.cell? u ⟨p0.b, (p0.o + 100), none⟩ = some (.slice s32.a s32.n s32.c)) ∧ 0 ≤ x18 ∧ x18 < ((7 : Nat) : Int) ∧ ∃ s38 : Sl, (∀ u, S1 u → World.cell? u ⟨p0.b, ((p0.o + 85) + Int.toNat x18 * 1), none⟩ = some (.slice s38.a s38.n s38.c)) ∧ ∃ p39 : Pt, s38.a = some ⟨p39.b, p39.o, none⟩ ∧ 0 ≤ (0 : Int) ∧ (0 : Int) < ((s38.n : Nat) : Int) ∧ ∃ x40 : Int, (∀ u, S1 u → World.cell? u ⟨p39.b, (p39.o + Int.toNat (0 : Int) * 1), none⟩ = some (.int .i64 x40)) ∧ ∃ p41 : Pt, s32.a = some ⟨p41.b, p41.o, none⟩ ∧ 0 ≤ x40 ∧ x40 < ((s32.n : Nat) : Int) ∧ ∃ x42_0 : Int, ∃ x42_1 : Int, ∃ x42_2 : Int, (∀ u, S1 u → rd u p41.b (p41.o + Int.toNat x40 * 3) [(.int .i64 x42_0), (.int .i64 x42_1), (.int .i64 x42_2)]) ∧ Calls Try.prog 80 [(.pointer (some ⟨p0.b, p0.o, none⟩)), (.agg [(.int .i64 x42_0), (.int .i64 x42_1), (.int .i64 x42_2)].toArray)].toArray w7 (fun e w8 => ∃ s43 : Sl, e = .returned (.slice s43.a s43.n s43.c) ∧
  S1 w8 ∧ Join [(6, .slice)] (fun (s6_3 : Sl) (w9 : World) => J_2 ⟨s6_3.a, s6_3.n, s6_3.c⟩ w9) (fun J_3 =>
  LoopV [(6, .slice), (45, .int .i64)] (fun K => K ⟨(subA s6.a s6.c (Int.toNat (1 : Int)) 1), (s6.n - (Int.toNat (1 : Int))), (s6.c - (Int.toNat (1 : Int)))⟩ (0 : Int) w8) (fun N_2 => fun (s6_4 : Sl) (x45 : Int) (w10 : World) =>
  cond (decide (x45 < ((s43.n : Nat) : Int))) (
  Join [(6, .slice)] (fun (s6_5 : Sl) (w11 : World) => N_2 ⟨s6_5.a, s6_5.n, s6_5.c⟩ (IntKind.wrap .i64 (x45 + (1 : Int))) w11) (fun J_4 =>
  ∃ p47 : Pt, s43.a = some ⟨p47.b, p47.o, none⟩ ∧ 0 ≤ x45 ∧ x45 < ((s43.n : Nat) : Int) ∧ ∃ x48 : Int, World.cell? w10 ⟨p47.b, (p47.o + Int.toNat x45 * 1), none⟩ = some (.int .i64 x48) ∧ cond (x48 == x1) (
  R (.bool true) w10) (
  0 ≤ x48 ∧ x48 < ((7 : Nat) : Int) ∧ ∃ b54 : Bool, World.cell? w10 ⟨w.heap.size, (0 + Int.toNat x48 * 1), none⟩ = some (.bool b54) ∧ Join [(6, .slice)] (fun (s6_6 : Sl) (w12 : World) => J_4 ⟨s6_6.a, s6_6.n, s6_6.c⟩ w12) (fun J_5 =>
  cond (!b54) (
  0 ≤ x48 ∧ x48 < ((7 : Nat) : Int) ∧ StoreOk w10 w.heap.size (0 + Int.toNat x48 * 1) [(.bool true)] 1 ∧ Let (put w10 w.heap.size (0 + Int.toNat x48 * 1) [(.bool true)]) fun w13 => 
  ∃ (s60 : Sl) (w14 : World), Sem.run Try.prog (Instr.buildSlice 24 1 [(0, (.int .i64 x48))].toArray) w13 = .ok (.slice s60.a s60.n s60.c) w14 ∧
  ∃ (s61 : Sl) (w15 : World), Sem.run Try.prog (Builtin.append_ #[24, 24] 24 #[(.slice s6_4.a s6_4.n s6_4.c), (.slice s60.a s60.n s60.c)]) w14 = .ok (.slice s61.a s61.n s61.c) w15 ∧
  J_5 ⟨s61.a, s61.n, s61.c⟩ w15) (
  J_5 ⟨s6_4.a, s6_4.n, s6_4.c⟩ w10))))) (
  J_3 ⟨s6_4.a, s6_4.n, s6_4.c⟩ w10))))))) (
  J w5)))
theorem eq81 (p0 : Pt) (x1 : Int) (R : Value → World → Prop) (w : World) : funV Try.prog Try.f81 An81 [(.pointer (some ⟨p0.b, p0.o, none⟩)), (.int .i64 x1)] R w = S81 p0 x1 R w := by kernel_rfl
theorem call81 (p0 : Pt) (x1 : Int) {R : Value → World → Prop} {w : World} (h : S81 p0 x1 R w) : Calls Try.prog 81 [(.pointer (some ⟨p0.b, p0.o, none⟩)), (.int .i64 x1)].toArray w fun e w' => ∃ v, e = .returned v ∧ R v w' :=
  funV_calls mixed Try.func81 (an := An81) (by rw [eq81]; exact h)

/-- F51: (*cubeb/cubebref05.table).goOn -/
def An51 : An := (.sq .lf (.bk [] (.lp [] (.sq (.sq .lf (.cd .lf .lf)) (.bk [] (.sq (.dr [0, 1, 2, 3, 4, 5, 6, 7, 8, 9, 10, 11, 12, 13, 14, 15] [15] true none) (.sq (.sq .lf (.cd (.sq .lf (.sq (.sq .lf (.cj [] (.sq .lf (.sq .lf (.sq .lf .lf))) .lf)) .lf)) .lf)) (.sq (.dr [0, 1, 2, 3, 4, 5, 6, 7, 8, 9, 10, 11, 12] [] false none) .lf))))))))
def S51 (p0 : Pt) (x1 : Int) (R : Value → World → Prop) (w : World) : Prop :=
  0 ≤ x1 ∧ x1 < ((7 : Nat) : Int) ∧ StoreOk w p0.b ((p0.o + 92) + Int.toNat x1 * 1) [(.bool false)] 1 ∧ Let (put w p0.b ((p0.o + 92) + Int.toNat x1 * 1) [(.bool false)]) fun w1 => 
  Join [] (fun (w2 : World) => R (.tuple [].toArray) w2) (fun J =>
  LoopV [] (fun K => K w1) (fun N => fun (w3 : World) =>
  0 ≤ x1 ∧ x1 < ((7 : Nat) : Int) ∧ ∃ s15 : Sl, World.cell? w3 ⟨p0.b, ((p0.o + 85) + Int.toNat x1 * 1), none⟩ = some (.slice s15.a s15.n s15.c) ∧ cond (decide (((s15.n : Nat) : Int) > (0 : Int))) (
  Join [] (fun (w4 : World) => N w4) (fun J_2 =>
  ∃ S1 : World → Prop, S1 w3.drew ∧ Let w3.drew fun w5 =>
  ∃ s21 : Sl, (∀ u, S1 u → World.cell? u ⟨p0.b, (p0.o + 100), none⟩ = some (.slice s21.a s21.n s21.c)) ∧ 0 ≤ x1 ∧ x1 < ((7 : Nat) : Int) ∧ ∃ s27 : Sl, (∀ u, S1 u → World.cell? u ⟨p0.b, ((p0.o + 85) + Int.toNat x1 * 1), none⟩ = some (.slice s27.a s27.n s27.c)) ∧ ∃ p28 : Pt, s27.a = some ⟨p28.b, p28.o, none⟩ ∧ 0 ≤ (0 : Int) ∧ (0 : Int) < ((s27.n : Nat) : Int) ∧ ∃ x29 : Int, (∀ u, S1 u → World.cell? u ⟨p28.b, (p28.o + Int.toNat (0 : Int) * 1), none⟩ = some (.int .i64 x29)) ∧ ∃ p30 : Pt, s21.a = some ⟨p30.b, p30.o, none⟩ ∧ 0 ≤ x29 ∧ x29 < ((s21.n : Nat) : Int) ∧ ∃ x31_0 : Int, ∃ x31_1 : Int, ∃ x31_2 : Int, (∀ u, S1 u → rd u p30.b (p30.o + Int.toNat x29 * 3) [(.int .i64 x31_0), (.int .i64 x31_1), (.int .i64 x31_2)]) ∧ Let (w5.alloc (.cells (zc Try.prog 37) 37)) fun w6 => 
  S1 w6 ∧ StoreOk w6 w5.heap.size 0 [(.int .i64 x31_0), (.int .i64 x31_1), (.int .i64 x31_2)] 3 ∧ Let (put w6 w5.heap.size 0 [(.int .i64 x31_0), (.int .i64 x31_1), (.int .i64 x31_2)]) fun w7 => 
  ∃ x33_0 : Int, ∃ x33_1 : Int, ∃ x33_2 : Int, rd w7 w5.heap.size 0 [(.int .i64 x33_0), (.int .i64 x33_1), (.int .i64 x33_2)] ∧ Calls Try.prog 80 [(.pointer (some ⟨p0.b, p0.o, none⟩)), (.agg [(.int .i64 x33_0), (.int .i64 x33_1), (.int .i64 x33_2)].toArray)].toArray w7 (fun e w8 => ∃ s34 : Sl, e = .returned (.slice s34.a s34.n s34.c) ∧
  cond (decide (((s34.n : Nat) : Int) > (0 : Int))) (
  0 ≤ x1 ∧ x1 < ((7 : Nat) : Int) ∧ StoreOk w8 p0.b ((p0.o + 92) + Int.toNat x1 * 1) [(.bool true)] 1 ∧ Let (put w8 p0.b ((p0.o + 92) + Int.toNat x1 * 1) [(.bool true)]) fun w9 => 
  Calls Try.prog 81 [(.pointer (some ⟨p0.b, p0.o, none⟩)), (.int .i64 x1)].toArray w9 (fun e_2 w10 => ∃ b44 : Bool, e_2 = .returned (.bool b44) ∧
  Join [] (fun (w11 : World) => R (.tuple [].toArray) w11) (fun J_3 =>
  cond b44 (
  0 ≤ x1 ∧ x1 < ((7 : Nat) : Int) ∧ StoreOk w10 p0.b ((p0.o + 92) + Int.toNat x1 * 1) [(.bool false)] 1 ∧ Let (put w10 p0.b ((p0.o + 92) + Int.toNat x1 * 1) [(.bool false)]) fun w12 => 
  0 ≤ x1 ∧ x1 < ((7 : Nat) : Int) ∧ StoreOk w12 p0.b ((p0.o + 85) + Int.toNat x1 * 1) [(.slice none 0 0)] 1 ∧ Let (put w12 p0.b ((p0.o + 85) + Int.toNat x1 * 1) [(.slice none 0 0)]) fun w13 => 
  ∃ s59 : Sl, World.cell? w13 ⟨p0.b, (p0.o + 99), none⟩ = some (.slice s59.a s59.n s59.c) ∧ ∃ (s61 : Sl) (w14 : World), Sem.run Try.prog (Instr.buildSlice 24 1 [(0, (.int .i64 x1))].toArray) w13 = .ok (.slice s61.a s61.n s61.c) w14 ∧
  ∃ (s62 : Sl) (w15 : World), Sem.run Try.prog (Builtin.append_ #[24, 24] 24 #[(.slice s59.a s59.n s59.c), (.slice s61.a s61.n s61.c)]) w14 = .ok (.slice s62.a s62.n s62.c) w15 ∧
  StoreOk w15 p0.b (p0.o + 99) [(.slice s62.a s62.n s62.c)] 1 ∧ Let (put w15 p0.b (p0.o + 99) [(.slice s62.a s62.n s62.c)]) fun w16 => 
  Calls Try.prog 82 [(.pointer (some ⟨p0.b, p0.o, none⟩)), (.agg [(.int .i64 x1), (.int .i64 (3 : Int)), (.int .i64 (0 : Int))].toArray)].toArray w16 (fun e_3 w17 => e_3 = .returned (.tuple [].toArray) ∧
  J_3 w17)) (
  J_3 w10)))) (
  Let w8.drew fun w18 =>
  0 ≤ x1 ∧ x1 < ((7 : Nat) : Int) ∧ ∃ s76 : Sl, World.cell? w18 ⟨p0.b, ((p0.o + 85) + Int.toNat x1 * 1), none⟩ = some (.slice s76.a s76.n s76.c) ∧ 0 ≤ (1 : Int) ∧ (1 : Int) ≤ ((s76.n : Nat) : Int) ∧ 0 ≤ x1 ∧ x1 < ((7 : Nat) : Int) ∧ StoreOk w18 p0.b ((p0.o + 85) + Int.toNat x1 * 1) [(.slice (subA s76.a s76.c (Int.toNat (1 : Int)) 1) (s76.n - (Int.toNat (1 : Int))) (s76.c - (Int.toNat (1 : Int))))] 1 ∧ Let (put w18 p0.b ((p0.o + 85) + Int.toNat x1 * 1) [(.slice (subA s76.a s76.c (Int.toNat (1 : Int)) 1) (s76.n - (Int.toNat (1 : Int))) (s76.c - (Int.toNat (1 : Int))))]) fun w19 => 
  ∃ x82_0 : Int, ∃ x82_1 : Int, ∃ x82_2 : Int, rd w19 w5.heap.size 0 [(.int .i64 x82_0), (.int .i64 x82_1), (.int .i64 x82_2)] ∧ Calls Try.prog 82 [(.pointer (some ⟨p0.b, p0.o, none⟩)), (.agg [(.int .i64 x82_0), (.int .i64 x82_1), (.int .i64 x82_2)].toArray)].toArray w19 (fun e_4 w20 => e_4 = .returned (.tuple [].toArray) ∧
  J_2 w20))))) (
  J w3)))
theorem eq51 (p0 : Pt) (x1 : Int) (R : Value → World → Prop) (w : World) : funV Try.prog Try.f51 An51 [(.pointer (some ⟨p0.b, p0.o, none⟩)), (.int .i64 x1)] R w = S51 p0 x1 R w := by kernel_rfl
theorem call51 (p0 : Pt) (x1 : Int) {R : Value → World → Prop} {w : World} (h : S51 p0 x1 R w) : Calls Try.prog 51 [(.pointer (some ⟨p0.b, p0.o, none⟩)), (.int .i64 x1)].toArray w fun e w' => ∃ v, e = .returned v ∧ R v w' :=
  funV_calls mixed Try.func51 (an := An51) (by rw [eq51]; exact h)

/-- F52: (*cubeb/cubebref05.table).next -/
def An52 : An := (.sq .lf (.sq (.sq .lf (.bk [] (.lp [(10, .int .i64)] (.sq .lf (.sq (.cd .lf .lf) (.sq (.bk [] (.sq .lf (.sq (.dr [0, 1, 2, 3, 4, 5, 6, 7, 8, 9, 10, 11, 12, 13, 14, 15, 16, 17, 18, 19, 20, 21, 22, 23, 24, 25, 26] [] true (some [(41, .bool)])) (.cd (.sq .lf .lf) .lf)))) .lf)))))) (.sq .lf .lf)))
def S52 (p0 : Pt) (R : Value → World → Prop) (w : World) : Prop :=
  ∃ s8 : Sl, World.cell? w ⟨p0.b, (p0.o + 100), none⟩ = some (.slice s8.a s8.n s8.c) ∧ Join [] (fun (w1 : World) => R (.int .i64 (0 : Int)) w1) (fun J =>
  LoopV [(10, .int .i64)] (fun K => K (0 : Int) w) (fun N => fun (x10 : Int) (w2 : World) =>
  cond (decide (x10 < ((s8.n : Nat) : Int))) (
  Join [] (fun (w3 : World) => N (IntKind.wrap .i64 (x10 + (1 : Int))) w3) (fun J_2 =>
  ∃ p13 : Pt, s8.a = some ⟨p13.b, p13.o, none⟩ ∧ 0 ≤ x10 ∧ x10 < ((s8.n : Nat) : Int) ∧ ∃ x14_0 : Int, ∃ x14_1 : Int, ∃ x14_2 : Int, rd w2 p13.b (p13.o + Int.toNat x10 * 3) [(.int .i64 x14_0), (.int .i64 x14_1), (.int .i64 x14_2)] ∧ Let (w2.alloc (.cells (zc Try.prog 37) 37)) fun w4 => 
  StoreOk w4 w2.heap.size 0 [(.int .i64 x14_0), (.int .i64 x14_1), (.int .i64 x14_2)] 3 ∧ Let (put w4 w2.heap.size 0 [(.int .i64 x14_0), (.int .i64 x14_1), (.int .i64 x14_2)]) fun w5 => 
  Join [(41, .bool)] (fun (b41 : Bool) (w6 : World) => cond b41 (
  ∃ x43 : Int, World.cell? w6 ⟨w2.heap.size, (0 + 0), none⟩ = some (.int .i64 x43) ∧ R (.int .i64 x43) w6) (
  J_2 w6)) (fun J_3 =>
  ∃ S1 : World → Prop, S1 w5.drew ∧ Let w5.drew fun w7 =>
  ∃ x17 : Int, (∀ u, S1 u → World.cell? u ⟨w2.heap.size, (0 + 0), none⟩ = some (.int .i64 x17)) ∧ 0 ≤ x17 ∧ x17 < ((7 : Nat) : Int) ∧ ∃ b21 : Bool, (∀ u, S1 u → World.cell? u ⟨p0.b, ((p0.o + 92) + Int.toNat x17 * 1), none⟩ = some (.bool b21)) ∧ cond b21 (∃ x25 : Int, (∀ u, S1 u → World.cell? u ⟨w2.heap.size, (0 + 0), none⟩ = some (.int .i64 x25)) ∧ 0 ≤ x25 ∧ x25 < ((7 : Nat) : Int) ∧ ∃ s29 : Sl, (∀ u, S1 u → World.cell? u ⟨p0.b, ((p0.o + 85) + Int.toNat x25 * 1), none⟩ = some (.slice s29.a s29.n s29.c)) ∧ ∃ p30 : Pt, s29.a = some ⟨p30.b, p30.o, none⟩ ∧ 0 ≤ (0 : Int) ∧ (0 : Int) < ((s29.n : Nat) : Int) ∧ ∃ x31 : Int, (∀ u, S1 u → World.cell? u ⟨p30.b, (p30.o + Int.toNat (0 : Int) * 1), none⟩ = some (.int .i64 x31)) ∧ cond (x31 == x10) (∃ x37_0 : Int, ∃ x37_1 : Int, ∃ x37_2 : Int, (∀ u, S1 u → rd u w2.heap.size 0 [(.int .i64 x37_0), (.int .i64 x37_1), (.int .i64 x37_2)]) ∧ Calls Try.prog 80 [(.pointer (some ⟨p0.b, p0.o, none⟩)), (.agg [(.int .i64 x37_0), (.int .i64 x37_1), (.int .i64 x37_2)].toArray)].toArray w7 (fun e w8 => ∃ s38 : Sl, e = .returned (.slice s38.a s38.n s38.c) ∧
  S1 w8 ∧ J_3 (((s38.n : Nat) : Int) == (0 : Int)) w8)) (J_3 false w7)) (J_3 false w7)))) (
  J w2)))
theorem eq52 (p0 : Pt) (R : Value → World → Prop) (w : World) : funV Try.prog Try.f52 An52 [(.pointer (some ⟨p0.b, p0.o, none⟩))] R w = S52 p0 R w := by kernel_rfl
theorem call52 (p0 : Pt) {R : Value → World → Prop} {w : World} (h : S52 p0 R w) : Calls Try.prog 52 [(.pointer (some ⟨p0.b, p0.o, none⟩))].toArray w fun e w' => ∃ v, e = .returned v ∧ R v w' :=
  funV_calls mixed Try.func52 (an := An52) (by rw [eq52]; exact h)

/-- F20: cubeb/cubebref05.Lock -/
def An20 : An := (.sq .lf (.sq .lf (.sq (.sq .lf (.bk [] (.lp [(15, .int .i64)] (.sq .lf (.sq (.cd .lf .lf) (.sq (.bk [] (.sq .lf (.sq .lf (.sq (.sq .lf (.bk [(7, .bool)] (.lp [(7, .bool), (25, .int .i64)] (.sq .lf (.sq (.cd .lf .lf) (.sq (.bk [(7, .bool)] (.sq .lf (.rj [] [(7, .bool)]))) .lf)))))) (.sq (.sq .lf (.cd .lf .lf)) (.sq (.dr [0, 1, 2, 3, 4, 5, 6, 7, 8, 9, 10, 13, 14, 11, 12, 15, 16] [16] true none) (.sq (.sq (.dr [0, 1, 2, 3, 4, 5, 6, 7] [] false none) (.cj [] .lf .lf)) (.bk [] (.lp [] (.sq (.sq .lf (.cd .lf .lf)) (.bk [] .lf))))))))))) .lf)))))) (.sq (.dr [0, 1, 2, 3, 4, 5, 6, 7, 8, 9] [] false none) .lf))))
def S20 (s0 : Sl) (R : Value → World → Prop) (w : World) : Prop :=
  Let (w.alloc (.cells [(.slice none 0 0), (.bool false), (.bool false), (.bool false), (.bool false), (.bool false), (.bool false), (.bool false), (.bool false), (.bool false), (.bool false), (.bool false), (.bool false), (.bool false), (.bool false), (.bool false), (.bool false), (.bool false), (.bool false), (.bool false), (.bool false), (.bool false), (.bool false), (.bool false), (.bool false), (.bool false), (.bool false), (.bool false), (.bool false), (.bool false), (.bool false), (.bool false), (.bool false), (.bool false), (.bool false), (.bool false), (.bool false), (.bool false), (.bool false), (.bool false), (.bool false), (.bool false), (.bool false), (.bool false), (.bool false), (.bool false), (.bool false), (.bool false), (.bool false), (.bool false), (.bool false), (.bool false), (.bool false), (.bool false), (.bool false), (.bool false), (.bool false), (.bool false), (.bool false), (.bool false), (.bool false), (.bool false), (.bool false), (.bool false), (.bool false), (.bool false), (.bool false), (.bool false), (.bool false), (.bool false), (.bool false), (.bool false), (.bool false), (.bool false), (.bool false), (.bool false), (.bool false), (.bool false), (.bool false), (.bool false), (.bool false), (.bool false), (.bool false), (.bool false), (.bool false), (.slice none 0 0), (.slice none 0 0), (.slice none 0 0), (.slice none 0 0), (.slice none 0 0), (.slice none 0 0), (.slice none 0 0), (.bool false), (.bool false), (.bool false), (.bool false), (.bool false), (.bool false), (.bool false), (.slice none 0 0), (.slice s0.a s0.n s0.c)].toArray 99)) fun w1 => 
  Join [] (fun (w2 : World) => Let w2.drew fun w3 =>
  ∃ s77 : Sl, World.cell? w3 ⟨w.heap.size, (0 + 0), none⟩ = some (.slice s77.a s77.n s77.c) ∧ ∃ s81 : Sl, World.cell? w3 ⟨w.heap.size, (0 + 99), none⟩ = some (.slice s81.a s81.n s81.c) ∧ R (.tuple [(.slice s77.a s77.n s77.c), (.slice s81.a s81.n s81.c)].toArray) w3) (fun J =>
  LoopV [(15, .int .i64)] (fun K => K (0 : Int) w1) (fun N => fun (x15 : Int) (w4 : World) =>
  cond (decide (x15 < ((s0.n : Nat) : Int))) (
  Join [] (fun (w5 : World) => N (IntKind.wrap .i64 (x15 + (1 : Int))) w5) (fun J_2 =>
  ∃ p18 : Pt, s0.a = some ⟨p18.b, p18.o, none⟩ ∧ 0 ≤ x15 ∧ x15 < ((s0.n : Nat) : Int) ∧ ∃ x19_0 : Int, ∃ x19_1 : Int, ∃ x19_2 : Int, rd w4 p18.b (p18.o + Int.toNat x15 * 3) [(.int .i64 x19_0), (.int .i64 x19_1), (.int .i64 x19_2)] ∧ Let (w4.alloc (.cells (zc Try.prog 37) 37)) fun w6 => 
  StoreOk w6 w4.heap.size 0 [(.int .i64 x19_0), (.int .i64 x19_1), (.int .i64 x19_2)] 3 ∧ Let (put w6 w4.heap.size 0 [(.int .i64 x19_0), (.int .i64 x19_1), (.int .i64 x19_2)]) fun w7 => 
  ∃ s23 : Sl, World.cell? w7 ⟨w.heap.size, (0 + 99), none⟩ = some (.slice s23.a s23.n s23.c) ∧ Join [(7, .bool)] (fun (b7 : Bool) (w8 : World) => cond b7 (
  J_2 w8) (
  ∃ S1 : World → Prop, S1 w8.drew ∧ Let w8.drew fun w9 =>
  ∃ x40 : Int, (∀ u, S1 u → World.cell? u ⟨w4.heap.size, (0 + 0), none⟩ = some (.int .i64 x40)) ∧ ∃ x43 : Int, (∀ u, S1 u → World.cell? u ⟨w4.heap.size, (0 + 0), none⟩ = some (.int .i64 x43)) ∧ 0 ≤ x43 ∧ x43 < ((7 : Nat) : Int) ∧ ∃ s47 : Sl, (∀ u, S1 u → World.cell? u ⟨w.heap.size, ((0 + 85) + Int.toNat x43 * 1), none⟩ = some (.slice s47.a s47.n s47.c)) ∧ ∃ (s49 : Sl) (w10 : World), Sem.run Try.prog (Instr.buildSlice 24 1 [(0, (.int .i64 x15))].toArray) w9 = .ok (.slice s49.a s49.n s49.c) w10 ∧
  S1 w10 ∧ ∃ (s50 : Sl) (w11 : World), Sem.run Try.prog (Builtin.append_ #[24, 24] 24 #[(.slice s47.a s47.n s47.c), (.slice s49.a s49.n s49.c)]) w10 = .ok (.slice s50.a s50.n s50.c) w11 ∧
  S1 w11 ∧ 0 ≤ x40 ∧ x40 < ((7 : Nat) : Int) ∧ StoreOk w11 w.heap.size ((0 + 85) + Int.toNat x40 * 1) [(.slice s50.a s50.n s50.c)] 1 ∧ Let (put w11 w.heap.size ((0 + 85) + Int.toNat x40 * 1) [(.slice s50.a s50.n s50.c)]) fun w12 => 
  Let w12.drew fun w13 =>
  ∃ x56 : Int, World.cell? w13 ⟨w4.heap.size, (0 + 0), none⟩ = some (.int .i64 x56) ∧ 0 ≤ x56 ∧ x56 < ((7 : Nat) : Int) ∧ ∃ b60 : Bool, World.cell? w13 ⟨w.heap.size, ((0 + 92) + Int.toNat x56 * 1), none⟩ = some (.bool b60) ∧ Join [] (fun (w14 : World) => Join [] (fun (w15 : World) => J_2 w15) (fun J_3 =>
  LoopV [] (fun K => K w14) (fun N_2 => fun (w16 : World) =>
  Calls Try.prog 52 [(.pointer (some ⟨w.heap.size, 0, none⟩))].toArray w16 (fun e w17 => ∃ x67 : Int, e = .returned (.int .i64 x67) ∧
  cond (decide (x67 > (0 : Int))) (
  Join [] (fun (w18 : World) => N_2 w18) (fun J_4 =>
  Calls Try.prog 52 [(.pointer (some ⟨w.heap.size, 0, none⟩))].toArray w17 (fun e_2 w19 => ∃ x71 : Int, e_2 = .returned (.int .i64 x71) ∧
  Calls Try.prog 51 [(.pointer (some ⟨w.heap.size, 0, none⟩)), (.int .i64 x71)].toArray w19 (fun e_3 w20 => e_3 = .returned (.tuple [].toArray) ∧
  J_4 w20)))) (
  J_3 w17))))) (fun J_5 =>
  cond (!b60) (
  ∃ x64 : Int, World.cell? w13 ⟨w4.heap.size, (0 + 0), none⟩ = some (.int .i64 x64) ∧ Calls Try.prog 51 [(.pointer (some ⟨w.heap.size, 0, none⟩)), (.int .i64 x64)].toArray w13 (fun e_4 w21 => e_4 = .returned (.tuple [].toArray) ∧
  J_5 w21)) (
  J_5 w13)))) (fun J_6 =>
  LoopV [(7, .bool), (25, .int .i64)] (fun K => K false (0 : Int) w7) (fun N_3 => fun (b7_2 : Bool) (x25 : Int) (w22 : World) =>
  cond (decide (x25 < ((s23.n : Nat) : Int))) (
  Join [(7, .bool)] (fun (b7_3 : Bool) (w23 : World) => N_3 b7_3 (IntKind.wrap .i64 (x25 + (1 : Int))) w23) (fun J_7 =>
  ∃ p27 : Pt, s23.a = some ⟨p27.b, p27.o, none⟩ ∧ 0 ≤ x25 ∧ x25 < ((s23.n : Nat) : Int) ∧ ∃ x28 : Int, World.cell? w22 ⟨p27.b, (p27.o + Int.toNat x25 * 1), none⟩ = some (.int .i64 x28) ∧ Join [(7, .bool)] (fun (b7_4 : Bool) (w24 : World) => J_7 b7_4 w24) (fun J_8 =>
  cond b7_2 (J_8 true w22) (∃ x33 : Int, World.cell? w22 ⟨w4.heap.size, (0 + 0), none⟩ = some (.int .i64 x33) ∧ J_8 (x28 == x33) w22)))) (
  J_6 b7_2 w22))))) (
  J w4)))
theorem eq20 (s0 : Sl) (R : Value → World → Prop) (w : World) : funV Try.prog Try.f20 An20 [(.slice s0.a s0.n s0.c)] R w = S20 s0 R w := by kernel_rfl
theorem call20 (s0 : Sl) {R : Value → World → Prop} {w : World} (h : S20 s0 R w) : Calls Try.prog 20 [(.slice s0.a s0.n s0.c)].toArray w fun e w' => ∃ v, e = .returned v ∧ R v w' :=
  funV_calls mixed Try.func20 (an := An20) (by rw [eq20]; exact h)

end Go.Proofs.Ytnbkihkdfhjlmaa
