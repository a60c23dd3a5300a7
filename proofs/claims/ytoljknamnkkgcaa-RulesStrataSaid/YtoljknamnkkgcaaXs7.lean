/-
  Texts Sj, Eb, Sc of this proof, joined.
-/
import Derived.Test.YtoljknamnkkgcaaXs6
import Derived.Test.YtoljknamnkkgcaaProg
import Derived.KernelRfl
/-
  Printed by a program of this session (wip/tools/vcprint.py): of each Go function the shallow form, and that the calculus comes to it, by the kernel.
-/
namespace Go.Proofs.Ytoljknamnkkgcaa
open Go Go.VC
set_option maxRecDepth 100000

/-- F36: cubeb/rules.Strata -/
def An36 : An := (.sq .lf (.sq (.sq .lf (.cd (.sq .lf .lf) .lf)) (.sq .lf (.sq (.sq .lf (.cd (.sq .lf .lf) .lf)) (.sq .lf .lf)))))
def S36 (s0 : Sl) (R : Value → World → Prop) (w : World) : Prop :=
  Calls Try.prog 55 [(.slice s0.a s0.n s0.c), (.slice none 0 0)].toArray w (fun e w1 => ∃ b7 : Bool, e = .returned (.bool b7) ∧
  cond (!b7) (
  R (.tuple [(.slice none 0 0), (.int .i64 (2 : Int))].toArray) w1) (
  Calls Try.prog 84 [(.slice s0.a s0.n s0.c)].toArray w1 (fun e_2 w2 => ∃ s11_0 : Sl, ∃ b11_1 : Bool, e_2 = .returned (.tuple [(.slice s11_0.a s11_0.n s11_0.c), (.bool b11_1)].toArray) ∧
  cond (!b11_1) (
  R (.tuple [(.slice none 0 0), (.int .i64 (8 : Int))].toArray) w2) (
  R (.tuple [(.slice s11_0.a s11_0.n s11_0.c), (.int .i64 (0 : Int))].toArray) w2))))
theorem eq36 (s0 : Sl) (R : Value → World → Prop) (w : World) : funV Try.prog Try.f36 An36 [(.slice s0.a s0.n s0.c)] R w = S36 s0 R w := by kernel_rfl
theorem call36 (s0 : Sl) {R : Value → World → Prop} {w : World} (h : S36 s0 R w) : Calls Try.prog 36 [(.slice s0.a s0.n s0.c)].toArray w fun e w' => ∃ v, e = .returned v ∧ R v w' :=
  funV_calls mixed Try.func36 (an := An36) (by rw [eq36]; exact h)

/-- F37: cubeb/rules.Needed -/
def An37 : An := (.sq .lf (.sq (.sq (.rj [] [(25, .bool)]) (.cd (.sq .lf .lf) .lf)) (.sq .lf (.sq (.sq .lf (.bk [(6, .int .i64)] (.lp [(6, .int .i64), (7, .bool)] (.sq (.sq .lf (.cd .lf .lf)) (.bk [(6, .int .i64), (7, .bool)] (.sq .lf (.sq .lf (.bk [(6, .int .i64), (7, .bool)] (.lp [(6, .int .i64), (7, .bool), (31, .int .i64)] (.sq .lf (.sq (.cd .lf .lf) (.sq (.bk [(6, .int .i64), (7, .bool)] (.sq .lf (.sq (.sq .lf (.cd .lf .lf)) (.sq .lf (.bk [(6, .int .i64), (7, .bool)] (.lp [(6, .int .i64), (7, .bool), (45, .int .i64)] (.sq .lf (.sq (.cd .lf .lf) (.sq (.bk [(6, .int .i64), (7, .bool)] (.sq .lf (.sq .lf (.cj [(6, .int .i64), (7, .bool)] (.sq .lf .lf) .lf)))) .lf))))))))) .lf)))))))))))) (.sq .lf (.sq (.sq .lf (.bk [(12, .slice)] (.lp [(12, .slice), (66, .int .i64)] (.sq .lf (.sq (.cd .lf .lf) (.sq (.bk [(12, .slice)] (.sq .lf (.sq .lf (.cj [(12, .slice)] .lf .lf)))) .lf)))))) (.sq .lf .lf)))))))
def S37 (s0 : Sl) (x1 : Int) (R : Value → World → Prop) (w : World) : Prop :=
  Join [(25, .bool)] (fun (b25 : Bool) (w1 : World) => cond b25 (
  R (.tuple [(.slice none 0 0), (.int .i64 (2 : Int))].toArray) w1) (
  0 ≤ x1 ∧ Join [(6, .int .i64)] (fun (x6 : Int) (w2 : World) => Join [(12, .slice)] (fun (s12 : Sl) (w3 : World) => R (.tuple [(.slice s12.a s12.n s12.c), (.int .i64 (0 : Int))].toArray) w3) (fun J =>
  LoopV [(12, .slice), (66, .int .i64)] (fun K => K ⟨none, 0, 0⟩ (0 : Int) w2) (fun N => fun (s12_2 : Sl) (x66 : Int) (w4 : World) =>
  cond (decide (x66 < ((s0.n : Nat) : Int))) (
  Join [(12, .slice)] (fun (s12_3 : Sl) (w5 : World) => N ⟨s12_3.a, s12_3.n, s12_3.c⟩ (IntKind.wrap .i64 (x66 + (1 : Int))) w5) (fun J_2 =>
  ∃ p68 : Pt, s0.a = some ⟨p68.b, p68.o, none⟩ ∧ 0 ≤ x66 ∧ x66 < ((s0.n : Nat) : Int) ∧ ∃ x69_0 : Int, ∃ s69_1 : Sl, ∃ s69_2 : Sl, rd w4 p68.b (p68.o + Int.toNat x66 * 3) [(.int .i64 x69_0), (.slice s69_1.a s69_1.n s69_1.c), (.slice s69_2.a s69_2.n s69_2.c)] ∧ Let (w4.alloc (.cells (zc Try.prog 52) 52)) fun w6 => 
  StoreOk w6 w4.heap.size 0 [(.int .i64 x69_0), (.slice s69_1.a s69_1.n s69_1.c), (.slice s69_2.a s69_2.n s69_2.c)] 3 ∧ Let (put w6 w4.heap.size 0 [(.int .i64 x69_0), (.slice s69_1.a s69_1.n s69_1.c), (.slice s69_2.a s69_2.n s69_2.c)]) fun w7 => 
  ∃ x73 : Int, World.cell? w7 ⟨w4.heap.size, ((0 + 0) + 0), none⟩ = some (.int .i64 x73) ∧ 0 ≤ x73 ∧ Join [(12, .slice)] (fun (s12_4 : Sl) (w8 : World) => J_2 ⟨s12_4.a, s12_4.n, s12_4.c⟩ w8) (fun J_3 =>
  cond ((bitsI .and .i64 (Int.fdiv x6 (2 ^ (min (Int.toNat x73) (IntKind.bits .i64)))) (1 : Int)) == (1 : Int)) (
  ∃ x78_0 : Int, ∃ s78_1 : Sl, ∃ s78_2 : Sl, rd w7 w4.heap.size 0 [(.int .i64 x78_0), (.slice s78_1.a s78_1.n s78_1.c), (.slice s78_2.a s78_2.n s78_2.c)] ∧ Calls Try.prog 85 [(.agg [(.int .i64 x78_0), (.slice s78_1.a s78_1.n s78_1.c), (.slice s78_2.a s78_2.n s78_2.c)].toArray)].toArray w7 (fun e w9 => ∃ x79_0 : Int, ∃ s79_1 : Sl, ∃ s79_2 : Sl, e = .returned (.agg [(.int .i64 x79_0), (.slice s79_1.a s79_1.n s79_1.c), (.slice s79_2.a s79_2.n s79_2.c)].toArray) ∧
  ∃ (s80 : Sl) (w10 : World), Sem.run Try.prog (Instr.buildSlice 27 1 [(0, (.agg [(.int .i64 x79_0), (.slice s79_1.a s79_1.n s79_1.c), (.slice s79_2.a s79_2.n s79_2.c)].toArray))].toArray) w9 = .ok (.slice s80.a s80.n s80.c) w10 ∧
  ∃ (s81 : Sl) (w11 : World), Sem.run Try.prog (Builtin.append_ #[27, 27] 27 #[(.slice s12_2.a s12_2.n s12_2.c), (.slice s80.a s80.n s80.c)]) w10 = .ok (.slice s81.a s81.n s81.c) w11 ∧
  J_3 ⟨s81.a, s81.n, s81.c⟩ w11)) (
  J_3 ⟨s12_2.a, s12_2.n, s12_2.c⟩ w7)))) (
  J ⟨s12_2.a, s12_2.n, s12_2.c⟩ w4)))) (fun J_4 =>
  LoopV [(6, .int .i64), (7, .bool)] (fun K => K (IntKind.wrap .i64 ((1 : Int) * 2 ^ (min (Int.toNat x1) (IntKind.bits .i64)))) true w1) (fun N_2 => fun (x6_2 : Int) (b7 : Bool) (w12 : World) =>
  cond b7 (
  Join [(6, .int .i64), (7, .bool)] (fun (x6_3 : Int) (b7_2 : Bool) (w13 : World) => N_2 x6_3 b7_2 w13) (fun J_5 =>
  Join [(6, .int .i64), (7, .bool)] (fun (x6_4 : Int) (b7_3 : Bool) (w14 : World) => J_5 x6_4 b7_3 w14) (fun J_6 =>
  LoopV [(6, .int .i64), (7, .bool), (31, .int .i64)] (fun K => K x6_2 false (0 : Int) w12) (fun N_3 => fun (x6_5 : Int) (b7_4 : Bool) (x31 : Int) (w15 : World) =>
  cond (decide (x31 < ((s0.n : Nat) : Int))) (
  Join [(6, .int .i64), (7, .bool)] (fun (x6_6 : Int) (b7_5 : Bool) (w16 : World) => N_3 x6_6 b7_5 (IntKind.wrap .i64 (x31 + (1 : Int))) w16) (fun J_7 =>
  ∃ p33 : Pt, s0.a = some ⟨p33.b, p33.o, none⟩ ∧ 0 ≤ x31 ∧ x31 < ((s0.n : Nat) : Int) ∧ ∃ x34_0 : Int, ∃ s34_1 : Sl, ∃ s34_2 : Sl, rd w15 p33.b (p33.o + Int.toNat x31 * 3) [(.int .i64 x34_0), (.slice s34_1.a s34_1.n s34_1.c), (.slice s34_2.a s34_2.n s34_2.c)] ∧ Let (w15.alloc (.cells (zc Try.prog 52) 52)) fun w17 => 
  StoreOk w17 w15.heap.size 0 [(.int .i64 x34_0), (.slice s34_1.a s34_1.n s34_1.c), (.slice s34_2.a s34_2.n s34_2.c)] 3 ∧ Let (put w17 w15.heap.size 0 [(.int .i64 x34_0), (.slice s34_1.a s34_1.n s34_1.c), (.slice s34_2.a s34_2.n s34_2.c)]) fun w18 => 
  ∃ x38 : Int, World.cell? w18 ⟨w15.heap.size, ((0 + 0) + 0), none⟩ = some (.int .i64 x38) ∧ 0 ≤ x38 ∧ cond ((bitsI .and .i64 (Int.fdiv x6_5 (2 ^ (min (Int.toNat x38) (IntKind.bits .i64)))) (1 : Int)) == (0 : Int)) (
  J_7 x6_5 b7_4 w18) (
  ∃ s43 : Sl, World.cell? w18 ⟨w15.heap.size, (0 + 2), none⟩ = some (.slice s43.a s43.n s43.c) ∧ Join [(6, .int .i64), (7, .bool)] (fun (x6_7 : Int) (b7_6 : Bool) (w19 : World) => J_7 x6_7 b7_6 w19) (fun J_8 =>
  LoopV [(6, .int .i64), (7, .bool), (45, .int .i64)] (fun K => K x6_5 b7_4 (0 : Int) w18) (fun N_4 => fun (x6_8 : Int) (b7_7 : Bool) (x45 : Int) (w20 : World) =>
  cond (decide (x45 < ((s43.n : Nat) : Int))) (
  Join [(6, .int .i64), (7, .bool)] (fun (x6_9 : Int) (b7_8 : Bool) (w21 : World) => N_4 x6_9 b7_8 (IntKind.wrap .i64 (x45 + (1 : Int))) w21) (fun J_9 =>
  ∃ p47 : Pt, s43.a = some ⟨p47.b, p47.o, none⟩ ∧ 0 ≤ x45 ∧ x45 < ((s43.n : Nat) : Int) ∧ ∃ b48_0 : Bool, ∃ x48_1 : Int, ∃ s48_2 : Sl, rd w20 p47.b (p47.o + Int.toNat x45 * 3) [(.bool b48_0), (.int .i64 x48_1), (.slice s48_2.a s48_2.n s48_2.c)] ∧ Let (w20.alloc (.cells (zc Try.prog 54) 54)) fun w22 => 
  StoreOk w22 w20.heap.size 0 [(.bool b48_0), (.int .i64 x48_1), (.slice s48_2.a s48_2.n s48_2.c)] 3 ∧ Let (put w22 w20.heap.size 0 [(.bool b48_0), (.int .i64 x48_1), (.slice s48_2.a s48_2.n s48_2.c)]) fun w23 => 
  ∃ x52 : Int, World.cell? w23 ⟨w20.heap.size, ((0 + 1) + 0), none⟩ = some (.int .i64 x52) ∧ 0 ≤ x52 ∧ Join [(6, .int .i64), (7, .bool)] (fun (x6_10 : Int) (b7_9 : Bool) (w24 : World) => J_9 x6_10 b7_9 w24) (fun J_10 =>
  cond ((bitsI .and .i64 (Int.fdiv x6_8 (2 ^ (min (Int.toNat x52) (IntKind.bits .i64)))) (1 : Int)) == (0 : Int)) (
  ∃ x59 : Int, World.cell? w23 ⟨w20.heap.size, ((0 + 1) + 0), none⟩ = some (.int .i64 x59) ∧ 0 ≤ x59 ∧ J_10 (bitsI .or .i64 x6_8 (IntKind.wrap .i64 ((1 : Int) * 2 ^ (min (Int.toNat x59) (IntKind.bits .i64))))) true w23) (
  J_10 x6_8 b7_7 w23)))) (
  J_8 x6_8 b7_7 w20)))))) (
  J_6 x6_5 b7_4 w15))))) (
  J_4 x6_2 w12))))) (fun J_11 =>
  Calls Try.prog 55 [(.slice s0.a s0.n s0.c), (.slice none 0 0)].toArray w (fun e_2 w25 => ∃ b16 : Bool, e_2 = .returned (.bool b16) ∧
  cond (!b16) (J_11 true w25) (cond (decide (x1 < (0 : Int))) (J_11 true w25) (J_11 (decide (x1 ≥ (6 : Int))) w25))))
theorem eq37 (s0 : Sl) (x1 : Int) (R : Value → World → Prop) (w : World) : funV Try.prog Try.f37 An37 [(.slice s0.a s0.n s0.c), (.int .i64 x1)] R w = S37 s0 x1 R w := by kernel_rfl
theorem call37 (s0 : Sl) (x1 : Int) {R : Value → World → Prop} {w : World} (h : S37 s0 x1 R w) : Calls Try.prog 37 [(.slice s0.a s0.n s0.c), (.int .i64 x1)].toArray w fun e w' => ∃ v, e = .returned v ∧ R v w' :=
  funV_calls mixed Try.func37 (an := An37) (by rw [eq37]; exact h)

/-- F85: (cubeb/rules.Rule).clone -/
def An85 : An := (.sq .lf (.sq (.df [0, 1, 2, 3, 4, 5] 6 9 [7, 8, 9, 10] [6, 7, 8, 10] [10] [(3, .ptr)]) (.sq (.sq .lf (.bk [] (.lp [(18, .int .i64)] (.sq .lf (.sq (.cd .lf .lf) (.sq (.bk [] (.sq .lf (.dr [0, 1, 2, 3, 4, 5, 6, 7, 8, 9, 10, 11, 12, 13, 14, 15, 16] [16] true none))) .lf)))))) (.sq .lf .lf))))
def S85 (x0_0 : Int) (s0_1 : Sl) (s0_2 : Sl) (R : Value → World → Prop) (w : World) : Prop :=
  Let (w.alloc (.cells [(.int .i64 x0_0), (.slice s0_1.a s0_1.n s0_1.c), (.slice s0_2.a s0_2.n s0_2.c)].toArray 52)) fun w1 => 
  Let (w1.alloc (.cells (zc Try.prog 52) 52)) fun w2 => 
  Join [(3, .ptr)] (fun (p3 : Pt) (w4 : World) => ∃ s16 : Sl, World.cell? w4 ⟨w.heap.size, (0 + 2), none⟩ = some (.slice s16.a s16.n s16.c) ∧ Join [] (fun (w5 : World) => ∃ x39_0 : Int, ∃ s39_1 : Sl, ∃ s39_2 : Sl, rd w5 p3.b p3.o [(.int .i64 x39_0), (.slice s39_1.a s39_1.n s39_1.c), (.slice s39_2.a s39_2.n s39_2.c)] ∧ StoreOk w5 w1.heap.size 0 [(.int .i64 x39_0), (.slice s39_1.a s39_1.n s39_1.c), (.slice s39_2.a s39_2.n s39_2.c)] 3 ∧ Let (put w5 w1.heap.size 0 [(.int .i64 x39_0), (.slice s39_1.a s39_1.n s39_1.c), (.slice s39_2.a s39_2.n s39_2.c)]) fun w6 => 
  ∃ xr2_0 : Int, ∃ sr2_1 : Sl, ∃ sr2_2 : Sl, rd w6 w1.heap.size 0 [(.int .i64 xr2_0), (.slice sr2_1.a sr2_1.n sr2_1.c), (.slice sr2_2.a sr2_2.n sr2_2.c)] ∧ R (.agg [(.int .i64 xr2_0), (.slice sr2_1.a sr2_1.n sr2_1.c), (.slice sr2_2.a sr2_2.n sr2_2.c)].toArray) w6) (fun J =>
  LoopV [(18, .int .i64)] (fun K => K (0 : Int) w4) (fun N => fun (x18 : Int) (w7 : World) =>
  cond (decide (x18 < ((s16.n : Nat) : Int))) (
  Join [] (fun (w8 : World) => N (IntKind.wrap .i64 (x18 + (1 : Int))) w8) (fun J_2 =>
  ∃ p20 : Pt, s16.a = some ⟨p20.b, p20.o, none⟩ ∧ 0 ≤ x18 ∧ x18 < ((s16.n : Nat) : Int) ∧ ∃ b21_0 : Bool, ∃ x21_1 : Int, ∃ s21_2 : Sl, rd w7 p20.b (p20.o + Int.toNat x18 * 3) [(.bool b21_0), (.int .i64 x21_1), (.slice s21_2.a s21_2.n s21_2.c)] ∧ Let (w7.alloc (.cells (zc Try.prog 54) 54)) fun w9 => 
  StoreOk w9 w7.heap.size 0 [(.bool b21_0), (.int .i64 x21_1), (.slice s21_2.a s21_2.n s21_2.c)] 3 ∧ Let (put w9 w7.heap.size 0 [(.bool b21_0), (.int .i64 x21_1), (.slice s21_2.a s21_2.n s21_2.c)]) fun w10 => 
  ∃ S1 : World → Prop, S1 w10.drew ∧ Let w10.drew fun w11 =>
  ∃ s23 : Sl, (∀ u, S1 u → World.cell? u ⟨p3.b, (p3.o + 2), none⟩ = some (.slice s23.a s23.n s23.c)) ∧ ∃ b25 : Bool, (∀ u, S1 u → World.cell? u ⟨w7.heap.size, (0 + 0), none⟩ = some (.bool b25)) ∧ ∃ x28 : Int, (∀ u, S1 u → World.cell? u ⟨w7.heap.size, ((0 + 1) + 0), none⟩ = some (.int .i64 x28)) ∧ ∃ s31 : Sl, (∀ u, S1 u → World.cell? u ⟨w7.heap.size, ((0 + 1) + 1), none⟩ = some (.slice s31.a s31.n s31.c)) ∧ Calls Try.prog 64 [(.slice s31.a s31.n s31.c)].toArray w11 (fun e w12 => ∃ s32 : Sl, e = .returned (.slice s32.a s32.n s32.c) ∧
  S1 w12 ∧ 2 = 2 ∧ 3 ≤ 3 ∧ ∃ (s35 : Sl) (w13 : World), Sem.run Try.prog (Instr.buildSlice 50 1 [(0, (.agg [(.bool b25), (.int .i64 x28), (.slice s32.a s32.n s32.c)].toArray))].toArray) w12 = .ok (.slice s35.a s35.n s35.c) w13 ∧
  S1 w13 ∧ ∃ (s36 : Sl) (w14 : World), Sem.run Try.prog (Builtin.append_ #[50, 50] 50 #[(.slice s23.a s23.n s23.c), (.slice s35.a s35.n s35.c)]) w13 = .ok (.slice s36.a s36.n s36.c) w14 ∧
  S1 w14 ∧ StoreOk w14 p3.b (p3.o + 2) [(.slice s36.a s36.n s36.c)] 1 ∧ Let (put w14 p3.b (p3.o + 2) [(.slice s36.a s36.n s36.c)]) fun w15 => 
  J_2 w15))) (
  J w7)))) (fun J_3 =>
  ∃ S2 : World → Prop, S2 w2.drew ∧ Let w2.drew fun w3 =>
  ∃ x8 : Int, (∀ u, S2 u → World.cell? u ⟨w.heap.size, ((0 + 0) + 0), none⟩ = some (.int .i64 x8)) ∧ ∃ s11 : Sl, (∀ u, S2 u → World.cell? u ⟨w.heap.size, ((0 + 0) + 1), none⟩ = some (.slice s11.a s11.n s11.c)) ∧ (Calls Try.prog 64 [(.slice s11.a s11.n s11.c)].toArray w3 (fun e_2 w16 => ∃ s12 : Sl, e_2 = .returned (.slice s12.a s12.n s12.c) ∧
  S2 w16 ∧ 2 = 2 ∧ 2 ≤ 3 ∧ Let (w16.alloc (.cells (zc Try.prog 52) 52)) fun w17 => 
  S2 w17 ∧ StoreOk w17 w16.heap.size 0 [(.int .i64 x8), (.slice s12.a s12.n s12.c), (.slice none 0 0)] 3 ∧ Let (put w17 w16.heap.size 0 [(.int .i64 x8), (.slice s12.a s12.n s12.c), (.slice none 0 0)]) fun w18 => 
  J_3 ⟨w16.heap.size, 0⟩ w18)) ∧
  (Let (w3.alloc (.cells (zc Try.prog 52) 52)) fun w19 => 
  S2 w19 ∧ Calls Try.prog 64 [(.slice s11.a s11.n s11.c)].toArray w19 (fun e_3 w20 => ∃ s12_2 : Sl, e_3 = .returned (.slice s12_2.a s12_2.n s12_2.c) ∧
  S2 w20 ∧ 2 = 2 ∧ 2 ≤ 3 ∧ StoreOk w20 w3.heap.size 0 [(.int .i64 x8), (.slice s12_2.a s12_2.n s12_2.c), (.slice none 0 0)] 3 ∧ Let (put w20 w3.heap.size 0 [(.int .i64 x8), (.slice s12_2.a s12_2.n s12_2.c), (.slice none 0 0)]) fun w21 => 
  J_3 ⟨w3.heap.size, 0⟩ w21)))
theorem eq85 (x0_0 : Int) (s0_1 : Sl) (s0_2 : Sl) (R : Value → World → Prop) (w : World) : funV Try.prog Try.f85 An85 [(.agg [(.int .i64 x0_0), (.slice s0_1.a s0_1.n s0_1.c), (.slice s0_2.a s0_2.n s0_2.c)].toArray)] R w = S85 x0_0 s0_1 s0_2 R w := by kernel_rfl
theorem call85 (x0_0 : Int) (s0_1 : Sl) (s0_2 : Sl) {R : Value → World → Prop} {w : World} (h : S85 x0_0 s0_1 s0_2 R w) : Calls Try.prog 85 [(.agg [(.int .i64 x0_0), (.slice s0_1.a s0_1.n s0_1.c), (.slice s0_2.a s0_2.n s0_2.c)].toArray)].toArray w fun e w' => ∃ v, e = .returned v ∧ R v w' :=
  funV_calls mixed Try.func85 (an := An85) (by rw [eq85]; exact h)

end Go.Proofs.Ytoljknamnkkgcaa
/-
  Contracts: Strata; a rule copied; Needed.
-/
namespace Go.Proofs.Ytoljknamnkkgcaa
open Go Go.VC
set_option maxHeartbeats 1000000
set_option maxRecDepth 100000

theorem NF.nil (w : World) : NF w ⟨none, 0, 0⟩ [] := ⟨Sli.nil _ _, by simp⟩
theorem NR.nil (w : World) : NR w ⟨none, 0, 0⟩ [] := ⟨Sli.nil _ _, by simp⟩
theorem c36 {w : World} {s : Sl} {l : List DR} (hs : NR w s l) (hl : l.length ≤ 1000000) (hz : ∀ r ∈ l, SzR r) :
    Calls Try.prog 36 [.slice s.a s.n s.c].toArray w fun e w' => ∃ (s2 : Sl) (x : Int) (L : List Int), e = .returned (.tuple [.slice s2.a s2.n s2.c, .int .i64 x].toArray) ∧ Ints w' s2 L ∧ L.length ≤ 6 ∧
      ((¬ ValidP (l.map DR.p) [] ∧ x = 2 ∧ L = []) ∨ (ValidP (l.map DR.p) [] ∧ (¬ ∃ t, IsStr (l.map DR.p) t) ∧ x = 8 ∧ L = []) ∨ (ValidP (l.map DR.p) [] ∧ IsStr (l.map DR.p) L ∧ x = 0)) ∧ Ext w w' := by
  refine (call36 s (R := fun v w' => ∃ (s2 : Sl) (x : Int) (L : List Int), v = (.tuple [.slice s2.a s2.n s2.c, .int .i64 x].toArray) ∧ Ints w' s2 L ∧ L.length ≤ 6 ∧
      ((¬ ValidP (l.map DR.p) [] ∧ x = 2 ∧ L = []) ∨ (ValidP (l.map DR.p) [] ∧ (¬ ∃ t, IsStr (l.map DR.p) t) ∧ x = 8 ∧ L = []) ∨ (ValidP (l.map DR.p) [] ∧ IsStr (l.map DR.p) L ∧ x = 0)) ∧ Ext w w') ?_).mono fun e w' ⟨v, he, s2, x, L, hv, hx⟩ => ⟨s2, x, L, by rw [he, hv], hx⟩
  refine (c55 hs (NF.nil w) hl (by simp) hz (by simp)).mono fun e w1 ⟨b, he, hb, x1⟩ => ⟨b, he, cond_intro (fun g => ?_) (fun g => ?_)⟩
  · have g : b = false := by simpa using g
    exact ⟨⟨none, 0, 0⟩, 2, [], rfl, Sli.nil _ _, by simp, .inl ⟨(fun h => by rw [hb.2 h] at g; cases g), rfl, rfl⟩, x1⟩
  have g : b = true := by simpa using g
  have hv : ValidP (l.map DR.p) [] := hb.1 g
  have hru : ∀ r ∈ l, RuleP r.p := fun r hr => hv.ru _ (List.mem_map.2 ⟨r, hr, rfl⟩)
  have hR : RelOk (l.map DR.p) := RuleP.rel hv.ru
  have hl10 : l.length ≤ 10 := by have := hv.nl; simpa using this
  refine (c84 (hs.ext x1) (by omega) (fun r hr => by have := (hru r hr).1; simpa [DR.p] using this) hR).mono fun e w2 ⟨s1, ok, he, hok, hno, x2⟩ => ⟨s1, ok, he, cond_intro (fun g2 => ?_) (fun g2 => ?_)⟩
  · have g2 : ok = false := by simpa using g2
    refine ⟨⟨none, 0, 0⟩, 8, [], rfl, Sli.nil _ _, by simp, .inr (.inl ⟨hv, fun ⟨t, ht⟩ => ?_, rfl, rfl⟩), x1.trans x2⟩
    obtain ⟨x, h0, h1, h2⟩ := (hno g2).2 _ ht.isSol
    have := lv_le (by omega) (ht.le5 hR) x
    omega
  · have g2 : ok = true := by simpa using g2
    obtain ⟨t, hti, ht⟩ := hok g2
    exact ⟨s1, 0, t, rfl, hti, by rw [ht.len]; omega, .inr (.inr ⟨hv, ht, rfl⟩), x1.trans x2⟩
/-- A rule copied. -/
theorem c85 {w : World} {r : DR} (hr : RulOk w r) (hb : r.body.length ≤ 1000) (ha : ∀ x ∈ r.atoms, x.args.length ≤ 1000) :
    Calls Try.prog 85 [.agg [.int .i64 r.head.rel, .slice r.head.sl.a r.head.sl.n r.head.sl.c, .slice r.bs.a r.bs.n r.bs.c].toArray].toArray w fun e w' => ∃ y : DR, e = .returned (.agg [.int .i64 y.head.rel, .slice y.head.sl.a y.head.sl.n y.head.sl.c, .slice y.bs.a y.bs.n y.bs.c].toArray) ∧ y.p = r.p ∧ RT w' y ∧ Ext w w' := by
  refine (call85 r.head.rel r.head.sl r.bs (R := fun v w' => ∃ y : DR, v = (.agg [.int .i64 y.head.rel, .slice y.head.sl.a y.head.sl.n y.head.sl.c, .slice y.bs.a y.bs.n y.bs.c].toArray) ∧ y.p = r.p ∧ RT w' y ∧ Ext w w') ?_).mono fun e w' ⟨v, he, y, hv, hx⟩ => ⟨y, by rw [he, hv], hx⟩
  have hbn := hr.bd.len
  refine Let.intro fun w1 e1 => ?_
  have e1 : w1 = w.alloc (.cells (eR r).toArray 52) := e1
  have b1 : Blk w1 w.heap.size (eR r) 52 := by rw [e1]; exact Blk.alloc w _ 52
  have x1 : Ext w w1 := by rw [e1]; exact Ext.alloc ..
  refine Let.intro fun w2 e2 => ?_
  have bz : Blk w2 w1.heap.size (zc Try.prog 52).toList 52 := by rw [e2]; simpa using Blk.alloc w1 (zc Try.prog 52).toList 52
  have x2 : Ext w1 w2 := by rw [e2]; exact Ext.alloc ..
  have b2 := b1.ext x2
  have x02 := x1.trans x2
  have lz := bz.lt
  have l1 := b1.lt
  refine ⟨fun p3 w4 => ∃ (q : Nat) (h : Sl), p3 = ⟨q, 0⟩ ∧ w2.heap.size ≤ q ∧ Blk w4 q [.int .i64 r.head.rel, .slice h.a h.n h.c, .slice none 0 0] 52 ∧ TI w4 h r.head.args ∧ Ext w2 w4, ?_, ?_⟩
  rotate_left
  · -- the head
    refine ⟨fun u => Ext w2 u, Ext.drew _, Let.intro fun w3 e3 => ?_⟩
    have x3 : Ext w2 w3 := by rw [e3]; exact Ext.drew _
    have z3 := x3.size
    refine ⟨r.head.rel, fun u hu => (b2.ext hu).cell 0, r.head.sl, fun u hu => (b2.ext hu).cell 1, ?_, ?_⟩
    · refine (c64 (hr.hd.ext (x02.trans x3)) (Nat.le_trans (ha r.head (by simp [DR.atoms])) (by omega))).mono fun e w16 ⟨h, he, ho, x16⟩ => ⟨h, he, x3.trans x16, rfl, by decide, ?_⟩
      obtain ⟨n1, n2, n3⟩ := new_var w16 52 (z := zc Try.prog 52) (vs := [.int .i64 r.head.rel, .slice h.a h.n h.c, .slice none 0 0]) (by rw [zc52]; rfl) (by intro v hv; simp at hv; rcases hv with rfl | rfl | rfl <;> rfl)
      refine Let.intro fun w17 e17 => ?_
      have x17 : Ext w16 w17 := by rw [e17]; exact Ext.alloc ..
      rw [← e17] at n1 n2 n3
      refine ⟨(x3.trans x16).trans x17, n1, Let.intro fun w18 e18 => ?_⟩
      rw [← e18] at n2 n3
      have := x16.size
      exact ⟨_, h, rfl, by omega, n2, (Own.ti ho).ext n3, (x3.trans x16).trans n3⟩
    · refine Let.intro fun w19 e19 => ?_
      have x19 : Ext w3 w19 := by rw [e19]; exact Ext.alloc ..
      have bq : Blk w19 w3.heap.size (zc Try.prog 52).toList 52 := by rw [e19]; simpa using Blk.alloc w3 (zc Try.prog 52).toList 52
      refine ⟨x3.trans x19, (c64 (hr.hd.ext ((x02.trans x3).trans x19)) (Nat.le_trans (ha r.head (by simp [DR.atoms])) (by omega))).mono fun e w20 ⟨h, he, ho, x20⟩ => ⟨h, he, (x3.trans x19).trans x20, rfl, by decide, ?_⟩⟩
      obtain ⟨p1, p2, p3⟩ := blk_all (bq.ext x20) (vs := [.int .i64 r.head.rel, .slice h.a h.n h.c, .slice none 0 0]) (by simp [zc52]) (by intro v hv; simp at hv; rcases hv with rfl | rfl | rfl <;> rfl)
      refine ⟨p1, Let.intro fun w21 e21 => ?_⟩
      rw [← e21] at p2 p3
      exact ⟨_, h, rfl, by omega, p2, (Own.ti ho).fr p3 fun q cur hq (e : q = w3.heap.size) => by subst e; exact Blk.ne_ty hq (bq.ext x20) (by decide) rfl, ((x3.trans x19).trans x20).newer p3 fun q (hq : q = w3.heap.size) => by omega⟩
  rintro p3 w4 ⟨q, h, rfl, hq2, bq, hh, x4⟩
  have x04 := x02.trans x4
  refine ⟨r.bs, (b2.ext x4).cell 2, ?_⟩
  have lq := bq.lt
  have z4 := x4.size
  -- the body
  refine ⟨fun w5 => ∃ (sb : Sl) (B : List DL), Blk w5 q [.int .i64 r.head.rel, .slice h.a h.n h.c, .slice sb.a sb.n sb.c] 52 ∧ Own 54 3 eL w4.heap.size w5 sb B ∧ (∀ b ∈ B, TI w5 b.a.sl b.a.args) ∧ B.map DL.p = r.p.body ∧ Fr (fun y => y = q) w4 w5, ?_, ?_⟩
  · rintro w5 ⟨sb, B, b5, hob, hbt, hBp, f5⟩
    refine ⟨_, _, _, b5.rd, ?_⟩
    have hf25 : Ext w2 w5 := x4.newer f5 fun y (hy : y = q) => by omega
    obtain ⟨p1, p2, p3⟩ := blk_all (bz.ext hf25) (vs := [.int .i64 r.head.rel, .slice h.a h.n h.c, .slice sb.a sb.n sb.c]) (by simp [zc52]) (by intro v hv; simp at hv; rcases hv with rfl | rfl | rfl <;> rfl)
    refine ⟨p1, Let.intro fun w6 e6 => ?_⟩
    rw [← e6] at p2 p3
    let y : DR := ⟨⟨r.head.rel, h, r.head.args⟩, sb, B⟩
    have hh5 : TI w5 h r.head.args := hh.fr f5 fun y cur hy (e : y = q) => by subst e; exact Blk.ne_ty hy bq (by decide) rfl
    have hR5 : RT w5 y := ⟨hh5, hob.sli, fun a ha => hob.blk ha, hbt⟩
    refine ⟨_, _, _, p2.rd, y, rfl, ?_, hR5.fr p3 (fun y cur hy (e : y = w1.heap.size) => by subst e; exact Blk.ne_ty hy (bz.ext hf25) (by decide) rfl) (fun y cur hy (e : y = w1.heap.size) => by subst e; exact Blk.ne_ty hy (bz.ext hf25) (by decide) rfl), (x02.trans hf25).newer p3 fun y (hy : y = w1.heap.size) => by have := x1.size; omega⟩
    show (⟨⟨r.head.rel, r.head.args⟩, B.map DL.p⟩ : Ru) = r.p
    rw [hBp]; rfl
  refine rangeI (fun j w12 => ∃ (sb : Sl) (B : List DL), Blk w12 q [.int .i64 r.head.rel, .slice h.a h.n h.c, .slice sb.a sb.n sb.c] 52 ∧ Own 54 3 eL w4.heap.size w12 sb B ∧ (∀ b ∈ B, TI w12 b.a.sl b.a.args) ∧ B.map DL.p = r.p.body.take j ∧ Fr (fun y => y = q) w4 w12) (by rw [hbn]; show r.body.length ≤ 9223372036854775807; omega) ⟨⟨none, 0, 0⟩, [], bq, Own.nil .., by simp, by simp, Fr.refl _ _⟩ ?_ ?_
  rotate_left
  · rintro w12 ⟨sb, B, h1, h2, h3, h4, h5⟩
    have e : r.p.body.take r.bs.n = r.p.body := by rw [hbn]; exact List.take_of_length_le (by simp [DR.p])
    rw [e] at h4
    exact ⟨sb, B, h1, h2, h3, h4, h5⟩
  rintro j hj w12 ⟨sb, B, bq12, hob, hbt, hBp, f12⟩ K2 hK2
  have hj : j < r.body.length := by omega
  have x012 : Ext w w12 := x04.newer f12 fun y (hy : y = q) => by have := x02.size; omega
  have hro12 := hr.ext x012
  refine loadL hro12.bd hj fun w15 b15 x15 => ?_
  have hbp : r.p.body[j]'(by simpa [DR.p] using hj) = (r.body[j]).p := by simp [DR.p]
  have htk : r.p.body.take (j + 1) = r.p.body.take j ++ [(r.body[j]).p] := by rw [List.take_succ_eq_append_getElem (by simpa [DR.p] using hj), hbp]
  have hint := (hro12.bd.ok _ (List.getElem_mem hj)).ext x15
  have hlj : (r.p.body.take j).length = j := by simp [DR.p]; omega
  have hba : (r.body[j]).a.args.length ≤ 1000 := ha _ (by simp [DR.atoms]; exact .inr ⟨_, List.getElem_mem hj, rfl⟩)
  generalize r.body[j] = b at b15 htk hint hba
  have lw12 : q < w12.heap.size := by have := f12.size; omega
  have bq15 := bq12.ext x15
  have hob15 := hob.ext x15
  have hnq : ¬ BlS sb q := fun ⟨a, ha, e⟩ => by have := (hob.base ha).1; omega
  have hnl : ¬ BlS sb w12.heap.size := fun ⟨a, ha, e⟩ => by have := (hob.base ha).2; omega
  refine ⟨fun u => Fr (BlS sb) w15 u, Fr.mono (Ext.drew _) fun _ _ h => h.elim, Let.intro fun w17 e17 => ?_⟩
  have x17 : Ext w15 w17 := by rw [e17]; exact Ext.drew _
  refine ⟨sb, fun u hu => (bq15.fr hu hnq).cell 2, b.neg, fun u hu => (b15.fr hu hnl).cell 0, b.a.rel, fun u hu => (b15.fr hu hnl).cell 1, b.a.sl, fun u hu => (b15.fr hu hnl).cell 2, ?_⟩
  refine (c64 (hint.ext x17) (by omega)).mono fun e w18 ⟨z, he, hzo, x18⟩ => ⟨_, he, (x17.trans x18).mono fun _ _ h => h.elim, rfl, by decide, ?_⟩
  let D : DL := ⟨b.neg, ⟨b.a.rel, z, b.a.args⟩⟩
  have hbd := buildOne_run E50 (v := .agg [.bool b.neg, .int .i64 b.a.rel, .slice z.a z.n z.c].toArray) (vs := eL D) rfl rfl (by omega) w18
  have x19 := Ext.alloc w18 (.cells (eL D).toArray 54)
  have hs19 : Sli 3 eL (w18.alloc (.cells (eL D).toArray 54)) ⟨some ⟨w18.heap.size, 0, none⟩, 1, 1⟩ [D] := ⟨rfl, Nat.le_refl _, fun _ => ⟨⟨w18.heap.size, 0⟩, rfl, by simpa using (Blk.alloc w18 (eL D) 54).rd⟩⟩
  have x1519 := (x17.trans x18).trans x19
  have hob19 := hob15.ext x1519
  have hBl : B.length ≤ 1000 := by have := congrArg List.length hBp; simp at this; omega
  obtain ⟨s20, w20, hr20, ho20, hf20⟩ := appendSli E50 hob19 hs19 eL_len eL_one (by simp; omega) (by simp [maxLen]; omega) (by have := f12.size; have := x15.size; have := x1519.size; omega) 50
  have hf1520 : Fr (BlS sb) w15 w20 := x1519.fr hf20
  have bq20 := bq15.fr hf1520 hnq
  obtain ⟨p1, p2, p3⟩ := (⟨bq20.storeOk (o := 0 + 2) (vs := [.slice s20.a s20.n s20.c]) rfl (by simp [Value.oneCell']) (by simp), by
      have := bq20.put (o := 0 + 2) (vs := [.slice s20.a s20.n s20.c]); exact this, Fr.put ..⟩ : StoreOk w20 q (0 + 2) [.slice s20.a s20.n s20.c] 1 ∧ Blk (put w20 q (0 + 2) [.slice s20.a s20.n s20.c]) q [.int .i64 r.head.rel, .slice h.a h.n h.c, .slice s20.a s20.n s20.c] 52 ∧ Fr (fun y => y = q) w20 (put w20 q (0 + 2) [.slice s20.a s20.n s20.c]))
  refine ⟨⟨some ⟨w18.heap.size, 0, none⟩, 1, 1⟩, _, hbd, x1519.mono fun _ _ h => h.elim, s20, w20, hr20, hf1520, p1, Let.intro fun w21 e21 => ?_⟩
  have e21 : w21 = put w20 q (0 + 2) [.slice s20.a s20.n s20.c] := e21
  rw [← e21] at p2 p3
  refine hK2 _ ⟨s20, B ++ [D], p2, ho20.fr p3 fun a ha (e : a.block = q) => by have := (ho20.base ha).1; omega, fun b' hb' => ?_, ?_, ?_⟩
  · have h19 : TI (w18.alloc (.cells (eL D).toArray 54)) b'.a.sl b'.a.args := by
      rcases List.mem_append.1 hb' with hb' | hb'
      · exact ((hbt b' hb').ext x15).ext x1519
      · simp only [List.mem_singleton] at hb'; subst hb'; exact (Own.ti hzo).ext x19
    refine (h19.fr hf20 fun y cur hy ⟨a, ha, e⟩ => ?_).fr p3 fun y cur hy (e : y = q) => ?_
    · obtain ⟨cur', hc'⟩ := hob19.blk ha
      rw [e] at hc'
      exact Blk.ne_ty hy hc' (by decide) rfl
    · subst e; exact Blk.ne_ty hy bq20 (by decide) rfl
  · rw [List.map_append, hBp, htk]; rfl
  · exact ((f12.ext x15).trans hf1520 fun y hy ⟨a, ha, e⟩ => by have := (hob15.base ha).1; omega).trans p3 fun _ _ h => h
/-! ### a loop over counts that carries two -/
theorem rangeKKI {t t1 t2 n : Nat} {k1 k2 : SK} {w0 : World} {a0 : k1.T} {b0 : k2.T} {J : k1.T → k2.T → World → Prop} {B : k1.T → k2.T → Int → World → (k1.T → k2.T → World → Prop) → Prop} (Inv : Nat → k1.T → k2.T → World → Prop) (hn : n ≤ big) (h0 : Inv 0 a0 b0 w0)
    (hs : ∀ i, i < n → ∀ a b w, Inv i a b w → ∀ K : k1.T → k2.T → World → Prop, (∀ a' b' w', Inv (i + 1) a' b' w' → K a' b' w') → B a b (i : Int) w K) (he : ∀ a b w, Inv n a b w → J a b w) :
    LoopV [(t1, k1), (t2, k2), (t, .int .i64)] (fun K => K a0 b0 (0 : Int) w0) (fun N => fun (a : k1.T) (b : k2.T) (x : Int) (w : World) => cond (decide (x < (n : Int))) (Join [(t1, k1), (t2, k2)] (fun (a' : k1.T) (b' : k2.T) (w3 : World) => N a' b' (IntKind.wrap .i64 (x + 1)) w3) (fun J2 => B a b x w J2)) (J a b w)) := by
  refine LoopV.intro (fun m (a : k1.T) (b : k2.T) (x : Int) w => ∃ i : Nat, x = i ∧ m = n - i ∧ i ≤ n ∧ Inv i a b w) n ⟨0, rfl, by omega, by omega, h0⟩ ?_
  rintro m a b x w ⟨i, rfl, rfl, hi, hv⟩
  refine cond_intro (fun h => ?_) (fun h => ?_)
  · have hi : i < n := by simpa using h
    refine Join.dir (hs i hi a b w hv _ fun a' b' w' h' => ⟨n - (i + 1), by omega, i + 1, ?_, rfl, by omega, h'⟩)
    rw [wrap64 (by omega) (by have : n ≤ 9223372036854775807 := hn; omega)]; rfl
  · have hi : i = n := by have : ¬ i < n := by simpa using h
                          omega
    subst hi; exact he a b w hv
/-! ### bits of an int -/
theorem bit0 : ∀ m < 64, ∀ k < 6, ((bitsI .and .i64 (Int.fdiv ((m : Nat) : Int) (2 ^ (min k (IntKind.bits .i64)))) (1 : Int)) == (0 : Int)) = !(m.testBit k) := by decide +kernel
theorem bit1 : ∀ m < 64, ∀ k < 6, ((bitsI .and .i64 (Int.fdiv ((m : Nat) : Int) (2 ^ (min k (IntKind.bits .i64)))) (1 : Int)) == (1 : Int)) = m.testBit k := by decide +kernel
theorem bitOr : ∀ m < 64, ∀ k < 6, bitsI .or .i64 ((m : Nat) : Int) (IntKind.wrap .i64 ((1 : Int) * 2 ^ (min k (IntKind.bits .i64)))) = ((m ||| 2 ^ k : Nat) : Int) := by decide +kernel
theorem bitB : ∀ k < 6, IntKind.wrap .i64 ((1 : Int) * 2 ^ (min k (IntKind.bits .i64))) = ((2 ^ k : Nat) : Int) := by decide +kernel
theorem mB_on {h : Nat} : ∀ {body : List Li} {m : Nat}, m < 64 → (∀ b ∈ body, b.a.rel.toNat < 6) → m.testBit h = true → (body.foldl (fun m b => ms h m b.a.rel.toNat) m).testBit h = true := fun hm hb h1 => (mB_up hm hb).mono _ h1
theorem mB_off {h : Nat} : ∀ {body : List Li} {m : Nat}, m.testBit h = false → body.foldl (fun m b => ms h m b.a.rel.toNat) m = m
  | [], _, _ => rfl
  | b :: r, m, hh => by
    have e : ms h m b.a.rel.toNat = m := by unfold ms; rw [hh]; simp
    rw [List.foldl_cons, e]; exact mB_off hh
/-- What was found new. -/
def Cg (m m' : Nat) (b : Bool) : Prop := (b = false → m' = m) ∧ (b = true → cnt m < cnt m')
theorem c37 {w : World} {s : Sl} {l : List DR} {rel : Int} (hs : NR w s l) (hl : l.length ≤ 1000000) (hz : ∀ r ∈ l, SzR r) :
    Calls Try.prog 37 [.slice s.a s.n s.c, .int .i64 rel].toArray w fun e w' => ∃ (s2 : Sl) (x : Int) (L : List DR), e = .returned (.tuple [.slice s2.a s2.n s2.c, .int .i64 x].toArray) ∧ NR w' s2 L ∧
      ((¬ (ValidP (l.map DR.p) [] ∧ 0 ≤ rel ∧ rel ≤ 5) ∧ x = 2 ∧ L = []) ∨ ((ValidP (l.map DR.p) [] ∧ 0 ≤ rel ∧ rel ≤ 5) ∧ x = 0 ∧ ∃ m, IsNd (l.map DR.p) rel m ∧ L.map DR.p = ndR (l.map DR.p) m)) ∧ Ext w w' := by
  refine (call37 s rel (R := fun v w' => ∃ (s2 : Sl) (x : Int) (L : List DR), v = (.tuple [.slice s2.a s2.n s2.c, .int .i64 x].toArray) ∧ NR w' s2 L ∧
      ((¬ (ValidP (l.map DR.p) [] ∧ 0 ≤ rel ∧ rel ≤ 5) ∧ x = 2 ∧ L = []) ∨ ((ValidP (l.map DR.p) [] ∧ 0 ≤ rel ∧ rel ≤ 5) ∧ x = 0 ∧ ∃ m, IsNd (l.map DR.p) rel m ∧ L.map DR.p = ndR (l.map DR.p) m)) ∧ Ext w w') ?_).mono fun e w' ⟨v, he, s2, x, L, hv, hx⟩ => ⟨s2, x, L, by rw [he, hv], hx⟩
  refine ⟨fun (b25 : Bool) w1 => (b25 = false ↔ (ValidP (l.map DR.p) [] ∧ 0 ≤ rel ∧ rel ≤ 5)) ∧ Ext w w1, ?_, ?_⟩
  rotate_left
  · refine (c55 hs (NF.nil w) hl (by simp) hz (by simp)).mono fun e w1 ⟨b, he, hb, x1⟩ => ⟨b, he, cond_intro (fun g => ?_) (fun g => ?_)⟩
    · have g : b = false := by simpa using g
      exact ⟨⟨(fun h => by cases h), fun h => by have := hb.2 h.1; rw [g] at this; cases this⟩, x1⟩
    have g : b = true := by simpa using g
    have hv : ValidP (l.map DR.p) [] := hb.1 g
    refine cond_intro (fun g2 => ?_) (fun g2 => ?_)
    · have g2 : rel < 0 := by simpa using g2
      exact ⟨⟨(fun h => by cases h), fun h => by omega⟩, x1⟩
    · have g2 : ¬ rel < 0 := by simpa using g2
      refine ⟨?_, x1⟩
      rw [decide_eq_false_iff_not]
      exact ⟨fun h => ⟨hv, by omega, by omega⟩, fun h => by omega⟩
  rintro b25 w1 ⟨hb25, x1⟩
  refine cond_intro (fun g => ?_) (fun g => ?_)
  · subst g
    exact ⟨⟨none, 0, 0⟩, 2, [], rfl, NR.nil _, .inl ⟨(fun h => by have := hb25.2 h; cases this), rfl, rfl⟩, x1⟩
  have hall := hb25.1 g
  obtain ⟨hv, h0, h5⟩ := hall
  have hR : RelOk (l.map DR.p) := RuleP.rel hv.ru
  have hl10 : l.length ≤ 10 := by have := hv.nl; simpa using this
  have hru : ∀ r ∈ l, RuleP r.p := fun r hr => hv.ru _ (List.mem_map.2 ⟨r, hr, rfl⟩)
  have hsn := hs.len
  refine ⟨h0, ?_⟩
  generalize hLL : l.map DR.p = L at *
  have hLlen : L.length = l.length := by rw [← hLL]; simp
  refine ⟨fun (x6 : Int) w2 => ∃ m : Nat, x6 = m ∧ IsNd L rel m ∧ Ext w w2, ?_, ?_⟩
  · -- the rules that are handed out
    rintro x6 w2 ⟨m, rfl, hm, x2⟩
    refine Join.dir (rangeSI (fun j (s12 : Sl) w4 => ∃ part : List DR, Own 52 3 eR w2.heap.size w4 s12 part ∧ (∀ r ∈ part, RT w4 r) ∧ part.map DR.p = ndR (L.take j) m ∧ w2.heap.size ≤ w4.heap.size ∧ Ext w w4) (by rw [hsn]; show l.length ≤ 9223372036854775807; omega) ⟨[], Own.nil .., by simp, by simp [ndR], Nat.le_refl _, x2⟩ ?_ ?_)
    rotate_left
    · rintro s12 w4 ⟨part, ho, hrt, hp, z, x4⟩
      rw [hsn, ← hLlen, List.take_length] at hp
      exact ⟨s12, 0, part, rfl, ⟨ho.sli, fun r hr => (hrt r hr).ok⟩, .inr ⟨⟨hv, h0, h5⟩, rfl, m, hm, hp⟩, x4⟩
    rintro j hj s12 w4 ⟨part, ho, hrt, hp, z, x4⟩ K hK
    have hj : j < l.length := by omega
    have hjL : j < L.length := by omega
    refine loadR (hs.ext x4) hj fun w7 b7 x7 => ?_
    have hro := (hs.ok _ (List.getElem_mem hj)).ext (x4.trans x7)
    have hrr := hru _ (List.getElem_mem hj)
    have hLj : L[j] = (l[j]).p := by subst hLL; simp
    have hst : ndR (L.take (j + 1)) m = ndR (L.take j) m ++ (if m.testBit (l[j]).head.rel.toNat = true then [(l[j]).p] else []) := by
      unfold ndR
      rw [List.take_succ_eq_append_getElem hjL, List.filter_append, hLj]
      congr 1
      simp [List.filter_cons, DR.p, DF.p]
    have hpl := (List.length_filter_le (fun r : Ru => m.testBit r.head.rel.toNat) (L.take j))
    have hpl2 : part.length ≤ 10 := by
      have := congrArg List.length hp
      simp only [List.length_map] at this
      rw [this]; unfold ndR
      simp at hpl; omega
    generalize l[j] = r at b7 hro hst hrr
    have hrel := (hrr.2.2 r.head.p (by simp [Ru.atoms, DR.p]))
    have hrel0 : 0 ≤ r.head.rel := hrel.1
    have hrel5 : r.head.rel ≤ 5 := hrel.2.1
    refine ⟨_, b7.cell 0, hrel0, Join.dir ?_⟩
    rw [bit1 m hm.lt r.head.rel.toNat (by omega)]
    refine cond_intro (fun g2 => ?_) (fun g2 => ?_)
    · rw [if_pos g2] at hst
      refine ⟨_, _, _, b7.rd, ?_⟩
      have hsz : r.body.length ≤ 3 := by have := hrr.1; simpa [DR.p] using this
      refine (c85 hro (by omega) (fun x hx => ?_)).mono fun e w9 ⟨y, he, hy, hyt, x9⟩ => ⟨_, _, _, he, ?_⟩
      · have : FitsF x.p := hrr.2.2 x.p (by
          simp only [DR.atoms, List.mem_cons, List.mem_map] at hx
          simp only [Ru.atoms, DR.p, List.mem_cons, List.mem_map]
          rcases hx with rfl | ⟨b, hb, rfl⟩
          · exact .inl rfl
          · exact .inr ⟨b.p, ⟨b, hb, rfl⟩, rfl⟩)
        have := this.2.2.2.1
        have : x.args.length ≤ 2 := this
        omega
      have x79 := x7.trans x9
      have hbd := buildOne_run E27 (v := .agg [.int .i64 y.head.rel, .slice y.head.sl.a y.head.sl.n y.head.sl.c, .slice y.bs.a y.bs.n y.bs.c].toArray) (vs := eR y) rfl rfl (by omega) w9
      have x10 := Ext.alloc w9 (.cells (eR y).toArray 52)
      have hs10 : Sli 3 eR (w9.alloc (.cells (eR y).toArray 52)) ⟨some ⟨w9.heap.size, 0, none⟩, 1, 1⟩ [y] := ⟨rfl, Nat.le_refl _, fun _ => ⟨⟨w9.heap.size, 0⟩, rfl, by simpa using (Blk.alloc w9 (eR y) 52).rd⟩⟩
      have ho9 := ho.ext x79
      obtain ⟨s11, w11, hr11, ho11, hf11⟩ := appendSli E27 (ho9.ext x10) hs10 eR_len eR_one (by simp; omega) (by simp [maxLen]; omega) (by have := x79.size; have := x10.size; omega) 27
      refine ⟨⟨some ⟨w9.heap.size, 0, none⟩, 1, 1⟩, _, hbd, s11, w11, hr11, hK _ _ ⟨part ++ [y], ho11, fun r' hr' => ?_, by rw [List.map_append, hp, hst]; simp [hy], by have := hf11.size; have := x79.size; have := x10.size; omega, ?_⟩⟩
      · have hno : ∀ (T : TypeId), T ≠ 52 → ∀ q cur, Blk (w9.alloc (.cells (eR y).toArray 52)) q cur T → ¬ BlS s12 q := fun T hT q cur hq ⟨a, ha, e⟩ => by
          obtain ⟨cur', hc'⟩ := (ho9.ext x10).blk ha
          rw [e] at hc'
          exact Blk.ne_ty hq hc' hT rfl
        have hr10 : RT (w9.alloc (.cells (eR y).toArray 52)) r' := by
          rcases List.mem_append.1 hr' with hr' | hr'
          · exact ((hrt r' hr').ext x79).ext x10
          · simp only [List.mem_singleton] at hr'; subst hr'; exact hyt.ext x10
        exact hr10.fr hf11 (hno 3 (by decide)) (hno 54 (by decide))
      · have := x2.size
        exact ((x4.trans x79).trans x10).newer hf11 fun q ⟨a, ha, e⟩ => by have := ((ho9.ext x10).base ha).1; omega
    · rw [if_neg (by rw [g2]; simp), List.append_nil] at hst
      exact hK _ _ ⟨part, ho.ext x7, fun r' hr' => (hrt r' hr').ext x7, by rw [hp, hst], by have := x7.size; omega, x4.trans x7⟩
  -- the rounds
  have hb0 : rel.toNat < 6 := by omega
  rw [bitB rel.toNat hb0]
  have h2 : ∀ k < 6, 2 ^ k < 64 := by decide
  have hsnd0 : Snd L rel (2 ^ rel.toNat) := fun i hi => by
    rw [Nat.testBit_two_pow, decide_eq_true_eq] at hi
    rw [← hi, Int.toNat_of_nonneg h0]; exact Rch.base L rel
  refine LoopV.intro (fun n (x6 : Int) (b7 : Bool) w12 => ∃ m : Nat, x6 = m ∧ m < 64 ∧ m.testBit rel.toNat = true ∧ Snd L rel m ∧ n = 6 - cnt m + (if b7 then 1 else 0) ∧ (b7 = false → mP L m = m) ∧ Ext w w12)
    (6 - cnt (2 ^ rel.toNat) + 1) ⟨2 ^ rel.toNat, rfl, h2 _ hb0, bit_base _, hsnd0, rfl, (by intro h; cases h), x1⟩ ?_
  rintro n x6 b7 w12 ⟨m, rfl, hm, hmb, hms, rfl, hmf, x12⟩
  refine cond_intro (fun g7 => ?_) (fun g7 => ⟨m, rfl, IsNd.mk' hR hm hmb hms (hmf g7), x12⟩)
  subst g7
  refine Join.dir (Join.dir (rangeKKI (k1 := .int .i64) (k2 := .bool) (fun i (x6 : Int) (b : Bool) w15 => ∃ m' : Nat, x6 = m' ∧ m' = mP (L.take i) m ∧ Cg m m' b ∧ Ext w w15) (by rw [hsn]; show l.length ≤ 9223372036854775807; omega) ⟨m, rfl, by simp [mP], ⟨fun _ => rfl, fun h => by cases h⟩, x12⟩ ?_ ?_))
  rotate_left
  · rintro x6 b w15 ⟨m', rfl, hm', hcg, x15⟩
    rw [hsn, ← hLlen, List.take_length] at hm'
    have hu := mP_up hm hR
    have hsd := mL_snd (fun _ h => h) hR hms
    rw [← hm'] at hu hsd
    refine ⟨6 - cnt m' + (if b then 1 else 0), ?_, m', rfl, hu.lt, hu.mono _ hmb, hsd, rfl, fun hb => ?_, x15⟩
    · have c1 := cnt_le m'
      have c2 := cnt_le m
      cases b with
      | true => have := hcg.2 rfl; simp; omega
      | false => have := hcg.1 rfl; subst this; simp
    · have := hcg.1 hb
      rw [this] at hm' ⊢
      exact hm'.symm
  rintro i hi x6 b w15 ⟨m', rfl, hm', hcg, x15⟩ K hK
  have hi : i < l.length := by omega
  have hiL : i < L.length := by omega
  refine loadR (hs.ext x15) hi fun w18 b18 x18 => ?_
  have hro := (hs.ok _ (List.getElem_mem hi)).ext (x15.trans x18)
  have hrr := hru _ (List.getElem_mem hi)
  have hLi : L[i] = (l[i]).p := by subst hLL; simp
  have hst : mP (L.take (i + 1)) m = mR (mP (L.take i) m) (l[i]).p := by
    unfold mP
    rw [List.take_succ_eq_append_getElem hiL, List.foldl_append, hLi]; rfl
  have hup : MUp m (mP (L.take i) m) := mP_up hm fun r hr => hR r (List.mem_of_mem_take hr)
  rw [← hm'] at hst hup
  generalize l[i] = r at b18 hro hst hrr
  have hat : ∀ a ∈ r.p.atoms, 0 ≤ a.rel ∧ a.rel ≤ 5 := fun a ha => ⟨(hrr.2.2 a ha).1, (hrr.2.2 a ha).2.1⟩
  have hh0 : 0 ≤ r.head.rel ∧ r.head.rel ≤ 5 := hat r.head.p (by simp [Ru.atoms, DR.p])
  have hbodyR : ∀ b ∈ r.p.body, b.a.rel.toNat < 6 := fun b hb => by have := hat b.a (by simp [Ru.atoms]; exact .inr ⟨b, hb, rfl⟩); omega
  refine ⟨_, b18.cell 0, hh0.1, ?_⟩
  rw [bit0 m' hup.lt r.head.rel.toNat (by omega)]
  refine cond_intro (fun g2 => ?_) (fun g2 => ?_)
  · have g2 : m'.testBit r.p.head.rel.toNat = false := by simpa [DR.p, DF.p] using g2
    exact hK _ _ _ ⟨m', rfl, by rw [hst]; exact (mB_off g2).symm, hcg, x15.trans x18⟩
  have g2 : m'.testBit r.p.head.rel.toNat = true := by simpa [DR.p, DF.p] using g2
  have hbn := hro.bd.len
  have hlen3 : r.body.length ≤ 3 := by have := hrr.1; simpa [DR.p] using this
  refine ⟨r.bs, b18.cell 2, Join.dir (rangeKKI (k1 := .int .i64) (k2 := .bool) (fun j (x6 : Int) (b : Bool) w20 => ∃ m2 : Nat, x6 = m2 ∧ m2 = (r.p.body.take j).foldl (fun m b => ms r.p.head.rel.toNat m b.a.rel.toNat) m' ∧ Cg m m2 b ∧ Ext w18 w20) (by rw [hbn]; show r.body.length ≤ 9223372036854775807; omega) ⟨m', rfl, by simp, hcg, Fr.refl _ _⟩ ?_ ?_)⟩
  rotate_left
  · rintro x6 b w20 ⟨m2, rfl, hm2, hcg2, x20⟩
    have e : r.p.body.take r.bs.n = r.p.body := by rw [hbn]; exact List.take_of_length_le (by simp [DR.p])
    rw [e] at hm2
    exact hK _ _ _ ⟨m2, rfl, by rw [hst, hm2]; rfl, hcg2, (x15.trans x18).trans x20⟩
  rintro j hj x6 b w20 ⟨m2, rfl, hm2, hcg2, x20⟩ K2 hK2
  have hj : j < r.body.length := by omega
  have hjp : j < r.p.body.length := by simpa [DR.p] using hj
  refine loadL (hro.ext x20).bd hj fun w23 b23 x23 => ?_
  have hbp : r.p.body[j] = (r.body[j]).p := by simp [DR.p]
  have hst2 : (r.p.body.take (j + 1)).foldl (fun m b => ms r.p.head.rel.toNat m b.a.rel.toNat) m' = ms r.p.head.rel.toNat m2 (r.body[j]).a.rel.toNat := by
    rw [List.take_succ_eq_append_getElem hjp, List.foldl_append, hbp, ← hm2]; rfl
  have hup2 := mB_up (h := r.p.head.rel.toNat) (body := r.p.body.take j) hup.lt fun b hb => hbodyR b (List.mem_of_mem_take hb)
  have hon := hup2.mono _ g2
  rw [← hm2] at hup2 hon
  have hrel := hat (r.body[j]).p.a (by simp [Ru.atoms, DR.p]; exact .inr ⟨_, List.getElem_mem hj, rfl⟩)
  generalize r.body[j] = c at b23 hst2 hrel
  have hr0 : 0 ≤ c.a.rel := hrel.1
  have hr5 : c.a.rel ≤ 5 := hrel.2
  refine ⟨_, b23.cell 1, hr0, Join.dir ?_⟩
  rw [bit0 m2 hup2.lt c.a.rel.toNat (by omega)]
  have hms' : ms r.p.head.rel.toNat m2 c.a.rel.toNat = m2 ||| 2 ^ c.a.rel.toNat := by unfold ms; rw [if_pos hon]
  refine cond_intro (fun g3 => ?_) (fun g3 => ?_)
  · have g3 : m2.testBit c.a.rel.toNat = false := by simpa using g3
    refine ⟨_, b23.cell 1, hr0, ?_⟩
    rw [bitOr m2 hup2.lt c.a.rel.toNat (by omega)]
    refine hK2 _ _ _ ⟨_, rfl, by rw [hst2, hms'], ⟨(fun h => by cases h), fun _ => ?_⟩, x20.trans x23⟩
    have c1 := cnt_or m2 hup2.lt c.a.rel.toNat (by omega) g3
    have : cnt m ≤ cnt m2 := by
      cases b with
      | true => have := hcg2.2 rfl; omega
      | false => have := hcg2.1 rfl; rw [this]; exact Nat.le_refl _
    omega
  · have g3 : m2.testBit c.a.rel.toNat = true := by simpa using g3
    exact hK2 _ _ _ ⟨m2, rfl, by rw [hst2, hms', or_same m2 hup2.lt c.a.rel.toNat (by omega) g3], hcg2, x20.trans x23⟩
end Go.Proofs.Ytoljknamnkkgcaa
/-
  Printed by a program of this session (wip/tools/vcprint.py): of each Go function the shallow form, and that the calculus comes to it, by the kernel.
-/
namespace Go.Proofs.Ytoljknamnkkgcaa
open Go Go.VC
set_option maxRecDepth 100000

/-- F94: cubeb/cubebref03.code -/
def An94 : An := (.sq .lf (.sq (.sq .lf (.cd (.sq .lf .lf) .lf)) (.sq (.dr [0, 1, 2, 3, 4, 5, 6, 7, 8, 9, 10, 11, 12] [] false none) .lf)))
def S94 (x0 : Int) (s1 : Sl) (R : Value → World → Prop) (w : World) : Prop :=
  cond (((s1.n : Nat) : Int) == (1 : Int)) (
  ∃ p11 : Pt, s1.a = some ⟨p11.b, p11.o, none⟩ ∧ 0 ≤ (0 : Int) ∧ (0 : Int) < ((s1.n : Nat) : Int) ∧ ∃ x12 : Int, World.cell? w ⟨p11.b, (p11.o + Int.toNat (0 : Int) * 1), none⟩ = some (.int .i64 x12) ∧ R (.int .i64 (IntKind.wrap .i64 ((IntKind.wrap .i64 ((IntKind.wrap .i64 (x0 * (42 : Int))) + x12)) - (1 : Int)))) w) (
  Let w.drew fun w1 =>
  ∃ p18 : Pt, s1.a = some ⟨p18.b, p18.o, none⟩ ∧ 0 ≤ (0 : Int) ∧ (0 : Int) < ((s1.n : Nat) : Int) ∧ ∃ x19 : Int, World.cell? w1 ⟨p18.b, (p18.o + Int.toNat (0 : Int) * 1), none⟩ = some (.int .i64 x19) ∧ ∃ p23 : Pt, s1.a = some ⟨p23.b, p23.o, none⟩ ∧ 0 ≤ (1 : Int) ∧ (1 : Int) < ((s1.n : Nat) : Int) ∧ ∃ x24 : Int, World.cell? w1 ⟨p23.b, (p23.o + Int.toNat (1 : Int) * 1), none⟩ = some (.int .i64 x24) ∧ R (.int .i64 (IntKind.wrap .i64 ((IntKind.wrap .i64 ((IntKind.wrap .i64 ((IntKind.wrap .i64 (x0 * (42 : Int))) + (IntKind.wrap .i64 (x19 * (6 : Int))))) + x24)) - (1 : Int)))) w1)
theorem eq94 (x0 : Int) (s1 : Sl) (R : Value → World → Prop) (w : World) : funV Try.prog Try.f94 An94 [(.int .i64 x0), (.slice s1.a s1.n s1.c)] R w = S94 x0 s1 R w := by kernel_rfl
theorem call94 (x0 : Int) (s1 : Sl) {R : Value → World → Prop} {w : World} (h : S94 x0 s1 R w) : Calls Try.prog 94 [(.int .i64 x0), (.slice s1.a s1.n s1.c)].toArray w fun e w' => ∃ v, e = .returned v ∧ R v w' :=
  funV_calls mixed Try.func94 (an := An94) (by rw [eq94]; exact h)

/-- F72: cubeb/cubebref02.Key -/
def An72 : An := (.sq .lf (.sq .lf .lf))
def S72 (x0_0 : Int) (s0_1 : Sl) (R : Value → World → Prop) (w : World) : Prop :=
  Let (w.alloc (.cells [(.int .i64 x0_0), (.slice s0_1.a s0_1.n s0_1.c)].toArray 36)) fun w1 => 
  ∃ x4 : Int, World.cell? w1 ⟨w.heap.size, (0 + 0), none⟩ = some (.int .i64 x4) ∧ ∃ (s5 : Sl) (w2 : World), Sem.run Try.prog (Instr.buildSlice 34 1 [(0, (.int .i64 x4))].toArray) w1 = .ok (.slice s5.a s5.n s5.c) w2 ∧
  ∃ s7 : Sl, World.cell? w2 ⟨w.heap.size, (0 + 1), none⟩ = some (.slice s7.a s7.n s7.c) ∧ ∃ (s8 : Sl) (w3 : World), Sem.run Try.prog (Builtin.append_ #[34, 34] 34 #[(.slice s5.a s5.n s5.c), (.slice s7.a s7.n s7.c)]) w2 = .ok (.slice s8.a s8.n s8.c) w3 ∧
  R (.slice s8.a s8.n s8.c) w3
theorem eq72 (x0_0 : Int) (s0_1 : Sl) (R : Value → World → Prop) (w : World) : funV Try.prog Try.f72 An72 [(.agg [(.int .i64 x0_0), (.slice s0_1.a s0_1.n s0_1.c)].toArray)] R w = S72 x0_0 s0_1 R w := by kernel_rfl
theorem call72 (x0_0 : Int) (s0_1 : Sl) {R : Value → World → Prop} {w : World} (h : S72 x0_0 s0_1 R w) : Calls Try.prog 72 [(.agg [(.int .i64 x0_0), (.slice s0_1.a s0_1.n s0_1.c)].toArray)].toArray w fun e w' => ∃ v, e = .returned v ∧ R v w' :=
  funV_calls mixed Try.func72 (an := An72) (by rw [eq72]; exact h)

/-- F116: cubeb/cubebref02.Before -/
def An116 : An := (.sq .lf (.sq (.sq .lf (.bk [] (.lp [(9, .int .i64)] (.sq .lf (.sq (.cd .lf .lf) (.sq (.bk [] (.sq .lf (.sq (.sq (.rj [] [(25, .bool)]) (.cd (.sq .lf .lf) .lf)) (.sq .lf (.cd (.sq .lf .lf) .lf))))) .lf)))))) (.sq .lf .lf)))
def S116 (s0 : Sl) (s1 : Sl) (R : Value → World → Prop) (w : World) : Prop :=
  Join [] (fun (w1 : World) => R (.bool (decide (((s0.n : Nat) : Int) < ((s1.n : Nat) : Int)))) w1) (fun J =>
  LoopV [(9, .int .i64)] (fun K => K (0 : Int) w) (fun N => fun (x9 : Int) (w2 : World) =>
  cond (decide (x9 < ((s0.n : Nat) : Int))) (
  Join [] (fun (w3 : World) => N (IntKind.wrap .i64 (x9 + (1 : Int))) w3) (fun J_2 =>
  ∃ p12 : Pt, s0.a = some ⟨p12.b, p12.o, none⟩ ∧ 0 ≤ x9 ∧ x9 < ((s0.n : Nat) : Int) ∧ ∃ x13 : Int, World.cell? w2 ⟨p12.b, (p12.o + Int.toNat x9 * 1), none⟩ = some (.int .i64 x13) ∧ Join [(25, .bool)] (fun (b25 : Bool) (w4 : World) => cond b25 (
  R (.bool false) w4) (
  ∃ p29 : Pt, s1.a = some ⟨p29.b, p29.o, none⟩ ∧ 0 ≤ x9 ∧ x9 < ((s1.n : Nat) : Int) ∧ ∃ x30 : Int, World.cell? w4 ⟨p29.b, (p29.o + Int.toNat x9 * 1), none⟩ = some (.int .i64 x30) ∧ cond (decide (x13 < x30)) (
  R (.bool true) w4) (
  J_2 w4))) (fun J_3 =>
  cond (decide (x9 ≥ ((s1.n : Nat) : Int))) (J_3 true w2) (∃ p22 : Pt, s1.a = some ⟨p22.b, p22.o, none⟩ ∧ 0 ≤ x9 ∧ x9 < ((s1.n : Nat) : Int) ∧ ∃ x23 : Int, World.cell? w2 ⟨p22.b, (p22.o + Int.toNat x9 * 1), none⟩ = some (.int .i64 x23) ∧ J_3 (decide (x13 > x23)) w2)))) (
  J w2)))
theorem eq116 (s0 : Sl) (s1 : Sl) (R : Value → World → Prop) (w : World) : funV Try.prog Try.f116 An116 [(.slice s0.a s0.n s0.c), (.slice s1.a s1.n s1.c)] R w = S116 s0 s1 R w := by kernel_rfl
theorem call116 (s0 : Sl) (s1 : Sl) {R : Value → World → Prop} {w : World} (h : S116 s0 s1 R w) : Calls Try.prog 116 [(.slice s0.a s0.n s0.c), (.slice s1.a s1.n s1.c)].toArray w fun e w' => ∃ v, e = .returned v ∧ R v w' :=
  funV_calls mixed Try.func116 (an := An116) (by rw [eq116]; exact h)

/-- F117: cubeb/cubebref02.Equal -/
def An117 : An := (.sq .lf (.sq (.rj [] [(4, .bool)]) .lf))
def S117 (s0 : Sl) (s1 : Sl) (R : Value → World → Prop) (w : World) : Prop :=
  Join [(4, .bool)] (fun (b4 : Bool) (w1 : World) => R (.bool b4) w1) (fun J =>
  Calls Try.prog 116 [(.slice s0.a s0.n s0.c), (.slice s1.a s1.n s1.c)].toArray w (fun e w2 => ∃ b7 : Bool, e = .returned (.bool b7) ∧
  cond (!b7) (Calls Try.prog 116 [(.slice s1.a s1.n s1.c), (.slice s0.a s0.n s0.c)].toArray w2 (fun e_2 w3 => ∃ b12 : Bool, e_2 = .returned (.bool b12) ∧
  J (!b12) w3)) (J false w2)))
theorem eq117 (s0 : Sl) (s1 : Sl) (R : Value → World → Prop) (w : World) : funV Try.prog Try.f117 An117 [(.slice s0.a s0.n s0.c), (.slice s1.a s1.n s1.c)] R w = S117 s0 s1 R w := by kernel_rfl
theorem call117 (s0 : Sl) (s1 : Sl) {R : Value → World → Prop} {w : World} (h : S117 s0 s1 R w) : Calls Try.prog 117 [(.slice s0.a s0.n s0.c), (.slice s1.a s1.n s1.c)].toArray w fun e w' => ∃ v, e = .returned v ∧ R v w' :=
  funV_calls mixed Try.func117 (an := An117) (by rw [eq117]; exact h)

/-- F73: cubeb/cubebref03.Fact -/
def An73 : An := (.sq .lf (.sq (.sq .lf (.sq .lf (.cd (.sq .lf .lf) .lf))) (.sq .lf .lf)))
def S73 (x0 : Int) (R : Value → World → Prop) (w : World) : Prop :=
  Let (w.alloc (.cells (zc Try.prog 36) 36)) fun w1 => 
  (42 : Int) ≠ 0 ∧ cond (decide ((Int.tmod x0 (42 : Int)) ≥ (6 : Int))) (
  (42 : Int) ≠ 0 ∧ (6 : Int) ≠ 0 ∧ (6 : Int) ≠ 0 ∧ ∃ (s15 : Sl) (w2 : World), Sem.run Try.prog (Instr.buildSlice 34 2 [(0, (.int .i64 (IntKind.wrap .i64 (Int.tdiv (Int.tmod x0 (42 : Int)) (6 : Int))))), (1, (.int .i64 (IntKind.wrap .i64 ((Int.tmod (Int.tmod x0 (42 : Int)) (6 : Int)) + (1 : Int)))))].toArray) w1 = .ok (.slice s15.a s15.n s15.c) w2 ∧
  StoreOk w2 w.heap.size 0 [(.int .i64 (IntKind.wrap .i64 (Int.tdiv x0 (42 : Int)))), (.slice s15.a s15.n s15.c)] 2 ∧ Let (put w2 w.heap.size 0 [(.int .i64 (IntKind.wrap .i64 (Int.tdiv x0 (42 : Int)))), (.slice s15.a s15.n s15.c)]) fun w3 => 
  ∃ xr2_0 : Int, ∃ sr2_1 : Sl, rd w3 w.heap.size 0 [(.int .i64 xr2_0), (.slice sr2_1.a sr2_1.n sr2_1.c)] ∧ R (.agg [(.int .i64 xr2_0), (.slice sr2_1.a sr2_1.n sr2_1.c)].toArray) w3) (
  (42 : Int) ≠ 0 ∧ (42 : Int) ≠ 0 ∧ ∃ (s22 : Sl) (w4 : World), Sem.run Try.prog (Instr.buildSlice 34 1 [(0, (.int .i64 (IntKind.wrap .i64 ((Int.tmod x0 (42 : Int)) + (1 : Int)))))].toArray) w1 = .ok (.slice s22.a s22.n s22.c) w4 ∧
  StoreOk w4 w.heap.size 0 [(.int .i64 (IntKind.wrap .i64 (Int.tdiv x0 (42 : Int)))), (.slice s22.a s22.n s22.c)] 2 ∧ Let (put w4 w.heap.size 0 [(.int .i64 (IntKind.wrap .i64 (Int.tdiv x0 (42 : Int)))), (.slice s22.a s22.n s22.c)]) fun w5 => 
  ∃ xr2_0_2 : Int, ∃ sr2_1_2 : Sl, rd w5 w.heap.size 0 [(.int .i64 xr2_0_2), (.slice sr2_1_2.a sr2_1_2.n sr2_1_2.c)] ∧ R (.agg [(.int .i64 xr2_0_2), (.slice sr2_1_2.a sr2_1_2.n sr2_1_2.c)].toArray) w5)
theorem eq73 (x0 : Int) (R : Value → World → Prop) (w : World) : funV Try.prog Try.f73 An73 [(.int .i64 x0)] R w = S73 x0 R w := by kernel_rfl
theorem call73 (x0 : Int) {R : Value → World → Prop} {w : World} (h : S73 x0 R w) : Calls Try.prog 73 [(.int .i64 x0)].toArray w fun e w' => ∃ v, e = .returned v ∧ R v w' :=
  funV_calls mixed Try.func73 (an := An73) (by rw [eq73]; exact h)

/-- F27: cubeb/cubebref03.List -/
def An27 : An := (.sq .lf (.sq .lf (.sq (.sq .lf (.bk [(3, .slice)] (.lp [(3, .slice), (10, .int .i64)] (.sq .lf (.sq (.cd .lf .lf) (.sq (.bk [(3, .slice)] (.sq .lf (.sq .lf (.cj [(3, .slice)] .lf .lf)))) .lf)))))) (.sq .lf (.sq (.sq .lf (.bk [(6, .slice)] (.lp [(6, .slice), (23, .int .i64)] (.sq .lf (.sq (.cd .lf .lf) (.sq (.bk [(6, .slice)] (.sq .lf (.dr [0, 1, 2, 3, 4, 5, 6, 7, 8, 9] [] true none))) .lf)))))) (.sq .lf .lf))))))
def S27 (cs0 : List Value) (R : Value → World → Prop) (w : World) : Prop :=
  Let (w.alloc (.cells cs0.toArray 43)) fun w1 => 
  ∃ cs9 : List Value, cs9.length = 252 ∧ rd w1 w.heap.size 0 cs9 ∧ Join [(3, .slice)] (fun (s3 : Sl) (w2 : World) => Join [(6, .slice)] (fun (s6 : Sl) (w3 : World) => R (.slice s6.a s6.n s6.c) w3) (fun J =>
  LoopV [(6, .slice), (23, .int .i64)] (fun K => K ⟨none, 0, 0⟩ (0 : Int) w2) (fun N => fun (s6_2 : Sl) (x23 : Int) (w4 : World) =>
  cond (decide (x23 < ((s3.n : Nat) : Int))) (
  Join [(6, .slice)] (fun (s6_3 : Sl) (w5 : World) => N ⟨s6_3.a, s6_3.n, s6_3.c⟩ (IntKind.wrap .i64 (x23 + (1 : Int))) w5) (fun J_2 =>
  ∃ p25 : Pt, s3.a = some ⟨p25.b, p25.o, none⟩ ∧ 0 ≤ x23 ∧ x23 < ((s3.n : Nat) : Int) ∧ ∃ s26 : Sl, World.cell? w4 ⟨p25.b, (p25.o + Int.toNat x23 * 1), none⟩ = some (.slice s26.a s26.n s26.c) ∧ ∃ S1 : World → Prop, S1 w4.drew ∧ Let w4.drew fun w6 =>
  ∃ p29 : Pt, s26.a = some ⟨p29.b, p29.o, none⟩ ∧ 0 ≤ (0 : Int) ∧ (0 : Int) < ((s26.n : Nat) : Int) ∧ ∃ x30 : Int, (∀ u, S1 u → World.cell? u ⟨p29.b, (p29.o + Int.toNat (0 : Int) * 1), none⟩ = some (.int .i64 x30)) ∧ 0 ≤ (1 : Int) ∧ (1 : Int) ≤ ((s26.n : Nat) : Int) ∧ ∃ (s34 : Sl) (w7 : World), Sem.run Try.prog (Instr.buildSlice 23 1 [(0, (.agg [(.int .i64 x30), (.slice (subA s26.a s26.c (Int.toNat (1 : Int)) 1) (s26.n - (Int.toNat (1 : Int))) (s26.c - (Int.toNat (1 : Int))))].toArray))].toArray) w6 = .ok (.slice s34.a s34.n s34.c) w7 ∧
  S1 w7 ∧ ∃ (s35 : Sl) (w8 : World), Sem.run Try.prog (Builtin.append_ #[23, 23] 23 #[(.slice s6_2.a s6_2.n s6_2.c), (.slice s34.a s34.n s34.c)]) w7 = .ok (.slice s35.a s35.n s35.c) w8 ∧
  S1 w8 ∧ J_2 ⟨s35.a, s35.n, s35.c⟩ w8)) (
  J ⟨s6_2.a, s6_2.n, s6_2.c⟩ w4)))) (fun J_3 =>
  LoopV [(3, .slice), (10, .int .i64)] (fun K => K ⟨none, 0, 0⟩ (0 : Int) w1) (fun N_2 => fun (s3_2 : Sl) (x10 : Int) (w9 : World) =>
  cond (decide (x10 < (252 : Int))) (
  Join [(3, .slice)] (fun (s3_3 : Sl) (w10 : World) => N_2 ⟨s3_3.a, s3_3.n, s3_3.c⟩ (IntKind.wrap .i64 (x10 + (1 : Int))) w10) (fun J_4 =>
  0 ≤ x10 ∧ x10 < ((252 : Nat) : Int) ∧ ∃ b13 : Bool, (cs9 : List Value)[Int.toNat x10]? = some (.bool b13) ∧ Join [(3, .slice)] (fun (s3_4 : Sl) (w11 : World) => J_4 ⟨s3_4.a, s3_4.n, s3_4.c⟩ w11) (fun J_5 =>
  cond b13 (
  Calls Try.prog 73 [(.int .i64 x10)].toArray w9 (fun e w12 => ∃ x17_0 : Int, ∃ s17_1 : Sl, e = .returned (.agg [(.int .i64 x17_0), (.slice s17_1.a s17_1.n s17_1.c)].toArray) ∧
  Calls Try.prog 72 [(.agg [(.int .i64 x17_0), (.slice s17_1.a s17_1.n s17_1.c)].toArray)].toArray w12 (fun e_2 w13 => ∃ s18 : Sl, e_2 = .returned (.slice s18.a s18.n s18.c) ∧
  Calls Try.prog 71 [(.slice s3_2.a s3_2.n s3_2.c), (.slice s18.a s18.n s18.c)].toArray w13 (fun e_3 w14 => ∃ s19 : Sl, e_3 = .returned (.slice s19.a s19.n s19.c) ∧
  J_5 ⟨s19.a, s19.n, s19.c⟩ w14)))) (
  J_5 ⟨s3_2.a, s3_2.n, s3_2.c⟩ w9)))) (
  J_3 ⟨s3_2.a, s3_2.n, s3_2.c⟩ w9)))
theorem eq27 (cs0 : List Value) (R : Value → World → Prop) (w : World) : funV Try.prog Try.f27 An27 [(.agg cs0.toArray)] R w = S27 cs0 R w := by kernel_rfl
theorem call27 (cs0 : List Value) {R : Value → World → Prop} {w : World} (h : S27 cs0 R w) : Calls Try.prog 27 [(.agg cs0.toArray)].toArray w fun e w' => ∃ v, e = .returned v ∧ R v w' :=
  funV_calls mixed Try.func27 (an := An27) (by rw [eq27]; exact h)

/-- F31: cubeb/cubebref03.Ground -/
def An31 : An := (.sq .lf (.sq (.sq .lf (.bk [] (.lp [(8, .int .i64)] (.sq .lf (.sq (.cd .lf .lf) (.sq (.bk [] (.sq .lf (.sq (.rj [] [(17, .bool)]) (.cd (.sq .lf .lf) .lf)))) .lf)))))) (.sq (.rj [] [(2, .bool)]) .lf)))
def S31 (x0_0 : Int) (s0_1 : Sl) (R : Value → World → Prop) (w : World) : Prop :=
  Let (w.alloc (.cells [(.int .i64 x0_0), (.slice s0_1.a s0_1.n s0_1.c)].toArray 36)) fun w1 => 
  ∃ s6 : Sl, World.cell? w1 ⟨w.heap.size, (0 + 1), none⟩ = some (.slice s6.a s6.n s6.c) ∧ Join [] (fun (w2 : World) => Join [(2, .bool)] (fun (b2 : Bool) (w3 : World) => R (.bool b2) w3) (fun J =>
  ∃ x20 : Int, World.cell? w2 ⟨w.heap.size, (0 + 0), none⟩ = some (.int .i64 x20) ∧ cond (decide (x20 ≥ (0 : Int))) (∃ x24 : Int, World.cell? w2 ⟨w.heap.size, (0 + 0), none⟩ = some (.int .i64 x24) ∧ cond (decide (x24 ≤ (5 : Int))) (∃ s29 : Sl, World.cell? w2 ⟨w.heap.size, (0 + 1), none⟩ = some (.slice s29.a s29.n s29.c) ∧ cond (decide (((s29.n : Nat) : Int) ≥ (1 : Int))) (∃ s35 : Sl, World.cell? w2 ⟨w.heap.size, (0 + 1), none⟩ = some (.slice s35.a s35.n s35.c) ∧ J (decide (((s35.n : Nat) : Int) ≤ (2 : Int))) w2) (J false w2)) (J false w2)) (J false w2))) (fun J_2 =>
  LoopV [(8, .int .i64)] (fun K => K (0 : Int) w1) (fun N => fun (x8 : Int) (w4 : World) =>
  cond (decide (x8 < ((s6.n : Nat) : Int))) (
  Join [] (fun (w5 : World) => N (IntKind.wrap .i64 (x8 + (1 : Int))) w5) (fun J_3 =>
  ∃ p10 : Pt, s6.a = some ⟨p10.b, p10.o, none⟩ ∧ 0 ≤ x8 ∧ x8 < ((s6.n : Nat) : Int) ∧ ∃ x11 : Int, World.cell? w4 ⟨p10.b, (p10.o + Int.toNat x8 * 1), none⟩ = some (.int .i64 x11) ∧ Join [(17, .bool)] (fun (b17 : Bool) (w6 : World) => cond b17 (
  R (.bool false) w6) (
  J_3 w6)) (fun J_4 =>
  cond (decide (x11 < (1 : Int))) (J_4 true w4) (J_4 (decide (x11 > (6 : Int))) w4)))) (
  J_2 w4)))
theorem eq31 (x0_0 : Int) (s0_1 : Sl) (R : Value → World → Prop) (w : World) : funV Try.prog Try.f31 An31 [(.agg [(.int .i64 x0_0), (.slice s0_1.a s0_1.n s0_1.c)].toArray)] R w = S31 x0_0 s0_1 R w := by kernel_rfl
theorem call31 (x0_0 : Int) (s0_1 : Sl) {R : Value → World → Prop} {w : World} (h : S31 x0_0 s0_1 R w) : Calls Try.prog 31 [(.agg [(.int .i64 x0_0), (.slice s0_1.a s0_1.n s0_1.c)].toArray)].toArray w fun e w' => ∃ v, e = .returned v ∧ R v w' :=
  funV_calls mixed Try.func31 (an := An31) (by rw [eq31]; exact h)

/-- F62: cubeb/cubebref03.fits -/
def An62 : An := (.sq .lf (.sq (.sq .lf (.bk [] (.lp [(8, .int .i64)] (.sq .lf (.sq (.cd .lf .lf) (.sq (.bk [] (.sq .lf (.sq (.rj [] [(17, .bool)]) (.cd (.sq .lf .lf) .lf)))) .lf)))))) (.sq (.rj [] [(2, .bool)]) .lf)))
def S62 (x0_0 : Int) (s0_1 : Sl) (R : Value → World → Prop) (w : World) : Prop :=
  Let (w.alloc (.cells [(.int .i64 x0_0), (.slice s0_1.a s0_1.n s0_1.c)].toArray 91)) fun w1 => 
  ∃ s6 : Sl, World.cell? w1 ⟨w.heap.size, (0 + 1), none⟩ = some (.slice s6.a s6.n s6.c) ∧ Join [] (fun (w2 : World) => Join [(2, .bool)] (fun (b2 : Bool) (w3 : World) => R (.bool b2) w3) (fun J =>
  ∃ x20 : Int, World.cell? w2 ⟨w.heap.size, (0 + 0), none⟩ = some (.int .i64 x20) ∧ cond (decide (x20 ≥ (0 : Int))) (∃ x24 : Int, World.cell? w2 ⟨w.heap.size, (0 + 0), none⟩ = some (.int .i64 x24) ∧ cond (decide (x24 ≤ (5 : Int))) (∃ s29 : Sl, World.cell? w2 ⟨w.heap.size, (0 + 1), none⟩ = some (.slice s29.a s29.n s29.c) ∧ cond (decide (((s29.n : Nat) : Int) ≥ (1 : Int))) (∃ s35 : Sl, World.cell? w2 ⟨w.heap.size, (0 + 1), none⟩ = some (.slice s35.a s35.n s35.c) ∧ J (decide (((s35.n : Nat) : Int) ≤ (2 : Int))) w2) (J false w2)) (J false w2)) (J false w2))) (fun J_2 =>
  LoopV [(8, .int .i64)] (fun K => K (0 : Int) w1) (fun N => fun (x8 : Int) (w4 : World) =>
  cond (decide (x8 < ((s6.n : Nat) : Int))) (
  Join [] (fun (w5 : World) => N (IntKind.wrap .i64 (x8 + (1 : Int))) w5) (fun J_3 =>
  ∃ p10 : Pt, s6.a = some ⟨p10.b, p10.o, none⟩ ∧ 0 ≤ x8 ∧ x8 < ((s6.n : Nat) : Int) ∧ ∃ x11 : Int, World.cell? w4 ⟨p10.b, (p10.o + Int.toNat x8 * 1), none⟩ = some (.int .i64 x11) ∧ Join [(17, .bool)] (fun (b17 : Bool) (w6 : World) => cond b17 (
  R (.bool false) w6) (
  J_3 w6)) (fun J_4 =>
  cond (decide (x11 < (-6 : Int))) (J_4 true w4) (J_4 (decide (x11 > (7 : Int))) w4)))) (
  J_2 w4)))
theorem eq62 (x0_0 : Int) (s0_1 : Sl) (R : Value → World → Prop) (w : World) : funV Try.prog Try.f62 An62 [(.agg [(.int .i64 x0_0), (.slice s0_1.a s0_1.n s0_1.c)].toArray)] R w = S62 x0_0 s0_1 R w := by kernel_rfl
theorem call62 (x0_0 : Int) (s0_1 : Sl) {R : Value → World → Prop} {w : World} (h : S62 x0_0 s0_1 R w) : Calls Try.prog 62 [(.agg [(.int .i64 x0_0), (.slice s0_1.a s0_1.n s0_1.c)].toArray)].toArray w fun e w' => ∃ v, e = .returned v ∧ R v w' :=
  funV_calls mixed Try.func62 (an := An62) (by rw [eq62]; exact h)

/-- F63: cubeb/cubebref02.Vars -/
def An63 : An := (.sq .lf (.sq .lf (.sq (.sq .lf (.bk [(3, .int .i64)] (.lp [(3, .int .i64), (9, .int .i64)] (.sq .lf (.sq (.cd .lf .lf) (.sq (.bk [(3, .int .i64)] (.sq .lf (.sq .lf (.cj [(3, .int .i64)] .lf .lf)))) .lf)))))) (.sq .lf .lf))))
def S63 (x0_0 : Int) (s0_1 : Sl) (R : Value → World → Prop) (w : World) : Prop :=
  Let (w.alloc (.cells [(.int .i64 x0_0), (.slice s0_1.a s0_1.n s0_1.c)].toArray 91)) fun w1 => 
  ∃ s7 : Sl, World.cell? w1 ⟨w.heap.size, (0 + 1), none⟩ = some (.slice s7.a s7.n s7.c) ∧ Join [(3, .int .i64)] (fun (x3 : Int) (w2 : World) => R (.int .i64 x3) w2) (fun J =>
  LoopV [(3, .int .i64), (9, .int .i64)] (fun K => K (0 : Int) (0 : Int) w1) (fun N => fun (x3_2 : Int) (x9 : Int) (w3 : World) =>
  cond (decide (x9 < ((s7.n : Nat) : Int))) (
  Join [(3, .int .i64)] (fun (x3_3 : Int) (w4 : World) => N x3_3 (IntKind.wrap .i64 (x9 + (1 : Int))) w4) (fun J_2 =>
  ∃ p11 : Pt, s7.a = some ⟨p11.b, p11.o, none⟩ ∧ 0 ≤ x9 ∧ x9 < ((s7.n : Nat) : Int) ∧ ∃ x12 : Int, World.cell? w3 ⟨p11.b, (p11.o + Int.toNat x9 * 1), none⟩ = some (.int .i64 x12) ∧ Join [(3, .int .i64)] (fun (x3_4 : Int) (w5 : World) => J_2 x3_4 w5) (fun J_3 =>
  cond (decide (x12 ≥ (0 : Int))) (
  0 ≤ x12 ∧ J_3 (bitsI .or .i64 x3_2 (IntKind.wrap .i64 ((1 : Int) * 2 ^ (min (Int.toNat x12) (IntKind.bits .i64))))) w3) (
  J_3 x3_2 w3)))) (
  J x3_2 w3)))
theorem eq63 (x0_0 : Int) (s0_1 : Sl) (R : Value → World → Prop) (w : World) : funV Try.prog Try.f63 An63 [(.agg [(.int .i64 x0_0), (.slice s0_1.a s0_1.n s0_1.c)].toArray)] R w = S63 x0_0 s0_1 R w := by kernel_rfl
theorem call63 (x0_0 : Int) (s0_1 : Sl) {R : Value → World → Prop} {w : World} (h : S63 x0_0 s0_1 R w) : Calls Try.prog 63 [(.agg [(.int .i64 x0_0), (.slice s0_1.a s0_1.n s0_1.c)].toArray)].toArray w fun e w' => ∃ v, e = .returned v ∧ R v w' :=
  funV_calls mixed Try.func63 (an := An63) (by rw [eq63]; exact h)

/-- F22: cubeb/cubebref03.Valid -/
def An22 : An := (.sq .lf (.sq (.sq (.rj [] [(25, .bool)]) (.cd (.sq .lf .lf) .lf)) (.sq .lf (.sq (.sq .lf (.bk [(5, .slice)] (.lp [(5, .slice), (28, .int .i64)] (.sq .lf (.sq (.cd .lf .lf) (.sq (.bk [(5, .slice)] (.sq .lf (.sq (.sq .lf (.cd (.sq .lf .lf) .lf)) .lf))) .lf)))))) (.sq (.sq .lf (.bk [(5, .slice)] (.lp [(5, .slice), (47, .int .i64)] (.sq .lf (.sq (.cd .lf .lf) (.sq (.bk [(5, .slice)] (.sq .lf (.sq (.sq (.rj [] [(60, .bool)]) (.cd (.sq .lf .lf) .lf)) (.sq .lf (.sq .lf (.sq (.sq .lf (.bk [(5, .slice), (10, .int .i64), (11, .int .i64)] (.lp [(5, .slice), (10, .int .i64), (11, .int .i64), (78, .int .i64)] (.sq .lf (.sq (.cd .lf .lf) (.sq (.bk [(5, .slice), (10, .int .i64), (11, .int .i64)] (.sq .lf (.sq (.sq .lf (.cd (.sq .lf .lf) .lf)) (.sq .lf (.sq .lf (.sq .lf (.cj [(11, .int .i64)] .lf .lf))))))) .lf)))))) (.sq .lf (.cd (.sq .lf .lf) .lf)))))))) .lf)))))) (.sq (.sq .lf (.bk [] (.lp [(117, .int .i64)] (.sq .lf (.sq (.cd .lf .lf) (.sq (.bk [] (.sq .lf (.sq .lf (.bk [] (.lp [(123, .int .i64)] (.sq .lf (.sq (.cd .lf .lf) (.sq (.bk [] (.sq .lf (.sq (.rj [] [(138, .bool)]) (.cd (.sq .lf .lf) .lf)))) .lf)))))))) .lf)))))) (.sq .lf .lf)))))))
def S22 (s0 : Sl) (s1 : Sl) (R : Value → World → Prop) (w : World) : Prop :=
  Join [(25, .bool)] (fun (b25 : Bool) (w1 : World) => cond b25 (
  R (.bool false) w1) (
  Join [(5, .slice)] (fun (s5 : Sl) (w2 : World) => Join [(5, .slice)] (fun (s5_2 : Sl) (w3 : World) => Join [] (fun (w4 : World) => R (.bool true) w4) (fun J =>
  LoopV [(117, .int .i64)] (fun K => K (0 : Int) w3) (fun N => fun (x117 : Int) (w5 : World) =>
  cond (decide (x117 < ((s5_2.n : Nat) : Int))) (
  Join [] (fun (w6 : World) => N (IntKind.wrap .i64 (x117 + (1 : Int))) w6) (fun J_2 =>
  ∃ p119 : Pt, s5_2.a = some ⟨p119.b, p119.o, none⟩ ∧ 0 ≤ x117 ∧ x117 < ((s5_2.n : Nat) : Int) ∧ ∃ x120_0 : Int, ∃ x120_1 : Int, rd w5 p119.b (p119.o + Int.toNat x117 * 2) [(.int .i64 x120_0), (.int .i64 x120_1)] ∧ Let (w5.alloc (.cells (zc Try.prog 114) 114)) fun w7 => 
  StoreOk w7 w5.heap.size 0 [(.int .i64 x120_0), (.int .i64 x120_1)] 2 ∧ Let (put w7 w5.heap.size 0 [(.int .i64 x120_0), (.int .i64 x120_1)]) fun w8 => 
  Join [] (fun (w9 : World) => J_2 w9) (fun J_3 =>
  LoopV [(123, .int .i64)] (fun K => K (0 : Int) w8) (fun N_2 => fun (x123 : Int) (w10 : World) =>
  cond (decide (x123 < ((s5_2.n : Nat) : Int))) (
  Join [] (fun (w11 : World) => N_2 (IntKind.wrap .i64 (x123 + (1 : Int))) w11) (fun J_4 =>
  ∃ p125 : Pt, s5_2.a = some ⟨p125.b, p125.o, none⟩ ∧ 0 ≤ x123 ∧ x123 < ((s5_2.n : Nat) : Int) ∧ ∃ x126_0 : Int, ∃ x126_1 : Int, rd w10 p125.b (p125.o + Int.toNat x123 * 2) [(.int .i64 x126_0), (.int .i64 x126_1)] ∧ Let (w10.alloc (.cells (zc Try.prog 114) 114)) fun w12 => 
  StoreOk w12 w10.heap.size 0 [(.int .i64 x126_0), (.int .i64 x126_1)] 2 ∧ Let (put w12 w10.heap.size 0 [(.int .i64 x126_0), (.int .i64 x126_1)]) fun w13 => 
  Join [(138, .bool)] (fun (b138 : Bool) (w14 : World) => cond b138 (
  R (.bool false) w14) (
  J_4 w14)) (fun J_5 =>
  0 ≤ (0 : Int) ∧ (0 : Int) < ((2 : Nat) : Int) ∧ ∃ x128 : Int, World.cell? w13 ⟨w5.heap.size, (0 + Int.toNat (0 : Int) * 1), none⟩ = some (.int .i64 x128) ∧ 0 ≤ (0 : Int) ∧ (0 : Int) < ((2 : Nat) : Int) ∧ ∃ x130 : Int, World.cell? w13 ⟨w10.heap.size, (0 + Int.toNat (0 : Int) * 1), none⟩ = some (.int .i64 x130) ∧ cond (x128 == x130) (0 ≤ (1 : Int) ∧ (1 : Int) < ((2 : Nat) : Int) ∧ ∃ x134 : Int, World.cell? w13 ⟨w5.heap.size, (0 + Int.toNat (1 : Int) * 1), none⟩ = some (.int .i64 x134) ∧ 0 ≤ (1 : Int) ∧ (1 : Int) < ((2 : Nat) : Int) ∧ ∃ x136 : Int, World.cell? w13 ⟨w10.heap.size, (0 + Int.toNat (1 : Int) * 1), none⟩ = some (.int .i64 x136) ∧ J_5 (x134 != x136) w13) (J_5 false w13)))) (
  J_3 w10))))) (
  J w5)))) (fun J_6 =>
  LoopV [(5, .slice), (47, .int .i64)] (fun K => K ⟨s5.a, s5.n, s5.c⟩ (0 : Int) w2) (fun N_3 => fun (s5_3 : Sl) (x47 : Int) (w15 : World) =>
  cond (decide (x47 < ((s0.n : Nat) : Int))) (
  Join [(5, .slice)] (fun (s5_4 : Sl) (w16 : World) => N_3 ⟨s5_4.a, s5_4.n, s5_4.c⟩ (IntKind.wrap .i64 (x47 + (1 : Int))) w16) (fun J_7 =>
  ∃ p49 : Pt, s0.a = some ⟨p49.b, p49.o, none⟩ ∧ 0 ≤ x47 ∧ x47 < ((s0.n : Nat) : Int) ∧ ∃ x50_0 : Int, ∃ s50_1 : Sl, ∃ s50_2 : Sl, rd w15 p49.b (p49.o + Int.toNat x47 * 3) [(.int .i64 x50_0), (.slice s50_1.a s50_1.n s50_1.c), (.slice s50_2.a s50_2.n s50_2.c)] ∧ Let (w15.alloc (.cells (zc Try.prog 94) 94)) fun w17 => 
  StoreOk w17 w15.heap.size 0 [(.int .i64 x50_0), (.slice s50_1.a s50_1.n s50_1.c), (.slice s50_2.a s50_2.n s50_2.c)] 3 ∧ Let (put w17 w15.heap.size 0 [(.int .i64 x50_0), (.slice s50_1.a s50_1.n s50_1.c), (.slice s50_2.a s50_2.n s50_2.c)]) fun w18 => 
  Join [(60, .bool)] (fun (b60 : Bool) (w19 : World) => cond b60 (
  R (.bool false) w19) (
  ∃ x64 : Int, World.cell? w19 ⟨w15.heap.size, ((0 + 0) + 0), none⟩ = some (.int .i64 x64) ∧ ∃ s67 : Sl, World.cell? w19 ⟨w15.heap.size, ((0 + 0) + 1), none⟩ = some (.slice s67.a s67.n s67.c) ∧ ∃ (s70 : Sl) (w20 : World), Sem.run Try.prog (Instr.buildSlice 113 1 [(0, (.agg [(.int .i64 x64), (.int .i64 ((s67.n : Nat) : Int))].toArray))].toArray) w19 = .ok (.slice s70.a s70.n s70.c) w20 ∧
  ∃ (s71 : Sl) (w21 : World), Sem.run Try.prog (Builtin.append_ #[113, 113] 113 #[(.slice s5_3.a s5_3.n s5_3.c), (.slice s70.a s70.n s70.c)]) w20 = .ok (.slice s71.a s71.n s71.c) w21 ∧
  ∃ x73_0 : Int, ∃ s73_1 : Sl, rd w21 w15.heap.size (0 + 0) [(.int .i64 x73_0), (.slice s73_1.a s73_1.n s73_1.c)] ∧ Calls Try.prog 63 [(.agg [(.int .i64 x73_0), (.slice s73_1.a s73_1.n s73_1.c)].toArray)].toArray w21 (fun e w22 => ∃ x74 : Int, e = .returned (.int .i64 x74) ∧
  ∃ s76 : Sl, World.cell? w22 ⟨w15.heap.size, (0 + 2), none⟩ = some (.slice s76.a s76.n s76.c) ∧ Join [(5, .slice), (10, .int .i64), (11, .int .i64)] (fun (s5_5 : Sl) (x10 : Int) (x11 : Int) (w23 : World) => cond (x10 != x11) (
  R (.bool false) w23) (
  J_7 ⟨s5_5.a, s5_5.n, s5_5.c⟩ w23)) (fun J_8 =>
  LoopV [(5, .slice), (10, .int .i64), (11, .int .i64), (78, .int .i64)] (fun K => K ⟨s71.a, s71.n, s71.c⟩ x74 (0 : Int) (0 : Int) w22) (fun N_4 => fun (s5_6 : Sl) (x10_2 : Int) (x11_2 : Int) (x78 : Int) (w24 : World) =>
  cond (decide (x78 < ((s76.n : Nat) : Int))) (
  Join [(5, .slice), (10, .int .i64), (11, .int .i64)] (fun (s5_7 : Sl) (x10_3 : Int) (x11_3 : Int) (w25 : World) => N_4 ⟨s5_7.a, s5_7.n, s5_7.c⟩ x10_3 x11_3 (IntKind.wrap .i64 (x78 + (1 : Int))) w25) (fun J_9 =>
  ∃ p80 : Pt, s76.a = some ⟨p80.b, p80.o, none⟩ ∧ 0 ≤ x78 ∧ x78 < ((s76.n : Nat) : Int) ∧ ∃ b81_0 : Bool, ∃ x81_1 : Int, ∃ s81_2 : Sl, rd w24 p80.b (p80.o + Int.toNat x78 * 3) [(.bool b81_0), (.int .i64 x81_1), (.slice s81_2.a s81_2.n s81_2.c)] ∧ Let (w24.alloc (.cells (zc Try.prog 96) 96)) fun w26 => 
  StoreOk w26 w24.heap.size 0 [(.bool b81_0), (.int .i64 x81_1), (.slice s81_2.a s81_2.n s81_2.c)] 3 ∧ Let (put w26 w24.heap.size 0 [(.bool b81_0), (.int .i64 x81_1), (.slice s81_2.a s81_2.n s81_2.c)]) fun w27 => 
  ∃ x83_0 : Int, ∃ s83_1 : Sl, rd w27 w24.heap.size (0 + 1) [(.int .i64 x83_0), (.slice s83_1.a s83_1.n s83_1.c)] ∧ Calls Try.prog 62 [(.agg [(.int .i64 x83_0), (.slice s83_1.a s83_1.n s83_1.c)].toArray)].toArray w27 (fun e_2 w28 => ∃ b84 : Bool, e_2 = .returned (.bool b84) ∧
  cond (!b84) (
  R (.bool false) w28) (
  ∃ x89 : Int, World.cell? w28 ⟨w24.heap.size, ((0 + 1) + 0), none⟩ = some (.int .i64 x89) ∧ ∃ s92 : Sl, World.cell? w28 ⟨w24.heap.size, ((0 + 1) + 1), none⟩ = some (.slice s92.a s92.n s92.c) ∧ ∃ (s95 : Sl) (w29 : World), Sem.run Try.prog (Instr.buildSlice 113 1 [(0, (.agg [(.int .i64 x89), (.int .i64 ((s92.n : Nat) : Int))].toArray))].toArray) w28 = .ok (.slice s95.a s95.n s95.c) w29 ∧
  ∃ (s96 : Sl) (w30 : World), Sem.run Try.prog (Builtin.append_ #[113, 113] 113 #[(.slice s5_6.a s5_6.n s5_6.c), (.slice s95.a s95.n s95.c)]) w29 = .ok (.slice s96.a s96.n s96.c) w30 ∧
  ∃ x99_0 : Int, ∃ s99_1 : Sl, rd w30 w24.heap.size (0 + 1) [(.int .i64 x99_0), (.slice s99_1.a s99_1.n s99_1.c)] ∧ Calls Try.prog 63 [(.agg [(.int .i64 x99_0), (.slice s99_1.a s99_1.n s99_1.c)].toArray)].toArray w30 (fun e_3 w31 => ∃ x100 : Int, e_3 = .returned (.int .i64 x100) ∧
  ∃ b103 : Bool, World.cell? w31 ⟨w24.heap.size, (0 + 0), none⟩ = some (.bool b103) ∧ Join [(11, .int .i64)] (fun (x11_4 : Int) (w32 : World) => J_9 ⟨s96.a, s96.n, s96.c⟩ (bitsI .or .i64 x10_2 x100) x11_4 w32) (fun J_10 =>
  cond (!b103) (
  ∃ x107_0 : Int, ∃ s107_1 : Sl, rd w31 w24.heap.size (0 + 1) [(.int .i64 x107_0), (.slice s107_1.a s107_1.n s107_1.c)] ∧ Calls Try.prog 63 [(.agg [(.int .i64 x107_0), (.slice s107_1.a s107_1.n s107_1.c)].toArray)].toArray w31 (fun e_4 w33 => ∃ x108 : Int, e_4 = .returned (.int .i64 x108) ∧
  J_10 (bitsI .or .i64 x11_2 x108) w33)) (
  J_10 x11_2 w31))))))) (
  J_8 ⟨s5_6.a, s5_6.n, s5_6.c⟩ x10_2 x11_2 w24)))))) (fun J_11 =>
  ∃ x52_0 : Int, ∃ s52_1 : Sl, rd w18 w15.heap.size (0 + 0) [(.int .i64 x52_0), (.slice s52_1.a s52_1.n s52_1.c)] ∧ Calls Try.prog 62 [(.agg [(.int .i64 x52_0), (.slice s52_1.a s52_1.n s52_1.c)].toArray)].toArray w18 (fun e_5 w34 => ∃ b53 : Bool, e_5 = .returned (.bool b53) ∧
  cond (!b53) (J_11 true w34) (∃ s57 : Sl, World.cell? w34 ⟨w15.heap.size, (0 + 2), none⟩ = some (.slice s57.a s57.n s57.c) ∧ J_11 (decide (((s57.n : Nat) : Int) > (3 : Int))) w34))))) (
  J_6 ⟨s5_3.a, s5_3.n, s5_3.c⟩ w15)))) (fun J_12 =>
  LoopV [(5, .slice), (28, .int .i64)] (fun K => K ⟨none, 0, 0⟩ (0 : Int) w1) (fun N_5 => fun (s5_8 : Sl) (x28 : Int) (w35 : World) =>
  cond (decide (x28 < ((s1.n : Nat) : Int))) (
  Join [(5, .slice)] (fun (s5_9 : Sl) (w36 : World) => N_5 ⟨s5_9.a, s5_9.n, s5_9.c⟩ (IntKind.wrap .i64 (x28 + (1 : Int))) w36) (fun J_13 =>
  ∃ p30 : Pt, s1.a = some ⟨p30.b, p30.o, none⟩ ∧ 0 ≤ x28 ∧ x28 < ((s1.n : Nat) : Int) ∧ ∃ x31_0 : Int, ∃ s31_1 : Sl, rd w35 p30.b (p30.o + Int.toNat x28 * 2) [(.int .i64 x31_0), (.slice s31_1.a s31_1.n s31_1.c)] ∧ Let (w35.alloc (.cells (zc Try.prog 36) 36)) fun w37 => 
  StoreOk w37 w35.heap.size 0 [(.int .i64 x31_0), (.slice s31_1.a s31_1.n s31_1.c)] 2 ∧ Let (put w37 w35.heap.size 0 [(.int .i64 x31_0), (.slice s31_1.a s31_1.n s31_1.c)]) fun w38 => 
  ∃ x32_0 : Int, ∃ s32_1 : Sl, rd w38 w35.heap.size 0 [(.int .i64 x32_0), (.slice s32_1.a s32_1.n s32_1.c)] ∧ Calls Try.prog 31 [(.agg [(.int .i64 x32_0), (.slice s32_1.a s32_1.n s32_1.c)].toArray)].toArray w38 (fun e_6 w39 => ∃ b33 : Bool, e_6 = .returned (.bool b33) ∧
  cond (!b33) (
  R (.bool false) w39) (
  ∃ x37 : Int, World.cell? w39 ⟨w35.heap.size, (0 + 0), none⟩ = some (.int .i64 x37) ∧ ∃ s39 : Sl, World.cell? w39 ⟨w35.heap.size, (0 + 1), none⟩ = some (.slice s39.a s39.n s39.c) ∧ ∃ (s42 : Sl) (w40 : World), Sem.run Try.prog (Instr.buildSlice 113 1 [(0, (.agg [(.int .i64 x37), (.int .i64 ((s39.n : Nat) : Int))].toArray))].toArray) w39 = .ok (.slice s42.a s42.n s42.c) w40 ∧
  ∃ (s43 : Sl) (w41 : World), Sem.run Try.prog (Builtin.append_ #[113, 113] 113 #[(.slice s5_8.a s5_8.n s5_8.c), (.slice s42.a s42.n s42.c)]) w40 = .ok (.slice s43.a s43.n s43.c) w41 ∧
  J_13 ⟨s43.a, s43.n, s43.c⟩ w41)))) (
  J_12 ⟨s5_8.a, s5_8.n, s5_8.c⟩ w35))))) (fun J_14 =>
  cond (decide (((s0.n : Nat) : Int) > (10 : Int))) (J_14 true w) (J_14 (decide (((s1.n : Nat) : Int) > (20 : Int))) w))
theorem eq22 (s0 : Sl) (s1 : Sl) (R : Value → World → Prop) (w : World) : funV Try.prog Try.f22 An22 [(.slice s0.a s0.n s0.c), (.slice s1.a s1.n s1.c)] R w = S22 s0 s1 R w := by kernel_rfl
theorem call22 (s0 : Sl) (s1 : Sl) {R : Value → World → Prop} {w : World} (h : S22 s0 s1 R w) : Calls Try.prog 22 [(.slice s0.a s0.n s0.c), (.slice s1.a s1.n s1.c)].toArray w fun e w' => ∃ v, e = .returned v ∧ R v w' :=
  funV_calls mixed Try.func22 (an := An22) (by rw [eq22]; exact h)

/-- F69: cubeb/cubebref03.Of -/
def An69 : An := (.sq .lf (.sq .lf (.sq (.sq .lf (.bk [] (.lp [(8, .int .i64)] (.sq .lf (.sq (.cd .lf .lf) (.sq (.bk [] (.sq .lf .lf)) .lf)))))) (.sq .lf .lf))))
def S69 (s0 : Sl) (R : Value → World → Prop) (w : World) : Prop :=
  Let (w.alloc (.cells (zc Try.prog 43) 43)) fun w1 => 
  Let (w1.alloc (.cells (zc Try.prog 43) 43)) fun w2 => 
  Join [] (fun (w3 : World) => ∃ cs19 : List Value, cs19.length = 252 ∧ rd w3 w1.heap.size 0 cs19 ∧ StoreOk w3 w.heap.size 0 cs19 252 ∧ Let (put w3 w.heap.size 0 cs19) fun w4 => 
  ∃ csr2 : List Value, csr2.length = 252 ∧ rd w4 w.heap.size 0 csr2 ∧ R (.agg csr2.toArray) w4) (fun J =>
  LoopV [(8, .int .i64)] (fun K => K (0 : Int) w2) (fun N => fun (x8 : Int) (w5 : World) =>
  cond (decide (x8 < ((s0.n : Nat) : Int))) (
  Join [] (fun (w6 : World) => N (IntKind.wrap .i64 (x8 + (1 : Int))) w6) (fun J_2 =>
  ∃ p10 : Pt, s0.a = some ⟨p10.b, p10.o, none⟩ ∧ 0 ≤ x8 ∧ x8 < ((s0.n : Nat) : Int) ∧ ∃ x11_0 : Int, ∃ s11_1 : Sl, rd w5 p10.b (p10.o + Int.toNat x8 * 2) [(.int .i64 x11_0), (.slice s11_1.a s11_1.n s11_1.c)] ∧ Let (w5.alloc (.cells (zc Try.prog 36) 36)) fun w7 => 
  StoreOk w7 w5.heap.size 0 [(.int .i64 x11_0), (.slice s11_1.a s11_1.n s11_1.c)] 2 ∧ Let (put w7 w5.heap.size 0 [(.int .i64 x11_0), (.slice s11_1.a s11_1.n s11_1.c)]) fun w8 => 
  ∃ x13 : Int, World.cell? w8 ⟨w5.heap.size, (0 + 0), none⟩ = some (.int .i64 x13) ∧ ∃ s15 : Sl, World.cell? w8 ⟨w5.heap.size, (0 + 1), none⟩ = some (.slice s15.a s15.n s15.c) ∧ Calls Try.prog 94 [(.int .i64 x13), (.slice s15.a s15.n s15.c)].toArray w8 (fun e w9 => ∃ x16 : Int, e = .returned (.int .i64 x16) ∧
  0 ≤ x16 ∧ x16 < ((252 : Nat) : Int) ∧ StoreOk w9 w1.heap.size (0 + Int.toNat x16 * 1) [(.bool true)] 1 ∧ Let (put w9 w1.heap.size (0 + Int.toNat x16 * 1) [(.bool true)]) fun w10 => 
  J_2 w10))) (
  J w5)))
theorem eq69 (s0 : Sl) (R : Value → World → Prop) (w : World) : funV Try.prog Try.f69 An69 [(.slice s0.a s0.n s0.c)] R w = S69 s0 R w := by kernel_rfl
theorem call69 (s0 : Sl) {R : Value → World → Prop} {w : World} (h : S69 s0 R w) : Calls Try.prog 69 [(.slice s0.a s0.n s0.c)].toArray w fun e w' => ∃ v, e = .returned v ∧ R v w' :=
  funV_calls mixed Try.func69 (an := An69) (by rw [eq69]; exact h)

/-- F96: cubeb/cubebref03.given -/
def An96 : An := (.sq .lf (.sq .lf (.sq (.sq .lf (.bk [(5, .slice)] (.lp [(5, .slice), (11, .int .i64)] (.sq .lf (.sq (.cd .lf .lf) (.sq (.bk [(5, .slice)] (.sq .lf (.sq .lf (.cj [(5, .slice)] .lf .lf)))) .lf)))))) (.sq .lf .lf))))
def S96 (x0_0 : Int) (s0_1 : Sl) (cs1 : List Value) (R : Value → World → Prop) (w : World) : Prop :=
  Let (w.alloc (.cells [(.int .i64 x0_0), (.slice s0_1.a s0_1.n s0_1.c)].toArray 91)) fun w1 => 
  Let (w1.alloc (.cells cs1.toArray 90)) fun w2 => 
  ∃ s9 : Sl, World.cell? w2 ⟨w.heap.size, (0 + 1), none⟩ = some (.slice s9.a s9.n s9.c) ∧ Join [(5, .slice)] (fun (s5 : Sl) (w3 : World) => ∃ x30 : Int, World.cell? w3 ⟨w.heap.size, (0 + 0), none⟩ = some (.int .i64 x30) ∧ Calls Try.prog 94 [(.int .i64 x30), (.slice s5.a s5.n s5.c)].toArray w3 (fun e w4 => ∃ x32 : Int, e = .returned (.int .i64 x32) ∧
  R (.int .i64 x32) w4)) (fun J =>
  LoopV [(5, .slice), (11, .int .i64)] (fun K => K ⟨none, 0, 0⟩ (0 : Int) w2) (fun N => fun (s5_2 : Sl) (x11 : Int) (w5 : World) =>
  cond (decide (x11 < ((s9.n : Nat) : Int))) (
  Join [(5, .slice)] (fun (s5_3 : Sl) (w6 : World) => N ⟨s5_3.a, s5_3.n, s5_3.c⟩ (IntKind.wrap .i64 (x11 + (1 : Int))) w6) (fun J_2 =>
  ∃ p13 : Pt, s9.a = some ⟨p13.b, p13.o, none⟩ ∧ 0 ≤ x11 ∧ x11 < ((s9.n : Nat) : Int) ∧ ∃ x14 : Int, World.cell? w5 ⟨p13.b, (p13.o + Int.toNat x11 * 1), none⟩ = some (.int .i64 x14) ∧ Join [(5, .slice)] (fun (s5_4 : Sl) (w7 : World) => J_2 ⟨s5_4.a, s5_4.n, s5_4.c⟩ w7) (fun J_3 =>
  cond (decide (x14 < (0 : Int))) (
  ∃ (s20 : Sl) (w8 : World), Sem.run Try.prog (Instr.buildSlice 34 1 [(0, (.int .i64 (IntKind.wrap .i64 (0 - x14))))].toArray) w5 = .ok (.slice s20.a s20.n s20.c) w8 ∧
  ∃ (s21 : Sl) (w9 : World), Sem.run Try.prog (Builtin.append_ #[34, 34] 34 #[(.slice s5_2.a s5_2.n s5_2.c), (.slice s20.a s20.n s20.c)]) w8 = .ok (.slice s21.a s21.n s21.c) w9 ∧
  J_3 ⟨s21.a, s21.n, s21.c⟩ w9) (
  0 ≤ x14 ∧ x14 < ((8 : Nat) : Int) ∧ ∃ x25 : Int, World.cell? w5 ⟨w1.heap.size, (0 + Int.toNat x14 * 1), none⟩ = some (.int .i64 x25) ∧ ∃ (s26 : Sl) (w10 : World), Sem.run Try.prog (Instr.buildSlice 34 1 [(0, (.int .i64 x25))].toArray) w5 = .ok (.slice s26.a s26.n s26.c) w10 ∧
  ∃ (s27 : Sl) (w11 : World), Sem.run Try.prog (Builtin.append_ #[34, 34] 34 #[(.slice s5_2.a s5_2.n s5_2.c), (.slice s26.a s26.n s26.c)]) w10 = .ok (.slice s27.a s27.n s27.c) w11 ∧
  J_3 ⟨s27.a, s27.n, s27.c⟩ w11)))) (
  J ⟨s5_2.a, s5_2.n, s5_2.c⟩ w5)))
theorem eq96 (x0_0 : Int) (s0_1 : Sl) (cs1 : List Value) (R : Value → World → Prop) (w : World) : funV Try.prog Try.f96 An96 [(.agg [(.int .i64 x0_0), (.slice s0_1.a s0_1.n s0_1.c)].toArray), (.agg cs1.toArray)] R w = S96 x0_0 s0_1 cs1 R w := by kernel_rfl
theorem call96 (x0_0 : Int) (s0_1 : Sl) (cs1 : List Value) {R : Value → World → Prop} {w : World} (h : S96 x0_0 s0_1 cs1 R w) : Calls Try.prog 96 [(.agg [(.int .i64 x0_0), (.slice s0_1.a s0_1.n s0_1.c)].toArray), (.agg cs1.toArray)].toArray w fun e w' => ∃ v, e = .returned v ∧ R v w' :=
  funV_calls mixed Try.func96 (an := An96) (by rw [eq96]; exact h)

/-- F95: cubeb/cubebref03.instances -/
def An95 : An := (.sq .lf (.sq (.sq .lf (.cd (.sq .lf .lf) .lf)) (.sq .lf (.sq (.sq .lf (.cd (.sq .lf .lf) .lf)) (.sq .lf (.sq (.sq .lf (.bk [(10, .slice)] (.lp [(10, .slice), (39, .int .i64)] (.sq .lf (.sq (.cd .lf .lf) (.sq (.bk [(10, .slice)] (.sq .lf (.sq .lf (.sq (.sq (.rj [] [(64, .bool)]) (.cd .lf .lf)) (.sq .lf (.sq (.sq .lf (.bk [(15, .bool)] (.lp [(15, .bool), (70, .int .i64)] (.sq .lf (.sq (.cd .lf .lf) (.sq (.bk [(15, .bool)] (.sq .lf (.bk [(15, .bool)] (.sq .lf (.cj [(15, .bool)] (.rj [] [(15, .bool)]) (.sq .lf (.cj [(15, .bool)] (.dr [0, 1, 2, 3, 4, 5, 6, 7, 8, 9, 10, 11, 12] [] false (some [(15, .bool)])) .lf))))))) .lf)))))) (.sq .lf (.cj [(10, .slice)] .lf .lf)))))))) .lf)))))) (.sq .lf .lf)))))))
def S95 (x0_0 : Int) (s0_1 : Sl) (s0_2 : Sl) (cs1 : List Value) (x2 : Int) (cs3 : List Value) (R : Value → World → Prop) (w : World) : Prop :=
  Let (w.alloc (.cells [(.int .i64 x0_0), (.slice s0_1.a s0_1.n s0_1.c), (.slice s0_2.a s0_2.n s0_2.c)].toArray 94)) fun w1 => 
  Let (w1.alloc (.cells cs1.toArray 43)) fun w2 => 
  Let (w2.alloc (.cells cs3.toArray 90)) fun w3 => 
  ∃ s20 : Sl, World.cell? w3 ⟨w.heap.size, (0 + 2), none⟩ = some (.slice s20.a s20.n s20.c) ∧ cond (x2 == ((s20.n : Nat) : Int)) (
  ∃ cs23 : List Value, cs23.length = 8 ∧ rd w3 w2.heap.size 0 cs23 ∧ ∃ (s24 : Sl) (w4 : World), Sem.run Try.prog (Instr.buildSlice 157 1 [(0, (.agg cs23.toArray))].toArray) w3 = .ok (.slice s24.a s24.n s24.c) w4 ∧
  R (.slice s24.a s24.n s24.c) w4) (
  ∃ s26 : Sl, World.cell? w3 ⟨w.heap.size, (0 + 2), none⟩ = some (.slice s26.a s26.n s26.c) ∧ ∃ p28 : Pt, s26.a = some ⟨p28.b, p28.o, none⟩ ∧ 0 ≤ x2 ∧ x2 < ((s26.n : Nat) : Int) ∧ ∃ b29_0 : Bool, ∃ x29_1 : Int, ∃ s29_2 : Sl, rd w3 p28.b (p28.o + Int.toNat x2 * 3) [(.bool b29_0), (.int .i64 x29_1), (.slice s29_2.a s29_2.n s29_2.c)] ∧ Let (w3.alloc (.cells (zc Try.prog 96) 96)) fun w5 => 
  StoreOk w5 w3.heap.size 0 [(.bool b29_0), (.int .i64 x29_1), (.slice s29_2.a s29_2.n s29_2.c)] 3 ∧ Let (put w5 w3.heap.size 0 [(.bool b29_0), (.int .i64 x29_1), (.slice s29_2.a s29_2.n s29_2.c)]) fun w6 => 
  ∃ b31 : Bool, World.cell? w6 ⟨w3.heap.size, (0 + 0), none⟩ = some (.bool b31) ∧ cond b31 (
  ∃ x32_0 : Int, ∃ s32_1 : Sl, ∃ s32_2 : Sl, rd w6 w.heap.size 0 [(.int .i64 x32_0), (.slice s32_1.a s32_1.n s32_1.c), (.slice s32_2.a s32_2.n s32_2.c)] ∧ ∃ cs33 : List Value, cs33.length = 252 ∧ rd w6 w1.heap.size 0 cs33 ∧ ∃ cs36 : List Value, cs36.length = 8 ∧ rd w6 w2.heap.size 0 cs36 ∧ Calls Try.prog 95 [(.agg [(.int .i64 x32_0), (.slice s32_1.a s32_1.n s32_1.c), (.slice s32_2.a s32_2.n s32_2.c)].toArray), (.agg cs33.toArray), (.int .i64 (IntKind.wrap .i64 (x2 + (1 : Int)))), (.agg cs36.toArray)].toArray w6 (fun e w7 => ∃ s37 : Sl, e = .returned (.slice s37.a s37.n s37.c) ∧
  R (.slice s37.a s37.n s37.c) w7)) (
  ∃ cs38 : List Value, cs38.length = 252 ∧ rd w6 w1.heap.size 0 cs38 ∧ Join [(10, .slice)] (fun (s10 : Sl) (w8 : World) => R (.slice s10.a s10.n s10.c) w8) (fun J =>
  LoopV [(10, .slice), (39, .int .i64)] (fun K => K ⟨none, 0, 0⟩ (0 : Int) w6) (fun N => fun (s10_2 : Sl) (x39 : Int) (w9 : World) =>
  cond (decide (x39 < (252 : Int))) (
  Join [(10, .slice)] (fun (s10_3 : Sl) (w10 : World) => N ⟨s10_3.a, s10_3.n, s10_3.c⟩ (IntKind.wrap .i64 (x39 + (1 : Int))) w10) (fun J_2 =>
  0 ≤ x39 ∧ x39 < ((252 : Nat) : Int) ∧ ∃ b42 : Bool, (cs38 : List Value)[Int.toNat x39]? = some (.bool b42) ∧ Calls Try.prog 73 [(.int .i64 x39)].toArray w9 (fun e_2 w11 => ∃ x44_0 : Int, ∃ s44_1 : Sl, e_2 = .returned (.agg [(.int .i64 x44_0), (.slice s44_1.a s44_1.n s44_1.c)].toArray) ∧
  Let (w11.alloc (.cells (zc Try.prog 36) 36)) fun w12 => 
  StoreOk w12 w11.heap.size 0 [(.int .i64 x44_0), (.slice s44_1.a s44_1.n s44_1.c)] 2 ∧ Let (put w12 w11.heap.size 0 [(.int .i64 x44_0), (.slice s44_1.a s44_1.n s44_1.c)]) fun w13 => 
  Join [(64, .bool)] (fun (b64 : Bool) (w14 : World) => cond b64 (
  J_2 ⟨s10_2.a, s10_2.n, s10_2.c⟩ w14) (
  ∃ cs65 : List Value, cs65.length = 8 ∧ rd w14 w2.heap.size 0 cs65 ∧ Let (w14.alloc (.cells (zc Try.prog 90) 90)) fun w15 => 
  StoreOk w15 w14.heap.size 0 cs65 8 ∧ Let (put w15 w14.heap.size 0 cs65) fun w16 => 
  ∃ s68 : Sl, World.cell? w16 ⟨w3.heap.size, ((0 + 1) + 1), none⟩ = some (.slice s68.a s68.n s68.c) ∧ Join [(15, .bool)] (fun (b15 : Bool) (w17 : World) => Join [(10, .slice)] (fun (s10_4 : Sl) (w18 : World) => J_2 ⟨s10_4.a, s10_4.n, s10_4.c⟩ w18) (fun J_3 =>
  cond b15 (
  ∃ x116_0 : Int, ∃ s116_1 : Sl, ∃ s116_2 : Sl, rd w17 w.heap.size 0 [(.int .i64 x116_0), (.slice s116_1.a s116_1.n s116_1.c), (.slice s116_2.a s116_2.n s116_2.c)] ∧ ∃ cs117 : List Value, cs117.length = 252 ∧ rd w17 w1.heap.size 0 cs117 ∧ ∃ cs120 : List Value, cs120.length = 8 ∧ rd w17 w14.heap.size 0 cs120 ∧ Calls Try.prog 95 [(.agg [(.int .i64 x116_0), (.slice s116_1.a s116_1.n s116_1.c), (.slice s116_2.a s116_2.n s116_2.c)].toArray), (.agg cs117.toArray), (.int .i64 (IntKind.wrap .i64 (x2 + (1 : Int)))), (.agg cs120.toArray)].toArray w17 (fun e_3 w19 => ∃ s121 : Sl, e_3 = .returned (.slice s121.a s121.n s121.c) ∧
  ∃ (s122 : Sl) (w20 : World), Sem.run Try.prog (Builtin.append_ #[157, 157] 157 #[(.slice s10_2.a s10_2.n s10_2.c), (.slice s121.a s121.n s121.c)]) w19 = .ok (.slice s122.a s122.n s122.c) w20 ∧
  J_3 ⟨s122.a, s122.n, s122.c⟩ w20)) (
  J_3 ⟨s10_2.a, s10_2.n, s10_2.c⟩ w17))) (fun J_4 =>
  LoopV [(15, .bool), (70, .int .i64)] (fun K => K true (0 : Int) w16) (fun N_2 => fun (b15_2 : Bool) (x70 : Int) (w21 : World) =>
  cond (decide (x70 < ((s68.n : Nat) : Int))) (
  Join [(15, .bool)] (fun (b15_3 : Bool) (w22 : World) => N_2 b15_3 (IntKind.wrap .i64 (x70 + (1 : Int))) w22) (fun J_5 =>
  ∃ p73 : Pt, s68.a = some ⟨p73.b, p73.o, none⟩ ∧ 0 ≤ x70 ∧ x70 < ((s68.n : Nat) : Int) ∧ ∃ x74 : Int, World.cell? w21 ⟨p73.b, (p73.o + Int.toNat x70 * 1), none⟩ = some (.int .i64 x74) ∧ Join [(15, .bool)] (fun (b15_4 : Bool) (w23 : World) => J_5 b15_4 w23) (fun J_6 =>
  Join [(15, .bool)] (fun (b15_5 : Bool) (w24 : World) => J_6 b15_5 w24) (fun J_7 =>
  cond (decide (x74 < (0 : Int))) (
  Join [(15, .bool)] (fun (b15_6 : Bool) (w25 : World) => J_7 b15_6 w25) (fun J_8 =>
  cond b15_2 (∃ s88 : Sl, World.cell? w21 ⟨w11.heap.size, (0 + 1), none⟩ = some (.slice s88.a s88.n s88.c) ∧ ∃ p90 : Pt, s88.a = some ⟨p90.b, p90.o, none⟩ ∧ 0 ≤ x70 ∧ x70 < ((s88.n : Nat) : Int) ∧ ∃ x91 : Int, World.cell? w21 ⟨p90.b, (p90.o + Int.toNat x70 * 1), none⟩ = some (.int .i64 x91) ∧ J_8 (x91 == (IntKind.wrap .i64 (0 - x74))) w21) (J_8 false w21))) (
  0 ≤ x74 ∧ x74 < ((8 : Nat) : Int) ∧ ∃ x99 : Int, World.cell? w21 ⟨w14.heap.size, (0 + Int.toNat x74 * 1), none⟩ = some (.int .i64 x99) ∧ Join [(15, .bool)] (fun (b15_7 : Bool) (w26 : World) => J_7 b15_7 w26) (fun J_9 =>
  cond (x99 != (0 : Int)) (
  Join [(15, .bool)] (fun (b15_8 : Bool) (w27 : World) => J_9 b15_8 w27) (fun J_10 =>
  Let w21.drew fun w28 =>
  cond b15_2 (∃ s104 : Sl, World.cell? w28 ⟨w11.heap.size, (0 + 1), none⟩ = some (.slice s104.a s104.n s104.c) ∧ ∃ p106 : Pt, s104.a = some ⟨p106.b, p106.o, none⟩ ∧ 0 ≤ x70 ∧ x70 < ((s104.n : Nat) : Int) ∧ ∃ x107 : Int, World.cell? w28 ⟨p106.b, (p106.o + Int.toNat x70 * 1), none⟩ = some (.int .i64 x107) ∧ 0 ≤ x74 ∧ x74 < ((8 : Nat) : Int) ∧ ∃ x110 : Int, World.cell? w28 ⟨w14.heap.size, (0 + Int.toNat x74 * 1), none⟩ = some (.int .i64 x110) ∧ J_10 (x107 == x110) w28) (J_10 false w28))) (
  ∃ s77 : Sl, World.cell? w21 ⟨w11.heap.size, (0 + 1), none⟩ = some (.slice s77.a s77.n s77.c) ∧ ∃ p79 : Pt, s77.a = some ⟨p79.b, p79.o, none⟩ ∧ 0 ≤ x70 ∧ x70 < ((s77.n : Nat) : Int) ∧ ∃ x80 : Int, World.cell? w21 ⟨p79.b, (p79.o + Int.toNat x70 * 1), none⟩ = some (.int .i64 x80) ∧ 0 ≤ x74 ∧ x74 < ((8 : Nat) : Int) ∧ StoreOk w21 w14.heap.size (0 + Int.toNat x74 * 1) [(.int .i64 x80)] 1 ∧ Let (put w21 w14.heap.size (0 + Int.toNat x74 * 1) [(.int .i64 x80)]) fun w29 => 
  J_9 b15_2 w29))))))) (
  J_4 b15_2 w21))))) (fun J_11 =>
  cond (!b42) (J_11 true w13) (∃ x49 : Int, World.cell? w13 ⟨w11.heap.size, (0 + 0), none⟩ = some (.int .i64 x49) ∧ ∃ x52 : Int, World.cell? w13 ⟨w3.heap.size, ((0 + 1) + 0), none⟩ = some (.int .i64 x52) ∧ cond (x49 != x52) (J_11 true w13) (∃ s57 : Sl, World.cell? w13 ⟨w11.heap.size, (0 + 1), none⟩ = some (.slice s57.a s57.n s57.c) ∧ ∃ s61 : Sl, World.cell? w13 ⟨w3.heap.size, ((0 + 1) + 1), none⟩ = some (.slice s61.a s61.n s61.c) ∧ J_11 (((s57.n : Nat) : Int) != ((s61.n : Nat) : Int)) w13)))))) (
  J ⟨s10_2.a, s10_2.n, s10_2.c⟩ w9)))))
theorem eq95 (x0_0 : Int) (s0_1 : Sl) (s0_2 : Sl) (cs1 : List Value) (x2 : Int) (cs3 : List Value) (R : Value → World → Prop) (w : World) : funV Try.prog Try.f95 An95 [(.agg [(.int .i64 x0_0), (.slice s0_1.a s0_1.n s0_1.c), (.slice s0_2.a s0_2.n s0_2.c)].toArray), (.agg cs1.toArray), (.int .i64 x2), (.agg cs3.toArray)] R w = S95 x0_0 s0_1 s0_2 cs1 x2 cs3 R w := by kernel_rfl
theorem call95 (x0_0 : Int) (s0_1 : Sl) (s0_2 : Sl) (cs1 : List Value) (x2 : Int) (cs3 : List Value) {R : Value → World → Prop} {w : World} (h : S95 x0_0 s0_1 s0_2 cs1 x2 cs3 R w) : Calls Try.prog 95 [(.agg [(.int .i64 x0_0), (.slice s0_1.a s0_1.n s0_1.c), (.slice s0_2.a s0_2.n s0_2.c)].toArray), (.agg cs1.toArray), (.int .i64 x2), (.agg cs3.toArray)].toArray w fun e w' => ∃ v, e = .returned v ∧ R v w' :=
  funV_calls mixed Try.func95 (an := An95) (by rw [eq95]; exact h)

/-- F97: cubeb/cubebref03.free -/
def An97 : An := (.sq .lf (.sq (.sq .lf (.bk [] (.lp [(12, .int .i64)] (.sq .lf (.sq (.cd .lf .lf) (.sq (.bk [] (.sq .lf (.sq (.rj [] [(25, .bool)]) (.cd (.sq .lf .lf) .lf)))) .lf)))))) (.sq .lf .lf)))
def S97 (x0_0 : Int) (s0_1 : Sl) (s0_2 : Sl) (cs1 : List Value) (cs2 : List Value) (R : Value → World → Prop) (w : World) : Prop :=
  Let (w.alloc (.cells [(.int .i64 x0_0), (.slice s0_1.a s0_1.n s0_1.c), (.slice s0_2.a s0_2.n s0_2.c)].toArray 94)) fun w1 => 
  Let (w1.alloc (.cells cs1.toArray 90)) fun w2 => 
  Let (w2.alloc (.cells cs2.toArray 43)) fun w3 => 
  ∃ s10 : Sl, World.cell? w3 ⟨w.heap.size, (0 + 2), none⟩ = some (.slice s10.a s10.n s10.c) ∧ Join [] (fun (w4 : World) => R (.bool true) w4) (fun J =>
  LoopV [(12, .int .i64)] (fun K => K (0 : Int) w3) (fun N => fun (x12 : Int) (w5 : World) =>
  cond (decide (x12 < ((s10.n : Nat) : Int))) (
  Join [] (fun (w6 : World) => N (IntKind.wrap .i64 (x12 + (1 : Int))) w6) (fun J_2 =>
  ∃ p14 : Pt, s10.a = some ⟨p14.b, p14.o, none⟩ ∧ 0 ≤ x12 ∧ x12 < ((s10.n : Nat) : Int) ∧ ∃ b15_0 : Bool, ∃ x15_1 : Int, ∃ s15_2 : Sl, rd w5 p14.b (p14.o + Int.toNat x12 * 3) [(.bool b15_0), (.int .i64 x15_1), (.slice s15_2.a s15_2.n s15_2.c)] ∧ Let (w5.alloc (.cells (zc Try.prog 96) 96)) fun w7 => 
  StoreOk w7 w5.heap.size 0 [(.bool b15_0), (.int .i64 x15_1), (.slice s15_2.a s15_2.n s15_2.c)] 3 ∧ Let (put w7 w5.heap.size 0 [(.bool b15_0), (.int .i64 x15_1), (.slice s15_2.a s15_2.n s15_2.c)]) fun w8 => 
  Join [(25, .bool)] (fun (b25 : Bool) (w9 : World) => cond b25 (
  R (.bool false) w9) (
  J_2 w9)) (fun J_3 =>
  ∃ b17 : Bool, World.cell? w8 ⟨w5.heap.size, (0 + 0), none⟩ = some (.bool b17) ∧ cond b17 (∃ x20_0 : Int, ∃ s20_1 : Sl, rd w8 w5.heap.size (0 + 1) [(.int .i64 x20_0), (.slice s20_1.a s20_1.n s20_1.c)] ∧ ∃ cs21 : List Value, cs21.length = 8 ∧ rd w8 w1.heap.size 0 cs21 ∧ Calls Try.prog 96 [(.agg [(.int .i64 x20_0), (.slice s20_1.a s20_1.n s20_1.c)].toArray), (.agg cs21.toArray)].toArray w8 (fun e w10 => ∃ x22 : Int, e = .returned (.int .i64 x22) ∧
  0 ≤ x22 ∧ x22 < ((252 : Nat) : Int) ∧ ∃ b24 : Bool, World.cell? w10 ⟨w2.heap.size, (0 + Int.toNat x22 * 1), none⟩ = some (.bool b24) ∧ J_3 b24 w10)) (J_3 false w8)))) (
  J w5)))
theorem eq97 (x0_0 : Int) (s0_1 : Sl) (s0_2 : Sl) (cs1 : List Value) (cs2 : List Value) (R : Value → World → Prop) (w : World) : funV Try.prog Try.f97 An97 [(.agg [(.int .i64 x0_0), (.slice s0_1.a s0_1.n s0_1.c), (.slice s0_2.a s0_2.n s0_2.c)].toArray), (.agg cs1.toArray), (.agg cs2.toArray)] R w = S97 x0_0 s0_1 s0_2 cs1 cs2 R w := by kernel_rfl
theorem call97 (x0_0 : Int) (s0_1 : Sl) (s0_2 : Sl) (cs1 : List Value) (cs2 : List Value) {R : Value → World → Prop} {w : World} (h : S97 x0_0 s0_1 s0_2 cs1 cs2 R w) : Calls Try.prog 97 [(.agg [(.int .i64 x0_0), (.slice s0_1.a s0_1.n s0_1.c), (.slice s0_2.a s0_2.n s0_2.c)].toArray), (.agg cs1.toArray), (.agg cs2.toArray)].toArray w fun e w' => ∃ v, e = .returned v ∧ R v w' :=
  funV_calls mixed Try.func97 (an := An97) (by rw [eq97]; exact h)

/-- F70: cubeb/cubebref03.Consequences -/
def An70 : An := (.sq .lf (.sq (.sq .lf (.bk [] (.lp [(7, .bool)] (.sq (.sq .lf (.cd .lf .lf)) (.bk [(7, .bool)] (.sq .lf (.sq .lf (.bk [(7, .bool)] (.lp [(7, .bool), (16, .int .i64)] (.sq .lf (.sq (.cd .lf .lf) (.sq (.bk [(7, .bool)] (.sq .lf (.sq .lf (.bk [(7, .bool)] (.lp [(7, .bool), (25, .int .i64)] (.sq .lf (.sq (.cd .lf .lf) (.sq (.bk [(7, .bool)] (.sq .lf (.sq .lf (.sq (.rj [] [(42, .bool)]) (.cj [(7, .bool)] (.sq .lf .lf) .lf))))) .lf)))))))) .lf)))))))))))) (.sq .lf .lf)))
def S70 (s0 : Sl) (cs1 : List Value) (cs2 : List Value) (R : Value → World → Prop) (w : World) : Prop :=
  Let (w.alloc (.cells cs1.toArray 43)) fun w1 => 
  Let (w1.alloc (.cells cs2.toArray 43)) fun w2 => 
  Let (w2.alloc (.cells (zc Try.prog 43) 43)) fun w3 => 
  Join [] (fun (w4 : World) => ∃ cs47 : List Value, cs47.length = 252 ∧ rd w4 w.heap.size 0 cs47 ∧ StoreOk w4 w2.heap.size 0 cs47 252 ∧ Let (put w4 w2.heap.size 0 cs47) fun w5 => 
  ∃ csr6 : List Value, csr6.length = 252 ∧ rd w5 w2.heap.size 0 csr6 ∧ R (.agg csr6.toArray) w5) (fun J =>
  LoopV [(7, .bool)] (fun K => K true w3) (fun N => fun (b7 : Bool) (w6 : World) =>
  cond b7 (
  Join [(7, .bool)] (fun (b7_2 : Bool) (w7 : World) => N b7_2 w7) (fun J_2 =>
  Join [(7, .bool)] (fun (b7_3 : Bool) (w8 : World) => J_2 b7_3 w8) (fun J_3 =>
  LoopV [(7, .bool), (16, .int .i64)] (fun K => K false (0 : Int) w6) (fun N_2 => fun (b7_4 : Bool) (x16 : Int) (w9 : World) =>
  cond (decide (x16 < ((s0.n : Nat) : Int))) (
  Join [(7, .bool)] (fun (b7_5 : Bool) (w10 : World) => N_2 b7_5 (IntKind.wrap .i64 (x16 + (1 : Int))) w10) (fun J_4 =>
  ∃ p18 : Pt, s0.a = some ⟨p18.b, p18.o, none⟩ ∧ 0 ≤ x16 ∧ x16 < ((s0.n : Nat) : Int) ∧ ∃ x19_0 : Int, ∃ s19_1 : Sl, ∃ s19_2 : Sl, rd w9 p18.b (p18.o + Int.toNat x16 * 3) [(.int .i64 x19_0), (.slice s19_1.a s19_1.n s19_1.c), (.slice s19_2.a s19_2.n s19_2.c)] ∧ Let (w9.alloc (.cells (zc Try.prog 94) 94)) fun w11 => 
  StoreOk w11 w9.heap.size 0 [(.int .i64 x19_0), (.slice s19_1.a s19_1.n s19_1.c), (.slice s19_2.a s19_2.n s19_2.c)] 3 ∧ Let (put w11 w9.heap.size 0 [(.int .i64 x19_0), (.slice s19_1.a s19_1.n s19_1.c), (.slice s19_2.a s19_2.n s19_2.c)]) fun w12 => 
  ∃ x20_0 : Int, ∃ s20_1 : Sl, ∃ s20_2 : Sl, rd w12 w9.heap.size 0 [(.int .i64 x20_0), (.slice s20_1.a s20_1.n s20_1.c), (.slice s20_2.a s20_2.n s20_2.c)] ∧ ∃ cs21 : List Value, cs21.length = 252 ∧ rd w12 w.heap.size 0 cs21 ∧ Calls Try.prog 95 [(.agg [(.int .i64 x20_0), (.slice s20_1.a s20_1.n s20_1.c), (.slice s20_2.a s20_2.n s20_2.c)].toArray), (.agg cs21.toArray), (.int .i64 (0 : Int)), (.agg [(.int .i64 (0 : Int)), (.int .i64 (0 : Int)), (.int .i64 (0 : Int)), (.int .i64 (0 : Int)), (.int .i64 (0 : Int)), (.int .i64 (0 : Int)), (.int .i64 (0 : Int)), (.int .i64 (0 : Int))].toArray)].toArray w12 (fun e w13 => ∃ s23 : Sl, e = .returned (.slice s23.a s23.n s23.c) ∧
  Join [(7, .bool)] (fun (b7_6 : Bool) (w14 : World) => J_4 b7_6 w14) (fun J_5 =>
  LoopV [(7, .bool), (25, .int .i64)] (fun K => K b7_4 (0 : Int) w13) (fun N_3 => fun (b7_7 : Bool) (x25 : Int) (w15 : World) =>
  cond (decide (x25 < ((s23.n : Nat) : Int))) (
  Join [(7, .bool)] (fun (b7_8 : Bool) (w16 : World) => N_3 b7_8 (IntKind.wrap .i64 (x25 + (1 : Int))) w16) (fun J_6 =>
  ∃ p27 : Pt, s23.a = some ⟨p27.b, p27.o, none⟩ ∧ 0 ≤ x25 ∧ x25 < ((s23.n : Nat) : Int) ∧ ∃ cs28 : List Value, cs28.length = 8 ∧ rd w15 p27.b (p27.o + Int.toNat x25 * 8) cs28 ∧ Let (w15.alloc (.cells (zc Try.prog 90) 90)) fun w17 => 
  StoreOk w17 w15.heap.size 0 cs28 8 ∧ Let (put w17 w15.heap.size 0 cs28) fun w18 => 
  ∃ x30_0 : Int, ∃ s30_1 : Sl, rd w18 w9.heap.size (0 + 0) [(.int .i64 x30_0), (.slice s30_1.a s30_1.n s30_1.c)] ∧ ∃ cs31 : List Value, cs31.length = 8 ∧ rd w18 w15.heap.size 0 cs31 ∧ Calls Try.prog 96 [(.agg [(.int .i64 x30_0), (.slice s30_1.a s30_1.n s30_1.c)].toArray), (.agg cs31.toArray)].toArray w18 (fun e_2 w19 => ∃ x32 : Int, e_2 = .returned (.int .i64 x32) ∧
  Join [(42, .bool)] (fun (b42 : Bool) (w20 : World) => Join [(7, .bool)] (fun (b7_9 : Bool) (w21 : World) => J_6 b7_9 w21) (fun J_7 =>
  cond b42 (
  0 ≤ x32 ∧ x32 < ((252 : Nat) : Int) ∧ StoreOk w20 w.heap.size (0 + Int.toNat x32 * 1) [(.bool true)] 1 ∧ Let (put w20 w.heap.size (0 + Int.toNat x32 * 1) [(.bool true)]) fun w22 => 
  J_7 true w22) (
  J_7 b7_7 w20))) (fun J_8 =>
  ∃ x33_0 : Int, ∃ s33_1 : Sl, ∃ s33_2 : Sl, rd w19 w9.heap.size 0 [(.int .i64 x33_0), (.slice s33_1.a s33_1.n s33_1.c), (.slice s33_2.a s33_2.n s33_2.c)] ∧ ∃ cs34 : List Value, cs34.length = 8 ∧ rd w19 w15.heap.size 0 cs34 ∧ ∃ cs35 : List Value, cs35.length = 252 ∧ rd w19 w1.heap.size 0 cs35 ∧ Calls Try.prog 97 [(.agg [(.int .i64 x33_0), (.slice s33_1.a s33_1.n s33_1.c), (.slice s33_2.a s33_2.n s33_2.c)].toArray), (.agg cs34.toArray), (.agg cs35.toArray)].toArray w19 (fun e_3 w23 => ∃ b36 : Bool, e_3 = .returned (.bool b36) ∧
  cond b36 (0 ≤ x32 ∧ x32 < ((252 : Nat) : Int) ∧ ∃ b40 : Bool, World.cell? w23 ⟨w.heap.size, (0 + Int.toNat x32 * 1), none⟩ = some (.bool b40) ∧ J_8 (!b40) w23) (J_8 false w23)))))) (
  J_5 b7_7 w15)))))) (
  J_3 b7_4 w9))))) (
  J w6)))
theorem eq70 (s0 : Sl) (cs1 : List Value) (cs2 : List Value) (R : Value → World → Prop) (w : World) : funV Try.prog Try.f70 An70 [(.slice s0.a s0.n s0.c), (.agg cs1.toArray), (.agg cs2.toArray)] R w = S70 s0 cs1 cs2 R w := by kernel_rfl
theorem call70 (s0 : Sl) (cs1 : List Value) (cs2 : List Value) {R : Value → World → Prop} {w : World} (h : S70 s0 cs1 cs2 R w) : Calls Try.prog 70 [(.slice s0.a s0.n s0.c), (.agg cs1.toArray), (.agg cs2.toArray)].toArray w fun e w' => ∃ v, e = .returned v ∧ R v w' :=
  funV_calls mixed Try.func70 (an := An70) (by rw [eq70]; exact h)

/-- F38: cubeb/cubebref03.Strata -/
def An38 : An := (.sq .lf (.sq .lf (.sq (.sq .lf (.bk [] (.lp [(13, .int .i64)] (.sq .lf (.sq (.cd .lf .lf) (.sq (.bk [] (.sq .lf (.bk [] (.lp [(17, .int .i64)] (.sq .lf (.sq (.cd .lf .lf) (.sq (.bk [] (.sq .lf (.sq .lf (.bk [] (.lp [(24, .int .i64)] (.sq .lf (.sq (.cd .lf .lf) (.sq (.bk [] (.sq .lf (.sq .lf (.sq (.sq .lf (.cj [(9, .int .i64)] .lf .lf)) (.dr [0, 1, 2, 3, 4, 5, 6, 7, 8, 9, 10, 11, 12, 13] [] false none))))) .lf)))))))) .lf))))))) .lf)))))) (.sq (.sq .lf (.bk [] (.lp [(56, .int .i64)] (.sq .lf (.sq (.cd .lf .lf) (.sq (.bk [] (.sq .lf (.sq .lf (.cd (.sq .lf .lf) .lf)))) .lf)))))) (.sq .lf .lf)))))
def S38 (s0 : Sl) (R : Value → World → Prop) (w : World) : Prop :=
  ∃ (s12 : Sl) (w1 : World), Sem.run Try.prog (Instr.makeSlice 34 (.int .i64 (6 : Int)) (.int .i64 (6 : Int))) w = .ok (.slice s12.a s12.n s12.c) w1 ∧
  Join [] (fun (w2 : World) => Join [] (fun (w3 : World) => R (.tuple [(.slice s12.a s12.n s12.c), (.int .i64 (0 : Int))].toArray) w3) (fun J =>
  LoopV [(56, .int .i64)] (fun K => K (0 : Int) w2) (fun N => fun (x56 : Int) (w4 : World) =>
  cond (decide (x56 < ((s12.n : Nat) : Int))) (
  Join [] (fun (w5 : World) => N (IntKind.wrap .i64 (x56 + (1 : Int))) w5) (fun J_2 =>
  ∃ p58 : Pt, s12.a = some ⟨p58.b, p58.o, none⟩ ∧ 0 ≤ x56 ∧ x56 < ((s12.n : Nat) : Int) ∧ ∃ x59 : Int, World.cell? w4 ⟨p58.b, (p58.o + Int.toNat x56 * 1), none⟩ = some (.int .i64 x59) ∧ cond (decide (x59 > (5 : Int))) (
  R (.tuple [(.slice none 0 0), (.int .i64 (8 : Int))].toArray) w4) (
  J_2 w4))) (
  J w4)))) (fun J_3 =>
  LoopV [(13, .int .i64)] (fun K => K (0 : Int) w1) (fun N_2 => fun (x13 : Int) (w6 : World) =>
  cond (decide (x13 < (60 : Int))) (
  Join [] (fun (w7 : World) => N_2 (IntKind.wrap .i64 (x13 + (1 : Int))) w7) (fun J_4 =>
  Join [] (fun (w8 : World) => J_4 w8) (fun J_5 =>
  LoopV [(17, .int .i64)] (fun K => K (0 : Int) w6) (fun N_3 => fun (x17 : Int) (w9 : World) =>
  cond (decide (x17 < ((s0.n : Nat) : Int))) (
  Join [] (fun (w10 : World) => N_3 (IntKind.wrap .i64 (x17 + (1 : Int))) w10) (fun J_6 =>
  ∃ p19 : Pt, s0.a = some ⟨p19.b, p19.o, none⟩ ∧ 0 ≤ x17 ∧ x17 < ((s0.n : Nat) : Int) ∧ ∃ x20_0 : Int, ∃ s20_1 : Sl, ∃ s20_2 : Sl, rd w9 p19.b (p19.o + Int.toNat x17 * 3) [(.int .i64 x20_0), (.slice s20_1.a s20_1.n s20_1.c), (.slice s20_2.a s20_2.n s20_2.c)] ∧ Let (w9.alloc (.cells (zc Try.prog 94) 94)) fun w11 => 
  StoreOk w11 w9.heap.size 0 [(.int .i64 x20_0), (.slice s20_1.a s20_1.n s20_1.c), (.slice s20_2.a s20_2.n s20_2.c)] 3 ∧ Let (put w11 w9.heap.size 0 [(.int .i64 x20_0), (.slice s20_1.a s20_1.n s20_1.c), (.slice s20_2.a s20_2.n s20_2.c)]) fun w12 => 
  ∃ s22 : Sl, World.cell? w12 ⟨w9.heap.size, (0 + 2), none⟩ = some (.slice s22.a s22.n s22.c) ∧ Join [] (fun (w13 : World) => J_6 w13) (fun J_7 =>
  LoopV [(24, .int .i64)] (fun K => K (0 : Int) w12) (fun N_4 => fun (x24 : Int) (w14 : World) =>
  cond (decide (x24 < ((s22.n : Nat) : Int))) (
  Join [] (fun (w15 : World) => N_4 (IntKind.wrap .i64 (x24 + (1 : Int))) w15) (fun J_8 =>
  ∃ p26 : Pt, s22.a = some ⟨p26.b, p26.o, none⟩ ∧ 0 ≤ x24 ∧ x24 < ((s22.n : Nat) : Int) ∧ ∃ b27_0 : Bool, ∃ x27_1 : Int, ∃ s27_2 : Sl, rd w14 p26.b (p26.o + Int.toNat x24 * 3) [(.bool b27_0), (.int .i64 x27_1), (.slice s27_2.a s27_2.n s27_2.c)] ∧ Let (w14.alloc (.cells (zc Try.prog 96) 96)) fun w16 => 
  StoreOk w16 w14.heap.size 0 [(.bool b27_0), (.int .i64 x27_1), (.slice s27_2.a s27_2.n s27_2.c)] 3 ∧ Let (put w16 w14.heap.size 0 [(.bool b27_0), (.int .i64 x27_1), (.slice s27_2.a s27_2.n s27_2.c)]) fun w17 => 
  ∃ x31 : Int, World.cell? w17 ⟨w14.heap.size, ((0 + 1) + 0), none⟩ = some (.int .i64 x31) ∧ ∃ p32 : Pt, s12.a = some ⟨p32.b, p32.o, none⟩ ∧ 0 ≤ x31 ∧ x31 < ((s12.n : Nat) : Int) ∧ ∃ x33 : Int, World.cell? w17 ⟨p32.b, (p32.o + Int.toNat x31 * 1), none⟩ = some (.int .i64 x33) ∧ ∃ b35 : Bool, World.cell? w17 ⟨w14.heap.size, (0 + 0), none⟩ = some (.bool b35) ∧ Join [(9, .int .i64)] (fun (x9 : Int) (w18 : World) => Let w18.drew fun w19 =>
  ∃ x41 : Int, World.cell? w19 ⟨w9.heap.size, ((0 + 0) + 0), none⟩ = some (.int .i64 x41) ∧ ∃ x45 : Int, World.cell? w19 ⟨w9.heap.size, ((0 + 0) + 0), none⟩ = some (.int .i64 x45) ∧ ∃ p46 : Pt, s12.a = some ⟨p46.b, p46.o, none⟩ ∧ 0 ≤ x45 ∧ x45 < ((s12.n : Nat) : Int) ∧ ∃ x47 : Int, World.cell? w19 ⟨p46.b, (p46.o + Int.toNat x45 * 1), none⟩ = some (.int .i64 x47) ∧ ∃ p50 : Pt, s12.a = some ⟨p50.b, p50.o, none⟩ ∧ 0 ≤ x41 ∧ x41 < ((s12.n : Nat) : Int) ∧ StoreOk w19 p50.b (p50.o + Int.toNat x41 * 1) [(.int .i64 (if x9 > x47 then x9 else x47))] 1 ∧ Let (put w19 p50.b (p50.o + Int.toNat x41 * 1) [(.int .i64 (if x9 > x47 then x9 else x47))]) fun w20 => 
  J_8 w20) (fun J_9 =>
  cond b35 (
  J_9 (IntKind.wrap .i64 (x33 + (1 : Int))) w17) (
  J_9 x33 w17)))) (
  J_7 w14))))) (
  J_5 w9))))) (
  J_3 w6)))
theorem eq38 (s0 : Sl) (R : Value → World → Prop) (w : World) : funV Try.prog Try.f38 An38 [(.slice s0.a s0.n s0.c)] R w = S38 s0 R w := by kernel_rfl
theorem call38 (s0 : Sl) {R : Value → World → Prop} {w : World} (h : S38 s0 R w) : Calls Try.prog 38 [(.slice s0.a s0.n s0.c)].toArray w fun e w' => ∃ v, e = .returned v ∧ R v w' :=
  funV_calls mixed Try.func38 (an := An38) (by rw [eq38]; exact h)

/-- F45: cubeb/cubebref03.Model -/
def An45 : An := (.sq .lf (.sq .lf (.sq .lf (.sq (.sq .lf (.cd (.sq .lf .lf) .lf)) (.sq (.sq .lf (.bk [] (.lp [(24, .int .i64)] (.sq .lf (.sq (.cd .lf .lf) (.sq (.bk [] (.sq .lf (.sq .lf (.sq (.sq .lf (.bk [(10, .slice)] (.lp [(10, .slice), (29, .int .i64)] (.sq .lf (.sq (.cd .lf .lf) (.sq (.bk [(10, .slice)] (.sq .lf (.sq .lf (.cj [(10, .slice)] .lf .lf)))) .lf)))))) .lf)))) .lf)))))) (.sq .lf .lf))))))
def S45 (s0 : Sl) (s1 : Sl) (R : Value → World → Prop) (w : World) : Prop :=
  Let (w.alloc (.cells (zc Try.prog 43) 43)) fun w1 => 
  Calls Try.prog 38 [(.slice s0.a s0.n s0.c)].toArray w1 (fun e w2 => ∃ s15_0 : Sl, ∃ x15_1 : Int, e = .returned (.tuple [(.slice s15_0.a s15_0.n s15_0.c), (.int .i64 x15_1)].toArray) ∧
  Calls Try.prog 69 [(.slice s1.a s1.n s1.c)].toArray w2 (fun e_2 w3 => ∃ cs19 : List Value, cs19.length = 252 ∧ e_2 = .returned (.agg cs19.toArray) ∧
  Let (w3.alloc (.cells (zc Try.prog 43) 43)) fun w4 => 
  StoreOk w4 w3.heap.size 0 cs19 252 ∧ Let (put w4 w3.heap.size 0 cs19) fun w5 => 
  cond (x15_1 != (0 : Int)) (
  StoreOk w5 w.heap.size 0 [(.bool false), (.bool false), (.bool false), (.bool false), (.bool false), (.bool false), (.bool false), (.bool false), (.bool false), (.bool false), (.bool false), (.bool false), (.bool false), (.bool false), (.bool false), (.bool false), (.bool false), (.bool false), (.bool false), (.bool false), (.bool false), (.bool false), (.bool false), (.bool false), (.bool false), (.bool false), (.bool false), (.bool false), (.bool false), (.bool false), (.bool false), (.bool false), (.bool false), (.bool false), (.bool false), (.bool false), (.bool false), (.bool false), (.bool false), (.bool false), (.bool false), (.bool false), (.bool false), (.bool false), (.bool false), (.bool false), (.bool false), (.bool false), (.bool false), (.bool false), (.bool false), (.bool false), (.bool false), (.bool false), (.bool false), (.bool false), (.bool false), (.bool false), (.bool false), (.bool false), (.bool false), (.bool false), (.bool false), (.bool false), (.bool false), (.bool false), (.bool false), (.bool false), (.bool false), (.bool false), (.bool false), (.bool false), (.bool false), (.bool false), (.bool false), (.bool false), (.bool false), (.bool false), (.bool false), (.bool false), (.bool false), (.bool false), (.bool false), (.bool false), (.bool false), (.bool false), (.bool false), (.bool false), (.bool false), (.bool false), (.bool false), (.bool false), (.bool false), (.bool false), (.bool false), (.bool false), (.bool false), (.bool false), (.bool false), (.bool false), (.bool false), (.bool false), (.bool false), (.bool false), (.bool false), (.bool false), (.bool false), (.bool false), (.bool false), (.bool false), (.bool false), (.bool false), (.bool false), (.bool false), (.bool false), (.bool false), (.bool false), (.bool false), (.bool false), (.bool false), (.bool false), (.bool false), (.bool false), (.bool false), (.bool false), (.bool false), (.bool false), (.bool false), (.bool false), (.bool false), (.bool false), (.bool false), (.bool false), (.bool false), (.bool false), (.bool false), (.bool false), (.bool false), (.bool false), (.bool false), (.bool false), (.bool false), (.bool false), (.bool false), (.bool false), (.bool false), (.bool false), (.bool false), (.bool false), (.bool false), (.bool false), (.bool false), (.bool false), (.bool false), (.bool false), (.bool false), (.bool false), (.bool false), (.bool false), (.bool false), (.bool false), (.bool false), (.bool false), (.bool false), (.bool false), (.bool false), (.bool false), (.bool false), (.bool false), (.bool false), (.bool false), (.bool false), (.bool false), (.bool false), (.bool false), (.bool false), (.bool false), (.bool false), (.bool false), (.bool false), (.bool false), (.bool false), (.bool false), (.bool false), (.bool false), (.bool false), (.bool false), (.bool false), (.bool false), (.bool false), (.bool false), (.bool false), (.bool false), (.bool false), (.bool false), (.bool false), (.bool false), (.bool false), (.bool false), (.bool false), (.bool false), (.bool false), (.bool false), (.bool false), (.bool false), (.bool false), (.bool false), (.bool false), (.bool false), (.bool false), (.bool false), (.bool false), (.bool false), (.bool false), (.bool false), (.bool false), (.bool false), (.bool false), (.bool false), (.bool false), (.bool false), (.bool false), (.bool false), (.bool false), (.bool false), (.bool false), (.bool false), (.bool false), (.bool false), (.bool false), (.bool false), (.bool false), (.bool false), (.bool false), (.bool false), (.bool false), (.bool false), (.bool false), (.bool false), (.bool false), (.bool false), (.bool false), (.bool false), (.bool false), (.bool false), (.bool false), (.bool false), (.bool false), (.bool false), (.bool false), (.bool false), (.bool false)] 252 ∧ Let (put w5 w.heap.size 0 [(.bool false), (.bool false), (.bool false), (.bool false), (.bool false), (.bool false), (.bool false), (.bool false), (.bool false), (.bool false), (.bool false), (.bool false), (.bool false), (.bool false), (.bool false), (.bool false), (.bool false), (.bool false), (.bool false), (.bool false), (.bool false), (.bool false), (.bool false), (.bool false), (.bool false), (.bool false), (.bool false), (.bool false), (.bool false), (.bool false), (.bool false), (.bool false), (.bool false), (.bool false), (.bool false), (.bool false), (.bool false), (.bool false), (.bool false), (.bool false), (.bool false), (.bool false), (.bool false), (.bool false), (.bool false), (.bool false), (.bool false), (.bool false), (.bool false), (.bool false), (.bool false), (.bool false), (.bool false), (.bool false), (.bool false), (.bool false), (.bool false), (.bool false), (.bool false), (.bool false), (.bool false), (.bool false), (.bool false), (.bool false), (.bool false), (.bool false), (.bool false), (.bool false), (.bool false), (.bool false), (.bool false), (.bool false), (.bool false), (.bool false), (.bool false), (.bool false), (.bool false), (.bool false), (.bool false), (.bool false), (.bool false), (.bool false), (.bool false), (.bool false), (.bool false), (.bool false), (.bool false), (.bool false), (.bool false), (.bool false), (.bool false), (.bool false), (.bool false), (.bool false), (.bool false), (.bool false), (.bool false), (.bool false), (.bool false), (.bool false), (.bool false), (.bool false), (.bool false), (.bool false), (.bool false), (.bool false), (.bool false), (.bool false), (.bool false), (.bool false), (.bool false), (.bool false), (.bool false), (.bool false), (.bool false), (.bool false), (.bool false), (.bool false), (.bool false), (.bool false), (.bool false), (.bool false), (.bool false), (.bool false), (.bool false), (.bool false), (.bool false), (.bool false), (.bool false), (.bool false), (.bool false), (.bool false), (.bool false), (.bool false), (.bool false), (.bool false), (.bool false), (.bool false), (.bool false), (.bool false), (.bool false), (.bool false), (.bool false), (.bool false), (.bool false), (.bool false), (.bool false), (.bool false), (.bool false), (.bool false), (.bool false), (.bool false), (.bool false), (.bool false), (.bool false), (.bool false), (.bool false), (.bool false), (.bool false), (.bool false), (.bool false), (.bool false), (.bool false), (.bool false), (.bool false), (.bool false), (.bool false), (.bool false), (.bool false), (.bool false), (.bool false), (.bool false), (.bool false), (.bool false), (.bool false), (.bool false), (.bool false), (.bool false), (.bool false), (.bool false), (.bool false), (.bool false), (.bool false), (.bool false), (.bool false), (.bool false), (.bool false), (.bool false), (.bool false), (.bool false), (.bool false), (.bool false), (.bool false), (.bool false), (.bool false), (.bool false), (.bool false), (.bool false), (.bool false), (.bool false), (.bool false), (.bool false), (.bool false), (.bool false), (.bool false), (.bool false), (.bool false), (.bool false), (.bool false), (.bool false), (.bool false), (.bool false), (.bool false), (.bool false), (.bool false), (.bool false), (.bool false), (.bool false), (.bool false), (.bool false), (.bool false), (.bool false), (.bool false), (.bool false), (.bool false), (.bool false), (.bool false), (.bool false), (.bool false), (.bool false), (.bool false), (.bool false), (.bool false), (.bool false), (.bool false), (.bool false), (.bool false), (.bool false), (.bool false), (.bool false), (.bool false), (.bool false), (.bool false), (.bool false), (.bool false), (.bool false), (.bool false), (.bool false), (.bool false), (.bool false), (.bool false), (.bool false)]) fun w6 => 
  ∃ csr4 : List Value, csr4.length = 252 ∧ rd w6 w.heap.size 0 csr4 ∧ R (.tuple [(.agg csr4.toArray), (.int .i64 x15_1)].toArray) w6) (
  Join [] (fun (w7 : World) => ∃ cs51 : List Value, cs51.length = 252 ∧ rd w7 w3.heap.size 0 cs51 ∧ StoreOk w7 w.heap.size 0 cs51 252 ∧ Let (put w7 w.heap.size 0 cs51) fun w8 => 
  ∃ csr4_2 : List Value, csr4_2.length = 252 ∧ rd w8 w.heap.size 0 csr4_2 ∧ R (.tuple [(.agg csr4_2.toArray), (.int .i64 (0 : Int))].toArray) w8) (fun J =>
  LoopV [(24, .int .i64)] (fun K => K (0 : Int) w5) (fun N => fun (x24 : Int) (w9 : World) =>
  cond (decide (x24 < (6 : Int))) (
  Join [] (fun (w10 : World) => N (IntKind.wrap .i64 (x24 + (1 : Int))) w10) (fun J_2 =>
  Join [(10, .slice)] (fun (s10 : Sl) (w11 : World) => ∃ cs47 : List Value, cs47.length = 252 ∧ rd w11 w3.heap.size 0 cs47 ∧ ∃ cs48 : List Value, cs48.length = 252 ∧ rd w11 w3.heap.size 0 cs48 ∧ Calls Try.prog 70 [(.slice s10.a s10.n s10.c), (.agg cs47.toArray), (.agg cs48.toArray)].toArray w11 (fun e_3 w12 => ∃ cs49 : List Value, cs49.length = 252 ∧ e_3 = .returned (.agg cs49.toArray) ∧
  StoreOk w12 w3.heap.size 0 cs49 252 ∧ Let (put w12 w3.heap.size 0 cs49) fun w13 => 
  J_2 w13)) (fun J_3 =>
  LoopV [(10, .slice), (29, .int .i64)] (fun K => K ⟨none, 0, 0⟩ (0 : Int) w9) (fun N_2 => fun (s10_2 : Sl) (x29 : Int) (w14 : World) =>
  cond (decide (x29 < ((s0.n : Nat) : Int))) (
  Join [(10, .slice)] (fun (s10_3 : Sl) (w15 : World) => N_2 ⟨s10_3.a, s10_3.n, s10_3.c⟩ (IntKind.wrap .i64 (x29 + (1 : Int))) w15) (fun J_4 =>
  ∃ p31 : Pt, s0.a = some ⟨p31.b, p31.o, none⟩ ∧ 0 ≤ x29 ∧ x29 < ((s0.n : Nat) : Int) ∧ ∃ x32_0 : Int, ∃ s32_1 : Sl, ∃ s32_2 : Sl, rd w14 p31.b (p31.o + Int.toNat x29 * 3) [(.int .i64 x32_0), (.slice s32_1.a s32_1.n s32_1.c), (.slice s32_2.a s32_2.n s32_2.c)] ∧ Let (w14.alloc (.cells (zc Try.prog 94) 94)) fun w16 => 
  StoreOk w16 w14.heap.size 0 [(.int .i64 x32_0), (.slice s32_1.a s32_1.n s32_1.c), (.slice s32_2.a s32_2.n s32_2.c)] 3 ∧ Let (put w16 w14.heap.size 0 [(.int .i64 x32_0), (.slice s32_1.a s32_1.n s32_1.c), (.slice s32_2.a s32_2.n s32_2.c)]) fun w17 => 
  ∃ x36 : Int, World.cell? w17 ⟨w14.heap.size, ((0 + 0) + 0), none⟩ = some (.int .i64 x36) ∧ ∃ p37 : Pt, s15_0.a = some ⟨p37.b, p37.o, none⟩ ∧ 0 ≤ x36 ∧ x36 < ((s15_0.n : Nat) : Int) ∧ ∃ x38 : Int, World.cell? w17 ⟨p37.b, (p37.o + Int.toNat x36 * 1), none⟩ = some (.int .i64 x38) ∧ Join [(10, .slice)] (fun (s10_4 : Sl) (w18 : World) => J_4 ⟨s10_4.a, s10_4.n, s10_4.c⟩ w18) (fun J_5 =>
  cond (x38 == x24) (
  ∃ x42_0 : Int, ∃ s42_1 : Sl, ∃ s42_2 : Sl, rd w17 w14.heap.size 0 [(.int .i64 x42_0), (.slice s42_1.a s42_1.n s42_1.c), (.slice s42_2.a s42_2.n s42_2.c)] ∧ ∃ (s43 : Sl) (w19 : World), Sem.run Try.prog (Instr.buildSlice 22 1 [(0, (.agg [(.int .i64 x42_0), (.slice s42_1.a s42_1.n s42_1.c), (.slice s42_2.a s42_2.n s42_2.c)].toArray))].toArray) w17 = .ok (.slice s43.a s43.n s43.c) w19 ∧
  ∃ (s44 : Sl) (w20 : World), Sem.run Try.prog (Builtin.append_ #[22, 22] 22 #[(.slice s10_2.a s10_2.n s10_2.c), (.slice s43.a s43.n s43.c)]) w19 = .ok (.slice s44.a s44.n s44.c) w20 ∧
  J_5 ⟨s44.a, s44.n, s44.c⟩ w20) (
  J_5 ⟨s10_2.a, s10_2.n, s10_2.c⟩ w17)))) (
  J_3 ⟨s10_2.a, s10_2.n, s10_2.c⟩ w14))))) (
  J w9))))))
theorem eq45 (s0 : Sl) (s1 : Sl) (R : Value → World → Prop) (w : World) : funV Try.prog Try.f45 An45 [(.slice s0.a s0.n s0.c), (.slice s1.a s1.n s1.c)] R w = S45 s0 s1 R w := by kernel_rfl
theorem call45 (s0 : Sl) (s1 : Sl) {R : Value → World → Prop} {w : World} (h : S45 s0 s1 R w) : Calls Try.prog 45 [(.slice s0.a s0.n s0.c), (.slice s1.a s1.n s1.c)].toArray w fun e w' => ∃ v, e = .returned v ∧ R v w' :=
  funV_calls mixed Try.func45 (an := An45) (by rw [eq45]; exact h)

/-- F46: cubeb/cubebref03.Holds -/
def An46 : An := (.sq .lf (.sq .lf .lf))
def S46 (cs0 : List Value) (x1_0 : Int) (s1_1 : Sl) (R : Value → World → Prop) (w : World) : Prop :=
  Let (w.alloc (.cells cs0.toArray 43)) fun w1 => 
  Let (w1.alloc (.cells [(.int .i64 x1_0), (.slice s1_1.a s1_1.n s1_1.c)].toArray 36)) fun w2 => 
  ∃ x6 : Int, World.cell? w2 ⟨w1.heap.size, (0 + 0), none⟩ = some (.int .i64 x6) ∧ ∃ s8 : Sl, World.cell? w2 ⟨w1.heap.size, (0 + 1), none⟩ = some (.slice s8.a s8.n s8.c) ∧ Calls Try.prog 94 [(.int .i64 x6), (.slice s8.a s8.n s8.c)].toArray w2 (fun e w3 => ∃ x9 : Int, e = .returned (.int .i64 x9) ∧
  0 ≤ x9 ∧ x9 < ((252 : Nat) : Int) ∧ ∃ b11 : Bool, World.cell? w3 ⟨w.heap.size, (0 + Int.toNat x9 * 1), none⟩ = some (.bool b11) ∧ R (.bool b11) w3)
theorem eq46 (cs0 : List Value) (x1_0 : Int) (s1_1 : Sl) (R : Value → World → Prop) (w : World) : funV Try.prog Try.f46 An46 [(.agg cs0.toArray), (.agg [(.int .i64 x1_0), (.slice s1_1.a s1_1.n s1_1.c)].toArray)] R w = S46 cs0 x1_0 s1_1 R w := by kernel_rfl
theorem call46 (cs0 : List Value) (x1_0 : Int) (s1_1 : Sl) {R : Value → World → Prop} {w : World} (h : S46 cs0 x1_0 s1_1 R w) : Calls Try.prog 46 [(.agg cs0.toArray), (.agg [(.int .i64 x1_0), (.slice s1_1.a s1_1.n s1_1.c)].toArray)].toArray w fun e w' => ∃ v, e = .returned v ∧ R v w' :=
  funV_calls mixed Try.func46 (an := An46) (by rw [eq46]; exact h)

/-- F26: cubeb/cubebref03.Founded -/
def An26 : An := (.sq .lf (.sq .lf (.sq .lf (.bk [] (.lp [] (.bk [] (.sq .lf (.sq .lf (.sq (.sq .lf (.cd (.sq (.sq .lf (.bk [] (.lp [(26, .int .i64)] (.sq .lf (.sq (.cd .lf .lf) (.sq (.bk [] (.sq .lf (.rj [] []))) .lf)))))) (.sq (.dr [0, 1, 2, 3] [3] true none) .lf)) .lf)) .lf)))))))))
def S26 (s0 : Sl) (s1 : Sl) (R : Value → World → Prop) (w : World) : Prop :=
  Let (w.alloc (.cells (zc Try.prog 43) 43)) fun w1 => 
  Let (w1.alloc (.cells (zc Try.prog 43) 43)) fun w2 => 
  Calls Try.prog 69 [(.slice s1.a s1.n s1.c)].toArray w2 (fun e w3 => ∃ cs13 : List Value, cs13.length = 252 ∧ e = .returned (.agg cs13.toArray) ∧
  Let (w3.alloc (.cells (zc Try.prog 43) 43)) fun w4 => 
  StoreOk w4 w3.heap.size 0 cs13 252 ∧ Let (put w4 w3.heap.size 0 cs13) fun w5 => 
  Let (w5.alloc (.cells (zc Try.prog 43) 43)) fun w6 => 
  Join [] (fun (w7 : World) => ∃ csr4 : List Value, csr4.length = 252 ∧ rd w7 w.heap.size 0 csr4 ∧ ∃ csr5 : List Value, csr5.length = 252 ∧ rd w7 w1.heap.size 0 csr5 ∧ R (.tuple [(.agg csr4.toArray), (.agg csr5.toArray)].toArray) w7) (fun J =>
  LoopV [] (fun K => K w6) (fun N => fun (w8 : World) =>
  Join [] (fun (w9 : World) => N w9) (fun J_2 =>
  ∃ cs15 : List Value, cs15.length = 252 ∧ rd w8 w3.heap.size 0 cs15 ∧ ∃ cs16 : List Value, cs16.length = 252 ∧ rd w8 w5.heap.size 0 cs16 ∧ Calls Try.prog 70 [(.slice s0.a s0.n s0.c), (.agg cs15.toArray), (.agg cs16.toArray)].toArray w8 (fun e_2 w10 => ∃ cs17 : List Value, cs17.length = 252 ∧ e_2 = .returned (.agg cs17.toArray) ∧
  Let (w10.alloc (.cells (zc Try.prog 43) 43)) fun w11 => 
  StoreOk w11 w10.heap.size 0 cs17 252 ∧ Let (put w11 w10.heap.size 0 cs17) fun w12 => 
  ∃ cs19 : List Value, cs19.length = 252 ∧ rd w12 w3.heap.size 0 cs19 ∧ ∃ cs20 : List Value, cs20.length = 252 ∧ rd w12 w10.heap.size 0 cs20 ∧ Calls Try.prog 70 [(.slice s0.a s0.n s0.c), (.agg cs19.toArray), (.agg cs20.toArray)].toArray w12 (fun e_3 w13 => ∃ cs21 : List Value, cs21.length = 252 ∧ e_3 = .returned (.agg cs21.toArray) ∧
  Let (w13.alloc (.cells (zc Try.prog 43) 43)) fun w14 => 
  StoreOk w14 w13.heap.size 0 cs21 252 ∧ Let (put w14 w13.heap.size 0 cs21) fun w15 => 
  ∃ cs22 : List Value, cs22.length = 252 ∧ rd w15 w13.heap.size 0 cs22 ∧ ∃ cs23 : List Value, cs23.length = 252 ∧ rd w15 w5.heap.size 0 cs23 ∧ ∃ r24 : Bool, (∀ w, Sem.run Try.prog (aggEq .eql 43 (.agg cs22.toArray) (.agg cs23.toArray)) w = .ok (.bool r24) w) ∧ cond r24 (
  ∃ cs25 : List Value, cs25.length = 252 ∧ rd w15 w5.heap.size 0 cs25 ∧ Join [] (fun (w16 : World) => ∃ S1 : World → Prop, S1 w16.drew ∧ Let w16.drew fun w17 =>
  ∃ cs40 : List Value, cs40.length = 252 ∧ (∀ u, S1 u → rd u w5.heap.size 0 cs40) ∧ ∃ cs41 : List Value, cs41.length = 252 ∧ (∀ u, S1 u → rd u w10.heap.size 0 cs41) ∧ StoreOk w17 w.heap.size 0 cs40 252 ∧ Let (put w17 w.heap.size 0 cs40) fun w18 => 
  S1 w18 ∧ StoreOk w18 w1.heap.size 0 cs41 252 ∧ Let (put w18 w1.heap.size 0 cs41) fun w19 => 
  ∃ csr4_2 : List Value, csr4_2.length = 252 ∧ rd w19 w.heap.size 0 csr4_2 ∧ ∃ csr5_2 : List Value, csr5_2.length = 252 ∧ rd w19 w1.heap.size 0 csr5_2 ∧ R (.tuple [(.agg csr4_2.toArray), (.agg csr5_2.toArray)].toArray) w19) (fun J_3 =>
  LoopV [(26, .int .i64)] (fun K => K (0 : Int) w15) (fun N_2 => fun (x26 : Int) (w20 : World) =>
  cond (decide (x26 < (252 : Int))) (
  Join [] (fun (w21 : World) => N_2 (IntKind.wrap .i64 (x26 + (1 : Int))) w21) (fun J_4 =>
  0 ≤ x26 ∧ x26 < ((252 : Nat) : Int) ∧ ∃ b29 : Bool, (cs25 : List Value)[Int.toNat x26]? = some (.bool b29) ∧ Join [] (fun (w22 : World) => J_4 w22) (fun J_5 =>
  0 ≤ x26 ∧ x26 < ((252 : Nat) : Int) ∧ ∃ b33 : Bool, World.cell? w20 ⟨w10.heap.size, (0 + Int.toNat x26 * 1), none⟩ = some (.bool b33) ∧ cond b33 (0 ≤ x26 ∧ x26 < ((252 : Nat) : Int) ∧ StoreOk w20 w10.heap.size (0 + Int.toNat x26 * 1) [(.bool (!b29))] 1 ∧ Let (put w20 w10.heap.size (0 + Int.toNat x26 * 1) [(.bool (!b29))]) fun w23 => 
  J_5 w23) (0 ≤ x26 ∧ x26 < ((252 : Nat) : Int) ∧ StoreOk w20 w10.heap.size (0 + Int.toNat x26 * 1) [(.bool false)] 1 ∧ Let (put w20 w10.heap.size (0 + Int.toNat x26 * 1) [(.bool false)]) fun w24 => 
  J_5 w24)))) (
  J_3 w20)))) (
  ∃ cs42 : List Value, cs42.length = 252 ∧ rd w15 w13.heap.size 0 cs42 ∧ StoreOk w15 w5.heap.size 0 cs42 252 ∧ Let (put w15 w5.heap.size 0 cs42) fun w25 => 
  J_2 w25)))))))
theorem eq26 (s0 : Sl) (s1 : Sl) (R : Value → World → Prop) (w : World) : funV Try.prog Try.f26 An26 [(.slice s0.a s0.n s0.c), (.slice s1.a s1.n s1.c)] R w = S26 s0 s1 R w := by kernel_rfl
theorem call26 (s0 : Sl) (s1 : Sl) {R : Value → World → Prop} {w : World} (h : S26 s0 s1 R w) : Calls Try.prog 26 [(.slice s0.a s0.n s0.c), (.slice s1.a s1.n s1.c)].toArray w fun e w' => ∃ v, e = .returned v ∧ R v w' :=
  funV_calls mixed Try.func26 (an := An26) (by rw [eq26]; exact h)

/-- F82: cubeb/cubebref03.Enough -/
def An82 : An := (.sq .lf (.sq .lf (.sq (.sq .lf (.bk [(9, .slice)] (.lp [(9, .slice), (14, .int .i64)] (.sq .lf (.sq (.cd .lf .lf) (.sq (.bk [(9, .slice)] (.sq .lf (.sq .lf (.cj [(9, .slice)] .lf .lf)))) .lf)))))) (.sq (.dr [0, 1, 3, 5, 6, 7, 8, 2, 4, 9, 10, 11] [9] true none) .lf))))
def S82 (s0 : Sl) (s1 : Sl) (x2 : Int) (x3_0 : Int) (s3_1 : Sl) (R : Value → World → Prop) (w : World) : Prop :=
  Let (w.alloc (.cells [(.int .i64 x3_0), (.slice s3_1.a s3_1.n s3_1.c)].toArray 36)) fun w1 => 
  Join [(9, .slice)] (fun (s9 : Sl) (w2 : World) => ∃ S1 : World → Prop, S1 w2.drew ∧ Let w2.drew fun w3 =>
  ∃ x35 : Int, (∀ u, S1 u → World.cell? u ⟨w.heap.size, (0 + 0), none⟩ = some (.int .i64 x35)) ∧ ∃ s37 : Sl, (∀ u, S1 u → World.cell? u ⟨w.heap.size, (0 + 1), none⟩ = some (.slice s37.a s37.n s37.c)) ∧ Calls Try.prog 69 [(.slice s9.a s9.n s9.c)].toArray w3 (fun e w4 => ∃ cs31 : List Value, cs31.length = 252 ∧ e = .returned (.agg cs31.toArray) ∧
  S1 w4 ∧ Calls Try.prog 70 [(.slice s0.a s0.n s0.c), (.agg cs31.toArray), (.agg [(.bool false), (.bool false), (.bool false), (.bool false), (.bool false), (.bool false), (.bool false), (.bool false), (.bool false), (.bool false), (.bool false), (.bool false), (.bool false), (.bool false), (.bool false), (.bool false), (.bool false), (.bool false), (.bool false), (.bool false), (.bool false), (.bool false), (.bool false), (.bool false), (.bool false), (.bool false), (.bool false), (.bool false), (.bool false), (.bool false), (.bool false), (.bool false), (.bool false), (.bool false), (.bool false), (.bool false), (.bool false), (.bool false), (.bool false), (.bool false), (.bool false), (.bool false), (.bool false), (.bool false), (.bool false), (.bool false), (.bool false), (.bool false), (.bool false), (.bool false), (.bool false), (.bool false), (.bool false), (.bool false), (.bool false), (.bool false), (.bool false), (.bool false), (.bool false), (.bool false), (.bool false), (.bool false), (.bool false), (.bool false), (.bool false), (.bool false), (.bool false), (.bool false), (.bool false), (.bool false), (.bool false), (.bool false), (.bool false), (.bool false), (.bool false), (.bool false), (.bool false), (.bool false), (.bool false), (.bool false), (.bool false), (.bool false), (.bool false), (.bool false), (.bool false), (.bool false), (.bool false), (.bool false), (.bool false), (.bool false), (.bool false), (.bool false), (.bool false), (.bool false), (.bool false), (.bool false), (.bool false), (.bool false), (.bool false), (.bool false), (.bool false), (.bool false), (.bool false), (.bool false), (.bool false), (.bool false), (.bool false), (.bool false), (.bool false), (.bool false), (.bool false), (.bool false), (.bool false), (.bool false), (.bool false), (.bool false), (.bool false), (.bool false), (.bool false), (.bool false), (.bool false), (.bool false), (.bool false), (.bool false), (.bool false), (.bool false), (.bool false), (.bool false), (.bool false), (.bool false), (.bool false), (.bool false), (.bool false), (.bool false), (.bool false), (.bool false), (.bool false), (.bool false), (.bool false), (.bool false), (.bool false), (.bool false), (.bool false), (.bool false), (.bool false), (.bool false), (.bool false), (.bool false), (.bool false), (.bool false), (.bool false), (.bool false), (.bool false), (.bool false), (.bool false), (.bool false), (.bool false), (.bool false), (.bool false), (.bool false), (.bool false), (.bool false), (.bool false), (.bool false), (.bool false), (.bool false), (.bool false), (.bool false), (.bool false), (.bool false), (.bool false), (.bool false), (.bool false), (.bool false), (.bool false), (.bool false), (.bool false), (.bool false), (.bool false), (.bool false), (.bool false), (.bool false), (.bool false), (.bool false), (.bool false), (.bool false), (.bool false), (.bool false), (.bool false), (.bool false), (.bool false), (.bool false), (.bool false), (.bool false), (.bool false), (.bool false), (.bool false), (.bool false), (.bool false), (.bool false), (.bool false), (.bool false), (.bool false), (.bool false), (.bool false), (.bool false), (.bool false), (.bool false), (.bool false), (.bool false), (.bool false), (.bool false), (.bool false), (.bool false), (.bool false), (.bool false), (.bool false), (.bool false), (.bool false), (.bool false), (.bool false), (.bool false), (.bool false), (.bool false), (.bool false), (.bool false), (.bool false), (.bool false), (.bool false), (.bool false), (.bool false), (.bool false), (.bool false), (.bool false), (.bool false), (.bool false), (.bool false), (.bool false), (.bool false), (.bool false), (.bool false), (.bool false), (.bool false), (.bool false), (.bool false), (.bool false), (.bool false), (.bool false), (.bool false), (.bool false), (.bool false), (.bool false)].toArray)].toArray w4 (fun e_2 w5 => ∃ cs33 : List Value, cs33.length = 252 ∧ e_2 = .returned (.agg cs33.toArray) ∧
  S1 w5 ∧ Calls Try.prog 94 [(.int .i64 x35), (.slice s37.a s37.n s37.c)].toArray w5 (fun e_3 w6 => ∃ x38 : Int, e_3 = .returned (.int .i64 x38) ∧
  0 ≤ x38 ∧ x38 < ((252 : Nat) : Int) ∧ ∃ b39 : Bool, (cs33 : List Value)[Int.toNat x38]? = some (.bool b39) ∧ R (.bool b39) w6)))) (fun J =>
  LoopV [(9, .slice), (14, .int .i64)] (fun K => K ⟨none, 0, 0⟩ (0 : Int) w1) (fun N => fun (s9_2 : Sl) (x14 : Int) (w7 : World) =>
  cond (decide (x14 < ((s1.n : Nat) : Int))) (
  Join [(9, .slice)] (fun (s9_3 : Sl) (w8 : World) => N ⟨s9_3.a, s9_3.n, s9_3.c⟩ (IntKind.wrap .i64 (x14 + (1 : Int))) w8) (fun J_2 =>
  ∃ p17 : Pt, s1.a = some ⟨p17.b, p17.o, none⟩ ∧ 0 ≤ x14 ∧ x14 < ((s1.n : Nat) : Int) ∧ ∃ x18_0 : Int, ∃ s18_1 : Sl, rd w7 p17.b (p17.o + Int.toNat x14 * 2) [(.int .i64 x18_0), (.slice s18_1.a s18_1.n s18_1.c)] ∧ Let (w7.alloc (.cells (zc Try.prog 36) 36)) fun w9 => 
  StoreOk w9 w7.heap.size 0 [(.int .i64 x18_0), (.slice s18_1.a s18_1.n s18_1.c)] 2 ∧ Let (put w9 w7.heap.size 0 [(.int .i64 x18_0), (.slice s18_1.a s18_1.n s18_1.c)]) fun w10 => 
  0 ≤ x14 ∧ Join [(9, .slice)] (fun (s9_4 : Sl) (w11 : World) => J_2 ⟨s9_4.a, s9_4.n, s9_4.c⟩ w11) (fun J_3 =>
  cond ((bitsI .and .i64 (Int.fdiv x2 (2 ^ (min (Int.toNat x14) (IntKind.bits .i64)))) (1 : Int)) == (1 : Int)) (
  ∃ x25_0 : Int, ∃ s25_1 : Sl, rd w10 w7.heap.size 0 [(.int .i64 x25_0), (.slice s25_1.a s25_1.n s25_1.c)] ∧ ∃ (s26 : Sl) (w12 : World), Sem.run Try.prog (Instr.buildSlice 23 1 [(0, (.agg [(.int .i64 x25_0), (.slice s25_1.a s25_1.n s25_1.c)].toArray))].toArray) w10 = .ok (.slice s26.a s26.n s26.c) w12 ∧
  ∃ (s27 : Sl) (w13 : World), Sem.run Try.prog (Builtin.append_ #[23, 23] 23 #[(.slice s9_2.a s9_2.n s9_2.c), (.slice s26.a s26.n s26.c)]) w12 = .ok (.slice s27.a s27.n s27.c) w13 ∧
  J_3 ⟨s27.a, s27.n, s27.c⟩ w13) (
  J_3 ⟨s9_2.a, s9_2.n, s9_2.c⟩ w10)))) (
  J ⟨s9_2.a, s9_2.n, s9_2.c⟩ w7)))
theorem eq82 (s0 : Sl) (s1 : Sl) (x2 : Int) (x3_0 : Int) (s3_1 : Sl) (R : Value → World → Prop) (w : World) : funV Try.prog Try.f82 An82 [(.slice s0.a s0.n s0.c), (.slice s1.a s1.n s1.c), (.int .i64 x2), (.agg [(.int .i64 x3_0), (.slice s3_1.a s3_1.n s3_1.c)].toArray)] R w = S82 s0 s1 x2 x3_0 s3_1 R w := by kernel_rfl
theorem call82 (s0 : Sl) (s1 : Sl) (x2 : Int) (x3_0 : Int) (s3_1 : Sl) {R : Value → World → Prop} {w : World} (h : S82 s0 s1 x2 x3_0 s3_1 R w) : Calls Try.prog 82 [(.slice s0.a s0.n s0.c), (.slice s1.a s1.n s1.c), (.int .i64 x2), (.agg [(.int .i64 x3_0), (.slice s3_1.a s3_1.n s3_1.c)].toArray)].toArray w fun e w' => ∃ v, e = .returned v ∧ R v w' :=
  funV_calls mixed Try.func82 (an := An82) (by rw [eq82]; exact h)

/-- F33: cubeb/cubebref03.Sources -/
def An33 : An := (.sq .lf (.sq .lf (.sq (.sq (.dr [0, 1, 2, 3, 4, 5, 6, 7, 8] [] true none) (.cd (.sq .lf .lf) .lf)) (.sq (.sq .lf (.bk [(7, .slice)] (.lp [(7, .slice), (24, .int .i64)] (.sq .lf (.sq (.cd .lf .lf) (.sq (.bk [(7, .slice)] (.sq .lf (.sq .lf (.sq (.sq .lf (.bk [(9, .bool)] (.lp [(9, .bool), (29, .int .i64)] (.sq .lf (.sq (.cd .lf .lf) (.sq (.bk [(9, .bool)] (.sq .lf (.rj [] [(9, .bool)]))) .lf)))))) (.sq (.rj [] [(48, .bool)]) (.cj [(7, .slice)] .lf .lf)))))) .lf)))))) (.sq .lf .lf)))))
def S33 (s0 : Sl) (s1 : Sl) (x2_0 : Int) (s2_1 : Sl) (R : Value → World → Prop) (w : World) : Prop :=
  Let (w.alloc (.cells [(.int .i64 x2_0), (.slice s2_1.a s2_1.n s2_1.c)].toArray 36)) fun w1 => 
  ∃ S1 : World → Prop, S1 w1.drew ∧ Let w1.drew fun w2 =>
  0 ≤ ((s1.n : Nat) : Int) ∧ ∃ x18_0 : Int, ∃ s18_1 : Sl, (∀ u, S1 u → rd u w.heap.size 0 [(.int .i64 x18_0), (.slice s18_1.a s18_1.n s18_1.c)]) ∧ Calls Try.prog 82 [(.slice s0.a s0.n s0.c), (.slice s1.a s1.n s1.c), (.int .i64 (IntKind.wrap .i64 ((IntKind.wrap .i64 ((1 : Int) * 2 ^ (min (Int.toNat ((s1.n : Nat) : Int)) (IntKind.bits .i64)))) - (1 : Int)))), (.agg [(.int .i64 x18_0), (.slice s18_1.a s18_1.n s18_1.c)].toArray)].toArray w2 (fun e w3 => ∃ b19 : Bool, e = .returned (.bool b19) ∧
  S1 w3 ∧ cond (!b19) (
  R (.slice none 0 0) w3) (
  0 ≤ ((s1.n : Nat) : Int) ∧ Join [(7, .slice)] (fun (s7 : Sl) (w4 : World) => R (.slice s7.a s7.n s7.c) w4) (fun J =>
  LoopV [(7, .slice), (24, .int .i64)] (fun K => K ⟨none, 0, 0⟩ (0 : Int) w3) (fun N => fun (s7_2 : Sl) (x24 : Int) (w5 : World) =>
  cond (decide (x24 < (IntKind.wrap .i64 ((1 : Int) * 2 ^ (min (Int.toNat ((s1.n : Nat) : Int)) (IntKind.bits .i64)))))) (
  Join [(7, .slice)] (fun (s7_3 : Sl) (w6 : World) => N ⟨s7_3.a, s7_3.n, s7_3.c⟩ (IntKind.wrap .i64 (x24 + (1 : Int))) w6) (fun J_2 =>
  Join [(9, .bool)] (fun (b9 : Bool) (w7 : World) => Join [(48, .bool)] (fun (b48 : Bool) (w8 : World) => Join [(7, .slice)] (fun (s7_4 : Sl) (w9 : World) => J_2 ⟨s7_4.a, s7_4.n, s7_4.c⟩ w9) (fun J_3 =>
  cond b48 (
  ∃ (s51 : Sl) (w10 : World), Sem.run Try.prog (Instr.buildSlice 34 1 [(0, (.int .i64 x24))].toArray) w8 = .ok (.slice s51.a s51.n s51.c) w10 ∧
  ∃ (s52 : Sl) (w11 : World), Sem.run Try.prog (Builtin.append_ #[34, 34] 34 #[(.slice s7_2.a s7_2.n s7_2.c), (.slice s51.a s51.n s51.c)]) w10 = .ok (.slice s52.a s52.n s52.c) w11 ∧
  J_3 ⟨s52.a, s52.n, s52.c⟩ w11) (
  J_3 ⟨s7_2.a, s7_2.n, s7_2.c⟩ w8))) (fun J_4 =>
  cond b9 (∃ x46_0 : Int, ∃ s46_1 : Sl, rd w7 w.heap.size 0 [(.int .i64 x46_0), (.slice s46_1.a s46_1.n s46_1.c)] ∧ Calls Try.prog 82 [(.slice s0.a s0.n s0.c), (.slice s1.a s1.n s1.c), (.int .i64 x24), (.agg [(.int .i64 x46_0), (.slice s46_1.a s46_1.n s46_1.c)].toArray)].toArray w7 (fun e_2 w12 => ∃ b47 : Bool, e_2 = .returned (.bool b47) ∧
  J_4 b47 w12)) (J_4 false w7))) (fun J_5 =>
  LoopV [(9, .bool), (29, .int .i64)] (fun K => K true (0 : Int) w5) (fun N_2 => fun (b9_2 : Bool) (x29 : Int) (w13 : World) =>
  cond (decide (x29 < ((s7_2.n : Nat) : Int))) (
  Join [(9, .bool)] (fun (b9_3 : Bool) (w14 : World) => N_2 b9_3 (IntKind.wrap .i64 (x29 + (1 : Int))) w14) (fun J_6 =>
  ∃ p31 : Pt, s7_2.a = some ⟨p31.b, p31.o, none⟩ ∧ 0 ≤ x29 ∧ x29 < ((s7_2.n : Nat) : Int) ∧ ∃ x32 : Int, World.cell? w13 ⟨p31.b, (p31.o + Int.toNat x29 * 1), none⟩ = some (.int .i64 x32) ∧ Join [(9, .bool)] (fun (b9_4 : Bool) (w15 : World) => J_6 b9_4 w15) (fun J_7 =>
  cond b9_2 (J_7 ((bitsI .andNot .i64 x32 x24) != (0 : Int)) w13) (J_7 false w13)))) (
  J_5 b9_2 w13))))) (
  J ⟨s7_2.a, s7_2.n, s7_2.c⟩ w5)))))
theorem eq33 (s0 : Sl) (s1 : Sl) (x2_0 : Int) (s2_1 : Sl) (R : Value → World → Prop) (w : World) : funV Try.prog Try.f33 An33 [(.slice s0.a s0.n s0.c), (.slice s1.a s1.n s1.c), (.agg [(.int .i64 x2_0), (.slice s2_1.a s2_1.n s2_1.c)].toArray)] R w = S33 s0 s1 x2_0 s2_1 R w := by kernel_rfl
theorem call33 (s0 : Sl) (s1 : Sl) (x2_0 : Int) (s2_1 : Sl) {R : Value → World → Prop} {w : World} (h : S33 s0 s1 x2_0 s2_1 R w) : Calls Try.prog 33 [(.slice s0.a s0.n s0.c), (.slice s1.a s1.n s1.c), (.agg [(.int .i64 x2_0), (.slice s2_1.a s2_1.n s2_1.c)].toArray)].toArray w fun e w' => ∃ v, e = .returned v ∧ R v w' :=
  funV_calls mixed Try.func33 (an := An33) (by rw [eq33]; exact h)

/-- F41: cubeb/cubebref03.Needed -/
def An41 : An := (.sq .lf (.sq .lf (.sq .lf (.sq (.sq .lf (.bk [] (.lp [(15, .int .i64)] (.sq .lf (.sq (.cd .lf .lf) (.sq (.bk [] (.sq .lf (.bk [] (.lp [(19, .int .i64)] (.sq .lf (.sq (.cd .lf .lf) (.sq (.bk [] (.sq .lf (.sq .lf (.bk [] (.lp [(26, .int .i64)] (.sq .lf (.sq (.cd .lf .lf) (.sq (.bk [] (.sq .lf (.dr [0, 1, 2, 3, 4, 5, 6, 7, 8, 9, 10, 11, 12, 13, 14, 15, 16] [] false (some [])))) .lf)))))))) .lf))))))) .lf)))))) (.sq .lf (.sq (.sq .lf (.bk [(10, .slice)] (.lp [(10, .slice), (51, .int .i64)] (.sq .lf (.sq (.cd .lf .lf) (.sq (.bk [(10, .slice)] (.sq .lf (.sq .lf (.cj [(10, .slice)] .lf .lf)))) .lf)))))) (.sq .lf .lf)))))))
def S41 (s0 : Sl) (x1 : Int) (R : Value → World → Prop) (w : World) : Prop :=
  Let (w.alloc (.cells (zc Try.prog 143) 143)) fun w1 => 
  0 ≤ x1 ∧ x1 < ((6 : Nat) : Int) ∧ StoreOk w1 w.heap.size (0 + Int.toNat x1 * 1) [(.bool true)] 1 ∧ Let (put w1 w.heap.size (0 + Int.toNat x1 * 1) [(.bool true)]) fun w2 => 
  Join [] (fun (w3 : World) => Join [(10, .slice)] (fun (s10 : Sl) (w4 : World) => R (.slice s10.a s10.n s10.c) w4) (fun J =>
  LoopV [(10, .slice), (51, .int .i64)] (fun K => K ⟨none, 0, 0⟩ (0 : Int) w3) (fun N => fun (s10_2 : Sl) (x51 : Int) (w5 : World) =>
  cond (decide (x51 < ((s0.n : Nat) : Int))) (
  Join [(10, .slice)] (fun (s10_3 : Sl) (w6 : World) => N ⟨s10_3.a, s10_3.n, s10_3.c⟩ (IntKind.wrap .i64 (x51 + (1 : Int))) w6) (fun J_2 =>
  ∃ p53 : Pt, s0.a = some ⟨p53.b, p53.o, none⟩ ∧ 0 ≤ x51 ∧ x51 < ((s0.n : Nat) : Int) ∧ ∃ x54_0 : Int, ∃ s54_1 : Sl, ∃ s54_2 : Sl, rd w5 p53.b (p53.o + Int.toNat x51 * 3) [(.int .i64 x54_0), (.slice s54_1.a s54_1.n s54_1.c), (.slice s54_2.a s54_2.n s54_2.c)] ∧ Let (w5.alloc (.cells (zc Try.prog 94) 94)) fun w7 => 
  StoreOk w7 w5.heap.size 0 [(.int .i64 x54_0), (.slice s54_1.a s54_1.n s54_1.c), (.slice s54_2.a s54_2.n s54_2.c)] 3 ∧ Let (put w7 w5.heap.size 0 [(.int .i64 x54_0), (.slice s54_1.a s54_1.n s54_1.c), (.slice s54_2.a s54_2.n s54_2.c)]) fun w8 => 
  ∃ x57 : Int, World.cell? w8 ⟨w5.heap.size, ((0 + 0) + 0), none⟩ = some (.int .i64 x57) ∧ 0 ≤ x57 ∧ x57 < ((6 : Nat) : Int) ∧ ∃ b59 : Bool, World.cell? w8 ⟨w.heap.size, (0 + Int.toNat x57 * 1), none⟩ = some (.bool b59) ∧ Join [(10, .slice)] (fun (s10_4 : Sl) (w9 : World) => J_2 ⟨s10_4.a, s10_4.n, s10_4.c⟩ w9) (fun J_3 =>
  cond b59 (
  ∃ x61_0 : Int, ∃ s61_1 : Sl, ∃ s61_2 : Sl, rd w8 w5.heap.size 0 [(.int .i64 x61_0), (.slice s61_1.a s61_1.n s61_1.c), (.slice s61_2.a s61_2.n s61_2.c)] ∧ ∃ (s62 : Sl) (w10 : World), Sem.run Try.prog (Instr.buildSlice 22 1 [(0, (.agg [(.int .i64 x61_0), (.slice s61_1.a s61_1.n s61_1.c), (.slice s61_2.a s61_2.n s61_2.c)].toArray))].toArray) w8 = .ok (.slice s62.a s62.n s62.c) w10 ∧
  ∃ (s63 : Sl) (w11 : World), Sem.run Try.prog (Builtin.append_ #[22, 22] 22 #[(.slice s10_2.a s10_2.n s10_2.c), (.slice s62.a s62.n s62.c)]) w10 = .ok (.slice s63.a s63.n s63.c) w11 ∧
  J_3 ⟨s63.a, s63.n, s63.c⟩ w11) (
  J_3 ⟨s10_2.a, s10_2.n, s10_2.c⟩ w8)))) (
  J ⟨s10_2.a, s10_2.n, s10_2.c⟩ w5)))) (fun J_4 =>
  LoopV [(15, .int .i64)] (fun K => K (0 : Int) w2) (fun N_2 => fun (x15 : Int) (w12 : World) =>
  cond (decide (x15 < (6 : Int))) (
  Join [] (fun (w13 : World) => N_2 (IntKind.wrap .i64 (x15 + (1 : Int))) w13) (fun J_5 =>
  Join [] (fun (w14 : World) => J_5 w14) (fun J_6 =>
  LoopV [(19, .int .i64)] (fun K => K (0 : Int) w12) (fun N_3 => fun (x19 : Int) (w15 : World) =>
  cond (decide (x19 < ((s0.n : Nat) : Int))) (
  Join [] (fun (w16 : World) => N_3 (IntKind.wrap .i64 (x19 + (1 : Int))) w16) (fun J_7 =>
  ∃ p21 : Pt, s0.a = some ⟨p21.b, p21.o, none⟩ ∧ 0 ≤ x19 ∧ x19 < ((s0.n : Nat) : Int) ∧ ∃ x22_0 : Int, ∃ s22_1 : Sl, ∃ s22_2 : Sl, rd w15 p21.b (p21.o + Int.toNat x19 * 3) [(.int .i64 x22_0), (.slice s22_1.a s22_1.n s22_1.c), (.slice s22_2.a s22_2.n s22_2.c)] ∧ Let (w15.alloc (.cells (zc Try.prog 94) 94)) fun w17 => 
  StoreOk w17 w15.heap.size 0 [(.int .i64 x22_0), (.slice s22_1.a s22_1.n s22_1.c), (.slice s22_2.a s22_2.n s22_2.c)] 3 ∧ Let (put w17 w15.heap.size 0 [(.int .i64 x22_0), (.slice s22_1.a s22_1.n s22_1.c), (.slice s22_2.a s22_2.n s22_2.c)]) fun w18 => 
  ∃ s24 : Sl, World.cell? w18 ⟨w15.heap.size, (0 + 2), none⟩ = some (.slice s24.a s24.n s24.c) ∧ Join [] (fun (w19 : World) => J_7 w19) (fun J_8 =>
  LoopV [(26, .int .i64)] (fun K => K (0 : Int) w18) (fun N_4 => fun (x26 : Int) (w20 : World) =>
  cond (decide (x26 < ((s24.n : Nat) : Int))) (
  Join [] (fun (w21 : World) => N_4 (IntKind.wrap .i64 (x26 + (1 : Int))) w21) (fun J_9 =>
  ∃ p28 : Pt, s24.a = some ⟨p28.b, p28.o, none⟩ ∧ 0 ≤ x26 ∧ x26 < ((s24.n : Nat) : Int) ∧ ∃ b29_0 : Bool, ∃ x29_1 : Int, ∃ s29_2 : Sl, rd w20 p28.b (p28.o + Int.toNat x26 * 3) [(.bool b29_0), (.int .i64 x29_1), (.slice s29_2.a s29_2.n s29_2.c)] ∧ Let (w20.alloc (.cells (zc Try.prog 96) 96)) fun w22 => 
  StoreOk w22 w20.heap.size 0 [(.bool b29_0), (.int .i64 x29_1), (.slice s29_2.a s29_2.n s29_2.c)] 3 ∧ Let (put w22 w20.heap.size 0 [(.bool b29_0), (.int .i64 x29_1), (.slice s29_2.a s29_2.n s29_2.c)]) fun w23 => 
  Join [] (fun (w24 : World) => J_9 w24) (fun J_10 =>
  Let w23.drew fun w25 =>
  ∃ x32 : Int, World.cell? w25 ⟨w20.heap.size, ((0 + 1) + 0), none⟩ = some (.int .i64 x32) ∧ ∃ x35 : Int, World.cell? w25 ⟨w20.heap.size, ((0 + 1) + 0), none⟩ = some (.int .i64 x35) ∧ 0 ≤ x35 ∧ x35 < ((6 : Nat) : Int) ∧ ∃ b37 : Bool, World.cell? w25 ⟨w.heap.size, (0 + Int.toNat x35 * 1), none⟩ = some (.bool b37) ∧ cond b37 (0 ≤ x32 ∧ x32 < ((6 : Nat) : Int) ∧ StoreOk w25 w.heap.size (0 + Int.toNat x32 * 1) [(.bool true)] 1 ∧ Let (put w25 w.heap.size (0 + Int.toNat x32 * 1) [(.bool true)]) fun w26 => 
  J_10 w26) (∃ x41 : Int, World.cell? w25 ⟨w15.heap.size, ((0 + 0) + 0), none⟩ = some (.int .i64 x41) ∧ 0 ≤ x41 ∧ x41 < ((6 : Nat) : Int) ∧ ∃ b43 : Bool, World.cell? w25 ⟨w.heap.size, (0 + Int.toNat x41 * 1), none⟩ = some (.bool b43) ∧ 0 ≤ x32 ∧ x32 < ((6 : Nat) : Int) ∧ StoreOk w25 w.heap.size (0 + Int.toNat x32 * 1) [(.bool b43)] 1 ∧ Let (put w25 w.heap.size (0 + Int.toNat x32 * 1) [(.bool b43)]) fun w27 => 
  J_10 w27)))) (
  J_8 w20))))) (
  J_6 w15))))) (
  J_4 w12)))
theorem eq41 (s0 : Sl) (x1 : Int) (R : Value → World → Prop) (w : World) : funV Try.prog Try.f41 An41 [(.slice s0.a s0.n s0.c), (.int .i64 x1)] R w = S41 s0 x1 R w := by kernel_rfl
theorem call41 (s0 : Sl) (x1 : Int) {R : Value → World → Prop} {w : World} (h : S41 s0 x1 R w) : Calls Try.prog 41 [(.slice s0.a s0.n s0.c), (.int .i64 x1)].toArray w fun e w' => ∃ v, e = .returned v ∧ R v w' :=
  funV_calls mixed Try.func41 (an := An41) (by rw [eq41]; exact h)

/-- F19: cubeb/cubebref03.Plain -/
def An19 : An := (.sq .lf (.sq (.sq .lf (.bk [] (.lp [(9, .int .i64)] (.sq .lf (.sq (.cd .lf .lf) (.sq (.bk [] (.sq .lf (.sq .lf (.bk [] (.lp [(16, .int .i64)] (.sq .lf (.sq (.cd .lf .lf) (.sq (.bk [] (.sq .lf (.sq .lf (.cd (.sq .lf .lf) .lf)))) .lf)))))))) .lf)))))) (.sq .lf .lf)))
def S19 (s0 : Sl) (R : Value → World → Prop) (w : World) : Prop :=
  Join [] (fun (w1 : World) => R (.bool true) w1) (fun J =>
  LoopV [(9, .int .i64)] (fun K => K (0 : Int) w) (fun N => fun (x9 : Int) (w2 : World) =>
  cond (decide (x9 < ((s0.n : Nat) : Int))) (
  Join [] (fun (w3 : World) => N (IntKind.wrap .i64 (x9 + (1 : Int))) w3) (fun J_2 =>
  ∃ p11 : Pt, s0.a = some ⟨p11.b, p11.o, none⟩ ∧ 0 ≤ x9 ∧ x9 < ((s0.n : Nat) : Int) ∧ ∃ x12_0 : Int, ∃ s12_1 : Sl, ∃ s12_2 : Sl, rd w2 p11.b (p11.o + Int.toNat x9 * 3) [(.int .i64 x12_0), (.slice s12_1.a s12_1.n s12_1.c), (.slice s12_2.a s12_2.n s12_2.c)] ∧ Let (w2.alloc (.cells (zc Try.prog 94) 94)) fun w4 => 
  StoreOk w4 w2.heap.size 0 [(.int .i64 x12_0), (.slice s12_1.a s12_1.n s12_1.c), (.slice s12_2.a s12_2.n s12_2.c)] 3 ∧ Let (put w4 w2.heap.size 0 [(.int .i64 x12_0), (.slice s12_1.a s12_1.n s12_1.c), (.slice s12_2.a s12_2.n s12_2.c)]) fun w5 => 
  ∃ s14 : Sl, World.cell? w5 ⟨w2.heap.size, (0 + 2), none⟩ = some (.slice s14.a s14.n s14.c) ∧ Join [] (fun (w6 : World) => J_2 w6) (fun J_3 =>
  LoopV [(16, .int .i64)] (fun K => K (0 : Int) w5) (fun N_2 => fun (x16 : Int) (w7 : World) =>
  cond (decide (x16 < ((s14.n : Nat) : Int))) (
  Join [] (fun (w8 : World) => N_2 (IntKind.wrap .i64 (x16 + (1 : Int))) w8) (fun J_4 =>
  ∃ p18 : Pt, s14.a = some ⟨p18.b, p18.o, none⟩ ∧ 0 ≤ x16 ∧ x16 < ((s14.n : Nat) : Int) ∧ ∃ b19_0 : Bool, ∃ x19_1 : Int, ∃ s19_2 : Sl, rd w7 p18.b (p18.o + Int.toNat x16 * 3) [(.bool b19_0), (.int .i64 x19_1), (.slice s19_2.a s19_2.n s19_2.c)] ∧ Let (w7.alloc (.cells (zc Try.prog 96) 96)) fun w9 => 
  StoreOk w9 w7.heap.size 0 [(.bool b19_0), (.int .i64 x19_1), (.slice s19_2.a s19_2.n s19_2.c)] 3 ∧ Let (put w9 w7.heap.size 0 [(.bool b19_0), (.int .i64 x19_1), (.slice s19_2.a s19_2.n s19_2.c)]) fun w10 => 
  ∃ b21 : Bool, World.cell? w10 ⟨w7.heap.size, (0 + 0), none⟩ = some (.bool b21) ∧ cond b21 (
  R (.bool false) w10) (
  J_4 w10))) (
  J_3 w7))))) (
  J w2)))
theorem eq19 (s0 : Sl) (R : Value → World → Prop) (w : World) : funV Try.prog Try.f19 An19 [(.slice s0.a s0.n s0.c)] R w = S19 s0 R w := by kernel_rfl
theorem call19 (s0 : Sl) {R : Value → World → Prop} {w : World} (h : S19 s0 R w) : Calls Try.prog 19 [(.slice s0.a s0.n s0.c)].toArray w fun e w' => ∃ v, e = .returned v ∧ R v w' :=
  funV_calls mixed Try.func19 (an := An19) (by rw [eq19]; exact h)

end Go.Proofs.Ytoljknamnkkgcaa
