/-
  Printed by a program of this session (wip/tools/vcprint.py): of each Go function the shallow form, and that the calculus comes to it, by the kernel.
-/
import Derived.Test.YtnbkihkdfhjlmaaSe
import Derived.Test.YtnbkihkdfhjlmaaProg
import Derived.KernelRfl
namespace Go.Proofs.Ytnbkihkdfhjlmaa
open Go Go.VC
set_option maxRecDepth 100000

/-- F5: cubeb/cubeblaw05.HistoryLocks -/
def An5 : An := (.sq .lf (.sq .lf (.sq (.sq .lf (.cd (.sq (.rj [] [(2, .bool)]) .lf) .lf)) (.sq .lf (.sq (.rj [] [(2, .bool)]) .lf)))))
def S5 (s0 : Sl) (R : Value → World → Prop) (w : World) : Prop :=
  Calls Try.prog 12 [(.slice s0.a s0.n s0.c)].toArray w (fun e w1 => ∃ s10 : Sl, e = .returned (.slice s10.a s10.n s10.c) ∧
  Calls Try.prog 19 [(.slice s10.a s10.n s10.c)].toArray w1 (fun e_2 w2 => ∃ s11_0 : Sl, ∃ s11_1 : Sl, ∃ x11_2 : Int, e_2 = .returned (.tuple [(.slice s11_0.a s11_0.n s11_0.c), (.slice s11_1.a s11_1.n s11_1.c), (.int .i64 x11_2)].toArray) ∧
  Calls Try.prog 13 [(.slice s0.a s0.n s0.c)].toArray w2 (fun e_3 w3 => ∃ b16 : Bool, e_3 = .returned (.bool b16) ∧
  cond (!b16) (
  Join [(2, .bool)] (fun (b2 : Bool) (w4 : World) => R (.bool b2) w4) (fun J =>
  cond ((IntKind.wrap .i64 (((s11_0.n : Nat) : Int) + ((s11_1.n : Nat) : Int))) == (0 : Int)) (cond (x11_2 == (2 : Int)) (Calls Try.prog 14 [].toArray w3 (fun e_4 w5 => ∃ b29 : Bool, e_4 = .returned (.bool b29) ∧
  J b29 w5)) (J false w3)) (J false w3))) (
  Calls Try.prog 20 [(.slice s0.a s0.n s0.c)].toArray w3 (fun e_5 w6 => ∃ s33_0 : Sl, ∃ s33_1 : Sl, e_5 = .returned (.tuple [(.slice s33_0.a s33_0.n s33_0.c), (.slice s33_1.a s33_1.n s33_1.c)].toArray) ∧
  Join [(2, .bool)] (fun (b2_2 : Bool) (w7 : World) => R (.bool b2_2) w7) (fun J_2 =>
  Calls Try.prog 22 [(.slice s11_0.a s11_0.n s11_0.c)].toArray w6 (fun e_6 w8 => ∃ s37 : Sl, e_6 = .returned (.slice s37.a s37.n s37.c) ∧
  Calls Try.prog 21 [(.slice s37.a s37.n s37.c), (.slice s33_0.a s33_0.n s33_0.c)].toArray w8 (fun e_7 w9 => ∃ b39 : Bool, e_7 = .returned (.bool b39) ∧
  cond b39 (Calls Try.prog 16 [(.slice s11_1.a s11_1.n s11_1.c), (.slice s33_1.a s33_1.n s33_1.c)].toArray w9 (fun e_8 w10 => ∃ b43 : Bool, e_8 = .returned (.bool b43) ∧
  cond b43 (cond (x11_2 == (0 : Int)) (Calls Try.prog 14 [].toArray w10 (fun e_9 w11 => ∃ b50 : Bool, e_9 = .returned (.bool b50) ∧
  J_2 b50 w11)) (J_2 false w10)) (J_2 false w10))) (J_2 false w9)))))))))
theorem eq5 (s0 : Sl) (R : Value → World → Prop) (w : World) : funV Try.prog Try.f5 An5 [(.slice s0.a s0.n s0.c)] R w = S5 s0 R w := by kernel_rfl
theorem call5 (s0 : Sl) {R : Value → World → Prop} {w : World} (h : S5 s0 R w) : Calls Try.prog 5 [(.slice s0.a s0.n s0.c)].toArray w fun e w' => ∃ v, e = .returned v ∧ R v w' :=
  funV_calls mixed Try.func5 (an := An5) (by rw [eq5]; exact h)

/-- F6: cubeb/cubeblaw05.HistoryTwice -/
def An6 : An := (.sq .lf (.sq .lf (.sq (.sq .lf (.cd (.sq (.rj [] [(2, .bool)]) .lf) .lf)) (.sq .lf (.sq (.rj [] [(2, .bool)]) .lf)))))
def S6 (s0 : Sl) (R : Value → World → Prop) (w : World) : Prop :=
  Calls Try.prog 12 [(.slice s0.a s0.n s0.c)].toArray w (fun e w1 => ∃ s10 : Sl, e = .returned (.slice s10.a s10.n s10.c) ∧
  Calls Try.prog 19 [(.slice s10.a s10.n s10.c)].toArray w1 (fun e_2 w2 => ∃ s11_0 : Sl, ∃ s11_1 : Sl, ∃ x11_2 : Int, e_2 = .returned (.tuple [(.slice s11_0.a s11_0.n s11_0.c), (.slice s11_1.a s11_1.n s11_1.c), (.int .i64 x11_2)].toArray) ∧
  cond (x11_2 != (0 : Int)) (
  Join [(2, .bool)] (fun (b2 : Bool) (w3 : World) => R (.bool b2) w3) (fun J =>
  cond (x11_2 == (2 : Int)) (Calls Try.prog 14 [].toArray w2 (fun e_3 w4 => ∃ b20 : Bool, e_3 = .returned (.bool b20) ∧
  J b20 w4)) (J false w2))) (
  Calls Try.prog 19 [(.slice s11_0.a s11_0.n s11_0.c)].toArray w2 (fun e_4 w5 => ∃ s24_0 : Sl, ∃ s24_1 : Sl, ∃ x24_2 : Int, e_4 = .returned (.tuple [(.slice s24_0.a s24_0.n s24_0.c), (.slice s24_1.a s24_1.n s24_1.c), (.int .i64 x24_2)].toArray) ∧
  Join [(2, .bool)] (fun (b2_2 : Bool) (w6 : World) => R (.bool b2_2) w6) (fun J_2 =>
  cond (x24_2 == (0 : Int)) (Calls Try.prog 23 [(.slice s11_0.a s11_0.n s11_0.c), (.slice s24_0.a s24_0.n s24_0.c)].toArray w5 (fun e_5 w7 => ∃ b33 : Bool, e_5 = .returned (.bool b33) ∧
  cond b33 (cond (((s24_1.n : Nat) : Int) == (0 : Int)) (Calls Try.prog 14 [].toArray w7 (fun e_6 w8 => ∃ b41 : Bool, e_6 = .returned (.bool b41) ∧
  J_2 b41 w8)) (J_2 false w7)) (J_2 false w7))) (J_2 false w5))))))
theorem eq6 (s0 : Sl) (R : Value → World → Prop) (w : World) : funV Try.prog Try.f6 An6 [(.slice s0.a s0.n s0.c)] R w = S6 s0 R w := by kernel_rfl
theorem call6 (s0 : Sl) {R : Value → World → Prop} {w : World} (h : S6 s0 R w) : Calls Try.prog 6 [(.slice s0.a s0.n s0.c)].toArray w fun e w' => ∃ v, e = .returned v ∧ R v w' :=
  funV_calls mixed Try.func6 (an := An6) (by rw [eq6]; exact h)

/-- F8: cubeb/cubeblaw05.HistoryLocked -/
def An8 : An := (.sq .lf (.sq .lf (.sq (.sq .lf (.cd (.sq (.rj [] [(2, .bool)]) .lf) .lf)) (.sq .lf (.sq .lf (.sq (.sq (.rj [] [(65, .bool)]) (.cd (.sq .lf .lf) .lf)) (.sq .lf (.sq (.sq .lf (.bk [(12, .slice)] (.lp [(12, .slice), (68, .int .i64)] (.sq .lf (.sq (.cd .lf .lf) (.sq (.bk [(12, .slice)] (.sq .lf (.sq (.sq .lf (.cj [(12, .slice)] .lf .lf)) (.sq (.dr [0, 1, 2, 3, 4, 6, 5, 7, 8, 9] [] true (some [(89, .bool)])) (.cd (.sq .lf .lf) .lf))))) .lf)))))) (.sq (.sq .lf (.bk [] (.lp [(93, .int .i64)] (.sq .lf (.sq (.cd .lf .lf) (.sq (.bk [] (.sq .lf (.sq (.rj [] [(106, .bool)]) (.cd (.sq .lf .lf) .lf)))) .lf)))))) (.sq (.rj [] [(2, .bool)]) .lf))))))))))
def S8 (s0 : Sl) (R : Value → World → Prop) (w : World) : Prop :=
  Calls Try.prog 12 [(.slice s0.a s0.n s0.c)].toArray w (fun e w1 => ∃ s19 : Sl, e = .returned (.slice s19.a s19.n s19.c) ∧
  Calls Try.prog 19 [(.slice s19.a s19.n s19.c)].toArray w1 (fun e_2 w2 => ∃ s20_0 : Sl, ∃ s20_1 : Sl, ∃ x20_2 : Int, e_2 = .returned (.tuple [(.slice s20_0.a s20_0.n s20_0.c), (.slice s20_1.a s20_1.n s20_1.c), (.int .i64 x20_2)].toArray) ∧
  cond (x20_2 != (0 : Int)) (
  Join [(2, .bool)] (fun (b2 : Bool) (w3 : World) => R (.bool b2) w3) (fun J =>
  cond (x20_2 == (2 : Int)) (cond ((IntKind.wrap .i64 (((s20_0.n : Nat) : Int) + ((s20_1.n : Nat) : Int))) == (0 : Int)) (Calls Try.prog 14 [].toArray w2 (fun e_3 w4 => ∃ b37 : Bool, e_3 = .returned (.bool b37) ∧
  J b37 w4)) (J false w2)) (J false w2))) (
  Calls Try.prog 25 [(.slice s20_0.a s20_0.n s20_0.c)].toArray w2 (fun e_4 w5 => ∃ b41_0 : Bool, ∃ b41_1 : Bool, ∃ b41_2 : Bool, ∃ x41_3 : Int, e_4 = .returned (.tuple [(.bool b41_0), (.bool b41_1), (.bool b41_2), (.int .i64 x41_3)].toArray) ∧
  Calls Try.prog 17 [(.slice s20_0.a s20_0.n s20_0.c)].toArray w5 (fun e_5 w6 => ∃ s48_0 : Sl, ∃ x48_1 : Int, e_5 = .returned (.tuple [(.slice s48_0.a s48_0.n s48_0.c), (.int .i64 x48_1)].toArray) ∧
  Join [(65, .bool)] (fun (b65 : Bool) (w7 : World) => cond b65 (
  R (.bool false) w7) (
  Join [(12, .slice)] (fun (s12 : Sl) (w8 : World) => Join [] (fun (w9 : World) => Join [(2, .bool)] (fun (b2_2 : Bool) (w10 : World) => R (.bool b2_2) w10) (fun J_2 =>
  Calls Try.prog 22 [(.slice s20_0.a s20_0.n s20_0.c)].toArray w9 (fun e_6 w11 => ∃ s109 : Sl, e_6 = .returned (.slice s109.a s109.n s109.c) ∧
  Calls Try.prog 29 [(.slice s109.a s109.n s109.c), (.slice s12.a s12.n s12.c)].toArray w11 (fun e_7 w12 => ∃ b111 : Bool, e_7 = .returned (.bool b111) ∧
  cond b111 (Calls Try.prog 14 [].toArray w12 (fun e_8 w13 => ∃ b113 : Bool, e_8 = .returned (.bool b113) ∧
  J_2 b113 w13)) (J_2 false w12))))) (fun J_3 =>
  LoopV [(93, .int .i64)] (fun K => K (0 : Int) w8) (fun N => fun (x93 : Int) (w14 : World) =>
  cond (decide (x93 < ((s20_1.n : Nat) : Int))) (
  Join [] (fun (w15 : World) => N (IntKind.wrap .i64 (x93 + (1 : Int))) w15) (fun J_4 =>
  ∃ p95 : Pt, s20_1.a = some ⟨p95.b, p95.o, none⟩ ∧ 0 ≤ x93 ∧ x93 < ((s20_1.n : Nat) : Int) ∧ ∃ x96 : Int, World.cell? w14 ⟨p95.b, (p95.o + Int.toNat x93 * 1), none⟩ = some (.int .i64 x96) ∧ Join [(106, .bool)] (fun (b106 : Bool) (w16 : World) => cond b106 (
  R (.bool false) w16) (
  J_4 w16)) (fun J_5 =>
  Calls Try.prog 28 [(.slice s12.a s12.n s12.c), (.int .i64 x96)].toArray w14 (fun e_9 w17 => ∃ b99 : Bool, e_9 = .returned (.bool b99) ∧
  cond b99 (J_5 true w17) (Calls Try.prog 27 [(.slice s20_0.a s20_0.n s20_0.c), (.agg [(.int .i64 x96), (.int .i64 (3 : Int)), (.int .i64 (0 : Int))].toArray)].toArray w17 (fun e_10 w18 => ∃ b104 : Bool, e_10 = .returned (.bool b104) ∧
  J_5 (!b104) w18)))))) (
  J_3 w14)))) (fun J_6 =>
  LoopV [(12, .slice), (68, .int .i64)] (fun K => K ⟨none, 0, 0⟩ (0 : Int) w7) (fun N_2 => fun (s12_2 : Sl) (x68 : Int) (w19 : World) =>
  cond (decide (x68 < ((s20_0.n : Nat) : Int))) (
  Join [(12, .slice)] (fun (s12_3 : Sl) (w20 : World) => N_2 ⟨s12_3.a, s12_3.n, s12_3.c⟩ (IntKind.wrap .i64 (x68 + (1 : Int))) w20) (fun J_7 =>
  ∃ p70 : Pt, s20_0.a = some ⟨p70.b, p70.o, none⟩ ∧ 0 ≤ x68 ∧ x68 < ((s20_0.n : Nat) : Int) ∧ ∃ x71_0 : Int, ∃ x71_1 : Int, ∃ x71_2 : Int, rd w19 p70.b (p70.o + Int.toNat x68 * 3) [(.int .i64 x71_0), (.int .i64 x71_1), (.int .i64 x71_2)] ∧ Let (w19.alloc (.cells (zc Try.prog 38) 38)) fun w21 => 
  StoreOk w21 w19.heap.size 0 [(.int .i64 x71_0), (.int .i64 x71_1), (.int .i64 x71_2)] 3 ∧ Let (put w21 w19.heap.size 0 [(.int .i64 x71_0), (.int .i64 x71_1), (.int .i64 x71_2)]) fun w22 => 
  ∃ x73 : Int, World.cell? w22 ⟨w19.heap.size, (0 + 1), none⟩ = some (.int .i64 x73) ∧ Join [(12, .slice)] (fun (s12_4 : Sl) (w23 : World) => Join [(89, .bool)] (fun (b89 : Bool) (w24 : World) => cond b89 (
  R (.bool false) w24) (
  J_7 ⟨s12_4.a, s12_4.n, s12_4.c⟩ w24)) (fun J_8 =>
  ∃ S1 : World → Prop, S1 w23.drew ∧ Let w23.drew fun w25 =>
  ∃ x81 : Int, (∀ u, S1 u → World.cell? u ⟨w19.heap.size, (0 + 1), none⟩ = some (.int .i64 x81)) ∧ cond (x81 != (3 : Int)) (∃ x86_0 : Int, ∃ x86_1 : Int, ∃ x86_2 : Int, (∀ u, S1 u → rd u w19.heap.size 0 [(.int .i64 x86_0), (.int .i64 x86_1), (.int .i64 x86_2)]) ∧ Calls Try.prog 12 [(.slice s0.a s0.n s0.c)].toArray w25 (fun e_11 w26 => ∃ s85 : Sl, e_11 = .returned (.slice s85.a s85.n s85.c) ∧
  S1 w26 ∧ Calls Try.prog 27 [(.slice s85.a s85.n s85.c), (.agg [(.int .i64 x86_0), (.int .i64 x86_1), (.int .i64 x86_2)].toArray)].toArray w26 (fun e_12 w27 => ∃ b87 : Bool, e_12 = .returned (.bool b87) ∧
  S1 w27 ∧ J_8 (!b87) w27))) (J_8 false w25))) (fun J_9 =>
  cond (x73 == (2 : Int)) (
  ∃ x77 : Int, World.cell? w22 ⟨w19.heap.size, (0 + 0), none⟩ = some (.int .i64 x77) ∧ ∃ (s78 : Sl) (w28 : World), Sem.run Try.prog (Instr.buildSlice 24 1 [(0, (.int .i64 x77))].toArray) w22 = .ok (.slice s78.a s78.n s78.c) w28 ∧
  ∃ (s79 : Sl) (w29 : World), Sem.run Try.prog (Builtin.append_ #[24, 24] 24 #[(.slice s12_2.a s12_2.n s12_2.c), (.slice s78.a s78.n s78.c)]) w28 = .ok (.slice s79.a s79.n s79.c) w29 ∧
  J_9 ⟨s79.a, s79.n, s79.c⟩ w29) (
  J_9 ⟨s12_2.a, s12_2.n, s12_2.c⟩ w22)))) (
  J_6 ⟨s12_2.a, s12_2.n, s12_2.c⟩ w19))))) (fun J_10 =>
  Calls Try.prog 26 [(.slice s20_0.a s20_0.n s20_0.c)].toArray w6 (fun e_13 w30 => ∃ b52 : Bool, e_13 = .returned (.bool b52) ∧
  cond (!b52) (J_10 true w30) (cond (!b41_2) (J_10 true w30) (cond (x41_3 != (0 : Int)) (J_10 true w30) (J_10 (x48_1 != (0 : Int)) w30))))))))))
theorem eq8 (s0 : Sl) (R : Value → World → Prop) (w : World) : funV Try.prog Try.f8 An8 [(.slice s0.a s0.n s0.c)] R w = S8 s0 R w := by kernel_rfl
theorem call8 (s0 : Sl) {R : Value → World → Prop} {w : World} (h : S8 s0 R w) : Calls Try.prog 8 [(.slice s0.a s0.n s0.c)].toArray w fun e w' => ∃ v, e = .returned v ∧ R v w' :=
  funV_calls mixed Try.func8 (an := An8) (by rw [eq8]; exact h)

/-- F22: cubeb/cubeblaw05.own -/
def An22 : An := (.sq .lf (.sq .lf (.sq (.sq .lf (.bk [(3, .slice)] (.lp [(3, .slice), (8, .int .i64)] (.sq .lf (.sq (.cd .lf .lf) (.sq (.bk [(3, .slice)] (.sq .lf .lf)) .lf)))))) (.sq .lf .lf))))
def S22 (s0 : Sl) (R : Value → World → Prop) (w : World) : Prop :=
  Join [(3, .slice)] (fun (s3 : Sl) (w1 : World) => R (.slice s3.a s3.n s3.c) w1) (fun J =>
  LoopV [(3, .slice), (8, .int .i64)] (fun K => K ⟨none, 0, 0⟩ (0 : Int) w) (fun N => fun (s3_2 : Sl) (x8 : Int) (w2 : World) =>
  cond (decide (x8 < ((s0.n : Nat) : Int))) (
  Join [(3, .slice)] (fun (s3_3 : Sl) (w3 : World) => N ⟨s3_3.a, s3_3.n, s3_3.c⟩ (IntKind.wrap .i64 (x8 + (1 : Int))) w3) (fun J_2 =>
  ∃ p10 : Pt, s0.a = some ⟨p10.b, p10.o, none⟩ ∧ 0 ≤ x8 ∧ x8 < ((s0.n : Nat) : Int) ∧ ∃ x11_0 : Int, ∃ x11_1 : Int, ∃ x11_2 : Int, rd w2 p10.b (p10.o + Int.toNat x8 * 3) [(.int .i64 x11_0), (.int .i64 x11_1), (.int .i64 x11_2)] ∧ Let (w2.alloc (.cells (zc Try.prog 38) 38)) fun w4 => 
  StoreOk w4 w2.heap.size 0 [(.int .i64 x11_0), (.int .i64 x11_1), (.int .i64 x11_2)] 3 ∧ Let (put w4 w2.heap.size 0 [(.int .i64 x11_0), (.int .i64 x11_1), (.int .i64 x11_2)]) fun w5 => 
  ∃ x14 : Int, World.cell? w5 ⟨w2.heap.size, (0 + 0), none⟩ = some (.int .i64 x14) ∧ ∃ x16 : Int, World.cell? w5 ⟨w2.heap.size, (0 + 1), none⟩ = some (.int .i64 x16) ∧ ∃ x18 : Int, World.cell? w5 ⟨w2.heap.size, (0 + 2), none⟩ = some (.int .i64 x18) ∧ ∃ (s20 : Sl) (w6 : World), Sem.run Try.prog (Instr.buildSlice 23 1 [(0, (.agg [(.int .i64 x14), (.int .i64 x16), (.int .i64 x18)].toArray))].toArray) w5 = .ok (.slice s20.a s20.n s20.c) w6 ∧
  ∃ (s21 : Sl) (w7 : World), Sem.run Try.prog (Builtin.append_ #[23, 23] 23 #[(.slice s3_2.a s3_2.n s3_2.c), (.slice s20.a s20.n s20.c)]) w6 = .ok (.slice s21.a s21.n s21.c) w7 ∧
  J_2 ⟨s21.a, s21.n, s21.c⟩ w7)) (
  J ⟨s3_2.a, s3_2.n, s3_2.c⟩ w2)))
theorem eq22 (s0 : Sl) (R : Value → World → Prop) (w : World) : funV Try.prog Try.f22 An22 [(.slice s0.a s0.n s0.c)] R w = S22 s0 R w := by kernel_rfl
theorem call22 (s0 : Sl) {R : Value → World → Prop} {w : World} (h : S22 s0 R w) : Calls Try.prog 22 [(.slice s0.a s0.n s0.c)].toArray w fun e w' => ∃ v, e = .returned v ∧ R v w' :=
  funV_calls mixed Try.func22 (an := An22) (by rw [eq22]; exact h)

/-- F21: slices.Equal[cubeb/cubebref05.History,cubeb/cubebref05.Op] -/
def An21 : An := (.sq .lf (.sq (.sq .lf (.cd (.sq .lf .lf) .lf)) (.sq (.sq .lf (.bk [] (.lp [(13, .int .i64)] (.sq .lf (.sq (.cd .lf .lf) (.sq (.bk [] (.sq .lf (.sq (.dr [0, 1, 2, 3, 4, 5, 6, 7, 8] [] false none) (.cd (.sq .lf .lf) .lf)))) .lf)))))) (.sq .lf .lf))))
def S21 (s0 : Sl) (s1 : Sl) (R : Value → World → Prop) (w : World) : Prop :=
  cond (((s0.n : Nat) : Int) != ((s1.n : Nat) : Int)) (
  R (.bool false) w) (
  Join [] (fun (w1 : World) => R (.bool true) w1) (fun J =>
  LoopV [(13, .int .i64)] (fun K => K (0 : Int) w) (fun N => fun (x13 : Int) (w2 : World) =>
  cond (decide (x13 < ((s0.n : Nat) : Int))) (
  Join [] (fun (w3 : World) => N (IntKind.wrap .i64 (x13 + (1 : Int))) w3) (fun J_2 =>
  Let w2.drew fun w4 =>
  ∃ p18 : Pt, s0.a = some ⟨p18.b, p18.o, none⟩ ∧ 0 ≤ x13 ∧ x13 < ((s0.n : Nat) : Int) ∧ ∃ x19_0 : Int, ∃ x19_1 : Int, ∃ x19_2 : Int, rd w4 p18.b (p18.o + Int.toNat x13 * 3) [(.int .i64 x19_0), (.int .i64 x19_1), (.int .i64 x19_2)] ∧ ∃ p22 : Pt, s1.a = some ⟨p22.b, p22.o, none⟩ ∧ 0 ≤ x13 ∧ x13 < ((s1.n : Nat) : Int) ∧ ∃ x23_0 : Int, ∃ x23_1 : Int, ∃ x23_2 : Int, rd w4 p22.b (p22.o + Int.toNat x13 * 3) [(.int .i64 x23_0), (.int .i64 x23_1), (.int .i64 x23_2)] ∧ ∃ r24 : Bool, (∀ w, Sem.run Try.prog (aggEq .neq 37 (.agg [(.int .i64 x19_0), (.int .i64 x19_1), (.int .i64 x19_2)].toArray) (.agg [(.int .i64 x23_0), (.int .i64 x23_1), (.int .i64 x23_2)].toArray)) w = .ok (.bool r24) w) ∧ cond r24 (
  R (.bool false) w4) (
  J_2 w4))) (
  J w2))))
theorem eq21 (s0 : Sl) (s1 : Sl) (R : Value → World → Prop) (w : World) : funV Try.prog Try.f21 An21 [(.slice s0.a s0.n s0.c), (.slice s1.a s1.n s1.c)] R w = S21 s0 s1 R w := by kernel_rfl
theorem call21 (s0 : Sl) (s1 : Sl) {R : Value → World → Prop} {w : World} (h : S21 s0 s1 R w) : Calls Try.prog 21 [(.slice s0.a s0.n s0.c), (.slice s1.a s1.n s1.c)].toArray w fun e w' => ∃ v, e = .returned v ∧ R v w' :=
  funV_calls mixed Try.func21 (an := An21) (by rw [eq21]; exact h)

/-- F23: slices.Equal[cubeb/history.History,cubeb/history.Op] -/
def An23 : An := (.sq .lf (.sq (.sq .lf (.cd (.sq .lf .lf) .lf)) (.sq (.sq .lf (.bk [] (.lp [(13, .int .i64)] (.sq .lf (.sq (.cd .lf .lf) (.sq (.bk [] (.sq .lf (.sq (.dr [0, 1, 2, 3, 4, 5, 6, 7, 8] [] false none) (.cd (.sq .lf .lf) .lf)))) .lf)))))) (.sq .lf .lf))))
def S23 (s0 : Sl) (s1 : Sl) (R : Value → World → Prop) (w : World) : Prop :=
  cond (((s0.n : Nat) : Int) != ((s1.n : Nat) : Int)) (
  R (.bool false) w) (
  Join [] (fun (w1 : World) => R (.bool true) w1) (fun J =>
  LoopV [(13, .int .i64)] (fun K => K (0 : Int) w) (fun N => fun (x13 : Int) (w2 : World) =>
  cond (decide (x13 < ((s0.n : Nat) : Int))) (
  Join [] (fun (w3 : World) => N (IntKind.wrap .i64 (x13 + (1 : Int))) w3) (fun J_2 =>
  Let w2.drew fun w4 =>
  ∃ p18 : Pt, s0.a = some ⟨p18.b, p18.o, none⟩ ∧ 0 ≤ x13 ∧ x13 < ((s0.n : Nat) : Int) ∧ ∃ x19_0 : Int, ∃ x19_1 : Int, ∃ x19_2 : Int, rd w4 p18.b (p18.o + Int.toNat x13 * 3) [(.int .i64 x19_0), (.int .i64 x19_1), (.int .i64 x19_2)] ∧ ∃ p22 : Pt, s1.a = some ⟨p22.b, p22.o, none⟩ ∧ 0 ≤ x13 ∧ x13 < ((s1.n : Nat) : Int) ∧ ∃ x23_0 : Int, ∃ x23_1 : Int, ∃ x23_2 : Int, rd w4 p22.b (p22.o + Int.toNat x13 * 3) [(.int .i64 x23_0), (.int .i64 x23_1), (.int .i64 x23_2)] ∧ ∃ r24 : Bool, (∀ w, Sem.run Try.prog (aggEq .neq 38 (.agg [(.int .i64 x19_0), (.int .i64 x19_1), (.int .i64 x19_2)].toArray) (.agg [(.int .i64 x23_0), (.int .i64 x23_1), (.int .i64 x23_2)].toArray)) w = .ok (.bool r24) w) ∧ cond r24 (
  R (.bool false) w4) (
  J_2 w4))) (
  J w2))))
theorem eq23 (s0 : Sl) (s1 : Sl) (R : Value → World → Prop) (w : World) : funV Try.prog Try.f23 An23 [(.slice s0.a s0.n s0.c), (.slice s1.a s1.n s1.c)] R w = S23 s0 s1 R w := by kernel_rfl
theorem call23 (s0 : Sl) (s1 : Sl) {R : Value → World → Prop} {w : World} (h : S23 s0 s1 R w) : Calls Try.prog 23 [(.slice s0.a s0.n s0.c), (.slice s1.a s1.n s1.c)].toArray w fun e w' => ∃ v, e = .returned v ∧ R v w' :=
  funV_calls mixed Try.func23 (an := An23) (by rw [eq23]; exact h)

/-- F25: cubeb/history.Recovery -/
def An25 : An := (.sq .lf (.sq (.sq .lf (.cd (.sq .lf .lf) .lf)) (.sq .lf (.sq .lf (.sq (.sq .lf (.bk [(2, .bool), (3, .bool), (4, .bool)] (.lp [(2, .bool), (3, .bool), (4, .bool), (26, .int .i64)] (.sq .lf (.sq (.cd .lf .lf) (.sq (.bk [(2, .bool), (3, .bool), (4, .bool)] (.sq .lf (.sq .lf (.sq (.sq (.rj [] [(42, .bool)]) (.cj [(2, .bool), (3, .bool)] (.sq (.dr [0, 1, 2, 3, 4, 5, 6, 7, 8] [] false none) (.sq (.rj [] [(2, .bool)]) (.rj [] [(3, .bool)]))) .lf)) (.sq (.sq .lf (.cd .lf .lf)) (.sq .lf (.bk [(4, .bool)] (.lp [(4, .bool), (81, .int .i64)] (.sq .lf (.sq (.cd .lf .lf) (.sq (.bk [(4, .bool)] (.sq .lf (.sq .lf (.sq (.rj [] [(119, .bool)]) (.cj [(4, .bool)] .lf .lf))))) .lf))))))))))) .lf)))))) (.sq .lf .lf))))))
def S25 (s0 : Sl) (R : Value → World → Prop) (w : World) : Prop :=
  Calls Try.prog 26 [(.slice s0.a s0.n s0.c)].toArray w (fun e w1 => ∃ b17 : Bool, e = .returned (.bool b17) ∧
  cond (!b17) (
  R (.tuple [(.bool false), (.bool false), (.bool false), (.int .i64 (2 : Int))].toArray) w1) (
  Calls Try.prog 54 [(.slice s0.a s0.n s0.c), (.int .i64 (2 : Int))].toArray w1 (fun e_2 w2 => ∃ m20 : Option Nat, e_2 = .returned (.map m20) ∧
  Calls Try.prog 54 [(.slice s0.a s0.n s0.c), (.int .i64 (3 : Int))].toArray w2 (fun e_3 w3 => ∃ m22 : Option Nat, e_3 = .returned (.map m22) ∧
  Calls Try.prog 55 [(.slice s0.a s0.n s0.c)].toArray w3 (fun e_4 w4 => ∃ s24 : Sl, e_4 = .returned (.slice s24.a s24.n s24.c) ∧
  Join [(2, .bool), (3, .bool), (4, .bool)] (fun (b2 : Bool) (b3 : Bool) (b4 : Bool) (w5 : World) => R (.tuple [(.bool b2), (.bool b3), (.bool b4), (.int .i64 (0 : Int))].toArray) w5) (fun J =>
  LoopV [(2, .bool), (3, .bool), (4, .bool), (26, .int .i64)] (fun K => K true true true (0 : Int) w4) (fun N => fun (b2_2 : Bool) (b3_2 : Bool) (b4_2 : Bool) (x26 : Int) (w6 : World) =>
  cond (decide (x26 < ((s24.n : Nat) : Int))) (
  Join [(2, .bool), (3, .bool), (4, .bool)] (fun (b2_3 : Bool) (b3_3 : Bool) (b4_3 : Bool) (w7 : World) => N b2_3 b3_3 b4_3 (IntKind.wrap .i64 (x26 + (1 : Int))) w7) (fun J_2 =>
  ∃ p29 : Pt, s24.a = some ⟨p29.b, p29.o, none⟩ ∧ 0 ≤ x26 ∧ x26 < ((s24.n : Nat) : Int) ∧ ∃ x30 : Int, World.cell? w6 ⟨p29.b, (p29.o + Int.toNat x26 * 1), none⟩ = some (.int .i64 x30) ∧ ∃ p33 : Pt, s0.a = some ⟨p33.b, p33.o, none⟩ ∧ 0 ≤ x26 ∧ x26 < ((s0.n : Nat) : Int) ∧ ∃ x34_0 : Int, ∃ x34_1 : Int, ∃ x34_2 : Int, rd w6 p33.b (p33.o + Int.toNat x26 * 3) [(.int .i64 x34_0), (.int .i64 x34_1), (.int .i64 x34_2)] ∧ Let (w6.alloc (.cells (zc Try.prog 38) 38)) fun w8 => 
  StoreOk w8 w6.heap.size 0 [(.int .i64 x34_0), (.int .i64 x34_1), (.int .i64 x34_2)] 3 ∧ Let (put w8 w6.heap.size 0 [(.int .i64 x34_0), (.int .i64 x34_1), (.int .i64 x34_2)]) fun w9 => 
  Join [(42, .bool)] (fun (b42 : Bool) (w10 : World) => Join [(2, .bool), (3, .bool)] (fun (b2_4 : Bool) (b3_4 : Bool) (w11 : World) => ∃ x75 : Int, World.cell? w11 ⟨w6.heap.size, (0 + 1), none⟩ = some (.int .i64 x75) ∧ cond (decide (x75 > (1 : Int))) (
  J_2 b2_4 b3_4 b4_2 w11) (
  0 ≤ x26 ∧ x26 ≤ ((s0.c : Nat) : Int) ∧ Join [(4, .bool)] (fun (b4_4 : Bool) (w12 : World) => J_2 b2_4 b3_4 b4_4 w12) (fun J_3 =>
  LoopV [(4, .bool), (81, .int .i64)] (fun K => K b4_2 (0 : Int) w11) (fun N_2 => fun (b4_5 : Bool) (x81 : Int) (w13 : World) =>
  cond (decide (x81 < (((Int.toNat x26) : Nat) : Int))) (
  Join [(4, .bool)] (fun (b4_6 : Bool) (w14 : World) => N_2 b4_6 (IntKind.wrap .i64 (x81 + (1 : Int))) w14) (fun J_4 =>
  ∃ p83 : Pt, s0.a = some ⟨p83.b, p83.o, none⟩ ∧ 0 ≤ x81 ∧ x81 < (((Int.toNat x26) : Nat) : Int) ∧ ∃ x84_0 : Int, ∃ x84_1 : Int, ∃ x84_2 : Int, rd w13 p83.b (p83.o + Int.toNat x81 * 3) [(.int .i64 x84_0), (.int .i64 x84_1), (.int .i64 x84_2)] ∧ Let (w13.alloc (.cells (zc Try.prog 38) 38)) fun w15 => 
  StoreOk w15 w13.heap.size 0 [(.int .i64 x84_0), (.int .i64 x84_1), (.int .i64 x84_2)] 3 ∧ Let (put w15 w13.heap.size 0 [(.int .i64 x84_0), (.int .i64 x84_1), (.int .i64 x84_2)]) fun w16 => 
  ∃ x87 : Int, World.cell? w16 ⟨w13.heap.size, (0 + 0), none⟩ = some (.int .i64 x87) ∧ ∃ x88 : Int, Sem.run Try.prog (Instr.lookup 103 (.map m20) (.int .i64 x87) false) w16 = .ok (.int .i64 x88) w16 ∧ ∃ x91 : Int, World.cell? w16 ⟨w13.heap.size, (0 + 0), none⟩ = some (.int .i64 x91) ∧ ∃ x92 : Int, Sem.run Try.prog (Instr.lookup 103 (.map m22) (.int .i64 x91) false) w16 = .ok (.int .i64 x92) w16 ∧ Join [(119, .bool)] (fun (b119 : Bool) (w17 : World) => Join [(4, .bool)] (fun (b4_7 : Bool) (w18 : World) => J_4 b4_7 w18) (fun J_5 =>
  cond b119 (
  J_5 false w17) (
  J_5 b4_5 w17))) (fun J_6 =>
  ∃ x95 : Int, World.cell? w16 ⟨w13.heap.size, (0 + 1), none⟩ = some (.int .i64 x95) ∧ cond (x95 == (1 : Int)) (∃ x99 : Int, World.cell? w16 ⟨w13.heap.size, (0 + 2), none⟩ = some (.int .i64 x99) ∧ ∃ x101 : Int, World.cell? w16 ⟨w6.heap.size, (0 + 2), none⟩ = some (.int .i64 x101) ∧ cond (x99 == x101) (∃ x106 : Int, World.cell? w16 ⟨w13.heap.size, (0 + 0), none⟩ = some (.int .i64 x106) ∧ ∃ x108 : Int, World.cell? w16 ⟨w6.heap.size, (0 + 0), none⟩ = some (.int .i64 x108) ∧ cond (x106 != x108) (cond (decide ((if x92 > x88 then x92 else x88) < (0 : Int))) (J_6 true w16) (J_6 (decide ((if x92 > x88 then x92 else x88) > x26)) w16)) (J_6 false w16)) (J_6 false w16)) (J_6 false w16)))) (
  J_3 b4_5 w13))))) (fun J_7 =>
  cond b42 (
  Let w10.drew fun w19 =>
  ∃ x45 : Int, World.cell? w19 ⟨w6.heap.size, (0 + 0), none⟩ = some (.int .i64 x45) ∧ ∃ x46 : Int, Sem.run Try.prog (Instr.lookup 103 (.map m20) (.int .i64 x45) false) w19 = .ok (.int .i64 x46) w19 ∧ ∃ x49 : Int, Sem.run Try.prog (Instr.lookup 103 (.map m20) (.int .i64 x30) false) w19 = .ok (.int .i64 x49) w19 ∧ Join [(2, .bool)] (fun (b2_5 : Bool) (w20 : World) => Join [(3, .bool)] (fun (b3_5 : Bool) (w21 : World) => J_7 b2_5 b3_5 w21) (fun J_8 =>
  cond b3_2 (cond (decide (x49 ≥ (0 : Int))) (J_8 (decide (x49 < x26)) w20) (J_8 false w20)) (J_8 false w20))) (fun J_9 =>
  cond b2_2 (cond (decide (x46 < (0 : Int))) (J_9 true w19) (cond (decide (x49 ≥ (0 : Int))) (J_9 (decide (x49 < x46)) w19) (J_9 false w19))) (J_9 false w19))) (
  J_7 b2_2 b3_2 w10))) (fun J_10 =>
  cond (decide (x30 > (0 : Int))) (∃ x40 : Int, World.cell? w9 ⟨w6.heap.size, (0 + 0), none⟩ = some (.int .i64 x40) ∧ J_10 (x30 != x40) w9) (J_10 false w9)))) (
  J b2_2 b3_2 b4_2 w6))))))))
theorem eq25 (s0 : Sl) (R : Value → World → Prop) (w : World) : funV Try.prog Try.f25 An25 [(.slice s0.a s0.n s0.c)] R w = S25 s0 R w := by kernel_rfl
theorem call25 (s0 : Sl) {R : Value → World → Prop} {w : World} (h : S25 s0 R w) : Calls Try.prog 25 [(.slice s0.a s0.n s0.c)].toArray w fun e w' => ∃ v, e = .returned v ∧ R v w' :=
  funV_calls mixed Try.func25 (an := An25) (by rw [eq25]; exact h)

/-- F29: cubeb/cubebref05.Equivalent -/
def An29 : An := (.sq .lf (.sq (.sq .lf (.bk [] (.lp [(14, .int .i64)] (.sq .lf (.sq (.cd .lf .lf) (.sq (.bk [] (.sq .lf (.sq .lf (.sq (.sq .lf (.bk [(7, .bool)] (.lp [(7, .bool), (25, .int .i64)] (.sq .lf (.sq (.cd .lf .lf) (.sq (.bk [(7, .bool)] (.sq .lf (.rj [] [(7, .bool)]))) .lf)))))) (.sq .lf (.cd (.sq .lf .lf) .lf)))))) .lf)))))) (.sq .lf .lf)))
def S29 (s0 : Sl) (s1 : Sl) (R : Value → World → Prop) (w : World) : Prop :=
  Calls Try.prog 41 [(.slice s0.a s0.n s0.c)].toArray w (fun e w1 => ∃ s11 : Sl, e = .returned (.slice s11.a s11.n s11.c) ∧
  Calls Try.prog 40 [(.slice s11.a s11.n s11.c)].toArray w1 (fun e_2 w2 => ∃ s12 : Sl, e_2 = .returned (.slice s12.a s12.n s12.c) ∧
  Join [] (fun (w3 : World) => R (.bool false) w3) (fun J =>
  LoopV [(14, .int .i64)] (fun K => K (0 : Int) w2) (fun N => fun (x14 : Int) (w4 : World) =>
  cond (decide (x14 < ((s12.n : Nat) : Int))) (
  Join [] (fun (w5 : World) => N (IntKind.wrap .i64 (x14 + (1 : Int))) w5) (fun J_2 =>
  ∃ p16 : Pt, s12.a = some ⟨p16.b, p16.o, none⟩ ∧ 0 ≤ x14 ∧ x14 < ((s12.n : Nat) : Int) ∧ ∃ s17 : Sl, World.cell? w4 ⟨p16.b, (p16.o + Int.toNat x14 * 1), none⟩ = some (.slice s17.a s17.n s17.c) ∧ Join [(7, .bool)] (fun (b7 : Bool) (w6 : World) => cond b7 (
  Calls Try.prog 59 [(.slice s0.a s0.n s0.c)].toArray w6 (fun e_3 w7 => ∃ cs43 : List Value, cs43.length = 49 ∧ e_3 = .returned (.agg cs43.toArray) ∧
  Calls Try.prog 58 [(.slice s1.a s1.n s1.c), (.agg cs43.toArray)].toArray w7 (fun e_4 w8 => ∃ b44 : Bool, e_4 = .returned (.bool b44) ∧
  R (.bool b44) w8))) (
  J_2 w6)) (fun J_3 =>
  LoopV [(7, .bool), (25, .int .i64)] (fun K => K (((s17.n : Nat) : Int) == ((s1.n : Nat) : Int)) (0 : Int) w4) (fun N_2 => fun (b7_2 : Bool) (x25 : Int) (w9 : World) =>
  cond (decide (x25 < ((s17.n : Nat) : Int))) (
  Join [(7, .bool)] (fun (b7_3 : Bool) (w10 : World) => N_2 b7_3 (IntKind.wrap .i64 (x25 + (1 : Int))) w10) (fun J_4 =>
  ∃ p28 : Pt, s17.a = some ⟨p28.b, p28.o, none⟩ ∧ 0 ≤ x25 ∧ x25 < ((s17.n : Nat) : Int) ∧ ∃ x29 : Int, World.cell? w9 ⟨p28.b, (p28.o + Int.toNat x25 * 1), none⟩ = some (.int .i64 x29) ∧ Join [(7, .bool)] (fun (b7_4 : Bool) (w11 : World) => J_4 b7_4 w11) (fun J_5 =>
  cond b7_2 (∃ p34 : Pt, s1.a = some ⟨p34.b, p34.o, none⟩ ∧ 0 ≤ x25 ∧ x25 < ((s1.n : Nat) : Int) ∧ ∃ x35 : Int, World.cell? w9 ⟨p34.b, (p34.o + Int.toNat x25 * 1), none⟩ = some (.int .i64 x35) ∧ J_5 (x35 == x29) w9) (J_5 false w9)))) (
  J_3 b7_2 w9))))) (
  J w4)))))
theorem eq29 (s0 : Sl) (s1 : Sl) (R : Value → World → Prop) (w : World) : funV Try.prog Try.f29 An29 [(.slice s0.a s0.n s0.c), (.slice s1.a s1.n s1.c)] R w = S29 s0 s1 R w := by kernel_rfl
theorem call29 (s0 : Sl) (s1 : Sl) {R : Value → World → Prop} {w : World} (h : S29 s0 s1 R w) : Calls Try.prog 29 [(.slice s0.a s0.n s0.c), (.slice s1.a s1.n s1.c)].toArray w fun e w' => ∃ v, e = .returned v ∧ R v w' :=
  funV_calls mixed Try.func29 (an := An29) (by rw [eq29]; exact h)

/-- F58: cubeb/cubebref05.agrees -/
def An58 : An := (.sq .lf (.sq (.sq .lf (.bk [] (.lp [(11, .int .i64)] (.sq .lf (.sq (.cd .lf .lf) (.sq (.bk [] (.sq .lf (.sq .lf (.bk [] (.lp [(20, .int .i64)] (.sq .lf (.sq (.cd .lf .lf) (.sq (.bk [] (.sq .lf (.sq .lf (.cd (.sq .lf .lf) .lf)))) .lf)))))))) .lf)))))) (.sq .lf .lf)))
def S58 (s0 : Sl) (cs1 : List Value) (R : Value → World → Prop) (w : World) : Prop :=
  Let (w.alloc (.cells cs1.toArray 109)) fun w1 => 
  Join [] (fun (w2 : World) => R (.bool true) w2) (fun J =>
  LoopV [(11, .int .i64)] (fun K => K (0 : Int) w1) (fun N => fun (x11 : Int) (w3 : World) =>
  cond (decide (x11 < ((s0.n : Nat) : Int))) (
  Join [] (fun (w4 : World) => N (IntKind.wrap .i64 (x11 + (1 : Int))) w4) (fun J_2 =>
  ∃ p14 : Pt, s0.a = some ⟨p14.b, p14.o, none⟩ ∧ 0 ≤ x11 ∧ x11 < ((s0.n : Nat) : Int) ∧ ∃ x15 : Int, World.cell? w3 ⟨p14.b, (p14.o + Int.toNat x11 * 1), none⟩ = some (.int .i64 x15) ∧ 0 ≤ x11 ∧ x11 ≤ ((s0.c : Nat) : Int) ∧ Join [] (fun (w5 : World) => J_2 w5) (fun J_3 =>
  LoopV [(20, .int .i64)] (fun K => K (0 : Int) w3) (fun N_2 => fun (x20 : Int) (w6 : World) =>
  cond (decide (x20 < (((Int.toNat x11) : Nat) : Int))) (
  Join [] (fun (w7 : World) => N_2 (IntKind.wrap .i64 (x20 + (1 : Int))) w7) (fun J_4 =>
  ∃ p22 : Pt, s0.a = some ⟨p22.b, p22.o, none⟩ ∧ 0 ≤ x20 ∧ x20 < (((Int.toNat x11) : Nat) : Int) ∧ ∃ x23 : Int, World.cell? w6 ⟨p22.b, (p22.o + Int.toNat x20 * 1), none⟩ = some (.int .i64 x23) ∧ 0 ≤ x15 ∧ x15 < ((7 : Nat) : Int) ∧ 0 ≤ x23 ∧ x23 < ((7 : Nat) : Int) ∧ ∃ b28 : Bool, World.cell? w6 ⟨w.heap.size, ((0 + Int.toNat x15 * 7) + Int.toNat x23 * 1), none⟩ = some (.bool b28) ∧ cond b28 (
  R (.bool false) w6) (
  J_4 w6))) (
  J_3 w6))))) (
  J w3)))
theorem eq58 (s0 : Sl) (cs1 : List Value) (R : Value → World → Prop) (w : World) : funV Try.prog Try.f58 An58 [(.slice s0.a s0.n s0.c), (.agg cs1.toArray)] R w = S58 s0 cs1 R w := by kernel_rfl
theorem call58 (s0 : Sl) (cs1 : List Value) {R : Value → World → Prop} {w : World} (h : S58 s0 cs1 R w) : Calls Try.prog 58 [(.slice s0.a s0.n s0.c), (.agg cs1.toArray)].toArray w fun e w' => ∃ v, e = .returned v ∧ R v w' :=
  funV_calls mixed Try.func58 (an := An58) (by rw [eq58]; exact h)

/-- F59: cubeb/cubebref05.conflicts -/
def An59 : An := (.sq .lf (.sq .lf (.sq .lf (.sq (.sq .lf (.bk [] (.lp [(12, .int .i64)] (.sq .lf (.sq (.cd .lf .lf) (.sq (.bk [] (.sq .lf (.sq .lf (.bk [] (.lp [(21, .int .i64)] (.sq .lf (.sq (.cd .lf .lf) (.sq (.bk [] (.sq .lf (.sq (.rj [] [(54, .bool)]) (.cj [] (.dr [0, 1, 2, 3, 4, 5, 6] [] false none) .lf)))) .lf)))))))) .lf)))))) (.sq .lf .lf)))))
def S59 (s0 : Sl) (R : Value → World → Prop) (w : World) : Prop :=
  Let (w.alloc (.cells (zc Try.prog 109) 109)) fun w1 => 
  Let (w1.alloc (.cells (zc Try.prog 109) 109)) fun w2 => 
  Calls Try.prog 70 [(.slice s0.a s0.n s0.c)].toArray w2 (fun e w3 => ∃ s9 : Sl, e = .returned (.slice s9.a s9.n s9.c) ∧
  Join [] (fun (w4 : World) => ∃ cs63 : List Value, cs63.length = 49 ∧ rd w4 w1.heap.size 0 cs63 ∧ StoreOk w4 w.heap.size 0 cs63 49 ∧ Let (put w4 w.heap.size 0 cs63) fun w5 => 
  ∃ csr2 : List Value, csr2.length = 49 ∧ rd w5 w.heap.size 0 csr2 ∧ R (.agg csr2.toArray) w5) (fun J =>
  LoopV [(12, .int .i64)] (fun K => K (0 : Int) w3) (fun N => fun (x12 : Int) (w6 : World) =>
  cond (decide (x12 < ((s9.n : Nat) : Int))) (
  Join [] (fun (w7 : World) => N (IntKind.wrap .i64 (x12 + (1 : Int))) w7) (fun J_2 =>
  ∃ p15 : Pt, s9.a = some ⟨p15.b, p15.o, none⟩ ∧ 0 ≤ x12 ∧ x12 < ((s9.n : Nat) : Int) ∧ ∃ x16_0 : Int, ∃ x16_1 : Int, ∃ x16_2 : Int, rd w6 p15.b (p15.o + Int.toNat x12 * 3) [(.int .i64 x16_0), (.int .i64 x16_1), (.int .i64 x16_2)] ∧ Let (w6.alloc (.cells (zc Try.prog 37) 37)) fun w8 => 
  StoreOk w8 w6.heap.size 0 [(.int .i64 x16_0), (.int .i64 x16_1), (.int .i64 x16_2)] 3 ∧ Let (put w8 w6.heap.size 0 [(.int .i64 x16_0), (.int .i64 x16_1), (.int .i64 x16_2)]) fun w9 => 
  0 ≤ x12 ∧ x12 ≤ ((s9.c : Nat) : Int) ∧ Join [] (fun (w10 : World) => J_2 w10) (fun J_3 =>
  LoopV [(21, .int .i64)] (fun K => K (0 : Int) w9) (fun N_2 => fun (x21 : Int) (w11 : World) =>
  cond (decide (x21 < (((Int.toNat x12) : Nat) : Int))) (
  Join [] (fun (w12 : World) => N_2 (IntKind.wrap .i64 (x21 + (1 : Int))) w12) (fun J_4 =>
  ∃ p23 : Pt, s9.a = some ⟨p23.b, p23.o, none⟩ ∧ 0 ≤ x21 ∧ x21 < (((Int.toNat x12) : Nat) : Int) ∧ ∃ x24_0 : Int, ∃ x24_1 : Int, ∃ x24_2 : Int, rd w11 p23.b (p23.o + Int.toNat x21 * 3) [(.int .i64 x24_0), (.int .i64 x24_1), (.int .i64 x24_2)] ∧ Let (w11.alloc (.cells (zc Try.prog 37) 37)) fun w13 => 
  StoreOk w13 w11.heap.size 0 [(.int .i64 x24_0), (.int .i64 x24_1), (.int .i64 x24_2)] 3 ∧ Let (put w13 w11.heap.size 0 [(.int .i64 x24_0), (.int .i64 x24_1), (.int .i64 x24_2)]) fun w14 => 
  Join [(54, .bool)] (fun (b54 : Bool) (w15 : World) => Join [] (fun (w16 : World) => J_4 w16) (fun J_5 =>
  cond b54 (
  Let w15.drew fun w17 =>
  ∃ x56 : Int, World.cell? w17 ⟨w11.heap.size, (0 + 0), none⟩ = some (.int .i64 x56) ∧ ∃ x58 : Int, World.cell? w17 ⟨w6.heap.size, (0 + 0), none⟩ = some (.int .i64 x58) ∧ 0 ≤ x56 ∧ x56 < ((7 : Nat) : Int) ∧ 0 ≤ x58 ∧ x58 < ((7 : Nat) : Int) ∧ StoreOk w17 w1.heap.size ((0 + Int.toNat x56 * 7) + Int.toNat x58 * 1) [(.bool true)] 1 ∧ Let (put w17 w1.heap.size ((0 + Int.toNat x56 * 7) + Int.toNat x58 * 1) [(.bool true)]) fun w18 => 
  J_5 w18) (
  J_5 w15))) (fun J_6 =>
  ∃ x26 : Int, World.cell? w14 ⟨w6.heap.size, (0 + 1), none⟩ = some (.int .i64 x26) ∧ cond (decide (x26 < (2 : Int))) (∃ x30 : Int, World.cell? w14 ⟨w11.heap.size, (0 + 1), none⟩ = some (.int .i64 x30) ∧ cond (decide (x30 < (2 : Int))) (∃ x35 : Int, World.cell? w14 ⟨w6.heap.size, (0 + 1), none⟩ = some (.int .i64 x35) ∧ ∃ x37 : Int, World.cell? w14 ⟨w11.heap.size, (0 + 1), none⟩ = some (.int .i64 x37) ∧ cond (decide ((IntKind.wrap .i64 (x35 + x37)) > (0 : Int))) (∃ x43 : Int, World.cell? w14 ⟨w6.heap.size, (0 + 2), none⟩ = some (.int .i64 x43) ∧ ∃ x45 : Int, World.cell? w14 ⟨w11.heap.size, (0 + 2), none⟩ = some (.int .i64 x45) ∧ cond (x43 == x45) (∃ x50 : Int, World.cell? w14 ⟨w6.heap.size, (0 + 0), none⟩ = some (.int .i64 x50) ∧ ∃ x52 : Int, World.cell? w14 ⟨w11.heap.size, (0 + 0), none⟩ = some (.int .i64 x52) ∧ J_6 (x50 != x52) w14) (J_6 false w14)) (J_6 false w14)) (J_6 false w14)) (J_6 false w14)))) (
  J_3 w11))))) (
  J w6))))
theorem eq59 (s0 : Sl) (R : Value → World → Prop) (w : World) : funV Try.prog Try.f59 An59 [(.slice s0.a s0.n s0.c)] R w = S59 s0 R w := by kernel_rfl
theorem call59 (s0 : Sl) {R : Value → World → Prop} {w : World} (h : S59 s0 R w) : Calls Try.prog 59 [(.slice s0.a s0.n s0.c)].toArray w fun e w' => ∃ v, e = .returned v ∧ R v w' :=
  funV_calls mixed Try.func59 (an := An59) (by rw [eq59]; exact h)

end Go.Proofs.Ytnbkihkdfhjlmaa
