/-
  Printed by a program of this session (wip/tools/vcprint.py): of each Go function the shallow form, and that the calculus comes to it, by the kernel.
-/
import Derived.Test.YtnbkihkdfhjlmaaVb5
import Derived.Test.YtnbkihkdfhjlmaaProg
import Derived.KernelRfl
namespace Go.Proofs.Ytnbkihkdfhjlmaa
open Go Go.VC
set_option maxRecDepth 100000
theorem mixed : Try.prog.follows .mixedOrders = true := by kernel_rfl

/-- F12: cubeb/cubeblaw05.of -/
def A12 : An := (.sq .lf (.sq .lf (.sq (.sq .lf (.bk [(3, .slice)] (.lp [(3, .slice), (8, .int .i64)] (.sq .lf (.sq (.cd .lf .lf) (.sq (.bk [(3, .slice)] (.sq .lf (.sq (.sq .lf (.cd .lf .lf)) .lf))) .lf)))))) (.sq .lf .lf))))
def S12 (s0 : Sl) (R : Value → World → Prop) (w : World) : Prop :=
  Join [(3, .slice)] (fun (s3 : Sl) (w1 : World) => R (.slice s3.a s3.n s3.c) w1) (fun J =>
  LoopV [(3, .slice), (8, .int .i64)] (fun K => K ⟨none, 0, 0⟩ (0 : Int) w) (fun N => fun (s3_2 : Sl) (x8 : Int) (w2 : World) =>
  cond (decide (x8 < ((s0.n : Nat) : Int))) (
  Join [(3, .slice)] (fun (s3_3 : Sl) (w3 : World) => N ⟨s3_3.a, s3_3.n, s3_3.c⟩ (IntKind.wrap .i64 (x8 + (1 : Int))) w3) (fun J_2 =>
  ∃ p11 : Pt, s0.a = some ⟨p11.b, p11.o, none⟩ ∧ 0 ≤ x8 ∧ x8 < ((s0.n : Nat) : Int) ∧ ∃ x12_0 : Int, ∃ x12_1 : Int, ∃ x12_2 : Int, rd w2 p11.b (p11.o + Int.toNat x8 * 3) [(.int .i64 x12_0), (.int .i64 x12_1), (.int .i64 x12_2)] ∧ Let (w2.alloc (.cells (zc Try.prog 37) 37)) fun w4 => 
  StoreOk w4 w2.heap.size 0 [(.int .i64 x12_0), (.int .i64 x12_1), (.int .i64 x12_2)] 3 ∧ Let (put w4 w2.heap.size 0 [(.int .i64 x12_0), (.int .i64 x12_1), (.int .i64 x12_2)]) fun w5 => 
  cond (decide (x8 > (42 : Int))) (
  J ⟨s3_2.a, s3_2.n, s3_2.c⟩ w5) (
  ∃ x17 : Int, World.cell? w5 ⟨w2.heap.size, (0 + 0), none⟩ = some (.int .i64 x17) ∧ ∃ x19 : Int, World.cell? w5 ⟨w2.heap.size, (0 + 1), none⟩ = some (.int .i64 x19) ∧ ∃ x21 : Int, World.cell? w5 ⟨w2.heap.size, (0 + 2), none⟩ = some (.int .i64 x21) ∧ ∃ (s23 : Sl) (w6 : World), Sem.run Try.prog (Instr.buildSlice 29 1 [(0, (.agg [(.int .i64 x17), (.int .i64 x19), (.int .i64 x21)].toArray))].toArray) w5 = .ok (.slice s23.a s23.n s23.c) w6 ∧
  ∃ (s24 : Sl) (w7 : World), Sem.run Try.prog (Builtin.append_ #[29, 29] 29 #[(.slice s3_2.a s3_2.n s3_2.c), (.slice s23.a s23.n s23.c)]) w6 = .ok (.slice s24.a s24.n s24.c) w7 ∧
  J_2 ⟨s24.a, s24.n, s24.c⟩ w7))) (
  J ⟨s3_2.a, s3_2.n, s3_2.c⟩ w2)))
theorem eq12 (s0 : Sl) (R : Value → World → Prop) (w : World) : funV Try.prog Try.f12 A12 [(.slice s0.a s0.n s0.c)] R w = S12 s0 R w := by kernel_rfl
theorem call12 (s0 : Sl) {R : Value → World → Prop} {w : World} (h : S12 s0 R w) : Calls Try.prog 12 [(.slice s0.a s0.n s0.c)].toArray w fun e w' => ∃ v, e = .returned v ∧ R v w' :=
  funV_calls mixed Try.func12 (an := A12) (by rw [eq12]; exact h)

/-- F13: cubeb/cubebref05.Valid -/
def A13 : An := (.sq .lf (.sq (.sq .lf (.bk [] (.lp [(9, .int .i64)] (.sq .lf (.sq (.cd .lf .lf) (.sq (.bk [] (.sq .lf (.sq (.sq (.rj [] [(51, .bool)]) (.cd (.sq .lf .lf) .lf)) (.sq .lf (.bk [] (.lp [(56, .int .i64)] (.sq .lf (.sq (.cd .lf .lf) (.sq (.bk [] (.sq .lf (.sq (.rj [] [(69, .bool)]) (.cd (.sq .lf .lf) .lf)))) .lf))))))))) .lf)))))) (.sq .lf .lf)))
def S13 (s0 : Sl) (R : Value → World → Prop) (w : World) : Prop :=
  Join [] (fun (w1 : World) => R (.bool (decide (((s0.n : Nat) : Int) ≤ (40 : Int)))) w1) (fun J =>
  LoopV [(9, .int .i64)] (fun K => K (0 : Int) w) (fun N => fun (x9 : Int) (w2 : World) =>
  cond (decide (x9 < ((s0.n : Nat) : Int))) (
  Join [] (fun (w3 : World) => N (IntKind.wrap .i64 (x9 + (1 : Int))) w3) (fun J_2 =>
  ∃ p12 : Pt, s0.a = some ⟨p12.b, p12.o, none⟩ ∧ 0 ≤ x9 ∧ x9 < ((s0.n : Nat) : Int) ∧ ∃ x13_0 : Int, ∃ x13_1 : Int, ∃ x13_2 : Int, rd w2 p12.b (p12.o + Int.toNat x9 * 3) [(.int .i64 x13_0), (.int .i64 x13_1), (.int .i64 x13_2)] ∧ Let (w2.alloc (.cells (zc Try.prog 37) 37)) fun w4 => 
  StoreOk w4 w2.heap.size 0 [(.int .i64 x13_0), (.int .i64 x13_1), (.int .i64 x13_2)] 3 ∧ Let (put w4 w2.heap.size 0 [(.int .i64 x13_0), (.int .i64 x13_1), (.int .i64 x13_2)]) fun w5 => 
  Join [(51, .bool)] (fun (b51 : Bool) (w6 : World) => cond b51 (
  R (.bool false) w6) (
  0 ≤ x9 ∧ x9 ≤ ((s0.c : Nat) : Int) ∧ Join [] (fun (w7 : World) => J_2 w7) (fun J_3 =>
  LoopV [(56, .int .i64)] (fun K => K (0 : Int) w6) (fun N_2 => fun (x56 : Int) (w8 : World) =>
  cond (decide (x56 < (((Int.toNat x9) : Nat) : Int))) (
  Join [] (fun (w9 : World) => N_2 (IntKind.wrap .i64 (x56 + (1 : Int))) w9) (fun J_4 =>
  ∃ p58 : Pt, s0.a = some ⟨p58.b, p58.o, none⟩ ∧ 0 ≤ x56 ∧ x56 < (((Int.toNat x9) : Nat) : Int) ∧ ∃ x59_0 : Int, ∃ x59_1 : Int, ∃ x59_2 : Int, rd w8 p58.b (p58.o + Int.toNat x56 * 3) [(.int .i64 x59_0), (.int .i64 x59_1), (.int .i64 x59_2)] ∧ Let (w8.alloc (.cells (zc Try.prog 37) 37)) fun w10 => 
  StoreOk w10 w8.heap.size 0 [(.int .i64 x59_0), (.int .i64 x59_1), (.int .i64 x59_2)] 3 ∧ Let (put w10 w8.heap.size 0 [(.int .i64 x59_0), (.int .i64 x59_1), (.int .i64 x59_2)]) fun w11 => 
  Join [(69, .bool)] (fun (b69 : Bool) (w12 : World) => cond b69 (
  R (.bool false) w12) (
  J_4 w12)) (fun J_5 =>
  ∃ x61 : Int, World.cell? w11 ⟨w8.heap.size, (0 + 0), none⟩ = some (.int .i64 x61) ∧ ∃ x63 : Int, World.cell? w11 ⟨w2.heap.size, (0 + 0), none⟩ = some (.int .i64 x63) ∧ cond (x61 == x63) (∃ x67 : Int, World.cell? w11 ⟨w8.heap.size, (0 + 1), none⟩ = some (.int .i64 x67) ∧ J_5 (decide (x67 > (1 : Int))) w11) (J_5 false w11)))) (
  J_3 w8))))) (fun J_6 =>
  ∃ x15 : Int, World.cell? w5 ⟨w2.heap.size, (0 + 0), none⟩ = some (.int .i64 x15) ∧ cond (decide (x15 < (1 : Int))) (J_6 true w5) (∃ x19 : Int, World.cell? w5 ⟨w2.heap.size, (0 + 0), none⟩ = some (.int .i64 x19) ∧ cond (decide (x19 > (6 : Int))) (J_6 true w5) (∃ x24 : Int, World.cell? w5 ⟨w2.heap.size, (0 + 1), none⟩ = some (.int .i64 x24) ∧ cond (decide (x24 < (0 : Int))) (J_6 true w5) (∃ x29 : Int, World.cell? w5 ⟨w2.heap.size, (0 + 1), none⟩ = some (.int .i64 x29) ∧ cond (decide (x29 > (3 : Int))) (J_6 true w5) (∃ x34 : Int, World.cell? w5 ⟨w2.heap.size, (0 + 2), none⟩ = some (.int .i64 x34) ∧ cond (decide (x34 < (0 : Int))) (J_6 true w5) (∃ x39 : Int, World.cell? w5 ⟨w2.heap.size, (0 + 2), none⟩ = some (.int .i64 x39) ∧ cond (decide (x39 > (5 : Int))) (J_6 true w5) (∃ x44 : Int, World.cell? w5 ⟨w2.heap.size, (0 + 1), none⟩ = some (.int .i64 x44) ∧ cond (decide (x44 > (1 : Int))) (∃ x48 : Int, World.cell? w5 ⟨w2.heap.size, (0 + 2), none⟩ = some (.int .i64 x48) ∧ J_6 (x48 != (0 : Int)) w5) (J_6 false w5)))))))))) (
  J w2)))
theorem eq13 (s0 : Sl) (R : Value → World → Prop) (w : World) : funV Try.prog Try.f13 A13 [(.slice s0.a s0.n s0.c)] R w = S13 s0 R w := by kernel_rfl
theorem call13 (s0 : Sl) {R : Value → World → Prop} {w : World} (h : S13 s0 R w) : Calls Try.prog 13 [(.slice s0.a s0.n s0.c)].toArray w fun e w' => ∃ v, e = .returned v ∧ R v w' :=
  funV_calls mixed Try.func13 (an := A13) (by rw [eq13]; exact h)

/-- F14: cubeb/cubeblaw05.awake -/
def A14 : An := (.sq .lf (.sq .lf (.sq (.rj [] [(0, .bool)]) .lf)))
def S14  (R : Value → World → Prop) (w : World) : Prop :=
  ∃ (s8 : Sl) (w1 : World), Sem.run Try.prog (Instr.buildSlice 29 4 [(0, (.agg [(.int .i64 (2 : Int)), (.int .i64 (1 : Int)), (.int .i64 (0 : Int))].toArray)), (1, (.agg [(.int .i64 (1 : Int)), (.int .i64 (0 : Int)), (.int .i64 (0 : Int))].toArray)), (2, (.agg [(.int .i64 (1 : Int)), (.int .i64 (2 : Int)), (.int .i64 (0 : Int))].toArray)), (3, (.agg [(.int .i64 (2 : Int)), (.int .i64 (2 : Int)), (.int .i64 (0 : Int))].toArray))].toArray) w = .ok (.slice s8.a s8.n s8.c) w1 ∧
  Calls Try.prog 17 [(.slice s8.a s8.n s8.c)].toArray w1 (fun e w2 => ∃ s9_0 : Sl, ∃ x9_1 : Int, e = .returned (.tuple [(.slice s9_0.a s9_0.n s9_0.c), (.int .i64 x9_1)].toArray) ∧
  Join [(0, .bool)] (fun (b0 : Bool) (w3 : World) => R (.bool b0) w3) (fun J =>
  cond (x9_1 == (0 : Int)) (∃ (s16 : Sl) (w4 : World), Sem.run Try.prog (Instr.buildSlice 24 2 [(0, (.int .i64 (2 : Int))), (1, (.int .i64 (1 : Int)))].toArray) w2 = .ok (.slice s16.a s16.n s16.c) w4 ∧
  Calls Try.prog 16 [(.slice s9_0.a s9_0.n s9_0.c), (.slice s16.a s16.n s16.c)].toArray w4 (fun e_2 w5 => ∃ b17 : Bool, e_2 = .returned (.bool b17) ∧
  J b17 w5)) (J false w2)))
theorem eq14  (R : Value → World → Prop) (w : World) : funV Try.prog Try.f14 A14 [] R w = S14  R w := by kernel_rfl
theorem call14  {R : Value → World → Prop} {w : World} (h : S14  R w) : Calls Try.prog 14 [].toArray w fun e w' => ∃ v, e = .returned v ∧ R v w' :=
  funV_calls mixed Try.func14 (an := A14) (by rw [eq14]; exact h)

/-- F16: slices.Equal[[]int,int] -/
def A16 : An := (.sq .lf (.sq (.sq .lf (.cd (.sq .lf .lf) .lf)) (.sq (.sq .lf (.bk [] (.lp [(13, .int .i64)] (.sq .lf (.sq (.cd .lf .lf) (.sq (.bk [] (.sq .lf (.sq (.dr [0, 1, 2, 3, 4, 5, 6, 7, 8] [] false none) (.cd (.sq .lf .lf) .lf)))) .lf)))))) (.sq .lf .lf))))
def S16 (s0 : Sl) (s1 : Sl) (R : Value → World → Prop) (w : World) : Prop :=
  cond (((s0.n : Nat) : Int) != ((s1.n : Nat) : Int)) (
  R (.bool false) w) (
  Join [] (fun (w1 : World) => R (.bool true) w1) (fun J =>
  LoopV [(13, .int .i64)] (fun K => K (0 : Int) w) (fun N => fun (x13 : Int) (w2 : World) =>
  cond (decide (x13 < ((s0.n : Nat) : Int))) (
  Join [] (fun (w3 : World) => N (IntKind.wrap .i64 (x13 + (1 : Int))) w3) (fun J_2 =>
  Let w2.drew fun w4 =>
  ∃ p18 : Pt, s0.a = some ⟨p18.b, p18.o, none⟩ ∧ 0 ≤ x13 ∧ x13 < ((s0.n : Nat) : Int) ∧ ∃ x19 : Int, World.cell? w4 ⟨p18.b, (p18.o + Int.toNat x13 * 1), none⟩ = some (.int .i64 x19) ∧ ∃ p22 : Pt, s1.a = some ⟨p22.b, p22.o, none⟩ ∧ 0 ≤ x13 ∧ x13 < ((s1.n : Nat) : Int) ∧ ∃ x23 : Int, World.cell? w4 ⟨p22.b, (p22.o + Int.toNat x13 * 1), none⟩ = some (.int .i64 x23) ∧ cond (x19 != x23) (
  R (.bool false) w4) (
  J_2 w4))) (
  J w2))))
theorem eq16 (s0 : Sl) (s1 : Sl) (R : Value → World → Prop) (w : World) : funV Try.prog Try.f16 A16 [(.slice s0.a s0.n s0.c), (.slice s1.a s1.n s1.c)] R w = S16 s0 s1 R w := by kernel_rfl
theorem call16 (s0 : Sl) (s1 : Sl) {R : Value → World → Prop} {w : World} (h : S16 s0 s1 R w) : Calls Try.prog 16 [(.slice s0.a s0.n s0.c), (.slice s1.a s1.n s1.c)].toArray w fun e w' => ∃ v, e = .returned v ∧ R v w' :=
  funV_calls mixed Try.func16 (an := A16) (by rw [eq16]; exact h)

/-- F17: cubeb/history.Order -/
def A17 : An := (.sq .lf (.sq (.sq .lf (.cd (.sq .lf .lf) .lf)) (.sq .lf (.sq (.sq .lf (.cd (.sq .lf .lf) .lf)) (.sq .lf .lf)))))
def S17 (s0 : Sl) (R : Value → World → Prop) (w : World) : Prop :=
  Calls Try.prog 26 [(.slice s0.a s0.n s0.c)].toArray w (fun e w1 => ∃ b7 : Bool, e = .returned (.bool b7) ∧
  cond (!b7) (
  R (.tuple [(.slice none 0 0), (.int .i64 (2 : Int))].toArray) w1) (
  Calls Try.prog 34 [(.slice s0.a s0.n s0.c)].toArray w1 (fun e_2 w2 => ∃ s11 : Sl, e_2 = .returned (.slice s11.a s11.n s11.c) ∧
  Calls Try.prog 43 [(.slice s11.a s11.n s11.c)].toArray w2 (fun e_3 w3 => ∃ m12 : Option Nat, e_3 = .returned (.map m12) ∧
  Calls Try.prog 36 [(.slice s0.a s0.n s0.c)].toArray w3 (fun e_4 w4 => ∃ s14 : Sl, e_4 = .returned (.slice s14.a s14.n s14.c) ∧
  Calls Try.prog 44 [(.map m12), (.slice s14.a s14.n s14.c)].toArray w4 (fun e_5 w5 => ∃ s15_0 : Sl, ∃ b15_1 : Bool, e_5 = .returned (.tuple [(.slice s15_0.a s15_0.n s15_0.c), (.bool b15_1)].toArray) ∧
  cond (!b15_1) (
  R (.tuple [(.slice none 0 0), (.int .i64 (8 : Int))].toArray) w5) (
  R (.tuple [(.slice s15_0.a s15_0.n s15_0.c), (.int .i64 (0 : Int))].toArray) w5)))))))
theorem eq17 (s0 : Sl) (R : Value → World → Prop) (w : World) : funV Try.prog Try.f17 A17 [(.slice s0.a s0.n s0.c)] R w = S17 s0 R w := by kernel_rfl
theorem call17 (s0 : Sl) {R : Value → World → Prop} {w : World} (h : S17 s0 R w) : Calls Try.prog 17 [(.slice s0.a s0.n s0.c)].toArray w fun e w' => ∃ v, e = .returned v ∧ R v w' :=
  funV_calls mixed Try.func17 (an := A17) (by rw [eq17]; exact h)

/-- F24: slices.Compare[[]int,int] -/
def A24 : An := (.sq .lf (.sq (.sq .lf (.bk [] (.lp [(11, .int .i64)] (.sq .lf (.sq (.cd .lf .lf) (.sq (.bk [] (.sq .lf (.sq (.sq .lf (.cd (.sq .lf .lf) .lf)) (.sq .lf (.sq .lf (.sq .lf (.cd (.sq .lf .lf) .lf))))))) .lf)))))) (.sq (.sq .lf (.cd (.sq .lf .lf) .lf)) (.sq .lf .lf))))
def S24 (s0 : Sl) (s1 : Sl) (R : Value → World → Prop) (w : World) : Prop :=
  Join [] (fun (w1 : World) => cond (decide (((s0.n : Nat) : Int) < ((s1.n : Nat) : Int))) (
  R (.int .i64 (-1 : Int)) w1) (
  R (.int .i64 (0 : Int)) w1)) (fun J =>
  LoopV [(11, .int .i64)] (fun K => K (0 : Int) w) (fun N => fun (x11 : Int) (w2 : World) =>
  cond (decide (x11 < ((s0.n : Nat) : Int))) (
  Join [] (fun (w3 : World) => N (IntKind.wrap .i64 (x11 + (1 : Int))) w3) (fun J_2 =>
  ∃ p14 : Pt, s0.a = some ⟨p14.b, p14.o, none⟩ ∧ 0 ≤ x11 ∧ x11 < ((s0.n : Nat) : Int) ∧ ∃ x15 : Int, World.cell? w2 ⟨p14.b, (p14.o + Int.toNat x11 * 1), none⟩ = some (.int .i64 x15) ∧ cond (decide (x11 ≥ ((s1.n : Nat) : Int))) (
  R (.int .i64 (1 : Int)) w2) (
  ∃ p22 : Pt, s1.a = some ⟨p22.b, p22.o, none⟩ ∧ 0 ≤ x11 ∧ x11 < ((s1.n : Nat) : Int) ∧ ∃ x23 : Int, World.cell? w2 ⟨p22.b, (p22.o + Int.toNat x11 * 1), none⟩ = some (.int .i64 x23) ∧ Calls Try.prog 53 [(.int .i64 x15), (.int .i64 x23)].toArray w2 (fun e w4 => ∃ x26 : Int, e = .returned (.int .i64 x26) ∧
  cond (x26 != (0 : Int)) (
  R (.int .i64 x26) w4) (
  J_2 w4))))) (
  J w2)))
theorem eq24 (s0 : Sl) (s1 : Sl) (R : Value → World → Prop) (w : World) : funV Try.prog Try.f24 A24 [(.slice s0.a s0.n s0.c), (.slice s1.a s1.n s1.c)] R w = S24 s0 s1 R w := by kernel_rfl
theorem call24 (s0 : Sl) (s1 : Sl) {R : Value → World → Prop} {w : World} (h : S24 s0 s1 R w) : Calls Try.prog 24 [(.slice s0.a s0.n s0.c), (.slice s1.a s1.n s1.c)].toArray w fun e w' => ∃ v, e = .returned v ∧ R v w' :=
  funV_calls mixed Try.func24 (an := A24) (by rw [eq24]; exact h)

/-- F26: cubeb/history.Valid -/
def A26 : An := (.sq .lf (.sq .lf (.sq (.sq .lf (.cd (.sq .lf .lf) .lf)) (.sq (.sq .lf (.bk [] (.lp [(13, .int .i64)] (.sq .lf (.sq (.cd .lf .lf) (.sq (.bk [] (.sq .lf (.sq (.rj [] [(6, .bool)]) (.sq (.sq (.rj [] [(66, .bool)]) (.cd (.sq .lf .lf) .lf)) .lf)))) .lf)))))) (.sq .lf .lf)))))
def S26 (s0 : Sl) (R : Value → World → Prop) (w : World) : Prop :=
  Let (w.alloc (.map #[] 0)) fun w1 => 
  cond (decide (((s0.n : Nat) : Int) > (40 : Int))) (
  R (.bool false) w1) (
  Join [] (fun (w2 : World) => R (.bool true) w2) (fun J =>
  LoopV [(13, .int .i64)] (fun K => K (0 : Int) w1) (fun N => fun (x13 : Int) (w3 : World) =>
  cond (decide (x13 < ((s0.n : Nat) : Int))) (
  Join [] (fun (w4 : World) => N (IntKind.wrap .i64 (x13 + (1 : Int))) w4) (fun J_2 =>
  ∃ p15 : Pt, s0.a = some ⟨p15.b, p15.o, none⟩ ∧ 0 ≤ x13 ∧ x13 < ((s0.n : Nat) : Int) ∧ ∃ x16_0 : Int, ∃ x16_1 : Int, ∃ x16_2 : Int, rd w3 p15.b (p15.o + Int.toNat x13 * 3) [(.int .i64 x16_0), (.int .i64 x16_1), (.int .i64 x16_2)] ∧ Let (w3.alloc (.cells (zc Try.prog 38) 38)) fun w5 => 
  StoreOk w5 w3.heap.size 0 [(.int .i64 x16_0), (.int .i64 x16_1), (.int .i64 x16_2)] 3 ∧ Let (put w5 w3.heap.size 0 [(.int .i64 x16_0), (.int .i64 x16_1), (.int .i64 x16_2)]) fun w6 => 
  Join [(6, .bool)] (fun (b6 : Bool) (w7 : World) => Join [(66, .bool)] (fun (b66 : Bool) (w8 : World) => cond b66 (
  R (.bool false) w8) (
  ∃ x69 : Int, World.cell? w8 ⟨w3.heap.size, (0 + 0), none⟩ = some (.int .i64 x69) ∧ ∃ w9 : World, Sem.run Try.prog (Instr.mapUpdate 84 (.map (some w.heap.size)) (.int .i64 x69) (.bool b6)) w8 = .ok () w9 ∧
  J_2 w9)) (fun J_3 =>
  ∃ x26 : Int, World.cell? w7 ⟨w3.heap.size, (0 + 0), none⟩ = some (.int .i64 x26) ∧ cond (decide (x26 < (1 : Int))) (J_3 true w7) (∃ x30 : Int, World.cell? w7 ⟨w3.heap.size, (0 + 0), none⟩ = some (.int .i64 x30) ∧ cond (decide (x30 > (6 : Int))) (J_3 true w7) (∃ x35 : Int, World.cell? w7 ⟨w3.heap.size, (0 + 1), none⟩ = some (.int .i64 x35) ∧ cond (decide (x35 < (0 : Int))) (J_3 true w7) (∃ x40 : Int, World.cell? w7 ⟨w3.heap.size, (0 + 1), none⟩ = some (.int .i64 x40) ∧ cond (decide (x40 > (3 : Int))) (J_3 true w7) (∃ x45 : Int, World.cell? w7 ⟨w3.heap.size, (0 + 2), none⟩ = some (.int .i64 x45) ∧ cond (decide (x45 < (0 : Int))) (J_3 true w7) (∃ x50 : Int, World.cell? w7 ⟨w3.heap.size, (0 + 2), none⟩ = some (.int .i64 x50) ∧ cond (decide (x50 ≥ (6 : Int))) (J_3 true w7) (cond b6 (∃ x57 : Int, World.cell? w7 ⟨w3.heap.size, (0 + 2), none⟩ = some (.int .i64 x57) ∧ cond (x57 != (0 : Int)) (J_3 true w7) (∃ x64 : Int, World.cell? w7 ⟨w3.heap.size, (0 + 0), none⟩ = some (.int .i64 x64) ∧ ∃ b65 : Bool, Sem.run Try.prog (Instr.lookup 84 (.map (some w.heap.size)) (.int .i64 x64) false) w7 = .ok (.bool b65) w7 ∧ J_3 b65 w7)) (∃ x64_2 : Int, World.cell? w7 ⟨w3.heap.size, (0 + 0), none⟩ = some (.int .i64 x64_2) ∧ ∃ b65_2 : Bool, Sem.run Try.prog (Instr.lookup 84 (.map (some w.heap.size)) (.int .i64 x64_2) false) w7 = .ok (.bool b65_2) w7 ∧ J_3 b65_2 w7))))))))) (fun J_4 =>
  ∃ x18 : Int, World.cell? w6 ⟨w3.heap.size, (0 + 1), none⟩ = some (.int .i64 x18) ∧ cond (x18 == (2 : Int)) (J_4 true w6) (∃ x22 : Int, World.cell? w6 ⟨w3.heap.size, (0 + 1), none⟩ = some (.int .i64 x22) ∧ J_4 (x22 == (3 : Int)) w6)))) (
  J w3))))
theorem eq26 (s0 : Sl) (R : Value → World → Prop) (w : World) : funV Try.prog Try.f26 A26 [(.slice s0.a s0.n s0.c)] R w = S26 s0 R w := by kernel_rfl
theorem call26 (s0 : Sl) {R : Value → World → Prop} {w : World} (h : S26 s0 R w) : Calls Try.prog 26 [(.slice s0.a s0.n s0.c)].toArray w fun e w' => ∃ v, e = .returned v ∧ R v w' :=
  funV_calls mixed Try.func26 (an := A26) (by rw [eq26]; exact h)

/-- F27: slices.Contains[cubeb/history.History,cubeb/history.Op] -/
def A27 : An := (.sq .lf (.sq .lf .lf))
def S27 (s0 : Sl) (x1_0 : Int) (x1_1 : Int) (x1_2 : Int) (R : Value → World → Prop) (w : World) : Prop :=
  Let (w.alloc (.cells [(.int .i64 x1_0), (.int .i64 x1_1), (.int .i64 x1_2)].toArray 38)) fun w1 => 
  ∃ x6_0 : Int, ∃ x6_1 : Int, ∃ x6_2 : Int, rd w1 w.heap.size 0 [(.int .i64 x6_0), (.int .i64 x6_1), (.int .i64 x6_2)] ∧ Calls Try.prog 56 [(.slice s0.a s0.n s0.c), (.agg [(.int .i64 x6_0), (.int .i64 x6_1), (.int .i64 x6_2)].toArray)].toArray w1 (fun e w2 => ∃ x7 : Int, e = .returned (.int .i64 x7) ∧
  R (.bool (decide (x7 ≥ (0 : Int)))) w2)
theorem eq27 (s0 : Sl) (x1_0 : Int) (x1_1 : Int) (x1_2 : Int) (R : Value → World → Prop) (w : World) : funV Try.prog Try.f27 A27 [(.slice s0.a s0.n s0.c), (.agg [(.int .i64 x1_0), (.int .i64 x1_1), (.int .i64 x1_2)].toArray)] R w = S27 s0 x1_0 x1_1 x1_2 R w := by kernel_rfl
theorem call27 (s0 : Sl) (x1_0 : Int) (x1_1 : Int) (x1_2 : Int) {R : Value → World → Prop} {w : World} (h : S27 s0 x1_0 x1_1 x1_2 R w) : Calls Try.prog 27 [(.slice s0.a s0.n s0.c), (.agg [(.int .i64 x1_0), (.int .i64 x1_1), (.int .i64 x1_2)].toArray)].toArray w fun e w' => ∃ v, e = .returned v ∧ R v w' :=
  funV_calls mixed Try.func27 (an := A27) (by rw [eq27]; exact h)

/-- F28: slices.Contains[[]int,int] -/
def A28 : An := (.sq .lf (.sq .lf .lf))
def S28 (s0 : Sl) (x1 : Int) (R : Value → World → Prop) (w : World) : Prop :=
  Calls Try.prog 57 [(.slice s0.a s0.n s0.c), (.int .i64 x1)].toArray w (fun e w1 => ∃ x7 : Int, e = .returned (.int .i64 x7) ∧
  R (.bool (decide (x7 ≥ (0 : Int)))) w1)
theorem eq28 (s0 : Sl) (x1 : Int) (R : Value → World → Prop) (w : World) : funV Try.prog Try.f28 A28 [(.slice s0.a s0.n s0.c), (.int .i64 x1)] R w = S28 s0 x1 R w := by kernel_rfl
theorem call28 (s0 : Sl) (x1 : Int) {R : Value → World → Prop} {w : World} (h : S28 s0 x1 R w) : Calls Try.prog 28 [(.slice s0.a s0.n s0.c), (.int .i64 x1)].toArray w fun e w' => ∃ v, e = .returned v ∧ R v w' :=
  funV_calls mixed Try.func28 (an := A28) (by rw [eq28]; exact h)

/-- F34: (cubeb/history.History).part -/
def A34 : An := (.sq .lf (.sq .lf (.sq .lf (.sq (.sq .lf (.bk [(4, .slice)] (.lp [(4, .slice), (11, .int .i64)] (.sq .lf (.sq (.cd .lf .lf) (.sq (.bk [(4, .slice)] (.sq .lf (.sq .lf (.cj [(4, .slice)] .lf .lf)))) .lf)))))) (.sq .lf .lf)))))
def S34 (s0 : Sl) (R : Value → World → Prop) (w : World) : Prop :=
  Calls Try.prog 36 [(.slice s0.a s0.n s0.c)].toArray w (fun e w1 => ∃ s8 : Sl, e = .returned (.slice s8.a s8.n s8.c) ∧
  Join [(4, .slice)] (fun (s4 : Sl) (w2 : World) => R (.slice s4.a s4.n s4.c) w2) (fun J =>
  LoopV [(4, .slice), (11, .int .i64)] (fun K => K ⟨none, 0, 0⟩ (0 : Int) w1) (fun N => fun (s4_2 : Sl) (x11 : Int) (w3 : World) =>
  cond (decide (x11 < ((s0.n : Nat) : Int))) (
  Join [(4, .slice)] (fun (s4_3 : Sl) (w4 : World) => N ⟨s4_3.a, s4_3.n, s4_3.c⟩ (IntKind.wrap .i64 (x11 + (1 : Int))) w4) (fun J_2 =>
  ∃ p13 : Pt, s0.a = some ⟨p13.b, p13.o, none⟩ ∧ 0 ≤ x11 ∧ x11 < ((s0.n : Nat) : Int) ∧ ∃ x14_0 : Int, ∃ x14_1 : Int, ∃ x14_2 : Int, rd w3 p13.b (p13.o + Int.toNat x11 * 3) [(.int .i64 x14_0), (.int .i64 x14_1), (.int .i64 x14_2)] ∧ Let (w3.alloc (.cells (zc Try.prog 38) 38)) fun w5 => 
  StoreOk w5 w3.heap.size 0 [(.int .i64 x14_0), (.int .i64 x14_1), (.int .i64 x14_2)] 3 ∧ Let (put w5 w3.heap.size 0 [(.int .i64 x14_0), (.int .i64 x14_1), (.int .i64 x14_2)]) fun w6 => 
  ∃ x17 : Int, World.cell? w6 ⟨w3.heap.size, (0 + 0), none⟩ = some (.int .i64 x17) ∧ Calls Try.prog 28 [(.slice s8.a s8.n s8.c), (.int .i64 x17)].toArray w6 (fun e_2 w7 => ∃ b18 : Bool, e_2 = .returned (.bool b18) ∧
  Join [(4, .slice)] (fun (s4_4 : Sl) (w8 : World) => J_2 ⟨s4_4.a, s4_4.n, s4_4.c⟩ w8) (fun J_3 =>
  cond b18 (
  ∃ x20_0 : Int, ∃ x20_1 : Int, ∃ x20_2 : Int, rd w7 w3.heap.size 0 [(.int .i64 x20_0), (.int .i64 x20_1), (.int .i64 x20_2)] ∧ ∃ (s21 : Sl) (w9 : World), Sem.run Try.prog (Instr.buildSlice 29 1 [(0, (.agg [(.int .i64 x20_0), (.int .i64 x20_1), (.int .i64 x20_2)].toArray))].toArray) w7 = .ok (.slice s21.a s21.n s21.c) w9 ∧
  ∃ (s22 : Sl) (w10 : World), Sem.run Try.prog (Builtin.append_ #[29, 29] 29 #[(.slice s4_2.a s4_2.n s4_2.c), (.slice s21.a s21.n s21.c)]) w9 = .ok (.slice s22.a s22.n s22.c) w10 ∧
  J_3 ⟨s22.a, s22.n, s22.c⟩ w10) (
  J_3 ⟨s4_2.a, s4_2.n, s4_2.c⟩ w7))))) (
  J ⟨s4_2.a, s4_2.n, s4_2.c⟩ w3))))
theorem eq34 (s0 : Sl) (R : Value → World → Prop) (w : World) : funV Try.prog Try.f34 A34 [(.slice s0.a s0.n s0.c)] R w = S34 s0 R w := by kernel_rfl
theorem call34 (s0 : Sl) {R : Value → World → Prop} {w : World} (h : S34 s0 R w) : Calls Try.prog 34 [(.slice s0.a s0.n s0.c)].toArray w fun e w' => ∃ v, e = .returned v ∧ R v w' :=
  funV_calls mixed Try.func34 (an := A34) (by rw [eq34]; exact h)

/-- F36: (cubeb/history.History).committed -/
def A36 : An := (.sq .lf (.sq .lf (.sq (.sq .lf (.bk [(3, .slice)] (.lp [(3, .slice)] (.sq .lf (.sq (.cd .lf .lf) (.bk [(3, .slice)] (.sq (.lf [(0, 3, 3)]) (.sq .lf (.cj [(3, .slice)] .lf .lf))))))))) (.sq .lf (.sq .lf .lf)))))
def S36 (s0 : Sl) (R : Value → World → Prop) (w : World) : Prop :=
  Calls Try.prog 54 [(.slice s0.a s0.n s0.c), (.int .i64 (2 : Int))].toArray w (fun e w1 => ∃ m7 : Option Nat, e = .returned (.map m7) ∧
  ∃ (p8 : Pt) (w2 : World), Sem.run Try.prog (Instr.range 103 (.map m7)) w1 = .ok (.pointer (some ⟨p8.b, p8.o, none⟩)) w2 ∧
  Join [(3, .slice)] (fun (s3 : Sl) (w3 : World) => Calls Try.prog 67 [(.slice s3.a s3.n s3.c)].toArray w3 (fun e_2 w4 => e_2 = .returned (.tuple [].toArray) ∧
  R (.slice s3.a s3.n s3.c) w4)) (fun J =>
  LoopV [(3, .slice)] (fun K => K ⟨none, 0, 0⟩ w2) (fun N => fun (s3_2 : Sl) (w5 : World) =>
  ∃ (b9 : Bool) (kv9 : List Value) (w6 : World), Sem.run Try.prog (Instr.next (.pointer (some ⟨p8.b, p8.o, none⟩)) false 0) w5 = .ok (.tuple (Value.bool b9 :: kv9).toArray) w6 ∧
  cond b9 (
  Join [(3, .slice)] (fun (s3_3 : Sl) (w7 : World) => N ⟨s3_3.a, s3_3.n, s3_3.c⟩ w7) (fun J_2 =>
  ∃ x11_k : Int, ∃ x11_v : Int, Sem.run Try.prog (Instr.entry (.pointer (some ⟨p8.b, p8.o, none⟩))) w6 = .ok (.tuple #[(.int .i64 x11_k), (.int .i64 x11_v)]) w6 ∧ Join [(3, .slice)] (fun (s3_4 : Sl) (w8 : World) => J_2 ⟨s3_4.a, s3_4.n, s3_4.c⟩ w8) (fun J_3 =>
  cond (decide (x11_v ≥ (0 : Int))) (
  ∃ (s18 : Sl) (w9 : World), Sem.run Try.prog (Instr.buildSlice 24 1 [(0, (.int .i64 x11_k))].toArray) w6 = .ok (.slice s18.a s18.n s18.c) w9 ∧
  ∃ (s19 : Sl) (w10 : World), Sem.run Try.prog (Builtin.append_ #[24, 24] 24 #[(.slice s3_2.a s3_2.n s3_2.c), (.slice s18.a s18.n s18.c)]) w9 = .ok (.slice s19.a s19.n s19.c) w10 ∧
  J_3 ⟨s19.a, s19.n, s19.c⟩ w10) (
  J_3 ⟨s3_2.a, s3_2.n, s3_2.c⟩ w6)))) (
  J ⟨s3_2.a, s3_2.n, s3_2.c⟩ w6))))
theorem eq36 (s0 : Sl) (R : Value → World → Prop) (w : World) : funV Try.prog Try.f36 A36 [(.slice s0.a s0.n s0.c)] R w = S36 s0 R w := by kernel_rfl
theorem call36 (s0 : Sl) {R : Value → World → Prop} {w : World} (h : S36 s0 R w) : Calls Try.prog 36 [(.slice s0.a s0.n s0.c)].toArray w fun e w' => ∃ v, e = .returned v ∧ R v w' :=
  funV_calls mixed Try.func36 (an := A36) (by rw [eq36]; exact h)

/-- F43: (cubeb/history.History).conflicts -/
def A43 : An := (.sq .lf (.sq .lf (.sq (.sq .lf (.bk [] (.lp [(11, .int .i64)] (.sq .lf (.sq (.cd .lf .lf) (.sq (.bk [] (.sq .lf (.sq .lf (.bk [] (.lp [(21, .int .i64)] (.sq .lf (.sq (.cd .lf .lf) (.sq (.bk [] (.sq .lf (.sq (.rj [] [(44, .bool)]) (.cj [] .lf .lf)))) .lf)))))))) .lf)))))) (.sq .lf .lf))))
def S43 (s0 : Sl) (R : Value → World → Prop) (w : World) : Prop :=
  Let (w.alloc (.map #[] 0)) fun w1 => 
  Join [] (fun (w2 : World) => R (.map (some w.heap.size)) w2) (fun J =>
  LoopV [(11, .int .i64)] (fun K => K (0 : Int) w1) (fun N => fun (x11 : Int) (w3 : World) =>
  cond (decide (x11 < ((s0.n : Nat) : Int))) (
  Join [] (fun (w4 : World) => N (IntKind.wrap .i64 (x11 + (1 : Int))) w4) (fun J_2 =>
  ∃ p14 : Pt, s0.a = some ⟨p14.b, p14.o, none⟩ ∧ 0 ≤ x11 ∧ x11 < ((s0.n : Nat) : Int) ∧ ∃ x15_0 : Int, ∃ x15_1 : Int, ∃ x15_2 : Int, rd w3 p14.b (p14.o + Int.toNat x11 * 3) [(.int .i64 x15_0), (.int .i64 x15_1), (.int .i64 x15_2)] ∧ Let (w3.alloc (.cells (zc Try.prog 38) 38)) fun w5 => 
  StoreOk w5 w3.heap.size 0 [(.int .i64 x15_0), (.int .i64 x15_1), (.int .i64 x15_2)] 3 ∧ Let (put w5 w3.heap.size 0 [(.int .i64 x15_0), (.int .i64 x15_1), (.int .i64 x15_2)]) fun w6 => 
  0 ≤ (IntKind.wrap .i64 (x11 + (1 : Int))) ∧ (IntKind.wrap .i64 (x11 + (1 : Int))) ≤ ((s0.n : Nat) : Int) ∧ Join [] (fun (w7 : World) => J_2 w7) (fun J_3 =>
  LoopV [(21, .int .i64)] (fun K => K (0 : Int) w6) (fun N_2 => fun (x21 : Int) (w8 : World) =>
  cond (decide (x21 < (((s0.n - (Int.toNat (IntKind.wrap .i64 (x11 + (1 : Int))))) : Nat) : Int))) (
  Join [] (fun (w9 : World) => N_2 (IntKind.wrap .i64 (x21 + (1 : Int))) w9) (fun J_4 =>
  ∃ p23 : Pt, (subA s0.a s0.c (Int.toNat (IntKind.wrap .i64 (x11 + (1 : Int)))) 3) = some ⟨p23.b, p23.o, none⟩ ∧ 0 ≤ x21 ∧ x21 < (((s0.n - (Int.toNat (IntKind.wrap .i64 (x11 + (1 : Int))))) : Nat) : Int) ∧ ∃ x24_0 : Int, ∃ x24_1 : Int, ∃ x24_2 : Int, rd w8 p23.b (p23.o + Int.toNat x21 * 3) [(.int .i64 x24_0), (.int .i64 x24_1), (.int .i64 x24_2)] ∧ Let (w8.alloc (.cells (zc Try.prog 38) 38)) fun w10 => 
  StoreOk w10 w8.heap.size 0 [(.int .i64 x24_0), (.int .i64 x24_1), (.int .i64 x24_2)] 3 ∧ Let (put w10 w8.heap.size 0 [(.int .i64 x24_0), (.int .i64 x24_1), (.int .i64 x24_2)]) fun w11 => 
  Join [(44, .bool)] (fun (b44 : Bool) (w12 : World) => Join [] (fun (w13 : World) => J_4 w13) (fun J_5 =>
  cond b44 (
  ∃ x47 : Int, World.cell? w12 ⟨w3.heap.size, (0 + 0), none⟩ = some (.int .i64 x47) ∧ ∃ x49 : Int, World.cell? w12 ⟨w8.heap.size, (0 + 0), none⟩ = some (.int .i64 x49) ∧ ∃ w14 : World, Sem.run Try.prog (Instr.mapUpdate 75 (.map (some w.heap.size)) (.agg [(.int .i64 x47), (.int .i64 x49)].toArray) (.bool true)) w12 = .ok () w14 ∧
  J_5 w14) (
  J_5 w12))) (fun J_6 =>
  ∃ x26 : Int, World.cell? w11 ⟨w3.heap.size, (0 + 0), none⟩ = some (.int .i64 x26) ∧ ∃ x28 : Int, World.cell? w11 ⟨w8.heap.size, (0 + 0), none⟩ = some (.int .i64 x28) ∧ cond (x26 != x28) (∃ x32 : Int, World.cell? w11 ⟨w3.heap.size, (0 + 2), none⟩ = some (.int .i64 x32) ∧ ∃ x34 : Int, World.cell? w11 ⟨w8.heap.size, (0 + 2), none⟩ = some (.int .i64 x34) ∧ cond (x32 == x34) (∃ x39 : Int, World.cell? w11 ⟨w3.heap.size, (0 + 1), none⟩ = some (.int .i64 x39) ∧ ∃ x41 : Int, World.cell? w11 ⟨w8.heap.size, (0 + 1), none⟩ = some (.int .i64 x41) ∧ J_6 ((if x41 > x39 then x41 else x39) == (1 : Int)) w11) (J_6 false w11)) (J_6 false w11)))) (
  J_3 w8))))) (
  J w3)))
theorem eq43 (s0 : Sl) (R : Value → World → Prop) (w : World) : funV Try.prog Try.f43 A43 [(.slice s0.a s0.n s0.c)] R w = S43 s0 R w := by kernel_rfl
theorem call43 (s0 : Sl) {R : Value → World → Prop} {w : World} (h : S43 s0 R w) : Calls Try.prog 43 [(.slice s0.a s0.n s0.c)].toArray w fun e w' => ∃ v, e = .returned v ∧ R v w' :=
  funV_calls mixed Try.func43 (an := A43) (by rw [eq43]; exact h)

/-- F44: (cubeb/history.edges).sorted -/
def A44 : An := (.sq .lf (.sq .lf (.sq .lf (.sq (.bk [(7, .slice)] (.lp [(7, .slice)] (.sq (.sq .lf (.cd .lf .lf)) (.bk [(7, .slice)] (.sq .lf (.sq (.sq .lf (.cd (.sq .lf .lf) .lf)) (.sq .lf .lf))))))) (.sq .lf .lf)))))
def S44 (m0 : Option Nat) (s1 : Sl) (R : Value → World → Prop) (w : World) : Prop :=
  Let (w.alloc (.cells [(.map m0)].toArray 75)) fun w1 => 
  Calls Try.prog 46 [(.slice s1.a s1.n s1.c)].toArray w1 (fun e w2 => ∃ s10 : Sl, e = .returned (.slice s10.a s10.n s10.c) ∧
  Let (w2.alloc (.cells (zc Try.prog 24) 24)) fun w3 => 
  StoreOk w3 w2.heap.size 0 [(.slice s10.a s10.n s10.c)] 1 ∧ Let (put w3 w2.heap.size 0 [(.slice s10.a s10.n s10.c)]) fun w4 => 
  Join [(7, .slice)] (fun (s7 : Sl) (w5 : World) => R (.tuple [(.slice s7.a s7.n s7.c), (.bool true)].toArray) w5) (fun J =>
  LoopV [(7, .slice)] (fun K => K ⟨none, 0, 0⟩ w4) (fun N => fun (s7_2 : Sl) (w6 : World) =>
  ∃ s11 : Sl, World.cell? w6 ⟨w2.heap.size, 0, none⟩ = some (.slice s11.a s11.n s11.c) ∧ cond (decide (((s11.n : Nat) : Int) > (0 : Int))) (
  Join [(7, .slice)] (fun (s7_3 : Sl) (w7 : World) => N ⟨s7_3.a, s7_3.n, s7_3.c⟩ w7) (fun J_2 =>
  ∃ s14 : Sl, World.cell? w6 ⟨w2.heap.size, 0, none⟩ = some (.slice s14.a s14.n s14.c) ∧ Calls Try.prog 72 [(.slice s14.a s14.n s14.c), (.func (.func 73) #[] [(.pointer (some ⟨w2.heap.size, 0, none⟩)), (.pointer (some ⟨w.heap.size, 0, none⟩))].toArray)].toArray w6 (fun e_2 w8 => ∃ x16 : Int, e_2 = .returned (.int .i64 x16) ∧
  cond (decide (x16 < (0 : Int))) (
  R (.tuple [(.slice none 0 0), (.bool false)].toArray) w8) (
  ∃ s20 : Sl, World.cell? w8 ⟨w2.heap.size, 0, none⟩ = some (.slice s20.a s20.n s20.c) ∧ ∃ p22 : Pt, s20.a = some ⟨p22.b, p22.o, none⟩ ∧ 0 ≤ x16 ∧ x16 < ((s20.n : Nat) : Int) ∧ ∃ x23 : Int, World.cell? w8 ⟨p22.b, (p22.o + Int.toNat x16 * 1), none⟩ = some (.int .i64 x23) ∧ ∃ (s24 : Sl) (w9 : World), Sem.run Try.prog (Instr.buildSlice 24 1 [(0, (.int .i64 x23))].toArray) w8 = .ok (.slice s24.a s24.n s24.c) w9 ∧
  ∃ (s25 : Sl) (w10 : World), Sem.run Try.prog (Builtin.append_ #[24, 24] 24 #[(.slice s7_2.a s7_2.n s7_2.c), (.slice s24.a s24.n s24.c)]) w9 = .ok (.slice s25.a s25.n s25.c) w10 ∧
  ∃ s26 : Sl, World.cell? w10 ⟨w2.heap.size, 0, none⟩ = some (.slice s26.a s26.n s26.c) ∧ Calls Try.prog 75 [(.slice s26.a s26.n s26.c), (.int .i64 x16), (.int .i64 (IntKind.wrap .i64 (x16 + (1 : Int))))].toArray w10 (fun e_3 w11 => ∃ s30 : Sl, e_3 = .returned (.slice s30.a s30.n s30.c) ∧
  StoreOk w11 w2.heap.size 0 [(.slice s30.a s30.n s30.c)] 1 ∧ Let (put w11 w2.heap.size 0 [(.slice s30.a s30.n s30.c)]) fun w12 => 
  J_2 ⟨s25.a, s25.n, s25.c⟩ w12))))) (
  J ⟨s7_2.a, s7_2.n, s7_2.c⟩ w6))))
theorem eq44 (m0 : Option Nat) (s1 : Sl) (R : Value → World → Prop) (w : World) : funV Try.prog Try.f44 A44 [(.map m0), (.slice s1.a s1.n s1.c)] R w = S44 m0 s1 R w := by kernel_rfl
theorem call44 (m0 : Option Nat) (s1 : Sl) {R : Value → World → Prop} {w : World} (h : S44 m0 s1 R w) : Calls Try.prog 44 [(.map m0), (.slice s1.a s1.n s1.c)].toArray w fun e w' => ∃ v, e = .returned v ∧ R v w' :=
  funV_calls mixed Try.func44 (an := A44) (by rw [eq44]; exact h)

/-- F46: slices.Clone[[]int,int] -/
def A46 : An := (.sq .lf (.sq (.sq .lf (.cd (.sq .lf .lf) .lf)) (.sq .lf .lf)))
def S46 (s0 : Sl) (R : Value → World → Prop) (w : World) : Prop :=
  cond (Option.isNone s0.a) (
  R (.slice none 0 0) w) (
  ∃ (s5 : Sl) (w1 : World), Sem.run Try.prog (Instr.buildSlice 24 0 [].toArray) w = .ok (.slice s5.a s5.n s5.c) w1 ∧
  ∃ (s7 : Sl) (w2 : World), Sem.run Try.prog (Builtin.append_ #[24, 24] 24 #[(.slice s5.a s5.n s5.c), (.slice s0.a s0.n s0.c)]) w1 = .ok (.slice s7.a s7.n s7.c) w2 ∧
  R (.slice s7.a s7.n s7.c) w2)
theorem eq46 (s0 : Sl) (R : Value → World → Prop) (w : World) : funV Try.prog Try.f46 A46 [(.slice s0.a s0.n s0.c)] R w = S46 s0 R w := by kernel_rfl
theorem call46 (s0 : Sl) {R : Value → World → Prop} {w : World} (h : S46 s0 R w) : Calls Try.prog 46 [(.slice s0.a s0.n s0.c)].toArray w fun e w' => ∃ v, e = .returned v ∧ R v w' :=
  funV_calls mixed Try.func46 (an := A46) (by rw [eq46]; exact h)

/-- F47: slices.ContainsFunc[[]int,int] -/
def A47 : An := (.sq .lf (.sq .lf .lf))
def S47 (s0 : Sl) (f1 : Nat) (c1 : List Value) (R : Value → World → Prop) (w : World) : Prop :=
  Calls Try.prog 72 [(.slice s0.a s0.n s0.c), (.func (.func f1) #[] c1.toArray)].toArray w (fun e w1 => ∃ x7 : Int, e = .returned (.int .i64 x7) ∧
  R (.bool (decide (x7 ≥ (0 : Int)))) w1)
theorem eq47 (s0 : Sl) (f1 : Nat) (c1 : List Value) (R : Value → World → Prop) (w : World) : funV Try.prog Try.f47 A47 [(.slice s0.a s0.n s0.c), (.func (.func f1) #[] c1.toArray)] R w = S47 s0 f1 c1 R w := by kernel_rfl
theorem call47 (s0 : Sl) (f1 : Nat) (c1 : List Value) {R : Value → World → Prop} {w : World} (h : S47 s0 f1 c1 R w) : Calls Try.prog 47 [(.slice s0.a s0.n s0.c), (.func (.func f1) #[] c1.toArray)].toArray w fun e w' => ∃ v, e = .returned v ∧ R v w' :=
  funV_calls mixed Try.func47 (an := A47) (by rw [eq47]; exact h)

/-- F53: cmp.Compare[int] -/
def A53 : An := (.sq .lf (.sq .lf (.sq .lf (.sq (.sq .lf (.cd (.sq (.sq .lf (.cd (.sq .lf .lf) .lf)) (.sq .lf .lf)) .lf)) (.sq (.sq .lf (.cd (.sq .lf .lf) .lf)) (.sq (.sq .lf (.cd (.sq .lf .lf) .lf)) (.sq (.sq .lf (.cd (.sq .lf .lf) .lf)) (.sq .lf .lf))))))))
def S53 (x0 : Int) (x1 : Int) (R : Value → World → Prop) (w : World) : Prop :=
  Calls Try.prog 83 [(.int .i64 x0)].toArray w (fun e w1 => ∃ b8 : Bool, e = .returned (.bool b8) ∧
  Calls Try.prog 83 [(.int .i64 x1)].toArray w1 (fun e_2 w2 => ∃ b10 : Bool, e_2 = .returned (.bool b10) ∧
  cond b8 (
  cond b10 (
  R (.int .i64 (0 : Int)) w2) (
  R (.int .i64 (-1 : Int)) w2)) (
  cond b10 (
  R (.int .i64 (1 : Int)) w2) (
  cond (decide (x0 < x1)) (
  R (.int .i64 (-1 : Int)) w2) (
  cond (decide (x0 > x1)) (
  R (.int .i64 (1 : Int)) w2) (
  R (.int .i64 (0 : Int)) w2))))))
theorem eq53 (x0 : Int) (x1 : Int) (R : Value → World → Prop) (w : World) : funV Try.prog Try.f53 A53 [(.int .i64 x0), (.int .i64 x1)] R w = S53 x0 x1 R w := by kernel_rfl
theorem call53 (x0 : Int) (x1 : Int) {R : Value → World → Prop} {w : World} (h : S53 x0 x1 R w) : Calls Try.prog 53 [(.int .i64 x0), (.int .i64 x1)].toArray w fun e w' => ∃ v, e = .returned v ∧ R v w' :=
  funV_calls mixed Try.func53 (an := A53) (by rw [eq53]; exact h)

/-- F54: (cubeb/history.History).ending -/
def A54 : An := (.sq .lf (.sq .lf (.sq (.sq .lf (.bk [] (.lp [(6, .int .i64)] (.sq (.sq .lf (.cd .lf .lf)) (.sq (.bk [] .lf) .lf))))) (.sq .lf .lf))))
def S54 (s0 : Sl) (x1 : Int) (R : Value → World → Prop) (w : World) : Prop :=
  Let (w.alloc (.map #[] 0)) fun w1 => 
  Join [] (fun (w2 : World) => R (.map (some w.heap.size)) w2) (fun J =>
  LoopV [(6, .int .i64)] (fun K => K (1 : Int) w1) (fun N => fun (x6 : Int) (w3 : World) =>
  cond (decide (x6 ≤ (6 : Int))) (
  Join [] (fun (w4 : World) => N (IntKind.wrap .i64 (x6 + (1 : Int))) w4) (fun J_2 =>
  Calls Try.prog 56 [(.slice s0.a s0.n s0.c), (.agg [(.int .i64 x6), (.int .i64 x1), (.int .i64 (0 : Int))].toArray)].toArray w3 (fun e w5 => ∃ x18 : Int, e = .returned (.int .i64 x18) ∧
  ∃ w6 : World, Sem.run Try.prog (Instr.mapUpdate 103 (.map (some w.heap.size)) (.int .i64 x6) (.int .i64 x18)) w5 = .ok () w6 ∧
  J_2 w6))) (
  J w3)))
theorem eq54 (s0 : Sl) (x1 : Int) (R : Value → World → Prop) (w : World) : funV Try.prog Try.f54 A54 [(.slice s0.a s0.n s0.c), (.int .i64 x1)] R w = S54 s0 x1 R w := by kernel_rfl
theorem call54 (s0 : Sl) (x1 : Int) {R : Value → World → Prop} {w : World} (h : S54 s0 x1 R w) : Calls Try.prog 54 [(.slice s0.a s0.n s0.c), (.int .i64 x1)].toArray w fun e w' => ∃ v, e = .returned v ∧ R v w' :=
  funV_calls mixed Try.func54 (an := A54) (by rw [eq54]; exact h)

/-- F55: (cubeb/history.History).from -/
def A55 : An := (.sq .lf (.sq .lf (.sq .lf (.sq (.sq .lf (.bk [(4, .slice)] (.lp [(4, .slice), (15, .int .i64)] (.sq .lf (.sq (.cd .lf .lf) (.sq (.bk [(4, .slice)] (.sq .lf (.sq (.sq .lf (.cd (.sq .lf .lf) .lf)) (.sq .lf (.sq (.sq .lf (.bk [(7, .int .i64)] (.lp [(7, .int .i64), (8, .int .i64)] (.sq (.sq .lf (.cd .lf .lf)) (.sq (.bk [(7, .int .i64)] (.sq .lf (.sq (.rj [] [(10, .bool)]) (.sq (.rj [] [(62, .bool)]) (.cd (.sq .lf .lf) .lf))))) .lf))))) .lf))))) .lf)))))) (.sq .lf .lf)))))
def S55 (s0 : Sl) (R : Value → World → Prop) (w : World) : Prop :=
  Calls Try.prog 54 [(.slice s0.a s0.n s0.c), (.int .i64 (3 : Int))].toArray w (fun e w1 => ∃ m12 : Option Nat, e = .returned (.map m12) ∧
  Join [(4, .slice)] (fun (s4 : Sl) (w2 : World) => R (.slice s4.a s4.n s4.c) w2) (fun J =>
  LoopV [(4, .slice), (15, .int .i64)] (fun K => K ⟨none, 0, 0⟩ (0 : Int) w1) (fun N => fun (s4_2 : Sl) (x15 : Int) (w3 : World) =>
  cond (decide (x15 < ((s0.n : Nat) : Int))) (
  Join [(4, .slice)] (fun (s4_3 : Sl) (w4 : World) => N ⟨s4_3.a, s4_3.n, s4_3.c⟩ (IntKind.wrap .i64 (x15 + (1 : Int))) w4) (fun J_2 =>
  ∃ p18 : Pt, s0.a = some ⟨p18.b, p18.o, none⟩ ∧ 0 ≤ x15 ∧ x15 < ((s0.n : Nat) : Int) ∧ ∃ x19_0 : Int, ∃ x19_1 : Int, ∃ x19_2 : Int, rd w3 p18.b (p18.o + Int.toNat x15 * 3) [(.int .i64 x19_0), (.int .i64 x19_1), (.int .i64 x19_2)] ∧ Let (w3.alloc (.cells (zc Try.prog 38) 38)) fun w5 => 
  StoreOk w5 w3.heap.size 0 [(.int .i64 x19_0), (.int .i64 x19_1), (.int .i64 x19_2)] 3 ∧ Let (put w5 w3.heap.size 0 [(.int .i64 x19_0), (.int .i64 x19_1), (.int .i64 x19_2)]) fun w6 => 
  ∃ x21 : Int, World.cell? w6 ⟨w3.heap.size, (0 + 1), none⟩ = some (.int .i64 x21) ∧ cond (x21 != (0 : Int)) (
  ∃ (s24 : Sl) (w7 : World), Sem.run Try.prog (Instr.buildSlice 24 1 [(0, (.int .i64 (-1 : Int)))].toArray) w6 = .ok (.slice s24.a s24.n s24.c) w7 ∧
  ∃ (s25 : Sl) (w8 : World), Sem.run Try.prog (Builtin.append_ #[24, 24] 24 #[(.slice s4_2.a s4_2.n s4_2.c), (.slice s24.a s24.n s24.c)]) w7 = .ok (.slice s25.a s25.n s25.c) w8 ∧
  J_2 ⟨s25.a, s25.n, s25.c⟩ w8) (
  Join [(7, .int .i64)] (fun (x7 : Int) (w9 : World) => ∃ (s67 : Sl) (w10 : World), Sem.run Try.prog (Instr.buildSlice 24 1 [(0, (.int .i64 x7))].toArray) w9 = .ok (.slice s67.a s67.n s67.c) w10 ∧
  ∃ (s68 : Sl) (w11 : World), Sem.run Try.prog (Builtin.append_ #[24, 24] 24 #[(.slice s4_2.a s4_2.n s4_2.c), (.slice s67.a s67.n s67.c)]) w10 = .ok (.slice s68.a s68.n s68.c) w11 ∧
  J_2 ⟨s68.a, s68.n, s68.c⟩ w11) (fun J_3 =>
  LoopV [(7, .int .i64), (8, .int .i64)] (fun K => K (0 : Int) (IntKind.wrap .i64 (x15 - (1 : Int))) w6) (fun N_2 => fun (x7_2 : Int) (x8 : Int) (w12 : World) =>
  cond (decide (x8 ≥ (0 : Int))) (
  Join [(7, .int .i64)] (fun (x7_3 : Int) (w13 : World) => N_2 x7_3 (IntKind.wrap .i64 (x8 - (1 : Int))) w13) (fun J_4 =>
  ∃ p34 : Pt, s0.a = some ⟨p34.b, p34.o, none⟩ ∧ 0 ≤ x8 ∧ x8 < ((s0.n : Nat) : Int) ∧ ∃ x35_0 : Int, ∃ x35_1 : Int, ∃ x35_2 : Int, rd w12 p34.b (p34.o + Int.toNat x8 * 3) [(.int .i64 x35_0), (.int .i64 x35_1), (.int .i64 x35_2)] ∧ Let (w12.alloc (.cells (zc Try.prog 38) 38)) fun w14 => 
  StoreOk w14 w12.heap.size 0 [(.int .i64 x35_0), (.int .i64 x35_1), (.int .i64 x35_2)] 3 ∧ Let (put w14 w12.heap.size 0 [(.int .i64 x35_0), (.int .i64 x35_1), (.int .i64 x35_2)]) fun w15 => 
  Join [(10, .bool)] (fun (b10 : Bool) (w16 : World) => Join [(62, .bool)] (fun (b62 : Bool) (w17 : World) => cond b62 (
  ∃ x64 : Int, World.cell? w17 ⟨w12.heap.size, (0 + 0), none⟩ = some (.int .i64 x64) ∧ J_3 x64 w17) (
  J_4 x7_2 w17)) (fun J_5 =>
  ∃ x50 : Int, World.cell? w16 ⟨w12.heap.size, (0 + 1), none⟩ = some (.int .i64 x50) ∧ cond (x50 == (1 : Int)) (∃ x54 : Int, World.cell? w16 ⟨w12.heap.size, (0 + 2), none⟩ = some (.int .i64 x54) ∧ ∃ x56 : Int, World.cell? w16 ⟨w3.heap.size, (0 + 2), none⟩ = some (.int .i64 x56) ∧ cond (x54 == x56) (J_5 (!b10) w16) (J_5 false w16)) (J_5 false w16))) (fun J_6 =>
  ∃ x38 : Int, World.cell? w15 ⟨w12.heap.size, (0 + 0), none⟩ = some (.int .i64 x38) ∧ ∃ x39 : Int, Sem.run Try.prog (Instr.lookup 103 (.map m12) (.int .i64 x38) false) w15 = .ok (.int .i64 x39) w15 ∧ cond (decide (x39 ≥ (0 : Int))) (∃ x44 : Int, World.cell? w15 ⟨w12.heap.size, (0 + 0), none⟩ = some (.int .i64 x44) ∧ ∃ x45 : Int, Sem.run Try.prog (Instr.lookup 103 (.map m12) (.int .i64 x44) false) w15 = .ok (.int .i64 x45) w15 ∧ J_6 (decide (x45 < x15)) w15) (J_6 false w15)))) (
  J_3 x7_2 w12)))))) (
  J ⟨s4_2.a, s4_2.n, s4_2.c⟩ w3))))
theorem eq55 (s0 : Sl) (R : Value → World → Prop) (w : World) : funV Try.prog Try.f55 A55 [(.slice s0.a s0.n s0.c)] R w = S55 s0 R w := by kernel_rfl
theorem call55 (s0 : Sl) {R : Value → World → Prop} {w : World} (h : S55 s0 R w) : Calls Try.prog 55 [(.slice s0.a s0.n s0.c)].toArray w fun e w' => ∃ v, e = .returned v ∧ R v w' :=
  funV_calls mixed Try.func55 (an := A55) (by rw [eq55]; exact h)

/-- F56: slices.Index[cubeb/history.History,cubeb/history.Op] -/
def A56 : An := (.sq .lf (.sq (.sq .lf (.bk [] (.lp [(8, .int .i64)] (.sq .lf (.sq (.cd .lf .lf) (.sq (.bk [] (.sq .lf (.sq (.dr [0, 1, 2, 3, 4, 5] [] false none) (.cd (.sq .lf .lf) .lf)))) .lf)))))) (.sq .lf .lf)))
def S56 (s0 : Sl) (x1_0 : Int) (x1_1 : Int) (x1_2 : Int) (R : Value → World → Prop) (w : World) : Prop :=
  Let (w.alloc (.cells [(.int .i64 x1_0), (.int .i64 x1_1), (.int .i64 x1_2)].toArray 38)) fun w1 => 
  Join [] (fun (w2 : World) => R (.int .i64 (-1 : Int)) w2) (fun J =>
  LoopV [(8, .int .i64)] (fun K => K (0 : Int) w1) (fun N => fun (x8 : Int) (w3 : World) =>
  cond (decide (x8 < ((s0.n : Nat) : Int))) (
  Join [] (fun (w4 : World) => N (IntKind.wrap .i64 (x8 + (1 : Int))) w4) (fun J_2 =>
  Let w3.drew fun w5 =>
  ∃ x11_0 : Int, ∃ x11_1 : Int, ∃ x11_2 : Int, rd w5 w.heap.size 0 [(.int .i64 x11_0), (.int .i64 x11_1), (.int .i64 x11_2)] ∧ ∃ p14 : Pt, s0.a = some ⟨p14.b, p14.o, none⟩ ∧ 0 ≤ x8 ∧ x8 < ((s0.n : Nat) : Int) ∧ ∃ x15_0 : Int, ∃ x15_1 : Int, ∃ x15_2 : Int, rd w5 p14.b (p14.o + Int.toNat x8 * 3) [(.int .i64 x15_0), (.int .i64 x15_1), (.int .i64 x15_2)] ∧ ∃ r16 : Bool, (∀ w, Sem.run Try.prog (aggEq .eql 38 (.agg [(.int .i64 x11_0), (.int .i64 x11_1), (.int .i64 x11_2)].toArray) (.agg [(.int .i64 x15_0), (.int .i64 x15_1), (.int .i64 x15_2)].toArray)) w = .ok (.bool r16) w) ∧ cond r16 (
  R (.int .i64 x8) w5) (
  J_2 w5))) (
  J w3)))
theorem eq56 (s0 : Sl) (x1_0 : Int) (x1_1 : Int) (x1_2 : Int) (R : Value → World → Prop) (w : World) : funV Try.prog Try.f56 A56 [(.slice s0.a s0.n s0.c), (.agg [(.int .i64 x1_0), (.int .i64 x1_1), (.int .i64 x1_2)].toArray)] R w = S56 s0 x1_0 x1_1 x1_2 R w := by kernel_rfl
theorem call56 (s0 : Sl) (x1_0 : Int) (x1_1 : Int) (x1_2 : Int) {R : Value → World → Prop} {w : World} (h : S56 s0 x1_0 x1_1 x1_2 R w) : Calls Try.prog 56 [(.slice s0.a s0.n s0.c), (.agg [(.int .i64 x1_0), (.int .i64 x1_1), (.int .i64 x1_2)].toArray)].toArray w fun e w' => ∃ v, e = .returned v ∧ R v w' :=
  funV_calls mixed Try.func56 (an := A56) (by rw [eq56]; exact h)

/-- F57: slices.Index[[]int,int] -/
def A57 : An := (.sq .lf (.sq (.sq .lf (.bk [] (.lp [(8, .int .i64)] (.sq .lf (.sq (.cd .lf .lf) (.sq (.bk [] (.sq .lf (.sq .lf (.cd (.sq .lf .lf) .lf)))) .lf)))))) (.sq .lf .lf)))
def S57 (s0 : Sl) (x1 : Int) (R : Value → World → Prop) (w : World) : Prop :=
  Join [] (fun (w1 : World) => R (.int .i64 (-1 : Int)) w1) (fun J =>
  LoopV [(8, .int .i64)] (fun K => K (0 : Int) w) (fun N => fun (x8 : Int) (w2 : World) =>
  cond (decide (x8 < ((s0.n : Nat) : Int))) (
  Join [] (fun (w3 : World) => N (IntKind.wrap .i64 (x8 + (1 : Int))) w3) (fun J_2 =>
  ∃ p14 : Pt, s0.a = some ⟨p14.b, p14.o, none⟩ ∧ 0 ≤ x8 ∧ x8 < ((s0.n : Nat) : Int) ∧ ∃ x15 : Int, World.cell? w2 ⟨p14.b, (p14.o + Int.toNat x8 * 1), none⟩ = some (.int .i64 x15) ∧ cond (x1 == x15) (
  R (.int .i64 x8) w2) (
  J_2 w2))) (
  J w2)))
theorem eq57 (s0 : Sl) (x1 : Int) (R : Value → World → Prop) (w : World) : funV Try.prog Try.f57 A57 [(.slice s0.a s0.n s0.c), (.int .i64 x1)] R w = S57 s0 x1 R w := by kernel_rfl
theorem call57 (s0 : Sl) (x1 : Int) {R : Value → World → Prop} {w : World} (h : S57 s0 x1 R w) : Calls Try.prog 57 [(.slice s0.a s0.n s0.c), (.int .i64 x1)].toArray w fun e w' => ∃ v, e = .returned v ∧ R v w' :=
  funV_calls mixed Try.func57 (an := A57) (by rw [eq57]; exact h)

/-- F67: slices.Sort[[]int,int] -/
def A67 : An := (.sq .lf .lf)
def S67 (s0 : Sl) (R : Value → World → Prop) (w : World) : Prop :=
  Calls Try.prog 90 [(.int .u64 (IntKind.wrap .u64 ((s0.n : Nat) : Int)))].toArray w (fun e w1 => ∃ x9 : Int, e = .returned (.int .i64 x9) ∧
  Calls Try.prog 91 [(.slice s0.a s0.n s0.c), (.int .i64 (0 : Int)), (.int .i64 ((s0.n : Nat) : Int)), (.int .i64 x9)].toArray w1 (fun e_2 w2 => e_2 = .returned (.tuple [].toArray) ∧
  R (.tuple [].toArray) w2))
theorem eq67 (s0 : Sl) (R : Value → World → Prop) (w : World) : funV Try.prog Try.f67 A67 [(.slice s0.a s0.n s0.c)] R w = S67 s0 R w := by kernel_rfl
theorem call67 (s0 : Sl) {R : Value → World → Prop} {w : World} (h : S67 s0 R w) : Calls Try.prog 67 [(.slice s0.a s0.n s0.c)].toArray w fun e w' => ∃ v, e = .returned v ∧ R v w' :=
  funV_calls mixed Try.func67 (an := A67) (by rw [eq67]; exact h)

/-- F72: slices.IndexFunc[[]int,int] -/
def A72 : An := (.sq .lf (.sq (.sq .lf (.bk [] (.lp [(8, .int .i64)] (.sq .lf (.sq (.cd .lf .lf) (.sq (.bk [] (.sq .lf (.sq .lf (.cd (.sq .lf .lf) .lf)))) .lf)))))) (.sq .lf .lf)))
def S72 (s0 : Sl) (f1 : Nat) (c1 : List Value) (R : Value → World → Prop) (w : World) : Prop :=
  Join [] (fun (w1 : World) => R (.int .i64 (-1 : Int)) w1) (fun J =>
  LoopV [(8, .int .i64)] (fun K => K (0 : Int) w) (fun N => fun (x8 : Int) (w2 : World) =>
  cond (decide (x8 < ((s0.n : Nat) : Int))) (
  Join [] (fun (w3 : World) => N (IntKind.wrap .i64 (x8 + (1 : Int))) w3) (fun J_2 =>
  ∃ p14 : Pt, s0.a = some ⟨p14.b, p14.o, none⟩ ∧ 0 ≤ x8 ∧ x8 < ((s0.n : Nat) : Int) ∧ ∃ x15 : Int, World.cell? w2 ⟨p14.b, (p14.o + Int.toNat x8 * 1), none⟩ = some (.int .i64 x15) ∧ (bif callable Try.prog f1 then Calls Try.prog f1 (([(.int .i64 x15)] : List Value) ++ c1).toArray w2 (fun e w4 => ∃ b16 : Bool, e = .returned (.bool b16) ∧
  cond b16 (
  R (.int .i64 x8) w4) (
  J_2 w4)) else False))) (
  J w2)))
theorem eq72 (s0 : Sl) (f1 : Nat) (c1 : List Value) (R : Value → World → Prop) (w : World) : funV Try.prog Try.f72 A72 [(.slice s0.a s0.n s0.c), (.func (.func f1) #[] c1.toArray)] R w = S72 s0 f1 c1 R w := by kernel_rfl
theorem call72 (s0 : Sl) (f1 : Nat) (c1 : List Value) {R : Value → World → Prop} {w : World} (h : S72 s0 f1 c1 R w) : Calls Try.prog 72 [(.slice s0.a s0.n s0.c), (.func (.func f1) #[] c1.toArray)].toArray w fun e w' => ∃ v, e = .returned v ∧ R v w' :=
  funV_calls mixed Try.func72 (an := A72) (by rw [eq72]; exact h)

/-- F73: (cubeb/history.edges).sorted$1 -/
def A73 : An := (.sq .lf (.sq .lf .lf))
def S73 (x0 : Int) (p1 : Pt) (p2 : Pt) (R : Value → World → Prop) (w : World) : Prop :=
  Let (w.alloc (.cells [(.int .i64 x0)].toArray 3)) fun w1 => 
  ∃ s5 : Sl, World.cell? w1 ⟨p1.b, p1.o, none⟩ = some (.slice s5.a s5.n s5.c) ∧ Calls Try.prog 47 [(.slice s5.a s5.n s5.c), (.func (.func 74) #[] [(.pointer (some ⟨p2.b, p2.o, none⟩)), (.pointer (some ⟨w.heap.size, 0, none⟩))].toArray)].toArray w1 (fun e w2 => ∃ b7 : Bool, e = .returned (.bool b7) ∧
  R (.bool (!b7)) w2)
theorem eq73 (x0 : Int) (p1 : Pt) (p2 : Pt) (R : Value → World → Prop) (w : World) : funV Try.prog Try.f73 A73 [(.int .i64 x0), (.pointer (some ⟨p1.b, p1.o, none⟩)), (.pointer (some ⟨p2.b, p2.o, none⟩))] R w = S73 x0 p1 p2 R w := by kernel_rfl
theorem call73 (x0 : Int) (p1 : Pt) (p2 : Pt) {R : Value → World → Prop} {w : World} (h : S73 x0 p1 p2 R w) : Calls Try.prog 73 [(.int .i64 x0), (.pointer (some ⟨p1.b, p1.o, none⟩)), (.pointer (some ⟨p2.b, p2.o, none⟩))].toArray w fun e w' => ∃ v, e = .returned v ∧ R v w' :=
  funV_calls mixed Try.func73 (an := A73) (by rw [eq73]; exact h)

/-- F74: (cubeb/history.edges).sorted$1$1 -/
def A74 : An := (.sq .lf (.sq .lf .lf))
def S74 (x0 : Int) (p1 : Pt) (p2 : Pt) (R : Value → World → Prop) (w : World) : Prop :=
  ∃ m5 : Option Nat, World.cell? w ⟨p1.b, p1.o, none⟩ = some (.map m5) ∧ ∃ x7 : Int, World.cell? w ⟨p2.b, p2.o, none⟩ = some (.int .i64 x7) ∧ ∃ b9 : Bool, Sem.run Try.prog (Instr.lookup 75 (.map m5) (.agg [(.int .i64 x0), (.int .i64 x7)].toArray) false) w = .ok (.bool b9) w ∧ R (.bool b9) w
theorem eq74 (x0 : Int) (p1 : Pt) (p2 : Pt) (R : Value → World → Prop) (w : World) : funV Try.prog Try.f74 A74 [(.int .i64 x0), (.pointer (some ⟨p1.b, p1.o, none⟩)), (.pointer (some ⟨p2.b, p2.o, none⟩))] R w = S74 x0 p1 p2 R w := by kernel_rfl
theorem call74 (x0 : Int) (p1 : Pt) (p2 : Pt) {R : Value → World → Prop} {w : World} (h : S74 x0 p1 p2 R w) : Calls Try.prog 74 [(.int .i64 x0), (.pointer (some ⟨p1.b, p1.o, none⟩)), (.pointer (some ⟨p2.b, p2.o, none⟩))].toArray w fun e w' => ∃ v, e = .returned v ∧ R v w' :=
  funV_calls mixed Try.func74 (an := A74) (by rw [eq74]; exact h)

/-- F75: slices.Delete[[]int,int] -/
def A75 : An := (.sq .lf (.sq .lf (.sq (.sq .lf (.cd (.sq .lf .lf) .lf)) (.sq .lf (.sq (.dr [0, 1, 2, 3, 4, 5, 6, 7] [] false none) (.sq .lf (.sq .lf .lf)))))))
def S75 (s0 : Sl) (x1 : Int) (x2 : Int) (R : Value → World → Prop) (w : World) : Prop :=
  0 ≤ ((s0.n : Nat) : Int) ∧ ((s0.n : Nat) : Int) ≤ ((s0.c : Nat) : Int) ∧ 0 ≤ x2 ∧ x2 ≤ (((Int.toNat ((s0.n : Nat) : Int)) : Nat) : Int) ∧ 0 ≤ x1 ∧ x1 ≤ (((Int.toNat x2) : Nat) : Int) ∧ cond (x1 == x2) (
  R (.slice s0.a s0.n s0.c) w) (
  Let w.drew fun w1 =>
  0 ≤ x1 ∧ x1 ≤ ((s0.c : Nat) : Int) ∧ 0 ≤ x2 ∧ x2 ≤ ((s0.n : Nat) : Int) ∧ ∃ (s26 : Sl) (w2 : World), Sem.run Try.prog (Builtin.append_ #[24, 24] 24 #[(.slice s0.a (Int.toNat x1) s0.c), (.slice (subA s0.a s0.c (Int.toNat x2) 1) (s0.n - (Int.toNat x2)) (s0.c - (Int.toNat x2)))]) w1 = .ok (.slice s26.a s26.n s26.c) w2 ∧
  0 ≤ ((s0.n : Nat) : Int) ∧ ((s0.n : Nat) : Int) ≤ ((s26.c : Nat) : Int) ∧ 0 ≤ ((s26.n : Nat) : Int) ∧ ((s26.n : Nat) : Int) ≤ (((Int.toNat ((s0.n : Nat) : Int)) : Nat) : Int) ∧ ∃ w3 : World, Sem.run Try.prog (Builtin.clear_ #[24] 0 #[(.slice (subA s26.a s26.c (Int.toNat ((s26.n : Nat) : Int)) 1) ((Int.toNat ((s0.n : Nat) : Int)) - (Int.toNat ((s26.n : Nat) : Int))) (s26.c - (Int.toNat ((s26.n : Nat) : Int))))]) w2 = .ok (.tuple #[]) w3 ∧
  R (.slice s26.a s26.n s26.c) w3)
theorem eq75 (s0 : Sl) (x1 : Int) (x2 : Int) (R : Value → World → Prop) (w : World) : funV Try.prog Try.f75 A75 [(.slice s0.a s0.n s0.c), (.int .i64 x1), (.int .i64 x2)] R w = S75 s0 x1 x2 R w := by kernel_rfl
theorem call75 (s0 : Sl) (x1 : Int) (x2 : Int) {R : Value → World → Prop} {w : World} (h : S75 s0 x1 x2 R w) : Calls Try.prog 75 [(.slice s0.a s0.n s0.c), (.int .i64 x1), (.int .i64 x2)].toArray w fun e w' => ∃ v, e = .returned v ∧ R v w' :=
  funV_calls mixed Try.func75 (an := A75) (by rw [eq75]; exact h)

/-- F90: math/bits.Len -/
def A90 : An := (.sq .lf (.sq (.cd (.sq .lf .lf) .lf) (.sq .lf .lf)))
def S90 (x0 : Int) (R : Value → World → Prop) (w : World) : Prop :=
  Calls Try.prog 104 [(.int .u64 x0)].toArray w (fun e_2 w2 => ∃ x7 : Int, e_2 = .returned (.int .i64 x7) ∧
  R (.int .i64 x7) w2)
theorem eq90 (x0 : Int) (R : Value → World → Prop) (w : World) : funV Try.prog Try.f90 A90 [(.int .u64 x0)] R w = S90 x0 R w := by kernel_rfl
theorem call90 (x0 : Int) {R : Value → World → Prop} {w : World} (h : S90 x0 R w) : Calls Try.prog 90 [(.int .u64 x0)].toArray w fun e w' => ∃ v, e = .returned v ∧ R v w' :=
  funV_calls mixed Try.func90 (an := A90) (by rw [eq90]; exact h)

/-- F91: slices.pdqsortOrdered[int] -/
def A91 : An := (.sq .lf (.sq .lf (.bk [] (.lp [(1, .int .i64), (2, .int .i64), (3, .int .i64), (8, .bool), (9, .bool)] (.bk [(1, .int .i64), (2, .int .i64), (3, .int .i64), (8, .bool), (9, .bool)] (.sq .lf (.sq (.sq .lf (.cd (.sq .lf .lf) .lf)) (.sq (.sq .lf (.cd (.sq .lf .lf) .lf)) (.sq (.sq .lf (.cj [(3, .int .i64)] (.sq .lf .lf) .lf)) (.sq .lf (.sq (.sq .lf (.cj [(11, .int .i64), (12, .int .i64)] (.sq .lf (.sq .lf .lf)) .lf)) (.sq (.sq (.rj [] [(68, .bool)]) (.cj [] (.sq .lf (.cd .lf .lf)) .lf)) (.sq (.sq (.dr [0, 1, 2, 3, 4, 5, 6, 7, 8, 9, 10, 11, 12, 13, 14] [] false (some [(87, .bool)])) (.cd (.sq .lf (.sq .lf .lf)) .lf)) (.sq .lf (.sq .lf (.sq .lf (.sq .lf (.sq .lf (.cj [(1, .int .i64), (2, .int .i64), (8, .bool)] (.sq .lf (.sq .lf .lf)) (.sq .lf (.sq .lf .lf)))))))))))))))))))))
def S91 (s0 : Sl) (x1 : Int) (x2 : Int) (x3 : Int) (R : Value → World → Prop) (w : World) : Prop :=
  Join [] (fun (w1 : World) => R (.tuple [].toArray) w1) (fun J =>
  LoopV [(1, .int .i64), (2, .int .i64), (3, .int .i64), (8, .bool), (9, .bool)] (fun K => K x1 x2 x3 true true w) (fun N => fun (x1_2 : Int) (x2_2 : Int) (x3_2 : Int) (b8 : Bool) (b9 : Bool) (w2 : World) =>
  Join [(1, .int .i64), (2, .int .i64), (3, .int .i64), (8, .bool), (9, .bool)] (fun (x1_3 : Int) (x2_3 : Int) (x3_3 : Int) (b8_2 : Bool) (b9_2 : Bool) (w3 : World) => N x1_3 x2_3 x3_3 b8_2 b9_2 w3) (fun J_2 =>
  cond (decide ((IntKind.wrap .i64 (x2_2 - x1_2)) ≤ (12 : Int))) (
  Calls Try.prog 105 [(.slice s0.a s0.n s0.c), (.int .i64 x1_2), (.int .i64 x2_2)].toArray w2 (fun e w4 => e = .returned (.tuple [].toArray) ∧
  R (.tuple [].toArray) w4)) (
  cond (x3_2 == (0 : Int)) (
  Calls Try.prog 106 [(.slice s0.a s0.n s0.c), (.int .i64 x1_2), (.int .i64 x2_2)].toArray w2 (fun e_2 w5 => e_2 = .returned (.tuple [].toArray) ∧
  R (.tuple [].toArray) w5)) (
  Join [(3, .int .i64)] (fun (x3_4 : Int) (w6 : World) => Calls Try.prog 108 [(.slice s0.a s0.n s0.c), (.int .i64 x1_2), (.int .i64 x2_2)].toArray w6 (fun e_3 w7 => ∃ x46_0 : Int, ∃ x46_1 : Int, e_3 = .returned (.tuple [(.int .i64 x46_0), (.int .i64 x46_1)].toArray) ∧
  Join [(11, .int .i64), (12, .int .i64)] (fun (x11 : Int) (x12 : Int) (w8 : World) => Join [(68, .bool)] (fun (b68 : Bool) (w9 : World) => Join [] (fun (w10 : World) => Join [(87, .bool)] (fun (b87 : Bool) (w11 : World) => cond b87 (
  Calls Try.prog 112 [(.slice s0.a s0.n s0.c), (.int .i64 x1_2), (.int .i64 x2_2), (.int .i64 x11)].toArray w11 (fun e_4 w12 => ∃ x92 : Int, e_4 = .returned (.int .i64 x92) ∧
  J_2 x92 x2_2 x3_4 b8 b9 w12)) (
  Calls Try.prog 113 [(.slice s0.a s0.n s0.c), (.int .i64 x1_2), (.int .i64 x2_2), (.int .i64 x11)].toArray w11 (fun e_5 w13 => ∃ x99_0 : Int, ∃ b99_1 : Bool, e_5 = .returned (.tuple [(.int .i64 x99_0), (.bool b99_1)].toArray) ∧
  (8 : Int) ≠ 0 ∧ Join [(1, .int .i64), (2, .int .i64), (8, .bool)] (fun (x1_4 : Int) (x2_4 : Int) (b8_3 : Bool) (w14 : World) => J_2 x1_4 x2_4 x3_4 b8_3 b99_1 w14) (fun J_3 =>
  cond (decide ((IntKind.wrap .i64 (x99_0 - x1_2)) < (IntKind.wrap .i64 (x2_2 - x99_0)))) (
  Calls Try.prog 91 [(.slice s0.a s0.n s0.c), (.int .i64 x1_2), (.int .i64 x99_0), (.int .i64 x3_4)].toArray w13 (fun e_6 w15 => e_6 = .returned (.tuple [].toArray) ∧
  J_3 (IntKind.wrap .i64 (x99_0 + (1 : Int))) x2_2 (decide ((IntKind.wrap .i64 (x99_0 - x1_2)) ≥ (IntKind.wrap .i64 (Int.tdiv (IntKind.wrap .i64 (x2_2 - x1_2)) (8 : Int))))) w15)) (
  Calls Try.prog 91 [(.slice s0.a s0.n s0.c), (.int .i64 (IntKind.wrap .i64 (x99_0 + (1 : Int)))), (.int .i64 x2_2), (.int .i64 x3_4)].toArray w13 (fun e_7 w16 => e_7 = .returned (.tuple [].toArray) ∧
  J_3 x1_2 x99_0 (decide ((IntKind.wrap .i64 (x2_2 - x99_0)) ≥ (IntKind.wrap .i64 (Int.tdiv (IntKind.wrap .i64 (x2_2 - x1_2)) (8 : Int))))) w16)))))) (fun J_4 =>
  Let w10.drew fun w17 =>
  cond (decide (x1_2 > (0 : Int))) (∃ p79 : Pt, s0.a = some ⟨p79.b, p79.o, none⟩ ∧ 0 ≤ (IntKind.wrap .i64 (x1_2 - (1 : Int))) ∧ (IntKind.wrap .i64 (x1_2 - (1 : Int))) < ((s0.n : Nat) : Int) ∧ ∃ x80 : Int, World.cell? w17 ⟨p79.b, (p79.o + Int.toNat (IntKind.wrap .i64 (x1_2 - (1 : Int))) * 1), none⟩ = some (.int .i64 x80) ∧ ∃ p83 : Pt, s0.a = some ⟨p83.b, p83.o, none⟩ ∧ 0 ≤ x11 ∧ x11 < ((s0.n : Nat) : Int) ∧ ∃ x84 : Int, World.cell? w17 ⟨p83.b, (p83.o + Int.toNat x11 * 1), none⟩ = some (.int .i64 x84) ∧ Calls Try.prog 111 [(.int .i64 x80), (.int .i64 x84)].toArray w17 (fun e_8 w18 => ∃ b85 : Bool, e_8 = .returned (.bool b85) ∧
  J_4 (!b85) w18)) (J_4 false w17))) (fun J_5 =>
  cond b68 (
  Calls Try.prog 110 [(.slice s0.a s0.n s0.c), (.int .i64 x1_2), (.int .i64 x2_2)].toArray w9 (fun e_9 w19 => ∃ b72 : Bool, e_9 = .returned (.bool b72) ∧
  cond b72 (
  R (.tuple [].toArray) w19) (
  J_5 w19))) (
  J_5 w9))) (fun J_6 =>
  cond b8 (cond b9 (J_6 (x12 == (1 : Int)) w8) (J_6 false w8)) (J_6 false w8))) (fun J_7 =>
  cond (x46_1 == (2 : Int)) (
  Calls Try.prog 109 [(.slice s0.a s0.n s0.c), (.int .i64 x1_2), (.int .i64 x2_2)].toArray w7 (fun e_10 w20 => e_10 = .returned (.tuple [].toArray) ∧
  J_7 (IntKind.wrap .i64 ((IntKind.wrap .i64 (x2_2 - (1 : Int))) - (IntKind.wrap .i64 (x46_0 - x1_2)))) (1 : Int) w20)) (
  J_7 x46_0 x46_1 w7)))) (fun J_8 =>
  cond (!b8) (
  Calls Try.prog 107 [(.slice s0.a s0.n s0.c), (.int .i64 x1_2), (.int .i64 x2_2)].toArray w2 (fun e_11 w21 => e_11 = .returned (.tuple [].toArray) ∧
  J_8 (IntKind.wrap .i64 (x3_2 - (1 : Int))) w21)) (
  J_8 x3_2 w2)))))))
theorem eq91 (s0 : Sl) (x1 : Int) (x2 : Int) (x3 : Int) (R : Value → World → Prop) (w : World) : funV Try.prog Try.f91 A91 [(.slice s0.a s0.n s0.c), (.int .i64 x1), (.int .i64 x2), (.int .i64 x3)] R w = S91 s0 x1 x2 x3 R w := by kernel_rfl
theorem call91 (s0 : Sl) (x1 : Int) (x2 : Int) (x3 : Int) {R : Value → World → Prop} {w : World} (h : S91 s0 x1 x2 x3 R w) : Calls Try.prog 91 [(.slice s0.a s0.n s0.c), (.int .i64 x1), (.int .i64 x2), (.int .i64 x3)].toArray w fun e w' => ∃ v, e = .returned v ∧ R v w' :=
  funV_calls mixed Try.func91 (an := A91) (by rw [eq91]; exact h)

/-- F105: slices.insertionSortOrdered[int] -/
def A105 : An := (.sq .lf (.bk [] (.lp [(6, .int .i64)] (.sq (.sq .lf (.cd .lf .lf)) (.sq (.bk [] (.sq .lf (.bk [] (.lp [(7, .int .i64)] (.sq (.sq (.dr [0, 1, 2, 3, 4, 5, 6, 7, 8, 9, 10, 11, 12, 13, 14] [] false (some [(30, .bool)])) (.cd .lf .lf)) (.sq (.bk [] (.dr [0, 1, 2, 3, 4, 5, 6, 7, 8, 9, 10, 11, 12, 13, 14, 15, 16, 17] [] false none)) .lf)))))) .lf)))))
def S105 (s0 : Sl) (x1 : Int) (x2 : Int) (R : Value → World → Prop) (w : World) : Prop :=
  Join [] (fun (w1 : World) => R (.tuple [].toArray) w1) (fun J =>
  LoopV [(6, .int .i64)] (fun K => K (IntKind.wrap .i64 (x1 + (1 : Int))) w) (fun N => fun (x6 : Int) (w2 : World) =>
  cond (decide (x6 < x2)) (
  Join [] (fun (w3 : World) => N (IntKind.wrap .i64 (x6 + (1 : Int))) w3) (fun J_2 =>
  Join [] (fun (w4 : World) => J_2 w4) (fun J_3 =>
  LoopV [(7, .int .i64)] (fun K => K x6 w2) (fun N_2 => fun (x7 : Int) (w5 : World) =>
  Join [(30, .bool)] (fun (b30 : Bool) (w6 : World) => cond b30 (
  Join [] (fun (w7 : World) => N_2 (IntKind.wrap .i64 (x7 - (1 : Int))) w7) (fun J_4 =>
  Let w6.drew fun w8 =>
  ∃ p41 : Pt, s0.a = some ⟨p41.b, p41.o, none⟩ ∧ 0 ≤ (IntKind.wrap .i64 (x7 - (1 : Int))) ∧ (IntKind.wrap .i64 (x7 - (1 : Int))) < ((s0.n : Nat) : Int) ∧ ∃ x42 : Int, World.cell? w8 ⟨p41.b, (p41.o + Int.toNat (IntKind.wrap .i64 (x7 - (1 : Int))) * 1), none⟩ = some (.int .i64 x42) ∧ ∃ p45 : Pt, s0.a = some ⟨p45.b, p45.o, none⟩ ∧ 0 ≤ x7 ∧ x7 < ((s0.n : Nat) : Int) ∧ ∃ x46 : Int, World.cell? w8 ⟨p45.b, (p45.o + Int.toNat x7 * 1), none⟩ = some (.int .i64 x46) ∧ ∃ p47 : Pt, s0.a = some ⟨p47.b, p47.o, none⟩ ∧ 0 ≤ x7 ∧ x7 < ((s0.n : Nat) : Int) ∧ StoreOk w8 p47.b (p47.o + Int.toNat x7 * 1) [(.int .i64 x42)] 1 ∧ Let (put w8 p47.b (p47.o + Int.toNat x7 * 1) [(.int .i64 x42)]) fun w9 => 
  ∃ p48 : Pt, s0.a = some ⟨p48.b, p48.o, none⟩ ∧ 0 ≤ (IntKind.wrap .i64 (x7 - (1 : Int))) ∧ (IntKind.wrap .i64 (x7 - (1 : Int))) < ((s0.n : Nat) : Int) ∧ StoreOk w9 p48.b (p48.o + Int.toNat (IntKind.wrap .i64 (x7 - (1 : Int))) * 1) [(.int .i64 x46)] 1 ∧ Let (put w9 p48.b (p48.o + Int.toNat (IntKind.wrap .i64 (x7 - (1 : Int))) * 1) [(.int .i64 x46)]) fun w10 => 
  J_4 w10)) (
  J_3 w6)) (fun J_5 =>
  Let w5.drew fun w11 =>
  cond (decide (x7 > x1)) (∃ p22 : Pt, s0.a = some ⟨p22.b, p22.o, none⟩ ∧ 0 ≤ x7 ∧ x7 < ((s0.n : Nat) : Int) ∧ ∃ x23 : Int, World.cell? w11 ⟨p22.b, (p22.o + Int.toNat x7 * 1), none⟩ = some (.int .i64 x23) ∧ ∃ p27 : Pt, s0.a = some ⟨p27.b, p27.o, none⟩ ∧ 0 ≤ (IntKind.wrap .i64 (x7 - (1 : Int))) ∧ (IntKind.wrap .i64 (x7 - (1 : Int))) < ((s0.n : Nat) : Int) ∧ ∃ x28 : Int, World.cell? w11 ⟨p27.b, (p27.o + Int.toNat (IntKind.wrap .i64 (x7 - (1 : Int))) * 1), none⟩ = some (.int .i64 x28) ∧ Calls Try.prog 111 [(.int .i64 x23), (.int .i64 x28)].toArray w11 (fun e w12 => ∃ b29 : Bool, e = .returned (.bool b29) ∧
  J_5 b29 w12)) (J_5 false w11)))))) (
  J w2)))
theorem eq105 (s0 : Sl) (x1 : Int) (x2 : Int) (R : Value → World → Prop) (w : World) : funV Try.prog Try.f105 A105 [(.slice s0.a s0.n s0.c), (.int .i64 x1), (.int .i64 x2)] R w = S105 s0 x1 x2 R w := by kernel_rfl
theorem call105 (s0 : Sl) (x1 : Int) (x2 : Int) {R : Value → World → Prop} {w : World} (h : S105 s0 x1 x2 R w) : Calls Try.prog 105 [(.slice s0.a s0.n s0.c), (.int .i64 x1), (.int .i64 x2)].toArray w fun e w' => ∃ v, e = .returned v ∧ R v w' :=
  funV_calls mixed Try.func105 (an := A105) (by rw [eq105]; exact h)

/-- F111: cmp.Less[int] -/
def A111 : An := (.sq .lf (.sq (.rj [] [(4, .bool)]) .lf))
def S111 (x0 : Int) (x1 : Int) (R : Value → World → Prop) (w : World) : Prop :=
  Join [(4, .bool)] (fun (b4 : Bool) (w1 : World) => R (.bool b4) w1) (fun J =>
  Calls Try.prog 83 [(.int .i64 x0)].toArray w (fun e w2 => ∃ b6 : Bool, e = .returned (.bool b6) ∧
  cond b6 (Calls Try.prog 83 [(.int .i64 x1)].toArray w2 (fun e_2 w3 => ∃ b9 : Bool, e_2 = .returned (.bool b9) ∧
  cond (!b9) (J true w3) (J (decide (x0 < x1)) w3))) (J (decide (x0 < x1)) w2)))
theorem eq111 (x0 : Int) (x1 : Int) (R : Value → World → Prop) (w : World) : funV Try.prog Try.f111 A111 [(.int .i64 x0), (.int .i64 x1)] R w = S111 x0 x1 R w := by kernel_rfl
theorem call111 (x0 : Int) (x1 : Int) {R : Value → World → Prop} {w : World} (h : S111 x0 x1 R w) : Calls Try.prog 111 [(.int .i64 x0), (.int .i64 x1)].toArray w fun e w' => ∃ v, e = .returned v ∧ R v w' :=
  funV_calls mixed Try.func111 (an := A111) (by rw [eq111]; exact h)

/-- F83: cmp.isNaN[int] -/
def A83 : An := (.sq .lf (.sq .lf .lf))
def S83 (x0 : Int) (R : Value → World → Prop) (w : World) : Prop :=
  R (.bool (x0 != x0)) w
theorem eq83 (x0 : Int) (R : Value → World → Prop) (w : World) : funV Try.prog Try.f83 A83 [(.int .i64 x0)] R w = S83 x0 R w := by kernel_rfl
theorem call83 (x0 : Int) {R : Value → World → Prop} {w : World} (h : S83 x0 R w) : Calls Try.prog 83 [(.int .i64 x0)].toArray w fun e w' => ∃ v, e = .returned v ∧ R v w' :=
  funV_calls mixed Try.func83 (an := A83) (by rw [eq83]; exact h)

end Go.Proofs.Ytnbkihkdfhjlmaa
