/-
  Texts Sa, Vm, Ca, Vn, Vo, Vp, Vq, Cb, Vr of this proof, joined.
-/
import Derived.Test.YtnbkihkdfhjlmaaWs1
import Derived.Test.YtnbkihkdfhjlmaaProg
import Derived.KernelRfl
import Derived.DeepKeys3
/-
  Printed by a program of this session (wip/tools/vcprint.py): of each Go function the shallow form, and that the calculus comes to it, by the kernel.
-/
namespace Go.Proofs.Ytnbkihkdfhjlmaa
open Go Go.VC
set_option maxRecDepth 100000
theorem mixed : Try.prog.follows .mixedOrders = true := by kernel_rfl

/-- F12: cubeb/cubeblaw05.of -/
def A12 : An := (.sq .lf (.sq .lf (.sq (.sq .lf (.bk [(3, .slice)] (.lp [(3, .slice), (8, .int .i64)] (.sq .lf (.sq (.cd .lf .lf) (.sq (.bk [(3, .slice)] (.sq .lf (.sq (.sq .lf (.cd .lf .lf)) .lf))) .lf)))))) (.sq .lf .lf))))
def S12 (s0 : Sl) (R : Value → World → Prop) (w : World) : Prop :=
  Join [(3, .slice)] (fun (s3 : Sl) (w1 : World) => R (.slice s3.a s3.n s3.c) w1) (fun J =>
  LoopV [(3, .slice), (8, .int .i64)] (fun K => K ⟨none, 0, 0⟩ (0 : Int) w) (fun N => fun (s3_2 : Sl) (x8 : Int) (w2 : World) =>
  cond (decide (x8 < ((s0.n : Nat) : Int))) (
  Join [(3, .slice)] (fun (s3_3 : Sl) (w3 : World) => N ⟨s3_3.a, s3_3.n, s3_3.c⟩ (IntKind.wrap .i64 (x8 + (1 : Int))) w3) (fun J_2 =>
  ∃ p11 : Pt, s0.a = some ⟨p11.b, p11.o, none⟩ ∧ 0 ≤ x8 ∧ x8 < ((s0.n : Nat) : Int) ∧ ∃ x12_0 : Int, ∃ x12_1 : Int, ∃ x12_2 : Int, rd w2 p11.b (p11.o + Int.toNat x8 * 3) [(.int .i64 x12_0), (.int .i64 x12_1), (.int .i64 x12_2)] ∧ Let (w2.alloc (.cells (zc Try.prog 37) 37)) fun w4 => 
  StoreOk w4 w2.heap.size 0 [(.int .i64 x12_0), (.int .i64 x12_1), (.int .i64 x12_2)] 3 ∧ Let (put w4 w2.heap.size 0 [(.int .i64 x12_0), (.int .i64 x12_1), (.int .i64 x12_2)]) fun w5 => 
  cond (decide (x8 > (42 : Int))) (
  J ⟨s3_2.a, s3_2.n, s3_2.c⟩ w5) (
  ∃ x17 : Int, World.cell? w5 ⟨w2.heap.size, (0 + 0), none⟩ = some (.int .i64 x17) ∧ ∃ x19 : Int, World.cell? w5 ⟨w2.heap.size, (0 + 1), none⟩ = some (.int .i64 x19) ∧ ∃ x21 : Int, World.cell? w5 ⟨w2.heap.size, (0 + 2), none⟩ = some (.int .i64 x21) ∧ ∃ (s23 : Sl) (w6 : World), Sem.run Try.prog (Instr.buildSlice 29 1 [(0, (.agg [(.int .i64 x17), (.int .i64 x19), (.int .i64 x21)].toArray))].toArray) w5 = .ok (.slice s23.a s23.n s23.c) w6 ∧
  ∃ (s24 : Sl) (w7 : World), Sem.run Try.prog (Builtin.append_ #[29, 29] 29 #[(.slice s3_2.a s3_2.n s3_2.c), (.slice s23.a s23.n s23.c)]) w6 = .ok (.slice s24.a s24.n s24.c) w7 ∧
  J_2 ⟨s24.a, s24.n, s24.c⟩ w7))) (
  J ⟨s3_2.a, s3_2.n, s3_2.c⟩ w2)))
theorem eq12 (s0 : Sl) (R : Value → World → Prop) (w : World) : funV Try.prog Try.f12 A12 [(.slice s0.a s0.n s0.c)] R w = S12 s0 R w := by kernel_rfl
theorem call12 (s0 : Sl) {R : Value → World → Prop} {w : World} (h : S12 s0 R w) : Calls Try.prog 12 [(.slice s0.a s0.n s0.c)].toArray w fun e w' => ∃ v, e = .returned v ∧ R v w' :=
  funV_calls mixed Try.func12 (an := A12) (by rw [eq12]; exact h)

/-- F13: cubeb/cubebref05.Valid -/
def A13 : An := (.sq .lf (.sq (.sq .lf (.bk [] (.lp [(9, .int .i64)] (.sq .lf (.sq (.cd .lf .lf) (.sq (.bk [] (.sq .lf (.sq (.sq (.rj [] [(51, .bool)]) (.cd (.sq .lf .lf) .lf)) (.sq .lf (.bk [] (.lp [(56, .int .i64)] (.sq .lf (.sq (.cd .lf .lf) (.sq (.bk [] (.sq .lf (.sq (.rj [] [(69, .bool)]) (.cd (.sq .lf .lf) .lf)))) .lf))))))))) .lf)))))) (.sq .lf .lf)))
def S13 (s0 : Sl) (R : Value → World → Prop) (w : World) : Prop :=
  Join [] (fun (w1 : World) => R (.bool (decide (((s0.n : Nat) : Int) ≤ (40 : Int)))) w1) (fun J =>
  LoopV [(9, .int .i64)] (fun K => K (0 : Int) w) (fun N => fun (x9 : Int) (w2 : World) =>
  cond (decide (x9 < ((s0.n : Nat) : Int))) (
  Join [] (fun (w3 : World) => N (IntKind.wrap .i64 (x9 + (1 : Int))) w3) (fun J_2 =>
  ∃ p12 : Pt, s0.a = some ⟨p12.b, p12.o, none⟩ ∧ 0 ≤ x9 ∧ x9 < ((s0.n : Nat) : Int) ∧ ∃ x13_0 : Int, ∃ x13_1 : Int, ∃ x13_2 : Int, rd w2 p12.b (p12.o + Int.toNat x9 * 3) [(.int .i64 x13_0), (.int .i64 x13_1), (.int .i64 x13_2)] ∧ Let (w2.alloc (.cells (zc Try.prog 37) 37)) fun w4 => 
  StoreOk w4 w2.heap.size 0 [(.int .i64 x13_0), (.int .i64 x13_1), (.int .i64 x13_2)] 3 ∧ Let (put w4 w2.heap.size 0 [(.int .i64 x13_0), (.int .i64 x13_1), (.int .i64 x13_2)]) fun w5 => 
  Join [(51, .bool)] (fun (b51 : Bool) (w6 : World) => cond b51 (
  R (.bool false) w6) (
  0 ≤ x9 ∧ x9 ≤ ((s0.c : Nat) : Int) ∧ Join [] (fun (w7 : World) => J_2 w7) (fun J_3 =>
  LoopV [(56, .int .i64)] (fun K => K (0 : Int) w6) (fun N_2 => fun (x56 : Int) (w8 : World) =>
  cond (decide (x56 < (((Int.toNat x9) : Nat) : Int))) (
  Join [] (fun (w9 : World) => N_2 (IntKind.wrap .i64 (x56 + (1 : Int))) w9) (fun J_4 =>
  ∃ p58 : Pt, s0.a = some ⟨p58.b, p58.o, none⟩ ∧ 0 ≤ x56 ∧ x56 < (((Int.toNat x9) : Nat) : Int) ∧ ∃ x59_0 : Int, ∃ x59_1 : Int, ∃ x59_2 : Int, rd w8 p58.b (p58.o + Int.toNat x56 * 3) [(.int .i64 x59_0), (.int .i64 x59_1), (.int .i64 x59_2)] ∧ Let (w8.alloc (.cells (zc Try.prog 37) 37)) fun w10 => 
  StoreOk w10 w8.heap.size 0 [(.int .i64 x59_0), (.int .i64 x59_1), (.int .i64 x59_2)] 3 ∧ Let (put w10 w8.heap.size 0 [(.int .i64 x59_0), (.int .i64 x59_1), (.int .i64 x59_2)]) fun w11 => 
  Join [(69, .bool)] (fun (b69 : Bool) (w12 : World) => cond b69 (
  R (.bool false) w12) (
  J_4 w12)) (fun J_5 =>
  ∃ x61 : Int, World.cell? w11 ⟨w8.heap.size, (0 + 0), none⟩ = some (.int .i64 x61) ∧ ∃ x63 : Int, World.cell? w11 ⟨w2.heap.size, (0 + 0), none⟩ = some (.int .i64 x63) ∧ cond (x61 == x63) (∃ x67 : Int, World.cell? w11 ⟨w8.heap.size, (0 + 1), none⟩ = some (.int .i64 x67) ∧ J_5 (decide (x67 > (1 : Int))) w11) (J_5 false w11)))) (
  J_3 w8))))) (fun J_6 =>
  ∃ x15 : Int, World.cell? w5 ⟨w2.heap.size, (0 + 0), none⟩ = some (.int .i64 x15) ∧ cond (decide (x15 < (1 : Int))) (J_6 true w5) (∃ x19 : Int, World.cell? w5 ⟨w2.heap.size, (0 + 0), none⟩ = some (.int .i64 x19) ∧ cond (decide (x19 > (6 : Int))) (J_6 true w5) (∃ x24 : Int, World.cell? w5 ⟨w2.heap.size, (0 + 1), none⟩ = some (.int .i64 x24) ∧ cond (decide (x24 < (0 : Int))) (J_6 true w5) (∃ x29 : Int, World.cell? w5 ⟨w2.heap.size, (0 + 1), none⟩ = some (.int .i64 x29) ∧ cond (decide (x29 > (3 : Int))) (J_6 true w5) (∃ x34 : Int, World.cell? w5 ⟨w2.heap.size, (0 + 2), none⟩ = some (.int .i64 x34) ∧ cond (decide (x34 < (0 : Int))) (J_6 true w5) (∃ x39 : Int, World.cell? w5 ⟨w2.heap.size, (0 + 2), none⟩ = some (.int .i64 x39) ∧ cond (decide (x39 > (5 : Int))) (J_6 true w5) (∃ x44 : Int, World.cell? w5 ⟨w2.heap.size, (0 + 1), none⟩ = some (.int .i64 x44) ∧ cond (decide (x44 > (1 : Int))) (∃ x48 : Int, World.cell? w5 ⟨w2.heap.size, (0 + 2), none⟩ = some (.int .i64 x48) ∧ J_6 (x48 != (0 : Int)) w5) (J_6 false w5)))))))))) (
  J w2)))
theorem eq13 (s0 : Sl) (R : Value → World → Prop) (w : World) : funV Try.prog Try.f13 A13 [(.slice s0.a s0.n s0.c)] R w = S13 s0 R w := by kernel_rfl
theorem call13 (s0 : Sl) {R : Value → World → Prop} {w : World} (h : S13 s0 R w) : Calls Try.prog 13 [(.slice s0.a s0.n s0.c)].toArray w fun e w' => ∃ v, e = .returned v ∧ R v w' :=
  funV_calls mixed Try.func13 (an := A13) (by rw [eq13]; exact h)

/-- F14: cubeb/cubeblaw05.awake -/
def A14 : An := (.sq .lf (.sq .lf (.sq (.rj [] [(0, .bool)]) .lf)))
def S14  (R : Value → World → Prop) (w : World) : Prop :=
  ∃ (s8 : Sl) (w1 : World), Sem.run Try.prog (Instr.buildSlice 29 4 [(0, (.agg [(.int .i64 (2 : Int)), (.int .i64 (1 : Int)), (.int .i64 (0 : Int))].toArray)), (1, (.agg [(.int .i64 (1 : Int)), (.int .i64 (0 : Int)), (.int .i64 (0 : Int))].toArray)), (2, (.agg [(.int .i64 (1 : Int)), (.int .i64 (2 : Int)), (.int .i64 (0 : Int))].toArray)), (3, (.agg [(.int .i64 (2 : Int)), (.int .i64 (2 : Int)), (.int .i64 (0 : Int))].toArray))].toArray) w = .ok (.slice s8.a s8.n s8.c) w1 ∧
  Calls Try.prog 17 [(.slice s8.a s8.n s8.c)].toArray w1 (fun e w2 => ∃ s9_0 : Sl, ∃ x9_1 : Int, e = .returned (.tuple [(.slice s9_0.a s9_0.n s9_0.c), (.int .i64 x9_1)].toArray) ∧
  Join [(0, .bool)] (fun (b0 : Bool) (w3 : World) => R (.bool b0) w3) (fun J =>
  cond (x9_1 == (0 : Int)) (∃ (s16 : Sl) (w4 : World), Sem.run Try.prog (Instr.buildSlice 24 2 [(0, (.int .i64 (2 : Int))), (1, (.int .i64 (1 : Int)))].toArray) w2 = .ok (.slice s16.a s16.n s16.c) w4 ∧
  Calls Try.prog 16 [(.slice s9_0.a s9_0.n s9_0.c), (.slice s16.a s16.n s16.c)].toArray w4 (fun e_2 w5 => ∃ b17 : Bool, e_2 = .returned (.bool b17) ∧
  J b17 w5)) (J false w2)))
theorem eq14  (R : Value → World → Prop) (w : World) : funV Try.prog Try.f14 A14 [] R w = S14  R w := by kernel_rfl
theorem call14  {R : Value → World → Prop} {w : World} (h : S14  R w) : Calls Try.prog 14 [].toArray w fun e w' => ∃ v, e = .returned v ∧ R v w' :=
  funV_calls mixed Try.func14 (an := A14) (by rw [eq14]; exact h)

/-- F16: slices.Equal[[]int,int] -/
def A16 : An := (.sq .lf (.sq (.sq .lf (.cd (.sq .lf .lf) .lf)) (.sq (.sq .lf (.bk [] (.lp [(13, .int .i64)] (.sq .lf (.sq (.cd .lf .lf) (.sq (.bk [] (.sq .lf (.sq (.dr [0, 1, 2, 3, 4, 5, 6, 7, 8] [] false none) (.cd (.sq .lf .lf) .lf)))) .lf)))))) (.sq .lf .lf))))
def S16 (s0 : Sl) (s1 : Sl) (R : Value → World → Prop) (w : World) : Prop :=
  cond (((s0.n : Nat) : Int) != ((s1.n : Nat) : Int)) (
  R (.bool false) w) (
  Join [] (fun (w1 : World) => R (.bool true) w1) (fun J =>
  LoopV [(13, .int .i64)] (fun K => K (0 : Int) w) (fun N => fun (x13 : Int) (w2 : World) =>
  cond (decide (x13 < ((s0.n : Nat) : Int))) (
  Join [] (fun (w3 : World) => N (IntKind.wrap .i64 (x13 + (1 : Int))) w3) (fun J_2 =>
  Let w2.drew fun w4 =>
  ∃ p18 : Pt, s0.a = some ⟨p18.b, p18.o, none⟩ ∧ 0 ≤ x13 ∧ x13 < ((s0.n : Nat) : Int) ∧ ∃ x19 : Int, World.cell? w4 ⟨p18.b, (p18.o + Int.toNat x13 * 1), none⟩ = some (.int .i64 x19) ∧ ∃ p22 : Pt, s1.a = some ⟨p22.b, p22.o, none⟩ ∧ 0 ≤ x13 ∧ x13 < ((s1.n : Nat) : Int) ∧ ∃ x23 : Int, World.cell? w4 ⟨p22.b, (p22.o + Int.toNat x13 * 1), none⟩ = some (.int .i64 x23) ∧ cond (x19 != x23) (
  R (.bool false) w4) (
  J_2 w4))) (
  J w2))))
theorem eq16 (s0 : Sl) (s1 : Sl) (R : Value → World → Prop) (w : World) : funV Try.prog Try.f16 A16 [(.slice s0.a s0.n s0.c), (.slice s1.a s1.n s1.c)] R w = S16 s0 s1 R w := by kernel_rfl
theorem call16 (s0 : Sl) (s1 : Sl) {R : Value → World → Prop} {w : World} (h : S16 s0 s1 R w) : Calls Try.prog 16 [(.slice s0.a s0.n s0.c), (.slice s1.a s1.n s1.c)].toArray w fun e w' => ∃ v, e = .returned v ∧ R v w' :=
  funV_calls mixed Try.func16 (an := A16) (by rw [eq16]; exact h)

/-- F17: cubeb/history.Order -/
def A17 : An := (.sq .lf (.sq (.sq .lf (.cd (.sq .lf .lf) .lf)) (.sq .lf (.sq (.sq .lf (.cd (.sq .lf .lf) .lf)) (.sq .lf .lf)))))
def S17 (s0 : Sl) (R : Value → World → Prop) (w : World) : Prop :=
  Calls Try.prog 26 [(.slice s0.a s0.n s0.c)].toArray w (fun e w1 => ∃ b7 : Bool, e = .returned (.bool b7) ∧
  cond (!b7) (
  R (.tuple [(.slice none 0 0), (.int .i64 (2 : Int))].toArray) w1) (
  Calls Try.prog 34 [(.slice s0.a s0.n s0.c)].toArray w1 (fun e_2 w2 => ∃ s11 : Sl, e_2 = .returned (.slice s11.a s11.n s11.c) ∧
  Calls Try.prog 43 [(.slice s11.a s11.n s11.c)].toArray w2 (fun e_3 w3 => ∃ m12 : Option Nat, e_3 = .returned (.map m12) ∧
  Calls Try.prog 36 [(.slice s0.a s0.n s0.c)].toArray w3 (fun e_4 w4 => ∃ s14 : Sl, e_4 = .returned (.slice s14.a s14.n s14.c) ∧
  Calls Try.prog 44 [(.map m12), (.slice s14.a s14.n s14.c)].toArray w4 (fun e_5 w5 => ∃ s15_0 : Sl, ∃ b15_1 : Bool, e_5 = .returned (.tuple [(.slice s15_0.a s15_0.n s15_0.c), (.bool b15_1)].toArray) ∧
  cond (!b15_1) (
  R (.tuple [(.slice none 0 0), (.int .i64 (8 : Int))].toArray) w5) (
  R (.tuple [(.slice s15_0.a s15_0.n s15_0.c), (.int .i64 (0 : Int))].toArray) w5)))))))
theorem eq17 (s0 : Sl) (R : Value → World → Prop) (w : World) : funV Try.prog Try.f17 A17 [(.slice s0.a s0.n s0.c)] R w = S17 s0 R w := by kernel_rfl
theorem call17 (s0 : Sl) {R : Value → World → Prop} {w : World} (h : S17 s0 R w) : Calls Try.prog 17 [(.slice s0.a s0.n s0.c)].toArray w fun e w' => ∃ v, e = .returned v ∧ R v w' :=
  funV_calls mixed Try.func17 (an := A17) (by rw [eq17]; exact h)

/-- F24: slices.Compare[[]int,int] -/
def A24 : An := (.sq .lf (.sq (.sq .lf (.bk [] (.lp [(11, .int .i64)] (.sq .lf (.sq (.cd .lf .lf) (.sq (.bk [] (.sq .lf (.sq (.sq .lf (.cd (.sq .lf .lf) .lf)) (.sq .lf (.sq .lf (.sq .lf (.cd (.sq .lf .lf) .lf))))))) .lf)))))) (.sq (.sq .lf (.cd (.sq .lf .lf) .lf)) (.sq .lf .lf))))
def S24 (s0 : Sl) (s1 : Sl) (R : Value → World → Prop) (w : World) : Prop :=
  Join [] (fun (w1 : World) => cond (decide (((s0.n : Nat) : Int) < ((s1.n : Nat) : Int))) (
  R (.int .i64 (-1 : Int)) w1) (
  R (.int .i64 (0 : Int)) w1)) (fun J =>
  LoopV [(11, .int .i64)] (fun K => K (0 : Int) w) (fun N => fun (x11 : Int) (w2 : World) =>
  cond (decide (x11 < ((s0.n : Nat) : Int))) (
  Join [] (fun (w3 : World) => N (IntKind.wrap .i64 (x11 + (1 : Int))) w3) (fun J_2 =>
  ∃ p14 : Pt, s0.a = some ⟨p14.b, p14.o, none⟩ ∧ 0 ≤ x11 ∧ x11 < ((s0.n : Nat) : Int) ∧ ∃ x15 : Int, World.cell? w2 ⟨p14.b, (p14.o + Int.toNat x11 * 1), none⟩ = some (.int .i64 x15) ∧ cond (decide (x11 ≥ ((s1.n : Nat) : Int))) (
  R (.int .i64 (1 : Int)) w2) (
  ∃ p22 : Pt, s1.a = some ⟨p22.b, p22.o, none⟩ ∧ 0 ≤ x11 ∧ x11 < ((s1.n : Nat) : Int) ∧ ∃ x23 : Int, World.cell? w2 ⟨p22.b, (p22.o + Int.toNat x11 * 1), none⟩ = some (.int .i64 x23) ∧ Calls Try.prog 53 [(.int .i64 x15), (.int .i64 x23)].toArray w2 (fun e w4 => ∃ x26 : Int, e = .returned (.int .i64 x26) ∧
  cond (x26 != (0 : Int)) (
  R (.int .i64 x26) w4) (
  J_2 w4))))) (
  J w2)))
theorem eq24 (s0 : Sl) (s1 : Sl) (R : Value → World → Prop) (w : World) : funV Try.prog Try.f24 A24 [(.slice s0.a s0.n s0.c), (.slice s1.a s1.n s1.c)] R w = S24 s0 s1 R w := by kernel_rfl
theorem call24 (s0 : Sl) (s1 : Sl) {R : Value → World → Prop} {w : World} (h : S24 s0 s1 R w) : Calls Try.prog 24 [(.slice s0.a s0.n s0.c), (.slice s1.a s1.n s1.c)].toArray w fun e w' => ∃ v, e = .returned v ∧ R v w' :=
  funV_calls mixed Try.func24 (an := A24) (by rw [eq24]; exact h)

/-- F26: cubeb/history.Valid -/
def A26 : An := (.sq .lf (.sq .lf (.sq (.sq .lf (.cd (.sq .lf .lf) .lf)) (.sq (.sq .lf (.bk [] (.lp [(13, .int .i64)] (.sq .lf (.sq (.cd .lf .lf) (.sq (.bk [] (.sq .lf (.sq (.rj [] [(6, .bool)]) (.sq (.sq (.rj [] [(66, .bool)]) (.cd (.sq .lf .lf) .lf)) .lf)))) .lf)))))) (.sq .lf .lf)))))
def S26 (s0 : Sl) (R : Value → World → Prop) (w : World) : Prop :=
  Let (w.alloc (.map #[] 0)) fun w1 => 
  cond (decide (((s0.n : Nat) : Int) > (40 : Int))) (
  R (.bool false) w1) (
  Join [] (fun (w2 : World) => R (.bool true) w2) (fun J =>
  LoopV [(13, .int .i64)] (fun K => K (0 : Int) w1) (fun N => fun (x13 : Int) (w3 : World) =>
  cond (decide (x13 < ((s0.n : Nat) : Int))) (
  Join [] (fun (w4 : World) => N (IntKind.wrap .i64 (x13 + (1 : Int))) w4) (fun J_2 =>
  ∃ p15 : Pt, s0.a = some ⟨p15.b, p15.o, none⟩ ∧ 0 ≤ x13 ∧ x13 < ((s0.n : Nat) : Int) ∧ ∃ x16_0 : Int, ∃ x16_1 : Int, ∃ x16_2 : Int, rd w3 p15.b (p15.o + Int.toNat x13 * 3) [(.int .i64 x16_0), (.int .i64 x16_1), (.int .i64 x16_2)] ∧ Let (w3.alloc (.cells (zc Try.prog 38) 38)) fun w5 => 
  StoreOk w5 w3.heap.size 0 [(.int .i64 x16_0), (.int .i64 x16_1), (.int .i64 x16_2)] 3 ∧ Let (put w5 w3.heap.size 0 [(.int .i64 x16_0), (.int .i64 x16_1), (.int .i64 x16_2)]) fun w6 => 
  Join [(6, .bool)] (fun (b6 : Bool) (w7 : World) => Join [(66, .bool)] (fun (b66 : Bool) (w8 : World) => cond b66 (
  R (.bool false) w8) (
  ∃ x69 : Int, World.cell? w8 ⟨w3.heap.size, (0 + 0), none⟩ = some (.int .i64 x69) ∧ ∃ w9 : World, Sem.run Try.prog (Instr.mapUpdate 84 (.map (some w.heap.size)) (.int .i64 x69) (.bool b6)) w8 = .ok () w9 ∧
  J_2 w9)) (fun J_3 =>
  ∃ x26 : Int, World.cell? w7 ⟨w3.heap.size, (0 + 0), none⟩ = some (.int .i64 x26) ∧ cond (decide (x26 < (1 : Int))) (J_3 true w7) (∃ x30 : Int, World.cell? w7 ⟨w3.heap.size, (0 + 0), none⟩ = some (.int .i64 x30) ∧ cond (decide (x30 > (6 : Int))) (J_3 true w7) (∃ x35 : Int, World.cell? w7 ⟨w3.heap.size, (0 + 1), none⟩ = some (.int .i64 x35) ∧ cond (decide (x35 < (0 : Int))) (J_3 true w7) (∃ x40 : Int, World.cell? w7 ⟨w3.heap.size, (0 + 1), none⟩ = some (.int .i64 x40) ∧ cond (decide (x40 > (3 : Int))) (J_3 true w7) (∃ x45 : Int, World.cell? w7 ⟨w3.heap.size, (0 + 2), none⟩ = some (.int .i64 x45) ∧ cond (decide (x45 < (0 : Int))) (J_3 true w7) (∃ x50 : Int, World.cell? w7 ⟨w3.heap.size, (0 + 2), none⟩ = some (.int .i64 x50) ∧ cond (decide (x50 ≥ (6 : Int))) (J_3 true w7) (cond b6 (∃ x57 : Int, World.cell? w7 ⟨w3.heap.size, (0 + 2), none⟩ = some (.int .i64 x57) ∧ cond (x57 != (0 : Int)) (J_3 true w7) (∃ x64 : Int, World.cell? w7 ⟨w3.heap.size, (0 + 0), none⟩ = some (.int .i64 x64) ∧ ∃ b65 : Bool, Sem.run Try.prog (Instr.lookup 84 (.map (some w.heap.size)) (.int .i64 x64) false) w7 = .ok (.bool b65) w7 ∧ J_3 b65 w7)) (∃ x64_2 : Int, World.cell? w7 ⟨w3.heap.size, (0 + 0), none⟩ = some (.int .i64 x64_2) ∧ ∃ b65_2 : Bool, Sem.run Try.prog (Instr.lookup 84 (.map (some w.heap.size)) (.int .i64 x64_2) false) w7 = .ok (.bool b65_2) w7 ∧ J_3 b65_2 w7))))))))) (fun J_4 =>
  ∃ x18 : Int, World.cell? w6 ⟨w3.heap.size, (0 + 1), none⟩ = some (.int .i64 x18) ∧ cond (x18 == (2 : Int)) (J_4 true w6) (∃ x22 : Int, World.cell? w6 ⟨w3.heap.size, (0 + 1), none⟩ = some (.int .i64 x22) ∧ J_4 (x22 == (3 : Int)) w6)))) (
  J w3))))
theorem eq26 (s0 : Sl) (R : Value → World → Prop) (w : World) : funV Try.prog Try.f26 A26 [(.slice s0.a s0.n s0.c)] R w = S26 s0 R w := by kernel_rfl
theorem call26 (s0 : Sl) {R : Value → World → Prop} {w : World} (h : S26 s0 R w) : Calls Try.prog 26 [(.slice s0.a s0.n s0.c)].toArray w fun e w' => ∃ v, e = .returned v ∧ R v w' :=
  funV_calls mixed Try.func26 (an := A26) (by rw [eq26]; exact h)

/-- F27: slices.Contains[cubeb/history.History,cubeb/history.Op] -/
def A27 : An := (.sq .lf (.sq .lf .lf))
def S27 (s0 : Sl) (x1_0 : Int) (x1_1 : Int) (x1_2 : Int) (R : Value → World → Prop) (w : World) : Prop :=
  Let (w.alloc (.cells [(.int .i64 x1_0), (.int .i64 x1_1), (.int .i64 x1_2)].toArray 38)) fun w1 => 
  ∃ x6_0 : Int, ∃ x6_1 : Int, ∃ x6_2 : Int, rd w1 w.heap.size 0 [(.int .i64 x6_0), (.int .i64 x6_1), (.int .i64 x6_2)] ∧ Calls Try.prog 56 [(.slice s0.a s0.n s0.c), (.agg [(.int .i64 x6_0), (.int .i64 x6_1), (.int .i64 x6_2)].toArray)].toArray w1 (fun e w2 => ∃ x7 : Int, e = .returned (.int .i64 x7) ∧
  R (.bool (decide (x7 ≥ (0 : Int)))) w2)
theorem eq27 (s0 : Sl) (x1_0 : Int) (x1_1 : Int) (x1_2 : Int) (R : Value → World → Prop) (w : World) : funV Try.prog Try.f27 A27 [(.slice s0.a s0.n s0.c), (.agg [(.int .i64 x1_0), (.int .i64 x1_1), (.int .i64 x1_2)].toArray)] R w = S27 s0 x1_0 x1_1 x1_2 R w := by kernel_rfl
theorem call27 (s0 : Sl) (x1_0 : Int) (x1_1 : Int) (x1_2 : Int) {R : Value → World → Prop} {w : World} (h : S27 s0 x1_0 x1_1 x1_2 R w) : Calls Try.prog 27 [(.slice s0.a s0.n s0.c), (.agg [(.int .i64 x1_0), (.int .i64 x1_1), (.int .i64 x1_2)].toArray)].toArray w fun e w' => ∃ v, e = .returned v ∧ R v w' :=
  funV_calls mixed Try.func27 (an := A27) (by rw [eq27]; exact h)

/-- F28: slices.Contains[[]int,int] -/
def A28 : An := (.sq .lf (.sq .lf .lf))
def S28 (s0 : Sl) (x1 : Int) (R : Value → World → Prop) (w : World) : Prop :=
  Calls Try.prog 57 [(.slice s0.a s0.n s0.c), (.int .i64 x1)].toArray w (fun e w1 => ∃ x7 : Int, e = .returned (.int .i64 x7) ∧
  R (.bool (decide (x7 ≥ (0 : Int)))) w1)
theorem eq28 (s0 : Sl) (x1 : Int) (R : Value → World → Prop) (w : World) : funV Try.prog Try.f28 A28 [(.slice s0.a s0.n s0.c), (.int .i64 x1)] R w = S28 s0 x1 R w := by kernel_rfl
theorem call28 (s0 : Sl) (x1 : Int) {R : Value → World → Prop} {w : World} (h : S28 s0 x1 R w) : Calls Try.prog 28 [(.slice s0.a s0.n s0.c), (.int .i64 x1)].toArray w fun e w' => ∃ v, e = .returned v ∧ R v w' :=
  funV_calls mixed Try.func28 (an := A28) (by rw [eq28]; exact h)

/-- F34: (cubeb/history.History).part -/
def A34 : An := (.sq .lf (.sq .lf (.sq .lf (.sq (.sq .lf (.bk [(4, .slice)] (.lp [(4, .slice), (11, .int .i64)] (.sq .lf (.sq (.cd .lf .lf) (.sq (.bk [(4, .slice)] (.sq .lf (.sq .lf (.cj [(4, .slice)] .lf .lf)))) .lf)))))) (.sq .lf .lf)))))
def S34 (s0 : Sl) (R : Value → World → Prop) (w : World) : Prop :=
  Calls Try.prog 36 [(.slice s0.a s0.n s0.c)].toArray w (fun e w1 => ∃ s8 : Sl, e = .returned (.slice s8.a s8.n s8.c) ∧
  Join [(4, .slice)] (fun (s4 : Sl) (w2 : World) => R (.slice s4.a s4.n s4.c) w2) (fun J =>
  LoopV [(4, .slice), (11, .int .i64)] (fun K => K ⟨none, 0, 0⟩ (0 : Int) w1) (fun N => fun (s4_2 : Sl) (x11 : Int) (w3 : World) =>
  cond (decide (x11 < ((s0.n : Nat) : Int))) (
  Join [(4, .slice)] (fun (s4_3 : Sl) (w4 : World) => N ⟨s4_3.a, s4_3.n, s4_3.c⟩ (IntKind.wrap .i64 (x11 + (1 : Int))) w4) (fun J_2 =>
  ∃ p13 : Pt, s0.a = some ⟨p13.b, p13.o, none⟩ ∧ 0 ≤ x11 ∧ x11 < ((s0.n : Nat) : Int) ∧ ∃ x14_0 : Int, ∃ x14_1 : Int, ∃ x14_2 : Int, rd w3 p13.b (p13.o + Int.toNat x11 * 3) [(.int .i64 x14_0), (.int .i64 x14_1), (.int .i64 x14_2)] ∧ Let (w3.alloc (.cells (zc Try.prog 38) 38)) fun w5 => 
  StoreOk w5 w3.heap.size 0 [(.int .i64 x14_0), (.int .i64 x14_1), (.int .i64 x14_2)] 3 ∧ Let (put w5 w3.heap.size 0 [(.int .i64 x14_0), (.int .i64 x14_1), (.int .i64 x14_2)]) fun w6 => 
  ∃ x17 : Int, World.cell? w6 ⟨w3.heap.size, (0 + 0), none⟩ = some (.int .i64 x17) ∧ Calls Try.prog 28 [(.slice s8.a s8.n s8.c), (.int .i64 x17)].toArray w6 (fun e_2 w7 => ∃ b18 : Bool, e_2 = .returned (.bool b18) ∧
  Join [(4, .slice)] (fun (s4_4 : Sl) (w8 : World) => J_2 ⟨s4_4.a, s4_4.n, s4_4.c⟩ w8) (fun J_3 =>
  cond b18 (
  ∃ x20_0 : Int, ∃ x20_1 : Int, ∃ x20_2 : Int, rd w7 w3.heap.size 0 [(.int .i64 x20_0), (.int .i64 x20_1), (.int .i64 x20_2)] ∧ ∃ (s21 : Sl) (w9 : World), Sem.run Try.prog (Instr.buildSlice 29 1 [(0, (.agg [(.int .i64 x20_0), (.int .i64 x20_1), (.int .i64 x20_2)].toArray))].toArray) w7 = .ok (.slice s21.a s21.n s21.c) w9 ∧
  ∃ (s22 : Sl) (w10 : World), Sem.run Try.prog (Builtin.append_ #[29, 29] 29 #[(.slice s4_2.a s4_2.n s4_2.c), (.slice s21.a s21.n s21.c)]) w9 = .ok (.slice s22.a s22.n s22.c) w10 ∧
  J_3 ⟨s22.a, s22.n, s22.c⟩ w10) (
  J_3 ⟨s4_2.a, s4_2.n, s4_2.c⟩ w7))))) (
  J ⟨s4_2.a, s4_2.n, s4_2.c⟩ w3))))
theorem eq34 (s0 : Sl) (R : Value → World → Prop) (w : World) : funV Try.prog Try.f34 A34 [(.slice s0.a s0.n s0.c)] R w = S34 s0 R w := by kernel_rfl
theorem call34 (s0 : Sl) {R : Value → World → Prop} {w : World} (h : S34 s0 R w) : Calls Try.prog 34 [(.slice s0.a s0.n s0.c)].toArray w fun e w' => ∃ v, e = .returned v ∧ R v w' :=
  funV_calls mixed Try.func34 (an := A34) (by rw [eq34]; exact h)

/-- F36: (cubeb/history.History).committed -/
def A36 : An := (.sq .lf (.sq .lf (.sq (.sq .lf (.bk [(3, .slice)] (.lp [(3, .slice)] (.sq .lf (.sq (.cd .lf .lf) (.bk [(3, .slice)] (.sq (.lf [(0, 3, 3)]) (.sq .lf (.cj [(3, .slice)] .lf .lf))))))))) (.sq .lf (.sq .lf .lf)))))
def S36 (s0 : Sl) (R : Value → World → Prop) (w : World) : Prop :=
  Calls Try.prog 54 [(.slice s0.a s0.n s0.c), (.int .i64 (2 : Int))].toArray w (fun e w1 => ∃ m7 : Option Nat, e = .returned (.map m7) ∧
  ∃ (p8 : Pt) (w2 : World), Sem.run Try.prog (Instr.range 103 (.map m7)) w1 = .ok (.pointer (some ⟨p8.b, p8.o, none⟩)) w2 ∧
  Join [(3, .slice)] (fun (s3 : Sl) (w3 : World) => Calls Try.prog 67 [(.slice s3.a s3.n s3.c)].toArray w3 (fun e_2 w4 => e_2 = .returned (.tuple [].toArray) ∧
  R (.slice s3.a s3.n s3.c) w4)) (fun J =>
  LoopV [(3, .slice)] (fun K => K ⟨none, 0, 0⟩ w2) (fun N => fun (s3_2 : Sl) (w5 : World) =>
  ∃ (b9 : Bool) (kv9 : List Value) (w6 : World), Sem.run Try.prog (Instr.next (.pointer (some ⟨p8.b, p8.o, none⟩)) false 0) w5 = .ok (.tuple (Value.bool b9 :: kv9).toArray) w6 ∧
  cond b9 (
  Join [(3, .slice)] (fun (s3_3 : Sl) (w7 : World) => N ⟨s3_3.a, s3_3.n, s3_3.c⟩ w7) (fun J_2 =>
  ∃ x11_k : Int, ∃ x11_v : Int, Sem.run Try.prog (Instr.entry (.pointer (some ⟨p8.b, p8.o, none⟩))) w6 = .ok (.tuple #[(.int .i64 x11_k), (.int .i64 x11_v)]) w6 ∧ Join [(3, .slice)] (fun (s3_4 : Sl) (w8 : World) => J_2 ⟨s3_4.a, s3_4.n, s3_4.c⟩ w8) (fun J_3 =>
  cond (decide (x11_v ≥ (0 : Int))) (
  ∃ (s18 : Sl) (w9 : World), Sem.run Try.prog (Instr.buildSlice 24 1 [(0, (.int .i64 x11_k))].toArray) w6 = .ok (.slice s18.a s18.n s18.c) w9 ∧
  ∃ (s19 : Sl) (w10 : World), Sem.run Try.prog (Builtin.append_ #[24, 24] 24 #[(.slice s3_2.a s3_2.n s3_2.c), (.slice s18.a s18.n s18.c)]) w9 = .ok (.slice s19.a s19.n s19.c) w10 ∧
  J_3 ⟨s19.a, s19.n, s19.c⟩ w10) (
  J_3 ⟨s3_2.a, s3_2.n, s3_2.c⟩ w6)))) (
  J ⟨s3_2.a, s3_2.n, s3_2.c⟩ w6))))
theorem eq36 (s0 : Sl) (R : Value → World → Prop) (w : World) : funV Try.prog Try.f36 A36 [(.slice s0.a s0.n s0.c)] R w = S36 s0 R w := by kernel_rfl
theorem call36 (s0 : Sl) {R : Value → World → Prop} {w : World} (h : S36 s0 R w) : Calls Try.prog 36 [(.slice s0.a s0.n s0.c)].toArray w fun e w' => ∃ v, e = .returned v ∧ R v w' :=
  funV_calls mixed Try.func36 (an := A36) (by rw [eq36]; exact h)

/-- F43: (cubeb/history.History).conflicts -/
def A43 : An := (.sq .lf (.sq .lf (.sq (.sq .lf (.bk [] (.lp [(11, .int .i64)] (.sq .lf (.sq (.cd .lf .lf) (.sq (.bk [] (.sq .lf (.sq .lf (.bk [] (.lp [(21, .int .i64)] (.sq .lf (.sq (.cd .lf .lf) (.sq (.bk [] (.sq .lf (.sq (.rj [] [(44, .bool)]) (.cj [] .lf .lf)))) .lf)))))))) .lf)))))) (.sq .lf .lf))))
def S43 (s0 : Sl) (R : Value → World → Prop) (w : World) : Prop :=
  Let (w.alloc (.map #[] 0)) fun w1 => 
  Join [] (fun (w2 : World) => R (.map (some w.heap.size)) w2) (fun J =>
  LoopV [(11, .int .i64)] (fun K => K (0 : Int) w1) (fun N => fun (x11 : Int) (w3 : World) =>
  cond (decide (x11 < ((s0.n : Nat) : Int))) (
  Join [] (fun (w4 : World) => N (IntKind.wrap .i64 (x11 + (1 : Int))) w4) (fun J_2 =>
  ∃ p14 : Pt, s0.a = some ⟨p14.b, p14.o, none⟩ ∧ 0 ≤ x11 ∧ x11 < ((s0.n : Nat) : Int) ∧ ∃ x15_0 : Int, ∃ x15_1 : Int, ∃ x15_2 : Int, rd w3 p14.b (p14.o + Int.toNat x11 * 3) [(.int .i64 x15_0), (.int .i64 x15_1), (.int .i64 x15_2)] ∧ Let (w3.alloc (.cells (zc Try.prog 38) 38)) fun w5 => 
  StoreOk w5 w3.heap.size 0 [(.int .i64 x15_0), (.int .i64 x15_1), (.int .i64 x15_2)] 3 ∧ Let (put w5 w3.heap.size 0 [(.int .i64 x15_0), (.int .i64 x15_1), (.int .i64 x15_2)]) fun w6 => 
  0 ≤ (IntKind.wrap .i64 (x11 + (1 : Int))) ∧ (IntKind.wrap .i64 (x11 + (1 : Int))) ≤ ((s0.n : Nat) : Int) ∧ Join [] (fun (w7 : World) => J_2 w7) (fun J_3 =>
  LoopV [(21, .int .i64)] (fun K => K (0 : Int) w6) (fun N_2 => fun (x21 : Int) (w8 : World) =>
  cond (decide (x21 < (((s0.n - (Int.toNat (IntKind.wrap .i64 (x11 + (1 : Int))))) : Nat) : Int))) (
  Join [] (fun (w9 : World) => N_2 (IntKind.wrap .i64 (x21 + (1 : Int))) w9) (fun J_4 =>
  ∃ p23 : Pt, (subA s0.a s0.c (Int.toNat (IntKind.wrap .i64 (x11 + (1 : Int)))) 3) = some ⟨p23.b, p23.o, none⟩ ∧ 0 ≤ x21 ∧ x21 < (((s0.n - (Int.toNat (IntKind.wrap .i64 (x11 + (1 : Int))))) : Nat) : Int) ∧ ∃ x24_0 : Int, ∃ x24_1 : Int, ∃ x24_2 : Int, rd w8 p23.b (p23.o + Int.toNat x21 * 3) [(.int .i64 x24_0), (.int .i64 x24_1), (.int .i64 x24_2)] ∧ Let (w8.alloc (.cells (zc Try.prog 38) 38)) fun w10 => 
  StoreOk w10 w8.heap.size 0 [(.int .i64 x24_0), (.int .i64 x24_1), (.int .i64 x24_2)] 3 ∧ Let (put w10 w8.heap.size 0 [(.int .i64 x24_0), (.int .i64 x24_1), (.int .i64 x24_2)]) fun w11 => 
  Join [(44, .bool)] (fun (b44 : Bool) (w12 : World) => Join [] (fun (w13 : World) => J_4 w13) (fun J_5 =>
  cond b44 (
  ∃ x47 : Int, World.cell? w12 ⟨w3.heap.size, (0 + 0), none⟩ = some (.int .i64 x47) ∧ ∃ x49 : Int, World.cell? w12 ⟨w8.heap.size, (0 + 0), none⟩ = some (.int .i64 x49) ∧ ∃ w14 : World, Sem.run Try.prog (Instr.mapUpdate 75 (.map (some w.heap.size)) (.agg [(.int .i64 x47), (.int .i64 x49)].toArray) (.bool true)) w12 = .ok () w14 ∧
  J_5 w14) (
  J_5 w12))) (fun J_6 =>
  ∃ x26 : Int, World.cell? w11 ⟨w3.heap.size, (0 + 0), none⟩ = some (.int .i64 x26) ∧ ∃ x28 : Int, World.cell? w11 ⟨w8.heap.size, (0 + 0), none⟩ = some (.int .i64 x28) ∧ cond (x26 != x28) (∃ x32 : Int, World.cell? w11 ⟨w3.heap.size, (0 + 2), none⟩ = some (.int .i64 x32) ∧ ∃ x34 : Int, World.cell? w11 ⟨w8.heap.size, (0 + 2), none⟩ = some (.int .i64 x34) ∧ cond (x32 == x34) (∃ x39 : Int, World.cell? w11 ⟨w3.heap.size, (0 + 1), none⟩ = some (.int .i64 x39) ∧ ∃ x41 : Int, World.cell? w11 ⟨w8.heap.size, (0 + 1), none⟩ = some (.int .i64 x41) ∧ J_6 ((if x41 > x39 then x41 else x39) == (1 : Int)) w11) (J_6 false w11)) (J_6 false w11)))) (
  J_3 w8))))) (
  J w3)))
theorem eq43 (s0 : Sl) (R : Value → World → Prop) (w : World) : funV Try.prog Try.f43 A43 [(.slice s0.a s0.n s0.c)] R w = S43 s0 R w := by kernel_rfl
theorem call43 (s0 : Sl) {R : Value → World → Prop} {w : World} (h : S43 s0 R w) : Calls Try.prog 43 [(.slice s0.a s0.n s0.c)].toArray w fun e w' => ∃ v, e = .returned v ∧ R v w' :=
  funV_calls mixed Try.func43 (an := A43) (by rw [eq43]; exact h)

/-- F44: (cubeb/history.edges).sorted -/
def A44 : An := (.sq .lf (.sq .lf (.sq .lf (.sq (.bk [(7, .slice)] (.lp [(7, .slice)] (.sq (.sq .lf (.cd .lf .lf)) (.bk [(7, .slice)] (.sq .lf (.sq (.sq .lf (.cd (.sq .lf .lf) .lf)) (.sq .lf .lf))))))) (.sq .lf .lf)))))
def S44 (m0 : Option Nat) (s1 : Sl) (R : Value → World → Prop) (w : World) : Prop :=
  Let (w.alloc (.cells [(.map m0)].toArray 75)) fun w1 => 
  Calls Try.prog 46 [(.slice s1.a s1.n s1.c)].toArray w1 (fun e w2 => ∃ s10 : Sl, e = .returned (.slice s10.a s10.n s10.c) ∧
  Let (w2.alloc (.cells (zc Try.prog 24) 24)) fun w3 => 
  StoreOk w3 w2.heap.size 0 [(.slice s10.a s10.n s10.c)] 1 ∧ Let (put w3 w2.heap.size 0 [(.slice s10.a s10.n s10.c)]) fun w4 => 
  Join [(7, .slice)] (fun (s7 : Sl) (w5 : World) => R (.tuple [(.slice s7.a s7.n s7.c), (.bool true)].toArray) w5) (fun J =>
  LoopV [(7, .slice)] (fun K => K ⟨none, 0, 0⟩ w4) (fun N => fun (s7_2 : Sl) (w6 : World) =>
  ∃ s11 : Sl, World.cell? w6 ⟨w2.heap.size, 0, none⟩ = some (.slice s11.a s11.n s11.c) ∧ cond (decide (((s11.n : Nat) : Int) > (0 : Int))) (
  Join [(7, .slice)] (fun (s7_3 : Sl) (w7 : World) => N ⟨s7_3.a, s7_3.n, s7_3.c⟩ w7) (fun J_2 =>
  ∃ s14 : Sl, World.cell? w6 ⟨w2.heap.size, 0, none⟩ = some (.slice s14.a s14.n s14.c) ∧ Calls Try.prog 72 [(.slice s14.a s14.n s14.c), (.func (.func 73) #[] [(.pointer (some ⟨w2.heap.size, 0, none⟩)), (.pointer (some ⟨w.heap.size, 0, none⟩))].toArray)].toArray w6 (fun e_2 w8 => ∃ x16 : Int, e_2 = .returned (.int .i64 x16) ∧
  cond (decide (x16 < (0 : Int))) (
  R (.tuple [(.slice none 0 0), (.bool false)].toArray) w8) (
  ∃ s20 : Sl, World.cell? w8 ⟨w2.heap.size, 0, none⟩ = some (.slice s20.a s20.n s20.c) ∧ ∃ p22 : Pt, s20.a = some ⟨p22.b, p22.o, none⟩ ∧ 0 ≤ x16 ∧ x16 < ((s20.n : Nat) : Int) ∧ ∃ x23 : Int, World.cell? w8 ⟨p22.b, (p22.o + Int.toNat x16 * 1), none⟩ = some (.int .i64 x23) ∧ ∃ (s24 : Sl) (w9 : World), Sem.run Try.prog (Instr.buildSlice 24 1 [(0, (.int .i64 x23))].toArray) w8 = .ok (.slice s24.a s24.n s24.c) w9 ∧
  ∃ (s25 : Sl) (w10 : World), Sem.run Try.prog (Builtin.append_ #[24, 24] 24 #[(.slice s7_2.a s7_2.n s7_2.c), (.slice s24.a s24.n s24.c)]) w9 = .ok (.slice s25.a s25.n s25.c) w10 ∧
  ∃ s26 : Sl, World.cell? w10 ⟨w2.heap.size, 0, none⟩ = some (.slice s26.a s26.n s26.c) ∧ Calls Try.prog 75 [(.slice s26.a s26.n s26.c), (.int .i64 x16), (.int .i64 (IntKind.wrap .i64 (x16 + (1 : Int))))].toArray w10 (fun e_3 w11 => ∃ s30 : Sl, e_3 = .returned (.slice s30.a s30.n s30.c) ∧
  StoreOk w11 w2.heap.size 0 [(.slice s30.a s30.n s30.c)] 1 ∧ Let (put w11 w2.heap.size 0 [(.slice s30.a s30.n s30.c)]) fun w12 => 
  J_2 ⟨s25.a, s25.n, s25.c⟩ w12))))) (
  J ⟨s7_2.a, s7_2.n, s7_2.c⟩ w6))))
theorem eq44 (m0 : Option Nat) (s1 : Sl) (R : Value → World → Prop) (w : World) : funV Try.prog Try.f44 A44 [(.map m0), (.slice s1.a s1.n s1.c)] R w = S44 m0 s1 R w := by kernel_rfl
theorem call44 (m0 : Option Nat) (s1 : Sl) {R : Value → World → Prop} {w : World} (h : S44 m0 s1 R w) : Calls Try.prog 44 [(.map m0), (.slice s1.a s1.n s1.c)].toArray w fun e w' => ∃ v, e = .returned v ∧ R v w' :=
  funV_calls mixed Try.func44 (an := A44) (by rw [eq44]; exact h)

/-- F46: slices.Clone[[]int,int] -/
def A46 : An := (.sq .lf (.sq (.sq .lf (.cd (.sq .lf .lf) .lf)) (.sq .lf .lf)))
def S46 (s0 : Sl) (R : Value → World → Prop) (w : World) : Prop :=
  cond (Option.isNone s0.a) (
  R (.slice none 0 0) w) (
  ∃ (s5 : Sl) (w1 : World), Sem.run Try.prog (Instr.buildSlice 24 0 [].toArray) w = .ok (.slice s5.a s5.n s5.c) w1 ∧
  ∃ (s7 : Sl) (w2 : World), Sem.run Try.prog (Builtin.append_ #[24, 24] 24 #[(.slice s5.a s5.n s5.c), (.slice s0.a s0.n s0.c)]) w1 = .ok (.slice s7.a s7.n s7.c) w2 ∧
  R (.slice s7.a s7.n s7.c) w2)
theorem eq46 (s0 : Sl) (R : Value → World → Prop) (w : World) : funV Try.prog Try.f46 A46 [(.slice s0.a s0.n s0.c)] R w = S46 s0 R w := by kernel_rfl
theorem call46 (s0 : Sl) {R : Value → World → Prop} {w : World} (h : S46 s0 R w) : Calls Try.prog 46 [(.slice s0.a s0.n s0.c)].toArray w fun e w' => ∃ v, e = .returned v ∧ R v w' :=
  funV_calls mixed Try.func46 (an := A46) (by rw [eq46]; exact h)

/-- F47: slices.ContainsFunc[[]int,int] -/
def A47 : An := (.sq .lf (.sq .lf .lf))
def S47 (s0 : Sl) (f1 : Nat) (c1 : List Value) (R : Value → World → Prop) (w : World) : Prop :=
  Calls Try.prog 72 [(.slice s0.a s0.n s0.c), (.func (.func f1) #[] c1.toArray)].toArray w (fun e w1 => ∃ x7 : Int, e = .returned (.int .i64 x7) ∧
  R (.bool (decide (x7 ≥ (0 : Int)))) w1)
theorem eq47 (s0 : Sl) (f1 : Nat) (c1 : List Value) (R : Value → World → Prop) (w : World) : funV Try.prog Try.f47 A47 [(.slice s0.a s0.n s0.c), (.func (.func f1) #[] c1.toArray)] R w = S47 s0 f1 c1 R w := by kernel_rfl
theorem call47 (s0 : Sl) (f1 : Nat) (c1 : List Value) {R : Value → World → Prop} {w : World} (h : S47 s0 f1 c1 R w) : Calls Try.prog 47 [(.slice s0.a s0.n s0.c), (.func (.func f1) #[] c1.toArray)].toArray w fun e w' => ∃ v, e = .returned v ∧ R v w' :=
  funV_calls mixed Try.func47 (an := A47) (by rw [eq47]; exact h)

/-- F53: cmp.Compare[int] -/
def A53 : An := (.sq .lf (.sq .lf (.sq .lf (.sq (.sq .lf (.cd (.sq (.sq .lf (.cd (.sq .lf .lf) .lf)) (.sq .lf .lf)) .lf)) (.sq (.sq .lf (.cd (.sq .lf .lf) .lf)) (.sq (.sq .lf (.cd (.sq .lf .lf) .lf)) (.sq (.sq .lf (.cd (.sq .lf .lf) .lf)) (.sq .lf .lf))))))))
def S53 (x0 : Int) (x1 : Int) (R : Value → World → Prop) (w : World) : Prop :=
  Calls Try.prog 83 [(.int .i64 x0)].toArray w (fun e w1 => ∃ b8 : Bool, e = .returned (.bool b8) ∧
  Calls Try.prog 83 [(.int .i64 x1)].toArray w1 (fun e_2 w2 => ∃ b10 : Bool, e_2 = .returned (.bool b10) ∧
  cond b8 (
  cond b10 (
  R (.int .i64 (0 : Int)) w2) (
  R (.int .i64 (-1 : Int)) w2)) (
  cond b10 (
  R (.int .i64 (1 : Int)) w2) (
  cond (decide (x0 < x1)) (
  R (.int .i64 (-1 : Int)) w2) (
  cond (decide (x0 > x1)) (
  R (.int .i64 (1 : Int)) w2) (
  R (.int .i64 (0 : Int)) w2))))))
theorem eq53 (x0 : Int) (x1 : Int) (R : Value → World → Prop) (w : World) : funV Try.prog Try.f53 A53 [(.int .i64 x0), (.int .i64 x1)] R w = S53 x0 x1 R w := by kernel_rfl
theorem call53 (x0 : Int) (x1 : Int) {R : Value → World → Prop} {w : World} (h : S53 x0 x1 R w) : Calls Try.prog 53 [(.int .i64 x0), (.int .i64 x1)].toArray w fun e w' => ∃ v, e = .returned v ∧ R v w' :=
  funV_calls mixed Try.func53 (an := A53) (by rw [eq53]; exact h)

/-- F54: (cubeb/history.History).ending -/
def A54 : An := (.sq .lf (.sq .lf (.sq (.sq .lf (.bk [] (.lp [(6, .int .i64)] (.sq (.sq .lf (.cd .lf .lf)) (.sq (.bk [] .lf) .lf))))) (.sq .lf .lf))))
def S54 (s0 : Sl) (x1 : Int) (R : Value → World → Prop) (w : World) : Prop :=
  Let (w.alloc (.map #[] 0)) fun w1 => 
  Join [] (fun (w2 : World) => R (.map (some w.heap.size)) w2) (fun J =>
  LoopV [(6, .int .i64)] (fun K => K (1 : Int) w1) (fun N => fun (x6 : Int) (w3 : World) =>
  cond (decide (x6 ≤ (6 : Int))) (
  Join [] (fun (w4 : World) => N (IntKind.wrap .i64 (x6 + (1 : Int))) w4) (fun J_2 =>
  Calls Try.prog 56 [(.slice s0.a s0.n s0.c), (.agg [(.int .i64 x6), (.int .i64 x1), (.int .i64 (0 : Int))].toArray)].toArray w3 (fun e w5 => ∃ x18 : Int, e = .returned (.int .i64 x18) ∧
  ∃ w6 : World, Sem.run Try.prog (Instr.mapUpdate 103 (.map (some w.heap.size)) (.int .i64 x6) (.int .i64 x18)) w5 = .ok () w6 ∧
  J_2 w6))) (
  J w3)))
theorem eq54 (s0 : Sl) (x1 : Int) (R : Value → World → Prop) (w : World) : funV Try.prog Try.f54 A54 [(.slice s0.a s0.n s0.c), (.int .i64 x1)] R w = S54 s0 x1 R w := by kernel_rfl
theorem call54 (s0 : Sl) (x1 : Int) {R : Value → World → Prop} {w : World} (h : S54 s0 x1 R w) : Calls Try.prog 54 [(.slice s0.a s0.n s0.c), (.int .i64 x1)].toArray w fun e w' => ∃ v, e = .returned v ∧ R v w' :=
  funV_calls mixed Try.func54 (an := A54) (by rw [eq54]; exact h)

/-- F55: (cubeb/history.History).from -/
def A55 : An := (.sq .lf (.sq .lf (.sq .lf (.sq (.sq .lf (.bk [(4, .slice)] (.lp [(4, .slice), (15, .int .i64)] (.sq .lf (.sq (.cd .lf .lf) (.sq (.bk [(4, .slice)] (.sq .lf (.sq (.sq .lf (.cd (.sq .lf .lf) .lf)) (.sq .lf (.sq (.sq .lf (.bk [(7, .int .i64)] (.lp [(7, .int .i64), (8, .int .i64)] (.sq (.sq .lf (.cd .lf .lf)) (.sq (.bk [(7, .int .i64)] (.sq .lf (.sq (.rj [] [(10, .bool)]) (.sq (.rj [] [(62, .bool)]) (.cd (.sq .lf .lf) .lf))))) .lf))))) .lf))))) .lf)))))) (.sq .lf .lf)))))
def S55 (s0 : Sl) (R : Value → World → Prop) (w : World) : Prop :=
  Calls Try.prog 54 [(.slice s0.a s0.n s0.c), (.int .i64 (3 : Int))].toArray w (fun e w1 => ∃ m12 : Option Nat, e = .returned (.map m12) ∧
  Join [(4, .slice)] (fun (s4 : Sl) (w2 : World) => R (.slice s4.a s4.n s4.c) w2) (fun J =>
  LoopV [(4, .slice), (15, .int .i64)] (fun K => K ⟨none, 0, 0⟩ (0 : Int) w1) (fun N => fun (s4_2 : Sl) (x15 : Int) (w3 : World) =>
  cond (decide (x15 < ((s0.n : Nat) : Int))) (
  Join [(4, .slice)] (fun (s4_3 : Sl) (w4 : World) => N ⟨s4_3.a, s4_3.n, s4_3.c⟩ (IntKind.wrap .i64 (x15 + (1 : Int))) w4) (fun J_2 =>
  ∃ p18 : Pt, s0.a = some ⟨p18.b, p18.o, none⟩ ∧ 0 ≤ x15 ∧ x15 < ((s0.n : Nat) : Int) ∧ ∃ x19_0 : Int, ∃ x19_1 : Int, ∃ x19_2 : Int, rd w3 p18.b (p18.o + Int.toNat x15 * 3) [(.int .i64 x19_0), (.int .i64 x19_1), (.int .i64 x19_2)] ∧ Let (w3.alloc (.cells (zc Try.prog 38) 38)) fun w5 => 
  StoreOk w5 w3.heap.size 0 [(.int .i64 x19_0), (.int .i64 x19_1), (.int .i64 x19_2)] 3 ∧ Let (put w5 w3.heap.size 0 [(.int .i64 x19_0), (.int .i64 x19_1), (.int .i64 x19_2)]) fun w6 => 
  ∃ x21 : Int, World.cell? w6 ⟨w3.heap.size, (0 + 1), none⟩ = some (.int .i64 x21) ∧ cond (x21 != (0 : Int)) (
  ∃ (s24 : Sl) (w7 : World), Sem.run Try.prog (Instr.buildSlice 24 1 [(0, (.int .i64 (-1 : Int)))].toArray) w6 = .ok (.slice s24.a s24.n s24.c) w7 ∧
  ∃ (s25 : Sl) (w8 : World), Sem.run Try.prog (Builtin.append_ #[24, 24] 24 #[(.slice s4_2.a s4_2.n s4_2.c), (.slice s24.a s24.n s24.c)]) w7 = .ok (.slice s25.a s25.n s25.c) w8 ∧
  J_2 ⟨s25.a, s25.n, s25.c⟩ w8) (
  Join [(7, .int .i64)] (fun (x7 : Int) (w9 : World) => ∃ (s67 : Sl) (w10 : World), Sem.run Try.prog (Instr.buildSlice 24 1 [(0, (.int .i64 x7))].toArray) w9 = .ok (.slice s67.a s67.n s67.c) w10 ∧
  ∃ (s68 : Sl) (w11 : World), Sem.run Try.prog (Builtin.append_ #[24, 24] 24 #[(.slice s4_2.a s4_2.n s4_2.c), (.slice s67.a s67.n s67.c)]) w10 = .ok (.slice s68.a s68.n s68.c) w11 ∧
  J_2 ⟨s68.a, s68.n, s68.c⟩ w11) (fun J_3 =>
  LoopV [(7, .int .i64), (8, .int .i64)] (fun K => K (0 : Int) (IntKind.wrap .i64 (x15 - (1 : Int))) w6) (fun N_2 => fun (x7_2 : Int) (x8 : Int) (w12 : World) =>
  cond (decide (x8 ≥ (0 : Int))) (
  Join [(7, .int .i64)] (fun (x7_3 : Int) (w13 : World) => N_2 x7_3 (IntKind.wrap .i64 (x8 - (1 : Int))) w13) (fun J_4 =>
  ∃ p34 : Pt, s0.a = some ⟨p34.b, p34.o, none⟩ ∧ 0 ≤ x8 ∧ x8 < ((s0.n : Nat) : Int) ∧ ∃ x35_0 : Int, ∃ x35_1 : Int, ∃ x35_2 : Int, rd w12 p34.b (p34.o + Int.toNat x8 * 3) [(.int .i64 x35_0), (.int .i64 x35_1), (.int .i64 x35_2)] ∧ Let (w12.alloc (.cells (zc Try.prog 38) 38)) fun w14 => 
  StoreOk w14 w12.heap.size 0 [(.int .i64 x35_0), (.int .i64 x35_1), (.int .i64 x35_2)] 3 ∧ Let (put w14 w12.heap.size 0 [(.int .i64 x35_0), (.int .i64 x35_1), (.int .i64 x35_2)]) fun w15 => 
  Join [(10, .bool)] (fun (b10 : Bool) (w16 : World) => Join [(62, .bool)] (fun (b62 : Bool) (w17 : World) => cond b62 (
  ∃ x64 : Int, World.cell? w17 ⟨w12.heap.size, (0 + 0), none⟩ = some (.int .i64 x64) ∧ J_3 x64 w17) (
  J_4 x7_2 w17)) (fun J_5 =>
  ∃ x50 : Int, World.cell? w16 ⟨w12.heap.size, (0 + 1), none⟩ = some (.int .i64 x50) ∧ cond (x50 == (1 : Int)) (∃ x54 : Int, World.cell? w16 ⟨w12.heap.size, (0 + 2), none⟩ = some (.int .i64 x54) ∧ ∃ x56 : Int, World.cell? w16 ⟨w3.heap.size, (0 + 2), none⟩ = some (.int .i64 x56) ∧ cond (x54 == x56) (J_5 (!b10) w16) (J_5 false w16)) (J_5 false w16))) (fun J_6 =>
  ∃ x38 : Int, World.cell? w15 ⟨w12.heap.size, (0 + 0), none⟩ = some (.int .i64 x38) ∧ ∃ x39 : Int, Sem.run Try.prog (Instr.lookup 103 (.map m12) (.int .i64 x38) false) w15 = .ok (.int .i64 x39) w15 ∧ cond (decide (x39 ≥ (0 : Int))) (∃ x44 : Int, World.cell? w15 ⟨w12.heap.size, (0 + 0), none⟩ = some (.int .i64 x44) ∧ ∃ x45 : Int, Sem.run Try.prog (Instr.lookup 103 (.map m12) (.int .i64 x44) false) w15 = .ok (.int .i64 x45) w15 ∧ J_6 (decide (x45 < x15)) w15) (J_6 false w15)))) (
  J_3 x7_2 w12)))))) (
  J ⟨s4_2.a, s4_2.n, s4_2.c⟩ w3))))
theorem eq55 (s0 : Sl) (R : Value → World → Prop) (w : World) : funV Try.prog Try.f55 A55 [(.slice s0.a s0.n s0.c)] R w = S55 s0 R w := by kernel_rfl
theorem call55 (s0 : Sl) {R : Value → World → Prop} {w : World} (h : S55 s0 R w) : Calls Try.prog 55 [(.slice s0.a s0.n s0.c)].toArray w fun e w' => ∃ v, e = .returned v ∧ R v w' :=
  funV_calls mixed Try.func55 (an := A55) (by rw [eq55]; exact h)

/-- F56: slices.Index[cubeb/history.History,cubeb/history.Op] -/
def A56 : An := (.sq .lf (.sq (.sq .lf (.bk [] (.lp [(8, .int .i64)] (.sq .lf (.sq (.cd .lf .lf) (.sq (.bk [] (.sq .lf (.sq (.dr [0, 1, 2, 3, 4, 5] [] false none) (.cd (.sq .lf .lf) .lf)))) .lf)))))) (.sq .lf .lf)))
def S56 (s0 : Sl) (x1_0 : Int) (x1_1 : Int) (x1_2 : Int) (R : Value → World → Prop) (w : World) : Prop :=
  Let (w.alloc (.cells [(.int .i64 x1_0), (.int .i64 x1_1), (.int .i64 x1_2)].toArray 38)) fun w1 => 
  Join [] (fun (w2 : World) => R (.int .i64 (-1 : Int)) w2) (fun J =>
  LoopV [(8, .int .i64)] (fun K => K (0 : Int) w1) (fun N => fun (x8 : Int) (w3 : World) =>
  cond (decide (x8 < ((s0.n : Nat) : Int))) (
  Join [] (fun (w4 : World) => N (IntKind.wrap .i64 (x8 + (1 : Int))) w4) (fun J_2 =>
  Let w3.drew fun w5 =>
  ∃ x11_0 : Int, ∃ x11_1 : Int, ∃ x11_2 : Int, rd w5 w.heap.size 0 [(.int .i64 x11_0), (.int .i64 x11_1), (.int .i64 x11_2)] ∧ ∃ p14 : Pt, s0.a = some ⟨p14.b, p14.o, none⟩ ∧ 0 ≤ x8 ∧ x8 < ((s0.n : Nat) : Int) ∧ ∃ x15_0 : Int, ∃ x15_1 : Int, ∃ x15_2 : Int, rd w5 p14.b (p14.o + Int.toNat x8 * 3) [(.int .i64 x15_0), (.int .i64 x15_1), (.int .i64 x15_2)] ∧ ∃ r16 : Bool, (∀ w, Sem.run Try.prog (aggEq .eql 38 (.agg [(.int .i64 x11_0), (.int .i64 x11_1), (.int .i64 x11_2)].toArray) (.agg [(.int .i64 x15_0), (.int .i64 x15_1), (.int .i64 x15_2)].toArray)) w = .ok (.bool r16) w) ∧ cond r16 (
  R (.int .i64 x8) w5) (
  J_2 w5))) (
  J w3)))
theorem eq56 (s0 : Sl) (x1_0 : Int) (x1_1 : Int) (x1_2 : Int) (R : Value → World → Prop) (w : World) : funV Try.prog Try.f56 A56 [(.slice s0.a s0.n s0.c), (.agg [(.int .i64 x1_0), (.int .i64 x1_1), (.int .i64 x1_2)].toArray)] R w = S56 s0 x1_0 x1_1 x1_2 R w := by kernel_rfl
theorem call56 (s0 : Sl) (x1_0 : Int) (x1_1 : Int) (x1_2 : Int) {R : Value → World → Prop} {w : World} (h : S56 s0 x1_0 x1_1 x1_2 R w) : Calls Try.prog 56 [(.slice s0.a s0.n s0.c), (.agg [(.int .i64 x1_0), (.int .i64 x1_1), (.int .i64 x1_2)].toArray)].toArray w fun e w' => ∃ v, e = .returned v ∧ R v w' :=
  funV_calls mixed Try.func56 (an := A56) (by rw [eq56]; exact h)

/-- F57: slices.Index[[]int,int] -/
def A57 : An := (.sq .lf (.sq (.sq .lf (.bk [] (.lp [(8, .int .i64)] (.sq .lf (.sq (.cd .lf .lf) (.sq (.bk [] (.sq .lf (.sq .lf (.cd (.sq .lf .lf) .lf)))) .lf)))))) (.sq .lf .lf)))
def S57 (s0 : Sl) (x1 : Int) (R : Value → World → Prop) (w : World) : Prop :=
  Join [] (fun (w1 : World) => R (.int .i64 (-1 : Int)) w1) (fun J =>
  LoopV [(8, .int .i64)] (fun K => K (0 : Int) w) (fun N => fun (x8 : Int) (w2 : World) =>
  cond (decide (x8 < ((s0.n : Nat) : Int))) (
  Join [] (fun (w3 : World) => N (IntKind.wrap .i64 (x8 + (1 : Int))) w3) (fun J_2 =>
  ∃ p14 : Pt, s0.a = some ⟨p14.b, p14.o, none⟩ ∧ 0 ≤ x8 ∧ x8 < ((s0.n : Nat) : Int) ∧ ∃ x15 : Int, World.cell? w2 ⟨p14.b, (p14.o + Int.toNat x8 * 1), none⟩ = some (.int .i64 x15) ∧ cond (x1 == x15) (
  R (.int .i64 x8) w2) (
  J_2 w2))) (
  J w2)))
theorem eq57 (s0 : Sl) (x1 : Int) (R : Value → World → Prop) (w : World) : funV Try.prog Try.f57 A57 [(.slice s0.a s0.n s0.c), (.int .i64 x1)] R w = S57 s0 x1 R w := by kernel_rfl
theorem call57 (s0 : Sl) (x1 : Int) {R : Value → World → Prop} {w : World} (h : S57 s0 x1 R w) : Calls Try.prog 57 [(.slice s0.a s0.n s0.c), (.int .i64 x1)].toArray w fun e w' => ∃ v, e = .returned v ∧ R v w' :=
  funV_calls mixed Try.func57 (an := A57) (by rw [eq57]; exact h)

/-- F67: slices.Sort[[]int,int] -/
def A67 : An := (.sq .lf .lf)
def S67 (s0 : Sl) (R : Value → World → Prop) (w : World) : Prop :=
  Calls Try.prog 90 [(.int .u64 (IntKind.wrap .u64 ((s0.n : Nat) : Int)))].toArray w (fun e w1 => ∃ x9 : Int, e = .returned (.int .i64 x9) ∧
  Calls Try.prog 91 [(.slice s0.a s0.n s0.c), (.int .i64 (0 : Int)), (.int .i64 ((s0.n : Nat) : Int)), (.int .i64 x9)].toArray w1 (fun e_2 w2 => e_2 = .returned (.tuple [].toArray) ∧
  R (.tuple [].toArray) w2))
theorem eq67 (s0 : Sl) (R : Value → World → Prop) (w : World) : funV Try.prog Try.f67 A67 [(.slice s0.a s0.n s0.c)] R w = S67 s0 R w := by kernel_rfl
theorem call67 (s0 : Sl) {R : Value → World → Prop} {w : World} (h : S67 s0 R w) : Calls Try.prog 67 [(.slice s0.a s0.n s0.c)].toArray w fun e w' => ∃ v, e = .returned v ∧ R v w' :=
  funV_calls mixed Try.func67 (an := A67) (by rw [eq67]; exact h)

/-- F72: slices.IndexFunc[[]int,int] -/
def A72 : An := (.sq .lf (.sq (.sq .lf (.bk [] (.lp [(8, .int .i64)] (.sq .lf (.sq (.cd .lf .lf) (.sq (.bk [] (.sq .lf (.sq .lf (.cd (.sq .lf .lf) .lf)))) .lf)))))) (.sq .lf .lf)))
def S72 (s0 : Sl) (f1 : Nat) (c1 : List Value) (R : Value → World → Prop) (w : World) : Prop :=
  Join [] (fun (w1 : World) => R (.int .i64 (-1 : Int)) w1) (fun J =>
  LoopV [(8, .int .i64)] (fun K => K (0 : Int) w) (fun N => fun (x8 : Int) (w2 : World) =>
  cond (decide (x8 < ((s0.n : Nat) : Int))) (
  Join [] (fun (w3 : World) => N (IntKind.wrap .i64 (x8 + (1 : Int))) w3) (fun J_2 =>
  ∃ p14 : Pt, s0.a = some ⟨p14.b, p14.o, none⟩ ∧ 0 ≤ x8 ∧ x8 < ((s0.n : Nat) : Int) ∧ ∃ x15 : Int, World.cell? w2 ⟨p14.b, (p14.o + Int.toNat x8 * 1), none⟩ = some (.int .i64 x15) ∧ (bif callable Try.prog f1 then Calls Try.prog f1 (([(.int .i64 x15)] : List Value) ++ c1).toArray w2 (fun e w4 => ∃ b16 : Bool, e = .returned (.bool b16) ∧
  cond b16 (
  R (.int .i64 x8) w4) (
  J_2 w4)) else False))) (
  J w2)))
theorem eq72 (s0 : Sl) (f1 : Nat) (c1 : List Value) (R : Value → World → Prop) (w : World) : funV Try.prog Try.f72 A72 [(.slice s0.a s0.n s0.c), (.func (.func f1) #[] c1.toArray)] R w = S72 s0 f1 c1 R w := by kernel_rfl
theorem call72 (s0 : Sl) (f1 : Nat) (c1 : List Value) {R : Value → World → Prop} {w : World} (h : S72 s0 f1 c1 R w) : Calls Try.prog 72 [(.slice s0.a s0.n s0.c), (.func (.func f1) #[] c1.toArray)].toArray w fun e w' => ∃ v, e = .returned v ∧ R v w' :=
  funV_calls mixed Try.func72 (an := A72) (by rw [eq72]; exact h)

/-- F73: (cubeb/history.edges).sorted$1 -/
def A73 : An := (.sq .lf (.sq .lf .lf))
def S73 (x0 : Int) (p1 : Pt) (p2 : Pt) (R : Value → World → Prop) (w : World) : Prop :=
  Let (w.alloc (.cells [(.int .i64 x0)].toArray 3)) fun w1 => 
  ∃ s5 : Sl, World.cell? w1 ⟨p1.b, p1.o, none⟩ = some (.slice s5.a s5.n s5.c) ∧ Calls Try.prog 47 [(.slice s5.a s5.n s5.c), (.func (.func 74) #[] [(.pointer (some ⟨p2.b, p2.o, none⟩)), (.pointer (some ⟨w.heap.size, 0, none⟩))].toArray)].toArray w1 (fun e w2 => ∃ b7 : Bool, e = .returned (.bool b7) ∧
  R (.bool (!b7)) w2)
theorem eq73 (x0 : Int) (p1 : Pt) (p2 : Pt) (R : Value → World → Prop) (w : World) : funV Try.prog Try.f73 A73 [(.int .i64 x0), (.pointer (some ⟨p1.b, p1.o, none⟩)), (.pointer (some ⟨p2.b, p2.o, none⟩))] R w = S73 x0 p1 p2 R w := by kernel_rfl
theorem call73 (x0 : Int) (p1 : Pt) (p2 : Pt) {R : Value → World → Prop} {w : World} (h : S73 x0 p1 p2 R w) : Calls Try.prog 73 [(.int .i64 x0), (.pointer (some ⟨p1.b, p1.o, none⟩)), (.pointer (some ⟨p2.b, p2.o, none⟩))].toArray w fun e w' => ∃ v, e = .returned v ∧ R v w' :=
  funV_calls mixed Try.func73 (an := A73) (by rw [eq73]; exact h)

/-- F74: (cubeb/history.edges).sorted$1$1 -/
def A74 : An := (.sq .lf (.sq .lf .lf))
def S74 (x0 : Int) (p1 : Pt) (p2 : Pt) (R : Value → World → Prop) (w : World) : Prop :=
  ∃ m5 : Option Nat, World.cell? w ⟨p1.b, p1.o, none⟩ = some (.map m5) ∧ ∃ x7 : Int, World.cell? w ⟨p2.b, p2.o, none⟩ = some (.int .i64 x7) ∧ ∃ b9 : Bool, Sem.run Try.prog (Instr.lookup 75 (.map m5) (.agg [(.int .i64 x0), (.int .i64 x7)].toArray) false) w = .ok (.bool b9) w ∧ R (.bool b9) w
theorem eq74 (x0 : Int) (p1 : Pt) (p2 : Pt) (R : Value → World → Prop) (w : World) : funV Try.prog Try.f74 A74 [(.int .i64 x0), (.pointer (some ⟨p1.b, p1.o, none⟩)), (.pointer (some ⟨p2.b, p2.o, none⟩))] R w = S74 x0 p1 p2 R w := by kernel_rfl
theorem call74 (x0 : Int) (p1 : Pt) (p2 : Pt) {R : Value → World → Prop} {w : World} (h : S74 x0 p1 p2 R w) : Calls Try.prog 74 [(.int .i64 x0), (.pointer (some ⟨p1.b, p1.o, none⟩)), (.pointer (some ⟨p2.b, p2.o, none⟩))].toArray w fun e w' => ∃ v, e = .returned v ∧ R v w' :=
  funV_calls mixed Try.func74 (an := A74) (by rw [eq74]; exact h)

/-- F75: slices.Delete[[]int,int] -/
def A75 : An := (.sq .lf (.sq .lf (.sq (.sq .lf (.cd (.sq .lf .lf) .lf)) (.sq .lf (.sq (.dr [0, 1, 2, 3, 4, 5, 6, 7] [] false none) (.sq .lf (.sq .lf .lf)))))))
def S75 (s0 : Sl) (x1 : Int) (x2 : Int) (R : Value → World → Prop) (w : World) : Prop :=
  0 ≤ ((s0.n : Nat) : Int) ∧ ((s0.n : Nat) : Int) ≤ ((s0.c : Nat) : Int) ∧ 0 ≤ x2 ∧ x2 ≤ (((Int.toNat ((s0.n : Nat) : Int)) : Nat) : Int) ∧ 0 ≤ x1 ∧ x1 ≤ (((Int.toNat x2) : Nat) : Int) ∧ cond (x1 == x2) (
  R (.slice s0.a s0.n s0.c) w) (
  Let w.drew fun w1 =>
  0 ≤ x1 ∧ x1 ≤ ((s0.c : Nat) : Int) ∧ 0 ≤ x2 ∧ x2 ≤ ((s0.n : Nat) : Int) ∧ ∃ (s26 : Sl) (w2 : World), Sem.run Try.prog (Builtin.append_ #[24, 24] 24 #[(.slice s0.a (Int.toNat x1) s0.c), (.slice (subA s0.a s0.c (Int.toNat x2) 1) (s0.n - (Int.toNat x2)) (s0.c - (Int.toNat x2)))]) w1 = .ok (.slice s26.a s26.n s26.c) w2 ∧
  0 ≤ ((s0.n : Nat) : Int) ∧ ((s0.n : Nat) : Int) ≤ ((s26.c : Nat) : Int) ∧ 0 ≤ ((s26.n : Nat) : Int) ∧ ((s26.n : Nat) : Int) ≤ (((Int.toNat ((s0.n : Nat) : Int)) : Nat) : Int) ∧ ∃ w3 : World, Sem.run Try.prog (Builtin.clear_ #[24] 0 #[(.slice (subA s26.a s26.c (Int.toNat ((s26.n : Nat) : Int)) 1) ((Int.toNat ((s0.n : Nat) : Int)) - (Int.toNat ((s26.n : Nat) : Int))) (s26.c - (Int.toNat ((s26.n : Nat) : Int))))]) w2 = .ok (.tuple #[]) w3 ∧
  R (.slice s26.a s26.n s26.c) w3)
theorem eq75 (s0 : Sl) (x1 : Int) (x2 : Int) (R : Value → World → Prop) (w : World) : funV Try.prog Try.f75 A75 [(.slice s0.a s0.n s0.c), (.int .i64 x1), (.int .i64 x2)] R w = S75 s0 x1 x2 R w := by kernel_rfl
theorem call75 (s0 : Sl) (x1 : Int) (x2 : Int) {R : Value → World → Prop} {w : World} (h : S75 s0 x1 x2 R w) : Calls Try.prog 75 [(.slice s0.a s0.n s0.c), (.int .i64 x1), (.int .i64 x2)].toArray w fun e w' => ∃ v, e = .returned v ∧ R v w' :=
  funV_calls mixed Try.func75 (an := A75) (by rw [eq75]; exact h)

/-- F90: math/bits.Len -/
def A90 : An := (.sq .lf (.sq (.cd (.sq .lf .lf) .lf) (.sq .lf .lf)))
def S90 (x0 : Int) (R : Value → World → Prop) (w : World) : Prop :=
  Calls Try.prog 104 [(.int .u64 x0)].toArray w (fun e_2 w2 => ∃ x7 : Int, e_2 = .returned (.int .i64 x7) ∧
  R (.int .i64 x7) w2)
theorem eq90 (x0 : Int) (R : Value → World → Prop) (w : World) : funV Try.prog Try.f90 A90 [(.int .u64 x0)] R w = S90 x0 R w := by kernel_rfl
theorem call90 (x0 : Int) {R : Value → World → Prop} {w : World} (h : S90 x0 R w) : Calls Try.prog 90 [(.int .u64 x0)].toArray w fun e w' => ∃ v, e = .returned v ∧ R v w' :=
  funV_calls mixed Try.func90 (an := A90) (by rw [eq90]; exact h)

/-- F91: slices.pdqsortOrdered[int] -/
def A91 : An := (.sq .lf (.sq .lf (.bk [] (.lp [(1, .int .i64), (2, .int .i64), (3, .int .i64), (8, .bool), (9, .bool)] (.bk [(1, .int .i64), (2, .int .i64), (3, .int .i64), (8, .bool), (9, .bool)] (.sq .lf (.sq (.sq .lf (.cd (.sq .lf .lf) .lf)) (.sq (.sq .lf (.cd (.sq .lf .lf) .lf)) (.sq (.sq .lf (.cj [(3, .int .i64)] (.sq .lf .lf) .lf)) (.sq .lf (.sq (.sq .lf (.cj [(11, .int .i64), (12, .int .i64)] (.sq .lf (.sq .lf .lf)) .lf)) (.sq (.sq (.rj [] [(68, .bool)]) (.cj [] (.sq .lf (.cd .lf .lf)) .lf)) (.sq (.sq (.dr [0, 1, 2, 3, 4, 5, 6, 7, 8, 9, 10, 11, 12, 13, 14] [] false (some [(87, .bool)])) (.cd (.sq .lf (.sq .lf .lf)) .lf)) (.sq .lf (.sq .lf (.sq .lf (.sq .lf (.sq .lf (.cj [(1, .int .i64), (2, .int .i64), (8, .bool)] (.sq .lf (.sq .lf .lf)) (.sq .lf (.sq .lf .lf)))))))))))))))))))))
def S91 (s0 : Sl) (x1 : Int) (x2 : Int) (x3 : Int) (R : Value → World → Prop) (w : World) : Prop :=
  Join [] (fun (w1 : World) => R (.tuple [].toArray) w1) (fun J =>
  LoopV [(1, .int .i64), (2, .int .i64), (3, .int .i64), (8, .bool), (9, .bool)] (fun K => K x1 x2 x3 true true w) (fun N => fun (x1_2 : Int) (x2_2 : Int) (x3_2 : Int) (b8 : Bool) (b9 : Bool) (w2 : World) =>
  Join [(1, .int .i64), (2, .int .i64), (3, .int .i64), (8, .bool), (9, .bool)] (fun (x1_3 : Int) (x2_3 : Int) (x3_3 : Int) (b8_2 : Bool) (b9_2 : Bool) (w3 : World) => N x1_3 x2_3 x3_3 b8_2 b9_2 w3) (fun J_2 =>
  cond (decide ((IntKind.wrap .i64 (x2_2 - x1_2)) ≤ (12 : Int))) (
  Calls Try.prog 105 [(.slice s0.a s0.n s0.c), (.int .i64 x1_2), (.int .i64 x2_2)].toArray w2 (fun e w4 => e = .returned (.tuple [].toArray) ∧
  R (.tuple [].toArray) w4)) (
  cond (x3_2 == (0 : Int)) (
  Calls Try.prog 106 [(.slice s0.a s0.n s0.c), (.int .i64 x1_2), (.int .i64 x2_2)].toArray w2 (fun e_2 w5 => e_2 = .returned (.tuple [].toArray) ∧
  R (.tuple [].toArray) w5)) (
  Join [(3, .int .i64)] (fun (x3_4 : Int) (w6 : World) => Calls Try.prog 108 [(.slice s0.a s0.n s0.c), (.int .i64 x1_2), (.int .i64 x2_2)].toArray w6 (fun e_3 w7 => ∃ x46_0 : Int, ∃ x46_1 : Int, e_3 = .returned (.tuple [(.int .i64 x46_0), (.int .i64 x46_1)].toArray) ∧
  Join [(11, .int .i64), (12, .int .i64)] (fun (x11 : Int) (x12 : Int) (w8 : World) => Join [(68, .bool)] (fun (b68 : Bool) (w9 : World) => Join [] (fun (w10 : World) => Join [(87, .bool)] (fun (b87 : Bool) (w11 : World) => cond b87 (
  Calls Try.prog 112 [(.slice s0.a s0.n s0.c), (.int .i64 x1_2), (.int .i64 x2_2), (.int .i64 x11)].toArray w11 (fun e_4 w12 => ∃ x92 : Int, e_4 = .returned (.int .i64 x92) ∧
  J_2 x92 x2_2 x3_4 b8 b9 w12)) (
  Calls Try.prog 113 [(.slice s0.a s0.n s0.c), (.int .i64 x1_2), (.int .i64 x2_2), (.int .i64 x11)].toArray w11 (fun e_5 w13 => ∃ x99_0 : Int, ∃ b99_1 : Bool, e_5 = .returned (.tuple [(.int .i64 x99_0), (.bool b99_1)].toArray) ∧
  (8 : Int) ≠ 0 ∧ Join [(1, .int .i64), (2, .int .i64), (8, .bool)] (fun (x1_4 : Int) (x2_4 : Int) (b8_3 : Bool) (w14 : World) => J_2 x1_4 x2_4 x3_4 b8_3 b99_1 w14) (fun J_3 =>
  cond (decide ((IntKind.wrap .i64 (x99_0 - x1_2)) < (IntKind.wrap .i64 (x2_2 - x99_0)))) (
  Calls Try.prog 91 [(.slice s0.a s0.n s0.c), (.int .i64 x1_2), (.int .i64 x99_0), (.int .i64 x3_4)].toArray w13 (fun e_6 w15 => e_6 = .returned (.tuple [].toArray) ∧
  J_3 (IntKind.wrap .i64 (x99_0 + (1 : Int))) x2_2 (decide ((IntKind.wrap .i64 (x99_0 - x1_2)) ≥ (IntKind.wrap .i64 (Int.tdiv (IntKind.wrap .i64 (x2_2 - x1_2)) (8 : Int))))) w15)) (
  Calls Try.prog 91 [(.slice s0.a s0.n s0.c), (.int .i64 (IntKind.wrap .i64 (x99_0 + (1 : Int)))), (.int .i64 x2_2), (.int .i64 x3_4)].toArray w13 (fun e_7 w16 => e_7 = .returned (.tuple [].toArray) ∧
  J_3 x1_2 x99_0 (decide ((IntKind.wrap .i64 (x2_2 - x99_0)) ≥ (IntKind.wrap .i64 (Int.tdiv (IntKind.wrap .i64 (x2_2 - x1_2)) (8 : Int))))) w16)))))) (fun J_4 =>
  Let w10.drew fun w17 =>
  cond (decide (x1_2 > (0 : Int))) (∃ p79 : Pt, s0.a = some ⟨p79.b, p79.o, none⟩ ∧ 0 ≤ (IntKind.wrap .i64 (x1_2 - (1 : Int))) ∧ (IntKind.wrap .i64 (x1_2 - (1 : Int))) < ((s0.n : Nat) : Int) ∧ ∃ x80 : Int, World.cell? w17 ⟨p79.b, (p79.o + Int.toNat (IntKind.wrap .i64 (x1_2 - (1 : Int))) * 1), none⟩ = some (.int .i64 x80) ∧ ∃ p83 : Pt, s0.a = some ⟨p83.b, p83.o, none⟩ ∧ 0 ≤ x11 ∧ x11 < ((s0.n : Nat) : Int) ∧ ∃ x84 : Int, World.cell? w17 ⟨p83.b, (p83.o + Int.toNat x11 * 1), none⟩ = some (.int .i64 x84) ∧ Calls Try.prog 111 [(.int .i64 x80), (.int .i64 x84)].toArray w17 (fun e_8 w18 => ∃ b85 : Bool, e_8 = .returned (.bool b85) ∧
  J_4 (!b85) w18)) (J_4 false w17))) (fun J_5 =>
  cond b68 (
  Calls Try.prog 110 [(.slice s0.a s0.n s0.c), (.int .i64 x1_2), (.int .i64 x2_2)].toArray w9 (fun e_9 w19 => ∃ b72 : Bool, e_9 = .returned (.bool b72) ∧
  cond b72 (
  R (.tuple [].toArray) w19) (
  J_5 w19))) (
  J_5 w9))) (fun J_6 =>
  cond b8 (cond b9 (J_6 (x12 == (1 : Int)) w8) (J_6 false w8)) (J_6 false w8))) (fun J_7 =>
  cond (x46_1 == (2 : Int)) (
  Calls Try.prog 109 [(.slice s0.a s0.n s0.c), (.int .i64 x1_2), (.int .i64 x2_2)].toArray w7 (fun e_10 w20 => e_10 = .returned (.tuple [].toArray) ∧
  J_7 (IntKind.wrap .i64 ((IntKind.wrap .i64 (x2_2 - (1 : Int))) - (IntKind.wrap .i64 (x46_0 - x1_2)))) (1 : Int) w20)) (
  J_7 x46_0 x46_1 w7)))) (fun J_8 =>
  cond (!b8) (
  Calls Try.prog 107 [(.slice s0.a s0.n s0.c), (.int .i64 x1_2), (.int .i64 x2_2)].toArray w2 (fun e_11 w21 => e_11 = .returned (.tuple [].toArray) ∧
  J_8 (IntKind.wrap .i64 (x3_2 - (1 : Int))) w21)) (
  J_8 x3_2 w2)))))))
theorem eq91 (s0 : Sl) (x1 : Int) (x2 : Int) (x3 : Int) (R : Value → World → Prop) (w : World) : funV Try.prog Try.f91 A91 [(.slice s0.a s0.n s0.c), (.int .i64 x1), (.int .i64 x2), (.int .i64 x3)] R w = S91 s0 x1 x2 x3 R w := by kernel_rfl
theorem call91 (s0 : Sl) (x1 : Int) (x2 : Int) (x3 : Int) {R : Value → World → Prop} {w : World} (h : S91 s0 x1 x2 x3 R w) : Calls Try.prog 91 [(.slice s0.a s0.n s0.c), (.int .i64 x1), (.int .i64 x2), (.int .i64 x3)].toArray w fun e w' => ∃ v, e = .returned v ∧ R v w' :=
  funV_calls mixed Try.func91 (an := A91) (by rw [eq91]; exact h)

/-- F105: slices.insertionSortOrdered[int] -/
def A105 : An := (.sq .lf (.bk [] (.lp [(6, .int .i64)] (.sq (.sq .lf (.cd .lf .lf)) (.sq (.bk [] (.sq .lf (.bk [] (.lp [(7, .int .i64)] (.sq (.sq (.dr [0, 1, 2, 3, 4, 5, 6, 7, 8, 9, 10, 11, 12, 13, 14] [] false (some [(30, .bool)])) (.cd .lf .lf)) (.sq (.bk [] (.dr [0, 1, 2, 3, 4, 5, 6, 7, 8, 9, 10, 11, 12, 13, 14, 15, 16, 17] [] false none)) .lf)))))) .lf)))))
def S105 (s0 : Sl) (x1 : Int) (x2 : Int) (R : Value → World → Prop) (w : World) : Prop :=
  Join [] (fun (w1 : World) => R (.tuple [].toArray) w1) (fun J =>
  LoopV [(6, .int .i64)] (fun K => K (IntKind.wrap .i64 (x1 + (1 : Int))) w) (fun N => fun (x6 : Int) (w2 : World) =>
  cond (decide (x6 < x2)) (
  Join [] (fun (w3 : World) => N (IntKind.wrap .i64 (x6 + (1 : Int))) w3) (fun J_2 =>
  Join [] (fun (w4 : World) => J_2 w4) (fun J_3 =>
  LoopV [(7, .int .i64)] (fun K => K x6 w2) (fun N_2 => fun (x7 : Int) (w5 : World) =>
  Join [(30, .bool)] (fun (b30 : Bool) (w6 : World) => cond b30 (
  Join [] (fun (w7 : World) => N_2 (IntKind.wrap .i64 (x7 - (1 : Int))) w7) (fun J_4 =>
  Let w6.drew fun w8 =>
  ∃ p41 : Pt, s0.a = some ⟨p41.b, p41.o, none⟩ ∧ 0 ≤ (IntKind.wrap .i64 (x7 - (1 : Int))) ∧ (IntKind.wrap .i64 (x7 - (1 : Int))) < ((s0.n : Nat) : Int) ∧ ∃ x42 : Int, World.cell? w8 ⟨p41.b, (p41.o + Int.toNat (IntKind.wrap .i64 (x7 - (1 : Int))) * 1), none⟩ = some (.int .i64 x42) ∧ ∃ p45 : Pt, s0.a = some ⟨p45.b, p45.o, none⟩ ∧ 0 ≤ x7 ∧ x7 < ((s0.n : Nat) : Int) ∧ ∃ x46 : Int, World.cell? w8 ⟨p45.b, (p45.o + Int.toNat x7 * 1), none⟩ = some (.int .i64 x46) ∧ ∃ p47 : Pt, s0.a = some ⟨p47.b, p47.o, none⟩ ∧ 0 ≤ x7 ∧ x7 < ((s0.n : Nat) : Int) ∧ StoreOk w8 p47.b (p47.o + Int.toNat x7 * 1) [(.int .i64 x42)] 1 ∧ Let (put w8 p47.b (p47.o + Int.toNat x7 * 1) [(.int .i64 x42)]) fun w9 => 
  ∃ p48 : Pt, s0.a = some ⟨p48.b, p48.o, none⟩ ∧ 0 ≤ (IntKind.wrap .i64 (x7 - (1 : Int))) ∧ (IntKind.wrap .i64 (x7 - (1 : Int))) < ((s0.n : Nat) : Int) ∧ StoreOk w9 p48.b (p48.o + Int.toNat (IntKind.wrap .i64 (x7 - (1 : Int))) * 1) [(.int .i64 x46)] 1 ∧ Let (put w9 p48.b (p48.o + Int.toNat (IntKind.wrap .i64 (x7 - (1 : Int))) * 1) [(.int .i64 x46)]) fun w10 => 
  J_4 w10)) (
  J_3 w6)) (fun J_5 =>
  Let w5.drew fun w11 =>
  cond (decide (x7 > x1)) (∃ p22 : Pt, s0.a = some ⟨p22.b, p22.o, none⟩ ∧ 0 ≤ x7 ∧ x7 < ((s0.n : Nat) : Int) ∧ ∃ x23 : Int, World.cell? w11 ⟨p22.b, (p22.o + Int.toNat x7 * 1), none⟩ = some (.int .i64 x23) ∧ ∃ p27 : Pt, s0.a = some ⟨p27.b, p27.o, none⟩ ∧ 0 ≤ (IntKind.wrap .i64 (x7 - (1 : Int))) ∧ (IntKind.wrap .i64 (x7 - (1 : Int))) < ((s0.n : Nat) : Int) ∧ ∃ x28 : Int, World.cell? w11 ⟨p27.b, (p27.o + Int.toNat (IntKind.wrap .i64 (x7 - (1 : Int))) * 1), none⟩ = some (.int .i64 x28) ∧ Calls Try.prog 111 [(.int .i64 x23), (.int .i64 x28)].toArray w11 (fun e w12 => ∃ b29 : Bool, e = .returned (.bool b29) ∧
  J_5 b29 w12)) (J_5 false w11)))))) (
  J w2)))
theorem eq105 (s0 : Sl) (x1 : Int) (x2 : Int) (R : Value → World → Prop) (w : World) : funV Try.prog Try.f105 A105 [(.slice s0.a s0.n s0.c), (.int .i64 x1), (.int .i64 x2)] R w = S105 s0 x1 x2 R w := by kernel_rfl
theorem call105 (s0 : Sl) (x1 : Int) (x2 : Int) {R : Value → World → Prop} {w : World} (h : S105 s0 x1 x2 R w) : Calls Try.prog 105 [(.slice s0.a s0.n s0.c), (.int .i64 x1), (.int .i64 x2)].toArray w fun e w' => ∃ v, e = .returned v ∧ R v w' :=
  funV_calls mixed Try.func105 (an := A105) (by rw [eq105]; exact h)

/-- F111: cmp.Less[int] -/
def A111 : An := (.sq .lf (.sq (.rj [] [(4, .bool)]) .lf))
def S111 (x0 : Int) (x1 : Int) (R : Value → World → Prop) (w : World) : Prop :=
  Join [(4, .bool)] (fun (b4 : Bool) (w1 : World) => R (.bool b4) w1) (fun J =>
  Calls Try.prog 83 [(.int .i64 x0)].toArray w (fun e w2 => ∃ b6 : Bool, e = .returned (.bool b6) ∧
  cond b6 (Calls Try.prog 83 [(.int .i64 x1)].toArray w2 (fun e_2 w3 => ∃ b9 : Bool, e_2 = .returned (.bool b9) ∧
  cond (!b9) (J true w3) (J (decide (x0 < x1)) w3))) (J (decide (x0 < x1)) w2)))
theorem eq111 (x0 : Int) (x1 : Int) (R : Value → World → Prop) (w : World) : funV Try.prog Try.f111 A111 [(.int .i64 x0), (.int .i64 x1)] R w = S111 x0 x1 R w := by kernel_rfl
theorem call111 (x0 : Int) (x1 : Int) {R : Value → World → Prop} {w : World} (h : S111 x0 x1 R w) : Calls Try.prog 111 [(.int .i64 x0), (.int .i64 x1)].toArray w fun e w' => ∃ v, e = .returned v ∧ R v w' :=
  funV_calls mixed Try.func111 (an := A111) (by rw [eq111]; exact h)

/-- F83: cmp.isNaN[int] -/
def A83 : An := (.sq .lf (.sq .lf .lf))
def S83 (x0 : Int) (R : Value → World → Prop) (w : World) : Prop :=
  R (.bool (x0 != x0)) w
theorem eq83 (x0 : Int) (R : Value → World → Prop) (w : World) : funV Try.prog Try.f83 A83 [(.int .i64 x0)] R w = S83 x0 R w := by kernel_rfl
theorem call83 (x0 : Int) {R : Value → World → Prop} {w : World} (h : S83 x0 R w) : Calls Try.prog 83 [(.int .i64 x0)].toArray w fun e w' => ∃ v, e = .returned v ∧ R v w' :=
  funV_calls mixed Try.func83 (an := A83) (by rw [eq83]; exact h)

end Go.Proofs.Ytnbkihkdfhjlmaa
/-
  Memory: frames, blocks, slices that read as a list. For every program.
-/
namespace Go.VC
open Go
variable {P : Program}

/-- The blocks beside M are as they were. -/
structure Fr (M : Nat → Prop) (w w' : World) : Prop where
  os : w'.os = w.os
  tape : w'.tape = w.tape
  output : w'.output = w.output
  size : w.heap.size ≤ w'.heap.size
  blk : ∀ b, b < w.heap.size → ¬ M b → w'.heap[b]? = w.heap[b]?
/-- Nothing that was there has changed. -/
abbrev Ext (w w' : World) : Prop := Fr (fun _ => False) w w'
theorem Fr.refl (M : Nat → Prop) (w : World) : Fr M w w := ⟨rfl, rfl, rfl, Nat.le_refl _, fun _ _ _ => rfl⟩
theorem Fr.trans {M M' : Nat → Prop} {a b c : World} (h : Fr M a b) (k : Fr M' b c) (hm : ∀ i, i < a.heap.size → M' i → M i) : Fr M a c :=
  ⟨k.os.trans h.os, k.tape.trans h.tape, k.output.trans h.output, Nat.le_trans h.size k.size, fun i hi hn =>
    (k.blk i (Nat.lt_of_lt_of_le hi h.size) (fun h' => hn (hm i hi h'))).trans (h.blk i hi hn)⟩
theorem Fr.mono {M M' : Nat → Prop} {a b : World} (h : Fr M a b) (hm : ∀ i, i < a.heap.size → M i → M' i) : Fr M' a b :=
  ⟨h.os, h.tape, h.output, h.size, fun i hi hn => h.blk i hi fun h' => hn (hm i hi h')⟩
theorem Ext.trans {a b c : World} (h : Ext a b) (k : Ext b c) : Ext a c := Fr.trans h k fun _ _ h => h
theorem Fr.ext {M : Nat → Prop} {a b c : World} (h : Fr M a b) (k : Ext b c) : Fr M a c := h.trans k fun _ _ h => h.elim
theorem Ext.fr {M : Nat → Prop} {a b c : World} (h : Ext a b) (k : Fr M b c) : Fr M a c := (Fr.mono (M' := M) h fun _ _ h => h.elim).trans k fun _ _ h => h
/-- What is written is newer than the first world. -/
theorem Ext.newer {M : Nat → Prop} {a b c : World} (h : Ext a b) (k : Fr M b c) (hm : ∀ i, M i → a.heap.size ≤ i) : Ext a c := Fr.trans h k fun i hi h' => absurd (hm i h') (by omega)
theorem Ext.of {M : Nat → Prop} {a b : World} (h : Fr M a b) (hm : ∀ i, M i → a.heap.size ≤ i) : Ext a b := h.mono fun i hi h' => absurd (hm i h') (by omega)
theorem Ext.alloc (w : World) (o : Obj) : Ext w (w.alloc o) := ⟨rfl, rfl, rfl, by simp, fun b hb _ => by show (w.heap.push o)[b]? = _; rw [Array.getElem?_push, if_neg (by omega)]⟩
theorem Ext.drew (w : World) : Ext w w.drew := ⟨rfl, rfl, rfl, Nat.le_refl _, fun _ _ _ => rfl⟩
theorem Fr.grown {w w' : World} {row : Option Nat} (h : w.grownBy w' row) : Fr (fun b => some b = row) w w' := ⟨h.os, h.tape, h.output, h.size, fun b hb hn => h.block b hb hn⟩
theorem Fr.setCell (w : World) (a : Addr) (v : Value) : Fr (fun b => b = a.block) w (w.setCell a v) :=
  ⟨rfl, rfl, rfl, by simp, fun b _ hn => heap_setCell_other w a b v hn⟩
theorem Fr.put : ∀ (vs : List Value) (w : World) (b o : Nat), Fr (fun i => i = b) w (put w b o vs)
  | [], w, _, _ => Fr.refl _ w
  | v :: r, w, b, o => (Fr.setCell w ⟨b, o, none⟩ v).trans (Fr.put r _ b (o + 1)) fun _ _ h => h
theorem Ext.below {w w' : World} (h : Ext w w') : RowKit.Below w.heap.size w w' := ⟨h.os, h.tape, h.output, h.size, fun k hk => h.blk k hk fun h => h⟩
theorem Ext.of_below {w w' : World} (h : RowKit.Below w.heap.size w w') : Ext w w' := ⟨h.os, h.tape, h.output, h.size, fun k hk _ => h.block k hk⟩

/-! ### reading -/
theorem Fr.cell {M : Nat → Prop} {w w' : World} (h : Fr M w w') {a : Addr} {v : Value} (hn : ¬ M a.block) (hc : w.cell? a = some v) : w'.cell? a = some v := by
  have := h.blk a.block (block_lt_of_cell hc) hn
  rw [World.cell?_of_block this]; exact hc
theorem Fr.rd {M : Nat → Prop} {w w' : World} (h : Fr M w w') {b : Nat} (hn : ¬ M b) : ∀ {vs : List Value} {o : Nat}, rd w b o vs → rd w' b o vs
  | [], _, _ => trivial
  | _ :: _, _, ⟨h1, h2⟩ => ⟨h.cell (a := ⟨b, _, none⟩) hn h1, h.rd hn h2⟩
theorem Ext.rd {w w' : World} (h : Ext w w') {b o : Nat} {vs : List Value} (k : rd w b o vs) : rd w' b o vs := Fr.rd h (fun h => h) k
theorem Ext.cell {w w' : World} (h : Ext w w') {a : Addr} {v : Value} (k : w.cell? a = some v) : w'.cell? a = some v := Fr.cell h (fun h => h) k
theorem rd_append {w : World} {b : Nat} : ∀ {xs ys : List Value} {o : Nat}, rd w b o (xs ++ ys) ↔ rd w b o xs ∧ rd w b (o + xs.length) ys
  | [], ys, o => by simp [VC.rd]
  | x :: xs, ys, o => by
    simp only [List.cons_append, VC.rd, rd_append (xs := xs), List.length_cons]
    rw [show o + 1 + xs.length = o + (xs.length + 1) from by omega, and_assoc]
theorem rd_lt {w : World} {b o : Nat} {vs : List Value} (h : rd w b o vs) (hv : vs ≠ []) : b < w.heap.size := by
  cases vs with
  | nil => exact absurd rfl hv
  | cons v r => exact block_lt_of_cell h.1
theorem rd_get {w : World} {b : Nat} : ∀ {vs : List Value} {o i : Nat} {v : Value}, rd w b o vs → vs[i]? = some v → w.cell? ⟨b, o + i, none⟩ = some v
  | [], _, _, _, _, h => by cases h
  | x :: r, o, 0, v, h, e => by cases e; exact h.1
  | x :: r, o, i + 1, v, h, e => by
    have := rd_get (o := o + 1) h.2 (by simpa using e)
    rw [show o + 1 + i = o + (i + 1) from by omega] at this
    exact this

/-! ### blocks known whole -/
def Blk (w : World) (b : Nat) (l : List Value) (T : TypeId) : Prop := w.heap[b]? = some (.cells l.toArray T (0, 0))
theorem Blk.lt {w : World} {b : Nat} {l : List Value} {T : TypeId} (h : Blk w b l T) : b < w.heap.size := (Array.getElem?_eq_some_iff.1 h).1
theorem Blk.cell {w : World} {b : Nat} {l : List Value} {T : TypeId} (h : Blk w b l T) (i : Nat) : w.cell? ⟨b, i, none⟩ = l[i]? := by
  rw [cell_of_row w b i l.toArray T (0, 0) h]; simp
theorem Blk.rd_drop {w : World} {b : Nat} {l : List Value} {T : TypeId} (h : Blk w b l T) : ∀ {vs : List Value} {o : Nat}, (∀ i v, vs[i]? = some v → l[o + i]? = some v) → rd w b o vs
  | [], _, _ => trivial
  | v :: r, o, hv => ⟨by rw [h.cell]; simpa using hv 0 v rfl, h.rd_drop fun i u hu => by
      have := hv (i + 1) u (by simpa using hu)
      rw [show o + 1 + i = o + (i + 1) from by omega]; exact this⟩
theorem Blk.rd {w : World} {b : Nat} {l : List Value} {T : TypeId} (h : Blk w b l T) : VC.rd w b 0 l := h.rd_drop fun i v hv => by simpa using hv
theorem Blk.fr {M : Nat → Prop} {w w' : World} {b : Nat} {l : List Value} {T : TypeId} (h : Blk w b l T) (k : Fr M w w') (hn : ¬ M b) : Blk w' b l T := (k.blk b h.lt hn).trans h
theorem Blk.ext {w w' : World} {b : Nat} {l : List Value} {T : TypeId} (h : Blk w b l T) (k : Ext w w') : Blk w' b l T := h.fr k fun h => h
theorem Blk.alloc (w : World) (l : List Value) (T : TypeId) : Blk (w.alloc (.cells l.toArray T)) w.heap.size l T := heap_alloc_new w _
theorem Blk.set {w : World} {b : Nat} {l : List Value} {T : TypeId} (h : Blk w b l T) (i : Nat) (v : Value) : Blk (w.setCell ⟨b, i, none⟩ v) b (l.set i v) T := by
  have := heap_setCell_same w b i l.toArray T v h
  unfold Blk; rw [this]; simp
theorem Blk.put {b : Nat} {T : TypeId} : ∀ {vs : List Value} {w : World} {l : List Value} {o : Nat}, Blk w b l T → Blk (put w b o vs) b (setR l o vs) T
  | [], _, _, _, h => h
  | v :: r, _, _, o, h => Blk.put (vs := r) (h.set o v)
theorem Blk.mayWr {w : World} {b : Nat} {l : List Value} {T : TypeId} (h : Blk w b l T) : ∀ {n o : Nat}, o + n ≤ l.length → mayWr w b o n
  | 0, _, _ => trivial
  | n + 1, o, hl => ⟨⟨l[o]'(by omega), by rw [h.cell]; simp⟩, frozen_of_row w b o l.toArray T h, h.mayWr (by omega)⟩
theorem Blk.storeOk {w : World} {b : Nat} {l : List Value} {T : TypeId} (h : Blk w b l T) {o n : Nat} {vs : List Value} (hv : vs.length = n) (h1 : ∀ v ∈ vs, v.oneCell' = true) (hl : o + n ≤ l.length) : StoreOk w b o vs n := ⟨hv, h1, h.mayWr hl⟩
theorem setR_all : ∀ {vs l pre : List Value}, vs.length = l.length → setR (pre ++ l) pre.length vs = pre ++ vs
  | [], [], pre, _ => by simp [setR]
  | v :: r, x :: l, pre, h => by
    have h' : r.length = l.length := by simpa using h
    have := setR_all (vs := r) (l := l) (pre := pre ++ [v]) h'
    simp only [List.append_assoc, List.singleton_append, List.length_append, List.length_singleton] at this
    rw [setR]
    rw [show (pre ++ x :: l).set pre.length v = pre ++ v :: l from by simp]
    exact this
/-- A new variable that is laid and at once stored into. -/
theorem new_var (w : World) (T : TypeId) {vs : List Value} {z : Array Value} (hz : z.size = vs.length) (h1 : ∀ v ∈ vs, v.oneCell' = true) :
    StoreOk (w.alloc (.cells z T)) w.heap.size 0 vs vs.length ∧ Blk (put (w.alloc (.cells z T)) w.heap.size 0 vs) w.heap.size vs T ∧ Ext w (put (w.alloc (.cells z T)) w.heap.size 0 vs) := by
  have hb : Blk (w.alloc (.cells z T)) w.heap.size z.toList T := by simpa using Blk.alloc w z.toList T
  refine ⟨hb.storeOk rfl h1 (by simp [hz]), ?_, (Ext.alloc w _).newer (Fr.put _ _ _ _) fun i hi => by omega⟩
  have := hb.put (o := 0) (vs := vs)
  rw [show setR z.toList 0 vs = vs from by simpa using setR_all (vs := vs) (l := z.toList) (pre := []) (by simp [hz])] at this
  exact this

/-! ### slices that read as a list -/
/-- The slice reads as l; each element takes k cells. -/
structure Sli {α : Type} (k : Nat) (enc : α → List Value) (w : World) (s : Sl) (l : List α) : Prop where
  len : s.n = l.length
  cap : s.n ≤ s.c
  mem : l ≠ [] → ∃ p : Pt, s.a = some ⟨p.b, p.o, none⟩ ∧ rd w p.b p.o (l.flatMap enc)
theorem flatMap_at {α : Type} {k : Nat} {enc : α → List Value} (hk : ∀ x, (enc x).length = k) {l : List α} {i : Nat} {x : α} (hx : l[i]? = some x) : ∃ pre post, l.flatMap enc = pre ++ enc x ++ post ∧ pre.length = i * k := by
  induction l generalizing i with
  | nil => cases hx
  | cons y r ih =>
    cases i with
    | zero => cases hx; exact ⟨[], r.flatMap enc, by simp, by simp⟩
    | succ i =>
      obtain ⟨pre, post, h1, h2⟩ := ih (by simpa using hx)
      exact ⟨enc y ++ pre, post, by simp [h1], by simp [h2, hk, Nat.add_mul]; omega⟩
theorem Sli.get {α : Type} {k : Nat} {enc : α → List Value} {w : World} {s : Sl} {l : List α} (hk : ∀ x, (enc x).length = k) (h : Sli k enc w s l) {i : Nat} {x : α} (hx : l[i]? = some x) :
    ∃ p : Pt, s.a = some ⟨p.b, p.o, none⟩ ∧ rd w p.b (p.o + i * k) (enc x) := by
  obtain ⟨p, hp, hr⟩ := h.mem (by rintro rfl; cases hx)
  obtain ⟨pre, post, h1, h2⟩ := flatMap_at hk hx
  rw [h1, rd_append, rd_append, h2] at hr
  exact ⟨p, hp, hr.1.2⟩
theorem Sli.fr {α : Type} {k : Nat} {enc : α → List Value} {M : Nat → Prop} {w w' : World} {s : Sl} {l : List α} (h : Sli k enc w s l) (f : Fr M w w') (hn : ∀ a, s.a = some a → ¬ M a.block) : Sli k enc w' s l :=
  ⟨h.len, h.cap, fun hl => by obtain ⟨p, hp, hr⟩ := h.mem hl; exact ⟨p, hp, Fr.rd f (hn _ hp) hr⟩⟩
theorem Sli.ext {α : Type} {k : Nat} {enc : α → List Value} {w w' : World} {s : Sl} {l : List α} (h : Sli k enc w s l) (f : Ext w w') : Sli k enc w' s l := h.fr f fun _ _ h => h
theorem Sli.nil {α : Type} {k : Nat} {enc : α → List Value} {w : World} (a : Option Addr) (c : Nat) : Sli (α := α) k enc w ⟨a, 0, c⟩ [] := ⟨rfl, Nat.zero_le _, fun h => absurd rfl h⟩
theorem Sli.lt {α : Type} {k : Nat} {enc : α → List Value} {w : World} {s : Sl} {l : List α} (h : Sli k enc w s l) (hk : ∀ x, enc x ≠ []) {a : Addr} (hl : l ≠ []) (ha : s.a = some a) : a.block < w.heap.size := by
  obtain ⟨p, hp, hr⟩ := h.mem hl
  rw [hp] at ha; cases ha
  exact rd_lt hr (by cases l with | nil => exact absurd rfl hl | cons x r => simp [hk x])

def eI (n : Int) : List Value := [.int .i64 n]
/-- A slice of ints. -/
abbrev Ints (w : World) (s : Sl) (l : List Int) : Prop := Sli 1 eI w s l
theorem eI_len (n : Int) : (eI n).length = 1 := rfl
theorem Ints.get {w : World} {s : Sl} {l : List Int} (h : Ints w s l) {i : Nat} {x : Int} (hx : l[i]? = some x) : ∃ p : Pt, s.a = some ⟨p.b, p.o, none⟩ ∧ w.cell? ⟨p.b, p.o + i * 1, none⟩ = some (.int .i64 x) := by
  obtain ⟨p, hp, hr⟩ := Sli.get eI_len h hx
  exact ⟨p, hp, hr.1⟩

/-! ### a slice that the call owns: kit's 'ownsRow' -/
structure Elem (P : Program) (t e size bytes : Nat) : Prop where
  under : P.underlying t = some (.slice e)
  info : ∃ i z, P.info? e = some i ∧ i.zero = some z ∧ i.size = size ∧ i.bytes = bytes ∧ z.cells.size = size
  pos : 0 < size
theorem Elem.of {t e size bytes : Nat} (h1 : P.underlying t = some (.slice e)) (h2 : (P.info? e).map (fun i => (i.zero.map (·.cells.size), i.size, i.bytes)) = some (some size, size, bytes)) (h3 : 0 < size) : Elem P t e size bytes := by
  refine ⟨h1, ?_, h3⟩
  cases hi : P.info? e with
  | none => rw [hi] at h2; cases h2
  | some i =>
    rw [hi] at h2
    simp only [Option.map_some, Option.some.injEq, Prod.mk.injEq] at h2
    obtain ⟨hz, hs, hb⟩ := h2
    cases hz' : i.zero with
    | none => rw [hz'] at hz; cases hz
    | some z => rw [hz'] at hz; exact ⟨i, z, rfl, hz', hs, hb, by simpa using hz⟩
/-- The slice is nil, or the head of a row of its own, from block B on. -/
def Own {α : Type} (T size : Nat) (enc : α → List Value) (B : Nat) (w : World) (s : Sl) (l : List α) : Prop :=
  s.n = l.length ∧ w.ownsRow B T size (.slice s.a s.n s.c) l.length (l.flatMap enc)
theorem Own.nil {α : Type} (T size : Nat) (enc : α → List Value) (B : Nat) (w : World) : Own T size enc B w ⟨none, 0, 0⟩ [] := ⟨rfl, World.ownsRow_nil w B T size⟩
theorem Own.sli {α : Type} {T size : Nat} {enc : α → List Value} {B : Nat} {w : World} {s : Sl} {l : List α} (h : Own T size enc B w s l) : Sli size enc w s l := by
  obtain ⟨hn, hl, h⟩ := h
  rcases h with ⟨h1, h2⟩ | ⟨g, cap, cur, hv, _, hg, hc, _, _, ht⟩
  · have : l = [] := List.eq_nil_of_length_eq_zero h2
    subst this
    simp only [Value.slice.injEq] at h1
    exact ⟨hn, by omega, fun h => absurd rfl h⟩
  · simp only [Value.slice.injEq] at hv
    obtain ⟨h1, h2, h3⟩ := hv
    refine ⟨hn, by rw [h2, h3]; exact hc, fun _ => ⟨⟨g, 0⟩, h1, ?_⟩⟩
    have hb : Blk w g cur.toList T := by unfold Blk; simpa using hg
    refine hb.rd_drop fun i v hv => ?_
    rw [← ht, List.getElem?_take] at hv
    split at hv
    · simpa using hv
    · cases hv
theorem Own.fr {α : Type} {T size : Nat} {enc : α → List Value} {B : Nat} {M : Nat → Prop} {w w' : World} {s : Sl} {l : List α} (h : Own T size enc B w s l) (f : Fr M w w') (hn : ∀ a, s.a = some a → ¬ M a.block) : Own T size enc B w' s l := by
  obtain ⟨h0, hl, h⟩ := h
  refine ⟨h0, hl, ?_⟩
  rcases h with h | ⟨g, cap, cur, hv, hb, hg, r⟩
  · exact .inl h
  · refine .inr ⟨g, cap, cur, hv, hb, ?_, r⟩
    simp only [Value.slice.injEq] at hv
    rw [f.blk g (Array.getElem?_eq_some_iff.1 hg).1 (hn _ hv.1)]; exact hg
theorem Own.ext {α : Type} {T size : Nat} {enc : α → List Value} {B : Nat} {w w' : World} {s : Sl} {l : List α} (h : Own T size enc B w s l) (f : Ext w w') : Own T size enc B w' s l := h.fr f fun _ _ h => h
theorem Own.base {α : Type} {T size : Nat} {enc : α → List Value} {B : Nat} {w : World} {s : Sl} {l : List α} (h : Own T size enc B w s l) {a : Addr} (ha : s.a = some a) : B ≤ a.block ∧ a.block < w.heap.size := by
  exact h.2.lt a.block (by simp [Value.ownBlock, ha])
theorem Own.mono {α : Type} {T size : Nat} {enc : α → List Value} {B B' : Nat} {w : World} {s : Sl} {l : List α} (h : Own T size enc B w s l) (hB : B' ≤ B) : Own T size enc B' w s l := by
  obtain ⟨h0, hl, h⟩ := h
  refine ⟨h0, hl, ?_⟩
  rcases h with h | ⟨g, cap, cur, hv, hb, r⟩
  · exact .inl h
  · exact .inr ⟨g, cap, cur, hv, Nat.le_trans hB hb, r⟩

theorem fill_one {place : Nat → Option (Nat × Nat)} {z : Array Value} {v : Value} {sz : Nat} (hp : place 0 = some (0, sz)) (hs : v.cells.size = sz) (hz : z.size = sz) : Instr.fill place z [(0, v)] = some v.cells := by
  have h := fold_setR' 0 v.cells z
  have e : setR z.toList 0 v.cells.toList = v.cells.toList := by simpa using setR_all (vs := v.cells.toList) (l := z.toList) (pre := []) (by simp [hs, hz])
  rw [Instr.fill, hp]
  simp only [hs, ne_eq, not_true_eq_false, Nat.zero_add]
  rw [if_neg (by simp [hz])]
  simp only [Nat.zero_add] at h
  rw [h, e]
  simp [Instr.fill]
/-- 'append(s, x)': x is laid in a block of its own first. -/
theorem buildOne_run {t e size bytes : Nat} (E : Elem P t e size bytes) {v : Value} {vs : List Value} (hv : cellsV v = vs) (hs : vs.length = size) (hbig : size ≤ 16777216) (w : World) :
    (Instr.buildSlice t 1 [(0, v)].toArray).run P w = .ok (.slice (some ⟨w.heap.size, 0, none⟩) 1 1) (w.alloc (.cells vs.toArray e)) := by
  obtain ⟨i, z, hi, hz, hsz, _, hzs⟩ := E.info
  have hpos := E.pos
  have hc : v.cells.size = size := by rw [← hs, ← hv, ← cellsV_eq]; simp
  have hz0 : ((Array.range (1 * size)).map (z.cells[· % z.cells.size]!)).size = size := by simp
  have hf : Instr.fill (fun i => some (i * size, size)) ((Array.range (1 * size)).map (z.cells[· % z.cells.size]!)) [(0, v)] = some v.cells := fill_one (by simp) hc hz0
  have hsr : (sizeOf e).run P w = .ok size w := by rw [size_run hi, hsz]
  have hzr : (zeroValue e).run P w = .ok z w := by simp [zeroValue, typeInfo, hi, hz]
  have hv' : v.cells = vs.toArray := by apply Array.ext'; rw [cellsV_eq, hv]
  simp only [Instr.buildSlice, Sem.run_bind, under_run E.under, Result.andThen_ok, hsr]
  rw [if_neg (by omega)]
  rw [if_neg (by omega)]
  simp only [Sem.run_bind, hzr, Result.andThen_ok, Sem.run_pure, hf, newRow, run_newObj, hv']
  rfl
theorem buildNone_run {t e size bytes : Nat} (E : Elem P t e size bytes) (w : World) :
    (Instr.buildSlice t 0 ([] : List (Nat × Value)).toArray).run P w = .ok (.slice (some ⟨w.heap.size, 0, none⟩) 0 0) (w.alloc (.cells #[] e)) := by
  obtain ⟨i, z, hi, hz, hsz, _, hzs⟩ := E.info
  have hsr : (sizeOf e).run P w = .ok size w := by rw [size_run hi, hsz]
  have e0 : (Array.range 0 : Array Nat) = #[] := rfl
  simp [Instr.buildSlice, under_run E.under, hsr, Instr.fill, newRow, e0]
/-- 'append' of cells that lie somewhere, to a slice that the call owns. -/
theorem appendOwn {α : Type} {t e size bytes : Nat} (E : Elem P t e size bytes) {enc : α → List Value} {B : Nat} {w : World} {s : Sl} {l : List α} (h : Own e size enc B w s l) {s2 : Sl} {l2 : List α} {b o : Nat}
    (h2n : s2.n = l2.length) (h2a : s2.a = some ⟨b, o, none⟩) (h2 : rd w b o (l2.flatMap enc)) (hk : ∀ x, (enc x).length = size) (h1 : ∀ x, ∀ v ∈ enc x, v.oneCell' = true) (hlen : (l.length + l2.length) * bytes ≤ 140737488355328) (hlen' : l.length + l2.length ≤ maxLen) (hB : B ≤ w.heap.size) (ty : Nat) :
    ∃ (s' : Sl) (w' : World), (Builtin.append_ #[t, t] ty #[.slice s.a s.n s.c, .slice s2.a s2.n s2.c]).run P w = .ok (.slice s'.a s'.n s'.c) w' ∧ Own e size enc B w' s' (l ++ l2) ∧ Fr (fun b => ∃ a, s.a = some a ∧ a.block = b) w w' := by
  obtain ⟨i, z, hi, hz, hsz, hby, hzs⟩ := E.info
  obtain ⟨hn, hown⟩ := h
  have hfl : ∀ l : List α, (l.flatMap enc).length = l.length * size := fun l => by
    induction l with
    | nil => simp
    | cons x r ih => simp [List.flatMap_cons, hk, ih, Nat.add_mul]; omega
  obtain ⟨v', w', hr, ho, hg, _⟩ := run_append_own (P := P) w B t ty e i z size bytes E.under hi hz hsz hby hzs E.pos (.slice s.a s.n s.c) l.length (l.flatMap enc) hown ⟨b, o, none⟩ l2.length s2.c (l2.flatMap enc) (hfl l2)
    (fun j u hu => by rw [addr_add_plain]; exact rd_get h2 hu) (fun u hu => by obtain ⟨x, _, hx⟩ := List.mem_flatMap.1 hu; exact h1 x u hx) hlen' hlen hB
  have hshape : ∃ s' : Sl, v' = .slice s'.a s'.n s'.c ∧ s'.n = l.length + l2.length := by
    rcases ho.2 with ⟨h1, h2⟩ | ⟨g, cap, cur, h1, _⟩
    · exact ⟨⟨none, 0, 0⟩, h1, h2.symm⟩
    · exact ⟨⟨some ⟨g, 0, none⟩, _, cap⟩, h1, rfl⟩
  obtain ⟨s', rfl, hs'⟩ := hshape
  refine ⟨s', w', by rw [h2a, h2n]; exact hr, ⟨by simp [hs'], by simpa using ho⟩, ?_⟩
  refine (Fr.grown hg).mono fun b hb h => ?_
  cases ha : s.a with
  | none => rw [ha] at h; simp [Value.ownBlock] at h
  | some a => rw [ha] at h; simp [Value.ownBlock] at h; exact ⟨a, rfl, h.symm⟩
/-- 'append(s, x)' as it is printed: the one-element slice, then the append. -/
theorem appendOne {α : Type} {t e size bytes : Nat} (E : Elem P t e size bytes) {enc : α → List Value} {B : Nat} {w : World} {s : Sl} {l : List α} (h : Own e size enc B w s l) {x : α} {v : Value} (hv : cellsV v = enc x) (hk : ∀ x, (enc x).length = size) (h1 : ∀ x, ∀ v ∈ enc x, v.oneCell' = true)
    (hbig : size ≤ 16777216) (hlen : (l.length + 1) * bytes ≤ 140737488355328) (hlen' : l.length + 1 ≤ maxLen) (hB : B ≤ w.heap.size) (ty : Nat) :
    ∃ (s1 : Sl) (w1 : World), (Instr.buildSlice t 1 [(0, v)].toArray).run P w = .ok (.slice s1.a s1.n s1.c) w1 ∧
      ∃ (s' : Sl) (w' : World), (Builtin.append_ #[t, t] ty #[.slice s.a s.n s.c, .slice s1.a s1.n s1.c]).run P w1 = .ok (.slice s'.a s'.n s'.c) w' ∧ Own e size enc B w' s' (l ++ [x]) ∧ Fr (fun b => ∃ a, s.a = some a ∧ a.block = b) w w' := by
  have hb := buildOne_run E hv (hk x) hbig w
  have hx := Ext.alloc w (.cells (enc x).toArray e)
  obtain ⟨s', w', hr, ho, hf⟩ := appendOwn E (h.ext hx) (s2 := ⟨some ⟨w.heap.size, 0, none⟩, 1, 1⟩) (l2 := [x]) rfl rfl (by simpa using (Blk.alloc w (enc x) e).rd) hk h1 (by simpa using hlen) (by simpa using hlen') (by simp; omega) ty
  exact ⟨⟨some ⟨w.heap.size, 0, none⟩, 1, 1⟩, _, hb, s', w', hr, ho, Ext.fr hx hf⟩

/-! ### numbers -/
theorem wrap64 {x : Int} (h1 : -9223372036854775808 ≤ x) (h2 : x < 9223372036854775808) : IntKind.wrap .i64 x = x := by
  rw [IntKind.wrap_i64]; omega
end Go.VC
/-
  Contracts: what the first functions of the history layer and of its reference compute.
-/
namespace Go.Proofs.Ytnbkihkdfhjlmaa
open Go Go.VC

/-- An operation of a history. -/
structure Ev where
  t : Int
  k : Int
  i : Int
deriving DecidableEq
def eO (o : Ev) : List Value := [.int .i64 o.t, .int .i64 o.k, .int .i64 o.i]
abbrev Hs (w : World) (s : Sl) (h : List Ev) : Prop := Sli 3 eO w s h
theorem eO_len (o : Ev) : (eO o).length = 3 := rfl
theorem eO_one (o : Ev) : ∀ v ∈ eO o, v.oneCell' = true := by intro v hv; simp [eO] at hv; rcases hv with rfl | rfl | rfl <;> rfl
theorem eI_one (n : Int) : ∀ v ∈ eI n, v.oneCell' = true := by intro v hv; simp [eI] at hv; subst hv; rfl
theorem E29 : Elem Try.prog 29 38 3 24 := Elem.of (by kernel_rfl) (by kernel_rfl) (by decide)
theorem zc37 : (zc Try.prog 37).size = 3 := by kernel_rfl
theorem zc38 : (zc Try.prog 38).size = 3 := by kernel_rfl

/-- An element of a history, at a place. -/
theorem Hs_at {w : World} {s : Sl} {h : List Ev} (hs : Hs w s h) {i : Nat} (hi : i < h.length) :
    ∃ p : Pt, s.a = some ⟨p.b, p.o, none⟩ ∧ rd w p.b (p.o + i * 3) [.int .i64 h[i].t, .int .i64 h[i].k, .int .i64 h[i].i] :=
  Sli.get eO_len hs (List.getElem?_eq_getElem hi)

theorem of_ok {w : World} {s : Sl} {h : List Ev} (hs : Hs w s h) (hl : h.length ≤ 9223372036854775807) :
    Calls Try.prog 12 [.slice s.a s.n s.c].toArray w fun e w' => ∃ s' : Sl, e = .returned (.slice s'.a s'.n s'.c) ∧ Own 38 3 eO w.heap.size w' s' (h.take 43) ∧ Ext w w' := by
  refine (call12 s (R := fun v w' => ∃ s' : Sl, v = .slice s'.a s'.n s'.c ∧ Own 38 3 eO w.heap.size w' s' (h.take 43) ∧ Ext w w') ?_).mono fun e w' ⟨v, he, s', hv, h1, h2⟩ => ⟨s', by rw [he, hv], h1, h2⟩
  refine Join.dir (LoopV.intro (fun n (s' : Sl) (x : Int) w' => ∃ i : Nat, x = i ∧ n = h.length - i ∧ i ≤ h.length ∧ i ≤ 43 ∧ Own 38 3 eO w.heap.size w' s' (h.take i) ∧ Ext w w') h.length ⟨0, rfl, by omega, by omega, by omega, Own.nil .., Fr.refl _ w⟩ ?_)
  rintro n s' x w2 ⟨i, rfl, rfl, hi, hi2, hown, hx⟩
  refine cond_intro (fun hlt => ?_) (fun hge => ?_)
  · have hlt : i < h.length := by have := hs.len; simp at hlt; omega
    obtain ⟨p, hp, hr⟩ := Hs_at (hs.ext hx) hlt
    refine Join.dir ⟨p, hp, by omega, by have := hs.len; omega, _, _, _, by simpa using hr, ?_⟩
    refine Let.intro fun w4 e4 => ?_
    obtain ⟨h1, h2, h3⟩ := new_var w2 37 (z := zc Try.prog 37) (vs := [.int .i64 h[i].t, .int .i64 h[i].k, .int .i64 h[i].i]) zc37 (eO_one h[i])
    rw [← e4] at h1 h2 h3
    refine ⟨h1, Let.intro fun w5 e5 => ?_⟩
    rw [← e5] at h2 h3
    refine cond_intro (fun hgt => ?_) (fun hle => ?_)
    · have : i = 43 := by simp at hgt; omega
      subst this
      exact ⟨s', rfl, hown.ext h3, hx.trans h3⟩
    · have hle : i < 43 := by simp at hle; omega
      refine ⟨_, h2.cell 0, _, h2.cell 1, _, h2.cell 2, ?_⟩
      obtain ⟨s1, w6, e6, s2, w7, e7, ho, hf⟩ := appendOne E29 (hown.ext h3) (x := h[i]) (v := .agg [.int .i64 h[i].t, .int .i64 h[i].k, .int .i64 h[i].i].toArray) rfl eO_len eO_one (by omega) (by simp; omega) (by simp [maxLen]; omega) (by have := hx.size; have := h3.size; omega) 29
      refine ⟨s1, w6, e6, s2, w7, e7, h.length - (i + 1), by omega, i + 1, ?_, by omega, by omega, by omega, ?_, ?_⟩
      · rw [wrap64 (by omega) (by omega)]; rfl
      · rw [List.take_succ_eq_append_getElem hlt]; exact ho
      · exact (hx.trans h3).newer hf fun b ⟨a, ha, hb⟩ => by have := (hown.base ha).1; omega
  · have hge : i = h.length := by have := hs.len; simp at hge; omega
    subst hge
    exact ⟨s', rfl, by rw [List.take_of_length_le (by omega)]; rw [List.take_of_length_le (by omega)] at hown; exact hown, hx⟩
end Go.Proofs.Ytnbkihkdfhjlmaa
/-
  Maps: what the operations on a map do, over a list of its entries. For every program.
-/
namespace Go.VC
open Go
variable {P : Program}

section
variable {κ β : Type} {ke : κ → Value} {ve : β → Value}
/-- The keys of a type: how they are compared. -/
structure KeyOk (P : Program) (kt : TypeId) (ke : κ → Value) : Prop where
  inj : ∀ a b, ke a = ke b → a = b
  chk : ∀ e k w, (Instr.checkKey e 10000 kt (ke k)).run P w = .ok () w
  find : ∀ k (es : List MapEntry) w, (∀ e ∈ es, ∃ k', e.key = ke k') → (Instr.findKey kt (ke k) es).run P w = .ok none w ∧ (∀ e ∈ es, e.key ≠ ke k) ∨
    ∃ i e, es[i]? = some e ∧ e.key = ke k ∧ (Instr.findKey kt (ke k) es).run P w = .ok (some (i, e.val)) w
  bits : ∀ k, Instr.sameBits 10000 (ke k) (ke k) = true

abbrev Ent (κ β : Type) := κ × β × Nat
def ent (ke : κ → Value) (ve : β → Value) (x : Ent κ β) : MapEntry := ⟨ke x.1, ve x.2.1, x.2.2⟩
/-- The element at a key. -/
def mget [DecidableEq κ] (l : List (Ent κ β)) (k : κ) : Option β := (l.find? fun x => x.1 = k).map (·.2.1)
def mput [DecidableEq κ] (l : List (Ent κ β)) (c : Nat) (k : κ) (v : β) : List (Ent κ β) := if (mget l k).isSome then l.map fun x => if x.1 = k then (k, v, x.2.2) else x else l ++ [(k, v, c)]
/-- Block b is a map with these entries. -/
structure Mp (ke : κ → Value) (ve : β → Value) (w : World) (b : Nat) (l : List (Ent κ β)) (c : Nat) : Prop where
  heap : w.heap[b]? = some (.map (l.map (ent ke ve)).toArray c)
  keys : (l.map (·.1)).Nodup
  stamps : (l.map (·.2.2)).Nodup
  lt : ∀ x ∈ l, x.2.2 < c
theorem Mp.fr {M : Nat → Prop} {w w' : World} {b c : Nat} {l : List (Ent κ β)} (h : Mp ke ve w b l c) (f : Fr M w w') (hn : ¬ M b) : Mp ke ve w' b l c :=
  ⟨(f.blk b (Array.getElem?_eq_some_iff.1 h.heap).1 hn).trans h.heap, h.keys, h.stamps, h.lt⟩
theorem Mp.ext {w w' : World} {b c : Nat} {l : List (Ent κ β)} (h : Mp ke ve w b l c) (f : Ext w w') : Mp ke ve w' b l c := h.fr f fun h => h
theorem Mp.bound {w : World} {b c : Nat} {l : List (Ent κ β)} (h : Mp ke ve w b l c) : b < w.heap.size := (Array.getElem?_eq_some_iff.1 h.heap).1
theorem Mp.made (w : World) : Mp ke ve (w.alloc (.map #[] 0)) w.heap.size ([] : List (Ent κ β)) 0 :=
  ⟨by show (w.heap.push _)[w.heap.size]? = _; simp, by simp, by simp, by simp⟩

theorem nodup_at {α : Type} {l : List α} (h : l.Nodup) {i j : Nat} {x : α} (h1 : l[i]? = some x) (h2 : l[j]? = some x) : i = j := by
  have hp := List.pairwise_iff_getElem.1 h
  obtain ⟨hi, ei⟩ := List.getElem?_eq_some_iff.1 h1
  obtain ⟨hj, ej⟩ := List.getElem?_eq_some_iff.1 h2
  rcases Nat.lt_trichotomy i j with h' | h' | h'
  · exact absurd (ei.trans ej.symm) (hp i j hi hj h')
  · exact h'
  · exact absurd (ej.trans ei.symm) (hp j i hj hi h')
theorem find_born : ∀ {l : List (Ent κ β)}, (l.map (·.2.2)).Nodup → ∀ {x : Ent κ β}, x ∈ l → (l.map (ent ke ve)).find? (fun e => e.born == x.2.2) = some (ent ke ve x)
  | y :: r, hst, x, hxl => by
    simp only [List.map_cons, List.nodup_cons] at hst
    rw [List.map_cons, List.find?_cons]
    by_cases e : y.2.2 = x.2.2
    · rcases List.mem_cons.1 hxl with rfl | hx
      · simp [ent]
      · exact absurd (List.mem_map.2 ⟨x, hx, e.symm⟩) hst.1
    · have e' : ((ent ke ve y).born == x.2.2) = false := by simpa [ent] using e
      rw [e']
      rcases List.mem_cons.1 hxl with rfl | hx
      · exact absurd rfl e
      · exact find_born hst.2 hx
theorem mget_some [DecidableEq κ] {l : List (Ent κ β)} (hn : (l.map (·.1)).Nodup) {x : Ent κ β} (hx : x ∈ l) : mget l x.1 = some x.2.1 := by
  induction l with
  | nil => cases hx
  | cons y r ih =>
    simp only [List.map_cons, List.nodup_cons] at hn
    unfold mget
    rw [List.find?_cons]
    by_cases e : y.1 = x.1
    · rw [show decide (y.1 = x.1) = true from by simpa using e]
      rcases List.mem_cons.1 hx with rfl | hx
      · rfl
      · exact absurd (List.mem_map.2 ⟨x, hx, e.symm⟩) hn.1
    · rw [show decide (y.1 = x.1) = false from by simpa using e]
      rcases List.mem_cons.1 hx with rfl | hx
      · exact absurd rfl e
      · exact ih hn.2 hx
theorem mget_mem [DecidableEq κ] {l : List (Ent κ β)} {k : κ} {v : β} (h : mget l k = some v) : ∃ s, (k, v, s) ∈ l := by
  unfold mget at h
  cases hf : l.find? fun x => x.1 = k with
  | none => rw [hf] at h; cases h
  | some x =>
    rw [hf] at h
    cases h
    have h1 := List.find?_some hf
    have h2 := List.mem_of_find?_eq_some hf
    simp only [decide_eq_true_eq] at h1
    subst h1
    exact ⟨x.2.2, h2⟩
theorem mget_none [DecidableEq κ] {l : List (Ent κ β)} {k : κ} (h : ∀ x ∈ l, x.1 ≠ k) : mget l k = none := by
  unfold mget
  rw [List.find?_eq_none.2 (by intro x hx; simpa using h x hx)]; rfl
theorem mget_none' [DecidableEq κ] {l : List (Ent κ β)} {k : κ} (h : mget l k = none) : ∀ x ∈ l, x.1 ≠ k := by
  intro x hx e
  unfold mget at h
  cases hf : l.find? fun x => x.1 = k with
  | none => have := List.find?_eq_none.1 hf x hx; simp [e] at this
  | some y => rw [hf] at h; cases h

theorem look_run [DecidableEq κ] {t kt vt : TypeId} (K : KeyOk P kt ke) (ht : P.underlying t = some (.map kt vt)) {w : World} {b c : Nat} {l : List (Ent κ β)} (h : Mp ke ve w b l c) {z : Value} (hz : ∀ w, (zeroValue vt).run P w = .ok z w) (k : κ) :
    (Instr.lookup t (.map (some b)) (ke k) false).run P w = .ok (((mget l k).map ve).getD z) w ∧
    (Instr.lookup t (.map (some b)) (ke k) true).run P w = .ok (.tuple #[((mget l k).map ve).getD z, .bool (mget l k).isSome]) w := by
  have hg : (getObj b).run P w = .ok (.map (l.map (ent ke ve)).toArray c) w := by simp [getObj, Sem.run, h.heap]
  have hk : ∀ e ∈ l.map (ent ke ve), ∃ k', e.key = ke k' := fun e he => by obtain ⟨x, _, rfl⟩ := List.mem_map.1 he; exact ⟨x.1, rfl⟩
  rcases K.find k (l.map (ent ke ve)) w hk with ⟨hf, hno⟩ | ⟨i, e, hi, he, hf⟩
  · have hm : mget l k = none := mget_none fun x hx e => hno _ (List.mem_map.2 ⟨x, hx, rfl⟩) (by show ke x.1 = ke k; rw [e])
    constructor <;> simp [Instr.lookup, under_run ht, hg, K.chk, hf, hz, hm]
  · have hi' : ∃ x, l[i]? = some x ∧ e = ent ke ve x := by
      rw [List.getElem?_map] at hi
      cases hx : l[i]? with
      | none => rw [hx] at hi; cases hi
      | some x => rw [hx] at hi; cases hi; exact ⟨x, rfl, rfl⟩
    obtain ⟨x, hx, rfl⟩ := hi'
    obtain rfl : x.1 = k := K.inj _ _ he
    have hm := mget_some h.keys (List.mem_of_getElem? hx)
    constructor <;> simp [Instr.lookup, under_run ht, hg, K.chk, hf, hm, ent]
theorem look_nil {t kt vt : TypeId} (K : KeyOk P kt ke) (ht : P.underlying t = some (.map kt vt)) {w : World} {z : Value} (hz : ∀ w, (zeroValue vt).run P w = .ok z w) (k : κ) :
    (Instr.lookup t (.map none) (ke k) false).run P w = .ok z w := by
  have hf : (Instr.findKey kt (ke k) []).run P w = .ok none w := by
    rcases K.find k [] w (by simp) with ⟨hf, _⟩ | ⟨i, e, hi, _⟩
    · exact hf
    · simp at hi
  simp [Instr.lookup, under_run ht, K.chk, hf, hz]

theorem mget_mput [DecidableEq κ] (l : List (Ent κ β)) (c : Nat) (k : κ) (v : β) (k' : κ) : mget (mput l c k v) k' = if k' = k then some v else mget l k' := by
  unfold mput
  split
  · rename_i hs
    have hmap : ∀ l : List (Ent κ β), mget (l.map fun x => if x.1 = k then (k, v, x.2.2) else x) k' = if k' = k then (mget l k).map (fun _ => v) else mget l k' := by
      intro l
      induction l with
      | nil => simp [mget]
      | cons x r ih =>
        unfold mget at ih ⊢
        rw [List.map_cons, List.find?_cons, List.find?_cons, List.find?_cons]
        by_cases hx : x.1 = k
        · by_cases hk : k' = k
          · subst hk; simp [hx]
          · have h1 : ¬ k = k' := fun e => hk e.symm
            have h2 : ¬ x.1 = k' := fun e => h1 (hx ▸ e)
            simp only [hx, if_true, h1, decide_false, hk, if_false] at ih ⊢
            exact ih
        · by_cases hk : k' = k
          · subst hk
            simp only [hx, if_false, decide_false, if_true] at ih ⊢
            exact ih
          · simp only [hx, if_false, hk, decide_false] at ih ⊢
            by_cases h2 : x.1 = k'
            · simp [h2]
            · simp only [h2, decide_false]; exact ih
    rw [hmap]
    split
    · obtain ⟨y, hy⟩ := Option.isSome_iff_exists.1 hs
      rw [hy]; rfl
    · rfl
  · rename_i hs
    have hn : mget l k = none := by cases h : mget l k with | none => rfl | some _ => rw [h] at hs; exact absurd rfl hs
    have hall := mget_none' hn
    unfold mget at hn ⊢
    rw [List.find?_append]
    by_cases hk : k' = k
    · subst hk
      rw [List.find?_eq_none.2 (by intro x hx; simpa using hall x hx)]
      simp
    · have h1 : ¬ k = k' := fun e => hk e.symm
      simp only [hk, if_false]
      cases hf : l.find? fun x => x.1 = k' with
      | none => simp [h1]
      | some x => simp

theorem put_run [DecidableEq κ] {t kt vt : TypeId} (K : KeyOk P kt ke) (ht : P.underlying t = some (.map kt vt)) {w : World} {b c : Nat} {l : List (Ent κ β)} (h : Mp ke ve w b l c) (k : κ) (v : β) :
    ∃ w' c', (Instr.mapUpdate t (.map (some b)) (ke k) (ve v)).run P w = .ok () w' ∧ Mp ke ve w' b (mput l c k v) c' ∧ Fr (fun i => i = b) w w' := by
  have hg : (getObj b).run P w = .ok (.map (l.map (ent ke ve)).toArray c) w := by simp [getObj, Sem.run, h.heap]
  have hb := h.bound
  have hset : ∀ es c', (setObj b (.map es c')).run P w = .ok () { w with heap := w.heap.setIfInBounds b (.map es c') } := fun es c' => by simp [setObj, Sem.run, h.heap]
  have hfr : ∀ es c', Fr (fun i => i = b) w { w with heap := w.heap.setIfInBounds b (.map es c') } := fun es c' =>
    ⟨rfl, rfl, rfl, by simp, fun i _ hi => by show (w.heap.setIfInBounds b _)[i]? = _; rw [Array.getElem?_setIfInBounds_ne (fun e => hi e.symm)]⟩
  have hk : ∀ e ∈ l.map (ent ke ve), ∃ k', e.key = ke k' := fun e he => by obtain ⟨x, _, rfl⟩ := List.mem_map.1 he; exact ⟨x.1, rfl⟩
  rcases K.find k (l.map (ent ke ve)) w hk with ⟨hf, hno⟩ | ⟨i, e, hi, he, hf⟩
  · have hm : mget l k = none := mget_none fun x hx e => hno _ (List.mem_map.2 ⟨x, hx, rfl⟩) (by show ke x.1 = ke k; rw [e])
    have hput : mput l c k v = l ++ [(k, v, c)] := by simp [mput, hm]
    refine ⟨_, c + 1, ?_, ?_, hfr ((l.map (ent ke ve)).toArray.push ⟨ke k, ve v, c⟩) (c + 1)⟩
    · simp only [Instr.mapUpdate, Sem.run_bind, under_run ht, Result.andThen_ok, hg, K.chk, hf, hset]
    · rw [hput]
      refine ⟨by simp [hb, ent], ?_, ?_, ?_⟩
      · rw [List.map_append, List.nodup_append]
        exact ⟨h.keys, by simp, by intro a ha b' hb' e; simp at hb'; subst hb'; obtain ⟨x, hx, rfl⟩ := List.mem_map.1 ha; exact mget_none' hm x hx e⟩
      · rw [List.map_append, List.nodup_append]
        exact ⟨h.stamps, by simp, by intro a ha b' hb' e; simp at hb'; subst hb'; obtain ⟨x, hx, rfl⟩ := List.mem_map.1 ha; have := h.lt x hx; omega⟩
      · intro x hx
        rcases List.mem_append.1 hx with hx | hx
        · have := h.lt x hx; omega
        · simp at hx; subst hx; simp
  · have hi' : ∃ x, l[i]? = some x ∧ e = ent ke ve x := by
      rw [List.getElem?_map] at hi
      cases hx : l[i]? with
      | none => rw [hx] at hi; cases hi
      | some x => rw [hx] at hi; cases hi; exact ⟨x, rfl, rfl⟩
    obtain ⟨x, hx, rfl⟩ := hi'
    obtain rfl : x.1 = k := K.inj _ _ he
    have hm := mget_some h.keys (List.mem_of_getElem? hx)
    have hput : mput l c x.1 v = l.map fun y => if y.1 = x.1 then (x.1, v, y.2.2) else y := by simp [mput, hm]
    have hstay : ∀ old : Value, old = ke x.1 → (Instr.keyThatStays old (ke x.1)).run P w = .ok (ke x.1) w := fun old ho => by
      subst ho; simp [Instr.keyThatStays, K.bits]
    have hil : i < l.length := by
      rcases Nat.lt_or_ge i l.length with h | h
      · exact h
      · rw [List.getElem?_eq_none h] at hx; cases hx
    have hxi : l[i] = x := by rw [List.getElem?_eq_getElem hil] at hx; exact Option.some.inj hx
    have hsame : ((l.map (ent ke ve)).toArray.modify i fun e => { e with key := ke x.1, val := ve v }) = ((l.map fun y => if y.1 = x.1 then (x.1, v, y.2.2) else y).map (ent ke ve)).toArray := by
      apply Array.ext'
      apply List.ext_getElem
      · simp
      · intro j h1 h2
        have hj : j < l.length := by simpa using h2
        simp only [Array.getElem_toList, Array.getElem_modify, List.getElem_map, List.getElem_toArray]
        by_cases e : i = j
        · subst e; simp [hxi, ent]
        · rw [if_neg e]
          have hne : l[j].1 ≠ x.1 := by
            intro e'
            have e1 : (l.map (·.1))[i]? = some x.1 := by simp [hx]
            have e2 : (l.map (·.1))[j]? = some x.1 := by simp [hj, e']
            exact e (nodup_at h.keys e1 e2)
          rw [if_neg hne]
    refine ⟨_, c, ?_, ?_, hfr ((l.map fun y => if y.1 = x.1 then (x.1, v, y.2.2) else y).map (ent ke ve)).toArray c⟩
    · have ho : (((l.map (ent ke ve)).toArray[i]?).map (·.key)).getD (ke x.1) = ke x.1 := by simp [hx, ent]
      simp only [Instr.mapUpdate, Sem.run_bind, under_run ht, Result.andThen_ok, hg, K.chk, hf, hstay _ ho, hset, hsame]
    · rw [hput]
      have hk' : ((l.map fun y => if y.1 = x.1 then (x.1, v, y.2.2) else y).map (·.1)) = l.map (·.1) := by
        rw [List.map_map]; apply List.map_congr_left; intro y _; simp only [Function.comp]; split <;> simp_all
      have hs' : ((l.map fun y => if y.1 = x.1 then (x.1, v, y.2.2) else y).map (·.2.2)) = l.map (·.2.2) := by
        rw [List.map_map]; apply List.map_congr_left; intro y _; simp only [Function.comp]; split <;> simp_all
      refine ⟨by simp [hb], by rw [hk']; exact h.keys, by rw [hs']; exact h.stamps, ?_⟩
      intro y hy
      obtain ⟨z, hz, rfl⟩ := List.mem_map.1 hy
      have := h.lt z hz
      split <;> exact this
theorem len_run {t kt vt T : TypeId} (ht : P.underlying t = some (.map kt vt)) {w : World} {b c : Nat} {l : List (Ent κ β)} (h : Mp ke ve w b l c) :
    (Builtin.len_ #[t] T #[.map (some b)]).run P w = .ok (.int .i64 l.length) w := by
  have hg : (getObj b).run P w = .ok (.map (l.map (ent ke ve)).toArray c) w := by simp [getObj, Sem.run, h.heap]
  simp [Builtin.len_, under_run ht, hg, goInt]

/-! ### ranging over a map that stays as it is -/
structure Itr (w : World) (r b c : Nat) (vis : List (Ent κ β)) : Prop where
  heap : w.heap[r]? = some (.mapIter (some b) c (vis.map (·.2.2)).toArray c)
theorem Itr.fr {M : Nat → Prop} {w w' : World} {r b c : Nat} {vis : List (Ent κ β)} (h : Itr w r b c vis) (f : Fr M w w') (hn : ¬ M r) : Itr w' r b c vis :=
  ⟨(f.blk r (Array.getElem?_eq_some_iff.1 h.heap).1 hn).trans h.heap⟩
theorem Itr.bound {w : World} {r b c : Nat} {vis : List (Ent κ β)} (h : Itr w r b c vis) : r < w.heap.size := (Array.getElem?_eq_some_iff.1 h.heap).1
theorem range_run {t kt vt : TypeId} (ht : P.underlying t = some (.map kt vt)) {w : World} {b c : Nat} {l : List (Ent κ β)} (h : Mp ke ve w b l c) :
    ∃ w', (Instr.range t (.map (some b))).run P w = .ok (.pointer (some ⟨w.heap.size, 0, none⟩)) w' ∧ Ext w w' ∧ Itr (κ := κ) (β := β) w' w.heap.size b c [] ∧ Mp ke ve w' b l c := by
  have hg : (getObj b).run P w = .ok (.map (l.map (ent ke ve)).toArray c) w := by simp [getObj, Sem.run, h.heap]
  have hx := Ext.alloc w (.mapIter (some b) c #[] c)
  refine ⟨w.alloc (.mapIter (some b) c #[] c), ?_, hx, ⟨by show (w.heap.push _)[w.heap.size]? = _; simp⟩, h.ext hx⟩
  simp [Instr.range, under_run ht, hg]
theorem next_run {w : World} {r b c T : Nat} {l vis : List (Ent κ β)} (h : Mp ke ve w b l c) (hi : Itr w r b c vis) (hv : ∀ x ∈ vis, x ∈ l) :
    ∃ (d : Bool) (kv : List Value) (w' : World), (Instr.next (.pointer (some ⟨r, 0, none⟩)) false T).run P w = .ok (.tuple (Value.bool d :: kv).toArray) w' ∧
      ((d = false ∧ (∀ x ∈ l, x ∈ vis) ∧ Ext w w') ∨
       (d = true ∧ ∃ x ∈ l, x ∉ vis ∧ Itr w' r b c (vis ++ [x]) ∧ Mp ke ve w' b l c ∧ Fr (fun i => i = r) w w' ∧ (Instr.entry (.pointer (some ⟨r, 0, none⟩))).run P w' = .ok (.tuple #[ke x.1, ve x.2.1]) w')) := by
  have hgr : (getObj r).run P w = .ok (.mapIter (some b) c (vis.map (·.2.2)).toArray c) w := by simp [getObj, Sem.run, hi.heap]
  have hg : ∀ w : World, w.heap[b]? = some (.map (l.map (ent ke ve)).toArray c) → (getObj b).run P w = .ok (.map (l.map (ent ke ve)).toArray c) w := fun w h => by simp [getObj, Sem.run, h]
  have hbr : b ≠ r := fun e => by have := h.heap; rw [e, hi.heap] at this; cases this
  -- an entry has been seen just if it is among those visited
  have hseen : ∀ x ∈ l, (vis.map (·.2.2)).toArray.contains x.2.2 = true ↔ x ∈ vis := fun x hx => by
    constructor
    · intro hc
      have : x.2.2 ∈ vis.map (·.2.2) := by simpa using hc
      obtain ⟨y, hy, he⟩ := List.mem_map.1 this
      have hyl := hv y hy
      obtain ⟨i, hi1, hi2⟩ := List.getElem_of_mem hx
      obtain ⟨j, hj1, hj2⟩ := List.getElem_of_mem hyl
      have e1 : (l.map (·.2.2))[i]? = some x.2.2 := by simp [hi1, hi2]
      have e2 : (l.map (·.2.2))[j]? = some x.2.2 := by simp [hj1, hj2, he]
      have hij := nodup_at h.stamps e1 e2
      subst hij; rw [hi2] at hj2; rw [hj2]; exact hy
    · intro hx; simp only [List.contains_toArray]; exact List.contains_iff_mem.2 (List.mem_map.2 ⟨x, hx, rfl⟩)
  generalize hleft : ((l.map (ent ke ve)).toArray.filter fun e => !(vis.map (·.2.2)).toArray.contains e.born) = left
  have hleft' : left.toList = (l.filter fun x => !(vis.map (·.2.2)).toArray.contains x.2.2).map (ent ke ve) := by
    rw [← hleft]
    simp only [List.filter_toArray, List.filter_map]
    rfl
  have hborn : ∀ e ∈ left.toList, e.born < c := fun e he => by
    rw [hleft'] at he
    obtain ⟨x, hx, rfl⟩ := List.mem_map.1 he
    exact h.lt x (List.mem_filter.1 hx).1
  have hold : left.filter (·.born < c) = left := by
    apply Array.ext'
    rw [Array.toList_filter]
    exact List.filter_eq_self.2 fun e he => by simpa using hborn e he
  have hnew : left.filter (·.born ≥ c) = #[] := by
    apply Array.ext'
    rw [Array.toList_filter]
    exact List.filter_eq_nil_iff.2 fun e he => by have := hborn e he; simp; omega
  have hnot : (!(vis.map (·.2.2)).toArray.isEmpty && !(l.map (ent ke ve)).toArray.isEmpty && (l.map (ent ke ve)).toArray.all (·.born ≥ c)) = false := by
    cases l with
    | nil => simp
    | cons x r =>
      have := h.lt x (by simp)
      simp only [List.map_cons, Bool.and_eq_false_iff]
      right
      rw [List.all_toArray]
      simp [ent]
      omega
  by_cases hempty : left.toList = []
  · have he : left = #[] := by apply Array.ext'; simpa using hempty
    refine ⟨false, [], w, ?_, .inl ⟨rfl, ?_, Fr.refl _ _⟩⟩
    · simp only [Instr.next, Sem.run_bind, hgr, Result.andThen_ok, hg w h.heap, hnot, Bool.false_eq_true, if_false, hleft, hold, hnew]
      subst he
      simp [Question.forced]
    · intro x hx
      rw [hleft'] at hempty
      have := List.map_eq_nil_iff.1 hempty
      rw [List.filter_eq_nil_iff] at this
      have h1 := this x hx
      exact (hseen x hx).1 (by simpa using h1)
  · have hne : left.isEmpty = false := by cases hl : left.toList with | nil => exact absurd hl hempty | cons a b => rw [Array.isEmpty]; simp; intro e; subst e; simp at hl
    have hsz : 0 < left.size := by
      rcases Nat.eq_zero_or_pos left.size with h0 | h0
      · exact absurd (by simpa using Array.eq_empty_of_size_eq_zero h0) (fun e : left = #[] => hempty (by rw [e]))
      · exact h0
    -- the choice
    have hchoose : ∃ i w1, i < left.size ∧ (choose (.mapNext left.size)).run P w = .ok i w1 ∧ Ext w w1 := by
      rw [run_choose]
      split
      · exact ⟨0, w, hsz, rfl, Fr.refl _ _⟩
      · exact ⟨_, _, Nat.mod_lt _ hsz, rfl, ⟨rfl, rfl, rfl, Nat.le_refl _, fun _ _ _ => rfl⟩⟩
    obtain ⟨i, w1, hilt, hch, hx1⟩ := hchoose
    have hmem : left[i] ∈ left.toList := by simp
    rw [hleft'] at hmem
    obtain ⟨x, hxm, hxe⟩ := List.mem_map.1 hmem
    obtain ⟨hxl, hxn⟩ := List.mem_filter.1 hxm
    have hxv : x ∉ vis := fun hx => by rw [(hseen x hxl).2 hx] at hxn; simp at hxn
    have hgr1 : w1.heap[r]? = some (.mapIter (some b) c (vis.map (·.2.2)).toArray c) := (hi.fr hx1 (fun h => h)).heap
    have hm1 := h.ext hx1
    have hset : (setObj r (.mapIter (some b) c ((vis.map (·.2.2)).toArray.push x.2.2) c)).run P w1 = .ok () { w1 with heap := w1.heap.setIfInBounds r (.mapIter (some b) c ((vis.map (·.2.2)).toArray.push x.2.2) c) } := by simp [setObj, Sem.run, hgr1]
    have hfr : Fr (fun i => i = r) w1 { w1 with heap := w1.heap.setIfInBounds r (.mapIter (some b) c ((vis.map (·.2.2)).toArray.push x.2.2) c) } :=
      ⟨rfl, rfl, rfl, by simp, fun i _ hi => by show (w1.heap.setIfInBounds r _)[i]? = _; rw [Array.getElem?_setIfInBounds_ne (fun e => hi e.symm)]⟩
    have hr1 : r < w1.heap.size := (Array.getElem?_eq_some_iff.1 hgr1).1
    have hm2 := hm1.fr hfr hbr
    have hit2 : Itr { w1 with heap := w1.heap.setIfInBounds r (.mapIter (some b) c ((vis.map (·.2.2)).toArray.push x.2.2) c) } r b c (vis ++ [x]) := ⟨by simp [hr1]⟩
    refine ⟨true, [ke x.1, ve x.2.1], _, ?_, .inr ⟨rfl, x, hxl, hxv, hit2, hm2, Ext.fr hx1 hfr, ?_⟩⟩
    · have hc : (((if left.isEmpty then #[none] else #[]) ++ (left ++ #[]).map some : Array (Option MapEntry)).size) = left.size := by simp [hne]
      have hci : ((if left.isEmpty then #[none] else #[]) ++ (left ++ #[]).map some : Array (Option MapEntry))[i]? = some (some (ent ke ve x)) := by
        simp [hne, hilt, hxe]
      simp only [Instr.next, Sem.run_bind, hgr, Result.andThen_ok, hg w h.heap, hnot, Bool.false_eq_true, if_false, hleft, hold, hnew, hc, hch, hci]
      have hset' := hset
      simp only [List.push_toArray] at hset'
      simp [ent, hset']
    · have hg2 : (getObj r).run P { w1 with heap := w1.heap.setIfInBounds r (.mapIter (some b) c ((vis.map (·.2.2)).toArray.push x.2.2) c) } = .ok (.mapIter (some b) c ((vis.map (·.2.2)).toArray.push x.2.2) c) { w1 with heap := w1.heap.setIfInBounds r (.mapIter (some b) c ((vis.map (·.2.2)).toArray.push x.2.2) c) } := by
        simp [getObj, Sem.run, hr1]
      have hfind : (l.map (ent ke ve)).toArray.find? (·.born == x.2.2) = some (ent ke ve x) := by
        rw [← Array.find?_toList]
        exact find_born h.stamps hxl
      simp only [Instr.entry, Sem.run_bind, hg2, Result.andThen_ok, Array.back?_push, hg _ hm2.heap, bne_self_eq_false, Bool.false_eq_true, if_false, hfind]
      rfl
end
end Go.VC
/-
  Loops that count from 0 on; the first place of an element. For every program.
-/
namespace Go.VC
open Go
variable {P : Program}

abbrev big : Nat := 9223372036854775807
theorem rangeI {t n : Nat} {w0 : World} {J : World → Prop} {B : Int → World → (World → Prop) → Prop} (Inv : Nat → World → Prop) (hn : n ≤ big) (h0 : Inv 0 w0)
    (hs : ∀ i, i < n → ∀ w, Inv i w → ∀ K : World → Prop, (∀ w', Inv (i + 1) w' → K w') → B (i : Int) w K) (he : ∀ w, Inv n w → J w) :
    LoopV [(t, .int .i64)] (fun K => K (0 : Int) w0) (fun N => fun (x : Int) (w : World) => cond (decide (x < (n : Int))) (Join [] (fun (w3 : World) => N (IntKind.wrap .i64 (x + 1)) w3) (fun J2 => B x w J2)) (J w)) := by
  refine LoopV.intro (fun m (x : Int) w => ∃ i : Nat, x = i ∧ m = n - i ∧ i ≤ n ∧ Inv i w) n ⟨0, rfl, by omega, by omega, h0⟩ ?_
  rintro m x w ⟨i, rfl, rfl, hi, hv⟩
  refine cond_intro (fun h => ?_) (fun h => ?_)
  · have hi : i < n := by simpa using h
    refine Join.dir (hs i hi w hv _ fun w' h' => ⟨n - (i + 1), by omega, i + 1, ?_, rfl, by omega, h'⟩)
    rw [wrap64 (by omega) (by have : n ≤ 9223372036854775807 := hn; omega)]; rfl
  · have hi : i = n := by have : ¬ i < n := by simpa using h
                          omega
    subst hi; exact he w hv
theorem rangeSI {t t' n : Nat} {w0 : World} {s0 : Sl} {J : Sl → World → Prop} {B : Sl → Int → World → (Sl → World → Prop) → Prop} (Inv : Nat → Sl → World → Prop) (hn : n ≤ big) (h0 : Inv 0 s0 w0)
    (hs : ∀ i, i < n → ∀ s w, Inv i s w → ∀ K : Sl → World → Prop, (∀ s' w', Inv (i + 1) s' w' → K s' w') → B s (i : Int) w K) (he : ∀ s w, Inv n s w → J s w) :
    LoopV [(t', .slice), (t, .int .i64)] (fun K => K s0 (0 : Int) w0) (fun N => fun (s : Sl) (x : Int) (w : World) => cond (decide (x < (n : Int))) (Join [(t', .slice)] (fun (s' : Sl) (w3 : World) => N s' (IntKind.wrap .i64 (x + 1)) w3) (fun J2 => B s x w J2)) (J s w)) := by
  refine LoopV.intro (fun m (s : Sl) (x : Int) w => ∃ i : Nat, x = i ∧ m = n - i ∧ i ≤ n ∧ Inv i s w) n ⟨0, rfl, by omega, by omega, h0⟩ ?_
  rintro m s x w ⟨i, rfl, rfl, hi, hv⟩
  refine cond_intro (fun h => ?_) (fun h => ?_)
  · have hi : i < n := by simpa using h
    refine Join.dir (hs i hi s w hv _ fun s' w' h' => ⟨n - (i + 1), by omega, i + 1, ?_, rfl, by omega, h'⟩)
    rw [wrap64 (by omega) (by have : n ≤ 9223372036854775807 := hn; omega)]; rfl
  · have hi : i = n := by have : ¬ i < n := by simpa using h
                          omega
    subst hi; exact he s w hv

/-! ### the first place of an element -/
section
variable {α : Type} [DecidableEq α]
def ix (x : α) : List α → Int
  | [] => -1
  | y :: r => if y = x then 0 else if ix x r < 0 then -1 else ix x r + 1
theorem ix_not {x : α} : ∀ {l : List α}, x ∉ l → ix x l = -1
  | [], _ => rfl
  | y :: r, h => by
    simp only [List.mem_cons, not_or] at h
    rw [ix, if_neg (fun e => h.1 e.symm), ix_not h.2]; rfl
theorem ix_at {x : α} : ∀ {l : List α} {i : Nat}, l[i]? = some x → x ∉ l.take i → ix x l = i
  | [], _, h, _ => by cases h
  | y :: r, 0, h, _ => by cases h; simp [ix]
  | y :: r, i + 1, h, hn => by
    simp only [List.take_succ_cons, List.mem_cons, not_or] at hn
    have := ix_at (l := r) (i := i) (by simpa using h) hn.2
    rw [ix, if_neg (fun e => hn.1 e.symm), this, if_neg (by omega)]; rfl
theorem ix_mem {x : α} : ∀ {l : List α}, x ∈ l → ∃ i : Nat, ix x l = i ∧ l[i]? = some x ∧ x ∉ l.take i
  | [], h => by cases h
  | y :: r, h => by
    by_cases e : y = x
    · subst e; exact ⟨0, by simp [ix], rfl, by simp⟩
    · obtain ⟨i, h1, h2, h3⟩ := ix_mem (l := r) (by rcases List.mem_cons.1 h with h | h; exact absurd h.symm e; exact h)
      refine ⟨i + 1, ?_, by simpa using h2, ?_⟩
      · rw [ix, if_neg e, h1, if_neg (by omega)]; rfl
      · simp only [List.take_succ_cons, List.mem_cons, not_or]; exact ⟨fun h => e h.symm, h3⟩
theorem ix_nonneg {x : α} {l : List α} : 0 ≤ ix x l ↔ x ∈ l := by
  constructor
  · intro h
    by_cases hm : x ∈ l
    · exact hm
    · rw [ix_not hm] at h; omega
  · intro h; obtain ⟨i, hi, _⟩ := ix_mem h; omega
end
theorem not_take {α : Type} {x : α} {l : List α} {i : Nat} (h : x ∉ l.take i) {y : α} (hy : l[i]? = some y) (hn : y ≠ x) : x ∉ l.take (i + 1) := by
  rw [List.take_add_one, hy]
  simp only [Option.toList_some, List.mem_append, List.mem_singleton, not_or]
  exact ⟨h, fun e => hn e.symm⟩
/-- An element that a loop loads. -/
theorem Sli.at {α : Type} {k : Nat} {enc : α → List Value} {w : World} {s : Sl} {l : List α} (hk : ∀ x, (enc x).length = k) (h : Sli k enc w s l) {i : Nat} (hi : i < l.length) :
    ∃ p : Pt, s.a = some ⟨p.b, p.o, none⟩ ∧ 0 ≤ (i : Int) ∧ (i : Int) < ((s.n : Nat) : Int) ∧ rd w p.b (p.o + i * k) (enc l[i]) := by
  obtain ⟨p, hp, hr⟩ := Sli.get hk h (List.getElem?_eq_getElem hi)
  exact ⟨p, hp, by omega, by have := h.len; omega, hr⟩
theorem Ints.at {w : World} {s : Sl} {l : List Int} (h : Ints w s l) {i : Nat} (hi : i < l.length) :
    ∃ p : Pt, s.a = some ⟨p.b, p.o, none⟩ ∧ 0 ≤ (i : Int) ∧ (i : Int) < ((s.n : Nat) : Int) ∧ w.cell? ⟨p.b, p.o + Int.toNat (i : Int) * 1, none⟩ = some (.int .i64 l[i]) := by
  obtain ⟨p, hp, h1, h2, hr⟩ := Sli.at eI_len h hi
  exact ⟨p, hp, h1, h2, hr.1⟩
/-- An element that a loop loads into a variable of its own. -/
theorem loadVar {α : Type} {enc : α → List Value} {k : Nat} {w : World} {s : Sl} {l : List α} (hk : ∀ x, (enc x).length = k) (h1 : ∀ x, ∀ v ∈ enc x, v.oneCell' = true) (h : Sli k enc w s l) {i : Nat} (hi : i < l.length) {T : TypeId} {z : Array Value} (hz : z.size = k) {B : Pt → World → World → Prop}
    (hB : ∀ p w4 w5, s.a = some ⟨p.b, p.o, none⟩ → Blk w5 w.heap.size (enc l[i]) T → Ext w w5 → B p w4 w5) :
    ∃ p : Pt, s.a = some ⟨p.b, p.o, none⟩ ∧ 0 ≤ (i : Int) ∧ (i : Int) < ((s.n : Nat) : Int) ∧ rd w p.b (p.o + Int.toNat (i : Int) * k) (enc l[i]) ∧ Let (w.alloc (.cells z T)) fun w4 => StoreOk w4 w.heap.size 0 (enc l[i]) k ∧ Let (put w4 w.heap.size 0 (enc l[i])) fun w5 => B p w4 w5 := by
  obtain ⟨p, hp, h2, h3, hr⟩ := Sli.at hk h hi
  obtain ⟨a, b, c⟩ := new_var w T (z := z) (vs := enc l[i]) (by rw [hz, hk]) (h1 _)
  refine ⟨p, hp, h2, h3, hr, ?_⟩
  rw [hk] at a
  exact ⟨a, hB p _ _ hp b c⟩
end Go.VC
/-
  Keys of maps and '==': ints, arrays of ints, structs of ints. For every program.
-/
namespace Go.VC
open Go
variable {P : Program}

theorem KeyOk.int {kt : TypeId} (h : P.underlying kt = some (.int .i64)) : KeyOk P kt (fun n : Int => Value.int .i64 n) where
  inj := fun a b e => by injection e
  chk := fun em k w => by
    have hall : ∀ n, (Instr.checkKey em (n + 1) kt (Value.int .i64 k)).run P w = .ok () w := fun n => by
      simp only [Instr.checkKey, Sem.run_bind, under_run h, Result.andThen_ok]
      rfl
    exact hall 9999
  bits := fun k => by simp [Instr.sameBits]
  find := by
    intro k es w hes
    have hfind : ∀ (es : List MapEntry) (i : Nat), (∀ e ∈ es, ∃ k' : Int, e.key = .int .i64 k') →
        (Instr.findNow (.int .i64) (.int .i64 k) es i = some none ∧ ∀ e ∈ es, e.key ≠ .int .i64 k) ∨
        ∃ j e, es[j]? = some e ∧ e.key = .int .i64 k ∧ Instr.findNow (.int .i64) (.int .i64 k) es i = some (some (i + j, e.val)) := by
      intro es
      induction es with
      | nil => intro i _; exact .inl ⟨rfl, by simp⟩
      | cons e r ih =>
        intro i hall
        obtain ⟨k', hk'⟩ := hall e (by simp)
        by_cases hkk : k = k'
        · subst hkk
          exact .inr ⟨0, e, rfl, hk', by simp [Instr.findNow, Instr.sameNow, hk']⟩
        · have hb : (k == k') = false := by simpa using hkk
          rcases ih (i + 1) (fun x hx => hall x (by simp [hx])) with ⟨h1, h2⟩ | ⟨j, x, h1, h2, h3⟩
          · refine .inl ⟨by simp only [Instr.findNow, Instr.sameNow, hk', if_true, hb, h1], ?_⟩
            intro x hx
            rcases List.mem_cons.1 hx with rfl | hx
            · rw [hk']; intro e; injection e with _ e; exact hkk e.symm
            · exact h2 x hx
          · refine .inr ⟨j + 1, x, by simpa using h1, h2, ?_⟩
            simp only [Instr.findNow, Instr.sameNow, hk', if_true, hb, h3]
            rw [show i + 1 + j = i + (j + 1) from by omega]
    rcases hfind es 0 hes with ⟨h1, h2⟩ | ⟨j, x, h1, h2, h3⟩
    · exact .inl ⟨by simp [Instr.findKey, under_run h, h1], h2⟩
    · exact .inr ⟨j, x, h1, h2, by simp [Instr.findKey, under_run h, h3]⟩

/-! ### arrays of ints -/
def ints (l : List Int) : Value := .agg (l.map (Value.int .i64)).toArray
structure IntArr (P : Program) (t e n : Nat) : Prop where
  arr : P.underlying t = some (.array n e)
  elem : P.underlying e = some (.int .i64)
  cell : P.cellsOf e = 1
  guard : P.eqGuardType P.depth t = false
theorem IntArr.info {t e n : Nat} (A : IntArr P t e n) : ∃ i, P.info? e = some i := info_of_underlying A.elem
theorem part_int {e : Nat} (he : P.underlying e = some (.int .i64)) {xs : List Int} {i : Nat} (hi : i < xs.length) (w : World) : (part e (xs.map (Value.int .i64)).toArray i).run P w = .ok (.int .i64 xs[i]) w :=
  run_part_plain w (by simp [Program.plainKey, he]) (by simp [hi])
theorem eqItems_ints {t e n : Nat} (A : IntArr P t e n) {xs ys : List Int} (hl : xs.length = ys.length) (d : Nat) (w : World) : ∀ is : List Nat, (∀ i ∈ is, i < xs.length) →
    (Op.eqItems (d + 1) e 1 (xs.map (Value.int .i64)).toArray (ys.map (Value.int .i64)).toArray is).run P w = .ok (is.all fun i => xs[i]? == ys[i]?) w
  | [], _ => rfl
  | i :: is, h => by
    have h1 : i < xs.length := h i (by simp)
    have h2 : i < ys.length := by omega
    simp only [Op.eqItems, Nat.mul_one, Sem.run_bind, part_int A.elem h1, part_int A.elem h2, Result.andThen_ok, run_equalIn_int w d e .i64 .i64 _ _ A.elem]
    rw [List.all_cons, List.getElem?_eq_getElem h1, List.getElem?_eq_getElem h2]
    by_cases e : xs[i] = ys[i]
    · simp [e, eqItems_ints A hl d w is (fun j hj => h j (by simp [hj]))]
    · simp [e]
theorem equalIn_ints {t e n : Nat} (A : IntArr P t e n) {xs ys : List Int} (hx : xs.length = n) (hy : ys.length = n) (d : Nat) (w : World) :
    (Op.equalIn (d + 2) t (ints xs) (ints ys)).run P w = .ok (decide (xs = ys)) w := by
  obtain ⟨i, hi⟩ := A.info
  unfold ints
  rw [show d + 2 = (d + 1) + 1 from rfl, run_equalIn_array w (d + 1) _ _ A.arr hi, A.cell, eqItems_ints A (by omega) d w _ (by simp [hx])]
  congr 1
  by_cases e : xs = ys
  · subst e; simp
  · simp only [e, decide_false]
    rw [Bool.eq_false_iff]
    intro hall
    apply e
    apply List.ext_getElem?
    intro j
    rw [List.all_eq_true] at hall
    by_cases hj : j < n
    · simpa using hall j (by simp [hj])
    · rw [List.getElem?_eq_none (by omega), List.getElem?_eq_none (by omega)]
theorem aggEq_ints {t e n : Nat} (A : IntArr P t e n) {xs ys : List Int} (hx : xs.length = n) (hy : ys.length = n) (w : World) :
    (aggEq .eql t (ints xs) (ints ys)).run P w = .ok (.bool (decide (xs = ys))) w := by
  have h := equalIn_ints A hx hy 9998 w
  unfold ints at h ⊢
  simp only [aggEq, Sem.run_bind, run_eqGuard_agg w .eql t _ _ _ _ A.guard, Result.andThen_ok, run_eql_struct w]
  rw [show (10000 : Nat) = 9998 + 2 from rfl, h]; rfl
theorem forIn_ok {α : Type} {f : α → PUnit → Sem (ForInStep PUnit)} {w : World} : ∀ {l : List α}, (∀ x ∈ l, (f x ()).run P w = .ok (.yield ()) w) → (forIn l PUnit.unit f).run P w = .ok () w
  | [], _ => rfl
  | x :: r, h => by
    rw [List.forIn_cons, Sem.run_bind, h x (by simp)]
    exact forIn_ok (l := r) fun y hy => h y (by simp [hy])
theorem checkKey_ints {t e n : Nat} (A : IntArr P t e n) {xs : List Int} (hx : xs.length = n) (em : Bool) (d : Nat) (w : World) : (Instr.checkKey em (d + 2) t (ints xs)).run P w = .ok () w := by
  obtain ⟨i, hi⟩ := A.info
  have hc : (sizeOf e).run P w = .ok 1 w := by rw [run_sizeOf w hi, A.cell]
  unfold ints
  simp only [Instr.checkKey, Sem.run_bind, under_run A.arr, Result.andThen_ok]
  simp only [Std.Legacy.Range.forIn_eq_forIn_range', Std.Legacy.Range.size, Nat.sub_zero, Nat.add_one_sub_one, Nat.div_one]
  rw [forIn_ok (P := P) (w := w)]
  · rfl
  · intro j hj
    have hj : j < xs.length := by simp [List.mem_range'] at hj; omega
    have hp := part_int A.elem hj w
    simp [hc, hp, under_run A.elem]
theorem findAsking_of {κ : Type} [DecidableEq κ] {kt : Nat} {ke : κ → Value} (inj : ∀ a b, ke a = ke b → a = b) (heq : ∀ a b w, (Op.equal kt (ke a) (ke b)).run P w = .ok (decide (a = b)) w) (k : κ) (w : World) :
    ∀ (es : List MapEntry) (i : Nat), (∀ e ∈ es, ∃ k', e.key = ke k') → (Instr.findAsking kt (ke k) es i).run P w = .ok none w ∧ (∀ e ∈ es, e.key ≠ ke k) ∨
      ∃ j e, es[j]? = some e ∧ e.key = ke k ∧ (Instr.findAsking kt (ke k) es i).run P w = .ok (some (i + j, e.val)) w
  | [], i, _ => .inl ⟨rfl, by simp⟩
  | e :: r, i, hall => by
    obtain ⟨k', hk'⟩ := hall e (by simp)
    by_cases hkk : k = k'
    · subst hkk
      exact .inr ⟨0, e, rfl, hk', by simp [Instr.findAsking, hk', heq]⟩
    · rcases findAsking_of inj heq k w r (i + 1) (fun x hx => hall x (by simp [hx])) with ⟨h1, h2⟩ | ⟨j, x, h1, h2, h3⟩
      · refine .inl ⟨by simp [Instr.findAsking, hk', heq, hkk, h1], ?_⟩
        intro x hx
        rcases List.mem_cons.1 hx with rfl | hx
        · rw [hk']; exact fun e => hkk (inj _ _ e).symm
        · exact h2 x hx
      · refine .inr ⟨j + 1, x, by simpa using h1, h2, ?_⟩
        simp [Instr.findAsking, hk', heq, hkk, h3]; omega
/-- The keys are arrays of ints. -/
theorem KeyOk.arr {κ : Type} [DecidableEq κ] {t e n : Nat} (A : IntArr P t e n) (f : κ → List Int) (hf : ∀ a b, f a = f b → a = b) (hl : ∀ a, (f a).length = n) : KeyOk P t (fun k => ints (f k)) where
  inj := fun a b h => hf a b (by
    have h : (f a).map (Value.int .i64) = (f b).map (Value.int .i64) := by simpa [ints] using h
    exact List.map_inj_right (fun x y e => by injection e) |>.1 h)
  chk := fun em k w => checkKey_ints A (hl k) em 9998 w
  bits := fun k => by
    show Instr.sameBits (9999 + 1) _ _ = true
    simp only [ints, Instr.sameBits, beq_self_eq_true, Bool.true_and, List.all_eq_true]
    intro p hp
    obtain ⟨i, hi, e⟩ := List.getElem_of_mem hp
    rw [List.getElem_zip] at e
    rw [← e]
    simp [Instr.sameBits]
  find := by
    intro k es w hes
    have hfe : (Instr.findKey t (ints (f k)) es).run P w = (Instr.findAsking t (ints (f k)) es).run P w := run_findKey_eq w (by simp [A.arr]) _ _
    have inj : ∀ a b, ints (f a) = ints (f b) → a = b := fun a b h => hf a b (by
      have h : (f a).map (Value.int .i64) = (f b).map (Value.int .i64) := by simpa [ints] using h
      exact List.map_inj_right (fun x y e => by injection e) |>.1 h)
    have heq : ∀ a b w, (Op.equal t (ints (f a)) (ints (f b))).run P w = .ok (decide (a = b)) w := fun a b w => by
      show (Op.equalIn (9998 + 2) t _ _).run P w = _
      rw [equalIn_ints A (hl a) (hl b) 9998 w]
      by_cases h : a = b
      · subst h; simp
      · have : ¬ f a = f b := fun e => h (hf _ _ e)
        simp [h, this]
    rcases findAsking_of (P := P) (kt := t) (ke := fun k => ints (f k)) inj heq k w es 0 hes with ⟨h1, h2⟩ | ⟨j, x, h1, h2, h3⟩
    · exact .inl ⟨by rw [hfe]; exact h1, h2⟩
    · exact .inr ⟨j, x, h1, h2, by rw [hfe]; simpa using h3⟩
end Go.VC
namespace Go.VC
open Go
variable {P : Program}
/-! ### structs of ints -/
structure IntStr (P : Program) (t n : Nat) : Prop where
  st : P.underlying t = some (.struct (P.fieldsOf t))
  held : P.stoodInHeld t = false
  guard : P.eqGuardType P.depth t = false
  flds : ((P.fieldsOf t).toList.all fun f => f.name != "_" && (match P.underlying f.type with | some (.int .i64) => true | _ => false)) = true
  offs : (P.fieldsOf t).toList.map (·.offset) = List.range n
theorem eqFields_ints {xs ys : List Int} (hl : xs.length = ys.length) (d : Nat) (w : World) : ∀ fs : List Field, (fs.all fun f => f.name != "_" && (match P.underlying f.type with | some (.int .i64) => true | _ => false)) = true → (∀ f ∈ fs, f.offset < xs.length) →
    (Op.eqFields (d + 1) (xs.map (Value.int .i64)).toArray (ys.map (Value.int .i64)).toArray fs).run P w = .ok (fs.all fun f => xs[f.offset]? == ys[f.offset]?) w
  | [], _, _ => rfl
  | f :: r, hf, h => by
    simp only [List.all_cons, Bool.and_eq_true] at hf
    obtain ⟨⟨hn, hu⟩, hr⟩ := hf
    have he : P.underlying f.type = some (.int .i64) := by split at hu <;> simp_all
    have h1 : f.offset < xs.length := h f (by simp)
    have h2 : f.offset < ys.length := by omega
    have hn : f.name ≠ "_" := by simpa using hn
    simp only [Op.eqFields, hn, ne_eq, not_false_eq_true, if_true, Sem.run_bind, part_int he h1, part_int he h2, Result.andThen_ok, run_equalIn_int w d f.type .i64 .i64 _ _ he]
    rw [List.all_cons, List.getElem?_eq_getElem h1, List.getElem?_eq_getElem h2]
    by_cases e : xs[f.offset] = ys[f.offset]
    · simp [e, eqFields_ints hl d w r hr (fun j hj => h j (by simp [hj]))]
    · simp [e]
theorem equalIn_str {t n : Nat} (A : IntStr P t n) {xs ys : List Int} (hx : xs.length = n) (hy : ys.length = n) (d : Nat) (w : World) :
    (Op.equalIn (d + 2) t (ints xs) (ints ys)).run P w = .ok (decide (xs = ys)) w := by
  unfold ints
  have hoff : ∀ f ∈ (P.fieldsOf t).toList, f.offset < xs.length := fun f hf => by
    have : f.offset ∈ List.range n := by rw [← A.offs]; exact List.mem_map.2 ⟨f, hf, rfl⟩
    simp at this; omega
  rw [show d + 2 = (d + 1) + 1 from rfl, run_equalIn_agg w (d + 1) t _ _ A.st A.held, eqFields_ints (by omega) d w _ A.flds hoff]
  congr 1
  by_cases e : xs = ys
  · subst e; simp
  · simp only [e, decide_false]
    rw [Bool.eq_false_iff]
    intro hall
    apply e
    apply List.ext_getElem?
    intro j
    rw [List.all_eq_true] at hall
    by_cases hj : j < n
    · have : j ∈ (P.fieldsOf t).toList.map (·.offset) := by rw [A.offs]; simp [hj]
      obtain ⟨f, hf, rfl⟩ := List.mem_map.1 this
      simpa using hall f hf
    · rw [List.getElem?_eq_none (by omega), List.getElem?_eq_none (by omega)]
theorem aggEq_str {t n : Nat} (A : IntStr P t n) {xs ys : List Int} (hx : xs.length = n) (hy : ys.length = n) (w : World) :
    (aggEq .eql t (ints xs) (ints ys)).run P w = .ok (.bool (decide (xs = ys))) w := by
  have h := equalIn_str A hx hy 9998 w
  unfold ints at h ⊢
  simp only [aggEq, Sem.run_bind, run_eqGuard_agg w .eql t _ _ _ _ A.guard, Result.andThen_ok, run_eql_struct w]
  rw [show (10000 : Nat) = 9998 + 2 from rfl, h]; rfl
end Go.VC
/-
  More of append: an empty row of its own, nothing appended, another slice appended. For every program.
-/
namespace Go.VC
open Go
variable {P : Program}

theorem Own.empty {α : Type} {T size : Nat} {enc : α → List Value} (w : World) : Own T size enc w.heap.size (w.alloc (.cells #[] T)) ⟨some ⟨w.heap.size, 0, none⟩, 0, 0⟩ ([] : List α) :=
  ⟨rfl, by simp, .inr ⟨w.heap.size, 0, #[], rfl, Nat.le_refl _, by show (w.heap.push _)[w.heap.size]? = _; simp, Nat.le_refl _, Nat.zero_le _, by simp, by simp⟩⟩
theorem appendNil {t e size bytes : Nat} (E : Elem P t e size bytes) {s s2 : Sl} (hc : s.n ≤ s.c) (h2 : s2.n = 0) (ty : Nat) (w : World) :
    (Builtin.append_ #[t, t] ty #[.slice s.a s.n s.c, .slice s2.a s2.n s2.c]).run P w = .ok (.slice s.a s.n s.c) w := by
  obtain ⟨i, z, hi, _, hsz, _⟩ := E.info
  have hf : (Builtin.firstCells size 0 (.slice s2.a 0 s2.c)).run P w = .ok #[] w := by
    cases s2.a with
    | none => rfl
    | some a => simp [Builtin.firstCells, loadCells, loadCellsFrom]
  obtain ⟨a, n, c⟩ := s
  obtain ⟨a2, n2, c2⟩ := s2
  simp only at hc h2 hf ⊢
  subst h2
  subst hsz
  cases a with
  | none => simp [Builtin.append_, run_underlying E.under, sizeOf, typeInfo, hi, Builtin.lenOf, hc, hf]
  | some a => simp [Builtin.append_, run_underlying E.under, sizeOf, typeInfo, hi, Builtin.lenOf, hc, hf, storeCells]
/-- 'append(s, xs...)', xs any slice that reads as a list. -/
theorem appendSli {α : Type} {t e size bytes : Nat} (E : Elem P t e size bytes) {enc : α → List Value} {B : Nat} {w : World} {s : Sl} {l : List α} (h : Own e size enc B w s l) {s2 : Sl} {l2 : List α}
    (h2 : Sli size enc w s2 l2) (hk : ∀ x, (enc x).length = size) (h1 : ∀ x, ∀ v ∈ enc x, v.oneCell' = true) (hlen : (l.length + l2.length) * bytes ≤ 140737488355328) (hlen' : l.length + l2.length ≤ maxLen) (hB : B ≤ w.heap.size) (ty : Nat) :
    ∃ (s' : Sl) (w' : World), (Builtin.append_ #[t, t] ty #[.slice s.a s.n s.c, .slice s2.a s2.n s2.c]).run P w = .ok (.slice s'.a s'.n s'.c) w' ∧ Own e size enc B w' s' (l ++ l2) ∧ Fr (fun b => ∃ a, s.a = some a ∧ a.block = b) w w' := by
  by_cases hl : l2 = []
  · subst hl
    exact ⟨s, w, appendNil E h.sli.cap h2.len ty w, by simpa using h, Fr.refl _ w⟩
  · obtain ⟨p, hp, hr⟩ := h2.mem hl
    exact appendOwn E h h2.len hp hr hk h1 hlen hlen' hB ty
end Go.VC
/-
  Contracts of the slices' functions and of the places in a history.
-/
namespace Go.Proofs.Ytnbkihkdfhjlmaa
open Go Go.VC

theorem E24 : Elem Try.prog 24 3 1 8 := Elem.of (by kernel_rfl) (by kernel_rfl) (by decide)
/-- slices.Index -/
theorem c57 {w : World} {s : Sl} {l : List Int} (hs : Ints w s l) (x : Int) (hl : l.length ≤ big) :
    Calls Try.prog 57 [.slice s.a s.n s.c, .int .i64 x].toArray w fun e w' => e = .returned (.int .i64 (ix x l)) ∧ Ext w w' := by
  refine (call57 s x (R := fun v w' => v = .int .i64 (ix x l) ∧ Ext w w') ?_).mono fun e w' ⟨v, he, hv, hx⟩ => ⟨by rw [he, hv], hx⟩
  refine Join.dir (rangeI (fun i w2 => x ∉ l.take i ∧ Ext w w2) (by rw [hs.len]; exact hl) ⟨by simp, Fr.refl _ w⟩ ?_ ?_)
  · rintro i hi w2 ⟨hn, hx⟩ K hK
    have hi : i < l.length := by rw [← hs.len]; exact hi
    obtain ⟨p, hp, h1, h2, hr⟩ := Ints.at (hs.ext hx) hi
    refine ⟨p, hp, h1, h2, _, hr, cond_intro (fun hc => ?_) (fun hc => ?_)⟩
    · have h : x = l[i] := by simpa using hc
      exact ⟨by rw [ix_at (by rw [List.getElem?_eq_getElem hi, h]) hn], hx⟩
    · have h : ¬ x = l[i] := by simpa using hc
      exact hK _ ⟨not_take hn (List.getElem?_eq_getElem hi) (fun e => h e.symm), hx⟩
  · rintro w2 ⟨hn, hx⟩
    rw [hs.len, List.take_length] at hn
    exact ⟨by rw [ix_not hn], hx⟩
/-- slices.Contains -/
theorem c28 {w : World} {s : Sl} {l : List Int} (hs : Ints w s l) (x : Int) (hl : l.length ≤ big) :
    Calls Try.prog 28 [.slice s.a s.n s.c, .int .i64 x].toArray w fun e w' => e = .returned (.bool (decide (x ∈ l))) ∧ Ext w w' := by
  refine (call28 s x (R := fun v w' => v = .bool (decide (x ∈ l)) ∧ Ext w w') ?_).mono fun e w' ⟨v, he, hv, hx⟩ => ⟨by rw [he, hv], hx⟩
  refine (c57 hs x hl).mono fun e w1 ⟨he, hx⟩ => ⟨_, he, ?_, hx⟩
  simp [ix_nonneg]
/-- slices.Equal -/
theorem c16 {w : World} {s s' : Sl} {l l' : List Int} (hs : Ints w s l) (hs' : Ints w s' l') (hl : l.length ≤ big) :
    Calls Try.prog 16 [.slice s.a s.n s.c, .slice s'.a s'.n s'.c].toArray w fun e w' => e = .returned (.bool (decide (l = l'))) ∧ Ext w w' := by
  refine (call16 s s' (R := fun v w' => v = .bool (decide (l = l')) ∧ Ext w w') ?_).mono fun e w' ⟨v, he, hv, hx⟩ => ⟨by rw [he, hv], hx⟩
  have h1 := hs.len
  have h2 := hs'.len
  refine cond_intro (fun h => ?_) (fun h => ?_)
  · have h : ¬ l = l' := by rintro rfl; simp [h1, h2] at h
    exact ⟨by simp [h], Fr.refl _ w⟩
  · have h : l.length = l'.length := by simp at h; omega
    refine Join.dir (rangeI (fun i w2 => l.take i = l'.take i ∧ Ext w w2) (by rw [hs.len]; exact hl) ⟨by simp, Fr.refl _ w⟩ ?_ ?_)
    · rintro i hi w2 ⟨hn, hx⟩ K hK
      have hi : i < l.length := by omega
      have hi' : i < l'.length := by omega
      refine Let.intro fun w4 e4 => ?_
      have hx4 : Ext w w4 := by rw [e4]; exact hx.trans (Ext.drew _)
      obtain ⟨p, hp, h1, h2, hr⟩ := Ints.at (hs.ext hx4) hi
      obtain ⟨p', hp', h1', h2', hr'⟩ := Ints.at (hs'.ext hx4) hi'
      refine ⟨p, hp, h1, h2, _, hr, p', hp', h1', h2', _, hr', cond_intro (fun hc => ?_) (fun hc => ?_)⟩
      · have h : ¬ l[i] = l'[i] := by simpa using hc
        exact ⟨by simp; rintro rfl; exact h rfl, hx4⟩
      · have h : l[i] = l'[i] := by simpa using hc
        exact hK _ ⟨by rw [List.take_succ_eq_append_getElem hi, List.take_succ_eq_append_getElem hi', hn, h], hx4⟩
    · rintro w2 ⟨hn, hx⟩
      rw [hs.len, List.take_length, h, List.take_length] at hn
      exact ⟨by simp [hn], hx⟩
/-- slices.Clone: nil of nil, or a row of its own -/
theorem c46 {w : World} {s : Sl} {l : List Int} (hs : Ints w s l) (hl : l.length ≤ 1000000) :
    Calls Try.prog 46 [.slice s.a s.n s.c].toArray w fun e w' => ∃ s' : Sl, e = .returned (.slice s'.a s'.n s'.c) ∧ Own 3 1 eI w.heap.size w' s' l ∧ Ext w w' := by
  refine (call46 s (R := fun v w' => ∃ s' : Sl, v = .slice s'.a s'.n s'.c ∧ Own 3 1 eI w.heap.size w' s' l ∧ Ext w w') ?_).mono fun e w' ⟨v, he, s', hv, h1, h2⟩ => ⟨s', by rw [he, hv], h1, h2⟩
  refine cond_intro (fun h => ?_) (fun h => ?_)
  · have hn : l = [] := by
      rcases Classical.em (l = []) with h' | h'
      · exact h'
      · obtain ⟨p, hp, _⟩ := hs.mem h'; rw [hp] at h; cases h
    subst hn
    exact ⟨⟨none, 0, 0⟩, rfl, Own.nil .., Fr.refl _ w⟩
  · have hx := Ext.alloc w (.cells #[] 3)
    refine ⟨⟨some ⟨w.heap.size, 0, none⟩, 0, 0⟩, _, buildNone_run E24 w, ?_⟩
    obtain ⟨s', w', hrun, ho', hf⟩ := appendSli E24 (Own.empty w) (hs.ext hx) eI_len eI_one (by simp; omega) (by simp [maxLen]; omega) (by simp) 24
    exact ⟨s', w', hrun, s', rfl, by simpa using ho', hx.newer hf fun b ⟨a, ha, hb⟩ => by cases ha; simp at hb; omega⟩
theorem T38 : IntStr Try.prog 38 3 := ⟨by kernel_rfl, by kernel_rfl, by kernel_rfl, by kernel_rfl, by kernel_rfl⟩
/-- '==' of two operations -/
theorem opEq (a b : Ev) (w : World) : Sem.run Try.prog (aggEq .eql 38 (.agg [(.int .i64 a.t), (.int .i64 a.k), (.int .i64 a.i)].toArray) (.agg [(.int .i64 b.t), (.int .i64 b.k), (.int .i64 b.i)].toArray)) w = .ok (.bool (decide (a = b))) w := by
  have h := aggEq_str T38 (xs := [a.t, a.k, a.i]) (ys := [b.t, b.k, b.i]) rfl rfl w
  have e : decide ([a.t, a.k, a.i] = [b.t, b.k, b.i]) = decide (a = b) := by
    obtain ⟨a1, a2, a3⟩ := a; obtain ⟨b1, b2, b3⟩ := b; simp
  rw [e] at h
  exact h
/-- slices.Index of a history -/
theorem c56 {w : World} {s : Sl} {h : List Ev} (hs : Hs w s h) (x : Ev) (hl : h.length ≤ big) :
    Calls Try.prog 56 [.slice s.a s.n s.c, .agg [.int .i64 x.t, .int .i64 x.k, .int .i64 x.i].toArray].toArray w fun e w' => e = .returned (.int .i64 (ix x h)) ∧ Ext w w' := by
  refine (call56 s x.t x.k x.i (R := fun v w' => v = .int .i64 (ix x h) ∧ Ext w w') ?_).mono fun e w' ⟨v, he, hv, hx⟩ => ⟨by rw [he, hv], hx⟩
  refine Let.intro fun w1 e1 => ?_
  have hb : Blk w1 w.heap.size [.int .i64 x.t, .int .i64 x.k, .int .i64 x.i] 38 := by rw [e1]; exact Blk.alloc ..
  have hx1 : Ext w w1 := by rw [e1]; exact Ext.alloc ..
  refine Join.dir (rangeI (fun i w2 => x ∉ h.take i ∧ Ext w w2 ∧ Blk w2 w.heap.size [.int .i64 x.t, .int .i64 x.k, .int .i64 x.i] 38) (by rw [hs.len]; exact hl) ⟨by simp, hx1, hb⟩ ?_ ?_)
  · rintro i hi w2 ⟨hn, hx, hb2⟩ K hK
    have hi : i < h.length := by rw [← hs.len]; exact hi
    refine Let.intro fun w4 e4 => ?_
    have hx24 : Ext w2 w4 := by rw [e4]; exact Ext.drew _
    obtain ⟨p, hp, h1, h2, hr⟩ := (hs.ext (hx.trans hx24)).at eO_len hi
    refine ⟨_, _, _, (hb2.ext hx24).rd, p, hp, h1, h2, _, _, _, hr, _, fun w => opEq x h[i] w, cond_intro (fun hc => ?_) (fun hc => ?_)⟩
    · have h2 : x = h[i] := by simpa using hc
      exact ⟨by rw [ix_at (by rw [List.getElem?_eq_getElem hi, h2]) hn], hx.trans hx24⟩
    · have h2 : ¬ x = h[i] := by simpa using hc
      exact hK _ ⟨not_take hn (List.getElem?_eq_getElem hi) (fun e => h2 e.symm), hx.trans hx24, hb2.ext hx24⟩
  · rintro w2 ⟨hn, hx, _⟩
    rw [hs.len, List.take_length] at hn
    exact ⟨by rw [ix_not hn], hx⟩
end Go.Proofs.Ytnbkihkdfhjlmaa
/-
  A slice that the call owns, written in place. For every program.
-/
namespace Go.VC
open Go
variable {P : Program}

theorem eI_flat (l : List Int) : l.flatMap eI = l.map (Value.int .i64) := by
  induction l with
  | nil => rfl
  | cons x r ih => simp [eI] at ih ⊢; exact ih
/-- 's[i] = v' of an owned slice of ints. -/
theorem Own.store {T B : Nat} {w : World} {s : Sl} {l : List Int} (h : Own T 1 eI B w s l) {i : Nat} (hi : i < l.length) (v : Int) :
    ∃ p : Pt, s.a = some ⟨p.b, p.o, none⟩ ∧ 0 ≤ (i : Int) ∧ (i : Int) < ((s.n : Nat) : Int) ∧ StoreOk w p.b (p.o + Int.toNat (i : Int) * 1) [.int .i64 v] 1 ∧
      Own T 1 eI B (put w p.b (p.o + Int.toNat (i : Int) * 1) [.int .i64 v]) s (l.set i v) ∧ Fr (fun b => ∃ a, s.a = some a ∧ a.block = b) w (put w p.b (p.o + Int.toNat (i : Int) * 1) [.int .i64 v]) := by
  obtain ⟨hn, hl, h⟩ := h
  rcases h with ⟨h1, h2⟩ | ⟨g, cap, cur, hv, hb, hg, hc, hm, hsz, ht⟩
  · omega
  · simp only [Value.slice.injEq] at hv
    obtain ⟨h1, h2, h3⟩ := hv
    have hb' : Blk w g cur.toList T := by unfold Blk; simpa using hg
    have hlt : i < cur.size := by omega
    have e : (⟨g, 0⟩ : Pt).o + Int.toNat (i : Int) * 1 = i := by simp
    refine ⟨⟨g, 0⟩, h1, by omega, by omega, ?_, ?_, ?_⟩
    · rw [e]; exact hb'.storeOk rfl (by simp [Value.oneCell']) (by simp; omega)
    · rw [e]
      have hput := hb'.put (o := i) (vs := [.int .i64 v])
      refine ⟨by simp [hn], by simp [eI_flat], .inr ⟨g, cap, cur.setIfInBounds i (.int .i64 v), by rw [h1, h2, h3]; simp, hb, ?_, by simpa using hc, hm, by simpa using hsz, ?_⟩⟩
      · unfold Blk at hput
        simp only [setR] at hput
        rw [hput]; congr 1; congr 1; apply Array.ext'; simp
      · rw [eI_flat] at ht ⊢
        simp only [Array.toList_setIfInBounds, List.length_set]
        rw [List.take_set, ht, List.map_set]
    · exact (Fr.put _ _ _ _).mono fun b _ hb => ⟨_, h1, hb.symm⟩
end Go.VC
namespace Go.VC
open Go
theorem flatMap_len {α : Type} {k : Nat} {enc : α → List Value} (hk : ∀ x, (enc x).length = k) : ∀ l : List α, (l.flatMap enc).length = l.length * k
  | [] => by simp
  | x :: r => by simp [List.flatMap_cons, hk, flatMap_len hk r, Nat.add_mul]; omega
/-- 's[m:]' -/
theorem Sli.drop {α : Type} {k : Nat} {enc : α → List Value} {w : World} {s : Sl} {l : List α} (hk : ∀ x, (enc x).length = k) (h : Sli k enc w s l) {m : Nat} (hm : m ≤ l.length) : Sli k enc w ⟨subA s.a s.c m k, s.n - m, s.c - m⟩ (l.drop m) := by
  have h1 := h.len
  have h2 := h.cap
  refine ⟨by simp [h1], by simp only; omega, fun hne => ?_⟩
  have hlt : m < l.length := by
    rcases Nat.lt_or_ge m l.length with h | h
    · exact h
    · exact absurd (List.drop_eq_nil_of_le h) hne
  obtain ⟨p, hp, hr⟩ := h.mem (by rintro rfl; simp at hlt)
  refine ⟨⟨p.b, p.o + m * k⟩, ?_, ?_⟩
  · simp only [subA]
    rw [if_neg (by omega), hp, Option.map_some, addr_add_plain]
  · have e : l.flatMap enc = (l.take m).flatMap enc ++ (l.drop m).flatMap enc := by rw [← List.flatMap_append, List.take_append_drop]
    rw [e, rd_append, flatMap_len hk, List.length_take, Nat.min_eq_left hm] at hr
    exact hr.2
/-- 's[:m]' -/
theorem Sli.take {α : Type} {k : Nat} {enc : α → List Value} {w : World} {s : Sl} {l : List α} (h : Sli k enc w s l) {m : Nat} (hm : m ≤ l.length) : Sli k enc w ⟨s.a, m, s.c⟩ (l.take m) := by
  have h1 := h.len
  have h2 := h.cap
  refine ⟨by simp [hm], by simp only; omega, fun hne => ?_⟩
  obtain ⟨p, hp, hr⟩ := h.mem (by rintro rfl; simp at hne)
  refine ⟨p, hp, ?_⟩
  have e : l.flatMap enc = (l.take m).flatMap enc ++ (l.drop m).flatMap enc := by rw [← List.flatMap_append, List.take_append_drop]
  rw [e, rd_append] at hr
  exact hr.1
end Go.VC
namespace Go.VC
open Go
theorem rangeKI {t t' n : Nat} {k : SK} {w0 : World} {s0 : k.T} {J : k.T → World → Prop} {B : k.T → Int → World → (k.T → World → Prop) → Prop} (Inv : Nat → k.T → World → Prop) (hn : n ≤ big) (h0 : Inv 0 s0 w0)
    (hs : ∀ i, i < n → ∀ s w, Inv i s w → ∀ K : k.T → World → Prop, (∀ s' w', Inv (i + 1) s' w' → K s' w') → B s (i : Int) w K) (he : ∀ s w, Inv n s w → J s w) :
    LoopV [(t', k), (t, .int .i64)] (fun K => K s0 (0 : Int) w0) (fun N => fun (s : k.T) (x : Int) (w : World) => cond (decide (x < (n : Int))) (Join [(t', k)] (fun (s' : k.T) (w3 : World) => N s' (IntKind.wrap .i64 (x + 1)) w3) (fun J2 => B s x w J2)) (J s w)) := by
  refine LoopV.intro (fun m (s : k.T) (x : Int) w => ∃ i : Nat, x = i ∧ m = n - i ∧ i ≤ n ∧ Inv i s w) n ⟨0, rfl, by omega, by omega, h0⟩ ?_
  rintro m s x w ⟨i, rfl, rfl, hi, hv⟩
  refine cond_intro (fun h => ?_) (fun h => ?_)
  · have hi : i < n := by simpa using h
    refine Join.dir (hs i hi s w hv _ fun s' w' h' => ⟨n - (i + 1), by omega, i + 1, ?_, rfl, by omega, h'⟩)
    rw [wrap64 (by omega) (by have : n ≤ 9223372036854775807 := hn; omega)]; rfl
  · have hi : i = n := by have : ¬ i < n := by simpa using h
                          omega
    subst hi; exact he s w hv
end Go.VC
