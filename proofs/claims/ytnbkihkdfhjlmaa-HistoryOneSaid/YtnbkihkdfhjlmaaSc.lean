/-
  Printed by a program of this session (wip/tools/vcprint.py): of each Go function the shallow form, and that the calculus comes to it, by the kernel.
-/
import Derived.Test.YtnbkihkdfhjlmaaSb
import Derived.Test.YtnbkihkdfhjlmaaProg
import Derived.KernelRfl
namespace Go.Proofs.Ytnbkihkdfhjlmaa
open Go Go.VC
set_option maxRecDepth 100000

/-- F18: cubeb/history.Cycle -/
def A18 : An := (.sq .lf (.sq (.sq .lf (.cd (.sq .lf .lf) .lf)) (.sq .lf (.sq .lf (.sq .lf (.sq .lf (.sq (.sq .lf (.bk [] (.lp [(8, .int .i64)] (.sq (.sq .lf (.cd .lf .lf)) (.sq (.bk [] (.sq .lf (.bk [] (.lp [(28, .int .i64)] (.sq .lf (.sq (.cd .lf .lf) (.sq (.bk [] (.sq .lf (.sq .lf (.cd (.sq .lf .lf) .lf)))) .lf))))))) .lf))))) (.sq .lf .lf))))))))
def S18 (s0 : Sl) (R : Value → World → Prop) (w : World) : Prop :=
  Calls Try.prog 26 [(.slice s0.a s0.n s0.c)].toArray w (fun e w1 => ∃ b12 : Bool, e = .returned (.bool b12) ∧
  cond (!b12) (
  R (.tuple [(.slice none 0 0), (.int .i64 (2 : Int))].toArray) w1) (
  Calls Try.prog 34 [(.slice s0.a s0.n s0.c)].toArray w1 (fun e_2 w2 => ∃ s15 : Sl, e_2 = .returned (.slice s15.a s15.n s15.c) ∧
  Calls Try.prog 43 [(.slice s15.a s15.n s15.c)].toArray w2 (fun e_3 w3 => ∃ m16 : Option Nat, e_3 = .returned (.map m16) ∧
  Calls Try.prog 36 [(.slice s0.a s0.n s0.c)].toArray w3 (fun e_4 w4 => ∃ s18 : Sl, e_4 = .returned (.slice s18.a s18.n s18.c) ∧
  Let (w4.alloc (.cells (zc Try.prog 75) 75)) fun w5 => 
  Let (w5.alloc (.cells (zc Try.prog 24) 24)) fun w6 => 
  StoreOk w6 w4.heap.size 0 [(.map m16)] 1 ∧ Let (put w6 w4.heap.size 0 [(.map m16)]) fun w7 => 
  StoreOk w7 w5.heap.size 0 [(.slice s18.a s18.n s18.c)] 1 ∧ Let (put w7 w5.heap.size 0 [(.slice s18.a s18.n s18.c)]) fun w8 => 
  Let (w8.alloc (.cells (zc Try.prog 24) 24)) fun w9 => 
  Let (w9.alloc (.cells (zc Try.prog 52) 52)) fun w10 => 
  StoreOk w10 w9.heap.size 0 [(.func (.func 45) #[] [(.pointer (some ⟨w8.heap.size, 0, none⟩)), (.pointer (some ⟨w4.heap.size, 0, none⟩)), (.pointer (some ⟨w5.heap.size, 0, none⟩)), (.pointer (some ⟨w9.heap.size, 0, none⟩))].toArray)] 1 ∧ Let (put w10 w9.heap.size 0 [(.func (.func 45) #[] [(.pointer (some ⟨w8.heap.size, 0, none⟩)), (.pointer (some ⟨w4.heap.size, 0, none⟩)), (.pointer (some ⟨w5.heap.size, 0, none⟩)), (.pointer (some ⟨w9.heap.size, 0, none⟩))].toArray)]) fun w11 => 
  Join [] (fun (w12 : World) => R (.tuple [(.slice none 0 0), (.int .i64 (5 : Int))].toArray) w12) (fun J =>
  LoopV [(8, .int .i64)] (fun K => K (2 : Int) w11) (fun N => fun (x8 : Int) (w13 : World) =>
  ∃ s21 : Sl, World.cell? w13 ⟨w5.heap.size, 0, none⟩ = some (.slice s21.a s21.n s21.c) ∧ cond (decide (x8 ≤ ((s21.n : Nat) : Int))) (
  Join [] (fun (w14 : World) => N (IntKind.wrap .i64 (x8 + (1 : Int))) w14) (fun J_2 =>
  ∃ s26 : Sl, World.cell? w13 ⟨w5.heap.size, 0, none⟩ = some (.slice s26.a s26.n s26.c) ∧ Join [] (fun (w15 : World) => J_2 w15) (fun J_3 =>
  LoopV [(28, .int .i64)] (fun K => K (0 : Int) w13) (fun N_2 => fun (x28 : Int) (w16 : World) =>
  cond (decide (x28 < ((s26.n : Nat) : Int))) (
  Join [] (fun (w17 : World) => N_2 (IntKind.wrap .i64 (x28 + (1 : Int))) w17) (fun J_4 =>
  ∃ p30 : Pt, s26.a = some ⟨p30.b, p30.o, none⟩ ∧ 0 ≤ x28 ∧ x28 < ((s26.n : Nat) : Int) ∧ ∃ x31 : Int, World.cell? w16 ⟨p30.b, (p30.o + Int.toNat x28 * 1), none⟩ = some (.int .i64 x31) ∧ ∃ (f32 : Nat) (c32 : List Value), World.cell? w16 ⟨w9.heap.size, 0, none⟩ = some (.func (.func f32) #[] c32.toArray) ∧ ∃ (s34 : Sl) (w18 : World), Sem.run Try.prog (Instr.buildSlice 24 1 [(0, (.int .i64 x31))].toArray) w16 = .ok (.slice s34.a s34.n s34.c) w18 ∧
  (bif callable Try.prog f32 then Calls Try.prog f32 (([(.slice s34.a s34.n s34.c), (.int .i64 x8)] : List Value) ++ c32).toArray w18 (fun e_5 w19 => ∃ b36 : Bool, e_5 = .returned (.bool b36) ∧
  cond b36 (
  ∃ s37 : Sl, World.cell? w19 ⟨w8.heap.size, 0, none⟩ = some (.slice s37.a s37.n s37.c) ∧ R (.tuple [(.slice s37.a s37.n s37.c), (.int .i64 (0 : Int))].toArray) w19) (
  J_4 w19)) else False))) (
  J_3 w16))))) (
  J w13))))))))
theorem eq18 (s0 : Sl) (R : Value → World → Prop) (w : World) : funV Try.prog Try.f18 A18 [(.slice s0.a s0.n s0.c)] R w = S18 s0 R w := by kernel_rfl
theorem call18 (s0 : Sl) {R : Value → World → Prop} {w : World} (h : S18 s0 R w) : Calls Try.prog 18 [(.slice s0.a s0.n s0.c)].toArray w fun e w' => ∃ v, e = .returned v ∧ R v w' :=
  funV_calls mixed Try.func18 (an := A18) (by rw [eq18]; exact h)

/-- F45: cubeb/history.Cycle$1 -/
def A45 : An := (.sq .lf (.sq .lf (.sq (.sq .lf (.cd (.sq .lf (.sq (.dr [0, 1, 2, 3, 4, 5, 6, 7] [] false none) .lf)) .lf)) (.sq .lf .lf))))
def S45 (s0 : Sl) (x1 : Int) (p2 : Pt) (p3 : Pt) (p4 : Pt) (p5 : Pt) (R : Value → World → Prop) (w : World) : Prop :=
  Let (w.alloc (.cells [(.slice s0.a s0.n s0.c)].toArray 24)) fun w1 => 
  Let (w1.alloc (.cells [(.int .i64 x1)].toArray 3)) fun w2 => 
  ∃ s10 : Sl, World.cell? w2 ⟨w.heap.size, 0, none⟩ = some (.slice s10.a s10.n s10.c) ∧ ∃ s11 : Sl, World.cell? w2 ⟨w.heap.size, 0, none⟩ = some (.slice s11.a s11.n s11.c) ∧ ∃ p14 : Pt, s10.a = some ⟨p14.b, p14.o, none⟩ ∧ 0 ≤ (IntKind.wrap .i64 (((s11.n : Nat) : Int) - (1 : Int))) ∧ (IntKind.wrap .i64 (((s11.n : Nat) : Int) - (1 : Int))) < ((s10.n : Nat) : Int) ∧ ∃ x15 : Int, World.cell? w2 ⟨p14.b, (p14.o + Int.toNat (IntKind.wrap .i64 (((s11.n : Nat) : Int) - (1 : Int))) * 1), none⟩ = some (.int .i64 x15) ∧ Let (w2.alloc (.cells (zc Try.prog 3) 3)) fun w3 => 
  StoreOk w3 w2.heap.size 0 [(.int .i64 x15)] 1 ∧ Let (put w3 w2.heap.size 0 [(.int .i64 x15)]) fun w4 => 
  ∃ s16 : Sl, World.cell? w4 ⟨w.heap.size, 0, none⟩ = some (.slice s16.a s16.n s16.c) ∧ ∃ x18 : Int, World.cell? w4 ⟨w1.heap.size, 0, none⟩ = some (.int .i64 x18) ∧ cond (((s16.n : Nat) : Int) == x18) (
  ∃ s20 : Sl, World.cell? w4 ⟨w.heap.size, 0, none⟩ = some (.slice s20.a s20.n s20.c) ∧ Calls Try.prog 46 [(.slice s20.a s20.n s20.c)].toArray w4 (fun e w5 => ∃ s21 : Sl, e = .returned (.slice s21.a s21.n s21.c) ∧
  StoreOk w5 p2.b p2.o [(.slice s21.a s21.n s21.c)] 1 ∧ Let (put w5 p2.b p2.o [(.slice s21.a s21.n s21.c)]) fun w6 => 
  Let w6.drew fun w7 =>
  ∃ m22 : Option Nat, World.cell? w7 ⟨p3.b, p3.o, none⟩ = some (.map m22) ∧ ∃ x23 : Int, World.cell? w7 ⟨w2.heap.size, 0, none⟩ = some (.int .i64 x23) ∧ ∃ s24 : Sl, World.cell? w7 ⟨w.heap.size, 0, none⟩ = some (.slice s24.a s24.n s24.c) ∧ ∃ p25 : Pt, s24.a = some ⟨p25.b, p25.o, none⟩ ∧ 0 ≤ (0 : Int) ∧ (0 : Int) < ((s24.n : Nat) : Int) ∧ ∃ x26 : Int, World.cell? w7 ⟨p25.b, (p25.o + Int.toNat (0 : Int) * 1), none⟩ = some (.int .i64 x26) ∧ ∃ b28 : Bool, Sem.run Try.prog (Instr.lookup 75 (.map m22) (.agg [(.int .i64 x23), (.int .i64 x26)].toArray) false) w7 = .ok (.bool b28) w7 ∧ R (.bool b28) w7)) (
  ∃ s29 : Sl, World.cell? w4 ⟨p4.b, p4.o, none⟩ = some (.slice s29.a s29.n s29.c) ∧ Calls Try.prog 47 [(.slice s29.a s29.n s29.c), (.func (.func 48) #[] [(.pointer (some ⟨w.heap.size, 0, none⟩)), (.pointer (some ⟨p3.b, p3.o, none⟩)), (.pointer (some ⟨w2.heap.size, 0, none⟩)), (.pointer (some ⟨p5.b, p5.o, none⟩)), (.pointer (some ⟨w1.heap.size, 0, none⟩))].toArray)].toArray w4 (fun e_2 w8 => ∃ b31 : Bool, e_2 = .returned (.bool b31) ∧
  R (.bool b31) w8))
theorem eq45 (s0 : Sl) (x1 : Int) (p2 : Pt) (p3 : Pt) (p4 : Pt) (p5 : Pt) (R : Value → World → Prop) (w : World) : funV Try.prog Try.f45 A45 [(.slice s0.a s0.n s0.c), (.int .i64 x1), (.pointer (some ⟨p2.b, p2.o, none⟩)), (.pointer (some ⟨p3.b, p3.o, none⟩)), (.pointer (some ⟨p4.b, p4.o, none⟩)), (.pointer (some ⟨p5.b, p5.o, none⟩))] R w = S45 s0 x1 p2 p3 p4 p5 R w := by kernel_rfl
theorem call45 (s0 : Sl) (x1 : Int) (p2 : Pt) (p3 : Pt) (p4 : Pt) (p5 : Pt) {R : Value → World → Prop} {w : World} (h : S45 s0 x1 p2 p3 p4 p5 R w) : Calls Try.prog 45 [(.slice s0.a s0.n s0.c), (.int .i64 x1), (.pointer (some ⟨p2.b, p2.o, none⟩)), (.pointer (some ⟨p3.b, p3.o, none⟩)), (.pointer (some ⟨p4.b, p4.o, none⟩)), (.pointer (some ⟨p5.b, p5.o, none⟩))].toArray w fun e w' => ∃ v, e = .returned v ∧ R v w' :=
  funV_calls mixed Try.func45 (an := A45) (by rw [eq45]; exact h)

/-- F48: cubeb/history.Cycle$1$1 -/
def A48 : An := (.sq .lf (.sq (.dr [0, 1, 2, 3, 4, 5, 6, 7, 8, 9, 10, 11, 12, 13, 14, 17, 15, 16, 18, 19, 20] [] true (some [(7, .bool)])) .lf))
def S48 (x0 : Int) (p1 : Pt) (p2 : Pt) (p3 : Pt) (p4 : Pt) (p5 : Pt) (R : Value → World → Prop) (w : World) : Prop :=
  Join [(7, .bool)] (fun (b7 : Bool) (w1 : World) => R (.bool b7) w1) (fun J =>
  ∃ S1 : World → Prop, S1 w.drew ∧ Let w.drew fun w2 =>
  ∃ s8 : Sl, (∀ u, S1 u → World.cell? u ⟨p1.b, p1.o, none⟩ = some (.slice s8.a s8.n s8.c)) ∧ Calls Try.prog 28 [(.slice s8.a s8.n s8.c), (.int .i64 x0)].toArray w2 (fun e w3 => ∃ b10 : Bool, e = .returned (.bool b10) ∧
  S1 w3 ∧ cond (!b10) (∃ m13 : Option Nat, (∀ u, S1 u → World.cell? u ⟨p2.b, p2.o, none⟩ = some (.map m13)) ∧ ∃ x14 : Int, (∀ u, S1 u → World.cell? u ⟨p3.b, p3.o, none⟩ = some (.int .i64 x14)) ∧ ∃ b17 : Bool, (∀ u, S1 u → Sem.run Try.prog (Instr.lookup 75 (.map m13) (.agg [(.int .i64 x14), (.int .i64 x0)].toArray) false) u = .ok (.bool b17) u) ∧ cond b17 (∃ (f20 : Nat) (c20 : List Value), (∀ u, S1 u → World.cell? u ⟨p4.b, p4.o, none⟩ = some (.func (.func f20) #[] c20.toArray)) ∧ ∃ s21 : Sl, (∀ u, S1 u → World.cell? u ⟨p1.b, p1.o, none⟩ = some (.slice s21.a s21.n s21.c)) ∧ ∃ x25 : Int, (∀ u, S1 u → World.cell? u ⟨p5.b, p5.o, none⟩ = some (.int .i64 x25)) ∧ ∃ (s23 : Sl) (w4 : World), Sem.run Try.prog (Instr.buildSlice 24 1 [(0, (.int .i64 x0))].toArray) w3 = .ok (.slice s23.a s23.n s23.c) w4 ∧
  S1 w4 ∧ ∃ (s24 : Sl) (w5 : World), Sem.run Try.prog (Builtin.append_ #[24, 24] 24 #[(.slice s21.a s21.n s21.c), (.slice s23.a s23.n s23.c)]) w4 = .ok (.slice s24.a s24.n s24.c) w5 ∧
  S1 w5 ∧ (bif callable Try.prog f20 then Calls Try.prog f20 (([(.slice s24.a s24.n s24.c), (.int .i64 x25)] : List Value) ++ c20).toArray w5 (fun e_2 w6 => ∃ b26 : Bool, e_2 = .returned (.bool b26) ∧
  S1 w6 ∧ J b26 w6) else False)) (J false w3)) (J false w3)))
theorem eq48 (x0 : Int) (p1 : Pt) (p2 : Pt) (p3 : Pt) (p4 : Pt) (p5 : Pt) (R : Value → World → Prop) (w : World) : funV Try.prog Try.f48 A48 [(.int .i64 x0), (.pointer (some ⟨p1.b, p1.o, none⟩)), (.pointer (some ⟨p2.b, p2.o, none⟩)), (.pointer (some ⟨p3.b, p3.o, none⟩)), (.pointer (some ⟨p4.b, p4.o, none⟩)), (.pointer (some ⟨p5.b, p5.o, none⟩))] R w = S48 x0 p1 p2 p3 p4 p5 R w := by kernel_rfl
theorem call48 (x0 : Int) (p1 : Pt) (p2 : Pt) (p3 : Pt) (p4 : Pt) (p5 : Pt) {R : Value → World → Prop} {w : World} (h : S48 x0 p1 p2 p3 p4 p5 R w) : Calls Try.prog 48 [(.int .i64 x0), (.pointer (some ⟨p1.b, p1.o, none⟩)), (.pointer (some ⟨p2.b, p2.o, none⟩)), (.pointer (some ⟨p3.b, p3.o, none⟩)), (.pointer (some ⟨p4.b, p4.o, none⟩)), (.pointer (some ⟨p5.b, p5.o, none⟩))].toArray w fun e w' => ∃ v, e = .returned v ∧ R v w' :=
  funV_calls mixed Try.func48 (an := A48) (by rw [eq48]; exact h)

/-- F7: cubeb/cubeblaw05.HistoryOne -/
def A7 : An := (.sq .lf (.sq .lf (.sq .lf (.sq .lf (.sq (.sq .lf (.cd (.sq (.rj [] [(2, .bool)]) .lf) .lf)) (.sq (.sq .lf (.cd (.sq (.rj [] [(2, .bool)]) .lf) .lf)) (.sq (.sq (.rj [] [(81, .bool)]) (.cd (.sq .lf .lf) .lf)) (.sq (.sq .lf (.bk [] (.lp [(84, .int .i64)] (.sq .lf (.sq (.cd .lf .lf) (.sq (.bk [] (.sq .lf (.sq .lf (.sq .lf (.sq (.sq .lf (.bk [(12, .slice)] (.lp [(12, .slice), (100, .int .i64)] (.sq .lf (.sq (.cd .lf .lf) (.sq (.bk [(12, .slice)] (.sq .lf (.sq (.rj [] [(113, .bool)]) (.cj [(12, .slice)] .lf .lf)))) .lf)))))) (.sq .lf (.sq (.rj [] [(141, .bool)]) (.cd (.sq .lf .lf) .lf)))))))) .lf)))))) (.sq .lf .lf)))))))))
def S7 (s0 : Sl) (R : Value → World → Prop) (w : World) : Prop :=
  Calls Try.prog 12 [(.slice s0.a s0.n s0.c)].toArray w (fun e w1 => ∃ s19 : Sl, e = .returned (.slice s19.a s19.n s19.c) ∧
  Calls Try.prog 17 [(.slice s19.a s19.n s19.c)].toArray w1 (fun e_2 w2 => ∃ s20_0 : Sl, ∃ x20_1 : Int, e_2 = .returned (.tuple [(.slice s20_0.a s20_0.n s20_0.c), (.int .i64 x20_1)].toArray) ∧
  Calls Try.prog 12 [(.slice s0.a s0.n s0.c)].toArray w2 (fun e_3 w3 => ∃ s25 : Sl, e_3 = .returned (.slice s25.a s25.n s25.c) ∧
  Calls Try.prog 18 [(.slice s25.a s25.n s25.c)].toArray w3 (fun e_4 w4 => ∃ s26_0 : Sl, ∃ x26_1 : Int, e_4 = .returned (.tuple [(.slice s26_0.a s26_0.n s26_0.c), (.int .i64 x26_1)].toArray) ∧
  Calls Try.prog 12 [(.slice s0.a s0.n s0.c)].toArray w4 (fun e_5 w5 => ∃ s31 : Sl, e_5 = .returned (.slice s31.a s31.n s31.c) ∧
  Calls Try.prog 11 [(.slice s31.a s31.n s31.c)].toArray w5 (fun e_6 w6 => ∃ s32_0 : Sl, ∃ x32_1 : Int, e_6 = .returned (.tuple [(.slice s32_0.a s32_0.n s32_0.c), (.int .i64 x32_1)].toArray) ∧
  cond (x20_1 == (2 : Int)) (
  Join [(2, .bool)] (fun (b2 : Bool) (w7 : World) => R (.bool b2) w7) (fun J =>
  cond (x26_1 == (2 : Int)) (cond (x32_1 == (2 : Int)) (Calls Try.prog 14 [].toArray w6 (fun e_7 w8 => ∃ b44 : Bool, e_7 = .returned (.bool b44) ∧
  J b44 w8)) (J false w6)) (J false w6))) (
  cond (x20_1 == (0 : Int)) (
  Join [(2, .bool)] (fun (b2_2 : Bool) (w9 : World) => R (.bool b2_2) w9) (fun J_2 =>
  cond (x26_1 == (5 : Int)) (cond (x32_1 == (0 : Int)) (Calls Try.prog 24 [(.slice s32_0.a s32_0.n s32_0.c), (.slice s20_0.a s20_0.n s20_0.c)].toArray w6 (fun e_8 w10 => ∃ x57 : Int, e_8 = .returned (.int .i64 x57) ∧
  cond (decide (x57 ≤ (0 : Int))) (Calls Try.prog 14 [].toArray w10 (fun e_9 w11 => ∃ b61 : Bool, e_9 = .returned (.bool b61) ∧
  J_2 b61 w11)) (J_2 false w10))) (J_2 false w6)) (J_2 false w6))) (
  Join [(81, .bool)] (fun (b81 : Bool) (w12 : World) => cond b81 (
  R (.bool false) w12) (
  Join [] (fun (w13 : World) => Calls Try.prog 14 [].toArray w13 (fun e_10 w14 => ∃ b143 : Bool, e_10 = .returned (.bool b143) ∧
  R (.bool b143) w14)) (fun J_3 =>
  LoopV [(84, .int .i64)] (fun K => K (0 : Int) w12) (fun N => fun (x84 : Int) (w15 : World) =>
  cond (decide (x84 < ((s26_0.n : Nat) : Int))) (
  Join [] (fun (w16 : World) => N (IntKind.wrap .i64 (x84 + (1 : Int))) w16) (fun J_4 =>
  ∃ p87 : Pt, s26_0.a = some ⟨p87.b, p87.o, none⟩ ∧ 0 ≤ x84 ∧ x84 < ((s26_0.n : Nat) : Int) ∧ ∃ x88 : Int, World.cell? w15 ⟨p87.b, (p87.o + Int.toNat x84 * 1), none⟩ = some (.int .i64 x88) ∧ ((s26_0.n : Nat) : Int) ≠ 0 ∧ ∃ p95 : Pt, s26_0.a = some ⟨p95.b, p95.o, none⟩ ∧ 0 ≤ (Int.tmod (IntKind.wrap .i64 (x84 + (1 : Int))) ((s26_0.n : Nat) : Int)) ∧ (Int.tmod (IntKind.wrap .i64 (x84 + (1 : Int))) ((s26_0.n : Nat) : Int)) < ((s26_0.n : Nat) : Int) ∧ ∃ x96 : Int, World.cell? w15 ⟨p95.b, (p95.o + Int.toNat (Int.tmod (IntKind.wrap .i64 (x84 + (1 : Int))) ((s26_0.n : Nat) : Int)) * 1), none⟩ = some (.int .i64 x96) ∧ Calls Try.prog 12 [(.slice s0.a s0.n s0.c)].toArray w15 (fun e_11 w17 => ∃ s98 : Sl, e_11 = .returned (.slice s98.a s98.n s98.c) ∧
  Join [(12, .slice)] (fun (s12 : Sl) (w18 : World) => Calls Try.prog 17 [(.slice s12.a s12.n s12.c)].toArray w18 (fun e_12 w19 => ∃ s121_0 : Sl, ∃ x121_1 : Int, e_12 = .returned (.tuple [(.slice s121_0.a s121_0.n s121_0.c), (.int .i64 x121_1)].toArray) ∧
  Join [(141, .bool)] (fun (b141 : Bool) (w20 : World) => cond b141 (
  R (.bool false) w20) (
  J_4 w20)) (fun J_5 =>
  cond (x121_1 == (0 : Int)) (∃ (s130 : Sl) (w21 : World), Sem.run Try.prog (Instr.buildSlice 24 2 [(0, (.int .i64 x88)), (1, (.int .i64 x96))].toArray) w19 = .ok (.slice s130.a s130.n s130.c) w21 ∧
  Calls Try.prog 16 [(.slice s121_0.a s121_0.n s121_0.c), (.slice s130.a s130.n s130.c)].toArray w21 (fun e_13 w22 => ∃ b131 : Bool, e_13 = .returned (.bool b131) ∧
  cond (!b131) (J_5 true w22) (cond (x121_1 != (0 : Int)) (J_5 (x121_1 != (8 : Int)) w22) (J_5 false w22)))) (cond (x121_1 != (0 : Int)) (J_5 (x121_1 != (8 : Int)) w19) (J_5 false w19))))) (fun J_6 =>
  LoopV [(12, .slice), (100, .int .i64)] (fun K => K ⟨none, 0, 0⟩ (0 : Int) w17) (fun N_2 => fun (s12_2 : Sl) (x100 : Int) (w23 : World) =>
  cond (decide (x100 < ((s98.n : Nat) : Int))) (
  Join [(12, .slice)] (fun (s12_3 : Sl) (w24 : World) => N_2 ⟨s12_3.a, s12_3.n, s12_3.c⟩ (IntKind.wrap .i64 (x100 + (1 : Int))) w24) (fun J_7 =>
  ∃ p102 : Pt, s98.a = some ⟨p102.b, p102.o, none⟩ ∧ 0 ≤ x100 ∧ x100 < ((s98.n : Nat) : Int) ∧ ∃ x103_0 : Int, ∃ x103_1 : Int, ∃ x103_2 : Int, rd w23 p102.b (p102.o + Int.toNat x100 * 3) [(.int .i64 x103_0), (.int .i64 x103_1), (.int .i64 x103_2)] ∧ Let (w23.alloc (.cells (zc Try.prog 38) 38)) fun w25 => 
  StoreOk w25 w23.heap.size 0 [(.int .i64 x103_0), (.int .i64 x103_1), (.int .i64 x103_2)] 3 ∧ Let (put w25 w23.heap.size 0 [(.int .i64 x103_0), (.int .i64 x103_1), (.int .i64 x103_2)]) fun w26 => 
  Join [(113, .bool)] (fun (b113 : Bool) (w27 : World) => Join [(12, .slice)] (fun (s12_4 : Sl) (w28 : World) => J_7 ⟨s12_4.a, s12_4.n, s12_4.c⟩ w28) (fun J_8 =>
  cond b113 (
  ∃ x115_0 : Int, ∃ x115_1 : Int, ∃ x115_2 : Int, rd w27 w23.heap.size 0 [(.int .i64 x115_0), (.int .i64 x115_1), (.int .i64 x115_2)] ∧ ∃ (s116 : Sl) (w29 : World), Sem.run Try.prog (Instr.buildSlice 29 1 [(0, (.agg [(.int .i64 x115_0), (.int .i64 x115_1), (.int .i64 x115_2)].toArray))].toArray) w27 = .ok (.slice s116.a s116.n s116.c) w29 ∧
  ∃ (s117 : Sl) (w30 : World), Sem.run Try.prog (Builtin.append_ #[29, 29] 29 #[(.slice s12_2.a s12_2.n s12_2.c), (.slice s116.a s116.n s116.c)]) w29 = .ok (.slice s117.a s117.n s117.c) w30 ∧
  J_8 ⟨s117.a, s117.n, s117.c⟩ w30) (
  J_8 ⟨s12_2.a, s12_2.n, s12_2.c⟩ w27))) (fun J_9 =>
  ∃ x105 : Int, World.cell? w26 ⟨w23.heap.size, (0 + 0), none⟩ = some (.int .i64 x105) ∧ cond (x105 == x88) (J_9 true w26) (∃ x110 : Int, World.cell? w26 ⟨w23.heap.size, (0 + 0), none⟩ = some (.int .i64 x110) ∧ J_9 (x110 == x96) w26)))) (
  J_6 ⟨s12_2.a, s12_2.n, s12_2.c⟩ w23)))))) (
  J_3 w15))))) (fun J_10 =>
  cond (x20_1 != (8 : Int)) (J_10 true w6) (cond (x26_1 != (0 : Int)) (J_10 true w6) (cond (decide (((s26_0.n : Nat) : Int) < (2 : Int))) (J_10 true w6) (cond (x32_1 != (0 : Int)) (J_10 (x32_1 != (5 : Int)) w6) (J_10 false w6)))))))))))))
theorem eq7 (s0 : Sl) (R : Value → World → Prop) (w : World) : funV Try.prog Try.f7 A7 [(.slice s0.a s0.n s0.c)] R w = S7 s0 R w := by kernel_rfl
theorem call7 (s0 : Sl) {R : Value → World → Prop} {w : World} (h : S7 s0 R w) : Calls Try.prog 7 [(.slice s0.a s0.n s0.c)].toArray w fun e w' => ∃ v, e = .returned v ∧ R v w' :=
  funV_calls mixed Try.func7 (an := A7) (by rw [eq7]; exact h)

/-- F4: cubeb/cubeblaw05.HistoryExchanged -/
def A4 : An := (.sq .lf (.sq .lf (.sq .lf (.sq .lf (.sq (.sq (.rj [] [(44, .bool)]) (.cd (.sq .lf .lf) .lf)) (.sq .lf (.sq (.df [0, 1, 2, 3, 4, 5, 6, 7, 8] 9 10 [10, 11, 12] [9, 11, 12] [12] [(11, .ptr), (12, .ptr)]) (.sq (.sq (.rj [] [(92, .bool)]) (.cd (.sq .lf .lf) .lf)) (.sq .lf (.sq (.dr [0, 1, 2, 3, 4, 5, 6, 7, 8, 9, 10, 11, 12, 13, 14, 15, 16, 17] [] false none) (.sq .lf (.sq .lf (.sq .lf (.sq (.rj [] [(4, .bool)]) .lf))))))))))))))
def S4 (s0 : Sl) (x1 : Int) (R : Value → World → Prop) (w : World) : Prop :=
  Calls Try.prog 12 [(.slice s0.a s0.n s0.c)].toArray w (fun e w1 => ∃ s22 : Sl, e = .returned (.slice s22.a s22.n s22.c) ∧
  Calls Try.prog 17 [(.slice s22.a s22.n s22.c)].toArray w1 (fun e_2 w2 => ∃ s23_0 : Sl, ∃ x23_1 : Int, e_2 = .returned (.tuple [(.slice s23_0.a s23_0.n s23_0.c), (.int .i64 x23_1)].toArray) ∧
  Calls Try.prog 12 [(.slice s0.a s0.n s0.c)].toArray w2 (fun e_3 w3 => ∃ s28 : Sl, e_3 = .returned (.slice s28.a s28.n s28.c) ∧
  Calls Try.prog 18 [(.slice s28.a s28.n s28.c)].toArray w3 (fun e_4 w4 => ∃ s29_0 : Sl, ∃ x29_1 : Int, e_4 = .returned (.tuple [(.slice s29_0.a s29_0.n s29_0.c), (.int .i64 x29_1)].toArray) ∧
  Calls Try.prog 12 [(.slice s0.a s0.n s0.c)].toArray w4 (fun e_5 w5 => ∃ s34 : Sl, e_5 = .returned (.slice s34.a s34.n s34.c) ∧
  Calls Try.prog 11 [(.slice s34.a s34.n s34.c)].toArray w5 (fun e_6 w6 => ∃ s35_0 : Sl, ∃ x35_1 : Int, e_6 = .returned (.tuple [(.slice s35_0.a s35_0.n s35_0.c), (.int .i64 x35_1)].toArray) ∧
  Join [(44, .bool)] (fun (b44 : Bool) (w7 : World) => cond b44 (
  Calls Try.prog 14 [].toArray w7 (fun e_7 w8 => ∃ b45 : Bool, e_7 = .returned (.bool b45) ∧
  R (.bool b45) w8)) (
  (IntKind.wrap .u64 (IntKind.wrap .i64 (((s0.n : Nat) : Int) - (1 : Int)))) ≠ 0 ∧ Join [(11, .ptr), (12, .ptr)] (fun (p11 : Pt) (p12 : Pt) (w10 : World) => Join [(92, .bool)] (fun (b92 : Bool) (w11 : World) => cond b92 (
  Calls Try.prog 14 [].toArray w11 (fun e_8 w12 => ∃ b93 : Bool, e_8 = .returned (.bool b93) ∧
  R (.bool b93) w12)) (
  Calls Try.prog 12 [(.slice s0.a s0.n s0.c)].toArray w11 (fun e_9 w13 => ∃ s95 : Sl, e_9 = .returned (.slice s95.a s95.n s95.c) ∧
  Let w13.drew fun w14 =>
  ∃ p104 : Pt, s95.a = some ⟨p104.b, p104.o, none⟩ ∧ 0 ≤ (IntKind.wrap .i64 ((IntKind.wrap .i64 (Int.tmod (IntKind.wrap .u64 x1) (IntKind.wrap .u64 (IntKind.wrap .i64 (((s0.n : Nat) : Int) - (1 : Int)))))) + (1 : Int))) ∧ (IntKind.wrap .i64 ((IntKind.wrap .i64 (Int.tmod (IntKind.wrap .u64 x1) (IntKind.wrap .u64 (IntKind.wrap .i64 (((s0.n : Nat) : Int) - (1 : Int)))))) + (1 : Int))) < ((s95.n : Nat) : Int) ∧ ∃ x105_0 : Int, ∃ x105_1 : Int, ∃ x105_2 : Int, rd w14 p104.b (p104.o + Int.toNat (IntKind.wrap .i64 ((IntKind.wrap .i64 (Int.tmod (IntKind.wrap .u64 x1) (IntKind.wrap .u64 (IntKind.wrap .i64 (((s0.n : Nat) : Int) - (1 : Int)))))) + (1 : Int))) * 3) [(.int .i64 x105_0), (.int .i64 x105_1), (.int .i64 x105_2)] ∧ ∃ p108 : Pt, s95.a = some ⟨p108.b, p108.o, none⟩ ∧ 0 ≤ (IntKind.wrap .i64 (Int.tmod (IntKind.wrap .u64 x1) (IntKind.wrap .u64 (IntKind.wrap .i64 (((s0.n : Nat) : Int) - (1 : Int)))))) ∧ (IntKind.wrap .i64 (Int.tmod (IntKind.wrap .u64 x1) (IntKind.wrap .u64 (IntKind.wrap .i64 (((s0.n : Nat) : Int) - (1 : Int)))))) < ((s95.n : Nat) : Int) ∧ ∃ x109_0 : Int, ∃ x109_1 : Int, ∃ x109_2 : Int, rd w14 p108.b (p108.o + Int.toNat (IntKind.wrap .i64 (Int.tmod (IntKind.wrap .u64 x1) (IntKind.wrap .u64 (IntKind.wrap .i64 (((s0.n : Nat) : Int) - (1 : Int)))))) * 3) [(.int .i64 x109_0), (.int .i64 x109_1), (.int .i64 x109_2)] ∧ ∃ p110 : Pt, s95.a = some ⟨p110.b, p110.o, none⟩ ∧ 0 ≤ (IntKind.wrap .i64 (Int.tmod (IntKind.wrap .u64 x1) (IntKind.wrap .u64 (IntKind.wrap .i64 (((s0.n : Nat) : Int) - (1 : Int)))))) ∧ (IntKind.wrap .i64 (Int.tmod (IntKind.wrap .u64 x1) (IntKind.wrap .u64 (IntKind.wrap .i64 (((s0.n : Nat) : Int) - (1 : Int)))))) < ((s95.n : Nat) : Int) ∧ StoreOk w14 p110.b (p110.o + Int.toNat (IntKind.wrap .i64 (Int.tmod (IntKind.wrap .u64 x1) (IntKind.wrap .u64 (IntKind.wrap .i64 (((s0.n : Nat) : Int) - (1 : Int)))))) * 3) [(.int .i64 x105_0), (.int .i64 x105_1), (.int .i64 x105_2)] 3 ∧ Let (put w14 p110.b (p110.o + Int.toNat (IntKind.wrap .i64 (Int.tmod (IntKind.wrap .u64 x1) (IntKind.wrap .u64 (IntKind.wrap .i64 (((s0.n : Nat) : Int) - (1 : Int)))))) * 3) [(.int .i64 x105_0), (.int .i64 x105_1), (.int .i64 x105_2)]) fun w15 => 
  ∃ p111 : Pt, s95.a = some ⟨p111.b, p111.o, none⟩ ∧ 0 ≤ (IntKind.wrap .i64 ((IntKind.wrap .i64 (Int.tmod (IntKind.wrap .u64 x1) (IntKind.wrap .u64 (IntKind.wrap .i64 (((s0.n : Nat) : Int) - (1 : Int)))))) + (1 : Int))) ∧ (IntKind.wrap .i64 ((IntKind.wrap .i64 (Int.tmod (IntKind.wrap .u64 x1) (IntKind.wrap .u64 (IntKind.wrap .i64 (((s0.n : Nat) : Int) - (1 : Int)))))) + (1 : Int))) < ((s95.n : Nat) : Int) ∧ StoreOk w15 p111.b (p111.o + Int.toNat (IntKind.wrap .i64 ((IntKind.wrap .i64 (Int.tmod (IntKind.wrap .u64 x1) (IntKind.wrap .u64 (IntKind.wrap .i64 (((s0.n : Nat) : Int) - (1 : Int)))))) + (1 : Int))) * 3) [(.int .i64 x109_0), (.int .i64 x109_1), (.int .i64 x109_2)] 3 ∧ Let (put w15 p111.b (p111.o + Int.toNat (IntKind.wrap .i64 ((IntKind.wrap .i64 (Int.tmod (IntKind.wrap .u64 x1) (IntKind.wrap .u64 (IntKind.wrap .i64 (((s0.n : Nat) : Int) - (1 : Int)))))) + (1 : Int))) * 3) [(.int .i64 x109_0), (.int .i64 x109_1), (.int .i64 x109_2)]) fun w16 => 
  Calls Try.prog 17 [(.slice s95.a s95.n s95.c)].toArray w16 (fun e_10 w17 => ∃ s114_0 : Sl, ∃ x114_1 : Int, e_10 = .returned (.tuple [(.slice s114_0.a s114_0.n s114_0.c), (.int .i64 x114_1)].toArray) ∧
  Calls Try.prog 18 [(.slice s95.a s95.n s95.c)].toArray w17 (fun e_11 w18 => ∃ s119_0 : Sl, ∃ x119_1 : Int, e_11 = .returned (.tuple [(.slice s119_0.a s119_0.n s119_0.c), (.int .i64 x119_1)].toArray) ∧
  Calls Try.prog 11 [(.slice s95.a s95.n s95.c)].toArray w18 (fun e_12 w19 => ∃ s124_0 : Sl, ∃ x124_1 : Int, e_12 = .returned (.tuple [(.slice s124_0.a s124_0.n s124_0.c), (.int .i64 x124_1)].toArray) ∧
  Join [(4, .bool)] (fun (b4 : Bool) (w20 : World) => R (.bool b4) w20) (fun J =>
  Calls Try.prog 16 [(.slice s23_0.a s23_0.n s23_0.c), (.slice s114_0.a s114_0.n s114_0.c)].toArray w19 (fun e_13 w21 => ∃ b129 : Bool, e_13 = .returned (.bool b129) ∧
  cond b129 (cond (x23_1 == x114_1) (Calls Try.prog 16 [(.slice s29_0.a s29_0.n s29_0.c), (.slice s119_0.a s119_0.n s119_0.c)].toArray w21 (fun e_14 w22 => ∃ b138 : Bool, e_14 = .returned (.bool b138) ∧
  cond b138 (cond (x29_1 == x119_1) (Calls Try.prog 16 [(.slice s35_0.a s35_0.n s35_0.c), (.slice s124_0.a s124_0.n s124_0.c)].toArray w22 (fun e_15 w23 => ∃ b148 : Bool, e_15 = .returned (.bool b148) ∧
  cond b148 (cond (x35_1 == x124_1) (Calls Try.prog 14 [].toArray w23 (fun e_16 w24 => ∃ b156 : Bool, e_16 = .returned (.bool b156) ∧
  J b156 w24)) (J false w23)) (J false w23))) (J false w22)) (J false w22))) (J false w21)) (J false w21))))))))) (fun J_2 =>
  ∃ x64 : Int, World.cell? w10 ⟨p11.b, (p11.o + 0), none⟩ = some (.int .i64 x64) ∧ ∃ x66 : Int, World.cell? w10 ⟨p12.b, (p12.o + 0), none⟩ = some (.int .i64 x66) ∧ cond (x64 == x66) (J_2 true w10) (∃ x70 : Int, World.cell? w10 ⟨p11.b, (p11.o + 1), none⟩ = some (.int .i64 x70) ∧ cond (decide (x70 > (1 : Int))) (J_2 true w10) (∃ x75 : Int, World.cell? w10 ⟨p12.b, (p12.o + 1), none⟩ = some (.int .i64 x75) ∧ cond (decide (x75 > (1 : Int))) (J_2 true w10) (∃ x80 : Int, World.cell? w10 ⟨p11.b, (p11.o + 2), none⟩ = some (.int .i64 x80) ∧ ∃ x82 : Int, World.cell? w10 ⟨p12.b, (p12.o + 2), none⟩ = some (.int .i64 x82) ∧ cond (x80 == x82) (∃ x86 : Int, World.cell? w10 ⟨p11.b, (p11.o + 1), none⟩ = some (.int .i64 x86) ∧ ∃ x88 : Int, World.cell? w10 ⟨p12.b, (p12.o + 1), none⟩ = some (.int .i64 x88) ∧ J_2 (decide ((IntKind.wrap .i64 (x86 + x88)) > (0 : Int))) w10) (J_2 false w10)))))) (fun J_3 =>
  ∃ S1 : World → Prop, S1 w7.drew ∧ Let w7.drew fun w9 =>
  ∃ p56 : Pt, s0.a = some ⟨p56.b, p56.o, none⟩ ∧ 0 ≤ (IntKind.wrap .i64 (Int.tmod (IntKind.wrap .u64 x1) (IntKind.wrap .u64 (IntKind.wrap .i64 (((s0.n : Nat) : Int) - (1 : Int)))))) ∧ (IntKind.wrap .i64 (Int.tmod (IntKind.wrap .u64 x1) (IntKind.wrap .u64 (IntKind.wrap .i64 (((s0.n : Nat) : Int) - (1 : Int)))))) < ((s0.n : Nat) : Int) ∧ ∃ x57_0 : Int, ∃ x57_1 : Int, ∃ x57_2 : Int, (∀ u, S1 u → rd u p56.b (p56.o + Int.toNat (IntKind.wrap .i64 (Int.tmod (IntKind.wrap .u64 x1) (IntKind.wrap .u64 (IntKind.wrap .i64 (((s0.n : Nat) : Int) - (1 : Int)))))) * 3) [(.int .i64 x57_0), (.int .i64 x57_1), (.int .i64 x57_2)]) ∧ ∃ p61 : Pt, s0.a = some ⟨p61.b, p61.o, none⟩ ∧ 0 ≤ (IntKind.wrap .i64 ((IntKind.wrap .i64 (Int.tmod (IntKind.wrap .u64 x1) (IntKind.wrap .u64 (IntKind.wrap .i64 (((s0.n : Nat) : Int) - (1 : Int)))))) + (1 : Int))) ∧ (IntKind.wrap .i64 ((IntKind.wrap .i64 (Int.tmod (IntKind.wrap .u64 x1) (IntKind.wrap .u64 (IntKind.wrap .i64 (((s0.n : Nat) : Int) - (1 : Int)))))) + (1 : Int))) < ((s0.n : Nat) : Int) ∧ ∃ x62_0 : Int, ∃ x62_1 : Int, ∃ x62_2 : Int, (∀ u, S1 u → rd u p61.b (p61.o + Int.toNat (IntKind.wrap .i64 ((IntKind.wrap .i64 (Int.tmod (IntKind.wrap .u64 x1) (IntKind.wrap .u64 (IntKind.wrap .i64 (((s0.n : Nat) : Int) - (1 : Int)))))) + (1 : Int))) * 3) [(.int .i64 x62_0), (.int .i64 x62_1), (.int .i64 x62_2)]) ∧ (Let (w9.alloc (.cells (zc Try.prog 37) 37)) fun w25 => 
  S1 w25 ∧ Let (w25.alloc (.cells (zc Try.prog 37) 37)) fun w26 => 
  S1 w26 ∧ StoreOk w26 w9.heap.size 0 [(.int .i64 x57_0), (.int .i64 x57_1), (.int .i64 x57_2)] 3 ∧ Let (put w26 w9.heap.size 0 [(.int .i64 x57_0), (.int .i64 x57_1), (.int .i64 x57_2)]) fun w27 => 
  S1 w27 ∧ StoreOk w27 w25.heap.size 0 [(.int .i64 x62_0), (.int .i64 x62_1), (.int .i64 x62_2)] 3 ∧ Let (put w27 w25.heap.size 0 [(.int .i64 x62_0), (.int .i64 x62_1), (.int .i64 x62_2)]) fun w28 => 
  J_3 ⟨w9.heap.size, 0⟩ ⟨w25.heap.size, 0⟩ w28) ∧
  (Let (w9.alloc (.cells (zc Try.prog 37) 37)) fun w29 => 
  S1 w29 ∧ Let (w29.alloc (.cells (zc Try.prog 37) 37)) fun w30 => 
  S1 w30 ∧ StoreOk w30 w29.heap.size 0 [(.int .i64 x57_0), (.int .i64 x57_1), (.int .i64 x57_2)] 3 ∧ Let (put w30 w29.heap.size 0 [(.int .i64 x57_0), (.int .i64 x57_1), (.int .i64 x57_2)]) fun w31 => 
  S1 w31 ∧ StoreOk w31 w9.heap.size 0 [(.int .i64 x62_0), (.int .i64 x62_1), (.int .i64 x62_2)] 3 ∧ Let (put w31 w9.heap.size 0 [(.int .i64 x62_0), (.int .i64 x62_1), (.int .i64 x62_2)]) fun w32 => 
  J_3 ⟨w29.heap.size, 0⟩ ⟨w9.heap.size, 0⟩ w32)))) (fun J_4 =>
  cond (x23_1 == (2 : Int)) (J_4 true w6) (J_4 (decide (((s0.n : Nat) : Int) < (2 : Int))) w6))))))))
theorem eq4 (s0 : Sl) (x1 : Int) (R : Value → World → Prop) (w : World) : funV Try.prog Try.f4 A4 [(.slice s0.a s0.n s0.c), (.int .i64 x1)] R w = S4 s0 x1 R w := by kernel_rfl
theorem call4 (s0 : Sl) (x1 : Int) {R : Value → World → Prop} {w : World} (h : S4 s0 x1 R w) : Calls Try.prog 4 [(.slice s0.a s0.n s0.c), (.int .i64 x1)].toArray w fun e w' => ∃ v, e = .returned v ∧ R v w' :=
  funV_calls mixed Try.func4 (an := A4) (by rw [eq4]; exact h)

end Go.Proofs.Ytnbkihkdfhjlmaa
