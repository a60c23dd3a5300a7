/-
  Printed by a program of this session (wip/tools/vcprint.py): of each Go function the shallow form, and that the calculus comes to it, by the kernel.
-/
import Derived.Test.YtnbkihkdfhjlmaaSa
import Derived.Test.YtnbkihkdfhjlmaaProg
import Derived.KernelRfl
namespace Go.Proofs.Ytnbkihkdfhjlmaa
open Go Go.VC
set_option maxRecDepth 100000

/-- F79: (*cubeb/history.locks).hinders -/
def An79 : An := (.sq .lf (.sq .lf (.sq (.sq (.dr [0, 1, 2, 3, 4, 5, 6, 7] [] false none) (.sq (.rj [] [(22, .bool)]) (.cj [(5, .slice)] .lf .lf))) (.sq (.sq (.dr [0, 1, 2, 3, 4, 5, 6, 7] [] true none) (.bk [(5, .slice)] (.lp [(5, .slice)] (.sq .lf (.sq (.cd .lf .lf) (.bk [(5, .slice)] (.sq (.lf [(0, 3, 4)]) (.sq (.rj [] [(47, .bool)]) (.cj [(5, .slice)] .lf .lf))))))))) (.sq .lf .lf)))))
def S79 (p0 : Pt) (x1_0 : Int) (x1_1 : Int) (x1_2 : Int) (R : Value → World → Prop) (w : World) : Prop :=
  Let (w.alloc (.cells [(.int .i64 x1_0), (.int .i64 x1_1), (.int .i64 x1_2)].toArray 38)) fun w1 => 
  Let w1.drew fun w2 =>
  ∃ x10 : Int, World.cell? w2 ⟨w.heap.size, (0 + 2), none⟩ = some (.int .i64 x10) ∧ 0 ≤ x10 ∧ x10 < ((6 : Nat) : Int) ∧ ∃ x14 : Int, World.cell? w2 ⟨p0.b, ((p0.o + 6) + Int.toNat x10 * 1), none⟩ = some (.int .i64 x14) ∧ Join [(22, .bool)] (fun (b22 : Bool) (w3 : World) => Join [(5, .slice)] (fun (s5 : Sl) (w4 : World) => ∃ S1 : World → Prop, S1 w4.drew ∧ Let w4.drew fun w5 =>
  ∃ x29 : Int, (∀ u, S1 u → World.cell? u ⟨w.heap.size, (0 + 2), none⟩ = some (.int .i64 x29)) ∧ 0 ≤ x29 ∧ x29 < ((6 : Nat) : Int) ∧ ∃ m33 : Option Nat, (∀ u, S1 u → World.cell? u ⟨p0.b, ((p0.o + 0) + Int.toNat x29 * 1), none⟩ = some (.map m33)) ∧ ∃ (p34 : Pt) (w6 : World), Sem.run Try.prog (Instr.range 84 (.map m33)) w5 = .ok (.pointer (some ⟨p34.b, p34.o, none⟩)) w6 ∧
  S1 w6 ∧ Join [(5, .slice)] (fun (s5_2 : Sl) (w7 : World) => R (.slice s5_2.a s5_2.n s5_2.c) w7) (fun J =>
  LoopV [(5, .slice)] (fun K => K ⟨s5.a, s5.n, s5.c⟩ w6) (fun N => fun (s5_3 : Sl) (w8 : World) =>
  ∃ (b35 : Bool) (kv35 : List Value) (w9 : World), Sem.run Try.prog (Instr.next (.pointer (some ⟨p34.b, p34.o, none⟩)) false 0) w8 = .ok (.tuple (Value.bool b35 :: kv35).toArray) w9 ∧
  cond b35 (
  Join [(5, .slice)] (fun (s5_4 : Sl) (w10 : World) => N ⟨s5_4.a, s5_4.n, s5_4.c⟩ w10) (fun J_2 =>
  ∃ x37_k : Int, ∃ b37_v : Bool, Sem.run Try.prog (Instr.entry (.pointer (some ⟨p34.b, p34.o, none⟩))) w9 = .ok (.tuple #[(.int .i64 x37_k), (.bool b37_v)]) w9 ∧ Join [(47, .bool)] (fun (b47 : Bool) (w11 : World) => Join [(5, .slice)] (fun (s5_5 : Sl) (w12 : World) => J_2 ⟨s5_5.a, s5_5.n, s5_5.c⟩ w12) (fun J_3 =>
  cond b47 (
  ∃ (s50 : Sl) (w13 : World), Sem.run Try.prog (Instr.buildSlice 24 1 [(0, (.int .i64 x37_k))].toArray) w11 = .ok (.slice s50.a s50.n s50.c) w13 ∧
  ∃ (s51 : Sl) (w14 : World), Sem.run Try.prog (Builtin.append_ #[24, 24] 24 #[(.slice s5_3.a s5_3.n s5_3.c), (.slice s50.a s50.n s50.c)]) w13 = .ok (.slice s51.a s51.n s51.c) w14 ∧
  J_3 ⟨s51.a, s51.n, s51.c⟩ w14) (
  J_3 ⟨s5_3.a, s5_3.n, s5_3.c⟩ w11))) (fun J_4 =>
  ∃ x40 : Int, World.cell? w9 ⟨w.heap.size, (0 + 1), none⟩ = some (.int .i64 x40) ∧ cond (x40 == (1 : Int)) (∃ x45 : Int, World.cell? w9 ⟨w.heap.size, (0 + 0), none⟩ = some (.int .i64 x45) ∧ J_4 (x37_k != x45) w9) (J_4 false w9)))) (
  J ⟨s5_3.a, s5_3.n, s5_3.c⟩ w9)))) (fun J_5 =>
  cond b22 (
  ∃ (s25 : Sl) (w15 : World), Sem.run Try.prog (Instr.buildSlice 24 1 [(0, (.int .i64 x14))].toArray) w3 = .ok (.slice s25.a s25.n s25.c) w15 ∧
  ∃ (s26 : Sl) (w16 : World), Sem.run Try.prog (Builtin.append_ #[24, 24] 24 #[(.slice none 0 0), (.slice s25.a s25.n s25.c)]) w15 = .ok (.slice s26.a s26.n s26.c) w16 ∧
  J_5 ⟨s26.a, s26.n, s26.c⟩ w16) (
  J_5 ⟨none, 0, 0⟩ w3))) (fun J_6 =>
  cond (x14 != (0 : Int)) (∃ x20 : Int, World.cell? w2 ⟨w.heap.size, (0 + 0), none⟩ = some (.int .i64 x20) ∧ J_6 (x14 != x20) w2) (J_6 false w2))
theorem eq79 (p0 : Pt) (x1_0 : Int) (x1_1 : Int) (x1_2 : Int) (R : Value → World → Prop) (w : World) : funV Try.prog Try.f79 An79 [(.pointer (some ⟨p0.b, p0.o, none⟩)), (.agg [(.int .i64 x1_0), (.int .i64 x1_1), (.int .i64 x1_2)].toArray)] R w = S79 p0 x1_0 x1_1 x1_2 R w := by kernel_rfl
theorem call79 (p0 : Pt) (x1_0 : Int) (x1_1 : Int) (x1_2 : Int) {R : Value → World → Prop} {w : World} (h : S79 p0 x1_0 x1_1 x1_2 R w) : Calls Try.prog 79 [(.pointer (some ⟨p0.b, p0.o, none⟩)), (.agg [(.int .i64 x1_0), (.int .i64 x1_1), (.int .i64 x1_2)].toArray)].toArray w fun e w' => ∃ v, e = .returned v ∧ R v w' :=
  funV_calls mixed Try.func79 (an := An79) (by rw [eq79]; exact h)

/-- F93: (*cubeb/history.locks).take -/
def An93 : An := (.sq .lf (.sq (.sq .lf (.cd (.sq (.dr [0, 1, 2, 3, 4, 5, 6, 7, 8] [] false none) .lf) .lf)) (.sq (.sq (.dr [0, 1, 2, 3, 4, 5, 6, 7] [] false none) (.cj [] (.dr [0, 1, 2, 4, 5, 3, 6, 7] [7] true none) .lf)) (.dr [0, 1, 2, 3, 4, 5, 6, 7, 8, 9] [] false none))))
def S93 (p0 : Pt) (x1_0 : Int) (x1_1 : Int) (x1_2 : Int) (R : Value → World → Prop) (w : World) : Prop :=
  Let (w.alloc (.cells [(.int .i64 x1_0), (.int .i64 x1_1), (.int .i64 x1_2)].toArray 38)) fun w1 => 
  ∃ x5 : Int, World.cell? w1 ⟨w.heap.size, (0 + 1), none⟩ = some (.int .i64 x5) ∧ cond (x5 == (1 : Int)) (
  Let w1.drew fun w2 =>
  ∃ x9 : Int, World.cell? w2 ⟨w.heap.size, (0 + 2), none⟩ = some (.int .i64 x9) ∧ ∃ x11 : Int, World.cell? w2 ⟨w.heap.size, (0 + 0), none⟩ = some (.int .i64 x11) ∧ 0 ≤ x9 ∧ x9 < ((6 : Nat) : Int) ∧ StoreOk w2 p0.b ((p0.o + 6) + Int.toNat x9 * 1) [(.int .i64 x11)] 1 ∧ Let (put w2 p0.b ((p0.o + 6) + Int.toNat x9 * 1) [(.int .i64 x11)]) fun w3 => 
  R (.tuple [].toArray) w3) (
  Let w1.drew fun w4 =>
  ∃ x17 : Int, World.cell? w4 ⟨w.heap.size, (0 + 2), none⟩ = some (.int .i64 x17) ∧ 0 ≤ x17 ∧ x17 < ((6 : Nat) : Int) ∧ ∃ m21 : Option Nat, World.cell? w4 ⟨p0.b, ((p0.o + 0) + Int.toNat x17 * 1), none⟩ = some (.map m21) ∧ Join [] (fun (w5 : World) => Let w5.drew fun w6 =>
  ∃ x32 : Int, World.cell? w6 ⟨w.heap.size, (0 + 2), none⟩ = some (.int .i64 x32) ∧ 0 ≤ x32 ∧ x32 < ((6 : Nat) : Int) ∧ ∃ m36 : Option Nat, World.cell? w6 ⟨p0.b, ((p0.o + 0) + Int.toNat x32 * 1), none⟩ = some (.map m36) ∧ ∃ x38 : Int, World.cell? w6 ⟨w.heap.size, (0 + 0), none⟩ = some (.int .i64 x38) ∧ ∃ w7 : World, Sem.run Try.prog (Instr.mapUpdate 84 (.map m36) (.int .i64 x38) (.bool true)) w6 = .ok () w7 ∧
  R (.tuple [].toArray) w7) (fun J =>
  cond (Option.isNone m21) (
  ∃ S1 : World → Prop, S1 w4.drew ∧ Let w4.drew fun w8 =>
  ∃ x25 : Int, (∀ u, S1 u → World.cell? u ⟨w.heap.size, (0 + 2), none⟩ = some (.int .i64 x25)) ∧ Let (w8.alloc (.map #[] 0)) fun w9 => 
  S1 w9 ∧ 0 ≤ x25 ∧ x25 < ((6 : Nat) : Int) ∧ StoreOk w9 p0.b ((p0.o + 0) + Int.toNat x25 * 1) [(.map (some w8.heap.size))] 1 ∧ Let (put w9 p0.b ((p0.o + 0) + Int.toNat x25 * 1) [(.map (some w8.heap.size))]) fun w10 => 
  J w10) (
  J w4)))
theorem eq93 (p0 : Pt) (x1_0 : Int) (x1_1 : Int) (x1_2 : Int) (R : Value → World → Prop) (w : World) : funV Try.prog Try.f93 An93 [(.pointer (some ⟨p0.b, p0.o, none⟩)), (.agg [(.int .i64 x1_0), (.int .i64 x1_1), (.int .i64 x1_2)].toArray)] R w = S93 p0 x1_0 x1_1 x1_2 R w := by kernel_rfl
theorem call93 (p0 : Pt) (x1_0 : Int) (x1_1 : Int) (x1_2 : Int) {R : Value → World → Prop} {w : World} (h : S93 p0 x1_0 x1_1 x1_2 R w) : Calls Try.prog 93 [(.pointer (some ⟨p0.b, p0.o, none⟩)), (.agg [(.int .i64 x1_0), (.int .i64 x1_1), (.int .i64 x1_2)].toArray)].toArray w fun e w' => ∃ v, e = .returned v ∧ R v w' :=
  funV_calls mixed Try.func93 (an := An93) (by rw [eq93]; exact h)

/-- F78: (*cubeb/history.locks).release -/
def An78 : An := (.sq .lf (.bk [] (.lp [(5, .int .i64)] (.sq .lf (.sq (.cd .lf .lf) (.sq (.bk [] (.sq .lf (.sq .lf (.sq .lf (.cj [] .lf .lf))))) .lf))))))
def S78 (p0 : Pt) (x1 : Int) (R : Value → World → Prop) (w : World) : Prop :=
  Join [] (fun (w1 : World) => R (.tuple [].toArray) w1) (fun J =>
  LoopV [(5, .int .i64)] (fun K => K (0 : Int) w) (fun N => fun (x5 : Int) (w2 : World) =>
  cond (decide (x5 < (6 : Int))) (
  Join [] (fun (w3 : World) => N (IntKind.wrap .i64 (x5 + (1 : Int))) w3) (fun J_2 =>
  0 ≤ x5 ∧ x5 < ((6 : Nat) : Int) ∧ ∃ m13 : Option Nat, World.cell? w2 ⟨p0.b, ((p0.o + 0) + Int.toNat x5 * 1), none⟩ = some (.map m13) ∧ ∃ w4 : World, Sem.run Try.prog (Builtin.delete_ #[84, 3] 0 #[(.map m13), (.int .i64 x1)]) w2 = .ok (.tuple #[]) w4 ∧
  0 ≤ x5 ∧ x5 < ((6 : Nat) : Int) ∧ ∃ x20 : Int, World.cell? w4 ⟨p0.b, ((p0.o + 6) + Int.toNat x5 * 1), none⟩ = some (.int .i64 x20) ∧ Join [] (fun (w5 : World) => J_2 w5) (fun J_3 =>
  cond (x20 == x1) (
  0 ≤ x5 ∧ x5 < ((6 : Nat) : Int) ∧ StoreOk w4 p0.b ((p0.o + 6) + Int.toNat x5 * 1) [(.int .i64 (0 : Int))] 1 ∧ Let (put w4 p0.b ((p0.o + 6) + Int.toNat x5 * 1) [(.int .i64 (0 : Int))]) fun w6 => 
  J_3 w6) (
  J_3 w4)))) (
  J w2)))
theorem eq78 (p0 : Pt) (x1 : Int) (R : Value → World → Prop) (w : World) : funV Try.prog Try.f78 An78 [(.pointer (some ⟨p0.b, p0.o, none⟩)), (.int .i64 x1)] R w = S78 p0 x1 R w := by kernel_rfl
theorem call78 (p0 : Pt) (x1 : Int) {R : Value → World → Prop} {w : World} (h : S78 p0 x1 R w) : Calls Try.prog 78 [(.pointer (some ⟨p0.b, p0.o, none⟩)), (.int .i64 x1)].toArray w fun e w' => ∃ v, e = .returned v ∧ R v w' :=
  funV_calls mixed Try.func78 (an := An78) (by rw [eq78]; exact h)

/-- F77: (*cubeb/history.run).circle -/
def An77 : An := (.sq .lf (.sq .lf (.sq .lf (.sq (.bk [] (.lp [(6, .slice)] (.sq (.sq .lf (.cd .lf .lf)) (.bk [(6, .slice)] (.sq .lf (.sq .lf (.sq .lf (.sq (.sq .lf (.cd .lf .lf)) (.sq (.dr [0, 1, 2, 3, 4, 5, 6, 9, 7, 8] [] true none) (.bk [(6, .slice)] (.lp [(6, .slice), (40, .int .i64)] (.sq .lf (.sq (.cd .lf .lf) (.sq (.bk [(6, .slice)] (.sq .lf (.sq (.sq .lf (.cd (.sq .lf .lf) .lf)) (.sq .lf (.cj [(6, .slice)] (.sq .lf .lf) .lf))))) .lf)))))))))))))) (.sq .lf .lf)))))
def S77 (p0 : Pt) (x1 : Int) (R : Value → World → Prop) (w : World) : Prop :=
  Let (w.alloc (.map #[] 0)) fun w1 => 
  ∃ (s13 : Sl) (w2 : World), Sem.run Try.prog (Instr.buildSlice 24 1 [(0, (.int .i64 x1))].toArray) w1 = .ok (.slice s13.a s13.n s13.c) w2 ∧
  Join [] (fun (w3 : World) => R (.bool false) w3) (fun J =>
  LoopV [(6, .slice)] (fun K => K ⟨s13.a, s13.n, s13.c⟩ w2) (fun N => fun (s6 : Sl) (w4 : World) =>
  cond (decide (((s6.n : Nat) : Int) > (0 : Int))) (
  Join [(6, .slice)] (fun (s6_2 : Sl) (w5 : World) => N ⟨s6_2.a, s6_2.n, s6_2.c⟩ w5) (fun J_2 =>
  ∃ p18 : Pt, s6.a = some ⟨p18.b, p18.o, none⟩ ∧ 0 ≤ (0 : Int) ∧ (0 : Int) < ((s6.n : Nat) : Int) ∧ ∃ x19 : Int, World.cell? w4 ⟨p18.b, (p18.o + Int.toNat (0 : Int) * 1), none⟩ = some (.int .i64 x19) ∧ 0 ≤ (1 : Int) ∧ (1 : Int) ≤ ((s6.n : Nat) : Int) ∧ ∃ m25 : Option Nat, World.cell? w4 ⟨p0.b, (p0.o + 14), none⟩ = some (.map m25) ∧ ∃ s27 : Sl, Sem.run Try.prog (Instr.lookup 83 (.map m25) (.int .i64 x19) false) w4 = .ok (.slice s27.a s27.n s27.c) w4 ∧ cond (((s27.n : Nat) : Int) == (0 : Int)) (
  J_2 ⟨(subA s6.a s6.c (Int.toNat (1 : Int)) 1), (s6.n - (Int.toNat (1 : Int))), (s6.c - (Int.toNat (1 : Int)))⟩ w4) (
  ∃ S1 : World → Prop, S1 w4.drew ∧ Let w4.drew fun w6 =>
  ∃ p35 : Pt, s27.a = some ⟨p35.b, p35.o, none⟩ ∧ 0 ≤ (0 : Int) ∧ (0 : Int) < ((s27.n : Nat) : Int) ∧ ∃ x37_0 : Int, ∃ x37_1 : Int, ∃ x37_2 : Int, (∀ u, S1 u → rd u p35.b ((p35.o + Int.toNat (0 : Int) * 4) + 0) [(.int .i64 x37_0), (.int .i64 x37_1), (.int .i64 x37_2)]) ∧ Calls Try.prog 79 [(.pointer (some ⟨p0.b, (p0.o + 0), none⟩)), (.agg [(.int .i64 x37_0), (.int .i64 x37_1), (.int .i64 x37_2)].toArray)].toArray w6 (fun e w7 => ∃ s38 : Sl, e = .returned (.slice s38.a s38.n s38.c) ∧
  S1 w7 ∧ Join [(6, .slice)] (fun (s6_3 : Sl) (w8 : World) => J_2 ⟨s6_3.a, s6_3.n, s6_3.c⟩ w8) (fun J_3 =>
  LoopV [(6, .slice), (40, .int .i64)] (fun K => K ⟨(subA s6.a s6.c (Int.toNat (1 : Int)) 1), (s6.n - (Int.toNat (1 : Int))), (s6.c - (Int.toNat (1 : Int)))⟩ (0 : Int) w7) (fun N_2 => fun (s6_4 : Sl) (x40 : Int) (w9 : World) =>
  cond (decide (x40 < ((s38.n : Nat) : Int))) (
  Join [(6, .slice)] (fun (s6_5 : Sl) (w10 : World) => N_2 ⟨s6_5.a, s6_5.n, s6_5.c⟩ (IntKind.wrap .i64 (x40 + (1 : Int))) w10) (fun J_4 =>
  ∃ p42 : Pt, s38.a = some ⟨p42.b, p42.o, none⟩ ∧ 0 ≤ x40 ∧ x40 < ((s38.n : Nat) : Int) ∧ ∃ x43 : Int, World.cell? w9 ⟨p42.b, (p42.o + Int.toNat x40 * 1), none⟩ = some (.int .i64 x43) ∧ cond (x43 == x1) (
  R (.bool true) w9) (
  ∃ b49 : Bool, Sem.run Try.prog (Instr.lookup 84 (.map (some w.heap.size)) (.int .i64 x43) false) w9 = .ok (.bool b49) w9 ∧ Join [(6, .slice)] (fun (s6_6 : Sl) (w11 : World) => J_4 ⟨s6_6.a, s6_6.n, s6_6.c⟩ w11) (fun J_5 =>
  cond (!b49) (
  ∃ w12 : World, Sem.run Try.prog (Instr.mapUpdate 84 (.map (some w.heap.size)) (.int .i64 x43) (.bool true)) w9 = .ok () w12 ∧
  ∃ (s55 : Sl) (w13 : World), Sem.run Try.prog (Instr.buildSlice 24 1 [(0, (.int .i64 x43))].toArray) w12 = .ok (.slice s55.a s55.n s55.c) w13 ∧
  ∃ (s56 : Sl) (w14 : World), Sem.run Try.prog (Builtin.append_ #[24, 24] 24 #[(.slice s6_4.a s6_4.n s6_4.c), (.slice s55.a s55.n s55.c)]) w13 = .ok (.slice s56.a s56.n s56.c) w14 ∧
  J_5 ⟨s56.a, s56.n, s56.c⟩ w14) (
  J_5 ⟨s6_4.a, s6_4.n, s6_4.c⟩ w9))))) (
  J_3 ⟨s6_4.a, s6_4.n, s6_4.c⟩ w9))))))) (
  J w4)))
theorem eq77 (p0 : Pt) (x1 : Int) (R : Value → World → Prop) (w : World) : funV Try.prog Try.f77 An77 [(.pointer (some ⟨p0.b, p0.o, none⟩)), (.int .i64 x1)] R w = S77 p0 x1 R w := by kernel_rfl
theorem call77 (p0 : Pt) (x1 : Int) {R : Value → World → Prop} {w : World} (h : S77 p0 x1 R w) : Calls Try.prog 77 [(.pointer (some ⟨p0.b, p0.o, none⟩)), (.int .i64 x1)].toArray w fun e w' => ∃ v, e = .returned v ∧ R v w' :=
  funV_calls mixed Try.func77 (an := An77) (by rw [eq77]; exact h)

/-- F76: (*cubeb/history.run).try -/
def An76 : An := (.sq .lf (.sq .lf (.sq (.sq .lf (.cj [] (.sq (.sq (.dr [0, 1, 2, 3, 4, 5, 6] [] true none) (.cd (.sq .lf .lf) .lf)) (.dr [0, 1, 2, 3, 4] [] false none)) .lf)) (.sq (.dr [0, 1, 2, 3, 4, 5, 6, 7, 8, 9, 10] [10] true none) (.sq (.dr [0, 1, 2, 3, 4, 5, 6, 7, 8, 9, 10, 11, 12] [] false none) (.sq .lf .lf))))))
def S76 (p0 : Pt) (x1 : Int) (R : Value → World → Prop) (w : World) : Prop :=
  ∃ m9 : Option Nat, World.cell? w ⟨p0.b, (p0.o + 14), none⟩ = some (.map m9) ∧ ∃ s11 : Sl, Sem.run Try.prog (Instr.lookup 83 (.map m9) (.int .i64 x1) false) w = .ok (.slice s11.a s11.n s11.c) w ∧ ∃ p12 : Pt, s11.a = some ⟨p12.b, p12.o, none⟩ ∧ 0 ≤ (0 : Int) ∧ (0 : Int) < ((s11.n : Nat) : Int) ∧ ∃ x14_0 : Int, ∃ x14_1 : Int, ∃ x14_2 : Int, rd w p12.b ((p12.o + Int.toNat (0 : Int) * 4) + 0) [(.int .i64 x14_0), (.int .i64 x14_1), (.int .i64 x14_2)] ∧ Let (w.alloc (.cells (zc Try.prog 38) 38)) fun w1 => 
  StoreOk w1 w.heap.size 0 [(.int .i64 x14_0), (.int .i64 x14_1), (.int .i64 x14_2)] 3 ∧ Let (put w1 w.heap.size 0 [(.int .i64 x14_0), (.int .i64 x14_1), (.int .i64 x14_2)]) fun w2 => 
  ∃ x16 : Int, World.cell? w2 ⟨w.heap.size, (0 + 1), none⟩ = some (.int .i64 x16) ∧ Join [] (fun (w3 : World) => ∃ S1 : World → Prop, S1 w3.drew ∧ Let w3.drew fun w4 =>
  ∃ s39 : Sl, (∀ u, S1 u → World.cell? u ⟨p0.b, (p0.o + 12), none⟩ = some (.slice s39.a s39.n s39.c)) ∧ ∃ x40_0 : Int, ∃ x40_1 : Int, ∃ x40_2 : Int, (∀ u, S1 u → rd u w.heap.size 0 [(.int .i64 x40_0), (.int .i64 x40_1), (.int .i64 x40_2)]) ∧ ∃ (s41 : Sl) (w5 : World), Sem.run Try.prog (Instr.buildSlice 29 1 [(0, (.agg [(.int .i64 x40_0), (.int .i64 x40_1), (.int .i64 x40_2)].toArray))].toArray) w4 = .ok (.slice s41.a s41.n s41.c) w5 ∧
  S1 w5 ∧ ∃ (s42 : Sl) (w6 : World), Sem.run Try.prog (Builtin.append_ #[29, 29] 29 #[(.slice s39.a s39.n s39.c), (.slice s41.a s41.n s41.c)]) w5 = .ok (.slice s42.a s42.n s42.c) w6 ∧
  S1 w6 ∧ StoreOk w6 p0.b (p0.o + 12) [(.slice s42.a s42.n s42.c)] 1 ∧ Let (put w6 p0.b (p0.o + 12) [(.slice s42.a s42.n s42.c)]) fun w7 => 
  Let w7.drew fun w8 =>
  ∃ m48 : Option Nat, World.cell? w8 ⟨p0.b, (p0.o + 14), none⟩ = some (.map m48) ∧ ∃ m53 : Option Nat, World.cell? w8 ⟨p0.b, (p0.o + 14), none⟩ = some (.map m53) ∧ ∃ s55 : Sl, Sem.run Try.prog (Instr.lookup 83 (.map m53) (.int .i64 x1) false) w8 = .ok (.slice s55.a s55.n s55.c) w8 ∧ 0 ≤ (1 : Int) ∧ (1 : Int) ≤ ((s55.n : Nat) : Int) ∧ ∃ w9 : World, Sem.run Try.prog (Instr.mapUpdate 83 (.map m48) (.int .i64 x1) (.slice (subA s55.a s55.c (Int.toNat (1 : Int)) 4) (s55.n - (Int.toNat (1 : Int))) (s55.c - (Int.toNat (1 : Int))))) w8 = .ok () w9 ∧
  R (.bool true) w9) (fun J =>
  cond (decide (x16 ≤ (1 : Int))) (
  ∃ S2 : World → Prop, S2 w2.drew ∧ Let w2.drew fun w10 =>
  ∃ x21_0 : Int, ∃ x21_1 : Int, ∃ x21_2 : Int, (∀ u, S2 u → rd u w.heap.size 0 [(.int .i64 x21_0), (.int .i64 x21_1), (.int .i64 x21_2)]) ∧ Calls Try.prog 79 [(.pointer (some ⟨p0.b, (p0.o + 0), none⟩)), (.agg [(.int .i64 x21_0), (.int .i64 x21_1), (.int .i64 x21_2)].toArray)].toArray w10 (fun e w11 => ∃ s22 : Sl, e = .returned (.slice s22.a s22.n s22.c) ∧
  S2 w11 ∧ cond (decide (((s22.n : Nat) : Int) > (0 : Int))) (
  R (.bool false) w11) (
  Let w11.drew fun w12 =>
  ∃ x28_0 : Int, ∃ x28_1 : Int, ∃ x28_2 : Int, rd w12 w.heap.size 0 [(.int .i64 x28_0), (.int .i64 x28_1), (.int .i64 x28_2)] ∧ Calls Try.prog 93 [(.pointer (some ⟨p0.b, (p0.o + 0), none⟩)), (.agg [(.int .i64 x28_0), (.int .i64 x28_1), (.int .i64 x28_2)].toArray)].toArray w12 (fun e_2 w13 => e_2 = .returned (.tuple [].toArray) ∧
  J w13)))) (
  Calls Try.prog 78 [(.pointer (some ⟨p0.b, (p0.o + 0), none⟩)), (.int .i64 x1)].toArray w2 (fun e_3 w14 => e_3 = .returned (.tuple [].toArray) ∧
  J w14)))
theorem eq76 (p0 : Pt) (x1 : Int) (R : Value → World → Prop) (w : World) : funV Try.prog Try.f76 An76 [(.pointer (some ⟨p0.b, p0.o, none⟩)), (.int .i64 x1)] R w = S76 p0 x1 R w := by kernel_rfl
theorem call76 (p0 : Pt) (x1 : Int) {R : Value → World → Prop} {w : World} (h : S76 p0 x1 R w) : Calls Try.prog 76 [(.pointer (some ⟨p0.b, p0.o, none⟩)), (.int .i64 x1)].toArray w fun e w' => ∃ v, e = .returned v ∧ R v w' :=
  funV_calls mixed Try.func76 (an := An76) (by rw [eq76]; exact h)

/-- F49: (*cubeb/history.run).goOn -/
def An49 : An := (.sq .lf (.sq .lf (.sq (.bk [(5, .bool)] (.lp [(5, .bool)] (.sq (.sq .lf (.cd .lf .lf)) (.bk [(5, .bool)] (.sq .lf (.sq (.sq .lf (.cd (.sq (.rj [] [(5, .bool)]) .lf) .lf)) (.sq (.sq .lf (.cd (.sq .lf (.sq .lf (.sq .lf (.sq .lf (.sq .lf .lf))))) .lf)) .lf))))))) (.sq .lf .lf))))
def S49 (p0 : Pt) (x1 : Int) (R : Value → World → Prop) (w : World) : Prop :=
  Join [(5, .bool)] (fun (b5 : Bool) (w1 : World) => R (.bool b5) w1) (fun J =>
  LoopV [(5, .bool)] (fun K => K false w) (fun N => fun (b5_2 : Bool) (w2 : World) =>
  ∃ m10 : Option Nat, World.cell? w2 ⟨p0.b, (p0.o + 14), none⟩ = some (.map m10) ∧ ∃ s12 : Sl, Sem.run Try.prog (Instr.lookup 83 (.map m10) (.int .i64 x1) false) w2 = .ok (.slice s12.a s12.n s12.c) w2 ∧ cond (decide (((s12.n : Nat) : Int) > (0 : Int))) (
  Join [(5, .bool)] (fun (b5_3 : Bool) (w3 : World) => N b5_3 w3) (fun J_2 =>
  ∃ m18 : Option Nat, World.cell? w2 ⟨p0.b, (p0.o + 14), none⟩ = some (.map m18) ∧ ∃ s20 : Sl, Sem.run Try.prog (Instr.lookup 83 (.map m18) (.int .i64 x1) false) w2 = .ok (.slice s20.a s20.n s20.c) w2 ∧ ∃ p21 : Pt, s20.a = some ⟨p21.b, p21.o, none⟩ ∧ 0 ≤ (0 : Int) ∧ (0 : Int) < ((s20.n : Nat) : Int) ∧ ∃ x24 : Int, World.cell? w2 ⟨p21.b, (((p21.o + Int.toNat (0 : Int) * 4) + 0) + 1), none⟩ = some (.int .i64 x24) ∧ Calls Try.prog 76 [(.pointer (some ⟨p0.b, p0.o, none⟩)), (.int .i64 x1)].toArray w2 (fun e w4 => ∃ b28 : Bool, e = .returned (.bool b28) ∧
  cond b28 (
  Join [(5, .bool)] (fun (b5_4 : Bool) (w5 : World) => J_2 b5_4 w5) (fun J_3 =>
  cond b5_2 (J_3 true w4) (J_3 (decide (x24 > (1 : Int))) w4))) (
  Calls Try.prog 77 [(.pointer (some ⟨p0.b, p0.o, none⟩)), (.int .i64 x1)].toArray w4 (fun e_2 w6 => ∃ b35 : Bool, e_2 = .returned (.bool b35) ∧
  cond b35 (
  ∃ s40 : Sl, World.cell? w6 ⟨p0.b, (p0.o + 12), none⟩ = some (.slice s40.a s40.n s40.c) ∧ ∃ (s43 : Sl) (w7 : World), Sem.run Try.prog (Instr.buildSlice 29 1 [(0, (.agg [(.int .i64 x1), (.int .i64 (3 : Int)), (.int .i64 (0 : Int))].toArray))].toArray) w6 = .ok (.slice s43.a s43.n s43.c) w7 ∧
  ∃ (s44 : Sl) (w8 : World), Sem.run Try.prog (Builtin.append_ #[29, 29] 29 #[(.slice s40.a s40.n s40.c), (.slice s43.a s43.n s43.c)]) w7 = .ok (.slice s44.a s44.n s44.c) w8 ∧
  StoreOk w8 p0.b (p0.o + 12) [(.slice s44.a s44.n s44.c)] 1 ∧ Let (put w8 p0.b (p0.o + 12) [(.slice s44.a s44.n s44.c)]) fun w9 => 
  ∃ s51 : Sl, World.cell? w9 ⟨p0.b, (p0.o + 13), none⟩ = some (.slice s51.a s51.n s51.c) ∧ ∃ (s53 : Sl) (w10 : World), Sem.run Try.prog (Instr.buildSlice 24 1 [(0, (.int .i64 x1))].toArray) w9 = .ok (.slice s53.a s53.n s53.c) w10 ∧
  ∃ (s54 : Sl) (w11 : World), Sem.run Try.prog (Builtin.append_ #[24, 24] 24 #[(.slice s51.a s51.n s51.c), (.slice s53.a s53.n s53.c)]) w10 = .ok (.slice s54.a s54.n s54.c) w11 ∧
  StoreOk w11 p0.b (p0.o + 13) [(.slice s54.a s54.n s54.c)] 1 ∧ Let (put w11 p0.b (p0.o + 13) [(.slice s54.a s54.n s54.c)]) fun w12 => 
  ∃ m60 : Option Nat, World.cell? w12 ⟨p0.b, (p0.o + 14), none⟩ = some (.map m60) ∧ ∃ w13 : World, Sem.run Try.prog (Instr.mapUpdate 83 (.map m60) (.int .i64 x1) (.slice none 0 0)) w12 = .ok () w13 ∧
  Calls Try.prog 78 [(.pointer (some ⟨p0.b, (p0.o + 0), none⟩)), (.int .i64 x1)].toArray w13 (fun e_3 w14 => e_3 = .returned (.tuple [].toArray) ∧
  R (.bool true) w14)) (
  J b5_2 w6)))))) (
  J b5_2 w2)))
theorem eq49 (p0 : Pt) (x1 : Int) (R : Value → World → Prop) (w : World) : funV Try.prog Try.f49 An49 [(.pointer (some ⟨p0.b, p0.o, none⟩)), (.int .i64 x1)] R w = S49 p0 x1 R w := by kernel_rfl
theorem call49 (p0 : Pt) (x1 : Int) {R : Value → World → Prop} {w : World} (h : S49 p0 x1 R w) : Calls Try.prog 49 [(.pointer (some ⟨p0.b, p0.o, none⟩)), (.int .i64 x1)].toArray w fun e w' => ∃ v, e = .returned v ∧ R v w' :=
  funV_calls mixed Try.func49 (an := An49) (by rw [eq49]; exact h)

/-- F50: (*cubeb/history.run).retry -/
def An50 : An := (.bk [] (.lp [] (.bk [] (.sq .lf (.sq (.sq .lf (.bk [(2, .int .i64)] (.lp [(2, .int .i64)] (.sq .lf (.sq (.cd .lf .lf) (.bk [(2, .int .i64)] (.sq (.lf [(0, 3, 90)]) (.sq (.sq (.dr [0, 1, 2, 3, 4, 5, 6, 7, 8, 9, 10, 11, 12, 13, 14, 15, 16, 17, 18, 19, 20, 21, 22] [] true (some [(37, .bool)])) (.cd .lf .lf)) (.sq (.dr [0, 1, 2, 3, 4, 5, 6, 7, 8, 9, 10, 11, 12, 13, 14, 15, 16, 17] [] false (some [(55, .bool)])) (.cj [(2, .int .i64)] .lf .lf)))))))))) (.sq (.sq .lf (.cd .lf .lf)) .lf))))))
def S50 (p0 : Pt) (R : Value → World → Prop) (w : World) : Prop :=
  Join [] (fun (w1 : World) => R (.tuple [].toArray) w1) (fun J =>
  LoopV [] (fun K => K w) (fun N => fun (w2 : World) =>
  Join [] (fun (w3 : World) => N w3) (fun J_2 =>
  ∃ m8 : Option Nat, World.cell? w2 ⟨p0.b, (p0.o + 14), none⟩ = some (.map m8) ∧ ∃ (p9 : Pt) (w4 : World), Sem.run Try.prog (Instr.range 83 (.map m8)) w2 = .ok (.pointer (some ⟨p9.b, p9.o, none⟩)) w4 ∧
  Join [(2, .int .i64)] (fun (x2 : Int) (w5 : World) => cond (x2 == (0 : Int)) (
  R (.tuple [].toArray) w5) (
  Calls Try.prog 49 [(.pointer (some ⟨p0.b, p0.o, none⟩)), (.int .i64 x2)].toArray w5 (fun e w6 => ∃ b61 : Bool, e = .returned (.bool b61) ∧
  J_2 w6))) (fun J_3 =>
  LoopV [(2, .int .i64)] (fun K => K (0 : Int) w4) (fun N_2 => fun (x2_2 : Int) (w7 : World) =>
  ∃ (b10 : Bool) (kv10 : List Value) (w8 : World), Sem.run Try.prog (Instr.next (.pointer (some ⟨p9.b, p9.o, none⟩)) false 0) w7 = .ok (.tuple (Value.bool b10 :: kv10).toArray) w8 ∧
  cond b10 (
  Join [(2, .int .i64)] (fun (x2_3 : Int) (w9 : World) => N_2 x2_3 w9) (fun J_4 =>
  ∃ x12_k : Int, ∃ s12_v : Sl, Sem.run Try.prog (Instr.entry (.pointer (some ⟨p9.b, p9.o, none⟩))) w8 = .ok (.tuple #[(.int .i64 x12_k), (.slice s12_v.a s12_v.n s12_v.c)]) w8 ∧ Join [(37, .bool)] (fun (b37 : Bool) (w10 : World) => cond b37 (
  J_4 x2_2 w10) (
  Join [(55, .bool)] (fun (b55 : Bool) (w11 : World) => Join [(2, .int .i64)] (fun (x2_4 : Int) (w12 : World) => J_4 x2_4 w12) (fun J_5 =>
  cond b55 (
  J_5 x12_k w11) (
  J_5 x2_2 w11))) (fun J_6 =>
  Let w10.drew fun w13 =>
  cond (x2_2 == (0 : Int)) (J_6 true w13) (∃ p42 : Pt, s12_v.a = some ⟨p42.b, p42.o, none⟩ ∧ 0 ≤ (0 : Int) ∧ (0 : Int) < ((s12_v.n : Nat) : Int) ∧ ∃ x44 : Int, World.cell? w13 ⟨p42.b, ((p42.o + Int.toNat (0 : Int) * 4) + 3), none⟩ = some (.int .i64 x44) ∧ ∃ m48 : Option Nat, World.cell? w13 ⟨p0.b, (p0.o + 14), none⟩ = some (.map m48) ∧ ∃ s50 : Sl, Sem.run Try.prog (Instr.lookup 83 (.map m48) (.int .i64 x2_2) false) w13 = .ok (.slice s50.a s50.n s50.c) w13 ∧ ∃ p51 : Pt, s50.a = some ⟨p51.b, p51.o, none⟩ ∧ 0 ≤ (0 : Int) ∧ (0 : Int) < ((s50.n : Nat) : Int) ∧ ∃ x53 : Int, World.cell? w13 ⟨p51.b, ((p51.o + Int.toNat (0 : Int) * 4) + 3), none⟩ = some (.int .i64 x53) ∧ J_6 (decide (x44 < x53)) w13)))) (fun J_7 =>
  ∃ S1 : World → Prop, S1 w8.drew ∧ Let w8.drew fun w14 =>
  cond (((s12_v.n : Nat) : Int) == (0 : Int)) (J_7 true w14) (∃ p20 : Pt, s12_v.a = some ⟨p20.b, p20.o, none⟩ ∧ 0 ≤ (0 : Int) ∧ (0 : Int) < ((s12_v.n : Nat) : Int) ∧ ∃ x23 : Int, (∀ u, S1 u → World.cell? u ⟨p20.b, (((p20.o + Int.toNat (0 : Int) * 4) + 0) + 1), none⟩ = some (.int .i64 x23)) ∧ cond (decide (x23 ≤ (1 : Int))) (∃ p30 : Pt, s12_v.a = some ⟨p30.b, p30.o, none⟩ ∧ 0 ≤ (0 : Int) ∧ (0 : Int) < ((s12_v.n : Nat) : Int) ∧ ∃ x32_0 : Int, ∃ x32_1 : Int, ∃ x32_2 : Int, (∀ u, S1 u → rd u p30.b ((p30.o + Int.toNat (0 : Int) * 4) + 0) [(.int .i64 x32_0), (.int .i64 x32_1), (.int .i64 x32_2)]) ∧ Calls Try.prog 79 [(.pointer (some ⟨p0.b, (p0.o + 0), none⟩)), (.agg [(.int .i64 x32_0), (.int .i64 x32_1), (.int .i64 x32_2)].toArray)].toArray w14 (fun e_2 w15 => ∃ s33 : Sl, e_2 = .returned (.slice s33.a s33.n s33.c) ∧
  S1 w15 ∧ J_7 (decide (((s33.n : Nat) : Int) > (0 : Int))) w15)) (J_7 false w14))))) (
  J_3 x2_2 w8))))))
theorem eq50 (p0 : Pt) (R : Value → World → Prop) (w : World) : funV Try.prog Try.f50 An50 [(.pointer (some ⟨p0.b, p0.o, none⟩))] R w = S50 p0 R w := by kernel_rfl
theorem call50 (p0 : Pt) {R : Value → World → Prop} {w : World} (h : S50 p0 R w) : Calls Try.prog 50 [(.pointer (some ⟨p0.b, p0.o, none⟩))].toArray w fun e w' => ∃ v, e = .returned v ∧ R v w' :=
  funV_calls mixed Try.func50 (an := An50) (by rw [eq50]; exact h)

/-- F19: cubeb/history.Lock -/
def An19 : An := (.sq .lf (.sq (.sq .lf (.cd (.sq .lf .lf) .lf)) (.sq .lf (.sq (.sq .lf (.bk [] (.lp [(17, .int .i64)] (.sq .lf (.sq (.cd .lf .lf) (.sq (.bk [] (.sq .lf (.sq (.sq (.dr [0, 1, 2, 3, 4, 5, 6] [] false none) (.cd .lf .lf)) (.sq (.dr [0, 1, 2, 3, 4, 5, 6, 7, 8, 9] [] false none) (.sq (.dr [0, 1, 2, 3, 4, 5, 6, 7, 8, 9, 10, 11, 12, 13, 14, 15, 16, 17, 18] [18] true none) (.sq (.rj [] [(63, .bool)]) (.cj [] .lf .lf))))))) .lf)))))) (.sq (.dr [0, 1, 2, 3, 4, 5, 6, 7, 8, 9, 10] [] false none) .lf)))))
def S19 (s0 : Sl) (R : Value → World → Prop) (w : World) : Prop :=
  Calls Try.prog 26 [(.slice s0.a s0.n s0.c)].toArray w (fun e w1 => ∃ b10 : Bool, e = .returned (.bool b10) ∧
  cond (!b10) (
  R (.tuple [(.slice none 0 0), (.slice none 0 0), (.int .i64 (2 : Int))].toArray) w1) (
  Let (w1.alloc (.map #[] 0)) fun w2 => 
  Let (w2.alloc (.cells [(.map none), (.map none), (.map none), (.map none), (.map none), (.map none), (.int .i64 (0 : Int)), (.int .i64 (0 : Int)), (.int .i64 (0 : Int)), (.int .i64 (0 : Int)), (.int .i64 (0 : Int)), (.int .i64 (0 : Int)), (.slice none 0 0), (.slice none 0 0), (.map (some w1.heap.size))].toArray 89)) fun w3 => 
  Join [] (fun (w4 : World) => Let w4.drew fun w5 =>
  ∃ s70 : Sl, World.cell? w5 ⟨w2.heap.size, (0 + 12), none⟩ = some (.slice s70.a s70.n s70.c) ∧ ∃ s74 : Sl, World.cell? w5 ⟨w2.heap.size, (0 + 13), none⟩ = some (.slice s74.a s74.n s74.c) ∧ R (.tuple [(.slice s70.a s70.n s70.c), (.slice s74.a s74.n s74.c), (.int .i64 (0 : Int))].toArray) w5) (fun J =>
  LoopV [(17, .int .i64)] (fun K => K (0 : Int) w3) (fun N => fun (x17 : Int) (w6 : World) =>
  cond (decide (x17 < ((s0.n : Nat) : Int))) (
  Join [] (fun (w7 : World) => N (IntKind.wrap .i64 (x17 + (1 : Int))) w7) (fun J_2 =>
  ∃ p20 : Pt, s0.a = some ⟨p20.b, p20.o, none⟩ ∧ 0 ≤ x17 ∧ x17 < ((s0.n : Nat) : Int) ∧ ∃ x21_0 : Int, ∃ x21_1 : Int, ∃ x21_2 : Int, rd w6 p20.b (p20.o + Int.toNat x17 * 3) [(.int .i64 x21_0), (.int .i64 x21_1), (.int .i64 x21_2)] ∧ Let (w6.alloc (.cells (zc Try.prog 38) 38)) fun w8 => 
  StoreOk w8 w6.heap.size 0 [(.int .i64 x21_0), (.int .i64 x21_1), (.int .i64 x21_2)] 3 ∧ Let (put w8 w6.heap.size 0 [(.int .i64 x21_0), (.int .i64 x21_1), (.int .i64 x21_2)]) fun w9 => 
  Let w9.drew fun w10 =>
  ∃ s25 : Sl, World.cell? w10 ⟨w2.heap.size, (0 + 13), none⟩ = some (.slice s25.a s25.n s25.c) ∧ ∃ x27 : Int, World.cell? w10 ⟨w6.heap.size, (0 + 0), none⟩ = some (.int .i64 x27) ∧ Calls Try.prog 28 [(.slice s25.a s25.n s25.c), (.int .i64 x27)].toArray w10 (fun e_2 w11 => ∃ b28 : Bool, e_2 = .returned (.bool b28) ∧
  cond b28 (
  J_2 w11) (
  Let w11.drew fun w12 =>
  ∃ m32 : Option Nat, World.cell? w12 ⟨w2.heap.size, (0 + 14), none⟩ = some (.map m32) ∧ ∃ x34 : Int, World.cell? w12 ⟨w6.heap.size, (0 + 0), none⟩ = some (.int .i64 x34) ∧ ∃ s35 : Sl, Sem.run Try.prog (Instr.lookup 83 (.map m32) (.int .i64 x34) false) w12 = .ok (.slice s35.a s35.n s35.c) w12 ∧ ∃ S1 : World → Prop, S1 w12.drew ∧ Let w12.drew fun w13 =>
  ∃ m41 : Option Nat, (∀ u, S1 u → World.cell? u ⟨w2.heap.size, (0 + 14), none⟩ = some (.map m41)) ∧ ∃ x43 : Int, (∀ u, S1 u → World.cell? u ⟨w6.heap.size, (0 + 0), none⟩ = some (.int .i64 x43)) ∧ ∃ m47 : Option Nat, (∀ u, S1 u → World.cell? u ⟨w2.heap.size, (0 + 14), none⟩ = some (.map m47)) ∧ ∃ x49 : Int, (∀ u, S1 u → World.cell? u ⟨w6.heap.size, (0 + 0), none⟩ = some (.int .i64 x49)) ∧ ∃ s50 : Sl, (∀ u, S1 u → Sem.run Try.prog (Instr.lookup 83 (.map m47) (.int .i64 x49) false) u = .ok (.slice s50.a s50.n s50.c) u) ∧ ∃ x51_0 : Int, ∃ x51_1 : Int, ∃ x51_2 : Int, (∀ u, S1 u → rd u w6.heap.size 0 [(.int .i64 x51_0), (.int .i64 x51_1), (.int .i64 x51_2)]) ∧ 3 = 3 ∧ 3 ≤ 4 ∧ ∃ (s54 : Sl) (w14 : World), Sem.run Try.prog (Instr.buildSlice 90 1 [(0, (.agg [(.int .i64 x51_0), (.int .i64 x51_1), (.int .i64 x51_2), (.int .i64 x17)].toArray))].toArray) w13 = .ok (.slice s54.a s54.n s54.c) w14 ∧
  S1 w14 ∧ ∃ (s55 : Sl) (w15 : World), Sem.run Try.prog (Builtin.append_ #[90, 90] 90 #[(.slice s50.a s50.n s50.c), (.slice s54.a s54.n s54.c)]) w14 = .ok (.slice s55.a s55.n s55.c) w15 ∧
  S1 w15 ∧ ∃ w16 : World, Sem.run Try.prog (Instr.mapUpdate 83 (.map m41) (.int .i64 x43) (.slice s55.a s55.n s55.c)) w15 = .ok () w16 ∧
  Join [(63, .bool)] (fun (b63 : Bool) (w17 : World) => Join [] (fun (w18 : World) => J_2 w18) (fun J_3 =>
  cond b63 (
  Calls Try.prog 50 [(.pointer (some ⟨w2.heap.size, 0, none⟩))].toArray w17 (fun e_3 w19 => e_3 = .returned (.tuple [].toArray) ∧
  J_3 w19)) (
  J_3 w17))) (fun J_4 =>
  cond (!(decide (((s35.n : Nat) : Int) > (0 : Int)))) (∃ x61 : Int, World.cell? w16 ⟨w6.heap.size, (0 + 0), none⟩ = some (.int .i64 x61) ∧ Calls Try.prog 49 [(.pointer (some ⟨w2.heap.size, 0, none⟩)), (.int .i64 x61)].toArray w16 (fun e_4 w20 => ∃ b62 : Bool, e_4 = .returned (.bool b62) ∧
  J_4 b62 w20)) (J_4 false w16)))))) (
  J w6)))))
theorem eq19 (s0 : Sl) (R : Value → World → Prop) (w : World) : funV Try.prog Try.f19 An19 [(.slice s0.a s0.n s0.c)] R w = S19 s0 R w := by kernel_rfl
theorem call19 (s0 : Sl) {R : Value → World → Prop} {w : World} (h : S19 s0 R w) : Calls Try.prog 19 [(.slice s0.a s0.n s0.c)].toArray w fun e w' => ∃ v, e = .returned v ∧ R v w' :=
  funV_calls mixed Try.func19 (an := An19) (by rw [eq19]; exact h)

end Go.Proofs.Ytnbkihkdfhjlmaa
