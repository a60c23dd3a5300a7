/-
  Texts Sd, Vu, Vv, Ec, Ed, Ee, Ef, Eg of this proof, joined.
-/
import Derived.Test.YtnbkihkdfhjlmaaWs4
import Derived.Test.YtnbkihkdfhjlmaaProg
import Derived.KernelRfl
/-
  Printed by a program of this session (wip/tools/vcprint.py): of each Go function the shallow form, and that the calculus comes to it, by the kernel.
-/
namespace Go.Proofs.Ytnbkihkdfhjlmaa
open Go Go.VC
set_option maxRecDepth 100000

/-- F79: (*cubeb/history.locks).hinders -/
def An79 : An := (.sq .lf (.sq .lf (.sq (.sq (.dr [0, 1, 2, 3, 4, 5, 6, 7] [] false none) (.sq (.rj [] [(22, .bool)]) (.cj [(5, .slice)] .lf .lf))) (.sq (.sq (.dr [0, 1, 2, 3, 4, 5, 6, 7] [] true none) (.bk [(5, .slice)] (.lp [(5, .slice)] (.sq .lf (.sq (.cd .lf .lf) (.bk [(5, .slice)] (.sq (.lf [(0, 3, 4)]) (.sq (.rj [] [(47, .bool)]) (.cj [(5, .slice)] .lf .lf))))))))) (.sq .lf .lf)))))
def S79 (p0 : Pt) (x1_0 : Int) (x1_1 : Int) (x1_2 : Int) (R : Value → World → Prop) (w : World) : Prop :=
  Let (w.alloc (.cells [(.int .i64 x1_0), (.int .i64 x1_1), (.int .i64 x1_2)].toArray 38)) fun w1 => 
  Let w1.drew fun w2 =>
  ∃ x10 : Int, World.cell? w2 ⟨w.heap.size, (0 + 2), none⟩ = some (.int .i64 x10) ∧ 0 ≤ x10 ∧ x10 < ((6 : Nat) : Int) ∧ ∃ x14 : Int, World.cell? w2 ⟨p0.b, ((p0.o + 6) + Int.toNat x10 * 1), none⟩ = some (.int .i64 x14) ∧ Join [(22, .bool)] (fun (b22 : Bool) (w3 : World) => Join [(5, .slice)] (fun (s5 : Sl) (w4 : World) => ∃ S1 : World → Prop, S1 w4.drew ∧ Let w4.drew fun w5 =>
  ∃ x29 : Int, (∀ u, S1 u → World.cell? u ⟨w.heap.size, (0 + 2), none⟩ = some (.int .i64 x29)) ∧ 0 ≤ x29 ∧ x29 < ((6 : Nat) : Int) ∧ ∃ m33 : Option Nat, (∀ u, S1 u → World.cell? u ⟨p0.b, ((p0.o + 0) + Int.toNat x29 * 1), none⟩ = some (.map m33)) ∧ ∃ (p34 : Pt) (w6 : World), Sem.run Try.prog (Instr.range 84 (.map m33)) w5 = .ok (.pointer (some ⟨p34.b, p34.o, none⟩)) w6 ∧
  S1 w6 ∧ Join [(5, .slice)] (fun (s5_2 : Sl) (w7 : World) => R (.slice s5_2.a s5_2.n s5_2.c) w7) (fun J =>
  LoopV [(5, .slice)] (fun K => K ⟨s5.a, s5.n, s5.c⟩ w6) (fun N => fun (s5_3 : Sl) (w8 : World) =>
  ∃ (b35 : Bool) (kv35 : List Value) (w9 : World), Sem.run Try.prog (Instr.next (.pointer (some ⟨p34.b, p34.o, none⟩)) false 0) w8 = .ok (.tuple (Value.bool b35 :: kv35).toArray) w9 ∧
  cond b35 (
  Join [(5, .slice)] (fun (s5_4 : Sl) (w10 : World) => N ⟨s5_4.a, s5_4.n, s5_4.c⟩ w10) (fun J_2 =>
  ∃ x37_k : Int, ∃ b37_v : Bool, Sem.run Try.prog (Instr.entry (.pointer (some ⟨p34.b, p34.o, none⟩))) w9 = .ok (.tuple #[(.int .i64 x37_k), (.bool b37_v)]) w9 ∧ Join [(47, .bool)] (fun (b47 : Bool) (w11 : World) => Join [(5, .slice)] (fun (s5_5 : Sl) (w12 : World) => J_2 ⟨s5_5.a, s5_5.n, s5_5.c⟩ w12) (fun J_3 =>
  cond b47 (
  ∃ (s50 : Sl) (w13 : World), Sem.run Try.prog (Instr.buildSlice 24 1 [(0, (.int .i64 x37_k))].toArray) w11 = .ok (.slice s50.a s50.n s50.c) w13 ∧
  ∃ (s51 : Sl) (w14 : World), Sem.run Try.prog (Builtin.append_ #[24, 24] 24 #[(.slice s5_3.a s5_3.n s5_3.c), (.slice s50.a s50.n s50.c)]) w13 = .ok (.slice s51.a s51.n s51.c) w14 ∧
  J_3 ⟨s51.a, s51.n, s51.c⟩ w14) (
  J_3 ⟨s5_3.a, s5_3.n, s5_3.c⟩ w11))) (fun J_4 =>
  ∃ x40 : Int, World.cell? w9 ⟨w.heap.size, (0 + 1), none⟩ = some (.int .i64 x40) ∧ cond (x40 == (1 : Int)) (∃ x45 : Int, World.cell? w9 ⟨w.heap.size, (0 + 0), none⟩ = some (.int .i64 x45) ∧ J_4 (x37_k != x45) w9) (J_4 false w9)))) (
  J ⟨s5_3.a, s5_3.n, s5_3.c⟩ w9)))) (fun J_5 =>
  cond b22 (
  ∃ (s25 : Sl) (w15 : World), Sem.run Try.prog (Instr.buildSlice 24 1 [(0, (.int .i64 x14))].toArray) w3 = .ok (.slice s25.a s25.n s25.c) w15 ∧
  ∃ (s26 : Sl) (w16 : World), Sem.run Try.prog (Builtin.append_ #[24, 24] 24 #[(.slice none 0 0), (.slice s25.a s25.n s25.c)]) w15 = .ok (.slice s26.a s26.n s26.c) w16 ∧
  J_5 ⟨s26.a, s26.n, s26.c⟩ w16) (
  J_5 ⟨none, 0, 0⟩ w3))) (fun J_6 =>
  cond (x14 != (0 : Int)) (∃ x20 : Int, World.cell? w2 ⟨w.heap.size, (0 + 0), none⟩ = some (.int .i64 x20) ∧ J_6 (x14 != x20) w2) (J_6 false w2))
theorem eq79 (p0 : Pt) (x1_0 : Int) (x1_1 : Int) (x1_2 : Int) (R : Value → World → Prop) (w : World) : funV Try.prog Try.f79 An79 [(.pointer (some ⟨p0.b, p0.o, none⟩)), (.agg [(.int .i64 x1_0), (.int .i64 x1_1), (.int .i64 x1_2)].toArray)] R w = S79 p0 x1_0 x1_1 x1_2 R w := by kernel_rfl
theorem call79 (p0 : Pt) (x1_0 : Int) (x1_1 : Int) (x1_2 : Int) {R : Value → World → Prop} {w : World} (h : S79 p0 x1_0 x1_1 x1_2 R w) : Calls Try.prog 79 [(.pointer (some ⟨p0.b, p0.o, none⟩)), (.agg [(.int .i64 x1_0), (.int .i64 x1_1), (.int .i64 x1_2)].toArray)].toArray w fun e w' => ∃ v, e = .returned v ∧ R v w' :=
  funV_calls mixed Try.func79 (an := An79) (by rw [eq79]; exact h)

/-- F93: (*cubeb/history.locks).take -/
def An93 : An := (.sq .lf (.sq (.sq .lf (.cd (.sq (.dr [0, 1, 2, 3, 4, 5, 6, 7, 8] [] false none) .lf) .lf)) (.sq (.sq (.dr [0, 1, 2, 3, 4, 5, 6, 7] [] false none) (.cj [] (.dr [0, 1, 2, 4, 5, 3, 6, 7] [7] true none) .lf)) (.dr [0, 1, 2, 3, 4, 5, 6, 7, 8, 9] [] false none))))
def S93 (p0 : Pt) (x1_0 : Int) (x1_1 : Int) (x1_2 : Int) (R : Value → World → Prop) (w : World) : Prop :=
  Let (w.alloc (.cells [(.int .i64 x1_0), (.int .i64 x1_1), (.int .i64 x1_2)].toArray 38)) fun w1 => 
  ∃ x5 : Int, World.cell? w1 ⟨w.heap.size, (0 + 1), none⟩ = some (.int .i64 x5) ∧ cond (x5 == (1 : Int)) (
  Let w1.drew fun w2 =>
  ∃ x9 : Int, World.cell? w2 ⟨w.heap.size, (0 + 2), none⟩ = some (.int .i64 x9) ∧ ∃ x11 : Int, World.cell? w2 ⟨w.heap.size, (0 + 0), none⟩ = some (.int .i64 x11) ∧ 0 ≤ x9 ∧ x9 < ((6 : Nat) : Int) ∧ StoreOk w2 p0.b ((p0.o + 6) + Int.toNat x9 * 1) [(.int .i64 x11)] 1 ∧ Let (put w2 p0.b ((p0.o + 6) + Int.toNat x9 * 1) [(.int .i64 x11)]) fun w3 => 
  R (.tuple [].toArray) w3) (
  Let w1.drew fun w4 =>
  ∃ x17 : Int, World.cell? w4 ⟨w.heap.size, (0 + 2), none⟩ = some (.int .i64 x17) ∧ 0 ≤ x17 ∧ x17 < ((6 : Nat) : Int) ∧ ∃ m21 : Option Nat, World.cell? w4 ⟨p0.b, ((p0.o + 0) + Int.toNat x17 * 1), none⟩ = some (.map m21) ∧ Join [] (fun (w5 : World) => Let w5.drew fun w6 =>
  ∃ x32 : Int, World.cell? w6 ⟨w.heap.size, (0 + 2), none⟩ = some (.int .i64 x32) ∧ 0 ≤ x32 ∧ x32 < ((6 : Nat) : Int) ∧ ∃ m36 : Option Nat, World.cell? w6 ⟨p0.b, ((p0.o + 0) + Int.toNat x32 * 1), none⟩ = some (.map m36) ∧ ∃ x38 : Int, World.cell? w6 ⟨w.heap.size, (0 + 0), none⟩ = some (.int .i64 x38) ∧ ∃ w7 : World, Sem.run Try.prog (Instr.mapUpdate 84 (.map m36) (.int .i64 x38) (.bool true)) w6 = .ok () w7 ∧
  R (.tuple [].toArray) w7) (fun J =>
  cond (Option.isNone m21) (
  ∃ S1 : World → Prop, S1 w4.drew ∧ Let w4.drew fun w8 =>
  ∃ x25 : Int, (∀ u, S1 u → World.cell? u ⟨w.heap.size, (0 + 2), none⟩ = some (.int .i64 x25)) ∧ Let (w8.alloc (.map #[] 0)) fun w9 => 
  S1 w9 ∧ 0 ≤ x25 ∧ x25 < ((6 : Nat) : Int) ∧ StoreOk w9 p0.b ((p0.o + 0) + Int.toNat x25 * 1) [(.map (some w8.heap.size))] 1 ∧ Let (put w9 p0.b ((p0.o + 0) + Int.toNat x25 * 1) [(.map (some w8.heap.size))]) fun w10 => 
  J w10) (
  J w4)))
theorem eq93 (p0 : Pt) (x1_0 : Int) (x1_1 : Int) (x1_2 : Int) (R : Value → World → Prop) (w : World) : funV Try.prog Try.f93 An93 [(.pointer (some ⟨p0.b, p0.o, none⟩)), (.agg [(.int .i64 x1_0), (.int .i64 x1_1), (.int .i64 x1_2)].toArray)] R w = S93 p0 x1_0 x1_1 x1_2 R w := by kernel_rfl
theorem call93 (p0 : Pt) (x1_0 : Int) (x1_1 : Int) (x1_2 : Int) {R : Value → World → Prop} {w : World} (h : S93 p0 x1_0 x1_1 x1_2 R w) : Calls Try.prog 93 [(.pointer (some ⟨p0.b, p0.o, none⟩)), (.agg [(.int .i64 x1_0), (.int .i64 x1_1), (.int .i64 x1_2)].toArray)].toArray w fun e w' => ∃ v, e = .returned v ∧ R v w' :=
  funV_calls mixed Try.func93 (an := An93) (by rw [eq93]; exact h)

/-- F78: (*cubeb/history.locks).release -/
def An78 : An := (.sq .lf (.bk [] (.lp [(5, .int .i64)] (.sq .lf (.sq (.cd .lf .lf) (.sq (.bk [] (.sq .lf (.sq .lf (.sq .lf (.cj [] .lf .lf))))) .lf))))))
def S78 (p0 : Pt) (x1 : Int) (R : Value → World → Prop) (w : World) : Prop :=
  Join [] (fun (w1 : World) => R (.tuple [].toArray) w1) (fun J =>
  LoopV [(5, .int .i64)] (fun K => K (0 : Int) w) (fun N => fun (x5 : Int) (w2 : World) =>
  cond (decide (x5 < (6 : Int))) (
  Join [] (fun (w3 : World) => N (IntKind.wrap .i64 (x5 + (1 : Int))) w3) (fun J_2 =>
  0 ≤ x5 ∧ x5 < ((6 : Nat) : Int) ∧ ∃ m13 : Option Nat, World.cell? w2 ⟨p0.b, ((p0.o + 0) + Int.toNat x5 * 1), none⟩ = some (.map m13) ∧ ∃ w4 : World, Sem.run Try.prog (Builtin.delete_ #[84, 3] 0 #[(.map m13), (.int .i64 x1)]) w2 = .ok (.tuple #[]) w4 ∧
  0 ≤ x5 ∧ x5 < ((6 : Nat) : Int) ∧ ∃ x20 : Int, World.cell? w4 ⟨p0.b, ((p0.o + 6) + Int.toNat x5 * 1), none⟩ = some (.int .i64 x20) ∧ Join [] (fun (w5 : World) => J_2 w5) (fun J_3 =>
  cond (x20 == x1) (
  0 ≤ x5 ∧ x5 < ((6 : Nat) : Int) ∧ StoreOk w4 p0.b ((p0.o + 6) + Int.toNat x5 * 1) [(.int .i64 (0 : Int))] 1 ∧ Let (put w4 p0.b ((p0.o + 6) + Int.toNat x5 * 1) [(.int .i64 (0 : Int))]) fun w6 => 
  J_3 w6) (
  J_3 w4)))) (
  J w2)))
theorem eq78 (p0 : Pt) (x1 : Int) (R : Value → World → Prop) (w : World) : funV Try.prog Try.f78 An78 [(.pointer (some ⟨p0.b, p0.o, none⟩)), (.int .i64 x1)] R w = S78 p0 x1 R w := by kernel_rfl
theorem call78 (p0 : Pt) (x1 : Int) {R : Value → World → Prop} {w : World} (h : S78 p0 x1 R w) : Calls Try.prog 78 [(.pointer (some ⟨p0.b, p0.o, none⟩)), (.int .i64 x1)].toArray w fun e w' => ∃ v, e = .returned v ∧ R v w' :=
  funV_calls mixed Try.func78 (an := An78) (by rw [eq78]; exact h)

/-- F77: (*cubeb/history.run).circle -/
def An77 : An := (.sq .lf (.sq .lf (.sq .lf (.sq (.bk [] (.lp [(6, .slice)] (.sq (.sq .lf (.cd .lf .lf)) (.bk [(6, .slice)] (.sq .lf (.sq .lf (.sq .lf (.sq (.sq .lf (.cd .lf .lf)) (.sq (.dr [0, 1, 2, 3, 4, 5, 6, 9, 7, 8] [] true none) (.bk [(6, .slice)] (.lp [(6, .slice), (40, .int .i64)] (.sq .lf (.sq (.cd .lf .lf) (.sq (.bk [(6, .slice)] (.sq .lf (.sq (.sq .lf (.cd (.sq .lf .lf) .lf)) (.sq .lf (.cj [(6, .slice)] (.sq .lf .lf) .lf))))) .lf)))))))))))))) (.sq .lf .lf)))))
def S77 (p0 : Pt) (x1 : Int) (R : Value → World → Prop) (w : World) : Prop :=
  Let (w.alloc (.map #[] 0)) fun w1 => 
  ∃ (s13 : Sl) (w2 : World), Sem.run Try.prog (Instr.buildSlice 24 1 [(0, (.int .i64 x1))].toArray) w1 = .ok (.slice s13.a s13.n s13.c) w2 ∧
  Join [] (fun (w3 : World) => R (.bool false) w3) (fun J =>
  LoopV [(6, .slice)] (fun K => K ⟨s13.a, s13.n, s13.c⟩ w2) (fun N => fun (s6 : Sl) (w4 : World) =>
  cond (decide (((s6.n : Nat) : Int) > (0 : Int))) (
  Join [(6, .slice)] (fun (s6_2 : Sl) (w5 : World) => N ⟨s6_2.a, s6_2.n, s6_2.c⟩ w5) (fun J_2 =>
  ∃ p18 : Pt, s6.a = some ⟨p18.b, p18.o, none⟩ ∧ 0 ≤ (0 : Int) ∧ (0 : Int) < ((s6.n : Nat) : Int) ∧ ∃ x19 : Int, World.cell? w4 ⟨p18.b, (p18.o + Int.toNat (0 : Int) * 1), none⟩ = some (.int .i64 x19) ∧ 0 ≤ (1 : Int) ∧ (1 : Int) ≤ ((s6.n : Nat) : Int) ∧ ∃ m25 : Option Nat, World.cell? w4 ⟨p0.b, (p0.o + 14), none⟩ = some (.map m25) ∧ ∃ s27 : Sl, Sem.run Try.prog (Instr.lookup 83 (.map m25) (.int .i64 x19) false) w4 = .ok (.slice s27.a s27.n s27.c) w4 ∧ cond (((s27.n : Nat) : Int) == (0 : Int)) (
  J_2 ⟨(subA s6.a s6.c (Int.toNat (1 : Int)) 1), (s6.n - (Int.toNat (1 : Int))), (s6.c - (Int.toNat (1 : Int)))⟩ w4) (
  ∃ S1 : World → Prop, S1 w4.drew ∧ Let w4.drew fun w6 =>
  ∃ p35 : Pt, s27.a = some ⟨p35.b, p35.o, none⟩ ∧ 0 ≤ (0 : Int) ∧ (0 : Int) < ((s27.n : Nat) : Int) ∧ ∃ x37_0 : Int, ∃ x37_1 : Int, ∃ x37_2 : Int, (∀ u, S1 u → rd u p35.b ((p35.o + Int.toNat (0 : Int) * 4) + 0) [(.int .i64 x37_0), (.int .i64 x37_1), (.int .i64 x37_2)]) ∧ Calls Try.prog 79 [(.pointer (some ⟨p0.b, (p0.o + 0), none⟩)), (.agg [(.int .i64 x37_0), (.int .i64 x37_1), (.int .i64 x37_2)].toArray)].toArray w6 (fun e w7 => ∃ s38 : Sl, e = .returned (.slice s38.a s38.n s38.c) ∧
  S1 w7 ∧ Join [(6, .slice)] (fun (s6_3 : Sl) (w8 : World) => J_2 ⟨s6_3.a, s6_3.n, s6_3.c⟩ w8) (fun J_3 =>
  LoopV [(6, .slice), (40, .int .i64)] (fun K => K ⟨(subA s6.a s6.c (Int.toNat (1 : Int)) 1), (s6.n - (Int.toNat (1 : Int))), (s6.c - (Int.toNat (1 : Int)))⟩ (0 : Int) w7) (fun N_2 => fun (s6_4 : Sl) (x40 : Int) (w9 : World) =>
  cond (decide (x40 < ((s38.n : Nat) : Int))) (
  Join [(6, .slice)] (fun (s6_5 : Sl) (w10 : World) => N_2 ⟨s6_5.a, s6_5.n, s6_5.c⟩ (IntKind.wrap .i64 (x40 + (1 : Int))) w10) (fun J_4 =>
  ∃ p42 : Pt, s38.a = some ⟨p42.b, p42.o, none⟩ ∧ 0 ≤ x40 ∧ x40 < ((s38.n : Nat) : Int) ∧ ∃ x43 : Int, World.cell? w9 ⟨p42.b, (p42.o + Int.toNat x40 * 1), none⟩ = some (.int .i64 x43) ∧ cond (x43 == x1) (
  R (.bool true) w9) (
  ∃ b49 : Bool, Sem.run Try.prog (Instr.lookup 84 (.map (some w.heap.size)) (.int .i64 x43) false) w9 = .ok (.bool b49) w9 ∧ Join [(6, .slice)] (fun (s6_6 : Sl) (w11 : World) => J_4 ⟨s6_6.a, s6_6.n, s6_6.c⟩ w11) (fun J_5 =>
  cond (!b49) (
  ∃ w12 : World, Sem.run Try.prog (Instr.mapUpdate 84 (.map (some w.heap.size)) (.int .i64 x43) (.bool true)) w9 = .ok () w12 ∧
  ∃ (s55 : Sl) (w13 : World), Sem.run Try.prog (Instr.buildSlice 24 1 [(0, (.int .i64 x43))].toArray) w12 = .ok (.slice s55.a s55.n s55.c) w13 ∧
  ∃ (s56 : Sl) (w14 : World), Sem.run Try.prog (Builtin.append_ #[24, 24] 24 #[(.slice s6_4.a s6_4.n s6_4.c), (.slice s55.a s55.n s55.c)]) w13 = .ok (.slice s56.a s56.n s56.c) w14 ∧
  J_5 ⟨s56.a, s56.n, s56.c⟩ w14) (
  J_5 ⟨s6_4.a, s6_4.n, s6_4.c⟩ w9))))) (
  J_3 ⟨s6_4.a, s6_4.n, s6_4.c⟩ w9))))))) (
  J w4)))
theorem eq77 (p0 : Pt) (x1 : Int) (R : Value → World → Prop) (w : World) : funV Try.prog Try.f77 An77 [(.pointer (some ⟨p0.b, p0.o, none⟩)), (.int .i64 x1)] R w = S77 p0 x1 R w := by kernel_rfl
theorem call77 (p0 : Pt) (x1 : Int) {R : Value → World → Prop} {w : World} (h : S77 p0 x1 R w) : Calls Try.prog 77 [(.pointer (some ⟨p0.b, p0.o, none⟩)), (.int .i64 x1)].toArray w fun e w' => ∃ v, e = .returned v ∧ R v w' :=
  funV_calls mixed Try.func77 (an := An77) (by rw [eq77]; exact h)

/-- F76: (*cubeb/history.run).try -/
def An76 : An := (.sq .lf (.sq .lf (.sq (.sq .lf (.cj [] (.sq (.sq (.dr [0, 1, 2, 3, 4, 5, 6] [] true none) (.cd (.sq .lf .lf) .lf)) (.dr [0, 1, 2, 3, 4] [] false none)) .lf)) (.sq (.dr [0, 1, 2, 3, 4, 5, 6, 7, 8, 9, 10] [10] true none) (.sq (.dr [0, 1, 2, 3, 4, 5, 6, 7, 8, 9, 10, 11, 12] [] false none) (.sq .lf .lf))))))
def S76 (p0 : Pt) (x1 : Int) (R : Value → World → Prop) (w : World) : Prop :=
  ∃ m9 : Option Nat, World.cell? w ⟨p0.b, (p0.o + 14), none⟩ = some (.map m9) ∧ ∃ s11 : Sl, Sem.run Try.prog (Instr.lookup 83 (.map m9) (.int .i64 x1) false) w = .ok (.slice s11.a s11.n s11.c) w ∧ ∃ p12 : Pt, s11.a = some ⟨p12.b, p12.o, none⟩ ∧ 0 ≤ (0 : Int) ∧ (0 : Int) < ((s11.n : Nat) : Int) ∧ ∃ x14_0 : Int, ∃ x14_1 : Int, ∃ x14_2 : Int, rd w p12.b ((p12.o + Int.toNat (0 : Int) * 4) + 0) [(.int .i64 x14_0), (.int .i64 x14_1), (.int .i64 x14_2)] ∧ Let (w.alloc (.cells (zc Try.prog 38) 38)) fun w1 => 
  StoreOk w1 w.heap.size 0 [(.int .i64 x14_0), (.int .i64 x14_1), (.int .i64 x14_2)] 3 ∧ Let (put w1 w.heap.size 0 [(.int .i64 x14_0), (.int .i64 x14_1), (.int .i64 x14_2)]) fun w2 => 
  ∃ x16 : Int, World.cell? w2 ⟨w.heap.size, (0 + 1), none⟩ = some (.int .i64 x16) ∧ Join [] (fun (w3 : World) => ∃ S1 : World → Prop, S1 w3.drew ∧ Let w3.drew fun w4 =>
  ∃ s39 : Sl, (∀ u, S1 u → World.cell? u ⟨p0.b, (p0.o + 12), none⟩ = some (.slice s39.a s39.n s39.c)) ∧ ∃ x40_0 : Int, ∃ x40_1 : Int, ∃ x40_2 : Int, (∀ u, S1 u → rd u w.heap.size 0 [(.int .i64 x40_0), (.int .i64 x40_1), (.int .i64 x40_2)]) ∧ ∃ (s41 : Sl) (w5 : World), Sem.run Try.prog (Instr.buildSlice 29 1 [(0, (.agg [(.int .i64 x40_0), (.int .i64 x40_1), (.int .i64 x40_2)].toArray))].toArray) w4 = .ok (.slice s41.a s41.n s41.c) w5 ∧
  S1 w5 ∧ ∃ (s42 : Sl) (w6 : World), Sem.run Try.prog (Builtin.append_ #[29, 29] 29 #[(.slice s39.a s39.n s39.c), (.slice s41.a s41.n s41.c)]) w5 = .ok (.slice s42.a s42.n s42.c) w6 ∧
  S1 w6 ∧ StoreOk w6 p0.b (p0.o + 12) [(.slice s42.a s42.n s42.c)] 1 ∧ Let (put w6 p0.b (p0.o + 12) [(.slice s42.a s42.n s42.c)]) fun w7 => 
  Let w7.drew fun w8 =>
  ∃ m48 : Option Nat, World.cell? w8 ⟨p0.b, (p0.o + 14), none⟩ = some (.map m48) ∧ ∃ m53 : Option Nat, World.cell? w8 ⟨p0.b, (p0.o + 14), none⟩ = some (.map m53) ∧ ∃ s55 : Sl, Sem.run Try.prog (Instr.lookup 83 (.map m53) (.int .i64 x1) false) w8 = .ok (.slice s55.a s55.n s55.c) w8 ∧ 0 ≤ (1 : Int) ∧ (1 : Int) ≤ ((s55.n : Nat) : Int) ∧ ∃ w9 : World, Sem.run Try.prog (Instr.mapUpdate 83 (.map m48) (.int .i64 x1) (.slice (subA s55.a s55.c (Int.toNat (1 : Int)) 4) (s55.n - (Int.toNat (1 : Int))) (s55.c - (Int.toNat (1 : Int))))) w8 = .ok () w9 ∧
  R (.bool true) w9) (fun J =>
  cond (decide (x16 ≤ (1 : Int))) (
  ∃ S2 : World → Prop, S2 w2.drew ∧ Let w2.drew fun w10 =>
  ∃ x21_0 : Int, ∃ x21_1 : Int, ∃ x21_2 : Int, (∀ u, S2 u → rd u w.heap.size 0 [(.int .i64 x21_0), (.int .i64 x21_1), (.int .i64 x21_2)]) ∧ Calls Try.prog 79 [(.pointer (some ⟨p0.b, (p0.o + 0), none⟩)), (.agg [(.int .i64 x21_0), (.int .i64 x21_1), (.int .i64 x21_2)].toArray)].toArray w10 (fun e w11 => ∃ s22 : Sl, e = .returned (.slice s22.a s22.n s22.c) ∧
  S2 w11 ∧ cond (decide (((s22.n : Nat) : Int) > (0 : Int))) (
  R (.bool false) w11) (
  Let w11.drew fun w12 =>
  ∃ x28_0 : Int, ∃ x28_1 : Int, ∃ x28_2 : Int, rd w12 w.heap.size 0 [(.int .i64 x28_0), (.int .i64 x28_1), (.int .i64 x28_2)] ∧ Calls Try.prog 93 [(.pointer (some ⟨p0.b, (p0.o + 0), none⟩)), (.agg [(.int .i64 x28_0), (.int .i64 x28_1), (.int .i64 x28_2)].toArray)].toArray w12 (fun e_2 w13 => e_2 = .returned (.tuple [].toArray) ∧
  J w13)))) (
  Calls Try.prog 78 [(.pointer (some ⟨p0.b, (p0.o + 0), none⟩)), (.int .i64 x1)].toArray w2 (fun e_3 w14 => e_3 = .returned (.tuple [].toArray) ∧
  J w14)))
theorem eq76 (p0 : Pt) (x1 : Int) (R : Value → World → Prop) (w : World) : funV Try.prog Try.f76 An76 [(.pointer (some ⟨p0.b, p0.o, none⟩)), (.int .i64 x1)] R w = S76 p0 x1 R w := by kernel_rfl
theorem call76 (p0 : Pt) (x1 : Int) {R : Value → World → Prop} {w : World} (h : S76 p0 x1 R w) : Calls Try.prog 76 [(.pointer (some ⟨p0.b, p0.o, none⟩)), (.int .i64 x1)].toArray w fun e w' => ∃ v, e = .returned v ∧ R v w' :=
  funV_calls mixed Try.func76 (an := An76) (by rw [eq76]; exact h)

/-- F49: (*cubeb/history.run).goOn -/
def An49 : An := (.sq .lf (.sq .lf (.sq (.bk [(5, .bool)] (.lp [(5, .bool)] (.sq (.sq .lf (.cd .lf .lf)) (.bk [(5, .bool)] (.sq .lf (.sq (.sq .lf (.cd (.sq (.rj [] [(5, .bool)]) .lf) .lf)) (.sq (.sq .lf (.cd (.sq .lf (.sq .lf (.sq .lf (.sq .lf (.sq .lf .lf))))) .lf)) .lf))))))) (.sq .lf .lf))))
def S49 (p0 : Pt) (x1 : Int) (R : Value → World → Prop) (w : World) : Prop :=
  Join [(5, .bool)] (fun (b5 : Bool) (w1 : World) => R (.bool b5) w1) (fun J =>
  LoopV [(5, .bool)] (fun K => K false w) (fun N => fun (b5_2 : Bool) (w2 : World) =>
  ∃ m10 : Option Nat, World.cell? w2 ⟨p0.b, (p0.o + 14), none⟩ = some (.map m10) ∧ ∃ s12 : Sl, Sem.run Try.prog (Instr.lookup 83 (.map m10) (.int .i64 x1) false) w2 = .ok (.slice s12.a s12.n s12.c) w2 ∧ cond (decide (((s12.n : Nat) : Int) > (0 : Int))) (
  Join [(5, .bool)] (fun (b5_3 : Bool) (w3 : World) => N b5_3 w3) (fun J_2 =>
  ∃ m18 : Option Nat, World.cell? w2 ⟨p0.b, (p0.o + 14), none⟩ = some (.map m18) ∧ ∃ s20 : Sl, Sem.run Try.prog (Instr.lookup 83 (.map m18) (.int .i64 x1) false) w2 = .ok (.slice s20.a s20.n s20.c) w2 ∧ ∃ p21 : Pt, s20.a = some ⟨p21.b, p21.o, none⟩ ∧ 0 ≤ (0 : Int) ∧ (0 : Int) < ((s20.n : Nat) : Int) ∧ ∃ x24 : Int, World.cell? w2 ⟨p21.b, (((p21.o + Int.toNat (0 : Int) * 4) + 0) + 1), none⟩ = some (.int .i64 x24) ∧ Calls Try.prog 76 [(.pointer (some ⟨p0.b, p0.o, none⟩)), (.int .i64 x1)].toArray w2 (fun e w4 => ∃ b28 : Bool, e = .returned (.bool b28) ∧
  cond b28 (
  Join [(5, .bool)] (fun (b5_4 : Bool) (w5 : World) => J_2 b5_4 w5) (fun J_3 =>
  cond b5_2 (J_3 true w4) (J_3 (decide (x24 > (1 : Int))) w4))) (
  Calls Try.prog 77 [(.pointer (some ⟨p0.b, p0.o, none⟩)), (.int .i64 x1)].toArray w4 (fun e_2 w6 => ∃ b35 : Bool, e_2 = .returned (.bool b35) ∧
  cond b35 (
  ∃ s40 : Sl, World.cell? w6 ⟨p0.b, (p0.o + 12), none⟩ = some (.slice s40.a s40.n s40.c) ∧ ∃ (s43 : Sl) (w7 : World), Sem.run Try.prog (Instr.buildSlice 29 1 [(0, (.agg [(.int .i64 x1), (.int .i64 (3 : Int)), (.int .i64 (0 : Int))].toArray))].toArray) w6 = .ok (.slice s43.a s43.n s43.c) w7 ∧
  ∃ (s44 : Sl) (w8 : World), Sem.run Try.prog (Builtin.append_ #[29, 29] 29 #[(.slice s40.a s40.n s40.c), (.slice s43.a s43.n s43.c)]) w7 = .ok (.slice s44.a s44.n s44.c) w8 ∧
  StoreOk w8 p0.b (p0.o + 12) [(.slice s44.a s44.n s44.c)] 1 ∧ Let (put w8 p0.b (p0.o + 12) [(.slice s44.a s44.n s44.c)]) fun w9 => 
  ∃ s51 : Sl, World.cell? w9 ⟨p0.b, (p0.o + 13), none⟩ = some (.slice s51.a s51.n s51.c) ∧ ∃ (s53 : Sl) (w10 : World), Sem.run Try.prog (Instr.buildSlice 24 1 [(0, (.int .i64 x1))].toArray) w9 = .ok (.slice s53.a s53.n s53.c) w10 ∧
  ∃ (s54 : Sl) (w11 : World), Sem.run Try.prog (Builtin.append_ #[24, 24] 24 #[(.slice s51.a s51.n s51.c), (.slice s53.a s53.n s53.c)]) w10 = .ok (.slice s54.a s54.n s54.c) w11 ∧
  StoreOk w11 p0.b (p0.o + 13) [(.slice s54.a s54.n s54.c)] 1 ∧ Let (put w11 p0.b (p0.o + 13) [(.slice s54.a s54.n s54.c)]) fun w12 => 
  ∃ m60 : Option Nat, World.cell? w12 ⟨p0.b, (p0.o + 14), none⟩ = some (.map m60) ∧ ∃ w13 : World, Sem.run Try.prog (Instr.mapUpdate 83 (.map m60) (.int .i64 x1) (.slice none 0 0)) w12 = .ok () w13 ∧
  Calls Try.prog 78 [(.pointer (some ⟨p0.b, (p0.o + 0), none⟩)), (.int .i64 x1)].toArray w13 (fun e_3 w14 => e_3 = .returned (.tuple [].toArray) ∧
  R (.bool true) w14)) (
  J b5_2 w6)))))) (
  J b5_2 w2)))
theorem eq49 (p0 : Pt) (x1 : Int) (R : Value → World → Prop) (w : World) : funV Try.prog Try.f49 An49 [(.pointer (some ⟨p0.b, p0.o, none⟩)), (.int .i64 x1)] R w = S49 p0 x1 R w := by kernel_rfl
theorem call49 (p0 : Pt) (x1 : Int) {R : Value → World → Prop} {w : World} (h : S49 p0 x1 R w) : Calls Try.prog 49 [(.pointer (some ⟨p0.b, p0.o, none⟩)), (.int .i64 x1)].toArray w fun e w' => ∃ v, e = .returned v ∧ R v w' :=
  funV_calls mixed Try.func49 (an := An49) (by rw [eq49]; exact h)

/-- F50: (*cubeb/history.run).retry -/
def An50 : An := (.bk [] (.lp [] (.bk [] (.sq .lf (.sq (.sq .lf (.bk [(2, .int .i64)] (.lp [(2, .int .i64)] (.sq .lf (.sq (.cd .lf .lf) (.bk [(2, .int .i64)] (.sq (.lf [(0, 3, 90)]) (.sq (.sq (.dr [0, 1, 2, 3, 4, 5, 6, 7, 8, 9, 10, 11, 12, 13, 14, 15, 16, 17, 18, 19, 20, 21, 22] [] true (some [(37, .bool)])) (.cd .lf .lf)) (.sq (.dr [0, 1, 2, 3, 4, 5, 6, 7, 8, 9, 10, 11, 12, 13, 14, 15, 16, 17] [] false (some [(55, .bool)])) (.cj [(2, .int .i64)] .lf .lf)))))))))) (.sq (.sq .lf (.cd .lf .lf)) .lf))))))
def S50 (p0 : Pt) (R : Value → World → Prop) (w : World) : Prop :=
  Join [] (fun (w1 : World) => R (.tuple [].toArray) w1) (fun J =>
  LoopV [] (fun K => K w) (fun N => fun (w2 : World) =>
  Join [] (fun (w3 : World) => N w3) (fun J_2 =>
  ∃ m8 : Option Nat, World.cell? w2 ⟨p0.b, (p0.o + 14), none⟩ = some (.map m8) ∧ ∃ (p9 : Pt) (w4 : World), Sem.run Try.prog (Instr.range 83 (.map m8)) w2 = .ok (.pointer (some ⟨p9.b, p9.o, none⟩)) w4 ∧
  Join [(2, .int .i64)] (fun (x2 : Int) (w5 : World) => cond (x2 == (0 : Int)) (
  R (.tuple [].toArray) w5) (
  Calls Try.prog 49 [(.pointer (some ⟨p0.b, p0.o, none⟩)), (.int .i64 x2)].toArray w5 (fun e w6 => ∃ b61 : Bool, e = .returned (.bool b61) ∧
  J_2 w6))) (fun J_3 =>
  LoopV [(2, .int .i64)] (fun K => K (0 : Int) w4) (fun N_2 => fun (x2_2 : Int) (w7 : World) =>
  ∃ (b10 : Bool) (kv10 : List Value) (w8 : World), Sem.run Try.prog (Instr.next (.pointer (some ⟨p9.b, p9.o, none⟩)) false 0) w7 = .ok (.tuple (Value.bool b10 :: kv10).toArray) w8 ∧
  cond b10 (
  Join [(2, .int .i64)] (fun (x2_3 : Int) (w9 : World) => N_2 x2_3 w9) (fun J_4 =>
  ∃ x12_k : Int, ∃ s12_v : Sl, Sem.run Try.prog (Instr.entry (.pointer (some ⟨p9.b, p9.o, none⟩))) w8 = .ok (.tuple #[(.int .i64 x12_k), (.slice s12_v.a s12_v.n s12_v.c)]) w8 ∧ Join [(37, .bool)] (fun (b37 : Bool) (w10 : World) => cond b37 (
  J_4 x2_2 w10) (
  Join [(55, .bool)] (fun (b55 : Bool) (w11 : World) => Join [(2, .int .i64)] (fun (x2_4 : Int) (w12 : World) => J_4 x2_4 w12) (fun J_5 =>
  cond b55 (
  J_5 x12_k w11) (
  J_5 x2_2 w11))) (fun J_6 =>
  Let w10.drew fun w13 =>
  cond (x2_2 == (0 : Int)) (J_6 true w13) (∃ p42 : Pt, s12_v.a = some ⟨p42.b, p42.o, none⟩ ∧ 0 ≤ (0 : Int) ∧ (0 : Int) < ((s12_v.n : Nat) : Int) ∧ ∃ x44 : Int, World.cell? w13 ⟨p42.b, ((p42.o + Int.toNat (0 : Int) * 4) + 3), none⟩ = some (.int .i64 x44) ∧ ∃ m48 : Option Nat, World.cell? w13 ⟨p0.b, (p0.o + 14), none⟩ = some (.map m48) ∧ ∃ s50 : Sl, Sem.run Try.prog (Instr.lookup 83 (.map m48) (.int .i64 x2_2) false) w13 = .ok (.slice s50.a s50.n s50.c) w13 ∧ ∃ p51 : Pt, s50.a = some ⟨p51.b, p51.o, none⟩ ∧ 0 ≤ (0 : Int) ∧ (0 : Int) < ((s50.n : Nat) : Int) ∧ ∃ x53 : Int, World.cell? w13 ⟨p51.b, ((p51.o + Int.toNat (0 : Int) * 4) + 3), none⟩ = some (.int .i64 x53) ∧ J_6 (decide (x44 < x53)) w13)))) (fun J_7 =>
  ∃ S1 : World → Prop, S1 w8.drew ∧ Let w8.drew fun w14 =>
  cond (((s12_v.n : Nat) : Int) == (0 : Int)) (J_7 true w14) (∃ p20 : Pt, s12_v.a = some ⟨p20.b, p20.o, none⟩ ∧ 0 ≤ (0 : Int) ∧ (0 : Int) < ((s12_v.n : Nat) : Int) ∧ ∃ x23 : Int, (∀ u, S1 u → World.cell? u ⟨p20.b, (((p20.o + Int.toNat (0 : Int) * 4) + 0) + 1), none⟩ = some (.int .i64 x23)) ∧ cond (decide (x23 ≤ (1 : Int))) (∃ p30 : Pt, s12_v.a = some ⟨p30.b, p30.o, none⟩ ∧ 0 ≤ (0 : Int) ∧ (0 : Int) < ((s12_v.n : Nat) : Int) ∧ ∃ x32_0 : Int, ∃ x32_1 : Int, ∃ x32_2 : Int, (∀ u, S1 u → rd u p30.b ((p30.o + Int.toNat (0 : Int) * 4) + 0) [(.int .i64 x32_0), (.int .i64 x32_1), (.int .i64 x32_2)]) ∧ Calls Try.prog 79 [(.pointer (some ⟨p0.b, (p0.o + 0), none⟩)), (.agg [(.int .i64 x32_0), (.int .i64 x32_1), (.int .i64 x32_2)].toArray)].toArray w14 (fun e_2 w15 => ∃ s33 : Sl, e_2 = .returned (.slice s33.a s33.n s33.c) ∧
  S1 w15 ∧ J_7 (decide (((s33.n : Nat) : Int) > (0 : Int))) w15)) (J_7 false w14))))) (
  J_3 x2_2 w8))))))
theorem eq50 (p0 : Pt) (R : Value → World → Prop) (w : World) : funV Try.prog Try.f50 An50 [(.pointer (some ⟨p0.b, p0.o, none⟩))] R w = S50 p0 R w := by kernel_rfl
theorem call50 (p0 : Pt) {R : Value → World → Prop} {w : World} (h : S50 p0 R w) : Calls Try.prog 50 [(.pointer (some ⟨p0.b, p0.o, none⟩))].toArray w fun e w' => ∃ v, e = .returned v ∧ R v w' :=
  funV_calls mixed Try.func50 (an := An50) (by rw [eq50]; exact h)

/-- F19: cubeb/history.Lock -/
def An19 : An := (.sq .lf (.sq (.sq .lf (.cd (.sq .lf .lf) .lf)) (.sq .lf (.sq (.sq .lf (.bk [] (.lp [(17, .int .i64)] (.sq .lf (.sq (.cd .lf .lf) (.sq (.bk [] (.sq .lf (.sq (.sq (.dr [0, 1, 2, 3, 4, 5, 6] [] false none) (.cd .lf .lf)) (.sq (.dr [0, 1, 2, 3, 4, 5, 6, 7, 8, 9] [] false none) (.sq (.dr [0, 1, 2, 3, 4, 5, 6, 7, 8, 9, 10, 11, 12, 13, 14, 15, 16, 17, 18] [18] true none) (.sq (.rj [] [(63, .bool)]) (.cj [] .lf .lf))))))) .lf)))))) (.sq (.dr [0, 1, 2, 3, 4, 5, 6, 7, 8, 9, 10] [] false none) .lf)))))
def S19 (s0 : Sl) (R : Value → World → Prop) (w : World) : Prop :=
  Calls Try.prog 26 [(.slice s0.a s0.n s0.c)].toArray w (fun e w1 => ∃ b10 : Bool, e = .returned (.bool b10) ∧
  cond (!b10) (
  R (.tuple [(.slice none 0 0), (.slice none 0 0), (.int .i64 (2 : Int))].toArray) w1) (
  Let (w1.alloc (.map #[] 0)) fun w2 => 
  Let (w2.alloc (.cells [(.map none), (.map none), (.map none), (.map none), (.map none), (.map none), (.int .i64 (0 : Int)), (.int .i64 (0 : Int)), (.int .i64 (0 : Int)), (.int .i64 (0 : Int)), (.int .i64 (0 : Int)), (.int .i64 (0 : Int)), (.slice none 0 0), (.slice none 0 0), (.map (some w1.heap.size))].toArray 89)) fun w3 => 
  Join [] (fun (w4 : World) => Let w4.drew fun w5 =>
  ∃ s70 : Sl, World.cell? w5 ⟨w2.heap.size, (0 + 12), none⟩ = some (.slice s70.a s70.n s70.c) ∧ ∃ s74 : Sl, World.cell? w5 ⟨w2.heap.size, (0 + 13), none⟩ = some (.slice s74.a s74.n s74.c) ∧ R (.tuple [(.slice s70.a s70.n s70.c), (.slice s74.a s74.n s74.c), (.int .i64 (0 : Int))].toArray) w5) (fun J =>
  LoopV [(17, .int .i64)] (fun K => K (0 : Int) w3) (fun N => fun (x17 : Int) (w6 : World) =>
  cond (decide (x17 < ((s0.n : Nat) : Int))) (
  Join [] (fun (w7 : World) => N (IntKind.wrap .i64 (x17 + (1 : Int))) w7) (fun J_2 =>
  ∃ p20 : Pt, s0.a = some ⟨p20.b, p20.o, none⟩ ∧ 0 ≤ x17 ∧ x17 < ((s0.n : Nat) : Int) ∧ ∃ x21_0 : Int, ∃ x21_1 : Int, ∃ x21_2 : Int, rd w6 p20.b (p20.o + Int.toNat x17 * 3) [(.int .i64 x21_0), (.int .i64 x21_1), (.int .i64 x21_2)] ∧ Let (w6.alloc (.cells (zc Try.prog 38) 38)) fun w8 => 
  StoreOk w8 w6.heap.size 0 [(.int .i64 x21_0), (.int .i64 x21_1), (.int .i64 x21_2)] 3 ∧ Let (put w8 w6.heap.size 0 [(.int .i64 x21_0), (.int .i64 x21_1), (.int .i64 x21_2)]) fun w9 => 
  Let w9.drew fun w10 =>
  ∃ s25 : Sl, World.cell? w10 ⟨w2.heap.size, (0 + 13), none⟩ = some (.slice s25.a s25.n s25.c) ∧ ∃ x27 : Int, World.cell? w10 ⟨w6.heap.size, (0 + 0), none⟩ = some (.int .i64 x27) ∧ Calls Try.prog 28 [(.slice s25.a s25.n s25.c), (.int .i64 x27)].toArray w10 (fun e_2 w11 => ∃ b28 : Bool, e_2 = .returned (.bool b28) ∧
  cond b28 (
  J_2 w11) (
  Let w11.drew fun w12 =>
  ∃ m32 : Option Nat, World.cell? w12 ⟨w2.heap.size, (0 + 14), none⟩ = some (.map m32) ∧ ∃ x34 : Int, World.cell? w12 ⟨w6.heap.size, (0 + 0), none⟩ = some (.int .i64 x34) ∧ ∃ s35 : Sl, Sem.run Try.prog (Instr.lookup 83 (.map m32) (.int .i64 x34) false) w12 = .ok (.slice s35.a s35.n s35.c) w12 ∧ ∃ S1 : World → Prop, S1 w12.drew ∧ Let w12.drew fun w13 =>
  ∃ m41 : Option Nat, (∀ u, S1 u → World.cell? u ⟨w2.heap.size, (0 + 14), none⟩ = some (.map m41)) ∧ ∃ x43 : Int, (∀ u, S1 u → World.cell? u ⟨w6.heap.size, (0 + 0), none⟩ = some (.int .i64 x43)) ∧ ∃ m47 : Option Nat, (∀ u, S1 u → World.cell? u ⟨w2.heap.size, (0 + 14), none⟩ = some (.map m47)) ∧ ∃ x49 : Int, (∀ u, S1 u → World.cell? u ⟨w6.heap.size, (0 + 0), none⟩ = some (.int .i64 x49)) ∧ ∃ s50 : Sl, (∀ u, S1 u → Sem.run Try.prog (Instr.lookup 83 (.map m47) (.int .i64 x49) false) u = .ok (.slice s50.a s50.n s50.c) u) ∧ ∃ x51_0 : Int, ∃ x51_1 : Int, ∃ x51_2 : Int, (∀ u, S1 u → rd u w6.heap.size 0 [(.int .i64 x51_0), (.int .i64 x51_1), (.int .i64 x51_2)]) ∧ 3 = 3 ∧ 3 ≤ 4 ∧ ∃ (s54 : Sl) (w14 : World), Sem.run Try.prog (Instr.buildSlice 90 1 [(0, (.agg [(.int .i64 x51_0), (.int .i64 x51_1), (.int .i64 x51_2), (.int .i64 x17)].toArray))].toArray) w13 = .ok (.slice s54.a s54.n s54.c) w14 ∧
  S1 w14 ∧ ∃ (s55 : Sl) (w15 : World), Sem.run Try.prog (Builtin.append_ #[90, 90] 90 #[(.slice s50.a s50.n s50.c), (.slice s54.a s54.n s54.c)]) w14 = .ok (.slice s55.a s55.n s55.c) w15 ∧
  S1 w15 ∧ ∃ w16 : World, Sem.run Try.prog (Instr.mapUpdate 83 (.map m41) (.int .i64 x43) (.slice s55.a s55.n s55.c)) w15 = .ok () w16 ∧
  Join [(63, .bool)] (fun (b63 : Bool) (w17 : World) => Join [] (fun (w18 : World) => J_2 w18) (fun J_3 =>
  cond b63 (
  Calls Try.prog 50 [(.pointer (some ⟨w2.heap.size, 0, none⟩))].toArray w17 (fun e_3 w19 => e_3 = .returned (.tuple [].toArray) ∧
  J_3 w19)) (
  J_3 w17))) (fun J_4 =>
  cond (!(decide (((s35.n : Nat) : Int) > (0 : Int)))) (∃ x61 : Int, World.cell? w16 ⟨w6.heap.size, (0 + 0), none⟩ = some (.int .i64 x61) ∧ Calls Try.prog 49 [(.pointer (some ⟨w2.heap.size, 0, none⟩)), (.int .i64 x61)].toArray w16 (fun e_4 w20 => ∃ b62 : Bool, e_4 = .returned (.bool b62) ∧
  J_4 b62 w20)) (J_4 false w16)))))) (
  J w6)))))
theorem eq19 (s0 : Sl) (R : Value → World → Prop) (w : World) : funV Try.prog Try.f19 An19 [(.slice s0.a s0.n s0.c)] R w = S19 s0 R w := by kernel_rfl
theorem call19 (s0 : Sl) {R : Value → World → Prop} {w : World} (h : S19 s0 R w) : Calls Try.prog 19 [(.slice s0.a s0.n s0.c)].toArray w fun e w' => ∃ v, e = .returned v ∧ R v w' :=
  funV_calls mixed Try.func19 (an := An19) (by rw [eq19]; exact h)

end Go.Proofs.Ytnbkihkdfhjlmaa
/-
  Slices whose room lies in a block of their own, from some place on; blocks whose cells are a function; an entry deleted from a map; the nil map. For every program.
-/
namespace Go.VC
open Go
variable {P : Program}

/-! ### a slice whose whole room lies in one block -/
/-- The slice reads as l, and all of its room lies in a block of type T, from block B on. -/
structure Tl {α : Type} (T size : Nat) (enc : α → List Value) (B : Nat) (w : World) (s : Sl) (l : List α) : Prop where
  len : s.n = l.length
  cap : s.n ≤ s.c
  room : 0 < s.c → ∃ (g o : Nat) (cur : List Value), s.a = some ⟨g, o, none⟩ ∧ B ≤ g ∧ Blk w g cur T ∧ o + s.c * size ≤ cur.length ∧ (cur.drop o).take (l.length * size) = l.flatMap enc
theorem Tl.nil {α : Type} (T size : Nat) (enc : α → List Value) (B : Nat) (w : World) (a : Option Addr) : Tl T size enc B w ⟨a, 0, 0⟩ ([] : List α) := ⟨rfl, Nat.le_refl _, fun h => absurd h (Nat.lt_irrefl _)⟩
theorem Tl.sli {α : Type} {T size B : Nat} {enc : α → List Value} {w : World} {s : Sl} {l : List α} (h : Tl T size enc B w s l) : Sli size enc w s l := by
  refine ⟨h.len, h.cap, fun hl => ?_⟩
  have h0 : 0 < l.length := List.length_pos_iff.2 hl
  obtain ⟨g, o, cur, ha, _, hb, _, ht⟩ := h.room (by have := h.len; have := h.cap; omega)
  refine ⟨⟨g, o⟩, ha, hb.rd_drop fun i v hv => ?_⟩
  rw [← ht, List.getElem?_take] at hv
  split at hv
  · rwa [List.getElem?_drop] at hv
  · cases hv
/-- The blocks of a slice that has room. -/
def Rm (s : Sl) (b : Nat) : Prop := 0 < s.c ∧ ∃ a, s.a = some a ∧ a.block = b
theorem Tl.fr {α : Type} {T size B : Nat} {enc : α → List Value} {M : Nat → Prop} {w w' : World} {s : Sl} {l : List α} (h : Tl T size enc B w s l) (f : Fr M w w') (hn : ∀ b, Rm s b → ¬ M b) : Tl T size enc B w' s l := by
  refine ⟨h.len, h.cap, fun hc => ?_⟩
  obtain ⟨g, o, cur, ha, hB, hb, r⟩ := h.room hc
  exact ⟨g, o, cur, ha, hB, hb.fr f (hn g ⟨hc, _, ha, rfl⟩), r⟩
theorem Tl.ext {α : Type} {T size B : Nat} {enc : α → List Value} {w w' : World} {s : Sl} {l : List α} (h : Tl T size enc B w s l) (f : Ext w w') : Tl T size enc B w' s l := h.fr f fun _ _ h => h
theorem Tl.base {α : Type} {T size B : Nat} {enc : α → List Value} {w : World} {s : Sl} {l : List α} (h : Tl T size enc B w s l) {b : Nat} (hb : Rm s b) : B ≤ b ∧ b < w.heap.size ∧ ∃ cur, Blk w b cur T := by
  obtain ⟨hc, a, ha, rfl⟩ := hb
  obtain ⟨g, o, cur, ha', hB, hk, _⟩ := h.room hc
  rw [ha] at ha'; cases ha'
  exact ⟨hB, hk.lt, cur, hk⟩
theorem Tl.mono {α : Type} {T size B B' : Nat} {enc : α → List Value} {w : World} {s : Sl} {l : List α} (h : Tl T size enc B w s l) (hB : B' ≤ B) : Tl T size enc B' w s l := by
  refine ⟨h.len, h.cap, fun hc => ?_⟩
  obtain ⟨g, o, cur, ha, hb, r⟩ := h.room hc
  exact ⟨g, o, cur, ha, Nat.le_trans hB hb, r⟩
theorem Own.tl {α : Type} {T size B : Nat} {enc : α → List Value} {w : World} {s : Sl} {l : List α} (h : Own T size enc B w s l) : Tl T size enc B w s l := by
  obtain ⟨hn, hl, h⟩ := h
  rcases h with ⟨h1, h2⟩ | ⟨g, cap, cur, hv, hb, hg, hc, hm, hcs, ht⟩
  · simp only [Value.slice.injEq] at h1
    refine ⟨hn, by omega, fun h => by omega⟩
  · simp only [Value.slice.injEq] at hv
    obtain ⟨ha, h2, h3⟩ := hv
    refine ⟨hn, by omega, fun _ => ⟨g, 0, cur.toList, ha, hb, by unfold Blk; simpa using hg, by rw [h3]; simp [hcs], by simpa using ht⟩⟩
/-- 's[m:]' -/
theorem Tl.drop {α : Type} {T size B : Nat} {enc : α → List Value} (hk : ∀ x, (enc x).length = size) {w : World} {s : Sl} {l : List α} (h : Tl T size enc B w s l) {m : Nat} (hm : m ≤ l.length) : Tl T size enc B w ⟨subA s.a s.c m size, s.n - m, s.c - m⟩ (l.drop m) := by
  have h1 := h.len
  have h2 := h.cap
  refine ⟨by simp [h1], by simp only; omega, fun hc => ?_⟩
  simp only at hc
  obtain ⟨g, o, cur, ha, hB, hb, hr, ht⟩ := h.room (by omega)
  refine ⟨g, o + m * size, cur, ?_, hB, hb, ?_, ?_⟩
  · simp only [subA]
    rw [if_neg (by omega), ha, Option.map_some, addr_add_plain]
  · simp only
    rw [Nat.add_assoc, ← Nat.add_mul, show m + (s.c - m) = s.c from by omega]; exact hr
  · have e : l.flatMap enc = (l.take m).flatMap enc ++ (l.drop m).flatMap enc := by rw [← List.flatMap_append, List.take_append_drop]
    have hle : ((l.take m).flatMap enc).length = m * size := by rw [flatMap_len hk, List.length_take, Nat.min_eq_left hm]
    rw [e] at ht
    have h3 : (cur.drop (o + m * size)) = (cur.drop o).drop (m * size) := by rw [List.drop_drop]
    rw [h3, List.length_drop]
    have h4 := congrArg (List.drop (m * size)) ht
    rw [List.drop_take, List.drop_left' hle] at h4
    rw [← h4, Nat.sub_mul]
theorem Rm.drop {s : Sl} {m size b : Nat} (hm : m ≤ s.c) (h : Rm ⟨subA s.a s.c m size, s.n - m, s.c - m⟩ b) : Rm s b := by
  obtain ⟨hc, a, ha, hb⟩ := h
  simp only at hc
  unfold subA at ha
  simp only at ha
  rw [if_neg (by omega)] at ha
  cases hs : s.a with
  | none => rw [hs] at ha; cases ha
  | some a0 =>
    rw [hs] at ha
    simp only [Option.map_some, Option.some.injEq] at ha
    subst ha
    refine ⟨by omega, a0, hs, ?_⟩
    rw [← hb]
    unfold Addr.add; split <;> rfl
/-- 'append(s, x)' -/
theorem Tl.append {α : Type} {t e size bytes : Nat} (E : Elem P t e size bytes) {enc : α → List Value} {B : Nat} {w : World} {s : Sl} {l : List α} (h : Tl e size enc B w s l) {x : α} {v : Value} (hv : cellsV v = enc x) (hk : ∀ x, (enc x).length = size) (h1 : ∀ x, ∀ v ∈ enc x, v.oneCell' = true)
    (hbig : size ≤ 16777216) (hlen : (l.length + 1) * bytes ≤ 140737488355328) (hlen' : l.length + 1 ≤ maxLen) (hB : B ≤ w.heap.size) (ty : Nat) :
    ∃ (s1 : Sl) (w1 : World), (Instr.buildSlice t 1 [(0, v)].toArray).run P w = .ok (.slice s1.a s1.n s1.c) w1 ∧ Ext w w1 ∧
      ∃ (s' : Sl) (w' : World), (Builtin.append_ #[t, t] ty #[.slice s.a s.n s.c, .slice s1.a s1.n s1.c]).run P w1 = .ok (.slice s'.a s'.n s'.c) w' ∧ Tl e size enc B w' s' (l ++ [x]) ∧ Fr (Rm s) w1 w' ∧ ((∀ b, Rm s' b → Rm s b) ∨ ∀ b, Rm s' b → w.heap.size ≤ b) := by
  have hb := buildOne_run E hv (hk x) hbig w
  have hx := Ext.alloc w (.cells (enc x).toArray e)
  refine ⟨⟨some ⟨w.heap.size, 0, none⟩, 1, 1⟩, _, hb, hx, ?_⟩
  have hxb : Blk (w.alloc (.cells (enc x).toArray e)) w.heap.size (enc x) e := Blk.alloc w (enc x) e
  have h' := h.ext hx
  generalize w.alloc (.cells (enc x).toArray e) = w1 at hx hxb h'
  obtain ⟨i, z, hi, hz, hsz, hby, hzs⟩ := E.info
  have hfl := flatMap_len hk
  have hpos := E.pos
  have hn := h.len
  have hcap := h.cap
  have hxl : (enc x).length = size := hk x
  have hnew : ∀ {s0 : Sl}, s0 = ⟨none, 0, 0⟩ → l = [] → ∃ (s' : Sl) (w' : World), (Builtin.append_ #[t, t] ty #[.slice s0.a s0.n s0.c, .slice (some ⟨w.heap.size, 0, none⟩) 1 1]).run P w1 = .ok (.slice s'.a s'.n s'.c) w' ∧ Tl e size enc B w' s' (l ++ [x]) ∧ Fr (Rm s) w1 w' ∧ ∀ b, Rm s' b → w.heap.size ≤ b := by
    intro s0 h0 hl
    subst h0
    subst hl
    obtain ⟨s', w', hr, ho, hf⟩ := appendOwn E (Own.nil (α := α) e size enc w1.heap.size w1) (s2 := ⟨some ⟨w.heap.size, 0, none⟩, 1, 1⟩) (l2 := [x]) rfl rfl (by simpa using hxb.rd) hk h1 (by simpa using hlen) (by simpa using hlen') (Nat.le_refl _) ty
    have hz1 := hx.size
    exact ⟨s', w', hr, ho.tl.mono (by omega), hf.mono (fun b _ ⟨a, ha, _⟩ => by cases ha), fun b hb => by have := (ho.tl.base hb).1; omega⟩
  rcases Nat.lt_or_ge s.c (l.length + 1) with hgr | hroom
  · -- a new block
    cases ha : s.a with
    | none =>
      have hc0 : s.c = 0 := by
        rcases Nat.eq_zero_or_pos s.c with h | h
        · exact h
        · obtain ⟨g, o, cur, ha', _⟩ := h'.room h; rw [ha] at ha'; cases ha'
      have hl : l = [] := List.eq_nil_of_length_eq_zero (by omega)
      obtain ⟨s', w', hr, ho, hf, hb'⟩ := hnew (s0 := ⟨none, 0, 0⟩) rfl hl
      refine ⟨s', w', ?_, ho, hf, .inr hb'⟩
      rw [show s.n = 0 from by omega, hc0]; exact hr
    | some a0 =>
      obtain ⟨b0, o0, sp0⟩ := a0
      have hcells : ∀ j u, (l.flatMap enc)[j]? = some u → w1.cell? ((⟨b0, o0, sp0⟩ : Addr).add j) = some u := by
        intro j u hu
        have hl : l ≠ [] := by rintro rfl; simp at hu
        have h0 : 0 < l.length := List.length_pos_iff.2 hl
        obtain ⟨g, o, cur, ha', _, hbk, _, ht⟩ := h'.room (by omega)
        rw [ha] at ha'; cases ha'
        rw [addr_add_plain, hbk.cell]
        rw [← ht, List.getElem?_take] at hu
        split at hu
        · rwa [List.getElem?_drop] at hu
        · cases hu
      obtain ⟨v', w2, hr2, ho2, hg2⟩ := run_append_arg_grows (P := P) w1 t ty e i z size bytes E.under hi hz hsz hby hzs E.pos ⟨b0, o0, sp0⟩ l.length s.c (l.flatMap enc) (hfl l) hcells ⟨w.heap.size, 0, none⟩ 1 1 (enc x) (by rw [hxl, Nat.one_mul]) (fun j u hu => by rw [addr_add_plain, hxb.cell]; simpa using hu) hgr hlen' hlen
      have hshape : ∃ s' : Sl, v' = .slice s'.a s'.n s'.c ∧ s'.n = l.length + 1 := by
        rcases ho2.2 with ⟨h1, h2⟩ | ⟨g, cap, cur, h1, _⟩
        · exact ⟨⟨none, 0, 0⟩, h1, by simpa using h2.symm⟩
        · exact ⟨⟨some ⟨g, 0, none⟩, _, cap⟩, h1, rfl⟩
      obtain ⟨s', rfl, hs'⟩ := hshape
      have hz1 := hx.size
      have hown : Own e size enc w1.heap.size w2 s' (l ++ [x]) := ⟨by simp [hs'], by simpa using ho2⟩
      refine ⟨s', w2, ?_, hown.tl.mono (by omega), (Fr.grown hg2).mono (fun b _ hb => by cases hb), .inr fun b hb => by have := (hown.tl.base hb).1; omega⟩
      rw [hn]; exact hr2
  · -- in place
    obtain ⟨g, o, cur, ha, hgB, hbk, hr, ht⟩ := h'.room (by omega)
    have hr2 := run_append_room_cells (P := P) w1 t ty e i E.under hi g o l.length s.c ⟨w.heap.size, 0, none⟩ 1 1 (enc x) (by rw [hsz, hxl, Nat.one_mul]) (fun j u hu => by rw [addr_add_plain, hxb.cell]; simpa using hu)
      (fun u hu => h1 x u hu) hroom
      (fun j hj => by
        rw [hbk.cell, hsz]
        have h3 : (l.length + 1) * size ≤ s.c * size := Nat.mul_le_mul_right _ hroom
        rw [Nat.add_mul] at h3
        rw [List.getElem?_eq_getElem (by omega)]; rfl)
      (fun j hj => frozen_of_row w1 g _ cur.toArray e hbk)
    rw [hsz] at hr2
    have h3 : (l.length + 1) * size ≤ s.c * size := Nat.mul_le_mul_right _ hroom
    rw [Nat.add_mul, Nat.one_mul] at h3
    have hb2 := hbk.put (o := o + l.length * size) (vs := enc x)
    have hsplit : cur = cur.take (o + l.length * size) ++ ((cur.drop (o + l.length * size)).take size ++ (cur.drop (o + l.length * size)).drop size) := by rw [List.take_append_drop, List.take_append_drop]
    have hset : setR cur (o + l.length * size) (enc x) = cur.take (o + l.length * size) ++ (enc x ++ (cur.drop (o + l.length * size)).drop size) := by
      have := setR_mid (vs := enc x) (mid := (cur.drop (o + l.length * size)).take size) (pre := cur.take (o + l.length * size)) (post := (cur.drop (o + l.length * size)).drop size) (by rw [hxl]; simp; omega)
      rw [← hsplit, show (cur.take (o + l.length * size)).length = o + l.length * size from by simp; omega] at this
      exact this
    rw [hset] at hb2
    refine ⟨⟨some ⟨g, o, none⟩, l.length + 1, s.c⟩, put w1 g (o + l.length * size) (enc x), ?_, ⟨by simp, hroom, fun _ => ⟨g, o, _, rfl, hgB, hb2, ?_, ?_⟩⟩, ?_, .inl ?_⟩
    · rw [ha, hn, put_eq]; exact hr2
    · simp [hxl]; omega
    · rw [List.drop_append_of_le_length (by simp; omega), List.drop_take, show o + l.length * size - o = l.length * size from by omega, ht]
      rw [List.flatMap_append, ← List.append_assoc]
      simp only [List.flatMap_cons, List.flatMap_nil, List.append_nil]
      rw [List.take_left' (by simp [hfl, hxl, Nat.add_mul])]
    · exact (Fr.put _ _ _ _).mono fun b _ hb => ⟨by omega, _, ha, hb.symm⟩
    · rintro b ⟨hc, a, h2, h3⟩
      exact ⟨hc, a, by rw [ha]; exact h2, h3⟩

/-! ### blocks whose cells are a function -/
def FB (w : World) (b n : Nat) (f : Nat → Value) (T : TypeId) : Prop := Blk w b ((List.range n).map f) T
theorem FB.cell {w : World} {b n : Nat} {f : Nat → Value} {T : TypeId} (h : FB w b n f T) {i : Nat} (hi : i < n) {v : Value} (hv : f i = v) : w.cell? ⟨b, i, none⟩ = some v := by
  rw [Blk.cell h]; simp [hi, hv]
theorem FB.lt {w : World} {b n : Nat} {f : Nat → Value} {T : TypeId} (h : FB w b n f T) : b < w.heap.size := Blk.lt h
theorem FB.fr {M : Nat → Prop} {w w' : World} {b n : Nat} {f : Nat → Value} {T : TypeId} (h : FB w b n f T) (k : Fr M w w') (hn : ¬ M b) : FB w' b n f T := Blk.fr h k hn
theorem FB.ext {w w' : World} {b n : Nat} {f : Nat → Value} {T : TypeId} (h : FB w b n f T) (k : Ext w w') : FB w' b n f T := Blk.ext h k
def updF (f : Nat → Value) (o : Nat) (vs : List Value) : Nat → Value := fun j => if o ≤ j then (vs[j - o]?).getD (f j) else f j
theorem updF_in {f : Nat → Value} {o j : Nat} {vs : List Value} {v : Value} (h1 : o ≤ j) (h2 : vs[j - o]? = some v) : updF f o vs j = v := by unfold updF; rw [if_pos h1, h2]; rfl
theorem updF_out {f : Nat → Value} {o j : Nat} {vs : List Value} (h : j < o ∨ o + vs.length ≤ j) : updF f o vs j = f j := by
  unfold updF
  split
  · rw [List.getElem?_eq_none (by omega)]; rfl
  · rfl
theorem setR_range {n : Nat} : ∀ {vs : List Value} {f : Nat → Value} {o : Nat}, o + vs.length ≤ n → setR ((List.range n).map f) o vs = (List.range n).map (updF f o vs)
  | [], f, o, _ => by
    rw [setR]; congr 1; funext j; unfold updF; split <;> simp
  | v :: r, f, o, h => by
    have h' : o + 1 + r.length ≤ n := by simpa [Nat.add_assoc, Nat.add_comm 1] using h
    have hset : ((List.range n).map f).set o v = (List.range n).map (updF f o [v]) := by
      apply List.ext_getElem
      · simp
      · intro j h1 h2
        have hj : j < n := by simpa using h2
        rw [List.getElem_set]
        by_cases e : o = j
        · subst e; rw [if_pos rfl]; simp [updF_in (v := v) (vs := [v]) (Nat.le_refl o) (by simp)]
        · rw [if_neg e]
          simp only [List.getElem_map, List.getElem_range]
          rw [updF_out (by simp; omega)]
    rw [setR, hset, setR_range h']
    congr 1
    funext j
    by_cases h1 : j < o
    · rw [updF_out (.inl (by omega)), updF_out (.inl h1), updF_out (.inl h1)]
    · by_cases h2 : j = o
      · subst h2
        rw [updF_out (.inl (by omega)), updF_in (v := v) (Nat.le_refl _) (by simp), updF_in (v := v) (Nat.le_refl _) (by simp)]
      · unfold updF
        rw [if_pos (by omega), if_pos (by omega), if_pos (by omega)]
        have e1 : j - o = (j - (o + 1)) + 1 := by omega
        rw [e1, List.getElem?_cons_succ, List.getElem?_cons_succ]
        simp
theorem FB.put {w : World} {b n : Nat} {f : Nat → Value} {T : TypeId} (h : FB w b n f T) {o : Nat} {vs : List Value} (ho : o + vs.length ≤ n) : FB (put w b o vs) b n (updF f o vs) T := by
  have := Blk.put (vs := vs) (o := o) h
  rw [setR_range ho] at this; exact this
theorem FB.storeOk {w : World} {b n : Nat} {f : Nat → Value} {T : TypeId} (h : FB w b n f T) {o k : Nat} {vs : List Value} (hv : vs.length = k) (h1 : ∀ v ∈ vs, v.oneCell' = true) (hl : o + k ≤ n) : StoreOk w b o vs k := Blk.storeOk h hv h1 (by simpa using hl)
theorem FB.rd {w : World} {b n : Nat} {f : Nat → Value} {T : TypeId} (h : FB w b n f T) : ∀ {vs : List Value} {o : Nat}, o + vs.length ≤ n → (∀ i v, vs[i]? = some v → f (o + i) = v) → rd w b o vs
  | [], _, _, _ => trivial
  | v :: r, o, hl, hv => ⟨h.cell (by simp at hl; omega) (hv 0 v rfl), h.rd (by simp at hl ⊢; omega) fun i u hu => by
      have := hv (i + 1) u (by simpa using hu)
      rw [show o + 1 + i = o + (i + 1) from by omega]; exact this⟩
theorem FB.alloc (w : World) (l : List Value) (T : TypeId) : FB (w.alloc (.cells l.toArray T)) w.heap.size l.length (fun i => l.getD i undef) T := by
  have h := Blk.alloc w l T
  have e : (List.range l.length).map (fun i => l.getD i undef) = l := by
    apply List.ext_getElem
    · simp
    · intro j h1 h2; simp [List.getD, h2]
  unfold FB; rw [e]; exact h

/-! ### blocks told apart by what lies in them -/
theorem Blk.ne_ty {w : World} {b b' T T' : Nat} {l l' : List Value} (h : Blk w b l T) (h' : Blk w b' l' T') (hT : T ≠ T') : b ≠ b' := by
  rintro rfl
  unfold Blk at h h'
  rw [h] at h'
  injection h' with h'
  injection h' with _ h'
  exact hT h'
section
variable {κ β : Type} {ke : κ → Value} {ve : β → Value}
theorem Mp.ne_blk {w : World} {b b' T c : Nat} {l : List (Ent κ β)} {l' : List Value} (h : Mp ke ve w b l c) (h' : Blk w b' l' T) : b ≠ b' := by
  rintro rfl
  unfold Blk at h'
  rw [h.heap] at h'
  cases h'

/-! ### an entry deleted -/
def mdel [DecidableEq κ] (l : List (Ent κ β)) (k : κ) : List (Ent κ β) := l.filter fun x => !decide (x.1 = k)
theorem mget_mdel [DecidableEq κ] (l : List (Ent κ β)) (k k' : κ) : mget (mdel l k) k' = if k' = k then none else mget l k' := by
  unfold mget mdel
  induction l with
  | nil => simp
  | cons x r ih =>
    rw [List.filter_cons]
    by_cases e : x.1 = k
    · rw [if_neg (by simp [e])]
      by_cases e' : k' = k
      · rw [if_pos e'] at ih ⊢; exact ih
      · rw [if_neg e'] at ih ⊢
        rw [List.find?_cons, ih]
        rw [show decide (x.1 = k') = false from by simp; rw [e]; exact fun h => e' h.symm]
    · rw [if_pos (by simp [e]), List.find?_cons, List.find?_cons]
      by_cases e2 : x.1 = k'
      · rw [show decide (x.1 = k') = true from by simpa using e2]
        rw [if_neg (by rw [← e2]; exact e)]
      · rw [show decide (x.1 = k') = false from by simpa using e2]
        exact ih
theorem eraseIdx_key [DecidableEq κ] : ∀ {l : List (Ent κ β)} {i : Nat} {x : Ent κ β}, (l.map (·.1)).Nodup → l[i]? = some x → l.eraseIdx i = mdel l x.1
  | [], _, _, _, h => by cases h
  | y :: r, 0, x, hn, h => by
    cases h
    simp only [List.map_cons, List.nodup_cons] at hn
    unfold mdel
    rw [List.eraseIdx_cons_zero, List.filter_cons, if_neg (by simp), List.filter_eq_self.2]
    intro z hz
    have : z.1 ≠ y.1 := fun e => hn.1 (List.mem_map.2 ⟨z, hz, e⟩)
    simpa using this
  | y :: r, i + 1, x, hn, h => by
    simp only [List.map_cons, List.nodup_cons] at hn
    have h' : r[i]? = some x := by simpa using h
    have := eraseIdx_key hn.2 h'
    unfold mdel at this ⊢
    rw [List.eraseIdx_cons_succ, List.filter_cons, if_pos, this]
    have : y.1 ≠ x.1 := fun e => hn.1 (List.mem_map.2 ⟨x, List.mem_of_getElem? h', e.symm⟩)
    simpa using this
theorem eraseIdx_map' {α β : Type} (f : α → β) : ∀ (l : List α) (i : Nat), (l.map f).eraseIdx i = (l.eraseIdx i).map f
  | [], _ => rfl
  | _ :: _, 0 => rfl
  | x :: r, i + 1 => by rw [List.map_cons, List.eraseIdx_cons_succ, List.eraseIdx_cons_succ, List.map_cons, eraseIdx_map' f r i]
theorem del_run [DecidableEq κ] {t kt vt kt' : TypeId} (K : KeyOk P kt ke) (ht : P.underlying t = some (.map kt vt)) {w : World} {b c : Nat} {l : List (Ent κ β)} (h : Mp ke ve w b l c) (k : κ) (ty : Nat) :
    ∃ w', (Builtin.delete_ #[t, kt'] ty #[.map (some b), ke k]).run P w = .ok (.tuple #[]) w' ∧ Mp ke ve w' b (mdel l k) c ∧ Fr (fun i => i = b) w w' := by
  have hg : (getObj b).run P w = .ok (.map (l.map (ent ke ve)).toArray c) w := by simp [getObj, Sem.run, h.heap]
  have hb := h.bound
  have hset : ∀ es c', (setObj b (.map es c')).run P w = .ok () { w with heap := w.heap.setIfInBounds b (.map es c') } := fun es c' => by simp [setObj, Sem.run, h.heap]
  have hfr : ∀ es c', Fr (fun i => i = b) w { w with heap := w.heap.setIfInBounds b (.map es c') } := fun es c' =>
    ⟨rfl, rfl, rfl, by simp, fun i _ hi => by show (w.heap.setIfInBounds b _)[i]? = _; rw [Array.getElem?_setIfInBounds_ne (fun e => hi e.symm)]⟩
  have hk : ∀ e ∈ l.map (ent ke ve), ∃ k', e.key = ke k' := fun e he => by obtain ⟨x, _, rfl⟩ := List.mem_map.1 he; exact ⟨x.1, rfl⟩
  have hmp : Mp ke ve { w with heap := w.heap.setIfInBounds b (.map ((mdel l k).map (ent ke ve)).toArray c) } b (mdel l k) c :=
    ⟨by simp [hb], h.keys.sublist (List.filter_sublist.map _), h.stamps.sublist (List.filter_sublist.map _), fun x hx => h.lt x (List.mem_filter.1 hx).1⟩
  rcases K.find k (l.map (ent ke ve)) w hk with ⟨hf, hno⟩ | ⟨i, e, hi, he, hf⟩
  · have hm : mdel l k = l := by
      unfold mdel
      rw [List.filter_eq_self]
      intro x hx
      have : x.1 ≠ k := fun e => hno _ (List.mem_map.2 ⟨x, hx, rfl⟩) (by show ke x.1 = ke k; rw [e])
      simpa using this
    refine ⟨_, ?_, hmp, hfr _ _⟩
    rw [hm]
    simp [Builtin.delete_, under_run ht, hg, K.chk, hf, hset]
  · have hi' : ∃ x, l[i]? = some x ∧ e = ent ke ve x := by
      rw [List.getElem?_map] at hi
      cases hx : l[i]? with
      | none => rw [hx] at hi; cases hi
      | some x => rw [hx] at hi; cases hi; exact ⟨x, rfl, rfl⟩
    obtain ⟨x, hx, rfl⟩ := hi'
    obtain rfl : x.1 = k := K.inj _ _ he
    refine ⟨_, ?_, hmp, hfr _ _⟩
    have hse : ((l.map (ent ke ve)).toArray.eraseIdxIfInBounds i) = ((mdel l x.1).map (ent ke ve)).toArray := by
      rw [← eraseIdx_key h.keys hx]
      simp [eraseIdx_map']
    have := hset ((l.map (ent ke ve)).toArray.eraseIdxIfInBounds i) c
    rw [hse] at this
    simp only [List.eraseIdxIfInBounds_toArray] at hse
    simp [Builtin.delete_, under_run ht, hg, K.chk, hf, hse, this]
theorem del_nil {t kt vt kt' : TypeId} (K : KeyOk P kt ke) (ht : P.underlying t = some (.map kt vt)) (k : κ) (ty : Nat) (w : World) :
    (Builtin.delete_ #[t, kt'] ty #[.map none, ke k]).run P w = .ok (.tuple #[]) w := by
  simp [Builtin.delete_, under_run ht, K.chk]

/-! ### ranging over the nil map -/
theorem range_nil {t kt vt : TypeId} (ht : P.underlying t = some (.map kt vt)) (w : World) :
    ∃ w', (Instr.range t (.map none)).run P w = .ok (.pointer (some ⟨w.heap.size, 0, none⟩)) w' ∧ Ext w w' ∧ w'.heap[w.heap.size]? = some (.mapIter none 0 #[] 0) := by
  refine ⟨w.alloc (.mapIter none 0 #[] 0), ?_, Ext.alloc _ _, by show (w.heap.push _)[w.heap.size]? = _; simp⟩
  simp [Instr.range, under_run ht]
theorem next_nil {w : World} {r T : Nat} (hi : w.heap[r]? = some (.mapIter none 0 #[] 0)) :
    (Instr.next (.pointer (some ⟨r, 0, none⟩)) false T).run P w = .ok (.tuple (Value.bool false :: ([] : List Value)).toArray) w := by
  have hgr : (getObj r).run P w = .ok (.mapIter none 0 #[] 0) w := by simp [getObj, Sem.run, hi]
  simp [Instr.next, hgr]
end
end Go.VC
/-
  A loop over the entries of a map that stays as it is. For every program.
-/
namespace Go.VC
open Go
variable {P : Program}
section
variable {κ β : Type} {ke : κ → Value} {ve : β → Value}
theorem rangeM {t' T : Nat} {k : SK} {b c r : Nat} {l : List (Ent κ β)} {w0 : World} {s0 : k.T} {J : k.T → World → Prop} {Bd : k.T → World → (k.T → World → Prop) → Prop}
    (Inv : List (Ent κ β) → k.T → World → Prop) (hm : Mp ke ve w0 b l c) (hi : Itr (κ := κ) (β := β) w0 r b c []) (h0 : Inv [] s0 w0)
    (stab : ∀ vis s w w', Inv vis s w → Fr (fun y => y = r) w w' → Inv vis s w')
    (step : ∀ vis x s w, x ∈ l → x ∉ vis → vis.Nodup → (∀ y ∈ vis, y ∈ l) → vis.length < l.length → Inv vis s w → Mp ke ve w b l c → r < w.heap.size → (Instr.entry (.pointer (some ⟨r, 0, none⟩))).run P w = .ok (.tuple #[ke x.1, ve x.2.1]) w →
      ∀ K : k.T → World → Prop, (∀ s' w', Inv (vis ++ [x]) s' w' → Fr (fun y => y ≠ r ∧ y ≠ b) w w' → K s' w') → Bd s w K)
    (fin : ∀ vis s w, (∀ x ∈ l, x ∈ vis) → vis.Nodup → (∀ y ∈ vis, y ∈ l) → Inv vis s w → Mp ke ve w b l c → J s w) :
    LoopV [(t', k)] (fun K => K s0 w0) (fun N => fun (s : k.T) (w8 : World) => ∃ (d : Bool) (kv : List Value) (w9 : World), Sem.run P (Instr.next (.pointer (some ⟨r, 0, none⟩)) false T) w8 = .ok (.tuple (Value.bool d :: kv).toArray) w9 ∧
      cond d (Join [(t', k)] (fun (s' : k.T) (w10 : World) => N s' w10) (fun J2 => Bd s w9 J2)) (J s w9)) := by
  refine LoopV.intro (fun n (s : k.T) w => ∃ vis : List (Ent κ β), n = l.length - vis.length ∧ vis.Nodup ∧ (∀ x ∈ vis, x ∈ l) ∧ Itr (κ := κ) (β := β) w r b c vis ∧ Mp ke ve w b l c ∧ Inv vis s w) l.length ⟨[], by simp, by simp, by simp, hi, hm, h0⟩ ?_
  rintro n s w ⟨vis, rfl, hvn, hvl, hit, hmp, hinv⟩
  have hbr : b ≠ r := fun e => by have := hmp.heap; rw [e, hit.heap] at this; cases this
  obtain ⟨d, kv, w6, hrun, hcase⟩ := next_run (P := P) (T := T) hmp hit hvl
  refine ⟨d, kv, w6, hrun, ?_⟩
  rcases hcase with ⟨rfl, hall, hx6⟩ | ⟨rfl, x, hxl, hxv, hit6, hmp6, hfr6, hent⟩
  · exact fin vis s w6 hall hvn hvl (stab _ _ _ _ hinv (hx6.mono fun _ _ h => h.elim)) (hmp.ext hx6)
  · have hlt : vis.length + 1 ≤ l.length := by
      have := (List.nodup_cons.2 ⟨hxv, hvn⟩).length_le_of_subset (l₂ := l) (by intro y hy; rcases List.mem_cons.1 hy with rfl | hy; exact hxl; exact hvl y hy)
      simpa using this
    have hvn' : (vis ++ [x]).Nodup := by
      rw [List.nodup_append]; exact ⟨hvn, by simp, by intro a ha b hb e; simp at hb; subst hb; subst e; exact hxv ha⟩
    have hvl' : ∀ y ∈ vis ++ [x], y ∈ l := by intro y hy; rcases List.mem_append.1 hy with hy | hy; exact hvl y hy; simp at hy; subst hy; exact hxl
    refine Join.dir (step vis x s w6 hxl hxv hvn hvl (by omega) (stab _ _ _ _ hinv hfr6) hmp6 hit6.bound hent _ fun s' w' hinv' hfr => ?_)
    exact ⟨l.length - (vis ++ [x]).length, by simp; omega, vis ++ [x], rfl, hvn', hvl', hit6.fr hfr fun h => h.1 rfl, hmp6.fr hfr fun h => h.2 rfl, hinv'⟩
theorem rangeMnil {t' T : Nat} {k : SK} {r : Nat} {w0 : World} {s0 : k.T} {J : k.T → World → Prop} {Bd : k.T → World → (k.T → World → Prop) → Prop} (hi : w0.heap[r]? = some (.mapIter none 0 #[] 0)) (hJ : J s0 w0) :
    LoopV [(t', k)] (fun K => K s0 w0) (fun N => fun (s : k.T) (w8 : World) => ∃ (d : Bool) (kv : List Value) (w9 : World), Sem.run P (Instr.next (.pointer (some ⟨r, 0, none⟩)) false T) w8 = .ok (.tuple (Value.bool d :: kv).toArray) w9 ∧
      cond d (Join [(t', k)] (fun (s' : k.T) (w10 : World) => N s' w10) (fun J2 => Bd s w9 J2)) (J s w9)) := by
  refine LoopV.intro (fun _ (s : k.T) w => s = s0 ∧ w = w0) 0 ⟨rfl, rfl⟩ ?_
  rintro n s w ⟨rfl, rfl⟩
  exact ⟨false, [], w, next_nil hi, hJ⟩
end
/-- A slice's block is one of its type. -/
theorem Own.blk {α : Type} {T size B : Nat} {enc : α → List Value} {w : World} {s : Sl} {l : List α} (h : Own T size enc B w s l) {a : Addr} (ha : s.a = some a) : ∃ cur, Blk w a.block cur T := by
  obtain ⟨_, _, h⟩ := h
  rcases h with ⟨h1, _⟩ | ⟨g, cap, cur, hv, _, hg, _⟩
  · simp only [Value.slice.injEq] at h1
    rw [h1.1] at ha; cases ha
  · simp only [Value.slice.injEq] at hv
    rw [hv.1] at ha; cases ha
    exact ⟨cur.toList, by unfold Blk; simpa using hg⟩
end Go.VC
namespace Go.VC
open Go
variable {P : Program}
theorem aggNe_str {t n : Nat} (A : IntStr P t n) {xs ys : List Int} (hx : xs.length = n) (hy : ys.length = n) (w : World) :
    (aggEq .neq t (ints xs) (ints ys)).run P w = .ok (.bool (!decide (xs = ys))) w := by
  have h := equalIn_str A hx hy 9998 w
  unfold ints at h ⊢
  simp only [aggEq, Sem.run_bind, run_eqGuard_agg w .neq t _ _ _ _ A.guard, Result.andThen_ok, run_neq_struct w]
  rw [show (10000 : Nat) = 9998 + 2 from rfl, h]; rfl
theorem aggNe_ints {t e n : Nat} (A : IntArr P t e n) {xs ys : List Int} (hx : xs.length = n) (hy : ys.length = n) (w : World) :
    (aggEq .neq t (ints xs) (ints ys)).run P w = .ok (.bool (!decide (xs = ys))) w := by
  have h := equalIn_ints A hx hy 9998 w
  unfold ints at h ⊢
  simp only [aggEq, Sem.run_bind, run_eqGuard_agg w .neq t _ _ _ _ A.guard, Result.andThen_ok, run_neq_struct w]
  rw [show (10000 : Nat) = 9998 + 2 from rfl, h]; rfl
end Go.VC
/-
  Contracts: the locks of the program: who hinders, taking a lock, releasing.
-/
namespace Go.Proofs.Ytnbkihkdfhjlmaa
open Go Go.VC
set_option maxHeartbeats 1000000
set_option maxRecDepth 100000

/-- The locks, as they lie in memory: six maps and six ints. -/
structure Lk (B : Nat) (w : World) (b : Nat) (st : LS) (f : Nat → Value) (ms : Nat → Option Nat) : Prop where
  fb : FB w b 15 f 89
  base : B ≤ b
  fm : ∀ i, i < 6 → f i = .map (ms i)
  nil : ∀ i : Nat, i < 6 → ms i = none → ∀ x, st.sh x i = false
  mp : ∀ i : Nat, i < 6 → ∀ m, ms i = some m → B ≤ m ∧ ∃ (l : List (Ent Int Bool)) (c : Nat), Mp kI kB w m l c ∧ ∀ x, mget l x = if st.sh x i = true then some true else none
  inj : ∀ i j, i < 6 → j < 6 → ∀ m, ms i = some m → ms j = some m → i = j
  fe : ∀ i : Nat, i < 6 → ∃ e : Int, f (6 + i) = .int .i64 e ∧ ∀ x, st.ex x i = (decide (x = e) && decide (e ≠ 0))
def LkB (b : Nat) (ms : Nat → Option Nat) (y : Nat) : Prop := y = b ∨ ∃ i, i < 6 ∧ ms i = some y
theorem Lk.fr {B : Nat} {w w' : World} {b : Nat} {st : LS} {f : Nat → Value} {ms : Nat → Option Nat} {M : Nat → Prop} (k : Lk B w b st f ms) (fr : Fr M w w') (hn : ∀ y, LkB b ms y → ¬ M y) : Lk B w' b st f ms :=
  ⟨k.fb.fr fr (hn b (.inl rfl)), k.base, k.fm, k.nil, fun i hi m hm => by obtain ⟨h1, l, c, h2, h3⟩ := k.mp i hi m hm; exact ⟨h1, l, c, h2.fr fr (hn m (.inr ⟨i, hi, hm⟩)), h3⟩, k.inj, k.fe⟩
theorem Lk.ext {B : Nat} {w w' : World} {b : Nat} {st : LS} {f : Nat → Value} {ms : Nat → Option Nat} (k : Lk B w b st f ms) (x : Ext w w') : Lk B w' b st f ms := k.fr x fun _ _ h => h
theorem Lk.congr {B : Nat} {w : World} {b : Nat} {st st' : LS} {f : Nat → Value} {ms : Nat → Option Nat} (k : Lk B w b st f ms) (h1 : ∀ x, ∀ i : Nat, i < 6 → st'.sh x i = st.sh x i) (h2 : ∀ x, ∀ i : Nat, i < 6 → st'.ex x i = st.ex x i) : Lk B w b st' f ms :=
  ⟨k.fb, k.base, k.fm, fun i hi hm x => by rw [h1 x i hi]; exact k.nil i hi hm x, fun i hi m hm => by obtain ⟨a, l, c, h3, h4⟩ := k.mp i hi m hm; exact ⟨a, l, c, h3, fun x => by rw [h1 x i hi]; exact h4 x⟩, k.inj,
    fun i hi => by obtain ⟨e, h3, h4⟩ := k.fe i hi; exact ⟨e, h3, fun x => by rw [h2 x i hi]; exact h4 x⟩⟩
theorem Lk.bound {B : Nat} {w : World} {b : Nat} {st : LS} {f : Nat → Value} {ms : Nat → Option Nat} (k : Lk B w b st f ms) {y : Nat} (hy : LkB b ms y) : B ≤ y ∧ y < w.heap.size := by
  rcases hy with rfl | ⟨i, hi, hm⟩
  · exact ⟨k.base, k.fb.lt⟩
  · obtain ⟨h1, l, c, h2, _⟩ := k.mp i hi y hm; exact ⟨h1, h2.bound⟩
theorem Lk.ne {B : Nat} {w : World} {b : Nat} {st : LS} {f : Nat → Value} {ms : Nat → Option Nat} (k : Lk B w b st f ms) {i m : Nat} (hi : i < 6) (hm : ms i = some m) : m ≠ b := by
  obtain ⟨_, l, c, h2, _⟩ := k.mp i hi m hm
  exact h2.ne_blk k.fb
/-- An operation's item. -/
theorem item_nat {o : Ev} (ho : okOp o) : ∃ n : Nat, o.i = (n : Int) ∧ n < 6 := by
  unfold okOp at ho
  exact ⟨o.i.toNat, by omega, by omega⟩
theorem newEv (w : World) (o : Ev) (T : TypeId) : Blk (w.alloc (.cells (eO o).toArray T)) w.heap.size (eO o) T ∧ Ext w (w.alloc (.cells (eO o).toArray T)) := ⟨Blk.alloc w (eO o) T, Ext.alloc ..⟩
theorem u84' : Try.prog.underlying 84 = some (.map 3 4) := u84

theorem c79 {B : Nat} {w : World} {b : Nat} {st : LS} {f : Nat → Value} {ms : Nat → Option Nat} (k : Lk B w b st f ms) {h : List Ev} (g : Gd h st) {o : Ev} (ho : okOp o) (hk : o.k ≤ 1) :
    Calls Try.prog 79 [.pointer (some ⟨b, 0, none⟩), .agg [.int .i64 o.t, .int .i64 o.k, .int .i64 o.i].toArray].toArray w fun e w' =>
      ∃ (s : Sl) (l : List Int), e = .returned (.slice s.a s.n s.c) ∧ Own 3 1 eI w.heap.size w' s l ∧ (∀ x, x ∈ l ↔ hind st o x = true) ∧ l.length ≤ 100 ∧ Ext w w' := by
  refine (call79 ⟨b, 0⟩ o.t o.k o.i (R := fun v w' => ∃ (s : Sl) (l : List Int), v = (.slice s.a s.n s.c) ∧ Own 3 1 eI w.heap.size w' s l ∧ (∀ x, x ∈ l ↔ hind st o x = true) ∧ l.length ≤ 100 ∧ Ext w w') ?_).mono fun e w' ⟨v, he, s, l, hv, hx⟩ => ⟨s, l, by rw [he, hv], hx⟩
  obtain ⟨n, hni, hn6⟩ := item_nat ho
  obtain ⟨hb1, hx1⟩ := newEv w o 38
  refine Let.intro fun w1 e1 => Let.intro fun w2 e2 => ?_
  have hb1 : Blk w1 w.heap.size (eO o) 38 := by rw [e1]; exact hb1
  have hx1 : Ext w w1 := by rw [e1]; exact hx1
  have hx12 : Ext w1 w2 := by rw [e2]; exact Ext.drew _
  have hb2 := hb1.ext hx12
  have hx2 := hx1.trans hx12
  obtain ⟨e, hfe, hex⟩ := k.fe n hn6
  have k2 := k.ext hx2
  have hcell : ∀ {v : Value} {i : Nat}, i < 15 → f i = v → World.cell? w2 ⟨b, i, none⟩ = some v := fun hi hv => k2.fb.cell hi hv
  refine ⟨o.i, hb2.cell 2, by omega, by omega, e, by rw [hni]; simpa using hcell (by omega) hfe, ?_⟩
  refine ⟨fun (x : Bool) w3 => x = decide (e ≠ 0 ∧ e ≠ o.t) ∧ w3 = w2, ?_, ?_⟩
  rotate_left
  · refine cond_intro (fun hc => ⟨o.t, hb2.cell 0, ?_, rfl⟩) (fun hc => ⟨?_, rfl⟩)
    · have : e ≠ 0 := by simpa using hc
      by_cases e' : e = o.t <;> simp [this, e']
    · have : e = 0 := by simpa using hc
      simp [this]
  rintro x w3 ⟨rfl, rfl⟩
  generalize hpre : (if e ≠ 0 ∧ e ≠ o.t then [e] else ([] : List Int)) = pre
  have hplen : pre.length ≤ 1 := by rw [← hpre]; split <;> simp
  refine ⟨fun (s5 : Sl) w4 => Own 3 1 eI w3.heap.size w4 s5 pre ∧ Ext w3 w4, ?_, ?_⟩
  rotate_left
  · refine cond_intro (fun hc => ?_) (fun hc => ?_)
    · have hc : e ≠ 0 ∧ e ≠ o.t := by simpa using hc
      rw [if_pos hc] at hpre
      obtain ⟨s1, w9, e9, s2, w10, e10, ho2, hf⟩ := appendInt (B := w3.heap.size) (w := w3) (Own.nil 3 1 eI w3.heap.size w3) e (by simp) (Nat.le_refl _)
      exact ⟨s1, w9, e9, s2, w10, e10, by rw [← hpre]; exact ho2, hf.mono fun y _ ⟨a, ha, _⟩ => by cases ha⟩
    · have hc : ¬ (e ≠ 0 ∧ e ≠ o.t) := by simpa using hc
      rw [if_neg hc] at hpre
      rw [← hpre]
      exact ⟨Own.nil .., Fr.refl _ _⟩
  rintro s5 w4 ⟨ho4, hx4⟩
  have hx04 := hx2.trans hx4
  have hz4 := hx4.size
  refine ⟨fun u => Ext w4 u, Ext.drew _, Let.intro fun w5 e5 => ?_⟩
  have hx5 : Ext w4 w5 := by rw [e5]; exact Ext.drew _
  have hrd : ∀ u, Ext w4 u → World.cell? u ⟨w.heap.size, (0 + 2), none⟩ = some (.int .i64 o.i) := fun u hu => ((hb2.ext hx4).ext hu).cell 2
  have hmc : ∀ u, Ext w4 u → World.cell? u ⟨b, 0 + 0 + Int.toNat o.i * 1, none⟩ = some (.map (ms n)) := fun u hu => by
    have := ((k2.ext hx4).ext hu).fb.cell (i := n) (by omega) (k.fm n hn6)
    rw [hni]; simpa using this
  refine ⟨o.i, hrd, by omega, by omega, ms n, hmc, ?_⟩
  have hpm : ∀ x, x ∈ pre ↔ x = e ∧ e ≠ 0 ∧ e ≠ o.t := fun x => by
    rw [← hpre]; split
    · rename_i hc; simp [hc]
    · rename_i hc; simp; intro _ h1; exact Classical.not_not.1 fun h2 => hc ⟨h1, h2⟩
  have hmem : ∀ x, hind st o x = true ↔ (x ∈ pre ∨ (o.k = 1 ∧ x ≠ o.t ∧ st.sh x n = true)) := fun x => by
    unfold hind
    rw [hpm, hni, hex]
    unfold okOp at ho
    simp only [Bool.and_eq_true, Bool.or_eq_true, decide_eq_true_eq]
    constructor
    · rintro ⟨h1, ⟨_, h2, h3⟩ | ⟨h2, h3⟩⟩
      · exact .inl ⟨h2, h3, by rw [← h2]; exact h1⟩
      · exact .inr ⟨h2, h1, h3⟩
    · rintro (⟨rfl, h2, h3⟩ | ⟨h1, h2, h3⟩)
      · exact ⟨h3, .inl ⟨by omega, rfl, h2⟩⟩
      · exact ⟨h2, .inr ⟨h1, h3⟩⟩
  cases hms : ms n with
  | none =>
    obtain ⟨w6, hr6, hx6, hit⟩ := range_nil (P := Try.prog) u84 w5
    refine ⟨⟨w5.heap.size, 0⟩, w6, hr6, hx5.trans hx6, Join.dir ?_⟩
    refine rangeMnil (P := Try.prog) hit ?_
    refine ⟨s5, pre, rfl, ((ho4.ext hx5).ext hx6).mono hx2.size, fun x => ?_, by omega, (hx04.trans hx5).trans hx6⟩
    rw [hmem, k.nil n hn6 hms]; simp
  | some m =>
    obtain ⟨hBm, l, c, hmp, hml⟩ := (k.ext (hx04.trans hx5)).mp n hn6 m hms
    have hll : l.length ≤ 6 := by
      have h1 := hmp.keys.length_le_of_subset (l₂ := six) (by
        intro t ht
        obtain ⟨x, hx, rfl⟩ := List.mem_map.1 ht
        have := mget_some hmp.keys hx
        rw [hml] at this
        split at this
        · rename_i hs; exact mem_six.2 (g.sh _ _ hs)
        · cases this)
      simpa [six] using h1
    obtain ⟨w6, hr6, hx6, hit, hmp6⟩ := range_run (κ := Int) (β := Bool) (P := Try.prog) u84 hmp
    refine ⟨⟨w5.heap.size, 0⟩, w6, hr6, hx5.trans hx6, Join.dir ?_⟩
    have hx06 := (hx04.trans hx5).trans hx6
    have hz5 := hx5.size
    have hz6 := hx6.size
    have hz1 := hx1.size
    have hz12 := hx12.size
    refine rangeM (P := Try.prog) (k := .slice) (fun vis (s : Sl) w' => Own 3 1 eI w3.heap.size w' s (pre ++ ((vis.filter fun x => decide (o.k = 1) && decide (x.1 ≠ o.t)).map (·.1))) ∧ (∀ a, s.a = some a → a.block ≠ w5.heap.size) ∧ Ext w w' ∧ Blk w' w.heap.size (eO o) 38)
      hmp6 hit ⟨by simpa using (ho4.ext hx5).ext hx6, fun a ha => by have := (ho4.base ha).2; omega, hx06, ((hb2.ext hx4).ext hx5).ext hx6⟩ ?_ ?_ ?_
    · rintro vis s w' w'' ⟨h1, h2, h3, h4⟩ hfr
      have hl1 := hb1.lt
      exact ⟨h1.fr hfr h2, h2, h3.newer hfr fun y (hy : y = w5.heap.size) => by omega, h4.fr hfr fun (hy : w.heap.size = w5.heap.size) => by omega⟩
    · rintro vis x s w' hxl hxv hvn hvl hvlt ⟨h1, h2, h3, h4⟩ hmp' hrb hent K hK
      have hrb : w5.heap.size < w'.heap.size := hrb
      refine ⟨x.1, x.2.1, hent, ?_⟩
      refine ⟨fun (y : Bool) w11 => y = (decide (o.k = 1) && decide (x.1 ≠ o.t)) ∧ w11 = w', ?_, ?_⟩
      rotate_left
      · refine ⟨_, h4.cell 1, cond_intro (fun hc => ⟨_, h4.cell 0, ?_, rfl⟩) (fun hc => ⟨?_, rfl⟩)⟩
        · have : o.k = 1 := by simpa using hc
          simp [this]; by_cases e : x.1 = o.t <;> simp [e]
        · have : ¬ o.k = 1 := by simpa using hc
          simp [this]
      rintro y w11 ⟨rfl, rfl⟩
      have hfilt : ((vis ++ [x]).filter fun x => decide (o.k = 1) && decide (x.1 ≠ o.t)).map (·.1) = (vis.filter fun x => decide (o.k = 1) && decide (x.1 ≠ o.t)).map (·.1) ++ if (decide (o.k = 1) && decide (x.1 ≠ o.t)) = true then [x.1] else [] := by
        rw [List.filter_append, List.map_append, List.filter_cons, List.filter_nil]
        split <;> rfl
      have hlen : (pre ++ ((vis.filter fun x => decide (o.k = 1) && decide (x.1 ≠ o.t)).map (·.1))).length ≤ 1000000 := by
        have : (vis.filter fun x => decide (o.k = 1) && decide (x.1 ≠ o.t)).length ≤ vis.length := List.length_filter_le ..
        rw [List.length_append, List.length_map]; omega
      refine Join.dir (cond_intro (fun hc => ?_) (fun hc => ?_))
      · obtain ⟨s1, w9, e9, hx9, s2, w10, e10, ho2, hf9, hwh⟩ := appendIntW h1 x.1 hlen (by omega)
        have hf := Ext.fr hx9 hf9
        refine ⟨s1, w9, e9, s2, w10, e10, hK _ _ ⟨by rw [hfilt, if_pos hc, ← List.append_assoc]; exact ho2, ?_, h3.newer hf fun y ⟨a, ha, hy⟩ => by have := (h1.base ha).1; omega, h4.fr hf ?_⟩ (hf.mono fun y _ ⟨a, ha, hy⟩ => ⟨?_, ?_⟩)⟩
        · intro a ha
          rcases hwh with hwh | hwh
          · rw [hwh] at ha; exact h2 a ha
          · have := hwh a ha
            omega
        · rintro ⟨a, ha, hy⟩
          have := (h1.base ha).1
          have := hb1.lt
          omega
        · rintro rfl
          exact h2 a ha hy
        · rintro rfl
          obtain ⟨cur, hcur⟩ := h1.blk ha
          rw [hy] at hcur
          exact hmp'.ne_blk hcur rfl
      · refine hK _ _ ⟨by rw [hfilt, if_neg (by rw [hc]; simp), List.append_nil]; exact h1, h2, h3, h4⟩ (Fr.refl _ _)
    · rintro vis s w' hall hvn hvl ⟨h1, h2, h3, h4⟩ hmp'
      refine ⟨s, _, rfl, h1.mono hx2.size, fun x => ?_, ?_, h3⟩
      · rw [hmem, List.mem_append]
        apply or_congr Iff.rfl
        rw [List.mem_map]
        constructor
        · rintro ⟨y, hy, rfl⟩
          obtain ⟨hy1, hy2⟩ := List.mem_filter.1 hy
          simp only [Bool.and_eq_true, decide_eq_true_eq] at hy2
          refine ⟨hy2.1, hy2.2, ?_⟩
          have := mget_some hmp.keys (hvl y hy1)
          rw [hml] at this
          split at this
          · assumption
          · cases this
        · rintro ⟨h5, h6, h7⟩
          have : mget l x = some true := by rw [hml, if_pos h7]
          obtain ⟨c', hc'⟩ := mget_mem this
          exact ⟨_, List.mem_filter.2 ⟨hall _ hc', by simp [h5, h6]⟩, rfl⟩
      · have : (vis.filter fun x => decide (o.k = 1) && decide (x.1 ≠ o.t)).length ≤ vis.length := List.length_filter_le ..
        have h9 := hvn.length_le_of_subset (l₂ := l) (fun x hx => hvl x hx)
        rw [List.length_append, List.length_map]; omega
end Go.Proofs.Ytnbkihkdfhjlmaa
/-
  Contracts: taking a lock and releasing all locks of a transaction.
-/
namespace Go.Proofs.Ytnbkihkdfhjlmaa
open Go Go.VC
set_option maxHeartbeats 1000000
set_option maxRecDepth 100000

theorem doL_sh0 {st : LS} {o : Ev} (hk : o.k = 0) : (doL st o).sh = getL st.sh o.t o.i ∧ (doL st o).ex = st.ex := by
  unfold doL; simp [hk]
theorem doL_sh1 {st : LS} {o : Ev} (hk : o.k = 1) : (doL st o).sh = st.sh ∧ (doL st o).ex = getL st.ex o.t o.i := by
  unfold doL; simp [hk]
theorem doL_sh2 {st : LS} {o : Ev} (hk : 1 < o.k) : (doL st o).sh = relL st.sh o.t ∧ (doL st o).ex = relL st.ex o.t := by
  unfold doL; simp only [if_neg (show ¬ o.k = 0 by omega), if_neg (show ¬ o.k = 1 by omega), and_self]
/-- A map that is in use changes. -/
theorem Lk.map {B : Nat} {w w' : World} {b : Nat} {st st' : LS} {f : Nat → Value} {ms : Nat → Option Nat} (k : Lk B w b st f ms) {n m : Nat} (hn : n < 6) (hm : ms n = some m) (fr : Fr (fun y => y = m) w w') {l : List (Ent Int Bool)} {c : Nat} (hmp : Mp kI kB w' m l c)
    (h1 : ∀ x, mget l x = if st'.sh x n = true then some true else none) (h2 : ∀ x, ∀ i : Nat, i < 6 → i ≠ n → st'.sh x i = st.sh x i) (h3 : ∀ x, ∀ i : Nat, i < 6 → st'.ex x i = st.ex x i) : Lk B w' b st' f ms := by
  refine ⟨k.fb.fr fr fun e => k.ne hn hm e.symm, k.base, k.fm, fun i hi he x => ?_, fun i hi m' he => ?_, k.inj, fun i hi => ?_⟩
  · have hne : i ≠ n := fun e => by subst e; rw [hm] at he; cases he
    rw [h2 x i hi hne]; exact k.nil i hi he x
  · by_cases e : i = n
    · subst e
      rw [hm] at he
      cases he
      exact ⟨(k.mp i hi m hm).1, l, c, hmp, h1⟩
    · obtain ⟨a, l', c', h4, h5⟩ := k.mp i hi m' he
      refine ⟨a, l', c', h4.fr fr fun e' => e ?_, fun x => by rw [h2 x i hi e]; exact h5 x⟩
      subst e'
      exact k.inj i n hi hn _ he hm
  · obtain ⟨e, h4, h5⟩ := k.fe i hi
    exact ⟨e, h4, fun x => by rw [h3 x i hi]; exact h5 x⟩
/-- An exclusive lock changes. -/
theorem Lk.own {B : Nat} {w : World} {b : Nat} {st st' : LS} {f : Nat → Value} {ms : Nat → Option Nat} (k : Lk B w b st f ms) {n : Nat} (hn : n < 6) (e : Int)
    (h1 : ∀ x, ∀ i : Nat, i < 6 → st'.sh x i = st.sh x i) (h2 : ∀ x, ∀ i : Nat, i < 6 → i ≠ n → st'.ex x i = st.ex x i) (h3 : ∀ x, st'.ex x n = (decide (x = e) && decide (e ≠ 0))) :
    StoreOk w b (6 + n) [.int .i64 e] 1 ∧ Lk B (put w b (6 + n) [.int .i64 e]) b st' (updF f (6 + n) [.int .i64 e]) ms ∧ (∀ j, 12 ≤ j → updF f (6 + n) [.int .i64 e] j = f j) ∧ Fr (fun y => y = b) w (put w b (6 + n) [.int .i64 e]) := by
  have hfr : Fr (fun y => y = b) w (put w b (6 + n) [.int .i64 e]) := Fr.put ..
  refine ⟨k.fb.storeOk rfl (eI_one e) (by omega), ⟨k.fb.put (by simp; omega), k.base, fun i hi => ?_, fun i hi he x => ?_, fun i hi m he => ?_, k.inj, fun i hi => ?_⟩, fun j hj => updF_out (.inr (by simp; omega)), hfr⟩
  · rw [updF_out (.inl (by omega))]; exact k.fm i hi
  · rw [h1 x i hi]; exact k.nil i hi he x
  · obtain ⟨a, l', c', h4, h5⟩ := k.mp i hi m he
    exact ⟨a, l', c', h4.fr hfr fun e' => k.ne hi he e', fun x => by rw [h1 x i hi]; exact h5 x⟩
  · by_cases e' : i = n
    · subst e'
      exact ⟨e, updF_in (Nat.le_refl _) (by simp), h3⟩
    · obtain ⟨e2, h4, h5⟩ := k.fe i hi
      exact ⟨e2, by rw [updF_out (by simp; omega)]; exact h4, fun x => by rw [h2 x i hi e']; exact h5 x⟩
/-- A map is made for an item. -/
theorem Lk.made {B : Nat} {w : World} {b : Nat} {st : LS} {f : Nat → Value} {ms : Nat → Option Nat} (k : Lk B w b st f ms) {n : Nat} (hn : n < 6) (hm : ms n = none) (hB : B ≤ w.heap.size) :
    let w1 := w.alloc (.map #[] 0)
    StoreOk w1 b n [.map (some w.heap.size)] 1 ∧ Lk B (put w1 b n [.map (some w.heap.size)]) b st (updF f n [.map (some w.heap.size)]) (fun i => if i = n then some w.heap.size else ms i) ∧ (∀ j, 12 ≤ j → updF f n [.map (some w.heap.size)] j = f j) ∧ Fr (fun y => y = b) w (put w1 b n [.map (some w.heap.size)]) := by
  intro w1
  have hx1 : Ext w w1 := Ext.alloc ..
  have k1 := k.ext hx1
  have hmade : Mp kI kB w1 w.heap.size ([] : List (Ent Int Bool)) 0 := Mp.made w
  have hfr : Fr (fun y => y = b) w1 (put w1 b n [.map (some w.heap.size)]) := Fr.put ..
  have hold : ∀ i m, i < 6 → ms i = some m → m < w.heap.size := fun i m hi he => (k.bound (.inr ⟨i, hi, he⟩)).2
  refine ⟨k1.fb.storeOk rfl (by simp [Value.oneCell']) (by omega), ⟨k1.fb.put (by simp; omega), k.base, fun i hi => ?_, fun i hi he x => ?_, fun i hi m he => ?_, fun i j hi hj m h1 h2 => ?_, fun i hi => ?_⟩, fun j hj => updF_out (.inr (by simp; omega)), Ext.fr hx1 hfr⟩
  · by_cases e : i = n
    · subst e; rw [if_pos rfl]; exact updF_in (Nat.le_refl _) (by simp)
    · rw [if_neg e, updF_out (by simp; omega)]; exact k.fm i hi
  · by_cases e : i = n
    · rw [if_pos e] at he; cases he
    · rw [if_neg e] at he; exact k.nil i hi he x
  · by_cases e : i = n
    · subst e
      rw [if_pos rfl] at he
      cases he
      exact ⟨hB, [], 0, hmade.fr hfr fun e => by have := k.fb.lt; omega, fun x => by rw [k.nil i hi hm x]; rfl⟩
    · rw [if_neg e] at he
      obtain ⟨a, l', c', h4, h5⟩ := k1.mp i hi m he
      exact ⟨a, l', c', h4.fr hfr fun e' => k1.ne hi he e', h5⟩
  · by_cases e : i = n <;> by_cases e' : j = n
    · rw [e, e']
    · rw [if_pos e] at h1; rw [if_neg e'] at h2; cases h1; have := hold j _ hj h2; omega
    · rw [if_neg e] at h1; rw [if_pos e'] at h2; cases h2; have := hold i _ hi h1; omega
    · rw [if_neg e] at h1; rw [if_neg e'] at h2; exact k.inj i j hi hj m h1 h2
  · obtain ⟨e2, h4, h5⟩ := k.fe i hi
    exact ⟨e2, by rw [updF_out (by simp; omega)]; exact h4, h5⟩

theorem c93 {B : Nat} {w : World} {b : Nat} {st : LS} {f : Nat → Value} {ms : Nat → Option Nat} (k : Lk B w b st f ms) (hB : B ≤ w.heap.size) {h : List Ev} (g : Gd h st) {o : Ev} (ho : okOp o) (hk : o.k ≤ 1) (hh : hit st o = false) :
    Calls Try.prog 93 [.pointer (some ⟨b, 0, none⟩), .agg [.int .i64 o.t, .int .i64 o.k, .int .i64 o.i].toArray].toArray w fun e w' =>
      e = .returned (.tuple [].toArray) ∧ ∃ f' ms', Lk B w' b (doL st o) f' ms' ∧ (∀ j, 12 ≤ j → f' j = f j) ∧ (∀ i m, i < 6 → ms' i = some m → ms i = some m ∨ w.heap.size ≤ m) ∧ Fr (LkB b ms) w w' := by
  refine (call93 ⟨b, 0⟩ o.t o.k o.i (R := fun v w' => v = .tuple [].toArray ∧ ∃ f' ms', Lk B w' b (doL st o) f' ms' ∧ (∀ j, 12 ≤ j → f' j = f j) ∧ (∀ i m, i < 6 → ms' i = some m → ms i = some m ∨ w.heap.size ≤ m) ∧ Fr (LkB b ms) w w') ?_).mono fun e w' ⟨v, he, hv, hx⟩ => ⟨by rw [he, hv], hx⟩
  obtain ⟨n, hni, hn6⟩ := item_nat ho
  obtain ⟨hb1, hx1⟩ := newEv w o 38
  refine Let.intro fun w1 e1 => ?_
  have hb1 : Blk w1 w.heap.size (eO o) 38 := by rw [e1]; exact hb1
  have hx1 : Ext w w1 := by rw [e1]; exact hx1
  have hok := ho
  unfold okOp at hok
  refine ⟨o.k, hb1.cell 1, cond_intro (fun hc => ?_) (fun hc => ?_)⟩
  · have hk1 : o.k = 1 := by simpa using hc
    refine Let.intro fun w2 e2 => ?_
    have hx12 : Ext w1 w2 := by rw [e2]; exact Ext.drew _
    have hb2 := hb1.ext hx12
    have hx2 := hx1.trans hx12
    have hex : ∀ x, st.ex x n = true → x = o.t := fun x hx => by
      by_cases e : x = o.t
      · exact e
      · have : hind st o x = true := by unfold hind; rw [hni, hx]; simp [e]; omega
        rw [hit_mem g this] at hh; cases hh
    obtain ⟨a1, a2, a3, a4⟩ := (k.ext hx2).own (st' := doL st o) hn6 o.t (fun x i _ => by rw [(doL_sh1 hk1).1]) (fun x i _ hne => by rw [(doL_sh1 hk1).2]; unfold getL; rw [hni, show decide ((i : Int) = (n : Int)) = false from decide_eq_false fun h => hne (by omega)]; simp) (fun x => by
      rw [(doL_sh1 hk1).2]; unfold getL; rw [hni]
      have ht0 : o.t ≠ 0 := by omega
      by_cases e : x = o.t
      · simp [e, ht0]
      · have : st.ex x n = false := Bool.eq_false_iff.2 fun h => e (hex x h)
        simp [this, e])
    have hidx : 0 + 6 + Int.toNat o.i * 1 = 6 + n := by rw [hni]; simp
    refine ⟨o.i, hb2.cell 2, o.t, hb2.cell 0, by omega, by omega, ?_, Let.intro fun w3 e3 => ⟨rfl, _, ms, ?_, a3, fun i m _ h => .inl h, ?_⟩⟩
    · show StoreOk w2 b (0 + 6 + Int.toNat o.i * 1) _ 1
      rw [hidx]; exact a1
    · have : w3 = put w2 b (0 + 6 + Int.toNat o.i * 1) [.int .i64 o.t] := e3
      rw [hidx] at this
      rw [this]; exact a2
    · have : w3 = put w2 b (0 + 6 + Int.toNat o.i * 1) [.int .i64 o.t] := e3
      rw [hidx] at this
      rw [this]; exact Ext.fr hx2 (a4.mono fun y _ hy => .inl hy)
  · have hk0 : o.k = 0 := by have : ¬ o.k = 1 := by simpa using hc
                             omega
    refine Let.intro fun w4 e4 => ?_
    have hx14 : Ext w1 w4 := by rw [e4]; exact Ext.drew _
    have hb4 := hb1.ext hx14
    have hx4 := hx1.trans hx14
    have k4 := k.ext hx4
    have z4 := hx4.size
    have hidx : 0 + 0 + Int.toNat o.i * 1 = n := by rw [hni]; simp
    have hcell : ∀ {w' : World} {f' : Nat → Value} {ms' : Nat → Option Nat}, Lk B w' b st f' ms' → World.cell? w' ⟨b, 0 + 0 + Int.toNat o.i * 1, none⟩ = some (.map (ms' n)) := fun k' => by
      rw [hidx]; exact k'.fb.cell (by omega) (k'.fm n hn6)
    refine ⟨o.i, hb4.cell 2, by omega, by omega, ms n, hcell k4, ?_⟩
    refine ⟨fun w5 => ∃ f' ms' m, Lk B w5 b st f' ms' ∧ ms' n = some m ∧ (∀ j, 12 ≤ j → f' j = f j) ∧ (∀ i m, i < 6 → ms' i = some m → ms i = some m ∨ w.heap.size ≤ m) ∧ Fr (LkB b ms) w w5 ∧ Blk w5 w.heap.size (eO o) 38, ?_, ?_⟩
    · rintro w5 ⟨f', ms', m, k5, hm, hf', hms', hfr, hb5⟩
      refine Let.intro fun w6 e6 => ?_
      have hx6 : Ext w5 w6 := by rw [e6]; exact Ext.drew _
      have hb6 := hb5.ext hx6
      have k6 := k5.ext hx6
      obtain ⟨_, l, c, hmp, hml⟩ := k6.mp n hn6 m hm
      obtain ⟨w7, c', hrun, hmp7, hf7⟩ := put_run K3 u84 hmp o.t true
      have hc6 := hcell k6
      rw [hm] at hc6
      refine ⟨o.i, hb6.cell 2, by omega, by omega, some m, hc6, o.t, hb6.cell 0, w7, hrun, rfl, f', ms', ?_, hf', hms', ?_⟩
      · refine k6.map hn6 hm hf7 hmp7 (fun x => ?_) (fun x i _ hne => ?_) (fun x i _ => by rw [(doL_sh0 hk0).2])
        · rw [mget_mput, (doL_sh0 hk0).1]
          unfold getL
          rw [hni]
          by_cases e : x = o.t
          · simp [e]
          · rw [if_neg e, hml]; simp [e]
        · rw [(doL_sh0 hk0).1]; unfold getL; rw [hni, show decide ((i : Int) = (n : Int)) = false from decide_eq_false fun h => hne (by omega)]; simp
      · refine (hfr.ext hx6).trans hf7 fun y hy hym => ?_
        rcases hms' n m hn6 hm with h1 | h1
        · exact .inr ⟨n, hn6, by rw [hym]; exact h1⟩
        · omega
    · refine cond_intro (fun hc => ?_) (fun hc => ?_)
      · have hmn : ms n = none := by simpa using hc
        refine ⟨fun u => Ext w4 u, Ext.drew _, Let.intro fun w8 e8 => ⟨o.i, fun u hu => (hb4.ext hu).cell 2, Let.intro fun w9 e9 => ?_⟩⟩
        have hx8 : Ext w4 w8 := by rw [e8]; exact Ext.drew _
        have z8 := hx8.size
        obtain ⟨a1, a2, a3, a4⟩ := (k4.ext hx8).made hn6 hmn (by omega)
        refine ⟨by rw [e9]; exact hx8.trans (Ext.alloc ..), by omega, by omega, ?_, Let.intro fun w10 e10 => ⟨updF f n [.map (some w8.heap.size)], fun i => if i = n then some w8.heap.size else ms i, w8.heap.size, ?_, if_pos rfl, a3, fun i m hi h => ?_, ?_, ?_⟩⟩
        · show StoreOk w9 b (0 + 0 + Int.toNat o.i * 1) _ 1
          rw [hidx, e9]; exact a1
        · have : w10 = put w9 b (0 + 0 + Int.toNat o.i * 1) [.map (some w8.heap.size)] := e10
          rw [hidx, e9] at this
          rw [this]; exact a2
        · simp only at h
          by_cases e : i = n
          · rw [if_pos e] at h; cases h; exact .inr (by omega)
          · rw [if_neg e] at h; exact .inl h
        · have : w10 = put w9 b (0 + 0 + Int.toNat o.i * 1) [.map (some w8.heap.size)] := e10
          rw [hidx, e9] at this
          rw [this]; exact Ext.fr (hx4.trans hx8) (a4.mono fun y _ hy => .inl hy)
        · have : w10 = put w9 b (0 + 0 + Int.toNat o.i * 1) [.map (some w8.heap.size)] := e10
          rw [hidx, e9] at this
          rw [this]; exact (hb4.ext hx8).fr a4 fun e => by have := k.fb.lt; omega
      · obtain ⟨m, hm⟩ : ∃ m, ms n = some m := by
          cases hmn : ms n with
          | none => rw [hmn] at hc; simp at hc
          | some m => exact ⟨m, rfl⟩
        exact ⟨f, ms, m, k4, hm, fun _ _ => rfl, fun i m _ h => .inl h, hx4.mono fun _ _ h => h.elim, hb4⟩

/-! ### releasing -/
def relTo (st : LS) (t : Int) (a c : Nat) : LS := { st with sh := fun x j => if j < a then decide (x ≠ t) && st.sh x j else st.sh x j, ex := fun x j => if j < c then decide (x ≠ t) && st.ex x j else st.ex x j }
theorem c78 {B : Nat} {w : World} {b : Nat} {st : LS} {f : Nat → Value} {ms : Nat → Option Nat} (k : Lk B w b st f ms) {t : Int} (ht : 1 ≤ t) {st' : LS} (hsh : st'.sh = relL st.sh t) (hex : st'.ex = relL st.ex t) :
    Calls Try.prog 78 [.pointer (some ⟨b, 0, none⟩), .int .i64 t].toArray w fun e w' =>
      e = .returned (.tuple [].toArray) ∧ ∃ f', Lk B w' b st' f' ms ∧ (∀ j, 12 ≤ j → f' j = f j) ∧ Fr (LkB b ms) w w' := by
  refine (call78 ⟨b, 0⟩ t (R := fun v w' => v = .tuple [].toArray ∧ ∃ f', Lk B w' b st' f' ms ∧ (∀ j, 12 ≤ j → f' j = f j) ∧ Fr (LkB b ms) w w') ?_).mono fun e w' ⟨v, he, hv, hx⟩ => ⟨by rw [he, hv], hx⟩
  refine Join.dir (rangeI (n := 6) (fun i w' => ∃ f', Lk B w' b (relTo st t i i) f' ms ∧ (∀ j, 12 ≤ j → f' j = f j) ∧ Fr (LkB b ms) w w') (by decide) ⟨f, ?_, fun _ _ => rfl, Fr.refl _ _⟩ ?_ ?_)
  · refine k.congr (fun x i _ => ?_) (fun x i _ => ?_) <;> simp [relTo] <;> omega
  · rintro i hi w2 ⟨f2, k2, hf2, hfr2⟩ K hK
    have hidx : 0 + 0 + Int.toNat (i : Int) * 1 = i := by simp
    have hidx6 : 0 + 6 + Int.toNat (i : Int) * 1 = 6 + i := by simp
    have hc2 : World.cell? w2 ⟨b, 0 + 0 + Int.toNat (i : Int) * 1, none⟩ = some (.map (ms i)) := by rw [hidx]; exact k2.fb.cell (by omega) (k2.fm i hi)
    refine ⟨by omega, by omega, ms i, hc2, ?_⟩
    have hdel : ∃ w4, Sem.run Try.prog (Builtin.delete_ #[84, 3] 0 #[.map (ms i), .int .i64 t]) w2 = .ok (.tuple #[]) w4 ∧ Lk B w4 b (relTo st t (i + 1) i) f2 ms ∧ Fr (LkB b ms) w2 w4 := by
      have hother : ∀ x, ∀ j : Nat, j < 6 → j ≠ i → (relTo st t (i + 1) i).sh x j = (relTo st t i i).sh x j := fun x j _ hne => by
        simp only [relTo]
        have : (j : Int) < ((i + 1 : Nat) : Int) ↔ (j : Int) < (i : Int) := by omega
        simp only [this]
      have hsame : ∀ x, (relTo st t (i + 1) i).sh x i = (decide (x ≠ t) && (relTo st t i i).sh x i) := fun x => by
        simp only [relTo]; rw [if_pos (by omega), if_neg (by omega)]
      cases hm : ms i with
      | none =>
        refine ⟨w2, del_nil K3 u84 t 0 w2, k2.congr (fun x j hj => ?_) (fun x j hj => rfl), Fr.refl _ _⟩
        by_cases e : j = i
        · subst e; rw [hsame, k2.nil j hj hm x]; simp
        · exact hother x j hj e
      | some m =>
        obtain ⟨_, l, c, hmp, hml⟩ := k2.mp i hi m hm
        obtain ⟨w4, hrun, hmp4, hf4⟩ := del_run (P := Try.prog) (kt' := 3) K3 u84 hmp t 0
        refine ⟨w4, hrun, k2.map hi hm hf4 hmp4 (fun x => ?_) (fun x j hj e => hother x j hj e) (fun x j _ => rfl), hf4.mono fun y _ hy => .inr ⟨i, hi, by rw [hy]; exact hm⟩⟩
        rw [mget_mdel, hsame, hml]
        by_cases e : x = t <;> simp [e]
    obtain ⟨w4, hrun, k4, hfr4⟩ := hdel
    obtain ⟨e, hfe, hex4⟩ := k4.fe i hi
    have hc4 : World.cell? w4 ⟨b, 0 + 6 + Int.toNat (i : Int) * 1, none⟩ = some (.int .i64 e) := by rw [hidx6]; exact k4.fb.cell (by omega) hfe
    have hexi : ∀ x, (relTo st t (i + 1) (i + 1)).ex x i = (decide (x ≠ t) && (relTo st t (i + 1) i).ex x i) := fun x => by
      simp only [relTo]; rw [if_pos (by omega), if_neg (by omega)]
    have hexo : ∀ x, ∀ j : Nat, j < 6 → j ≠ i → (relTo st t (i + 1) (i + 1)).ex x j = (relTo st t (i + 1) i).ex x j := fun x j _ hne => by
      simp only [relTo]
      have : (j : Int) < ((i + 1 : Nat) : Int) ↔ (j : Int) < (i : Int) := by omega
      simp only [this]
    refine ⟨w4, hrun, by omega, by omega, e, hc4, Join.dir (cond_intro (fun hc => ?_) (fun hc => ?_))⟩
    · have hc : e = t := by simpa using hc
      subst hc
      obtain ⟨a1, a2, a3, a4⟩ := k4.own (st' := relTo st e (i + 1) (i + 1)) hi 0 (fun x j _ => rfl) hexo (fun x => by
        rw [hexi, hex4]
        by_cases e' : x = e <;> simp [e'])
      refine ⟨by omega, by omega, ?_, Let.intro fun w6 e6 => hK _ ?_⟩
      · show StoreOk w4 b (0 + 6 + Int.toNat (i : Int) * 1) _ 1
        rw [hidx6]; exact a1
      · have : w6 = put w4 b (0 + 6 + Int.toNat (i : Int) * 1) [.int .i64 0] := e6
        rw [hidx6] at this
        rw [this]
        exact ⟨_, a2, fun j hj => (a3 j hj).trans (hf2 j hj), (hfr2.trans hfr4 fun _ _ h => h).trans a4 fun y _ hy => .inl hy⟩
    · have hc : e ≠ t := by simpa using hc
      refine hK _ ⟨f2, k4.congr (fun x j _ => rfl) (fun x j hj => ?_), hf2, hfr2.trans hfr4 fun _ _ h => h⟩
      by_cases e' : j = i
      · subst e'
        rw [hexi, hex4]
        by_cases e'' : x = e
        · subst e''; simp [hc]
        · simp [e'']
      · exact hexo x j hj e'
  · rintro w' ⟨f', k', hf', hfr⟩
    refine ⟨rfl, f', k'.congr (fun x i hi => ?_) (fun x i hi => ?_), hf', hfr⟩
    · rw [hsh]; simp only [relL, relTo]; rw [if_pos (by omega)]
    · rw [hex]; simp only [relL, relTo]; rw [if_pos (by omega)]
end Go.Proofs.Ytnbkihkdfhjlmaa
/-
  The state of the program's Lock in memory; contract: does a transaction wait for itself.
-/
namespace Go.Proofs.Ytnbkihkdfhjlmaa
open Go Go.VC
set_option maxHeartbeats 1000000
set_option maxRecDepth 100000

/-! ### the search for a circle -/
section
variable {R : Int → Int → Prop} {t : Int}
/-- The search: S was met, Q waits; 'ex' is being looked at. -/
structure BI (R : Int → Int → Prop) (t : Int) (S Q : List Int) (ex : Option Int) : Prop where
  rch : ∀ y ∈ S, y ≠ t ∧ Rch R t y
  sub : ∀ y ∈ Q, y = t ∨ y ∈ S
  cl : ∀ x, (x = t ∨ x ∈ S) → x ∉ Q → some x ≠ ex → ∀ y, R x y → y ≠ t ∧ y ∈ S
  nd : S.Nodup
  rg : ∀ y ∈ S, y ∈ six
theorem BI.init : BI R t [] [t] none := ⟨by simp, by simp, fun x hx hq => by simp at hx; subst hx; simp at hq, by simp, by simp⟩
theorem BI.pop {S Q : List Int} {x : Int} (b : BI R t S (x :: Q) none) : BI R t S Q (some x) :=
  ⟨b.rch, fun y hy => b.sub y (by simp [hy]), fun z hz hq he => b.cl z hz (by simp only [List.mem_cons, not_or]; exact ⟨fun e => he (by rw [e]), hq⟩) (by simp), b.nd, b.rg⟩
theorem BI.at {S Q : List Int} {x : Int} (b : BI R t S (x :: Q) none) : x = t ∨ x ∈ S := b.sub x (by simp)
theorem BI.found {S Q : List Int} {ex : Option Int} {x : Int} (b : BI R t S Q ex) (hx : x = t ∨ x ∈ S) (h : R x t) : Rch R t t := by
  rcases hx with rfl | hx
  · exact .one h
  · exact .more (b.rch x hx).2 h
theorem BI.add {S Q : List Int} {x y : Int} (b : BI R t S Q (some x)) (hx : x = t ∨ x ∈ S) (h : R x y) (hy : y ≠ t) (hn : y ∉ S) (h6 : y ∈ six) : BI R t (S ++ [y]) (Q ++ [y]) (some x) := by
  refine ⟨fun z hz => ?_, fun z hz => ?_, fun z hz hq he u hu => ?_, ?_, fun z hz => ?_⟩
  · rcases List.mem_append.1 hz with hz | hz
    · exact b.rch z hz
    · simp at hz; subst hz
      refine ⟨hy, ?_⟩
      rcases hx with rfl | hx
      · exact .one h
      · exact .more (b.rch x hx).2 h
  · rcases List.mem_append.1 hz with hz | hz
    · rcases b.sub z hz with h1 | h1
      · exact .inl h1
      · exact .inr (by simp [h1])
    · simp at hz; subst hz; exact .inr (by simp)
  · have hzy : z ≠ y := fun e => hq (by simp [e])
    have hz' : z = t ∨ z ∈ S := by
      rcases hz with hz | hz
      · exact .inl hz
      · rcases List.mem_append.1 hz with hz | hz
        · exact .inr hz
        · simp at hz; exact absurd hz hzy
    obtain ⟨h1, h2⟩ := b.cl z hz' (fun h => hq (by simp [h])) he u hu
    exact ⟨h1, by simp [h2]⟩
  · rw [List.nodup_append]; exact ⟨b.nd, by simp, by intro a ha c hc e; simp at hc; subst hc; subst e; exact hn ha⟩
  · rcases List.mem_append.1 hz with hz | hz
    · exact b.rg z hz
    · simp at hz; subst hz; exact h6
theorem BI.close {S Q : List Int} {x : Int} (b : BI R t S Q (some x)) (h : ∀ y, R x y → y ≠ t ∧ y ∈ S) : BI R t S Q none :=
  ⟨b.rch, b.sub, fun z hz hq _ y hy => by
    by_cases e : z = x
    · subst e; exact h y hy
    · exact b.cl z hz hq (fun h => e (Option.some.inj h)) y hy, b.nd, b.rg⟩
theorem BI.done {S : List Int} (b : BI R t S [] none) : ¬ Rch R t t := by
  have : ∀ y, Rch R t y → y ≠ t ∧ y ∈ S := fun y hy => by
    induction hy with
    | one h => exact b.cl t (.inl rfl) (by simp) (by simp) _ h
    | more _ h ih => exact b.cl _ (.inr ih.2) (by simp) (by simp) _ h
  exact fun h => (this t h).1 rfl
theorem BI.len {S Q : List Int} {ex : Option Int} (b : BI R t S Q ex) : S.length ≤ 6 := by simpa [six] using b.nd.length_le_of_subset (l₂ := six) b.rg
end
theorem hind_six {h : List Ev} {st : LS} (g : Gd h st) {o : Ev} {x : Int} (hx : hind st o x = true) : x ∈ six := by
  unfold hind at hx
  simp only [Bool.and_eq_true, Bool.or_eq_true, decide_eq_true_eq] at hx
  rcases hx.2 with h1 | h1
  · exact mem_six.2 (g.ex _ _ h1.2)
  · exact mem_six.2 (g.sh _ _ h1.2)
theorem hit_kind {st : LS} {o : Ev} (hh : hit st o = true) : o.k ≤ 1 := by
  unfold hit at hh
  obtain ⟨x, _, hx⟩ := List.any_eq_true.1 hh
  unfold hind at hx
  simp only [Bool.and_eq_true, Bool.or_eq_true, decide_eq_true_eq] at hx
  omega
/-- Who waits waits with a read or a write. -/
def HK (h : List Ev) (st : LS) (ex : Option Int) : Prop := ∀ x j r, some x ≠ ex → st.q x = j :: r → (opA h j).k ≤ 1

/-! ### the state in memory -/
def eH (x : Ev × Int) : List Value := [.int .i64 x.1.t, .int .i64 x.1.k, .int .i64 x.1.i, .int .i64 x.2]
theorem eH_len (x : Ev × Int) : (eH x).length = 4 := rfl
theorem eH_one (x : Ev × Int) : ∀ v ∈ eH x, v.oneCell' = true := by intro v hv; simp [eH] at hv; rcases hv with rfl | rfl | rfl | rfl <;> rfl
theorem E90 : Elem Try.prog 90 92 4 32 := Elem.of (by kernel_rfl) (by kernel_rfl) (by decide)
theorem u83 : Try.prog.underlying 83 = some (.map 3 90) := by kernel_rfl
theorem zero90 (w : World) : (zeroValue 90).run Try.prog w = .ok (.slice none 0 0) w := Try.zeroValue90 w
def hd (h : List Ev) (j : Nat) : Ev × Int := (opA h j, (j : Int))
theorem lookH {w : World} {b c : Nat} {l : List (Ent Int Sl)} (h : Mp kI kS w b l c) (t : Int) :
    (Instr.lookup 83 (.map (some b)) (.int .i64 t) false).run Try.prog w = .ok (.slice (sAt l t).a (sAt l t).n (sAt l t).c) w := by
  have := (look_run K3 u83 h zero90 t).1
  rw [show (Value.int .i64 t) = kI t from rfl, this]
  unfold sAt
  cases mget l t <;> rfl
structure Run (h : List Ev) (B : Nat) (w : World) (b : Nat) (st : LS) (f : Nat → Value) (ms : Nat → Option Nat) (sd sa : Sl) (bw : Nat) (lw : List (Ent Int Sl)) (cw : Nat) : Prop where
  lk : Lk B w b st f ms
  fd : f 12 = kS sd
  fa : f 13 = kS sa
  fw : f 14 = .map (some bw)
  od : Own 38 3 eO B w sd st.dn
  oa : Own 3 1 eI B w sa st.ab
  bwB : B ≤ bw
  mw : Mp kI kS w bw lw cw
  bm : ∀ i, i < 6 → ms i ≠ some bw
  tl : ∀ t, Tl 92 4 eH B w (sAt lw t) ((st.q t).map (hd h))
  sep : ∀ t u, t ≠ u → ∀ y, Rm (sAt lw t) y → ¬ Rm (sAt lw u) y
section
variable {h : List Ev} {B : Nat} {w w' : World} {b : Nat} {st : LS} {f : Nat → Value} {ms : Nat → Option Nat} {sd sa : Sl} {bw : Nat} {lw : List (Ent Int Sl)} {kw : Nat}
theorem Run.ext (r : Run h B w b st f ms sd sa bw lw kw) (x : Ext w w') : Run h B w' b st f ms sd sa bw lw kw :=
  ⟨r.lk.ext x, r.fd, r.fa, r.fw, r.od.ext x, r.oa.ext x, r.bwB, r.mw.ext x, r.bm, fun t => (r.tl t).ext x, r.sep⟩
theorem Run.hB (r : Run h B w b st f ms sd sa bw lw kw) : B ≤ w.heap.size := by have := r.lk.base; have := r.lk.fb.lt; omega
theorem Run.cd (r : Run h B w b st f ms sd sa bw lw kw) : World.cell? w ⟨b, 12, none⟩ = some (.slice sd.a sd.n sd.c) := r.lk.fb.cell (by omega) r.fd
theorem Run.ca (r : Run h B w b st f ms sd sa bw lw kw) : World.cell? w ⟨b, 13, none⟩ = some (.slice sa.a sa.n sa.c) := r.lk.fb.cell (by omega) r.fa
theorem Run.cw (r : Run h B w b st f ms sd sa bw lw kw) : World.cell? w ⟨b, 14, none⟩ = some (.map (some bw)) := r.lk.fb.cell (by omega) r.fw
theorem Run.len (r : Run h B w b st f ms sd sa bw lw kw) (t : Int) : (sAt lw t).n = (st.q t).length := by have := (r.tl t).len; simpa using this
/-- The head of a queue. -/
theorem Run.head (r : Run h B w b st f ms sd sa bw lw kw) {t : Int} {j : Nat} {l : List Nat} (hq : st.q t = j :: l) : ∃ p : Pt, (sAt lw t).a = some ⟨p.b, p.o, none⟩ ∧ 0 ≤ (0 : Int) ∧ (0 : Int) < (((sAt lw t).n : Nat) : Int) ∧ rd w p.b p.o (eH (hd h j)) := by
  have hs := (r.tl t).sli
  rw [hq] at hs
  obtain ⟨p, hp, h1, h2, h3⟩ := Sli.at eH_len hs (i := 0) (by simp)
  exact ⟨p, hp, h1, h2, by simpa using h3⟩
theorem head_op {w : World} {b o : Nat} {x : Ev × Int} (hr : rd w b o (eH x)) : rd w b o (eO x.1) := ⟨hr.1, hr.2.1, hr.2.2.1, trivial⟩

/-- What was met. -/
def SeenM (w : World) (b : Nat) (S : List Int) : Prop := ∃ (l : List (Ent Int Bool)) (c : Nat), Mp kI kB w b l c ∧ ∀ y, (mget l y).getD false = decide (y ∈ S)
theorem SeenM.ext {w w' : World} {b : Nat} {S : List Int} (m : SeenM w b S) (x : Ext w w') : SeenM w' b S := by obtain ⟨l, c, h1, h2⟩ := m; exact ⟨l, c, h1.ext x, h2⟩
theorem SeenM.look {w : World} {b : Nat} {S : List Int} (m : SeenM w b S) (y : Int) : (Instr.lookup 84 (.map (some b)) (.int .i64 y) false).run Try.prog w = .ok (.bool (decide (y ∈ S))) w := by
  obtain ⟨l, c, h1, h2⟩ := m
  have := (look_run K3 u84 h1 zero4 y).1
  rw [show (Value.int .i64 y) = kI y from rfl, this, ← h2]
  cases mget l y <;> rfl
theorem appendTl3 {B : Nat} {w : World} {s : Sl} {l : List Int} (ho : Tl 3 1 eI B w s l) (x : Int) (hl : l.length ≤ 1000000) (hB : B ≤ w.heap.size) :
    ∃ (s1 : Sl) (w1 : World), (Instr.buildSlice 24 1 [(0, .int .i64 x)].toArray).run Try.prog w = .ok (.slice s1.a s1.n s1.c) w1 ∧ Ext w w1 ∧
      ∃ (s' : Sl) (w' : World), (Builtin.append_ #[24, 24] 24 #[.slice s.a s.n s.c, .slice s1.a s1.n s1.c]).run Try.prog w1 = .ok (.slice s'.a s'.n s'.c) w' ∧ Tl 3 1 eI B w' s' (l ++ [x]) ∧ Fr (Rm s) w1 w' ∧ ((∀ b, Rm s' b → Rm s b) ∨ ∀ b, Rm s' b → w.heap.size ≤ b) :=  by
  exact Tl.append E24 ho (x := x) (v := .int .i64 x) rfl eI_len eI_one (by omega) (by omega) (by simp only [maxLen]; omega) hB 24

theorem c77 (r : Run h B w b st f ms sd sa bw lw kw) (ho : OkH h) (g : Gd h st) (hk : HK h st none) (t : Int) :
    Calls Try.prog 77 [.pointer (some ⟨b, 0, none⟩), .int .i64 t].toArray w fun e w' => ∃ c : Bool, e = .returned (.bool c) ∧ (c = true ↔ caught h st t) ∧ Ext w w' := by
  refine (call77 ⟨b, 0⟩ t (R := fun v w' => ∃ c : Bool, v = .bool c ∧ (c = true ↔ caught h st t) ∧ Ext w w') ?_).mono fun e w' ⟨v, he, c, hv, hx⟩ => ⟨c, by rw [he, hv], hx⟩
  refine Let.intro fun w1 e1 => ?_
  have hx1 : Ext w w1 := by rw [e1]; exact Ext.alloc ..
  have hm1 : Mp kI kB w1 w.heap.size ([] : List (Ent Int Bool)) 0 := by rw [e1]; exact Mp.made w
  have z1 := hx1.size
  have hb := buildOne_run (P := Try.prog) E24 (v := .int .i64 t) (vs := eI t) rfl rfl (by omega) w1
  have hx2 := Ext.alloc w1 (.cells (eI t).toArray 3)
  refine ⟨⟨some ⟨w1.heap.size, 0, none⟩, 1, 1⟩, _, hb, ?_⟩
  have ho2 : Own 3 1 eI w1.heap.size (w1.alloc (.cells (eI t).toArray 3)) ⟨some ⟨w1.heap.size, 0, none⟩, 1, 1⟩ [t] := Own.one w1 t rfl
  generalize w1.alloc (.cells (eI t).toArray 3) = w2 at hx2 ho2
  have hl1 := hm1.bound
  refine Join.dir (LoopV.intro (fun n (s6 : Sl) w4 => ∃ S Q, BI (stepL h st) t S Q none ∧ n = 2 * (6 - S.length) + Q.length ∧ n ≤ 13 ∧ Tl 3 1 eI w.heap.size w4 s6 Q ∧ SeenM w4 w.heap.size S ∧ Ext w w4) 13
    ⟨[], [t], BI.init, by simp, by simp, ho2.tl.mono z1, ⟨[], 0, hm1.ext hx2, by simp [mget]⟩, hx1.trans hx2⟩ ?_)
  rintro n s6 w4 ⟨S, Q, hbi, rfl, hn13, htl, hsm, hx4⟩
  have hn6 := htl.len
  have hS6 := hbi.len
  refine cond_intro (fun hc => ?_) (fun hc => ?_)
  rotate_left
  · have hq : Q = [] := List.eq_nil_of_length_eq_zero (by have : ¬ (0 : Int) < (s6.n : Int) := by simpa using hc
                                                          omega)
    subst hq
    exact ⟨false, rfl, by simp; exact hbi.done, hx4⟩
  obtain ⟨x, Q, rfl⟩ : ∃ x Q', Q = x :: Q' := by
    cases Q with
    | nil => simp at hn6; simp [hn6] at hc
    | cons x Q' => exact ⟨x, Q', rfl⟩
  have hxs := hbi.at
  obtain ⟨p, hp, a1, a2, hr⟩ := Ints.at (i := 0) (show Ints w4 s6 (x :: Q) from htl.sli) (by simp)
  have hdrop : Tl 3 1 eI w.heap.size w4 ⟨subA s6.a s6.c 1 1, s6.n - 1, s6.c - 1⟩ Q := by
    have := htl.drop eI_len (m := 1) (by simp)
    simpa using this
  have rr := r.ext hx4
  refine Join.dir ⟨p, hp, a1, a2, x, hr, by omega, by omega, some bw, rr.cw, sAt lw x, lookH rr.mw x, ?_⟩
  refine cond_intro (fun hc2 => ?_) (fun hc2 => ?_)
  · -- x waits for nobody
    have hq : st.q x = [] := List.eq_nil_of_length_eq_zero (by have := rr.len x; simp at hc2; omega)
    refine ⟨2 * (6 - S.length) + Q.length, by simp, S, Q, hbi.pop.close fun y ⟨j, r', hj, _⟩ => (by rw [hq] at hj; cases hj), rfl, by simp at hn13; omega, hdrop, hsm, hx4⟩
  obtain ⟨j, l, hq⟩ : ∃ j l, st.q x = j :: l := by
    cases hq : st.q x with
    | nil => have := rr.len x; rw [hq] at this; simp at this; rw [this] at hc2; simp at hc2
    | cons j l => exact ⟨j, l, rfl⟩
  refine ⟨fun u => Ext w4 u, Ext.drew _, Let.intro fun w6 e6 => ?_⟩
  have hx6 : Ext w4 w6 := by rw [e6]; exact Ext.drew _
  obtain ⟨p35, hp35, b1, b2, _⟩ := rr.head hq
  refine ⟨p35, hp35, b1, b2, (opA h j).t, (opA h j).k, (opA h j).i, fun u hu => ?_, ?_⟩
  · obtain ⟨p', hp', _, _, hr'⟩ := (rr.ext hu).head hq
    rw [hp35] at hp'
    have e : (⟨p35.b, p35.o, none⟩ : Addr) = ⟨p'.b, p'.o, none⟩ := Option.some.inj hp'
    have e1 : p35.b = p'.b := congrArg Addr.block e
    have e2 : p35.o = p'.o := congrArg Addr.off e
    have := head_op hr'
    rw [← e1, ← e2] at this
    simpa [eO, hd] using this
  have hoj := ho.at (g.q x j (by rw [hq]; simp)).1
  have hkj := hk x j l (by simp) hq
  have hx06 := hx4.trans hx6
  refine (c79 (r.ext hx06).lk g hoj hkj).mono fun e w7 ⟨s38, ls, he, hi38, hml, hll, hx7⟩ => ⟨s38, he, hx6.trans hx7, ?_⟩
  have hstep : ∀ y, stepL h st x y ↔ y ∈ ls := fun y => by
    rw [hml]
    constructor
    · rintro ⟨j', r', hj', hy⟩; rw [hq] at hj'; cases hj'; exact hy
    · intro hy; exact ⟨j, l, hq, hy⟩
  have hx47 := hx6.trans hx7
  have hx07 := hx4.trans hx47
  have n38 := hi38.sli.len
  have hz7 := hx07.size
  have hz6 := hx06.size
  have hz67 := hx7.size
  have hz46 := hx6.size
  have hm13 : 2 * (6 - S.length) + Q.length ≤ 12 := by simp at hn13; omega
  refine Join.dir (rangeSI (fun i (s : Sl) w9 => ∃ S' Q', BI (stepL h st) t S' Q' (some x) ∧ (x = t ∨ x ∈ S') ∧ (∀ y ∈ ls.take i, y ≠ t ∧ y ∈ S') ∧ 2 * (6 - S'.length) + Q'.length ≤ 2 * (6 - S.length) + Q.length ∧ Tl 3 1 eI w.heap.size w9 s Q' ∧ SeenM w9 w.heap.size S' ∧ Ext w w9 ∧ w7.heap.size ≤ w9.heap.size ∧ Ints w9 s38 ls ∧ (∀ a, s38.a = some a → ¬ Rm s a.block))
    (by rw [n38]; show ls.length ≤ 9223372036854775807; omega) ⟨S, Q, hbi.pop, hxs, by simp, Nat.le_refl _, hdrop.ext hx47, hsm.ext hx47, hx07, Nat.le_refl _, hi38.sli, ?_⟩ ?_ ?_)
  · intro a ha hR
    have h1 := (hi38.base ha).1
    have h2 := (hdrop.base hR).2.1
    omega
  · rintro i hi s w9 ⟨S', Q', hb', hx', hall, hmeas, htl', hsm', hx9, hz9, hi9, hsep⟩ K hK
    have hi : i < ls.length := by omega
    obtain ⟨p42, hp42, c1, c2, hr42⟩ := Ints.at hi9 hi
    refine ⟨p42, hp42, c1, c2, ls[i], hr42, ?_⟩
    have hst := (hstep ls[i]).2 (List.getElem_mem hi)
    refine cond_intro (fun hc => ?_) (fun hc => ?_)
    · have hc : ls[i] = t := by simpa using hc
      rw [hc] at hst
      exact ⟨true, rfl, by simp; exact hb'.found hx' hst, hx9⟩
    have hne : ls[i] ≠ t := by simpa using hc
    refine ⟨decide (ls[i] ∈ S'), hsm'.look _, Join.dir (cond_intro (fun hc => ?_) (fun hc => ?_))⟩
    · have hn : ls[i] ∉ S' := by simpa using hc
      have h6 : ls[i] ∈ six := by
        obtain ⟨j', r', _, hy⟩ := hst
        exact hind_six g hy
      have hb2 := hb'.add hx' hst hne hn h6
      have hl2 := hb2.len
      obtain ⟨l1, cc1, hmp, hml2⟩ := hsm'
      obtain ⟨w12, cc2, hrun, hmp12, hf12⟩ := put_run K3 u84 hmp ls[i] true
      have hRm : ∀ y, Rm s y → y ≠ w.heap.size := fun y hy e => by
        obtain ⟨_, _, cur, hcur⟩ := htl'.base hy
        subst e
        exact hmp.ne_blk hcur rfl
      have htl12 := htl'.fr hf12 fun y hy e => hRm y hy e
      have z12 := hf12.size
      obtain ⟨s1, w13, e13, hx13, s2, w14, e14, htl14, hf14, hwh⟩ := appendTl3 htl12 ls[i] (by omega) (by omega)
      have z13 := hx13.size
      have z14 := hf14.size
      have hx12 : Ext w w12 := hx9.newer hf12 fun y (hy : y = w.heap.size) => by omega
      have h38 : ∀ a, s38.a = some a → a.block ≠ w.heap.size := fun a ha e => by
        obtain ⟨cur, hcur⟩ := hi38.blk ha
        obtain ⟨l0, c0, hmp0, _⟩ := hsm.ext hx47
        rw [e] at hcur
        exact hmp0.ne_blk hcur rfl
      refine ⟨w12, hrun, s1, w13, e13, s2, w14, e14, hK _ _ ⟨S' ++ [ls[i]], Q' ++ [ls[i]], hb2, ?_, ?_, ?_, htl14, ?_, ?_, by omega, ?_, ?_⟩⟩
      · rcases hx' with h1 | h1
        · exact .inl h1
        · exact .inr (by simp [h1])
      · intro y hy
        rw [List.take_succ_eq_append_getElem hi] at hy
        rcases List.mem_append.1 hy with hy | hy
        · exact ⟨(hall y hy).1, by simp [(hall y hy).2]⟩
        · simp at hy; subst hy; exact ⟨hne, by simp⟩
      · simp at hl2 ⊢; omega
      · refine ⟨_, cc2, (hmp12.ext hx13).fr hf14 fun hy => hRm _ hy rfl, fun y => ?_⟩
        rw [mget_mput]
        by_cases e : y = ls[i]
        · simp [e]
        · rw [if_neg e, hml2]; simp [e]
      · refine (hx12.trans hx13).newer hf14 fun y hy => ?_
        have := (htl'.base hy).1
        omega
      · refine ((hi9.fr hf12 h38).ext hx13).fr hf14 fun a ha hR => hsep a ha hR
      · intro a ha hR
        rcases hwh with hwh | hwh
        · exact hsep a ha (hwh _ hR)
        · have h1 := hwh _ hR
          have h2 := (hi38.base ha).2
          omega
    · have hin : ls[i] ∈ S' := by simpa using hc
      refine hK _ _ ⟨S', Q', hb', hx', fun y hy => ?_, hmeas, htl', hsm', hx9, hz9, hi9, hsep⟩
      rw [List.take_succ_eq_append_getElem hi] at hy
      rcases List.mem_append.1 hy with hy | hy
      · exact hall y hy
      · simp at hy; subst hy; exact ⟨hne, hin⟩
  · rintro s w9 ⟨S', Q', hb', hx', hall, hmeas, htl', hsm', hx9, _, _, _⟩
    rw [n38, List.take_length] at hall
    exact ⟨2 * (6 - S'.length) + Q'.length, by simp; omega, S', Q', hb'.close fun y hy => hall y ((hstep y).1 hy), rfl, by omega, htl', hsm', hx9⟩
end
end Go.Proofs.Ytnbkihkdfhjlmaa
/-
  How the state of Lock changes in memory; contract: one operation is tried.
-/
namespace Go.Proofs.Ytnbkihkdfhjlmaa
open Go Go.VC
set_option maxHeartbeats 1000000
set_option maxRecDepth 100000

section
variable {h : List Ev} {B : Nat} {w w' : World} {b : Nat} {st st' : LS} {f f' : Nat → Value} {ms ms' : Nat → Option Nat} {sd sa : Sl} {bw : Nat} {lw : List (Ent Int Sl)} {kw : Nat}
/-- No block of another type is one of the locks. -/
theorem Lk.not_cells (k : Lk B w b st f ms) {y T : Nat} {cur : List Value} (hb : Blk w y cur T) (hT : T ≠ 89) : ¬ LkB b ms y := by
  rintro (rfl | ⟨i, hi, hm⟩)
  · exact Blk.ne_ty hb k.fb hT rfl
  · obtain ⟨_, l, c, h2, _⟩ := k.mp i hi y hm
    exact h2.ne_blk hb rfl
theorem Run.lock (r : Run h B w b st f ms sd sa bw lw kw) (k : Lk B w' b st' f' ms') (hf : ∀ j, 12 ≤ j → f' j = f j) (hms : ∀ i m, i < 6 → ms' i = some m → ms i = some m ∨ w.heap.size ≤ m) (fr : Fr (LkB b ms) w w')
    (h1 : st'.dn = st.dn) (h2 : st'.ab = st.ab) (h3 : st'.q = st.q) : Run h B w' b st' f' ms' sd sa bw lw kw := by
  have hbw : ¬ LkB b ms bw := by
    rintro (e | ⟨i, hi, hm⟩)
    · exact r.mw.ne_blk r.lk.fb e
    · exact r.bm i hi hm
  refine ⟨k, by rw [hf 12 (by omega)]; exact r.fd, by rw [hf 13 (by omega)]; exact r.fa, by rw [hf 14 (by omega)]; exact r.fw, ?_, ?_, r.bwB, r.mw.fr fr hbw, fun i hi hm => ?_, fun t => ?_, r.sep⟩
  · rw [h1]; exact r.od.fr fr fun a ha => by obtain ⟨cur, hc⟩ := r.od.blk ha; exact r.lk.not_cells hc (by decide)
  · rw [h2]; exact r.oa.fr fr fun a ha => by obtain ⟨cur, hc⟩ := r.oa.blk ha; exact r.lk.not_cells hc (by decide)
  · rcases hms i bw hi hm with h4 | h4
    · exact r.bm i hi h4
    · have := r.mw.bound; omega
  · rw [h3]; exact (r.tl t).fr fr fun y hy => by obtain ⟨_, _, cur, hc⟩ := (r.tl t).base hy; exact r.lk.not_cells hc (by decide)
/-- Cell 12, 13: what was done, who was aborted. -/
theorem Run.setD (r : Run h B w b st f ms sd sa bw lw kw) {w1 w2 : World} (hx : Ext w w1) (hf : Fr (Bl sd) w1 w2) {s' : Sl} {l : List Ev} (ho : Own 38 3 eO B w2 s' l) :
    StoreOk w2 b 12 [.slice s'.a s'.n s'.c] 1 ∧ Run h B (put w2 b 12 [.slice s'.a s'.n s'.c]) b { st with dn := l } (updF f 12 [.slice s'.a s'.n s'.c]) ms s' sa bw lw kw ∧ Fr (fun y => y = b) w2 (put w2 b 12 [.slice s'.a s'.n s'.c]) := by
  have r1 := r.ext hx
  have hblk : ∀ y, Bl sd y → ∃ cur, Blk w1 y cur 38 := fun y ⟨a, ha, hy⟩ => by rw [← hy]; exact r1.od.blk ha
  have k2 : Lk B w2 b st f ms := r1.lk.fr hf fun y hy hb => by obtain ⟨cur, hc⟩ := hblk y hb; exact r1.lk.not_cells hc (by decide) hy
  have ha2 : Own 3 1 eI B w2 sa st.ab := r1.oa.fr hf fun a ha hb => by
    obtain ⟨cur, hc⟩ := hblk _ hb
    obtain ⟨cur', hc'⟩ := r1.oa.blk ha
    exact Blk.ne_ty hc hc' (by decide) rfl
  have hm2 : Mp kI kS w2 bw lw kw := r1.mw.fr hf fun hb => by obtain ⟨cur, hc⟩ := hblk _ hb; exact r1.mw.ne_blk hc rfl
  have ht2 : ∀ t, Tl 92 4 eH B w2 (sAt lw t) ((st.q t).map (hd h)) := fun t => (r1.tl t).fr hf fun y hy hb => by
    obtain ⟨cur, hc⟩ := hblk _ hb
    obtain ⟨_, _, cur', hc'⟩ := (r1.tl t).base hy
    exact Blk.ne_ty hc hc' (by decide) rfl
  have hfr : Fr (fun y => y = b) w2 (put w2 b 12 [.slice s'.a s'.n s'.c]) := Fr.put ..
  have hup : ∀ {j : Nat} {v : Value}, j ≠ 12 → f j = v → updF f 12 [.slice s'.a s'.n s'.c] j = v := fun hj hv => by rw [updF_out (by simp; omega)]; exact hv
  refine ⟨k2.fb.storeOk rfl (by simp [Value.oneCell']) (by omega), ⟨⟨k2.fb.put (by simp), k2.base, fun i hi => hup (by omega) (k2.fm i hi), k2.nil, fun i hi m he => ?_, k2.inj, fun i hi => ?_⟩, updF_in (Nat.le_refl _) (by simp [kS]), hup (by omega) r.fa, hup (by omega) r.fw, ?_, ?_, r.bwB, ?_, r.bm, fun t => ?_, r.sep⟩, hfr⟩
  · obtain ⟨a, l', c', h4, h5⟩ := k2.mp i hi m he
    exact ⟨a, l', c', h4.fr hfr fun e' => k2.ne hi he e', h5⟩
  · obtain ⟨e2, h4, h5⟩ := k2.fe i hi
    exact ⟨e2, hup (by omega) h4, h5⟩
  · exact ho.fr hfr fun a ha e => by obtain ⟨cur, hc⟩ := ho.blk ha; exact Blk.ne_ty hc k2.fb (by decide) e
  · exact ha2.fr hfr fun a ha e => by obtain ⟨cur, hc⟩ := ha2.blk ha; exact Blk.ne_ty hc k2.fb (by decide) e
  · exact hm2.fr hfr fun e => hm2.ne_blk k2.fb e
  · exact (ht2 t).fr hfr fun y hy e => by obtain ⟨_, _, cur, hc⟩ := (ht2 t).base hy; exact Blk.ne_ty hc k2.fb (by decide) e
theorem Run.setA (r : Run h B w b st f ms sd sa bw lw kw) {w1 w2 : World} (hx : Ext w w1) (hf : Fr (Bl sa) w1 w2) {s' : Sl} {l : List Int} (ho : Own 3 1 eI B w2 s' l) :
    StoreOk w2 b 13 [.slice s'.a s'.n s'.c] 1 ∧ Run h B (put w2 b 13 [.slice s'.a s'.n s'.c]) b { st with ab := l } (updF f 13 [.slice s'.a s'.n s'.c]) ms sd s' bw lw kw ∧ Fr (fun y => y = b) w2 (put w2 b 13 [.slice s'.a s'.n s'.c]) := by
  have r1 := r.ext hx
  have hblk : ∀ y, Bl sa y → ∃ cur, Blk w1 y cur 3 := fun y ⟨a, ha, hy⟩ => by rw [← hy]; exact r1.oa.blk ha
  have k2 : Lk B w2 b st f ms := r1.lk.fr hf fun y hy hb => by obtain ⟨cur, hc⟩ := hblk y hb; exact r1.lk.not_cells hc (by decide) hy
  have ha2 : Own 38 3 eO B w2 sd st.dn := r1.od.fr hf fun a ha hb => by
    obtain ⟨cur, hc⟩ := hblk _ hb
    obtain ⟨cur', hc'⟩ := r1.od.blk ha
    exact Blk.ne_ty hc hc' (by decide) rfl
  have hm2 : Mp kI kS w2 bw lw kw := r1.mw.fr hf fun hb => by obtain ⟨cur, hc⟩ := hblk _ hb; exact r1.mw.ne_blk hc rfl
  have ht2 : ∀ t, Tl 92 4 eH B w2 (sAt lw t) ((st.q t).map (hd h)) := fun t => (r1.tl t).fr hf fun y hy hb => by
    obtain ⟨cur, hc⟩ := hblk _ hb
    obtain ⟨_, _, cur', hc'⟩ := (r1.tl t).base hy
    exact Blk.ne_ty hc hc' (by decide) rfl
  have hfr : Fr (fun y => y = b) w2 (put w2 b 13 [.slice s'.a s'.n s'.c]) := Fr.put ..
  have hup : ∀ {j : Nat} {v : Value}, j ≠ 13 → f j = v → updF f 13 [.slice s'.a s'.n s'.c] j = v := fun hj hv => by rw [updF_out (by simp; omega)]; exact hv
  refine ⟨k2.fb.storeOk rfl (by simp [Value.oneCell']) (by omega), ⟨⟨k2.fb.put (by simp), k2.base, fun i hi => hup (by omega) (k2.fm i hi), k2.nil, fun i hi m he => ?_, k2.inj, fun i hi => ?_⟩, hup (by omega) r.fd, updF_in (Nat.le_refl _) (by simp [kS]), hup (by omega) r.fw, ?_, ?_, r.bwB, ?_, r.bm, fun t => ?_, r.sep⟩, hfr⟩
  · obtain ⟨a, l', c', h4, h5⟩ := k2.mp i hi m he
    exact ⟨a, l', c', h4.fr hfr fun e' => k2.ne hi he e', h5⟩
  · obtain ⟨e2, h4, h5⟩ := k2.fe i hi
    exact ⟨e2, hup (by omega) h4, h5⟩
  · exact ha2.fr hfr fun a ha e => by obtain ⟨cur, hc⟩ := ha2.blk ha; exact Blk.ne_ty hc k2.fb (by decide) e
  · exact ho.fr hfr fun a ha e => by obtain ⟨cur, hc⟩ := ho.blk ha; exact Blk.ne_ty hc k2.fb (by decide) e
  · exact hm2.fr hfr fun e => hm2.ne_blk k2.fb e
  · exact (ht2 t).fr hfr fun y hy e => by obtain ⟨_, _, cur, hc⟩ := (ht2 t).base hy; exact Blk.ne_ty hc k2.fb (by decide) e
theorem sAt_mput (l : List (Ent Int Sl)) (c : Nat) (t : Int) (s : Sl) (u : Int) : sAt (mput l c t s) u = if u = t then s else sAt l u := by
  unfold sAt
  rw [mget_mput]
  by_cases e : u = t
  · rw [if_pos e, if_pos e]; rfl
  · rw [if_neg e, if_neg e]
/-- A queue is set. -/
theorem Run.setQ (r : Run h B w b st f ms sd sa bw lw kw) (t : Int) {l : List Nat} {s : Sl} (ht : Tl 92 4 eH B w s (l.map (hd h))) (hsep : ∀ u, u ≠ t → ∀ y, Rm s y → ¬ Rm (sAt lw u) y) :
    ∃ w' c', (Instr.mapUpdate 83 (.map (some bw)) (.int .i64 t) (.slice s.a s.n s.c)).run Try.prog w = .ok () w' ∧ Run h B w' b (setq st t l) f ms sd sa bw (mput lw kw t s) c' ∧ Fr (fun y => y = bw) w w' := by
  obtain ⟨w', c', hrun, hmp, hfr⟩ := put_run K3 u83 r.mw t s
  have hcells : ∀ {y T : Nat} {cur : List Value}, Blk w y cur T → y ≠ bw := fun hb e => by subst e; exact r.mw.ne_blk hb rfl
  refine ⟨w', c', hrun, ⟨(r.lk.fr hfr fun y hy e => ?_).congr (fun _ _ _ => rfl) (fun _ _ _ => rfl), r.fd, r.fa, r.fw, ?_, ?_, r.bwB, hmp, r.bm, fun u => ?_, fun u v huv y h1 h2 => ?_⟩, hfr⟩
  · rcases hy with h1 | ⟨i, hi, hm⟩
    · exact hcells r.lk.fb (h1.symm.trans e)
    · rw [e] at hm; exact r.bm i hi hm
  · exact r.od.fr hfr fun a ha => by obtain ⟨cur, hc⟩ := r.od.blk ha; exact hcells hc
  · exact r.oa.fr hfr fun a ha => by obtain ⟨cur, hc⟩ := r.oa.blk ha; exact hcells hc
  · rw [sAt_mput, setq_q]
    by_cases e : u = t
    · subst e
      rw [if_pos rfl, upq_same]
      exact ht.fr hfr fun y hy => by obtain ⟨_, _, cur, hc⟩ := ht.base hy; exact hcells hc
    · rw [if_neg e, upq_other e]
      exact (r.tl u).fr hfr fun y hy => by obtain ⟨_, _, cur, hc⟩ := (r.tl u).base hy; exact hcells hc
  · rw [sAt_mput] at h1 h2
    by_cases e : u = t
    · subst e
      rw [if_pos rfl] at h1
      rw [if_neg (fun h => huv h.symm)] at h2
      exact hsep v (fun h => huv h.symm) y h1 h2
    · rw [if_neg e] at h1
      by_cases e' : v = t
      · subst e'
        rw [if_pos rfl] at h2
        exact hsep u e y h2 h1
      · rw [if_neg e'] at h2
        exact r.sep u v huv y h1 h2
end
/-- 'append(s, x)' in its two steps. -/
theorem appEv {t e : Nat} (E : Elem Try.prog t e 3 24) {B : Nat} {w : World} {s : Sl} {l : List Ev} (ho : Own e 3 eO B w s l) (x : Ev) (hl : l.length ≤ 1000000) (hB : B ≤ w.heap.size) :
    ∃ (s1 : Sl) (w1 : World), (Instr.buildSlice t 1 [(0, .agg [.int .i64 x.t, .int .i64 x.k, .int .i64 x.i].toArray)].toArray).run Try.prog w = .ok (.slice s1.a s1.n s1.c) w1 ∧ Ext w w1 ∧
      ∃ (s' : Sl) (w' : World), (Builtin.append_ #[t, t] t #[.slice s.a s.n s.c, .slice s1.a s1.n s1.c]).run Try.prog w1 = .ok (.slice s'.a s'.n s'.c) w' ∧ Own e 3 eO B w' s' (l ++ [x]) ∧ Fr (Bl s) w1 w' := by
  have hb := buildOne_run E (v := .agg [.int .i64 x.t, .int .i64 x.k, .int .i64 x.i].toArray) (vs := eO x) rfl rfl (by omega) w
  have hx := Ext.alloc w (.cells (eO x).toArray e)
  obtain ⟨s', w', hr, ho', hf⟩ := appendOwn E (ho.ext hx) (s2 := ⟨some ⟨w.heap.size, 0, none⟩, 1, 1⟩) (l2 := [x]) rfl rfl (by simpa using (Blk.alloc w (eO x) e).rd) eO_len eO_one (by simp; omega) (by simp [maxLen]; omega) (by have := hx.size; omega) t
  exact ⟨⟨some ⟨w.heap.size, 0, none⟩, 1, 1⟩, _, hb, hx, s', w', hr, ho', hf⟩
def RunX (h : List Ev) (B : Nat) (w : World) (b : Nat) (st : LS) : Prop := ∃ f ms sd sa bw lw kw, Run h B w b st f ms sd sa bw lw kw
theorem RunX.ext {h : List Ev} {B : Nat} {w w' : World} {b : Nat} {st : LS} (r : RunX h B w b st) (x : Ext w w') : RunX h B w' b st := by
  obtain ⟨f, ms, sd, sa, bw, lw, kw, r⟩ := r; exact ⟨f, ms, sd, sa, bw, lw, kw, r.ext x⟩
theorem mem_hit {st : LS} {h : List Ev} (g : Gd h st) {o : Ev} {l : List Int} (hl : ∀ x, x ∈ l ↔ hind st o x = true) : l.length > 0 ↔ hit st o = true := by
  constructor
  · intro h0
    obtain ⟨x, hx⟩ := List.exists_mem_of_ne_nil l (by rintro rfl; simp at h0)
    exact hit_mem g ((hl x).1 hx)
  · intro hh
    unfold hit at hh
    obtain ⟨x, _, hx⟩ := List.any_eq_true.1 hh
    exact List.length_pos_of_mem ((hl x).2 hx)
theorem hit_big {st : LS} {o : Ev} (hk : 1 < o.k) : hit st o = false := Bool.eq_false_iff.2 fun h => by have := hit_kind h; omega

theorem c76 {h : List Ev} {B : Nat} {w : World} {b : Nat} {st : LS} {f : Nat → Value} {ms : Nat → Option Nat} {sd sa : Sl} {bw : Nat} {lw : List (Ent Int Sl)} {kw : Nat} (r : Run h B w b st f ms sd sa bw lw kw)
    (ho : OkH h) (g : Gd h st) (hd1 : st.dn.length ≤ 1000) {t : Int} {j : Nat} {l : List Nat} (hq : st.q t = j :: l) :
    Calls Try.prog 76 [.pointer (some ⟨b, 0, none⟩), .int .i64 t].toArray w fun e w' => ∃ c : Bool, e = .returned (.bool c) ∧
      ((c = false ∧ hit st (opA h j) = true ∧ Ext w w') ∨ (c = true ∧ hit st (opA h j) = false ∧ RunX h B w' b (doL (setq st t l) (opA h j)) ∧ Fr (fun y => B ≤ y) w w')) := by
  refine (call76 ⟨b, 0⟩ t (R := fun v w' => ∃ c : Bool, v = .bool c ∧ ((c = false ∧ hit st (opA h j) = true ∧ Ext w w') ∨ (c = true ∧ hit st (opA h j) = false ∧ RunX h B w' b (doL (setq st t l) (opA h j)) ∧ Fr (fun y => B ≤ y) w w'))) ?_).mono fun e w' ⟨v, he, c, hv, hx⟩ => ⟨c, by rw [he, hv], hx⟩
  obtain ⟨hjl, hjt⟩ := g.q t j (by rw [hq]; simp)
  have hoj := ho.at hjl
  have hrg := g.range ho hq
  generalize hop : opA h j = o at hjt hoj
  obtain ⟨p12, hp12, a1, a2, hr12⟩ := r.head hq
  have hr12 : rd w p12.b p12.o (eO o) := by have := head_op hr12; rw [← hop]; exact this
  refine ⟨some bw, r.cw, sAt lw t, lookH r.mw t, p12, hp12, a1, a2, o.t, o.k, o.i, by simpa [eO] using hr12, ?_⟩
  obtain ⟨n1, n2, n3⟩ := new_var w 38 (z := zc Try.prog 38) (vs := eO o) (by rw [zc38]; rfl) (eO_one _)
  refine Let.intro fun w1 e1 => ?_
  rw [← e1] at n1 n2 n3
  refine ⟨n1, Let.intro fun w2 e2 => ?_⟩
  have hb2 : Blk w2 w.heap.size (eO o) 38 := by rw [e2]; exact n2
  have hx2 : Ext w w2 := by rw [e2]; exact n3
  have r2 := r.ext hx2
  have z2 := hx2.size
  have hl2 := hb2.lt
  refine ⟨o.k, hb2.cell 1, ?_⟩
  refine ⟨fun w3 => hit st o = false ∧ (∃ f' ms', Run h B w3 b { st with sh := (doL st o).sh, ex := (doL st o).ex } f' ms' sd sa bw lw kw) ∧ Blk w3 w.heap.size (eO o) 38 ∧ Fr (fun y => B ≤ y) w w3 ∧ w2.heap.size ≤ w3.heap.size, ?_, ?_⟩
  · rintro w3 ⟨hh, ⟨f', ms', r3⟩, hb3, hfr3, hz3⟩
    refine ⟨fun u => World.cell? u ⟨b, 12, none⟩ = some (.slice sd.a sd.n sd.c) ∧ rd u w.heap.size 0 (eO o), ⟨(r3.ext (Ext.drew _)).cd, (hb3.ext (Ext.drew _)).rd⟩, Let.intro fun w4 e4 => ?_⟩
    have hx4 : Ext w3 w4 := by rw [e4]; exact Ext.drew _
    have r4 := r3.ext hx4
    have hb4 := hb3.ext hx4
    have z4 := hx4.size
    have hz := r.hB
    obtain ⟨s1, w5, e5, hx5, s2, w6, e6, ho6, hf6⟩ := appEv E29 r4.od o (by show st.dn.length ≤ 1000000; omega) r4.hB
    have z5 := hx5.size
    have z6 := hf6.size
    obtain ⟨d1, r7, f7⟩ := r4.setD hx5 hf6 ho6
    have hsdlt : ∀ y, Bl sd y → y < w.heap.size ∧ B ≤ y := fun y ⟨a, ha, hy⟩ => by have := r.od.base ha; omega
    have hrd6 : rd w6 w.heap.size 0 (eO o) := Fr.rd hf6 (fun h => by have := hsdlt _ h; omega) (hb4.ext hx5).rd
    have hcd6 : World.cell? w6 ⟨b, 12, none⟩ = some (.slice sd.a sd.n sd.c) := by
      refine hf6.cell (a := ⟨b, 12, none⟩) (fun ⟨a, ha, hy⟩ => ?_) (r4.ext hx5).cd
      obtain ⟨cur, hc⟩ := r4.od.blk ha
      rw [hy] at hc
      exact Blk.ne_ty hc r4.lk.fb (by decide) rfl
    refine ⟨sd, fun u hu => hu.1, o.t, o.k, o.i, fun u hu => hu.2, s1, w5, e5, ⟨(r4.ext hx5).cd, (hb4.ext hx5).rd⟩, s2, w6, e6, ⟨hcd6, hrd6⟩, d1, Let.intro fun w7 e7 => Let.intro fun w8 e8 => ?_⟩
    have e7 : w7 = put w6 b 12 [.slice s2.a s2.n s2.c] := e7
    rw [← e7] at r7 f7
    have hx8 : Ext w7 w8 := by rw [e8]; exact Ext.drew _
    have r8 := r7.ext hx8
    have htl := (r8.tl t).drop eH_len (m := 1) (by show 1 ≤ ((st.q t).map (hd h)).length; rw [hq]; simp)
    have hql : ((st.q t).map (hd h)).drop 1 = l.map (hd h) := by rw [hq]; rfl
    have htl : Tl 92 4 eH B w8 ⟨subA (sAt lw t).a (sAt lw t).c 1 4, (sAt lw t).n - 1, (sAt lw t).c - 1⟩ (l.map (hd h)) := by rw [← hql]; exact htl
    have hcap := (r8.tl t).cap
    have hlen := r8.len t
    have hlen : (sAt lw t).n = l.length + 1 := by rw [hlen]; show (st.q t).length = _; rw [hq]; rfl
    obtain ⟨w9, c9, hrun, r9, f9⟩ := r8.setQ t htl fun u hu y hy hy2 => r8.sep u t hu y hy2 (Rm.drop (size := 4) (by omega) hy)
    refine ⟨some bw, r8.cw, some bw, r8.cw, sAt lw t, lookH r8.mw t, by omega, by omega, w9, hrun, true, rfl, .inr ⟨rfl, hh, ⟨_, _, _, _, _, _, _, r9⟩, ?_⟩⟩
    have hb := r4.lk.base
    have hbw := r8.bwB
    refine ((((hfr3.ext hx4).ext hx5).trans hf6 fun y _ hy => (hsdlt y hy).2).trans f7 fun y _ (hy : y = b) => by omega).trans (hx8.fr f9) fun y _ (hy : y = bw) => by omega
  · refine cond_intro (fun hc => ?_) (fun hc => ?_)
    · have hk : o.k ≤ 1 := by simpa using hc
      refine ⟨fun u => Ext w2 u, Ext.drew _, Let.intro fun w10 e10 => ⟨o.t, o.k, o.i, fun u hu => (hb2.ext hu).rd, ?_⟩⟩
      have hx10 : Ext w2 w10 := by rw [e10]; exact Ext.drew _
      have r10 := r2.ext hx10
      refine (c79 r10.lk g hoj hk).mono fun e w11 ⟨s22, ls, he, ho22, hml, hll, hx11⟩ => ⟨s22, he, hx10.trans hx11, ?_⟩
      have hn22 := ho22.sli.len
      have hmh := mem_hit g hml
      refine cond_intro (fun hc => ⟨false, rfl, .inl ⟨rfl, hmh.1 (by simp at hc; omega), (hx2.trans hx10).trans hx11⟩⟩) (fun hc => ?_)
      have hh : hit st o = false := Bool.eq_false_iff.2 fun h => by have := hmh.2 h; simp at hc; omega
      refine Let.intro fun w12 e12 => ?_
      have hx12 : Ext w11 w12 := by rw [e12]; exact Ext.drew _
      have hx212 := (hx10.trans hx11).trans hx12
      have r12 := r2.ext hx212
      have z12 := hx212.size
      refine ⟨o.t, o.k, o.i, (hb2.ext hx212).rd, (c93 r12.lk r12.hB g hoj hk hh).mono fun e w13 ⟨he, f', ms', k13, hf', hms', hfr13⟩ => ⟨he, hh, ?_, ?_, ?_, ?_⟩⟩
      · exact ⟨f', ms', r12.lock (k13.congr (fun _ _ _ => rfl) (fun _ _ _ => rfl)) hf' hms' hfr13 rfl rfl rfl⟩
      · exact (hb2.ext hx212).fr hfr13 fun h => by have := (r.lk.bound h).2; omega
      · exact Ext.fr (hx2.trans hx212) (hfr13.mono fun y _ hy => (r.lk.bound hy).1)
      · have := hfr13.size; omega
    · have hk : 1 < o.k := by simp at hc; omega
      have hh := hit_big (st := st) hk
      rw [← hjt]
      refine (c78 r2.lk (t := o.t) (by omega) (st' := { st with sh := (doL st o).sh, ex := (doL st o).ex }) (doL_sh2 hk).1 (doL_sh2 hk).2).mono fun e w14 ⟨he, f', k14, hf', hfr14⟩ => ⟨he, hh, ?_, ?_, ?_, ?_⟩
      · exact ⟨f', ms, r2.lock k14 hf' (fun i m _ h => .inl h) hfr14 rfl rfl rfl⟩
      · exact hb2.fr hfr14 fun h => by have := (r.lk.bound h).2; omega
      · exact Ext.fr hx2 (hfr14.mono fun y _ hy => (r.lk.bound hy).1)
      · exact hfr14.size
end Go.Proofs.Ytnbkihkdfhjlmaa
/-
  Contracts: a transaction goes on; those that can go on go on.
-/
namespace Go.Proofs.Ytnbkihkdfhjlmaa
open Go Go.VC
set_option maxHeartbeats 1000000
set_option maxRecDepth 100000

/-! ### bounds -/
theorem LI.dn_len {h : List Ev} (ho : OkH h) {i : Nat} {st : LS} (v : LI h i st) : st.dn.length ≤ h.length := by
  have hmem : ∀ o ∈ st.dn, 1 ≤ o.t ∧ o.t ≤ 6 := fun o hm => by
    have hf : o ∈ st.dn.filter (ofT o.t) := List.mem_filter.2 ⟨hm, by simp [ofT]⟩
    have hin : ∀ x, x ∈ opsT h i o.t → 1 ≤ x.t ∧ x.t ≤ 6 := fun x hx => by
      have := ho x (List.mem_of_mem_take (List.mem_filter.1 hx).1)
      unfold okOp at this; omega
    rcases v.ti o.t with ⟨_, h2⟩ | ⟨hab, _, p, x, r, h3, h4⟩
    · exact hin o (by rw [← h2]; simp [hf])
    · rw [h3] at hf
      rcases List.mem_append.1 hf with hf | hf
      · exact hin o (by rw [h4]; simp [hf])
      · simp at hf; exact v.rg _ hab
  have h1 := len_six hmem
  have h2 := len_six (l := h.take i) fun o hm => by have := ho o (List.mem_of_mem_take hm); unfold okOp at this; omega
  have hle : ∀ t, (st.dn.filter (ofT t)).length ≤ ((h.take i).filter (ofT t)).length := fun t => by
    rcases v.ti t with ⟨_, h2⟩ | ⟨_, _, p, x, r, h3, h4⟩
    · unfold opsT at h2; rw [← h2]; simp
    · unfold opsT at h4; rw [h3, h4]; simp
  have h3 : (h.take i).length ≤ h.length := by simp; omega
  simp only [six, List.map_cons, List.map_nil, List.sum_cons, List.sum_nil] at h1 h2
  have a1 := hle 1
  have a2 := hle 2
  have a3 := hle 3
  have a4 := hle 4
  have a5 := hle 5
  have a6 := hle 6
  omega
theorem LI.ab_len {h : List Ev} {i : Nat} {st : LS} (v : LI h i st) : st.ab.length ≤ 6 := by simpa [six] using v.nd.length_le_of_subset (l₂ := six) fun t ht => mem_six.2 (v.rg t ht)
theorem HK.toNone {h : List Ev} {st : LS} {ex : Option Int} (k : HK h st ex) {t : Int} (ht : ∀ j r, st.q t = j :: r → (opA h j).k ≤ 1) (he : ex = some t) : HK h st Option.none := fun x j r _ hq => by
  by_cases e : x = t
  · subst e; exact ht j r hq
  · exact k x j r (by rw [he]; exact fun h => e (Option.some.inj h)) hq
theorem HK.goP {h : List Ev} {st : LS} {t : Int} (k : HK h st (some t)) {n : Nat} (hl : (st.q t).length ≤ n) : HK h (Go.Proofs.Ytnbkihkdfhjlmaa.goP h t n st) Option.none := fun x j r _ hq => by
  by_cases e : x = t
  · subst e
    rcases goP_own (h := h) n hl with h1 | ⟨j', r', h1, h2⟩
    · rw [h1] at hq; cases hq
    · rw [h1] at hq; cases hq; exact hit_kind h2
  · rw [goP_other e] at hq
    exact k x j r (fun h => e (Option.some.inj h)) hq
theorem HK.mono {h : List Ev} {st : LS} (k : HK h st Option.none) (ex : Option Int) : HK h st ex := fun x j r _ hq => k x j r (by simp) hq
theorem HK.next {h : List Ev} {st : LS} {t : Int} (k : HK h st (some t)) (l : List Nat) (o : Ev) : HK h (doL (setq st t l) o) (some t) := fun x j r he hq => by
  rw [doL_q, setq_q, upq_other fun e => he (by rw [e])] at hq
  exact k x j r he hq

theorem c49 {h : List Ev} {B : Nat} {w : World} {b : Nat} {st : LS} (r : RunX h B w b st) (ho : OkH h) (hlen : h.length ≤ 1000) {i : Nat} (v : LI h i st) {t : Int} (hk : HK h st (some t)) :
    Calls Try.prog 49 [.pointer (some ⟨b, 0, none⟩), .int .i64 t].toArray w fun e w' => ∃ c : Bool, e = .returned (.bool c) ∧ RunX h B w' b (goP h t (st.q t).length st) ∧ (c = false → Grew st (goP h t (st.q t).length st)) ∧ Fr (fun y => B ≤ y) w w' := by
  refine (call49 ⟨b, 0⟩ t (R := fun u w' => ∃ c : Bool, u = .bool c ∧ RunX h B w' b (goP h t (st.q t).length st) ∧ (c = false → Grew st (goP h t (st.q t).length st)) ∧ Fr (fun y => B ≤ y) w w') ?_).mono fun e w' ⟨u, he, c, hu, hx⟩ => ⟨c, by rw [he, hu], hx⟩
  refine Join.dir (LoopV.intro (fun n (c : Bool) w2 => ∃ st1, RunX h B w2 b st1 ∧ LI h i st1 ∧ HK h st1 (some t) ∧ goP h t (st1.q t).length st1 = goP h t (st.q t).length st ∧ (c = false → Grew st st1) ∧ n = (st1.q t).length ∧ Fr (fun y => B ≤ y) w w2) (st.q t).length
    ⟨st, r, v, hk, rfl, fun _ => Grew.refl st, rfl, Fr.refl _ _⟩ ?_)
  rintro n c w2 ⟨st1, r1, v1, k1, hgo, hgr, rfl, hfr⟩
  have r1X := r1
  obtain ⟨f, ms, sd, sa, bw, lw, kw, r1⟩ := r1
  have hl1 := r1.len t
  refine ⟨some bw, r1.cw, sAt lw t, lookH r1.mw t, cond_intro (fun hc => ?_) (fun hc => ?_)⟩
  rotate_left
  · have hq : st1.q t = [] := List.eq_nil_of_length_eq_zero (by simp at hc; omega)
    rw [goP_nil hq] at hgo
    rw [← hgo]
    exact ⟨c, rfl, r1X, hgr, hfr⟩
  obtain ⟨j, l, hq⟩ : ∃ j l, st1.q t = j :: l := by
    cases hq : st1.q t with
    | nil => rw [hq] at hl1; simp at hl1; rw [hl1] at hc; simp at hc
    | cons j l => exact ⟨j, l, rfl⟩
  have hoj := ho.at (v1.gd.q t j (by rw [hq]; simp)).1
  have hrg := v1.gd.range ho hq
  have hok := hoj
  unfold okOp at hok
  have hll : (st1.q t).length = l.length + 1 := by rw [hq]; rfl
  rw [hll, goP_succ hq] at hgo
  obtain ⟨p, hp, a1, a2, hr⟩ := r1.head hq
  have hdl := v1.dn_len ho
  have hal := v1.ab_len
  refine Join.dir ⟨some bw, r1.cw, sAt lw t, lookH r1.mw t, p, hp, a1, a2, (opA h j).k, by simpa [eH, hd] using rd_get (i := 1) hr rfl, ?_⟩
  refine (c76 r1 ho v1.gd (by omega) hq).mono fun e w4 ⟨d, he, hcase⟩ => ⟨d, he, ?_⟩
  rcases hcase with ⟨rfl, hh, hx4⟩ | ⟨rfl, hh, r4, hfr4⟩
  rotate_left
  · -- it is done
    rw [if_neg (by simp [hh])] at hgo
    have v4 := v1.next ho hq hh
    have hq4 : (doL (setq st1 t l) (opA h j)).q t = l := by rw [doL_q, setq_q, upq_same]
    have hfin : ∀ c' : Bool, (c' = false → c = false ∧ (opA h j).k ≤ 1) → ltC [(5, .bool)] (st1.q t).length (fun n (c : Bool) w2 => ∃ st1, RunX h B w2 b st1 ∧ LI h i st1 ∧ HK h st1 (some t) ∧ goP h t (st1.q t).length st1 = goP h t (st.q t).length st ∧ (c = false → Grew st st1) ∧ n = (st1.q t).length ∧ Fr (fun y => B ≤ y) w w2) c' w4 := fun c' hc' =>
      ⟨l.length, by omega, doL (setq st1 t l) (opA h j), r4, v4, k1.next l _, by rw [hq4]; exact hgo, fun h0 => (hgr (hc' h0).1).trans (Grew.doL (hc' h0).2 hok.2.2.1 t l), by rw [hq4], hfr.trans hfr4 fun _ _ h => h⟩
    refine Join.dir (cond_intro (fun hc1 => hfin true fun h => by cases h) (fun hc1 => hfin _ fun h0 => ⟨hc1, by simp at h0; exact h0⟩))
  -- it has to wait
  rw [if_pos hh] at hgo
  have hkk := hit_kind hh
  have k1n : HK h st1 none := k1.toNone (fun j' r' hj' => by rw [hq] at hj'; cases hj'; exact hkk) rfl
  refine (c77 (r1.ext hx4) ho v1.gd k1n t).mono fun e w6 ⟨d, he, hd1, hx6⟩ => ⟨d, he, cond_intro (fun hc1 => ?_) (fun hc1 => ?_)⟩
  rotate_left
  · rw [if_neg fun hca => by rw [hd1.2 hca] at hc1; cases hc1] at hgo
    rw [← hgo]
    exact ⟨c, rfl, r1X.ext (hx4.trans hx6), hgr, hfr.ext (hx4.trans hx6)⟩
  rw [if_pos (hd1.1 hc1)] at hgo
  have r6 := r1.ext (hx4.trans hx6)
  have hfr6 := hfr.ext (hx4.trans hx6)
  obtain ⟨s1, w7, e7, hx7, s2, w8, e8, ho8, hf8⟩ := appEv E29 r6.od ⟨t, 3, 0⟩ (by omega) r6.hB
  obtain ⟨d9, r9, f9⟩ := r6.setD hx7 hf8 ho8
  have hbB := r6.lk.base
  refine ⟨sd, r6.cd, s1, w7, e7, s2, w8, e8, d9, Let.intro fun w9 e9 => ?_⟩
  have e9 : w9 = put w8 b 12 [.slice s2.a s2.n s2.c] := e9
  rw [← e9] at r9 f9
  have hfr9 : Fr (fun y => B ≤ y) w w9 := ((hfr6.ext hx7).trans hf8 fun y _ ⟨a, ha, hy⟩ => by have := (r6.od.base ha).1; omega).trans f9 fun y _ (hy : y = b) => by omega
  obtain ⟨s3, w10, e10, hx10, s4, w11, e11, ho11, hf11⟩ : ∃ (s1 : Sl) (w1 : World), (Instr.buildSlice 24 1 [(0, .int .i64 t)].toArray).run Try.prog w9 = .ok (.slice s1.a s1.n s1.c) w1 ∧ Ext w9 w1 ∧
      ∃ (s' : Sl) (w' : World), (Builtin.append_ #[24, 24] 24 #[.slice sa.a sa.n sa.c, .slice s1.a s1.n s1.c]).run Try.prog w1 = .ok (.slice s'.a s'.n s'.c) w' ∧ Own 3 1 eI B w' s' (st1.ab ++ [t]) ∧ Fr (Bl sa) w1 w' := by
    obtain ⟨s1, w1, e1, hx1, s', w', e2, o1, f1, _⟩ := appendIntW r9.oa t (by show st1.ab.length ≤ 1000000; omega) r9.hB
    exact ⟨s1, w1, e1, hx1, s', w', e2, o1, f1⟩
  obtain ⟨d12, r12, f12⟩ := r9.setA hx10 hf11 ho11
  refine ⟨sa, r9.ca, s3, w10, e10, s4, w11, e11, d12, Let.intro fun w12 e12 => ?_⟩
  have e12 : w12 = put w11 b 13 [.slice s4.a s4.n s4.c] := e12
  rw [← e12] at r12 f12
  have hfr12 : Fr (fun y => B ≤ y) w w12 := ((hfr9.ext hx10).trans hf11 fun y _ ⟨a, ha, hy⟩ => by have := (r9.oa.base ha).1; omega).trans f12 fun y _ (hy : y = b) => by omega
  obtain ⟨w13, c13, hrun, r13, f13⟩ := r12.setQ t (l := []) (s := ⟨none, 0, 0⟩) (Tl.nil ..) fun u hu y ⟨h0, _⟩ => absurd h0 (Nat.lt_irrefl _)
  have hbw := r12.bwB
  refine ⟨some bw, r12.cw, w13, hrun, ?_⟩
  refine (c78 r13.lk (t := t) hrg.1 (st' := abortL st1 t) (doL_sh2 (o := ⟨t, 3, 0⟩) (by show (1 : Int) < 3; decide)).1 (doL_sh2 (o := ⟨t, 3, 0⟩) (by show (1 : Int) < 3; decide)).2).mono fun e w14 ⟨he, f', k14, hf', hfr14⟩ => ⟨he, true, rfl, ?_, (fun h => by cases h), ?_⟩
  · rw [← hgo]
    exact ⟨_, _, _, _, _, _, _, r13.lock k14 hf' (fun i m _ h => .inl h) hfr14 rfl rfl rfl⟩
  · exact (hfr12.trans f13 fun y _ (hy : y = bw) => by omega).trans hfr14 fun y _ hy => (r13.lk.bound hy).1
end Go.Proofs.Ytnbkihkdfhjlmaa
