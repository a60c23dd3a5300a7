/-
  Printed by a program of this session (wip/tools/vcprint.py): of each Go function the shallow form, and that the calculus comes to it, by the kernel.
-/
import Derived.Test.YtnbkihkdfhjlmaaSa
import Derived.Test.YtnbkihkdfhjlmaaProg
import Derived.KernelRfl
namespace Go.Proofs.Ytnbkihkdfhjlmaa
open Go Go.VC
set_option maxRecDepth 100000

/-- F35: (cubeb/history.History).view -/
def A35 : An := (.sq .lf (.sq .lf (.sq (.sq .lf (.bk [] (.lp [(11, .int .i64)] (.sq .lf (.sq (.cd .lf .lf) (.sq (.bk [] (.sq .lf (.sq (.sq .lf (.cj [] (.dr [0, 1, 2, 3, 4, 5, 6, 7, 8, 9, 10, 11, 12, 13, 14, 15, 16, 17, 18] [18] true none) .lf)) (.sq .lf (.cj [] (.dr [0, 1, 2, 3, 4, 5, 6, 7, 8, 9, 10, 11, 12] [] false none) .lf))))) .lf)))))) (.sq .lf .lf))))
def S35 (s0 : Sl) (R : Value → World → Prop) (w : World) : Prop :=
  Let (w.alloc (.cells (zc Try.prog 65) 65)) fun w1 => 
  Let (w1.alloc (.map #[] 0)) fun w2 => 
  Let (w2.alloc (.cells (zc Try.prog 65) 65)) fun w3 => 
  StoreOk w3 w2.heap.size 0 [(.map (some w1.heap.size)), (.int .i64 (0 : Int)), (.int .i64 (0 : Int)), (.int .i64 (0 : Int)), (.int .i64 (0 : Int)), (.int .i64 (0 : Int)), (.int .i64 (0 : Int))] 7 ∧ Let (put w3 w2.heap.size 0 [(.map (some w1.heap.size)), (.int .i64 (0 : Int)), (.int .i64 (0 : Int)), (.int .i64 (0 : Int)), (.int .i64 (0 : Int)), (.int .i64 (0 : Int)), (.int .i64 (0 : Int))]) fun w4 => 
  Calls Try.prog 55 [(.slice s0.a s0.n s0.c)].toArray w4 (fun e w5 => ∃ s9 : Sl, e = .returned (.slice s9.a s9.n s9.c) ∧
  Join [] (fun (w6 : World) => ∃ m59_0 : Option Nat, ∃ x59_1 : Int, ∃ x59_2 : Int, ∃ x59_3 : Int, ∃ x59_4 : Int, ∃ x59_5 : Int, ∃ x59_6 : Int, rd w6 w2.heap.size 0 [(.map m59_0), (.int .i64 x59_1), (.int .i64 x59_2), (.int .i64 x59_3), (.int .i64 x59_4), (.int .i64 x59_5), (.int .i64 x59_6)] ∧ StoreOk w6 w.heap.size 0 [(.map m59_0), (.int .i64 x59_1), (.int .i64 x59_2), (.int .i64 x59_3), (.int .i64 x59_4), (.int .i64 x59_5), (.int .i64 x59_6)] 7 ∧ Let (put w6 w.heap.size 0 [(.map m59_0), (.int .i64 x59_1), (.int .i64 x59_2), (.int .i64 x59_3), (.int .i64 x59_4), (.int .i64 x59_5), (.int .i64 x59_6)]) fun w7 => 
  ∃ mr2_0 : Option Nat, ∃ xr2_1 : Int, ∃ xr2_2 : Int, ∃ xr2_3 : Int, ∃ xr2_4 : Int, ∃ xr2_5 : Int, ∃ xr2_6 : Int, rd w7 w.heap.size 0 [(.map mr2_0), (.int .i64 xr2_1), (.int .i64 xr2_2), (.int .i64 xr2_3), (.int .i64 xr2_4), (.int .i64 xr2_5), (.int .i64 xr2_6)] ∧ R (.agg [(.map mr2_0), (.int .i64 xr2_1), (.int .i64 xr2_2), (.int .i64 xr2_3), (.int .i64 xr2_4), (.int .i64 xr2_5), (.int .i64 xr2_6)].toArray) w7) (fun J =>
  LoopV [(11, .int .i64)] (fun K => K (0 : Int) w5) (fun N => fun (x11 : Int) (w8 : World) =>
  cond (decide (x11 < ((s9.n : Nat) : Int))) (
  Join [] (fun (w9 : World) => N (IntKind.wrap .i64 (x11 + (1 : Int))) w9) (fun J_2 =>
  ∃ p14 : Pt, s9.a = some ⟨p14.b, p14.o, none⟩ ∧ 0 ≤ x11 ∧ x11 < ((s9.n : Nat) : Int) ∧ ∃ x15 : Int, World.cell? w8 ⟨p14.b, (p14.o + Int.toNat x11 * 1), none⟩ = some (.int .i64 x15) ∧ ∃ p18 : Pt, s0.a = some ⟨p18.b, p18.o, none⟩ ∧ 0 ≤ x11 ∧ x11 < ((s0.n : Nat) : Int) ∧ ∃ x20 : Int, World.cell? w8 ⟨p18.b, ((p18.o + Int.toNat x11 * 3) + 1), none⟩ = some (.int .i64 x20) ∧ Join [] (fun (w10 : World) => ∃ p42 : Pt, s0.a = some ⟨p42.b, p42.o, none⟩ ∧ 0 ≤ x11 ∧ x11 < ((s0.n : Nat) : Int) ∧ ∃ x44 : Int, World.cell? w10 ⟨p42.b, ((p42.o + Int.toNat x11 * 3) + 1), none⟩ = some (.int .i64 x44) ∧ Join [] (fun (w11 : World) => J_2 w11) (fun J_3 =>
  cond (x44 == (1 : Int)) (
  Let w10.drew fun w12 =>
  ∃ p48 : Pt, s0.a = some ⟨p48.b, p48.o, none⟩ ∧ 0 ≤ x11 ∧ x11 < ((s0.n : Nat) : Int) ∧ ∃ x50 : Int, World.cell? w12 ⟨p48.b, ((p48.o + Int.toNat x11 * 3) + 2), none⟩ = some (.int .i64 x50) ∧ ∃ p53 : Pt, s0.a = some ⟨p53.b, p53.o, none⟩ ∧ 0 ≤ x11 ∧ x11 < ((s0.n : Nat) : Int) ∧ ∃ x55 : Int, World.cell? w12 ⟨p53.b, ((p53.o + Int.toNat x11 * 3) + 0), none⟩ = some (.int .i64 x55) ∧ 0 ≤ x50 ∧ x50 < ((6 : Nat) : Int) ∧ StoreOk w12 w2.heap.size ((0 + 1) + Int.toNat x50 * 1) [(.int .i64 x55)] 1 ∧ Let (put w12 w2.heap.size ((0 + 1) + Int.toNat x50 * 1) [(.int .i64 x55)]) fun w13 => 
  J_3 w13) (
  J_3 w10))) (fun J_4 =>
  cond (x20 == (0 : Int)) (
  ∃ S1 : World → Prop, S1 w8.drew ∧ Let w8.drew fun w14 =>
  ∃ m23 : Option Nat, (∀ u, S1 u → World.cell? u ⟨w2.heap.size, (0 + 0), none⟩ = some (.map m23)) ∧ ∃ p26 : Pt, s0.a = some ⟨p26.b, p26.o, none⟩ ∧ 0 ≤ x11 ∧ x11 < ((s0.n : Nat) : Int) ∧ ∃ x28 : Int, (∀ u, S1 u → World.cell? u ⟨p26.b, ((p26.o + Int.toNat x11 * 3) + 0), none⟩ = some (.int .i64 x28)) ∧ ∃ m30 : Option Nat, (∀ u, S1 u → World.cell? u ⟨w2.heap.size, (0 + 0), none⟩ = some (.map m30)) ∧ ∃ p33 : Pt, s0.a = some ⟨p33.b, p33.o, none⟩ ∧ 0 ≤ x11 ∧ x11 < ((s0.n : Nat) : Int) ∧ ∃ x35 : Int, (∀ u, S1 u → World.cell? u ⟨p33.b, ((p33.o + Int.toNat x11 * 3) + 0), none⟩ = some (.int .i64 x35)) ∧ ∃ s36 : Sl, (∀ u, S1 u → Sem.run Try.prog (Instr.lookup 62 (.map m30) (.int .i64 x35) false) u = .ok (.slice s36.a s36.n s36.c) u) ∧ ∃ (s38 : Sl) (w15 : World), Sem.run Try.prog (Instr.buildSlice 24 1 [(0, (.int .i64 x15))].toArray) w14 = .ok (.slice s38.a s38.n s38.c) w15 ∧
  S1 w15 ∧ ∃ (s39 : Sl) (w16 : World), Sem.run Try.prog (Builtin.append_ #[24, 24] 24 #[(.slice s36.a s36.n s36.c), (.slice s38.a s38.n s38.c)]) w15 = .ok (.slice s39.a s39.n s39.c) w16 ∧
  S1 w16 ∧ ∃ w17 : World, Sem.run Try.prog (Instr.mapUpdate 62 (.map m23) (.int .i64 x28) (.slice s39.a s39.n s39.c)) w16 = .ok () w17 ∧
  J_4 w17) (
  J_4 w8)))) (
  J w8))))
theorem eq35 (s0 : Sl) (R : Value → World → Prop) (w : World) : funV Try.prog Try.f35 A35 [(.slice s0.a s0.n s0.c)] R w = S35 s0 R w := by kernel_rfl
theorem call35 (s0 : Sl) {R : Value → World → Prop} {w : World} (h : S35 s0 R w) : Calls Try.prog 35 [(.slice s0.a s0.n s0.c)].toArray w fun e w' => ∃ v, e = .returned v ∧ R v w' :=
  funV_calls mixed Try.func35 (an := A35) (by rw [eq35]; exact h)

/-- F38: (cubeb/history.History).serial -/
def A38 : An := (.sq .lf (.sq .lf (.sq (.sq .lf (.bk [(5, .slice)] (.lp [(5, .slice), (12, .int .i64)] (.sq .lf (.sq (.cd .lf .lf) (.sq (.bk [(5, .slice)] (.sq .lf (.sq .lf (.bk [(5, .slice)] (.lp [(5, .slice), (18, .int .i64)] (.sq .lf (.sq (.cd .lf .lf) (.sq (.bk [(5, .slice)] (.sq .lf (.sq .lf (.cj [(5, .slice)] .lf .lf)))) .lf)))))))) .lf)))))) (.sq .lf .lf))))
def S38 (s0 : Sl) (s1 : Sl) (R : Value → World → Prop) (w : World) : Prop :=
  Join [(5, .slice)] (fun (s5 : Sl) (w1 : World) => R (.slice s5.a s5.n s5.c) w1) (fun J =>
  LoopV [(5, .slice), (12, .int .i64)] (fun K => K ⟨none, 0, 0⟩ (0 : Int) w) (fun N => fun (s5_2 : Sl) (x12 : Int) (w2 : World) =>
  cond (decide (x12 < ((s1.n : Nat) : Int))) (
  Join [(5, .slice)] (fun (s5_3 : Sl) (w3 : World) => N ⟨s5_3.a, s5_3.n, s5_3.c⟩ (IntKind.wrap .i64 (x12 + (1 : Int))) w3) (fun J_2 =>
  ∃ p14 : Pt, s1.a = some ⟨p14.b, p14.o, none⟩ ∧ 0 ≤ x12 ∧ x12 < ((s1.n : Nat) : Int) ∧ ∃ x15 : Int, World.cell? w2 ⟨p14.b, (p14.o + Int.toNat x12 * 1), none⟩ = some (.int .i64 x15) ∧ Join [(5, .slice)] (fun (s5_4 : Sl) (w4 : World) => J_2 ⟨s5_4.a, s5_4.n, s5_4.c⟩ w4) (fun J_3 =>
  LoopV [(5, .slice), (18, .int .i64)] (fun K => K ⟨s5_2.a, s5_2.n, s5_2.c⟩ (0 : Int) w2) (fun N_2 => fun (s5_5 : Sl) (x18 : Int) (w5 : World) =>
  cond (decide (x18 < ((s0.n : Nat) : Int))) (
  Join [(5, .slice)] (fun (s5_6 : Sl) (w6 : World) => N_2 ⟨s5_6.a, s5_6.n, s5_6.c⟩ (IntKind.wrap .i64 (x18 + (1 : Int))) w6) (fun J_4 =>
  ∃ p20 : Pt, s0.a = some ⟨p20.b, p20.o, none⟩ ∧ 0 ≤ x18 ∧ x18 < ((s0.n : Nat) : Int) ∧ ∃ x21_0 : Int, ∃ x21_1 : Int, ∃ x21_2 : Int, rd w5 p20.b (p20.o + Int.toNat x18 * 3) [(.int .i64 x21_0), (.int .i64 x21_1), (.int .i64 x21_2)] ∧ Let (w5.alloc (.cells (zc Try.prog 38) 38)) fun w7 => 
  StoreOk w7 w5.heap.size 0 [(.int .i64 x21_0), (.int .i64 x21_1), (.int .i64 x21_2)] 3 ∧ Let (put w7 w5.heap.size 0 [(.int .i64 x21_0), (.int .i64 x21_1), (.int .i64 x21_2)]) fun w8 => 
  ∃ x23 : Int, World.cell? w8 ⟨w5.heap.size, (0 + 0), none⟩ = some (.int .i64 x23) ∧ Join [(5, .slice)] (fun (s5_7 : Sl) (w9 : World) => J_4 ⟨s5_7.a, s5_7.n, s5_7.c⟩ w9) (fun J_5 =>
  cond (x23 == x15) (
  ∃ x27_0 : Int, ∃ x27_1 : Int, ∃ x27_2 : Int, rd w8 w5.heap.size 0 [(.int .i64 x27_0), (.int .i64 x27_1), (.int .i64 x27_2)] ∧ ∃ (s28 : Sl) (w10 : World), Sem.run Try.prog (Instr.buildSlice 29 1 [(0, (.agg [(.int .i64 x27_0), (.int .i64 x27_1), (.int .i64 x27_2)].toArray))].toArray) w8 = .ok (.slice s28.a s28.n s28.c) w10 ∧
  ∃ (s29 : Sl) (w11 : World), Sem.run Try.prog (Builtin.append_ #[29, 29] 29 #[(.slice s5_5.a s5_5.n s5_5.c), (.slice s28.a s28.n s28.c)]) w10 = .ok (.slice s29.a s29.n s29.c) w11 ∧
  J_5 ⟨s29.a, s29.n, s29.c⟩ w11) (
  J_5 ⟨s5_5.a, s5_5.n, s5_5.c⟩ w8)))) (
  J_3 ⟨s5_5.a, s5_5.n, s5_5.c⟩ w5))))) (
  J ⟨s5_2.a, s5_2.n, s5_2.c⟩ w2)))
theorem eq38 (s0 : Sl) (s1 : Sl) (R : Value → World → Prop) (w : World) : funV Try.prog Try.f38 A38 [(.slice s0.a s0.n s0.c), (.slice s1.a s1.n s1.c)] R w = S38 s0 s1 R w := by kernel_rfl
theorem call38 (s0 : Sl) (s1 : Sl) {R : Value → World → Prop} {w : World} (h : S38 s0 s1 R w) : Calls Try.prog 38 [(.slice s0.a s0.n s0.c), (.slice s1.a s1.n s1.c)].toArray w fun e w' => ∃ v, e = .returned v ∧ R v w' :=
  funV_calls mixed Try.func38 (an := A38) (by rw [eq38]; exact h)

/-- F39: (cubeb/history.view).same -/
def A39 : An := (.sq .lf (.sq (.sq .lf (.bk [] (.lp [(5, .int .i64)] (.sq (.sq .lf (.cd .lf .lf)) (.sq (.bk [] (.sq .lf (.cd (.sq .lf .lf) .lf))) .lf))))) (.sq .lf .lf)))
def S39 (m0_0 : Option Nat) (x0_1 : Int) (x0_2 : Int) (x0_3 : Int) (x0_4 : Int) (x0_5 : Int) (x0_6 : Int) (m1_0 : Option Nat) (x1_1 : Int) (x1_2 : Int) (x1_3 : Int) (x1_4 : Int) (x1_5 : Int) (x1_6 : Int) (R : Value → World → Prop) (w : World) : Prop :=
  Let (w.alloc (.cells [(.map m0_0), (.int .i64 x0_1), (.int .i64 x0_2), (.int .i64 x0_3), (.int .i64 x0_4), (.int .i64 x0_5), (.int .i64 x0_6)].toArray 65)) fun w1 => 
  Let (w1.alloc (.cells [(.map m1_0), (.int .i64 x1_1), (.int .i64 x1_2), (.int .i64 x1_3), (.int .i64 x1_4), (.int .i64 x1_5), (.int .i64 x1_6)].toArray 65)) fun w2 => 
  Join [] (fun (w3 : World) => ∃ cs21 : List Value, cs21.length = 6 ∧ rd w3 w.heap.size (0 + 1) cs21 ∧ ∃ cs23 : List Value, cs23.length = 6 ∧ rd w3 w1.heap.size (0 + 1) cs23 ∧ ∃ r24 : Bool, (∀ w, Sem.run Try.prog (aggEq .eql 63 (.agg cs21.toArray) (.agg cs23.toArray)) w = .ok (.bool r24) w) ∧ R (.bool r24) w3) (fun J =>
  LoopV [(5, .int .i64)] (fun K => K (1 : Int) w2) (fun N => fun (x5 : Int) (w4 : World) =>
  cond (decide (x5 ≤ (6 : Int))) (
  Join [] (fun (w5 : World) => N (IntKind.wrap .i64 (x5 + (1 : Int))) w5) (fun J_2 =>
  ∃ m11 : Option Nat, World.cell? w4 ⟨w.heap.size, (0 + 0), none⟩ = some (.map m11) ∧ ∃ s13 : Sl, Sem.run Try.prog (Instr.lookup 62 (.map m11) (.int .i64 x5) false) w4 = .ok (.slice s13.a s13.n s13.c) w4 ∧ ∃ m15 : Option Nat, World.cell? w4 ⟨w1.heap.size, (0 + 0), none⟩ = some (.map m15) ∧ ∃ s17 : Sl, Sem.run Try.prog (Instr.lookup 62 (.map m15) (.int .i64 x5) false) w4 = .ok (.slice s17.a s17.n s17.c) w4 ∧ Calls Try.prog 16 [(.slice s13.a s13.n s13.c), (.slice s17.a s17.n s17.c)].toArray w4 (fun e w6 => ∃ b18 : Bool, e = .returned (.bool b18) ∧
  cond (!b18) (
  R (.bool false) w6) (
  J_2 w6)))) (
  J w4)))
theorem eq39 (m0_0 : Option Nat) (x0_1 : Int) (x0_2 : Int) (x0_3 : Int) (x0_4 : Int) (x0_5 : Int) (x0_6 : Int) (m1_0 : Option Nat) (x1_1 : Int) (x1_2 : Int) (x1_3 : Int) (x1_4 : Int) (x1_5 : Int) (x1_6 : Int) (R : Value → World → Prop) (w : World) : funV Try.prog Try.f39 A39 [(.agg [(.map m0_0), (.int .i64 x0_1), (.int .i64 x0_2), (.int .i64 x0_3), (.int .i64 x0_4), (.int .i64 x0_5), (.int .i64 x0_6)].toArray), (.agg [(.map m1_0), (.int .i64 x1_1), (.int .i64 x1_2), (.int .i64 x1_3), (.int .i64 x1_4), (.int .i64 x1_5), (.int .i64 x1_6)].toArray)] R w = S39 m0_0 x0_1 x0_2 x0_3 x0_4 x0_5 x0_6 m1_0 x1_1 x1_2 x1_3 x1_4 x1_5 x1_6 R w := by kernel_rfl
theorem call39 (m0_0 : Option Nat) (x0_1 : Int) (x0_2 : Int) (x0_3 : Int) (x0_4 : Int) (x0_5 : Int) (x0_6 : Int) (m1_0 : Option Nat) (x1_1 : Int) (x1_2 : Int) (x1_3 : Int) (x1_4 : Int) (x1_5 : Int) (x1_6 : Int) {R : Value → World → Prop} {w : World} (h : S39 m0_0 x0_1 x0_2 x0_3 x0_4 x0_5 x0_6 m1_0 x1_1 x1_2 x1_3 x1_4 x1_5 x1_6 R w) : Calls Try.prog 39 [(.agg [(.map m0_0), (.int .i64 x0_1), (.int .i64 x0_2), (.int .i64 x0_3), (.int .i64 x0_4), (.int .i64 x0_5), (.int .i64 x0_6)].toArray), (.agg [(.map m1_0), (.int .i64 x1_1), (.int .i64 x1_2), (.int .i64 x1_3), (.int .i64 x1_4), (.int .i64 x1_5), (.int .i64 x1_6)].toArray)].toArray w fun e w' => ∃ v, e = .returned v ∧ R v w' :=
  funV_calls mixed Try.func39 (an := A39) (by rw [eq39]; exact h)

/-- F37: cubeb/history.View$1 -/
def A37 : An := (.sq .lf (.sq (.sq .lf (.cd (.sq (.dr [0, 1, 4, 2, 3, 5, 6] [] true none) .lf) .lf)) (.sq (.sq .lf (.bk [] (.lp [(21, .int .i64)] (.sq .lf (.sq (.cd .lf .lf) (.sq (.bk [] (.sq .lf (.sq (.sq .lf (.cd .lf .lf)) (.sq .lf (.sq (.sq .lf (.cd (.sq .lf .lf) .lf)) .lf))))) .lf)))))) (.sq .lf .lf))))
def S37 (p0 : Pt) (p1 : Pt) (p2 : Pt) (p3 : Pt) (p4 : Pt) (R : Value → World → Prop) (w : World) : Prop :=
  ∃ s8 : Sl, World.cell? w ⟨p0.b, p0.o, none⟩ = some (.slice s8.a s8.n s8.c) ∧ ∃ s10 : Sl, World.cell? w ⟨p1.b, p1.o, none⟩ = some (.slice s10.a s10.n s10.c) ∧ cond (((s8.n : Nat) : Int) == ((s10.n : Nat) : Int)) (
  ∃ S1 : World → Prop, S1 w.drew ∧ Let w.drew fun w1 =>
  ∃ s13 : Sl, (∀ u, S1 u → World.cell? u ⟨p2.b, p2.o, none⟩ = some (.slice s13.a s13.n s13.c)) ∧ ∃ s14 : Sl, (∀ u, S1 u → World.cell? u ⟨p0.b, p0.o, none⟩ = some (.slice s14.a s14.n s14.c)) ∧ ∃ m17_0 : Option Nat, ∃ x17_1 : Int, ∃ x17_2 : Int, ∃ x17_3 : Int, ∃ x17_4 : Int, ∃ x17_5 : Int, ∃ x17_6 : Int, (∀ u, S1 u → rd u p3.b p3.o [(.map m17_0), (.int .i64 x17_1), (.int .i64 x17_2), (.int .i64 x17_3), (.int .i64 x17_4), (.int .i64 x17_5), (.int .i64 x17_6)]) ∧ Calls Try.prog 38 [(.slice s13.a s13.n s13.c), (.slice s14.a s14.n s14.c)].toArray w1 (fun e w2 => ∃ s15 : Sl, e = .returned (.slice s15.a s15.n s15.c) ∧
  S1 w2 ∧ Calls Try.prog 35 [(.slice s15.a s15.n s15.c)].toArray w2 (fun e_2 w3 => ∃ m16_0 : Option Nat, ∃ x16_1 : Int, ∃ x16_2 : Int, ∃ x16_3 : Int, ∃ x16_4 : Int, ∃ x16_5 : Int, ∃ x16_6 : Int, e_2 = .returned (.agg [(.map m16_0), (.int .i64 x16_1), (.int .i64 x16_2), (.int .i64 x16_3), (.int .i64 x16_4), (.int .i64 x16_5), (.int .i64 x16_6)].toArray) ∧
  S1 w3 ∧ Calls Try.prog 39 [(.agg [(.map m16_0), (.int .i64 x16_1), (.int .i64 x16_2), (.int .i64 x16_3), (.int .i64 x16_4), (.int .i64 x16_5), (.int .i64 x16_6)].toArray), (.agg [(.map m17_0), (.int .i64 x17_1), (.int .i64 x17_2), (.int .i64 x17_3), (.int .i64 x17_4), (.int .i64 x17_5), (.int .i64 x17_6)].toArray)].toArray w3 (fun e_3 w4 => ∃ b18 : Bool, e_3 = .returned (.bool b18) ∧
  S1 w4 ∧ R (.bool b18) w4)))) (
  ∃ s19 : Sl, World.cell? w ⟨p1.b, p1.o, none⟩ = some (.slice s19.a s19.n s19.c) ∧ Join [] (fun (w5 : World) => R (.bool false) w5) (fun J =>
  LoopV [(21, .int .i64)] (fun K => K (0 : Int) w) (fun N => fun (x21 : Int) (w6 : World) =>
  cond (decide (x21 < ((s19.n : Nat) : Int))) (
  Join [] (fun (w7 : World) => N (IntKind.wrap .i64 (x21 + (1 : Int))) w7) (fun J_2 =>
  ∃ p23 : Pt, s19.a = some ⟨p23.b, p23.o, none⟩ ∧ 0 ≤ x21 ∧ x21 < ((s19.n : Nat) : Int) ∧ ∃ x24 : Int, World.cell? w6 ⟨p23.b, (p23.o + Int.toNat x21 * 1), none⟩ = some (.int .i64 x24) ∧ ∃ s25 : Sl, World.cell? w6 ⟨p0.b, p0.o, none⟩ = some (.slice s25.a s25.n s25.c) ∧ Calls Try.prog 28 [(.slice s25.a s25.n s25.c), (.int .i64 x24)].toArray w6 (fun e_4 w8 => ∃ b27 : Bool, e_4 = .returned (.bool b27) ∧
  cond b27 (
  J_2 w8) (
  ∃ s28 : Sl, World.cell? w8 ⟨p0.b, p0.o, none⟩ = some (.slice s28.a s28.n s28.c) ∧ ∃ (s30 : Sl) (w9 : World), Sem.run Try.prog (Instr.buildSlice 24 1 [(0, (.int .i64 x24))].toArray) w8 = .ok (.slice s30.a s30.n s30.c) w9 ∧
  ∃ (s31 : Sl) (w10 : World), Sem.run Try.prog (Builtin.append_ #[24, 24] 24 #[(.slice s28.a s28.n s28.c), (.slice s30.a s30.n s30.c)]) w9 = .ok (.slice s31.a s31.n s31.c) w10 ∧
  StoreOk w10 p0.b p0.o [(.slice s31.a s31.n s31.c)] 1 ∧ Let (put w10 p0.b p0.o [(.slice s31.a s31.n s31.c)]) fun w11 => 
  ∃ (f32 : Nat) (c32 : List Value), World.cell? w11 ⟨p4.b, p4.o, none⟩ = some (.func (.func f32) #[] c32.toArray) ∧ (bif callable Try.prog f32 then Calls Try.prog f32 (([] : List Value) ++ c32).toArray w11 (fun e_5 w12 => ∃ b33 : Bool, e_5 = .returned (.bool b33) ∧
  cond b33 (
  R (.bool true) w12) (
  ∃ s34 : Sl, World.cell? w12 ⟨p0.b, p0.o, none⟩ = some (.slice s34.a s34.n s34.c) ∧ ∃ s35 : Sl, World.cell? w12 ⟨p0.b, p0.o, none⟩ = some (.slice s35.a s35.n s35.c) ∧ 0 ≤ (IntKind.wrap .i64 (((s35.n : Nat) : Int) - (1 : Int))) ∧ (IntKind.wrap .i64 (((s35.n : Nat) : Int) - (1 : Int))) ≤ ((s34.c : Nat) : Int) ∧ StoreOk w12 p0.b p0.o [(.slice s34.a (Int.toNat (IntKind.wrap .i64 (((s35.n : Nat) : Int) - (1 : Int)))) s34.c)] 1 ∧ Let (put w12 p0.b p0.o [(.slice s34.a (Int.toNat (IntKind.wrap .i64 (((s35.n : Nat) : Int) - (1 : Int)))) s34.c)]) fun w13 => 
  J_2 w13)) else False))))) (
  J w6))))
theorem eq37 (p0 : Pt) (p1 : Pt) (p2 : Pt) (p3 : Pt) (p4 : Pt) (R : Value → World → Prop) (w : World) : funV Try.prog Try.f37 A37 [(.pointer (some ⟨p0.b, p0.o, none⟩)), (.pointer (some ⟨p1.b, p1.o, none⟩)), (.pointer (some ⟨p2.b, p2.o, none⟩)), (.pointer (some ⟨p3.b, p3.o, none⟩)), (.pointer (some ⟨p4.b, p4.o, none⟩))] R w = S37 p0 p1 p2 p3 p4 R w := by kernel_rfl
theorem call37 (p0 : Pt) (p1 : Pt) (p2 : Pt) (p3 : Pt) (p4 : Pt) {R : Value → World → Prop} {w : World} (h : S37 p0 p1 p2 p3 p4 R w) : Calls Try.prog 37 [(.pointer (some ⟨p0.b, p0.o, none⟩)), (.pointer (some ⟨p1.b, p1.o, none⟩)), (.pointer (some ⟨p2.b, p2.o, none⟩)), (.pointer (some ⟨p3.b, p3.o, none⟩)), (.pointer (some ⟨p4.b, p4.o, none⟩))].toArray w fun e w' => ∃ v, e = .returned v ∧ R v w' :=
  funV_calls mixed Try.func37 (an := A37) (by rw [eq37]; exact h)

/-- F11: cubeb/history.View -/
def A11 : An := (.sq .lf (.sq (.sq .lf (.cd (.sq .lf .lf) .lf)) (.sq .lf (.sq .lf (.sq .lf (.sq .lf (.sq .lf (.sq (.sq .lf (.cd (.sq .lf .lf) .lf)) (.sq .lf .lf)))))))))
def S11 (s0 : Sl) (R : Value → World → Prop) (w : World) : Prop :=
  Calls Try.prog 26 [(.slice s0.a s0.n s0.c)].toArray w (fun e w1 => ∃ b10 : Bool, e = .returned (.bool b10) ∧
  cond (!b10) (
  R (.tuple [(.slice none 0 0), (.int .i64 (2 : Int))].toArray) w1) (
  Calls Try.prog 34 [(.slice s0.a s0.n s0.c)].toArray w1 (fun e_2 w2 => ∃ s13 : Sl, e_2 = .returned (.slice s13.a s13.n s13.c) ∧
  Let (w2.alloc (.cells (zc Try.prog 29) 29)) fun w3 => 
  StoreOk w3 w2.heap.size 0 [(.slice s13.a s13.n s13.c)] 1 ∧ Let (put w3 w2.heap.size 0 [(.slice s13.a s13.n s13.c)]) fun w4 => 
  ∃ s14 : Sl, World.cell? w4 ⟨w2.heap.size, 0, none⟩ = some (.slice s14.a s14.n s14.c) ∧ Calls Try.prog 35 [(.slice s14.a s14.n s14.c)].toArray w4 (fun e_3 w5 => ∃ m15_0 : Option Nat, ∃ x15_1 : Int, ∃ x15_2 : Int, ∃ x15_3 : Int, ∃ x15_4 : Int, ∃ x15_5 : Int, ∃ x15_6 : Int, e_3 = .returned (.agg [(.map m15_0), (.int .i64 x15_1), (.int .i64 x15_2), (.int .i64 x15_3), (.int .i64 x15_4), (.int .i64 x15_5), (.int .i64 x15_6)].toArray) ∧
  Calls Try.prog 36 [(.slice s0.a s0.n s0.c)].toArray w5 (fun e_4 w6 => ∃ s17 : Sl, e_4 = .returned (.slice s17.a s17.n s17.c) ∧
  Let (w6.alloc (.cells (zc Try.prog 65) 65)) fun w7 => 
  Let (w7.alloc (.cells (zc Try.prog 24) 24)) fun w8 => 
  StoreOk w8 w6.heap.size 0 [(.map m15_0), (.int .i64 x15_1), (.int .i64 x15_2), (.int .i64 x15_3), (.int .i64 x15_4), (.int .i64 x15_5), (.int .i64 x15_6)] 7 ∧ Let (put w8 w6.heap.size 0 [(.map m15_0), (.int .i64 x15_1), (.int .i64 x15_2), (.int .i64 x15_3), (.int .i64 x15_4), (.int .i64 x15_5), (.int .i64 x15_6)]) fun w9 => 
  StoreOk w9 w7.heap.size 0 [(.slice s17.a s17.n s17.c)] 1 ∧ Let (put w9 w7.heap.size 0 [(.slice s17.a s17.n s17.c)]) fun w10 => 
  ∃ (s18 : Sl) (w11 : World), Sem.run Try.prog (Instr.buildSlice 24 0 [].toArray) w10 = .ok (.slice s18.a s18.n s18.c) w11 ∧
  Let (w11.alloc (.cells (zc Try.prog 24) 24)) fun w12 => 
  StoreOk w12 w11.heap.size 0 [(.slice s18.a s18.n s18.c)] 1 ∧ Let (put w12 w11.heap.size 0 [(.slice s18.a s18.n s18.c)]) fun w13 => 
  Let (w13.alloc (.cells (zc Try.prog 32) 32)) fun w14 => 
  StoreOk w14 w13.heap.size 0 [(.func (.func 37) #[] [(.pointer (some ⟨w11.heap.size, 0, none⟩)), (.pointer (some ⟨w7.heap.size, 0, none⟩)), (.pointer (some ⟨w2.heap.size, 0, none⟩)), (.pointer (some ⟨w6.heap.size, 0, none⟩)), (.pointer (some ⟨w13.heap.size, 0, none⟩))].toArray)] 1 ∧ Let (put w14 w13.heap.size 0 [(.func (.func 37) #[] [(.pointer (some ⟨w11.heap.size, 0, none⟩)), (.pointer (some ⟨w7.heap.size, 0, none⟩)), (.pointer (some ⟨w2.heap.size, 0, none⟩)), (.pointer (some ⟨w6.heap.size, 0, none⟩)), (.pointer (some ⟨w13.heap.size, 0, none⟩))].toArray)]) fun w15 => 
  ∃ (f20 : Nat) (c20 : List Value), World.cell? w15 ⟨w13.heap.size, 0, none⟩ = some (.func (.func f20) #[] c20.toArray) ∧ (bif callable Try.prog f20 then Calls Try.prog f20 (([] : List Value) ++ c20).toArray w15 (fun e_5 w16 => ∃ b21 : Bool, e_5 = .returned (.bool b21) ∧
  cond (!b21) (
  R (.tuple [(.slice none 0 0), (.int .i64 (5 : Int))].toArray) w16) (
  ∃ s23 : Sl, World.cell? w16 ⟨w11.heap.size, 0, none⟩ = some (.slice s23.a s23.n s23.c) ∧ R (.tuple [(.slice s23.a s23.n s23.c), (.int .i64 (0 : Int))].toArray) w16)) else False))))))
theorem eq11 (s0 : Sl) (R : Value → World → Prop) (w : World) : funV Try.prog Try.f11 A11 [(.slice s0.a s0.n s0.c)] R w = S11 s0 R w := by kernel_rfl
theorem call11 (s0 : Sl) {R : Value → World → Prop} {w : World} (h : S11 s0 R w) : Calls Try.prog 11 [(.slice s0.a s0.n s0.c)].toArray w fun e w' => ∃ v, e = .returned v ∧ R v w' :=
  funV_calls mixed Try.func11 (an := A11) (by rw [eq11]; exact h)

/-- F68: cubeb/cubebref05.end -/
def A68 : An := (.sq .lf (.sq (.sq .lf (.bk [] (.lp [(11, .int .i64)] (.sq .lf (.sq (.cd .lf .lf) (.sq (.bk [] (.sq .lf (.sq (.rj [] [(25, .bool)]) (.cd (.sq .lf .lf) .lf)))) .lf)))))) (.sq .lf .lf)))
def S68 (s0 : Sl) (x1 : Int) (x2 : Int) (R : Value → World → Prop) (w : World) : Prop :=
  Join [] (fun (w1 : World) => R (.int .i64 (-1 : Int)) w1) (fun J =>
  LoopV [(11, .int .i64)] (fun K => K (0 : Int) w) (fun N => fun (x11 : Int) (w2 : World) =>
  cond (decide (x11 < ((s0.n : Nat) : Int))) (
  Join [] (fun (w3 : World) => N (IntKind.wrap .i64 (x11 + (1 : Int))) w3) (fun J_2 =>
  ∃ p14 : Pt, s0.a = some ⟨p14.b, p14.o, none⟩ ∧ 0 ≤ x11 ∧ x11 < ((s0.n : Nat) : Int) ∧ ∃ x15_0 : Int, ∃ x15_1 : Int, ∃ x15_2 : Int, rd w2 p14.b (p14.o + Int.toNat x11 * 3) [(.int .i64 x15_0), (.int .i64 x15_1), (.int .i64 x15_2)] ∧ Let (w2.alloc (.cells (zc Try.prog 37) 37)) fun w4 => 
  StoreOk w4 w2.heap.size 0 [(.int .i64 x15_0), (.int .i64 x15_1), (.int .i64 x15_2)] 3 ∧ Let (put w4 w2.heap.size 0 [(.int .i64 x15_0), (.int .i64 x15_1), (.int .i64 x15_2)]) fun w5 => 
  Join [(25, .bool)] (fun (b25 : Bool) (w6 : World) => cond b25 (
  R (.int .i64 x11) w6) (
  J_2 w6)) (fun J_3 =>
  ∃ x17 : Int, World.cell? w5 ⟨w2.heap.size, (0 + 0), none⟩ = some (.int .i64 x17) ∧ cond (x17 == x1) (∃ x22 : Int, World.cell? w5 ⟨w2.heap.size, (0 + 1), none⟩ = some (.int .i64 x22) ∧ J_3 (x22 == x2) w5) (J_3 false w5)))) (
  J w2)))
theorem eq68 (s0 : Sl) (x1 : Int) (x2 : Int) (R : Value → World → Prop) (w : World) : funV Try.prog Try.f68 A68 [(.slice s0.a s0.n s0.c), (.int .i64 x1), (.int .i64 x2)] R w = S68 s0 x1 x2 R w := by kernel_rfl
theorem call68 (s0 : Sl) (x1 : Int) (x2 : Int) {R : Value → World → Prop} {w : World} (h : S68 s0 x1 x2 R w) : Calls Try.prog 68 [(.slice s0.a s0.n s0.c), (.int .i64 x1), (.int .i64 x2)].toArray w fun e w' => ∃ v, e = .returned v ∧ R v w' :=
  funV_calls mixed Try.func68 (an := A68) (by rw [eq68]; exact h)

/-- F41: cubeb/cubebref05.committed -/
def A41 : An := (.sq .lf (.sq .lf (.sq (.sq .lf (.bk [(3, .slice)] (.lp [(3, .slice), (4, .int .i64)] (.sq (.sq .lf (.cd .lf .lf)) (.sq (.bk [(3, .slice)] (.sq .lf (.cj [(3, .slice)] .lf .lf))) .lf))))) (.sq .lf .lf))))
def S41 (s0 : Sl) (R : Value → World → Prop) (w : World) : Prop :=
  Join [(3, .slice)] (fun (s3 : Sl) (w1 : World) => R (.slice s3.a s3.n s3.c) w1) (fun J =>
  LoopV [(3, .slice), (4, .int .i64)] (fun K => K ⟨none, 0, 0⟩ (1 : Int) w) (fun N => fun (s3_2 : Sl) (x4 : Int) (w2 : World) =>
  cond (decide (x4 ≤ (6 : Int))) (
  Join [(3, .slice)] (fun (s3_3 : Sl) (w3 : World) => N ⟨s3_3.a, s3_3.n, s3_3.c⟩ (IntKind.wrap .i64 (x4 + (1 : Int))) w3) (fun J_2 =>
  Calls Try.prog 68 [(.slice s0.a s0.n s0.c), (.int .i64 x4), (.int .i64 (2 : Int))].toArray w2 (fun e w4 => ∃ x11 : Int, e = .returned (.int .i64 x11) ∧
  Join [(3, .slice)] (fun (s3_4 : Sl) (w5 : World) => J_2 ⟨s3_4.a, s3_4.n, s3_4.c⟩ w5) (fun J_3 =>
  cond (decide (x11 ≥ (0 : Int))) (
  ∃ (s15 : Sl) (w6 : World), Sem.run Try.prog (Instr.buildSlice 24 1 [(0, (.int .i64 x4))].toArray) w4 = .ok (.slice s15.a s15.n s15.c) w6 ∧
  ∃ (s16 : Sl) (w7 : World), Sem.run Try.prog (Builtin.append_ #[24, 24] 24 #[(.slice s3_2.a s3_2.n s3_2.c), (.slice s15.a s15.n s15.c)]) w6 = .ok (.slice s16.a s16.n s16.c) w7 ∧
  J_3 ⟨s16.a, s16.n, s16.c⟩ w7) (
  J_3 ⟨s3_2.a, s3_2.n, s3_2.c⟩ w4))))) (
  J ⟨s3_2.a, s3_2.n, s3_2.c⟩ w2)))
theorem eq41 (s0 : Sl) (R : Value → World → Prop) (w : World) : funV Try.prog Try.f41 A41 [(.slice s0.a s0.n s0.c)] R w = S41 s0 R w := by kernel_rfl
theorem call41 (s0 : Sl) {R : Value → World → Prop} {w : World} (h : S41 s0 R w) : Calls Try.prog 41 [(.slice s0.a s0.n s0.c)].toArray w fun e w' => ∃ v, e = .returned v ∧ R v w' :=
  funV_calls mixed Try.func41 (an := A41) (by rw [eq41]; exact h)

/-- F70: cubeb/cubebref05.part -/
def A70 : An := (.sq .lf (.sq .lf (.sq (.sq .lf (.bk [(3, .slice)] (.lp [(3, .slice), (8, .int .i64)] (.sq .lf (.sq (.cd .lf .lf) (.sq (.bk [(3, .slice)] (.sq .lf (.sq .lf (.cj [(3, .slice)] .lf .lf)))) .lf)))))) (.sq .lf .lf))))
def S70 (s0 : Sl) (R : Value → World → Prop) (w : World) : Prop :=
  Join [(3, .slice)] (fun (s3 : Sl) (w1 : World) => R (.slice s3.a s3.n s3.c) w1) (fun J =>
  LoopV [(3, .slice), (8, .int .i64)] (fun K => K ⟨none, 0, 0⟩ (0 : Int) w) (fun N => fun (s3_2 : Sl) (x8 : Int) (w2 : World) =>
  cond (decide (x8 < ((s0.n : Nat) : Int))) (
  Join [(3, .slice)] (fun (s3_3 : Sl) (w3 : World) => N ⟨s3_3.a, s3_3.n, s3_3.c⟩ (IntKind.wrap .i64 (x8 + (1 : Int))) w3) (fun J_2 =>
  ∃ p10 : Pt, s0.a = some ⟨p10.b, p10.o, none⟩ ∧ 0 ≤ x8 ∧ x8 < ((s0.n : Nat) : Int) ∧ ∃ x11_0 : Int, ∃ x11_1 : Int, ∃ x11_2 : Int, rd w2 p10.b (p10.o + Int.toNat x8 * 3) [(.int .i64 x11_0), (.int .i64 x11_1), (.int .i64 x11_2)] ∧ Let (w2.alloc (.cells (zc Try.prog 37) 37)) fun w4 => 
  StoreOk w4 w2.heap.size 0 [(.int .i64 x11_0), (.int .i64 x11_1), (.int .i64 x11_2)] 3 ∧ Let (put w4 w2.heap.size 0 [(.int .i64 x11_0), (.int .i64 x11_1), (.int .i64 x11_2)]) fun w5 => 
  ∃ x14 : Int, World.cell? w5 ⟨w2.heap.size, (0 + 0), none⟩ = some (.int .i64 x14) ∧ Calls Try.prog 68 [(.slice s0.a s0.n s0.c), (.int .i64 x14), (.int .i64 (2 : Int))].toArray w5 (fun e w6 => ∃ x15 : Int, e = .returned (.int .i64 x15) ∧
  Join [(3, .slice)] (fun (s3_4 : Sl) (w7 : World) => J_2 ⟨s3_4.a, s3_4.n, s3_4.c⟩ w7) (fun J_3 =>
  cond (decide (x15 ≥ (0 : Int))) (
  ∃ x18_0 : Int, ∃ x18_1 : Int, ∃ x18_2 : Int, rd w6 w2.heap.size 0 [(.int .i64 x18_0), (.int .i64 x18_1), (.int .i64 x18_2)] ∧ ∃ (s19 : Sl) (w8 : World), Sem.run Try.prog (Instr.buildSlice 23 1 [(0, (.agg [(.int .i64 x18_0), (.int .i64 x18_1), (.int .i64 x18_2)].toArray))].toArray) w6 = .ok (.slice s19.a s19.n s19.c) w8 ∧
  ∃ (s20 : Sl) (w9 : World), Sem.run Try.prog (Builtin.append_ #[23, 23] 23 #[(.slice s3_2.a s3_2.n s3_2.c), (.slice s19.a s19.n s19.c)]) w8 = .ok (.slice s20.a s20.n s20.c) w9 ∧
  J_3 ⟨s20.a, s20.n, s20.c⟩ w9) (
  J_3 ⟨s3_2.a, s3_2.n, s3_2.c⟩ w6))))) (
  J ⟨s3_2.a, s3_2.n, s3_2.c⟩ w2)))
theorem eq70 (s0 : Sl) (R : Value → World → Prop) (w : World) : funV Try.prog Try.f70 A70 [(.slice s0.a s0.n s0.c)] R w = S70 s0 R w := by kernel_rfl
theorem call70 (s0 : Sl) {R : Value → World → Prop} {w : World} (h : S70 s0 R w) : Calls Try.prog 70 [(.slice s0.a s0.n s0.c)].toArray w fun e w' => ∃ v, e = .returned v ∧ R v w' :=
  funV_calls mixed Try.func70 (an := A70) (by rw [eq70]; exact h)

/-- F71: cubeb/cubebref05.serial -/
def A71 : An := (.sq .lf (.sq .lf (.sq (.sq .lf (.bk [(5, .slice)] (.lp [(5, .slice), (12, .int .i64)] (.sq .lf (.sq (.cd .lf .lf) (.sq (.bk [(5, .slice)] (.sq .lf (.sq .lf (.bk [(5, .slice)] (.lp [(5, .slice), (18, .int .i64)] (.sq .lf (.sq (.cd .lf .lf) (.sq (.bk [(5, .slice)] (.sq .lf (.sq .lf (.cj [(5, .slice)] .lf .lf)))) .lf)))))))) .lf)))))) (.sq .lf .lf))))
def S71 (s0 : Sl) (s1 : Sl) (R : Value → World → Prop) (w : World) : Prop :=
  Join [(5, .slice)] (fun (s5 : Sl) (w1 : World) => R (.slice s5.a s5.n s5.c) w1) (fun J =>
  LoopV [(5, .slice), (12, .int .i64)] (fun K => K ⟨none, 0, 0⟩ (0 : Int) w) (fun N => fun (s5_2 : Sl) (x12 : Int) (w2 : World) =>
  cond (decide (x12 < ((s1.n : Nat) : Int))) (
  Join [(5, .slice)] (fun (s5_3 : Sl) (w3 : World) => N ⟨s5_3.a, s5_3.n, s5_3.c⟩ (IntKind.wrap .i64 (x12 + (1 : Int))) w3) (fun J_2 =>
  ∃ p14 : Pt, s1.a = some ⟨p14.b, p14.o, none⟩ ∧ 0 ≤ x12 ∧ x12 < ((s1.n : Nat) : Int) ∧ ∃ x15 : Int, World.cell? w2 ⟨p14.b, (p14.o + Int.toNat x12 * 1), none⟩ = some (.int .i64 x15) ∧ Join [(5, .slice)] (fun (s5_4 : Sl) (w4 : World) => J_2 ⟨s5_4.a, s5_4.n, s5_4.c⟩ w4) (fun J_3 =>
  LoopV [(5, .slice), (18, .int .i64)] (fun K => K ⟨s5_2.a, s5_2.n, s5_2.c⟩ (0 : Int) w2) (fun N_2 => fun (s5_5 : Sl) (x18 : Int) (w5 : World) =>
  cond (decide (x18 < ((s0.n : Nat) : Int))) (
  Join [(5, .slice)] (fun (s5_6 : Sl) (w6 : World) => N_2 ⟨s5_6.a, s5_6.n, s5_6.c⟩ (IntKind.wrap .i64 (x18 + (1 : Int))) w6) (fun J_4 =>
  ∃ p20 : Pt, s0.a = some ⟨p20.b, p20.o, none⟩ ∧ 0 ≤ x18 ∧ x18 < ((s0.n : Nat) : Int) ∧ ∃ x21_0 : Int, ∃ x21_1 : Int, ∃ x21_2 : Int, rd w5 p20.b (p20.o + Int.toNat x18 * 3) [(.int .i64 x21_0), (.int .i64 x21_1), (.int .i64 x21_2)] ∧ Let (w5.alloc (.cells (zc Try.prog 37) 37)) fun w7 => 
  StoreOk w7 w5.heap.size 0 [(.int .i64 x21_0), (.int .i64 x21_1), (.int .i64 x21_2)] 3 ∧ Let (put w7 w5.heap.size 0 [(.int .i64 x21_0), (.int .i64 x21_1), (.int .i64 x21_2)]) fun w8 => 
  ∃ x23 : Int, World.cell? w8 ⟨w5.heap.size, (0 + 0), none⟩ = some (.int .i64 x23) ∧ Join [(5, .slice)] (fun (s5_7 : Sl) (w9 : World) => J_4 ⟨s5_7.a, s5_7.n, s5_7.c⟩ w9) (fun J_5 =>
  cond (x23 == x15) (
  ∃ x27_0 : Int, ∃ x27_1 : Int, ∃ x27_2 : Int, rd w8 w5.heap.size 0 [(.int .i64 x27_0), (.int .i64 x27_1), (.int .i64 x27_2)] ∧ ∃ (s28 : Sl) (w10 : World), Sem.run Try.prog (Instr.buildSlice 23 1 [(0, (.agg [(.int .i64 x27_0), (.int .i64 x27_1), (.int .i64 x27_2)].toArray))].toArray) w8 = .ok (.slice s28.a s28.n s28.c) w10 ∧
  ∃ (s29 : Sl) (w11 : World), Sem.run Try.prog (Builtin.append_ #[23, 23] 23 #[(.slice s5_5.a s5_5.n s5_5.c), (.slice s28.a s28.n s28.c)]) w10 = .ok (.slice s29.a s29.n s29.c) w11 ∧
  J_5 ⟨s29.a, s29.n, s29.c⟩ w11) (
  J_5 ⟨s5_5.a, s5_5.n, s5_5.c⟩ w8)))) (
  J_3 ⟨s5_5.a, s5_5.n, s5_5.c⟩ w5))))) (
  J ⟨s5_2.a, s5_2.n, s5_2.c⟩ w2)))
theorem eq71 (s0 : Sl) (s1 : Sl) (R : Value → World → Prop) (w : World) : funV Try.prog Try.f71 A71 [(.slice s0.a s0.n s0.c), (.slice s1.a s1.n s1.c)] R w = S71 s0 s1 R w := by kernel_rfl
theorem call71 (s0 : Sl) (s1 : Sl) {R : Value → World → Prop} {w : World} (h : S71 s0 s1 R w) : Calls Try.prog 71 [(.slice s0.a s0.n s0.c), (.slice s1.a s1.n s1.c)].toArray w fun e w' => ∃ v, e = .returned v ∧ R v w' :=
  funV_calls mixed Try.func71 (an := A71) (by rw [eq71]; exact h)

/-- F92: cubeb/cubebref05.From -/
def A92 : An := (.sq .lf (.sq .lf (.sq (.sq .lf (.bk [(3, .slice)] (.lp [(3, .slice), (12, .int .i64)] (.sq .lf (.sq (.cd .lf .lf) (.sq (.bk [(3, .slice)] (.sq .lf (.sq .lf (.sq (.sq .lf (.cj [(6, .int .i64)] (.sq .lf (.sq .lf (.bk [(6, .int .i64)] (.lp [(6, .int .i64), (24, .int .i64)] (.sq .lf (.sq (.cd .lf .lf) (.sq (.bk [(6, .int .i64)] (.sq .lf (.sq (.rj [] [(37, .bool)]) (.cj [(6, .int .i64)] (.sq .lf (.sq (.rj [] [(48, .bool)]) (.cj [(6, .int .i64)] .lf .lf))) .lf)))) .lf))))))) .lf)) .lf)))) .lf)))))) (.sq .lf .lf))))
def S92 (s0 : Sl) (R : Value → World → Prop) (w : World) : Prop :=
  Join [(3, .slice)] (fun (s3 : Sl) (w1 : World) => R (.slice s3.a s3.n s3.c) w1) (fun J =>
  LoopV [(3, .slice), (12, .int .i64)] (fun K => K ⟨none, 0, 0⟩ (0 : Int) w) (fun N => fun (s3_2 : Sl) (x12 : Int) (w2 : World) =>
  cond (decide (x12 < ((s0.n : Nat) : Int))) (
  Join [(3, .slice)] (fun (s3_3 : Sl) (w3 : World) => N ⟨s3_3.a, s3_3.n, s3_3.c⟩ (IntKind.wrap .i64 (x12 + (1 : Int))) w3) (fun J_2 =>
  ∃ p15 : Pt, s0.a = some ⟨p15.b, p15.o, none⟩ ∧ 0 ≤ x12 ∧ x12 < ((s0.n : Nat) : Int) ∧ ∃ x16_0 : Int, ∃ x16_1 : Int, ∃ x16_2 : Int, rd w2 p15.b (p15.o + Int.toNat x12 * 3) [(.int .i64 x16_0), (.int .i64 x16_1), (.int .i64 x16_2)] ∧ Let (w2.alloc (.cells (zc Try.prog 37) 37)) fun w4 => 
  StoreOk w4 w2.heap.size 0 [(.int .i64 x16_0), (.int .i64 x16_1), (.int .i64 x16_2)] 3 ∧ Let (put w4 w2.heap.size 0 [(.int .i64 x16_0), (.int .i64 x16_1), (.int .i64 x16_2)]) fun w5 => 
  ∃ x18 : Int, World.cell? w5 ⟨w2.heap.size, (0 + 1), none⟩ = some (.int .i64 x18) ∧ Join [(6, .int .i64)] (fun (x6 : Int) (w6 : World) => ∃ (s54 : Sl) (w7 : World), Sem.run Try.prog (Instr.buildSlice 24 1 [(0, (.int .i64 x6))].toArray) w6 = .ok (.slice s54.a s54.n s54.c) w7 ∧
  ∃ (s55 : Sl) (w8 : World), Sem.run Try.prog (Builtin.append_ #[24, 24] 24 #[(.slice s3_2.a s3_2.n s3_2.c), (.slice s54.a s54.n s54.c)]) w7 = .ok (.slice s55.a s55.n s55.c) w8 ∧
  J_2 ⟨s55.a, s55.n, s55.c⟩ w8) (fun J_3 =>
  cond (x18 == (0 : Int)) (
  0 ≤ x12 ∧ x12 ≤ ((s0.c : Nat) : Int) ∧ Join [(6, .int .i64)] (fun (x6_2 : Int) (w9 : World) => J_3 x6_2 w9) (fun J_4 =>
  LoopV [(6, .int .i64), (24, .int .i64)] (fun K => K (0 : Int) (0 : Int) w5) (fun N_2 => fun (x6_3 : Int) (x24 : Int) (w10 : World) =>
  cond (decide (x24 < (((Int.toNat x12) : Nat) : Int))) (
  Join [(6, .int .i64)] (fun (x6_4 : Int) (w11 : World) => N_2 x6_4 (IntKind.wrap .i64 (x24 + (1 : Int))) w11) (fun J_5 =>
  ∃ p26 : Pt, s0.a = some ⟨p26.b, p26.o, none⟩ ∧ 0 ≤ x24 ∧ x24 < (((Int.toNat x12) : Nat) : Int) ∧ ∃ x27_0 : Int, ∃ x27_1 : Int, ∃ x27_2 : Int, rd w10 p26.b (p26.o + Int.toNat x24 * 3) [(.int .i64 x27_0), (.int .i64 x27_1), (.int .i64 x27_2)] ∧ Let (w10.alloc (.cells (zc Try.prog 37) 37)) fun w12 => 
  StoreOk w12 w10.heap.size 0 [(.int .i64 x27_0), (.int .i64 x27_1), (.int .i64 x27_2)] 3 ∧ Let (put w12 w10.heap.size 0 [(.int .i64 x27_0), (.int .i64 x27_1), (.int .i64 x27_2)]) fun w13 => 
  Join [(37, .bool)] (fun (b37 : Bool) (w14 : World) => Join [(6, .int .i64)] (fun (x6_5 : Int) (w15 : World) => J_5 x6_5 w15) (fun J_6 =>
  cond b37 (
  ∃ x40 : Int, World.cell? w14 ⟨w10.heap.size, (0 + 0), none⟩ = some (.int .i64 x40) ∧ Calls Try.prog 68 [(.slice s0.a s0.n s0.c), (.int .i64 x40), (.int .i64 (3 : Int))].toArray w14 (fun e w16 => ∃ x41 : Int, e = .returned (.int .i64 x41) ∧
  Join [(48, .bool)] (fun (b48 : Bool) (w17 : World) => Join [(6, .int .i64)] (fun (x6_6 : Int) (w18 : World) => J_6 x6_6 w18) (fun J_7 =>
  cond b48 (
  ∃ x50 : Int, World.cell? w17 ⟨w10.heap.size, (0 + 0), none⟩ = some (.int .i64 x50) ∧ J_7 x50 w17) (
  J_7 x6_3 w17))) (fun J_8 =>
  cond (decide (x41 < (0 : Int))) (J_8 true w16) (J_8 (decide (x41 > x12)) w16)))) (
  J_6 x6_3 w14))) (fun J_9 =>
  ∃ x29 : Int, World.cell? w13 ⟨w10.heap.size, (0 + 1), none⟩ = some (.int .i64 x29) ∧ cond (x29 == (1 : Int)) (∃ x33 : Int, World.cell? w13 ⟨w10.heap.size, (0 + 2), none⟩ = some (.int .i64 x33) ∧ ∃ x35 : Int, World.cell? w13 ⟨w2.heap.size, (0 + 2), none⟩ = some (.int .i64 x35) ∧ J_9 (x33 == x35) w13) (J_9 false w13)))) (
  J_4 x6_3 w10)))) (
  J_3 (-1 : Int) w5)))) (
  J ⟨s3_2.a, s3_2.n, s3_2.c⟩ w2)))
theorem eq92 (s0 : Sl) (R : Value → World → Prop) (w : World) : funV Try.prog Try.f92 A92 [(.slice s0.a s0.n s0.c)] R w = S92 s0 R w := by kernel_rfl
theorem call92 (s0 : Sl) {R : Value → World → Prop} {w : World} (h : S92 s0 R w) : Calls Try.prog 92 [(.slice s0.a s0.n s0.c)].toArray w fun e w' => ∃ v, e = .returned v ∧ R v w' :=
  funV_calls mixed Try.func92 (an := A92) (by rw [eq92]; exact h)

/-- F69: cubeb/cubebref05.view -/
def A69 : An := (.sq .lf (.sq .lf (.sq .lf (.sq (.sq .lf (.bk [(4, .slice)] (.lp [(4, .slice), (5, .int .i64)] (.sq (.sq .lf (.cd .lf .lf)) (.sq (.bk [(4, .slice)] (.sq .lf (.bk [(4, .slice)] (.lp [(4, .slice), (19, .int .i64)] (.sq .lf (.sq (.cd .lf .lf) (.sq (.bk [(4, .slice)] (.sq .lf (.sq (.rj [] [(32, .bool)]) (.cj [(4, .slice)] .lf .lf)))) .lf))))))) .lf))))) (.sq .lf (.sq (.sq .lf (.bk [] (.lp [(43, .int .i64)] (.sq .lf (.sq (.cd .lf .lf) (.sq (.bk [] (.sq .lf (.sq .lf (.cj [] .lf .lf)))) .lf)))))) (.sq .lf .lf)))))))
def S69 (s0 : Sl) (R : Value → World → Prop) (w : World) : Prop :=
  Calls Try.prog 92 [(.slice s0.a s0.n s0.c)].toArray w (fun e w1 => ∃ s12 : Sl, e = .returned (.slice s12.a s12.n s12.c) ∧
  Join [(4, .slice)] (fun (s4 : Sl) (w2 : World) => Let (w2.alloc (.cells (zc Try.prog 63) 63)) fun w3 => 
  Join [] (fun (w4 : World) => ∃ (s58 : Sl) (w5 : World), Sem.run Try.prog (Builtin.append_ #[24, 24] 24 #[(.slice s4.a s4.n s4.c), (.slice (some ⟨w2.heap.size, 0, none⟩) 6 6)]) w4 = .ok (.slice s58.a s58.n s58.c) w5 ∧
  R (.slice s58.a s58.n s58.c) w5) (fun J =>
  LoopV [(43, .int .i64)] (fun K => K (0 : Int) w3) (fun N => fun (x43 : Int) (w6 : World) =>
  cond (decide (x43 < ((s0.n : Nat) : Int))) (
  Join [] (fun (w7 : World) => N (IntKind.wrap .i64 (x43 + (1 : Int))) w7) (fun J_2 =>
  ∃ p45 : Pt, s0.a = some ⟨p45.b, p45.o, none⟩ ∧ 0 ≤ x43 ∧ x43 < ((s0.n : Nat) : Int) ∧ ∃ x46_0 : Int, ∃ x46_1 : Int, ∃ x46_2 : Int, rd w6 p45.b (p45.o + Int.toNat x43 * 3) [(.int .i64 x46_0), (.int .i64 x46_1), (.int .i64 x46_2)] ∧ Let (w6.alloc (.cells (zc Try.prog 37) 37)) fun w8 => 
  StoreOk w8 w6.heap.size 0 [(.int .i64 x46_0), (.int .i64 x46_1), (.int .i64 x46_2)] 3 ∧ Let (put w8 w6.heap.size 0 [(.int .i64 x46_0), (.int .i64 x46_1), (.int .i64 x46_2)]) fun w9 => 
  ∃ x48 : Int, World.cell? w9 ⟨w6.heap.size, (0 + 1), none⟩ = some (.int .i64 x48) ∧ Join [] (fun (w10 : World) => J_2 w10) (fun J_3 =>
  cond (x48 == (1 : Int)) (
  ∃ x51 : Int, World.cell? w9 ⟨w6.heap.size, (0 + 2), none⟩ = some (.int .i64 x51) ∧ ∃ x53 : Int, World.cell? w9 ⟨w6.heap.size, (0 + 0), none⟩ = some (.int .i64 x53) ∧ 0 ≤ x51 ∧ x51 < ((6 : Nat) : Int) ∧ StoreOk w9 w2.heap.size (0 + Int.toNat x51 * 1) [(.int .i64 x53)] 1 ∧ Let (put w9 w2.heap.size (0 + Int.toNat x51 * 1) [(.int .i64 x53)]) fun w11 => 
  J_3 w11) (
  J_3 w9)))) (
  J w6)))) (fun J_4 =>
  LoopV [(4, .slice), (5, .int .i64)] (fun K => K ⟨none, 0, 0⟩ (1 : Int) w1) (fun N_2 => fun (s4_2 : Sl) (x5 : Int) (w12 : World) =>
  cond (decide (x5 ≤ (6 : Int))) (
  Join [(4, .slice)] (fun (s4_3 : Sl) (w13 : World) => N_2 ⟨s4_3.a, s4_3.n, s4_3.c⟩ (IntKind.wrap .i64 (x5 + (1 : Int))) w13) (fun J_5 =>
  Join [(4, .slice)] (fun (s4_4 : Sl) (w14 : World) => J_5 ⟨s4_4.a, s4_4.n, s4_4.c⟩ w14) (fun J_6 =>
  LoopV [(4, .slice), (19, .int .i64)] (fun K => K ⟨s4_2.a, s4_2.n, s4_2.c⟩ (0 : Int) w12) (fun N_3 => fun (s4_5 : Sl) (x19 : Int) (w15 : World) =>
  cond (decide (x19 < ((s0.n : Nat) : Int))) (
  Join [(4, .slice)] (fun (s4_6 : Sl) (w16 : World) => N_3 ⟨s4_6.a, s4_6.n, s4_6.c⟩ (IntKind.wrap .i64 (x19 + (1 : Int))) w16) (fun J_7 =>
  ∃ p22 : Pt, s0.a = some ⟨p22.b, p22.o, none⟩ ∧ 0 ≤ x19 ∧ x19 < ((s0.n : Nat) : Int) ∧ ∃ x23_0 : Int, ∃ x23_1 : Int, ∃ x23_2 : Int, rd w15 p22.b (p22.o + Int.toNat x19 * 3) [(.int .i64 x23_0), (.int .i64 x23_1), (.int .i64 x23_2)] ∧ Let (w15.alloc (.cells (zc Try.prog 37) 37)) fun w17 => 
  StoreOk w17 w15.heap.size 0 [(.int .i64 x23_0), (.int .i64 x23_1), (.int .i64 x23_2)] 3 ∧ Let (put w17 w15.heap.size 0 [(.int .i64 x23_0), (.int .i64 x23_1), (.int .i64 x23_2)]) fun w18 => 
  Join [(32, .bool)] (fun (b32 : Bool) (w19 : World) => Join [(4, .slice)] (fun (s4_7 : Sl) (w20 : World) => J_7 ⟨s4_7.a, s4_7.n, s4_7.c⟩ w20) (fun J_8 =>
  cond b32 (
  ∃ p36 : Pt, s12.a = some ⟨p36.b, p36.o, none⟩ ∧ 0 ≤ x19 ∧ x19 < ((s12.n : Nat) : Int) ∧ ∃ x37 : Int, World.cell? w19 ⟨p36.b, (p36.o + Int.toNat x19 * 1), none⟩ = some (.int .i64 x37) ∧ ∃ (s38 : Sl) (w21 : World), Sem.run Try.prog (Instr.buildSlice 24 1 [(0, (.int .i64 x37))].toArray) w19 = .ok (.slice s38.a s38.n s38.c) w21 ∧
  ∃ (s39 : Sl) (w22 : World), Sem.run Try.prog (Builtin.append_ #[24, 24] 24 #[(.slice s4_5.a s4_5.n s4_5.c), (.slice s38.a s38.n s38.c)]) w21 = .ok (.slice s39.a s39.n s39.c) w22 ∧
  J_8 ⟨s39.a, s39.n, s39.c⟩ w22) (
  J_8 ⟨s4_5.a, s4_5.n, s4_5.c⟩ w19))) (fun J_9 =>
  ∃ x25 : Int, World.cell? w18 ⟨w15.heap.size, (0 + 0), none⟩ = some (.int .i64 x25) ∧ cond (x25 == x5) (∃ x30 : Int, World.cell? w18 ⟨w15.heap.size, (0 + 1), none⟩ = some (.int .i64 x30) ∧ J_9 (x30 == (0 : Int)) w18) (J_9 false w18)))) (
  J_6 ⟨s4_5.a, s4_5.n, s4_5.c⟩ w15))))) (
  J_4 ⟨s4_2.a, s4_2.n, s4_2.c⟩ w12))))
theorem eq69 (s0 : Sl) (R : Value → World → Prop) (w : World) : funV Try.prog Try.f69 A69 [(.slice s0.a s0.n s0.c)] R w = S69 s0 R w := by kernel_rfl
theorem call69 (s0 : Sl) {R : Value → World → Prop} {w : World} (h : S69 s0 R w) : Calls Try.prog 69 [(.slice s0.a s0.n s0.c)].toArray w fun e w' => ∃ v, e = .returned v ∧ R v w' :=
  funV_calls mixed Try.func69 (an := A69) (by rw [eq69]; exact h)

/-- F42: cubeb/cubebref05.Seen -/
def A42 : An := (.sq .lf (.sq .lf (.sq (.sq .lf (.bk [] (.lp [(18, .int .i64)] (.sq .lf (.sq (.cd .lf .lf) (.sq (.bk [] (.sq .lf (.sq .lf (.cd (.sq .lf .lf) .lf)))) .lf)))))) (.sq .lf .lf))))
def S42 (s0 : Sl) (s1 : Sl) (R : Value → World → Prop) (w : World) : Prop :=
  Calls Try.prog 70 [(.slice s0.a s0.n s0.c)].toArray w (fun e w1 => ∃ s10 : Sl, e = .returned (.slice s10.a s10.n s10.c) ∧
  Calls Try.prog 69 [(.slice s10.a s10.n s10.c)].toArray w1 (fun e_2 w2 => ∃ s11 : Sl, e_2 = .returned (.slice s11.a s11.n s11.c) ∧
  Calls Try.prog 71 [(.slice s0.a s0.n s0.c), (.slice s1.a s1.n s1.c)].toArray w2 (fun e_3 w3 => ∃ s14 : Sl, e_3 = .returned (.slice s14.a s14.n s14.c) ∧
  Calls Try.prog 69 [(.slice s14.a s14.n s14.c)].toArray w3 (fun e_4 w4 => ∃ s15 : Sl, e_4 = .returned (.slice s15.a s15.n s15.c) ∧
  Join [] (fun (w5 : World) => R (.bool true) w5) (fun J =>
  LoopV [(18, .int .i64)] (fun K => K (0 : Int) w4) (fun N => fun (x18 : Int) (w6 : World) =>
  cond (decide (x18 < ((s11.n : Nat) : Int))) (
  Join [] (fun (w7 : World) => N (IntKind.wrap .i64 (x18 + (1 : Int))) w7) (fun J_2 =>
  ∃ p21 : Pt, s11.a = some ⟨p21.b, p21.o, none⟩ ∧ 0 ≤ x18 ∧ x18 < ((s11.n : Nat) : Int) ∧ ∃ x22 : Int, World.cell? w6 ⟨p21.b, (p21.o + Int.toNat x18 * 1), none⟩ = some (.int .i64 x22) ∧ ∃ p25 : Pt, s15.a = some ⟨p25.b, p25.o, none⟩ ∧ 0 ≤ x18 ∧ x18 < ((s15.n : Nat) : Int) ∧ ∃ x26 : Int, World.cell? w6 ⟨p25.b, (p25.o + Int.toNat x18 * 1), none⟩ = some (.int .i64 x26) ∧ cond (x26 != x22) (
  R (.bool false) w6) (
  J_2 w6))) (
  J w6)))))))
theorem eq42 (s0 : Sl) (s1 : Sl) (R : Value → World → Prop) (w : World) : funV Try.prog Try.f42 A42 [(.slice s0.a s0.n s0.c), (.slice s1.a s1.n s1.c)] R w = S42 s0 s1 R w := by kernel_rfl
theorem call42 (s0 : Sl) (s1 : Sl) {R : Value → World → Prop} {w : World} (h : S42 s0 s1 R w) : Calls Try.prog 42 [(.slice s0.a s0.n s0.c), (.slice s1.a s1.n s1.c)].toArray w fun e w' => ∃ v, e = .returned v ∧ R v w' :=
  funV_calls mixed Try.func42 (an := A42) (by rw [eq42]; exact h)

/-- F40: cubeb/cubebref05.perms -/
def A40 : An := (.sq .lf (.sq (.sq .lf (.cd (.sq .lf .lf) .lf)) (.sq .lf (.sq (.sq .lf (.bk [(3, .slice)] (.lp [(3, .slice), (15, .int .i64)] (.sq .lf (.sq (.cd .lf .lf) (.sq (.bk [(3, .slice)] (.sq .lf (.sq (.dr [1, 2, 3, 5, 6, 7, 8, 0, 4, 9, 10] [] false none) (.sq .lf (.bk [(3, .slice)] (.lp [(3, .slice), (33, .int .i64)] (.sq .lf (.sq (.cd .lf .lf) (.sq (.bk [(3, .slice)] (.sq .lf .lf)) .lf))))))))) .lf)))))) (.sq .lf .lf)))))
def S40 (s0 : Sl) (R : Value → World → Prop) (w : World) : Prop :=
  cond (((s0.n : Nat) : Int) == (0 : Int)) (
  ∃ (s12 : Sl) (w1 : World), Sem.run Try.prog (Instr.buildSlice 70 1 [(0, (.slice none 0 0))].toArray) w = .ok (.slice s12.a s12.n s12.c) w1 ∧
  R (.slice s12.a s12.n s12.c) w1) (
  Join [(3, .slice)] (fun (s3 : Sl) (w2 : World) => R (.slice s3.a s3.n s3.c) w2) (fun J =>
  LoopV [(3, .slice), (15, .int .i64)] (fun K => K ⟨none, 0, 0⟩ (0 : Int) w) (fun N => fun (s3_2 : Sl) (x15 : Int) (w3 : World) =>
  cond (decide (x15 < ((s0.n : Nat) : Int))) (
  Join [(3, .slice)] (fun (s3_3 : Sl) (w4 : World) => N ⟨s3_3.a, s3_3.n, s3_3.c⟩ (IntKind.wrap .i64 (x15 + (1 : Int))) w4) (fun J_2 =>
  ∃ p18 : Pt, s0.a = some ⟨p18.b, p18.o, none⟩ ∧ 0 ≤ x15 ∧ x15 < ((s0.n : Nat) : Int) ∧ ∃ x19 : Int, World.cell? w3 ⟨p18.b, (p18.o + Int.toNat x15 * 1), none⟩ = some (.int .i64 x19) ∧ Let w3.drew fun w5 =>
  0 ≤ x15 ∧ x15 ≤ ((s0.c : Nat) : Int) ∧ 0 ≤ (IntKind.wrap .i64 (x15 + (1 : Int))) ∧ (IntKind.wrap .i64 (x15 + (1 : Int))) ≤ ((s0.n : Nat) : Int) ∧ ∃ (s20 : Sl) (w6 : World), Sem.run Try.prog (Instr.buildSlice 24 0 [].toArray) w5 = .ok (.slice s20.a s20.n s20.c) w6 ∧
  ∃ (s24 : Sl) (w7 : World), Sem.run Try.prog (Builtin.append_ #[24, 24] 24 #[(.slice s20.a s20.n s20.c), (.slice s0.a (Int.toNat x15) s0.c)]) w6 = .ok (.slice s24.a s24.n s24.c) w7 ∧
  ∃ (s29 : Sl) (w8 : World), Sem.run Try.prog (Builtin.append_ #[24, 24] 24 #[(.slice s24.a s24.n s24.c), (.slice (subA s0.a s0.c (Int.toNat (IntKind.wrap .i64 (x15 + (1 : Int)))) 1) (s0.n - (Int.toNat (IntKind.wrap .i64 (x15 + (1 : Int))))) (s0.c - (Int.toNat (IntKind.wrap .i64 (x15 + (1 : Int))))))]) w7 = .ok (.slice s29.a s29.n s29.c) w8 ∧
  Calls Try.prog 40 [(.slice s29.a s29.n s29.c)].toArray w8 (fun e w9 => ∃ s31 : Sl, e = .returned (.slice s31.a s31.n s31.c) ∧
  Join [(3, .slice)] (fun (s3_4 : Sl) (w10 : World) => J_2 ⟨s3_4.a, s3_4.n, s3_4.c⟩ w10) (fun J_3 =>
  LoopV [(3, .slice), (33, .int .i64)] (fun K => K ⟨s3_2.a, s3_2.n, s3_2.c⟩ (0 : Int) w9) (fun N_2 => fun (s3_5 : Sl) (x33 : Int) (w11 : World) =>
  cond (decide (x33 < ((s31.n : Nat) : Int))) (
  Join [(3, .slice)] (fun (s3_6 : Sl) (w12 : World) => N_2 ⟨s3_6.a, s3_6.n, s3_6.c⟩ (IntKind.wrap .i64 (x33 + (1 : Int))) w12) (fun J_4 =>
  ∃ p35 : Pt, s31.a = some ⟨p35.b, p35.o, none⟩ ∧ 0 ≤ x33 ∧ x33 < ((s31.n : Nat) : Int) ∧ ∃ s36 : Sl, World.cell? w11 ⟨p35.b, (p35.o + Int.toNat x33 * 1), none⟩ = some (.slice s36.a s36.n s36.c) ∧ ∃ (s39 : Sl) (w13 : World), Sem.run Try.prog (Instr.buildSlice 24 1 [(0, (.int .i64 x19))].toArray) w11 = .ok (.slice s39.a s39.n s39.c) w13 ∧
  ∃ (s41 : Sl) (w14 : World), Sem.run Try.prog (Builtin.append_ #[24, 24] 24 #[(.slice s39.a s39.n s39.c), (.slice s36.a s36.n s36.c)]) w13 = .ok (.slice s41.a s41.n s41.c) w14 ∧
  ∃ (s42 : Sl) (w15 : World), Sem.run Try.prog (Instr.buildSlice 70 1 [(0, (.slice s41.a s41.n s41.c))].toArray) w14 = .ok (.slice s42.a s42.n s42.c) w15 ∧
  ∃ (s43 : Sl) (w16 : World), Sem.run Try.prog (Builtin.append_ #[70, 70] 70 #[(.slice s3_5.a s3_5.n s3_5.c), (.slice s42.a s42.n s42.c)]) w15 = .ok (.slice s43.a s43.n s43.c) w16 ∧
  J_4 ⟨s43.a, s43.n, s43.c⟩ w16)) (
  J_3 ⟨s3_5.a, s3_5.n, s3_5.c⟩ w11)))))) (
  J ⟨s3_2.a, s3_2.n, s3_2.c⟩ w3))))
theorem eq40 (s0 : Sl) (R : Value → World → Prop) (w : World) : funV Try.prog Try.f40 A40 [(.slice s0.a s0.n s0.c)] R w = S40 s0 R w := by kernel_rfl
theorem call40 (s0 : Sl) {R : Value → World → Prop} {w : World} (h : S40 s0 R w) : Calls Try.prog 40 [(.slice s0.a s0.n s0.c)].toArray w fun e w' => ∃ v, e = .returned v ∧ R v w' :=
  funV_calls mixed Try.func40 (an := A40) (by rw [eq40]; exact h)

/-- F15: cubeb/cubebref05.View -/
def A15 : An := (.sq .lf (.sq (.sq .lf (.bk [] (.lp [(10, .int .i64)] (.sq .lf (.sq (.cd .lf .lf) (.sq (.bk [] (.sq .lf (.sq .lf (.cd (.sq .lf .lf) .lf)))) .lf)))))) (.sq .lf .lf)))
def S15 (s0 : Sl) (R : Value → World → Prop) (w : World) : Prop :=
  Calls Try.prog 41 [(.slice s0.a s0.n s0.c)].toArray w (fun e w1 => ∃ s7 : Sl, e = .returned (.slice s7.a s7.n s7.c) ∧
  Calls Try.prog 40 [(.slice s7.a s7.n s7.c)].toArray w1 (fun e_2 w2 => ∃ s8 : Sl, e_2 = .returned (.slice s8.a s8.n s8.c) ∧
  Join [] (fun (w3 : World) => R (.tuple [(.slice none 0 0), (.int .i64 (5 : Int))].toArray) w3) (fun J =>
  LoopV [(10, .int .i64)] (fun K => K (0 : Int) w2) (fun N => fun (x10 : Int) (w4 : World) =>
  cond (decide (x10 < ((s8.n : Nat) : Int))) (
  Join [] (fun (w5 : World) => N (IntKind.wrap .i64 (x10 + (1 : Int))) w5) (fun J_2 =>
  ∃ p12 : Pt, s8.a = some ⟨p12.b, p12.o, none⟩ ∧ 0 ≤ x10 ∧ x10 < ((s8.n : Nat) : Int) ∧ ∃ s13 : Sl, World.cell? w4 ⟨p12.b, (p12.o + Int.toNat x10 * 1), none⟩ = some (.slice s13.a s13.n s13.c) ∧ Calls Try.prog 42 [(.slice s0.a s0.n s0.c), (.slice s13.a s13.n s13.c)].toArray w4 (fun e_3 w6 => ∃ b16 : Bool, e_3 = .returned (.bool b16) ∧
  cond b16 (
  R (.tuple [(.slice s13.a s13.n s13.c), (.int .i64 (0 : Int))].toArray) w6) (
  J_2 w6)))) (
  J w4)))))
theorem eq15 (s0 : Sl) (R : Value → World → Prop) (w : World) : funV Try.prog Try.f15 A15 [(.slice s0.a s0.n s0.c)] R w = S15 s0 R w := by kernel_rfl
theorem call15 (s0 : Sl) {R : Value → World → Prop} {w : World} (h : S15 s0 R w) : Calls Try.prog 15 [(.slice s0.a s0.n s0.c)].toArray w fun e w' => ∃ v, e = .returned v ∧ R v w' :=
  funV_calls mixed Try.func15 (an := A15) (by rw [eq15]; exact h)

/-- F3: cubeb/cubeblaw05.HistoryViews -/
def A3 : An := (.sq .lf (.sq .lf (.sq (.sq .lf (.cd (.sq (.rj [] [(2, .bool)]) .lf) .lf)) (.sq .lf (.sq (.rj [] [(2, .bool)]) .lf)))))
def S3 (s0 : Sl) (R : Value → World → Prop) (w : World) : Prop :=
  Calls Try.prog 12 [(.slice s0.a s0.n s0.c)].toArray w (fun e w1 => ∃ s9 : Sl, e = .returned (.slice s9.a s9.n s9.c) ∧
  Calls Try.prog 11 [(.slice s9.a s9.n s9.c)].toArray w1 (fun e_2 w2 => ∃ s10_0 : Sl, ∃ x10_1 : Int, e_2 = .returned (.tuple [(.slice s10_0.a s10_0.n s10_0.c), (.int .i64 x10_1)].toArray) ∧
  Calls Try.prog 13 [(.slice s0.a s0.n s0.c)].toArray w2 (fun e_3 w3 => ∃ b14 : Bool, e_3 = .returned (.bool b14) ∧
  cond (!b14) (
  Join [(2, .bool)] (fun (b2 : Bool) (w4 : World) => R (.bool b2) w4) (fun J =>
  cond (((s10_0.n : Nat) : Int) == (0 : Int)) (cond (x10_1 == (2 : Int)) (Calls Try.prog 14 [].toArray w3 (fun e_4 w5 => ∃ b24 : Bool, e_4 = .returned (.bool b24) ∧
  J b24 w5)) (J false w3)) (J false w3))) (
  Calls Try.prog 15 [(.slice s0.a s0.n s0.c)].toArray w3 (fun e_5 w6 => ∃ s28_0 : Sl, ∃ x28_1 : Int, e_5 = .returned (.tuple [(.slice s28_0.a s28_0.n s28_0.c), (.int .i64 x28_1)].toArray) ∧
  Join [(2, .bool)] (fun (b2_2 : Bool) (w7 : World) => R (.bool b2_2) w7) (fun J_2 =>
  Calls Try.prog 16 [(.slice s10_0.a s10_0.n s10_0.c), (.slice s28_0.a s28_0.n s28_0.c)].toArray w6 (fun e_6 w8 => ∃ b33 : Bool, e_6 = .returned (.bool b33) ∧
  cond b33 (cond (x10_1 == x28_1) (Calls Try.prog 14 [].toArray w8 (fun e_7 w9 => ∃ b40 : Bool, e_7 = .returned (.bool b40) ∧
  J_2 b40 w9)) (J_2 false w8)) (J_2 false w8))))))))
theorem eq3 (s0 : Sl) (R : Value → World → Prop) (w : World) : funV Try.prog Try.f3 A3 [(.slice s0.a s0.n s0.c)] R w = S3 s0 R w := by kernel_rfl
theorem call3 (s0 : Sl) {R : Value → World → Prop} {w : World} (h : S3 s0 R w) : Calls Try.prog 3 [(.slice s0.a s0.n s0.c)].toArray w fun e w' => ∃ v, e = .returned v ∧ R v w' :=
  funV_calls mixed Try.func3 (an := A3) (by rw [eq3]; exact h)

end Go.Proofs.Ytnbkihkdfhjlmaa
