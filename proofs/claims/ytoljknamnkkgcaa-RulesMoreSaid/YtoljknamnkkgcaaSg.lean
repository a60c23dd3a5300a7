/-
  Printed by a program of this session (wip/tools/vcprint.py): of each Go function the shallow form, and that the calculus comes to it, by the kernel.
-/
import Derived.Test.YtoljknamnkkgcaaSd
import Derived.Test.YtoljknamnkkgcaaProg
import Derived.KernelRfl
namespace Go.Proofs.Ytoljknamnkkgcaa
open Go Go.VC
set_option maxRecDepth 100000

/-- F4: cubeb/cubeblaw03.RulesMore -/
def An4 : An := (.sq .lf (.sq (.sq (.rj [] [(21, .bool)]) (.cd (.sq .lf .lf) .lf)) (.sq .lf (.sq (.dr [0, 2, 4, 1, 3, 5, 6, 7, 8, 9, 10, 11, 12, 13] [5] true none) (.sq (.sq (.rj [] [(48, .bool)]) (.cd (.sq (.rj [] [(6, .bool)]) .lf) .lf)) (.sq (.sq .lf (.bk [] (.lp [(60, .int .i64)] (.sq .lf (.sq (.cd .lf .lf) (.sq (.bk [] (.sq .lf (.sq .lf (.cd (.sq .lf .lf) .lf)))) .lf)))))) (.sq (.rj [] [(6, .bool)]) .lf)))))))
def S4 (s0 : Sl) (s1 : Sl) (x2_0 : Int) (s2_1 : Sl) (R : Value → World → Prop) (w : World) : Prop :=
  Let (w.alloc (.cells [(.int .i64 x2_0), (.slice s2_1.a s2_1.n s2_1.c)].toArray 36)) fun w1 => 
  Join [(21, .bool)] (fun (b21 : Bool) (w2 : World) => cond b21 (
  Calls Try.prog 20 [].toArray w2 (fun e w3 => ∃ b22 : Bool, e = .returned (.bool b22) ∧
  R (.bool b22) w3)) (
  Calls Try.prog 17 [(.slice s0.a s0.n s0.c)].toArray w2 (fun e_2 w4 => ∃ s25 : Sl, e_2 = .returned (.slice s25.a s25.n s25.c) ∧
  Calls Try.prog 18 [(.slice s1.a s1.n s1.c)].toArray w4 (fun e_3 w5 => ∃ s27 : Sl, e_3 = .returned (.slice s27.a s27.n s27.c) ∧
  Calls Try.prog 16 [(.slice s25.a s25.n s25.c), (.slice s27.a s27.n s27.c)].toArray w5 (fun e_4 w6 => ∃ s28_0 : Sl, ∃ x28_1 : Int, e_4 = .returned (.tuple [(.slice s28_0.a s28_0.n s28_0.c), (.int .i64 x28_1)].toArray) ∧
  ∃ S1 : World → Prop, S1 w6.drew ∧ Let w6.drew fun w7 =>
  ∃ x36_0 : Int, ∃ s36_1 : Sl, (∀ u, S1 u → rd u w.heap.size 0 [(.int .i64 x36_0), (.slice s36_1.a s36_1.n s36_1.c)]) ∧ Calls Try.prog 17 [(.slice s0.a s0.n s0.c)].toArray w7 (fun e_5 w8 => ∃ s33 : Sl, e_5 = .returned (.slice s33.a s33.n s33.c) ∧
  S1 w8 ∧ Calls Try.prog 18 [(.slice s1.a s1.n s1.c)].toArray w8 (fun e_6 w9 => ∃ s35 : Sl, e_6 = .returned (.slice s35.a s35.n s35.c) ∧
  S1 w9 ∧ Calls Try.prog 23 [(.agg [(.int .i64 x36_0), (.slice s36_1.a s36_1.n s36_1.c)].toArray)].toArray w9 (fun e_7 w10 => ∃ x37_0 : Int, ∃ s37_1 : Sl, e_7 = .returned (.agg [(.int .i64 x37_0), (.slice s37_1.a s37_1.n s37_1.c)].toArray) ∧
  ∃ (s38 : Sl) (w11 : World), Sem.run Try.prog (Instr.buildSlice 23 1 [(0, (.agg [(.int .i64 x37_0), (.slice s37_1.a s37_1.n s37_1.c)].toArray))].toArray) w10 = .ok (.slice s38.a s38.n s38.c) w11 ∧
  S1 w11 ∧ ∃ (s39 : Sl) (w12 : World), Sem.run Try.prog (Builtin.append_ #[23, 23] 23 #[(.slice s35.a s35.n s35.c), (.slice s38.a s38.n s38.c)]) w11 = .ok (.slice s39.a s39.n s39.c) w12 ∧
  S1 w12 ∧ Calls Try.prog 16 [(.slice s33.a s33.n s33.c), (.slice s39.a s39.n s39.c)].toArray w12 (fun e_8 w13 => ∃ s40_0 : Sl, ∃ x40_1 : Int, e_8 = .returned (.tuple [(.slice s40_0.a s40_0.n s40_0.c), (.int .i64 x40_1)].toArray) ∧
  S1 w13 ∧ Join [(48, .bool)] (fun (b48 : Bool) (w14 : World) => cond b48 (
  Join [(6, .bool)] (fun (b6 : Bool) (w15 : World) => R (.bool b6) w15) (fun J =>
  cond (x28_1 == (0 : Int)) (cond (x40_1 == (2 : Int)) (Calls Try.prog 20 [].toArray w14 (fun e_9 w16 => ∃ b56 : Bool, e_9 = .returned (.bool b56) ∧
  J b56 w16)) (J false w14)) (J false w14))) (
  Join [] (fun (w17 : World) => Join [(6, .bool)] (fun (b6_2 : Bool) (w18 : World) => R (.bool b6_2) w18) (fun J_2 =>
  ∃ x70_0 : Int, ∃ s70_1 : Sl, rd w17 w.heap.size 0 [(.int .i64 x70_0), (.slice s70_1.a s70_1.n s70_1.c)] ∧ Calls Try.prog 24 [(.slice s40_0.a s40_0.n s40_0.c), (.agg [(.int .i64 x70_0), (.slice s70_1.a s70_1.n s70_1.c)].toArray)].toArray w17 (fun e_10 w19 => ∃ b71 : Bool, e_10 = .returned (.bool b71) ∧
  cond b71 (Calls Try.prog 20 [].toArray w19 (fun e_11 w20 => ∃ b73 : Bool, e_11 = .returned (.bool b73) ∧
  J_2 b73 w20)) (J_2 false w19)))) (fun J_3 =>
  LoopV [(60, .int .i64)] (fun K => K (0 : Int) w14) (fun N => fun (x60 : Int) (w21 : World) =>
  cond (decide (x60 < ((s28_0.n : Nat) : Int))) (
  Join [] (fun (w22 : World) => N (IntKind.wrap .i64 (x60 + (1 : Int))) w22) (fun J_4 =>
  ∃ p62 : Pt, s28_0.a = some ⟨p62.b, p62.o, none⟩ ∧ 0 ≤ x60 ∧ x60 < ((s28_0.n : Nat) : Int) ∧ ∃ x63_0 : Int, ∃ s63_1 : Sl, rd w21 p62.b (p62.o + Int.toNat x60 * 2) [(.int .i64 x63_0), (.slice s63_1.a s63_1.n s63_1.c)] ∧ Let (w21.alloc (.cells (zc Try.prog 36) 36)) fun w23 => 
  StoreOk w23 w21.heap.size 0 [(.int .i64 x63_0), (.slice s63_1.a s63_1.n s63_1.c)] 2 ∧ Let (put w23 w21.heap.size 0 [(.int .i64 x63_0), (.slice s63_1.a s63_1.n s63_1.c)]) fun w24 => 
  ∃ x65_0 : Int, ∃ s65_1 : Sl, rd w24 w21.heap.size 0 [(.int .i64 x65_0), (.slice s65_1.a s65_1.n s65_1.c)] ∧ Calls Try.prog 24 [(.slice s40_0.a s40_0.n s40_0.c), (.agg [(.int .i64 x65_0), (.slice s65_1.a s65_1.n s65_1.c)].toArray)].toArray w24 (fun e_12 w25 => ∃ b66 : Bool, e_12 = .returned (.bool b66) ∧
  cond (!b66) (
  R (.bool false) w25) (
  J_4 w25)))) (
  J_3 w21))))) (fun J_5 =>
  cond (x28_1 != (0 : Int)) (J_5 true w13) (J_5 (x40_1 != (0 : Int)) w13))))))))))) (fun J_6 =>
  Calls Try.prog 19 [(.slice s0.a s0.n s0.c)].toArray w1 (fun e_13 w26 => ∃ b14 : Bool, e_13 = .returned (.bool b14) ∧
  cond (!b14) (J_6 true w26) (Calls Try.prog 22 [(.slice s0.a s0.n s0.c), (.slice s1.a s1.n s1.c)].toArray w26 (fun e_14 w27 => ∃ b19 : Bool, e_14 = .returned (.bool b19) ∧
  J_6 (!b19) w27))))
theorem eq4 (s0 : Sl) (s1 : Sl) (x2_0 : Int) (s2_1 : Sl) (R : Value → World → Prop) (w : World) : funV Try.prog Try.f4 An4 [(.slice s0.a s0.n s0.c), (.slice s1.a s1.n s1.c), (.agg [(.int .i64 x2_0), (.slice s2_1.a s2_1.n s2_1.c)].toArray)] R w = S4 s0 s1 x2_0 s2_1 R w := by kernel_rfl
theorem call4 (s0 : Sl) (s1 : Sl) (x2_0 : Int) (s2_1 : Sl) {R : Value → World → Prop} {w : World} (h : S4 s0 s1 x2_0 s2_1 R w) : Calls Try.prog 4 [(.slice s0.a s0.n s0.c), (.slice s1.a s1.n s1.c), (.agg [(.int .i64 x2_0), (.slice s2_1.a s2_1.n s2_1.c)].toArray)].toArray w fun e w' => ∃ v, e = .returned v ∧ R v w' :=
  funV_calls mixed Try.func4 (an := An4) (by rw [eq4]; exact h)

end Go.Proofs.Ytoljknamnkkgcaa
