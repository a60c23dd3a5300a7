/-
  Printed by a program of this session (wip/tools/vcprint.py): of each Go function the shallow form, and that the calculus comes to it, by the kernel.
-/
import Derived.Test.YtoljknamnkkgcaaSd
import Derived.Test.YtoljknamnkkgcaaProg
import Derived.KernelRfl
namespace Go.Proofs.Ytoljknamnkkgcaa
open Go Go.VC
set_option maxRecDepth 100000

/-- F3: cubeb/cubeblaw03.RulesAgain -/
def An3 : An := (.sq .lf (.sq .lf (.sq (.sq (.rj [] [(27, .bool)]) (.cd (.sq (.rj [] [(4, .bool)]) .lf) .lf)) (.sq .lf (.sq (.rj [] [(4, .bool)]) .lf)))))
def S3 (s0 : Sl) (s1 : Sl) (R : Value → World → Prop) (w : World) : Prop :=
  Calls Try.prog 17 [(.slice s0.a s0.n s0.c)].toArray w (fun e w1 => ∃ s10 : Sl, e = .returned (.slice s10.a s10.n s10.c) ∧
  Calls Try.prog 18 [(.slice s1.a s1.n s1.c)].toArray w1 (fun e_2 w2 => ∃ s12 : Sl, e_2 = .returned (.slice s12.a s12.n s12.c) ∧
  Calls Try.prog 16 [(.slice s10.a s10.n s10.c), (.slice s12.a s12.n s12.c)].toArray w2 (fun e_3 w3 => ∃ s13_0 : Sl, ∃ x13_1 : Int, e_3 = .returned (.tuple [(.slice s13_0.a s13_0.n s13_0.c), (.int .i64 x13_1)].toArray) ∧
  Join [(27, .bool)] (fun (b27 : Bool) (w4 : World) => cond b27 (
  Join [(4, .bool)] (fun (b4 : Bool) (w5 : World) => R (.bool b4) w5) (fun J =>
  cond (x13_1 == (0 : Int)) (Calls Try.prog 20 [].toArray w4 (fun e_4 w6 => ∃ b39 : Bool, e_4 = .returned (.bool b39) ∧
  J b39 w6)) (cond (x13_1 == (2 : Int)) (Calls Try.prog 20 [].toArray w4 (fun e_5 w7 => ∃ b39_2 : Bool, e_5 = .returned (.bool b39_2) ∧
  J b39_2 w7)) (cond (x13_1 == (8 : Int)) (Calls Try.prog 20 [].toArray w4 (fun e_6 w8 => ∃ b39_3 : Bool, e_6 = .returned (.bool b39_3) ∧
  J b39_3 w8)) (J false w4))))) (
  Calls Try.prog 17 [(.slice s0.a s0.n s0.c)].toArray w4 (fun e_7 w9 => ∃ s43 : Sl, e_7 = .returned (.slice s43.a s43.n s43.c) ∧
  Calls Try.prog 16 [(.slice s43.a s43.n s43.c), (.slice s13_0.a s13_0.n s13_0.c)].toArray w9 (fun e_8 w10 => ∃ s45_0 : Sl, ∃ x45_1 : Int, e_8 = .returned (.tuple [(.slice s45_0.a s45_0.n s45_0.c), (.int .i64 x45_1)].toArray) ∧
  Join [(4, .bool)] (fun (b4_2 : Bool) (w11 : World) => R (.bool b4_2) w11) (fun J_2 =>
  cond (x45_1 == (0 : Int)) (Calls Try.prog 21 [(.slice s13_0.a s13_0.n s13_0.c), (.slice s45_0.a s45_0.n s45_0.c)].toArray w10 (fun e_9 w12 => ∃ b53 : Bool, e_9 = .returned (.bool b53) ∧
  cond b53 (Calls Try.prog 20 [].toArray w12 (fun e_10 w13 => ∃ b56 : Bool, e_10 = .returned (.bool b56) ∧
  J_2 b56 w13)) (J_2 false w12))) (J_2 false w10)))))) (fun J_3 =>
  cond (x13_1 != (0 : Int)) (J_3 true w3) (Calls Try.prog 19 [(.slice s0.a s0.n s0.c)].toArray w3 (fun e_11 w14 => ∃ b20 : Bool, e_11 = .returned (.bool b20) ∧
  cond (!b20) (J_3 true w14) (J_3 (decide (((s13_0.n : Nat) : Int) > (20 : Int))) w14)))))))
theorem eq3 (s0 : Sl) (s1 : Sl) (R : Value → World → Prop) (w : World) : funV Try.prog Try.f3 An3 [(.slice s0.a s0.n s0.c), (.slice s1.a s1.n s1.c)] R w = S3 s0 s1 R w := by kernel_rfl
theorem call3 (s0 : Sl) (s1 : Sl) {R : Value → World → Prop} {w : World} (h : S3 s0 s1 R w) : Calls Try.prog 3 [(.slice s0.a s0.n s0.c), (.slice s1.a s1.n s1.c)].toArray w fun e w' => ∃ v, e = .returned v ∧ R v w' :=
  funV_calls mixed Try.func3 (an := An3) (by rw [eq3]; exact h)

/-- F5: cubeb/cubeblaw03.RulesFounded -/
def An5 : An := (.sq .lf (.sq .lf (.sq (.sq .lf (.cd (.sq (.rj [] [(4, .bool)]) .lf) .lf)) (.sq .lf (.sq (.rj [] [(4, .bool)]) .lf)))))
def S5 (s0 : Sl) (s1 : Sl) (R : Value → World → Prop) (w : World) : Prop :=
  Calls Try.prog 17 [(.slice s0.a s0.n s0.c)].toArray w (fun e w1 => ∃ s12 : Sl, e = .returned (.slice s12.a s12.n s12.c) ∧
  Calls Try.prog 18 [(.slice s1.a s1.n s1.c)].toArray w1 (fun e_2 w2 => ∃ s14 : Sl, e_2 = .returned (.slice s14.a s14.n s14.c) ∧
  Calls Try.prog 25 [(.slice s12.a s12.n s12.c), (.slice s14.a s14.n s14.c)].toArray w2 (fun e_3 w3 => ∃ s15_0 : Sl, ∃ s15_1 : Sl, ∃ x15_2 : Int, e_3 = .returned (.tuple [(.slice s15_0.a s15_0.n s15_0.c), (.slice s15_1.a s15_1.n s15_1.c), (.int .i64 x15_2)].toArray) ∧
  Calls Try.prog 22 [(.slice s0.a s0.n s0.c), (.slice s1.a s1.n s1.c)].toArray w3 (fun e_4 w4 => ∃ b21 : Bool, e_4 = .returned (.bool b21) ∧
  cond (!b21) (
  Join [(4, .bool)] (fun (b4 : Bool) (w5 : World) => R (.bool b4) w5) (fun J =>
  cond ((IntKind.wrap .i64 (((s15_0.n : Nat) : Int) + ((s15_1.n : Nat) : Int))) == (0 : Int)) (cond (x15_2 == (2 : Int)) (Calls Try.prog 20 [].toArray w4 (fun e_5 w6 => ∃ b34 : Bool, e_5 = .returned (.bool b34) ∧
  J b34 w6)) (J false w4)) (J false w4))) (
  Calls Try.prog 26 [(.slice s0.a s0.n s0.c), (.slice s1.a s1.n s1.c)].toArray w4 (fun e_6 w7 => ∃ cs39_0 : List Value, cs39_0.length = 252 ∧ ∃ cs39_1 : List Value, cs39_1.length = 252 ∧ e_6 = .returned (.tuple [(.agg cs39_0.toArray), (.agg cs39_1.toArray)].toArray) ∧
  Let (w7.alloc (.cells (zc Try.prog 43) 43)) fun w8 => 
  Let (w8.alloc (.cells (zc Try.prog 43) 43)) fun w9 => 
  StoreOk w9 w7.heap.size 0 cs39_0 252 ∧ Let (put w9 w7.heap.size 0 cs39_0) fun w10 => 
  StoreOk w10 w8.heap.size 0 cs39_1 252 ∧ Let (put w10 w8.heap.size 0 cs39_1) fun w11 => 
  Join [(4, .bool)] (fun (b4_2 : Bool) (w12 : World) => R (.bool b4_2) w12) (fun J_2 =>
  ∃ cs43 : List Value, cs43.length = 252 ∧ rd w11 w7.heap.size 0 cs43 ∧ Calls Try.prog 27 [(.agg cs43.toArray)].toArray w11 (fun e_7 w13 => ∃ s44 : Sl, e_7 = .returned (.slice s44.a s44.n s44.c) ∧
  Calls Try.prog 21 [(.slice s15_0.a s15_0.n s15_0.c), (.slice s44.a s44.n s44.c)].toArray w13 (fun e_8 w14 => ∃ b45 : Bool, e_8 = .returned (.bool b45) ∧
  cond b45 (∃ cs48 : List Value, cs48.length = 252 ∧ rd w14 w8.heap.size 0 cs48 ∧ Calls Try.prog 27 [(.agg cs48.toArray)].toArray w14 (fun e_9 w15 => ∃ s49 : Sl, e_9 = .returned (.slice s49.a s49.n s49.c) ∧
  Calls Try.prog 21 [(.slice s15_1.a s15_1.n s15_1.c), (.slice s49.a s49.n s49.c)].toArray w15 (fun e_10 w16 => ∃ b50 : Bool, e_10 = .returned (.bool b50) ∧
  cond b50 (cond (x15_2 == (0 : Int)) (Calls Try.prog 20 [].toArray w16 (fun e_11 w17 => ∃ b57 : Bool, e_11 = .returned (.bool b57) ∧
  J_2 b57 w17)) (J_2 false w16)) (J_2 false w16)))) (J_2 false w14))))))))))
theorem eq5 (s0 : Sl) (s1 : Sl) (R : Value → World → Prop) (w : World) : funV Try.prog Try.f5 An5 [(.slice s0.a s0.n s0.c), (.slice s1.a s1.n s1.c)] R w = S5 s0 s1 R w := by kernel_rfl
theorem call5 (s0 : Sl) (s1 : Sl) {R : Value → World → Prop} {w : World} (h : S5 s0 s1 R w) : Calls Try.prog 5 [(.slice s0.a s0.n s0.c), (.slice s1.a s1.n s1.c)].toArray w fun e w' => ∃ v, e = .returned v ∧ R v w' :=
  funV_calls mixed Try.func5 (an := An5) (by rw [eq5]; exact h)

end Go.Proofs.Ytoljknamnkkgcaa
