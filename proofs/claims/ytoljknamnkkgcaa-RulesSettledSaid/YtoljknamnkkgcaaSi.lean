/-
  Printed by a program of this session (wip/tools/vcprint.py): of each Go function the shallow form, and that the calculus comes to it, by the kernel.
-/
import Derived.Test.YtoljknamnkkgcaaSd
import Derived.Test.YtoljknamnkkgcaaProg
import Derived.KernelRfl
namespace Go.Proofs.Ytoljknamnkkgcaa
open Go Go.VC
set_option maxRecDepth 100000

/-- F6: cubeb/cubeblaw03.RulesSettled -/
def An6 : An := (.sq .lf (.sq .lf (.sq .lf (.sq (.sq .lf (.cd (.sq (.rj [] [(4, .bool)]) .lf) .lf)) (.sq (.sq .lf (.bk [] (.lp [(42, .int .i64)] (.sq .lf (.sq (.cd .lf .lf) (.sq (.bk [] (.sq .lf (.sq .lf (.cd (.sq .lf .lf) .lf)))) .lf)))))) (.sq (.rj [] [(4, .bool)]) .lf))))))
def S6 (s0 : Sl) (s1 : Sl) (R : Value → World → Prop) (w : World) : Prop :=
  Calls Try.prog 17 [(.slice s0.a s0.n s0.c)].toArray w (fun e w1 => ∃ s14 : Sl, e = .returned (.slice s14.a s14.n s14.c) ∧
  Calls Try.prog 18 [(.slice s1.a s1.n s1.c)].toArray w1 (fun e_2 w2 => ∃ s16 : Sl, e_2 = .returned (.slice s16.a s16.n s16.c) ∧
  Calls Try.prog 16 [(.slice s14.a s14.n s14.c), (.slice s16.a s16.n s16.c)].toArray w2 (fun e_3 w3 => ∃ s17_0 : Sl, ∃ x17_1 : Int, e_3 = .returned (.tuple [(.slice s17_0.a s17_0.n s17_0.c), (.int .i64 x17_1)].toArray) ∧
  Calls Try.prog 17 [(.slice s0.a s0.n s0.c)].toArray w3 (fun e_4 w4 => ∃ s22 : Sl, e_4 = .returned (.slice s22.a s22.n s22.c) ∧
  Calls Try.prog 18 [(.slice s1.a s1.n s1.c)].toArray w4 (fun e_5 w5 => ∃ s24 : Sl, e_5 = .returned (.slice s24.a s24.n s24.c) ∧
  Calls Try.prog 25 [(.slice s22.a s22.n s22.c), (.slice s24.a s24.n s24.c)].toArray w5 (fun e_6 w6 => ∃ s25_0 : Sl, ∃ s25_1 : Sl, ∃ x25_2 : Int, e_6 = .returned (.tuple [(.slice s25_0.a s25_0.n s25_0.c), (.slice s25_1.a s25_1.n s25_1.c), (.int .i64 x25_2)].toArray) ∧
  cond (x25_2 != (0 : Int)) (
  Join [(4, .bool)] (fun (b4 : Bool) (w7 : World) => R (.bool b4) w7) (fun J =>
  cond (x17_1 == (2 : Int)) (cond (x25_2 == (2 : Int)) (Calls Try.prog 20 [].toArray w6 (fun e_7 w8 => ∃ b38 : Bool, e_7 = .returned (.bool b38) ∧
  J b38 w8)) (J false w6)) (J false w6))) (
  Join [] (fun (w9 : World) => Join [(4, .bool)] (fun (b4_2 : Bool) (w10 : World) => R (.bool b4_2) w10) (fun J_2 =>
  cond (x17_1 == (8 : Int)) (Calls Try.prog 20 [].toArray w9 (fun e_8 w11 => ∃ b67 : Bool, e_8 = .returned (.bool b67) ∧
  J_2 b67 w11)) (cond (x17_1 == (0 : Int)) (Calls Try.prog 21 [(.slice s25_0.a s25_0.n s25_0.c), (.slice s17_0.a s17_0.n s17_0.c)].toArray w9 (fun e_9 w12 => ∃ b58 : Bool, e_9 = .returned (.bool b58) ∧
  cond b58 (cond (((s25_1.n : Nat) : Int) == (0 : Int)) (Calls Try.prog 20 [].toArray w12 (fun e_10 w13 => ∃ b67_2 : Bool, e_10 = .returned (.bool b67_2) ∧
  J_2 b67_2 w13)) (J_2 false w12)) (J_2 false w12))) (J_2 false w9)))) (fun J_3 =>
  LoopV [(42, .int .i64)] (fun K => K (0 : Int) w6) (fun N => fun (x42 : Int) (w14 : World) =>
  cond (decide (x42 < ((s25_1.n : Nat) : Int))) (
  Join [] (fun (w15 : World) => N (IntKind.wrap .i64 (x42 + (1 : Int))) w15) (fun J_4 =>
  ∃ p44 : Pt, s25_1.a = some ⟨p44.b, p44.o, none⟩ ∧ 0 ≤ x42 ∧ x42 < ((s25_1.n : Nat) : Int) ∧ ∃ x45_0 : Int, ∃ s45_1 : Sl, rd w14 p44.b (p44.o + Int.toNat x42 * 2) [(.int .i64 x45_0), (.slice s45_1.a s45_1.n s45_1.c)] ∧ Let (w14.alloc (.cells (zc Try.prog 36) 36)) fun w16 => 
  StoreOk w16 w14.heap.size 0 [(.int .i64 x45_0), (.slice s45_1.a s45_1.n s45_1.c)] 2 ∧ Let (put w16 w14.heap.size 0 [(.int .i64 x45_0), (.slice s45_1.a s45_1.n s45_1.c)]) fun w17 => 
  ∃ x47_0 : Int, ∃ s47_1 : Sl, rd w17 w14.heap.size 0 [(.int .i64 x47_0), (.slice s47_1.a s47_1.n s47_1.c)] ∧ Calls Try.prog 24 [(.slice s25_0.a s25_0.n s25_0.c), (.agg [(.int .i64 x47_0), (.slice s47_1.a s47_1.n s47_1.c)].toArray)].toArray w17 (fun e_11 w18 => ∃ b48 : Bool, e_11 = .returned (.bool b48) ∧
  cond b48 (
  R (.bool false) w18) (
  J_4 w18)))) (
  J_3 w14))))))))))
theorem eq6 (s0 : Sl) (s1 : Sl) (R : Value → World → Prop) (w : World) : funV Try.prog Try.f6 An6 [(.slice s0.a s0.n s0.c), (.slice s1.a s1.n s1.c)] R w = S6 s0 s1 R w := by kernel_rfl
theorem call6 (s0 : Sl) (s1 : Sl) {R : Value → World → Prop} {w : World} (h : S6 s0 s1 R w) : Calls Try.prog 6 [(.slice s0.a s0.n s0.c), (.slice s1.a s1.n s1.c)].toArray w fun e w' => ∃ v, e = .returned v ∧ R v w' :=
  funV_calls mixed Try.func6 (an := An6) (by rw [eq6]; exact h)

end Go.Proofs.Ytoljknamnkkgcaa
