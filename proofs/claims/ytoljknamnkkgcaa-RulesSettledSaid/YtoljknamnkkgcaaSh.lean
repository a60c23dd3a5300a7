/-
  Printed by a program of this session (wip/tools/vcprint.py): of each Go function the shallow form, and that the calculus comes to it, by the kernel.
-/
import Derived.Test.YtoljknamnkkgcaaSd
import Derived.Test.YtoljknamnkkgcaaProg
import Derived.KernelRfl
namespace Go.Proofs.Ytoljknamnkkgcaa
open Go Go.VC
set_option maxRecDepth 100000

/-- F25: cubeb/rules.Founded -/
def An25 : An := (.sq .lf (.sq (.sq .lf (.cd (.sq .lf .lf) .lf)) (.sq .lf (.sq .lf (.bk [(4, .slice), (5, .slice), (6, .int .i64)] (.lp [(8, .map)] (.bk [(8, .map)] (.sq .lf (.sq .lf (.sq (.sq .lf (.cd (.sq (.sq .lf (.bk [] (.lp [] (.sq .lf (.sq (.cd .lf .lf) (.bk [] (.sq (.lf [(0, 121, 4)]) .lf))))))) (.sq .lf .lf)) .lf)) .lf))))))))))
def S25 (s0 : Sl) (s1 : Sl) (R : Value → World → Prop) (w : World) : Prop :=
  Calls Try.prog 55 [(.slice s0.a s0.n s0.c), (.slice s1.a s1.n s1.c)].toArray w (fun e w1 => ∃ b14 : Bool, e = .returned (.bool b14) ∧
  cond (!b14) (
  R (.tuple [(.slice none 0 0), (.slice none 0 0), (.int .i64 (2 : Int))].toArray) w1) (
  Calls Try.prog 67 [(.slice s1.a s1.n s1.c)].toArray w1 (fun e_2 w2 => ∃ m17 : Option Nat, e_2 = .returned (.map m17) ∧
  Let (w2.alloc (.map #[] 0)) fun w3 => 
  Join [(4, .slice), (5, .slice), (6, .int .i64)] (fun (s4 : Sl) (s5 : Sl) (x6 : Int) (w4 : World) => R (.tuple [(.slice s4.a s4.n s4.c), (.slice s5.a s5.n s5.c), (.int .i64 x6)].toArray) w4) (fun J =>
  LoopV [(8, .map)] (fun K => K ((some w2.heap.size)) w3) (fun N => fun (m8 : Option Nat) (w5 : World) =>
  Join [(8, .map)] (fun (m8_2 : Option Nat) (w6 : World) => N (m8_2) w6) (fun J_2 =>
  Calls Try.prog 68 [(.slice s0.a s0.n s0.c), (.map m17), (.map m8)].toArray w5 (fun e_3 w7 => ∃ m22 : Option Nat, e_3 = .returned (.map m22) ∧
  Calls Try.prog 68 [(.slice s0.a s0.n s0.c), (.map m17), (.map m22)].toArray w7 (fun e_4 w8 => ∃ m26 : Option Nat, e_4 = .returned (.map m26) ∧
  (match (Value.map m26) with
  | .map (some q28) => (∃ n28 : Int, Sem.run Try.prog (Builtin.len_ #[105] 3 #[(.map (some q28))]) w8 = .ok (.int .i64 n28) w8 ∧ (match (Value.map m8) with
  | .map (some q30) => (∃ n30 : Int, Sem.run Try.prog (Builtin.len_ #[105] 3 #[(.map (some q30))]) w8 = .ok (.int .i64 n30) w8 ∧ cond (n28 == n30) (
  ∃ (p33 : Pt) (w9 : World), Sem.run Try.prog (Instr.range 105 (.map m26)) w8 = .ok (.pointer (some ⟨p33.b, p33.o, none⟩)) w9 ∧
  Join [] (fun (w10 : World) => Calls Try.prog 57 [(.map m26)].toArray w10 (fun e_5 w11 => ∃ s41 : Sl, e_5 = .returned (.slice s41.a s41.n s41.c) ∧
  Calls Try.prog 57 [(.map m22)].toArray w11 (fun e_6 w12 => ∃ s43 : Sl, e_6 = .returned (.slice s43.a s43.n s43.c) ∧
  R (.tuple [(.slice s41.a s41.n s41.c), (.slice s43.a s43.n s43.c), (.int .i64 (0 : Int))].toArray) w12))) (fun J_3 =>
  LoopV [] (fun K => K w9) (fun N_2 => fun (w13 : World) =>
  ∃ (b34 : Bool) (kv34 : List Value) (w14 : World), Sem.run Try.prog (Instr.next (.pointer (some ⟨p33.b, p33.o, none⟩)) false 0) w13 = .ok (.tuple (Value.bool b34 :: kv34).toArray) w14 ∧
  cond b34 (
  Join [] (fun (w15 : World) => N_2 w15) (fun J_4 =>
  ∃ x36_k_0 : Int, ∃ x36_k_1 : Int, ∃ x36_k_2 : Int, ∃ b36_v : Bool, Sem.run Try.prog (Instr.entry (.pointer (some ⟨p33.b, p33.o, none⟩))) w14 = .ok (.tuple #[(.agg [(.int .i64 x36_k_0), (.int .i64 x36_k_1), (.int .i64 x36_k_2)].toArray), (.bool b36_v)]) w14 ∧ Let (w14.alloc (.cells (zc Try.prog 121) 121)) fun w16 => 
  StoreOk w16 w14.heap.size 0 [(.int .i64 x36_k_0), (.int .i64 x36_k_1), (.int .i64 x36_k_2)] 3 ∧ Let (put w16 w14.heap.size 0 [(.int .i64 x36_k_0), (.int .i64 x36_k_1), (.int .i64 x36_k_2)]) fun w17 => 
  ∃ x39_0 : Int, ∃ x39_1 : Int, ∃ x39_2 : Int, rd w17 w14.heap.size 0 [(.int .i64 x39_0), (.int .i64 x39_1), (.int .i64 x39_2)] ∧ ∃ w18 : World, Sem.run Try.prog (Builtin.delete_ #[105, 121] 0 #[(.map m22), (.agg [(.int .i64 x39_0), (.int .i64 x39_1), (.int .i64 x39_2)].toArray)]) w17 = .ok (.tuple #[]) w18 ∧
  J_4 w18)) (
  J_3 w14)))) (
  J_2 (m26) w8))
  | _ => (match Program.underlying Try.prog 105, (Value.map m8) with
  | some (.slice _), .slice _ _ _ => False
  | some (.array _ _), _ => False
  | some (.map _ _), .map none => (cond (n28 == (0 : Int)) (
  ∃ (p33_2 : Pt) (w19 : World), Sem.run Try.prog (Instr.range 105 (.map m26)) w8 = .ok (.pointer (some ⟨p33_2.b, p33_2.o, none⟩)) w19 ∧
  Join [] (fun (w20 : World) => Calls Try.prog 57 [(.map m26)].toArray w20 (fun e_7 w21 => ∃ s41_2 : Sl, e_7 = .returned (.slice s41_2.a s41_2.n s41_2.c) ∧
  Calls Try.prog 57 [(.map m22)].toArray w21 (fun e_8 w22 => ∃ s43_2 : Sl, e_8 = .returned (.slice s43_2.a s43_2.n s43_2.c) ∧
  R (.tuple [(.slice s41_2.a s41_2.n s41_2.c), (.slice s43_2.a s43_2.n s43_2.c), (.int .i64 (0 : Int))].toArray) w22))) (fun J_5 =>
  LoopV [] (fun K => K w19) (fun N_3 => fun (w23 : World) =>
  ∃ (b34_2 : Bool) (kv34_2 : List Value) (w24 : World), Sem.run Try.prog (Instr.next (.pointer (some ⟨p33_2.b, p33_2.o, none⟩)) false 0) w23 = .ok (.tuple (Value.bool b34_2 :: kv34_2).toArray) w24 ∧
  cond b34_2 (
  Join [] (fun (w25 : World) => N_3 w25) (fun J_6 =>
  ∃ x36_k_0_2 : Int, ∃ x36_k_1_2 : Int, ∃ x36_k_2_2 : Int, ∃ b36_v_2 : Bool, Sem.run Try.prog (Instr.entry (.pointer (some ⟨p33_2.b, p33_2.o, none⟩))) w24 = .ok (.tuple #[(.agg [(.int .i64 x36_k_0_2), (.int .i64 x36_k_1_2), (.int .i64 x36_k_2_2)].toArray), (.bool b36_v_2)]) w24 ∧ Let (w24.alloc (.cells (zc Try.prog 121) 121)) fun w26 => 
  StoreOk w26 w24.heap.size 0 [(.int .i64 x36_k_0_2), (.int .i64 x36_k_1_2), (.int .i64 x36_k_2_2)] 3 ∧ Let (put w26 w24.heap.size 0 [(.int .i64 x36_k_0_2), (.int .i64 x36_k_1_2), (.int .i64 x36_k_2_2)]) fun w27 => 
  ∃ x39_0_2 : Int, ∃ x39_1_2 : Int, ∃ x39_2_2 : Int, rd w27 w24.heap.size 0 [(.int .i64 x39_0_2), (.int .i64 x39_1_2), (.int .i64 x39_2_2)] ∧ ∃ w28 : World, Sem.run Try.prog (Builtin.delete_ #[105, 121] 0 #[(.map m22), (.agg [(.int .i64 x39_0_2), (.int .i64 x39_1_2), (.int .i64 x39_2_2)].toArray)]) w27 = .ok (.tuple #[]) w28 ∧
  J_6 w28)) (
  J_5 w24)))) (
  J_2 (m26) w8))
  | _, _ => False)))
  | _ => (match Program.underlying Try.prog 105, (Value.map m26) with
  | some (.slice _), .slice _ _ _ => False
  | some (.array _ _), _ => False
  | some (.map _ _), .map none => ((match (Value.map m8) with
  | .map (some q30_2) => (∃ n30_2 : Int, Sem.run Try.prog (Builtin.len_ #[105] 3 #[(.map (some q30_2))]) w8 = .ok (.int .i64 n30_2) w8 ∧ cond ((0 : Int) == n30_2) (
  ∃ (p33_3 : Pt) (w29 : World), Sem.run Try.prog (Instr.range 105 (.map m26)) w8 = .ok (.pointer (some ⟨p33_3.b, p33_3.o, none⟩)) w29 ∧
  Join [] (fun (w30 : World) => Calls Try.prog 57 [(.map m26)].toArray w30 (fun e_9 w31 => ∃ s41_3 : Sl, e_9 = .returned (.slice s41_3.a s41_3.n s41_3.c) ∧
  Calls Try.prog 57 [(.map m22)].toArray w31 (fun e_10 w32 => ∃ s43_3 : Sl, e_10 = .returned (.slice s43_3.a s43_3.n s43_3.c) ∧
  R (.tuple [(.slice s41_3.a s41_3.n s41_3.c), (.slice s43_3.a s43_3.n s43_3.c), (.int .i64 (0 : Int))].toArray) w32))) (fun J_7 =>
  LoopV [] (fun K => K w29) (fun N_4 => fun (w33 : World) =>
  ∃ (b34_3 : Bool) (kv34_3 : List Value) (w34 : World), Sem.run Try.prog (Instr.next (.pointer (some ⟨p33_3.b, p33_3.o, none⟩)) false 0) w33 = .ok (.tuple (Value.bool b34_3 :: kv34_3).toArray) w34 ∧
  cond b34_3 (
  Join [] (fun (w35 : World) => N_4 w35) (fun J_8 =>
  ∃ x36_k_0_3 : Int, ∃ x36_k_1_3 : Int, ∃ x36_k_2_3 : Int, ∃ b36_v_3 : Bool, Sem.run Try.prog (Instr.entry (.pointer (some ⟨p33_3.b, p33_3.o, none⟩))) w34 = .ok (.tuple #[(.agg [(.int .i64 x36_k_0_3), (.int .i64 x36_k_1_3), (.int .i64 x36_k_2_3)].toArray), (.bool b36_v_3)]) w34 ∧ Let (w34.alloc (.cells (zc Try.prog 121) 121)) fun w36 => 
  StoreOk w36 w34.heap.size 0 [(.int .i64 x36_k_0_3), (.int .i64 x36_k_1_3), (.int .i64 x36_k_2_3)] 3 ∧ Let (put w36 w34.heap.size 0 [(.int .i64 x36_k_0_3), (.int .i64 x36_k_1_3), (.int .i64 x36_k_2_3)]) fun w37 => 
  ∃ x39_0_3 : Int, ∃ x39_1_3 : Int, ∃ x39_2_3 : Int, rd w37 w34.heap.size 0 [(.int .i64 x39_0_3), (.int .i64 x39_1_3), (.int .i64 x39_2_3)] ∧ ∃ w38 : World, Sem.run Try.prog (Builtin.delete_ #[105, 121] 0 #[(.map m22), (.agg [(.int .i64 x39_0_3), (.int .i64 x39_1_3), (.int .i64 x39_2_3)].toArray)]) w37 = .ok (.tuple #[]) w38 ∧
  J_8 w38)) (
  J_7 w34)))) (
  J_2 (m26) w8))
  | _ => (match Program.underlying Try.prog 105, (Value.map m8) with
  | some (.slice _), .slice _ _ _ => False
  | some (.array _ _), _ => False
  | some (.map _ _), .map none => (cond ((0 : Int) == (0 : Int)) (
  ∃ (p33_4 : Pt) (w39 : World), Sem.run Try.prog (Instr.range 105 (.map m26)) w8 = .ok (.pointer (some ⟨p33_4.b, p33_4.o, none⟩)) w39 ∧
  Join [] (fun (w40 : World) => Calls Try.prog 57 [(.map m26)].toArray w40 (fun e_11 w41 => ∃ s41_4 : Sl, e_11 = .returned (.slice s41_4.a s41_4.n s41_4.c) ∧
  Calls Try.prog 57 [(.map m22)].toArray w41 (fun e_12 w42 => ∃ s43_4 : Sl, e_12 = .returned (.slice s43_4.a s43_4.n s43_4.c) ∧
  R (.tuple [(.slice s41_4.a s41_4.n s41_4.c), (.slice s43_4.a s43_4.n s43_4.c), (.int .i64 (0 : Int))].toArray) w42))) (fun J_9 =>
  LoopV [] (fun K => K w39) (fun N_5 => fun (w43 : World) =>
  ∃ (b34_4 : Bool) (kv34_4 : List Value) (w44 : World), Sem.run Try.prog (Instr.next (.pointer (some ⟨p33_4.b, p33_4.o, none⟩)) false 0) w43 = .ok (.tuple (Value.bool b34_4 :: kv34_4).toArray) w44 ∧
  cond b34_4 (
  Join [] (fun (w45 : World) => N_5 w45) (fun J_10 =>
  ∃ x36_k_0_4 : Int, ∃ x36_k_1_4 : Int, ∃ x36_k_2_4 : Int, ∃ b36_v_4 : Bool, Sem.run Try.prog (Instr.entry (.pointer (some ⟨p33_4.b, p33_4.o, none⟩))) w44 = .ok (.tuple #[(.agg [(.int .i64 x36_k_0_4), (.int .i64 x36_k_1_4), (.int .i64 x36_k_2_4)].toArray), (.bool b36_v_4)]) w44 ∧ Let (w44.alloc (.cells (zc Try.prog 121) 121)) fun w46 => 
  StoreOk w46 w44.heap.size 0 [(.int .i64 x36_k_0_4), (.int .i64 x36_k_1_4), (.int .i64 x36_k_2_4)] 3 ∧ Let (put w46 w44.heap.size 0 [(.int .i64 x36_k_0_4), (.int .i64 x36_k_1_4), (.int .i64 x36_k_2_4)]) fun w47 => 
  ∃ x39_0_4 : Int, ∃ x39_1_4 : Int, ∃ x39_2_4 : Int, rd w47 w44.heap.size 0 [(.int .i64 x39_0_4), (.int .i64 x39_1_4), (.int .i64 x39_2_4)] ∧ ∃ w48 : World, Sem.run Try.prog (Builtin.delete_ #[105, 121] 0 #[(.map m22), (.agg [(.int .i64 x39_0_4), (.int .i64 x39_1_4), (.int .i64 x39_2_4)].toArray)]) w47 = .ok (.tuple #[]) w48 ∧
  J_10 w48)) (
  J_9 w44)))) (
  J_2 (m26) w8))
  | _, _ => False)))
  | _, _ => False))))))))))
theorem eq25 (s0 : Sl) (s1 : Sl) (R : Value → World → Prop) (w : World) : funV Try.prog Try.f25 An25 [(.slice s0.a s0.n s0.c), (.slice s1.a s1.n s1.c)] R w = S25 s0 s1 R w := by kernel_rfl
theorem call25 (s0 : Sl) (s1 : Sl) {R : Value → World → Prop} {w : World} (h : S25 s0 s1 R w) : Calls Try.prog 25 [(.slice s0.a s0.n s0.c), (.slice s1.a s1.n s1.c)].toArray w fun e w' => ∃ v, e = .returned v ∧ R v w' :=
  funV_calls mixed Try.func25 (an := An25) (by rw [eq25]; exact h)

end Go.Proofs.Ytoljknamnkkgcaa
