/-
  Texts Sc, Cq, Cr of this proof, joined.
-/
import Derived.Test.YtoljknamnkkgcaaXr6
import Derived.Test.YtoljknamnkkgcaaProg
import Derived.KernelRfl
/-
  Printed by a program of this session (wip/tools/vcprint.py): of each Go function the shallow form, and that the calculus comes to it, by the kernel.
-/
namespace Go.Proofs.Ytoljknamnkkgcaa
open Go Go.VC
set_option maxRecDepth 100000

/-- F94: cubeb/cubebref03.code -/
def An94 : An := (.sq .lf (.sq (.sq .lf (.cd (.sq .lf .lf) .lf)) (.sq (.dr [0, 1, 2, 3, 4, 5, 6, 7, 8, 9, 10, 11, 12] [] false none) .lf)))
def S94 (x0 : Int) (s1 : Sl) (R : Value → World → Prop) (w : World) : Prop :=
  cond (((s1.n : Nat) : Int) == (1 : Int)) (
  ∃ p11 : Pt, s1.a = some ⟨p11.b, p11.o, none⟩ ∧ 0 ≤ (0 : Int) ∧ (0 : Int) < ((s1.n : Nat) : Int) ∧ ∃ x12 : Int, World.cell? w ⟨p11.b, (p11.o + Int.toNat (0 : Int) * 1), none⟩ = some (.int .i64 x12) ∧ R (.int .i64 (IntKind.wrap .i64 ((IntKind.wrap .i64 ((IntKind.wrap .i64 (x0 * (42 : Int))) + x12)) - (1 : Int)))) w) (
  Let w.drew fun w1 =>
  ∃ p18 : Pt, s1.a = some ⟨p18.b, p18.o, none⟩ ∧ 0 ≤ (0 : Int) ∧ (0 : Int) < ((s1.n : Nat) : Int) ∧ ∃ x19 : Int, World.cell? w1 ⟨p18.b, (p18.o + Int.toNat (0 : Int) * 1), none⟩ = some (.int .i64 x19) ∧ ∃ p23 : Pt, s1.a = some ⟨p23.b, p23.o, none⟩ ∧ 0 ≤ (1 : Int) ∧ (1 : Int) < ((s1.n : Nat) : Int) ∧ ∃ x24 : Int, World.cell? w1 ⟨p23.b, (p23.o + Int.toNat (1 : Int) * 1), none⟩ = some (.int .i64 x24) ∧ R (.int .i64 (IntKind.wrap .i64 ((IntKind.wrap .i64 ((IntKind.wrap .i64 ((IntKind.wrap .i64 (x0 * (42 : Int))) + (IntKind.wrap .i64 (x19 * (6 : Int))))) + x24)) - (1 : Int)))) w1)
theorem eq94 (x0 : Int) (s1 : Sl) (R : Value → World → Prop) (w : World) : funV Try.prog Try.f94 An94 [(.int .i64 x0), (.slice s1.a s1.n s1.c)] R w = S94 x0 s1 R w := by kernel_rfl
theorem call94 (x0 : Int) (s1 : Sl) {R : Value → World → Prop} {w : World} (h : S94 x0 s1 R w) : Calls Try.prog 94 [(.int .i64 x0), (.slice s1.a s1.n s1.c)].toArray w fun e w' => ∃ v, e = .returned v ∧ R v w' :=
  funV_calls mixed Try.func94 (an := An94) (by rw [eq94]; exact h)

/-- F72: cubeb/cubebref02.Key -/
def An72 : An := (.sq .lf (.sq .lf .lf))
def S72 (x0_0 : Int) (s0_1 : Sl) (R : Value → World → Prop) (w : World) : Prop :=
  Let (w.alloc (.cells [(.int .i64 x0_0), (.slice s0_1.a s0_1.n s0_1.c)].toArray 36)) fun w1 => 
  ∃ x4 : Int, World.cell? w1 ⟨w.heap.size, (0 + 0), none⟩ = some (.int .i64 x4) ∧ ∃ (s5 : Sl) (w2 : World), Sem.run Try.prog (Instr.buildSlice 34 1 [(0, (.int .i64 x4))].toArray) w1 = .ok (.slice s5.a s5.n s5.c) w2 ∧
  ∃ s7 : Sl, World.cell? w2 ⟨w.heap.size, (0 + 1), none⟩ = some (.slice s7.a s7.n s7.c) ∧ ∃ (s8 : Sl) (w3 : World), Sem.run Try.prog (Builtin.append_ #[34, 34] 34 #[(.slice s5.a s5.n s5.c), (.slice s7.a s7.n s7.c)]) w2 = .ok (.slice s8.a s8.n s8.c) w3 ∧
  R (.slice s8.a s8.n s8.c) w3
theorem eq72 (x0_0 : Int) (s0_1 : Sl) (R : Value → World → Prop) (w : World) : funV Try.prog Try.f72 An72 [(.agg [(.int .i64 x0_0), (.slice s0_1.a s0_1.n s0_1.c)].toArray)] R w = S72 x0_0 s0_1 R w := by kernel_rfl
theorem call72 (x0_0 : Int) (s0_1 : Sl) {R : Value → World → Prop} {w : World} (h : S72 x0_0 s0_1 R w) : Calls Try.prog 72 [(.agg [(.int .i64 x0_0), (.slice s0_1.a s0_1.n s0_1.c)].toArray)].toArray w fun e w' => ∃ v, e = .returned v ∧ R v w' :=
  funV_calls mixed Try.func72 (an := An72) (by rw [eq72]; exact h)

/-- F116: cubeb/cubebref02.Before -/
def An116 : An := (.sq .lf (.sq (.sq .lf (.bk [] (.lp [(9, .int .i64)] (.sq .lf (.sq (.cd .lf .lf) (.sq (.bk [] (.sq .lf (.sq (.sq (.rj [] [(25, .bool)]) (.cd (.sq .lf .lf) .lf)) (.sq .lf (.cd (.sq .lf .lf) .lf))))) .lf)))))) (.sq .lf .lf)))
def S116 (s0 : Sl) (s1 : Sl) (R : Value → World → Prop) (w : World) : Prop :=
  Join [] (fun (w1 : World) => R (.bool (decide (((s0.n : Nat) : Int) < ((s1.n : Nat) : Int)))) w1) (fun J =>
  LoopV [(9, .int .i64)] (fun K => K (0 : Int) w) (fun N => fun (x9 : Int) (w2 : World) =>
  cond (decide (x9 < ((s0.n : Nat) : Int))) (
  Join [] (fun (w3 : World) => N (IntKind.wrap .i64 (x9 + (1 : Int))) w3) (fun J_2 =>
  ∃ p12 : Pt, s0.a = some ⟨p12.b, p12.o, none⟩ ∧ 0 ≤ x9 ∧ x9 < ((s0.n : Nat) : Int) ∧ ∃ x13 : Int, World.cell? w2 ⟨p12.b, (p12.o + Int.toNat x9 * 1), none⟩ = some (.int .i64 x13) ∧ Join [(25, .bool)] (fun (b25 : Bool) (w4 : World) => cond b25 (
  R (.bool false) w4) (
  ∃ p29 : Pt, s1.a = some ⟨p29.b, p29.o, none⟩ ∧ 0 ≤ x9 ∧ x9 < ((s1.n : Nat) : Int) ∧ ∃ x30 : Int, World.cell? w4 ⟨p29.b, (p29.o + Int.toNat x9 * 1), none⟩ = some (.int .i64 x30) ∧ cond (decide (x13 < x30)) (
  R (.bool true) w4) (
  J_2 w4))) (fun J_3 =>
  cond (decide (x9 ≥ ((s1.n : Nat) : Int))) (J_3 true w2) (∃ p22 : Pt, s1.a = some ⟨p22.b, p22.o, none⟩ ∧ 0 ≤ x9 ∧ x9 < ((s1.n : Nat) : Int) ∧ ∃ x23 : Int, World.cell? w2 ⟨p22.b, (p22.o + Int.toNat x9 * 1), none⟩ = some (.int .i64 x23) ∧ J_3 (decide (x13 > x23)) w2)))) (
  J w2)))
theorem eq116 (s0 : Sl) (s1 : Sl) (R : Value → World → Prop) (w : World) : funV Try.prog Try.f116 An116 [(.slice s0.a s0.n s0.c), (.slice s1.a s1.n s1.c)] R w = S116 s0 s1 R w := by kernel_rfl
theorem call116 (s0 : Sl) (s1 : Sl) {R : Value → World → Prop} {w : World} (h : S116 s0 s1 R w) : Calls Try.prog 116 [(.slice s0.a s0.n s0.c), (.slice s1.a s1.n s1.c)].toArray w fun e w' => ∃ v, e = .returned v ∧ R v w' :=
  funV_calls mixed Try.func116 (an := An116) (by rw [eq116]; exact h)

/-- F117: cubeb/cubebref02.Equal -/
def An117 : An := (.sq .lf (.sq (.rj [] [(4, .bool)]) .lf))
def S117 (s0 : Sl) (s1 : Sl) (R : Value → World → Prop) (w : World) : Prop :=
  Join [(4, .bool)] (fun (b4 : Bool) (w1 : World) => R (.bool b4) w1) (fun J =>
  Calls Try.prog 116 [(.slice s0.a s0.n s0.c), (.slice s1.a s1.n s1.c)].toArray w (fun e w2 => ∃ b7 : Bool, e = .returned (.bool b7) ∧
  cond (!b7) (Calls Try.prog 116 [(.slice s1.a s1.n s1.c), (.slice s0.a s0.n s0.c)].toArray w2 (fun e_2 w3 => ∃ b12 : Bool, e_2 = .returned (.bool b12) ∧
  J (!b12) w3)) (J false w2)))
theorem eq117 (s0 : Sl) (s1 : Sl) (R : Value → World → Prop) (w : World) : funV Try.prog Try.f117 An117 [(.slice s0.a s0.n s0.c), (.slice s1.a s1.n s1.c)] R w = S117 s0 s1 R w := by kernel_rfl
theorem call117 (s0 : Sl) (s1 : Sl) {R : Value → World → Prop} {w : World} (h : S117 s0 s1 R w) : Calls Try.prog 117 [(.slice s0.a s0.n s0.c), (.slice s1.a s1.n s1.c)].toArray w fun e w' => ∃ v, e = .returned v ∧ R v w' :=
  funV_calls mixed Try.func117 (an := An117) (by rw [eq117]; exact h)

/-- F71: cubeb/cubebref02.Put -/
def An71 : An := (.sq .lf (.sq .lf (.sq (.bk [(5, .int .i64)] (.lp [(5, .int .i64), (6, .int .i64)] (.sq (.sq .lf (.cd .lf .lf)) (.bk [(5, .int .i64), (6, .int .i64)] (.sq .lf (.sq .lf (.cj [(5, .int .i64), (6, .int .i64)] .lf .lf))))))) (.sq (.sq (.rj [] [(37, .bool)]) (.cd (.sq .lf .lf) .lf)) (.sq (.dt (.go [1, 2, 3, 5, 8, 9, 10] (.fk 0 (.go [] (.fk 4 (.go [6, 7, 11, 12] .nil) 6 (.go [4, 7, 11, 12] .nil))) 6 (.go [0, 4, 7, 11, 12] .nil))) [0, 4, 6, 7, 11] [(4, .slice)]) .lf)))))
def S71 (s0 : Sl) (s1 : Sl) (R : Value → World → Prop) (w : World) : Prop :=
  Join [(5, .int .i64)] (fun (x5 : Int) (w1 : World) => Join [(37, .bool)] (fun (b37 : Bool) (w2 : World) => cond b37 (
  R (.slice s0.a s0.n s0.c) w2) (
  Join [(4, .slice)] (fun (s4 : Sl) (w4 : World) => R (.slice s4.a s4.n s4.c) w4) (fun J =>
  ∃ S1 : World → Prop, S1 w2.drew ∧ Let w2.drew fun w3 =>
  0 ≤ x5 ∧ x5 ≤ ((s0.c : Nat) : Int) ∧ 0 ≤ x5 ∧ x5 ≤ ((s0.n : Nat) : Int) ∧ (∃ (s39 : Sl) (w5 : World), Sem.run Try.prog (Instr.buildSlice 124 0 [].toArray) w3 = .ok (.slice s39.a s39.n s39.c) w5 ∧
  (∃ (s43 : Sl) (w6 : World), Sem.run Try.prog (Builtin.append_ #[124, 124] 124 #[(.slice s39.a s39.n s39.c), (.slice s0.a (Int.toNat x5) s0.c)]) w5 = .ok (.slice s43.a s43.n s43.c) w6 ∧
  ∃ (s45 : Sl) (w7 : World), Sem.run Try.prog (Instr.buildSlice 124 1 [(0, (.slice s1.a s1.n s1.c))].toArray) w6 = .ok (.slice s45.a s45.n s45.c) w7 ∧
  ∃ (s46 : Sl) (w8 : World), Sem.run Try.prog (Builtin.append_ #[124, 124] 124 #[(.slice s43.a s43.n s43.c), (.slice s45.a s45.n s45.c)]) w7 = .ok (.slice s46.a s46.n s46.c) w8 ∧
  ∃ (s50 : Sl) (w9 : World), Sem.run Try.prog (Builtin.append_ #[124, 124] 124 #[(.slice s46.a s46.n s46.c), (.slice (subA s0.a s0.c (Int.toNat x5) 1) (s0.n - (Int.toNat x5)) (s0.c - (Int.toNat x5)))]) w8 = .ok (.slice s50.a s50.n s50.c) w9 ∧
  J ⟨s50.a, s50.n, s50.c⟩ w9) ∧
  (∃ (s45_2 : Sl) (w10 : World), Sem.run Try.prog (Instr.buildSlice 124 1 [(0, (.slice s1.a s1.n s1.c))].toArray) w5 = .ok (.slice s45_2.a s45_2.n s45_2.c) w10 ∧
  ∃ (s43_2 : Sl) (w11 : World), Sem.run Try.prog (Builtin.append_ #[124, 124] 124 #[(.slice s39.a s39.n s39.c), (.slice s0.a (Int.toNat x5) s0.c)]) w10 = .ok (.slice s43_2.a s43_2.n s43_2.c) w11 ∧
  ∃ (s46_2 : Sl) (w12 : World), Sem.run Try.prog (Builtin.append_ #[124, 124] 124 #[(.slice s43_2.a s43_2.n s43_2.c), (.slice s45_2.a s45_2.n s45_2.c)]) w11 = .ok (.slice s46_2.a s46_2.n s46_2.c) w12 ∧
  ∃ (s50_2 : Sl) (w13 : World), Sem.run Try.prog (Builtin.append_ #[124, 124] 124 #[(.slice s46_2.a s46_2.n s46_2.c), (.slice (subA s0.a s0.c (Int.toNat x5) 1) (s0.n - (Int.toNat x5)) (s0.c - (Int.toNat x5)))]) w12 = .ok (.slice s50_2.a s50_2.n s50_2.c) w13 ∧
  J ⟨s50_2.a, s50_2.n, s50_2.c⟩ w13)) ∧
  (∃ (s45_3 : Sl) (w14 : World), Sem.run Try.prog (Instr.buildSlice 124 1 [(0, (.slice s1.a s1.n s1.c))].toArray) w3 = .ok (.slice s45_3.a s45_3.n s45_3.c) w14 ∧
  ∃ (s39_2 : Sl) (w15 : World), Sem.run Try.prog (Instr.buildSlice 124 0 [].toArray) w14 = .ok (.slice s39_2.a s39_2.n s39_2.c) w15 ∧
  ∃ (s43_3 : Sl) (w16 : World), Sem.run Try.prog (Builtin.append_ #[124, 124] 124 #[(.slice s39_2.a s39_2.n s39_2.c), (.slice s0.a (Int.toNat x5) s0.c)]) w15 = .ok (.slice s43_3.a s43_3.n s43_3.c) w16 ∧
  ∃ (s46_3 : Sl) (w17 : World), Sem.run Try.prog (Builtin.append_ #[124, 124] 124 #[(.slice s43_3.a s43_3.n s43_3.c), (.slice s45_3.a s45_3.n s45_3.c)]) w16 = .ok (.slice s46_3.a s46_3.n s46_3.c) w17 ∧
  ∃ (s50_3 : Sl) (w18 : World), Sem.run Try.prog (Builtin.append_ #[124, 124] 124 #[(.slice s46_3.a s46_3.n s46_3.c), (.slice (subA s0.a s0.c (Int.toNat x5) 1) (s0.n - (Int.toNat x5)) (s0.c - (Int.toNat x5)))]) w17 = .ok (.slice s50_3.a s50_3.n s50_3.c) w18 ∧
  J ⟨s50_3.a, s50_3.n, s50_3.c⟩ w18)))) (fun J_2 =>
  cond (decide (x5 < ((s0.n : Nat) : Int))) (∃ p33 : Pt, s0.a = some ⟨p33.b, p33.o, none⟩ ∧ 0 ≤ x5 ∧ x5 < ((s0.n : Nat) : Int) ∧ ∃ s34 : Sl, World.cell? w1 ⟨p33.b, (p33.o + Int.toNat x5 * 1), none⟩ = some (.slice s34.a s34.n s34.c) ∧ Calls Try.prog 117 [(.slice s34.a s34.n s34.c), (.slice s1.a s1.n s1.c)].toArray w1 (fun e w19 => ∃ b36 : Bool, e = .returned (.bool b36) ∧
  J_2 b36 w19)) (J_2 false w1))) (fun J_3 =>
  LoopV [(5, .int .i64), (6, .int .i64)] (fun K => K (0 : Int) ((s0.n : Nat) : Int) w) (fun N => fun (x5_2 : Int) (x6 : Int) (w20 : World) =>
  cond (decide (x5_2 < x6)) (
  Join [(5, .int .i64), (6, .int .i64)] (fun (x5_3 : Int) (x6_2 : Int) (w21 : World) => N x5_3 x6_2 w21) (fun J_4 =>
  (2 : Int) ≠ 0 ∧ ∃ p19 : Pt, s0.a = some ⟨p19.b, p19.o, none⟩ ∧ 0 ≤ (IntKind.wrap .i64 (Int.tdiv (IntKind.wrap .i64 (x5_2 + x6)) (2 : Int))) ∧ (IntKind.wrap .i64 (Int.tdiv (IntKind.wrap .i64 (x5_2 + x6)) (2 : Int))) < ((s0.n : Nat) : Int) ∧ ∃ s20 : Sl, World.cell? w20 ⟨p19.b, (p19.o + Int.toNat (IntKind.wrap .i64 (Int.tdiv (IntKind.wrap .i64 (x5_2 + x6)) (2 : Int))) * 1), none⟩ = some (.slice s20.a s20.n s20.c) ∧ Calls Try.prog 116 [(.slice s20.a s20.n s20.c), (.slice s1.a s1.n s1.c)].toArray w20 (fun e_2 w22 => ∃ b22 : Bool, e_2 = .returned (.bool b22) ∧
  Join [(5, .int .i64), (6, .int .i64)] (fun (x5_4 : Int) (x6_3 : Int) (w23 : World) => J_4 x5_4 x6_3 w23) (fun J_5 =>
  cond b22 (
  J_5 (IntKind.wrap .i64 ((IntKind.wrap .i64 (Int.tdiv (IntKind.wrap .i64 (x5_2 + x6)) (2 : Int))) + (1 : Int))) x6 w22) (
  J_5 x5_2 (IntKind.wrap .i64 (Int.tdiv (IntKind.wrap .i64 (x5_2 + x6)) (2 : Int))) w22))))) (
  J_3 x5_2 w20)))
theorem eq71 (s0 : Sl) (s1 : Sl) (R : Value → World → Prop) (w : World) : funV Try.prog Try.f71 An71 [(.slice s0.a s0.n s0.c), (.slice s1.a s1.n s1.c)] R w = S71 s0 s1 R w := by kernel_rfl
theorem call71 (s0 : Sl) (s1 : Sl) {R : Value → World → Prop} {w : World} (h : S71 s0 s1 R w) : Calls Try.prog 71 [(.slice s0.a s0.n s0.c), (.slice s1.a s1.n s1.c)].toArray w fun e w' => ∃ v, e = .returned v ∧ R v w' :=
  funV_calls mixed Try.func71 (an := An71) (by rw [eq71]; exact h)

/-- F73: cubeb/cubebref03.Fact -/
def An73 : An := (.sq .lf (.sq (.sq .lf (.sq .lf (.cd (.sq .lf .lf) .lf))) (.sq .lf .lf)))
def S73 (x0 : Int) (R : Value → World → Prop) (w : World) : Prop :=
  Let (w.alloc (.cells (zc Try.prog 36) 36)) fun w1 => 
  (42 : Int) ≠ 0 ∧ cond (decide ((Int.tmod x0 (42 : Int)) ≥ (6 : Int))) (
  (42 : Int) ≠ 0 ∧ (6 : Int) ≠ 0 ∧ (6 : Int) ≠ 0 ∧ ∃ (s15 : Sl) (w2 : World), Sem.run Try.prog (Instr.buildSlice 34 2 [(0, (.int .i64 (IntKind.wrap .i64 (Int.tdiv (Int.tmod x0 (42 : Int)) (6 : Int))))), (1, (.int .i64 (IntKind.wrap .i64 ((Int.tmod (Int.tmod x0 (42 : Int)) (6 : Int)) + (1 : Int)))))].toArray) w1 = .ok (.slice s15.a s15.n s15.c) w2 ∧
  StoreOk w2 w.heap.size 0 [(.int .i64 (IntKind.wrap .i64 (Int.tdiv x0 (42 : Int)))), (.slice s15.a s15.n s15.c)] 2 ∧ Let (put w2 w.heap.size 0 [(.int .i64 (IntKind.wrap .i64 (Int.tdiv x0 (42 : Int)))), (.slice s15.a s15.n s15.c)]) fun w3 => 
  ∃ xr2_0 : Int, ∃ sr2_1 : Sl, rd w3 w.heap.size 0 [(.int .i64 xr2_0), (.slice sr2_1.a sr2_1.n sr2_1.c)] ∧ R (.agg [(.int .i64 xr2_0), (.slice sr2_1.a sr2_1.n sr2_1.c)].toArray) w3) (
  (42 : Int) ≠ 0 ∧ (42 : Int) ≠ 0 ∧ ∃ (s22 : Sl) (w4 : World), Sem.run Try.prog (Instr.buildSlice 34 1 [(0, (.int .i64 (IntKind.wrap .i64 ((Int.tmod x0 (42 : Int)) + (1 : Int)))))].toArray) w1 = .ok (.slice s22.a s22.n s22.c) w4 ∧
  StoreOk w4 w.heap.size 0 [(.int .i64 (IntKind.wrap .i64 (Int.tdiv x0 (42 : Int)))), (.slice s22.a s22.n s22.c)] 2 ∧ Let (put w4 w.heap.size 0 [(.int .i64 (IntKind.wrap .i64 (Int.tdiv x0 (42 : Int)))), (.slice s22.a s22.n s22.c)]) fun w5 => 
  ∃ xr2_0_2 : Int, ∃ sr2_1_2 : Sl, rd w5 w.heap.size 0 [(.int .i64 xr2_0_2), (.slice sr2_1_2.a sr2_1_2.n sr2_1_2.c)] ∧ R (.agg [(.int .i64 xr2_0_2), (.slice sr2_1_2.a sr2_1_2.n sr2_1_2.c)].toArray) w5)
theorem eq73 (x0 : Int) (R : Value → World → Prop) (w : World) : funV Try.prog Try.f73 An73 [(.int .i64 x0)] R w = S73 x0 R w := by kernel_rfl
theorem call73 (x0 : Int) {R : Value → World → Prop} {w : World} (h : S73 x0 R w) : Calls Try.prog 73 [(.int .i64 x0)].toArray w fun e w' => ∃ v, e = .returned v ∧ R v w' :=
  funV_calls mixed Try.func73 (an := An73) (by rw [eq73]; exact h)

/-- F27: cubeb/cubebref03.List -/
def An27 : An := (.sq .lf (.sq .lf (.sq (.sq .lf (.bk [(3, .slice)] (.lp [(3, .slice), (10, .int .i64)] (.sq .lf (.sq (.cd .lf .lf) (.sq (.bk [(3, .slice)] (.sq .lf (.sq .lf (.cj [(3, .slice)] .lf .lf)))) .lf)))))) (.sq .lf (.sq (.sq .lf (.bk [(6, .slice)] (.lp [(6, .slice), (23, .int .i64)] (.sq .lf (.sq (.cd .lf .lf) (.sq (.bk [(6, .slice)] (.sq .lf (.dr [0, 1, 2, 3, 4, 5, 6, 7, 8, 9] [] true none))) .lf)))))) (.sq .lf .lf))))))
def S27 (cs0 : List Value) (R : Value → World → Prop) (w : World) : Prop :=
  Let (w.alloc (.cells cs0.toArray 43)) fun w1 => 
  ∃ cs9 : List Value, cs9.length = 252 ∧ rd w1 w.heap.size 0 cs9 ∧ Join [(3, .slice)] (fun (s3 : Sl) (w2 : World) => Join [(6, .slice)] (fun (s6 : Sl) (w3 : World) => R (.slice s6.a s6.n s6.c) w3) (fun J =>
  LoopV [(6, .slice), (23, .int .i64)] (fun K => K ⟨none, 0, 0⟩ (0 : Int) w2) (fun N => fun (s6_2 : Sl) (x23 : Int) (w4 : World) =>
  cond (decide (x23 < ((s3.n : Nat) : Int))) (
  Join [(6, .slice)] (fun (s6_3 : Sl) (w5 : World) => N ⟨s6_3.a, s6_3.n, s6_3.c⟩ (IntKind.wrap .i64 (x23 + (1 : Int))) w5) (fun J_2 =>
  ∃ p25 : Pt, s3.a = some ⟨p25.b, p25.o, none⟩ ∧ 0 ≤ x23 ∧ x23 < ((s3.n : Nat) : Int) ∧ ∃ s26 : Sl, World.cell? w4 ⟨p25.b, (p25.o + Int.toNat x23 * 1), none⟩ = some (.slice s26.a s26.n s26.c) ∧ ∃ S1 : World → Prop, S1 w4.drew ∧ Let w4.drew fun w6 =>
  ∃ p29 : Pt, s26.a = some ⟨p29.b, p29.o, none⟩ ∧ 0 ≤ (0 : Int) ∧ (0 : Int) < ((s26.n : Nat) : Int) ∧ ∃ x30 : Int, (∀ u, S1 u → World.cell? u ⟨p29.b, (p29.o + Int.toNat (0 : Int) * 1), none⟩ = some (.int .i64 x30)) ∧ 0 ≤ (1 : Int) ∧ (1 : Int) ≤ ((s26.n : Nat) : Int) ∧ ∃ (s34 : Sl) (w7 : World), Sem.run Try.prog (Instr.buildSlice 23 1 [(0, (.agg [(.int .i64 x30), (.slice (subA s26.a s26.c (Int.toNat (1 : Int)) 1) (s26.n - (Int.toNat (1 : Int))) (s26.c - (Int.toNat (1 : Int))))].toArray))].toArray) w6 = .ok (.slice s34.a s34.n s34.c) w7 ∧
  S1 w7 ∧ ∃ (s35 : Sl) (w8 : World), Sem.run Try.prog (Builtin.append_ #[23, 23] 23 #[(.slice s6_2.a s6_2.n s6_2.c), (.slice s34.a s34.n s34.c)]) w7 = .ok (.slice s35.a s35.n s35.c) w8 ∧
  S1 w8 ∧ J_2 ⟨s35.a, s35.n, s35.c⟩ w8)) (
  J ⟨s6_2.a, s6_2.n, s6_2.c⟩ w4)))) (fun J_3 =>
  LoopV [(3, .slice), (10, .int .i64)] (fun K => K ⟨none, 0, 0⟩ (0 : Int) w1) (fun N_2 => fun (s3_2 : Sl) (x10 : Int) (w9 : World) =>
  cond (decide (x10 < (252 : Int))) (
  Join [(3, .slice)] (fun (s3_3 : Sl) (w10 : World) => N_2 ⟨s3_3.a, s3_3.n, s3_3.c⟩ (IntKind.wrap .i64 (x10 + (1 : Int))) w10) (fun J_4 =>
  0 ≤ x10 ∧ x10 < ((252 : Nat) : Int) ∧ ∃ b13 : Bool, (cs9 : List Value)[Int.toNat x10]? = some (.bool b13) ∧ Join [(3, .slice)] (fun (s3_4 : Sl) (w11 : World) => J_4 ⟨s3_4.a, s3_4.n, s3_4.c⟩ w11) (fun J_5 =>
  cond b13 (
  Calls Try.prog 73 [(.int .i64 x10)].toArray w9 (fun e w12 => ∃ x17_0 : Int, ∃ s17_1 : Sl, e = .returned (.agg [(.int .i64 x17_0), (.slice s17_1.a s17_1.n s17_1.c)].toArray) ∧
  Calls Try.prog 72 [(.agg [(.int .i64 x17_0), (.slice s17_1.a s17_1.n s17_1.c)].toArray)].toArray w12 (fun e_2 w13 => ∃ s18 : Sl, e_2 = .returned (.slice s18.a s18.n s18.c) ∧
  Calls Try.prog 71 [(.slice s3_2.a s3_2.n s3_2.c), (.slice s18.a s18.n s18.c)].toArray w13 (fun e_3 w14 => ∃ s19 : Sl, e_3 = .returned (.slice s19.a s19.n s19.c) ∧
  J_5 ⟨s19.a, s19.n, s19.c⟩ w14)))) (
  J_5 ⟨s3_2.a, s3_2.n, s3_2.c⟩ w9)))) (
  J_3 ⟨s3_2.a, s3_2.n, s3_2.c⟩ w9)))
theorem eq27 (cs0 : List Value) (R : Value → World → Prop) (w : World) : funV Try.prog Try.f27 An27 [(.agg cs0.toArray)] R w = S27 cs0 R w := by kernel_rfl
theorem call27 (cs0 : List Value) {R : Value → World → Prop} {w : World} (h : S27 cs0 R w) : Calls Try.prog 27 [(.agg cs0.toArray)].toArray w fun e w' => ∃ v, e = .returned v ∧ R v w' :=
  funV_calls mixed Try.func27 (an := An27) (by rw [eq27]; exact h)

/-- F31: cubeb/cubebref03.Ground -/
def An31 : An := (.sq .lf (.sq (.sq .lf (.bk [] (.lp [(8, .int .i64)] (.sq .lf (.sq (.cd .lf .lf) (.sq (.bk [] (.sq .lf (.sq (.rj [] [(17, .bool)]) (.cd (.sq .lf .lf) .lf)))) .lf)))))) (.sq (.rj [] [(2, .bool)]) .lf)))
def S31 (x0_0 : Int) (s0_1 : Sl) (R : Value → World → Prop) (w : World) : Prop :=
  Let (w.alloc (.cells [(.int .i64 x0_0), (.slice s0_1.a s0_1.n s0_1.c)].toArray 36)) fun w1 => 
  ∃ s6 : Sl, World.cell? w1 ⟨w.heap.size, (0 + 1), none⟩ = some (.slice s6.a s6.n s6.c) ∧ Join [] (fun (w2 : World) => Join [(2, .bool)] (fun (b2 : Bool) (w3 : World) => R (.bool b2) w3) (fun J =>
  ∃ x20 : Int, World.cell? w2 ⟨w.heap.size, (0 + 0), none⟩ = some (.int .i64 x20) ∧ cond (decide (x20 ≥ (0 : Int))) (∃ x24 : Int, World.cell? w2 ⟨w.heap.size, (0 + 0), none⟩ = some (.int .i64 x24) ∧ cond (decide (x24 ≤ (5 : Int))) (∃ s29 : Sl, World.cell? w2 ⟨w.heap.size, (0 + 1), none⟩ = some (.slice s29.a s29.n s29.c) ∧ cond (decide (((s29.n : Nat) : Int) ≥ (1 : Int))) (∃ s35 : Sl, World.cell? w2 ⟨w.heap.size, (0 + 1), none⟩ = some (.slice s35.a s35.n s35.c) ∧ J (decide (((s35.n : Nat) : Int) ≤ (2 : Int))) w2) (J false w2)) (J false w2)) (J false w2))) (fun J_2 =>
  LoopV [(8, .int .i64)] (fun K => K (0 : Int) w1) (fun N => fun (x8 : Int) (w4 : World) =>
  cond (decide (x8 < ((s6.n : Nat) : Int))) (
  Join [] (fun (w5 : World) => N (IntKind.wrap .i64 (x8 + (1 : Int))) w5) (fun J_3 =>
  ∃ p10 : Pt, s6.a = some ⟨p10.b, p10.o, none⟩ ∧ 0 ≤ x8 ∧ x8 < ((s6.n : Nat) : Int) ∧ ∃ x11 : Int, World.cell? w4 ⟨p10.b, (p10.o + Int.toNat x8 * 1), none⟩ = some (.int .i64 x11) ∧ Join [(17, .bool)] (fun (b17 : Bool) (w6 : World) => cond b17 (
  R (.bool false) w6) (
  J_3 w6)) (fun J_4 =>
  cond (decide (x11 < (1 : Int))) (J_4 true w4) (J_4 (decide (x11 > (6 : Int))) w4)))) (
  J_2 w4)))
theorem eq31 (x0_0 : Int) (s0_1 : Sl) (R : Value → World → Prop) (w : World) : funV Try.prog Try.f31 An31 [(.agg [(.int .i64 x0_0), (.slice s0_1.a s0_1.n s0_1.c)].toArray)] R w = S31 x0_0 s0_1 R w := by kernel_rfl
theorem call31 (x0_0 : Int) (s0_1 : Sl) {R : Value → World → Prop} {w : World} (h : S31 x0_0 s0_1 R w) : Calls Try.prog 31 [(.agg [(.int .i64 x0_0), (.slice s0_1.a s0_1.n s0_1.c)].toArray)].toArray w fun e w' => ∃ v, e = .returned v ∧ R v w' :=
  funV_calls mixed Try.func31 (an := An31) (by rw [eq31]; exact h)

/-- F62: cubeb/cubebref03.fits -/
def An62 : An := (.sq .lf (.sq (.sq .lf (.bk [] (.lp [(8, .int .i64)] (.sq .lf (.sq (.cd .lf .lf) (.sq (.bk [] (.sq .lf (.sq (.rj [] [(17, .bool)]) (.cd (.sq .lf .lf) .lf)))) .lf)))))) (.sq (.rj [] [(2, .bool)]) .lf)))
def S62 (x0_0 : Int) (s0_1 : Sl) (R : Value → World → Prop) (w : World) : Prop :=
  Let (w.alloc (.cells [(.int .i64 x0_0), (.slice s0_1.a s0_1.n s0_1.c)].toArray 91)) fun w1 => 
  ∃ s6 : Sl, World.cell? w1 ⟨w.heap.size, (0 + 1), none⟩ = some (.slice s6.a s6.n s6.c) ∧ Join [] (fun (w2 : World) => Join [(2, .bool)] (fun (b2 : Bool) (w3 : World) => R (.bool b2) w3) (fun J =>
  ∃ x20 : Int, World.cell? w2 ⟨w.heap.size, (0 + 0), none⟩ = some (.int .i64 x20) ∧ cond (decide (x20 ≥ (0 : Int))) (∃ x24 : Int, World.cell? w2 ⟨w.heap.size, (0 + 0), none⟩ = some (.int .i64 x24) ∧ cond (decide (x24 ≤ (5 : Int))) (∃ s29 : Sl, World.cell? w2 ⟨w.heap.size, (0 + 1), none⟩ = some (.slice s29.a s29.n s29.c) ∧ cond (decide (((s29.n : Nat) : Int) ≥ (1 : Int))) (∃ s35 : Sl, World.cell? w2 ⟨w.heap.size, (0 + 1), none⟩ = some (.slice s35.a s35.n s35.c) ∧ J (decide (((s35.n : Nat) : Int) ≤ (2 : Int))) w2) (J false w2)) (J false w2)) (J false w2))) (fun J_2 =>
  LoopV [(8, .int .i64)] (fun K => K (0 : Int) w1) (fun N => fun (x8 : Int) (w4 : World) =>
  cond (decide (x8 < ((s6.n : Nat) : Int))) (
  Join [] (fun (w5 : World) => N (IntKind.wrap .i64 (x8 + (1 : Int))) w5) (fun J_3 =>
  ∃ p10 : Pt, s6.a = some ⟨p10.b, p10.o, none⟩ ∧ 0 ≤ x8 ∧ x8 < ((s6.n : Nat) : Int) ∧ ∃ x11 : Int, World.cell? w4 ⟨p10.b, (p10.o + Int.toNat x8 * 1), none⟩ = some (.int .i64 x11) ∧ Join [(17, .bool)] (fun (b17 : Bool) (w6 : World) => cond b17 (
  R (.bool false) w6) (
  J_3 w6)) (fun J_4 =>
  cond (decide (x11 < (-6 : Int))) (J_4 true w4) (J_4 (decide (x11 > (7 : Int))) w4)))) (
  J_2 w4)))
theorem eq62 (x0_0 : Int) (s0_1 : Sl) (R : Value → World → Prop) (w : World) : funV Try.prog Try.f62 An62 [(.agg [(.int .i64 x0_0), (.slice s0_1.a s0_1.n s0_1.c)].toArray)] R w = S62 x0_0 s0_1 R w := by kernel_rfl
theorem call62 (x0_0 : Int) (s0_1 : Sl) {R : Value → World → Prop} {w : World} (h : S62 x0_0 s0_1 R w) : Calls Try.prog 62 [(.agg [(.int .i64 x0_0), (.slice s0_1.a s0_1.n s0_1.c)].toArray)].toArray w fun e w' => ∃ v, e = .returned v ∧ R v w' :=
  funV_calls mixed Try.func62 (an := An62) (by rw [eq62]; exact h)

/-- F63: cubeb/cubebref02.Vars -/
def An63 : An := (.sq .lf (.sq .lf (.sq (.sq .lf (.bk [(3, .int .i64)] (.lp [(3, .int .i64), (9, .int .i64)] (.sq .lf (.sq (.cd .lf .lf) (.sq (.bk [(3, .int .i64)] (.sq .lf (.sq .lf (.cj [(3, .int .i64)] .lf .lf)))) .lf)))))) (.sq .lf .lf))))
def S63 (x0_0 : Int) (s0_1 : Sl) (R : Value → World → Prop) (w : World) : Prop :=
  Let (w.alloc (.cells [(.int .i64 x0_0), (.slice s0_1.a s0_1.n s0_1.c)].toArray 91)) fun w1 => 
  ∃ s7 : Sl, World.cell? w1 ⟨w.heap.size, (0 + 1), none⟩ = some (.slice s7.a s7.n s7.c) ∧ Join [(3, .int .i64)] (fun (x3 : Int) (w2 : World) => R (.int .i64 x3) w2) (fun J =>
  LoopV [(3, .int .i64), (9, .int .i64)] (fun K => K (0 : Int) (0 : Int) w1) (fun N => fun (x3_2 : Int) (x9 : Int) (w3 : World) =>
  cond (decide (x9 < ((s7.n : Nat) : Int))) (
  Join [(3, .int .i64)] (fun (x3_3 : Int) (w4 : World) => N x3_3 (IntKind.wrap .i64 (x9 + (1 : Int))) w4) (fun J_2 =>
  ∃ p11 : Pt, s7.a = some ⟨p11.b, p11.o, none⟩ ∧ 0 ≤ x9 ∧ x9 < ((s7.n : Nat) : Int) ∧ ∃ x12 : Int, World.cell? w3 ⟨p11.b, (p11.o + Int.toNat x9 * 1), none⟩ = some (.int .i64 x12) ∧ Join [(3, .int .i64)] (fun (x3_4 : Int) (w5 : World) => J_2 x3_4 w5) (fun J_3 =>
  cond (decide (x12 ≥ (0 : Int))) (
  0 ≤ x12 ∧ J_3 (bitsI .or .i64 x3_2 (IntKind.wrap .i64 ((1 : Int) * 2 ^ (min (Int.toNat x12) (IntKind.bits .i64))))) w3) (
  J_3 x3_2 w3)))) (
  J x3_2 w3)))
theorem eq63 (x0_0 : Int) (s0_1 : Sl) (R : Value → World → Prop) (w : World) : funV Try.prog Try.f63 An63 [(.agg [(.int .i64 x0_0), (.slice s0_1.a s0_1.n s0_1.c)].toArray)] R w = S63 x0_0 s0_1 R w := by kernel_rfl
theorem call63 (x0_0 : Int) (s0_1 : Sl) {R : Value → World → Prop} {w : World} (h : S63 x0_0 s0_1 R w) : Calls Try.prog 63 [(.agg [(.int .i64 x0_0), (.slice s0_1.a s0_1.n s0_1.c)].toArray)].toArray w fun e w' => ∃ v, e = .returned v ∧ R v w' :=
  funV_calls mixed Try.func63 (an := An63) (by rw [eq63]; exact h)

/-- F22: cubeb/cubebref03.Valid -/
def An22 : An := (.sq .lf (.sq (.sq (.rj [] [(25, .bool)]) (.cd (.sq .lf .lf) .lf)) (.sq .lf (.sq (.sq .lf (.bk [(5, .slice)] (.lp [(5, .slice), (28, .int .i64)] (.sq .lf (.sq (.cd .lf .lf) (.sq (.bk [(5, .slice)] (.sq .lf (.sq (.sq .lf (.cd (.sq .lf .lf) .lf)) .lf))) .lf)))))) (.sq (.sq .lf (.bk [(5, .slice)] (.lp [(5, .slice), (47, .int .i64)] (.sq .lf (.sq (.cd .lf .lf) (.sq (.bk [(5, .slice)] (.sq .lf (.sq (.sq (.rj [] [(60, .bool)]) (.cd (.sq .lf .lf) .lf)) (.sq .lf (.sq .lf (.sq (.sq .lf (.bk [(5, .slice), (10, .int .i64), (11, .int .i64)] (.lp [(5, .slice), (10, .int .i64), (11, .int .i64), (78, .int .i64)] (.sq .lf (.sq (.cd .lf .lf) (.sq (.bk [(5, .slice), (10, .int .i64), (11, .int .i64)] (.sq .lf (.sq (.sq .lf (.cd (.sq .lf .lf) .lf)) (.sq .lf (.sq .lf (.sq .lf (.cj [(11, .int .i64)] .lf .lf))))))) .lf)))))) (.sq .lf (.cd (.sq .lf .lf) .lf)))))))) .lf)))))) (.sq (.sq .lf (.bk [] (.lp [(117, .int .i64)] (.sq .lf (.sq (.cd .lf .lf) (.sq (.bk [] (.sq .lf (.sq .lf (.bk [] (.lp [(123, .int .i64)] (.sq .lf (.sq (.cd .lf .lf) (.sq (.bk [] (.sq .lf (.sq (.rj [] [(138, .bool)]) (.cd (.sq .lf .lf) .lf)))) .lf)))))))) .lf)))))) (.sq .lf .lf)))))))
def S22 (s0 : Sl) (s1 : Sl) (R : Value → World → Prop) (w : World) : Prop :=
  Join [(25, .bool)] (fun (b25 : Bool) (w1 : World) => cond b25 (
  R (.bool false) w1) (
  Join [(5, .slice)] (fun (s5 : Sl) (w2 : World) => Join [(5, .slice)] (fun (s5_2 : Sl) (w3 : World) => Join [] (fun (w4 : World) => R (.bool true) w4) (fun J =>
  LoopV [(117, .int .i64)] (fun K => K (0 : Int) w3) (fun N => fun (x117 : Int) (w5 : World) =>
  cond (decide (x117 < ((s5_2.n : Nat) : Int))) (
  Join [] (fun (w6 : World) => N (IntKind.wrap .i64 (x117 + (1 : Int))) w6) (fun J_2 =>
  ∃ p119 : Pt, s5_2.a = some ⟨p119.b, p119.o, none⟩ ∧ 0 ≤ x117 ∧ x117 < ((s5_2.n : Nat) : Int) ∧ ∃ x120_0 : Int, ∃ x120_1 : Int, rd w5 p119.b (p119.o + Int.toNat x117 * 2) [(.int .i64 x120_0), (.int .i64 x120_1)] ∧ Let (w5.alloc (.cells (zc Try.prog 114) 114)) fun w7 => 
  StoreOk w7 w5.heap.size 0 [(.int .i64 x120_0), (.int .i64 x120_1)] 2 ∧ Let (put w7 w5.heap.size 0 [(.int .i64 x120_0), (.int .i64 x120_1)]) fun w8 => 
  Join [] (fun (w9 : World) => J_2 w9) (fun J_3 =>
  LoopV [(123, .int .i64)] (fun K => K (0 : Int) w8) (fun N_2 => fun (x123 : Int) (w10 : World) =>
  cond (decide (x123 < ((s5_2.n : Nat) : Int))) (
  Join [] (fun (w11 : World) => N_2 (IntKind.wrap .i64 (x123 + (1 : Int))) w11) (fun J_4 =>
  ∃ p125 : Pt, s5_2.a = some ⟨p125.b, p125.o, none⟩ ∧ 0 ≤ x123 ∧ x123 < ((s5_2.n : Nat) : Int) ∧ ∃ x126_0 : Int, ∃ x126_1 : Int, rd w10 p125.b (p125.o + Int.toNat x123 * 2) [(.int .i64 x126_0), (.int .i64 x126_1)] ∧ Let (w10.alloc (.cells (zc Try.prog 114) 114)) fun w12 => 
  StoreOk w12 w10.heap.size 0 [(.int .i64 x126_0), (.int .i64 x126_1)] 2 ∧ Let (put w12 w10.heap.size 0 [(.int .i64 x126_0), (.int .i64 x126_1)]) fun w13 => 
  Join [(138, .bool)] (fun (b138 : Bool) (w14 : World) => cond b138 (
  R (.bool false) w14) (
  J_4 w14)) (fun J_5 =>
  0 ≤ (0 : Int) ∧ (0 : Int) < ((2 : Nat) : Int) ∧ ∃ x128 : Int, World.cell? w13 ⟨w5.heap.size, (0 + Int.toNat (0 : Int) * 1), none⟩ = some (.int .i64 x128) ∧ 0 ≤ (0 : Int) ∧ (0 : Int) < ((2 : Nat) : Int) ∧ ∃ x130 : Int, World.cell? w13 ⟨w10.heap.size, (0 + Int.toNat (0 : Int) * 1), none⟩ = some (.int .i64 x130) ∧ cond (x128 == x130) (0 ≤ (1 : Int) ∧ (1 : Int) < ((2 : Nat) : Int) ∧ ∃ x134 : Int, World.cell? w13 ⟨w5.heap.size, (0 + Int.toNat (1 : Int) * 1), none⟩ = some (.int .i64 x134) ∧ 0 ≤ (1 : Int) ∧ (1 : Int) < ((2 : Nat) : Int) ∧ ∃ x136 : Int, World.cell? w13 ⟨w10.heap.size, (0 + Int.toNat (1 : Int) * 1), none⟩ = some (.int .i64 x136) ∧ J_5 (x134 != x136) w13) (J_5 false w13)))) (
  J_3 w10))))) (
  J w5)))) (fun J_6 =>
  LoopV [(5, .slice), (47, .int .i64)] (fun K => K ⟨s5.a, s5.n, s5.c⟩ (0 : Int) w2) (fun N_3 => fun (s5_3 : Sl) (x47 : Int) (w15 : World) =>
  cond (decide (x47 < ((s0.n : Nat) : Int))) (
  Join [(5, .slice)] (fun (s5_4 : Sl) (w16 : World) => N_3 ⟨s5_4.a, s5_4.n, s5_4.c⟩ (IntKind.wrap .i64 (x47 + (1 : Int))) w16) (fun J_7 =>
  ∃ p49 : Pt, s0.a = some ⟨p49.b, p49.o, none⟩ ∧ 0 ≤ x47 ∧ x47 < ((s0.n : Nat) : Int) ∧ ∃ x50_0 : Int, ∃ s50_1 : Sl, ∃ s50_2 : Sl, rd w15 p49.b (p49.o + Int.toNat x47 * 3) [(.int .i64 x50_0), (.slice s50_1.a s50_1.n s50_1.c), (.slice s50_2.a s50_2.n s50_2.c)] ∧ Let (w15.alloc (.cells (zc Try.prog 94) 94)) fun w17 => 
  StoreOk w17 w15.heap.size 0 [(.int .i64 x50_0), (.slice s50_1.a s50_1.n s50_1.c), (.slice s50_2.a s50_2.n s50_2.c)] 3 ∧ Let (put w17 w15.heap.size 0 [(.int .i64 x50_0), (.slice s50_1.a s50_1.n s50_1.c), (.slice s50_2.a s50_2.n s50_2.c)]) fun w18 => 
  Join [(60, .bool)] (fun (b60 : Bool) (w19 : World) => cond b60 (
  R (.bool false) w19) (
  ∃ x64 : Int, World.cell? w19 ⟨w15.heap.size, ((0 + 0) + 0), none⟩ = some (.int .i64 x64) ∧ ∃ s67 : Sl, World.cell? w19 ⟨w15.heap.size, ((0 + 0) + 1), none⟩ = some (.slice s67.a s67.n s67.c) ∧ ∃ (s70 : Sl) (w20 : World), Sem.run Try.prog (Instr.buildSlice 113 1 [(0, (.agg [(.int .i64 x64), (.int .i64 ((s67.n : Nat) : Int))].toArray))].toArray) w19 = .ok (.slice s70.a s70.n s70.c) w20 ∧
  ∃ (s71 : Sl) (w21 : World), Sem.run Try.prog (Builtin.append_ #[113, 113] 113 #[(.slice s5_3.a s5_3.n s5_3.c), (.slice s70.a s70.n s70.c)]) w20 = .ok (.slice s71.a s71.n s71.c) w21 ∧
  ∃ x73_0 : Int, ∃ s73_1 : Sl, rd w21 w15.heap.size (0 + 0) [(.int .i64 x73_0), (.slice s73_1.a s73_1.n s73_1.c)] ∧ Calls Try.prog 63 [(.agg [(.int .i64 x73_0), (.slice s73_1.a s73_1.n s73_1.c)].toArray)].toArray w21 (fun e w22 => ∃ x74 : Int, e = .returned (.int .i64 x74) ∧
  ∃ s76 : Sl, World.cell? w22 ⟨w15.heap.size, (0 + 2), none⟩ = some (.slice s76.a s76.n s76.c) ∧ Join [(5, .slice), (10, .int .i64), (11, .int .i64)] (fun (s5_5 : Sl) (x10 : Int) (x11 : Int) (w23 : World) => cond (x10 != x11) (
  R (.bool false) w23) (
  J_7 ⟨s5_5.a, s5_5.n, s5_5.c⟩ w23)) (fun J_8 =>
  LoopV [(5, .slice), (10, .int .i64), (11, .int .i64), (78, .int .i64)] (fun K => K ⟨s71.a, s71.n, s71.c⟩ x74 (0 : Int) (0 : Int) w22) (fun N_4 => fun (s5_6 : Sl) (x10_2 : Int) (x11_2 : Int) (x78 : Int) (w24 : World) =>
  cond (decide (x78 < ((s76.n : Nat) : Int))) (
  Join [(5, .slice), (10, .int .i64), (11, .int .i64)] (fun (s5_7 : Sl) (x10_3 : Int) (x11_3 : Int) (w25 : World) => N_4 ⟨s5_7.a, s5_7.n, s5_7.c⟩ x10_3 x11_3 (IntKind.wrap .i64 (x78 + (1 : Int))) w25) (fun J_9 =>
  ∃ p80 : Pt, s76.a = some ⟨p80.b, p80.o, none⟩ ∧ 0 ≤ x78 ∧ x78 < ((s76.n : Nat) : Int) ∧ ∃ b81_0 : Bool, ∃ x81_1 : Int, ∃ s81_2 : Sl, rd w24 p80.b (p80.o + Int.toNat x78 * 3) [(.bool b81_0), (.int .i64 x81_1), (.slice s81_2.a s81_2.n s81_2.c)] ∧ Let (w24.alloc (.cells (zc Try.prog 96) 96)) fun w26 => 
  StoreOk w26 w24.heap.size 0 [(.bool b81_0), (.int .i64 x81_1), (.slice s81_2.a s81_2.n s81_2.c)] 3 ∧ Let (put w26 w24.heap.size 0 [(.bool b81_0), (.int .i64 x81_1), (.slice s81_2.a s81_2.n s81_2.c)]) fun w27 => 
  ∃ x83_0 : Int, ∃ s83_1 : Sl, rd w27 w24.heap.size (0 + 1) [(.int .i64 x83_0), (.slice s83_1.a s83_1.n s83_1.c)] ∧ Calls Try.prog 62 [(.agg [(.int .i64 x83_0), (.slice s83_1.a s83_1.n s83_1.c)].toArray)].toArray w27 (fun e_2 w28 => ∃ b84 : Bool, e_2 = .returned (.bool b84) ∧
  cond (!b84) (
  R (.bool false) w28) (
  ∃ x89 : Int, World.cell? w28 ⟨w24.heap.size, ((0 + 1) + 0), none⟩ = some (.int .i64 x89) ∧ ∃ s92 : Sl, World.cell? w28 ⟨w24.heap.size, ((0 + 1) + 1), none⟩ = some (.slice s92.a s92.n s92.c) ∧ ∃ (s95 : Sl) (w29 : World), Sem.run Try.prog (Instr.buildSlice 113 1 [(0, (.agg [(.int .i64 x89), (.int .i64 ((s92.n : Nat) : Int))].toArray))].toArray) w28 = .ok (.slice s95.a s95.n s95.c) w29 ∧
  ∃ (s96 : Sl) (w30 : World), Sem.run Try.prog (Builtin.append_ #[113, 113] 113 #[(.slice s5_6.a s5_6.n s5_6.c), (.slice s95.a s95.n s95.c)]) w29 = .ok (.slice s96.a s96.n s96.c) w30 ∧
  ∃ x99_0 : Int, ∃ s99_1 : Sl, rd w30 w24.heap.size (0 + 1) [(.int .i64 x99_0), (.slice s99_1.a s99_1.n s99_1.c)] ∧ Calls Try.prog 63 [(.agg [(.int .i64 x99_0), (.slice s99_1.a s99_1.n s99_1.c)].toArray)].toArray w30 (fun e_3 w31 => ∃ x100 : Int, e_3 = .returned (.int .i64 x100) ∧
  ∃ b103 : Bool, World.cell? w31 ⟨w24.heap.size, (0 + 0), none⟩ = some (.bool b103) ∧ Join [(11, .int .i64)] (fun (x11_4 : Int) (w32 : World) => J_9 ⟨s96.a, s96.n, s96.c⟩ (bitsI .or .i64 x10_2 x100) x11_4 w32) (fun J_10 =>
  cond (!b103) (
  ∃ x107_0 : Int, ∃ s107_1 : Sl, rd w31 w24.heap.size (0 + 1) [(.int .i64 x107_0), (.slice s107_1.a s107_1.n s107_1.c)] ∧ Calls Try.prog 63 [(.agg [(.int .i64 x107_0), (.slice s107_1.a s107_1.n s107_1.c)].toArray)].toArray w31 (fun e_4 w33 => ∃ x108 : Int, e_4 = .returned (.int .i64 x108) ∧
  J_10 (bitsI .or .i64 x11_2 x108) w33)) (
  J_10 x11_2 w31))))))) (
  J_8 ⟨s5_6.a, s5_6.n, s5_6.c⟩ x10_2 x11_2 w24)))))) (fun J_11 =>
  ∃ x52_0 : Int, ∃ s52_1 : Sl, rd w18 w15.heap.size (0 + 0) [(.int .i64 x52_0), (.slice s52_1.a s52_1.n s52_1.c)] ∧ Calls Try.prog 62 [(.agg [(.int .i64 x52_0), (.slice s52_1.a s52_1.n s52_1.c)].toArray)].toArray w18 (fun e_5 w34 => ∃ b53 : Bool, e_5 = .returned (.bool b53) ∧
  cond (!b53) (J_11 true w34) (∃ s57 : Sl, World.cell? w34 ⟨w15.heap.size, (0 + 2), none⟩ = some (.slice s57.a s57.n s57.c) ∧ J_11 (decide (((s57.n : Nat) : Int) > (3 : Int))) w34))))) (
  J_6 ⟨s5_3.a, s5_3.n, s5_3.c⟩ w15)))) (fun J_12 =>
  LoopV [(5, .slice), (28, .int .i64)] (fun K => K ⟨none, 0, 0⟩ (0 : Int) w1) (fun N_5 => fun (s5_8 : Sl) (x28 : Int) (w35 : World) =>
  cond (decide (x28 < ((s1.n : Nat) : Int))) (
  Join [(5, .slice)] (fun (s5_9 : Sl) (w36 : World) => N_5 ⟨s5_9.a, s5_9.n, s5_9.c⟩ (IntKind.wrap .i64 (x28 + (1 : Int))) w36) (fun J_13 =>
  ∃ p30 : Pt, s1.a = some ⟨p30.b, p30.o, none⟩ ∧ 0 ≤ x28 ∧ x28 < ((s1.n : Nat) : Int) ∧ ∃ x31_0 : Int, ∃ s31_1 : Sl, rd w35 p30.b (p30.o + Int.toNat x28 * 2) [(.int .i64 x31_0), (.slice s31_1.a s31_1.n s31_1.c)] ∧ Let (w35.alloc (.cells (zc Try.prog 36) 36)) fun w37 => 
  StoreOk w37 w35.heap.size 0 [(.int .i64 x31_0), (.slice s31_1.a s31_1.n s31_1.c)] 2 ∧ Let (put w37 w35.heap.size 0 [(.int .i64 x31_0), (.slice s31_1.a s31_1.n s31_1.c)]) fun w38 => 
  ∃ x32_0 : Int, ∃ s32_1 : Sl, rd w38 w35.heap.size 0 [(.int .i64 x32_0), (.slice s32_1.a s32_1.n s32_1.c)] ∧ Calls Try.prog 31 [(.agg [(.int .i64 x32_0), (.slice s32_1.a s32_1.n s32_1.c)].toArray)].toArray w38 (fun e_6 w39 => ∃ b33 : Bool, e_6 = .returned (.bool b33) ∧
  cond (!b33) (
  R (.bool false) w39) (
  ∃ x37 : Int, World.cell? w39 ⟨w35.heap.size, (0 + 0), none⟩ = some (.int .i64 x37) ∧ ∃ s39 : Sl, World.cell? w39 ⟨w35.heap.size, (0 + 1), none⟩ = some (.slice s39.a s39.n s39.c) ∧ ∃ (s42 : Sl) (w40 : World), Sem.run Try.prog (Instr.buildSlice 113 1 [(0, (.agg [(.int .i64 x37), (.int .i64 ((s39.n : Nat) : Int))].toArray))].toArray) w39 = .ok (.slice s42.a s42.n s42.c) w40 ∧
  ∃ (s43 : Sl) (w41 : World), Sem.run Try.prog (Builtin.append_ #[113, 113] 113 #[(.slice s5_8.a s5_8.n s5_8.c), (.slice s42.a s42.n s42.c)]) w40 = .ok (.slice s43.a s43.n s43.c) w41 ∧
  J_13 ⟨s43.a, s43.n, s43.c⟩ w41)))) (
  J_12 ⟨s5_8.a, s5_8.n, s5_8.c⟩ w35))))) (fun J_14 =>
  cond (decide (((s0.n : Nat) : Int) > (10 : Int))) (J_14 true w) (J_14 (decide (((s1.n : Nat) : Int) > (20 : Int))) w))
theorem eq22 (s0 : Sl) (s1 : Sl) (R : Value → World → Prop) (w : World) : funV Try.prog Try.f22 An22 [(.slice s0.a s0.n s0.c), (.slice s1.a s1.n s1.c)] R w = S22 s0 s1 R w := by kernel_rfl
theorem call22 (s0 : Sl) (s1 : Sl) {R : Value → World → Prop} {w : World} (h : S22 s0 s1 R w) : Calls Try.prog 22 [(.slice s0.a s0.n s0.c), (.slice s1.a s1.n s1.c)].toArray w fun e w' => ∃ v, e = .returned v ∧ R v w' :=
  funV_calls mixed Try.func22 (an := An22) (by rw [eq22]; exact h)

/-- F69: cubeb/cubebref03.Of -/
def An69 : An := (.sq .lf (.sq .lf (.sq (.sq .lf (.bk [] (.lp [(8, .int .i64)] (.sq .lf (.sq (.cd .lf .lf) (.sq (.bk [] (.sq .lf .lf)) .lf)))))) (.sq .lf .lf))))
def S69 (s0 : Sl) (R : Value → World → Prop) (w : World) : Prop :=
  Let (w.alloc (.cells (zc Try.prog 43) 43)) fun w1 => 
  Let (w1.alloc (.cells (zc Try.prog 43) 43)) fun w2 => 
  Join [] (fun (w3 : World) => ∃ cs19 : List Value, cs19.length = 252 ∧ rd w3 w1.heap.size 0 cs19 ∧ StoreOk w3 w.heap.size 0 cs19 252 ∧ Let (put w3 w.heap.size 0 cs19) fun w4 => 
  ∃ csr2 : List Value, csr2.length = 252 ∧ rd w4 w.heap.size 0 csr2 ∧ R (.agg csr2.toArray) w4) (fun J =>
  LoopV [(8, .int .i64)] (fun K => K (0 : Int) w2) (fun N => fun (x8 : Int) (w5 : World) =>
  cond (decide (x8 < ((s0.n : Nat) : Int))) (
  Join [] (fun (w6 : World) => N (IntKind.wrap .i64 (x8 + (1 : Int))) w6) (fun J_2 =>
  ∃ p10 : Pt, s0.a = some ⟨p10.b, p10.o, none⟩ ∧ 0 ≤ x8 ∧ x8 < ((s0.n : Nat) : Int) ∧ ∃ x11_0 : Int, ∃ s11_1 : Sl, rd w5 p10.b (p10.o + Int.toNat x8 * 2) [(.int .i64 x11_0), (.slice s11_1.a s11_1.n s11_1.c)] ∧ Let (w5.alloc (.cells (zc Try.prog 36) 36)) fun w7 => 
  StoreOk w7 w5.heap.size 0 [(.int .i64 x11_0), (.slice s11_1.a s11_1.n s11_1.c)] 2 ∧ Let (put w7 w5.heap.size 0 [(.int .i64 x11_0), (.slice s11_1.a s11_1.n s11_1.c)]) fun w8 => 
  ∃ x13 : Int, World.cell? w8 ⟨w5.heap.size, (0 + 0), none⟩ = some (.int .i64 x13) ∧ ∃ s15 : Sl, World.cell? w8 ⟨w5.heap.size, (0 + 1), none⟩ = some (.slice s15.a s15.n s15.c) ∧ Calls Try.prog 94 [(.int .i64 x13), (.slice s15.a s15.n s15.c)].toArray w8 (fun e w9 => ∃ x16 : Int, e = .returned (.int .i64 x16) ∧
  0 ≤ x16 ∧ x16 < ((252 : Nat) : Int) ∧ StoreOk w9 w1.heap.size (0 + Int.toNat x16 * 1) [(.bool true)] 1 ∧ Let (put w9 w1.heap.size (0 + Int.toNat x16 * 1) [(.bool true)]) fun w10 => 
  J_2 w10))) (
  J w5)))
theorem eq69 (s0 : Sl) (R : Value → World → Prop) (w : World) : funV Try.prog Try.f69 An69 [(.slice s0.a s0.n s0.c)] R w = S69 s0 R w := by kernel_rfl
theorem call69 (s0 : Sl) {R : Value → World → Prop} {w : World} (h : S69 s0 R w) : Calls Try.prog 69 [(.slice s0.a s0.n s0.c)].toArray w fun e w' => ∃ v, e = .returned v ∧ R v w' :=
  funV_calls mixed Try.func69 (an := An69) (by rw [eq69]; exact h)

/-- F96: cubeb/cubebref03.given -/
def An96 : An := (.sq .lf (.sq .lf (.sq (.sq .lf (.bk [(5, .slice)] (.lp [(5, .slice), (11, .int .i64)] (.sq .lf (.sq (.cd .lf .lf) (.sq (.bk [(5, .slice)] (.sq .lf (.sq .lf (.cj [(5, .slice)] .lf .lf)))) .lf)))))) (.sq .lf .lf))))
def S96 (x0_0 : Int) (s0_1 : Sl) (cs1 : List Value) (R : Value → World → Prop) (w : World) : Prop :=
  Let (w.alloc (.cells [(.int .i64 x0_0), (.slice s0_1.a s0_1.n s0_1.c)].toArray 91)) fun w1 => 
  Let (w1.alloc (.cells cs1.toArray 90)) fun w2 => 
  ∃ s9 : Sl, World.cell? w2 ⟨w.heap.size, (0 + 1), none⟩ = some (.slice s9.a s9.n s9.c) ∧ Join [(5, .slice)] (fun (s5 : Sl) (w3 : World) => ∃ x30 : Int, World.cell? w3 ⟨w.heap.size, (0 + 0), none⟩ = some (.int .i64 x30) ∧ Calls Try.prog 94 [(.int .i64 x30), (.slice s5.a s5.n s5.c)].toArray w3 (fun e w4 => ∃ x32 : Int, e = .returned (.int .i64 x32) ∧
  R (.int .i64 x32) w4)) (fun J =>
  LoopV [(5, .slice), (11, .int .i64)] (fun K => K ⟨none, 0, 0⟩ (0 : Int) w2) (fun N => fun (s5_2 : Sl) (x11 : Int) (w5 : World) =>
  cond (decide (x11 < ((s9.n : Nat) : Int))) (
  Join [(5, .slice)] (fun (s5_3 : Sl) (w6 : World) => N ⟨s5_3.a, s5_3.n, s5_3.c⟩ (IntKind.wrap .i64 (x11 + (1 : Int))) w6) (fun J_2 =>
  ∃ p13 : Pt, s9.a = some ⟨p13.b, p13.o, none⟩ ∧ 0 ≤ x11 ∧ x11 < ((s9.n : Nat) : Int) ∧ ∃ x14 : Int, World.cell? w5 ⟨p13.b, (p13.o + Int.toNat x11 * 1), none⟩ = some (.int .i64 x14) ∧ Join [(5, .slice)] (fun (s5_4 : Sl) (w7 : World) => J_2 ⟨s5_4.a, s5_4.n, s5_4.c⟩ w7) (fun J_3 =>
  cond (decide (x14 < (0 : Int))) (
  ∃ (s20 : Sl) (w8 : World), Sem.run Try.prog (Instr.buildSlice 34 1 [(0, (.int .i64 (IntKind.wrap .i64 (0 - x14))))].toArray) w5 = .ok (.slice s20.a s20.n s20.c) w8 ∧
  ∃ (s21 : Sl) (w9 : World), Sem.run Try.prog (Builtin.append_ #[34, 34] 34 #[(.slice s5_2.a s5_2.n s5_2.c), (.slice s20.a s20.n s20.c)]) w8 = .ok (.slice s21.a s21.n s21.c) w9 ∧
  J_3 ⟨s21.a, s21.n, s21.c⟩ w9) (
  0 ≤ x14 ∧ x14 < ((8 : Nat) : Int) ∧ ∃ x25 : Int, World.cell? w5 ⟨w1.heap.size, (0 + Int.toNat x14 * 1), none⟩ = some (.int .i64 x25) ∧ ∃ (s26 : Sl) (w10 : World), Sem.run Try.prog (Instr.buildSlice 34 1 [(0, (.int .i64 x25))].toArray) w5 = .ok (.slice s26.a s26.n s26.c) w10 ∧
  ∃ (s27 : Sl) (w11 : World), Sem.run Try.prog (Builtin.append_ #[34, 34] 34 #[(.slice s5_2.a s5_2.n s5_2.c), (.slice s26.a s26.n s26.c)]) w10 = .ok (.slice s27.a s27.n s27.c) w11 ∧
  J_3 ⟨s27.a, s27.n, s27.c⟩ w11)))) (
  J ⟨s5_2.a, s5_2.n, s5_2.c⟩ w5)))
theorem eq96 (x0_0 : Int) (s0_1 : Sl) (cs1 : List Value) (R : Value → World → Prop) (w : World) : funV Try.prog Try.f96 An96 [(.agg [(.int .i64 x0_0), (.slice s0_1.a s0_1.n s0_1.c)].toArray), (.agg cs1.toArray)] R w = S96 x0_0 s0_1 cs1 R w := by kernel_rfl
theorem call96 (x0_0 : Int) (s0_1 : Sl) (cs1 : List Value) {R : Value → World → Prop} {w : World} (h : S96 x0_0 s0_1 cs1 R w) : Calls Try.prog 96 [(.agg [(.int .i64 x0_0), (.slice s0_1.a s0_1.n s0_1.c)].toArray), (.agg cs1.toArray)].toArray w fun e w' => ∃ v, e = .returned v ∧ R v w' :=
  funV_calls mixed Try.func96 (an := An96) (by rw [eq96]; exact h)

/-- F95: cubeb/cubebref03.instances -/
def An95 : An := (.sq .lf (.sq (.sq .lf (.cd (.sq .lf .lf) .lf)) (.sq .lf (.sq (.sq .lf (.cd (.sq .lf .lf) .lf)) (.sq .lf (.sq (.sq .lf (.bk [(10, .slice)] (.lp [(10, .slice), (39, .int .i64)] (.sq .lf (.sq (.cd .lf .lf) (.sq (.bk [(10, .slice)] (.sq .lf (.sq .lf (.sq (.sq (.rj [] [(64, .bool)]) (.cd .lf .lf)) (.sq .lf (.sq (.sq .lf (.bk [(15, .bool)] (.lp [(15, .bool), (70, .int .i64)] (.sq .lf (.sq (.cd .lf .lf) (.sq (.bk [(15, .bool)] (.sq .lf (.bk [(15, .bool)] (.sq .lf (.cj [(15, .bool)] (.rj [] [(15, .bool)]) (.sq .lf (.cj [(15, .bool)] (.dr [0, 1, 2, 3, 4, 5, 6, 7, 8, 9, 10, 11, 12] [] false (some [(15, .bool)])) .lf))))))) .lf)))))) (.sq .lf (.cj [(10, .slice)] .lf .lf)))))))) .lf)))))) (.sq .lf .lf)))))))
def S95 (x0_0 : Int) (s0_1 : Sl) (s0_2 : Sl) (cs1 : List Value) (x2 : Int) (cs3 : List Value) (R : Value → World → Prop) (w : World) : Prop :=
  Let (w.alloc (.cells [(.int .i64 x0_0), (.slice s0_1.a s0_1.n s0_1.c), (.slice s0_2.a s0_2.n s0_2.c)].toArray 94)) fun w1 => 
  Let (w1.alloc (.cells cs1.toArray 43)) fun w2 => 
  Let (w2.alloc (.cells cs3.toArray 90)) fun w3 => 
  ∃ s20 : Sl, World.cell? w3 ⟨w.heap.size, (0 + 2), none⟩ = some (.slice s20.a s20.n s20.c) ∧ cond (x2 == ((s20.n : Nat) : Int)) (
  ∃ cs23 : List Value, cs23.length = 8 ∧ rd w3 w2.heap.size 0 cs23 ∧ ∃ (s24 : Sl) (w4 : World), Sem.run Try.prog (Instr.buildSlice 157 1 [(0, (.agg cs23.toArray))].toArray) w3 = .ok (.slice s24.a s24.n s24.c) w4 ∧
  R (.slice s24.a s24.n s24.c) w4) (
  ∃ s26 : Sl, World.cell? w3 ⟨w.heap.size, (0 + 2), none⟩ = some (.slice s26.a s26.n s26.c) ∧ ∃ p28 : Pt, s26.a = some ⟨p28.b, p28.o, none⟩ ∧ 0 ≤ x2 ∧ x2 < ((s26.n : Nat) : Int) ∧ ∃ b29_0 : Bool, ∃ x29_1 : Int, ∃ s29_2 : Sl, rd w3 p28.b (p28.o + Int.toNat x2 * 3) [(.bool b29_0), (.int .i64 x29_1), (.slice s29_2.a s29_2.n s29_2.c)] ∧ Let (w3.alloc (.cells (zc Try.prog 96) 96)) fun w5 => 
  StoreOk w5 w3.heap.size 0 [(.bool b29_0), (.int .i64 x29_1), (.slice s29_2.a s29_2.n s29_2.c)] 3 ∧ Let (put w5 w3.heap.size 0 [(.bool b29_0), (.int .i64 x29_1), (.slice s29_2.a s29_2.n s29_2.c)]) fun w6 => 
  ∃ b31 : Bool, World.cell? w6 ⟨w3.heap.size, (0 + 0), none⟩ = some (.bool b31) ∧ cond b31 (
  ∃ x32_0 : Int, ∃ s32_1 : Sl, ∃ s32_2 : Sl, rd w6 w.heap.size 0 [(.int .i64 x32_0), (.slice s32_1.a s32_1.n s32_1.c), (.slice s32_2.a s32_2.n s32_2.c)] ∧ ∃ cs33 : List Value, cs33.length = 252 ∧ rd w6 w1.heap.size 0 cs33 ∧ ∃ cs36 : List Value, cs36.length = 8 ∧ rd w6 w2.heap.size 0 cs36 ∧ Calls Try.prog 95 [(.agg [(.int .i64 x32_0), (.slice s32_1.a s32_1.n s32_1.c), (.slice s32_2.a s32_2.n s32_2.c)].toArray), (.agg cs33.toArray), (.int .i64 (IntKind.wrap .i64 (x2 + (1 : Int)))), (.agg cs36.toArray)].toArray w6 (fun e w7 => ∃ s37 : Sl, e = .returned (.slice s37.a s37.n s37.c) ∧
  R (.slice s37.a s37.n s37.c) w7)) (
  ∃ cs38 : List Value, cs38.length = 252 ∧ rd w6 w1.heap.size 0 cs38 ∧ Join [(10, .slice)] (fun (s10 : Sl) (w8 : World) => R (.slice s10.a s10.n s10.c) w8) (fun J =>
  LoopV [(10, .slice), (39, .int .i64)] (fun K => K ⟨none, 0, 0⟩ (0 : Int) w6) (fun N => fun (s10_2 : Sl) (x39 : Int) (w9 : World) =>
  cond (decide (x39 < (252 : Int))) (
  Join [(10, .slice)] (fun (s10_3 : Sl) (w10 : World) => N ⟨s10_3.a, s10_3.n, s10_3.c⟩ (IntKind.wrap .i64 (x39 + (1 : Int))) w10) (fun J_2 =>
  0 ≤ x39 ∧ x39 < ((252 : Nat) : Int) ∧ ∃ b42 : Bool, (cs38 : List Value)[Int.toNat x39]? = some (.bool b42) ∧ Calls Try.prog 73 [(.int .i64 x39)].toArray w9 (fun e_2 w11 => ∃ x44_0 : Int, ∃ s44_1 : Sl, e_2 = .returned (.agg [(.int .i64 x44_0), (.slice s44_1.a s44_1.n s44_1.c)].toArray) ∧
  Let (w11.alloc (.cells (zc Try.prog 36) 36)) fun w12 => 
  StoreOk w12 w11.heap.size 0 [(.int .i64 x44_0), (.slice s44_1.a s44_1.n s44_1.c)] 2 ∧ Let (put w12 w11.heap.size 0 [(.int .i64 x44_0), (.slice s44_1.a s44_1.n s44_1.c)]) fun w13 => 
  Join [(64, .bool)] (fun (b64 : Bool) (w14 : World) => cond b64 (
  J_2 ⟨s10_2.a, s10_2.n, s10_2.c⟩ w14) (
  ∃ cs65 : List Value, cs65.length = 8 ∧ rd w14 w2.heap.size 0 cs65 ∧ Let (w14.alloc (.cells (zc Try.prog 90) 90)) fun w15 => 
  StoreOk w15 w14.heap.size 0 cs65 8 ∧ Let (put w15 w14.heap.size 0 cs65) fun w16 => 
  ∃ s68 : Sl, World.cell? w16 ⟨w3.heap.size, ((0 + 1) + 1), none⟩ = some (.slice s68.a s68.n s68.c) ∧ Join [(15, .bool)] (fun (b15 : Bool) (w17 : World) => Join [(10, .slice)] (fun (s10_4 : Sl) (w18 : World) => J_2 ⟨s10_4.a, s10_4.n, s10_4.c⟩ w18) (fun J_3 =>
  cond b15 (
  ∃ x116_0 : Int, ∃ s116_1 : Sl, ∃ s116_2 : Sl, rd w17 w.heap.size 0 [(.int .i64 x116_0), (.slice s116_1.a s116_1.n s116_1.c), (.slice s116_2.a s116_2.n s116_2.c)] ∧ ∃ cs117 : List Value, cs117.length = 252 ∧ rd w17 w1.heap.size 0 cs117 ∧ ∃ cs120 : List Value, cs120.length = 8 ∧ rd w17 w14.heap.size 0 cs120 ∧ Calls Try.prog 95 [(.agg [(.int .i64 x116_0), (.slice s116_1.a s116_1.n s116_1.c), (.slice s116_2.a s116_2.n s116_2.c)].toArray), (.agg cs117.toArray), (.int .i64 (IntKind.wrap .i64 (x2 + (1 : Int)))), (.agg cs120.toArray)].toArray w17 (fun e_3 w19 => ∃ s121 : Sl, e_3 = .returned (.slice s121.a s121.n s121.c) ∧
  ∃ (s122 : Sl) (w20 : World), Sem.run Try.prog (Builtin.append_ #[157, 157] 157 #[(.slice s10_2.a s10_2.n s10_2.c), (.slice s121.a s121.n s121.c)]) w19 = .ok (.slice s122.a s122.n s122.c) w20 ∧
  J_3 ⟨s122.a, s122.n, s122.c⟩ w20)) (
  J_3 ⟨s10_2.a, s10_2.n, s10_2.c⟩ w17))) (fun J_4 =>
  LoopV [(15, .bool), (70, .int .i64)] (fun K => K true (0 : Int) w16) (fun N_2 => fun (b15_2 : Bool) (x70 : Int) (w21 : World) =>
  cond (decide (x70 < ((s68.n : Nat) : Int))) (
  Join [(15, .bool)] (fun (b15_3 : Bool) (w22 : World) => N_2 b15_3 (IntKind.wrap .i64 (x70 + (1 : Int))) w22) (fun J_5 =>
  ∃ p73 : Pt, s68.a = some ⟨p73.b, p73.o, none⟩ ∧ 0 ≤ x70 ∧ x70 < ((s68.n : Nat) : Int) ∧ ∃ x74 : Int, World.cell? w21 ⟨p73.b, (p73.o + Int.toNat x70 * 1), none⟩ = some (.int .i64 x74) ∧ Join [(15, .bool)] (fun (b15_4 : Bool) (w23 : World) => J_5 b15_4 w23) (fun J_6 =>
  Join [(15, .bool)] (fun (b15_5 : Bool) (w24 : World) => J_6 b15_5 w24) (fun J_7 =>
  cond (decide (x74 < (0 : Int))) (
  Join [(15, .bool)] (fun (b15_6 : Bool) (w25 : World) => J_7 b15_6 w25) (fun J_8 =>
  cond b15_2 (∃ s88 : Sl, World.cell? w21 ⟨w11.heap.size, (0 + 1), none⟩ = some (.slice s88.a s88.n s88.c) ∧ ∃ p90 : Pt, s88.a = some ⟨p90.b, p90.o, none⟩ ∧ 0 ≤ x70 ∧ x70 < ((s88.n : Nat) : Int) ∧ ∃ x91 : Int, World.cell? w21 ⟨p90.b, (p90.o + Int.toNat x70 * 1), none⟩ = some (.int .i64 x91) ∧ J_8 (x91 == (IntKind.wrap .i64 (0 - x74))) w21) (J_8 false w21))) (
  0 ≤ x74 ∧ x74 < ((8 : Nat) : Int) ∧ ∃ x99 : Int, World.cell? w21 ⟨w14.heap.size, (0 + Int.toNat x74 * 1), none⟩ = some (.int .i64 x99) ∧ Join [(15, .bool)] (fun (b15_7 : Bool) (w26 : World) => J_7 b15_7 w26) (fun J_9 =>
  cond (x99 != (0 : Int)) (
  Join [(15, .bool)] (fun (b15_8 : Bool) (w27 : World) => J_9 b15_8 w27) (fun J_10 =>
  Let w21.drew fun w28 =>
  cond b15_2 (∃ s104 : Sl, World.cell? w28 ⟨w11.heap.size, (0 + 1), none⟩ = some (.slice s104.a s104.n s104.c) ∧ ∃ p106 : Pt, s104.a = some ⟨p106.b, p106.o, none⟩ ∧ 0 ≤ x70 ∧ x70 < ((s104.n : Nat) : Int) ∧ ∃ x107 : Int, World.cell? w28 ⟨p106.b, (p106.o + Int.toNat x70 * 1), none⟩ = some (.int .i64 x107) ∧ 0 ≤ x74 ∧ x74 < ((8 : Nat) : Int) ∧ ∃ x110 : Int, World.cell? w28 ⟨w14.heap.size, (0 + Int.toNat x74 * 1), none⟩ = some (.int .i64 x110) ∧ J_10 (x107 == x110) w28) (J_10 false w28))) (
  ∃ s77 : Sl, World.cell? w21 ⟨w11.heap.size, (0 + 1), none⟩ = some (.slice s77.a s77.n s77.c) ∧ ∃ p79 : Pt, s77.a = some ⟨p79.b, p79.o, none⟩ ∧ 0 ≤ x70 ∧ x70 < ((s77.n : Nat) : Int) ∧ ∃ x80 : Int, World.cell? w21 ⟨p79.b, (p79.o + Int.toNat x70 * 1), none⟩ = some (.int .i64 x80) ∧ 0 ≤ x74 ∧ x74 < ((8 : Nat) : Int) ∧ StoreOk w21 w14.heap.size (0 + Int.toNat x74 * 1) [(.int .i64 x80)] 1 ∧ Let (put w21 w14.heap.size (0 + Int.toNat x74 * 1) [(.int .i64 x80)]) fun w29 => 
  J_9 b15_2 w29))))))) (
  J_4 b15_2 w21))))) (fun J_11 =>
  cond (!b42) (J_11 true w13) (∃ x49 : Int, World.cell? w13 ⟨w11.heap.size, (0 + 0), none⟩ = some (.int .i64 x49) ∧ ∃ x52 : Int, World.cell? w13 ⟨w3.heap.size, ((0 + 1) + 0), none⟩ = some (.int .i64 x52) ∧ cond (x49 != x52) (J_11 true w13) (∃ s57 : Sl, World.cell? w13 ⟨w11.heap.size, (0 + 1), none⟩ = some (.slice s57.a s57.n s57.c) ∧ ∃ s61 : Sl, World.cell? w13 ⟨w3.heap.size, ((0 + 1) + 1), none⟩ = some (.slice s61.a s61.n s61.c) ∧ J_11 (((s57.n : Nat) : Int) != ((s61.n : Nat) : Int)) w13)))))) (
  J ⟨s10_2.a, s10_2.n, s10_2.c⟩ w9)))))
theorem eq95 (x0_0 : Int) (s0_1 : Sl) (s0_2 : Sl) (cs1 : List Value) (x2 : Int) (cs3 : List Value) (R : Value → World → Prop) (w : World) : funV Try.prog Try.f95 An95 [(.agg [(.int .i64 x0_0), (.slice s0_1.a s0_1.n s0_1.c), (.slice s0_2.a s0_2.n s0_2.c)].toArray), (.agg cs1.toArray), (.int .i64 x2), (.agg cs3.toArray)] R w = S95 x0_0 s0_1 s0_2 cs1 x2 cs3 R w := by kernel_rfl
theorem call95 (x0_0 : Int) (s0_1 : Sl) (s0_2 : Sl) (cs1 : List Value) (x2 : Int) (cs3 : List Value) {R : Value → World → Prop} {w : World} (h : S95 x0_0 s0_1 s0_2 cs1 x2 cs3 R w) : Calls Try.prog 95 [(.agg [(.int .i64 x0_0), (.slice s0_1.a s0_1.n s0_1.c), (.slice s0_2.a s0_2.n s0_2.c)].toArray), (.agg cs1.toArray), (.int .i64 x2), (.agg cs3.toArray)].toArray w fun e w' => ∃ v, e = .returned v ∧ R v w' :=
  funV_calls mixed Try.func95 (an := An95) (by rw [eq95]; exact h)

/-- F97: cubeb/cubebref03.free -/
def An97 : An := (.sq .lf (.sq (.sq .lf (.bk [] (.lp [(12, .int .i64)] (.sq .lf (.sq (.cd .lf .lf) (.sq (.bk [] (.sq .lf (.sq (.rj [] [(25, .bool)]) (.cd (.sq .lf .lf) .lf)))) .lf)))))) (.sq .lf .lf)))
def S97 (x0_0 : Int) (s0_1 : Sl) (s0_2 : Sl) (cs1 : List Value) (cs2 : List Value) (R : Value → World → Prop) (w : World) : Prop :=
  Let (w.alloc (.cells [(.int .i64 x0_0), (.slice s0_1.a s0_1.n s0_1.c), (.slice s0_2.a s0_2.n s0_2.c)].toArray 94)) fun w1 => 
  Let (w1.alloc (.cells cs1.toArray 90)) fun w2 => 
  Let (w2.alloc (.cells cs2.toArray 43)) fun w3 => 
  ∃ s10 : Sl, World.cell? w3 ⟨w.heap.size, (0 + 2), none⟩ = some (.slice s10.a s10.n s10.c) ∧ Join [] (fun (w4 : World) => R (.bool true) w4) (fun J =>
  LoopV [(12, .int .i64)] (fun K => K (0 : Int) w3) (fun N => fun (x12 : Int) (w5 : World) =>
  cond (decide (x12 < ((s10.n : Nat) : Int))) (
  Join [] (fun (w6 : World) => N (IntKind.wrap .i64 (x12 + (1 : Int))) w6) (fun J_2 =>
  ∃ p14 : Pt, s10.a = some ⟨p14.b, p14.o, none⟩ ∧ 0 ≤ x12 ∧ x12 < ((s10.n : Nat) : Int) ∧ ∃ b15_0 : Bool, ∃ x15_1 : Int, ∃ s15_2 : Sl, rd w5 p14.b (p14.o + Int.toNat x12 * 3) [(.bool b15_0), (.int .i64 x15_1), (.slice s15_2.a s15_2.n s15_2.c)] ∧ Let (w5.alloc (.cells (zc Try.prog 96) 96)) fun w7 => 
  StoreOk w7 w5.heap.size 0 [(.bool b15_0), (.int .i64 x15_1), (.slice s15_2.a s15_2.n s15_2.c)] 3 ∧ Let (put w7 w5.heap.size 0 [(.bool b15_0), (.int .i64 x15_1), (.slice s15_2.a s15_2.n s15_2.c)]) fun w8 => 
  Join [(25, .bool)] (fun (b25 : Bool) (w9 : World) => cond b25 (
  R (.bool false) w9) (
  J_2 w9)) (fun J_3 =>
  ∃ b17 : Bool, World.cell? w8 ⟨w5.heap.size, (0 + 0), none⟩ = some (.bool b17) ∧ cond b17 (∃ x20_0 : Int, ∃ s20_1 : Sl, rd w8 w5.heap.size (0 + 1) [(.int .i64 x20_0), (.slice s20_1.a s20_1.n s20_1.c)] ∧ ∃ cs21 : List Value, cs21.length = 8 ∧ rd w8 w1.heap.size 0 cs21 ∧ Calls Try.prog 96 [(.agg [(.int .i64 x20_0), (.slice s20_1.a s20_1.n s20_1.c)].toArray), (.agg cs21.toArray)].toArray w8 (fun e w10 => ∃ x22 : Int, e = .returned (.int .i64 x22) ∧
  0 ≤ x22 ∧ x22 < ((252 : Nat) : Int) ∧ ∃ b24 : Bool, World.cell? w10 ⟨w2.heap.size, (0 + Int.toNat x22 * 1), none⟩ = some (.bool b24) ∧ J_3 b24 w10)) (J_3 false w8)))) (
  J w5)))
theorem eq97 (x0_0 : Int) (s0_1 : Sl) (s0_2 : Sl) (cs1 : List Value) (cs2 : List Value) (R : Value → World → Prop) (w : World) : funV Try.prog Try.f97 An97 [(.agg [(.int .i64 x0_0), (.slice s0_1.a s0_1.n s0_1.c), (.slice s0_2.a s0_2.n s0_2.c)].toArray), (.agg cs1.toArray), (.agg cs2.toArray)] R w = S97 x0_0 s0_1 s0_2 cs1 cs2 R w := by kernel_rfl
theorem call97 (x0_0 : Int) (s0_1 : Sl) (s0_2 : Sl) (cs1 : List Value) (cs2 : List Value) {R : Value → World → Prop} {w : World} (h : S97 x0_0 s0_1 s0_2 cs1 cs2 R w) : Calls Try.prog 97 [(.agg [(.int .i64 x0_0), (.slice s0_1.a s0_1.n s0_1.c), (.slice s0_2.a s0_2.n s0_2.c)].toArray), (.agg cs1.toArray), (.agg cs2.toArray)].toArray w fun e w' => ∃ v, e = .returned v ∧ R v w' :=
  funV_calls mixed Try.func97 (an := An97) (by rw [eq97]; exact h)

/-- F70: cubeb/cubebref03.Consequences -/
def An70 : An := (.sq .lf (.sq (.sq .lf (.bk [] (.lp [(7, .bool)] (.sq (.sq .lf (.cd .lf .lf)) (.bk [(7, .bool)] (.sq .lf (.sq .lf (.bk [(7, .bool)] (.lp [(7, .bool), (16, .int .i64)] (.sq .lf (.sq (.cd .lf .lf) (.sq (.bk [(7, .bool)] (.sq .lf (.sq .lf (.bk [(7, .bool)] (.lp [(7, .bool), (25, .int .i64)] (.sq .lf (.sq (.cd .lf .lf) (.sq (.bk [(7, .bool)] (.sq .lf (.sq .lf (.sq (.rj [] [(42, .bool)]) (.cj [(7, .bool)] (.sq .lf .lf) .lf))))) .lf)))))))) .lf)))))))))))) (.sq .lf .lf)))
def S70 (s0 : Sl) (cs1 : List Value) (cs2 : List Value) (R : Value → World → Prop) (w : World) : Prop :=
  Let (w.alloc (.cells cs1.toArray 43)) fun w1 => 
  Let (w1.alloc (.cells cs2.toArray 43)) fun w2 => 
  Let (w2.alloc (.cells (zc Try.prog 43) 43)) fun w3 => 
  Join [] (fun (w4 : World) => ∃ cs47 : List Value, cs47.length = 252 ∧ rd w4 w.heap.size 0 cs47 ∧ StoreOk w4 w2.heap.size 0 cs47 252 ∧ Let (put w4 w2.heap.size 0 cs47) fun w5 => 
  ∃ csr6 : List Value, csr6.length = 252 ∧ rd w5 w2.heap.size 0 csr6 ∧ R (.agg csr6.toArray) w5) (fun J =>
  LoopV [(7, .bool)] (fun K => K true w3) (fun N => fun (b7 : Bool) (w6 : World) =>
  cond b7 (
  Join [(7, .bool)] (fun (b7_2 : Bool) (w7 : World) => N b7_2 w7) (fun J_2 =>
  Join [(7, .bool)] (fun (b7_3 : Bool) (w8 : World) => J_2 b7_3 w8) (fun J_3 =>
  LoopV [(7, .bool), (16, .int .i64)] (fun K => K false (0 : Int) w6) (fun N_2 => fun (b7_4 : Bool) (x16 : Int) (w9 : World) =>
  cond (decide (x16 < ((s0.n : Nat) : Int))) (
  Join [(7, .bool)] (fun (b7_5 : Bool) (w10 : World) => N_2 b7_5 (IntKind.wrap .i64 (x16 + (1 : Int))) w10) (fun J_4 =>
  ∃ p18 : Pt, s0.a = some ⟨p18.b, p18.o, none⟩ ∧ 0 ≤ x16 ∧ x16 < ((s0.n : Nat) : Int) ∧ ∃ x19_0 : Int, ∃ s19_1 : Sl, ∃ s19_2 : Sl, rd w9 p18.b (p18.o + Int.toNat x16 * 3) [(.int .i64 x19_0), (.slice s19_1.a s19_1.n s19_1.c), (.slice s19_2.a s19_2.n s19_2.c)] ∧ Let (w9.alloc (.cells (zc Try.prog 94) 94)) fun w11 => 
  StoreOk w11 w9.heap.size 0 [(.int .i64 x19_0), (.slice s19_1.a s19_1.n s19_1.c), (.slice s19_2.a s19_2.n s19_2.c)] 3 ∧ Let (put w11 w9.heap.size 0 [(.int .i64 x19_0), (.slice s19_1.a s19_1.n s19_1.c), (.slice s19_2.a s19_2.n s19_2.c)]) fun w12 => 
  ∃ x20_0 : Int, ∃ s20_1 : Sl, ∃ s20_2 : Sl, rd w12 w9.heap.size 0 [(.int .i64 x20_0), (.slice s20_1.a s20_1.n s20_1.c), (.slice s20_2.a s20_2.n s20_2.c)] ∧ ∃ cs21 : List Value, cs21.length = 252 ∧ rd w12 w.heap.size 0 cs21 ∧ Calls Try.prog 95 [(.agg [(.int .i64 x20_0), (.slice s20_1.a s20_1.n s20_1.c), (.slice s20_2.a s20_2.n s20_2.c)].toArray), (.agg cs21.toArray), (.int .i64 (0 : Int)), (.agg [(.int .i64 (0 : Int)), (.int .i64 (0 : Int)), (.int .i64 (0 : Int)), (.int .i64 (0 : Int)), (.int .i64 (0 : Int)), (.int .i64 (0 : Int)), (.int .i64 (0 : Int)), (.int .i64 (0 : Int))].toArray)].toArray w12 (fun e w13 => ∃ s23 : Sl, e = .returned (.slice s23.a s23.n s23.c) ∧
  Join [(7, .bool)] (fun (b7_6 : Bool) (w14 : World) => J_4 b7_6 w14) (fun J_5 =>
  LoopV [(7, .bool), (25, .int .i64)] (fun K => K b7_4 (0 : Int) w13) (fun N_3 => fun (b7_7 : Bool) (x25 : Int) (w15 : World) =>
  cond (decide (x25 < ((s23.n : Nat) : Int))) (
  Join [(7, .bool)] (fun (b7_8 : Bool) (w16 : World) => N_3 b7_8 (IntKind.wrap .i64 (x25 + (1 : Int))) w16) (fun J_6 =>
  ∃ p27 : Pt, s23.a = some ⟨p27.b, p27.o, none⟩ ∧ 0 ≤ x25 ∧ x25 < ((s23.n : Nat) : Int) ∧ ∃ cs28 : List Value, cs28.length = 8 ∧ rd w15 p27.b (p27.o + Int.toNat x25 * 8) cs28 ∧ Let (w15.alloc (.cells (zc Try.prog 90) 90)) fun w17 => 
  StoreOk w17 w15.heap.size 0 cs28 8 ∧ Let (put w17 w15.heap.size 0 cs28) fun w18 => 
  ∃ x30_0 : Int, ∃ s30_1 : Sl, rd w18 w9.heap.size (0 + 0) [(.int .i64 x30_0), (.slice s30_1.a s30_1.n s30_1.c)] ∧ ∃ cs31 : List Value, cs31.length = 8 ∧ rd w18 w15.heap.size 0 cs31 ∧ Calls Try.prog 96 [(.agg [(.int .i64 x30_0), (.slice s30_1.a s30_1.n s30_1.c)].toArray), (.agg cs31.toArray)].toArray w18 (fun e_2 w19 => ∃ x32 : Int, e_2 = .returned (.int .i64 x32) ∧
  Join [(42, .bool)] (fun (b42 : Bool) (w20 : World) => Join [(7, .bool)] (fun (b7_9 : Bool) (w21 : World) => J_6 b7_9 w21) (fun J_7 =>
  cond b42 (
  0 ≤ x32 ∧ x32 < ((252 : Nat) : Int) ∧ StoreOk w20 w.heap.size (0 + Int.toNat x32 * 1) [(.bool true)] 1 ∧ Let (put w20 w.heap.size (0 + Int.toNat x32 * 1) [(.bool true)]) fun w22 => 
  J_7 true w22) (
  J_7 b7_7 w20))) (fun J_8 =>
  ∃ x33_0 : Int, ∃ s33_1 : Sl, ∃ s33_2 : Sl, rd w19 w9.heap.size 0 [(.int .i64 x33_0), (.slice s33_1.a s33_1.n s33_1.c), (.slice s33_2.a s33_2.n s33_2.c)] ∧ ∃ cs34 : List Value, cs34.length = 8 ∧ rd w19 w15.heap.size 0 cs34 ∧ ∃ cs35 : List Value, cs35.length = 252 ∧ rd w19 w1.heap.size 0 cs35 ∧ Calls Try.prog 97 [(.agg [(.int .i64 x33_0), (.slice s33_1.a s33_1.n s33_1.c), (.slice s33_2.a s33_2.n s33_2.c)].toArray), (.agg cs34.toArray), (.agg cs35.toArray)].toArray w19 (fun e_3 w23 => ∃ b36 : Bool, e_3 = .returned (.bool b36) ∧
  cond b36 (0 ≤ x32 ∧ x32 < ((252 : Nat) : Int) ∧ ∃ b40 : Bool, World.cell? w23 ⟨w.heap.size, (0 + Int.toNat x32 * 1), none⟩ = some (.bool b40) ∧ J_8 (!b40) w23) (J_8 false w23)))))) (
  J_5 b7_7 w15)))))) (
  J_3 b7_4 w9))))) (
  J w6)))
theorem eq70 (s0 : Sl) (cs1 : List Value) (cs2 : List Value) (R : Value → World → Prop) (w : World) : funV Try.prog Try.f70 An70 [(.slice s0.a s0.n s0.c), (.agg cs1.toArray), (.agg cs2.toArray)] R w = S70 s0 cs1 cs2 R w := by kernel_rfl
theorem call70 (s0 : Sl) (cs1 : List Value) (cs2 : List Value) {R : Value → World → Prop} {w : World} (h : S70 s0 cs1 cs2 R w) : Calls Try.prog 70 [(.slice s0.a s0.n s0.c), (.agg cs1.toArray), (.agg cs2.toArray)].toArray w fun e w' => ∃ v, e = .returned v ∧ R v w' :=
  funV_calls mixed Try.func70 (an := An70) (by rw [eq70]; exact h)

/-- F38: cubeb/cubebref03.Strata -/
def An38 : An := (.sq .lf (.sq .lf (.sq (.sq .lf (.bk [] (.lp [(13, .int .i64)] (.sq .lf (.sq (.cd .lf .lf) (.sq (.bk [] (.sq .lf (.bk [] (.lp [(17, .int .i64)] (.sq .lf (.sq (.cd .lf .lf) (.sq (.bk [] (.sq .lf (.sq .lf (.bk [] (.lp [(24, .int .i64)] (.sq .lf (.sq (.cd .lf .lf) (.sq (.bk [] (.sq .lf (.sq .lf (.sq (.sq .lf (.cj [(9, .int .i64)] .lf .lf)) (.dr [0, 1, 2, 3, 4, 5, 6, 7, 8, 9, 10, 11, 12, 13] [] false none))))) .lf)))))))) .lf))))))) .lf)))))) (.sq (.sq .lf (.bk [] (.lp [(56, .int .i64)] (.sq .lf (.sq (.cd .lf .lf) (.sq (.bk [] (.sq .lf (.sq .lf (.cd (.sq .lf .lf) .lf)))) .lf)))))) (.sq .lf .lf)))))
def S38 (s0 : Sl) (R : Value → World → Prop) (w : World) : Prop :=
  ∃ (s12 : Sl) (w1 : World), Sem.run Try.prog (Instr.makeSlice 34 (.int .i64 (6 : Int)) (.int .i64 (6 : Int))) w = .ok (.slice s12.a s12.n s12.c) w1 ∧
  Join [] (fun (w2 : World) => Join [] (fun (w3 : World) => R (.tuple [(.slice s12.a s12.n s12.c), (.int .i64 (0 : Int))].toArray) w3) (fun J =>
  LoopV [(56, .int .i64)] (fun K => K (0 : Int) w2) (fun N => fun (x56 : Int) (w4 : World) =>
  cond (decide (x56 < ((s12.n : Nat) : Int))) (
  Join [] (fun (w5 : World) => N (IntKind.wrap .i64 (x56 + (1 : Int))) w5) (fun J_2 =>
  ∃ p58 : Pt, s12.a = some ⟨p58.b, p58.o, none⟩ ∧ 0 ≤ x56 ∧ x56 < ((s12.n : Nat) : Int) ∧ ∃ x59 : Int, World.cell? w4 ⟨p58.b, (p58.o + Int.toNat x56 * 1), none⟩ = some (.int .i64 x59) ∧ cond (decide (x59 > (5 : Int))) (
  R (.tuple [(.slice none 0 0), (.int .i64 (8 : Int))].toArray) w4) (
  J_2 w4))) (
  J w4)))) (fun J_3 =>
  LoopV [(13, .int .i64)] (fun K => K (0 : Int) w1) (fun N_2 => fun (x13 : Int) (w6 : World) =>
  cond (decide (x13 < (60 : Int))) (
  Join [] (fun (w7 : World) => N_2 (IntKind.wrap .i64 (x13 + (1 : Int))) w7) (fun J_4 =>
  Join [] (fun (w8 : World) => J_4 w8) (fun J_5 =>
  LoopV [(17, .int .i64)] (fun K => K (0 : Int) w6) (fun N_3 => fun (x17 : Int) (w9 : World) =>
  cond (decide (x17 < ((s0.n : Nat) : Int))) (
  Join [] (fun (w10 : World) => N_3 (IntKind.wrap .i64 (x17 + (1 : Int))) w10) (fun J_6 =>
  ∃ p19 : Pt, s0.a = some ⟨p19.b, p19.o, none⟩ ∧ 0 ≤ x17 ∧ x17 < ((s0.n : Nat) : Int) ∧ ∃ x20_0 : Int, ∃ s20_1 : Sl, ∃ s20_2 : Sl, rd w9 p19.b (p19.o + Int.toNat x17 * 3) [(.int .i64 x20_0), (.slice s20_1.a s20_1.n s20_1.c), (.slice s20_2.a s20_2.n s20_2.c)] ∧ Let (w9.alloc (.cells (zc Try.prog 94) 94)) fun w11 => 
  StoreOk w11 w9.heap.size 0 [(.int .i64 x20_0), (.slice s20_1.a s20_1.n s20_1.c), (.slice s20_2.a s20_2.n s20_2.c)] 3 ∧ Let (put w11 w9.heap.size 0 [(.int .i64 x20_0), (.slice s20_1.a s20_1.n s20_1.c), (.slice s20_2.a s20_2.n s20_2.c)]) fun w12 => 
  ∃ s22 : Sl, World.cell? w12 ⟨w9.heap.size, (0 + 2), none⟩ = some (.slice s22.a s22.n s22.c) ∧ Join [] (fun (w13 : World) => J_6 w13) (fun J_7 =>
  LoopV [(24, .int .i64)] (fun K => K (0 : Int) w12) (fun N_4 => fun (x24 : Int) (w14 : World) =>
  cond (decide (x24 < ((s22.n : Nat) : Int))) (
  Join [] (fun (w15 : World) => N_4 (IntKind.wrap .i64 (x24 + (1 : Int))) w15) (fun J_8 =>
  ∃ p26 : Pt, s22.a = some ⟨p26.b, p26.o, none⟩ ∧ 0 ≤ x24 ∧ x24 < ((s22.n : Nat) : Int) ∧ ∃ b27_0 : Bool, ∃ x27_1 : Int, ∃ s27_2 : Sl, rd w14 p26.b (p26.o + Int.toNat x24 * 3) [(.bool b27_0), (.int .i64 x27_1), (.slice s27_2.a s27_2.n s27_2.c)] ∧ Let (w14.alloc (.cells (zc Try.prog 96) 96)) fun w16 => 
  StoreOk w16 w14.heap.size 0 [(.bool b27_0), (.int .i64 x27_1), (.slice s27_2.a s27_2.n s27_2.c)] 3 ∧ Let (put w16 w14.heap.size 0 [(.bool b27_0), (.int .i64 x27_1), (.slice s27_2.a s27_2.n s27_2.c)]) fun w17 => 
  ∃ x31 : Int, World.cell? w17 ⟨w14.heap.size, ((0 + 1) + 0), none⟩ = some (.int .i64 x31) ∧ ∃ p32 : Pt, s12.a = some ⟨p32.b, p32.o, none⟩ ∧ 0 ≤ x31 ∧ x31 < ((s12.n : Nat) : Int) ∧ ∃ x33 : Int, World.cell? w17 ⟨p32.b, (p32.o + Int.toNat x31 * 1), none⟩ = some (.int .i64 x33) ∧ ∃ b35 : Bool, World.cell? w17 ⟨w14.heap.size, (0 + 0), none⟩ = some (.bool b35) ∧ Join [(9, .int .i64)] (fun (x9 : Int) (w18 : World) => Let w18.drew fun w19 =>
  ∃ x41 : Int, World.cell? w19 ⟨w9.heap.size, ((0 + 0) + 0), none⟩ = some (.int .i64 x41) ∧ ∃ x45 : Int, World.cell? w19 ⟨w9.heap.size, ((0 + 0) + 0), none⟩ = some (.int .i64 x45) ∧ ∃ p46 : Pt, s12.a = some ⟨p46.b, p46.o, none⟩ ∧ 0 ≤ x45 ∧ x45 < ((s12.n : Nat) : Int) ∧ ∃ x47 : Int, World.cell? w19 ⟨p46.b, (p46.o + Int.toNat x45 * 1), none⟩ = some (.int .i64 x47) ∧ ∃ p50 : Pt, s12.a = some ⟨p50.b, p50.o, none⟩ ∧ 0 ≤ x41 ∧ x41 < ((s12.n : Nat) : Int) ∧ StoreOk w19 p50.b (p50.o + Int.toNat x41 * 1) [(.int .i64 (if x9 > x47 then x9 else x47))] 1 ∧ Let (put w19 p50.b (p50.o + Int.toNat x41 * 1) [(.int .i64 (if x9 > x47 then x9 else x47))]) fun w20 => 
  J_8 w20) (fun J_9 =>
  cond b35 (
  J_9 (IntKind.wrap .i64 (x33 + (1 : Int))) w17) (
  J_9 x33 w17)))) (
  J_7 w14))))) (
  J_5 w9))))) (
  J_3 w6)))
theorem eq38 (s0 : Sl) (R : Value → World → Prop) (w : World) : funV Try.prog Try.f38 An38 [(.slice s0.a s0.n s0.c)] R w = S38 s0 R w := by kernel_rfl
theorem call38 (s0 : Sl) {R : Value → World → Prop} {w : World} (h : S38 s0 R w) : Calls Try.prog 38 [(.slice s0.a s0.n s0.c)].toArray w fun e w' => ∃ v, e = .returned v ∧ R v w' :=
  funV_calls mixed Try.func38 (an := An38) (by rw [eq38]; exact h)

/-- F45: cubeb/cubebref03.Model -/
def An45 : An := (.sq .lf (.sq .lf (.sq .lf (.sq (.sq .lf (.cd (.sq .lf .lf) .lf)) (.sq (.sq .lf (.bk [] (.lp [(24, .int .i64)] (.sq .lf (.sq (.cd .lf .lf) (.sq (.bk [] (.sq .lf (.sq .lf (.sq (.sq .lf (.bk [(10, .slice)] (.lp [(10, .slice), (29, .int .i64)] (.sq .lf (.sq (.cd .lf .lf) (.sq (.bk [(10, .slice)] (.sq .lf (.sq .lf (.cj [(10, .slice)] .lf .lf)))) .lf)))))) .lf)))) .lf)))))) (.sq .lf .lf))))))
def S45 (s0 : Sl) (s1 : Sl) (R : Value → World → Prop) (w : World) : Prop :=
  Let (w.alloc (.cells (zc Try.prog 43) 43)) fun w1 => 
  Calls Try.prog 38 [(.slice s0.a s0.n s0.c)].toArray w1 (fun e w2 => ∃ s15_0 : Sl, ∃ x15_1 : Int, e = .returned (.tuple [(.slice s15_0.a s15_0.n s15_0.c), (.int .i64 x15_1)].toArray) ∧
  Calls Try.prog 69 [(.slice s1.a s1.n s1.c)].toArray w2 (fun e_2 w3 => ∃ cs19 : List Value, cs19.length = 252 ∧ e_2 = .returned (.agg cs19.toArray) ∧
  Let (w3.alloc (.cells (zc Try.prog 43) 43)) fun w4 => 
  StoreOk w4 w3.heap.size 0 cs19 252 ∧ Let (put w4 w3.heap.size 0 cs19) fun w5 => 
  cond (x15_1 != (0 : Int)) (
  StoreOk w5 w.heap.size 0 [(.bool false), (.bool false), (.bool false), (.bool false), (.bool false), (.bool false), (.bool false), (.bool false), (.bool false), (.bool false), (.bool false), (.bool false), (.bool false), (.bool false), (.bool false), (.bool false), (.bool false), (.bool false), (.bool false), (.bool false), (.bool false), (.bool false), (.bool false), (.bool false), (.bool false), (.bool false), (.bool false), (.bool false), (.bool false), (.bool false), (.bool false), (.bool false), (.bool false), (.bool false), (.bool false), (.bool false), (.bool false), (.bool false), (.bool false), (.bool false), (.bool false), (.bool false), (.bool false), (.bool false), (.bool false), (.bool false), (.bool false), (.bool false), (.bool false), (.bool false), (.bool false), (.bool false), (.bool false), (.bool false), (.bool false), (.bool false), (.bool false), (.bool false), (.bool false), (.bool false), (.bool false), (.bool false), (.bool false), (.bool false), (.bool false), (.bool false), (.bool false), (.bool false), (.bool false), (.bool false), (.bool false), (.bool false), (.bool false), (.bool false), (.bool false), (.bool false), (.bool false), (.bool false), (.bool false), (.bool false), (.bool false), (.bool false), (.bool false), (.bool false), (.bool false), (.bool false), (.bool false), (.bool false), (.bool false), (.bool false), (.bool false), (.bool false), (.bool false), (.bool false), (.bool false), (.bool false), (.bool false), (.bool false), (.bool false), (.bool false), (.bool false), (.bool false), (.bool false), (.bool false), (.bool false), (.bool false), (.bool false), (.bool false), (.bool false), (.bool false), (.bool false), (.bool false), (.bool false), (.bool false), (.bool false), (.bool false), (.bool false), (.bool false), (.bool false), (.bool false), (.bool false), (.bool false), (.bool false), (.bool false), (.bool false), (.bool false), (.bool false), (.bool false), (.bool false), (.bool false), (.bool false), (.bool false), (.bool false), (.bool false), (.bool false), (.bool false), (.bool false), (.bool false), (.bool false), (.bool false), (.bool false), (.bool false), (.bool false), (.bool false), (.bool false), (.bool false), (.bool false), (.bool false), (.bool false), (.bool false), (.bool false), (.bool false), (.bool false), (.bool false), (.bool false), (.bool false), (.bool false), (.bool false), (.bool false), (.bool false), (.bool false), (.bool false), (.bool false), (.bool false), (.bool false), (.bool false), (.bool false), (.bool false), (.bool false), (.bool false), (.bool false), (.bool false), (.bool false), (.bool false), (.bool false), (.bool false), (.bool false), (.bool false), (.bool false), (.bool false), (.bool false), (.bool false), (.bool false), (.bool false), (.bool false), (.bool false), (.bool false), (.bool false), (.bool false), (.bool false), (.bool false), (.bool false), (.bool false), (.bool false), (.bool false), (.bool false), (.bool false), (.bool false), (.bool false), (.bool false), (.bool false), (.bool false), (.bool false), (.bool false), (.bool false), (.bool false), (.bool false), (.bool false), (.bool false), (.bool false), (.bool false), (.bool false), (.bool false), (.bool false), (.bool false), (.bool false), (.bool false), (.bool false), (.bool false), (.bool false), (.bool false), (.bool false), (.bool false), (.bool false), (.bool false), (.bool false), (.bool false), (.bool false), (.bool false), (.bool false), (.bool false), (.bool false), (.bool false), (.bool false), (.bool false), (.bool false), (.bool false), (.bool false), (.bool false), (.bool false), (.bool false), (.bool false), (.bool false), (.bool false), (.bool false), (.bool false), (.bool false), (.bool false), (.bool false), (.bool false), (.bool false), (.bool false)] 252 ∧ Let (put w5 w.heap.size 0 [(.bool false), (.bool false), (.bool false), (.bool false), (.bool false), (.bool false), (.bool false), (.bool false), (.bool false), (.bool false), (.bool false), (.bool false), (.bool false), (.bool false), (.bool false), (.bool false), (.bool false), (.bool false), (.bool false), (.bool false), (.bool false), (.bool false), (.bool false), (.bool false), (.bool false), (.bool false), (.bool false), (.bool false), (.bool false), (.bool false), (.bool false), (.bool false), (.bool false), (.bool false), (.bool false), (.bool false), (.bool false), (.bool false), (.bool false), (.bool false), (.bool false), (.bool false), (.bool false), (.bool false), (.bool false), (.bool false), (.bool false), (.bool false), (.bool false), (.bool false), (.bool false), (.bool false), (.bool false), (.bool false), (.bool false), (.bool false), (.bool false), (.bool false), (.bool false), (.bool false), (.bool false), (.bool false), (.bool false), (.bool false), (.bool false), (.bool false), (.bool false), (.bool false), (.bool false), (.bool false), (.bool false), (.bool false), (.bool false), (.bool false), (.bool false), (.bool false), (.bool false), (.bool false), (.bool false), (.bool false), (.bool false), (.bool false), (.bool false), (.bool false), (.bool false), (.bool false), (.bool false), (.bool false), (.bool false), (.bool false), (.bool false), (.bool false), (.bool false), (.bool false), (.bool false), (.bool false), (.bool false), (.bool false), (.bool false), (.bool false), (.bool false), (.bool false), (.bool false), (.bool false), (.bool false), (.bool false), (.bool false), (.bool false), (.bool false), (.bool false), (.bool false), (.bool false), (.bool false), (.bool false), (.bool false), (.bool false), (.bool false), (.bool false), (.bool false), (.bool false), (.bool false), (.bool false), (.bool false), (.bool false), (.bool false), (.bool false), (.bool false), (.bool false), (.bool false), (.bool false), (.bool false), (.bool false), (.bool false), (.bool false), (.bool false), (.bool false), (.bool false), (.bool false), (.bool false), (.bool false), (.bool false), (.bool false), (.bool false), (.bool false), (.bool false), (.bool false), (.bool false), (.bool false), (.bool false), (.bool false), (.bool false), (.bool false), (.bool false), (.bool false), (.bool false), (.bool false), (.bool false), (.bool false), (.bool false), (.bool false), (.bool false), (.bool false), (.bool false), (.bool false), (.bool false), (.bool false), (.bool false), (.bool false), (.bool false), (.bool false), (.bool false), (.bool false), (.bool false), (.bool false), (.bool false), (.bool false), (.bool false), (.bool false), (.bool false), (.bool false), (.bool false), (.bool false), (.bool false), (.bool false), (.bool false), (.bool false), (.bool false), (.bool false), (.bool false), (.bool false), (.bool false), (.bool false), (.bool false), (.bool false), (.bool false), (.bool false), (.bool false), (.bool false), (.bool false), (.bool false), (.bool false), (.bool false), (.bool false), (.bool false), (.bool false), (.bool false), (.bool false), (.bool false), (.bool false), (.bool false), (.bool false), (.bool false), (.bool false), (.bool false), (.bool false), (.bool false), (.bool false), (.bool false), (.bool false), (.bool false), (.bool false), (.bool false), (.bool false), (.bool false), (.bool false), (.bool false), (.bool false), (.bool false), (.bool false), (.bool false), (.bool false), (.bool false), (.bool false), (.bool false), (.bool false), (.bool false), (.bool false), (.bool false), (.bool false), (.bool false), (.bool false), (.bool false), (.bool false), (.bool false), (.bool false), (.bool false), (.bool false), (.bool false), (.bool false), (.bool false), (.bool false), (.bool false)]) fun w6 => 
  ∃ csr4 : List Value, csr4.length = 252 ∧ rd w6 w.heap.size 0 csr4 ∧ R (.tuple [(.agg csr4.toArray), (.int .i64 x15_1)].toArray) w6) (
  Join [] (fun (w7 : World) => ∃ cs51 : List Value, cs51.length = 252 ∧ rd w7 w3.heap.size 0 cs51 ∧ StoreOk w7 w.heap.size 0 cs51 252 ∧ Let (put w7 w.heap.size 0 cs51) fun w8 => 
  ∃ csr4_2 : List Value, csr4_2.length = 252 ∧ rd w8 w.heap.size 0 csr4_2 ∧ R (.tuple [(.agg csr4_2.toArray), (.int .i64 (0 : Int))].toArray) w8) (fun J =>
  LoopV [(24, .int .i64)] (fun K => K (0 : Int) w5) (fun N => fun (x24 : Int) (w9 : World) =>
  cond (decide (x24 < (6 : Int))) (
  Join [] (fun (w10 : World) => N (IntKind.wrap .i64 (x24 + (1 : Int))) w10) (fun J_2 =>
  Join [(10, .slice)] (fun (s10 : Sl) (w11 : World) => ∃ cs47 : List Value, cs47.length = 252 ∧ rd w11 w3.heap.size 0 cs47 ∧ ∃ cs48 : List Value, cs48.length = 252 ∧ rd w11 w3.heap.size 0 cs48 ∧ Calls Try.prog 70 [(.slice s10.a s10.n s10.c), (.agg cs47.toArray), (.agg cs48.toArray)].toArray w11 (fun e_3 w12 => ∃ cs49 : List Value, cs49.length = 252 ∧ e_3 = .returned (.agg cs49.toArray) ∧
  StoreOk w12 w3.heap.size 0 cs49 252 ∧ Let (put w12 w3.heap.size 0 cs49) fun w13 => 
  J_2 w13)) (fun J_3 =>
  LoopV [(10, .slice), (29, .int .i64)] (fun K => K ⟨none, 0, 0⟩ (0 : Int) w9) (fun N_2 => fun (s10_2 : Sl) (x29 : Int) (w14 : World) =>
  cond (decide (x29 < ((s0.n : Nat) : Int))) (
  Join [(10, .slice)] (fun (s10_3 : Sl) (w15 : World) => N_2 ⟨s10_3.a, s10_3.n, s10_3.c⟩ (IntKind.wrap .i64 (x29 + (1 : Int))) w15) (fun J_4 =>
  ∃ p31 : Pt, s0.a = some ⟨p31.b, p31.o, none⟩ ∧ 0 ≤ x29 ∧ x29 < ((s0.n : Nat) : Int) ∧ ∃ x32_0 : Int, ∃ s32_1 : Sl, ∃ s32_2 : Sl, rd w14 p31.b (p31.o + Int.toNat x29 * 3) [(.int .i64 x32_0), (.slice s32_1.a s32_1.n s32_1.c), (.slice s32_2.a s32_2.n s32_2.c)] ∧ Let (w14.alloc (.cells (zc Try.prog 94) 94)) fun w16 => 
  StoreOk w16 w14.heap.size 0 [(.int .i64 x32_0), (.slice s32_1.a s32_1.n s32_1.c), (.slice s32_2.a s32_2.n s32_2.c)] 3 ∧ Let (put w16 w14.heap.size 0 [(.int .i64 x32_0), (.slice s32_1.a s32_1.n s32_1.c), (.slice s32_2.a s32_2.n s32_2.c)]) fun w17 => 
  ∃ x36 : Int, World.cell? w17 ⟨w14.heap.size, ((0 + 0) + 0), none⟩ = some (.int .i64 x36) ∧ ∃ p37 : Pt, s15_0.a = some ⟨p37.b, p37.o, none⟩ ∧ 0 ≤ x36 ∧ x36 < ((s15_0.n : Nat) : Int) ∧ ∃ x38 : Int, World.cell? w17 ⟨p37.b, (p37.o + Int.toNat x36 * 1), none⟩ = some (.int .i64 x38) ∧ Join [(10, .slice)] (fun (s10_4 : Sl) (w18 : World) => J_4 ⟨s10_4.a, s10_4.n, s10_4.c⟩ w18) (fun J_5 =>
  cond (x38 == x24) (
  ∃ x42_0 : Int, ∃ s42_1 : Sl, ∃ s42_2 : Sl, rd w17 w14.heap.size 0 [(.int .i64 x42_0), (.slice s42_1.a s42_1.n s42_1.c), (.slice s42_2.a s42_2.n s42_2.c)] ∧ ∃ (s43 : Sl) (w19 : World), Sem.run Try.prog (Instr.buildSlice 22 1 [(0, (.agg [(.int .i64 x42_0), (.slice s42_1.a s42_1.n s42_1.c), (.slice s42_2.a s42_2.n s42_2.c)].toArray))].toArray) w17 = .ok (.slice s43.a s43.n s43.c) w19 ∧
  ∃ (s44 : Sl) (w20 : World), Sem.run Try.prog (Builtin.append_ #[22, 22] 22 #[(.slice s10_2.a s10_2.n s10_2.c), (.slice s43.a s43.n s43.c)]) w19 = .ok (.slice s44.a s44.n s44.c) w20 ∧
  J_5 ⟨s44.a, s44.n, s44.c⟩ w20) (
  J_5 ⟨s10_2.a, s10_2.n, s10_2.c⟩ w17)))) (
  J_3 ⟨s10_2.a, s10_2.n, s10_2.c⟩ w14))))) (
  J w9))))))
theorem eq45 (s0 : Sl) (s1 : Sl) (R : Value → World → Prop) (w : World) : funV Try.prog Try.f45 An45 [(.slice s0.a s0.n s0.c), (.slice s1.a s1.n s1.c)] R w = S45 s0 s1 R w := by kernel_rfl
theorem call45 (s0 : Sl) (s1 : Sl) {R : Value → World → Prop} {w : World} (h : S45 s0 s1 R w) : Calls Try.prog 45 [(.slice s0.a s0.n s0.c), (.slice s1.a s1.n s1.c)].toArray w fun e w' => ∃ v, e = .returned v ∧ R v w' :=
  funV_calls mixed Try.func45 (an := An45) (by rw [eq45]; exact h)

/-- F46: cubeb/cubebref03.Holds -/
def An46 : An := (.sq .lf (.sq .lf .lf))
def S46 (cs0 : List Value) (x1_0 : Int) (s1_1 : Sl) (R : Value → World → Prop) (w : World) : Prop :=
  Let (w.alloc (.cells cs0.toArray 43)) fun w1 => 
  Let (w1.alloc (.cells [(.int .i64 x1_0), (.slice s1_1.a s1_1.n s1_1.c)].toArray 36)) fun w2 => 
  ∃ x6 : Int, World.cell? w2 ⟨w1.heap.size, (0 + 0), none⟩ = some (.int .i64 x6) ∧ ∃ s8 : Sl, World.cell? w2 ⟨w1.heap.size, (0 + 1), none⟩ = some (.slice s8.a s8.n s8.c) ∧ Calls Try.prog 94 [(.int .i64 x6), (.slice s8.a s8.n s8.c)].toArray w2 (fun e w3 => ∃ x9 : Int, e = .returned (.int .i64 x9) ∧
  0 ≤ x9 ∧ x9 < ((252 : Nat) : Int) ∧ ∃ b11 : Bool, World.cell? w3 ⟨w.heap.size, (0 + Int.toNat x9 * 1), none⟩ = some (.bool b11) ∧ R (.bool b11) w3)
theorem eq46 (cs0 : List Value) (x1_0 : Int) (s1_1 : Sl) (R : Value → World → Prop) (w : World) : funV Try.prog Try.f46 An46 [(.agg cs0.toArray), (.agg [(.int .i64 x1_0), (.slice s1_1.a s1_1.n s1_1.c)].toArray)] R w = S46 cs0 x1_0 s1_1 R w := by kernel_rfl
theorem call46 (cs0 : List Value) (x1_0 : Int) (s1_1 : Sl) {R : Value → World → Prop} {w : World} (h : S46 cs0 x1_0 s1_1 R w) : Calls Try.prog 46 [(.agg cs0.toArray), (.agg [(.int .i64 x1_0), (.slice s1_1.a s1_1.n s1_1.c)].toArray)].toArray w fun e w' => ∃ v, e = .returned v ∧ R v w' :=
  funV_calls mixed Try.func46 (an := An46) (by rw [eq46]; exact h)

/-- F26: cubeb/cubebref03.Founded -/
def An26 : An := (.sq .lf (.sq .lf (.sq .lf (.bk [] (.lp [] (.bk [] (.sq .lf (.sq .lf (.sq (.sq .lf (.cd (.sq (.sq .lf (.bk [] (.lp [(26, .int .i64)] (.sq .lf (.sq (.cd .lf .lf) (.sq (.bk [] (.sq .lf (.rj [] []))) .lf)))))) (.sq (.dr [0, 1, 2, 3] [3] true none) .lf)) .lf)) .lf)))))))))
def S26 (s0 : Sl) (s1 : Sl) (R : Value → World → Prop) (w : World) : Prop :=
  Let (w.alloc (.cells (zc Try.prog 43) 43)) fun w1 => 
  Let (w1.alloc (.cells (zc Try.prog 43) 43)) fun w2 => 
  Calls Try.prog 69 [(.slice s1.a s1.n s1.c)].toArray w2 (fun e w3 => ∃ cs13 : List Value, cs13.length = 252 ∧ e = .returned (.agg cs13.toArray) ∧
  Let (w3.alloc (.cells (zc Try.prog 43) 43)) fun w4 => 
  StoreOk w4 w3.heap.size 0 cs13 252 ∧ Let (put w4 w3.heap.size 0 cs13) fun w5 => 
  Let (w5.alloc (.cells (zc Try.prog 43) 43)) fun w6 => 
  Join [] (fun (w7 : World) => ∃ csr4 : List Value, csr4.length = 252 ∧ rd w7 w.heap.size 0 csr4 ∧ ∃ csr5 : List Value, csr5.length = 252 ∧ rd w7 w1.heap.size 0 csr5 ∧ R (.tuple [(.agg csr4.toArray), (.agg csr5.toArray)].toArray) w7) (fun J =>
  LoopV [] (fun K => K w6) (fun N => fun (w8 : World) =>
  Join [] (fun (w9 : World) => N w9) (fun J_2 =>
  ∃ cs15 : List Value, cs15.length = 252 ∧ rd w8 w3.heap.size 0 cs15 ∧ ∃ cs16 : List Value, cs16.length = 252 ∧ rd w8 w5.heap.size 0 cs16 ∧ Calls Try.prog 70 [(.slice s0.a s0.n s0.c), (.agg cs15.toArray), (.agg cs16.toArray)].toArray w8 (fun e_2 w10 => ∃ cs17 : List Value, cs17.length = 252 ∧ e_2 = .returned (.agg cs17.toArray) ∧
  Let (w10.alloc (.cells (zc Try.prog 43) 43)) fun w11 => 
  StoreOk w11 w10.heap.size 0 cs17 252 ∧ Let (put w11 w10.heap.size 0 cs17) fun w12 => 
  ∃ cs19 : List Value, cs19.length = 252 ∧ rd w12 w3.heap.size 0 cs19 ∧ ∃ cs20 : List Value, cs20.length = 252 ∧ rd w12 w10.heap.size 0 cs20 ∧ Calls Try.prog 70 [(.slice s0.a s0.n s0.c), (.agg cs19.toArray), (.agg cs20.toArray)].toArray w12 (fun e_3 w13 => ∃ cs21 : List Value, cs21.length = 252 ∧ e_3 = .returned (.agg cs21.toArray) ∧
  Let (w13.alloc (.cells (zc Try.prog 43) 43)) fun w14 => 
  StoreOk w14 w13.heap.size 0 cs21 252 ∧ Let (put w14 w13.heap.size 0 cs21) fun w15 => 
  ∃ cs22 : List Value, cs22.length = 252 ∧ rd w15 w13.heap.size 0 cs22 ∧ ∃ cs23 : List Value, cs23.length = 252 ∧ rd w15 w5.heap.size 0 cs23 ∧ ∃ r24 : Bool, (∀ w, Sem.run Try.prog (aggEq .eql 43 (.agg cs22.toArray) (.agg cs23.toArray)) w = .ok (.bool r24) w) ∧ cond r24 (
  ∃ cs25 : List Value, cs25.length = 252 ∧ rd w15 w5.heap.size 0 cs25 ∧ Join [] (fun (w16 : World) => ∃ S1 : World → Prop, S1 w16.drew ∧ Let w16.drew fun w17 =>
  ∃ cs40 : List Value, cs40.length = 252 ∧ (∀ u, S1 u → rd u w5.heap.size 0 cs40) ∧ ∃ cs41 : List Value, cs41.length = 252 ∧ (∀ u, S1 u → rd u w10.heap.size 0 cs41) ∧ StoreOk w17 w.heap.size 0 cs40 252 ∧ Let (put w17 w.heap.size 0 cs40) fun w18 => 
  S1 w18 ∧ StoreOk w18 w1.heap.size 0 cs41 252 ∧ Let (put w18 w1.heap.size 0 cs41) fun w19 => 
  ∃ csr4_2 : List Value, csr4_2.length = 252 ∧ rd w19 w.heap.size 0 csr4_2 ∧ ∃ csr5_2 : List Value, csr5_2.length = 252 ∧ rd w19 w1.heap.size 0 csr5_2 ∧ R (.tuple [(.agg csr4_2.toArray), (.agg csr5_2.toArray)].toArray) w19) (fun J_3 =>
  LoopV [(26, .int .i64)] (fun K => K (0 : Int) w15) (fun N_2 => fun (x26 : Int) (w20 : World) =>
  cond (decide (x26 < (252 : Int))) (
  Join [] (fun (w21 : World) => N_2 (IntKind.wrap .i64 (x26 + (1 : Int))) w21) (fun J_4 =>
  0 ≤ x26 ∧ x26 < ((252 : Nat) : Int) ∧ ∃ b29 : Bool, (cs25 : List Value)[Int.toNat x26]? = some (.bool b29) ∧ Join [] (fun (w22 : World) => J_4 w22) (fun J_5 =>
  0 ≤ x26 ∧ x26 < ((252 : Nat) : Int) ∧ ∃ b33 : Bool, World.cell? w20 ⟨w10.heap.size, (0 + Int.toNat x26 * 1), none⟩ = some (.bool b33) ∧ cond b33 (0 ≤ x26 ∧ x26 < ((252 : Nat) : Int) ∧ StoreOk w20 w10.heap.size (0 + Int.toNat x26 * 1) [(.bool (!b29))] 1 ∧ Let (put w20 w10.heap.size (0 + Int.toNat x26 * 1) [(.bool (!b29))]) fun w23 => 
  J_5 w23) (0 ≤ x26 ∧ x26 < ((252 : Nat) : Int) ∧ StoreOk w20 w10.heap.size (0 + Int.toNat x26 * 1) [(.bool false)] 1 ∧ Let (put w20 w10.heap.size (0 + Int.toNat x26 * 1) [(.bool false)]) fun w24 => 
  J_5 w24)))) (
  J_3 w20)))) (
  ∃ cs42 : List Value, cs42.length = 252 ∧ rd w15 w13.heap.size 0 cs42 ∧ StoreOk w15 w5.heap.size 0 cs42 252 ∧ Let (put w15 w5.heap.size 0 cs42) fun w25 => 
  J_2 w25)))))))
theorem eq26 (s0 : Sl) (s1 : Sl) (R : Value → World → Prop) (w : World) : funV Try.prog Try.f26 An26 [(.slice s0.a s0.n s0.c), (.slice s1.a s1.n s1.c)] R w = S26 s0 s1 R w := by kernel_rfl
theorem call26 (s0 : Sl) (s1 : Sl) {R : Value → World → Prop} {w : World} (h : S26 s0 s1 R w) : Calls Try.prog 26 [(.slice s0.a s0.n s0.c), (.slice s1.a s1.n s1.c)].toArray w fun e w' => ∃ v, e = .returned v ∧ R v w' :=
  funV_calls mixed Try.func26 (an := An26) (by rw [eq26]; exact h)

/-- F82: cubeb/cubebref03.Enough -/
def An82 : An := (.sq .lf (.sq .lf (.sq (.sq .lf (.bk [(9, .slice)] (.lp [(9, .slice), (14, .int .i64)] (.sq .lf (.sq (.cd .lf .lf) (.sq (.bk [(9, .slice)] (.sq .lf (.sq .lf (.cj [(9, .slice)] .lf .lf)))) .lf)))))) (.sq (.dr [0, 1, 3, 5, 6, 7, 8, 2, 4, 9, 10, 11] [9] true none) .lf))))
def S82 (s0 : Sl) (s1 : Sl) (x2 : Int) (x3_0 : Int) (s3_1 : Sl) (R : Value → World → Prop) (w : World) : Prop :=
  Let (w.alloc (.cells [(.int .i64 x3_0), (.slice s3_1.a s3_1.n s3_1.c)].toArray 36)) fun w1 => 
  Join [(9, .slice)] (fun (s9 : Sl) (w2 : World) => ∃ S1 : World → Prop, S1 w2.drew ∧ Let w2.drew fun w3 =>
  ∃ x35 : Int, (∀ u, S1 u → World.cell? u ⟨w.heap.size, (0 + 0), none⟩ = some (.int .i64 x35)) ∧ ∃ s37 : Sl, (∀ u, S1 u → World.cell? u ⟨w.heap.size, (0 + 1), none⟩ = some (.slice s37.a s37.n s37.c)) ∧ Calls Try.prog 69 [(.slice s9.a s9.n s9.c)].toArray w3 (fun e w4 => ∃ cs31 : List Value, cs31.length = 252 ∧ e = .returned (.agg cs31.toArray) ∧
  S1 w4 ∧ Calls Try.prog 70 [(.slice s0.a s0.n s0.c), (.agg cs31.toArray), (.agg [(.bool false), (.bool false), (.bool false), (.bool false), (.bool false), (.bool false), (.bool false), (.bool false), (.bool false), (.bool false), (.bool false), (.bool false), (.bool false), (.bool false), (.bool false), (.bool false), (.bool false), (.bool false), (.bool false), (.bool false), (.bool false), (.bool false), (.bool false), (.bool false), (.bool false), (.bool false), (.bool false), (.bool false), (.bool false), (.bool false), (.bool false), (.bool false), (.bool false), (.bool false), (.bool false), (.bool false), (.bool false), (.bool false), (.bool false), (.bool false), (.bool false), (.bool false), (.bool false), (.bool false), (.bool false), (.bool false), (.bool false), (.bool false), (.bool false), (.bool false), (.bool false), (.bool false), (.bool false), (.bool false), (.bool false), (.bool false), (.bool false), (.bool false), (.bool false), (.bool false), (.bool false), (.bool false), (.bool false), (.bool false), (.bool false), (.bool false), (.bool false), (.bool false), (.bool false), (.bool false), (.bool false), (.bool false), (.bool false), (.bool false), (.bool false), (.bool false), (.bool false), (.bool false), (.bool false), (.bool false), (.bool false), (.bool false), (.bool false), (.bool false), (.bool false), (.bool false), (.bool false), (.bool false), (.bool false), (.bool false), (.bool false), (.bool false), (.bool false), (.bool false), (.bool false), (.bool false), (.bool false), (.bool false), (.bool false), (.bool false), (.bool false), (.bool false), (.bool false), (.bool false), (.bool false), (.bool false), (.bool false), (.bool false), (.bool false), (.bool false), (.bool false), (.bool false), (.bool false), (.bool false), (.bool false), (.bool false), (.bool false), (.bool false), (.bool false), (.bool false), (.bool false), (.bool false), (.bool false), (.bool false), (.bool false), (.bool false), (.bool false), (.bool false), (.bool false), (.bool false), (.bool false), (.bool false), (.bool false), (.bool false), (.bool false), (.bool false), (.bool false), (.bool false), (.bool false), (.bool false), (.bool false), (.bool false), (.bool false), (.bool false), (.bool false), (.bool false), (.bool false), (.bool false), (.bool false), (.bool false), (.bool false), (.bool false), (.bool false), (.bool false), (.bool false), (.bool false), (.bool false), (.bool false), (.bool false), (.bool false), (.bool false), (.bool false), (.bool false), (.bool false), (.bool false), (.bool false), (.bool false), (.bool false), (.bool false), (.bool false), (.bool false), (.bool false), (.bool false), (.bool false), (.bool false), (.bool false), (.bool false), (.bool false), (.bool false), (.bool false), (.bool false), (.bool false), (.bool false), (.bool false), (.bool false), (.bool false), (.bool false), (.bool false), (.bool false), (.bool false), (.bool false), (.bool false), (.bool false), (.bool false), (.bool false), (.bool false), (.bool false), (.bool false), (.bool false), (.bool false), (.bool false), (.bool false), (.bool false), (.bool false), (.bool false), (.bool false), (.bool false), (.bool false), (.bool false), (.bool false), (.bool false), (.bool false), (.bool false), (.bool false), (.bool false), (.bool false), (.bool false), (.bool false), (.bool false), (.bool false), (.bool false), (.bool false), (.bool false), (.bool false), (.bool false), (.bool false), (.bool false), (.bool false), (.bool false), (.bool false), (.bool false), (.bool false), (.bool false), (.bool false), (.bool false), (.bool false), (.bool false), (.bool false), (.bool false), (.bool false), (.bool false), (.bool false), (.bool false), (.bool false), (.bool false), (.bool false), (.bool false), (.bool false), (.bool false), (.bool false), (.bool false), (.bool false)].toArray)].toArray w4 (fun e_2 w5 => ∃ cs33 : List Value, cs33.length = 252 ∧ e_2 = .returned (.agg cs33.toArray) ∧
  S1 w5 ∧ Calls Try.prog 94 [(.int .i64 x35), (.slice s37.a s37.n s37.c)].toArray w5 (fun e_3 w6 => ∃ x38 : Int, e_3 = .returned (.int .i64 x38) ∧
  0 ≤ x38 ∧ x38 < ((252 : Nat) : Int) ∧ ∃ b39 : Bool, (cs33 : List Value)[Int.toNat x38]? = some (.bool b39) ∧ R (.bool b39) w6)))) (fun J =>
  LoopV [(9, .slice), (14, .int .i64)] (fun K => K ⟨none, 0, 0⟩ (0 : Int) w1) (fun N => fun (s9_2 : Sl) (x14 : Int) (w7 : World) =>
  cond (decide (x14 < ((s1.n : Nat) : Int))) (
  Join [(9, .slice)] (fun (s9_3 : Sl) (w8 : World) => N ⟨s9_3.a, s9_3.n, s9_3.c⟩ (IntKind.wrap .i64 (x14 + (1 : Int))) w8) (fun J_2 =>
  ∃ p17 : Pt, s1.a = some ⟨p17.b, p17.o, none⟩ ∧ 0 ≤ x14 ∧ x14 < ((s1.n : Nat) : Int) ∧ ∃ x18_0 : Int, ∃ s18_1 : Sl, rd w7 p17.b (p17.o + Int.toNat x14 * 2) [(.int .i64 x18_0), (.slice s18_1.a s18_1.n s18_1.c)] ∧ Let (w7.alloc (.cells (zc Try.prog 36) 36)) fun w9 => 
  StoreOk w9 w7.heap.size 0 [(.int .i64 x18_0), (.slice s18_1.a s18_1.n s18_1.c)] 2 ∧ Let (put w9 w7.heap.size 0 [(.int .i64 x18_0), (.slice s18_1.a s18_1.n s18_1.c)]) fun w10 => 
  0 ≤ x14 ∧ Join [(9, .slice)] (fun (s9_4 : Sl) (w11 : World) => J_2 ⟨s9_4.a, s9_4.n, s9_4.c⟩ w11) (fun J_3 =>
  cond ((bitsI .and .i64 (Int.fdiv x2 (2 ^ (min (Int.toNat x14) (IntKind.bits .i64)))) (1 : Int)) == (1 : Int)) (
  ∃ x25_0 : Int, ∃ s25_1 : Sl, rd w10 w7.heap.size 0 [(.int .i64 x25_0), (.slice s25_1.a s25_1.n s25_1.c)] ∧ ∃ (s26 : Sl) (w12 : World), Sem.run Try.prog (Instr.buildSlice 23 1 [(0, (.agg [(.int .i64 x25_0), (.slice s25_1.a s25_1.n s25_1.c)].toArray))].toArray) w10 = .ok (.slice s26.a s26.n s26.c) w12 ∧
  ∃ (s27 : Sl) (w13 : World), Sem.run Try.prog (Builtin.append_ #[23, 23] 23 #[(.slice s9_2.a s9_2.n s9_2.c), (.slice s26.a s26.n s26.c)]) w12 = .ok (.slice s27.a s27.n s27.c) w13 ∧
  J_3 ⟨s27.a, s27.n, s27.c⟩ w13) (
  J_3 ⟨s9_2.a, s9_2.n, s9_2.c⟩ w10)))) (
  J ⟨s9_2.a, s9_2.n, s9_2.c⟩ w7)))
theorem eq82 (s0 : Sl) (s1 : Sl) (x2 : Int) (x3_0 : Int) (s3_1 : Sl) (R : Value → World → Prop) (w : World) : funV Try.prog Try.f82 An82 [(.slice s0.a s0.n s0.c), (.slice s1.a s1.n s1.c), (.int .i64 x2), (.agg [(.int .i64 x3_0), (.slice s3_1.a s3_1.n s3_1.c)].toArray)] R w = S82 s0 s1 x2 x3_0 s3_1 R w := by kernel_rfl
theorem call82 (s0 : Sl) (s1 : Sl) (x2 : Int) (x3_0 : Int) (s3_1 : Sl) {R : Value → World → Prop} {w : World} (h : S82 s0 s1 x2 x3_0 s3_1 R w) : Calls Try.prog 82 [(.slice s0.a s0.n s0.c), (.slice s1.a s1.n s1.c), (.int .i64 x2), (.agg [(.int .i64 x3_0), (.slice s3_1.a s3_1.n s3_1.c)].toArray)].toArray w fun e w' => ∃ v, e = .returned v ∧ R v w' :=
  funV_calls mixed Try.func82 (an := An82) (by rw [eq82]; exact h)

/-- F33: cubeb/cubebref03.Sources -/
def An33 : An := (.sq .lf (.sq .lf (.sq (.sq (.dr [0, 1, 2, 3, 4, 5, 6, 7, 8] [] true none) (.cd (.sq .lf .lf) .lf)) (.sq (.sq .lf (.bk [(7, .slice)] (.lp [(7, .slice), (24, .int .i64)] (.sq .lf (.sq (.cd .lf .lf) (.sq (.bk [(7, .slice)] (.sq .lf (.sq .lf (.sq (.sq .lf (.bk [(9, .bool)] (.lp [(9, .bool), (29, .int .i64)] (.sq .lf (.sq (.cd .lf .lf) (.sq (.bk [(9, .bool)] (.sq .lf (.rj [] [(9, .bool)]))) .lf)))))) (.sq (.rj [] [(48, .bool)]) (.cj [(7, .slice)] .lf .lf)))))) .lf)))))) (.sq .lf .lf)))))
def S33 (s0 : Sl) (s1 : Sl) (x2_0 : Int) (s2_1 : Sl) (R : Value → World → Prop) (w : World) : Prop :=
  Let (w.alloc (.cells [(.int .i64 x2_0), (.slice s2_1.a s2_1.n s2_1.c)].toArray 36)) fun w1 => 
  ∃ S1 : World → Prop, S1 w1.drew ∧ Let w1.drew fun w2 =>
  0 ≤ ((s1.n : Nat) : Int) ∧ ∃ x18_0 : Int, ∃ s18_1 : Sl, (∀ u, S1 u → rd u w.heap.size 0 [(.int .i64 x18_0), (.slice s18_1.a s18_1.n s18_1.c)]) ∧ Calls Try.prog 82 [(.slice s0.a s0.n s0.c), (.slice s1.a s1.n s1.c), (.int .i64 (IntKind.wrap .i64 ((IntKind.wrap .i64 ((1 : Int) * 2 ^ (min (Int.toNat ((s1.n : Nat) : Int)) (IntKind.bits .i64)))) - (1 : Int)))), (.agg [(.int .i64 x18_0), (.slice s18_1.a s18_1.n s18_1.c)].toArray)].toArray w2 (fun e w3 => ∃ b19 : Bool, e = .returned (.bool b19) ∧
  S1 w3 ∧ cond (!b19) (
  R (.slice none 0 0) w3) (
  0 ≤ ((s1.n : Nat) : Int) ∧ Join [(7, .slice)] (fun (s7 : Sl) (w4 : World) => R (.slice s7.a s7.n s7.c) w4) (fun J =>
  LoopV [(7, .slice), (24, .int .i64)] (fun K => K ⟨none, 0, 0⟩ (0 : Int) w3) (fun N => fun (s7_2 : Sl) (x24 : Int) (w5 : World) =>
  cond (decide (x24 < (IntKind.wrap .i64 ((1 : Int) * 2 ^ (min (Int.toNat ((s1.n : Nat) : Int)) (IntKind.bits .i64)))))) (
  Join [(7, .slice)] (fun (s7_3 : Sl) (w6 : World) => N ⟨s7_3.a, s7_3.n, s7_3.c⟩ (IntKind.wrap .i64 (x24 + (1 : Int))) w6) (fun J_2 =>
  Join [(9, .bool)] (fun (b9 : Bool) (w7 : World) => Join [(48, .bool)] (fun (b48 : Bool) (w8 : World) => Join [(7, .slice)] (fun (s7_4 : Sl) (w9 : World) => J_2 ⟨s7_4.a, s7_4.n, s7_4.c⟩ w9) (fun J_3 =>
  cond b48 (
  ∃ (s51 : Sl) (w10 : World), Sem.run Try.prog (Instr.buildSlice 34 1 [(0, (.int .i64 x24))].toArray) w8 = .ok (.slice s51.a s51.n s51.c) w10 ∧
  ∃ (s52 : Sl) (w11 : World), Sem.run Try.prog (Builtin.append_ #[34, 34] 34 #[(.slice s7_2.a s7_2.n s7_2.c), (.slice s51.a s51.n s51.c)]) w10 = .ok (.slice s52.a s52.n s52.c) w11 ∧
  J_3 ⟨s52.a, s52.n, s52.c⟩ w11) (
  J_3 ⟨s7_2.a, s7_2.n, s7_2.c⟩ w8))) (fun J_4 =>
  cond b9 (∃ x46_0 : Int, ∃ s46_1 : Sl, rd w7 w.heap.size 0 [(.int .i64 x46_0), (.slice s46_1.a s46_1.n s46_1.c)] ∧ Calls Try.prog 82 [(.slice s0.a s0.n s0.c), (.slice s1.a s1.n s1.c), (.int .i64 x24), (.agg [(.int .i64 x46_0), (.slice s46_1.a s46_1.n s46_1.c)].toArray)].toArray w7 (fun e_2 w12 => ∃ b47 : Bool, e_2 = .returned (.bool b47) ∧
  J_4 b47 w12)) (J_4 false w7))) (fun J_5 =>
  LoopV [(9, .bool), (29, .int .i64)] (fun K => K true (0 : Int) w5) (fun N_2 => fun (b9_2 : Bool) (x29 : Int) (w13 : World) =>
  cond (decide (x29 < ((s7_2.n : Nat) : Int))) (
  Join [(9, .bool)] (fun (b9_3 : Bool) (w14 : World) => N_2 b9_3 (IntKind.wrap .i64 (x29 + (1 : Int))) w14) (fun J_6 =>
  ∃ p31 : Pt, s7_2.a = some ⟨p31.b, p31.o, none⟩ ∧ 0 ≤ x29 ∧ x29 < ((s7_2.n : Nat) : Int) ∧ ∃ x32 : Int, World.cell? w13 ⟨p31.b, (p31.o + Int.toNat x29 * 1), none⟩ = some (.int .i64 x32) ∧ Join [(9, .bool)] (fun (b9_4 : Bool) (w15 : World) => J_6 b9_4 w15) (fun J_7 =>
  cond b9_2 (J_7 ((bitsI .andNot .i64 x32 x24) != (0 : Int)) w13) (J_7 false w13)))) (
  J_5 b9_2 w13))))) (
  J ⟨s7_2.a, s7_2.n, s7_2.c⟩ w5)))))
theorem eq33 (s0 : Sl) (s1 : Sl) (x2_0 : Int) (s2_1 : Sl) (R : Value → World → Prop) (w : World) : funV Try.prog Try.f33 An33 [(.slice s0.a s0.n s0.c), (.slice s1.a s1.n s1.c), (.agg [(.int .i64 x2_0), (.slice s2_1.a s2_1.n s2_1.c)].toArray)] R w = S33 s0 s1 x2_0 s2_1 R w := by kernel_rfl
theorem call33 (s0 : Sl) (s1 : Sl) (x2_0 : Int) (s2_1 : Sl) {R : Value → World → Prop} {w : World} (h : S33 s0 s1 x2_0 s2_1 R w) : Calls Try.prog 33 [(.slice s0.a s0.n s0.c), (.slice s1.a s1.n s1.c), (.agg [(.int .i64 x2_0), (.slice s2_1.a s2_1.n s2_1.c)].toArray)].toArray w fun e w' => ∃ v, e = .returned v ∧ R v w' :=
  funV_calls mixed Try.func33 (an := An33) (by rw [eq33]; exact h)

/-- F41: cubeb/cubebref03.Needed -/
def An41 : An := (.sq .lf (.sq .lf (.sq .lf (.sq (.sq .lf (.bk [] (.lp [(15, .int .i64)] (.sq .lf (.sq (.cd .lf .lf) (.sq (.bk [] (.sq .lf (.bk [] (.lp [(19, .int .i64)] (.sq .lf (.sq (.cd .lf .lf) (.sq (.bk [] (.sq .lf (.sq .lf (.bk [] (.lp [(26, .int .i64)] (.sq .lf (.sq (.cd .lf .lf) (.sq (.bk [] (.sq .lf (.dr [0, 1, 2, 3, 4, 5, 6, 7, 8, 9, 10, 11, 12, 13, 14, 15, 16] [] false (some [])))) .lf)))))))) .lf))))))) .lf)))))) (.sq .lf (.sq (.sq .lf (.bk [(10, .slice)] (.lp [(10, .slice), (51, .int .i64)] (.sq .lf (.sq (.cd .lf .lf) (.sq (.bk [(10, .slice)] (.sq .lf (.sq .lf (.cj [(10, .slice)] .lf .lf)))) .lf)))))) (.sq .lf .lf)))))))
def S41 (s0 : Sl) (x1 : Int) (R : Value → World → Prop) (w : World) : Prop :=
  Let (w.alloc (.cells (zc Try.prog 143) 143)) fun w1 => 
  0 ≤ x1 ∧ x1 < ((6 : Nat) : Int) ∧ StoreOk w1 w.heap.size (0 + Int.toNat x1 * 1) [(.bool true)] 1 ∧ Let (put w1 w.heap.size (0 + Int.toNat x1 * 1) [(.bool true)]) fun w2 => 
  Join [] (fun (w3 : World) => Join [(10, .slice)] (fun (s10 : Sl) (w4 : World) => R (.slice s10.a s10.n s10.c) w4) (fun J =>
  LoopV [(10, .slice), (51, .int .i64)] (fun K => K ⟨none, 0, 0⟩ (0 : Int) w3) (fun N => fun (s10_2 : Sl) (x51 : Int) (w5 : World) =>
  cond (decide (x51 < ((s0.n : Nat) : Int))) (
  Join [(10, .slice)] (fun (s10_3 : Sl) (w6 : World) => N ⟨s10_3.a, s10_3.n, s10_3.c⟩ (IntKind.wrap .i64 (x51 + (1 : Int))) w6) (fun J_2 =>
  ∃ p53 : Pt, s0.a = some ⟨p53.b, p53.o, none⟩ ∧ 0 ≤ x51 ∧ x51 < ((s0.n : Nat) : Int) ∧ ∃ x54_0 : Int, ∃ s54_1 : Sl, ∃ s54_2 : Sl, rd w5 p53.b (p53.o + Int.toNat x51 * 3) [(.int .i64 x54_0), (.slice s54_1.a s54_1.n s54_1.c), (.slice s54_2.a s54_2.n s54_2.c)] ∧ Let (w5.alloc (.cells (zc Try.prog 94) 94)) fun w7 => 
  StoreOk w7 w5.heap.size 0 [(.int .i64 x54_0), (.slice s54_1.a s54_1.n s54_1.c), (.slice s54_2.a s54_2.n s54_2.c)] 3 ∧ Let (put w7 w5.heap.size 0 [(.int .i64 x54_0), (.slice s54_1.a s54_1.n s54_1.c), (.slice s54_2.a s54_2.n s54_2.c)]) fun w8 => 
  ∃ x57 : Int, World.cell? w8 ⟨w5.heap.size, ((0 + 0) + 0), none⟩ = some (.int .i64 x57) ∧ 0 ≤ x57 ∧ x57 < ((6 : Nat) : Int) ∧ ∃ b59 : Bool, World.cell? w8 ⟨w.heap.size, (0 + Int.toNat x57 * 1), none⟩ = some (.bool b59) ∧ Join [(10, .slice)] (fun (s10_4 : Sl) (w9 : World) => J_2 ⟨s10_4.a, s10_4.n, s10_4.c⟩ w9) (fun J_3 =>
  cond b59 (
  ∃ x61_0 : Int, ∃ s61_1 : Sl, ∃ s61_2 : Sl, rd w8 w5.heap.size 0 [(.int .i64 x61_0), (.slice s61_1.a s61_1.n s61_1.c), (.slice s61_2.a s61_2.n s61_2.c)] ∧ ∃ (s62 : Sl) (w10 : World), Sem.run Try.prog (Instr.buildSlice 22 1 [(0, (.agg [(.int .i64 x61_0), (.slice s61_1.a s61_1.n s61_1.c), (.slice s61_2.a s61_2.n s61_2.c)].toArray))].toArray) w8 = .ok (.slice s62.a s62.n s62.c) w10 ∧
  ∃ (s63 : Sl) (w11 : World), Sem.run Try.prog (Builtin.append_ #[22, 22] 22 #[(.slice s10_2.a s10_2.n s10_2.c), (.slice s62.a s62.n s62.c)]) w10 = .ok (.slice s63.a s63.n s63.c) w11 ∧
  J_3 ⟨s63.a, s63.n, s63.c⟩ w11) (
  J_3 ⟨s10_2.a, s10_2.n, s10_2.c⟩ w8)))) (
  J ⟨s10_2.a, s10_2.n, s10_2.c⟩ w5)))) (fun J_4 =>
  LoopV [(15, .int .i64)] (fun K => K (0 : Int) w2) (fun N_2 => fun (x15 : Int) (w12 : World) =>
  cond (decide (x15 < (6 : Int))) (
  Join [] (fun (w13 : World) => N_2 (IntKind.wrap .i64 (x15 + (1 : Int))) w13) (fun J_5 =>
  Join [] (fun (w14 : World) => J_5 w14) (fun J_6 =>
  LoopV [(19, .int .i64)] (fun K => K (0 : Int) w12) (fun N_3 => fun (x19 : Int) (w15 : World) =>
  cond (decide (x19 < ((s0.n : Nat) : Int))) (
  Join [] (fun (w16 : World) => N_3 (IntKind.wrap .i64 (x19 + (1 : Int))) w16) (fun J_7 =>
  ∃ p21 : Pt, s0.a = some ⟨p21.b, p21.o, none⟩ ∧ 0 ≤ x19 ∧ x19 < ((s0.n : Nat) : Int) ∧ ∃ x22_0 : Int, ∃ s22_1 : Sl, ∃ s22_2 : Sl, rd w15 p21.b (p21.o + Int.toNat x19 * 3) [(.int .i64 x22_0), (.slice s22_1.a s22_1.n s22_1.c), (.slice s22_2.a s22_2.n s22_2.c)] ∧ Let (w15.alloc (.cells (zc Try.prog 94) 94)) fun w17 => 
  StoreOk w17 w15.heap.size 0 [(.int .i64 x22_0), (.slice s22_1.a s22_1.n s22_1.c), (.slice s22_2.a s22_2.n s22_2.c)] 3 ∧ Let (put w17 w15.heap.size 0 [(.int .i64 x22_0), (.slice s22_1.a s22_1.n s22_1.c), (.slice s22_2.a s22_2.n s22_2.c)]) fun w18 => 
  ∃ s24 : Sl, World.cell? w18 ⟨w15.heap.size, (0 + 2), none⟩ = some (.slice s24.a s24.n s24.c) ∧ Join [] (fun (w19 : World) => J_7 w19) (fun J_8 =>
  LoopV [(26, .int .i64)] (fun K => K (0 : Int) w18) (fun N_4 => fun (x26 : Int) (w20 : World) =>
  cond (decide (x26 < ((s24.n : Nat) : Int))) (
  Join [] (fun (w21 : World) => N_4 (IntKind.wrap .i64 (x26 + (1 : Int))) w21) (fun J_9 =>
  ∃ p28 : Pt, s24.a = some ⟨p28.b, p28.o, none⟩ ∧ 0 ≤ x26 ∧ x26 < ((s24.n : Nat) : Int) ∧ ∃ b29_0 : Bool, ∃ x29_1 : Int, ∃ s29_2 : Sl, rd w20 p28.b (p28.o + Int.toNat x26 * 3) [(.bool b29_0), (.int .i64 x29_1), (.slice s29_2.a s29_2.n s29_2.c)] ∧ Let (w20.alloc (.cells (zc Try.prog 96) 96)) fun w22 => 
  StoreOk w22 w20.heap.size 0 [(.bool b29_0), (.int .i64 x29_1), (.slice s29_2.a s29_2.n s29_2.c)] 3 ∧ Let (put w22 w20.heap.size 0 [(.bool b29_0), (.int .i64 x29_1), (.slice s29_2.a s29_2.n s29_2.c)]) fun w23 => 
  Join [] (fun (w24 : World) => J_9 w24) (fun J_10 =>
  Let w23.drew fun w25 =>
  ∃ x32 : Int, World.cell? w25 ⟨w20.heap.size, ((0 + 1) + 0), none⟩ = some (.int .i64 x32) ∧ ∃ x35 : Int, World.cell? w25 ⟨w20.heap.size, ((0 + 1) + 0), none⟩ = some (.int .i64 x35) ∧ 0 ≤ x35 ∧ x35 < ((6 : Nat) : Int) ∧ ∃ b37 : Bool, World.cell? w25 ⟨w.heap.size, (0 + Int.toNat x35 * 1), none⟩ = some (.bool b37) ∧ cond b37 (0 ≤ x32 ∧ x32 < ((6 : Nat) : Int) ∧ StoreOk w25 w.heap.size (0 + Int.toNat x32 * 1) [(.bool true)] 1 ∧ Let (put w25 w.heap.size (0 + Int.toNat x32 * 1) [(.bool true)]) fun w26 => 
  J_10 w26) (∃ x41 : Int, World.cell? w25 ⟨w15.heap.size, ((0 + 0) + 0), none⟩ = some (.int .i64 x41) ∧ 0 ≤ x41 ∧ x41 < ((6 : Nat) : Int) ∧ ∃ b43 : Bool, World.cell? w25 ⟨w.heap.size, (0 + Int.toNat x41 * 1), none⟩ = some (.bool b43) ∧ 0 ≤ x32 ∧ x32 < ((6 : Nat) : Int) ∧ StoreOk w25 w.heap.size (0 + Int.toNat x32 * 1) [(.bool b43)] 1 ∧ Let (put w25 w.heap.size (0 + Int.toNat x32 * 1) [(.bool b43)]) fun w27 => 
  J_10 w27)))) (
  J_8 w20))))) (
  J_6 w15))))) (
  J_4 w12)))
theorem eq41 (s0 : Sl) (x1 : Int) (R : Value → World → Prop) (w : World) : funV Try.prog Try.f41 An41 [(.slice s0.a s0.n s0.c), (.int .i64 x1)] R w = S41 s0 x1 R w := by kernel_rfl
theorem call41 (s0 : Sl) (x1 : Int) {R : Value → World → Prop} {w : World} (h : S41 s0 x1 R w) : Calls Try.prog 41 [(.slice s0.a s0.n s0.c), (.int .i64 x1)].toArray w fun e w' => ∃ v, e = .returned v ∧ R v w' :=
  funV_calls mixed Try.func41 (an := An41) (by rw [eq41]; exact h)

/-- F19: cubeb/cubebref03.Plain -/
def An19 : An := (.sq .lf (.sq (.sq .lf (.bk [] (.lp [(9, .int .i64)] (.sq .lf (.sq (.cd .lf .lf) (.sq (.bk [] (.sq .lf (.sq .lf (.bk [] (.lp [(16, .int .i64)] (.sq .lf (.sq (.cd .lf .lf) (.sq (.bk [] (.sq .lf (.sq .lf (.cd (.sq .lf .lf) .lf)))) .lf)))))))) .lf)))))) (.sq .lf .lf)))
def S19 (s0 : Sl) (R : Value → World → Prop) (w : World) : Prop :=
  Join [] (fun (w1 : World) => R (.bool true) w1) (fun J =>
  LoopV [(9, .int .i64)] (fun K => K (0 : Int) w) (fun N => fun (x9 : Int) (w2 : World) =>
  cond (decide (x9 < ((s0.n : Nat) : Int))) (
  Join [] (fun (w3 : World) => N (IntKind.wrap .i64 (x9 + (1 : Int))) w3) (fun J_2 =>
  ∃ p11 : Pt, s0.a = some ⟨p11.b, p11.o, none⟩ ∧ 0 ≤ x9 ∧ x9 < ((s0.n : Nat) : Int) ∧ ∃ x12_0 : Int, ∃ s12_1 : Sl, ∃ s12_2 : Sl, rd w2 p11.b (p11.o + Int.toNat x9 * 3) [(.int .i64 x12_0), (.slice s12_1.a s12_1.n s12_1.c), (.slice s12_2.a s12_2.n s12_2.c)] ∧ Let (w2.alloc (.cells (zc Try.prog 94) 94)) fun w4 => 
  StoreOk w4 w2.heap.size 0 [(.int .i64 x12_0), (.slice s12_1.a s12_1.n s12_1.c), (.slice s12_2.a s12_2.n s12_2.c)] 3 ∧ Let (put w4 w2.heap.size 0 [(.int .i64 x12_0), (.slice s12_1.a s12_1.n s12_1.c), (.slice s12_2.a s12_2.n s12_2.c)]) fun w5 => 
  ∃ s14 : Sl, World.cell? w5 ⟨w2.heap.size, (0 + 2), none⟩ = some (.slice s14.a s14.n s14.c) ∧ Join [] (fun (w6 : World) => J_2 w6) (fun J_3 =>
  LoopV [(16, .int .i64)] (fun K => K (0 : Int) w5) (fun N_2 => fun (x16 : Int) (w7 : World) =>
  cond (decide (x16 < ((s14.n : Nat) : Int))) (
  Join [] (fun (w8 : World) => N_2 (IntKind.wrap .i64 (x16 + (1 : Int))) w8) (fun J_4 =>
  ∃ p18 : Pt, s14.a = some ⟨p18.b, p18.o, none⟩ ∧ 0 ≤ x16 ∧ x16 < ((s14.n : Nat) : Int) ∧ ∃ b19_0 : Bool, ∃ x19_1 : Int, ∃ s19_2 : Sl, rd w7 p18.b (p18.o + Int.toNat x16 * 3) [(.bool b19_0), (.int .i64 x19_1), (.slice s19_2.a s19_2.n s19_2.c)] ∧ Let (w7.alloc (.cells (zc Try.prog 96) 96)) fun w9 => 
  StoreOk w9 w7.heap.size 0 [(.bool b19_0), (.int .i64 x19_1), (.slice s19_2.a s19_2.n s19_2.c)] 3 ∧ Let (put w9 w7.heap.size 0 [(.bool b19_0), (.int .i64 x19_1), (.slice s19_2.a s19_2.n s19_2.c)]) fun w10 => 
  ∃ b21 : Bool, World.cell? w10 ⟨w7.heap.size, (0 + 0), none⟩ = some (.bool b21) ∧ cond b21 (
  R (.bool false) w10) (
  J_4 w10))) (
  J_3 w7))))) (
  J w2)))
theorem eq19 (s0 : Sl) (R : Value → World → Prop) (w : World) : funV Try.prog Try.f19 An19 [(.slice s0.a s0.n s0.c)] R w = S19 s0 R w := by kernel_rfl
theorem call19 (s0 : Sl) {R : Value → World → Prop} {w : World} (h : S19 s0 R w) : Calls Try.prog 19 [(.slice s0.a s0.n s0.c)].toArray w fun e w' => ∃ v, e = .returned v ∧ R v w' :=
  funV_calls mixed Try.func19 (an := An19) (by rw [eq19]; exact h)

end Go.Proofs.Ytoljknamnkkgcaa
/-
  Contracts: rules without Not; the program is awake.
-/
namespace Go.Proofs.Ytoljknamnkkgcaa
open Go Go.VC
set_option maxHeartbeats 1000000
set_option maxRecDepth 100000

theorem c19 {w : World} {s : Sl} {l : List DR} (hs : NR w s l) (hl : l.length ≤ big) (hb : ∀ r ∈ l, r.body.length ≤ big) :
    Calls Try.prog 19 [.slice s.a s.n s.c].toArray w fun e w' => ∃ b : Bool, e = .returned (.bool b) ∧ (b = true ↔ PlainP (l.map DR.p)) ∧ Ext w w' := by
  refine (call19 s (R := fun v w' => ∃ b : Bool, v = .bool b ∧ (b = true ↔ PlainP (l.map DR.p)) ∧ Ext w w') ?_).mono fun e w' ⟨v, he, b, hv, hx⟩ => ⟨b, by rw [he, hv], hx⟩
  have hn := hs.len
  refine Join.dir (rangeI (fun i w2 => (∀ r ∈ l.take i, ∀ b ∈ r.body, b.neg = false) ∧ Ext w w2) (by rw [hn]; exact hl) ⟨by simp, Fr.refl _ _⟩ ?_ ?_)
  · rintro i hi w2 ⟨hok, x2⟩ K hK
    have hi : i < l.length := by omega
    refine loadRT (hs.ext x2) hi zc94 fun w5 b5 x5 => ?_
    have hro := hs.ok _ (List.getElem_mem hi)
    have hbb := hb _ (List.getElem_mem hi)
    have hm := List.getElem_mem hi
    generalize hri : l[i] = r at b5 hro hbb hm
    have hbn := hro.bd.len
    have x25 := x2.trans x5
    refine ⟨_, b5.cell 2, Join.dir (rangeI (fun j w7 => (∀ b ∈ r.body.take j, b.neg = false) ∧ Ext w5 w7) (by rw [hbn]; exact hbb) ⟨by simp, Fr.refl _ _⟩ ?_ ?_)⟩
    · rintro j hj w7 ⟨hok2, x7⟩ K2 hK2
      have hj : j < r.body.length := by omega
      refine loadLT ((hro.ext x25).ext x7).bd hj zc96 fun w10 b10 x10 => ⟨_, b10.cell 0, cond_intro (fun g => ?_) (fun g => ?_)⟩
      · refine ⟨false, rfl, ?_, (x25.trans x7).trans x10⟩
        simp only [Bool.false_eq_true, false_iff]
        intro hp
        have := hp r.p (List.mem_map.2 ⟨r, hm, rfl⟩) (r.body[j]).p (List.mem_map.2 ⟨_, List.getElem_mem hj, rfl⟩)
        have g' : (r.body[j]).p.neg = true := g
        rw [this] at g'; cases g'
      · refine hK2 _ ⟨fun b hb => ?_, x7.trans x10⟩
        rw [List.take_succ_eq_append_getElem hj, List.mem_append, List.mem_singleton] at hb
        rcases hb with hb | rfl
        · exact hok2 b hb
        · exact g
    · rintro w6 ⟨hok2, x6⟩
      rw [hbn, List.take_length] at hok2
      refine hK _ ⟨fun r' hr' => ?_, x25.trans x6⟩
      rw [List.take_succ_eq_append_getElem hi, List.mem_append, List.mem_singleton, hri] at hr'
      rcases hr' with hr' | rfl
      · exact hok r' hr'
      · exact hok2
  · rintro w2 ⟨hok, x2⟩
    rw [hn, List.take_length] at hok
    refine ⟨true, rfl, ?_, x2⟩
    simp only [true_iff]
    intro r hr b hb
    obtain ⟨r', hr', rfl⟩ := List.mem_map.1 hr
    obtain ⟨b', hb', rfl⟩ := List.mem_map.1 hb
    exact hok r' hr' b' hb'
/-! ### awake -/
def awR : List Ru := [⟨⟨1, [0]⟩, [⟨false, ⟨0, [0]⟩⟩]⟩]
def awF : List Fa := [⟨0, [3]⟩]
theorem aw_valid : ValidP awR awF := by
  refine ⟨by decide, by decide, by decide, ?_, by unfold Consist; decide⟩
  intro r hr
  simp only [awR, List.mem_singleton] at hr
  subst hr
  refine ⟨by decide, ?_, by decide⟩
  intro a ha x hx h0
  refine ⟨⟨false, ⟨0, [0]⟩⟩, by simp, rfl, ?_⟩
  simp [Ru.atoms] at ha
  rcases ha with rfl | rfl <;> simpa using hx
theorem aw_plain : PlainP awR := by
  intro r hr b hb
  simp only [awR, List.mem_singleton] at hr
  subst hr
  simp only [List.mem_singleton] at hb
  subst hb; rfl
theorem aw_mdl (k : Ky) : Mdl awR zero6 (giv awF) k ↔ k = ⟨0, 3, 0⟩ ∨ k = ⟨1, 3, 0⟩ := by
  rw [Mdl_plain aw_plain (fun _ => False)]
  refine Cl.eq (S := fun k => k = ⟨0, 3, 0⟩ ∨ k = ⟨1, 3, 0⟩) ?_ ?_ ?_ k
  · rintro k ⟨f, hf, rfl⟩
    simp only [awF, List.mem_singleton] at hf
    subst hf; exact .inl rfl
  · intro r hr u h1 _
    simp only [awR, List.mem_singleton] at hr
    subst hr
    simp only [En, if_neg (show ¬ (false = true) by simp)] at h1
    obtain ⟨g, v', hg, ⟨h2, h3⟩, rfl⟩ := h1
    rcases hg with rfl | rfl
    · right
      have : fitA z8 [0] [3, 0] = some [3, 0, 0, 0, 0, 0, 0, 0] := by decide
      simp only at h3
      rw [this] at h3
      injection h3 with h3
      subst h3; decide
    · simp at h2
  · rintro k (rfl | rfl)
    · exact Cl.base ⟨⟨0, [3]⟩, by simp [awF], rfl⟩
    · have h := Cl.closed awR (giv awF) (fun _ => False) ⟨⟨1, [0]⟩, [⟨false, ⟨0, [0]⟩⟩]⟩ (by simp [awR]) [3, 0, 0, 0, 0, 0, 0, 0] ?_ ?_
      · exact h
      · simp only [En, if_neg (show ¬ (false = true) by simp)]
        exact ⟨⟨0, 3, 0⟩, _, Cl.base ⟨⟨0, [3]⟩, by simp [awF], rfl⟩, ⟨rfl, by decide⟩, rfl⟩
      · intro b hb hn
        simp only [List.mem_singleton] at hb
        subst hb; cases hn
theorem aw_list : IsL (Mdl awR zero6 (giv awF)) [⟨0, [3]⟩, ⟨1, [3]⟩] where
  ord := by decide
  nd := by decide
  mem := fun f => by
    simp only [List.mem_cons, List.not_mem_nil, or_false]
    constructor
    · rintro (rfl | rfl)
      · exact ⟨⟨0, 3, 0⟩, (aw_mdl _).2 (.inl rfl), rfl⟩
      · exact ⟨⟨1, 3, 0⟩, (aw_mdl _).2 (.inr rfl), rfl⟩
    · rintro ⟨k, hk, rfl⟩
      rcases (aw_mdl _).1 hk with rfl | rfl
      · exact .inl rfl
      · exact .inr rfl
theorem new1 (w : World) (x : Int) : (Instr.buildSlice 34 1 [(0, .int .i64 x)].toArray).run Try.prog w = .ok (.slice (some ⟨w.heap.size, 0, none⟩) 1 1) (w.alloc (.cells (eI x).toArray 3)) ∧ Ints (w.alloc (.cells (eI x).toArray 3)) ⟨some ⟨w.heap.size, 0, none⟩, 1, 1⟩ [x] ∧ Ext w (w.alloc (.cells (eI x).toArray 3)) :=
  ⟨buildOne_run E34 (v := .int .i64 x) (vs := eI x) rfl rfl (by omega) w, ⟨rfl, Nat.le_refl _, fun _ => ⟨⟨w.heap.size, 0⟩, rfl, by simpa using (Blk.alloc w (eI x) 3).rd⟩⟩, Ext.alloc ..⟩
theorem newOne {α : Type} {t e size bytes : Nat} (E : Elem Try.prog t e size bytes) {enc : α → List Value} (w : World) (x : α) {v : Value} (hv : cellsV v = enc x) (hs : (enc x).length = size) (hb : size ≤ 16777216) :
    (Instr.buildSlice t 1 [(0, v)].toArray).run Try.prog w = .ok (.slice (some ⟨w.heap.size, 0, none⟩) 1 1) (w.alloc (.cells (enc x).toArray e)) ∧ Sli size enc (w.alloc (.cells (enc x).toArray e)) ⟨some ⟨w.heap.size, 0, none⟩, 1, 1⟩ [x] ∧ Ext w (w.alloc (.cells (enc x).toArray e)) :=
  ⟨buildOne_run E hv hs hb w, ⟨rfl, Nat.le_refl _, fun _ => ⟨⟨w.heap.size, 0⟩, rfl, by simpa using (Blk.alloc w (enc x) e).rd⟩⟩, Ext.alloc ..⟩
theorem c20 (w : World) : Calls Try.prog 20 ([] : List Value).toArray w fun e w' => e = .returned (.bool true) ∧ Ext w w' := by
  refine (call20 (R := fun v w' => v = .bool true ∧ Ext w w') ?_).mono fun e w' ⟨v, he, hv, hx⟩ => ⟨by rw [he, hv], hx⟩
  obtain ⟨r1, i1, x1⟩ := new1 w 0
  refine ⟨⟨some ⟨w.heap.size, 0, none⟩, 1, 1⟩, _, r1, ?_⟩
  generalize w.alloc (.cells (eI 0).toArray 3) = w1 at i1 x1
  generalize (⟨some ⟨w.heap.size, 0, none⟩, 1, 1⟩ : Sl) = sA at i1
  obtain ⟨r2, i2, x2⟩ := new1 w1 0
  refine ⟨⟨some ⟨w1.heap.size, 0, none⟩, 1, 1⟩, _, r2, rfl, by decide, ?_⟩
  generalize w1.alloc (.cells (eI 0).toArray 3) = w2 at i2 x2
  generalize (⟨some ⟨w1.heap.size, 0, none⟩, 1, 1⟩ : Sl) = sB at i2
  obtain ⟨r3, i3, x3⟩ := newOne E50 (enc := eL) w2 ⟨false, ⟨0, sB, [0]⟩⟩ (v := .agg [.bool false, .int .i64 0, .slice sB.a sB.n sB.c].toArray) rfl rfl (by omega)
  refine ⟨⟨some ⟨w2.heap.size, 0, none⟩, 1, 1⟩, _, r3, rfl, by decide, ?_⟩
  generalize w2.alloc (.cells (eL ⟨false, ⟨0, sB, [0]⟩⟩).toArray 54) = w3 at i3 x3
  generalize (⟨some ⟨w2.heap.size, 0, none⟩, 1, 1⟩ : Sl) = sC at i3
  let R : DR := ⟨⟨1, sA, [0]⟩, sC, [⟨false, ⟨0, sB, [0]⟩⟩]⟩
  obtain ⟨r4, i4, x4⟩ := newOne E27 (enc := eR) w3 R (v := .agg [.int .i64 1, .slice sA.a sA.n sA.c, .slice sC.a sC.n sC.c].toArray) rfl rfl (by omega)
  refine ⟨⟨some ⟨w3.heap.size, 0, none⟩, 1, 1⟩, _, r4, ?_⟩
  generalize w3.alloc (.cells (eR R).toArray 52) = w4 at i4 x4
  generalize (⟨some ⟨w3.heap.size, 0, none⟩, 1, 1⟩ : Sl) = sD at i4
  obtain ⟨r5, i5, x5⟩ := new1 w4 3
  refine ⟨⟨some ⟨w4.heap.size, 0, none⟩, 1, 1⟩, _, r5, ?_⟩
  generalize w4.alloc (.cells (eI 3).toArray 3) = w5 at i5 x5
  generalize (⟨some ⟨w4.heap.size, 0, none⟩, 1, 1⟩ : Sl) = sE at i5
  obtain ⟨r6, i6, x6⟩ := newOne E23 (enc := eF) w5 ⟨0, sE, [3]⟩ (v := .agg [.int .i64 0, .slice sE.a sE.n sE.c].toArray) rfl rfl (by omega)
  refine ⟨⟨some ⟨w5.heap.size, 0, none⟩, 1, 1⟩, _, r6, ?_⟩
  generalize w5.alloc (.cells (eF ⟨0, sE, [3]⟩).toArray 36) = w6 at i6 x6
  generalize (⟨some ⟨w5.heap.size, 0, none⟩, 1, 1⟩ : Sl) = sF at i6
  have x26 := ((x3.trans x4).trans x5).trans x6
  have x16 := x2.trans x26
  have hNR : NR w6 sD [R] := ⟨(i4.ext x5).ext x6, fun r hr => by
    simp only [List.mem_singleton] at hr
    subst hr
    exact ⟨i1.ext x16, i3.ext ((x4.trans x5).trans x6), fun b hb => by
      have hb : b = ⟨false, ⟨0, sB, [0]⟩⟩ := by simpa [R] using hb
      subst hb; exact i2.ext x26⟩⟩
  have hNF : NF w6 sF [⟨0, sE, [3]⟩] := ⟨i6, fun x hx => by
    simp only [List.mem_singleton] at hx
    subst hx; exact i5.ext x6⟩
  refine (c16 hNR hNF (by simp) (by simp) (fun r hr => by
    simp only [List.mem_singleton] at hr
    subst hr
    exact ⟨by simp [R], fun x hx => by simp [R, DR.atoms] at hx; rcases hx with rfl | rfl <;> simp⟩) (fun f hf => by simp only [List.mem_singleton] at hf; subst hf; simp)).mono fun e w7 ⟨s2, x, L, he, hL, hLl, hcase, x7⟩ => ⟨s2, x, he, ?_⟩
  have hx06 := ((x1.trans x16).trans x7)
  have e1 : [R].map DR.p = awR := rfl
  have e2 : ([⟨0, sE, [3]⟩] : List DF).map DF.p = awF := rfl
  rw [e1, e2] at hcase
  rcases hcase with ⟨h, _⟩ | ⟨_, h, _⟩ | ⟨_, t, ht, rfl, hIs⟩
  · exact absurd aw_valid h
  · exact absurd ⟨_, plain_str aw_plain⟩ h
  have := ht.uniq (plain_str aw_plain)
  subst this
  have hLe := hIs.uniq aw_list
  refine Join.dir (cond_intro (fun _ => ?_) (fun h => by simp at h))
  obtain ⟨r8, i8, x8⟩ := new1 w7 3
  refine ⟨⟨some ⟨w7.heap.size, 0, none⟩, 1, 1⟩, _, r8, ?_⟩
  generalize w7.alloc (.cells (eI 3).toArray 3) = w8 at i8 x8
  generalize (⟨some ⟨w7.heap.size, 0, none⟩, 1, 1⟩ : Sl) = sG at i8
  obtain ⟨r9, i9, x9⟩ := new1 w8 3
  refine ⟨⟨some ⟨w8.heap.size, 0, none⟩, 1, 1⟩, _, r9, ?_⟩
  generalize w8.alloc (.cells (eI 3).toArray 3) = w9 at i9 x9
  generalize (⟨some ⟨w8.heap.size, 0, none⟩, 1, 1⟩ : Sl) = sH at i9
  have hb := buildList_run E23 (enc := eF) (val := fun x : DF => Value.agg [.int .i64 x.rel, .slice x.sl.a x.sl.n x.sl.c].toArray) eF_len (fun _ => rfl) [⟨0, sG, [3]⟩, ⟨1, sH, [3]⟩] (by simp) (by simp) w9
  have hs := sli_new (size := 2) (enc := eF) w9 [⟨0, sG, [3]⟩, ⟨1, sH, [3]⟩] 36
  have x10 := Ext.alloc w9 (.cells (([⟨0, sG, [3]⟩, ⟨1, sH, [3]⟩] : List DF).flatMap eF).toArray 36)
  refine ⟨⟨some ⟨w9.heap.size, 0, none⟩, 2, 2⟩, _, hb, ?_⟩
  have x89 := x8.trans (x9.trans x10)
  refine (c21 (hL.ext x89) (l' := [⟨0, sG, [3]⟩, ⟨1, sH, [3]⟩]) ⟨hs, fun y hy => ?_⟩ (by show L.length ≤ 9223372036854775807; omega) (fun y hy => ?_)).mono fun e w12 ⟨he, x12⟩ => ⟨_, he, ?_, (hx06.trans x89).trans x12⟩
  · simp only [List.mem_cons, List.not_mem_nil, or_false] at hy
    rcases hy with rfl | rfl
    · exact (i8.ext x9).ext x10
    · exact i9.ext x10
  · have : y.p ∈ L.map DF.p := List.mem_map.2 ⟨y, hy, rfl⟩
    rw [hLe] at this
    simp only [List.mem_cons, List.not_mem_nil, or_false] at this
    have h1 : y.args = [3] := by rcases this with h | h <;> exact congrArg Fa.args h
    rw [h1]; decide
  · rw [hLe]; rfl
end Go.Proofs.Ytoljknamnkkgcaa
/-
  Contract: validity as the reference has it.
-/
namespace Go.Proofs.Ytoljknamnkkgcaa
open Go Go.VC
set_option maxHeartbeats 1000000
set_option maxRecDepth 100000

/-- All Args are in a range, there are one or two, and the Rel is in range. -/
def RangeF (lo hi : Int) (f : Fa) : Prop := 0 ≤ f.rel ∧ f.rel ≤ 5 ∧ 1 ≤ f.args.length ∧ f.args.length ≤ 2 ∧ ∀ x ∈ f.args, lo ≤ x ∧ x ≤ hi
instance (lo hi : Int) (f : Fa) : Decidable (RangeF lo hi f) := by unfold RangeF; infer_instance
theorem rangeW {w : World} {x : DF} {T : TypeId} {lo up : Int} (hx : Ints w x.sl x.args) (hl : x.args.length ≤ big) {R : Value → World → Prop} (hR : ∀ b w', (b = true ↔ RangeF lo up x.p) → Ext w w' → R (.bool b) w') :
    Let (w.alloc (.cells [(.int .i64 x.rel), (.slice x.sl.a x.sl.n x.sl.c)].toArray T)) fun w1 =>
    ∃ s6 : Sl, World.cell? w1 ⟨w.heap.size, (0 + 1), none⟩ = some (.slice s6.a s6.n s6.c) ∧ Join [] (fun (w2 : World) => Join [(2, .bool)] (fun (b2 : Bool) (w3 : World) => R (.bool b2) w3) (fun J =>
    ∃ x20 : Int, World.cell? w2 ⟨w.heap.size, (0 + 0), none⟩ = some (.int .i64 x20) ∧ cond (decide (x20 ≥ (0 : Int))) (∃ x24 : Int, World.cell? w2 ⟨w.heap.size, (0 + 0), none⟩ = some (.int .i64 x24) ∧ cond (decide (x24 ≤ (5 : Int))) (∃ s29 : Sl, World.cell? w2 ⟨w.heap.size, (0 + 1), none⟩ = some (.slice s29.a s29.n s29.c) ∧ cond (decide (((s29.n : Nat) : Int) ≥ (1 : Int))) (∃ s35 : Sl, World.cell? w2 ⟨w.heap.size, (0 + 1), none⟩ = some (.slice s35.a s35.n s35.c) ∧ J (decide (((s35.n : Nat) : Int) ≤ (2 : Int))) w2) (J false w2)) (J false w2)) (J false w2))) (fun J_2 =>
    LoopV [(8, .int .i64)] (fun K => K (0 : Int) w1) (fun N => fun (x8 : Int) (w4 : World) =>
    cond (decide (x8 < ((s6.n : Nat) : Int))) (
    Join [] (fun (w5 : World) => N (IntKind.wrap .i64 (x8 + (1 : Int))) w5) (fun J_3 =>
    ∃ p10 : Pt, s6.a = some ⟨p10.b, p10.o, none⟩ ∧ 0 ≤ x8 ∧ x8 < ((s6.n : Nat) : Int) ∧ ∃ x11 : Int, World.cell? w4 ⟨p10.b, (p10.o + Int.toNat x8 * 1), none⟩ = some (.int .i64 x11) ∧ Join [(17, .bool)] (fun (b17 : Bool) (w6 : World) => cond b17 (
    R (.bool false) w6) (
    J_3 w6)) (fun J_4 =>
    cond (decide (x11 < lo)) (J_4 true w4) (J_4 (decide (x11 > up)) w4)))) (
    J_2 w4))) := by
  have hn := hx.len
  obtain ⟨b1, x1⟩ := eF_cells w x T
  refine Let.intro fun w1 e1 => ?_
  have e1 : w1 = w.alloc (.cells (eF x).toArray T) := e1
  rw [← e1] at b1 x1
  refine ⟨x.sl, b1.cell 1, ?_⟩
  refine ⟨fun w2 => Ext w1 w2 ∧ ∀ y ∈ x.args, lo ≤ y ∧ y ≤ up, ?_, ?_⟩
  · rintro w2 ⟨x2, hall⟩
    have b2 := b1.ext x2
    have x02 := x1.trans x2
    refine Join.dir ⟨x.rel, b2.cell 0, cond_intro (fun g1 => ⟨x.rel, b2.cell 0, cond_intro (fun g2 => ⟨x.sl, b2.cell 1, cond_intro (fun g3 => ⟨x.sl, b2.cell 1, hR _ _ ?_ x02⟩) (fun g3 => hR _ _ ?_ x02)⟩) (fun g2 => hR _ _ ?_ x02)⟩) (fun g1 => hR _ _ ?_ x02)⟩
    · have g1 : 0 ≤ x.rel := by simpa using g1
      have g2 : x.rel ≤ 5 := by simpa using g2
      have g3 : 1 ≤ x.args.length := by simp [hn] at g3; omega
      simp only [decide_eq_true_eq]
      constructor
      · intro h; exact ⟨g1, g2, g3, by show x.args.length ≤ 2; omega, hall⟩
      · intro h; have : x.args.length ≤ 2 := h.2.2.2.1; omega
    · have g3 : ¬ 1 ≤ x.args.length := by simp [hn] at g3; omega
      simp only [Bool.false_eq_true, false_iff]; exact fun h => g3 h.2.2.1
    · have g2 : ¬ x.rel ≤ 5 := by simpa using g2
      simp only [Bool.false_eq_true, false_iff]; exact fun h => g2 h.2.1
    · have g1 : ¬ 0 ≤ x.rel := by simpa using g1
      simp only [Bool.false_eq_true, false_iff]; exact fun h => g1 h.1
  · refine rangeI (fun i w4 => Ext w1 w4 ∧ ∀ y ∈ x.args.take i, lo ≤ y ∧ y ≤ up) (by rw [hn]; exact hl) ⟨Fr.refl _ _, by simp⟩ ?_ ?_
    · rintro i hi w4 ⟨x4, hok⟩ K hK
      have hi : i < x.args.length := by omega
      obtain ⟨p, hp, a1, a2, hr⟩ := Ints.at ((hx.ext x1).ext x4) hi
      refine ⟨p, hp, a1, a2, _, hr, ?_⟩
      refine ⟨fun (b17 : Bool) w6 => (b17 = true ↔ ¬ (lo ≤ x.args[i] ∧ x.args[i] ≤ up)) ∧ w6 = w4, ?_, ?_⟩
      · rintro b17 w6 ⟨hb, rfl⟩
        refine cond_intro (fun g => hR _ _ ?_ (x1.trans x4)) (fun g => hK _ ⟨x4, fun y hy => ?_⟩)
        · simp only [Bool.false_eq_true, false_iff]
          exact fun h => hb.1 g (h.2.2.2.2 _ (List.getElem_mem hi))
        · rw [List.take_succ_eq_append_getElem hi, List.mem_append, List.mem_singleton] at hy
          rcases hy with hy | rfl
          · exact hok y hy
          · exact Classical.byContradiction fun h => by rw [hb.2 h] at g; cases g
      · refine cond_intro (fun g => ⟨?_, rfl⟩) (fun g => ⟨?_, rfl⟩)
        · have g : x.args[i] < lo := by simpa using g
          simp only [true_iff]; omega
        · have g : ¬ x.args[i] < lo := by simpa using g
          simp only [decide_eq_true_eq]; omega
    · rintro w2 ⟨x2, hok⟩
      rw [hn, List.take_length] at hok
      exact ⟨x2, hok⟩
theorem c31 {w : World} {x : DF} (hx : Ints w x.sl x.args) (hl : x.args.length ≤ big) :
    Calls Try.prog 31 [.agg [.int .i64 x.rel, .slice x.sl.a x.sl.n x.sl.c].toArray].toArray w fun e w' => ∃ b : Bool, e = .returned (.bool b) ∧ (b = true ↔ GroundF x.p) ∧ Ext w w' := by
  refine (call31 x.rel x.sl (R := fun v w' => ∃ b : Bool, v = .bool b ∧ (b = true ↔ GroundF x.p) ∧ Ext w w') ?_).mono fun e w' ⟨v, he, b, hv, hx⟩ => ⟨b, by rw [he, hv], hx⟩
  exact rangeW (T := 36) hx hl (R := fun v w' => ∃ b : Bool, v = .bool b ∧ (b = true ↔ GroundF x.p) ∧ Ext w w') fun b w' h1 h2 => ⟨b, rfl, h1, h2⟩
theorem c62 {w : World} {x : DF} (hx : Ints w x.sl x.args) (hl : x.args.length ≤ big) :
    Calls Try.prog 62 [.agg [.int .i64 x.rel, .slice x.sl.a x.sl.n x.sl.c].toArray].toArray w fun e w' => ∃ b : Bool, e = .returned (.bool b) ∧ (b = true ↔ FitsF x.p) ∧ Ext w w' := by
  refine (call62 x.rel x.sl (R := fun v w' => ∃ b : Bool, v = .bool b ∧ (b = true ↔ FitsF x.p) ∧ Ext w w') ?_).mono fun e w' ⟨v, he, b, hv, hx⟩ => ⟨b, by rw [he, hv], hx⟩
  exact rangeW (T := 91) hx hl (R := fun v w' => ∃ b : Bool, v = .bool b ∧ (b = true ↔ FitsF x.p) ∧ Ext w w') fun b w' h1 h2 => ⟨b, rfl, h1, h2⟩
/-! ### sets of variables as bits -/
structure Bs (m : Int) (Q : Nat → Prop) : Prop where
  ex : ∃ n : Nat, m = n ∧ n < 256 ∧ ∀ i, n.testBit i = true ↔ Q i
theorem Bs.congr {m : Int} {Q Q' : Nat → Prop} (h : Bs m Q) (e : ∀ i, Q i ↔ Q' i) : Bs m Q' := by
  obtain ⟨n, h1, h2, h3⟩ := h.ex; exact ⟨n, h1, h2, fun i => (h3 i).trans (e i)⟩
theorem Bs.zero : Bs 0 fun _ => False := ⟨0, rfl, by omega, fun i => by simp⟩
theorem or_nat {a b : Nat} (ha : a < 256) (hb : b < 256) : bitsI .or .i64 (a : Int) (b : Int) = ((a ||| b : Nat) : Int) := by
  have h := Nat.or_lt_two_pow (x := a) (y := b) (n := 8) ha hb
  show IntKind.wrap .i64 ((BitVec.ofInt 64 (a : Int) ||| BitVec.ofInt 64 (b : Int)).toNat : Int) = _
  have e1 : (BitVec.ofInt 64 (a : Int)).toNat = a := by rw [BitVec.toNat_ofInt]; omega
  have e2 : (BitVec.ofInt 64 (b : Int)).toNat = b := by rw [BitVec.toNat_ofInt]; omega
  rw [BitVec.toNat_or, e1, e2, wrap64 (by omega) (by omega)]
theorem Bs.or {m m' : Int} {Q Q' : Nat → Prop} (h : Bs m Q) (h' : Bs m' Q') : Bs (bitsI .or .i64 m m') fun i => Q i ∨ Q' i := by
  obtain ⟨n, rfl, h2, h3⟩ := h.ex
  obtain ⟨n', rfl, h2', h3'⟩ := h'.ex
  refine ⟨n ||| n', or_nat h2 h2', Nat.or_lt_two_pow (n := 8) h2 h2', fun i => ?_⟩
  rw [Nat.testBit_or, Bool.or_eq_true, h3, h3']
theorem Bs.bit {x : Int} (h0 : 0 ≤ x) (h7 : x ≤ 7) : Bs (IntKind.wrap .i64 ((1 : Int) * 2 ^ (min (Int.toNat x) (IntKind.bits .i64)))) fun i => (i : Int) = x := by
  obtain ⟨k, rfl⟩ : ∃ k : Nat, x = k := ⟨x.toNat, by omega⟩
  have hk : k ≤ 7 := by omega
  refine ⟨2 ^ k, ?_, ?_, fun i => ?_⟩
  · have e : min (Int.toNat (k : Int)) (IntKind.bits .i64) = k := by
      have : Int.toNat (k : Int) = k := by omega
      rw [this]; exact Nat.min_eq_left (by show k ≤ 64; omega)
    rw [e]
    have e2 : (1 : Int) * 2 ^ k = ((2 ^ k : Nat) : Int) := by rw [Int.one_mul, Int.natCast_pow]; rfl
    rw [e2]
    have := Nat.pow_le_pow_right (n := 2) (by omega) hk
    generalize 2 ^ k = M at this
    exact wrap64 (by omega) (by omega)
  · exact Nat.lt_of_le_of_lt (Nat.pow_le_pow_right (n := 2) (by omega) hk) (by decide)
  · rw [Nat.testBit_two_pow]
    simp only [decide_eq_true_eq]
    omega
theorem Bs.eq {m m' : Int} {Q Q' : Nat → Prop} (h : Bs m Q) (h' : Bs m' Q') : m = m' ↔ ∀ i, Q i ↔ Q' i := by
  obtain ⟨n, rfl, h2, h3⟩ := h.ex
  obtain ⟨n', rfl, h2', h3'⟩ := h'.ex
  constructor
  · intro e i
    have : n = n' := by omega
    subst this
    rw [← h3, ← h3']
  · intro e
    have : n = n' := Nat.eq_of_testBit_eq fun i => by
      have := (h3 i).trans ((e i).trans (h3' i).symm)
      cases h1 : n.testBit i <;> cases h2 : n'.testBit i <;> simp_all
    rw [this]
/-- Is a number a variable of an atom? -/
def IsV (f : Fa) (i : Nat) : Prop := (i : Int) ∈ f.args
theorem c63 {w : World} {x : DF} (hx : Ints w x.sl x.args) (hf : FitsF x.p) :
    Calls Try.prog 63 [.agg [.int .i64 x.rel, .slice x.sl.a x.sl.n x.sl.c].toArray].toArray w fun e w' => ∃ m : Int, e = .returned (.int .i64 m) ∧ Bs m (IsV x.p) ∧ Ext w w' := by
  refine (call63 x.rel x.sl (R := fun v w' => ∃ m : Int, v = .int .i64 m ∧ Bs m (IsV x.p) ∧ Ext w w') ?_).mono fun e w' ⟨v, he, b, hv, hx⟩ => ⟨b, by rw [he, hv], hx⟩
  have hn := hx.len
  have hl2 : x.args.length ≤ 2 := hf.2.2.2.1
  obtain ⟨b1, x1⟩ := eF_cells w x 91
  refine Let.intro fun w1 e1 => ?_
  have e1 : w1 = w.alloc (.cells (eF x).toArray 91) := e1
  rw [← e1] at b1 x1
  refine ⟨x.sl, b1.cell 1, Join.dir (rangeKI (k := .int .i64) (fun i (m : Int) w3 => Bs m (fun j => (j : Int) ∈ x.args.take i) ∧ Ext w w3) (by rw [hn]; show x.args.length ≤ 9223372036854775807; omega) ⟨Bs.zero.congr fun i => by simp, x1⟩ ?_ ?_)⟩
  · rintro i hi m w3 ⟨hm, x3⟩ K hK
    have hi : i < x.args.length := by omega
    obtain ⟨p, hp, a1, a2, hr⟩ := Ints.at (hx.ext x3) hi
    have hb : -6 ≤ x.args[i] ∧ x.args[i] ≤ 7 := hf.2.2.2.2 _ (List.getElem_mem hi)
    refine ⟨p, hp, a1, a2, _, hr, Join.dir (cond_intro (fun g => ?_) (fun g => ?_))⟩
    · have g : 0 ≤ x.args[i] := by simpa using g
      refine ⟨g, hK _ _ ⟨(hm.or (Bs.bit g hb.2)).congr fun j => ?_, x3⟩⟩
      rw [List.take_succ_eq_append_getElem hi, List.mem_append, List.mem_singleton]
    · have g : ¬ 0 ≤ x.args[i] := by simpa using g
      refine hK _ _ ⟨hm.congr fun j => ?_, x3⟩
      rw [List.take_succ_eq_append_getElem hi, List.mem_append, List.mem_singleton]
      constructor
      · exact .inl
      · rintro (h | h)
        · exact h
        · omega
  · rintro m w3 ⟨hm, x3⟩
    rw [hn, List.take_length] at hm
    exact ⟨m, rfl, hm, x3⟩
/-! ### valid -/
abbrev eP (x : Int × Int) : List Value := [.int .i64 x.1, .int .i64 x.2]
theorem eP_len (x : Int × Int) : (eP x).length = 2 := rfl
theorem eP_one (x : Int × Int) : ∀ v ∈ eP x, v.oneCell' = true := by intro v hv; simp [eP] at hv; rcases hv with rfl | rfl <;> rfl
theorem E113 : Elem Try.prog 113 114 2 16 := Elem.of (by kernel_rfl) (by kernel_rfl) (by decide)
theorem zc114s : (zc Try.prog 114).size = 2 := by kernel_rfl
def szF (f : Fa) : Int × Int := (f.rel, (f.args.length : Int))
theorem consist_sz {l : List Fa} : Consist l ↔ ∀ x ∈ l.map szF, ∀ y ∈ l.map szF, x.1 = y.1 → x.2 = y.2 := by
  unfold Consist
  constructor
  · intro h x hx y hy e
    obtain ⟨f, hf, rfl⟩ := List.mem_map.1 hx
    obtain ⟨g, hg, rfl⟩ := List.mem_map.1 hy
    have := h f hf g hg e
    simp [szF, this]
  · intro h f hf g hg e
    have := h _ (List.mem_map.2 ⟨f, hf, rfl⟩) _ (List.mem_map.2 ⟨g, hg, rfl⟩) e
    simp only [szF] at this
    omega
/-- A pair appended. -/
theorem appP {B : Nat} {w : World} {s : Sl} {l : List (Int × Int)} (ho : Own 114 2 eP B w s l) (x : Int × Int) (hl : l.length ≤ 1000000) (hB : B ≤ w.heap.size) :
    ∃ (s1 : Sl) (w1 : World), (Instr.buildSlice 113 1 [(0, .agg [.int .i64 x.1, .int .i64 x.2].toArray)].toArray).run Try.prog w = .ok (.slice s1.a s1.n s1.c) w1 ∧
      ∃ (s' : Sl) (w' : World), (Builtin.append_ #[113, 113] 113 #[.slice s.a s.n s.c, .slice s1.a s1.n s1.c]).run Try.prog w1 = .ok (.slice s'.a s'.n s'.c) w' ∧ Own 114 2 eP B w' s' (l ++ [x]) ∧ Fr (BlS s) w w' :=
  appendOne E113 ho (x := x) rfl eP_len eP_one (by omega) (by omega) (by simp only [maxLen]; omega) hB 113
/-- All variables of a rule are in literals without Not. -/
theorem safe_bits {r : Ru} {a b : Int} (ha : Bs a fun i => ∃ f ∈ r.atoms, IsV f i) (hb : Bs b fun i => ∃ c ∈ r.body, c.neg = false ∧ IsV c.a i) : a = b ↔ SafeP r := by
  rw [ha.eq hb]
  constructor
  · intro h f hf x hx h0
    obtain ⟨k, rfl⟩ : ∃ k : Nat, x = k := ⟨x.toNat, by omega⟩
    exact (h k).1 ⟨f, hf, hx⟩
  · intro h i
    constructor
    · rintro ⟨f, hf, hx⟩
      exact h f hf _ hx (by omega)
    · rintro ⟨c, hc, _, hx⟩
      exact ⟨c.a, by simp [Ru.atoms]; exact .inr ⟨c, hc, rfl⟩, hx⟩
end Go.Proofs.Ytoljknamnkkgcaa
