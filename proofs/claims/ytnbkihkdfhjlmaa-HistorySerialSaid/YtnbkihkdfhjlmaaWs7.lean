/-
  Texts Sh, Ga, Gb, Sc, Cp, Cq, Db, Dc of this proof, joined.
-/
import Derived.Test.YtnbkihkdfhjlmaaWs6
import Derived.Test.YtnbkihkdfhjlmaaProg
import Derived.KernelRfl
/-
  Printed by a program of this session (wip/tools/vcprint.py): of each Go function the shallow form, and that the calculus comes to it, by the kernel.
-/
namespace Go.Proofs.Ytnbkihkdfhjlmaa
open Go Go.VC
set_option maxRecDepth 100000

/-- F62: (cubeb/history.snapshot).edges -/
def An62 : An := (.sq .lf (.sq .lf (.sq (.sq .lf (.bk [] (.lp [(15, .int .i64)] (.sq .lf (.sq (.cd .lf .lf) (.sq (.bk [] (.sq .lf (.sq .lf (.bk [] (.lp [(22, .int .i64)] (.sq .lf (.sq (.cd .lf .lf) (.sq (.bk [] (.sq .lf (.sq .lf (.bk [] (.lp [(26, .int .i64)] (.sq .lf (.sq (.cd .lf .lf) (.sq (.bk [] (.sn [(1, .ptr), (2, .map), (3, .map), (5, .int .i64), (7, .int .i64), (8, .int .i64), (26, .int .i64)] .lf (.sq .lf (.sn [(1, .ptr), (2, .map), (3, .map), (5, .int .i64), (7, .int .i64), (8, .int .i64), (9, .ptr), (26, .int .i64)] (.sq .lf (.cd .lf .lf)) (.sn [(1, .ptr), (2, .map), (3, .map), (5, .int .i64), (7, .int .i64), (8, .int .i64), (9, .ptr), (26, .int .i64)] (.sq (.rj [] [(55, .bool)]) (.cj [] (.dr [0, 1, 2, 3, 4, 5] [5] true none) .lf)) (.sq (.rj [] [(94, .bool)]) (.cj [] .lf .lf))))))) .lf)))))))) .lf)))))))) .lf)))))) (.sq .lf .lf))))
def S62 (s0_0 : Sl) (s0_1 : Sl) (m0_2 : Option Nat) (m0_3 : Option Nat) (R : Value → World → Prop) (w : World) : Prop :=
  Let (w.alloc (.cells [(.slice s0_0.a s0_0.n s0_0.c), (.slice s0_1.a s0_1.n s0_1.c), (.map m0_2), (.map m0_3)].toArray 112)) fun w1 => 
  Let (w1.alloc (.map #[] 0)) fun w2 => 
  Let (w2.alloc (.map #[] 0)) fun w3 => 
  ∃ s13 : Sl, World.cell? w3 ⟨w.heap.size, (0 + 1), none⟩ = some (.slice s13.a s13.n s13.c) ∧ Join [] (fun (w4 : World) => R (.tuple [(.map (some w1.heap.size)), (.map (some w2.heap.size))].toArray) w4) (fun J =>
  LoopV [(15, .int .i64)] (fun K => K (0 : Int) w3) (fun N => fun (x15 : Int) (w5 : World) =>
  cond (decide (x15 < ((s13.n : Nat) : Int))) (
  Join [] (fun (w6 : World) => N (IntKind.wrap .i64 (x15 + (1 : Int))) w6) (fun J_2 =>
  ∃ p17 : Pt, s13.a = some ⟨p17.b, p17.o, none⟩ ∧ 0 ≤ x15 ∧ x15 < ((s13.n : Nat) : Int) ∧ ∃ x18 : Int, World.cell? w5 ⟨p17.b, (p17.o + Int.toNat x15 * 1), none⟩ = some (.int .i64 x18) ∧ ∃ s20 : Sl, World.cell? w5 ⟨w.heap.size, (0 + 1), none⟩ = some (.slice s20.a s20.n s20.c) ∧ Join [] (fun (w7 : World) => J_2 w7) (fun J_3 =>
  LoopV [(22, .int .i64)] (fun K => K (0 : Int) w5) (fun N_2 => fun (x22 : Int) (w8 : World) =>
  cond (decide (x22 < ((s20.n : Nat) : Int))) (
  Join [] (fun (w9 : World) => N_2 (IntKind.wrap .i64 (x22 + (1 : Int))) w9) (fun J_4 =>
  ∃ p24 : Pt, s20.a = some ⟨p24.b, p24.o, none⟩ ∧ 0 ≤ x22 ∧ x22 < ((s20.n : Nat) : Int) ∧ ∃ x25 : Int, World.cell? w8 ⟨p24.b, (p24.o + Int.toNat x22 * 1), none⟩ = some (.int .i64 x25) ∧ Join [] (fun (w10 : World) => J_4 w10) (fun J_5 =>
  LoopV [(26, .int .i64)] (fun K => K (0 : Int) w8) (fun N_3 => fun (x26 : Int) (w11 : World) =>
  cond (decide (x26 < (6 : Int))) (
  Join [] (fun (w12 : World) => N_3 (IntKind.wrap .i64 (x26 + (1 : Int))) w12) (fun J_6 =>
  Let (w11.alloc (.cells (zc Try.prog 79) 79)) fun w13 => 
  StoreOk w13 w11.heap.size 0 [(.int .i64 x18), (.int .i64 x25)] 2 ∧ Let (put w13 w11.heap.size 0 [(.int .i64 x18), (.int .i64 x25)]) fun w14 => 
  cond (x18 == x25) (
  J_6 w14) (
  Join [(55, .bool)] (fun (b55 : Bool) (w15 : World) => Join [] (fun (w16 : World) => Join [(94, .bool)] (fun (b94 : Bool) (w17 : World) => Join [] (fun (w18 : World) => J_6 w18) (fun J_7 =>
  cond b94 (
  ∃ x96_0 : Int, ∃ x96_1 : Int, rd w17 w11.heap.size 0 [(.int .i64 x96_0), (.int .i64 x96_1)] ∧ ∃ w19 : World, Sem.run Try.prog (Instr.mapUpdate 75 (.map (some w2.heap.size)) (.agg [(.int .i64 x96_0), (.int .i64 x96_1)].toArray) (.bool true)) w17 = .ok () w19 ∧
  J_7 w19) (
  J_7 w17))) (fun J_8 =>
  ∃ s60_0 : Sl, ∃ s60_1 : Sl, ∃ m60_2 : Option Nat, ∃ m60_3 : Option Nat, rd w16 w.heap.size 0 [(.slice s60_0.a s60_0.n s60_0.c), (.slice s60_1.a s60_1.n s60_1.c), (.map m60_2), (.map m60_3)] ∧ Calls Try.prog 86 [(.agg [(.slice s60_0.a s60_0.n s60_0.c), (.slice s60_1.a s60_1.n s60_1.c), (.map m60_2), (.map m60_3)].toArray), (.int .i64 x18), (.int .i64 x26)].toArray w16 (fun e w20 => ∃ b63 : Bool, e = .returned (.bool b63) ∧
  cond b63 (∃ s65_0 : Sl, ∃ s65_1 : Sl, ∃ m65_2 : Option Nat, ∃ m65_3 : Option Nat, rd w20 w.heap.size 0 [(.slice s65_0.a s65_0.n s65_0.c), (.slice s65_1.a s65_1.n s65_1.c), (.map m65_2), (.map m65_3)] ∧ Calls Try.prog 86 [(.agg [(.slice s65_0.a s65_0.n s65_0.c), (.slice s65_1.a s65_1.n s65_1.c), (.map m65_2), (.map m65_3)].toArray), (.int .i64 x25), (.int .i64 x26)].toArray w20 (fun e_2 w21 => ∃ b68 : Bool, e_2 = .returned (.bool b68) ∧
  cond b68 (∃ m72 : Option Nat, World.cell? w21 ⟨w.heap.size, (0 + 3), none⟩ = some (.map m72) ∧ ∃ x74 : Int, Sem.run Try.prog (Instr.lookup 103 (.map m72) (.int .i64 x18) false) w21 = .ok (.int .i64 x74) w21 ∧ ∃ m76 : Option Nat, World.cell? w21 ⟨w.heap.size, (0 + 3), none⟩ = some (.map m76) ∧ ∃ x78 : Int, Sem.run Try.prog (Instr.lookup 103 (.map m76) (.int .i64 x25) false) w21 = .ok (.int .i64 x78) w21 ∧ cond (decide (x74 < x78)) (J_8 true w21) (∃ s82_0 : Sl, ∃ s82_1 : Sl, ∃ m82_2 : Option Nat, ∃ m82_3 : Option Nat, rd w21 w.heap.size 0 [(.slice s82_0.a s82_0.n s82_0.c), (.slice s82_1.a s82_1.n s82_1.c), (.map m82_2), (.map m82_3)] ∧ Calls Try.prog 87 [(.agg [(.slice s82_0.a s82_0.n s82_0.c), (.slice s82_1.a s82_1.n s82_1.c), (.map m82_2), (.map m82_3)].toArray), (.int .i64 x25), (.int .i64 x26)].toArray w21 (fun e_3 w22 => ∃ b85 : Bool, e_3 = .returned (.bool b85) ∧
  cond b85 (∃ s87_0 : Sl, ∃ s87_1 : Sl, ∃ m87_2 : Option Nat, ∃ m87_3 : Option Nat, rd w22 w.heap.size 0 [(.slice s87_0.a s87_0.n s87_0.c), (.slice s87_1.a s87_1.n s87_1.c), (.map m87_2), (.map m87_3)] ∧ Calls Try.prog 88 [(.agg [(.slice s87_0.a s87_0.n s87_0.c), (.slice s87_1.a s87_1.n s87_1.c), (.map m87_2), (.map m87_3)].toArray), (.int .i64 x25), (.int .i64 x26)].toArray w22 (fun e_4 w23 => ∃ x90 : Int, e_4 = .returned (.int .i64 x90) ∧
  J_8 (x90 == x18) w23)) (J_8 false w22)))) (∃ s82_0_2 : Sl, ∃ s82_1_2 : Sl, ∃ m82_2_2 : Option Nat, ∃ m82_3_2 : Option Nat, rd w21 w.heap.size 0 [(.slice s82_0_2.a s82_0_2.n s82_0_2.c), (.slice s82_1_2.a s82_1_2.n s82_1_2.c), (.map m82_2_2), (.map m82_3_2)] ∧ Calls Try.prog 87 [(.agg [(.slice s82_0_2.a s82_0_2.n s82_0_2.c), (.slice s82_1_2.a s82_1_2.n s82_1_2.c), (.map m82_2_2), (.map m82_3_2)].toArray), (.int .i64 x25), (.int .i64 x26)].toArray w21 (fun e_5 w24 => ∃ b85_2 : Bool, e_5 = .returned (.bool b85_2) ∧
  cond b85_2 (∃ s87_0_2 : Sl, ∃ s87_1_2 : Sl, ∃ m87_2_2 : Option Nat, ∃ m87_3_2 : Option Nat, rd w24 w.heap.size 0 [(.slice s87_0_2.a s87_0_2.n s87_0_2.c), (.slice s87_1_2.a s87_1_2.n s87_1_2.c), (.map m87_2_2), (.map m87_3_2)] ∧ Calls Try.prog 88 [(.agg [(.slice s87_0_2.a s87_0_2.n s87_0_2.c), (.slice s87_1_2.a s87_1_2.n s87_1_2.c), (.map m87_2_2), (.map m87_3_2)].toArray), (.int .i64 x25), (.int .i64 x26)].toArray w24 (fun e_6 w25 => ∃ x90_2 : Int, e_6 = .returned (.int .i64 x90_2) ∧
  J_8 (x90_2 == x18) w25)) (J_8 false w24))))) (∃ s82_0_3 : Sl, ∃ s82_1_3 : Sl, ∃ m82_2_3 : Option Nat, ∃ m82_3_3 : Option Nat, rd w20 w.heap.size 0 [(.slice s82_0_3.a s82_0_3.n s82_0_3.c), (.slice s82_1_3.a s82_1_3.n s82_1_3.c), (.map m82_2_3), (.map m82_3_3)] ∧ Calls Try.prog 87 [(.agg [(.slice s82_0_3.a s82_0_3.n s82_0_3.c), (.slice s82_1_3.a s82_1_3.n s82_1_3.c), (.map m82_2_3), (.map m82_3_3)].toArray), (.int .i64 x25), (.int .i64 x26)].toArray w20 (fun e_7 w26 => ∃ b85_3 : Bool, e_7 = .returned (.bool b85_3) ∧
  cond b85_3 (∃ s87_0_3 : Sl, ∃ s87_1_3 : Sl, ∃ m87_2_3 : Option Nat, ∃ m87_3_3 : Option Nat, rd w26 w.heap.size 0 [(.slice s87_0_3.a s87_0_3.n s87_0_3.c), (.slice s87_1_3.a s87_1_3.n s87_1_3.c), (.map m87_2_3), (.map m87_3_3)] ∧ Calls Try.prog 88 [(.agg [(.slice s87_0_3.a s87_0_3.n s87_0_3.c), (.slice s87_1_3.a s87_1_3.n s87_1_3.c), (.map m87_2_3), (.map m87_3_3)].toArray), (.int .i64 x25), (.int .i64 x26)].toArray w26 (fun e_8 w27 => ∃ x90_3 : Int, e_8 = .returned (.int .i64 x90_3) ∧
  J_8 (x90_3 == x18) w27)) (J_8 false w26)))))) (fun J_9 =>
  cond b55 (
  ∃ S1 : World → Prop, S1 w15.drew ∧ Let w15.drew fun w28 =>
  ∃ x57_0 : Int, ∃ x57_1 : Int, (∀ u, S1 u → rd u w11.heap.size 0 [(.int .i64 x57_0), (.int .i64 x57_1)]) ∧ ∃ x59_0 : Int, ∃ x59_1 : Int, (∀ u, S1 u → rd u w11.heap.size 0 [(.int .i64 x59_0), (.int .i64 x59_1)]) ∧ ∃ w29 : World, Sem.run Try.prog (Instr.mapUpdate 75 (.map (some w1.heap.size)) (.agg [(.int .i64 x57_0), (.int .i64 x57_1)].toArray) (.bool true)) w28 = .ok () w29 ∧
  S1 w29 ∧ ∃ w30 : World, Sem.run Try.prog (Instr.mapUpdate 75 (.map (some w2.heap.size)) (.agg [(.int .i64 x59_0), (.int .i64 x59_1)].toArray) (.bool true)) w29 = .ok () w30 ∧
  J_9 w30) (
  J_9 w15))) (fun J_10 =>
  ∃ s35_0 : Sl, ∃ s35_1 : Sl, ∃ m35_2 : Option Nat, ∃ m35_3 : Option Nat, rd w14 w.heap.size 0 [(.slice s35_0.a s35_0.n s35_0.c), (.slice s35_1.a s35_1.n s35_1.c), (.map m35_2), (.map m35_3)] ∧ Calls Try.prog 87 [(.agg [(.slice s35_0.a s35_0.n s35_0.c), (.slice s35_1.a s35_1.n s35_1.c), (.map m35_2), (.map m35_3)].toArray), (.int .i64 x18), (.int .i64 x26)].toArray w14 (fun e_9 w31 => ∃ b38 : Bool, e_9 = .returned (.bool b38) ∧
  cond b38 (∃ s40_0 : Sl, ∃ s40_1 : Sl, ∃ m40_2 : Option Nat, ∃ m40_3 : Option Nat, rd w31 w.heap.size 0 [(.slice s40_0.a s40_0.n s40_0.c), (.slice s40_1.a s40_1.n s40_1.c), (.map m40_2), (.map m40_3)] ∧ Calls Try.prog 86 [(.agg [(.slice s40_0.a s40_0.n s40_0.c), (.slice s40_1.a s40_1.n s40_1.c), (.map m40_2), (.map m40_3)].toArray), (.int .i64 x25), (.int .i64 x26)].toArray w31 (fun e_10 w32 => ∃ b43 : Bool, e_10 = .returned (.bool b43) ∧
  cond b43 (∃ m47 : Option Nat, World.cell? w32 ⟨w.heap.size, (0 + 3), none⟩ = some (.map m47) ∧ ∃ x49 : Int, Sem.run Try.prog (Instr.lookup 103 (.map m47) (.int .i64 x25) false) w32 = .ok (.int .i64 x49) w32 ∧ ∃ m51 : Option Nat, World.cell? w32 ⟨w.heap.size, (0 + 2), none⟩ = some (.map m51) ∧ ∃ x53 : Int, Sem.run Try.prog (Instr.lookup 103 (.map m51) (.int .i64 x18) false) w32 = .ok (.int .i64 x53) w32 ∧ J_10 (decide (x49 > x53)) w32) (J_10 false w32))) (J_10 false w31)))))) (
  J_5 w11))))) (
  J_3 w8))))) (
  J w5)))
theorem eq62 (s0_0 : Sl) (s0_1 : Sl) (m0_2 : Option Nat) (m0_3 : Option Nat) (R : Value → World → Prop) (w : World) : funV Try.prog Try.f62 An62 [(.agg [(.slice s0_0.a s0_0.n s0_0.c), (.slice s0_1.a s0_1.n s0_1.c), (.map m0_2), (.map m0_3)].toArray)] R w = S62 s0_0 s0_1 m0_2 m0_3 R w := by kernel_rfl
theorem call62 (s0_0 : Sl) (s0_1 : Sl) (m0_2 : Option Nat) (m0_3 : Option Nat) {R : Value → World → Prop} {w : World} (h : S62 s0_0 s0_1 m0_2 m0_3 R w) : Calls Try.prog 62 [(.agg [(.slice s0_0.a s0_0.n s0_0.c), (.slice s0_1.a s0_1.n s0_1.c), (.map m0_2), (.map m0_3)].toArray)].toArray w fun e w' => ∃ v, e = .returned v ∧ R v w' :=
  funV_calls mixed Try.func62 (an := An62) (by rw [eq62]; exact h)

end Go.Proofs.Ytnbkihkdfhjlmaa
/-
  Contracts: a committed part read as one of snapshots: where transactions begin and end, what they write and read.
-/
namespace Go.Proofs.Ytnbkihkdfhjlmaa
open Go Go.VC
set_option maxHeartbeats 1000000
set_option maxRecDepth 100000

def beg (h : List Ev) (t : Int) : Int := ix t (h.map (·.t))
def begOf (h : List Ev) (t : Int) : Int := if t ∈ com h then beg h t else 0
def endOf (h : List Ev) (t : Int) : Int := if 1 ≤ t ∧ t ≤ 6 then fin h 2 t else 0
structure BegM (w : World) (b : Nat) (h : List Ev) (ts : List Int) : Prop where
  ex : ∃ (l : List (Ent Int Int)) (c : Nat), Mp kI kI w b l c ∧ ∀ t, mget l t = if t ∈ ts then some (beg h t) else none
theorem BegM.fr {M : Nat → Prop} {w w' : World} {b : Nat} {h : List Ev} {ts : List Int} (m : BegM w b h ts) (f : Fr M w w') (hn : ¬ M b) : BegM w' b h ts := by
  obtain ⟨l, c, h1, h2⟩ := m.ex
  exact ⟨l, c, h1.fr f hn, h2⟩
theorem BegM.ext {w w' : World} {b : Nat} {h : List Ev} {ts : List Int} (m : BegM w b h ts) (f : Ext w w') : BegM w' b h ts := m.fr f fun h => h
theorem BegM.look {w : World} {b : Nat} {h : List Ev} (m : BegM w b h (com h)) (t : Int) :
    (Instr.lookup 103 (.map (some b)) (.int .i64 t) false).run Try.prog w = .ok (.int .i64 (begOf h t)) w := by
  obtain ⟨l, c, h1, h2⟩ := m.ex
  have := (look_run K3 u103 h1 zero3 t).1
  rw [h2] at this
  rw [show (Value.int .i64 t) = kI t from rfl, this]
  unfold begOf
  split <;> rfl
/-- The four parts of a snapshot. -/
structure Snap (w : World) (s0 s1 : Sl) (m2 m3 : Option Nat) (h : List Ev) : Prop where
  hs : Hs w s0 h
  tx : Ints w s1 (com h)
  bg : ∃ b, m2 = some b ∧ BegM w b h (com h)
  en : ∃ b, m3 = some b ∧ EndM w b h 2
theorem Snap.ext {w w' : World} {s0 s1 : Sl} {m2 m3 : Option Nat} {h : List Ev} (s : Snap w s0 s1 m2 m3 h) (x : Ext w w') : Snap w' s0 s1 m2 m3 h := by
  obtain ⟨b, hb, hm⟩ := s.bg
  obtain ⟨b', hb', hm'⟩ := s.en
  exact ⟨s.hs.ext x, s.tx.ext x, ⟨b, hb, hm.ext x⟩, ⟨b', hb', hm'.ext x⟩⟩
theorem Snap.lb {w : World} {s0 s1 : Sl} {m2 m3 : Option Nat} {h : List Ev} (s : Snap w s0 s1 m2 m3 h) (t : Int) : (Instr.lookup 103 (.map m2) (.int .i64 t) false).run Try.prog w = .ok (.int .i64 (begOf h t)) w := by
  obtain ⟨b, rfl, hm⟩ := s.bg; exact hm.look t
theorem Snap.le {w : World} {s0 s1 : Sl} {m2 m3 : Option Nat} {h : List Ev} (s : Snap w s0 s1 m2 m3 h) (t : Int) : (Instr.lookup 103 (.map m3) (.int .i64 t) false).run Try.prog w = .ok (.int .i64 (endOf h t)) w := by
  obtain ⟨b, rfl, hm⟩ := s.en; exact hm.look t
def sC (s0 s1 : Sl) (m2 m3 : Option Nat) : List Value := [.slice s0.a s0.n s0.c, .slice s1.a s1.n s1.c, .map m2, .map m3]
theorem sC_one (s0 s1 : Sl) (m2 m3 : Option Nat) : ∀ v ∈ sC s0 s1 m2 m3, v.oneCell' = true := by intro v hv; simp [sC] at hv; rcases hv with rfl | rfl | rfl | rfl <;> rfl
theorem newSn (w : World) (s0 s1 : Sl) (m2 m3 : Option Nat) : Blk (w.alloc (.cells (sC s0 s1 m2 m3).toArray 112)) w.heap.size (sC s0 s1 m2 m3) 112 ∧ Ext w (w.alloc (.cells (sC s0 s1 m2 m3).toArray 112)) := ⟨Blk.alloc w _ 112, Ext.alloc ..⟩

def ovl (h : List Ev) (a b : Int) : Bool := decide (begOf h a < endOf h b) && decide (begOf h b < endOf h a)
def wrt (h : List Ev) (t i : Int) : Bool := decide ((⟨t, 1, i⟩ : Ev) ∈ h)
def rdB (t i : Int) : List Ev → Bool
  | [] => false
  | o :: r => if o = ⟨t, 1, i⟩ then false else if o = ⟨t, 0, i⟩ then true else rdB t i r
theorem rdB_take {t i : Int} : ∀ {h : List Ev} {n : Nat}, n ≤ h.length → (∀ o ∈ h.take n, o ≠ ⟨t, 1, i⟩ ∧ o ≠ ⟨t, 0, i⟩) → rdB t i h = rdB t i (h.drop n)
  | _, 0, _, _ => rfl
  | [], n + 1, h, _ => by simp at h
  | o :: r, n + 1, h, hn => by
    have h1 := hn o (by simp)
    rw [rdB, if_neg h1.1, if_neg h1.2, List.drop_succ_cons]
    exact rdB_take (by simpa using h) fun p hp => hn p (by simp [hp])
/-- The last writer of an item that committed before a transaction began, of those looked at. -/
def srcN (h : List Ev) (t i : Int) : List Int → Int → Int
  | [], best => best
  | a :: r, best => srcN h t i r (if wrt h a i = true ∧ endOf h a < begOf h t ∧ (best = 0 ∨ endOf h a > endOf h best) then a else best)
def srcS (h : List Ev) (t i : Int) : Int := srcN h t i (com h) 0
theorem srcN_append (h : List Ev) (t i : Int) : ∀ (l m : List Int) (b : Int), srcN h t i (l ++ m) b = srcN h t i m (srcN h t i l b)
  | [], _, _ => rfl
  | a :: r, m, b => by rw [List.cons_append, srcN, srcN, srcN_append h t i r m]

section
variable {w : World} {s0 s1 : Sl} {m2 m3 : Option Nat} {h : List Ev}
theorem c63 (s : Snap w s0 s1 m2 m3 h) (a b : Int) :
    Calls Try.prog 63 [.agg [.slice s0.a s0.n s0.c, .slice s1.a s1.n s1.c, .map m2, .map m3].toArray, .int .i64 a, .int .i64 b].toArray w fun e w' => e = .returned (.bool (ovl h a b)) ∧ Ext w w' := by
  refine (call63 s0 s1 m2 m3 a b (R := fun v w' => v = .bool (ovl h a b) ∧ Ext w w') ?_).mono fun e w' ⟨v, he, hv, hx⟩ => ⟨by rw [he, hv], hx⟩
  obtain ⟨hb1, hx1⟩ := newSn w s0 s1 m2 m3
  refine Let.intro fun w1 e1 => Join.dir ?_
  have hb1 : Blk w1 w.heap.size (sC s0 s1 m2 m3) 112 := by rw [e1]; exact hb1
  have hx1 : Ext w w1 := by rw [e1]; exact hx1
  have s1' := s.ext hx1
  refine ⟨m2, hb1.cell 2, _, s1'.lb a, m3, hb1.cell 3, _, s1'.le b, cond_intro (fun hc => ?_) (fun hc => ?_)⟩
  · refine ⟨m2, hb1.cell 2, _, s1'.lb b, m3, hb1.cell 3, _, s1'.le a, ?_, hx1⟩
    unfold ovl; rw [hc]; rfl
  · exact ⟨by unfold ovl; rw [hc]; rfl, hx1⟩
theorem c86 (s : Snap w s0 s1 m2 m3 h) (t i : Int) (hl : h.length ≤ big) :
    Calls Try.prog 86 [.agg [.slice s0.a s0.n s0.c, .slice s1.a s1.n s1.c, .map m2, .map m3].toArray, .int .i64 t, .int .i64 i].toArray w fun e w' => e = .returned (.bool (wrt h t i)) ∧ Ext w w' := by
  refine (call86 s0 s1 m2 m3 t i (R := fun v w' => v = .bool (wrt h t i) ∧ Ext w w') ?_).mono fun e w' ⟨v, he, hv, hx⟩ => ⟨by rw [he, hv], hx⟩
  obtain ⟨hb1, hx1⟩ := newSn w s0 s1 m2 m3
  refine Let.intro fun w1 e1 => ?_
  have hb1 : Blk w1 w.heap.size (sC s0 s1 m2 m3) 112 := by rw [e1]; exact hb1
  have hx1 : Ext w w1 := by rw [e1]; exact hx1
  refine ⟨s0, hb1.cell 0, (c27 (s.hs.ext hx1) ⟨t, 1, i⟩ hl).mono fun e w2 ⟨he, hx2⟩ => ⟨_, he, rfl, hx1.trans hx2⟩⟩
theorem c87 (s : Snap w s0 s1 m2 m3 h) (t i : Int) (hl : h.length ≤ big) :
    Calls Try.prog 87 [.agg [.slice s0.a s0.n s0.c, .slice s1.a s1.n s1.c, .map m2, .map m3].toArray, .int .i64 t, .int .i64 i].toArray w fun e w' => e = .returned (.bool (rdB t i h)) ∧ Ext w w' := by
  refine (call87 s0 s1 m2 m3 t i (R := fun v w' => v = .bool (rdB t i h) ∧ Ext w w') ?_).mono fun e w' ⟨v, he, hv, hx⟩ => ⟨by rw [he, hv], hx⟩
  obtain ⟨hb1, hx1⟩ := newSn w s0 s1 m2 m3
  refine Let.intro fun w1 e1 => ?_
  have hb1 : Blk w1 w.heap.size (sC s0 s1 m2 m3) 112 := by rw [e1]; exact hb1
  have hx1 : Ext w w1 := by rw [e1]; exact hx1
  have hs1 := s.hs.ext hx1
  have hn := hs1.len
  refine ⟨s0, hb1.cell 0, Join.dir (rangeI (fun n w' => (∀ o ∈ h.take n, o ≠ ⟨t, 1, i⟩ ∧ o ≠ ⟨t, 0, i⟩) ∧ Ext w1 w') (by rw [hn]; exact hl) ⟨by simp, Fr.refl _ _⟩ ?_ ?_)⟩
  · rintro n hi w3 ⟨hno, hx3⟩ K hK
    have hi : n < h.length := by omega
    have hd : h.drop n = h[n] :: h.drop (n + 1) := List.drop_eq_getElem_cons hi
    refine loadEv (hs1.ext hx3) hi zc38 fun w6 hb6 hx6 => ?_
    have hx := (hx1.trans hx3).trans hx6
    refine ⟨h[n].t, h[n].k, h[n].i, hb6.rd, Join.dir ⟨decide (h[n] = ⟨t, 1, i⟩), fun w => opEq h[n] ⟨t, 1, i⟩ w, cond_intro (fun hc => ?_) (fun hc => ⟨decide (h[n] = ⟨t, 0, i⟩), fun w => opEq h[n] ⟨t, 0, i⟩ w, cond_intro (fun hc2 => ?_) (fun hc2 => ?_)⟩)⟩⟩
    · have hc : h[n] = ⟨t, 1, i⟩ := by simpa using hc
      exact ⟨by rw [rdB_take (by omega) hno, hd, rdB, if_pos hc], hx⟩
    · have hc : h[n] ≠ ⟨t, 1, i⟩ := by simpa using hc
      have hc2 : h[n] = ⟨t, 0, i⟩ := by simpa using hc2
      exact ⟨by rw [rdB_take (by omega) hno, hd, rdB, if_neg hc, if_pos hc2], hx⟩
    · have hc : h[n] ≠ ⟨t, 1, i⟩ := by simpa using hc
      have hc2 : h[n] ≠ ⟨t, 0, i⟩ := by simpa using hc2
      refine hK _ ⟨fun o ho => ?_, hx3.trans hx6⟩
      rw [List.take_succ_eq_append_getElem hi] at ho
      rcases List.mem_append.1 ho with ho | ho
      · exact hno o ho
      · have : o = h[n] := by simpa using ho
        subst this; exact ⟨hc, hc2⟩
  · rintro w3 ⟨hno, hx3⟩
    rw [hn] at hno
    exact ⟨by rw [rdB_take (Nat.le_refl _) hno, List.drop_length]; rfl, hx1.trans hx3⟩
theorem c88 (s : Snap w s0 s1 m2 m3 h) (t i : Int) (hl : h.length ≤ big) :
    Calls Try.prog 88 [.agg [.slice s0.a s0.n s0.c, .slice s1.a s1.n s1.c, .map m2, .map m3].toArray, .int .i64 t, .int .i64 i].toArray w fun e w' => e = .returned (.int .i64 (srcS h t i)) ∧ Ext w w' := by
  refine (call88 s0 s1 m2 m3 t i (R := fun v w' => v = .int .i64 (srcS h t i) ∧ Ext w w') ?_).mono fun e w' ⟨v, he, hv, hx⟩ => ⟨by rw [he, hv], hx⟩
  obtain ⟨hb1, hx1⟩ := newSn w s0 s1 m2 m3
  refine Let.intro fun w1 e1 => ?_
  have hb1 : Blk w1 w.heap.size (sC s0 s1 m2 m3) 112 := by rw [e1]; exact hb1
  have hx1 : Ext w w1 := by rw [e1]; exact hx1
  have ss1 := s.ext hx1
  have hn := ss1.tx.len
  have hcl := com_len h
  refine ⟨s1, hb1.cell 1, Join.dir (rangeKI (k := .int .i64) (fun n (x : Int) w' => x = srcN h t i ((com h).take n) 0 ∧ Ext w1 w') (by rw [hn]; show (com h).length ≤ 9223372036854775807; omega) ⟨rfl, Fr.refl _ _⟩ ?_ ?_)⟩
  · rintro n hi x w3 ⟨rfl, hx3⟩ K hK
    have hi : n < (com h).length := by omega
    have s3 := ss1.ext hx3
    have hb3 := hb1.ext hx3
    obtain ⟨p, hp, a1, a2, hr⟩ := Ints.at s3.tx hi
    have hstep : srcN h t i ((com h).take (n + 1)) 0 = if wrt h (com h)[n] i = true ∧ endOf h (com h)[n] < begOf h t ∧ (srcN h t i ((com h).take n) 0 = 0 ∨ endOf h (com h)[n] > endOf h (srcN h t i ((com h).take n) 0)) then (com h)[n] else srcN h t i ((com h).take n) 0 := by
      rw [List.take_succ_eq_append_getElem hi, srcN_append]; rfl
    generalize hbe : srcN h t i ((com h).take n) 0 = best at hstep
    generalize hae : (com h)[n] = a at hstep hr
    refine ⟨p, hp, a1, a2, a, hr, ?_⟩
    refine ⟨fun (c : Bool) w5 => (c = true ↔ wrt h a i = true ∧ endOf h a < begOf h t ∧ (best = 0 ∨ endOf h a > endOf h best)) ∧ Ext w3 w5, ?_, ?_⟩
    · rintro c w5 ⟨hc, hx5⟩
      refine Join.dir (cond_intro (fun h1 => hK _ _ ⟨?_, hx3.trans hx5⟩) (fun h1 => hK _ _ ⟨?_, hx3.trans hx5⟩))
      · rw [hstep, if_pos (hc.1 h1)]
      · rw [hstep, if_neg fun h2 => by rw [hc.2 h2] at h1; cases h1]
    · refine ⟨s0, s1, m2, m3, hb3.rd, (c86 s3 a i hl).mono fun e w7 ⟨he, hx7⟩ => ⟨_, he, cond_intro (fun g1 => ?_) (fun g1 => ?_)⟩⟩
      rotate_left
      · refine ⟨?_, hx7⟩
        simp [g1]
      have s7 := s3.ext hx7
      have hb7 := hb3.ext hx7
      refine ⟨m3, hb7.cell 3, _, s7.le a, m2, hb7.cell 2, _, s7.lb t, cond_intro (fun g2 => ?_) (fun g2 => ?_)⟩
      rotate_left
      · have g2 : ¬ endOf h a < begOf h t := by simpa using g2
        refine ⟨?_, hx7⟩
        simp only [Bool.false_eq_true, false_iff]
        exact fun h => g2 h.2.1
      have g2 : endOf h a < begOf h t := by simpa using g2
      refine cond_intro (fun g3 => ?_) (fun g3 => ?_)
      · have g3 : best = 0 := by simpa using g3
        refine ⟨?_, hx7⟩
        simp only [true_iff]
        exact ⟨g1, g2, .inl g3⟩
      have g3 : best ≠ 0 := by simpa using g3
      refine ⟨m3, hb7.cell 3, _, s7.le a, m3, hb7.cell 3, _, s7.le best, ?_, hx7⟩
      simp only [decide_eq_true_eq]
      exact ⟨fun h => ⟨g1, g2, .inr h⟩, fun h => by rcases h.2.2 with h | h; exact absurd h g3; exact h⟩
  · rintro x w3 ⟨rfl, hx3⟩
    refine ⟨?_, hx1.trans hx3⟩
    rw [hn, List.take_length]; rfl
end
/-- IndexFunc of operations: the first of a transaction. -/
theorem callable85 : callable Try.prog 85 = true := by kernel_rfl
theorem c84 {w : World} {s : Sl} {h : List Ev} (hs : Hs w s h) (hl : h.length ≤ big) {q : Nat} {T : TypeId} {t : Int} (hq : Blk w q [.int .i64 t] T) :
    Calls Try.prog 84 [.slice s.a s.n s.c, .func (.func 85) #[] [.pointer (some ⟨q, 0, none⟩)].toArray].toArray w fun e w' => e = .returned (.int .i64 (beg h t)) ∧ Ext w w' := by
  refine (call84 s 85 [.pointer (some ⟨q, 0, none⟩)] (R := fun v w' => v = .int .i64 (beg h t) ∧ Ext w w') ?_).mono fun e w' ⟨v, he, hv, hx⟩ => ⟨by rw [he, hv], hx⟩
  have hn := hs.len
  have hml : (h.map (·.t)).length = h.length := List.length_map ..
  refine Join.dir (rangeI (fun i w' => t ∉ (h.map (·.t)).take i ∧ Ext w w') (by rw [hn]; exact hl) ⟨by simp, Fr.refl _ _⟩ ?_ ?_)
  · rintro i hi w2 ⟨hno, hx2⟩ K hK
    have hi : i < h.length := by omega
    have hget : (h.map (·.t))[i]? = some h[i].t := by simp [hi]
    obtain ⟨p, hp, a1, a2, hr⟩ := Sli.at eO_len (hs.ext hx2) hi
    refine ⟨p, hp, a1, a2, h[i].t, h[i].k, h[i].i, hr, ?_⟩
    rw [callable85]
    show Calls Try.prog 85 _ w2 _
    refine (call85 h[i].t h[i].k h[i].i ⟨q, 0⟩ (R := fun v w' => v = .bool (decide (h[i].t = t)) ∧ Ext w2 w') ?_).mono fun e w4 ⟨v, he, hv, hx4⟩ => ⟨decide (h[i].t = t), by rw [he, hv], cond_intro (fun hc => ?_) (fun hc => ?_)⟩
    · obtain ⟨hb1, hx1⟩ := newEv w2 h[i] 38
      refine Let.intro fun w3 e3 => ?_
      have e3 : w3 = w2.alloc (.cells (eO h[i]).toArray 38) := e3
      rw [← e3] at hb1 hx1
      refine ⟨_, hb1.cell 0, t, ((hq.ext hx2).ext hx1).cell 0, ?_, hx1⟩
      congr 1
    · have hc : h[i].t = t := by simpa using hc
      exact ⟨by unfold beg; rw [ix_at (by rw [hget, hc]) hno], hx2.trans hx4⟩
    · have hc : ¬ h[i].t = t := by simpa using hc
      exact hK _ ⟨not_take hno hget hc, hx2.trans hx4⟩
  · rintro w2 ⟨hno, hx2⟩
    refine ⟨?_, hx2⟩
    unfold beg
    rw [hn, List.take_of_length_le (by rw [hml]; exact Nat.le_refl _)] at hno
    rw [ix_not hno]
theorem zc112 : (zc Try.prog 112).size = 4 := by kernel_rfl
theorem zc3 : (zc Try.prog 3).size = 1 := by kernel_rfl
theorem c60 {w : World} {s : Sl} {h : List Ev} (hs : Hs w s h) (hl : h.length ≤ big) :
    Calls Try.prog 60 [.slice s.a s.n s.c].toArray w fun e w' => ∃ (s0 s1 : Sl) (m2 m3 : Option Nat), e = .returned (.agg [.slice s0.a s0.n s0.c, .slice s1.a s1.n s1.c, .map m2, .map m3].toArray) ∧ Snap w' s0 s1 m2 m3 h ∧ Ext w w' := by
  refine (call60 s (R := fun v w' => ∃ (s0 s1 : Sl) (m2 m3 : Option Nat), v = (.agg [.slice s0.a s0.n s0.c, .slice s1.a s1.n s1.c, .map m2, .map m3].toArray) ∧ Snap w' s0 s1 m2 m3 h ∧ Ext w w') ?_).mono fun e w' ⟨v, he, s0, s1, m2, m3, hv, hx⟩ => ⟨s0, s1, m2, m3, by rw [he, hv], hx⟩
  refine Let.intro fun w1 e1 => ?_
  have hx1 : Ext w w1 := by rw [e1]; exact Ext.alloc ..
  have hb1 : Blk w1 w.heap.size (zc Try.prog 112).toList 112 := by rw [e1]; simpa using Blk.alloc w (zc Try.prog 112).toList 112
  refine (c36 (hs.ext hx1) hl).mono fun e w2 ⟨s8, he, ho8, hx2⟩ => ⟨s8, he, Let.intro fun w3 e3 => ?_⟩
  have hx3 : Ext w2 w3 := by rw [e3]; exact Ext.alloc ..
  have hm3 : Mp kI kI w3 w2.heap.size ([] : List (Ent Int Int)) 0 := by rw [e3]; exact Mp.made w2
  have hx03 := (hx1.trans hx2).trans hx3
  refine (c54 (hs.ext hx03) 2 hl).mono fun e w4 ⟨he, hm4, hx4⟩ => ⟨_, he, ?_⟩
  obtain ⟨n1, n2, n3⟩ := new_var w4 112 (z := zc Try.prog 112) (vs := sC s s8 (some w2.heap.size) (some w3.heap.size)) (by rw [zc112]; rfl) (sC_one s s8 _ _)
  refine Let.intro fun w5 e5 => ?_
  rw [← e5] at n1 n2 n3
  refine ⟨n1, Let.intro fun w6 e6 => ?_⟩
  have e6 : w6 = put w5 w4.heap.size 0 (sC s s8 (some w2.heap.size) (some w3.heap.size)) := e6
  rw [← e6] at n2 n3
  have hx04 := hx03.trans hx4
  have hx06 := hx04.trans n3
  have z1 := hx1.size
  have z2 := hx2.size
  have z3 := hx3.size
  have z4 := hx4.size
  have l1 := hb1.lt
  have l3 := hm3.bound
  have l6 := n2.lt
  have hn8 := ho8.sli.len
  have hcl := com_len h
  have ht6 : Ints w6 s8 (com h) := ho8.sli.ext ((hx3.trans hx4).trans n3)
  have hm6 := (hm3.ext hx4).ext n3
  have hlt4 : w3.heap.size < w4.heap.size := by
    obtain ⟨l, c, h1, _⟩ := hm4.ex; exact h1.bound
  have hfr : Fr (fun y => y = w2.heap.size) w6 w6 := Fr.refl _ _
  refine ⟨s8, n2.cell 1, Join.dir (rangeI (fun i w' => BegM w' w2.heap.size h ((com h).take i) ∧ Fr (fun y => y = w2.heap.size) w6 w' ∧ Ext w w') (by rw [hn8]; show (com h).length ≤ 9223372036854775807; omega) ⟨⟨[], 0, hm6, fun t => by simp [mget]⟩, Fr.refl _ _, hx06⟩ ?_ ?_)⟩
  · rintro i hi w9 ⟨hbm, hf9, hx9⟩ K hK
    have hi : i < (com h).length := by omega
    have z6 := hf9.size
    have ho6 : Own 3 1 eI w1.heap.size w6 s8 (com h) := ho8.ext ((hx3.trans hx4).trans n3)
    have ht9 : Ints w9 s8 (com h) := ht6.fr hf9 fun a ha (e : a.block = w2.heap.size) => by
      obtain ⟨cur, hc⟩ := ho6.blk ha
      rw [e] at hc
      exact hm6.ne_blk hc rfl
    have hn9 : Blk w9 w4.heap.size (sC s s8 (some w2.heap.size) (some w3.heap.size)) 112 := n2.fr hf9 (by omega)
    obtain ⟨p, hp, a1, a2, hr⟩ := Ints.at ht9 hi
    obtain ⟨g1, g2, g3⟩ := new_var w9 3 (z := zc Try.prog 3) (vs := eI (com h)[i]) (by rw [zc3]; rfl) (eI_one _)
    refine ⟨p, hp, a1, a2, _, hr, Let.intro fun w11 e11 => ?_⟩
    rw [← e11] at g1 g2 g3
    refine ⟨g1, Let.intro fun w12 e12 => ?_⟩
    have e12 : w12 = put w11 w9.heap.size 0 (eI (com h)[i]) := e12
    rw [← e12] at g2 g3
    refine ⟨fun u => Ext w12 u, Ext.drew _, Let.intro fun w13 e13 => ?_⟩
    have hx13 : Ext w12 w13 := by rw [e13]; exact Ext.drew _
    have hx913 := g3.trans hx13
    refine ⟨some w2.heap.size, fun u hu => ((hn9.ext g3).ext hu).cell 2, (com h)[i], fun u hu => (g2.ext hu).cell 0, ?_⟩
    refine (c84 ((hs.ext hx9).ext hx913) hl (g2.ext hx13)).mono fun e w14 ⟨he, hx14⟩ => ⟨_, he, hx13.trans hx14, ?_⟩
    obtain ⟨l, c, hmp, hml⟩ := (hbm.ext (hx913.trans hx14)).ex
    obtain ⟨w15, c15, hrun, hmp15, hf15⟩ := put_run K3 u103 hmp (com h)[i] (beg h (com h)[i])
    refine ⟨w15, hrun, hK _ ⟨⟨_, c15, hmp15, fun t => ?_⟩, (hf9.ext (hx913.trans hx14)).trans hf15 fun _ _ h => h, ((hx9.trans hx913).trans hx14).newer hf15 fun y (hy : y = w2.heap.size) => by omega⟩⟩
    rw [mget_mput, List.take_succ_eq_append_getElem hi, hml]
    by_cases e : t = (com h)[i]
    · subst e; simp only [if_pos rfl, List.mem_append, List.mem_singleton, or_true, if_true]
    · rw [if_neg e]
      simp only [List.mem_append, List.mem_singleton, e, or_false]
  · rintro w7 ⟨hbm, hf7, hx7⟩
    rw [hn8, List.take_length] at hbm
    have hn7 : Blk w7 w4.heap.size (sC s s8 (some w2.heap.size) (some w3.heap.size)) 112 := n2.fr hf7 (by omega)
    have hb7 : Blk w7 w.heap.size (zc Try.prog 112).toList 112 := (hb1.ext (((hx2.trans hx3).trans hx4).trans n3)).fr hf7 (by omega)
    have hzl : (zc Try.prog 112).toList.length = 4 := by simpa using zc112
    have hput := hb7.put (o := 0) (vs := sC s s8 (some w2.heap.size) (some w3.heap.size))
    rw [show setR (zc Try.prog 112).toList 0 (sC s s8 (some w2.heap.size) (some w3.heap.size)) = sC s s8 (some w2.heap.size) (some w3.heap.size) from by simpa using setR_all (vs := sC s s8 (some w2.heap.size) (some w3.heap.size)) (l := (zc Try.prog 112).toList) (pre := []) (by rw [hzl]; rfl)] at hput
    have hfr8 : Fr (fun y => y = w.heap.size) w7 (put w7 w.heap.size 0 (sC s s8 (some w2.heap.size) (some w3.heap.size))) := Fr.put ..
    refine ⟨s, s8, some w2.heap.size, some w3.heap.size, hn7.rd, hb7.storeOk rfl (sC_one s s8 _ _) (by rw [hzl]; exact Nat.le_refl _), Let.intro fun w8 e8 => ?_⟩
    have e8 : w8 = put w7 w.heap.size 0 (sC s s8 (some w2.heap.size) (some w3.heap.size)) := e8
    rw [← e8] at hput hfr8
    have hx8 : Ext w w8 := hx7.newer hfr8 fun y (hy : y = w.heap.size) => by omega
    have ho6 : Own 3 1 eI w1.heap.size w6 s8 (com h) := ho8.ext ((hx3.trans hx4).trans n3)
    have ho7 : Own 3 1 eI w1.heap.size w7 s8 (com h) := ho6.fr hf7 fun a ha (e : a.block = w2.heap.size) => by
      obtain ⟨cur, hc⟩ := ho6.blk ha
      rw [e] at hc
      exact hm6.ne_blk hc rfl
    refine ⟨s, s8, some w2.heap.size, some w3.heap.size, hput.rd, s, s8, some w2.heap.size, some w3.heap.size, rfl, ⟨hs.ext hx8, ?_, ⟨_, rfl, hbm.fr hfr8 fun (e : w2.heap.size = w.heap.size) => by omega⟩, ⟨_, rfl, ((hm4.ext n3).fr hf7 (by omega)).fr hfr8 fun (e : w3.heap.size = w.heap.size) => by omega⟩⟩, hx8⟩
    exact ho7.sli.fr hfr8 fun a ha (e : a.block = w.heap.size) => by have := (ho7.base ha).1; omega
end Go.Proofs.Ytnbkihkdfhjlmaa
/-
  Contracts: what snapshots allow; the edges between transactions; the order under snapshots.
-/
namespace Go.Proofs.Ytnbkihkdfhjlmaa
open Go Go.VC
set_option maxHeartbeats 1000000
set_option maxRecDepth 100000

def badA (h : List Ev) (a b i : Int) : Bool := decide (a < b) && (ovl h a b && (wrt h a i && wrt h b i))
def allowP (h : List Ev) : Prop := ∀ a ∈ com h, ∀ b ∈ com h, ∀ i : Nat, i < 6 → badA h a b i = false
theorem take_succ_mem {α : Type} {l : List α} {n : Nat} (hi : n < l.length) {x : α} : x ∈ l.take (n + 1) ↔ x ∈ l.take n ∨ x = l[n] := by
  rw [List.take_succ_eq_append_getElem hi, List.mem_append, List.mem_singleton]
section
variable {w : World} {s0 s1 : Sl} {m2 m3 : Option Nat} {h : List Ev}
theorem c61 (s : Snap w s0 s1 m2 m3 h) (hl : h.length ≤ big) :
    Calls Try.prog 61 [.agg [.slice s0.a s0.n s0.c, .slice s1.a s1.n s1.c, .map m2, .map m3].toArray].toArray w fun e w' => ∃ c : Bool, e = .returned (.bool c) ∧ (c = true ↔ allowP h) ∧ Ext w w' := by
  refine (call61 s0 s1 m2 m3 (R := fun v w' => ∃ c : Bool, v = .bool c ∧ (c = true ↔ allowP h) ∧ Ext w w') ?_).mono fun e w' ⟨v, he, c, hv, hx⟩ => ⟨c, by rw [he, hv], hx⟩
  obtain ⟨hb1, hx1⟩ := newSn w s0 s1 m2 m3
  refine Let.intro fun w1 e1 => ?_
  have hb1 : Blk w1 w.heap.size (sC s0 s1 m2 m3) 112 := by rw [e1]; exact hb1
  have hx1 : Ext w w1 := by rw [e1]; exact hx1
  have ss := s.ext hx1
  have hn := ss.tx.len
  have hcl := com_len h
  have hb6 : (com h).length ≤ big := by show (com h).length ≤ 9223372036854775807; omega
  refine ⟨s1, hb1.cell 1, Join.dir (rangeI (fun i w' => (∀ a ∈ (com h).take i, ∀ b ∈ com h, ∀ k : Nat, k < 6 → badA h a b k = false) ∧ Ext w1 w') (by rw [hn]; exact hb6) ⟨by simp, Fr.refl _ _⟩ ?_ ?_)⟩
  · rintro i hi w3 ⟨hA, hx3⟩ K hK
    have hi : i < (com h).length := by omega
    obtain ⟨p, hp, a1, a2, hr⟩ := Ints.at (ss.tx.ext hx3) hi
    refine ⟨p, hp, a1, a2, _, hr, s1, (hb1.ext hx3).cell 1, Join.dir (rangeI (fun j w' => (∀ b ∈ (com h).take j, ∀ k : Nat, k < 6 → badA h (com h)[i] b k = false) ∧ Ext w1 w') (by rw [hn]; exact hb6) ⟨by simp, hx3⟩ ?_ ?_)⟩
    · rintro j hj w6 ⟨hB, hx6⟩ K2 hK2
      have hj : j < (com h).length := by omega
      obtain ⟨q, hq, b1, b2, hr'⟩ := Ints.at (ss.tx.ext hx6) hj
      refine ⟨q, hq, b1, b2, _, hr', Join.dir (rangeI (n := 6) (fun k w' => (∀ k' < k, badA h (com h)[i] (com h)[j] (k' : Nat) = false) ∧ Ext w1 w') (by decide) ⟨by simp, hx6⟩ ?_ ?_)⟩
      · rintro k hk w9 ⟨hC, hx9⟩ K3 hK3
        have s9 := ss.ext hx9
        have hb9 := hb1.ext hx9
        have hx09 := hx1.trans hx9
        refine ⟨fun (c : Bool) w' => c = badA h (com h)[i] (com h)[j] (k : Nat) ∧ Ext w9 w', ?_, ?_⟩
        · rintro c w11 ⟨rfl, hx11⟩
          refine cond_intro (fun hc => ⟨false, rfl, ?_, hx09.trans hx11⟩) (fun hc => hK3 _ ⟨fun k' hk' => ?_, hx9.trans hx11⟩)
          · simp only [Bool.false_eq_true, false_iff]
            intro hall
            rw [hall _ (List.getElem_mem hi) _ (List.getElem_mem hj) k hk] at hc; cases hc
          · by_cases e : k' = k
            · subst e; exact hc
            · exact hC k' (by omega)
        · refine cond_intro (fun g1 => ?_) (fun g1 => ⟨?_, Fr.refl _ _⟩)
          rotate_left
          · unfold badA; rw [g1]; rfl
          refine ⟨s0, s1, m2, m3, hb9.rd, (c63 s9 _ _).mono fun e w12 ⟨he, hx12⟩ => ⟨_, he, cond_intro (fun g2 => ?_) (fun g2 => ⟨?_, hx12⟩)⟩⟩
          rotate_left
          · unfold badA; rw [g2]; simp
          refine ⟨s0, s1, m2, m3, (hb9.ext hx12).rd, (c86 (s9.ext hx12) _ _ hl).mono fun e w13 ⟨he, hx13⟩ => ⟨_, he, cond_intro (fun g3 => ?_) (fun g3 => ⟨?_, hx12.trans hx13⟩)⟩⟩
          rotate_left
          · unfold badA; rw [g3]; simp
          refine ⟨s0, s1, m2, m3, ((hb9.ext hx12).ext hx13).rd, (c86 ((s9.ext hx12).ext hx13) _ _ hl).mono fun e w14 ⟨he, hx14⟩ => ⟨_, he, ?_, (hx12.trans hx13).trans hx14⟩⟩
          unfold badA; rw [g1, g2, g3]; rfl
      · rintro w9 ⟨hC, hx9⟩
        refine hK2 _ ⟨fun b hb k hk => ?_, hx9⟩
        rcases (take_succ_mem hj).1 hb with hb | hb
        · exact hB b hb k hk
        · rw [hb]; exact hC k hk
    · rintro w6 ⟨hB, hx6⟩
      rw [hn, List.take_length] at hB
      refine hK _ ⟨fun a ha b hb k hk => ?_, hx6⟩
      rcases (take_succ_mem hi).1 ha with ha | ha
      · exact hA a ha b hb k hk
      · rw [ha]; exact hB b hb k hk
  · rintro w3 ⟨hA, hx3⟩
    rw [hn, List.take_length] at hA
    exact ⟨true, rfl, by simp; exact hA, hx1.trans hx3⟩

/-! ### the edges -/
def antK (h : List Ev) (a b i : Int) : Bool := !(a == b) && (rdB a i h && (wrt h b i && decide (endOf h b > begOf h a)))
def othK (h : List Ev) (a b i : Int) : Bool := !(a == b) && ((wrt h a i && (wrt h b i && decide (endOf h a < endOf h b))) || (rdB b i h && (srcS h b i == a)))
def antE (h : List Ev) (a b : Int) : Bool := decide (a ∈ com h) && (decide (b ∈ com h) && (List.range 6).any fun k => antK h a b (k : Nat))
def allE (h : List Ev) (a b : Int) : Bool := decide (a ∈ com h) && (decide (b ∈ com h) && (List.range 6).any fun k => antK h a b (k : Nat) || othK h a b (k : Nat))
/-- A map of edges that holds true at just these. -/
structure SetM (w : World) (b : Nat) (Q : Int → Int → Prop) : Prop where
  ex : ∃ (l : List (Ent (Int × Int) Bool)) (c : Nat), Mp kE kB w b l c ∧ ∀ x y, (mget l (x, y) = some true ∧ Q x y) ∨ (mget l (x, y) = none ∧ ¬ Q x y)
theorem SetM.fr {M : Nat → Prop} {w w' : World} {b : Nat} {Q : Int → Int → Prop} (m : SetM w b Q) (f : Fr M w w') (hn : ¬ M b) : SetM w' b Q := by
  obtain ⟨l, c, h1, h2⟩ := m.ex
  exact ⟨l, c, h1.fr f hn, h2⟩
theorem SetM.ext {w w' : World} {b : Nat} {Q : Int → Int → Prop} (m : SetM w b Q) (f : Ext w w') : SetM w' b Q := m.fr f fun h => h
theorem SetM.congr {w : World} {b : Nat} {Q Q' : Int → Int → Prop} (m : SetM w b Q) (h : ∀ x y, Q' x y ↔ Q x y) : SetM w b Q' := by
  obtain ⟨l, c, h1, h2⟩ := m.ex
  exact ⟨l, c, h1, fun x y => by rcases h2 x y with ⟨a, b⟩ | ⟨a, b⟩; exact .inl ⟨a, (h x y).2 b⟩; exact .inr ⟨a, fun h3 => b ((h x y).1 h3)⟩⟩
theorem SetM.edge {w : World} {b : Nat} {E : Int → Int → Bool} (m : SetM w b fun x y => E x y = true) : EdgeM w b E := by
  obtain ⟨l, c, h1, h2⟩ := m.ex
  refine ⟨l, c, h1, fun x y => ?_⟩
  rcases h2 x y with ⟨a, b⟩ | ⟨a, b⟩
  · rw [a, b]; rfl
  · rw [a]; simp at b; rw [b]; rfl
theorem SetM.put {w : World} {b : Nat} {Q : Int → Int → Prop} (m : SetM w b Q) (x y : Int) : ∃ w', (Instr.mapUpdate 75 (.map (some b)) (.agg [.int .i64 x, .int .i64 y].toArray) (.bool true)).run Try.prog w = .ok () w' ∧ SetM w' b (fun a c => Q a c ∨ (a = x ∧ c = y)) ∧ Fr (fun z => z = b) w w' := by
  obtain ⟨l, c, h1, h2⟩ := m.ex
  obtain ⟨w', c', hrun, hmp, hf⟩ := put_run K79 u75 h1 (x, y) true
  refine ⟨w', hrun, ⟨_, c', hmp, fun a d => ?_⟩, hf⟩
  rw [mget_mput]
  by_cases e : (a, d) = (x, y)
  · rw [if_pos e]
    simp only [Prod.mk.injEq] at e
    exact .inl ⟨rfl, .inr e⟩
  · rw [if_neg e]
    simp only [Prod.mk.injEq] at e
    rcases h2 a d with ⟨p, q⟩ | ⟨p, q⟩
    · exact .inl ⟨p, .inl q⟩
    · exact .inr ⟨p, fun h => by rcases h with h | h; exact q h; exact e h⟩
theorem SetM.lt {w : World} {b : Nat} {Q : Int → Int → Prop} (m : SetM w b Q) : b < w.heap.size := by obtain ⟨l, c, h1, _⟩ := m.ex; exact h1.bound
theorem SetM.ne_blk {w : World} {b b' T : Nat} {l' : List Value} {Q : Int → Int → Prop} (m : SetM w b Q) (h' : Blk w b' l' T) : b ≠ b' := by obtain ⟨l, c, h1, _⟩ := m.ex; exact h1.ne_blk h'
theorem SetM.made (w : World) : SetM (w.alloc (.map #[] 0)) w.heap.size fun _ _ => False := ⟨[], 0, Mp.made w, fun x y => .inr ⟨rfl, fun h => h⟩⟩
/-- What was found so far. -/
def dn1 (h : List Ev) (C : Int → Int → Int → Bool) (i : Nat) (a b : Int) : Prop := a ∈ (com h).take i ∧ b ∈ com h ∧ ∃ k : Nat, k < 6 ∧ C a b k = true
def dn2 (h : List Ev) (C : Int → Int → Int → Bool) (i j : Nat) (x a b : Int) : Prop := dn1 h C i a b ∨ (a = x ∧ b ∈ (com h).take j ∧ ∃ k : Nat, k < 6 ∧ C a b k = true)
def dn3 (h : List Ev) (C : Int → Int → Int → Bool) (i j n : Nat) (x y a b : Int) : Prop := dn2 h C i j x a b ∨ (a = x ∧ b = y ∧ ∃ k : Nat, k < n ∧ C a b k = true)
theorem dn2_zero {C : Int → Int → Int → Bool} {i : Nat} {x a b : Int} : dn2 h C i 0 x a b ↔ dn1 h C i a b := by unfold dn2; simp
theorem dn3_zero {C : Int → Int → Int → Bool} {i j : Nat} {x y a b : Int} : dn3 h C i j 0 x y a b ↔ dn2 h C i j x a b := by unfold dn3; simp
theorem dn3_six {C : Int → Int → Int → Bool} {i j : Nat} (hj : j < (com h).length) {x a b : Int} : dn2 h C i (j + 1) x a b ↔ dn3 h C i j 6 x (com h)[j] a b := by
  unfold dn3 dn2
  rw [take_succ_mem hj]
  constructor
  · rintro (h1 | ⟨h1, h2 | h2, h3⟩)
    · exact .inl (.inl h1)
    · exact .inl (.inr ⟨h1, h2, h3⟩)
    · exact .inr ⟨h1, h2, h3⟩
  · rintro ((h1 | ⟨h1, h2, h3⟩) | ⟨h1, h2, h3⟩)
    · exact .inl h1
    · exact .inr ⟨h1, .inl h2, h3⟩
    · exact .inr ⟨h1, .inr h2, h3⟩
theorem dn2_all {C : Int → Int → Int → Bool} {i : Nat} (hi : i < (com h).length) {a b : Int} : dn1 h C (i + 1) a b ↔ dn2 h C i (com h).length (com h)[i] a b := by
  unfold dn2 dn1
  rw [take_succ_mem hi, List.take_length]
  constructor
  · rintro ⟨h1 | h1, h2, h3⟩
    · exact .inl ⟨h1, h2, h3⟩
    · exact .inr ⟨h1, h2, h3⟩
  · rintro (⟨h1, h2, h3⟩ | ⟨h1, h2, h3⟩)
    · exact ⟨.inl h1, h2, h3⟩
    · exact ⟨.inr h1, h2, h3⟩
theorem dn3_step {C : Int → Int → Int → Bool} {i j n : Nat} {x y a b : Int} : dn3 h C i j (n + 1) x y a b ↔ dn3 h C i j n x y a b ∨ (C x y n = true ∧ a = x ∧ b = y) := by
  unfold dn3
  constructor
  · rintro (h1 | ⟨h1, h2, k, hk, h3⟩)
    · exact .inl (.inl h1)
    · by_cases e : k = n
      · subst e; subst h1; subst h2; exact .inr ⟨h3, rfl, rfl⟩
      · exact .inl (.inr ⟨h1, h2, k, by omega, h3⟩)
  · rintro ((h1 | ⟨h1, h2, k, hk, h3⟩) | ⟨h1, rfl, rfl⟩)
    · exact .inl h1
    · exact .inr ⟨h1, h2, k, by omega, h3⟩
    · exact .inr ⟨rfl, rfl, n, by omega, h1⟩
def allK (h : List Ev) (a b i : Int) : Bool := antK h a b i || othK h a b i
theorem dn1_full {C : Int → Int → Int → Bool} {a b : Int} : dn1 h C (com h).length a b ↔ (decide (a ∈ com h) && (decide (b ∈ com h) && (List.range 6).any fun k => C a b (k : Nat))) = true := by
  unfold dn1
  rw [List.take_length]
  simp only [Bool.and_eq_true, decide_eq_true_eq, List.any_eq_true, List.mem_range]

theorem c62 (s : Snap w s0 s1 m2 m3 h) (hl : h.length ≤ big) :
    Calls Try.prog 62 [.agg [.slice s0.a s0.n s0.c, .slice s1.a s1.n s1.c, .map m2, .map m3].toArray].toArray w fun e w' => ∃ p q : Nat, e = .returned (.tuple [.map (some p), .map (some q)].toArray) ∧ SetM w' p (fun a b => antE h a b = true) ∧ SetM w' q (fun a b => allE h a b = true) ∧ Ext w w' := by
  refine (call62 s0 s1 m2 m3 (R := fun v w' => ∃ p q : Nat, v = (.tuple [.map (some p), .map (some q)].toArray) ∧ SetM w' p (fun a b => antE h a b = true) ∧ SetM w' q (fun a b => allE h a b = true) ∧ Ext w w') ?_).mono fun e w' ⟨v, he, p, q, hv, hx⟩ => ⟨p, q, by rw [he, hv], hx⟩
  obtain ⟨hb1, hx1⟩ := newSn w s0 s1 m2 m3
  refine Let.intro fun w1 e1 => Let.intro fun w2 e2 => Let.intro fun w3 e3 => ?_
  have hb1 : Blk w1 w.heap.size (sC s0 s1 m2 m3) 112 := by rw [e1]; exact hb1
  have hx1 : Ext w w1 := by rw [e1]; exact hx1
  have hx2 : Ext w1 w2 := by rw [e2]; exact Ext.alloc ..
  have hx3 : Ext w2 w3 := by rw [e3]; exact Ext.alloc ..
  have hA2 : SetM w2 w1.heap.size fun _ _ => False := by rw [e2]; exact SetM.made w1
  have hB3 : SetM w3 w2.heap.size fun _ _ => False := by rw [e3]; exact SetM.made w2
  have z1 := hx1.size
  have z2 := hx2.size
  have z3 := hx3.size
  have lA := hA2.lt
  have l1 := hb1.lt
  have hx03 := (hx1.trans hx2).trans hx3
  have hn := s.tx.len
  have hcl := com_len h
  have hb6 : (com h).length ≤ big := by show (com h).length ≤ 9223372036854775807; omega
  refine ⟨s1, ((hb1.ext hx2).ext hx3).cell 1, Join.dir (rangeI (fun i w' => SetM w' w1.heap.size (dn1 h (antK h) i) ∧ SetM w' w2.heap.size (dn1 h (allK h) i) ∧ Blk w' w.heap.size (sC s0 s1 m2 m3) 112 ∧ Ext w w') (by rw [hn]; exact hb6) ⟨(hA2.ext hx3).congr fun x y => by simp [dn1], hB3.congr fun x y => by simp [dn1], (hb1.ext hx2).ext hx3, hx03⟩ ?_ ?_)⟩
  · rintro i hi w5 ⟨hA5, hB5, hb5, hx5⟩ K hK
    have hi : i < (com h).length := by omega
    obtain ⟨p, hp, a1, a2, hr⟩ := Ints.at (s.tx.ext hx5) hi
    refine ⟨p, hp, a1, a2, _, hr, s1, hb5.cell 1, Join.dir (rangeI (fun j w' => SetM w' w1.heap.size (dn2 h (antK h) i j (com h)[i]) ∧ SetM w' w2.heap.size (dn2 h (allK h) i j (com h)[i]) ∧ Blk w' w.heap.size (sC s0 s1 m2 m3) 112 ∧ Ext w w') (by rw [hn]; exact hb6) ⟨hA5.congr fun x y => dn2_zero, hB5.congr fun x y => dn2_zero, hb5, hx5⟩ ?_ ?_)⟩
    · rintro j hj w8 ⟨hA8, hB8, hb8, hx8⟩ K2 hK2
      have hj : j < (com h).length := by omega
      obtain ⟨q, hq, b1, b2, hr'⟩ := Ints.at (s.tx.ext hx8) hj
      refine ⟨q, hq, b1, b2, _, hr', ?_⟩
      generalize hx : (com h)[i] = x at hA8 hB8 ⊢
      generalize hy : (com h)[j] = y
      refine Join.dir (rangeI (n := 6) (fun k w' => SetM w' w1.heap.size (dn3 h (antK h) i j k x y) ∧ SetM w' w2.heap.size (dn3 h (allK h) i j k x y) ∧ Blk w' w.heap.size (sC s0 s1 m2 m3) 112 ∧ Ext w w') (by decide) ⟨hA8.congr fun x y => dn3_zero, hB8.congr fun x y => dn3_zero, hb8, hx8⟩ ?_ ?_)
      · rintro k hk w11 ⟨hA11, hB11, hb11, hx11⟩ K3 hK3
        have zcA : (zc Try.prog 79).size = 2 := by kernel_rfl
        obtain ⟨n1, n2, n3⟩ := new_var w11 79 (z := zc Try.prog 79) (vs := [.int .i64 x, .int .i64 y]) (by rw [zcA]; rfl) (by simp [Value.oneCell'])
        refine Let.intro fun w13 e13 => ?_
        rw [← e13] at n1 n2 n3
        refine ⟨n1, Let.intro fun w14 e14 => ?_⟩
        rw [← e14] at n2 n3
        have hx14 := hx11.trans n3
        have s14 := s.ext hx14
        have hb14 := hb11.ext n3
        have hA14 := hA11.ext n3
        have hB14 := hB11.ext n3
        have l11 := hA11.lt
        have l11B := hB11.lt
        have hK3 : ∀ w', SetM w' w1.heap.size (dn3 h (antK h) i j (k + 1) x y) → SetM w' w2.heap.size (dn3 h (allK h) i j (k + 1) x y) → Blk w' w.heap.size (sC s0 s1 m2 m3) 112 → Ext w w' → K3 w' := fun w' h1 h2 h3 h4 => hK3 w' ⟨h1, h2, h3, h4⟩
        refine cond_intro (fun hc => ?_) (fun hc => ?_)
        · refine hK3 _ (hA14.congr fun a b => ?_) (hB14.congr fun a b => ?_) hb14 hx14
          · rw [dn3_step]; exact ⟨fun h => (by rcases h with h | ⟨h, _⟩; exact h; unfold antK at h; rw [hc] at h; simp at h), .inl⟩
          · rw [dn3_step]; exact ⟨fun h => (by rcases h with h | ⟨h, _⟩; exact h; unfold allK antK othK at h; rw [hc] at h; simp at h), .inl⟩
        -- is it an anti-dependency
        refine ⟨fun (c : Bool) w15 => c = antK h x y (k : Nat) ∧ Ext w14 w15, ?_, ?_⟩
        rotate_left
        · refine ⟨s0, s1, m2, m3, hb14.rd, (c87 s14 x k hl).mono fun e w30 ⟨he, hx30⟩ => ⟨_, he, cond_intro (fun g1 => ?_) (fun g1 => ⟨by unfold antK; rw [g1]; simp, hx30⟩)⟩⟩
          refine ⟨s0, s1, m2, m3, (hb14.ext hx30).rd, (c86 (s14.ext hx30) y k hl).mono fun e w31 ⟨he, hx31⟩ => ⟨_, he, cond_intro (fun g2 => ?_) (fun g2 => ⟨by unfold antK; rw [g2]; simp, hx30.trans hx31⟩)⟩⟩
          have s31 := (s14.ext hx30).ext hx31
          have hb31 := (hb14.ext hx30).ext hx31
          refine ⟨m3, hb31.cell 3, _, s31.le y, m2, hb31.cell 2, _, s31.lb x, ?_, hx30.trans hx31⟩
          unfold antK; rw [hc, g1, g2]; rfl
        rintro c w15 ⟨rfl, hx15⟩
        have hb15 := hb14.ext hx15
        have hn15 := n2.ext hx15
        have hx015 := hx14.trans hx15
        -- the first two maps
        refine ⟨fun w16 => SetM w16 w1.heap.size (dn3 h (antK h) i j (k + 1) x y) ∧ SetM w16 w2.heap.size (fun a b => dn3 h (allK h) i j k x y a b ∨ (antK h x y (k : Nat) = true ∧ a = x ∧ b = y)) ∧ Blk w16 w.heap.size (sC s0 s1 m2 m3) 112 ∧ Blk w16 w11.heap.size [.int .i64 x, .int .i64 y] 79 ∧ Ext w w16, ?_, ?_⟩
        rotate_left
        · refine cond_intro (fun g => ?_) (fun g => ?_)
          · refine ⟨fun u => rd u w11.heap.size 0 [.int .i64 x, .int .i64 y], (hn15.ext (Ext.drew _)).rd, Let.intro fun w28 e28 => ?_⟩
            have hx28 : Ext w15 w28 := by rw [e28]; exact Ext.drew _
            have hx1428 := hx15.trans hx28
            obtain ⟨w29, r29, hA29, f29⟩ := (hA14.ext hx1428).put x y
            have hn29 : Blk w29 w11.heap.size [.int .i64 x, .int .i64 y] 79 := (hn15.ext hx28).fr f29 (fun (e : w11.heap.size = w1.heap.size) => by omega)
            obtain ⟨w30, r30, hB30, f30⟩ := ((hB14.ext hx1428).fr f29 (fun (e : w2.heap.size = w1.heap.size) => by omega)).put x y
            have hxx : Ext w w30 := ((hx14.trans hx1428).newer f29 fun z (hz : z = w1.heap.size) => by omega).newer f30 fun z (hz : z = w2.heap.size) => by omega
            refine ⟨x, y, fun u hu => hu, x, y, fun u hu => hu, w29, r29, hn29.rd, w30, r30, (hA29.fr f30 (fun (e : w1.heap.size = w2.heap.size) => by omega)).congr fun a b => ?_, hB30.congr fun a b => ?_, ((hb14.ext hx1428).fr f29 (fun (e : w.heap.size = w1.heap.size) => by omega)).fr f30 (fun (e : w.heap.size = w2.heap.size) => by omega), hn29.fr f30 (fun (e : w11.heap.size = w2.heap.size) => by omega), hxx⟩
            · rw [dn3_step]; exact or_congr Iff.rfl ⟨fun h => h.2, fun h => ⟨g, h⟩⟩
            · exact or_congr Iff.rfl ⟨fun h => h.2, fun h => ⟨g, h⟩⟩
          · refine ⟨(hA14.ext hx15).congr fun a b => ?_, (hB14.ext hx15).congr fun a b => ?_, hb15, hn15, hx015⟩
            · rw [dn3_step]; exact ⟨fun h => (by rcases h with h | ⟨h, _⟩; exact h; rw [g] at h; cases h), .inl⟩
            · exact ⟨fun h => (by rcases h with h | ⟨h, _⟩; exact h; rw [g] at h; cases h), .inl⟩
        rintro w16 ⟨hA16, hB16, hb16, hn16, hx16⟩
        have s16 := s.ext hx16
        refine ⟨fun (c : Bool) w17 => c = othK h x y (k : Nat) ∧ Ext w16 w17, ?_, ?_⟩
        · rintro c w17 ⟨rfl, hx17⟩
          have hK4 : ∀ w', SetM w' w1.heap.size (dn3 h (antK h) i j (k + 1) x y) → SetM w' w2.heap.size (fun a b => (dn3 h (allK h) i j k x y a b ∨ (antK h x y (k : Nat) = true ∧ a = x ∧ b = y)) ∨ (othK h x y (k : Nat) = true ∧ a = x ∧ b = y)) → Blk w' w.heap.size (sC s0 s1 m2 m3) 112 → Ext w w' → K3 w' := fun w' h1 h2 h3 h4 => hK3 w' h1 (h2.congr fun a b => by
            rw [dn3_step]; unfold allK; simp only [Bool.or_eq_true]
            constructor
            · rintro (h | ⟨h | h, h'⟩)
              · exact .inl (.inl h)
              · exact .inl (.inr ⟨h, h'⟩)
              · exact .inr ⟨h, h'⟩
            · rintro ((h | ⟨h, h'⟩) | ⟨h, h'⟩)
              · exact .inl h
              · exact .inr ⟨.inl h, h'⟩
              · exact .inr ⟨.inr h, h'⟩) h3 h4
          refine Join.dir (cond_intro (fun g => ?_) (fun g => ?_))
          · obtain ⟨w19, r19, hB19, f19⟩ := (hB16.ext hx17).put x y
            refine ⟨x, y, (hn16.ext hx17).rd, w19, r19, hK4 _ ((hA16.ext hx17).fr f19 (fun (e : w1.heap.size = w2.heap.size) => by omega)) (hB19.congr fun a b => ?_) ((hb16.ext hx17).fr f19 (fun (e : w.heap.size = w2.heap.size) => by omega)) ((hx16.trans hx17).newer f19 fun z (hz : z = w2.heap.size) => by omega)⟩
            exact or_congr Iff.rfl ⟨fun h => h.2, fun h => ⟨g, h⟩⟩
          · refine hK4 _ (hA16.ext hx17) ((hB16.ext hx17).congr fun a b => ?_) (hb16.ext hx17) (hx16.trans hx17)
            exact ⟨fun h => (by rcases h with h | ⟨h, _⟩; exact h; rw [g] at h; cases h), .inl⟩
        · have hsrc : ∀ w21, Ext w16 w21 → ∀ Jc : Bool → World → Prop, (∀ c w17, c = (rdB y (k : Nat) h && (srcS h y (k : Nat) == x)) → Ext w16 w17 → Jc c w17) → ∃ s82_0 : Sl, ∃ s82_1 : Sl, ∃ m82_2 : Option Nat, ∃ m82_3 : Option Nat, rd w21 w.heap.size 0 [(.slice s82_0.a s82_0.n s82_0.c), (.slice s82_1.a s82_1.n s82_1.c), (.map m82_2), (.map m82_3)] ∧ Calls Try.prog 87 [(.agg [(.slice s82_0.a s82_0.n s82_0.c), (.slice s82_1.a s82_1.n s82_1.c), (.map m82_2), (.map m82_3)].toArray), (.int .i64 y), (.int .i64 ((k : Nat) : Int))].toArray w21 (fun e_3 w22 => ∃ b85 : Bool, e_3 = .returned (.bool b85) ∧
                cond b85 (∃ s87_0 : Sl, ∃ s87_1 : Sl, ∃ m87_2 : Option Nat, ∃ m87_3 : Option Nat, rd w22 w.heap.size 0 [(.slice s87_0.a s87_0.n s87_0.c), (.slice s87_1.a s87_1.n s87_1.c), (.map m87_2), (.map m87_3)] ∧ Calls Try.prog 88 [(.agg [(.slice s87_0.a s87_0.n s87_0.c), (.slice s87_1.a s87_1.n s87_1.c), (.map m87_2), (.map m87_3)].toArray), (.int .i64 y), (.int .i64 ((k : Nat) : Int))].toArray w22 (fun e_4 w23 => ∃ x90 : Int, e_4 = .returned (.int .i64 x90) ∧ Jc (x90 == x) w23)) (Jc false w22)) := fun w21 hx21 Jc hJ => by
            have s21 := s16.ext hx21
            refine ⟨s0, s1, m2, m3, (hb16.ext hx21).rd, (c87 s21 y k hl).mono fun e w22 ⟨he, hx22⟩ => ⟨_, he, cond_intro (fun g => ?_) (fun g => hJ _ _ (by rw [g]; rfl) (hx21.trans hx22))⟩⟩
            refine ⟨s0, s1, m2, m3, ((hb16.ext hx21).ext hx22).rd, (c88 (s21.ext hx22) y k hl).mono fun e w23 ⟨he, hx23⟩ => ⟨_, he, hJ _ _ (by rw [g]; rfl) ((hx21.trans hx22).trans hx23)⟩⟩
          have hx' : (x == y) = false := hc
          refine ⟨s0, s1, m2, m3, hb16.rd, (c86 s16 x k hl).mono fun e w20 ⟨he, hx20⟩ => ⟨_, he, cond_intro (fun g1 => ?_) (fun g1 => hsrc _ hx20 (fun c w17 => c = othK h x y (k : Nat) ∧ Ext w16 w17) fun c w17 hc hx17 => ⟨by rw [hc]; unfold othK; rw [hx', g1]; rfl, hx17⟩)⟩⟩
          have s20 := s16.ext hx20
          refine ⟨s0, s1, m2, m3, (hb16.ext hx20).rd, (c86 s20 y k hl).mono fun e w21 ⟨he, hx21⟩ => ⟨_, he, cond_intro (fun g2 => ?_) (fun g2 => hsrc _ (hx20.trans hx21) (fun c w17 => c = othK h x y (k : Nat) ∧ Ext w16 w17) fun c w17 hc hx17 => ⟨by rw [hc]; unfold othK; rw [hx', g1, g2]; rfl, hx17⟩)⟩⟩
          have s21 := s20.ext hx21
          have hb21 := (hb16.ext hx20).ext hx21
          refine ⟨m3, hb21.cell 3, _, s21.le x, m3, hb21.cell 3, _, s21.le y, cond_intro (fun g3 => ⟨by unfold othK; rw [hx', g1, g2, g3]; rfl, hx20.trans hx21⟩) (fun g3 => hsrc _ (hx20.trans hx21) (fun c w17 => c = othK h x y (k : Nat) ∧ Ext w16 w17) fun c w17 hc hx17 => ⟨by rw [hc]; unfold othK; rw [hx', g1, g2, g3]; rfl, hx17⟩)⟩
      · rintro w11 ⟨hA11, hB11, hb11, hx11⟩
        subst hx
        subst hy
        exact hK2 _ ⟨hA11.congr fun a b => dn3_six hj, hB11.congr fun a b => dn3_six hj, hb11, hx11⟩
    · rintro w8 ⟨hA8, hB8, hb8, hx8⟩
      rw [hn] at hA8 hB8
      exact hK _ ⟨hA8.congr fun a b => dn2_all hi, hB8.congr fun a b => dn2_all hi, hb8, hx8⟩
  · rintro w5 ⟨hA5, hB5, _, hx5⟩
    rw [hn] at hA5 hB5
    exact ⟨w1.heap.size, w2.heap.size, rfl, hA5.congr fun a b => (dn1_full (C := antK h)).symm, hB5.congr fun a b => (dn1_full (C := allK h)).symm, hx5⟩

theorem c30 {s : Sl} (hs : Hs w s h) (hl : h.length ≤ big) :
    Calls Try.prog 30 [.slice s.a s.n s.c].toArray w fun e w' => ∃ (c : Bool) (x : Int), e = .returned (.tuple [.bool c, .int .i64 x].toArray) ∧ ((¬ Valid h ∧ x = 2) ∨ (Valid h ∧ (c = true ↔ allowP h) ∧ x = 0)) ∧ Ext w w' := by
  refine (call30 s (R := fun v w' => ∃ (c : Bool) (x : Int), v = (.tuple [.bool c, .int .i64 x].toArray) ∧ ((¬ Valid h ∧ x = 2) ∨ (Valid h ∧ (c = true ↔ allowP h) ∧ x = 0)) ∧ Ext w w') ?_).mono fun e w' ⟨v, he, c, x, hv, hx⟩ => ⟨c, x, by rw [he, hv], hx⟩
  refine (c26 hs hl).mono fun e w1 ⟨he, hx1⟩ => ⟨_, he, cond_intro (fun hc => ?_) (fun hc => ?_)⟩
  · exact ⟨false, 2, rfl, .inl ⟨by simpa using hc, rfl⟩, hx1⟩
  have hval : Valid h := by simpa using hc
  refine (c60 (hs.ext hx1) hl).mono fun e w2 ⟨s0, s1, m2, m3, he, hsn, hx2⟩ => ⟨s0, s1, m2, m3, he, ?_⟩
  refine (c61 hsn hl).mono fun e w3 ⟨c, he, hc, hx3⟩ => ⟨c, he, c, 0, rfl, .inr ⟨hval, hc, rfl⟩, (hx1.trans hx2).trans hx3⟩
def progS (h : List Ev) : Option (List Int) := srt (allE h) (com h).length (com h)
theorem c31 {s : Sl} (hs : Hs w s h) (hl : h.length ≤ big) :
    Calls Try.prog 31 [.slice s.a s.n s.c].toArray w fun e w' => ∃ (s' : Sl) (x : Int), e = .returned (.tuple [.slice s'.a s'.n s'.c, .int .i64 x].toArray) ∧
      ((¬ Valid h ∧ s'.n = 0 ∧ x = 2) ∨ (Valid h ∧ ¬ allowP h ∧ s'.n = 0 ∧ x = 7) ∨ (Valid h ∧ allowP h ∧ Ints w' s' ((progS h).getD []) ∧ x = if (progS h).isSome then 0 else 5)) ∧ Ext w w' := by
  refine (call31 s (R := fun v w' => ∃ (s' : Sl) (x : Int), v = (.tuple [.slice s'.a s'.n s'.c, .int .i64 x].toArray) ∧
      ((¬ Valid h ∧ s'.n = 0 ∧ x = 2) ∨ (Valid h ∧ ¬ allowP h ∧ s'.n = 0 ∧ x = 7) ∨ (Valid h ∧ allowP h ∧ Ints w' s' ((progS h).getD []) ∧ x = if (progS h).isSome then 0 else 5)) ∧ Ext w w') ?_).mono fun e w' ⟨v, he, c, x, hv, hx⟩ => ⟨c, x, by rw [he, hv], hx⟩
  refine (c26 hs hl).mono fun e w1 ⟨he, hx1⟩ => ⟨_, he, cond_intro (fun hc => ?_) (fun hc => ?_)⟩
  · exact ⟨⟨none, 0, 0⟩, 2, rfl, .inl ⟨by simpa using hc, rfl, rfl⟩, hx1⟩
  have hval : Valid h := by simpa using hc
  refine (c60 (hs.ext hx1) hl).mono fun e w2 ⟨s0, s1, m2, m3, he, hsn, hx2⟩ => ⟨s0, s1, m2, m3, he, ?_⟩
  obtain ⟨n1, n2, n3⟩ := new_var w2 112 (z := zc Try.prog 112) (vs := sC s0 s1 m2 m3) (by rw [zc112]; rfl) (sC_one s0 s1 m2 m3)
  refine Let.intro fun w3 e3 => ?_
  rw [← e3] at n1 n2 n3
  refine ⟨n1, Let.intro fun w4 e4 => ?_⟩
  have e4 : w4 = put w3 w2.heap.size 0 (sC s0 s1 m2 m3) := e4
  rw [← e4] at n2 n3
  have hx04 := (hx1.trans hx2).trans n3
  refine ⟨s0, s1, m2, m3, n2.rd, (c61 (hsn.ext n3) hl).mono fun e w5 ⟨c, he, hc, hx5⟩ => ⟨c, he, cond_intro (fun g => ?_) (fun g => ?_)⟩⟩
  · have hna : ¬ allowP h := fun h => by rw [hc.2 h] at g; cases g
    exact ⟨⟨none, 0, 0⟩, 7, rfl, .inr (.inl ⟨hval, hna, rfl, rfl⟩), hx04.trans hx5⟩
  have ha : allowP h := hc.1 (by simpa using g)
  have s5 := (hsn.ext n3).ext hx5
  refine ⟨s0, s1, m2, m3, (n2.ext hx5).rd, (c62 s5 hl).mono fun e w6 ⟨p, q, he, hA, hB, hx6⟩ => ⟨some p, some q, he, s1, ((n2.ext hx5).ext hx6).cell 1, ?_⟩⟩
  refine (c44 hB.edge (s5.tx.ext hx6) (com_len h)).mono fun e w7 ⟨s26, x, he, hx, hi, hx7⟩ => ⟨s26, x, he, ?_⟩
  have hx07 := ((hx04.trans hx5).trans hx6).trans hx7
  subst hx
  have hi : Ints w7 s26 ((progS h).getD []) := hi
  show cond (!(progS h).isSome) _ _
  cases hp : progS h with
  | none => exact ⟨⟨none, 0, 0⟩, 5, rfl, .inr (.inr ⟨hval, ha, Sli.nil .., rfl⟩), hx07⟩
  | some r => rw [hp] at hi; exact ⟨s26, 0, rfl, .inr (.inr ⟨hval, ha, hi, rfl⟩), hx07⟩
end
end Go.Proofs.Ytnbkihkdfhjlmaa
/-
  Printed by a program of this session (wip/tools/vcprint.py): of each Go function the shallow form, and that the calculus comes to it, by the kernel.
-/
namespace Go.Proofs.Ytnbkihkdfhjlmaa
open Go Go.VC
set_option maxRecDepth 100000

/-- F18: cubeb/history.Cycle -/
def A18 : An := (.sq .lf (.sq (.sq .lf (.cd (.sq .lf .lf) .lf)) (.sq .lf (.sq .lf (.sq .lf (.sq .lf (.sq (.sq .lf (.bk [] (.lp [(8, .int .i64)] (.sq (.sq .lf (.cd .lf .lf)) (.sq (.bk [] (.sq .lf (.bk [] (.lp [(28, .int .i64)] (.sq .lf (.sq (.cd .lf .lf) (.sq (.bk [] (.sq .lf (.sq .lf (.cd (.sq .lf .lf) .lf)))) .lf))))))) .lf))))) (.sq .lf .lf))))))))
def S18 (s0 : Sl) (R : Value → World → Prop) (w : World) : Prop :=
  Calls Try.prog 26 [(.slice s0.a s0.n s0.c)].toArray w (fun e w1 => ∃ b12 : Bool, e = .returned (.bool b12) ∧
  cond (!b12) (
  R (.tuple [(.slice none 0 0), (.int .i64 (2 : Int))].toArray) w1) (
  Calls Try.prog 34 [(.slice s0.a s0.n s0.c)].toArray w1 (fun e_2 w2 => ∃ s15 : Sl, e_2 = .returned (.slice s15.a s15.n s15.c) ∧
  Calls Try.prog 43 [(.slice s15.a s15.n s15.c)].toArray w2 (fun e_3 w3 => ∃ m16 : Option Nat, e_3 = .returned (.map m16) ∧
  Calls Try.prog 36 [(.slice s0.a s0.n s0.c)].toArray w3 (fun e_4 w4 => ∃ s18 : Sl, e_4 = .returned (.slice s18.a s18.n s18.c) ∧
  Let (w4.alloc (.cells (zc Try.prog 75) 75)) fun w5 => 
  Let (w5.alloc (.cells (zc Try.prog 24) 24)) fun w6 => 
  StoreOk w6 w4.heap.size 0 [(.map m16)] 1 ∧ Let (put w6 w4.heap.size 0 [(.map m16)]) fun w7 => 
  StoreOk w7 w5.heap.size 0 [(.slice s18.a s18.n s18.c)] 1 ∧ Let (put w7 w5.heap.size 0 [(.slice s18.a s18.n s18.c)]) fun w8 => 
  Let (w8.alloc (.cells (zc Try.prog 24) 24)) fun w9 => 
  Let (w9.alloc (.cells (zc Try.prog 52) 52)) fun w10 => 
  StoreOk w10 w9.heap.size 0 [(.func (.func 45) #[] [(.pointer (some ⟨w8.heap.size, 0, none⟩)), (.pointer (some ⟨w4.heap.size, 0, none⟩)), (.pointer (some ⟨w5.heap.size, 0, none⟩)), (.pointer (some ⟨w9.heap.size, 0, none⟩))].toArray)] 1 ∧ Let (put w10 w9.heap.size 0 [(.func (.func 45) #[] [(.pointer (some ⟨w8.heap.size, 0, none⟩)), (.pointer (some ⟨w4.heap.size, 0, none⟩)), (.pointer (some ⟨w5.heap.size, 0, none⟩)), (.pointer (some ⟨w9.heap.size, 0, none⟩))].toArray)]) fun w11 => 
  Join [] (fun (w12 : World) => R (.tuple [(.slice none 0 0), (.int .i64 (5 : Int))].toArray) w12) (fun J =>
  LoopV [(8, .int .i64)] (fun K => K (2 : Int) w11) (fun N => fun (x8 : Int) (w13 : World) =>
  ∃ s21 : Sl, World.cell? w13 ⟨w5.heap.size, 0, none⟩ = some (.slice s21.a s21.n s21.c) ∧ cond (decide (x8 ≤ ((s21.n : Nat) : Int))) (
  Join [] (fun (w14 : World) => N (IntKind.wrap .i64 (x8 + (1 : Int))) w14) (fun J_2 =>
  ∃ s26 : Sl, World.cell? w13 ⟨w5.heap.size, 0, none⟩ = some (.slice s26.a s26.n s26.c) ∧ Join [] (fun (w15 : World) => J_2 w15) (fun J_3 =>
  LoopV [(28, .int .i64)] (fun K => K (0 : Int) w13) (fun N_2 => fun (x28 : Int) (w16 : World) =>
  cond (decide (x28 < ((s26.n : Nat) : Int))) (
  Join [] (fun (w17 : World) => N_2 (IntKind.wrap .i64 (x28 + (1 : Int))) w17) (fun J_4 =>
  ∃ p30 : Pt, s26.a = some ⟨p30.b, p30.o, none⟩ ∧ 0 ≤ x28 ∧ x28 < ((s26.n : Nat) : Int) ∧ ∃ x31 : Int, World.cell? w16 ⟨p30.b, (p30.o + Int.toNat x28 * 1), none⟩ = some (.int .i64 x31) ∧ ∃ (f32 : Nat) (c32 : List Value), World.cell? w16 ⟨w9.heap.size, 0, none⟩ = some (.func (.func f32) #[] c32.toArray) ∧ ∃ (s34 : Sl) (w18 : World), Sem.run Try.prog (Instr.buildSlice 24 1 [(0, (.int .i64 x31))].toArray) w16 = .ok (.slice s34.a s34.n s34.c) w18 ∧
  (bif callable Try.prog f32 then Calls Try.prog f32 (([(.slice s34.a s34.n s34.c), (.int .i64 x8)] : List Value) ++ c32).toArray w18 (fun e_5 w19 => ∃ b36 : Bool, e_5 = .returned (.bool b36) ∧
  cond b36 (
  ∃ s37 : Sl, World.cell? w19 ⟨w8.heap.size, 0, none⟩ = some (.slice s37.a s37.n s37.c) ∧ R (.tuple [(.slice s37.a s37.n s37.c), (.int .i64 (0 : Int))].toArray) w19) (
  J_4 w19)) else False))) (
  J_3 w16))))) (
  J w13))))))))
theorem eq18 (s0 : Sl) (R : Value → World → Prop) (w : World) : funV Try.prog Try.f18 A18 [(.slice s0.a s0.n s0.c)] R w = S18 s0 R w := by kernel_rfl
theorem call18 (s0 : Sl) {R : Value → World → Prop} {w : World} (h : S18 s0 R w) : Calls Try.prog 18 [(.slice s0.a s0.n s0.c)].toArray w fun e w' => ∃ v, e = .returned v ∧ R v w' :=
  funV_calls mixed Try.func18 (an := A18) (by rw [eq18]; exact h)

/-- F45: cubeb/history.Cycle$1 -/
def A45 : An := (.sq .lf (.sq .lf (.sq (.sq .lf (.cd (.sq .lf (.sq (.dr [0, 1, 2, 3, 4, 5, 6, 7] [] false none) .lf)) .lf)) (.sq .lf .lf))))
def S45 (s0 : Sl) (x1 : Int) (p2 : Pt) (p3 : Pt) (p4 : Pt) (p5 : Pt) (R : Value → World → Prop) (w : World) : Prop :=
  Let (w.alloc (.cells [(.slice s0.a s0.n s0.c)].toArray 24)) fun w1 => 
  Let (w1.alloc (.cells [(.int .i64 x1)].toArray 3)) fun w2 => 
  ∃ s10 : Sl, World.cell? w2 ⟨w.heap.size, 0, none⟩ = some (.slice s10.a s10.n s10.c) ∧ ∃ s11 : Sl, World.cell? w2 ⟨w.heap.size, 0, none⟩ = some (.slice s11.a s11.n s11.c) ∧ ∃ p14 : Pt, s10.a = some ⟨p14.b, p14.o, none⟩ ∧ 0 ≤ (IntKind.wrap .i64 (((s11.n : Nat) : Int) - (1 : Int))) ∧ (IntKind.wrap .i64 (((s11.n : Nat) : Int) - (1 : Int))) < ((s10.n : Nat) : Int) ∧ ∃ x15 : Int, World.cell? w2 ⟨p14.b, (p14.o + Int.toNat (IntKind.wrap .i64 (((s11.n : Nat) : Int) - (1 : Int))) * 1), none⟩ = some (.int .i64 x15) ∧ Let (w2.alloc (.cells (zc Try.prog 3) 3)) fun w3 => 
  StoreOk w3 w2.heap.size 0 [(.int .i64 x15)] 1 ∧ Let (put w3 w2.heap.size 0 [(.int .i64 x15)]) fun w4 => 
  ∃ s16 : Sl, World.cell? w4 ⟨w.heap.size, 0, none⟩ = some (.slice s16.a s16.n s16.c) ∧ ∃ x18 : Int, World.cell? w4 ⟨w1.heap.size, 0, none⟩ = some (.int .i64 x18) ∧ cond (((s16.n : Nat) : Int) == x18) (
  ∃ s20 : Sl, World.cell? w4 ⟨w.heap.size, 0, none⟩ = some (.slice s20.a s20.n s20.c) ∧ Calls Try.prog 46 [(.slice s20.a s20.n s20.c)].toArray w4 (fun e w5 => ∃ s21 : Sl, e = .returned (.slice s21.a s21.n s21.c) ∧
  StoreOk w5 p2.b p2.o [(.slice s21.a s21.n s21.c)] 1 ∧ Let (put w5 p2.b p2.o [(.slice s21.a s21.n s21.c)]) fun w6 => 
  Let w6.drew fun w7 =>
  ∃ m22 : Option Nat, World.cell? w7 ⟨p3.b, p3.o, none⟩ = some (.map m22) ∧ ∃ x23 : Int, World.cell? w7 ⟨w2.heap.size, 0, none⟩ = some (.int .i64 x23) ∧ ∃ s24 : Sl, World.cell? w7 ⟨w.heap.size, 0, none⟩ = some (.slice s24.a s24.n s24.c) ∧ ∃ p25 : Pt, s24.a = some ⟨p25.b, p25.o, none⟩ ∧ 0 ≤ (0 : Int) ∧ (0 : Int) < ((s24.n : Nat) : Int) ∧ ∃ x26 : Int, World.cell? w7 ⟨p25.b, (p25.o + Int.toNat (0 : Int) * 1), none⟩ = some (.int .i64 x26) ∧ ∃ b28 : Bool, Sem.run Try.prog (Instr.lookup 75 (.map m22) (.agg [(.int .i64 x23), (.int .i64 x26)].toArray) false) w7 = .ok (.bool b28) w7 ∧ R (.bool b28) w7)) (
  ∃ s29 : Sl, World.cell? w4 ⟨p4.b, p4.o, none⟩ = some (.slice s29.a s29.n s29.c) ∧ Calls Try.prog 47 [(.slice s29.a s29.n s29.c), (.func (.func 48) #[] [(.pointer (some ⟨w.heap.size, 0, none⟩)), (.pointer (some ⟨p3.b, p3.o, none⟩)), (.pointer (some ⟨w2.heap.size, 0, none⟩)), (.pointer (some ⟨p5.b, p5.o, none⟩)), (.pointer (some ⟨w1.heap.size, 0, none⟩))].toArray)].toArray w4 (fun e_2 w8 => ∃ b31 : Bool, e_2 = .returned (.bool b31) ∧
  R (.bool b31) w8))
theorem eq45 (s0 : Sl) (x1 : Int) (p2 : Pt) (p3 : Pt) (p4 : Pt) (p5 : Pt) (R : Value → World → Prop) (w : World) : funV Try.prog Try.f45 A45 [(.slice s0.a s0.n s0.c), (.int .i64 x1), (.pointer (some ⟨p2.b, p2.o, none⟩)), (.pointer (some ⟨p3.b, p3.o, none⟩)), (.pointer (some ⟨p4.b, p4.o, none⟩)), (.pointer (some ⟨p5.b, p5.o, none⟩))] R w = S45 s0 x1 p2 p3 p4 p5 R w := by kernel_rfl
theorem call45 (s0 : Sl) (x1 : Int) (p2 : Pt) (p3 : Pt) (p4 : Pt) (p5 : Pt) {R : Value → World → Prop} {w : World} (h : S45 s0 x1 p2 p3 p4 p5 R w) : Calls Try.prog 45 [(.slice s0.a s0.n s0.c), (.int .i64 x1), (.pointer (some ⟨p2.b, p2.o, none⟩)), (.pointer (some ⟨p3.b, p3.o, none⟩)), (.pointer (some ⟨p4.b, p4.o, none⟩)), (.pointer (some ⟨p5.b, p5.o, none⟩))].toArray w fun e w' => ∃ v, e = .returned v ∧ R v w' :=
  funV_calls mixed Try.func45 (an := A45) (by rw [eq45]; exact h)

/-- F48: cubeb/history.Cycle$1$1 -/
def A48 : An := (.sq .lf (.sq (.dr [0, 1, 2, 3, 4, 5, 6, 7, 8, 9, 10, 11, 12, 13, 14, 17, 15, 16, 18, 19, 20] [] true (some [(7, .bool)])) .lf))
def S48 (x0 : Int) (p1 : Pt) (p2 : Pt) (p3 : Pt) (p4 : Pt) (p5 : Pt) (R : Value → World → Prop) (w : World) : Prop :=
  Join [(7, .bool)] (fun (b7 : Bool) (w1 : World) => R (.bool b7) w1) (fun J =>
  ∃ S1 : World → Prop, S1 w.drew ∧ Let w.drew fun w2 =>
  ∃ s8 : Sl, (∀ u, S1 u → World.cell? u ⟨p1.b, p1.o, none⟩ = some (.slice s8.a s8.n s8.c)) ∧ Calls Try.prog 28 [(.slice s8.a s8.n s8.c), (.int .i64 x0)].toArray w2 (fun e w3 => ∃ b10 : Bool, e = .returned (.bool b10) ∧
  S1 w3 ∧ cond (!b10) (∃ m13 : Option Nat, (∀ u, S1 u → World.cell? u ⟨p2.b, p2.o, none⟩ = some (.map m13)) ∧ ∃ x14 : Int, (∀ u, S1 u → World.cell? u ⟨p3.b, p3.o, none⟩ = some (.int .i64 x14)) ∧ ∃ b17 : Bool, (∀ u, S1 u → Sem.run Try.prog (Instr.lookup 75 (.map m13) (.agg [(.int .i64 x14), (.int .i64 x0)].toArray) false) u = .ok (.bool b17) u) ∧ cond b17 (∃ (f20 : Nat) (c20 : List Value), (∀ u, S1 u → World.cell? u ⟨p4.b, p4.o, none⟩ = some (.func (.func f20) #[] c20.toArray)) ∧ ∃ s21 : Sl, (∀ u, S1 u → World.cell? u ⟨p1.b, p1.o, none⟩ = some (.slice s21.a s21.n s21.c)) ∧ ∃ x25 : Int, (∀ u, S1 u → World.cell? u ⟨p5.b, p5.o, none⟩ = some (.int .i64 x25)) ∧ ∃ (s23 : Sl) (w4 : World), Sem.run Try.prog (Instr.buildSlice 24 1 [(0, (.int .i64 x0))].toArray) w3 = .ok (.slice s23.a s23.n s23.c) w4 ∧
  S1 w4 ∧ ∃ (s24 : Sl) (w5 : World), Sem.run Try.prog (Builtin.append_ #[24, 24] 24 #[(.slice s21.a s21.n s21.c), (.slice s23.a s23.n s23.c)]) w4 = .ok (.slice s24.a s24.n s24.c) w5 ∧
  S1 w5 ∧ (bif callable Try.prog f20 then Calls Try.prog f20 (([(.slice s24.a s24.n s24.c), (.int .i64 x25)] : List Value) ++ c20).toArray w5 (fun e_2 w6 => ∃ b26 : Bool, e_2 = .returned (.bool b26) ∧
  S1 w6 ∧ J b26 w6) else False)) (J false w3)) (J false w3)))
theorem eq48 (x0 : Int) (p1 : Pt) (p2 : Pt) (p3 : Pt) (p4 : Pt) (p5 : Pt) (R : Value → World → Prop) (w : World) : funV Try.prog Try.f48 A48 [(.int .i64 x0), (.pointer (some ⟨p1.b, p1.o, none⟩)), (.pointer (some ⟨p2.b, p2.o, none⟩)), (.pointer (some ⟨p3.b, p3.o, none⟩)), (.pointer (some ⟨p4.b, p4.o, none⟩)), (.pointer (some ⟨p5.b, p5.o, none⟩))] R w = S48 x0 p1 p2 p3 p4 p5 R w := by kernel_rfl
theorem call48 (x0 : Int) (p1 : Pt) (p2 : Pt) (p3 : Pt) (p4 : Pt) (p5 : Pt) {R : Value → World → Prop} {w : World} (h : S48 x0 p1 p2 p3 p4 p5 R w) : Calls Try.prog 48 [(.int .i64 x0), (.pointer (some ⟨p1.b, p1.o, none⟩)), (.pointer (some ⟨p2.b, p2.o, none⟩)), (.pointer (some ⟨p3.b, p3.o, none⟩)), (.pointer (some ⟨p4.b, p4.o, none⟩)), (.pointer (some ⟨p5.b, p5.o, none⟩))].toArray w fun e w' => ∃ v, e = .returned v ∧ R v w' :=
  funV_calls mixed Try.func48 (an := A48) (by rw [eq48]; exact h)

/-- F7: cubeb/cubeblaw05.HistoryOne -/
def A7 : An := (.sq .lf (.sq .lf (.sq .lf (.sq .lf (.sq (.sq .lf (.cd (.sq (.rj [] [(2, .bool)]) .lf) .lf)) (.sq (.sq .lf (.cd (.sq (.rj [] [(2, .bool)]) .lf) .lf)) (.sq (.sq (.rj [] [(81, .bool)]) (.cd (.sq .lf .lf) .lf)) (.sq (.sq .lf (.bk [] (.lp [(84, .int .i64)] (.sq .lf (.sq (.cd .lf .lf) (.sq (.bk [] (.sq .lf (.sq .lf (.sq .lf (.sq (.sq .lf (.bk [(12, .slice)] (.lp [(12, .slice), (100, .int .i64)] (.sq .lf (.sq (.cd .lf .lf) (.sq (.bk [(12, .slice)] (.sq .lf (.sq (.rj [] [(113, .bool)]) (.cj [(12, .slice)] .lf .lf)))) .lf)))))) (.sq .lf (.sq (.rj [] [(141, .bool)]) (.cd (.sq .lf .lf) .lf)))))))) .lf)))))) (.sq .lf .lf)))))))))
def S7 (s0 : Sl) (R : Value → World → Prop) (w : World) : Prop :=
  Calls Try.prog 12 [(.slice s0.a s0.n s0.c)].toArray w (fun e w1 => ∃ s19 : Sl, e = .returned (.slice s19.a s19.n s19.c) ∧
  Calls Try.prog 17 [(.slice s19.a s19.n s19.c)].toArray w1 (fun e_2 w2 => ∃ s20_0 : Sl, ∃ x20_1 : Int, e_2 = .returned (.tuple [(.slice s20_0.a s20_0.n s20_0.c), (.int .i64 x20_1)].toArray) ∧
  Calls Try.prog 12 [(.slice s0.a s0.n s0.c)].toArray w2 (fun e_3 w3 => ∃ s25 : Sl, e_3 = .returned (.slice s25.a s25.n s25.c) ∧
  Calls Try.prog 18 [(.slice s25.a s25.n s25.c)].toArray w3 (fun e_4 w4 => ∃ s26_0 : Sl, ∃ x26_1 : Int, e_4 = .returned (.tuple [(.slice s26_0.a s26_0.n s26_0.c), (.int .i64 x26_1)].toArray) ∧
  Calls Try.prog 12 [(.slice s0.a s0.n s0.c)].toArray w4 (fun e_5 w5 => ∃ s31 : Sl, e_5 = .returned (.slice s31.a s31.n s31.c) ∧
  Calls Try.prog 11 [(.slice s31.a s31.n s31.c)].toArray w5 (fun e_6 w6 => ∃ s32_0 : Sl, ∃ x32_1 : Int, e_6 = .returned (.tuple [(.slice s32_0.a s32_0.n s32_0.c), (.int .i64 x32_1)].toArray) ∧
  cond (x20_1 == (2 : Int)) (
  Join [(2, .bool)] (fun (b2 : Bool) (w7 : World) => R (.bool b2) w7) (fun J =>
  cond (x26_1 == (2 : Int)) (cond (x32_1 == (2 : Int)) (Calls Try.prog 14 [].toArray w6 (fun e_7 w8 => ∃ b44 : Bool, e_7 = .returned (.bool b44) ∧
  J b44 w8)) (J false w6)) (J false w6))) (
  cond (x20_1 == (0 : Int)) (
  Join [(2, .bool)] (fun (b2_2 : Bool) (w9 : World) => R (.bool b2_2) w9) (fun J_2 =>
  cond (x26_1 == (5 : Int)) (cond (x32_1 == (0 : Int)) (Calls Try.prog 24 [(.slice s32_0.a s32_0.n s32_0.c), (.slice s20_0.a s20_0.n s20_0.c)].toArray w6 (fun e_8 w10 => ∃ x57 : Int, e_8 = .returned (.int .i64 x57) ∧
  cond (decide (x57 ≤ (0 : Int))) (Calls Try.prog 14 [].toArray w10 (fun e_9 w11 => ∃ b61 : Bool, e_9 = .returned (.bool b61) ∧
  J_2 b61 w11)) (J_2 false w10))) (J_2 false w6)) (J_2 false w6))) (
  Join [(81, .bool)] (fun (b81 : Bool) (w12 : World) => cond b81 (
  R (.bool false) w12) (
  Join [] (fun (w13 : World) => Calls Try.prog 14 [].toArray w13 (fun e_10 w14 => ∃ b143 : Bool, e_10 = .returned (.bool b143) ∧
  R (.bool b143) w14)) (fun J_3 =>
  LoopV [(84, .int .i64)] (fun K => K (0 : Int) w12) (fun N => fun (x84 : Int) (w15 : World) =>
  cond (decide (x84 < ((s26_0.n : Nat) : Int))) (
  Join [] (fun (w16 : World) => N (IntKind.wrap .i64 (x84 + (1 : Int))) w16) (fun J_4 =>
  ∃ p87 : Pt, s26_0.a = some ⟨p87.b, p87.o, none⟩ ∧ 0 ≤ x84 ∧ x84 < ((s26_0.n : Nat) : Int) ∧ ∃ x88 : Int, World.cell? w15 ⟨p87.b, (p87.o + Int.toNat x84 * 1), none⟩ = some (.int .i64 x88) ∧ ((s26_0.n : Nat) : Int) ≠ 0 ∧ ∃ p95 : Pt, s26_0.a = some ⟨p95.b, p95.o, none⟩ ∧ 0 ≤ (Int.tmod (IntKind.wrap .i64 (x84 + (1 : Int))) ((s26_0.n : Nat) : Int)) ∧ (Int.tmod (IntKind.wrap .i64 (x84 + (1 : Int))) ((s26_0.n : Nat) : Int)) < ((s26_0.n : Nat) : Int) ∧ ∃ x96 : Int, World.cell? w15 ⟨p95.b, (p95.o + Int.toNat (Int.tmod (IntKind.wrap .i64 (x84 + (1 : Int))) ((s26_0.n : Nat) : Int)) * 1), none⟩ = some (.int .i64 x96) ∧ Calls Try.prog 12 [(.slice s0.a s0.n s0.c)].toArray w15 (fun e_11 w17 => ∃ s98 : Sl, e_11 = .returned (.slice s98.a s98.n s98.c) ∧
  Join [(12, .slice)] (fun (s12 : Sl) (w18 : World) => Calls Try.prog 17 [(.slice s12.a s12.n s12.c)].toArray w18 (fun e_12 w19 => ∃ s121_0 : Sl, ∃ x121_1 : Int, e_12 = .returned (.tuple [(.slice s121_0.a s121_0.n s121_0.c), (.int .i64 x121_1)].toArray) ∧
  Join [(141, .bool)] (fun (b141 : Bool) (w20 : World) => cond b141 (
  R (.bool false) w20) (
  J_4 w20)) (fun J_5 =>
  cond (x121_1 == (0 : Int)) (∃ (s130 : Sl) (w21 : World), Sem.run Try.prog (Instr.buildSlice 24 2 [(0, (.int .i64 x88)), (1, (.int .i64 x96))].toArray) w19 = .ok (.slice s130.a s130.n s130.c) w21 ∧
  Calls Try.prog 16 [(.slice s121_0.a s121_0.n s121_0.c), (.slice s130.a s130.n s130.c)].toArray w21 (fun e_13 w22 => ∃ b131 : Bool, e_13 = .returned (.bool b131) ∧
  cond (!b131) (J_5 true w22) (cond (x121_1 != (0 : Int)) (J_5 (x121_1 != (8 : Int)) w22) (J_5 false w22)))) (cond (x121_1 != (0 : Int)) (J_5 (x121_1 != (8 : Int)) w19) (J_5 false w19))))) (fun J_6 =>
  LoopV [(12, .slice), (100, .int .i64)] (fun K => K ⟨none, 0, 0⟩ (0 : Int) w17) (fun N_2 => fun (s12_2 : Sl) (x100 : Int) (w23 : World) =>
  cond (decide (x100 < ((s98.n : Nat) : Int))) (
  Join [(12, .slice)] (fun (s12_3 : Sl) (w24 : World) => N_2 ⟨s12_3.a, s12_3.n, s12_3.c⟩ (IntKind.wrap .i64 (x100 + (1 : Int))) w24) (fun J_7 =>
  ∃ p102 : Pt, s98.a = some ⟨p102.b, p102.o, none⟩ ∧ 0 ≤ x100 ∧ x100 < ((s98.n : Nat) : Int) ∧ ∃ x103_0 : Int, ∃ x103_1 : Int, ∃ x103_2 : Int, rd w23 p102.b (p102.o + Int.toNat x100 * 3) [(.int .i64 x103_0), (.int .i64 x103_1), (.int .i64 x103_2)] ∧ Let (w23.alloc (.cells (zc Try.prog 38) 38)) fun w25 => 
  StoreOk w25 w23.heap.size 0 [(.int .i64 x103_0), (.int .i64 x103_1), (.int .i64 x103_2)] 3 ∧ Let (put w25 w23.heap.size 0 [(.int .i64 x103_0), (.int .i64 x103_1), (.int .i64 x103_2)]) fun w26 => 
  Join [(113, .bool)] (fun (b113 : Bool) (w27 : World) => Join [(12, .slice)] (fun (s12_4 : Sl) (w28 : World) => J_7 ⟨s12_4.a, s12_4.n, s12_4.c⟩ w28) (fun J_8 =>
  cond b113 (
  ∃ x115_0 : Int, ∃ x115_1 : Int, ∃ x115_2 : Int, rd w27 w23.heap.size 0 [(.int .i64 x115_0), (.int .i64 x115_1), (.int .i64 x115_2)] ∧ ∃ (s116 : Sl) (w29 : World), Sem.run Try.prog (Instr.buildSlice 29 1 [(0, (.agg [(.int .i64 x115_0), (.int .i64 x115_1), (.int .i64 x115_2)].toArray))].toArray) w27 = .ok (.slice s116.a s116.n s116.c) w29 ∧
  ∃ (s117 : Sl) (w30 : World), Sem.run Try.prog (Builtin.append_ #[29, 29] 29 #[(.slice s12_2.a s12_2.n s12_2.c), (.slice s116.a s116.n s116.c)]) w29 = .ok (.slice s117.a s117.n s117.c) w30 ∧
  J_8 ⟨s117.a, s117.n, s117.c⟩ w30) (
  J_8 ⟨s12_2.a, s12_2.n, s12_2.c⟩ w27))) (fun J_9 =>
  ∃ x105 : Int, World.cell? w26 ⟨w23.heap.size, (0 + 0), none⟩ = some (.int .i64 x105) ∧ cond (x105 == x88) (J_9 true w26) (∃ x110 : Int, World.cell? w26 ⟨w23.heap.size, (0 + 0), none⟩ = some (.int .i64 x110) ∧ J_9 (x110 == x96) w26)))) (
  J_6 ⟨s12_2.a, s12_2.n, s12_2.c⟩ w23)))))) (
  J_3 w15))))) (fun J_10 =>
  cond (x20_1 != (8 : Int)) (J_10 true w6) (cond (x26_1 != (0 : Int)) (J_10 true w6) (cond (decide (((s26_0.n : Nat) : Int) < (2 : Int))) (J_10 true w6) (cond (x32_1 != (0 : Int)) (J_10 (x32_1 != (5 : Int)) w6) (J_10 false w6)))))))))))))
theorem eq7 (s0 : Sl) (R : Value → World → Prop) (w : World) : funV Try.prog Try.f7 A7 [(.slice s0.a s0.n s0.c)] R w = S7 s0 R w := by kernel_rfl
theorem call7 (s0 : Sl) {R : Value → World → Prop} {w : World} (h : S7 s0 R w) : Calls Try.prog 7 [(.slice s0.a s0.n s0.c)].toArray w fun e w' => ∃ v, e = .returned v ∧ R v w' :=
  funV_calls mixed Try.func7 (an := A7) (by rw [eq7]; exact h)

/-- F4: cubeb/cubeblaw05.HistoryExchanged -/
def A4 : An := (.sq .lf (.sq .lf (.sq .lf (.sq .lf (.sq (.sq (.rj [] [(44, .bool)]) (.cd (.sq .lf .lf) .lf)) (.sq .lf (.sq (.df [0, 1, 2, 3, 4, 5, 6, 7, 8] 9 10 [10, 11, 12] [9, 11, 12] [12] [(11, .ptr), (12, .ptr)]) (.sq (.sq (.rj [] [(92, .bool)]) (.cd (.sq .lf .lf) .lf)) (.sq .lf (.sq (.dr [0, 1, 2, 3, 4, 5, 6, 7, 8, 9, 10, 11, 12, 13, 14, 15, 16, 17] [] false none) (.sq .lf (.sq .lf (.sq .lf (.sq (.rj [] [(4, .bool)]) .lf))))))))))))))
def S4 (s0 : Sl) (x1 : Int) (R : Value → World → Prop) (w : World) : Prop :=
  Calls Try.prog 12 [(.slice s0.a s0.n s0.c)].toArray w (fun e w1 => ∃ s22 : Sl, e = .returned (.slice s22.a s22.n s22.c) ∧
  Calls Try.prog 17 [(.slice s22.a s22.n s22.c)].toArray w1 (fun e_2 w2 => ∃ s23_0 : Sl, ∃ x23_1 : Int, e_2 = .returned (.tuple [(.slice s23_0.a s23_0.n s23_0.c), (.int .i64 x23_1)].toArray) ∧
  Calls Try.prog 12 [(.slice s0.a s0.n s0.c)].toArray w2 (fun e_3 w3 => ∃ s28 : Sl, e_3 = .returned (.slice s28.a s28.n s28.c) ∧
  Calls Try.prog 18 [(.slice s28.a s28.n s28.c)].toArray w3 (fun e_4 w4 => ∃ s29_0 : Sl, ∃ x29_1 : Int, e_4 = .returned (.tuple [(.slice s29_0.a s29_0.n s29_0.c), (.int .i64 x29_1)].toArray) ∧
  Calls Try.prog 12 [(.slice s0.a s0.n s0.c)].toArray w4 (fun e_5 w5 => ∃ s34 : Sl, e_5 = .returned (.slice s34.a s34.n s34.c) ∧
  Calls Try.prog 11 [(.slice s34.a s34.n s34.c)].toArray w5 (fun e_6 w6 => ∃ s35_0 : Sl, ∃ x35_1 : Int, e_6 = .returned (.tuple [(.slice s35_0.a s35_0.n s35_0.c), (.int .i64 x35_1)].toArray) ∧
  Join [(44, .bool)] (fun (b44 : Bool) (w7 : World) => cond b44 (
  Calls Try.prog 14 [].toArray w7 (fun e_7 w8 => ∃ b45 : Bool, e_7 = .returned (.bool b45) ∧
  R (.bool b45) w8)) (
  (IntKind.wrap .u64 (IntKind.wrap .i64 (((s0.n : Nat) : Int) - (1 : Int)))) ≠ 0 ∧ Join [(11, .ptr), (12, .ptr)] (fun (p11 : Pt) (p12 : Pt) (w10 : World) => Join [(92, .bool)] (fun (b92 : Bool) (w11 : World) => cond b92 (
  Calls Try.prog 14 [].toArray w11 (fun e_8 w12 => ∃ b93 : Bool, e_8 = .returned (.bool b93) ∧
  R (.bool b93) w12)) (
  Calls Try.prog 12 [(.slice s0.a s0.n s0.c)].toArray w11 (fun e_9 w13 => ∃ s95 : Sl, e_9 = .returned (.slice s95.a s95.n s95.c) ∧
  Let w13.drew fun w14 =>
  ∃ p104 : Pt, s95.a = some ⟨p104.b, p104.o, none⟩ ∧ 0 ≤ (IntKind.wrap .i64 ((IntKind.wrap .i64 (Int.tmod (IntKind.wrap .u64 x1) (IntKind.wrap .u64 (IntKind.wrap .i64 (((s0.n : Nat) : Int) - (1 : Int)))))) + (1 : Int))) ∧ (IntKind.wrap .i64 ((IntKind.wrap .i64 (Int.tmod (IntKind.wrap .u64 x1) (IntKind.wrap .u64 (IntKind.wrap .i64 (((s0.n : Nat) : Int) - (1 : Int)))))) + (1 : Int))) < ((s95.n : Nat) : Int) ∧ ∃ x105_0 : Int, ∃ x105_1 : Int, ∃ x105_2 : Int, rd w14 p104.b (p104.o + Int.toNat (IntKind.wrap .i64 ((IntKind.wrap .i64 (Int.tmod (IntKind.wrap .u64 x1) (IntKind.wrap .u64 (IntKind.wrap .i64 (((s0.n : Nat) : Int) - (1 : Int)))))) + (1 : Int))) * 3) [(.int .i64 x105_0), (.int .i64 x105_1), (.int .i64 x105_2)] ∧ ∃ p108 : Pt, s95.a = some ⟨p108.b, p108.o, none⟩ ∧ 0 ≤ (IntKind.wrap .i64 (Int.tmod (IntKind.wrap .u64 x1) (IntKind.wrap .u64 (IntKind.wrap .i64 (((s0.n : Nat) : Int) - (1 : Int)))))) ∧ (IntKind.wrap .i64 (Int.tmod (IntKind.wrap .u64 x1) (IntKind.wrap .u64 (IntKind.wrap .i64 (((s0.n : Nat) : Int) - (1 : Int)))))) < ((s95.n : Nat) : Int) ∧ ∃ x109_0 : Int, ∃ x109_1 : Int, ∃ x109_2 : Int, rd w14 p108.b (p108.o + Int.toNat (IntKind.wrap .i64 (Int.tmod (IntKind.wrap .u64 x1) (IntKind.wrap .u64 (IntKind.wrap .i64 (((s0.n : Nat) : Int) - (1 : Int)))))) * 3) [(.int .i64 x109_0), (.int .i64 x109_1), (.int .i64 x109_2)] ∧ ∃ p110 : Pt, s95.a = some ⟨p110.b, p110.o, none⟩ ∧ 0 ≤ (IntKind.wrap .i64 (Int.tmod (IntKind.wrap .u64 x1) (IntKind.wrap .u64 (IntKind.wrap .i64 (((s0.n : Nat) : Int) - (1 : Int)))))) ∧ (IntKind.wrap .i64 (Int.tmod (IntKind.wrap .u64 x1) (IntKind.wrap .u64 (IntKind.wrap .i64 (((s0.n : Nat) : Int) - (1 : Int)))))) < ((s95.n : Nat) : Int) ∧ StoreOk w14 p110.b (p110.o + Int.toNat (IntKind.wrap .i64 (Int.tmod (IntKind.wrap .u64 x1) (IntKind.wrap .u64 (IntKind.wrap .i64 (((s0.n : Nat) : Int) - (1 : Int)))))) * 3) [(.int .i64 x105_0), (.int .i64 x105_1), (.int .i64 x105_2)] 3 ∧ Let (put w14 p110.b (p110.o + Int.toNat (IntKind.wrap .i64 (Int.tmod (IntKind.wrap .u64 x1) (IntKind.wrap .u64 (IntKind.wrap .i64 (((s0.n : Nat) : Int) - (1 : Int)))))) * 3) [(.int .i64 x105_0), (.int .i64 x105_1), (.int .i64 x105_2)]) fun w15 => 
  ∃ p111 : Pt, s95.a = some ⟨p111.b, p111.o, none⟩ ∧ 0 ≤ (IntKind.wrap .i64 ((IntKind.wrap .i64 (Int.tmod (IntKind.wrap .u64 x1) (IntKind.wrap .u64 (IntKind.wrap .i64 (((s0.n : Nat) : Int) - (1 : Int)))))) + (1 : Int))) ∧ (IntKind.wrap .i64 ((IntKind.wrap .i64 (Int.tmod (IntKind.wrap .u64 x1) (IntKind.wrap .u64 (IntKind.wrap .i64 (((s0.n : Nat) : Int) - (1 : Int)))))) + (1 : Int))) < ((s95.n : Nat) : Int) ∧ StoreOk w15 p111.b (p111.o + Int.toNat (IntKind.wrap .i64 ((IntKind.wrap .i64 (Int.tmod (IntKind.wrap .u64 x1) (IntKind.wrap .u64 (IntKind.wrap .i64 (((s0.n : Nat) : Int) - (1 : Int)))))) + (1 : Int))) * 3) [(.int .i64 x109_0), (.int .i64 x109_1), (.int .i64 x109_2)] 3 ∧ Let (put w15 p111.b (p111.o + Int.toNat (IntKind.wrap .i64 ((IntKind.wrap .i64 (Int.tmod (IntKind.wrap .u64 x1) (IntKind.wrap .u64 (IntKind.wrap .i64 (((s0.n : Nat) : Int) - (1 : Int)))))) + (1 : Int))) * 3) [(.int .i64 x109_0), (.int .i64 x109_1), (.int .i64 x109_2)]) fun w16 => 
  Calls Try.prog 17 [(.slice s95.a s95.n s95.c)].toArray w16 (fun e_10 w17 => ∃ s114_0 : Sl, ∃ x114_1 : Int, e_10 = .returned (.tuple [(.slice s114_0.a s114_0.n s114_0.c), (.int .i64 x114_1)].toArray) ∧
  Calls Try.prog 18 [(.slice s95.a s95.n s95.c)].toArray w17 (fun e_11 w18 => ∃ s119_0 : Sl, ∃ x119_1 : Int, e_11 = .returned (.tuple [(.slice s119_0.a s119_0.n s119_0.c), (.int .i64 x119_1)].toArray) ∧
  Calls Try.prog 11 [(.slice s95.a s95.n s95.c)].toArray w18 (fun e_12 w19 => ∃ s124_0 : Sl, ∃ x124_1 : Int, e_12 = .returned (.tuple [(.slice s124_0.a s124_0.n s124_0.c), (.int .i64 x124_1)].toArray) ∧
  Join [(4, .bool)] (fun (b4 : Bool) (w20 : World) => R (.bool b4) w20) (fun J =>
  Calls Try.prog 16 [(.slice s23_0.a s23_0.n s23_0.c), (.slice s114_0.a s114_0.n s114_0.c)].toArray w19 (fun e_13 w21 => ∃ b129 : Bool, e_13 = .returned (.bool b129) ∧
  cond b129 (cond (x23_1 == x114_1) (Calls Try.prog 16 [(.slice s29_0.a s29_0.n s29_0.c), (.slice s119_0.a s119_0.n s119_0.c)].toArray w21 (fun e_14 w22 => ∃ b138 : Bool, e_14 = .returned (.bool b138) ∧
  cond b138 (cond (x29_1 == x119_1) (Calls Try.prog 16 [(.slice s35_0.a s35_0.n s35_0.c), (.slice s124_0.a s124_0.n s124_0.c)].toArray w22 (fun e_15 w23 => ∃ b148 : Bool, e_15 = .returned (.bool b148) ∧
  cond b148 (cond (x35_1 == x124_1) (Calls Try.prog 14 [].toArray w23 (fun e_16 w24 => ∃ b156 : Bool, e_16 = .returned (.bool b156) ∧
  J b156 w24)) (J false w23)) (J false w23))) (J false w22)) (J false w22))) (J false w21)) (J false w21))))))))) (fun J_2 =>
  ∃ x64 : Int, World.cell? w10 ⟨p11.b, (p11.o + 0), none⟩ = some (.int .i64 x64) ∧ ∃ x66 : Int, World.cell? w10 ⟨p12.b, (p12.o + 0), none⟩ = some (.int .i64 x66) ∧ cond (x64 == x66) (J_2 true w10) (∃ x70 : Int, World.cell? w10 ⟨p11.b, (p11.o + 1), none⟩ = some (.int .i64 x70) ∧ cond (decide (x70 > (1 : Int))) (J_2 true w10) (∃ x75 : Int, World.cell? w10 ⟨p12.b, (p12.o + 1), none⟩ = some (.int .i64 x75) ∧ cond (decide (x75 > (1 : Int))) (J_2 true w10) (∃ x80 : Int, World.cell? w10 ⟨p11.b, (p11.o + 2), none⟩ = some (.int .i64 x80) ∧ ∃ x82 : Int, World.cell? w10 ⟨p12.b, (p12.o + 2), none⟩ = some (.int .i64 x82) ∧ cond (x80 == x82) (∃ x86 : Int, World.cell? w10 ⟨p11.b, (p11.o + 1), none⟩ = some (.int .i64 x86) ∧ ∃ x88 : Int, World.cell? w10 ⟨p12.b, (p12.o + 1), none⟩ = some (.int .i64 x88) ∧ J_2 (decide ((IntKind.wrap .i64 (x86 + x88)) > (0 : Int))) w10) (J_2 false w10)))))) (fun J_3 =>
  ∃ S1 : World → Prop, S1 w7.drew ∧ Let w7.drew fun w9 =>
  ∃ p56 : Pt, s0.a = some ⟨p56.b, p56.o, none⟩ ∧ 0 ≤ (IntKind.wrap .i64 (Int.tmod (IntKind.wrap .u64 x1) (IntKind.wrap .u64 (IntKind.wrap .i64 (((s0.n : Nat) : Int) - (1 : Int)))))) ∧ (IntKind.wrap .i64 (Int.tmod (IntKind.wrap .u64 x1) (IntKind.wrap .u64 (IntKind.wrap .i64 (((s0.n : Nat) : Int) - (1 : Int)))))) < ((s0.n : Nat) : Int) ∧ ∃ x57_0 : Int, ∃ x57_1 : Int, ∃ x57_2 : Int, (∀ u, S1 u → rd u p56.b (p56.o + Int.toNat (IntKind.wrap .i64 (Int.tmod (IntKind.wrap .u64 x1) (IntKind.wrap .u64 (IntKind.wrap .i64 (((s0.n : Nat) : Int) - (1 : Int)))))) * 3) [(.int .i64 x57_0), (.int .i64 x57_1), (.int .i64 x57_2)]) ∧ ∃ p61 : Pt, s0.a = some ⟨p61.b, p61.o, none⟩ ∧ 0 ≤ (IntKind.wrap .i64 ((IntKind.wrap .i64 (Int.tmod (IntKind.wrap .u64 x1) (IntKind.wrap .u64 (IntKind.wrap .i64 (((s0.n : Nat) : Int) - (1 : Int)))))) + (1 : Int))) ∧ (IntKind.wrap .i64 ((IntKind.wrap .i64 (Int.tmod (IntKind.wrap .u64 x1) (IntKind.wrap .u64 (IntKind.wrap .i64 (((s0.n : Nat) : Int) - (1 : Int)))))) + (1 : Int))) < ((s0.n : Nat) : Int) ∧ ∃ x62_0 : Int, ∃ x62_1 : Int, ∃ x62_2 : Int, (∀ u, S1 u → rd u p61.b (p61.o + Int.toNat (IntKind.wrap .i64 ((IntKind.wrap .i64 (Int.tmod (IntKind.wrap .u64 x1) (IntKind.wrap .u64 (IntKind.wrap .i64 (((s0.n : Nat) : Int) - (1 : Int)))))) + (1 : Int))) * 3) [(.int .i64 x62_0), (.int .i64 x62_1), (.int .i64 x62_2)]) ∧ (Let (w9.alloc (.cells (zc Try.prog 37) 37)) fun w25 => 
  S1 w25 ∧ Let (w25.alloc (.cells (zc Try.prog 37) 37)) fun w26 => 
  S1 w26 ∧ StoreOk w26 w9.heap.size 0 [(.int .i64 x57_0), (.int .i64 x57_1), (.int .i64 x57_2)] 3 ∧ Let (put w26 w9.heap.size 0 [(.int .i64 x57_0), (.int .i64 x57_1), (.int .i64 x57_2)]) fun w27 => 
  S1 w27 ∧ StoreOk w27 w25.heap.size 0 [(.int .i64 x62_0), (.int .i64 x62_1), (.int .i64 x62_2)] 3 ∧ Let (put w27 w25.heap.size 0 [(.int .i64 x62_0), (.int .i64 x62_1), (.int .i64 x62_2)]) fun w28 => 
  J_3 ⟨w9.heap.size, 0⟩ ⟨w25.heap.size, 0⟩ w28) ∧
  (Let (w9.alloc (.cells (zc Try.prog 37) 37)) fun w29 => 
  S1 w29 ∧ Let (w29.alloc (.cells (zc Try.prog 37) 37)) fun w30 => 
  S1 w30 ∧ StoreOk w30 w29.heap.size 0 [(.int .i64 x57_0), (.int .i64 x57_1), (.int .i64 x57_2)] 3 ∧ Let (put w30 w29.heap.size 0 [(.int .i64 x57_0), (.int .i64 x57_1), (.int .i64 x57_2)]) fun w31 => 
  S1 w31 ∧ StoreOk w31 w9.heap.size 0 [(.int .i64 x62_0), (.int .i64 x62_1), (.int .i64 x62_2)] 3 ∧ Let (put w31 w9.heap.size 0 [(.int .i64 x62_0), (.int .i64 x62_1), (.int .i64 x62_2)]) fun w32 => 
  J_3 ⟨w29.heap.size, 0⟩ ⟨w9.heap.size, 0⟩ w32)))) (fun J_4 =>
  cond (x23_1 == (2 : Int)) (J_4 true w6) (J_4 (decide (((s0.n : Nat) : Int) < (2 : Int))) w6))))))))
theorem eq4 (s0 : Sl) (x1 : Int) (R : Value → World → Prop) (w : World) : funV Try.prog Try.f4 A4 [(.slice s0.a s0.n s0.c), (.int .i64 x1)] R w = S4 s0 x1 R w := by kernel_rfl
theorem call4 (s0 : Sl) (x1 : Int) {R : Value → World → Prop} {w : World} (h : S4 s0 x1 R w) : Calls Try.prog 4 [(.slice s0.a s0.n s0.c), (.int .i64 x1)].toArray w fun e w' => ∃ v, e = .returned v ∧ R v w' :=
  funV_calls mixed Try.func4 (an := A4) (by rw [eq4]; exact h)

end Go.Proofs.Ytnbkihkdfhjlmaa
/-
  Contracts: Cycle.
-/
namespace Go.Proofs.Ytnbkihkdfhjlmaa
open Go Go.VC
set_option maxHeartbeats 400000

/-- slices.IndexFunc, of a function that keeps I until it finds something, and then makes T. -/
theorem c72T {w : World} {s : Sl} {l : List Int} (hl : l.length ≤ big) (f : Nat) (cap : List Value) (hc : callable Try.prog f = true) (Q : Int → Bool) {I : World → Prop} {T : Int → World → Prop} (hI : I w) (hs : ∀ w', I w' → Ints w' s l)
    (hf : ∀ x ∈ l, ∀ w', I w' → Calls Try.prog f (Value.int .i64 x :: cap).toArray w' fun e w2 => e = .returned (.bool (Q x)) ∧ (Q x = false → I w2) ∧ (Q x = true → T x w2)) :
    Calls Try.prog 72 [.slice s.a s.n s.c, .func (.func f) #[] cap.toArray].toArray w fun e w' => e = .returned (.int .i64 (ixf Q l)) ∧
      ((∃ (i : Nat) (x : Int), l[i]? = some x ∧ Q x = true ∧ (∀ y ∈ l.take i, Q y = false) ∧ T x w') ∨ ((∀ y ∈ l, Q y = false) ∧ I w')) := by
  refine (call72 s f cap (R := fun v w' => v = .int .i64 (ixf Q l) ∧
      ((∃ (i : Nat) (x : Int), l[i]? = some x ∧ Q x = true ∧ (∀ y ∈ l.take i, Q y = false) ∧ T x w') ∨ ((∀ y ∈ l, Q y = false) ∧ I w'))) ?_).mono fun e w' ⟨v, he, hv, hx⟩ => ⟨by rw [he, hv], hx⟩
  have hn := (hs w hI).len
  refine Join.dir (rangeI (fun i w2 => (∀ y ∈ l.take i, Q y = false) ∧ I w2) (by rw [hn]; exact hl) ⟨by simp, hI⟩ ?_ ?_)
  · rintro i hi w2 ⟨hno, hI2⟩ K hK
    have hi : i < l.length := by omega
    obtain ⟨p, hp, h1, h2, hr⟩ := Ints.at (hs w2 hI2) hi
    refine ⟨p, hp, h1, h2, _, hr, ?_⟩
    rw [hc, List.singleton_append]
    refine (hf l[i] (List.getElem_mem hi) w2 hI2).mono fun e w4 ⟨he, hf0, hf1⟩ => ⟨_, he, cond_intro (fun hq => ?_) (fun hq => ?_)⟩
    · exact ⟨by rw [ixf_at (List.getElem?_eq_getElem hi) hq hno], .inl ⟨i, l[i], List.getElem?_eq_getElem hi, hq, hno, hf1 hq⟩⟩
    · refine hK _ ⟨fun y hy => ?_, hf0 hq⟩
      rw [List.take_succ_eq_append_getElem hi] at hy
      rcases List.mem_append.1 hy with hy | hy
      · exact hno y hy
      · rw [List.mem_singleton.1 hy]; exact hq
  · rintro w2 ⟨hno, hI2⟩
    rw [hn, List.take_length] at hno
    exact ⟨by rw [ixf_not hno], .inr ⟨hno, hI2⟩⟩
theorem c47T {w : World} {s : Sl} {l : List Int} (hl : l.length ≤ big) (f : Nat) (cap : List Value) (hc : callable Try.prog f = true) (Q : Int → Bool) {I : World → Prop} {T : Int → World → Prop} (hI : I w) (hs : ∀ w', I w' → Ints w' s l)
    (hf : ∀ x ∈ l, ∀ w', I w' → Calls Try.prog f (Value.int .i64 x :: cap).toArray w' fun e w2 => e = .returned (.bool (Q x)) ∧ (Q x = false → I w2) ∧ (Q x = true → T x w2)) :
    Calls Try.prog 47 [.slice s.a s.n s.c, .func (.func f) #[] cap.toArray].toArray w fun e w' => e = .returned (.bool (l.any Q)) ∧
      ((∃ (i : Nat) (x : Int), l[i]? = some x ∧ Q x = true ∧ (∀ y ∈ l.take i, Q y = false) ∧ T x w') ∨ ((∀ y ∈ l, Q y = false) ∧ I w')) := by
  refine (call47 s f cap (R := fun v w' => v = .bool (l.any Q) ∧
      ((∃ (i : Nat) (x : Int), l[i]? = some x ∧ Q x = true ∧ (∀ y ∈ l.take i, Q y = false) ∧ T x w') ∨ ((∀ y ∈ l, Q y = false) ∧ I w'))) ?_).mono fun e w' ⟨v, he, hv, hx⟩ => ⟨by rw [he, hv], hx⟩
  exact (c72T hl f cap hc Q hI hs hf).mono fun e w1 ⟨he, hx⟩ => ⟨_, he, by rw [ixf_nonneg], hx⟩
theorem callable45 : callable Try.prog 45 = true := by kernel_rfl
theorem callable48 : callable Try.prog 48 = true := by kernel_rfl

/-- An int appended; the old slice still reads. -/
theorem appendIntO {B : Nat} {w : World} {s : Sl} {l : List Int} (ho : Own 3 1 eI B w s l) (x : Int) (hl : l.length ≤ 1000000) (hB : B ≤ w.heap.size) :
    ∃ (s1 : Sl) (w1 : World), (Instr.buildSlice 24 1 [(0, .int .i64 x)].toArray).run Try.prog w = .ok (.slice s1.a s1.n s1.c) w1 ∧ Ext w w1 ∧
      ∃ (s' : Sl) (w' : World), (Builtin.append_ #[24, 24] 24 #[.slice s.a s.n s.c, .slice s1.a s1.n s1.c]).run Try.prog w1 = .ok (.slice s'.a s'.n s'.c) w' ∧ Own 3 1 eI B w' s' (l ++ [x]) ∧ Own 3 1 eI B w' s l ∧ Fr (Bl s) w1 w' ∧ ((s'.a = s.a ∧ s'.c = s.c) ∨ ∀ a, s'.a = some a → w.heap.size ≤ a.block) := by
  have hb := buildOne_run E24 (v := .int .i64 x) (vs := eI x) rfl rfl (by omega) w
  have hx := Ext.alloc w (.cells (eI x).toArray 3)
  have h2 : Sli 1 eI (w.alloc (.cells (eI x).toArray 3)) ⟨some ⟨w.heap.size, 0, none⟩, 1, 1⟩ [x] := ⟨rfl, Nat.le_refl _, fun _ => ⟨⟨w.heap.size, 0⟩, rfl, by simpa using (Blk.alloc w (eI x) 3).rd⟩⟩
  obtain ⟨s', w', hr, ho', hf⟩ := appendSli E24 (ho.ext hx) h2 eI_len eI_one (by simp; omega) (by simp [maxLen]; omega) (by have := hx.size; omega) 24
  refine ⟨⟨some ⟨w.heap.size, 0, none⟩, 1, 1⟩, _, hb, hx, s', w', hr, ho', append_old E24 (ho.ext hx) h2 eI_len eI_one (by simp; omega) (by simp [maxLen]; omega) 24 hr, hf, ?_⟩
  rcases append_where2 E24 (ho.ext hx) h2 eI_len eI_one (by simp; omega) (by simp [maxLen]; omega) 24 hr with h | h
  · exact .inl h
  · exact .inr fun a ha => Nat.le_trans hx.size (h a ha)

/-- The first cycle that begins so, n transactions being to come. -/
def grow (E : Int → Int → Bool) (l : List Int) : Nat → List Int → Option (List Int)
  | 0, c => if E (c.getLast?.getD 0) (c.head?.getD 0) then some c else none
  | n + 1, c => l.findSome? fun t => if !decide (t ∈ c) && E (c.getLast?.getD 0) t then grow E l n (c ++ [t]) else none

def capsC (pf pe pl pt : Nat) : List Value := [.pointer (some ⟨pf, 0, none⟩), .pointer (some ⟨pe, 0, none⟩), .pointer (some ⟨pl, 0, none⟩), .pointer (some ⟨pt, 0, none⟩)]
/-- The variables of Cycle, while its closure runs. -/
structure Cy (E : Int → Int → Bool) (l : List Int) (w0 : World) (b pf pe pl pt : Nat) (sl : Sl) (w : World) : Prop where
  base : Ext w0 w
  found : ∃ sf : Sl, Blk w pf [.slice sf.a sf.n sf.c] 24
  self : Blk w pt [.func (.func 45) #[] (capsC pf pe pl pt).toArray] 52
structure CyF (E : Int → Int → Bool) (l : List Int) (w0 : World) (b pf pe pl pt : Nat) (sl : Sl) : Prop where
  edge : EdgeM w0 b E
  e : Blk w0 pe [.map (some b)] 75
  lv : Blk w0 pl [.slice sl.a sl.n sl.c] 24
  li : Ints w0 sl l
  nf : w0.heap.size ≤ pf
  nt : pf ≠ pt
  len : l.length ≤ 6
theorem Cy.ext {E : Int → Int → Bool} {l : List Int} {w0 : World} {b pf pe pl pt : Nat} {sl : Sl} {w w' : World} (h : Cy E l w0 b pf pe pl pt sl w) (f : Ext w w') : Cy E l w0 b pf pe pl pt sl w' := by
  obtain ⟨sf, h1⟩ := h.found
  exact ⟨h.base.trans f, ⟨sf, h1.ext f⟩, h.self.ext f⟩

/-- The argument of the closure: a slice of its own, apart from the variables. -/
structure Arg (pf pt : Nat) (B : Nat) (w : World) (s : Sl) (c : List Int) : Prop where
  own : Own 3 1 eI B w s c
  sep : ∀ a, s.a = some a → a.block ≠ pf ∧ a.block ≠ pt
theorem Arg.ext {pf pt B : Nat} {w w' : World} {s : Sl} {c : List Int} (h : Arg pf pt B w s c) (f : Ext w w') : Arg pf pt B w' s c := ⟨h.own.ext f, h.sep⟩

/-- Inside the closure's loop. -/
structure Lp (E : Int → Int → Bool) (l : List Int) (w0 : World) (b pf pe pl pt : Nat) (sl : Sl) (w : World) (s : Sl) (c : List Int) (pc pn px : Nat) (long last : Int) (w' : World) : Prop where
  cy : Cy E l w0 b pf pe pl pt sl w'
  arg : Arg pf pt w0.heap.size w' s c
  fr : Fr (fun i => i = pf ∨ Bl s i) w w'
  c : Blk w' pc [.slice s.a s.n s.c] 24
  n : Blk w' pn [.int .i64 long] 3
  x : Blk w' px [.int .i64 last] 3
theorem Lp.ext {E : Int → Int → Bool} {l : List Int} {w0 : World} {b pf pe pl pt : Nat} {sl : Sl} {w : World} {s : Sl} {c : List Int} {pc pn px : Nat} {long last : Int} {w' w2 : World} (h : Lp E l w0 b pf pe pl pt sl w s c pc pn px long last w') (f : Ext w' w2) :
    Lp E l w0 b pf pe pl pt sl w s c pc pn px long last w2 := ⟨h.cy.ext f, h.arg.ext f, h.fr.ext f, h.c.ext f, h.n.ext f, h.x.ext f⟩

def Post45 (E : Int → Int → Bool) (l : List Int) (w0 : World) (b pf pe pl pt : Nat) (sl : Sl) (n : Nat) (c : List Int) (s : Sl) (w : World) (w' : World) : Prop :=
  Cy E l w0 b pf pe pl pt sl w' ∧ Arg pf pt w0.heap.size w' s c ∧ Fr (fun i => i = pf ∨ Bl s i) w w' ∧ (∀ r, grow E l n c = some r → ∃ sf : Sl, Blk w' pf [.slice sf.a sf.n sf.c] 24 ∧ Ints w' sf r)

theorem c45 {E : Int → Int → Bool} {l : List Int} {w0 : World} {b pf pe pl pt : Nat} {sl : Sl} (F : CyF E l w0 b pf pe pl pt sl) :
    ∀ (n : Nat) (c : List Int) (s : Sl) (w : World), c ≠ [] → c.length + n ≤ 6 → Cy E l w0 b pf pe pl pt sl w → Arg pf pt w0.heap.size w s c →
      Calls Try.prog 45 (Value.slice s.a s.n s.c :: .int .i64 ((c.length + n : Nat) : Int) :: capsC pf pe pl pt).toArray w fun ee w' =>
        ee = .returned (.bool (grow E l n c).isSome) ∧ Post45 E l w0 b pf pe pl pt sl n c s w w' := by
  intro n
  induction n with
  | zero =>
    intro c s w hne hlen hC hA
    refine (call45 s ((c.length + 0 : Nat) : Int) ⟨pf, 0⟩ ⟨pe, 0⟩ ⟨pl, 0⟩ ⟨pt, 0⟩ (R := fun v w' => v = .bool (grow E l 0 c).isSome ∧ Post45 E l w0 b pf pe pl pt sl 0 c s w w') ?_).mono fun ee w' ⟨v, he, hv, hx⟩ => ⟨by rw [he, hv], hx⟩
    have hpos : 0 < c.length := List.length_pos_iff.2 hne
    have hn := hA.own.1
    refine Let.intro fun w1 e1 => Let.intro fun w2 e2 => ?_
    have hx1 : Ext w w1 := by rw [e1]; exact Ext.alloc ..
    have hx2 : Ext w1 w2 := by rw [e2]; exact Ext.alloc ..
    have hc1 : Blk w1 w.heap.size [.slice s.a s.n s.c] 24 := by rw [e1]; exact Blk.alloc ..
    have hn2 : Blk w2 w1.heap.size [.int .i64 ((c.length + 0 : Nat) : Int)] 3 := by rw [e2]; exact Blk.alloc ..
    have hx02 := hx1.trans hx2
    have hwr : IntKind.wrap .i64 (((s.n : Nat) : Int) - 1) = ((c.length - 1 : Nat) : Int) := by rw [wrap64 (by omega) (by omega)]; omega
    obtain ⟨p, hp, h1, h2, hr⟩ := Ints.at (hA.own.sli.ext hx02) (i := c.length - 1) (by omega)
    refine ⟨s, (hc1.ext hx2).cell 0, s, (hc1.ext hx2).cell 0, p, hp, ?_⟩
    rw [hwr]
    refine ⟨h1, h2, _, hr, Let.intro fun w3 e3 => ?_⟩
    obtain ⟨hst, hb4, hx4⟩ := new_var w2 3 (z := zc Try.prog 3) (vs := [.int .i64 (c[c.length - 1]'(by omega))]) (by kernel_rfl) (by simp [Value.oneCell'])
    rw [← e3] at hst hb4 hx4
    refine ⟨hst, Let.intro fun w4 e4 => ?_⟩
    rw [← e4] at hb4 hx4
    have hx04 := hx02.trans hx4
    refine ⟨s, (hc1.ext (hx2.trans hx4)).cell 0, _, (hn2.ext hx4).cell 0, cond_intro (fun _ => ?_) (fun hc => ?_)⟩
    · obtain ⟨sf, hsf⟩ := hC.found
      have npf := hsf.lt
      have z1 := hx1.size
      have z2 := hx2.size
      have z4 := hx4.size
      refine ⟨s, (hc1.ext (hx2.trans hx4)).cell 0, (c46 (hA.own.sli.ext hx04) (by omega)).mono fun ee w5 ⟨s21, he, ho21, hx5⟩ => ⟨s21, he, ?_⟩⟩
      have hx05 := hx04.trans hx5
      have hsf5 := hsf.ext hx05
      refine ⟨hsf5.storeOk rfl (by simp [Value.oneCell']) (by simp), Let.intro fun w6 e6 => ?_⟩
      have hf6 : Fr (fun i => i = pf) w5 w6 := by rw [e6]; exact Fr.put ..
      have hb6 : Blk w6 pf [.slice s21.a s21.n s21.c] 24 := by rw [e6]; exact hsf5.put (o := 0) (vs := [.slice s21.a s21.n s21.c])
      refine Let.intro fun w7 e7 => ?_
      have hx7 : Ext w6 w7 := by rw [e7]; exact Ext.drew _
      have hbase7 : Ext w0 w7 := ((hC.base.trans hx05).newer hf6 fun i hi => by have := F.nf; omega).trans hx7
      have hlast : Blk w7 w2.heap.size [.int .i64 (c[c.length - 1]'(by omega))] 3 := ((hb4.ext hx5).fr hf6 (by omega)).ext hx7
      have hcc : Blk w7 w.heap.size [.slice s.a s.n s.c] 24 := ((hc1.ext ((hx2.trans hx4).trans hx5)).fr hf6 (by omega)).ext hx7
      have hown7 : Own 3 1 eI w0.heap.size w7 s c := ((hA.own.ext hx05).fr hf6 fun a ha h => (hA.sep a ha).1 h).ext hx7
      obtain ⟨q, hq, h1', h2', hr'⟩ := Ints.at hown7.sli (i := 0) hpos
      refine ⟨_, (F.e.ext hbase7).cell 0, _, hlast.cell 0, s, hcc.cell 0, q, hq, h1', h2', _, hr', _, (F.edge.ext hbase7).look _ _, ?_, ?_⟩
      · have hg : grow E l 0 c = if E (c[c.length - 1]'(by omega)) (c[0]'hpos) then some c else none := by
          rw [grow, List.getLast?_eq_getElem?, List.head?_eq_getElem?, List.getElem?_eq_getElem (by omega), List.getElem?_eq_getElem hpos]; rfl
        rw [hg]
        cases E (c[c.length - 1]'(by omega)) (c[0]'hpos) <;> rfl
      · have ho21' : Own 3 1 eI w4.heap.size w7 s21 c := (ho21.fr hf6 fun a ha h => by have := (ho21.base ha).1; omega).ext hx7
        refine ⟨⟨hbase7, ⟨s21, hb6.ext hx7⟩, ((hC.self.ext hx05).fr hf6 (Ne.symm F.nt)).ext hx7⟩, ⟨hown7, hA.sep⟩, ?_, fun r hr => ⟨s21, hb6.ext hx7, ?_⟩⟩
        · exact ((Ext.fr hx05 hf6).ext hx7).mono fun i _ h => .inl h
        · rw [grow] at hr
          split at hr
          · cases hr; exact ho21'.sli
          · cases hr
    · simp [hn] at hc
  | succ n ih =>
    intro c s w hne hlen hC hA
    refine (call45 s ((c.length + (n + 1) : Nat) : Int) ⟨pf, 0⟩ ⟨pe, 0⟩ ⟨pl, 0⟩ ⟨pt, 0⟩ (R := fun v w' => v = .bool (grow E l (n + 1) c).isSome ∧ Post45 E l w0 b pf pe pl pt sl (n + 1) c s w w') ?_).mono fun ee w' ⟨v, he, hv, hx⟩ => ⟨by rw [he, hv], hx⟩
    have hpos : 0 < c.length := List.length_pos_iff.2 hne
    have hn := hA.own.1
    refine Let.intro fun w1 e1 => Let.intro fun w2 e2 => ?_
    have hx1 : Ext w w1 := by rw [e1]; exact Ext.alloc ..
    have hx2 : Ext w1 w2 := by rw [e2]; exact Ext.alloc ..
    have hc1 : Blk w1 w.heap.size [.slice s.a s.n s.c] 24 := by rw [e1]; exact Blk.alloc ..
    have hn2 : Blk w2 w1.heap.size [.int .i64 ((c.length + (n + 1) : Nat) : Int)] 3 := by rw [e2]; exact Blk.alloc ..
    have hx02 := hx1.trans hx2
    have hwr : IntKind.wrap .i64 (((s.n : Nat) : Int) - 1) = ((c.length - 1 : Nat) : Int) := by rw [wrap64 (by omega) (by omega)]; omega
    obtain ⟨p, hp, h1, h2, hr⟩ := Ints.at (hA.own.sli.ext hx02) (i := c.length - 1) (by omega)
    refine ⟨s, (hc1.ext hx2).cell 0, s, (hc1.ext hx2).cell 0, p, hp, ?_⟩
    rw [hwr]
    refine ⟨h1, h2, _, hr, Let.intro fun w3 e3 => ?_⟩
    obtain ⟨hst, hb4, hx4⟩ := new_var w2 3 (z := zc Try.prog 3) (vs := [.int .i64 (c[c.length - 1]'(by omega))]) (by kernel_rfl) (by simp [Value.oneCell'])
    rw [← e3] at hst hb4 hx4
    refine ⟨hst, Let.intro fun w4 e4 => ?_⟩
    rw [← e4] at hb4 hx4
    have hx04 := hx02.trans hx4
    have n1 := hc1.lt
    have n2 := hn2.lt
    have n4 := hb4.lt
    obtain ⟨sf0, hsf0⟩ := hC.found
    have npf := hsf0.lt
    have npt := hC.self.lt
    generalize hlast : c[c.length - 1]'(by omega) = last at hb4 hr
    have hlastD : c.getLast?.getD 0 = last := by rw [List.getLast?_eq_getElem?, List.getElem?_eq_getElem (by omega), ← hlast]; rfl
    generalize hlong : ((c.length + (n + 1) : Nat) : Int) = long at hn2
    refine ⟨s, (hc1.ext (hx2.trans hx4)).cell 0, _, (hn2.ext hx4).cell 0, cond_intro (fun hc => ?_) (fun _ => ?_)⟩
    · rw [← hlong] at hc; simp [hn] at hc; omega
    have hI4 : Lp E l w0 b pf pe pl pt sl w s c w.heap.size w1.heap.size w2.heap.size long last w4 :=
      ⟨hC.ext hx04, hA.ext hx04, (Fr.mono hx04 fun _ _ h => h.elim), hc1.ext (hx2.trans hx4), hn2.ext hx4, hb4⟩
    refine ⟨sl, (F.lv.ext (hC.base.trans hx04)).cell 0, ?_⟩
    refine (c47T (l := l) (s := sl) (Nat.le_trans F.len (by decide)) 48 [.pointer (some ⟨w.heap.size, 0, none⟩), .pointer (some ⟨pe, 0, none⟩), .pointer (some ⟨w2.heap.size, 0, none⟩), .pointer (some ⟨pt, 0, none⟩), .pointer (some ⟨w1.heap.size, 0, none⟩)] callable48
      (fun t => (if !decide (t ∈ c) && E last t then grow E l n (c ++ [t]) else none).isSome)
      (I := Lp E l w0 b pf pe pl pt sl w s c w.heap.size w1.heap.size w2.heap.size long last)
      (T := fun t w' => Cy E l w0 b pf pe pl pt sl w' ∧ Arg pf pt w0.heap.size w' s c ∧ Fr (fun i => i = pf ∨ Bl s i) w w' ∧ ∀ r, grow E l n (c ++ [t]) = some r → ∃ sf : Sl, Blk w' pf [.slice sf.a sf.n sf.c] 24 ∧ Ints w' sf r)
      hI4 (fun w' h => F.li.ext h.cy.base) ?_).mono fun ee w8 ⟨he, hres⟩ => ⟨_, he, ?_⟩
    · -- one round
      intro t ht w' hI
      refine (call48 t ⟨w.heap.size, 0⟩ ⟨pe, 0⟩ ⟨w2.heap.size, 0⟩ ⟨pt, 0⟩ ⟨w1.heap.size, 0⟩ (R := fun v w2' => v = .bool ((if !decide (t ∈ c) && E last t then grow E l n (c ++ [t]) else none).isSome) ∧
        ((if !decide (t ∈ c) && E last t then grow E l n (c ++ [t]) else none).isSome = false → Lp E l w0 b pf pe pl pt sl w s c w.heap.size w1.heap.size w2.heap.size long last w2') ∧
        ((if !decide (t ∈ c) && E last t then grow E l n (c ++ [t]) else none).isSome = true → Cy E l w0 b pf pe pl pt sl w2' ∧ Arg pf pt w0.heap.size w2' s c ∧ Fr (fun i => i = pf ∨ Bl s i) w w2' ∧ ∀ r, grow E l n (c ++ [t]) = some r → ∃ sf : Sl, Blk w2' pf [.slice sf.a sf.n sf.c] 24 ∧ Ints w2' sf r)) ?_).mono fun ee w2' ⟨v, he, hv, hx⟩ => ⟨by rw [he, hv], hx⟩
      refine Join.dir ?_
      refine ⟨Lp E l w0 b pf pe pl pt sl w s c w.heap.size w1.heap.size w2.heap.size long last, hI.ext (Ext.drew _), Let.intro fun wd ed => ?_⟩
      have hId : Lp E l w0 b pf pe pl pt sl w s c w.heap.size w1.heap.size w2.heap.size long last wd := by rw [ed]; exact hI.ext (Ext.drew _)
      refine ⟨s, fun u hu => hu.c.cell 0, ?_⟩
      refine (c28 hId.arg.own.sli t (Nat.le_trans (show c.length ≤ 6 by omega) (by decide))).mono fun ee w3' ⟨he, hx3⟩ => ⟨_, he, hId.ext hx3, ?_⟩
      have hI3 := hId.ext hx3
      refine cond_intro (fun hnot => ?_) (fun hin => ?_)
      · refine ⟨_, fun u hu => (F.e.ext hu.cy.base).cell 0, _, fun u hu => hu.x.cell 0, _, fun u hu => (F.edge.ext hu.cy.base).look _ _, cond_intro (fun hE => ?_) (fun hE => ?_)⟩
        · -- the call
          have hcond : (!decide (t ∈ c) && E last t) = true := by rw [hnot, hE]; rfl
          rw [if_pos hcond]
          have hsz3 : w.heap.size ≤ w3'.heap.size := hI3.fr.size
          obtain ⟨s23, w4', e4', hx4', s24, w5', e5', ho24, hold, hf5, hwh⟩ := appendIntO hI3.arg.own t (by omega) (hI3.cy.base.size)
          have hself3 := hI3.cy.self.ext hx4'
          have hnb : ∀ i, w.heap.size ≤ i → ¬ Bl s i := fun i hi ⟨a, ha, hb⟩ => by have := (hA.own.base ha).2; omega
          obtain ⟨sf3, hsf3⟩ := hI3.cy.found
          have hC5 : Cy E l w0 b pf pe pl pt sl w5' := ⟨(hI3.cy.base.trans hx4').newer hf5 fun i ⟨a, ha, hb⟩ => by have := (hI3.arg.own.base ha).1; omega,
            ⟨sf3, (hsf3.ext hx4').fr hf5 fun ⟨a, ha, hb⟩ => (hI3.arg.sep a ha).1 hb⟩, hself3.fr hf5 fun ⟨a, ha, hb⟩ => (hI3.arg.sep a ha).2 hb⟩
          have hI5 : Lp E l w0 b pf pe pl pt sl w s c w.heap.size w1.heap.size w2.heap.size long last w5' :=
            ⟨hC5, ⟨hold, hI3.arg.sep⟩, (hI3.fr.ext hx4').trans hf5 fun i _ h => .inr h, (hI3.c.ext hx4').fr hf5 (hnb _ (Nat.le_refl _)), (hI3.n.ext hx4').fr hf5 (hnb _ (by omega)), (hI3.x.ext hx4').fr hf5 (hnb _ (by omega))⟩
          have hA5 : Arg pf pt w0.heap.size w5' s24 (c ++ [t]) := ⟨ho24, fun a ha => by
            rcases hwh with hw | hw
            · rw [hw.1] at ha; exact hI3.arg.sep a ha
            · have := hw a ha; omega⟩
          refine ⟨45, capsC pf pe pl pt, fun u hu => hu.cy.self.cell 0, s, fun u hu => hu.c.cell 0, long, fun u hu => hu.n.cell 0, s23, w4', e4', hI3.ext hx4', s24, w5', e5', hI5, ?_⟩
          rw [callable45]
          have hlg : ((((c ++ [t]).length + n : Nat)) : Int) = long := by rw [← hlong]; simp; omega
          have hcall := ih (c ++ [t]) s24 w5' (by simp) (by simp; omega) hC5 hA5
          rw [hlg] at hcall
          refine hcall.mono fun ee w6' ⟨he, hC6, hA6, hf6, hg6⟩ => ⟨_, he, ?_⟩
          -- what holds behind the call
          have hown6 : Own 3 1 eI w0.heap.size w6' s c := by
            rcases hwh with hw | hw
            · have := Own.trunc (m := c.length) eI_len hA6.own (by simp)
              rw [hw.1, hw.2] at this
              have e1 : (⟨s.a, c.length, s.c⟩ : Sl) = s := by
                have := hn
                cases s; simp_all
              rw [e1] at this
              simpa using this
            · refine hold.fr hf6 fun a ha h => ?_
              rcases h with h | ⟨a', ha', h⟩
              · exact (hI3.arg.sep a ha).1 h
              · have := hw a' ha'
                have := (hI3.arg.own.base ha).2
                omega
          have hfr6 : Fr (fun i => i = pf ∨ Bl s i) w w6' := hI5.fr.trans hf6 fun i hi h => by
            rcases h with h | ⟨a', ha', h⟩
            · exact .inl h
            · rcases hwh with hw | hw
              · rw [hw.1] at ha'; exact .inr ⟨a', ha', h⟩
              · have := hw a' ha'; omega
          have hno : ∀ i, w.heap.size ≤ i → i < w3'.heap.size → i ≠ pf → ¬ (i = pf ∨ Bl s24 i) := fun i h1 h2 h3 h => by
            rcases h with h | ⟨a', ha', h⟩
            · exact h3 h
            · rcases hwh with hw | hw
              · rw [hw.1] at ha'; exact hnb i h1 ⟨a', ha', h⟩
              · have := hw a' ha'; omega
          have hLp6 : Lp E l w0 b pf pe pl pt sl w s c w.heap.size w1.heap.size w2.heap.size long last w6' :=
            ⟨hC6, ⟨hown6, hI3.arg.sep⟩, hfr6, hI5.c.fr hf6 (hno _ (Nat.le_refl _) hI3.c.lt (by omega)), hI5.n.fr hf6 (hno _ (by omega) hI3.n.lt (by omega)), hI5.x.fr hf6 (hno _ (by omega) hI3.x.lt (by omega))⟩
          exact ⟨hLp6, rfl, fun _ => hLp6, fun _ => ⟨hC6, ⟨hown6, hI3.arg.sep⟩, hfr6, hg6⟩⟩
        · have hcond : ¬ (!decide (t ∈ c) && E last t) = true := by rw [hE]; simp
          rw [if_neg hcond]
          exact ⟨rfl, fun _ => hI3, fun h => by cases h⟩
      · have hcond : ¬ (!decide (t ∈ c) && E last t) = true := by rw [hin]; simp
        rw [if_neg hcond]
        exact ⟨rfl, fun _ => hI3, fun h => by cases h⟩
    · -- the result
      have hgrow : grow E l (n + 1) c = l.findSome? fun t => if !decide (t ∈ c) && E last t then grow E l n (c ++ [t]) else none := by rw [grow, hlastD]
      rcases hres with ⟨i, t, hi, hq, hno, hC8, hA8, hf8, hg8⟩ | ⟨hno, hI8⟩
      · obtain ⟨r, hr'⟩ := Option.isSome_iff_exists.1 hq
        have hcond : (!decide (t ∈ c) && E last t) = true := by
          by_cases h : (!decide (t ∈ c) && E last t) = true
          · exact h
          · rw [if_neg h] at hr'; cases hr'
        have hg : grow E l (n + 1) c = some r := by
          rw [hgrow]
          refine findSome_take (fun y hy => ?_) hi hr'
          have := hno y hy
          exact Option.not_isSome_iff_eq_none.1 (by rw [this]; simp)
        rw [if_pos hcond] at hr'
        have hany : l.any (fun t => (if !decide (t ∈ c) && E last t then grow E l n (c ++ [t]) else none).isSome) = true := List.any_eq_true.2 ⟨t, List.mem_of_getElem? hi, hq⟩
        refine ⟨by rw [hany, hg]; rfl, hC8, hA8, hf8, fun r' h => ?_⟩
        rw [hg] at h
        cases h
        exact hg8 r hr'
      · have hg : grow E l (n + 1) c = none := by
          rw [hgrow]
          exact List.findSome?_eq_none_iff.2 fun y hy => Option.not_isSome_iff_eq_none.1 (by rw [hno y hy]; simp)
        have hany : l.any (fun t => (if !decide (t ∈ c) && E last t then grow E l n (c ++ [t]) else none).isSome) = false := List.any_eq_false.2 fun y hy => by rw [hno y hy]; simp
        refine ⟨by rw [hany, hg]; rfl, hI8.cy, hI8.arg, hI8.fr, fun r h => ?_⟩
        rw [hg] at h; cases h
end Go.Proofs.Ytnbkihkdfhjlmaa
/-
  Contract: Cycle.
-/
namespace Go.Proofs.Ytnbkihkdfhjlmaa
open Go Go.VC
set_option maxHeartbeats 400000

theorem zc75 : (zc Try.prog 75).size = 1 := by kernel_rfl
theorem zc52 : (zc Try.prog 52).size = 1 := by kernel_rfl
theorem zc24v : zc Try.prog 24 = [.slice none 0 0].toArray := by kernel_rfl
/-- What Cycle returns of a valid history. -/
def cyc (E : Int → Int → Bool) (l : List Int) : Option (List Int) := (List.range (l.length - 1)).findSome? fun k => l.findSome? fun t => grow E l (k + 1) [t]
def progC (h : List Ev) : Option (List Int) := cyc (conf (part h)) (com h)
theorem findSome_none_step {α β : Type} {l : List α} {f : α → Option β} {i : Nat} (hi : i < l.length) (hn : ∀ y ∈ l.take i, f y = none) (hx : f l[i] = none) : ∀ y ∈ l.take (i + 1), f y = none := by
  intro y hy
  rw [List.take_succ_eq_append_getElem hi] at hy
  rcases List.mem_append.1 hy with hy | hy
  · exact hn y hy
  · rw [List.mem_singleton.1 hy]; exact hx

theorem Cy.lt {E : Int → Int → Bool} {l : List Int} {w0 : World} {b pf pe pl pt : Nat} {sl : Sl} {w : World} (h : Cy E l w0 b pf pe pl pt sl w) : pf < w.heap.size := by
  obtain ⟨sf, hsf⟩ := h.found
  exact hsf.lt
theorem c18 {w : World} {s : Sl} {h : List Ev} (hs : Hs w s h) (hl : h.length ≤ 100) :
    Calls Try.prog 18 [.slice s.a s.n s.c].toArray w fun e w' => ∃ (s' : Sl) (x : Int), e = .returned (.tuple [.slice s'.a s'.n s'.c, .int .i64 x].toArray) ∧
      ((¬ Valid h ∧ s'.n = 0 ∧ x = 2) ∨ (Valid h ∧ Ints w' s' ((progC h).getD []) ∧ x = if (progC h).isSome then 0 else 5)) ∧ Ext w w' := by
  refine (call18 s (R := fun v w' => ∃ (s' : Sl) (x : Int), v = (.tuple [.slice s'.a s'.n s'.c, .int .i64 x].toArray) ∧
      ((¬ Valid h ∧ s'.n = 0 ∧ x = 2) ∨ (Valid h ∧ Ints w' s' ((progC h).getD []) ∧ x = if (progC h).isSome then 0 else 5)) ∧ Ext w w') ?_).mono fun e w' ⟨v, he, s', x, hv, hx⟩ => ⟨s', x, by rw [he, hv], hx⟩
  have hbig : h.length ≤ big := by show h.length ≤ 9223372036854775807; omega
  refine (c26 hs hbig).mono fun e w1 ⟨he, hx1⟩ => ⟨_, he, cond_intro (fun hc => ?_) (fun hc => ?_)⟩
  · have hc : ¬ Valid h := by simpa using hc
    exact ⟨⟨none, 0, 0⟩, 2, rfl, .inl ⟨hc, rfl, rfl⟩, hx1⟩
  have hval : Valid h := by simpa using hc
  refine (c34 (hs.ext hx1) (by omega)).mono fun e w2 ⟨s15, he, ho15, hx2⟩ => ⟨s15, he, ?_⟩
  have hlp : (part h).length ≤ 100 := Nat.le_trans (List.length_filter_le ..) hl
  refine (c43 ho15.sli (by omega)).mono fun e w3 ⟨he, hm, hx3⟩ => ⟨_, he, ?_⟩
  refine (c36 (((hs.ext hx1).ext hx2).ext hx3) hbig).mono fun e w4 ⟨s18, he, ho18, hx4⟩ => ⟨s18, he, ?_⟩
  refine Let.intro fun w5 e5 => Let.intro fun w6 e6 => ?_
  have hx5 : Ext w4 w5 := by rw [e5]; exact Ext.alloc ..
  have hx6 : Ext w5 w6 := by rw [e6]; exact Ext.alloc ..
  have hz5 : Blk w5 w4.heap.size (zc Try.prog 75).toList 75 := by rw [e5]; simpa using Blk.alloc w4 (zc Try.prog 75).toList 75
  have hz6 : Blk w6 w5.heap.size (zc Try.prog 24).toList 24 := by rw [e6]; simpa using Blk.alloc w5 (zc Try.prog 24).toList 24
  have n5 := hz5.lt
  have n6 := hz6.lt
  have hz56 := hz5.ext hx6
  refine ⟨hz56.storeOk rfl (by simp [Value.oneCell']) (by simp [zc75]), Let.intro fun w7 e7 => ?_⟩
  have hf7 : Fr (fun k => k = w4.heap.size) w6 w7 := by rw [e7]; exact Fr.put ..
  have hb7 := hz56.put (o := 0) (vs := [.map (some w2.heap.size)])
  rw [show setR (zc Try.prog 75).toList 0 [.map (some w2.heap.size)] = [.map (some w2.heap.size)] from by
    simpa using setR_all (vs := [.map (some w2.heap.size)]) (l := (zc Try.prog 75).toList) (pre := []) (by simp [zc75]), ← e7] at hb7
  have hz67 := hz6.fr hf7 (by omega)
  refine ⟨hz67.storeOk rfl (by simp [Value.oneCell']) (by simp [zc24]), Let.intro fun w8 e8 => ?_⟩
  have hf8 : Fr (fun k => k = w5.heap.size) w7 w8 := by rw [e8]; exact Fr.put ..
  have hb8 := hz67.put (o := 0) (vs := [.slice s18.a s18.n s18.c])
  rw [show setR (zc Try.prog 24).toList 0 [.slice s18.a s18.n s18.c] = [.slice s18.a s18.n s18.c] from by
    simpa using setR_all (vs := [.slice s18.a s18.n s18.c]) (l := (zc Try.prog 24).toList) (pre := []) (by simp [zc24]), ← e8] at hb8
  have hx48 : Ext w4 w8 := ((hx5.trans hx6).newer hf7 fun k hk => by omega).newer hf8 fun k hk => by omega
  have hx08 := (((hx1.trans hx2).trans hx3).trans hx4).trans hx48
  refine Let.intro fun w9 e9 => Let.intro fun w10 e10 => ?_
  have hx9 : Ext w8 w9 := by rw [e9]; exact Ext.alloc ..
  have hb9 : Blk w9 w8.heap.size [.slice none 0 0] 24 := by rw [e9, zc24v]; exact Blk.alloc ..
  have n9 := hb9.lt
  obtain ⟨hst11, hb11, hx11⟩ := new_var w9 52 (z := zc Try.prog 52) (vs := [.func (.func 45) #[] (capsC w8.heap.size w4.heap.size w5.heap.size w9.heap.size).toArray]) zc52 (by simp [Value.oneCell'])
  rw [← e10] at hst11 hb11 hx11
  refine ⟨hst11, Let.intro fun w11 e11 => ?_⟩
  have hb11 : Blk w11 w9.heap.size [.func (.func 45) #[] (capsC w8.heap.size w4.heap.size w5.heap.size w9.heap.size).toArray] 52 := by rw [e11]; exact hb11
  have hx11 : Ext w9 w11 := by rw [e11]; exact hx11
  have F : CyF (conf (part h)) (com h) w8 w2.heap.size w8.heap.size w4.heap.size w5.heap.size w9.heap.size s18 :=
    ⟨(hm.ext hx4).ext hx48, hb7.fr hf8 (by omega), hb8, ho18.sli.ext hx48, Nat.le_refl _, by omega, com_len h⟩
  have hC11 : Cy (conf (part h)) (com h) w8 w2.heap.size w8.heap.size w4.heap.size w5.heap.size w9.heap.size s18 w11 := ⟨hx9.trans hx11, ⟨⟨none, 0, 0⟩, hb9.ext hx11⟩, hb11⟩
  have hcl := com_len h
  have hnl := F.li.len
  have hrl : (List.range ((com h).length - 1)).length = (com h).length - 1 := List.length_range
  refine Join.dir (LoopV.intro (fun m (x : Int) w' => ∃ k : Nat, x = (k : Int) + 2 ∧ k ≤ 6 ∧ m = 7 - k ∧ Cy (conf (part h)) (com h) w8 w2.heap.size w8.heap.size w4.heap.size w5.heap.size w9.heap.size s18 w' ∧
      (∀ j ∈ (List.range ((com h).length - 1)).take k, ((com h).findSome? fun t => grow (conf (part h)) (com h) (j + 1) [t]) = none) ∧ (k = 0 ∨ k + 1 ≤ (com h).length)) 7
    ⟨0, rfl, by omega, by omega, hC11, by simp, .inl rfl⟩ ?_)
  rintro m x w13 ⟨k, rfl, hk6, rfl, hC, hno, hk1⟩
  refine ⟨s18, (F.lv.ext hC.base).cell 0, cond_intro (fun hc => ?_) (fun hc => ?_)⟩
  · have hk : k + 2 ≤ (com h).length := by have : (k : Int) + 2 ≤ (s18.n : Int) := by simpa using hc
                                           omega
    have hkr : k < (List.range ((com h).length - 1)).length := by omega
    refine Join.dir ⟨s18, (F.lv.ext hC.base).cell 0, Join.dir (rangeI (fun i w' => Cy (conf (part h)) (com h) w8 w2.heap.size w8.heap.size w4.heap.size w5.heap.size w9.heap.size s18 w' ∧
      ∀ t ∈ (com h).take i, grow (conf (part h)) (com h) (k + 1) [t] = none) (by rw [hnl]; exact Nat.le_trans hcl (by decide)) ⟨hC, by simp⟩ ?_ ?_)⟩
    · rintro i hi w16 ⟨hC16, hno16⟩ K hK
      have hi : i < (com h).length := by omega
      obtain ⟨p, hp, h1, h2, hr⟩ := Ints.at (F.li.ext hC16.base) hi
      refine ⟨p, hp, h1, h2, _, hr, 45, capsC w8.heap.size w4.heap.size w5.heap.size w9.heap.size, hC16.self.cell 0, ⟨some ⟨w16.heap.size, 0, none⟩, 1, 1⟩, _, buildOne_run E24 (v := .int .i64 (com h)[i]) (vs := eI (com h)[i]) rfl rfl (by omega) w16, ?_⟩
      have hx18 := Ext.alloc w16 (.cells (eI (com h)[i]).toArray 3)
      have z16 := hC16.base.size
      have ho18' : Own 3 1 eI w16.heap.size (w16.alloc (.cells (eI (com h)[i]).toArray 3)) ⟨some ⟨w16.heap.size, 0, none⟩, 1, 1⟩ [(com h)[i]] := Own.one w16 _ rfl
      have npt := hC16.self.lt
      have npf := hC16.lt
      rw [callable45]
      have hcall := c45 F (k + 1) [(com h)[i]] ⟨some ⟨w16.heap.size, 0, none⟩, 1, 1⟩ _ (by simp) (by simp; omega) (hC16.ext hx18) ⟨ho18'.mono z16, fun a ha => by
        have : a = ⟨w16.heap.size, 0, none⟩ := (Option.some.inj ha).symm
        subst this
        exact ⟨by show w16.heap.size ≠ _; omega, by show w16.heap.size ≠ _; omega⟩⟩
      rw [show ((([(com h)[i]] : List Int).length + (k + 1) : Nat) : Int) = (k : Int) + 2 from by simp; omega] at hcall
      refine hcall.mono fun ee w19 ⟨he, hC19, _, _, hg⟩ => ⟨_, he, cond_intro (fun hr => ?_) (fun hr => ?_)⟩
      · obtain ⟨r, hr'⟩ := Option.isSome_iff_exists.1 hr
        have hp1 : ((com h).findSome? fun t => grow (conf (part h)) (com h) (k + 1) [t]) = some r := findSome_take hno16 (List.getElem?_eq_getElem hi) hr'
        have hp : progC h = some r := findSome_take hno (List.getElem?_eq_getElem hkr) (by rw [List.getElem_range]; exact hp1)
        obtain ⟨sf, hsf, hif⟩ := hg r hr'
        exact ⟨sf, hsf.cell 0, sf, 0, rfl, .inr ⟨hval, by rw [hp]; exact hif, by rw [hp]; rfl⟩, hx08.trans hC19.base⟩
      · refine hK _ ⟨hC19, findSome_none_step (f := fun t => grow (conf (part h)) (com h) (k + 1) [t]) hi hno16 (Option.not_isSome_iff_eq_none.1 (by rw [hr]; simp))⟩
    · rintro w16 ⟨hC16, hno16⟩
      rw [hnl, List.take_length] at hno16
      refine ⟨7 - (k + 1), by omega, k + 1, by rw [wrap64 (by omega) (by omega)]; omega, by omega, rfl, hC16, ?_, .inr (by omega)⟩
      refine findSome_none_step (f := fun j => (com h).findSome? fun t => grow (conf (part h)) (com h) (j + 1) [t]) hkr hno ?_
      rw [List.getElem_range]
      exact List.findSome?_eq_none_iff.2 hno16
  · have hk : ¬ k + 2 ≤ (com h).length := by have : ¬ (k : Int) + 2 ≤ (s18.n : Int) := by simpa using hc
                                             omega
    have hp : progC h = none := by
      unfold progC cyc
      refine List.findSome?_eq_none_iff.2 fun j hj => hno j ?_
      rw [List.take_of_length_le (by omega)]; exact hj
    exact ⟨⟨none, 0, 0⟩, 5, rfl, .inr ⟨hval, by rw [hp]; exact Sli.nil .., by rw [hp]; rfl⟩, hx08.trans hC.base⟩
end Go.Proofs.Ytnbkihkdfhjlmaa
/-
  Plain laws: two neighbouring operations exchanged.
-/
namespace Go.Proofs.Ytnbkihkdfhjlmaa
open Go Go.VC
set_option maxHeartbeats 400000

/-! ### the reads, as a history is gone through -/
def upd (σ : Int → Int) (i v : Int) : Int → Int := fun j => if j = i then v else σ j
/-- What is known behind the operations. -/
def stf (σ : Int → Int) : List Ev → Int → Int
  | [] => σ
  | o :: r => stf (if o.k = 1 then upd σ o.i o.t else σ) r
/-- The reads of a transaction, each with what it reads from. -/
def ems (t : Int) (σ : Int → Int) : List Ev → List Int
  | [] => []
  | o :: r => (if o.t = t ∧ o.k = 0 then [σ o.i] else []) ++ ems t (if o.k = 1 then upd σ o.i o.t else σ) r
theorem stf_append (σ : Int → Int) : ∀ (p q : List Ev), stf σ (p ++ q) = stf (stf σ p) q
  | [], _ => rfl
  | o :: r, q => by simp only [List.cons_append, stf]; exact stf_append _ r q
theorem ems_append (t : Int) (σ : Int → Int) : ∀ (p q : List Ev), ems t σ (p ++ q) = ems t σ p ++ ems t (stf σ p) q
  | [], _ => rfl
  | o :: r, q => by simp only [List.cons_append, ems, stf]; rw [ems_append t _ r q, List.append_assoc]
theorem stf_lst {h : List Ev} (it : Int) : ∀ n, n ≤ h.length → stf (fun _ => 0) (h.take n) it = lst h it n
  | 0, _ => rfl
  | n + 1, hn => by
    have hi : n < h.length := by omega
    rw [List.take_succ_eq_append_getElem hi, stf_append, lst, getD_at hi]
    simp only [stf]
    by_cases hk : h[n].k = 1
    · rw [if_pos hk]
      unfold upd
      by_cases e : it = h[n].i
      · rw [if_pos e, if_pos ⟨hk, e.symm⟩]
      · rw [if_neg e, if_neg (fun h => e h.2.symm), stf_lst it n (by omega)]
    · rw [if_neg hk, if_neg (fun h => hk h.1), stf_lst it n (by omega)]
/-- Without aborts a read reads from the last writer. -/
theorem srcUp_lst {h : List Ev} (hna : ∀ o ∈ h, o.k ≠ 3) (it : Int) (i : Nat) : ∀ n, n ≤ h.length → srcUp h it i n = lst h it n
  | 0, _ => rfl
  | n + 1, hn => by
    have hi : n < h.length := by omega
    rw [srcUp, lst, srcUp_lst hna it i n (by omega), getD_at hi]
    have hfin : fin h 3 h[n].t = -1 := ix_not fun hm => hna _ hm rfl
    by_cases hg : h[n].k = 1 ∧ h[n].i = it
    · rw [if_pos hg, if_pos ⟨hg.1, hg.2, by rw [hfin]; omega⟩]
    · rw [if_neg hg, if_neg fun h => hg ⟨h.1, h.2.1⟩]
theorem reads_ems {h : List Ev} (hna : ∀ o ∈ h, o.k ≠ 3) (t : Int) : reads h t = ems t (fun _ => 0) h := by
  have main : ∀ n, n ≤ h.length → rds h t n = ems t (fun _ => 0) (h.take n) := by
    intro n
    induction n with
    | zero => intro _; rfl
    | succ n ih =>
      intro hn
      have hi : n < h.length := by omega
      rw [rds_step hi, List.take_succ_eq_append_getElem hi, ems_append, ih (by omega)]
      congr 1
      simp only [ems, List.append_nil]
      by_cases hc : h[n].t = t ∧ h[n].k = 0
      · rw [if_pos hc, if_pos hc, frm1_read hi hc.2, srcUp_lst hna _ _ _ (by omega), stf_lst _ _ (by omega)]
      · rw [if_neg hc, if_neg hc]
  have := main h.length (Nat.le_refl _)
  rw [List.take_length] at this; exact this
theorem lasts_stf (h : List Ev) : lasts h = ([0, 1, 2, 3, 4, 5] : List Int).map (stf (fun _ => 0) h) := by
  have := fun it => stf_lst (h := h) it h.length (Nat.le_refl _)
  simp only [List.take_length] at this
  simp only [List.map_cons, List.map_nil, this]
  rfl
/-- Two operations that may be exchanged. -/
def calm (x y : Ev) : Prop := x.t ≠ y.t ∧ x.k ≤ 1 ∧ y.k ≤ 1 ∧ 0 ≤ x.k ∧ 0 ≤ y.k ∧ ¬ (x.i = y.i ∧ 0 < x.k + y.k)
theorem calm.symm {x y : Ev} (h : calm x y) : calm y x := ⟨fun e => h.1 e.symm, h.2.2.1, h.2.1, h.2.2.2.2.1, h.2.2.2.1, fun e => h.2.2.2.2.2 ⟨e.1.symm, by omega⟩⟩
theorem upd_comm {σ : Int → Int} {i j a b : Int} (h : i ≠ j) : upd (upd σ i a) j b = upd (upd σ j b) i a := by
  funext k
  unfold upd
  by_cases e1 : k = j <;> by_cases e2 : k = i <;> simp [e1, e2]
  · exact absurd (e2.symm.trans e1) h
  · intro e; exact absurd e.symm h
  · intro e; exact absurd e h
theorem stf_swap {x y : Ev} (h : calm x y) (σ : Int → Int) (q : List Ev) : stf σ (x :: y :: q) = stf σ (y :: x :: q) := by
  simp only [stf]
  congr 1
  by_cases hx : x.k = 1 <;> by_cases hy : y.k = 1 <;> simp only [hx, hy, if_true, if_false]
  exact upd_comm fun e => h.2.2.2.2.2 ⟨e, by omega⟩
theorem ems_swap {x y : Ev} (h : calm x y) (t : Int) (σ : Int → Int) (q : List Ev) : ems t σ (x :: y :: q) = ems t σ (y :: x :: q) := by
  have hs := stf_swap h σ []
  simp only [stf] at hs
  simp only [ems]
  rw [← hs, ← List.append_assoc, ← List.append_assoc]
  congr 1
  obtain ⟨h1, h2, h3, h4, h5, h6⟩ := h
  have e1 : x.k = 1 → y.t = t ∧ y.k = 0 → upd σ x.i x.t y.i = σ y.i := fun hx hy => by
    unfold upd; rw [if_neg]; intro e; exact h6 ⟨e.symm, by omega⟩
  have e2 : y.k = 1 → x.t = t ∧ x.k = 0 → upd σ y.i y.t x.i = σ x.i := fun hx hy => by
    unfold upd; rw [if_neg]; intro e; exact h6 ⟨e, by omega⟩
  by_cases hx : x.t = t ∧ x.k = 0
  · have hy : ¬ (y.t = t ∧ y.k = 0) := fun hy => h1 (hx.1.trans hy.1.symm)
    rw [if_pos hx, if_neg hy, if_neg hy, if_pos hx]
    by_cases hk : y.k = 1
    · rw [if_pos hk, e2 hk hx]; simp
    · rw [if_neg hk]; simp
  · by_cases hy : y.t = t ∧ y.k = 0
    · rw [if_neg hx, if_pos hy, if_pos hy, if_neg hx]
      by_cases hk : x.k = 1
      · rw [if_pos hk, e1 hk hy]; simp
      · rw [if_neg hk]; simp
    · rw [if_neg hx, if_neg hy, if_neg hy, if_neg hx]
theorem viewL_swap {x y : Ev} (h : calm x y) {p q : List Ev} (hna : ∀ o ∈ p ++ x :: y :: q, o.k ≠ 3) : viewL (p ++ x :: y :: q) = viewL (p ++ y :: x :: q) := by
  have hna' : ∀ o ∈ p ++ y :: x :: q, o.k ≠ 3 := fun o ho => hna o (by simp at ho ⊢; rcases ho with h | h | h | h <;> simp [h])
  unfold viewL
  congr 1
  · congr 1
    funext t
    rw [reads_ems hna, reads_ems hna', ems_append, ems_append, ems_swap h]
  · rw [lasts_stf, lasts_stf, stf_append, stf_append, stf_swap h]

/-! ### conflicts -/
def confR : List Ev → Int → Int → Prop
  | [], _, _ => False
  | o :: r, a, b => (∃ y ∈ r, cfl o y = true ∧ o.t = a ∧ y.t = b) ∨ confR r a b
theorem conf_confR : ∀ {p : List Ev} {a b : Int}, conf p a b = true ↔ confR p a b
  | [], a, b => by simp [conf, confR]
  | o :: r, a, b => by
    rw [confR, ← conf_confR (p := r), conf_iff, conf_iff]
    constructor
    · rintro ⟨i, j, hi, hj, hij, h1, h2, h3⟩
      obtain ⟨j', rfl⟩ : ∃ j', j = j' + 1 := ⟨j - 1, by omega⟩
      have hj' : j' < r.length := by simpa using hj
      cases i with
      | zero => exact .inl ⟨r[j'], List.getElem_mem hj', by simpa using h1, by simpa using h2, by simpa using h3⟩
      | succ i' => exact .inr ⟨i', j', by simpa using hi, hj', by omega, by simpa using h1, by simpa using h2, by simpa using h3⟩
    · rintro (⟨y, hy, h1, h2, h3⟩ | ⟨i, j, hi, hj, hij, h1, h2, h3⟩)
      · obtain ⟨j, hj, rfl⟩ := List.getElem_of_mem hy
        exact ⟨0, j + 1, by simp, by simpa using hj, by omega, by simpa using h1, by simpa using h2, by simpa using h3⟩
      · exact ⟨i + 1, j + 1, by simpa using hi, by simpa using hj, by omega, by simpa using h1, by simpa using h2, by simpa using h3⟩
theorem calm_cfl {x y : Ev} (h : calm x y) : cfl x y = false := by
  obtain ⟨h1, h2, h3, h4, h5, h6⟩ := h
  unfold cfl
  by_cases e : x.i = y.i
  · have hx : x.k = 0 := by
      rcases Classical.em (x.k = 0) with h | h
      · exact h
      · exact absurd ⟨e, by omega⟩ h6
    have hy : y.k = 0 := by
      rcases Classical.em (y.k = 0) with h | h
      · exact h
      · exact absurd ⟨e, by omega⟩ h6
    simp [hx, hy]
  · simp [e]
theorem confR_swap {x y : Ev} (h : calm x y) {a b : Int} : ∀ {p q : List Ev}, confR (p ++ x :: y :: q) a b ↔ confR (p ++ y :: x :: q) a b
  | [], q => by
    simp only [List.nil_append, confR, List.mem_cons]
    have h1 := calm_cfl h
    have h2 := calm_cfl h.symm
    constructor
    · rintro (⟨z, rfl | hz, h3⟩ | ⟨z, hz, h3⟩ | h3)
      · rw [h1] at h3; cases h3.1
      · exact .inr (.inl ⟨z, hz, h3⟩)
      · exact .inl ⟨z, .inr hz, h3⟩
      · exact .inr (.inr h3)
    · rintro (⟨z, rfl | hz, h3⟩ | ⟨z, hz, h3⟩ | h3)
      · rw [h2] at h3; cases h3.1
      · exact .inr (.inl ⟨z, hz, h3⟩)
      · exact .inl ⟨z, .inr hz, h3⟩
      · exact .inr (.inr h3)
  | o :: p, q => by
    simp only [List.cons_append, confR]
    rw [confR_swap h (p := p)]
    have : ∀ z, z ∈ p ++ x :: y :: q ↔ z ∈ p ++ y :: x :: q := fun z => by simp only [List.mem_append, List.mem_cons]; constructor <;> (rintro (h | h | h | h) <;> simp [h])
    simp only [this]
theorem conf_swap {x y : Ev} (h : calm x y) {p q : List Ev} : conf (p ++ x :: y :: q) = conf (p ++ y :: x :: q) := by
  funext a b
  rw [Bool.eq_iff_iff, conf_confR, conf_confR, confR_swap h]
end Go.Proofs.Ytnbkihkdfhjlmaa
/-
  The law of HistoryExchanged, and its contract.
-/
namespace Go.Proofs.Ytnbkihkdfhjlmaa
open Go Go.VC
set_option maxHeartbeats 400000

theorem com_congr {h h' : List Ev} (hm : ∀ o, o ∈ h ↔ o ∈ h') : com h = com h' := by
  unfold com
  apply List.filter_congr
  intro t _
  apply decide_eq_decide.2
  unfold fin
  rw [ix_nonneg, ix_nonneg, hm]
theorem swap_mem {x y : Ev} {p q : List Ev} (o : Ev) : o ∈ p ++ x :: y :: q ↔ o ∈ p ++ y :: x :: q := by
  simp only [List.mem_append, List.mem_cons]
  constructor <;> (rintro (h | h | h | h) <;> simp [h])
theorem com_swap {x y : Ev} {p q : List Ev} : com (p ++ x :: y :: q) = com (p ++ y :: x :: q) := com_congr swap_mem
/-- The committed part has no aborts. -/
theorem part_noabort {h : List Ev} (hv : Wf h) : ∀ o ∈ part h, o.k ≠ 3 := by
  intro o ho h3
  obtain ⟨hoh, hc⟩ := List.mem_filter.1 ho
  have hc := mem_com.1 (by simpa using hc)
  have hm : (⟨o.t, 2, 0⟩ : Ev) ∈ h := ix_nonneg.1 hc.2.2
  obtain ⟨i, hi, ei⟩ := List.getElem_of_mem hoh
  obtain ⟨j, hj, ej⟩ := List.getElem_of_mem hm
  have hp := List.pairwise_iff_getElem.1 hv.2
  rcases Nat.lt_trichotomy i j with hlt | heq | hlt
  · exact hp i j hi hj hlt ⟨by rw [ei, ej], by rw [ei, h3]; omega⟩
  · subst heq; rw [ei] at ej; rw [ej] at h3; cases h3
  · exact hp j i hj hi hlt ⟨by rw [ei, ej], by rw [ej]; show (1 : Int) < 2; omega⟩
theorem filter_one {x y : Ev} {p q : List Ev} {f : Ev → Bool} (h : ¬ (f x = true ∧ f y = true)) : (p ++ x :: y :: q).filter f = (p ++ y :: x :: q).filter f := by
  rw [List.filter_append, List.filter_append]
  congr 1
  simp only [List.filter_cons]
  by_cases h1 : f x = true
  · have h2 : ¬ f y = true := fun h2 => h ⟨h1, h2⟩
    rw [if_pos h1, if_neg h2, if_neg h2, if_pos h1]
  · rw [if_neg h1, if_neg h1]
theorem filter_two {x y : Ev} {p q : List Ev} {f : Ev → Bool} (h1 : f x = true) (h2 : f y = true) : (p ++ x :: y :: q).filter f = p.filter f ++ x :: y :: q.filter f := by
  rw [List.filter_append, List.filter_cons, List.filter_cons, if_pos h1, if_pos h2]
theorem part_swap {x y : Ev} (p q : List Ev) (hc : calm x y) (hv : Wf (p ++ x :: y :: q)) :
    conf (part (p ++ x :: y :: q)) = conf (part (p ++ y :: x :: q)) ∧ viewL (part (p ++ x :: y :: q)) = viewL (part (p ++ y :: x :: q)) := by
  have hna := part_noabort hv
  unfold part at hna ⊢
  rw [← com_swap (x := x) (y := y) (p := p) (q := q)]
  generalize com (p ++ x :: y :: q) = C at hna ⊢
  by_cases h : decide (x.t ∈ C) = true ∧ decide (y.t ∈ C) = true
  · rw [filter_two (f := fun o => decide (o.t ∈ C)) h.1 h.2] at hna ⊢
    rw [filter_two (f := fun o => decide (o.t ∈ C)) h.2 h.1]
    exact ⟨conf_swap hc, viewL_swap hc hna⟩
  · rw [filter_one (f := fun o => decide (o.t ∈ C)) h]
    exact ⟨rfl, rfl⟩
theorem serial_swap {x y : Ev} {p q : List Ev} (hc : calm x y) (o : List Int) : serial (p ++ x :: y :: q) o = serial (p ++ y :: x :: q) o := by
  unfold serial
  congr 1
  funext t
  exact filter_one fun h => hc.1 ((of_decide_eq_true h.1).trans (of_decide_eq_true h.2).symm)
theorem valid_swap {x y : Ev} {p q : List Ev} (hc : calm x y) (hv : Valid (p ++ x :: y :: q)) : Valid (p ++ y :: x :: q) := by
  obtain ⟨⟨h1, h2⟩, h3⟩ := hv
  refine ⟨⟨fun o ho => h1 o ((swap_mem o).2 ho), ?_⟩, by simpa using h3⟩
  rw [List.pairwise_append] at h2 ⊢
  obtain ⟨a, b, c⟩ := h2
  rw [List.pairwise_cons, List.pairwise_cons] at b
  obtain ⟨b1, b2, b3⟩ := b
  refine ⟨a, ?_, fun u hu v hv => c u hu v (by simp at hv ⊢; rcases hv with h | h | h <;> simp [h])⟩
  rw [List.pairwise_cons, List.pairwise_cons]
  refine ⟨fun z hz => ?_, fun z hz => b1 z (by simp [hz]), b3⟩
  rcases List.mem_cons.1 hz with rfl | hz
  · intro h; have := hc.2.2.1; omega
  · exact b2 z hz
theorem prog_swap {x y : Ev} {p q : List Ev} (hc : calm x y) (hv : Valid (p ++ x :: y :: q)) :
    progO (p ++ x :: y :: q) = progO (p ++ y :: x :: q) ∧ progC (p ++ x :: y :: q) = progC (p ++ y :: x :: q) ∧ progV (p ++ x :: y :: q) = progV (p ++ y :: x :: q) := by
  obtain ⟨h1, h2⟩ := part_swap p q hc hv.1
  refine ⟨?_, ?_, ?_⟩
  · unfold progO; rw [h1, com_swap]
  · unfold progC; rw [h1, com_swap]
  · rw [progV_eq, progV_eq]
    have hok : ∀ o, decide (okP (p ++ x :: y :: q) o) = decide (okP (p ++ y :: x :: q) o) := fun o => decide_eq_decide.2 (by unfold okP; rw [h2, serial_swap hc])
    unfold refV
    rw [com_swap (x := x) (y := y)]
    exact find_congr fun o _ => hok o
/-- Two neighbours exchanged. -/
def exch (h : List Ev) (i : Nat) (hi : i + 1 < h.length) : List Ev := (h.set i h[i + 1]).set (i + 1) (h[i]'(by omega))
theorem split_two {h : List Ev} {i : Nat} (hi : i + 1 < h.length) : h = h.take i ++ h[i]'(by omega) :: h[i + 1] :: h.drop (i + 2) := by
  have h1 : h.drop i = h[i]'(by omega) :: h.drop (i + 1) := List.drop_eq_getElem_cons (by omega)
  have h2 : h.drop (i + 1) = h[i + 1] :: h.drop (i + 2) := List.drop_eq_getElem_cons hi
  rw [← h2, ← h1, List.take_append_drop]
theorem exch_eq {h : List Ev} {i : Nat} (hi : i + 1 < h.length) : exch h i hi = h.take i ++ h[i + 1] :: h[i]'(by omega) :: h.drop (i + 2) := by
  unfold exch
  apply List.ext_getElem
  · simp; omega
  · intro j h1 h2
    rw [List.getElem_set, List.getElem_set, List.getElem_append]
    simp only [List.length_take, Nat.min_eq_left (show i ≤ h.length by omega)]
    by_cases e1 : i + 1 = j
    · subst e1; simp; intro h; omega
    · rw [if_neg e1]
      by_cases e2 : i = j
      · subst e2; simp
      · rw [if_neg e2]
        by_cases e3 : j < i
        · simp [e3]
        · obtain ⟨k, rfl⟩ : ∃ k, j = i + 2 + k := ⟨j - (i + 2), by omega⟩
          have e4 : i + 2 + k - i = k + 2 := by omega
          simp [e3, e4]
end Go.Proofs.Ytnbkihkdfhjlmaa
