/-
  Texts Ct, Sn, Gb, Sp, Gf, Dr of this proof, joined.
-/
import Derived.Test.YtoljknamnkkgcaaXr8
import Derived.Test.YtoljknamnkkgcaaProg
import Derived.KernelRfl
import Derived.Test.YtoljknamnkkgcaaRows
import Derived.ProofKit
import Derived.SizedLaws
import Derived.Deep.Slices
/-
  Contracts: is a fact in a list? What conversion leaves of valid arguments.
-/
namespace Go.Proofs.Ytoljknamnkkgcaa
open Go Go.VC
set_option maxHeartbeats 1000000
set_option maxRecDepth 100000

theorem cut_id {n : Nat} {f : Fa} (h : f.args.length ≤ n) : cut n f = f := by cases f; simp only [cut] at h ⊢; rw [List.take_of_length_le h]
theorem cut_small {n : Nat} {f : Fa} (hn : 2 < n) (h : (cut n f).args.length ≤ 2) : cut n f = f := cut_id (by simp [cut] at h; omega)
theorem ofRu_id {r : Ru} (h : RuleP (ofRu r)) : ofRu r = r := by
  obtain ⟨h1, h2, h3⟩ := h
  have hb : r.body.length ≤ 5 := by simp [ofRu] at h1; omega
  have ht : r.body.take 5 = r.body := List.take_of_length_le hb
  have hh := h3 (cut 5 r.head) (by simp [Ru.atoms, ofRu])
  obtain ⟨hd, bd⟩ := r
  simp only at ht hh hb
  have e1 : cut 5 hd = hd := cut_small (by omega) hh.2.2.2.1
  have e2 : bd.map cutL = bd := by
    have : ∀ b ∈ bd, cutL b = b := fun b hbm => by
      have := h3 (cut 5 b.a) (by simp [Ru.atoms, ofRu, ht]; exact .inr ⟨b, hbm, rfl⟩)
      cases b; simp only [cutL] at this ⊢; rw [cut_small (by omega) this.2.2.2.1]
    rw [List.map_congr_left this]; simp
  simp only [ofRu, ht, e1, e2]
theorem ofR_id {l : List Ru} {fs : List Fa} (h : ValidP (ofR l) fs) : ofR l = l := by
  have h1 := h.nl
  have hl : l.length ≤ 12 := by simp [ofR] at h1; omega
  have ht : l.take 12 = l := List.take_of_length_le hl
  have h2 := h.ru
  unfold ofR at h2 ⊢
  rw [ht] at h2 ⊢
  have : ∀ r ∈ l, ofRu r = r := fun r hr => ofRu_id (h2 _ (List.mem_map.2 ⟨r, hr, rfl⟩))
  rw [List.map_congr_left this]; simp
theorem factsC_id {l : List Ru} {fs : List Fa} (h : ValidP l (factsC fs)) : factsC fs = fs := by
  have h1 := h.nf
  have hl : fs.length ≤ 26 := by simp [factsC] at h1; omega
  have ht : fs.take 26 = fs := List.take_of_length_le hl
  have h2 := h.gr
  unfold factsC at h2 ⊢
  rw [ht] at h2 ⊢
  have : ∀ f ∈ fs, cut 9 f = f := fun f hf => cut_small (by omega) (h2 _ (List.mem_map.2 ⟨f, hf, rfl⟩)).2.2.2.1
  rw [List.map_congr_left this]; simp
theorem ru_of {r : Ru} (h : RuleP r) : ofRu r = r := by
  obtain ⟨h1, h2, h3⟩ := h
  obtain ⟨hd, bd⟩ := r
  simp only at h1
  have e1 : cut 5 hd = hd := cut_id (by have := (h3 hd (by simp [Ru.atoms])).2.2.2.1; omega)
  have e2 : bd.map cutL = bd := by
    have : ∀ b ∈ bd, cutL b = b := fun b hbm => by
      have := (h3 b.a (by simp [Ru.atoms]; exact .inr ⟨b, hbm, rfl⟩)).2.2.2.1
      cases b; simp only [cutL] at this ⊢; rw [cut_id (by omega)]
    rw [List.map_congr_left this]; simp
  simp only [ofRu, List.take_of_length_le (show bd.length ≤ 5 by omega), e1, e2]
/-- Valid arguments are handed on as they are. -/
theorem conv_id {l : List Ru} {fs : List Fa} (h : ValidP l fs) : ofR l = l ∧ factsC fs = fs := by
  refine ⟨?_, ?_⟩
  · have h1 := h.nl
    unfold ofR
    rw [List.take_of_length_le (by omega), List.map_congr_left (fun r hr => ru_of (h.ru r hr))]; simp
  · have h1 := h.nf
    unfold factsC
    rw [List.take_of_length_le (by omega), List.map_congr_left (fun f hf => cut_id (n := 9) (by have := (h.gr f hf).2.2.2.1; omega))]; simp
theorem conv_valid {l : List Ru} {fs : List Fa} : ValidP (ofR l) (factsC fs) ↔ ValidP l fs := by
  constructor
  · intro h
    have e1 := ofR_id h
    have e2 := factsC_id h
    rw [e1, e2] at h; exact h
  · intro h
    rw [(conv_id h).1, (conv_id h).2]; exact h
/-! ### within -/
theorem callable66 : callable Try.prog 66 = true := by kernel_rfl
theorem c24 {w : World} {s : Sl} {l : List DF} {f : DF} (hs : NF w s l) (hf : Ints w f.sl f.args) (hl : l.length ≤ big) (hfa : f.args.length ≤ big) :
    Calls Try.prog 24 [.slice s.a s.n s.c, .agg [.int .i64 f.rel, .slice f.sl.a f.sl.n f.sl.c].toArray].toArray w fun e w' => e = .returned (.bool (decide (f.p ∈ l.map DF.p))) ∧ Ext w w' := by
  refine (call24 s f.rel f.sl (R := fun v w' => v = .bool (decide (f.p ∈ l.map DF.p)) ∧ Ext w w') ?_).mono fun e w' ⟨v, he, hv, hx⟩ => ⟨by rw [he, hv], hx⟩
  obtain ⟨b1, x1⟩ := eF_cells w f 36
  refine Let.intro fun w1 e1 => ?_
  have e1 : w1 = w.alloc (.cells (eF f).toArray 36) := e1
  rw [← e1] at b1 x1
  have hn := hs.len
  generalize w.heap.size = q at b1 ⊢
  refine (call65 s 66 [.pointer (some ⟨q, 0, none⟩)] (R := fun v w' => v = .bool (decide (f.p ∈ l.map DF.p)) ∧ Ext w w') ?_).mono fun e w' ⟨v, he, hv, hx⟩ => ⟨_, by rw [he, hv], rfl, hx⟩
  refine (call91 s 66 [.pointer (some ⟨q, 0, none⟩)] (R := fun v w' => ∃ m : Int, v = .int .i64 m ∧ (0 ≤ m ↔ f.p ∈ l.map DF.p) ∧ Ext w w') ?_).mono fun e w' ⟨v, he, m, hv, hm, hx⟩ => ⟨m, by rw [he, hv], ?_, hx⟩
  rotate_left
  · congr 1; exact decide_eq_decide.2 hm
  refine Join.dir (rangeI (fun i w2 => f.p ∉ (l.take i).map DF.p ∧ Ext w1 w2) (by rw [hn]; exact hl) ⟨by simp, Fr.refl _ _⟩ ?_ ?_)
  · rintro i hi w2 ⟨hno, x2⟩ K hK
    have hi : i < l.length := by omega
    have x02 := x1.trans x2
    obtain ⟨p, hp, a1, a2, hr⟩ := Sli.at eF_len (hs.ext x02).sl hi
    have hint := (hs.ok _ (List.getElem_mem hi)).ext x02
    refine ⟨p, hp, a1, a2, _, _, hr, ?_⟩
    rw [callable66]
    show Calls Try.prog 66 _ w2 _
    refine (call66 (l[i]).rel (l[i]).sl ⟨q, 0⟩ (R := fun v w' => v = .bool (decide (f.p = (l[i]).p)) ∧ Ext w2 w') ?_).mono fun e w4 ⟨v, he, hv, x4⟩ => ⟨decide (f.p = (l[i]).p), by rw [he, hv], cond_intro (fun hc => ?_) (fun hc => ?_)⟩
    · obtain ⟨b3, x3⟩ := eF_cells w2 l[i] 36
      refine Let.intro fun w3 e3 => ?_
      have e3 : w3 = w2.alloc (.cells (eF l[i]).toArray 36) := e3
      rw [← e3] at b3 x3
      have bq := (b1.ext x2).ext x3
      refine Join.dir ⟨_, bq.cell 0, _, b3.cell 0, cond_intro (fun g => ?_) (fun g => ?_)⟩
      · have g : f.rel = (l[i]).rel := by simpa using g
        refine ⟨_, bq.cell 1, _, b3.cell 1, (c32 ((hf.ext x02).ext x3) (hint.ext x3) hfa).mono fun e w5 ⟨he, x5⟩ => ⟨_, he, ?_, x3.trans x5⟩⟩
        congr 1
        apply decide_eq_decide.2
        simp [DF.p, g]
      · have g : ¬ f.rel = (l[i]).rel := by simpa using g
        exact ⟨by simp [DF.p, g], x3⟩
    · have hc : f.p = (l[i]).p := by simpa using hc
      refine ⟨(i : Int), rfl, ?_, x02.trans x4⟩
      simp only [show (0 : Int) ≤ (i : Int) by omega, true_iff]
      exact List.mem_map.2 ⟨_, List.getElem_mem hi, hc.symm⟩
    · have hc : ¬ f.p = (l[i]).p := by simpa using hc
      refine hK _ ⟨?_, x2.trans x4⟩
      rw [List.take_succ_eq_append_getElem hi, List.map_append, List.mem_append]
      rintro (h | h)
      · exact hno h
      · simp only [List.map_cons, List.map_nil, List.mem_singleton] at h; exact hc h
  · rintro w2 ⟨hno, x2⟩
    rw [hn, List.take_length] at hno
    refine ⟨-1, rfl, ?_, x1.trans x2⟩
    simp [hno]
end Go.Proofs.Ytoljknamnkkgcaa
/-
  Printed by a program of this session (wip/tools/vcprint.py): of each Go function the shallow form, and that the calculus comes to it, by the kernel.
-/
namespace Go.Proofs.Ytoljknamnkkgcaa
open Go Go.VC
set_option maxRecDepth 100000

/-- F9: cubeb/cubeblaw03.RulesEnough -/
def An9 : An := (.sq .lf (.sq (.dr [0, 2, 4, 1, 3, 5, 6, 7, 8, 9, 10, 11] [5] true none) (.sq (.sq (.rj [] [(33, .bool)]) (.cd (.sq (.rj [] [(8, .bool)]) .lf) .lf)) (.sq .lf (.sq (.sq .lf (.bk [(11, .slice)] (.lp [(11, .slice), (45, .int .i64)] (.sq .lf (.sq (.cd .lf .lf) (.sq (.bk [(11, .slice)] (.sq .lf (.sq .lf (.cj [(11, .slice)] .lf .lf)))) .lf)))))) (.sq .lf (.sq .lf (.sq (.rj [] [(8, .bool)]) .lf))))))))
def S9 (s0 : Sl) (s1 : Sl) (x2_0 : Int) (s2_1 : Sl) (x3 : Int) (R : Value → World → Prop) (w : World) : Prop :=
  Let (w.alloc (.cells [(.int .i64 x2_0), (.slice s2_1.a s2_1.n s2_1.c)].toArray 36)) fun w1 => 
  Let (w1.alloc (.cells [(.int .i64 x3)].toArray 3)) fun w2 => 
  ∃ S1 : World → Prop, S1 w2.drew ∧ Let w2.drew fun w3 =>
  ∃ x21_0 : Int, ∃ s21_1 : Sl, (∀ u, S1 u → rd u w.heap.size 0 [(.int .i64 x21_0), (.slice s21_1.a s21_1.n s21_1.c)]) ∧ Calls Try.prog 17 [(.slice s0.a s0.n s0.c)].toArray w3 (fun e w4 => ∃ s18 : Sl, e = .returned (.slice s18.a s18.n s18.c) ∧
  S1 w4 ∧ Calls Try.prog 18 [(.slice s1.a s1.n s1.c)].toArray w4 (fun e_2 w5 => ∃ s20 : Sl, e_2 = .returned (.slice s20.a s20.n s20.c) ∧
  S1 w5 ∧ Calls Try.prog 23 [(.agg [(.int .i64 x21_0), (.slice s21_1.a s21_1.n s21_1.c)].toArray)].toArray w5 (fun e_3 w6 => ∃ x22_0 : Int, ∃ s22_1 : Sl, e_3 = .returned (.agg [(.int .i64 x22_0), (.slice s22_1.a s22_1.n s22_1.c)].toArray) ∧
  Calls Try.prog 30 [(.slice s18.a s18.n s18.c), (.slice s20.a s20.n s20.c), (.agg [(.int .i64 x22_0), (.slice s22_1.a s22_1.n s22_1.c)].toArray)].toArray w6 (fun e_4 w7 => ∃ s23_0 : Sl, ∃ x23_1 : Int, e_4 = .returned (.tuple [(.slice s23_0.a s23_0.n s23_0.c), (.int .i64 x23_1)].toArray) ∧
  S1 w7 ∧ Join [(33, .bool)] (fun (b33 : Bool) (w8 : World) => cond b33 (
  Join [(8, .bool)] (fun (b8 : Bool) (w9 : World) => R (.bool b8) w9) (fun J =>
  cond (x23_1 == (2 : Int)) (Calls Try.prog 20 [].toArray w8 (fun e_5 w10 => ∃ b41 : Bool, e_5 = .returned (.bool b41) ∧
  J b41 w10)) (cond (x23_1 == (3 : Int)) (Calls Try.prog 20 [].toArray w8 (fun e_6 w11 => ∃ b41_2 : Bool, e_6 = .returned (.bool b41_2) ∧
  J b41_2 w11)) (J false w8)))) (
  Join [(11, .slice)] (fun (s11 : Sl) (w12 : World) => Calls Try.prog 17 [(.slice s0.a s0.n s0.c)].toArray w12 (fun e_7 w13 => ∃ s62 : Sl, e_7 = .returned (.slice s62.a s62.n s62.c) ∧
  Calls Try.prog 18 [(.slice s11.a s11.n s11.c)].toArray w13 (fun e_8 w14 => ∃ s64 : Sl, e_8 = .returned (.slice s64.a s64.n s64.c) ∧
  Calls Try.prog 16 [(.slice s62.a s62.n s62.c), (.slice s64.a s64.n s64.c)].toArray w14 (fun e_9 w15 => ∃ s65_0 : Sl, ∃ x65_1 : Int, e_9 = .returned (.tuple [(.slice s65_0.a s65_0.n s65_0.c), (.int .i64 x65_1)].toArray) ∧
  Calls Try.prog 34 [(.slice s23_0.a s23_0.n s23_0.c), (.func (.func 35) #[] [(.pointer (some ⟨w1.heap.size, 0, none⟩))].toArray)].toArray w15 (fun e_10 w16 => ∃ b70 : Bool, e_10 = .returned (.bool b70) ∧
  Join [(8, .bool)] (fun (b8_2 : Bool) (w17 : World) => R (.bool b8_2) w17) (fun J_2 =>
  cond (x65_1 == (0 : Int)) (∃ x76_0 : Int, ∃ s76_1 : Sl, rd w16 w.heap.size 0 [(.int .i64 x76_0), (.slice s76_1.a s76_1.n s76_1.c)] ∧ Calls Try.prog 24 [(.slice s65_0.a s65_0.n s65_0.c), (.agg [(.int .i64 x76_0), (.slice s76_1.a s76_1.n s76_1.c)].toArray)].toArray w16 (fun e_11 w18 => ∃ b77 : Bool, e_11 = .returned (.bool b77) ∧
  cond (b70 == b77) (Calls Try.prog 20 [].toArray w18 (fun e_12 w19 => ∃ b81 : Bool, e_12 = .returned (.bool b81) ∧
  J_2 b81 w19)) (J_2 false w18))) (J_2 false w16))))))) (fun J_3 =>
  LoopV [(11, .slice), (45, .int .i64)] (fun K => K ⟨none, 0, 0⟩ (0 : Int) w8) (fun N => fun (s11_2 : Sl) (x45 : Int) (w20 : World) =>
  cond (decide (x45 < ((s1.n : Nat) : Int))) (
  Join [(11, .slice)] (fun (s11_3 : Sl) (w21 : World) => N ⟨s11_3.a, s11_3.n, s11_3.c⟩ (IntKind.wrap .i64 (x45 + (1 : Int))) w21) (fun J_4 =>
  ∃ p48 : Pt, s1.a = some ⟨p48.b, p48.o, none⟩ ∧ 0 ≤ x45 ∧ x45 < ((s1.n : Nat) : Int) ∧ ∃ x49_0 : Int, ∃ s49_1 : Sl, rd w20 p48.b (p48.o + Int.toNat x45 * 2) [(.int .i64 x49_0), (.slice s49_1.a s49_1.n s49_1.c)] ∧ Let (w20.alloc (.cells (zc Try.prog 36) 36)) fun w22 => 
  StoreOk w22 w20.heap.size 0 [(.int .i64 x49_0), (.slice s49_1.a s49_1.n s49_1.c)] 2 ∧ Let (put w22 w20.heap.size 0 [(.int .i64 x49_0), (.slice s49_1.a s49_1.n s49_1.c)]) fun w23 => 
  ∃ x50 : Int, World.cell? w23 ⟨w1.heap.size, 0, none⟩ = some (.int .i64 x50) ∧ 0 ≤ x45 ∧ Join [(11, .slice)] (fun (s11_4 : Sl) (w24 : World) => J_4 ⟨s11_4.a, s11_4.n, s11_4.c⟩ w24) (fun J_5 =>
  cond ((bitsI .and .i64 (Int.fdiv x50 (2 ^ (min (Int.toNat x45) (IntKind.bits .i64)))) (1 : Int)) == (1 : Int)) (
  ∃ x56_0 : Int, ∃ s56_1 : Sl, rd w23 w20.heap.size 0 [(.int .i64 x56_0), (.slice s56_1.a s56_1.n s56_1.c)] ∧ ∃ (s57 : Sl) (w25 : World), Sem.run Try.prog (Instr.buildSlice 23 1 [(0, (.agg [(.int .i64 x56_0), (.slice s56_1.a s56_1.n s56_1.c)].toArray))].toArray) w23 = .ok (.slice s57.a s57.n s57.c) w25 ∧
  ∃ (s58 : Sl) (w26 : World), Sem.run Try.prog (Builtin.append_ #[23, 23] 23 #[(.slice s11_2.a s11_2.n s11_2.c), (.slice s57.a s57.n s57.c)]) w25 = .ok (.slice s58.a s58.n s58.c) w26 ∧
  J_5 ⟨s58.a, s58.n, s58.c⟩ w26) (
  J_5 ⟨s11_2.a, s11_2.n, s11_2.c⟩ w23)))) (
  J_3 ⟨s11_2.a, s11_2.n, s11_2.c⟩ w20))))) (fun J_6 =>
  cond (x23_1 != (0 : Int)) (J_6 true w7) (Calls Try.prog 22 [(.slice s0.a s0.n s0.c), (.slice s1.a s1.n s1.c)].toArray w7 (fun e_13 w27 => ∃ b31 : Bool, e_13 = .returned (.bool b31) ∧
  J_6 (!b31) w27)))))))
theorem eq9 (s0 : Sl) (s1 : Sl) (x2_0 : Int) (s2_1 : Sl) (x3 : Int) (R : Value → World → Prop) (w : World) : funV Try.prog Try.f9 An9 [(.slice s0.a s0.n s0.c), (.slice s1.a s1.n s1.c), (.agg [(.int .i64 x2_0), (.slice s2_1.a s2_1.n s2_1.c)].toArray), (.int .i64 x3)] R w = S9 s0 s1 x2_0 s2_1 x3 R w := by kernel_rfl
theorem call9 (s0 : Sl) (s1 : Sl) (x2_0 : Int) (s2_1 : Sl) (x3 : Int) {R : Value → World → Prop} {w : World} (h : S9 s0 s1 x2_0 s2_1 x3 R w) : Calls Try.prog 9 [(.slice s0.a s0.n s0.c), (.slice s1.a s1.n s1.c), (.agg [(.int .i64 x2_0), (.slice s2_1.a s2_1.n s2_1.c)].toArray), (.int .i64 x3)].toArray w fun e w' => ∃ v, e = .returned v ∧ R v w' :=
  funV_calls mixed Try.func9 (an := An9) (by rw [eq9]; exact h)

end Go.Proofs.Ytoljknamnkkgcaa
/-
  Contract: the law RulesEnough.
-/
namespace Go.Proofs.Ytoljknamnkkgcaa
open Go Go.VC
set_option maxHeartbeats 1000000
set_option maxRecDepth 100000

theorem bitI_test (x : Int) (i : Nat) : bitI x i = ((x % 18446744073709551616).toNat).testBit i := by
  rw [bitI_eq, Nat.testBit_eq_decide_div_mod_eq]
theorem sub_valid {l : List Ru} {fs gs : List Fa} (h : ValidP l fs) (hl : gs.length ≤ fs.length) (hs : ∀ f ∈ gs, f ∈ fs) : ValidP l gs := by
  refine ⟨h.nl, Nat.le_trans hl h.nf, fun f hf => h.gr f (hs f hf), h.ru, fun x hx y hy e => h.co x ?_ y ?_ e⟩
  · rcases List.mem_append.1 hx with hx | hx
    · exact List.mem_append_left _ (hs x hx)
    · exact List.mem_append_right _ hx
  · rcases List.mem_append.1 hy with hy | hy
    · exact List.mem_append_left _ (hs y hy)
    · exact List.mem_append_right _ hy
theorem subF_len (x : Int) (fs : List Fa) : (subF x fs).length ≤ fs.length := by
  unfold subF
  rw [List.length_map]
  exact Nat.le_trans (List.length_filter_le _ _) (by simp)
/-- The sources tell which sets are enough. -/
theorem srcs_enough {l : List Ru} {fs : List Fa} {k : Ky} (hn : fs.length ≤ 10) {out : List Nat}
    (h : (¬ En' l fs k ((2 ^ fs.length - 1 : Nat) : Int) ∧ out = []) ∨ (En' l fs k ((2 ^ fs.length - 1 : Nat) : Int) ∧ out = srcs (fun n => En' l fs k (n : Int)) (2 ^ fs.length))) (x : Int) :
    (∃ n ∈ out, ∀ i, n.testBit i = true → bitI x i = true) ↔ En' l fs k x := by
  have hpw : 2 ^ fs.length ≤ 1024 := Nat.pow_le_pow_right (n := 2) (by omega) hn
  have hpw0 : 0 < 2 ^ fs.length := Nat.pow_pos (by omega)
  rcases h with ⟨hno, rfl⟩ | ⟨_, rfl⟩
  · refine ⟨fun ⟨n, hn, _⟩ => (by cases hn), fun hx => absurd (hx.mono fun i hi _ => ?_) hno⟩
    rw [bitI_nat (by omega), Nat.testBit_two_pow_sub_one]
    simpa using hi
  · constructor
    · rintro ⟨n, hn, hs⟩
      obtain ⟨hE, hlt⟩ := srcs_sound _ n hn
      have hE : En' l fs k (n : Int) := hE
      exact hE.mono fun i _ hi => hs i (by rw [bitI_nat (by omega)] at hi; exact hi)
    · intro hx
      generalize hm : (x % 18446744073709551616).toNat % 2 ^ fs.length = m
      have hlt : m < 2 ^ fs.length := by rw [← hm]; exact Nat.mod_lt _ hpw0
      have hbit : ∀ i, m.testBit i = (decide (i < fs.length) && bitI x i) := fun i => by rw [← hm, Nat.testBit_mod_two_pow, bitI_test]
      have hEm : En' l fs k (m : Int) := hx.mono fun i hi hb => by rw [bitI_nat (by omega), hbit, hb]; simpa using hi
      obtain ⟨n, hn, hs⟩ := srcs_all (E := fun n => En' l fs k (n : Int)) hEm _ hlt
      refine ⟨n, hn, fun i hi => ?_⟩
      have := hs i hi
      rw [hbit, Bool.and_eq_true] at this
      exact this.2
theorem callable35 : callable Try.prog 35 = true := by kernel_rfl
theorem c35 {w : World} {q : Nat} {y x : Int} (hq : Blk w q [.int .i64 y] 3) :
    Calls Try.prog 35 (([.int .i64 x] : List Value) ++ ([.pointer (some ⟨q, 0, none⟩)] : List Value)).toArray w fun e w' => e = .returned (.bool (bitsI .andNot .i64 x y == (0 : Int))) ∧ Ext w w' :=
  (call35 x ⟨q, 0⟩ (R := fun v w' => v = .bool (bitsI .andNot .i64 x y == (0 : Int)) ∧ Ext w w') ⟨y, hq.cell 0, rfl, Fr.refl _ _⟩).mono fun e w' ⟨v, he, hv, hx⟩ => ⟨by rw [he, hv], hx⟩
theorem any_bits {out : List Nat} {y : Int} (hlt : ∀ n ∈ out, n < 18446744073709551616) : (out.map cI).any (fun x => bitsI .andNot .i64 x y == (0 : Int)) = true ↔ ∃ n ∈ out, ∀ i, n.testBit i = true → bitI y i = true := by
  rw [List.any_eq_true]
  constructor
  · rintro ⟨x, hx, h⟩
    obtain ⟨n, hn, rfl⟩ := List.mem_map.1 hx
    refine ⟨n, hn, fun j hj => (bitI_andNot _ _).1 h j ?_⟩
    show bitI ((n : Nat) : Int) j = true
    rw [bitI_nat (hlt n hn)]; exact hj
  · rintro ⟨n, hn, h⟩
    refine ⟨cI n, List.mem_map.2 ⟨n, hn, rfl⟩, (bitI_andNot _ _).2 fun j hj => ?_⟩
    have hj : bitI ((n : Nat) : Int) j = true := hj
    rw [bitI_nat (hlt n hn)] at hj
    exact h j hj
theorem c9 {w : World} {s s' : Sl} {l : List DR} {fs : List DF} {f : DF} (hs : NR w s l) (hf : NF w s' fs) (hl : l.length ≤ big) (hb : ∀ r ∈ l, r.body.length ≤ big) (hfl : fs.length ≤ big) (ha : ∀ r ∈ l, ∀ x ∈ r.atoms, x.args.length ≤ big) (hfa : ∀ x ∈ fs, x.args.length ≤ big)
    (hx : Ints w f.sl f.args) (hxl : f.args.length ≤ big) (x3 : Int) :
    Calls Try.prog 9 [.slice s.a s.n s.c, .slice s'.a s'.n s'.c, .agg [.int .i64 f.rel, .slice f.sl.a f.sl.n f.sl.c].toArray, .int .i64 x3].toArray w fun e w' => e = .returned (.bool true) ∧ Ext w w' := by
  refine (call9 s s' f.rel f.sl x3 (R := fun v w' => v = .bool true ∧ Ext w w') ?_).mono fun e w' ⟨v, he, hv, hx⟩ => ⟨by rw [he, hv], hx⟩
  have hfn := hf.len
  obtain ⟨b1, x1⟩ := eF_cells w f 36
  refine Let.intro fun w1 e1 => ?_
  have e1 : w1 = w.alloc (.cells (eF f).toArray 36) := e1
  rw [← e1] at b1 x1
  refine Let.intro fun w2 e2 => ?_
  have b2 : Blk w2 w1.heap.size [.int .i64 x3] 3 := by rw [e2]; exact Blk.alloc w1 [.int .i64 x3] 3
  have x2 : Ext w1 w2 := by rw [e2]; exact Ext.alloc ..
  have b1 := b1.ext x2
  have x02 := x1.trans x2
  refine ⟨fun u => Ext w2 u, Ext.drew _, Let.intro fun w3 e3 => ?_⟩
  have x3' : Ext w2 w3 := by rw [e3]; exact Ext.drew _
  have x03 := x02.trans x3'
  refine ⟨f.rel, f.sl, fun u hu => (b1.ext hu).rd, ?_⟩
  refine (c17 (hs.ext x03) hl hb).mono fun e w4 ⟨s18, L, he, hL, hLp, x4⟩ => ⟨s18, he, x3'.trans x4, ?_⟩
  have x04 := x03.trans x4
  refine (c18 (hf.ext x04) hfl).mono fun e w5 ⟨s20, F, he, hFo, hFt, hFp, x5⟩ => ⟨s20, he, (x3'.trans x4).trans x5, ?_⟩
  have hF : NF w5 s20 F := ⟨hFo.sli, fun x hx => (hFt x hx).i⟩
  have x05 := x04.trans x5
  obtain ⟨hL12, hLz⟩ := of_sz hLp
  obtain ⟨hF26, hFz⟩ := facts_sz hFp
  refine (c23 (hx.ext x05)).mono fun e w6 ⟨y, he, hyp, hyt, _, x6⟩ => ⟨y.rel, y.sl, he, ?_⟩
  have x06 := x05.trans x6
  have hyl : y.args.length ≤ 5 := by
    have : y.p.args.length ≤ 5 := by rw [hyp]; exact cut_len 5 f.p
    exact this
  refine (c30 (f := y) ((hL.ext x5).ext x6) (hF.ext x6) hyt.i (by omega) (by omega) hLz (fun f hf => by have := hFz f hf; omega) (by show y.args.length ≤ 9223372036854775807; omega)).mono fun e w7 ⟨s23, x23, out, he, hout, hcase, x7⟩ => ⟨s23, x23, he, ((((x3'.trans x4).trans x5).trans x6).trans x7), ?_⟩
  have x07 := x06.trans x7
  have x27 := ((((x3'.trans x4).trans x5).trans x6).trans x7)
  have hconv : ValidP (L.map DR.p) (F.map DF.p) ↔ ValidP (l.map DR.p) (fs.map DF.p) := by rw [hLp, hFp]; exact conv_valid
  rw [hconv] at hcase
  refine ⟨fun (b33 : Bool) w8 => (b33 = false ↔ (x23 = 0 ∧ ValidP (l.map DR.p) (fs.map DF.p))) ∧ Ext w7 w8, ?_, ?_⟩
  rotate_left
  · refine cond_intro (fun g => ?_) (fun g => ?_)
    · have g : ¬ x23 = 0 := by simpa using g
      exact ⟨⟨(fun h => by cases h), fun h => absurd h.1 g⟩, Fr.refl _ _⟩
    · have g : x23 = 0 := by simpa using g
      refine (c22 (hs.ext x07) (hf.ext x07) hl hfl hb ha hfa).mono fun e w27 ⟨b31, he, hb31, x27'⟩ => ⟨b31, he, ?_, x27'⟩
      constructor
      · intro h; exact ⟨g, hb31.1 (by simpa using h)⟩
      · intro h; rw [hb31.2 h.2]; rfl
  rintro b33 w8 ⟨hb33, x8⟩
  have x08 := x07.trans x8
  have x28 := x27.trans x8
  refine cond_intro (fun g => ?_) (fun g => ?_)
  · subst g
    have hno : ¬ (x23 = 0 ∧ ValidP (l.map DR.p) (fs.map DF.p)) := fun h => by have := hb33.2 h; cases this
    have haw := (c20 w8).mono (R' := fun e w' => ∃ b : Bool, e = .returned (.bool b) ∧ (Value.bool b = .bool true ∧ Ext w w')) fun e w6 ⟨he, x6⟩ => ⟨_, he, rfl, x08.trans x6⟩
    refine Join.dir (cond_intro (fun _ => haw) (fun g1 => cond_intro (fun _ => haw) (fun g2 => ?_)))
    rcases hcase with ⟨_, h, _⟩ | ⟨_, _, h, _⟩ | ⟨⟨hv, _⟩, _, h, _⟩
    · subst h; simp at g1
    · subst h; simp at g2
    · exact absurd ⟨h, hv⟩ hno
  obtain ⟨h0, hv⟩ := hb33.1 g
  obtain ⟨eL, eF⟩ := conv_id hv
  rw [eL] at hLp
  rw [eF] at hFp
  rcases hcase with ⟨_, h, _⟩ | ⟨_, _, h, _⟩ | ⟨⟨_, hyg, hpl⟩, hf10, _, hout2⟩
  · omega
  · omega
  rw [hLp] at hpl
  have hFl : F.length = fs.length := by have := congrArg List.length hFp; simpa using this
  have hcut : cut 5 f.p = f.p := cut_small (by omega) (by rw [← hyp]; exact hyg.2.2.2.1)
  rw [hcut] at hyp
  rw [hyp] at hyg hout2
  rw [hLp, hFp] at hout2
  have hfl10 : (fs.map DF.p).length ≤ 10 := by simp; omega
  have hFl2 : F.length = (fs.map DF.p).length := by simp [hFl]
  rw [hFl2] at hout2
  have hen := srcs_enough hfl10 hout2 x3
  have hlt : ∀ n ∈ out, n < 18446744073709551616 := fun n hn => by
    have hpw : 2 ^ (fs.map DF.p).length ≤ 1024 := Nat.pow_le_pow_right (n := 2) (by omega) hfl10
    rcases hout2 with ⟨_, rfl⟩ | ⟨_, rfl⟩
    · cases hn
    · have := (srcs_sound _ n hn).2; omega
  have hol : out.length ≤ 1024 := by
    have hpw : 2 ^ (fs.map DF.p).length ≤ 1024 := Nat.pow_le_pow_right (n := 2) (by omega) hfl10
    rcases hout2 with ⟨_, rfl⟩ | ⟨_, rfl⟩
    · simp
    · have := srcs_len (E := fun n => En' (l.map DR.p) (fs.map DF.p) f.p.k (n : Int)) (2 ^ (fs.map DF.p).length); omega
  refine ⟨fun s11 w12 => ∃ S : List DF, Own 36 2 Ytoljknamnkkgcaa.eF w8.heap.size w12 s11 S ∧ (∀ x ∈ S, x ∈ fs) ∧ S.map DF.p = subF x3 (fs.map DF.p) ∧ Ext w8 w12, ?_, ?_⟩
  rotate_left
  · refine rangeSI (fun i (s11 : Sl) w20 => ∃ S : List DF, Own 36 2 Ytoljknamnkkgcaa.eF w8.heap.size w20 s11 S ∧ (∀ x ∈ S, x ∈ fs) ∧ S.map DF.p = subF x3 ((fs.take i).map DF.p) ∧ Ext w8 w20) (by rw [hfn]; show fs.length ≤ 9223372036854775807; omega) ⟨[], Own.nil .., by simp, by simp [subF], Fr.refl _ _⟩ ?_ ?_
    rotate_left
    · rintro s11 w20 ⟨S, h1, h2, h3, h4⟩
      rw [hfn, List.take_length] at h3
      exact ⟨S, h1, h2, h3, h4⟩
    rintro i hi s11 w20 ⟨S, ho, hmem, hSp, x20⟩ K hK
    have hi : i < fs.length := by omega
    refine loadF (hf.ext (x08.trans x20)) hi zc36 fun w23 b23 x23' => ⟨_, (b2.ext ((x28.trans x20).trans x23')).cell 0, by omega, Join.dir ?_⟩
    have hti : (fs.take (i + 1)).map DF.p = (fs.take i).map DF.p ++ [(fs[i]).p] := by rw [List.take_succ_eq_append_getElem hi, List.map_append]; rfl
    have hlen : ((fs.take i).map DF.p).length = i := by simp; omega
    have hsn := subF_snoc x3 ((fs.take i).map DF.p) (fs[i]).p
    rw [← hti, hlen] at hsn
    have hSl : S.length ≤ 10 := by
      have h1 := congrArg List.length hSp
      have h2 := subF_len x3 ((fs.take i).map DF.p)
      simp only [List.length_map, List.length_take] at h1 h2; omega
    have hm := List.getElem_mem hi
    have eb : Int.toNat (i : Int) = i := by omega
    rw [eb, bitI_and x3 (by omega)]
    refine cond_intro (fun g => ?_) (fun g => ?_)
    · rw [if_pos g] at hsn
      refine ⟨_, _, b23.rd, ?_⟩
      obtain ⟨s57, w25, hb57, s58, w26, hr58, ho26, hf26⟩ := appendOne E23 (ho.ext x23') (x := fs[i]) (v := .agg [.int .i64 (fs[i]).rel, .slice (fs[i]).sl.a (fs[i]).sl.n (fs[i]).sl.c].toArray) rfl eF_len eF_one (by omega) (by omega) (by simp only [maxLen]; omega) (by have := x20.size; have := x23'.size; omega) 23
      refine ⟨s57, w25, hb57, s58, w26, hr58, hK _ _ ⟨S ++ [fs[i]], ho26, fun z hz => ?_, by rw [List.map_append, hSp, hsn]; rfl, (x20.trans x23').newer hf26 fun q ⟨a, ha, e⟩ => by have := (ho.base ha).1; omega⟩⟩
      rcases List.mem_append.1 hz with hz | hz
      · exact hmem z hz
      · simp only [List.mem_singleton] at hz; subst hz; exact hm
    · rw [if_neg (by rw [g]; simp), List.append_nil] at hsn
      exact hK _ _ ⟨S, ho.ext x23', hmem, by rw [hSp, hsn], x20.trans x23'⟩
  rintro s11 w12 ⟨S, ho, hmem, hSp, x12⟩
  have x012 := x08.trans x12
  have hS : NF w12 s11 S := ⟨ho.sli, fun x hx => (hf.ok x (hmem x hx)).ext x012⟩
  have hvS : ValidP (l.map DR.p) (S.map DF.p) := by rw [hSp]; exact sub_valid hv (subF_len _ _) subF_sub
  have hSl : S.length ≤ 20 := by have := hvS.nf; simpa using this
  refine (c17 (hs.ext x012) hl hb).mono fun e w13 ⟨s62, L2, he, hL2, hLp2, x13⟩ => ⟨s62, he, ?_⟩
  refine (c18 (hS.ext x13) (by show S.length ≤ 9223372036854775807; omega)).mono fun e w14 ⟨s64, F2, he, hFo2, hFt2, hFp2, x14⟩ => ⟨s64, he, ?_⟩
  have hF2 : NF w14 s64 F2 := ⟨hFo2.sli, fun x hx => (hFt2 x hx).i⟩
  obtain ⟨hL12', hLz'⟩ := of_sz hLp2
  obtain ⟨hF26', hFz'⟩ := facts_sz hFp2
  obtain ⟨eL2, eF2⟩ := conv_id hvS
  rw [eL2] at hLp2
  rw [eF2] at hFp2
  have x014 := (x012.trans x13).trans x14
  refine (c16 (hL2.ext x14) hF2 (by omega) (by omega) hLz' (fun f hf => by have := hFz' f hf; omega)).mono fun e w15 ⟨s65, x65, M, he, hM, hMn, hcase2, x15⟩ => ⟨s65, x65, he, ?_⟩
  rw [hLp2, hFp2] at hcase2
  rcases hcase2 with ⟨h, _⟩ | ⟨_, h, _⟩ | ⟨_, t, ht, rfl, hMl⟩
  · exact absurd hvS h
  · exact absurd ⟨_, plain_str hpl⟩ h
  have := ht.uniq (plain_str hpl)
  subst this
  have x015 := x014.trans x15
  have x815 := ((x12.trans x13).trans x14).trans x15
  have hq := b2.ext (x28.trans x815)
  refine (c34 (p := fun x => bitsI .andNot .i64 x x3 == (0 : Int)) callable35 (hout.ext (x8.trans x815)) (by show (out.map cI).length ≤ 9223372036854775807; simp; omega) (fun w' x x' => c35 (hq.ext x'))).mono fun e w16 ⟨he, x16⟩ => ⟨_, he, ?_⟩
  have x016 := x015.trans x16
  refine Join.dir (cond_intro (fun _ => ?_) (fun h => by simp at h))
  refine ⟨f.rel, f.sl, (b1.ext ((x28.trans x815).trans x16)).rd, ?_⟩
  refine (c24 (hM.ext x16) (hx.ext x016) (by show M.length ≤ 9223372036854775807; omega) hxl).mono fun e w18 ⟨he, x18⟩ => ⟨_, he, ?_⟩
  have hkey : f.p ∈ M.map DF.p ↔ En' (l.map DR.p) (fs.map DF.p) f.p.k x3 := by
    rw [hMl.mem]
    have hcl := fun k => Mdl_plain hpl (fun _ => False) (giv (S.map DF.p)) k
    unfold En'
    rw [← hSp]
    constructor
    · rintro ⟨k, hk, e⟩
      rw [← e, Ky.fk]; exact (hcl k).1 hk
    · intro h
      exact ⟨f.p.k, (hcl _).2 h, hyg.kf⟩
  have heq : ((out.map cI).any fun x => bitsI .andNot .i64 x x3 == (0 : Int)) = decide (f.p ∈ M.map DF.p) := by
    have h1 := any_bits (y := x3) hlt
    have h2 := h1.trans (hen.trans hkey.symm)
    cases h3 : ((out.map cI).any fun x => bitsI .andNot .i64 x x3 == (0 : Int)) with
    | true => rw [h3] at h2; simpa using h2.1 rfl
    | false =>
      rw [h3] at h2
      simp only [Bool.false_eq_true, false_iff] at h2
      simp [h2]
  refine cond_intro (fun _ => ?_) (fun h => by rw [heq] at h; simp at h)
  exact (c20 w18).mono fun e w19 ⟨he, x19⟩ => ⟨_, he, rfl, (x016.trans x18).trans x19⟩
end Go.Proofs.Ytoljknamnkkgcaa
/-
  Printed by a program of this session (wip/tools/vcprint.py): of each Go function the shallow form, and that the calculus comes to it, by the kernel.
-/
namespace Go.Proofs.Ytoljknamnkkgcaa
open Go Go.VC
set_option maxRecDepth 100000

/-- F8: cubeb/cubeblaw03.RulesSources -/
def An8 : An := (.sq .lf (.sq (.dr [0, 2, 4, 1, 3, 5, 6, 7, 8, 9, 10, 11] [5] true none) (.sq (.bk [] (.sq (.rj [] [(19, .bool)]) (.cd (.sq (.rj [] [(6, .bool)]) .lf) (.sq .lf (.cd (.sq (.rj [] [(6, .bool)]) .lf) .lf))))) (.sq (.rj [] [(6, .bool)]) .lf))))
def S8 (s0 : Sl) (s1 : Sl) (x2_0 : Int) (s2_1 : Sl) (R : Value → World → Prop) (w : World) : Prop :=
  Let (w.alloc (.cells [(.int .i64 x2_0), (.slice s2_1.a s2_1.n s2_1.c)].toArray 36)) fun w1 => 
  ∃ S1 : World → Prop, S1 w1.drew ∧ Let w1.drew fun w2 =>
  ∃ x14_0 : Int, ∃ s14_1 : Sl, (∀ u, S1 u → rd u w.heap.size 0 [(.int .i64 x14_0), (.slice s14_1.a s14_1.n s14_1.c)]) ∧ Calls Try.prog 17 [(.slice s0.a s0.n s0.c)].toArray w2 (fun e w3 => ∃ s11 : Sl, e = .returned (.slice s11.a s11.n s11.c) ∧
  S1 w3 ∧ Calls Try.prog 18 [(.slice s1.a s1.n s1.c)].toArray w3 (fun e_2 w4 => ∃ s13 : Sl, e_2 = .returned (.slice s13.a s13.n s13.c) ∧
  S1 w4 ∧ Calls Try.prog 23 [(.agg [(.int .i64 x14_0), (.slice s14_1.a s14_1.n s14_1.c)].toArray)].toArray w4 (fun e_3 w5 => ∃ x15_0 : Int, ∃ s15_1 : Sl, e_3 = .returned (.agg [(.int .i64 x15_0), (.slice s15_1.a s15_1.n s15_1.c)].toArray) ∧
  Calls Try.prog 30 [(.slice s11.a s11.n s11.c), (.slice s13.a s13.n s13.c), (.agg [(.int .i64 x15_0), (.slice s15_1.a s15_1.n s15_1.c)].toArray)].toArray w5 (fun e_4 w6 => ∃ s16_0 : Sl, ∃ x16_1 : Int, e_4 = .returned (.tuple [(.slice s16_0.a s16_0.n s16_0.c), (.int .i64 x16_1)].toArray) ∧
  S1 w6 ∧ Join [] (fun (w7 : World) => Join [(6, .bool)] (fun (b6 : Bool) (w8 : World) => R (.bool b6) w8) (fun J =>
  ∃ x61_0 : Int, ∃ s61_1 : Sl, rd w7 w.heap.size 0 [(.int .i64 x61_0), (.slice s61_1.a s61_1.n s61_1.c)] ∧ Calls Try.prog 33 [(.slice s0.a s0.n s0.c), (.slice s1.a s1.n s1.c), (.agg [(.int .i64 x61_0), (.slice s61_1.a s61_1.n s61_1.c)].toArray)].toArray w7 (fun e_5 w9 => ∃ s62 : Sl, e_5 = .returned (.slice s62.a s62.n s62.c) ∧
  Calls Try.prog 32 [(.slice s16_0.a s16_0.n s16_0.c), (.slice s62.a s62.n s62.c)].toArray w9 (fun e_6 w10 => ∃ b63 : Bool, e_6 = .returned (.bool b63) ∧
  cond b63 (cond (x16_1 == (0 : Int)) (Calls Try.prog 20 [].toArray w10 (fun e_7 w11 => ∃ b69 : Bool, e_7 = .returned (.bool b69) ∧
  J b69 w11)) (J false w10)) (J false w10))))) (fun J_2 =>
  Join [(19, .bool)] (fun (b19 : Bool) (w12 : World) => cond b19 (
  Join [(6, .bool)] (fun (b6_2 : Bool) (w13 : World) => R (.bool b6_2) w13) (fun J_3 =>
  cond (((s16_0.n : Nat) : Int) == (0 : Int)) (cond (x16_1 == (2 : Int)) (Calls Try.prog 20 [].toArray w12 (fun e_8 w14 => ∃ b42 : Bool, e_8 = .returned (.bool b42) ∧
  J_3 b42 w14)) (J_3 false w12)) (J_3 false w12))) (
  cond (decide (((s1.n : Nat) : Int) > (10 : Int))) (
  Join [(6, .bool)] (fun (b6_3 : Bool) (w15 : World) => R (.bool b6_3) w15) (fun J_4 =>
  cond (((s16_0.n : Nat) : Int) == (0 : Int)) (cond (x16_1 == (3 : Int)) (Calls Try.prog 20 [].toArray w12 (fun e_9 w16 => ∃ b56 : Bool, e_9 = .returned (.bool b56) ∧
  J_4 b56 w16)) (J_4 false w12)) (J_4 false w12))) (
  J_2 w12))) (fun J_5 =>
  Calls Try.prog 22 [(.slice s0.a s0.n s0.c), (.slice s1.a s1.n s1.c)].toArray w6 (fun e_10 w17 => ∃ b22 : Bool, e_10 = .returned (.bool b22) ∧
  cond (!b22) (J_5 true w17) (∃ x25_0 : Int, ∃ s25_1 : Sl, rd w17 w.heap.size 0 [(.int .i64 x25_0), (.slice s25_1.a s25_1.n s25_1.c)] ∧ Calls Try.prog 31 [(.agg [(.int .i64 x25_0), (.slice s25_1.a s25_1.n s25_1.c)].toArray)].toArray w17 (fun e_11 w18 => ∃ b26 : Bool, e_11 = .returned (.bool b26) ∧
  cond (!b26) (J_5 true w18) (Calls Try.prog 19 [(.slice s0.a s0.n s0.c)].toArray w18 (fun e_12 w19 => ∃ b31 : Bool, e_12 = .returned (.bool b31) ∧
  J_5 (!b31) w19)))))))))))
theorem eq8 (s0 : Sl) (s1 : Sl) (x2_0 : Int) (s2_1 : Sl) (R : Value → World → Prop) (w : World) : funV Try.prog Try.f8 An8 [(.slice s0.a s0.n s0.c), (.slice s1.a s1.n s1.c), (.agg [(.int .i64 x2_0), (.slice s2_1.a s2_1.n s2_1.c)].toArray)] R w = S8 s0 s1 x2_0 s2_1 R w := by kernel_rfl
theorem call8 (s0 : Sl) (s1 : Sl) (x2_0 : Int) (s2_1 : Sl) {R : Value → World → Prop} {w : World} (h : S8 s0 s1 x2_0 s2_1 R w) : Calls Try.prog 8 [(.slice s0.a s0.n s0.c), (.slice s1.a s1.n s1.c), (.agg [(.int .i64 x2_0), (.slice s2_1.a s2_1.n s2_1.c)].toArray)].toArray w fun e w' => ∃ v, e = .returned v ∧ R v w' :=
  funV_calls mixed Try.func8 (an := An8) (by rw [eq8]; exact h)

end Go.Proofs.Ytoljknamnkkgcaa
/-
  Contracts of the reference: Enough, Sources; the law RulesSources.
-/
namespace Go.Proofs.Ytoljknamnkkgcaa
open Go Go.VC
set_option maxHeartbeats 1600000
set_option maxRecDepth 100000

/-- Enough of the reference. -/
theorem c82 {w : World} {s s' : Sl} {l : List DR} {fs : List DF} {f : DF} (hs : NR w s l) (hf : NF w s' fs) (hx : Ints w f.sl f.args) (hv : ValidP (l.map DR.p) (fs.map DF.p)) (hg : GroundF f.p) (x : Int) :
    Calls Try.prog 82 [.slice s.a s.n s.c, .slice s'.a s'.n s'.c, .int .i64 x, .agg [.int .i64 f.rel, .slice f.sl.a f.sl.n f.sl.c].toArray].toArray w fun e w' => ∃ b : Bool, e = .returned (.bool b) ∧ (b = true ↔ En' (l.map DR.p) (fs.map DF.p) f.p.k x) ∧ Ext w w' := by
  refine (call82 s s' x f.rel f.sl (R := fun v w' => ∃ b : Bool, v = .bool b ∧ (b = true ↔ En' (l.map DR.p) (fs.map DF.p) f.p.k x) ∧ Ext w w') ?_).mono fun e w' ⟨v, he, b, hv, hx⟩ => ⟨b, by rw [he, hv], hx⟩
  have hfn := hf.len
  have hru : ∀ r ∈ l, RuleP r.p := fun r hr => hv.ru _ (List.mem_map.2 ⟨r, hr, rfl⟩)
  have hgr : ∀ g ∈ fs, GroundF g.p := fun g hg => hv.gr _ (List.mem_map.2 ⟨g, hg, rfl⟩)
  have hl10 : l.length ≤ 10 := by have := hv.nl; simpa using this
  have hf20 : fs.length ≤ 20 := by have := hv.nf; simpa using this
  obtain ⟨hty, hrC⟩ := hv.ty
  obtain ⟨b1, x1⟩ := eF_cells w f 36
  refine Let.intro fun w1 e1 => ?_
  have e1 : w1 = w.alloc (.cells (eF f).toArray 36) := e1
  rw [← e1] at b1 x1
  refine ⟨fun s9 w12 => ∃ S : List DF, Own 36 2 eF w1.heap.size w12 s9 S ∧ (∀ x ∈ S, x ∈ fs) ∧ S.map DF.p = subF x (fs.map DF.p) ∧ Ext w1 w12, ?_, ?_⟩
  rotate_left
  · refine rangeSI (fun i (s9 : Sl) w20 => ∃ S : List DF, Own 36 2 eF w1.heap.size w20 s9 S ∧ (∀ x ∈ S, x ∈ fs) ∧ S.map DF.p = subF x ((fs.take i).map DF.p) ∧ Ext w1 w20) (by rw [hfn]; show fs.length ≤ 9223372036854775807; omega) ⟨[], Own.nil .., by simp, by simp [subF], Fr.refl _ _⟩ ?_ ?_
    rotate_left
    · rintro s9 w20 ⟨S, h1, h2, h3, h4⟩
      rw [hfn, List.take_length] at h3
      exact ⟨S, h1, h2, h3, h4⟩
    rintro i hi s9 w20 ⟨S, ho, hmem, hSp, x20⟩ K hK
    have hi : i < fs.length := by omega
    refine loadF (hf.ext (x1.trans x20)) hi zc36 fun w23 b23 x23' => ⟨by omega, Join.dir ?_⟩
    have hti : (fs.take (i + 1)).map DF.p = (fs.take i).map DF.p ++ [(fs[i]).p] := by rw [List.take_succ_eq_append_getElem hi, List.map_append]; rfl
    have hlen : ((fs.take i).map DF.p).length = i := by simp; omega
    have hsn := subF_snoc x ((fs.take i).map DF.p) (fs[i]).p
    rw [← hti, hlen] at hsn
    have hSl : S.length ≤ 20 := by
      have h1 := congrArg List.length hSp
      have h2 := subF_len x ((fs.take i).map DF.p)
      simp only [List.length_map, List.length_take] at h1 h2; omega
    have hm := List.getElem_mem hi
    have eb : Int.toNat (i : Int) = i := by omega
    rw [eb, bitI_and x (by omega)]
    refine cond_intro (fun g => ?_) (fun g => ?_)
    · rw [if_pos g] at hsn
      refine ⟨_, _, b23.rd, ?_⟩
      obtain ⟨s57, w25, hb57, s58, w26, hr58, ho26, hf26⟩ := appendOne E23 (ho.ext x23') (x := fs[i]) (v := .agg [.int .i64 (fs[i]).rel, .slice (fs[i]).sl.a (fs[i]).sl.n (fs[i]).sl.c].toArray) rfl eF_len eF_one (by omega) (by omega) (by simp only [maxLen]; omega) (by have := x20.size; have := x23'.size; omega) 23
      refine ⟨s57, w25, hb57, s58, w26, hr58, hK _ _ ⟨S ++ [fs[i]], ho26, fun z hz => ?_, by rw [List.map_append, hSp, hsn]; rfl, (x20.trans x23').newer hf26 fun q ⟨a, ha, e⟩ => by have := (ho.base ha).1; omega⟩⟩
      rcases List.mem_append.1 hz with hz | hz
      · exact hmem z hz
      · simp only [List.mem_singleton] at hz; subst hz; exact hm
    · rw [if_neg (by rw [g]; simp), List.append_nil] at hsn
      exact hK _ _ ⟨S, ho.ext x23', hmem, by rw [hSp, hsn], x20.trans x23'⟩
  rintro s9 w2 ⟨S, ho, hmem, hSp, x2⟩
  have x02 := x1.trans x2
  have hS : NF w2 s9 S := ⟨ho.sli, fun x hx => (hf.ok x (hmem x hx)).ext x02⟩
  have hvS : ValidP (l.map DR.p) (S.map DF.p) := by rw [hSp]; exact sub_valid hv (subF_len _ _) subF_sub
  have hSl : S.length ≤ 20 := by have := hvS.nf; simpa using this
  refine ⟨fun u => Ext w2 u, Ext.drew _, Let.intro fun w3 e3 => ?_⟩
  have x3 : Ext w2 w3 := by rw [e3]; exact Ext.drew _
  have x03 := x02.trans x3
  refine ⟨_, fun u hu => (b1.ext (x2.trans hu)).cell 0, _, fun u hu => (b1.ext (x2.trans hu)).cell 1, ?_⟩
  refine (c69 (hS.ext x3) (by show S.length ≤ 9223372036854775807; omega) (fun g hg => hgr g (hmem g hg))).mono fun e w4 ⟨B, he, hB, x4⟩ => ⟨bL B, bL_len B, he, x3.trans x4, ?_⟩
  have x04 := x03.trans x4
  have hGt : ∀ k, giv (S.map DF.p) k → TyK (allA (l.map DR.p) (fs.map DF.p)) k := fun k ⟨g, hg, e⟩ => hty k ⟨g, by rw [hSp] at hg; exact subF_sub g hg, e⟩
  have h70 := c70 (C := allA (l.map DR.p) (fs.map DF.p)) (N := fun _ => False) (BN := fun _ => false) (hs.ext x04) (by omega) hru (fun r hr => (hrC r.p (List.mem_map.2 ⟨r, hr, rfl⟩)).2) hv.co hB hGt (fun k _ => by simp)
  refine Calls.mono h70 fun e w5 ⟨B', he, hB', x5⟩ => ⟨bL B', bL_len B', he, (x3.trans x4).trans x5, ?_⟩
  refine (c94 (hx.ext (x04.trans x5)) hg).mono fun e w6 ⟨he, x6⟩ => ⟨_, he, ?_⟩
  have hgk := hg.gk
  have hrg := kc_rng hgk
  refine ⟨hrg.1, by omega, B' (kc f.p.k), ?_, B' (kc f.p.k), rfl, ?_, (x04.trans x5).trans x6⟩
  · show (bL B')[Int.toNat (kcI f.p.k)]? = _
    exact bL_get (kc_lt hgk)
  · rw [hB' _ hgk]
    unfold En'
    rw [hSp]
/-- Sources of the reference. -/
theorem c33 {w : World} {s s' : Sl} {l : List DR} {fs : List DF} {f : DF} (hs : NR w s l) (hf : NF w s' fs) (hx : Ints w f.sl f.args) (hv : ValidP (l.map DR.p) (fs.map DF.p)) (hg : GroundF f.p) (h10 : fs.length ≤ 10) :
    Calls Try.prog 33 [.slice s.a s.n s.c, .slice s'.a s'.n s'.c, .agg [.int .i64 f.rel, .slice f.sl.a f.sl.n f.sl.c].toArray].toArray w fun e w' => ∃ (s2 : Sl) (out : List Nat), e = .returned (.slice s2.a s2.n s2.c) ∧ Ints w' s2 (out.map cI) ∧
      ((¬ En' (l.map DR.p) (fs.map DF.p) f.p.k ((2 ^ fs.length - 1 : Nat) : Int) ∧ out = []) ∨ (En' (l.map DR.p) (fs.map DF.p) f.p.k ((2 ^ fs.length - 1 : Nat) : Int) ∧ out = srcs (fun n => En' (l.map DR.p) (fs.map DF.p) f.p.k (n : Int)) (2 ^ fs.length))) ∧ Ext w w' := by
  refine (call33 s s' f.rel f.sl (R := fun v w' => ∃ (s2 : Sl) (out : List Nat), v = (.slice s2.a s2.n s2.c) ∧ Ints w' s2 (out.map cI) ∧
      ((¬ En' (l.map DR.p) (fs.map DF.p) f.p.k ((2 ^ fs.length - 1 : Nat) : Int) ∧ out = []) ∨ (En' (l.map DR.p) (fs.map DF.p) f.p.k ((2 ^ fs.length - 1 : Nat) : Int) ∧ out = srcs (fun n => En' (l.map DR.p) (fs.map DF.p) f.p.k (n : Int)) (2 ^ fs.length))) ∧ Ext w w') ?_).mono fun e w' ⟨v, he, s2, out, hv, hx⟩ => ⟨s2, out, by rw [he, hv], hx⟩
  have hfn := hf.len
  obtain ⟨b1, x1⟩ := eF_cells w f 36
  refine Let.intro fun w1 e1 => ?_
  have e1 : w1 = w.alloc (.cells (eF f).toArray 36) := e1
  rw [← e1] at b1 x1
  refine ⟨fun u => Ext w1 u, Ext.drew _, Let.intro fun w2 e2 => ?_⟩
  have x2 : Ext w1 w2 := by rw [e2]; exact Ext.drew _
  have en : Int.toNat ((s'.n : Nat) : Int) = fs.length := by omega
  have hpw : 2 ^ fs.length ≤ 1024 := Nat.pow_le_pow_right (n := 2) (by omega) h10
  have hpw0 : 0 < 2 ^ fs.length := Nat.pow_pos (by omega)
  refine ⟨by omega, _, _, fun u hu => (b1.ext hu).rd, ?_⟩
  rw [en, pow10 _ h10]
  have ew : IntKind.wrap .i64 (((2 ^ fs.length : Nat) : Int) - 1) = ((2 ^ fs.length - 1 : Nat) : Int) := by rw [wrap64 (by omega) (by omega)]; omega
  rw [ew]
  generalize hE : (fun n : Nat => En' (l.map DR.p) (fs.map DF.p) f.p.k (n : Int)) = E
  have hE' : ∀ n : Nat, En' (l.map DR.p) (fs.map DF.p) f.p.k (n : Int) = E n := fun n => by rw [← hE]
  have call82' : ∀ (w' : World) (n : Nat), Ext w1 w' → Calls Try.prog 82 [.slice s.a s.n s.c, .slice s'.a s'.n s'.c, .int .i64 (n : Int), .agg [.int .i64 f.rel, .slice f.sl.a f.sl.n f.sl.c].toArray].toArray w' fun e w2 => ∃ b : Bool, e = .returned (.bool b) ∧ (b = true ↔ E n) ∧ Ext w' w2 := fun w' n x' => by
    rw [← hE']
    exact c82 (hs.ext (x1.trans x')) (hf.ext (x1.trans x')) (hx.ext (x1.trans x')) hv hg _
  refine (call82' w2 (2 ^ fs.length - 1) x2).mono fun e w3 ⟨b19, he, hb19, x3⟩ => ⟨b19, he, x2.trans x3, ?_⟩
  rw [hE']
  have x13 := x2.trans x3
  refine cond_intro (fun g3 => ?_) (fun g3 => ?_)
  · have g3 : b19 = false := by simpa using g3
    exact ⟨⟨none, 0, 0⟩, [], rfl, Sli.nil _ _, .inl ⟨(fun h => by rw [hb19.2 h] at g3; cases g3), rfl⟩, x1.trans x13⟩
  have g3 : b19 = true := by simpa using g3
  refine ⟨by omega, ?_⟩
  refine Join.dir (rangeSI (fun i (s9 : Sl) w7 => Own 3 1 eI w3.heap.size w7 s9 ((srcs E i).map cI) ∧ w3.heap.size ≤ w7.heap.size ∧ Ext w1 w7) (by show 2 ^ fs.length ≤ 9223372036854775807; omega) ⟨by simpa [srcs] using Own.nil 3 1 eI _ _, Nat.le_refl _, x13⟩ ?_ ?_)
  rotate_left
  · rintro s9 w7 ⟨ho, _, x7⟩
    exact ⟨s9, srcs E (2 ^ fs.length), rfl, ho.sli, .inr ⟨hb19.1 g3, rfl⟩, x1.trans x7⟩
  rintro i hi s9 w5 ⟨ho, z5, x5⟩ K hK
  have hsl := srcs_len (E := E) i
  have hol := ho.sli.len
  have hlenm : ((srcs E i).map cI).length = (srcs E i).length := by simp
  refine ⟨fun (b9 : Bool) w7 => (b9 = true ↔ ∀ x ∈ srcs E i, ¬ subN x i) ∧ w7 = w5, ?_, ?_⟩
  rotate_left
  · refine rangeKI (k := .bool) (fun j (b9 : Bool) w13 => (b9 = true ↔ ∀ x ∈ (srcs E i).take j, ¬ subN x i) ∧ w13 = w5) (by rw [hol, hlenm]; show (srcs E i).length ≤ 9223372036854775807; omega) ⟨by simp, rfl⟩ ?_ ?_
    rotate_left
    · rintro b9 w13 ⟨h1, h2⟩
      rw [hol, hlenm, List.take_length] at h1
      exact ⟨h1, h2⟩
    rintro j hj b9 w13 ⟨h1, rfl⟩ K2 hK2
    have hj : j < (srcs E i).length := by omega
    obtain ⟨p31, hp31, a1, a2, hr31⟩ := Ints.at ho.sli (i := j) (by simpa using hj)
    refine ⟨p31, hp31, a1, a2, _, hr31, Join.dir ?_⟩
    have htk : (srcs E i).take (j + 1) = (srcs E i).take j ++ [(srcs E i)[j]] := List.take_succ_eq_append_getElem hj
    have hlt := (srcs_sound i _ (List.getElem_mem hj)).2
    have hget : ((srcs E i).map cI)[j]'(by simpa using hj) = (((srcs E i)[j] : Nat) : Int) := by simp [cI]
    rw [hget]
    generalize (srcs E i)[j] = y at htk hlt
    have hsub : (bitsI .andNot .i64 (y : Int) (i : Int) != (0 : Int)) = true ↔ ¬ subN y i := by
      have h := bitI_andNot (y : Int) (i : Int)
      have h2 : (∀ k, bitI (y : Int) k = true → bitI (i : Int) k = true) ↔ subN y i := by
        unfold subN
        constructor
        · intro h k hk
          have := h k (by rw [bitI_nat (by omega)]; exact hk)
          rw [bitI_nat (by omega)] at this; exact this
        · intro h k hk
          rw [bitI_nat (by omega)] at hk ⊢
          exact h k hk
      rw [← h2, ← h]
      simp
    refine cond_intro (fun g => ?_) (fun g => ?_)
    · refine hK2 _ _ ⟨?_, rfl⟩
      rw [hsub, htk]
      constructor
      · intro h x hx
        rcases List.mem_append.1 hx with hx | hx
        · exact h1.1 g x hx
        · simp only [List.mem_singleton] at hx; subst hx; exact h
      · intro h; exact h y (by simp)
    · refine hK2 _ _ ⟨?_, rfl⟩
      simp only [Bool.false_eq_true, false_iff]
      intro h
      have := h1.2 fun x hx => h x (by rw [htk]; exact List.mem_append_left _ hx)
      rw [g] at this; cases this
  rintro b9 w7 ⟨hb9, rfl⟩
  refine ⟨fun (b48 : Bool) w8 => (b48 = true ↔ ((∀ x ∈ srcs E i, ¬ subN x i) ∧ E i)) ∧ Ext w7 w8, ?_, ?_⟩
  rotate_left
  · refine cond_intro (fun g => ?_) (fun g => ?_)
    · refine ⟨_, _, (b1.ext x5).rd, (call82' w7 i x5).mono fun e w12 ⟨b47, he, hb47, x12⟩ => ⟨b47, he, ?_, x12⟩⟩
      rw [hb47]
      exact ⟨fun h => ⟨hb9.1 g, h⟩, fun h => h.2⟩
    · exact ⟨⟨(fun h => by cases h), fun h => by have := hb9.2 h.1; rw [g] at this; cases this⟩, Fr.refl _ _⟩
  rintro b48 w8 ⟨hb48, x8⟩
  refine Join.dir (cond_intro (fun g5 => ?_) (fun g5 => ?_))
  · have hc := hb48.1 g5
    have hsl2 : ((srcs E i).map cI).length ≤ 1024 := by simp; omega
    obtain ⟨s52, w13, hb52, s53, w14, hr53, ho14, hf14⟩ := appendOne E34 (ho.ext x8) (x := (i : Int)) (v := .int .i64 (i : Int)) rfl eI_len eI_one (by omega) (by omega) (by simp only [maxLen]; omega) (by have := x8.size; omega) 34
    refine ⟨s52, w13, hb52, s53, w14, hr53, hK _ _ ⟨?_, by have := hf14.size; have := x8.size; omega, (x5.trans x8).newer hf14 fun q ⟨a, ha, e⟩ => by have := (ho.base ha).1; have := x13.size; omega⟩⟩
    rw [srcs_yes hc, List.map_append]; exact ho14
  · have hc : ¬ ((∀ x ∈ srcs E i, ¬ subN x i) ∧ E i) := fun h => by rw [hb48.2 h] at g5; cases g5
    refine hK _ _ ⟨?_, by have := x8.size; omega, x5.trans x8⟩
    rw [srcs_no hc]; exact ho.ext x8
theorem c8 {w : World} {s s' : Sl} {l : List DR} {fs : List DF} {f : DF} (hs : NR w s l) (hf : NF w s' fs) (hl : l.length ≤ big) (hb : ∀ r ∈ l, r.body.length ≤ big) (hfl : fs.length ≤ big) (ha : ∀ r ∈ l, ∀ x ∈ r.atoms, x.args.length ≤ big) (hfa : ∀ x ∈ fs, x.args.length ≤ big)
    (hx : Ints w f.sl f.args) (hxl : f.args.length ≤ big) :
    Calls Try.prog 8 [.slice s.a s.n s.c, .slice s'.a s'.n s'.c, .agg [.int .i64 f.rel, .slice f.sl.a f.sl.n f.sl.c].toArray].toArray w fun e w' => e = .returned (.bool true) ∧ Ext w w' := by
  refine (call8 s s' f.rel f.sl (R := fun v w' => v = .bool true ∧ Ext w w') ?_).mono fun e w' ⟨v, he, hv, hx⟩ => ⟨by rw [he, hv], hx⟩
  have hfn := hf.len
  obtain ⟨b1, x1⟩ := eF_cells w f 36
  refine Let.intro fun w1 e1 => ?_
  have e1 : w1 = w.alloc (.cells (eF f).toArray 36) := e1
  rw [← e1] at b1 x1
  refine ⟨fun u => Ext w1 u, Ext.drew _, Let.intro fun w2 e2 => ?_⟩
  have x2 : Ext w1 w2 := by rw [e2]; exact Ext.drew _
  have x02 := x1.trans x2
  refine ⟨f.rel, f.sl, fun u hu => (b1.ext hu).rd, ?_⟩
  refine (c17 (hs.ext x02) hl hb).mono fun e w3 ⟨s11, L, he, hL, hLp, x3⟩ => ⟨s11, he, x2.trans x3, ?_⟩
  have x03 := x02.trans x3
  refine (c18 (hf.ext x03) hfl).mono fun e w4 ⟨s13, F, he, hFo, hFt, hFp, x4⟩ => ⟨s13, he, (x2.trans x3).trans x4, ?_⟩
  have hF : NF w4 s13 F := ⟨hFo.sli, fun x hx => (hFt x hx).i⟩
  have x04 := x03.trans x4
  obtain ⟨hL12, hLz⟩ := of_sz hLp
  obtain ⟨hF26, hFz⟩ := facts_sz hFp
  refine (c23 (hx.ext x04)).mono fun e w5 ⟨y, he, hyp, hyt, _, x5⟩ => ⟨y.rel, y.sl, he, ?_⟩
  have x05 := x04.trans x5
  have hyl : y.args.length ≤ 5 := by
    have : y.p.args.length ≤ 5 := by rw [hyp]; exact cut_len 5 f.p
    exact this
  refine (c30 (f := y) ((hL.ext x4).ext x5) (hF.ext x5) hyt.i (by omega) (by omega) hLz (fun f hf => by have := hFz f hf; omega) (by show y.args.length ≤ 9223372036854775807; omega)).mono fun e w6 ⟨s16, x16, out, he, hout, hcase, x6⟩ => ⟨s16, x16, he, ((((x2.trans x3).trans x4).trans x5).trans x6), ?_⟩
  have x06 := x05.trans x6
  have x16' := ((((x2.trans x3).trans x4).trans x5).trans x6)
  have hon := hout.len
  -- which case it is
  have hconv : (ValidP (L.map DR.p) (F.map DF.p) ∧ GroundF y.p ∧ PlainP (L.map DR.p)) ↔ (ValidP (l.map DR.p) (fs.map DF.p) ∧ GroundF f.p ∧ PlainP (l.map DR.p)) := by
    rw [hLp, hFp, hyp]
    constructor
    · rintro ⟨h1, h2, h3⟩
      have hv := conv_valid.1 h1
      rw [(conv_id hv).1] at h3
      have : cut 5 f.p = f.p := cut_small (by omega) h2.2.2.2.1
      rw [this] at h2
      exact ⟨hv, h2, h3⟩
    · rintro ⟨h1, h2, h3⟩
      have : cut 5 f.p = f.p := cut_id (by have := h2.2.2.2.1; omega)
      rw [(conv_id h1).1, (conv_id h1).2, this]
      exact ⟨h1, h2, h3⟩
  rw [hconv] at hcase
  refine ⟨fun w7 => (ValidP (l.map DR.p) (fs.map DF.p) ∧ GroundF f.p ∧ PlainP (l.map DR.p)) ∧ fs.length ≤ 10 ∧ Ext w6 w7, ?_, ?_⟩
  · rintro w7 ⟨⟨hv, hg, hpl⟩, h10, x7⟩
    have x07 := x06.trans x7
    refine Join.dir ⟨_, _, (b1.ext (x16'.trans x7)).rd, (c33 (hs.ext x07) (hf.ext x07) (hx.ext x07) hv hg h10).mono fun e w9 ⟨s62, out2, he, hout2, hcase2, x9⟩ => ⟨s62, he, ?_⟩⟩
    obtain ⟨eL, eF⟩ := conv_id hv
    rw [eL] at hLp
    rw [eF] at hFp
    have hFl : F.length = fs.length := by have := congrArg List.length hFp; simpa using this
    have hcut : cut 5 f.p = f.p := cut_id (by have := hg.2.2.2.1; omega)
    rw [hcut] at hyp
    rw [hLp, hFp, hyp, hFl] at hcase
    rcases hcase with ⟨h, _⟩ | ⟨_, h, _⟩ | ⟨_, _, rfl, hcase⟩
    · exact absurd ⟨hv, hg, hpl⟩ h
    · omega
    have heq : out = out2 := by
      rcases hcase with ⟨h1, rfl⟩ | ⟨h1, rfl⟩ <;> rcases hcase2 with ⟨h2, rfl⟩ | ⟨h2, rfl⟩
      · rfl
      · exact absurd h2 h1
      · exact absurd h1 h2
      · rfl
    have hol : out.length ≤ 1024 := by
      have hpw : 2 ^ fs.length ≤ 1024 := Nat.pow_le_pow_right (n := 2) (by omega) h10
      rcases hcase with ⟨_, rfl⟩ | ⟨_, rfl⟩
      · simp
      · have := srcs_len (E := fun n => En' (l.map DR.p) (fs.map DF.p) f.p.k (n : Int)) (2 ^ fs.length); omega
    refine (c32 (hout.ext (x7.trans x9)) hout2 (by show (out.map cI).length ≤ 9223372036854775807; simp; omega)).mono fun e w10 ⟨he, x10⟩ => ⟨_, he, ?_⟩
    refine cond_intro (fun _ => cond_intro (fun _ => ?_) (fun h => by simp at h)) (fun h => by simp [heq] at h)
    exact (c20 w10).mono fun e w11 ⟨he, x11⟩ => ⟨_, he, rfl, ((x07.trans x9).trans x10).trans x11⟩
  refine ⟨fun (b19 : Bool) w12 => (b19 = false ↔ (ValidP (l.map DR.p) (fs.map DF.p) ∧ GroundF f.p ∧ PlainP (l.map DR.p))) ∧ Ext w6 w12, ?_, ?_⟩
  rotate_left
  · refine (c22 (hs.ext x06) (hf.ext x06) hl hfl hb ha hfa).mono fun e w17 ⟨b22, he, hb22, x17⟩ => ⟨b22, he, cond_intro (fun g => ?_) (fun g => ?_)⟩
    · have g : b22 = false := by simpa using g
      exact ⟨⟨(fun h => by cases h), fun h => by have := hb22.2 h.1; rw [g] at this; cases this⟩, x17⟩
    have g : b22 = true := by simpa using g
    have hv := hb22.1 g
    refine ⟨_, _, (b1.ext (x16'.trans x17)).rd, (c31 (hx.ext (x06.trans x17)) hxl).mono fun e w18 ⟨b26, he, hb26, x18⟩ => ⟨b26, he, cond_intro (fun g2 => ?_) (fun g2 => ?_)⟩⟩
    · have g2 : b26 = false := by simpa using g2
      exact ⟨⟨(fun h => by cases h), fun h => by have := hb26.2 h.2.1; rw [g2] at this; cases this⟩, x17.trans x18⟩
    have g2 : b26 = true := by simpa using g2
    have hg := hb26.1 g2
    refine (c19 (hs.ext ((x06.trans x17).trans x18)) hl hb).mono fun e w19 ⟨b31, he, hb31, x19⟩ => ⟨b31, he, ?_, (x17.trans x18).trans x19⟩
    constructor
    · intro h; exact ⟨hv, hg, hb31.1 (by simpa using h)⟩
    · intro h; rw [hb31.2 h.2.2]; rfl
  rintro b19 w12 ⟨hb19, x12⟩
  have x012 := x06.trans x12
  refine cond_intro (fun g => ?_) (fun g => ?_)
  · subst g
    have hno : ¬ (ValidP (l.map DR.p) (fs.map DF.p) ∧ GroundF f.p ∧ PlainP (l.map DR.p)) := fun h => by have := hb19.2 h; cases this
    rcases hcase with ⟨_, rfl, rfl⟩ | ⟨h, _⟩ | ⟨h, _⟩
    rotate_left
    · exact absurd h hno
    · exact absurd h hno
    refine Join.dir (cond_intro (fun _ => cond_intro (fun _ => (c20 w12).mono fun e w14 ⟨he, x14⟩ => ⟨_, he, rfl, x012.trans x14⟩) (fun h => by simp at h)) (fun h => ?_))
    simp only [List.map_nil, List.length_nil] at hon
    rw [hon] at h
    exact absurd h (by decide)
  have hV := hb19.1 g
  refine cond_intro (fun g2 => ?_) (fun g2 => ?_)
  · have g2 : 10 < fs.length := by simp at g2; omega
    have hFl : F.length = fs.length := by
      rw [(conv_id hV.1).2] at hFp
      have := congrArg List.length hFp; simpa using this
    rcases hcase with ⟨h, _⟩ | ⟨_, _, rfl, rfl⟩ | ⟨_, h, _⟩
    · exact absurd hV h
    rotate_left
    · omega
    refine Join.dir (cond_intro (fun _ => cond_intro (fun _ => (c20 w12).mono fun e w14 ⟨he, x14⟩ => ⟨_, he, rfl, x012.trans x14⟩) (fun h => by simp at h)) (fun h => ?_))
    simp only [List.map_nil, List.length_nil] at hon
    rw [hon] at h
    exact absurd h (by decide)
  · have g2 : fs.length ≤ 10 := by simp at g2; omega
    exact ⟨hV, g2, x12⟩
end Go.Proofs.Ytoljknamnkkgcaa
/-
  The frame of the rows: rules and facts as arguments.
-/
namespace Go.Proofs.Ytoljknamnkkgcaa
open Go Go.VC Go.ChangeShapes Go.WideShapes Go.RowKit
set_option maxRecDepth 100000

theorem own0 : ownKnob Try.prog.godebug = none := by kernel_rfl
theorem laid0 : laidOutB Try.prog = true := by kernel_rfl
theorem cells3 : Try.prog.cellsOf 3 = 1 := by kernel_rfl
theorem cells34 : Try.prog.cellsOf 34 = 1 := by kernel_rfl
theorem cells36 : Try.prog.cellsOf 36 = 2 := by kernel_rfl
theorem cells91 : Try.prog.cellsOf 91 = 2 := by kernel_rfl
theorem cells92 : Try.prog.cellsOf 92 = 1 := by kernel_rfl
theorem cells94 : Try.prog.cellsOf 94 = 3 := by kernel_rfl
theorem cells96 : Try.prog.cellsOf 96 = 3 := by kernel_rfl
theorem cells4 : Try.prog.cellsOf 4 = 1 := by kernel_rfl

section
variable {H : Type} {enc : TypeId × Value → H} {w : World} {base : Nat} {spare : Nat → Bool} {held : Bool}
/-- Cells that are there one by one. -/
theorem rd_of {b : Nat} : ∀ {vs : List Value} {o : Nat}, (∀ i v, vs[i]? = some v → w.cell? ⟨b, o + i, none⟩ = some v) → rd w b o vs
  | [], _, _ => trivial
  | v :: r, o, h => ⟨by simpa using h 0 v rfl, rd_of fun i u hu => by
      have := h (i + 1) u (by simpa using hu)
      rw [show o + 1 + i = o + (i + 1) from by omega]; exact this⟩
theorem rd_flat {α : Type} {k : Nat} {en : α → List Value} (hk : ∀ x, (en x).length = k) {b o : Nat} {n : Nat} {f : Nat → α} : ∀ {m : Nat}, m ≤ n → (∀ i, i < n → rd w b (o + i * k) (en (f i))) → rd w b o (((List.range m).map f).flatMap en)
  | 0, _, _ => trivial
  | m + 1, hm, h => by
    rw [List.range_succ, List.map_append, List.flatMap_append, rd_append]
    refine ⟨rd_flat hk (by omega) h, ?_⟩
    rw [flatMap_len hk, List.length_map, List.length_range]
    simpa using h m (by omega)
/-- A slice that reads as data, of elements that each are known. -/
theorem open_gen {α : Type} [Inhabited α] {t e k : Nat} (ht : Try.prog.underlying t = some (.slice e)) (hc : Try.prog.cellsOf e = k) (h0k : 0 < k) {en : α → List Value} (hk : ∀ x, (en x).length = k) {Q : α → Prop}
    (hel : ∀ n cs d, DataW.trod enc Try.prog w base spare held n e cs = some d → ∃ x, cs = en x ∧ Q x) {fuel : Nat} {cs : List Value} {x : DataW H × List MemPlace} (hf : DataW.trod enc Try.prog w base spare held fuel t cs = some x) :
    ∃ (s : Sl) (l : List α), cs = [.slice s.a s.n s.c] ∧ Sli k en w s l ∧ (∀ y ∈ l, Q y) ∧ l.length ≤ maxLen := by
  rcases Deep.open_slice ht hf with ⟨hcs, _⟩ | ⟨a', len, cap, m, n, D, Pl, hcs, _, hl, hm, hmm, _, hi⟩
  · exact ⟨⟨none, 0, 0⟩, [], hcs, Sli.nil .., by simp, by simp⟩
  · have hlm : len ≤ m := by rw [hmm]; split <;> omega
    have hall : ∀ i, i < len → ∃ o : α, Q o ∧ ∀ j v, (en o)[j]? = some v → w.cell? (a'.add (i * k + j)) = some v := by
      intro i hil
      obtain ⟨cs', hc', hd⟩ := hi i (by omega)
      obtain ⟨o, rfl, hq⟩ := hel _ _ _ hd
      rw [hc] at hc'
      obtain ⟨_, _, hat⟩ := World.cells?_some hc'
      refine ⟨o, hq, fun j v hv => ?_⟩
      have hj : j < k := by
        rcases Nat.lt_or_ge j k with h | h
        · exact h
        · rw [List.getElem?_eq_none (by rw [hk]; exact h)] at hv; cases hv
      have := hat j hj
      rw [hv] at this
      rw [← this]
      congr 1
      unfold Addr.add
      by_cases h0 : i * k = 0 <;> by_cases h1 : j = 0 <;> simp [h0, h1, Nat.add_assoc]
    have hsp : 0 < len → a'.spot = none := fun h0 => by
      obtain ⟨o, _, ho⟩ := hall 0 h0
      have hne : 0 < (en o).length := by rw [hk]; exact h0k
      have h1 := World.cell?_spot (ho 0 _ (List.getElem?_eq_getElem hne))
      have h2 : a'.add (0 * k + 0) = a' := by unfold Addr.add; simp
      rw [h2] at h1; exact h1
    let f : Nat → α := fun i => if h : i < len then (hall i h).choose else default
    have hff : ∀ i (hil : i < len), f i = (hall i hil).choose := fun i hil => by simp [f, hil]
    have hfc : ∀ i, i < len → rd w a'.block (a'.off + i * k) (en (f i)) := by
      intro i hil
      have h1 := (hall i hil).choose_spec.2
      rw [hff i hil]
      refine rd_of fun j v hv => ?_
      have h3 := h1 j v hv
      obtain ⟨b, o, sp⟩ := a'
      have h4 : sp = none := hsp (by omega)
      subst h4
      rw [addr_add_plain] at h3
      rw [Nat.add_assoc]; exact h3
    refine ⟨⟨some a', len, cap⟩, (List.range len).map f, hcs, ⟨by simp, hl, fun hne => ?_⟩, fun y hy => ?_, by simp; omega⟩
    · have h0 : 0 < len := by
        rcases Nat.eq_zero_or_pos len with h | h
        · subst h; exact absurd rfl hne
        · exact h
      obtain ⟨b, o, sp⟩ := a'
      have h4 : sp = none := hsp h0
      subst h4
      exact ⟨⟨b, o⟩, rfl, rd_flat hk (Nat.le_refl _) hfc⟩
    · obtain ⟨i, hi, rfl⟩ := List.mem_map.1 hy
      have hi := List.mem_range.1 hi
      rw [hff i hi]; exact (hall i hi).choose_spec.1
theorem open_intsl {n : Nat} {cs : List Value} {d : DataW H × List MemPlace} (h : DataW.trod enc Try.prog w base spare held n 34 cs = some d) : ∃ (s : Sl) (l : List Int), cs = [.slice s.a s.n s.c] ∧ Ints w s l ∧ l.length ≤ maxLen := by
  obtain ⟨s, l, h1, h2, _, h3⟩ := open_gen (α := Int) (en := eI) (Q := fun _ => True) Try.underlying34 cells3 (by decide) eI_len (fun n cs d hd => by
    obtain ⟨m, hm, _⟩ := DataW.trod_int Try.underlying3 hd
    exact ⟨m, hm, trivial⟩) h
  exact ⟨s, l, h1, h2, h3⟩
/-- A struct of a Rel and Args. -/
theorem open_fa {T : Nat} {f0 f1 : Field} (hT : Try.prog.underlying T = some (.struct #[f0, f1])) (h0 : f0.type = 3) (o0 : f0.offset = 0) (h1 : f1.type = 34) (o1 : f1.offset = 1) (hc : Try.prog.cellsOf T = 2) {n : Nat} {cs : List Value} {d : DataW H × List MemPlace}
    (h : DataW.trod enc Try.prog w base spare held n T cs = some d) : ∃ y : DF, cs = eF y ∧ Ints w y.sl y.args ∧ y.args.length ≤ maxLen := by
  obtain ⟨y0, y1, m, _, hl, g0, g1⟩ := trod_struct2 hT h
  rw [hc] at hl
  rw [h0, o0, cells3] at g0
  rw [h1, o1, cells34] at g1
  match cs, hl with
  | [c0, c1], _ =>
    obtain ⟨a, ha, _⟩ := DataW.trod_int Try.underlying3 g0
    obtain ⟨s, l, hs, hi, hll⟩ := open_intsl g1
    simp at ha hs
    exact ⟨⟨a, s, l⟩, by rw [ha, hs]; rfl, hi, hll⟩
theorem open_li {n : Nat} {cs : List Value} {d : DataW H × List MemPlace} (h : DataW.trod enc Try.prog w base spare held n 96 cs = some d) : ∃ y : DL, cs = eL y ∧ Ints w y.a.sl y.a.args ∧ y.a.args.length ≤ maxLen := by
  obtain ⟨y0, y1, m, _, hl, g0, g1⟩ := trod_struct2 Try.underlying96 h
  rw [cells96] at hl
  have g0 : DataW.trod enc Try.prog w base spare held m 4 ((cs.drop 0).take (Try.prog.cellsOf 4)) = some y0 := g0
  have g1 : DataW.trod enc Try.prog w base spare held m 91 ((cs.drop 1).take (Try.prog.cellsOf 91)) = some y1 := g1
  rw [cells4] at g0
  rw [cells91] at g1
  match cs, hl with
  | [c0, c1, c2], _ =>
    obtain ⟨b, hb, _⟩ := DataW.trod_bool Try.underlying4 g0
    obtain ⟨y, hy, hi, hll⟩ := open_fa Try.underlying91 rfl rfl rfl rfl cells91 g1
    simp at hb hy
    simp only [eF, List.cons.injEq, and_true] at hy
    exact ⟨⟨b, y⟩, by rw [hb, hy.1, hy.2]; rfl, hi, hll⟩
structure RulB (w : World) (r : DR) : Prop where
  ok : RulOk w r
  nb : r.body.length ≤ maxLen
  na : ∀ x ∈ r.head :: r.body.map (·.a), x.args.length ≤ maxLen
theorem open_ru {n : Nat} {cs : List Value} {d : DataW H × List MemPlace} (h : DataW.trod enc Try.prog w base spare held n 94 cs = some d) : ∃ y : DR, cs = eR y ∧ RulB w y := by
  obtain ⟨y0, y1, m, _, hl, g0, g1⟩ := trod_struct2 Try.underlying94 h
  rw [cells94] at hl
  have g0 : DataW.trod enc Try.prog w base spare held m 91 ((cs.drop 0).take (Try.prog.cellsOf 91)) = some y0 := g0
  have g1 : DataW.trod enc Try.prog w base spare held m 92 ((cs.drop 2).take (Try.prog.cellsOf 92)) = some y1 := g1
  rw [cells91] at g0
  rw [cells92] at g1
  match cs, hl with
  | [c0, c1, c2], _ =>
    obtain ⟨y, hy, hi, hll⟩ := open_fa Try.underlying91 rfl rfl rfl rfl cells91 g0
    obtain ⟨s, l, hs, hsl, hq, hln⟩ := open_gen (α := DL) (en := eL) Try.underlying92 cells96 (by decide) eL_len (fun n cs d hd => open_li hd) g1
    simp at hy hs
    simp only [eF, List.cons.injEq, and_true] at hy
    refine ⟨⟨y, s, l⟩, by rw [hy.1, hy.2, hs]; rfl, ⟨hi, hsl, fun x hx => (hq x hx).1⟩, hln, fun x hx => ?_⟩
    rcases List.mem_cons.1 hx with rfl | hx
    · exact hll
    · obtain ⟨b, hb, rfl⟩ := List.mem_map.1 hx
      exact (hq b hb).2
/-- The rules that are handed over. -/
theorem open_rules {a : Option Addr} {len cap : Nat} {d : DataW H} {ps : List MemPlace} (h : DataW.Trod enc Try.prog w base spare held 22 (.slice a len cap) d ps) :
    ∃ l : List DR, NR w ⟨a, len, cap⟩ l ∧ l.length ≤ maxLen ∧ ∀ r ∈ l, RulB w r := by
  obtain ⟨fuel, hf⟩ := h
  obtain ⟨s, l, hs, hsl, hq, hln⟩ := open_gen (α := DR) (en := eR) Try.underlying22 cells94 (by decide) eR_len (fun n cs d hd => open_ru hd) hf
  simp [Value.cells] at hs
  have e : (⟨a, len, cap⟩ : Sl) = s := by cases s; simp_all
  rw [e]
  exact ⟨l, ⟨hsl, fun r hr => (hq r hr).ok⟩, hln, hq⟩
/-- The facts that are handed over. -/
theorem open_facts {a : Option Addr} {len cap : Nat} {d : DataW H} {ps : List MemPlace} (h : DataW.Trod enc Try.prog w base spare held 23 (.slice a len cap) d ps) :
    ∃ l : List DF, Sli 2 eF w ⟨a, len, cap⟩ l ∧ (∀ x ∈ l, Ints w x.sl x.args) ∧ l.length ≤ maxLen ∧ ∀ x ∈ l, x.args.length ≤ maxLen := by
  obtain ⟨fuel, hf⟩ := h
  obtain ⟨s, l, hs, hsl, hq, hln⟩ := open_gen (α := DF) (en := eF) Try.underlying23 cells36 (by decide) eF_len (fun n cs d hd => open_fa Try.underlying36 rfl rfl rfl rfl cells36 hd) hf
  simp [Value.cells] at hs
  have e : (⟨a, len, cap⟩ : Sl) = s := by cases s; simp_all
  rw [e]
  exact ⟨l, hsl, fun x hx => (hq x hx).1, hln, fun x hx => (hq x hx).2⟩
/-- A fact that is handed over. -/
theorem open_fact {cs : Array Value} {d : DataW H} {ps : List MemPlace} (h : DataW.Trod enc Try.prog w base spare held 36 (.agg cs) d ps) :
    ∃ y : DF, cs = (eF y).toArray ∧ Ints w y.sl y.args ∧ y.args.length ≤ maxLen := by
  obtain ⟨fuel, hf⟩ := h
  obtain ⟨y, hy, hi, hl⟩ := open_fa Try.underlying36 rfl rfl rfl rfl cells36 hf
  refine ⟨y, ?_, hi, hl⟩
  apply Array.ext'
  simpa [Value.cells] using hy
theorem maxLen_big : maxLen ≤ big := by decide
end
end Go.Proofs.Ytoljknamnkkgcaa
