/-
  Contract: validity as the reference has it.
-/
import Derived.Test.YtoljknamnkkgcaaCq
namespace Go.Proofs.Ytoljknamnkkgcaa
open Go Go.VC
set_option maxHeartbeats 1000000
set_option maxRecDepth 100000

/-- All Args are in a range, there are one or two, and the Rel is in range. -/
def RangeF (lo hi : Int) (f : Fa) : Prop := 0 ≤ f.rel ∧ f.rel ≤ 5 ∧ 1 ≤ f.args.length ∧ f.args.length ≤ 2 ∧ ∀ x ∈ f.args, lo ≤ x ∧ x ≤ hi
instance (lo hi : Int) (f : Fa) : Decidable (RangeF lo hi f) := by unfold RangeF; infer_instance
theorem rangeW {w : World} {x : DF} {T : TypeId} {lo up : Int} (hx : Ints w x.sl x.args) (hl : x.args.length ≤ big) {R : Value → World → Prop} (hR : ∀ b w', (b = true ↔ RangeF lo up x.p) → Ext w w' → R (.bool b) w') :
    Let (w.alloc (.cells [(.int .i64 x.rel), (.slice x.sl.a x.sl.n x.sl.c)].toArray T)) fun w1 =>
    ∃ s6 : Sl, World.cell? w1 ⟨w.heap.size, (0 + 1), none⟩ = some (.slice s6.a s6.n s6.c) ∧ Join [] (fun (w2 : World) => Join [(2, .bool)] (fun (b2 : Bool) (w3 : World) => R (.bool b2) w3) (fun J =>
    ∃ x20 : Int, World.cell? w2 ⟨w.heap.size, (0 + 0), none⟩ = some (.int .i64 x20) ∧ cond (decide (x20 ≥ (0 : Int))) (∃ x24 : Int, World.cell? w2 ⟨w.heap.size, (0 + 0), none⟩ = some (.int .i64 x24) ∧ cond (decide (x24 ≤ (5 : Int))) (∃ s29 : Sl, World.cell? w2 ⟨w.heap.size, (0 + 1), none⟩ = some (.slice s29.a s29.n s29.c) ∧ cond (decide (((s29.n : Nat) : Int) ≥ (1 : Int))) (∃ s35 : Sl, World.cell? w2 ⟨w.heap.size, (0 + 1), none⟩ = some (.slice s35.a s35.n s35.c) ∧ J (decide (((s35.n : Nat) : Int) ≤ (2 : Int))) w2) (J false w2)) (J false w2)) (J false w2))) (fun J_2 =>
    LoopV [(8, .int .i64)] (fun K => K (0 : Int) w1) (fun N => fun (x8 : Int) (w4 : World) =>
    cond (decide (x8 < ((s6.n : Nat) : Int))) (
    Join [] (fun (w5 : World) => N (IntKind.wrap .i64 (x8 + (1 : Int))) w5) (fun J_3 =>
    ∃ p10 : Pt, s6.a = some ⟨p10.b, p10.o, none⟩ ∧ 0 ≤ x8 ∧ x8 < ((s6.n : Nat) : Int) ∧ ∃ x11 : Int, World.cell? w4 ⟨p10.b, (p10.o + Int.toNat x8 * 1), none⟩ = some (.int .i64 x11) ∧ Join [(17, .bool)] (fun (b17 : Bool) (w6 : World) => cond b17 (
    R (.bool false) w6) (
    J_3 w6)) (fun J_4 =>
    cond (decide (x11 < lo)) (J_4 true w4) (J_4 (decide (x11 > up)) w4)))) (
    J_2 w4))) := by
  have hn := hx.len
  obtain ⟨b1, x1⟩ := eF_cells w x T
  refine Let.intro fun w1 e1 => ?_
  have e1 : w1 = w.alloc (.cells (eF x).toArray T) := e1
  rw [← e1] at b1 x1
  refine ⟨x.sl, b1.cell 1, ?_⟩
  refine ⟨fun w2 => Ext w1 w2 ∧ ∀ y ∈ x.args, lo ≤ y ∧ y ≤ up, ?_, ?_⟩
  · rintro w2 ⟨x2, hall⟩
    have b2 := b1.ext x2
    have x02 := x1.trans x2
    refine Join.dir ⟨x.rel, b2.cell 0, cond_intro (fun g1 => ⟨x.rel, b2.cell 0, cond_intro (fun g2 => ⟨x.sl, b2.cell 1, cond_intro (fun g3 => ⟨x.sl, b2.cell 1, hR _ _ ?_ x02⟩) (fun g3 => hR _ _ ?_ x02)⟩) (fun g2 => hR _ _ ?_ x02)⟩) (fun g1 => hR _ _ ?_ x02)⟩
    · have g1 : 0 ≤ x.rel := by simpa using g1
      have g2 : x.rel ≤ 5 := by simpa using g2
      have g3 : 1 ≤ x.args.length := by simp [hn] at g3; omega
      simp only [decide_eq_true_eq]
      constructor
      · intro h; exact ⟨g1, g2, g3, by show x.args.length ≤ 2; omega, hall⟩
      · intro h; have : x.args.length ≤ 2 := h.2.2.2.1; omega
    · have g3 : ¬ 1 ≤ x.args.length := by simp [hn] at g3; omega
      simp only [Bool.false_eq_true, false_iff]; exact fun h => g3 h.2.2.1
    · have g2 : ¬ x.rel ≤ 5 := by simpa using g2
      simp only [Bool.false_eq_true, false_iff]; exact fun h => g2 h.2.1
    · have g1 : ¬ 0 ≤ x.rel := by simpa using g1
      simp only [Bool.false_eq_true, false_iff]; exact fun h => g1 h.1
  · refine rangeI (fun i w4 => Ext w1 w4 ∧ ∀ y ∈ x.args.take i, lo ≤ y ∧ y ≤ up) (by rw [hn]; exact hl) ⟨Fr.refl _ _, by simp⟩ ?_ ?_
    · rintro i hi w4 ⟨x4, hok⟩ K hK
      have hi : i < x.args.length := by omega
      obtain ⟨p, hp, a1, a2, hr⟩ := Ints.at ((hx.ext x1).ext x4) hi
      refine ⟨p, hp, a1, a2, _, hr, ?_⟩
      refine ⟨fun (b17 : Bool) w6 => (b17 = true ↔ ¬ (lo ≤ x.args[i] ∧ x.args[i] ≤ up)) ∧ w6 = w4, ?_, ?_⟩
      · rintro b17 w6 ⟨hb, rfl⟩
        refine cond_intro (fun g => hR _ _ ?_ (x1.trans x4)) (fun g => hK _ ⟨x4, fun y hy => ?_⟩)
        · simp only [Bool.false_eq_true, false_iff]
          exact fun h => hb.1 g (h.2.2.2.2 _ (List.getElem_mem hi))
        · rw [List.take_succ_eq_append_getElem hi, List.mem_append, List.mem_singleton] at hy
          rcases hy with hy | rfl
          · exact hok y hy
          · exact Classical.byContradiction fun h => by rw [hb.2 h] at g; cases g
      · refine cond_intro (fun g => ⟨?_, rfl⟩) (fun g => ⟨?_, rfl⟩)
        · have g : x.args[i] < lo := by simpa using g
          simp only [true_iff]; omega
        · have g : ¬ x.args[i] < lo := by simpa using g
          simp only [decide_eq_true_eq]; omega
    · rintro w2 ⟨x2, hok⟩
      rw [hn, List.take_length] at hok
      exact ⟨x2, hok⟩
theorem c31 {w : World} {x : DF} (hx : Ints w x.sl x.args) (hl : x.args.length ≤ big) :
    Calls Try.prog 31 [.agg [.int .i64 x.rel, .slice x.sl.a x.sl.n x.sl.c].toArray].toArray w fun e w' => ∃ b : Bool, e = .returned (.bool b) ∧ (b = true ↔ GroundF x.p) ∧ Ext w w' := by
  refine (call31 x.rel x.sl (R := fun v w' => ∃ b : Bool, v = .bool b ∧ (b = true ↔ GroundF x.p) ∧ Ext w w') ?_).mono fun e w' ⟨v, he, b, hv, hx⟩ => ⟨b, by rw [he, hv], hx⟩
  exact rangeW (T := 36) hx hl (R := fun v w' => ∃ b : Bool, v = .bool b ∧ (b = true ↔ GroundF x.p) ∧ Ext w w') fun b w' h1 h2 => ⟨b, rfl, h1, h2⟩
theorem c62 {w : World} {x : DF} (hx : Ints w x.sl x.args) (hl : x.args.length ≤ big) :
    Calls Try.prog 62 [.agg [.int .i64 x.rel, .slice x.sl.a x.sl.n x.sl.c].toArray].toArray w fun e w' => ∃ b : Bool, e = .returned (.bool b) ∧ (b = true ↔ FitsF x.p) ∧ Ext w w' := by
  refine (call62 x.rel x.sl (R := fun v w' => ∃ b : Bool, v = .bool b ∧ (b = true ↔ FitsF x.p) ∧ Ext w w') ?_).mono fun e w' ⟨v, he, b, hv, hx⟩ => ⟨b, by rw [he, hv], hx⟩
  exact rangeW (T := 91) hx hl (R := fun v w' => ∃ b : Bool, v = .bool b ∧ (b = true ↔ FitsF x.p) ∧ Ext w w') fun b w' h1 h2 => ⟨b, rfl, h1, h2⟩
/-! ### sets of variables as bits -/
structure Bs (m : Int) (Q : Nat → Prop) : Prop where
  ex : ∃ n : Nat, m = n ∧ n < 256 ∧ ∀ i, n.testBit i = true ↔ Q i
theorem Bs.congr {m : Int} {Q Q' : Nat → Prop} (h : Bs m Q) (e : ∀ i, Q i ↔ Q' i) : Bs m Q' := by
  obtain ⟨n, h1, h2, h3⟩ := h.ex; exact ⟨n, h1, h2, fun i => (h3 i).trans (e i)⟩
theorem Bs.zero : Bs 0 fun _ => False := ⟨0, rfl, by omega, fun i => by simp⟩
theorem or_nat {a b : Nat} (ha : a < 256) (hb : b < 256) : bitsI .or .i64 (a : Int) (b : Int) = ((a ||| b : Nat) : Int) := by
  have h := Nat.or_lt_two_pow (x := a) (y := b) (n := 8) ha hb
  show IntKind.wrap .i64 ((BitVec.ofInt 64 (a : Int) ||| BitVec.ofInt 64 (b : Int)).toNat : Int) = _
  have e1 : (BitVec.ofInt 64 (a : Int)).toNat = a := by rw [BitVec.toNat_ofInt]; omega
  have e2 : (BitVec.ofInt 64 (b : Int)).toNat = b := by rw [BitVec.toNat_ofInt]; omega
  rw [BitVec.toNat_or, e1, e2, wrap64 (by omega) (by omega)]
theorem Bs.or {m m' : Int} {Q Q' : Nat → Prop} (h : Bs m Q) (h' : Bs m' Q') : Bs (bitsI .or .i64 m m') fun i => Q i ∨ Q' i := by
  obtain ⟨n, rfl, h2, h3⟩ := h.ex
  obtain ⟨n', rfl, h2', h3'⟩ := h'.ex
  refine ⟨n ||| n', or_nat h2 h2', Nat.or_lt_two_pow (n := 8) h2 h2', fun i => ?_⟩
  rw [Nat.testBit_or, Bool.or_eq_true, h3, h3']
theorem Bs.bit {x : Int} (h0 : 0 ≤ x) (h7 : x ≤ 7) : Bs (IntKind.wrap .i64 ((1 : Int) * 2 ^ (min (Int.toNat x) (IntKind.bits .i64)))) fun i => (i : Int) = x := by
  obtain ⟨k, rfl⟩ : ∃ k : Nat, x = k := ⟨x.toNat, by omega⟩
  have hk : k ≤ 7 := by omega
  refine ⟨2 ^ k, ?_, ?_, fun i => ?_⟩
  · have e : min (Int.toNat (k : Int)) (IntKind.bits .i64) = k := by
      have : Int.toNat (k : Int) = k := by omega
      rw [this]; exact Nat.min_eq_left (by show k ≤ 64; omega)
    rw [e]
    have e2 : (1 : Int) * 2 ^ k = ((2 ^ k : Nat) : Int) := by rw [Int.one_mul, Int.natCast_pow]; rfl
    rw [e2]
    have := Nat.pow_le_pow_right (n := 2) (by omega) hk
    generalize 2 ^ k = M at this
    exact wrap64 (by omega) (by omega)
  · exact Nat.lt_of_le_of_lt (Nat.pow_le_pow_right (n := 2) (by omega) hk) (by decide)
  · rw [Nat.testBit_two_pow]
    simp only [decide_eq_true_eq]
    omega
theorem Bs.eq {m m' : Int} {Q Q' : Nat → Prop} (h : Bs m Q) (h' : Bs m' Q') : m = m' ↔ ∀ i, Q i ↔ Q' i := by
  obtain ⟨n, rfl, h2, h3⟩ := h.ex
  obtain ⟨n', rfl, h2', h3'⟩ := h'.ex
  constructor
  · intro e i
    have : n = n' := by omega
    subst this
    rw [← h3, ← h3']
  · intro e
    have : n = n' := Nat.eq_of_testBit_eq fun i => by
      have := (h3 i).trans ((e i).trans (h3' i).symm)
      cases h1 : n.testBit i <;> cases h2 : n'.testBit i <;> simp_all
    rw [this]
/-- Is a number a variable of an atom? -/
def IsV (f : Fa) (i : Nat) : Prop := (i : Int) ∈ f.args
theorem c63 {w : World} {x : DF} (hx : Ints w x.sl x.args) (hf : FitsF x.p) :
    Calls Try.prog 63 [.agg [.int .i64 x.rel, .slice x.sl.a x.sl.n x.sl.c].toArray].toArray w fun e w' => ∃ m : Int, e = .returned (.int .i64 m) ∧ Bs m (IsV x.p) ∧ Ext w w' := by
  refine (call63 x.rel x.sl (R := fun v w' => ∃ m : Int, v = .int .i64 m ∧ Bs m (IsV x.p) ∧ Ext w w') ?_).mono fun e w' ⟨v, he, b, hv, hx⟩ => ⟨b, by rw [he, hv], hx⟩
  have hn := hx.len
  have hl2 : x.args.length ≤ 2 := hf.2.2.2.1
  obtain ⟨b1, x1⟩ := eF_cells w x 91
  refine Let.intro fun w1 e1 => ?_
  have e1 : w1 = w.alloc (.cells (eF x).toArray 91) := e1
  rw [← e1] at b1 x1
  refine ⟨x.sl, b1.cell 1, Join.dir (rangeKI (k := .int .i64) (fun i (m : Int) w3 => Bs m (fun j => (j : Int) ∈ x.args.take i) ∧ Ext w w3) (by rw [hn]; show x.args.length ≤ 9223372036854775807; omega) ⟨Bs.zero.congr fun i => by simp, x1⟩ ?_ ?_)⟩
  · rintro i hi m w3 ⟨hm, x3⟩ K hK
    have hi : i < x.args.length := by omega
    obtain ⟨p, hp, a1, a2, hr⟩ := Ints.at (hx.ext x3) hi
    have hb : -6 ≤ x.args[i] ∧ x.args[i] ≤ 7 := hf.2.2.2.2 _ (List.getElem_mem hi)
    refine ⟨p, hp, a1, a2, _, hr, Join.dir (cond_intro (fun g => ?_) (fun g => ?_))⟩
    · have g : 0 ≤ x.args[i] := by simpa using g
      refine ⟨g, hK _ _ ⟨(hm.or (Bs.bit g hb.2)).congr fun j => ?_, x3⟩⟩
      rw [List.take_succ_eq_append_getElem hi, List.mem_append, List.mem_singleton]
    · have g : ¬ 0 ≤ x.args[i] := by simpa using g
      refine hK _ _ ⟨hm.congr fun j => ?_, x3⟩
      rw [List.take_succ_eq_append_getElem hi, List.mem_append, List.mem_singleton]
      constructor
      · exact .inl
      · rintro (h | h)
        · exact h
        · omega
  · rintro m w3 ⟨hm, x3⟩
    rw [hn, List.take_length] at hm
    exact ⟨m, rfl, hm, x3⟩
/-! ### valid -/
abbrev eP (x : Int × Int) : List Value := [.int .i64 x.1, .int .i64 x.2]
theorem eP_len (x : Int × Int) : (eP x).length = 2 := rfl
theorem eP_one (x : Int × Int) : ∀ v ∈ eP x, v.oneCell' = true := by intro v hv; simp [eP] at hv; rcases hv with rfl | rfl <;> rfl
theorem E113 : Elem Try.prog 113 114 2 16 := Elem.of (by kernel_rfl) (by kernel_rfl) (by decide)
theorem zc114s : (zc Try.prog 114).size = 2 := by kernel_rfl
def szF (f : Fa) : Int × Int := (f.rel, (f.args.length : Int))
theorem consist_sz {l : List Fa} : Consist l ↔ ∀ x ∈ l.map szF, ∀ y ∈ l.map szF, x.1 = y.1 → x.2 = y.2 := by
  unfold Consist
  constructor
  · intro h x hx y hy e
    obtain ⟨f, hf, rfl⟩ := List.mem_map.1 hx
    obtain ⟨g, hg, rfl⟩ := List.mem_map.1 hy
    have := h f hf g hg e
    simp [szF, this]
  · intro h f hf g hg e
    have := h _ (List.mem_map.2 ⟨f, hf, rfl⟩) _ (List.mem_map.2 ⟨g, hg, rfl⟩) e
    simp only [szF] at this
    omega
/-- A pair appended. -/
theorem appP {B : Nat} {w : World} {s : Sl} {l : List (Int × Int)} (ho : Own 114 2 eP B w s l) (x : Int × Int) (hl : l.length ≤ 1000000) (hB : B ≤ w.heap.size) :
    ∃ (s1 : Sl) (w1 : World), (Instr.buildSlice 113 1 [(0, .agg [.int .i64 x.1, .int .i64 x.2].toArray)].toArray).run Try.prog w = .ok (.slice s1.a s1.n s1.c) w1 ∧
      ∃ (s' : Sl) (w' : World), (Builtin.append_ #[113, 113] 113 #[.slice s.a s.n s.c, .slice s1.a s1.n s1.c]).run Try.prog w1 = .ok (.slice s'.a s'.n s'.c) w' ∧ Own 114 2 eP B w' s' (l ++ [x]) ∧ Fr (BlS s) w w' :=
  appendOne E113 ho (x := x) rfl eP_len eP_one (by omega) (by omega) (by simp only [maxLen]; omega) hB 113
/-- All variables of a rule are in literals without Not. -/
theorem safe_bits {r : Ru} {a b : Int} (ha : Bs a fun i => ∃ f ∈ r.atoms, IsV f i) (hb : Bs b fun i => ∃ c ∈ r.body, c.neg = false ∧ IsV c.a i) : a = b ↔ SafeP r := by
  rw [ha.eq hb]
  constructor
  · intro h f hf x hx h0
    obtain ⟨k, rfl⟩ : ∃ k : Nat, x = k := ⟨x.toNat, by omega⟩
    exact (h k).1 ⟨f, hf, hx⟩
  · intro h i
    constructor
    · rintro ⟨f, hf, hx⟩
      exact h f hf _ hx (by omega)
    · rintro ⟨c, hc, _, hx⟩
      exact ⟨c.a, by simp [Ru.atoms]; exact .inr ⟨c, hc, rfl⟩, hx⟩
end Go.Proofs.Ytoljknamnkkgcaa
