/-
  Texts Ga, Cp of this proof, joined.
-/
import Derived.Test.YtoljknamnkkgcaaXe6
/-
  The bits of a number; sets of given facts by the bits of a number; contract: Sources.
-/
namespace Go.Proofs.Ytoljknamnkkgcaa
open Go Go.VC
set_option maxHeartbeats 1000000
set_option maxRecDepth 100000

/-! ### bits -/
def bitI (x : Int) (i : Nat) : Bool := (BitVec.ofInt 64 x).getLsbD i
theorem bitI_eq (x : Int) (i : Nat) : bitI x i = decide ((x % 18446744073709551616).toNat / 2 ^ i % 2 = 1) := by
  unfold bitI
  rw [← BitVec.testBit_toNat, BitVec.toNat_ofInt, Nat.testBit_eq_decide_div_mod_eq]
  rfl
theorem bitI_lt {x : Int} {i : Nat} (h : bitI x i = true) : i < 64 := BitVec.lt_of_getLsbD h
theorem bitI_nat {n : Nat} (hn : n < 18446744073709551616) (i : Nat) : bitI (n : Int) i = n.testBit i := by
  rw [bitI_eq, Nat.testBit_eq_decide_div_mod_eq]
  have : ((n : Int) % 18446744073709551616).toNat = n := by omega
  rw [this]
theorem bitI_and (x : Int) {i : Nat} (hi : i < 64) : (bitsI .and .i64 (Int.fdiv x (2 ^ (min i (IntKind.bits .i64)))) (1 : Int) == (1 : Int)) = bitI x i := by
  have e0 : min i (IntKind.bits .i64) = i := Nat.min_eq_left (by show i ≤ 64; omega)
  rw [e0, bitI_eq]
  have hd : (2 : Int) ^ i = ((2 ^ i : Nat) : Int) := by rw [Int.natCast_pow]; rfl
  obtain ⟨c, hc⟩ : ∃ c : Nat, 18446744073709551616 = 2 ^ i * (2 * c) := ⟨2 ^ (63 - i), by
    rw [← Nat.pow_succ', ← Nat.pow_add, show i + (63 - i).succ = 64 from by omega]⟩
  have hd0 : 0 < 2 ^ i := Nat.pow_pos (by omega)
  rw [hd]
  generalize 2 ^ i = d at hc hd0
  show (IntKind.wrap .i64 ((BitVec.ofInt 64 (x.fdiv d) &&& BitVec.ofInt 64 1).toNat : Int) == 1) = _
  have e1 : (BitVec.ofInt 64 (x.fdiv d) &&& BitVec.ofInt 64 1).toNat = ((x.fdiv d) % 18446744073709551616).toNat % 2 := by
    rw [BitVec.toNat_and, BitVec.toNat_ofInt, BitVec.toNat_ofInt]
    exact Nat.and_one_is_mod _
  rw [e1, Int.fdiv_eq_ediv_of_nonneg x (by omega)]
  have e2 : x / (d : Int) = x % 18446744073709551616 / d + 2 * (c * (x / 18446744073709551616)) := by
    have h1 : x = x % 18446744073709551616 + d * (2 * (c * (x / 18446744073709551616))) := by
      have h2 := Int.emod_add_mul_ediv x 18446744073709551616
      have h3 : (18446744073709551616 : Int) = d * (2 * c) := by
        have := congrArg (fun n : Nat => (n : Int)) hc
        simpa using this
      have h4 : (d : Int) * (2 * (c * (x / 18446744073709551616))) = 18446744073709551616 * (x / 18446744073709551616) := by
        rw [show (d : Int) * (2 * (c * (x / 18446744073709551616))) = (d * (2 * c)) * (x / 18446744073709551616) from by simp [Int.mul_assoc], ← h3]
      rw [h4]; omega
    conv => lhs; rw [h1]
    rw [Int.add_mul_ediv_left _ _ (by omega)]
  have hm : 0 ≤ x % 18446744073709551616 := Int.emod_nonneg _ (by decide)
  generalize c * (x / 18446744073709551616) = z at e2
  generalize x % 18446744073709551616 = m at e2 hm
  have e3 : ((m.toNat / d : Nat) : Int) = m / d := by rw [Int.natCast_ediv, Int.toNat_of_nonneg hm]
  rw [e2, ← e3]
  generalize m.toNat / d = y
  rw [wrap64 (by omega) (by omega)]
  by_cases h : y % 2 = 1
  · have : ((((y : Int) + 2 * z) % 18446744073709551616).toNat % 2 : Nat) = 1 := by omega
    rw [this]; simp [h]
  · have : ((((y : Int) + 2 * z) % 18446744073709551616).toNat % 2 : Nat) = 0 := by omega
    rw [this]; simp [h]
theorem bitI_andNot (x y : Int) : (bitsI .andNot .i64 x y == (0 : Int)) = true ↔ ∀ i, bitI x i = true → bitI y i = true := by
  have e : bitsI .andNot .i64 x y = IntKind.wrap .i64 ((BitVec.ofInt 64 x &&& ~~~BitVec.ofInt 64 y).toNat : Int) := rfl
  rw [e]
  have h0 : (IntKind.wrap .i64 ((BitVec.ofInt 64 x &&& ~~~BitVec.ofInt 64 y).toNat : Int) == (0 : Int)) = true ↔ (BitVec.ofInt 64 x &&& ~~~BitVec.ofInt 64 y) = 0#64 := by
    generalize BitVec.ofInt 64 x &&& ~~~BitVec.ofInt 64 y = v
    have hlt : v.toNat < 18446744073709551616 := v.isLt
    have hz : v = 0#64 ↔ v.toNat = 0 := ⟨fun h => by rw [h]; rfl, fun h => BitVec.eq_of_toNat_eq h⟩
    rw [hz, IntKind.wrap_i64, beq_iff_eq]
    generalize v.toNat = n at hlt
    omega
  rw [h0]
  constructor
  · intro h i hi
    have hlt := bitI_lt hi
    have h1 : (BitVec.ofInt 64 x &&& ~~~BitVec.ofInt 64 y).getLsbD i = false := by rw [h]; simp
    rw [BitVec.getLsbD_and, BitVec.getLsbD_not] at h1
    unfold bitI at hi ⊢
    rw [hi] at h1
    simpa [hlt] using h1
  · intro h
    apply BitVec.eq_of_getLsbD_eq
    intro i hi
    rw [BitVec.getLsbD_and, BitVec.getLsbD_not]
    cases hx : (BitVec.ofInt 64 x).getLsbD i with
    | false => simp
    | true =>
      have := h i hx
      unfold bitI at this
      simp [this]
/-! ### given facts by bits -/
def subF (x : Int) (fs : List Fa) : List Fa := (fs.zipIdx.filter fun p => bitI x p.2).map (·.1)
theorem subF_snoc (x : Int) (l : List Fa) (a : Fa) : subF x (l ++ [a]) = subF x l ++ (if bitI x l.length = true then [a] else []) := by
  unfold subF
  rw [List.zipIdx_append, List.filter_append, List.map_append]
  congr 1
  by_cases h : bitI x l.length = true
  · simp [h]
  · simp [h]
theorem mem_subF {x : Int} {fs : List Fa} {f : Fa} : f ∈ subF x fs ↔ ∃ i, fs[i]? = some f ∧ bitI x i = true := by
  unfold subF
  simp only [List.mem_map, List.mem_filter]
  constructor
  · rintro ⟨⟨a, i⟩, ⟨h1, h2⟩, rfl⟩
    exact ⟨i, List.mem_zipIdx_iff_getElem?.1 h1, h2⟩
  · rintro ⟨i, h1, h2⟩
    exact ⟨(f, i), ⟨List.mem_zipIdx_iff_getElem?.2 h1, h2⟩, rfl⟩
theorem subF_sub {x : Int} {fs : List Fa} : ∀ f ∈ subF x fs, f ∈ fs := fun f hf => by
  obtain ⟨i, h, _⟩ := mem_subF.1 hf
  exact List.mem_of_getElem? h
theorem Cl.monoG {l : List Ru} {G G' N : Ky → Prop} (h : ∀ k, G k → G' k) {k : Ky} (hk : Cl l G N k) : Cl l G' N k := fun S hG hS => hk S (fun k hk => hG k (h k hk)) hS
/-- Are the facts of these bits enough? -/
def En' (l : List Ru) (fs : List Fa) (k : Ky) (x : Int) : Prop := Cl l (giv (subF x fs)) (fun _ => False) k
theorem En'.mono {l : List Ru} {fs : List Fa} {k : Ky} {x y : Int} (h : ∀ i, i < fs.length → bitI x i = true → bitI y i = true) (hx : En' l fs k x) : En' l fs k y :=
  Cl.monoG (fun k ⟨f, hf, e⟩ => by
    obtain ⟨i, h1, h2⟩ := mem_subF.1 hf
    have hi : i < fs.length := (List.getElem?_eq_some_iff.1 h1).1
    exact ⟨f, mem_subF.2 ⟨i, h1, h i hi h2⟩, e⟩) hx
def subN (x s : Nat) : Prop := ∀ i, x.testBit i = true → s.testBit i = true
open Classical in
/-- The sources among the first few sets. -/
noncomputable def srcs (E : Nat → Prop) : Nat → List Nat
  | 0 => []
  | n + 1 => if (∀ x ∈ srcs E n, ¬ subN x n) ∧ E n then srcs E n ++ [n] else srcs E n
theorem srcs_yes {E : Nat → Prop} {n : Nat} (h : (∀ x ∈ srcs E n, ¬ subN x n) ∧ E n) : srcs E (n + 1) = srcs E n ++ [n] := by rw [srcs, if_pos h]
theorem srcs_no {E : Nat → Prop} {n : Nat} (h : ¬ ((∀ x ∈ srcs E n, ¬ subN x n) ∧ E n)) : srcs E (n + 1) = srcs E n := by rw [srcs, if_neg h]
theorem srcs_sound {E : Nat → Prop} : ∀ n, ∀ x ∈ srcs E n, E x ∧ x < n
  | 0, x, h => by simp [srcs] at h
  | n + 1, x, h => by
    by_cases hc : (∀ x ∈ srcs E n, ¬ subN x n) ∧ E n
    · rw [srcs_yes hc, List.mem_append, List.mem_singleton] at h
      rcases h with h | rfl
      · have := srcs_sound n x h; exact ⟨this.1, by omega⟩
      · exact ⟨hc.2, by omega⟩
    · rw [srcs_no hc] at h
      have := srcs_sound n x h; exact ⟨this.1, by omega⟩
theorem srcs_step {E : Nat → Prop} {n x : Nat} (h : x ∈ srcs E n) : x ∈ srcs E (n + 1) := by
  by_cases hc : (∀ x ∈ srcs E n, ¬ subN x n) ∧ E n
  · rw [srcs_yes hc]; exact List.mem_append_left _ h
  · rw [srcs_no hc]; exact h
theorem srcs_all {E : Nat → Prop} {m : Nat} (hm : E m) : ∀ n, m < n → ∃ x ∈ srcs E n, subN x m
  | 0, h => by omega
  | n + 1, h => by
    rcases Nat.lt_or_ge m n with h1 | h1
    · obtain ⟨x, hx, hs⟩ := srcs_all hm n h1
      exact ⟨x, srcs_step hx, hs⟩
    · obtain rfl : m = n := by omega
      by_cases hc : ∀ x ∈ srcs E m, ¬ subN x m
      · rw [srcs_yes ⟨hc, hm⟩]; exact ⟨m, by simp, fun i h => h⟩
      · simp only [Classical.not_forall, Classical.not_not] at hc
        obtain ⟨x, hx, hs⟩ := hc
        exact ⟨x, srcs_step hx, hs⟩
theorem srcs_len {E : Nat → Prop} : ∀ n, (srcs E n).length ≤ n
  | 0 => by simp [srcs]
  | n + 1 => by
    have := srcs_len (E := E) n
    by_cases hc : (∀ x ∈ srcs E n, ¬ subN x n) ∧ E n
    · rw [srcs_yes hc]; simp; omega
    · rw [srcs_no hc]; omega
/-! ### is there one among them? -/
theorem c34 {f : Nat} {cs : List Value} {p : Int → Bool} {w : World} {s : Sl} {l : List Int} (hca : callable Try.prog f = true) (hs : Ints w s l) (hl : l.length ≤ big)
    (hcall : ∀ w' x, Ext w w' → Calls Try.prog f (([.int .i64 x] : List Value) ++ cs).toArray w' fun e w2 => e = .returned (.bool (p x)) ∧ Ext w' w2) :
    Calls Try.prog 34 [.slice s.a s.n s.c, .func (.func f) #[] cs.toArray].toArray w fun e w' => e = .returned (.bool (l.any p)) ∧ Ext w w' := by
  refine (call34 s f cs (R := fun v w' => v = .bool (l.any p) ∧ Ext w w') ?_).mono fun e w' ⟨v, he, hv, hx⟩ => ⟨by rw [he, hv], hx⟩
  have hn := hs.len
  refine (call83 s f cs (R := fun v w' => ∃ m : Int, v = .int .i64 m ∧ (decide (m ≥ 0) = l.any p) ∧ Ext w w') ?_).mono fun e w1 ⟨v, he, m, hv, hm, x1⟩ => ⟨m, by rw [he, hv], by rw [hm], x1⟩
  refine Join.dir (rangeI (fun i w2 => (∀ x ∈ l.take i, p x = false) ∧ Ext w w2) (by rw [hn]; exact hl) ⟨by simp, Fr.refl _ _⟩ ?_ ?_)
  · rintro i hi w2 ⟨hno, x2⟩ K hK
    have hi : i < l.length := by omega
    obtain ⟨q, hq, a1, a2, hr⟩ := Ints.at (hs.ext x2) hi
    refine ⟨q, hq, a1, a2, _, hr, ?_⟩
    rw [hca]
    refine (hcall w2 l[i] x2).mono fun e w4 ⟨he, x4⟩ => ⟨_, he, cond_intro (fun g => ?_) (fun g => ?_)⟩
    · refine ⟨(i : Int), rfl, ?_, x2.trans x4⟩
      have : l.any p = true := List.any_eq_true.2 ⟨_, List.getElem_mem hi, g⟩
      rw [this]; simp
    · refine hK _ ⟨fun x hx => ?_, x2.trans x4⟩
      rw [List.take_succ_eq_append_getElem hi, List.mem_append, List.mem_singleton] at hx
      rcases hx with hx | rfl
      · exact hno x hx
      · exact g
  · rintro w2 ⟨hno, x2⟩
    rw [hn, List.take_length] at hno
    refine ⟨-1, rfl, ?_, x2⟩
    have : l.any p = false := List.any_eq_false.2 fun x hx => by rw [hno x hx]; simp
    rw [this]; decide
theorem callable76 : callable Try.prog 76 = true := by kernel_rfl
theorem callable78 : callable Try.prog 78 = true := by kernel_rfl
theorem callable81 : callable Try.prog 81 = true := by kernel_rfl
/-- Has some Lit Not? -/
theorem c77 {w : World} {s : Sl} {l : List DL} (hs : NL w s l) (hl : l.length ≤ big) :
    Calls Try.prog 77 [.slice s.a s.n s.c, .func (.func 78) #[] [].toArray].toArray w fun e w' => e = .returned (.bool (l.any fun b => b.neg)) ∧ Ext w w' := by
  refine (call77 s 78 [] (R := fun v w' => v = .bool (l.any fun b => b.neg) ∧ Ext w w') ?_).mono fun e w' ⟨v, he, hv, hx⟩ => ⟨by rw [he, hv], hx⟩
  have hn := hs.sl.len
  refine (call119 s 78 [] (R := fun v w' => ∃ m : Int, v = .int .i64 m ∧ (decide (m ≥ 0) = l.any fun b => b.neg) ∧ Ext w w') ?_).mono fun e w1 ⟨v, he, m, hv, hm, x1⟩ => ⟨m, by rw [he, hv], by rw [hm], x1⟩
  refine Join.dir (rangeI (fun i w2 => (∀ b ∈ l.take i, b.neg = false) ∧ Ext w w2) (by rw [hn]; exact hl) ⟨by simp, Fr.refl _ _⟩ ?_ ?_)
  · rintro i hi w2 ⟨hno, x2⟩ K hK
    have hi : i < l.length := by omega
    obtain ⟨q, hq, a1, a2, hr⟩ := Sli.at eL_len (hs.ext x2).sl hi
    refine ⟨q, hq, a1, a2, _, _, _, hr, ?_⟩
    rw [callable78]
    show Calls Try.prog 78 _ w2 _
    refine (call78 (l[i]).neg (l[i]).a.rel (l[i]).a.sl (R := fun v w' => v = .bool (l[i]).neg ∧ Ext w2 w') ?_).mono fun e w4 ⟨v, he, hv, x4⟩ => ⟨(l[i]).neg, by rw [he, hv], cond_intro (fun g => ?_) (fun g => ?_)⟩
    · refine Let.intro fun w3 e3 => ?_
      have e3 : w3 = w2.alloc (.cells (eL l[i]).toArray 54) := e3
      have b3 : Blk w3 w2.heap.size (eL l[i]) 54 := by rw [e3]; exact Blk.alloc w2 _ 54
      exact ⟨_, b3.cell 0, rfl, by rw [e3]; exact Ext.alloc ..⟩
    · refine ⟨(i : Int), rfl, ?_, x2.trans x4⟩
      have : (l.any fun b => b.neg) = true := List.any_eq_true.2 ⟨_, List.getElem_mem hi, g⟩
      rw [this]; simp
    · refine hK _ ⟨fun x hx => ?_, x2.trans x4⟩
      rw [List.take_succ_eq_append_getElem hi, List.mem_append, List.mem_singleton] at hx
      rcases hx with hx | rfl
      · exact hno x hx
      · exact g
  · rintro w2 ⟨hno, x2⟩
    rw [hn, List.take_length] at hno
    refine ⟨-1, rfl, ?_, x2⟩
    have : (l.any fun b => b.neg) = false := List.any_eq_false.2 fun x hx => by rw [hno x hx]; simp
    rw [this]; decide
theorem c75 {w : World} {s : Sl} {l : List DR} (hs : NR w s l) (hl : l.length ≤ big) (hb : ∀ r ∈ l, r.body.length ≤ big) :
    Calls Try.prog 75 [.slice s.a s.n s.c, .func (.func 76) #[] [].toArray].toArray w fun e w' => ∃ b : Bool, e = .returned (.bool b) ∧ (b = false ↔ PlainP (l.map DR.p)) ∧ Ext w w' := by
  have hcase : ∀ r : DR, (r.body.any fun b => b.neg) = false ↔ ∀ b ∈ r.p.body, b.neg = false := fun r => by
    rw [List.any_eq_false]
    constructor
    · intro h b hb
      obtain ⟨x, hx, rfl⟩ := List.mem_map.1 hb
      have := h x hx
      simpa [DL.p] using this
    · intro h x hx
      have : x.p.neg = false := h x.p (List.mem_map.2 ⟨x, hx, rfl⟩)
      have : x.neg = false := this
      simp [this]
  refine (call75 s 76 [] (R := fun v w' => ∃ b : Bool, v = .bool b ∧ (b = false ↔ PlainP (l.map DR.p)) ∧ Ext w w') ?_).mono fun e w' ⟨v, he, b, hv, hx⟩ => ⟨b, by rw [he, hv], hx⟩
  have hn := hs.len
  refine (call118 s 76 [] (R := fun v w' => ∃ m : Int, v = .int .i64 m ∧ (decide (m ≥ 0) = false ↔ PlainP (l.map DR.p)) ∧ Ext w w') ?_).mono fun e w1 ⟨v, he, m, hv, hm, x1⟩ => ⟨m, by rw [he, hv], _, rfl, hm, x1⟩
  refine Join.dir (rangeI (fun i w2 => (∀ r ∈ l.take i, ∀ b ∈ r.p.body, b.neg = false) ∧ Ext w w2) (by rw [hn]; exact hl) ⟨by simp, Fr.refl _ _⟩ ?_ ?_)
  · rintro i hi w2 ⟨hno, x2⟩ K hK
    have hi : i < l.length := by omega
    obtain ⟨q, hq, a1, a2, hr⟩ := Sli.at eR_len (hs.ext x2).sl hi
    refine ⟨q, hq, a1, a2, _, _, _, hr, ?_⟩
    rw [callable76]
    show Calls Try.prog 76 _ w2 _
    have hro := (hs.ok _ (List.getElem_mem hi)).ext x2
    refine (call76 (l[i]).head.rel (l[i]).head.sl (l[i]).bs (R := fun v w' => v = .bool ((l[i]).body.any fun b => b.neg) ∧ Ext w2 w') ?_).mono fun e w4 ⟨v, he, hv, x4⟩ => ⟨(l[i]).body.any fun b => b.neg, by rw [he, hv], cond_intro (fun g => ?_) (fun g => ?_)⟩
    · refine Let.intro fun w3 e3 => ?_
      have e3 : w3 = w2.alloc (.cells (eR l[i]).toArray 52) := e3
      have b3 : Blk w3 w2.heap.size (eR l[i]) 52 := by rw [e3]; exact Blk.alloc w2 _ 52
      have x3 : Ext w2 w3 := by rw [e3]; exact Ext.alloc ..
      exact ⟨_, b3.cell 2, (c77 (hro.bd.ext x3) (hb _ (List.getElem_mem hi))).mono fun e w5 ⟨he, x5⟩ => ⟨_, he, rfl, x3.trans x5⟩⟩
    · refine ⟨(i : Int), rfl, ?_, x2.trans x4⟩
      constructor
      · intro h; simp at h
      · intro h
        have := (hcase l[i]).2 fun b hb => h _ (List.mem_map.2 ⟨_, List.getElem_mem hi, rfl⟩) b hb
        rw [g] at this; cases this
    · refine hK _ ⟨fun x hx => ?_, x2.trans x4⟩
      rw [List.take_succ_eq_append_getElem hi, List.mem_append, List.mem_singleton] at hx
      rcases hx with hx | rfl
      · exact hno x hx
      · exact (hcase _).1 g
  · rintro w2 ⟨hno, x2⟩
    rw [hn, List.take_length] at hno
    refine ⟨-1, rfl, ?_, x2⟩
    constructor
    · intro _ r hr
      obtain ⟨x, hx, rfl⟩ := List.mem_map.1 hr
      exact hno x hx
    · intro _; decide
theorem c81 {w : World} {q : Nat} {y x : Int} (hq : Blk w q [.int .i64 y] 3) :
    Calls Try.prog 81 (([.int .i64 x] : List Value) ++ ([.pointer (some ⟨q, 0, none⟩)] : List Value)).toArray w fun e w' => e = .returned (.bool (bitsI .andNot .i64 x y == (0 : Int))) ∧ Ext w w' :=
  (call81 x ⟨q, 0⟩ (R := fun v w' => v = .bool (bitsI .andNot .i64 x y == (0 : Int)) ∧ Ext w w') ⟨y, hq.cell 0, rfl, Fr.refl _ _⟩).mono fun e w' ⟨v, he, hv, hx⟩ => ⟨by rw [he, hv], hx⟩
/-- Are some given facts enough? -/
theorem c79 {w : World} {bF bR bK : Nat} {sF sR : Sl} {fs : List DF} {l : List DR} {f : DF} {x : Int} (h1 : Blk w bF [.slice sF.a sF.n sF.c] 23) (h2 : Blk w bR [.slice sR.a sR.n sR.c] 27) (h3 : Blk w bK (eF f) 36)
    (hs : NR w sR l) (hf : NF w sF fs) (hx : Ints w f.sl f.args) (hru : ∀ r ∈ l, RuleP r.p) (hl : l.length ≤ 100) (hgr : ∀ g ∈ fs, GroundF g.p) (hfl : fs.length ≤ 20) (hg : GroundF f.p) :
    Calls Try.prog 79 [.int .i64 x, .pointer (some ⟨bF, 0, none⟩), .pointer (some ⟨bR, 0, none⟩), .pointer (some ⟨bK, 0, none⟩)].toArray w fun e w' => ∃ b : Bool, e = .returned (.bool b) ∧ (b = true ↔ En' (l.map DR.p) (fs.map DF.p) f.p.k x) ∧ Ext w w' := by
  refine (call79 x ⟨bF, 0⟩ ⟨bR, 0⟩ ⟨bK, 0⟩ (R := fun v w' => ∃ b : Bool, v = .bool b ∧ (b = true ↔ En' (l.map DR.p) (fs.map DF.p) f.p.k x) ∧ Ext w w') ?_).mono fun e w' ⟨v, he, b, hv, hx⟩ => ⟨b, by rw [he, hv], hx⟩
  have hn := hf.len
  have hne : ∀ {g : DF}, GroundF g.p → g.args ≠ [] := fun h e => by have := h.2.2.1; simp [DF.p, e] at this
  refine Let.intro fun w1 e1 => ?_
  have m1 : FM w1 w.heap.size fun _ => False := by rw [e1]; exact SetM.made w
  have x1 : Ext w w1 := by rw [e1]; exact Ext.alloc ..
  refine ⟨sF, (h1.ext x1).cell 0, ?_⟩
  refine ⟨fun w2 => FM w2 w.heap.size (giv (subF x (fs.map DF.p))) ∧ Ext w w2, ?_, ?_⟩
  · rintro w2 ⟨m2, x2⟩
    refine Join.dir ?_
    refine ⟨fun u => Ext w2 u, Ext.drew _, Let.intro fun w3 e3 => ?_⟩
    have x3 : Ext w2 w3 := by rw [e3]; exact Ext.drew _
    have x03 := x2.trans x3
    refine ⟨sR, fun u hu => (h2.ext (x2.trans hu)).cell 0, f.rel, f.sl, fun u hu => (h3.ext (x2.trans hu)).rd, ?_⟩
    have hGin : ∀ k, giv (subF x (fs.map DF.p)) k → InU k := giv_in fun g hg' => by
      have := subF_sub g hg'
      obtain ⟨y, hy, rfl⟩ := List.mem_map.1 this
      exact hgr y hy
    have few : Few (Cl (l.map DR.p) (giv (subF x (fs.map DF.p))) fun _ => False) := few_of (Cl_in hGin fun r hr => by
      obtain ⟨y, hy, rfl⟩ := List.mem_map.1 hr
      exact (hru y hy).2.2 _ (by simp [Ru.atoms]))
    refine (c68 (hs.ext x03) (m2.ext x3) (m2 := none) (.inl ⟨rfl, fun k h => h⟩) hl (fun r hr => (hru r hr).ok) few).mono fun e w4 ⟨b4, he, m4, _, x4⟩ => ⟨_, he, x3.trans x4, ?_⟩
    refine (c80 (hx.ext (x03.trans x4)) (hne hg)).mono fun e w5 ⟨he, x5⟩ => ⟨_, _, _, he, (x3.trans x4).trans x5, ?_⟩
    obtain ⟨b, hr, hb⟩ := (m4.ext x5).look K121 u105 zero4 f.p.k
    exact ⟨b, hr, b, rfl, hb, (x03.trans x4).trans x5⟩
  · refine rangeI (fun i w6 => FM w6 w.heap.size (giv (subF x ((fs.take i).map DF.p))) ∧ Ext w w6) (by rw [hn]; show fs.length ≤ 9223372036854775807; omega) ⟨m1.congr fun k => by simp [giv, subF], x1⟩ ?_ ?_
    rotate_left
    · rintro w6 ⟨h, x6⟩
      rw [hn, List.take_length] at h
      exact ⟨h, x6⟩
    rintro i hi w6 ⟨m6, x6⟩ K hK
    have hi : i < fs.length := by omega
    refine loadF (hf.ext x6) hi zc36 fun w9 b9 x9 => ⟨by omega, Join.dir ?_⟩
    have hti : (fs.take (i + 1)).map DF.p = (fs.take i).map DF.p ++ [(fs[i]).p] := by rw [List.take_succ_eq_append_getElem hi, List.map_append]; rfl
    have hlen : ((fs.take i).map DF.p).length = i := by simp; omega
    have hsn := subF_snoc x ((fs.take i).map DF.p) (fs[i]).p
    rw [← hti, hlen] at hsn
    have hm := List.getElem_mem hi
    have eb : Int.toNat (i : Int) = i := by omega
    rw [eb, bitI_and x (by omega)]
    refine cond_intro (fun g => ?_) (fun g => ?_)
    · rw [if_pos g] at hsn
      refine ⟨_, _, b9.rd, (c80 (((hf.ok _ hm).ext x6).ext x9) (hne (hgr _ hm))).mono fun e w11 ⟨he, x11⟩ => ⟨_, _, _, he, ?_⟩⟩
      obtain ⟨w12, hrun, m12, f12⟩ := ((m6.ext x9).ext x11).put K121 u105 (fs[i]).p.k
      refine ⟨w12, hrun, hK _ ⟨m12.congr fun k => ?_, ((x6.trans x9).trans x11).newer f12 fun y (hy : y = w.heap.size) => by omega⟩⟩
      rw [hsn]
      constructor
      · rintro ⟨a, ha, e⟩
        rcases List.mem_append.1 ha with ha | ha
        · exact .inl ⟨a, ha, e⟩
        · simp only [List.mem_singleton] at ha; subst ha; exact .inr e.symm
      · rintro (⟨a, ha, e⟩ | e)
        · exact ⟨a, List.mem_append_left _ ha, e⟩
        · exact ⟨_, by simp, e.symm⟩
    · rw [if_neg (by rw [g]; simp), List.append_nil] at hsn
      exact hK _ ⟨by rw [hsn]; exact m6.ext x9, x6.trans x9⟩
theorem pow10 : ∀ n ≤ 10, IntKind.wrap .i64 ((1 : Int) * 2 ^ (min n (IntKind.bits .i64))) = ((2 ^ n : Nat) : Int) := by decide +kernel
def cI (n : Nat) : Int := n
/-- Sources. -/
theorem c30 {w : World} {s s' : Sl} {l : List DR} {fs : List DF} {f : DF} (hs : NR w s l) (hf : NF w s' fs) (hx : Ints w f.sl f.args) (hl : l.length ≤ 1000000) (hfl : fs.length ≤ 1000000) (hz : ∀ r ∈ l, SzR r) (hzf : ∀ f ∈ fs, f.args.length ≤ 1000) (hxl : f.args.length ≤ big) :
    Calls Try.prog 30 [.slice s.a s.n s.c, .slice s'.a s'.n s'.c, .agg [.int .i64 f.rel, .slice f.sl.a f.sl.n f.sl.c].toArray].toArray w fun e w' => ∃ (s2 : Sl) (x : Int) (out : List Nat), e = .returned (.tuple [.slice s2.a s2.n s2.c, .int .i64 x].toArray) ∧ Ints w' s2 (out.map cI) ∧
      ((¬ (ValidP (l.map DR.p) (fs.map DF.p) ∧ GroundF f.p ∧ PlainP (l.map DR.p)) ∧ x = 2 ∧ out = []) ∨ ((ValidP (l.map DR.p) (fs.map DF.p) ∧ GroundF f.p ∧ PlainP (l.map DR.p)) ∧ 10 < fs.length ∧ x = 3 ∧ out = []) ∨
        ((ValidP (l.map DR.p) (fs.map DF.p) ∧ GroundF f.p ∧ PlainP (l.map DR.p)) ∧ fs.length ≤ 10 ∧ x = 0 ∧ ((¬ En' (l.map DR.p) (fs.map DF.p) f.p.k ((2 ^ fs.length - 1 : Nat) : Int) ∧ out = []) ∨ (En' (l.map DR.p) (fs.map DF.p) f.p.k ((2 ^ fs.length - 1 : Nat) : Int) ∧ out = srcs (fun n => En' (l.map DR.p) (fs.map DF.p) f.p.k (n : Int)) (2 ^ fs.length))))) ∧ Ext w w' := by
  refine (call30 s s' f.rel f.sl (R := fun v w' => ∃ (s2 : Sl) (x : Int) (out : List Nat), v = (.tuple [.slice s2.a s2.n s2.c, .int .i64 x].toArray) ∧ Ints w' s2 (out.map cI) ∧
      ((¬ (ValidP (l.map DR.p) (fs.map DF.p) ∧ GroundF f.p ∧ PlainP (l.map DR.p)) ∧ x = 2 ∧ out = []) ∨ ((ValidP (l.map DR.p) (fs.map DF.p) ∧ GroundF f.p ∧ PlainP (l.map DR.p)) ∧ 10 < fs.length ∧ x = 3 ∧ out = []) ∨
        ((ValidP (l.map DR.p) (fs.map DF.p) ∧ GroundF f.p ∧ PlainP (l.map DR.p)) ∧ fs.length ≤ 10 ∧ x = 0 ∧ ((¬ En' (l.map DR.p) (fs.map DF.p) f.p.k ((2 ^ fs.length - 1 : Nat) : Int) ∧ out = []) ∨ (En' (l.map DR.p) (fs.map DF.p) f.p.k ((2 ^ fs.length - 1 : Nat) : Int) ∧ out = srcs (fun n => En' (l.map DR.p) (fs.map DF.p) f.p.k (n : Int)) (2 ^ fs.length))))) ∧ Ext w w') ?_).mono fun e w' ⟨v, he, s2, x, out, hv, hx⟩ => ⟨s2, x, out, by rw [he, hv], hx⟩
  have hfn := hf.len
  refine Let.intro fun w1 e1 => ?_
  have b1 : Blk w1 w.heap.size [.slice s.a s.n s.c] 27 := by rw [e1]; exact Blk.alloc w [.slice s.a s.n s.c] 27
  have x1 : Ext w w1 := by rw [e1]; exact Ext.alloc ..
  refine Let.intro fun w2 e2 => ?_
  have b2 : Blk w2 w1.heap.size [.slice s'.a s'.n s'.c] 23 := by rw [e2]; exact Blk.alloc w1 [.slice s'.a s'.n s'.c] 23
  have x2 : Ext w1 w2 := by rw [e2]; exact Ext.alloc ..
  obtain ⟨b3, x3⟩ := eF_cells w2 f 36
  refine Let.intro fun w3 e3 => ?_
  have e3 : w3 = w2.alloc (.cells (eF f).toArray 36) := e3
  rw [← e3] at b3 x3
  have b1 := (b1.ext x2).ext x3
  have b2 := b2.ext x3
  have x03 := (x1.trans x2).trans x3
  refine ⟨fun (b23 : Bool) w4 => (b23 = false ↔ (ValidP (l.map DR.p) (fs.map DF.p) ∧ GroundF f.p ∧ PlainP (l.map DR.p))) ∧ Ext w3 w4, ?_, ?_⟩
  rotate_left
  · refine ⟨s, b1.cell 0, s', b2.cell 0, (c55 (hs.ext x03) (hf.ext x03) hl hfl hz hzf).mono fun e w17 ⟨b, he, hb, x17⟩ => ⟨b, he, cond_intro (fun g => ?_) (fun g => ?_)⟩⟩
    · have g : b = false := by simpa using g
      exact ⟨⟨(fun h => by cases h), fun h => by have := hb.2 h.1; rw [g] at this; cases this⟩, x17⟩
    have g : b = true := by simpa using g
    have hv := hb.1 g
    refine ⟨_, _, (b3.ext x17).rd, (c74 ((hx.ext x03).ext x17) hxl).mono fun e w18 ⟨he, x18⟩ => ⟨_, he, cond_intro (fun g2 => ?_) (fun g2 => ?_)⟩⟩
    · have g2 : ¬ GroundF f.p := by simpa using g2
      exact ⟨⟨(fun h => by cases h), fun h => absurd h.2.1 g2⟩, x17.trans x18⟩
    have g2 : GroundF f.p := by simpa using g2
    have hl10 : l.length ≤ 10 := by have := hv.nl; simpa using this
    refine ⟨s, (b1.ext (x17.trans x18)).cell 0, (c75 (hs.ext ((x03.trans x17).trans x18)) (by show l.length ≤ 9223372036854775807; omega) (fun r hr => by have := (hz r hr).1; show r.body.length ≤ 9223372036854775807; omega)).mono fun e w19 ⟨b22, he, hb22, x19⟩ => ⟨b22, he, ?_, (x17.trans x18).trans x19⟩⟩
    rw [hb22]
    exact ⟨fun h => ⟨hv, g2, h⟩, fun h => h.2.2⟩
  rintro b23 w4 ⟨hb23, x4⟩
  have x04 := x03.trans x4
  refine cond_intro (fun g => ?_) (fun g => ?_)
  · subst g
    exact ⟨⟨none, 0, 0⟩, 2, [], rfl, Sli.nil _ _, .inl ⟨(fun h => by have := hb23.2 h; cases this), rfl, rfl⟩, x04⟩
  have hV := hb23.1 g
  obtain ⟨hv, hg, hpl⟩ := hV
  have hru : ∀ r ∈ l, RuleP r.p := fun r hr => hv.ru _ (List.mem_map.2 ⟨r, hr, rfl⟩)
  have hgr : ∀ g ∈ fs, GroundF g.p := fun g hg => hv.gr _ (List.mem_map.2 ⟨g, hg, rfl⟩)
  have hl10 : l.length ≤ 10 := by have := hv.nl; simpa using this
  have hf20 : fs.length ≤ 20 := by have := hv.nf; simpa using this
  refine ⟨s', (b2.ext x4).cell 0, cond_intro (fun g2 => ?_) (fun g2 => ?_)⟩
  · have g2 : 10 < fs.length := by simp at g2; omega
    exact ⟨⟨none, 0, 0⟩, 3, [], rfl, Sli.nil _ _, .inr (.inl ⟨⟨hv, hg, hpl⟩, g2, rfl, rfl⟩), x04⟩
  have g2 : fs.length ≤ 10 := by simp at g2; omega
  have en : Int.toNat ((s'.n : Nat) : Int) = fs.length := by omega
  have hpw : 2 ^ fs.length ≤ 1024 := Nat.pow_le_pow_right (n := 2) (by omega) g2
  have hpw0 : 0 < 2 ^ fs.length := Nat.pow_pos (by omega)
  refine ⟨s', (b2.ext x4).cell 0, by omega, ?_⟩
  rw [en, pow10 _ g2]
  have ew : IntKind.wrap .i64 (((2 ^ fs.length : Nat) : Int) - 1) = ((2 ^ fs.length - 1 : Nat) : Int) := by rw [wrap64 (by omega) (by omega)]; omega
  rw [ew]
  generalize hE : (fun n : Nat => En' (l.map DR.p) (fs.map DF.p) f.p.k (n : Int)) = E
  have hE' : ∀ n : Nat, En' (l.map DR.p) (fs.map DF.p) f.p.k (n : Int) = E n := fun n => by rw [← hE]
  have call79' : ∀ (w' : World) (n : Nat), Ext w3 w' → Calls Try.prog 79 [.int .i64 (n : Int), .pointer (some ⟨w1.heap.size, 0, none⟩), .pointer (some ⟨w.heap.size, 0, none⟩), .pointer (some ⟨w2.heap.size, 0, none⟩)].toArray w' fun e w2 => ∃ b : Bool, e = .returned (.bool b) ∧ (b = true ↔ E n) ∧ Ext w' w2 := fun w' n x' => by
    rw [← hE']
    exact c79 (b2.ext x') (b1.ext x') (b3.ext x') (hs.ext (x03.trans x')) (hf.ext (x03.trans x')) (hx.ext (x03.trans x')) hru (by omega) hgr hf20 hg
  refine (call79' w4 (2 ^ fs.length - 1) x4).mono fun e w5 ⟨b33, he, hb33, x5⟩ => ⟨b33, he, ?_⟩
  rw [hE']
  have x35 := x4.trans x5
  have x05 := x03.trans x35
  refine cond_intro (fun g3 => ?_) (fun g3 => ?_)
  · have g3 : b33 = false := by simpa using g3
    exact ⟨⟨none, 0, 0⟩, 0, [], rfl, Sli.nil _ _, .inr (.inr ⟨⟨hv, hg, hpl⟩, g2, rfl, .inl ⟨(fun h => by rw [hb33.2 h] at g3; cases g3), rfl⟩⟩), x05⟩
  have g3 : b33 = true := by simpa using g3
  refine ⟨s', (b2.ext x35).cell 0, by omega, ?_⟩
  rw [en, pow10 _ g2]
  refine Join.dir (rangeSI (fun i (s9 : Sl) w7 => Own 3 1 eI w5.heap.size w7 s9 ((srcs E i).map cI) ∧ w5.heap.size ≤ w7.heap.size ∧ Ext w3 w7) (by show 2 ^ fs.length ≤ 9223372036854775807; omega) ⟨by simpa [srcs] using Own.nil 3 1 eI _ _, Nat.le_refl _, x35⟩ ?_ ?_)
  rotate_left
  · rintro s9 w7 ⟨ho, _, x7⟩
    exact ⟨s9, 0, srcs E (2 ^ fs.length), rfl, ho.sli, .inr (.inr ⟨⟨hv, hg, hpl⟩, g2, rfl, .inr ⟨hb33.1 g3, rfl⟩⟩), x03.trans x7⟩
  rintro i hi s9 w7 ⟨ho, z7, x7⟩ K hK
  obtain ⟨n1, n2, n3⟩ := new_var w7 3 (z := zc Try.prog 3) (vs := [.int .i64 (i : Int)]) (by kernel_rfl) (by intro v hv; simp at hv; subst hv; rfl)
  refine Let.intro fun w9 e9 => ?_
  rw [← e9] at n1 n2 n3
  refine ⟨n1, Let.intro fun w10 e10 => ?_⟩
  rw [← e10] at n2 n3
  have x10 := x7.trans n3
  have hsl := srcs_len (E := E) i
  have hany : ((srcs E i).map cI).any (fun x => bitsI .andNot .i64 x (i : Int) == (0 : Int)) = true ↔ ∃ x ∈ srcs E i, subN x i := by
    rw [List.any_eq_true]
    constructor
    · rintro ⟨x, hx, h⟩
      obtain ⟨n, hn, rfl⟩ := List.mem_map.1 hx
      have hlt := (srcs_sound i n hn).2
      refine ⟨n, hn, fun j hj => ?_⟩
      have := (bitI_andNot _ _).1 h j (by show bitI ((n : Nat) : Int) j = true; rw [bitI_nat (by omega)]; exact hj)
      rw [bitI_nat (by omega)] at this; exact this
    · rintro ⟨n, hn, h⟩
      have hlt := (srcs_sound i n hn).2
      refine ⟨cI n, List.mem_map.2 ⟨n, hn, rfl⟩, (bitI_andNot _ _).2 fun j hj => ?_⟩
      have hj : bitI ((n : Nat) : Int) j = true := hj
      rw [bitI_nat (by omega)] at hj
      rw [bitI_nat (by omega)]; exact h j hj
  refine ⟨fun (b49 : Bool) w11 => (b49 = true ↔ ((∀ x ∈ srcs E i, ¬ subN x i) ∧ E i)) ∧ Ext w10 w11, ?_, ?_⟩
  rotate_left
  · refine (c34 (p := fun x => bitsI .andNot .i64 x (i : Int) == (0 : Int)) callable81 (ho.ext n3).sli (by show ((srcs E i).map cI).length ≤ 9223372036854775807; simp; omega) (fun w' x x' => c81 (n2.ext x'))).mono fun e w15 ⟨he, x15⟩ => ⟨_, he, cond_intro (fun g4 => ?_) (fun g4 => ?_)⟩
    · have g4 : ¬ ∃ x ∈ srcs E i, subN x i := fun h => by rw [hany.2 h] at g4; simp at g4
      refine ⟨_, (n2.ext x15).cell 0, (call79' w15 i (x10.trans x15)).mono fun e w16 ⟨b48, he, hb48, x16⟩ => ⟨b48, he, ?_, x15.trans x16⟩⟩
      rw [hb48]
      exact ⟨fun h => ⟨fun x hx hs => g4 ⟨x, hx, hs⟩, h⟩, fun h => h.2⟩
    · have g4 : ∃ x ∈ srcs E i, subN x i := hany.1 (by simpa using g4)
      obtain ⟨x, hx, hsx⟩ := g4
      exact ⟨⟨(fun h => by cases h), fun h => absurd hsx (h.1 x hx)⟩, x15⟩
  rintro b49 w11 ⟨hb49, x11⟩
  refine Join.dir (cond_intro (fun g5 => ?_) (fun g5 => ?_))
  · have hc := hb49.1 g5
    have x711 := n3.trans x11
    have hsl2 : ((srcs E i).map cI).length ≤ 1024 := by simp; omega
    obtain ⟨s52, w13, hb52, s53, w14, hr53, ho14, hf14⟩ := appendOne E34 (ho.ext x711) (x := (i : Int)) (v := .int .i64 (i : Int)) rfl eI_len eI_one (by omega) (by omega) (by simp only [maxLen]; omega) (by have := x711.size; omega) 34
    refine ⟨_, (n2.ext x11).cell 0, s52, w13, hb52, s53, w14, hr53, hK _ _ ⟨?_, by have := hf14.size; have := x711.size; omega, (x7.trans x711).newer hf14 fun q ⟨a, ha, e⟩ => by have := (ho.base ha).1; have := x35.size; omega⟩⟩
    rw [srcs_yes hc, List.map_append]; exact ho14
  · have hc : ¬ ((∀ x ∈ srcs E i, ¬ subN x i) ∧ E i) := fun h => by rw [hb49.2 h] at g5; cases g5
    refine hK _ _ ⟨?_, by have := n3.size; have := x11.size; omega, x10.trans x11⟩
    rw [srcs_no hc]; exact (ho.ext n3).ext x11
end Go.Proofs.Ytoljknamnkkgcaa
/-
  Contracts: the rules handed to the program.
-/
namespace Go.Proofs.Ytoljknamnkkgcaa
open Go Go.VC
set_option maxHeartbeats 1000000
set_option maxRecDepth 100000

structure RT (w : World) (r : DR) : Prop where
  hd : TI w r.head.sl r.head.args
  sl : Sli 3 eL w r.bs r.body
  ty : ∀ a, r.bs.a = some a → ∃ cur, Blk w a.block cur 54
  bd : ∀ b ∈ r.body, TI w b.a.sl b.a.args
theorem RT.ok {w : World} {r : DR} (h : RT w r) : RulOk w r := ⟨h.hd.i, h.sl, fun b hb => (h.bd b hb).i⟩
theorem RT.fr {M : Nat → Prop} {w w' : World} {r : DR} (h : RT w r) (f : Fr M w w') (h3 : ∀ q cur, Blk w q cur 3 → ¬ M q) (h54 : ∀ q cur, Blk w q cur 54 → ¬ M q) : RT w' r := by
  have hn : ∀ a, r.bs.a = some a → ¬ M a.block := fun a ha => by obtain ⟨cur, hc⟩ := h.ty a ha; exact h54 _ _ hc
  exact ⟨h.hd.fr f h3, h.sl.fr f hn, fun a ha => by obtain ⟨cur, hc⟩ := h.ty a ha; exact ⟨cur, hc.fr f (hn a ha)⟩, fun b hb => (h.bd b hb).fr f h3⟩
theorem RT.ext {w w' : World} {r : DR} (h : RT w r) (x : Ext w w') : RT w' r := h.fr x (fun _ _ _ h => h) (fun _ _ _ h => h)
def cutL (b : Li) : Li := ⟨b.neg, cut 5 b.a⟩
def ofRu (r : Ru) : Ru := ⟨cut 5 r.head, (r.body.take 5).map cutL⟩
def ofR (l : List Ru) : List Ru := (l.take 12).map ofRu
theorem E50 : Elem Try.prog 50 54 3 40 := Elem.of (by kernel_rfl) (by kernel_rfl) (by decide)
theorem zc94 : (zc Try.prog 94).size = 3 := by kernel_rfl
theorem zc96 : (zc Try.prog 96).size = 3 := by kernel_rfl
theorem loadRT {w : World} {s : Sl} {l : List DR} (hs : NR w s l) {i : Nat} (hi : i < l.length) {T : TypeId} (hz : (zc Try.prog T).size = 3) {B : World → Prop}
    (hB : ∀ w5, Blk w5 w.heap.size (eR l[i]) T → Ext w w5 → B w5) :
    ∃ p : Pt, s.a = some ⟨p.b, p.o, none⟩ ∧ 0 ≤ (i : Int) ∧ (i : Int) < ((s.n : Nat) : Int) ∧ ∃ a : Int, ∃ b : Sl, ∃ c : Sl, rd w p.b (p.o + Int.toNat (i : Int) * 3) [.int .i64 a, .slice b.a b.n b.c, .slice c.a c.n c.c] ∧
      Let (w.alloc (.cells (zc Try.prog T) T)) fun w4 => StoreOk w4 w.heap.size 0 [.int .i64 a, .slice b.a b.n b.c, .slice c.a c.n c.c] 3 ∧ Let (put w4 w.heap.size 0 [.int .i64 a, .slice b.a b.n b.c, .slice c.a c.n c.c]) fun w5 => B w5 := by
  obtain ⟨p, hp, h2, h3, hr⟩ := Sli.at eR_len hs.sl hi
  obtain ⟨a, b, c⟩ := new_var w T (z := zc Try.prog T) (vs := eR l[i]) (by rw [hz, eR_len]) (eR_one _)
  exact ⟨p, hp, h2, h3, _, _, _, hr, a, hB _ b c⟩
theorem loadLT {w : World} {s : Sl} {l : List DL} (hs : NL w s l) {i : Nat} (hi : i < l.length) {T : TypeId} (hz : (zc Try.prog T).size = 3) {B : World → Prop}
    (hB : ∀ w5, Blk w5 w.heap.size (eL l[i]) T → Ext w w5 → B w5) :
    ∃ p : Pt, s.a = some ⟨p.b, p.o, none⟩ ∧ 0 ≤ (i : Int) ∧ (i : Int) < ((s.n : Nat) : Int) ∧ ∃ a : Bool, ∃ b : Int, ∃ c : Sl, rd w p.b (p.o + Int.toNat (i : Int) * 3) [.bool a, .int .i64 b, .slice c.a c.n c.c] ∧
      Let (w.alloc (.cells (zc Try.prog T) T)) fun w4 => StoreOk w4 w.heap.size 0 [.bool a, .int .i64 b, .slice c.a c.n c.c] 3 ∧ Let (put w4 w.heap.size 0 [.bool a, .int .i64 b, .slice c.a c.n c.c]) fun w5 => B w5 := by
  obtain ⟨p, hp, h2, h3, hr⟩ := Sli.at eL_len hs.sl hi
  obtain ⟨a, b, c⟩ := new_var w T (z := zc Try.prog T) (vs := eL l[i]) (by rw [hz, eL_len]) (eL_one _)
  exact ⟨p, hp, h2, h3, _, _, _, hr, a, hB _ b c⟩
theorem c17 {w : World} {s : Sl} {l : List DR} (hs : NR w s l) (hl : l.length ≤ big) (hb : ∀ r ∈ l, r.body.length ≤ big) :
    Calls Try.prog 17 [.slice s.a s.n s.c].toArray w fun e w' => ∃ (s' : Sl) (L : List DR), e = .returned (.slice s'.a s'.n s'.c) ∧ NR w' s' L ∧ L.map DR.p = ofR (l.map DR.p) ∧ Ext w w' := by
  refine (call17 s (R := fun v w' => ∃ (s' : Sl) (L : List DR), v = (.slice s'.a s'.n s'.c) ∧ NR w' s' L ∧ L.map DR.p = ofR (l.map DR.p) ∧ Ext w w') ?_).mono fun e w' ⟨v, he, s', L, hv, hx⟩ => ⟨s', L, by rw [he, hv], hx⟩
  have hn := hs.len
  refine ⟨fun s3 w1 => ∃ L : List DR, Own 52 3 eR w.heap.size w1 s3 L ∧ (∀ r ∈ L, RT w1 r) ∧ L.map DR.p = ofR (l.map DR.p) ∧ Ext w w1, ?_, ?_⟩
  · rintro s3 w1 ⟨L, h1, h2, h3, h4⟩; exact ⟨s3, L, rfl, ⟨h1.sli, fun r hr => (h2 r hr).ok⟩, h3, h4⟩
  refine rangeSI (fun i (s3 : Sl) w1 => ∃ L : List DR, Own 52 3 eR w.heap.size w1 s3 L ∧ (∀ r ∈ L, RT w1 r) ∧ i ≤ 12 ∧ L.map DR.p = (l.take i).map (fun r => ofRu r.p) ∧ Ext w w1) (by rw [hn]; exact hl) ⟨[], Own.nil .., by simp, by omega, by simp, Fr.refl _ _⟩ ?_ ?_
  rotate_left
  · rintro s3 w1 ⟨L, ho, hti, hi12, hLp, x1⟩
    refine ⟨L, ho, hti, ?_, x1⟩
    rw [hLp, hn, List.take_length]
    rw [hn] at hi12
    rw [ofR, List.take_of_length_le (by simp; omega)]; simp
  rintro i hi s3 w2 ⟨L, ho, hrt, hi12, hLp, x2⟩ K hK
  have hi : i < l.length := by omega
  refine loadRT (hs.ext x2) hi zc94 fun w5 b5 x5 => cond_intro (fun g => ?_) (fun g => ?_)
  · have g : i = 12 := by simp at g; omega
    refine ⟨L, ho.ext x5, fun r hr => (hrt r hr).ext x5, ?_, x2.trans x5⟩
    rw [hLp, g]; simp [ofR, List.map_take]; rfl
  have g : i < 12 := by simp at g; omega
  have x25 := x2.trans x5
  have hro := (hs.ok _ (List.getElem_mem hi)).ext x25
  have hro0 := hs.ok _ (List.getElem_mem hi)
  have hbb := hb _ (List.getElem_mem hi)
  have hLl : L.length ≤ 12 := by have := congrArg List.length hLp; simp at this; omega
  have hti : (l.take (i + 1)).map (fun r => ofRu r.p) = (l.take i).map (fun r => ofRu r.p) ++ [ofRu (l[i]).p] := by rw [List.take_succ_eq_append_getElem hi, List.map_append]; rfl
  generalize l[i] = r at b5 hro hro0 hbb hti
  refine ⟨_, _, rdHead b5, (c58 hro.hd).mono fun e w6 ⟨y, he, hyp, hyt, hyb, x6⟩ => ⟨_, _, he, rfl, by decide, ?_⟩⟩
  obtain ⟨n1, n2, n3⟩ := new_var w6 52 (z := zc Try.prog 52) (vs := [.int .i64 y.rel, .slice y.sl.a y.sl.n y.sl.c, .slice none 0 0]) (by rw [zc52]; rfl) (by intro v hv; simp at hv; rcases hv with rfl | rfl | rfl <;> rfl)
  refine Let.intro fun w7 e7 => ?_
  rw [← e7] at n1 n2 n3
  refine ⟨n1, Let.intro fun w8 e8 => ?_⟩
  have e8 : w8 = put w7 w6.heap.size 0 [.int .i64 y.rel, .slice y.sl.a y.sl.n y.sl.c, .slice none 0 0] := e8
  rw [← e8] at n2 n3
  have b5 := (b5.ext x6).ext n3
  have hyt8 := hyt.ext n3
  have x58 := (x5.trans x6).trans n3
  have x28 := x2.trans x58
  refine ⟨r.bs, b5.cell 2, ?_⟩
  have hbn := hro.bd.len
  have lq := n2.lt
  have z28 := x28.size
  have z02 := x2.size
  have z58 := x58.size
  have z6 := x6.size
  have z5 := x5.size
  -- the body
  refine ⟨fun w9 => ∃ (sb : Sl) (B : List DL), Blk w9 w6.heap.size [.int .i64 y.rel, .slice y.sl.a y.sl.n y.sl.c, .slice sb.a sb.n sb.c] 52 ∧ Own 54 3 eL w8.heap.size w9 sb B ∧ (∀ b ∈ B, TI w9 b.a.sl b.a.args) ∧ B.map DL.p = (r.p.body.take 5).map cutL ∧ Fr (fun q => q = w6.heap.size) w8 w9, ?_, ?_⟩
  · rintro w9 ⟨sb, B, b9, hob, hbt, hBp, f9⟩
    refine ⟨_, _, _, b9.rd, ?_⟩
    have hf29 : Ext w2 w9 := x58.newer f9 fun q (hq : q = w6.heap.size) => by omega
    have hyt9 : TI w9 y.sl y.args := hyt8.fr f9 fun q cur hq (e : q = w6.heap.size) => by subst e; exact Blk.ne_ty hq n2 (by decide) rfl
    have hob9 := ho.ext hf29
    let R : DR := ⟨y, sb, B⟩
    have hR9 : RT w9 R := ⟨hyt9, hob.sli, fun a ha => hob.blk ha, hbt⟩
    have hbd := buildOne_run E27 (v := .agg [.int .i64 y.rel, .slice y.sl.a y.sl.n y.sl.c, .slice sb.a sb.n sb.c].toArray) (vs := eR R) rfl rfl (by omega) w9
    have x10 := Ext.alloc w9 (.cells (eR R).toArray 52)
    have hs10 : Sli 3 eR (w9.alloc (.cells (eR R).toArray 52)) ⟨some ⟨w9.heap.size, 0, none⟩, 1, 1⟩ [R] := ⟨rfl, Nat.le_refl _, fun _ => ⟨⟨w9.heap.size, 0⟩, rfl, by simpa using (Blk.alloc w9 (eR R) 52).rd⟩⟩
    obtain ⟨s11, w11, hr11, ho11, hf11⟩ := appendSli E27 (hob9.ext x10) hs10 eR_len eR_one (by simp; omega) (by simp [maxLen]; omega) (by have := x2.size; have := hf29.size; have := x10.size; omega) 27
    refine ⟨⟨some ⟨w9.heap.size, 0, none⟩, 1, 1⟩, _, hbd, s11, w11, hr11, hK _ _ ⟨L ++ [R], ho11, fun r' hr' => ?_, by omega, ?_, ?_⟩⟩
    · have hno : ∀ (T : TypeId), T ≠ 52 → ∀ q cur, Blk (w9.alloc (.cells (eR R).toArray 52)) q cur T → ¬ BlS s3 q := fun T hT q cur hq ⟨a, ha, e⟩ => by
        obtain ⟨cur', hc'⟩ := (hob9.ext x10).blk ha
        rw [e] at hc'
        exact Blk.ne_ty hq hc' hT rfl
      have hr10 : RT (w9.alloc (.cells (eR R).toArray 52)) r' := by
        rcases List.mem_append.1 hr' with hr' | hr'
        · exact ((hrt r' hr').ext hf29).ext x10
        · simp only [List.mem_singleton] at hr'; subst hr'; exact hR9.ext x10
      exact hr10.fr hf11 (hno 3 (by decide)) (hno 54 (by decide))
    · rw [List.map_append, hLp, hti]
      congr 1
      simp only [List.map_cons, List.map_nil]
      congr 1
      show (⟨y.p, B.map DL.p⟩ : Ru) = ofRu r.p
      rw [hBp, hyp]; rfl
    · exact ((x2.trans hf29).trans x10).newer hf11 fun q ⟨a, ha, e⟩ => by have := ((hob9.ext x10).base ha).1; omega
  refine rangeI (fun j w12 => ∃ (sb : Sl) (B : List DL), Blk w12 w6.heap.size [.int .i64 y.rel, .slice y.sl.a y.sl.n y.sl.c, .slice sb.a sb.n sb.c] 52 ∧ Own 54 3 eL w8.heap.size w12 sb B ∧ (∀ b ∈ B, TI w12 b.a.sl b.a.args) ∧ B.map DL.p = ((r.p.body.take j).take 5).map cutL ∧ Fr (fun q => q = w6.heap.size) w8 w12) (by rw [hbn]; exact hbb) ⟨⟨none, 0, 0⟩, [], n2, Own.nil .., by simp, by simp, Fr.refl _ _⟩ ?_ ?_
  rotate_left
  · rintro w12 ⟨sb, B, h1, h2, h3, h4, h5⟩
    have e : r.p.body.take r.bs.n = r.p.body := by rw [hbn]; exact List.take_of_length_le (by simp [DR.p])
    rw [e] at h4
    exact ⟨sb, B, h1, h2, h3, h4, h5⟩
  rintro j hj w12 ⟨sb, B, bq, hob, hbt, hBp, f12⟩ K2 hK2
  have hj : j < r.body.length := by omega
  have x012 : Ext w w12 := x28.newer f12 fun q (hq : q = w6.heap.size) => by omega
  refine loadLT (hro0.ext x012).bd hj zc96 fun w15 b15 x15 => Join.dir ?_
  have hbp : r.p.body[j]'(by simpa [DR.p] using hj) = (r.body[j]).p := by simp [DR.p]
  have htk : r.p.body.take (j + 1) = r.p.body.take j ++ [(r.body[j]).p] := by rw [List.take_succ_eq_append_getElem (by simpa [DR.p] using hj), hbp]
  have hint := ((hro0.bd.ok _ (List.getElem_mem hj)).ext x012).ext x15
  have hlj : (r.p.body.take j).length = j := by simp [DR.p]; omega
  generalize r.body[j] = b at b15 htk hint
  have lw12 : w6.heap.size < w12.heap.size := by have := f12.size; omega
  refine cond_intro (fun g2 => ?_) (fun g2 => ?_)
  rotate_left
  · have g2 : 5 ≤ j := by simp at g2; omega
    refine hK2 _ ⟨sb, B, bq.ext x15, hob.ext x15, fun b' hb' => (hbt b' hb').ext x15, ?_, f12.ext x15⟩
    rw [hBp, htk, List.take_append_of_le_length (by omega)]
  have g2 : j < 5 := by simp at g2; omega
  have bq15 := bq.ext x15
  have hob15 := hob.ext x15
  have hnq : ¬ BlS sb w6.heap.size := fun ⟨a, ha, e⟩ => by have := (hob.base ha).1; omega
  have hnl : ¬ BlS sb w12.heap.size := fun ⟨a, ha, e⟩ => by have := (hob.base ha).2; omega
  refine ⟨fun u => Fr (BlS sb) w15 u, Fr.mono (Ext.drew _) fun _ _ h => h.elim, Let.intro fun w17 e17 => ?_⟩
  have x17 : Ext w15 w17 := by rw [e17]; exact Ext.drew _
  refine ⟨sb, fun u hu => (bq15.fr hu hnq).cell 2, b.neg, fun u hu => (b15.fr hu hnl).cell 0, b.a.rel, b.a.sl, fun u hu => rdAtom (b15.fr hu hnl), ?_⟩
  refine (c58 (hint.ext x17)).mono fun e w18 ⟨z, he, hzp, hzt, hzb, x18⟩ => ⟨_, _, he, (x17.trans x18).mono fun _ _ h => h.elim, rfl, by decide, ?_⟩
  let D : DL := ⟨b.neg, z⟩
  have hbd := buildOne_run E50 (v := .agg [.bool b.neg, .int .i64 z.rel, .slice z.sl.a z.sl.n z.sl.c].toArray) (vs := eL D) rfl rfl (by omega) w18
  have x19 := Ext.alloc w18 (.cells (eL D).toArray 54)
  have hs19 : Sli 3 eL (w18.alloc (.cells (eL D).toArray 54)) ⟨some ⟨w18.heap.size, 0, none⟩, 1, 1⟩ [D] := ⟨rfl, Nat.le_refl _, fun _ => ⟨⟨w18.heap.size, 0⟩, rfl, by simpa using (Blk.alloc w18 (eL D) 54).rd⟩⟩
  have x1519 := (x17.trans x18).trans x19
  have hob19 := hob15.ext x1519
  have hBl : B.length ≤ 5 := by have := congrArg List.length hBp; simp at this; omega
  obtain ⟨s20, w20, hr20, ho20, hf20⟩ := appendSli E50 hob19 hs19 eL_len eL_one (by simp; omega) (by simp [maxLen]; omega) (by have := f12.size; have := x15.size; have := x1519.size; omega) 50
  have hf1520 : Fr (BlS sb) w15 w20 := x1519.fr hf20
  have bq20 := bq15.fr hf1520 hnq
  obtain ⟨p1, p2, p3⟩ := (⟨bq20.storeOk (o := 0 + 2) (vs := [.slice s20.a s20.n s20.c]) rfl (by simp [Value.oneCell']) (by simp), by
      have := bq20.put (o := 0 + 2) (vs := [.slice s20.a s20.n s20.c]); exact this, Fr.put ..⟩ : StoreOk w20 w6.heap.size (0 + 2) [.slice s20.a s20.n s20.c] 1 ∧ Blk (put w20 w6.heap.size (0 + 2) [.slice s20.a s20.n s20.c]) w6.heap.size [.int .i64 y.rel, .slice y.sl.a y.sl.n y.sl.c, .slice s20.a s20.n s20.c] 52 ∧ Fr (fun q => q = w6.heap.size) w20 (put w20 w6.heap.size (0 + 2) [.slice s20.a s20.n s20.c]))
  refine ⟨⟨some ⟨w18.heap.size, 0, none⟩, 1, 1⟩, _, hbd, x1519.mono fun _ _ h => h.elim, s20, w20, hr20, hf1520, p1, Let.intro fun w21 e21 => ?_⟩
  have e21 : w21 = put w20 w6.heap.size (0 + 2) [.slice s20.a s20.n s20.c] := e21
  rw [← e21] at p2 p3
  refine hK2 _ ⟨s20, B ++ [D], p2, ho20.fr p3 fun a ha (e : a.block = w6.heap.size) => by have := (ho20.base ha).1; omega, fun b' hb' => ?_, ?_, ?_⟩
  · have h19 : TI (w18.alloc (.cells (eL D).toArray 54)) b'.a.sl b'.a.args := by
      rcases List.mem_append.1 hb' with hb' | hb'
      · exact ((hbt b' hb').ext x15).ext x1519
      · simp only [List.mem_singleton] at hb'; subst hb'; exact hzt.ext x19
    refine (h19.fr hf20 fun q cur hq ⟨a, ha, e⟩ => ?_).fr p3 fun q cur hq (e : q = w6.heap.size) => ?_
    · obtain ⟨cur', hc'⟩ := hob19.blk ha
      rw [e] at hc'
      exact Blk.ne_ty hq hc' (by decide) rfl
    · subst e; exact Blk.ne_ty hq bq20 (by decide) rfl
  · have t1 : (r.p.body.take j).take 5 = r.p.body.take j := List.take_of_length_le (by omega)
    have t2 : (r.p.body.take j ++ [b.p]).take 5 = r.p.body.take j ++ [b.p] := List.take_of_length_le (by rw [List.length_append]; simp only [List.length_singleton]; omega)
    rw [List.map_append, hBp, htk, t1, t2, List.map_append]
    congr 1
    simp only [List.map_cons, List.map_nil]
    congr 1
    show (⟨b.neg, z.p⟩ : Li) = cutL b.p
    rw [hzp]; rfl
  · exact ((f12.ext x15).trans hf1520 fun q hq ⟨a, ha, e⟩ => by have := (hob15.base ha).1; omega).trans p3 fun _ _ h => h
end Go.Proofs.Ytoljknamnkkgcaa
