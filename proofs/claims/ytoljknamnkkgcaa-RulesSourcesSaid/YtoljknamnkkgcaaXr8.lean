/-
  Texts Gc, Gd, Ge, Sm, Ga, Se, Db, Cs of this proof, joined.
-/
import Derived.Test.YtoljknamnkkgcaaXr7
import Derived.Test.YtoljknamnkkgcaaProg
import Derived.KernelRfl
/-
  Contracts of the reference: codes of facts; sets as rows of bools.
-/
namespace Go.Proofs.Ytoljknamnkkgcaa
open Go Go.VC
set_option maxHeartbeats 1000000
set_option maxRecDepth 100000

/-! ### codes -/
structure GK (k : Ky) : Prop where
  r0 : 0 ≤ k.rel
  r1 : k.rel ≤ 5
  a1 : 1 ≤ k.a ∧ k.a ≤ 6
  b1 : k.b = 0 ∨ (1 ≤ k.b ∧ k.b ≤ 6)
theorem TyK.gk {C : List Fa} {k : Ky} (h : TyK C k) : GK k := ⟨h.r0, h.r1, h.a1, h.b1⟩
def kcI (k : Ky) : Int := if k.b = 0 then k.rel * 42 + k.a - 1 else k.rel * 42 + k.a * 6 + k.b - 1
def kc (k : Ky) : Nat := (kcI k).toNat
def ck (c : Nat) : Ky := if 6 ≤ c % 42 then ⟨((c / 42 : Nat) : Int), ((c % 42 / 6 : Nat) : Int), ((c % 42 % 6 + 1 : Nat) : Int)⟩ else ⟨((c / 42 : Nat) : Int), ((c % 42 + 1 : Nat) : Int), 0⟩
theorem kc_rng {k : Ky} (h : GK k) : 0 ≤ kcI k ∧ kcI k < 252 := by
  obtain ⟨h1, h2, h3, h4⟩ := h
  unfold kcI
  split <;> omega
theorem kc_lt {k : Ky} (h : GK k) : kc k < 252 := by have := kc_rng h; unfold kc; omega
theorem kc_cast {k : Ky} (h : GK k) : ((kc k : Nat) : Int) = kcI k := by have := kc_rng h; unfold kc; omega
theorem ck_kc {k : Ky} (h : GK k) : ck (kc k) = k := by
  have hc := kc_cast h
  obtain ⟨h1, h2, h3, h4⟩ := h
  generalize kc k = c at hc
  cases k with | mk r a b =>
  simp only [kcI] at hc h1 h2 h3 h4
  unfold ck
  by_cases hb : b = 0
  · rw [if_pos hb] at hc
    rw [if_neg (by omega), Ky.mk.injEq]
    refine ⟨by omega, by omega, by omega⟩
  · rw [if_neg hb] at hc
    rw [if_pos (by omega), Ky.mk.injEq]
    refine ⟨by omega, by omega, by omega⟩
theorem gk_ck {c : Nat} (h : c < 252) : GK (ck c) := by
  unfold ck
  split
  · exact ⟨by simp only; omega, by simp only; omega, ⟨by simp only; omega, by simp only; omega⟩, .inr ⟨by simp only; omega, by simp only; omega⟩⟩
  · exact ⟨by simp only; omega, by simp only; omega, ⟨by simp only; omega, by simp only; omega⟩, .inl rfl⟩
theorem kc_ck {c : Nat} (h : c < 252) : kc (ck c) = c := by
  have hg := kc_cast (gk_ck h)
  have : kcI (ck c) = c := by
    unfold kcI ck
    by_cases h6 : 6 ≤ c % 42
    · simp only [if_pos h6]
      rw [if_neg (by omega)]; omega
    · simp only [if_neg h6]
      simp only [if_true]; omega
  omega
/-! ### sets -/
def bs (B : Nat → Bool) (i : Nat) : Value := .bool (B i)
def bL (B : Nat → Bool) : List Value := (List.range 252).map (bs B)
theorem bL_len (B : Nat → Bool) : (bL B).length = 252 := by simp [bL]
theorem bL_get {B : Nat → Bool} {c : Nat} (h : c < 252) : (bL B)[c]? = some (.bool (B c)) := by simp [bL, h, bs]
/-- These bools tell the set. -/
def SB (B : Nat → Bool) (S : Ky → Prop) : Prop := ∀ k, GK k → (B (kc k) = true ↔ S k)
theorem SB.ck {B : Nat → Bool} {S : Ky → Prop} (h : SB B S) {c : Nat} (hc : c < 252) : B c = true ↔ S (ck c) := by
  have := h _ (gk_ck hc)
  rwa [kc_ck hc] at this
def upd (B : Nat → Bool) (c : Nat) (v : Bool) (i : Nat) : Bool := if i = c then v else B i
theorem bL_put {w : World} {q c : Nat} {B : Nat → Bool} {T : TypeId} {v : Bool} (h : Blk w q (bL B) T) (hc : c < 252) :
    StoreOk w q c [.bool v] 1 ∧ Blk (put w q c [.bool v]) q (bL (upd B c v)) T ∧ Fr (fun y => y = q) w (put w q c [.bool v]) := by
  have h' : FB w q 252 (bs B) T := h
  refine ⟨h'.storeOk rfl (by intro x hx; simp at hx; subst hx; rfl) (by omega), ?_, Fr.put ..⟩
  have := h'.put (o := c) (vs := [.bool v]) (by simp; omega)
  unfold FB at this
  have e : (List.range 252).map (updF (bs B) c [.bool v]) = bL (upd B c v) := by
    apply List.map_congr_left
    intro i hi
    have hi : i < 252 := by simpa using hi
    unfold bs upd
    by_cases e : i = c
    · subst e; rw [updF_in (v := .bool v) (Nat.le_refl _) (by simp), if_pos rfl]
    · rw [updF_out (by simp; omega), if_neg e]
  rw [e] at this; exact this
theorem bL_cell {w : World} {q c : Nat} {B : Nat → Bool} {T : TypeId} (h : Blk w q (bL B) T) (hc : c < 252) : w.cell? ⟨q, c, none⟩ = some (.bool (B c)) := by rw [h.cell, bL_get hc]
theorem bL_one (B : Nat → Bool) : ∀ v ∈ bL B, v.oneCell' = true := by intro v hv; obtain ⟨i, _, rfl⟩ := List.mem_map.1 hv; rfl
theorem zc43 : (zc Try.prog 43).toList = bL fun _ => false := by kernel_rfl
/-! ### the code of a fact -/
theorem code2 {r a b : Int} (r0 : 0 ≤ r) (r1 : r ≤ 5) (a0 : 1 ≤ a) (a1 : a ≤ 6) (b0 : 1 ≤ b) (b1 : b ≤ 6) : IntKind.wrap .i64 ((IntKind.wrap .i64 ((IntKind.wrap .i64 ((IntKind.wrap .i64 (r * (42 : Int))) + (IntKind.wrap .i64 (a * (6 : Int))))) + b)) - (1 : Int)) = r * 42 + a * 6 + b - 1 := by
  rw [wrap64 (x := r * 42) (by omega) (by omega), wrap64 (x := a * 6) (by omega) (by omega), wrap64 (x := r * 42 + a * 6) (by omega) (by omega), wrap64 (x := r * 42 + a * 6 + b) (by omega) (by omega), wrap64 (by omega) (by omega)]
theorem c94 {w : World} {x : DF} (hx : Ints w x.sl x.args) (hg : GroundF x.p) :
    Calls Try.prog 94 [.int .i64 x.rel, .slice x.sl.a x.sl.n x.sl.c].toArray w fun e w' => e = .returned (.int .i64 (kcI x.p.k)) ∧ Ext w w' := by
  refine (call94 x.rel x.sl (R := fun v w' => v = .int .i64 (kcI x.p.k) ∧ Ext w w') ?_).mono fun e w' ⟨v, he, hv, hx⟩ => ⟨by rw [he, hv], hx⟩
  have hn := hx.len
  obtain ⟨g1, g2, g3, g4, g5⟩ := hg
  have g1 : 0 ≤ x.rel := g1
  have g2 : x.rel ≤ 5 := g2
  have g3 : 1 ≤ x.args.length := g3
  have g4 : x.args.length ≤ 2 := g4
  have g5 : ∀ y ∈ x.args, 1 ≤ y ∧ y ≤ 6 := g5
  have hk : x.p.k = ⟨x.rel, x.args.getD 0 0, x.args.getD 1 0⟩ := rfl
  obtain ⟨p0, hp0, a1, a2, hr0⟩ := Ints.at hx (i := 0) (by omega)
  have h0 := g5 _ (List.getElem_mem (show 0 < x.args.length by omega))
  refine cond_intro (fun g => ?_) (fun g => ?_)
  · have g : x.args.length = 1 := by simp at g; omega
    refine ⟨p0, hp0, a1, a2, _, hr0, ?_, Fr.refl _ _⟩
    have e1 : x.args.getD 1 0 = 0 := by simp [List.getD, List.getElem?_eq_none (show x.args.length ≤ 1 by omega)]
    have e0 : x.args.getD 0 0 = x.args[0]'(by omega) := by simp [List.getD, show 0 < x.args.length by omega]
    rw [hk, e1, e0]
    unfold kcI
    simp only [if_true]
    rw [wrap64 (x := x.rel * 42) (by omega) (by omega), wrap64 (x := x.rel * 42 + _) (by omega) (by omega), wrap64 (by omega) (by omega)]
  · have g : x.args.length = 2 := by have : ¬ x.args.length = 1 := fun h => by rw [hn, h] at g; simp at g
                                     omega
    refine Let.intro fun w1 e1 => ?_
    have x1 : Ext w w1 := by rw [e1]; exact Ext.drew _
    obtain ⟨p0, hp0, a1, a2, hr0⟩ := Ints.at (hx.ext x1) (i := 0) (by omega)
    obtain ⟨p1, hp1, c1, c2, hr1⟩ := Ints.at (hx.ext x1) (i := 1) (by omega)
    have h1 := g5 _ (List.getElem_mem (show 1 < x.args.length by omega))
    refine ⟨p0, hp0, a1, a2, _, hr0, p1, hp1, c1, c2, _, hr1, ?_, x1⟩
    have e1 : x.args.getD 1 0 = x.args[1]'(by omega) := by simp [List.getD, show 1 < x.args.length by omega]
    have e0 : x.args.getD 0 0 = x.args[0]'(by omega) := by simp [List.getD, show 0 < x.args.length by omega]
    rw [hk, e1, e0]
    unfold kcI
    simp only
    rw [if_neg (by omega)]
    rw [code2 g1 g2 h0.1 h0.2 h1.1 h1.2]
/-- The fact of a code. -/
theorem c73 {c : Nat} (hc : c < 252) (w : World) :
    Calls Try.prog 73 [.int .i64 (c : Int)].toArray w fun e w' => ∃ y : DF, e = .returned (.agg [.int .i64 y.rel, .slice y.sl.a y.sl.n y.sl.c].toArray) ∧ y.p = (ck c).f ∧ TI w' y.sl y.args ∧ Ext w w' := by
  refine (call73 (c : Int) (R := fun v w' => ∃ y : DF, v = (.agg [.int .i64 y.rel, .slice y.sl.a y.sl.n y.sl.c].toArray) ∧ y.p = (ck c).f ∧ TI w' y.sl y.args ∧ Ext w w') ?_).mono fun e w' ⟨v, he, y, hv, hx⟩ => ⟨y, by rw [he, hv], hx⟩
  refine Let.intro fun w1 e1 => ?_
  have bz : Blk w1 w.heap.size (zc Try.prog 36).toList 36 := by rw [e1]; simpa using Blk.alloc w (zc Try.prog 36).toList 36
  have x1 : Ext w w1 := by rw [e1]; exact Ext.alloc ..
  have hm : Int.tmod (c : Int) 42 = ((c % 42 : Nat) : Int) := by rw [Int.tmod_eq_emod_of_nonneg (by omega)]; omega
  have hd : Int.tdiv (c : Int) 42 = ((c / 42 : Nat) : Int) := by rw [Int.tdiv_eq_ediv_of_nonneg (by omega)]; omega
  rw [hm, hd]
  have fin : ∀ (l : List Int) (w2 : World) (s15 : Sl), Own 3 1 eI w1.heap.size w2 s15 l → Ext w1 w2 → (⟨((c / 42 : Nat) : Int), l⟩ : Fa) = (ck c).f →
      StoreOk w2 w.heap.size 0 [(.int .i64 (IntKind.wrap .i64 ((c / 42 : Nat) : Int))), (.slice s15.a s15.n s15.c)] 2 ∧ Let (put w2 w.heap.size 0 [(.int .i64 (IntKind.wrap .i64 ((c / 42 : Nat) : Int))), (.slice s15.a s15.n s15.c)]) fun w3 =>
        ∃ xr2_0 : Int, ∃ sr2_1 : Sl, rd w3 w.heap.size 0 [(.int .i64 xr2_0), (.slice sr2_1.a sr2_1.n sr2_1.c)] ∧ ∃ y : DF, (.agg [(.int .i64 xr2_0), (.slice sr2_1.a sr2_1.n sr2_1.c)].toArray : Value) = (.agg [.int .i64 y.rel, .slice y.sl.a y.sl.n y.sl.c].toArray) ∧ y.p = (ck c).f ∧ TI w3 y.sl y.args ∧ Ext w w3 := by
    intro l w2 s15 ho x2 hl
    rw [wrap64 (by omega) (by omega)]
    obtain ⟨p1, p2, p3⟩ := blk_all (bz.ext x2) (vs := [.int .i64 ((c / 42 : Nat) : Int), .slice s15.a s15.n s15.c]) (by simp [zc36]) (by intro v hv; simp at hv; rcases hv with rfl | rfl <;> rfl)
    refine ⟨p1, Let.intro fun w3 e3 => ?_⟩
    rw [← e3] at p2 p3
    exact ⟨_, s15, p2.rd, ⟨((c / 42 : Nat) : Int), s15, l⟩, rfl, hl, (Own.ti ho).fr p3 fun q cur hq (e : q = w.heap.size) => by subst e; exact Blk.ne_ty hq (bz.ext x2) (by decide) rfl, (x1.trans x2).newer p3 fun q (hq : q = w.heap.size) => by omega⟩
  have newL : ∀ (l : List Int), l ≠ [] → l.length ≤ 2 → Own 3 1 eI w1.heap.size (w1.alloc (.cells (l.flatMap eI).toArray 3)) ⟨some ⟨w1.heap.size, 0, none⟩, l.length, l.length⟩ l := fun l _ hl2 =>
    ⟨rfl, by rw [eI_flat]; simp, .inr ⟨w1.heap.size, l.length, (l.flatMap eI).toArray, rfl, Nat.le_refl _, by show (w1.heap.push _)[w1.heap.size]? = _; simp, Nat.le_refl _, by simp [maxLen]; omega, by rw [eI_flat]; simp, by rw [eI_flat]; simp only [Nat.mul_one]; exact List.take_of_length_le (by simp)⟩⟩
  refine ⟨by decide, cond_intro (fun g => ?_) (fun g => ?_)⟩
  · have g : 6 ≤ c % 42 := by simp at g; omega
    refine ⟨by decide, by decide, by decide, ?_⟩
    have h1 : IntKind.wrap .i64 (Int.tdiv ((c % 42 : Nat) : Int) 6) = ((c % 42 / 6 : Nat) : Int) := by
      rw [Int.tdiv_eq_ediv_of_nonneg (by omega), wrap64 (by omega) (by omega)]; omega
    have h2 : IntKind.wrap .i64 (Int.tmod ((c % 42 : Nat) : Int) 6 + 1) = ((c % 42 % 6 + 1 : Nat) : Int) := by
      rw [Int.tmod_eq_emod_of_nonneg (by omega), wrap64 (by omega) (by omega)]; omega
    rw [h1, h2]
    have hb := buildList_run E34 (enc := eI) (val := Value.int .i64) eI_len (fun _ => rfl) [((c % 42 / 6 : Nat) : Int), ((c % 42 % 6 + 1 : Nat) : Int)] (by simp) (by simp) w1
    refine ⟨⟨some ⟨w1.heap.size, 0, none⟩, 2, 2⟩, _, hb, ?_⟩
    refine fin [((c % 42 / 6 : Nat) : Int), ((c % 42 % 6 + 1 : Nat) : Int)] _ _ (newL _ (by simp) (by simp)) (Ext.alloc ..) ?_
    unfold ck
    rw [if_pos g]
    unfold Ky.f
    simp only
    rw [if_neg (by omega)]
  · have g : ¬ 6 ≤ c % 42 := by simp at g; omega
    refine ⟨by decide, by decide, ?_⟩
    have h2 : IntKind.wrap .i64 (((c % 42 : Nat) : Int) + 1) = ((c % 42 + 1 : Nat) : Int) := by
      rw [wrap64 (by omega) (by omega)]; omega
    rw [h2]
    have hb := buildList_run E34 (enc := eI) (val := Value.int .i64) eI_len (fun _ => rfl) [((c % 42 + 1 : Nat) : Int)] (by simp) (by simp) w1
    refine ⟨⟨some ⟨w1.heap.size, 0, none⟩, 1, 1⟩, _, hb, ?_⟩
    refine fin [((c % 42 + 1 : Nat) : Int)] _ _ (newL _ (by simp) (by simp)) (Ext.alloc ..) ?_
    unfold ck
    rw [if_neg g]
    rfl
/-! ### the code of an atom under values -/
theorem gnd_fact (a : Fa) (u : List Int) : (⟨a.rel, a.args.map (gV u)⟩ : Fa).k = gnd a u := by
  have h : ∀ i : Nat, (a.args.map (gV u)).getD i 0 = gA u a.args i := fun i => by
    unfold gA
    simp only [List.getD, List.getElem?_map]
    cases a.args[i]? <;> rfl
  unfold Fa.k gnd
  simp only [h]
theorem gnd_ground {a : Fa} (hf : FitsF a) {u : List Int} (hv : ∀ x ∈ a.args, 1 ≤ gV u x ∧ gV u x ≤ 6) : GroundF ⟨a.rel, a.args.map (gV u)⟩ :=
  ⟨hf.1, hf.2.1, by simpa using hf.2.2.1, by simpa using hf.2.2.2.1, fun x hx => by obtain ⟨y, hy, rfl⟩ := List.mem_map.1 hx; exact hv y hy⟩
theorem GroundF.gk {f : Fa} (h : GroundF f) : GK f.k := by
  obtain ⟨h1, h2, h3, h4, h5⟩ := h
  have h0 : 1 ≤ f.args.getD 0 0 ∧ f.args.getD 0 0 ≤ 6 := by
    simp only [List.getD, List.getElem?_eq_getElem (show 0 < f.args.length by omega), Option.getD_some]
    exact h5 _ (List.getElem_mem _)
  refine ⟨h1, h2, h0, ?_⟩
  show f.args.getD 1 0 = 0 ∨ _
  by_cases h : 1 < f.args.length
  · right
    show 1 ≤ f.args.getD 1 0 ∧ f.args.getD 1 0 ≤ 6
    simp only [List.getD, List.getElem?_eq_getElem h, Option.getD_some]
    exact h5 _ (List.getElem_mem _)
  · left; simp [List.getD, List.getElem?_eq_none (show f.args.length ≤ 1 by omega)]
theorem gnd_gk {a : Fa} (hf : FitsF a) {u : List Int} (hv : ∀ x ∈ a.args, 1 ≤ gV u x ∧ gV u x ≤ 6) : GK (gnd a u) := by
  rw [← gnd_fact]; exact (gnd_ground hf hv).gk
theorem c96 {w : World} {x : DF} {u : List Int} (hx : Ints w x.sl x.args) (hf : FitsF x.p) (hu : u.length = 8) (hv : ∀ y ∈ x.args, 1 ≤ gV u y ∧ gV u y ≤ 6) :
    Calls Try.prog 96 [.agg [.int .i64 x.rel, .slice x.sl.a x.sl.n x.sl.c].toArray, .agg (vI u).toArray].toArray w fun e w' => e = .returned (.int .i64 (kcI (gnd x.p u))) ∧ Ext w w' := by
  refine (call96 x.rel x.sl (vI u) (R := fun v w' => v = .int .i64 (kcI (gnd x.p u)) ∧ Ext w w') ?_).mono fun e w' ⟨v, he, hv, hx⟩ => ⟨by rw [he, hv], hx⟩
  have hn := hx.len
  have hl2 : x.args.length ≤ 2 := hf.2.2.2.1
  obtain ⟨b1, x1⟩ := eF_cells w x 91
  refine Let.intro fun w1 e1 => ?_
  have e1 : w1 = w.alloc (.cells (eF x).toArray 91) := e1
  rw [← e1] at b1 x1
  refine Let.intro fun w2 e2 => ?_
  have b2 : Blk w2 w1.heap.size (vI u) 90 := by rw [e2]; exact Blk.alloc w1 _ 90
  have x2 : Ext w1 w2 := by rw [e2]; exact Ext.alloc ..
  have b1 := b1.ext x2
  have x02 := x1.trans x2
  refine ⟨x.sl, b1.cell 1, Join.dir (rangeSI (fun i (s5 : Sl) w5 => Own 3 1 eI w2.heap.size w5 s5 ((x.args.take i).map (gV u)) ∧ Ext w2 w5) (by rw [hn]; show x.args.length ≤ 9223372036854775807; omega) ⟨by simpa using Own.nil 3 1 eI _ _, Fr.refl _ _⟩ ?_ ?_)⟩
  rotate_left
  · rintro s5 w5 ⟨ho, x5⟩
    rw [hn, List.take_length] at ho
    let y : DF := ⟨x.rel, s5, x.args.map (gV u)⟩
    refine ⟨_, (b1.ext x5).cell 0, (c94 (x := y) ho.sli (gnd_ground hf hv)).mono fun e w6 ⟨he, x6⟩ => ⟨_, he, ?_, (x02.trans x5).trans x6⟩⟩
    have : y.p.k = gnd x.p u := gnd_fact x.p u
    rw [this]
  rintro i hi s5 w5 ⟨ho, x5⟩ K hK
  have hi : i < x.args.length := by omega
  obtain ⟨p, hp, a1, a2, hr⟩ := Ints.at (hx.ext (x02.trans x5)) hi
  have hst : (x.args.take (i + 1)).map (gV u) = (x.args.take i).map (gV u) ++ [gV u x.args[i]] := by rw [List.take_succ_eq_append_getElem hi, List.map_append]; rfl
  have hfx : -6 ≤ x.args[i] ∧ x.args[i] ≤ 7 := hf.2.2.2.2 _ (List.getElem_mem hi)
  have app : ∀ y : Int, y = gV u x.args[i] → ∃ (s20 : Sl) (w8 : World), Sem.run Try.prog (Instr.buildSlice 34 1 [(0, (.int .i64 y))].toArray) w5 = .ok (.slice s20.a s20.n s20.c) w8 ∧
      ∃ (s21 : Sl) (w9 : World), Sem.run Try.prog (Builtin.append_ #[34, 34] 34 #[(.slice s5.a s5.n s5.c), (.slice s20.a s20.n s20.c)]) w8 = .ok (.slice s21.a s21.n s21.c) w9 ∧ K ⟨s21.a, s21.n, s21.c⟩ w9 := by
    rintro y rfl
    have hlen : ((x.args.take i).map (gV u)).length ≤ 2 := by simp; omega
    obtain ⟨s20, w8, hb20, s21, w9, hr21, ho9, hf9⟩ := appendOne E34 ho (x := gV u x.args[i]) (v := .int .i64 (gV u x.args[i])) rfl eI_len eI_one (by omega) (by omega) (by simp only [maxLen]; omega) x5.size 34
    exact ⟨s20, w8, hb20, s21, w9, hr21, hK _ _ ⟨by rw [hst]; exact ho9, x5.newer hf9 fun q ⟨a, ha, e⟩ => by have := (ho.base ha).1; omega⟩⟩
  refine ⟨p, hp, a1, a2, _, hr, Join.dir (cond_intro (fun g => ?_) (fun g => ?_))⟩
  · have g : x.args[i] < 0 := by simpa using g
    refine app _ ?_
    unfold gV
    rw [if_pos g, wrap64 (by omega) (by omega)]; omega
  · have g : ¬ x.args[i] < 0 := by simpa using g
    refine ⟨by omega, by omega, u.getD (x.args[i]).toNat 0, blkAt (b2.ext x5) (by omega) (by omega), ?_⟩
    refine app _ ?_
    unfold gV
    rw [if_neg g]
/-- All values of an instance are numbers. -/
def Inst (r : Ru) (u : List Int) : Prop := u.length = 8 ∧ ∀ a ∈ r.atoms, ∀ x ∈ a.args, 1 ≤ gV u x ∧ gV u x ≤ 6
theorem inst_of {C : List Fa} {In : Ky → Prop} (hIn : ∀ k, In k → TyK C k) {r : Ru} (hr : RuleP r) (hrC : ∀ a ∈ r.atoms, a ∈ C) {u : List Int} (h : En In r.body z8 u) : Inst r u := by
  have hbd : ∀ b ∈ r.body, FitsF b.a ∧ b.a ∈ C := fun b hb => by
    have : b.a ∈ r.atoms := by simp [Ru.atoms]; exact .inr ⟨b, hb, rfl⟩
    exact ⟨hr.2.2 _ this, hrC _ this⟩
  obtain ⟨_, h2⟩ := En_sem hIn hbd rfl h
  refine ⟨by rw [En_len h]; rfl, fun a ha x hx => ?_⟩
  have hx6 := (hr.2.2 _ ha).2.2.2.2 x hx
  by_cases h0 : 0 ≤ x
  · obtain ⟨b, hb, hn, hxb⟩ := hr.2.1 _ ha x hx h0
    exact (h2 b hb hn).2 x hxb
  · unfold gV; rw [if_pos (by omega)]; omega
/-- Is no fact of a Lit with Not in a set? -/
theorem c97 {w : World} {r : DR} {u : List Int} {B : Nat → Bool} {N : Ky → Prop} (hr : RulOk w r) (hru : RuleP r.p) (hi : Inst r.p u) (hB : SB B N) :
    Calls Try.prog 97 [.agg [.int .i64 r.head.rel, .slice r.head.sl.a r.head.sl.n r.head.sl.c, .slice r.bs.a r.bs.n r.bs.c].toArray, .agg (vI u).toArray, .agg (bL B).toArray].toArray w fun e w' => ∃ b : Bool, e = .returned (.bool b) ∧ (b = true ↔ NegOk N r.p.body u) ∧ Ext w w' := by
  refine (call97 r.head.rel r.head.sl r.bs (vI u) (bL B) (R := fun v w' => ∃ b : Bool, v = .bool b ∧ (b = true ↔ NegOk N r.p.body u) ∧ Ext w w') ?_).mono fun e w' ⟨v, he, b, hv, hx⟩ => ⟨b, by rw [he, hv], hx⟩
  have hbn := hr.bd.len
  have hb3 : r.body.length ≤ 3 := by have := hru.1; simpa [DR.p] using this
  refine Let.intro fun w1 e1 => ?_
  have e1 : w1 = w.alloc (.cells (eR r).toArray 94) := e1
  have b1 : Blk w1 w.heap.size (eR r) 94 := by rw [e1]; exact Blk.alloc w _ 94
  have x1 : Ext w w1 := by rw [e1]; exact Ext.alloc ..
  refine Let.intro fun w2 e2 => ?_
  have b2 : Blk w2 w1.heap.size (vI u) 90 := by rw [e2]; exact Blk.alloc w1 _ 90
  have x2 : Ext w1 w2 := by rw [e2]; exact Ext.alloc ..
  refine Let.intro fun w3 e3 => ?_
  have b3 : Blk w3 w2.heap.size (bL B) 43 := by rw [e3]; exact Blk.alloc w2 _ 43
  have x3 : Ext w2 w3 := by rw [e3]; exact Ext.alloc ..
  have b2 := b2.ext x3
  have x03 := (x1.trans x2).trans x3
  refine ⟨r.bs, ((b1.ext x2).ext x3).cell 2, Join.dir (rangeI (fun i w5 => (∀ b ∈ r.p.body.take i, b.neg = true → ¬ N (gnd b.a u)) ∧ Ext w3 w5) (by rw [hbn]; show r.body.length ≤ 9223372036854775807; omega) ⟨by simp, Fr.refl _ _⟩ ?_ ?_)⟩
  rotate_left
  · rintro w5 ⟨hno, x5⟩
    have e : r.p.body.take r.bs.n = r.p.body := by rw [hbn]; exact List.take_of_length_le (by simp [DR.p])
    rw [e] at hno
    exact ⟨true, rfl, by simp only [true_iff]; exact hno, x03.trans x5⟩
  rintro i hil w5 ⟨hno, x5⟩ K hK
  have hil : i < r.body.length := by omega
  have x05 := x03.trans x5
  refine loadLT (hr.ext x05).bd hil zc96 fun w8 b8 x8 => ?_
  have hbp : r.p.body[i]'(by simpa [DR.p] using hil) = (r.body[i]).p := by simp [DR.p]
  have htk : r.p.body.take (i + 1) = r.p.body.take i ++ [(r.body[i]).p] := by rw [List.take_succ_eq_append_getElem (by simpa [DR.p] using hil), hbp]
  have hat : (r.body[i]).p.a ∈ r.p.atoms := by simp [Ru.atoms, DR.p]; exact .inr ⟨_, List.getElem_mem hil, rfl⟩
  have hmem : (r.body[i]).p ∈ r.p.body := List.mem_map.2 ⟨_, List.getElem_mem hil, rfl⟩
  have hint := ((hr.bd.ok _ (List.getElem_mem hil)).ext x05).ext x8
  have hfit := hru.2.2 _ hat
  have hv := hi.2 _ hat
  generalize r.body[i] = b at b8 htk hat hmem hint hfit hv
  have hgk := gnd_gk hfit hv
  refine ⟨fun (b25 : Bool) w9 => (b25 = true ↔ (b.neg = true ∧ N (gnd b.p.a u))) ∧ Ext w8 w9, ?_, ?_⟩
  · rintro b25 w9 ⟨hb25, x9⟩
    refine cond_intro (fun g => ?_) (fun g => ?_)
    · subst g
      have := hb25.1 rfl
      refine ⟨false, rfl, ?_, (x05.trans x8).trans x9⟩
      simp only [Bool.false_eq_true, false_iff]
      exact fun h => h b.p hmem this.1 this.2
    · refine hK _ ⟨fun c hc hn => ?_, (x5.trans x8).trans x9⟩
      rw [htk, List.mem_append, List.mem_singleton] at hc
      rcases hc with hc | rfl
      · exact hno c hc hn
      · intro hN
        have := hb25.2 ⟨hn, hN⟩
        rw [g] at this; cases this
  refine ⟨b.neg, b8.cell 0, cond_intro (fun g => ?_) (fun g => ?_)⟩
  · refine ⟨_, _, rdAtom b8, vI u, by rw [vI_len, hi.1], ((b2.ext x5).ext x8).rd, (c96 hint hfit hi.1 hv).mono fun e w10 ⟨he, x10⟩ => ⟨_, he, ?_⟩⟩
    have hrg := kc_rng hgk
    have hcast := kc_cast hgk
    have ha : b.a.p = b.p.a := rfl
    rw [ha]
    refine ⟨hrg.1, by omega, B (kc (gnd b.p.a u)), ?_, ?_, x10⟩
    · have : 0 + Int.toNat (kcI (gnd b.p.a u)) * 1 = kc (gnd b.p.a u) := by unfold kc; omega
      rw [this]
      exact bL_cell (((b3.ext x5).ext x8).ext x10) (kc_lt hgk)
    · rw [hB _ hgk]; exact ⟨fun h => ⟨g, h⟩, fun h => h.2⟩
  · exact ⟨⟨(fun h => by cases h), fun h => by rw [g] at h; cases h.1⟩, Fr.refl _ _⟩
/-- The set of facts. -/
theorem c69 {w : World} {s : Sl} {fs : List DF} (hs : NF w s fs) (hl : fs.length ≤ big) (hg : ∀ f ∈ fs, GroundF f.p) :
    Calls Try.prog 69 [.slice s.a s.n s.c].toArray w fun e w' => ∃ B : Nat → Bool, e = .returned (.agg (bL B).toArray) ∧ SB B (giv (fs.map DF.p)) ∧ Ext w w' := by
  refine (call69 s (R := fun v w' => ∃ B : Nat → Bool, v = .agg (bL B).toArray ∧ SB B (giv (fs.map DF.p)) ∧ Ext w w') ?_).mono fun e w' ⟨v, he, B, hv, hx⟩ => ⟨B, by rw [he, hv], hx⟩
  have hn := hs.len
  refine Let.intro fun w1 e1 => ?_
  have bz : Blk w1 w.heap.size (bL fun _ => false) 43 := by rw [e1, ← zc43]; simpa using Blk.alloc w (zc Try.prog 43).toList 43
  have x1 : Ext w w1 := by rw [e1]; exact Ext.alloc ..
  refine Let.intro fun w2 e2 => ?_
  have b2 : Blk w2 w1.heap.size (bL fun _ => false) 43 := by rw [e2, ← zc43]; simpa using Blk.alloc w1 (zc Try.prog 43).toList 43
  have x2 : Ext w1 w2 := by rw [e2]; exact Ext.alloc ..
  have bz := bz.ext x2
  have x02 := x1.trans x2
  have lz := bz.lt
  have l1 := x1.size
  have lw : w.heap.size < w1.heap.size := by rw [e1]; show w.heap.size < (w.heap.push _).size; simp
  refine Join.dir (rangeI (fun i w5 => ∃ B : Nat → Bool, Blk w5 w1.heap.size (bL B) 43 ∧ SB B (giv ((fs.take i).map DF.p)) ∧ Fr (fun y => y = w1.heap.size) w2 w5) (by rw [hn]; exact hl) ⟨fun _ => false, b2, fun k _ => by simp [giv], Fr.refl _ _⟩ ?_ ?_)
  rotate_left
  · rintro w5 ⟨B, b5, hB, f5⟩
    rw [hn, List.take_length] at hB
    obtain ⟨p1, p2, p3⟩ := blk_all (bz.fr f5 (by omega)) (vs := bL B) (by simp [bL_len]) (bL_one B)
    rw [bL_len] at p1
    refine ⟨bL B, bL_len B, b5.rd, p1, Let.intro fun w6 e6 => ?_⟩
    rw [← e6] at p2 p3
    exact ⟨bL B, bL_len B, p2.rd, B, rfl, hB, (x02.newer f5 fun y (hy : y = w1.heap.size) => by omega).newer p3 fun y (hy : y = w.heap.size) => by omega⟩
  rintro i hi w5 ⟨B, b5, hB, f5⟩ K hK
  have hi : i < fs.length := by omega
  have x05 : Ext w w5 := x02.newer f5 fun y (hy : y = w1.heap.size) => by omega
  refine loadF (hs.ext x05) hi zc36 fun w8 b8 x8 => ?_
  have hm := List.getElem_mem hi
  have hgi := hg _ hm
  have hti : (fs.take (i + 1)).map DF.p = (fs.take i).map DF.p ++ [(fs[i]).p] := by rw [List.take_succ_eq_append_getElem hi, List.map_append]; rfl
  have hint := ((hs.ok _ hm).ext x05).ext x8
  generalize fs[i] = f at b8 hgi hti hint
  have hgk := hgi.gk
  have hrg := kc_rng hgk
  refine ⟨_, b8.cell 0, _, b8.cell 1, (c94 hint hgi).mono fun e w9 ⟨he, x9⟩ => ⟨_, he, ?_⟩⟩
  obtain ⟨q1, q2, q3⟩ := bL_put (v := true) ((b5.ext x8).ext x9) (kc_lt hgk)
  have eo : 0 + Int.toNat (kcI f.p.k) * 1 = kc f.p.k := by unfold kc; omega
  refine ⟨hrg.1, by omega, by rw [eo]; exact q1, Let.intro fun w10 e10 => ?_⟩
  rw [eo] at e10
  rw [← e10] at q2 q3
  refine hK _ ⟨_, q2, fun k hk => ?_, ((f5.ext x8).ext x9).trans q3 fun _ _ h => h⟩
  rw [hti]
  unfold upd
  have hinj : kc k = kc f.p.k ↔ f.p.k = k := ⟨fun e => by rw [← ck_kc hk, e, ck_kc hgk], fun e => by rw [e]⟩
  constructor
  · intro h
    split at h
    · rename_i e; exact ⟨f.p, by simp, hinj.1 e⟩
    · obtain ⟨g, hg', e⟩ := (hB k hk).1 h
      exact ⟨g, List.mem_append_left _ hg', e⟩
  · rintro ⟨g, hg', e⟩
    rcases List.mem_append.1 hg' with hg' | hg'
    · split
      · rfl
      · exact (hB k hk).2 ⟨g, hg', e⟩
    · simp only [List.mem_singleton] at hg'; subst hg'
      rw [if_pos (hinj.2 e)]
end Go.Proofs.Ytoljknamnkkgcaa
/-
  Contract of the reference: the instances of a rule.
-/
namespace Go.Proofs.Ytoljknamnkkgcaa
open Go Go.VC
set_option maxHeartbeats 1600000
set_option maxRecDepth 100000

def e8 (u : List Int) : List Value := (List.range 8).map fun i => .int .i64 (u.getD i 0)
theorem e8_len (u : List Int) : (e8 u).length = 8 := by simp [e8]
theorem e8_one (u : List Int) : ∀ v ∈ e8 u, v.oneCell' = true := by intro v hv; obtain ⟨i, _, rfl⟩ := List.mem_map.1 hv; rfl
theorem e8_eq {u : List Int} (h : u.length = 8) : e8 u = vI u := by
  apply List.ext_getElem
  · simp [e8, vI, h]
  · intro i h1 h2
    simp [e8, vI, List.getD, show i < u.length by simp [vI] at h2; omega]
theorem E157 : Elem Try.prog 157 90 8 64 := Elem.of (by kernel_rfl) (by kernel_rfl) (by decide)
theorem zc90 : (zc Try.prog 90).size = 8 := by kernel_rfl
theorem set_same {v : List Int} {i : Nat} (hi : i < v.length) : v.set i (v.getD i 0) = v := by
  apply List.ext_getElem
  · simp
  · intro j h1 h2
    rw [List.getElem_set]
    split
    · rename_i e; subst e; simp [List.getD, hi]
    · rfl
/-- Facts of the shape of an atom fit it as their keys do. -/
theorem fitA_f {m : List Int} {a : Fa} {k : Ky} (h : a.args.length = k.f.args.length) : fitA m a.args [k.a, k.b] = fitA m a.args k.f.args := by
  unfold Ky.f at h ⊢
  simp only at h ⊢
  by_cases hb : k.b = 0
  · rw [if_pos hb] at h ⊢
    match a.args, h with
    | [x], _ => simp [fitA]
  · rw [if_neg hb]
theorem c95 {C : List Fa} {S : Ky → Prop} {B : Nat → Bool} (hB : SB B S) (hSC : ∀ k, S k → TyK C k) {r : DR} (hru : RuleP r.p) (hrC : ∀ a ∈ r.p.atoms, a ∈ C) : ∀ (d : Nat) {i : Nat} {w : World} {m : List Int}, r.body.length = i + d → RulOk w r → m.length = 8 →
    Calls Try.prog 95 [.agg [.int .i64 r.head.rel, .slice r.head.sl.a r.head.sl.n r.head.sl.c, .slice r.bs.a r.bs.n r.bs.c].toArray, .agg (bL B).toArray, .int .i64 (i : Int), .agg (vI m).toArray].toArray w fun e w' => ∃ (s : Sl) (L : List (List Int)), e = .returned (.slice s.a s.n s.c) ∧ Own 90 8 e8 w.heap.size w' s L ∧ (∀ u, u ∈ L ↔ En S (r.p.body.drop i) m u) ∧ (∀ u ∈ L, u.length = 8) ∧ L.length ≤ 252 ^ d ∧ Ext w w' := by
  intro d
  induction d with
  | zero =>
    intro i w m hid hr hm
    refine (call95 r.head.rel r.head.sl r.bs (bL B) (i : Int) (vI m) (R := fun v w' => ∃ (s : Sl) (L : List (List Int)), v = (.slice s.a s.n s.c) ∧ Own 90 8 e8 w.heap.size w' s L ∧ (∀ u, u ∈ L ↔ En S (r.p.body.drop i) m u) ∧ (∀ u ∈ L, u.length = 8) ∧ L.length ≤ 252 ^ 0 ∧ Ext w w') ?_).mono fun e w' ⟨v, he, s, L, hv, hx⟩ => ⟨s, L, by rw [he, hv], hx⟩
    have hbn := hr.bd.len
    refine Let.intro fun w1 e1 => ?_
    have e1 : w1 = w.alloc (.cells (eR r).toArray 94) := e1
    have b1 : Blk w1 w.heap.size (eR r) 94 := by rw [e1]; exact Blk.alloc w _ 94
    have x1 : Ext w w1 := by rw [e1]; exact Ext.alloc ..
    refine Let.intro fun w2 e2 => ?_
    have x2 : Ext w1 w2 := by rw [e2]; exact Ext.alloc ..
    refine Let.intro fun w3 e3 => ?_
    have b3 : Blk w3 w2.heap.size (vI m) 90 := by rw [e3]; exact Blk.alloc w2 _ 90
    have x3 : Ext w2 w3 := by rw [e3]; exact Ext.alloc ..
    have x03 := (x1.trans x2).trans x3
    refine ⟨r.bs, ((b1.ext x2).ext x3).cell 2, cond_intro (fun _ => ?_) (fun g => ?_)⟩
    · have hb := buildOne_run E157 (v := .agg (vI m).toArray) (vs := e8 m) (by rw [e8_eq hm]; rfl) (e8_len m) (by decide) w3
      refine ⟨vI m, by rw [vI_len, hm], b3.rd, ⟨some ⟨w3.heap.size, 0, none⟩, 1, 1⟩, _, hb, _, [m], rfl, (Own.one w3 m (e8_len m)).mono x03.size, fun u => ?_, by simpa using hm, by simp, x03.trans (Ext.alloc ..)⟩
      have e : r.p.body.drop i = [] := List.drop_eq_nil_of_le (by simp [DR.p]; omega)
      rw [e]; simp [En]
    · have : i = r.bs.n := by omega
      rw [this] at g; simp at g
  | succ d ih =>
    intro i w m hid hr hm
    refine (call95 r.head.rel r.head.sl r.bs (bL B) (i : Int) (vI m) (R := fun v w' => ∃ (s : Sl) (L : List (List Int)), v = (.slice s.a s.n s.c) ∧ Own 90 8 e8 w.heap.size w' s L ∧ (∀ u, u ∈ L ↔ En S (r.p.body.drop i) m u) ∧ (∀ u ∈ L, u.length = 8) ∧ L.length ≤ 252 ^ (d + 1) ∧ Ext w w') ?_).mono fun e w' ⟨v, he, s, L, hv, hx⟩ => ⟨s, L, by rw [he, hv], hx⟩
    have hbn := hr.bd.len
    have hb3 : r.body.length ≤ 3 := by have := hru.1; simpa [DR.p] using this
    have hpow : 252 ^ d ≤ 252 ^ 3 := Nat.pow_le_pow_right (by omega) (by omega)
    have hpow3 : 252 ^ 3 = 16003008 := by decide
    have hpowS : 252 ^ (d + 1) = 252 * 252 ^ d := by rw [Nat.pow_succ, Nat.mul_comm]
    refine Let.intro fun w1 e1 => ?_
    have e1 : w1 = w.alloc (.cells (eR r).toArray 94) := e1
    have b1 : Blk w1 w.heap.size (eR r) 94 := by rw [e1]; exact Blk.alloc w _ 94
    have x1 : Ext w w1 := by rw [e1]; exact Ext.alloc ..
    refine Let.intro fun w2 e2 => ?_
    have b2 : Blk w2 w1.heap.size (bL B) 43 := by rw [e2]; exact Blk.alloc w1 _ 43
    have x2 : Ext w1 w2 := by rw [e2]; exact Ext.alloc ..
    refine Let.intro fun w3 e3 => ?_
    have b3 : Blk w3 w2.heap.size (vI m) 90 := by rw [e3]; exact Blk.alloc w2 _ 90
    have x3 : Ext w2 w3 := by rw [e3]; exact Ext.alloc ..
    have b1 := (b1.ext x2).ext x3
    have b2 := b2.ext x3
    have x03 := (x1.trans x2).trans x3
    have hi : i < r.body.length := by omega
    refine ⟨r.bs, b1.cell 2, cond_intro (fun g => ?_) (fun _ => ?_)⟩
    · have g : i = r.bs.n := by simp at g; omega
      omega
    refine ⟨r.bs, b1.cell 2, loadLT (hr.ext x03).bd hi zc96 fun w6 b6 x6 => ?_⟩
    have x06 := x03.trans x6
    have hbp : r.p.body[i]'(by simpa [DR.p] using hi) = (r.body[i]).p := by simp [DR.p]
    have hdr : r.p.body.drop i = (r.body[i]).p :: r.p.body.drop (i + 1) := by rw [List.drop_eq_getElem_cons (by simpa [DR.p] using hi), hbp]
    have hat : (r.body[i]).p.a ∈ r.p.atoms := by simp [Ru.atoms, DR.p]; exact .inr ⟨_, List.getElem_mem hi, rfl⟩
    have hint := hr.bd.ok _ (List.getElem_mem hi)
    have hfit := hru.2.2 _ hat
    have hatC := hrC _ hat
    generalize r.body[i] = b at b6 hdr hint hfit hatC
    have hfit : FitsF b.a.p := hfit
    have hatC : b.a.p ∈ C := hatC
    have ew : IntKind.wrap .i64 ((i : Int) + 1) = ((i + 1 : Nat) : Int) := by rw [wrap64 (by omega) (by omega)]; rfl
    rw [ew]
    refine ⟨b.neg, b6.cell 0, cond_intro (fun g => ?_) (fun g => ?_)⟩
    · refine ⟨_, _, _, (b1.ext x6).rd, bL B, bL_len B, (b2.ext x6).rd, vI m, by rw [vI_len, hm], (b3.ext x6).rd, (ih (i := i + 1) (by omega) (hr.ext x06) hm).mono fun e w7 ⟨s, L, he, ho, hL, hL8, hLl, x7⟩ => ⟨s, he, s, L, rfl, ho.mono x06.size, fun u => ?_, hL8, ?_, x06.trans x7⟩⟩
      · rw [hdr, En, if_pos (show b.p.neg = true from g), hL]
      · rw [hpowS]; omega
    refine ⟨bL B, bL_len B, (b2.ext x6).rd, Join.dir (rangeSI (n := 252) (fun c (s10 : Sl) w9 => ∃ L : List (List Int), Own 90 8 e8 w6.heap.size w9 s10 L ∧ (∀ u, u ∈ L ↔ ∃ c', c' < c ∧ B c' = true ∧ ∃ v', fitK m b.p.a (ck c') v' ∧ En S (r.p.body.drop (i + 1)) v' u) ∧ (∀ u ∈ L, u.length = 8) ∧ L.length ≤ c * 252 ^ d ∧ Ext w6 w9) (by decide) ⟨[], Own.nil .., by simp, by simp, by simp, Fr.refl _ _⟩ ?_ ?_)⟩
    rotate_left
    · rintro s10 w9 ⟨L, ho, hL, hL8, hLl, x9⟩
      refine ⟨s10, L, rfl, ho.mono x06.size, fun u => ?_, hL8, by rw [hpowS]; exact hLl, x06.trans x9⟩
      rw [hL, hdr, En, if_neg (show ¬ b.p.neg = true by show ¬ b.neg = true; rw [g]; simp)]
      constructor
      · rintro ⟨c, hc, hbc, v', h1, h2⟩
        exact ⟨ck c, v', (hB.ck hc).1 hbc, h1, h2⟩
      · rintro ⟨k, v', hk, h1, h2⟩
        have hgk := (hSC k hk).gk
        exact ⟨kc k, kc_lt hgk, (hB k hgk).2 hk, v', by rw [ck_kc hgk]; exact h1, h2⟩
    rintro c hc s10 w9 ⟨L, ho, hL, hL8, hLl, x9⟩ K hK
    have x69 := x9
    refine ⟨by omega, by omega, B c, by rw [show Int.toNat (c : Int) = c from by omega]; exact bL_get hc, (c73 hc w9).mono fun e w11 ⟨y, he, hy, hyt, x11⟩ => ⟨_, _, he, ?_⟩⟩
    obtain ⟨n1, n2, n3⟩ := new_var w11 36 (z := zc Try.prog 36) (vs := eF y) (by rw [zc36, eF_len]) (eF_one y)
    refine Let.intro fun w12 e12 => ?_
    rw [← e12] at n1 n2 n3
    refine ⟨n1, Let.intro fun w13 e13 => ?_⟩
    have e13 : w13 = put w12 w11.heap.size 0 (eF y) := e13
    rw [← e13] at n2 n3
    have x913 := x11.trans n3
    have x613 := x9.trans x913
    have hyt13 := hyt.ext n3
    have hyk : y.rel = (ck c).rel := congrArg Fa.rel hy
    have hya : y.args = (ck c).f.args := congrArg Fa.args hy
    have hyl := hyt13.i.len
    have hil := hint.len
    refine ⟨fun (b64 : Bool) w14 => (b64 = false ↔ (B c = true ∧ y.rel = b.a.rel ∧ y.args.length = b.a.args.length)) ∧ w14 = w13, ?_, ?_⟩
    rotate_left
    · refine cond_intro (fun g2 => ?_) (fun g2 => ?_)
      · have g2 : B c = false := by simpa using g2
        exact ⟨⟨(fun h => by cases h), fun h => by rw [g2] at h; cases h.1⟩, rfl⟩
      have g2 : B c = true := by simpa using g2
      refine ⟨_, n2.cell 0, _, (b6.ext x613).cell 1, cond_intro (fun g3 => ?_) (fun g3 => ?_)⟩
      · have g3 : ¬ y.rel = b.a.rel := by simpa using g3
        exact ⟨⟨(fun h => by cases h), fun h => absurd h.2.1 g3⟩, rfl⟩
      have g3 : y.rel = b.a.rel := by simpa using g3
      refine ⟨_, n2.cell 1, _, (b6.ext x613).cell 2, ?_, rfl⟩
      rw [hyl, hil]
      constructor
      · intro h
        have h : ((y.args.length : Nat) : Int) = b.a.args.length := by simpa using h
        exact ⟨g2, g3, by omega⟩
      · rintro ⟨_, _, h⟩
        rw [h]; simp
    rintro b64 w14 ⟨hb64, rfl⟩
    have hstep : ∀ u, (∃ c', c' < c + 1 ∧ B c' = true ∧ ∃ v', fitK m b.p.a (ck c') v' ∧ En S (r.p.body.drop (i + 1)) v' u) ↔ (u ∈ L ∨ (B c = true ∧ ∃ v', fitK m b.p.a (ck c) v' ∧ En S (r.p.body.drop (i + 1)) v' u)) := fun u => by
      rw [hL]
      constructor
      · rintro ⟨c', hc', h⟩
        by_cases e : c' = c
        · subst e; exact .inr h
        · exact .inl ⟨c', by omega, h⟩
      · rintro (⟨c', hc', h⟩ | h)
        · exact ⟨c', by omega, h⟩
        · exact ⟨c, by omega, h⟩
    have hgo : c * 252 ^ d ≤ (c + 1) * 252 ^ d := Nat.mul_le_mul_right _ (by omega)
    refine cond_intro (fun g2 => ?_) (fun g2 => ?_)
    · subst g2
      refine hK _ _ ⟨L, ho.ext x913, fun u => ?_, hL8, by omega, x613⟩
      rw [hstep]
      constructor
      · intro h; exact .inl h
      · rintro (h | ⟨h1, v', h2, _⟩)
        · exact h
        · exfalso
          have hty := hSC _ ((hB.ck hc).1 h1)
          have h4 : b.a.p.args.length = (ck c).f.args.length := hty.len b.a.p hatC h2.1
          have h5 : b.a.rel = (ck c).rel := h2.1
          have := hb64.2 ⟨h1, by rw [hyk, h5], by rw [hya]; exact h4.symm⟩
          cases this
    obtain ⟨hBc, hrel, hlen⟩ := hb64.1 g2
    have hfk : ∀ v', fitK m b.p.a (ck c) v' ↔ fitA m b.a.args y.args = some v' := fun v' => by
      unfold fitK
      rw [hya]
      have : fitA m b.p.a.args [(ck c).a, (ck c).b] = fitA m b.p.a.args (ck c).f.args := fitA_f (a := b.p.a) (by rw [← hya]; exact hlen.symm)
      rw [this]
      constructor
      · intro h; exact h.2
      · intro h; exact ⟨by rw [← hyk, hrel]; rfl, h⟩
    obtain ⟨q1, q2, q3⟩ := new_var w14 90 (z := zc Try.prog 90) (vs := vI m) (by rw [zc90, vI_len, hm]) (vI_one m)
    rw [vI_len, hm] at q1
    refine ⟨vI m, by rw [vI_len, hm], (b3.ext (x6.trans x613)).rd, Let.intro fun w15 e15 => ?_⟩
    rw [← e15] at q1 q2 q3
    refine ⟨q1, Let.intro fun w16 e16 => ?_⟩
    rw [← e16] at q2 q3
    have x616 := x613.trans q3
    have ln : w11.heap.size < w14.heap.size := n2.lt
    refine ⟨b.a.sl, (b6.ext x616).cell 2, ?_⟩
    refine ⟨fun (ok : Bool) w17 => ∃ v' : List Int, v'.length = 8 ∧ (ok = true → fitA m b.a.args y.args = some v') ∧ (ok = false → fitA m b.a.args y.args = none) ∧ Blk w17 w14.heap.size (vI v') 90 ∧ Ext w14 w17, ?_, ?_⟩
    rotate_left
    · refine rangeKI (k := .bool) (fun j (ok : Bool) w21 => ∃ v' : List Int, v'.length = 8 ∧ (ok = true → fitA m b.a.args y.args = fitA v' (b.a.args.drop j) (y.args.drop j)) ∧ (ok = false → fitA m b.a.args y.args = none) ∧ Blk w21 w14.heap.size (vI v') 90 ∧ Fr (fun q => q = w14.heap.size) w16 w21) (by rw [hil]; have h2 : b.a.args.length ≤ 2 := hfit.2.2.2.1
                                                                                                                                                                                                                                                                                                               show b.a.args.length ≤ 9223372036854775807; omega) ⟨m, hm, fun _ => rfl, (fun h => by cases h), q2, Fr.refl _ _⟩ ?_ ?_
      rotate_left
      · rintro ok w21 ⟨v', h8, h1, h2, h3, h4⟩
        refine ⟨v', h8, fun h => ?_, h2, h3, q3.newer h4 fun q (hq : q = w14.heap.size) => by omega⟩
        rw [h1 h, hil, List.drop_length]; simp [fitA]
      rintro j hj ok w21 ⟨v', h8, h1, h2, h3, h4⟩ K2 hK2
      have hj : j < b.a.args.length := by omega
      have hjy : j < y.args.length := by omega
      have x021 : Ext w14 w21 := q3.newer h4 fun q (hq : q = w14.heap.size) => by omega
      have x621 := x613.trans x021
      obtain ⟨p, hp, a1, a2, hrd⟩ := Ints.at (hint.ext (x06.trans x621)) hj
      have hfx : -6 ≤ b.a.args[j] ∧ b.a.args[j] ≤ 7 := hfit.2.2.2.2 _ (List.getElem_mem hj)
      have hd1 : b.a.args.drop j = b.a.args[j] :: b.a.args.drop (j + 1) := List.drop_eq_getElem_cons hj
      have hd2 : y.args.drop j = y.args[j] :: y.args.drop (j + 1) := List.drop_eq_getElem_cons hjy
      rw [hd1, hd2, fitA] at h1
      refine ⟨p, hp, a1, a2, _, hrd, ?_⟩
      generalize b.a.args[j] = x at h1 hfx
      have yAt : ∀ w', Ext w14 w' → ∃ p90 : Pt, y.sl.a = some ⟨p90.b, p90.o, none⟩ ∧ 0 ≤ (j : Int) ∧ (j : Int) < ((y.sl.n : Nat) : Int) ∧ World.cell? w' ⟨p90.b, (p90.o + Int.toNat (j : Int) * 1), none⟩ = some (.int .i64 (y.args[j])) := fun w' x' => by
        obtain ⟨p90, hp90, c1, c2, hr90⟩ := Ints.at (hyt13.i.ext x') hjy
        exact ⟨p90, hp90, c1, c2, hr90⟩
      have n21 := n2.ext x021
      generalize y.args[j] = z at h1 yAt
      refine Join.dir (Join.dir (cond_intro (fun g4 => ?_) (fun g4 => ?_)))
      · have g4 : x < 0 := by simpa using g4
        refine Join.dir (cond_intro (fun g5 => ?_) (fun g5 => ?_))
        · obtain ⟨p90, hp90, c1, c2, hr90⟩ := yAt w21 x021
          have ewx : IntKind.wrap .i64 (0 - x) = -x := by rw [wrap64 (by omega) (by omega)]; omega
          rw [ewx]
          refine ⟨_, n21.cell 1, p90, hp90, c1, c2, z, hr90, hK2 _ _ ⟨v', h8, fun h => ?_, fun h => ?_, h3, h4⟩⟩
          · have h : z = -x := by simpa using h
            rw [h1 g5, if_neg (by rintro (h' | h') <;> omega), if_neg (by omega)]
          · have h : ¬ z = -x := by simpa using h
            rw [h1 g5, if_pos (.inl ⟨g4, fun e => h e.symm⟩)]
        · exact hK2 _ _ ⟨v', h8, (fun h => by cases h), fun _ => h2 g5, h3, h4⟩
      · have g4 : ¬ x < 0 := by simpa using g4
        have hx8 : x.toNat < v'.length := by omega
        refine ⟨by omega, by omega, v'.getD x.toNat 0, blkAt h3 hx8 (by omega), Join.dir (cond_intro (fun g5 => ?_) (fun g5 => ?_))⟩
        · have g5 : v'.getD x.toNat 0 ≠ 0 := by simpa using g5
          refine Join.dir (Let.intro fun w28 e28 => ?_)
          have x28 : Ext w21 w28 := by rw [e28]; exact Ext.drew _
          have h3' := h3.ext x28
          have h4' := h4.ext x28
          refine cond_intro (fun g6 => ?_) (fun g6 => ?_)
          · obtain ⟨p90, hp90, c1, c2, hr90⟩ := yAt w28 (x021.trans x28)
            refine ⟨_, (n21.ext x28).cell 1, p90, hp90, c1, c2, z, hr90, by omega, by omega, v'.getD x.toNat 0, blkAt h3' hx8 (by omega), hK2 _ _ ⟨v', h8, fun h => ?_, fun h => ?_, h3', h4'⟩⟩
            · have h : z = v'.getD x.toNat 0 := by simpa using h
              rw [h1 g6, if_neg (by rintro (h' | h')
                                    · omega
                                    · exact h'.2.2 h.symm), if_pos (by omega), h, set_same hx8]
            · have h : ¬ z = v'.getD x.toNat 0 := by simpa using h
              rw [h1 g6, if_pos (.inr ⟨by omega, g5, fun e => h e.symm⟩)]
          · exact hK2 _ _ ⟨v', h8, (fun h => by cases h), fun _ => h2 g6, h3', h4'⟩
        · have g5 : v'.getD x.toNat 0 = 0 := by simpa using g5
          obtain ⟨p79, hp79, c1, c2, hr79⟩ := yAt w21 x021
          have eo : 0 + Int.toNat x * 1 = x.toNat := by omega
          refine ⟨_, n21.cell 1, p79, hp79, c1, c2, z, hr79, by omega, by omega, ?_⟩
          rw [eo]
          obtain ⟨st, hb', hf'⟩ : StoreOk w21 w14.heap.size x.toNat [.int .i64 z] 1 ∧ Blk (put w21 w14.heap.size x.toNat [.int .i64 z]) w14.heap.size (vI (v'.set x.toNat z)) 90 ∧ Fr (fun q => q = w14.heap.size) w21 (put w21 w14.heap.size x.toNat [.int .i64 z]) := by
            refine ⟨h3.storeOk rfl (by intro v hv; simp at hv; subst hv; rfl) (by rw [vI_len]; omega), ?_, Fr.put ..⟩
            have := h3.put (o := x.toNat) (vs := [.int .i64 z])
            rw [← vI_set]; exact this
          refine ⟨st, Let.intro fun w29 e29 => ?_⟩
          rw [← e29] at hb' hf'
          refine hK2 _ _ ⟨v'.set x.toNat z, by simp [h8], fun h => ?_, h2, hb', h4.trans hf' fun _ _ h => h⟩
          rw [h1 h, if_neg (by rintro (h' | h')
                               · omega
                               · exact h'.2.1 g5), if_pos (by omega)]
    rintro ok w17 ⟨v', h8, h1, h2, h3, x17⟩
    have x617 := x613.trans x17
    have x017 := x06.trans x617
    refine Join.dir (cond_intro (fun g3 => ?_) (fun g3 => ?_))
    · have hfa := h1 g3
      refine ⟨_, _, _, (b1.ext (x6.trans x617)).rd, bL B, bL_len B, (b2.ext (x6.trans x617)).rd, vI v', by rw [vI_len, h8], h3.rd, (ih (i := i + 1) (by omega) (hr.ext x017) h8).mono fun e w19 ⟨s', L', he, ho', hL', hL8', hLl', x19⟩ => ⟨s', he, ?_⟩⟩
      have ho19 := (ho.ext (x913.trans x17)).ext x19
      obtain ⟨s22, w20, hr20, ho20, hf20⟩ := appendSli E157 ho19 ho'.sli e8_len e8_one (by
          have : c * 252 ^ d ≤ 252 * 252 ^ d := Nat.mul_le_mul_right _ (by omega)
          omega) (by
          have : c * 252 ^ d ≤ 252 * 252 ^ d := Nat.mul_le_mul_right _ (by omega)
          simp only [maxLen]; omega) (by have := x617.size; have := x19.size; omega) 157
      refine ⟨s22, w20, hr20, hK _ _ ⟨L ++ L', ho20, fun u => ?_, fun u hu => ?_, ?_, (x617.trans x19).newer hf20 fun q ⟨a, ha, e⟩ => by have := (ho.base ha).1; omega⟩⟩
      · rw [hstep, List.mem_append, hL']
        constructor
        · rintro (h | h)
          · exact .inl h
          · exact .inr ⟨hBc, v', (hfk v').2 hfa, h⟩
        · rintro (h | ⟨_, v2, h4, h5⟩)
          · exact .inl h
          · right
            have := (hfk v2).1 h4
            rw [hfa] at this
            cases this; exact h5
      · rcases List.mem_append.1 hu with hu | hu
        · exact hL8 u hu
        · exact hL8' u hu
      · rw [List.length_append, Nat.add_mul]; omega
    · have hfa := h2 g3
      refine hK _ _ ⟨L, (ho.ext x913).ext x17, fun u => ?_, hL8, by omega, x617⟩
      rw [hstep]
      constructor
      · intro h; exact .inl h
      · rintro (h | ⟨_, v2, h4, _⟩)
        · exact h
        · have := (hfk v2).1 h4
          rw [hfa] at this; cases this
end Go.Proofs.Ytoljknamnkkgcaa
/-
  Contract of the reference: the consequences of rules.
-/
namespace Go.Proofs.Ytoljknamnkkgcaa
open Go Go.VC
set_option maxHeartbeats 1600000
set_option maxRecDepth 100000

def setOf (B : Nat → Bool) (k : Ky) : Prop := GK k ∧ B (kc k) = true
theorem SB.of (B : Nat → Bool) : SB B (setOf B) := fun _ hk => ⟨fun h => ⟨hk, h⟩, fun h => h.2⟩
def cntB (B : Nat → Bool) : Nat := ((List.range 252).filter B).length
theorem cntB_le (B : Nat → Bool) : cntB B ≤ 252 := by
  have := List.length_filter_le B (List.range 252)
  simpa [cntB] using this
theorem cntB_upd {B : Nat → Bool} {c : Nat} (hc : c < 252) (h : B c = false) : cntB B + 1 ≤ cntB (upd B c true) := by
  have hn : (c :: (List.range 252).filter B).Nodup := List.nodup_cons.2 ⟨fun hm => (by rw [List.mem_filter] at hm; rw [h] at hm; cases hm.2), List.nodup_range.filter _⟩
  have := hn.length_le_of_subset (l₂ := (List.range 252).filter (upd B c true)) fun x hx => by
    rcases List.mem_cons.1 hx with rfl | hx
    · exact List.mem_filter.2 ⟨by simpa using hc, by simp [upd]⟩
    · obtain ⟨h1, h2⟩ := List.mem_filter.1 hx
      refine List.mem_filter.2 ⟨h1, ?_⟩
      unfold upd; split
      · rfl
      · exact h2
  simpa [cntB] using this
theorem setOf_upd {B : Nat → Bool} {k k' : Ky} (hk : GK k) : setOf (upd B (kc k) true) k' ↔ setOf B k' ∨ k' = k := by
  unfold setOf upd
  constructor
  · rintro ⟨h1, h2⟩
    split at h2
    · rename_i e
      right; rw [← ck_kc h1, e, ck_kc hk]
    · exact .inl ⟨h1, h2⟩
  · rintro (⟨h1, h2⟩ | rfl)
    · exact ⟨h1, by split <;> simp [h2]⟩
    · exact ⟨hk, by simp⟩
/-- A rule leaves a set as it is. -/
def ClosedR (N S : Ky → Prop) (r : Ru) : Prop := ∀ u, En S r.body z8 u → NegOk N r.body u → S (gnd r.head u)
theorem c70 {C : List Fa} {G N : Ky → Prop} {BG BN : Nat → Bool} {w : World} {s : Sl} {l : List DR} (hs : NR w s l) (hl : l.length ≤ 100) (hru : ∀ r ∈ l, RuleP r.p) (hrC : ∀ r ∈ l, ∀ a ∈ r.p.atoms, a ∈ C) (hC : Consist C) (hG : SB BG G) (hGt : ∀ k, G k → TyK C k) (hN : SB BN N) :
    Calls Try.prog 70 [.slice s.a s.n s.c, .agg (bL BG).toArray, .agg (bL BN).toArray].toArray w fun e w' => ∃ B : Nat → Bool, e = .returned (.agg (bL B).toArray) ∧ SB B (Cl (l.map DR.p) G N) ∧ Ext w w' := by
  refine (call70 s (bL BG) (bL BN) (R := fun v w' => ∃ B : Nat → Bool, v = .agg (bL B).toArray ∧ SB B (Cl (l.map DR.p) G N) ∧ Ext w w') ?_).mono fun e w' ⟨v, he, B, hv, hx⟩ => ⟨B, by rw [he, hv], hx⟩
  have hsn := hs.len
  have hClt : ∀ k, Cl (l.map DR.p) G N k → TyK C k := Cl_ty hC hGt fun r hr => by
    obtain ⟨x, hx, rfl⟩ := List.mem_map.1 hr
    exact ⟨hru x hx, hrC x hx⟩
  refine Let.intro fun w1 e1 => ?_
  have b1 : Blk w1 w.heap.size (bL BG) 43 := by rw [e1]; exact Blk.alloc w _ 43
  have x1 : Ext w w1 := by rw [e1]; exact Ext.alloc ..
  refine Let.intro fun w2 e2 => ?_
  have bk2 : Blk w2 w1.heap.size (bL BN) 43 := by rw [e2]; exact Blk.alloc w1 _ 43
  have x2 : Ext w1 w2 := by rw [e2]; exact Ext.alloc ..
  refine Let.intro fun w3 e3 => ?_
  have b3 : Blk w3 w2.heap.size (bL fun _ => false) 43 := by rw [e3, ← zc43]; simpa using Blk.alloc w2 (zc Try.prog 43).toList 43
  have x3 : Ext w2 w3 := by rw [e3]; exact Ext.alloc ..
  have b1 := (b1.ext x2).ext x3
  have bk2 := bk2.ext x3
  have x03 := (x1.trans x2).trans x3
  have l1 : w.heap.size < w1.heap.size := by rw [e1]; show w.heap.size < (w.heap.push _).size; simp
  have l2 : w1.heap.size < w2.heap.size := by rw [e2]; show w1.heap.size < (w1.heap.push _).size; simp
  have l3 : w2.heap.size < w3.heap.size := b3.lt
  refine ⟨fun w4 => ∃ B : Nat → Bool, Blk w4 w.heap.size (bL B) 43 ∧ SB B (Cl (l.map DR.p) G N) ∧ Fr (fun y => y = w.heap.size) w3 w4, ?_, ?_⟩
  · rintro w4 ⟨B, b4, hB, f4⟩
    obtain ⟨p1, p2, p3⟩ := blk_all (b3.fr f4 (by omega)) (vs := bL B) (by simp [bL_len]) (bL_one B)
    rw [bL_len] at p1
    refine ⟨bL B, bL_len B, b4.rd, p1, Let.intro fun w5 e5 => ?_⟩
    rw [← e5] at p2 p3
    exact ⟨bL B, bL_len B, p2.rd, B, rfl, hB, (x03.newer f4 fun y (hy : y = w.heap.size) => by omega).newer p3 fun y (hy : y = w2.heap.size) => by omega⟩
  refine LoopV.intro (fun n (b7 : Bool) w6 => ∃ B : Nat → Bool, Blk w6 w.heap.size (bL B) 43 ∧ (∀ k, G k → setOf B k) ∧ (∀ k, setOf B k → Cl (l.map DR.p) G N k) ∧ n = 252 - cntB B + (if b7 then 1 else 0) ∧ (b7 = false → Closed (l.map DR.p) N (setOf B)) ∧ Fr (fun y => y = w.heap.size) w3 w6)
    (252 - cntB BG + 1) ⟨BG, b1, fun k hk => ⟨(hGt k hk).gk, (hG k (hGt k hk).gk).2 hk⟩, fun k hk => Cl.base ((hG k hk.1).1 hk.2), rfl, (by intro h; cases h), Fr.refl _ _⟩ ?_
  rintro n b7 w6 ⟨B, b6, hGB, hBC, rfl, hcl, f6⟩
  refine cond_intro (fun g => ?_) (fun g => ⟨B, b6, fun k hk => ?_, f6⟩)
  rotate_left
  · have := Cl.eq hGB (hcl g) hBC k
    rw [this]
    exact ⟨fun h => ⟨hk, h⟩, fun h => h.2⟩
  subst g
  have x06 : Ext w w6 := x03.newer f6 fun y (hy : y = w.heap.size) => by omega
  refine Join.dir (Join.dir (rangeKI (k := .bool) (fun i (b : Bool) w9 => ∃ B' : Nat → Bool, Blk w9 w.heap.size (bL B') 43 ∧ (∀ k, setOf B k → setOf B' k) ∧ (∀ k, setOf B' k → Cl (l.map DR.p) G N k) ∧ (b = false → B' = B ∧ ∀ r ∈ l.take i, ClosedR N (setOf B) r.p) ∧ (b = true → cntB B < cntB B') ∧ Fr (fun y => y = w.heap.size) w3 w9)
    (by rw [hsn]; show l.length ≤ 9223372036854775807; omega) ⟨B, b6, fun _ h => h, hBC, fun _ => ⟨rfl, by simp⟩, (by intro h; cases h), f6⟩ ?_ ?_))
  rotate_left
  · rintro b w9 ⟨B', b9, hBB, hB'C, hno, hyes, f9⟩
    have c1 := cntB_le B'
    have c2 := cntB_le B
    refine ⟨252 - cntB B' + (if b then 1 else 0), ?_, B', b9, fun k hk => hBB k (hGB k hk), hB'C, rfl, fun hb => ?_, f9⟩
    · cases b with
      | true => have := hyes rfl; simp; omega
      | false => have := (hno rfl).1; subst this; simp
    · obtain ⟨rfl, h⟩ := hno hb
      rw [hsn, List.take_length] at h
      intro r hr
      obtain ⟨x, hx, rfl⟩ := List.mem_map.1 hr
      exact h x hx
  rintro i hi b w9 ⟨B', b9, hBB, hB'C, hno, hyes, f9⟩ K hK
  have hi : i < l.length := by omega
  have x09 : Ext w w9 := x03.newer f9 fun y (hy : y = w.heap.size) => by omega
  have z39 := f9.size
  refine loadRT (hs.ext x09) hi zc94 fun w12 b12 x12 => ?_
  have hmem := List.getElem_mem hi
  have hro := ((hs.ok _ hmem).ext x09).ext x12
  have hrr := hru _ hmem
  have hrCr := hrC _ hmem
  have htk : l.take (i + 1) = l.take i ++ [l[i]] := List.take_succ_eq_append_getElem hi
  generalize l[i] = r at b12 hro hrr hrCr htk hmem
  have b9' := b9.ext x12
  refine ⟨_, _, _, b12.rd, bL B', bL_len B', b9'.rd, ?_⟩
  have h95 := c95 (SB.of B') (fun k hk => hClt k (hB'C k hk)) hrr hrCr r.body.length (i := 0) (w := w12) (m := z8) (by omega) hro rfl
  refine h95.mono fun e w13 ⟨s23, L, he, hLo, hL, hL8, hLl, x13⟩ => ⟨s23, he, ?_⟩
  simp only [List.drop_zero] at hL
  have hLn := hLo.sli.len
  have hb3 : r.body.length ≤ 3 := by have := hrr.1; simpa [DR.p] using this
  have hpow : 252 ^ r.body.length ≤ 252 ^ 3 := Nat.pow_le_pow_right (by omega) hb3
  have hpow3 : 252 ^ 3 = 16003008 := by decide
  have f13 := (f9.ext x12).ext x13
  have x912 := x12.size
  have lw9 : w.heap.size < w9.heap.size := b9.lt
  refine Join.dir (rangeKI (k := .bool) (fun j (b : Bool) w15 => ∃ B2 : Nat → Bool, Blk w15 w.heap.size (bL B2) 43 ∧ (∀ k, setOf B k → setOf B2 k) ∧ (∀ k, setOf B2 k → Cl (l.map DR.p) G N k) ∧ (b = false → B2 = B ∧ B' = B ∧ (∀ r ∈ l.take i, ClosedR N (setOf B) r.p) ∧ ∀ u ∈ L.take j, NegOk N r.p.body u → setOf B (gnd r.p.head u)) ∧ (b = true → cntB B < cntB B2) ∧ Fr (fun y => y = w.heap.size) w13 w15)
    (by rw [hLn]; show L.length ≤ 9223372036854775807; omega) ⟨B', b9'.ext x13, hBB, hB'C, fun h => ⟨(hno h).1, (hno h).1, (hno h).2, by simp⟩, hyes, Fr.refl _ _⟩ ?_ ?_)
  rotate_left
  · rintro b2 w15 ⟨B2, b15, h1, h2, h3, h4, f15⟩
    refine hK _ _ ⟨B2, b15, h1, h2, fun hb => ?_, h4, f13.trans f15 fun _ _ h => h⟩
    obtain ⟨e1, e2, h5, h6⟩ := h3 hb
    rw [hLn, List.take_length] at h6
    refine ⟨e1, fun r' hr' => ?_⟩
    rw [htk, List.mem_append, List.mem_singleton] at hr'
    rcases hr' with hr' | rfl
    · exact h5 r' hr'
    · intro u hu hn
      rw [e2] at hL
      exact h6 u ((hL u).2 hu) hn
  rintro j hj b2 w15 ⟨B2, b15, h1, h2, h3, h4, f15⟩ K2 hK2
  have hj : j < L.length := by omega
  have hLo15 : Own 90 8 e8 w12.heap.size w15 s23 L := hLo.fr f15 fun a ha (e : a.block = w.heap.size) => by have := (hLo.base ha).1; omega
  have hnb : ∀ {q : Nat}, w9.heap.size ≤ q → ¬ q = w.heap.size := fun h => by omega
  have b12' := (b12.ext x13).fr f15 (hnb (Nat.le_refl _))
  have x015 : Ext w w15 := (x09.trans (x12.trans x13)).newer f15 fun y (hy : y = w.heap.size) => by omega
  have hro15 : RulOk w15 r := by
    have := (hs.ok r hmem)
    exact this.ext x015
  obtain ⟨p27, hp27, a1, a2, hr27⟩ := Sli.at e8_len hLo15.sli hj
  have hu := (hL _).1 (List.getElem_mem hj)
  have hu8 := hL8 _ (List.getElem_mem hj)
  have htk2 : L.take (j + 1) = L.take j ++ [L[j]] := List.take_succ_eq_append_getElem hj
  generalize L[j] = u at hr27 hu hu8 htk2
  rw [e8_eq hu8] at hr27
  have hinst : Inst r.p u := inst_of (fun k hk => hClt k (hB'C k hk)) hrr hrCr hu
  obtain ⟨n1, n2, n3⟩ := new_var w15 90 (z := zc Try.prog 90) (vs := vI u) (by rw [zc90, vI_len, hu8]) (vI_one u)
  rw [vI_len, hu8] at n1
  refine ⟨p27, hp27, a1, a2, vI u, by rw [vI_len, hu8], hr27, Let.intro fun w17 e17 => ?_⟩
  rw [← e17] at n1 n2 n3
  refine ⟨n1, Let.intro fun w18 e18 => ?_⟩
  rw [← e18] at n2 n3
  have hatH : r.p.head ∈ r.p.atoms := by simp [Ru.atoms]
  have hfH := hrr.2.2 _ hatH
  have hvH := hinst.2 _ hatH
  have hgk : GK (gnd r.p.head u) := gnd_gk hfH hvH
  have hrg := kc_rng hgk
  refine ⟨_, _, rdHead (b12'.ext n3), vI u, by rw [vI_len, hu8], n2.rd, (c96 (x := r.head) (hro15.hd.ext n3) hfH hu8 hvH).mono fun e w19 ⟨he, x19⟩ => ⟨_, he, ?_⟩⟩
  have x1519 := n3.trans x19
  have hh : r.head.p = r.p.head := rfl
  rw [hh]
  generalize hk : gnd r.p.head u = k at hgk hrg
  have hkc : Int.toNat (kcI k) = kc k := rfl
  have eo : 0 + Int.toNat (kcI k) * 1 = kc k := by rw [hkc]; omega
  refine ⟨fun (b42 : Bool) w20 => (b42 = true ↔ (NegOk N r.p.body u ∧ B2 (kc k) = false)) ∧ Ext w19 w20, ?_, ?_⟩
  rotate_left
  · refine ⟨_, _, _, ((b12'.ext n3).ext x19).rd, vI u, by rw [vI_len, hu8], (n2.ext x19).rd, bL BN, bL_len BN, ((((bk2.fr f13 (by omega)).fr f15 (by omega)).ext n3).ext x19).rd, ?_⟩
    refine (c97 (hro15.ext x1519) hrr hinst hN).mono fun e w23 ⟨b36, he, hb36, x23⟩ => ⟨b36, he, cond_intro (fun g => ?_) (fun g => ?_)⟩
    · refine ⟨hrg.1, by omega, B2 (kc k), by rw [eo]; exact bL_cell ((b15.ext x1519).ext x23) (kc_lt hgk), ?_, x23⟩
      have hn := hb36.1 g
      cases hb : B2 (kc k) with
      | true => simp
      | false => simp [hn]
    · have hn : ¬ NegOk N r.p.body u := fun h => by rw [hb36.2 h] at g; cases g
      exact ⟨⟨(fun h => by cases h), fun h => absurd h.1 hn⟩, x23⟩
  rintro b42 w20 ⟨hb42, x20⟩
  have x1520 := x1519.trans x20
  have b20 := b15.ext x1520
  refine Join.dir (cond_intro (fun g => ?_) (fun g => ?_))
  · obtain ⟨hn, hf⟩ := hb42.1 g
    obtain ⟨q1, q2, q3⟩ := bL_put (v := true) b20 (kc_lt hgk)
    refine ⟨hrg.1, by omega, by rw [eo]; exact q1, Let.intro fun w22 e22 => ?_⟩
    rw [eo] at e22
    rw [← e22] at q2 q3
    refine hK2 _ _ ⟨_, q2, fun k' hk' => (setOf_upd hgk).2 (.inl (h1 k' hk')), fun k' hk' => ?_, (fun h => by cases h), fun _ => ?_, (f15.ext x1520).trans q3 fun _ _ h => h⟩
    · rcases (setOf_upd hgk).1 hk' with hk' | rfl
      · exact h2 k' hk'
      · rw [← hk]
        exact Cl.closed (l.map DR.p) G N r.p (List.mem_map.2 ⟨r, hmem, rfl⟩) u (En_mono hB'C hu) hn
    · have c1 := cntB_upd (kc_lt hgk) hf
      have : cntB B ≤ cntB B2 := by
        cases b2 with
        | true => have := h4 rfl; omega
        | false => rw [(h3 rfl).1]; exact Nat.le_refl _
      omega
  · refine hK2 _ _ ⟨B2, b20, h1, h2, fun hb => ?_, h4, f15.ext x1520⟩
    obtain ⟨e1, e2, h5, h6⟩ := h3 hb
    refine ⟨e1, e2, h5, fun v hv hn => ?_⟩
    rw [htk2, List.mem_append, List.mem_singleton] at hv
    rcases hv with hv | rfl
    · exact h6 v hv hn
    · rw [hk, ← e1]
      cases hb : B2 (kc k) with
      | true => exact ⟨hgk, hb⟩
      | false => have := hb42.2 ⟨hn, hb⟩; rw [g] at this; cases this
end Go.Proofs.Ytoljknamnkkgcaa
/-
  Printed by a program of this session (wip/tools/vcprint.py): of each Go function the shallow form, and that the calculus comes to it, by the kernel.
-/
namespace Go.Proofs.Ytoljknamnkkgcaa
open Go Go.VC
set_option maxRecDepth 100000

/-- F30: cubeb/rules.Sources -/
def An30 : An := (.sq .lf (.sq (.sq (.rj [] [(23, .bool)]) (.cd (.sq .lf .lf) .lf)) (.sq (.sq .lf (.cd (.sq .lf .lf) .lf)) (.sq .lf (.sq .lf (.sq (.sq .lf (.cd (.sq .lf .lf) .lf)) (.sq (.sq .lf (.bk [(9, .slice)] (.lp [(9, .slice), (38, .int .i64)] (.sq .lf (.sq (.cd .lf .lf) (.sq (.bk [(9, .slice)] (.sq .lf (.sq (.rj [] [(49, .bool)]) (.cj [(9, .slice)] .lf .lf)))) .lf)))))) (.sq .lf .lf))))))))
def S30 (s0 : Sl) (s1 : Sl) (x2_0 : Int) (s2_1 : Sl) (R : Value → World → Prop) (w : World) : Prop :=
  Let (w.alloc (.cells [(.slice s0.a s0.n s0.c)].toArray 27)) fun w1 => 
  Let (w1.alloc (.cells [(.slice s1.a s1.n s1.c)].toArray 23)) fun w2 => 
  Let (w2.alloc (.cells [(.int .i64 x2_0), (.slice s2_1.a s2_1.n s2_1.c)].toArray 36)) fun w3 => 
  Join [(23, .bool)] (fun (b23 : Bool) (w4 : World) => cond b23 (
  R (.tuple [(.slice none 0 0), (.int .i64 (2 : Int))].toArray) w4) (
  ∃ s24 : Sl, World.cell? w4 ⟨w1.heap.size, 0, none⟩ = some (.slice s24.a s24.n s24.c) ∧ cond (decide (((s24.n : Nat) : Int) > (10 : Int))) (
  R (.tuple [(.slice none 0 0), (.int .i64 (3 : Int))].toArray) w4) (
  ∃ s29 : Sl, World.cell? w4 ⟨w1.heap.size, 0, none⟩ = some (.slice s29.a s29.n s29.c) ∧ 0 ≤ ((s29.n : Nat) : Int) ∧ Calls Try.prog 79 [(.int .i64 (IntKind.wrap .i64 ((IntKind.wrap .i64 ((1 : Int) * 2 ^ (min (Int.toNat ((s29.n : Nat) : Int)) (IntKind.bits .i64)))) - (1 : Int)))), (.pointer (some ⟨w1.heap.size, 0, none⟩)), (.pointer (some ⟨w.heap.size, 0, none⟩)), (.pointer (some ⟨w2.heap.size, 0, none⟩))].toArray w4 (fun e w5 => ∃ b33 : Bool, e = .returned (.bool b33) ∧
  cond (!b33) (
  R (.tuple [(.slice none 0 0), (.int .i64 (0 : Int))].toArray) w5) (
  ∃ s35 : Sl, World.cell? w5 ⟨w1.heap.size, 0, none⟩ = some (.slice s35.a s35.n s35.c) ∧ 0 ≤ ((s35.n : Nat) : Int) ∧ Join [(9, .slice)] (fun (s9 : Sl) (w6 : World) => R (.tuple [(.slice s9.a s9.n s9.c), (.int .i64 (0 : Int))].toArray) w6) (fun J =>
  LoopV [(9, .slice), (38, .int .i64)] (fun K => K ⟨none, 0, 0⟩ (0 : Int) w5) (fun N => fun (s9_2 : Sl) (x38 : Int) (w7 : World) =>
  cond (decide (x38 < (IntKind.wrap .i64 ((1 : Int) * 2 ^ (min (Int.toNat ((s35.n : Nat) : Int)) (IntKind.bits .i64)))))) (
  Join [(9, .slice)] (fun (s9_3 : Sl) (w8 : World) => N ⟨s9_3.a, s9_3.n, s9_3.c⟩ (IntKind.wrap .i64 (x38 + (1 : Int))) w8) (fun J_2 =>
  Let (w7.alloc (.cells (zc Try.prog 3) 3)) fun w9 => 
  StoreOk w9 w7.heap.size 0 [(.int .i64 x38)] 1 ∧ Let (put w9 w7.heap.size 0 [(.int .i64 x38)]) fun w10 => 
  Join [(49, .bool)] (fun (b49 : Bool) (w11 : World) => Join [(9, .slice)] (fun (s9_4 : Sl) (w12 : World) => J_2 ⟨s9_4.a, s9_4.n, s9_4.c⟩ w12) (fun J_3 =>
  cond b49 (
  ∃ x51 : Int, World.cell? w11 ⟨w7.heap.size, 0, none⟩ = some (.int .i64 x51) ∧ ∃ (s52 : Sl) (w13 : World), Sem.run Try.prog (Instr.buildSlice 34 1 [(0, (.int .i64 x51))].toArray) w11 = .ok (.slice s52.a s52.n s52.c) w13 ∧
  ∃ (s53 : Sl) (w14 : World), Sem.run Try.prog (Builtin.append_ #[34, 34] 34 #[(.slice s9_2.a s9_2.n s9_2.c), (.slice s52.a s52.n s52.c)]) w13 = .ok (.slice s53.a s53.n s53.c) w14 ∧
  J_3 ⟨s53.a, s53.n, s53.c⟩ w14) (
  J_3 ⟨s9_2.a, s9_2.n, s9_2.c⟩ w11))) (fun J_4 =>
  Calls Try.prog 34 [(.slice s9_2.a s9_2.n s9_2.c), (.func (.func 81) #[] [(.pointer (some ⟨w7.heap.size, 0, none⟩))].toArray)].toArray w10 (fun e_2 w15 => ∃ b43 : Bool, e_2 = .returned (.bool b43) ∧
  cond (!b43) (∃ x47 : Int, World.cell? w15 ⟨w7.heap.size, 0, none⟩ = some (.int .i64 x47) ∧ Calls Try.prog 79 [(.int .i64 x47), (.pointer (some ⟨w1.heap.size, 0, none⟩)), (.pointer (some ⟨w.heap.size, 0, none⟩)), (.pointer (some ⟨w2.heap.size, 0, none⟩))].toArray w15 (fun e_3 w16 => ∃ b48 : Bool, e_3 = .returned (.bool b48) ∧
  J_4 b48 w16)) (J_4 false w15))))) (
  J ⟨s9_2.a, s9_2.n, s9_2.c⟩ w7)))))))) (fun J_5 =>
  ∃ s11 : Sl, World.cell? w3 ⟨w.heap.size, 0, none⟩ = some (.slice s11.a s11.n s11.c) ∧ ∃ s12 : Sl, World.cell? w3 ⟨w1.heap.size, 0, none⟩ = some (.slice s12.a s12.n s12.c) ∧ Calls Try.prog 55 [(.slice s11.a s11.n s11.c), (.slice s12.a s12.n s12.c)].toArray w3 (fun e_4 w17 => ∃ b13 : Bool, e_4 = .returned (.bool b13) ∧
  cond (!b13) (J_5 true w17) (∃ x16_0 : Int, ∃ s16_1 : Sl, rd w17 w2.heap.size 0 [(.int .i64 x16_0), (.slice s16_1.a s16_1.n s16_1.c)] ∧ Calls Try.prog 74 [(.agg [(.int .i64 x16_0), (.slice s16_1.a s16_1.n s16_1.c)].toArray)].toArray w17 (fun e_5 w18 => ∃ b17 : Bool, e_5 = .returned (.bool b17) ∧
  cond (!b17) (J_5 true w18) (∃ s21 : Sl, World.cell? w18 ⟨w.heap.size, 0, none⟩ = some (.slice s21.a s21.n s21.c) ∧ Calls Try.prog 75 [(.slice s21.a s21.n s21.c), (.func (.func 76) #[] [].toArray)].toArray w18 (fun e_6 w19 => ∃ b22 : Bool, e_6 = .returned (.bool b22) ∧
  J_5 b22 w19))))))
theorem eq30 (s0 : Sl) (s1 : Sl) (x2_0 : Int) (s2_1 : Sl) (R : Value → World → Prop) (w : World) : funV Try.prog Try.f30 An30 [(.slice s0.a s0.n s0.c), (.slice s1.a s1.n s1.c), (.agg [(.int .i64 x2_0), (.slice s2_1.a s2_1.n s2_1.c)].toArray)] R w = S30 s0 s1 x2_0 s2_1 R w := by kernel_rfl
theorem call30 (s0 : Sl) (s1 : Sl) (x2_0 : Int) (s2_1 : Sl) {R : Value → World → Prop} {w : World} (h : S30 s0 s1 x2_0 s2_1 R w) : Calls Try.prog 30 [(.slice s0.a s0.n s0.c), (.slice s1.a s1.n s1.c), (.agg [(.int .i64 x2_0), (.slice s2_1.a s2_1.n s2_1.c)].toArray)].toArray w fun e w' => ∃ v, e = .returned v ∧ R v w' :=
  funV_calls mixed Try.func30 (an := An30) (by rw [eq30]; exact h)

/-- F75: slices.ContainsFunc[[]cubeb/rules.Rule,cubeb/rules.Rule] -/
def An75 : An := (.sq .lf (.sq .lf .lf))
def S75 (s0 : Sl) (f1 : Nat) (c1 : List Value) (R : Value → World → Prop) (w : World) : Prop :=
  Calls Try.prog 118 [(.slice s0.a s0.n s0.c), (.func (.func f1) #[] c1.toArray)].toArray w (fun e w1 => ∃ x7 : Int, e = .returned (.int .i64 x7) ∧
  R (.bool (decide (x7 ≥ (0 : Int)))) w1)
theorem eq75 (s0 : Sl) (f1 : Nat) (c1 : List Value) (R : Value → World → Prop) (w : World) : funV Try.prog Try.f75 An75 [(.slice s0.a s0.n s0.c), (.func (.func f1) #[] c1.toArray)] R w = S75 s0 f1 c1 R w := by kernel_rfl
theorem call75 (s0 : Sl) (f1 : Nat) (c1 : List Value) {R : Value → World → Prop} {w : World} (h : S75 s0 f1 c1 R w) : Calls Try.prog 75 [(.slice s0.a s0.n s0.c), (.func (.func f1) #[] c1.toArray)].toArray w fun e w' => ∃ v, e = .returned v ∧ R v w' :=
  funV_calls mixed Try.func75 (an := An75) (by rw [eq75]; exact h)

/-- F76: cubeb/rules.Sources$1 -/
def An76 : An := (.sq .lf (.sq .lf .lf))
def S76 (x0_0 : Int) (s0_1 : Sl) (s0_2 : Sl) (R : Value → World → Prop) (w : World) : Prop :=
  Let (w.alloc (.cells [(.int .i64 x0_0), (.slice s0_1.a s0_1.n s0_1.c), (.slice s0_2.a s0_2.n s0_2.c)].toArray 52)) fun w1 => 
  ∃ s4 : Sl, World.cell? w1 ⟨w.heap.size, (0 + 2), none⟩ = some (.slice s4.a s4.n s4.c) ∧ Calls Try.prog 77 [(.slice s4.a s4.n s4.c), (.func (.func 78) #[] [].toArray)].toArray w1 (fun e w2 => ∃ b5 : Bool, e = .returned (.bool b5) ∧
  R (.bool b5) w2)
theorem eq76 (x0_0 : Int) (s0_1 : Sl) (s0_2 : Sl) (R : Value → World → Prop) (w : World) : funV Try.prog Try.f76 An76 [(.agg [(.int .i64 x0_0), (.slice s0_1.a s0_1.n s0_1.c), (.slice s0_2.a s0_2.n s0_2.c)].toArray)] R w = S76 x0_0 s0_1 s0_2 R w := by kernel_rfl
theorem call76 (x0_0 : Int) (s0_1 : Sl) (s0_2 : Sl) {R : Value → World → Prop} {w : World} (h : S76 x0_0 s0_1 s0_2 R w) : Calls Try.prog 76 [(.agg [(.int .i64 x0_0), (.slice s0_1.a s0_1.n s0_1.c), (.slice s0_2.a s0_2.n s0_2.c)].toArray)].toArray w fun e w' => ∃ v, e = .returned v ∧ R v w' :=
  funV_calls mixed Try.func76 (an := An76) (by rw [eq76]; exact h)

/-- F77: slices.ContainsFunc[[]cubeb/rules.Lit,cubeb/rules.Lit] -/
def An77 : An := (.sq .lf (.sq .lf .lf))
def S77 (s0 : Sl) (f1 : Nat) (c1 : List Value) (R : Value → World → Prop) (w : World) : Prop :=
  Calls Try.prog 119 [(.slice s0.a s0.n s0.c), (.func (.func f1) #[] c1.toArray)].toArray w (fun e w1 => ∃ x7 : Int, e = .returned (.int .i64 x7) ∧
  R (.bool (decide (x7 ≥ (0 : Int)))) w1)
theorem eq77 (s0 : Sl) (f1 : Nat) (c1 : List Value) (R : Value → World → Prop) (w : World) : funV Try.prog Try.f77 An77 [(.slice s0.a s0.n s0.c), (.func (.func f1) #[] c1.toArray)] R w = S77 s0 f1 c1 R w := by kernel_rfl
theorem call77 (s0 : Sl) (f1 : Nat) (c1 : List Value) {R : Value → World → Prop} {w : World} (h : S77 s0 f1 c1 R w) : Calls Try.prog 77 [(.slice s0.a s0.n s0.c), (.func (.func f1) #[] c1.toArray)].toArray w fun e w' => ∃ v, e = .returned v ∧ R v w' :=
  funV_calls mixed Try.func77 (an := An77) (by rw [eq77]; exact h)

/-- F78: cubeb/rules.Sources$1$1 -/
def An78 : An := (.sq .lf (.sq .lf .lf))
def S78 (b0_0 : Bool) (x0_1 : Int) (s0_2 : Sl) (R : Value → World → Prop) (w : World) : Prop :=
  Let (w.alloc (.cells [(.bool b0_0), (.int .i64 x0_1), (.slice s0_2.a s0_2.n s0_2.c)].toArray 54)) fun w1 => 
  ∃ b4 : Bool, World.cell? w1 ⟨w.heap.size, (0 + 0), none⟩ = some (.bool b4) ∧ R (.bool b4) w1
theorem eq78 (b0_0 : Bool) (x0_1 : Int) (s0_2 : Sl) (R : Value → World → Prop) (w : World) : funV Try.prog Try.f78 An78 [(.agg [(.bool b0_0), (.int .i64 x0_1), (.slice s0_2.a s0_2.n s0_2.c)].toArray)] R w = S78 b0_0 x0_1 s0_2 R w := by kernel_rfl
theorem call78 (b0_0 : Bool) (x0_1 : Int) (s0_2 : Sl) {R : Value → World → Prop} {w : World} (h : S78 b0_0 x0_1 s0_2 R w) : Calls Try.prog 78 [(.agg [(.bool b0_0), (.int .i64 x0_1), (.slice s0_2.a s0_2.n s0_2.c)].toArray)].toArray w fun e w' => ∃ v, e = .returned v ∧ R v w' :=
  funV_calls mixed Try.func78 (an := An78) (by rw [eq78]; exact h)

/-- F79: cubeb/rules.Sources$2 -/
def An79 : An := (.sq .lf (.sq .lf (.sq (.sq .lf (.bk [] (.lp [(12, .int .i64)] (.sq .lf (.sq (.cd .lf .lf) (.sq (.bk [] (.sq .lf (.sq .lf (.cj [] .lf .lf)))) .lf)))))) (.sq (.dt (.go [0, 1, 3, 2, 4] (.late [5, 6])) [] [(5, .bool)]) .lf))))
def S79 (x0 : Int) (p1 : Pt) (p2 : Pt) (p3 : Pt) (R : Value → World → Prop) (w : World) : Prop :=
  Let (w.alloc (.map #[] 0)) fun w1 => 
  ∃ s10 : Sl, World.cell? w1 ⟨p1.b, p1.o, none⟩ = some (.slice s10.a s10.n s10.c) ∧ Join [] (fun (w2 : World) => Join [(5, .bool)] (fun (b5 : Bool) (w4 : World) => R (.bool b5) w4) (fun J =>
  ∃ S1 : World → Prop, S1 w2.drew ∧ Let w2.drew fun w3 =>
  ∃ s26 : Sl, (∀ u, S1 u → World.cell? u ⟨p2.b, p2.o, none⟩ = some (.slice s26.a s26.n s26.c)) ∧ ∃ x29_0 : Int, ∃ s29_1 : Sl, (∀ u, S1 u → rd u p3.b p3.o [(.int .i64 x29_0), (.slice s29_1.a s29_1.n s29_1.c)]) ∧ Calls Try.prog 68 [(.slice s26.a s26.n s26.c), (.map (some w.heap.size)), (.map none)].toArray w3 (fun e w5 => ∃ m28 : Option Nat, e = .returned (.map m28) ∧
  S1 w5 ∧ Calls Try.prog 80 [(.agg [(.int .i64 x29_0), (.slice s29_1.a s29_1.n s29_1.c)].toArray)].toArray w5 (fun e_2 w6 => ∃ x30_0 : Int, ∃ x30_1 : Int, ∃ x30_2 : Int, e_2 = .returned (.agg [(.int .i64 x30_0), (.int .i64 x30_1), (.int .i64 x30_2)].toArray) ∧
  S1 w6 ∧ ∃ b31 : Bool, Sem.run Try.prog (Instr.lookup 105 (.map m28) (.agg [(.int .i64 x30_0), (.int .i64 x30_1), (.int .i64 x30_2)].toArray) false) w6 = .ok (.bool b31) w6 ∧ J b31 w6)))) (fun J_2 =>
  LoopV [(12, .int .i64)] (fun K => K (0 : Int) w1) (fun N => fun (x12 : Int) (w7 : World) =>
  cond (decide (x12 < ((s10.n : Nat) : Int))) (
  Join [] (fun (w8 : World) => N (IntKind.wrap .i64 (x12 + (1 : Int))) w8) (fun J_3 =>
  ∃ p15 : Pt, s10.a = some ⟨p15.b, p15.o, none⟩ ∧ 0 ≤ x12 ∧ x12 < ((s10.n : Nat) : Int) ∧ ∃ x16_0 : Int, ∃ s16_1 : Sl, rd w7 p15.b (p15.o + Int.toNat x12 * 2) [(.int .i64 x16_0), (.slice s16_1.a s16_1.n s16_1.c)] ∧ Let (w7.alloc (.cells (zc Try.prog 36) 36)) fun w9 => 
  StoreOk w9 w7.heap.size 0 [(.int .i64 x16_0), (.slice s16_1.a s16_1.n s16_1.c)] 2 ∧ Let (put w9 w7.heap.size 0 [(.int .i64 x16_0), (.slice s16_1.a s16_1.n s16_1.c)]) fun w10 => 
  0 ≤ x12 ∧ Join [] (fun (w11 : World) => J_3 w11) (fun J_4 =>
  cond ((bitsI .and .i64 (Int.fdiv x0 (2 ^ (min (Int.toNat x12) (IntKind.bits .i64)))) (1 : Int)) == (1 : Int)) (
  ∃ x23_0 : Int, ∃ s23_1 : Sl, rd w10 w7.heap.size 0 [(.int .i64 x23_0), (.slice s23_1.a s23_1.n s23_1.c)] ∧ Calls Try.prog 80 [(.agg [(.int .i64 x23_0), (.slice s23_1.a s23_1.n s23_1.c)].toArray)].toArray w10 (fun e_3 w12 => ∃ x24_0 : Int, ∃ x24_1 : Int, ∃ x24_2 : Int, e_3 = .returned (.agg [(.int .i64 x24_0), (.int .i64 x24_1), (.int .i64 x24_2)].toArray) ∧
  ∃ w13 : World, Sem.run Try.prog (Instr.mapUpdate 105 (.map (some w.heap.size)) (.agg [(.int .i64 x24_0), (.int .i64 x24_1), (.int .i64 x24_2)].toArray) (.bool true)) w12 = .ok () w13 ∧
  J_4 w13)) (
  J_4 w10)))) (
  J_2 w7)))
theorem eq79 (x0 : Int) (p1 : Pt) (p2 : Pt) (p3 : Pt) (R : Value → World → Prop) (w : World) : funV Try.prog Try.f79 An79 [(.int .i64 x0), (.pointer (some ⟨p1.b, p1.o, none⟩)), (.pointer (some ⟨p2.b, p2.o, none⟩)), (.pointer (some ⟨p3.b, p3.o, none⟩))] R w = S79 x0 p1 p2 p3 R w := by kernel_rfl
theorem call79 (x0 : Int) (p1 : Pt) (p2 : Pt) (p3 : Pt) {R : Value → World → Prop} {w : World} (h : S79 x0 p1 p2 p3 R w) : Calls Try.prog 79 [(.int .i64 x0), (.pointer (some ⟨p1.b, p1.o, none⟩)), (.pointer (some ⟨p2.b, p2.o, none⟩)), (.pointer (some ⟨p3.b, p3.o, none⟩))].toArray w fun e w' => ∃ v, e = .returned v ∧ R v w' :=
  funV_calls mixed Try.func79 (an := An79) (by rw [eq79]; exact h)

/-- F81: cubeb/rules.Sources$3 -/
def An81 : An := (.sq .lf (.sq .lf .lf))
def S81 (x0 : Int) (p1 : Pt) (R : Value → World → Prop) (w : World) : Prop :=
  ∃ x5 : Int, World.cell? w ⟨p1.b, p1.o, none⟩ = some (.int .i64 x5) ∧ R (.bool ((bitsI .andNot .i64 x0 x5) == (0 : Int))) w
theorem eq81 (x0 : Int) (p1 : Pt) (R : Value → World → Prop) (w : World) : funV Try.prog Try.f81 An81 [(.int .i64 x0), (.pointer (some ⟨p1.b, p1.o, none⟩))] R w = S81 x0 p1 R w := by kernel_rfl
theorem call81 (x0 : Int) (p1 : Pt) {R : Value → World → Prop} {w : World} (h : S81 x0 p1 R w) : Calls Try.prog 81 [(.int .i64 x0), (.pointer (some ⟨p1.b, p1.o, none⟩))].toArray w fun e w' => ∃ v, e = .returned v ∧ R v w' :=
  funV_calls mixed Try.func81 (an := An81) (by rw [eq81]; exact h)

/-- F118: slices.IndexFunc[[]cubeb/rules.Rule,cubeb/rules.Rule] -/
def An118 : An := (.sq .lf (.sq (.sq .lf (.bk [] (.lp [(8, .int .i64)] (.sq .lf (.sq (.cd .lf .lf) (.sq (.bk [] (.sq .lf (.sq .lf (.cd (.sq .lf .lf) .lf)))) .lf)))))) (.sq .lf .lf)))
def S118 (s0 : Sl) (f1 : Nat) (c1 : List Value) (R : Value → World → Prop) (w : World) : Prop :=
  Join [] (fun (w1 : World) => R (.int .i64 (-1 : Int)) w1) (fun J =>
  LoopV [(8, .int .i64)] (fun K => K (0 : Int) w) (fun N => fun (x8 : Int) (w2 : World) =>
  cond (decide (x8 < ((s0.n : Nat) : Int))) (
  Join [] (fun (w3 : World) => N (IntKind.wrap .i64 (x8 + (1 : Int))) w3) (fun J_2 =>
  ∃ p14 : Pt, s0.a = some ⟨p14.b, p14.o, none⟩ ∧ 0 ≤ x8 ∧ x8 < ((s0.n : Nat) : Int) ∧ ∃ x15_0 : Int, ∃ s15_1 : Sl, ∃ s15_2 : Sl, rd w2 p14.b (p14.o + Int.toNat x8 * 3) [(.int .i64 x15_0), (.slice s15_1.a s15_1.n s15_1.c), (.slice s15_2.a s15_2.n s15_2.c)] ∧ (bif callable Try.prog f1 then Calls Try.prog f1 (([(.agg [(.int .i64 x15_0), (.slice s15_1.a s15_1.n s15_1.c), (.slice s15_2.a s15_2.n s15_2.c)].toArray)] : List Value) ++ c1).toArray w2 (fun e w4 => ∃ b16 : Bool, e = .returned (.bool b16) ∧
  cond b16 (
  R (.int .i64 x8) w4) (
  J_2 w4)) else False))) (
  J w2)))
theorem eq118 (s0 : Sl) (f1 : Nat) (c1 : List Value) (R : Value → World → Prop) (w : World) : funV Try.prog Try.f118 An118 [(.slice s0.a s0.n s0.c), (.func (.func f1) #[] c1.toArray)] R w = S118 s0 f1 c1 R w := by kernel_rfl
theorem call118 (s0 : Sl) (f1 : Nat) (c1 : List Value) {R : Value → World → Prop} {w : World} (h : S118 s0 f1 c1 R w) : Calls Try.prog 118 [(.slice s0.a s0.n s0.c), (.func (.func f1) #[] c1.toArray)].toArray w fun e w' => ∃ v, e = .returned v ∧ R v w' :=
  funV_calls mixed Try.func118 (an := An118) (by rw [eq118]; exact h)

/-- F119: slices.IndexFunc[[]cubeb/rules.Lit,cubeb/rules.Lit] -/
def An119 : An := (.sq .lf (.sq (.sq .lf (.bk [] (.lp [(8, .int .i64)] (.sq .lf (.sq (.cd .lf .lf) (.sq (.bk [] (.sq .lf (.sq .lf (.cd (.sq .lf .lf) .lf)))) .lf)))))) (.sq .lf .lf)))
def S119 (s0 : Sl) (f1 : Nat) (c1 : List Value) (R : Value → World → Prop) (w : World) : Prop :=
  Join [] (fun (w1 : World) => R (.int .i64 (-1 : Int)) w1) (fun J =>
  LoopV [(8, .int .i64)] (fun K => K (0 : Int) w) (fun N => fun (x8 : Int) (w2 : World) =>
  cond (decide (x8 < ((s0.n : Nat) : Int))) (
  Join [] (fun (w3 : World) => N (IntKind.wrap .i64 (x8 + (1 : Int))) w3) (fun J_2 =>
  ∃ p14 : Pt, s0.a = some ⟨p14.b, p14.o, none⟩ ∧ 0 ≤ x8 ∧ x8 < ((s0.n : Nat) : Int) ∧ ∃ b15_0 : Bool, ∃ x15_1 : Int, ∃ s15_2 : Sl, rd w2 p14.b (p14.o + Int.toNat x8 * 3) [(.bool b15_0), (.int .i64 x15_1), (.slice s15_2.a s15_2.n s15_2.c)] ∧ (bif callable Try.prog f1 then Calls Try.prog f1 (([(.agg [(.bool b15_0), (.int .i64 x15_1), (.slice s15_2.a s15_2.n s15_2.c)].toArray)] : List Value) ++ c1).toArray w2 (fun e w4 => ∃ b16 : Bool, e = .returned (.bool b16) ∧
  cond b16 (
  R (.int .i64 x8) w4) (
  J_2 w4)) else False))) (
  J w2)))
theorem eq119 (s0 : Sl) (f1 : Nat) (c1 : List Value) (R : Value → World → Prop) (w : World) : funV Try.prog Try.f119 An119 [(.slice s0.a s0.n s0.c), (.func (.func f1) #[] c1.toArray)] R w = S119 s0 f1 c1 R w := by kernel_rfl
theorem call119 (s0 : Sl) (f1 : Nat) (c1 : List Value) {R : Value → World → Prop} {w : World} (h : S119 s0 f1 c1 R w) : Calls Try.prog 119 [(.slice s0.a s0.n s0.c), (.func (.func f1) #[] c1.toArray)].toArray w fun e w' => ∃ v, e = .returned v ∧ R v w' :=
  funV_calls mixed Try.func119 (an := An119) (by rw [eq119]; exact h)

/-- F34: slices.ContainsFunc[[]int,int] -/
def An34 : An := (.sq .lf (.sq .lf .lf))
def S34 (s0 : Sl) (f1 : Nat) (c1 : List Value) (R : Value → World → Prop) (w : World) : Prop :=
  Calls Try.prog 83 [(.slice s0.a s0.n s0.c), (.func (.func f1) #[] c1.toArray)].toArray w (fun e w1 => ∃ x7 : Int, e = .returned (.int .i64 x7) ∧
  R (.bool (decide (x7 ≥ (0 : Int)))) w1)
theorem eq34 (s0 : Sl) (f1 : Nat) (c1 : List Value) (R : Value → World → Prop) (w : World) : funV Try.prog Try.f34 An34 [(.slice s0.a s0.n s0.c), (.func (.func f1) #[] c1.toArray)] R w = S34 s0 f1 c1 R w := by kernel_rfl
theorem call34 (s0 : Sl) (f1 : Nat) (c1 : List Value) {R : Value → World → Prop} {w : World} (h : S34 s0 f1 c1 R w) : Calls Try.prog 34 [(.slice s0.a s0.n s0.c), (.func (.func f1) #[] c1.toArray)].toArray w fun e w' => ∃ v, e = .returned v ∧ R v w' :=
  funV_calls mixed Try.func34 (an := An34) (by rw [eq34]; exact h)

/-- F83: slices.IndexFunc[[]int,int] -/
def An83 : An := (.sq .lf (.sq (.sq .lf (.bk [] (.lp [(8, .int .i64)] (.sq .lf (.sq (.cd .lf .lf) (.sq (.bk [] (.sq .lf (.sq .lf (.cd (.sq .lf .lf) .lf)))) .lf)))))) (.sq .lf .lf)))
def S83 (s0 : Sl) (f1 : Nat) (c1 : List Value) (R : Value → World → Prop) (w : World) : Prop :=
  Join [] (fun (w1 : World) => R (.int .i64 (-1 : Int)) w1) (fun J =>
  LoopV [(8, .int .i64)] (fun K => K (0 : Int) w) (fun N => fun (x8 : Int) (w2 : World) =>
  cond (decide (x8 < ((s0.n : Nat) : Int))) (
  Join [] (fun (w3 : World) => N (IntKind.wrap .i64 (x8 + (1 : Int))) w3) (fun J_2 =>
  ∃ p14 : Pt, s0.a = some ⟨p14.b, p14.o, none⟩ ∧ 0 ≤ x8 ∧ x8 < ((s0.n : Nat) : Int) ∧ ∃ x15 : Int, World.cell? w2 ⟨p14.b, (p14.o + Int.toNat x8 * 1), none⟩ = some (.int .i64 x15) ∧ (bif callable Try.prog f1 then Calls Try.prog f1 (([(.int .i64 x15)] : List Value) ++ c1).toArray w2 (fun e w4 => ∃ b16 : Bool, e = .returned (.bool b16) ∧
  cond b16 (
  R (.int .i64 x8) w4) (
  J_2 w4)) else False))) (
  J w2)))
theorem eq83 (s0 : Sl) (f1 : Nat) (c1 : List Value) (R : Value → World → Prop) (w : World) : funV Try.prog Try.f83 An83 [(.slice s0.a s0.n s0.c), (.func (.func f1) #[] c1.toArray)] R w = S83 s0 f1 c1 R w := by kernel_rfl
theorem call83 (s0 : Sl) (f1 : Nat) (c1 : List Value) {R : Value → World → Prop} {w : World} (h : S83 s0 f1 c1 R w) : Calls Try.prog 83 [(.slice s0.a s0.n s0.c), (.func (.func f1) #[] c1.toArray)].toArray w fun e w' => ∃ v, e = .returned v ∧ R v w' :=
  funV_calls mixed Try.func83 (an := An83) (by rw [eq83]; exact h)

/-- F35: cubeb/cubeblaw03.RulesEnough$1 -/
def An35 : An := (.sq .lf (.sq .lf .lf))
def S35 (x0 : Int) (p1 : Pt) (R : Value → World → Prop) (w : World) : Prop :=
  ∃ x5 : Int, World.cell? w ⟨p1.b, p1.o, none⟩ = some (.int .i64 x5) ∧ R (.bool ((bitsI .andNot .i64 x0 x5) == (0 : Int))) w
theorem eq35 (x0 : Int) (p1 : Pt) (R : Value → World → Prop) (w : World) : funV Try.prog Try.f35 An35 [(.int .i64 x0), (.pointer (some ⟨p1.b, p1.o, none⟩))] R w = S35 x0 p1 R w := by kernel_rfl
theorem call35 (x0 : Int) (p1 : Pt) {R : Value → World → Prop} {w : World} (h : S35 x0 p1 R w) : Calls Try.prog 35 [(.int .i64 x0), (.pointer (some ⟨p1.b, p1.o, none⟩))].toArray w fun e w' => ∃ v, e = .returned v ∧ R v w' :=
  funV_calls mixed Try.func35 (an := An35) (by rw [eq35]; exact h)

end Go.Proofs.Ytoljknamnkkgcaa
/-
  The bits of a number; sets of given facts by the bits of a number; contract: Sources.
-/
namespace Go.Proofs.Ytoljknamnkkgcaa
open Go Go.VC
set_option maxHeartbeats 1000000
set_option maxRecDepth 100000

/-! ### bits -/
def bitI (x : Int) (i : Nat) : Bool := (BitVec.ofInt 64 x).getLsbD i
theorem bitI_eq (x : Int) (i : Nat) : bitI x i = decide ((x % 18446744073709551616).toNat / 2 ^ i % 2 = 1) := by
  unfold bitI
  rw [← BitVec.testBit_toNat, BitVec.toNat_ofInt, Nat.testBit_eq_decide_div_mod_eq]
  rfl
theorem bitI_lt {x : Int} {i : Nat} (h : bitI x i = true) : i < 64 := BitVec.lt_of_getLsbD h
theorem bitI_nat {n : Nat} (hn : n < 18446744073709551616) (i : Nat) : bitI (n : Int) i = n.testBit i := by
  rw [bitI_eq, Nat.testBit_eq_decide_div_mod_eq]
  have : ((n : Int) % 18446744073709551616).toNat = n := by omega
  rw [this]
theorem bitI_and (x : Int) {i : Nat} (hi : i < 64) : (bitsI .and .i64 (Int.fdiv x (2 ^ (min i (IntKind.bits .i64)))) (1 : Int) == (1 : Int)) = bitI x i := by
  have e0 : min i (IntKind.bits .i64) = i := Nat.min_eq_left (by show i ≤ 64; omega)
  rw [e0, bitI_eq]
  have hd : (2 : Int) ^ i = ((2 ^ i : Nat) : Int) := by rw [Int.natCast_pow]; rfl
  obtain ⟨c, hc⟩ : ∃ c : Nat, 18446744073709551616 = 2 ^ i * (2 * c) := ⟨2 ^ (63 - i), by
    rw [← Nat.pow_succ', ← Nat.pow_add, show i + (63 - i).succ = 64 from by omega]⟩
  have hd0 : 0 < 2 ^ i := Nat.pow_pos (by omega)
  rw [hd]
  generalize 2 ^ i = d at hc hd0
  show (IntKind.wrap .i64 ((BitVec.ofInt 64 (x.fdiv d) &&& BitVec.ofInt 64 1).toNat : Int) == 1) = _
  have e1 : (BitVec.ofInt 64 (x.fdiv d) &&& BitVec.ofInt 64 1).toNat = ((x.fdiv d) % 18446744073709551616).toNat % 2 := by
    rw [BitVec.toNat_and, BitVec.toNat_ofInt, BitVec.toNat_ofInt]
    exact Nat.and_one_is_mod _
  rw [e1, Int.fdiv_eq_ediv_of_nonneg x (by omega)]
  have e2 : x / (d : Int) = x % 18446744073709551616 / d + 2 * (c * (x / 18446744073709551616)) := by
    have h1 : x = x % 18446744073709551616 + d * (2 * (c * (x / 18446744073709551616))) := by
      have h2 := Int.emod_add_mul_ediv x 18446744073709551616
      have h3 : (18446744073709551616 : Int) = d * (2 * c) := by
        have := congrArg (fun n : Nat => (n : Int)) hc
        simpa using this
      have h4 : (d : Int) * (2 * (c * (x / 18446744073709551616))) = 18446744073709551616 * (x / 18446744073709551616) := by
        rw [show (d : Int) * (2 * (c * (x / 18446744073709551616))) = (d * (2 * c)) * (x / 18446744073709551616) from by simp [Int.mul_assoc], ← h3]
      rw [h4]; omega
    conv => lhs; rw [h1]
    rw [Int.add_mul_ediv_left _ _ (by omega)]
  have hm : 0 ≤ x % 18446744073709551616 := Int.emod_nonneg _ (by decide)
  generalize c * (x / 18446744073709551616) = z at e2
  generalize x % 18446744073709551616 = m at e2 hm
  have e3 : ((m.toNat / d : Nat) : Int) = m / d := by rw [Int.natCast_ediv, Int.toNat_of_nonneg hm]
  rw [e2, ← e3]
  generalize m.toNat / d = y
  rw [wrap64 (by omega) (by omega)]
  by_cases h : y % 2 = 1
  · have : ((((y : Int) + 2 * z) % 18446744073709551616).toNat % 2 : Nat) = 1 := by omega
    rw [this]; simp [h]
  · have : ((((y : Int) + 2 * z) % 18446744073709551616).toNat % 2 : Nat) = 0 := by omega
    rw [this]; simp [h]
theorem bitI_andNot (x y : Int) : (bitsI .andNot .i64 x y == (0 : Int)) = true ↔ ∀ i, bitI x i = true → bitI y i = true := by
  have e : bitsI .andNot .i64 x y = IntKind.wrap .i64 ((BitVec.ofInt 64 x &&& ~~~BitVec.ofInt 64 y).toNat : Int) := rfl
  rw [e]
  have h0 : (IntKind.wrap .i64 ((BitVec.ofInt 64 x &&& ~~~BitVec.ofInt 64 y).toNat : Int) == (0 : Int)) = true ↔ (BitVec.ofInt 64 x &&& ~~~BitVec.ofInt 64 y) = 0#64 := by
    generalize BitVec.ofInt 64 x &&& ~~~BitVec.ofInt 64 y = v
    have hlt : v.toNat < 18446744073709551616 := v.isLt
    have hz : v = 0#64 ↔ v.toNat = 0 := ⟨fun h => by rw [h]; rfl, fun h => BitVec.eq_of_toNat_eq h⟩
    rw [hz, IntKind.wrap_i64, beq_iff_eq]
    generalize v.toNat = n at hlt
    omega
  rw [h0]
  constructor
  · intro h i hi
    have hlt := bitI_lt hi
    have h1 : (BitVec.ofInt 64 x &&& ~~~BitVec.ofInt 64 y).getLsbD i = false := by rw [h]; simp
    rw [BitVec.getLsbD_and, BitVec.getLsbD_not] at h1
    unfold bitI at hi ⊢
    rw [hi] at h1
    simpa [hlt] using h1
  · intro h
    apply BitVec.eq_of_getLsbD_eq
    intro i hi
    rw [BitVec.getLsbD_and, BitVec.getLsbD_not]
    cases hx : (BitVec.ofInt 64 x).getLsbD i with
    | false => simp
    | true =>
      have := h i hx
      unfold bitI at this
      simp [this]
/-! ### given facts by bits -/
def subF (x : Int) (fs : List Fa) : List Fa := (fs.zipIdx.filter fun p => bitI x p.2).map (·.1)
theorem subF_snoc (x : Int) (l : List Fa) (a : Fa) : subF x (l ++ [a]) = subF x l ++ (if bitI x l.length = true then [a] else []) := by
  unfold subF
  rw [List.zipIdx_append, List.filter_append, List.map_append]
  congr 1
  by_cases h : bitI x l.length = true
  · simp [h]
  · simp [h]
theorem mem_subF {x : Int} {fs : List Fa} {f : Fa} : f ∈ subF x fs ↔ ∃ i, fs[i]? = some f ∧ bitI x i = true := by
  unfold subF
  simp only [List.mem_map, List.mem_filter]
  constructor
  · rintro ⟨⟨a, i⟩, ⟨h1, h2⟩, rfl⟩
    exact ⟨i, List.mem_zipIdx_iff_getElem?.1 h1, h2⟩
  · rintro ⟨i, h1, h2⟩
    exact ⟨(f, i), ⟨List.mem_zipIdx_iff_getElem?.2 h1, h2⟩, rfl⟩
theorem subF_sub {x : Int} {fs : List Fa} : ∀ f ∈ subF x fs, f ∈ fs := fun f hf => by
  obtain ⟨i, h, _⟩ := mem_subF.1 hf
  exact List.mem_of_getElem? h
theorem Cl.monoG {l : List Ru} {G G' N : Ky → Prop} (h : ∀ k, G k → G' k) {k : Ky} (hk : Cl l G N k) : Cl l G' N k := fun S hG hS => hk S (fun k hk => hG k (h k hk)) hS
/-- Are the facts of these bits enough? -/
def En' (l : List Ru) (fs : List Fa) (k : Ky) (x : Int) : Prop := Cl l (giv (subF x fs)) (fun _ => False) k
theorem En'.mono {l : List Ru} {fs : List Fa} {k : Ky} {x y : Int} (h : ∀ i, i < fs.length → bitI x i = true → bitI y i = true) (hx : En' l fs k x) : En' l fs k y :=
  Cl.monoG (fun k ⟨f, hf, e⟩ => by
    obtain ⟨i, h1, h2⟩ := mem_subF.1 hf
    have hi : i < fs.length := (List.getElem?_eq_some_iff.1 h1).1
    exact ⟨f, mem_subF.2 ⟨i, h1, h i hi h2⟩, e⟩) hx
def subN (x s : Nat) : Prop := ∀ i, x.testBit i = true → s.testBit i = true
open Classical in
/-- The sources among the first few sets. -/
noncomputable def srcs (E : Nat → Prop) : Nat → List Nat
  | 0 => []
  | n + 1 => if (∀ x ∈ srcs E n, ¬ subN x n) ∧ E n then srcs E n ++ [n] else srcs E n
theorem srcs_yes {E : Nat → Prop} {n : Nat} (h : (∀ x ∈ srcs E n, ¬ subN x n) ∧ E n) : srcs E (n + 1) = srcs E n ++ [n] := by rw [srcs, if_pos h]
theorem srcs_no {E : Nat → Prop} {n : Nat} (h : ¬ ((∀ x ∈ srcs E n, ¬ subN x n) ∧ E n)) : srcs E (n + 1) = srcs E n := by rw [srcs, if_neg h]
theorem srcs_sound {E : Nat → Prop} : ∀ n, ∀ x ∈ srcs E n, E x ∧ x < n
  | 0, x, h => by simp [srcs] at h
  | n + 1, x, h => by
    by_cases hc : (∀ x ∈ srcs E n, ¬ subN x n) ∧ E n
    · rw [srcs_yes hc, List.mem_append, List.mem_singleton] at h
      rcases h with h | rfl
      · have := srcs_sound n x h; exact ⟨this.1, by omega⟩
      · exact ⟨hc.2, by omega⟩
    · rw [srcs_no hc] at h
      have := srcs_sound n x h; exact ⟨this.1, by omega⟩
theorem srcs_step {E : Nat → Prop} {n x : Nat} (h : x ∈ srcs E n) : x ∈ srcs E (n + 1) := by
  by_cases hc : (∀ x ∈ srcs E n, ¬ subN x n) ∧ E n
  · rw [srcs_yes hc]; exact List.mem_append_left _ h
  · rw [srcs_no hc]; exact h
theorem srcs_all {E : Nat → Prop} {m : Nat} (hm : E m) : ∀ n, m < n → ∃ x ∈ srcs E n, subN x m
  | 0, h => by omega
  | n + 1, h => by
    rcases Nat.lt_or_ge m n with h1 | h1
    · obtain ⟨x, hx, hs⟩ := srcs_all hm n h1
      exact ⟨x, srcs_step hx, hs⟩
    · obtain rfl : m = n := by omega
      by_cases hc : ∀ x ∈ srcs E m, ¬ subN x m
      · rw [srcs_yes ⟨hc, hm⟩]; exact ⟨m, by simp, fun i h => h⟩
      · simp only [Classical.not_forall, Classical.not_not] at hc
        obtain ⟨x, hx, hs⟩ := hc
        exact ⟨x, srcs_step hx, hs⟩
theorem srcs_len {E : Nat → Prop} : ∀ n, (srcs E n).length ≤ n
  | 0 => by simp [srcs]
  | n + 1 => by
    have := srcs_len (E := E) n
    by_cases hc : (∀ x ∈ srcs E n, ¬ subN x n) ∧ E n
    · rw [srcs_yes hc]; simp; omega
    · rw [srcs_no hc]; omega
/-! ### is there one among them? -/
theorem c34 {f : Nat} {cs : List Value} {p : Int → Bool} {w : World} {s : Sl} {l : List Int} (hca : callable Try.prog f = true) (hs : Ints w s l) (hl : l.length ≤ big)
    (hcall : ∀ w' x, Ext w w' → Calls Try.prog f (([.int .i64 x] : List Value) ++ cs).toArray w' fun e w2 => e = .returned (.bool (p x)) ∧ Ext w' w2) :
    Calls Try.prog 34 [.slice s.a s.n s.c, .func (.func f) #[] cs.toArray].toArray w fun e w' => e = .returned (.bool (l.any p)) ∧ Ext w w' := by
  refine (call34 s f cs (R := fun v w' => v = .bool (l.any p) ∧ Ext w w') ?_).mono fun e w' ⟨v, he, hv, hx⟩ => ⟨by rw [he, hv], hx⟩
  have hn := hs.len
  refine (call83 s f cs (R := fun v w' => ∃ m : Int, v = .int .i64 m ∧ (decide (m ≥ 0) = l.any p) ∧ Ext w w') ?_).mono fun e w1 ⟨v, he, m, hv, hm, x1⟩ => ⟨m, by rw [he, hv], by rw [hm], x1⟩
  refine Join.dir (rangeI (fun i w2 => (∀ x ∈ l.take i, p x = false) ∧ Ext w w2) (by rw [hn]; exact hl) ⟨by simp, Fr.refl _ _⟩ ?_ ?_)
  · rintro i hi w2 ⟨hno, x2⟩ K hK
    have hi : i < l.length := by omega
    obtain ⟨q, hq, a1, a2, hr⟩ := Ints.at (hs.ext x2) hi
    refine ⟨q, hq, a1, a2, _, hr, ?_⟩
    rw [hca]
    refine (hcall w2 l[i] x2).mono fun e w4 ⟨he, x4⟩ => ⟨_, he, cond_intro (fun g => ?_) (fun g => ?_)⟩
    · refine ⟨(i : Int), rfl, ?_, x2.trans x4⟩
      have : l.any p = true := List.any_eq_true.2 ⟨_, List.getElem_mem hi, g⟩
      rw [this]; simp
    · refine hK _ ⟨fun x hx => ?_, x2.trans x4⟩
      rw [List.take_succ_eq_append_getElem hi, List.mem_append, List.mem_singleton] at hx
      rcases hx with hx | rfl
      · exact hno x hx
      · exact g
  · rintro w2 ⟨hno, x2⟩
    rw [hn, List.take_length] at hno
    refine ⟨-1, rfl, ?_, x2⟩
    have : l.any p = false := List.any_eq_false.2 fun x hx => by rw [hno x hx]; simp
    rw [this]; decide
theorem callable76 : callable Try.prog 76 = true := by kernel_rfl
theorem callable78 : callable Try.prog 78 = true := by kernel_rfl
theorem callable81 : callable Try.prog 81 = true := by kernel_rfl
/-- Has some Lit Not? -/
theorem c77 {w : World} {s : Sl} {l : List DL} (hs : NL w s l) (hl : l.length ≤ big) :
    Calls Try.prog 77 [.slice s.a s.n s.c, .func (.func 78) #[] [].toArray].toArray w fun e w' => e = .returned (.bool (l.any fun b => b.neg)) ∧ Ext w w' := by
  refine (call77 s 78 [] (R := fun v w' => v = .bool (l.any fun b => b.neg) ∧ Ext w w') ?_).mono fun e w' ⟨v, he, hv, hx⟩ => ⟨by rw [he, hv], hx⟩
  have hn := hs.sl.len
  refine (call119 s 78 [] (R := fun v w' => ∃ m : Int, v = .int .i64 m ∧ (decide (m ≥ 0) = l.any fun b => b.neg) ∧ Ext w w') ?_).mono fun e w1 ⟨v, he, m, hv, hm, x1⟩ => ⟨m, by rw [he, hv], by rw [hm], x1⟩
  refine Join.dir (rangeI (fun i w2 => (∀ b ∈ l.take i, b.neg = false) ∧ Ext w w2) (by rw [hn]; exact hl) ⟨by simp, Fr.refl _ _⟩ ?_ ?_)
  · rintro i hi w2 ⟨hno, x2⟩ K hK
    have hi : i < l.length := by omega
    obtain ⟨q, hq, a1, a2, hr⟩ := Sli.at eL_len (hs.ext x2).sl hi
    refine ⟨q, hq, a1, a2, _, _, _, hr, ?_⟩
    rw [callable78]
    show Calls Try.prog 78 _ w2 _
    refine (call78 (l[i]).neg (l[i]).a.rel (l[i]).a.sl (R := fun v w' => v = .bool (l[i]).neg ∧ Ext w2 w') ?_).mono fun e w4 ⟨v, he, hv, x4⟩ => ⟨(l[i]).neg, by rw [he, hv], cond_intro (fun g => ?_) (fun g => ?_)⟩
    · refine Let.intro fun w3 e3 => ?_
      have e3 : w3 = w2.alloc (.cells (eL l[i]).toArray 54) := e3
      have b3 : Blk w3 w2.heap.size (eL l[i]) 54 := by rw [e3]; exact Blk.alloc w2 _ 54
      exact ⟨_, b3.cell 0, rfl, by rw [e3]; exact Ext.alloc ..⟩
    · refine ⟨(i : Int), rfl, ?_, x2.trans x4⟩
      have : (l.any fun b => b.neg) = true := List.any_eq_true.2 ⟨_, List.getElem_mem hi, g⟩
      rw [this]; simp
    · refine hK _ ⟨fun x hx => ?_, x2.trans x4⟩
      rw [List.take_succ_eq_append_getElem hi, List.mem_append, List.mem_singleton] at hx
      rcases hx with hx | rfl
      · exact hno x hx
      · exact g
  · rintro w2 ⟨hno, x2⟩
    rw [hn, List.take_length] at hno
    refine ⟨-1, rfl, ?_, x2⟩
    have : (l.any fun b => b.neg) = false := List.any_eq_false.2 fun x hx => by rw [hno x hx]; simp
    rw [this]; decide
theorem c75 {w : World} {s : Sl} {l : List DR} (hs : NR w s l) (hl : l.length ≤ big) (hb : ∀ r ∈ l, r.body.length ≤ big) :
    Calls Try.prog 75 [.slice s.a s.n s.c, .func (.func 76) #[] [].toArray].toArray w fun e w' => ∃ b : Bool, e = .returned (.bool b) ∧ (b = false ↔ PlainP (l.map DR.p)) ∧ Ext w w' := by
  have hcase : ∀ r : DR, (r.body.any fun b => b.neg) = false ↔ ∀ b ∈ r.p.body, b.neg = false := fun r => by
    rw [List.any_eq_false]
    constructor
    · intro h b hb
      obtain ⟨x, hx, rfl⟩ := List.mem_map.1 hb
      have := h x hx
      simpa [DL.p] using this
    · intro h x hx
      have : x.p.neg = false := h x.p (List.mem_map.2 ⟨x, hx, rfl⟩)
      have : x.neg = false := this
      simp [this]
  refine (call75 s 76 [] (R := fun v w' => ∃ b : Bool, v = .bool b ∧ (b = false ↔ PlainP (l.map DR.p)) ∧ Ext w w') ?_).mono fun e w' ⟨v, he, b, hv, hx⟩ => ⟨b, by rw [he, hv], hx⟩
  have hn := hs.len
  refine (call118 s 76 [] (R := fun v w' => ∃ m : Int, v = .int .i64 m ∧ (decide (m ≥ 0) = false ↔ PlainP (l.map DR.p)) ∧ Ext w w') ?_).mono fun e w1 ⟨v, he, m, hv, hm, x1⟩ => ⟨m, by rw [he, hv], _, rfl, hm, x1⟩
  refine Join.dir (rangeI (fun i w2 => (∀ r ∈ l.take i, ∀ b ∈ r.p.body, b.neg = false) ∧ Ext w w2) (by rw [hn]; exact hl) ⟨by simp, Fr.refl _ _⟩ ?_ ?_)
  · rintro i hi w2 ⟨hno, x2⟩ K hK
    have hi : i < l.length := by omega
    obtain ⟨q, hq, a1, a2, hr⟩ := Sli.at eR_len (hs.ext x2).sl hi
    refine ⟨q, hq, a1, a2, _, _, _, hr, ?_⟩
    rw [callable76]
    show Calls Try.prog 76 _ w2 _
    have hro := (hs.ok _ (List.getElem_mem hi)).ext x2
    refine (call76 (l[i]).head.rel (l[i]).head.sl (l[i]).bs (R := fun v w' => v = .bool ((l[i]).body.any fun b => b.neg) ∧ Ext w2 w') ?_).mono fun e w4 ⟨v, he, hv, x4⟩ => ⟨(l[i]).body.any fun b => b.neg, by rw [he, hv], cond_intro (fun g => ?_) (fun g => ?_)⟩
    · refine Let.intro fun w3 e3 => ?_
      have e3 : w3 = w2.alloc (.cells (eR l[i]).toArray 52) := e3
      have b3 : Blk w3 w2.heap.size (eR l[i]) 52 := by rw [e3]; exact Blk.alloc w2 _ 52
      have x3 : Ext w2 w3 := by rw [e3]; exact Ext.alloc ..
      exact ⟨_, b3.cell 2, (c77 (hro.bd.ext x3) (hb _ (List.getElem_mem hi))).mono fun e w5 ⟨he, x5⟩ => ⟨_, he, rfl, x3.trans x5⟩⟩
    · refine ⟨(i : Int), rfl, ?_, x2.trans x4⟩
      constructor
      · intro h; simp at h
      · intro h
        have := (hcase l[i]).2 fun b hb => h _ (List.mem_map.2 ⟨_, List.getElem_mem hi, rfl⟩) b hb
        rw [g] at this; cases this
    · refine hK _ ⟨fun x hx => ?_, x2.trans x4⟩
      rw [List.take_succ_eq_append_getElem hi, List.mem_append, List.mem_singleton] at hx
      rcases hx with hx | rfl
      · exact hno x hx
      · exact (hcase _).1 g
  · rintro w2 ⟨hno, x2⟩
    rw [hn, List.take_length] at hno
    refine ⟨-1, rfl, ?_, x2⟩
    constructor
    · intro _ r hr
      obtain ⟨x, hx, rfl⟩ := List.mem_map.1 hr
      exact hno x hx
    · intro _; decide
theorem c81 {w : World} {q : Nat} {y x : Int} (hq : Blk w q [.int .i64 y] 3) :
    Calls Try.prog 81 (([.int .i64 x] : List Value) ++ ([.pointer (some ⟨q, 0, none⟩)] : List Value)).toArray w fun e w' => e = .returned (.bool (bitsI .andNot .i64 x y == (0 : Int))) ∧ Ext w w' :=
  (call81 x ⟨q, 0⟩ (R := fun v w' => v = .bool (bitsI .andNot .i64 x y == (0 : Int)) ∧ Ext w w') ⟨y, hq.cell 0, rfl, Fr.refl _ _⟩).mono fun e w' ⟨v, he, hv, hx⟩ => ⟨by rw [he, hv], hx⟩
/-- Are some given facts enough? -/
theorem c79 {w : World} {bF bR bK : Nat} {sF sR : Sl} {fs : List DF} {l : List DR} {f : DF} {x : Int} (h1 : Blk w bF [.slice sF.a sF.n sF.c] 23) (h2 : Blk w bR [.slice sR.a sR.n sR.c] 27) (h3 : Blk w bK (eF f) 36)
    (hs : NR w sR l) (hf : NF w sF fs) (hx : Ints w f.sl f.args) (hru : ∀ r ∈ l, RuleP r.p) (hl : l.length ≤ 100) (hgr : ∀ g ∈ fs, GroundF g.p) (hfl : fs.length ≤ 20) (hg : GroundF f.p) :
    Calls Try.prog 79 [.int .i64 x, .pointer (some ⟨bF, 0, none⟩), .pointer (some ⟨bR, 0, none⟩), .pointer (some ⟨bK, 0, none⟩)].toArray w fun e w' => ∃ b : Bool, e = .returned (.bool b) ∧ (b = true ↔ En' (l.map DR.p) (fs.map DF.p) f.p.k x) ∧ Ext w w' := by
  refine (call79 x ⟨bF, 0⟩ ⟨bR, 0⟩ ⟨bK, 0⟩ (R := fun v w' => ∃ b : Bool, v = .bool b ∧ (b = true ↔ En' (l.map DR.p) (fs.map DF.p) f.p.k x) ∧ Ext w w') ?_).mono fun e w' ⟨v, he, b, hv, hx⟩ => ⟨b, by rw [he, hv], hx⟩
  have hn := hf.len
  have hne : ∀ {g : DF}, GroundF g.p → g.args ≠ [] := fun h e => by have := h.2.2.1; simp [DF.p, e] at this
  refine Let.intro fun w1 e1 => ?_
  have m1 : FM w1 w.heap.size fun _ => False := by rw [e1]; exact SetM.made w
  have x1 : Ext w w1 := by rw [e1]; exact Ext.alloc ..
  refine ⟨sF, (h1.ext x1).cell 0, ?_⟩
  refine ⟨fun w2 => FM w2 w.heap.size (giv (subF x (fs.map DF.p))) ∧ Ext w w2, ?_, ?_⟩
  · rintro w2 ⟨m2, x2⟩
    refine Join.dir ?_
    refine ⟨fun u => Ext w2 u, Ext.drew _, Let.intro fun w3 e3 => ?_⟩
    have x3 : Ext w2 w3 := by rw [e3]; exact Ext.drew _
    have x03 := x2.trans x3
    refine ⟨sR, fun u hu => (h2.ext (x2.trans hu)).cell 0, f.rel, f.sl, fun u hu => (h3.ext (x2.trans hu)).rd, ?_⟩
    have hGin : ∀ k, giv (subF x (fs.map DF.p)) k → InU k := giv_in fun g hg' => by
      have := subF_sub g hg'
      obtain ⟨y, hy, rfl⟩ := List.mem_map.1 this
      exact hgr y hy
    have few : Few (Cl (l.map DR.p) (giv (subF x (fs.map DF.p))) fun _ => False) := few_of (Cl_in hGin fun r hr => by
      obtain ⟨y, hy, rfl⟩ := List.mem_map.1 hr
      exact (hru y hy).2.2 _ (by simp [Ru.atoms]))
    refine (c68 (hs.ext x03) (m2.ext x3) (m2 := none) (.inl ⟨rfl, fun k h => h⟩) hl (fun r hr => (hru r hr).ok) few).mono fun e w4 ⟨b4, he, m4, _, x4⟩ => ⟨_, he, x3.trans x4, ?_⟩
    refine (c80 (hx.ext (x03.trans x4)) (hne hg)).mono fun e w5 ⟨he, x5⟩ => ⟨_, _, _, he, (x3.trans x4).trans x5, ?_⟩
    obtain ⟨b, hr, hb⟩ := (m4.ext x5).look K121 u105 zero4 f.p.k
    exact ⟨b, hr, b, rfl, hb, (x03.trans x4).trans x5⟩
  · refine rangeI (fun i w6 => FM w6 w.heap.size (giv (subF x ((fs.take i).map DF.p))) ∧ Ext w w6) (by rw [hn]; show fs.length ≤ 9223372036854775807; omega) ⟨m1.congr fun k => by simp [giv, subF], x1⟩ ?_ ?_
    rotate_left
    · rintro w6 ⟨h, x6⟩
      rw [hn, List.take_length] at h
      exact ⟨h, x6⟩
    rintro i hi w6 ⟨m6, x6⟩ K hK
    have hi : i < fs.length := by omega
    refine loadF (hf.ext x6) hi zc36 fun w9 b9 x9 => ⟨by omega, Join.dir ?_⟩
    have hti : (fs.take (i + 1)).map DF.p = (fs.take i).map DF.p ++ [(fs[i]).p] := by rw [List.take_succ_eq_append_getElem hi, List.map_append]; rfl
    have hlen : ((fs.take i).map DF.p).length = i := by simp; omega
    have hsn := subF_snoc x ((fs.take i).map DF.p) (fs[i]).p
    rw [← hti, hlen] at hsn
    have hm := List.getElem_mem hi
    have eb : Int.toNat (i : Int) = i := by omega
    rw [eb, bitI_and x (by omega)]
    refine cond_intro (fun g => ?_) (fun g => ?_)
    · rw [if_pos g] at hsn
      refine ⟨_, _, b9.rd, (c80 (((hf.ok _ hm).ext x6).ext x9) (hne (hgr _ hm))).mono fun e w11 ⟨he, x11⟩ => ⟨_, _, _, he, ?_⟩⟩
      obtain ⟨w12, hrun, m12, f12⟩ := ((m6.ext x9).ext x11).put K121 u105 (fs[i]).p.k
      refine ⟨w12, hrun, hK _ ⟨m12.congr fun k => ?_, ((x6.trans x9).trans x11).newer f12 fun y (hy : y = w.heap.size) => by omega⟩⟩
      rw [hsn]
      constructor
      · rintro ⟨a, ha, e⟩
        rcases List.mem_append.1 ha with ha | ha
        · exact .inl ⟨a, ha, e⟩
        · simp only [List.mem_singleton] at ha; subst ha; exact .inr e.symm
      · rintro (⟨a, ha, e⟩ | e)
        · exact ⟨a, List.mem_append_left _ ha, e⟩
        · exact ⟨_, by simp, e.symm⟩
    · rw [if_neg (by rw [g]; simp), List.append_nil] at hsn
      exact hK _ ⟨by rw [hsn]; exact m6.ext x9, x6.trans x9⟩
theorem pow10 : ∀ n ≤ 10, IntKind.wrap .i64 ((1 : Int) * 2 ^ (min n (IntKind.bits .i64))) = ((2 ^ n : Nat) : Int) := by decide +kernel
def cI (n : Nat) : Int := n
/-- Sources. -/
theorem c30 {w : World} {s s' : Sl} {l : List DR} {fs : List DF} {f : DF} (hs : NR w s l) (hf : NF w s' fs) (hx : Ints w f.sl f.args) (hl : l.length ≤ 1000000) (hfl : fs.length ≤ 1000000) (hz : ∀ r ∈ l, SzR r) (hzf : ∀ f ∈ fs, f.args.length ≤ 1000) (hxl : f.args.length ≤ big) :
    Calls Try.prog 30 [.slice s.a s.n s.c, .slice s'.a s'.n s'.c, .agg [.int .i64 f.rel, .slice f.sl.a f.sl.n f.sl.c].toArray].toArray w fun e w' => ∃ (s2 : Sl) (x : Int) (out : List Nat), e = .returned (.tuple [.slice s2.a s2.n s2.c, .int .i64 x].toArray) ∧ Ints w' s2 (out.map cI) ∧
      ((¬ (ValidP (l.map DR.p) (fs.map DF.p) ∧ GroundF f.p ∧ PlainP (l.map DR.p)) ∧ x = 2 ∧ out = []) ∨ ((ValidP (l.map DR.p) (fs.map DF.p) ∧ GroundF f.p ∧ PlainP (l.map DR.p)) ∧ 10 < fs.length ∧ x = 3 ∧ out = []) ∨
        ((ValidP (l.map DR.p) (fs.map DF.p) ∧ GroundF f.p ∧ PlainP (l.map DR.p)) ∧ fs.length ≤ 10 ∧ x = 0 ∧ ((¬ En' (l.map DR.p) (fs.map DF.p) f.p.k ((2 ^ fs.length - 1 : Nat) : Int) ∧ out = []) ∨ (En' (l.map DR.p) (fs.map DF.p) f.p.k ((2 ^ fs.length - 1 : Nat) : Int) ∧ out = srcs (fun n => En' (l.map DR.p) (fs.map DF.p) f.p.k (n : Int)) (2 ^ fs.length))))) ∧ Ext w w' := by
  refine (call30 s s' f.rel f.sl (R := fun v w' => ∃ (s2 : Sl) (x : Int) (out : List Nat), v = (.tuple [.slice s2.a s2.n s2.c, .int .i64 x].toArray) ∧ Ints w' s2 (out.map cI) ∧
      ((¬ (ValidP (l.map DR.p) (fs.map DF.p) ∧ GroundF f.p ∧ PlainP (l.map DR.p)) ∧ x = 2 ∧ out = []) ∨ ((ValidP (l.map DR.p) (fs.map DF.p) ∧ GroundF f.p ∧ PlainP (l.map DR.p)) ∧ 10 < fs.length ∧ x = 3 ∧ out = []) ∨
        ((ValidP (l.map DR.p) (fs.map DF.p) ∧ GroundF f.p ∧ PlainP (l.map DR.p)) ∧ fs.length ≤ 10 ∧ x = 0 ∧ ((¬ En' (l.map DR.p) (fs.map DF.p) f.p.k ((2 ^ fs.length - 1 : Nat) : Int) ∧ out = []) ∨ (En' (l.map DR.p) (fs.map DF.p) f.p.k ((2 ^ fs.length - 1 : Nat) : Int) ∧ out = srcs (fun n => En' (l.map DR.p) (fs.map DF.p) f.p.k (n : Int)) (2 ^ fs.length))))) ∧ Ext w w') ?_).mono fun e w' ⟨v, he, s2, x, out, hv, hx⟩ => ⟨s2, x, out, by rw [he, hv], hx⟩
  have hfn := hf.len
  refine Let.intro fun w1 e1 => ?_
  have b1 : Blk w1 w.heap.size [.slice s.a s.n s.c] 27 := by rw [e1]; exact Blk.alloc w [.slice s.a s.n s.c] 27
  have x1 : Ext w w1 := by rw [e1]; exact Ext.alloc ..
  refine Let.intro fun w2 e2 => ?_
  have b2 : Blk w2 w1.heap.size [.slice s'.a s'.n s'.c] 23 := by rw [e2]; exact Blk.alloc w1 [.slice s'.a s'.n s'.c] 23
  have x2 : Ext w1 w2 := by rw [e2]; exact Ext.alloc ..
  obtain ⟨b3, x3⟩ := eF_cells w2 f 36
  refine Let.intro fun w3 e3 => ?_
  have e3 : w3 = w2.alloc (.cells (eF f).toArray 36) := e3
  rw [← e3] at b3 x3
  have b1 := (b1.ext x2).ext x3
  have b2 := b2.ext x3
  have x03 := (x1.trans x2).trans x3
  refine ⟨fun (b23 : Bool) w4 => (b23 = false ↔ (ValidP (l.map DR.p) (fs.map DF.p) ∧ GroundF f.p ∧ PlainP (l.map DR.p))) ∧ Ext w3 w4, ?_, ?_⟩
  rotate_left
  · refine ⟨s, b1.cell 0, s', b2.cell 0, (c55 (hs.ext x03) (hf.ext x03) hl hfl hz hzf).mono fun e w17 ⟨b, he, hb, x17⟩ => ⟨b, he, cond_intro (fun g => ?_) (fun g => ?_)⟩⟩
    · have g : b = false := by simpa using g
      exact ⟨⟨(fun h => by cases h), fun h => by have := hb.2 h.1; rw [g] at this; cases this⟩, x17⟩
    have g : b = true := by simpa using g
    have hv := hb.1 g
    refine ⟨_, _, (b3.ext x17).rd, (c74 ((hx.ext x03).ext x17) hxl).mono fun e w18 ⟨he, x18⟩ => ⟨_, he, cond_intro (fun g2 => ?_) (fun g2 => ?_)⟩⟩
    · have g2 : ¬ GroundF f.p := by simpa using g2
      exact ⟨⟨(fun h => by cases h), fun h => absurd h.2.1 g2⟩, x17.trans x18⟩
    have g2 : GroundF f.p := by simpa using g2
    have hl10 : l.length ≤ 10 := by have := hv.nl; simpa using this
    refine ⟨s, (b1.ext (x17.trans x18)).cell 0, (c75 (hs.ext ((x03.trans x17).trans x18)) (by show l.length ≤ 9223372036854775807; omega) (fun r hr => by have := (hz r hr).1; show r.body.length ≤ 9223372036854775807; omega)).mono fun e w19 ⟨b22, he, hb22, x19⟩ => ⟨b22, he, ?_, (x17.trans x18).trans x19⟩⟩
    rw [hb22]
    exact ⟨fun h => ⟨hv, g2, h⟩, fun h => h.2.2⟩
  rintro b23 w4 ⟨hb23, x4⟩
  have x04 := x03.trans x4
  refine cond_intro (fun g => ?_) (fun g => ?_)
  · subst g
    exact ⟨⟨none, 0, 0⟩, 2, [], rfl, Sli.nil _ _, .inl ⟨(fun h => by have := hb23.2 h; cases this), rfl, rfl⟩, x04⟩
  have hV := hb23.1 g
  obtain ⟨hv, hg, hpl⟩ := hV
  have hru : ∀ r ∈ l, RuleP r.p := fun r hr => hv.ru _ (List.mem_map.2 ⟨r, hr, rfl⟩)
  have hgr : ∀ g ∈ fs, GroundF g.p := fun g hg => hv.gr _ (List.mem_map.2 ⟨g, hg, rfl⟩)
  have hl10 : l.length ≤ 10 := by have := hv.nl; simpa using this
  have hf20 : fs.length ≤ 20 := by have := hv.nf; simpa using this
  refine ⟨s', (b2.ext x4).cell 0, cond_intro (fun g2 => ?_) (fun g2 => ?_)⟩
  · have g2 : 10 < fs.length := by simp at g2; omega
    exact ⟨⟨none, 0, 0⟩, 3, [], rfl, Sli.nil _ _, .inr (.inl ⟨⟨hv, hg, hpl⟩, g2, rfl, rfl⟩), x04⟩
  have g2 : fs.length ≤ 10 := by simp at g2; omega
  have en : Int.toNat ((s'.n : Nat) : Int) = fs.length := by omega
  have hpw : 2 ^ fs.length ≤ 1024 := Nat.pow_le_pow_right (n := 2) (by omega) g2
  have hpw0 : 0 < 2 ^ fs.length := Nat.pow_pos (by omega)
  refine ⟨s', (b2.ext x4).cell 0, by omega, ?_⟩
  rw [en, pow10 _ g2]
  have ew : IntKind.wrap .i64 (((2 ^ fs.length : Nat) : Int) - 1) = ((2 ^ fs.length - 1 : Nat) : Int) := by rw [wrap64 (by omega) (by omega)]; omega
  rw [ew]
  generalize hE : (fun n : Nat => En' (l.map DR.p) (fs.map DF.p) f.p.k (n : Int)) = E
  have hE' : ∀ n : Nat, En' (l.map DR.p) (fs.map DF.p) f.p.k (n : Int) = E n := fun n => by rw [← hE]
  have call79' : ∀ (w' : World) (n : Nat), Ext w3 w' → Calls Try.prog 79 [.int .i64 (n : Int), .pointer (some ⟨w1.heap.size, 0, none⟩), .pointer (some ⟨w.heap.size, 0, none⟩), .pointer (some ⟨w2.heap.size, 0, none⟩)].toArray w' fun e w2 => ∃ b : Bool, e = .returned (.bool b) ∧ (b = true ↔ E n) ∧ Ext w' w2 := fun w' n x' => by
    rw [← hE']
    exact c79 (b2.ext x') (b1.ext x') (b3.ext x') (hs.ext (x03.trans x')) (hf.ext (x03.trans x')) (hx.ext (x03.trans x')) hru (by omega) hgr hf20 hg
  refine (call79' w4 (2 ^ fs.length - 1) x4).mono fun e w5 ⟨b33, he, hb33, x5⟩ => ⟨b33, he, ?_⟩
  rw [hE']
  have x35 := x4.trans x5
  have x05 := x03.trans x35
  refine cond_intro (fun g3 => ?_) (fun g3 => ?_)
  · have g3 : b33 = false := by simpa using g3
    exact ⟨⟨none, 0, 0⟩, 0, [], rfl, Sli.nil _ _, .inr (.inr ⟨⟨hv, hg, hpl⟩, g2, rfl, .inl ⟨(fun h => by rw [hb33.2 h] at g3; cases g3), rfl⟩⟩), x05⟩
  have g3 : b33 = true := by simpa using g3
  refine ⟨s', (b2.ext x35).cell 0, by omega, ?_⟩
  rw [en, pow10 _ g2]
  refine Join.dir (rangeSI (fun i (s9 : Sl) w7 => Own 3 1 eI w5.heap.size w7 s9 ((srcs E i).map cI) ∧ w5.heap.size ≤ w7.heap.size ∧ Ext w3 w7) (by show 2 ^ fs.length ≤ 9223372036854775807; omega) ⟨by simpa [srcs] using Own.nil 3 1 eI _ _, Nat.le_refl _, x35⟩ ?_ ?_)
  rotate_left
  · rintro s9 w7 ⟨ho, _, x7⟩
    exact ⟨s9, 0, srcs E (2 ^ fs.length), rfl, ho.sli, .inr (.inr ⟨⟨hv, hg, hpl⟩, g2, rfl, .inr ⟨hb33.1 g3, rfl⟩⟩), x03.trans x7⟩
  rintro i hi s9 w7 ⟨ho, z7, x7⟩ K hK
  obtain ⟨n1, n2, n3⟩ := new_var w7 3 (z := zc Try.prog 3) (vs := [.int .i64 (i : Int)]) (by kernel_rfl) (by intro v hv; simp at hv; subst hv; rfl)
  refine Let.intro fun w9 e9 => ?_
  rw [← e9] at n1 n2 n3
  refine ⟨n1, Let.intro fun w10 e10 => ?_⟩
  rw [← e10] at n2 n3
  have x10 := x7.trans n3
  have hsl := srcs_len (E := E) i
  have hany : ((srcs E i).map cI).any (fun x => bitsI .andNot .i64 x (i : Int) == (0 : Int)) = true ↔ ∃ x ∈ srcs E i, subN x i := by
    rw [List.any_eq_true]
    constructor
    · rintro ⟨x, hx, h⟩
      obtain ⟨n, hn, rfl⟩ := List.mem_map.1 hx
      have hlt := (srcs_sound i n hn).2
      refine ⟨n, hn, fun j hj => ?_⟩
      have := (bitI_andNot _ _).1 h j (by show bitI ((n : Nat) : Int) j = true; rw [bitI_nat (by omega)]; exact hj)
      rw [bitI_nat (by omega)] at this; exact this
    · rintro ⟨n, hn, h⟩
      have hlt := (srcs_sound i n hn).2
      refine ⟨cI n, List.mem_map.2 ⟨n, hn, rfl⟩, (bitI_andNot _ _).2 fun j hj => ?_⟩
      have hj : bitI ((n : Nat) : Int) j = true := hj
      rw [bitI_nat (by omega)] at hj
      rw [bitI_nat (by omega)]; exact h j hj
  refine ⟨fun (b49 : Bool) w11 => (b49 = true ↔ ((∀ x ∈ srcs E i, ¬ subN x i) ∧ E i)) ∧ Ext w10 w11, ?_, ?_⟩
  rotate_left
  · refine (c34 (p := fun x => bitsI .andNot .i64 x (i : Int) == (0 : Int)) callable81 (ho.ext n3).sli (by show ((srcs E i).map cI).length ≤ 9223372036854775807; simp; omega) (fun w' x x' => c81 (n2.ext x'))).mono fun e w15 ⟨he, x15⟩ => ⟨_, he, cond_intro (fun g4 => ?_) (fun g4 => ?_)⟩
    · have g4 : ¬ ∃ x ∈ srcs E i, subN x i := fun h => by rw [hany.2 h] at g4; simp at g4
      refine ⟨_, (n2.ext x15).cell 0, (call79' w15 i (x10.trans x15)).mono fun e w16 ⟨b48, he, hb48, x16⟩ => ⟨b48, he, ?_, x15.trans x16⟩⟩
      rw [hb48]
      exact ⟨fun h => ⟨fun x hx hs => g4 ⟨x, hx, hs⟩, h⟩, fun h => h.2⟩
    · have g4 : ∃ x ∈ srcs E i, subN x i := hany.1 (by simpa using g4)
      obtain ⟨x, hx, hsx⟩ := g4
      exact ⟨⟨(fun h => by cases h), fun h => absurd hsx (h.1 x hx)⟩, x15⟩
  rintro b49 w11 ⟨hb49, x11⟩
  refine Join.dir (cond_intro (fun g5 => ?_) (fun g5 => ?_))
  · have hc := hb49.1 g5
    have x711 := n3.trans x11
    have hsl2 : ((srcs E i).map cI).length ≤ 1024 := by simp; omega
    obtain ⟨s52, w13, hb52, s53, w14, hr53, ho14, hf14⟩ := appendOne E34 (ho.ext x711) (x := (i : Int)) (v := .int .i64 (i : Int)) rfl eI_len eI_one (by omega) (by omega) (by simp only [maxLen]; omega) (by have := x711.size; omega) 34
    refine ⟨_, (n2.ext x11).cell 0, s52, w13, hb52, s53, w14, hr53, hK _ _ ⟨?_, by have := hf14.size; have := x711.size; omega, (x7.trans x711).newer hf14 fun q ⟨a, ha, e⟩ => by have := (ho.base ha).1; have := x35.size; omega⟩⟩
    rw [srcs_yes hc, List.map_append]; exact ho14
  · have hc : ¬ ((∀ x ∈ srcs E i, ¬ subN x i) ∧ E i) := fun h => by rw [hb49.2 h] at g5; cases g5
    refine hK _ _ ⟨?_, by have := n3.size; have := x11.size; omega, x10.trans x11⟩
    rw [srcs_no hc]; exact (ho.ext n3).ext x11
end Go.Proofs.Ytoljknamnkkgcaa
/-
  Printed by a program of this session (wip/tools/vcprint.py): of each Go function the shallow form, and that the calculus comes to it, by the kernel.
-/
namespace Go.Proofs.Ytoljknamnkkgcaa
open Go Go.VC
set_option maxRecDepth 100000

/-- F3: cubeb/cubeblaw03.RulesAgain -/
def An3 : An := (.sq .lf (.sq .lf (.sq (.sq (.rj [] [(27, .bool)]) (.cd (.sq (.rj [] [(4, .bool)]) .lf) .lf)) (.sq .lf (.sq (.rj [] [(4, .bool)]) .lf)))))
def S3 (s0 : Sl) (s1 : Sl) (R : Value → World → Prop) (w : World) : Prop :=
  Calls Try.prog 17 [(.slice s0.a s0.n s0.c)].toArray w (fun e w1 => ∃ s10 : Sl, e = .returned (.slice s10.a s10.n s10.c) ∧
  Calls Try.prog 18 [(.slice s1.a s1.n s1.c)].toArray w1 (fun e_2 w2 => ∃ s12 : Sl, e_2 = .returned (.slice s12.a s12.n s12.c) ∧
  Calls Try.prog 16 [(.slice s10.a s10.n s10.c), (.slice s12.a s12.n s12.c)].toArray w2 (fun e_3 w3 => ∃ s13_0 : Sl, ∃ x13_1 : Int, e_3 = .returned (.tuple [(.slice s13_0.a s13_0.n s13_0.c), (.int .i64 x13_1)].toArray) ∧
  Join [(27, .bool)] (fun (b27 : Bool) (w4 : World) => cond b27 (
  Join [(4, .bool)] (fun (b4 : Bool) (w5 : World) => R (.bool b4) w5) (fun J =>
  cond (x13_1 == (0 : Int)) (Calls Try.prog 20 [].toArray w4 (fun e_4 w6 => ∃ b39 : Bool, e_4 = .returned (.bool b39) ∧
  J b39 w6)) (cond (x13_1 == (2 : Int)) (Calls Try.prog 20 [].toArray w4 (fun e_5 w7 => ∃ b39_2 : Bool, e_5 = .returned (.bool b39_2) ∧
  J b39_2 w7)) (cond (x13_1 == (8 : Int)) (Calls Try.prog 20 [].toArray w4 (fun e_6 w8 => ∃ b39_3 : Bool, e_6 = .returned (.bool b39_3) ∧
  J b39_3 w8)) (J false w4))))) (
  Calls Try.prog 17 [(.slice s0.a s0.n s0.c)].toArray w4 (fun e_7 w9 => ∃ s43 : Sl, e_7 = .returned (.slice s43.a s43.n s43.c) ∧
  Calls Try.prog 16 [(.slice s43.a s43.n s43.c), (.slice s13_0.a s13_0.n s13_0.c)].toArray w9 (fun e_8 w10 => ∃ s45_0 : Sl, ∃ x45_1 : Int, e_8 = .returned (.tuple [(.slice s45_0.a s45_0.n s45_0.c), (.int .i64 x45_1)].toArray) ∧
  Join [(4, .bool)] (fun (b4_2 : Bool) (w11 : World) => R (.bool b4_2) w11) (fun J_2 =>
  cond (x45_1 == (0 : Int)) (Calls Try.prog 21 [(.slice s13_0.a s13_0.n s13_0.c), (.slice s45_0.a s45_0.n s45_0.c)].toArray w10 (fun e_9 w12 => ∃ b53 : Bool, e_9 = .returned (.bool b53) ∧
  cond b53 (Calls Try.prog 20 [].toArray w12 (fun e_10 w13 => ∃ b56 : Bool, e_10 = .returned (.bool b56) ∧
  J_2 b56 w13)) (J_2 false w12))) (J_2 false w10)))))) (fun J_3 =>
  cond (x13_1 != (0 : Int)) (J_3 true w3) (Calls Try.prog 19 [(.slice s0.a s0.n s0.c)].toArray w3 (fun e_11 w14 => ∃ b20 : Bool, e_11 = .returned (.bool b20) ∧
  cond (!b20) (J_3 true w14) (J_3 (decide (((s13_0.n : Nat) : Int) > (20 : Int))) w14)))))))
theorem eq3 (s0 : Sl) (s1 : Sl) (R : Value → World → Prop) (w : World) : funV Try.prog Try.f3 An3 [(.slice s0.a s0.n s0.c), (.slice s1.a s1.n s1.c)] R w = S3 s0 s1 R w := by kernel_rfl
theorem call3 (s0 : Sl) (s1 : Sl) {R : Value → World → Prop} {w : World} (h : S3 s0 s1 R w) : Calls Try.prog 3 [(.slice s0.a s0.n s0.c), (.slice s1.a s1.n s1.c)].toArray w fun e w' => ∃ v, e = .returned v ∧ R v w' :=
  funV_calls mixed Try.func3 (an := An3) (by rw [eq3]; exact h)

/-- F5: cubeb/cubeblaw03.RulesFounded -/
def An5 : An := (.sq .lf (.sq .lf (.sq (.sq .lf (.cd (.sq (.rj [] [(4, .bool)]) .lf) .lf)) (.sq .lf (.sq (.rj [] [(4, .bool)]) .lf)))))
def S5 (s0 : Sl) (s1 : Sl) (R : Value → World → Prop) (w : World) : Prop :=
  Calls Try.prog 17 [(.slice s0.a s0.n s0.c)].toArray w (fun e w1 => ∃ s12 : Sl, e = .returned (.slice s12.a s12.n s12.c) ∧
  Calls Try.prog 18 [(.slice s1.a s1.n s1.c)].toArray w1 (fun e_2 w2 => ∃ s14 : Sl, e_2 = .returned (.slice s14.a s14.n s14.c) ∧
  Calls Try.prog 25 [(.slice s12.a s12.n s12.c), (.slice s14.a s14.n s14.c)].toArray w2 (fun e_3 w3 => ∃ s15_0 : Sl, ∃ s15_1 : Sl, ∃ x15_2 : Int, e_3 = .returned (.tuple [(.slice s15_0.a s15_0.n s15_0.c), (.slice s15_1.a s15_1.n s15_1.c), (.int .i64 x15_2)].toArray) ∧
  Calls Try.prog 22 [(.slice s0.a s0.n s0.c), (.slice s1.a s1.n s1.c)].toArray w3 (fun e_4 w4 => ∃ b21 : Bool, e_4 = .returned (.bool b21) ∧
  cond (!b21) (
  Join [(4, .bool)] (fun (b4 : Bool) (w5 : World) => R (.bool b4) w5) (fun J =>
  cond ((IntKind.wrap .i64 (((s15_0.n : Nat) : Int) + ((s15_1.n : Nat) : Int))) == (0 : Int)) (cond (x15_2 == (2 : Int)) (Calls Try.prog 20 [].toArray w4 (fun e_5 w6 => ∃ b34 : Bool, e_5 = .returned (.bool b34) ∧
  J b34 w6)) (J false w4)) (J false w4))) (
  Calls Try.prog 26 [(.slice s0.a s0.n s0.c), (.slice s1.a s1.n s1.c)].toArray w4 (fun e_6 w7 => ∃ cs39_0 : List Value, cs39_0.length = 252 ∧ ∃ cs39_1 : List Value, cs39_1.length = 252 ∧ e_6 = .returned (.tuple [(.agg cs39_0.toArray), (.agg cs39_1.toArray)].toArray) ∧
  Let (w7.alloc (.cells (zc Try.prog 43) 43)) fun w8 => 
  Let (w8.alloc (.cells (zc Try.prog 43) 43)) fun w9 => 
  StoreOk w9 w7.heap.size 0 cs39_0 252 ∧ Let (put w9 w7.heap.size 0 cs39_0) fun w10 => 
  StoreOk w10 w8.heap.size 0 cs39_1 252 ∧ Let (put w10 w8.heap.size 0 cs39_1) fun w11 => 
  Join [(4, .bool)] (fun (b4_2 : Bool) (w12 : World) => R (.bool b4_2) w12) (fun J_2 =>
  ∃ cs43 : List Value, cs43.length = 252 ∧ rd w11 w7.heap.size 0 cs43 ∧ Calls Try.prog 27 [(.agg cs43.toArray)].toArray w11 (fun e_7 w13 => ∃ s44 : Sl, e_7 = .returned (.slice s44.a s44.n s44.c) ∧
  Calls Try.prog 21 [(.slice s15_0.a s15_0.n s15_0.c), (.slice s44.a s44.n s44.c)].toArray w13 (fun e_8 w14 => ∃ b45 : Bool, e_8 = .returned (.bool b45) ∧
  cond b45 (∃ cs48 : List Value, cs48.length = 252 ∧ rd w14 w8.heap.size 0 cs48 ∧ Calls Try.prog 27 [(.agg cs48.toArray)].toArray w14 (fun e_9 w15 => ∃ s49 : Sl, e_9 = .returned (.slice s49.a s49.n s49.c) ∧
  Calls Try.prog 21 [(.slice s15_1.a s15_1.n s15_1.c), (.slice s49.a s49.n s49.c)].toArray w15 (fun e_10 w16 => ∃ b50 : Bool, e_10 = .returned (.bool b50) ∧
  cond b50 (cond (x15_2 == (0 : Int)) (Calls Try.prog 20 [].toArray w16 (fun e_11 w17 => ∃ b57 : Bool, e_11 = .returned (.bool b57) ∧
  J_2 b57 w17)) (J_2 false w16)) (J_2 false w16)))) (J_2 false w14))))))))))
theorem eq5 (s0 : Sl) (s1 : Sl) (R : Value → World → Prop) (w : World) : funV Try.prog Try.f5 An5 [(.slice s0.a s0.n s0.c), (.slice s1.a s1.n s1.c)] R w = S5 s0 s1 R w := by kernel_rfl
theorem call5 (s0 : Sl) (s1 : Sl) {R : Value → World → Prop} {w : World} (h : S5 s0 s1 R w) : Calls Try.prog 5 [(.slice s0.a s0.n s0.c), (.slice s1.a s1.n s1.c)].toArray w fun e w' => ∃ v, e = .returned v ∧ R v w' :=
  funV_calls mixed Try.func5 (an := An5) (by rw [eq5]; exact h)

end Go.Proofs.Ytoljknamnkkgcaa
/-
  Contract: the law RulesAgain.
-/
namespace Go.Proofs.Ytoljknamnkkgcaa
open Go Go.VC
set_option maxHeartbeats 1000000
set_option maxRecDepth 100000

theorem cut_len (n : Nat) (f : Fa) : (cut n f).args.length ≤ n := by simp [cut]; omega
theorem of_sz {L : List DR} {l : List Ru} (h : L.map DR.p = ofR l) : L.length ≤ 12 ∧ ∀ r ∈ L, SzR r := by
  refine ⟨by have := congrArg List.length h; simp [ofR] at this; omega, fun r hr => ?_⟩
  have hm : r.p ∈ ofR l := by rw [← h]; exact List.mem_map.2 ⟨r, hr, rfl⟩
  obtain ⟨q, _, hq⟩ := List.mem_map.1 hm
  have h1 : r.body.map DL.p = (q.body.take 5).map cutL := congrArg Ru.body hq.symm
  have hb : r.body.length ≤ 5 := by have := congrArg List.length h1; simp at this; omega
  refine ⟨by omega, fun x hx => ?_⟩
  rcases List.mem_cons.1 hx with rfl | hx
  · have h2 : r.head.p = cut 5 q.head := congrArg Ru.head hq.symm
    have := cut_len 5 q.head
    rw [← h2] at this
    exact Nat.le_trans this (by omega)
  · obtain ⟨b, hbm, rfl⟩ := List.mem_map.1 hx
    have : b.p ∈ (q.body.take 5).map cutL := by rw [← h1]; exact List.mem_map.2 ⟨b, hbm, rfl⟩
    obtain ⟨c, _, hc⟩ := List.mem_map.1 this
    have h2 : b.a.p = cut 5 c.a := congrArg Li.a hc.symm
    have := cut_len 5 c.a
    rw [← h2] at this
    exact Nat.le_trans this (by omega)
theorem facts_sz {L : List DF} {l : List Fa} (h : L.map DF.p = factsC l) : L.length ≤ 26 ∧ ∀ x ∈ L, x.args.length ≤ 9 := by
  refine ⟨by have := congrArg List.length h; simp [factsC] at this; omega, fun x hx => ?_⟩
  have hm : x.p ∈ factsC l := by rw [← h]; exact List.mem_map.2 ⟨x, hx, rfl⟩
  obtain ⟨q, _, hq⟩ := List.mem_map.1 hm
  have := cut_len 9 q
  rw [hq] at this
  exact this
theorem ofR_plain {l : List Ru} (h : PlainP l) : PlainP (ofR l) := by
  intro r hr b hb
  obtain ⟨q, hq, rfl⟩ := List.mem_map.1 hr
  obtain ⟨c, hc, rfl⟩ := List.mem_map.1 hb
  exact h q (List.mem_of_mem_take hq) c (List.mem_of_mem_take hc)
theorem IsL.giv {S : Ky → Prop} {l : List Fa} (h : IsL S l) (k : Ky) : giv l k ↔ S k := by
  constructor
  · rintro ⟨f, hf, rfl⟩
    obtain ⟨k, hk, rfl⟩ := (h.mem f).1 hf
    rw [Ky.fk]; exact hk
  · intro hk
    exact ⟨k.f, (h.mem _).2 ⟨k, hk, rfl⟩, Ky.fk k⟩
/-- The facts of a model go with the rules. -/
theorem again_valid {l : List Ru} {fs a : List Fa} {t : List Int} (hv : ValidP l fs) (h : IsL (Mdl l t (giv fs)) a) (hn : a.length ≤ 20) : ValidP l a := by
  obtain ⟨h1, h2⟩ := hv.ty
  have hty : ∀ k, Mdl l t (giv fs) k → TyK (allA l fs) k := Lay_ty hv.co h1 h2 6
  have hrl : ∀ x ∈ l.flatMap Ru.atoms, x ∈ allA l fs := fun x hx => List.mem_append_right _ hx
  refine ⟨hv.nl, hn, fun f hf => ?_, hv.ru, ?_⟩
  · obtain ⟨k, hk, rfl⟩ := (h.mem f).1 hf
    exact (hty k hk).ground
  · intro x hx y hy e
    rcases List.mem_append.1 hx with hx | hx <;> rcases List.mem_append.1 hy with hy | hy
    · obtain ⟨k, hk, rfl⟩ := (h.mem x).1 hx
      obtain ⟨k', hk', rfl⟩ := (h.mem y).1 hy
      -- both of one Rel: by an atom of it, or by the shapes
      have e' : k.rel = k'.rel := e
      by_cases hex : ∃ g ∈ allA l fs, g.rel = k.rel
      · obtain ⟨g, hg, eg⟩ := hex
        have h3 := (hty k hk).len g hg eg
        have h4 := (hty k' hk').len g hg (by rw [eg, e'])
        omega
      · -- there is no atom of this Rel: then no fact either
        exfalso
        have : ∀ k, Mdl l t (giv fs) k → ∃ g ∈ allA l fs, g.rel = k.rel := fun k hk => by
          have hl : ∀ n k, Lay l t (giv fs) n k → ∃ g ∈ allA l fs, g.rel = k.rel := by
            intro n
            induction n with
            | zero =>
              rintro k ⟨f, hf, rfl⟩
              exact ⟨f, List.mem_append_left _ hf, rfl⟩
            | succ n ih =>
              intro k hk
              exact hk (fun k => ∃ g ∈ allA l fs, g.rel = k.rel) ih fun r hr u _ _ => ⟨r.head, (h2 r (List.mem_filter.1 hr).1).2 _ (by simp [Ru.atoms]), rfl⟩
          exact hl 6 k hk
        exact hex (this k hk)
    · obtain ⟨k, hk, rfl⟩ := (h.mem x).1 hx
      exact ((hty k hk).len y (hrl y hy) e.symm).symm
    · obtain ⟨k, hk, rfl⟩ := (h.mem y).1 hy
      exact (hty k hk).len x (hrl x hx) e
    · exact hv.co x (hrl x hx) y (hrl y hy) e
theorem again_mdl {l : List Ru} (hp : PlainP l) {fs a : List Fa} (h : IsL (Mdl l zero6 (giv fs)) a) (k : Ky) : Mdl l zero6 (giv a) k ↔ Mdl l zero6 (giv fs) k := by
  rw [Mdl_plain hp (fun _ => False), Mdl_plain hp (fun _ => False)]
  have hg : ∀ k, giv a k ↔ Cl l (giv fs) (fun _ => False) k := fun k => by rw [h.giv, Mdl_plain hp (fun _ => False)]
  refine Cl.eq (fun k hk => (hg k).1 hk) (Cl.closed _ _ _) (fun k hk => Cl.base ((hg k).2 hk)) k
theorem c3 {w : World} {s s' : Sl} {l : List DR} {fs : List DF} (hs : NR w s l) (hf : NF w s' fs) (hl : l.length ≤ big) (hb : ∀ r ∈ l, r.body.length ≤ big) (hfl : fs.length ≤ big) :
    Calls Try.prog 3 [.slice s.a s.n s.c, .slice s'.a s'.n s'.c].toArray w fun e w' => e = .returned (.bool true) ∧ Ext w w' := by
  refine (call3 s s' (R := fun v w' => v = .bool true ∧ Ext w w') ?_).mono fun e w' ⟨v, he, hv, hx⟩ => ⟨by rw [he, hv], hx⟩
  refine (c17 hs hl hb).mono fun e w1 ⟨s10, L, he, hL, hLp, x1⟩ => ⟨s10, he, ?_⟩
  refine (c18 (hf.ext x1) hfl).mono fun e w2 ⟨s12, F, he, hFo, hFt, hFp, x2⟩ => ⟨s12, he, ?_⟩
  have hF : NF w2 s12 F := ⟨hFo.sli, fun x hx => (hFt x hx).i⟩
  obtain ⟨hL12, hLz⟩ := of_sz hLp
  obtain ⟨hF26, hFz⟩ := facts_sz hFp
  refine (c16 (hL.ext x2) hF (by omega) (by omega) hLz (fun f hf => by have := hFz f hf; omega)).mono fun e w3 ⟨s13, x, A, he, hA, hAl, hcase, x3⟩ => ⟨s13, x, he, ?_⟩
  have x03 := (x1.trans x2).trans x3
  have hAn := hA.len
  refine ⟨fun (b27 : Bool) w4 => (b27 = false → x = 0 ∧ PlainP (l.map DR.p) ∧ A.length ≤ 20) ∧ Ext w3 w4, ?_, ?_⟩
  rotate_left
  · refine cond_intro (fun _ => ⟨(fun h => by cases h), Fr.refl _ _⟩) (fun g => ?_)
    have g : x = 0 := by simpa using g
    refine (c19 (hs.ext x03) hl hb).mono fun e w14 ⟨b, he, hbp, x14⟩ => ⟨b, he, cond_intro (fun _ => ⟨(fun h => by cases h), x14⟩) (fun g2 => ⟨fun g3 => ?_, x14⟩)⟩
    have g2 : b = true := by simpa using g2
    exact ⟨g, hbp.1 g2, by simp [hAn] at g3; omega⟩
  rintro b27 w4 ⟨hb27, x4⟩
  have x04 := x03.trans x4
  refine cond_intro (fun _ => ?_) (fun g => ?_)
  · refine Join.dir (cond_intro (fun _ => (c20 w4).mono fun e w6 ⟨he, x6⟩ => ⟨_, he, rfl, x04.trans x6⟩) (fun g1 => cond_intro (fun _ => (c20 w4).mono fun e w6 ⟨he, x6⟩ => ⟨_, he, rfl, x04.trans x6⟩) (fun g2 => cond_intro (fun _ => (c20 w4).mono fun e w6 ⟨he, x6⟩ => ⟨_, he, rfl, x04.trans x6⟩) (fun g3 => ?_))))
    rcases hcase with ⟨_, h, _⟩ | ⟨_, _, h, _⟩ | ⟨_, t, _, h, _⟩ <;> subst h <;> simp at g1 g2 g3
  obtain ⟨hx0, hpl, hA20⟩ := hb27 g
  have hplo := ofR_plain hpl
  rw [← hLp] at hplo
  rcases hcase with ⟨_, h, _⟩ | ⟨_, _, h, _⟩ | ⟨hv, t, ht, _, hIs⟩
  · omega
  · omega
  have := ht.uniq (plain_str hplo)
  subst this
  have hv2 := again_valid hv hIs (by simpa using hA20)
  refine (c17 (hs.ext x04) hl hb).mono fun e w9 ⟨s43, L2, he, hL2, hLp2, x9⟩ => ⟨s43, he, ?_⟩
  have eL2 : L2.map DR.p = L.map DR.p := by rw [hLp2, hLp]
  obtain ⟨hL12', hLz'⟩ := of_sz hLp2
  have hAa : ∀ f ∈ A, f.args.length ≤ 2 := fun f hf => (hv2.gr f.p (List.mem_map.2 ⟨f, hf, rfl⟩)).2.2.2.1
  refine (c16 hL2 (hA.ext (x4.trans x9)) (by omega) (by omega) hLz' (fun f hf => by have := hAa f hf; omega)).mono fun e w10 ⟨s45, x', A2, he, hA2, hAl2, hcase2, x10⟩ => ⟨s45, x', he, ?_⟩
  rw [eL2] at hcase2
  rcases hcase2 with ⟨h, _⟩ | ⟨_, h, _⟩ | ⟨_, t2, ht2, rfl, hIs2⟩
  · exact absurd hv2 h
  · exact absurd ⟨_, ht⟩ h
  have := ht2.uniq ht
  subst this
  have heq : A.map DF.p = A2.map DF.p := hIs.uniq (hIs2.congr (again_mdl hplo hIs))
  have x09 := (x04.trans x9).trans x10
  refine Join.dir (cond_intro (fun _ => ?_) (fun h => by simp at h))
  refine (c21 (hA.ext ((x4.trans x9).trans x10)) hA2 (by show A.length ≤ 9223372036854775807; omega) (fun y hy => by have := hAa y hy; show y.args.length ≤ 9223372036854775807; omega)).mono fun e w12 ⟨he, x12⟩ => ⟨_, he, ?_⟩
  refine cond_intro (fun _ => ?_) (fun h => by simp [heq] at h)
  exact (c20 w12).mono fun e w13 ⟨he, x13⟩ => ⟨_, he, rfl, (x09.trans x12).trans x13⟩
end Go.Proofs.Ytoljknamnkkgcaa
/-
  Contract: Valid of the reference.
-/
namespace Go.Proofs.Ytoljknamnkkgcaa
open Go Go.VC
set_option maxHeartbeats 1000000
set_option maxRecDepth 100000

theorem rdPair {w : World} {s : Sl} {l : List (Int × Int)} (hs : Sli 2 eP w s l) {i : Nat} (hi : i < l.length) {B : World → Prop}
    (hB : ∀ w5, Blk w5 w.heap.size (eP l[i]) 114 → Ext w w5 → B w5) :
    ∃ p : Pt, s.a = some ⟨p.b, p.o, none⟩ ∧ 0 ≤ (i : Int) ∧ (i : Int) < ((s.n : Nat) : Int) ∧ ∃ a : Int, ∃ b : Int, rd w p.b (p.o + Int.toNat (i : Int) * 2) [.int .i64 a, .int .i64 b] ∧
      Let (w.alloc (.cells (zc Try.prog 114) 114)) fun w4 => StoreOk w4 w.heap.size 0 [.int .i64 a, .int .i64 b] 2 ∧ Let (put w4 w.heap.size 0 [.int .i64 a, .int .i64 b]) fun w5 => B w5 := by
  obtain ⟨p, hp, h2, h3, hr⟩ := Sli.at eP_len hs hi
  obtain ⟨a, b, c⟩ := new_var w 114 (z := zc Try.prog 114) (vs := eP l[i]) (by rw [zc114s, eP_len]) (eP_one _)
  exact ⟨p, hp, h2, h3, _, _, hr, a, hB _ b c⟩
theorem flat_len {l : List Ru} (h : ∀ r ∈ l, r.body.length ≤ 3) : (l.flatMap Ru.atoms).length ≤ 4 * l.length := by
  induction l with
  | nil => simp
  | cons r q ih =>
    have h1 := h r (by simp)
    have h2 := ih fun r' hr' => h r' (by simp [hr'])
    simp only [List.flatMap_cons, List.length_append, List.length_cons, Ru.atoms, List.length_map] at h2 ⊢
    omega
theorem c22 {w : World} {s s' : Sl} {l : List DR} {fs : List DF} (hs : NR w s l) (hf : NF w s' fs) (hl : l.length ≤ big) (hfl : fs.length ≤ big) (hb : ∀ r ∈ l, r.body.length ≤ big) (ha : ∀ r ∈ l, ∀ x ∈ r.atoms, x.args.length ≤ big) (hfa : ∀ x ∈ fs, x.args.length ≤ big) :
    Calls Try.prog 22 [.slice s.a s.n s.c, .slice s'.a s'.n s'.c].toArray w fun e w' => ∃ b : Bool, e = .returned (.bool b) ∧ (b = true ↔ ValidP (l.map DR.p) (fs.map DF.p)) ∧ Ext w w' := by
  refine (call22 s s' (R := fun v w' => ∃ b : Bool, v = .bool b ∧ (b = true ↔ ValidP (l.map DR.p) (fs.map DF.p)) ∧ Ext w w') ?_).mono fun e w' ⟨v, he, b, hv, hx⟩ => ⟨b, by rw [he, hv], hx⟩
  have hn := hs.len
  have hfn := hf.len
  have no : ∀ {w' : World}, Ext w w' → ¬ ValidP (l.map DR.p) (fs.map DF.p) → ∃ b : Bool, Value.bool false = .bool b ∧ (b = true ↔ ValidP (l.map DR.p) (fs.map DF.p)) ∧ Ext w w' := fun hx hv => ⟨false, rfl, by simp [hv], hx⟩
  refine ⟨fun (b25 : Bool) w1 => (b25 = true ↔ l.length > 10 ∨ fs.length > 20) ∧ w1 = w, ?_, ?_⟩
  rotate_left
  · refine cond_intro (fun g => ⟨?_, rfl⟩) (fun g => ⟨?_, rfl⟩)
    · have g : l.length > 10 := by simp [hn] at g; omega
      simp [g]
    · have g : ¬ l.length > 10 := by simp [hn] at g; omega
      simp [g, hfn]; omega
  rintro b25 w1 ⟨hb25, rfl⟩
  refine cond_intro (fun g => ?_) (fun g => ?_)
  · refine no (Fr.refl _ _) fun hv => ?_
    have h1 := hv.nl
    have h2 := hv.nf
    simp at h1 h2
    rcases hb25.1 g with h | h <;> omega
  have hl10 : l.length ≤ 10 := Nat.le_of_not_lt fun h => by rw [hb25.2 (.inl h)] at g; cases g
  have hf20 : fs.length ≤ 20 := Nat.le_of_not_lt fun h => by rw [hb25.2 (.inr h)] at g; cases g
  refine ⟨fun s5 w2 => Own 114 2 eP w1.heap.size w2 s5 ((fs.map DF.p).map szF) ∧ (∀ f ∈ fs, GroundF f.p) ∧ Ext w1 w2, ?_, ?_⟩
  rotate_left
  · -- the facts
    refine rangeSI (fun i (s5 : Sl) w2 => Own 114 2 eP w1.heap.size w2 s5 (((fs.take i).map DF.p).map szF) ∧ (∀ f ∈ fs.take i, GroundF f.p) ∧ Ext w1 w2) (by rw [hfn]; exact hfl) ⟨Own.nil .., by simp, Fr.refl _ _⟩ ?_ ?_
    · rintro i hi s5 w35 ⟨ho, hgr, x35⟩ K hK
      have hi : i < fs.length := by omega
      have hm := List.getElem_mem hi
      refine loadF (hf.ext x35) hi zc36 fun w38 b38 x38 => ⟨_, _, b38.rd, ?_⟩
      have x038 := x35.trans x38
      refine (c31 ((hf.ok _ hm).ext x038) (hfa _ hm)).mono fun e w39 ⟨c, he, hc, x39⟩ => ⟨c, he, cond_intro (fun g => ?_) (fun g => ?_)⟩
      · have g : c = false := by simpa using g
        refine no (x038.trans x39) fun hv => ?_
        rw [hc.2 (hv.gr _ (List.mem_map.2 ⟨_, hm, rfl⟩))] at g; cases g
      have g : c = true := by simpa using g
      have b39 := b38.ext x39
      have hsl := (hf.ok _ hm).len
      refine ⟨_, b39.cell 0, _, b39.cell 1, ?_⟩
      obtain ⟨q1, w40, hb40, q2, w41, hr41, ho41, hf41⟩ := appP (ho.ext (x38.trans x39)) ((fs[i]).rel, (((fs[i]).sl.n : Nat) : Int)) (by simp; omega) (by have := (x038.trans x39).size; exact this)
      refine ⟨q1, w40, hb40, q2, w41, hr41, hK _ _ ⟨?_, fun f hf' => ?_, (x038.trans x39).newer hf41 fun y ⟨a, ha', e⟩ => by have := ((ho.ext (x38.trans x39)).base ha').1; omega⟩⟩
      · rw [List.take_succ_eq_append_getElem hi, List.map_append, List.map_append]
        rw [hsl] at ho41; exact ho41
      · rw [List.take_succ_eq_append_getElem hi, List.mem_append, List.mem_singleton] at hf'
        rcases hf' with hf' | rfl
        · exact hgr f hf'
        · exact hc.1 g
    · rintro s5 w2 ⟨ho, hgr, x2⟩
      rw [hfn, List.take_length] at ho hgr
      exact ⟨ho, hgr, x2⟩
  rintro s5 w2 ⟨ho2, hgr, x2⟩
  refine ⟨fun s5 w3 => Own 114 2 eP w1.heap.size w3 s5 ((fs.map DF.p ++ (l.map DR.p).flatMap Ru.atoms).map szF) ∧ (∀ r ∈ l, RuleP r.p) ∧ Ext w1 w3, ?_, ?_⟩
  · -- the sizes
    rintro s5 w3 ⟨ho3, hru, x3⟩
    generalize hS : (fs.map DF.p ++ (l.map DR.p).flatMap Ru.atoms).map szF = S at ho3
    have hco : Consist (fs.map DF.p ++ (l.map DR.p).flatMap Ru.atoms) ↔ ∀ x ∈ S, ∀ y ∈ S, x.1 = y.1 → x.2 = y.2 := by rw [← hS]; exact consist_sz
    have hSl : S.length ≤ 60 := by
      rw [← hS]
      have := flat_len (l := l.map DR.p) fun r hr => by obtain ⟨q, hq, rfl⟩ := List.mem_map.1 hr; exact (hru q hq).1
      simp at this ⊢; omega
    have h5n := ho3.sli.len
    refine Join.dir (rangeI (fun i w5 => (∀ x ∈ S.take i, ∀ y ∈ S, x.1 = y.1 → x.2 = y.2) ∧ Ext w3 w5) (by rw [h5n]; show S.length ≤ 9223372036854775807; omega) ⟨by simp, Fr.refl _ _⟩ ?_ ?_)
    · rintro i hi w5 ⟨hok, x5⟩ K hK
      have hi : i < S.length := by omega
      refine rdPair (ho3.ext x5).sli hi fun w8 b8 x8 => ?_
      refine Join.dir (rangeI (fun j w10 => (∀ y ∈ S.take j, S[i].1 = y.1 → S[i].2 = y.2) ∧ Ext w8 w10) (by rw [h5n]; show S.length ≤ 9223372036854775807; omega) ⟨by simp, Fr.refl _ _⟩ ?_ ?_)
      · rintro j hj w10 ⟨hok2, x10⟩ K2 hK2
        have hj : j < S.length := by omega
        refine rdPair ((ho3.ext x5).ext (x8.trans x10)).sli hj fun w13 b13 x13 => ?_
        have b8' := (b8.ext x10).ext x13
        have x013 := ((x3.trans x5).trans (x8.trans x10)).trans x13
        refine ⟨fun (b138 : Bool) w14 => (b138 = true ↔ ¬ (S[i].1 = S[j].1 → S[i].2 = S[j].2)) ∧ w14 = w13, ?_, ?_⟩
        · rintro b138 w14 ⟨hb138, rfl⟩
          refine cond_intro (fun g => no x013 fun hv => ?_) (fun g => hK2 _ ⟨fun y hy => ?_, x10.trans x13⟩)
          · exact hb138.1 g fun e => hco.1 hv.co _ (List.getElem_mem hi) _ (List.getElem_mem hj) e
          · rw [List.take_succ_eq_append_getElem hj, List.mem_append, List.mem_singleton] at hy
            rcases hy with hy | rfl
            · exact hok2 y hy
            · exact Classical.byContradiction fun h => by rw [hb138.2 h] at g; cases g
        · refine ⟨by decide, by decide, _, b8'.cell 0, by decide, by decide, _, b13.cell 0, cond_intro (fun g => ⟨by decide, by decide, _, b8'.cell 1, by decide, by decide, _, b13.cell 1, ?_, rfl⟩) (fun g => ⟨?_, rfl⟩)⟩
          · have g : S[i].1 = S[j].1 := by simpa using g
            simp [g]
          · have g : ¬ S[i].1 = S[j].1 := by simpa using g
            simp [g]
      · rintro w9 ⟨hok2, x9⟩
        rw [h5n, List.take_length] at hok2
        refine hK _ ⟨fun x hx => ?_, (x5.trans x8).trans x9⟩
        rw [List.take_succ_eq_append_getElem hi, List.mem_append, List.mem_singleton] at hx
        rcases hx with hx | rfl
        · exact hok x hx
        · exact hok2
    · rintro w4 ⟨hok, x4⟩
      rw [h5n, List.take_length] at hok
      refine ⟨true, rfl, ?_, x3.trans x4⟩
      simp only [true_iff]
      refine ⟨by simpa using hl10, by simpa using hf20, fun f hf => ?_, fun r hr => ?_, hco.2 hok⟩
      · obtain ⟨x, hx, rfl⟩ := List.mem_map.1 hf; exact hgr x hx
      · obtain ⟨x, hx, rfl⟩ := List.mem_map.1 hr; exact hru x hx
  · -- the rules
    refine rangeSI (fun i (s5 : Sl) w15 => Own 114 2 eP w1.heap.size w15 s5 ((fs.map DF.p ++ ((l.take i).map DR.p).flatMap Ru.atoms).map szF) ∧ (∀ r ∈ l.take i, RuleP r.p) ∧ Ext w1 w15) (by rw [hn]; exact hl) ⟨by simpa using ho2, by simp, x2⟩ ?_ ?_
    rotate_left
    · rintro s5 w3 ⟨ho3, hru, x3⟩
      rw [hn, List.take_length] at ho3 hru
      exact ⟨ho3, hru, x3⟩
    rintro i hi s5 w15 ⟨ho15, hru, x15⟩ K hK
    have hi : i < l.length := by omega
    have hm := List.getElem_mem hi
    have hbb := hb _ hm
    have haa := ha _ hm
    have hrp : (l[i]).p ∈ l.map DR.p := List.mem_map.2 ⟨_, hm, rfl⟩
    refine loadRT (hs.ext x15) hi zc94 fun w18 b18 x18 => ?_
    have hro := hs.ok _ hm
    have hbase : (fs.map DF.p ++ ((l.take i).map DR.p).flatMap Ru.atoms).length ≤ 60 := by
      have := flat_len (l := (l.take i).map DR.p) fun r hr => by obtain ⟨q, hq, rfl⟩ := List.mem_map.1 hr; exact (hru q hq).1
      simp at this ⊢; omega
    have htk : fs.map DF.p ++ ((l.take (i + 1)).map DR.p).flatMap Ru.atoms = (fs.map DF.p ++ ((l.take i).map DR.p).flatMap Ru.atoms) ++ (l[i]).p.atoms := by
      rw [List.take_succ_eq_append_getElem hi, List.map_append, List.flatMap_append]; simp
    have hruS : (∀ r ∈ l.take (i + 1), RuleP r.p) ↔ (∀ r ∈ l.take i, RuleP r.p) ∧ RuleP (l[i]).p := by
      rw [List.take_succ_eq_append_getElem hi]
      constructor
      · intro h; exact ⟨fun r hr => h r (List.mem_append_left _ hr), h _ (List.mem_append_right _ (List.mem_singleton.2 rfl))⟩
      · rintro ⟨h1, h2⟩ r hr
        rcases List.mem_append.1 hr with hr | hr
        · exact h1 r hr
        · simp only [List.mem_singleton] at hr; subst hr; exact h2
    have x018 := x15.trans x18
    generalize l[i] = r at b18 hro hbb haa hrp htk hruS
    generalize fs.map DF.p ++ ((l.take i).map DR.p).flatMap Ru.atoms = Ba at ho15 hbase htk
    have hbn := hro.bd.len
    have hatoms : r.p.atoms = r.head.p :: r.body.map (fun b => b.a.p) := by simp [Ru.atoms, DR.p, DL.p]
    refine ⟨fun (b60 : Bool) w19 => (b60 = true ↔ ¬ (FitsF r.head.p ∧ r.body.length ≤ 3)) ∧ Ext w18 w19, ?_, ?_⟩
    rotate_left
    · refine ⟨_, _, rdHead b18, (c62 (hro.hd.ext x018) (haa r.head (by simp [DR.atoms]))).mono fun e w34 ⟨c, he, hc, x34⟩ => ⟨c, he, cond_intro (fun g => ⟨?_, x34⟩) (fun g => ⟨_, (b18.ext x34).cell 2, ?_, x34⟩)⟩⟩
      · have g : c = false := by simpa using g
        simp only [true_iff]
        exact fun h => by rw [hc.2 h.1] at g; cases g
      · have g : c = true := by simpa using g
        have := hc.1 g
        simp [this, hbn]; omega
    rintro b60 w19 ⟨hb60, x19⟩
    have x019 := x018.trans x19
    refine cond_intro (fun g => no x019 fun hv => ?_) (fun g => ?_)
    · have := hv.ru _ hrp
      exact hb60.1 g ⟨this.2.2 _ (by simp [Ru.atoms, DR.p]), by have := this.1; simpa [DR.p] using this⟩
    have hgood : FitsF r.head.p ∧ r.body.length ≤ 3 := Classical.byContradiction fun h => by rw [hb60.2 h] at g; cases g
    obtain ⟨hfh, hb3⟩ := hgood
    have b19 := b18.ext x19
    have ho19 := ho15.ext (x18.trans x19)
    have hsl := hro.hd.len
    refine ⟨_, b19.cell 0, _, b19.cell 1, ?_⟩
    obtain ⟨q1, w20, hb20, q2, w21, hr21, ho21, hf21⟩ := appP ho19 (r.head.rel, ((r.head.sl.n : Nat) : Int)) (by simp; omega) x019.size
    refine ⟨q1, w20, hb20, q2, w21, hr21, ?_⟩
    have x021 : Ext w1 w21 := x019.newer hf21 fun y ⟨a, ha', e⟩ => by have := (ho19.base ha').1; omega
    have hnb : ∀ {w' : World} {s : Sl} {L : List (Int × Int)} {q : Nat} {vs : List Value} {T : TypeId}, Own 114 2 eP w1.heap.size w' s L → Blk w' q vs T → T ≠ 114 → ¬ BlS s q := fun ho hbk hT ⟨a, ha', e⟩ => by
      obtain ⟨cur, hc⟩ := ho.blk ha'
      rw [e] at hc
      exact Blk.ne_ty hbk hc hT rfl
    have b21 := b19.fr hf21 (hnb ho19 b19 (by decide))
    refine ⟨_, _, rdHead b21, (c63 (hro.hd.ext x021) hfh).mono fun e w22 ⟨m74, he, hm74, x22⟩ => ⟨m74, he, ?_⟩⟩
    have b22 := b21.ext x22
    have x022 := x021.trans x22
    rw [hsl] at ho21
    refine ⟨_, b22.cell 2, ?_⟩
    refine ⟨fun (s5 : Sl) (x10 x11 : Int) w23 => Own 114 2 eP w1.heap.size w23 s5 ((Ba ++ r.p.atoms).map szF) ∧ (Bs x10 fun k => ∃ f ∈ r.p.atoms, IsV f k) ∧ (Bs x11 fun k => ∃ c ∈ r.p.body, c.neg = false ∧ IsV c.a k) ∧ (∀ b ∈ r.body, FitsF b.a.p) ∧ Ext w1 w23, ?_, ?_⟩
    · rintro s5 x10 x11 w23 ⟨ho23, h10, h11, hfit, x23⟩
      have hsafe := safe_bits h10 h11
      refine cond_intro (fun g => no x23 fun hv => ?_) (fun g => ?_)
      · have g : x10 ≠ x11 := by simpa using g
        exact g (hsafe.2 (hv.ru _ hrp).2.1)
      · have g : x10 = x11 := by simpa using g
        refine hK _ _ ⟨?_, hruS.2 ⟨hru, by simpa [DR.p] using hb3, hsafe.1 g, fun a ha' => ?_⟩, x23⟩
        · rw [htk]; exact ho23
        · rw [hatoms] at ha'
          rcases List.mem_cons.1 ha' with rfl | ha'
          · exact hfh
          · obtain ⟨b, hbm, rfl⟩ := List.mem_map.1 ha'; exact hfit b hbm
    refine LoopV.intro (fun n (s5 : Sl) (x10 x11 x78 : Int) w24 => ∃ j : Nat, x78 = j ∧ n = r.body.length - j ∧ j ≤ r.body.length ∧ Own 114 2 eP w1.heap.size w24 s5 ((Ba ++ (r.head.p :: (r.body.take j).map (fun b => b.a.p))).map szF) ∧ (Bs x10 fun k => ∃ f ∈ r.head.p :: (r.body.take j).map (fun b => b.a.p), IsV f k) ∧ (Bs x11 fun k => ∃ c ∈ (r.body.take j).map DL.p, c.neg = false ∧ IsV c.a k) ∧ (∀ b ∈ r.body.take j, FitsF b.a.p) ∧ Ext w1 w24) r.body.length
      ⟨0, rfl, rfl, by omega, ?_, hm74.congr fun k => by simp, Bs.zero.congr fun k => by simp, by simp, x022⟩ ?_
    · have := ho21.ext x22
      rw [List.map_append]; exact this
    rintro n s5 x10 x11 x78 w24 ⟨j, rfl, rfl, hj, ho24, h10, h11, hfit, x24⟩
    refine cond_intro (fun g => ?_) (fun g => ?_)
    rotate_left
    · have hjl : j = r.body.length := by simp [hbn] at g; omega
      subst hjl
      rw [List.take_length] at ho24 h10 h11 hfit
      rw [← hatoms] at ho24 h10
      exact ⟨ho24, h10, by simpa [DR.p] using h11, hfit, x24⟩
    have hj : j < r.body.length := by simp [hbn] at g; omega
    have hbm := List.getElem_mem hj
    refine Join.dir (loadLT (hro.ext x24).bd hj zc96 fun w27 b27 x27 => ?_)
    have x027 := x24.trans x27
    have hint := hro.bd.ok _ hbm
    have hbl := haa (r.body[j]).a (by simp [DR.atoms]; exact .inr ⟨_, hbm, rfl⟩)
    have htj : (r.body.take (j + 1)).map (fun b => b.a.p) = (r.body.take j).map (fun b => b.a.p) ++ [(r.body[j]).a.p] := by rw [List.take_succ_eq_append_getElem hj, List.map_append]; rfl
    have htj2 : (r.body.take (j + 1)).map DL.p = (r.body.take j).map DL.p ++ [(r.body[j]).p] := by rw [List.take_succ_eq_append_getElem hj, List.map_append]; rfl
    have htj3 : ∀ b, b ∈ r.body.take (j + 1) ↔ b ∈ r.body.take j ∨ b = r.body[j] := fun b => by rw [List.take_succ_eq_append_getElem hj, List.mem_append, List.mem_singleton]
    have hbin : (r.body[j]).a.p ∈ r.p.atoms := by rw [hatoms]; exact List.mem_cons_of_mem _ (List.mem_map.2 ⟨_, hbm, rfl⟩)
    generalize r.body[j] = b at b27 hint hbl htj htj2 htj3 hbin
    refine ⟨_, _, rdAtom b27, (c62 (hint.ext x027) hbl).mono fun e w28 ⟨c, he, hc, x28⟩ => ⟨c, he, cond_intro (fun g => ?_) (fun g => ?_)⟩⟩
    · have g : c = false := by simpa using g
      refine no (x027.trans x28) fun hv => ?_
      rw [hc.2 ((hv.ru _ hrp).2.2 _ hbin)] at g; cases g
    have g : c = true := by simpa using g
    have hfb := hc.1 g
    have b28 := b27.ext x28
    have x028 := x027.trans x28
    have ho28 := (ho24.ext x27).ext x28
    have hbsl := hint.len
    refine ⟨_, b28.cell 1, _, b28.cell 2, ?_⟩
    have hlen : ((Ba ++ (r.head.p :: (r.body.take j).map (fun b => b.a.p))).map szF).length ≤ 1000000 := by simp; omega
    obtain ⟨q3, w29, hb29, q4, w30, hr30, ho30, hf30⟩ := appP ho28 (b.a.rel, ((b.a.sl.n : Nat) : Int)) hlen x028.size
    refine ⟨q3, w29, hb29, q4, w30, hr30, ?_⟩
    have x030 : Ext w1 w30 := x028.newer hf30 fun y ⟨a, ha', e⟩ => by have := (ho28.base ha').1; omega
    have b30 := b28.fr hf30 (hnb ho28 b28 (by decide))
    rw [hbsl] at ho30
    have ho30' : Own 114 2 eP w1.heap.size w30 q4 ((Ba ++ (r.head.p :: (r.body.take (j + 1)).map (fun b => b.a.p))).map szF) := by
      rw [htj, ← List.cons_append, ← List.append_assoc, List.map_append]; exact ho30
    refine ⟨_, _, rdAtom b30, (c63 (hint.ext x030) hfb).mono fun e w31 ⟨m100, he, hm100, x31⟩ => ⟨m100, he, ?_⟩⟩
    have b31 := b30.ext x31
    have x031 := x030.trans x31
    have h10' : Bs (bitsI .or .i64 x10 m100) fun k => ∃ f ∈ r.head.p :: (r.body.take (j + 1)).map (fun b => b.a.p), IsV f k := (h10.or hm100).congr fun k => by
      rw [htj]
      simp only [List.mem_cons, List.mem_append, List.not_mem_nil, or_false]
      constructor
      · rintro (⟨f, hf', h⟩ | h)
        · exact ⟨f, by rcases hf' with h' | h'; exact .inl h'; exact .inr (.inl h'), h⟩
        · exact ⟨_, .inr (.inr rfl), h⟩
      · rintro ⟨f, hf' | hf' | rfl, h⟩
        · exact .inl ⟨f, .inl hf', h⟩
        · exact .inl ⟨f, .inr hf', h⟩
        · exact .inr h
    refine ⟨_, b31.cell 0, ?_⟩
    refine ⟨fun (x11' : Int) w32 => (Bs x11' fun k => ∃ c ∈ (r.body.take (j + 1)).map DL.p, c.neg = false ∧ IsV c.a k) ∧ Ext w31 w32, ?_, ?_⟩
    · rintro x11' w32 ⟨h11', x32⟩
      exact ⟨r.body.length - (j + 1), by omega, j + 1, by rw [wrap64 (by omega) (by omega)]; rfl, rfl, by omega, (ho30'.ext x31).ext x32, h10', h11', fun b' hb' => by
        rcases (htj3 b').1 hb' with h | rfl
        · exact hfit b' h
        · exact hfb, x031.trans x32⟩
    · refine cond_intro (fun g3 => ?_) (fun g3 => ?_)
      · have g3 : b.neg = false := by simpa using g3
        refine ⟨_, _, rdAtom b31, (c63 (hint.ext x031) hfb).mono fun e w33 ⟨m108, he, hm108, x33⟩ => ⟨m108, he, (h11.or hm108).congr fun k => ?_, x33⟩⟩
        rw [htj2]
        simp only [List.mem_append, List.mem_singleton]
        constructor
        · rintro (⟨c', hc', h⟩ | h)
          · exact ⟨c', .inl hc', h⟩
          · exact ⟨_, .inr rfl, g3, h⟩
        · rintro ⟨c', hc' | rfl, h⟩
          · exact .inl ⟨c', hc', h⟩
          · exact .inr h.2
      · have g3 : b.neg = true := by simpa using g3
        refine ⟨h11.congr fun k => ?_, Fr.refl _ _⟩
        rw [htj2]
        simp only [List.mem_append, List.mem_singleton]
        constructor
        · rintro ⟨c', hc', h⟩; exact ⟨c', .inl hc', h⟩
        · rintro ⟨c', hc' | rfl, h⟩
          · exact ⟨c', hc', h⟩
          · have : b.neg = false := h.1
            rw [g3] at this; cases this
end Go.Proofs.Ytoljknamnkkgcaa
