/-
  Contracts: an atom under values of its variables; values that fit an atom to a fact. Rules in memory.
-/
import Derived.Test.YtoljknamnkkgcaaCd
namespace Go.Proofs.Ytoljknamnkkgcaa
open Go Go.VC
set_option maxHeartbeats 1000000
set_option maxRecDepth 100000

/-! ### rules in memory -/
structure DL where
  neg : Bool
  a : DF
instance : Inhabited DL := ⟨⟨false, default⟩⟩
def eL (x : DL) : List Value := [.bool x.neg, .int .i64 x.a.rel, .slice x.a.sl.a x.a.sl.n x.a.sl.c]
theorem eL_len (x : DL) : (eL x).length = 3 := rfl
theorem eL_one (x : DL) : ∀ v ∈ eL x, v.oneCell' = true := by intro v hv; simp [eL] at hv; rcases hv with rfl | rfl | rfl <;> rfl
structure DR where
  head : DF
  bs : Sl
  body : List DL
instance : Inhabited DR := ⟨⟨default, ⟨none, 0, 0⟩, []⟩⟩
def eR (x : DR) : List Value := [.int .i64 x.head.rel, .slice x.head.sl.a x.head.sl.n x.head.sl.c, .slice x.bs.a x.bs.n x.bs.c]
theorem eR_len (x : DR) : (eR x).length = 3 := rfl
theorem eR_one (x : DR) : ∀ v ∈ eR x, v.oneCell' = true := by intro v hv; simp [eR] at hv; rcases hv with rfl | rfl | rfl <;> rfl
structure Li where
  neg : Bool
  a : Fa
deriving DecidableEq
instance : Inhabited Li := ⟨⟨false, default⟩⟩
structure Ru where
  head : Fa
  body : List Li
deriving DecidableEq
instance : Inhabited Ru := ⟨⟨default, []⟩⟩
def DL.p (x : DL) : Li := ⟨x.neg, x.a.p⟩
def DR.p (x : DR) : Ru := ⟨x.head.p, x.body.map DL.p⟩
structure NL (w : World) (s : Sl) (l : List DL) : Prop where
  sl : Sli 3 eL w s l
  ok : ∀ x ∈ l, Ints w x.a.sl x.a.args
structure RulOk (w : World) (r : DR) : Prop where
  hd : Ints w r.head.sl r.head.args
  bd : NL w r.bs r.body
structure NR (w : World) (s : Sl) (l : List DR) : Prop where
  sl : Sli 3 eR w s l
  ok : ∀ x ∈ l, RulOk w x
theorem NL.ext {w w' : World} {s : Sl} {l : List DL} (h : NL w s l) (x : Ext w w') : NL w' s l := ⟨h.sl.ext x, fun y hy => (h.ok y hy).ext x⟩
theorem RulOk.ext {w w' : World} {r : DR} (h : RulOk w r) (x : Ext w w') : RulOk w' r := ⟨h.hd.ext x, h.bd.ext x⟩
theorem NR.ext {w w' : World} {s : Sl} {l : List DR} (h : NR w s l) (x : Ext w w') : NR w' s l := ⟨h.sl.ext x, fun y hy => (h.ok y hy).ext x⟩
theorem NR.len {w : World} {s : Sl} {l : List DR} (h : NR w s l) : s.n = l.length := h.sl.len
theorem NL.len {w : World} {s : Sl} {l : List DL} (h : NL w s l) : s.n = l.length := h.sl.len
theorem zc54 : (zc Try.prog 54).size = 3 := by kernel_rfl
theorem zc52 : (zc Try.prog 52).size = 3 := by kernel_rfl
theorem loadL {w : World} {s : Sl} {l : List DL} (hs : NL w s l) {i : Nat} (hi : i < l.length) {B : World → Prop}
    (hB : ∀ w5, Blk w5 w.heap.size (eL l[i]) 54 → Ext w w5 → B w5) :
    ∃ p : Pt, s.a = some ⟨p.b, p.o, none⟩ ∧ 0 ≤ (i : Int) ∧ (i : Int) < ((s.n : Nat) : Int) ∧ ∃ a : Bool, ∃ b : Int, ∃ c : Sl, rd w p.b (p.o + Int.toNat (i : Int) * 3) [.bool a, .int .i64 b, .slice c.a c.n c.c] ∧
      Let (w.alloc (.cells (zc Try.prog 54) 54)) fun w4 => StoreOk w4 w.heap.size 0 [.bool a, .int .i64 b, .slice c.a c.n c.c] 3 ∧ Let (put w4 w.heap.size 0 [.bool a, .int .i64 b, .slice c.a c.n c.c]) fun w5 => B w5 := by
  obtain ⟨p, hp, h2, h3, hr⟩ := Sli.at eL_len hs.sl hi
  obtain ⟨a, b, c⟩ := new_var w 54 (z := zc Try.prog 54) (vs := eL l[i]) (by rw [zc54, eL_len]) (eL_one _)
  exact ⟨p, hp, h2, h3, _, _, _, hr, a, hB _ b c⟩
theorem loadR {w : World} {s : Sl} {l : List DR} (hs : NR w s l) {i : Nat} (hi : i < l.length) {B : World → Prop}
    (hB : ∀ w5, Blk w5 w.heap.size (eR l[i]) 52 → Ext w w5 → B w5) :
    ∃ p : Pt, s.a = some ⟨p.b, p.o, none⟩ ∧ 0 ≤ (i : Int) ∧ (i : Int) < ((s.n : Nat) : Int) ∧ ∃ a : Int, ∃ b : Sl, ∃ c : Sl, rd w p.b (p.o + Int.toNat (i : Int) * 3) [.int .i64 a, .slice b.a b.n b.c, .slice c.a c.n c.c] ∧
      Let (w.alloc (.cells (zc Try.prog 52) 52)) fun w4 => StoreOk w4 w.heap.size 0 [.int .i64 a, .slice b.a b.n b.c, .slice c.a c.n c.c] 3 ∧ Let (put w4 w.heap.size 0 [.int .i64 a, .slice b.a b.n b.c, .slice c.a c.n c.c]) fun w5 => B w5 := by
  obtain ⟨p, hp, h2, h3, hr⟩ := Sli.at eR_len hs.sl hi
  obtain ⟨a, b, c⟩ := new_var w 52 (z := zc Try.prog 52) (vs := eR l[i]) (by rw [zc52, eR_len]) (eR_one _)
  exact ⟨p, hp, h2, h3, _, _, _, hr, a, hB _ b c⟩

/-! ### an atom under values -/
/-- An atom of rules, as far as running goes. -/
def AtOk (f : Fa) : Prop := f.args.length ≤ 2 ∧ ∀ x ∈ f.args, -6 ≤ x ∧ x ≤ 7
def gV (v : List Int) (x : Int) : Int := if x < 0 then -x else v.getD x.toNat 0
def gA (v l : List Int) (i : Nat) : Int := match l[i]? with | none => 0 | some x => gV v x
def gnd (f : Fa) (v : List Int) : Ky := ⟨f.rel, gA v f.args 0, gA v f.args 1⟩
theorem zc114 : (zc Try.prog 114).toList = vI [0, 0] := by kernel_rfl
theorem zc178 : (zc Try.prog 178).toList = vI [0, 0, 0, 0, 0, 0, 0, 0] := by kernel_rfl
theorem c115 {w : World} {v : List Int} {x : DF} (hv : v.length = 8) (hx : Ints w x.sl x.args) (ho : AtOk x.p) :
    Calls Try.prog 115 [.agg (vI v).toArray, .agg [.int .i64 x.rel, .slice x.sl.a x.sl.n x.sl.c].toArray].toArray w fun e w' => e = .returned (.agg [.int .i64 (gnd x.p v).rel, .int .i64 (gnd x.p v).a, .int .i64 (gnd x.p v).b].toArray) ∧ Ext w w' := by
  refine (call115 (vI v) x.rel x.sl (R := fun u w' => u = (.agg [.int .i64 (gnd x.p v).rel, .int .i64 (gnd x.p v).a, .int .i64 (gnd x.p v).b].toArray) ∧ Ext w w') ?_).mono fun e w' ⟨v, he, hv, hx⟩ => ⟨by rw [he, hv], hx⟩
  have hn := hx.len
  have hl2 : x.args.length ≤ 2 := ho.1
  refine Let.intro fun w1 e1 => ?_
  have b1 : Blk w1 w.heap.size (vI v) 178 := by rw [e1]; exact Blk.alloc w _ 178
  have x1 : Ext w w1 := by rw [e1]; exact Ext.alloc ..
  obtain ⟨b2, x2⟩ := eF_cells w1 x 48
  refine Let.intro fun w2 e2 => ?_
  have e2 : w2 = w1.alloc (.cells (eF x).toArray 48) := e2
  rw [← e2] at b2 x2
  obtain ⟨b3, x3⟩ := zc121b w2
  refine Let.intro fun w3 e3 => ?_
  rw [← e3] at b3 x3
  refine Let.intro fun w4 e4 => ?_
  have b4 : Blk w4 w3.heap.size (vI [0, 0]) 114 := by rw [e4, ← zc114]; simpa using Blk.alloc w3 (zc Try.prog 114).toList 114
  have x4 : Ext w3 w4 := by rw [e4]; exact Ext.alloc ..
  have l1 := b1.lt
  have l2 := b2.lt
  have l3 := b3.lt
  have z2 := x2.size
  have z3 := x3.size
  have b1 := ((b1.ext x2).ext x3).ext x4
  have b2 := (b2.ext x3).ext x4
  have b3 := b3.ext x4
  have x04 := ((x1.trans x2).trans x3).trans x4
  refine ⟨x.sl, b2.cell 1, ?_⟩
  refine ⟨fun w5 => Blk w5 w3.heap.size (vI [gA v x.args 0, gA v x.args 1]) 114 ∧ Fr (fun y => y = w3.heap.size) w4 w5, ?_, ?_⟩
  · rintro w5 ⟨c4, f5⟩
    have c2 := b2.fr f5 (by omega)
    have c3 := b3.fr f5 (by omega)
    obtain ⟨s1, s2, s3⟩ := blk_all c3 (vs := eK (gnd x.p v)) rfl (eK_one _)
    refine ⟨x.rel, c2.cell 0, by decide, by decide, _, c4.cell 0, by decide, by decide, _, c4.cell 1, s1, Let.intro fun w6 e6 => ?_⟩
    have e6 : w6 = put w5 w2.heap.size 0 (eK (gnd x.p v)) := e6
    rw [← e6] at s2 s3
    refine ⟨_, _, _, s2.rd, rfl, (x04.newer f5 fun y (hy : y = w3.heap.size) => by have := x1.size; omega).newer s3 fun y (hy : y = w2.heap.size) => by have := x1.size; omega⟩
  · refine rangeI (fun i w5 => Blk w5 w3.heap.size (vI [gA v (x.args.take i) 0, gA v (x.args.take i) 1]) 114 ∧ Fr (fun y => y = w3.heap.size) w4 w5) (by rw [hn]; show x.args.length ≤ 9223372036854775807; omega) ⟨by simpa [gA] using b4, Fr.refl _ _⟩ ?_ ?_
    · rintro i hi w7 ⟨c4, f7⟩ K hK
      have hi : i < x.args.length := by omega
      have c1 := b1.fr f7 (by omega)
      have x07 : Ext w w7 := x04.newer f7 fun y (hy : y = w3.heap.size) => by have := x1.size; omega
      obtain ⟨p, hp, a1, a2, hr⟩ := Ints.at (hx.ext x07) hi
      have hb := ho.2 _ (List.getElem_mem hi)
      refine ⟨p, hp, a1, a2, _, hr, ?_⟩
      have hstep : ([gA v (x.args.take i) 0, gA v (x.args.take i) 1] : List Int).set i (gV v x.args[i]) = [gA v (x.args.take (i + 1)) 0, gA v (x.args.take (i + 1)) 1] := by
        have h0 : i = 0 ∨ i = 1 := by omega
        rcases h0 with rfl | rfl
        · simp [gA, List.getElem?_take, hi]
        · have h1 : 0 < x.args.length := by omega
          simp [gA, List.getElem?_take, hi, h1]
      refine Join.dir (cond_intro (fun g => ?_) (fun g => ?_))
      · have g : x.args[i] < 0 := by simpa using g
        have hb : -6 ≤ x.args[i] := hb.1
        have ew : IntKind.wrap .i64 (0 - x.args[i]) = gV v x.args[i] := by rw [wrap64 (by omega) (by omega)]; simp [gV, g]
        rw [ew]
        obtain ⟨s1, s2, s3⟩ := blkPut c4 (i := i) (by simp; omega) (o := 0 + Int.toNat (i : Int) * 1) (by omega) (gV v x.args[i])
        refine ⟨by omega, by omega, s1, Let.intro fun w10 e10 => ?_⟩
        rw [← e10] at s2 s3
        rw [hstep] at s2
        exact hK _ ⟨s2, f7.trans s3 fun _ _ h => h⟩
      · have g : ¬ x.args[i] < 0 := by simpa using g
        have hb : x.args[i] ≤ 7 := hb.2
        have hcell := blkAt c1 (i := (x.args[i]).toNat) (by omega) (o := 0 + Int.toNat x.args[i] * 1) (by omega)
        have ew : v.getD (x.args[i]).toNat 0 = gV v x.args[i] := by rw [gV, if_neg g]
        rw [ew] at hcell
        obtain ⟨s1, s2, s3⟩ := blkPut c4 (i := i) (by simp; omega) (o := 0 + Int.toNat (i : Int) * 1) (by omega) (gV v x.args[i])
        refine ⟨by omega, by omega, _, hcell, by omega, by omega, s1, Let.intro fun w10 e10 => ?_⟩
        rw [← e10] at s2 s3
        rw [hstep] at s2
        exact hK _ ⟨s2, f7.trans s3 fun _ _ h => h⟩
    · rintro w5 ⟨c4, f5⟩
      rw [hn, List.take_length] at c4
      exact ⟨c4, f5⟩
/-! ### values that fit -/
def fitA : List Int → List Int → List Int → Option (List Int)
  | v, [], _ => some v
  | _, _ :: _, [] => none
  | v, x :: r, n :: ns => if (x < 0 ∧ -x ≠ n) ∨ (0 ≤ x ∧ v.getD x.toNat 0 ≠ 0 ∧ v.getD x.toNat 0 ≠ n) then none else fitA (if 0 ≤ x then v.set x.toNat n else v) r ns
def fitK (v : List Int) (a : Fa) (k : Ky) (v' : List Int) : Prop := a.rel = k.rel ∧ fitA v a.args [k.a, k.b] = some v'
theorem fitA_len : ∀ {v l m v' : List Int}, fitA v l m = some v' → v'.length = v.length
  | _, [], _, _, h => by simp [fitA] at h; rw [h]
  | _, _ :: _, [], _, h => by simp [fitA] at h
  | v, x :: r, n :: ns, v', h => by
    rw [fitA] at h
    split at h
    · cases h
    · have := fitA_len h
      rw [this]; split <;> simp
theorem c128 {w : World} {v : List Int} {x : DF} {k : Ky} (hv : v.length = 8) (hx : Ints w x.sl x.args) (ho : AtOk x.p) :
    Calls Try.prog 128 [.agg (vI v).toArray, .agg [.int .i64 x.rel, .slice x.sl.a x.sl.n x.sl.c].toArray, .agg [.int .i64 k.rel, .int .i64 k.a, .int .i64 k.b].toArray].toArray w fun e w' => ∃ (v' : List Int) (b : Bool), e = .returned (.tuple [.agg (vI v').toArray, .bool b].toArray) ∧ v'.length = 8 ∧ (b = true → fitK v x.p k v') ∧ (b = false → ∀ u, ¬ fitK v x.p k u) ∧ Ext w w' := by
  refine (call128 (vI v) x.rel x.sl k.rel k.a k.b (R := fun u w' => ∃ (v' : List Int) (b : Bool), u = (.tuple [.agg (vI v').toArray, .bool b].toArray) ∧ v'.length = 8 ∧ (b = true → fitK v x.p k v') ∧ (b = false → ∀ u, ¬ fitK v x.p k u) ∧ Ext w w') ?_).mono fun e w' ⟨u, he, v', b, hv, hx⟩ => ⟨v', b, by rw [he, hv], hx⟩
  have hn := hx.len
  have hl2 : x.args.length ≤ 2 := ho.1
  refine Let.intro fun w1 e1 => ?_
  have b1 : Blk w1 w.heap.size (vI v) 178 := by rw [e1]; exact Blk.alloc w _ 178
  have x1 : Ext w w1 := by rw [e1]; exact Ext.alloc ..
  obtain ⟨b2, x2⟩ := eF_cells w1 x 48
  refine Let.intro fun w2 e2 => ?_
  have e2 : w2 = w1.alloc (.cells (eF x).toArray 48) := e2
  rw [← e2] at b2 x2
  refine Let.intro fun w3 e3 => ?_
  have b3 : Blk w3 w2.heap.size (eK k) 121 := by rw [e3]; exact Blk.alloc w2 (eK k) 121
  have x3 : Ext w2 w3 := by rw [e3]; exact Ext.alloc ..
  refine Let.intro fun w4 e4 => ?_
  have b4 : Blk w4 w3.heap.size (vI [0, 0, 0, 0, 0, 0, 0, 0]) 178 := by rw [e4, ← zc178]; simpa using Blk.alloc w3 (zc Try.prog 178).toList 178
  have x4 : Ext w3 w4 := by rw [e4]; exact Ext.alloc ..
  have l1 := b1.lt
  have l2 := b2.lt
  have l3 := b3.lt
  have l4 := b4.lt
  have z1 := x1.size
  have z2 := x2.size
  have z3 := x3.size
  have b1 := ((b1.ext x2).ext x3).ext x4
  have b2 := (b2.ext x3).ext x4
  have b3 := b3.ext x4
  have x04 := ((x1.trans x2).trans x3).trans x4
  have hx4 := hx.ext x04
  refine ⟨x.sl, b2.cell 1, ?_⟩
  have f4 : Fr (fun y => y = w.heap.size) w4 w4 := Fr.refl _ _
  refine ⟨fun w5 => ∃ v' : List Int, v'.length = 8 ∧ fitA v x.args [k.a, k.b] = some v' ∧ Blk w5 w.heap.size (vI v') 178 ∧ Fr (fun y => y = w.heap.size) w4 w5, ?_, ?_⟩
  · rintro w5 ⟨v', hv', hfit, c1, f5⟩
    have c2 := b2.fr f5 (by omega)
    have c3 := b3.fr f5 (by omega)
    have c4 := b4.fr f5 (by omega)
    have x5 : Ext w w5 := x04.newer f5 fun y (hy : y = w.heap.size) => by omega
    refine ⟨fun u => Fr (fun y => y = w3.heap.size) w5 u, Fr.mono (Ext.drew _) fun _ _ h => h.elim, Let.intro fun w6 e6 => ?_⟩
    have x6 : Ext w5 w6 := by rw [e6]; exact Ext.drew _
    obtain ⟨s1, s2, s3⟩ := blk_all (c4.ext x6) (vs := vI v') (by simp [vI, hv']) (vI_one _)
    rw [vI_len, hv'] at s1
    refine ⟨vI v', by rw [vI_len, hv'], fun u hu => (c1.fr hu (by omega)).rd, x.rel, fun u hu => (c2.fr hu (by omega)).cell 0, k.rel, fun u hu => (c3.fr hu (by omega)).cell 0, s1, Let.intro fun w7 e7 => ?_⟩
    rw [← e7] at s2 s3
    refine ⟨x6.fr s3, vI v', by rw [vI_len, hv'], s2.rd, v', _, rfl, hv', fun hb => ?_, fun hb u hu => ?_, (x5.trans x6).newer s3 fun y (hy : y = w3.heap.size) => by omega⟩
    · exact ⟨(by simpa using hb : x.rel = k.rel), hfit⟩
    · have hb : x.rel ≠ k.rel := by simpa using hb
      exact hb hu.1
  · have hkl : ∀ i : Nat, i < 2 → ([k.a, k.b] : List Int)[i]? = some (([k.a, k.b] : List Int).getD i 0) := fun i hi => by
      have h0 : i = 0 ∨ i = 1 := by omega
      rcases h0 with rfl | rfl <;> rfl
    refine rangeI (fun i w5 => ∃ v' : List Int, v'.length = 8 ∧ fitA v x.args [k.a, k.b] = fitA v' (x.args.drop i) (([k.a, k.b] : List Int).drop i) ∧ Blk w5 w.heap.size (vI v') 178 ∧ Fr (fun y => y = w.heap.size) w4 w5) (by rw [hn]; show x.args.length ≤ 9223372036854775807; omega) ⟨v, hv, rfl, b1, f4⟩ ?_ ?_
    · rintro i hi w8 ⟨v', hv', hfit, c1, f8⟩ K hK
      have hi : i < x.args.length := by omega
      have c2 := b2.fr f8 (by omega)
      have c3 := b3.fr f8 (by omega)
      have c4 := b4.fr f8 (by omega)
      have x8 : Ext w w8 := x04.newer f8 fun y (hy : y = w.heap.size) => by omega
      obtain ⟨p, hp, a1, a2, hr⟩ := Ints.at (hx.ext x8) hi
      have hb := ho.2 _ (List.getElem_mem hi)
      have hd : x.args.drop i = x.args[i] :: x.args.drop (i + 1) := List.drop_eq_getElem_cons hi
      have hd2 : ([k.a, k.b] : List Int).drop i = ([k.a, k.b] : List Int).getD i 0 :: ([k.a, k.b] : List Int).drop (i + 1) := by
        have h0 : i = 0 ∨ i = 1 := by omega
        rcases h0 with rfl | rfl <;> rfl
      generalize hN : ([k.a, k.b] : List Int).getD i 0 = n at hd2
      have hcell : ([.int .i64 k.a, .int .i64 k.b] : List Value)[Int.toNat (i : Int)]? = some (.int .i64 n) := by
        rw [← hN]
        have h0 : i = 0 ∨ i = 1 := by omega
        rcases h0 with rfl | rfl <;> rfl
      generalize hX : x.args[i] = y at hr hd hb
      have hb1 : -6 ≤ y := hb.1
      have hb2 : y ≤ 7 := hb.2
      rw [hd, hd2, fitA] at hfit
      refine ⟨p, hp, a1, a2, y, hr, k.a, c3.cell 1, k.b, c3.cell 2, by omega, by omega, n, hcell, ?_⟩
      have hneg : IntKind.wrap .i64 (0 - y) = -y := by rw [wrap64 (by omega) (by omega)]; omega
      rw [hneg]
      refine Join.dir ?_
      refine ⟨fun (b26 : Bool) w11 => (b26 = true ↔ (y < 0 ∧ -y ≠ n) ∨ (0 ≤ y ∧ v'.getD y.toNat 0 ≠ 0 ∧ v'.getD y.toNat 0 ≠ n)) ∧ w11 = w8, ?_, ?_⟩
      · rintro b26 w11 ⟨hb26, rfl⟩
        refine cond_intro (fun g => ?_) (fun g => ?_)
        · rw [if_pos (hb26.1 g)] at hfit
          obtain ⟨s1, s2, s3⟩ := blk_all c4 (vs := vI v') (by simp [vI, hv']) (vI_one _)
          rw [vI_len, hv'] at s1
          refine ⟨vI v', by rw [vI_len, hv'], c1.rd, s1, Let.intro fun w12 e12 => ?_⟩
          rw [← e12] at s2 s3
          refine ⟨vI v', by rw [vI_len, hv'], s2.rd, v', false, rfl, hv', (fun h => by cases h), fun _ u hu => ?_, x8.newer s3 fun y (hy : y = w3.heap.size) => by omega⟩
          have := hu.2
          have hfit' : fitA v x.p.args [k.a, k.b] = none := hfit
          rw [hfit'] at this; cases this
        · rw [if_neg (fun h => by rw [hb26.2 h] at g; cases g)] at hfit
          refine Join.dir (cond_intro (fun g2 => ?_) (fun g2 => ?_))
          · have g2 : 0 ≤ y := by simpa using g2
            rw [if_pos g2] at hfit
            obtain ⟨s1, s2, s3⟩ := blkPut c1 (i := y.toNat) (by omega) (o := 0 + Int.toNat y * 1) (by omega) n
            refine ⟨g2, by omega, s1, Let.intro fun w14 e14 => ?_⟩
            rw [← e14] at s2 s3
            exact hK _ ⟨_, by simp [hv'], hfit, s2, f8.trans s3 fun _ _ h => h⟩
          · have g2 : ¬ 0 ≤ y := by simpa using g2
            rw [if_neg g2] at hfit
            exact hK _ ⟨_, hv', hfit, c1, f8⟩
      · have hget : 0 ≤ y → World.cell? w8 ⟨w.heap.size, 0 + Int.toNat y * 1, none⟩ = some (.int .i64 (v'.getD y.toNat 0)) := fun h => blkAt c1 (i := y.toNat) (by omega) (o := 0 + Int.toNat y * 1) (by omega)
        refine cond_intro (fun g1 => ?_) (fun g1 => ?_)
        · have g1 : y < 0 := by simpa using g1
          refine cond_intro (fun g2 => ⟨?_, rfl⟩) (fun g2 => ?_)
          · have g2 : -y ≠ n := by simpa using g2
            simp [g1, g2]
          · have g2 : -y = n := by simpa using g2
            refine cond_intro (fun g3 => by simp at g3; omega) (fun g3 => ⟨?_, rfl⟩)
            simp only [Bool.false_eq_true, false_iff]
            rintro (⟨_, h⟩ | ⟨h, _⟩)
            · exact h g2
            · omega
        · have g1 : ¬ y < 0 := by simpa using g1
          refine cond_intro (fun g2 => ?_) (fun g2 => by simp at g2; omega)
          refine ⟨by omega, by omega, _, hget (by omega), cond_intro (fun g3 => ⟨by omega, by omega, _, hget (by omega), ?_, rfl⟩) (fun g3 => ⟨?_, rfl⟩)⟩
          · have g3 : v'.getD y.toNat 0 ≠ 0 := by simpa using g3
            rw [bne_iff_ne]
            constructor
            · exact fun h => .inr ⟨by omega, g3, h⟩
            · rintro (⟨h, _⟩ | ⟨_, _, h⟩)
              · omega
              · exact h
          · have g3 : v'.getD y.toNat 0 = 0 := by simpa using g3
            simp only [Bool.false_eq_true, false_iff]
            rintro (⟨h, _⟩ | ⟨_, h, _⟩)
            · omega
            · exact h g3
    · rintro w5 ⟨v', hv', hfit, c1, f5⟩
      refine ⟨v', hv', ?_, c1, f5⟩
      rw [hn, List.drop_length] at hfit
      rw [hfit]; rfl
end Go.Proofs.Ytoljknamnkkgcaa
