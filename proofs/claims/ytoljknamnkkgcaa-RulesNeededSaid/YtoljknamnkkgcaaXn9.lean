/-
  Texts Fb, Dr of this proof, joined.
-/
import Derived.Test.YtoljknamnkkgcaaXn8
import Derived.Test.YtoljknamnkkgcaaRows
import Derived.ProofKit
import Derived.SizedLaws
import Derived.Deep.Slices
/-
  The plain law of what a Rel needs; contract: the law RulesNeeded.
-/
namespace Go.Proofs.Ytoljknamnkkgcaa
open Go Go.VC
set_option maxHeartbeats 1000000
set_option maxRecDepth 100000

theorem nd_half {l1 l2 : List Ru} {t : List Int} {G X1 X2 : Ky → Prop} {Nn : Int → Prop} (h12 : ∀ r ∈ l1, Nn r.head.rel → r ∈ l2 ∧ ∀ b ∈ r.body, Nn b.a.rel ∧ lv t b.a.rel + nI b ≤ lv t r.head.rel) (hX1 : ∀ k, X1 k ↔ Cl l1 G X1 k) (hX2 : ∀ k, X2 k ↔ Cl l2 G X2 k)
    {n : Int} (ih : ∀ k : Ky, Nn k.rel → lv t k.rel < n → X2 k → X1 k) : ∀ k : Ky, Nn k.rel → lv t k.rel ≤ n → X1 k → X2 k := fun k hN hk hx => by
  refine ((hX1 k).1 hx) (fun k => Nn k.rel → lv t k.rel ≤ n → X2 k) (fun k hg _ _ => (hX2 k).2 (Cl.base hg)) (fun r hr u h1 h2 hN hh => ?_) hN hk
  have hN : Nn r.head.rel := hN
  have hh : lv t r.head.rel ≤ n := hh
  obtain ⟨hr2, hb⟩ := h12 r hr hN
  refine (hX2 _).2 (Cl.closed l2 G X2 r hr2 u ?_ ?_)
  · refine En_monoR (fun b hbm hn k e hS => ?_) h1
    obtain ⟨h3, h4⟩ := hb b hbm
    rw [nI_zero hn] at h4
    exact (hX2 k).1 (hS (by rw [e]; exact h3) (by rw [e]; omega))
  · refine NegOk.antiR (fun b hbm hn k e hk => ?_) h2
    obtain ⟨h3, h4⟩ := hb b hbm
    rw [nI_pos hn] at h4
    exact ih k (by rw [e]; exact h3) (by rw [e]; omega) hk
/-- The rules that are needed give the same facts. -/
theorem nd_same {l l' : List Ru} {t : List Int} {G X X' : Ky → Prop} {Nn : Int → Prop} (ht : ∀ x ∈ t, 0 ≤ x) (hs : ∀ r ∈ l, ∀ b ∈ r.body, lv t b.a.rel + nI b ≤ lv t r.head.rel) (hsub : ∀ r ∈ l', r ∈ l) (hin : ∀ r ∈ l, Nn r.head.rel → r ∈ l') (hcl : ∀ r ∈ l, Nn r.head.rel → ∀ b ∈ r.body, Nn b.a.rel)
    (hX : ∀ k, X k ↔ Cl l G X k) (hX' : ∀ k, X' k ↔ Cl l' G X' k) : ∀ (n : Nat) (k : Ky), Nn k.rel → lv t k.rel < (n : Int) → (X k ↔ X' k)
  | 0, k, _, h => by have := lv_nn ht k.rel; omega
  | n + 1, k, hN, h => by
    have ih := nd_same ht hs hsub hin hcl hX hX' n
    have hk : lv t k.rel ≤ (n : Int) := by omega
    exact ⟨nd_half (fun r hr hN => ⟨hin r hr hN, fun b hb => ⟨hcl r hr hN b hb, hs r hr b hb⟩⟩) hX hX' (fun k hN h => (ih k hN h).2) k hN hk,
      nd_half (fun r hr hN => ⟨hsub r hr, fun b hb => ⟨hcl r (hsub r hr) hN b hb, hs r (hsub r hr) b hb⟩⟩) hX' hX (fun k hN h => (ih k hN h).1) k hN hk⟩
theorem nd_valid {l l' : List Ru} {fs : List Fa} (h : ValidP l fs) (hl : l'.length ≤ l.length) (hs : ∀ r ∈ l', r ∈ l) : ValidP l' fs := by
  refine ⟨Nat.le_trans hl h.nl, h.nf, h.gr, fun r hr => h.ru r (hs r hr), fun x hx y hy e => h.co x ?_ y ?_ e⟩
  · rcases List.mem_append.1 hx with hx | hx
    · exact List.mem_append_left _ hx
    · obtain ⟨r, hr, hx⟩ := List.mem_flatMap.1 hx
      exact List.mem_append_right _ (List.mem_flatMap.2 ⟨r, hs r hr, hx⟩)
  · rcases List.mem_append.1 hy with hy | hy
    · exact List.mem_append_left _ hy
    · obtain ⟨r, hr, hy⟩ := List.mem_flatMap.1 hy
      exact List.mem_append_right _ (List.mem_flatMap.2 ⟨r, hs r hr, hy⟩)
theorem IsL.ofRel {S : Ky → Prop} {L : List DF} (h : IsL S (L.map DF.p)) (rel : Int) : IsL (fun k => S k ∧ k.rel = rel) ((L.filter (ofRel rel)).map DF.p) := by
  have hsub : List.Sublist ((L.filter (Ytoljknamnkkgcaa.ofRel rel)).map DF.p) (L.map DF.p) := (List.filter_sublist).map _
  refine ⟨h.ord.sublist hsub, h.nd.sublist hsub, fun f => ?_⟩
  constructor
  · intro hf
    obtain ⟨x, hx, rfl⟩ := List.mem_map.1 hf
    obtain ⟨hx, hr⟩ := List.mem_filter.1 hx
    obtain ⟨k, hk, e⟩ := (h.mem x.p).1 (List.mem_map.2 ⟨x, hx, rfl⟩)
    refine ⟨k, ⟨hk, ?_⟩, e⟩
    have h1 : x.rel = rel := by unfold Ytoljknamnkkgcaa.ofRel at hr; simpa using hr
    have h2 : k.f.rel = x.rel := congrArg Fa.rel e
    rw [← h1, ← h2]; rfl
  · rintro ⟨k, ⟨hk, e⟩, rfl⟩
    obtain ⟨x, hx, e2⟩ := List.mem_map.1 ((h.mem k.f).2 ⟨k, hk, rfl⟩)
    refine List.mem_map.2 ⟨x, List.mem_filter.2 ⟨hx, ?_⟩, e2⟩
    have h2 : x.rel = k.rel := congrArg Fa.rel e2
    unfold Ytoljknamnkkgcaa.ofRel; rw [h2, e]; simp
theorem mod6 (x : Int) : 0 ≤ IntKind.wrap .i64 (Int.tmod (IntKind.wrap .u64 x) (6 : Int)) ∧ IntKind.wrap .i64 (Int.tmod (IntKind.wrap .u64 x) (6 : Int)) ≤ 5 := by
  have h : 0 ≤ IntKind.wrap .u64 x := by
    simp only [IntKind.wrap]
    exact Int.emod_nonneg _ (by decide)
  generalize IntKind.wrap .u64 x = y at h
  have h1 : Int.tmod y 6 = y % 6 := Int.tmod_eq_emod_of_nonneg h
  rw [h1, wrap64 (by omega) (by omega)]
  omega
theorem c11 {w : World} {s s' : Sl} {l : List DR} {fs : List DF} (hs : NR w s l) (hf : NF w s' fs) (hl : l.length ≤ big) (hb : ∀ r ∈ l, r.body.length ≤ big) (hfl : fs.length ≤ big) (_ha : ∀ r ∈ l, ∀ x ∈ r.atoms, x.args.length ≤ big) (_hfa : ∀ x ∈ fs, x.args.length ≤ big) (x2 : Int) :
    Calls Try.prog 11 [.slice s.a s.n s.c, .slice s'.a s'.n s'.c, .int .i64 x2].toArray w fun e w' => e = .returned (.bool true) ∧ Ext w w' := by
  refine (call11 s s' x2 (R := fun v w' => v = .bool true ∧ Ext w w') ?_).mono fun e w' ⟨v, he, hv, hx⟩ => ⟨by rw [he, hv], hx⟩
  refine Let.intro fun w1 e1 => ?_
  have b1 : Blk w1 w.heap.size [.int .i64 x2] 3 := by rw [e1]; exact Blk.alloc w [.int .i64 x2] 3
  have x1 : Ext w w1 := by rw [e1]; exact Ext.alloc ..
  obtain ⟨m0, m5⟩ := mod6 x2
  generalize hrel : IntKind.wrap .i64 (Int.tmod (IntKind.wrap .u64 x2) (6 : Int)) = rel at m0 m5
  obtain ⟨p1, p2, p3⟩ := blk_all b1 (vs := [.int .i64 rel]) rfl (by intro v hv; simp at hv; subst hv; rfl)
  refine ⟨x2, b1.cell 0, by decide, by rw [hrel]; exact p1, Let.intro fun w2 e2 => ?_⟩
  rw [hrel] at e2
  rw [← e2] at p2 p3
  have x2' : Ext w w2 := x1.newer p3 fun y (hy : y = w.heap.size) => by omega
  refine ⟨fun u => Ext w2 u, Ext.drew _, Let.intro fun w3 e3 => ?_⟩
  have x3 : Ext w2 w3 := by rw [e3]; exact Ext.drew _
  have x03 := x2'.trans x3
  refine ⟨rel, fun u hu => (p2.ext hu).cell 0, ?_⟩
  have lq := p2.lt
  refine (c17 (hs.ext x03) hl hb).mono fun e w4 ⟨s20, L, he, hL, hLp, x4⟩ => ⟨s20, he, x3.trans x4, ?_⟩
  obtain ⟨hL12, hLz⟩ := of_sz hLp
  have x04 := x03.trans x4
  refine (c37 (rel := rel) hL (by omega) hLz).mono fun e w5 ⟨s22, x22, N, he, hN, hcase1, x5⟩ => ⟨s22, x22, he, ?_⟩
  have x05 := x04.trans x5
  refine (c17 (hs.ext x05) hl hb).mono fun e w6 ⟨s27, L2, he, hL2, hLp2, x6⟩ => ⟨s27, he, ?_⟩
  obtain ⟨hL12', hLz'⟩ := of_sz hLp2
  have x06 := x05.trans x6
  refine (c18 (hf.ext x06) hfl).mono fun e w7 ⟨s29, F, he, hFo, hFt, hFp, x7⟩ => ⟨s29, he, ?_⟩
  have hF : NF w7 s29 F := ⟨hFo.sli, fun x hx => (hFt x hx).i⟩
  obtain ⟨hF26, hFz⟩ := facts_sz hFp
  have x07 := x06.trans x7
  refine (c16o (hL2.ext x7) hF (by omega) (by omega) hLz' (fun f hf => by have := hFz f hf; omega)).mono fun e w8 ⟨s30, x30, A, he, hA, hAn, hcase2, x8⟩ => ⟨s30, x30, he, ?_⟩
  have x08 := x07.trans x8
  refine (c18 (hf.ext x08) hfl).mono fun e w9 ⟨s36, F2, he, hFo2, hFt2, hFp2, x9⟩ => ⟨s36, he, ?_⟩
  have hF2 : NF w9 s36 F2 := ⟨hFo2.sli, fun x hx => (hFt2 x hx).i⟩
  obtain ⟨hF26', hFz'⟩ := facts_sz hFp2
  have x09 := x08.trans x9
  have eL2 : L2.map DR.p = L.map DR.p := by rw [hLp, hLp2]
  have eF2 : F2.map DF.p = F.map DF.p := by rw [hFp, hFp2]
  rw [eL2] at hcase2
  have hNz : N.length ≤ 12 ∧ ∀ r ∈ N, SzR r := by
    rcases hcase1 with ⟨_, _, rfl⟩ | ⟨⟨hv, _⟩, _, m, _, hNp⟩
    · exact ⟨by simp, by simp⟩
    · refine ⟨?_, fun r hr => ?_⟩
      · have h1 := congrArg List.length hNp
        have h2 : (ndR (L.map DR.p) m).length ≤ (L.map DR.p).length := List.length_filter_le _ _
        simp only [List.length_map] at h1 h2; omega
      · have hm : r.p ∈ ndR (L.map DR.p) m := by rw [← hNp]; exact List.mem_map.2 ⟨r, hr, rfl⟩
        have hp : RuleP r.p := hv.ru _ (List.mem_filter.1 hm).1
        refine ⟨by have := hp.1; simp [DR.p] at this; omega, fun x hx => ?_⟩
        have : FitsF x.p := hp.2.2 x.p (by
          simp only [DR.atoms, List.mem_cons, List.mem_map] at hx
          simp only [Ru.atoms, DR.p, List.mem_cons, List.mem_map]
          rcases hx with rfl | ⟨b, hb, rfl⟩
          · exact .inl rfl
          · exact .inr ⟨b.p, ⟨b, hb, rfl⟩, rfl⟩)
        have h2 : x.args.length ≤ 2 := this.2.2.2.1
        omega
  refine (c16o (hN.ext (((x6.trans x7).trans x8).trans x9)) hF2 (by omega) (by omega) hNz.2 (fun f hf => by have := hFz' f hf; omega)).mono fun e w10 ⟨s37, x37, B, he, hB, hBn, hcase3, x10⟩ => ⟨s37, x37, he, ?_⟩
  have x010 := x09.trans x10
  rw [eF2] at hcase3
  refine ⟨fun (b45 : Bool) w11 => (b45 = false ↔ (x22 = 0 ∧ x30 = 0)) ∧ w11 = w10, ?_, ?_⟩
  rotate_left
  · refine cond_intro (fun g => ?_) (fun g => ?_)
    · have g : ¬ x22 = 0 := by simpa using g
      exact ⟨⟨(fun h => by cases h), fun h => absurd h.1 g⟩, rfl⟩
    · have g : x22 = 0 := by simpa using g
      exact ⟨by simp [g], rfl⟩
  rintro b45 w11 ⟨hb45, rfl⟩
  refine cond_intro (fun g => ?_) (fun g => ?_)
  · subst g
    have hno : ¬ (x22 = 0 ∧ x30 = 0) := fun h => by have := hb45.2 h; cases this
    have haw := (c20 w11).mono (R' := fun e w' => ∃ b : Bool, e = .returned (.bool b) ∧ (Value.bool b = .bool true ∧ Ext w w')) fun e w6 ⟨he, x6⟩ => ⟨_, he, rfl, x010.trans x6⟩
    refine Join.dir (cond_intro (fun _ => haw) (fun g1 => cond_intro (fun _ => haw) (fun g2 => cond_intro (fun _ => haw) (fun g3 => ?_))))
    rcases hcase1 with ⟨_, h, _⟩ | ⟨_, h, _⟩
    · subst h; simp at g1
    rcases hcase2 with ⟨_, h2, _⟩ | ⟨_, _, h2, _⟩ | ⟨_, t, _, h2, _⟩
    · subst h2; simp at g2
    · subst h2; simp at g3
    · exact absurd ⟨h, h2⟩ hno
  obtain ⟨h22, h30⟩ := hb45.1 g
  rcases hcase1 with ⟨_, h, _⟩ | ⟨⟨hv0, _, _⟩, _, m, hm, hNp⟩
  · omega
  rcases hcase2 with ⟨_, h2, _⟩ | ⟨_, _, h2, _⟩ | ⟨hv, t, ht, _, hAl⟩
  · omega
  · omega
  rw [hNp] at hcase3
  have hR : RelOk (L.map DR.p) := RuleP.rel hv.ru
  have hv3 : ValidP (ndR (L.map DR.p) m) (F.map DF.p) := nd_valid hv (List.length_filter_le _ _) fun r hr => (List.mem_filter.1 hr).1
  have hR3 : RelOk (ndR (L.map DR.p) m) := RuleP.rel hv3.ru
  have hstr : ∃ t, IsStr (ndR (L.map DR.p) m) t := ⟨_, str_of_sol hR3 (f := lv t) ⟨lv_nn ht.nn, fun r hr b hb => ht.sol r (List.mem_filter.1 hr).1 b hb⟩ fun x => Int.le_trans (lv_le (by omega) (ht.le5 hR) x) (by omega)⟩
  rcases hcase3 with ⟨h, _⟩ | ⟨_, h, _⟩ | ⟨_, t', ht', h37, hBl⟩
  · exact absurd hv3 h
  · exact absurd hstr h
  refine ⟨fun (b67 : Bool) w16 => b67 = false ∧ w16 = w11, ?_, ?_⟩
  rotate_left
  · refine cond_intro (fun g => by simp [h37] at g) (fun _ => ⟨?_, rfl⟩)
    have h1 := hN.len
    have h2 := hs.len
    have h3 := congrArg List.length hNp
    have h4 : (ndR (L.map DR.p) m).length ≤ (L.map DR.p).length := List.length_filter_le _ _
    have h5 := congrArg List.length hLp
    simp only [List.length_map, ofR, List.length_take] at h3 h4 h5
    rw [decide_eq_false_iff_not]
    omega
  rintro b67 w16 ⟨rfl, rfl⟩
  refine cond_intro (fun h => by cases h) (fun _ => ?_)
  refine Join.dir ?_
  have hq16 : Blk w16 w.heap.size [.int .i64 rel] 3 := p2.ext ((((((((x3.trans x4).trans x5).trans x6).trans x7).trans x8).trans x9).trans x10))
  have hA16 := (hA.ext x9).ext x10
  refine (c43 hA16 hAn hq16).mono fun e w18 ⟨s71, he, hA18, ha71, f18⟩ => ⟨s71, he, ?_⟩
  have hnA : ∀ y, BlS s30 y → w7.heap.size ≤ y ∧ y < w8.heap.size := fun y ⟨a, ha, e⟩ => by have := hA.own.base ha; omega
  have hnB : ∀ y, BlS s37 y → w9.heap.size ≤ y := fun y ⟨a, ha, e⟩ => by have := (hB.own.base ha).1; omega
  have z9 := x9.size
  have t36 : ∀ {w' : World} {B' : Nat} {s' : Sl} {L' : List DF} {q : Nat} {cur : List Value}, OF B' w' s' L' → Blk w' q cur 3 → ¬ BlS s' q := fun h hq ⟨a, ha, e⟩ => by
    obtain ⟨cur', hc⟩ := h.own.blk ha
    rw [e] at hc
    exact Blk.ne_ty hq hc (by decide) rfl
  have hB18 : OF w9.heap.size w18 s37 B := ⟨hB.own.fr f18 fun a ha hy => by have := hnA _ hy; have := (hB.own.base ha).1; omega, fun x hx => (hB.ti x hx).fr f18 fun q cur hq => t36 hA16 hq⟩
  have hq18 : Blk w18 w.heap.size [.int .i64 rel] 3 := hq16.fr f18 (t36 hA16 hq16)
  refine (c43 hB18 hBn hq18).mono fun e w19 ⟨s74, he, hB19, _, f19⟩ => ⟨s74, he, ?_⟩
  have hA19 : NF w19 s71 (A.filter (ofRel rel)) := ⟨hA18.sl.fr f19 fun a ha hy => by
      rw [ha71] at ha
      have := hnB _ hy
      have := hnA _ ⟨a, ha, rfl⟩
      omega, fun x hx => (((hA16.ti x (List.mem_filter.1 hx).1).fr f18 fun q cur hq => t36 hA16 hq).fr f19 fun q cur hq => t36 hB18 hq).i⟩
  have hfl1 := List.length_filter_le (ofRel rel) A
  have hsm : ∀ y ∈ A.filter (ofRel rel), y.args.length ≤ big := fun y hy => by
    have := hAl.small y (List.mem_filter.1 hy).1
    show y.args.length ≤ 9223372036854775807; omega
  have x018 : Ext w w18 := x010.newer f18 fun y hy => by have := hnA y hy; have := x07.size; omega
  have x019 : Ext w w19 := x018.newer f19 fun y hy => by have := hnB y hy; have := x09.size; omega
  have heq : (A.filter (ofRel rel)).map DF.p = (B.filter (ofRel rel)).map DF.p := by
    refine (hAl.ofRel rel).uniq ((hBl.ofRel rel).congr fun k => ?_)
    refine and_congr_left fun e => ?_
    have hk : lv t k.rel < ((lv t k.rel).toNat + 1 : Nat) := by omega
    refine (nd_same (l := L.map DR.p) (l' := ndR (L.map DR.p) m) (Nn := fun r => m.testBit r.toNat = true) ht.nn ht.sol (fun r hr => (List.mem_filter.1 hr).1) (fun r hr hN => List.mem_filter.2 ⟨hr, hN⟩) hm.cl (Mdl_fix hR ht) (Mdl_fix hR3 ht') _ k ?_ hk).symm
    rw [e]; exact hm.base
  refine (c21 hA19 hB19 (by show (A.filter (ofRel rel)).length ≤ 9223372036854775807; omega) hsm).mono fun e w20 ⟨he, x20⟩ => ⟨_, he, ?_⟩
  refine cond_intro (fun _ => ?_) (fun h => by simp [heq] at h)
  exact (c20 w20).mono fun e w21 ⟨he, x21⟩ => ⟨_, he, rfl, (x019.trans x20).trans x21⟩
end Go.Proofs.Ytoljknamnkkgcaa
/-
  The frame of the rows: rules and facts as arguments.
-/
namespace Go.Proofs.Ytoljknamnkkgcaa
open Go Go.VC Go.ChangeShapes Go.WideShapes Go.RowKit
set_option maxRecDepth 100000

theorem own0 : ownKnob Try.prog.godebug = none := by kernel_rfl
theorem laid0 : laidOutB Try.prog = true := by kernel_rfl
theorem cells3 : Try.prog.cellsOf 3 = 1 := by kernel_rfl
theorem cells34 : Try.prog.cellsOf 34 = 1 := by kernel_rfl
theorem cells36 : Try.prog.cellsOf 36 = 2 := by kernel_rfl
theorem cells91 : Try.prog.cellsOf 91 = 2 := by kernel_rfl
theorem cells92 : Try.prog.cellsOf 92 = 1 := by kernel_rfl
theorem cells94 : Try.prog.cellsOf 94 = 3 := by kernel_rfl
theorem cells96 : Try.prog.cellsOf 96 = 3 := by kernel_rfl
theorem cells4 : Try.prog.cellsOf 4 = 1 := by kernel_rfl

section
variable {H : Type} {enc : TypeId × Value → H} {w : World} {base : Nat} {spare : Nat → Bool} {held : Bool}
/-- Cells that are there one by one. -/
theorem rd_of {b : Nat} : ∀ {vs : List Value} {o : Nat}, (∀ i v, vs[i]? = some v → w.cell? ⟨b, o + i, none⟩ = some v) → rd w b o vs
  | [], _, _ => trivial
  | v :: r, o, h => ⟨by simpa using h 0 v rfl, rd_of fun i u hu => by
      have := h (i + 1) u (by simpa using hu)
      rw [show o + 1 + i = o + (i + 1) from by omega]; exact this⟩
theorem rd_flat {α : Type} {k : Nat} {en : α → List Value} (hk : ∀ x, (en x).length = k) {b o : Nat} {n : Nat} {f : Nat → α} : ∀ {m : Nat}, m ≤ n → (∀ i, i < n → rd w b (o + i * k) (en (f i))) → rd w b o (((List.range m).map f).flatMap en)
  | 0, _, _ => trivial
  | m + 1, hm, h => by
    rw [List.range_succ, List.map_append, List.flatMap_append, rd_append]
    refine ⟨rd_flat hk (by omega) h, ?_⟩
    rw [flatMap_len hk, List.length_map, List.length_range]
    simpa using h m (by omega)
/-- A slice that reads as data, of elements that each are known. -/
theorem open_gen {α : Type} [Inhabited α] {t e k : Nat} (ht : Try.prog.underlying t = some (.slice e)) (hc : Try.prog.cellsOf e = k) (h0k : 0 < k) {en : α → List Value} (hk : ∀ x, (en x).length = k) {Q : α → Prop}
    (hel : ∀ n cs d, DataW.trod enc Try.prog w base spare held n e cs = some d → ∃ x, cs = en x ∧ Q x) {fuel : Nat} {cs : List Value} {x : DataW H × List MemPlace} (hf : DataW.trod enc Try.prog w base spare held fuel t cs = some x) :
    ∃ (s : Sl) (l : List α), cs = [.slice s.a s.n s.c] ∧ Sli k en w s l ∧ (∀ y ∈ l, Q y) ∧ l.length ≤ maxLen := by
  rcases Deep.open_slice ht hf with ⟨hcs, _⟩ | ⟨a', len, cap, m, n, D, Pl, hcs, _, hl, hm, hmm, _, hi⟩
  · exact ⟨⟨none, 0, 0⟩, [], hcs, Sli.nil .., by simp, by simp⟩
  · have hlm : len ≤ m := by rw [hmm]; split <;> omega
    have hall : ∀ i, i < len → ∃ o : α, Q o ∧ ∀ j v, (en o)[j]? = some v → w.cell? (a'.add (i * k + j)) = some v := by
      intro i hil
      obtain ⟨cs', hc', hd⟩ := hi i (by omega)
      obtain ⟨o, rfl, hq⟩ := hel _ _ _ hd
      rw [hc] at hc'
      obtain ⟨_, _, hat⟩ := World.cells?_some hc'
      refine ⟨o, hq, fun j v hv => ?_⟩
      have hj : j < k := by
        rcases Nat.lt_or_ge j k with h | h
        · exact h
        · rw [List.getElem?_eq_none (by rw [hk]; exact h)] at hv; cases hv
      have := hat j hj
      rw [hv] at this
      rw [← this]
      congr 1
      unfold Addr.add
      by_cases h0 : i * k = 0 <;> by_cases h1 : j = 0 <;> simp [h0, h1, Nat.add_assoc]
    have hsp : 0 < len → a'.spot = none := fun h0 => by
      obtain ⟨o, _, ho⟩ := hall 0 h0
      have hne : 0 < (en o).length := by rw [hk]; exact h0k
      have h1 := World.cell?_spot (ho 0 _ (List.getElem?_eq_getElem hne))
      have h2 : a'.add (0 * k + 0) = a' := by unfold Addr.add; simp
      rw [h2] at h1; exact h1
    let f : Nat → α := fun i => if h : i < len then (hall i h).choose else default
    have hff : ∀ i (hil : i < len), f i = (hall i hil).choose := fun i hil => by simp [f, hil]
    have hfc : ∀ i, i < len → rd w a'.block (a'.off + i * k) (en (f i)) := by
      intro i hil
      have h1 := (hall i hil).choose_spec.2
      rw [hff i hil]
      refine rd_of fun j v hv => ?_
      have h3 := h1 j v hv
      obtain ⟨b, o, sp⟩ := a'
      have h4 : sp = none := hsp (by omega)
      subst h4
      rw [addr_add_plain] at h3
      rw [Nat.add_assoc]; exact h3
    refine ⟨⟨some a', len, cap⟩, (List.range len).map f, hcs, ⟨by simp, hl, fun hne => ?_⟩, fun y hy => ?_, by simp; omega⟩
    · have h0 : 0 < len := by
        rcases Nat.eq_zero_or_pos len with h | h
        · subst h; exact absurd rfl hne
        · exact h
      obtain ⟨b, o, sp⟩ := a'
      have h4 : sp = none := hsp h0
      subst h4
      exact ⟨⟨b, o⟩, rfl, rd_flat hk (Nat.le_refl _) hfc⟩
    · obtain ⟨i, hi, rfl⟩ := List.mem_map.1 hy
      have hi := List.mem_range.1 hi
      rw [hff i hi]; exact (hall i hi).choose_spec.1
theorem open_intsl {n : Nat} {cs : List Value} {d : DataW H × List MemPlace} (h : DataW.trod enc Try.prog w base spare held n 34 cs = some d) : ∃ (s : Sl) (l : List Int), cs = [.slice s.a s.n s.c] ∧ Ints w s l ∧ l.length ≤ maxLen := by
  obtain ⟨s, l, h1, h2, _, h3⟩ := open_gen (α := Int) (en := eI) (Q := fun _ => True) Try.underlying34 cells3 (by decide) eI_len (fun n cs d hd => by
    obtain ⟨m, hm, _⟩ := DataW.trod_int Try.underlying3 hd
    exact ⟨m, hm, trivial⟩) h
  exact ⟨s, l, h1, h2, h3⟩
/-- A struct of a Rel and Args. -/
theorem open_fa {T : Nat} {f0 f1 : Field} (hT : Try.prog.underlying T = some (.struct #[f0, f1])) (h0 : f0.type = 3) (o0 : f0.offset = 0) (h1 : f1.type = 34) (o1 : f1.offset = 1) (hc : Try.prog.cellsOf T = 2) {n : Nat} {cs : List Value} {d : DataW H × List MemPlace}
    (h : DataW.trod enc Try.prog w base spare held n T cs = some d) : ∃ y : DF, cs = eF y ∧ Ints w y.sl y.args ∧ y.args.length ≤ maxLen := by
  obtain ⟨y0, y1, m, _, hl, g0, g1⟩ := trod_struct2 hT h
  rw [hc] at hl
  rw [h0, o0, cells3] at g0
  rw [h1, o1, cells34] at g1
  match cs, hl with
  | [c0, c1], _ =>
    obtain ⟨a, ha, _⟩ := DataW.trod_int Try.underlying3 g0
    obtain ⟨s, l, hs, hi, hll⟩ := open_intsl g1
    simp at ha hs
    exact ⟨⟨a, s, l⟩, by rw [ha, hs]; rfl, hi, hll⟩
theorem open_li {n : Nat} {cs : List Value} {d : DataW H × List MemPlace} (h : DataW.trod enc Try.prog w base spare held n 96 cs = some d) : ∃ y : DL, cs = eL y ∧ Ints w y.a.sl y.a.args ∧ y.a.args.length ≤ maxLen := by
  obtain ⟨y0, y1, m, _, hl, g0, g1⟩ := trod_struct2 Try.underlying96 h
  rw [cells96] at hl
  have g0 : DataW.trod enc Try.prog w base spare held m 4 ((cs.drop 0).take (Try.prog.cellsOf 4)) = some y0 := g0
  have g1 : DataW.trod enc Try.prog w base spare held m 91 ((cs.drop 1).take (Try.prog.cellsOf 91)) = some y1 := g1
  rw [cells4] at g0
  rw [cells91] at g1
  match cs, hl with
  | [c0, c1, c2], _ =>
    obtain ⟨b, hb, _⟩ := DataW.trod_bool Try.underlying4 g0
    obtain ⟨y, hy, hi, hll⟩ := open_fa Try.underlying91 rfl rfl rfl rfl cells91 g1
    simp at hb hy
    simp only [eF, List.cons.injEq, and_true] at hy
    exact ⟨⟨b, y⟩, by rw [hb, hy.1, hy.2]; rfl, hi, hll⟩
structure RulB (w : World) (r : DR) : Prop where
  ok : RulOk w r
  nb : r.body.length ≤ maxLen
  na : ∀ x ∈ r.head :: r.body.map (·.a), x.args.length ≤ maxLen
theorem open_ru {n : Nat} {cs : List Value} {d : DataW H × List MemPlace} (h : DataW.trod enc Try.prog w base spare held n 94 cs = some d) : ∃ y : DR, cs = eR y ∧ RulB w y := by
  obtain ⟨y0, y1, m, _, hl, g0, g1⟩ := trod_struct2 Try.underlying94 h
  rw [cells94] at hl
  have g0 : DataW.trod enc Try.prog w base spare held m 91 ((cs.drop 0).take (Try.prog.cellsOf 91)) = some y0 := g0
  have g1 : DataW.trod enc Try.prog w base spare held m 92 ((cs.drop 2).take (Try.prog.cellsOf 92)) = some y1 := g1
  rw [cells91] at g0
  rw [cells92] at g1
  match cs, hl with
  | [c0, c1, c2], _ =>
    obtain ⟨y, hy, hi, hll⟩ := open_fa Try.underlying91 rfl rfl rfl rfl cells91 g0
    obtain ⟨s, l, hs, hsl, hq, hln⟩ := open_gen (α := DL) (en := eL) Try.underlying92 cells96 (by decide) eL_len (fun n cs d hd => open_li hd) g1
    simp at hy hs
    simp only [eF, List.cons.injEq, and_true] at hy
    refine ⟨⟨y, s, l⟩, by rw [hy.1, hy.2, hs]; rfl, ⟨hi, hsl, fun x hx => (hq x hx).1⟩, hln, fun x hx => ?_⟩
    rcases List.mem_cons.1 hx with rfl | hx
    · exact hll
    · obtain ⟨b, hb, rfl⟩ := List.mem_map.1 hx
      exact (hq b hb).2
/-- The rules that are handed over. -/
theorem open_rules {a : Option Addr} {len cap : Nat} {d : DataW H} {ps : List MemPlace} (h : DataW.Trod enc Try.prog w base spare held 22 (.slice a len cap) d ps) :
    ∃ l : List DR, NR w ⟨a, len, cap⟩ l ∧ l.length ≤ maxLen ∧ ∀ r ∈ l, RulB w r := by
  obtain ⟨fuel, hf⟩ := h
  obtain ⟨s, l, hs, hsl, hq, hln⟩ := open_gen (α := DR) (en := eR) Try.underlying22 cells94 (by decide) eR_len (fun n cs d hd => open_ru hd) hf
  simp [Value.cells] at hs
  have e : (⟨a, len, cap⟩ : Sl) = s := by cases s; simp_all
  rw [e]
  exact ⟨l, ⟨hsl, fun r hr => (hq r hr).ok⟩, hln, hq⟩
/-- The facts that are handed over. -/
theorem open_facts {a : Option Addr} {len cap : Nat} {d : DataW H} {ps : List MemPlace} (h : DataW.Trod enc Try.prog w base spare held 23 (.slice a len cap) d ps) :
    ∃ l : List DF, Sli 2 eF w ⟨a, len, cap⟩ l ∧ (∀ x ∈ l, Ints w x.sl x.args) ∧ l.length ≤ maxLen ∧ ∀ x ∈ l, x.args.length ≤ maxLen := by
  obtain ⟨fuel, hf⟩ := h
  obtain ⟨s, l, hs, hsl, hq, hln⟩ := open_gen (α := DF) (en := eF) Try.underlying23 cells36 (by decide) eF_len (fun n cs d hd => open_fa Try.underlying36 rfl rfl rfl rfl cells36 hd) hf
  simp [Value.cells] at hs
  have e : (⟨a, len, cap⟩ : Sl) = s := by cases s; simp_all
  rw [e]
  exact ⟨l, hsl, fun x hx => (hq x hx).1, hln, fun x hx => (hq x hx).2⟩
/-- A fact that is handed over. -/
theorem open_fact {cs : Array Value} {d : DataW H} {ps : List MemPlace} (h : DataW.Trod enc Try.prog w base spare held 36 (.agg cs) d ps) :
    ∃ y : DF, cs = (eF y).toArray ∧ Ints w y.sl y.args ∧ y.args.length ≤ maxLen := by
  obtain ⟨fuel, hf⟩ := h
  obtain ⟨y, hy, hi, hl⟩ := open_fa Try.underlying36 rfl rfl rfl rfl cells36 hf
  refine ⟨y, ?_, hi, hl⟩
  apply Array.ext'
  simpa [Value.cells] using hy
theorem maxLen_big : maxLen ≤ big := by decide
end
end Go.Proofs.Ytoljknamnkkgcaa
