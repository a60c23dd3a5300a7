/-
  Contract: the law RulesMore.
-/
import Derived.Test.YtoljknamnkkgcaaCt
import Derived.Test.YtoljknamnkkgcaaDb
import Derived.Test.YtoljknamnkkgcaaSg
namespace Go.Proofs.Ytoljknamnkkgcaa
open Go Go.VC
set_option maxHeartbeats 1000000
set_option maxRecDepth 100000

theorem Cl.mono {l : List Ru} {G G' N : Ky → Prop} (h : ∀ k, G k → G' k) {k : Ky} : Cl l G N k → Cl l G' N k := fun hk S h1 h2 => hk S (fun k hg => h1 k (h k hg)) h2
theorem plain_mono {l : List Ru} (hp : PlainP l) {G G' : Ky → Prop} (h : ∀ k, G k → G' k) {k : Ky} : Mdl l zero6 G k → Mdl l zero6 G' k := by
  rw [Mdl_plain hp (fun _ => False), Mdl_plain hp (fun _ => False)]; exact Cl.mono h
theorem plain_base {l : List Ru} (hp : PlainP l) {G : Ky → Prop} {k : Ky} (h : G k) : Mdl l zero6 G k := by rw [Mdl_plain hp (fun _ => False)]; exact Cl.base h
theorem c4 {w : World} {s s' : Sl} {l : List DR} {fs : List DF} {f : DF} (hs : NR w s l) (hf : NF w s' fs) (hl : l.length ≤ big) (hb : ∀ r ∈ l, r.body.length ≤ big) (hfl : fs.length ≤ big) (ha : ∀ r ∈ l, ∀ x ∈ r.atoms, x.args.length ≤ big) (hfa : ∀ x ∈ fs, x.args.length ≤ big)
    (hx : Ints w f.sl f.args) (hxl : f.args.length ≤ big) :
    Calls Try.prog 4 [.slice s.a s.n s.c, .slice s'.a s'.n s'.c, .agg [.int .i64 f.rel, .slice f.sl.a f.sl.n f.sl.c].toArray].toArray w fun e w' => e = .returned (.bool true) ∧ Ext w w' := by
  refine (call4 s s' f.rel f.sl (R := fun v w' => v = .bool true ∧ Ext w w') ?_).mono fun e w' ⟨v, he, hv, hx⟩ => ⟨by rw [he, hv], hx⟩
  obtain ⟨b1, x1⟩ := eF_cells w f 36
  refine Let.intro fun w1 e1 => ?_
  have e1 : w1 = w.alloc (.cells (eF f).toArray 36) := e1
  rw [← e1] at b1 x1
  refine ⟨fun (b21 : Bool) w2 => (b21 = false → PlainP (l.map DR.p) ∧ ValidP (l.map DR.p) (fs.map DF.p)) ∧ Ext w1 w2, ?_, ?_⟩
  rotate_left
  · refine (c19 (hs.ext x1) hl hb).mono fun e w26 ⟨c, he, hc, x26⟩ => ⟨c, he, cond_intro (fun _ => ⟨(fun h => by cases h), x26⟩) (fun g => ?_)⟩
    have g : c = true := by simpa using g
    refine (c22 ((hs.ext x1).ext x26) ((hf.ext x1).ext x26) hl hfl hb ha hfa).mono fun e w27 ⟨d, he, hd, x27⟩ => ⟨d, he, fun h => ⟨hc.1 g, hd.1 (by simpa using h)⟩, x26.trans x27⟩
  rintro b21 w2 ⟨hb21, x2⟩
  have x02 := x1.trans x2
  refine cond_intro (fun _ => (c20 w2).mono fun e w3 ⟨he, x3⟩ => ⟨_, he, rfl, x02.trans x3⟩) (fun g => ?_)
  obtain ⟨hpl, hv⟩ := hb21 g
  have b2 := b1.ext x2
  obtain ⟨i1, i2⟩ := conv_id hv
  refine (c17 (hs.ext x02) hl hb).mono fun e w4 ⟨s25, L, he, hL, hLp, x4⟩ => ⟨s25, he, ?_⟩
  refine (c18 ((hf.ext x02).ext x4) hfl).mono fun e w5 ⟨s27, F, he, hFo, hFt, hFp, x5⟩ => ⟨s27, he, ?_⟩
  rw [i1] at hLp
  have hFp' := hFp
  rw [i2] at hFp
  have hF : NF w5 s27 F := ⟨hFo.sli, fun y hy => (hFt y hy).i⟩
  have hLp' : L.map DR.p = ofR (l.map DR.p) := by rw [hLp, i1]
  obtain ⟨hL12, hLz⟩ := of_sz hLp'
  obtain ⟨hF26, hFz⟩ := facts_sz hFp'
  refine (c16 (hL.ext x5) hF (by omega) (by omega) hLz (fun y hy => by have := hFz y hy; omega)).mono fun e w6 ⟨s28, x, A, he, hA, hAl, hcase, x6⟩ => ⟨s28, x, he, ?_⟩
  rw [hLp, hFp] at hcase
  rcases hcase with ⟨h, _⟩ | ⟨_, h, _⟩ | ⟨_, t, ht, rfl, hIs⟩
  · exact absurd hv h
  · exact absurd ⟨_, plain_str hpl⟩ h
  have := ht.uniq (plain_str hpl)
  subst this
  have x26 := (x4.trans x5).trans x6
  have x06 := x02.trans x26
  have b6 := b2.ext x26
  -- the model with one fact more
  refine ⟨fun u => Ext w6 u, Ext.drew _, Let.intro fun w7 e7 => ?_⟩
  have x7 : Ext w6 w7 := by rw [e7]; exact Ext.drew _
  refine ⟨f.rel, f.sl, fun u hu => (b6.ext hu).rd, ?_⟩
  refine (c17 ((hs.ext x06).ext x7) hl hb).mono fun e w8 ⟨s33, L2, he, hL2, hLp2, x8⟩ => ⟨s33, he, x7.trans x8, ?_⟩
  have x08 := (x06.trans x7).trans x8
  refine (c18 (hf.ext x08) hfl).mono fun e w9 ⟨s35, F2, he, hFo2, hFt2, hFp2, x9⟩ => ⟨s35, he, (x7.trans x8).trans x9, ?_⟩
  have x09 := x08.trans x9
  refine (c23 (hx.ext x09)).mono fun e w10 ⟨y, he, hyp, hyt, hyb, x10⟩ => ⟨_, _, he, ?_⟩
  obtain ⟨hL12', hLz'⟩ := of_sz hLp2
  obtain ⟨hF26', hFz'⟩ := facts_sz hFp2
  have hbd := buildOne_run E23 (v := .agg [.int .i64 y.rel, .slice y.sl.a y.sl.n y.sl.c].toArray) (vs := eF y) rfl rfl (by omega) w10
  have x11 := Ext.alloc w10 (.cells (eF y).toArray 36)
  have hs11 : Sli 2 eF (w10.alloc (.cells (eF y).toArray 36)) ⟨some ⟨w10.heap.size, 0, none⟩, 1, 1⟩ [y] := ⟨rfl, Nat.le_refl _, fun _ => ⟨⟨w10.heap.size, 0⟩, rfl, by simpa using (Blk.alloc w10 (eF y) 36).rd⟩⟩
  have z7 := x7.size
  have z8 := x8.size
  have z9 := x9.size
  have hFo3 := (hFo2.ext x10).ext x11
  obtain ⟨s39, w12, hr12, ho12, hf12⟩ := appendSli E23 hFo3 hs11 eF_len eF_one (by simp; omega) (by simp [maxLen]; omega) (by have := x10.size; have := x11.size; omega) 23
  have x711 := ((x7.trans x8).trans x9).trans (x10.trans x11)
  have x612 : Ext w6 w12 := x711.newer hf12 fun q ⟨a, ha', e⟩ => by have := (hFo3.base ha').1; omega
  refine ⟨⟨some ⟨w10.heap.size, 0, none⟩, 1, 1⟩, _, hbd, x711, s39, w12, hr12, x612, ?_⟩
  have hno : ∀ q cur, Blk (w10.alloc (.cells (eF y).toArray 36)) q cur 3 → ¬ BlS s35 q := fun q cur hq ⟨a, ha', e⟩ => by
    obtain ⟨cur', hc'⟩ := hFo3.blk ha'
    rw [e] at hc'
    exact Blk.ne_ty hq hc' (by decide) rfl
  have hF12 : NF w12 s39 (F2 ++ [y]) := ⟨ho12.sli, fun z hz => by
    have h11 : TI (w10.alloc (.cells (eF y).toArray 36)) z.sl z.args := by
      rcases List.mem_append.1 hz with hz | hz
      · exact ((hFt2 z hz).ext x10).ext x11
      · simp only [List.mem_singleton] at hz; subst hz; exact hyt.ext x11
    exact (h11.fr hf12 hno).i⟩
  have hL12w : NR w12 s33 L2 := by
    -- what rules were handed over has not changed: they are older than the facts
    have hLx := (hL2.ext x9).ext (x10.trans x11)
    have hfr : Ext w8 w12 := ((x9.trans x10).trans x11).newer hf12 fun q ⟨a, ha', e⟩ => by have := (hFo3.base ha').1; omega
    exact hL2.ext hfr
  refine (c16 hL12w hF12 (by omega) (by simp; omega) hLz' (fun z hz => by
    rcases List.mem_append.1 hz with hz | hz
    · have := hFz' z hz; omega
    · simp only [List.mem_singleton] at hz; subst hz
      have := cut_len 5 f.p; rw [← hyp] at this; exact Nat.le_trans this (by omega))).mono fun e w13 ⟨s40, x40, B, he, hB, hBl, hcase2, x13⟩ => ⟨s40, x40, he, x612.trans x13, ?_⟩
  have e1' : L2.map DR.p = l.map DR.p := by rw [hLp2, i1]
  have e2' : (F2 ++ [y]).map DF.p = fs.map DF.p ++ [cut 5 f.p] := by rw [List.map_append, hFp2, i2]; simp [hyp]
  rw [e1', e2'] at hcase2
  have x613 := x612.trans x13
  have x013 := x06.trans x613
  refine ⟨fun (b48 : Bool) w14 => (b48 = true ↔ x40 ≠ 0) ∧ w14 = w13, ?_, ?_⟩
  rotate_left
  · refine cond_intro (fun h => by simp at h) (fun _ => ⟨by simp, rfl⟩)
  rintro b48 w14 ⟨hb48, rfl⟩
  refine cond_intro (fun g2 => ?_) (fun g2 => ?_)
  · have h40 : x40 = 2 := by
      rcases hcase2 with ⟨_, h, _⟩ | ⟨_, h, _⟩ | ⟨_, _, _, h, _⟩
      · exact h
      · exact absurd ⟨_, plain_str hpl⟩ h
      · exact absurd h (hb48.1 g2)
    subst h40
    refine Join.dir (cond_intro (fun _ => cond_intro (fun _ => (c20 w14).mono fun e w16 ⟨he, x16⟩ => ⟨_, he, rfl, x013.trans x16⟩) (fun h => by simp at h)) (fun h => by simp at h))
  · have h40 : x40 = 0 := Classical.byContradiction fun h => by rw [hb48.2 h] at g2; cases g2
    rcases hcase2 with ⟨_, h, _⟩ | ⟨_, h, _⟩ | ⟨hv2, t2, ht2, _, hIs2⟩
    · omega
    · exact absurd ⟨_, plain_str hpl⟩ h
    have := ht2.uniq (plain_str hpl)
    subst this
    -- what is in the smaller model is in the greater
    have hsub : ∀ g ∈ A.map DF.p, g ∈ B.map DF.p := fun g hg => by
      obtain ⟨k, hk, rfl⟩ := (hIs.mem g).1 hg
      exact (hIs2.mem _).2 ⟨k, plain_mono hpl (fun k ⟨h, h1, h2⟩ => ⟨h, List.mem_append_left _ h1, h2⟩) hk, rfl⟩
    have hcut : cut 5 f.p = f.p := cut_small (by omega) (hv2.gr _ (by simp)).2.2.2.1
    have hfB : f.p ∈ B.map DF.p := by
      have hg : GroundF f.p := by rw [← hcut]; exact hv2.gr _ (by simp)
      exact (hIs2.mem _).2 ⟨f.p.k, plain_base hpl ⟨cut 5 f.p, by simp, by rw [hcut]⟩, hg.kf⟩
    have hA6 := hA.ext x613
    have hAn := hA.len
    have hBb : B.length ≤ big := by show B.length ≤ 9223372036854775807; omega
    have hAa : ∀ g ∈ A, g.args.length ≤ big := fun g hg => by
      have : g.p ∈ B.map DF.p := hsub _ (List.mem_map.2 ⟨g, hg, rfl⟩)
      obtain ⟨k, _, hk⟩ := (hIs2.mem _).1 this
      have : g.args = (if k.b = 0 then [k.a] else [k.a, k.b]) := (congrArg Fa.args hk).symm
      rw [this]; split <;> simp [big]
    refine ⟨fun w17 => Ext w14 w17, ?_, ?_⟩
    · rintro w17 x17
      refine Join.dir ⟨f.rel, f.sl, (b6.ext (x613.trans x17)).rd, (c24 (hB.ext x17) (hx.ext (x013.trans x17)) hBb hxl).mono fun e w19 ⟨he, x19⟩ => ⟨_, he, cond_intro (fun _ => ?_) (fun h => by simp [hfB] at h)⟩⟩
      exact (c20 w19).mono fun e w20 ⟨he, x20⟩ => ⟨_, he, rfl, ((x013.trans x17).trans x19).trans x20⟩
    · refine rangeI (fun _ w21 => Ext w14 w21) (by rw [hAn]; show A.length ≤ 9223372036854775807; omega) (Fr.refl _ _) ?_ (fun _ h => h)
      rintro i hi w21 x21 K hK
      have hi : i < A.length := by omega
      refine loadF (hA6.ext x21) hi zc36 fun w24 b24 x24 => ⟨_, _, b24.rd, ?_⟩
      refine (c24 ((hB.ext x21).ext x24) (((hA6.ok _ (List.getElem_mem hi)).ext x21).ext x24) hBb (hAa _ (List.getElem_mem hi))).mono fun e w25 ⟨he, x25⟩ => ⟨_, he, cond_intro (fun h => ?_) (fun _ => hK _ ((x21.trans x24).trans x25))⟩
      have := hsub _ (List.mem_map.2 ⟨_, List.getElem_mem hi, rfl⟩)
      simp [this] at h
end Go.Proofs.Ytoljknamnkkgcaa
