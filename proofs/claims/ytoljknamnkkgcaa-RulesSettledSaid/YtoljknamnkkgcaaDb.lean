/-
  Contract: the law RulesAgain.
-/
import Derived.Test.YtoljknamnkkgcaaCq
import Derived.Test.YtoljknamnkkgcaaSe
namespace Go.Proofs.Ytoljknamnkkgcaa
open Go Go.VC
set_option maxHeartbeats 1000000
set_option maxRecDepth 100000

theorem cut_len (n : Nat) (f : Fa) : (cut n f).args.length ≤ n := by simp [cut]; omega
theorem of_sz {L : List DR} {l : List Ru} (h : L.map DR.p = ofR l) : L.length ≤ 12 ∧ ∀ r ∈ L, SzR r := by
  refine ⟨by have := congrArg List.length h; simp [ofR] at this; omega, fun r hr => ?_⟩
  have hm : r.p ∈ ofR l := by rw [← h]; exact List.mem_map.2 ⟨r, hr, rfl⟩
  obtain ⟨q, _, hq⟩ := List.mem_map.1 hm
  have h1 : r.body.map DL.p = (q.body.take 5).map cutL := congrArg Ru.body hq.symm
  have hb : r.body.length ≤ 5 := by have := congrArg List.length h1; simp at this; omega
  refine ⟨by omega, fun x hx => ?_⟩
  rcases List.mem_cons.1 hx with rfl | hx
  · have h2 : r.head.p = cut 5 q.head := congrArg Ru.head hq.symm
    have := cut_len 5 q.head
    rw [← h2] at this
    exact Nat.le_trans this (by omega)
  · obtain ⟨b, hbm, rfl⟩ := List.mem_map.1 hx
    have : b.p ∈ (q.body.take 5).map cutL := by rw [← h1]; exact List.mem_map.2 ⟨b, hbm, rfl⟩
    obtain ⟨c, _, hc⟩ := List.mem_map.1 this
    have h2 : b.a.p = cut 5 c.a := congrArg Li.a hc.symm
    have := cut_len 5 c.a
    rw [← h2] at this
    exact Nat.le_trans this (by omega)
theorem facts_sz {L : List DF} {l : List Fa} (h : L.map DF.p = factsC l) : L.length ≤ 26 ∧ ∀ x ∈ L, x.args.length ≤ 9 := by
  refine ⟨by have := congrArg List.length h; simp [factsC] at this; omega, fun x hx => ?_⟩
  have hm : x.p ∈ factsC l := by rw [← h]; exact List.mem_map.2 ⟨x, hx, rfl⟩
  obtain ⟨q, _, hq⟩ := List.mem_map.1 hm
  have := cut_len 9 q
  rw [hq] at this
  exact this
theorem ofR_plain {l : List Ru} (h : PlainP l) : PlainP (ofR l) := by
  intro r hr b hb
  obtain ⟨q, hq, rfl⟩ := List.mem_map.1 hr
  obtain ⟨c, hc, rfl⟩ := List.mem_map.1 hb
  exact h q (List.mem_of_mem_take hq) c (List.mem_of_mem_take hc)
theorem IsL.giv {S : Ky → Prop} {l : List Fa} (h : IsL S l) (k : Ky) : giv l k ↔ S k := by
  constructor
  · rintro ⟨f, hf, rfl⟩
    obtain ⟨k, hk, rfl⟩ := (h.mem f).1 hf
    rw [Ky.fk]; exact hk
  · intro hk
    exact ⟨k.f, (h.mem _).2 ⟨k, hk, rfl⟩, Ky.fk k⟩
/-- The facts of a model go with the rules. -/
theorem again_valid {l : List Ru} {fs a : List Fa} {t : List Int} (hv : ValidP l fs) (h : IsL (Mdl l t (giv fs)) a) (hn : a.length ≤ 20) : ValidP l a := by
  obtain ⟨h1, h2⟩ := hv.ty
  have hty : ∀ k, Mdl l t (giv fs) k → TyK (allA l fs) k := Lay_ty hv.co h1 h2 6
  have hrl : ∀ x ∈ l.flatMap Ru.atoms, x ∈ allA l fs := fun x hx => List.mem_append_right _ hx
  refine ⟨hv.nl, hn, fun f hf => ?_, hv.ru, ?_⟩
  · obtain ⟨k, hk, rfl⟩ := (h.mem f).1 hf
    exact (hty k hk).ground
  · intro x hx y hy e
    rcases List.mem_append.1 hx with hx | hx <;> rcases List.mem_append.1 hy with hy | hy
    · obtain ⟨k, hk, rfl⟩ := (h.mem x).1 hx
      obtain ⟨k', hk', rfl⟩ := (h.mem y).1 hy
      -- both of one Rel: by an atom of it, or by the shapes
      have e' : k.rel = k'.rel := e
      by_cases hex : ∃ g ∈ allA l fs, g.rel = k.rel
      · obtain ⟨g, hg, eg⟩ := hex
        have h3 := (hty k hk).len g hg eg
        have h4 := (hty k' hk').len g hg (by rw [eg, e'])
        omega
      · -- there is no atom of this Rel: then no fact either
        exfalso
        have : ∀ k, Mdl l t (giv fs) k → ∃ g ∈ allA l fs, g.rel = k.rel := fun k hk => by
          have hl : ∀ n k, Lay l t (giv fs) n k → ∃ g ∈ allA l fs, g.rel = k.rel := by
            intro n
            induction n with
            | zero =>
              rintro k ⟨f, hf, rfl⟩
              exact ⟨f, List.mem_append_left _ hf, rfl⟩
            | succ n ih =>
              intro k hk
              exact hk (fun k => ∃ g ∈ allA l fs, g.rel = k.rel) ih fun r hr u _ _ => ⟨r.head, (h2 r (List.mem_filter.1 hr).1).2 _ (by simp [Ru.atoms]), rfl⟩
          exact hl 6 k hk
        exact hex (this k hk)
    · obtain ⟨k, hk, rfl⟩ := (h.mem x).1 hx
      exact ((hty k hk).len y (hrl y hy) e.symm).symm
    · obtain ⟨k, hk, rfl⟩ := (h.mem y).1 hy
      exact (hty k hk).len x (hrl x hx) e
    · exact hv.co x (hrl x hx) y (hrl y hy) e
theorem again_mdl {l : List Ru} (hp : PlainP l) {fs a : List Fa} (h : IsL (Mdl l zero6 (giv fs)) a) (k : Ky) : Mdl l zero6 (giv a) k ↔ Mdl l zero6 (giv fs) k := by
  rw [Mdl_plain hp (fun _ => False), Mdl_plain hp (fun _ => False)]
  have hg : ∀ k, giv a k ↔ Cl l (giv fs) (fun _ => False) k := fun k => by rw [h.giv, Mdl_plain hp (fun _ => False)]
  refine Cl.eq (fun k hk => (hg k).1 hk) (Cl.closed _ _ _) (fun k hk => Cl.base ((hg k).2 hk)) k
theorem c3 {w : World} {s s' : Sl} {l : List DR} {fs : List DF} (hs : NR w s l) (hf : NF w s' fs) (hl : l.length ≤ big) (hb : ∀ r ∈ l, r.body.length ≤ big) (hfl : fs.length ≤ big) :
    Calls Try.prog 3 [.slice s.a s.n s.c, .slice s'.a s'.n s'.c].toArray w fun e w' => e = .returned (.bool true) ∧ Ext w w' := by
  refine (call3 s s' (R := fun v w' => v = .bool true ∧ Ext w w') ?_).mono fun e w' ⟨v, he, hv, hx⟩ => ⟨by rw [he, hv], hx⟩
  refine (c17 hs hl hb).mono fun e w1 ⟨s10, L, he, hL, hLp, x1⟩ => ⟨s10, he, ?_⟩
  refine (c18 (hf.ext x1) hfl).mono fun e w2 ⟨s12, F, he, hFo, hFt, hFp, x2⟩ => ⟨s12, he, ?_⟩
  have hF : NF w2 s12 F := ⟨hFo.sli, fun x hx => (hFt x hx).i⟩
  obtain ⟨hL12, hLz⟩ := of_sz hLp
  obtain ⟨hF26, hFz⟩ := facts_sz hFp
  refine (c16 (hL.ext x2) hF (by omega) (by omega) hLz (fun f hf => by have := hFz f hf; omega)).mono fun e w3 ⟨s13, x, A, he, hA, hAl, hcase, x3⟩ => ⟨s13, x, he, ?_⟩
  have x03 := (x1.trans x2).trans x3
  have hAn := hA.len
  refine ⟨fun (b27 : Bool) w4 => (b27 = false → x = 0 ∧ PlainP (l.map DR.p) ∧ A.length ≤ 20) ∧ Ext w3 w4, ?_, ?_⟩
  rotate_left
  · refine cond_intro (fun _ => ⟨(fun h => by cases h), Fr.refl _ _⟩) (fun g => ?_)
    have g : x = 0 := by simpa using g
    refine (c19 (hs.ext x03) hl hb).mono fun e w14 ⟨b, he, hbp, x14⟩ => ⟨b, he, cond_intro (fun _ => ⟨(fun h => by cases h), x14⟩) (fun g2 => ⟨fun g3 => ?_, x14⟩)⟩
    have g2 : b = true := by simpa using g2
    exact ⟨g, hbp.1 g2, by simp [hAn] at g3; omega⟩
  rintro b27 w4 ⟨hb27, x4⟩
  have x04 := x03.trans x4
  refine cond_intro (fun _ => ?_) (fun g => ?_)
  · refine Join.dir (cond_intro (fun _ => (c20 w4).mono fun e w6 ⟨he, x6⟩ => ⟨_, he, rfl, x04.trans x6⟩) (fun g1 => cond_intro (fun _ => (c20 w4).mono fun e w6 ⟨he, x6⟩ => ⟨_, he, rfl, x04.trans x6⟩) (fun g2 => cond_intro (fun _ => (c20 w4).mono fun e w6 ⟨he, x6⟩ => ⟨_, he, rfl, x04.trans x6⟩) (fun g3 => ?_))))
    rcases hcase with ⟨_, h, _⟩ | ⟨_, _, h, _⟩ | ⟨_, t, _, h, _⟩ <;> subst h <;> simp at g1 g2 g3
  obtain ⟨hx0, hpl, hA20⟩ := hb27 g
  have hplo := ofR_plain hpl
  rw [← hLp] at hplo
  rcases hcase with ⟨_, h, _⟩ | ⟨_, _, h, _⟩ | ⟨hv, t, ht, _, hIs⟩
  · omega
  · omega
  have := ht.uniq (plain_str hplo)
  subst this
  have hv2 := again_valid hv hIs (by simpa using hA20)
  refine (c17 (hs.ext x04) hl hb).mono fun e w9 ⟨s43, L2, he, hL2, hLp2, x9⟩ => ⟨s43, he, ?_⟩
  have eL2 : L2.map DR.p = L.map DR.p := by rw [hLp2, hLp]
  obtain ⟨hL12', hLz'⟩ := of_sz hLp2
  have hAa : ∀ f ∈ A, f.args.length ≤ 2 := fun f hf => (hv2.gr f.p (List.mem_map.2 ⟨f, hf, rfl⟩)).2.2.2.1
  refine (c16 hL2 (hA.ext (x4.trans x9)) (by omega) (by omega) hLz' (fun f hf => by have := hAa f hf; omega)).mono fun e w10 ⟨s45, x', A2, he, hA2, hAl2, hcase2, x10⟩ => ⟨s45, x', he, ?_⟩
  rw [eL2] at hcase2
  rcases hcase2 with ⟨h, _⟩ | ⟨_, h, _⟩ | ⟨_, t2, ht2, rfl, hIs2⟩
  · exact absurd hv2 h
  · exact absurd ⟨_, ht⟩ h
  have := ht2.uniq ht
  subst this
  have heq : A.map DF.p = A2.map DF.p := hIs.uniq (hIs2.congr (again_mdl hplo hIs))
  have x09 := (x04.trans x9).trans x10
  refine Join.dir (cond_intro (fun _ => ?_) (fun h => by simp at h))
  refine (c21 (hA.ext ((x4.trans x9).trans x10)) hA2 (by show A.length ≤ 9223372036854775807; omega) (fun y hy => by have := hAa y hy; show y.args.length ≤ 9223372036854775807; omega)).mono fun e w12 ⟨he, x12⟩ => ⟨_, he, ?_⟩
  refine cond_intro (fun _ => ?_) (fun h => by simp [heq] at h)
  exact (c20 w12).mono fun e w13 ⟨he, x13⟩ => ⟨_, he, rfl, (x09.trans x12).trans x13⟩
end Go.Proofs.Ytoljknamnkkgcaa
