/-
  The plain law of strata: the model is the one set that is its own step; so the alternating fixpoints meet in it. Contract: the law RulesSettled.
-/
import Derived.Test.YtoljknamnkkgcaaDd
import Derived.Test.YtoljknamnkkgcaaDb
import Derived.Test.YtoljknamnkkgcaaCt
import Derived.Test.YtoljknamnkkgcaaSi
namespace Go.Proofs.Ytoljknamnkkgcaa
open Go Go.VC
set_option maxHeartbeats 1000000
set_option maxRecDepth 100000

theorem En_monoR {A B : Ky → Prop} : ∀ {l : List Li} {v u : List Int}, (∀ b ∈ l, b.neg = false → ∀ k, k.rel = b.a.rel → A k → B k) → En A l v u → En B l v u
  | [], _, _, _, h' => h'
  | b :: r, v, u, h, h' => by
    have hr : ∀ b ∈ r, b.neg = false → ∀ k, k.rel = b.a.rel → A k → B k := fun b hb => h b (by simp [hb])
    rw [En] at h' ⊢
    split at h'
    · rw [if_pos (by assumption)]; exact En_monoR hr h'
    · rename_i hn
      rw [if_neg (by assumption)]
      obtain ⟨g, v', h1, h2, h3⟩ := h'
      exact ⟨g, v', h b (by simp) (by simpa using hn) g h2.1.symm h1, h2, En_monoR hr h3⟩
theorem NegOk.antiR {N N' : Ky → Prop} {body : List Li} {u : List Int} (h : ∀ b ∈ body, b.neg = true → ∀ k, k.rel = b.a.rel → N' k → N k) (x : NegOk N body u) : NegOk N' body u := fun b hb hn h' => x b hb hn (h b hb hn _ rfl h')
theorem nI_pos {b : Li} (h : b.neg = true) : nI b = 1 := by unfold nI; rw [if_pos h]
theorem nI_zero {b : Li} (h : b.neg = false) : nI b = 0 := by unfold nI; rw [if_neg (by rw [h]; simp)]
/-- One side of the step of a layer. -/
theorem strat_half {l : List Ru} {t : List Int} {G X X' Y Y' : Ky → Prop} (hs : ∀ r ∈ l, ∀ b ∈ r.body, lv t b.a.rel + nI b ≤ lv t r.head.rel) (hX : ∀ k, X k ↔ Cl l G Y k) (hX' : ∀ k, X' k ↔ Cl l G Y' k) {n : Int} (hY : ∀ k : Ky, lv t k.rel < n → (Y' k → Y k)) : ∀ k : Ky, lv t k.rel ≤ n → X k → X' k := fun k hk hx => by
  refine ((hX k).1 hx) (fun k => lv t k.rel ≤ n → X' k) (fun k hg _ => (hX' k).2 (Cl.base hg)) (fun r hr u h1 h2 hh => ?_) hk
  have hh : lv t r.head.rel ≤ n := hh
  refine (hX' _).2 (Cl.closed l G Y' r hr u ?_ ?_)
  · refine En_monoR (fun b hb hn k e hS => (hX' k).1 (hS ?_)) h1
    have := hs r hr b hb
    rw [nI_zero hn] at this
    rw [e]; omega
  · refine NegOk.antiR (fun b hb hn k e hk => hY k ?_ hk) h2
    have := hs r hr b hb
    rw [nI_pos hn] at this
    rw [e]; omega
theorem strat_uniq {l : List Ru} {t : List Int} {G X X' Y Y' : Ky → Prop} (ht : ∀ x ∈ t, 0 ≤ x) (hs : ∀ r ∈ l, ∀ b ∈ r.body, lv t b.a.rel + nI b ≤ lv t r.head.rel) (hX : ∀ k, X k ↔ Cl l G Y k) (hX' : ∀ k, X' k ↔ Cl l G Y' k) (hY : ∀ k, Y k ↔ Cl l G X k) (hY' : ∀ k, Y' k ↔ Cl l G X' k) :
    ∀ (n : Nat) (k : Ky), lv t k.rel < (n : Int) → (X k ↔ X' k) ∧ (Y k ↔ Y' k)
  | 0, k, h => by have := lv_nn ht k.rel; omega
  | n + 1, k, h => by
    have ih := strat_uniq ht hs hX hX' hY hY' n
    have hk : lv t k.rel ≤ (n : Int) := by omega
    exact ⟨⟨strat_half hs hX hX' (fun k h => (ih k h).2.2) k hk, strat_half hs hX' hX (fun k h => (ih k h).2.1) k hk⟩,
      ⟨strat_half hs hY hY' (fun k h => (ih k h).1.2) k hk, strat_half hs hY' hY (fun k h => (ih k h).1.1) k hk⟩⟩
theorem Lay_step {l : List Ru} {t : List Int} {G : Ky → Prop} {n : Nat} {k : Ky} (h : Lay l t G n k) : Lay l t G (n + 1) k := Cl.base h
theorem Lay_le {l : List Ru} {t : List Int} {G : Ky → Prop} {n : Nat} {k : Ky} (h : Lay l t G n k) : ∀ d, Lay l t G (n + d) k
  | 0 => h
  | d + 1 => Lay_step (Lay_le h d)
theorem Lay_back {l : List Ru} {t : List Int} {G : Ky → Prop} {n : Nat} {k : Ky} (hk : lv t k.rel < (n : Int)) (h : Lay l t G (n + 1) k) : Lay l t G n k := by
  have h : Cl (l.filter fun r => decide (lv t r.head.rel = (n : Int))) (Lay l t G n) (Lay l t G n) k := h
  refine h (fun k => lv t k.rel < (n : Int) → Lay l t G n k) (fun k h _ => h) (fun r hr u _ _ hh => ?_) hk
  have := (List.mem_filter.1 hr).2
  simp only [decide_eq_true_eq] at this
  have hh : lv t r.head.rel < (n : Int) := hh
  omega
theorem Lay_down {l : List Ru} {t : List Int} {G : Ky → Prop} {n : Nat} {k : Ky} (hk : lv t k.rel < (n : Int)) : ∀ d, Lay l t G (n + d) k → Lay l t G n k
  | 0, h => h
  | d + 1, h => Lay_down hk d (Lay_back (n := n + d) (by omega) h)
/-- The model is its own step. -/
theorem Mdl_fix {l : List Ru} {t : List Int} {G : Ky → Prop} (hR : RelOk l) (ht : IsStr l t) (k : Ky) : Mdl l t G k ↔ Cl l G (Mdl l t G) k := by
  have h5 : ∀ r, lv t r ≤ 5 := lv_le (by omega) (ht.le5 hR)
  have hnn : ∀ r, 0 ≤ lv t r := lv_nn ht.nn
  have hdown : ∀ (n : Nat) (k : Ky), n ≤ 6 → lv t k.rel < (n : Int) → Mdl l t G k → Lay l t G n k := fun n k hn hk h => by
    have h : Lay l t G (n + (6 - n)) k := by rw [show n + (6 - n) = 6 from by omega]; exact h
    exact Lay_down hk _ h
  have hup : ∀ (n : Nat) (k : Ky), n ≤ 6 → Lay l t G n k → Mdl l t G k := fun n k hn h => by
    have := Lay_le h (6 - n)
    rw [show n + (6 - n) = 6 from by omega] at this
    exact this
  constructor
  · have : ∀ n, n ≤ 6 → ∀ k, Lay l t G n k → Cl l G (Mdl l t G) k := fun n => by
      induction n with
      | zero => exact fun _ k h => Cl.base h
      | succ n ih =>
        intro hn k h
        have h : Cl (l.filter fun r => decide (lv t r.head.rel = (n : Int))) (Lay l t G n) (Lay l t G n) k := h
        refine h _ (ih (by omega)) fun r hr u h1 h2 => ?_
        obtain ⟨hr, hrn⟩ := List.mem_filter.1 hr
        simp only [decide_eq_true_eq] at hrn
        refine Cl.closed l G _ r hr u h1 (NegOk.antiR (fun b hb hneg k e hk => hdown n k (by omega) ?_ hk) h2)
        have := ht.sol r hr b hb
        rw [nI_pos hneg] at this
        rw [e]; omega
    exact this 6 (Nat.le_refl _) k
  · intro h
    refine h _ (fun k hk => hup 0 k (by omega) hk) fun r hr u h1 h2 => ?_
    obtain ⟨n, hn⟩ : ∃ n : Nat, lv t r.head.rel = n := ⟨(lv t r.head.rel).toNat, by have := hnn r.head.rel; omega⟩
    have h5r := h5 r.head.rel
    refine hup (n + 1) _ (by omega) (Cl.closed (l.filter fun r => decide (lv t r.head.rel = (n : Int))) (Lay l t G n) (Lay l t G n) r (List.mem_filter.2 ⟨hr, by simpa using hn⟩) u ?_ ?_)
    · refine En_monoR (fun b hb hneg k e hk => hdown (n + 1) k (by omega) ?_ hk) h1
      have := ht.sol r hr b hb
      rw [nI_zero hneg] at this
      rw [e]; omega
    · exact h2.anti fun k hk => hup n k (by omega) hk
/-- With strata, the true facts are the model and nothing is open. -/
theorem wf_mdl {l : List Ru} {t : List Int} {G T : Ky → Prop} (hR : RelOk l) (ht : IsStr l t) (hT : IsWF l G T) (k : Ky) : (T k ↔ Mdl l t G k) ∧ (T k ↔ Cl l G T k) := by
  have hk : lv t k.rel < ((lv t k.rel).toNat + 1 : Nat) := by omega
  have hM := Mdl_fix (G := G) hR ht
  have h1 := strat_uniq (X := T) (Y := Cl l G T) (X' := Mdl l t G) (Y' := Mdl l t G) ht.nn ht.sol hT.fix hM (fun _ => Iff.rfl) hM _ k hk
  exact ⟨h1.1, h1.1.trans h1.2.symm⟩
theorem IsL.nil {S : Ky → Prop} {l : List Fa} (h : IsL S l) (hS : ∀ k, ¬ S k) : l = [] := by
  cases l with
  | nil => rfl
  | cons f r => obtain ⟨k, hk, _⟩ := (h.mem f).1 (by simp); exact absurd hk (hS k)
theorem IsL.small {S : Ky → Prop} {l : List DF} (h : IsL S (l.map DF.p)) : ∀ g ∈ l, g.args.length ≤ 2 := fun g hg => by
  obtain ⟨k, _, hk⟩ := (h.mem g.p).1 (List.mem_map.2 ⟨g, hg, rfl⟩)
  have : g.args = (if k.b = 0 then [k.a] else [k.a, k.b]) := (congrArg Fa.args hk).symm
  rw [this]; split <;> simp
theorem c6 {w : World} {s s' : Sl} {l : List DR} {fs : List DF} (hs : NR w s l) (hf : NF w s' fs) (hl : l.length ≤ big) (hb : ∀ r ∈ l, r.body.length ≤ big) (hfl : fs.length ≤ big) (_hxa : ∀ r ∈ l, ∀ x ∈ r.atoms, x.args.length ≤ big) (_hfa : ∀ x ∈ fs, x.args.length ≤ big) :
    Calls Try.prog 6 [.slice s.a s.n s.c, .slice s'.a s'.n s'.c].toArray w fun e w' => e = .returned (.bool true) ∧ Ext w w' := by
  refine (call6 s s' (R := fun v w' => v = .bool true ∧ Ext w w') ?_).mono fun e w' ⟨v, he, hv, hx⟩ => ⟨by rw [he, hv], hx⟩
  refine (c17 hs hl hb).mono fun e w1 ⟨s14, L, he, hL, hLp, x1⟩ => ⟨s14, he, ?_⟩
  refine (c18 (hf.ext x1) hfl).mono fun e w2 ⟨s16, F, he, hFo, hFt, hFp, x2⟩ => ⟨s16, he, ?_⟩
  have hF : NF w2 s16 F := ⟨hFo.sli, fun x hx => (hFt x hx).i⟩
  obtain ⟨hL12, hLz⟩ := of_sz hLp
  obtain ⟨hF26, hFz⟩ := facts_sz hFp
  refine (c16 (hL.ext x2) hF (by omega) (by omega) hLz (fun f hf => by have := hFz f hf; omega)).mono fun e w3 ⟨s17, x, M, he, hM, hMn, hcase, x3⟩ => ⟨s17, x, he, ?_⟩
  have x03 := (x1.trans x2).trans x3
  refine (c17 (hs.ext x03) hl hb).mono fun e w4 ⟨s22, L2, he, hL2, hLp2, x4⟩ => ⟨s22, he, ?_⟩
  refine (c18 (hf.ext (x03.trans x4)) hfl).mono fun e w5 ⟨s24, F2, he, hFo2, hFt2, hFp2, x5⟩ => ⟨s24, he, ?_⟩
  have hF2 : NF w5 s24 F2 := ⟨hFo2.sli, fun x hx => (hFt2 x hx).i⟩
  obtain ⟨hL12', hLz'⟩ := of_sz hLp2
  obtain ⟨hF26', hFz'⟩ := facts_sz hFp2
  have eL : L2.map DR.p = L.map DR.p := by rw [hLp, hLp2]
  have eF : F2.map DF.p = F.map DF.p := by rw [hFp, hFp2]
  refine (c25 (hL2.ext x5) hF2 (by omega) (by omega) hLz' (fun f hf => by have := hFz' f hf; omega)).mono fun e w6 ⟨sA, sB, y, A, B, he, hA, hB, hAn, hBn, hcase2, x6⟩ => ⟨sA, sB, y, he, ?_⟩
  rw [eL, eF] at hcase2
  have x36 := (x4.trans x5).trans x6
  have x06 := x03.trans x36
  rcases hcase2 with ⟨hnv, rfl, _, _⟩ | ⟨hv, rfl, T, hT, hAl, hBl⟩
  · refine cond_intro (fun _ => Join.dir ?_) (fun h => by simp at h)
    rcases hcase with ⟨_, rfl, _⟩ | ⟨h, _⟩ | ⟨h, _⟩
    · exact cond_intro (fun _ => cond_intro (fun _ => (c20 w6).mono fun e w8 ⟨he, x8⟩ => ⟨_, he, rfl, x06.trans x8⟩) (fun h => by simp at h)) (fun h => by simp at h)
    · exact absurd h hnv
    · exact absurd h hnv
  refine cond_intro (fun h => by simp at h) (fun _ => ?_)
  have hBs := hB.len
  refine ⟨fun w9 => Ext w6 w9, ?_, ?_⟩
  · rintro w9 x9
    have x09 := x06.trans x9
    refine Join.dir (cond_intro (fun g => ?_) (fun g => ?_))
    · exact (c20 w9).mono fun e w11 ⟨he, x11⟩ => ⟨_, he, rfl, x09.trans x11⟩
    · have g : ¬ x = 8 := by simpa using g
      rcases hcase with ⟨h, _⟩ | ⟨_, _, h, _⟩ | ⟨_, t, ht, rfl, hMl⟩
      · exact absurd hv h
      · exact absurd h g
      refine cond_intro (fun _ => ?_) (fun h => by simp at h)
      have hR : RelOk (L.map DR.p) := RuleP.rel hv.ru
      have hW := fun k => wf_mdl hR ht hT k
      have heq : A.map DF.p = M.map DF.p := hAl.uniq (hMl.congr fun k => ((hW k).1).symm)
      have hB0 : B.map DF.p = [] := hBl.nil fun k ⟨h1, h2⟩ => h2 ((hW k).2.2 h1)
      have hB0 : B = [] := List.map_eq_nil_iff.1 hB0
      refine (c21 (hA.ext x9) (hM.ext (x36.trans x9)) (by show A.length ≤ 9223372036854775807; omega) (fun y hy => by have := hAl.small y hy; show y.args.length ≤ 9223372036854775807; omega)).mono fun e w12 ⟨he, x12⟩ => ⟨_, he, ?_⟩
      refine cond_intro (fun _ => cond_intro (fun _ => ?_) (fun h => by simp [hBs, hB0] at h)) (fun h => by simp [heq] at h)
      exact (c20 w12).mono fun e w13 ⟨he, x13⟩ => ⟨_, he, rfl, (x09.trans x12).trans x13⟩
  · refine rangeI (fun _ w14 => Ext w6 w14) (by rw [hBs]; show B.length ≤ 9223372036854775807; omega) (Fr.refl _ _) ?_ (fun _ h => h)
    rintro i hi w14 x14 K hK
    have hi : i < B.length := by omega
    refine loadF (hB.ext x14) hi zc36 fun w17 b17 x17 => ⟨_, _, b17.rd, ?_⟩
    have hm := List.getElem_mem hi
    refine (c24 ((hA.ext x14).ext x17) (((hB.ext x14).ext x17).ok _ hm) (by show A.length ≤ 9223372036854775807; omega) (by have := hBl.small _ hm; show (B[i]).args.length ≤ 9223372036854775807; omega)).mono fun e w18 ⟨he, x18⟩ => ⟨_, he, cond_intro (fun h => ?_) (fun _ => hK _ ((x14.trans x17).trans x18))⟩
    have h : (B[i]).p ∈ A.map DF.p := by simpa using h
    obtain ⟨k, hk, e1⟩ := (hAl.mem _).1 h
    obtain ⟨k', hk', e2⟩ := (hBl.mem _).1 (List.mem_map.2 ⟨_, hm, rfl⟩)
    have : k = k' := Ky.f_inj (e1.trans e2.symm)
    subst this
    exact absurd hk hk'.2
end Go.Proofs.Ytoljknamnkkgcaa
