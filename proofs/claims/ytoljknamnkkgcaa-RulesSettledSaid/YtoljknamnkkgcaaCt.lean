/-
  Contracts: is a fact in a list? What conversion leaves of valid arguments.
-/
import Derived.Test.YtoljknamnkkgcaaCs
namespace Go.Proofs.Ytoljknamnkkgcaa
open Go Go.VC
set_option maxHeartbeats 1000000
set_option maxRecDepth 100000

theorem cut_id {n : Nat} {f : Fa} (h : f.args.length ≤ n) : cut n f = f := by cases f; simp only [cut] at h ⊢; rw [List.take_of_length_le h]
theorem cut_small {n : Nat} {f : Fa} (hn : 2 < n) (h : (cut n f).args.length ≤ 2) : cut n f = f := cut_id (by simp [cut] at h; omega)
theorem ofRu_id {r : Ru} (h : RuleP (ofRu r)) : ofRu r = r := by
  obtain ⟨h1, h2, h3⟩ := h
  have hb : r.body.length ≤ 5 := by simp [ofRu] at h1; omega
  have ht : r.body.take 5 = r.body := List.take_of_length_le hb
  have hh := h3 (cut 5 r.head) (by simp [Ru.atoms, ofRu])
  obtain ⟨hd, bd⟩ := r
  simp only at ht hh hb
  have e1 : cut 5 hd = hd := cut_small (by omega) hh.2.2.2.1
  have e2 : bd.map cutL = bd := by
    have : ∀ b ∈ bd, cutL b = b := fun b hbm => by
      have := h3 (cut 5 b.a) (by simp [Ru.atoms, ofRu, ht]; exact .inr ⟨b, hbm, rfl⟩)
      cases b; simp only [cutL] at this ⊢; rw [cut_small (by omega) this.2.2.2.1]
    rw [List.map_congr_left this]; simp
  simp only [ofRu, ht, e1, e2]
theorem ofR_id {l : List Ru} {fs : List Fa} (h : ValidP (ofR l) fs) : ofR l = l := by
  have h1 := h.nl
  have hl : l.length ≤ 12 := by simp [ofR] at h1; omega
  have ht : l.take 12 = l := List.take_of_length_le hl
  have h2 := h.ru
  unfold ofR at h2 ⊢
  rw [ht] at h2 ⊢
  have : ∀ r ∈ l, ofRu r = r := fun r hr => ofRu_id (h2 _ (List.mem_map.2 ⟨r, hr, rfl⟩))
  rw [List.map_congr_left this]; simp
theorem factsC_id {l : List Ru} {fs : List Fa} (h : ValidP l (factsC fs)) : factsC fs = fs := by
  have h1 := h.nf
  have hl : fs.length ≤ 26 := by simp [factsC] at h1; omega
  have ht : fs.take 26 = fs := List.take_of_length_le hl
  have h2 := h.gr
  unfold factsC at h2 ⊢
  rw [ht] at h2 ⊢
  have : ∀ f ∈ fs, cut 9 f = f := fun f hf => cut_small (by omega) (h2 _ (List.mem_map.2 ⟨f, hf, rfl⟩)).2.2.2.1
  rw [List.map_congr_left this]; simp
theorem ru_of {r : Ru} (h : RuleP r) : ofRu r = r := by
  obtain ⟨h1, h2, h3⟩ := h
  obtain ⟨hd, bd⟩ := r
  simp only at h1
  have e1 : cut 5 hd = hd := cut_id (by have := (h3 hd (by simp [Ru.atoms])).2.2.2.1; omega)
  have e2 : bd.map cutL = bd := by
    have : ∀ b ∈ bd, cutL b = b := fun b hbm => by
      have := (h3 b.a (by simp [Ru.atoms]; exact .inr ⟨b, hbm, rfl⟩)).2.2.2.1
      cases b; simp only [cutL] at this ⊢; rw [cut_id (by omega)]
    rw [List.map_congr_left this]; simp
  simp only [ofRu, List.take_of_length_le (show bd.length ≤ 5 by omega), e1, e2]
/-- Valid arguments are handed on as they are. -/
theorem conv_id {l : List Ru} {fs : List Fa} (h : ValidP l fs) : ofR l = l ∧ factsC fs = fs := by
  refine ⟨?_, ?_⟩
  · have h1 := h.nl
    unfold ofR
    rw [List.take_of_length_le (by omega), List.map_congr_left (fun r hr => ru_of (h.ru r hr))]; simp
  · have h1 := h.nf
    unfold factsC
    rw [List.take_of_length_le (by omega), List.map_congr_left (fun f hf => cut_id (n := 9) (by have := (h.gr f hf).2.2.2.1; omega))]; simp
theorem conv_valid {l : List Ru} {fs : List Fa} : ValidP (ofR l) (factsC fs) ↔ ValidP l fs := by
  constructor
  · intro h
    have e1 := ofR_id h
    have e2 := factsC_id h
    rw [e1, e2] at h; exact h
  · intro h
    rw [(conv_id h).1, (conv_id h).2]; exact h
/-! ### within -/
theorem callable66 : callable Try.prog 66 = true := by kernel_rfl
theorem c24 {w : World} {s : Sl} {l : List DF} {f : DF} (hs : NF w s l) (hf : Ints w f.sl f.args) (hl : l.length ≤ big) (hfa : f.args.length ≤ big) :
    Calls Try.prog 24 [.slice s.a s.n s.c, .agg [.int .i64 f.rel, .slice f.sl.a f.sl.n f.sl.c].toArray].toArray w fun e w' => e = .returned (.bool (decide (f.p ∈ l.map DF.p))) ∧ Ext w w' := by
  refine (call24 s f.rel f.sl (R := fun v w' => v = .bool (decide (f.p ∈ l.map DF.p)) ∧ Ext w w') ?_).mono fun e w' ⟨v, he, hv, hx⟩ => ⟨by rw [he, hv], hx⟩
  obtain ⟨b1, x1⟩ := eF_cells w f 36
  refine Let.intro fun w1 e1 => ?_
  have e1 : w1 = w.alloc (.cells (eF f).toArray 36) := e1
  rw [← e1] at b1 x1
  have hn := hs.len
  generalize w.heap.size = q at b1 ⊢
  refine (call65 s 66 [.pointer (some ⟨q, 0, none⟩)] (R := fun v w' => v = .bool (decide (f.p ∈ l.map DF.p)) ∧ Ext w w') ?_).mono fun e w' ⟨v, he, hv, hx⟩ => ⟨_, by rw [he, hv], rfl, hx⟩
  refine (call91 s 66 [.pointer (some ⟨q, 0, none⟩)] (R := fun v w' => ∃ m : Int, v = .int .i64 m ∧ (0 ≤ m ↔ f.p ∈ l.map DF.p) ∧ Ext w w') ?_).mono fun e w' ⟨v, he, m, hv, hm, hx⟩ => ⟨m, by rw [he, hv], ?_, hx⟩
  rotate_left
  · congr 1; exact decide_eq_decide.2 hm
  refine Join.dir (rangeI (fun i w2 => f.p ∉ (l.take i).map DF.p ∧ Ext w1 w2) (by rw [hn]; exact hl) ⟨by simp, Fr.refl _ _⟩ ?_ ?_)
  · rintro i hi w2 ⟨hno, x2⟩ K hK
    have hi : i < l.length := by omega
    have x02 := x1.trans x2
    obtain ⟨p, hp, a1, a2, hr⟩ := Sli.at eF_len (hs.ext x02).sl hi
    have hint := (hs.ok _ (List.getElem_mem hi)).ext x02
    refine ⟨p, hp, a1, a2, _, _, hr, ?_⟩
    rw [callable66]
    show Calls Try.prog 66 _ w2 _
    refine (call66 (l[i]).rel (l[i]).sl ⟨q, 0⟩ (R := fun v w' => v = .bool (decide (f.p = (l[i]).p)) ∧ Ext w2 w') ?_).mono fun e w4 ⟨v, he, hv, x4⟩ => ⟨decide (f.p = (l[i]).p), by rw [he, hv], cond_intro (fun hc => ?_) (fun hc => ?_)⟩
    · obtain ⟨b3, x3⟩ := eF_cells w2 l[i] 36
      refine Let.intro fun w3 e3 => ?_
      have e3 : w3 = w2.alloc (.cells (eF l[i]).toArray 36) := e3
      rw [← e3] at b3 x3
      have bq := (b1.ext x2).ext x3
      refine Join.dir ⟨_, bq.cell 0, _, b3.cell 0, cond_intro (fun g => ?_) (fun g => ?_)⟩
      · have g : f.rel = (l[i]).rel := by simpa using g
        refine ⟨_, bq.cell 1, _, b3.cell 1, (c32 ((hf.ext x02).ext x3) (hint.ext x3) hfa).mono fun e w5 ⟨he, x5⟩ => ⟨_, he, ?_, x3.trans x5⟩⟩
        congr 1
        apply decide_eq_decide.2
        simp [DF.p, g]
      · have g : ¬ f.rel = (l[i]).rel := by simpa using g
        exact ⟨by simp [DF.p, g], x3⟩
    · have hc : f.p = (l[i]).p := by simpa using hc
      refine ⟨(i : Int), rfl, ?_, x02.trans x4⟩
      simp only [show (0 : Int) ≤ (i : Int) by omega, true_iff]
      exact List.mem_map.2 ⟨_, List.getElem_mem hi, hc.symm⟩
    · have hc : ¬ f.p = (l[i]).p := by simpa using hc
      refine hK _ ⟨?_, x2.trans x4⟩
      rw [List.take_succ_eq_append_getElem hi, List.map_append, List.mem_append]
      rintro (h | h)
      · exact hno h
      · simp only [List.map_cons, List.map_nil, List.mem_singleton] at h; exact hc h
  · rintro w2 ⟨hno, x2⟩
    rw [hn, List.take_length] at hno
    refine ⟨-1, rfl, ?_, x1.trans x2⟩
    simp [hno]
end Go.Proofs.Ytoljknamnkkgcaa
