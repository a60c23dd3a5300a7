/-
  Texts Cs, Ct, Sn, Gb, Dr of this proof, joined.
-/
import Derived.Test.YtoljknamnkkgcaaXe8
import Derived.Test.YtoljknamnkkgcaaProg
import Derived.KernelRfl
import Derived.Test.YtoljknamnkkgcaaRows
import Derived.ProofKit
import Derived.SizedLaws
import Derived.Deep.Slices
/-
  Contract: Valid of the reference.
-/
namespace Go.Proofs.Ytoljknamnkkgcaa
open Go Go.VC
set_option maxHeartbeats 1000000
set_option maxRecDepth 100000

theorem rdPair {w : World} {s : Sl} {l : List (Int × Int)} (hs : Sli 2 eP w s l) {i : Nat} (hi : i < l.length) {B : World → Prop}
    (hB : ∀ w5, Blk w5 w.heap.size (eP l[i]) 114 → Ext w w5 → B w5) :
    ∃ p : Pt, s.a = some ⟨p.b, p.o, none⟩ ∧ 0 ≤ (i : Int) ∧ (i : Int) < ((s.n : Nat) : Int) ∧ ∃ a : Int, ∃ b : Int, rd w p.b (p.o + Int.toNat (i : Int) * 2) [.int .i64 a, .int .i64 b] ∧
      Let (w.alloc (.cells (zc Try.prog 114) 114)) fun w4 => StoreOk w4 w.heap.size 0 [.int .i64 a, .int .i64 b] 2 ∧ Let (put w4 w.heap.size 0 [.int .i64 a, .int .i64 b]) fun w5 => B w5 := by
  obtain ⟨p, hp, h2, h3, hr⟩ := Sli.at eP_len hs hi
  obtain ⟨a, b, c⟩ := new_var w 114 (z := zc Try.prog 114) (vs := eP l[i]) (by rw [zc114s, eP_len]) (eP_one _)
  exact ⟨p, hp, h2, h3, _, _, hr, a, hB _ b c⟩
theorem flat_len {l : List Ru} (h : ∀ r ∈ l, r.body.length ≤ 3) : (l.flatMap Ru.atoms).length ≤ 4 * l.length := by
  induction l with
  | nil => simp
  | cons r q ih =>
    have h1 := h r (by simp)
    have h2 := ih fun r' hr' => h r' (by simp [hr'])
    simp only [List.flatMap_cons, List.length_append, List.length_cons, Ru.atoms, List.length_map] at h2 ⊢
    omega
theorem c22 {w : World} {s s' : Sl} {l : List DR} {fs : List DF} (hs : NR w s l) (hf : NF w s' fs) (hl : l.length ≤ big) (hfl : fs.length ≤ big) (hb : ∀ r ∈ l, r.body.length ≤ big) (ha : ∀ r ∈ l, ∀ x ∈ r.atoms, x.args.length ≤ big) (hfa : ∀ x ∈ fs, x.args.length ≤ big) :
    Calls Try.prog 22 [.slice s.a s.n s.c, .slice s'.a s'.n s'.c].toArray w fun e w' => ∃ b : Bool, e = .returned (.bool b) ∧ (b = true ↔ ValidP (l.map DR.p) (fs.map DF.p)) ∧ Ext w w' := by
  refine (call22 s s' (R := fun v w' => ∃ b : Bool, v = .bool b ∧ (b = true ↔ ValidP (l.map DR.p) (fs.map DF.p)) ∧ Ext w w') ?_).mono fun e w' ⟨v, he, b, hv, hx⟩ => ⟨b, by rw [he, hv], hx⟩
  have hn := hs.len
  have hfn := hf.len
  have no : ∀ {w' : World}, Ext w w' → ¬ ValidP (l.map DR.p) (fs.map DF.p) → ∃ b : Bool, Value.bool false = .bool b ∧ (b = true ↔ ValidP (l.map DR.p) (fs.map DF.p)) ∧ Ext w w' := fun hx hv => ⟨false, rfl, by simp [hv], hx⟩
  refine ⟨fun (b25 : Bool) w1 => (b25 = true ↔ l.length > 10 ∨ fs.length > 20) ∧ w1 = w, ?_, ?_⟩
  rotate_left
  · refine cond_intro (fun g => ⟨?_, rfl⟩) (fun g => ⟨?_, rfl⟩)
    · have g : l.length > 10 := by simp [hn] at g; omega
      simp [g]
    · have g : ¬ l.length > 10 := by simp [hn] at g; omega
      simp [g, hfn]; omega
  rintro b25 w1 ⟨hb25, rfl⟩
  refine cond_intro (fun g => ?_) (fun g => ?_)
  · refine no (Fr.refl _ _) fun hv => ?_
    have h1 := hv.nl
    have h2 := hv.nf
    simp at h1 h2
    rcases hb25.1 g with h | h <;> omega
  have hl10 : l.length ≤ 10 := Nat.le_of_not_lt fun h => by rw [hb25.2 (.inl h)] at g; cases g
  have hf20 : fs.length ≤ 20 := Nat.le_of_not_lt fun h => by rw [hb25.2 (.inr h)] at g; cases g
  refine ⟨fun s5 w2 => Own 114 2 eP w1.heap.size w2 s5 ((fs.map DF.p).map szF) ∧ (∀ f ∈ fs, GroundF f.p) ∧ Ext w1 w2, ?_, ?_⟩
  rotate_left
  · -- the facts
    refine rangeSI (fun i (s5 : Sl) w2 => Own 114 2 eP w1.heap.size w2 s5 (((fs.take i).map DF.p).map szF) ∧ (∀ f ∈ fs.take i, GroundF f.p) ∧ Ext w1 w2) (by rw [hfn]; exact hfl) ⟨Own.nil .., by simp, Fr.refl _ _⟩ ?_ ?_
    · rintro i hi s5 w35 ⟨ho, hgr, x35⟩ K hK
      have hi : i < fs.length := by omega
      have hm := List.getElem_mem hi
      refine loadF (hf.ext x35) hi zc36 fun w38 b38 x38 => ⟨_, _, b38.rd, ?_⟩
      have x038 := x35.trans x38
      refine (c31 ((hf.ok _ hm).ext x038) (hfa _ hm)).mono fun e w39 ⟨c, he, hc, x39⟩ => ⟨c, he, cond_intro (fun g => ?_) (fun g => ?_)⟩
      · have g : c = false := by simpa using g
        refine no (x038.trans x39) fun hv => ?_
        rw [hc.2 (hv.gr _ (List.mem_map.2 ⟨_, hm, rfl⟩))] at g; cases g
      have g : c = true := by simpa using g
      have b39 := b38.ext x39
      have hsl := (hf.ok _ hm).len
      refine ⟨_, b39.cell 0, _, b39.cell 1, ?_⟩
      obtain ⟨q1, w40, hb40, q2, w41, hr41, ho41, hf41⟩ := appP (ho.ext (x38.trans x39)) ((fs[i]).rel, (((fs[i]).sl.n : Nat) : Int)) (by simp; omega) (by have := (x038.trans x39).size; exact this)
      refine ⟨q1, w40, hb40, q2, w41, hr41, hK _ _ ⟨?_, fun f hf' => ?_, (x038.trans x39).newer hf41 fun y ⟨a, ha', e⟩ => by have := ((ho.ext (x38.trans x39)).base ha').1; omega⟩⟩
      · rw [List.take_succ_eq_append_getElem hi, List.map_append, List.map_append]
        rw [hsl] at ho41; exact ho41
      · rw [List.take_succ_eq_append_getElem hi, List.mem_append, List.mem_singleton] at hf'
        rcases hf' with hf' | rfl
        · exact hgr f hf'
        · exact hc.1 g
    · rintro s5 w2 ⟨ho, hgr, x2⟩
      rw [hfn, List.take_length] at ho hgr
      exact ⟨ho, hgr, x2⟩
  rintro s5 w2 ⟨ho2, hgr, x2⟩
  refine ⟨fun s5 w3 => Own 114 2 eP w1.heap.size w3 s5 ((fs.map DF.p ++ (l.map DR.p).flatMap Ru.atoms).map szF) ∧ (∀ r ∈ l, RuleP r.p) ∧ Ext w1 w3, ?_, ?_⟩
  · -- the sizes
    rintro s5 w3 ⟨ho3, hru, x3⟩
    generalize hS : (fs.map DF.p ++ (l.map DR.p).flatMap Ru.atoms).map szF = S at ho3
    have hco : Consist (fs.map DF.p ++ (l.map DR.p).flatMap Ru.atoms) ↔ ∀ x ∈ S, ∀ y ∈ S, x.1 = y.1 → x.2 = y.2 := by rw [← hS]; exact consist_sz
    have hSl : S.length ≤ 60 := by
      rw [← hS]
      have := flat_len (l := l.map DR.p) fun r hr => by obtain ⟨q, hq, rfl⟩ := List.mem_map.1 hr; exact (hru q hq).1
      simp at this ⊢; omega
    have h5n := ho3.sli.len
    refine Join.dir (rangeI (fun i w5 => (∀ x ∈ S.take i, ∀ y ∈ S, x.1 = y.1 → x.2 = y.2) ∧ Ext w3 w5) (by rw [h5n]; show S.length ≤ 9223372036854775807; omega) ⟨by simp, Fr.refl _ _⟩ ?_ ?_)
    · rintro i hi w5 ⟨hok, x5⟩ K hK
      have hi : i < S.length := by omega
      refine rdPair (ho3.ext x5).sli hi fun w8 b8 x8 => ?_
      refine Join.dir (rangeI (fun j w10 => (∀ y ∈ S.take j, S[i].1 = y.1 → S[i].2 = y.2) ∧ Ext w8 w10) (by rw [h5n]; show S.length ≤ 9223372036854775807; omega) ⟨by simp, Fr.refl _ _⟩ ?_ ?_)
      · rintro j hj w10 ⟨hok2, x10⟩ K2 hK2
        have hj : j < S.length := by omega
        refine rdPair ((ho3.ext x5).ext (x8.trans x10)).sli hj fun w13 b13 x13 => ?_
        have b8' := (b8.ext x10).ext x13
        have x013 := ((x3.trans x5).trans (x8.trans x10)).trans x13
        refine ⟨fun (b138 : Bool) w14 => (b138 = true ↔ ¬ (S[i].1 = S[j].1 → S[i].2 = S[j].2)) ∧ w14 = w13, ?_, ?_⟩
        · rintro b138 w14 ⟨hb138, rfl⟩
          refine cond_intro (fun g => no x013 fun hv => ?_) (fun g => hK2 _ ⟨fun y hy => ?_, x10.trans x13⟩)
          · exact hb138.1 g fun e => hco.1 hv.co _ (List.getElem_mem hi) _ (List.getElem_mem hj) e
          · rw [List.take_succ_eq_append_getElem hj, List.mem_append, List.mem_singleton] at hy
            rcases hy with hy | rfl
            · exact hok2 y hy
            · exact Classical.byContradiction fun h => by rw [hb138.2 h] at g; cases g
        · refine ⟨by decide, by decide, _, b8'.cell 0, by decide, by decide, _, b13.cell 0, cond_intro (fun g => ⟨by decide, by decide, _, b8'.cell 1, by decide, by decide, _, b13.cell 1, ?_, rfl⟩) (fun g => ⟨?_, rfl⟩)⟩
          · have g : S[i].1 = S[j].1 := by simpa using g
            simp [g]
          · have g : ¬ S[i].1 = S[j].1 := by simpa using g
            simp [g]
      · rintro w9 ⟨hok2, x9⟩
        rw [h5n, List.take_length] at hok2
        refine hK _ ⟨fun x hx => ?_, (x5.trans x8).trans x9⟩
        rw [List.take_succ_eq_append_getElem hi, List.mem_append, List.mem_singleton] at hx
        rcases hx with hx | rfl
        · exact hok x hx
        · exact hok2
    · rintro w4 ⟨hok, x4⟩
      rw [h5n, List.take_length] at hok
      refine ⟨true, rfl, ?_, x3.trans x4⟩
      simp only [true_iff]
      refine ⟨by simpa using hl10, by simpa using hf20, fun f hf => ?_, fun r hr => ?_, hco.2 hok⟩
      · obtain ⟨x, hx, rfl⟩ := List.mem_map.1 hf; exact hgr x hx
      · obtain ⟨x, hx, rfl⟩ := List.mem_map.1 hr; exact hru x hx
  · -- the rules
    refine rangeSI (fun i (s5 : Sl) w15 => Own 114 2 eP w1.heap.size w15 s5 ((fs.map DF.p ++ ((l.take i).map DR.p).flatMap Ru.atoms).map szF) ∧ (∀ r ∈ l.take i, RuleP r.p) ∧ Ext w1 w15) (by rw [hn]; exact hl) ⟨by simpa using ho2, by simp, x2⟩ ?_ ?_
    rotate_left
    · rintro s5 w3 ⟨ho3, hru, x3⟩
      rw [hn, List.take_length] at ho3 hru
      exact ⟨ho3, hru, x3⟩
    rintro i hi s5 w15 ⟨ho15, hru, x15⟩ K hK
    have hi : i < l.length := by omega
    have hm := List.getElem_mem hi
    have hbb := hb _ hm
    have haa := ha _ hm
    have hrp : (l[i]).p ∈ l.map DR.p := List.mem_map.2 ⟨_, hm, rfl⟩
    refine loadRT (hs.ext x15) hi zc94 fun w18 b18 x18 => ?_
    have hro := hs.ok _ hm
    have hbase : (fs.map DF.p ++ ((l.take i).map DR.p).flatMap Ru.atoms).length ≤ 60 := by
      have := flat_len (l := (l.take i).map DR.p) fun r hr => by obtain ⟨q, hq, rfl⟩ := List.mem_map.1 hr; exact (hru q hq).1
      simp at this ⊢; omega
    have htk : fs.map DF.p ++ ((l.take (i + 1)).map DR.p).flatMap Ru.atoms = (fs.map DF.p ++ ((l.take i).map DR.p).flatMap Ru.atoms) ++ (l[i]).p.atoms := by
      rw [List.take_succ_eq_append_getElem hi, List.map_append, List.flatMap_append]; simp
    have hruS : (∀ r ∈ l.take (i + 1), RuleP r.p) ↔ (∀ r ∈ l.take i, RuleP r.p) ∧ RuleP (l[i]).p := by
      rw [List.take_succ_eq_append_getElem hi]
      constructor
      · intro h; exact ⟨fun r hr => h r (List.mem_append_left _ hr), h _ (List.mem_append_right _ (List.mem_singleton.2 rfl))⟩
      · rintro ⟨h1, h2⟩ r hr
        rcases List.mem_append.1 hr with hr | hr
        · exact h1 r hr
        · simp only [List.mem_singleton] at hr; subst hr; exact h2
    have x018 := x15.trans x18
    generalize l[i] = r at b18 hro hbb haa hrp htk hruS
    generalize fs.map DF.p ++ ((l.take i).map DR.p).flatMap Ru.atoms = Ba at ho15 hbase htk
    have hbn := hro.bd.len
    have hatoms : r.p.atoms = r.head.p :: r.body.map (fun b => b.a.p) := by simp [Ru.atoms, DR.p, DL.p]
    refine ⟨fun (b60 : Bool) w19 => (b60 = true ↔ ¬ (FitsF r.head.p ∧ r.body.length ≤ 3)) ∧ Ext w18 w19, ?_, ?_⟩
    rotate_left
    · refine ⟨_, _, rdHead b18, (c62 (hro.hd.ext x018) (haa r.head (by simp [DR.atoms]))).mono fun e w34 ⟨c, he, hc, x34⟩ => ⟨c, he, cond_intro (fun g => ⟨?_, x34⟩) (fun g => ⟨_, (b18.ext x34).cell 2, ?_, x34⟩)⟩⟩
      · have g : c = false := by simpa using g
        simp only [true_iff]
        exact fun h => by rw [hc.2 h.1] at g; cases g
      · have g : c = true := by simpa using g
        have := hc.1 g
        simp [this, hbn]; omega
    rintro b60 w19 ⟨hb60, x19⟩
    have x019 := x018.trans x19
    refine cond_intro (fun g => no x019 fun hv => ?_) (fun g => ?_)
    · have := hv.ru _ hrp
      exact hb60.1 g ⟨this.2.2 _ (by simp [Ru.atoms, DR.p]), by have := this.1; simpa [DR.p] using this⟩
    have hgood : FitsF r.head.p ∧ r.body.length ≤ 3 := Classical.byContradiction fun h => by rw [hb60.2 h] at g; cases g
    obtain ⟨hfh, hb3⟩ := hgood
    have b19 := b18.ext x19
    have ho19 := ho15.ext (x18.trans x19)
    have hsl := hro.hd.len
    refine ⟨_, b19.cell 0, _, b19.cell 1, ?_⟩
    obtain ⟨q1, w20, hb20, q2, w21, hr21, ho21, hf21⟩ := appP ho19 (r.head.rel, ((r.head.sl.n : Nat) : Int)) (by simp; omega) x019.size
    refine ⟨q1, w20, hb20, q2, w21, hr21, ?_⟩
    have x021 : Ext w1 w21 := x019.newer hf21 fun y ⟨a, ha', e⟩ => by have := (ho19.base ha').1; omega
    have hnb : ∀ {w' : World} {s : Sl} {L : List (Int × Int)} {q : Nat} {vs : List Value} {T : TypeId}, Own 114 2 eP w1.heap.size w' s L → Blk w' q vs T → T ≠ 114 → ¬ BlS s q := fun ho hbk hT ⟨a, ha', e⟩ => by
      obtain ⟨cur, hc⟩ := ho.blk ha'
      rw [e] at hc
      exact Blk.ne_ty hbk hc hT rfl
    have b21 := b19.fr hf21 (hnb ho19 b19 (by decide))
    refine ⟨_, _, rdHead b21, (c63 (hro.hd.ext x021) hfh).mono fun e w22 ⟨m74, he, hm74, x22⟩ => ⟨m74, he, ?_⟩⟩
    have b22 := b21.ext x22
    have x022 := x021.trans x22
    rw [hsl] at ho21
    refine ⟨_, b22.cell 2, ?_⟩
    refine ⟨fun (s5 : Sl) (x10 x11 : Int) w23 => Own 114 2 eP w1.heap.size w23 s5 ((Ba ++ r.p.atoms).map szF) ∧ (Bs x10 fun k => ∃ f ∈ r.p.atoms, IsV f k) ∧ (Bs x11 fun k => ∃ c ∈ r.p.body, c.neg = false ∧ IsV c.a k) ∧ (∀ b ∈ r.body, FitsF b.a.p) ∧ Ext w1 w23, ?_, ?_⟩
    · rintro s5 x10 x11 w23 ⟨ho23, h10, h11, hfit, x23⟩
      have hsafe := safe_bits h10 h11
      refine cond_intro (fun g => no x23 fun hv => ?_) (fun g => ?_)
      · have g : x10 ≠ x11 := by simpa using g
        exact g (hsafe.2 (hv.ru _ hrp).2.1)
      · have g : x10 = x11 := by simpa using g
        refine hK _ _ ⟨?_, hruS.2 ⟨hru, by simpa [DR.p] using hb3, hsafe.1 g, fun a ha' => ?_⟩, x23⟩
        · rw [htk]; exact ho23
        · rw [hatoms] at ha'
          rcases List.mem_cons.1 ha' with rfl | ha'
          · exact hfh
          · obtain ⟨b, hbm, rfl⟩ := List.mem_map.1 ha'; exact hfit b hbm
    refine LoopV.intro (fun n (s5 : Sl) (x10 x11 x78 : Int) w24 => ∃ j : Nat, x78 = j ∧ n = r.body.length - j ∧ j ≤ r.body.length ∧ Own 114 2 eP w1.heap.size w24 s5 ((Ba ++ (r.head.p :: (r.body.take j).map (fun b => b.a.p))).map szF) ∧ (Bs x10 fun k => ∃ f ∈ r.head.p :: (r.body.take j).map (fun b => b.a.p), IsV f k) ∧ (Bs x11 fun k => ∃ c ∈ (r.body.take j).map DL.p, c.neg = false ∧ IsV c.a k) ∧ (∀ b ∈ r.body.take j, FitsF b.a.p) ∧ Ext w1 w24) r.body.length
      ⟨0, rfl, rfl, by omega, ?_, hm74.congr fun k => by simp, Bs.zero.congr fun k => by simp, by simp, x022⟩ ?_
    · have := ho21.ext x22
      rw [List.map_append]; exact this
    rintro n s5 x10 x11 x78 w24 ⟨j, rfl, rfl, hj, ho24, h10, h11, hfit, x24⟩
    refine cond_intro (fun g => ?_) (fun g => ?_)
    rotate_left
    · have hjl : j = r.body.length := by simp [hbn] at g; omega
      subst hjl
      rw [List.take_length] at ho24 h10 h11 hfit
      rw [← hatoms] at ho24 h10
      exact ⟨ho24, h10, by simpa [DR.p] using h11, hfit, x24⟩
    have hj : j < r.body.length := by simp [hbn] at g; omega
    have hbm := List.getElem_mem hj
    refine Join.dir (loadLT (hro.ext x24).bd hj zc96 fun w27 b27 x27 => ?_)
    have x027 := x24.trans x27
    have hint := hro.bd.ok _ hbm
    have hbl := haa (r.body[j]).a (by simp [DR.atoms]; exact .inr ⟨_, hbm, rfl⟩)
    have htj : (r.body.take (j + 1)).map (fun b => b.a.p) = (r.body.take j).map (fun b => b.a.p) ++ [(r.body[j]).a.p] := by rw [List.take_succ_eq_append_getElem hj, List.map_append]; rfl
    have htj2 : (r.body.take (j + 1)).map DL.p = (r.body.take j).map DL.p ++ [(r.body[j]).p] := by rw [List.take_succ_eq_append_getElem hj, List.map_append]; rfl
    have htj3 : ∀ b, b ∈ r.body.take (j + 1) ↔ b ∈ r.body.take j ∨ b = r.body[j] := fun b => by rw [List.take_succ_eq_append_getElem hj, List.mem_append, List.mem_singleton]
    have hbin : (r.body[j]).a.p ∈ r.p.atoms := by rw [hatoms]; exact List.mem_cons_of_mem _ (List.mem_map.2 ⟨_, hbm, rfl⟩)
    generalize r.body[j] = b at b27 hint hbl htj htj2 htj3 hbin
    refine ⟨_, _, rdAtom b27, (c62 (hint.ext x027) hbl).mono fun e w28 ⟨c, he, hc, x28⟩ => ⟨c, he, cond_intro (fun g => ?_) (fun g => ?_)⟩⟩
    · have g : c = false := by simpa using g
      refine no (x027.trans x28) fun hv => ?_
      rw [hc.2 ((hv.ru _ hrp).2.2 _ hbin)] at g; cases g
    have g : c = true := by simpa using g
    have hfb := hc.1 g
    have b28 := b27.ext x28
    have x028 := x027.trans x28
    have ho28 := (ho24.ext x27).ext x28
    have hbsl := hint.len
    refine ⟨_, b28.cell 1, _, b28.cell 2, ?_⟩
    have hlen : ((Ba ++ (r.head.p :: (r.body.take j).map (fun b => b.a.p))).map szF).length ≤ 1000000 := by simp; omega
    obtain ⟨q3, w29, hb29, q4, w30, hr30, ho30, hf30⟩ := appP ho28 (b.a.rel, ((b.a.sl.n : Nat) : Int)) hlen x028.size
    refine ⟨q3, w29, hb29, q4, w30, hr30, ?_⟩
    have x030 : Ext w1 w30 := x028.newer hf30 fun y ⟨a, ha', e⟩ => by have := (ho28.base ha').1; omega
    have b30 := b28.fr hf30 (hnb ho28 b28 (by decide))
    rw [hbsl] at ho30
    have ho30' : Own 114 2 eP w1.heap.size w30 q4 ((Ba ++ (r.head.p :: (r.body.take (j + 1)).map (fun b => b.a.p))).map szF) := by
      rw [htj, ← List.cons_append, ← List.append_assoc, List.map_append]; exact ho30
    refine ⟨_, _, rdAtom b30, (c63 (hint.ext x030) hfb).mono fun e w31 ⟨m100, he, hm100, x31⟩ => ⟨m100, he, ?_⟩⟩
    have b31 := b30.ext x31
    have x031 := x030.trans x31
    have h10' : Bs (bitsI .or .i64 x10 m100) fun k => ∃ f ∈ r.head.p :: (r.body.take (j + 1)).map (fun b => b.a.p), IsV f k := (h10.or hm100).congr fun k => by
      rw [htj]
      simp only [List.mem_cons, List.mem_append, List.not_mem_nil, or_false]
      constructor
      · rintro (⟨f, hf', h⟩ | h)
        · exact ⟨f, by rcases hf' with h' | h'; exact .inl h'; exact .inr (.inl h'), h⟩
        · exact ⟨_, .inr (.inr rfl), h⟩
      · rintro ⟨f, hf' | hf' | rfl, h⟩
        · exact .inl ⟨f, .inl hf', h⟩
        · exact .inl ⟨f, .inr hf', h⟩
        · exact .inr h
    refine ⟨_, b31.cell 0, ?_⟩
    refine ⟨fun (x11' : Int) w32 => (Bs x11' fun k => ∃ c ∈ (r.body.take (j + 1)).map DL.p, c.neg = false ∧ IsV c.a k) ∧ Ext w31 w32, ?_, ?_⟩
    · rintro x11' w32 ⟨h11', x32⟩
      exact ⟨r.body.length - (j + 1), by omega, j + 1, by rw [wrap64 (by omega) (by omega)]; rfl, rfl, by omega, (ho30'.ext x31).ext x32, h10', h11', fun b' hb' => by
        rcases (htj3 b').1 hb' with h | rfl
        · exact hfit b' h
        · exact hfb, x031.trans x32⟩
    · refine cond_intro (fun g3 => ?_) (fun g3 => ?_)
      · have g3 : b.neg = false := by simpa using g3
        refine ⟨_, _, rdAtom b31, (c63 (hint.ext x031) hfb).mono fun e w33 ⟨m108, he, hm108, x33⟩ => ⟨m108, he, (h11.or hm108).congr fun k => ?_, x33⟩⟩
        rw [htj2]
        simp only [List.mem_append, List.mem_singleton]
        constructor
        · rintro (⟨c', hc', h⟩ | h)
          · exact ⟨c', .inl hc', h⟩
          · exact ⟨_, .inr rfl, g3, h⟩
        · rintro ⟨c', hc' | rfl, h⟩
          · exact .inl ⟨c', hc', h⟩
          · exact .inr h.2
      · have g3 : b.neg = true := by simpa using g3
        refine ⟨h11.congr fun k => ?_, Fr.refl _ _⟩
        rw [htj2]
        simp only [List.mem_append, List.mem_singleton]
        constructor
        · rintro ⟨c', hc', h⟩; exact ⟨c', .inl hc', h⟩
        · rintro ⟨c', hc' | rfl, h⟩
          · exact ⟨c', hc', h⟩
          · have : b.neg = false := h.1
            rw [g3] at this; cases this
end Go.Proofs.Ytoljknamnkkgcaa
/-
  Contracts: is a fact in a list? What conversion leaves of valid arguments.
-/
namespace Go.Proofs.Ytoljknamnkkgcaa
open Go Go.VC
set_option maxHeartbeats 1000000
set_option maxRecDepth 100000

theorem cut_id {n : Nat} {f : Fa} (h : f.args.length ≤ n) : cut n f = f := by cases f; simp only [cut] at h ⊢; rw [List.take_of_length_le h]
theorem cut_small {n : Nat} {f : Fa} (hn : 2 < n) (h : (cut n f).args.length ≤ 2) : cut n f = f := cut_id (by simp [cut] at h; omega)
theorem ofRu_id {r : Ru} (h : RuleP (ofRu r)) : ofRu r = r := by
  obtain ⟨h1, h2, h3⟩ := h
  have hb : r.body.length ≤ 5 := by simp [ofRu] at h1; omega
  have ht : r.body.take 5 = r.body := List.take_of_length_le hb
  have hh := h3 (cut 5 r.head) (by simp [Ru.atoms, ofRu])
  obtain ⟨hd, bd⟩ := r
  simp only at ht hh hb
  have e1 : cut 5 hd = hd := cut_small (by omega) hh.2.2.2.1
  have e2 : bd.map cutL = bd := by
    have : ∀ b ∈ bd, cutL b = b := fun b hbm => by
      have := h3 (cut 5 b.a) (by simp [Ru.atoms, ofRu, ht]; exact .inr ⟨b, hbm, rfl⟩)
      cases b; simp only [cutL] at this ⊢; rw [cut_small (by omega) this.2.2.2.1]
    rw [List.map_congr_left this]; simp
  simp only [ofRu, ht, e1, e2]
theorem ofR_id {l : List Ru} {fs : List Fa} (h : ValidP (ofR l) fs) : ofR l = l := by
  have h1 := h.nl
  have hl : l.length ≤ 12 := by simp [ofR] at h1; omega
  have ht : l.take 12 = l := List.take_of_length_le hl
  have h2 := h.ru
  unfold ofR at h2 ⊢
  rw [ht] at h2 ⊢
  have : ∀ r ∈ l, ofRu r = r := fun r hr => ofRu_id (h2 _ (List.mem_map.2 ⟨r, hr, rfl⟩))
  rw [List.map_congr_left this]; simp
theorem factsC_id {l : List Ru} {fs : List Fa} (h : ValidP l (factsC fs)) : factsC fs = fs := by
  have h1 := h.nf
  have hl : fs.length ≤ 26 := by simp [factsC] at h1; omega
  have ht : fs.take 26 = fs := List.take_of_length_le hl
  have h2 := h.gr
  unfold factsC at h2 ⊢
  rw [ht] at h2 ⊢
  have : ∀ f ∈ fs, cut 9 f = f := fun f hf => cut_small (by omega) (h2 _ (List.mem_map.2 ⟨f, hf, rfl⟩)).2.2.2.1
  rw [List.map_congr_left this]; simp
theorem ru_of {r : Ru} (h : RuleP r) : ofRu r = r := by
  obtain ⟨h1, h2, h3⟩ := h
  obtain ⟨hd, bd⟩ := r
  simp only at h1
  have e1 : cut 5 hd = hd := cut_id (by have := (h3 hd (by simp [Ru.atoms])).2.2.2.1; omega)
  have e2 : bd.map cutL = bd := by
    have : ∀ b ∈ bd, cutL b = b := fun b hbm => by
      have := (h3 b.a (by simp [Ru.atoms]; exact .inr ⟨b, hbm, rfl⟩)).2.2.2.1
      cases b; simp only [cutL] at this ⊢; rw [cut_id (by omega)]
    rw [List.map_congr_left this]; simp
  simp only [ofRu, List.take_of_length_le (show bd.length ≤ 5 by omega), e1, e2]
/-- Valid arguments are handed on as they are. -/
theorem conv_id {l : List Ru} {fs : List Fa} (h : ValidP l fs) : ofR l = l ∧ factsC fs = fs := by
  refine ⟨?_, ?_⟩
  · have h1 := h.nl
    unfold ofR
    rw [List.take_of_length_le (by omega), List.map_congr_left (fun r hr => ru_of (h.ru r hr))]; simp
  · have h1 := h.nf
    unfold factsC
    rw [List.take_of_length_le (by omega), List.map_congr_left (fun f hf => cut_id (n := 9) (by have := (h.gr f hf).2.2.2.1; omega))]; simp
theorem conv_valid {l : List Ru} {fs : List Fa} : ValidP (ofR l) (factsC fs) ↔ ValidP l fs := by
  constructor
  · intro h
    have e1 := ofR_id h
    have e2 := factsC_id h
    rw [e1, e2] at h; exact h
  · intro h
    rw [(conv_id h).1, (conv_id h).2]; exact h
/-! ### within -/
theorem callable66 : callable Try.prog 66 = true := by kernel_rfl
theorem c24 {w : World} {s : Sl} {l : List DF} {f : DF} (hs : NF w s l) (hf : Ints w f.sl f.args) (hl : l.length ≤ big) (hfa : f.args.length ≤ big) :
    Calls Try.prog 24 [.slice s.a s.n s.c, .agg [.int .i64 f.rel, .slice f.sl.a f.sl.n f.sl.c].toArray].toArray w fun e w' => e = .returned (.bool (decide (f.p ∈ l.map DF.p))) ∧ Ext w w' := by
  refine (call24 s f.rel f.sl (R := fun v w' => v = .bool (decide (f.p ∈ l.map DF.p)) ∧ Ext w w') ?_).mono fun e w' ⟨v, he, hv, hx⟩ => ⟨by rw [he, hv], hx⟩
  obtain ⟨b1, x1⟩ := eF_cells w f 36
  refine Let.intro fun w1 e1 => ?_
  have e1 : w1 = w.alloc (.cells (eF f).toArray 36) := e1
  rw [← e1] at b1 x1
  have hn := hs.len
  generalize w.heap.size = q at b1 ⊢
  refine (call65 s 66 [.pointer (some ⟨q, 0, none⟩)] (R := fun v w' => v = .bool (decide (f.p ∈ l.map DF.p)) ∧ Ext w w') ?_).mono fun e w' ⟨v, he, hv, hx⟩ => ⟨_, by rw [he, hv], rfl, hx⟩
  refine (call91 s 66 [.pointer (some ⟨q, 0, none⟩)] (R := fun v w' => ∃ m : Int, v = .int .i64 m ∧ (0 ≤ m ↔ f.p ∈ l.map DF.p) ∧ Ext w w') ?_).mono fun e w' ⟨v, he, m, hv, hm, hx⟩ => ⟨m, by rw [he, hv], ?_, hx⟩
  rotate_left
  · congr 1; exact decide_eq_decide.2 hm
  refine Join.dir (rangeI (fun i w2 => f.p ∉ (l.take i).map DF.p ∧ Ext w1 w2) (by rw [hn]; exact hl) ⟨by simp, Fr.refl _ _⟩ ?_ ?_)
  · rintro i hi w2 ⟨hno, x2⟩ K hK
    have hi : i < l.length := by omega
    have x02 := x1.trans x2
    obtain ⟨p, hp, a1, a2, hr⟩ := Sli.at eF_len (hs.ext x02).sl hi
    have hint := (hs.ok _ (List.getElem_mem hi)).ext x02
    refine ⟨p, hp, a1, a2, _, _, hr, ?_⟩
    rw [callable66]
    show Calls Try.prog 66 _ w2 _
    refine (call66 (l[i]).rel (l[i]).sl ⟨q, 0⟩ (R := fun v w' => v = .bool (decide (f.p = (l[i]).p)) ∧ Ext w2 w') ?_).mono fun e w4 ⟨v, he, hv, x4⟩ => ⟨decide (f.p = (l[i]).p), by rw [he, hv], cond_intro (fun hc => ?_) (fun hc => ?_)⟩
    · obtain ⟨b3, x3⟩ := eF_cells w2 l[i] 36
      refine Let.intro fun w3 e3 => ?_
      have e3 : w3 = w2.alloc (.cells (eF l[i]).toArray 36) := e3
      rw [← e3] at b3 x3
      have bq := (b1.ext x2).ext x3
      refine Join.dir ⟨_, bq.cell 0, _, b3.cell 0, cond_intro (fun g => ?_) (fun g => ?_)⟩
      · have g : f.rel = (l[i]).rel := by simpa using g
        refine ⟨_, bq.cell 1, _, b3.cell 1, (c32 ((hf.ext x02).ext x3) (hint.ext x3) hfa).mono fun e w5 ⟨he, x5⟩ => ⟨_, he, ?_, x3.trans x5⟩⟩
        congr 1
        apply decide_eq_decide.2
        simp [DF.p, g]
      · have g : ¬ f.rel = (l[i]).rel := by simpa using g
        exact ⟨by simp [DF.p, g], x3⟩
    · have hc : f.p = (l[i]).p := by simpa using hc
      refine ⟨(i : Int), rfl, ?_, x02.trans x4⟩
      simp only [show (0 : Int) ≤ (i : Int) by omega, true_iff]
      exact List.mem_map.2 ⟨_, List.getElem_mem hi, hc.symm⟩
    · have hc : ¬ f.p = (l[i]).p := by simpa using hc
      refine hK _ ⟨?_, x2.trans x4⟩
      rw [List.take_succ_eq_append_getElem hi, List.map_append, List.mem_append]
      rintro (h | h)
      · exact hno h
      · simp only [List.map_cons, List.map_nil, List.mem_singleton] at h; exact hc h
  · rintro w2 ⟨hno, x2⟩
    rw [hn, List.take_length] at hno
    refine ⟨-1, rfl, ?_, x1.trans x2⟩
    simp [hno]
end Go.Proofs.Ytoljknamnkkgcaa
/-
  Printed by a program of this session (wip/tools/vcprint.py): of each Go function the shallow form, and that the calculus comes to it, by the kernel.
-/
namespace Go.Proofs.Ytoljknamnkkgcaa
open Go Go.VC
set_option maxRecDepth 100000

/-- F9: cubeb/cubeblaw03.RulesEnough -/
def An9 : An := (.sq .lf (.sq (.dr [0, 2, 4, 1, 3, 5, 6, 7, 8, 9, 10, 11] [5] true none) (.sq (.sq (.rj [] [(33, .bool)]) (.cd (.sq (.rj [] [(8, .bool)]) .lf) .lf)) (.sq .lf (.sq (.sq .lf (.bk [(11, .slice)] (.lp [(11, .slice), (45, .int .i64)] (.sq .lf (.sq (.cd .lf .lf) (.sq (.bk [(11, .slice)] (.sq .lf (.sq .lf (.cj [(11, .slice)] .lf .lf)))) .lf)))))) (.sq .lf (.sq .lf (.sq (.rj [] [(8, .bool)]) .lf))))))))
def S9 (s0 : Sl) (s1 : Sl) (x2_0 : Int) (s2_1 : Sl) (x3 : Int) (R : Value → World → Prop) (w : World) : Prop :=
  Let (w.alloc (.cells [(.int .i64 x2_0), (.slice s2_1.a s2_1.n s2_1.c)].toArray 36)) fun w1 => 
  Let (w1.alloc (.cells [(.int .i64 x3)].toArray 3)) fun w2 => 
  ∃ S1 : World → Prop, S1 w2.drew ∧ Let w2.drew fun w3 =>
  ∃ x21_0 : Int, ∃ s21_1 : Sl, (∀ u, S1 u → rd u w.heap.size 0 [(.int .i64 x21_0), (.slice s21_1.a s21_1.n s21_1.c)]) ∧ Calls Try.prog 17 [(.slice s0.a s0.n s0.c)].toArray w3 (fun e w4 => ∃ s18 : Sl, e = .returned (.slice s18.a s18.n s18.c) ∧
  S1 w4 ∧ Calls Try.prog 18 [(.slice s1.a s1.n s1.c)].toArray w4 (fun e_2 w5 => ∃ s20 : Sl, e_2 = .returned (.slice s20.a s20.n s20.c) ∧
  S1 w5 ∧ Calls Try.prog 23 [(.agg [(.int .i64 x21_0), (.slice s21_1.a s21_1.n s21_1.c)].toArray)].toArray w5 (fun e_3 w6 => ∃ x22_0 : Int, ∃ s22_1 : Sl, e_3 = .returned (.agg [(.int .i64 x22_0), (.slice s22_1.a s22_1.n s22_1.c)].toArray) ∧
  Calls Try.prog 30 [(.slice s18.a s18.n s18.c), (.slice s20.a s20.n s20.c), (.agg [(.int .i64 x22_0), (.slice s22_1.a s22_1.n s22_1.c)].toArray)].toArray w6 (fun e_4 w7 => ∃ s23_0 : Sl, ∃ x23_1 : Int, e_4 = .returned (.tuple [(.slice s23_0.a s23_0.n s23_0.c), (.int .i64 x23_1)].toArray) ∧
  S1 w7 ∧ Join [(33, .bool)] (fun (b33 : Bool) (w8 : World) => cond b33 (
  Join [(8, .bool)] (fun (b8 : Bool) (w9 : World) => R (.bool b8) w9) (fun J =>
  cond (x23_1 == (2 : Int)) (Calls Try.prog 20 [].toArray w8 (fun e_5 w10 => ∃ b41 : Bool, e_5 = .returned (.bool b41) ∧
  J b41 w10)) (cond (x23_1 == (3 : Int)) (Calls Try.prog 20 [].toArray w8 (fun e_6 w11 => ∃ b41_2 : Bool, e_6 = .returned (.bool b41_2) ∧
  J b41_2 w11)) (J false w8)))) (
  Join [(11, .slice)] (fun (s11 : Sl) (w12 : World) => Calls Try.prog 17 [(.slice s0.a s0.n s0.c)].toArray w12 (fun e_7 w13 => ∃ s62 : Sl, e_7 = .returned (.slice s62.a s62.n s62.c) ∧
  Calls Try.prog 18 [(.slice s11.a s11.n s11.c)].toArray w13 (fun e_8 w14 => ∃ s64 : Sl, e_8 = .returned (.slice s64.a s64.n s64.c) ∧
  Calls Try.prog 16 [(.slice s62.a s62.n s62.c), (.slice s64.a s64.n s64.c)].toArray w14 (fun e_9 w15 => ∃ s65_0 : Sl, ∃ x65_1 : Int, e_9 = .returned (.tuple [(.slice s65_0.a s65_0.n s65_0.c), (.int .i64 x65_1)].toArray) ∧
  Calls Try.prog 34 [(.slice s23_0.a s23_0.n s23_0.c), (.func (.func 35) #[] [(.pointer (some ⟨w1.heap.size, 0, none⟩))].toArray)].toArray w15 (fun e_10 w16 => ∃ b70 : Bool, e_10 = .returned (.bool b70) ∧
  Join [(8, .bool)] (fun (b8_2 : Bool) (w17 : World) => R (.bool b8_2) w17) (fun J_2 =>
  cond (x65_1 == (0 : Int)) (∃ x76_0 : Int, ∃ s76_1 : Sl, rd w16 w.heap.size 0 [(.int .i64 x76_0), (.slice s76_1.a s76_1.n s76_1.c)] ∧ Calls Try.prog 24 [(.slice s65_0.a s65_0.n s65_0.c), (.agg [(.int .i64 x76_0), (.slice s76_1.a s76_1.n s76_1.c)].toArray)].toArray w16 (fun e_11 w18 => ∃ b77 : Bool, e_11 = .returned (.bool b77) ∧
  cond (b70 == b77) (Calls Try.prog 20 [].toArray w18 (fun e_12 w19 => ∃ b81 : Bool, e_12 = .returned (.bool b81) ∧
  J_2 b81 w19)) (J_2 false w18))) (J_2 false w16))))))) (fun J_3 =>
  LoopV [(11, .slice), (45, .int .i64)] (fun K => K ⟨none, 0, 0⟩ (0 : Int) w8) (fun N => fun (s11_2 : Sl) (x45 : Int) (w20 : World) =>
  cond (decide (x45 < ((s1.n : Nat) : Int))) (
  Join [(11, .slice)] (fun (s11_3 : Sl) (w21 : World) => N ⟨s11_3.a, s11_3.n, s11_3.c⟩ (IntKind.wrap .i64 (x45 + (1 : Int))) w21) (fun J_4 =>
  ∃ p48 : Pt, s1.a = some ⟨p48.b, p48.o, none⟩ ∧ 0 ≤ x45 ∧ x45 < ((s1.n : Nat) : Int) ∧ ∃ x49_0 : Int, ∃ s49_1 : Sl, rd w20 p48.b (p48.o + Int.toNat x45 * 2) [(.int .i64 x49_0), (.slice s49_1.a s49_1.n s49_1.c)] ∧ Let (w20.alloc (.cells (zc Try.prog 36) 36)) fun w22 => 
  StoreOk w22 w20.heap.size 0 [(.int .i64 x49_0), (.slice s49_1.a s49_1.n s49_1.c)] 2 ∧ Let (put w22 w20.heap.size 0 [(.int .i64 x49_0), (.slice s49_1.a s49_1.n s49_1.c)]) fun w23 => 
  ∃ x50 : Int, World.cell? w23 ⟨w1.heap.size, 0, none⟩ = some (.int .i64 x50) ∧ 0 ≤ x45 ∧ Join [(11, .slice)] (fun (s11_4 : Sl) (w24 : World) => J_4 ⟨s11_4.a, s11_4.n, s11_4.c⟩ w24) (fun J_5 =>
  cond ((bitsI .and .i64 (Int.fdiv x50 (2 ^ (min (Int.toNat x45) (IntKind.bits .i64)))) (1 : Int)) == (1 : Int)) (
  ∃ x56_0 : Int, ∃ s56_1 : Sl, rd w23 w20.heap.size 0 [(.int .i64 x56_0), (.slice s56_1.a s56_1.n s56_1.c)] ∧ ∃ (s57 : Sl) (w25 : World), Sem.run Try.prog (Instr.buildSlice 23 1 [(0, (.agg [(.int .i64 x56_0), (.slice s56_1.a s56_1.n s56_1.c)].toArray))].toArray) w23 = .ok (.slice s57.a s57.n s57.c) w25 ∧
  ∃ (s58 : Sl) (w26 : World), Sem.run Try.prog (Builtin.append_ #[23, 23] 23 #[(.slice s11_2.a s11_2.n s11_2.c), (.slice s57.a s57.n s57.c)]) w25 = .ok (.slice s58.a s58.n s58.c) w26 ∧
  J_5 ⟨s58.a, s58.n, s58.c⟩ w26) (
  J_5 ⟨s11_2.a, s11_2.n, s11_2.c⟩ w23)))) (
  J_3 ⟨s11_2.a, s11_2.n, s11_2.c⟩ w20))))) (fun J_6 =>
  cond (x23_1 != (0 : Int)) (J_6 true w7) (Calls Try.prog 22 [(.slice s0.a s0.n s0.c), (.slice s1.a s1.n s1.c)].toArray w7 (fun e_13 w27 => ∃ b31 : Bool, e_13 = .returned (.bool b31) ∧
  J_6 (!b31) w27)))))))
theorem eq9 (s0 : Sl) (s1 : Sl) (x2_0 : Int) (s2_1 : Sl) (x3 : Int) (R : Value → World → Prop) (w : World) : funV Try.prog Try.f9 An9 [(.slice s0.a s0.n s0.c), (.slice s1.a s1.n s1.c), (.agg [(.int .i64 x2_0), (.slice s2_1.a s2_1.n s2_1.c)].toArray), (.int .i64 x3)] R w = S9 s0 s1 x2_0 s2_1 x3 R w := by kernel_rfl
theorem call9 (s0 : Sl) (s1 : Sl) (x2_0 : Int) (s2_1 : Sl) (x3 : Int) {R : Value → World → Prop} {w : World} (h : S9 s0 s1 x2_0 s2_1 x3 R w) : Calls Try.prog 9 [(.slice s0.a s0.n s0.c), (.slice s1.a s1.n s1.c), (.agg [(.int .i64 x2_0), (.slice s2_1.a s2_1.n s2_1.c)].toArray), (.int .i64 x3)].toArray w fun e w' => ∃ v, e = .returned v ∧ R v w' :=
  funV_calls mixed Try.func9 (an := An9) (by rw [eq9]; exact h)

end Go.Proofs.Ytoljknamnkkgcaa
/-
  Contract: the law RulesEnough.
-/
namespace Go.Proofs.Ytoljknamnkkgcaa
open Go Go.VC
set_option maxHeartbeats 1000000
set_option maxRecDepth 100000

theorem bitI_test (x : Int) (i : Nat) : bitI x i = ((x % 18446744073709551616).toNat).testBit i := by
  rw [bitI_eq, Nat.testBit_eq_decide_div_mod_eq]
theorem sub_valid {l : List Ru} {fs gs : List Fa} (h : ValidP l fs) (hl : gs.length ≤ fs.length) (hs : ∀ f ∈ gs, f ∈ fs) : ValidP l gs := by
  refine ⟨h.nl, Nat.le_trans hl h.nf, fun f hf => h.gr f (hs f hf), h.ru, fun x hx y hy e => h.co x ?_ y ?_ e⟩
  · rcases List.mem_append.1 hx with hx | hx
    · exact List.mem_append_left _ (hs x hx)
    · exact List.mem_append_right _ hx
  · rcases List.mem_append.1 hy with hy | hy
    · exact List.mem_append_left _ (hs y hy)
    · exact List.mem_append_right _ hy
theorem subF_len (x : Int) (fs : List Fa) : (subF x fs).length ≤ fs.length := by
  unfold subF
  rw [List.length_map]
  exact Nat.le_trans (List.length_filter_le _ _) (by simp)
/-- The sources tell which sets are enough. -/
theorem srcs_enough {l : List Ru} {fs : List Fa} {k : Ky} (hn : fs.length ≤ 10) {out : List Nat}
    (h : (¬ En' l fs k ((2 ^ fs.length - 1 : Nat) : Int) ∧ out = []) ∨ (En' l fs k ((2 ^ fs.length - 1 : Nat) : Int) ∧ out = srcs (fun n => En' l fs k (n : Int)) (2 ^ fs.length))) (x : Int) :
    (∃ n ∈ out, ∀ i, n.testBit i = true → bitI x i = true) ↔ En' l fs k x := by
  have hpw : 2 ^ fs.length ≤ 1024 := Nat.pow_le_pow_right (n := 2) (by omega) hn
  have hpw0 : 0 < 2 ^ fs.length := Nat.pow_pos (by omega)
  rcases h with ⟨hno, rfl⟩ | ⟨_, rfl⟩
  · refine ⟨fun ⟨n, hn, _⟩ => (by cases hn), fun hx => absurd (hx.mono fun i hi _ => ?_) hno⟩
    rw [bitI_nat (by omega), Nat.testBit_two_pow_sub_one]
    simpa using hi
  · constructor
    · rintro ⟨n, hn, hs⟩
      obtain ⟨hE, hlt⟩ := srcs_sound _ n hn
      have hE : En' l fs k (n : Int) := hE
      exact hE.mono fun i _ hi => hs i (by rw [bitI_nat (by omega)] at hi; exact hi)
    · intro hx
      generalize hm : (x % 18446744073709551616).toNat % 2 ^ fs.length = m
      have hlt : m < 2 ^ fs.length := by rw [← hm]; exact Nat.mod_lt _ hpw0
      have hbit : ∀ i, m.testBit i = (decide (i < fs.length) && bitI x i) := fun i => by rw [← hm, Nat.testBit_mod_two_pow, bitI_test]
      have hEm : En' l fs k (m : Int) := hx.mono fun i hi hb => by rw [bitI_nat (by omega), hbit, hb]; simpa using hi
      obtain ⟨n, hn, hs⟩ := srcs_all (E := fun n => En' l fs k (n : Int)) hEm _ hlt
      refine ⟨n, hn, fun i hi => ?_⟩
      have := hs i hi
      rw [hbit, Bool.and_eq_true] at this
      exact this.2
theorem callable35 : callable Try.prog 35 = true := by kernel_rfl
theorem c35 {w : World} {q : Nat} {y x : Int} (hq : Blk w q [.int .i64 y] 3) :
    Calls Try.prog 35 (([.int .i64 x] : List Value) ++ ([.pointer (some ⟨q, 0, none⟩)] : List Value)).toArray w fun e w' => e = .returned (.bool (bitsI .andNot .i64 x y == (0 : Int))) ∧ Ext w w' :=
  (call35 x ⟨q, 0⟩ (R := fun v w' => v = .bool (bitsI .andNot .i64 x y == (0 : Int)) ∧ Ext w w') ⟨y, hq.cell 0, rfl, Fr.refl _ _⟩).mono fun e w' ⟨v, he, hv, hx⟩ => ⟨by rw [he, hv], hx⟩
theorem any_bits {out : List Nat} {y : Int} (hlt : ∀ n ∈ out, n < 18446744073709551616) : (out.map cI).any (fun x => bitsI .andNot .i64 x y == (0 : Int)) = true ↔ ∃ n ∈ out, ∀ i, n.testBit i = true → bitI y i = true := by
  rw [List.any_eq_true]
  constructor
  · rintro ⟨x, hx, h⟩
    obtain ⟨n, hn, rfl⟩ := List.mem_map.1 hx
    refine ⟨n, hn, fun j hj => (bitI_andNot _ _).1 h j ?_⟩
    show bitI ((n : Nat) : Int) j = true
    rw [bitI_nat (hlt n hn)]; exact hj
  · rintro ⟨n, hn, h⟩
    refine ⟨cI n, List.mem_map.2 ⟨n, hn, rfl⟩, (bitI_andNot _ _).2 fun j hj => ?_⟩
    have hj : bitI ((n : Nat) : Int) j = true := hj
    rw [bitI_nat (hlt n hn)] at hj
    exact h j hj
theorem c9 {w : World} {s s' : Sl} {l : List DR} {fs : List DF} {f : DF} (hs : NR w s l) (hf : NF w s' fs) (hl : l.length ≤ big) (hb : ∀ r ∈ l, r.body.length ≤ big) (hfl : fs.length ≤ big) (ha : ∀ r ∈ l, ∀ x ∈ r.atoms, x.args.length ≤ big) (hfa : ∀ x ∈ fs, x.args.length ≤ big)
    (hx : Ints w f.sl f.args) (hxl : f.args.length ≤ big) (x3 : Int) :
    Calls Try.prog 9 [.slice s.a s.n s.c, .slice s'.a s'.n s'.c, .agg [.int .i64 f.rel, .slice f.sl.a f.sl.n f.sl.c].toArray, .int .i64 x3].toArray w fun e w' => e = .returned (.bool true) ∧ Ext w w' := by
  refine (call9 s s' f.rel f.sl x3 (R := fun v w' => v = .bool true ∧ Ext w w') ?_).mono fun e w' ⟨v, he, hv, hx⟩ => ⟨by rw [he, hv], hx⟩
  have hfn := hf.len
  obtain ⟨b1, x1⟩ := eF_cells w f 36
  refine Let.intro fun w1 e1 => ?_
  have e1 : w1 = w.alloc (.cells (eF f).toArray 36) := e1
  rw [← e1] at b1 x1
  refine Let.intro fun w2 e2 => ?_
  have b2 : Blk w2 w1.heap.size [.int .i64 x3] 3 := by rw [e2]; exact Blk.alloc w1 [.int .i64 x3] 3
  have x2 : Ext w1 w2 := by rw [e2]; exact Ext.alloc ..
  have b1 := b1.ext x2
  have x02 := x1.trans x2
  refine ⟨fun u => Ext w2 u, Ext.drew _, Let.intro fun w3 e3 => ?_⟩
  have x3' : Ext w2 w3 := by rw [e3]; exact Ext.drew _
  have x03 := x02.trans x3'
  refine ⟨f.rel, f.sl, fun u hu => (b1.ext hu).rd, ?_⟩
  refine (c17 (hs.ext x03) hl hb).mono fun e w4 ⟨s18, L, he, hL, hLp, x4⟩ => ⟨s18, he, x3'.trans x4, ?_⟩
  have x04 := x03.trans x4
  refine (c18 (hf.ext x04) hfl).mono fun e w5 ⟨s20, F, he, hFo, hFt, hFp, x5⟩ => ⟨s20, he, (x3'.trans x4).trans x5, ?_⟩
  have hF : NF w5 s20 F := ⟨hFo.sli, fun x hx => (hFt x hx).i⟩
  have x05 := x04.trans x5
  obtain ⟨hL12, hLz⟩ := of_sz hLp
  obtain ⟨hF26, hFz⟩ := facts_sz hFp
  refine (c23 (hx.ext x05)).mono fun e w6 ⟨y, he, hyp, hyt, _, x6⟩ => ⟨y.rel, y.sl, he, ?_⟩
  have x06 := x05.trans x6
  have hyl : y.args.length ≤ 5 := by
    have : y.p.args.length ≤ 5 := by rw [hyp]; exact cut_len 5 f.p
    exact this
  refine (c30 (f := y) ((hL.ext x5).ext x6) (hF.ext x6) hyt.i (by omega) (by omega) hLz (fun f hf => by have := hFz f hf; omega) (by show y.args.length ≤ 9223372036854775807; omega)).mono fun e w7 ⟨s23, x23, out, he, hout, hcase, x7⟩ => ⟨s23, x23, he, ((((x3'.trans x4).trans x5).trans x6).trans x7), ?_⟩
  have x07 := x06.trans x7
  have x27 := ((((x3'.trans x4).trans x5).trans x6).trans x7)
  have hconv : ValidP (L.map DR.p) (F.map DF.p) ↔ ValidP (l.map DR.p) (fs.map DF.p) := by rw [hLp, hFp]; exact conv_valid
  rw [hconv] at hcase
  refine ⟨fun (b33 : Bool) w8 => (b33 = false ↔ (x23 = 0 ∧ ValidP (l.map DR.p) (fs.map DF.p))) ∧ Ext w7 w8, ?_, ?_⟩
  rotate_left
  · refine cond_intro (fun g => ?_) (fun g => ?_)
    · have g : ¬ x23 = 0 := by simpa using g
      exact ⟨⟨(fun h => by cases h), fun h => absurd h.1 g⟩, Fr.refl _ _⟩
    · have g : x23 = 0 := by simpa using g
      refine (c22 (hs.ext x07) (hf.ext x07) hl hfl hb ha hfa).mono fun e w27 ⟨b31, he, hb31, x27'⟩ => ⟨b31, he, ?_, x27'⟩
      constructor
      · intro h; exact ⟨g, hb31.1 (by simpa using h)⟩
      · intro h; rw [hb31.2 h.2]; rfl
  rintro b33 w8 ⟨hb33, x8⟩
  have x08 := x07.trans x8
  have x28 := x27.trans x8
  refine cond_intro (fun g => ?_) (fun g => ?_)
  · subst g
    have hno : ¬ (x23 = 0 ∧ ValidP (l.map DR.p) (fs.map DF.p)) := fun h => by have := hb33.2 h; cases this
    have haw := (c20 w8).mono (R' := fun e w' => ∃ b : Bool, e = .returned (.bool b) ∧ (Value.bool b = .bool true ∧ Ext w w')) fun e w6 ⟨he, x6⟩ => ⟨_, he, rfl, x08.trans x6⟩
    refine Join.dir (cond_intro (fun _ => haw) (fun g1 => cond_intro (fun _ => haw) (fun g2 => ?_)))
    rcases hcase with ⟨_, h, _⟩ | ⟨_, _, h, _⟩ | ⟨⟨hv, _⟩, _, h, _⟩
    · subst h; simp at g1
    · subst h; simp at g2
    · exact absurd ⟨h, hv⟩ hno
  obtain ⟨h0, hv⟩ := hb33.1 g
  obtain ⟨eL, eF⟩ := conv_id hv
  rw [eL] at hLp
  rw [eF] at hFp
  rcases hcase with ⟨_, h, _⟩ | ⟨_, _, h, _⟩ | ⟨⟨_, hyg, hpl⟩, hf10, _, hout2⟩
  · omega
  · omega
  rw [hLp] at hpl
  have hFl : F.length = fs.length := by have := congrArg List.length hFp; simpa using this
  have hcut : cut 5 f.p = f.p := cut_small (by omega) (by rw [← hyp]; exact hyg.2.2.2.1)
  rw [hcut] at hyp
  rw [hyp] at hyg hout2
  rw [hLp, hFp] at hout2
  have hfl10 : (fs.map DF.p).length ≤ 10 := by simp; omega
  have hFl2 : F.length = (fs.map DF.p).length := by simp [hFl]
  rw [hFl2] at hout2
  have hen := srcs_enough hfl10 hout2 x3
  have hlt : ∀ n ∈ out, n < 18446744073709551616 := fun n hn => by
    have hpw : 2 ^ (fs.map DF.p).length ≤ 1024 := Nat.pow_le_pow_right (n := 2) (by omega) hfl10
    rcases hout2 with ⟨_, rfl⟩ | ⟨_, rfl⟩
    · cases hn
    · have := (srcs_sound _ n hn).2; omega
  have hol : out.length ≤ 1024 := by
    have hpw : 2 ^ (fs.map DF.p).length ≤ 1024 := Nat.pow_le_pow_right (n := 2) (by omega) hfl10
    rcases hout2 with ⟨_, rfl⟩ | ⟨_, rfl⟩
    · simp
    · have := srcs_len (E := fun n => En' (l.map DR.p) (fs.map DF.p) f.p.k (n : Int)) (2 ^ (fs.map DF.p).length); omega
  refine ⟨fun s11 w12 => ∃ S : List DF, Own 36 2 Ytoljknamnkkgcaa.eF w8.heap.size w12 s11 S ∧ (∀ x ∈ S, x ∈ fs) ∧ S.map DF.p = subF x3 (fs.map DF.p) ∧ Ext w8 w12, ?_, ?_⟩
  rotate_left
  · refine rangeSI (fun i (s11 : Sl) w20 => ∃ S : List DF, Own 36 2 Ytoljknamnkkgcaa.eF w8.heap.size w20 s11 S ∧ (∀ x ∈ S, x ∈ fs) ∧ S.map DF.p = subF x3 ((fs.take i).map DF.p) ∧ Ext w8 w20) (by rw [hfn]; show fs.length ≤ 9223372036854775807; omega) ⟨[], Own.nil .., by simp, by simp [subF], Fr.refl _ _⟩ ?_ ?_
    rotate_left
    · rintro s11 w20 ⟨S, h1, h2, h3, h4⟩
      rw [hfn, List.take_length] at h3
      exact ⟨S, h1, h2, h3, h4⟩
    rintro i hi s11 w20 ⟨S, ho, hmem, hSp, x20⟩ K hK
    have hi : i < fs.length := by omega
    refine loadF (hf.ext (x08.trans x20)) hi zc36 fun w23 b23 x23' => ⟨_, (b2.ext ((x28.trans x20).trans x23')).cell 0, by omega, Join.dir ?_⟩
    have hti : (fs.take (i + 1)).map DF.p = (fs.take i).map DF.p ++ [(fs[i]).p] := by rw [List.take_succ_eq_append_getElem hi, List.map_append]; rfl
    have hlen : ((fs.take i).map DF.p).length = i := by simp; omega
    have hsn := subF_snoc x3 ((fs.take i).map DF.p) (fs[i]).p
    rw [← hti, hlen] at hsn
    have hSl : S.length ≤ 10 := by
      have h1 := congrArg List.length hSp
      have h2 := subF_len x3 ((fs.take i).map DF.p)
      simp only [List.length_map, List.length_take] at h1 h2; omega
    have hm := List.getElem_mem hi
    have eb : Int.toNat (i : Int) = i := by omega
    rw [eb, bitI_and x3 (by omega)]
    refine cond_intro (fun g => ?_) (fun g => ?_)
    · rw [if_pos g] at hsn
      refine ⟨_, _, b23.rd, ?_⟩
      obtain ⟨s57, w25, hb57, s58, w26, hr58, ho26, hf26⟩ := appendOne E23 (ho.ext x23') (x := fs[i]) (v := .agg [.int .i64 (fs[i]).rel, .slice (fs[i]).sl.a (fs[i]).sl.n (fs[i]).sl.c].toArray) rfl eF_len eF_one (by omega) (by omega) (by simp only [maxLen]; omega) (by have := x20.size; have := x23'.size; omega) 23
      refine ⟨s57, w25, hb57, s58, w26, hr58, hK _ _ ⟨S ++ [fs[i]], ho26, fun z hz => ?_, by rw [List.map_append, hSp, hsn]; rfl, (x20.trans x23').newer hf26 fun q ⟨a, ha, e⟩ => by have := (ho.base ha).1; omega⟩⟩
      rcases List.mem_append.1 hz with hz | hz
      · exact hmem z hz
      · simp only [List.mem_singleton] at hz; subst hz; exact hm
    · rw [if_neg (by rw [g]; simp), List.append_nil] at hsn
      exact hK _ _ ⟨S, ho.ext x23', hmem, by rw [hSp, hsn], x20.trans x23'⟩
  rintro s11 w12 ⟨S, ho, hmem, hSp, x12⟩
  have x012 := x08.trans x12
  have hS : NF w12 s11 S := ⟨ho.sli, fun x hx => (hf.ok x (hmem x hx)).ext x012⟩
  have hvS : ValidP (l.map DR.p) (S.map DF.p) := by rw [hSp]; exact sub_valid hv (subF_len _ _) subF_sub
  have hSl : S.length ≤ 20 := by have := hvS.nf; simpa using this
  refine (c17 (hs.ext x012) hl hb).mono fun e w13 ⟨s62, L2, he, hL2, hLp2, x13⟩ => ⟨s62, he, ?_⟩
  refine (c18 (hS.ext x13) (by show S.length ≤ 9223372036854775807; omega)).mono fun e w14 ⟨s64, F2, he, hFo2, hFt2, hFp2, x14⟩ => ⟨s64, he, ?_⟩
  have hF2 : NF w14 s64 F2 := ⟨hFo2.sli, fun x hx => (hFt2 x hx).i⟩
  obtain ⟨hL12', hLz'⟩ := of_sz hLp2
  obtain ⟨hF26', hFz'⟩ := facts_sz hFp2
  obtain ⟨eL2, eF2⟩ := conv_id hvS
  rw [eL2] at hLp2
  rw [eF2] at hFp2
  have x014 := (x012.trans x13).trans x14
  refine (c16 (hL2.ext x14) hF2 (by omega) (by omega) hLz' (fun f hf => by have := hFz' f hf; omega)).mono fun e w15 ⟨s65, x65, M, he, hM, hMn, hcase2, x15⟩ => ⟨s65, x65, he, ?_⟩
  rw [hLp2, hFp2] at hcase2
  rcases hcase2 with ⟨h, _⟩ | ⟨_, h, _⟩ | ⟨_, t, ht, rfl, hMl⟩
  · exact absurd hvS h
  · exact absurd ⟨_, plain_str hpl⟩ h
  have := ht.uniq (plain_str hpl)
  subst this
  have x015 := x014.trans x15
  have x815 := ((x12.trans x13).trans x14).trans x15
  have hq := b2.ext (x28.trans x815)
  refine (c34 (p := fun x => bitsI .andNot .i64 x x3 == (0 : Int)) callable35 (hout.ext (x8.trans x815)) (by show (out.map cI).length ≤ 9223372036854775807; simp; omega) (fun w' x x' => c35 (hq.ext x'))).mono fun e w16 ⟨he, x16⟩ => ⟨_, he, ?_⟩
  have x016 := x015.trans x16
  refine Join.dir (cond_intro (fun _ => ?_) (fun h => by simp at h))
  refine ⟨f.rel, f.sl, (b1.ext ((x28.trans x815).trans x16)).rd, ?_⟩
  refine (c24 (hM.ext x16) (hx.ext x016) (by show M.length ≤ 9223372036854775807; omega) hxl).mono fun e w18 ⟨he, x18⟩ => ⟨_, he, ?_⟩
  have hkey : f.p ∈ M.map DF.p ↔ En' (l.map DR.p) (fs.map DF.p) f.p.k x3 := by
    rw [hMl.mem]
    have hcl := fun k => Mdl_plain hpl (fun _ => False) (giv (S.map DF.p)) k
    unfold En'
    rw [← hSp]
    constructor
    · rintro ⟨k, hk, e⟩
      rw [← e, Ky.fk]; exact (hcl k).1 hk
    · intro h
      exact ⟨f.p.k, (hcl _).2 h, hyg.kf⟩
  have heq : ((out.map cI).any fun x => bitsI .andNot .i64 x x3 == (0 : Int)) = decide (f.p ∈ M.map DF.p) := by
    have h1 := any_bits (y := x3) hlt
    have h2 := h1.trans (hen.trans hkey.symm)
    cases h3 : ((out.map cI).any fun x => bitsI .andNot .i64 x x3 == (0 : Int)) with
    | true => rw [h3] at h2; simpa using h2.1 rfl
    | false =>
      rw [h3] at h2
      simp only [Bool.false_eq_true, false_iff] at h2
      simp [h2]
  refine cond_intro (fun _ => ?_) (fun h => by rw [heq] at h; simp at h)
  exact (c20 w18).mono fun e w19 ⟨he, x19⟩ => ⟨_, he, rfl, (x016.trans x18).trans x19⟩
end Go.Proofs.Ytoljknamnkkgcaa
/-
  The frame of the rows: rules and facts as arguments.
-/
namespace Go.Proofs.Ytoljknamnkkgcaa
open Go Go.VC Go.ChangeShapes Go.WideShapes Go.RowKit
set_option maxRecDepth 100000

theorem own0 : ownKnob Try.prog.godebug = none := by kernel_rfl
theorem laid0 : laidOutB Try.prog = true := by kernel_rfl
theorem cells3 : Try.prog.cellsOf 3 = 1 := by kernel_rfl
theorem cells34 : Try.prog.cellsOf 34 = 1 := by kernel_rfl
theorem cells36 : Try.prog.cellsOf 36 = 2 := by kernel_rfl
theorem cells91 : Try.prog.cellsOf 91 = 2 := by kernel_rfl
theorem cells92 : Try.prog.cellsOf 92 = 1 := by kernel_rfl
theorem cells94 : Try.prog.cellsOf 94 = 3 := by kernel_rfl
theorem cells96 : Try.prog.cellsOf 96 = 3 := by kernel_rfl
theorem cells4 : Try.prog.cellsOf 4 = 1 := by kernel_rfl

section
variable {H : Type} {enc : TypeId × Value → H} {w : World} {base : Nat} {spare : Nat → Bool} {held : Bool}
/-- Cells that are there one by one. -/
theorem rd_of {b : Nat} : ∀ {vs : List Value} {o : Nat}, (∀ i v, vs[i]? = some v → w.cell? ⟨b, o + i, none⟩ = some v) → rd w b o vs
  | [], _, _ => trivial
  | v :: r, o, h => ⟨by simpa using h 0 v rfl, rd_of fun i u hu => by
      have := h (i + 1) u (by simpa using hu)
      rw [show o + 1 + i = o + (i + 1) from by omega]; exact this⟩
theorem rd_flat {α : Type} {k : Nat} {en : α → List Value} (hk : ∀ x, (en x).length = k) {b o : Nat} {n : Nat} {f : Nat → α} : ∀ {m : Nat}, m ≤ n → (∀ i, i < n → rd w b (o + i * k) (en (f i))) → rd w b o (((List.range m).map f).flatMap en)
  | 0, _, _ => trivial
  | m + 1, hm, h => by
    rw [List.range_succ, List.map_append, List.flatMap_append, rd_append]
    refine ⟨rd_flat hk (by omega) h, ?_⟩
    rw [flatMap_len hk, List.length_map, List.length_range]
    simpa using h m (by omega)
/-- A slice that reads as data, of elements that each are known. -/
theorem open_gen {α : Type} [Inhabited α] {t e k : Nat} (ht : Try.prog.underlying t = some (.slice e)) (hc : Try.prog.cellsOf e = k) (h0k : 0 < k) {en : α → List Value} (hk : ∀ x, (en x).length = k) {Q : α → Prop}
    (hel : ∀ n cs d, DataW.trod enc Try.prog w base spare held n e cs = some d → ∃ x, cs = en x ∧ Q x) {fuel : Nat} {cs : List Value} {x : DataW H × List MemPlace} (hf : DataW.trod enc Try.prog w base spare held fuel t cs = some x) :
    ∃ (s : Sl) (l : List α), cs = [.slice s.a s.n s.c] ∧ Sli k en w s l ∧ (∀ y ∈ l, Q y) ∧ l.length ≤ maxLen := by
  rcases Deep.open_slice ht hf with ⟨hcs, _⟩ | ⟨a', len, cap, m, n, D, Pl, hcs, _, hl, hm, hmm, _, hi⟩
  · exact ⟨⟨none, 0, 0⟩, [], hcs, Sli.nil .., by simp, by simp⟩
  · have hlm : len ≤ m := by rw [hmm]; split <;> omega
    have hall : ∀ i, i < len → ∃ o : α, Q o ∧ ∀ j v, (en o)[j]? = some v → w.cell? (a'.add (i * k + j)) = some v := by
      intro i hil
      obtain ⟨cs', hc', hd⟩ := hi i (by omega)
      obtain ⟨o, rfl, hq⟩ := hel _ _ _ hd
      rw [hc] at hc'
      obtain ⟨_, _, hat⟩ := World.cells?_some hc'
      refine ⟨o, hq, fun j v hv => ?_⟩
      have hj : j < k := by
        rcases Nat.lt_or_ge j k with h | h
        · exact h
        · rw [List.getElem?_eq_none (by rw [hk]; exact h)] at hv; cases hv
      have := hat j hj
      rw [hv] at this
      rw [← this]
      congr 1
      unfold Addr.add
      by_cases h0 : i * k = 0 <;> by_cases h1 : j = 0 <;> simp [h0, h1, Nat.add_assoc]
    have hsp : 0 < len → a'.spot = none := fun h0 => by
      obtain ⟨o, _, ho⟩ := hall 0 h0
      have hne : 0 < (en o).length := by rw [hk]; exact h0k
      have h1 := World.cell?_spot (ho 0 _ (List.getElem?_eq_getElem hne))
      have h2 : a'.add (0 * k + 0) = a' := by unfold Addr.add; simp
      rw [h2] at h1; exact h1
    let f : Nat → α := fun i => if h : i < len then (hall i h).choose else default
    have hff : ∀ i (hil : i < len), f i = (hall i hil).choose := fun i hil => by simp [f, hil]
    have hfc : ∀ i, i < len → rd w a'.block (a'.off + i * k) (en (f i)) := by
      intro i hil
      have h1 := (hall i hil).choose_spec.2
      rw [hff i hil]
      refine rd_of fun j v hv => ?_
      have h3 := h1 j v hv
      obtain ⟨b, o, sp⟩ := a'
      have h4 : sp = none := hsp (by omega)
      subst h4
      rw [addr_add_plain] at h3
      rw [Nat.add_assoc]; exact h3
    refine ⟨⟨some a', len, cap⟩, (List.range len).map f, hcs, ⟨by simp, hl, fun hne => ?_⟩, fun y hy => ?_, by simp; omega⟩
    · have h0 : 0 < len := by
        rcases Nat.eq_zero_or_pos len with h | h
        · subst h; exact absurd rfl hne
        · exact h
      obtain ⟨b, o, sp⟩ := a'
      have h4 : sp = none := hsp h0
      subst h4
      exact ⟨⟨b, o⟩, rfl, rd_flat hk (Nat.le_refl _) hfc⟩
    · obtain ⟨i, hi, rfl⟩ := List.mem_map.1 hy
      have hi := List.mem_range.1 hi
      rw [hff i hi]; exact (hall i hi).choose_spec.1
theorem open_intsl {n : Nat} {cs : List Value} {d : DataW H × List MemPlace} (h : DataW.trod enc Try.prog w base spare held n 34 cs = some d) : ∃ (s : Sl) (l : List Int), cs = [.slice s.a s.n s.c] ∧ Ints w s l ∧ l.length ≤ maxLen := by
  obtain ⟨s, l, h1, h2, _, h3⟩ := open_gen (α := Int) (en := eI) (Q := fun _ => True) Try.underlying34 cells3 (by decide) eI_len (fun n cs d hd => by
    obtain ⟨m, hm, _⟩ := DataW.trod_int Try.underlying3 hd
    exact ⟨m, hm, trivial⟩) h
  exact ⟨s, l, h1, h2, h3⟩
/-- A struct of a Rel and Args. -/
theorem open_fa {T : Nat} {f0 f1 : Field} (hT : Try.prog.underlying T = some (.struct #[f0, f1])) (h0 : f0.type = 3) (o0 : f0.offset = 0) (h1 : f1.type = 34) (o1 : f1.offset = 1) (hc : Try.prog.cellsOf T = 2) {n : Nat} {cs : List Value} {d : DataW H × List MemPlace}
    (h : DataW.trod enc Try.prog w base spare held n T cs = some d) : ∃ y : DF, cs = eF y ∧ Ints w y.sl y.args ∧ y.args.length ≤ maxLen := by
  obtain ⟨y0, y1, m, _, hl, g0, g1⟩ := trod_struct2 hT h
  rw [hc] at hl
  rw [h0, o0, cells3] at g0
  rw [h1, o1, cells34] at g1
  match cs, hl with
  | [c0, c1], _ =>
    obtain ⟨a, ha, _⟩ := DataW.trod_int Try.underlying3 g0
    obtain ⟨s, l, hs, hi, hll⟩ := open_intsl g1
    simp at ha hs
    exact ⟨⟨a, s, l⟩, by rw [ha, hs]; rfl, hi, hll⟩
theorem open_li {n : Nat} {cs : List Value} {d : DataW H × List MemPlace} (h : DataW.trod enc Try.prog w base spare held n 96 cs = some d) : ∃ y : DL, cs = eL y ∧ Ints w y.a.sl y.a.args ∧ y.a.args.length ≤ maxLen := by
  obtain ⟨y0, y1, m, _, hl, g0, g1⟩ := trod_struct2 Try.underlying96 h
  rw [cells96] at hl
  have g0 : DataW.trod enc Try.prog w base spare held m 4 ((cs.drop 0).take (Try.prog.cellsOf 4)) = some y0 := g0
  have g1 : DataW.trod enc Try.prog w base spare held m 91 ((cs.drop 1).take (Try.prog.cellsOf 91)) = some y1 := g1
  rw [cells4] at g0
  rw [cells91] at g1
  match cs, hl with
  | [c0, c1, c2], _ =>
    obtain ⟨b, hb, _⟩ := DataW.trod_bool Try.underlying4 g0
    obtain ⟨y, hy, hi, hll⟩ := open_fa Try.underlying91 rfl rfl rfl rfl cells91 g1
    simp at hb hy
    simp only [eF, List.cons.injEq, and_true] at hy
    exact ⟨⟨b, y⟩, by rw [hb, hy.1, hy.2]; rfl, hi, hll⟩
structure RulB (w : World) (r : DR) : Prop where
  ok : RulOk w r
  nb : r.body.length ≤ maxLen
  na : ∀ x ∈ r.head :: r.body.map (·.a), x.args.length ≤ maxLen
theorem open_ru {n : Nat} {cs : List Value} {d : DataW H × List MemPlace} (h : DataW.trod enc Try.prog w base spare held n 94 cs = some d) : ∃ y : DR, cs = eR y ∧ RulB w y := by
  obtain ⟨y0, y1, m, _, hl, g0, g1⟩ := trod_struct2 Try.underlying94 h
  rw [cells94] at hl
  have g0 : DataW.trod enc Try.prog w base spare held m 91 ((cs.drop 0).take (Try.prog.cellsOf 91)) = some y0 := g0
  have g1 : DataW.trod enc Try.prog w base spare held m 92 ((cs.drop 2).take (Try.prog.cellsOf 92)) = some y1 := g1
  rw [cells91] at g0
  rw [cells92] at g1
  match cs, hl with
  | [c0, c1, c2], _ =>
    obtain ⟨y, hy, hi, hll⟩ := open_fa Try.underlying91 rfl rfl rfl rfl cells91 g0
    obtain ⟨s, l, hs, hsl, hq, hln⟩ := open_gen (α := DL) (en := eL) Try.underlying92 cells96 (by decide) eL_len (fun n cs d hd => open_li hd) g1
    simp at hy hs
    simp only [eF, List.cons.injEq, and_true] at hy
    refine ⟨⟨y, s, l⟩, by rw [hy.1, hy.2, hs]; rfl, ⟨hi, hsl, fun x hx => (hq x hx).1⟩, hln, fun x hx => ?_⟩
    rcases List.mem_cons.1 hx with rfl | hx
    · exact hll
    · obtain ⟨b, hb, rfl⟩ := List.mem_map.1 hx
      exact (hq b hb).2
/-- The rules that are handed over. -/
theorem open_rules {a : Option Addr} {len cap : Nat} {d : DataW H} {ps : List MemPlace} (h : DataW.Trod enc Try.prog w base spare held 22 (.slice a len cap) d ps) :
    ∃ l : List DR, NR w ⟨a, len, cap⟩ l ∧ l.length ≤ maxLen ∧ ∀ r ∈ l, RulB w r := by
  obtain ⟨fuel, hf⟩ := h
  obtain ⟨s, l, hs, hsl, hq, hln⟩ := open_gen (α := DR) (en := eR) Try.underlying22 cells94 (by decide) eR_len (fun n cs d hd => open_ru hd) hf
  simp [Value.cells] at hs
  have e : (⟨a, len, cap⟩ : Sl) = s := by cases s; simp_all
  rw [e]
  exact ⟨l, ⟨hsl, fun r hr => (hq r hr).ok⟩, hln, hq⟩
/-- The facts that are handed over. -/
theorem open_facts {a : Option Addr} {len cap : Nat} {d : DataW H} {ps : List MemPlace} (h : DataW.Trod enc Try.prog w base spare held 23 (.slice a len cap) d ps) :
    ∃ l : List DF, Sli 2 eF w ⟨a, len, cap⟩ l ∧ (∀ x ∈ l, Ints w x.sl x.args) ∧ l.length ≤ maxLen ∧ ∀ x ∈ l, x.args.length ≤ maxLen := by
  obtain ⟨fuel, hf⟩ := h
  obtain ⟨s, l, hs, hsl, hq, hln⟩ := open_gen (α := DF) (en := eF) Try.underlying23 cells36 (by decide) eF_len (fun n cs d hd => open_fa Try.underlying36 rfl rfl rfl rfl cells36 hd) hf
  simp [Value.cells] at hs
  have e : (⟨a, len, cap⟩ : Sl) = s := by cases s; simp_all
  rw [e]
  exact ⟨l, hsl, fun x hx => (hq x hx).1, hln, fun x hx => (hq x hx).2⟩
/-- A fact that is handed over. -/
theorem open_fact {cs : Array Value} {d : DataW H} {ps : List MemPlace} (h : DataW.Trod enc Try.prog w base spare held 36 (.agg cs) d ps) :
    ∃ y : DF, cs = (eF y).toArray ∧ Ints w y.sl y.args ∧ y.args.length ≤ maxLen := by
  obtain ⟨fuel, hf⟩ := h
  obtain ⟨y, hy, hi, hl⟩ := open_fa Try.underlying36 rfl rfl rfl rfl cells36 hf
  refine ⟨y, ?_, hi, hl⟩
  apply Array.ext'
  simpa [Value.cells] using hy
theorem maxLen_big : maxLen ≤ big := by decide
end
end Go.Proofs.Ytoljknamnkkgcaa
