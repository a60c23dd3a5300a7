/-
  Contract: Valid of the reference.
-/
import Derived.Test.YtoljknamnkkgcaaCr
namespace Go.Proofs.Ytoljknamnkkgcaa
open Go Go.VC
set_option maxHeartbeats 1000000
set_option maxRecDepth 100000

theorem rdPair {w : World} {s : Sl} {l : List (Int × Int)} (hs : Sli 2 eP w s l) {i : Nat} (hi : i < l.length) {B : World → Prop}
    (hB : ∀ w5, Blk w5 w.heap.size (eP l[i]) 114 → Ext w w5 → B w5) :
    ∃ p : Pt, s.a = some ⟨p.b, p.o, none⟩ ∧ 0 ≤ (i : Int) ∧ (i : Int) < ((s.n : Nat) : Int) ∧ ∃ a : Int, ∃ b : Int, rd w p.b (p.o + Int.toNat (i : Int) * 2) [.int .i64 a, .int .i64 b] ∧
      Let (w.alloc (.cells (zc Try.prog 114) 114)) fun w4 => StoreOk w4 w.heap.size 0 [.int .i64 a, .int .i64 b] 2 ∧ Let (put w4 w.heap.size 0 [.int .i64 a, .int .i64 b]) fun w5 => B w5 := by
  obtain ⟨p, hp, h2, h3, hr⟩ := Sli.at eP_len hs hi
  obtain ⟨a, b, c⟩ := new_var w 114 (z := zc Try.prog 114) (vs := eP l[i]) (by rw [zc114s, eP_len]) (eP_one _)
  exact ⟨p, hp, h2, h3, _, _, hr, a, hB _ b c⟩
theorem flat_len {l : List Ru} (h : ∀ r ∈ l, r.body.length ≤ 3) : (l.flatMap Ru.atoms).length ≤ 4 * l.length := by
  induction l with
  | nil => simp
  | cons r q ih =>
    have h1 := h r (by simp)
    have h2 := ih fun r' hr' => h r' (by simp [hr'])
    simp only [List.flatMap_cons, List.length_append, List.length_cons, Ru.atoms, List.length_map] at h2 ⊢
    omega
theorem c22 {w : World} {s s' : Sl} {l : List DR} {fs : List DF} (hs : NR w s l) (hf : NF w s' fs) (hl : l.length ≤ big) (hfl : fs.length ≤ big) (hb : ∀ r ∈ l, r.body.length ≤ big) (ha : ∀ r ∈ l, ∀ x ∈ r.atoms, x.args.length ≤ big) (hfa : ∀ x ∈ fs, x.args.length ≤ big) :
    Calls Try.prog 22 [.slice s.a s.n s.c, .slice s'.a s'.n s'.c].toArray w fun e w' => ∃ b : Bool, e = .returned (.bool b) ∧ (b = true ↔ ValidP (l.map DR.p) (fs.map DF.p)) ∧ Ext w w' := by
  refine (call22 s s' (R := fun v w' => ∃ b : Bool, v = .bool b ∧ (b = true ↔ ValidP (l.map DR.p) (fs.map DF.p)) ∧ Ext w w') ?_).mono fun e w' ⟨v, he, b, hv, hx⟩ => ⟨b, by rw [he, hv], hx⟩
  have hn := hs.len
  have hfn := hf.len
  have no : ∀ {w' : World}, Ext w w' → ¬ ValidP (l.map DR.p) (fs.map DF.p) → ∃ b : Bool, Value.bool false = .bool b ∧ (b = true ↔ ValidP (l.map DR.p) (fs.map DF.p)) ∧ Ext w w' := fun hx hv => ⟨false, rfl, by simp [hv], hx⟩
  refine ⟨fun (b25 : Bool) w1 => (b25 = true ↔ l.length > 10 ∨ fs.length > 20) ∧ w1 = w, ?_, ?_⟩
  rotate_left
  · refine cond_intro (fun g => ⟨?_, rfl⟩) (fun g => ⟨?_, rfl⟩)
    · have g : l.length > 10 := by simp [hn] at g; omega
      simp [g]
    · have g : ¬ l.length > 10 := by simp [hn] at g; omega
      simp [g, hfn]; omega
  rintro b25 w1 ⟨hb25, rfl⟩
  refine cond_intro (fun g => ?_) (fun g => ?_)
  · refine no (Fr.refl _ _) fun hv => ?_
    have h1 := hv.nl
    have h2 := hv.nf
    simp at h1 h2
    rcases hb25.1 g with h | h <;> omega
  have hl10 : l.length ≤ 10 := Nat.le_of_not_lt fun h => by rw [hb25.2 (.inl h)] at g; cases g
  have hf20 : fs.length ≤ 20 := Nat.le_of_not_lt fun h => by rw [hb25.2 (.inr h)] at g; cases g
  refine ⟨fun s5 w2 => Own 114 2 eP w1.heap.size w2 s5 ((fs.map DF.p).map szF) ∧ (∀ f ∈ fs, GroundF f.p) ∧ Ext w1 w2, ?_, ?_⟩
  rotate_left
  · -- the facts
    refine rangeSI (fun i (s5 : Sl) w2 => Own 114 2 eP w1.heap.size w2 s5 (((fs.take i).map DF.p).map szF) ∧ (∀ f ∈ fs.take i, GroundF f.p) ∧ Ext w1 w2) (by rw [hfn]; exact hfl) ⟨Own.nil .., by simp, Fr.refl _ _⟩ ?_ ?_
    · rintro i hi s5 w35 ⟨ho, hgr, x35⟩ K hK
      have hi : i < fs.length := by omega
      have hm := List.getElem_mem hi
      refine loadF (hf.ext x35) hi zc36 fun w38 b38 x38 => ⟨_, _, b38.rd, ?_⟩
      have x038 := x35.trans x38
      refine (c31 ((hf.ok _ hm).ext x038) (hfa _ hm)).mono fun e w39 ⟨c, he, hc, x39⟩ => ⟨c, he, cond_intro (fun g => ?_) (fun g => ?_)⟩
      · have g : c = false := by simpa using g
        refine no (x038.trans x39) fun hv => ?_
        rw [hc.2 (hv.gr _ (List.mem_map.2 ⟨_, hm, rfl⟩))] at g; cases g
      have g : c = true := by simpa using g
      have b39 := b38.ext x39
      have hsl := (hf.ok _ hm).len
      refine ⟨_, b39.cell 0, _, b39.cell 1, ?_⟩
      obtain ⟨q1, w40, hb40, q2, w41, hr41, ho41, hf41⟩ := appP (ho.ext (x38.trans x39)) ((fs[i]).rel, (((fs[i]).sl.n : Nat) : Int)) (by simp; omega) (by have := (x038.trans x39).size; exact this)
      refine ⟨q1, w40, hb40, q2, w41, hr41, hK _ _ ⟨?_, fun f hf' => ?_, (x038.trans x39).newer hf41 fun y ⟨a, ha', e⟩ => by have := ((ho.ext (x38.trans x39)).base ha').1; omega⟩⟩
      · rw [List.take_succ_eq_append_getElem hi, List.map_append, List.map_append]
        rw [hsl] at ho41; exact ho41
      · rw [List.take_succ_eq_append_getElem hi, List.mem_append, List.mem_singleton] at hf'
        rcases hf' with hf' | rfl
        · exact hgr f hf'
        · exact hc.1 g
    · rintro s5 w2 ⟨ho, hgr, x2⟩
      rw [hfn, List.take_length] at ho hgr
      exact ⟨ho, hgr, x2⟩
  rintro s5 w2 ⟨ho2, hgr, x2⟩
  refine ⟨fun s5 w3 => Own 114 2 eP w1.heap.size w3 s5 ((fs.map DF.p ++ (l.map DR.p).flatMap Ru.atoms).map szF) ∧ (∀ r ∈ l, RuleP r.p) ∧ Ext w1 w3, ?_, ?_⟩
  · -- the sizes
    rintro s5 w3 ⟨ho3, hru, x3⟩
    generalize hS : (fs.map DF.p ++ (l.map DR.p).flatMap Ru.atoms).map szF = S at ho3
    have hco : Consist (fs.map DF.p ++ (l.map DR.p).flatMap Ru.atoms) ↔ ∀ x ∈ S, ∀ y ∈ S, x.1 = y.1 → x.2 = y.2 := by rw [← hS]; exact consist_sz
    have hSl : S.length ≤ 60 := by
      rw [← hS]
      have := flat_len (l := l.map DR.p) fun r hr => by obtain ⟨q, hq, rfl⟩ := List.mem_map.1 hr; exact (hru q hq).1
      simp at this ⊢; omega
    have h5n := ho3.sli.len
    refine Join.dir (rangeI (fun i w5 => (∀ x ∈ S.take i, ∀ y ∈ S, x.1 = y.1 → x.2 = y.2) ∧ Ext w3 w5) (by rw [h5n]; show S.length ≤ 9223372036854775807; omega) ⟨by simp, Fr.refl _ _⟩ ?_ ?_)
    · rintro i hi w5 ⟨hok, x5⟩ K hK
      have hi : i < S.length := by omega
      refine rdPair (ho3.ext x5).sli hi fun w8 b8 x8 => ?_
      refine Join.dir (rangeI (fun j w10 => (∀ y ∈ S.take j, S[i].1 = y.1 → S[i].2 = y.2) ∧ Ext w8 w10) (by rw [h5n]; show S.length ≤ 9223372036854775807; omega) ⟨by simp, Fr.refl _ _⟩ ?_ ?_)
      · rintro j hj w10 ⟨hok2, x10⟩ K2 hK2
        have hj : j < S.length := by omega
        refine rdPair ((ho3.ext x5).ext (x8.trans x10)).sli hj fun w13 b13 x13 => ?_
        have b8' := (b8.ext x10).ext x13
        have x013 := ((x3.trans x5).trans (x8.trans x10)).trans x13
        refine ⟨fun (b138 : Bool) w14 => (b138 = true ↔ ¬ (S[i].1 = S[j].1 → S[i].2 = S[j].2)) ∧ w14 = w13, ?_, ?_⟩
        · rintro b138 w14 ⟨hb138, rfl⟩
          refine cond_intro (fun g => no x013 fun hv => ?_) (fun g => hK2 _ ⟨fun y hy => ?_, x10.trans x13⟩)
          · exact hb138.1 g fun e => hco.1 hv.co _ (List.getElem_mem hi) _ (List.getElem_mem hj) e
          · rw [List.take_succ_eq_append_getElem hj, List.mem_append, List.mem_singleton] at hy
            rcases hy with hy | rfl
            · exact hok2 y hy
            · exact Classical.byContradiction fun h => by rw [hb138.2 h] at g; cases g
        · refine ⟨by decide, by decide, _, b8'.cell 0, by decide, by decide, _, b13.cell 0, cond_intro (fun g => ⟨by decide, by decide, _, b8'.cell 1, by decide, by decide, _, b13.cell 1, ?_, rfl⟩) (fun g => ⟨?_, rfl⟩)⟩
          · have g : S[i].1 = S[j].1 := by simpa using g
            simp [g]
          · have g : ¬ S[i].1 = S[j].1 := by simpa using g
            simp [g]
      · rintro w9 ⟨hok2, x9⟩
        rw [h5n, List.take_length] at hok2
        refine hK _ ⟨fun x hx => ?_, (x5.trans x8).trans x9⟩
        rw [List.take_succ_eq_append_getElem hi, List.mem_append, List.mem_singleton] at hx
        rcases hx with hx | rfl
        · exact hok x hx
        · exact hok2
    · rintro w4 ⟨hok, x4⟩
      rw [h5n, List.take_length] at hok
      refine ⟨true, rfl, ?_, x3.trans x4⟩
      simp only [true_iff]
      refine ⟨by simpa using hl10, by simpa using hf20, fun f hf => ?_, fun r hr => ?_, hco.2 hok⟩
      · obtain ⟨x, hx, rfl⟩ := List.mem_map.1 hf; exact hgr x hx
      · obtain ⟨x, hx, rfl⟩ := List.mem_map.1 hr; exact hru x hx
  · -- the rules
    refine rangeSI (fun i (s5 : Sl) w15 => Own 114 2 eP w1.heap.size w15 s5 ((fs.map DF.p ++ ((l.take i).map DR.p).flatMap Ru.atoms).map szF) ∧ (∀ r ∈ l.take i, RuleP r.p) ∧ Ext w1 w15) (by rw [hn]; exact hl) ⟨by simpa using ho2, by simp, x2⟩ ?_ ?_
    rotate_left
    · rintro s5 w3 ⟨ho3, hru, x3⟩
      rw [hn, List.take_length] at ho3 hru
      exact ⟨ho3, hru, x3⟩
    rintro i hi s5 w15 ⟨ho15, hru, x15⟩ K hK
    have hi : i < l.length := by omega
    have hm := List.getElem_mem hi
    have hbb := hb _ hm
    have haa := ha _ hm
    have hrp : (l[i]).p ∈ l.map DR.p := List.mem_map.2 ⟨_, hm, rfl⟩
    refine loadRT (hs.ext x15) hi zc94 fun w18 b18 x18 => ?_
    have hro := hs.ok _ hm
    have hbase : (fs.map DF.p ++ ((l.take i).map DR.p).flatMap Ru.atoms).length ≤ 60 := by
      have := flat_len (l := (l.take i).map DR.p) fun r hr => by obtain ⟨q, hq, rfl⟩ := List.mem_map.1 hr; exact (hru q hq).1
      simp at this ⊢; omega
    have htk : fs.map DF.p ++ ((l.take (i + 1)).map DR.p).flatMap Ru.atoms = (fs.map DF.p ++ ((l.take i).map DR.p).flatMap Ru.atoms) ++ (l[i]).p.atoms := by
      rw [List.take_succ_eq_append_getElem hi, List.map_append, List.flatMap_append]; simp
    have hruS : (∀ r ∈ l.take (i + 1), RuleP r.p) ↔ (∀ r ∈ l.take i, RuleP r.p) ∧ RuleP (l[i]).p := by
      rw [List.take_succ_eq_append_getElem hi]
      constructor
      · intro h; exact ⟨fun r hr => h r (List.mem_append_left _ hr), h _ (List.mem_append_right _ (List.mem_singleton.2 rfl))⟩
      · rintro ⟨h1, h2⟩ r hr
        rcases List.mem_append.1 hr with hr | hr
        · exact h1 r hr
        · simp only [List.mem_singleton] at hr; subst hr; exact h2
    have x018 := x15.trans x18
    generalize l[i] = r at b18 hro hbb haa hrp htk hruS
    generalize fs.map DF.p ++ ((l.take i).map DR.p).flatMap Ru.atoms = Ba at ho15 hbase htk
    have hbn := hro.bd.len
    have hatoms : r.p.atoms = r.head.p :: r.body.map (fun b => b.a.p) := by simp [Ru.atoms, DR.p, DL.p]
    refine ⟨fun (b60 : Bool) w19 => (b60 = true ↔ ¬ (FitsF r.head.p ∧ r.body.length ≤ 3)) ∧ Ext w18 w19, ?_, ?_⟩
    rotate_left
    · refine ⟨_, _, rdHead b18, (c62 (hro.hd.ext x018) (haa r.head (by simp [DR.atoms]))).mono fun e w34 ⟨c, he, hc, x34⟩ => ⟨c, he, cond_intro (fun g => ⟨?_, x34⟩) (fun g => ⟨_, (b18.ext x34).cell 2, ?_, x34⟩)⟩⟩
      · have g : c = false := by simpa using g
        simp only [true_iff]
        exact fun h => by rw [hc.2 h.1] at g; cases g
      · have g : c = true := by simpa using g
        have := hc.1 g
        simp [this, hbn]; omega
    rintro b60 w19 ⟨hb60, x19⟩
    have x019 := x018.trans x19
    refine cond_intro (fun g => no x019 fun hv => ?_) (fun g => ?_)
    · have := hv.ru _ hrp
      exact hb60.1 g ⟨this.2.2 _ (by simp [Ru.atoms, DR.p]), by have := this.1; simpa [DR.p] using this⟩
    have hgood : FitsF r.head.p ∧ r.body.length ≤ 3 := Classical.byContradiction fun h => by rw [hb60.2 h] at g; cases g
    obtain ⟨hfh, hb3⟩ := hgood
    have b19 := b18.ext x19
    have ho19 := ho15.ext (x18.trans x19)
    have hsl := hro.hd.len
    refine ⟨_, b19.cell 0, _, b19.cell 1, ?_⟩
    obtain ⟨q1, w20, hb20, q2, w21, hr21, ho21, hf21⟩ := appP ho19 (r.head.rel, ((r.head.sl.n : Nat) : Int)) (by simp; omega) x019.size
    refine ⟨q1, w20, hb20, q2, w21, hr21, ?_⟩
    have x021 : Ext w1 w21 := x019.newer hf21 fun y ⟨a, ha', e⟩ => by have := (ho19.base ha').1; omega
    have hnb : ∀ {w' : World} {s : Sl} {L : List (Int × Int)} {q : Nat} {vs : List Value} {T : TypeId}, Own 114 2 eP w1.heap.size w' s L → Blk w' q vs T → T ≠ 114 → ¬ BlS s q := fun ho hbk hT ⟨a, ha', e⟩ => by
      obtain ⟨cur, hc⟩ := ho.blk ha'
      rw [e] at hc
      exact Blk.ne_ty hbk hc hT rfl
    have b21 := b19.fr hf21 (hnb ho19 b19 (by decide))
    refine ⟨_, _, rdHead b21, (c63 (hro.hd.ext x021) hfh).mono fun e w22 ⟨m74, he, hm74, x22⟩ => ⟨m74, he, ?_⟩⟩
    have b22 := b21.ext x22
    have x022 := x021.trans x22
    rw [hsl] at ho21
    refine ⟨_, b22.cell 2, ?_⟩
    refine ⟨fun (s5 : Sl) (x10 x11 : Int) w23 => Own 114 2 eP w1.heap.size w23 s5 ((Ba ++ r.p.atoms).map szF) ∧ (Bs x10 fun k => ∃ f ∈ r.p.atoms, IsV f k) ∧ (Bs x11 fun k => ∃ c ∈ r.p.body, c.neg = false ∧ IsV c.a k) ∧ (∀ b ∈ r.body, FitsF b.a.p) ∧ Ext w1 w23, ?_, ?_⟩
    · rintro s5 x10 x11 w23 ⟨ho23, h10, h11, hfit, x23⟩
      have hsafe := safe_bits h10 h11
      refine cond_intro (fun g => no x23 fun hv => ?_) (fun g => ?_)
      · have g : x10 ≠ x11 := by simpa using g
        exact g (hsafe.2 (hv.ru _ hrp).2.1)
      · have g : x10 = x11 := by simpa using g
        refine hK _ _ ⟨?_, hruS.2 ⟨hru, by simpa [DR.p] using hb3, hsafe.1 g, fun a ha' => ?_⟩, x23⟩
        · rw [htk]; exact ho23
        · rw [hatoms] at ha'
          rcases List.mem_cons.1 ha' with rfl | ha'
          · exact hfh
          · obtain ⟨b, hbm, rfl⟩ := List.mem_map.1 ha'; exact hfit b hbm
    refine LoopV.intro (fun n (s5 : Sl) (x10 x11 x78 : Int) w24 => ∃ j : Nat, x78 = j ∧ n = r.body.length - j ∧ j ≤ r.body.length ∧ Own 114 2 eP w1.heap.size w24 s5 ((Ba ++ (r.head.p :: (r.body.take j).map (fun b => b.a.p))).map szF) ∧ (Bs x10 fun k => ∃ f ∈ r.head.p :: (r.body.take j).map (fun b => b.a.p), IsV f k) ∧ (Bs x11 fun k => ∃ c ∈ (r.body.take j).map DL.p, c.neg = false ∧ IsV c.a k) ∧ (∀ b ∈ r.body.take j, FitsF b.a.p) ∧ Ext w1 w24) r.body.length
      ⟨0, rfl, rfl, by omega, ?_, hm74.congr fun k => by simp, Bs.zero.congr fun k => by simp, by simp, x022⟩ ?_
    · have := ho21.ext x22
      rw [List.map_append]; exact this
    rintro n s5 x10 x11 x78 w24 ⟨j, rfl, rfl, hj, ho24, h10, h11, hfit, x24⟩
    refine cond_intro (fun g => ?_) (fun g => ?_)
    rotate_left
    · have hjl : j = r.body.length := by simp [hbn] at g; omega
      subst hjl
      rw [List.take_length] at ho24 h10 h11 hfit
      rw [← hatoms] at ho24 h10
      exact ⟨ho24, h10, by simpa [DR.p] using h11, hfit, x24⟩
    have hj : j < r.body.length := by simp [hbn] at g; omega
    have hbm := List.getElem_mem hj
    refine Join.dir (loadLT (hro.ext x24).bd hj zc96 fun w27 b27 x27 => ?_)
    have x027 := x24.trans x27
    have hint := hro.bd.ok _ hbm
    have hbl := haa (r.body[j]).a (by simp [DR.atoms]; exact .inr ⟨_, hbm, rfl⟩)
    have htj : (r.body.take (j + 1)).map (fun b => b.a.p) = (r.body.take j).map (fun b => b.a.p) ++ [(r.body[j]).a.p] := by rw [List.take_succ_eq_append_getElem hj, List.map_append]; rfl
    have htj2 : (r.body.take (j + 1)).map DL.p = (r.body.take j).map DL.p ++ [(r.body[j]).p] := by rw [List.take_succ_eq_append_getElem hj, List.map_append]; rfl
    have htj3 : ∀ b, b ∈ r.body.take (j + 1) ↔ b ∈ r.body.take j ∨ b = r.body[j] := fun b => by rw [List.take_succ_eq_append_getElem hj, List.mem_append, List.mem_singleton]
    have hbin : (r.body[j]).a.p ∈ r.p.atoms := by rw [hatoms]; exact List.mem_cons_of_mem _ (List.mem_map.2 ⟨_, hbm, rfl⟩)
    generalize r.body[j] = b at b27 hint hbl htj htj2 htj3 hbin
    refine ⟨_, _, rdAtom b27, (c62 (hint.ext x027) hbl).mono fun e w28 ⟨c, he, hc, x28⟩ => ⟨c, he, cond_intro (fun g => ?_) (fun g => ?_)⟩⟩
    · have g : c = false := by simpa using g
      refine no (x027.trans x28) fun hv => ?_
      rw [hc.2 ((hv.ru _ hrp).2.2 _ hbin)] at g; cases g
    have g : c = true := by simpa using g
    have hfb := hc.1 g
    have b28 := b27.ext x28
    have x028 := x027.trans x28
    have ho28 := (ho24.ext x27).ext x28
    have hbsl := hint.len
    refine ⟨_, b28.cell 1, _, b28.cell 2, ?_⟩
    have hlen : ((Ba ++ (r.head.p :: (r.body.take j).map (fun b => b.a.p))).map szF).length ≤ 1000000 := by simp; omega
    obtain ⟨q3, w29, hb29, q4, w30, hr30, ho30, hf30⟩ := appP ho28 (b.a.rel, ((b.a.sl.n : Nat) : Int)) hlen x028.size
    refine ⟨q3, w29, hb29, q4, w30, hr30, ?_⟩
    have x030 : Ext w1 w30 := x028.newer hf30 fun y ⟨a, ha', e⟩ => by have := (ho28.base ha').1; omega
    have b30 := b28.fr hf30 (hnb ho28 b28 (by decide))
    rw [hbsl] at ho30
    have ho30' : Own 114 2 eP w1.heap.size w30 q4 ((Ba ++ (r.head.p :: (r.body.take (j + 1)).map (fun b => b.a.p))).map szF) := by
      rw [htj, ← List.cons_append, ← List.append_assoc, List.map_append]; exact ho30
    refine ⟨_, _, rdAtom b30, (c63 (hint.ext x030) hfb).mono fun e w31 ⟨m100, he, hm100, x31⟩ => ⟨m100, he, ?_⟩⟩
    have b31 := b30.ext x31
    have x031 := x030.trans x31
    have h10' : Bs (bitsI .or .i64 x10 m100) fun k => ∃ f ∈ r.head.p :: (r.body.take (j + 1)).map (fun b => b.a.p), IsV f k := (h10.or hm100).congr fun k => by
      rw [htj]
      simp only [List.mem_cons, List.mem_append, List.not_mem_nil, or_false]
      constructor
      · rintro (⟨f, hf', h⟩ | h)
        · exact ⟨f, by rcases hf' with h' | h'; exact .inl h'; exact .inr (.inl h'), h⟩
        · exact ⟨_, .inr (.inr rfl), h⟩
      · rintro ⟨f, hf' | hf' | rfl, h⟩
        · exact .inl ⟨f, .inl hf', h⟩
        · exact .inl ⟨f, .inr hf', h⟩
        · exact .inr h
    refine ⟨_, b31.cell 0, ?_⟩
    refine ⟨fun (x11' : Int) w32 => (Bs x11' fun k => ∃ c ∈ (r.body.take (j + 1)).map DL.p, c.neg = false ∧ IsV c.a k) ∧ Ext w31 w32, ?_, ?_⟩
    · rintro x11' w32 ⟨h11', x32⟩
      exact ⟨r.body.length - (j + 1), by omega, j + 1, by rw [wrap64 (by omega) (by omega)]; rfl, rfl, by omega, (ho30'.ext x31).ext x32, h10', h11', fun b' hb' => by
        rcases (htj3 b').1 hb' with h | rfl
        · exact hfit b' h
        · exact hfb, x031.trans x32⟩
    · refine cond_intro (fun g3 => ?_) (fun g3 => ?_)
      · have g3 : b.neg = false := by simpa using g3
        refine ⟨_, _, rdAtom b31, (c63 (hint.ext x031) hfb).mono fun e w33 ⟨m108, he, hm108, x33⟩ => ⟨m108, he, (h11.or hm108).congr fun k => ?_, x33⟩⟩
        rw [htj2]
        simp only [List.mem_append, List.mem_singleton]
        constructor
        · rintro (⟨c', hc', h⟩ | h)
          · exact ⟨c', .inl hc', h⟩
          · exact ⟨_, .inr rfl, g3, h⟩
        · rintro ⟨c', hc' | rfl, h⟩
          · exact .inl ⟨c', hc', h⟩
          · exact .inr h.2
      · have g3 : b.neg = true := by simpa using g3
        refine ⟨h11.congr fun k => ?_, Fr.refl _ _⟩
        rw [htj2]
        simp only [List.mem_append, List.mem_singleton]
        constructor
        · rintro ⟨c', hc', h⟩; exact ⟨c', .inl hc', h⟩
        · rintro ⟨c', hc' | rfl, h⟩
          · exact ⟨c', hc', h⟩
          · have : b.neg = false := h.1
            rw [g3] at this; cases this
end Go.Proofs.Ytoljknamnkkgcaa
