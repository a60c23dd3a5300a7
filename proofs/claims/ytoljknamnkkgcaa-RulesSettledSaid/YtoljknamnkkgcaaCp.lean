/-
  Contracts: the rules handed to the program.
-/
import Derived.Test.YtoljknamnkkgcaaCo
namespace Go.Proofs.Ytoljknamnkkgcaa
open Go Go.VC
set_option maxHeartbeats 1000000
set_option maxRecDepth 100000

structure RT (w : World) (r : DR) : Prop where
  hd : TI w r.head.sl r.head.args
  sl : Sli 3 eL w r.bs r.body
  ty : ∀ a, r.bs.a = some a → ∃ cur, Blk w a.block cur 54
  bd : ∀ b ∈ r.body, TI w b.a.sl b.a.args
theorem RT.ok {w : World} {r : DR} (h : RT w r) : RulOk w r := ⟨h.hd.i, h.sl, fun b hb => (h.bd b hb).i⟩
theorem RT.fr {M : Nat → Prop} {w w' : World} {r : DR} (h : RT w r) (f : Fr M w w') (h3 : ∀ q cur, Blk w q cur 3 → ¬ M q) (h54 : ∀ q cur, Blk w q cur 54 → ¬ M q) : RT w' r := by
  have hn : ∀ a, r.bs.a = some a → ¬ M a.block := fun a ha => by obtain ⟨cur, hc⟩ := h.ty a ha; exact h54 _ _ hc
  exact ⟨h.hd.fr f h3, h.sl.fr f hn, fun a ha => by obtain ⟨cur, hc⟩ := h.ty a ha; exact ⟨cur, hc.fr f (hn a ha)⟩, fun b hb => (h.bd b hb).fr f h3⟩
theorem RT.ext {w w' : World} {r : DR} (h : RT w r) (x : Ext w w') : RT w' r := h.fr x (fun _ _ _ h => h) (fun _ _ _ h => h)
def cutL (b : Li) : Li := ⟨b.neg, cut 5 b.a⟩
def ofRu (r : Ru) : Ru := ⟨cut 5 r.head, (r.body.take 5).map cutL⟩
def ofR (l : List Ru) : List Ru := (l.take 12).map ofRu
theorem E50 : Elem Try.prog 50 54 3 40 := Elem.of (by kernel_rfl) (by kernel_rfl) (by decide)
theorem zc94 : (zc Try.prog 94).size = 3 := by kernel_rfl
theorem zc96 : (zc Try.prog 96).size = 3 := by kernel_rfl
theorem loadRT {w : World} {s : Sl} {l : List DR} (hs : NR w s l) {i : Nat} (hi : i < l.length) {T : TypeId} (hz : (zc Try.prog T).size = 3) {B : World → Prop}
    (hB : ∀ w5, Blk w5 w.heap.size (eR l[i]) T → Ext w w5 → B w5) :
    ∃ p : Pt, s.a = some ⟨p.b, p.o, none⟩ ∧ 0 ≤ (i : Int) ∧ (i : Int) < ((s.n : Nat) : Int) ∧ ∃ a : Int, ∃ b : Sl, ∃ c : Sl, rd w p.b (p.o + Int.toNat (i : Int) * 3) [.int .i64 a, .slice b.a b.n b.c, .slice c.a c.n c.c] ∧
      Let (w.alloc (.cells (zc Try.prog T) T)) fun w4 => StoreOk w4 w.heap.size 0 [.int .i64 a, .slice b.a b.n b.c, .slice c.a c.n c.c] 3 ∧ Let (put w4 w.heap.size 0 [.int .i64 a, .slice b.a b.n b.c, .slice c.a c.n c.c]) fun w5 => B w5 := by
  obtain ⟨p, hp, h2, h3, hr⟩ := Sli.at eR_len hs.sl hi
  obtain ⟨a, b, c⟩ := new_var w T (z := zc Try.prog T) (vs := eR l[i]) (by rw [hz, eR_len]) (eR_one _)
  exact ⟨p, hp, h2, h3, _, _, _, hr, a, hB _ b c⟩
theorem loadLT {w : World} {s : Sl} {l : List DL} (hs : NL w s l) {i : Nat} (hi : i < l.length) {T : TypeId} (hz : (zc Try.prog T).size = 3) {B : World → Prop}
    (hB : ∀ w5, Blk w5 w.heap.size (eL l[i]) T → Ext w w5 → B w5) :
    ∃ p : Pt, s.a = some ⟨p.b, p.o, none⟩ ∧ 0 ≤ (i : Int) ∧ (i : Int) < ((s.n : Nat) : Int) ∧ ∃ a : Bool, ∃ b : Int, ∃ c : Sl, rd w p.b (p.o + Int.toNat (i : Int) * 3) [.bool a, .int .i64 b, .slice c.a c.n c.c] ∧
      Let (w.alloc (.cells (zc Try.prog T) T)) fun w4 => StoreOk w4 w.heap.size 0 [.bool a, .int .i64 b, .slice c.a c.n c.c] 3 ∧ Let (put w4 w.heap.size 0 [.bool a, .int .i64 b, .slice c.a c.n c.c]) fun w5 => B w5 := by
  obtain ⟨p, hp, h2, h3, hr⟩ := Sli.at eL_len hs.sl hi
  obtain ⟨a, b, c⟩ := new_var w T (z := zc Try.prog T) (vs := eL l[i]) (by rw [hz, eL_len]) (eL_one _)
  exact ⟨p, hp, h2, h3, _, _, _, hr, a, hB _ b c⟩
theorem c17 {w : World} {s : Sl} {l : List DR} (hs : NR w s l) (hl : l.length ≤ big) (hb : ∀ r ∈ l, r.body.length ≤ big) :
    Calls Try.prog 17 [.slice s.a s.n s.c].toArray w fun e w' => ∃ (s' : Sl) (L : List DR), e = .returned (.slice s'.a s'.n s'.c) ∧ NR w' s' L ∧ L.map DR.p = ofR (l.map DR.p) ∧ Ext w w' := by
  refine (call17 s (R := fun v w' => ∃ (s' : Sl) (L : List DR), v = (.slice s'.a s'.n s'.c) ∧ NR w' s' L ∧ L.map DR.p = ofR (l.map DR.p) ∧ Ext w w') ?_).mono fun e w' ⟨v, he, s', L, hv, hx⟩ => ⟨s', L, by rw [he, hv], hx⟩
  have hn := hs.len
  refine ⟨fun s3 w1 => ∃ L : List DR, Own 52 3 eR w.heap.size w1 s3 L ∧ (∀ r ∈ L, RT w1 r) ∧ L.map DR.p = ofR (l.map DR.p) ∧ Ext w w1, ?_, ?_⟩
  · rintro s3 w1 ⟨L, h1, h2, h3, h4⟩; exact ⟨s3, L, rfl, ⟨h1.sli, fun r hr => (h2 r hr).ok⟩, h3, h4⟩
  refine rangeSI (fun i (s3 : Sl) w1 => ∃ L : List DR, Own 52 3 eR w.heap.size w1 s3 L ∧ (∀ r ∈ L, RT w1 r) ∧ i ≤ 12 ∧ L.map DR.p = (l.take i).map (fun r => ofRu r.p) ∧ Ext w w1) (by rw [hn]; exact hl) ⟨[], Own.nil .., by simp, by omega, by simp, Fr.refl _ _⟩ ?_ ?_
  rotate_left
  · rintro s3 w1 ⟨L, ho, hti, hi12, hLp, x1⟩
    refine ⟨L, ho, hti, ?_, x1⟩
    rw [hLp, hn, List.take_length]
    rw [hn] at hi12
    rw [ofR, List.take_of_length_le (by simp; omega)]; simp
  rintro i hi s3 w2 ⟨L, ho, hrt, hi12, hLp, x2⟩ K hK
  have hi : i < l.length := by omega
  refine loadRT (hs.ext x2) hi zc94 fun w5 b5 x5 => cond_intro (fun g => ?_) (fun g => ?_)
  · have g : i = 12 := by simp at g; omega
    refine ⟨L, ho.ext x5, fun r hr => (hrt r hr).ext x5, ?_, x2.trans x5⟩
    rw [hLp, g]; simp [ofR, List.map_take]; rfl
  have g : i < 12 := by simp at g; omega
  have x25 := x2.trans x5
  have hro := (hs.ok _ (List.getElem_mem hi)).ext x25
  have hro0 := hs.ok _ (List.getElem_mem hi)
  have hbb := hb _ (List.getElem_mem hi)
  have hLl : L.length ≤ 12 := by have := congrArg List.length hLp; simp at this; omega
  have hti : (l.take (i + 1)).map (fun r => ofRu r.p) = (l.take i).map (fun r => ofRu r.p) ++ [ofRu (l[i]).p] := by rw [List.take_succ_eq_append_getElem hi, List.map_append]; rfl
  generalize l[i] = r at b5 hro hro0 hbb hti
  refine ⟨_, _, rdHead b5, (c58 hro.hd).mono fun e w6 ⟨y, he, hyp, hyt, hyb, x6⟩ => ⟨_, _, he, rfl, by decide, ?_⟩⟩
  obtain ⟨n1, n2, n3⟩ := new_var w6 52 (z := zc Try.prog 52) (vs := [.int .i64 y.rel, .slice y.sl.a y.sl.n y.sl.c, .slice none 0 0]) (by rw [zc52]; rfl) (by intro v hv; simp at hv; rcases hv with rfl | rfl | rfl <;> rfl)
  refine Let.intro fun w7 e7 => ?_
  rw [← e7] at n1 n2 n3
  refine ⟨n1, Let.intro fun w8 e8 => ?_⟩
  have e8 : w8 = put w7 w6.heap.size 0 [.int .i64 y.rel, .slice y.sl.a y.sl.n y.sl.c, .slice none 0 0] := e8
  rw [← e8] at n2 n3
  have b5 := (b5.ext x6).ext n3
  have hyt8 := hyt.ext n3
  have x58 := (x5.trans x6).trans n3
  have x28 := x2.trans x58
  refine ⟨r.bs, b5.cell 2, ?_⟩
  have hbn := hro.bd.len
  have lq := n2.lt
  have z28 := x28.size
  have z02 := x2.size
  have z58 := x58.size
  have z6 := x6.size
  have z5 := x5.size
  -- the body
  refine ⟨fun w9 => ∃ (sb : Sl) (B : List DL), Blk w9 w6.heap.size [.int .i64 y.rel, .slice y.sl.a y.sl.n y.sl.c, .slice sb.a sb.n sb.c] 52 ∧ Own 54 3 eL w8.heap.size w9 sb B ∧ (∀ b ∈ B, TI w9 b.a.sl b.a.args) ∧ B.map DL.p = (r.p.body.take 5).map cutL ∧ Fr (fun q => q = w6.heap.size) w8 w9, ?_, ?_⟩
  · rintro w9 ⟨sb, B, b9, hob, hbt, hBp, f9⟩
    refine ⟨_, _, _, b9.rd, ?_⟩
    have hf29 : Ext w2 w9 := x58.newer f9 fun q (hq : q = w6.heap.size) => by omega
    have hyt9 : TI w9 y.sl y.args := hyt8.fr f9 fun q cur hq (e : q = w6.heap.size) => by subst e; exact Blk.ne_ty hq n2 (by decide) rfl
    have hob9 := ho.ext hf29
    let R : DR := ⟨y, sb, B⟩
    have hR9 : RT w9 R := ⟨hyt9, hob.sli, fun a ha => hob.blk ha, hbt⟩
    have hbd := buildOne_run E27 (v := .agg [.int .i64 y.rel, .slice y.sl.a y.sl.n y.sl.c, .slice sb.a sb.n sb.c].toArray) (vs := eR R) rfl rfl (by omega) w9
    have x10 := Ext.alloc w9 (.cells (eR R).toArray 52)
    have hs10 : Sli 3 eR (w9.alloc (.cells (eR R).toArray 52)) ⟨some ⟨w9.heap.size, 0, none⟩, 1, 1⟩ [R] := ⟨rfl, Nat.le_refl _, fun _ => ⟨⟨w9.heap.size, 0⟩, rfl, by simpa using (Blk.alloc w9 (eR R) 52).rd⟩⟩
    obtain ⟨s11, w11, hr11, ho11, hf11⟩ := appendSli E27 (hob9.ext x10) hs10 eR_len eR_one (by simp; omega) (by simp [maxLen]; omega) (by have := x2.size; have := hf29.size; have := x10.size; omega) 27
    refine ⟨⟨some ⟨w9.heap.size, 0, none⟩, 1, 1⟩, _, hbd, s11, w11, hr11, hK _ _ ⟨L ++ [R], ho11, fun r' hr' => ?_, by omega, ?_, ?_⟩⟩
    · have hno : ∀ (T : TypeId), T ≠ 52 → ∀ q cur, Blk (w9.alloc (.cells (eR R).toArray 52)) q cur T → ¬ BlS s3 q := fun T hT q cur hq ⟨a, ha, e⟩ => by
        obtain ⟨cur', hc'⟩ := (hob9.ext x10).blk ha
        rw [e] at hc'
        exact Blk.ne_ty hq hc' hT rfl
      have hr10 : RT (w9.alloc (.cells (eR R).toArray 52)) r' := by
        rcases List.mem_append.1 hr' with hr' | hr'
        · exact ((hrt r' hr').ext hf29).ext x10
        · simp only [List.mem_singleton] at hr'; subst hr'; exact hR9.ext x10
      exact hr10.fr hf11 (hno 3 (by decide)) (hno 54 (by decide))
    · rw [List.map_append, hLp, hti]
      congr 1
      simp only [List.map_cons, List.map_nil]
      congr 1
      show (⟨y.p, B.map DL.p⟩ : Ru) = ofRu r.p
      rw [hBp, hyp]; rfl
    · exact ((x2.trans hf29).trans x10).newer hf11 fun q ⟨a, ha, e⟩ => by have := ((hob9.ext x10).base ha).1; omega
  refine rangeI (fun j w12 => ∃ (sb : Sl) (B : List DL), Blk w12 w6.heap.size [.int .i64 y.rel, .slice y.sl.a y.sl.n y.sl.c, .slice sb.a sb.n sb.c] 52 ∧ Own 54 3 eL w8.heap.size w12 sb B ∧ (∀ b ∈ B, TI w12 b.a.sl b.a.args) ∧ B.map DL.p = ((r.p.body.take j).take 5).map cutL ∧ Fr (fun q => q = w6.heap.size) w8 w12) (by rw [hbn]; exact hbb) ⟨⟨none, 0, 0⟩, [], n2, Own.nil .., by simp, by simp, Fr.refl _ _⟩ ?_ ?_
  rotate_left
  · rintro w12 ⟨sb, B, h1, h2, h3, h4, h5⟩
    have e : r.p.body.take r.bs.n = r.p.body := by rw [hbn]; exact List.take_of_length_le (by simp [DR.p])
    rw [e] at h4
    exact ⟨sb, B, h1, h2, h3, h4, h5⟩
  rintro j hj w12 ⟨sb, B, bq, hob, hbt, hBp, f12⟩ K2 hK2
  have hj : j < r.body.length := by omega
  have x012 : Ext w w12 := x28.newer f12 fun q (hq : q = w6.heap.size) => by omega
  refine loadLT (hro0.ext x012).bd hj zc96 fun w15 b15 x15 => Join.dir ?_
  have hbp : r.p.body[j]'(by simpa [DR.p] using hj) = (r.body[j]).p := by simp [DR.p]
  have htk : r.p.body.take (j + 1) = r.p.body.take j ++ [(r.body[j]).p] := by rw [List.take_succ_eq_append_getElem (by simpa [DR.p] using hj), hbp]
  have hint := ((hro0.bd.ok _ (List.getElem_mem hj)).ext x012).ext x15
  have hlj : (r.p.body.take j).length = j := by simp [DR.p]; omega
  generalize r.body[j] = b at b15 htk hint
  have lw12 : w6.heap.size < w12.heap.size := by have := f12.size; omega
  refine cond_intro (fun g2 => ?_) (fun g2 => ?_)
  rotate_left
  · have g2 : 5 ≤ j := by simp at g2; omega
    refine hK2 _ ⟨sb, B, bq.ext x15, hob.ext x15, fun b' hb' => (hbt b' hb').ext x15, ?_, f12.ext x15⟩
    rw [hBp, htk, List.take_append_of_le_length (by omega)]
  have g2 : j < 5 := by simp at g2; omega
  have bq15 := bq.ext x15
  have hob15 := hob.ext x15
  have hnq : ¬ BlS sb w6.heap.size := fun ⟨a, ha, e⟩ => by have := (hob.base ha).1; omega
  have hnl : ¬ BlS sb w12.heap.size := fun ⟨a, ha, e⟩ => by have := (hob.base ha).2; omega
  refine ⟨fun u => Fr (BlS sb) w15 u, Fr.mono (Ext.drew _) fun _ _ h => h.elim, Let.intro fun w17 e17 => ?_⟩
  have x17 : Ext w15 w17 := by rw [e17]; exact Ext.drew _
  refine ⟨sb, fun u hu => (bq15.fr hu hnq).cell 2, b.neg, fun u hu => (b15.fr hu hnl).cell 0, b.a.rel, b.a.sl, fun u hu => rdAtom (b15.fr hu hnl), ?_⟩
  refine (c58 (hint.ext x17)).mono fun e w18 ⟨z, he, hzp, hzt, hzb, x18⟩ => ⟨_, _, he, (x17.trans x18).mono fun _ _ h => h.elim, rfl, by decide, ?_⟩
  let D : DL := ⟨b.neg, z⟩
  have hbd := buildOne_run E50 (v := .agg [.bool b.neg, .int .i64 z.rel, .slice z.sl.a z.sl.n z.sl.c].toArray) (vs := eL D) rfl rfl (by omega) w18
  have x19 := Ext.alloc w18 (.cells (eL D).toArray 54)
  have hs19 : Sli 3 eL (w18.alloc (.cells (eL D).toArray 54)) ⟨some ⟨w18.heap.size, 0, none⟩, 1, 1⟩ [D] := ⟨rfl, Nat.le_refl _, fun _ => ⟨⟨w18.heap.size, 0⟩, rfl, by simpa using (Blk.alloc w18 (eL D) 54).rd⟩⟩
  have x1519 := (x17.trans x18).trans x19
  have hob19 := hob15.ext x1519
  have hBl : B.length ≤ 5 := by have := congrArg List.length hBp; simp at this; omega
  obtain ⟨s20, w20, hr20, ho20, hf20⟩ := appendSli E50 hob19 hs19 eL_len eL_one (by simp; omega) (by simp [maxLen]; omega) (by have := f12.size; have := x15.size; have := x1519.size; omega) 50
  have hf1520 : Fr (BlS sb) w15 w20 := x1519.fr hf20
  have bq20 := bq15.fr hf1520 hnq
  obtain ⟨p1, p2, p3⟩ := (⟨bq20.storeOk (o := 0 + 2) (vs := [.slice s20.a s20.n s20.c]) rfl (by simp [Value.oneCell']) (by simp), by
      have := bq20.put (o := 0 + 2) (vs := [.slice s20.a s20.n s20.c]); exact this, Fr.put ..⟩ : StoreOk w20 w6.heap.size (0 + 2) [.slice s20.a s20.n s20.c] 1 ∧ Blk (put w20 w6.heap.size (0 + 2) [.slice s20.a s20.n s20.c]) w6.heap.size [.int .i64 y.rel, .slice y.sl.a y.sl.n y.sl.c, .slice s20.a s20.n s20.c] 52 ∧ Fr (fun q => q = w6.heap.size) w20 (put w20 w6.heap.size (0 + 2) [.slice s20.a s20.n s20.c]))
  refine ⟨⟨some ⟨w18.heap.size, 0, none⟩, 1, 1⟩, _, hbd, x1519.mono fun _ _ h => h.elim, s20, w20, hr20, hf1520, p1, Let.intro fun w21 e21 => ?_⟩
  have e21 : w21 = put w20 w6.heap.size (0 + 2) [.slice s20.a s20.n s20.c] := e21
  rw [← e21] at p2 p3
  refine hK2 _ ⟨s20, B ++ [D], p2, ho20.fr p3 fun a ha (e : a.block = w6.heap.size) => by have := (ho20.base ha).1; omega, fun b' hb' => ?_, ?_, ?_⟩
  · have h19 : TI (w18.alloc (.cells (eL D).toArray 54)) b'.a.sl b'.a.args := by
      rcases List.mem_append.1 hb' with hb' | hb'
      · exact ((hbt b' hb').ext x15).ext x1519
      · simp only [List.mem_singleton] at hb'; subst hb'; exact hzt.ext x19
    refine (h19.fr hf20 fun q cur hq ⟨a, ha, e⟩ => ?_).fr p3 fun q cur hq (e : q = w6.heap.size) => ?_
    · obtain ⟨cur', hc'⟩ := hob19.blk ha
      rw [e] at hc'
      exact Blk.ne_ty hq hc' (by decide) rfl
    · subst e; exact Blk.ne_ty hq bq20 (by decide) rfl
  · have t1 : (r.p.body.take j).take 5 = r.p.body.take j := List.take_of_length_le (by omega)
    have t2 : (r.p.body.take j ++ [b.p]).take 5 = r.p.body.take j ++ [b.p] := List.take_of_length_le (by rw [List.length_append]; simp only [List.length_singleton]; omega)
    rw [List.map_append, hBp, htk, t1, t2, List.map_append]
    congr 1
    simp only [List.map_cons, List.map_nil]
    congr 1
    show (⟨b.neg, z.p⟩ : Li) = cutL b.p
    rw [hzp]; rfl
  · exact ((f12.ext x15).trans hf1520 fun q hq ⟨a, ha, e⟩ => by have := (hob15.base ha).1; omega).trans p3 fun _ _ h => h
end Go.Proofs.Ytoljknamnkkgcaa
