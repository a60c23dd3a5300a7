/-
  Texts Ec, Sf, Ed, Da, Cq, Cr, Cs, Ct, Se, Db, Ee of this proof, joined.
-/
import Derived.Test.YtoljknamnkkgcaaXs7
import Derived.Test.YtoljknamnkkgcaaProg
import Derived.KernelRfl
/-
  Contracts of the reference: Strata, Needed.
-/
namespace Go.Proofs.Ytoljknamnkkgcaa
open Go Go.VC
set_option maxHeartbeats 1000000
set_option maxRecDepth 100000

theorem set_lv {s : List Int} (hl : s.length = 6) {h : Int} (h0 : 0 ≤ h) (h1 : h ≤ 5) : s.set h.toNat (lv s h) = s := by
  refine ext6 (by simp [hl]) hl fun x x0 x1 => ?_
  rw [lv_set hl h0 h1 _ x0 x1]
  split
  · rename_i e; rw [e]
  · rfl
theorem set_max {s : List Int} (hl : s.length = 6) {h : Int} (h0 : 0 ≤ h) (h1 : h ≤ 5) (b : Li) : s.set h.toNat (if lv s b.a.rel + nI b > lv s h then lv s b.a.rel + nI b else lv s h) = stepB h s b := by
  unfold stepB
  by_cases g : lv s h < lv s b.a.rel + nI b
  · rw [if_pos g, if_pos g]
  · rw [if_neg g, if_neg g, set_lv hl h0 h1]
theorem c38 {w : World} {s : Sl} {l : List DR} (hs : NR w s l) (hl : l.length ≤ 10) (hb3 : ∀ r ∈ l, r.body.length ≤ 3) (hR : RelOk (l.map DR.p)) :
    Calls Try.prog 38 [.slice s.a s.n s.c].toArray w fun e w' => ∃ (s' : Sl) (x : Int) (T : List Int), e = .returned (.tuple [.slice s'.a s'.n s'.c, .int .i64 x].toArray) ∧ Ints w' s' T ∧ T.length ≤ 6 ∧ ((IsStr (l.map DR.p) T ∧ x = 0) ∨ ((¬ ∃ t, IsStr (l.map DR.p) t) ∧ x = 8 ∧ T = [])) ∧ Ext w w' := by
  refine (call38 s (R := fun v w' => ∃ (s' : Sl) (x : Int) (T : List Int), v = (.tuple [.slice s'.a s'.n s'.c, .int .i64 x].toArray) ∧ Ints w' s' T ∧ T.length ≤ 6 ∧ ((IsStr (l.map DR.p) T ∧ x = 0) ∨ ((¬ ∃ t, IsStr (l.map DR.p) t) ∧ x = 8 ∧ T = [])) ∧ Ext w w') ?_).mono fun e w' ⟨v, he, s', x, T, hv, hx⟩ => ⟨s', x, T, by rw [he, hv], hx⟩
  have hsn := hs.len
  generalize hLL : l.map DR.p = L at *
  have hLlen : L.length = l.length := by rw [← hLL]; simp
  refine ⟨⟨some ⟨w.heap.size, 0, none⟩, 6, 6⟩, _, make6 w, ?_⟩
  have ho1 := own6 w
  have x1 : Ext w (w.alloc (.cells (vI zero6).toArray 3)) := Ext.alloc ..
  generalize w.alloc (.cells (vI zero6).toArray 3) = w1 at ho1 x1 ⊢
  have hbl : ∀ y, BlS (⟨some ⟨w.heap.size, 0, none⟩, 6, 6⟩ : Sl) y → y = w.heap.size := fun y ⟨a, ha, e⟩ => by cases ha; exact e.symm
  generalize hs12 : (⟨some ⟨w.heap.size, 0, none⟩, 6, 6⟩ : Sl) = s12 at ho1 hbl
  have hn12 : s12.n = 6 := by rw [← hs12]
  show Join [] _ _
  refine ⟨fun w2 => Own 3 1 eI w.heap.size w2 s12 (itP L 60) ∧ Ext w w2, ?_, ?_⟩
  · -- are the levels small?
    rintro w2 ⟨ho2, x2⟩
    obtain ⟨hi1, hi2, hi3, hi4⟩ := itP_is hR 60
    have hfin : (∀ x ∈ itP L 60, x ≤ 5) → IsStr L (itP L 60) := fun h5 => by
      rcases hi4 with h | h
      · exact h
      · have := sm_le (s := itP L 60) (f := lv (itP L 60)) (B := 5) (fun x _ _ => Int.le_refl _) (lv_le (by omega) h5)
        omega
    generalize itP L 60 = t at ho2 hi1 hi2 hi3 hfin
    refine Join.dir ?_
    rw [← hs12]
    refine rangeI (n := 6) (fun i w4 => (∀ x ∈ t.take i, x ≤ 5) ∧ w4 = w2) (by decide) ⟨by simp, rfl⟩ ?_ ?_
    · rintro i hi w4 ⟨hall, rfl⟩ K hK
      obtain ⟨p, hp, a1, a2, hr⟩ := Ints.at ho2.sli (i := i) (by omega)
      rw [← hs12] at hp a2
      refine ⟨p, hp, a1, a2, _, hr, cond_intro (fun g => ?_) (fun g => ?_)⟩
      · have g : t[i]'(by omega) > 5 := by simpa using g
        refine ⟨⟨none, 0, 0⟩, 8, [], rfl, Sli.nil _ _, by simp, .inr ⟨fun ⟨u, hu⟩ => ?_, rfl, rfl⟩, x2⟩
        have h1 := hi2 _ hu.isSol (i : Int) (by omega) (by omega)
        have h2 := lv_le (by omega) (hu.le5 hR) (i : Int)
        have h3 : lv t (i : Int) = t[i]'(by omega) := by unfold lv; simp [List.getD, show i < t.length by omega]
        omega
      · have g : ¬ t[i]'(by omega) > 5 := by simpa using g
        refine hK _ ⟨fun x hx => ?_, rfl⟩
        rw [List.take_succ_eq_append_getElem (by omega), List.mem_append, List.mem_singleton] at hx
        rcases hx with hx | rfl
        · exact hall x hx
        · omega
    · rintro w4 ⟨hall, rfl⟩
      rw [List.take_of_length_le (by omega)] at hall
      exact ⟨⟨some ⟨w.heap.size, 0, none⟩, 6, 6⟩, 0, t, rfl, by rw [hs12]; exact ho2.sli, by omega, .inl ⟨hfin hall, rfl⟩, x2⟩
  -- the rounds
  refine rangeI (n := 60) (fun k w6 => Own 3 1 eI w.heap.size w6 s12 (itP L k) ∧ (∀ x ∈ itP L k, 0 ≤ x ∧ x ≤ 30 * (k : Int)) ∧ Ext w w6) (by decide) ⟨ho1, by simp [itP, zero6], x1⟩ ?_ (fun w2 ⟨h1, _, h3⟩ => ⟨h1, h3⟩)
  rintro k hk w6 ⟨ho6, hbd6, x6⟩ K hK
  have hit := (itP_is hR k).1
  have hnext : itP L (k + 1) = pass L (itP L k) := rfl
  rw [hnext] at hK
  generalize itP L k = s0 at ho6 hbd6 hit hK
  refine Join.dir (rangeI (fun i w9 => Own 3 1 eI w.heap.size w9 s12 (pass (L.take i) s0) ∧ (∀ x ∈ pass (L.take i) s0, 0 ≤ x ∧ x ≤ 30 * (k : Int) + 3 * i) ∧ Ext w w9) (by rw [hsn]; show l.length ≤ 9223372036854775807; omega) ⟨ho6, fun x hx => by have := hbd6 x hx; omega, x6⟩ ?_ ?_)
  rotate_left
  · rintro w9 ⟨h1, h2, h3⟩
    rw [hsn, ← hLlen, List.take_length] at h1 h2
    exact hK _ ⟨h1, fun x hx => by have := h2 x hx; omega, h3⟩
  rintro i hi w9 ⟨ho9, hbd9, x9⟩ K2 hK2
  have hi : i < l.length := by omega
  have hiL : i < L.length := by omega
  refine loadRT (hs.ext x9) hi zc94 fun w12 b12 x12 => ⟨_, b12.cell 2, ?_⟩
  have hLi : L[i] = (l[i]).p := by subst hLL; simp
  have hr := List.getElem_mem hi
  have hb3r := hb3 _ hr
  have hro0 := hs.ok _ hr
  generalize l[i] = r at b12 hLi hb3r hro0
  have hRr : ∀ a ∈ r.p.atoms, 0 ≤ a.rel ∧ a.rel ≤ 5 := by rw [← hLi]; exact hR _ (List.getElem_mem hiL)
  have hh := hRr r.p.head (by simp [Ru.atoms])
  have hst : pass (L.take (i + 1)) s0 = passR (pass (L.take i) s0) r.p := by
    unfold pass
    rw [List.take_succ_eq_append_getElem hiL, List.foldl_append, hLi]; rfl
  have hupi : Up s0 (pass (L.take i) s0) := pass_up (fun r' hr' => hR r' (List.mem_of_mem_take hr')) hit
  generalize pass (L.take i) s0 = t0 at ho9 hbd9 hst hupi
  have ht0 := hupi.len
  have hrbn := hro0.bd.len
  have hbody : r.p.body.length = r.body.length := by simp [DR.p]
  have lq : w.heap.size < w9.heap.size := by
    have := (ho9.base (a := ⟨w.heap.size, 0, none⟩) (by rw [← hs12])).2; exact this
  refine Join.dir (rangeI (fun j w14 => Own 3 1 eI w.heap.size w14 s12 ((r.p.body.take j).foldl (stepB r.p.head.rel) t0) ∧ (∀ x ∈ (r.p.body.take j).foldl (stepB r.p.head.rel) t0, 0 ≤ x ∧ x ≤ 30 * (k : Int) + 3 * i + j) ∧ Fr (BlS s12) w12 w14) (by rw [hrbn]; show r.body.length ≤ 9223372036854775807; omega) ⟨ho9.ext x12, fun x hx => by have := hbd9 x hx; omega, Fr.refl _ _⟩ ?_ ?_)
  rotate_left
  · rintro w14 ⟨h1, h3, h4⟩
    rw [hrbn, ← hbody, List.take_length] at h1 h3
    refine hK2 _ ⟨?_, ?_, (x9.trans x12).newer h4 fun y hy => by rw [hbl y hy]; omega⟩
    · rw [hst]; exact h1
    · rw [hst]
      intro x hx
      have := h3 x hx
      omega
  rintro j hj w14 ⟨ho14, hbd14, f14⟩ K3 hK3
  have hj : j < r.body.length := by omega
  have x014 : Ext w w14 := (x9.trans x12).newer f14 fun y hy => by rw [hbl y hy]; omega
  have hro14 : RulOk w14 r := hro0.ext x014
  refine loadLT hro14.bd hj zc96 fun w17 b17 x17 => ⟨_, b17.cell 1, ?_⟩
  have hbp : r.p.body[j]'(by omega) = (r.body[j]).p := by simp [DR.p]
  have hrel := hRr (r.body[j]).p.a (by simp [Ru.atoms, DR.p]; exact .inr ⟨_, List.getElem_mem hj, rfl⟩)
  generalize hxj : r.body[j] = x at b17 hbp hrel
  have hupj : Up t0 ((r.p.body.take j).foldl (stepB r.p.head.rel) t0) := Up.fold hh.1 hh.2 ht0
  have hst2 : (r.p.body.take (j + 1)).foldl (stepB r.p.head.rel) t0 = stepB r.p.head.rel ((r.p.body.take j).foldl (stepB r.p.head.rel) t0) x.p := by
    rw [List.take_succ_eq_append_getElem (by omega), List.foldl_append, hbp]; rfl
  generalize (r.p.body.take j).foldl (stepB r.p.head.rel) t0 = t at ho14 hbd14 hupj hst2
  have htl := hupj.len
  have ho17 := ho14.ext x17
  obtain ⟨p32, hp32, a1, a2, hr32⟩ := ownAt ho17 htl hrel.1 hrel.2
  refine ⟨p32, hp32, a1, a2, _, hr32, _, b17.cell 0, ?_⟩
  have hbdx := lv_le (s := t) (B := 30 * (k : Int) + 3 * i + j) (by omega) (fun x hx => (hbd14 x hx).2) x.p.a.rel
  have hnnx := lv_nn (fun x hx => (hbd14 x hx).1) x.p.a.rel
  have b12' := (b12.fr f14 fun hy => by have := hbl _ hy; omega).ext x17
  refine ⟨fun (x9 : Int) w18 => x9 = lv t x.p.a.rel + nI x.p ∧ w18 = w17, ?_, ?_⟩
  rotate_left
  · refine cond_intro (fun g => ⟨?_, rfl⟩) (fun g => ⟨?_, rfl⟩)
    · have : nI x.p = 1 := by unfold nI; rw [if_pos (by exact g)]
      rw [this]
      have hx' : lv t x.a.rel = lv t x.p.a.rel := rfl
      rw [← hx'] at hbdx hnnx ⊢
      rw [wrap64 (by omega) (by omega)]
    · have : nI x.p = 0 := by unfold nI; rw [if_neg (by show ¬ x.neg = true; rw [g]; simp)]
      rw [this]
      show lv t x.a.rel = lv t x.p.a.rel + 0
      have hx' : lv t x.a.rel = lv t x.p.a.rel := rfl
      omega
  rintro x9' w18 ⟨rfl, rfl⟩
  refine Let.intro fun w19 e19 => ?_
  have x19 : Ext w18 w19 := by rw [e19]; exact Ext.drew _
  have ho19 := ho17.ext x19
  have b19 := b12'.ext x19
  obtain ⟨p46, hp46, c1, c2, hr46⟩ := ownAt ho19 htl hh.1 hh.2
  obtain ⟨p50, hp50, d1, d2, st, ho20, f20⟩ := ownSet ho19 htl hh.1 hh.2 (if lv t x.p.a.rel + nI x.p > lv t r.p.head.rel then lv t x.p.a.rel + nI x.p else lv t r.p.head.rel)
  refine ⟨_, b19.cell 0, _, b19.cell 0, p46, hp46, c1, c2, _, hr46, p50, hp50, d1, d2, st, Let.intro fun w20 e20 => ?_⟩
  have e20 : w20 = put w19 p50.b (p50.o + Int.toNat r.p.head.rel * 1) [.int .i64 (if lv t x.p.a.rel + nI x.p > lv t r.p.head.rel then lv t x.p.a.rel + nI x.p else lv t r.p.head.rel)] := e20
  rw [← e20, set_max htl hh.1 hh.2] at ho20
  rw [← e20] at f20
  refine hK3 _ ⟨by rw [hst2]; exact ho20, ?_, ((f14.ext x17).ext x19).trans f20 fun _ _ h => h⟩
  rw [hst2]
  intro y hy
  have := stepB_bd (B := 30 * (k : Int) + 3 * i + j) (by omega) hbd14 y hy
  omega
/-! ### Needed -/
def bl (m : Nat) (i : Nat) : Value := .bool (m.testBit i)
theorem setB {w : World} {b m m' k : Nat} {v : Bool} (h : FB w b 6 (bl m) 143) (hk : k < 6) (hm : ∀ i, i < 6 → m'.testBit i = if i = k then v else m.testBit i) :
    StoreOk w b k [.bool v] 1 ∧ FB (put w b k [.bool v]) b 6 (bl m') 143 ∧ Fr (fun y => y = b) w (put w b k [.bool v]) := by
  refine ⟨h.storeOk rfl (by intro x hx; simp at hx; subst hx; rfl) (by omega), ?_, Fr.put ..⟩
  have := h.put (o := k) (vs := [.bool v]) (by simp; omega)
  unfold FB at this ⊢
  have e : (List.range 6).map (updF (bl m) k [.bool v]) = (List.range 6).map (bl m') := by
    apply List.map_congr_left
    intro i hi
    have hi : i < 6 := by simpa using hi
    unfold bl
    rw [hm i hi]
    by_cases e : i = k
    · subst e; rw [updF_in (v := .bool v) (Nat.le_refl _) (by simp), if_pos rfl]
    · rw [updF_out (by simp; omega), if_neg e]
  rw [e] at this; exact this
theorem bit_ms (h m b i : Nat) : (ms h m b).testBit i = if i = b then (m.testBit b || m.testBit h) else m.testBit i := by
  unfold ms
  by_cases e : i = b
  · subst e
    rw [if_pos rfl]
    split
    · rename_i hh; rw [bit_or, hh]; simp
    · rename_i hh; simp at hh; rw [hh]; simp
  · rw [if_neg e]
    split
    · rw [bit_or]; simp [Ne.symm e]
    · rfl
theorem zc143 : (zc Try.prog 143).toList = (List.range 6).map (bl 0) := by kernel_rfl
theorem E22 : Elem Try.prog 22 94 3 56 := Elem.of (by kernel_rfl) (by kernel_rfl) (by decide)
theorem c41 {w : World} {s : Sl} {l : List DR} {rel : Int} (hs : NR w s l) (hl : l.length ≤ 10) (hb3 : ∀ r ∈ l, r.body.length ≤ 3) (hR : RelOk (l.map DR.p)) (h0 : 0 ≤ rel) (h5 : rel ≤ 5) :
    Calls Try.prog 41 [.slice s.a s.n s.c, .int .i64 rel].toArray w fun e w' => ∃ (s' : Sl) (L : List DR) (m : Nat), e = .returned (.slice s'.a s'.n s'.c) ∧ NR w' s' L ∧ IsNd (l.map DR.p) rel m ∧ L.map DR.p = ndR (l.map DR.p) m ∧ (∀ r ∈ L, r ∈ l) ∧ Ext w w' := by
  refine (call41 s rel (R := fun v w' => ∃ (s' : Sl) (L : List DR) (m : Nat), v = (.slice s'.a s'.n s'.c) ∧ NR w' s' L ∧ IsNd (l.map DR.p) rel m ∧ L.map DR.p = ndR (l.map DR.p) m ∧ (∀ r ∈ L, r ∈ l) ∧ Ext w w') ?_).mono fun e w' ⟨v, he, s', L, m, hv, hx⟩ => ⟨s', L, m, by rw [he, hv], hx⟩
  have hsn := hs.len
  generalize hLL : l.map DR.p = L at *
  have hLlen : L.length = l.length := by rw [← hLL]; simp
  refine Let.intro fun w1 e1 => ?_
  have b1 : FB w1 w.heap.size 6 (bl 0) 143 := by
    rw [e1]; unfold FB; rw [← zc143]; simpa using Blk.alloc w (zc Try.prog 143).toList 143
  have x1 : Ext w w1 := by rw [e1]; exact Ext.alloc ..
  have hbit0 : ∀ i, (2 ^ rel.toNat).testBit i = if i = rel.toNat then true else (0 : Nat).testBit i := fun i => by
    rw [Nat.testBit_two_pow, Nat.zero_testBit]
    by_cases e : i = rel.toNat
    · simp [e]
    · simp [e, Ne.symm e]
  obtain ⟨p1, p2, p3⟩ := setB b1 (k := rel.toNat) (v := true) (m' := 2 ^ rel.toNat) (by omega) fun i _ => hbit0 i
  have eo : 0 + Int.toNat rel * 1 = rel.toNat := by omega
  refine ⟨h0, by omega, by rw [eo]; exact p1, Let.intro fun w2 e2 => ?_⟩
  rw [eo] at e2
  rw [← e2] at p2 p3
  have x2 : Ext w w2 := x1.newer p3 fun y (hy : y = w.heap.size) => by omega
  refine ⟨fun w3 => FB w3 w.heap.size 6 (bl (itM L rel 6)) 143 ∧ Ext w w3, ?_, ?_⟩
  · rintro w3 ⟨b3, x3⟩
    have hnd := itM_nd hR h0 h5
    generalize itM L rel 6 = m at b3 hnd
    refine Join.dir (rangeSI (fun j (s10 : Sl) w5 => ∃ part : List DR, Own 94 3 eR w3.heap.size w5 s10 part ∧ (∀ r ∈ part, r ∈ l) ∧ part.map DR.p = ndR (L.take j) m ∧ FB w5 w.heap.size 6 (bl m) 143 ∧ w3.heap.size ≤ w5.heap.size ∧ Ext w w5) (by rw [hsn]; show l.length ≤ 9223372036854775807; omega) ⟨[], Own.nil .., by simp, by simp [ndR], b3, Nat.le_refl _, x3⟩ ?_ ?_)
    rotate_left
    · rintro s10 w5 ⟨part, ho, hmem, hp, b5, z5, x5⟩
      rw [hsn, ← hLlen, List.take_length] at hp
      exact ⟨s10, part, m, rfl, ⟨ho.sli, fun r hr => (hs.ok r (hmem r hr)).ext x5⟩, hnd, hp, hmem, x5⟩
    rintro j hj s10 w5 ⟨part, ho, hmem, hp, b5, z5, x5⟩ K hK
    have hj : j < l.length := by omega
    have hjL : j < L.length := by omega
    refine loadRT (hs.ext x5) hj zc94 fun w8 b8 x8 => ?_
    have hLj : L[j] = (l[j]).p := by subst hLL; simp
    have hst : ndR (L.take (j + 1)) m = ndR (L.take j) m ++ (if m.testBit (l[j]).head.rel.toNat = true then [(l[j]).p] else []) := by
      unfold ndR
      rw [List.take_succ_eq_append_getElem hjL, List.filter_append, hLj]
      congr 1
      simp [List.filter_cons, DR.p, DF.p]
    have hpl := (List.length_filter_le (fun r : Ru => m.testBit r.head.rel.toNat) (L.take j))
    have hpl2 : part.length ≤ 10 := by
      have := congrArg List.length hp
      simp only [List.length_map] at this
      rw [this]; unfold ndR
      simp at hpl; omega
    have hrr : ∀ a ∈ (l[j]).p.atoms, 0 ≤ a.rel ∧ a.rel ≤ 5 := by rw [← hLj]; exact hR _ (List.getElem_mem hjL)
    have hm := List.getElem_mem hj
    generalize l[j] = r at b8 hst hrr hm
    have hrel := hrr r.head.p (by simp [Ru.atoms, DR.p])
    have hrel0 : 0 ≤ r.head.rel := hrel.1
    have hrel5 : r.head.rel ≤ 5 := hrel.2
    refine ⟨_, b8.cell 0, hrel0, by omega, m.testBit r.head.rel.toNat, ?_, Join.dir (cond_intro (fun g => ?_) (fun g => ?_))⟩
    · have : 0 + Int.toNat r.head.rel * 1 = r.head.rel.toNat := by omega
      rw [this]
      exact (b5.ext x8).cell (by omega) rfl
    · rw [if_pos g] at hst
      refine ⟨_, _, _, b8.rd, ?_⟩
      obtain ⟨s62, w10, hb62, s63, w11, hr63, ho11, f11⟩ := appendOne E22 (ho.ext x8) (x := r) (v := .agg [.int .i64 r.head.rel, .slice r.head.sl.a r.head.sl.n r.head.sl.c, .slice r.bs.a r.bs.n r.bs.c].toArray) rfl eR_len eR_one (by omega) (by omega) (by simp only [maxLen]; omega) (by have := x8.size; omega) 22
      refine ⟨s62, w10, hb62, s63, w11, hr63, hK _ _ ⟨part ++ [r], ho11, fun r' hr' => ?_, by rw [List.map_append, hp, hst]; rfl, (b5.ext x8).fr f11 fun ⟨a, ha, e⟩ => ?_, by have := f11.size; have := x8.size; omega, (x5.trans x8).newer f11 fun y ⟨a, ha, e⟩ => ?_⟩⟩
      · rcases List.mem_append.1 hr' with hr' | hr'
        · exact hmem r' hr'
        · simp only [List.mem_singleton] at hr'; subst hr'; exact hm
      · have := (ho.base ha).1; have := b3.lt; omega
      · have := (ho.base ha).1; have := x3.size; omega
    · rw [if_neg (by rw [g]; simp), List.append_nil] at hst
      exact hK _ _ ⟨part, ho.ext x8, hmem, by rw [hp, hst], b5.ext x8, by have := x8.size; omega, x5.trans x8⟩
  -- the rounds
  refine rangeI (n := 6) (fun k w12 => FB w12 w.heap.size 6 (bl (itM L rel k)) 143 ∧ Ext w w12) (by decide) ⟨p2, x2⟩ ?_ (fun _ h => h)
  rintro k hk w12 ⟨b12, x12⟩ K hK
  have hit := (itM_is hR h0 h5 k).1
  have hnext : itM L rel (k + 1) = mP L (itM L rel k) := rfl
  rw [hnext] at hK
  generalize itM L rel k = m at b12 hit hK
  refine Join.dir (rangeI (fun i w15 => FB w15 w.heap.size 6 (bl (mP (L.take i) m)) 143 ∧ Ext w w15) (by rw [hsn]; show l.length ≤ 9223372036854775807; omega) ⟨b12, x12⟩ ?_ ?_)
  rotate_left
  · rintro w15 ⟨h1, h2⟩
    rw [hsn, ← hLlen, List.take_length] at h1
    exact hK _ ⟨h1, h2⟩
  rintro i hi w15 ⟨b15, x15⟩ K2 hK2
  have hi : i < l.length := by omega
  have hiL : i < L.length := by omega
  refine loadRT (hs.ext x15) hi zc94 fun w18 b18 x18 => ⟨_, b18.cell 2, ?_⟩
  have hLi : L[i] = (l[i]).p := by subst hLL; simp
  have hr := List.getElem_mem hi
  have hb3r := hb3 _ hr
  have hro0 := hs.ok _ hr
  have hst : mP (L.take (i + 1)) m = mR (mP (L.take i) m) (l[i]).p := by
    unfold mP
    rw [List.take_succ_eq_append_getElem hiL, List.foldl_append, hLi]; rfl
  have hRr : ∀ a ∈ (l[i]).p.atoms, 0 ≤ a.rel ∧ a.rel ≤ 5 := by rw [← hLi]; exact hR _ (List.getElem_mem hiL)
  generalize l[i] = r at b18 hst hb3r hro0 hRr
  have hh := hRr r.p.head (by simp [Ru.atoms])
  have hh0 : 0 ≤ r.head.rel := hh.1
  have hh5 : r.head.rel ≤ 5 := hh.2
  generalize mP (L.take i) m = m1 at b15 hst
  have hrbn := hro0.bd.len
  have hbody : r.p.body.length = r.body.length := by simp [DR.p]
  have lq : w.heap.size < w15.heap.size := b15.lt
  refine Join.dir (rangeI (fun j w20 => FB w20 w.heap.size 6 (bl ((r.p.body.take j).foldl (fun m b => ms r.p.head.rel.toNat m b.a.rel.toNat) m1)) 143 ∧ Fr (fun y => y = w.heap.size) w18 w20) (by rw [hrbn]; show r.body.length ≤ 9223372036854775807; omega) ⟨b15.ext x18, Fr.refl _ _⟩ ?_ ?_)
  rotate_left
  · rintro w20 ⟨h1, h2⟩
    rw [hrbn, ← hbody, List.take_length] at h1
    exact hK2 _ ⟨by rw [hst]; exact h1, (x15.trans x18).newer h2 fun y (hy : y = w.heap.size) => by omega⟩
  rintro j hj w20 ⟨b20, f20⟩ K3 hK3
  have hj : j < r.body.length := by omega
  have x020 : Ext w w20 := (x15.trans x18).newer f20 fun y (hy : y = w.heap.size) => by omega
  refine loadLT (hro0.ext x020).bd hj zc96 fun w23 b23 x23 => Join.dir ?_
  have hbp : r.p.body[j]'(by omega) = (r.body[j]).p := by simp [DR.p]
  have hrel := hRr (r.body[j]).p.a (by simp [Ru.atoms, DR.p]; exact .inr ⟨_, List.getElem_mem hj, rfl⟩)
  have hst2 : (r.p.body.take (j + 1)).foldl (fun m b => ms r.p.head.rel.toNat m b.a.rel.toNat) m1 = ms r.head.rel.toNat ((r.p.body.take j).foldl (fun m b => ms r.p.head.rel.toNat m b.a.rel.toNat) m1) (r.body[j]).a.rel.toNat := by
    rw [List.take_succ_eq_append_getElem (by omega), List.foldl_append, hbp]; rfl
  generalize hxj : r.body[j] = x at b23 hst2 hrel
  have hx0 : 0 ≤ x.a.rel := hrel.1
  have hx5 : x.a.rel ≤ 5 := hrel.2
  generalize (r.p.body.take j).foldl (fun m b => ms r.p.head.rel.toNat m b.a.rel.toNat) m1 = m2 at b20 hst2
  refine Let.intro fun w25 e25 => ?_
  have x25 : Ext w23 w25 := by rw [e25]; exact Ext.drew _
  have b25 := b23.ext x25
  have f25 := (b20.ext x23).ext x25
  have b18' := (((b18.fr f20 fun hy => by omega).ext x23).ext x25)
  have eo1 : 0 + Int.toNat x.a.rel * 1 = x.a.rel.toNat := by omega
  have eo2 : 0 + Int.toNat r.head.rel * 1 = r.head.rel.toNat := by omega
  refine ⟨_, b25.cell 1, _, b25.cell 1, hx0, by omega, m2.testBit x.a.rel.toNat, by rw [eo1]; exact f25.cell (by omega) rfl, cond_intro (fun g => ?_) (fun g => ?_)⟩
  · obtain ⟨q1, q2, q3⟩ := setB f25 (k := x.a.rel.toNat) (v := true) (m' := ms r.head.rel.toNat m2 x.a.rel.toNat) (by omega) fun i _ => by rw [bit_ms, g]; simp
    refine ⟨hx0, by omega, by rw [eo1]; exact q1, Let.intro fun w26 e26 => ?_⟩
    rw [eo1] at e26
    rw [← e26] at q2 q3
    exact hK3 _ ⟨by rw [hst2]; exact q2, ((f20.ext x23).ext x25).trans q3 fun _ _ h => h⟩
  · obtain ⟨q1, q2, q3⟩ := setB f25 (k := x.a.rel.toNat) (v := m2.testBit r.head.rel.toNat) (m' := ms r.head.rel.toNat m2 x.a.rel.toNat) (by omega) fun i _ => by rw [bit_ms, g]; simp
    refine ⟨_, b18'.cell 0, hh0, by omega, _, by rw [eo2]; exact f25.cell (by omega) rfl, hx0, by omega, by rw [eo1]; exact q1, Let.intro fun w26 e26 => ?_⟩
    rw [eo1] at e26
    rw [← e26] at q2 q3
    exact hK3 _ ⟨by rw [hst2]; exact q2, ((f20.ext x23).ext x25).trans q3 fun _ _ h => h⟩
end Go.Proofs.Ytoljknamnkkgcaa
/-
  Printed by a program of this session (wip/tools/vcprint.py): of each Go function the shallow form, and that the calculus comes to it, by the kernel.
-/
namespace Go.Proofs.Ytoljknamnkkgcaa
open Go Go.VC
set_option maxRecDepth 100000

/-- F10: cubeb/cubeblaw03.RulesStrata -/
def An10 : An := (.sq .lf (.sq .lf (.sq .lf (.sq (.sq .lf (.cd (.sq (.rj [] [(4, .bool)]) .lf) .lf)) (.sq .lf (.sq (.sq (.rj [] [(57, .bool)]) (.cd (.sq .lf .lf) .lf)) (.sq (.sq (.rj [] [(63, .bool)]) (.cd (.sq (.rj [] [(4, .bool)]) .lf) .lf)) (.sq (.rj [] [(4, .bool)]) .lf))))))))
def S10 (s0 : Sl) (x1 : Int) (R : Value → World → Prop) (w : World) : Prop :=
  Calls Try.prog 17 [(.slice s0.a s0.n s0.c)].toArray w (fun e w1 => ∃ s13 : Sl, e = .returned (.slice s13.a s13.n s13.c) ∧
  Calls Try.prog 36 [(.slice s13.a s13.n s13.c)].toArray w1 (fun e_2 w2 => ∃ s14_0 : Sl, ∃ x14_1 : Int, e_2 = .returned (.tuple [(.slice s14_0.a s14_0.n s14_0.c), (.int .i64 x14_1)].toArray) ∧
  Calls Try.prog 17 [(.slice s0.a s0.n s0.c)].toArray w2 (fun e_3 w3 => ∃ s19 : Sl, e_3 = .returned (.slice s19.a s19.n s19.c) ∧
  Calls Try.prog 37 [(.slice s19.a s19.n s19.c), (.int .i64 x1)].toArray w3 (fun e_4 w4 => ∃ s21_0 : Sl, ∃ x21_1 : Int, e_4 = .returned (.tuple [(.slice s21_0.a s21_0.n s21_0.c), (.int .i64 x21_1)].toArray) ∧
  Calls Try.prog 22 [(.slice s0.a s0.n s0.c), (.slice none 0 0)].toArray w4 (fun e_5 w5 => ∃ b25 : Bool, e_5 = .returned (.bool b25) ∧
  cond (!b25) (
  Join [(4, .bool)] (fun (b4 : Bool) (w6 : World) => R (.bool b4) w6) (fun J =>
  cond ((IntKind.wrap .i64 (((s14_0.n : Nat) : Int) + ((s21_0.n : Nat) : Int))) == (0 : Int)) (cond (x14_1 == (2 : Int)) (cond (x21_1 == (2 : Int)) (Calls Try.prog 20 [].toArray w5 (fun e_6 w7 => ∃ b42 : Bool, e_6 = .returned (.bool b42) ∧
  J b42 w7)) (J false w5)) (J false w5)) (J false w5))) (
  Calls Try.prog 38 [(.slice s0.a s0.n s0.c)].toArray w5 (fun e_7 w8 => ∃ s46_0 : Sl, ∃ x46_1 : Int, e_7 = .returned (.tuple [(.slice s46_0.a s46_0.n s46_0.c), (.int .i64 x46_1)].toArray) ∧
  Join [(57, .bool)] (fun (b57 : Bool) (w9 : World) => cond b57 (
  R (.bool false) w9) (
  Join [(63, .bool)] (fun (b63 : Bool) (w10 : World) => cond b63 (
  Join [(4, .bool)] (fun (b4_2 : Bool) (w11 : World) => R (.bool b4_2) w11) (fun J_2 =>
  cond (((s21_0.n : Nat) : Int) == (0 : Int)) (cond (x21_1 == (2 : Int)) (Calls Try.prog 20 [].toArray w10 (fun e_8 w12 => ∃ b72 : Bool, e_8 = .returned (.bool b72) ∧
  J_2 b72 w12)) (J_2 false w10)) (J_2 false w10))) (
  Join [(4, .bool)] (fun (b4_3 : Bool) (w13 : World) => R (.bool b4_3) w13) (fun J_3 =>
  Calls Try.prog 40 [(.slice s21_0.a s21_0.n s21_0.c)].toArray w10 (fun e_9 w14 => ∃ s75 : Sl, e_9 = .returned (.slice s75.a s75.n s75.c) ∧
  Calls Try.prog 41 [(.slice s0.a s0.n s0.c), (.int .i64 x1)].toArray w14 (fun e_10 w15 => ∃ s78 : Sl, e_10 = .returned (.slice s78.a s78.n s78.c) ∧
  Calls Try.prog 39 [(.slice s75.a s75.n s75.c), (.slice s78.a s78.n s78.c)].toArray w15 (fun e_11 w16 => ∃ b79 : Bool, e_11 = .returned (.bool b79) ∧
  cond b79 (cond (x21_1 == (0 : Int)) (Calls Try.prog 20 [].toArray w16 (fun e_12 w17 => ∃ b85 : Bool, e_12 = .returned (.bool b85) ∧
  J_3 b85 w17)) (J_3 false w16)) (J_3 false w16))))))) (fun J_4 =>
  cond (decide (x1 < (0 : Int))) (J_4 true w9) (J_4 (decide (x1 > (5 : Int))) w9)))) (fun J_5 =>
  Calls Try.prog 32 [(.slice s14_0.a s14_0.n s14_0.c), (.slice s46_0.a s46_0.n s46_0.c)].toArray w8 (fun e_13 w18 => ∃ b51 : Bool, e_13 = .returned (.bool b51) ∧
  cond (!b51) (J_5 true w18) (J_5 (x14_1 != x46_1) w18))))))))))
theorem eq10 (s0 : Sl) (x1 : Int) (R : Value → World → Prop) (w : World) : funV Try.prog Try.f10 An10 [(.slice s0.a s0.n s0.c), (.int .i64 x1)] R w = S10 s0 x1 R w := by kernel_rfl
theorem call10 (s0 : Sl) (x1 : Int) {R : Value → World → Prop} {w : World} (h : S10 s0 x1 R w) : Calls Try.prog 10 [(.slice s0.a s0.n s0.c), (.int .i64 x1)].toArray w fun e w' => ∃ v, e = .returned v ∧ R v w' :=
  funV_calls mixed Try.func10 (an := An10) (by rw [eq10]; exact h)

/-- F39: cubeb/cubeblaw03.same -/
def An39 : An := (.sq .lf (.sq .lf .lf))
def S39 (s0 : Sl) (s1 : Sl) (R : Value → World → Prop) (w : World) : Prop :=
  Calls Try.prog 86 [(.slice s0.a s0.n s0.c), (.slice s1.a s1.n s1.c), (.func (.func 87) #[] [].toArray)].toArray w (fun e w1 => ∃ b7 : Bool, e = .returned (.bool b7) ∧
  R (.bool b7) w1)
theorem eq39 (s0 : Sl) (s1 : Sl) (R : Value → World → Prop) (w : World) : funV Try.prog Try.f39 An39 [(.slice s0.a s0.n s0.c), (.slice s1.a s1.n s1.c)] R w = S39 s0 s1 R w := by kernel_rfl
theorem call39 (s0 : Sl) (s1 : Sl) {R : Value → World → Prop} {w : World} (h : S39 s0 s1 R w) : Calls Try.prog 39 [(.slice s0.a s0.n s0.c), (.slice s1.a s1.n s1.c)].toArray w fun e w' => ∃ v, e = .returned v ∧ R v w' :=
  funV_calls mixed Try.func39 (an := An39) (by rw [eq39]; exact h)

/-- F40: cubeb/cubeblaw03.own -/
def An40 : An := (.sq .lf (.sq .lf (.sq (.sq .lf (.bk [(3, .slice)] (.lp [(3, .slice), (11, .int .i64)] (.sq .lf (.sq (.cd .lf .lf) (.sq (.bk [(3, .slice)] (.sq .lf (.sq .lf (.sq (.sq .lf (.bk [] (.lp [(26, .int .i64)] (.sq .lf (.sq (.cd .lf .lf) (.sq (.bk [] (.sq .lf .lf)) .lf)))))) .lf)))) .lf)))))) (.sq .lf .lf))))
def S40 (s0 : Sl) (R : Value → World → Prop) (w : World) : Prop :=
  Join [(3, .slice)] (fun (s3 : Sl) (w1 : World) => R (.slice s3.a s3.n s3.c) w1) (fun J =>
  LoopV [(3, .slice), (11, .int .i64)] (fun K => K ⟨none, 0, 0⟩ (0 : Int) w) (fun N => fun (s3_2 : Sl) (x11 : Int) (w2 : World) =>
  cond (decide (x11 < ((s0.n : Nat) : Int))) (
  Join [(3, .slice)] (fun (s3_3 : Sl) (w3 : World) => N ⟨s3_3.a, s3_3.n, s3_3.c⟩ (IntKind.wrap .i64 (x11 + (1 : Int))) w3) (fun J_2 =>
  ∃ p13 : Pt, s0.a = some ⟨p13.b, p13.o, none⟩ ∧ 0 ≤ x11 ∧ x11 < ((s0.n : Nat) : Int) ∧ ∃ x14_0 : Int, ∃ s14_1 : Sl, ∃ s14_2 : Sl, rd w2 p13.b (p13.o + Int.toNat x11 * 3) [(.int .i64 x14_0), (.slice s14_1.a s14_1.n s14_1.c), (.slice s14_2.a s14_2.n s14_2.c)] ∧ Let (w2.alloc (.cells (zc Try.prog 52) 52)) fun w4 => 
  StoreOk w4 w2.heap.size 0 [(.int .i64 x14_0), (.slice s14_1.a s14_1.n s14_1.c), (.slice s14_2.a s14_2.n s14_2.c)] 3 ∧ Let (put w4 w2.heap.size 0 [(.int .i64 x14_0), (.slice s14_1.a s14_1.n s14_1.c), (.slice s14_2.a s14_2.n s14_2.c)]) fun w5 => 
  ∃ x17 : Int, World.cell? w5 ⟨w2.heap.size, ((0 + 0) + 0), none⟩ = some (.int .i64 x17) ∧ ∃ s20 : Sl, World.cell? w5 ⟨w2.heap.size, ((0 + 0) + 1), none⟩ = some (.slice s20.a s20.n s20.c) ∧ 2 = 2 ∧ 2 ≤ 3 ∧ Let (w5.alloc (.cells (zc Try.prog 94) 94)) fun w6 => 
  StoreOk w6 w5.heap.size 0 [(.int .i64 x17), (.slice s20.a s20.n s20.c), (.slice none 0 0)] 3 ∧ Let (put w6 w5.heap.size 0 [(.int .i64 x17), (.slice s20.a s20.n s20.c), (.slice none 0 0)]) fun w7 => 
  ∃ s24 : Sl, World.cell? w7 ⟨w2.heap.size, (0 + 2), none⟩ = some (.slice s24.a s24.n s24.c) ∧ Join [] (fun (w8 : World) => ∃ x47_0 : Int, ∃ s47_1 : Sl, ∃ s47_2 : Sl, rd w8 w5.heap.size 0 [(.int .i64 x47_0), (.slice s47_1.a s47_1.n s47_1.c), (.slice s47_2.a s47_2.n s47_2.c)] ∧ ∃ (s48 : Sl) (w9 : World), Sem.run Try.prog (Instr.buildSlice 22 1 [(0, (.agg [(.int .i64 x47_0), (.slice s47_1.a s47_1.n s47_1.c), (.slice s47_2.a s47_2.n s47_2.c)].toArray))].toArray) w8 = .ok (.slice s48.a s48.n s48.c) w9 ∧
  ∃ (s49 : Sl) (w10 : World), Sem.run Try.prog (Builtin.append_ #[22, 22] 22 #[(.slice s3_2.a s3_2.n s3_2.c), (.slice s48.a s48.n s48.c)]) w9 = .ok (.slice s49.a s49.n s49.c) w10 ∧
  J_2 ⟨s49.a, s49.n, s49.c⟩ w10) (fun J_3 =>
  LoopV [(26, .int .i64)] (fun K => K (0 : Int) w7) (fun N_2 => fun (x26 : Int) (w11 : World) =>
  cond (decide (x26 < ((s24.n : Nat) : Int))) (
  Join [] (fun (w12 : World) => N_2 (IntKind.wrap .i64 (x26 + (1 : Int))) w12) (fun J_4 =>
  ∃ p28 : Pt, s24.a = some ⟨p28.b, p28.o, none⟩ ∧ 0 ≤ x26 ∧ x26 < ((s24.n : Nat) : Int) ∧ ∃ b29_0 : Bool, ∃ x29_1 : Int, ∃ s29_2 : Sl, rd w11 p28.b (p28.o + Int.toNat x26 * 3) [(.bool b29_0), (.int .i64 x29_1), (.slice s29_2.a s29_2.n s29_2.c)] ∧ Let (w11.alloc (.cells (zc Try.prog 54) 54)) fun w13 => 
  StoreOk w13 w11.heap.size 0 [(.bool b29_0), (.int .i64 x29_1), (.slice s29_2.a s29_2.n s29_2.c)] 3 ∧ Let (put w13 w11.heap.size 0 [(.bool b29_0), (.int .i64 x29_1), (.slice s29_2.a s29_2.n s29_2.c)]) fun w14 => 
  ∃ s31 : Sl, World.cell? w14 ⟨w5.heap.size, (0 + 2), none⟩ = some (.slice s31.a s31.n s31.c) ∧ ∃ b33 : Bool, World.cell? w14 ⟨w11.heap.size, (0 + 0), none⟩ = some (.bool b33) ∧ ∃ x36 : Int, World.cell? w14 ⟨w11.heap.size, ((0 + 1) + 0), none⟩ = some (.int .i64 x36) ∧ ∃ s39 : Sl, World.cell? w14 ⟨w11.heap.size, ((0 + 1) + 1), none⟩ = some (.slice s39.a s39.n s39.c) ∧ 2 = 2 ∧ 3 ≤ 3 ∧ ∃ (s42 : Sl) (w15 : World), Sem.run Try.prog (Instr.buildSlice 92 1 [(0, (.agg [(.bool b33), (.int .i64 x36), (.slice s39.a s39.n s39.c)].toArray))].toArray) w14 = .ok (.slice s42.a s42.n s42.c) w15 ∧
  ∃ (s43 : Sl) (w16 : World), Sem.run Try.prog (Builtin.append_ #[92, 92] 92 #[(.slice s31.a s31.n s31.c), (.slice s42.a s42.n s42.c)]) w15 = .ok (.slice s43.a s43.n s43.c) w16 ∧
  StoreOk w16 w5.heap.size (0 + 2) [(.slice s43.a s43.n s43.c)] 1 ∧ Let (put w16 w5.heap.size (0 + 2) [(.slice s43.a s43.n s43.c)]) fun w17 => 
  J_4 w17)) (
  J_3 w11))))) (
  J ⟨s3_2.a, s3_2.n, s3_2.c⟩ w2)))
theorem eq40 (s0 : Sl) (R : Value → World → Prop) (w : World) : funV Try.prog Try.f40 An40 [(.slice s0.a s0.n s0.c)] R w = S40 s0 R w := by kernel_rfl
theorem call40 (s0 : Sl) {R : Value → World → Prop} {w : World} (h : S40 s0 R w) : Calls Try.prog 40 [(.slice s0.a s0.n s0.c)].toArray w fun e w' => ∃ v, e = .returned v ∧ R v w' :=
  funV_calls mixed Try.func40 (an := An40) (by rw [eq40]; exact h)

/-- F86: slices.EqualFunc[[]cubeb/cubebref03.Rule,[]cubeb/cubebref03.Rule,cubeb/cubebref03.Rule,cubeb/cubebref03.Rule] -/
def An86 : An := (.sq .lf (.sq (.sq .lf (.cd (.sq .lf .lf) .lf)) (.sq (.sq .lf (.bk [] (.lp [(17, .int .i64)] (.sq .lf (.sq (.cd .lf .lf) (.sq (.bk [] (.sq .lf (.sq .lf (.sq .lf (.cd (.sq .lf .lf) .lf))))) .lf)))))) (.sq .lf .lf))))
def S86 (s0 : Sl) (s1 : Sl) (f2 : Nat) (c2 : List Value) (R : Value → World → Prop) (w : World) : Prop :=
  cond (((s0.n : Nat) : Int) != ((s1.n : Nat) : Int)) (
  R (.bool false) w) (
  Join [] (fun (w1 : World) => R (.bool true) w1) (fun J =>
  LoopV [(17, .int .i64)] (fun K => K (0 : Int) w) (fun N => fun (x17 : Int) (w2 : World) =>
  cond (decide (x17 < ((s0.n : Nat) : Int))) (
  Join [] (fun (w3 : World) => N (IntKind.wrap .i64 (x17 + (1 : Int))) w3) (fun J_2 =>
  ∃ p20 : Pt, s0.a = some ⟨p20.b, p20.o, none⟩ ∧ 0 ≤ x17 ∧ x17 < ((s0.n : Nat) : Int) ∧ ∃ x21_0 : Int, ∃ s21_1 : Sl, ∃ s21_2 : Sl, rd w2 p20.b (p20.o + Int.toNat x17 * 3) [(.int .i64 x21_0), (.slice s21_1.a s21_1.n s21_1.c), (.slice s21_2.a s21_2.n s21_2.c)] ∧ Let (w2.alloc (.cells (zc Try.prog 94) 94)) fun w4 => 
  StoreOk w4 w2.heap.size 0 [(.int .i64 x21_0), (.slice s21_1.a s21_1.n s21_1.c), (.slice s21_2.a s21_2.n s21_2.c)] 3 ∧ Let (put w4 w2.heap.size 0 [(.int .i64 x21_0), (.slice s21_1.a s21_1.n s21_1.c), (.slice s21_2.a s21_2.n s21_2.c)]) fun w5 => 
  ∃ p24 : Pt, s1.a = some ⟨p24.b, p24.o, none⟩ ∧ 0 ≤ x17 ∧ x17 < ((s1.n : Nat) : Int) ∧ ∃ x25_0 : Int, ∃ s25_1 : Sl, ∃ s25_2 : Sl, rd w5 p24.b (p24.o + Int.toNat x17 * 3) [(.int .i64 x25_0), (.slice s25_1.a s25_1.n s25_1.c), (.slice s25_2.a s25_2.n s25_2.c)] ∧ Let (w5.alloc (.cells (zc Try.prog 94) 94)) fun w6 => 
  StoreOk w6 w5.heap.size 0 [(.int .i64 x25_0), (.slice s25_1.a s25_1.n s25_1.c), (.slice s25_2.a s25_2.n s25_2.c)] 3 ∧ Let (put w6 w5.heap.size 0 [(.int .i64 x25_0), (.slice s25_1.a s25_1.n s25_1.c), (.slice s25_2.a s25_2.n s25_2.c)]) fun w7 => 
  ∃ x27_0 : Int, ∃ s27_1 : Sl, ∃ s27_2 : Sl, rd w7 w2.heap.size 0 [(.int .i64 x27_0), (.slice s27_1.a s27_1.n s27_1.c), (.slice s27_2.a s27_2.n s27_2.c)] ∧ ∃ x28_0 : Int, ∃ s28_1 : Sl, ∃ s28_2 : Sl, rd w7 w5.heap.size 0 [(.int .i64 x28_0), (.slice s28_1.a s28_1.n s28_1.c), (.slice s28_2.a s28_2.n s28_2.c)] ∧ (bif callable Try.prog f2 then Calls Try.prog f2 (([(.agg [(.int .i64 x27_0), (.slice s27_1.a s27_1.n s27_1.c), (.slice s27_2.a s27_2.n s27_2.c)].toArray), (.agg [(.int .i64 x28_0), (.slice s28_1.a s28_1.n s28_1.c), (.slice s28_2.a s28_2.n s28_2.c)].toArray)] : List Value) ++ c2).toArray w7 (fun e w8 => ∃ b29 : Bool, e = .returned (.bool b29) ∧
  cond (!b29) (
  R (.bool false) w8) (
  J_2 w8)) else False))) (
  J w2))))
theorem eq86 (s0 : Sl) (s1 : Sl) (f2 : Nat) (c2 : List Value) (R : Value → World → Prop) (w : World) : funV Try.prog Try.f86 An86 [(.slice s0.a s0.n s0.c), (.slice s1.a s1.n s1.c), (.func (.func f2) #[] c2.toArray)] R w = S86 s0 s1 f2 c2 R w := by kernel_rfl
theorem call86 (s0 : Sl) (s1 : Sl) (f2 : Nat) (c2 : List Value) {R : Value → World → Prop} {w : World} (h : S86 s0 s1 f2 c2 R w) : Calls Try.prog 86 [(.slice s0.a s0.n s0.c), (.slice s1.a s1.n s1.c), (.func (.func f2) #[] c2.toArray)].toArray w fun e w' => ∃ v, e = .returned v ∧ R v w' :=
  funV_calls mixed Try.func86 (an := An86) (by rw [eq86]; exact h)

/-- F87: cubeb/cubeblaw03.same$1 -/
def An87 : An := (.sq .lf (.sq (.rj [] [(4, .bool)]) .lf))
def S87 (x0_0 : Int) (s0_1 : Sl) (s0_2 : Sl) (x1_0 : Int) (s1_1 : Sl) (s1_2 : Sl) (R : Value → World → Prop) (w : World) : Prop :=
  Let (w.alloc (.cells [(.int .i64 x0_0), (.slice s0_1.a s0_1.n s0_1.c), (.slice s0_2.a s0_2.n s0_2.c)].toArray 94)) fun w1 => 
  Let (w1.alloc (.cells [(.int .i64 x1_0), (.slice s1_1.a s1_1.n s1_1.c), (.slice s1_2.a s1_2.n s1_2.c)].toArray 94)) fun w2 => 
  Join [(4, .bool)] (fun (b4 : Bool) (w3 : World) => R (.bool b4) w3) (fun J =>
  ∃ x6_0 : Int, ∃ s6_1 : Sl, rd w2 w.heap.size (0 + 0) [(.int .i64 x6_0), (.slice s6_1.a s6_1.n s6_1.c)] ∧ ∃ x8_0 : Int, ∃ s8_1 : Sl, rd w2 w1.heap.size (0 + 0) [(.int .i64 x8_0), (.slice s8_1.a s8_1.n s8_1.c)] ∧ Calls Try.prog 88 [(.agg [(.int .i64 x6_0), (.slice s6_1.a s6_1.n s6_1.c)].toArray), (.agg [(.int .i64 x8_0), (.slice s8_1.a s8_1.n s8_1.c)].toArray)].toArray w2 (fun e w4 => ∃ b9 : Bool, e = .returned (.bool b9) ∧
  cond b9 (∃ s12 : Sl, World.cell? w4 ⟨w.heap.size, (0 + 2), none⟩ = some (.slice s12.a s12.n s12.c) ∧ ∃ s14 : Sl, World.cell? w4 ⟨w1.heap.size, (0 + 2), none⟩ = some (.slice s14.a s14.n s14.c) ∧ Calls Try.prog 89 [(.slice s12.a s12.n s12.c), (.slice s14.a s14.n s14.c), (.func (.func 90) #[] [].toArray)].toArray w4 (fun e_2 w5 => ∃ b15 : Bool, e_2 = .returned (.bool b15) ∧
  J b15 w5)) (J false w4)))
theorem eq87 (x0_0 : Int) (s0_1 : Sl) (s0_2 : Sl) (x1_0 : Int) (s1_1 : Sl) (s1_2 : Sl) (R : Value → World → Prop) (w : World) : funV Try.prog Try.f87 An87 [(.agg [(.int .i64 x0_0), (.slice s0_1.a s0_1.n s0_1.c), (.slice s0_2.a s0_2.n s0_2.c)].toArray), (.agg [(.int .i64 x1_0), (.slice s1_1.a s1_1.n s1_1.c), (.slice s1_2.a s1_2.n s1_2.c)].toArray)] R w = S87 x0_0 s0_1 s0_2 x1_0 s1_1 s1_2 R w := by kernel_rfl
theorem call87 (x0_0 : Int) (s0_1 : Sl) (s0_2 : Sl) (x1_0 : Int) (s1_1 : Sl) (s1_2 : Sl) {R : Value → World → Prop} {w : World} (h : S87 x0_0 s0_1 s0_2 x1_0 s1_1 s1_2 R w) : Calls Try.prog 87 [(.agg [(.int .i64 x0_0), (.slice s0_1.a s0_1.n s0_1.c), (.slice s0_2.a s0_2.n s0_2.c)].toArray), (.agg [(.int .i64 x1_0), (.slice s1_1.a s1_1.n s1_1.c), (.slice s1_2.a s1_2.n s1_2.c)].toArray)].toArray w fun e w' => ∃ v, e = .returned v ∧ R v w' :=
  funV_calls mixed Try.func87 (an := An87) (by rw [eq87]; exact h)

/-- F88: cubeb/cubeblaw03.alike -/
def An88 : An := (.sq .lf (.sq (.rj [] [(4, .bool)]) .lf))
def S88 (x0_0 : Int) (s0_1 : Sl) (x1_0 : Int) (s1_1 : Sl) (R : Value → World → Prop) (w : World) : Prop :=
  Let (w.alloc (.cells [(.int .i64 x0_0), (.slice s0_1.a s0_1.n s0_1.c)].toArray 91)) fun w1 => 
  Let (w1.alloc (.cells [(.int .i64 x1_0), (.slice s1_1.a s1_1.n s1_1.c)].toArray 91)) fun w2 => 
  Join [(4, .bool)] (fun (b4 : Bool) (w3 : World) => R (.bool b4) w3) (fun J =>
  ∃ x6 : Int, World.cell? w2 ⟨w.heap.size, (0 + 0), none⟩ = some (.int .i64 x6) ∧ ∃ x8 : Int, World.cell? w2 ⟨w1.heap.size, (0 + 0), none⟩ = some (.int .i64 x8) ∧ cond (x6 == x8) (∃ s12 : Sl, World.cell? w2 ⟨w.heap.size, (0 + 1), none⟩ = some (.slice s12.a s12.n s12.c) ∧ ∃ s14 : Sl, World.cell? w2 ⟨w1.heap.size, (0 + 1), none⟩ = some (.slice s14.a s14.n s14.c) ∧ Calls Try.prog 32 [(.slice s12.a s12.n s12.c), (.slice s14.a s14.n s14.c)].toArray w2 (fun e w4 => ∃ b15 : Bool, e = .returned (.bool b15) ∧
  J b15 w4)) (J false w2))
theorem eq88 (x0_0 : Int) (s0_1 : Sl) (x1_0 : Int) (s1_1 : Sl) (R : Value → World → Prop) (w : World) : funV Try.prog Try.f88 An88 [(.agg [(.int .i64 x0_0), (.slice s0_1.a s0_1.n s0_1.c)].toArray), (.agg [(.int .i64 x1_0), (.slice s1_1.a s1_1.n s1_1.c)].toArray)] R w = S88 x0_0 s0_1 x1_0 s1_1 R w := by kernel_rfl
theorem call88 (x0_0 : Int) (s0_1 : Sl) (x1_0 : Int) (s1_1 : Sl) {R : Value → World → Prop} {w : World} (h : S88 x0_0 s0_1 x1_0 s1_1 R w) : Calls Try.prog 88 [(.agg [(.int .i64 x0_0), (.slice s0_1.a s0_1.n s0_1.c)].toArray), (.agg [(.int .i64 x1_0), (.slice s1_1.a s1_1.n s1_1.c)].toArray)].toArray w fun e w' => ∃ v, e = .returned v ∧ R v w' :=
  funV_calls mixed Try.func88 (an := An88) (by rw [eq88]; exact h)

/-- F89: slices.EqualFunc[[]cubeb/cubebref03.Lit,[]cubeb/cubebref03.Lit,cubeb/cubebref03.Lit,cubeb/cubebref03.Lit] -/
def An89 : An := (.sq .lf (.sq (.sq .lf (.cd (.sq .lf .lf) .lf)) (.sq (.sq .lf (.bk [] (.lp [(17, .int .i64)] (.sq .lf (.sq (.cd .lf .lf) (.sq (.bk [] (.sq .lf (.sq .lf (.sq .lf (.cd (.sq .lf .lf) .lf))))) .lf)))))) (.sq .lf .lf))))
def S89 (s0 : Sl) (s1 : Sl) (f2 : Nat) (c2 : List Value) (R : Value → World → Prop) (w : World) : Prop :=
  cond (((s0.n : Nat) : Int) != ((s1.n : Nat) : Int)) (
  R (.bool false) w) (
  Join [] (fun (w1 : World) => R (.bool true) w1) (fun J =>
  LoopV [(17, .int .i64)] (fun K => K (0 : Int) w) (fun N => fun (x17 : Int) (w2 : World) =>
  cond (decide (x17 < ((s0.n : Nat) : Int))) (
  Join [] (fun (w3 : World) => N (IntKind.wrap .i64 (x17 + (1 : Int))) w3) (fun J_2 =>
  ∃ p20 : Pt, s0.a = some ⟨p20.b, p20.o, none⟩ ∧ 0 ≤ x17 ∧ x17 < ((s0.n : Nat) : Int) ∧ ∃ b21_0 : Bool, ∃ x21_1 : Int, ∃ s21_2 : Sl, rd w2 p20.b (p20.o + Int.toNat x17 * 3) [(.bool b21_0), (.int .i64 x21_1), (.slice s21_2.a s21_2.n s21_2.c)] ∧ Let (w2.alloc (.cells (zc Try.prog 96) 96)) fun w4 => 
  StoreOk w4 w2.heap.size 0 [(.bool b21_0), (.int .i64 x21_1), (.slice s21_2.a s21_2.n s21_2.c)] 3 ∧ Let (put w4 w2.heap.size 0 [(.bool b21_0), (.int .i64 x21_1), (.slice s21_2.a s21_2.n s21_2.c)]) fun w5 => 
  ∃ p24 : Pt, s1.a = some ⟨p24.b, p24.o, none⟩ ∧ 0 ≤ x17 ∧ x17 < ((s1.n : Nat) : Int) ∧ ∃ b25_0 : Bool, ∃ x25_1 : Int, ∃ s25_2 : Sl, rd w5 p24.b (p24.o + Int.toNat x17 * 3) [(.bool b25_0), (.int .i64 x25_1), (.slice s25_2.a s25_2.n s25_2.c)] ∧ Let (w5.alloc (.cells (zc Try.prog 96) 96)) fun w6 => 
  StoreOk w6 w5.heap.size 0 [(.bool b25_0), (.int .i64 x25_1), (.slice s25_2.a s25_2.n s25_2.c)] 3 ∧ Let (put w6 w5.heap.size 0 [(.bool b25_0), (.int .i64 x25_1), (.slice s25_2.a s25_2.n s25_2.c)]) fun w7 => 
  ∃ b27_0 : Bool, ∃ x27_1 : Int, ∃ s27_2 : Sl, rd w7 w2.heap.size 0 [(.bool b27_0), (.int .i64 x27_1), (.slice s27_2.a s27_2.n s27_2.c)] ∧ ∃ b28_0 : Bool, ∃ x28_1 : Int, ∃ s28_2 : Sl, rd w7 w5.heap.size 0 [(.bool b28_0), (.int .i64 x28_1), (.slice s28_2.a s28_2.n s28_2.c)] ∧ (bif callable Try.prog f2 then Calls Try.prog f2 (([(.agg [(.bool b27_0), (.int .i64 x27_1), (.slice s27_2.a s27_2.n s27_2.c)].toArray), (.agg [(.bool b28_0), (.int .i64 x28_1), (.slice s28_2.a s28_2.n s28_2.c)].toArray)] : List Value) ++ c2).toArray w7 (fun e w8 => ∃ b29 : Bool, e = .returned (.bool b29) ∧
  cond (!b29) (
  R (.bool false) w8) (
  J_2 w8)) else False))) (
  J w2))))
theorem eq89 (s0 : Sl) (s1 : Sl) (f2 : Nat) (c2 : List Value) (R : Value → World → Prop) (w : World) : funV Try.prog Try.f89 An89 [(.slice s0.a s0.n s0.c), (.slice s1.a s1.n s1.c), (.func (.func f2) #[] c2.toArray)] R w = S89 s0 s1 f2 c2 R w := by kernel_rfl
theorem call89 (s0 : Sl) (s1 : Sl) (f2 : Nat) (c2 : List Value) {R : Value → World → Prop} {w : World} (h : S89 s0 s1 f2 c2 R w) : Calls Try.prog 89 [(.slice s0.a s0.n s0.c), (.slice s1.a s1.n s1.c), (.func (.func f2) #[] c2.toArray)].toArray w fun e w' => ∃ v, e = .returned v ∧ R v w' :=
  funV_calls mixed Try.func89 (an := An89) (by rw [eq89]; exact h)

/-- F90: cubeb/cubeblaw03.same$1$1 -/
def An90 : An := (.sq .lf (.sq (.rj [] [(4, .bool)]) .lf))
def S90 (b0_0 : Bool) (x0_1 : Int) (s0_2 : Sl) (b1_0 : Bool) (x1_1 : Int) (s1_2 : Sl) (R : Value → World → Prop) (w : World) : Prop :=
  Let (w.alloc (.cells [(.bool b0_0), (.int .i64 x0_1), (.slice s0_2.a s0_2.n s0_2.c)].toArray 96)) fun w1 => 
  Let (w1.alloc (.cells [(.bool b1_0), (.int .i64 x1_1), (.slice s1_2.a s1_2.n s1_2.c)].toArray 96)) fun w2 => 
  Join [(4, .bool)] (fun (b4 : Bool) (w3 : World) => R (.bool b4) w3) (fun J =>
  ∃ b6 : Bool, World.cell? w2 ⟨w.heap.size, (0 + 0), none⟩ = some (.bool b6) ∧ ∃ b8 : Bool, World.cell? w2 ⟨w1.heap.size, (0 + 0), none⟩ = some (.bool b8) ∧ cond (b6 == b8) (∃ x12_0 : Int, ∃ s12_1 : Sl, rd w2 w.heap.size (0 + 1) [(.int .i64 x12_0), (.slice s12_1.a s12_1.n s12_1.c)] ∧ ∃ x14_0 : Int, ∃ s14_1 : Sl, rd w2 w1.heap.size (0 + 1) [(.int .i64 x14_0), (.slice s14_1.a s14_1.n s14_1.c)] ∧ Calls Try.prog 88 [(.agg [(.int .i64 x12_0), (.slice s12_1.a s12_1.n s12_1.c)].toArray), (.agg [(.int .i64 x14_0), (.slice s14_1.a s14_1.n s14_1.c)].toArray)].toArray w2 (fun e w4 => ∃ b15 : Bool, e = .returned (.bool b15) ∧
  J b15 w4)) (J false w2))
theorem eq90 (b0_0 : Bool) (x0_1 : Int) (s0_2 : Sl) (b1_0 : Bool) (x1_1 : Int) (s1_2 : Sl) (R : Value → World → Prop) (w : World) : funV Try.prog Try.f90 An90 [(.agg [(.bool b0_0), (.int .i64 x0_1), (.slice s0_2.a s0_2.n s0_2.c)].toArray), (.agg [(.bool b1_0), (.int .i64 x1_1), (.slice s1_2.a s1_2.n s1_2.c)].toArray)] R w = S90 b0_0 x0_1 s0_2 b1_0 x1_1 s1_2 R w := by kernel_rfl
theorem call90 (b0_0 : Bool) (x0_1 : Int) (s0_2 : Sl) (b1_0 : Bool) (x1_1 : Int) (s1_2 : Sl) {R : Value → World → Prop} {w : World} (h : S90 b0_0 x0_1 s0_2 b1_0 x1_1 s1_2 R w) : Calls Try.prog 90 [(.agg [(.bool b0_0), (.int .i64 x0_1), (.slice s0_2.a s0_2.n s0_2.c)].toArray), (.agg [(.bool b1_0), (.int .i64 x1_1), (.slice s1_2.a s1_2.n s1_2.c)].toArray)].toArray w fun e w' => ∃ v, e = .returned v ∧ R v w' :=
  funV_calls mixed Try.func90 (an := An90) (by rw [eq90]; exact h)

end Go.Proofs.Ytoljknamnkkgcaa
/-
  Contracts of the laws' helpers: rules turned back; equality of rules.
-/
namespace Go.Proofs.Ytoljknamnkkgcaa
open Go Go.VC
set_option maxHeartbeats 1000000
set_option maxRecDepth 100000

theorem E22' : Elem Try.prog 22 94 3 56 := Elem.of (by kernel_rfl) (by kernel_rfl) (by decide)
theorem E92 : Elem Try.prog 92 96 3 40 := Elem.of (by kernel_rfl) (by kernel_rfl) (by decide)
/-- A rule that was turned back. -/
structure OR (w0 w : World) (y : DR) : Prop where
  hd : Ints w0 y.head.sl y.head.args
  sl : Sli 3 eL w y.bs y.body
  ty : ∀ a, y.bs.a = some a → ∃ cur, Blk w a.block cur 96
  bd : ∀ b ∈ y.body, Ints w0 b.a.sl b.a.args
theorem OR.fr {M : Nat → Prop} {w0 w w' : World} {y : DR} (h : OR w0 w y) (f : Fr M w w') (h96 : ∀ q cur, Blk w q cur 96 → ¬ M q) : OR w0 w' y := by
  have hn : ∀ a, y.bs.a = some a → ¬ M a.block := fun a ha => by obtain ⟨cur, hc⟩ := h.ty a ha; exact h96 _ _ hc
  exact ⟨h.hd, h.sl.fr f hn, fun a ha => by obtain ⟨cur, hc⟩ := h.ty a ha; exact ⟨cur, hc.fr f (hn a ha)⟩, h.bd⟩
theorem OR.ext {w0 w w' : World} {y : DR} (h : OR w0 w y) (x : Ext w w') : OR w0 w' y := h.fr x fun _ _ _ h => h
theorem OR.ok {w0 w : World} {y : DR} (h : OR w0 w y) (x : Ext w0 w) : RulOk w y := ⟨h.hd.ext x, h.sl, fun b hb => (h.bd b hb).ext x⟩
theorem c40 {w : World} {s : Sl} {l : List DR} (hs : NR w s l) (hl : l.length ≤ 1000) (hb : ∀ r ∈ l, r.body.length ≤ 1000) :
    Calls Try.prog 40 [.slice s.a s.n s.c].toArray w fun e w' => ∃ (s' : Sl) (L : List DR), e = .returned (.slice s'.a s'.n s'.c) ∧ NR w' s' L ∧ L.map DR.p = l.map DR.p ∧ Ext w w' := by
  refine (call40 s (R := fun v w' => ∃ (s' : Sl) (L : List DR), v = (.slice s'.a s'.n s'.c) ∧ NR w' s' L ∧ L.map DR.p = l.map DR.p ∧ Ext w w') ?_).mono fun e w' ⟨v, he, s', L, hv, hx⟩ => ⟨s', L, by rw [he, hv], hx⟩
  have hsn := hs.len
  refine Join.dir (rangeSI (fun i (s3 : Sl) w2 => ∃ L : List DR, Own 94 3 eR w.heap.size w2 s3 L ∧ (∀ y ∈ L, OR w w2 y) ∧ L.map DR.p = (l.take i).map DR.p ∧ Ext w w2) (by rw [hsn]; show l.length ≤ 9223372036854775807; omega) ⟨[], Own.nil .., by simp, by simp, Fr.refl _ _⟩ ?_ ?_)
  rotate_left
  · rintro s3 w2 ⟨L, ho, hor, hp, x2⟩
    rw [hsn, List.take_length] at hp
    exact ⟨s3, L, rfl, ⟨ho.sli, fun y hy => (hor y hy).ok x2⟩, hp, x2⟩
  rintro i hi s3 w2 ⟨L, ho, hor, hLp, x2⟩ K hK
  have hi : i < l.length := by omega
  refine loadR (hs.ext x2) hi fun w5 b5 x5 => ?_
  have hro := hs.ok _ (List.getElem_mem hi)
  have hrb := hb _ (List.getElem_mem hi)
  have hti : (l.take (i + 1)).map DR.p = (l.take i).map DR.p ++ [(l[i]).p] := by rw [List.take_succ_eq_append_getElem hi, List.map_append]; rfl
  have hLl : L.length ≤ 1000 := by have := congrArg List.length hLp; simp at this; omega
  generalize l[i] = r at b5 hro hrb hti
  have hbn := hro.bd.len
  obtain ⟨n1, n2, n3⟩ := new_var w5 94 (z := zc Try.prog 94) (vs := [.int .i64 r.head.rel, .slice r.head.sl.a r.head.sl.n r.head.sl.c, .slice none 0 0]) (by rw [zc94]; rfl) (by intro v hv; simp at hv; rcases hv with rfl | rfl | rfl <;> rfl)
  refine ⟨_, b5.cell 0, r.head.sl, b5.cell 1, rfl, by decide, Let.intro fun w6 e6 => ?_⟩
  rw [← e6] at n1 n2 n3
  refine ⟨n1, Let.intro fun w7 e7 => ?_⟩
  rw [← e7] at n2 n3
  have b7 := b5.ext n3
  have x07 := (x2.trans x5).trans n3
  have x27 := x5.trans n3
  have lq := n2.lt
  have z5 := x5.size
  have z2 := x2.size
  have z7 := n3.size
  refine ⟨r.bs, b7.cell 2, ?_⟩
  refine ⟨fun w8 => ∃ (sb : Sl) (B : List DL), Blk w8 w5.heap.size [.int .i64 r.head.rel, .slice r.head.sl.a r.head.sl.n r.head.sl.c, .slice sb.a sb.n sb.c] 94 ∧ Own 96 3 eL w7.heap.size w8 sb B ∧ (∀ b ∈ B, Ints w b.a.sl b.a.args) ∧ B.map DL.p = r.p.body ∧ Fr (fun y => y = w5.heap.size) w7 w8, ?_, ?_⟩
  · rintro w8 ⟨sb, B, b8, hob, hbi, hBp, f8⟩
    refine ⟨_, _, _, b8.rd, ?_⟩
    let y : DR := ⟨r.head, sb, B⟩
    have hf28 : Ext w2 w8 := x27.newer f8 fun q (hq : q = w5.heap.size) => by omega
    have hy8 : OR w w8 y := ⟨hro.hd, hob.sli, fun a ha => hob.blk ha, hbi⟩
    obtain ⟨s48, w9, hb48, s49, w10, hr49, ho10, f10⟩ := appendOne E22' (ho.ext hf28) (x := y) (v := .agg [.int .i64 r.head.rel, .slice r.head.sl.a r.head.sl.n r.head.sl.c, .slice sb.a sb.n sb.c].toArray) rfl eR_len eR_one (by omega) (by omega) (by simp only [maxLen]; omega) (by have := hf28.size; omega) 22
    have hno : ∀ q cur, Blk w8 q cur 96 → ¬ BlS s3 q := fun q cur hq ⟨a, ha, e⟩ => by
      obtain ⟨cur', hc'⟩ := (ho.ext hf28).blk ha
      rw [e] at hc'
      exact Blk.ne_ty hq hc' (by decide) rfl
    refine ⟨s48, w9, hb48, s49, w10, hr49, hK _ _ ⟨L ++ [y], ho10, fun y' hy' => ?_, ?_, (x2.trans hf28).newer f10 fun q ⟨a, ha, e⟩ => by have := (ho.base ha).1; omega⟩⟩
    · rcases List.mem_append.1 hy' with hy' | hy'
      · exact ((hor y' hy').ext hf28).fr f10 hno
      · simp only [List.mem_singleton] at hy'; subst hy'; exact hy8.fr f10 hno
    · rw [List.map_append, hLp, hti]
      congr 1
      simp only [List.map_cons, List.map_nil]
      congr 1
      show (⟨r.head.p, B.map DL.p⟩ : Ru) = r.p
      rw [hBp]; rfl
  refine rangeI (fun j w11 => ∃ (sb : Sl) (B : List DL), Blk w11 w5.heap.size [.int .i64 r.head.rel, .slice r.head.sl.a r.head.sl.n r.head.sl.c, .slice sb.a sb.n sb.c] 94 ∧ Own 96 3 eL w7.heap.size w11 sb B ∧ (∀ b ∈ B, Ints w b.a.sl b.a.args) ∧ B.map DL.p = r.p.body.take j ∧ Fr (fun y => y = w5.heap.size) w7 w11) (by rw [hbn]; show r.body.length ≤ 9223372036854775807; omega) ⟨⟨none, 0, 0⟩, [], n2, Own.nil .., by simp, by simp, Fr.refl _ _⟩ ?_ ?_
  rotate_left
  · rintro w11 ⟨sb, B, h1, h2, h3, h4, h5⟩
    have e : r.p.body.take r.bs.n = r.p.body := by rw [hbn]; exact List.take_of_length_le (by simp [DR.p])
    rw [e] at h4
    exact ⟨sb, B, h1, h2, h3, h4, h5⟩
  rintro j hj w11 ⟨sb, B, bq, hob, hbi, hBp, f11⟩ K2 hK2
  have hj : j < r.body.length := by omega
  have x011 : Ext w w11 := x07.newer f11 fun y (hy : y = w5.heap.size) => by omega
  refine loadL (hro.ext x011).bd hj fun w14 b14 x14 => ?_
  have hbp : r.p.body[j]'(by simpa [DR.p] using hj) = (r.body[j]).p := by simp [DR.p]
  have htk : r.p.body.take (j + 1) = r.p.body.take j ++ [(r.body[j]).p] := by rw [List.take_succ_eq_append_getElem (by simpa [DR.p] using hj), hbp]
  have hint := hro.bd.ok _ (List.getElem_mem hj)
  have hlj : (r.p.body.take j).length = j := by simp [DR.p]; omega
  generalize r.body[j] = b at b14 htk hint
  have bq14 := bq.ext x14
  have hBl : B.length ≤ 1000 := by have := congrArg List.length hBp; simp at this; omega
  obtain ⟨s42, w15, hb42, s43, w16, hr43, ho16, f16⟩ := appendOne E92 (hob.ext x14) (x := b) (v := .agg [.bool b.neg, .int .i64 b.a.rel, .slice b.a.sl.a b.a.sl.n b.a.sl.c].toArray) rfl eL_len eL_one (by omega) (by omega) (by simp only [maxLen]; omega) (by have := f11.size; have := x14.size; omega) 92
  refine ⟨sb, bq14.cell 2, b.neg, b14.cell 0, b.a.rel, b14.cell 1, b.a.sl, b14.cell 2, rfl, by decide, s42, w15, hb42, s43, w16, hr43, ?_⟩
  have hnq : ¬ BlS sb w5.heap.size := fun ⟨a, ha, e⟩ => by have := (hob.base ha).1; omega
  have bq16 := bq14.fr f16 hnq
  obtain ⟨p1, p2, p3⟩ := (⟨bq16.storeOk (o := 0 + 2) (vs := [.slice s43.a s43.n s43.c]) rfl (by simp [Value.oneCell']) (by simp), by
      have := bq16.put (o := 0 + 2) (vs := [.slice s43.a s43.n s43.c]); exact this, Fr.put ..⟩ : StoreOk w16 w5.heap.size (0 + 2) [.slice s43.a s43.n s43.c] 1 ∧ Blk (put w16 w5.heap.size (0 + 2) [.slice s43.a s43.n s43.c]) w5.heap.size [.int .i64 r.head.rel, .slice r.head.sl.a r.head.sl.n r.head.sl.c, .slice s43.a s43.n s43.c] 94 ∧ Fr (fun y => y = w5.heap.size) w16 (put w16 w5.heap.size (0 + 2) [.slice s43.a s43.n s43.c]))
  refine ⟨p1, Let.intro fun w17 e17 => ?_⟩
  have e17 : w17 = put w16 w5.heap.size (0 + 2) [.slice s43.a s43.n s43.c] := e17
  rw [← e17] at p2 p3
  refine hK2 _ ⟨s43, B ++ [b], p2, ho16.fr p3 fun a ha (e : a.block = w5.heap.size) => by have := (ho16.base ha).1; omega, fun b' hb' => ?_, by rw [List.map_append, hBp, htk]; rfl, ((f11.ext x14).trans f16 fun y hy ⟨a, ha, e⟩ => by have := (hob.base ha).1; omega).trans p3 fun _ _ h => h⟩
  rcases List.mem_append.1 hb' with hb' | hb'
  · exact hbi b' hb'
  · simp only [List.mem_singleton] at hb'; subst hb'; exact hint
/-! ### equality -/
theorem c88 {w : World} {x y : DF} (hx : Ints w x.sl x.args) (hy : Ints w y.sl y.args) (hl : x.args.length ≤ big) :
    Calls Try.prog 88 [.agg [.int .i64 x.rel, .slice x.sl.a x.sl.n x.sl.c].toArray, .agg [.int .i64 y.rel, .slice y.sl.a y.sl.n y.sl.c].toArray].toArray w fun e w' => e = .returned (.bool (decide (x.p = y.p))) ∧ Ext w w' := by
  refine (call88 x.rel x.sl y.rel y.sl (R := fun v w' => v = .bool (decide (x.p = y.p)) ∧ Ext w w') ?_).mono fun e w' ⟨v, he, hv, hx⟩ => ⟨by rw [he, hv], hx⟩
  obtain ⟨b1, x1⟩ := eF_cells w x 91
  refine Let.intro fun w1 e1 => ?_
  have e1 : w1 = w.alloc (.cells (eF x).toArray 91) := e1
  rw [← e1] at b1 x1
  obtain ⟨b2, x2⟩ := eF_cells w1 y 91
  refine Let.intro fun w2 e2 => ?_
  have e2 : w2 = w1.alloc (.cells (eF y).toArray 91) := e2
  rw [← e2] at b2 x2
  have b1 := b1.ext x2
  have x12 := x1.trans x2
  refine Join.dir ⟨_, b1.cell 0, _, b2.cell 0, cond_intro (fun g => ?_) (fun g => ?_)⟩
  · have g : x.rel = y.rel := by simpa using g
    refine ⟨_, b1.cell 1, _, b2.cell 1, (c32 (hx.ext x12) (hy.ext x12) hl).mono fun e w4 ⟨he, x4⟩ => ⟨_, he, ?_, x12.trans x4⟩⟩
    congr 1
    apply decide_eq_decide.2
    simp [DF.p, g]
  · have g : ¬ x.rel = y.rel := by simpa using g
    exact ⟨by simp [DF.p, g], x12⟩
theorem callable90 : callable Try.prog 90 = true := by kernel_rfl
theorem callable87 : callable Try.prog 87 = true := by kernel_rfl
theorem c90 {w : World} {x y : DL} (hx : Ints w x.a.sl x.a.args) (hy : Ints w y.a.sl y.a.args) (hl : x.a.args.length ≤ big) :
    Calls Try.prog 90 [.agg [.bool x.neg, .int .i64 x.a.rel, .slice x.a.sl.a x.a.sl.n x.a.sl.c].toArray, .agg [.bool y.neg, .int .i64 y.a.rel, .slice y.a.sl.a y.a.sl.n y.a.sl.c].toArray].toArray w fun e w' => e = .returned (.bool (decide (x.p = y.p))) ∧ Ext w w' := by
  refine (call90 x.neg x.a.rel x.a.sl y.neg y.a.rel y.a.sl (R := fun v w' => v = .bool (decide (x.p = y.p)) ∧ Ext w w') ?_).mono fun e w' ⟨v, he, hv, hx⟩ => ⟨by rw [he, hv], hx⟩
  refine Let.intro fun w1 e1 => ?_
  have e1 : w1 = w.alloc (.cells (eL x).toArray 96) := e1
  have b1 : Blk w1 w.heap.size (eL x) 96 := by rw [e1]; exact Blk.alloc w _ 96
  have x1 : Ext w w1 := by rw [e1]; exact Ext.alloc ..
  refine Let.intro fun w2 e2 => ?_
  have e2 : w2 = w1.alloc (.cells (eL y).toArray 96) := e2
  have b2 : Blk w2 w1.heap.size (eL y) 96 := by rw [e2]; exact Blk.alloc w1 _ 96
  have x2 : Ext w1 w2 := by rw [e2]; exact Ext.alloc ..
  have b1 := b1.ext x2
  have x12 := x1.trans x2
  refine Join.dir ⟨_, b1.cell 0, _, b2.cell 0, cond_intro (fun g => ?_) (fun g => ?_)⟩
  · have g : x.neg = y.neg := by simpa using g
    refine ⟨_, _, rdAtom b1, _, _, rdAtom b2, (c88 (hx.ext x12) (hy.ext x12) hl).mono fun e w4 ⟨he, x4⟩ => ⟨_, he, ?_, x12.trans x4⟩⟩
    congr 1
    apply decide_eq_decide.2
    simp [DL.p, g]
  · have g : ¬ x.neg = y.neg := by simpa using g
    exact ⟨by simp [DL.p, g], x12⟩
theorem c89 {w : World} {s s' : Sl} {l l' : List DL} (hs : NL w s l) (hs' : NL w s' l') (hl : l.length ≤ big) (ha : ∀ x ∈ l, x.a.args.length ≤ big) :
    Calls Try.prog 89 [.slice s.a s.n s.c, .slice s'.a s'.n s'.c, .func (.func 90) #[] [].toArray].toArray w fun e w' => e = .returned (.bool (decide (l.map DL.p = l'.map DL.p))) ∧ Ext w w' := by
  refine (call89 s s' 90 [] (R := fun v w' => v = .bool (decide (l.map DL.p = l'.map DL.p)) ∧ Ext w w') ?_).mono fun e w' ⟨v, he, hv, hx⟩ => ⟨by rw [he, hv], hx⟩
  have h1 := hs.sl.len
  have h2 := hs'.sl.len
  refine cond_intro (fun h => ?_) (fun h => ?_)
  · have h : ¬ l.map DL.p = l'.map DL.p := by
      intro e
      have := congrArg List.length e
      simp at this
      simp [h1, h2, this] at h
    exact ⟨by simp [h], Fr.refl _ w⟩
  · have h : l.length = l'.length := by simp at h; omega
    refine Join.dir (rangeI (fun i w2 => (l.take i).map DL.p = (l'.take i).map DL.p ∧ Ext w w2) (by rw [h1]; exact hl) ⟨by simp, Fr.refl _ w⟩ ?_ ?_)
    · rintro i hi w2 ⟨hn, hx⟩ K hK
      have hi : i < l.length := by omega
      have hi' : i < l'.length := by omega
      refine loadLT (hs.ext hx) hi zc96 fun w5 b5 x5 => ?_
      refine loadLT ((hs'.ext hx).ext x5) hi' zc96 fun w7 b7 x7 => ?_
      refine ⟨_, _, _, (b5.ext x7).rd, _, _, _, b7.rd, ?_⟩
      have x27 := (hx.trans x5).trans x7
      rw [callable90]
      refine (c90 ((hs.ok _ (List.getElem_mem hi)).ext x27) ((hs'.ok _ (List.getElem_mem hi')).ext x27) (ha _ (List.getElem_mem hi))).mono fun e w8 ⟨he, x8⟩ => ⟨_, he, cond_intro (fun g => ?_) (fun g => ?_)⟩
      · have g : ¬ (l[i]).p = (l'[i]).p := by simpa using g
        refine ⟨?_, x27.trans x8⟩
        have : ¬ l.map DL.p = l'.map DL.p := fun e => g (by
          have h3 : (l.map DL.p)[i]'(by simpa using hi) = (l'.map DL.p)[i]'(by simpa using hi') := by simp only [e]
          simpa using h3)
        simp [this]
      · have g : (l[i]).p = (l'[i]).p := by simpa using g
        refine hK _ ⟨?_, x27.trans x8⟩
        rw [List.take_succ_eq_append_getElem hi, List.take_succ_eq_append_getElem hi', List.map_append, List.map_append, hn]
        simp [g]
    · rintro w2 ⟨hn, hx⟩
      rw [h1, List.take_length, h, List.take_length] at hn
      exact ⟨by simp [hn], hx⟩
theorem c87 {w : World} {x y : DR} (hx : RulOk w x) (hy : RulOk w y) (hb : x.body.length ≤ big) (ha : ∀ a ∈ x.atoms, a.args.length ≤ big) :
    Calls Try.prog 87 [.agg [.int .i64 x.head.rel, .slice x.head.sl.a x.head.sl.n x.head.sl.c, .slice x.bs.a x.bs.n x.bs.c].toArray, .agg [.int .i64 y.head.rel, .slice y.head.sl.a y.head.sl.n y.head.sl.c, .slice y.bs.a y.bs.n y.bs.c].toArray].toArray w fun e w' => e = .returned (.bool (decide (x.p = y.p))) ∧ Ext w w' := by
  refine (call87 x.head.rel x.head.sl x.bs y.head.rel y.head.sl y.bs (R := fun v w' => v = .bool (decide (x.p = y.p)) ∧ Ext w w') ?_).mono fun e w' ⟨v, he, hv, hx⟩ => ⟨by rw [he, hv], hx⟩
  refine Let.intro fun w1 e1 => ?_
  have e1 : w1 = w.alloc (.cells (eR x).toArray 94) := e1
  have b1 : Blk w1 w.heap.size (eR x) 94 := by rw [e1]; exact Blk.alloc w _ 94
  have x1 : Ext w w1 := by rw [e1]; exact Ext.alloc ..
  refine Let.intro fun w2 e2 => ?_
  have e2 : w2 = w1.alloc (.cells (eR y).toArray 94) := e2
  have b2 : Blk w2 w1.heap.size (eR y) 94 := by rw [e2]; exact Blk.alloc w1 _ 94
  have x2 : Ext w1 w2 := by rw [e2]; exact Ext.alloc ..
  have b1 := b1.ext x2
  have x12 := x1.trans x2
  refine Join.dir ⟨_, _, rdHead b1, _, _, rdHead b2, (c88 (hx.hd.ext x12) (hy.hd.ext x12) (ha _ (by simp [DR.atoms]))).mono fun e w4 ⟨he, x4⟩ => ⟨_, he, cond_intro (fun g => ?_) (fun g => ?_)⟩⟩
  · have g : x.head.p = y.head.p := by simpa using g
    have x14 := x12.trans x4
    refine ⟨_, (b1.ext x4).cell 2, _, (b2.ext x4).cell 2, (c89 (hx.bd.ext x14) (hy.bd.ext x14) hb (fun b hb => ha _ (by simp [DR.atoms]; exact .inr ⟨b, hb, rfl⟩))).mono fun e w5 ⟨he, x5⟩ => ⟨_, he, ?_, x14.trans x5⟩⟩
    congr 1
    apply decide_eq_decide.2
    simp [DR.p, g]
  · have g : ¬ x.head.p = y.head.p := by simpa using g
    exact ⟨by simp [DR.p, g], x12.trans x4⟩
theorem c39 {w : World} {s s' : Sl} {l l' : List DR} (hs : NR w s l) (hs' : NR w s' l') (hl : l.length ≤ big) (hb : ∀ r ∈ l, r.body.length ≤ big) (ha : ∀ r ∈ l, ∀ a ∈ r.atoms, a.args.length ≤ big) :
    Calls Try.prog 39 [.slice s.a s.n s.c, .slice s'.a s'.n s'.c].toArray w fun e w' => e = .returned (.bool (decide (l.map DR.p = l'.map DR.p))) ∧ Ext w w' := by
  refine (call39 s s' (R := fun v w' => v = .bool (decide (l.map DR.p = l'.map DR.p)) ∧ Ext w w') ?_).mono fun e w' ⟨v, he, hv, hx⟩ => ⟨by rw [he, hv], hx⟩
  have h1 := hs.len
  have h2 := hs'.len
  refine (call86 s s' 87 [] (R := fun v w' => v = .bool (decide (l.map DR.p = l'.map DR.p)) ∧ Ext w w') ?_).mono fun e w' ⟨v, he, hv, hx⟩ => ⟨_, by rw [he, hv], rfl, hx⟩
  refine cond_intro (fun h => ?_) (fun h => ?_)
  · have h : ¬ l.map DR.p = l'.map DR.p := by
      intro e
      have := congrArg List.length e
      simp at this
      simp [h1, h2, this] at h
    exact ⟨by simp [h], Fr.refl _ w⟩
  · have h : l.length = l'.length := by simp at h; omega
    refine Join.dir (rangeI (fun i w2 => (l.take i).map DR.p = (l'.take i).map DR.p ∧ Ext w w2) (by rw [h1]; exact hl) ⟨by simp, Fr.refl _ w⟩ ?_ ?_)
    · rintro i hi w2 ⟨hn, hx⟩ K hK
      have hi : i < l.length := by omega
      have hi' : i < l'.length := by omega
      refine loadRT (hs.ext hx) hi zc94 fun w5 b5 x5 => ?_
      refine loadRT ((hs'.ext hx).ext x5) hi' zc94 fun w7 b7 x7 => ?_
      refine ⟨_, _, _, (b5.ext x7).rd, _, _, _, b7.rd, ?_⟩
      have x27 := (hx.trans x5).trans x7
      rw [callable87]
      refine (c87 ((hs.ok _ (List.getElem_mem hi)).ext x27) ((hs'.ok _ (List.getElem_mem hi')).ext x27) (hb _ (List.getElem_mem hi)) (ha _ (List.getElem_mem hi))).mono fun e w8 ⟨he, x8⟩ => ⟨_, he, cond_intro (fun g => ?_) (fun g => ?_)⟩
      · have g : ¬ (l[i]).p = (l'[i]).p := by simpa using g
        refine ⟨?_, x27.trans x8⟩
        have : ¬ l.map DR.p = l'.map DR.p := fun e => g (by
          have h3 : (l.map DR.p)[i]'(by simpa using hi) = (l'.map DR.p)[i]'(by simpa using hi') := by simp only [e]
          simpa using h3)
        simp [this]
      · have g : (l[i]).p = (l'[i]).p := by simpa using g
        refine hK _ ⟨?_, x27.trans x8⟩
        rw [List.take_succ_eq_append_getElem hi, List.take_succ_eq_append_getElem hi', List.map_append, List.map_append, hn]
        simp [g]
    · rintro w2 ⟨hn, hx⟩
      rw [h1, List.take_length, h, List.take_length] at hn
      exact ⟨by simp [hn], hx⟩
end Go.Proofs.Ytoljknamnkkgcaa
/-
  The plain law of rules: what values of an instance are; facts keep their shape.
-/
namespace Go.Proofs.Ytoljknamnkkgcaa
open Go Go.VC
set_option maxHeartbeats 400000

theorem getD_set {v : List Int} {i j : Nat} {n : Int} : (v.set i n).getD j 0 = if i = j ∧ j < v.length then n else v.getD j 0 := by
  simp only [List.getD, List.getElem?_set]
  by_cases e : i = j
  · subst e
    by_cases h : i < v.length
    · simp [h]
    · simp [h, List.getElem?_eq_none (show v.length ≤ i by omega)]
  · simp [e]
theorem getD_lt {v : List Int} {j : Nat} (h : v.getD j 0 ≠ 0) : j < v.length := by
  rcases Nat.lt_or_ge j v.length with h1 | h1
  · exact h1
  · exact absurd (by simp [List.getD, List.getElem?_eq_none h1]) h
theorem fitA_keep : ∀ {v l ns v' : List Int}, fitA v l ns = some v' → ∀ y, v.getD y 0 ≠ 0 → v'.getD y 0 = v.getD y 0
  | _, [], _, _, h, y, _ => by simp [fitA] at h; rw [h]
  | _, _ :: _, [], _, h, _, _ => by simp [fitA] at h
  | v, x :: r, n :: ns, v', h, y, hy => by
    rw [fitA] at h
    split at h
    · cases h
    · rename_i hc
      have h1 := fitA_keep h y
      have e : (if 0 ≤ x then v.set x.toNat n else v).getD y 0 = v.getD y 0 := by
        split
        · rw [getD_set]
          split
          · rename_i h0 he
            obtain ⟨e1, e2⟩ := he
            subst e1
            refine Classical.byContradiction fun hne => hc (.inr ⟨h0, hy, fun e => hne e.symm⟩)
          · rfl
        · rfl
      rw [e] at h1
      exact h1 hy
theorem fitA_val : ∀ {v l ns v' : List Int}, v.length = 8 → (∀ x ∈ l, x ≤ 7) → fitA v l ns = some v' → ∀ (i : Nat) (x n : Int), l[i]? = some x → ns[i]? = some n → n ≠ 0 → gV v' x = n
  | _, [], _, _, _, _, _, i, _, _, h, _, _ => by simp at h
  | _, _ :: _, [], _, _, _, h, _, _, _, _, _, _ => by simp [fitA] at h
  | v, y :: r, m :: ns, v', hv, hl, h, i, x, n, hi, hn, h0 => by
    rw [fitA] at h
    split at h
    · cases h
    · rename_i hc
      cases i with
      | zero =>
        simp only [List.getElem?_cons_zero, Option.some.injEq] at hi hn
        subst hi hn
        unfold gV
        by_cases hy : y < 0
        · rw [if_pos hy]
          exact Classical.byContradiction fun hne => hc (.inl ⟨hy, hne⟩)
        · rw [if_neg hy]
          have hy0 : 0 ≤ y := by omega
          rw [if_pos hy0] at h
          have hy7 := hl y (by simp)
          have e : (v.set y.toNat m).getD y.toNat 0 = m := by rw [getD_set, if_pos ⟨rfl, by omega⟩]
          have := fitA_keep h y.toNat (by rw [e]; exact h0)
          rw [this, e]
      | succ i =>
        refine fitA_val (v := if 0 ≤ y then v.set y.toNat m else v) ?_ (fun z hz => hl z (by simp [hz])) h i x n (by simpa using hi) (by simpa using hn) h0
        split <;> simp [hv]
/-- A key of the right shape: as many Args as the others of its Rel. -/
structure TyK (C : List Fa) (k : Ky) : Prop where
  r0 : 0 ≤ k.rel
  r1 : k.rel ≤ 5
  a1 : 1 ≤ k.a ∧ k.a ≤ 6
  b1 : k.b = 0 ∨ (1 ≤ k.b ∧ k.b ≤ 6)
  co : ∀ g ∈ C, g.rel = k.rel → (g.args.length = 1 ∧ k.b = 0) ∨ (g.args.length = 2 ∧ k.b ≠ 0)
theorem TyK.ground {C : List Fa} {k : Ky} (h : TyK C k) : GroundF k.f := by
  refine ⟨h.r0, h.r1, ?_, ?_, ?_⟩
  · simp only [Ky.f]; split <;> simp
  · simp only [Ky.f]; split <;> simp
  · intro x hx
    simp only [Ky.f] at hx
    have ha := h.a1
    split at hx
    · simp only [List.mem_singleton] at hx; subst hx; exact ha
    · simp only [List.mem_cons, List.not_mem_nil, or_false] at hx
      rcases hx with rfl | rfl
      · exact ha
      · rcases h.b1 with h' | h'
        · omega
        · exact h'
theorem TyK.len {C : List Fa} {k : Ky} (h : TyK C k) : ∀ g ∈ C, g.rel = k.rel → g.args.length = k.f.args.length := fun g hg e => by
  rcases h.co g hg e with ⟨h1, h2⟩ | ⟨h1, h2⟩
  · simp [Ky.f, h2, h1]
  · simp [Ky.f, h2, h1]
theorem Ky.fk (k : Ky) : k.f.k = k := by
  cases k with | mk r a b => simp only [Ky.f, Fa.k]; by_cases h : b = 0 <;> simp [h]
theorem GroundF.kf {f : Fa} (h : GroundF f) : f.k.f = f := by
  obtain ⟨h1, h2, h3, h4, h5⟩ := h
  obtain ⟨r, l⟩ := f
  match l, h3, h4, h5 with
  | [a], _, _, _ => simp [Ky.f, Fa.k]
  | [a, b], _, _, h5 =>
    have hb := (h5 b (by simp)).1
    have : b ≠ 0 := by omega
    simp [Ky.f, Fa.k, this]
theorem ty_of {C : List Fa} {f : Fa} (hg : GroundF f) (hc : ∀ g ∈ C, g.rel = f.rel → g.args.length = f.args.length) : TyK C f.k := by
  obtain ⟨h1, h2, h3, h4, h5⟩ := hg
  obtain ⟨r, l⟩ := f
  match l, h3, h4, h5, hc with
  | [a], _, _, h5, hc => exact ⟨h1, h2, h5 a (by simp), .inl rfl, fun g hg e => .inl ⟨by simpa using hc g hg e, rfl⟩⟩
  | [a, b], _, _, h5, hc =>
    have hb := h5 b (by simp)
    exact ⟨h1, h2, h5 a (by simp), .inr hb, fun g hg e => .inr ⟨by simpa using hc g hg e, by show b ≠ 0; omega⟩⟩
/-- An atom under values that fit it to a fact of its shape is that fact. -/
theorem fitK_gnd {C : List Fa} {a : Fa} {g : Ky} {v v' u : List Int} (hv : v.length = 8) (ha : FitsF a) (haC : a ∈ C) (hg : TyK C g) (hf : fitK v a g v') (hu : ∀ y, v'.getD y 0 ≠ 0 → u.getD y 0 = v'.getD y 0) :
    gnd a u = g ∧ ∀ x ∈ a.args, 1 ≤ gV u x ∧ gV u x ≤ 6 := by
  obtain ⟨h1, h2⟩ := hf
  have hl7 : ∀ x ∈ a.args, x ≤ 7 := fun x hx => (ha.2.2.2.2 x hx).2
  have hval := fitA_val hv hl7 h2
  have hu' : ∀ x n : Int, gV v' x = n → n ≠ 0 → gV u x = n := fun x n e h0 => by
    unfold gV at e ⊢
    split at e
    · rw [if_pos (by assumption)]; exact e
    · rw [if_neg (by assumption), hu x.toNat (by rw [e]; exact h0)]; exact e
  have ga := hg.a1
  have hco := hg.co a haC h1
  obtain ⟨r, l⟩ := a
  simp only at h1
  match l, hco, hval with
  | [], hco, _ => simp at hco
  | [x], hco, hval =>
    have e0 := hu' x g.a (hval 0 x g.a rfl rfl (by omega)) (by omega)
    have hb : g.b = 0 := by rcases hco with ⟨_, h⟩ | ⟨h, _⟩; exact h; simp at h
    refine ⟨?_, ?_⟩
    · cases g; simp only at h1 e0 hb; simp [gnd, gA, e0, h1, hb]
    · intro y hy; simp only [List.mem_singleton] at hy; subst hy; rw [e0]; exact ga
  | [x, z], hco, hval =>
    have hb : g.b ≠ 0 := by rcases hco with ⟨h, _⟩ | ⟨_, h⟩; simp at h; exact h
    have gb : 1 ≤ g.b ∧ g.b ≤ 6 := by rcases hg.b1 with h | h; exact absurd h hb; exact h
    have e0 := hu' x g.a (hval 0 x g.a rfl rfl (by omega)) (by omega)
    have e1 := hu' z g.b (hval 1 z g.b rfl rfl hb) hb
    refine ⟨?_, ?_⟩
    · cases g; simp only at h1 e0 e1; simp [gnd, gA, e0, e1, h1]
    · intro y hy
      simp only [List.mem_cons, List.not_mem_nil, or_false] at hy
      rcases hy with rfl | rfl
      · rw [e0]; exact ga
      · rw [e1]; exact gb
  | _ :: _ :: _ :: _, hco, _ => simp at hco
theorem En_sem {C : List Fa} {In : Ky → Prop} (hIn : ∀ k, In k → TyK C k) : ∀ {l : List Li} {v u : List Int}, (∀ b ∈ l, FitsF b.a ∧ b.a ∈ C) → v.length = 8 → En In l v u →
    (∀ y, v.getD y 0 ≠ 0 → u.getD y 0 = v.getD y 0) ∧ ∀ b ∈ l, b.neg = false → In (gnd b.a u) ∧ ∀ x ∈ b.a.args, 1 ≤ gV u x ∧ gV u x ≤ 6
  | [], v, u, _, _, h => ⟨fun y _ => by rw [h], by simp⟩
  | c :: r, v, u, hb, hv, h => by
    have hr : ∀ b ∈ r, FitsF b.a ∧ b.a ∈ C := fun b h' => hb b (by simp [h'])
    rw [En] at h
    split at h
    · rename_i hneg
      obtain ⟨h1, h2⟩ := En_sem hIn hr hv h
      refine ⟨h1, fun b hbm hn => ?_⟩
      rcases List.mem_cons.1 hbm with rfl | hbm
      · rw [hneg] at hn; cases hn
      · exact h2 b hbm hn
    · obtain ⟨g, v', g1, g2, g3⟩ := h
      obtain ⟨h1, h2⟩ := En_sem hIn hr (by rw [fitA_len g2.2, hv]) g3
      have hc := hb c (by simp)
      obtain ⟨e1, e2⟩ := fitK_gnd hv hc.1 hc.2 (hIn g g1) g2 h1
      refine ⟨fun y hy => ?_, fun b hbm hn => ?_⟩
      · have := fitA_keep g2.2 y hy
        rw [h1 y (by rw [this]; exact hy), this]
      · rcases List.mem_cons.1 hbm with rfl | hbm
        · rw [e1]; exact ⟨g1, e2⟩
        · exact h2 b hbm hn
/-- The Head of an instance has the right shape. -/
theorem head_ty {C : List Fa} {In : Ky → Prop} (hIn : ∀ k, In k → TyK C k) (hC : Consist C) {r : Ru} (hr : RuleP r) (hrC : ∀ a ∈ r.atoms, a ∈ C) {u : List Int} (h : En In r.body z8 u) : TyK C (gnd r.head u) := by
  have hbd : ∀ b ∈ r.body, FitsF b.a ∧ b.a ∈ C := fun b hb => by
    have : b.a ∈ r.atoms := by simp [Ru.atoms]; exact .inr ⟨b, hb, rfl⟩
    exact ⟨hr.2.2 _ this, hrC _ this⟩
  obtain ⟨_, h2⟩ := En_sem hIn hbd rfl h
  have hh : r.head ∈ r.atoms := by simp [Ru.atoms]
  have hf := hr.2.2 _ hh
  have hval : ∀ x ∈ r.head.args, 1 ≤ gV u x ∧ gV u x ≤ 6 := fun x hx => by
    have hx6 := hf.2.2.2.2 x hx
    by_cases h0 : 0 ≤ x
    · obtain ⟨b, hb, hn, hxb⟩ := hr.2.1 _ hh x hx h0
      exact (h2 b hb hn).2 x hxb
    · unfold gV; rw [if_pos (by omega)]; omega
  have hcc := fun g hg e => hC g hg _ (hrC _ hh) e
  obtain ⟨f1, f2, f3, f4, _⟩ := hf
  revert hval hcc
  generalize r.head = hd at f1 f2 f3 f4
  obtain ⟨q, l⟩ := hd
  intro hval hcc
  match l, f3, f4, hval, hcc with
  | [x], _, _, hval, hcc => exact ⟨f1, f2, by simpa [gnd, gA] using hval x (by simp), .inl rfl, fun g hg e => .inl ⟨by simpa using hcc g hg e, rfl⟩⟩
  | [x, z], _, _, hval, hcc =>
    have hz := hval z (by simp)
    exact ⟨f1, f2, by simpa [gnd, gA] using hval x (by simp), .inr (by simpa [gnd, gA] using hz), fun g hg e => .inr ⟨by simpa using hcc g hg e, by show gA u [x, z] 1 ≠ 0; simp [gA]; omega⟩⟩
theorem Cl_ty {C : List Fa} {l : List Ru} {G N : Ky → Prop} (hC : Consist C) (hG : ∀ k, G k → TyK C k) (hl : ∀ r ∈ l, RuleP r ∧ ∀ a ∈ r.atoms, a ∈ C) : ∀ k, Cl l G N k → TyK C k := fun k h =>
  h (TyK C) hG fun r hr u h1 _ => head_ty (fun _ h => h) hC (hl r hr).1 (hl r hr).2 h1
theorem Lay_ty {C : List Fa} {l : List Ru} {s : List Int} {G : Ky → Prop} (hC : Consist C) (hG : ∀ k, G k → TyK C k) (hl : ∀ r ∈ l, RuleP r ∧ ∀ a ∈ r.atoms, a ∈ C) : ∀ n k, Lay l s G n k → TyK C k
  | 0 => hG
  | n + 1 => Cl_ty hC (Lay_ty hC hG hl n) fun r hr => hl r (List.mem_filter.1 hr).1
/-- All atoms that are there. -/
def allA (l : List Ru) (fs : List Fa) : List Fa := fs ++ l.flatMap Ru.atoms
theorem ValidP.ty {l : List Ru} {fs : List Fa} (h : ValidP l fs) : (∀ k, giv fs k → TyK (allA l fs) k) ∧ ∀ r ∈ l, RuleP r ∧ ∀ a ∈ r.atoms, a ∈ allA l fs := by
  refine ⟨?_, fun r hr => ⟨h.ru r hr, fun a ha => List.mem_append_right _ (List.mem_flatMap.2 ⟨r, hr, ha⟩)⟩⟩
  rintro k ⟨f, hf, rfl⟩
  exact ty_of (h.gr f hf) fun g hg e => h.co g hg f (List.mem_append_left _ hf) e
/-! ### rules without Not -/
def PlainP (l : List Ru) : Prop := ∀ r ∈ l, ∀ b ∈ r.body, b.neg = false
theorem plain_str {l : List Ru} (h : PlainP l) : IsStr l zero6 := by
  have hz : ∀ r, lv zero6 r = 0 := fun r => by
    unfold lv zero6
    rcases hn : r.toNat with _ | _ | _ | _ | _ | _ | n <;> simp
  refine ⟨rfl, by simp [zero6], fun r hr b hb => ?_, fun f hf x _ _ => by rw [hz]; exact hf.1 x⟩
  rw [hz, hz]
  simp [nI, h r hr b hb]
theorem lv_zero6 (r : Int) : lv zero6 r = 0 := by
  unfold lv zero6
  rcases hn : r.toNat with _ | _ | _ | _ | _ | _ | n <;> simp
theorem plain_neg {l : List Ru} (h : PlainP l) {r : Ru} (hr : r ∈ l) (N : Ky → Prop) (u : List Int) : NegOk N r.body u := fun b hb hn => by rw [h r hr b hb] at hn; cases hn
theorem Closed.plain {l : List Ru} (h : PlainP l) {N N' S : Ky → Prop} (hc : Closed l N S) : Closed l N' S := fun r hr u h1 _ => hc r hr u h1 (plain_neg h hr N u)
theorem Cl.plain {l : List Ru} (h : PlainP l) {G N N' : Ky → Prop} {k : Ky} : Cl l G N k → Cl l G N' k := fun hk S h1 h2 => hk S h1 (h2.plain h)
/-- The model of rules without Not: the closure. -/
theorem Mdl_plain {l : List Ru} (h : PlainP l) (N G : Ky → Prop) (k : Ky) : Mdl l zero6 G k ↔ Cl l G N k := by
  have h1 := Lay_top (l := l) (s := zero6) (G := G) (m := 1) (fun r _ => by rw [lv_zero6]; omega) 5 k
  have h2 : Lay l zero6 G 1 k ↔ Cl l G G k := by
    show Cl (l.filter fun r => decide (lv zero6 r.head.rel = ((0 : Nat) : Int))) G G k ↔ _
    have : (l.filter fun r => decide (lv zero6 r.head.rel = ((0 : Nat) : Int))) = l := List.filter_eq_self.2 fun r _ => by simp [lv_zero6]
    rw [this]
  exact h1.trans (h2.trans ⟨Cl.plain h, Cl.plain h⟩)
end Go.Proofs.Ytoljknamnkkgcaa
/-
  Contracts: rules without Not; the program is awake.
-/
namespace Go.Proofs.Ytoljknamnkkgcaa
open Go Go.VC
set_option maxHeartbeats 1000000
set_option maxRecDepth 100000

theorem c19 {w : World} {s : Sl} {l : List DR} (hs : NR w s l) (hl : l.length ≤ big) (hb : ∀ r ∈ l, r.body.length ≤ big) :
    Calls Try.prog 19 [.slice s.a s.n s.c].toArray w fun e w' => ∃ b : Bool, e = .returned (.bool b) ∧ (b = true ↔ PlainP (l.map DR.p)) ∧ Ext w w' := by
  refine (call19 s (R := fun v w' => ∃ b : Bool, v = .bool b ∧ (b = true ↔ PlainP (l.map DR.p)) ∧ Ext w w') ?_).mono fun e w' ⟨v, he, b, hv, hx⟩ => ⟨b, by rw [he, hv], hx⟩
  have hn := hs.len
  refine Join.dir (rangeI (fun i w2 => (∀ r ∈ l.take i, ∀ b ∈ r.body, b.neg = false) ∧ Ext w w2) (by rw [hn]; exact hl) ⟨by simp, Fr.refl _ _⟩ ?_ ?_)
  · rintro i hi w2 ⟨hok, x2⟩ K hK
    have hi : i < l.length := by omega
    refine loadRT (hs.ext x2) hi zc94 fun w5 b5 x5 => ?_
    have hro := hs.ok _ (List.getElem_mem hi)
    have hbb := hb _ (List.getElem_mem hi)
    have hm := List.getElem_mem hi
    generalize hri : l[i] = r at b5 hro hbb hm
    have hbn := hro.bd.len
    have x25 := x2.trans x5
    refine ⟨_, b5.cell 2, Join.dir (rangeI (fun j w7 => (∀ b ∈ r.body.take j, b.neg = false) ∧ Ext w5 w7) (by rw [hbn]; exact hbb) ⟨by simp, Fr.refl _ _⟩ ?_ ?_)⟩
    · rintro j hj w7 ⟨hok2, x7⟩ K2 hK2
      have hj : j < r.body.length := by omega
      refine loadLT ((hro.ext x25).ext x7).bd hj zc96 fun w10 b10 x10 => ⟨_, b10.cell 0, cond_intro (fun g => ?_) (fun g => ?_)⟩
      · refine ⟨false, rfl, ?_, (x25.trans x7).trans x10⟩
        simp only [Bool.false_eq_true, false_iff]
        intro hp
        have := hp r.p (List.mem_map.2 ⟨r, hm, rfl⟩) (r.body[j]).p (List.mem_map.2 ⟨_, List.getElem_mem hj, rfl⟩)
        have g' : (r.body[j]).p.neg = true := g
        rw [this] at g'; cases g'
      · refine hK2 _ ⟨fun b hb => ?_, x7.trans x10⟩
        rw [List.take_succ_eq_append_getElem hj, List.mem_append, List.mem_singleton] at hb
        rcases hb with hb | rfl
        · exact hok2 b hb
        · exact g
    · rintro w6 ⟨hok2, x6⟩
      rw [hbn, List.take_length] at hok2
      refine hK _ ⟨fun r' hr' => ?_, x25.trans x6⟩
      rw [List.take_succ_eq_append_getElem hi, List.mem_append, List.mem_singleton, hri] at hr'
      rcases hr' with hr' | rfl
      · exact hok r' hr'
      · exact hok2
  · rintro w2 ⟨hok, x2⟩
    rw [hn, List.take_length] at hok
    refine ⟨true, rfl, ?_, x2⟩
    simp only [true_iff]
    intro r hr b hb
    obtain ⟨r', hr', rfl⟩ := List.mem_map.1 hr
    obtain ⟨b', hb', rfl⟩ := List.mem_map.1 hb
    exact hok r' hr' b' hb'
/-! ### awake -/
def awR : List Ru := [⟨⟨1, [0]⟩, [⟨false, ⟨0, [0]⟩⟩]⟩]
def awF : List Fa := [⟨0, [3]⟩]
theorem aw_valid : ValidP awR awF := by
  refine ⟨by decide, by decide, by decide, ?_, by unfold Consist; decide⟩
  intro r hr
  simp only [awR, List.mem_singleton] at hr
  subst hr
  refine ⟨by decide, ?_, by decide⟩
  intro a ha x hx h0
  refine ⟨⟨false, ⟨0, [0]⟩⟩, by simp, rfl, ?_⟩
  simp [Ru.atoms] at ha
  rcases ha with rfl | rfl <;> simpa using hx
theorem aw_plain : PlainP awR := by
  intro r hr b hb
  simp only [awR, List.mem_singleton] at hr
  subst hr
  simp only [List.mem_singleton] at hb
  subst hb; rfl
theorem aw_mdl (k : Ky) : Mdl awR zero6 (giv awF) k ↔ k = ⟨0, 3, 0⟩ ∨ k = ⟨1, 3, 0⟩ := by
  rw [Mdl_plain aw_plain (fun _ => False)]
  refine Cl.eq (S := fun k => k = ⟨0, 3, 0⟩ ∨ k = ⟨1, 3, 0⟩) ?_ ?_ ?_ k
  · rintro k ⟨f, hf, rfl⟩
    simp only [awF, List.mem_singleton] at hf
    subst hf; exact .inl rfl
  · intro r hr u h1 _
    simp only [awR, List.mem_singleton] at hr
    subst hr
    simp only [En, if_neg (show ¬ (false = true) by simp)] at h1
    obtain ⟨g, v', hg, ⟨h2, h3⟩, rfl⟩ := h1
    rcases hg with rfl | rfl
    · right
      have : fitA z8 [0] [3, 0] = some [3, 0, 0, 0, 0, 0, 0, 0] := by decide
      simp only at h3
      rw [this] at h3
      injection h3 with h3
      subst h3; decide
    · simp at h2
  · rintro k (rfl | rfl)
    · exact Cl.base ⟨⟨0, [3]⟩, by simp [awF], rfl⟩
    · have h := Cl.closed awR (giv awF) (fun _ => False) ⟨⟨1, [0]⟩, [⟨false, ⟨0, [0]⟩⟩]⟩ (by simp [awR]) [3, 0, 0, 0, 0, 0, 0, 0] ?_ ?_
      · exact h
      · simp only [En, if_neg (show ¬ (false = true) by simp)]
        exact ⟨⟨0, 3, 0⟩, _, Cl.base ⟨⟨0, [3]⟩, by simp [awF], rfl⟩, ⟨rfl, by decide⟩, rfl⟩
      · intro b hb hn
        simp only [List.mem_singleton] at hb
        subst hb; cases hn
theorem aw_list : IsL (Mdl awR zero6 (giv awF)) [⟨0, [3]⟩, ⟨1, [3]⟩] where
  ord := by decide
  nd := by decide
  mem := fun f => by
    simp only [List.mem_cons, List.not_mem_nil, or_false]
    constructor
    · rintro (rfl | rfl)
      · exact ⟨⟨0, 3, 0⟩, (aw_mdl _).2 (.inl rfl), rfl⟩
      · exact ⟨⟨1, 3, 0⟩, (aw_mdl _).2 (.inr rfl), rfl⟩
    · rintro ⟨k, hk, rfl⟩
      rcases (aw_mdl _).1 hk with rfl | rfl
      · exact .inl rfl
      · exact .inr rfl
theorem new1 (w : World) (x : Int) : (Instr.buildSlice 34 1 [(0, .int .i64 x)].toArray).run Try.prog w = .ok (.slice (some ⟨w.heap.size, 0, none⟩) 1 1) (w.alloc (.cells (eI x).toArray 3)) ∧ Ints (w.alloc (.cells (eI x).toArray 3)) ⟨some ⟨w.heap.size, 0, none⟩, 1, 1⟩ [x] ∧ Ext w (w.alloc (.cells (eI x).toArray 3)) :=
  ⟨buildOne_run E34 (v := .int .i64 x) (vs := eI x) rfl rfl (by omega) w, ⟨rfl, Nat.le_refl _, fun _ => ⟨⟨w.heap.size, 0⟩, rfl, by simpa using (Blk.alloc w (eI x) 3).rd⟩⟩, Ext.alloc ..⟩
theorem newOne {α : Type} {t e size bytes : Nat} (E : Elem Try.prog t e size bytes) {enc : α → List Value} (w : World) (x : α) {v : Value} (hv : cellsV v = enc x) (hs : (enc x).length = size) (hb : size ≤ 16777216) :
    (Instr.buildSlice t 1 [(0, v)].toArray).run Try.prog w = .ok (.slice (some ⟨w.heap.size, 0, none⟩) 1 1) (w.alloc (.cells (enc x).toArray e)) ∧ Sli size enc (w.alloc (.cells (enc x).toArray e)) ⟨some ⟨w.heap.size, 0, none⟩, 1, 1⟩ [x] ∧ Ext w (w.alloc (.cells (enc x).toArray e)) :=
  ⟨buildOne_run E hv hs hb w, ⟨rfl, Nat.le_refl _, fun _ => ⟨⟨w.heap.size, 0⟩, rfl, by simpa using (Blk.alloc w (enc x) e).rd⟩⟩, Ext.alloc ..⟩
theorem c20 (w : World) : Calls Try.prog 20 ([] : List Value).toArray w fun e w' => e = .returned (.bool true) ∧ Ext w w' := by
  refine (call20 (R := fun v w' => v = .bool true ∧ Ext w w') ?_).mono fun e w' ⟨v, he, hv, hx⟩ => ⟨by rw [he, hv], hx⟩
  obtain ⟨r1, i1, x1⟩ := new1 w 0
  refine ⟨⟨some ⟨w.heap.size, 0, none⟩, 1, 1⟩, _, r1, ?_⟩
  generalize w.alloc (.cells (eI 0).toArray 3) = w1 at i1 x1
  generalize (⟨some ⟨w.heap.size, 0, none⟩, 1, 1⟩ : Sl) = sA at i1
  obtain ⟨r2, i2, x2⟩ := new1 w1 0
  refine ⟨⟨some ⟨w1.heap.size, 0, none⟩, 1, 1⟩, _, r2, rfl, by decide, ?_⟩
  generalize w1.alloc (.cells (eI 0).toArray 3) = w2 at i2 x2
  generalize (⟨some ⟨w1.heap.size, 0, none⟩, 1, 1⟩ : Sl) = sB at i2
  obtain ⟨r3, i3, x3⟩ := newOne E50 (enc := eL) w2 ⟨false, ⟨0, sB, [0]⟩⟩ (v := .agg [.bool false, .int .i64 0, .slice sB.a sB.n sB.c].toArray) rfl rfl (by omega)
  refine ⟨⟨some ⟨w2.heap.size, 0, none⟩, 1, 1⟩, _, r3, rfl, by decide, ?_⟩
  generalize w2.alloc (.cells (eL ⟨false, ⟨0, sB, [0]⟩⟩).toArray 54) = w3 at i3 x3
  generalize (⟨some ⟨w2.heap.size, 0, none⟩, 1, 1⟩ : Sl) = sC at i3
  let R : DR := ⟨⟨1, sA, [0]⟩, sC, [⟨false, ⟨0, sB, [0]⟩⟩]⟩
  obtain ⟨r4, i4, x4⟩ := newOne E27 (enc := eR) w3 R (v := .agg [.int .i64 1, .slice sA.a sA.n sA.c, .slice sC.a sC.n sC.c].toArray) rfl rfl (by omega)
  refine ⟨⟨some ⟨w3.heap.size, 0, none⟩, 1, 1⟩, _, r4, ?_⟩
  generalize w3.alloc (.cells (eR R).toArray 52) = w4 at i4 x4
  generalize (⟨some ⟨w3.heap.size, 0, none⟩, 1, 1⟩ : Sl) = sD at i4
  obtain ⟨r5, i5, x5⟩ := new1 w4 3
  refine ⟨⟨some ⟨w4.heap.size, 0, none⟩, 1, 1⟩, _, r5, ?_⟩
  generalize w4.alloc (.cells (eI 3).toArray 3) = w5 at i5 x5
  generalize (⟨some ⟨w4.heap.size, 0, none⟩, 1, 1⟩ : Sl) = sE at i5
  obtain ⟨r6, i6, x6⟩ := newOne E23 (enc := eF) w5 ⟨0, sE, [3]⟩ (v := .agg [.int .i64 0, .slice sE.a sE.n sE.c].toArray) rfl rfl (by omega)
  refine ⟨⟨some ⟨w5.heap.size, 0, none⟩, 1, 1⟩, _, r6, ?_⟩
  generalize w5.alloc (.cells (eF ⟨0, sE, [3]⟩).toArray 36) = w6 at i6 x6
  generalize (⟨some ⟨w5.heap.size, 0, none⟩, 1, 1⟩ : Sl) = sF at i6
  have x26 := ((x3.trans x4).trans x5).trans x6
  have x16 := x2.trans x26
  have hNR : NR w6 sD [R] := ⟨(i4.ext x5).ext x6, fun r hr => by
    simp only [List.mem_singleton] at hr
    subst hr
    exact ⟨i1.ext x16, i3.ext ((x4.trans x5).trans x6), fun b hb => by
      have hb : b = ⟨false, ⟨0, sB, [0]⟩⟩ := by simpa [R] using hb
      subst hb; exact i2.ext x26⟩⟩
  have hNF : NF w6 sF [⟨0, sE, [3]⟩] := ⟨i6, fun x hx => by
    simp only [List.mem_singleton] at hx
    subst hx; exact i5.ext x6⟩
  refine (c16 hNR hNF (by simp) (by simp) (fun r hr => by
    simp only [List.mem_singleton] at hr
    subst hr
    exact ⟨by simp [R], fun x hx => by simp [R, DR.atoms] at hx; rcases hx with rfl | rfl <;> simp⟩) (fun f hf => by simp only [List.mem_singleton] at hf; subst hf; simp)).mono fun e w7 ⟨s2, x, L, he, hL, hLl, hcase, x7⟩ => ⟨s2, x, he, ?_⟩
  have hx06 := ((x1.trans x16).trans x7)
  have e1 : [R].map DR.p = awR := rfl
  have e2 : ([⟨0, sE, [3]⟩] : List DF).map DF.p = awF := rfl
  rw [e1, e2] at hcase
  rcases hcase with ⟨h, _⟩ | ⟨_, h, _⟩ | ⟨_, t, ht, rfl, hIs⟩
  · exact absurd aw_valid h
  · exact absurd ⟨_, plain_str aw_plain⟩ h
  have := ht.uniq (plain_str aw_plain)
  subst this
  have hLe := hIs.uniq aw_list
  refine Join.dir (cond_intro (fun _ => ?_) (fun h => by simp at h))
  obtain ⟨r8, i8, x8⟩ := new1 w7 3
  refine ⟨⟨some ⟨w7.heap.size, 0, none⟩, 1, 1⟩, _, r8, ?_⟩
  generalize w7.alloc (.cells (eI 3).toArray 3) = w8 at i8 x8
  generalize (⟨some ⟨w7.heap.size, 0, none⟩, 1, 1⟩ : Sl) = sG at i8
  obtain ⟨r9, i9, x9⟩ := new1 w8 3
  refine ⟨⟨some ⟨w8.heap.size, 0, none⟩, 1, 1⟩, _, r9, ?_⟩
  generalize w8.alloc (.cells (eI 3).toArray 3) = w9 at i9 x9
  generalize (⟨some ⟨w8.heap.size, 0, none⟩, 1, 1⟩ : Sl) = sH at i9
  have hb := buildList_run E23 (enc := eF) (val := fun x : DF => Value.agg [.int .i64 x.rel, .slice x.sl.a x.sl.n x.sl.c].toArray) eF_len (fun _ => rfl) [⟨0, sG, [3]⟩, ⟨1, sH, [3]⟩] (by simp) (by simp) w9
  have hs := sli_new (size := 2) (enc := eF) w9 [⟨0, sG, [3]⟩, ⟨1, sH, [3]⟩] 36
  have x10 := Ext.alloc w9 (.cells (([⟨0, sG, [3]⟩, ⟨1, sH, [3]⟩] : List DF).flatMap eF).toArray 36)
  refine ⟨⟨some ⟨w9.heap.size, 0, none⟩, 2, 2⟩, _, hb, ?_⟩
  have x89 := x8.trans (x9.trans x10)
  refine (c21 (hL.ext x89) (l' := [⟨0, sG, [3]⟩, ⟨1, sH, [3]⟩]) ⟨hs, fun y hy => ?_⟩ (by show L.length ≤ 9223372036854775807; omega) (fun y hy => ?_)).mono fun e w12 ⟨he, x12⟩ => ⟨_, he, ?_, (hx06.trans x89).trans x12⟩
  · simp only [List.mem_cons, List.not_mem_nil, or_false] at hy
    rcases hy with rfl | rfl
    · exact (i8.ext x9).ext x10
    · exact i9.ext x10
  · have : y.p ∈ L.map DF.p := List.mem_map.2 ⟨y, hy, rfl⟩
    rw [hLe] at this
    simp only [List.mem_cons, List.not_mem_nil, or_false] at this
    have h1 : y.args = [3] := by rcases this with h | h <;> exact congrArg Fa.args h
    rw [h1]; decide
  · rw [hLe]; rfl
end Go.Proofs.Ytoljknamnkkgcaa
/-
  Contract: validity as the reference has it.
-/
namespace Go.Proofs.Ytoljknamnkkgcaa
open Go Go.VC
set_option maxHeartbeats 1000000
set_option maxRecDepth 100000

/-- All Args are in a range, there are one or two, and the Rel is in range. -/
def RangeF (lo hi : Int) (f : Fa) : Prop := 0 ≤ f.rel ∧ f.rel ≤ 5 ∧ 1 ≤ f.args.length ∧ f.args.length ≤ 2 ∧ ∀ x ∈ f.args, lo ≤ x ∧ x ≤ hi
instance (lo hi : Int) (f : Fa) : Decidable (RangeF lo hi f) := by unfold RangeF; infer_instance
theorem rangeW {w : World} {x : DF} {T : TypeId} {lo up : Int} (hx : Ints w x.sl x.args) (hl : x.args.length ≤ big) {R : Value → World → Prop} (hR : ∀ b w', (b = true ↔ RangeF lo up x.p) → Ext w w' → R (.bool b) w') :
    Let (w.alloc (.cells [(.int .i64 x.rel), (.slice x.sl.a x.sl.n x.sl.c)].toArray T)) fun w1 =>
    ∃ s6 : Sl, World.cell? w1 ⟨w.heap.size, (0 + 1), none⟩ = some (.slice s6.a s6.n s6.c) ∧ Join [] (fun (w2 : World) => Join [(2, .bool)] (fun (b2 : Bool) (w3 : World) => R (.bool b2) w3) (fun J =>
    ∃ x20 : Int, World.cell? w2 ⟨w.heap.size, (0 + 0), none⟩ = some (.int .i64 x20) ∧ cond (decide (x20 ≥ (0 : Int))) (∃ x24 : Int, World.cell? w2 ⟨w.heap.size, (0 + 0), none⟩ = some (.int .i64 x24) ∧ cond (decide (x24 ≤ (5 : Int))) (∃ s29 : Sl, World.cell? w2 ⟨w.heap.size, (0 + 1), none⟩ = some (.slice s29.a s29.n s29.c) ∧ cond (decide (((s29.n : Nat) : Int) ≥ (1 : Int))) (∃ s35 : Sl, World.cell? w2 ⟨w.heap.size, (0 + 1), none⟩ = some (.slice s35.a s35.n s35.c) ∧ J (decide (((s35.n : Nat) : Int) ≤ (2 : Int))) w2) (J false w2)) (J false w2)) (J false w2))) (fun J_2 =>
    LoopV [(8, .int .i64)] (fun K => K (0 : Int) w1) (fun N => fun (x8 : Int) (w4 : World) =>
    cond (decide (x8 < ((s6.n : Nat) : Int))) (
    Join [] (fun (w5 : World) => N (IntKind.wrap .i64 (x8 + (1 : Int))) w5) (fun J_3 =>
    ∃ p10 : Pt, s6.a = some ⟨p10.b, p10.o, none⟩ ∧ 0 ≤ x8 ∧ x8 < ((s6.n : Nat) : Int) ∧ ∃ x11 : Int, World.cell? w4 ⟨p10.b, (p10.o + Int.toNat x8 * 1), none⟩ = some (.int .i64 x11) ∧ Join [(17, .bool)] (fun (b17 : Bool) (w6 : World) => cond b17 (
    R (.bool false) w6) (
    J_3 w6)) (fun J_4 =>
    cond (decide (x11 < lo)) (J_4 true w4) (J_4 (decide (x11 > up)) w4)))) (
    J_2 w4))) := by
  have hn := hx.len
  obtain ⟨b1, x1⟩ := eF_cells w x T
  refine Let.intro fun w1 e1 => ?_
  have e1 : w1 = w.alloc (.cells (eF x).toArray T) := e1
  rw [← e1] at b1 x1
  refine ⟨x.sl, b1.cell 1, ?_⟩
  refine ⟨fun w2 => Ext w1 w2 ∧ ∀ y ∈ x.args, lo ≤ y ∧ y ≤ up, ?_, ?_⟩
  · rintro w2 ⟨x2, hall⟩
    have b2 := b1.ext x2
    have x02 := x1.trans x2
    refine Join.dir ⟨x.rel, b2.cell 0, cond_intro (fun g1 => ⟨x.rel, b2.cell 0, cond_intro (fun g2 => ⟨x.sl, b2.cell 1, cond_intro (fun g3 => ⟨x.sl, b2.cell 1, hR _ _ ?_ x02⟩) (fun g3 => hR _ _ ?_ x02)⟩) (fun g2 => hR _ _ ?_ x02)⟩) (fun g1 => hR _ _ ?_ x02)⟩
    · have g1 : 0 ≤ x.rel := by simpa using g1
      have g2 : x.rel ≤ 5 := by simpa using g2
      have g3 : 1 ≤ x.args.length := by simp [hn] at g3; omega
      simp only [decide_eq_true_eq]
      constructor
      · intro h; exact ⟨g1, g2, g3, by show x.args.length ≤ 2; omega, hall⟩
      · intro h; have : x.args.length ≤ 2 := h.2.2.2.1; omega
    · have g3 : ¬ 1 ≤ x.args.length := by simp [hn] at g3; omega
      simp only [Bool.false_eq_true, false_iff]; exact fun h => g3 h.2.2.1
    · have g2 : ¬ x.rel ≤ 5 := by simpa using g2
      simp only [Bool.false_eq_true, false_iff]; exact fun h => g2 h.2.1
    · have g1 : ¬ 0 ≤ x.rel := by simpa using g1
      simp only [Bool.false_eq_true, false_iff]; exact fun h => g1 h.1
  · refine rangeI (fun i w4 => Ext w1 w4 ∧ ∀ y ∈ x.args.take i, lo ≤ y ∧ y ≤ up) (by rw [hn]; exact hl) ⟨Fr.refl _ _, by simp⟩ ?_ ?_
    · rintro i hi w4 ⟨x4, hok⟩ K hK
      have hi : i < x.args.length := by omega
      obtain ⟨p, hp, a1, a2, hr⟩ := Ints.at ((hx.ext x1).ext x4) hi
      refine ⟨p, hp, a1, a2, _, hr, ?_⟩
      refine ⟨fun (b17 : Bool) w6 => (b17 = true ↔ ¬ (lo ≤ x.args[i] ∧ x.args[i] ≤ up)) ∧ w6 = w4, ?_, ?_⟩
      · rintro b17 w6 ⟨hb, rfl⟩
        refine cond_intro (fun g => hR _ _ ?_ (x1.trans x4)) (fun g => hK _ ⟨x4, fun y hy => ?_⟩)
        · simp only [Bool.false_eq_true, false_iff]
          exact fun h => hb.1 g (h.2.2.2.2 _ (List.getElem_mem hi))
        · rw [List.take_succ_eq_append_getElem hi, List.mem_append, List.mem_singleton] at hy
          rcases hy with hy | rfl
          · exact hok y hy
          · exact Classical.byContradiction fun h => by rw [hb.2 h] at g; cases g
      · refine cond_intro (fun g => ⟨?_, rfl⟩) (fun g => ⟨?_, rfl⟩)
        · have g : x.args[i] < lo := by simpa using g
          simp only [true_iff]; omega
        · have g : ¬ x.args[i] < lo := by simpa using g
          simp only [decide_eq_true_eq]; omega
    · rintro w2 ⟨x2, hok⟩
      rw [hn, List.take_length] at hok
      exact ⟨x2, hok⟩
theorem c31 {w : World} {x : DF} (hx : Ints w x.sl x.args) (hl : x.args.length ≤ big) :
    Calls Try.prog 31 [.agg [.int .i64 x.rel, .slice x.sl.a x.sl.n x.sl.c].toArray].toArray w fun e w' => ∃ b : Bool, e = .returned (.bool b) ∧ (b = true ↔ GroundF x.p) ∧ Ext w w' := by
  refine (call31 x.rel x.sl (R := fun v w' => ∃ b : Bool, v = .bool b ∧ (b = true ↔ GroundF x.p) ∧ Ext w w') ?_).mono fun e w' ⟨v, he, b, hv, hx⟩ => ⟨b, by rw [he, hv], hx⟩
  exact rangeW (T := 36) hx hl (R := fun v w' => ∃ b : Bool, v = .bool b ∧ (b = true ↔ GroundF x.p) ∧ Ext w w') fun b w' h1 h2 => ⟨b, rfl, h1, h2⟩
theorem c62 {w : World} {x : DF} (hx : Ints w x.sl x.args) (hl : x.args.length ≤ big) :
    Calls Try.prog 62 [.agg [.int .i64 x.rel, .slice x.sl.a x.sl.n x.sl.c].toArray].toArray w fun e w' => ∃ b : Bool, e = .returned (.bool b) ∧ (b = true ↔ FitsF x.p) ∧ Ext w w' := by
  refine (call62 x.rel x.sl (R := fun v w' => ∃ b : Bool, v = .bool b ∧ (b = true ↔ FitsF x.p) ∧ Ext w w') ?_).mono fun e w' ⟨v, he, b, hv, hx⟩ => ⟨b, by rw [he, hv], hx⟩
  exact rangeW (T := 91) hx hl (R := fun v w' => ∃ b : Bool, v = .bool b ∧ (b = true ↔ FitsF x.p) ∧ Ext w w') fun b w' h1 h2 => ⟨b, rfl, h1, h2⟩
/-! ### sets of variables as bits -/
structure Bs (m : Int) (Q : Nat → Prop) : Prop where
  ex : ∃ n : Nat, m = n ∧ n < 256 ∧ ∀ i, n.testBit i = true ↔ Q i
theorem Bs.congr {m : Int} {Q Q' : Nat → Prop} (h : Bs m Q) (e : ∀ i, Q i ↔ Q' i) : Bs m Q' := by
  obtain ⟨n, h1, h2, h3⟩ := h.ex; exact ⟨n, h1, h2, fun i => (h3 i).trans (e i)⟩
theorem Bs.zero : Bs 0 fun _ => False := ⟨0, rfl, by omega, fun i => by simp⟩
theorem or_nat {a b : Nat} (ha : a < 256) (hb : b < 256) : bitsI .or .i64 (a : Int) (b : Int) = ((a ||| b : Nat) : Int) := by
  have h := Nat.or_lt_two_pow (x := a) (y := b) (n := 8) ha hb
  show IntKind.wrap .i64 ((BitVec.ofInt 64 (a : Int) ||| BitVec.ofInt 64 (b : Int)).toNat : Int) = _
  have e1 : (BitVec.ofInt 64 (a : Int)).toNat = a := by rw [BitVec.toNat_ofInt]; omega
  have e2 : (BitVec.ofInt 64 (b : Int)).toNat = b := by rw [BitVec.toNat_ofInt]; omega
  rw [BitVec.toNat_or, e1, e2, wrap64 (by omega) (by omega)]
theorem Bs.or {m m' : Int} {Q Q' : Nat → Prop} (h : Bs m Q) (h' : Bs m' Q') : Bs (bitsI .or .i64 m m') fun i => Q i ∨ Q' i := by
  obtain ⟨n, rfl, h2, h3⟩ := h.ex
  obtain ⟨n', rfl, h2', h3'⟩ := h'.ex
  refine ⟨n ||| n', or_nat h2 h2', Nat.or_lt_two_pow (n := 8) h2 h2', fun i => ?_⟩
  rw [Nat.testBit_or, Bool.or_eq_true, h3, h3']
theorem Bs.bit {x : Int} (h0 : 0 ≤ x) (h7 : x ≤ 7) : Bs (IntKind.wrap .i64 ((1 : Int) * 2 ^ (min (Int.toNat x) (IntKind.bits .i64)))) fun i => (i : Int) = x := by
  obtain ⟨k, rfl⟩ : ∃ k : Nat, x = k := ⟨x.toNat, by omega⟩
  have hk : k ≤ 7 := by omega
  refine ⟨2 ^ k, ?_, ?_, fun i => ?_⟩
  · have e : min (Int.toNat (k : Int)) (IntKind.bits .i64) = k := by
      have : Int.toNat (k : Int) = k := by omega
      rw [this]; exact Nat.min_eq_left (by show k ≤ 64; omega)
    rw [e]
    have e2 : (1 : Int) * 2 ^ k = ((2 ^ k : Nat) : Int) := by rw [Int.one_mul, Int.natCast_pow]; rfl
    rw [e2]
    have := Nat.pow_le_pow_right (n := 2) (by omega) hk
    generalize 2 ^ k = M at this
    exact wrap64 (by omega) (by omega)
  · exact Nat.lt_of_le_of_lt (Nat.pow_le_pow_right (n := 2) (by omega) hk) (by decide)
  · rw [Nat.testBit_two_pow]
    simp only [decide_eq_true_eq]
    omega
theorem Bs.eq {m m' : Int} {Q Q' : Nat → Prop} (h : Bs m Q) (h' : Bs m' Q') : m = m' ↔ ∀ i, Q i ↔ Q' i := by
  obtain ⟨n, rfl, h2, h3⟩ := h.ex
  obtain ⟨n', rfl, h2', h3'⟩ := h'.ex
  constructor
  · intro e i
    have : n = n' := by omega
    subst this
    rw [← h3, ← h3']
  · intro e
    have : n = n' := Nat.eq_of_testBit_eq fun i => by
      have := (h3 i).trans ((e i).trans (h3' i).symm)
      cases h1 : n.testBit i <;> cases h2 : n'.testBit i <;> simp_all
    rw [this]
/-- Is a number a variable of an atom? -/
def IsV (f : Fa) (i : Nat) : Prop := (i : Int) ∈ f.args
theorem c63 {w : World} {x : DF} (hx : Ints w x.sl x.args) (hf : FitsF x.p) :
    Calls Try.prog 63 [.agg [.int .i64 x.rel, .slice x.sl.a x.sl.n x.sl.c].toArray].toArray w fun e w' => ∃ m : Int, e = .returned (.int .i64 m) ∧ Bs m (IsV x.p) ∧ Ext w w' := by
  refine (call63 x.rel x.sl (R := fun v w' => ∃ m : Int, v = .int .i64 m ∧ Bs m (IsV x.p) ∧ Ext w w') ?_).mono fun e w' ⟨v, he, b, hv, hx⟩ => ⟨b, by rw [he, hv], hx⟩
  have hn := hx.len
  have hl2 : x.args.length ≤ 2 := hf.2.2.2.1
  obtain ⟨b1, x1⟩ := eF_cells w x 91
  refine Let.intro fun w1 e1 => ?_
  have e1 : w1 = w.alloc (.cells (eF x).toArray 91) := e1
  rw [← e1] at b1 x1
  refine ⟨x.sl, b1.cell 1, Join.dir (rangeKI (k := .int .i64) (fun i (m : Int) w3 => Bs m (fun j => (j : Int) ∈ x.args.take i) ∧ Ext w w3) (by rw [hn]; show x.args.length ≤ 9223372036854775807; omega) ⟨Bs.zero.congr fun i => by simp, x1⟩ ?_ ?_)⟩
  · rintro i hi m w3 ⟨hm, x3⟩ K hK
    have hi : i < x.args.length := by omega
    obtain ⟨p, hp, a1, a2, hr⟩ := Ints.at (hx.ext x3) hi
    have hb : -6 ≤ x.args[i] ∧ x.args[i] ≤ 7 := hf.2.2.2.2 _ (List.getElem_mem hi)
    refine ⟨p, hp, a1, a2, _, hr, Join.dir (cond_intro (fun g => ?_) (fun g => ?_))⟩
    · have g : 0 ≤ x.args[i] := by simpa using g
      refine ⟨g, hK _ _ ⟨(hm.or (Bs.bit g hb.2)).congr fun j => ?_, x3⟩⟩
      rw [List.take_succ_eq_append_getElem hi, List.mem_append, List.mem_singleton]
    · have g : ¬ 0 ≤ x.args[i] := by simpa using g
      refine hK _ _ ⟨hm.congr fun j => ?_, x3⟩
      rw [List.take_succ_eq_append_getElem hi, List.mem_append, List.mem_singleton]
      constructor
      · exact .inl
      · rintro (h | h)
        · exact h
        · omega
  · rintro m w3 ⟨hm, x3⟩
    rw [hn, List.take_length] at hm
    exact ⟨m, rfl, hm, x3⟩
/-! ### valid -/
abbrev eP (x : Int × Int) : List Value := [.int .i64 x.1, .int .i64 x.2]
theorem eP_len (x : Int × Int) : (eP x).length = 2 := rfl
theorem eP_one (x : Int × Int) : ∀ v ∈ eP x, v.oneCell' = true := by intro v hv; simp [eP] at hv; rcases hv with rfl | rfl <;> rfl
theorem E113 : Elem Try.prog 113 114 2 16 := Elem.of (by kernel_rfl) (by kernel_rfl) (by decide)
theorem zc114s : (zc Try.prog 114).size = 2 := by kernel_rfl
def szF (f : Fa) : Int × Int := (f.rel, (f.args.length : Int))
theorem consist_sz {l : List Fa} : Consist l ↔ ∀ x ∈ l.map szF, ∀ y ∈ l.map szF, x.1 = y.1 → x.2 = y.2 := by
  unfold Consist
  constructor
  · intro h x hx y hy e
    obtain ⟨f, hf, rfl⟩ := List.mem_map.1 hx
    obtain ⟨g, hg, rfl⟩ := List.mem_map.1 hy
    have := h f hf g hg e
    simp [szF, this]
  · intro h f hf g hg e
    have := h _ (List.mem_map.2 ⟨f, hf, rfl⟩) _ (List.mem_map.2 ⟨g, hg, rfl⟩) e
    simp only [szF] at this
    omega
/-- A pair appended. -/
theorem appP {B : Nat} {w : World} {s : Sl} {l : List (Int × Int)} (ho : Own 114 2 eP B w s l) (x : Int × Int) (hl : l.length ≤ 1000000) (hB : B ≤ w.heap.size) :
    ∃ (s1 : Sl) (w1 : World), (Instr.buildSlice 113 1 [(0, .agg [.int .i64 x.1, .int .i64 x.2].toArray)].toArray).run Try.prog w = .ok (.slice s1.a s1.n s1.c) w1 ∧
      ∃ (s' : Sl) (w' : World), (Builtin.append_ #[113, 113] 113 #[.slice s.a s.n s.c, .slice s1.a s1.n s1.c]).run Try.prog w1 = .ok (.slice s'.a s'.n s'.c) w' ∧ Own 114 2 eP B w' s' (l ++ [x]) ∧ Fr (BlS s) w w' :=
  appendOne E113 ho (x := x) rfl eP_len eP_one (by omega) (by omega) (by simp only [maxLen]; omega) hB 113
/-- All variables of a rule are in literals without Not. -/
theorem safe_bits {r : Ru} {a b : Int} (ha : Bs a fun i => ∃ f ∈ r.atoms, IsV f i) (hb : Bs b fun i => ∃ c ∈ r.body, c.neg = false ∧ IsV c.a i) : a = b ↔ SafeP r := by
  rw [ha.eq hb]
  constructor
  · intro h f hf x hx h0
    obtain ⟨k, rfl⟩ : ∃ k : Nat, x = k := ⟨x.toNat, by omega⟩
    exact (h k).1 ⟨f, hf, hx⟩
  · intro h i
    constructor
    · rintro ⟨f, hf, hx⟩
      exact h f hf _ hx (by omega)
    · rintro ⟨c, hc, _, hx⟩
      exact ⟨c.a, by simp [Ru.atoms]; exact .inr ⟨c, hc, rfl⟩, hx⟩
end Go.Proofs.Ytoljknamnkkgcaa
/-
  Contract: Valid of the reference.
-/
namespace Go.Proofs.Ytoljknamnkkgcaa
open Go Go.VC
set_option maxHeartbeats 1000000
set_option maxRecDepth 100000

theorem rdPair {w : World} {s : Sl} {l : List (Int × Int)} (hs : Sli 2 eP w s l) {i : Nat} (hi : i < l.length) {B : World → Prop}
    (hB : ∀ w5, Blk w5 w.heap.size (eP l[i]) 114 → Ext w w5 → B w5) :
    ∃ p : Pt, s.a = some ⟨p.b, p.o, none⟩ ∧ 0 ≤ (i : Int) ∧ (i : Int) < ((s.n : Nat) : Int) ∧ ∃ a : Int, ∃ b : Int, rd w p.b (p.o + Int.toNat (i : Int) * 2) [.int .i64 a, .int .i64 b] ∧
      Let (w.alloc (.cells (zc Try.prog 114) 114)) fun w4 => StoreOk w4 w.heap.size 0 [.int .i64 a, .int .i64 b] 2 ∧ Let (put w4 w.heap.size 0 [.int .i64 a, .int .i64 b]) fun w5 => B w5 := by
  obtain ⟨p, hp, h2, h3, hr⟩ := Sli.at eP_len hs hi
  obtain ⟨a, b, c⟩ := new_var w 114 (z := zc Try.prog 114) (vs := eP l[i]) (by rw [zc114s, eP_len]) (eP_one _)
  exact ⟨p, hp, h2, h3, _, _, hr, a, hB _ b c⟩
theorem flat_len {l : List Ru} (h : ∀ r ∈ l, r.body.length ≤ 3) : (l.flatMap Ru.atoms).length ≤ 4 * l.length := by
  induction l with
  | nil => simp
  | cons r q ih =>
    have h1 := h r (by simp)
    have h2 := ih fun r' hr' => h r' (by simp [hr'])
    simp only [List.flatMap_cons, List.length_append, List.length_cons, Ru.atoms, List.length_map] at h2 ⊢
    omega
theorem c22 {w : World} {s s' : Sl} {l : List DR} {fs : List DF} (hs : NR w s l) (hf : NF w s' fs) (hl : l.length ≤ big) (hfl : fs.length ≤ big) (hb : ∀ r ∈ l, r.body.length ≤ big) (ha : ∀ r ∈ l, ∀ x ∈ r.atoms, x.args.length ≤ big) (hfa : ∀ x ∈ fs, x.args.length ≤ big) :
    Calls Try.prog 22 [.slice s.a s.n s.c, .slice s'.a s'.n s'.c].toArray w fun e w' => ∃ b : Bool, e = .returned (.bool b) ∧ (b = true ↔ ValidP (l.map DR.p) (fs.map DF.p)) ∧ Ext w w' := by
  refine (call22 s s' (R := fun v w' => ∃ b : Bool, v = .bool b ∧ (b = true ↔ ValidP (l.map DR.p) (fs.map DF.p)) ∧ Ext w w') ?_).mono fun e w' ⟨v, he, b, hv, hx⟩ => ⟨b, by rw [he, hv], hx⟩
  have hn := hs.len
  have hfn := hf.len
  have no : ∀ {w' : World}, Ext w w' → ¬ ValidP (l.map DR.p) (fs.map DF.p) → ∃ b : Bool, Value.bool false = .bool b ∧ (b = true ↔ ValidP (l.map DR.p) (fs.map DF.p)) ∧ Ext w w' := fun hx hv => ⟨false, rfl, by simp [hv], hx⟩
  refine ⟨fun (b25 : Bool) w1 => (b25 = true ↔ l.length > 10 ∨ fs.length > 20) ∧ w1 = w, ?_, ?_⟩
  rotate_left
  · refine cond_intro (fun g => ⟨?_, rfl⟩) (fun g => ⟨?_, rfl⟩)
    · have g : l.length > 10 := by simp [hn] at g; omega
      simp [g]
    · have g : ¬ l.length > 10 := by simp [hn] at g; omega
      simp [g, hfn]; omega
  rintro b25 w1 ⟨hb25, rfl⟩
  refine cond_intro (fun g => ?_) (fun g => ?_)
  · refine no (Fr.refl _ _) fun hv => ?_
    have h1 := hv.nl
    have h2 := hv.nf
    simp at h1 h2
    rcases hb25.1 g with h | h <;> omega
  have hl10 : l.length ≤ 10 := Nat.le_of_not_lt fun h => by rw [hb25.2 (.inl h)] at g; cases g
  have hf20 : fs.length ≤ 20 := Nat.le_of_not_lt fun h => by rw [hb25.2 (.inr h)] at g; cases g
  refine ⟨fun s5 w2 => Own 114 2 eP w1.heap.size w2 s5 ((fs.map DF.p).map szF) ∧ (∀ f ∈ fs, GroundF f.p) ∧ Ext w1 w2, ?_, ?_⟩
  rotate_left
  · -- the facts
    refine rangeSI (fun i (s5 : Sl) w2 => Own 114 2 eP w1.heap.size w2 s5 (((fs.take i).map DF.p).map szF) ∧ (∀ f ∈ fs.take i, GroundF f.p) ∧ Ext w1 w2) (by rw [hfn]; exact hfl) ⟨Own.nil .., by simp, Fr.refl _ _⟩ ?_ ?_
    · rintro i hi s5 w35 ⟨ho, hgr, x35⟩ K hK
      have hi : i < fs.length := by omega
      have hm := List.getElem_mem hi
      refine loadF (hf.ext x35) hi zc36 fun w38 b38 x38 => ⟨_, _, b38.rd, ?_⟩
      have x038 := x35.trans x38
      refine (c31 ((hf.ok _ hm).ext x038) (hfa _ hm)).mono fun e w39 ⟨c, he, hc, x39⟩ => ⟨c, he, cond_intro (fun g => ?_) (fun g => ?_)⟩
      · have g : c = false := by simpa using g
        refine no (x038.trans x39) fun hv => ?_
        rw [hc.2 (hv.gr _ (List.mem_map.2 ⟨_, hm, rfl⟩))] at g; cases g
      have g : c = true := by simpa using g
      have b39 := b38.ext x39
      have hsl := (hf.ok _ hm).len
      refine ⟨_, b39.cell 0, _, b39.cell 1, ?_⟩
      obtain ⟨q1, w40, hb40, q2, w41, hr41, ho41, hf41⟩ := appP (ho.ext (x38.trans x39)) ((fs[i]).rel, (((fs[i]).sl.n : Nat) : Int)) (by simp; omega) (by have := (x038.trans x39).size; exact this)
      refine ⟨q1, w40, hb40, q2, w41, hr41, hK _ _ ⟨?_, fun f hf' => ?_, (x038.trans x39).newer hf41 fun y ⟨a, ha', e⟩ => by have := ((ho.ext (x38.trans x39)).base ha').1; omega⟩⟩
      · rw [List.take_succ_eq_append_getElem hi, List.map_append, List.map_append]
        rw [hsl] at ho41; exact ho41
      · rw [List.take_succ_eq_append_getElem hi, List.mem_append, List.mem_singleton] at hf'
        rcases hf' with hf' | rfl
        · exact hgr f hf'
        · exact hc.1 g
    · rintro s5 w2 ⟨ho, hgr, x2⟩
      rw [hfn, List.take_length] at ho hgr
      exact ⟨ho, hgr, x2⟩
  rintro s5 w2 ⟨ho2, hgr, x2⟩
  refine ⟨fun s5 w3 => Own 114 2 eP w1.heap.size w3 s5 ((fs.map DF.p ++ (l.map DR.p).flatMap Ru.atoms).map szF) ∧ (∀ r ∈ l, RuleP r.p) ∧ Ext w1 w3, ?_, ?_⟩
  · -- the sizes
    rintro s5 w3 ⟨ho3, hru, x3⟩
    generalize hS : (fs.map DF.p ++ (l.map DR.p).flatMap Ru.atoms).map szF = S at ho3
    have hco : Consist (fs.map DF.p ++ (l.map DR.p).flatMap Ru.atoms) ↔ ∀ x ∈ S, ∀ y ∈ S, x.1 = y.1 → x.2 = y.2 := by rw [← hS]; exact consist_sz
    have hSl : S.length ≤ 60 := by
      rw [← hS]
      have := flat_len (l := l.map DR.p) fun r hr => by obtain ⟨q, hq, rfl⟩ := List.mem_map.1 hr; exact (hru q hq).1
      simp at this ⊢; omega
    have h5n := ho3.sli.len
    refine Join.dir (rangeI (fun i w5 => (∀ x ∈ S.take i, ∀ y ∈ S, x.1 = y.1 → x.2 = y.2) ∧ Ext w3 w5) (by rw [h5n]; show S.length ≤ 9223372036854775807; omega) ⟨by simp, Fr.refl _ _⟩ ?_ ?_)
    · rintro i hi w5 ⟨hok, x5⟩ K hK
      have hi : i < S.length := by omega
      refine rdPair (ho3.ext x5).sli hi fun w8 b8 x8 => ?_
      refine Join.dir (rangeI (fun j w10 => (∀ y ∈ S.take j, S[i].1 = y.1 → S[i].2 = y.2) ∧ Ext w8 w10) (by rw [h5n]; show S.length ≤ 9223372036854775807; omega) ⟨by simp, Fr.refl _ _⟩ ?_ ?_)
      · rintro j hj w10 ⟨hok2, x10⟩ K2 hK2
        have hj : j < S.length := by omega
        refine rdPair ((ho3.ext x5).ext (x8.trans x10)).sli hj fun w13 b13 x13 => ?_
        have b8' := (b8.ext x10).ext x13
        have x013 := ((x3.trans x5).trans (x8.trans x10)).trans x13
        refine ⟨fun (b138 : Bool) w14 => (b138 = true ↔ ¬ (S[i].1 = S[j].1 → S[i].2 = S[j].2)) ∧ w14 = w13, ?_, ?_⟩
        · rintro b138 w14 ⟨hb138, rfl⟩
          refine cond_intro (fun g => no x013 fun hv => ?_) (fun g => hK2 _ ⟨fun y hy => ?_, x10.trans x13⟩)
          · exact hb138.1 g fun e => hco.1 hv.co _ (List.getElem_mem hi) _ (List.getElem_mem hj) e
          · rw [List.take_succ_eq_append_getElem hj, List.mem_append, List.mem_singleton] at hy
            rcases hy with hy | rfl
            · exact hok2 y hy
            · exact Classical.byContradiction fun h => by rw [hb138.2 h] at g; cases g
        · refine ⟨by decide, by decide, _, b8'.cell 0, by decide, by decide, _, b13.cell 0, cond_intro (fun g => ⟨by decide, by decide, _, b8'.cell 1, by decide, by decide, _, b13.cell 1, ?_, rfl⟩) (fun g => ⟨?_, rfl⟩)⟩
          · have g : S[i].1 = S[j].1 := by simpa using g
            simp [g]
          · have g : ¬ S[i].1 = S[j].1 := by simpa using g
            simp [g]
      · rintro w9 ⟨hok2, x9⟩
        rw [h5n, List.take_length] at hok2
        refine hK _ ⟨fun x hx => ?_, (x5.trans x8).trans x9⟩
        rw [List.take_succ_eq_append_getElem hi, List.mem_append, List.mem_singleton] at hx
        rcases hx with hx | rfl
        · exact hok x hx
        · exact hok2
    · rintro w4 ⟨hok, x4⟩
      rw [h5n, List.take_length] at hok
      refine ⟨true, rfl, ?_, x3.trans x4⟩
      simp only [true_iff]
      refine ⟨by simpa using hl10, by simpa using hf20, fun f hf => ?_, fun r hr => ?_, hco.2 hok⟩
      · obtain ⟨x, hx, rfl⟩ := List.mem_map.1 hf; exact hgr x hx
      · obtain ⟨x, hx, rfl⟩ := List.mem_map.1 hr; exact hru x hx
  · -- the rules
    refine rangeSI (fun i (s5 : Sl) w15 => Own 114 2 eP w1.heap.size w15 s5 ((fs.map DF.p ++ ((l.take i).map DR.p).flatMap Ru.atoms).map szF) ∧ (∀ r ∈ l.take i, RuleP r.p) ∧ Ext w1 w15) (by rw [hn]; exact hl) ⟨by simpa using ho2, by simp, x2⟩ ?_ ?_
    rotate_left
    · rintro s5 w3 ⟨ho3, hru, x3⟩
      rw [hn, List.take_length] at ho3 hru
      exact ⟨ho3, hru, x3⟩
    rintro i hi s5 w15 ⟨ho15, hru, x15⟩ K hK
    have hi : i < l.length := by omega
    have hm := List.getElem_mem hi
    have hbb := hb _ hm
    have haa := ha _ hm
    have hrp : (l[i]).p ∈ l.map DR.p := List.mem_map.2 ⟨_, hm, rfl⟩
    refine loadRT (hs.ext x15) hi zc94 fun w18 b18 x18 => ?_
    have hro := hs.ok _ hm
    have hbase : (fs.map DF.p ++ ((l.take i).map DR.p).flatMap Ru.atoms).length ≤ 60 := by
      have := flat_len (l := (l.take i).map DR.p) fun r hr => by obtain ⟨q, hq, rfl⟩ := List.mem_map.1 hr; exact (hru q hq).1
      simp at this ⊢; omega
    have htk : fs.map DF.p ++ ((l.take (i + 1)).map DR.p).flatMap Ru.atoms = (fs.map DF.p ++ ((l.take i).map DR.p).flatMap Ru.atoms) ++ (l[i]).p.atoms := by
      rw [List.take_succ_eq_append_getElem hi, List.map_append, List.flatMap_append]; simp
    have hruS : (∀ r ∈ l.take (i + 1), RuleP r.p) ↔ (∀ r ∈ l.take i, RuleP r.p) ∧ RuleP (l[i]).p := by
      rw [List.take_succ_eq_append_getElem hi]
      constructor
      · intro h; exact ⟨fun r hr => h r (List.mem_append_left _ hr), h _ (List.mem_append_right _ (List.mem_singleton.2 rfl))⟩
      · rintro ⟨h1, h2⟩ r hr
        rcases List.mem_append.1 hr with hr | hr
        · exact h1 r hr
        · simp only [List.mem_singleton] at hr; subst hr; exact h2
    have x018 := x15.trans x18
    generalize l[i] = r at b18 hro hbb haa hrp htk hruS
    generalize fs.map DF.p ++ ((l.take i).map DR.p).flatMap Ru.atoms = Ba at ho15 hbase htk
    have hbn := hro.bd.len
    have hatoms : r.p.atoms = r.head.p :: r.body.map (fun b => b.a.p) := by simp [Ru.atoms, DR.p, DL.p]
    refine ⟨fun (b60 : Bool) w19 => (b60 = true ↔ ¬ (FitsF r.head.p ∧ r.body.length ≤ 3)) ∧ Ext w18 w19, ?_, ?_⟩
    rotate_left
    · refine ⟨_, _, rdHead b18, (c62 (hro.hd.ext x018) (haa r.head (by simp [DR.atoms]))).mono fun e w34 ⟨c, he, hc, x34⟩ => ⟨c, he, cond_intro (fun g => ⟨?_, x34⟩) (fun g => ⟨_, (b18.ext x34).cell 2, ?_, x34⟩)⟩⟩
      · have g : c = false := by simpa using g
        simp only [true_iff]
        exact fun h => by rw [hc.2 h.1] at g; cases g
      · have g : c = true := by simpa using g
        have := hc.1 g
        simp [this, hbn]; omega
    rintro b60 w19 ⟨hb60, x19⟩
    have x019 := x018.trans x19
    refine cond_intro (fun g => no x019 fun hv => ?_) (fun g => ?_)
    · have := hv.ru _ hrp
      exact hb60.1 g ⟨this.2.2 _ (by simp [Ru.atoms, DR.p]), by have := this.1; simpa [DR.p] using this⟩
    have hgood : FitsF r.head.p ∧ r.body.length ≤ 3 := Classical.byContradiction fun h => by rw [hb60.2 h] at g; cases g
    obtain ⟨hfh, hb3⟩ := hgood
    have b19 := b18.ext x19
    have ho19 := ho15.ext (x18.trans x19)
    have hsl := hro.hd.len
    refine ⟨_, b19.cell 0, _, b19.cell 1, ?_⟩
    obtain ⟨q1, w20, hb20, q2, w21, hr21, ho21, hf21⟩ := appP ho19 (r.head.rel, ((r.head.sl.n : Nat) : Int)) (by simp; omega) x019.size
    refine ⟨q1, w20, hb20, q2, w21, hr21, ?_⟩
    have x021 : Ext w1 w21 := x019.newer hf21 fun y ⟨a, ha', e⟩ => by have := (ho19.base ha').1; omega
    have hnb : ∀ {w' : World} {s : Sl} {L : List (Int × Int)} {q : Nat} {vs : List Value} {T : TypeId}, Own 114 2 eP w1.heap.size w' s L → Blk w' q vs T → T ≠ 114 → ¬ BlS s q := fun ho hbk hT ⟨a, ha', e⟩ => by
      obtain ⟨cur, hc⟩ := ho.blk ha'
      rw [e] at hc
      exact Blk.ne_ty hbk hc hT rfl
    have b21 := b19.fr hf21 (hnb ho19 b19 (by decide))
    refine ⟨_, _, rdHead b21, (c63 (hro.hd.ext x021) hfh).mono fun e w22 ⟨m74, he, hm74, x22⟩ => ⟨m74, he, ?_⟩⟩
    have b22 := b21.ext x22
    have x022 := x021.trans x22
    rw [hsl] at ho21
    refine ⟨_, b22.cell 2, ?_⟩
    refine ⟨fun (s5 : Sl) (x10 x11 : Int) w23 => Own 114 2 eP w1.heap.size w23 s5 ((Ba ++ r.p.atoms).map szF) ∧ (Bs x10 fun k => ∃ f ∈ r.p.atoms, IsV f k) ∧ (Bs x11 fun k => ∃ c ∈ r.p.body, c.neg = false ∧ IsV c.a k) ∧ (∀ b ∈ r.body, FitsF b.a.p) ∧ Ext w1 w23, ?_, ?_⟩
    · rintro s5 x10 x11 w23 ⟨ho23, h10, h11, hfit, x23⟩
      have hsafe := safe_bits h10 h11
      refine cond_intro (fun g => no x23 fun hv => ?_) (fun g => ?_)
      · have g : x10 ≠ x11 := by simpa using g
        exact g (hsafe.2 (hv.ru _ hrp).2.1)
      · have g : x10 = x11 := by simpa using g
        refine hK _ _ ⟨?_, hruS.2 ⟨hru, by simpa [DR.p] using hb3, hsafe.1 g, fun a ha' => ?_⟩, x23⟩
        · rw [htk]; exact ho23
        · rw [hatoms] at ha'
          rcases List.mem_cons.1 ha' with rfl | ha'
          · exact hfh
          · obtain ⟨b, hbm, rfl⟩ := List.mem_map.1 ha'; exact hfit b hbm
    refine LoopV.intro (fun n (s5 : Sl) (x10 x11 x78 : Int) w24 => ∃ j : Nat, x78 = j ∧ n = r.body.length - j ∧ j ≤ r.body.length ∧ Own 114 2 eP w1.heap.size w24 s5 ((Ba ++ (r.head.p :: (r.body.take j).map (fun b => b.a.p))).map szF) ∧ (Bs x10 fun k => ∃ f ∈ r.head.p :: (r.body.take j).map (fun b => b.a.p), IsV f k) ∧ (Bs x11 fun k => ∃ c ∈ (r.body.take j).map DL.p, c.neg = false ∧ IsV c.a k) ∧ (∀ b ∈ r.body.take j, FitsF b.a.p) ∧ Ext w1 w24) r.body.length
      ⟨0, rfl, rfl, by omega, ?_, hm74.congr fun k => by simp, Bs.zero.congr fun k => by simp, by simp, x022⟩ ?_
    · have := ho21.ext x22
      rw [List.map_append]; exact this
    rintro n s5 x10 x11 x78 w24 ⟨j, rfl, rfl, hj, ho24, h10, h11, hfit, x24⟩
    refine cond_intro (fun g => ?_) (fun g => ?_)
    rotate_left
    · have hjl : j = r.body.length := by simp [hbn] at g; omega
      subst hjl
      rw [List.take_length] at ho24 h10 h11 hfit
      rw [← hatoms] at ho24 h10
      exact ⟨ho24, h10, by simpa [DR.p] using h11, hfit, x24⟩
    have hj : j < r.body.length := by simp [hbn] at g; omega
    have hbm := List.getElem_mem hj
    refine Join.dir (loadLT (hro.ext x24).bd hj zc96 fun w27 b27 x27 => ?_)
    have x027 := x24.trans x27
    have hint := hro.bd.ok _ hbm
    have hbl := haa (r.body[j]).a (by simp [DR.atoms]; exact .inr ⟨_, hbm, rfl⟩)
    have htj : (r.body.take (j + 1)).map (fun b => b.a.p) = (r.body.take j).map (fun b => b.a.p) ++ [(r.body[j]).a.p] := by rw [List.take_succ_eq_append_getElem hj, List.map_append]; rfl
    have htj2 : (r.body.take (j + 1)).map DL.p = (r.body.take j).map DL.p ++ [(r.body[j]).p] := by rw [List.take_succ_eq_append_getElem hj, List.map_append]; rfl
    have htj3 : ∀ b, b ∈ r.body.take (j + 1) ↔ b ∈ r.body.take j ∨ b = r.body[j] := fun b => by rw [List.take_succ_eq_append_getElem hj, List.mem_append, List.mem_singleton]
    have hbin : (r.body[j]).a.p ∈ r.p.atoms := by rw [hatoms]; exact List.mem_cons_of_mem _ (List.mem_map.2 ⟨_, hbm, rfl⟩)
    generalize r.body[j] = b at b27 hint hbl htj htj2 htj3 hbin
    refine ⟨_, _, rdAtom b27, (c62 (hint.ext x027) hbl).mono fun e w28 ⟨c, he, hc, x28⟩ => ⟨c, he, cond_intro (fun g => ?_) (fun g => ?_)⟩⟩
    · have g : c = false := by simpa using g
      refine no (x027.trans x28) fun hv => ?_
      rw [hc.2 ((hv.ru _ hrp).2.2 _ hbin)] at g; cases g
    have g : c = true := by simpa using g
    have hfb := hc.1 g
    have b28 := b27.ext x28
    have x028 := x027.trans x28
    have ho28 := (ho24.ext x27).ext x28
    have hbsl := hint.len
    refine ⟨_, b28.cell 1, _, b28.cell 2, ?_⟩
    have hlen : ((Ba ++ (r.head.p :: (r.body.take j).map (fun b => b.a.p))).map szF).length ≤ 1000000 := by simp; omega
    obtain ⟨q3, w29, hb29, q4, w30, hr30, ho30, hf30⟩ := appP ho28 (b.a.rel, ((b.a.sl.n : Nat) : Int)) hlen x028.size
    refine ⟨q3, w29, hb29, q4, w30, hr30, ?_⟩
    have x030 : Ext w1 w30 := x028.newer hf30 fun y ⟨a, ha', e⟩ => by have := (ho28.base ha').1; omega
    have b30 := b28.fr hf30 (hnb ho28 b28 (by decide))
    rw [hbsl] at ho30
    have ho30' : Own 114 2 eP w1.heap.size w30 q4 ((Ba ++ (r.head.p :: (r.body.take (j + 1)).map (fun b => b.a.p))).map szF) := by
      rw [htj, ← List.cons_append, ← List.append_assoc, List.map_append]; exact ho30
    refine ⟨_, _, rdAtom b30, (c63 (hint.ext x030) hfb).mono fun e w31 ⟨m100, he, hm100, x31⟩ => ⟨m100, he, ?_⟩⟩
    have b31 := b30.ext x31
    have x031 := x030.trans x31
    have h10' : Bs (bitsI .or .i64 x10 m100) fun k => ∃ f ∈ r.head.p :: (r.body.take (j + 1)).map (fun b => b.a.p), IsV f k := (h10.or hm100).congr fun k => by
      rw [htj]
      simp only [List.mem_cons, List.mem_append, List.not_mem_nil, or_false]
      constructor
      · rintro (⟨f, hf', h⟩ | h)
        · exact ⟨f, by rcases hf' with h' | h'; exact .inl h'; exact .inr (.inl h'), h⟩
        · exact ⟨_, .inr (.inr rfl), h⟩
      · rintro ⟨f, hf' | hf' | rfl, h⟩
        · exact .inl ⟨f, .inl hf', h⟩
        · exact .inl ⟨f, .inr hf', h⟩
        · exact .inr h
    refine ⟨_, b31.cell 0, ?_⟩
    refine ⟨fun (x11' : Int) w32 => (Bs x11' fun k => ∃ c ∈ (r.body.take (j + 1)).map DL.p, c.neg = false ∧ IsV c.a k) ∧ Ext w31 w32, ?_, ?_⟩
    · rintro x11' w32 ⟨h11', x32⟩
      exact ⟨r.body.length - (j + 1), by omega, j + 1, by rw [wrap64 (by omega) (by omega)]; rfl, rfl, by omega, (ho30'.ext x31).ext x32, h10', h11', fun b' hb' => by
        rcases (htj3 b').1 hb' with h | rfl
        · exact hfit b' h
        · exact hfb, x031.trans x32⟩
    · refine cond_intro (fun g3 => ?_) (fun g3 => ?_)
      · have g3 : b.neg = false := by simpa using g3
        refine ⟨_, _, rdAtom b31, (c63 (hint.ext x031) hfb).mono fun e w33 ⟨m108, he, hm108, x33⟩ => ⟨m108, he, (h11.or hm108).congr fun k => ?_, x33⟩⟩
        rw [htj2]
        simp only [List.mem_append, List.mem_singleton]
        constructor
        · rintro (⟨c', hc', h⟩ | h)
          · exact ⟨c', .inl hc', h⟩
          · exact ⟨_, .inr rfl, g3, h⟩
        · rintro ⟨c', hc' | rfl, h⟩
          · exact .inl ⟨c', hc', h⟩
          · exact .inr h.2
      · have g3 : b.neg = true := by simpa using g3
        refine ⟨h11.congr fun k => ?_, Fr.refl _ _⟩
        rw [htj2]
        simp only [List.mem_append, List.mem_singleton]
        constructor
        · rintro ⟨c', hc', h⟩; exact ⟨c', .inl hc', h⟩
        · rintro ⟨c', hc' | rfl, h⟩
          · exact ⟨c', hc', h⟩
          · have : b.neg = false := h.1
            rw [g3] at this; cases this
end Go.Proofs.Ytoljknamnkkgcaa
/-
  Contracts: is a fact in a list? What conversion leaves of valid arguments.
-/
namespace Go.Proofs.Ytoljknamnkkgcaa
open Go Go.VC
set_option maxHeartbeats 1000000
set_option maxRecDepth 100000

theorem cut_id {n : Nat} {f : Fa} (h : f.args.length ≤ n) : cut n f = f := by cases f; simp only [cut] at h ⊢; rw [List.take_of_length_le h]
theorem cut_small {n : Nat} {f : Fa} (hn : 2 < n) (h : (cut n f).args.length ≤ 2) : cut n f = f := cut_id (by simp [cut] at h; omega)
theorem ofRu_id {r : Ru} (h : RuleP (ofRu r)) : ofRu r = r := by
  obtain ⟨h1, h2, h3⟩ := h
  have hb : r.body.length ≤ 5 := by simp [ofRu] at h1; omega
  have ht : r.body.take 5 = r.body := List.take_of_length_le hb
  have hh := h3 (cut 5 r.head) (by simp [Ru.atoms, ofRu])
  obtain ⟨hd, bd⟩ := r
  simp only at ht hh hb
  have e1 : cut 5 hd = hd := cut_small (by omega) hh.2.2.2.1
  have e2 : bd.map cutL = bd := by
    have : ∀ b ∈ bd, cutL b = b := fun b hbm => by
      have := h3 (cut 5 b.a) (by simp [Ru.atoms, ofRu, ht]; exact .inr ⟨b, hbm, rfl⟩)
      cases b; simp only [cutL] at this ⊢; rw [cut_small (by omega) this.2.2.2.1]
    rw [List.map_congr_left this]; simp
  simp only [ofRu, ht, e1, e2]
theorem ofR_id {l : List Ru} {fs : List Fa} (h : ValidP (ofR l) fs) : ofR l = l := by
  have h1 := h.nl
  have hl : l.length ≤ 12 := by simp [ofR] at h1; omega
  have ht : l.take 12 = l := List.take_of_length_le hl
  have h2 := h.ru
  unfold ofR at h2 ⊢
  rw [ht] at h2 ⊢
  have : ∀ r ∈ l, ofRu r = r := fun r hr => ofRu_id (h2 _ (List.mem_map.2 ⟨r, hr, rfl⟩))
  rw [List.map_congr_left this]; simp
theorem factsC_id {l : List Ru} {fs : List Fa} (h : ValidP l (factsC fs)) : factsC fs = fs := by
  have h1 := h.nf
  have hl : fs.length ≤ 26 := by simp [factsC] at h1; omega
  have ht : fs.take 26 = fs := List.take_of_length_le hl
  have h2 := h.gr
  unfold factsC at h2 ⊢
  rw [ht] at h2 ⊢
  have : ∀ f ∈ fs, cut 9 f = f := fun f hf => cut_small (by omega) (h2 _ (List.mem_map.2 ⟨f, hf, rfl⟩)).2.2.2.1
  rw [List.map_congr_left this]; simp
theorem ru_of {r : Ru} (h : RuleP r) : ofRu r = r := by
  obtain ⟨h1, h2, h3⟩ := h
  obtain ⟨hd, bd⟩ := r
  simp only at h1
  have e1 : cut 5 hd = hd := cut_id (by have := (h3 hd (by simp [Ru.atoms])).2.2.2.1; omega)
  have e2 : bd.map cutL = bd := by
    have : ∀ b ∈ bd, cutL b = b := fun b hbm => by
      have := (h3 b.a (by simp [Ru.atoms]; exact .inr ⟨b, hbm, rfl⟩)).2.2.2.1
      cases b; simp only [cutL] at this ⊢; rw [cut_id (by omega)]
    rw [List.map_congr_left this]; simp
  simp only [ofRu, List.take_of_length_le (show bd.length ≤ 5 by omega), e1, e2]
/-- Valid arguments are handed on as they are. -/
theorem conv_id {l : List Ru} {fs : List Fa} (h : ValidP l fs) : ofR l = l ∧ factsC fs = fs := by
  refine ⟨?_, ?_⟩
  · have h1 := h.nl
    unfold ofR
    rw [List.take_of_length_le (by omega), List.map_congr_left (fun r hr => ru_of (h.ru r hr))]; simp
  · have h1 := h.nf
    unfold factsC
    rw [List.take_of_length_le (by omega), List.map_congr_left (fun f hf => cut_id (n := 9) (by have := (h.gr f hf).2.2.2.1; omega))]; simp
theorem conv_valid {l : List Ru} {fs : List Fa} : ValidP (ofR l) (factsC fs) ↔ ValidP l fs := by
  constructor
  · intro h
    have e1 := ofR_id h
    have e2 := factsC_id h
    rw [e1, e2] at h; exact h
  · intro h
    rw [(conv_id h).1, (conv_id h).2]; exact h
/-! ### within -/
theorem callable66 : callable Try.prog 66 = true := by kernel_rfl
theorem c24 {w : World} {s : Sl} {l : List DF} {f : DF} (hs : NF w s l) (hf : Ints w f.sl f.args) (hl : l.length ≤ big) (hfa : f.args.length ≤ big) :
    Calls Try.prog 24 [.slice s.a s.n s.c, .agg [.int .i64 f.rel, .slice f.sl.a f.sl.n f.sl.c].toArray].toArray w fun e w' => e = .returned (.bool (decide (f.p ∈ l.map DF.p))) ∧ Ext w w' := by
  refine (call24 s f.rel f.sl (R := fun v w' => v = .bool (decide (f.p ∈ l.map DF.p)) ∧ Ext w w') ?_).mono fun e w' ⟨v, he, hv, hx⟩ => ⟨by rw [he, hv], hx⟩
  obtain ⟨b1, x1⟩ := eF_cells w f 36
  refine Let.intro fun w1 e1 => ?_
  have e1 : w1 = w.alloc (.cells (eF f).toArray 36) := e1
  rw [← e1] at b1 x1
  have hn := hs.len
  generalize w.heap.size = q at b1 ⊢
  refine (call65 s 66 [.pointer (some ⟨q, 0, none⟩)] (R := fun v w' => v = .bool (decide (f.p ∈ l.map DF.p)) ∧ Ext w w') ?_).mono fun e w' ⟨v, he, hv, hx⟩ => ⟨_, by rw [he, hv], rfl, hx⟩
  refine (call91 s 66 [.pointer (some ⟨q, 0, none⟩)] (R := fun v w' => ∃ m : Int, v = .int .i64 m ∧ (0 ≤ m ↔ f.p ∈ l.map DF.p) ∧ Ext w w') ?_).mono fun e w' ⟨v, he, m, hv, hm, hx⟩ => ⟨m, by rw [he, hv], ?_, hx⟩
  rotate_left
  · congr 1; exact decide_eq_decide.2 hm
  refine Join.dir (rangeI (fun i w2 => f.p ∉ (l.take i).map DF.p ∧ Ext w1 w2) (by rw [hn]; exact hl) ⟨by simp, Fr.refl _ _⟩ ?_ ?_)
  · rintro i hi w2 ⟨hno, x2⟩ K hK
    have hi : i < l.length := by omega
    have x02 := x1.trans x2
    obtain ⟨p, hp, a1, a2, hr⟩ := Sli.at eF_len (hs.ext x02).sl hi
    have hint := (hs.ok _ (List.getElem_mem hi)).ext x02
    refine ⟨p, hp, a1, a2, _, _, hr, ?_⟩
    rw [callable66]
    show Calls Try.prog 66 _ w2 _
    refine (call66 (l[i]).rel (l[i]).sl ⟨q, 0⟩ (R := fun v w' => v = .bool (decide (f.p = (l[i]).p)) ∧ Ext w2 w') ?_).mono fun e w4 ⟨v, he, hv, x4⟩ => ⟨decide (f.p = (l[i]).p), by rw [he, hv], cond_intro (fun hc => ?_) (fun hc => ?_)⟩
    · obtain ⟨b3, x3⟩ := eF_cells w2 l[i] 36
      refine Let.intro fun w3 e3 => ?_
      have e3 : w3 = w2.alloc (.cells (eF l[i]).toArray 36) := e3
      rw [← e3] at b3 x3
      have bq := (b1.ext x2).ext x3
      refine Join.dir ⟨_, bq.cell 0, _, b3.cell 0, cond_intro (fun g => ?_) (fun g => ?_)⟩
      · have g : f.rel = (l[i]).rel := by simpa using g
        refine ⟨_, bq.cell 1, _, b3.cell 1, (c32 ((hf.ext x02).ext x3) (hint.ext x3) hfa).mono fun e w5 ⟨he, x5⟩ => ⟨_, he, ?_, x3.trans x5⟩⟩
        congr 1
        apply decide_eq_decide.2
        simp [DF.p, g]
      · have g : ¬ f.rel = (l[i]).rel := by simpa using g
        exact ⟨by simp [DF.p, g], x3⟩
    · have hc : f.p = (l[i]).p := by simpa using hc
      refine ⟨(i : Int), rfl, ?_, x02.trans x4⟩
      simp only [show (0 : Int) ≤ (i : Int) by omega, true_iff]
      exact List.mem_map.2 ⟨_, List.getElem_mem hi, hc.symm⟩
    · have hc : ¬ f.p = (l[i]).p := by simpa using hc
      refine hK _ ⟨?_, x2.trans x4⟩
      rw [List.take_succ_eq_append_getElem hi, List.map_append, List.mem_append]
      rintro (h | h)
      · exact hno h
      · simp only [List.map_cons, List.map_nil, List.mem_singleton] at h; exact hc h
  · rintro w2 ⟨hno, x2⟩
    rw [hn, List.take_length] at hno
    refine ⟨-1, rfl, ?_, x1.trans x2⟩
    simp [hno]
end Go.Proofs.Ytoljknamnkkgcaa
/-
  Printed by a program of this session (wip/tools/vcprint.py): of each Go function the shallow form, and that the calculus comes to it, by the kernel.
-/
namespace Go.Proofs.Ytoljknamnkkgcaa
open Go Go.VC
set_option maxRecDepth 100000

/-- F3: cubeb/cubeblaw03.RulesAgain -/
def An3 : An := (.sq .lf (.sq .lf (.sq (.sq (.rj [] [(27, .bool)]) (.cd (.sq (.rj [] [(4, .bool)]) .lf) .lf)) (.sq .lf (.sq (.rj [] [(4, .bool)]) .lf)))))
def S3 (s0 : Sl) (s1 : Sl) (R : Value → World → Prop) (w : World) : Prop :=
  Calls Try.prog 17 [(.slice s0.a s0.n s0.c)].toArray w (fun e w1 => ∃ s10 : Sl, e = .returned (.slice s10.a s10.n s10.c) ∧
  Calls Try.prog 18 [(.slice s1.a s1.n s1.c)].toArray w1 (fun e_2 w2 => ∃ s12 : Sl, e_2 = .returned (.slice s12.a s12.n s12.c) ∧
  Calls Try.prog 16 [(.slice s10.a s10.n s10.c), (.slice s12.a s12.n s12.c)].toArray w2 (fun e_3 w3 => ∃ s13_0 : Sl, ∃ x13_1 : Int, e_3 = .returned (.tuple [(.slice s13_0.a s13_0.n s13_0.c), (.int .i64 x13_1)].toArray) ∧
  Join [(27, .bool)] (fun (b27 : Bool) (w4 : World) => cond b27 (
  Join [(4, .bool)] (fun (b4 : Bool) (w5 : World) => R (.bool b4) w5) (fun J =>
  cond (x13_1 == (0 : Int)) (Calls Try.prog 20 [].toArray w4 (fun e_4 w6 => ∃ b39 : Bool, e_4 = .returned (.bool b39) ∧
  J b39 w6)) (cond (x13_1 == (2 : Int)) (Calls Try.prog 20 [].toArray w4 (fun e_5 w7 => ∃ b39_2 : Bool, e_5 = .returned (.bool b39_2) ∧
  J b39_2 w7)) (cond (x13_1 == (8 : Int)) (Calls Try.prog 20 [].toArray w4 (fun e_6 w8 => ∃ b39_3 : Bool, e_6 = .returned (.bool b39_3) ∧
  J b39_3 w8)) (J false w4))))) (
  Calls Try.prog 17 [(.slice s0.a s0.n s0.c)].toArray w4 (fun e_7 w9 => ∃ s43 : Sl, e_7 = .returned (.slice s43.a s43.n s43.c) ∧
  Calls Try.prog 16 [(.slice s43.a s43.n s43.c), (.slice s13_0.a s13_0.n s13_0.c)].toArray w9 (fun e_8 w10 => ∃ s45_0 : Sl, ∃ x45_1 : Int, e_8 = .returned (.tuple [(.slice s45_0.a s45_0.n s45_0.c), (.int .i64 x45_1)].toArray) ∧
  Join [(4, .bool)] (fun (b4_2 : Bool) (w11 : World) => R (.bool b4_2) w11) (fun J_2 =>
  cond (x45_1 == (0 : Int)) (Calls Try.prog 21 [(.slice s13_0.a s13_0.n s13_0.c), (.slice s45_0.a s45_0.n s45_0.c)].toArray w10 (fun e_9 w12 => ∃ b53 : Bool, e_9 = .returned (.bool b53) ∧
  cond b53 (Calls Try.prog 20 [].toArray w12 (fun e_10 w13 => ∃ b56 : Bool, e_10 = .returned (.bool b56) ∧
  J_2 b56 w13)) (J_2 false w12))) (J_2 false w10)))))) (fun J_3 =>
  cond (x13_1 != (0 : Int)) (J_3 true w3) (Calls Try.prog 19 [(.slice s0.a s0.n s0.c)].toArray w3 (fun e_11 w14 => ∃ b20 : Bool, e_11 = .returned (.bool b20) ∧
  cond (!b20) (J_3 true w14) (J_3 (decide (((s13_0.n : Nat) : Int) > (20 : Int))) w14)))))))
theorem eq3 (s0 : Sl) (s1 : Sl) (R : Value → World → Prop) (w : World) : funV Try.prog Try.f3 An3 [(.slice s0.a s0.n s0.c), (.slice s1.a s1.n s1.c)] R w = S3 s0 s1 R w := by kernel_rfl
theorem call3 (s0 : Sl) (s1 : Sl) {R : Value → World → Prop} {w : World} (h : S3 s0 s1 R w) : Calls Try.prog 3 [(.slice s0.a s0.n s0.c), (.slice s1.a s1.n s1.c)].toArray w fun e w' => ∃ v, e = .returned v ∧ R v w' :=
  funV_calls mixed Try.func3 (an := An3) (by rw [eq3]; exact h)

/-- F5: cubeb/cubeblaw03.RulesFounded -/
def An5 : An := (.sq .lf (.sq .lf (.sq (.sq .lf (.cd (.sq (.rj [] [(4, .bool)]) .lf) .lf)) (.sq .lf (.sq (.rj [] [(4, .bool)]) .lf)))))
def S5 (s0 : Sl) (s1 : Sl) (R : Value → World → Prop) (w : World) : Prop :=
  Calls Try.prog 17 [(.slice s0.a s0.n s0.c)].toArray w (fun e w1 => ∃ s12 : Sl, e = .returned (.slice s12.a s12.n s12.c) ∧
  Calls Try.prog 18 [(.slice s1.a s1.n s1.c)].toArray w1 (fun e_2 w2 => ∃ s14 : Sl, e_2 = .returned (.slice s14.a s14.n s14.c) ∧
  Calls Try.prog 25 [(.slice s12.a s12.n s12.c), (.slice s14.a s14.n s14.c)].toArray w2 (fun e_3 w3 => ∃ s15_0 : Sl, ∃ s15_1 : Sl, ∃ x15_2 : Int, e_3 = .returned (.tuple [(.slice s15_0.a s15_0.n s15_0.c), (.slice s15_1.a s15_1.n s15_1.c), (.int .i64 x15_2)].toArray) ∧
  Calls Try.prog 22 [(.slice s0.a s0.n s0.c), (.slice s1.a s1.n s1.c)].toArray w3 (fun e_4 w4 => ∃ b21 : Bool, e_4 = .returned (.bool b21) ∧
  cond (!b21) (
  Join [(4, .bool)] (fun (b4 : Bool) (w5 : World) => R (.bool b4) w5) (fun J =>
  cond ((IntKind.wrap .i64 (((s15_0.n : Nat) : Int) + ((s15_1.n : Nat) : Int))) == (0 : Int)) (cond (x15_2 == (2 : Int)) (Calls Try.prog 20 [].toArray w4 (fun e_5 w6 => ∃ b34 : Bool, e_5 = .returned (.bool b34) ∧
  J b34 w6)) (J false w4)) (J false w4))) (
  Calls Try.prog 26 [(.slice s0.a s0.n s0.c), (.slice s1.a s1.n s1.c)].toArray w4 (fun e_6 w7 => ∃ cs39_0 : List Value, cs39_0.length = 252 ∧ ∃ cs39_1 : List Value, cs39_1.length = 252 ∧ e_6 = .returned (.tuple [(.agg cs39_0.toArray), (.agg cs39_1.toArray)].toArray) ∧
  Let (w7.alloc (.cells (zc Try.prog 43) 43)) fun w8 => 
  Let (w8.alloc (.cells (zc Try.prog 43) 43)) fun w9 => 
  StoreOk w9 w7.heap.size 0 cs39_0 252 ∧ Let (put w9 w7.heap.size 0 cs39_0) fun w10 => 
  StoreOk w10 w8.heap.size 0 cs39_1 252 ∧ Let (put w10 w8.heap.size 0 cs39_1) fun w11 => 
  Join [(4, .bool)] (fun (b4_2 : Bool) (w12 : World) => R (.bool b4_2) w12) (fun J_2 =>
  ∃ cs43 : List Value, cs43.length = 252 ∧ rd w11 w7.heap.size 0 cs43 ∧ Calls Try.prog 27 [(.agg cs43.toArray)].toArray w11 (fun e_7 w13 => ∃ s44 : Sl, e_7 = .returned (.slice s44.a s44.n s44.c) ∧
  Calls Try.prog 21 [(.slice s15_0.a s15_0.n s15_0.c), (.slice s44.a s44.n s44.c)].toArray w13 (fun e_8 w14 => ∃ b45 : Bool, e_8 = .returned (.bool b45) ∧
  cond b45 (∃ cs48 : List Value, cs48.length = 252 ∧ rd w14 w8.heap.size 0 cs48 ∧ Calls Try.prog 27 [(.agg cs48.toArray)].toArray w14 (fun e_9 w15 => ∃ s49 : Sl, e_9 = .returned (.slice s49.a s49.n s49.c) ∧
  Calls Try.prog 21 [(.slice s15_1.a s15_1.n s15_1.c), (.slice s49.a s49.n s49.c)].toArray w15 (fun e_10 w16 => ∃ b50 : Bool, e_10 = .returned (.bool b50) ∧
  cond b50 (cond (x15_2 == (0 : Int)) (Calls Try.prog 20 [].toArray w16 (fun e_11 w17 => ∃ b57 : Bool, e_11 = .returned (.bool b57) ∧
  J_2 b57 w17)) (J_2 false w16)) (J_2 false w16)))) (J_2 false w14))))))))))
theorem eq5 (s0 : Sl) (s1 : Sl) (R : Value → World → Prop) (w : World) : funV Try.prog Try.f5 An5 [(.slice s0.a s0.n s0.c), (.slice s1.a s1.n s1.c)] R w = S5 s0 s1 R w := by kernel_rfl
theorem call5 (s0 : Sl) (s1 : Sl) {R : Value → World → Prop} {w : World} (h : S5 s0 s1 R w) : Calls Try.prog 5 [(.slice s0.a s0.n s0.c), (.slice s1.a s1.n s1.c)].toArray w fun e w' => ∃ v, e = .returned v ∧ R v w' :=
  funV_calls mixed Try.func5 (an := An5) (by rw [eq5]; exact h)

end Go.Proofs.Ytoljknamnkkgcaa
/-
  Contract: the law RulesAgain.
-/
namespace Go.Proofs.Ytoljknamnkkgcaa
open Go Go.VC
set_option maxHeartbeats 1000000
set_option maxRecDepth 100000

theorem cut_len (n : Nat) (f : Fa) : (cut n f).args.length ≤ n := by simp [cut]; omega
theorem of_sz {L : List DR} {l : List Ru} (h : L.map DR.p = ofR l) : L.length ≤ 12 ∧ ∀ r ∈ L, SzR r := by
  refine ⟨by have := congrArg List.length h; simp [ofR] at this; omega, fun r hr => ?_⟩
  have hm : r.p ∈ ofR l := by rw [← h]; exact List.mem_map.2 ⟨r, hr, rfl⟩
  obtain ⟨q, _, hq⟩ := List.mem_map.1 hm
  have h1 : r.body.map DL.p = (q.body.take 5).map cutL := congrArg Ru.body hq.symm
  have hb : r.body.length ≤ 5 := by have := congrArg List.length h1; simp at this; omega
  refine ⟨by omega, fun x hx => ?_⟩
  rcases List.mem_cons.1 hx with rfl | hx
  · have h2 : r.head.p = cut 5 q.head := congrArg Ru.head hq.symm
    have := cut_len 5 q.head
    rw [← h2] at this
    exact Nat.le_trans this (by omega)
  · obtain ⟨b, hbm, rfl⟩ := List.mem_map.1 hx
    have : b.p ∈ (q.body.take 5).map cutL := by rw [← h1]; exact List.mem_map.2 ⟨b, hbm, rfl⟩
    obtain ⟨c, _, hc⟩ := List.mem_map.1 this
    have h2 : b.a.p = cut 5 c.a := congrArg Li.a hc.symm
    have := cut_len 5 c.a
    rw [← h2] at this
    exact Nat.le_trans this (by omega)
theorem facts_sz {L : List DF} {l : List Fa} (h : L.map DF.p = factsC l) : L.length ≤ 26 ∧ ∀ x ∈ L, x.args.length ≤ 9 := by
  refine ⟨by have := congrArg List.length h; simp [factsC] at this; omega, fun x hx => ?_⟩
  have hm : x.p ∈ factsC l := by rw [← h]; exact List.mem_map.2 ⟨x, hx, rfl⟩
  obtain ⟨q, _, hq⟩ := List.mem_map.1 hm
  have := cut_len 9 q
  rw [hq] at this
  exact this
theorem ofR_plain {l : List Ru} (h : PlainP l) : PlainP (ofR l) := by
  intro r hr b hb
  obtain ⟨q, hq, rfl⟩ := List.mem_map.1 hr
  obtain ⟨c, hc, rfl⟩ := List.mem_map.1 hb
  exact h q (List.mem_of_mem_take hq) c (List.mem_of_mem_take hc)
theorem IsL.giv {S : Ky → Prop} {l : List Fa} (h : IsL S l) (k : Ky) : giv l k ↔ S k := by
  constructor
  · rintro ⟨f, hf, rfl⟩
    obtain ⟨k, hk, rfl⟩ := (h.mem f).1 hf
    rw [Ky.fk]; exact hk
  · intro hk
    exact ⟨k.f, (h.mem _).2 ⟨k, hk, rfl⟩, Ky.fk k⟩
/-- The facts of a model go with the rules. -/
theorem again_valid {l : List Ru} {fs a : List Fa} {t : List Int} (hv : ValidP l fs) (h : IsL (Mdl l t (giv fs)) a) (hn : a.length ≤ 20) : ValidP l a := by
  obtain ⟨h1, h2⟩ := hv.ty
  have hty : ∀ k, Mdl l t (giv fs) k → TyK (allA l fs) k := Lay_ty hv.co h1 h2 6
  have hrl : ∀ x ∈ l.flatMap Ru.atoms, x ∈ allA l fs := fun x hx => List.mem_append_right _ hx
  refine ⟨hv.nl, hn, fun f hf => ?_, hv.ru, ?_⟩
  · obtain ⟨k, hk, rfl⟩ := (h.mem f).1 hf
    exact (hty k hk).ground
  · intro x hx y hy e
    rcases List.mem_append.1 hx with hx | hx <;> rcases List.mem_append.1 hy with hy | hy
    · obtain ⟨k, hk, rfl⟩ := (h.mem x).1 hx
      obtain ⟨k', hk', rfl⟩ := (h.mem y).1 hy
      -- both of one Rel: by an atom of it, or by the shapes
      have e' : k.rel = k'.rel := e
      by_cases hex : ∃ g ∈ allA l fs, g.rel = k.rel
      · obtain ⟨g, hg, eg⟩ := hex
        have h3 := (hty k hk).len g hg eg
        have h4 := (hty k' hk').len g hg (by rw [eg, e'])
        omega
      · -- there is no atom of this Rel: then no fact either
        exfalso
        have : ∀ k, Mdl l t (giv fs) k → ∃ g ∈ allA l fs, g.rel = k.rel := fun k hk => by
          have hl : ∀ n k, Lay l t (giv fs) n k → ∃ g ∈ allA l fs, g.rel = k.rel := by
            intro n
            induction n with
            | zero =>
              rintro k ⟨f, hf, rfl⟩
              exact ⟨f, List.mem_append_left _ hf, rfl⟩
            | succ n ih =>
              intro k hk
              exact hk (fun k => ∃ g ∈ allA l fs, g.rel = k.rel) ih fun r hr u _ _ => ⟨r.head, (h2 r (List.mem_filter.1 hr).1).2 _ (by simp [Ru.atoms]), rfl⟩
          exact hl 6 k hk
        exact hex (this k hk)
    · obtain ⟨k, hk, rfl⟩ := (h.mem x).1 hx
      exact ((hty k hk).len y (hrl y hy) e.symm).symm
    · obtain ⟨k, hk, rfl⟩ := (h.mem y).1 hy
      exact (hty k hk).len x (hrl x hx) e
    · exact hv.co x (hrl x hx) y (hrl y hy) e
theorem again_mdl {l : List Ru} (hp : PlainP l) {fs a : List Fa} (h : IsL (Mdl l zero6 (giv fs)) a) (k : Ky) : Mdl l zero6 (giv a) k ↔ Mdl l zero6 (giv fs) k := by
  rw [Mdl_plain hp (fun _ => False), Mdl_plain hp (fun _ => False)]
  have hg : ∀ k, giv a k ↔ Cl l (giv fs) (fun _ => False) k := fun k => by rw [h.giv, Mdl_plain hp (fun _ => False)]
  refine Cl.eq (fun k hk => (hg k).1 hk) (Cl.closed _ _ _) (fun k hk => Cl.base ((hg k).2 hk)) k
theorem c3 {w : World} {s s' : Sl} {l : List DR} {fs : List DF} (hs : NR w s l) (hf : NF w s' fs) (hl : l.length ≤ big) (hb : ∀ r ∈ l, r.body.length ≤ big) (hfl : fs.length ≤ big) :
    Calls Try.prog 3 [.slice s.a s.n s.c, .slice s'.a s'.n s'.c].toArray w fun e w' => e = .returned (.bool true) ∧ Ext w w' := by
  refine (call3 s s' (R := fun v w' => v = .bool true ∧ Ext w w') ?_).mono fun e w' ⟨v, he, hv, hx⟩ => ⟨by rw [he, hv], hx⟩
  refine (c17 hs hl hb).mono fun e w1 ⟨s10, L, he, hL, hLp, x1⟩ => ⟨s10, he, ?_⟩
  refine (c18 (hf.ext x1) hfl).mono fun e w2 ⟨s12, F, he, hFo, hFt, hFp, x2⟩ => ⟨s12, he, ?_⟩
  have hF : NF w2 s12 F := ⟨hFo.sli, fun x hx => (hFt x hx).i⟩
  obtain ⟨hL12, hLz⟩ := of_sz hLp
  obtain ⟨hF26, hFz⟩ := facts_sz hFp
  refine (c16 (hL.ext x2) hF (by omega) (by omega) hLz (fun f hf => by have := hFz f hf; omega)).mono fun e w3 ⟨s13, x, A, he, hA, hAl, hcase, x3⟩ => ⟨s13, x, he, ?_⟩
  have x03 := (x1.trans x2).trans x3
  have hAn := hA.len
  refine ⟨fun (b27 : Bool) w4 => (b27 = false → x = 0 ∧ PlainP (l.map DR.p) ∧ A.length ≤ 20) ∧ Ext w3 w4, ?_, ?_⟩
  rotate_left
  · refine cond_intro (fun _ => ⟨(fun h => by cases h), Fr.refl _ _⟩) (fun g => ?_)
    have g : x = 0 := by simpa using g
    refine (c19 (hs.ext x03) hl hb).mono fun e w14 ⟨b, he, hbp, x14⟩ => ⟨b, he, cond_intro (fun _ => ⟨(fun h => by cases h), x14⟩) (fun g2 => ⟨fun g3 => ?_, x14⟩)⟩
    have g2 : b = true := by simpa using g2
    exact ⟨g, hbp.1 g2, by simp [hAn] at g3; omega⟩
  rintro b27 w4 ⟨hb27, x4⟩
  have x04 := x03.trans x4
  refine cond_intro (fun _ => ?_) (fun g => ?_)
  · refine Join.dir (cond_intro (fun _ => (c20 w4).mono fun e w6 ⟨he, x6⟩ => ⟨_, he, rfl, x04.trans x6⟩) (fun g1 => cond_intro (fun _ => (c20 w4).mono fun e w6 ⟨he, x6⟩ => ⟨_, he, rfl, x04.trans x6⟩) (fun g2 => cond_intro (fun _ => (c20 w4).mono fun e w6 ⟨he, x6⟩ => ⟨_, he, rfl, x04.trans x6⟩) (fun g3 => ?_))))
    rcases hcase with ⟨_, h, _⟩ | ⟨_, _, h, _⟩ | ⟨_, t, _, h, _⟩ <;> subst h <;> simp at g1 g2 g3
  obtain ⟨hx0, hpl, hA20⟩ := hb27 g
  have hplo := ofR_plain hpl
  rw [← hLp] at hplo
  rcases hcase with ⟨_, h, _⟩ | ⟨_, _, h, _⟩ | ⟨hv, t, ht, _, hIs⟩
  · omega
  · omega
  have := ht.uniq (plain_str hplo)
  subst this
  have hv2 := again_valid hv hIs (by simpa using hA20)
  refine (c17 (hs.ext x04) hl hb).mono fun e w9 ⟨s43, L2, he, hL2, hLp2, x9⟩ => ⟨s43, he, ?_⟩
  have eL2 : L2.map DR.p = L.map DR.p := by rw [hLp2, hLp]
  obtain ⟨hL12', hLz'⟩ := of_sz hLp2
  have hAa : ∀ f ∈ A, f.args.length ≤ 2 := fun f hf => (hv2.gr f.p (List.mem_map.2 ⟨f, hf, rfl⟩)).2.2.2.1
  refine (c16 hL2 (hA.ext (x4.trans x9)) (by omega) (by omega) hLz' (fun f hf => by have := hAa f hf; omega)).mono fun e w10 ⟨s45, x', A2, he, hA2, hAl2, hcase2, x10⟩ => ⟨s45, x', he, ?_⟩
  rw [eL2] at hcase2
  rcases hcase2 with ⟨h, _⟩ | ⟨_, h, _⟩ | ⟨_, t2, ht2, rfl, hIs2⟩
  · exact absurd hv2 h
  · exact absurd ⟨_, ht⟩ h
  have := ht2.uniq ht
  subst this
  have heq : A.map DF.p = A2.map DF.p := hIs.uniq (hIs2.congr (again_mdl hplo hIs))
  have x09 := (x04.trans x9).trans x10
  refine Join.dir (cond_intro (fun _ => ?_) (fun h => by simp at h))
  refine (c21 (hA.ext ((x4.trans x9).trans x10)) hA2 (by show A.length ≤ 9223372036854775807; omega) (fun y hy => by have := hAa y hy; show y.args.length ≤ 9223372036854775807; omega)).mono fun e w12 ⟨he, x12⟩ => ⟨_, he, ?_⟩
  refine cond_intro (fun _ => ?_) (fun h => by simp [heq] at h)
  exact (c20 w12).mono fun e w13 ⟨he, x13⟩ => ⟨_, he, rfl, (x09.trans x12).trans x13⟩
end Go.Proofs.Ytoljknamnkkgcaa
/-
  Contract: the law RulesStrata.
-/
namespace Go.Proofs.Ytoljknamnkkgcaa
open Go Go.VC
set_option maxHeartbeats 1000000
set_option maxRecDepth 100000

theorem RuleP.small {r : DR} (h : RuleP r.p) : r.body.length ≤ 3 ∧ ∀ a ∈ r.atoms, a.args.length ≤ 2 := by
  refine ⟨by have := h.1; simpa [DR.p] using this, fun x hx => ?_⟩
  have : FitsF x.p := h.2.2 x.p (by
    simp only [DR.atoms, List.mem_cons, List.mem_map] at hx
    simp only [Ru.atoms, DR.p, List.mem_cons, List.mem_map]
    rcases hx with rfl | ⟨b, hb, rfl⟩
    · exact .inl rfl
    · exact .inr ⟨b.p, ⟨b, hb, rfl⟩, rfl⟩)
  exact this.2.2.2.1
theorem ndR_sub {l : List Ru} {m : Nat} : ∀ r ∈ ndR l m, r ∈ l := fun r hr => (List.mem_filter.1 hr).1
theorem ndR_len (l : List Ru) (m : Nat) : (ndR l m).length ≤ l.length := List.length_filter_le _ _
theorem conv_valid0 {l : List Ru} : ValidP (ofR l) [] ↔ ValidP l [] := conv_valid (fs := [])
theorem c10 {w : World} {s : Sl} {l : List DR} (hs : NR w s l) (hl : l.length ≤ big) (hb : ∀ r ∈ l, r.body.length ≤ big) (ha : ∀ r ∈ l, ∀ x ∈ r.atoms, x.args.length ≤ big) (rel : Int) :
    Calls Try.prog 10 [.slice s.a s.n s.c, .int .i64 rel].toArray w fun e w' => e = .returned (.bool true) ∧ Ext w w' := by
  refine (call10 s rel (R := fun v w' => v = .bool true ∧ Ext w w') ?_).mono fun e w' ⟨v, he, hv, hx⟩ => ⟨by rw [he, hv], hx⟩
  refine (c17 hs hl hb).mono fun e w1 ⟨s13, L, he, hL, hLp, x1⟩ => ⟨s13, he, ?_⟩
  obtain ⟨hL12, hLz⟩ := of_sz hLp
  refine (c36 hL (by omega) hLz).mono fun e w2 ⟨s14, x14, T, he, hT, hTl, hcase, x2⟩ => ⟨s14, x14, he, ?_⟩
  have x02 := x1.trans x2
  refine (c17 (hs.ext x02) hl hb).mono fun e w3 ⟨s19, L2, he, hL2, hLp2, x3⟩ => ⟨s19, he, ?_⟩
  obtain ⟨hL12', hLz'⟩ := of_sz hLp2
  refine (c37 (rel := rel) hL2 (by omega) hLz').mono fun e w4 ⟨s21, x21, N, he, hN, hcase2, x4⟩ => ⟨s21, x21, he, ?_⟩
  have x04 := (x02.trans x3).trans x4
  refine (c22 (hs.ext x04) (NF.nil _) hl (by simp) hb ha (by simp)).mono fun e w5 ⟨b25, he, hb25, x5⟩ => ⟨b25, he, ?_⟩
  have hb25 : b25 = true ↔ ValidP (l.map DR.p) [] := hb25
  have x05 := x04.trans x5
  have hTn := hT.len
  have hNn := hN.len
  have hc1 : ValidP (L.map DR.p) [] ↔ ValidP (l.map DR.p) [] := by rw [hLp]; exact conv_valid0
  have hc2 : ValidP (L2.map DR.p) [] ↔ ValidP (l.map DR.p) [] := by rw [hLp2]; exact conv_valid0
  rw [hc1] at hcase
  rw [hc2] at hcase2
  refine cond_intro (fun g => ?_) (fun g => ?_)
  · have g : b25 = false := by simpa using g
    have hnv : ¬ ValidP (l.map DR.p) [] := fun h => by have := hb25.2 h; rw [g] at this; cases this
    rcases hcase with ⟨_, rfl, rfl⟩ | ⟨h, _⟩ | ⟨h, _⟩
    rotate_left
    · exact absurd h hnv
    · exact absurd h hnv
    rcases hcase2 with ⟨_, rfl, rfl⟩ | ⟨⟨h, _⟩, _⟩
    rotate_left
    · exact absurd h hnv
    refine Join.dir (cond_intro (fun _ => cond_intro (fun _ => cond_intro (fun _ => (c20 w5).mono fun e w7 ⟨he, x7⟩ => ⟨_, he, rfl, x05.trans x7⟩) (fun h => by simp at h)) (fun h => by simp at h)) (fun h => ?_))
    simp only [List.length_nil] at hTn hNn
    rw [hTn, hNn] at h
    exact absurd h (by decide)
  have g : b25 = true := by simpa using g
  have hv := hb25.1 g
  have hR : RelOk (l.map DR.p) := RuleP.rel hv.ru
  have hl10 : l.length ≤ 10 := by have := hv.nl; simpa using this
  have hru : ∀ r ∈ l, RuleP r.p := fun r hr => hv.ru _ (List.mem_map.2 ⟨r, hr, rfl⟩)
  have eL : L.map DR.p = l.map DR.p := by rw [hLp]; exact (conv_id hv).1
  have eL2 : L2.map DR.p = l.map DR.p := by rw [hLp2]; exact (conv_id hv).1
  rw [eL] at hcase
  rw [eL2] at hcase2
  have hb3 : ∀ r ∈ l, r.body.length ≤ 3 := fun r hr => (hru r hr).small.1
  refine (c38 (hs.ext x05) hl10 hb3 hR).mono fun e w8 ⟨s46, x46, T', he, hT', hTl', hcase3, x8⟩ => ⟨s46, x46, he, ?_⟩
  have x08 := x05.trans x8
  have heq : T = T' ∧ x14 = x46 := by
    rcases hcase with ⟨h, _⟩ | ⟨_, hno, rfl, rfl⟩ | ⟨_, hT1, rfl⟩
    · exact absurd hv h
    · rcases hcase3 with ⟨h, _⟩ | ⟨_, rfl, rfl⟩
      · exact absurd ⟨_, h⟩ hno
      · exact ⟨rfl, rfl⟩
    · rcases hcase3 with ⟨h, rfl⟩ | ⟨h, _⟩
      · exact ⟨hT1.uniq h, rfl⟩
      · exact absurd ⟨_, hT1⟩ h
  refine ⟨fun (b57 : Bool) w9 => b57 = false ∧ Ext w8 w9, ?_, ?_⟩
  rotate_left
  · refine (c32 (hT.ext (((x3.trans x4).trans x5).trans x8)) hT' (by show T.length ≤ 9223372036854775807; omega)).mono fun e w18 ⟨he, x18⟩ => ⟨_, he, ?_⟩
    refine cond_intro (fun h => by simp [heq.1] at h) (fun _ => ⟨by simp [heq.2], x18⟩)
  rintro b57 w9 ⟨rfl, x9⟩
  have x09 := x08.trans x9
  refine cond_intro (fun h => by cases h) (fun _ => ?_)
  refine ⟨fun (b63 : Bool) w10 => (b63 = false ↔ (0 ≤ rel ∧ rel ≤ 5)) ∧ w10 = w9, ?_, ?_⟩
  rotate_left
  · refine cond_intro (fun g2 => ?_) (fun g2 => ?_)
    · have g2 : rel < 0 := by simpa using g2
      exact ⟨⟨(fun h => by cases h), fun h => by omega⟩, rfl⟩
    · have g2 : ¬ rel < 0 := by simpa using g2
      refine ⟨?_, rfl⟩
      rw [decide_eq_false_iff_not]
      exact ⟨fun h => ⟨by omega, by omega⟩, fun h => by omega⟩
  rintro b63 w10 ⟨hb63, rfl⟩
  refine cond_intro (fun g2 => ?_) (fun g2 => ?_)
  · subst g2
    rcases hcase2 with ⟨_, rfl, rfl⟩ | ⟨⟨_, h⟩, _⟩
    rotate_left
    · have := hb63.2 h; cases this
    refine Join.dir (cond_intro (fun _ => cond_intro (fun _ => (c20 w10).mono fun e w12 ⟨he, x12⟩ => ⟨_, he, rfl, x09.trans x12⟩) (fun h => by simp at h)) (fun h => ?_))
    simp only [List.length_nil] at hNn
    rw [hNn] at h
    exact absurd h (by decide)
  obtain ⟨h0, h5⟩ := hb63.1 g2
  rcases hcase2 with ⟨h, _⟩ | ⟨_, rfl, m, hm, hNp⟩
  · exact absurd ⟨hv, h0, h5⟩ h
  have hNin : ∀ r ∈ N, RuleP r.p := fun r hr => by
    have : r.p ∈ ndR (l.map DR.p) m := by rw [← hNp]; exact List.mem_map.2 ⟨r, hr, rfl⟩
    exact hv.ru _ (ndR_sub _ this)
  have hNl : N.length ≤ 10 := by
    have h1 := congrArg List.length hNp
    have h2 := ndR_len (l.map DR.p) m
    simp only [List.length_map] at h1 h2; omega
  refine Join.dir ((c40 (hN.ext ((x5.trans x8).trans x9)) (by omega) (fun r hr => by have := (hNin r hr).small.1; omega)).mono fun e w14 ⟨s75, O, he, hO, hOp, x14⟩ => ⟨s75, he, ?_⟩)
  refine (c41 (rel := rel) (hs.ext (x09.trans x14)) hl10 hb3 hR h0 h5).mono fun e w15 ⟨s78, P, m', he, hP, hm', hPp, _, x15⟩ => ⟨s78, he, ?_⟩
  have hOin : ∀ r ∈ O, RuleP r.p := fun r hr => by
    have : r.p ∈ N.map DR.p := by rw [← hOp]; exact List.mem_map.2 ⟨r, hr, rfl⟩
    obtain ⟨q, hq, e⟩ := List.mem_map.1 this
    rw [← e]; exact hNin q hq
  have hOl : O.length ≤ 10 := by have := congrArg List.length hOp; simp at this; omega
  have hOP : O.map DR.p = P.map DR.p := by rw [hOp, hNp, hPp, hm.uniq hm']
  refine (c39 (hO.ext x15) hP (by show O.length ≤ 9223372036854775807; omega) (fun r hr => by have := (hOin r hr).small.1; show r.body.length ≤ 9223372036854775807; omega) (fun r hr a ha => by have := (hOin r hr).small.2 a ha; show a.args.length ≤ 9223372036854775807; omega)).mono fun e w16 ⟨he, x16⟩ => ⟨_, he, ?_⟩
  refine cond_intro (fun _ => cond_intro (fun _ => ?_) (fun h => by simp at h)) (fun h => by simp [hOP] at h)
  exact (c20 w16).mono fun e w17 ⟨he, x17⟩ => ⟨_, he, rfl, (((x09.trans x14).trans x15).trans x16).trans x17⟩
end Go.Proofs.Ytoljknamnkkgcaa
