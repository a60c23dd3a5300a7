/-
  Contract: strata, the walk.
-/
import Derived.Test.YtoljknamnkkgcaaCl
namespace Go.Proofs.Ytoljknamnkkgcaa
open Go Go.VC
set_option maxHeartbeats 1000000
set_option maxRecDepth 100000

theorem make6 (w : World) : (Instr.makeSlice 34 (.int .i64 6) (.int .i64 6)).run Try.prog w = .ok (.slice (some ⟨w.heap.size, 0, none⟩) 6 6) (w.alloc (.cells (vI zero6).toArray 3)) := by
  obtain ⟨i, z, hi, hz, hsz, hby, hzs⟩ := E34.info
  have hz0 : (Try.prog.info? 3).map (fun i => i.zero) = some (some (.int .i64 0)) := by kernel_rfl
  rw [hi] at hz0
  simp only [Option.map_some, Option.some.injEq] at hz0
  rw [hz0] at hz
  have hz : z = .int .i64 0 := (Option.some.inj hz).symm
  subst hz
  have := Go.run_makeSlice (P := Try.prog) w 34 3 i (.int .i64 0) E34.under hi hz0 .i64 .i64 6 6 (by decide) (by decide) (by rw [hsz]; decide) (by rw [hby]; decide) (by decide)
  rw [this, hsz]
  have e : madeCells (Value.int IntKind.i64 0).cells (Int.toNat 6 * 1) = (vI zero6).toArray := by
    apply Array.ext'
    simp [madeCells, zero6, vI, Value.cells, List.range_succ]
  rw [e]; rfl
theorem own6 (w : World) : Own 3 1 eI w.heap.size (w.alloc (.cells (vI zero6).toArray 3)) ⟨some ⟨w.heap.size, 0, none⟩, 6, 6⟩ zero6 :=
  ⟨rfl, by simp [zero6, eI], .inr ⟨w.heap.size, 6, (vI zero6).toArray, rfl, Nat.le_refl _, by show (w.heap.push _)[w.heap.size]? = _; simp, Nat.le_refl _, by simp [maxLen], rfl, rfl⟩⟩
theorem ownAt {B : Nat} {w : World} {s : Sl} {l : List Int} (h : Own 3 1 eI B w s l) (hl : l.length = 6) {x : Int} (h0 : 0 ≤ x) (h1 : x ≤ 5) : ∃ p : Pt, s.a = some ⟨p.b, p.o, none⟩ ∧ 0 ≤ x ∧ x < ((s.n : Nat) : Int) ∧ w.cell? ⟨p.b, p.o + Int.toNat x * 1, none⟩ = some (.int .i64 (lv l x)) := by
  obtain ⟨n, rfl⟩ : ∃ n : Nat, x = n := ⟨x.toNat, by omega⟩
  obtain ⟨p, hp, a1, a2, hr⟩ := Ints.at h.sli (i := n) (by omega)
  refine ⟨p, hp, a1, a2, ?_⟩
  rw [hr]
  simp [lv, List.getD, show n < l.length by omega]
theorem ownSet {B : Nat} {w : World} {s : Sl} {l : List Int} (h : Own 3 1 eI B w s l) (hl : l.length = 6) {x : Int} (h0 : 0 ≤ x) (h1 : x ≤ 5) (v : Int) : ∃ p : Pt, s.a = some ⟨p.b, p.o, none⟩ ∧ 0 ≤ x ∧ x < ((s.n : Nat) : Int) ∧ StoreOk w p.b (p.o + Int.toNat x * 1) [.int .i64 v] 1 ∧
    Own 3 1 eI B (put w p.b (p.o + Int.toNat x * 1) [.int .i64 v]) s (l.set x.toNat v) ∧ Fr (BlS s) w (put w p.b (p.o + Int.toNat x * 1) [.int .i64 v]) := by
  obtain ⟨n, rfl⟩ : ∃ n : Nat, x = n := ⟨x.toNat, by omega⟩
  obtain ⟨p, hp, a1, a2, st, ho, hf⟩ := h.store (i := n) (by omega) v
  exact ⟨p, hp, a1, a2, st, by simpa using ho, hf⟩
theorem lv_le {s : List Int} {B : Int} (hB : 0 ≤ B) (h : ∀ x ∈ s, x ≤ B) (r : Int) : lv s r ≤ B := by
  unfold lv
  by_cases e : r.toNat < s.length
  · simp only [List.getD, List.getElem?_eq_getElem e, Option.getD_some]; exact h _ (List.getElem_mem e)
  · simp [List.getD, List.getElem?_eq_none (show s.length ≤ r.toNat by omega)]; exact hB
theorem stepB_bd {h : Int} {s : List Int} {b : Li} {B : Int} (hB : 0 ≤ B) (hs : ∀ x ∈ s, 0 ≤ x ∧ x ≤ B) : ∀ x ∈ stepB h s b, 0 ≤ x ∧ x ≤ B + 1 := fun x hx => by
  unfold stepB at hx
  have h3 := nI_nonneg b
  split at hx
  · rcases List.mem_or_eq_of_mem_set hx with hx | rfl
    · have := hs x hx; omega
    · have h1 := lv_le hB (fun x hx => (hs x hx).2) b.a.rel
      have h2 := lv_nn (fun x hx => (hs x hx).1) b.a.rel
      omega
  · have := hs x hx; omega
/-- What a part of a round leaves, and the flag. -/
def Ch (s t : List Int) (b : Bool) : Prop := (b = false ∧ t = s) ∨ (b = true ∧ sm s < sm t)
theorem c84 {w : World} {s : Sl} {l : List DR} (hs : NR w s l) (hl : l.length ≤ 100) (hb3 : ∀ r ∈ l, r.body.length ≤ 3) (hR : RelOk (l.map DR.p)) :
    Calls Try.prog 84 [.slice s.a s.n s.c].toArray w fun e w' => ∃ (s' : Sl) (ok : Bool), e = .returned (.tuple [.slice s'.a s'.n s'.c, .bool ok].toArray) ∧ (ok = true → ∃ t, Ints w' s' t ∧ IsStr (l.map DR.p) t) ∧ (ok = false → s' = ⟨none, 0, 0⟩ ∧ ∀ f, Sol (l.map DR.p) f → ∃ x, 0 ≤ x ∧ x ≤ 5 ∧ 6 < f x) ∧ Ext w w' := by
  refine (call84 s (R := fun v w' => ∃ (s' : Sl) (ok : Bool), v = (.tuple [.slice s'.a s'.n s'.c, .bool ok].toArray) ∧ (ok = true → ∃ t, Ints w' s' t ∧ IsStr (l.map DR.p) t) ∧ (ok = false → s' = ⟨none, 0, 0⟩ ∧ ∀ f, Sol (l.map DR.p) f → ∃ x, 0 ≤ x ∧ x ≤ 5 ∧ 6 < f x) ∧ Ext w w') ?_).mono fun e w' ⟨v, he, s', ok, hv, hx⟩ => ⟨s', ok, by rw [he, hv], hx⟩
  have hsn := hs.len
  generalize hL : l.map DR.p = L at hR ⊢
  have hLl : L.length = l.length := by rw [← hL]; simp
  have x1 := Ext.alloc w (.cells (vI zero6).toArray 3)
  have ho1 := own6 w
  refine ⟨⟨some ⟨w.heap.size, 0, none⟩, 6, 6⟩, _, make6 w, ?_⟩
  generalize w.alloc (.cells (vI zero6).toArray 3) = w1 at x1 ho1
  generalize hs12 : (⟨some ⟨w.heap.size, 0, none⟩, 6, 6⟩ : Sl) = s12 at ho1
  have hbl : ∀ y, BlS s12 y → y = w.heap.size := fun y ⟨a, ha, e⟩ => by rw [← hs12] at ha; cases ha; exact e.symm
  refine Join.dir (LoopV.intro (fun n (x5 : Int) w3 => ∃ s0 : List Int, Own 3 1 eI w.heap.size w3 s12 s0 ∧ s0.length = 6 ∧ (∀ x ∈ s0, 0 ≤ x ∧ x ≤ 6) ∧ Under L s0 ∧ (n : Int) = 36 - sm s0 ∧ Ext w w3) 36
    ⟨zero6, ho1, rfl, by simp [zero6], fun f hf x h0 h1 => ?_, by simp [sm, zero6, lv], x1⟩ ?_)
  · have := hf.1 x
    have e : lv zero6 x = 0 := by rcases rel6 h0 h1 with rfl | rfl | rfl | rfl | rfl | rfl <;> rfl
    rw [e]; exact this
  rintro n x5 w3 ⟨s0, ho3, hl0, hb0, hu0, hn, x3⟩
  have hl6 : (l.length : Int) ≤ 100 := by omega
  refine Join.dir ⟨fun (b6 : Bool) w5 => Own 3 1 eI w.heap.size w5 s12 (pass L s0) ∧ Ch s0 (pass L s0) b6 ∧ (∀ x ∈ pass L s0, 0 ≤ x) ∧ Ext w w5, ?_, ?_⟩
  · rintro b6 w5 ⟨ho5, hch, hnn, x5'⟩
    have hup := pass_up hR hl0
    have hund := pass_under hR hl0 hu0
    have hplen := hup.len
    refine cond_intro (fun g => ?_) (fun g => ?_)
    · have g : b6 = false := by simpa using g
      rcases hch with ⟨_, h⟩ | ⟨h, _⟩
      · refine ⟨s12, true, rfl, fun _ => ⟨s0, by rw [h] at ho5; exact ho5.sli, hl0, fun x hx => (hb0 x hx).1, pass_id hR hl0 h, hu0⟩, (fun h => by cases h), x5'⟩
      · rw [g] at h; cases h
    have g : b6 = true := by simpa using g
    rcases hch with ⟨h, _⟩ | ⟨_, hlt⟩
    · rw [g] at h; cases h
    refine (c106 ho5.sli (by rw [hplen]; decide) (by intro h; rw [h] at hplen; cases hplen)).mono fun e w6 ⟨m, he, hm, hw⟩ => ⟨m, he, ?_⟩
    subst hw
    refine cond_intro (fun g2 => ?_) (fun g2 => ?_)
    · have g2 : 6 < m := by simpa using g2
      refine ⟨⟨none, 0, 0⟩, false, rfl, (fun h => by cases h), fun _ => ⟨rfl, fun f hf => ?_⟩, x5'⟩
      refine Classical.byContradiction fun hno => ?_
      have : m ≤ 6 := (hm 6).2 fun x hx => by
        obtain ⟨i, hi, e⟩ := List.getElem_of_mem hx
        have h1 := hund f hf (i : Int) (by omega) (by omega)
        have h2 : lv (pass L s0) (i : Int) = x := by unfold lv; simp [List.getD, hi, e]
        rw [h2] at h1
        refine Int.not_lt.1 fun h6 => hno ⟨(i : Int), by omega, by omega, by omega⟩
      omega
    · have g2 : m ≤ 6 := by simp at g2; omega
      have hb6 := (hm 6).1 g2
      have hs6 : sm (pass L s0) ≤ 36 := by
        have h := fun r => lv_le (B := 6) (by omega) hb6 r
        unfold sm
        have := h 0; have := h 1; have := h 2; have := h 3; have := h 4; have := h 5
        omega
      exact ⟨(36 - sm (pass L s0)).toNat, by omega, pass L s0, ho5, hplen, fun x hx => ⟨hnn x hx, hb6 x hx⟩, hund, by omega, x5'⟩
  -- one round
  refine rangeKI (k := .bool) (fun i (b6 : Bool) w7 => Own 3 1 eI w.heap.size w7 s12 (pass (L.take i) s0) ∧ Ch s0 (pass (L.take i) s0) b6 ∧ (∀ x ∈ pass (L.take i) s0, 0 ≤ x ∧ x ≤ 7 + 3 * i) ∧ Ext w w7) (by rw [hsn]; show l.length ≤ 9223372036854775807; omega) ⟨ho3, .inl ⟨rfl, rfl⟩, fun x hx => by have := hb0 x hx; omega, x3⟩ ?_ ?_
  rotate_left
  · rintro b6 w7 ⟨h1, h2, h3, h4⟩
    rw [hsn, ← hLl, List.take_length] at h1 h2 h3
    exact ⟨h1, h2, fun x hx => (h3 x hx).1, h4⟩
  rintro i hi b6 w7 ⟨ho7, hch7, hbd7, x7⟩ K hK
  have hi : i < l.length := by omega
  have hiL : i < L.length := by omega
  refine loadR (hs.ext x7) hi fun w10 b10 x10 => ⟨_, b10.cell 2, ?_⟩
  have hLi : L[i] = (l[i]).p := by subst hL; simp
  have hr := List.getElem_mem hi
  have hb3r := hb3 _ hr
  have hro0 := hs.ok _ hr
  generalize l[i] = r at b10 hLi hb3r hro0
  have hRr : ∀ a ∈ r.p.atoms, 0 ≤ a.rel ∧ a.rel ≤ 5 := by rw [← hLi]; exact hR _ (List.getElem_mem hiL)
  have hh := hRr r.p.head (by simp [Ru.atoms])
  have hst : pass (L.take (i + 1)) s0 = passR (pass (L.take i) s0) r.p := by
    unfold pass
    rw [List.take_succ_eq_append_getElem hiL, List.foldl_append, hLi]; rfl
  have hupi : Up s0 (pass (L.take i) s0) := pass_up (fun r' hr' => hR r' (List.mem_of_mem_take hr')) hl0
  generalize pass (L.take i) s0 = t0 at ho7 hch7 hbd7 hst hupi
  have ht0 := hupi.len
  have hrbn := hro0.bd.len
  have hbody : r.p.body.length = r.body.length := by simp [DR.p]
  have lq : w.heap.size < w7.heap.size := by
    have := (ho7.base (a := ⟨w.heap.size, 0, none⟩) (by rw [← hs12])).2; exact this
  refine Join.dir (rangeKI (k := .bool) (fun j (b6 : Bool) w12 => Own 3 1 eI w.heap.size w12 s12 ((r.p.body.take j).foldl (stepB r.p.head.rel) t0) ∧ Ch s0 ((r.p.body.take j).foldl (stepB r.p.head.rel) t0) b6 ∧ (∀ x ∈ (r.p.body.take j).foldl (stepB r.p.head.rel) t0, 0 ≤ x ∧ x ≤ 7 + 3 * i + j) ∧ Fr (BlS s12) w10 w12) (by rw [hrbn]; show r.body.length ≤ 9223372036854775807; omega) ⟨ho7.ext x10, hch7, fun x hx => by have := hbd7 x hx; omega, Fr.refl _ _⟩ ?_ ?_)
  rotate_left
  · rintro b6 w12 ⟨h1, h2, h3, h4⟩
    rw [hrbn, ← hbody, List.take_length] at h1 h2 h3
    refine hK _ _ ⟨?_, ?_, ?_, (x7.trans x10).newer h4 fun y hy => by rw [hbl y hy]; omega⟩
    · rw [hst]; exact h1
    · rw [hst]; exact h2
    · rw [hst]
      intro x hx
      have := h3 x hx
      omega
  rintro j hj b6 w12 ⟨ho12, hch12, hbd12, f12⟩ K2 hK2
  have hj : j < r.body.length := by omega
  have x012 : Ext w w12 := (x7.trans x10).newer f12 fun y hy => by rw [hbl y hy]; omega
  have hro12 : RulOk w12 r := hro0.ext x012
  refine loadL hro12.bd hj fun w15 b15 x15 => ⟨_, b15.cell 1, ?_⟩
  have hbp : r.p.body[j]'(by omega) = (r.body[j]).p := by simp [DR.p]
  have hrel := hRr (r.body[j]).p.a (by simp [Ru.atoms, DR.p]; exact .inr ⟨_, List.getElem_mem hj, rfl⟩)
  generalize hxj : r.body[j] = x at b15 hbp hrel
  have hupj : Up t0 ((r.p.body.take j).foldl (stepB r.p.head.rel) t0) := Up.fold hh.1 hh.2 ht0
  have hst2 : (r.p.body.take (j + 1)).foldl (stepB r.p.head.rel) t0 = stepB r.p.head.rel ((r.p.body.take j).foldl (stepB r.p.head.rel) t0) x.p := by
    rw [List.take_succ_eq_append_getElem (by omega), List.foldl_append, hbp]; rfl
  generalize (r.p.body.take j).foldl (stepB r.p.head.rel) t0 = t at ho12 hch12 hbd12 hupj hst2
  have htl := hupj.len
  have ho15 := ho12.ext x15
  obtain ⟨p32, hp32, a1, a2, hr32⟩ := ownAt ho15 htl hrel.1 hrel.2
  refine ⟨p32, hp32, a1, a2, _, hr32, _, b15.cell 0, ?_⟩
  have hbdx := lv_le (s := t) (B := 7 + 3 * i + j) (by omega) (fun x hx => (hbd12 x hx).2) x.p.a.rel
  have hnnx := lv_nn (fun x hx => (hbd12 x hx).1) x.p.a.rel
  have b10' := (b10.fr f12 fun hy => by have := hbl _ hy; omega).ext x15
  refine ⟨fun (x11 : Int) w16 => x11 = lv t x.p.a.rel + nI x.p ∧ w16 = w15, ?_, ?_⟩
  rotate_left
  · refine cond_intro (fun g => ⟨?_, rfl⟩) (fun g => ⟨?_, rfl⟩)
    · have : nI x.p = 1 := by unfold nI; rw [if_pos (by exact g)]
      rw [this]
      have hx' : lv t x.a.rel = lv t x.p.a.rel := rfl
      rw [← hx'] at hbdx hnnx ⊢
      rw [wrap64 (by omega) (by omega)]
    · have : nI x.p = 0 := by unfold nI; rw [if_neg (by show ¬ x.neg = true; rw [g]; simp)]
      rw [this]
      show lv t x.a.rel = lv t x.p.a.rel + 0
      have hx' : lv t x.a.rel = lv t x.p.a.rel := rfl
      omega
  rintro x11 w16 ⟨rfl, rfl⟩
  obtain ⟨p43, hp43, c1, c2, hr43⟩ := ownAt ho15 htl hh.1 hh.2
  refine ⟨_, b10'.cell 0, p43, hp43, c1, c2, _, hr43, Join.dir ?_⟩
  have hnext : ∀ (b : Bool) (w17 : World), Own 3 1 eI w.heap.size w17 s12 (stepB r.p.head.rel t x.p) → Ch s0 (stepB r.p.head.rel t x.p) b → Fr (BlS s12) w10 w17 → K2 b w17 := fun b w17 h1 h2 h3 => hK2 b w17 ⟨by rw [hst2]; exact h1, by rw [hst2]; exact h2, by
    rw [hst2]
    intro y hy
    have := stepB_bd (B := 7 + 3 * i + j) (by omega) hbd12 y hy
    omega, h3⟩
  refine cond_intro (fun g => ?_) (fun g => ?_)
  · have g : lv t r.p.head.rel < lv t x.p.a.rel + nI x.p := by simpa using g
    obtain ⟨p51, hp51, d1, d2, st, ho18, f18⟩ := ownSet ho15 htl hh.1 hh.2 (lv t x.p.a.rel + nI x.p)
    refine ⟨_, b10'.cell 0, p51, hp51, d1, d2, st, Let.intro fun w18 e18 => ?_⟩
    have e18 : w18 = put w16 p51.b (p51.o + Int.toNat r.p.head.rel * 1) [.int .i64 (lv t x.p.a.rel + nI x.p)] := e18
    rw [← e18] at ho18 f18
    refine hnext true w18 ?_ (.inr ⟨rfl, ?_⟩) ((f12.ext x15).trans f18 fun _ _ h => h)
    · unfold stepB; rw [if_pos g]; exact ho18
    · have h1 : sm t < sm (stepB r.p.head.rel t x.p) := by
        rcases stepB_sm (b := x.p) htl hh.1 hh.2 with h | h
        · omega
        · exact h.1
      rcases hch12 with ⟨_, h⟩ | ⟨_, h⟩
      · rw [h] at h1 ⊢; exact h1
      · omega
  · have g : ¬ lv t r.p.head.rel < lv t x.p.a.rel + nI x.p := by simpa using g
    have e : stepB r.p.head.rel t x.p = t := by unfold stepB; rw [if_neg g]
    exact hnext b6 w16 (by rw [e]; exact ho15) (by rw [e]; exact hch12) (f12.ext x15)
end Go.Proofs.Ytoljknamnkkgcaa
