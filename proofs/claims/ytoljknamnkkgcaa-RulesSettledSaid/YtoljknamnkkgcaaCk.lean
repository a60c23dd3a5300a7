/-
  Contract: are rules and facts valid?
-/
import Derived.Test.YtoljknamnkkgcaaCj
namespace Go.Proofs.Ytoljknamnkkgcaa
open Go Go.VC
set_option maxHeartbeats 1000000
set_option maxRecDepth 100000

/-- An atom of rules. -/
def FitsF (a : Fa) : Prop := 0 ≤ a.rel ∧ a.rel ≤ 5 ∧ 1 ≤ a.args.length ∧ a.args.length ≤ 2 ∧ ∀ x ∈ a.args, -6 ≤ x ∧ x ≤ 7
instance (f : Fa) : Decidable (FitsF f) := by unfold FitsF; infer_instance
/-- A Rel has as many Args wherever it occurs. -/
def Consist (l : List Fa) : Prop := ∀ x ∈ l, ∀ y ∈ l, x.rel = y.rel → x.args.length = y.args.length
def RuleP (r : Ru) : Prop := r.body.length ≤ 3 ∧ SafeP r ∧ ∀ a ∈ r.atoms, FitsF a
structure ValidP (l : List Ru) (fs : List Fa) : Prop where
  nl : l.length ≤ 10
  nf : fs.length ≤ 20
  gr : ∀ f ∈ fs, GroundF f
  ru : ∀ r ∈ l, RuleP r
  co : Consist (fs ++ l.flatMap Ru.atoms)
/-- The numbers of Args of what was seen. -/
structure ArOk (ar : List Int) (dn : List Fa) : Prop where
  len : ar.length = 6
  rg : ∀ f ∈ dn, 0 ≤ f.rel ∧ f.rel < 6 ∧ 1 ≤ f.args.length
  hit : ∀ f ∈ dn, ar.getD f.rel.toNat 0 = f.args.length
  mis : ∀ r : Int, 0 ≤ r → r < 6 → (∀ f ∈ dn, f.rel ≠ r) → ar.getD r.toNat 0 = 0
theorem ArOk.nil : ArOk [0, 0, 0, 0, 0, 0] [] := ⟨rfl, by simp, by simp, fun r h1 h2 _ => by
  have : r.toNat < 6 := by omega
  rcases h : r.toNat with _ | _ | _ | _ | _ | _ | n <;> simp⟩
theorem ArOk.step {ar : List Int} {dn : List Fa} (h : ArOk ar dn) (f : Fa) (hf : okA ar f.rel f.args.length) : ArOk (ar.set f.rel.toNat f.args.length) (dn ++ [f]) := by
  obtain ⟨h1, h2, h3, h4, h5⟩ := hf
  have hl := h.len
  have hget : ∀ r : Int, 0 ≤ r → r < 6 → (ar.set f.rel.toNat f.args.length).getD r.toNat 0 = if r = f.rel then (f.args.length : Int) else ar.getD r.toNat 0 := fun r g1 g2 => by
    by_cases e : r = f.rel
    · subst e
      have : f.rel.toNat < ar.length := by omega
      simp [List.getD, List.getElem?_set, this]
    · rw [if_neg e]
      have : f.rel.toNat ≠ r.toNat := by omega
      simp [List.getD, List.getElem?_set, this]
  refine ⟨by simp [hl], fun g hg => ?_, fun g hg => ?_, fun r g1 g2 hr => ?_⟩
  · rcases List.mem_append.1 hg with hg | hg
    · exact h.rg g hg
    · simp only [List.mem_singleton] at hg; subst hg; exact ⟨h1, h2, by omega⟩
  · rcases List.mem_append.1 hg with hg | hg
    · obtain ⟨r1, r2, r3⟩ := h.rg g hg
      rw [hget g.rel r1 r2]
      have := h.hit g hg
      by_cases e : g.rel = f.rel
      · rw [if_pos e]
        rw [e] at this
        rcases h5 with h5 | h5 <;> omega
      · rw [if_neg e]; exact this
    · simp only [List.mem_singleton] at hg; subst hg
      rw [hget _ h1 h2, if_pos rfl]
  · rw [hget r g1 g2, if_neg fun e => hr f (by simp) e.symm]
    exact h.mis r g1 g2 fun g hg => hr g (List.mem_append_left _ hg)
/-- What was seen agrees. -/
theorem ArOk.cons {ar : List Int} {dn : List Fa} (h : ArOk ar dn) : Consist dn := fun x hx y hy e => by
  have h1 := h.hit x hx
  have h2 := h.hit y hy
  rw [e] at h1
  omega
/-- What is refused does not agree. -/
theorem ArOk.no {ar : List Int} {dn : List Fa} (h : ArOk ar dn) (f : Fa) (hf : ¬ okA ar f.rel f.args.length) (h1 : 0 ≤ f.rel) (h2 : f.rel ≤ 5) (h3 : 1 ≤ f.args.length) (h4 : f.args.length ≤ 2) (hc : ∀ g ∈ dn, g.rel = f.rel → g.args.length = f.args.length) : False := by
  apply hf
  refine ⟨h1, by omega, by omega, by omega, ?_⟩
  by_cases he : ∃ g ∈ dn, g.rel = f.rel
  · obtain ⟨g, hg, e⟩ := he
    have := h.hit g hg
    rw [e, hc g hg e] at this
    exact .inr this
  · exact .inl (h.mis f.rel h1 (by omega) fun g hg e => he ⟨g, hg, e⟩)
def SzR (r : DR) : Prop := r.body.length ≤ 1000 ∧ ∀ x ∈ r.atoms, x.args.length ≤ 1000
theorem c55 {w : World} {s s' : Sl} {l : List DR} {fs : List DF} (hs : NR w s l) (hf : NF w s' fs) (hl : l.length ≤ 1000000) (hfl : fs.length ≤ 1000000) (hz : ∀ r ∈ l, SzR r) (hzf : ∀ f ∈ fs, f.args.length ≤ 1000) :
    Calls Try.prog 55 [.slice s.a s.n s.c, .slice s'.a s'.n s'.c].toArray w fun e w' => ∃ b : Bool, e = .returned (.bool b) ∧ (b = true ↔ ValidP (l.map DR.p) (fs.map DF.p)) ∧ Ext w w' := by
  refine (call55 s s' (R := fun v w' => ∃ b : Bool, v = .bool b ∧ (b = true ↔ ValidP (l.map DR.p) (fs.map DF.p)) ∧ Ext w w') ?_).mono fun e w' ⟨v, he, b, hv, hx⟩ => ⟨b, by rw [he, hv], hx⟩
  have hn := hs.len
  have hfn := hf.len
  have no : ∀ {w' : World}, Ext w w' → ¬ ValidP (l.map DR.p) (fs.map DF.p) → ∃ b : Bool, Value.bool false = .bool b ∧ (b = true ↔ ValidP (l.map DR.p) (fs.map DF.p)) ∧ Ext w w' := fun hx hv => ⟨false, rfl, by simp [hv], hx⟩
  obtain ⟨b1, x1⟩ := zc167b w
  refine Let.intro fun w1 e1 => ?_
  rw [← e1] at b1 x1
  have lA := b1.lt
  refine ⟨fun (b19 : Bool) w2 => (b19 = true ↔ l.length > 10 ∨ fs.length > 20) ∧ w2 = w1, ?_, ?_⟩
  rotate_left
  · refine cond_intro (fun g => ⟨?_, rfl⟩) (fun g => ⟨?_, rfl⟩)
    · have g : l.length > 10 := by simp [hn] at g; omega
      simp [g]
    · have g : ¬ l.length > 10 := by simp [hn] at g; omega
      simp [g, hfn]; omega
  rintro b19 w2 ⟨hb19, rfl⟩
  refine cond_intro (fun g => ?_) (fun g => ?_)
  · refine no x1 fun hv => ?_
    have h1 := hv.nl
    have h2 := hv.nf
    simp at h1 h2
    rcases hb19.1 g with h | h <;> omega
  have hl10 : l.length ≤ 10 := Nat.le_of_not_lt fun h => by rw [hb19.2 (.inl h)] at g; cases g
  have hf20 : fs.length ≤ 20 := Nat.le_of_not_lt fun h => by rw [hb19.2 (.inr h)] at g; cases g
  -- the facts, then the rules
  refine ⟨fun w3 => ∃ ar, Blk w3 w.heap.size (vI ar) 167 ∧ ArOk ar (fs.map DF.p) ∧ (∀ f ∈ fs, GroundF f.p) ∧ Ext w w3, ?_, ?_⟩
  · rintro w3 ⟨ar, b3, har, hgr, x3⟩
    refine Join.dir (rangeI (fun i w5 => ∃ ar, Blk w5 w.heap.size (vI ar) 167 ∧ ArOk ar (fs.map DF.p ++ ((l.take i).map DR.p).flatMap Ru.atoms) ∧ (∀ r ∈ l.take i, RuleP r.p) ∧ Ext w w5) (by rw [hn]; show l.length ≤ 9223372036854775807; omega) ⟨ar, b3, by simpa using har, by simp, x3⟩ ?_ ?_)
    · rintro i hi w5 ⟨ar, b5, har, hru, x5⟩ K hK
      have hi : i < l.length := by omega
      have hr := List.getElem_mem hi
      have hrz := hz _ hr
      have hrp : (l[i]).p ∈ l.map DR.p := List.mem_map.2 ⟨_, hr, rfl⟩
      refine loadR (hs.ext x5) hi fun w8 b8 x8 => ?_
      have x58 := x5.trans x8
      have hro := (hs.ok _ hr).ext x58
      generalize hri : l[i] = r at b8 hr hrz hrp hro
      have b58 := b5.ext x8
      have lw5 := b5.lt
      refine ⟨fun (b53 : Bool) w9 => (b53 = true ↔ ¬ (r.body.length ≤ 3 ∧ SafeP r.p)) ∧ Ext w8 w9, ?_, ?_⟩
      rotate_left
      · refine ⟨_, b8.cell 2, cond_intro (fun g => ⟨?_, Fr.refl _ _⟩) (fun g => ?_)⟩
        · have g : ¬ r.body.length ≤ 3 := by simp [hro.bd.len] at g; omega
          simp [g]
        · have g : r.body.length ≤ 3 := by simp [hro.bd.len] at g; omega
          refine ⟨_, _, _, b8.rd, (c103 hro hrz.1 hrz.2).mono fun e w20 ⟨c, he, hc, x20⟩ => ⟨c, he, ?_, x20⟩⟩
          cases c <;> simp_all
      rintro b53 w9 ⟨hb53, x9⟩
      have x59 := x58.trans x9
      refine cond_intro (fun g => ?_) (fun g => ?_)
      · refine no x59 fun hv => ?_
        have := hv.ru _ hrp
        exact hb53.1 g ⟨by have := this.1; simpa [DR.p] using this, this.2.1⟩
      have hg : r.body.length ≤ 3 ∧ SafeP r.p := Classical.byContradiction fun h => by rw [hb53.2 h] at g; cases g
      refine ⟨_, _, _, (b8.ext x9).rd, (c104 (hro.ext x9) hrz.1).mono fun e w10 ⟨s55, he, ho55, x10⟩ => ⟨s55, he, ?_⟩⟩
      have x510 := x59.trans x10
      have b10 := (b58.ext x9).ext x10
      have h5n := ho55.sli.len
      have hal : r.atoms.length ≤ 1001 := by have := hrz.1; simp [DR.atoms]; omega
      have hzz := (x8.trans x9).size
      have hap : ∀ x ∈ r.atoms, x.p ∈ (r.p).atoms := fun x hx => by rw [← DR.atoms_p]; exact List.mem_map.2 ⟨x, hx, rfl⟩
      refine Join.dir (rangeI (fun j w12 => ∃ ar, Blk w12 w.heap.size (vI ar) 167 ∧ ArOk ar (fs.map DF.p ++ ((l.take i).map DR.p).flatMap Ru.atoms ++ (r.atoms.take j).map DF.p) ∧ (∀ a ∈ r.atoms.take j, FitsF a.p) ∧ Fr (fun y => y = w.heap.size) w10 w12) (by rw [h5n]; show r.atoms.length ≤ 9223372036854775807; omega) ⟨ar, b10, by simpa using har, by simp, Fr.refl _ _⟩ ?_ ?_)
      · rintro j hj w12 ⟨ar, b12, har, hfit, f12⟩ K2 hK2
        have hj : j < r.atoms.length := by omega
        have x12 : Ext w w12 := x510.newer f12 fun y (hy : y = w.heap.size) => by omega
        have hat12 : ∀ x ∈ r.atoms, Ints w12 x.sl x.args := by
          have := ((hs.ok _ (List.getElem_mem hi)).ext x12).atoms
          rw [hri] at this; exact this
        have h55 : NF w12 s55 r.atoms := ⟨(ho55.fr f12 fun a ha (e : a.block = w.heap.size) => by have := (ho55.base ha).1; omega).sli, hat12⟩
        refine loadF h55 hj (by kernel_rfl) fun w15 b15 x15 => ?_
        have hxm := List.getElem_mem hj
        have hint := (hat12 _ hxm).ext x15
        have hxz := hrz.2 _ hxm
        generalize hxj : r.atoms[j] = x at b15 hxm hint hxz
        have hxn := hint.len
        have b12' := b12.ext x15
        have x015 := x12.trans x15
        have hlt12 := b12.lt
        have hxa := hap x hxm
        -- what it means that the atom is refused
        have hbad : ¬ (okA ar x.rel ((x.sl.n : Nat) : Int) ∧ ∀ y ∈ x.args, -6 ≤ y ∧ y ≤ 7) → ¬ ValidP (l.map DR.p) (fs.map DF.p) := fun h hv => by
          have hfx : FitsF x.p := (hv.ru _ hrp).2.2 _ hxa
          refine h ⟨Classical.byContradiction fun hno => ?_, hfx.2.2.2.2⟩
          rw [hxn] at hno
          refine har.no x.p hno hfx.1 hfx.2.1 hfx.2.2.1 hfx.2.2.2.1 fun g hg e => ?_
          refine hv.co g ?_ x.p (List.mem_append_right _ (List.mem_flatMap.2 ⟨_, hrp, hxa⟩)) e
          rcases List.mem_append.1 hg with hg | hg
          · rcases List.mem_append.1 hg with hg | hg
            · exact List.mem_append_left _ hg
            · obtain ⟨r', hr', hgr⟩ := List.mem_flatMap.1 hg
              obtain ⟨r'', hr'', rfl⟩ := List.mem_map.1 hr'
              exact List.mem_append_right _ (List.mem_flatMap.2 ⟨_, List.mem_map.2 ⟨r'', List.mem_of_mem_take hr'', rfl⟩, hgr⟩)
          · obtain ⟨y, hy, rfl⟩ := List.mem_map.1 hg
            exact List.mem_append_right _ (List.mem_flatMap.2 ⟨_, hrp, hap y (List.mem_of_mem_take hy)⟩)
        refine ⟨fun (b79 : Bool) w16 => (b79 = true ↔ ¬ (okA ar x.rel ((x.sl.n : Nat) : Int) ∧ ∀ y ∈ x.args, -6 ≤ y ∧ y ≤ 7)) ∧ (okA ar x.rel ((x.sl.n : Nat) : Int) → Blk w16 w.heap.size (vI (ar.set x.rel.toNat x.args.length)) 167) ∧ Fr (fun y => y = w.heap.size) w15 w16, ?_, ?_⟩
        · rintro b79 w16 ⟨hb79, hset, f16⟩
          refine cond_intro (fun g => no (x015.newer f16 fun y (hy : y = w.heap.size) => by omega) (hbad (hb79.1 g))) (fun g => ?_)
          have hgood : okA ar x.rel ((x.sl.n : Nat) : Int) ∧ ∀ y ∈ x.args, -6 ≤ y ∧ y ≤ 7 := Classical.byContradiction fun h => by rw [hb79.2 h] at g; cases g
          have hok := hgood.1
          rw [hxn] at hok
          have htk : (r.atoms.take (j + 1)).map DF.p = (r.atoms.take j).map DF.p ++ [x.p] := by rw [List.take_succ_eq_append_getElem hj, List.map_append, hxj]; rfl
          refine hK2 _ ⟨_, hset hgood.1, ?_, fun a ha => ?_, (f12.ext x15).trans f16 fun _ _ h => h⟩
          · rw [htk, ← List.append_assoc]; exact har.step x.p hok
          · rw [List.take_succ_eq_append_getElem hj, List.mem_append, List.mem_singleton, hxj] at ha
            rcases ha with ha | rfl
            · exact hfit a ha
            · exact ⟨hok.1, by have := hok.2.1; show a.rel ≤ 5; omega, by have := hok.2.2.1; show 1 ≤ a.args.length; omega, by have := hok.2.2.2.1; show a.args.length ≤ 2; omega, hgood.2⟩
        · refine ⟨_, b15.cell 0, _, b15.cell 1, (c102 b12' har.len x.rel ((x.sl.n : Nat) : Int)).mono fun e w17 ⟨he, b17, f17⟩ => ⟨_, he, ?_⟩⟩
          have c15 := b15.fr f17 (by show ¬ w12.heap.size = w.heap.size; omega)
          have x017 : Ext w w17 := x015.newer f17 fun y (hy : y = w.heap.size) => by omega
          refine cond_intro (fun g => ?_) (fun g => ?_)
          · have g : ¬ okA ar x.rel ((x.sl.n : Nat) : Int) := by simpa using g
            exact ⟨by simp [g], fun h => absurd h g, f17⟩
          have g : okA ar x.rel ((x.sl.n : Nat) : Int) := by simpa using g
          rw [if_pos g] at b17
          have hset : Blk w17 w.heap.size (vI (ar.set x.rel.toNat x.args.length)) 167 := by rw [hxn] at b17; exact b17
          have hne : x.args ≠ [] := by intro h; have := g.2.2.1; rw [hxn, h] at this; simp at this
          have hint17 : Ints w17 x.sl x.args := by
            have := ((hs.ok _ (List.getElem_mem hi)).ext x017).atoms x (by rw [hri]; exact hxm)
            exact this
          refine ⟨_, c15.cell 1, (c105 hint17 (by show x.args.length ≤ 9223372036854775807; omega) hne).mono fun e w18 ⟨m, he, hm, hw⟩ => ⟨_, he, ?_⟩⟩
          subst hw
          refine cond_intro (fun g2 => ⟨?_, fun _ => hset, f17⟩) (fun g2 => ?_)
          · have g2 : m < -6 := by simpa using g2
            simp only [true_iff]
            rintro ⟨_, h⟩
            have := (hm (-6)).2 fun y hy => (h y hy).1
            omega
          have g2 : -6 ≤ m := by simpa using g2
          refine ⟨_, c15.cell 1, (c106 hint17 (by show x.args.length ≤ 9223372036854775807; omega) hne).mono fun e w19 ⟨m', he, hm', hw⟩ => ⟨_, he, ?_, fun _ => by rw [hw]; exact hset, by rw [hw]; exact f17⟩⟩
          simp only [decide_eq_true_eq]
          constructor
          · rintro h ⟨_, h2⟩
            have := (hm' 7).2 fun y hy => (h2 y hy).2
            omega
          · intro h
            refine Classical.byContradiction fun h3 => h ⟨g, fun y hy => ⟨(hm (-6)).1 g2 y hy, (hm' 7).1 (by omega) y hy⟩⟩
      · rintro w11 ⟨ar, b11, har, hfit, f11⟩
        rw [h5n, List.take_length] at har hfit
        refine hK _ ⟨ar, b11, ?_, fun r' hr' => ?_, x510.newer f11 fun y (hy : y = w.heap.size) => by omega⟩
        · rw [List.take_succ_eq_append_getElem hi, hri, List.map_append, List.flatMap_append]
          simpa [DR.atoms_p] using har
        · rw [List.take_succ_eq_append_getElem hi, List.mem_append, List.mem_singleton, hri] at hr'
          rcases hr' with hr' | rfl
          · exact hru r' hr'
          · refine ⟨by simpa [DR.p] using hg.1, hg.2, fun a ha => ?_⟩
            rw [← DR.atoms_p] at ha
            obtain ⟨x, hx, rfl⟩ := List.mem_map.1 ha
            exact hfit x hx
    · rintro w5 ⟨ar, b5, har, hru, x5⟩
      rw [hn, List.take_length] at har hru
      refine ⟨true, rfl, ?_, x5⟩
      simp only [true_iff]
      refine ⟨by simpa using hl10, by simpa using hf20, fun f hf => ?_, fun r hr => ?_, har.cons⟩
      · obtain ⟨x, hx, rfl⟩ := List.mem_map.1 hf; exact hgr x hx
      · obtain ⟨x, hx, rfl⟩ := List.mem_map.1 hr; exact hru x hx
  · refine rangeI (fun i w3 => ∃ ar, Blk w3 w.heap.size (vI ar) 167 ∧ ArOk ar ((fs.take i).map DF.p) ∧ (∀ f ∈ fs.take i, GroundF f.p) ∧ Ext w w3) (by rw [hfn]; show fs.length ≤ 9223372036854775807; omega) ⟨_, b1, ArOk.nil, by simp, x1⟩ ?_ ?_
    · rintro i hi w21 ⟨ar, b21, har, hgr, x21⟩ K hK
      have hi : i < fs.length := by omega
      have hfm := List.getElem_mem hi
      refine loadF (hf.ext x21) hi zc36 fun w24 b24 x24 => ?_
      have x024 := x21.trans x24
      have hint := (hf.ok _ hfm).ext x024
      have hzx := hzf _ hfm
      generalize hxi : fs[i] = x at b24 hfm hint hzx
      have hxn := hint.len
      have hxp : x.p ∈ fs.map DF.p := List.mem_map.2 ⟨x, hfm, rfl⟩
      have b21' := b21.ext x24
      have hlt := b21.lt
      refine ⟨fun (b37 : Bool) w25 => (b37 = true ↔ ¬ (GroundF x.p ∧ okA ar x.rel ((x.sl.n : Nat) : Int))) ∧ (b37 = false → Blk w25 w.heap.size (vI (ar.set x.rel.toNat x.args.length)) 167) ∧ Ext w w25, ?_, ?_⟩
      · rintro b37 w25 ⟨hb37, hset, x25⟩
        refine cond_intro (fun g => no x25 fun hv => ?_) (fun g => ?_)
        · refine hb37.1 g ⟨hv.gr _ hxp, Classical.byContradiction fun hno => ?_⟩
          have hgx : GroundF x.p := hv.gr _ hxp
          rw [hxn] at hno
          refine har.no x.p hno hgx.1 hgx.2.1 hgx.2.2.1 hgx.2.2.2.1 fun g hg e => ?_
          obtain ⟨y, hy, rfl⟩ := List.mem_map.1 hg
          exact hv.co _ (List.mem_append_left _ (List.mem_map.2 ⟨y, List.mem_of_mem_take hy, rfl⟩)) _ (List.mem_append_left _ hxp) e
        · have hgood : GroundF x.p ∧ okA ar x.rel ((x.sl.n : Nat) : Int) := Classical.byContradiction fun h => by rw [hb37.2 h] at g; cases g
          have hok := hgood.2
          rw [hxn] at hok
          refine hK _ ⟨_, hset g, ?_, fun f hf => ?_, x25⟩
          · rw [List.take_succ_eq_append_getElem hi, List.map_append, hxi]; exact har.step x.p hok
          · rw [List.take_succ_eq_append_getElem hi, List.mem_append, List.mem_singleton, hxi] at hf
            rcases hf with hf | rfl
            · exact hgr f hf
            · exact hgood.1
      · refine ⟨_, _, b24.rd, (c74 hint (by show x.args.length ≤ 9223372036854775807; omega)).mono fun e w26 ⟨he, x26⟩ => ⟨_, he, ?_⟩⟩
        have x026 := x024.trans x26
        refine cond_intro (fun g => ?_) (fun g => ?_)
        · have g : ¬ GroundF x.p := by simpa using g
          exact ⟨by simp [g], (fun h => by cases h), x026⟩
        have g : GroundF x.p := by simpa using g
        have b24' := b24.ext x26
        refine ⟨_, b24'.cell 0, _, b24'.cell 1, (c102 (b21'.ext x26) har.len x.rel ((x.sl.n : Nat) : Int)).mono fun e w27 ⟨he, b27, f27⟩ => ⟨_, he, ?_, fun h => ?_, x026.newer f27 fun y (hy : y = w.heap.size) => by omega⟩⟩
        · simp [g]
        · have h : okA ar x.rel ((x.sl.n : Nat) : Int) := by simpa using h
          rw [if_pos h, hxn] at b27
          exact b27
    · rintro w2 ⟨ar, b2, har, hgr, x2⟩
      rw [hfn, List.take_length] at har hgr
      exact ⟨ar, b2, har, hgr, x2⟩
end Go.Proofs.Ytoljknamnkkgcaa
