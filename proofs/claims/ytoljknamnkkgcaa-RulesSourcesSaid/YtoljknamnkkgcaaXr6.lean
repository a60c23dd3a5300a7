/-
  Texts Ck, Cl, Cm, Cn, Sd, Co, Cp, Da of this proof, joined.
-/
import Derived.Test.YtoljknamnkkgcaaXr5
import Derived.Laws.MakeOwn
import Derived.Test.YtoljknamnkkgcaaProg
import Derived.KernelRfl
/-
  Contract: are rules and facts valid?
-/
namespace Go.Proofs.Ytoljknamnkkgcaa
open Go Go.VC
set_option maxHeartbeats 1000000
set_option maxRecDepth 100000

/-- An atom of rules. -/
def FitsF (a : Fa) : Prop := 0 ≤ a.rel ∧ a.rel ≤ 5 ∧ 1 ≤ a.args.length ∧ a.args.length ≤ 2 ∧ ∀ x ∈ a.args, -6 ≤ x ∧ x ≤ 7
instance (f : Fa) : Decidable (FitsF f) := by unfold FitsF; infer_instance
/-- A Rel has as many Args wherever it occurs. -/
def Consist (l : List Fa) : Prop := ∀ x ∈ l, ∀ y ∈ l, x.rel = y.rel → x.args.length = y.args.length
def RuleP (r : Ru) : Prop := r.body.length ≤ 3 ∧ SafeP r ∧ ∀ a ∈ r.atoms, FitsF a
structure ValidP (l : List Ru) (fs : List Fa) : Prop where
  nl : l.length ≤ 10
  nf : fs.length ≤ 20
  gr : ∀ f ∈ fs, GroundF f
  ru : ∀ r ∈ l, RuleP r
  co : Consist (fs ++ l.flatMap Ru.atoms)
/-- The numbers of Args of what was seen. -/
structure ArOk (ar : List Int) (dn : List Fa) : Prop where
  len : ar.length = 6
  rg : ∀ f ∈ dn, 0 ≤ f.rel ∧ f.rel < 6 ∧ 1 ≤ f.args.length
  hit : ∀ f ∈ dn, ar.getD f.rel.toNat 0 = f.args.length
  mis : ∀ r : Int, 0 ≤ r → r < 6 → (∀ f ∈ dn, f.rel ≠ r) → ar.getD r.toNat 0 = 0
theorem ArOk.nil : ArOk [0, 0, 0, 0, 0, 0] [] := ⟨rfl, by simp, by simp, fun r h1 h2 _ => by
  have : r.toNat < 6 := by omega
  rcases h : r.toNat with _ | _ | _ | _ | _ | _ | n <;> simp⟩
theorem ArOk.step {ar : List Int} {dn : List Fa} (h : ArOk ar dn) (f : Fa) (hf : okA ar f.rel f.args.length) : ArOk (ar.set f.rel.toNat f.args.length) (dn ++ [f]) := by
  obtain ⟨h1, h2, h3, h4, h5⟩ := hf
  have hl := h.len
  have hget : ∀ r : Int, 0 ≤ r → r < 6 → (ar.set f.rel.toNat f.args.length).getD r.toNat 0 = if r = f.rel then (f.args.length : Int) else ar.getD r.toNat 0 := fun r g1 g2 => by
    by_cases e : r = f.rel
    · subst e
      have : f.rel.toNat < ar.length := by omega
      simp [List.getD, List.getElem?_set, this]
    · rw [if_neg e]
      have : f.rel.toNat ≠ r.toNat := by omega
      simp [List.getD, List.getElem?_set, this]
  refine ⟨by simp [hl], fun g hg => ?_, fun g hg => ?_, fun r g1 g2 hr => ?_⟩
  · rcases List.mem_append.1 hg with hg | hg
    · exact h.rg g hg
    · simp only [List.mem_singleton] at hg; subst hg; exact ⟨h1, h2, by omega⟩
  · rcases List.mem_append.1 hg with hg | hg
    · obtain ⟨r1, r2, r3⟩ := h.rg g hg
      rw [hget g.rel r1 r2]
      have := h.hit g hg
      by_cases e : g.rel = f.rel
      · rw [if_pos e]
        rw [e] at this
        rcases h5 with h5 | h5 <;> omega
      · rw [if_neg e]; exact this
    · simp only [List.mem_singleton] at hg; subst hg
      rw [hget _ h1 h2, if_pos rfl]
  · rw [hget r g1 g2, if_neg fun e => hr f (by simp) e.symm]
    exact h.mis r g1 g2 fun g hg => hr g (List.mem_append_left _ hg)
/-- What was seen agrees. -/
theorem ArOk.cons {ar : List Int} {dn : List Fa} (h : ArOk ar dn) : Consist dn := fun x hx y hy e => by
  have h1 := h.hit x hx
  have h2 := h.hit y hy
  rw [e] at h1
  omega
/-- What is refused does not agree. -/
theorem ArOk.no {ar : List Int} {dn : List Fa} (h : ArOk ar dn) (f : Fa) (hf : ¬ okA ar f.rel f.args.length) (h1 : 0 ≤ f.rel) (h2 : f.rel ≤ 5) (h3 : 1 ≤ f.args.length) (h4 : f.args.length ≤ 2) (hc : ∀ g ∈ dn, g.rel = f.rel → g.args.length = f.args.length) : False := by
  apply hf
  refine ⟨h1, by omega, by omega, by omega, ?_⟩
  by_cases he : ∃ g ∈ dn, g.rel = f.rel
  · obtain ⟨g, hg, e⟩ := he
    have := h.hit g hg
    rw [e, hc g hg e] at this
    exact .inr this
  · exact .inl (h.mis f.rel h1 (by omega) fun g hg e => he ⟨g, hg, e⟩)
def SzR (r : DR) : Prop := r.body.length ≤ 1000 ∧ ∀ x ∈ r.atoms, x.args.length ≤ 1000
theorem c55 {w : World} {s s' : Sl} {l : List DR} {fs : List DF} (hs : NR w s l) (hf : NF w s' fs) (hl : l.length ≤ 1000000) (hfl : fs.length ≤ 1000000) (hz : ∀ r ∈ l, SzR r) (hzf : ∀ f ∈ fs, f.args.length ≤ 1000) :
    Calls Try.prog 55 [.slice s.a s.n s.c, .slice s'.a s'.n s'.c].toArray w fun e w' => ∃ b : Bool, e = .returned (.bool b) ∧ (b = true ↔ ValidP (l.map DR.p) (fs.map DF.p)) ∧ Ext w w' := by
  refine (call55 s s' (R := fun v w' => ∃ b : Bool, v = .bool b ∧ (b = true ↔ ValidP (l.map DR.p) (fs.map DF.p)) ∧ Ext w w') ?_).mono fun e w' ⟨v, he, b, hv, hx⟩ => ⟨b, by rw [he, hv], hx⟩
  have hn := hs.len
  have hfn := hf.len
  have no : ∀ {w' : World}, Ext w w' → ¬ ValidP (l.map DR.p) (fs.map DF.p) → ∃ b : Bool, Value.bool false = .bool b ∧ (b = true ↔ ValidP (l.map DR.p) (fs.map DF.p)) ∧ Ext w w' := fun hx hv => ⟨false, rfl, by simp [hv], hx⟩
  obtain ⟨b1, x1⟩ := zc167b w
  refine Let.intro fun w1 e1 => ?_
  rw [← e1] at b1 x1
  have lA := b1.lt
  refine ⟨fun (b19 : Bool) w2 => (b19 = true ↔ l.length > 10 ∨ fs.length > 20) ∧ w2 = w1, ?_, ?_⟩
  rotate_left
  · refine cond_intro (fun g => ⟨?_, rfl⟩) (fun g => ⟨?_, rfl⟩)
    · have g : l.length > 10 := by simp [hn] at g; omega
      simp [g]
    · have g : ¬ l.length > 10 := by simp [hn] at g; omega
      simp [g, hfn]; omega
  rintro b19 w2 ⟨hb19, rfl⟩
  refine cond_intro (fun g => ?_) (fun g => ?_)
  · refine no x1 fun hv => ?_
    have h1 := hv.nl
    have h2 := hv.nf
    simp at h1 h2
    rcases hb19.1 g with h | h <;> omega
  have hl10 : l.length ≤ 10 := Nat.le_of_not_lt fun h => by rw [hb19.2 (.inl h)] at g; cases g
  have hf20 : fs.length ≤ 20 := Nat.le_of_not_lt fun h => by rw [hb19.2 (.inr h)] at g; cases g
  -- the facts, then the rules
  refine ⟨fun w3 => ∃ ar, Blk w3 w.heap.size (vI ar) 167 ∧ ArOk ar (fs.map DF.p) ∧ (∀ f ∈ fs, GroundF f.p) ∧ Ext w w3, ?_, ?_⟩
  · rintro w3 ⟨ar, b3, har, hgr, x3⟩
    refine Join.dir (rangeI (fun i w5 => ∃ ar, Blk w5 w.heap.size (vI ar) 167 ∧ ArOk ar (fs.map DF.p ++ ((l.take i).map DR.p).flatMap Ru.atoms) ∧ (∀ r ∈ l.take i, RuleP r.p) ∧ Ext w w5) (by rw [hn]; show l.length ≤ 9223372036854775807; omega) ⟨ar, b3, by simpa using har, by simp, x3⟩ ?_ ?_)
    · rintro i hi w5 ⟨ar, b5, har, hru, x5⟩ K hK
      have hi : i < l.length := by omega
      have hr := List.getElem_mem hi
      have hrz := hz _ hr
      have hrp : (l[i]).p ∈ l.map DR.p := List.mem_map.2 ⟨_, hr, rfl⟩
      refine loadR (hs.ext x5) hi fun w8 b8 x8 => ?_
      have x58 := x5.trans x8
      have hro := (hs.ok _ hr).ext x58
      generalize hri : l[i] = r at b8 hr hrz hrp hro
      have b58 := b5.ext x8
      have lw5 := b5.lt
      refine ⟨fun (b53 : Bool) w9 => (b53 = true ↔ ¬ (r.body.length ≤ 3 ∧ SafeP r.p)) ∧ Ext w8 w9, ?_, ?_⟩
      rotate_left
      · refine ⟨_, b8.cell 2, cond_intro (fun g => ⟨?_, Fr.refl _ _⟩) (fun g => ?_)⟩
        · have g : ¬ r.body.length ≤ 3 := by simp [hro.bd.len] at g; omega
          simp [g]
        · have g : r.body.length ≤ 3 := by simp [hro.bd.len] at g; omega
          refine ⟨_, _, _, b8.rd, (c103 hro hrz.1 hrz.2).mono fun e w20 ⟨c, he, hc, x20⟩ => ⟨c, he, ?_, x20⟩⟩
          cases c <;> simp_all
      rintro b53 w9 ⟨hb53, x9⟩
      have x59 := x58.trans x9
      refine cond_intro (fun g => ?_) (fun g => ?_)
      · refine no x59 fun hv => ?_
        have := hv.ru _ hrp
        exact hb53.1 g ⟨by have := this.1; simpa [DR.p] using this, this.2.1⟩
      have hg : r.body.length ≤ 3 ∧ SafeP r.p := Classical.byContradiction fun h => by rw [hb53.2 h] at g; cases g
      refine ⟨_, _, _, (b8.ext x9).rd, (c104 (hro.ext x9) hrz.1).mono fun e w10 ⟨s55, he, ho55, x10⟩ => ⟨s55, he, ?_⟩⟩
      have x510 := x59.trans x10
      have b10 := (b58.ext x9).ext x10
      have h5n := ho55.sli.len
      have hal : r.atoms.length ≤ 1001 := by have := hrz.1; simp [DR.atoms]; omega
      have hzz := (x8.trans x9).size
      have hap : ∀ x ∈ r.atoms, x.p ∈ (r.p).atoms := fun x hx => by rw [← DR.atoms_p]; exact List.mem_map.2 ⟨x, hx, rfl⟩
      refine Join.dir (rangeI (fun j w12 => ∃ ar, Blk w12 w.heap.size (vI ar) 167 ∧ ArOk ar (fs.map DF.p ++ ((l.take i).map DR.p).flatMap Ru.atoms ++ (r.atoms.take j).map DF.p) ∧ (∀ a ∈ r.atoms.take j, FitsF a.p) ∧ Fr (fun y => y = w.heap.size) w10 w12) (by rw [h5n]; show r.atoms.length ≤ 9223372036854775807; omega) ⟨ar, b10, by simpa using har, by simp, Fr.refl _ _⟩ ?_ ?_)
      · rintro j hj w12 ⟨ar, b12, har, hfit, f12⟩ K2 hK2
        have hj : j < r.atoms.length := by omega
        have x12 : Ext w w12 := x510.newer f12 fun y (hy : y = w.heap.size) => by omega
        have hat12 : ∀ x ∈ r.atoms, Ints w12 x.sl x.args := by
          have := ((hs.ok _ (List.getElem_mem hi)).ext x12).atoms
          rw [hri] at this; exact this
        have h55 : NF w12 s55 r.atoms := ⟨(ho55.fr f12 fun a ha (e : a.block = w.heap.size) => by have := (ho55.base ha).1; omega).sli, hat12⟩
        refine loadF h55 hj (by kernel_rfl) fun w15 b15 x15 => ?_
        have hxm := List.getElem_mem hj
        have hint := (hat12 _ hxm).ext x15
        have hxz := hrz.2 _ hxm
        generalize hxj : r.atoms[j] = x at b15 hxm hint hxz
        have hxn := hint.len
        have b12' := b12.ext x15
        have x015 := x12.trans x15
        have hlt12 := b12.lt
        have hxa := hap x hxm
        -- what it means that the atom is refused
        have hbad : ¬ (okA ar x.rel ((x.sl.n : Nat) : Int) ∧ ∀ y ∈ x.args, -6 ≤ y ∧ y ≤ 7) → ¬ ValidP (l.map DR.p) (fs.map DF.p) := fun h hv => by
          have hfx : FitsF x.p := (hv.ru _ hrp).2.2 _ hxa
          refine h ⟨Classical.byContradiction fun hno => ?_, hfx.2.2.2.2⟩
          rw [hxn] at hno
          refine har.no x.p hno hfx.1 hfx.2.1 hfx.2.2.1 hfx.2.2.2.1 fun g hg e => ?_
          refine hv.co g ?_ x.p (List.mem_append_right _ (List.mem_flatMap.2 ⟨_, hrp, hxa⟩)) e
          rcases List.mem_append.1 hg with hg | hg
          · rcases List.mem_append.1 hg with hg | hg
            · exact List.mem_append_left _ hg
            · obtain ⟨r', hr', hgr⟩ := List.mem_flatMap.1 hg
              obtain ⟨r'', hr'', rfl⟩ := List.mem_map.1 hr'
              exact List.mem_append_right _ (List.mem_flatMap.2 ⟨_, List.mem_map.2 ⟨r'', List.mem_of_mem_take hr'', rfl⟩, hgr⟩)
          · obtain ⟨y, hy, rfl⟩ := List.mem_map.1 hg
            exact List.mem_append_right _ (List.mem_flatMap.2 ⟨_, hrp, hap y (List.mem_of_mem_take hy)⟩)
        refine ⟨fun (b79 : Bool) w16 => (b79 = true ↔ ¬ (okA ar x.rel ((x.sl.n : Nat) : Int) ∧ ∀ y ∈ x.args, -6 ≤ y ∧ y ≤ 7)) ∧ (okA ar x.rel ((x.sl.n : Nat) : Int) → Blk w16 w.heap.size (vI (ar.set x.rel.toNat x.args.length)) 167) ∧ Fr (fun y => y = w.heap.size) w15 w16, ?_, ?_⟩
        · rintro b79 w16 ⟨hb79, hset, f16⟩
          refine cond_intro (fun g => no (x015.newer f16 fun y (hy : y = w.heap.size) => by omega) (hbad (hb79.1 g))) (fun g => ?_)
          have hgood : okA ar x.rel ((x.sl.n : Nat) : Int) ∧ ∀ y ∈ x.args, -6 ≤ y ∧ y ≤ 7 := Classical.byContradiction fun h => by rw [hb79.2 h] at g; cases g
          have hok := hgood.1
          rw [hxn] at hok
          have htk : (r.atoms.take (j + 1)).map DF.p = (r.atoms.take j).map DF.p ++ [x.p] := by rw [List.take_succ_eq_append_getElem hj, List.map_append, hxj]; rfl
          refine hK2 _ ⟨_, hset hgood.1, ?_, fun a ha => ?_, (f12.ext x15).trans f16 fun _ _ h => h⟩
          · rw [htk, ← List.append_assoc]; exact har.step x.p hok
          · rw [List.take_succ_eq_append_getElem hj, List.mem_append, List.mem_singleton, hxj] at ha
            rcases ha with ha | rfl
            · exact hfit a ha
            · exact ⟨hok.1, by have := hok.2.1; show a.rel ≤ 5; omega, by have := hok.2.2.1; show 1 ≤ a.args.length; omega, by have := hok.2.2.2.1; show a.args.length ≤ 2; omega, hgood.2⟩
        · refine ⟨_, b15.cell 0, _, b15.cell 1, (c102 b12' har.len x.rel ((x.sl.n : Nat) : Int)).mono fun e w17 ⟨he, b17, f17⟩ => ⟨_, he, ?_⟩⟩
          have c15 := b15.fr f17 (by show ¬ w12.heap.size = w.heap.size; omega)
          have x017 : Ext w w17 := x015.newer f17 fun y (hy : y = w.heap.size) => by omega
          refine cond_intro (fun g => ?_) (fun g => ?_)
          · have g : ¬ okA ar x.rel ((x.sl.n : Nat) : Int) := by simpa using g
            exact ⟨by simp [g], fun h => absurd h g, f17⟩
          have g : okA ar x.rel ((x.sl.n : Nat) : Int) := by simpa using g
          rw [if_pos g] at b17
          have hset : Blk w17 w.heap.size (vI (ar.set x.rel.toNat x.args.length)) 167 := by rw [hxn] at b17; exact b17
          have hne : x.args ≠ [] := by intro h; have := g.2.2.1; rw [hxn, h] at this; simp at this
          have hint17 : Ints w17 x.sl x.args := by
            have := ((hs.ok _ (List.getElem_mem hi)).ext x017).atoms x (by rw [hri]; exact hxm)
            exact this
          refine ⟨_, c15.cell 1, (c105 hint17 (by show x.args.length ≤ 9223372036854775807; omega) hne).mono fun e w18 ⟨m, he, hm, hw⟩ => ⟨_, he, ?_⟩⟩
          subst hw
          refine cond_intro (fun g2 => ⟨?_, fun _ => hset, f17⟩) (fun g2 => ?_)
          · have g2 : m < -6 := by simpa using g2
            simp only [true_iff]
            rintro ⟨_, h⟩
            have := (hm (-6)).2 fun y hy => (h y hy).1
            omega
          have g2 : -6 ≤ m := by simpa using g2
          refine ⟨_, c15.cell 1, (c106 hint17 (by show x.args.length ≤ 9223372036854775807; omega) hne).mono fun e w19 ⟨m', he, hm', hw⟩ => ⟨_, he, ?_, fun _ => by rw [hw]; exact hset, by rw [hw]; exact f17⟩⟩
          simp only [decide_eq_true_eq]
          constructor
          · rintro h ⟨_, h2⟩
            have := (hm' 7).2 fun y hy => (h2 y hy).2
            omega
          · intro h
            refine Classical.byContradiction fun h3 => h ⟨g, fun y hy => ⟨(hm (-6)).1 g2 y hy, (hm' 7).1 (by omega) y hy⟩⟩
      · rintro w11 ⟨ar, b11, har, hfit, f11⟩
        rw [h5n, List.take_length] at har hfit
        refine hK _ ⟨ar, b11, ?_, fun r' hr' => ?_, x510.newer f11 fun y (hy : y = w.heap.size) => by omega⟩
        · rw [List.take_succ_eq_append_getElem hi, hri, List.map_append, List.flatMap_append]
          simpa [DR.atoms_p] using har
        · rw [List.take_succ_eq_append_getElem hi, List.mem_append, List.mem_singleton, hri] at hr'
          rcases hr' with hr' | rfl
          · exact hru r' hr'
          · refine ⟨by simpa [DR.p] using hg.1, hg.2, fun a ha => ?_⟩
            rw [← DR.atoms_p] at ha
            obtain ⟨x, hx, rfl⟩ := List.mem_map.1 ha
            exact hfit x hx
    · rintro w5 ⟨ar, b5, har, hru, x5⟩
      rw [hn, List.take_length] at har hru
      refine ⟨true, rfl, ?_, x5⟩
      simp only [true_iff]
      refine ⟨by simpa using hl10, by simpa using hf20, fun f hf => ?_, fun r hr => ?_, har.cons⟩
      · obtain ⟨x, hx, rfl⟩ := List.mem_map.1 hf; exact hgr x hx
      · obtain ⟨x, hx, rfl⟩ := List.mem_map.1 hr; exact hru x hx
  · refine rangeI (fun i w3 => ∃ ar, Blk w3 w.heap.size (vI ar) 167 ∧ ArOk ar ((fs.take i).map DF.p) ∧ (∀ f ∈ fs.take i, GroundF f.p) ∧ Ext w w3) (by rw [hfn]; show fs.length ≤ 9223372036854775807; omega) ⟨_, b1, ArOk.nil, by simp, x1⟩ ?_ ?_
    · rintro i hi w21 ⟨ar, b21, har, hgr, x21⟩ K hK
      have hi : i < fs.length := by omega
      have hfm := List.getElem_mem hi
      refine loadF (hf.ext x21) hi zc36 fun w24 b24 x24 => ?_
      have x024 := x21.trans x24
      have hint := (hf.ok _ hfm).ext x024
      have hzx := hzf _ hfm
      generalize hxi : fs[i] = x at b24 hfm hint hzx
      have hxn := hint.len
      have hxp : x.p ∈ fs.map DF.p := List.mem_map.2 ⟨x, hfm, rfl⟩
      have b21' := b21.ext x24
      have hlt := b21.lt
      refine ⟨fun (b37 : Bool) w25 => (b37 = true ↔ ¬ (GroundF x.p ∧ okA ar x.rel ((x.sl.n : Nat) : Int))) ∧ (b37 = false → Blk w25 w.heap.size (vI (ar.set x.rel.toNat x.args.length)) 167) ∧ Ext w w25, ?_, ?_⟩
      · rintro b37 w25 ⟨hb37, hset, x25⟩
        refine cond_intro (fun g => no x25 fun hv => ?_) (fun g => ?_)
        · refine hb37.1 g ⟨hv.gr _ hxp, Classical.byContradiction fun hno => ?_⟩
          have hgx : GroundF x.p := hv.gr _ hxp
          rw [hxn] at hno
          refine har.no x.p hno hgx.1 hgx.2.1 hgx.2.2.1 hgx.2.2.2.1 fun g hg e => ?_
          obtain ⟨y, hy, rfl⟩ := List.mem_map.1 hg
          exact hv.co _ (List.mem_append_left _ (List.mem_map.2 ⟨y, List.mem_of_mem_take hy, rfl⟩)) _ (List.mem_append_left _ hxp) e
        · have hgood : GroundF x.p ∧ okA ar x.rel ((x.sl.n : Nat) : Int) := Classical.byContradiction fun h => by rw [hb37.2 h] at g; cases g
          have hok := hgood.2
          rw [hxn] at hok
          refine hK _ ⟨_, hset g, ?_, fun f hf => ?_, x25⟩
          · rw [List.take_succ_eq_append_getElem hi, List.map_append, hxi]; exact har.step x.p hok
          · rw [List.take_succ_eq_append_getElem hi, List.mem_append, List.mem_singleton, hxi] at hf
            rcases hf with hf | rfl
            · exact hgr f hf
            · exact hgood.1
      · refine ⟨_, _, b24.rd, (c74 hint (by show x.args.length ≤ 9223372036854775807; omega)).mono fun e w26 ⟨he, x26⟩ => ⟨_, he, ?_⟩⟩
        have x026 := x024.trans x26
        refine cond_intro (fun g => ?_) (fun g => ?_)
        · have g : ¬ GroundF x.p := by simpa using g
          exact ⟨by simp [g], (fun h => by cases h), x026⟩
        have g : GroundF x.p := by simpa using g
        have b24' := b24.ext x26
        refine ⟨_, b24'.cell 0, _, b24'.cell 1, (c102 (b21'.ext x26) har.len x.rel ((x.sl.n : Nat) : Int)).mono fun e w27 ⟨he, b27, f27⟩ => ⟨_, he, ?_, fun h => ?_, x026.newer f27 fun y (hy : y = w.heap.size) => by omega⟩⟩
        · simp [g]
        · have h : okA ar x.rel ((x.sl.n : Nat) : Int) := by simpa using h
          rw [if_pos h, hxn] at b27
          exact b27
    · rintro w2 ⟨ar, b2, har, hgr, x2⟩
      rw [hfn, List.take_length] at har hgr
      exact ⟨ar, b2, har, hgr, x2⟩
end Go.Proofs.Ytoljknamnkkgcaa
/-
  Contract: strata. The plain law of the rounds.
-/
namespace Go.Proofs.Ytoljknamnkkgcaa
open Go Go.VC
set_option maxHeartbeats 1000000
set_option maxRecDepth 100000

def lv (s : List Int) (r : Int) : Int := s.getD r.toNat 0
def nI (b : Li) : Int := if b.neg = true then 1 else 0
def stepB (h : Int) (s : List Int) (b : Li) : List Int := if lv s h < lv s b.a.rel + nI b then s.set h.toNat (lv s b.a.rel + nI b) else s
def passR (s : List Int) (r : Ru) : List Int := r.body.foldl (stepB r.head.rel) s
def pass (l : List Ru) (s : List Int) : List Int := l.foldl passR s
def sm (s : List Int) : Int := lv s 0 + lv s 1 + lv s 2 + lv s 3 + lv s 4 + lv s 5
def zero6 : List Int := [0, 0, 0, 0, 0, 0]
/-- Rels are from 0 to 5. -/
def RelOk (l : List Ru) : Prop := ∀ r ∈ l, ∀ a ∈ r.atoms, 0 ≤ a.rel ∧ a.rel ≤ 5
/-- Strata, as the rules ask for. -/
def Sol (l : List Ru) (f : Int → Int) : Prop := (∀ r, 0 ≤ f r) ∧ ∀ r ∈ l, ∀ b ∈ r.body, f b.a.rel + nI b ≤ f r.head.rel
theorem lv_set {s : List Int} (hl : s.length = 6) {h : Int} (h0 : 0 ≤ h) (h1 : h ≤ 5) (v : Int) {x : Int} (x0 : 0 ≤ x) (x1 : x ≤ 5) : lv (s.set h.toNat v) x = if x = h then v else lv s x := by
  unfold lv
  by_cases e : x = h
  · subst e
    have : x.toNat < s.length := by omega
    simp [List.getD, List.getElem?_set, this]
  · have : h.toNat ≠ x.toNat := by omega
    simp [List.getD, List.getElem?_set, this, e]
theorem stepB_len {h : Int} {s : List Int} {b : Li} : (stepB h s b).length = s.length := by unfold stepB; split <;> simp
theorem nI_nonneg (b : Li) : 0 ≤ nI b ∧ nI b ≤ 1 := by unfold nI; split <;> omega
theorem rel6 {x : Int} (h0 : 0 ≤ x) (h1 : x ≤ 5) : x = 0 ∨ x = 1 ∨ x = 2 ∨ x = 3 ∨ x = 4 ∨ x = 5 := by omega
theorem stepB_lv {h : Int} {s : List Int} {b : Li} (hl : s.length = 6) (h0 : 0 ≤ h) (h1 : h ≤ 5) {x : Int} (x0 : 0 ≤ x) (x1 : x ≤ 5) : lv (stepB h s b) x = if x = h ∧ lv s h < lv s b.a.rel + nI b then lv s b.a.rel + nI b else lv s x := by
  unfold stepB
  by_cases g : lv s h < lv s b.a.rel + nI b
  · rw [if_pos g, lv_set hl h0 h1 _ x0 x1]
    by_cases e : x = h
    · rw [if_pos e, if_pos ⟨e, g⟩]
    · rw [if_neg e, if_neg fun h => e h.1]
  · rw [if_neg g, if_neg fun h => g h.2]
theorem stepB_mono {h : Int} {s : List Int} {b : Li} (hl : s.length = 6) (h0 : 0 ≤ h) (h1 : h ≤ 5) {x : Int} (x0 : 0 ≤ x) (x1 : x ≤ 5) : lv s x ≤ lv (stepB h s b) x := by
  rw [stepB_lv hl h0 h1 x0 x1]
  split
  · rename_i g; rw [g.1]; omega
  · omega
theorem stepB_sm {h : Int} {s : List Int} {b : Li} (hl : s.length = 6) (h0 : 0 ≤ h) (h1 : h ≤ 5) : (stepB h s b = s ∧ lv s b.a.rel + nI b ≤ lv s h) ∨ (sm s < sm (stepB h s b) ∧ lv s h < lv s b.a.rel + nI b) := by
  by_cases g : lv s h < lv s b.a.rel + nI b
  · right
    refine ⟨?_, g⟩
    have hv := fun (x : Int) (x0 : 0 ≤ x) (x1 : x ≤ 5) => stepB_lv (b := b) hl h0 h1 x0 x1
    have e0 := hv 0 (by omega) (by omega)
    have e1 := hv 1 (by omega) (by omega)
    have e2 := hv 2 (by omega) (by omega)
    have e3 := hv 3 (by omega) (by omega)
    have e4 := hv 4 (by omega) (by omega)
    have e5 := hv 5 (by omega) (by omega)
    unfold sm
    rw [e0, e1, e2, e3, e4, e5]
    rcases rel6 h0 h1 with rfl | rfl | rfl | rfl | rfl | rfl <;> simp [g] <;> omega
  · left; exact ⟨by unfold stepB; rw [if_neg g], by omega⟩
theorem stepB_sol {h : Int} {s : List Int} {b : Li} {f : Int → Int} (hl : s.length = 6) (h0 : 0 ≤ h) (h1 : h ≤ 5) (b0 : 0 ≤ b.a.rel) (b1 : b.a.rel ≤ 5) (hf : f b.a.rel + nI b ≤ f h) (hs : ∀ x, 0 ≤ x → x ≤ 5 → lv s x ≤ f x) : ∀ x, 0 ≤ x → x ≤ 5 → lv (stepB h s b) x ≤ f x := fun x x0 x1 => by
  rw [stepB_lv hl h0 h1 x0 x1]
  split
  · rename_i g; rw [g.1]; have := hs _ b0 b1; omega
  · exact hs x x0 x1

/-! ### the rounds -/
/-- Of six numbers: what a part of a round leaves. -/
structure Up (s t : List Int) : Prop where
  len : t.length = 6
  mono : ∀ x, 0 ≤ x → x ≤ 5 → lv s x ≤ lv t x
  sm : t = s ∨ sm s < sm t
theorem Up.refl {s : List Int} (h : s.length = 6) : Up s s := ⟨h, fun _ _ _ => Int.le_refl _, .inl rfl⟩
theorem Up.trans {s t u : List Int} (h : Up s t) (k : Up t u) : Up s u := ⟨k.len, fun x h0 h1 => Int.le_trans (h.mono x h0 h1) (k.mono x h0 h1), by
  rcases h.sm with rfl | h1
  · exact k.sm
  · rcases k.sm with rfl | h2
    · exact .inr h1
    · exact .inr (by omega)⟩
theorem Up.step {s : List Int} {h : Int} {b : Li} (hl : s.length = 6) (h0 : 0 ≤ h) (h1 : h ≤ 5) : Up s (stepB h s b) := ⟨by rw [stepB_len, hl], fun x x0 x1 => stepB_mono hl h0 h1 x0 x1, by
  rcases stepB_sm (b := b) hl h0 h1 with h | h
  · exact .inl h.1
  · exact .inr h.1⟩
theorem Up.fold {h : Int} (h0 : 0 ≤ h) (h1 : h ≤ 5) : ∀ {body : List Li} {s : List Int}, s.length = 6 → Up s (body.foldl (stepB h) s)
  | [], s, hl => Up.refl hl
  | b :: r, s, hl => (Up.step hl h0 h1).trans (Up.fold h0 h1 (by rw [stepB_len, hl]))
theorem Up.back {s t u : List Int} (h : Up s t) (k : Up t u) (e : u = s) : t = s := by
  rcases h.sm with h | h
  · exact h
  · rcases k.sm with rfl | h2
    · exact e
    · subst e; omega
theorem fold_id {h : Int} (h0 : 0 ≤ h) (h1 : h ≤ 5) : ∀ {body : List Li} {s : List Int}, s.length = 6 → body.foldl (stepB h) s = s → ∀ b ∈ body, lv s b.a.rel + nI b ≤ lv s h
  | [], _, _, _, b, hb => by cases hb
  | a :: r, s, hl, he, b, hb => by
    have hl' : (stepB h s a).length = 6 := by rw [stepB_len, hl]
    have e1 : stepB h s a = s := (Up.step hl h0 h1).back (Up.fold h0 h1 hl') he
    rw [List.foldl_cons, e1] at he
    rcases List.mem_cons.1 hb with rfl | hb
    · rcases stepB_sm (b := b) hl h0 h1 with h | h
      · exact h.2
      · rw [e1] at h; omega
    · exact fold_id h0 h1 hl he b hb
theorem passR_up {r : Ru} (hr : ∀ a ∈ r.atoms, 0 ≤ a.rel ∧ a.rel ≤ 5) {s : List Int} (hl : s.length = 6) : Up s (passR s r) := Up.fold (hr r.head (by simp [Ru.atoms])).1 (hr r.head (by simp [Ru.atoms])).2 hl
theorem pass_up : ∀ {l : List Ru}, RelOk l → ∀ {s : List Int}, s.length = 6 → Up s (pass l s)
  | [], _, s, hl => Up.refl hl
  | r :: l, h, s, hl => by
    have h1 := passR_up (h r (by simp)) hl
    exact h1.trans (pass_up (fun r' hr' => h r' (by simp [hr'])) h1.len)
theorem pass_id : ∀ {l : List Ru}, RelOk l → ∀ {s : List Int}, s.length = 6 → pass l s = s → ∀ r ∈ l, ∀ b ∈ r.body, lv s b.a.rel + nI b ≤ lv s r.head.rel
  | [], _, _, _, _, r, hr, _, _ => by cases hr
  | q :: l, h, s, hl, he, r, hr, b, hb => by
    have h1 := passR_up (h q (by simp)) hl
    have hl' : RelOk l := fun r' hr' => h r' (by simp [hr'])
    have e1 : passR s q = s := h1.back (pass_up hl' h1.len) he
    have hq := h q (by simp) q.head (by simp [Ru.atoms])
    rcases List.mem_cons.1 hr with rfl | hr
    · exact fold_id hq.1 hq.2 hl e1 b hb
    · refine pass_id hl' hl ?_ r hr b hb
      have : pass l (passR s q) = s := he
      rw [e1] at this; exact this
/-- Below every solution. -/
def Under (l : List Ru) (s : List Int) : Prop := ∀ f, Sol l f → ∀ x, 0 ≤ x → x ≤ 5 → lv s x ≤ f x
theorem fold_under {f : Int → Int} {h : Int} (h0 : 0 ≤ h) (h1 : h ≤ 5) : ∀ {body : List Li} {s : List Int}, s.length = 6 → (∀ b ∈ body, 0 ≤ b.a.rel ∧ b.a.rel ≤ 5 ∧ f b.a.rel + nI b ≤ f h) → (∀ x, 0 ≤ x → x ≤ 5 → lv s x ≤ f x) → ∀ x, 0 ≤ x → x ≤ 5 → lv (body.foldl (stepB h) s) x ≤ f x
  | [], _, _, _, hs => hs
  | b :: r, s, hl, hb, hs => by
    obtain ⟨g1, g2, g3⟩ := hb b (by simp)
    exact fold_under (body := r) (s := stepB h s b) h0 h1 (by rw [stepB_len, hl]) (fun b' hb' => hb b' (by simp [hb'])) (stepB_sol hl h0 h1 g1 g2 g3 hs)
theorem pass_sol {f : Int → Int} : ∀ {l : List Ru}, RelOk l → (∀ r ∈ l, ∀ b ∈ r.body, f b.a.rel + nI b ≤ f r.head.rel) → ∀ {s : List Int}, s.length = 6 → (∀ x, 0 ≤ x → x ≤ 5 → lv s x ≤ f x) → ∀ x, 0 ≤ x → x ≤ 5 → lv (pass l s) x ≤ f x
  | [], _, _, _, _, hs => hs
  | r :: l, h, hf, s, hl, hs => by
    have hq := h r (by simp) r.head (by simp [Ru.atoms])
    have h1 := passR_up (h r (by simp)) hl
    refine pass_sol (l := l) (s := passR s r) (fun r' hr' => h r' (by simp [hr'])) (fun r' hr' => hf r' (by simp [hr'])) h1.len (fold_under hq.1 hq.2 hl (fun b hb => ?_) hs)
    have := h r (by simp) b.a (by simp [Ru.atoms]; exact .inr ⟨b, hb, rfl⟩)
    exact ⟨this.1, this.2, hf r (by simp) b hb⟩
theorem pass_under {l : List Ru} (h : RelOk l) {s : List Int} (hl : s.length = 6) (hu : Under l s) : Under l (pass l s) := fun f hf => pass_sol h hf.2 hl (hu f hf)
/-- The least strata. -/
structure IsStr (l : List Ru) (s : List Int) : Prop where
  len : s.length = 6
  nn : ∀ x ∈ s, 0 ≤ x
  sol : ∀ r ∈ l, ∀ b ∈ r.body, lv s b.a.rel + nI b ≤ lv s r.head.rel
  least : Under l s
theorem lv_nn {s : List Int} (h : ∀ x ∈ s, 0 ≤ x) (r : Int) : 0 ≤ lv s r := by
  unfold lv
  by_cases e : r.toNat < s.length
  · simp only [List.getD, List.getElem?_eq_getElem e, Option.getD_some]; exact h _ (List.getElem_mem e)
  · simp [List.getD, List.getElem?_eq_none (show s.length ≤ r.toNat by omega)]
theorem IsStr.isSol {l : List Ru} {s : List Int} (h : IsStr l s) : Sol l (lv s) := ⟨lv_nn h.nn, h.sol⟩
theorem ext6 {s t : List Int} (hs : s.length = 6) (ht : t.length = 6) (h : ∀ x, 0 ≤ x → x ≤ 5 → lv s x = lv t x) : s = t := by
  apply List.ext_getElem (by omega)
  intro i h1 h2
  have := h (i : Int) (by omega) (by omega)
  unfold lv at this
  simpa [List.getD, h1, h2] using this
theorem IsStr.uniq {l : List Ru} {s t : List Int} (h : IsStr l s) (k : IsStr l t) : s = t :=
  ext6 h.len k.len fun x h0 h1 => Int.le_antisymm (h.least _ k.isSol x h0 h1) (k.least _ h.isSol x h0 h1)
/-- The strata are at most 5. -/
theorem IsStr.le5 {l : List Ru} (hR : RelOk l) {s : List Int} (h : IsStr l s) : ∀ x ∈ s, x ≤ 5 := by
  -- a level that is skipped could be taken out
  have hskip : ∀ m : Int, 0 ≤ m → m ∉ s → ∀ x ∈ s, x ≤ m := fun m hm0 hm x hx => by
    refine Int.not_lt.1 fun hlt => ?_
    have hatt : ∀ r : Int, 0 ≤ r → r ≤ 5 → lv s r ≠ m := fun r r0 r1 e => hm (by
      unfold lv at e
      have : r.toNat < s.length := by have := h.len; omega
      simp only [List.getD, List.getElem?_eq_getElem this, Option.getD_some] at e
      rw [← e]; exact List.getElem_mem _)
    have hsol : Sol l fun r => if lv s r > m then lv s r - 1 else lv s r := by
      refine ⟨fun r => ?_, fun r hr b hb => ?_⟩
      · have := lv_nn h.nn r
        show 0 ≤ if lv s r > m then lv s r - 1 else lv s r
        split <;> omega
      · have h1 := h.sol r hr b hb
        have hb' := hR r hr b.a (by simp [Ru.atoms]; exact .inr ⟨b, hb, rfl⟩)
        have h2 := hatt b.a.rel hb'.1 hb'.2
        have h3 := nI_nonneg b
        show (if lv s b.a.rel > m then lv s b.a.rel - 1 else lv s b.a.rel) + nI b ≤ if lv s r.head.rel > m then lv s r.head.rel - 1 else lv s r.head.rel
        split <;> split <;> omega
    obtain ⟨i, hi, e⟩ := List.getElem_of_mem hx
    have h1 := h.least _ hsol (i : Int) (by omega) (by have := h.len; omega)
    have h2 : lv s (i : Int) = x := by unfold lv; simp [List.getD, hi, e]
    simp only [h2] at h1
    rw [if_pos hlt] at h1
    omega
  intro x hx
  refine Int.not_lt.1 fun hgt => ?_
  have hall : ∀ m ∈ ([0, 1, 2, 3, 4, 5, x] : List Int), m ∈ s := fun m hm => by
    refine Classical.byContradiction fun hno => ?_
    simp only [List.mem_cons, List.not_mem_nil, or_false] at hm
    rcases hm with rfl | rfl | rfl | rfl | rfl | rfl | rfl
    · have := hskip _ (by omega) hno x hx; omega
    · have := hskip _ (by omega) hno x hx; omega
    · have := hskip _ (by omega) hno x hx; omega
    · have := hskip _ (by omega) hno x hx; omega
    · have := hskip _ (by omega) hno x hx; omega
    · have := hskip _ (by omega) hno x hx; omega
    · exact hno hx
  have hnd : ([0, 1, 2, 3, 4, 5, x] : List Int).Nodup := by
    simp only [List.nodup_cons, List.mem_cons, List.not_mem_nil, or_false, not_or, not_false_eq_true, List.nodup_nil, and_true]
    omega
  have := hnd.length_le_of_subset hall
  rw [h.len] at this
  simp at this
end Go.Proofs.Ytoljknamnkkgcaa
/-
  Contract: strata, the walk.
-/
namespace Go.Proofs.Ytoljknamnkkgcaa
open Go Go.VC
set_option maxHeartbeats 1000000
set_option maxRecDepth 100000

theorem make6 (w : World) : (Instr.makeSlice 34 (.int .i64 6) (.int .i64 6)).run Try.prog w = .ok (.slice (some ⟨w.heap.size, 0, none⟩) 6 6) (w.alloc (.cells (vI zero6).toArray 3)) := by
  obtain ⟨i, z, hi, hz, hsz, hby, hzs⟩ := E34.info
  have hz0 : (Try.prog.info? 3).map (fun i => i.zero) = some (some (.int .i64 0)) := by kernel_rfl
  rw [hi] at hz0
  simp only [Option.map_some, Option.some.injEq] at hz0
  rw [hz0] at hz
  have hz : z = .int .i64 0 := (Option.some.inj hz).symm
  subst hz
  have := Go.run_makeSlice (P := Try.prog) w 34 3 i (.int .i64 0) E34.under hi hz0 .i64 .i64 6 6 (by decide) (by decide) (by rw [hsz]; decide) (by rw [hby]; decide) (by decide)
  rw [this, hsz]
  have e : madeCells (Value.int IntKind.i64 0).cells (Int.toNat 6 * 1) = (vI zero6).toArray := by
    apply Array.ext'
    simp [madeCells, zero6, vI, Value.cells, List.range_succ]
  rw [e]; rfl
theorem own6 (w : World) : Own 3 1 eI w.heap.size (w.alloc (.cells (vI zero6).toArray 3)) ⟨some ⟨w.heap.size, 0, none⟩, 6, 6⟩ zero6 :=
  ⟨rfl, by simp [zero6, eI], .inr ⟨w.heap.size, 6, (vI zero6).toArray, rfl, Nat.le_refl _, by show (w.heap.push _)[w.heap.size]? = _; simp, Nat.le_refl _, by simp [maxLen], rfl, rfl⟩⟩
theorem ownAt {B : Nat} {w : World} {s : Sl} {l : List Int} (h : Own 3 1 eI B w s l) (hl : l.length = 6) {x : Int} (h0 : 0 ≤ x) (h1 : x ≤ 5) : ∃ p : Pt, s.a = some ⟨p.b, p.o, none⟩ ∧ 0 ≤ x ∧ x < ((s.n : Nat) : Int) ∧ w.cell? ⟨p.b, p.o + Int.toNat x * 1, none⟩ = some (.int .i64 (lv l x)) := by
  obtain ⟨n, rfl⟩ : ∃ n : Nat, x = n := ⟨x.toNat, by omega⟩
  obtain ⟨p, hp, a1, a2, hr⟩ := Ints.at h.sli (i := n) (by omega)
  refine ⟨p, hp, a1, a2, ?_⟩
  rw [hr]
  simp [lv, List.getD, show n < l.length by omega]
theorem ownSet {B : Nat} {w : World} {s : Sl} {l : List Int} (h : Own 3 1 eI B w s l) (hl : l.length = 6) {x : Int} (h0 : 0 ≤ x) (h1 : x ≤ 5) (v : Int) : ∃ p : Pt, s.a = some ⟨p.b, p.o, none⟩ ∧ 0 ≤ x ∧ x < ((s.n : Nat) : Int) ∧ StoreOk w p.b (p.o + Int.toNat x * 1) [.int .i64 v] 1 ∧
    Own 3 1 eI B (put w p.b (p.o + Int.toNat x * 1) [.int .i64 v]) s (l.set x.toNat v) ∧ Fr (BlS s) w (put w p.b (p.o + Int.toNat x * 1) [.int .i64 v]) := by
  obtain ⟨n, rfl⟩ : ∃ n : Nat, x = n := ⟨x.toNat, by omega⟩
  obtain ⟨p, hp, a1, a2, st, ho, hf⟩ := h.store (i := n) (by omega) v
  exact ⟨p, hp, a1, a2, st, by simpa using ho, hf⟩
theorem lv_le {s : List Int} {B : Int} (hB : 0 ≤ B) (h : ∀ x ∈ s, x ≤ B) (r : Int) : lv s r ≤ B := by
  unfold lv
  by_cases e : r.toNat < s.length
  · simp only [List.getD, List.getElem?_eq_getElem e, Option.getD_some]; exact h _ (List.getElem_mem e)
  · simp [List.getD, List.getElem?_eq_none (show s.length ≤ r.toNat by omega)]; exact hB
theorem stepB_bd {h : Int} {s : List Int} {b : Li} {B : Int} (hB : 0 ≤ B) (hs : ∀ x ∈ s, 0 ≤ x ∧ x ≤ B) : ∀ x ∈ stepB h s b, 0 ≤ x ∧ x ≤ B + 1 := fun x hx => by
  unfold stepB at hx
  have h3 := nI_nonneg b
  split at hx
  · rcases List.mem_or_eq_of_mem_set hx with hx | rfl
    · have := hs x hx; omega
    · have h1 := lv_le hB (fun x hx => (hs x hx).2) b.a.rel
      have h2 := lv_nn (fun x hx => (hs x hx).1) b.a.rel
      omega
  · have := hs x hx; omega
/-- What a part of a round leaves, and the flag. -/
def Ch (s t : List Int) (b : Bool) : Prop := (b = false ∧ t = s) ∨ (b = true ∧ sm s < sm t)
theorem c84 {w : World} {s : Sl} {l : List DR} (hs : NR w s l) (hl : l.length ≤ 100) (hb3 : ∀ r ∈ l, r.body.length ≤ 3) (hR : RelOk (l.map DR.p)) :
    Calls Try.prog 84 [.slice s.a s.n s.c].toArray w fun e w' => ∃ (s' : Sl) (ok : Bool), e = .returned (.tuple [.slice s'.a s'.n s'.c, .bool ok].toArray) ∧ (ok = true → ∃ t, Ints w' s' t ∧ IsStr (l.map DR.p) t) ∧ (ok = false → s' = ⟨none, 0, 0⟩ ∧ ∀ f, Sol (l.map DR.p) f → ∃ x, 0 ≤ x ∧ x ≤ 5 ∧ 6 < f x) ∧ Ext w w' := by
  refine (call84 s (R := fun v w' => ∃ (s' : Sl) (ok : Bool), v = (.tuple [.slice s'.a s'.n s'.c, .bool ok].toArray) ∧ (ok = true → ∃ t, Ints w' s' t ∧ IsStr (l.map DR.p) t) ∧ (ok = false → s' = ⟨none, 0, 0⟩ ∧ ∀ f, Sol (l.map DR.p) f → ∃ x, 0 ≤ x ∧ x ≤ 5 ∧ 6 < f x) ∧ Ext w w') ?_).mono fun e w' ⟨v, he, s', ok, hv, hx⟩ => ⟨s', ok, by rw [he, hv], hx⟩
  have hsn := hs.len
  generalize hL : l.map DR.p = L at hR ⊢
  have hLl : L.length = l.length := by rw [← hL]; simp
  have x1 := Ext.alloc w (.cells (vI zero6).toArray 3)
  have ho1 := own6 w
  refine ⟨⟨some ⟨w.heap.size, 0, none⟩, 6, 6⟩, _, make6 w, ?_⟩
  generalize w.alloc (.cells (vI zero6).toArray 3) = w1 at x1 ho1
  generalize hs12 : (⟨some ⟨w.heap.size, 0, none⟩, 6, 6⟩ : Sl) = s12 at ho1
  have hbl : ∀ y, BlS s12 y → y = w.heap.size := fun y ⟨a, ha, e⟩ => by rw [← hs12] at ha; cases ha; exact e.symm
  refine Join.dir (LoopV.intro (fun n (x5 : Int) w3 => ∃ s0 : List Int, Own 3 1 eI w.heap.size w3 s12 s0 ∧ s0.length = 6 ∧ (∀ x ∈ s0, 0 ≤ x ∧ x ≤ 6) ∧ Under L s0 ∧ (n : Int) = 36 - sm s0 ∧ Ext w w3) 36
    ⟨zero6, ho1, rfl, by simp [zero6], fun f hf x h0 h1 => ?_, by simp [sm, zero6, lv], x1⟩ ?_)
  · have := hf.1 x
    have e : lv zero6 x = 0 := by rcases rel6 h0 h1 with rfl | rfl | rfl | rfl | rfl | rfl <;> rfl
    rw [e]; exact this
  rintro n x5 w3 ⟨s0, ho3, hl0, hb0, hu0, hn, x3⟩
  have hl6 : (l.length : Int) ≤ 100 := by omega
  refine Join.dir ⟨fun (b6 : Bool) w5 => Own 3 1 eI w.heap.size w5 s12 (pass L s0) ∧ Ch s0 (pass L s0) b6 ∧ (∀ x ∈ pass L s0, 0 ≤ x) ∧ Ext w w5, ?_, ?_⟩
  · rintro b6 w5 ⟨ho5, hch, hnn, x5'⟩
    have hup := pass_up hR hl0
    have hund := pass_under hR hl0 hu0
    have hplen := hup.len
    refine cond_intro (fun g => ?_) (fun g => ?_)
    · have g : b6 = false := by simpa using g
      rcases hch with ⟨_, h⟩ | ⟨h, _⟩
      · refine ⟨s12, true, rfl, fun _ => ⟨s0, by rw [h] at ho5; exact ho5.sli, hl0, fun x hx => (hb0 x hx).1, pass_id hR hl0 h, hu0⟩, (fun h => by cases h), x5'⟩
      · rw [g] at h; cases h
    have g : b6 = true := by simpa using g
    rcases hch with ⟨h, _⟩ | ⟨_, hlt⟩
    · rw [g] at h; cases h
    refine (c106 ho5.sli (by rw [hplen]; decide) (by intro h; rw [h] at hplen; cases hplen)).mono fun e w6 ⟨m, he, hm, hw⟩ => ⟨m, he, ?_⟩
    subst hw
    refine cond_intro (fun g2 => ?_) (fun g2 => ?_)
    · have g2 : 6 < m := by simpa using g2
      refine ⟨⟨none, 0, 0⟩, false, rfl, (fun h => by cases h), fun _ => ⟨rfl, fun f hf => ?_⟩, x5'⟩
      refine Classical.byContradiction fun hno => ?_
      have : m ≤ 6 := (hm 6).2 fun x hx => by
        obtain ⟨i, hi, e⟩ := List.getElem_of_mem hx
        have h1 := hund f hf (i : Int) (by omega) (by omega)
        have h2 : lv (pass L s0) (i : Int) = x := by unfold lv; simp [List.getD, hi, e]
        rw [h2] at h1
        refine Int.not_lt.1 fun h6 => hno ⟨(i : Int), by omega, by omega, by omega⟩
      omega
    · have g2 : m ≤ 6 := by simp at g2; omega
      have hb6 := (hm 6).1 g2
      have hs6 : sm (pass L s0) ≤ 36 := by
        have h := fun r => lv_le (B := 6) (by omega) hb6 r
        unfold sm
        have := h 0; have := h 1; have := h 2; have := h 3; have := h 4; have := h 5
        omega
      exact ⟨(36 - sm (pass L s0)).toNat, by omega, pass L s0, ho5, hplen, fun x hx => ⟨hnn x hx, hb6 x hx⟩, hund, by omega, x5'⟩
  -- one round
  refine rangeKI (k := .bool) (fun i (b6 : Bool) w7 => Own 3 1 eI w.heap.size w7 s12 (pass (L.take i) s0) ∧ Ch s0 (pass (L.take i) s0) b6 ∧ (∀ x ∈ pass (L.take i) s0, 0 ≤ x ∧ x ≤ 7 + 3 * i) ∧ Ext w w7) (by rw [hsn]; show l.length ≤ 9223372036854775807; omega) ⟨ho3, .inl ⟨rfl, rfl⟩, fun x hx => by have := hb0 x hx; omega, x3⟩ ?_ ?_
  rotate_left
  · rintro b6 w7 ⟨h1, h2, h3, h4⟩
    rw [hsn, ← hLl, List.take_length] at h1 h2 h3
    exact ⟨h1, h2, fun x hx => (h3 x hx).1, h4⟩
  rintro i hi b6 w7 ⟨ho7, hch7, hbd7, x7⟩ K hK
  have hi : i < l.length := by omega
  have hiL : i < L.length := by omega
  refine loadR (hs.ext x7) hi fun w10 b10 x10 => ⟨_, b10.cell 2, ?_⟩
  have hLi : L[i] = (l[i]).p := by subst hL; simp
  have hr := List.getElem_mem hi
  have hb3r := hb3 _ hr
  have hro0 := hs.ok _ hr
  generalize l[i] = r at b10 hLi hb3r hro0
  have hRr : ∀ a ∈ r.p.atoms, 0 ≤ a.rel ∧ a.rel ≤ 5 := by rw [← hLi]; exact hR _ (List.getElem_mem hiL)
  have hh := hRr r.p.head (by simp [Ru.atoms])
  have hst : pass (L.take (i + 1)) s0 = passR (pass (L.take i) s0) r.p := by
    unfold pass
    rw [List.take_succ_eq_append_getElem hiL, List.foldl_append, hLi]; rfl
  have hupi : Up s0 (pass (L.take i) s0) := pass_up (fun r' hr' => hR r' (List.mem_of_mem_take hr')) hl0
  generalize pass (L.take i) s0 = t0 at ho7 hch7 hbd7 hst hupi
  have ht0 := hupi.len
  have hrbn := hro0.bd.len
  have hbody : r.p.body.length = r.body.length := by simp [DR.p]
  have lq : w.heap.size < w7.heap.size := by
    have := (ho7.base (a := ⟨w.heap.size, 0, none⟩) (by rw [← hs12])).2; exact this
  refine Join.dir (rangeKI (k := .bool) (fun j (b6 : Bool) w12 => Own 3 1 eI w.heap.size w12 s12 ((r.p.body.take j).foldl (stepB r.p.head.rel) t0) ∧ Ch s0 ((r.p.body.take j).foldl (stepB r.p.head.rel) t0) b6 ∧ (∀ x ∈ (r.p.body.take j).foldl (stepB r.p.head.rel) t0, 0 ≤ x ∧ x ≤ 7 + 3 * i + j) ∧ Fr (BlS s12) w10 w12) (by rw [hrbn]; show r.body.length ≤ 9223372036854775807; omega) ⟨ho7.ext x10, hch7, fun x hx => by have := hbd7 x hx; omega, Fr.refl _ _⟩ ?_ ?_)
  rotate_left
  · rintro b6 w12 ⟨h1, h2, h3, h4⟩
    rw [hrbn, ← hbody, List.take_length] at h1 h2 h3
    refine hK _ _ ⟨?_, ?_, ?_, (x7.trans x10).newer h4 fun y hy => by rw [hbl y hy]; omega⟩
    · rw [hst]; exact h1
    · rw [hst]; exact h2
    · rw [hst]
      intro x hx
      have := h3 x hx
      omega
  rintro j hj b6 w12 ⟨ho12, hch12, hbd12, f12⟩ K2 hK2
  have hj : j < r.body.length := by omega
  have x012 : Ext w w12 := (x7.trans x10).newer f12 fun y hy => by rw [hbl y hy]; omega
  have hro12 : RulOk w12 r := hro0.ext x012
  refine loadL hro12.bd hj fun w15 b15 x15 => ⟨_, b15.cell 1, ?_⟩
  have hbp : r.p.body[j]'(by omega) = (r.body[j]).p := by simp [DR.p]
  have hrel := hRr (r.body[j]).p.a (by simp [Ru.atoms, DR.p]; exact .inr ⟨_, List.getElem_mem hj, rfl⟩)
  generalize hxj : r.body[j] = x at b15 hbp hrel
  have hupj : Up t0 ((r.p.body.take j).foldl (stepB r.p.head.rel) t0) := Up.fold hh.1 hh.2 ht0
  have hst2 : (r.p.body.take (j + 1)).foldl (stepB r.p.head.rel) t0 = stepB r.p.head.rel ((r.p.body.take j).foldl (stepB r.p.head.rel) t0) x.p := by
    rw [List.take_succ_eq_append_getElem (by omega), List.foldl_append, hbp]; rfl
  generalize (r.p.body.take j).foldl (stepB r.p.head.rel) t0 = t at ho12 hch12 hbd12 hupj hst2
  have htl := hupj.len
  have ho15 := ho12.ext x15
  obtain ⟨p32, hp32, a1, a2, hr32⟩ := ownAt ho15 htl hrel.1 hrel.2
  refine ⟨p32, hp32, a1, a2, _, hr32, _, b15.cell 0, ?_⟩
  have hbdx := lv_le (s := t) (B := 7 + 3 * i + j) (by omega) (fun x hx => (hbd12 x hx).2) x.p.a.rel
  have hnnx := lv_nn (fun x hx => (hbd12 x hx).1) x.p.a.rel
  have b10' := (b10.fr f12 fun hy => by have := hbl _ hy; omega).ext x15
  refine ⟨fun (x11 : Int) w16 => x11 = lv t x.p.a.rel + nI x.p ∧ w16 = w15, ?_, ?_⟩
  rotate_left
  · refine cond_intro (fun g => ⟨?_, rfl⟩) (fun g => ⟨?_, rfl⟩)
    · have : nI x.p = 1 := by unfold nI; rw [if_pos (by exact g)]
      rw [this]
      have hx' : lv t x.a.rel = lv t x.p.a.rel := rfl
      rw [← hx'] at hbdx hnnx ⊢
      rw [wrap64 (by omega) (by omega)]
    · have : nI x.p = 0 := by unfold nI; rw [if_neg (by show ¬ x.neg = true; rw [g]; simp)]
      rw [this]
      show lv t x.a.rel = lv t x.p.a.rel + 0
      have hx' : lv t x.a.rel = lv t x.p.a.rel := rfl
      omega
  rintro x11 w16 ⟨rfl, rfl⟩
  obtain ⟨p43, hp43, c1, c2, hr43⟩ := ownAt ho15 htl hh.1 hh.2
  refine ⟨_, b10'.cell 0, p43, hp43, c1, c2, _, hr43, Join.dir ?_⟩
  have hnext : ∀ (b : Bool) (w17 : World), Own 3 1 eI w.heap.size w17 s12 (stepB r.p.head.rel t x.p) → Ch s0 (stepB r.p.head.rel t x.p) b → Fr (BlS s12) w10 w17 → K2 b w17 := fun b w17 h1 h2 h3 => hK2 b w17 ⟨by rw [hst2]; exact h1, by rw [hst2]; exact h2, by
    rw [hst2]
    intro y hy
    have := stepB_bd (B := 7 + 3 * i + j) (by omega) hbd12 y hy
    omega, h3⟩
  refine cond_intro (fun g => ?_) (fun g => ?_)
  · have g : lv t r.p.head.rel < lv t x.p.a.rel + nI x.p := by simpa using g
    obtain ⟨p51, hp51, d1, d2, st, ho18, f18⟩ := ownSet ho15 htl hh.1 hh.2 (lv t x.p.a.rel + nI x.p)
    refine ⟨_, b10'.cell 0, p51, hp51, d1, d2, st, Let.intro fun w18 e18 => ?_⟩
    have e18 : w18 = put w16 p51.b (p51.o + Int.toNat r.p.head.rel * 1) [.int .i64 (lv t x.p.a.rel + nI x.p)] := e18
    rw [← e18] at ho18 f18
    refine hnext true w18 ?_ (.inr ⟨rfl, ?_⟩) ((f12.ext x15).trans f18 fun _ _ h => h)
    · unfold stepB; rw [if_pos g]; exact ho18
    · have h1 : sm t < sm (stepB r.p.head.rel t x.p) := by
        rcases stepB_sm (b := x.p) htl hh.1 hh.2 with h | h
        · omega
        · exact h.1
      rcases hch12 with ⟨_, h⟩ | ⟨_, h⟩
      · rw [h] at h1 ⊢; exact h1
      · omega
  · have g : ¬ lv t r.p.head.rel < lv t x.p.a.rel + nI x.p := by simpa using g
    have e : stepB r.p.head.rel t x.p = t := by unfold stepB; rw [if_neg g]
    exact hnext b6 w16 (by rw [e]; exact ho15) (by rw [e]; exact hch12) (f12.ext x15)
end Go.Proofs.Ytoljknamnkkgcaa
/-
  Contract: the model of rules, layer after layer.
-/
namespace Go.Proofs.Ytoljknamnkkgcaa
open Go Go.VC
set_option maxHeartbeats 1000000
set_option maxRecDepth 100000

/-! ### a universe -/
def U0 : List Ky := (List.range 6).flatMap fun r : Nat => (List.range 7).flatMap fun a : Nat => (List.range 7).map fun b : Nat => (⟨(r : Int), (a : Int), (b : Int)⟩ : Ky)
theorem U0_len : U0.length ≤ 1000 := by decide
def InU (k : Ky) : Prop := 0 ≤ k.rel ∧ k.rel ≤ 5 ∧ 0 ≤ k.a ∧ k.a ≤ 6 ∧ 0 ≤ k.b ∧ k.b ≤ 6
theorem mem_U0 {k : Ky} (h : InU k) : k ∈ U0 := by
  obtain ⟨h1, h2, h3, h4, h5, h6⟩ := h
  simp only [U0, List.mem_flatMap, List.mem_range, List.mem_map]
  refine ⟨k.rel.toNat, by omega, k.a.toNat, by omega, k.b.toNat, by omega, ?_⟩
  cases k
  simp only at h1 h2 h3 h4 h5 h6 ⊢
  congr 1 <;> omega
theorem few_of {S : Ky → Prop} (h : ∀ k, S k → InU k) : Few S := ⟨U0, U0_len, fun k hk => mem_U0 (h k hk)⟩
def Bd (v : List Int) : Prop := ∀ x ∈ v, 0 ≤ x ∧ x ≤ 6
theorem fitA_bd : ∀ {v l ns v' : List Int}, Bd v → Bd ns → fitA v l ns = some v' → Bd v'
  | _, [], _, _, hv, _, h => by simp [fitA] at h; subst h; exact hv
  | _, _ :: _, [], _, _, _, h => by simp [fitA] at h
  | v, x :: r, n :: ns, v', hv, hn, h => by
    rw [fitA] at h
    split at h
    · cases h
    · refine fitA_bd ?_ (fun y hy => hn y (List.mem_cons_of_mem _ hy)) h
      split
      · intro y hy
        rcases List.mem_or_eq_of_mem_set hy with hy | rfl
        · exact hv y hy
        · exact hn _ (by simp)
      · exact hv
theorem En_bd {In : Ky → Prop} (hIn : ∀ k, In k → InU k) : ∀ {l : List Li} {v u : List Int}, Bd v → En In l v u → Bd u
  | [], _, _, hv, h => by rw [h]; exact hv
  | b :: r, v, u, hv, h => by
    rw [En] at h
    split at h
    · exact En_bd hIn hv h
    · obtain ⟨g, v', h1, h2, h3⟩ := h
      obtain ⟨a1, a2, a3, a4, a5, a6⟩ := hIn g h1
      exact En_bd hIn (fitA_bd hv (by intro x hx; simp at hx; rcases hx with rfl | rfl <;> exact ⟨by omega, by omega⟩) h2.2) h3
theorem En_len {In : Ky → Prop} : ∀ {l : List Li} {v u : List Int}, En In l v u → u.length = v.length
  | [], _, _, h => by rw [h]
  | b :: r, v, u, h => by
    rw [En] at h
    split at h
    · exact En_len h
    · obtain ⟨g, v', h1, h2, h3⟩ := h
      rw [En_len h3, fitA_len h2.2]
theorem Bd_z8 : Bd z8 := by intro x hx; simp [z8] at hx; subst hx; omega
theorem gA_bd {u l : List Int} (hu : Bd u) (hl : ∀ x ∈ l, -6 ≤ x ∧ x ≤ 7) (i : Nat) : 0 ≤ gA u l i ∧ gA u l i ≤ 6 := by
  unfold gA
  cases h : l[i]? with
  | none => simp
  | some x =>
    have hx := hl x (List.mem_of_getElem? h)
    simp only [gV]
    split
    · omega
    · by_cases e : x.toNat < u.length
      · simp only [List.getD, List.getElem?_eq_getElem e, Option.getD_some]; exact hu _ (List.getElem_mem e)
      · simp [List.getD, List.getElem?_eq_none (show u.length ≤ x.toNat by omega)]
theorem gnd_in {f : Fa} (hf : FitsF f) {u : List Int} (hu : Bd u) : InU (gnd f u) := by
  have h0 := gA_bd hu hf.2.2.2.2 0
  have h1 := gA_bd hu hf.2.2.2.2 1
  exact ⟨hf.1, hf.2.1, h0.1, h0.2, h1.1, h1.2⟩
theorem Cl_in {l : List Ru} {G N : Ky → Prop} (hG : ∀ k, G k → InU k) (hl : ∀ r ∈ l, FitsF r.head) : ∀ k, Cl l G N k → InU k := fun k h => h InU hG fun r hr u h1 _ => gnd_in (hl r hr) (En_bd (fun _ h => h) Bd_z8 h1)
/-- The layers of a model. -/
def Lay (l : List Ru) (s : List Int) (G : Ky → Prop) : Nat → Ky → Prop
  | 0 => G
  | n + 1 => Cl (l.filter fun r => decide (lv s r.head.rel = (n : Int))) (Lay l s G n) (Lay l s G n)
theorem Lay_in {l : List Ru} {s : List Int} {G : Ky → Prop} (hG : ∀ k, G k → InU k) (hl : ∀ r ∈ l, FitsF r.head) : ∀ n k, Lay l s G n k → InU k
  | 0 => hG
  | n + 1 => Cl_in (Lay_in hG hl n) fun r hr => hl r ((List.mem_filter.1 hr).1)
theorem Cl_nil {G N : Ky → Prop} (k : Ky) : Cl [] G N k ↔ G k := Cl.eq (fun _ h => h) (fun r hr => by cases hr) (fun _ h => Cl.base h) k
theorem Lay_top {l : List Ru} {s : List Int} {G : Ky → Prop} {m : Nat} (hm : ∀ r ∈ l, lv s r.head.rel < (m : Int)) : ∀ d k, Lay l s G (m + d) k ↔ Lay l s G m k
  | 0, k => Iff.rfl
  | d + 1, k => by
    show Cl (l.filter fun r => decide (lv s r.head.rel = ((m + d : Nat) : Int))) (Lay l s G (m + d)) (Lay l s G (m + d)) k ↔ _
    have : (l.filter fun r => decide (lv s r.head.rel = ((m + d : Nat) : Int))) = [] := by
      rw [List.filter_eq_nil_iff]
      intro r hr
      have := hm r hr
      simp; omega
    rw [this, Cl_nil]
    exact Lay_top hm d k
/-- The model of rules with these strata. -/
def Mdl (l : List Ru) (s : List Int) (G : Ky → Prop) : Ky → Prop := Lay l s G 6
theorem E27 : Elem Try.prog 27 52 3 56 := Elem.of (by kernel_rfl) (by kernel_rfl) (by decide)
theorem FitsF.at {a : Fa} (h : FitsF a) : AtOk a := ⟨h.2.2.2.1, h.2.2.2.2⟩
theorem RuleP.ok {r : Ru} (h : RuleP r) : RuOk r := ⟨(h.2.2 r.head (by simp [Ru.atoms])).at, h.1, fun b hb => (h.2.2 b.a (by simp [Ru.atoms]; exact .inr ⟨b, hb, rfl⟩)).at⟩
theorem RuleP.rel {l : List Ru} (h : ∀ r ∈ l, RuleP r) : RelOk l := fun r hr a ha => ⟨((h r hr).2.2 a ha).1, ((h r hr).2.2 a ha).2.1⟩
theorem giv_in {fs : List Fa} (h : ∀ f ∈ fs, GroundF f) : ∀ k, giv fs k → InU k := by
  rintro k ⟨f, hf, rfl⟩
  obtain ⟨h1, h2, h3, h4, h5⟩ := h f hf
  have h0 : ∀ i, 0 ≤ f.args.getD i 0 ∧ f.args.getD i 0 ≤ 6 := fun i => by
    by_cases e : i < f.args.length
    · simp only [List.getD, List.getElem?_eq_getElem e, Option.getD_some]
      have := h5 _ (List.getElem_mem e); omega
    · simp [List.getD, List.getElem?_eq_none (show f.args.length ≤ i by omega)]
  exact ⟨h1, h2, (h0 0).1, (h0 0).2, (h0 1).1, (h0 1).2⟩
theorem filter_step' {α : Type} {l : List α} {i : Nat} (hi : i < l.length) {p : α → Bool} : (l.take (i + 1)).filter p = (l.take i).filter p ++ (if p l[i] = true then [l[i]] else []) := by
  rw [List.take_succ_eq_append_getElem hi, List.filter_append]
  by_cases h : p l[i] = true
  · simp [h]
  · simp [h]
theorem c56 {w : World} {s s' : Sl} {l : List DR} {fs : List DF} (hs : NR w s l) (hf : NF w s' fs) (hl : l.length ≤ 100) (hfl : fs.length ≤ 1000000) (hru : ∀ r ∈ l, RuleP r.p) (hgr : ∀ f ∈ fs, GroundF f.p) :
    Calls Try.prog 56 [.slice s.a s.n s.c, .slice s'.a s'.n s'.c].toArray w fun e w' => ∃ (m : Option Nat) (ok : Bool), e = .returned (.tuple [.map m, .bool ok].toArray) ∧
      (ok = true → ∃ t b, IsStr (l.map DR.p) t ∧ m = some b ∧ FM w' b (Mdl (l.map DR.p) t (giv (fs.map DF.p)))) ∧ (ok = false → ¬ ∃ t, IsStr (l.map DR.p) t) ∧ Ext w w' := by
  refine (call56 s s' (R := fun v w' => ∃ (m : Option Nat) (ok : Bool), v = (.tuple [.map m, .bool ok].toArray) ∧
      (ok = true → ∃ t b, IsStr (l.map DR.p) t ∧ m = some b ∧ FM w' b (Mdl (l.map DR.p) t (giv (fs.map DF.p)))) ∧ (ok = false → ¬ ∃ t, IsStr (l.map DR.p) t) ∧ Ext w w') ?_).mono fun e w' ⟨v, he, m, ok, hv, hx⟩ => ⟨m, ok, by rw [he, hv], hx⟩
  have hsn := hs.len
  have hruL : ∀ r ∈ l.map DR.p, RuleP r := fun r hr => by obtain ⟨x, hx, rfl⟩ := List.mem_map.1 hr; exact hru x hx
  have hR : RelOk (l.map DR.p) := RuleP.rel hruL
  have hgrL : ∀ f ∈ fs.map DF.p, GroundF f := fun f hf => by obtain ⟨x, hx, rfl⟩ := List.mem_map.1 hf; exact hgr x hx
  have hhead : ∀ r ∈ l.map DR.p, FitsF r.head := fun r hr => (hruL r hr).2.2 r.head (by simp [Ru.atoms])
  refine (c84 hs hl (fun r hr => by have := (hru r hr).1; simpa [DR.p] using this) hR).mono fun e w1 ⟨s1, ok, he, hok, hno, x1⟩ => ⟨s1, ok, he, ?_⟩
  refine cond_intro (fun g => ?_) (fun g => ?_)
  · have g : ok = false := by simpa using g
    refine ⟨none, false, rfl, (fun h => by cases h), fun _ ⟨t, ht⟩ => ?_, x1⟩
    obtain ⟨x, h0, h1, h2⟩ := (hno g).2 _ ht.isSol
    have := lv_le (by omega) (ht.le5 hR) x
    omega
  have g : ok = true := by simpa using g
  obtain ⟨t, hti, ht⟩ := hok g
  refine (c67 (hf.ext x1) (by show fs.length ≤ 9223372036854775807; omega) (fun x hx h => by have := (hgr x hx).2.2.1; simp [DF.p, h] at this)).mono fun e w2 ⟨b2, he, m2, _, x2⟩ => ⟨_, he, ?_⟩
  have ht0 := ht.len
  refine (c106 (hti.ext x2) (by rw [ht0]; decide) (by intro h; rw [h] at ht0; cases ht0)).mono fun e w3 ⟨mx, he, hmx, hw⟩ => ⟨_, he, ?_⟩
  subst hw
  have hm5 : mx ≤ 5 := (hmx 5).2 (ht.le5 hR)
  have hm0 : 0 ≤ mx := by
    have h1 := (hmx mx).1 (Int.le_refl _) t[0] (List.getElem_mem _)
    have h2 := ht.nn t[0] (List.getElem_mem _)
    omega
  have ew : IntKind.wrap .i64 (mx + 1) = ((mx.toNat + 1 : Nat) : Int) := by rw [wrap64 (by omega) (by omega)]; omega
  rw [ew]
  have x12 := x1.trans x2
  generalize hG : giv (fs.map DF.p) = G at m2 ⊢
  generalize hLL : l.map DR.p = L at *
  have hGin : ∀ k, G k → InU k := by rw [← hG]; exact giv_in hgrL
  refine Join.dir (rangeKI (k := .map) (n := mx.toNat + 1) (fun i (m : Option Nat) w5 => ∃ b, m = some b ∧ FM w5 b (Lay L t G i) ∧ Ext w1 w5) (by show mx.toNat + 1 ≤ 9223372036854775807; omega) ⟨b2, rfl, m2, x2⟩ ?_ ?_)
  rotate_left
  · rintro m w4 ⟨b, rfl, m4, x4⟩
    refine ⟨some b, true, rfl, fun _ => ⟨t, b, ht, rfl, m4.congr fun k => ?_⟩, (fun h => by cases h), x1.trans x4⟩
    have hlt : ∀ r ∈ L, lv t r.head.rel < ((mx.toNat + 1 : Nat) : Int) := fun r hr => by
      have := lv_le hm0 ((hmx mx).1 (Int.le_refl _)) r.head.rel
      omega
    have := Lay_top (G := G) hlt (6 - (mx.toNat + 1)) k
    rw [show mx.toNat + 1 + (6 - (mx.toNat + 1)) = 6 from by omega] at this
    exact this
  rintro i hi m w5 ⟨b, rfl, m5, x5⟩ K hK
  refine ⟨fun s10 w7 => ∃ part : List DR, Own 52 3 eR w5.heap.size w7 s10 part ∧ part = l.filter (fun r => decide (lv t r.p.head.rel = (i : Int))) ∧ Ext w5 w7, ?_, ?_⟩
  · rintro s10 w7 ⟨part, ho7, rfl, x7⟩
    have x07 := (x1.trans x5).trans x7
    have hps : NR w7 s10 (l.filter fun r => decide (lv t r.p.head.rel = (i : Int))) := ⟨ho7.sli, fun r hr => (hs.ext x07).ok r ((List.mem_filter.1 hr).1)⟩
    have hpm : (l.filter fun r => decide (lv t r.p.head.rel = (i : Int))).map DR.p = L.filter fun r => decide (lv t r.head.rel = (i : Int)) := by
      rw [← hLL, List.filter_map]; rfl
    have hin := Lay_in (s := t) hGin hhead (i + 1)
    have few : Few (Cl ((l.filter fun r => decide (lv t r.p.head.rel = (i : Int))).map DR.p) (Lay L t G i) (Lay L t G i)) := by rw [hpm]; exact few_of hin
    refine (c68 hps (m5.ext x7) (.inr ⟨b, rfl, m5.ext x7⟩) (by have := List.length_filter_le (fun r : DR => decide (lv t r.p.head.rel = (i : Int))) l; omega) (fun r hr => (hru r (List.mem_filter.1 hr).1).ok) few).mono fun e w8 ⟨b8, he, m8, _, x8⟩ => ⟨_, he, hK _ _ ⟨b8, rfl, ?_, (x5.trans x7).trans x8⟩⟩
    rw [hpm] at m8; exact m8
  · refine rangeSI (fun j (s10 : Sl) w9 => ∃ part : List DR, Own 52 3 eR w5.heap.size w9 s10 part ∧ part = (l.take j).filter (fun r => decide (lv t r.p.head.rel = (i : Int))) ∧ w5.heap.size ≤ w9.heap.size ∧ Ext w5 w9) (by rw [hsn]; show l.length ≤ 9223372036854775807; omega) ⟨[], Own.nil .., by simp, Nat.le_refl _, Fr.refl _ _⟩ ?_ ?_
    · rintro j hj s10 w9 ⟨part, ho9, rfl, z9, x9⟩ K2 hK2
      have hj : j < l.length := by omega
      have x09 := (x1.trans x5).trans x9
      refine loadR (hs.ext x09) hj fun w12 b12 x12' => ?_
      have hrel : 0 ≤ (l[j]).head.rel ∧ (l[j]).head.rel ≤ 5 := by
        have := (hru _ (List.getElem_mem hj)).2.2 (l[j]).p.head (by simp [Ru.atoms])
        exact ⟨this.1, this.2.1⟩
      have hfs := filter_step' (l := l) hj (p := fun r => decide (lv t r.p.head.rel = (i : Int)))
      have hplen := List.length_filter_le (fun r : DR => decide (lv t r.p.head.rel = (i : Int))) (l.take j)
      have htl : (l.take j).length ≤ l.length := by simp; omega
      generalize hrj : l[j] = r at b12 hrel hfs
      generalize (l.take j).filter (fun r => decide (lv t r.p.head.rel = (i : Int))) = part at ho9 hfs hplen
      have hti12 : Ints w12 s1 t := ((hti.ext x5).ext x9).ext x12'
      obtain ⟨n, hn⟩ : ∃ n : Nat, r.head.rel = n := ⟨r.head.rel.toNat, by omega⟩
      obtain ⟨p38, hp38, a1, a2, hr38⟩ := Ints.at hti12 (i := n) (by omega)
      have hlvn : t[n]'(by omega) = lv t r.p.head.rel := by
        show _ = lv t r.head.rel
        rw [hn]; simp [lv, List.getD, show n < t.length by omega]
      rw [hlvn] at hr38
      have b12' := b12.cell 0
      rw [show (eR r)[0]? = some (.int .i64 (n : Int)) from by rw [← hn]; rfl] at b12'
      refine ⟨(n : Int), b12', p38, hp38, a1, a2, _, hr38, Join.dir (cond_intro (fun g => ?_) (fun g => ?_))⟩
      · have g : lv t r.p.head.rel = (i : Int) := by simpa using g
        obtain ⟨q1, w14, hb14, q2, w15, hr15, ho15, hf15⟩ := appendOne E27 (ho9.ext x12') (x := r) (v := .agg (eR r).toArray) rfl eR_len eR_one (by omega) (by omega) (by simp only [maxLen]; omega) (by have := x12'.size; omega) 27
        refine ⟨_, _, _, b12.rd, q1, w14, hb14, q2, w15, hr15, hK2 _ _ ⟨_, ho15, ?_, by have := x12'.size; have := hf15.size; omega, (x9.trans x12').newer hf15 fun y ⟨a, ha, e⟩ => by have := ((ho9.ext x12').base ha).1; omega⟩⟩
        rw [hfs]; simp [g]
      · have g : ¬ lv t r.p.head.rel = (i : Int) := by simpa using g
        refine hK2 _ _ ⟨part, ho9.ext x12', ?_, by have := x12'.size; omega, x9.trans x12'⟩
        rw [hfs]; simp [g]
    · rintro s10 w9 ⟨part, ho9, hpart, z9, x9⟩
      rw [hsn, List.take_length] at hpart
      exact ⟨part, ho9, hpart, x9⟩
/-- Model. -/
theorem c16 {w : World} {s s' : Sl} {l : List DR} {fs : List DF} (hs : NR w s l) (hf : NF w s' fs) (hl : l.length ≤ 1000000) (hfl : fs.length ≤ 1000000) (hz : ∀ r ∈ l, SzR r) (hzf : ∀ f ∈ fs, f.args.length ≤ 1000) :
    Calls Try.prog 16 [.slice s.a s.n s.c, .slice s'.a s'.n s'.c].toArray w fun e w' => ∃ (s2 : Sl) (x : Int) (L : List DF), e = .returned (.tuple [.slice s2.a s2.n s2.c, .int .i64 x].toArray) ∧ NF w' s2 L ∧ L.length ≤ 1000 ∧
      ((¬ ValidP (l.map DR.p) (fs.map DF.p) ∧ x = 2 ∧ L = []) ∨ (ValidP (l.map DR.p) (fs.map DF.p) ∧ (¬ ∃ t, IsStr (l.map DR.p) t) ∧ x = 8 ∧ L = []) ∨
        (ValidP (l.map DR.p) (fs.map DF.p) ∧ ∃ t, IsStr (l.map DR.p) t ∧ x = 0 ∧ IsL (Mdl (l.map DR.p) t (giv (fs.map DF.p))) (L.map DF.p))) ∧ Ext w w' := by
  refine (call16 s s' (R := fun v w' => ∃ (s2 : Sl) (x : Int) (L : List DF), v = (.tuple [.slice s2.a s2.n s2.c, .int .i64 x].toArray) ∧ NF w' s2 L ∧ L.length ≤ 1000 ∧
      ((¬ ValidP (l.map DR.p) (fs.map DF.p) ∧ x = 2 ∧ L = []) ∨ (ValidP (l.map DR.p) (fs.map DF.p) ∧ (¬ ∃ t, IsStr (l.map DR.p) t) ∧ x = 8 ∧ L = []) ∨
        (ValidP (l.map DR.p) (fs.map DF.p) ∧ ∃ t, IsStr (l.map DR.p) t ∧ x = 0 ∧ IsL (Mdl (l.map DR.p) t (giv (fs.map DF.p))) (L.map DF.p))) ∧ Ext w w') ?_).mono fun e w' ⟨v, he, s2, x, L, hv, hx⟩ => ⟨s2, x, L, by rw [he, hv], hx⟩
  have hnil : ∀ w, NF w ⟨none, 0, 0⟩ [] := fun w => ⟨Sli.nil _ _, by simp⟩
  refine (c55 hs hf hl hfl hz hzf).mono fun e w1 ⟨b, he, hb, x1⟩ => ⟨b, he, cond_intro (fun g => ?_) (fun g => ?_)⟩
  · have g : b = false := by simpa using g
    exact ⟨⟨none, 0, 0⟩, 2, [], rfl, hnil _, by simp, .inl ⟨(fun h => by rw [hb.2 h] at g; cases g), rfl, rfl⟩, x1⟩
  have g : b = true := by simpa using g
  have hv := hb.1 g
  have hru : ∀ r ∈ l, RuleP r.p := fun r hr => hv.ru _ (List.mem_map.2 ⟨r, hr, rfl⟩)
  have hgr : ∀ f ∈ fs, GroundF f.p := fun f hf => hv.gr _ (List.mem_map.2 ⟨f, hf, rfl⟩)
  have hl10 : l.length ≤ 10 := by have := hv.nl; simpa using this
  refine (c56 (hs.ext x1) (hf.ext x1) (by omega) hfl hru hgr).mono fun e w2 ⟨m, ok, he, hok, hno, x2⟩ => ⟨m, ok, he, cond_intro (fun g2 => ?_) (fun g2 => ?_)⟩
  · have g2 : ok = false := by simpa using g2
    exact ⟨⟨none, 0, 0⟩, 8, [], rfl, hnil _, by simp, .inr (.inl ⟨hv, hno g2, rfl, rfl⟩), x1.trans x2⟩
  have g2 : ok = true := by simpa using g2
  obtain ⟨t, b2, ht, rfl, m2⟩ := hok g2
  have hin := Lay_in (s := t) (giv_in hv.gr) (fun r hr => (hv.ru r hr).2.2 r.head (by simp [Ru.atoms])) 6
  refine (c57 m2 (few_of hin)).mono fun e w3 ⟨s3, L, he, hL, hIs, hLl, x3⟩ => ⟨s3, he, s3, 0, L, rfl, hL, hLl, .inr (.inr ⟨hv, t, ht, rfl, hIs⟩), (x1.trans x2).trans x3⟩
end Go.Proofs.Ytoljknamnkkgcaa
/-
  Printed by a program of this session (wip/tools/vcprint.py): of each Go function the shallow form, and that the calculus comes to it, by the kernel.
-/
namespace Go.Proofs.Ytoljknamnkkgcaa
open Go Go.VC
set_option maxRecDepth 100000

/-- F17: cubeb/cubeblaw03.Of -/
def An17 : An := (.sq .lf (.sq .lf (.sq (.sq .lf (.bk [(3, .slice)] (.lp [(3, .slice), (11, .int .i64)] (.sq .lf (.sq (.cd .lf .lf) (.sq (.bk [(3, .slice)] (.sq .lf (.sq (.sq .lf (.cd .lf .lf)) (.sq .lf (.sq (.sq .lf (.bk [] (.lp [(25, .int .i64)] (.sq .lf (.sq (.cd .lf .lf) (.sq (.bk [] (.sq .lf (.sq .lf (.cj [] (.dr [0, 1, 2, 3, 4, 5, 6, 7, 8, 9, 10, 11] [11] true none) .lf)))) .lf)))))) .lf))))) .lf)))))) (.sq .lf .lf))))
def S17 (s0 : Sl) (R : Value → World → Prop) (w : World) : Prop :=
  Join [(3, .slice)] (fun (s3 : Sl) (w1 : World) => R (.slice s3.a s3.n s3.c) w1) (fun J =>
  LoopV [(3, .slice), (11, .int .i64)] (fun K => K ⟨none, 0, 0⟩ (0 : Int) w) (fun N => fun (s3_2 : Sl) (x11 : Int) (w2 : World) =>
  cond (decide (x11 < ((s0.n : Nat) : Int))) (
  Join [(3, .slice)] (fun (s3_3 : Sl) (w3 : World) => N ⟨s3_3.a, s3_3.n, s3_3.c⟩ (IntKind.wrap .i64 (x11 + (1 : Int))) w3) (fun J_2 =>
  ∃ p14 : Pt, s0.a = some ⟨p14.b, p14.o, none⟩ ∧ 0 ≤ x11 ∧ x11 < ((s0.n : Nat) : Int) ∧ ∃ x15_0 : Int, ∃ s15_1 : Sl, ∃ s15_2 : Sl, rd w2 p14.b (p14.o + Int.toNat x11 * 3) [(.int .i64 x15_0), (.slice s15_1.a s15_1.n s15_1.c), (.slice s15_2.a s15_2.n s15_2.c)] ∧ Let (w2.alloc (.cells (zc Try.prog 94) 94)) fun w4 => 
  StoreOk w4 w2.heap.size 0 [(.int .i64 x15_0), (.slice s15_1.a s15_1.n s15_1.c), (.slice s15_2.a s15_2.n s15_2.c)] 3 ∧ Let (put w4 w2.heap.size 0 [(.int .i64 x15_0), (.slice s15_1.a s15_1.n s15_1.c), (.slice s15_2.a s15_2.n s15_2.c)]) fun w5 => 
  cond (decide (x11 > (11 : Int))) (
  J ⟨s3_2.a, s3_2.n, s3_2.c⟩ w5) (
  ∃ x19_0 : Int, ∃ s19_1 : Sl, rd w5 w2.heap.size (0 + 0) [(.int .i64 x19_0), (.slice s19_1.a s19_1.n s19_1.c)] ∧ Calls Try.prog 58 [(.agg [(.int .i64 x19_0), (.slice s19_1.a s19_1.n s19_1.c)].toArray)].toArray w5 (fun e w6 => ∃ x20_0 : Int, ∃ s20_1 : Sl, e = .returned (.agg [(.int .i64 x20_0), (.slice s20_1.a s20_1.n s20_1.c)].toArray) ∧
  2 = 2 ∧ 2 ≤ 3 ∧ Let (w6.alloc (.cells (zc Try.prog 52) 52)) fun w7 => 
  StoreOk w7 w6.heap.size 0 [(.int .i64 x20_0), (.slice s20_1.a s20_1.n s20_1.c), (.slice none 0 0)] 3 ∧ Let (put w7 w6.heap.size 0 [(.int .i64 x20_0), (.slice s20_1.a s20_1.n s20_1.c), (.slice none 0 0)]) fun w8 => 
  ∃ s23 : Sl, World.cell? w8 ⟨w2.heap.size, (0 + 2), none⟩ = some (.slice s23.a s23.n s23.c) ∧ Join [] (fun (w9 : World) => ∃ x45_0 : Int, ∃ s45_1 : Sl, ∃ s45_2 : Sl, rd w9 w6.heap.size 0 [(.int .i64 x45_0), (.slice s45_1.a s45_1.n s45_1.c), (.slice s45_2.a s45_2.n s45_2.c)] ∧ ∃ (s46 : Sl) (w10 : World), Sem.run Try.prog (Instr.buildSlice 27 1 [(0, (.agg [(.int .i64 x45_0), (.slice s45_1.a s45_1.n s45_1.c), (.slice s45_2.a s45_2.n s45_2.c)].toArray))].toArray) w9 = .ok (.slice s46.a s46.n s46.c) w10 ∧
  ∃ (s47 : Sl) (w11 : World), Sem.run Try.prog (Builtin.append_ #[27, 27] 27 #[(.slice s3_2.a s3_2.n s3_2.c), (.slice s46.a s46.n s46.c)]) w10 = .ok (.slice s47.a s47.n s47.c) w11 ∧
  J_2 ⟨s47.a, s47.n, s47.c⟩ w11) (fun J_3 =>
  LoopV [(25, .int .i64)] (fun K => K (0 : Int) w8) (fun N_2 => fun (x25 : Int) (w12 : World) =>
  cond (decide (x25 < ((s23.n : Nat) : Int))) (
  Join [] (fun (w13 : World) => N_2 (IntKind.wrap .i64 (x25 + (1 : Int))) w13) (fun J_4 =>
  ∃ p28 : Pt, s23.a = some ⟨p28.b, p28.o, none⟩ ∧ 0 ≤ x25 ∧ x25 < ((s23.n : Nat) : Int) ∧ ∃ b29_0 : Bool, ∃ x29_1 : Int, ∃ s29_2 : Sl, rd w12 p28.b (p28.o + Int.toNat x25 * 3) [(.bool b29_0), (.int .i64 x29_1), (.slice s29_2.a s29_2.n s29_2.c)] ∧ Let (w12.alloc (.cells (zc Try.prog 96) 96)) fun w14 => 
  StoreOk w14 w12.heap.size 0 [(.bool b29_0), (.int .i64 x29_1), (.slice s29_2.a s29_2.n s29_2.c)] 3 ∧ Let (put w14 w12.heap.size 0 [(.bool b29_0), (.int .i64 x29_1), (.slice s29_2.a s29_2.n s29_2.c)]) fun w15 => 
  Join [] (fun (w16 : World) => J_4 w16) (fun J_5 =>
  cond (decide (x25 < (5 : Int))) (
  ∃ S1 : World → Prop, S1 w15.drew ∧ Let w15.drew fun w17 =>
  ∃ s33 : Sl, (∀ u, S1 u → World.cell? u ⟨w6.heap.size, (0 + 2), none⟩ = some (.slice s33.a s33.n s33.c)) ∧ ∃ b35 : Bool, (∀ u, S1 u → World.cell? u ⟨w12.heap.size, (0 + 0), none⟩ = some (.bool b35)) ∧ ∃ x37_0 : Int, ∃ s37_1 : Sl, (∀ u, S1 u → rd u w12.heap.size (0 + 1) [(.int .i64 x37_0), (.slice s37_1.a s37_1.n s37_1.c)]) ∧ Calls Try.prog 58 [(.agg [(.int .i64 x37_0), (.slice s37_1.a s37_1.n s37_1.c)].toArray)].toArray w17 (fun e_2 w18 => ∃ x38_0 : Int, ∃ s38_1 : Sl, e_2 = .returned (.agg [(.int .i64 x38_0), (.slice s38_1.a s38_1.n s38_1.c)].toArray) ∧
  S1 w18 ∧ 2 = 2 ∧ 3 ≤ 3 ∧ ∃ (s40 : Sl) (w19 : World), Sem.run Try.prog (Instr.buildSlice 50 1 [(0, (.agg [(.bool b35), (.int .i64 x38_0), (.slice s38_1.a s38_1.n s38_1.c)].toArray))].toArray) w18 = .ok (.slice s40.a s40.n s40.c) w19 ∧
  S1 w19 ∧ ∃ (s41 : Sl) (w20 : World), Sem.run Try.prog (Builtin.append_ #[50, 50] 50 #[(.slice s33.a s33.n s33.c), (.slice s40.a s40.n s40.c)]) w19 = .ok (.slice s41.a s41.n s41.c) w20 ∧
  S1 w20 ∧ StoreOk w20 w6.heap.size (0 + 2) [(.slice s41.a s41.n s41.c)] 1 ∧ Let (put w20 w6.heap.size (0 + 2) [(.slice s41.a s41.n s41.c)]) fun w21 => 
  J_5 w21)) (
  J_5 w15)))) (
  J_3 w12))))))) (
  J ⟨s3_2.a, s3_2.n, s3_2.c⟩ w2)))
theorem eq17 (s0 : Sl) (R : Value → World → Prop) (w : World) : funV Try.prog Try.f17 An17 [(.slice s0.a s0.n s0.c)] R w = S17 s0 R w := by kernel_rfl
theorem call17 (s0 : Sl) {R : Value → World → Prop} {w : World} (h : S17 s0 R w) : Calls Try.prog 17 [(.slice s0.a s0.n s0.c)].toArray w fun e w' => ∃ v, e = .returned v ∧ R v w' :=
  funV_calls mixed Try.func17 (an := An17) (by rw [eq17]; exact h)

/-- F18: cubeb/cubeblaw02.Facts -/
def An18 : An := (.sq .lf (.sq .lf (.sq (.sq .lf (.bk [(3, .slice)] (.lp [(3, .slice), (8, .int .i64)] (.sq .lf (.sq (.cd .lf .lf) (.sq (.bk [(3, .slice)] (.sq .lf (.sq (.sq .lf (.cd .lf .lf)) (.dr [0, 1, 2, 3, 4, 5, 6, 7, 8, 9] [] true none)))) .lf)))))) (.sq .lf .lf))))
def S18 (s0 : Sl) (R : Value → World → Prop) (w : World) : Prop :=
  Join [(3, .slice)] (fun (s3 : Sl) (w1 : World) => R (.slice s3.a s3.n s3.c) w1) (fun J =>
  LoopV [(3, .slice), (8, .int .i64)] (fun K => K ⟨none, 0, 0⟩ (0 : Int) w) (fun N => fun (s3_2 : Sl) (x8 : Int) (w2 : World) =>
  cond (decide (x8 < ((s0.n : Nat) : Int))) (
  Join [(3, .slice)] (fun (s3_3 : Sl) (w3 : World) => N ⟨s3_3.a, s3_3.n, s3_3.c⟩ (IntKind.wrap .i64 (x8 + (1 : Int))) w3) (fun J_2 =>
  ∃ p11 : Pt, s0.a = some ⟨p11.b, p11.o, none⟩ ∧ 0 ≤ x8 ∧ x8 < ((s0.n : Nat) : Int) ∧ ∃ x12_0 : Int, ∃ s12_1 : Sl, rd w2 p11.b (p11.o + Int.toNat x8 * 2) [(.int .i64 x12_0), (.slice s12_1.a s12_1.n s12_1.c)] ∧ Let (w2.alloc (.cells (zc Try.prog 36) 36)) fun w4 => 
  StoreOk w4 w2.heap.size 0 [(.int .i64 x12_0), (.slice s12_1.a s12_1.n s12_1.c)] 2 ∧ Let (put w4 w2.heap.size 0 [(.int .i64 x12_0), (.slice s12_1.a s12_1.n s12_1.c)]) fun w5 => 
  cond (decide (x8 > (25 : Int))) (
  J ⟨s3_2.a, s3_2.n, s3_2.c⟩ w5) (
  ∃ S1 : World → Prop, S1 w5.drew ∧ Let w5.drew fun w6 =>
  ∃ x17 : Int, (∀ u, S1 u → World.cell? u ⟨w2.heap.size, (0 + 0), none⟩ = some (.int .i64 x17)) ∧ ∃ s19 : Sl, (∀ u, S1 u → World.cell? u ⟨w2.heap.size, (0 + 1), none⟩ = some (.slice s19.a s19.n s19.c)) ∧ Calls Try.prog 59 [(.slice s19.a s19.n s19.c)].toArray w6 (fun e w7 => ∃ s20 : Sl, e = .returned (.slice s20.a s20.n s20.c) ∧
  S1 w7 ∧ ∃ (s22 : Sl) (w8 : World), Sem.run Try.prog (Instr.buildSlice 23 1 [(0, (.agg [(.int .i64 x17), (.slice s20.a s20.n s20.c)].toArray))].toArray) w7 = .ok (.slice s22.a s22.n s22.c) w8 ∧
  S1 w8 ∧ ∃ (s23 : Sl) (w9 : World), Sem.run Try.prog (Builtin.append_ #[23, 23] 23 #[(.slice s3_2.a s3_2.n s3_2.c), (.slice s22.a s22.n s22.c)]) w8 = .ok (.slice s23.a s23.n s23.c) w9 ∧
  S1 w9 ∧ J_2 ⟨s23.a, s23.n, s23.c⟩ w9)))) (
  J ⟨s3_2.a, s3_2.n, s3_2.c⟩ w2)))
theorem eq18 (s0 : Sl) (R : Value → World → Prop) (w : World) : funV Try.prog Try.f18 An18 [(.slice s0.a s0.n s0.c)] R w = S18 s0 R w := by kernel_rfl
theorem call18 (s0 : Sl) {R : Value → World → Prop} {w : World} (h : S18 s0 R w) : Calls Try.prog 18 [(.slice s0.a s0.n s0.c)].toArray w fun e w' => ∃ v, e = .returned v ∧ R v w' :=
  funV_calls mixed Try.func18 (an := An18) (by rw [eq18]; exact h)

/-- F20: cubeb/cubeblaw03.awake -/
def An20 : An := (.sq .lf (.sq .lf (.sq (.rj [] [(0, .bool)]) .lf)))
def S20  (R : Value → World → Prop) (w : World) : Prop :=
  ∃ (s4 : Sl) (w1 : World), Sem.run Try.prog (Instr.buildSlice 34 1 [(0, (.int .i64 (0 : Int)))].toArray) w = .ok (.slice s4.a s4.n s4.c) w1 ∧
  ∃ (s6 : Sl) (w2 : World), Sem.run Try.prog (Instr.buildSlice 34 1 [(0, (.int .i64 (0 : Int)))].toArray) w1 = .ok (.slice s6.a s6.n s6.c) w2 ∧
  2 = 2 ∧ 3 ≤ 3 ∧ ∃ (s9 : Sl) (w3 : World), Sem.run Try.prog (Instr.buildSlice 50 1 [(0, (.agg [(.bool false), (.int .i64 (0 : Int)), (.slice s6.a s6.n s6.c)].toArray))].toArray) w2 = .ok (.slice s9.a s9.n s9.c) w3 ∧
  2 = 2 ∧ 2 ≤ 3 ∧ ∃ (s11 : Sl) (w4 : World), Sem.run Try.prog (Instr.buildSlice 27 1 [(0, (.agg [(.int .i64 (1 : Int)), (.slice s4.a s4.n s4.c), (.slice s9.a s9.n s9.c)].toArray))].toArray) w3 = .ok (.slice s11.a s11.n s11.c) w4 ∧
  ∃ (s12 : Sl) (w5 : World), Sem.run Try.prog (Instr.buildSlice 34 1 [(0, (.int .i64 (3 : Int)))].toArray) w4 = .ok (.slice s12.a s12.n s12.c) w5 ∧
  ∃ (s14 : Sl) (w6 : World), Sem.run Try.prog (Instr.buildSlice 23 1 [(0, (.agg [(.int .i64 (0 : Int)), (.slice s12.a s12.n s12.c)].toArray))].toArray) w5 = .ok (.slice s14.a s14.n s14.c) w6 ∧
  Calls Try.prog 16 [(.slice s11.a s11.n s11.c), (.slice s14.a s14.n s14.c)].toArray w6 (fun e w7 => ∃ s15_0 : Sl, ∃ x15_1 : Int, e = .returned (.tuple [(.slice s15_0.a s15_0.n s15_0.c), (.int .i64 x15_1)].toArray) ∧
  Join [(0, .bool)] (fun (b0 : Bool) (w8 : World) => R (.bool b0) w8) (fun J =>
  cond (x15_1 == (0 : Int)) (∃ (s22 : Sl) (w9 : World), Sem.run Try.prog (Instr.buildSlice 34 1 [(0, (.int .i64 (3 : Int)))].toArray) w7 = .ok (.slice s22.a s22.n s22.c) w9 ∧
  ∃ (s24 : Sl) (w10 : World), Sem.run Try.prog (Instr.buildSlice 34 1 [(0, (.int .i64 (3 : Int)))].toArray) w9 = .ok (.slice s24.a s24.n s24.c) w10 ∧
  ∃ (s26 : Sl) (w11 : World), Sem.run Try.prog (Instr.buildSlice 23 2 [(0, (.agg [(.int .i64 (0 : Int)), (.slice s22.a s22.n s22.c)].toArray)), (1, (.agg [(.int .i64 (1 : Int)), (.slice s24.a s24.n s24.c)].toArray))].toArray) w10 = .ok (.slice s26.a s26.n s26.c) w11 ∧
  Calls Try.prog 21 [(.slice s15_0.a s15_0.n s15_0.c), (.slice s26.a s26.n s26.c)].toArray w11 (fun e_2 w12 => ∃ b27 : Bool, e_2 = .returned (.bool b27) ∧
  J b27 w12)) (J false w7)))
theorem eq20  (R : Value → World → Prop) (w : World) : funV Try.prog Try.f20 An20 [] R w = S20  R w := by kernel_rfl
theorem call20  {R : Value → World → Prop} {w : World} (h : S20  R w) : Calls Try.prog 20 [].toArray w fun e w' => ∃ v, e = .returned v ∧ R v w' :=
  funV_calls mixed Try.func20 (an := An20) (by rw [eq20]; exact h)

/-- F21: cubeb/cubeblaw02.Same -/
def An21 : An := (.sq .lf (.sq .lf .lf))
def S21 (s0 : Sl) (s1 : Sl) (R : Value → World → Prop) (w : World) : Prop :=
  Calls Try.prog 60 [(.slice s0.a s0.n s0.c), (.slice s1.a s1.n s1.c), (.func (.func 61) #[] [].toArray)].toArray w (fun e w1 => ∃ b7 : Bool, e = .returned (.bool b7) ∧
  R (.bool b7) w1)
theorem eq21 (s0 : Sl) (s1 : Sl) (R : Value → World → Prop) (w : World) : funV Try.prog Try.f21 An21 [(.slice s0.a s0.n s0.c), (.slice s1.a s1.n s1.c)] R w = S21 s0 s1 R w := by kernel_rfl
theorem call21 (s0 : Sl) (s1 : Sl) {R : Value → World → Prop} {w : World} (h : S21 s0 s1 R w) : Calls Try.prog 21 [(.slice s0.a s0.n s0.c), (.slice s1.a s1.n s1.c)].toArray w fun e w' => ∃ v, e = .returned v ∧ R v w' :=
  funV_calls mixed Try.func21 (an := An21) (by rw [eq21]; exact h)

/-- F58: cubeb/cubeblaw03.atom -/
def An58 : An := (.sq .lf (.sq (.dr [0, 1, 2, 3, 4, 5, 6, 7, 8, 9, 10, 11] [11] true none) .lf))
def S58 (x0_0 : Int) (s0_1 : Sl) (R : Value → World → Prop) (w : World) : Prop :=
  Let (w.alloc (.cells [(.int .i64 x0_0), (.slice s0_1.a s0_1.n s0_1.c)].toArray 91)) fun w1 => 
  Let (w1.alloc (.cells (zc Try.prog 48) 48)) fun w2 => 
  ∃ S1 : World → Prop, S1 w2.drew ∧ Let w2.drew fun w3 =>
  ∃ x4 : Int, (∀ u, S1 u → World.cell? u ⟨w.heap.size, (0 + 0), none⟩ = some (.int .i64 x4)) ∧ ∃ s6 : Sl, (∀ u, S1 u → World.cell? u ⟨w.heap.size, (0 + 1), none⟩ = some (.slice s6.a s6.n s6.c)) ∧ ∃ s8 : Sl, (∀ u, S1 u → World.cell? u ⟨w.heap.size, (0 + 1), none⟩ = some (.slice s8.a s8.n s8.c)) ∧ 0 ≤ (if (5 : Int) < ((s8.n : Nat) : Int) then (5 : Int) else ((s8.n : Nat) : Int)) ∧ (if (5 : Int) < ((s8.n : Nat) : Int) then (5 : Int) else ((s8.n : Nat) : Int)) ≤ ((s6.c : Nat) : Int) ∧ Calls Try.prog 64 [(.slice s6.a (Int.toNat (if (5 : Int) < ((s8.n : Nat) : Int) then (5 : Int) else ((s8.n : Nat) : Int))) s6.c)].toArray w3 (fun e w4 => ∃ s12 : Sl, e = .returned (.slice s12.a s12.n s12.c) ∧
  S1 w4 ∧ StoreOk w4 w1.heap.size 0 [(.int .i64 x4), (.slice s12.a s12.n s12.c)] 2 ∧ Let (put w4 w1.heap.size 0 [(.int .i64 x4), (.slice s12.a s12.n s12.c)]) fun w5 => 
  ∃ xr2_0 : Int, ∃ sr2_1 : Sl, rd w5 w1.heap.size 0 [(.int .i64 xr2_0), (.slice sr2_1.a sr2_1.n sr2_1.c)] ∧ R (.agg [(.int .i64 xr2_0), (.slice sr2_1.a sr2_1.n sr2_1.c)].toArray) w5)
theorem eq58 (x0_0 : Int) (s0_1 : Sl) (R : Value → World → Prop) (w : World) : funV Try.prog Try.f58 An58 [(.agg [(.int .i64 x0_0), (.slice s0_1.a s0_1.n s0_1.c)].toArray)] R w = S58 x0_0 s0_1 R w := by kernel_rfl
theorem call58 (x0_0 : Int) (s0_1 : Sl) {R : Value → World → Prop} {w : World} (h : S58 x0_0 s0_1 R w) : Calls Try.prog 58 [(.agg [(.int .i64 x0_0), (.slice s0_1.a s0_1.n s0_1.c)].toArray)].toArray w fun e w' => ∃ v, e = .returned v ∧ R v w' :=
  funV_calls mixed Try.func58 (an := An58) (by rw [eq58]; exact h)

/-- F59: cubeb/cubeblaw02.few -/
def An59 : An := (.sq .lf (.sq .lf .lf))
def S59 (s0 : Sl) (R : Value → World → Prop) (w : World) : Prop :=
  0 ≤ (if (9 : Int) < ((s0.n : Nat) : Int) then (9 : Int) else ((s0.n : Nat) : Int)) ∧ (if (9 : Int) < ((s0.n : Nat) : Int) then (9 : Int) else ((s0.n : Nat) : Int)) ≤ ((s0.c : Nat) : Int) ∧ Calls Try.prog 64 [(.slice s0.a (Int.toNat (if (9 : Int) < ((s0.n : Nat) : Int) then (9 : Int) else ((s0.n : Nat) : Int))) s0.c)].toArray w (fun e w1 => ∃ s8 : Sl, e = .returned (.slice s8.a s8.n s8.c) ∧
  R (.slice s8.a s8.n s8.c) w1)
theorem eq59 (s0 : Sl) (R : Value → World → Prop) (w : World) : funV Try.prog Try.f59 An59 [(.slice s0.a s0.n s0.c)] R w = S59 s0 R w := by kernel_rfl
theorem call59 (s0 : Sl) {R : Value → World → Prop} {w : World} (h : S59 s0 R w) : Calls Try.prog 59 [(.slice s0.a s0.n s0.c)].toArray w fun e w' => ∃ v, e = .returned v ∧ R v w' :=
  funV_calls mixed Try.func59 (an := An59) (by rw [eq59]; exact h)

/-- F60: slices.EqualFunc[[]cubeb/api.Fact,[]cubeb/api.Fact,cubeb/api.Fact,cubeb/api.Fact] -/
def An60 : An := (.sq .lf (.sq (.sq .lf (.cd (.sq .lf .lf) .lf)) (.sq (.sq .lf (.bk [] (.lp [(17, .int .i64)] (.sq .lf (.sq (.cd .lf .lf) (.sq (.bk [] (.sq .lf (.sq .lf (.sq .lf (.cd (.sq .lf .lf) .lf))))) .lf)))))) (.sq .lf .lf))))
def S60 (s0 : Sl) (s1 : Sl) (f2 : Nat) (c2 : List Value) (R : Value → World → Prop) (w : World) : Prop :=
  cond (((s0.n : Nat) : Int) != ((s1.n : Nat) : Int)) (
  R (.bool false) w) (
  Join [] (fun (w1 : World) => R (.bool true) w1) (fun J =>
  LoopV [(17, .int .i64)] (fun K => K (0 : Int) w) (fun N => fun (x17 : Int) (w2 : World) =>
  cond (decide (x17 < ((s0.n : Nat) : Int))) (
  Join [] (fun (w3 : World) => N (IntKind.wrap .i64 (x17 + (1 : Int))) w3) (fun J_2 =>
  ∃ p20 : Pt, s0.a = some ⟨p20.b, p20.o, none⟩ ∧ 0 ≤ x17 ∧ x17 < ((s0.n : Nat) : Int) ∧ ∃ x21_0 : Int, ∃ s21_1 : Sl, rd w2 p20.b (p20.o + Int.toNat x17 * 2) [(.int .i64 x21_0), (.slice s21_1.a s21_1.n s21_1.c)] ∧ Let (w2.alloc (.cells (zc Try.prog 36) 36)) fun w4 => 
  StoreOk w4 w2.heap.size 0 [(.int .i64 x21_0), (.slice s21_1.a s21_1.n s21_1.c)] 2 ∧ Let (put w4 w2.heap.size 0 [(.int .i64 x21_0), (.slice s21_1.a s21_1.n s21_1.c)]) fun w5 => 
  ∃ p24 : Pt, s1.a = some ⟨p24.b, p24.o, none⟩ ∧ 0 ≤ x17 ∧ x17 < ((s1.n : Nat) : Int) ∧ ∃ x25_0 : Int, ∃ s25_1 : Sl, rd w5 p24.b (p24.o + Int.toNat x17 * 2) [(.int .i64 x25_0), (.slice s25_1.a s25_1.n s25_1.c)] ∧ Let (w5.alloc (.cells (zc Try.prog 36) 36)) fun w6 => 
  StoreOk w6 w5.heap.size 0 [(.int .i64 x25_0), (.slice s25_1.a s25_1.n s25_1.c)] 2 ∧ Let (put w6 w5.heap.size 0 [(.int .i64 x25_0), (.slice s25_1.a s25_1.n s25_1.c)]) fun w7 => 
  ∃ x27_0 : Int, ∃ s27_1 : Sl, rd w7 w2.heap.size 0 [(.int .i64 x27_0), (.slice s27_1.a s27_1.n s27_1.c)] ∧ ∃ x28_0 : Int, ∃ s28_1 : Sl, rd w7 w5.heap.size 0 [(.int .i64 x28_0), (.slice s28_1.a s28_1.n s28_1.c)] ∧ (bif callable Try.prog f2 then Calls Try.prog f2 (([(.agg [(.int .i64 x27_0), (.slice s27_1.a s27_1.n s27_1.c)].toArray), (.agg [(.int .i64 x28_0), (.slice s28_1.a s28_1.n s28_1.c)].toArray)] : List Value) ++ c2).toArray w7 (fun e w8 => ∃ b29 : Bool, e = .returned (.bool b29) ∧
  cond (!b29) (
  R (.bool false) w8) (
  J_2 w8)) else False))) (
  J w2))))
theorem eq60 (s0 : Sl) (s1 : Sl) (f2 : Nat) (c2 : List Value) (R : Value → World → Prop) (w : World) : funV Try.prog Try.f60 An60 [(.slice s0.a s0.n s0.c), (.slice s1.a s1.n s1.c), (.func (.func f2) #[] c2.toArray)] R w = S60 s0 s1 f2 c2 R w := by kernel_rfl
theorem call60 (s0 : Sl) (s1 : Sl) (f2 : Nat) (c2 : List Value) {R : Value → World → Prop} {w : World} (h : S60 s0 s1 f2 c2 R w) : Calls Try.prog 60 [(.slice s0.a s0.n s0.c), (.slice s1.a s1.n s1.c), (.func (.func f2) #[] c2.toArray)].toArray w fun e w' => ∃ v, e = .returned v ∧ R v w' :=
  funV_calls mixed Try.func60 (an := An60) (by rw [eq60]; exact h)

/-- F61: cubeb/cubeblaw02.Same$1 -/
def An61 : An := (.sq .lf (.sq (.rj [] [(4, .bool)]) .lf))
def S61 (x0_0 : Int) (s0_1 : Sl) (x1_0 : Int) (s1_1 : Sl) (R : Value → World → Prop) (w : World) : Prop :=
  Let (w.alloc (.cells [(.int .i64 x0_0), (.slice s0_1.a s0_1.n s0_1.c)].toArray 36)) fun w1 => 
  Let (w1.alloc (.cells [(.int .i64 x1_0), (.slice s1_1.a s1_1.n s1_1.c)].toArray 36)) fun w2 => 
  Join [(4, .bool)] (fun (b4 : Bool) (w3 : World) => R (.bool b4) w3) (fun J =>
  ∃ x6 : Int, World.cell? w2 ⟨w.heap.size, (0 + 0), none⟩ = some (.int .i64 x6) ∧ ∃ x8 : Int, World.cell? w2 ⟨w1.heap.size, (0 + 0), none⟩ = some (.int .i64 x8) ∧ cond (x6 == x8) (∃ s12 : Sl, World.cell? w2 ⟨w.heap.size, (0 + 1), none⟩ = some (.slice s12.a s12.n s12.c) ∧ ∃ s14 : Sl, World.cell? w2 ⟨w1.heap.size, (0 + 1), none⟩ = some (.slice s14.a s14.n s14.c) ∧ Calls Try.prog 32 [(.slice s12.a s12.n s12.c), (.slice s14.a s14.n s14.c)].toArray w2 (fun e w4 => ∃ b15 : Bool, e = .returned (.bool b15) ∧
  J b15 w4)) (J false w2))
theorem eq61 (x0_0 : Int) (s0_1 : Sl) (x1_0 : Int) (s1_1 : Sl) (R : Value → World → Prop) (w : World) : funV Try.prog Try.f61 An61 [(.agg [(.int .i64 x0_0), (.slice s0_1.a s0_1.n s0_1.c)].toArray), (.agg [(.int .i64 x1_0), (.slice s1_1.a s1_1.n s1_1.c)].toArray)] R w = S61 x0_0 s0_1 x1_0 s1_1 R w := by kernel_rfl
theorem call61 (x0_0 : Int) (s0_1 : Sl) (x1_0 : Int) (s1_1 : Sl) {R : Value → World → Prop} {w : World} (h : S61 x0_0 s0_1 x1_0 s1_1 R w) : Calls Try.prog 61 [(.agg [(.int .i64 x0_0), (.slice s0_1.a s0_1.n s0_1.c)].toArray), (.agg [(.int .i64 x1_0), (.slice s1_1.a s1_1.n s1_1.c)].toArray)].toArray w fun e w' => ∃ v, e = .returned v ∧ R v w' :=
  funV_calls mixed Try.func61 (an := An61) (by rw [eq61]; exact h)

/-- F64: slices.Clone[[]int,int] -/
def An64 : An := (.sq .lf (.sq (.sq .lf (.cd (.sq .lf .lf) .lf)) (.sq .lf .lf)))
def S64 (s0 : Sl) (R : Value → World → Prop) (w : World) : Prop :=
  cond (Option.isNone s0.a) (
  R (.slice none 0 0) w) (
  ∃ (s5 : Sl) (w1 : World), Sem.run Try.prog (Instr.buildSlice 34 0 [].toArray) w = .ok (.slice s5.a s5.n s5.c) w1 ∧
  ∃ (s7 : Sl) (w2 : World), Sem.run Try.prog (Builtin.append_ #[34, 34] 34 #[(.slice s5.a s5.n s5.c), (.slice s0.a s0.n s0.c)]) w1 = .ok (.slice s7.a s7.n s7.c) w2 ∧
  R (.slice s7.a s7.n s7.c) w2)
theorem eq64 (s0 : Sl) (R : Value → World → Prop) (w : World) : funV Try.prog Try.f64 An64 [(.slice s0.a s0.n s0.c)] R w = S64 s0 R w := by kernel_rfl
theorem call64 (s0 : Sl) {R : Value → World → Prop} {w : World} (h : S64 s0 R w) : Calls Try.prog 64 [(.slice s0.a s0.n s0.c)].toArray w fun e w' => ∃ v, e = .returned v ∧ R v w' :=
  funV_calls mixed Try.func64 (an := An64) (by rw [eq64]; exact h)

/-- F23: cubeb/cubeblaw03.fact -/
def An23 : An := (.sq .lf (.sq (.dr [0, 1, 2, 3, 4, 5, 6, 7, 8, 9, 10, 11] [11] true none) .lf))
def S23 (x0_0 : Int) (s0_1 : Sl) (R : Value → World → Prop) (w : World) : Prop :=
  Let (w.alloc (.cells [(.int .i64 x0_0), (.slice s0_1.a s0_1.n s0_1.c)].toArray 36)) fun w1 => 
  Let (w1.alloc (.cells (zc Try.prog 36) 36)) fun w2 => 
  ∃ S1 : World → Prop, S1 w2.drew ∧ Let w2.drew fun w3 =>
  ∃ x4 : Int, (∀ u, S1 u → World.cell? u ⟨w.heap.size, (0 + 0), none⟩ = some (.int .i64 x4)) ∧ ∃ s6 : Sl, (∀ u, S1 u → World.cell? u ⟨w.heap.size, (0 + 1), none⟩ = some (.slice s6.a s6.n s6.c)) ∧ ∃ s8 : Sl, (∀ u, S1 u → World.cell? u ⟨w.heap.size, (0 + 1), none⟩ = some (.slice s8.a s8.n s8.c)) ∧ 0 ≤ (if (5 : Int) < ((s8.n : Nat) : Int) then (5 : Int) else ((s8.n : Nat) : Int)) ∧ (if (5 : Int) < ((s8.n : Nat) : Int) then (5 : Int) else ((s8.n : Nat) : Int)) ≤ ((s6.c : Nat) : Int) ∧ Calls Try.prog 64 [(.slice s6.a (Int.toNat (if (5 : Int) < ((s8.n : Nat) : Int) then (5 : Int) else ((s8.n : Nat) : Int))) s6.c)].toArray w3 (fun e w4 => ∃ s12 : Sl, e = .returned (.slice s12.a s12.n s12.c) ∧
  S1 w4 ∧ StoreOk w4 w1.heap.size 0 [(.int .i64 x4), (.slice s12.a s12.n s12.c)] 2 ∧ Let (put w4 w1.heap.size 0 [(.int .i64 x4), (.slice s12.a s12.n s12.c)]) fun w5 => 
  ∃ xr2_0 : Int, ∃ sr2_1 : Sl, rd w5 w1.heap.size 0 [(.int .i64 xr2_0), (.slice sr2_1.a sr2_1.n sr2_1.c)] ∧ R (.agg [(.int .i64 xr2_0), (.slice sr2_1.a sr2_1.n sr2_1.c)].toArray) w5)
theorem eq23 (x0_0 : Int) (s0_1 : Sl) (R : Value → World → Prop) (w : World) : funV Try.prog Try.f23 An23 [(.agg [(.int .i64 x0_0), (.slice s0_1.a s0_1.n s0_1.c)].toArray)] R w = S23 x0_0 s0_1 R w := by kernel_rfl
theorem call23 (x0_0 : Int) (s0_1 : Sl) {R : Value → World → Prop} {w : World} (h : S23 x0_0 s0_1 R w) : Calls Try.prog 23 [(.agg [(.int .i64 x0_0), (.slice s0_1.a s0_1.n s0_1.c)].toArray)].toArray w fun e w' => ∃ v, e = .returned v ∧ R v w' :=
  funV_calls mixed Try.func23 (an := An23) (by rw [eq23]; exact h)

/-- F24: cubeb/cubeblaw03.within -/
def An24 : An := (.sq .lf (.sq .lf .lf))
def S24 (s0 : Sl) (x1_0 : Int) (s1_1 : Sl) (R : Value → World → Prop) (w : World) : Prop :=
  Let (w.alloc (.cells [(.int .i64 x1_0), (.slice s1_1.a s1_1.n s1_1.c)].toArray 36)) fun w1 => 
  Calls Try.prog 65 [(.slice s0.a s0.n s0.c), (.func (.func 66) #[] [(.pointer (some ⟨w.heap.size, 0, none⟩))].toArray)].toArray w1 (fun e w2 => ∃ b7 : Bool, e = .returned (.bool b7) ∧
  R (.bool b7) w2)
theorem eq24 (s0 : Sl) (x1_0 : Int) (s1_1 : Sl) (R : Value → World → Prop) (w : World) : funV Try.prog Try.f24 An24 [(.slice s0.a s0.n s0.c), (.agg [(.int .i64 x1_0), (.slice s1_1.a s1_1.n s1_1.c)].toArray)] R w = S24 s0 x1_0 s1_1 R w := by kernel_rfl
theorem call24 (s0 : Sl) (x1_0 : Int) (s1_1 : Sl) {R : Value → World → Prop} {w : World} (h : S24 s0 x1_0 s1_1 R w) : Calls Try.prog 24 [(.slice s0.a s0.n s0.c), (.agg [(.int .i64 x1_0), (.slice s1_1.a s1_1.n s1_1.c)].toArray)].toArray w fun e w' => ∃ v, e = .returned v ∧ R v w' :=
  funV_calls mixed Try.func24 (an := An24) (by rw [eq24]; exact h)

/-- F65: slices.ContainsFunc[[]cubeb/api.Fact,cubeb/api.Fact] -/
def An65 : An := (.sq .lf (.sq .lf .lf))
def S65 (s0 : Sl) (f1 : Nat) (c1 : List Value) (R : Value → World → Prop) (w : World) : Prop :=
  Calls Try.prog 91 [(.slice s0.a s0.n s0.c), (.func (.func f1) #[] c1.toArray)].toArray w (fun e w1 => ∃ x7 : Int, e = .returned (.int .i64 x7) ∧
  R (.bool (decide (x7 ≥ (0 : Int)))) w1)
theorem eq65 (s0 : Sl) (f1 : Nat) (c1 : List Value) (R : Value → World → Prop) (w : World) : funV Try.prog Try.f65 An65 [(.slice s0.a s0.n s0.c), (.func (.func f1) #[] c1.toArray)] R w = S65 s0 f1 c1 R w := by kernel_rfl
theorem call65 (s0 : Sl) (f1 : Nat) (c1 : List Value) {R : Value → World → Prop} {w : World} (h : S65 s0 f1 c1 R w) : Calls Try.prog 65 [(.slice s0.a s0.n s0.c), (.func (.func f1) #[] c1.toArray)].toArray w fun e w' => ∃ v, e = .returned v ∧ R v w' :=
  funV_calls mixed Try.func65 (an := An65) (by rw [eq65]; exact h)

/-- F91: slices.IndexFunc[[]cubeb/api.Fact,cubeb/api.Fact] -/
def An91 : An := (.sq .lf (.sq (.sq .lf (.bk [] (.lp [(8, .int .i64)] (.sq .lf (.sq (.cd .lf .lf) (.sq (.bk [] (.sq .lf (.sq .lf (.cd (.sq .lf .lf) .lf)))) .lf)))))) (.sq .lf .lf)))
def S91 (s0 : Sl) (f1 : Nat) (c1 : List Value) (R : Value → World → Prop) (w : World) : Prop :=
  Join [] (fun (w1 : World) => R (.int .i64 (-1 : Int)) w1) (fun J =>
  LoopV [(8, .int .i64)] (fun K => K (0 : Int) w) (fun N => fun (x8 : Int) (w2 : World) =>
  cond (decide (x8 < ((s0.n : Nat) : Int))) (
  Join [] (fun (w3 : World) => N (IntKind.wrap .i64 (x8 + (1 : Int))) w3) (fun J_2 =>
  ∃ p14 : Pt, s0.a = some ⟨p14.b, p14.o, none⟩ ∧ 0 ≤ x8 ∧ x8 < ((s0.n : Nat) : Int) ∧ ∃ x15_0 : Int, ∃ s15_1 : Sl, rd w2 p14.b (p14.o + Int.toNat x8 * 2) [(.int .i64 x15_0), (.slice s15_1.a s15_1.n s15_1.c)] ∧ (bif callable Try.prog f1 then Calls Try.prog f1 (([(.agg [(.int .i64 x15_0), (.slice s15_1.a s15_1.n s15_1.c)].toArray)] : List Value) ++ c1).toArray w2 (fun e w4 => ∃ b16 : Bool, e = .returned (.bool b16) ∧
  cond b16 (
  R (.int .i64 x8) w4) (
  J_2 w4)) else False))) (
  J w2)))
theorem eq91 (s0 : Sl) (f1 : Nat) (c1 : List Value) (R : Value → World → Prop) (w : World) : funV Try.prog Try.f91 An91 [(.slice s0.a s0.n s0.c), (.func (.func f1) #[] c1.toArray)] R w = S91 s0 f1 c1 R w := by kernel_rfl
theorem call91 (s0 : Sl) (f1 : Nat) (c1 : List Value) {R : Value → World → Prop} {w : World} (h : S91 s0 f1 c1 R w) : Calls Try.prog 91 [(.slice s0.a s0.n s0.c), (.func (.func f1) #[] c1.toArray)].toArray w fun e w' => ∃ v, e = .returned v ∧ R v w' :=
  funV_calls mixed Try.func91 (an := An91) (by rw [eq91]; exact h)

/-- F66: cubeb/cubeblaw03.within$1 -/
def An66 : An := (.sq .lf (.sq (.rj [] [(3, .bool)]) .lf))
def S66 (x0_0 : Int) (s0_1 : Sl) (p1 : Pt) (R : Value → World → Prop) (w : World) : Prop :=
  Let (w.alloc (.cells [(.int .i64 x0_0), (.slice s0_1.a s0_1.n s0_1.c)].toArray 36)) fun w1 => 
  Join [(3, .bool)] (fun (b3 : Bool) (w2 : World) => R (.bool b3) w2) (fun J =>
  ∃ x5 : Int, World.cell? w1 ⟨p1.b, (p1.o + 0), none⟩ = some (.int .i64 x5) ∧ ∃ x7 : Int, World.cell? w1 ⟨w.heap.size, (0 + 0), none⟩ = some (.int .i64 x7) ∧ cond (x5 == x7) (∃ s11 : Sl, World.cell? w1 ⟨p1.b, (p1.o + 1), none⟩ = some (.slice s11.a s11.n s11.c) ∧ ∃ s13 : Sl, World.cell? w1 ⟨w.heap.size, (0 + 1), none⟩ = some (.slice s13.a s13.n s13.c) ∧ Calls Try.prog 32 [(.slice s11.a s11.n s11.c), (.slice s13.a s13.n s13.c)].toArray w1 (fun e w3 => ∃ b14 : Bool, e = .returned (.bool b14) ∧
  J b14 w3)) (J false w1))
theorem eq66 (x0_0 : Int) (s0_1 : Sl) (p1 : Pt) (R : Value → World → Prop) (w : World) : funV Try.prog Try.f66 An66 [(.agg [(.int .i64 x0_0), (.slice s0_1.a s0_1.n s0_1.c)].toArray), (.pointer (some ⟨p1.b, p1.o, none⟩))] R w = S66 x0_0 s0_1 p1 R w := by kernel_rfl
theorem call66 (x0_0 : Int) (s0_1 : Sl) (p1 : Pt) {R : Value → World → Prop} {w : World} (h : S66 x0_0 s0_1 p1 R w) : Calls Try.prog 66 [(.agg [(.int .i64 x0_0), (.slice s0_1.a s0_1.n s0_1.c)].toArray), (.pointer (some ⟨p1.b, p1.o, none⟩))].toArray w fun e w' => ∃ v, e = .returned v ∧ R v w' :=
  funV_calls mixed Try.func66 (an := An66) (by rw [eq66]; exact h)

/-- F32: slices.Equal[[]int,int] -/
def An32 : An := (.sq .lf (.sq (.sq .lf (.cd (.sq .lf .lf) .lf)) (.sq (.sq .lf (.bk [] (.lp [(13, .int .i64)] (.sq .lf (.sq (.cd .lf .lf) (.sq (.bk [] (.sq .lf (.sq (.dr [0, 1, 2, 3, 4, 5, 6, 7, 8] [] false none) (.cd (.sq .lf .lf) .lf)))) .lf)))))) (.sq .lf .lf))))
def S32 (s0 : Sl) (s1 : Sl) (R : Value → World → Prop) (w : World) : Prop :=
  cond (((s0.n : Nat) : Int) != ((s1.n : Nat) : Int)) (
  R (.bool false) w) (
  Join [] (fun (w1 : World) => R (.bool true) w1) (fun J =>
  LoopV [(13, .int .i64)] (fun K => K (0 : Int) w) (fun N => fun (x13 : Int) (w2 : World) =>
  cond (decide (x13 < ((s0.n : Nat) : Int))) (
  Join [] (fun (w3 : World) => N (IntKind.wrap .i64 (x13 + (1 : Int))) w3) (fun J_2 =>
  Let w2.drew fun w4 =>
  ∃ p18 : Pt, s0.a = some ⟨p18.b, p18.o, none⟩ ∧ 0 ≤ x13 ∧ x13 < ((s0.n : Nat) : Int) ∧ ∃ x19 : Int, World.cell? w4 ⟨p18.b, (p18.o + Int.toNat x13 * 1), none⟩ = some (.int .i64 x19) ∧ ∃ p22 : Pt, s1.a = some ⟨p22.b, p22.o, none⟩ ∧ 0 ≤ x13 ∧ x13 < ((s1.n : Nat) : Int) ∧ ∃ x23 : Int, World.cell? w4 ⟨p22.b, (p22.o + Int.toNat x13 * 1), none⟩ = some (.int .i64 x23) ∧ cond (x19 != x23) (
  R (.bool false) w4) (
  J_2 w4))) (
  J w2))))
theorem eq32 (s0 : Sl) (s1 : Sl) (R : Value → World → Prop) (w : World) : funV Try.prog Try.f32 An32 [(.slice s0.a s0.n s0.c), (.slice s1.a s1.n s1.c)] R w = S32 s0 s1 R w := by kernel_rfl
theorem call32 (s0 : Sl) (s1 : Sl) {R : Value → World → Prop} {w : World} (h : S32 s0 s1 R w) : Calls Try.prog 32 [(.slice s0.a s0.n s0.c), (.slice s1.a s1.n s1.c)].toArray w fun e w' => ∃ v, e = .returned v ∧ R v w' :=
  funV_calls mixed Try.func32 (an := An32) (by rw [eq32]; exact h)

end Go.Proofs.Ytoljknamnkkgcaa
/-
  Contracts: copies of facts and atoms; equality of facts; the facts and the rules handed to the program.
-/
namespace Go.Proofs.Ytoljknamnkkgcaa
open Go Go.VC
set_option maxHeartbeats 1000000
set_option maxRecDepth 100000

/-! ### ints in a block of ints -/
structure TI (w : World) (s : Sl) (l : List Int) : Prop where
  i : Ints w s l
  t : ∀ a, s.a = some a → ∃ cur, Blk w a.block cur 3
theorem TI.fr {M : Nat → Prop} {w w' : World} {s : Sl} {l : List Int} (h : TI w s l) (f : Fr M w w') (hM : ∀ q cur, Blk w q cur 3 → ¬ M q) : TI w' s l := by
  have hn : ∀ a, s.a = some a → ¬ M a.block := fun a ha => by obtain ⟨cur, hc⟩ := h.t a ha; exact hM _ _ hc
  exact ⟨Sli.fr h.i f hn, fun a ha => by obtain ⟨cur, hc⟩ := h.t a ha; exact ⟨cur, hc.fr f (hn a ha)⟩⟩
theorem TI.ext {w w' : World} {s : Sl} {l : List Int} (h : TI w s l) (x : Ext w w') : TI w' s l := h.fr x fun _ _ _ h => h
theorem Own.ti {B : Nat} {w : World} {s : Sl} {l : List Int} (h : Own 3 1 eI B w s l) : TI w s l := ⟨h.sli, fun a ha => h.blk ha⟩
theorem c64 {w : World} {s : Sl} {l : List Int} (hs : Ints w s l) (hl : l.length ≤ 1000000) :
    Calls Try.prog 64 [.slice s.a s.n s.c].toArray w fun e w' => ∃ s' : Sl, e = .returned (.slice s'.a s'.n s'.c) ∧ Own 3 1 eI w.heap.size w' s' l ∧ Ext w w' := by
  refine (call64 s (R := fun v w' => ∃ s' : Sl, v = .slice s'.a s'.n s'.c ∧ Own 3 1 eI w.heap.size w' s' l ∧ Ext w w') ?_).mono fun e w' ⟨v, he, s', hv, h1, h2⟩ => ⟨s', by rw [he, hv], h1, h2⟩
  refine cond_intro (fun h => ?_) (fun h => ?_)
  · have hn : l = [] := by
      rcases Classical.em (l = []) with h' | h'
      · exact h'
      · obtain ⟨p, hp, _⟩ := hs.mem h'; rw [hp] at h; cases h
    subst hn
    exact ⟨⟨none, 0, 0⟩, rfl, Own.nil .., Fr.refl _ w⟩
  · have hx := Ext.alloc w (.cells #[] 3)
    refine ⟨⟨some ⟨w.heap.size, 0, none⟩, 0, 0⟩, _, buildNone_run E34 w, ?_⟩
    obtain ⟨s', w', hrun, ho', hf⟩ := appendSli E34 (Own.empty w) (hs.ext hx) eI_len eI_one (by simp; omega) (by simp [maxLen]; omega) (by simp) 34
    exact ⟨s', w', hrun, s', rfl, by simpa using ho', hx.newer hf fun b ⟨a, ha, hb⟩ => by cases ha; simp at hb; omega⟩
def cut (n : Nat) (f : Fa) : Fa := ⟨f.rel, f.args.take n⟩
theorem minN {n m : Nat} : (if (n : Int) < (m : Int) then (n : Int) else (m : Int)) = ((min n m : Nat) : Int) := by split <;> omega
/-- The first few numbers of a slice, copied. -/
theorem c59 {w : World} {s : Sl} {l : List Int} (hs : Ints w s l) :
    Calls Try.prog 59 [.slice s.a s.n s.c].toArray w fun e w' => ∃ s' : Sl, e = .returned (.slice s'.a s'.n s'.c) ∧ Own 3 1 eI w.heap.size w' s' (l.take 9) ∧ Ext w w' := by
  refine (call59 s (R := fun v w' => ∃ s' : Sl, v = .slice s'.a s'.n s'.c ∧ Own 3 1 eI w.heap.size w' s' (l.take 9) ∧ Ext w w') ?_).mono fun e w' ⟨v, he, s', hv, h1, h2⟩ => ⟨s', by rw [he, hv], h1, h2⟩
  have hn := hs.len
  have hc := hs.cap
  unfold S59
  rw [show (if (9 : Int) < ((s.n : Nat) : Int) then (9 : Int) else ((s.n : Nat) : Int)) = ((min 9 s.n : Nat) : Int) from minN (n := 9)]
  have ht := Sli.take hs (m := min 9 s.n) (by omega)
  have e9 : l.take (min 9 s.n) = l.take 9 := by rw [hn]; simp [List.take_eq_take_iff]
  rw [e9] at ht
  refine ⟨by omega, by omega, (c64 ht (by simp; omega)).mono fun e w1 ⟨s', he, ho, hx⟩ => ⟨s', he, s', rfl, ho, hx⟩⟩
theorem zc48 : (zc Try.prog 48).size = 2 := by kernel_rfl
/-- atom(a): an atom copied, at most five Args. -/
theorem cutW {w : World} {x : DF} {T1 T2 : TypeId} (hz : (zc Try.prog T2).size = 2) (hx : Ints w x.sl x.args) {R : Value → World → Prop}
    (hR : ∀ (y : DF) (w' : World), y.p = cut 5 x.p → TI w' y.sl y.args → (∀ a, y.sl.a = some a → w.heap.size ≤ a.block) → Ext w w' → R (.agg [.int .i64 y.rel, .slice y.sl.a y.sl.n y.sl.c].toArray) w') :
    Let (w.alloc (.cells [(.int .i64 x.rel), (.slice x.sl.a x.sl.n x.sl.c)].toArray T1)) fun w1 =>
    Let (w1.alloc (.cells (zc Try.prog T2) T2)) fun w2 =>
    ∃ S1 : World → Prop, S1 w2.drew ∧ Let w2.drew fun w3 =>
    ∃ x4 : Int, (∀ u, S1 u → World.cell? u ⟨w.heap.size, (0 + 0), none⟩ = some (.int .i64 x4)) ∧ ∃ s6 : Sl, (∀ u, S1 u → World.cell? u ⟨w.heap.size, (0 + 1), none⟩ = some (.slice s6.a s6.n s6.c)) ∧ ∃ s8 : Sl, (∀ u, S1 u → World.cell? u ⟨w.heap.size, (0 + 1), none⟩ = some (.slice s8.a s8.n s8.c)) ∧ 0 ≤ (if (5 : Int) < ((s8.n : Nat) : Int) then (5 : Int) else ((s8.n : Nat) : Int)) ∧ (if (5 : Int) < ((s8.n : Nat) : Int) then (5 : Int) else ((s8.n : Nat) : Int)) ≤ ((s6.c : Nat) : Int) ∧ Calls Try.prog 64 [(.slice s6.a (Int.toNat (if (5 : Int) < ((s8.n : Nat) : Int) then (5 : Int) else ((s8.n : Nat) : Int))) s6.c)].toArray w3 (fun e w4 => ∃ s12 : Sl, e = .returned (.slice s12.a s12.n s12.c) ∧
    S1 w4 ∧ StoreOk w4 w1.heap.size 0 [(.int .i64 x4), (.slice s12.a s12.n s12.c)] 2 ∧ Let (put w4 w1.heap.size 0 [(.int .i64 x4), (.slice s12.a s12.n s12.c)]) fun w5 =>
    ∃ xr2_0 : Int, ∃ sr2_1 : Sl, rd w5 w1.heap.size 0 [(.int .i64 xr2_0), (.slice sr2_1.a sr2_1.n sr2_1.c)] ∧ R (.agg [(.int .i64 xr2_0), (.slice sr2_1.a sr2_1.n sr2_1.c)].toArray) w5) := by
  have hn := hx.len
  have hc := hx.cap
  obtain ⟨b1, x1⟩ := eF_cells w x T1
  refine Let.intro fun w1 e1 => ?_
  have e1 : w1 = w.alloc (.cells (eF x).toArray T1) := e1
  rw [← e1] at b1 x1
  refine Let.intro fun w2 e2 => ?_
  have b2 : Blk w2 w1.heap.size (zc Try.prog T2).toList T2 := by rw [e2]; simpa using Blk.alloc w1 (zc Try.prog T2).toList T2
  have x2 : Ext w1 w2 := by rw [e2]; exact Ext.alloc ..
  have b1 := b1.ext x2
  refine ⟨fun u => Ext w2 u, Ext.drew _, Let.intro fun w3 e3 => ?_⟩
  have x3 : Ext w2 w3 := by rw [e3]; exact Ext.drew _
  refine ⟨x.rel, fun u hu => (b1.ext hu).cell 0, x.sl, fun u hu => (b1.ext hu).cell 1, x.sl, fun u hu => (b1.ext hu).cell 1, ?_⟩
  rw [show (if (5 : Int) < ((x.sl.n : Nat) : Int) then (5 : Int) else ((x.sl.n : Nat) : Int)) = ((min 5 x.sl.n : Nat) : Int) from minN (n := 5)]
  have x03 := (x1.trans x2).trans x3
  have ht := Sli.take (hx.ext x03) (m := min 5 x.sl.n) (by omega)
  have e9 : x.args.take (min 5 x.sl.n) = x.args.take 5 := by rw [hn]; simp [List.take_eq_take_iff]
  rw [e9] at ht
  refine ⟨by omega, by omega, (c64 ht (by simp; omega)).mono fun e w4 ⟨s', he, ho, x4⟩ => ⟨s', he, x3.trans x4, ?_⟩⟩
  obtain ⟨p1, p2, p3⟩ := blk_all (b2.ext (x3.trans x4)) (vs := [.int .i64 x.rel, .slice s'.a s'.n s'.c]) (by simp [hz]) (by intro v hv; simp at hv; rcases hv with rfl | rfl <;> rfl)
  refine ⟨p1, Let.intro fun w5 e5 => ?_⟩
  rw [← e5] at p2 p3
  have z3 := x03.size
  have z1 := x1.size
  have z2 : w1.heap.size < w3.heap.size := Nat.lt_of_lt_of_le b2.lt x3.size
  have hnb : ∀ a, s'.a = some a → ¬ a.block = w1.heap.size := fun a ha e => by have := (ho.base ha).1; omega
  exact ⟨x.rel, s', p2.rd, hR ⟨x.rel, s', x.args.take 5⟩ w5 rfl (Own.ti (ho.fr p3 hnb)) (fun a ha => by have := (ho.base ha).1; omega) ((x03.trans x4).newer p3 fun y (hy : y = w1.heap.size) => by omega)⟩
theorem c58 {w : World} {x : DF} (hx : Ints w x.sl x.args) :
    Calls Try.prog 58 [.agg [.int .i64 x.rel, .slice x.sl.a x.sl.n x.sl.c].toArray].toArray w fun e w' => ∃ y : DF, e = .returned (.agg [.int .i64 y.rel, .slice y.sl.a y.sl.n y.sl.c].toArray) ∧ y.p = cut 5 x.p ∧ TI w' y.sl y.args ∧ (∀ a, y.sl.a = some a → w.heap.size ≤ a.block) ∧ Ext w w' := by
  refine (call58 x.rel x.sl (R := fun v w' => ∃ y : DF, v = (.agg [.int .i64 y.rel, .slice y.sl.a y.sl.n y.sl.c].toArray) ∧ y.p = cut 5 x.p ∧ TI w' y.sl y.args ∧ (∀ a, y.sl.a = some a → w.heap.size ≤ a.block) ∧ Ext w w') ?_).mono fun e w' ⟨v, he, y, hv, hx⟩ => ⟨y, by rw [he, hv], hx⟩
  exact cutW (T1 := 91) zc48 hx (R := fun v w' => ∃ y : DF, v = (.agg [.int .i64 y.rel, .slice y.sl.a y.sl.n y.sl.c].toArray) ∧ y.p = cut 5 x.p ∧ TI w' y.sl y.args ∧ (∀ a, y.sl.a = some a → w.heap.size ≤ a.block) ∧ Ext w w') fun y w' h1 h2 h3 h4 => ⟨y, rfl, h1, h2, h3, h4⟩
theorem c23 {w : World} {x : DF} (hx : Ints w x.sl x.args) :
    Calls Try.prog 23 [.agg [.int .i64 x.rel, .slice x.sl.a x.sl.n x.sl.c].toArray].toArray w fun e w' => ∃ y : DF, e = .returned (.agg [.int .i64 y.rel, .slice y.sl.a y.sl.n y.sl.c].toArray) ∧ y.p = cut 5 x.p ∧ TI w' y.sl y.args ∧ (∀ a, y.sl.a = some a → w.heap.size ≤ a.block) ∧ Ext w w' := by
  refine (call23 x.rel x.sl (R := fun v w' => ∃ y : DF, v = (.agg [.int .i64 y.rel, .slice y.sl.a y.sl.n y.sl.c].toArray) ∧ y.p = cut 5 x.p ∧ TI w' y.sl y.args ∧ (∀ a, y.sl.a = some a → w.heap.size ≤ a.block) ∧ Ext w w') ?_).mono fun e w' ⟨v, he, y, hv, hx⟩ => ⟨y, by rw [he, hv], hx⟩
  exact cutW (T1 := 36) zc36 hx (R := fun v w' => ∃ y : DF, v = (.agg [.int .i64 y.rel, .slice y.sl.a y.sl.n y.sl.c].toArray) ∧ y.p = cut 5 x.p ∧ TI w' y.sl y.args ∧ (∀ a, y.sl.a = some a → w.heap.size ≤ a.block) ∧ Ext w w') fun y w' h1 h2 h3 h4 => ⟨y, rfl, h1, h2, h3, h4⟩
/-! ### equality -/
theorem c32 {w : World} {s s' : Sl} {l l' : List Int} (hs : Ints w s l) (hs' : Ints w s' l') (hl : l.length ≤ big) :
    Calls Try.prog 32 [.slice s.a s.n s.c, .slice s'.a s'.n s'.c].toArray w fun e w' => e = .returned (.bool (decide (l = l'))) ∧ Ext w w' := by
  refine (call32 s s' (R := fun v w' => v = .bool (decide (l = l')) ∧ Ext w w') ?_).mono fun e w' ⟨v, he, hv, hx⟩ => ⟨by rw [he, hv], hx⟩
  have h1 := hs.len
  have h2 := hs'.len
  refine cond_intro (fun h => ?_) (fun h => ?_)
  · have h : ¬ l = l' := by rintro rfl; simp [h1, h2] at h
    exact ⟨by simp [h], Fr.refl _ w⟩
  · have h : l.length = l'.length := by simp at h; omega
    refine Join.dir (rangeI (fun i w2 => l.take i = l'.take i ∧ Ext w w2) (by rw [hs.len]; exact hl) ⟨by simp, Fr.refl _ w⟩ ?_ ?_)
    · rintro i hi w2 ⟨hn, hx⟩ K hK
      have hi : i < l.length := by omega
      have hi' : i < l'.length := by omega
      refine Let.intro fun w4 e4 => ?_
      have hx4 : Ext w w4 := by rw [e4]; exact hx.trans (Ext.drew _)
      obtain ⟨p, hp, h1, h2, hr⟩ := Ints.at (hs.ext hx4) hi
      obtain ⟨p', hp', h1', h2', hr'⟩ := Ints.at (hs'.ext hx4) hi'
      refine ⟨p, hp, h1, h2, _, hr, p', hp', h1', h2', _, hr', cond_intro (fun hc => ?_) (fun hc => ?_)⟩
      · have h : ¬ l[i] = l'[i] := by simpa using hc
        exact ⟨by simp; rintro rfl; exact h rfl, hx4⟩
      · have h : l[i] = l'[i] := by simpa using hc
        exact hK _ ⟨by rw [List.take_succ_eq_append_getElem hi, List.take_succ_eq_append_getElem hi', hn, h], hx4⟩
    · rintro w2 ⟨hn, hx⟩
      rw [hs.len, List.take_length, h, List.take_length] at hn
      exact ⟨by simp [hn], hx⟩
theorem callable61 : callable Try.prog 61 = true := by kernel_rfl
theorem c61 {w : World} {x y : DF} (hx : Ints w x.sl x.args) (hy : Ints w y.sl y.args) (hl : x.args.length ≤ big) :
    Calls Try.prog 61 [.agg [.int .i64 x.rel, .slice x.sl.a x.sl.n x.sl.c].toArray, .agg [.int .i64 y.rel, .slice y.sl.a y.sl.n y.sl.c].toArray].toArray w fun e w' => e = .returned (.bool (decide (x.p = y.p))) ∧ Ext w w' := by
  refine (call61 x.rel x.sl y.rel y.sl (R := fun v w' => v = .bool (decide (x.p = y.p)) ∧ Ext w w') ?_).mono fun e w' ⟨v, he, hv, hx⟩ => ⟨by rw [he, hv], hx⟩
  obtain ⟨b1, x1⟩ := eF_cells w x 36
  refine Let.intro fun w1 e1 => ?_
  have e1 : w1 = w.alloc (.cells (eF x).toArray 36) := e1
  rw [← e1] at b1 x1
  obtain ⟨b2, x2⟩ := eF_cells w1 y 36
  refine Let.intro fun w2 e2 => ?_
  have e2 : w2 = w1.alloc (.cells (eF y).toArray 36) := e2
  rw [← e2] at b2 x2
  have b1 := b1.ext x2
  have x12 := x1.trans x2
  refine Join.dir ⟨_, b1.cell 0, _, b2.cell 0, cond_intro (fun g => ?_) (fun g => ?_)⟩
  · have g : x.rel = y.rel := by simpa using g
    refine ⟨_, b1.cell 1, _, b2.cell 1, (c32 (hx.ext x12) (hy.ext x12) hl).mono fun e w4 ⟨he, x4⟩ => ⟨_, he, ?_, x12.trans x4⟩⟩
    congr 1
    apply decide_eq_decide.2
    simp [DF.p, g]
  · have g : ¬ x.rel = y.rel := by simpa using g
    exact ⟨by simp [DF.p, g], x12⟩
/-- Two lists of facts are equal. -/
theorem c21 {w : World} {s s' : Sl} {l l' : List DF} (hs : NF w s l) (hs' : NF w s' l') (hl : l.length ≤ big) (ha : ∀ x ∈ l, x.args.length ≤ big) :
    Calls Try.prog 21 [.slice s.a s.n s.c, .slice s'.a s'.n s'.c].toArray w fun e w' => e = .returned (.bool (decide (l.map DF.p = l'.map DF.p))) ∧ Ext w w' := by
  refine (call21 s s' (R := fun v w' => v = .bool (decide (l.map DF.p = l'.map DF.p)) ∧ Ext w w') ?_).mono fun e w' ⟨v, he, hv, hx⟩ => ⟨by rw [he, hv], hx⟩
  have h1 := hs.len
  have h2 := hs'.len
  refine (call60 s s' 61 [] (R := fun v w' => v = .bool (decide (l.map DF.p = l'.map DF.p)) ∧ Ext w w') ?_).mono fun e w' ⟨v, he, hv, hx⟩ => ⟨_, by rw [he, hv], rfl, hx⟩
  refine cond_intro (fun h => ?_) (fun h => ?_)
  · have h : ¬ l.map DF.p = l'.map DF.p := by
      intro e
      have := congrArg List.length e
      simp at this
      simp [h1, h2, this] at h
    exact ⟨by simp [h], Fr.refl _ w⟩
  · have h : l.length = l'.length := by simp at h; omega
    refine Join.dir (rangeI (fun i w2 => (l.take i).map DF.p = (l'.take i).map DF.p ∧ Ext w w2) (by rw [h1]; exact hl) ⟨by simp, Fr.refl _ w⟩ ?_ ?_)
    · rintro i hi w2 ⟨hn, hx⟩ K hK
      have hi : i < l.length := by omega
      have hi' : i < l'.length := by omega
      refine loadF (hs.ext hx) hi zc36 fun w5 b5 x5 => ?_
      refine loadF ((hs'.ext hx).ext x5) hi' zc36 fun w7 b7 x7 => ?_
      refine ⟨_, _, (b5.ext x7).rd, _, _, b7.rd, ?_⟩
      have x27 := (hx.trans x5).trans x7
      rw [callable61]
      refine (c61 ((hs.ok _ (List.getElem_mem hi)).ext x27) ((hs'.ok _ (List.getElem_mem hi')).ext x27) (ha _ (List.getElem_mem hi))).mono fun e w8 ⟨he, x8⟩ => ⟨_, he, cond_intro (fun g => ?_) (fun g => ?_)⟩
      · have g : ¬ (l[i]).p = (l'[i]).p := by simpa using g
        refine ⟨?_, x27.trans x8⟩
        have : ¬ l.map DF.p = l'.map DF.p := fun e => g (by
          have h3 : (l.map DF.p)[i]'(by simpa using hi) = (l'.map DF.p)[i]'(by simpa using hi') := by simp only [e]
          simpa using h3)
        simp [this]
      · have g : (l[i]).p = (l'[i]).p := by simpa using g
        refine hK _ ⟨?_, x27.trans x8⟩
        rw [List.take_succ_eq_append_getElem hi, List.take_succ_eq_append_getElem hi', List.map_append, List.map_append, hn]
        simp [g]
    · rintro w2 ⟨hn, hx⟩
      rw [h1, List.take_length, h, List.take_length] at hn
      exact ⟨by simp [hn], hx⟩
/-- Facts, copied. -/
def factsC (l : List Fa) : List Fa := (l.take 26).map (cut 9)
theorem c18 {w : World} {s : Sl} {l : List DF} (hs : NF w s l) (hl : l.length ≤ big) :
    Calls Try.prog 18 [.slice s.a s.n s.c].toArray w fun e w' => ∃ (s' : Sl) (L : List DF), e = .returned (.slice s'.a s'.n s'.c) ∧ Own 36 2 eF w.heap.size w' s' L ∧ (∀ x ∈ L, TI w' x.sl x.args) ∧ L.map DF.p = factsC (l.map DF.p) ∧ Ext w w' := by
  refine (call18 s (R := fun v w' => ∃ (s' : Sl) (L : List DF), v = (.slice s'.a s'.n s'.c) ∧ Own 36 2 eF w.heap.size w' s' L ∧ (∀ x ∈ L, TI w' x.sl x.args) ∧ L.map DF.p = factsC (l.map DF.p) ∧ Ext w w') ?_).mono fun e w' ⟨v, he, s', L, hv, hx⟩ => ⟨s', L, by rw [he, hv], hx⟩
  have hn := hs.len
  refine ⟨fun s3 w1 => ∃ L : List DF, Own 36 2 eF w.heap.size w1 s3 L ∧ (∀ x ∈ L, TI w1 x.sl x.args) ∧ L.map DF.p = factsC (l.map DF.p) ∧ Ext w w1, ?_, ?_⟩
  · rintro s3 w1 ⟨L, h1, h2, h3, h4⟩; exact ⟨s3, L, rfl, h1, h2, h3, h4⟩
  refine rangeSI (fun i (s3 : Sl) w1 => ∃ L : List DF, Own 36 2 eF w.heap.size w1 s3 L ∧ (∀ x ∈ L, TI w1 x.sl x.args) ∧ i ≤ 26 ∧ L.map DF.p = (l.take i).map (fun x => cut 9 x.p) ∧ Ext w w1) (by rw [hn]; exact hl) ⟨[], Own.nil .., by simp, by omega, by simp, Fr.refl _ _⟩ ?_ ?_
  · rintro i hi s3 w2 ⟨L, ho, hti, hi26, hLp, x2⟩ K hK
    have hi : i < l.length := by omega
    refine loadF (hs.ext x2) hi zc36 fun w5 b5 x5 => cond_intro (fun g => ?_) (fun g => ?_)
    · have g : i = 26 := by simp at g; omega
      refine ⟨L, ho.ext x5, fun x hx => (hti x hx).ext x5, ?_, x2.trans x5⟩
      rw [hLp, g]; simp [factsC, List.map_take]; rfl
    have g : i < 26 := by simp at g; omega
    refine ⟨fun u => Fr (BlS s3) w5 u, Fr.mono (Ext.drew _) fun _ _ h => h.elim, Let.intro fun w6 e6 => ?_⟩
    have x6 : Ext w5 w6 := by rw [e6]; exact Ext.drew _
    have hno : ¬ BlS s3 w2.heap.size := fun ⟨a, ha, e⟩ => by have := (ho.base ha).2; omega
    refine ⟨_, fun u hu => (b5.fr hu hno).cell 0, _, fun u hu => (b5.fr hu hno).cell 1, ?_⟩
    have x26 := (x2.trans x5).trans x6
    refine (c59 ((hs.ok _ (List.getElem_mem hi)).ext x26)).mono fun e w7 ⟨s7, he, ho7, x7⟩ => ⟨s7, he, (x6.trans x7).mono fun _ _ h => h.elim, ?_⟩
    have hLl : L.length ≤ 26 := by have := congrArg List.length hLp; simp at this; omega
    have x57 := (x5.trans x6).trans x7
    have ho' := ho.ext x57
    have hb := buildOne_run E23 (v := .agg [.int .i64 (l[i]).rel, .slice s7.a s7.n s7.c].toArray) (vs := eF ⟨(l[i]).rel, s7, (l[i]).args.take 9⟩) rfl rfl (by omega) w7
    have x8 := Ext.alloc w7 (.cells (eF ⟨(l[i]).rel, s7, (l[i]).args.take 9⟩).toArray 36)
    have hs8 : Sli 2 eF (w7.alloc (.cells (eF ⟨(l[i]).rel, s7, (l[i]).args.take 9⟩).toArray 36)) ⟨some ⟨w7.heap.size, 0, none⟩, 1, 1⟩ [⟨(l[i]).rel, s7, (l[i]).args.take 9⟩] := ⟨rfl, Nat.le_refl _, fun _ => ⟨⟨w7.heap.size, 0⟩, rfl, by simpa using (Blk.alloc w7 (eF ⟨(l[i]).rel, s7, (l[i]).args.take 9⟩) 36).rd⟩⟩
    obtain ⟨s9, w9, hr9, ho9, hf9⟩ := appendSli E23 (ho'.ext x8) hs8 eF_len eF_one (by simp; omega) (by simp [maxLen]; omega) (by have := x2.size; have := x57.size; have := x8.size; omega) 23
    refine ⟨⟨some ⟨w7.heap.size, 0, none⟩, 1, 1⟩, _, hb, ((x6.trans x7).trans x8).mono fun _ _ h => h.elim, s9, w9, hr9, ((x6.trans x7).trans x8).fr hf9, hK _ _ ⟨L ++ [⟨(l[i]).rel, s7, (l[i]).args.take 9⟩], ho9, fun x hx => ?_, by omega, ?_, ?_⟩⟩
    · have hxt : TI (w7.alloc (.cells (eF ⟨(l[i]).rel, s7, (l[i]).args.take 9⟩).toArray 36)) x.sl x.args := by
        rcases List.mem_append.1 hx with hx | hx
        · exact ((hti x hx).ext x57).ext x8
        · simp only [List.mem_singleton] at hx; subst hx; exact (Own.ti ho7).ext x8
      exact hxt.fr hf9 fun q cur hq ⟨a, ha, e⟩ => by
        obtain ⟨cur', hc'⟩ := (ho'.ext x8).blk ha
        rw [e] at hc'
        exact Blk.ne_ty hq hc' (by decide) rfl
    · rw [List.map_append, hLp, List.take_succ_eq_append_getElem hi, List.map_append]; rfl
    · exact ((x2.trans x57).trans x8).newer hf9 fun y ⟨a, ha, e⟩ => by have := ((ho'.ext x8).base ha).1; omega
  · rintro s3 w1 ⟨L, ho, hti, hi26, hLp, x1⟩
    refine ⟨L, ho, hti, ?_, x1⟩
    rw [hLp, hn, List.take_length]
    rw [hn] at hi26
    rw [factsC, List.take_of_length_le (by simp; omega)]; simp
end Go.Proofs.Ytoljknamnkkgcaa
/-
  Contracts: the rules handed to the program.
-/
namespace Go.Proofs.Ytoljknamnkkgcaa
open Go Go.VC
set_option maxHeartbeats 1000000
set_option maxRecDepth 100000

structure RT (w : World) (r : DR) : Prop where
  hd : TI w r.head.sl r.head.args
  sl : Sli 3 eL w r.bs r.body
  ty : ∀ a, r.bs.a = some a → ∃ cur, Blk w a.block cur 54
  bd : ∀ b ∈ r.body, TI w b.a.sl b.a.args
theorem RT.ok {w : World} {r : DR} (h : RT w r) : RulOk w r := ⟨h.hd.i, h.sl, fun b hb => (h.bd b hb).i⟩
theorem RT.fr {M : Nat → Prop} {w w' : World} {r : DR} (h : RT w r) (f : Fr M w w') (h3 : ∀ q cur, Blk w q cur 3 → ¬ M q) (h54 : ∀ q cur, Blk w q cur 54 → ¬ M q) : RT w' r := by
  have hn : ∀ a, r.bs.a = some a → ¬ M a.block := fun a ha => by obtain ⟨cur, hc⟩ := h.ty a ha; exact h54 _ _ hc
  exact ⟨h.hd.fr f h3, h.sl.fr f hn, fun a ha => by obtain ⟨cur, hc⟩ := h.ty a ha; exact ⟨cur, hc.fr f (hn a ha)⟩, fun b hb => (h.bd b hb).fr f h3⟩
theorem RT.ext {w w' : World} {r : DR} (h : RT w r) (x : Ext w w') : RT w' r := h.fr x (fun _ _ _ h => h) (fun _ _ _ h => h)
def cutL (b : Li) : Li := ⟨b.neg, cut 5 b.a⟩
def ofRu (r : Ru) : Ru := ⟨cut 5 r.head, (r.body.take 5).map cutL⟩
def ofR (l : List Ru) : List Ru := (l.take 12).map ofRu
theorem E50 : Elem Try.prog 50 54 3 40 := Elem.of (by kernel_rfl) (by kernel_rfl) (by decide)
theorem zc94 : (zc Try.prog 94).size = 3 := by kernel_rfl
theorem zc96 : (zc Try.prog 96).size = 3 := by kernel_rfl
theorem loadRT {w : World} {s : Sl} {l : List DR} (hs : NR w s l) {i : Nat} (hi : i < l.length) {T : TypeId} (hz : (zc Try.prog T).size = 3) {B : World → Prop}
    (hB : ∀ w5, Blk w5 w.heap.size (eR l[i]) T → Ext w w5 → B w5) :
    ∃ p : Pt, s.a = some ⟨p.b, p.o, none⟩ ∧ 0 ≤ (i : Int) ∧ (i : Int) < ((s.n : Nat) : Int) ∧ ∃ a : Int, ∃ b : Sl, ∃ c : Sl, rd w p.b (p.o + Int.toNat (i : Int) * 3) [.int .i64 a, .slice b.a b.n b.c, .slice c.a c.n c.c] ∧
      Let (w.alloc (.cells (zc Try.prog T) T)) fun w4 => StoreOk w4 w.heap.size 0 [.int .i64 a, .slice b.a b.n b.c, .slice c.a c.n c.c] 3 ∧ Let (put w4 w.heap.size 0 [.int .i64 a, .slice b.a b.n b.c, .slice c.a c.n c.c]) fun w5 => B w5 := by
  obtain ⟨p, hp, h2, h3, hr⟩ := Sli.at eR_len hs.sl hi
  obtain ⟨a, b, c⟩ := new_var w T (z := zc Try.prog T) (vs := eR l[i]) (by rw [hz, eR_len]) (eR_one _)
  exact ⟨p, hp, h2, h3, _, _, _, hr, a, hB _ b c⟩
theorem loadLT {w : World} {s : Sl} {l : List DL} (hs : NL w s l) {i : Nat} (hi : i < l.length) {T : TypeId} (hz : (zc Try.prog T).size = 3) {B : World → Prop}
    (hB : ∀ w5, Blk w5 w.heap.size (eL l[i]) T → Ext w w5 → B w5) :
    ∃ p : Pt, s.a = some ⟨p.b, p.o, none⟩ ∧ 0 ≤ (i : Int) ∧ (i : Int) < ((s.n : Nat) : Int) ∧ ∃ a : Bool, ∃ b : Int, ∃ c : Sl, rd w p.b (p.o + Int.toNat (i : Int) * 3) [.bool a, .int .i64 b, .slice c.a c.n c.c] ∧
      Let (w.alloc (.cells (zc Try.prog T) T)) fun w4 => StoreOk w4 w.heap.size 0 [.bool a, .int .i64 b, .slice c.a c.n c.c] 3 ∧ Let (put w4 w.heap.size 0 [.bool a, .int .i64 b, .slice c.a c.n c.c]) fun w5 => B w5 := by
  obtain ⟨p, hp, h2, h3, hr⟩ := Sli.at eL_len hs.sl hi
  obtain ⟨a, b, c⟩ := new_var w T (z := zc Try.prog T) (vs := eL l[i]) (by rw [hz, eL_len]) (eL_one _)
  exact ⟨p, hp, h2, h3, _, _, _, hr, a, hB _ b c⟩
theorem c17 {w : World} {s : Sl} {l : List DR} (hs : NR w s l) (hl : l.length ≤ big) (hb : ∀ r ∈ l, r.body.length ≤ big) :
    Calls Try.prog 17 [.slice s.a s.n s.c].toArray w fun e w' => ∃ (s' : Sl) (L : List DR), e = .returned (.slice s'.a s'.n s'.c) ∧ NR w' s' L ∧ L.map DR.p = ofR (l.map DR.p) ∧ Ext w w' := by
  refine (call17 s (R := fun v w' => ∃ (s' : Sl) (L : List DR), v = (.slice s'.a s'.n s'.c) ∧ NR w' s' L ∧ L.map DR.p = ofR (l.map DR.p) ∧ Ext w w') ?_).mono fun e w' ⟨v, he, s', L, hv, hx⟩ => ⟨s', L, by rw [he, hv], hx⟩
  have hn := hs.len
  refine ⟨fun s3 w1 => ∃ L : List DR, Own 52 3 eR w.heap.size w1 s3 L ∧ (∀ r ∈ L, RT w1 r) ∧ L.map DR.p = ofR (l.map DR.p) ∧ Ext w w1, ?_, ?_⟩
  · rintro s3 w1 ⟨L, h1, h2, h3, h4⟩; exact ⟨s3, L, rfl, ⟨h1.sli, fun r hr => (h2 r hr).ok⟩, h3, h4⟩
  refine rangeSI (fun i (s3 : Sl) w1 => ∃ L : List DR, Own 52 3 eR w.heap.size w1 s3 L ∧ (∀ r ∈ L, RT w1 r) ∧ i ≤ 12 ∧ L.map DR.p = (l.take i).map (fun r => ofRu r.p) ∧ Ext w w1) (by rw [hn]; exact hl) ⟨[], Own.nil .., by simp, by omega, by simp, Fr.refl _ _⟩ ?_ ?_
  rotate_left
  · rintro s3 w1 ⟨L, ho, hti, hi12, hLp, x1⟩
    refine ⟨L, ho, hti, ?_, x1⟩
    rw [hLp, hn, List.take_length]
    rw [hn] at hi12
    rw [ofR, List.take_of_length_le (by simp; omega)]; simp
  rintro i hi s3 w2 ⟨L, ho, hrt, hi12, hLp, x2⟩ K hK
  have hi : i < l.length := by omega
  refine loadRT (hs.ext x2) hi zc94 fun w5 b5 x5 => cond_intro (fun g => ?_) (fun g => ?_)
  · have g : i = 12 := by simp at g; omega
    refine ⟨L, ho.ext x5, fun r hr => (hrt r hr).ext x5, ?_, x2.trans x5⟩
    rw [hLp, g]; simp [ofR, List.map_take]; rfl
  have g : i < 12 := by simp at g; omega
  have x25 := x2.trans x5
  have hro := (hs.ok _ (List.getElem_mem hi)).ext x25
  have hro0 := hs.ok _ (List.getElem_mem hi)
  have hbb := hb _ (List.getElem_mem hi)
  have hLl : L.length ≤ 12 := by have := congrArg List.length hLp; simp at this; omega
  have hti : (l.take (i + 1)).map (fun r => ofRu r.p) = (l.take i).map (fun r => ofRu r.p) ++ [ofRu (l[i]).p] := by rw [List.take_succ_eq_append_getElem hi, List.map_append]; rfl
  generalize l[i] = r at b5 hro hro0 hbb hti
  refine ⟨_, _, rdHead b5, (c58 hro.hd).mono fun e w6 ⟨y, he, hyp, hyt, hyb, x6⟩ => ⟨_, _, he, rfl, by decide, ?_⟩⟩
  obtain ⟨n1, n2, n3⟩ := new_var w6 52 (z := zc Try.prog 52) (vs := [.int .i64 y.rel, .slice y.sl.a y.sl.n y.sl.c, .slice none 0 0]) (by rw [zc52]; rfl) (by intro v hv; simp at hv; rcases hv with rfl | rfl | rfl <;> rfl)
  refine Let.intro fun w7 e7 => ?_
  rw [← e7] at n1 n2 n3
  refine ⟨n1, Let.intro fun w8 e8 => ?_⟩
  have e8 : w8 = put w7 w6.heap.size 0 [.int .i64 y.rel, .slice y.sl.a y.sl.n y.sl.c, .slice none 0 0] := e8
  rw [← e8] at n2 n3
  have b5 := (b5.ext x6).ext n3
  have hyt8 := hyt.ext n3
  have x58 := (x5.trans x6).trans n3
  have x28 := x2.trans x58
  refine ⟨r.bs, b5.cell 2, ?_⟩
  have hbn := hro.bd.len
  have lq := n2.lt
  have z28 := x28.size
  have z02 := x2.size
  have z58 := x58.size
  have z6 := x6.size
  have z5 := x5.size
  -- the body
  refine ⟨fun w9 => ∃ (sb : Sl) (B : List DL), Blk w9 w6.heap.size [.int .i64 y.rel, .slice y.sl.a y.sl.n y.sl.c, .slice sb.a sb.n sb.c] 52 ∧ Own 54 3 eL w8.heap.size w9 sb B ∧ (∀ b ∈ B, TI w9 b.a.sl b.a.args) ∧ B.map DL.p = (r.p.body.take 5).map cutL ∧ Fr (fun q => q = w6.heap.size) w8 w9, ?_, ?_⟩
  · rintro w9 ⟨sb, B, b9, hob, hbt, hBp, f9⟩
    refine ⟨_, _, _, b9.rd, ?_⟩
    have hf29 : Ext w2 w9 := x58.newer f9 fun q (hq : q = w6.heap.size) => by omega
    have hyt9 : TI w9 y.sl y.args := hyt8.fr f9 fun q cur hq (e : q = w6.heap.size) => by subst e; exact Blk.ne_ty hq n2 (by decide) rfl
    have hob9 := ho.ext hf29
    let R : DR := ⟨y, sb, B⟩
    have hR9 : RT w9 R := ⟨hyt9, hob.sli, fun a ha => hob.blk ha, hbt⟩
    have hbd := buildOne_run E27 (v := .agg [.int .i64 y.rel, .slice y.sl.a y.sl.n y.sl.c, .slice sb.a sb.n sb.c].toArray) (vs := eR R) rfl rfl (by omega) w9
    have x10 := Ext.alloc w9 (.cells (eR R).toArray 52)
    have hs10 : Sli 3 eR (w9.alloc (.cells (eR R).toArray 52)) ⟨some ⟨w9.heap.size, 0, none⟩, 1, 1⟩ [R] := ⟨rfl, Nat.le_refl _, fun _ => ⟨⟨w9.heap.size, 0⟩, rfl, by simpa using (Blk.alloc w9 (eR R) 52).rd⟩⟩
    obtain ⟨s11, w11, hr11, ho11, hf11⟩ := appendSli E27 (hob9.ext x10) hs10 eR_len eR_one (by simp; omega) (by simp [maxLen]; omega) (by have := x2.size; have := hf29.size; have := x10.size; omega) 27
    refine ⟨⟨some ⟨w9.heap.size, 0, none⟩, 1, 1⟩, _, hbd, s11, w11, hr11, hK _ _ ⟨L ++ [R], ho11, fun r' hr' => ?_, by omega, ?_, ?_⟩⟩
    · have hno : ∀ (T : TypeId), T ≠ 52 → ∀ q cur, Blk (w9.alloc (.cells (eR R).toArray 52)) q cur T → ¬ BlS s3 q := fun T hT q cur hq ⟨a, ha, e⟩ => by
        obtain ⟨cur', hc'⟩ := (hob9.ext x10).blk ha
        rw [e] at hc'
        exact Blk.ne_ty hq hc' hT rfl
      have hr10 : RT (w9.alloc (.cells (eR R).toArray 52)) r' := by
        rcases List.mem_append.1 hr' with hr' | hr'
        · exact ((hrt r' hr').ext hf29).ext x10
        · simp only [List.mem_singleton] at hr'; subst hr'; exact hR9.ext x10
      exact hr10.fr hf11 (hno 3 (by decide)) (hno 54 (by decide))
    · rw [List.map_append, hLp, hti]
      congr 1
      simp only [List.map_cons, List.map_nil]
      congr 1
      show (⟨y.p, B.map DL.p⟩ : Ru) = ofRu r.p
      rw [hBp, hyp]; rfl
    · exact ((x2.trans hf29).trans x10).newer hf11 fun q ⟨a, ha, e⟩ => by have := ((hob9.ext x10).base ha).1; omega
  refine rangeI (fun j w12 => ∃ (sb : Sl) (B : List DL), Blk w12 w6.heap.size [.int .i64 y.rel, .slice y.sl.a y.sl.n y.sl.c, .slice sb.a sb.n sb.c] 52 ∧ Own 54 3 eL w8.heap.size w12 sb B ∧ (∀ b ∈ B, TI w12 b.a.sl b.a.args) ∧ B.map DL.p = ((r.p.body.take j).take 5).map cutL ∧ Fr (fun q => q = w6.heap.size) w8 w12) (by rw [hbn]; exact hbb) ⟨⟨none, 0, 0⟩, [], n2, Own.nil .., by simp, by simp, Fr.refl _ _⟩ ?_ ?_
  rotate_left
  · rintro w12 ⟨sb, B, h1, h2, h3, h4, h5⟩
    have e : r.p.body.take r.bs.n = r.p.body := by rw [hbn]; exact List.take_of_length_le (by simp [DR.p])
    rw [e] at h4
    exact ⟨sb, B, h1, h2, h3, h4, h5⟩
  rintro j hj w12 ⟨sb, B, bq, hob, hbt, hBp, f12⟩ K2 hK2
  have hj : j < r.body.length := by omega
  have x012 : Ext w w12 := x28.newer f12 fun q (hq : q = w6.heap.size) => by omega
  refine loadLT (hro0.ext x012).bd hj zc96 fun w15 b15 x15 => Join.dir ?_
  have hbp : r.p.body[j]'(by simpa [DR.p] using hj) = (r.body[j]).p := by simp [DR.p]
  have htk : r.p.body.take (j + 1) = r.p.body.take j ++ [(r.body[j]).p] := by rw [List.take_succ_eq_append_getElem (by simpa [DR.p] using hj), hbp]
  have hint := ((hro0.bd.ok _ (List.getElem_mem hj)).ext x012).ext x15
  have hlj : (r.p.body.take j).length = j := by simp [DR.p]; omega
  generalize r.body[j] = b at b15 htk hint
  have lw12 : w6.heap.size < w12.heap.size := by have := f12.size; omega
  refine cond_intro (fun g2 => ?_) (fun g2 => ?_)
  rotate_left
  · have g2 : 5 ≤ j := by simp at g2; omega
    refine hK2 _ ⟨sb, B, bq.ext x15, hob.ext x15, fun b' hb' => (hbt b' hb').ext x15, ?_, f12.ext x15⟩
    rw [hBp, htk, List.take_append_of_le_length (by omega)]
  have g2 : j < 5 := by simp at g2; omega
  have bq15 := bq.ext x15
  have hob15 := hob.ext x15
  have hnq : ¬ BlS sb w6.heap.size := fun ⟨a, ha, e⟩ => by have := (hob.base ha).1; omega
  have hnl : ¬ BlS sb w12.heap.size := fun ⟨a, ha, e⟩ => by have := (hob.base ha).2; omega
  refine ⟨fun u => Fr (BlS sb) w15 u, Fr.mono (Ext.drew _) fun _ _ h => h.elim, Let.intro fun w17 e17 => ?_⟩
  have x17 : Ext w15 w17 := by rw [e17]; exact Ext.drew _
  refine ⟨sb, fun u hu => (bq15.fr hu hnq).cell 2, b.neg, fun u hu => (b15.fr hu hnl).cell 0, b.a.rel, b.a.sl, fun u hu => rdAtom (b15.fr hu hnl), ?_⟩
  refine (c58 (hint.ext x17)).mono fun e w18 ⟨z, he, hzp, hzt, hzb, x18⟩ => ⟨_, _, he, (x17.trans x18).mono fun _ _ h => h.elim, rfl, by decide, ?_⟩
  let D : DL := ⟨b.neg, z⟩
  have hbd := buildOne_run E50 (v := .agg [.bool b.neg, .int .i64 z.rel, .slice z.sl.a z.sl.n z.sl.c].toArray) (vs := eL D) rfl rfl (by omega) w18
  have x19 := Ext.alloc w18 (.cells (eL D).toArray 54)
  have hs19 : Sli 3 eL (w18.alloc (.cells (eL D).toArray 54)) ⟨some ⟨w18.heap.size, 0, none⟩, 1, 1⟩ [D] := ⟨rfl, Nat.le_refl _, fun _ => ⟨⟨w18.heap.size, 0⟩, rfl, by simpa using (Blk.alloc w18 (eL D) 54).rd⟩⟩
  have x1519 := (x17.trans x18).trans x19
  have hob19 := hob15.ext x1519
  have hBl : B.length ≤ 5 := by have := congrArg List.length hBp; simp at this; omega
  obtain ⟨s20, w20, hr20, ho20, hf20⟩ := appendSli E50 hob19 hs19 eL_len eL_one (by simp; omega) (by simp [maxLen]; omega) (by have := f12.size; have := x15.size; have := x1519.size; omega) 50
  have hf1520 : Fr (BlS sb) w15 w20 := x1519.fr hf20
  have bq20 := bq15.fr hf1520 hnq
  obtain ⟨p1, p2, p3⟩ := (⟨bq20.storeOk (o := 0 + 2) (vs := [.slice s20.a s20.n s20.c]) rfl (by simp [Value.oneCell']) (by simp), by
      have := bq20.put (o := 0 + 2) (vs := [.slice s20.a s20.n s20.c]); exact this, Fr.put ..⟩ : StoreOk w20 w6.heap.size (0 + 2) [.slice s20.a s20.n s20.c] 1 ∧ Blk (put w20 w6.heap.size (0 + 2) [.slice s20.a s20.n s20.c]) w6.heap.size [.int .i64 y.rel, .slice y.sl.a y.sl.n y.sl.c, .slice s20.a s20.n s20.c] 52 ∧ Fr (fun q => q = w6.heap.size) w20 (put w20 w6.heap.size (0 + 2) [.slice s20.a s20.n s20.c]))
  refine ⟨⟨some ⟨w18.heap.size, 0, none⟩, 1, 1⟩, _, hbd, x1519.mono fun _ _ h => h.elim, s20, w20, hr20, hf1520, p1, Let.intro fun w21 e21 => ?_⟩
  have e21 : w21 = put w20 w6.heap.size (0 + 2) [.slice s20.a s20.n s20.c] := e21
  rw [← e21] at p2 p3
  refine hK2 _ ⟨s20, B ++ [D], p2, ho20.fr p3 fun a ha (e : a.block = w6.heap.size) => by have := (ho20.base ha).1; omega, fun b' hb' => ?_, ?_, ?_⟩
  · have h19 : TI (w18.alloc (.cells (eL D).toArray 54)) b'.a.sl b'.a.args := by
      rcases List.mem_append.1 hb' with hb' | hb'
      · exact ((hbt b' hb').ext x15).ext x1519
      · simp only [List.mem_singleton] at hb'; subst hb'; exact hzt.ext x19
    refine (h19.fr hf20 fun q cur hq ⟨a, ha, e⟩ => ?_).fr p3 fun q cur hq (e : q = w6.heap.size) => ?_
    · obtain ⟨cur', hc'⟩ := hob19.blk ha
      rw [e] at hc'
      exact Blk.ne_ty hq hc' (by decide) rfl
    · subst e; exact Blk.ne_ty hq bq20 (by decide) rfl
  · have t1 : (r.p.body.take j).take 5 = r.p.body.take j := List.take_of_length_le (by omega)
    have t2 : (r.p.body.take j ++ [b.p]).take 5 = r.p.body.take j ++ [b.p] := List.take_of_length_le (by rw [List.length_append]; simp only [List.length_singleton]; omega)
    rw [List.map_append, hBp, htk, t1, t2, List.map_append]
    congr 1
    simp only [List.map_cons, List.map_nil]
    congr 1
    show (⟨b.neg, z.p⟩ : Li) = cutL b.p
    rw [hzp]; rfl
  · exact ((f12.ext x15).trans hf1520 fun q hq ⟨a, ha, e⟩ => by have := (hob15.base ha).1; omega).trans p3 fun _ _ h => h
end Go.Proofs.Ytoljknamnkkgcaa
/-
  The plain law of rules: what values of an instance are; facts keep their shape.
-/
namespace Go.Proofs.Ytoljknamnkkgcaa
open Go Go.VC
set_option maxHeartbeats 400000

theorem getD_set {v : List Int} {i j : Nat} {n : Int} : (v.set i n).getD j 0 = if i = j ∧ j < v.length then n else v.getD j 0 := by
  simp only [List.getD, List.getElem?_set]
  by_cases e : i = j
  · subst e
    by_cases h : i < v.length
    · simp [h]
    · simp [h, List.getElem?_eq_none (show v.length ≤ i by omega)]
  · simp [e]
theorem getD_lt {v : List Int} {j : Nat} (h : v.getD j 0 ≠ 0) : j < v.length := by
  rcases Nat.lt_or_ge j v.length with h1 | h1
  · exact h1
  · exact absurd (by simp [List.getD, List.getElem?_eq_none h1]) h
theorem fitA_keep : ∀ {v l ns v' : List Int}, fitA v l ns = some v' → ∀ y, v.getD y 0 ≠ 0 → v'.getD y 0 = v.getD y 0
  | _, [], _, _, h, y, _ => by simp [fitA] at h; rw [h]
  | _, _ :: _, [], _, h, _, _ => by simp [fitA] at h
  | v, x :: r, n :: ns, v', h, y, hy => by
    rw [fitA] at h
    split at h
    · cases h
    · rename_i hc
      have h1 := fitA_keep h y
      have e : (if 0 ≤ x then v.set x.toNat n else v).getD y 0 = v.getD y 0 := by
        split
        · rw [getD_set]
          split
          · rename_i h0 he
            obtain ⟨e1, e2⟩ := he
            subst e1
            refine Classical.byContradiction fun hne => hc (.inr ⟨h0, hy, fun e => hne e.symm⟩)
          · rfl
        · rfl
      rw [e] at h1
      exact h1 hy
theorem fitA_val : ∀ {v l ns v' : List Int}, v.length = 8 → (∀ x ∈ l, x ≤ 7) → fitA v l ns = some v' → ∀ (i : Nat) (x n : Int), l[i]? = some x → ns[i]? = some n → n ≠ 0 → gV v' x = n
  | _, [], _, _, _, _, _, i, _, _, h, _, _ => by simp at h
  | _, _ :: _, [], _, _, _, h, _, _, _, _, _, _ => by simp [fitA] at h
  | v, y :: r, m :: ns, v', hv, hl, h, i, x, n, hi, hn, h0 => by
    rw [fitA] at h
    split at h
    · cases h
    · rename_i hc
      cases i with
      | zero =>
        simp only [List.getElem?_cons_zero, Option.some.injEq] at hi hn
        subst hi hn
        unfold gV
        by_cases hy : y < 0
        · rw [if_pos hy]
          exact Classical.byContradiction fun hne => hc (.inl ⟨hy, hne⟩)
        · rw [if_neg hy]
          have hy0 : 0 ≤ y := by omega
          rw [if_pos hy0] at h
          have hy7 := hl y (by simp)
          have e : (v.set y.toNat m).getD y.toNat 0 = m := by rw [getD_set, if_pos ⟨rfl, by omega⟩]
          have := fitA_keep h y.toNat (by rw [e]; exact h0)
          rw [this, e]
      | succ i =>
        refine fitA_val (v := if 0 ≤ y then v.set y.toNat m else v) ?_ (fun z hz => hl z (by simp [hz])) h i x n (by simpa using hi) (by simpa using hn) h0
        split <;> simp [hv]
/-- A key of the right shape: as many Args as the others of its Rel. -/
structure TyK (C : List Fa) (k : Ky) : Prop where
  r0 : 0 ≤ k.rel
  r1 : k.rel ≤ 5
  a1 : 1 ≤ k.a ∧ k.a ≤ 6
  b1 : k.b = 0 ∨ (1 ≤ k.b ∧ k.b ≤ 6)
  co : ∀ g ∈ C, g.rel = k.rel → (g.args.length = 1 ∧ k.b = 0) ∨ (g.args.length = 2 ∧ k.b ≠ 0)
theorem TyK.ground {C : List Fa} {k : Ky} (h : TyK C k) : GroundF k.f := by
  refine ⟨h.r0, h.r1, ?_, ?_, ?_⟩
  · simp only [Ky.f]; split <;> simp
  · simp only [Ky.f]; split <;> simp
  · intro x hx
    simp only [Ky.f] at hx
    have ha := h.a1
    split at hx
    · simp only [List.mem_singleton] at hx; subst hx; exact ha
    · simp only [List.mem_cons, List.not_mem_nil, or_false] at hx
      rcases hx with rfl | rfl
      · exact ha
      · rcases h.b1 with h' | h'
        · omega
        · exact h'
theorem TyK.len {C : List Fa} {k : Ky} (h : TyK C k) : ∀ g ∈ C, g.rel = k.rel → g.args.length = k.f.args.length := fun g hg e => by
  rcases h.co g hg e with ⟨h1, h2⟩ | ⟨h1, h2⟩
  · simp [Ky.f, h2, h1]
  · simp [Ky.f, h2, h1]
theorem Ky.fk (k : Ky) : k.f.k = k := by
  cases k with | mk r a b => simp only [Ky.f, Fa.k]; by_cases h : b = 0 <;> simp [h]
theorem GroundF.kf {f : Fa} (h : GroundF f) : f.k.f = f := by
  obtain ⟨h1, h2, h3, h4, h5⟩ := h
  obtain ⟨r, l⟩ := f
  match l, h3, h4, h5 with
  | [a], _, _, _ => simp [Ky.f, Fa.k]
  | [a, b], _, _, h5 =>
    have hb := (h5 b (by simp)).1
    have : b ≠ 0 := by omega
    simp [Ky.f, Fa.k, this]
theorem ty_of {C : List Fa} {f : Fa} (hg : GroundF f) (hc : ∀ g ∈ C, g.rel = f.rel → g.args.length = f.args.length) : TyK C f.k := by
  obtain ⟨h1, h2, h3, h4, h5⟩ := hg
  obtain ⟨r, l⟩ := f
  match l, h3, h4, h5, hc with
  | [a], _, _, h5, hc => exact ⟨h1, h2, h5 a (by simp), .inl rfl, fun g hg e => .inl ⟨by simpa using hc g hg e, rfl⟩⟩
  | [a, b], _, _, h5, hc =>
    have hb := h5 b (by simp)
    exact ⟨h1, h2, h5 a (by simp), .inr hb, fun g hg e => .inr ⟨by simpa using hc g hg e, by show b ≠ 0; omega⟩⟩
/-- An atom under values that fit it to a fact of its shape is that fact. -/
theorem fitK_gnd {C : List Fa} {a : Fa} {g : Ky} {v v' u : List Int} (hv : v.length = 8) (ha : FitsF a) (haC : a ∈ C) (hg : TyK C g) (hf : fitK v a g v') (hu : ∀ y, v'.getD y 0 ≠ 0 → u.getD y 0 = v'.getD y 0) :
    gnd a u = g ∧ ∀ x ∈ a.args, 1 ≤ gV u x ∧ gV u x ≤ 6 := by
  obtain ⟨h1, h2⟩ := hf
  have hl7 : ∀ x ∈ a.args, x ≤ 7 := fun x hx => (ha.2.2.2.2 x hx).2
  have hval := fitA_val hv hl7 h2
  have hu' : ∀ x n : Int, gV v' x = n → n ≠ 0 → gV u x = n := fun x n e h0 => by
    unfold gV at e ⊢
    split at e
    · rw [if_pos (by assumption)]; exact e
    · rw [if_neg (by assumption), hu x.toNat (by rw [e]; exact h0)]; exact e
  have ga := hg.a1
  have hco := hg.co a haC h1
  obtain ⟨r, l⟩ := a
  simp only at h1
  match l, hco, hval with
  | [], hco, _ => simp at hco
  | [x], hco, hval =>
    have e0 := hu' x g.a (hval 0 x g.a rfl rfl (by omega)) (by omega)
    have hb : g.b = 0 := by rcases hco with ⟨_, h⟩ | ⟨h, _⟩; exact h; simp at h
    refine ⟨?_, ?_⟩
    · cases g; simp only at h1 e0 hb; simp [gnd, gA, e0, h1, hb]
    · intro y hy; simp only [List.mem_singleton] at hy; subst hy; rw [e0]; exact ga
  | [x, z], hco, hval =>
    have hb : g.b ≠ 0 := by rcases hco with ⟨h, _⟩ | ⟨_, h⟩; simp at h; exact h
    have gb : 1 ≤ g.b ∧ g.b ≤ 6 := by rcases hg.b1 with h | h; exact absurd h hb; exact h
    have e0 := hu' x g.a (hval 0 x g.a rfl rfl (by omega)) (by omega)
    have e1 := hu' z g.b (hval 1 z g.b rfl rfl hb) hb
    refine ⟨?_, ?_⟩
    · cases g; simp only at h1 e0 e1; simp [gnd, gA, e0, e1, h1]
    · intro y hy
      simp only [List.mem_cons, List.not_mem_nil, or_false] at hy
      rcases hy with rfl | rfl
      · rw [e0]; exact ga
      · rw [e1]; exact gb
  | _ :: _ :: _ :: _, hco, _ => simp at hco
theorem En_sem {C : List Fa} {In : Ky → Prop} (hIn : ∀ k, In k → TyK C k) : ∀ {l : List Li} {v u : List Int}, (∀ b ∈ l, FitsF b.a ∧ b.a ∈ C) → v.length = 8 → En In l v u →
    (∀ y, v.getD y 0 ≠ 0 → u.getD y 0 = v.getD y 0) ∧ ∀ b ∈ l, b.neg = false → In (gnd b.a u) ∧ ∀ x ∈ b.a.args, 1 ≤ gV u x ∧ gV u x ≤ 6
  | [], v, u, _, _, h => ⟨fun y _ => by rw [h], by simp⟩
  | c :: r, v, u, hb, hv, h => by
    have hr : ∀ b ∈ r, FitsF b.a ∧ b.a ∈ C := fun b h' => hb b (by simp [h'])
    rw [En] at h
    split at h
    · rename_i hneg
      obtain ⟨h1, h2⟩ := En_sem hIn hr hv h
      refine ⟨h1, fun b hbm hn => ?_⟩
      rcases List.mem_cons.1 hbm with rfl | hbm
      · rw [hneg] at hn; cases hn
      · exact h2 b hbm hn
    · obtain ⟨g, v', g1, g2, g3⟩ := h
      obtain ⟨h1, h2⟩ := En_sem hIn hr (by rw [fitA_len g2.2, hv]) g3
      have hc := hb c (by simp)
      obtain ⟨e1, e2⟩ := fitK_gnd hv hc.1 hc.2 (hIn g g1) g2 h1
      refine ⟨fun y hy => ?_, fun b hbm hn => ?_⟩
      · have := fitA_keep g2.2 y hy
        rw [h1 y (by rw [this]; exact hy), this]
      · rcases List.mem_cons.1 hbm with rfl | hbm
        · rw [e1]; exact ⟨g1, e2⟩
        · exact h2 b hbm hn
/-- The Head of an instance has the right shape. -/
theorem head_ty {C : List Fa} {In : Ky → Prop} (hIn : ∀ k, In k → TyK C k) (hC : Consist C) {r : Ru} (hr : RuleP r) (hrC : ∀ a ∈ r.atoms, a ∈ C) {u : List Int} (h : En In r.body z8 u) : TyK C (gnd r.head u) := by
  have hbd : ∀ b ∈ r.body, FitsF b.a ∧ b.a ∈ C := fun b hb => by
    have : b.a ∈ r.atoms := by simp [Ru.atoms]; exact .inr ⟨b, hb, rfl⟩
    exact ⟨hr.2.2 _ this, hrC _ this⟩
  obtain ⟨_, h2⟩ := En_sem hIn hbd rfl h
  have hh : r.head ∈ r.atoms := by simp [Ru.atoms]
  have hf := hr.2.2 _ hh
  have hval : ∀ x ∈ r.head.args, 1 ≤ gV u x ∧ gV u x ≤ 6 := fun x hx => by
    have hx6 := hf.2.2.2.2 x hx
    by_cases h0 : 0 ≤ x
    · obtain ⟨b, hb, hn, hxb⟩ := hr.2.1 _ hh x hx h0
      exact (h2 b hb hn).2 x hxb
    · unfold gV; rw [if_pos (by omega)]; omega
  have hcc := fun g hg e => hC g hg _ (hrC _ hh) e
  obtain ⟨f1, f2, f3, f4, _⟩ := hf
  revert hval hcc
  generalize r.head = hd at f1 f2 f3 f4
  obtain ⟨q, l⟩ := hd
  intro hval hcc
  match l, f3, f4, hval, hcc with
  | [x], _, _, hval, hcc => exact ⟨f1, f2, by simpa [gnd, gA] using hval x (by simp), .inl rfl, fun g hg e => .inl ⟨by simpa using hcc g hg e, rfl⟩⟩
  | [x, z], _, _, hval, hcc =>
    have hz := hval z (by simp)
    exact ⟨f1, f2, by simpa [gnd, gA] using hval x (by simp), .inr (by simpa [gnd, gA] using hz), fun g hg e => .inr ⟨by simpa using hcc g hg e, by show gA u [x, z] 1 ≠ 0; simp [gA]; omega⟩⟩
theorem Cl_ty {C : List Fa} {l : List Ru} {G N : Ky → Prop} (hC : Consist C) (hG : ∀ k, G k → TyK C k) (hl : ∀ r ∈ l, RuleP r ∧ ∀ a ∈ r.atoms, a ∈ C) : ∀ k, Cl l G N k → TyK C k := fun k h =>
  h (TyK C) hG fun r hr u h1 _ => head_ty (fun _ h => h) hC (hl r hr).1 (hl r hr).2 h1
theorem Lay_ty {C : List Fa} {l : List Ru} {s : List Int} {G : Ky → Prop} (hC : Consist C) (hG : ∀ k, G k → TyK C k) (hl : ∀ r ∈ l, RuleP r ∧ ∀ a ∈ r.atoms, a ∈ C) : ∀ n k, Lay l s G n k → TyK C k
  | 0 => hG
  | n + 1 => Cl_ty hC (Lay_ty hC hG hl n) fun r hr => hl r (List.mem_filter.1 hr).1
/-- All atoms that are there. -/
def allA (l : List Ru) (fs : List Fa) : List Fa := fs ++ l.flatMap Ru.atoms
theorem ValidP.ty {l : List Ru} {fs : List Fa} (h : ValidP l fs) : (∀ k, giv fs k → TyK (allA l fs) k) ∧ ∀ r ∈ l, RuleP r ∧ ∀ a ∈ r.atoms, a ∈ allA l fs := by
  refine ⟨?_, fun r hr => ⟨h.ru r hr, fun a ha => List.mem_append_right _ (List.mem_flatMap.2 ⟨r, hr, ha⟩)⟩⟩
  rintro k ⟨f, hf, rfl⟩
  exact ty_of (h.gr f hf) fun g hg e => h.co g hg f (List.mem_append_left _ hf) e
/-! ### rules without Not -/
def PlainP (l : List Ru) : Prop := ∀ r ∈ l, ∀ b ∈ r.body, b.neg = false
theorem plain_str {l : List Ru} (h : PlainP l) : IsStr l zero6 := by
  have hz : ∀ r, lv zero6 r = 0 := fun r => by
    unfold lv zero6
    rcases hn : r.toNat with _ | _ | _ | _ | _ | _ | n <;> simp
  refine ⟨rfl, by simp [zero6], fun r hr b hb => ?_, fun f hf x _ _ => by rw [hz]; exact hf.1 x⟩
  rw [hz, hz]
  simp [nI, h r hr b hb]
theorem lv_zero6 (r : Int) : lv zero6 r = 0 := by
  unfold lv zero6
  rcases hn : r.toNat with _ | _ | _ | _ | _ | _ | n <;> simp
theorem plain_neg {l : List Ru} (h : PlainP l) {r : Ru} (hr : r ∈ l) (N : Ky → Prop) (u : List Int) : NegOk N r.body u := fun b hb hn => by rw [h r hr b hb] at hn; cases hn
theorem Closed.plain {l : List Ru} (h : PlainP l) {N N' S : Ky → Prop} (hc : Closed l N S) : Closed l N' S := fun r hr u h1 _ => hc r hr u h1 (plain_neg h hr N u)
theorem Cl.plain {l : List Ru} (h : PlainP l) {G N N' : Ky → Prop} {k : Ky} : Cl l G N k → Cl l G N' k := fun hk S h1 h2 => hk S h1 (h2.plain h)
/-- The model of rules without Not: the closure. -/
theorem Mdl_plain {l : List Ru} (h : PlainP l) (N G : Ky → Prop) (k : Ky) : Mdl l zero6 G k ↔ Cl l G N k := by
  have h1 := Lay_top (l := l) (s := zero6) (G := G) (m := 1) (fun r _ => by rw [lv_zero6]; omega) 5 k
  have h2 : Lay l zero6 G 1 k ↔ Cl l G G k := by
    show Cl (l.filter fun r => decide (lv zero6 r.head.rel = ((0 : Nat) : Int))) G G k ↔ _
    have : (l.filter fun r => decide (lv zero6 r.head.rel = ((0 : Nat) : Int))) = l := List.filter_eq_self.2 fun r _ => by simp [lv_zero6]
    rw [this]
  exact h1.trans (h2.trans ⟨Cl.plain h, Cl.plain h⟩)
end Go.Proofs.Ytoljknamnkkgcaa
