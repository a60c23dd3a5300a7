/-
  Contract: the model of rules, layer after layer.
-/
import Derived.Test.YtoljknamnkkgcaaCm
namespace Go.Proofs.Ytoljknamnkkgcaa
open Go Go.VC
set_option maxHeartbeats 1000000
set_option maxRecDepth 100000

/-! ### a universe -/
def U0 : List Ky := (List.range 6).flatMap fun r : Nat => (List.range 7).flatMap fun a : Nat => (List.range 7).map fun b : Nat => (⟨(r : Int), (a : Int), (b : Int)⟩ : Ky)
theorem U0_len : U0.length ≤ 1000 := by decide
def InU (k : Ky) : Prop := 0 ≤ k.rel ∧ k.rel ≤ 5 ∧ 0 ≤ k.a ∧ k.a ≤ 6 ∧ 0 ≤ k.b ∧ k.b ≤ 6
theorem mem_U0 {k : Ky} (h : InU k) : k ∈ U0 := by
  obtain ⟨h1, h2, h3, h4, h5, h6⟩ := h
  simp only [U0, List.mem_flatMap, List.mem_range, List.mem_map]
  refine ⟨k.rel.toNat, by omega, k.a.toNat, by omega, k.b.toNat, by omega, ?_⟩
  cases k
  simp only at h1 h2 h3 h4 h5 h6 ⊢
  congr 1 <;> omega
theorem few_of {S : Ky → Prop} (h : ∀ k, S k → InU k) : Few S := ⟨U0, U0_len, fun k hk => mem_U0 (h k hk)⟩
def Bd (v : List Int) : Prop := ∀ x ∈ v, 0 ≤ x ∧ x ≤ 6
theorem fitA_bd : ∀ {v l ns v' : List Int}, Bd v → Bd ns → fitA v l ns = some v' → Bd v'
  | _, [], _, _, hv, _, h => by simp [fitA] at h; subst h; exact hv
  | _, _ :: _, [], _, _, _, h => by simp [fitA] at h
  | v, x :: r, n :: ns, v', hv, hn, h => by
    rw [fitA] at h
    split at h
    · cases h
    · refine fitA_bd ?_ (fun y hy => hn y (List.mem_cons_of_mem _ hy)) h
      split
      · intro y hy
        rcases List.mem_or_eq_of_mem_set hy with hy | rfl
        · exact hv y hy
        · exact hn _ (by simp)
      · exact hv
theorem En_bd {In : Ky → Prop} (hIn : ∀ k, In k → InU k) : ∀ {l : List Li} {v u : List Int}, Bd v → En In l v u → Bd u
  | [], _, _, hv, h => by rw [h]; exact hv
  | b :: r, v, u, hv, h => by
    rw [En] at h
    split at h
    · exact En_bd hIn hv h
    · obtain ⟨g, v', h1, h2, h3⟩ := h
      obtain ⟨a1, a2, a3, a4, a5, a6⟩ := hIn g h1
      exact En_bd hIn (fitA_bd hv (by intro x hx; simp at hx; rcases hx with rfl | rfl <;> exact ⟨by omega, by omega⟩) h2.2) h3
theorem En_len {In : Ky → Prop} : ∀ {l : List Li} {v u : List Int}, En In l v u → u.length = v.length
  | [], _, _, h => by rw [h]
  | b :: r, v, u, h => by
    rw [En] at h
    split at h
    · exact En_len h
    · obtain ⟨g, v', h1, h2, h3⟩ := h
      rw [En_len h3, fitA_len h2.2]
theorem Bd_z8 : Bd z8 := by intro x hx; simp [z8] at hx; subst hx; omega
theorem gA_bd {u l : List Int} (hu : Bd u) (hl : ∀ x ∈ l, -6 ≤ x ∧ x ≤ 7) (i : Nat) : 0 ≤ gA u l i ∧ gA u l i ≤ 6 := by
  unfold gA
  cases h : l[i]? with
  | none => simp
  | some x =>
    have hx := hl x (List.mem_of_getElem? h)
    simp only [gV]
    split
    · omega
    · by_cases e : x.toNat < u.length
      · simp only [List.getD, List.getElem?_eq_getElem e, Option.getD_some]; exact hu _ (List.getElem_mem e)
      · simp [List.getD, List.getElem?_eq_none (show u.length ≤ x.toNat by omega)]
theorem gnd_in {f : Fa} (hf : FitsF f) {u : List Int} (hu : Bd u) : InU (gnd f u) := by
  have h0 := gA_bd hu hf.2.2.2.2 0
  have h1 := gA_bd hu hf.2.2.2.2 1
  exact ⟨hf.1, hf.2.1, h0.1, h0.2, h1.1, h1.2⟩
theorem Cl_in {l : List Ru} {G N : Ky → Prop} (hG : ∀ k, G k → InU k) (hl : ∀ r ∈ l, FitsF r.head) : ∀ k, Cl l G N k → InU k := fun k h => h InU hG fun r hr u h1 _ => gnd_in (hl r hr) (En_bd (fun _ h => h) Bd_z8 h1)
/-- The layers of a model. -/
def Lay (l : List Ru) (s : List Int) (G : Ky → Prop) : Nat → Ky → Prop
  | 0 => G
  | n + 1 => Cl (l.filter fun r => decide (lv s r.head.rel = (n : Int))) (Lay l s G n) (Lay l s G n)
theorem Lay_in {l : List Ru} {s : List Int} {G : Ky → Prop} (hG : ∀ k, G k → InU k) (hl : ∀ r ∈ l, FitsF r.head) : ∀ n k, Lay l s G n k → InU k
  | 0 => hG
  | n + 1 => Cl_in (Lay_in hG hl n) fun r hr => hl r ((List.mem_filter.1 hr).1)
theorem Cl_nil {G N : Ky → Prop} (k : Ky) : Cl [] G N k ↔ G k := Cl.eq (fun _ h => h) (fun r hr => by cases hr) (fun _ h => Cl.base h) k
theorem Lay_top {l : List Ru} {s : List Int} {G : Ky → Prop} {m : Nat} (hm : ∀ r ∈ l, lv s r.head.rel < (m : Int)) : ∀ d k, Lay l s G (m + d) k ↔ Lay l s G m k
  | 0, k => Iff.rfl
  | d + 1, k => by
    show Cl (l.filter fun r => decide (lv s r.head.rel = ((m + d : Nat) : Int))) (Lay l s G (m + d)) (Lay l s G (m + d)) k ↔ _
    have : (l.filter fun r => decide (lv s r.head.rel = ((m + d : Nat) : Int))) = [] := by
      rw [List.filter_eq_nil_iff]
      intro r hr
      have := hm r hr
      simp; omega
    rw [this, Cl_nil]
    exact Lay_top hm d k
/-- The model of rules with these strata. -/
def Mdl (l : List Ru) (s : List Int) (G : Ky → Prop) : Ky → Prop := Lay l s G 6
theorem E27 : Elem Try.prog 27 52 3 56 := Elem.of (by kernel_rfl) (by kernel_rfl) (by decide)
theorem FitsF.at {a : Fa} (h : FitsF a) : AtOk a := ⟨h.2.2.2.1, h.2.2.2.2⟩
theorem RuleP.ok {r : Ru} (h : RuleP r) : RuOk r := ⟨(h.2.2 r.head (by simp [Ru.atoms])).at, h.1, fun b hb => (h.2.2 b.a (by simp [Ru.atoms]; exact .inr ⟨b, hb, rfl⟩)).at⟩
theorem RuleP.rel {l : List Ru} (h : ∀ r ∈ l, RuleP r) : RelOk l := fun r hr a ha => ⟨((h r hr).2.2 a ha).1, ((h r hr).2.2 a ha).2.1⟩
theorem giv_in {fs : List Fa} (h : ∀ f ∈ fs, GroundF f) : ∀ k, giv fs k → InU k := by
  rintro k ⟨f, hf, rfl⟩
  obtain ⟨h1, h2, h3, h4, h5⟩ := h f hf
  have h0 : ∀ i, 0 ≤ f.args.getD i 0 ∧ f.args.getD i 0 ≤ 6 := fun i => by
    by_cases e : i < f.args.length
    · simp only [List.getD, List.getElem?_eq_getElem e, Option.getD_some]
      have := h5 _ (List.getElem_mem e); omega
    · simp [List.getD, List.getElem?_eq_none (show f.args.length ≤ i by omega)]
  exact ⟨h1, h2, (h0 0).1, (h0 0).2, (h0 1).1, (h0 1).2⟩
theorem filter_step' {α : Type} {l : List α} {i : Nat} (hi : i < l.length) {p : α → Bool} : (l.take (i + 1)).filter p = (l.take i).filter p ++ (if p l[i] = true then [l[i]] else []) := by
  rw [List.take_succ_eq_append_getElem hi, List.filter_append]
  by_cases h : p l[i] = true
  · simp [h]
  · simp [h]
theorem c56 {w : World} {s s' : Sl} {l : List DR} {fs : List DF} (hs : NR w s l) (hf : NF w s' fs) (hl : l.length ≤ 100) (hfl : fs.length ≤ 1000000) (hru : ∀ r ∈ l, RuleP r.p) (hgr : ∀ f ∈ fs, GroundF f.p) :
    Calls Try.prog 56 [.slice s.a s.n s.c, .slice s'.a s'.n s'.c].toArray w fun e w' => ∃ (m : Option Nat) (ok : Bool), e = .returned (.tuple [.map m, .bool ok].toArray) ∧
      (ok = true → ∃ t b, IsStr (l.map DR.p) t ∧ m = some b ∧ FM w' b (Mdl (l.map DR.p) t (giv (fs.map DF.p)))) ∧ (ok = false → ¬ ∃ t, IsStr (l.map DR.p) t) ∧ Ext w w' := by
  refine (call56 s s' (R := fun v w' => ∃ (m : Option Nat) (ok : Bool), v = (.tuple [.map m, .bool ok].toArray) ∧
      (ok = true → ∃ t b, IsStr (l.map DR.p) t ∧ m = some b ∧ FM w' b (Mdl (l.map DR.p) t (giv (fs.map DF.p)))) ∧ (ok = false → ¬ ∃ t, IsStr (l.map DR.p) t) ∧ Ext w w') ?_).mono fun e w' ⟨v, he, m, ok, hv, hx⟩ => ⟨m, ok, by rw [he, hv], hx⟩
  have hsn := hs.len
  have hruL : ∀ r ∈ l.map DR.p, RuleP r := fun r hr => by obtain ⟨x, hx, rfl⟩ := List.mem_map.1 hr; exact hru x hx
  have hR : RelOk (l.map DR.p) := RuleP.rel hruL
  have hgrL : ∀ f ∈ fs.map DF.p, GroundF f := fun f hf => by obtain ⟨x, hx, rfl⟩ := List.mem_map.1 hf; exact hgr x hx
  have hhead : ∀ r ∈ l.map DR.p, FitsF r.head := fun r hr => (hruL r hr).2.2 r.head (by simp [Ru.atoms])
  refine (c84 hs hl (fun r hr => by have := (hru r hr).1; simpa [DR.p] using this) hR).mono fun e w1 ⟨s1, ok, he, hok, hno, x1⟩ => ⟨s1, ok, he, ?_⟩
  refine cond_intro (fun g => ?_) (fun g => ?_)
  · have g : ok = false := by simpa using g
    refine ⟨none, false, rfl, (fun h => by cases h), fun _ ⟨t, ht⟩ => ?_, x1⟩
    obtain ⟨x, h0, h1, h2⟩ := (hno g).2 _ ht.isSol
    have := lv_le (by omega) (ht.le5 hR) x
    omega
  have g : ok = true := by simpa using g
  obtain ⟨t, hti, ht⟩ := hok g
  refine (c67 (hf.ext x1) (by show fs.length ≤ 9223372036854775807; omega) (fun x hx h => by have := (hgr x hx).2.2.1; simp [DF.p, h] at this)).mono fun e w2 ⟨b2, he, m2, _, x2⟩ => ⟨_, he, ?_⟩
  have ht0 := ht.len
  refine (c106 (hti.ext x2) (by rw [ht0]; decide) (by intro h; rw [h] at ht0; cases ht0)).mono fun e w3 ⟨mx, he, hmx, hw⟩ => ⟨_, he, ?_⟩
  subst hw
  have hm5 : mx ≤ 5 := (hmx 5).2 (ht.le5 hR)
  have hm0 : 0 ≤ mx := by
    have h1 := (hmx mx).1 (Int.le_refl _) t[0] (List.getElem_mem _)
    have h2 := ht.nn t[0] (List.getElem_mem _)
    omega
  have ew : IntKind.wrap .i64 (mx + 1) = ((mx.toNat + 1 : Nat) : Int) := by rw [wrap64 (by omega) (by omega)]; omega
  rw [ew]
  have x12 := x1.trans x2
  generalize hG : giv (fs.map DF.p) = G at m2 ⊢
  generalize hLL : l.map DR.p = L at *
  have hGin : ∀ k, G k → InU k := by rw [← hG]; exact giv_in hgrL
  refine Join.dir (rangeKI (k := .map) (n := mx.toNat + 1) (fun i (m : Option Nat) w5 => ∃ b, m = some b ∧ FM w5 b (Lay L t G i) ∧ Ext w1 w5) (by show mx.toNat + 1 ≤ 9223372036854775807; omega) ⟨b2, rfl, m2, x2⟩ ?_ ?_)
  rotate_left
  · rintro m w4 ⟨b, rfl, m4, x4⟩
    refine ⟨some b, true, rfl, fun _ => ⟨t, b, ht, rfl, m4.congr fun k => ?_⟩, (fun h => by cases h), x1.trans x4⟩
    have hlt : ∀ r ∈ L, lv t r.head.rel < ((mx.toNat + 1 : Nat) : Int) := fun r hr => by
      have := lv_le hm0 ((hmx mx).1 (Int.le_refl _)) r.head.rel
      omega
    have := Lay_top (G := G) hlt (6 - (mx.toNat + 1)) k
    rw [show mx.toNat + 1 + (6 - (mx.toNat + 1)) = 6 from by omega] at this
    exact this
  rintro i hi m w5 ⟨b, rfl, m5, x5⟩ K hK
  refine ⟨fun s10 w7 => ∃ part : List DR, Own 52 3 eR w5.heap.size w7 s10 part ∧ part = l.filter (fun r => decide (lv t r.p.head.rel = (i : Int))) ∧ Ext w5 w7, ?_, ?_⟩
  · rintro s10 w7 ⟨part, ho7, rfl, x7⟩
    have x07 := (x1.trans x5).trans x7
    have hps : NR w7 s10 (l.filter fun r => decide (lv t r.p.head.rel = (i : Int))) := ⟨ho7.sli, fun r hr => (hs.ext x07).ok r ((List.mem_filter.1 hr).1)⟩
    have hpm : (l.filter fun r => decide (lv t r.p.head.rel = (i : Int))).map DR.p = L.filter fun r => decide (lv t r.head.rel = (i : Int)) := by
      rw [← hLL, List.filter_map]; rfl
    have hin := Lay_in (s := t) hGin hhead (i + 1)
    have few : Few (Cl ((l.filter fun r => decide (lv t r.p.head.rel = (i : Int))).map DR.p) (Lay L t G i) (Lay L t G i)) := by rw [hpm]; exact few_of hin
    refine (c68 hps (m5.ext x7) (.inr ⟨b, rfl, m5.ext x7⟩) (by have := List.length_filter_le (fun r : DR => decide (lv t r.p.head.rel = (i : Int))) l; omega) (fun r hr => (hru r (List.mem_filter.1 hr).1).ok) few).mono fun e w8 ⟨b8, he, m8, _, x8⟩ => ⟨_, he, hK _ _ ⟨b8, rfl, ?_, (x5.trans x7).trans x8⟩⟩
    rw [hpm] at m8; exact m8
  · refine rangeSI (fun j (s10 : Sl) w9 => ∃ part : List DR, Own 52 3 eR w5.heap.size w9 s10 part ∧ part = (l.take j).filter (fun r => decide (lv t r.p.head.rel = (i : Int))) ∧ w5.heap.size ≤ w9.heap.size ∧ Ext w5 w9) (by rw [hsn]; show l.length ≤ 9223372036854775807; omega) ⟨[], Own.nil .., by simp, Nat.le_refl _, Fr.refl _ _⟩ ?_ ?_
    · rintro j hj s10 w9 ⟨part, ho9, rfl, z9, x9⟩ K2 hK2
      have hj : j < l.length := by omega
      have x09 := (x1.trans x5).trans x9
      refine loadR (hs.ext x09) hj fun w12 b12 x12' => ?_
      have hrel : 0 ≤ (l[j]).head.rel ∧ (l[j]).head.rel ≤ 5 := by
        have := (hru _ (List.getElem_mem hj)).2.2 (l[j]).p.head (by simp [Ru.atoms])
        exact ⟨this.1, this.2.1⟩
      have hfs := filter_step' (l := l) hj (p := fun r => decide (lv t r.p.head.rel = (i : Int)))
      have hplen := List.length_filter_le (fun r : DR => decide (lv t r.p.head.rel = (i : Int))) (l.take j)
      have htl : (l.take j).length ≤ l.length := by simp; omega
      generalize hrj : l[j] = r at b12 hrel hfs
      generalize (l.take j).filter (fun r => decide (lv t r.p.head.rel = (i : Int))) = part at ho9 hfs hplen
      have hti12 : Ints w12 s1 t := ((hti.ext x5).ext x9).ext x12'
      obtain ⟨n, hn⟩ : ∃ n : Nat, r.head.rel = n := ⟨r.head.rel.toNat, by omega⟩
      obtain ⟨p38, hp38, a1, a2, hr38⟩ := Ints.at hti12 (i := n) (by omega)
      have hlvn : t[n]'(by omega) = lv t r.p.head.rel := by
        show _ = lv t r.head.rel
        rw [hn]; simp [lv, List.getD, show n < t.length by omega]
      rw [hlvn] at hr38
      have b12' := b12.cell 0
      rw [show (eR r)[0]? = some (.int .i64 (n : Int)) from by rw [← hn]; rfl] at b12'
      refine ⟨(n : Int), b12', p38, hp38, a1, a2, _, hr38, Join.dir (cond_intro (fun g => ?_) (fun g => ?_))⟩
      · have g : lv t r.p.head.rel = (i : Int) := by simpa using g
        obtain ⟨q1, w14, hb14, q2, w15, hr15, ho15, hf15⟩ := appendOne E27 (ho9.ext x12') (x := r) (v := .agg (eR r).toArray) rfl eR_len eR_one (by omega) (by omega) (by simp only [maxLen]; omega) (by have := x12'.size; omega) 27
        refine ⟨_, _, _, b12.rd, q1, w14, hb14, q2, w15, hr15, hK2 _ _ ⟨_, ho15, ?_, by have := x12'.size; have := hf15.size; omega, (x9.trans x12').newer hf15 fun y ⟨a, ha, e⟩ => by have := ((ho9.ext x12').base ha).1; omega⟩⟩
        rw [hfs]; simp [g]
      · have g : ¬ lv t r.p.head.rel = (i : Int) := by simpa using g
        refine hK2 _ _ ⟨part, ho9.ext x12', ?_, by have := x12'.size; omega, x9.trans x12'⟩
        rw [hfs]; simp [g]
    · rintro s10 w9 ⟨part, ho9, hpart, z9, x9⟩
      rw [hsn, List.take_length] at hpart
      exact ⟨part, ho9, hpart, x9⟩
/-- Model. -/
theorem c16 {w : World} {s s' : Sl} {l : List DR} {fs : List DF} (hs : NR w s l) (hf : NF w s' fs) (hl : l.length ≤ 1000000) (hfl : fs.length ≤ 1000000) (hz : ∀ r ∈ l, SzR r) (hzf : ∀ f ∈ fs, f.args.length ≤ 1000) :
    Calls Try.prog 16 [.slice s.a s.n s.c, .slice s'.a s'.n s'.c].toArray w fun e w' => ∃ (s2 : Sl) (x : Int) (L : List DF), e = .returned (.tuple [.slice s2.a s2.n s2.c, .int .i64 x].toArray) ∧ NF w' s2 L ∧ L.length ≤ 1000 ∧
      ((¬ ValidP (l.map DR.p) (fs.map DF.p) ∧ x = 2 ∧ L = []) ∨ (ValidP (l.map DR.p) (fs.map DF.p) ∧ (¬ ∃ t, IsStr (l.map DR.p) t) ∧ x = 8 ∧ L = []) ∨
        (ValidP (l.map DR.p) (fs.map DF.p) ∧ ∃ t, IsStr (l.map DR.p) t ∧ x = 0 ∧ IsL (Mdl (l.map DR.p) t (giv (fs.map DF.p))) (L.map DF.p))) ∧ Ext w w' := by
  refine (call16 s s' (R := fun v w' => ∃ (s2 : Sl) (x : Int) (L : List DF), v = (.tuple [.slice s2.a s2.n s2.c, .int .i64 x].toArray) ∧ NF w' s2 L ∧ L.length ≤ 1000 ∧
      ((¬ ValidP (l.map DR.p) (fs.map DF.p) ∧ x = 2 ∧ L = []) ∨ (ValidP (l.map DR.p) (fs.map DF.p) ∧ (¬ ∃ t, IsStr (l.map DR.p) t) ∧ x = 8 ∧ L = []) ∨
        (ValidP (l.map DR.p) (fs.map DF.p) ∧ ∃ t, IsStr (l.map DR.p) t ∧ x = 0 ∧ IsL (Mdl (l.map DR.p) t (giv (fs.map DF.p))) (L.map DF.p))) ∧ Ext w w') ?_).mono fun e w' ⟨v, he, s2, x, L, hv, hx⟩ => ⟨s2, x, L, by rw [he, hv], hx⟩
  have hnil : ∀ w, NF w ⟨none, 0, 0⟩ [] := fun w => ⟨Sli.nil _ _, by simp⟩
  refine (c55 hs hf hl hfl hz hzf).mono fun e w1 ⟨b, he, hb, x1⟩ => ⟨b, he, cond_intro (fun g => ?_) (fun g => ?_)⟩
  · have g : b = false := by simpa using g
    exact ⟨⟨none, 0, 0⟩, 2, [], rfl, hnil _, by simp, .inl ⟨(fun h => by rw [hb.2 h] at g; cases g), rfl, rfl⟩, x1⟩
  have g : b = true := by simpa using g
  have hv := hb.1 g
  have hru : ∀ r ∈ l, RuleP r.p := fun r hr => hv.ru _ (List.mem_map.2 ⟨r, hr, rfl⟩)
  have hgr : ∀ f ∈ fs, GroundF f.p := fun f hf => hv.gr _ (List.mem_map.2 ⟨f, hf, rfl⟩)
  have hl10 : l.length ≤ 10 := by have := hv.nl; simpa using this
  refine (c56 (hs.ext x1) (hf.ext x1) (by omega) hfl hru hgr).mono fun e w2 ⟨m, ok, he, hok, hno, x2⟩ => ⟨m, ok, he, cond_intro (fun g2 => ?_) (fun g2 => ?_)⟩
  · have g2 : ok = false := by simpa using g2
    exact ⟨⟨none, 0, 0⟩, 8, [], rfl, hnil _, by simp, .inr (.inl ⟨hv, hno g2, rfl, rfl⟩), x1.trans x2⟩
  have g2 : ok = true := by simpa using g2
  obtain ⟨t, b2, ht, rfl, m2⟩ := hok g2
  have hin := Lay_in (s := t) (giv_in hv.gr) (fun r hr => (hv.ru r hr).2.2 r.head (by simp [Ru.atoms])) 6
  refine (c57 m2 (few_of hin)).mono fun e w3 ⟨s3, L, he, hL, hIs, hLl, x3⟩ => ⟨s3, he, s3, 0, L, rfl, hL, hLl, .inr (.inr ⟨hv, t, ht, rfl, hIs⟩), (x1.trans x2).trans x3⟩
end Go.Proofs.Ytoljknamnkkgcaa
