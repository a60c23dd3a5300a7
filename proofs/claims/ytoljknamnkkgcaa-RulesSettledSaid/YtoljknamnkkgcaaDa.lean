/-
  The plain law of rules: what values of an instance are; facts keep their shape.
-/
import Derived.Test.YtoljknamnkkgcaaCn
namespace Go.Proofs.Ytoljknamnkkgcaa
open Go Go.VC
set_option maxHeartbeats 400000

theorem getD_set {v : List Int} {i j : Nat} {n : Int} : (v.set i n).getD j 0 = if i = j ∧ j < v.length then n else v.getD j 0 := by
  simp only [List.getD, List.getElem?_set]
  by_cases e : i = j
  · subst e
    by_cases h : i < v.length
    · simp [h]
    · simp [h, List.getElem?_eq_none (show v.length ≤ i by omega)]
  · simp [e]
theorem getD_lt {v : List Int} {j : Nat} (h : v.getD j 0 ≠ 0) : j < v.length := by
  rcases Nat.lt_or_ge j v.length with h1 | h1
  · exact h1
  · exact absurd (by simp [List.getD, List.getElem?_eq_none h1]) h
theorem fitA_keep : ∀ {v l ns v' : List Int}, fitA v l ns = some v' → ∀ y, v.getD y 0 ≠ 0 → v'.getD y 0 = v.getD y 0
  | _, [], _, _, h, y, _ => by simp [fitA] at h; rw [h]
  | _, _ :: _, [], _, h, _, _ => by simp [fitA] at h
  | v, x :: r, n :: ns, v', h, y, hy => by
    rw [fitA] at h
    split at h
    · cases h
    · rename_i hc
      have h1 := fitA_keep h y
      have e : (if 0 ≤ x then v.set x.toNat n else v).getD y 0 = v.getD y 0 := by
        split
        · rw [getD_set]
          split
          · rename_i h0 he
            obtain ⟨e1, e2⟩ := he
            subst e1
            refine Classical.byContradiction fun hne => hc (.inr ⟨h0, hy, fun e => hne e.symm⟩)
          · rfl
        · rfl
      rw [e] at h1
      exact h1 hy
theorem fitA_val : ∀ {v l ns v' : List Int}, v.length = 8 → (∀ x ∈ l, x ≤ 7) → fitA v l ns = some v' → ∀ (i : Nat) (x n : Int), l[i]? = some x → ns[i]? = some n → n ≠ 0 → gV v' x = n
  | _, [], _, _, _, _, _, i, _, _, h, _, _ => by simp at h
  | _, _ :: _, [], _, _, _, h, _, _, _, _, _, _ => by simp [fitA] at h
  | v, y :: r, m :: ns, v', hv, hl, h, i, x, n, hi, hn, h0 => by
    rw [fitA] at h
    split at h
    · cases h
    · rename_i hc
      cases i with
      | zero =>
        simp only [List.getElem?_cons_zero, Option.some.injEq] at hi hn
        subst hi hn
        unfold gV
        by_cases hy : y < 0
        · rw [if_pos hy]
          exact Classical.byContradiction fun hne => hc (.inl ⟨hy, hne⟩)
        · rw [if_neg hy]
          have hy0 : 0 ≤ y := by omega
          rw [if_pos hy0] at h
          have hy7 := hl y (by simp)
          have e : (v.set y.toNat m).getD y.toNat 0 = m := by rw [getD_set, if_pos ⟨rfl, by omega⟩]
          have := fitA_keep h y.toNat (by rw [e]; exact h0)
          rw [this, e]
      | succ i =>
        refine fitA_val (v := if 0 ≤ y then v.set y.toNat m else v) ?_ (fun z hz => hl z (by simp [hz])) h i x n (by simpa using hi) (by simpa using hn) h0
        split <;> simp [hv]
/-- A key of the right shape: as many Args as the others of its Rel. -/
structure TyK (C : List Fa) (k : Ky) : Prop where
  r0 : 0 ≤ k.rel
  r1 : k.rel ≤ 5
  a1 : 1 ≤ k.a ∧ k.a ≤ 6
  b1 : k.b = 0 ∨ (1 ≤ k.b ∧ k.b ≤ 6)
  co : ∀ g ∈ C, g.rel = k.rel → (g.args.length = 1 ∧ k.b = 0) ∨ (g.args.length = 2 ∧ k.b ≠ 0)
theorem TyK.ground {C : List Fa} {k : Ky} (h : TyK C k) : GroundF k.f := by
  refine ⟨h.r0, h.r1, ?_, ?_, ?_⟩
  · simp only [Ky.f]; split <;> simp
  · simp only [Ky.f]; split <;> simp
  · intro x hx
    simp only [Ky.f] at hx
    have ha := h.a1
    split at hx
    · simp only [List.mem_singleton] at hx; subst hx; exact ha
    · simp only [List.mem_cons, List.not_mem_nil, or_false] at hx
      rcases hx with rfl | rfl
      · exact ha
      · rcases h.b1 with h' | h'
        · omega
        · exact h'
theorem TyK.len {C : List Fa} {k : Ky} (h : TyK C k) : ∀ g ∈ C, g.rel = k.rel → g.args.length = k.f.args.length := fun g hg e => by
  rcases h.co g hg e with ⟨h1, h2⟩ | ⟨h1, h2⟩
  · simp [Ky.f, h2, h1]
  · simp [Ky.f, h2, h1]
theorem Ky.fk (k : Ky) : k.f.k = k := by
  cases k with | mk r a b => simp only [Ky.f, Fa.k]; by_cases h : b = 0 <;> simp [h]
theorem GroundF.kf {f : Fa} (h : GroundF f) : f.k.f = f := by
  obtain ⟨h1, h2, h3, h4, h5⟩ := h
  obtain ⟨r, l⟩ := f
  match l, h3, h4, h5 with
  | [a], _, _, _ => simp [Ky.f, Fa.k]
  | [a, b], _, _, h5 =>
    have hb := (h5 b (by simp)).1
    have : b ≠ 0 := by omega
    simp [Ky.f, Fa.k, this]
theorem ty_of {C : List Fa} {f : Fa} (hg : GroundF f) (hc : ∀ g ∈ C, g.rel = f.rel → g.args.length = f.args.length) : TyK C f.k := by
  obtain ⟨h1, h2, h3, h4, h5⟩ := hg
  obtain ⟨r, l⟩ := f
  match l, h3, h4, h5, hc with
  | [a], _, _, h5, hc => exact ⟨h1, h2, h5 a (by simp), .inl rfl, fun g hg e => .inl ⟨by simpa using hc g hg e, rfl⟩⟩
  | [a, b], _, _, h5, hc =>
    have hb := h5 b (by simp)
    exact ⟨h1, h2, h5 a (by simp), .inr hb, fun g hg e => .inr ⟨by simpa using hc g hg e, by show b ≠ 0; omega⟩⟩
/-- An atom under values that fit it to a fact of its shape is that fact. -/
theorem fitK_gnd {C : List Fa} {a : Fa} {g : Ky} {v v' u : List Int} (hv : v.length = 8) (ha : FitsF a) (haC : a ∈ C) (hg : TyK C g) (hf : fitK v a g v') (hu : ∀ y, v'.getD y 0 ≠ 0 → u.getD y 0 = v'.getD y 0) :
    gnd a u = g ∧ ∀ x ∈ a.args, 1 ≤ gV u x ∧ gV u x ≤ 6 := by
  obtain ⟨h1, h2⟩ := hf
  have hl7 : ∀ x ∈ a.args, x ≤ 7 := fun x hx => (ha.2.2.2.2 x hx).2
  have hval := fitA_val hv hl7 h2
  have hu' : ∀ x n : Int, gV v' x = n → n ≠ 0 → gV u x = n := fun x n e h0 => by
    unfold gV at e ⊢
    split at e
    · rw [if_pos (by assumption)]; exact e
    · rw [if_neg (by assumption), hu x.toNat (by rw [e]; exact h0)]; exact e
  have ga := hg.a1
  have hco := hg.co a haC h1
  obtain ⟨r, l⟩ := a
  simp only at h1
  match l, hco, hval with
  | [], hco, _ => simp at hco
  | [x], hco, hval =>
    have e0 := hu' x g.a (hval 0 x g.a rfl rfl (by omega)) (by omega)
    have hb : g.b = 0 := by rcases hco with ⟨_, h⟩ | ⟨h, _⟩; exact h; simp at h
    refine ⟨?_, ?_⟩
    · cases g; simp only at h1 e0 hb; simp [gnd, gA, e0, h1, hb]
    · intro y hy; simp only [List.mem_singleton] at hy; subst hy; rw [e0]; exact ga
  | [x, z], hco, hval =>
    have hb : g.b ≠ 0 := by rcases hco with ⟨h, _⟩ | ⟨_, h⟩; simp at h; exact h
    have gb : 1 ≤ g.b ∧ g.b ≤ 6 := by rcases hg.b1 with h | h; exact absurd h hb; exact h
    have e0 := hu' x g.a (hval 0 x g.a rfl rfl (by omega)) (by omega)
    have e1 := hu' z g.b (hval 1 z g.b rfl rfl hb) hb
    refine ⟨?_, ?_⟩
    · cases g; simp only at h1 e0 e1; simp [gnd, gA, e0, e1, h1]
    · intro y hy
      simp only [List.mem_cons, List.not_mem_nil, or_false] at hy
      rcases hy with rfl | rfl
      · rw [e0]; exact ga
      · rw [e1]; exact gb
  | _ :: _ :: _ :: _, hco, _ => simp at hco
theorem En_sem {C : List Fa} {In : Ky → Prop} (hIn : ∀ k, In k → TyK C k) : ∀ {l : List Li} {v u : List Int}, (∀ b ∈ l, FitsF b.a ∧ b.a ∈ C) → v.length = 8 → En In l v u →
    (∀ y, v.getD y 0 ≠ 0 → u.getD y 0 = v.getD y 0) ∧ ∀ b ∈ l, b.neg = false → In (gnd b.a u) ∧ ∀ x ∈ b.a.args, 1 ≤ gV u x ∧ gV u x ≤ 6
  | [], v, u, _, _, h => ⟨fun y _ => by rw [h], by simp⟩
  | c :: r, v, u, hb, hv, h => by
    have hr : ∀ b ∈ r, FitsF b.a ∧ b.a ∈ C := fun b h' => hb b (by simp [h'])
    rw [En] at h
    split at h
    · rename_i hneg
      obtain ⟨h1, h2⟩ := En_sem hIn hr hv h
      refine ⟨h1, fun b hbm hn => ?_⟩
      rcases List.mem_cons.1 hbm with rfl | hbm
      · rw [hneg] at hn; cases hn
      · exact h2 b hbm hn
    · obtain ⟨g, v', g1, g2, g3⟩ := h
      obtain ⟨h1, h2⟩ := En_sem hIn hr (by rw [fitA_len g2.2, hv]) g3
      have hc := hb c (by simp)
      obtain ⟨e1, e2⟩ := fitK_gnd hv hc.1 hc.2 (hIn g g1) g2 h1
      refine ⟨fun y hy => ?_, fun b hbm hn => ?_⟩
      · have := fitA_keep g2.2 y hy
        rw [h1 y (by rw [this]; exact hy), this]
      · rcases List.mem_cons.1 hbm with rfl | hbm
        · rw [e1]; exact ⟨g1, e2⟩
        · exact h2 b hbm hn
/-- The Head of an instance has the right shape. -/
theorem head_ty {C : List Fa} {In : Ky → Prop} (hIn : ∀ k, In k → TyK C k) (hC : Consist C) {r : Ru} (hr : RuleP r) (hrC : ∀ a ∈ r.atoms, a ∈ C) {u : List Int} (h : En In r.body z8 u) : TyK C (gnd r.head u) := by
  have hbd : ∀ b ∈ r.body, FitsF b.a ∧ b.a ∈ C := fun b hb => by
    have : b.a ∈ r.atoms := by simp [Ru.atoms]; exact .inr ⟨b, hb, rfl⟩
    exact ⟨hr.2.2 _ this, hrC _ this⟩
  obtain ⟨_, h2⟩ := En_sem hIn hbd rfl h
  have hh : r.head ∈ r.atoms := by simp [Ru.atoms]
  have hf := hr.2.2 _ hh
  have hval : ∀ x ∈ r.head.args, 1 ≤ gV u x ∧ gV u x ≤ 6 := fun x hx => by
    have hx6 := hf.2.2.2.2 x hx
    by_cases h0 : 0 ≤ x
    · obtain ⟨b, hb, hn, hxb⟩ := hr.2.1 _ hh x hx h0
      exact (h2 b hb hn).2 x hxb
    · unfold gV; rw [if_pos (by omega)]; omega
  have hcc := fun g hg e => hC g hg _ (hrC _ hh) e
  obtain ⟨f1, f2, f3, f4, _⟩ := hf
  revert hval hcc
  generalize r.head = hd at f1 f2 f3 f4
  obtain ⟨q, l⟩ := hd
  intro hval hcc
  match l, f3, f4, hval, hcc with
  | [x], _, _, hval, hcc => exact ⟨f1, f2, by simpa [gnd, gA] using hval x (by simp), .inl rfl, fun g hg e => .inl ⟨by simpa using hcc g hg e, rfl⟩⟩
  | [x, z], _, _, hval, hcc =>
    have hz := hval z (by simp)
    exact ⟨f1, f2, by simpa [gnd, gA] using hval x (by simp), .inr (by simpa [gnd, gA] using hz), fun g hg e => .inr ⟨by simpa using hcc g hg e, by show gA u [x, z] 1 ≠ 0; simp [gA]; omega⟩⟩
theorem Cl_ty {C : List Fa} {l : List Ru} {G N : Ky → Prop} (hC : Consist C) (hG : ∀ k, G k → TyK C k) (hl : ∀ r ∈ l, RuleP r ∧ ∀ a ∈ r.atoms, a ∈ C) : ∀ k, Cl l G N k → TyK C k := fun k h =>
  h (TyK C) hG fun r hr u h1 _ => head_ty (fun _ h => h) hC (hl r hr).1 (hl r hr).2 h1
theorem Lay_ty {C : List Fa} {l : List Ru} {s : List Int} {G : Ky → Prop} (hC : Consist C) (hG : ∀ k, G k → TyK C k) (hl : ∀ r ∈ l, RuleP r ∧ ∀ a ∈ r.atoms, a ∈ C) : ∀ n k, Lay l s G n k → TyK C k
  | 0 => hG
  | n + 1 => Cl_ty hC (Lay_ty hC hG hl n) fun r hr => hl r (List.mem_filter.1 hr).1
/-- All atoms that are there. -/
def allA (l : List Ru) (fs : List Fa) : List Fa := fs ++ l.flatMap Ru.atoms
theorem ValidP.ty {l : List Ru} {fs : List Fa} (h : ValidP l fs) : (∀ k, giv fs k → TyK (allA l fs) k) ∧ ∀ r ∈ l, RuleP r ∧ ∀ a ∈ r.atoms, a ∈ allA l fs := by
  refine ⟨?_, fun r hr => ⟨h.ru r hr, fun a ha => List.mem_append_right _ (List.mem_flatMap.2 ⟨r, hr, ha⟩)⟩⟩
  rintro k ⟨f, hf, rfl⟩
  exact ty_of (h.gr f hf) fun g hg e => h.co g hg f (List.mem_append_left _ hf) e
/-! ### rules without Not -/
def PlainP (l : List Ru) : Prop := ∀ r ∈ l, ∀ b ∈ r.body, b.neg = false
theorem plain_str {l : List Ru} (h : PlainP l) : IsStr l zero6 := by
  have hz : ∀ r, lv zero6 r = 0 := fun r => by
    unfold lv zero6
    rcases hn : r.toNat with _ | _ | _ | _ | _ | _ | n <;> simp
  refine ⟨rfl, by simp [zero6], fun r hr b hb => ?_, fun f hf x _ _ => by rw [hz]; exact hf.1 x⟩
  rw [hz, hz]
  simp [nI, h r hr b hb]
theorem lv_zero6 (r : Int) : lv zero6 r = 0 := by
  unfold lv zero6
  rcases hn : r.toNat with _ | _ | _ | _ | _ | _ | n <;> simp
theorem plain_neg {l : List Ru} (h : PlainP l) {r : Ru} (hr : r ∈ l) (N : Ky → Prop) (u : List Int) : NegOk N r.body u := fun b hb hn => by rw [h r hr b hb] at hn; cases hn
theorem Closed.plain {l : List Ru} (h : PlainP l) {N N' S : Ky → Prop} (hc : Closed l N S) : Closed l N' S := fun r hr u h1 _ => hc r hr u h1 (plain_neg h hr N u)
theorem Cl.plain {l : List Ru} (h : PlainP l) {G N N' : Ky → Prop} {k : Ky} : Cl l G N k → Cl l G N' k := fun hk S h1 h2 => hk S h1 (h2.plain h)
/-- The model of rules without Not: the closure. -/
theorem Mdl_plain {l : List Ru} (h : PlainP l) (N G : Ky → Prop) (k : Ky) : Mdl l zero6 G k ↔ Cl l G N k := by
  have h1 := Lay_top (l := l) (s := zero6) (G := G) (m := 1) (fun r _ => by rw [lv_zero6]; omega) 5 k
  have h2 : Lay l zero6 G 1 k ↔ Cl l G G k := by
    show Cl (l.filter fun r => decide (lv zero6 r.head.rel = ((0 : Nat) : Int))) G G k ↔ _
    have : (l.filter fun r => decide (lv zero6 r.head.rel = ((0 : Nat) : Int))) = l := List.filter_eq_self.2 fun r _ => by simp [lv_zero6]
    rw [this]
  exact h1.trans (h2.trans ⟨Cl.plain h, Cl.plain h⟩)
end Go.Proofs.Ytoljknamnkkgcaa
