/-
  Contract: the consequences of rules with given facts: the least set that is closed under the rules.
-/
import Derived.Test.YtoljknamnkkgcaaCg
namespace Go.Proofs.Ytoljknamnkkgcaa
open Go Go.VC
set_option maxHeartbeats 1000000
set_option maxRecDepth 100000

theorem En_mono {A B : Ky → Prop} (h : ∀ k, A k → B k) : ∀ {l : List Li} {v u : List Int}, En A l v u → En B l v u
  | [], _, _, h' => h'
  | b :: r, v, u, h' => by
    rw [En] at h' ⊢
    split at h'
    · rw [if_pos (by assumption)]; exact En_mono h h'
    · rw [if_neg (by assumption)]
      obtain ⟨g, v', h1, h2, h3⟩ := h'
      exact ⟨g, v', h g h1, h2, En_mono h h3⟩
/-- Closed under rules, where literals with Not are decided by N. -/
def Closed (l : List Ru) (N S : Ky → Prop) : Prop := ∀ r ∈ l, ∀ u, En S r.body z8 u → NegOk N r.body u → S (gnd r.head u)
/-- The least closed set with given facts. -/
def Cl (l : List Ru) (G N : Ky → Prop) (k : Ky) : Prop := ∀ S : Ky → Prop, (∀ k, G k → S k) → Closed l N S → S k
theorem Cl.base {l : List Ru} {G N : Ky → Prop} {k : Ky} (h : G k) : Cl l G N k := fun _ h1 _ => h1 k h
theorem Cl.closed (l : List Ru) (G N : Ky → Prop) : Closed l N (Cl l G N) := fun r hr u h1 h2 S hG hS => hS r hr u (En_mono (fun k hk => hk S hG hS) h1) h2
theorem Cl.eq {l : List Ru} {G N S : Ky → Prop} (hG : ∀ k, G k → S k) (hS : Closed l N S) (hm : ∀ k, S k → Cl l G N k) (k : Ky) : Cl l G N k ↔ S k := ⟨fun h => h S hG hS, hm k⟩

/-! ### the closure that gathers -/
def ownF (F0 : Nat) (w : World) (b : Nat) : Prop := b = F0 ∨ ∃ s : Sl, Blk w F0 [.slice s.a s.n s.c] 150 ∧ BlS s b
structure GI (F0 : Nat) (S : Ky → Prop) (hd : Fa) (L0 : List Ky) (vs : List (List Int)) (w : World) : Prop where
  ex : ∃ (s : Sl) (L : List Ky), Blk w F0 [.slice s.a s.n s.c] 150 ∧ Own 121 3 eK (F0 + 1) w s L ∧ L.length ≤ L0.length + vs.length ∧ ∀ k, k ∈ L ↔ k ∈ L0 ∨ ((∃ v ∈ vs, gnd hd v = k) ∧ ¬ S k)
theorem sl_inj {s s' : Sl} (h : (Value.slice s.a s.n s.c) = .slice s'.a s'.n s'.c) : s = s' := by
  injection h with h1 h2 h3; cases s; cases s'; simp_all
theorem blk_inj {w : World} {q : Nat} {s s' : Sl} {T T' : TypeId} (h : Blk w q [.slice s.a s.n s.c] T) (h' : Blk w q [.slice s'.a s'.n s'.c] T') : s = s' := by
  have h1 := h.cell 0
  have h2 := h'.cell 0
  rw [h1] at h2
  exact sl_inj (Option.some.inj h2)
theorem GI.cb (F0 : Nat) (S : Ky → Prop) (hd : Fa) (L0 : List Ky) : Cb (ownF F0) (GI F0 S hd L0) where
  ext := fun {vs w w'} h x => by
    obtain ⟨s, L, h1, h2, h3, h4⟩ := h.ex
    refine ⟨⟨s, L, h1.ext x, h2.ext x, h3, h4⟩, fun b hb => ?_⟩
    rcases hb with hb | ⟨s', hs', hb⟩
    · exact .inl hb
    · rw [blk_inj hs' (h1.ext x)] at hb
      exact .inr ⟨s, h1, hb⟩
  lt := fun {vs w b} h hb => by
    obtain ⟨s, L, h1, h2, h3, h4⟩ := h.ex
    rcases hb with rfl | ⟨s', hs', ⟨a, ha, e⟩⟩
    · exact h1.lt
    · rw [blk_inj hs' h1] at ha
      have := (h2.base ha).2; omega
/-- What is of another type is not owned. -/
theorem GI.no {F0 : Nat} {S : Ky → Prop} {hd : Fa} {L0 : List Ky} {vs : List (List Int)} {w : World} (h : GI F0 S hd L0 vs w) {q : Nat} {l : List Value} {T : TypeId} (hb : Blk w q l T) (h1 : T ≠ 150) (h2 : T ≠ 121) : ¬ ownF F0 w q := by
  obtain ⟨s, L, g1, g2, g3, g4⟩ := h.ex
  rintro (rfl | ⟨s', hs', ⟨a, ha, e⟩⟩)
  · exact Blk.ne_ty hb g1 h1 rfl
  · rw [blk_inj hs' g1] at ha
    obtain ⟨cur, hc⟩ := g2.blk ha
    rw [e] at hc
    exact Blk.ne_ty hb hc h2 rfl
theorem GI.noM {F0 : Nat} {S : Ky → Prop} {hd : Fa} {L0 : List Ky} {vs : List (List Int)} {w : World} (h : GI F0 S hd L0 vs w) {q : Nat} {Q : Ky → Prop} (hm : FM w q Q) : ¬ ownF F0 w q := by
  obtain ⟨s, L, g1, g2, g3, g4⟩ := h.ex
  rintro (rfl | ⟨s', hs', ⟨a, ha, e⟩⟩)
  · exact hm.ne_blk g1 rfl
  · rw [blk_inj hs' g1] at ha
    obtain ⟨cur, hc⟩ := g2.blk ha
    rw [e] at hc
    exact hm.ne_blk hc rfl
/-- What is older than the variable is not owned. -/
theorem GI.old {F0 : Nat} {S : Ky → Prop} {hd : Fa} {L0 : List Ky} {vs : List (List Int)} {w : World} (h : GI F0 S hd L0 vs w) {q : Nat} (hq : q < F0) : ¬ ownF F0 w q := by
  obtain ⟨s, L, g1, g2, g3, g4⟩ := h.ex
  rintro (rfl | ⟨s', hs', ⟨a, ha, e⟩⟩)
  · omega
  · rw [blk_inj hs' g1] at ha
    have := (g2.base ha).1; omega
theorem callable114 : callable Try.prog 114 = true := by kernel_rfl
theorem c114 {F0 Ob Rb O : Nat} {S : Ky → Prop} {r : DR} {L0 : List Ky} {vs : List (List Int)} {w : World} {v : List Int} (hI : GI F0 S r.head.p L0 vs w) (hR : Blk w Rb (eR r) 52) (hO : Blk w Ob [.map (some O)] 105) (hm : FM w O S) (hd : Ints w r.head.sl r.head.args) (ha : AtOk r.head.p) (hv : v.length = 8) (hb : L0.length + vs.length ≤ 1000000000000) :
    Calls Try.prog 114 [.agg (vI v).toArray, .pointer (some ⟨Rb, 0, none⟩), .pointer (some ⟨Ob, 0, none⟩), .pointer (some ⟨F0, 0, none⟩)].toArray w fun e w' => e = .returned (.tuple [].toArray) ∧ GI F0 S r.head.p L0 (vs ++ [v]) w' ∧ Rl (ownF F0) w w' := by
  refine (call114 (vI v) ⟨Rb, 0⟩ ⟨Ob, 0⟩ ⟨F0, 0⟩ (R := fun u w' => u = .tuple [].toArray ∧ GI F0 S r.head.p L0 (vs ++ [v]) w' ∧ Rl (ownF F0) w w') ?_).mono fun e w' ⟨u, he, hu, hx⟩ => ⟨by rw [he, hu], hx⟩
  have C := GI.cb F0 S r.head.p L0
  refine Let.intro fun w1 e1 => ?_
  have b1 : Blk w1 w.heap.size (vI v) 178 := by rw [e1]; exact Blk.alloc w _ 178
  have x1 : Ext w w1 := by rw [e1]; exact Ext.alloc ..
  refine ⟨vI v, by rw [vI_len, hv], b1.rd, r.head.rel, r.head.sl, ?_, (c115 (x := r.head) hv (hd.ext x1) ha).mono fun e w2 ⟨he, x2⟩ => ⟨_, _, _, he, ?_⟩⟩
  · exact (hR.ext x1).rd_drop (o := 0) fun j x hx => by
      rcases j with _ | _ | j
      · simpa [eR] using hx
      · simpa [eR] using hx
      · simp at hx
  generalize hk : gnd r.head.p v = k
  obtain ⟨n1, n2, n3⟩ := new_eK w2 k
  refine Let.intro fun w3 e3 => ?_
  rw [← e3] at n1 n2 n3
  refine ⟨n1, Let.intro fun w4 e4 => ?_⟩
  have e4 : w4 = put w3 w2.heap.size 0 (eK k) := e4
  rw [← e4] at n2 n3
  have x4 := (x1.trans x2).trans n3
  obtain ⟨hI4, R4⟩ := C.rl hI x4
  obtain ⟨b, hr, hbs⟩ := (hm.ext x4).look K121 u105 zero4 k
  refine ⟨some O, (hO.ext x4).cell 0, _, _, _, n2.rd, b, hr, Join.dir ?_⟩
  obtain ⟨s, L, g1, g2, g3, g4⟩ := hI4.ex
  refine cond_intro (fun g => ?_) (fun g => ?_)
  · have g : b = false := by simpa using g
    have hns : ¬ S k := fun h => by rw [hbs.2 h] at g; cases g
    refine ⟨s, g1.cell 0, _, _, _, n2.rd, ?_⟩
    have hbd := buildOne_run E150 (v := .agg [.int .i64 k.rel, .int .i64 k.a, .int .i64 k.b].toArray) (vs := eK k) rfl rfl (by omega) w4
    have x5 := Ext.alloc w4 (.cells (eK k).toArray 121)
    have hs5 : Sli 3 eK (w4.alloc (.cells (eK k).toArray 121)) ⟨some ⟨w4.heap.size, 0, none⟩, 1, 1⟩ [k] := ⟨rfl, Nat.le_refl _, fun _ => ⟨⟨w4.heap.size, 0⟩, rfl, by simpa using (Blk.alloc w4 (eK k) 121).rd⟩⟩
    have l4 := g1.lt
    obtain ⟨s7, w7, hr7, ho7, f7⟩ := appendSli E150 (g2.ext x5) hs5 eK_len eK_one (by simp; omega) (by simp [maxLen]; omega) (by have := x5.size; omega) 150
    have hwh := append_where E150 (g2.ext x5) hs5 eK_len eK_one (by simp; omega) (by simp [maxLen]; omega) 150 hr7
    refine ⟨⟨some ⟨w4.heap.size, 0, none⟩, 1, 1⟩, _, hbd, s7, w7, hr7, ?_⟩
    have hF : ¬ BlS s F0 := fun ⟨a, ha, e⟩ => by have := (g2.base ha).1; omega
    have b7 : Blk w7 F0 [.slice s.a s.n s.c] 150 := (g1.ext x5).fr f7 hF
    obtain ⟨p1, p2, p3⟩ := blk_all b7 (vs := [.slice s7.a s7.n s7.c]) rfl (by simp [Value.oneCell'])
    refine ⟨p1, Let.intro fun w8 e8 => ?_⟩
    rw [← e8] at p2 p3
    have hF7 : ∀ a, s7.a = some a → a.block ≠ F0 := fun a ha e => by have := (ho7.base ha).1; omega
    refine ⟨rfl, ⟨s7, L ++ [k], p2, ho7.fr p3 fun a ha (e : a.block = F0) => hF7 a ha e, by simp; omega, fun k' => ?_⟩, R4.trans ⟨?_, ?_⟩⟩
    · rw [List.mem_append, List.mem_singleton, g4]
      constructor
      · rintro ((h | ⟨⟨v', hv', e⟩, h⟩) | h)
        · exact .inl h
        · exact .inr ⟨⟨v', List.mem_append_left _ hv', e⟩, h⟩
        · subst h; exact .inr ⟨⟨v, by simp, hk⟩, hns⟩
      · rintro (h | ⟨⟨v', hv', e⟩, h⟩)
        · exact .inl (.inl h)
        · rcases List.mem_append.1 hv' with hv' | hv'
          · exact .inl (.inr ⟨⟨v', hv', e⟩, h⟩)
          · simp only [List.mem_singleton] at hv'
            subst hv'; exact .inr (by rw [← e, hk])
    · exact ((Ext.fr x5 (f7.mono fun b _ hb => .inr ⟨s, g1, hb⟩)).trans p3 fun y _ (e : y = F0) => .inl e)
    · rintro b hb (rfl | ⟨s', hs', ⟨a, ha, e⟩⟩)
      · exact .inl rfl
      · rw [blk_inj hs' p2] at ha
        rcases hwh with h | h
        · exact .inr ⟨s, g1, ⟨a, h ▸ ha, e⟩⟩
        · have := h a ha
          have := x5.size
          omega
  · have g : b = true := by simpa using g
    have hs := hbs.1 g
    refine ⟨rfl, ⟨s, L, g1, g2, by simp; omega, fun k' => ?_⟩, R4⟩
    rw [g4]
    constructor
    · rintro (h | ⟨⟨v', hv', e⟩, h⟩)
      · exact .inl h
      · exact .inr ⟨⟨v', List.mem_append_left _ hv', e⟩, h⟩
    · rintro (h | ⟨⟨v', hv', e⟩, h⟩)
      · exact .inl h
      · rcases List.mem_append.1 hv' with hv' | hv'
        · exact .inr ⟨⟨v', hv', e⟩, h⟩
        · simp only [List.mem_singleton] at hv'
          subst hv'
          rw [hk] at e; subst e
          exact absurd hs h
end Go.Proofs.Ytoljknamnkkgcaa
