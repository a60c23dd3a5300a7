/-
  Contract: Founded, by the alternating fixpoint.
-/
import Derived.Test.YtoljknamnkkgcaaCn
import Derived.Test.YtoljknamnkkgcaaSh
namespace Go.Proofs.Ytoljknamnkkgcaa
open Go Go.VC
set_option maxHeartbeats 1000000
set_option maxRecDepth 100000

theorem NegOk.anti {N N' : Ky → Prop} (h : ∀ k, N' k → N k) {body : List Li} {u : List Int} (x : NegOk N body u) : NegOk N' body u := fun b hb hn h' => x b hb hn (h _ h')
theorem Cl.anti {l : List Ru} {G N N' : Ky → Prop} (h : ∀ k, N' k → N k) {k : Ky} (hk : Cl l G N k) : Cl l G N' k := fun S hG hS => hk S hG fun r hr u h1 h2 => hS r hr u h1 (h2.anti h)
/-- The true facts of the well-founded model: the least set that two steps leave as it is. -/
structure IsWF (l : List Ru) (G T : Ky → Prop) : Prop where
  fix : ∀ k, T k ↔ Cl l G (Cl l G T) k
  least : ∀ X : Ky → Prop, (∀ k, Cl l G (Cl l G X) k → X k) → ∀ k, T k → X k
theorem IsWF.uniq {l : List Ru} {G T T' : Ky → Prop} (h : IsWF l G T) (h' : IsWF l G T') (k : Ky) : T k ↔ T' k :=
  ⟨h.least T' (fun k hk => (h'.fix k).2 hk) k, h'.least T (fun k hk => (h.fix k).2 hk) k⟩
theorem IsWF.sub {l : List Ru} {G T : Ky → Prop} (h : IsWF l G T) : ∀ k, T k → Cl l G T k := fun k hk => by
  -- the least set is below its own step: by what both steps of Cl T are
  refine h.least (Cl l G T) (fun k hk => ?_) k hk
  exact Cl.anti (fun k hk => (h.fix k).1 hk) hk
theorem Few.sub {S S' : Ky → Prop} (h : Few S) (hs : ∀ k, S' k → S k) : Few S' := by obtain ⟨U, h1, h2⟩ := h; exact ⟨U, h1, fun k hk => h2 k (hs k hk)⟩
theorem SetM.del {κ : Type} [DecidableEq κ] {ke : κ → Value} {P : Program} {t kt vt kt' : TypeId} (K : KeyOk P kt ke) (ht : P.underlying t = some (.map kt vt)) {w : World} {b : Nat} {S : κ → Prop} (m : SetM ke w b S) (k : κ) (ty : Nat) :
    ∃ w', (Builtin.delete_ #[t, kt'] ty #[.map (some b), ke k]).run P w = .ok (.tuple #[]) w' ∧ SetM ke w' b (fun a => S a ∧ a ≠ k) ∧ Fr (fun z => z = b) w w' := by
  obtain ⟨l, c, h1, h2⟩ := m.ex
  obtain ⟨w', hrun, hmp, hf⟩ := del_run K ht h1 k ty
  refine ⟨w', hrun, ⟨_, c, hmp, fun a => ?_⟩, hf⟩
  rw [mget_mdel]
  by_cases e : a = k
  · rw [if_pos e]; exact .inr ⟨rfl, fun h => h.2 e⟩
  · rw [if_neg e]
    rcases h2 a with ⟨p, q⟩ | ⟨p, q⟩
    · exact .inl ⟨p, q, e⟩
    · exact .inr ⟨p, fun h => q h.1⟩
theorem c25 {w : World} {s s' : Sl} {l : List DR} {fs : List DF} (hs : NR w s l) (hf : NF w s' fs) (hl : l.length ≤ 1000000) (hfl : fs.length ≤ 1000000) (hz : ∀ r ∈ l, SzR r) (hzf : ∀ f ∈ fs, f.args.length ≤ 1000) :
    Calls Try.prog 25 [.slice s.a s.n s.c, .slice s'.a s'.n s'.c].toArray w fun e w' => ∃ (s1 s2 : Sl) (x : Int) (A B : List DF), e = .returned (.tuple [.slice s1.a s1.n s1.c, .slice s2.a s2.n s2.c, .int .i64 x].toArray) ∧ NF w' s1 A ∧ NF w' s2 B ∧ A.length ≤ 1000 ∧ B.length ≤ 1000 ∧
      ((¬ ValidP (l.map DR.p) (fs.map DF.p) ∧ x = 2 ∧ A = [] ∧ B = []) ∨
        (ValidP (l.map DR.p) (fs.map DF.p) ∧ x = 0 ∧ ∃ T, IsWF (l.map DR.p) (giv (fs.map DF.p)) T ∧ IsL T (A.map DF.p) ∧ IsL (fun k => Cl (l.map DR.p) (giv (fs.map DF.p)) T k ∧ ¬ T k) (B.map DF.p))) ∧ Ext w w' := by
  refine (call25 s s' (R := fun v w' => ∃ (s1 s2 : Sl) (x : Int) (A B : List DF), v = (.tuple [.slice s1.a s1.n s1.c, .slice s2.a s2.n s2.c, .int .i64 x].toArray) ∧ NF w' s1 A ∧ NF w' s2 B ∧ A.length ≤ 1000 ∧ B.length ≤ 1000 ∧
      ((¬ ValidP (l.map DR.p) (fs.map DF.p) ∧ x = 2 ∧ A = [] ∧ B = []) ∨
        (ValidP (l.map DR.p) (fs.map DF.p) ∧ x = 0 ∧ ∃ T, IsWF (l.map DR.p) (giv (fs.map DF.p)) T ∧ IsL T (A.map DF.p) ∧ IsL (fun k => Cl (l.map DR.p) (giv (fs.map DF.p)) T k ∧ ¬ T k) (B.map DF.p))) ∧ Ext w w') ?_).mono fun e w' ⟨v, he, s1, s2, x, A, B, hv, hx⟩ => ⟨s1, s2, x, A, B, by rw [he, hv], hx⟩
  have hnil : ∀ w, NF w ⟨none, 0, 0⟩ [] := fun w => ⟨Sli.nil _ _, by simp⟩
  refine (c55 hs hf hl hfl hz hzf).mono fun e w1 ⟨b, he, hb, x1⟩ => ⟨b, he, cond_intro (fun g => ?_) (fun g => ?_)⟩
  · have g : b = false := by simpa using g
    exact ⟨⟨none, 0, 0⟩, ⟨none, 0, 0⟩, 2, [], [], rfl, hnil _, hnil _, by simp, by simp, .inl ⟨(fun h => by rw [hb.2 h] at g; cases g), rfl, rfl, rfl⟩, x1⟩
  have g : b = true := by simpa using g
  have hv := hb.1 g
  have hru : ∀ r ∈ l, RuleP r.p := fun r hr => hv.ru _ (List.mem_map.2 ⟨r, hr, rfl⟩)
  have hgr : ∀ f ∈ fs, GroundF f.p := fun f hf => hv.gr _ (List.mem_map.2 ⟨f, hf, rfl⟩)
  have hl10 : l.length ≤ 10 := by have := hv.nl; simpa using this
  refine (c67 (hf.ext x1) (by show fs.length ≤ 9223372036854775807; omega) (fun x hx h => by have := (hgr x hx).2.2.1; simp [DF.p, h] at this)).mono fun e w2 ⟨b2, he, m2, _, x2⟩ => ⟨_, he, ?_⟩
  have x02 := x1.trans x2
  generalize hG : giv (fs.map DF.p) = G at m2 ⊢
  have hGin : ∀ k, G k → InU k := by rw [← hG]; exact giv_in hv.gr
  have hCin : ∀ N : Ky → Prop, ∀ k, Cl (l.map DR.p) G N k → InU k := fun N => Cl_in hGin fun r hr => (hv.ru r hr).2.2 r.head (by simp [Ru.atoms])
  have few : ∀ N : Ky → Prop, Few (Cl (l.map DR.p) G N) := fun N => few_of (hCin N)
  refine Let.intro fun w3 e3 => ?_
  have m3 : FM w3 w2.heap.size fun _ => False := by rw [e3]; exact SetM.made w2
  have x3 : Ext w2 w3 := by rw [e3]; exact Ext.alloc ..
  have x03 := x02.trans x3
  refine Join.dir (LoopV.intro (fun n (m8 : Option Nat) w5 => ∃ (q : Nat) (S : Ky → Prop) (ks : List Ky), m8 = some q ∧ FM w5 q S ∧ (∀ k, S k ↔ k ∈ ks) ∧ ks.Nodup ∧ n = U0.length - ks.length ∧ (∀ k, S k → Cl (l.map DR.p) G (Cl (l.map DR.p) G S) k) ∧
    (∀ X : Ky → Prop, (∀ k, Cl (l.map DR.p) G (Cl (l.map DR.p) G X) k → X k) → ∀ k, S k → X k) ∧ Ext w3 w5)
    (U0.length - 0) ⟨_, fun _ => False, [], rfl, m3, by simp, by simp, rfl, fun k h => h.elim, fun X _ k h => h.elim, Fr.refl _ _⟩ ?_)
  rintro n m8 w5 ⟨q, S, ks, rfl, m5, hks, hkn, rfl, hS2, hSX, x5⟩
  have x05 := x03.trans x5
  refine Join.dir ?_
  refine (c68 (hs.ext x05) ((m2.ext x3).ext x5) (.inr ⟨q, rfl, m5⟩) (by omega) (fun r hr => (hru r hr).ok) (few S)).mono fun e w7 ⟨q22, he, m7, l22, x7⟩ => ⟨_, he, ?_⟩
  have x07 := x05.trans x7
  refine (c68 (hs.ext x07) (((m2.ext x3).ext x5).ext x7) (.inr ⟨q22, rfl, m7⟩) (by omega) (fun r hr => (hru r hr).ok) (few _)).mono fun e w8 ⟨q26, he, m8, l26, x8⟩ => ⟨_, he, ?_⟩
  have x08 := x07.trans x8
  have m22 := m7.ext x8
  have mS := (m5.ext x7).ext x8
  have lt22 : q22 < w7.heap.size := m7.lt
  obtain ⟨l26', c26, hmp26, hnd26, hmem26, _⟩ := m8.list
  obtain ⟨l8', c8, hmp8, hnd8, hmem8, _⟩ := mS.list
  have hlen8 : l8'.length = ks.length := by
    have h1 := hnd8.length_le_of_subset (l₂ := ks) fun k hk => (hks k).1 ((hmem8 k).2 hk)
    have h2 := hkn.length_le_of_subset (l₂ := l8'.map (·.1)) fun k hk => (hmem8 k).1 ((hks k).2 hk)
    simp at h1 h2; omega
  have hle : ks.length ≤ (l26'.map (·.1)).length := hkn.length_le_of_subset fun k hk => (hmem26 k).1 (hS2 k ((hks k).2 hk))
  have hU' : (l26'.map (·.1)).length ≤ U0.length := hnd26.length_le_of_subset fun k hk => mem_U0 (hCin _ k ((hmem26 k).2 hk))
  refine ⟨_, len_run u105 hmp26, _, len_run u105 hmp8, cond_intro (fun g => ?_) (fun g => ?_)⟩
  rotate_left
  · have g : ¬ l26'.length = l8'.length := fun h => by simp [h] at g
    refine ⟨U0.length - (l26'.map (·.1)).length, ?_, q26, _, l26'.map (·.1), rfl, m8, hmem26, hnd26, rfl, fun k hk => ?_, fun X hX k hk => ?_, (x5.trans x7).trans x8⟩
    · simp only [List.length_map] at hle hU' ⊢; omega
    · exact Cl.anti (fun k hk => Cl.anti (fun k hk => hS2 k hk) hk) hk
    · refine hX k ?_
      exact Cl.anti (fun k hk => Cl.anti (hSX X hX) hk) hk
  have g0 : (l26'.length : Int) = l8'.length := by simpa using g
  have g : l26'.length = l8'.length := by omega
  have hback : ∀ k, Cl (l.map DR.p) G (Cl (l.map DR.p) G S) k → S k := fun k hk => by
    refine Classical.byContradiction fun hn => ?_
    have h1 : (k :: ks).Nodup := List.nodup_cons.2 ⟨fun h => hn ((hks k).2 h), hkn⟩
    have := h1.length_le_of_subset (l₂ := l26'.map (·.1)) fun y hy => by
      rcases List.mem_cons.1 hy with rfl | hy
      · exact (hmem26 _).1 hk
      · exact (hmem26 y).1 (hS2 y ((hks y).2 hy))
    simp at this; omega
  have hwf : IsWF (l.map DR.p) G S := ⟨fun k => ⟨hS2 k, hback k⟩, hSX⟩
  have m8 : FM w8 q26 S := m8.congr fun k => ⟨hS2 k, hback k⟩
  obtain ⟨w9, hr9, x9, hit, hmp9⟩ := range_run (P := Try.prog) u105 hmp26
  refine ⟨⟨w8.heap.size, 0⟩, w9, hr9, ?_⟩
  have lt26 : q26 < w8.heap.size := m8.lt
  have l56 := x05.size
  have z7 := x7.size
  have z8 := x8.size
  refine ⟨fun w10 => FM w10 q22 (fun k => Cl (l.map DR.p) G S k ∧ ¬ S k) ∧ FM w10 q26 S ∧ Ext w w10, ?_, ?_⟩
  · rintro w10 ⟨h1, h2, x10⟩
    have fewS : Few S := (few _).sub hS2
    refine (c57 h2 fewS).mono fun e w11 ⟨s41, A, he, hA, hAl, hAn, x11⟩ => ⟨_, he, ?_⟩
    refine (c57 (h1.ext x11) ((few S).sub fun k hk => hk.1)).mono fun e w12 ⟨s43, B, he, hB, hBl, hBn, x12⟩ => ⟨_, he, ?_⟩
    exact ⟨s41, s43, 0, A, B, rfl, hA.ext x12, hB, hAn, hBn, .inr ⟨hv, rfl, S, hwf, hAl, hBl⟩, (x10.trans x11).trans x12⟩
  · refine rangeM0 (P := Try.prog) (fun vis w5 => FM w5 q22 (fun k => Cl (l.map DR.p) G S k ∧ k ∉ vis.map (·.1)) ∧ FM w5 q26 S ∧ Fr (fun y => y = w8.heap.size ∨ y = q22) w9 w5) hmp9 hit ⟨(m22.ext x9).congr fun k => by simp, m8.ext x9, Fr.refl _ _⟩ ?_ ?_ ?_
    · rintro vis w5 w6 ⟨h1, h2, h3⟩ hf
      exact ⟨h1.fr hf (by show ¬ q22 = w8.heap.size; omega), h2.fr hf (by show ¬ q26 = w8.heap.size; omega), h3.trans hf fun y _ (e : y = w8.heap.size) => .inl e⟩
    · rintro vis x w14 hxl hxv hvn hvl hvlt ⟨h1, h2, h3⟩ hmp' hrb hent K hK
      refine ⟨x.1.rel, x.1.a, x.1.b, x.2.1, hent, ?_⟩
      obtain ⟨q1, q2, q3⟩ := new_eK w14 x.1
      refine Let.intro fun w16 e16 => ?_
      rw [← e16] at q1 q2 q3
      refine ⟨q1, Let.intro fun w17 e17 => ?_⟩
      have e17 : w17 = put w16 w14.heap.size 0 (eK x.1) := e17
      rw [← e17] at q2 q3
      obtain ⟨w18, hrun, m18, f18⟩ := SetM.del (kt' := 121) K121 u105 (h1.ext q3) x.1 0
      have z14 := h3.size
      refine ⟨_, _, _, q2.rd, w18, hrun, hK _ ⟨m18.congr fun k => ?_, (h2.ext q3).fr f18 (by show ¬ q26 = q22; omega), (h3.ext q3).trans f18 fun y _ (e : y = q22) => .inr e⟩ ?_⟩
      · rw [List.map_append, List.mem_append]
        simp only [List.map_cons, List.map_nil, List.mem_singleton, not_or]
        exact ⟨fun ⟨a, b, c⟩ => ⟨⟨a, b⟩, c⟩, fun ⟨⟨a, b⟩, c⟩ => ⟨a, b, c⟩⟩
      · exact (q3.fr f18).mono fun y hy (e : y = q22) => ⟨fun (e2 : y = w8.heap.size) => by omega, by omega⟩
    · rintro vis w5 hall hvn hvl ⟨h1, h2, h3⟩ hmp5
      refine ⟨h1.congr fun k => ?_, h2, (x08.trans x9).newer h3 fun y hy => by rcases hy with rfl | rfl <;> omega⟩
      have : S k ↔ k ∈ vis.map (·.1) := by
        rw [show S k ↔ k ∈ l26'.map (·.1) from ⟨fun h => (hmem26 k).1 (hS2 k h), fun h => hback k ((hmem26 k).2 h)⟩]
        constructor
        · intro h; obtain ⟨x, hx, rfl⟩ := List.mem_map.1 h; exact List.mem_map.2 ⟨x, hall x hx, rfl⟩
        · intro h; obtain ⟨x, hx, rfl⟩ := List.mem_map.1 h; exact List.mem_map.2 ⟨x, hvl x hx, rfl⟩
      rw [this]
end Go.Proofs.Ytoljknamnkkgcaa
