/-
  Contract: consequences.
-/
import Derived.Test.YtoljknamnkkgcaaCh
namespace Go.Proofs.Ytoljknamnkkgcaa
open Go Go.VC
set_option maxHeartbeats 1000000
set_option maxRecDepth 100000

theorem zc105 : (zc Try.prog 105).size = 1 := by kernel_rfl
theorem zc150 : (zc Try.prog 150).toList = [.slice none 0 0] := by kernel_rfl
theorem NotM.ext {w w' : World} {m : Option Nat} {Nt : Ky → Prop} (h : NotM w m Nt) (x : Ext w w') : NotM w' m Nt := by
  rcases h with h | ⟨b, hb, hm⟩
  · exact .inl h
  · exact .inr ⟨b, hb, hm.ext x⟩
/-- A rule as far as running goes. -/
def RuOk (r : Ru) : Prop := AtOk r.head ∧ r.body.length ≤ 3 ∧ ∀ b ∈ r.body, AtOk b.a
theorem c68 {w : World} {s : Sl} {l : List DR} {gB : Nat} {m2 : Option Nat} {G N : Ky → Prop} (hs : NR w s l) (hg : FM w gB G) (hn : NotM w m2 N) (hl : l.length ≤ 100) (hok : ∀ r ∈ l, RuOk r.p) (few : Few (Cl (l.map DR.p) G N)) :
    Calls Try.prog 68 [.slice s.a s.n s.c, .map (some gB), .map m2].toArray w fun e w' => ∃ b : Nat, e = .returned (.map (some b)) ∧ FM w' b (Cl (l.map DR.p) G N) ∧ w.heap.size ≤ b ∧ Ext w w' := by
  refine (call68 s (some gB) m2 (R := fun v w' => ∃ b : Nat, v = (.map (some b)) ∧ FM w' b (Cl (l.map DR.p) G N) ∧ w.heap.size ≤ b ∧ Ext w w') ?_).mono fun e w' ⟨v, he, b, hv, hx⟩ => ⟨b, by rw [he, hv], hx⟩
  have hsn := hs.len
  obtain ⟨U, hU, hsub⟩ := few
  refine Let.intro fun w1 e1 => ?_
  have m1 : FM w1 w.heap.size fun _ => False := by rw [e1]; exact SetM.made w
  have x1 : Ext w w1 := by rw [e1]; exact Ext.alloc ..
  obtain ⟨n1, n2, n3⟩ := new_var w1 105 (z := zc Try.prog 105) (vs := [.map (some w.heap.size)]) (by rw [zc105]; rfl) (by simp [Value.oneCell'])
  refine Let.intro fun w2 e2 => ?_
  rw [← e2] at n1 n2 n3
  refine ⟨n1, Let.intro fun w3 e3 => ?_⟩
  rw [← e3] at n2 n3
  have x3 := x1.trans n3
  have m3 := m1.ext n3
  have hg3 := hg.ext x3
  obtain ⟨lg, cg, hmp, hnd, hmem, _⟩ := hg3.list
  obtain ⟨w4, hr4, x4, hit, hmp4⟩ := range_run (P := Try.prog) u105 hmp
  refine ⟨⟨w3.heap.size, 0⟩, w4, hr4, ?_⟩
  have lO := m1.lt
  have lOb := n2.lt
  have l34 : w3.heap.size < w4.heap.size := hit.bound
  have z1 := x1.size
  have z3 := n3.size
  have lgB := hg.lt
  have m4 := m3.ext x4
  have bO := n2.ext x4
  have x04 := x3.trans x4
  refine ⟨fun w5 => FM w5 w.heap.size G ∧ Blk w5 w1.heap.size [.map (some w.heap.size)] 105 ∧ Ext w w5, ?_, ?_⟩
  rotate_left
  · -- the given facts are copied
    refine rangeM0 (P := Try.prog) (fun vis w5 => FM w5 w.heap.size (fun k => k ∈ vis.map (·.1)) ∧ Blk w5 w1.heap.size [.map (some w.heap.size)] 105 ∧ Fr (fun y => y = w3.heap.size ∨ y = w.heap.size) w4 w5) hmp4 hit ⟨m4.congr fun k => by simp, bO, Fr.refl _ _⟩ ?_ ?_ ?_
    · rintro vis w5 w6 ⟨h1, h2, h3⟩ hf
      exact ⟨h1.fr hf (by show ¬ w.heap.size = w3.heap.size; omega), h2.fr hf (by show ¬ w1.heap.size = w3.heap.size; omega), h3.trans hf fun y _ (e : y = w3.heap.size) => .inl e⟩
    · rintro vis x w23 hxl hxv hvn hvl hvlt ⟨h1, h2, h3⟩ hmp' hrb hent K hK
      refine ⟨x.1.rel, x.1.a, x.1.b, x.2.1, hent, ?_⟩
      obtain ⟨q1, q2, q3⟩ := new_eK w23 x.1
      refine Let.intro fun w25 e25 => ?_
      rw [← e25] at q1 q2 q3
      refine ⟨q1, Let.intro fun w26 e26 => ?_⟩
      have e26 : w26 = put w25 w23.heap.size 0 (eK x.1) := e26
      rw [← e26] at q2 q3
      obtain ⟨w27, hrun, m27, f27⟩ := (h1.ext q3).put K121 u105 x.1
      have l23 := h3.size
      refine ⟨some w.heap.size, (h2.ext q3).cell 0, _, _, _, q2.rd, w27, hrun, hK _ ⟨m27.congr fun k => ?_, (h2.ext q3).fr f27 (by show ¬ w1.heap.size = w.heap.size; omega), (h3.ext q3).trans f27 fun y _ (e : y = w.heap.size) => .inr e⟩ ?_⟩
      · rw [List.map_append, List.mem_append]; simp
      · exact (q3.fr f27).mono fun y hy (e : y = w.heap.size) => ⟨fun (e2 : y = w3.heap.size) => by omega, by omega⟩
    · rintro vis w5 hall hvn hvl ⟨h1, h2, h3⟩ hmp5
      refine ⟨h1.congr fun k => ?_, h2, x04.newer h3 fun y hy => by rcases hy with rfl | rfl <;> omega⟩
      rw [hmem k]
      constructor
      · intro h; obtain ⟨x, hx, rfl⟩ := List.mem_map.1 h; exact List.mem_map.2 ⟨x, hall x hx, rfl⟩
      · intro h; obtain ⟨x, hx, rfl⟩ := List.mem_map.1 h; exact List.mem_map.2 ⟨x, hvl x hx, rfl⟩
  rintro w5 ⟨m5, bO5, x5⟩
  -- the rounds
  refine ⟨fun w6 => FM w6 w.heap.size (Cl (l.map DR.p) G N) ∧ Blk w6 w1.heap.size [.map (some w.heap.size)] 105 ∧ Ext w w6, ?_, ?_⟩
  · rintro w6 ⟨m6, b6, x6⟩
    exact ⟨some w.heap.size, b6.cell 0, _, rfl, m6, Nat.le_refl _, x6⟩
  obtain ⟨ks5, c5, _, hnd5, hmem5, _⟩ := m5.list
  refine LoopV.intro (fun n (b9 : Bool) w7 => ∃ (S : Ky → Prop) (ks : List Ky), FM w7 w.heap.size S ∧ (∀ k, S k ↔ k ∈ ks) ∧ ks.Nodup ∧ n = U.length - ks.length + (if b9 then 1 else 0) ∧ (∀ k, G k → S k) ∧ (∀ k, S k → Cl (l.map DR.p) G N k) ∧ (b9 = false → Closed (l.map DR.p) N S) ∧ Blk w7 w1.heap.size [.map (some w.heap.size)] 105 ∧ Ext w w7)
    (U.length - (ks5.map (·.1)).length + 1) ⟨G, ks5.map (·.1), m5, hmem5, hnd5, rfl, fun _ h => h, fun _ h => Cl.base h, (by intro h; cases h), bO5, x5⟩ ?_
  rintro n b9 w7 ⟨S, ks, m7, hks, hkn, rfl, hG, hS, hcl, b7, x7⟩
  refine cond_intro (fun g => ?_) (fun g => ⟨m7.congr fun k => Cl.eq hG (hcl g) hS k, b7, x7⟩)
  subst g
  have hksU : ks.length ≤ U.length := hkn.length_le_of_subset fun k hk => hsub k (hS k ((hks k).2 hk))
  refine Join.dir (Let.intro fun w9 e9 => ?_)
  have x9 : Ext w7 w9 := by rw [e9]; exact Ext.alloc ..
  have b9 : Blk w9 w7.heap.size [.slice none 0 0] 150 := by rw [e9, ← zc150]; simpa using Blk.alloc w7 (zc Try.prog 150).toList 150
  have l9 := b9.lt
  have z7 := x7.size
  have hObF : w1.heap.size < w7.heap.size := b7.lt
  have hOF : w.heap.size < w7.heap.size := m7.lt
  have hpow : ∀ r ∈ l, 1000 ^ r.body.length ≤ 1000000000 := fun r hr => by
    have h3 : r.body.length ≤ 3 := by have := (hok r hr).2.1; simpa [DR.p] using this
    exact Nat.le_trans (Nat.pow_le_pow_right (by omega) h3) (by decide)
  refine ⟨fun w10 => ∃ (sL : Sl) (L : List Ky), Blk w10 w7.heap.size [.slice sL.a sL.n sL.c] 150 ∧ Own 121 3 eK (w7.heap.size + 1) w10 sL L ∧ L.length ≤ 100000000000 ∧ (∀ k, k ∈ L ↔ (∃ r ∈ l, ∃ u, (En S r.p.body z8 u ∧ NegOk N r.p.body u) ∧ gnd r.p.head u = k) ∧ ¬ S k) ∧ FM w10 w.heap.size S ∧ Blk w10 w1.heap.size [.map (some w.heap.size)] 105 ∧ Ext w w10, ?_, ?_⟩
  rotate_left
  · -- the rules
    refine rangeI (fun i w10 => ∃ (sL : Sl) (L : List Ky), Blk w10 w7.heap.size [.slice sL.a sL.n sL.c] 150 ∧ Own 121 3 eK (w7.heap.size + 1) w10 sL L ∧ L.length ≤ i * 1000000000 ∧ (∀ k, k ∈ L ↔ (∃ r ∈ l.take i, ∃ u, (En S r.p.body z8 u ∧ NegOk N r.p.body u) ∧ gnd r.p.head u = k) ∧ ¬ S k) ∧ FM w10 w.heap.size S ∧ Blk w10 w1.heap.size [.map (some w.heap.size)] 105 ∧ Ext w w10)
      (by rw [hsn]; show l.length ≤ 9223372036854775807; omega) ⟨⟨none, 0, 0⟩, [], b9, Own.nil .., by simp, by simp, m7.ext x9, b7.ext x9, x7.trans x9⟩ ?_ ?_
    · rintro i hi w17 ⟨sL, L, bF, ho, hLl, hLm, m17, b17, x17⟩ K hK
      have hi : i < l.length := by omega
      refine loadR (hs.ext x17) hi fun w20 b20 x20 => ⟨_, _, _, b20.rd, some w.heap.size, (b17.ext x20).cell 0, ?_⟩
      have hr := List.getElem_mem hi
      have hrok := hok _ hr
      generalize hri : l[i] = r at b20 hr hrok
      have x020 := x17.trans x20
      have m20 := m17.ext x20
      have bO20 := b17.ext x20
      have hI : GI w7.heap.size S r.head.p L [] w20 := ⟨sL, L, bF.ext x20, ho.ext x20, by simp, fun k => by simp⟩
      have C := GI.cb w7.heap.size S r.head.p L
      have hkR : Kp (ownF w7.heap.size) w20 _ _ _ := ⟨b20, hI.no b20 (by decide) (by decide)⟩
      have hkO : Kp (ownF w7.heap.size) w20 _ _ _ := ⟨bO20, hI.old hObF⟩
      -- what was there at the start is kept
      have hext : ∀ w', Rl (ownF w7.heap.size) w20 w' → Ext w w' := fun w' R' => x020.newer R'.fr fun y hy => by
        rcases Nat.lt_or_ge y w7.heap.size with h | h
        · exact absurd hy (hI.old h)
        · omega
      have hmS : ∀ w', Rl (ownF w7.heap.size) w20 w' → FM w' w.heap.size S := fun w' R' => m20.fr R'.fr (hI.noM m20)
      have fewS : Few S := ⟨U, hU, fun k hk => hsub k (hS k hk)⟩
      have hi1 := (Nat.mul_le_mul_right 1000000000 (show i + 1 ≤ 100 by omega))
      rw [Nat.add_mul, Nat.one_mul] at hi1
      have hpr := hpow r hr
      have h113 := c113 (P := fun u => True) (r := r) (m2 := m2) (Nt := N) (In := S) (f := 114) (c := [.pointer (some ⟨w17.heap.size, 0, none⟩), .pointer (some ⟨w1.heap.size, 0, none⟩), .pointer (some ⟨w7.heap.size, 0, none⟩)]) C hI (fun w' R' => ((hs.ext (hext w' R')).ok r hr)) m20 fewS (fun w' R' => hn.ext (hext w' R')) callable114 1000000000 (by simp; exact hpr)
        (fun vs v w' R' hIv hvs hv8 _ => c114 hIv (hkR.rl R').b (hkO.rl R').b (hmS w' R') ((hs.ext (hext w' R')).ok r hr).hd hrok.1 hv8 (by omega))
        (fun b hb => hrok.2.2 b.p (List.mem_map.2 ⟨b, hb, rfl⟩)) (by have := hrok.2.1; simp [DR.p] at this; omega) (fun _ _ _ => trivial)
      refine h113.mono fun e w21 ⟨he, vs', hI', hl', R', hu⟩ => ⟨he, ?_⟩
      obtain ⟨s', L', g1, g2, g3, g4⟩ := hI'.ex
      refine hK _ ⟨s', L', g1, g2, ?_, fun k => ?_, hmS w21 R', (hkO.rl R').b, hext w21 R'⟩
      · rw [Nat.add_mul, Nat.one_mul]; simp at g3; omega
      · rw [g4, hLm, List.take_succ_eq_append_getElem hi, hri]
        simp only [List.nil_append]
        constructor
        · rintro (⟨⟨r', hr', h1⟩, h2⟩ | ⟨⟨u, hu', e⟩, h2⟩)
          · exact ⟨⟨r', List.mem_append_left _ hr', h1⟩, h2⟩
          · exact ⟨⟨r, by simp, u, (hu u).1 hu', e⟩, h2⟩
        · rintro ⟨⟨r', hr', u, h1, e⟩, h2⟩
          rcases List.mem_append.1 hr' with hr' | hr'
          · exact .inl ⟨⟨r', hr', u, h1, e⟩, h2⟩
          · simp only [List.mem_singleton] at hr'
            subst hr'
            exact .inr ⟨⟨u, (hu u).2 h1, e⟩, h2⟩
    · rintro w10 ⟨sL, L, bF, ho, hLl, hLm, m10, b10, x10⟩
      rw [hsn] at hLl hLm
      rw [List.take_length] at hLm
      have := (Nat.mul_le_mul_right 1000000000 hl)
      exact ⟨sL, L, bF, ho, by omega, hLm, m10, b10, x10⟩
  rintro w10 ⟨sL, L, bF, ho, hLl, hLm, m10, b10, x10⟩
  refine ⟨sL, bF.cell 0, ?_⟩
  have hsl := ho.sli.len
  have hLb : ∀ {y : Nat}, y ≤ w7.heap.size → ¬ BlS sL y := fun hy ⟨a, ha, e⟩ => by have := (ho.base ha).1; omega
  refine ⟨fun w11 => FM w11 w.heap.size (fun k => S k ∨ k ∈ L) ∧ Blk w11 w7.heap.size [.slice sL.a sL.n sL.c] 150 ∧ Blk w11 w1.heap.size [.map (some w.heap.size)] 105 ∧ Ext w w11, ?_, ?_⟩
  rotate_left
  · refine rangeI (fun j w12 => FM w12 w.heap.size (fun k => S k ∨ k ∈ L.take j) ∧ Fr (fun y => y = w.heap.size) w10 w12) (by rw [hsl]; show L.length ≤ 9223372036854775807; omega) ⟨m10.congr fun k => by simp, Fr.refl _ _⟩ ?_ ?_
    · rintro j hj w12 ⟨m12, f12⟩ K hK
      have hj : j < L.length := by omega
      have ho12 : Own 121 3 eK (w7.heap.size + 1) w12 sL L := ho.fr f12 fun a ha (e : a.block = w.heap.size) => by have := (ho.base ha).1; omega
      obtain ⟨p, hp, a1, a2, hr⟩ := Sli.at eK_len ho12.sli hj
      obtain ⟨q1, q2, q3⟩ := new_eK w12 L[j]
      refine ⟨p, hp, a1, a2, _, _, _, hr, Let.intro fun w14 e14 => ?_⟩
      rw [← e14] at q1 q2 q3
      refine ⟨q1, Let.intro fun w15 e15 => ?_⟩
      have e15 : w15 = put w14 w12.heap.size 0 (eK L[j]) := e15
      rw [← e15] at q2 q3
      obtain ⟨w16, hrun, m16, f16⟩ := (m12.ext q3).put K121 u105 L[j]
      have b15 : Blk w15 w1.heap.size [.map (some w.heap.size)] 105 := (b10.fr f12 (by omega)).ext q3
      refine ⟨some w.heap.size, b15.cell 0, _, _, _, q2.rd, w16, hrun, hK _ ⟨m16.congr fun k => ?_, (f12.ext q3).trans f16 fun _ _ h => h⟩⟩
      rw [List.take_succ_eq_append_getElem hj, List.mem_append, List.mem_singleton, or_assoc]
    · rintro w12 ⟨m12, f12⟩
      rw [hsl, List.take_length] at m12
      exact ⟨m12, bF.fr f12 (by omega), b10.fr f12 (by omega), x10.newer f12 fun y (hy : y = w.heap.size) => by omega⟩
  rintro w11 ⟨m11, bF11, b11, x11⟩
  refine ⟨sL, bF11.cell 0, ?_⟩
  obtain ⟨ks', c', _, hnd', hmem', _⟩ := m11.list
  have hS' : ∀ k, (S k ∨ k ∈ L) → Cl (l.map DR.p) G N k := fun k hk => by
    rcases hk with hk | hk
    · exact hS k hk
    · obtain ⟨⟨r, hr, u, ⟨h1, h2⟩, e⟩, _⟩ := (hLm k).1 hk
      rw [← e]
      exact Cl.closed (l.map DR.p) G N r.p (List.mem_map.2 ⟨r, hr, rfl⟩) u (En_mono hS h1) h2
  have hU' : (ks'.map (·.1)).length ≤ U.length := hnd'.length_le_of_subset fun k hk => hsub k (hS' k ((hmem' k).2 hk))
  have hsub' : ∀ k ∈ ks, k ∈ ks'.map (·.1) := fun k hk => (hmem' k).1 (.inl ((hks k).2 hk))
  have hle : ks.length ≤ (ks'.map (·.1)).length := hkn.length_le_of_subset hsub'
  have hlen : ((sL.n : Nat) : Int) = (L.length : Int) := by rw [hsl]
  rw [hlen]
  refine ⟨U.length - (ks'.map (·.1)).length + (if (decide ((L.length : Int) > 0)) = true then 1 else 0), ?_, _, ks'.map (·.1), m11, hmem', hnd', rfl, fun k hk => .inl (hG k hk), hS', fun hb => ?_, b11, x11⟩
  · by_cases hL : L = []
    · subst hL
      rw [List.length_map] at hle hU' ⊢; simp; omega
    · obtain ⟨k, hk⟩ := List.exists_mem_of_ne_nil L hL
      have hk' := (hLm k).1 hk
      have hlt : ks.length + 1 ≤ (ks'.map (·.1)).length := by
        have h1 : (k :: ks).Nodup := List.nodup_cons.2 ⟨fun h => hk'.2 ((hks k).2 h), hkn⟩
        have := h1.length_le_of_subset (l₂ := ks'.map (·.1)) fun y hy => by
          rcases List.mem_cons.1 hy with rfl | hy
          · exact (hmem' _).1 (.inr hk)
          · exact hsub' y hy
        simpa using this
      have h0 : 0 < L.length := List.length_pos_iff.2 hL
      have : decide ((L.length : Int) > 0) = true := by simp; omega
      rw [this]
      simp only [if_true]
      omega
  · have hL : L = [] := by
      have : ¬ ((L.length : Int) > 0) := by simpa using hb
      exact List.eq_nil_of_length_eq_zero (by omega)
    subst hL
    intro r hr u h1 h2
    obtain ⟨r', hr', rfl⟩ := List.mem_map.1 hr
    have h1' : En S r'.p.body z8 u := En_mono (fun k hk => by simpa using hk) h1
    refine .inl ?_
    by_cases hk : S (gnd r'.p.head u)
    · exact hk
    · exact absurd ((hLm _).2 ⟨⟨r', hr', u, ⟨h1', h2⟩, rfl⟩, hk⟩) (by simp)
end Go.Proofs.Ytoljknamnkkgcaa
