/-
  Contracts: the facts of a set in order; the key of a fact; given facts as a set.
-/
import Derived.Test.YtoljknamnkkgcaaCb
namespace Go.Proofs.Ytoljknamnkkgcaa
open Go Go.VC
set_option maxHeartbeats 1000000
set_option maxRecDepth 100000

theorem E23 : Elem Try.prog 23 36 2 32 := Elem.of (by kernel_rfl) (by kernel_rfl) (by decide)
/-- A slice of facts. -/
structure NF (w : World) (s : Sl) (l : List DF) : Prop where
  sl : Sli 2 eF w s l
  ok : ∀ x ∈ l, Ints w x.sl x.args
theorem NF.ext {w w' : World} {s : Sl} {l : List DF} (h : NF w s l) (x : Ext w w') : NF w' s l := ⟨h.sl.ext x, fun y hy => (h.ok y hy).ext x⟩
theorem NF.len {w : World} {s : Sl} {l : List DF} (h : NF w s l) : s.n = l.length := h.sl.len
theorem Ky.f_inj {a b : Ky} (h : a.f = b.f) : a = b := by
  cases a; cases b
  simp only [Ky.f, Fa.mk.injEq] at h
  obtain ⟨h1, h2⟩ := h
  split at h2 <;> split at h2 <;> simp_all
/-- A list is the rising list of the facts of a set. -/
structure IsL (S : Ky → Prop) (l : List Fa) : Prop where
  ord : l.Pairwise fun x y => ¬ cmpL y.key x.key < 0
  nd : l.Nodup
  mem : ∀ f, f ∈ l ↔ ∃ k, S k ∧ k.f = f
theorem perm_of_mem {α : Type} [DecidableEq α] {l m : List α} (h1 : l.Nodup) (h2 : m.Nodup) (h : ∀ x, x ∈ l ↔ x ∈ m) : l.Perm m := (List.perm_ext_iff_of_nodup h1 h2).2 h
theorem IsL.uniq {S : Ky → Prop} {l m : List Fa} (h1 : IsL S l) (h2 : IsL S m) : l = m := by
  refine List.Perm.eq_of_pairwise (le := fun x y => ¬ cmpL y.key x.key < 0) (fun a b _ _ h3 h4 => ?_) h1.ord h2.ord (perm_of_mem h1.nd h2.nd fun f => by rw [h1.mem, h2.mem])
  have := cmpL_swap a.key b.key
  exact Fa.key_inj (cmpL_zero (by omega))
theorem IsL.congr {S S' : Ky → Prop} {l : List Fa} (h : IsL S l) (e : ∀ k, S k ↔ S' k) : IsL S' l := ⟨h.ord, h.nd, fun f => by rw [h.mem]; exact ⟨fun ⟨k, a, b⟩ => ⟨k, (e k).1 a, b⟩, fun ⟨k, a, b⟩ => ⟨k, (e k).2 a, b⟩⟩⟩
/-- The members are among a few. -/
def Few (S : Ky → Prop) : Prop := ∃ U : List Ky, U.length ≤ 1000 ∧ ∀ k, S k → k ∈ U
theorem new_eK (w : World) (k : Ky) : StoreOk (w.alloc (.cells (zc Try.prog 121) 121)) w.heap.size 0 (eK k) 3 ∧ Blk (put (w.alloc (.cells (zc Try.prog 121) 121)) w.heap.size 0 (eK k)) w.heap.size (eK k) 121 ∧ Ext w (put (w.alloc (.cells (zc Try.prog 121) 121)) w.heap.size 0 (eK k)) :=
  new_var w 121 (z := zc Try.prog 121) (vs := eK k) (by rw [zc121]; rfl) (eK_one k)
/-- The facts of a set, in order. -/
theorem c57 {w : World} {b : Nat} {S : Ky → Prop} (m : FM w b S) (few : Few S) :
    Calls Try.prog 57 [.map (some b)].toArray w fun e w' => ∃ (s : Sl) (L : List DF), e = .returned (.slice s.a s.n s.c) ∧ NF w' s L ∧ IsL S (L.map DF.p) ∧ L.length ≤ 1000 ∧ Ext w w' := by
  refine (call57 (some b) (R := fun v w' => ∃ (s : Sl) (L : List DF), v = (.slice s.a s.n s.c) ∧ NF w' s L ∧ IsL S (L.map DF.p) ∧ L.length ≤ 1000 ∧ Ext w w') ?_).mono fun e w' ⟨v, he, s, L, hv, hx⟩ => ⟨s, L, by rw [he, hv], hx⟩
  obtain ⟨l, c, hmp, hnd, hmem, htrue⟩ := m.list
  obtain ⟨U, hU, hsub⟩ := few
  have hll : l.length ≤ 1000 := by
    have := hnd.length_le_of_subset (l₂ := U) fun k hk => hsub k ((hmem k).2 hk)
    simp at this; omega
  obtain ⟨w1, hr1, x1, hit, hmp1⟩ := range_run (P := Try.prog) u105 hmp
  have hb1 := hmp1.bound
  refine ⟨⟨w.heap.size, 0⟩, w1, hr1, ?_⟩
  have hr0 := hit.bound
  -- what has been gathered
  refine ⟨fun s w2 => ∃ L : List DF, Own 36 2 eF w1.heap.size w2 s L ∧ (∀ x ∈ L, Ints w2 x.sl x.args ∧ x.args.length ≤ big ∧ ∀ a, x.sl.a = some a → ∃ cur, Blk w2 a.block cur 3) ∧ (L.map DF.p).Perm (l.map fun x => x.1.f) ∧ Ext w w2, ?_, ?_⟩
  · rintro s w2 ⟨L, ho, hok, hp, x2⟩
    have hL : L.length ≤ 1000 := by have := hp.length_eq; simp at this; omega
    have hsd : SdT (fun x => Ints w2 x.sl x.args ∧ x.args.length ≤ big ∧ ∀ a, x.sl.a = some a → ¬ BlS s a.block) w1.heap.size w2 w2 s L.toArray :=
      ⟨by simpa using ho, Fr.refl _ _, fun x hx => by
        obtain ⟨h1, h2, h3⟩ := hok x (by simpa using hx)
        refine ⟨h1, h2, fun a ha ⟨a', ha', e⟩ => ?_⟩
        obtain ⟨cur, hc⟩ := h3 a ha
        obtain ⟨cur', hc'⟩ := ho.blk ha'
        rw [e] at hc'
        exact Blk.ne_ty hc hc' (by decide) rfl, by simp; omega⟩
    refine (c108 ltF_swo (cf109 w2 s) hsd).mono fun e w3 ⟨he, R, pR, sR, hR⟩ => ⟨he, s, R.toList, rfl, ⟨hR.own.sli, fun x hx => ?_⟩, ⟨?_, ?_, ?_⟩, ?_, ?_⟩
    · obtain ⟨h1, _, h3⟩ := hR.ok x hx
      exact Sli.fr h1 hR.fr h3
    · rw [List.pairwise_map]
      refine sR.imp fun {x y} h => ?_
      simpa [ltF] using h
    · have hp2 : (R.toList.map DF.p).Perm (l.map fun x => x.1.f) := (pR.map DF.p).trans (by simpa using hp)
      rw [hp2.nodup_iff]
      have : (l.map fun x => x.1.f) = (l.map (·.1)).map Ky.f := by simp
      rw [this]
      exact List.nodup_iff_pairwise_ne.2 (List.pairwise_map.2 (hnd.imp fun {x y} h e => h (Ky.f_inj e)))
    · intro f
      have hp2 : (R.toList.map DF.p).Perm (l.map fun x => x.1.f) := (pR.map DF.p).trans (by simpa using hp)
      rw [hp2.mem_iff]
      constructor
      · intro h
        obtain ⟨x, hx, rfl⟩ := List.mem_map.1 h
        exact ⟨x.1, (hmem _).2 (List.mem_map.2 ⟨x, hx, rfl⟩), rfl⟩
      · rintro ⟨k, hk, rfl⟩
        obtain ⟨x, hx, rfl⟩ := List.mem_map.1 ((hmem k).1 hk)
        exact List.mem_map.2 ⟨x, hx, rfl⟩
    · have := pR.length_eq; simp at this; simp; omega
    · exact x2.newer hR.fr fun y ⟨a, ha, e⟩ => by
        have := (ho.base ha).1
        have := x1.size
        omega
  · refine rangeM (P := Try.prog) (k := .slice) (fun vis (s : Sl) w2 => ∃ L : List DF, Own 36 2 eF w1.heap.size w2 s L ∧ (∀ x ∈ L, Ints w2 x.sl x.args ∧ x.args.length ≤ big ∧ ∀ a, x.sl.a = some a → w1.heap.size ≤ a.block ∧ ∃ cur, Blk w2 a.block cur 3) ∧ L.map DF.p = vis.map (fun x => x.1.f) ∧ Fr (fun y => y = w.heap.size) w1 w2) hmp1 hit ⟨[], Own.nil .., by simp, rfl, Fr.refl _ _⟩ ?_ ?_ ?_
    · rintro vis s w2 w3 ⟨L, ho, hok, hp, x2⟩ hf
      refine ⟨L, ho.fr hf fun a ha (e : a.block = w.heap.size) => by have := (ho.base ha).1; omega, fun x hx => ?_, hp, x2.trans hf fun _ _ h => h⟩
      obtain ⟨h1, h2, h3⟩ := hok x hx
      have hn : ∀ a, x.sl.a = some a → ¬ a.block = w.heap.size := fun a ha e => by have := (h3 a ha).1; omega
      exact ⟨Sli.fr h1 hf hn, h2, fun a ha => ⟨(h3 a ha).1, by obtain ⟨cur, hc⟩ := (h3 a ha).2; exact ⟨cur, hc.fr hf (hn a ha)⟩⟩⟩
    · rintro vis x s w2 hxl hxv hvn hvl hvlt ⟨L, ho, hok, hp, x2⟩ hmp' hrb hent K hK
      have hL : L.length ≤ 1000 := by
        have h1 : L.length = vis.length := by have := congrArg List.length hp; simpa using this
        omega
      have z12 := x2.size
      refine ⟨x.1.rel, x.1.a, x.1.b, x.2.1, hent, ?_⟩
      obtain ⟨n1, n2, n3⟩ := new_eK w2 x.1
      refine Let.intro fun w7 e7 => ?_
      rw [← e7] at n1 n2 n3
      refine ⟨n1, Let.intro fun w8 e8 => ?_⟩
      have e8 : w8 = put w7 w2.heap.size 0 (eK x.1) := e8
      rw [← e8] at n2 n3
      refine ⟨x.1.rel, x.1.a, x.1.b, n2.rd, (c107 x.1 w8).mono fun e w9 ⟨y, he, hy, hyi, hyb, x9⟩ => ⟨_, _, he, ?_⟩⟩
      have x29 := n3.trans x9
      have z8 := n3.size
      have ho9 := ho.ext x29
      obtain ⟨s1, w10, hb10, s2, w11, hr11, ho11, hf11⟩ := appendOne E23 ho9 (x := y) (v := .agg (eF y).toArray) rfl eF_len eF_one (by omega) (by omega) (by simp only [maxLen]; omega) (by have := x29.size; omega) 23
      refine ⟨s1, w10, hb10, s2, w11, hr11, hK _ _ ⟨L ++ [y], ho11, fun z hz => ?_, by simp [hp, hy], ?_⟩ ?_⟩
      · have hzz : Ints w9 z.sl z.args ∧ z.args.length ≤ big ∧ ∀ a, z.sl.a = some a → w1.heap.size ≤ a.block ∧ ∃ cur, Blk w9 a.block cur 3 := by
          rcases List.mem_append.1 hz with hz | hz
          · obtain ⟨h1, h2, h3⟩ := hok z hz
            exact ⟨h1.ext x29, h2, fun a ha => ⟨(h3 a ha).1, by obtain ⟨cur, hc⟩ := (h3 a ha).2; exact ⟨cur, hc.ext x29⟩⟩⟩
          · simp only [List.mem_singleton] at hz
            subst hz
            refine ⟨hyi, ?_, fun a ha => ⟨by have := (hyb a ha).1; omega, (hyb a ha).2⟩⟩
            have : z.args = if x.1.b = 0 then [x.1.a] else [x.1.a, x.1.b] := congrArg Fa.args hy
            rw [this]; split <;> simp [big]
        obtain ⟨h1, h2, h3⟩ := hzz
        have hn : ∀ a, z.sl.a = some a → ¬ BlS s a.block := fun a ha ⟨a', ha', e⟩ => by
          obtain ⟨_, cur, hc⟩ := h3 a ha
          obtain ⟨cur', hc'⟩ := ho9.blk ha'
          rw [e] at hc'
          exact Blk.ne_ty hc hc' (by decide) rfl
        exact ⟨Sli.fr h1 hf11 hn, h2, fun a ha => ⟨(h3 a ha).1, by obtain ⟨cur, hc⟩ := (h3 a ha).2; exact ⟨cur, hc.fr hf11 (hn a ha)⟩⟩⟩
      · exact (x2.ext x29).trans hf11 fun y hy ⟨a, ha, e⟩ => by have := (ho9.base ha).1; omega
      · refine Fr.mono (x29.fr hf11) fun y hy ⟨a, ha, e⟩ => ⟨?_, ?_⟩
        · intro (h : y = w.heap.size)
          have := (ho9.base ha).1; omega
        · have := (ho9.base ha).1; have := hmp1.bound; omega
    · rintro vis s w2 hall hvn hvl ⟨L, ho, hok, hp, x2⟩ hmp'
      refine ⟨L, ho, fun x hx => ?_, ?_, x1.newer x2 fun y (hy : y = w.heap.size) => by omega⟩
      · obtain ⟨h1, h2, h3⟩ := hok x hx
        exact ⟨h1, h2, fun a ha => (h3 a ha).2⟩
      · rw [hp]
        refine List.Perm.map _ (perm_of_mem hvn ?_ fun x => ⟨hvl x, hall x⟩)
        exact (List.pairwise_map.1 hnd).imp fun {x y} h e => h (by rw [e])
end Go.Proofs.Ytoljknamnkkgcaa
