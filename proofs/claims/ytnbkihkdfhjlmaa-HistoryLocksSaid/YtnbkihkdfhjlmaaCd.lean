/-
  Contracts: where each transaction ends, the committed transactions, their part of a history.
-/
import Derived.Test.YtnbkihkdfhjlmaaCc
namespace Go.Proofs.Ytnbkihkdfhjlmaa
open Go Go.VC

def kI (n : Int) : Value := .int .i64 n
def kB (b : Bool) : Value := .bool b
theorem K3 : KeyOk Try.prog 3 kI := KeyOk.int (by kernel_rfl)
theorem u103 : Try.prog.underlying 103 = some (.map 3 3) := by kernel_rfl
theorem zero3 (w : World) : (zeroValue 3).run Try.prog w = .ok (.int .i64 0) w := Try.zeroValue3 w

/-- Where a transaction has its commit (2) or abort (3). -/
def fin (h : List Ev) (k t : Int) : Int := ix ⟨t, k, 0⟩ h
/-- The map of the endings. -/
structure EndM (w : World) (b : Nat) (h : List Ev) (k : Int) : Prop where
  ex : ∃ (l : List (Ent Int Int)) (c : Nat), Mp kI kI w b l c ∧ ∀ t, mget l t = if 1 ≤ t ∧ t ≤ 6 then some (fin h k t) else none
theorem EndM.fr {M : Nat → Prop} {w w' : World} {b : Nat} {h : List Ev} {k : Int} (m : EndM w b h k) (f : Fr M w w') (hn : ¬ M b) : EndM w' b h k := by
  obtain ⟨l, c, h1, h2⟩ := m.ex
  exact ⟨l, c, h1.fr f hn, h2⟩
theorem EndM.ext {w w' : World} {b : Nat} {h : List Ev} {k : Int} (m : EndM w b h k) (f : Ext w w') : EndM w' b h k := m.fr f fun h => h
theorem EndM.look {w : World} {b : Nat} {h : List Ev} {k : Int} (m : EndM w b h k) (t : Int) :
    (Instr.lookup 103 (.map (some b)) (.int .i64 t) false).run Try.prog w = .ok (.int .i64 (if 1 ≤ t ∧ t ≤ 6 then fin h k t else 0)) w := by
  obtain ⟨l, c, h1, h2⟩ := m.ex
  have := (look_run K3 u103 h1 zero3 t).1
  rw [h2] at this
  rw [show (Value.int .i64 t) = kI t from rfl, this]
  split <;> rfl
theorem c54 {w : World} {s : Sl} {h : List Ev} (hs : Hs w s h) (k : Int) (hl : h.length ≤ big) :
    Calls Try.prog 54 [.slice s.a s.n s.c, .int .i64 k].toArray w fun e w' => e = .returned (.map (some w.heap.size)) ∧ EndM w' w.heap.size h k ∧ Ext w w' := by
  refine (call54 s k (R := fun v w' => v = .map (some w.heap.size) ∧ EndM w' w.heap.size h k ∧ Ext w w') ?_).mono fun e w' ⟨v, he, hv, hx⟩ => ⟨by rw [he, hv], hx⟩
  refine Let.intro fun w1 e1 => ?_
  have hm1 : Mp kI kI w1 w.heap.size ([] : List (Ent Int Int)) 0 := by rw [e1]; exact Mp.made w
  have hx1 : Ext w w1 := by rw [e1]; exact Ext.alloc ..
  refine Join.dir (LoopV.intro (fun n (x : Int) w' => 1 ≤ x ∧ x ≤ 7 ∧ (n : Int) = 7 - x ∧ (∃ (l : List (Ent Int Int)) (c : Nat), Mp kI kI w' w.heap.size l c ∧ ∀ t, mget l t = if 1 ≤ t ∧ t < x then some (fin h k t) else none) ∧ Ext w w') 6
    ⟨by omega, by omega, by omega, ⟨[], 0, hm1, fun t => by rw [if_neg (by omega)]; rfl⟩, hx1⟩ ?_)
  rintro n (x : Int) w3 ⟨h1, h2, hn, ⟨l, c, hm, hg⟩, hx⟩
  refine cond_intro (fun hc => ?_) (fun hc => ?_)
  · have hc : x ≤ 6 := by simpa using hc
    refine Join.dir ((c56 (hs.ext hx) ⟨x, k, 0⟩ hl).mono fun e w5 ⟨he, hx5⟩ => ⟨_, he, ?_⟩)
    obtain ⟨w6, c', hrun, hm6, hf6⟩ := put_run K3 u103 (ve := kI) (hm.ext hx5) x (ix ⟨x, k, 0⟩ h)
    refine ⟨w6, hrun, (6 - x).toNat, by omega, ?_⟩
    rw [wrap64 (by omega) (by omega)]
    refine ⟨by omega, by omega, by omega, ⟨_, c', hm6, fun t => ?_⟩, (hx.trans hx5).newer hf6 fun i hi => by omega⟩
    rw [mget_mput, hg]
    by_cases e : t = x
    · subst e; rw [if_pos rfl, if_pos (by omega)]; rfl
    · rw [if_neg e]
      by_cases e2 : 1 ≤ t ∧ t < x
      · rw [if_pos e2, if_pos (by omega)]
      · rw [if_neg e2, if_neg (by omega)]
  · have hc : x = 7 := by have : ¬ x ≤ 6 := by simpa using hc
                          omega
    subst hc
    refine ⟨rfl, ⟨l, c, hm, fun t => ?_⟩, hx⟩
    rw [hg]
    by_cases e2 : 1 ≤ t ∧ t < 7
    · rw [if_pos e2, if_pos (by omega)]
    · rw [if_neg e2, if_neg (by omega)]

/-- The committed transactions, rising. -/
def com (h : List Ev) : List Int := ([1, 2, 3, 4, 5, 6] : List Int).filter fun t => decide (0 ≤ fin h 2 t)
theorem mem_com {h : List Ev} {t : Int} : t ∈ com h ↔ 1 ≤ t ∧ t ≤ 6 ∧ 0 ≤ fin h 2 t := by
  simp only [com, List.mem_filter, decide_eq_true_eq, List.mem_cons, List.not_mem_nil, or_false]
  constructor
  · rintro ⟨h1, h2⟩; exact ⟨by omega, by omega, h2⟩
  · rintro ⟨h1, h2, h3⟩; exact ⟨by omega, h3⟩
theorem com_sorted (h : List Ev) : (com h).Pairwise (· < ·) := List.Pairwise.filter _ (by decide)
theorem com_len (h : List Ev) : (com h).length ≤ 6 := List.length_filter_le ..
theorem pairwise_lt_nodup {l : List Int} (h : l.Pairwise (· < ·)) : l.Nodup := h.imp fun h e => by omega
/-- A sorted list of the same elements is it. -/
theorem com_of {h : List Ev} {l : List Int} (h1 : l.Pairwise (· ≤ ·)) (h2 : l.Nodup) (h3 : ∀ t, t ∈ l ↔ t ∈ com h) : l = com h :=
  List.Perm.eq_of_pairwise (le := fun a b => a ≤ b) (fun a b _ _ h1 h2 => by omega) h1 ((com_sorted h).imp fun h => by omega) ((List.perm_ext_iff_of_nodup h2 (pairwise_lt_nodup (com_sorted h))).2 h3)

theorem nodup_keys {κ β : Type} {l vis : List (Ent κ β)} (hl : (l.map (·.1)).Nodup) (hv : vis.Nodup) (hs : ∀ x ∈ vis, x ∈ l) : (vis.map (·.1)).Nodup := by
  rw [List.nodup_iff_pairwise_ne, List.pairwise_map]
  rw [List.nodup_iff_pairwise_ne] at hv
  refine hv.imp_of_mem fun {a b} ha hb hne e => hne ?_
  obtain ⟨i, hi⟩ := List.getElem?_of_mem (hs a ha)
  obtain ⟨j, hj⟩ := List.getElem?_of_mem (hs b hb)
  have := nodup_at hl (i := i) (j := j) (x := a.1) (by simp [hi]) (by simp [hj, e])
  subst this
  rw [hi] at hj; exact Option.some.inj hj

theorem c36 {w : World} {s : Sl} {h : List Ev} (hs : Hs w s h) (hl : h.length ≤ big) :
    Calls Try.prog 36 [.slice s.a s.n s.c].toArray w fun e w' => ∃ s' : Sl, e = .returned (.slice s'.a s'.n s'.c) ∧ Own 3 1 eI w.heap.size w' s' (com h) ∧ Ext w w' := by
  refine (call36 s (R := fun v w' => ∃ s' : Sl, v = .slice s'.a s'.n s'.c ∧ Own 3 1 eI w.heap.size w' s' (com h) ∧ Ext w w') ?_).mono fun e w' ⟨v, he, s', hv, hx⟩ => ⟨s', by rw [he, hv], hx⟩
  refine (c54 hs 2 hl).mono fun e w1 ⟨he, hm, hx1⟩ => ⟨_, he, ?_⟩
  obtain ⟨l, c, hmp, hg⟩ := hm.ex
  have hlen : l.length ≤ 6 := by
    have h1 := hmp.keys.length_le_of_subset (l₂ := ([1, 2, 3, 4, 5, 6] : List Int)) (by
      intro t ht
      obtain ⟨x, hx, rfl⟩ := List.mem_map.1 ht
      have := mget_some hmp.keys hx
      rw [hg] at this
      split at this
      · simp; omega
      · cases this)
    simpa using h1
  obtain ⟨w2, hr2, hx2, hit2, hmp2⟩ := range_run (κ := Int) (β := Int) u103 hmp
  refine ⟨⟨w1.heap.size, 0⟩, w2, hr2, ?_⟩
  refine Join.dir (LoopV.intro (fun n (s' : Sl) w' => ∃ vis : List (Ent Int Int), n = l.length - vis.length ∧ vis.Nodup ∧ (∀ x ∈ vis, x ∈ l) ∧ Itr (κ := Int) (β := Int) w' w1.heap.size w.heap.size c vis ∧ Mp kI kI w' w.heap.size l c ∧
      Own 3 1 eI w2.heap.size w' s' ((vis.filter fun x => decide (0 ≤ x.2.1)).map (·.1)) ∧ w2.heap.size ≤ w'.heap.size ∧ Ext w w') l.length
    ⟨[], by simp, by simp, by simp, hit2, hmp2, Own.nil .., Nat.le_refl _, hx1.trans hx2⟩ ?_)
  rintro n s' w5 ⟨vis, rfl, hvn, hvl, hit, hmp5, hown, hsz5, hx5⟩
  have hnew : ∀ a, s'.a = some a → w2.heap.size ≤ a.block := fun a ha => (hown.base ha).1
  have hw1 := hmp.bound
  have hs2 := hit2.bound
  obtain ⟨d, kv, w6, hrun, hcase⟩ := next_run (P := Try.prog) (T := 0) hmp5 hit hvl
  refine ⟨d, kv, w6, hrun, ?_⟩
  rcases hcase with ⟨rfl, hall, hx6⟩ | ⟨rfl, x, hxl, hxv, hit6, hmp6, hfr6, hent⟩
  · -- all is seen: the sort
    refine (c67 (hown.ext hx6) ?_).mono fun e w7 ⟨he, l', hp, hso, ho, hf⟩ => ⟨he, s', rfl, ?_, ?_⟩
    · have := hvn.length_le_of_subset (l₂ := l) (fun x hx => hvl x hx)
      have h2 : ((vis.filter fun x => decide (0 ≤ x.2.1)).map (·.1)).length ≤ vis.length := by rw [List.length_map]; exact List.length_filter_le ..
      omega
    · have hnd : ((vis.filter fun x => decide (0 ≤ x.2.1)).map (·.1)).Nodup := nodup_keys hmp.keys (hvn.filter _) fun x hx => hvl x (List.mem_filter.1 hx).1
      have : l' = com h := com_of hso (hp.nodup_iff.2 hnd) fun t => by
        rw [hp.mem_iff, mem_com]
        constructor
        · intro ht
          obtain ⟨y, hy, rfl⟩ := List.mem_map.1 ht
          obtain ⟨hy1, hy2⟩ := List.mem_filter.1 hy
          have := mget_some hmp.keys (hvl y hy1)
          rw [hg] at this
          split at this
          · rename_i hb; exact ⟨hb.1, hb.2, by rw [Option.some.inj this]; simpa using hy2⟩
          · cases this
        · rintro ⟨h1, h2, h3⟩
          have : mget l t = some (fin h 2 t) := by rw [hg, if_pos ⟨h1, h2⟩]
          obtain ⟨c', hc'⟩ := mget_mem this
          exact List.mem_map.2 ⟨_, List.mem_filter.2 ⟨hall _ hc', by simpa using h3⟩, rfl⟩
      rw [← this]; exact ho.mono (by have := hx1.size; have := hx2.size; omega)
    · exact (hx5.trans hx6).newer hf fun b ⟨a, ha, hb⟩ => by have := hnew a ha; have := hx1.size; have := hx2.size; omega
  · -- one more entry
    have hlt : vis.length + 1 ≤ l.length := by
      have := (List.nodup_cons.2 ⟨hxv, hvn⟩).length_le_of_subset (l₂ := l) (by intro y hy; rcases List.mem_cons.1 hy with rfl | hy; exact hxl; exact hvl y hy)
      simpa using this
    have hvn' : (vis ++ [x]).Nodup := by
      rw [List.nodup_append]; exact ⟨hvn, by simp, by intro a ha b hb e; simp at hb; subst hb; subst e; exact hxv ha⟩
    have hvl' : ∀ y ∈ vis ++ [x], y ∈ l := by intro y hy; rcases List.mem_append.1 hy with hy | hy; exact hvl y hy; simp at hy; subst hy; exact hxl
    have hx6 : Ext w w6 := hx5.newer hfr6 fun i hi => by have := hx1.size; omega
    have hown6 := hown.fr hfr6 fun a ha hb => by have := hnew a ha; omega
    refine Join.dir ⟨x.1, x.2.1, hent, Join.dir (cond_intro (fun hc => ?_) (fun hc => ?_))⟩
    · have hc : 0 ≤ x.2.1 := by simpa using hc
      have hvis : ((vis ++ [x]).filter fun x => decide (0 ≤ x.2.1)).map (·.1) = ((vis.filter fun x => decide (0 ≤ x.2.1)).map (·.1)) ++ [x.1] := by simp [List.filter_append, hc]
      have hcl : ((vis.filter fun x => decide (0 ≤ x.2.1)).map (·.1)).length ≤ vis.length := by rw [List.length_map]; exact List.length_filter_le ..
      obtain ⟨s1, w9, e9, s2, w10, e10, ho, hf⟩ := appendOne E24 hown6 (x := x.1) (v := .int .i64 x.1) rfl eI_len eI_one (by omega) (by omega) (by simp only [maxLen]; omega) (by have := hfr6.size; omega) 24
      refine ⟨s1, w9, e9, s2, w10, e10, l.length - (vis ++ [x]).length, by simp; omega, vis ++ [x], rfl, hvn', hvl', hit6.fr hf ?_, hmp6.fr hf ?_, by rw [hvis]; exact ho, by have := hfr6.size; have := hf.size; omega, hx6.newer hf fun b ⟨a, ha, hb⟩ => by have := hnew a ha; have := hx1.size; have := hx2.size; omega⟩
      · rintro ⟨a, ha, hb⟩; have := hnew a ha; omega
      · rintro ⟨a, ha, hb⟩; have := hnew a ha; omega
    · have hc : ¬ 0 ≤ x.2.1 := by simpa using hc
      have hvis : ((vis ++ [x]).filter fun x => decide (0 ≤ x.2.1)).map (·.1) = ((vis.filter fun x => decide (0 ≤ x.2.1)).map (·.1)) := by simp [List.filter_append, hc]
      exact ⟨l.length - (vis ++ [x]).length, by simp; omega, vis ++ [x], rfl, hvn', hvl', hit6, hmp6, by rw [hvis]; exact hown6, by have := hfr6.size; omega, hx6⟩
end Go.Proofs.Ytnbkihkdfhjlmaa
