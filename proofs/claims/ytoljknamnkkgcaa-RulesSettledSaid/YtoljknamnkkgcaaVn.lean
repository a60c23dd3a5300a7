/-
  Maps: what the operations on a map do, over a list of its entries. For every program.
-/
import Derived.Test.YtoljknamnkkgcaaVm
namespace Go.VC
open Go
variable {P : Program}

section
variable {κ β : Type} {ke : κ → Value} {ve : β → Value}
/-- The keys of a type: how they are compared. -/
structure KeyOk (P : Program) (kt : TypeId) (ke : κ → Value) : Prop where
  inj : ∀ a b, ke a = ke b → a = b
  chk : ∀ e k w, (Instr.checkKey e 10000 kt (ke k)).run P w = .ok () w
  find : ∀ k (es : List MapEntry) w, (∀ e ∈ es, ∃ k', e.key = ke k') → (Instr.findKey kt (ke k) es).run P w = .ok none w ∧ (∀ e ∈ es, e.key ≠ ke k) ∨
    ∃ i e, es[i]? = some e ∧ e.key = ke k ∧ (Instr.findKey kt (ke k) es).run P w = .ok (some (i, e.val)) w
  bits : ∀ k, Instr.sameBits 10000 (ke k) (ke k) = true

abbrev Ent (κ β : Type) := κ × β × Nat
def ent (ke : κ → Value) (ve : β → Value) (x : Ent κ β) : MapEntry := ⟨ke x.1, ve x.2.1, x.2.2⟩
/-- The element at a key. -/
def mget [DecidableEq κ] (l : List (Ent κ β)) (k : κ) : Option β := (l.find? fun x => x.1 = k).map (·.2.1)
def mput [DecidableEq κ] (l : List (Ent κ β)) (c : Nat) (k : κ) (v : β) : List (Ent κ β) := if (mget l k).isSome then l.map fun x => if x.1 = k then (k, v, x.2.2) else x else l ++ [(k, v, c)]
/-- Block b is a map with these entries. -/
structure Mp (ke : κ → Value) (ve : β → Value) (w : World) (b : Nat) (l : List (Ent κ β)) (c : Nat) : Prop where
  heap : w.heap[b]? = some (.map (l.map (ent ke ve)).toArray c)
  keys : (l.map (·.1)).Nodup
  stamps : (l.map (·.2.2)).Nodup
  lt : ∀ x ∈ l, x.2.2 < c
theorem Mp.fr {M : Nat → Prop} {w w' : World} {b c : Nat} {l : List (Ent κ β)} (h : Mp ke ve w b l c) (f : Fr M w w') (hn : ¬ M b) : Mp ke ve w' b l c :=
  ⟨(f.blk b (Array.getElem?_eq_some_iff.1 h.heap).1 hn).trans h.heap, h.keys, h.stamps, h.lt⟩
theorem Mp.ext {w w' : World} {b c : Nat} {l : List (Ent κ β)} (h : Mp ke ve w b l c) (f : Ext w w') : Mp ke ve w' b l c := h.fr f fun h => h
theorem Mp.bound {w : World} {b c : Nat} {l : List (Ent κ β)} (h : Mp ke ve w b l c) : b < w.heap.size := (Array.getElem?_eq_some_iff.1 h.heap).1
theorem Mp.made (w : World) : Mp ke ve (w.alloc (.map #[] 0)) w.heap.size ([] : List (Ent κ β)) 0 :=
  ⟨by show (w.heap.push _)[w.heap.size]? = _; simp, by simp, by simp, by simp⟩

theorem nodup_at {α : Type} {l : List α} (h : l.Nodup) {i j : Nat} {x : α} (h1 : l[i]? = some x) (h2 : l[j]? = some x) : i = j := by
  have hp := List.pairwise_iff_getElem.1 h
  obtain ⟨hi, ei⟩ := List.getElem?_eq_some_iff.1 h1
  obtain ⟨hj, ej⟩ := List.getElem?_eq_some_iff.1 h2
  rcases Nat.lt_trichotomy i j with h' | h' | h'
  · exact absurd (ei.trans ej.symm) (hp i j hi hj h')
  · exact h'
  · exact absurd (ej.trans ei.symm) (hp j i hj hi h')
theorem find_born : ∀ {l : List (Ent κ β)}, (l.map (·.2.2)).Nodup → ∀ {x : Ent κ β}, x ∈ l → (l.map (ent ke ve)).find? (fun e => e.born == x.2.2) = some (ent ke ve x)
  | y :: r, hst, x, hxl => by
    simp only [List.map_cons, List.nodup_cons] at hst
    rw [List.map_cons, List.find?_cons]
    by_cases e : y.2.2 = x.2.2
    · rcases List.mem_cons.1 hxl with rfl | hx
      · simp [ent]
      · exact absurd (List.mem_map.2 ⟨x, hx, e.symm⟩) hst.1
    · have e' : ((ent ke ve y).born == x.2.2) = false := by simpa [ent] using e
      rw [e']
      rcases List.mem_cons.1 hxl with rfl | hx
      · exact absurd rfl e
      · exact find_born hst.2 hx
theorem mget_some [DecidableEq κ] {l : List (Ent κ β)} (hn : (l.map (·.1)).Nodup) {x : Ent κ β} (hx : x ∈ l) : mget l x.1 = some x.2.1 := by
  induction l with
  | nil => cases hx
  | cons y r ih =>
    simp only [List.map_cons, List.nodup_cons] at hn
    unfold mget
    rw [List.find?_cons]
    by_cases e : y.1 = x.1
    · rw [show decide (y.1 = x.1) = true from by simpa using e]
      rcases List.mem_cons.1 hx with rfl | hx
      · rfl
      · exact absurd (List.mem_map.2 ⟨x, hx, e.symm⟩) hn.1
    · rw [show decide (y.1 = x.1) = false from by simpa using e]
      rcases List.mem_cons.1 hx with rfl | hx
      · exact absurd rfl e
      · exact ih hn.2 hx
theorem mget_mem [DecidableEq κ] {l : List (Ent κ β)} {k : κ} {v : β} (h : mget l k = some v) : ∃ s, (k, v, s) ∈ l := by
  unfold mget at h
  cases hf : l.find? fun x => x.1 = k with
  | none => rw [hf] at h; cases h
  | some x =>
    rw [hf] at h
    cases h
    have h1 := List.find?_some hf
    have h2 := List.mem_of_find?_eq_some hf
    simp only [decide_eq_true_eq] at h1
    subst h1
    exact ⟨x.2.2, h2⟩
theorem mget_none [DecidableEq κ] {l : List (Ent κ β)} {k : κ} (h : ∀ x ∈ l, x.1 ≠ k) : mget l k = none := by
  unfold mget
  rw [List.find?_eq_none.2 (by intro x hx; simpa using h x hx)]; rfl
theorem mget_none' [DecidableEq κ] {l : List (Ent κ β)} {k : κ} (h : mget l k = none) : ∀ x ∈ l, x.1 ≠ k := by
  intro x hx e
  unfold mget at h
  cases hf : l.find? fun x => x.1 = k with
  | none => have := List.find?_eq_none.1 hf x hx; simp [e] at this
  | some y => rw [hf] at h; cases h

theorem look_run [DecidableEq κ] {t kt vt : TypeId} (K : KeyOk P kt ke) (ht : P.underlying t = some (.map kt vt)) {w : World} {b c : Nat} {l : List (Ent κ β)} (h : Mp ke ve w b l c) {z : Value} (hz : ∀ w, (zeroValue vt).run P w = .ok z w) (k : κ) :
    (Instr.lookup t (.map (some b)) (ke k) false).run P w = .ok (((mget l k).map ve).getD z) w ∧
    (Instr.lookup t (.map (some b)) (ke k) true).run P w = .ok (.tuple #[((mget l k).map ve).getD z, .bool (mget l k).isSome]) w := by
  have hg : (getObj b).run P w = .ok (.map (l.map (ent ke ve)).toArray c) w := by simp [getObj, Sem.run, h.heap]
  have hk : ∀ e ∈ l.map (ent ke ve), ∃ k', e.key = ke k' := fun e he => by obtain ⟨x, _, rfl⟩ := List.mem_map.1 he; exact ⟨x.1, rfl⟩
  rcases K.find k (l.map (ent ke ve)) w hk with ⟨hf, hno⟩ | ⟨i, e, hi, he, hf⟩
  · have hm : mget l k = none := mget_none fun x hx e => hno _ (List.mem_map.2 ⟨x, hx, rfl⟩) (by show ke x.1 = ke k; rw [e])
    constructor <;> simp [Instr.lookup, under_run ht, hg, K.chk, hf, hz, hm]
  · have hi' : ∃ x, l[i]? = some x ∧ e = ent ke ve x := by
      rw [List.getElem?_map] at hi
      cases hx : l[i]? with
      | none => rw [hx] at hi; cases hi
      | some x => rw [hx] at hi; cases hi; exact ⟨x, rfl, rfl⟩
    obtain ⟨x, hx, rfl⟩ := hi'
    obtain rfl : x.1 = k := K.inj _ _ he
    have hm := mget_some h.keys (List.mem_of_getElem? hx)
    constructor <;> simp [Instr.lookup, under_run ht, hg, K.chk, hf, hm, ent]
theorem look_nil {t kt vt : TypeId} (K : KeyOk P kt ke) (ht : P.underlying t = some (.map kt vt)) {w : World} {z : Value} (hz : ∀ w, (zeroValue vt).run P w = .ok z w) (k : κ) :
    (Instr.lookup t (.map none) (ke k) false).run P w = .ok z w := by
  have hf : (Instr.findKey kt (ke k) []).run P w = .ok none w := by
    rcases K.find k [] w (by simp) with ⟨hf, _⟩ | ⟨i, e, hi, _⟩
    · exact hf
    · simp at hi
  simp [Instr.lookup, under_run ht, K.chk, hf, hz]

theorem mget_mput [DecidableEq κ] (l : List (Ent κ β)) (c : Nat) (k : κ) (v : β) (k' : κ) : mget (mput l c k v) k' = if k' = k then some v else mget l k' := by
  unfold mput
  split
  · rename_i hs
    have hmap : ∀ l : List (Ent κ β), mget (l.map fun x => if x.1 = k then (k, v, x.2.2) else x) k' = if k' = k then (mget l k).map (fun _ => v) else mget l k' := by
      intro l
      induction l with
      | nil => simp [mget]
      | cons x r ih =>
        unfold mget at ih ⊢
        rw [List.map_cons, List.find?_cons, List.find?_cons, List.find?_cons]
        by_cases hx : x.1 = k
        · by_cases hk : k' = k
          · subst hk; simp [hx]
          · have h1 : ¬ k = k' := fun e => hk e.symm
            have h2 : ¬ x.1 = k' := fun e => h1 (hx ▸ e)
            simp only [hx, if_true, h1, decide_false, hk, if_false] at ih ⊢
            exact ih
        · by_cases hk : k' = k
          · subst hk
            simp only [hx, if_false, decide_false, if_true] at ih ⊢
            exact ih
          · simp only [hx, if_false, hk, decide_false] at ih ⊢
            by_cases h2 : x.1 = k'
            · simp [h2]
            · simp only [h2, decide_false]; exact ih
    rw [hmap]
    split
    · obtain ⟨y, hy⟩ := Option.isSome_iff_exists.1 hs
      rw [hy]; rfl
    · rfl
  · rename_i hs
    have hn : mget l k = none := by cases h : mget l k with | none => rfl | some _ => rw [h] at hs; exact absurd rfl hs
    have hall := mget_none' hn
    unfold mget at hn ⊢
    rw [List.find?_append]
    by_cases hk : k' = k
    · subst hk
      rw [List.find?_eq_none.2 (by intro x hx; simpa using hall x hx)]
      simp
    · have h1 : ¬ k = k' := fun e => hk e.symm
      simp only [hk, if_false]
      cases hf : l.find? fun x => x.1 = k' with
      | none => simp [h1]
      | some x => simp

theorem put_run [DecidableEq κ] {t kt vt : TypeId} (K : KeyOk P kt ke) (ht : P.underlying t = some (.map kt vt)) {w : World} {b c : Nat} {l : List (Ent κ β)} (h : Mp ke ve w b l c) (k : κ) (v : β) :
    ∃ w' c', (Instr.mapUpdate t (.map (some b)) (ke k) (ve v)).run P w = .ok () w' ∧ Mp ke ve w' b (mput l c k v) c' ∧ Fr (fun i => i = b) w w' := by
  have hg : (getObj b).run P w = .ok (.map (l.map (ent ke ve)).toArray c) w := by simp [getObj, Sem.run, h.heap]
  have hb := h.bound
  have hset : ∀ es c', (setObj b (.map es c')).run P w = .ok () { w with heap := w.heap.setIfInBounds b (.map es c') } := fun es c' => by simp [setObj, Sem.run, h.heap]
  have hfr : ∀ es c', Fr (fun i => i = b) w { w with heap := w.heap.setIfInBounds b (.map es c') } := fun es c' =>
    ⟨rfl, rfl, rfl, by simp, fun i _ hi => by show (w.heap.setIfInBounds b _)[i]? = _; rw [Array.getElem?_setIfInBounds_ne (fun e => hi e.symm)]⟩
  have hk : ∀ e ∈ l.map (ent ke ve), ∃ k', e.key = ke k' := fun e he => by obtain ⟨x, _, rfl⟩ := List.mem_map.1 he; exact ⟨x.1, rfl⟩
  rcases K.find k (l.map (ent ke ve)) w hk with ⟨hf, hno⟩ | ⟨i, e, hi, he, hf⟩
  · have hm : mget l k = none := mget_none fun x hx e => hno _ (List.mem_map.2 ⟨x, hx, rfl⟩) (by show ke x.1 = ke k; rw [e])
    have hput : mput l c k v = l ++ [(k, v, c)] := by simp [mput, hm]
    refine ⟨_, c + 1, ?_, ?_, hfr ((l.map (ent ke ve)).toArray.push ⟨ke k, ve v, c⟩) (c + 1)⟩
    · simp only [Instr.mapUpdate, Sem.run_bind, under_run ht, Result.andThen_ok, hg, K.chk, hf, hset]
    · rw [hput]
      refine ⟨by simp [hb, ent], ?_, ?_, ?_⟩
      · rw [List.map_append, List.nodup_append]
        exact ⟨h.keys, by simp, by intro a ha b' hb' e; simp at hb'; subst hb'; obtain ⟨x, hx, rfl⟩ := List.mem_map.1 ha; exact mget_none' hm x hx e⟩
      · rw [List.map_append, List.nodup_append]
        exact ⟨h.stamps, by simp, by intro a ha b' hb' e; simp at hb'; subst hb'; obtain ⟨x, hx, rfl⟩ := List.mem_map.1 ha; have := h.lt x hx; omega⟩
      · intro x hx
        rcases List.mem_append.1 hx with hx | hx
        · have := h.lt x hx; omega
        · simp at hx; subst hx; simp
  · have hi' : ∃ x, l[i]? = some x ∧ e = ent ke ve x := by
      rw [List.getElem?_map] at hi
      cases hx : l[i]? with
      | none => rw [hx] at hi; cases hi
      | some x => rw [hx] at hi; cases hi; exact ⟨x, rfl, rfl⟩
    obtain ⟨x, hx, rfl⟩ := hi'
    obtain rfl : x.1 = k := K.inj _ _ he
    have hm := mget_some h.keys (List.mem_of_getElem? hx)
    have hput : mput l c x.1 v = l.map fun y => if y.1 = x.1 then (x.1, v, y.2.2) else y := by simp [mput, hm]
    have hstay : ∀ old : Value, old = ke x.1 → (Instr.keyThatStays old (ke x.1)).run P w = .ok (ke x.1) w := fun old ho => by
      subst ho; simp [Instr.keyThatStays, K.bits]
    have hil : i < l.length := by
      rcases Nat.lt_or_ge i l.length with h | h
      · exact h
      · rw [List.getElem?_eq_none h] at hx; cases hx
    have hxi : l[i] = x := by rw [List.getElem?_eq_getElem hil] at hx; exact Option.some.inj hx
    have hsame : ((l.map (ent ke ve)).toArray.modify i fun e => { e with key := ke x.1, val := ve v }) = ((l.map fun y => if y.1 = x.1 then (x.1, v, y.2.2) else y).map (ent ke ve)).toArray := by
      apply Array.ext'
      apply List.ext_getElem
      · simp
      · intro j h1 h2
        have hj : j < l.length := by simpa using h2
        simp only [Array.getElem_toList, Array.getElem_modify, List.getElem_map, List.getElem_toArray]
        by_cases e : i = j
        · subst e; simp [hxi, ent]
        · rw [if_neg e]
          have hne : l[j].1 ≠ x.1 := by
            intro e'
            have e1 : (l.map (·.1))[i]? = some x.1 := by simp [hx]
            have e2 : (l.map (·.1))[j]? = some x.1 := by simp [hj, e']
            exact e (nodup_at h.keys e1 e2)
          rw [if_neg hne]
    refine ⟨_, c, ?_, ?_, hfr ((l.map fun y => if y.1 = x.1 then (x.1, v, y.2.2) else y).map (ent ke ve)).toArray c⟩
    · have ho : (((l.map (ent ke ve)).toArray[i]?).map (·.key)).getD (ke x.1) = ke x.1 := by simp [hx, ent]
      simp only [Instr.mapUpdate, Sem.run_bind, under_run ht, Result.andThen_ok, hg, K.chk, hf, hstay _ ho, hset, hsame]
    · rw [hput]
      have hk' : ((l.map fun y => if y.1 = x.1 then (x.1, v, y.2.2) else y).map (·.1)) = l.map (·.1) := by
        rw [List.map_map]; apply List.map_congr_left; intro y _; simp only [Function.comp]; split <;> simp_all
      have hs' : ((l.map fun y => if y.1 = x.1 then (x.1, v, y.2.2) else y).map (·.2.2)) = l.map (·.2.2) := by
        rw [List.map_map]; apply List.map_congr_left; intro y _; simp only [Function.comp]; split <;> simp_all
      refine ⟨by simp [hb], by rw [hk']; exact h.keys, by rw [hs']; exact h.stamps, ?_⟩
      intro y hy
      obtain ⟨z, hz, rfl⟩ := List.mem_map.1 hy
      have := h.lt z hz
      split <;> exact this
theorem len_run {t kt vt T : TypeId} (ht : P.underlying t = some (.map kt vt)) {w : World} {b c : Nat} {l : List (Ent κ β)} (h : Mp ke ve w b l c) :
    (Builtin.len_ #[t] T #[.map (some b)]).run P w = .ok (.int .i64 l.length) w := by
  have hg : (getObj b).run P w = .ok (.map (l.map (ent ke ve)).toArray c) w := by simp [getObj, Sem.run, h.heap]
  simp [Builtin.len_, under_run ht, hg, goInt]

/-! ### ranging over a map that stays as it is -/
structure Itr (w : World) (r b c : Nat) (vis : List (Ent κ β)) : Prop where
  heap : w.heap[r]? = some (.mapIter (some b) c (vis.map (·.2.2)).toArray c)
theorem Itr.fr {M : Nat → Prop} {w w' : World} {r b c : Nat} {vis : List (Ent κ β)} (h : Itr w r b c vis) (f : Fr M w w') (hn : ¬ M r) : Itr w' r b c vis :=
  ⟨(f.blk r (Array.getElem?_eq_some_iff.1 h.heap).1 hn).trans h.heap⟩
theorem Itr.bound {w : World} {r b c : Nat} {vis : List (Ent κ β)} (h : Itr w r b c vis) : r < w.heap.size := (Array.getElem?_eq_some_iff.1 h.heap).1
theorem range_run {t kt vt : TypeId} (ht : P.underlying t = some (.map kt vt)) {w : World} {b c : Nat} {l : List (Ent κ β)} (h : Mp ke ve w b l c) :
    ∃ w', (Instr.range t (.map (some b))).run P w = .ok (.pointer (some ⟨w.heap.size, 0, none⟩)) w' ∧ Ext w w' ∧ Itr (κ := κ) (β := β) w' w.heap.size b c [] ∧ Mp ke ve w' b l c := by
  have hg : (getObj b).run P w = .ok (.map (l.map (ent ke ve)).toArray c) w := by simp [getObj, Sem.run, h.heap]
  have hx := Ext.alloc w (.mapIter (some b) c #[] c)
  refine ⟨w.alloc (.mapIter (some b) c #[] c), ?_, hx, ⟨by show (w.heap.push _)[w.heap.size]? = _; simp⟩, h.ext hx⟩
  simp [Instr.range, under_run ht, hg]
theorem next_run {w : World} {r b c T : Nat} {l vis : List (Ent κ β)} (h : Mp ke ve w b l c) (hi : Itr w r b c vis) (hv : ∀ x ∈ vis, x ∈ l) :
    ∃ (d : Bool) (kv : List Value) (w' : World), (Instr.next (.pointer (some ⟨r, 0, none⟩)) false T).run P w = .ok (.tuple (Value.bool d :: kv).toArray) w' ∧
      ((d = false ∧ (∀ x ∈ l, x ∈ vis) ∧ Ext w w') ∨
       (d = true ∧ ∃ x ∈ l, x ∉ vis ∧ Itr w' r b c (vis ++ [x]) ∧ Mp ke ve w' b l c ∧ Fr (fun i => i = r) w w' ∧ (Instr.entry (.pointer (some ⟨r, 0, none⟩))).run P w' = .ok (.tuple #[ke x.1, ve x.2.1]) w')) := by
  have hgr : (getObj r).run P w = .ok (.mapIter (some b) c (vis.map (·.2.2)).toArray c) w := by simp [getObj, Sem.run, hi.heap]
  have hg : ∀ w : World, w.heap[b]? = some (.map (l.map (ent ke ve)).toArray c) → (getObj b).run P w = .ok (.map (l.map (ent ke ve)).toArray c) w := fun w h => by simp [getObj, Sem.run, h]
  have hbr : b ≠ r := fun e => by have := h.heap; rw [e, hi.heap] at this; cases this
  -- an entry has been seen just if it is among those visited
  have hseen : ∀ x ∈ l, (vis.map (·.2.2)).toArray.contains x.2.2 = true ↔ x ∈ vis := fun x hx => by
    constructor
    · intro hc
      have : x.2.2 ∈ vis.map (·.2.2) := by simpa using hc
      obtain ⟨y, hy, he⟩ := List.mem_map.1 this
      have hyl := hv y hy
      obtain ⟨i, hi1, hi2⟩ := List.getElem_of_mem hx
      obtain ⟨j, hj1, hj2⟩ := List.getElem_of_mem hyl
      have e1 : (l.map (·.2.2))[i]? = some x.2.2 := by simp [hi1, hi2]
      have e2 : (l.map (·.2.2))[j]? = some x.2.2 := by simp [hj1, hj2, he]
      have hij := nodup_at h.stamps e1 e2
      subst hij; rw [hi2] at hj2; rw [hj2]; exact hy
    · intro hx; simp only [List.contains_toArray]; exact List.contains_iff_mem.2 (List.mem_map.2 ⟨x, hx, rfl⟩)
  generalize hleft : ((l.map (ent ke ve)).toArray.filter fun e => !(vis.map (·.2.2)).toArray.contains e.born) = left
  have hleft' : left.toList = (l.filter fun x => !(vis.map (·.2.2)).toArray.contains x.2.2).map (ent ke ve) := by
    rw [← hleft]
    simp only [List.filter_toArray, List.filter_map]
    rfl
  have hborn : ∀ e ∈ left.toList, e.born < c := fun e he => by
    rw [hleft'] at he
    obtain ⟨x, hx, rfl⟩ := List.mem_map.1 he
    exact h.lt x (List.mem_filter.1 hx).1
  have hold : left.filter (·.born < c) = left := by
    apply Array.ext'
    rw [Array.toList_filter]
    exact List.filter_eq_self.2 fun e he => by simpa using hborn e he
  have hnew : left.filter (·.born ≥ c) = #[] := by
    apply Array.ext'
    rw [Array.toList_filter]
    exact List.filter_eq_nil_iff.2 fun e he => by have := hborn e he; simp; omega
  have hnot : (!(vis.map (·.2.2)).toArray.isEmpty && !(l.map (ent ke ve)).toArray.isEmpty && (l.map (ent ke ve)).toArray.all (·.born ≥ c)) = false := by
    cases l with
    | nil => simp
    | cons x r =>
      have := h.lt x (by simp)
      simp only [List.map_cons, Bool.and_eq_false_iff]
      right
      rw [List.all_toArray]
      simp [ent]
      omega
  by_cases hempty : left.toList = []
  · have he : left = #[] := by apply Array.ext'; simpa using hempty
    refine ⟨false, [], w, ?_, .inl ⟨rfl, ?_, Fr.refl _ _⟩⟩
    · simp only [Instr.next, Sem.run_bind, hgr, Result.andThen_ok, hg w h.heap, hnot, Bool.false_eq_true, if_false, hleft, hold, hnew]
      subst he
      simp [Question.forced]
    · intro x hx
      rw [hleft'] at hempty
      have := List.map_eq_nil_iff.1 hempty
      rw [List.filter_eq_nil_iff] at this
      have h1 := this x hx
      exact (hseen x hx).1 (by simpa using h1)
  · have hne : left.isEmpty = false := by cases hl : left.toList with | nil => exact absurd hl hempty | cons a b => rw [Array.isEmpty]; simp; intro e; subst e; simp at hl
    have hsz : 0 < left.size := by
      rcases Nat.eq_zero_or_pos left.size with h0 | h0
      · exact absurd (by simpa using Array.eq_empty_of_size_eq_zero h0) (fun e : left = #[] => hempty (by rw [e]))
      · exact h0
    -- the choice
    have hchoose : ∃ i w1, i < left.size ∧ (choose (.mapNext left.size)).run P w = .ok i w1 ∧ Ext w w1 := by
      rw [run_choose]
      split
      · exact ⟨0, w, hsz, rfl, Fr.refl _ _⟩
      · exact ⟨_, _, Nat.mod_lt _ hsz, rfl, ⟨rfl, rfl, rfl, Nat.le_refl _, fun _ _ _ => rfl⟩⟩
    obtain ⟨i, w1, hilt, hch, hx1⟩ := hchoose
    have hmem : left[i] ∈ left.toList := by simp
    rw [hleft'] at hmem
    obtain ⟨x, hxm, hxe⟩ := List.mem_map.1 hmem
    obtain ⟨hxl, hxn⟩ := List.mem_filter.1 hxm
    have hxv : x ∉ vis := fun hx => by rw [(hseen x hxl).2 hx] at hxn; simp at hxn
    have hgr1 : w1.heap[r]? = some (.mapIter (some b) c (vis.map (·.2.2)).toArray c) := (hi.fr hx1 (fun h => h)).heap
    have hm1 := h.ext hx1
    have hset : (setObj r (.mapIter (some b) c ((vis.map (·.2.2)).toArray.push x.2.2) c)).run P w1 = .ok () { w1 with heap := w1.heap.setIfInBounds r (.mapIter (some b) c ((vis.map (·.2.2)).toArray.push x.2.2) c) } := by simp [setObj, Sem.run, hgr1]
    have hfr : Fr (fun i => i = r) w1 { w1 with heap := w1.heap.setIfInBounds r (.mapIter (some b) c ((vis.map (·.2.2)).toArray.push x.2.2) c) } :=
      ⟨rfl, rfl, rfl, by simp, fun i _ hi => by show (w1.heap.setIfInBounds r _)[i]? = _; rw [Array.getElem?_setIfInBounds_ne (fun e => hi e.symm)]⟩
    have hr1 : r < w1.heap.size := (Array.getElem?_eq_some_iff.1 hgr1).1
    have hm2 := hm1.fr hfr hbr
    have hit2 : Itr { w1 with heap := w1.heap.setIfInBounds r (.mapIter (some b) c ((vis.map (·.2.2)).toArray.push x.2.2) c) } r b c (vis ++ [x]) := ⟨by simp [hr1]⟩
    refine ⟨true, [ke x.1, ve x.2.1], _, ?_, .inr ⟨rfl, x, hxl, hxv, hit2, hm2, Ext.fr hx1 hfr, ?_⟩⟩
    · have hc : (((if left.isEmpty then #[none] else #[]) ++ (left ++ #[]).map some : Array (Option MapEntry)).size) = left.size := by simp [hne]
      have hci : ((if left.isEmpty then #[none] else #[]) ++ (left ++ #[]).map some : Array (Option MapEntry))[i]? = some (some (ent ke ve x)) := by
        simp [hne, hilt, hxe]
      simp only [Instr.next, Sem.run_bind, hgr, Result.andThen_ok, hg w h.heap, hnot, Bool.false_eq_true, if_false, hleft, hold, hnew, hc, hch, hci]
      have hset' := hset
      simp only [List.push_toArray] at hset'
      simp [ent, hset']
    · have hg2 : (getObj r).run P { w1 with heap := w1.heap.setIfInBounds r (.mapIter (some b) c ((vis.map (·.2.2)).toArray.push x.2.2) c) } = .ok (.mapIter (some b) c ((vis.map (·.2.2)).toArray.push x.2.2) c) { w1 with heap := w1.heap.setIfInBounds r (.mapIter (some b) c ((vis.map (·.2.2)).toArray.push x.2.2) c) } := by
        simp [getObj, Sem.run, hr1]
      have hfind : (l.map (ent ke ve)).toArray.find? (·.born == x.2.2) = some (ent ke ve x) := by
        rw [← Array.find?_toList]
        exact find_born h.stamps hxl
      simp only [Instr.entry, Sem.run_bind, hg2, Result.andThen_ok, Array.back?_push, hg _ hm2.heap, bne_self_eq_false, Bool.false_eq_true, if_false, hfind]
      rfl
end
end Go.VC
