/-
  Where append lays its result: in the slice's own block, or in a new one. For every program.
-/
import Derived.Test.YtoljknamnkkgcaaVr
import Derived.ArgAppend
namespace Go.VC
open Go
variable {P : Program}

theorem append_where2 {α : Type} {t e size bytes : Nat} (E : Elem P t e size bytes) {enc : α → List Value} {B : Nat} {w : World} {s : Sl} {l : List α} (h : Own e size enc B w s l) {s2 : Sl} {l2 : List α}
    (h2 : Sli size enc w s2 l2) (hk : ∀ x, (enc x).length = size) (h1 : ∀ x, ∀ v ∈ enc x, v.oneCell' = true) (hlen : (l.length + l2.length) * bytes ≤ 140737488355328) (hlen' : l.length + l2.length ≤ maxLen) (ty : Nat) {s' : Sl} {w' : World}
    (hrun : (Builtin.append_ #[t, t] ty #[.slice s.a s.n s.c, .slice s2.a s2.n s2.c]).run P w = .ok (.slice s'.a s'.n s'.c) w') : (s'.a = s.a ∧ s'.c = s.c) ∨ ∀ a, s'.a = some a → w.heap.size ≤ a.block := by
  by_cases hl : l2 = []
  · subst hl
    rw [appendNil E h.sli.cap h2.len ty w] at hrun
    injection hrun with hv _
    injection hv with ha _ hc
    exact .inl ⟨ha.symm, hc.symm⟩
  obtain ⟨p, hp, hr⟩ := h2.mem hl
  obtain ⟨i, z, hi, hz, hsz, hby, hzs⟩ := E.info
  have hown := h
  obtain ⟨hn, hll, h⟩ := h
  rcases h with ⟨hnil, h0⟩ | ⟨g, cap, cur, hv, hb, hg, hc, hm, hcs, ht⟩
  · have : l = [] := List.eq_nil_of_length_eq_zero h0
    subst this
    simp only [Value.slice.injEq] at hnil
    obtain ⟨s'', w'', hr2, ho2, _⟩ := appendSli E (Own.nil (α := α) e size enc w.heap.size w) h2 hk h1 hlen hlen' (Nat.le_refl _) ty
    rw [hnil.1, hnil.2.1, hnil.2.2] at hrun
    simp only at hr2
    rw [hr2] at hrun
    injection hrun with hv _
    injection hv with ha _ _
    exact .inr fun a haa => (ho2.base (by rw [ha]; exact haa)).1
  · simp only [Value.slice.injEq] at hv
    obtain ⟨ha, hsn, hsc⟩ := hv
    have hbk : Blk w g cur.toList e := by unfold Blk; simpa using hg
    have hfl := flatMap_len hk
    rw [hp, h2.len, ha, hsn, hsc] at hrun
    rcases Nat.lt_or_ge cap (l.length + l2.length) with hgr | hroom
    · obtain ⟨v', w2, hr2, ho2, _⟩ := run_append_arg_grows (P := P) w t ty e i z size bytes E.under hi hz hsz hby hzs E.pos ⟨g, 0, none⟩ l.length cap (l.flatMap enc) (hfl l)
        (fun j u hu => by
          rw [addr_add_plain, Nat.zero_add, hbk.cell]
          rw [← ht, List.getElem?_take] at hu
          split at hu
          · exact hu
          · cases hu) ⟨p.b, p.o, none⟩ l2.length s2.c (l2.flatMap enc) (hfl l2) (fun j u hu => by rw [addr_add_plain]; exact rd_get hr hu) hgr hlen' hlen
      rw [hr2] at hrun
      injection hrun with hv _
      subst hv
      refine .inr fun a haa => ?_
      have := ho2.lt a.block (by simp [Value.ownBlock, haa])
      exact this.1
    · have hr2 := run_append_room_cells (P := P) w t ty e i E.under hi g 0 l.length cap ⟨p.b, p.o, none⟩ l2.length s2.c (l2.flatMap enc) (by rw [hsz]; exact hfl l2) (fun j u hu => by rw [addr_add_plain]; exact rd_get hr hu)
        (fun u hu => by obtain ⟨x, _, hx⟩ := List.mem_flatMap.1 hu; exact h1 x u hx) hroom
        (fun j hj => by
          rw [hbk.cell, hsz]
          have : l.length * size + j < cur.toList.length := by
            rw [hfl] at hj
            have h3 : (l.length + l2.length) * size ≤ cap * size := Nat.mul_le_mul_right _ hroom
            rw [Nat.add_mul] at h3
            simp; omega
          rw [Nat.zero_add, List.getElem?_eq_getElem this]; rfl)
        (fun j hj => frozen_of_row w g _ cur e hg)
      rw [hr2] at hrun
      injection hrun with hv _
      injection hv with hv _ hcc
      exact .inl ⟨by rw [ha, ← hv], by rw [hsc, ← hcc]⟩
theorem append_where {α : Type} {t e size bytes : Nat} (E : Elem P t e size bytes) {enc : α → List Value} {B : Nat} {w : World} {s : Sl} {l : List α} (h : Own e size enc B w s l) {s2 : Sl} {l2 : List α}
    (h2 : Sli size enc w s2 l2) (hk : ∀ x, (enc x).length = size) (h1 : ∀ x, ∀ v ∈ enc x, v.oneCell' = true) (hlen : (l.length + l2.length) * bytes ≤ 140737488355328) (hlen' : l.length + l2.length ≤ maxLen) (ty : Nat) {s' : Sl} {w' : World}
    (hrun : (Builtin.append_ #[t, t] ty #[.slice s.a s.n s.c, .slice s2.a s2.n s2.c]).run P w = .ok (.slice s'.a s'.n s'.c) w') : s'.a = s.a ∨ ∀ a, s'.a = some a → w.heap.size ≤ a.block :=
  (append_where2 E h h2 hk h1 hlen hlen' ty hrun).imp And.left id
end Go.VC
namespace Go.VC
open Go
variable {P : Program}
/-- A new row of one element. -/
theorem Own.one {α : Type} {T size : Nat} {enc : α → List Value} (w : World) (x : α) (hk : (enc x).length = size) : Own T size enc w.heap.size (w.alloc (.cells (enc x).toArray T)) ⟨some ⟨w.heap.size, 0, none⟩, 1, 1⟩ [x] :=
  ⟨rfl, by simp [hk], .inr ⟨w.heap.size, 1, (enc x).toArray, rfl, Nat.le_refl _, by show (w.heap.push _)[w.heap.size]? = _; simp, Nat.le_refl _, by simp [maxLen], by simp [hk], by simp [← hk]⟩⟩
/-- 's[:m]' of an owned slice. -/
theorem Own.trunc {α : Type} {T size : Nat} {enc : α → List Value} {B : Nat} {w : World} {s : Sl} {l : List α} (hk : ∀ x, (enc x).length = size) (h : Own T size enc B w s l) {m : Nat} (hm : m ≤ l.length) : Own T size enc B w ⟨s.a, m, s.c⟩ (l.take m) := by
  obtain ⟨hn, hl, h⟩ := h
  have hfl := flatMap_len hk
  refine ⟨by simp [hm], by rw [hfl], ?_⟩
  rcases h with ⟨h1, h2⟩ | ⟨g, cap, cur, hv, hb, hg, hc, hmx, hcs, ht⟩
  · simp only [Value.slice.injEq] at h1
    have : m = 0 := by omega
    subst this
    exact .inl ⟨by simp [h1.1, h1.2.2], by simp⟩
  · simp only [Value.slice.injEq] at hv
    refine .inr ⟨g, cap, cur, by simp [hv.1, hv.2.2, hm], hb, hg, by simp; omega, hmx, hcs, ?_⟩
    have e : l.flatMap enc = (l.take m).flatMap enc ++ (l.drop m).flatMap enc := by rw [← List.flatMap_append, List.take_append_drop]
    have h3 : (l.take m).length * size ≤ l.length * size := Nat.mul_le_mul_right _ (by simp; omega)
    have : cur.toList.take ((l.take m).length * size) = (cur.toList.take (l.length * size)).take ((l.take m).length * size) := by rw [List.take_take, Nat.min_eq_left h3]
    rw [this, ht, e, List.take_left' (hfl _)]
end Go.VC
