/-
  Texts Vs, Vt, Vw, Vu, Vv, Ca, Ha, Hb, Hc, Vx of this proof, joined.
-/
import Derived.Test.YtoljknamnkkgcaaXr3
import Derived.ArgAppend
import Derived.Lib.SliceRun
import Derived.Sort.Lot0
import Derived.Shelf.Small.Bits
import Derived.Sort.LotA
import Derived.Sort.LotB
import Derived.Sort.LotC
import Derived.Sort.LotD3
/-
  Where append lays its result: in the slice's own block, or in a new one. For every program.
-/
namespace Go.VC
open Go
variable {P : Program}

theorem append_where2 {α : Type} {t e size bytes : Nat} (E : Elem P t e size bytes) {enc : α → List Value} {B : Nat} {w : World} {s : Sl} {l : List α} (h : Own e size enc B w s l) {s2 : Sl} {l2 : List α}
    (h2 : Sli size enc w s2 l2) (hk : ∀ x, (enc x).length = size) (h1 : ∀ x, ∀ v ∈ enc x, v.oneCell' = true) (hlen : (l.length + l2.length) * bytes ≤ 140737488355328) (hlen' : l.length + l2.length ≤ maxLen) (ty : Nat) {s' : Sl} {w' : World}
    (hrun : (Builtin.append_ #[t, t] ty #[.slice s.a s.n s.c, .slice s2.a s2.n s2.c]).run P w = .ok (.slice s'.a s'.n s'.c) w') : (s'.a = s.a ∧ s'.c = s.c) ∨ ∀ a, s'.a = some a → w.heap.size ≤ a.block := by
  by_cases hl : l2 = []
  · subst hl
    rw [appendNil E h.sli.cap h2.len ty w] at hrun
    injection hrun with hv _
    injection hv with ha _ hc
    exact .inl ⟨ha.symm, hc.symm⟩
  obtain ⟨p, hp, hr⟩ := h2.mem hl
  obtain ⟨i, z, hi, hz, hsz, hby, hzs⟩ := E.info
  have hown := h
  obtain ⟨hn, hll, h⟩ := h
  rcases h with ⟨hnil, h0⟩ | ⟨g, cap, cur, hv, hb, hg, hc, hm, hcs, ht⟩
  · have : l = [] := List.eq_nil_of_length_eq_zero h0
    subst this
    simp only [Value.slice.injEq] at hnil
    obtain ⟨s'', w'', hr2, ho2, _⟩ := appendSli E (Own.nil (α := α) e size enc w.heap.size w) h2 hk h1 hlen hlen' (Nat.le_refl _) ty
    rw [hnil.1, hnil.2.1, hnil.2.2] at hrun
    simp only at hr2
    rw [hr2] at hrun
    injection hrun with hv _
    injection hv with ha _ _
    exact .inr fun a haa => (ho2.base (by rw [ha]; exact haa)).1
  · simp only [Value.slice.injEq] at hv
    obtain ⟨ha, hsn, hsc⟩ := hv
    have hbk : Blk w g cur.toList e := by unfold Blk; simpa using hg
    have hfl := flatMap_len hk
    rw [hp, h2.len, ha, hsn, hsc] at hrun
    rcases Nat.lt_or_ge cap (l.length + l2.length) with hgr | hroom
    · obtain ⟨v', w2, hr2, ho2, _⟩ := run_append_arg_grows (P := P) w t ty e i z size bytes E.under hi hz hsz hby hzs E.pos ⟨g, 0, none⟩ l.length cap (l.flatMap enc) (hfl l)
        (fun j u hu => by
          rw [addr_add_plain, Nat.zero_add, hbk.cell]
          rw [← ht, List.getElem?_take] at hu
          split at hu
          · exact hu
          · cases hu) ⟨p.b, p.o, none⟩ l2.length s2.c (l2.flatMap enc) (hfl l2) (fun j u hu => by rw [addr_add_plain]; exact rd_get hr hu) hgr hlen' hlen
      rw [hr2] at hrun
      injection hrun with hv _
      subst hv
      refine .inr fun a haa => ?_
      have := ho2.lt a.block (by simp [Value.ownBlock, haa])
      exact this.1
    · have hr2 := run_append_room_cells (P := P) w t ty e i E.under hi g 0 l.length cap ⟨p.b, p.o, none⟩ l2.length s2.c (l2.flatMap enc) (by rw [hsz]; exact hfl l2) (fun j u hu => by rw [addr_add_plain]; exact rd_get hr hu)
        (fun u hu => by obtain ⟨x, _, hx⟩ := List.mem_flatMap.1 hu; exact h1 x u hx) hroom
        (fun j hj => by
          rw [hbk.cell, hsz]
          have : l.length * size + j < cur.toList.length := by
            rw [hfl] at hj
            have h3 : (l.length + l2.length) * size ≤ cap * size := Nat.mul_le_mul_right _ hroom
            rw [Nat.add_mul] at h3
            simp; omega
          rw [Nat.zero_add, List.getElem?_eq_getElem this]; rfl)
        (fun j hj => frozen_of_row w g _ cur e hg)
      rw [hr2] at hrun
      injection hrun with hv _
      injection hv with hv _ hcc
      exact .inl ⟨by rw [ha, ← hv], by rw [hsc, ← hcc]⟩
theorem append_where {α : Type} {t e size bytes : Nat} (E : Elem P t e size bytes) {enc : α → List Value} {B : Nat} {w : World} {s : Sl} {l : List α} (h : Own e size enc B w s l) {s2 : Sl} {l2 : List α}
    (h2 : Sli size enc w s2 l2) (hk : ∀ x, (enc x).length = size) (h1 : ∀ x, ∀ v ∈ enc x, v.oneCell' = true) (hlen : (l.length + l2.length) * bytes ≤ 140737488355328) (hlen' : l.length + l2.length ≤ maxLen) (ty : Nat) {s' : Sl} {w' : World}
    (hrun : (Builtin.append_ #[t, t] ty #[.slice s.a s.n s.c, .slice s2.a s2.n s2.c]).run P w = .ok (.slice s'.a s'.n s'.c) w') : s'.a = s.a ∨ ∀ a, s'.a = some a → w.heap.size ≤ a.block :=
  (append_where2 E h h2 hk h1 hlen hlen' ty hrun).imp And.left id
end Go.VC
namespace Go.VC
open Go
variable {P : Program}
/-- A new row of one element. -/
theorem Own.one {α : Type} {T size : Nat} {enc : α → List Value} (w : World) (x : α) (hk : (enc x).length = size) : Own T size enc w.heap.size (w.alloc (.cells (enc x).toArray T)) ⟨some ⟨w.heap.size, 0, none⟩, 1, 1⟩ [x] :=
  ⟨rfl, by simp [hk], .inr ⟨w.heap.size, 1, (enc x).toArray, rfl, Nat.le_refl _, by show (w.heap.push _)[w.heap.size]? = _; simp, Nat.le_refl _, by simp [maxLen], by simp [hk], by simp [← hk]⟩⟩
/-- 's[:m]' of an owned slice. -/
theorem Own.trunc {α : Type} {T size : Nat} {enc : α → List Value} {B : Nat} {w : World} {s : Sl} {l : List α} (hk : ∀ x, (enc x).length = size) (h : Own T size enc B w s l) {m : Nat} (hm : m ≤ l.length) : Own T size enc B w ⟨s.a, m, s.c⟩ (l.take m) := by
  obtain ⟨hn, hl, h⟩ := h
  have hfl := flatMap_len hk
  refine ⟨by simp [hm], by rw [hfl], ?_⟩
  rcases h with ⟨h1, h2⟩ | ⟨g, cap, cur, hv, hb, hg, hc, hmx, hcs, ht⟩
  · simp only [Value.slice.injEq] at h1
    have : m = 0 := by omega
    subst this
    exact .inl ⟨by simp [h1.1, h1.2.2], by simp⟩
  · simp only [Value.slice.injEq] at hv
    refine .inr ⟨g, cap, cur, by simp [hv.1, hv.2.2, hm], hb, hg, by simp; omega, hmx, hcs, ?_⟩
    have e : l.flatMap enc = (l.take m).flatMap enc ++ (l.drop m).flatMap enc := by rw [← List.flatMap_append, List.take_append_drop]
    have h3 : (l.take m).length * size ≤ l.length * size := Nat.mul_le_mul_right _ (by simp; omega)
    have : cur.toList.take ((l.take m).length * size) = (cur.toList.take (l.length * size)).take ((l.take m).length * size) := by rw [List.take_take, Nat.min_eq_left h3]
    rw [this, ht, e, List.take_left' (hfl _)]
end Go.VC
/-
  An element deleted from a slice that the call owns. For every program.
-/
namespace Go.VC
open Go
variable {P : Program}
theorem put_eq : ∀ (vs : List Value) (w : World) (b o : Nat), put w b o vs = w.setCells b o vs
  | [], _, _, _ => rfl
  | v :: r, w, b, o => by rw [VC.put, World.setCells, put_eq r]
theorem setR_mid : ∀ {vs mid pre post : List Value}, vs.length = mid.length → setR (pre ++ (mid ++ post)) pre.length vs = pre ++ (vs ++ post)
  | [], [], pre, post, _ => by simp [setR]
  | v :: r, x :: l, pre, post, h => by
    have h' : r.length = l.length := by simpa using h
    have := setR_mid (vs := r) (mid := l) (pre := pre ++ [v]) (post := post) h'
    simp only [List.append_assoc, List.singleton_append, List.length_append, List.length_singleton] at this
    rw [setR]
    rw [show (pre ++ (x :: l ++ post)).set pre.length v = pre ++ v :: (l ++ post) from by simp]
    exact this
theorem delete_run {t e bytes : Nat} (E : Elem P t e 1 bytes) (hz : ∀ w, (zeroValue e).run P w = .ok (.int .i64 0) w) {B : Nat} {w : World} {s : Sl} {l : List Int} (ho : Own e 1 eI B w s l) {i : Nat} (hi : i < l.length) (ty ty' : Nat) :
    ∃ (s2 : Sl) (w2 : World), (Builtin.append_ #[t, t] ty #[.slice s.a i s.c, .slice (subA s.a s.c (i + 1) 1) (s.n - (i + 1)) (s.c - (i + 1))]).run P w = .ok (.slice s2.a s2.n s2.c) w2 ∧ s2.a = s.a ∧ s2.n = l.length - 1 ∧ s2.c = s.c ∧
      ∃ w3, (Builtin.clear_ #[t] ty' #[.slice (subA s2.a s2.c s2.n 1) (s.n - s2.n) (s2.c - s2.n)]).run P w2 = .ok (.tuple #[]) w3 ∧ Own e 1 eI B w3 s2 (l.eraseIdx i) ∧ Fr (fun b => ∃ a, s.a = some a ∧ a.block = b) w w3 := by
  obtain ⟨ii, z, hi', hz', hsz, hby, hzs⟩ := E.info
  have hsl := ho.sli
  obtain ⟨hn, hll, h⟩ := ho
  rcases h with ⟨_, h0⟩ | ⟨g, cap, cur, hv, hb, hg, hc, hm, hcs, ht⟩
  · omega
  simp only [Value.slice.injEq] at hv
  obtain ⟨ha, hsn, hsc⟩ := hv
  have hbk : Blk w g cur.toList e := by unfold Blk; simpa using hg
  rw [eI_flat] at ht
  have hcur : cur.toList = l.map (Value.int .i64) ++ cur.toList.drop l.length := by
    rw [Nat.mul_one] at ht
    rw [← ht, List.take_append_drop]
  generalize hrest : cur.toList.drop l.length = rest at hcur
  have hlen : cur.toList.length = cap := by simp [hcs]
  have hm' : (l.drop (i + 1)).length = l.length - (i + 1) := by simp
  -- the append
  have happ : (Builtin.append_ #[t, t] ty #[.slice s.a i s.c, .slice (subA s.a s.c (i + 1) 1) (s.n - (i + 1)) (s.c - (i + 1))]).run P w = .ok (.slice s.a (l.length - 1) s.c) (put w g i ((l.drop (i + 1)).map (Value.int .i64))) := by
    by_cases hlast : i + 1 = l.length
    · have := appendNil E (s := ⟨s.a, i, s.c⟩) (s2 := ⟨subA s.a s.c (i + 1) 1, s.n - (i + 1), s.c - (i + 1)⟩) (by simp only; omega) (by simp only; omega) ty w
      simp only at this
      rw [this, show l.drop (i + 1) = [] from List.drop_eq_nil_of_le (by omega), show l.length - 1 = i from by omega]
      rfl
    · have hsub : subA s.a s.c (i + 1) 1 = some ⟨g, i + 1, none⟩ := by
        unfold subA
        rw [if_neg (by omega), ha, Option.map_some, addr_add_plain]; simp
      rw [hsub, ha, hsc, put_eq]
      have hr := run_append_room_cells (P := P) w t ty e ii E.under hi' g 0 i cap ⟨g, i + 1, none⟩ (s.n - (i + 1)) (cap - (i + 1)) ((l.drop (i + 1)).map (Value.int .i64)) (by rw [hsz]; simp; omega)
        (fun j u hu => by
          rw [addr_add_plain, hbk.cell, hcur]
          have hj : j < l.length - (i + 1) := by
            rcases Nat.lt_or_ge j (l.length - (i + 1)) with h | h
            · exact h
            · rw [List.getElem?_eq_none (by simp; omega)] at hu; cases hu
          rw [List.getElem?_append_left (by simp; omega)]
          rw [List.getElem?_map, List.getElem?_drop] at hu
          rw [List.getElem?_map]; exact hu)
        (fun u hu => by obtain ⟨x, _, rfl⟩ := List.mem_map.1 hu; rfl) (by omega)
        (fun j hj => by
          rw [hbk.cell, hsz]
          have : 0 + i * 1 + j < cur.toList.length := by simp at hj; omega
          rw [List.getElem?_eq_getElem this]; rfl)
        (fun j hj => frozen_of_row w g _ cur e hg)
      rw [hr, hsz]
      rw [show i + (s.n - (i + 1)) = l.length - 1 from by omega, show 0 + i * 1 = i from by omega]
  have hb2 := hbk.put (o := i) (vs := (l.drop (i + 1)).map (Value.int .i64))
  have hY : (l.drop i).map (Value.int .i64) = ((l.drop i).map (Value.int .i64)).take (l.length - (i + 1)) ++ ((l.drop i).map (Value.int .i64)).drop (l.length - (i + 1)) := (List.take_append_drop ..).symm
  have hset : setR cur.toList i ((l.drop (i + 1)).map (Value.int .i64)) = (l.take i).map (Value.int .i64) ++ ((l.drop (i + 1)).map (Value.int .i64) ++ (((l.drop i).map (Value.int .i64)).drop (l.length - (i + 1)) ++ rest)) := by
    have := setR_mid (vs := (l.drop (i + 1)).map (Value.int .i64)) (mid := ((l.drop i).map (Value.int .i64)).take (l.length - (i + 1))) (pre := (l.take i).map (Value.int .i64)) (post := ((l.drop i).map (Value.int .i64)).drop (l.length - (i + 1)) ++ rest) (by simp; omega)
    rw [show ((l.take i).map (Value.int .i64)).length = i from by simp; omega] at this
    rw [← this]
    congr 1
    rw [hcur, ← List.append_assoc (((l.drop i).map (Value.int .i64)).take (l.length - (i + 1))), ← hY, ← List.append_assoc, ← List.map_append, List.take_append_drop]
  rw [hset] at hb2
  refine ⟨⟨s.a, l.length - 1, s.c⟩, _, happ, rfl, rfl, rfl, ?_⟩
  generalize hw2 : put w g i ((l.drop (i + 1)).map (Value.int .i64)) = w2 at hb2
  have hf2 : Fr (fun b => b = g) w w2 := by rw [← hw2]; exact Fr.put ..
  have hsub2 : subA s.a s.c (l.length - 1) 1 = some ⟨g, l.length - 1, none⟩ := by
    unfold subA
    rw [if_neg (by omega), ha, Option.map_some, addr_add_plain]; simp
  have hcells : ∀ j, j < 1 → (w2.cell? ⟨g, l.length - 1 + j, none⟩).isSome = true := fun j hj => by
    rw [hb2.cell, List.getElem?_eq_getElem (by simp; omega)]; rfl
  have hclr := Lib.run_clear_slice (P := P) w2 t e ty' (.int .i64 0) E.under hz rfl rfl g (l.length - 1) 1 (s.c - (l.length - 1)) (by omega) hcells (fun j hj => frozen_of_row w2 g _ _ e hb2)
  refine ⟨w2.setCells g (l.length - 1) (List.replicate 1 (.int .i64 0)), ?_, ?_, ?_⟩
  · simp only
    rw [hsub2, show s.n - (l.length - 1) = 1 from by omega]; exact hclr
  · rw [← put_eq]
    have hb3 := hb2.put (o := l.length - 1) (vs := List.replicate 1 (Value.int .i64 0))
    have hset3 := setR_mid (vs := List.replicate 1 (Value.int .i64 0)) (mid := ((l.drop i).map (Value.int .i64)).drop (l.length - (i + 1))) (pre := (l.take i).map (Value.int .i64) ++ (l.drop (i + 1)).map (Value.int .i64)) (post := rest) (by simp; omega)
    rw [show ((l.take i).map (Value.int .i64) ++ (l.drop (i + 1)).map (Value.int .i64)).length = l.length - 1 from by simp; omega, List.append_assoc] at hset3
    rw [hset3] at hb3
    have hel : (l.eraseIdx i).length = l.length - 1 := by rw [List.length_eraseIdx, if_pos hi]
    refine ⟨hel.symm, by rw [eI_flat]; simp, .inr ⟨g, cap, ((l.take i).map (Value.int .i64) ++ (l.drop (i + 1)).map (Value.int .i64) ++ (List.replicate 1 (Value.int .i64 0) ++ rest)).toArray, ?_, hb, hb3, by omega, hm, ?_, ?_⟩⟩
    · simp only [ha, hsc, hel]
    · have : rest.length = cap - l.length := by rw [← hrest, List.length_drop, hlen]
      simp [this]; omega
    · rw [eI_flat, hel, List.eraseIdx_eq_take_drop_succ, List.map_append, Nat.mul_one]
      simp only
      rw [List.take_left' (by simp; omega)]
  · rw [← put_eq]
    exact (hf2.trans (Fr.put _ _ _ _) fun _ _ h => h).mono fun b _ hb => ⟨_, ha, hb.symm⟩
end Go.VC
namespace Go.VC
open Go
variable {P : Program}
theorem fill_list {α : Type} {k : Nat} {enc : α → List Value} {val : α → Value} (hk : ∀ x, (enc x).length = k) (hv : ∀ x, cellsV (val x) = enc x) : ∀ (l pre : List α) (post : List Value), post.length = l.length * k →
    Instr.fill (fun i => some (i * k, k)) ((pre.flatMap enc) ++ post).toArray ((l.zipIdx pre.length).map fun p => (p.2, val p.1)) = some ((pre ++ l).flatMap enc).toArray
  | [], pre, post, h => by
    have : post = [] := List.eq_nil_of_length_eq_zero (by simpa using h)
    subst this
    simp [Instr.fill]
  | x :: r, pre, post, h => by
    have hc : (val x).cells.toList = enc x := by rw [← hv x]; exact cellsV_eq _
    have hcs : (val x).cells.size = k := by rw [← hk x, ← hc]; simp
    have hf := fold_setR' (pre.length * k) (val x).cells ((pre.flatMap enc) ++ post).toArray
    have hpl := flatMap_len hk pre
    have hsplit : post = post.take k ++ post.drop k := (List.take_append_drop ..).symm
    have hlen : k ≤ post.length := by rw [h, List.length_cons, Nat.add_mul]; omega
    have hset : setR ((pre.flatMap enc) ++ post) (pre.length * k) (val x).cells.toList = ((pre ++ [x]).flatMap enc) ++ post.drop k := by
      have := setR_mid (vs := enc x) (mid := post.take k) (pre := pre.flatMap enc) (post := post.drop k) (by simp [hk, hlen])
      rw [hpl] at this
      rw [hc]
      rw [show pre.flatMap enc ++ post = pre.flatMap enc ++ (post.take k ++ post.drop k) from by rw [← hsplit], this]
      simp
    rw [List.zipIdx_cons, List.map_cons, Instr.fill]
    simp only
    rw [if_neg (by simp [hcs, hpl]; omega)]
    rw [hf]
    simp only at hset ⊢
    rw [hset]
    have := fill_list hk hv r (pre ++ [x]) (post.drop k) (by rw [List.length_drop, h, List.length_cons, Nat.add_mul]; omega)
    simp only [List.length_append, List.length_singleton] at this
    rw [this]; simp
/-- A slice literal. -/
theorem buildList_run {α : Type} {t e size bytes : Nat} (E : Elem P t e size bytes) {enc : α → List Value} {val : α → Value} (hk : ∀ x, (enc x).length = size) (hv : ∀ x, cellsV (val x) = enc x) (l : List α) (hl : l ≠ []) (hbig : l.length * size ≤ 16777216) (w : World) :
    (Instr.buildSlice t l.length ((l.zipIdx).map fun p => (p.2, val p.1)).toArray).run P w = .ok (.slice (some ⟨w.heap.size, 0, none⟩) l.length l.length) (w.alloc (.cells (l.flatMap enc).toArray e)) := by
  obtain ⟨i, z, hi, hz, hsz, _, hzs⟩ := E.info
  have hpos := E.pos
  have h0 : 0 < l.length := List.length_pos_iff.2 hl
  have hf := fill_list (k := size) hk hv l [] (((Array.range (l.length * size)).map (z.cells[· % z.cells.size]!)).toList) (by simp)
  simp only [List.flatMap_nil, List.nil_append, List.length_nil, Array.toArray_toList] at hf
  have hsr : (sizeOf e).run P w = .ok size w := by rw [size_run hi, hsz]
  have hzr : (zeroValue e).run P w = .ok z w := by simp [zeroValue, typeInfo, hi, hz]
  simp only [Instr.buildSlice, Sem.run_bind, under_run E.under, Result.andThen_ok, hsr]
  rw [if_neg (by omega)]
  rw [if_neg (Nat.mul_ne_zero (by omega) (by omega))]
  simp only [Sem.run_bind, hzr, Result.andThen_ok, Sem.run_pure, hf, newRow, run_newObj]
  rfl
theorem sli_new {α : Type} {size : Nat} {enc : α → List Value} (w : World) (l : List α) (T : TypeId) : Sli size enc (w.alloc (.cells (l.flatMap enc).toArray T)) ⟨some ⟨w.heap.size, 0, none⟩, l.length, l.length⟩ l :=
  ⟨rfl, Nat.le_refl _, fun _ => ⟨⟨w.heap.size, 0⟩, rfl, (Blk.alloc w _ T).rd⟩⟩
end Go.VC
namespace Go.VC
open Go
variable {P : Program}
/-- Behind an append the old slice still reads as it did. -/
theorem append_old {α : Type} {t e size bytes : Nat} (E : Elem P t e size bytes) {enc : α → List Value} {B : Nat} {w : World} {s : Sl} {l : List α} (h : Own e size enc B w s l) {s2 : Sl} {l2 : List α}
    (h2 : Sli size enc w s2 l2) (hk : ∀ x, (enc x).length = size) (h1 : ∀ x, ∀ v ∈ enc x, v.oneCell' = true) (hlen : (l.length + l2.length) * bytes ≤ 140737488355328) (hlen' : l.length + l2.length ≤ maxLen) (ty : Nat) {s' : Sl} {w' : World}
    (hrun : (Builtin.append_ #[t, t] ty #[.slice s.a s.n s.c, .slice s2.a s2.n s2.c]).run P w = .ok (.slice s'.a s'.n s'.c) w') : Own e size enc B w' s l := by
  by_cases hl : l2 = []
  · subst hl
    rw [appendNil E h.sli.cap h2.len ty w] at hrun
    injection hrun with _ hw
    rw [← hw]; exact h
  obtain ⟨p, hp, hr⟩ := h2.mem hl
  obtain ⟨i, z, hi, hz, hsz, hby, hzs⟩ := E.info
  have hown := h
  obtain ⟨hn, hll, h⟩ := h
  rcases h with ⟨hnil, h0⟩ | ⟨g, cap, cur, hv, hb, hg, hc, hm, hcs, ht⟩
  · exact ⟨hn, hll, .inl ⟨hnil, h0⟩⟩
  · simp only [Value.slice.injEq] at hv
    obtain ⟨ha, hsn, hsc⟩ := hv
    have hbk : Blk w g cur.toList e := by unfold Blk; simpa using hg
    have hfl := flatMap_len hk
    rw [hp, h2.len, ha, hsn, hsc] at hrun
    rcases Nat.lt_or_ge cap (l.length + l2.length) with hgr | hroom
    · obtain ⟨v', w2, hr2, _, hg2⟩ := run_append_arg_grows (P := P) w t ty e i z size bytes E.under hi hz hsz hby hzs E.pos ⟨g, 0, none⟩ l.length cap (l.flatMap enc) (hfl l)
        (fun j u hu => by
          rw [addr_add_plain, Nat.zero_add, hbk.cell]
          rw [← ht, List.getElem?_take] at hu
          split at hu
          · exact hu
          · cases hu) ⟨p.b, p.o, none⟩ l2.length s2.c (l2.flatMap enc) (hfl l2) (fun j u hu => by rw [addr_add_plain]; exact rd_get hr hu) hgr hlen' hlen
      rw [hr2] at hrun
      injection hrun with _ hw
      subst hw
      exact hown.ext ((Fr.grown hg2).mono fun b _ hb => by cases hb)
    · have hr2 := run_append_room_cells (P := P) w t ty e i E.under hi g 0 l.length cap ⟨p.b, p.o, none⟩ l2.length s2.c (l2.flatMap enc) (by rw [hsz]; exact hfl l2) (fun j u hu => by rw [addr_add_plain]; exact rd_get hr hu)
        (fun u hu => by obtain ⟨x, _, hx⟩ := List.mem_flatMap.1 hu; exact h1 x u hx) hroom
        (fun j hj => by
          rw [hbk.cell, hsz]
          have : l.length * size + j < cur.toList.length := by
            rw [hfl] at hj
            have h3 : (l.length + l2.length) * size ≤ cap * size := Nat.mul_le_mul_right _ hroom
            rw [Nat.add_mul] at h3
            simp; omega
          rw [Nat.zero_add, List.getElem?_eq_getElem this]; rfl)
        (fun j hj => frozen_of_row w g _ cur e hg)
      rw [hr2] at hrun
      injection hrun with _ hw
      rw [hsz, Nat.zero_add] at hw
      have hb2 := hbk.put (o := l.length * size) (vs := l2.flatMap enc)
      rw [put_eq, hw] at hb2
      have hsplit : cur.toList = cur.toList.take (l.length * size) ++ cur.toList.drop (l.length * size) := (List.take_append_drop ..).symm
      have hlt : (cur.toList.take (l.length * size)).length = l.length * size := by
        have : l.length * size ≤ cap * size := Nat.mul_le_mul_right _ hc
        simp; omega
      have hsetlen : ∀ (vs cs : List Value) (o : Nat), (setR cs o vs).length = cs.length := by
        intro vs
        induction vs with
        | nil => intro cs o; rfl
        | cons v r ih => intro cs o; rw [setR, ih]; simp
      have hsettake : ∀ (vs cs : List Value) (o k : Nat), k ≤ o → (setR cs o vs).take k = cs.take k := by
        intro vs
        induction vs with
        | nil => intro cs o k _; rfl
        | cons v r ih =>
          intro cs o k hk
          rw [setR, ih _ _ _ (by omega)]
          rw [List.take_set_of_le (by omega)]
      refine ⟨hn, hll, .inr ⟨g, cap, (setR cur.toList (l.length * size) (l2.flatMap enc)).toArray, by rw [ha, hsn, hsc], hb, hb2, hc, hm, ?_, ?_⟩⟩
      · have := hsetlen (l2.flatMap enc) cur.toList (l.length * size)
        simp [this, hcs]
      · simp only
        rw [hsettake _ _ _ _ (Nat.le_refl _)]; exact ht
end Go.VC
namespace Go.VC
open Go
variable {P : Program}
/-- 's[i] = v' of an owned slice, whatever its elements. -/
theorem Own.storeN {α : Type} {T k B : Nat} {enc : α → List Value} (hk : ∀ x, (enc x).length = k) (h1 : ∀ x, ∀ v ∈ enc x, v.oneCell' = true) {w : World} {s : Sl} {l : List α} (h : Own T k enc B w s l) {i : Nat} (hi : i < l.length) (x : α) :
    ∃ p : Pt, s.a = some ⟨p.b, p.o, none⟩ ∧ 0 ≤ (i : Int) ∧ (i : Int) < ((s.n : Nat) : Int) ∧ StoreOk w p.b (p.o + Int.toNat (i : Int) * k) (enc x) k ∧
      Own T k enc B (put w p.b (p.o + Int.toNat (i : Int) * k) (enc x)) s (l.set i x) ∧ Fr (fun b => ∃ a, s.a = some a ∧ a.block = b) w (put w p.b (p.o + Int.toNat (i : Int) * k) (enc x)) := by
  obtain ⟨hn, hl, h⟩ := h
  have hfl := flatMap_len hk
  rcases h with ⟨_, h2⟩ | ⟨g, cap, cur, hv, hb, hg, hc, hm, hsz, ht⟩
  · omega
  · simp only [Value.slice.injEq] at hv
    obtain ⟨ha, h2, h3⟩ := hv
    have hb' : Blk w g cur.toList T := by unfold Blk; simpa using hg
    have e : (⟨g, 0⟩ : Pt).o + Int.toNat (i : Int) * k = i * k := by simp
    have hcur : cur.toList = l.flatMap enc ++ cur.toList.drop (l.length * k) := by rw [← ht, List.take_append_drop]
    generalize hrest : cur.toList.drop (l.length * k) = rest at hcur
    have hsplit : l.flatMap enc = (l.take i).flatMap enc ++ (enc l[i] ++ (l.drop (i + 1)).flatMap enc) := by
      have e1 : l = l.take i ++ l[i] :: l.drop (i + 1) := by rw [← List.drop_eq_getElem_cons hi, List.take_append_drop]
      have e2 : (l.take i ++ l[i] :: l.drop (i + 1)).flatMap enc = (l.take i).flatMap enc ++ (enc l[i] ++ (l.drop (i + 1)).flatMap enc) := by rw [List.flatMap_append, List.flatMap_cons]
      rw [← e2, ← e1]
    have hnew : (l.set i x).flatMap enc = (l.take i).flatMap enc ++ (enc x ++ (l.drop (i + 1)).flatMap enc) := by
      rw [List.set_eq_take_append_cons_drop, if_pos hi, List.flatMap_append, List.flatMap_cons]
    have hil : ((l.take i).flatMap enc).length = i * k := by rw [hfl, List.length_take, Nat.min_eq_left (by omega)]
    have hset : setR cur.toList (i * k) (enc x) = (l.set i x).flatMap enc ++ rest := by
      have := setR_mid (vs := enc x) (mid := enc l[i]) (pre := (l.take i).flatMap enc) (post := (l.drop (i + 1)).flatMap enc ++ rest) (by rw [hk, hk])
      rw [hil] at this
      rw [hnew]
      simp only [List.append_assoc] at this ⊢
      rw [← this]
      congr 1
      rw [hcur, hsplit]
      simp only [List.append_assoc]
    have hbnd : i * k + k ≤ cur.toList.length := by
      have h4 : (i + 1) * k ≤ cap * k := Nat.mul_le_mul_right _ (by omega)
      rw [Nat.add_mul, Nat.one_mul] at h4
      simp [hsz]; omega
    refine ⟨⟨g, 0⟩, ha, by omega, by omega, ?_, ?_, ?_⟩
    · rw [e]; exact hb'.storeOk (hk x) (h1 x) hbnd
    · rw [e]
      have hput := hb'.put (o := i * k) (vs := enc x)
      rw [hset] at hput
      refine ⟨by simp [hn], by rw [hfl], .inr ⟨g, cap, _, by rw [ha, h2, h3]; simp, hb, hput, by simpa using hc, hm, ?_, ?_⟩⟩
      · have h5 : l.length * k ≤ cap * k := Nat.mul_le_mul_right _ hc
        have h6 : rest.length = cap * k - l.length * k := by rw [← hrest, List.length_drop]; simp [hsz]
        simp [hfl, h6]; omega
      · simp only
        rw [List.take_left' (hfl _)]
    · exact (Fr.put _ _ _ _).mono fun b _ hb => ⟨_, ha, hb.symm⟩
end Go.VC
/-
  Sorting in place: an array that an owned slice holds, its swaps, and comparisons by a closure. For every program.
-/
set_option linter.unusedSectionVars false
namespace Go.VC
open Go
variable {P : Program} {α : Type} [Inhabited α] {T k : Nat} {enc : α → List Value} {Ok : α → Prop} {B : Nat} {w0 w : World} {s : Sl} {d : Array α}

/-- The blocks of a slice. -/
abbrev BlS (s : Sl) (b : Nat) : Prop := ∃ a, s.a = some a ∧ a.block = b
/-- An owned slice that reads as an array; all else is as in the first world. -/
structure Sd {α : Type} (T k : Nat) (enc : α → List Value) (Ok : α → Prop) (B : Nat) (w0 w : World) (s : Sl) (d : Array α) : Prop where
  own : Own T k enc B w s d.toList
  fr : Fr (BlS s) w0 w
  ok : ∀ x ∈ d.toList, Ok x
  sz : d.size ≤ 1000000
/-- A closure that compares. -/
structure Cf {α : Type} (P : Program) (enc : α → List Value) (Ok : α → Prop) (w0 : World) (s : Sl) (f : Nat) (c : List Value) (lt : α → α → Bool) : Prop where
  ca : callable P f = true
  run : ∀ (w : World) (x y : α), Fr (BlS s) w0 w → Ok x → Ok y → Calls P f (([.agg (enc x).toArray, .agg (enc y).toArray] : List Value) ++ c).toArray w fun e w' => ∃ v : Int, e = .returned (.int .i64 v) ∧ decide (v < 0) = lt x y ∧ Ext w w'
theorem Sd.len (h : Sd T k enc Ok B w0 w s d) : s.n = d.size := by have := h.own.1; simpa using this
theorem Sd.ext {w' : World} (h : Sd T k enc Ok B w0 w s d) (x : Ext w w') : Sd T k enc Ok B w0 w' s d := ⟨h.own.ext x, h.fr.ext x, h.ok, h.sz⟩
/-- What is newer than the first world may change. -/
theorem Sd.newer {M : Nat → Prop} {w' : World} (h : Sd T k enc Ok B w0 w s d) (f : Fr M w w') (h1 : ∀ b, M b → w0.heap.size ≤ b) (h2 : ∀ a, s.a = some a → ¬ M a.block) : Sd T k enc Ok B w0 w' s d :=
  ⟨h.own.fr f h2, h.fr.trans f fun b hb hM => absurd (h1 b hM) (by omega), h.ok, h.sz⟩
theorem Sd.get {i : Nat} (hi : i < d.size) : d[i]! = d.toList[i]'(by simpa using hi) := by
  rw [getElem!_pos d i hi]; simp
theorem Sd.okAt (h : Sd T k enc Ok B w0 w s d) {i : Nat} (hi : i < d.size) : Ok d[i]! := by
  rw [Sd.get hi]; exact h.ok _ (List.getElem_mem ..)
theorem Sd.at (hk : ∀ x, (enc x).length = k) (h : Sd T k enc Ok B w0 w s d) {i : Nat} {x : Int} (hx : x = (i : Int)) (hi : i < d.size) :
    ∃ p : Pt, s.a = some ⟨p.b, p.o, none⟩ ∧ 0 ≤ x ∧ x < ((s.n : Nat) : Int) ∧ rd w p.b (p.o + Int.toNat x * k) (enc d[i]!) := by
  subst hx
  obtain ⟨p, hp, h1, h2, hr⟩ := Sli.at hk h.own.sli (i := i) (by simpa using hi)
  exact ⟨p, hp, h1, h2, by rw [Sd.get hi]; simpa using hr⟩
theorem Sd.swap (hk : ∀ x, (enc x).length = k) (h1 : ∀ x, ∀ v ∈ enc x, v.oneCell' = true) (h : Sd T k enc Ok B w0 w s d) {i j : Nat} {x y : Int} (hx : x = (i : Int)) (hy : y = (j : Int)) (hi : i < d.size) (hj : j < d.size) :
    ∃ p : Pt, s.a = some ⟨p.b, p.o, none⟩ ∧ 0 ≤ x ∧ x < ((s.n : Nat) : Int) ∧ StoreOk w p.b (p.o + Int.toNat x * k) (enc d[j]!) k ∧
      ∃ q : Pt, s.a = some ⟨q.b, q.o, none⟩ ∧ 0 ≤ y ∧ y < ((s.n : Nat) : Int) ∧ StoreOk (put w p.b (p.o + Int.toNat x * k) (enc d[j]!)) q.b (q.o + Int.toNat y * k) (enc d[i]!) k ∧
        Sd T k enc Ok B w0 (put (put w p.b (p.o + Int.toNat x * k) (enc d[j]!)) q.b (q.o + Int.toNat y * k) (enc d[i]!)) s (Sort.swp d i j) := by
  subst hx hy
  obtain ⟨p, hp, a1, a2, st1, o1, f1⟩ := h.own.storeN hk h1 (i := i) (by simpa using hi) d[j]!
  obtain ⟨q, hq, b1, b2, st2, o2, f2⟩ := o1.storeN hk h1 (i := j) (by simpa using hj) d[i]!
  refine ⟨p, hp, a1, a2, st1, q, hq, b1, b2, st2, ?_, ?_, ?_, ?_⟩
  · have e : (Sort.swp d i j).toList = (d.toList.set i d[j]!).set j d[i]! := by simp [Sort.swp]
    rw [e]; exact o2
  · exact (h.fr.trans f1 fun _ _ h => h).trans f2 fun _ _ h => h
  · intro x hx
    have e : (Sort.swp d i j).toList = (d.toList.set i d[j]!).set j d[i]! := by simp [Sort.swp]
    rw [e] at hx
    rcases List.mem_or_eq_of_mem_set hx with hx | rfl
    · rcases List.mem_or_eq_of_mem_set hx with hx | rfl
      · exact h.ok x hx
      · exact h.okAt hj
    · exact h.okAt hi
  · simpa [Sort.swp] using h.sz
theorem Sd.permIn {d' : Array α} {a b : Nat} (h : Sort.PermIn a b d d') : d'.size = d.size := h.1
end Go.VC
/-
  Slices whose room lies in a block of their own, from some place on; blocks whose cells are a function; an entry deleted from a map; the nil map. For every program.
-/
namespace Go.VC
open Go
variable {P : Program}

/-! ### a slice whose whole room lies in one block -/
/-- The slice reads as l, and all of its room lies in a block of type T, from block B on. -/
structure Tl {α : Type} (T size : Nat) (enc : α → List Value) (B : Nat) (w : World) (s : Sl) (l : List α) : Prop where
  len : s.n = l.length
  cap : s.n ≤ s.c
  room : 0 < s.c → ∃ (g o : Nat) (cur : List Value), s.a = some ⟨g, o, none⟩ ∧ B ≤ g ∧ Blk w g cur T ∧ o + s.c * size ≤ cur.length ∧ (cur.drop o).take (l.length * size) = l.flatMap enc
theorem Tl.nil {α : Type} (T size : Nat) (enc : α → List Value) (B : Nat) (w : World) (a : Option Addr) : Tl T size enc B w ⟨a, 0, 0⟩ ([] : List α) := ⟨rfl, Nat.le_refl _, fun h => absurd h (Nat.lt_irrefl _)⟩
theorem Tl.sli {α : Type} {T size B : Nat} {enc : α → List Value} {w : World} {s : Sl} {l : List α} (h : Tl T size enc B w s l) : Sli size enc w s l := by
  refine ⟨h.len, h.cap, fun hl => ?_⟩
  have h0 : 0 < l.length := List.length_pos_iff.2 hl
  obtain ⟨g, o, cur, ha, _, hb, _, ht⟩ := h.room (by have := h.len; have := h.cap; omega)
  refine ⟨⟨g, o⟩, ha, hb.rd_drop fun i v hv => ?_⟩
  rw [← ht, List.getElem?_take] at hv
  split at hv
  · rwa [List.getElem?_drop] at hv
  · cases hv
/-- The blocks of a slice that has room. -/
def Rm (s : Sl) (b : Nat) : Prop := 0 < s.c ∧ ∃ a, s.a = some a ∧ a.block = b
theorem Tl.fr {α : Type} {T size B : Nat} {enc : α → List Value} {M : Nat → Prop} {w w' : World} {s : Sl} {l : List α} (h : Tl T size enc B w s l) (f : Fr M w w') (hn : ∀ b, Rm s b → ¬ M b) : Tl T size enc B w' s l := by
  refine ⟨h.len, h.cap, fun hc => ?_⟩
  obtain ⟨g, o, cur, ha, hB, hb, r⟩ := h.room hc
  exact ⟨g, o, cur, ha, hB, hb.fr f (hn g ⟨hc, _, ha, rfl⟩), r⟩
theorem Tl.ext {α : Type} {T size B : Nat} {enc : α → List Value} {w w' : World} {s : Sl} {l : List α} (h : Tl T size enc B w s l) (f : Ext w w') : Tl T size enc B w' s l := h.fr f fun _ _ h => h
theorem Tl.base {α : Type} {T size B : Nat} {enc : α → List Value} {w : World} {s : Sl} {l : List α} (h : Tl T size enc B w s l) {b : Nat} (hb : Rm s b) : B ≤ b ∧ b < w.heap.size ∧ ∃ cur, Blk w b cur T := by
  obtain ⟨hc, a, ha, rfl⟩ := hb
  obtain ⟨g, o, cur, ha', hB, hk, _⟩ := h.room hc
  rw [ha] at ha'; cases ha'
  exact ⟨hB, hk.lt, cur, hk⟩
theorem Tl.mono {α : Type} {T size B B' : Nat} {enc : α → List Value} {w : World} {s : Sl} {l : List α} (h : Tl T size enc B w s l) (hB : B' ≤ B) : Tl T size enc B' w s l := by
  refine ⟨h.len, h.cap, fun hc => ?_⟩
  obtain ⟨g, o, cur, ha, hb, r⟩ := h.room hc
  exact ⟨g, o, cur, ha, Nat.le_trans hB hb, r⟩
theorem Own.tl {α : Type} {T size B : Nat} {enc : α → List Value} {w : World} {s : Sl} {l : List α} (h : Own T size enc B w s l) : Tl T size enc B w s l := by
  obtain ⟨hn, hl, h⟩ := h
  rcases h with ⟨h1, h2⟩ | ⟨g, cap, cur, hv, hb, hg, hc, hm, hcs, ht⟩
  · simp only [Value.slice.injEq] at h1
    refine ⟨hn, by omega, fun h => by omega⟩
  · simp only [Value.slice.injEq] at hv
    obtain ⟨ha, h2, h3⟩ := hv
    refine ⟨hn, by omega, fun _ => ⟨g, 0, cur.toList, ha, hb, by unfold Blk; simpa using hg, by rw [h3]; simp [hcs], by simpa using ht⟩⟩
/-- 's[m:]' -/
theorem Tl.drop {α : Type} {T size B : Nat} {enc : α → List Value} (hk : ∀ x, (enc x).length = size) {w : World} {s : Sl} {l : List α} (h : Tl T size enc B w s l) {m : Nat} (hm : m ≤ l.length) : Tl T size enc B w ⟨subA s.a s.c m size, s.n - m, s.c - m⟩ (l.drop m) := by
  have h1 := h.len
  have h2 := h.cap
  refine ⟨by simp [h1], by simp only; omega, fun hc => ?_⟩
  simp only at hc
  obtain ⟨g, o, cur, ha, hB, hb, hr, ht⟩ := h.room (by omega)
  refine ⟨g, o + m * size, cur, ?_, hB, hb, ?_, ?_⟩
  · simp only [subA]
    rw [if_neg (by omega), ha, Option.map_some, addr_add_plain]
  · simp only
    rw [Nat.add_assoc, ← Nat.add_mul, show m + (s.c - m) = s.c from by omega]; exact hr
  · have e : l.flatMap enc = (l.take m).flatMap enc ++ (l.drop m).flatMap enc := by rw [← List.flatMap_append, List.take_append_drop]
    have hle : ((l.take m).flatMap enc).length = m * size := by rw [flatMap_len hk, List.length_take, Nat.min_eq_left hm]
    rw [e] at ht
    have h3 : (cur.drop (o + m * size)) = (cur.drop o).drop (m * size) := by rw [List.drop_drop]
    rw [h3, List.length_drop]
    have h4 := congrArg (List.drop (m * size)) ht
    rw [List.drop_take, List.drop_left' hle] at h4
    rw [← h4, Nat.sub_mul]
theorem Rm.drop {s : Sl} {m size b : Nat} (hm : m ≤ s.c) (h : Rm ⟨subA s.a s.c m size, s.n - m, s.c - m⟩ b) : Rm s b := by
  obtain ⟨hc, a, ha, hb⟩ := h
  simp only at hc
  unfold subA at ha
  simp only at ha
  rw [if_neg (by omega)] at ha
  cases hs : s.a with
  | none => rw [hs] at ha; cases ha
  | some a0 =>
    rw [hs] at ha
    simp only [Option.map_some, Option.some.injEq] at ha
    subst ha
    refine ⟨by omega, a0, hs, ?_⟩
    rw [← hb]
    unfold Addr.add; split <;> rfl
/-- 'append(s, x)' -/
theorem Tl.append {α : Type} {t e size bytes : Nat} (E : Elem P t e size bytes) {enc : α → List Value} {B : Nat} {w : World} {s : Sl} {l : List α} (h : Tl e size enc B w s l) {x : α} {v : Value} (hv : cellsV v = enc x) (hk : ∀ x, (enc x).length = size) (h1 : ∀ x, ∀ v ∈ enc x, v.oneCell' = true)
    (hbig : size ≤ 16777216) (hlen : (l.length + 1) * bytes ≤ 140737488355328) (hlen' : l.length + 1 ≤ maxLen) (hB : B ≤ w.heap.size) (ty : Nat) :
    ∃ (s1 : Sl) (w1 : World), (Instr.buildSlice t 1 [(0, v)].toArray).run P w = .ok (.slice s1.a s1.n s1.c) w1 ∧ Ext w w1 ∧
      ∃ (s' : Sl) (w' : World), (Builtin.append_ #[t, t] ty #[.slice s.a s.n s.c, .slice s1.a s1.n s1.c]).run P w1 = .ok (.slice s'.a s'.n s'.c) w' ∧ Tl e size enc B w' s' (l ++ [x]) ∧ Fr (Rm s) w1 w' ∧ ((∀ b, Rm s' b → Rm s b) ∨ ∀ b, Rm s' b → w.heap.size ≤ b) := by
  have hb := buildOne_run E hv (hk x) hbig w
  have hx := Ext.alloc w (.cells (enc x).toArray e)
  refine ⟨⟨some ⟨w.heap.size, 0, none⟩, 1, 1⟩, _, hb, hx, ?_⟩
  have hxb : Blk (w.alloc (.cells (enc x).toArray e)) w.heap.size (enc x) e := Blk.alloc w (enc x) e
  have h' := h.ext hx
  generalize w.alloc (.cells (enc x).toArray e) = w1 at hx hxb h'
  obtain ⟨i, z, hi, hz, hsz, hby, hzs⟩ := E.info
  have hfl := flatMap_len hk
  have hpos := E.pos
  have hn := h.len
  have hcap := h.cap
  have hxl : (enc x).length = size := hk x
  have hnew : ∀ {s0 : Sl}, s0 = ⟨none, 0, 0⟩ → l = [] → ∃ (s' : Sl) (w' : World), (Builtin.append_ #[t, t] ty #[.slice s0.a s0.n s0.c, .slice (some ⟨w.heap.size, 0, none⟩) 1 1]).run P w1 = .ok (.slice s'.a s'.n s'.c) w' ∧ Tl e size enc B w' s' (l ++ [x]) ∧ Fr (Rm s) w1 w' ∧ ∀ b, Rm s' b → w.heap.size ≤ b := by
    intro s0 h0 hl
    subst h0
    subst hl
    obtain ⟨s', w', hr, ho, hf⟩ := appendOwn E (Own.nil (α := α) e size enc w1.heap.size w1) (s2 := ⟨some ⟨w.heap.size, 0, none⟩, 1, 1⟩) (l2 := [x]) rfl rfl (by simpa using hxb.rd) hk h1 (by simpa using hlen) (by simpa using hlen') (Nat.le_refl _) ty
    have hz1 := hx.size
    exact ⟨s', w', hr, ho.tl.mono (by omega), hf.mono (fun b _ ⟨a, ha, _⟩ => by cases ha), fun b hb => by have := (ho.tl.base hb).1; omega⟩
  rcases Nat.lt_or_ge s.c (l.length + 1) with hgr | hroom
  · -- a new block
    cases ha : s.a with
    | none =>
      have hc0 : s.c = 0 := by
        rcases Nat.eq_zero_or_pos s.c with h | h
        · exact h
        · obtain ⟨g, o, cur, ha', _⟩ := h'.room h; rw [ha] at ha'; cases ha'
      have hl : l = [] := List.eq_nil_of_length_eq_zero (by omega)
      obtain ⟨s', w', hr, ho, hf, hb'⟩ := hnew (s0 := ⟨none, 0, 0⟩) rfl hl
      refine ⟨s', w', ?_, ho, hf, .inr hb'⟩
      rw [show s.n = 0 from by omega, hc0]; exact hr
    | some a0 =>
      obtain ⟨b0, o0, sp0⟩ := a0
      have hcells : ∀ j u, (l.flatMap enc)[j]? = some u → w1.cell? ((⟨b0, o0, sp0⟩ : Addr).add j) = some u := by
        intro j u hu
        have hl : l ≠ [] := by rintro rfl; simp at hu
        have h0 : 0 < l.length := List.length_pos_iff.2 hl
        obtain ⟨g, o, cur, ha', _, hbk, _, ht⟩ := h'.room (by omega)
        rw [ha] at ha'; cases ha'
        rw [addr_add_plain, hbk.cell]
        rw [← ht, List.getElem?_take] at hu
        split at hu
        · rwa [List.getElem?_drop] at hu
        · cases hu
      obtain ⟨v', w2, hr2, ho2, hg2⟩ := run_append_arg_grows (P := P) w1 t ty e i z size bytes E.under hi hz hsz hby hzs E.pos ⟨b0, o0, sp0⟩ l.length s.c (l.flatMap enc) (hfl l) hcells ⟨w.heap.size, 0, none⟩ 1 1 (enc x) (by rw [hxl, Nat.one_mul]) (fun j u hu => by rw [addr_add_plain, hxb.cell]; simpa using hu) hgr hlen' hlen
      have hshape : ∃ s' : Sl, v' = .slice s'.a s'.n s'.c ∧ s'.n = l.length + 1 := by
        rcases ho2.2 with ⟨h1, h2⟩ | ⟨g, cap, cur, h1, _⟩
        · exact ⟨⟨none, 0, 0⟩, h1, by simpa using h2.symm⟩
        · exact ⟨⟨some ⟨g, 0, none⟩, _, cap⟩, h1, rfl⟩
      obtain ⟨s', rfl, hs'⟩ := hshape
      have hz1 := hx.size
      have hown : Own e size enc w1.heap.size w2 s' (l ++ [x]) := ⟨by simp [hs'], by simpa using ho2⟩
      refine ⟨s', w2, ?_, hown.tl.mono (by omega), (Fr.grown hg2).mono (fun b _ hb => by cases hb), .inr fun b hb => by have := (hown.tl.base hb).1; omega⟩
      rw [hn]; exact hr2
  · -- in place
    obtain ⟨g, o, cur, ha, hgB, hbk, hr, ht⟩ := h'.room (by omega)
    have hr2 := run_append_room_cells (P := P) w1 t ty e i E.under hi g o l.length s.c ⟨w.heap.size, 0, none⟩ 1 1 (enc x) (by rw [hsz, hxl, Nat.one_mul]) (fun j u hu => by rw [addr_add_plain, hxb.cell]; simpa using hu)
      (fun u hu => h1 x u hu) hroom
      (fun j hj => by
        rw [hbk.cell, hsz]
        have h3 : (l.length + 1) * size ≤ s.c * size := Nat.mul_le_mul_right _ hroom
        rw [Nat.add_mul] at h3
        rw [List.getElem?_eq_getElem (by omega)]; rfl)
      (fun j hj => frozen_of_row w1 g _ cur.toArray e hbk)
    rw [hsz] at hr2
    have h3 : (l.length + 1) * size ≤ s.c * size := Nat.mul_le_mul_right _ hroom
    rw [Nat.add_mul, Nat.one_mul] at h3
    have hb2 := hbk.put (o := o + l.length * size) (vs := enc x)
    have hsplit : cur = cur.take (o + l.length * size) ++ ((cur.drop (o + l.length * size)).take size ++ (cur.drop (o + l.length * size)).drop size) := by rw [List.take_append_drop, List.take_append_drop]
    have hset : setR cur (o + l.length * size) (enc x) = cur.take (o + l.length * size) ++ (enc x ++ (cur.drop (o + l.length * size)).drop size) := by
      have := setR_mid (vs := enc x) (mid := (cur.drop (o + l.length * size)).take size) (pre := cur.take (o + l.length * size)) (post := (cur.drop (o + l.length * size)).drop size) (by rw [hxl]; simp; omega)
      rw [← hsplit, show (cur.take (o + l.length * size)).length = o + l.length * size from by simp; omega] at this
      exact this
    rw [hset] at hb2
    refine ⟨⟨some ⟨g, o, none⟩, l.length + 1, s.c⟩, put w1 g (o + l.length * size) (enc x), ?_, ⟨by simp, hroom, fun _ => ⟨g, o, _, rfl, hgB, hb2, ?_, ?_⟩⟩, ?_, .inl ?_⟩
    · rw [ha, hn, put_eq]; exact hr2
    · simp [hxl]; omega
    · rw [List.drop_append_of_le_length (by simp; omega), List.drop_take, show o + l.length * size - o = l.length * size from by omega, ht]
      rw [List.flatMap_append, ← List.append_assoc]
      simp only [List.flatMap_cons, List.flatMap_nil, List.append_nil]
      rw [List.take_left' (by simp [hfl, hxl, Nat.add_mul])]
    · exact (Fr.put _ _ _ _).mono fun b _ hb => ⟨by omega, _, ha, hb.symm⟩
    · rintro b ⟨hc, a, h2, h3⟩
      exact ⟨hc, a, by rw [ha]; exact h2, h3⟩

/-! ### blocks whose cells are a function -/
def FB (w : World) (b n : Nat) (f : Nat → Value) (T : TypeId) : Prop := Blk w b ((List.range n).map f) T
theorem FB.cell {w : World} {b n : Nat} {f : Nat → Value} {T : TypeId} (h : FB w b n f T) {i : Nat} (hi : i < n) {v : Value} (hv : f i = v) : w.cell? ⟨b, i, none⟩ = some v := by
  rw [Blk.cell h]; simp [hi, hv]
theorem FB.lt {w : World} {b n : Nat} {f : Nat → Value} {T : TypeId} (h : FB w b n f T) : b < w.heap.size := Blk.lt h
theorem FB.fr {M : Nat → Prop} {w w' : World} {b n : Nat} {f : Nat → Value} {T : TypeId} (h : FB w b n f T) (k : Fr M w w') (hn : ¬ M b) : FB w' b n f T := Blk.fr h k hn
theorem FB.ext {w w' : World} {b n : Nat} {f : Nat → Value} {T : TypeId} (h : FB w b n f T) (k : Ext w w') : FB w' b n f T := Blk.ext h k
def updF (f : Nat → Value) (o : Nat) (vs : List Value) : Nat → Value := fun j => if o ≤ j then (vs[j - o]?).getD (f j) else f j
theorem updF_in {f : Nat → Value} {o j : Nat} {vs : List Value} {v : Value} (h1 : o ≤ j) (h2 : vs[j - o]? = some v) : updF f o vs j = v := by unfold updF; rw [if_pos h1, h2]; rfl
theorem updF_out {f : Nat → Value} {o j : Nat} {vs : List Value} (h : j < o ∨ o + vs.length ≤ j) : updF f o vs j = f j := by
  unfold updF
  split
  · rw [List.getElem?_eq_none (by omega)]; rfl
  · rfl
theorem setR_range {n : Nat} : ∀ {vs : List Value} {f : Nat → Value} {o : Nat}, o + vs.length ≤ n → setR ((List.range n).map f) o vs = (List.range n).map (updF f o vs)
  | [], f, o, _ => by
    rw [setR]; congr 1; funext j; unfold updF; split <;> simp
  | v :: r, f, o, h => by
    have h' : o + 1 + r.length ≤ n := by simpa [Nat.add_assoc, Nat.add_comm 1] using h
    have hset : ((List.range n).map f).set o v = (List.range n).map (updF f o [v]) := by
      apply List.ext_getElem
      · simp
      · intro j h1 h2
        have hj : j < n := by simpa using h2
        rw [List.getElem_set]
        by_cases e : o = j
        · subst e; rw [if_pos rfl]; simp [updF_in (v := v) (vs := [v]) (Nat.le_refl o) (by simp)]
        · rw [if_neg e]
          simp only [List.getElem_map, List.getElem_range]
          rw [updF_out (by simp; omega)]
    rw [setR, hset, setR_range h']
    congr 1
    funext j
    by_cases h1 : j < o
    · rw [updF_out (.inl (by omega)), updF_out (.inl h1), updF_out (.inl h1)]
    · by_cases h2 : j = o
      · subst h2
        rw [updF_out (.inl (by omega)), updF_in (v := v) (Nat.le_refl _) (by simp), updF_in (v := v) (Nat.le_refl _) (by simp)]
      · unfold updF
        rw [if_pos (by omega), if_pos (by omega), if_pos (by omega)]
        have e1 : j - o = (j - (o + 1)) + 1 := by omega
        rw [e1, List.getElem?_cons_succ, List.getElem?_cons_succ]
        simp
theorem FB.put {w : World} {b n : Nat} {f : Nat → Value} {T : TypeId} (h : FB w b n f T) {o : Nat} {vs : List Value} (ho : o + vs.length ≤ n) : FB (put w b o vs) b n (updF f o vs) T := by
  have := Blk.put (vs := vs) (o := o) h
  rw [setR_range ho] at this; exact this
theorem FB.storeOk {w : World} {b n : Nat} {f : Nat → Value} {T : TypeId} (h : FB w b n f T) {o k : Nat} {vs : List Value} (hv : vs.length = k) (h1 : ∀ v ∈ vs, v.oneCell' = true) (hl : o + k ≤ n) : StoreOk w b o vs k := Blk.storeOk h hv h1 (by simpa using hl)
theorem FB.rd {w : World} {b n : Nat} {f : Nat → Value} {T : TypeId} (h : FB w b n f T) : ∀ {vs : List Value} {o : Nat}, o + vs.length ≤ n → (∀ i v, vs[i]? = some v → f (o + i) = v) → rd w b o vs
  | [], _, _, _ => trivial
  | v :: r, o, hl, hv => ⟨h.cell (by simp at hl; omega) (hv 0 v rfl), h.rd (by simp at hl ⊢; omega) fun i u hu => by
      have := hv (i + 1) u (by simpa using hu)
      rw [show o + 1 + i = o + (i + 1) from by omega]; exact this⟩
theorem FB.alloc (w : World) (l : List Value) (T : TypeId) : FB (w.alloc (.cells l.toArray T)) w.heap.size l.length (fun i => l.getD i undef) T := by
  have h := Blk.alloc w l T
  have e : (List.range l.length).map (fun i => l.getD i undef) = l := by
    apply List.ext_getElem
    · simp
    · intro j h1 h2; simp [List.getD, h2]
  unfold FB; rw [e]; exact h

/-! ### blocks told apart by what lies in them -/
theorem Blk.ne_ty {w : World} {b b' T T' : Nat} {l l' : List Value} (h : Blk w b l T) (h' : Blk w b' l' T') (hT : T ≠ T') : b ≠ b' := by
  rintro rfl
  unfold Blk at h h'
  rw [h] at h'
  injection h' with h'
  injection h' with _ h'
  exact hT h'
section
variable {κ β : Type} {ke : κ → Value} {ve : β → Value}
theorem Mp.ne_blk {w : World} {b b' T c : Nat} {l : List (Ent κ β)} {l' : List Value} (h : Mp ke ve w b l c) (h' : Blk w b' l' T) : b ≠ b' := by
  rintro rfl
  unfold Blk at h'
  rw [h.heap] at h'
  cases h'

/-! ### an entry deleted -/
def mdel [DecidableEq κ] (l : List (Ent κ β)) (k : κ) : List (Ent κ β) := l.filter fun x => !decide (x.1 = k)
theorem mget_mdel [DecidableEq κ] (l : List (Ent κ β)) (k k' : κ) : mget (mdel l k) k' = if k' = k then none else mget l k' := by
  unfold mget mdel
  induction l with
  | nil => simp
  | cons x r ih =>
    rw [List.filter_cons]
    by_cases e : x.1 = k
    · rw [if_neg (by simp [e])]
      by_cases e' : k' = k
      · rw [if_pos e'] at ih ⊢; exact ih
      · rw [if_neg e'] at ih ⊢
        rw [List.find?_cons, ih]
        rw [show decide (x.1 = k') = false from by simp; rw [e]; exact fun h => e' h.symm]
    · rw [if_pos (by simp [e]), List.find?_cons, List.find?_cons]
      by_cases e2 : x.1 = k'
      · rw [show decide (x.1 = k') = true from by simpa using e2]
        rw [if_neg (by rw [← e2]; exact e)]
      · rw [show decide (x.1 = k') = false from by simpa using e2]
        exact ih
theorem eraseIdx_key [DecidableEq κ] : ∀ {l : List (Ent κ β)} {i : Nat} {x : Ent κ β}, (l.map (·.1)).Nodup → l[i]? = some x → l.eraseIdx i = mdel l x.1
  | [], _, _, _, h => by cases h
  | y :: r, 0, x, hn, h => by
    cases h
    simp only [List.map_cons, List.nodup_cons] at hn
    unfold mdel
    rw [List.eraseIdx_cons_zero, List.filter_cons, if_neg (by simp), List.filter_eq_self.2]
    intro z hz
    have : z.1 ≠ y.1 := fun e => hn.1 (List.mem_map.2 ⟨z, hz, e⟩)
    simpa using this
  | y :: r, i + 1, x, hn, h => by
    simp only [List.map_cons, List.nodup_cons] at hn
    have h' : r[i]? = some x := by simpa using h
    have := eraseIdx_key hn.2 h'
    unfold mdel at this ⊢
    rw [List.eraseIdx_cons_succ, List.filter_cons, if_pos, this]
    have : y.1 ≠ x.1 := fun e => hn.1 (List.mem_map.2 ⟨x, List.mem_of_getElem? h', e.symm⟩)
    simpa using this
theorem eraseIdx_map' {α β : Type} (f : α → β) : ∀ (l : List α) (i : Nat), (l.map f).eraseIdx i = (l.eraseIdx i).map f
  | [], _ => rfl
  | _ :: _, 0 => rfl
  | x :: r, i + 1 => by rw [List.map_cons, List.eraseIdx_cons_succ, List.eraseIdx_cons_succ, List.map_cons, eraseIdx_map' f r i]
theorem del_run [DecidableEq κ] {t kt vt kt' : TypeId} (K : KeyOk P kt ke) (ht : P.underlying t = some (.map kt vt)) {w : World} {b c : Nat} {l : List (Ent κ β)} (h : Mp ke ve w b l c) (k : κ) (ty : Nat) :
    ∃ w', (Builtin.delete_ #[t, kt'] ty #[.map (some b), ke k]).run P w = .ok (.tuple #[]) w' ∧ Mp ke ve w' b (mdel l k) c ∧ Fr (fun i => i = b) w w' := by
  have hg : (getObj b).run P w = .ok (.map (l.map (ent ke ve)).toArray c) w := by simp [getObj, Sem.run, h.heap]
  have hb := h.bound
  have hset : ∀ es c', (setObj b (.map es c')).run P w = .ok () { w with heap := w.heap.setIfInBounds b (.map es c') } := fun es c' => by simp [setObj, Sem.run, h.heap]
  have hfr : ∀ es c', Fr (fun i => i = b) w { w with heap := w.heap.setIfInBounds b (.map es c') } := fun es c' =>
    ⟨rfl, rfl, rfl, by simp, fun i _ hi => by show (w.heap.setIfInBounds b _)[i]? = _; rw [Array.getElem?_setIfInBounds_ne (fun e => hi e.symm)]⟩
  have hk : ∀ e ∈ l.map (ent ke ve), ∃ k', e.key = ke k' := fun e he => by obtain ⟨x, _, rfl⟩ := List.mem_map.1 he; exact ⟨x.1, rfl⟩
  have hmp : Mp ke ve { w with heap := w.heap.setIfInBounds b (.map ((mdel l k).map (ent ke ve)).toArray c) } b (mdel l k) c :=
    ⟨by simp [hb], h.keys.sublist (List.filter_sublist.map _), h.stamps.sublist (List.filter_sublist.map _), fun x hx => h.lt x (List.mem_filter.1 hx).1⟩
  rcases K.find k (l.map (ent ke ve)) w hk with ⟨hf, hno⟩ | ⟨i, e, hi, he, hf⟩
  · have hm : mdel l k = l := by
      unfold mdel
      rw [List.filter_eq_self]
      intro x hx
      have : x.1 ≠ k := fun e => hno _ (List.mem_map.2 ⟨x, hx, rfl⟩) (by show ke x.1 = ke k; rw [e])
      simpa using this
    refine ⟨_, ?_, hmp, hfr _ _⟩
    rw [hm]
    simp [Builtin.delete_, under_run ht, hg, K.chk, hf, hset]
  · have hi' : ∃ x, l[i]? = some x ∧ e = ent ke ve x := by
      rw [List.getElem?_map] at hi
      cases hx : l[i]? with
      | none => rw [hx] at hi; cases hi
      | some x => rw [hx] at hi; cases hi; exact ⟨x, rfl, rfl⟩
    obtain ⟨x, hx, rfl⟩ := hi'
    obtain rfl : x.1 = k := K.inj _ _ he
    refine ⟨_, ?_, hmp, hfr _ _⟩
    have hse : ((l.map (ent ke ve)).toArray.eraseIdxIfInBounds i) = ((mdel l x.1).map (ent ke ve)).toArray := by
      rw [← eraseIdx_key h.keys hx]
      simp [eraseIdx_map']
    have := hset ((l.map (ent ke ve)).toArray.eraseIdxIfInBounds i) c
    rw [hse] at this
    simp only [List.eraseIdxIfInBounds_toArray] at hse
    simp [Builtin.delete_, under_run ht, hg, K.chk, hf, hse, this]
theorem del_nil {t kt vt kt' : TypeId} (K : KeyOk P kt ke) (ht : P.underlying t = some (.map kt vt)) (k : κ) (ty : Nat) (w : World) :
    (Builtin.delete_ #[t, kt'] ty #[.map none, ke k]).run P w = .ok (.tuple #[]) w := by
  simp [Builtin.delete_, under_run ht, K.chk]

/-! ### ranging over the nil map -/
theorem range_nil {t kt vt : TypeId} (ht : P.underlying t = some (.map kt vt)) (w : World) :
    ∃ w', (Instr.range t (.map none)).run P w = .ok (.pointer (some ⟨w.heap.size, 0, none⟩)) w' ∧ Ext w w' ∧ w'.heap[w.heap.size]? = some (.mapIter none 0 #[] 0) := by
  refine ⟨w.alloc (.mapIter none 0 #[] 0), ?_, Ext.alloc _ _, by show (w.heap.push _)[w.heap.size]? = _; simp⟩
  simp [Instr.range, under_run ht]
theorem next_nil {w : World} {r T : Nat} (hi : w.heap[r]? = some (.mapIter none 0 #[] 0)) :
    (Instr.next (.pointer (some ⟨r, 0, none⟩)) false T).run P w = .ok (.tuple (Value.bool false :: ([] : List Value)).toArray) w := by
  have hgr : (getObj r).run P w = .ok (.mapIter none 0 #[] 0) w := by simp [getObj, Sem.run, hi]
  simp [Instr.next, hgr]
end
end Go.VC
/-
  A loop over the entries of a map that stays as it is. For every program.
-/
namespace Go.VC
open Go
variable {P : Program}
section
variable {κ β : Type} {ke : κ → Value} {ve : β → Value}
theorem rangeM {t' T : Nat} {k : SK} {b c r : Nat} {l : List (Ent κ β)} {w0 : World} {s0 : k.T} {J : k.T → World → Prop} {Bd : k.T → World → (k.T → World → Prop) → Prop}
    (Inv : List (Ent κ β) → k.T → World → Prop) (hm : Mp ke ve w0 b l c) (hi : Itr (κ := κ) (β := β) w0 r b c []) (h0 : Inv [] s0 w0)
    (stab : ∀ vis s w w', Inv vis s w → Fr (fun y => y = r) w w' → Inv vis s w')
    (step : ∀ vis x s w, x ∈ l → x ∉ vis → vis.Nodup → (∀ y ∈ vis, y ∈ l) → vis.length < l.length → Inv vis s w → Mp ke ve w b l c → r < w.heap.size → (Instr.entry (.pointer (some ⟨r, 0, none⟩))).run P w = .ok (.tuple #[ke x.1, ve x.2.1]) w →
      ∀ K : k.T → World → Prop, (∀ s' w', Inv (vis ++ [x]) s' w' → Fr (fun y => y ≠ r ∧ y ≠ b) w w' → K s' w') → Bd s w K)
    (fin : ∀ vis s w, (∀ x ∈ l, x ∈ vis) → vis.Nodup → (∀ y ∈ vis, y ∈ l) → Inv vis s w → Mp ke ve w b l c → J s w) :
    LoopV [(t', k)] (fun K => K s0 w0) (fun N => fun (s : k.T) (w8 : World) => ∃ (d : Bool) (kv : List Value) (w9 : World), Sem.run P (Instr.next (.pointer (some ⟨r, 0, none⟩)) false T) w8 = .ok (.tuple (Value.bool d :: kv).toArray) w9 ∧
      cond d (Join [(t', k)] (fun (s' : k.T) (w10 : World) => N s' w10) (fun J2 => Bd s w9 J2)) (J s w9)) := by
  refine LoopV.intro (fun n (s : k.T) w => ∃ vis : List (Ent κ β), n = l.length - vis.length ∧ vis.Nodup ∧ (∀ x ∈ vis, x ∈ l) ∧ Itr (κ := κ) (β := β) w r b c vis ∧ Mp ke ve w b l c ∧ Inv vis s w) l.length ⟨[], by simp, by simp, by simp, hi, hm, h0⟩ ?_
  rintro n s w ⟨vis, rfl, hvn, hvl, hit, hmp, hinv⟩
  have hbr : b ≠ r := fun e => by have := hmp.heap; rw [e, hit.heap] at this; cases this
  obtain ⟨d, kv, w6, hrun, hcase⟩ := next_run (P := P) (T := T) hmp hit hvl
  refine ⟨d, kv, w6, hrun, ?_⟩
  rcases hcase with ⟨rfl, hall, hx6⟩ | ⟨rfl, x, hxl, hxv, hit6, hmp6, hfr6, hent⟩
  · exact fin vis s w6 hall hvn hvl (stab _ _ _ _ hinv (hx6.mono fun _ _ h => h.elim)) (hmp.ext hx6)
  · have hlt : vis.length + 1 ≤ l.length := by
      have := (List.nodup_cons.2 ⟨hxv, hvn⟩).length_le_of_subset (l₂ := l) (by intro y hy; rcases List.mem_cons.1 hy with rfl | hy; exact hxl; exact hvl y hy)
      simpa using this
    have hvn' : (vis ++ [x]).Nodup := by
      rw [List.nodup_append]; exact ⟨hvn, by simp, by intro a ha b hb e; simp at hb; subst hb; subst e; exact hxv ha⟩
    have hvl' : ∀ y ∈ vis ++ [x], y ∈ l := by intro y hy; rcases List.mem_append.1 hy with hy | hy; exact hvl y hy; simp at hy; subst hy; exact hxl
    refine Join.dir (step vis x s w6 hxl hxv hvn hvl (by omega) (stab _ _ _ _ hinv hfr6) hmp6 hit6.bound hent _ fun s' w' hinv' hfr => ?_)
    exact ⟨l.length - (vis ++ [x]).length, by simp; omega, vis ++ [x], rfl, hvn', hvl', hit6.fr hfr fun h => h.1 rfl, hmp6.fr hfr fun h => h.2 rfl, hinv'⟩
theorem rangeMnil {t' T : Nat} {k : SK} {r : Nat} {w0 : World} {s0 : k.T} {J : k.T → World → Prop} {Bd : k.T → World → (k.T → World → Prop) → Prop} (hi : w0.heap[r]? = some (.mapIter none 0 #[] 0)) (hJ : J s0 w0) :
    LoopV [(t', k)] (fun K => K s0 w0) (fun N => fun (s : k.T) (w8 : World) => ∃ (d : Bool) (kv : List Value) (w9 : World), Sem.run P (Instr.next (.pointer (some ⟨r, 0, none⟩)) false T) w8 = .ok (.tuple (Value.bool d :: kv).toArray) w9 ∧
      cond d (Join [(t', k)] (fun (s' : k.T) (w10 : World) => N s' w10) (fun J2 => Bd s w9 J2)) (J s w9)) := by
  refine LoopV.intro (fun _ (s : k.T) w => s = s0 ∧ w = w0) 0 ⟨rfl, rfl⟩ ?_
  rintro n s w ⟨rfl, rfl⟩
  exact ⟨false, [], w, next_nil hi, hJ⟩
end
/-- A slice's block is one of its type. -/
theorem Own.blk {α : Type} {T size B : Nat} {enc : α → List Value} {w : World} {s : Sl} {l : List α} (h : Own T size enc B w s l) {a : Addr} (ha : s.a = some a) : ∃ cur, Blk w a.block cur T := by
  obtain ⟨_, _, h⟩ := h
  rcases h with ⟨h1, _⟩ | ⟨g, cap, cur, hv, _, hg, _⟩
  · simp only [Value.slice.injEq] at h1
    rw [h1.1] at ha; cases ha
  · simp only [Value.slice.injEq] at hv
    rw [hv.1] at ha; cases ha
    exact ⟨cur.toList, by unfold Blk; simpa using hg⟩
end Go.VC
namespace Go.VC
open Go
variable {P : Program}
theorem aggNe_str {t n : Nat} (A : IntStr P t n) {xs ys : List Int} (hx : xs.length = n) (hy : ys.length = n) (w : World) :
    (aggEq .neq t (ints xs) (ints ys)).run P w = .ok (.bool (!decide (xs = ys))) w := by
  have h := equalIn_str A hx hy 9998 w
  unfold ints at h ⊢
  simp only [aggEq, Sem.run_bind, run_eqGuard_agg w .neq t _ _ _ _ A.guard, Result.andThen_ok, run_neq_struct w]
  rw [show (10000 : Nat) = 9998 + 2 from rfl, h]; rfl
theorem aggNe_ints {t e n : Nat} (A : IntArr P t e n) {xs ys : List Int} (hx : xs.length = n) (hy : ys.length = n) (w : World) :
    (aggEq .neq t (ints xs) (ints ys)).run P w = .ok (.bool (!decide (xs = ys))) w := by
  have h := equalIn_ints A hx hy 9998 w
  unfold ints at h ⊢
  simp only [aggEq, Sem.run_bind, run_eqGuard_agg w .neq t _ _ _ _ A.guard, Result.andThen_ok, run_neq_struct w]
  rw [show (10000 : Nat) = 9998 + 2 from rfl, h]; rfl
end Go.VC
/-
  What lies in memory: facts, atoms, literals and rules. Small contracts.
-/
namespace Go.Proofs.Ytoljknamnkkgcaa
open Go Go.VC
set_option maxHeartbeats 1000000
set_option maxRecDepth 100000

abbrev Bl (s : Sl) (b : Nat) : Prop := ∃ a, s.a = some a ∧ a.block = b
/-- A fact or an atom as it lies in memory, with what its slice reads as. -/
structure DF where
  rel : Int
  sl : Sl
  args : List Int
instance : Inhabited DF := ⟨⟨0, ⟨none, 0, 0⟩, []⟩⟩
/-- A fact or an atom. -/
structure Fa where
  rel : Int
  args : List Int
deriving DecidableEq
instance : Inhabited Fa := ⟨⟨0, []⟩⟩
def DF.p (x : DF) : Fa := ⟨x.rel, x.args⟩
def eF (x : DF) : List Value := [.int .i64 x.rel, .slice x.sl.a x.sl.n x.sl.c]
theorem eF_len (x : DF) : (eF x).length = 2 := rfl
theorem eF_one (x : DF) : ∀ v ∈ eF x, v.oneCell' = true := by intro v hv; simp [eF] at hv; rcases hv with rfl | rfl <;> rfl
def ren129 : Go.Shelf.Ren := ⟨fun | 129 => 139 | n => n, fun | 53 => 206 | 3 => 3 | 4 => 4 | 46 => 47 | 5 => 5 | 9 => 9 | n => n, fun | n => n⟩
theorem lays129 : Go.Proofs.Lays.n129 Try.prog ren129 where
  mixed := by kernel_rfl
  f129 := Try.func139.trans (congrArg some (by kernel_rfl))
  t3 := Try.underlying3
  a3 := Try.isAgg3
  z3 := Try.sizeOf3
  v3 := Try.zeroValue3
  t4 := Try.underlying4
  a4 := Try.isAgg4
  z4 := Try.sizeOf4
  v4 := Try.zeroValue4
  t5 := Try.underlying5
  a5 := Try.isAgg5
  z5 := Try.sizeOf5
  v5 := Try.zeroValue5
  t9 := Try.underlying9
  a9 := Try.isAgg9
  z9 := Try.sizeOf9
  v9 := Try.zeroValue9
  t46 := Try.underlying47
  a46 := Try.isAgg47
  z46 := Try.sizeOf47
  v46 := Try.zeroValue47
  t53 := Try.underlying206
  a53 := Try.isAgg206
  z53 := Try.sizeOf206
  v53 := Try.zeroValue206
end Go.Proofs.Ytoljknamnkkgcaa
/-
  Sorting slices of facts in place: one comparison, one swap.
-/
namespace Go.Proofs.Ytoljknamnkkgcaa
open Go Go.VC
set_option maxHeartbeats 1000000
set_option maxRecDepth 100000

abbrev ET := DF
abbrev eT := eF
abbrev eT_len := eF_len
abbrev eT_one := eF_one
abbrev SdT (Ok : ET → Prop) (B : Nat) (w0 w : World) (s : Sl) (d : Array ET) : Prop := Sd 36 2 eT Ok B w0 w s d
abbrev CfT (Ok : ET → Prop) (w0 : World) (s : Sl) (f : Nat) (c : List Value) (lt : ET → ET → Bool) : Prop := Cf Try.prog eT Ok w0 s f c lt
section
variable {Ok : ET → Prop} {B : Nat} {w0 w : World} {s : Sl} {d : Array ET} {f : Nat} {c : List Value} {lt : ET → ET → Bool}
theorem less_stepF (hc : CfT Ok w0 s f c lt) (h : SdT Ok B w0 w s d) {i j : Nat} {x y : Int} (hx : x = (i : Int)) (hy : y = (j : Int)) (hi : i < d.size) (hj : j < d.size) {K : Int → World → Prop} (hK : ∀ v w', SdT Ok B w0 w' s d → decide (v < (0 : Int)) = lt d[i]! d[j]! → Ext w w' → K v w') :
    ∃ p : Pt, s.a = some ⟨p.b, p.o, none⟩ ∧ 0 ≤ x ∧ x < ((s.n : Nat) : Int) ∧ ∃ a0 : Int, ∃ a1 : Sl, rd w p.b (p.o + Int.toNat x * 2) [(.int .i64 a0), (.slice a1.a a1.n a1.c)] ∧ ∃ q : Pt, s.a = some ⟨q.b, q.o, none⟩ ∧ 0 ≤ y ∧ y < ((s.n : Nat) : Int) ∧ ∃ b0 : Int, ∃ b1 : Sl, rd w q.b (q.o + Int.toNat y * 2) [(.int .i64 b0), (.slice b1.a b1.n b1.c)] ∧ (bif callable Try.prog f then Calls Try.prog f (([(.agg [(.int .i64 a0), (.slice a1.a a1.n a1.c)].toArray), (.agg [(.int .i64 b0), (.slice b1.a b1.n b1.c)].toArray)] : List Value) ++ c).toArray w (fun e w2 => ∃ v : Int, e = .returned (.int .i64 v) ∧ K v w2) else False) := by
  obtain ⟨p, hp, a1, a2, hr⟩ := h.at eT_len hx hi
  obtain ⟨q, hq, b1, b2, hs⟩ := h.at eT_len hy hj
  refine ⟨p, hp, a1, a2, _, _, hr, q, hq, b1, b2, _, _, hs, ?_⟩
  rw [hc.ca]
  exact (hc.run w _ _ h.fr (h.okAt hi) (h.okAt hj)).mono fun e w' ⟨v, he, hv, hx⟩ => ⟨v, he, hK v w' (h.ext hx) hv hx⟩
theorem less_step (hc : CfT Ok w0 s f c lt) (h : SdT Ok B w0 w s d) {i j : Nat} {x y : Int} (hx : x = (i : Int)) (hy : y = (j : Int)) (hi : i < d.size) (hj : j < d.size) {K : Int → World → Prop} (hK : ∀ v w', SdT Ok B w0 w' s d → decide (v < (0 : Int)) = lt d[i]! d[j]! → K v w') :
    ∃ p : Pt, s.a = some ⟨p.b, p.o, none⟩ ∧ 0 ≤ x ∧ x < ((s.n : Nat) : Int) ∧ ∃ a0 : Int, ∃ a1 : Sl, rd w p.b (p.o + Int.toNat x * 2) [(.int .i64 a0), (.slice a1.a a1.n a1.c)] ∧ ∃ q : Pt, s.a = some ⟨q.b, q.o, none⟩ ∧ 0 ≤ y ∧ y < ((s.n : Nat) : Int) ∧ ∃ b0 : Int, ∃ b1 : Sl, rd w q.b (q.o + Int.toNat y * 2) [(.int .i64 b0), (.slice b1.a b1.n b1.c)] ∧ (bif callable Try.prog f then Calls Try.prog f (([(.agg [(.int .i64 a0), (.slice a1.a a1.n a1.c)].toArray), (.agg [(.int .i64 b0), (.slice b1.a b1.n b1.c)].toArray)] : List Value) ++ c).toArray w (fun e w2 => ∃ v : Int, e = .returned (.int .i64 v) ∧ K v w2) else False) :=
  less_stepF hc h hx hy hi hj fun v w' h1 h2 _ => hK v w' h1 h2
theorem swap_stepF (h : SdT Ok B w0 w s d) {i j : Nat} {x y : Int} (hx : x = (i : Int)) (hy : y = (j : Int)) (hi : i < d.size) (hj : j < d.size) {K : World → Prop} (hK : ∀ w', SdT Ok B w0 w' s (Sort.swp d i j) → Fr (BlS s) w w' → K w') :
    Let w.drew fun w4 => ∃ p : Pt, s.a = some ⟨p.b, p.o, none⟩ ∧ 0 ≤ y ∧ y < ((s.n : Nat) : Int) ∧ ∃ a0 : Int, ∃ a1 : Sl, rd w4 p.b (p.o + Int.toNat y * 2) [(.int .i64 a0), (.slice a1.a a1.n a1.c)] ∧ ∃ q : Pt, s.a = some ⟨q.b, q.o, none⟩ ∧ 0 ≤ x ∧ x < ((s.n : Nat) : Int) ∧ ∃ b0 : Int, ∃ b1 : Sl, rd w4 q.b (q.o + Int.toNat x * 2) [(.int .i64 b0), (.slice b1.a b1.n b1.c)] ∧
      ∃ p : Pt, s.a = some ⟨p.b, p.o, none⟩ ∧ 0 ≤ x ∧ x < ((s.n : Nat) : Int) ∧ StoreOk w4 p.b (p.o + Int.toNat x * 2) [(.int .i64 a0), (.slice a1.a a1.n a1.c)] 2 ∧ Let (put w4 p.b (p.o + Int.toNat x * 2) [(.int .i64 a0), (.slice a1.a a1.n a1.c)]) fun w5 =>
      ∃ q : Pt, s.a = some ⟨q.b, q.o, none⟩ ∧ 0 ≤ y ∧ y < ((s.n : Nat) : Int) ∧ StoreOk w5 q.b (q.o + Int.toNat y * 2) [(.int .i64 b0), (.slice b1.a b1.n b1.c)] 2 ∧ Let (put w5 q.b (q.o + Int.toNat y * 2) [(.int .i64 b0), (.slice b1.a b1.n b1.c)]) fun w6 => K w6 := by
  refine Let.intro fun w4 e4 => ?_
  have h4 : SdT Ok B w0 w4 s d := by rw [e4]; exact h.ext (Ext.drew _)
  obtain ⟨p, hp, a1, a2, hr⟩ := h4.at eT_len hy hj
  obtain ⟨q, hq, b1, b2, hs⟩ := h4.at eT_len hx hi
  obtain ⟨p2, hp2, c1, c2, st, q2, hq2, d1, d2, st2, h6⟩ := h4.swap eT_len eT_one hx hy hi hj
  refine ⟨p, hp, a1, a2, _, _, hr, q, hq, b1, b2, _, _, hs, p2, hp2, c1, c2, st, Let.intro fun w5 e5 => ?_⟩
  subst e5
  refine ⟨q2, hq2, d1, d2, st2, Let.intro fun w6 e6 => ?_⟩
  subst e6
  refine hK _ h6 ?_
  have g1 : Fr (BlS s) w4 (put w4 p2.b (p2.o + Int.toNat x * 2) (eT d[j]!)) := (Fr.put _ _ _ _).mono fun b _ hb => ⟨_, hp2, hb.symm⟩
  have g2 : Fr (BlS s) (put w4 p2.b (p2.o + Int.toNat x * 2) (eT d[j]!)) (put (put w4 p2.b (p2.o + Int.toNat x * 2) (eT d[j]!)) q2.b (q2.o + Int.toNat y * 2) (eT d[i]!)) := (Fr.put _ _ _ _).mono fun b _ hb => ⟨_, hq2, hb.symm⟩
  have g0 : Ext w w4 := by rw [e4]; exact Ext.drew _
  exact g0.fr (g1.trans g2 fun _ _ h => h)
theorem swap_step (h : SdT Ok B w0 w s d) {i j : Nat} {x y : Int} (hx : x = (i : Int)) (hy : y = (j : Int)) (hi : i < d.size) (hj : j < d.size) {K : World → Prop} (hK : ∀ w', SdT Ok B w0 w' s (Sort.swp d i j) → K w') :
    Let w.drew fun w4 => ∃ p : Pt, s.a = some ⟨p.b, p.o, none⟩ ∧ 0 ≤ y ∧ y < ((s.n : Nat) : Int) ∧ ∃ a0 : Int, ∃ a1 : Sl, rd w4 p.b (p.o + Int.toNat y * 2) [(.int .i64 a0), (.slice a1.a a1.n a1.c)] ∧ ∃ q : Pt, s.a = some ⟨q.b, q.o, none⟩ ∧ 0 ≤ x ∧ x < ((s.n : Nat) : Int) ∧ ∃ b0 : Int, ∃ b1 : Sl, rd w4 q.b (q.o + Int.toNat x * 2) [(.int .i64 b0), (.slice b1.a b1.n b1.c)] ∧
      ∃ p : Pt, s.a = some ⟨p.b, p.o, none⟩ ∧ 0 ≤ x ∧ x < ((s.n : Nat) : Int) ∧ StoreOk w4 p.b (p.o + Int.toNat x * 2) [(.int .i64 a0), (.slice a1.a a1.n a1.c)] 2 ∧ Let (put w4 p.b (p.o + Int.toNat x * 2) [(.int .i64 a0), (.slice a1.a a1.n a1.c)]) fun w5 =>
      ∃ q : Pt, s.a = some ⟨q.b, q.o, none⟩ ∧ 0 ≤ y ∧ y < ((s.n : Nat) : Int) ∧ StoreOk w5 q.b (q.o + Int.toNat y * 2) [(.int .i64 b0), (.slice b1.a b1.n b1.c)] 2 ∧ Let (put w5 q.b (q.o + Int.toNat y * 2) [(.int .i64 b0), (.slice b1.a b1.n b1.c)]) fun w6 => K w6 :=
  swap_stepF h hx hy hi hj fun w' h1 _ => hK w' h1
/-! ### by insertion -/
theorem c130 (hc : CfT Ok w0 s f c lt) (h : SdT Ok B w0 w s d) {a b : Nat} (hab : a ≤ b) (hb : b ≤ d.size) :
    Calls Try.prog 130 [.slice s.a s.n s.c, .int .i64 (a : Int), .int .i64 (b : Int), .func (.func f) #[] c.toArray].toArray w fun e w' => e = .returned (.tuple [].toArray) ∧ SdT Ok B w0 w' s (Sort.insertionSort lt d a b) := by
  have hsz := h.sz
  refine (call130 s a b f c (R := fun v w' => v = .tuple [].toArray ∧ SdT Ok B w0 w' s (Sort.insertionSort lt d a b)) ?_).mono fun e w' ⟨v, he, hv, hx⟩ => ⟨by rw [he, hv], hx⟩
  refine Join.dir (LoopV.intro (fun n (x8 : Int) w2 => ∃ (i : Nat) (d' : Array ET), x8 = (i : Int) ∧ n = b + 1 - i ∧ a < i ∧ i ≤ b + 1 ∧ SdT Ok B w0 w2 s d' ∧ d'.size = d.size ∧ Sort.insOuter lt a b i d' = Sort.insertionSort lt d a b) (b + 1 - (a + 1))
    ⟨a + 1, d, by simp only [IntKind.wrap_i64]; omega, rfl, by omega, by omega, h, rfl, rfl⟩ ?_)
  rintro n x8 w2 ⟨i, d', rfl, rfl, hai, hib1, h2, hs2, he⟩
  refine cond_intro (fun hlt => ?_) (fun hge => ?_)
  · have hib : i < b := by simpa using hlt
    refine Join.dir (Join.dir (LoopV.intro (fun m (x9 : Int) w5 => ∃ (j : Nat) (d2 : Array ET), x9 = (j : Int) ∧ m = j ∧ j ≤ i ∧ SdT Ok B w0 w5 s d2 ∧ d2.size = d.size ∧ Sort.insInner lt a j d2 = Sort.insInner lt a i d') i ⟨i, d', rfl, rfl, Nat.le_refl _, h2, hs2, rfl⟩ ?_))
    rintro j x9 w5 ⟨_, d2, rfl, rfl, hji, h5, hs5, he5⟩
    refine ⟨fun (b34 : Bool) w6 => b34 = (decide (a < j) && lt d2[j]! d2[j - 1]!) ∧ SdT Ok B w0 w6 s d2, ?_, ?_⟩
    · rintro b34 w6 ⟨hb34, h6⟩
      refine cond_intro (fun ht => ?_) (fun hf => ?_)
      · rw [hb34] at ht
        have haj : a < j := by simp at ht; exact ht.1
        obtain ⟨k, rfl⟩ : ∃ k, j = k + 1 := ⟨j - 1, by omega⟩
        rw [Nat.add_sub_cancel] at ht
        refine Join.dir (swap_step (i := k + 1) (j := k) h6 rfl (by simp only [IntKind.wrap_i64]; omega) (by omega) (by omega) fun w' h' => ⟨k, by omega, k, _, by simp only [IntKind.wrap_i64]; omega, rfl, by omega, h', by simp [Sort.size_swp, hs5], ?_⟩)
        rw [← he5, Sort.insInner]
        rw [if_pos (by simpa using ht)]
      · refine ⟨b + 1 - (i + 1), by omega, i + 1, d2, by simp only [IntKind.wrap_i64]; omega, rfl, by omega, by omega, h6, hs5, ?_⟩
        rw [← he, Sort.insOuter.eq_1 lt a b i d', if_pos hib, ← he5]
        congr 1
        rw [hb34] at hf
        cases j with
        | zero => rfl
        | succ k =>
          rw [Sort.insInner]
          rw [Nat.add_sub_cancel] at hf
          rw [if_neg (by simpa using hf)]
    · refine Let.intro fun w11 e11 => ?_
      have h11 : SdT Ok B w0 w11 s d2 := by rw [e11]; exact h5.ext (Ext.drew _)
      refine cond_intro (fun hgt => ?_) (fun hle => ⟨?_, h11⟩)
      · have haj : a < j := by simpa using hgt
        exact less_step (i := j) (j := j - 1) hc h11 rfl (by simp only [IntKind.wrap_i64]; omega) (by omega) (by omega) fun v w' h' hv => ⟨by rw [hv]; simp [haj], h'⟩
      · have haj : ¬ a < j := by simpa using hle
        simp [haj]
  · have hib : ¬ i < b := by simpa using hge
    refine ⟨rfl, ?_⟩
    rw [← he, Sort.insOuter.eq_1, if_neg hib]; exact h2
/-! ### by a heap -/
theorem c140 (hc : CfT Ok w0 s f c lt) (h : SdT Ok B w0 w s d) {root hi first : Nat} (hr : root ≤ 1000000) (hb : first + hi ≤ d.size) :
    Calls Try.prog 140 [.slice s.a s.n s.c, .int .i64 (root : Int), .int .i64 (hi : Int), .int .i64 (first : Int), .func (.func f) #[] c.toArray].toArray w fun e w' => e = .returned (.tuple [].toArray) ∧ SdT Ok B w0 w' s (Sort.siftDown lt hi first root d) := by
  have hsz := h.sz
  refine (call140 s root hi first f c (R := fun v w' => v = .tuple [].toArray ∧ SdT Ok B w0 w' s (Sort.siftDown lt hi first root d)) ?_).mono fun e w' ⟨v, he, hv, hx⟩ => ⟨by rw [he, hv], hx⟩
  refine Join.dir (LoopV.intro (fun n (x10 : Int) w2 => ∃ (r : Nat) (d' : Array ET), x10 = (r : Int) ∧ n = hi - r ∧ r ≤ 1000000 ∧ SdT Ok B w0 w2 s d' ∧ d'.size = d.size ∧ Sort.siftDown lt hi first r d' = Sort.siftDown lt hi first root d) (hi - root)
    ⟨root, d, rfl, rfl, hr, h, rfl, rfl⟩ ?_)
  rintro n x10 w2 ⟨r, d', rfl, rfl, hr2, h2, hs2, he⟩
  have e1 : IntKind.wrap .i64 (IntKind.wrap .i64 ((2 : Int) * (r : Int)) + 1) = ((2 * r + 1 : Nat) : Int) := by simp only [IntKind.wrap_i64]; omega
  have e2 : IntKind.wrap .i64 (((2 * r + 1 : Nat) : Int) + 1) = ((2 * r + 2 : Nat) : Int) := by simp only [IntKind.wrap_i64]; omega
  rw [e1, e2]
  refine Join.dir (cond_intro (fun h1 => ?_) (fun h1 => ?_))
  · have h1 : 2 * r + 1 ≥ hi := by simp at h1; omega
    refine ⟨rfl, ?_⟩
    rw [← he, Sort.siftDown, dif_pos h1]; exact h2
  have h1 : ¬ 2 * r + 1 ≥ hi := by simp at h1; omega
  refine ⟨fun (b40 : Bool) w4 => b40 = (decide (2 * r + 1 + 1 < hi) && lt d'[first + (2 * r + 1)]! d'[first + (2 * r + 1) + 1]!) ∧ SdT Ok B w0 w4 s d', ?_, ?_⟩
  · rintro b40 w4 ⟨hb40, h4⟩
    refine ⟨fun (x11 : Int) w5 => ∃ q : Nat, x11 = (q : Int) ∧ q < hi ∧ r < q ∧ (Sort.siftDown lt hi first r d' = if !lt d'[first + r]! d'[first + q]! then d' else Sort.siftDown lt hi first q (Sort.swp d' (first + r) (first + q))) ∧ SdT Ok B w0 w5 s d', ?_, ?_⟩
    · rintro x11 w5 ⟨q, rfl, hq, hrq, heq, h5⟩
      have i1 : IntKind.wrap .i64 ((first : Int) + (r : Int)) = ((first + r : Nat) : Int) := by simp only [IntKind.wrap_i64]; omega
      have i2 : IntKind.wrap .i64 ((first : Int) + (q : Int)) = ((first + q : Nat) : Int) := by simp only [IntKind.wrap_i64]; omega
      rw [i1, i2]
      refine Let.intro fun w6 e6 => ?_
      have h6 : SdT Ok B w0 w6 s d' := by rw [e6]; exact h5.ext (Ext.drew _)
      refine less_step (i := first + r) (j := first + q) hc h6 rfl rfl (by omega) (by omega) fun v w7 h7 hv => ?_
      rw [hv]
      refine cond_intro (fun g => ⟨rfl, ?_⟩) (fun g => ?_)
      · rw [← he, heq, if_pos g]; exact h7
      · refine swap_step (i := first + r) (j := first + q) h7 rfl rfl (by omega) (by omega) fun w8 h8 => ⟨hi - q, by omega, q, _, rfl, rfl, by omega, h8, by simp [Sort.size_swp, hs2], ?_⟩
        rw [← he, heq, if_neg (by rw [g]; simp)]
    · refine cond_intro (fun g => ?_) (fun g => ?_)
      · rw [hb40] at g
        have g2 : 2 * r + 1 + 1 < hi := by simp at g; omega
        refine ⟨2 * r + 2, rfl, by omega, by omega, ?_, h4⟩
        rw [Sort.siftDown, dif_neg h1, if_pos g]
        rw [dif_pos (show 2 * r + 2 < hi from g2)]
      · rw [hb40] at g
        refine ⟨2 * r + 1, rfl, by omega, by omega, ?_, h4⟩
        rw [Sort.siftDown, dif_neg h1, if_neg (by rw [g]; simp)]
  · refine Let.intro fun w11 e11 => ?_
    have h11 : SdT Ok B w0 w11 s d' := by rw [e11]; exact h2.ext (Ext.drew _)
    refine cond_intro (fun g => ?_) (fun g => ⟨?_, h11⟩)
    · have g2 : 2 * r + 1 + 1 < hi := by simp at g; omega
      refine less_step (i := first + (2 * r + 1)) (j := first + (2 * r + 1) + 1) hc h11 (by simp only [IntKind.wrap_i64]; omega) (by simp only [IntKind.wrap_i64]; omega) (by omega) (by omega) fun v w' h' hv => ⟨?_, h'⟩
      rw [hv]; simp [g2]
    · have g2 : ¬ 2 * r + 1 + 1 < hi := by simp at g; omega
      simp [g2]
theorem c131 (hc : CfT Ok w0 s f c lt) (h : SdT Ok B w0 w s d) {a b : Nat} (hab : a ≤ b) (hb : b ≤ d.size) :
    Calls Try.prog 131 [.slice s.a s.n s.c, .int .i64 (a : Int), .int .i64 (b : Int), .func (.func f) #[] c.toArray].toArray w fun e w' => e = .returned (.tuple [].toArray) ∧ SdT Ok B w0 w' s (Sort.heapSort lt d a b) := by
  have hsz := h.sz
  refine (call131 s a b f c (R := fun v w' => v = .tuple [].toArray ∧ SdT Ok B w0 w' s (Sort.heapSort lt d a b)) ?_).mono fun e w' ⟨v, he, hv, hx⟩ => ⟨by rw [he, hv], hx⟩
  unfold S131
  have e1 : IntKind.wrap .i64 ((b : Int) - (a : Int)) = ((b - a : Nat) : Int) := by simp only [IntKind.wrap_i64]; omega
  have e2 : IntKind.wrap .i64 (((b - a : Nat) : Int) - 1) = ((b - a : Nat) : Int) - 1 := by simp only [IntKind.wrap_i64]; omega
  have e3 : IntKind.wrap .i64 (Int.tdiv (((b - a : Nat) : Int) - 1) 2) = ((((b - a - 1) / 2 + 1 : Nat) : Int) - 1) := by
    rcases Nat.eq_zero_or_pos (b - a) with h0 | h0
    · rw [h0]; decide
    · rw [Int.tdiv_eq_ediv_of_nonneg (by omega)]
      simp only [IntKind.wrap_i64]; omega
  rw [e1, e2, e3]
  refine ⟨by decide, ?_⟩
  refine ⟨fun w1 => ∃ d' : Array ET, SdT Ok B w0 w1 s d' ∧ d'.size = d.size ∧ Sort.heapPop lt a (b - a) d' = Sort.heapSort lt d a b, ?_, ?_⟩
  · rintro w1 ⟨d', h1, hs1, he⟩
    refine Join.dir (LoopV.intro (fun n (x : Int) w3 => ∃ (d2 : Array ET), x = (n : Int) - 1 ∧ n ≤ b - a ∧ SdT Ok B w0 w3 s d2 ∧ d2.size = d.size ∧ Sort.heapPop lt a n d2 = Sort.heapSort lt d a b) (b - a) ⟨d', rfl, Nat.le_refl _, h1, hs1, he⟩ ?_)
    rintro n x w3 ⟨d2, rfl, hn, h3, hs3, he3⟩
    refine cond_intro (fun g => ?_) (fun g => ?_)
    · obtain ⟨k, rfl⟩ : ∃ k, n = k + 1 := ⟨n - 1, by simp at g; omega⟩
      have i0 : ((k + 1 : Nat) : Int) - 1 = (k : Int) := by omega
      rw [i0]
      refine Join.dir (swap_step (i := a) (j := a + k) h3 rfl (by simp only [IntKind.wrap_i64]; omega) (by omega) (by omega) fun w7 h7 => ?_)
      refine (c140 hc h7 (root := 0) (hi := k) (first := a) (by omega) (by simp only [Sort.size_swp]; omega)).mono fun e w8 ⟨he8, h8⟩ => ⟨he8, k, by omega, _, by simp only [IntKind.wrap_i64]; omega, by omega, h8, ?_, ?_⟩
      · have := h8.own.1; have := h3.own.1; simp at *; omega
      · rw [← he3, Sort.heapPop]
    · have : n = 0 := by simp at g; omega
      subst this
      refine ⟨rfl, ?_⟩
      rw [← he3]; exact h3
  · refine LoopV.intro (fun n (x : Int) w3 => ∃ (d2 : Array ET), x = (n : Int) - 1 ∧ n ≤ b - a + 1 ∧ SdT Ok B w0 w3 s d2 ∧ d2.size = d.size ∧ Sort.heapBuild lt (b - a) a n d2 = Sort.heapBuild lt (b - a) a ((b - a - 1) / 2 + 1) d) ((b - a - 1) / 2 + 1) ⟨d, rfl, by omega, h, rfl, rfl⟩ ?_
    rintro n x w3 ⟨d2, rfl, hn, h3, hs3, he3⟩
    refine cond_intro (fun g => ?_) (fun g => ?_)
    · obtain ⟨k, rfl⟩ : ∃ k, n = k + 1 := ⟨n - 1, by simp at g; omega⟩
      have i0 : ((k + 1 : Nat) : Int) - 1 = (k : Int) := by omega
      rw [i0]
      refine Join.dir ((c140 hc h3 (root := k) (hi := b - a) (first := a) (by omega) (by omega)).mono fun e w8 ⟨he8, h8⟩ => ⟨he8, k, by omega, _, by simp only [IntKind.wrap_i64]; omega, by omega, h8, ?_, ?_⟩)
      · have := h8.own.1; have := h3.own.1; simp at *; omega
      · rw [← he3, Sort.heapBuild]
    · have : n = 0 := by simp at g; omega
      subst this
      refine ⟨d2, h3, hs3, ?_⟩
      unfold Sort.heapSort
      rw [← he3]; rfl
/-! ### backwards -/
theorem c134 (h : SdT Ok B w0 w s d) {a b : Nat} (hb0 : 0 < b) (hb : b ≤ d.size) :
    Calls Try.prog 134 [.slice s.a s.n s.c, .int .i64 (a : Int), .int .i64 (b : Int), .func (.func f) #[] c.toArray].toArray w fun e w' => e = .returned (.tuple [].toArray) ∧ SdT Ok B w0 w' s (Sort.reverseRange d a b) := by
  have hsz := h.sz
  refine (call134 s a b f c (R := fun v w' => v = .tuple [].toArray ∧ SdT Ok B w0 w' s (Sort.reverseRange d a b)) ?_).mono fun e w' ⟨v, he, hv, hx⟩ => ⟨by rw [he, hv], hx⟩
  refine Join.dir (LoopV.intro (fun n (x8 x9 : Int) w2 => ∃ (i j : Nat) (d' : Array ET), x8 = (i : Int) ∧ x9 = (j : Int) ∧ n = j - i ∧ j < b ∧ SdT Ok B w0 w2 s d' ∧ d'.size = d.size ∧ Sort.reverseLoop i j d' = Sort.reverseRange d a b) (b - 1 - a)
    ⟨a, b - 1, d, rfl, by simp only [IntKind.wrap_i64]; omega, rfl, by omega, h, rfl, rfl⟩ ?_)
  rintro n x8 x9 w2 ⟨i, j, d', rfl, rfl, rfl, hj, h2, hs2, he⟩
  refine cond_intro (fun g => ?_) (fun g => ?_)
  · have g : i < j := by simpa using g
    refine Join.dir (swap_step (i := i) (j := j) h2 rfl rfl (by omega) (by omega) fun w' h' => ⟨j - 1 - (i + 1), by omega, i + 1, j - 1, _, by simp only [IntKind.wrap_i64]; omega, by simp only [IntKind.wrap_i64]; omega, rfl, by omega, h', by simp [Sort.size_swp, hs2], ?_⟩)
    rw [← he, Sort.reverseLoop.eq_1 i j d', if_pos g]
  · have g : ¬ i < j := by simpa using g
    refine ⟨rfl, ?_⟩
    rw [← he, Sort.reverseLoop.eq_1 i j d', if_neg g]; exact h2
end
end Go.Proofs.Ytoljknamnkkgcaa
/-
  Sorting slices of facts in place: the partitions.
-/
namespace Go.Proofs.Ytoljknamnkkgcaa
open Go Go.VC
set_option maxHeartbeats 1000000
set_option maxRecDepth 100000
section
variable {Ok : ET → Prop} {B : Nat} {w0 w : World} {s : Sl} {d : Array ET} {f : Nat} {c : List Value} {lt : ET → ET → Bool}
/-- 'for i <= j && p(data[i]) { i++ }' -/
theorem up_loop {k : Nat} {w5 : World} {d' : Array ET} (h5 : SdT Ok B w0 w5 s d') (hsz : d'.size ≤ 1000000) {p : ET → Bool} {i j : Nat} {y : Int} (hy : y = (j : Int)) {J : Int → World → Prop} {T : Int → World → (Bool → World → Prop) → Prop} (hi : i ≤ 1000001) (hj : j < d'.size)
    (hT : ∀ (t : Nat) (w20 : World) (K : Bool → World → Prop), t ≤ j → i ≤ t → SdT Ok B w0 w20 s d' → (∀ w21, SdT Ok B w0 w21 s d' → K (p d'[t]!) w21) → T (t : Int) w20 K)
    (hJ : ∀ w7, SdT Ok B w0 w7 s d' → J (Sort.scanUp p d' j i : Nat) w7) {r r2 : Nat} :
    LoopV [(k, .int .i64)] (fun K => K (i : Int) w5) (fun N => fun (x : Int) (w17 : World) =>
      Join [(r, .bool)] (fun (b47 : Bool) (w18 : World) => cond b47 (Join [(r2, .int .i64)] (fun (x6 : Int) (w19 : World) => N x6 w19) (fun J_7 => J_7 (IntKind.wrap .i64 (x + (1 : Int))) w18)) (J x w18)) (fun J_8 =>
        Let w17.drew fun w20 => cond (decide (x ≤ y)) (T x w20 J_8) (J_8 false w20))) := by
  subst hy
  refine LoopV.intro (fun n (x : Int) w => ∃ t : Nat, x = (t : Int) ∧ n = j + 1 - t ∧ i ≤ t ∧ t ≤ 1000001 ∧ SdT Ok B w0 w s d' ∧ Sort.scanUp p d' j t = Sort.scanUp p d' j i) (j + 1 - i) ⟨i, rfl, rfl, Nat.le_refl _, hi, h5, rfl⟩ ?_
  rintro n x w17 ⟨t, rfl, rfl, hit, ht, h17, he⟩
  refine ⟨fun (b : Bool) w18 => b = (decide (t ≤ j) && p d'[t]!) ∧ SdT Ok B w0 w18 s d', ?_, ?_⟩
  · rintro b w18 ⟨hb, h18⟩
    refine cond_intro (fun g => ?_) (fun g => ?_)
    · rw [hb] at g
      have g1 : t ≤ j := by simp at g; exact g.1
      refine Join.dir ⟨j + 1 - (t + 1), by omega, t + 1, by simp only [IntKind.wrap_i64]; omega, rfl, by omega, by omega, h18, ?_⟩
      rw [← he, Sort.scanUp.eq_1 p d' j t, if_pos g]
    · rw [hb] at g
      have : Sort.scanUp p d' j i = t := by rw [← he, Sort.scanUp.eq_1 p d' j t, if_neg (by rw [g]; simp)]
      rw [← this]
      exact hJ _ h18
  · refine Let.intro fun w20 e20 => ?_
    have h20 : SdT Ok B w0 w20 s d' := by rw [e20]; exact h17.ext (Ext.drew _)
    refine cond_intro (fun g => ?_) (fun g => ⟨?_, h20⟩)
    · have g : t ≤ j := by simpa using g
      exact hT t w20 _ g hit h20 fun w21 h21 => ⟨by simp [g], h21⟩
    · have g : ¬ t ≤ j := by simpa using g
      simp [g]
/-- 'for i <= j && p(data[j]) { j-- }' -/
theorem down_loop {k : Nat} {w5 : World} {d' : Array ET} (h5 : SdT Ok B w0 w5 s d') (hsz : d'.size ≤ 1000000) {p : ET → Bool} {i j : Nat} {y : Int} (hy : y = (i : Int)) {J : Int → World → Prop} {T : Int → World → (Bool → World → Prop) → Prop} (hi : 1 ≤ i) (hj : j < d'.size)
    (hT : ∀ (t : Nat) (w20 : World) (K : Bool → World → Prop), t ≤ j → i ≤ t → SdT Ok B w0 w20 s d' → (∀ w21, SdT Ok B w0 w21 s d' → K (p d'[t]!) w21) → T (t : Int) w20 K)
    (hJ : ∀ w7, SdT Ok B w0 w7 s d' → J (Sort.scanDown p d' i j : Nat) w7) {r r2 : Nat} :
    LoopV [(k, .int .i64)] (fun K => K (j : Int) w5) (fun N => fun (x : Int) (w17 : World) =>
      Join [(r, .bool)] (fun (b47 : Bool) (w18 : World) => cond b47 (Join [(r2, .int .i64)] (fun (x6 : Int) (w19 : World) => N x6 w19) (fun J_7 => J_7 (IntKind.wrap .i64 (x - (1 : Int))) w18)) (J x w18)) (fun J_8 =>
        Let w17.drew fun w20 => cond (decide (y ≤ x)) (T x w20 J_8) (J_8 false w20))) := by
  subst hy
  refine LoopV.intro (fun n (x : Int) w => x = (n : Int) ∧ n ≤ j ∧ SdT Ok B w0 w s d' ∧ Sort.scanDown p d' i n = Sort.scanDown p d' i j) j ⟨rfl, Nat.le_refl _, h5, rfl⟩ ?_
  rintro t x w17 ⟨rfl, htj, h17, he⟩
  refine ⟨fun (b : Bool) w18 => b = (decide (i ≤ t) && p d'[t]!) ∧ SdT Ok B w0 w18 s d', ?_, ?_⟩
  · rintro b w18 ⟨hb, h18⟩
    refine cond_intro (fun g => ?_) (fun g => ?_)
    · rw [hb] at g
      have g1 : i ≤ t := by simp at g; exact g.1
      obtain ⟨u, rfl⟩ : ∃ u, t = u + 1 := ⟨t - 1, by omega⟩
      refine Join.dir ⟨u, by omega, by simp only [IntKind.wrap_i64]; omega, by omega, h18, ?_⟩
      rw [← he, Sort.scanDown, if_pos g]
    · rw [hb] at g
      have : Sort.scanDown p d' i j = t := by
        rw [← he]
        cases t with
        | zero => rfl
        | succ u => rw [Sort.scanDown, if_neg (by rw [g]; simp)]
      rw [← this]
      exact hJ _ h18
  · refine Let.intro fun w20 e20 => ?_
    have h20 : SdT Ok B w0 w20 s d' := by rw [e20]; exact h17.ext (Ext.drew _)
    refine cond_intro (fun g => ?_) (fun g => ⟨?_, h20⟩)
    · have g : i ≤ t := by simpa using g
      exact hT t w20 _ htj g h20 fun w21 h21 => ⟨by simp [g], h21⟩
    · have g : ¬ i ≤ t := by simpa using g
      simp [g]
theorem c136 (hc : CfT Ok w0 s f c lt) (h : SdT Ok B w0 w s d) {a b q : Nat} (haq : a ≤ q) (hqb : q < b) (hb : b ≤ d.size) :
    Calls Try.prog 136 [.slice s.a s.n s.c, .int .i64 (a : Int), .int .i64 (b : Int), .int .i64 (q : Int), .func (.func f) #[] c.toArray].toArray w fun e w' => e = .returned (.int .i64 ((Sort.partitionEqual lt d a b q).1 : Nat)) ∧ SdT Ok B w0 w' s (Sort.partitionEqual lt d a b q).2 := by
  have hsz := h.sz
  refine (call136 s a b q f c (R := fun v w' => v = .int .i64 ((Sort.partitionEqual lt d a b q).1 : Nat) ∧ SdT Ok B w0 w' s (Sort.partitionEqual lt d a b q).2) ?_).mono fun e w' ⟨v, he, hv, hx⟩ => ⟨by rw [he, hv], hx⟩
  refine swap_step (i := a) (j := q) h rfl rfl (by omega) (by omega) fun w3 h3 => ?_
  refine Join.dir (LoopV.intro (fun n (x11 x12 : Int) w5 => ∃ (i j : Nat) (d' : Array ET), x11 = (i : Int) ∧ x12 = (j : Int) ∧ n = j + 1 - i ∧ a < i ∧ i ≤ 1000001 ∧ j < b ∧ SdT Ok B w0 w5 s d' ∧ d'.size = d.size ∧ Sort.partEqLoop lt a i j d' = Sort.partitionEqual lt d a b q) (b - 1 + 1 - (a + 1))
    ⟨a + 1, b - 1, _, by simp only [IntKind.wrap_i64]; omega, by simp only [IntKind.wrap_i64]; omega, rfl, by omega, by omega, by omega, h3, by simp [Sort.size_swp], rfl⟩ ?_)
  rintro n x11 x12 w5 ⟨i, j, d', rfl, rfl, rfl, hai, hi6, hjb, h5, hs5, he⟩
  refine Join.dir ?_
  have hu := Sort.scanUp_ge (fun x => !lt d'[a]! x) d' j i
  have hu2 := (Sort.scanUp_spec (fun x => !lt d'[a]! x) d' j _ i rfl).2.1
  rw [Sort.partEqLoop_eq] at he
  have hgd := Sort.partEqLoop_guard lt a i j d'
  have hu3 : Sort.scanUp (fun x => !lt d'[a]! x) d' j i ≤ 1000001 := by
    rcases Nat.lt_or_ge (j + 1) i with h | h
    · rw [Sort.scanUp, if_neg (by simp; omega)]; exact hi6
    · have := hu2 h; omega
  refine ⟨fun (x : Int) w7 => x = (Sort.scanUp (fun x => !lt d'[a]! x) d' j i : Nat) ∧ SdT Ok B w0 w7 s d', ?_, ?_⟩
  · generalize Sort.scanUp (fun x => !lt d'[a]! x) d' j i = i2 at hu hu3 he hgd
    rintro x w7 ⟨rfl, h7⟩
    have hv := Sort.scanDown_le (fun x => lt d'[a]! x) d' i2 j
    refine ⟨fun (x : Int) w8 => x = (Sort.scanDown (fun x => lt d'[a]! x) d' i2 j : Nat) ∧ SdT Ok B w0 w8 s d', ?_, ?_⟩
    · generalize Sort.scanDown (fun x => lt d'[a]! x) d' i2 j = j2 at hv he hgd
      rintro x w8 ⟨rfl, h8⟩
      refine cond_intro (fun g => ?_) (fun g => ?_)
      · have g : i2 > j2 := by simp at g; omega
        rw [if_pos g] at he
        rw [← he]
        exact ⟨rfl, h8⟩
      · have g : ¬ i2 > j2 := by simp at g; omega
        rw [if_neg g] at he
        have := hgd g
        exact swap_step (i := i2) (j := j2) h8 rfl rfl (by omega) (by omega) fun w11 h11 => ⟨j2 - 1 + 1 - (i2 + 1), by omega, i2 + 1, j2 - 1, _, by simp only [IntKind.wrap_i64]; omega, by simp only [IntKind.wrap_i64]; omega, rfl, by omega, by omega, by omega, h11, by simp [Sort.size_swp, hs5], he⟩
    · exact down_loop h7 (by omega) rfl (by omega) (by omega) (fun t w20 K ht hit h20 hK => less_step (i := a) (j := t) hc h20 rfl rfl (by omega) (by omega) fun v w' h' hv => by rw [hv]; exact hK _ h') fun w8 h8 => ⟨rfl, h8⟩
  · exact up_loop h5 (by omega) rfl (by omega) (by omega) (fun t w20 K ht hit h20 hK => less_step (i := a) (j := t) hc h20 rfl rfl (by omega) (by omega) fun v w' h' hv => by rw [hv]; exact hK _ h') fun w8 h8 => ⟨rfl, h8⟩
theorem c137 (hc : CfT Ok w0 s f c lt) (h : SdT Ok B w0 w s d) {a b q : Nat} (haq : a ≤ q) (hqb : q < b) (hb : b ≤ d.size) :
    Calls Try.prog 137 [.slice s.a s.n s.c, .int .i64 (a : Int), .int .i64 (b : Int), .int .i64 (q : Int), .func (.func f) #[] c.toArray].toArray w fun e w' => e = .returned (.tuple [.int .i64 ((Sort.partition lt d a b q).1 : Nat), .bool (Sort.partition lt d a b q).2.1].toArray) ∧ SdT Ok B w0 w' s (Sort.partition lt d a b q).2.2 := by
  have hsz := h.sz
  refine (call137 s a b q f c (R := fun v w' => v = .tuple [.int .i64 ((Sort.partition lt d a b q).1 : Nat), .bool (Sort.partition lt d a b q).2.1].toArray ∧ SdT Ok B w0 w' s (Sort.partition lt d a b q).2.2) ?_).mono fun e w' ⟨v, he, hv, hx⟩ => ⟨by rw [he, hv], hx⟩
  refine swap_step (i := a) (j := q) h rfl rfl (by omega) (by omega) fun w3 h3 => ?_
  have hs3 : (Sort.swp d a q).size = d.size := Sort.size_swp ..
  have ew1 : IntKind.wrap .i64 ((b : Int) - 1) = ((b - 1 : Nat) : Int) := by simp only [IntKind.wrap_i64]; omega
  have ew2 : IntKind.wrap .i64 ((a : Int) + 1) = ((a + 1 : Nat) : Int) := by simp only [IntKind.wrap_i64]; omega
  rw [ew1, ew2]
  obtain ⟨P, he⟩ : ∃ P, P = Sort.partition lt d a b q := ⟨_, rfl⟩
  rw [← he]
  unfold Sort.partition at he
  simp only at he
  generalize Sort.swp d a q = d1 at h3 hs3 he
  have hu := Sort.scanUp_ge (fun x => lt x d1[a]!) d1 (b - 1) (a + 1)
  have hu3 : Sort.scanUp (fun x => lt x d1[a]!) d1 (b - 1) (a + 1) ≤ 1000001 := by
    have := (Sort.scanUp_spec (fun x => lt x d1[a]!) d1 (b - 1) _ (a + 1) rfl).2.1 (by omega); omega
  refine ⟨fun (x : Int) w4 => x = (Sort.scanUp (fun x => lt x d1[a]!) d1 (b - 1) (a + 1) : Nat) ∧ SdT Ok B w0 w4 s d1, ?_, ?_⟩
  rotate_left
  · exact up_loop h3 (by omega) rfl (by omega) (by omega) (fun t w20 K ht hit h20 hK => less_step (i := t) (j := a) hc h20 rfl rfl (by omega) (by omega) fun v w' h' hv => by rw [hv]; exact hK _ h') fun w8 h8 => ⟨rfl, h8⟩
  generalize Sort.scanUp (fun x => lt x d1[a]!) d1 (b - 1) (a + 1) = i0 at hu hu3 he
  rintro x w4 ⟨rfl, h4⟩
  have hv := Sort.scanDown_le (fun x => !lt x d1[a]!) d1 i0 (b - 1)
  refine ⟨fun (x : Int) w5 => x = (Sort.scanDown (fun x => !lt x d1[a]!) d1 i0 (b - 1) : Nat) ∧ SdT Ok B w0 w5 s d1, ?_, ?_⟩
  rotate_left
  · exact down_loop h4 (by omega) rfl (by omega) (by omega) (fun t w20 K ht hit h20 hK => less_step (i := t) (j := a) hc h20 rfl rfl (by omega) (by omega) fun v w' h' hv => by rw [hv]; exact hK _ h') fun w8 h8 => ⟨rfl, h8⟩
  generalize Sort.scanDown (fun x => !lt x d1[a]!) d1 i0 (b - 1) = j0 at hv he
  rintro x w5 ⟨rfl, h5⟩
  refine cond_intro (fun g => ?_) (fun g => ?_)
  · have g : i0 > j0 := by simp at g; omega
    simp only [if_pos g] at he
    rw [he]
    exact swap_step (i := j0) (j := a) h5 rfl rfl (by omega) (by omega) fun w8 h8 => ⟨rfl, h8⟩
  have g : ¬ i0 > j0 := by simp at g; omega
  simp only [if_neg g] at he
  refine swap_step (i := i0) (j := j0) h5 rfl rfl (by omega) (by omega) fun w11 h11 => ?_
  have hs11 : (Sort.swp d1 i0 j0).size = d.size := by rw [Sort.size_swp, hs3]
  generalize hL : Sort.partLoop lt a (i0 + 1) (j0 - 1) (Sort.swp d1 i0 j0) = L at he
  generalize Sort.swp d1 i0 j0 = d2 at h11 hs11 hL
  refine ⟨fun (x : Int) w12 => x = (L.1 : Nat) ∧ L.1 < b ∧ L.2.size = d.size ∧ SdT Ok B w0 w12 s L.2, ?_, ?_⟩
  · rintro x w12 ⟨rfl, hL1, hL2, h12⟩
    refine swap_step (i := L.1) (j := a) h12 rfl rfl (by omega) (by omega) fun w15 h15 => ?_
    rw [he]
    exact ⟨rfl, h15⟩
  refine LoopV.intro (fun n (x11 x12 : Int) w5 => ∃ (i j : Nat) (d' : Array ET), x11 = (i : Int) ∧ x12 = (j : Int) ∧ n = j + 1 - i ∧ a < i ∧ i ≤ 1000001 ∧ j < b ∧ SdT Ok B w0 w5 s d' ∧ d'.size = d.size ∧ Sort.partLoop lt a i j d' = L) (j0 - 1 + 1 - (i0 + 1))
    ⟨i0 + 1, j0 - 1, _, by simp only [IntKind.wrap_i64]; omega, by simp only [IntKind.wrap_i64]; omega, rfl, by omega, by omega, by omega, h11, hs11, hL⟩ ?_
  rintro n x11 x12 w5 ⟨i, j, d', rfl, rfl, rfl, hai, hi6, hjb, h5, hs5, heL⟩
  refine Join.dir ?_
  have hu := Sort.scanUp_ge (fun x => lt x d'[a]!) d' j i
  have hu2 := (Sort.scanUp_spec (fun x => lt x d'[a]!) d' j _ i rfl).2.1
  rw [Sort.partLoop_eq] at heL
  have hgd := Sort.partLoop_guard lt a i j d'
  have hu3 : Sort.scanUp (fun x => lt x d'[a]!) d' j i ≤ 1000001 := by
    rcases Nat.lt_or_ge (j + 1) i with h | h
    · rw [Sort.scanUp, if_neg (by simp; omega)]; exact hi6
    · have := hu2 h; omega
  refine ⟨fun (x : Int) w7 => x = (Sort.scanUp (fun x => lt x d'[a]!) d' j i : Nat) ∧ SdT Ok B w0 w7 s d', ?_, ?_⟩
  · generalize Sort.scanUp (fun x => lt x d'[a]!) d' j i = i2 at hu hu3 heL hgd
    rintro x w7 ⟨rfl, h7⟩
    have hv := Sort.scanDown_le (fun x => !lt x d'[a]!) d' i2 j
    refine ⟨fun (x : Int) w8 => x = (Sort.scanDown (fun x => !lt x d'[a]!) d' i2 j : Nat) ∧ SdT Ok B w0 w8 s d', ?_, ?_⟩
    · generalize Sort.scanDown (fun x => !lt x d'[a]!) d' i2 j = j2 at hv heL hgd
      rintro x w8 ⟨rfl, h8⟩
      refine cond_intro (fun g => ?_) (fun g => ?_)
      · have g : i2 > j2 := by simp at g; omega
        rw [if_pos g] at heL
        rw [← heL]
        exact ⟨rfl, by simp only; omega, hs5, h8⟩
      · have g : ¬ i2 > j2 := by simp at g; omega
        rw [if_neg g] at heL
        have := hgd g
        exact swap_step (i := i2) (j := j2) h8 rfl rfl (by omega) (by omega) fun w11 h11 => ⟨j2 - 1 + 1 - (i2 + 1), by omega, i2 + 1, j2 - 1, _, by simp only [IntKind.wrap_i64]; omega, by simp only [IntKind.wrap_i64]; omega, rfl, by omega, by omega, by omega, h11, by simp [Sort.size_swp, hs5], heL⟩
    · exact down_loop h7 (by omega) rfl (by omega) (by omega) (fun t w20 K ht hit h20 hK => less_step (i := t) (j := a) hc h20 rfl rfl (by omega) (by omega) fun v w' h' hv => by rw [hv]; exact hK _ h') fun w8 h8 => ⟨rfl, h8⟩
  · exact up_loop h5 (by omega) rfl (by omega) (by omega) (fun t w20 K ht hit h20 hK => less_step (i := t) (j := a) hc h20 rfl rfl (by omega) (by omega) fun v w' h' hv => by rw [hv]; exact hK _ h') fun w8 h8 => ⟨rfl, h8⟩
theorem scanSorted_le (lt : ET → ET → Bool) (d : Array ET) (b : Nat) : ∀ (n i : Nat), b - i = n → i ≤ b → i ≤ Sort.scanSorted lt d b i ∧ Sort.scanSorted lt d b i ≤ b := by
  intro n
  induction n with
  | zero => intro i hn hib; rw [Sort.scanSorted, if_neg (by simp; omega)]; exact ⟨Nat.le_refl _, hib⟩
  | succ n ih =>
    intro i hn hib
    rw [Sort.scanSorted]
    split
    · have := ih (i + 1) (by omega) (by omega); omega
    · exact ⟨Nat.le_refl _, hib⟩
theorem c135 (hc : CfT Ok w0 s f c lt) (h : SdT Ok B w0 w s d) {a b : Nat} (hab : a < b) (hb : b ≤ d.size) :
    Calls Try.prog 135 [.slice s.a s.n s.c, .int .i64 (a : Int), .int .i64 (b : Int), .func (.func f) #[] c.toArray].toArray w fun e w' => e = .returned (.bool (Sort.partialInsertionSort lt d a b).2) ∧ SdT Ok B w0 w' s (Sort.partialInsertionSort lt d a b).1 := by
  have hsz := h.sz
  refine (call135 s a b f c (R := fun v w' => v = .bool (Sort.partialInsertionSort lt d a b).2 ∧ SdT Ok B w0 w' s (Sort.partialInsertionSort lt d a b).1) ?_).mono fun e w' ⟨v, he, hv, hx⟩ => ⟨by rw [he, hv], hx⟩
  refine Join.dir (LoopV.intro (fun n (x9 x10 : Int) w2 => ∃ (i : Nat) (d' : Array ET), x9 = (i : Int) ∧ x10 = 5 - (n : Int) ∧ n ≤ 5 ∧ a < i ∧ i ≤ b ∧ SdT Ok B w0 w2 s d' ∧ d'.size = d.size ∧ Sort.partialIns lt a b n i d' = Sort.partialInsertionSort lt d a b) 5
    ⟨a + 1, d, by simp only [IntKind.wrap_i64]; omega, by decide, by omega, by omega, by omega, h, rfl, rfl⟩ ?_)
  rintro n x9 x10 w2 ⟨i, d', rfl, rfl, hn5, hai, hib, h2, hs2, he⟩
  refine cond_intro (fun g => ?_) (fun g => ?_)
  rotate_left
  · have : n = 0 := by simp at g; omega
    subst this
    rw [← he]; exact ⟨rfl, h2⟩
  obtain ⟨m, rfl⟩ : ∃ m, n = m + 1 := ⟨n - 1, by simp at g; omega⟩
  obtain ⟨k1, k2⟩ := scanSorted_le lt d' b _ i rfl hib
  rw [Sort.partialIns_succ] at he
  refine Join.dir ⟨fun (x : Int) w4 => x = (Sort.scanSorted lt d' b i : Nat) ∧ SdT Ok B w0 w4 s d', ?_, ?_⟩
  rotate_left
  · refine LoopV.intro (fun n (x : Int) w => ∃ t : Nat, x = (t : Int) ∧ n = b - t ∧ i ≤ t ∧ t ≤ b ∧ SdT Ok B w0 w s d' ∧ Sort.scanSorted lt d' b t = Sort.scanSorted lt d' b i) (b - i) ⟨i, rfl, rfl, Nat.le_refl _, hib, h2, rfl⟩ ?_
    rintro n x w17 ⟨t, rfl, rfl, hit, ht, h17, he⟩
    refine ⟨fun (b' : Bool) w18 => b' = (decide (t < b) && !lt d'[t]! d'[t - 1]!) ∧ SdT Ok B w0 w18 s d', ?_, ?_⟩
    · rintro b' w18 ⟨hb', h18⟩
      refine cond_intro (fun g => ?_) (fun g => ?_)
      · rw [hb'] at g
        have g1 : t < b := by simp at g; exact g.1
        refine Join.dir ⟨b - (t + 1), by omega, t + 1, by simp only [IntKind.wrap_i64]; omega, rfl, by omega, by omega, h18, ?_⟩
        rw [← he, Sort.scanSorted.eq_1 lt d' b t, if_pos g]
      · rw [hb'] at g
        have : Sort.scanSorted lt d' b i = t := by rw [← he, Sort.scanSorted.eq_1 lt d' b t, if_neg (by rw [g]; simp)]
        rw [← this]
        exact ⟨rfl, h18⟩
    · refine Let.intro fun w20 e20 => ?_
      have h20 : SdT Ok B w0 w20 s d' := by rw [e20]; exact h17.ext (Ext.drew _)
      refine cond_intro (fun g => ?_) (fun g => ⟨?_, h20⟩)
      · have g : t < b := by simpa using g
        exact less_step (i := t) (j := t - 1) hc h20 rfl (by simp only [IntKind.wrap_i64]; omega) (by omega) (by omega) fun v w' h' hv => ⟨by rw [hv]; simp [g], h'⟩
      · have g : ¬ t < b := by simpa using g
        simp [g]
  generalize Sort.scanSorted lt d' b i = t at he k1 k2
  rintro x w4 ⟨rfl, h4⟩
  refine cond_intro (fun g1 => ?_) (fun g1 => ?_)
  · have g1 : t = b := by simp at g1; omega
    rw [if_pos g1] at he
    rw [← he]; exact ⟨rfl, h4⟩
  have g1 : ¬ t = b := by simp at g1; omega
  rw [if_neg g1] at he
  have ew : IntKind.wrap .i64 ((b : Int) - (a : Int)) = ((b - a : Nat) : Int) := by simp only [IntKind.wrap_i64]; omega
  rw [ew]
  refine cond_intro (fun g2 => ?_) (fun g2 => ?_)
  · have g2 : b - a < 50 := by simp at g2; omega
    rw [if_pos g2] at he
    rw [← he]; exact ⟨rfl, h4⟩
  have g2 : ¬ b - a < 50 := by simp at g2; omega
  rw [if_neg g2] at he
  refine swap_step (i := t) (j := t - 1) h4 rfl (by simp only [IntKind.wrap_i64]; omega) (by omega) (by omega) fun w7 h7 => ?_
  have hs7 : (Sort.swp d' t (t - 1)).size = d.size := by rw [Sort.size_swp, hs2]
  generalize Sort.swp d' t (t - 1) = d1 at he h7 hs7
  have ew1 : IntKind.wrap .i64 ((t : Int) - (a : Int)) = ((t - a : Nat) : Int) := by simp only [IntKind.wrap_i64]; omega
  have ew2 : IntKind.wrap .i64 ((b : Int) - (t : Int)) = ((b - t : Nat) : Int) := by simp only [IntKind.wrap_i64]; omega
  rw [ew1, ew2]
  refine ⟨fun w8 => SdT Ok B w0 w8 s (Sort.fixDown lt a t d1) ∧ (Sort.fixDown lt a t d1).size = d.size, ?_, ?_⟩
  · generalize Sort.fixDown lt a t d1 = d2 at he
    rintro w8 ⟨h8, hs8⟩
    refine ⟨fun w9 => SdT Ok B w0 w9 s (Sort.fixUp lt b t d2) ∧ (Sort.fixUp lt b t d2).size = d.size, ?_, ?_⟩
    · rintro w9 ⟨h9, hs9⟩
      exact ⟨m, by omega, t, _, rfl, by simp only [IntKind.wrap_i64]; omega, by omega, by omega, by omega, h9, hs9, he⟩
    · unfold Sort.fixUp
      refine cond_intro (fun g => ?_) (fun g => ?_)
      · have g : b - t ≥ 2 := by simp at g; omega
        rw [if_pos g]
        refine Join.dir (LoopV.intro (fun n (x12 : Int) w11 => ∃ (j : Nat) (e : Array ET), x12 = (j : Int) ∧ n = b - j ∧ t < j ∧ j ≤ b ∧ SdT Ok B w0 w11 s e ∧ e.size = d.size ∧ Sort.shiftUp lt b j e = Sort.shiftUp lt b (t + 1) d2) (b - (t + 1))
          ⟨t + 1, d2, by simp only [IntKind.wrap_i64]; omega, rfl, by omega, by omega, h8, hs8, rfl⟩ ?_)
        rintro n x12 w11 ⟨j, e, rfl, rfl, htj, hjb, h11, hs11, he11⟩
        refine cond_intro (fun g3 => ?_) (fun g3 => ?_)
        · have g3 : j < b := by simpa using g3
          rw [Sort.shiftUp.eq_1 lt b j e, if_pos g3] at he11
          refine Join.dir (Let.intro fun w13 e13 => ?_)
          have h13 : SdT Ok B w0 w13 s e := by rw [e13]; exact h11.ext (Ext.drew _)
          refine less_step (i := j) (j := j - 1) hc h13 rfl (by simp only [IntKind.wrap_i64]; omega) (by omega) (by omega) fun v w14 h14 hv => ?_
          rw [hv]
          refine cond_intro (fun g4 => ?_) (fun g4 => ?_)
          · rw [if_pos g4] at he11
            rw [← he11]; exact ⟨h14, hs11⟩
          · rw [if_neg (by rw [g4]; simp)] at he11
            exact swap_step (i := j) (j := j - 1) h14 rfl (by simp only [IntKind.wrap_i64]; omega) (by omega) (by omega) fun w17 h17 => ⟨b - (j + 1), by omega, j + 1, _, by simp only [IntKind.wrap_i64]; omega, rfl, by omega, by omega, h17, by rw [Sort.size_swp, hs11], he11⟩
        · have g3 : ¬ j < b := by simpa using g3
          rw [Sort.shiftUp.eq_1 lt b j e, if_neg g3] at he11
          rw [← he11]; exact ⟨h11, hs11⟩
      · have g : ¬ b - t ≥ 2 := by simp at g; omega
        rw [if_neg g]; exact ⟨h8, hs8⟩
  · unfold Sort.fixDown
    refine cond_intro (fun g => ?_) (fun g => ?_)
    · have g : t - a ≥ 2 := by simp at g; omega
      rw [if_pos g]
      refine Join.dir (LoopV.intro (fun n (x11 : Int) w19 => ∃ e : Array ET, x11 = (n : Int) ∧ n < b ∧ SdT Ok B w0 w19 s e ∧ e.size = d.size ∧ Sort.shiftDown lt n e = Sort.shiftDown lt (t - 1) d1) (t - 1)
        ⟨d1, by simp only [IntKind.wrap_i64]; omega, by omega, h7, hs7, rfl⟩ ?_)
      rintro n x11 w19 ⟨e, rfl, hnb, h19, hs19, he19⟩
      refine cond_intro (fun g3 => ?_) (fun g3 => ?_)
      · obtain ⟨u, rfl⟩ : ∃ u, n = u + 1 := ⟨n - 1, by simp at g3; omega⟩
        rw [Sort.shiftDown] at he19
        refine Join.dir (Let.intro fun w21 e21 => ?_)
        have h21 : SdT Ok B w0 w21 s e := by rw [e21]; exact h19.ext (Ext.drew _)
        refine less_step (i := u + 1) (j := u) hc h21 rfl (by simp only [IntKind.wrap_i64]; omega) (by omega) (by omega) fun v w22 h22 hv => ?_
        rw [hv]
        refine cond_intro (fun g4 => ?_) (fun g4 => ?_)
        · rw [if_pos g4] at he19
          rw [← he19]; exact ⟨h22, hs19⟩
        · rw [if_neg (by rw [g4]; simp)] at he19
          exact swap_step (i := u + 1) (j := u) h22 rfl (by simp only [IntKind.wrap_i64]; omega) (by omega) (by omega) fun w25 h25 => ⟨u, by omega, _, by simp only [IntKind.wrap_i64]; omega, by omega, h25, by rw [Sort.size_swp, hs19], he19⟩
      · have : n = 0 := by simp at g3; omega
        subst this
        rw [← he19]; exact ⟨h19, hs19⟩
    · have g : ¬ t - a ≥ 2 := by simp at g; omega
      rw [if_neg g]; exact ⟨h7, hs7⟩
end
end Go.Proofs.Ytoljknamnkkgcaa
/-
  Sorting slices of facts in place: pivots, patterns, the whole.
-/
namespace Go.Proofs.Ytoljknamnkkgcaa
open Go Go.VC
set_option maxHeartbeats 1000000
set_option maxRecDepth 100000

theorem c125x (x : Int) (w : World) (h0 : 0 ≤ x) (h1 : x ≤ 18446744073709551615) : Calls Try.prog 125 [.int .u64 x].toArray w fun e w' => e = .returned (.int .i64 (Lib.bitLen x.toNat)) ∧ w' = w := by
  refine (call125 x (R := fun v w' => v = .int .i64 (Lib.bitLen x.toNat) ∧ w' = w) ?_).mono fun e w' ⟨v, he, hv, hx⟩ => ⟨by rw [he, hv], hx⟩
  exact (Go.Proofs.Any.bits_Len64 lays129 x w h0 h1).mono fun e w' ⟨he, hw⟩ => ⟨_, he, rfl, hw⟩
theorem zcRng : (zc Try.prog 207).size = 1 := by kernel_rfl
theorem zcInt : (zc Try.prog 3).size = 1 := by kernel_rfl
theorem zcIntL : (zc Try.prog 3).toList = [.int .i64 0] := by kernel_rfl
theorem two_pow_bitLen : ∀ (n x : Nat), x ≤ n → x ≠ 0 → x < 2 ^ 64 → 2 ^ Lib.bitLen x ≤ 2 * x := by
  intro n
  induction n with
  | zero => intro x h1 h2; omega
  | succ n ih =>
    intro x h1 h2 h3
    rw [Lib.bitLen_half x h2 h3, Nat.pow_add, Nat.pow_one]
    rcases Nat.eq_zero_or_pos (x / 2) with h | h
    · rw [h, show Lib.bitLen 0 = 0 from by decide]; omega
    · have := ih (x / 2) (by omega) (by omega) (by omega)
      omega
theorem and_bound {x y : Int} (h0 : 0 ≤ y) (h1 : y ≤ 2000000) : ∃ r : Nat, bitsI .and .u64 x y = (r : Int) ∧ (r : Int) ≤ y := by
  refine ⟨(BitVec.ofInt 64 x &&& BitVec.ofInt 64 y).toNat, ?_, ?_⟩
  · show IntKind.wrap .u64 _ = _
    rw [IntKind.wrap_u64]
    have := (BitVec.ofInt 64 x &&& BitVec.ofInt 64 y).isLt
    show ((BitVec.ofInt 64 x &&& BitVec.ofInt 64 y).toNat : Int) % _ = _
    omega
  · have h3 : (BitVec.ofInt 64 y).toNat = y.toNat := by
      rw [BitVec.toNat_ofInt]; omega
    have h2 : (BitVec.ofInt 64 x &&& BitVec.ofInt 64 y).toNat ≤ y.toNat := by
      rw [BitVec.toNat_and, h3]; exact Nat.and_le_right
    omega
section
variable {Ok : ET → Prop} {B : Nat} {w0 w : World} {s : Sl} {d : Array ET} {f : Nat} {c : List Value} {lt : ET → ET → Bool}
theorem Sd.ne {q : Nat} {T : TypeId} {l : List Value} (h : SdT Ok B w0 w s d) (hq : w0.heap.size ≤ q) (hn : ¬ BlS s q) {w' : World} (hf : Fr (fun b => b = q) w w') : SdT Ok B w0 w' s d :=
  h.newer hf (fun b hb => by omega) fun a ha e => hn ⟨a, ha, e⟩
theorem c145 (hc : CfT Ok w0 s f c lt) (h : SdT Ok B w0 w s d) {a b q : Nat} {n : Int} {T : TypeId} (ha : a < d.size) (hb : b < d.size) (hq : Blk w q [.int .i64 n] T) (hq0 : w0.heap.size ≤ q) (hqn : ¬ BlS s q) :
    Calls Try.prog 145 [.slice s.a s.n s.c, .int .i64 (a : Int), .int .i64 (b : Int), .pointer (some ⟨q, 0, none⟩), .func (.func f) #[] c.toArray].toArray w fun e w' => ∃ x y : Nat, e = .returned (.tuple [.int .i64 (x : Int), .int .i64 (y : Int)].toArray) ∧ ((x = a ∧ y = b) ∨ (x = b ∧ y = a)) ∧ SdT Ok B w0 w' s d ∧ ∃ m : Int, Blk w' q [.int .i64 m] T := by
  refine (call145 s a b ⟨q, 0⟩ f c (R := fun v w' => ∃ x y : Nat, v = (.tuple [.int .i64 (x : Int), .int .i64 (y : Int)].toArray) ∧ ((x = a ∧ y = b) ∨ (x = b ∧ y = a)) ∧ SdT Ok B w0 w' s d ∧ ∃ m : Int, Blk w' q [.int .i64 m] T) ?_).mono fun e w' ⟨v, he, x, y, hv, hx⟩ => ⟨x, y, by rw [he, hv], hx⟩
  refine Let.intro fun w1 e1 => ?_
  have x1 : Ext w w1 := by rw [e1]; exact Ext.drew _
  refine less_stepF (i := b) (j := a) hc (h.ext x1) rfl rfl hb ha fun v w2 h2 hv x2 => ?_
  have hq2 : Blk w2 q [.int .i64 n] T := hq.ext (x1.trans x2)
  refine cond_intro (fun g => ?_) (fun g => ?_)
  · refine ⟨n, hq2.cell 0, hq2.storeOk rfl (by simp [Value.oneCell']) (by simp), Let.intro fun w3 e3 => ?_⟩
    have hf : Fr (fun i => i = q) w2 w3 := by rw [e3]; exact Fr.put ..
    refine ⟨b, a, rfl, .inr ⟨rfl, rfl⟩, h2.newer hf (fun b hb => by omega) (fun a ha e => hqn ⟨a, ha, e⟩), IntKind.wrap .i64 (n + 1), ?_⟩
    rw [e3]; exact hq2.put (o := 0) (vs := [.int .i64 (IntKind.wrap .i64 (n + 1))])
  · exact ⟨a, b, rfl, .inl ⟨rfl, rfl⟩, h2, n, hq2⟩
theorem c144 (hc : CfT Ok w0 s f c lt) (h : SdT Ok B w0 w s d) {i j k q : Nat} {n : Int} {T : TypeId} (hi : i < d.size) (hj : j < d.size) (hk : k < d.size) (hq : Blk w q [.int .i64 n] T) (hq0 : w0.heap.size ≤ q) (hqn : ¬ BlS s q) :
    Calls Try.prog 144 [.slice s.a s.n s.c, .int .i64 (i : Int), .int .i64 (j : Int), .int .i64 (k : Int), .pointer (some ⟨q, 0, none⟩), .func (.func f) #[] c.toArray].toArray w fun e w' => ∃ x : Nat, e = .returned (.int .i64 (x : Int)) ∧ (x = i ∨ x = j ∨ x = k) ∧ SdT Ok B w0 w' s d ∧ ∃ m : Int, Blk w' q [.int .i64 m] T := by
  refine (call144 s i j k ⟨q, 0⟩ f c (R := fun v w' => ∃ x : Nat, v = (.int .i64 (x : Int)) ∧ (x = i ∨ x = j ∨ x = k) ∧ SdT Ok B w0 w' s d ∧ ∃ m : Int, Blk w' q [.int .i64 m] T) ?_).mono fun e w' ⟨v, he, x, hv, hx⟩ => ⟨x, by rw [he, hv], hx⟩
  refine (c145 hc h hi hj hq hq0 hqn).mono fun e w1 ⟨x1, y1, he, hxy1, h1, m1, hq1⟩ => ⟨_, _, he, ?_⟩
  refine (c145 hc h1 (a := y1) (b := k) (by rcases hxy1 with ⟨h, g⟩ | ⟨h, g⟩ <;> omega) hk hq1 hq0 hqn).mono fun e w2 ⟨x2, y2, he, hxy2, h2, m2, hq2⟩ => ⟨_, _, he, ?_⟩
  refine (c145 hc h2 (a := x1) (b := x2) (by rcases hxy1 with ⟨h, g⟩ | ⟨h, g⟩ <;> omega) (by rcases hxy1 with ⟨h, g⟩ | ⟨h, g⟩ <;> rcases hxy2 with ⟨h', g'⟩ | ⟨h', g'⟩ <;> omega) hq2 hq0 hqn).mono fun e w3 ⟨x3, y3, he, hxy3, h3, m3, hq3⟩ => ⟨_, _, he, y3, rfl, ?_, h3, m3, hq3⟩
  rcases hxy1 with ⟨h, g⟩ | ⟨h, g⟩ <;> rcases hxy2 with ⟨h', g'⟩ | ⟨h', g'⟩ <;> rcases hxy3 with ⟨h'', g''⟩ | ⟨h'', g''⟩ <;> omega
theorem c143 (hc : CfT Ok w0 s f c lt) (h : SdT Ok B w0 w s d) {i q : Nat} {n : Int} {T : TypeId} (hi1 : 1 ≤ i) (hi : i + 1 < d.size) (hq : Blk w q [.int .i64 n] T) (hq0 : w0.heap.size ≤ q) (hqn : ¬ BlS s q) :
    Calls Try.prog 143 [.slice s.a s.n s.c, .int .i64 (i : Int), .pointer (some ⟨q, 0, none⟩), .func (.func f) #[] c.toArray].toArray w fun e w' => ∃ x : Nat, e = .returned (.int .i64 (x : Int)) ∧ i - 1 ≤ x ∧ x ≤ i + 1 ∧ SdT Ok B w0 w' s d ∧ ∃ m : Int, Blk w' q [.int .i64 m] T := by
  have hsz := h.sz
  refine (call143 s i ⟨q, 0⟩ f c (R := fun v w' => ∃ x : Nat, v = (.int .i64 (x : Int)) ∧ i - 1 ≤ x ∧ x ≤ i + 1 ∧ SdT Ok B w0 w' s d ∧ ∃ m : Int, Blk w' q [.int .i64 m] T) ?_).mono fun e w' ⟨v, he, x, hv, hx⟩ => ⟨x, by rw [he, hv], hx⟩
  unfold S143
  rw [show IntKind.wrap .i64 ((i : Int) - 1) = ((i - 1 : Nat) : Int) from by simp only [IntKind.wrap_i64]; omega, show IntKind.wrap .i64 ((i : Int) + 1) = ((i + 1 : Nat) : Int) from by simp only [IntKind.wrap_i64]; omega]
  exact (c144 hc h (i := i - 1) (j := i) (k := i + 1) (by omega) (by omega) (by omega) hq hq0 hqn).mono fun e w1 ⟨x, he, hx, h1, hm⟩ => ⟨_, he, x, rfl, by omega, by omega, h1, hm⟩
theorem c133 (hc : CfT Ok w0 s f c lt) (h : SdT Ok B w0 w s d) {a b : Nat} (hab : a < b) (hb : b ≤ d.size) :
    Calls Try.prog 133 [.slice s.a s.n s.c, .int .i64 (a : Int), .int .i64 (b : Int), .func (.func f) #[] c.toArray].toArray w fun e w' => ∃ (x : Nat) (t : Int), e = .returned (.tuple [.int .i64 (x : Int), .int .i64 t].toArray) ∧ a ≤ x ∧ x < b ∧ SdT Ok B w0 w' s d := by
  have hsz := h.sz
  refine (call133 s a b f c (R := fun v w' => ∃ (x : Nat) (t : Int), v = (.tuple [.int .i64 (x : Int), .int .i64 t].toArray) ∧ a ≤ x ∧ x < b ∧ SdT Ok B w0 w' s d) ?_).mono fun e w' ⟨v, he, x, t, hv, hx⟩ => ⟨x, t, by rw [he, hv], hx⟩
  unfold S133
  have ew : IntKind.wrap .i64 ((b : Int) - (a : Int)) = ((b - a : Nat) : Int) := by simp only [IntKind.wrap_i64]; omega
  rw [ew]
  have ed : IntKind.wrap .i64 (Int.tdiv ((b - a : Nat) : Int) 4) = (((b - a) / 4 : Nat) : Int) := by
    rw [Int.tdiv_eq_ediv_of_nonneg (by omega)]
    simp only [IntKind.wrap_i64]; omega
  rw [ed]
  rw [show IntKind.wrap .i64 ((a : Int) + IntKind.wrap .i64 ((((b - a) / 4 : Nat) : Int) * 1)) = ((a + (b - a) / 4 * 1 : Nat) : Int) from by simp only [IntKind.wrap_i64]; omega,
    show IntKind.wrap .i64 ((a : Int) + IntKind.wrap .i64 ((((b - a) / 4 : Nat) : Int) * 2)) = ((a + (b - a) / 4 * 2 : Nat) : Int) from by simp only [IntKind.wrap_i64]; omega,
    show IntKind.wrap .i64 ((a : Int) + IntKind.wrap .i64 ((((b - a) / 4 : Nat) : Int) * 3)) = ((a + (b - a) / 4 * 3 : Nat) : Int) from by simp only [IntKind.wrap_i64]; omega]
  generalize hL : (b - a) / 4 = L
  have hL2 : L * 4 ≤ b - a := by omega
  refine Let.intro fun w1 e1 => ?_
  have x1 : Ext w w1 := by rw [e1]; exact Ext.alloc ..
  have hb1 : Blk w1 w.heap.size [.int .i64 0] 3 := by rw [e1, ← zcIntL]; simpa using Blk.alloc w (zc Try.prog 3).toList 3
  have h1 := h.ext x1
  have hq0 : w0.heap.size ≤ w.heap.size := h.fr.size
  have hqn : ¬ BlS s w.heap.size := by
    rintro ⟨a, ha, e⟩
    have := (h.own.base ha).2; omega
  generalize w.heap.size = q at hb1 hq0 hqn ⊢
  refine ⟨by decide, by decide, by decide, ?_⟩
  refine ⟨fun (x13 : Int) w2 => ∃ x : Nat, x13 = (x : Int) ∧ a ≤ x ∧ x < b ∧ SdT Ok B w0 w2 s d ∧ ∃ m : Int, Blk w2 q [.int .i64 m] 3, ?_, ?_⟩
  · rintro x13 w2 ⟨x, rfl, hx1, hx2, h2, m, hq2⟩
    refine ⟨m, hq2.cell 0, Join.dir ?_⟩
    exact cond_intro (fun _ => ⟨x, _, rfl, hx1, hx2, h2⟩) (fun _ => cond_intro (fun _ => ⟨x, _, rfl, hx1, hx2, h2⟩) (fun _ => ⟨x, _, rfl, hx1, hx2, h2⟩))
  refine cond_intro (fun g8 => ?_) (fun g8 => ⟨a + L * 2, rfl, by omega, by omega, h1, _, hb1⟩)
  have g8 : 8 ≤ b - a := by simp at g8; omega
  refine ⟨fun (x12 x13 x14 : Int) w4 => ∃ x y z : Nat, x12 = (x : Int) ∧ x13 = (y : Int) ∧ x14 = (z : Int) ∧ a ≤ x ∧ x < b ∧ a ≤ y ∧ y < b ∧ a ≤ z ∧ z < b ∧ SdT Ok B w0 w4 s d ∧ ∃ m : Int, Blk w4 q [.int .i64 m] 3, ?_, ?_⟩
  · rintro x12 x13 x14 w4 ⟨x, y, z, rfl, rfl, rfl, hx1, hx2, hy1, hy2, hz1, hz2, h4, m, hq4⟩
    exact (c144 hc h4 (i := x) (j := y) (k := z) (by omega) (by omega) (by omega) hq4 hq0 hqn).mono fun e w5 ⟨r, he, hr, h5, hm⟩ => ⟨_, he, r, rfl, by omega, by omega, h5, hm⟩
  refine cond_intro (fun g50 => ?_) (fun g50 => ⟨_, _, _, rfl, rfl, rfl, by omega, by omega, by omega, by omega, by omega, by omega, h1, _, hb1⟩)
  have g50 : 50 ≤ b - a := by simp at g50; omega
  refine (c143 hc h1 (i := a + L * 1) (by omega) (by omega) hb1 hq0 hqn).mono fun e w6 ⟨x, he, hx1, hx2, h6, m6, hq6⟩ => ⟨_, he, ?_⟩
  refine (c143 hc h6 (i := a + L * 2) (by omega) (by omega) hq6 hq0 hqn).mono fun e w7 ⟨y, he, hy1, hy2, h7, m7, hq7⟩ => ⟨_, he, ?_⟩
  refine (c143 hc h7 (i := a + L * 3) (by omega) (by omega) hq7 hq0 hqn).mono fun e w8 ⟨z, he, hz1, hz2, h8, m8, hq8⟩ => ⟨_, he, ?_⟩
  exact ⟨x, y, z, rfl, rfl, rfl, by omega, by omega, by omega, by omega, by omega, by omega, h8, m8, hq8⟩
theorem c142 {q : Nat} {n : Int} {T : TypeId} (hq : Blk w q [.int .u64 n] T) :
    Calls Try.prog 142 [.pointer (some ⟨q, 0, none⟩)].toArray w fun e w' => ∃ m : Int, e = .returned (.int .u64 m) ∧ Blk w' q [.int .u64 m] T ∧ Fr (fun b => b = q) w w' := by
  refine (call142 ⟨q, 0⟩ (R := fun v w' => ∃ m : Int, v = .int .u64 m ∧ Blk w' q [.int .u64 m] T ∧ Fr (fun b => b = q) w w') ?_).mono fun e w' ⟨v, he, m, hv, hx⟩ => ⟨m, by rw [he, hv], hx⟩
  have hst : ∀ {w : World} {n m : Int} {K : World → Prop}, Blk w q [.int .u64 n] T → (∀ w', Blk w' q [.int .u64 m] T → Fr (fun b => b = q) w w' → K w') → StoreOk w q 0 [.int .u64 m] 1 ∧ Let (put w q 0 [.int .u64 m]) K := fun h hK =>
    ⟨h.storeOk rfl (by simp [Value.oneCell']) (by simp), Let.intro fun w' e => by subst e; exact hK _ (h.put (o := 0) (vs := [_])) (Fr.put ..)⟩
  refine Let.intro fun w1 e1 => ?_
  have x1 : Ext w w1 := by rw [e1]; exact Ext.drew _
  have h1 := hq.ext x1
  refine ⟨_, h1.cell 0, _, h1.cell 0, by decide, hst h1 fun w2 h2 f2 => Let.intro fun w3 e3 => ?_⟩
  have x3 : Ext w2 w3 := by rw [e3]; exact Ext.drew _
  have h3 := h2.ext x3
  refine ⟨_, h3.cell 0, _, h3.cell 0, by decide, hst h3 fun w4 h4 f4 => Let.intro fun w5 e5 => ?_⟩
  have x5 : Ext w4 w5 := by rw [e5]; exact Ext.drew _
  have h5 := h4.ext x5
  refine ⟨_, h5.cell 0, _, h5.cell 0, by decide, hst h5 fun w6 h6 f6 => ⟨_, h6.cell 0, _, rfl, h6, ?_⟩⟩
  exact ((x1.fr f2).trans (x3.fr f4) fun _ _ h => h).trans (x5.fr f6) fun _ _ h => h
theorem c141 {L : Nat} (h0 : 0 < L) (hL : L ≤ 1000000) :
    Calls Try.prog 141 [.int .i64 (L : Int)].toArray w fun e w' => ∃ m : Nat, e = .returned (.int .u64 (m : Int)) ∧ 1 ≤ m ∧ m ≤ 2 * L ∧ w' = w := by
  refine (call141 L (R := fun v w' => ∃ m : Nat, v = .int .u64 (m : Int) ∧ 1 ≤ m ∧ m ≤ 2 * L ∧ w' = w) ?_).mono fun e w' ⟨v, he, m, hv, hx⟩ => ⟨m, by rw [he, hv], hx⟩
  unfold S141
  have ew : IntKind.wrap .u64 (L : Int) = (L : Int) := by rw [IntKind.wrap_u64]; omega
  rw [ew]
  refine (c125x _ w (by omega) (by omega)).mono fun e w1 ⟨he, hw⟩ => ⟨_, he, by omega, ?_⟩
  have h2 := two_pow_bitLen L L (Nat.le_refl _) (by omega) (by omega)
  have e2 : ((L : Int)).toNat = L := by omega
  rw [e2]
  have e3 : Int.toNat ((Lib.bitLen L : Nat) : Int) = Lib.bitLen L := by omega
  rw [e3]
  have h64 : Lib.bitLen L ≤ 64 := by
    rcases Nat.lt_or_ge 64 (Lib.bitLen L) with h | h
    · have h65 : 2 ^ 65 ≤ 2 ^ Lib.bitLen L := Nat.pow_le_pow_right (by omega) h
      omega
    · exact h
  have e4 : min (Lib.bitLen L) (IntKind.bits .u64) = Lib.bitLen L := Nat.min_eq_left h64
  rw [e4]
  have e5 : (1 : Int) * 2 ^ Lib.bitLen L = ((2 ^ Lib.bitLen L : Nat) : Int) := by rw [Int.one_mul, Int.natCast_pow]; rfl
  rw [e5]
  have h1 : 1 ≤ 2 ^ Lib.bitLen L := Nat.one_le_two_pow
  generalize 2 ^ Lib.bitLen L = M at h1 h2 ⊢
  refine ⟨M, ?_, h1, h2, hw⟩
  congr 1
  rw [IntKind.wrap_u64]; omega
theorem c132 (h : SdT Ok B w0 w s d) {a b : Nat} (hab : a < b) (hb : b ≤ d.size) :
    Calls Try.prog 132 [.slice s.a s.n s.c, .int .i64 (a : Int), .int .i64 (b : Int), .func (.func f) #[] c.toArray].toArray w fun e w' => e = .returned (.tuple [].toArray) ∧ ∃ d' : Array ET, Sort.PermIn a b d d' ∧ SdT Ok B w0 w' s d' := by
  have hsz := h.sz
  refine (call132 s a b f c (R := fun v w' => v = .tuple [].toArray ∧ ∃ d' : Array ET, Sort.PermIn a b d d' ∧ SdT Ok B w0 w' s d') ?_).mono fun e w' ⟨v, he, hv, hx⟩ => ⟨by rw [he, hv], hx⟩
  unfold S132
  have ew : IntKind.wrap .i64 ((b : Int) - (a : Int)) = ((b - a : Nat) : Int) := by simp only [IntKind.wrap_i64]; omega
  rw [ew]
  have ed : IntKind.wrap .i64 (Int.tdiv ((b - a : Nat) : Int) 4) = (((b - a) / 4 : Nat) : Int) := by
    rw [Int.tdiv_eq_ediv_of_nonneg (by omega)]
    simp only [IntKind.wrap_i64]; omega
  rw [ed]
  refine Join.dir (cond_intro (fun g8 => ?_) (fun g8 => ⟨rfl, d, Sort.permIn_refl .., h⟩))
  have g8 : 8 ≤ b - a := by simp at g8; omega
  have hL2 : (b - a) / 4 * 4 ≤ b - a := by omega
  have hL3 : 2 ≤ (b - a) / 4 := by omega
  generalize (b - a) / 4 = L at hL2 hL3
  have u1 : IntKind.wrap .i64 ((L : Int) * 2) = ((L * 2 : Nat) : Int) := by simp only [IntKind.wrap_i64]; omega
  have u2 : IntKind.wrap .i64 ((a : Int) + ((L * 2 : Nat) : Int)) = ((a + L * 2 : Nat) : Int) := by simp only [IntKind.wrap_i64]; omega
  have u3 : IntKind.wrap .i64 (((a + L * 2 : Nat) : Int) - 1) = ((a + L * 2 - 1 : Nat) : Int) := by simp only [IntKind.wrap_i64]; omega
  have u4 : IntKind.wrap .i64 (((a + L * 2 : Nat) : Int) + 1) = ((a + L * 2 + 1 : Nat) : Int) := by simp only [IntKind.wrap_i64]; omega
  rw [u1, u2, u3, u4]
  obtain ⟨n1, n2, n3⟩ := new_var w 207 (z := zc Try.prog 207) (vs := [.int .u64 (IntKind.wrap .u64 ((b - a : Nat) : Int))]) (by rw [zcRng]; rfl) (by simp [Value.oneCell'])
  refine Let.intro fun w2 e2 => ?_
  rw [← e2] at n1 n2 n3
  refine ⟨n1, Let.intro fun w3 e3 => ?_⟩
  rw [← e3] at n2 n3
  have h3 := h.ext n3
  have hq0 : w0.heap.size ≤ w.heap.size := h.fr.size
  have hqn : ¬ BlS s w.heap.size := by
    rintro ⟨a, ha, e⟩
    have := (h.own.base ha).2; omega
  clear n1 e2 e3
  generalize w.heap.size = q at n2 hq0 hqn ⊢
  refine (c141 (L := b - a) (by omega) (by omega)).mono fun e w4 ⟨M, he, hM1, hM2, hw4⟩ => ⟨_, he, ?_⟩
  subst hw4
  refine ⟨by decide, Join.dir (LoopV.intro (fun n (x11 : Int) w6 => ∃ (i : Nat) (d' : Array ET), x11 = (i : Int) ∧ n = a + L * 2 + 2 - i ∧ a + L * 2 - 1 ≤ i ∧ i ≤ a + L * 2 + 2 ∧ Sort.PermIn a b d d' ∧ SdT Ok B w0 w6 s d' ∧ ∃ m : Int, Blk w6 q [.int .u64 m] 207) (a + L * 2 + 2 - (a + L * 2 - 1))
    ⟨a + L * 2 - 1, d, rfl, rfl, by omega, by omega, Sort.permIn_refl .., h3, _, n2⟩ ?_)⟩
  rintro n x11 w6 ⟨i, d', rfl, rfl, hi1, hi2, hp, h6, m, hq6⟩
  refine ⟨by decide, cond_intro (fun g => ?_) (fun g => ⟨rfl, d', hp, h6⟩)⟩
  have g : i ≤ a + L * 2 + 1 := by simp at g; omega
  have hs6 : d'.size = d.size := hp.1
  refine Join.dir ((c142 hq6).mono fun e w8 ⟨m8, he, hq8, hf8⟩ => ⟨_, he, ?_⟩)
  have h8 : SdT Ok B w0 w8 s d' := h6.newer hf8 (fun b hb => by omega) (fun a ha e => hqn ⟨a, ha, e⟩)
  have eM : IntKind.wrap .u64 ((M : Int) - 1) = ((M - 1 : Nat) : Int) := by rw [IntKind.wrap_u64]; omega
  rw [eM]
  obtain ⟨r, er, hr⟩ := and_bound (x := m8) (y := ((M - 1 : Nat) : Int)) (by omega) (by omega)
  rw [er]
  have er2 : IntKind.wrap .i64 (r : Int) = (r : Int) := by simp only [IntKind.wrap_i64]; omega
  rw [er2]
  refine ⟨fun (x12 : Int) w9 => ∃ o : Nat, x12 = (o : Int) ∧ o < b - a ∧ w9 = w8, ?_, ?_⟩
  · rintro x12 w9 ⟨o, rfl, ho, rfl⟩
    refine swap_stepF (i := i) (j := a + o) h8 rfl (by simp only [IntKind.wrap_i64]; omega) (by omega) (by omega) fun w12 h12 f12 => ⟨a + L * 2 + 2 - (i + 1), by omega, i + 1, _, by simp only [IntKind.wrap_i64]; omega, rfl, by omega, by omega, Sort.permIn_trans _ _ _ _ _ hp (Sort.swp_permIn d' a b i (a + o) (by omega) (by omega) (by omega) (by omega) (by omega)), h12, m8, hq8.fr f12 hqn⟩
  · refine cond_intro (fun g2 => ⟨r - (b - a), by simp at g2; simp only [IntKind.wrap_i64]; omega, by omega, rfl⟩) (fun g2 => ⟨r, rfl, by simp at g2; omega, rfl⟩)
theorem c124 (hlt : Sort.SWO lt) (hc : CfT Ok w0 s f c lt) : ∀ (N a b : Nat) (w : World) (d : Array ET) (limit : Int), b - a ≤ N → SdT Ok B w0 w s d → a ≤ b → b ≤ d.size → Sort.Below lt a b d →
    Calls Try.prog 124 [.slice s.a s.n s.c, .int .i64 (a : Int), .int .i64 (b : Int), .int .i64 limit, .func (.func f) #[] c.toArray].toArray w fun e w' => e = .returned (.tuple [].toArray) ∧ ∃ R : Array ET, Sort.PermIn a b d R ∧ Sort.SortedIn lt a b R ∧ SdT Ok B w0 w' s R := by
  intro N
  induction N using Nat.strongRecOn with
  | ind N ih =>
  intro a b w d limit hN h hab hb hB
  have hsz := h.sz
  refine (call124 s a b limit f c (R := fun v w' => v = .tuple [].toArray ∧ ∃ R : Array ET, Sort.PermIn a b d R ∧ Sort.SortedIn lt a b R ∧ SdT Ok B w0 w' s R) ?_).mono fun e w' ⟨v, he, hv, hx⟩ => ⟨by rw [he, hv], hx⟩
  refine Join.dir (LoopV.intro (fun n (x1 x2 x3 : Int) (b10 b11 : Bool) w2 => ∃ (a' b' : Nat) (d' : Array ET), x1 = (a' : Int) ∧ x2 = (b' : Int) ∧ n = b' - a' ∧ a' ≤ b' ∧ b' - a' ≤ b - a ∧ b' ≤ d.size ∧ SdT Ok B w0 w2 s d' ∧ d'.size = d.size ∧ Sort.Below lt a' b' d' ∧
      ∀ R, Sort.PermIn a' b' d' R → Sort.SortedIn lt a' b' R → Sort.PermIn a b d R ∧ Sort.SortedIn lt a b R) (b - a)
    ⟨a, b, d, rfl, rfl, rfl, hab, Nat.le_refl _, hb, h, rfl, hB, fun R h1 h2 => ⟨h1, h2⟩⟩ ?_)
  rintro n x1 x2 x3 b10 b11 w2 ⟨a', b', d', rfl, rfl, rfl, hab', hle, hb', h2, hs2, hB2, hfin⟩
  have ew : IntKind.wrap .i64 ((b' : Int) - (a' : Int)) = ((b' - a' : Nat) : Int) := by simp only [IntKind.wrap_i64]; omega
  rw [ew]
  refine Join.dir (cond_intro (fun g12 => ?_) (fun g12 => ?_))
  · refine (c130 hc h2 hab' (by omega)).mono fun e w4 ⟨he, h4⟩ => ⟨he, rfl, Sort.insertionSort lt d' a' b', ?_⟩
    obtain ⟨p1, p2⟩ := Sort.insertionSort_holds hlt d' a' b' hab' (by omega)
    exact ⟨(hfin _ p1 p2).1, (hfin _ p1 p2).2, h4⟩
  have g12 : 12 < b' - a' := by simp at g12; omega
  refine cond_intro (fun g0 => ?_) (fun g0 => ?_)
  · refine (c131 hc h2 hab' (by omega)).mono fun e w4 ⟨he, h4⟩ => ⟨he, rfl, Sort.heapSort lt d' a' b', ?_⟩
    obtain ⟨p1, p2⟩ := Sort.heapSort_holds hlt d' a' b' hab' (by omega)
    exact ⟨(hfin _ p1 p2).1, (hfin _ p1 p2).2, h4⟩
  -- patterns broken
  refine ⟨fun (x3' : Int) w6 => ∃ d1 : Array ET, Sort.PermIn a' b' d' d1 ∧ SdT Ok B w0 w6 s d1, ?_, ?_⟩
  rotate_left
  · refine cond_intro (fun _ => ?_) (fun _ => ⟨d', Sort.permIn_refl .., h2⟩)
    exact (c132 h2 (by omega) (by omega)).mono fun e w21 ⟨he, hd⟩ => ⟨he, hd⟩
  rintro x3' w6 ⟨d1, p1, h6⟩
  have s1 : d1.size = d.size := by rw [p1.1, hs2]
  refine (c133 hc h6 (a := a') (b := b') (by omega) (by omega)).mono fun e w7 ⟨q, t, he, hq1, hq2, h7⟩ => ⟨_, _, he, ?_⟩
  refine ⟨fun (x13 x14 : Int) w8 => ∃ (q : Nat) (d2 : Array ET), x13 = (q : Int) ∧ a' ≤ q ∧ q < b' ∧ Sort.PermIn a' b' d' d2 ∧ SdT Ok B w0 w8 s d2, ?_, ?_⟩
  rotate_left
  · refine cond_intro (fun _ => ?_) (fun _ => ⟨q, d1, rfl, hq1, hq2, p1, h7⟩)
    refine (c134 h7 (by omega) (by omega)).mono fun e w20 ⟨he, h20⟩ => ⟨he, b' - 1 - (q - a'), _, by simp only [IntKind.wrap_i64]; omega, by omega, by omega, Sort.permIn_trans _ _ _ _ _ p1 (Sort.reverseRange_holds d1 a' b' hab' (by omega)), h20⟩
  rintro x13 x14 w8 ⟨q, d2, rfl, hq1, hq2, p2, h8⟩
  have s2 : d2.size = d.size := by rw [p2.1, hs2]
  have hB3 : Sort.Below lt a' b' d2 := hB2.perm (by omega) p2
  refine ⟨fun (b75 : Bool) w9 => SdT Ok B w0 w9 s d2, ?_, ?_⟩
  rotate_left
  · exact cond_intro (fun _ => cond_intro (fun _ => h8) (fun _ => h8)) (fun _ => h8)
  rintro b75 w9 h9
  refine ⟨fun w10 => ∃ d3 : Array ET, Sort.PermIn a' b' d' d3 ∧ SdT Ok B w0 w10 s d3, ?_, ?_⟩
  rotate_left
  · refine cond_intro (fun _ => ?_) (fun _ => ⟨d2, p2, h9⟩)
    obtain ⟨q1, q2⟩ := Sort.partialInsertionSort_holds hlt d2 a' b' (by omega) (by omega) hB3
    refine (c135 hc h9 (a := a') (b := b') (by omega) (by omega)).mono fun e w19 ⟨he, h19⟩ => ⟨_, he, cond_intro (fun g => ?_) (fun g => ⟨_, Sort.permIn_trans _ _ _ _ _ p2 q1, h19⟩)⟩
    have hR := hfin _ (Sort.permIn_trans _ _ _ _ _ p2 q1) (q2 g)
    exact ⟨rfl, _, hR.1, hR.2, h19⟩
  rintro w10 ⟨d3, p3, h10⟩
  have s3 : d3.size = d.size := by rw [p3.1, hs2]
  have hB4 : Sort.Below lt a' b' d3 := hB2.perm (by omega) p3
  refine ⟨fun (b97 : Bool) w11 => b97 = (decide (0 < a') && !lt d3[a' - 1]! d3[q]!) ∧ SdT Ok B w0 w11 s d3, ?_, ?_⟩
  rotate_left
  · refine Let.intro fun w17 e17 => ?_
    have h17 : SdT Ok B w0 w17 s d3 := by rw [e17]; exact h10.ext (Ext.drew _)
    refine cond_intro (fun g => ?_) (fun g => ⟨?_, h17⟩)
    · have g : 0 < a' := by simpa using g
      exact less_step (i := a' - 1) (j := q) hc h17 (by simp only [IntKind.wrap_i64]; omega) rfl (by omega) (by omega) fun v w' h' hv => ⟨by rw [hv]; simp [g], h'⟩
    · have g : ¬ 0 < a' := by simpa using g
      simp [g]
  rintro b97 w11 ⟨hb97, h11⟩
  refine cond_intro (fun g => ?_) (fun g => ?_)
  · rw [hb97] at g
    have g1 : 0 < a' := by simp at g; exact g.1
    have g2 : lt d3[a' - 1]! d3[q]! = false := by simp at g; exact g.2
    obtain ⟨m1, m2, m3, m4, m5⟩ := Sort.round_eq hlt (Sort.partitionEqual_holds lt) g1 hq1 hq2 (by omega) hB4 g2 (show Sort.partitionEqual lt d3 a' b' q = ((Sort.partitionEqual lt d3 a' b' q).1, (Sort.partitionEqual lt d3 a' b' q).2) from rfl)
    refine (c136 hc h11 hq1 hq2 (by omega)).mono fun e w12 ⟨he, h12⟩ => ⟨_, he, b' - (Sort.partitionEqual lt d3 a' b' q).1, by omega, (Sort.partitionEqual lt d3 a' b' q).1, b', _, rfl, rfl, rfl, m2, by omega, hb', h12, by omega, m4, fun R r1 r2 => ?_⟩
    obtain ⟨t1, t2⟩ := m5 R r1 r2
    exact hfin R (Sort.permIn_trans _ _ _ _ _ p3 t1) t2
  · obtain ⟨m1, m2, m3, m4, m5, m6, m7⟩ := Sort.round_part hlt (Sort.partition_holds lt) hq1 hq2 (by omega) hB4 (show Sort.partition lt d3 a' b' q = ((Sort.partition lt d3 a' b' q).1, (Sort.partition lt d3 a' b' q).2.1, (Sort.partition lt d3 a' b' q).2.2) from rfl)
    refine (c137 hc h11 hq1 hq2 (by omega)).mono fun e w13 ⟨he, h13⟩ => ⟨_, _, he, by decide, Join.dir ?_⟩
    generalize (Sort.partition lt d3 a' b' q).1 = mid at m1 m2 m4 m5 m6 m7 ⊢
    generalize (Sort.partition lt d3 a' b' q).2.2 = d4 at m3 m4 m5 m6 m7 h13 ⊢
    have ew1 : IntKind.wrap .i64 ((mid : Int) + 1) = ((mid + 1 : Nat) : Int) := by simp only [IntKind.wrap_i64]; omega
    rw [ew1]
    refine cond_intro (fun _ => ?_) (fun _ => ?_)
    · refine (ih (mid - a') (by omega) a' mid w13 d4 x3' (Nat.le_refl _) h13 m1 (by omega) m4).mono fun e w15 ⟨he, L, l1, l2, h15⟩ => ⟨he, b' - (mid + 1), by omega, mid + 1, b', L, rfl, rfl, rfl, by omega, by omega, hb', h15, by rw [l1.1]; omega, (m6 L l1 l2).1, fun R r1 r2 => ?_⟩
      obtain ⟨t1, t2⟩ := (m6 L l1 l2).2 R r1 r2
      exact hfin R (Sort.permIn_trans _ _ _ _ _ p3 t1) t2
    · refine (ih (b' - (mid + 1)) (by omega) (mid + 1) b' w13 d4 x3' (Nat.le_refl _) h13 (by omega) (by omega) m5).mono fun e w15 ⟨he, L, l1, l2, h15⟩ => ⟨he, mid - a', by omega, a', mid, L, rfl, rfl, rfl, by omega, by omega, by omega, h15, by rw [l1.1]; omega, (m7 L l1 l2).1, fun R r1 r2 => ?_⟩
      obtain ⟨t1, t2⟩ := (m7 L l1 l2).2 R r1 r2
      exact hfin R (Sort.permIn_trans _ _ _ _ _ p3 t1) t2
/-- slices.SortFunc -/
theorem c108 (hlt : Sort.SWO lt) (hc : CfT Ok w0 s f c lt) (h : SdT Ok B w0 w s d) :
    Calls Try.prog 108 [.slice s.a s.n s.c, .func (.func f) #[] c.toArray].toArray w fun e w' => e = .returned (.tuple [].toArray) ∧ ∃ R : Array ET, R.toList.Perm d.toList ∧ R.toList.Pairwise (fun x y => lt y x = false) ∧ SdT Ok B w0 w' s R := by
  have hsz := h.sz
  refine (call108 s f c (R := fun v w' => v = .tuple [].toArray ∧ ∃ R : Array ET, R.toList.Perm d.toList ∧ R.toList.Pairwise (fun x y => lt y x = false) ∧ SdT Ok B w0 w' s R) ?_).mono fun e w' ⟨v, he, hv, hx⟩ => ⟨by rw [he, hv], hx⟩
  unfold S108
  rw [h.len]
  have ew : IntKind.wrap .u64 ((d.size : Nat) : Int) = ((d.size : Nat) : Int) := by rw [IntKind.wrap_u64]; omega
  rw [ew]
  refine (c125x _ w (by omega) (by omega)).mono fun e w1 ⟨he, hw⟩ => ⟨_, he, ?_⟩
  subst hw
  have h89 := c124 hlt hc d.size 0 d.size w1 d ((Lib.bitLen ((d.size : Nat) : Int).toNat : Nat) : Int) (by omega) h (by omega) (Nat.le_refl _) (.inl rfl)
  rw [h.len] at h89
  refine h89.mono fun e w2 ⟨he, R, p, so, h2⟩ => ⟨he, rfl, R, ?_, ?_, h2⟩
  · have := p.2.2
    have e1 : d.extract 0 d.size = d := by simp
    have e2 : R.extract 0 d.size = R := by rw [← p.1]; simp
    rw [e1, e2] at this; exact this
  · rw [List.pairwise_iff_getElem]
    intro i j hi hj hij
    have hi : i < R.size := by simpa using hi
    have hj : j < R.size := by simpa using hj
    have := so i j (by omega) hij (by rw [← p.1]; exact hj)
    rw [Sd.get hi, Sd.get hj] at this
    exact this
end
end Go.Proofs.Ytoljknamnkkgcaa
/-
  Structs of ints as keys of maps; maps that hold true at a set. For every program.
-/
namespace Go.VC
open Go
set_option linter.unusedVariables false
variable {P : Program}
theorem checkKey_str {t n : Nat} (A : IntStr P t n) {xs : List Int} (hx : xs.length = n) (em : Bool) (d : Nat) (w : World) : (Instr.checkKey em (d + 2) t (ints xs)).run P w = .ok () w := by
  unfold ints
  simp only [Instr.checkKey, Sem.run_bind, under_run A.st, Result.andThen_ok]
  rw [← Array.forIn_toList, forIn_ok (P := P) (w := w)]
  · rfl
  · intro f hf
    have hall := A.flds
    rw [List.all_eq_true] at hall
    have h1 := hall f hf
    simp only [Bool.and_eq_true] at h1
    obtain ⟨hn, hu⟩ := h1
    have he : P.underlying f.type = some (.int .i64) := by split at hu <;> simp_all
    have hn : f.name ≠ "_" := by simpa using hn
    have ho : f.offset < xs.length := by
      have : f.offset ∈ List.range n := by rw [← A.offs]; exact List.mem_map.2 ⟨f, hf, rfl⟩
      simp at this; omega
    have hp := part_int he ho w
    simp [hn, hp, under_run he]
theorem KeyOk.str {κ : Type} [DecidableEq κ] {t n : Nat} (A : IntStr P t n) (hni : ∀ k, P.underlying t ≠ some (.int k)) (f : κ → List Int) (hf : ∀ a b, f a = f b → a = b) (hl : ∀ a, (f a).length = n) : KeyOk P t (fun k => ints (f k)) where
  inj := fun a b h => hf a b (by
    have h : (f a).map (Value.int .i64) = (f b).map (Value.int .i64) := by simpa [ints] using h
    exact List.map_inj_right (fun x y e => by injection e) |>.1 h)
  chk := fun em k w => checkKey_str A (hl k) em 9998 w
  bits := fun k => by
    show Instr.sameBits (9999 + 1) _ _ = true
    simp only [ints, Instr.sameBits, beq_self_eq_true, Bool.true_and, List.all_eq_true]
    intro p hp
    obtain ⟨i, hi, e⟩ := List.getElem_of_mem hp
    rw [List.getElem_zip] at e
    rw [← e]
    simp [Instr.sameBits]
  find := by
    intro k es w hes
    have hfe : (Instr.findKey t (ints (f k)) es).run P w = (Instr.findAsking t (ints (f k)) es).run P w := run_findKey_eq w (by simp [A.st]) _ _
    have inj : ∀ a b, ints (f a) = ints (f b) → a = b := fun a b h => hf a b (by
      have h : (f a).map (Value.int .i64) = (f b).map (Value.int .i64) := by simpa [ints] using h
      exact List.map_inj_right (fun x y e => by injection e) |>.1 h)
    have heq : ∀ a b w, (Op.equal t (ints (f a)) (ints (f b))).run P w = .ok (decide (a = b)) w := fun a b w => by
      show (Op.equalIn (9998 + 2) t _ _).run P w = _
      rw [equalIn_str A (hl a) (hl b) 9998 w]
      by_cases h : a = b
      · subst h; simp
      · have : ¬ f a = f b := fun e => h (hf _ _ e)
        simp [h, this]
    rcases findAsking_of (P := P) (kt := t) (ke := fun k => ints (f k)) inj heq k w es 0 hes with ⟨h1, h2⟩ | ⟨j, x, h1, h2, h3⟩
    · exact .inl ⟨by rw [hfe]; exact h1, h2⟩
    · exact .inr ⟨j, x, h1, h2, by rw [hfe]; simpa using h3⟩

/-! ### a map that holds true at just the members of a set -/
section
variable {κ : Type} [DecidableEq κ] {ke : κ → Value}
abbrev veB : Bool → Value := Value.bool
structure SetM (ke : κ → Value) (w : World) (b : Nat) (S : κ → Prop) : Prop where
  ex : ∃ (l : List (Ent κ Bool)) (c : Nat), Mp ke veB w b l c ∧ ∀ k, (mget l k = some true ∧ S k) ∨ (mget l k = none ∧ ¬ S k)
theorem SetM.fr {M : Nat → Prop} {w w' : World} {b : Nat} {S : κ → Prop} (m : SetM ke w b S) (f : Fr M w w') (hn : ¬ M b) : SetM ke w' b S := by
  obtain ⟨l, c, h1, h2⟩ := m.ex
  exact ⟨l, c, h1.fr f hn, h2⟩
theorem SetM.ext {w w' : World} {b : Nat} {S : κ → Prop} (m : SetM ke w b S) (f : Ext w w') : SetM ke w' b S := m.fr f fun h => h
theorem SetM.congr {w : World} {b : Nat} {S S' : κ → Prop} (m : SetM ke w b S) (h : ∀ k, S' k ↔ S k) : SetM ke w b S' := by
  obtain ⟨l, c, h1, h2⟩ := m.ex
  exact ⟨l, c, h1, fun k => by rcases h2 k with ⟨a, b⟩ | ⟨a, b⟩; exact .inl ⟨a, (h k).2 b⟩; exact .inr ⟨a, fun h3 => b ((h k).1 h3)⟩⟩
theorem SetM.lt {w : World} {b : Nat} {S : κ → Prop} (m : SetM ke w b S) : b < w.heap.size := by obtain ⟨l, c, h1, _⟩ := m.ex; exact h1.bound
theorem SetM.ne_blk {w : World} {b b' T : Nat} {l' : List Value} {S : κ → Prop} (m : SetM ke w b S) (h' : Blk w b' l' T) : b ≠ b' := by obtain ⟨l, c, h1, _⟩ := m.ex; exact h1.ne_blk h'
theorem SetM.made (w : World) : SetM ke (w.alloc (.map #[] 0)) w.heap.size fun _ => False := ⟨[], 0, Mp.made w, fun _ => .inr ⟨rfl, fun h => h⟩⟩
theorem SetM.put {t kt vt : TypeId} (K : KeyOk P kt ke) (ht : P.underlying t = some (.map kt vt)) {w : World} {b : Nat} {S : κ → Prop} (m : SetM ke w b S) (k : κ) :
    ∃ w', (Instr.mapUpdate t (.map (some b)) (ke k) (.bool true)).run P w = .ok () w' ∧ SetM ke w' b (fun a => S a ∨ a = k) ∧ Fr (fun z => z = b) w w' := by
  obtain ⟨l, c, h1, h2⟩ := m.ex
  obtain ⟨w', c', hrun, hmp, hf⟩ := put_run K ht h1 k true
  refine ⟨w', hrun, ⟨_, c', hmp, fun a => ?_⟩, hf⟩
  rw [mget_mput]
  by_cases e : a = k
  · rw [if_pos e]; exact .inl ⟨rfl, .inr e⟩
  · rw [if_neg e]
    rcases h2 a with ⟨p, q⟩ | ⟨p, q⟩
    · exact .inl ⟨p, .inl q⟩
    · exact .inr ⟨p, fun h => by rcases h with h | h; exact q h; exact e h⟩
/-- Is it a member? -/
theorem SetM.look {t kt vt : TypeId} (K : KeyOk P kt ke) (ht : P.underlying t = some (.map kt vt)) (hz : ∀ w, (zeroValue vt).run P w = .ok (.bool false) w) {w : World} {b : Nat} {S : κ → Prop} (m : SetM ke w b S) (k : κ) :
    ∃ r : Bool, (Instr.lookup t (.map (some b)) (ke k) false).run P w = .ok (.bool r) w ∧ (r = true ↔ S k) := by
  obtain ⟨l, c, h1, h2⟩ := m.ex
  have h := (look_run K ht h1 hz k).1
  rcases h2 k with ⟨a, b⟩ | ⟨a, b⟩
  · exact ⟨true, by rw [h, a]; rfl, by simp [b]⟩
  · exact ⟨false, by rw [h, a]; rfl, by simp [b]⟩
/-- The set, as a list of its members without repeats. -/
theorem SetM.list {w : World} {b : Nat} {S : κ → Prop} (m : SetM ke w b S) : ∃ (l : List (Ent κ Bool)) (c : Nat), Mp ke veB w b l c ∧ (l.map (·.1)).Nodup ∧ (∀ k, S k ↔ k ∈ l.map (·.1)) ∧ ∀ x ∈ l, x.2.1 = true := by
  obtain ⟨l, c, h1, h2⟩ := m.ex
  refine ⟨l, c, h1, h1.keys, fun k => ?_, fun x hx => ?_⟩
  · rcases h2 k with ⟨a, b⟩ | ⟨a, b⟩
    · obtain ⟨s, hs⟩ := mget_mem a
      exact ⟨fun _ => List.mem_map.2 ⟨_, hs, rfl⟩, fun _ => b⟩
    · refine ⟨fun h => absurd h b, fun h => ?_⟩
      obtain ⟨x, hx, e⟩ := List.mem_map.1 h
      exact absurd e (mget_none' a x hx)
  · have := mget_some h1.keys hx
    rcases h2 x.1 with ⟨a, b⟩ | ⟨a, b⟩
    · rw [this] at a; simpa using a
    · rw [this] at a; cases a
end
/-! A loop over the entries of a map, nothing being carried in variables. -/
section
variable {κ β : Type} {ke : κ → Value} {ve : β → Value}
theorem rangeM0 {T : Nat} {b c r : Nat} {l : List (Ent κ β)} {w0 : World} {J : World → Prop} {Bd : World → (World → Prop) → Prop}
    (Inv : List (Ent κ β) → World → Prop) (hm : Mp ke ve w0 b l c) (hi : Itr (κ := κ) (β := β) w0 r b c []) (h0 : Inv [] w0)
    (stab : ∀ vis w w', Inv vis w → Fr (fun y => y = r) w w' → Inv vis w')
    (step : ∀ vis x w, x ∈ l → x ∉ vis → vis.Nodup → (∀ y ∈ vis, y ∈ l) → vis.length < l.length → Inv vis w → Mp ke ve w b l c → r < w.heap.size → (Instr.entry (.pointer (some ⟨r, 0, none⟩))).run P w = .ok (.tuple #[ke x.1, ve x.2.1]) w →
      ∀ K : World → Prop, (∀ w', Inv (vis ++ [x]) w' → Fr (fun y => y ≠ r ∧ y ≠ b) w w' → K w') → Bd w K)
    (fin : ∀ vis w, (∀ x ∈ l, x ∈ vis) → vis.Nodup → (∀ y ∈ vis, y ∈ l) → Inv vis w → Mp ke ve w b l c → J w) :
    LoopV [] (fun K => K w0) (fun N => fun (w8 : World) => ∃ (d : Bool) (kv : List Value) (w9 : World), Sem.run P (Instr.next (.pointer (some ⟨r, 0, none⟩)) false T) w8 = .ok (.tuple (Value.bool d :: kv).toArray) w9 ∧
      cond d (Join [] (fun (w10 : World) => N w10) (fun J2 => Bd w9 J2)) (J w9)) := by
  refine LoopV.intro (fun n w => ∃ vis : List (Ent κ β), n = l.length - vis.length ∧ vis.Nodup ∧ (∀ x ∈ vis, x ∈ l) ∧ Itr (κ := κ) (β := β) w r b c vis ∧ Mp ke ve w b l c ∧ Inv vis w) l.length ⟨[], by simp, by simp, by simp, hi, hm, h0⟩ ?_
  rintro n w ⟨vis, rfl, hvn, hvl, hit, hmp, hinv⟩
  obtain ⟨d, kv, w6, hrun, hcase⟩ := next_run (P := P) (T := T) hmp hit hvl
  refine ⟨d, kv, w6, hrun, ?_⟩
  rcases hcase with ⟨rfl, hall, hx6⟩ | ⟨rfl, x, hxl, hxv, hit6, hmp6, hfr6, hent⟩
  · exact fin vis w6 hall hvn hvl (stab _ _ _ hinv (hx6.mono fun _ _ h => h.elim)) (hmp.ext hx6)
  · have hlt : vis.length + 1 ≤ l.length := by
      have := (List.nodup_cons.2 ⟨hxv, hvn⟩).length_le_of_subset (l₂ := l) (by intro y hy; rcases List.mem_cons.1 hy with rfl | hy; exact hxl; exact hvl y hy)
      simpa using this
    have hvn' : (vis ++ [x]).Nodup := by
      rw [List.nodup_append]; exact ⟨hvn, by simp, by intro a ha b hb e; simp at hb; subst hb; subst e; exact hxv ha⟩
    have hvl' : ∀ y ∈ vis ++ [x], y ∈ l := by intro y hy; rcases List.mem_append.1 hy with hy | hy; exact hvl y hy; simp at hy; subst hy; exact hxl
    refine Join.dir (step vis x w6 hxl hxv hvn hvl (by omega) (stab _ _ _ hinv hfr6) hmp6 hit6.bound hent _ fun w' hinv' hfr => ?_)
    exact ⟨l.length - (vis ++ [x]).length, by simp; omega, vis ++ [x], rfl, hvn', hvl', hit6.fr hfr fun h => h.1 rfl, hmp6.fr hfr fun h => h.2 rfl, hinv'⟩
end
end Go.VC
