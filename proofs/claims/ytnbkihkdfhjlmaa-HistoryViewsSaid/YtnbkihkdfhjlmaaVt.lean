/-
  An element deleted from a slice that the call owns. For every program.
-/
import Derived.Test.YtnbkihkdfhjlmaaVs
import Derived.Lib.SliceRun
namespace Go.VC
open Go
variable {P : Program}
theorem put_eq : ∀ (vs : List Value) (w : World) (b o : Nat), put w b o vs = w.setCells b o vs
  | [], _, _, _ => rfl
  | v :: r, w, b, o => by rw [VC.put, World.setCells, put_eq r]
theorem setR_mid : ∀ {vs mid pre post : List Value}, vs.length = mid.length → setR (pre ++ (mid ++ post)) pre.length vs = pre ++ (vs ++ post)
  | [], [], pre, post, _ => by simp [setR]
  | v :: r, x :: l, pre, post, h => by
    have h' : r.length = l.length := by simpa using h
    have := setR_mid (vs := r) (mid := l) (pre := pre ++ [v]) (post := post) h'
    simp only [List.append_assoc, List.singleton_append, List.length_append, List.length_singleton] at this
    rw [setR]
    rw [show (pre ++ (x :: l ++ post)).set pre.length v = pre ++ v :: (l ++ post) from by simp]
    exact this
theorem delete_run {t e bytes : Nat} (E : Elem P t e 1 bytes) (hz : ∀ w, (zeroValue e).run P w = .ok (.int .i64 0) w) {B : Nat} {w : World} {s : Sl} {l : List Int} (ho : Own e 1 eI B w s l) {i : Nat} (hi : i < l.length) (ty ty' : Nat) :
    ∃ (s2 : Sl) (w2 : World), (Builtin.append_ #[t, t] ty #[.slice s.a i s.c, .slice (subA s.a s.c (i + 1) 1) (s.n - (i + 1)) (s.c - (i + 1))]).run P w = .ok (.slice s2.a s2.n s2.c) w2 ∧ s2.a = s.a ∧ s2.n = l.length - 1 ∧ s2.c = s.c ∧
      ∃ w3, (Builtin.clear_ #[t] ty' #[.slice (subA s2.a s2.c s2.n 1) (s.n - s2.n) (s2.c - s2.n)]).run P w2 = .ok (.tuple #[]) w3 ∧ Own e 1 eI B w3 s2 (l.eraseIdx i) ∧ Fr (fun b => ∃ a, s.a = some a ∧ a.block = b) w w3 := by
  obtain ⟨ii, z, hi', hz', hsz, hby, hzs⟩ := E.info
  have hsl := ho.sli
  obtain ⟨hn, hll, h⟩ := ho
  rcases h with ⟨_, h0⟩ | ⟨g, cap, cur, hv, hb, hg, hc, hm, hcs, ht⟩
  · omega
  simp only [Value.slice.injEq] at hv
  obtain ⟨ha, hsn, hsc⟩ := hv
  have hbk : Blk w g cur.toList e := by unfold Blk; simpa using hg
  rw [eI_flat] at ht
  have hcur : cur.toList = l.map (Value.int .i64) ++ cur.toList.drop l.length := by
    rw [Nat.mul_one] at ht
    rw [← ht, List.take_append_drop]
  generalize hrest : cur.toList.drop l.length = rest at hcur
  have hlen : cur.toList.length = cap := by simp [hcs]
  have hm' : (l.drop (i + 1)).length = l.length - (i + 1) := by simp
  -- the append
  have happ : (Builtin.append_ #[t, t] ty #[.slice s.a i s.c, .slice (subA s.a s.c (i + 1) 1) (s.n - (i + 1)) (s.c - (i + 1))]).run P w = .ok (.slice s.a (l.length - 1) s.c) (put w g i ((l.drop (i + 1)).map (Value.int .i64))) := by
    by_cases hlast : i + 1 = l.length
    · have := appendNil E (s := ⟨s.a, i, s.c⟩) (s2 := ⟨subA s.a s.c (i + 1) 1, s.n - (i + 1), s.c - (i + 1)⟩) (by simp only; omega) (by simp only; omega) ty w
      simp only at this
      rw [this, show l.drop (i + 1) = [] from List.drop_eq_nil_of_le (by omega), show l.length - 1 = i from by omega]
      rfl
    · have hsub : subA s.a s.c (i + 1) 1 = some ⟨g, i + 1, none⟩ := by
        unfold subA
        rw [if_neg (by omega), ha, Option.map_some, addr_add_plain]; simp
      rw [hsub, ha, hsc, put_eq]
      have hr := run_append_room_cells (P := P) w t ty e ii E.under hi' g 0 i cap ⟨g, i + 1, none⟩ (s.n - (i + 1)) (cap - (i + 1)) ((l.drop (i + 1)).map (Value.int .i64)) (by rw [hsz]; simp; omega)
        (fun j u hu => by
          rw [addr_add_plain, hbk.cell, hcur]
          have hj : j < l.length - (i + 1) := by
            rcases Nat.lt_or_ge j (l.length - (i + 1)) with h | h
            · exact h
            · rw [List.getElem?_eq_none (by simp; omega)] at hu; cases hu
          rw [List.getElem?_append_left (by simp; omega)]
          rw [List.getElem?_map, List.getElem?_drop] at hu
          rw [List.getElem?_map]; exact hu)
        (fun u hu => by obtain ⟨x, _, rfl⟩ := List.mem_map.1 hu; rfl) (by omega)
        (fun j hj => by
          rw [hbk.cell, hsz]
          have : 0 + i * 1 + j < cur.toList.length := by simp at hj; omega
          rw [List.getElem?_eq_getElem this]; rfl)
        (fun j hj => frozen_of_row w g _ cur e hg)
      rw [hr, hsz]
      rw [show i + (s.n - (i + 1)) = l.length - 1 from by omega, show 0 + i * 1 = i from by omega]
  have hb2 := hbk.put (o := i) (vs := (l.drop (i + 1)).map (Value.int .i64))
  have hY : (l.drop i).map (Value.int .i64) = ((l.drop i).map (Value.int .i64)).take (l.length - (i + 1)) ++ ((l.drop i).map (Value.int .i64)).drop (l.length - (i + 1)) := (List.take_append_drop ..).symm
  have hset : setR cur.toList i ((l.drop (i + 1)).map (Value.int .i64)) = (l.take i).map (Value.int .i64) ++ ((l.drop (i + 1)).map (Value.int .i64) ++ (((l.drop i).map (Value.int .i64)).drop (l.length - (i + 1)) ++ rest)) := by
    have := setR_mid (vs := (l.drop (i + 1)).map (Value.int .i64)) (mid := ((l.drop i).map (Value.int .i64)).take (l.length - (i + 1))) (pre := (l.take i).map (Value.int .i64)) (post := ((l.drop i).map (Value.int .i64)).drop (l.length - (i + 1)) ++ rest) (by simp; omega)
    rw [show ((l.take i).map (Value.int .i64)).length = i from by simp; omega] at this
    rw [← this]
    congr 1
    rw [hcur, ← List.append_assoc (((l.drop i).map (Value.int .i64)).take (l.length - (i + 1))), ← hY, ← List.append_assoc, ← List.map_append, List.take_append_drop]
  rw [hset] at hb2
  refine ⟨⟨s.a, l.length - 1, s.c⟩, _, happ, rfl, rfl, rfl, ?_⟩
  generalize hw2 : put w g i ((l.drop (i + 1)).map (Value.int .i64)) = w2 at hb2
  have hf2 : Fr (fun b => b = g) w w2 := by rw [← hw2]; exact Fr.put ..
  have hsub2 : subA s.a s.c (l.length - 1) 1 = some ⟨g, l.length - 1, none⟩ := by
    unfold subA
    rw [if_neg (by omega), ha, Option.map_some, addr_add_plain]; simp
  have hcells : ∀ j, j < 1 → (w2.cell? ⟨g, l.length - 1 + j, none⟩).isSome = true := fun j hj => by
    rw [hb2.cell, List.getElem?_eq_getElem (by simp; omega)]; rfl
  have hclr := Lib.run_clear_slice (P := P) w2 t e ty' (.int .i64 0) E.under hz rfl rfl g (l.length - 1) 1 (s.c - (l.length - 1)) (by omega) hcells (fun j hj => frozen_of_row w2 g _ _ e hb2)
  refine ⟨w2.setCells g (l.length - 1) (List.replicate 1 (.int .i64 0)), ?_, ?_, ?_⟩
  · simp only
    rw [hsub2, show s.n - (l.length - 1) = 1 from by omega]; exact hclr
  · rw [← put_eq]
    have hb3 := hb2.put (o := l.length - 1) (vs := List.replicate 1 (Value.int .i64 0))
    have hset3 := setR_mid (vs := List.replicate 1 (Value.int .i64 0)) (mid := ((l.drop i).map (Value.int .i64)).drop (l.length - (i + 1))) (pre := (l.take i).map (Value.int .i64) ++ (l.drop (i + 1)).map (Value.int .i64)) (post := rest) (by simp; omega)
    rw [show ((l.take i).map (Value.int .i64) ++ (l.drop (i + 1)).map (Value.int .i64)).length = l.length - 1 from by simp; omega, List.append_assoc] at hset3
    rw [hset3] at hb3
    have hel : (l.eraseIdx i).length = l.length - 1 := by rw [List.length_eraseIdx, if_pos hi]
    refine ⟨hel.symm, by rw [eI_flat]; simp, .inr ⟨g, cap, ((l.take i).map (Value.int .i64) ++ (l.drop (i + 1)).map (Value.int .i64) ++ (List.replicate 1 (Value.int .i64 0) ++ rest)).toArray, ?_, hb, hb3, by omega, hm, ?_, ?_⟩⟩
    · simp only [ha, hsc, hel]
    · have : rest.length = cap - l.length := by rw [← hrest, List.length_drop, hlen]
      simp [this]; omega
    · rw [eI_flat, hel, List.eraseIdx_eq_take_drop_succ, List.map_append, Nat.mul_one]
      simp only
      rw [List.take_left' (by simp; omega)]
  · rw [← put_eq]
    exact (hf2.trans (Fr.put _ _ _ _) fun _ _ h => h).mono fun b _ hb => ⟨_, ha, hb.symm⟩
end Go.VC
namespace Go.VC
open Go
variable {P : Program}
theorem fill_list {α : Type} {k : Nat} {enc : α → List Value} {val : α → Value} (hk : ∀ x, (enc x).length = k) (hv : ∀ x, cellsV (val x) = enc x) : ∀ (l pre : List α) (post : List Value), post.length = l.length * k →
    Instr.fill (fun i => some (i * k, k)) ((pre.flatMap enc) ++ post).toArray ((l.zipIdx pre.length).map fun p => (p.2, val p.1)) = some ((pre ++ l).flatMap enc).toArray
  | [], pre, post, h => by
    have : post = [] := List.eq_nil_of_length_eq_zero (by simpa using h)
    subst this
    simp [Instr.fill]
  | x :: r, pre, post, h => by
    have hc : (val x).cells.toList = enc x := by rw [← hv x]; exact cellsV_eq _
    have hcs : (val x).cells.size = k := by rw [← hk x, ← hc]; simp
    have hf := fold_setR' (pre.length * k) (val x).cells ((pre.flatMap enc) ++ post).toArray
    have hpl := flatMap_len hk pre
    have hsplit : post = post.take k ++ post.drop k := (List.take_append_drop ..).symm
    have hlen : k ≤ post.length := by rw [h, List.length_cons, Nat.add_mul]; omega
    have hset : setR ((pre.flatMap enc) ++ post) (pre.length * k) (val x).cells.toList = ((pre ++ [x]).flatMap enc) ++ post.drop k := by
      have := setR_mid (vs := enc x) (mid := post.take k) (pre := pre.flatMap enc) (post := post.drop k) (by simp [hk, hlen])
      rw [hpl] at this
      rw [hc]
      rw [show pre.flatMap enc ++ post = pre.flatMap enc ++ (post.take k ++ post.drop k) from by rw [← hsplit], this]
      simp
    rw [List.zipIdx_cons, List.map_cons, Instr.fill]
    simp only
    rw [if_neg (by simp [hcs, hpl]; omega)]
    rw [hf]
    simp only at hset ⊢
    rw [hset]
    have := fill_list hk hv r (pre ++ [x]) (post.drop k) (by rw [List.length_drop, h, List.length_cons, Nat.add_mul]; omega)
    simp only [List.length_append, List.length_singleton] at this
    rw [this]; simp
/-- A slice literal. -/
theorem buildList_run {α : Type} {t e size bytes : Nat} (E : Elem P t e size bytes) {enc : α → List Value} {val : α → Value} (hk : ∀ x, (enc x).length = size) (hv : ∀ x, cellsV (val x) = enc x) (l : List α) (hl : l ≠ []) (hbig : l.length * size ≤ 16777216) (w : World) :
    (Instr.buildSlice t l.length ((l.zipIdx).map fun p => (p.2, val p.1)).toArray).run P w = .ok (.slice (some ⟨w.heap.size, 0, none⟩) l.length l.length) (w.alloc (.cells (l.flatMap enc).toArray e)) := by
  obtain ⟨i, z, hi, hz, hsz, _, hzs⟩ := E.info
  have hpos := E.pos
  have h0 : 0 < l.length := List.length_pos_iff.2 hl
  have hf := fill_list (k := size) hk hv l [] (((Array.range (l.length * size)).map (z.cells[· % z.cells.size]!)).toList) (by simp)
  simp only [List.flatMap_nil, List.nil_append, List.length_nil, Array.toArray_toList] at hf
  have hsr : (sizeOf e).run P w = .ok size w := by rw [size_run hi, hsz]
  have hzr : (zeroValue e).run P w = .ok z w := by simp [zeroValue, typeInfo, hi, hz]
  simp only [Instr.buildSlice, Sem.run_bind, under_run E.under, Result.andThen_ok, hsr]
  rw [if_neg (by omega)]
  rw [if_neg (Nat.mul_ne_zero (by omega) (by omega))]
  simp only [Sem.run_bind, hzr, Result.andThen_ok, Sem.run_pure, hf, newRow, run_newObj]
  rfl
theorem sli_new {α : Type} {size : Nat} {enc : α → List Value} (w : World) (l : List α) (T : TypeId) : Sli size enc (w.alloc (.cells (l.flatMap enc).toArray T)) ⟨some ⟨w.heap.size, 0, none⟩, l.length, l.length⟩ l :=
  ⟨rfl, Nat.le_refl _, fun _ => ⟨⟨w.heap.size, 0⟩, rfl, (Blk.alloc w _ T).rd⟩⟩
end Go.VC
