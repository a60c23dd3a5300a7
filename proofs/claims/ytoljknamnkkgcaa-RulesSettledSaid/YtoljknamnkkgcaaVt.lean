/-
  An element deleted from a slice that the call owns. For every program.
-/
import Derived.Test.YtoljknamnkkgcaaVs
import Derived.Lib.SliceRun
namespace Go.VC
open Go
variable {P : Program}
theorem put_eq : ∀ (vs : List Value) (w : World) (b o : Nat), put w b o vs = w.setCells b o vs
  | [], _, _, _ => rfl
  | v :: r, w, b, o => by rw [VC.put, World.setCells, put_eq r]
theorem setR_mid : ∀ {vs mid pre post : List Value}, vs.length = mid.length → setR (pre ++ (mid ++ post)) pre.length vs = pre ++ (vs ++ post)
  | [], [], pre, post, _ => by simp [setR]
  | v :: r, x :: l, pre, post, h => by
    have h' : r.length = l.length := by simpa using h
    have := setR_mid (vs := r) (mid := l) (pre := pre ++ [v]) (post := post) h'
    simp only [List.append_assoc, List.singleton_append, List.length_append, List.length_singleton] at this
    rw [setR]
    rw [show (pre ++ (x :: l ++ post)).set pre.length v = pre ++ v :: (l ++ post) from by simp]
    exact this
theorem delete_run {t e bytes : Nat} (E : Elem P t e 1 bytes) (hz : ∀ w, (zeroValue e).run P w = .ok (.int .i64 0) w) {B : Nat} {w : World} {s : Sl} {l : List Int} (ho : Own e 1 eI B w s l) {i : Nat} (hi : i < l.length) (ty ty' : Nat) :
    ∃ (s2 : Sl) (w2 : World), (Builtin.append_ #[t, t] ty #[.slice s.a i s.c, .slice (subA s.a s.c (i + 1) 1) (s.n - (i + 1)) (s.c - (i + 1))]).run P w = .ok (.slice s2.a s2.n s2.c) w2 ∧ s2.a = s.a ∧ s2.n = l.length - 1 ∧ s2.c = s.c ∧
      ∃ w3, (Builtin.clear_ #[t] ty' #[.slice (subA s2.a s2.c s2.n 1) (s.n - s2.n) (s2.c - s2.n)]).run P w2 = .ok (.tuple #[]) w3 ∧ Own e 1 eI B w3 s2 (l.eraseIdx i) ∧ Fr (fun b => ∃ a, s.a = some a ∧ a.block = b) w w3 := by
  obtain ⟨ii, z, hi', hz', hsz, hby, hzs⟩ := E.info
  have hsl := ho.sli
  obtain ⟨hn, hll, h⟩ := ho
  rcases h with ⟨_, h0⟩ | ⟨g, cap, cur, hv, hb, hg, hc, hm, hcs, ht⟩
  · omega
  simp only [Value.slice.injEq] at hv
  obtain ⟨ha, hsn, hsc⟩ := hv
  have hbk : Blk w g cur.toList e := by unfold Blk; simpa using hg
  rw [eI_flat] at ht
  have hcur : cur.toList = l.map (Value.int .i64) ++ cur.toList.drop l.length := by
    rw [Nat.mul_one] at ht
    rw [← ht, List.take_append_drop]
  generalize hrest : cur.toList.drop l.length = rest at hcur
  have hlen : cur.toList.length = cap := by simp [hcs]
  have hm' : (l.drop (i + 1)).length = l.length - (i + 1) := by simp
  -- the append
  have happ : (Builtin.append_ #[t, t] ty #[.slice s.a i s.c, .slice (subA s.a s.c (i + 1) 1) (s.n - (i + 1)) (s.c - (i + 1))]).run P w = .ok (.slice s.a (l.length - 1) s.c) (put w g i ((l.drop (i + 1)).map (Value.int .i64))) := by
    by_cases hlast : i + 1 = l.length
    · have := appendNil E (s := ⟨s.a, i, s.c⟩) (s2 := ⟨subA s.a s.c (i + 1) 1, s.n - (i + 1), s.c - (i + 1)⟩) (by simp only; omega) (by simp only; omega) ty w
      simp only at this
      rw [this, show l.drop (i + 1) = [] from List.drop_eq_nil_of_le (by omega), show l.length - 1 = i from by omega]
      rfl
    · have hsub : subA s.a s.c (i + 1) 1 = some ⟨g, i + 1, none⟩ := by
        unfold subA
        rw [if_neg (by omega), ha, Option.map_some, addr_add_plain]; simp
      rw [hsub, ha, hsc, put_eq]
      have hr := run_append_room_cells (P := P) w t ty e ii E.under hi' g 0 i cap ⟨g, i + 1, none⟩ (s.n - (i + 1)) (cap - (i + 1)) ((l.drop (i + 1)).map (Value.int .i64)) (by rw [hsz]; simp; omega)
        (fun j u hu => by
          rw [addr_add_plain, hbk.cell, hcur]
          have hj : j < l.length - (i + 1) := by
            rcases Nat.lt_or_ge j (l.length - (i + 1)) with h | h
            · exact h
            · rw [List.getElem?_eq_none (by simp; omega)] at hu; cases hu
          rw [List.getElem?_append_left (by simp; omega)]
          rw [List.getElem?_map, List.getElem?_drop] at hu
          rw [List.getElem?_map]; exact hu)
        (fun u hu => by obtain ⟨x, _, rfl⟩ := List.mem_map.1 hu; rfl) (by omega)
        (fun j hj => by
          rw [hbk.cell, hsz]
          have : 0 + i * 1 + j < cur.toList.length := by simp at hj; omega
          rw [List.getElem?_eq_getElem this]; rfl)
        (fun j hj => frozen_of_row w g _ cur e hg)
      rw [hr, hsz]
      rw [show i + (s.n - (i + 1)) = l.length - 1 from by omega, show 0 + i * 1 = i from by omega]
  have hb2 := hbk.put (o := i) (vs := (l.drop (i + 1)).map (Value.int .i64))
  have hY : (l.drop i).map (Value.int .i64) = ((l.drop i).map (Value.int .i64)).take (l.length - (i + 1)) ++ ((l.drop i).map (Value.int .i64)).drop (l.length - (i + 1)) := (List.take_append_drop ..).symm
  have hset : setR cur.toList i ((l.drop (i + 1)).map (Value.int .i64)) = (l.take i).map (Value.int .i64) ++ ((l.drop (i + 1)).map (Value.int .i64) ++ (((l.drop i).map (Value.int .i64)).drop (l.length - (i + 1)) ++ rest)) := by
    have := setR_mid (vs := (l.drop (i + 1)).map (Value.int .i64)) (mid := ((l.drop i).map (Value.int .i64)).take (l.length - (i + 1))) (pre := (l.take i).map (Value.int .i64)) (post := ((l.drop i).map (Value.int .i64)).drop (l.length - (i + 1)) ++ rest) (by simp; omega)
    rw [show ((l.take i).map (Value.int .i64)).length = i from by simp; omega] at this
    rw [← this]
    congr 1
    rw [hcur, ← List.append_assoc (((l.drop i).map (Value.int .i64)).take (l.length - (i + 1))), ← hY, ← List.append_assoc, ← List.map_append, List.take_append_drop]
  rw [hset] at hb2
  refine ⟨⟨s.a, l.length - 1, s.c⟩, _, happ, rfl, rfl, rfl, ?_⟩
  generalize hw2 : put w g i ((l.drop (i + 1)).map (Value.int .i64)) = w2 at hb2
  have hf2 : Fr (fun b => b = g) w w2 := by rw [← hw2]; exact Fr.put ..
  have hsub2 : subA s.a s.c (l.length - 1) 1 = some ⟨g, l.length - 1, none⟩ := by
    unfold subA
    rw [if_neg (by omega), ha, Option.map_some, addr_add_plain]; simp
  have hcells : ∀ j, j < 1 → (w2.cell? ⟨g, l.length - 1 + j, none⟩).isSome = true := fun j hj => by
    rw [hb2.cell, List.getElem?_eq_getElem (by simp; omega)]; rfl
  have hclr := Lib.run_clear_slice (P := P) w2 t e ty' (.int .i64 0) E.under hz rfl rfl g (l.length - 1) 1 (s.c - (l.length - 1)) (by omega) hcells (fun j hj => frozen_of_row w2 g _ _ e hb2)
  refine ⟨w2.setCells g (l.length - 1) (List.replicate 1 (.int .i64 0)), ?_, ?_, ?_⟩
  · simp only
    rw [hsub2, show s.n - (l.length - 1) = 1 from by omega]; exact hclr
  · rw [← put_eq]
    have hb3 := hb2.put (o := l.length - 1) (vs := List.replicate 1 (Value.int .i64 0))
    have hset3 := setR_mid (vs := List.replicate 1 (Value.int .i64 0)) (mid := ((l.drop i).map (Value.int .i64)).drop (l.length - (i + 1))) (pre := (l.take i).map (Value.int .i64) ++ (l.drop (i + 1)).map (Value.int .i64)) (post := rest) (by simp; omega)
    rw [show ((l.take i).map (Value.int .i64) ++ (l.drop (i + 1)).map (Value.int .i64)).length = l.length - 1 from by simp; omega, List.append_assoc] at hset3
    rw [hset3] at hb3
    have hel : (l.eraseIdx i).length = l.length - 1 := by rw [List.length_eraseIdx, if_pos hi]
    refine ⟨hel.symm, by rw [eI_flat]; simp, .inr ⟨g, cap, ((l.take i).map (Value.int .i64) ++ (l.drop (i + 1)).map (Value.int .i64) ++ (List.replicate 1 (Value.int .i64 0) ++ rest)).toArray, ?_, hb, hb3, by omega, hm, ?_, ?_⟩⟩
    · simp only [ha, hsc, hel]
    · have : rest.length = cap - l.length := by rw [← hrest, List.length_drop, hlen]
      simp [this]; omega
    · rw [eI_flat, hel, List.eraseIdx_eq_take_drop_succ, List.map_append, Nat.mul_one]
      simp only
      rw [List.take_left' (by simp; omega)]
  · rw [← put_eq]
    exact (hf2.trans (Fr.put _ _ _ _) fun _ _ h => h).mono fun b _ hb => ⟨_, ha, hb.symm⟩
end Go.VC
namespace Go.VC
open Go
variable {P : Program}
theorem fill_list {α : Type} {k : Nat} {enc : α → List Value} {val : α → Value} (hk : ∀ x, (enc x).length = k) (hv : ∀ x, cellsV (val x) = enc x) : ∀ (l pre : List α) (post : List Value), post.length = l.length * k →
    Instr.fill (fun i => some (i * k, k)) ((pre.flatMap enc) ++ post).toArray ((l.zipIdx pre.length).map fun p => (p.2, val p.1)) = some ((pre ++ l).flatMap enc).toArray
  | [], pre, post, h => by
    have : post = [] := List.eq_nil_of_length_eq_zero (by simpa using h)
    subst this
    simp [Instr.fill]
  | x :: r, pre, post, h => by
    have hc : (val x).cells.toList = enc x := by rw [← hv x]; exact cellsV_eq _
    have hcs : (val x).cells.size = k := by rw [← hk x, ← hc]; simp
    have hf := fold_setR' (pre.length * k) (val x).cells ((pre.flatMap enc) ++ post).toArray
    have hpl := flatMap_len hk pre
    have hsplit : post = post.take k ++ post.drop k := (List.take_append_drop ..).symm
    have hlen : k ≤ post.length := by rw [h, List.length_cons, Nat.add_mul]; omega
    have hset : setR ((pre.flatMap enc) ++ post) (pre.length * k) (val x).cells.toList = ((pre ++ [x]).flatMap enc) ++ post.drop k := by
      have := setR_mid (vs := enc x) (mid := post.take k) (pre := pre.flatMap enc) (post := post.drop k) (by simp [hk, hlen])
      rw [hpl] at this
      rw [hc]
      rw [show pre.flatMap enc ++ post = pre.flatMap enc ++ (post.take k ++ post.drop k) from by rw [← hsplit], this]
      simp
    rw [List.zipIdx_cons, List.map_cons, Instr.fill]
    simp only
    rw [if_neg (by simp [hcs, hpl]; omega)]
    rw [hf]
    simp only at hset ⊢
    rw [hset]
    have := fill_list hk hv r (pre ++ [x]) (post.drop k) (by rw [List.length_drop, h, List.length_cons, Nat.add_mul]; omega)
    simp only [List.length_append, List.length_singleton] at this
    rw [this]; simp
/-- A slice literal. -/
theorem buildList_run {α : Type} {t e size bytes : Nat} (E : Elem P t e size bytes) {enc : α → List Value} {val : α → Value} (hk : ∀ x, (enc x).length = size) (hv : ∀ x, cellsV (val x) = enc x) (l : List α) (hl : l ≠ []) (hbig : l.length * size ≤ 16777216) (w : World) :
    (Instr.buildSlice t l.length ((l.zipIdx).map fun p => (p.2, val p.1)).toArray).run P w = .ok (.slice (some ⟨w.heap.size, 0, none⟩) l.length l.length) (w.alloc (.cells (l.flatMap enc).toArray e)) := by
  obtain ⟨i, z, hi, hz, hsz, _, hzs⟩ := E.info
  have hpos := E.pos
  have h0 : 0 < l.length := List.length_pos_iff.2 hl
  have hf := fill_list (k := size) hk hv l [] (((Array.range (l.length * size)).map (z.cells[· % z.cells.size]!)).toList) (by simp)
  simp only [List.flatMap_nil, List.nil_append, List.length_nil, Array.toArray_toList] at hf
  have hsr : (sizeOf e).run P w = .ok size w := by rw [size_run hi, hsz]
  have hzr : (zeroValue e).run P w = .ok z w := by simp [zeroValue, typeInfo, hi, hz]
  simp only [Instr.buildSlice, Sem.run_bind, under_run E.under, Result.andThen_ok, hsr]
  rw [if_neg (by omega)]
  rw [if_neg (Nat.mul_ne_zero (by omega) (by omega))]
  simp only [Sem.run_bind, hzr, Result.andThen_ok, Sem.run_pure, hf, newRow, run_newObj]
  rfl
theorem sli_new {α : Type} {size : Nat} {enc : α → List Value} (w : World) (l : List α) (T : TypeId) : Sli size enc (w.alloc (.cells (l.flatMap enc).toArray T)) ⟨some ⟨w.heap.size, 0, none⟩, l.length, l.length⟩ l :=
  ⟨rfl, Nat.le_refl _, fun _ => ⟨⟨w.heap.size, 0⟩, rfl, (Blk.alloc w _ T).rd⟩⟩
end Go.VC
namespace Go.VC
open Go
variable {P : Program}
/-- Behind an append the old slice still reads as it did. -/
theorem append_old {α : Type} {t e size bytes : Nat} (E : Elem P t e size bytes) {enc : α → List Value} {B : Nat} {w : World} {s : Sl} {l : List α} (h : Own e size enc B w s l) {s2 : Sl} {l2 : List α}
    (h2 : Sli size enc w s2 l2) (hk : ∀ x, (enc x).length = size) (h1 : ∀ x, ∀ v ∈ enc x, v.oneCell' = true) (hlen : (l.length + l2.length) * bytes ≤ 140737488355328) (hlen' : l.length + l2.length ≤ maxLen) (ty : Nat) {s' : Sl} {w' : World}
    (hrun : (Builtin.append_ #[t, t] ty #[.slice s.a s.n s.c, .slice s2.a s2.n s2.c]).run P w = .ok (.slice s'.a s'.n s'.c) w') : Own e size enc B w' s l := by
  by_cases hl : l2 = []
  · subst hl
    rw [appendNil E h.sli.cap h2.len ty w] at hrun
    injection hrun with _ hw
    rw [← hw]; exact h
  obtain ⟨p, hp, hr⟩ := h2.mem hl
  obtain ⟨i, z, hi, hz, hsz, hby, hzs⟩ := E.info
  have hown := h
  obtain ⟨hn, hll, h⟩ := h
  rcases h with ⟨hnil, h0⟩ | ⟨g, cap, cur, hv, hb, hg, hc, hm, hcs, ht⟩
  · exact ⟨hn, hll, .inl ⟨hnil, h0⟩⟩
  · simp only [Value.slice.injEq] at hv
    obtain ⟨ha, hsn, hsc⟩ := hv
    have hbk : Blk w g cur.toList e := by unfold Blk; simpa using hg
    have hfl := flatMap_len hk
    rw [hp, h2.len, ha, hsn, hsc] at hrun
    rcases Nat.lt_or_ge cap (l.length + l2.length) with hgr | hroom
    · obtain ⟨v', w2, hr2, _, hg2⟩ := run_append_arg_grows (P := P) w t ty e i z size bytes E.under hi hz hsz hby hzs E.pos ⟨g, 0, none⟩ l.length cap (l.flatMap enc) (hfl l)
        (fun j u hu => by
          rw [addr_add_plain, Nat.zero_add, hbk.cell]
          rw [← ht, List.getElem?_take] at hu
          split at hu
          · exact hu
          · cases hu) ⟨p.b, p.o, none⟩ l2.length s2.c (l2.flatMap enc) (hfl l2) (fun j u hu => by rw [addr_add_plain]; exact rd_get hr hu) hgr hlen' hlen
      rw [hr2] at hrun
      injection hrun with _ hw
      subst hw
      exact hown.ext ((Fr.grown hg2).mono fun b _ hb => by cases hb)
    · have hr2 := run_append_room_cells (P := P) w t ty e i E.under hi g 0 l.length cap ⟨p.b, p.o, none⟩ l2.length s2.c (l2.flatMap enc) (by rw [hsz]; exact hfl l2) (fun j u hu => by rw [addr_add_plain]; exact rd_get hr hu)
        (fun u hu => by obtain ⟨x, _, hx⟩ := List.mem_flatMap.1 hu; exact h1 x u hx) hroom
        (fun j hj => by
          rw [hbk.cell, hsz]
          have : l.length * size + j < cur.toList.length := by
            rw [hfl] at hj
            have h3 : (l.length + l2.length) * size ≤ cap * size := Nat.mul_le_mul_right _ hroom
            rw [Nat.add_mul] at h3
            simp; omega
          rw [Nat.zero_add, List.getElem?_eq_getElem this]; rfl)
        (fun j hj => frozen_of_row w g _ cur e hg)
      rw [hr2] at hrun
      injection hrun with _ hw
      rw [hsz, Nat.zero_add] at hw
      have hb2 := hbk.put (o := l.length * size) (vs := l2.flatMap enc)
      rw [put_eq, hw] at hb2
      have hsplit : cur.toList = cur.toList.take (l.length * size) ++ cur.toList.drop (l.length * size) := (List.take_append_drop ..).symm
      have hlt : (cur.toList.take (l.length * size)).length = l.length * size := by
        have : l.length * size ≤ cap * size := Nat.mul_le_mul_right _ hc
        simp; omega
      have hsetlen : ∀ (vs cs : List Value) (o : Nat), (setR cs o vs).length = cs.length := by
        intro vs
        induction vs with
        | nil => intro cs o; rfl
        | cons v r ih => intro cs o; rw [setR, ih]; simp
      have hsettake : ∀ (vs cs : List Value) (o k : Nat), k ≤ o → (setR cs o vs).take k = cs.take k := by
        intro vs
        induction vs with
        | nil => intro cs o k _; rfl
        | cons v r ih =>
          intro cs o k hk
          rw [setR, ih _ _ _ (by omega)]
          rw [List.take_set_of_le (by omega)]
      refine ⟨hn, hll, .inr ⟨g, cap, (setR cur.toList (l.length * size) (l2.flatMap enc)).toArray, by rw [ha, hsn, hsc], hb, hb2, hc, hm, ?_, ?_⟩⟩
      · have := hsetlen (l2.flatMap enc) cur.toList (l.length * size)
        simp [this, hcs]
      · simp only
        rw [hsettake _ _ _ _ (Nat.le_refl _)]; exact ht
end Go.VC
namespace Go.VC
open Go
variable {P : Program}
/-- 's[i] = v' of an owned slice, whatever its elements. -/
theorem Own.storeN {α : Type} {T k B : Nat} {enc : α → List Value} (hk : ∀ x, (enc x).length = k) (h1 : ∀ x, ∀ v ∈ enc x, v.oneCell' = true) {w : World} {s : Sl} {l : List α} (h : Own T k enc B w s l) {i : Nat} (hi : i < l.length) (x : α) :
    ∃ p : Pt, s.a = some ⟨p.b, p.o, none⟩ ∧ 0 ≤ (i : Int) ∧ (i : Int) < ((s.n : Nat) : Int) ∧ StoreOk w p.b (p.o + Int.toNat (i : Int) * k) (enc x) k ∧
      Own T k enc B (put w p.b (p.o + Int.toNat (i : Int) * k) (enc x)) s (l.set i x) ∧ Fr (fun b => ∃ a, s.a = some a ∧ a.block = b) w (put w p.b (p.o + Int.toNat (i : Int) * k) (enc x)) := by
  obtain ⟨hn, hl, h⟩ := h
  have hfl := flatMap_len hk
  rcases h with ⟨_, h2⟩ | ⟨g, cap, cur, hv, hb, hg, hc, hm, hsz, ht⟩
  · omega
  · simp only [Value.slice.injEq] at hv
    obtain ⟨ha, h2, h3⟩ := hv
    have hb' : Blk w g cur.toList T := by unfold Blk; simpa using hg
    have e : (⟨g, 0⟩ : Pt).o + Int.toNat (i : Int) * k = i * k := by simp
    have hcur : cur.toList = l.flatMap enc ++ cur.toList.drop (l.length * k) := by rw [← ht, List.take_append_drop]
    generalize hrest : cur.toList.drop (l.length * k) = rest at hcur
    have hsplit : l.flatMap enc = (l.take i).flatMap enc ++ (enc l[i] ++ (l.drop (i + 1)).flatMap enc) := by
      have e1 : l = l.take i ++ l[i] :: l.drop (i + 1) := by rw [← List.drop_eq_getElem_cons hi, List.take_append_drop]
      have e2 : (l.take i ++ l[i] :: l.drop (i + 1)).flatMap enc = (l.take i).flatMap enc ++ (enc l[i] ++ (l.drop (i + 1)).flatMap enc) := by rw [List.flatMap_append, List.flatMap_cons]
      rw [← e2, ← e1]
    have hnew : (l.set i x).flatMap enc = (l.take i).flatMap enc ++ (enc x ++ (l.drop (i + 1)).flatMap enc) := by
      rw [List.set_eq_take_append_cons_drop, if_pos hi, List.flatMap_append, List.flatMap_cons]
    have hil : ((l.take i).flatMap enc).length = i * k := by rw [hfl, List.length_take, Nat.min_eq_left (by omega)]
    have hset : setR cur.toList (i * k) (enc x) = (l.set i x).flatMap enc ++ rest := by
      have := setR_mid (vs := enc x) (mid := enc l[i]) (pre := (l.take i).flatMap enc) (post := (l.drop (i + 1)).flatMap enc ++ rest) (by rw [hk, hk])
      rw [hil] at this
      rw [hnew]
      simp only [List.append_assoc] at this ⊢
      rw [← this]
      congr 1
      rw [hcur, hsplit]
      simp only [List.append_assoc]
    have hbnd : i * k + k ≤ cur.toList.length := by
      have h4 : (i + 1) * k ≤ cap * k := Nat.mul_le_mul_right _ (by omega)
      rw [Nat.add_mul, Nat.one_mul] at h4
      simp [hsz]; omega
    refine ⟨⟨g, 0⟩, ha, by omega, by omega, ?_, ?_, ?_⟩
    · rw [e]; exact hb'.storeOk (hk x) (h1 x) hbnd
    · rw [e]
      have hput := hb'.put (o := i * k) (vs := enc x)
      rw [hset] at hput
      refine ⟨by simp [hn], by rw [hfl], .inr ⟨g, cap, _, by rw [ha, h2, h3]; simp, hb, hput, by simpa using hc, hm, ?_, ?_⟩⟩
      · have h5 : l.length * k ≤ cap * k := Nat.mul_le_mul_right _ hc
        have h6 : rest.length = cap * k - l.length * k := by rw [← hrest, List.length_drop]; simp [hsz]
        simp [hfl, h6]; omega
      · simp only
        rw [List.take_left' (hfl _)]
    · exact (Fr.put _ _ _ _).mono fun b _ hb => ⟨_, ha, hb.symm⟩
end Go.VC
