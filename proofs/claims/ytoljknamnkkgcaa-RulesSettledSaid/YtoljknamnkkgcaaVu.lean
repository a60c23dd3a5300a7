/-
  Slices whose room lies in a block of their own, from some place on; blocks whose cells are a function; an entry deleted from a map; the nil map. For every program.
-/
import Derived.Test.YtoljknamnkkgcaaVt
namespace Go.VC
open Go
variable {P : Program}

/-! ### a slice whose whole room lies in one block -/
/-- The slice reads as l, and all of its room lies in a block of type T, from block B on. -/
structure Tl {α : Type} (T size : Nat) (enc : α → List Value) (B : Nat) (w : World) (s : Sl) (l : List α) : Prop where
  len : s.n = l.length
  cap : s.n ≤ s.c
  room : 0 < s.c → ∃ (g o : Nat) (cur : List Value), s.a = some ⟨g, o, none⟩ ∧ B ≤ g ∧ Blk w g cur T ∧ o + s.c * size ≤ cur.length ∧ (cur.drop o).take (l.length * size) = l.flatMap enc
theorem Tl.nil {α : Type} (T size : Nat) (enc : α → List Value) (B : Nat) (w : World) (a : Option Addr) : Tl T size enc B w ⟨a, 0, 0⟩ ([] : List α) := ⟨rfl, Nat.le_refl _, fun h => absurd h (Nat.lt_irrefl _)⟩
theorem Tl.sli {α : Type} {T size B : Nat} {enc : α → List Value} {w : World} {s : Sl} {l : List α} (h : Tl T size enc B w s l) : Sli size enc w s l := by
  refine ⟨h.len, h.cap, fun hl => ?_⟩
  have h0 : 0 < l.length := List.length_pos_iff.2 hl
  obtain ⟨g, o, cur, ha, _, hb, _, ht⟩ := h.room (by have := h.len; have := h.cap; omega)
  refine ⟨⟨g, o⟩, ha, hb.rd_drop fun i v hv => ?_⟩
  rw [← ht, List.getElem?_take] at hv
  split at hv
  · rwa [List.getElem?_drop] at hv
  · cases hv
/-- The blocks of a slice that has room. -/
def Rm (s : Sl) (b : Nat) : Prop := 0 < s.c ∧ ∃ a, s.a = some a ∧ a.block = b
theorem Tl.fr {α : Type} {T size B : Nat} {enc : α → List Value} {M : Nat → Prop} {w w' : World} {s : Sl} {l : List α} (h : Tl T size enc B w s l) (f : Fr M w w') (hn : ∀ b, Rm s b → ¬ M b) : Tl T size enc B w' s l := by
  refine ⟨h.len, h.cap, fun hc => ?_⟩
  obtain ⟨g, o, cur, ha, hB, hb, r⟩ := h.room hc
  exact ⟨g, o, cur, ha, hB, hb.fr f (hn g ⟨hc, _, ha, rfl⟩), r⟩
theorem Tl.ext {α : Type} {T size B : Nat} {enc : α → List Value} {w w' : World} {s : Sl} {l : List α} (h : Tl T size enc B w s l) (f : Ext w w') : Tl T size enc B w' s l := h.fr f fun _ _ h => h
theorem Tl.base {α : Type} {T size B : Nat} {enc : α → List Value} {w : World} {s : Sl} {l : List α} (h : Tl T size enc B w s l) {b : Nat} (hb : Rm s b) : B ≤ b ∧ b < w.heap.size ∧ ∃ cur, Blk w b cur T := by
  obtain ⟨hc, a, ha, rfl⟩ := hb
  obtain ⟨g, o, cur, ha', hB, hk, _⟩ := h.room hc
  rw [ha] at ha'; cases ha'
  exact ⟨hB, hk.lt, cur, hk⟩
theorem Tl.mono {α : Type} {T size B B' : Nat} {enc : α → List Value} {w : World} {s : Sl} {l : List α} (h : Tl T size enc B w s l) (hB : B' ≤ B) : Tl T size enc B' w s l := by
  refine ⟨h.len, h.cap, fun hc => ?_⟩
  obtain ⟨g, o, cur, ha, hb, r⟩ := h.room hc
  exact ⟨g, o, cur, ha, Nat.le_trans hB hb, r⟩
theorem Own.tl {α : Type} {T size B : Nat} {enc : α → List Value} {w : World} {s : Sl} {l : List α} (h : Own T size enc B w s l) : Tl T size enc B w s l := by
  obtain ⟨hn, hl, h⟩ := h
  rcases h with ⟨h1, h2⟩ | ⟨g, cap, cur, hv, hb, hg, hc, hm, hcs, ht⟩
  · simp only [Value.slice.injEq] at h1
    refine ⟨hn, by omega, fun h => by omega⟩
  · simp only [Value.slice.injEq] at hv
    obtain ⟨ha, h2, h3⟩ := hv
    refine ⟨hn, by omega, fun _ => ⟨g, 0, cur.toList, ha, hb, by unfold Blk; simpa using hg, by rw [h3]; simp [hcs], by simpa using ht⟩⟩
/-- 's[m:]' -/
theorem Tl.drop {α : Type} {T size B : Nat} {enc : α → List Value} (hk : ∀ x, (enc x).length = size) {w : World} {s : Sl} {l : List α} (h : Tl T size enc B w s l) {m : Nat} (hm : m ≤ l.length) : Tl T size enc B w ⟨subA s.a s.c m size, s.n - m, s.c - m⟩ (l.drop m) := by
  have h1 := h.len
  have h2 := h.cap
  refine ⟨by simp [h1], by simp only; omega, fun hc => ?_⟩
  simp only at hc
  obtain ⟨g, o, cur, ha, hB, hb, hr, ht⟩ := h.room (by omega)
  refine ⟨g, o + m * size, cur, ?_, hB, hb, ?_, ?_⟩
  · simp only [subA]
    rw [if_neg (by omega), ha, Option.map_some, addr_add_plain]
  · simp only
    rw [Nat.add_assoc, ← Nat.add_mul, show m + (s.c - m) = s.c from by omega]; exact hr
  · have e : l.flatMap enc = (l.take m).flatMap enc ++ (l.drop m).flatMap enc := by rw [← List.flatMap_append, List.take_append_drop]
    have hle : ((l.take m).flatMap enc).length = m * size := by rw [flatMap_len hk, List.length_take, Nat.min_eq_left hm]
    rw [e] at ht
    have h3 : (cur.drop (o + m * size)) = (cur.drop o).drop (m * size) := by rw [List.drop_drop]
    rw [h3, List.length_drop]
    have h4 := congrArg (List.drop (m * size)) ht
    rw [List.drop_take, List.drop_left' hle] at h4
    rw [← h4, Nat.sub_mul]
theorem Rm.drop {s : Sl} {m size b : Nat} (hm : m ≤ s.c) (h : Rm ⟨subA s.a s.c m size, s.n - m, s.c - m⟩ b) : Rm s b := by
  obtain ⟨hc, a, ha, hb⟩ := h
  simp only at hc
  unfold subA at ha
  simp only at ha
  rw [if_neg (by omega)] at ha
  cases hs : s.a with
  | none => rw [hs] at ha; cases ha
  | some a0 =>
    rw [hs] at ha
    simp only [Option.map_some, Option.some.injEq] at ha
    subst ha
    refine ⟨by omega, a0, hs, ?_⟩
    rw [← hb]
    unfold Addr.add; split <;> rfl
/-- 'append(s, x)' -/
theorem Tl.append {α : Type} {t e size bytes : Nat} (E : Elem P t e size bytes) {enc : α → List Value} {B : Nat} {w : World} {s : Sl} {l : List α} (h : Tl e size enc B w s l) {x : α} {v : Value} (hv : cellsV v = enc x) (hk : ∀ x, (enc x).length = size) (h1 : ∀ x, ∀ v ∈ enc x, v.oneCell' = true)
    (hbig : size ≤ 16777216) (hlen : (l.length + 1) * bytes ≤ 140737488355328) (hlen' : l.length + 1 ≤ maxLen) (hB : B ≤ w.heap.size) (ty : Nat) :
    ∃ (s1 : Sl) (w1 : World), (Instr.buildSlice t 1 [(0, v)].toArray).run P w = .ok (.slice s1.a s1.n s1.c) w1 ∧ Ext w w1 ∧
      ∃ (s' : Sl) (w' : World), (Builtin.append_ #[t, t] ty #[.slice s.a s.n s.c, .slice s1.a s1.n s1.c]).run P w1 = .ok (.slice s'.a s'.n s'.c) w' ∧ Tl e size enc B w' s' (l ++ [x]) ∧ Fr (Rm s) w1 w' ∧ ((∀ b, Rm s' b → Rm s b) ∨ ∀ b, Rm s' b → w.heap.size ≤ b) := by
  have hb := buildOne_run E hv (hk x) hbig w
  have hx := Ext.alloc w (.cells (enc x).toArray e)
  refine ⟨⟨some ⟨w.heap.size, 0, none⟩, 1, 1⟩, _, hb, hx, ?_⟩
  have hxb : Blk (w.alloc (.cells (enc x).toArray e)) w.heap.size (enc x) e := Blk.alloc w (enc x) e
  have h' := h.ext hx
  generalize w.alloc (.cells (enc x).toArray e) = w1 at hx hxb h'
  obtain ⟨i, z, hi, hz, hsz, hby, hzs⟩ := E.info
  have hfl := flatMap_len hk
  have hpos := E.pos
  have hn := h.len
  have hcap := h.cap
  have hxl : (enc x).length = size := hk x
  have hnew : ∀ {s0 : Sl}, s0 = ⟨none, 0, 0⟩ → l = [] → ∃ (s' : Sl) (w' : World), (Builtin.append_ #[t, t] ty #[.slice s0.a s0.n s0.c, .slice (some ⟨w.heap.size, 0, none⟩) 1 1]).run P w1 = .ok (.slice s'.a s'.n s'.c) w' ∧ Tl e size enc B w' s' (l ++ [x]) ∧ Fr (Rm s) w1 w' ∧ ∀ b, Rm s' b → w.heap.size ≤ b := by
    intro s0 h0 hl
    subst h0
    subst hl
    obtain ⟨s', w', hr, ho, hf⟩ := appendOwn E (Own.nil (α := α) e size enc w1.heap.size w1) (s2 := ⟨some ⟨w.heap.size, 0, none⟩, 1, 1⟩) (l2 := [x]) rfl rfl (by simpa using hxb.rd) hk h1 (by simpa using hlen) (by simpa using hlen') (Nat.le_refl _) ty
    have hz1 := hx.size
    exact ⟨s', w', hr, ho.tl.mono (by omega), hf.mono (fun b _ ⟨a, ha, _⟩ => by cases ha), fun b hb => by have := (ho.tl.base hb).1; omega⟩
  rcases Nat.lt_or_ge s.c (l.length + 1) with hgr | hroom
  · -- a new block
    cases ha : s.a with
    | none =>
      have hc0 : s.c = 0 := by
        rcases Nat.eq_zero_or_pos s.c with h | h
        · exact h
        · obtain ⟨g, o, cur, ha', _⟩ := h'.room h; rw [ha] at ha'; cases ha'
      have hl : l = [] := List.eq_nil_of_length_eq_zero (by omega)
      obtain ⟨s', w', hr, ho, hf, hb'⟩ := hnew (s0 := ⟨none, 0, 0⟩) rfl hl
      refine ⟨s', w', ?_, ho, hf, .inr hb'⟩
      rw [show s.n = 0 from by omega, hc0]; exact hr
    | some a0 =>
      obtain ⟨b0, o0, sp0⟩ := a0
      have hcells : ∀ j u, (l.flatMap enc)[j]? = some u → w1.cell? ((⟨b0, o0, sp0⟩ : Addr).add j) = some u := by
        intro j u hu
        have hl : l ≠ [] := by rintro rfl; simp at hu
        have h0 : 0 < l.length := List.length_pos_iff.2 hl
        obtain ⟨g, o, cur, ha', _, hbk, _, ht⟩ := h'.room (by omega)
        rw [ha] at ha'; cases ha'
        rw [addr_add_plain, hbk.cell]
        rw [← ht, List.getElem?_take] at hu
        split at hu
        · rwa [List.getElem?_drop] at hu
        · cases hu
      obtain ⟨v', w2, hr2, ho2, hg2⟩ := run_append_arg_grows (P := P) w1 t ty e i z size bytes E.under hi hz hsz hby hzs E.pos ⟨b0, o0, sp0⟩ l.length s.c (l.flatMap enc) (hfl l) hcells ⟨w.heap.size, 0, none⟩ 1 1 (enc x) (by rw [hxl, Nat.one_mul]) (fun j u hu => by rw [addr_add_plain, hxb.cell]; simpa using hu) hgr hlen' hlen
      have hshape : ∃ s' : Sl, v' = .slice s'.a s'.n s'.c ∧ s'.n = l.length + 1 := by
        rcases ho2.2 with ⟨h1, h2⟩ | ⟨g, cap, cur, h1, _⟩
        · exact ⟨⟨none, 0, 0⟩, h1, by simpa using h2.symm⟩
        · exact ⟨⟨some ⟨g, 0, none⟩, _, cap⟩, h1, rfl⟩
      obtain ⟨s', rfl, hs'⟩ := hshape
      have hz1 := hx.size
      have hown : Own e size enc w1.heap.size w2 s' (l ++ [x]) := ⟨by simp [hs'], by simpa using ho2⟩
      refine ⟨s', w2, ?_, hown.tl.mono (by omega), (Fr.grown hg2).mono (fun b _ hb => by cases hb), .inr fun b hb => by have := (hown.tl.base hb).1; omega⟩
      rw [hn]; exact hr2
  · -- in place
    obtain ⟨g, o, cur, ha, hgB, hbk, hr, ht⟩ := h'.room (by omega)
    have hr2 := run_append_room_cells (P := P) w1 t ty e i E.under hi g o l.length s.c ⟨w.heap.size, 0, none⟩ 1 1 (enc x) (by rw [hsz, hxl, Nat.one_mul]) (fun j u hu => by rw [addr_add_plain, hxb.cell]; simpa using hu)
      (fun u hu => h1 x u hu) hroom
      (fun j hj => by
        rw [hbk.cell, hsz]
        have h3 : (l.length + 1) * size ≤ s.c * size := Nat.mul_le_mul_right _ hroom
        rw [Nat.add_mul] at h3
        rw [List.getElem?_eq_getElem (by omega)]; rfl)
      (fun j hj => frozen_of_row w1 g _ cur.toArray e hbk)
    rw [hsz] at hr2
    have h3 : (l.length + 1) * size ≤ s.c * size := Nat.mul_le_mul_right _ hroom
    rw [Nat.add_mul, Nat.one_mul] at h3
    have hb2 := hbk.put (o := o + l.length * size) (vs := enc x)
    have hsplit : cur = cur.take (o + l.length * size) ++ ((cur.drop (o + l.length * size)).take size ++ (cur.drop (o + l.length * size)).drop size) := by rw [List.take_append_drop, List.take_append_drop]
    have hset : setR cur (o + l.length * size) (enc x) = cur.take (o + l.length * size) ++ (enc x ++ (cur.drop (o + l.length * size)).drop size) := by
      have := setR_mid (vs := enc x) (mid := (cur.drop (o + l.length * size)).take size) (pre := cur.take (o + l.length * size)) (post := (cur.drop (o + l.length * size)).drop size) (by rw [hxl]; simp; omega)
      rw [← hsplit, show (cur.take (o + l.length * size)).length = o + l.length * size from by simp; omega] at this
      exact this
    rw [hset] at hb2
    refine ⟨⟨some ⟨g, o, none⟩, l.length + 1, s.c⟩, put w1 g (o + l.length * size) (enc x), ?_, ⟨by simp, hroom, fun _ => ⟨g, o, _, rfl, hgB, hb2, ?_, ?_⟩⟩, ?_, .inl ?_⟩
    · rw [ha, hn, put_eq]; exact hr2
    · simp [hxl]; omega
    · rw [List.drop_append_of_le_length (by simp; omega), List.drop_take, show o + l.length * size - o = l.length * size from by omega, ht]
      rw [List.flatMap_append, ← List.append_assoc]
      simp only [List.flatMap_cons, List.flatMap_nil, List.append_nil]
      rw [List.take_left' (by simp [hfl, hxl, Nat.add_mul])]
    · exact (Fr.put _ _ _ _).mono fun b _ hb => ⟨by omega, _, ha, hb.symm⟩
    · rintro b ⟨hc, a, h2, h3⟩
      exact ⟨hc, a, by rw [ha]; exact h2, h3⟩

/-! ### blocks whose cells are a function -/
def FB (w : World) (b n : Nat) (f : Nat → Value) (T : TypeId) : Prop := Blk w b ((List.range n).map f) T
theorem FB.cell {w : World} {b n : Nat} {f : Nat → Value} {T : TypeId} (h : FB w b n f T) {i : Nat} (hi : i < n) {v : Value} (hv : f i = v) : w.cell? ⟨b, i, none⟩ = some v := by
  rw [Blk.cell h]; simp [hi, hv]
theorem FB.lt {w : World} {b n : Nat} {f : Nat → Value} {T : TypeId} (h : FB w b n f T) : b < w.heap.size := Blk.lt h
theorem FB.fr {M : Nat → Prop} {w w' : World} {b n : Nat} {f : Nat → Value} {T : TypeId} (h : FB w b n f T) (k : Fr M w w') (hn : ¬ M b) : FB w' b n f T := Blk.fr h k hn
theorem FB.ext {w w' : World} {b n : Nat} {f : Nat → Value} {T : TypeId} (h : FB w b n f T) (k : Ext w w') : FB w' b n f T := Blk.ext h k
def updF (f : Nat → Value) (o : Nat) (vs : List Value) : Nat → Value := fun j => if o ≤ j then (vs[j - o]?).getD (f j) else f j
theorem updF_in {f : Nat → Value} {o j : Nat} {vs : List Value} {v : Value} (h1 : o ≤ j) (h2 : vs[j - o]? = some v) : updF f o vs j = v := by unfold updF; rw [if_pos h1, h2]; rfl
theorem updF_out {f : Nat → Value} {o j : Nat} {vs : List Value} (h : j < o ∨ o + vs.length ≤ j) : updF f o vs j = f j := by
  unfold updF
  split
  · rw [List.getElem?_eq_none (by omega)]; rfl
  · rfl
theorem setR_range {n : Nat} : ∀ {vs : List Value} {f : Nat → Value} {o : Nat}, o + vs.length ≤ n → setR ((List.range n).map f) o vs = (List.range n).map (updF f o vs)
  | [], f, o, _ => by
    rw [setR]; congr 1; funext j; unfold updF; split <;> simp
  | v :: r, f, o, h => by
    have h' : o + 1 + r.length ≤ n := by simpa [Nat.add_assoc, Nat.add_comm 1] using h
    have hset : ((List.range n).map f).set o v = (List.range n).map (updF f o [v]) := by
      apply List.ext_getElem
      · simp
      · intro j h1 h2
        have hj : j < n := by simpa using h2
        rw [List.getElem_set]
        by_cases e : o = j
        · subst e; rw [if_pos rfl]; simp [updF_in (v := v) (vs := [v]) (Nat.le_refl o) (by simp)]
        · rw [if_neg e]
          simp only [List.getElem_map, List.getElem_range]
          rw [updF_out (by simp; omega)]
    rw [setR, hset, setR_range h']
    congr 1
    funext j
    by_cases h1 : j < o
    · rw [updF_out (.inl (by omega)), updF_out (.inl h1), updF_out (.inl h1)]
    · by_cases h2 : j = o
      · subst h2
        rw [updF_out (.inl (by omega)), updF_in (v := v) (Nat.le_refl _) (by simp), updF_in (v := v) (Nat.le_refl _) (by simp)]
      · unfold updF
        rw [if_pos (by omega), if_pos (by omega), if_pos (by omega)]
        have e1 : j - o = (j - (o + 1)) + 1 := by omega
        rw [e1, List.getElem?_cons_succ, List.getElem?_cons_succ]
        simp
theorem FB.put {w : World} {b n : Nat} {f : Nat → Value} {T : TypeId} (h : FB w b n f T) {o : Nat} {vs : List Value} (ho : o + vs.length ≤ n) : FB (put w b o vs) b n (updF f o vs) T := by
  have := Blk.put (vs := vs) (o := o) h
  rw [setR_range ho] at this; exact this
theorem FB.storeOk {w : World} {b n : Nat} {f : Nat → Value} {T : TypeId} (h : FB w b n f T) {o k : Nat} {vs : List Value} (hv : vs.length = k) (h1 : ∀ v ∈ vs, v.oneCell' = true) (hl : o + k ≤ n) : StoreOk w b o vs k := Blk.storeOk h hv h1 (by simpa using hl)
theorem FB.rd {w : World} {b n : Nat} {f : Nat → Value} {T : TypeId} (h : FB w b n f T) : ∀ {vs : List Value} {o : Nat}, o + vs.length ≤ n → (∀ i v, vs[i]? = some v → f (o + i) = v) → rd w b o vs
  | [], _, _, _ => trivial
  | v :: r, o, hl, hv => ⟨h.cell (by simp at hl; omega) (hv 0 v rfl), h.rd (by simp at hl ⊢; omega) fun i u hu => by
      have := hv (i + 1) u (by simpa using hu)
      rw [show o + 1 + i = o + (i + 1) from by omega]; exact this⟩
theorem FB.alloc (w : World) (l : List Value) (T : TypeId) : FB (w.alloc (.cells l.toArray T)) w.heap.size l.length (fun i => l.getD i undef) T := by
  have h := Blk.alloc w l T
  have e : (List.range l.length).map (fun i => l.getD i undef) = l := by
    apply List.ext_getElem
    · simp
    · intro j h1 h2; simp [List.getD, h2]
  unfold FB; rw [e]; exact h

/-! ### blocks told apart by what lies in them -/
theorem Blk.ne_ty {w : World} {b b' T T' : Nat} {l l' : List Value} (h : Blk w b l T) (h' : Blk w b' l' T') (hT : T ≠ T') : b ≠ b' := by
  rintro rfl
  unfold Blk at h h'
  rw [h] at h'
  injection h' with h'
  injection h' with _ h'
  exact hT h'
section
variable {κ β : Type} {ke : κ → Value} {ve : β → Value}
theorem Mp.ne_blk {w : World} {b b' T c : Nat} {l : List (Ent κ β)} {l' : List Value} (h : Mp ke ve w b l c) (h' : Blk w b' l' T) : b ≠ b' := by
  rintro rfl
  unfold Blk at h'
  rw [h.heap] at h'
  cases h'

/-! ### an entry deleted -/
def mdel [DecidableEq κ] (l : List (Ent κ β)) (k : κ) : List (Ent κ β) := l.filter fun x => !decide (x.1 = k)
theorem mget_mdel [DecidableEq κ] (l : List (Ent κ β)) (k k' : κ) : mget (mdel l k) k' = if k' = k then none else mget l k' := by
  unfold mget mdel
  induction l with
  | nil => simp
  | cons x r ih =>
    rw [List.filter_cons]
    by_cases e : x.1 = k
    · rw [if_neg (by simp [e])]
      by_cases e' : k' = k
      · rw [if_pos e'] at ih ⊢; exact ih
      · rw [if_neg e'] at ih ⊢
        rw [List.find?_cons, ih]
        rw [show decide (x.1 = k') = false from by simp; rw [e]; exact fun h => e' h.symm]
    · rw [if_pos (by simp [e]), List.find?_cons, List.find?_cons]
      by_cases e2 : x.1 = k'
      · rw [show decide (x.1 = k') = true from by simpa using e2]
        rw [if_neg (by rw [← e2]; exact e)]
      · rw [show decide (x.1 = k') = false from by simpa using e2]
        exact ih
theorem eraseIdx_key [DecidableEq κ] : ∀ {l : List (Ent κ β)} {i : Nat} {x : Ent κ β}, (l.map (·.1)).Nodup → l[i]? = some x → l.eraseIdx i = mdel l x.1
  | [], _, _, _, h => by cases h
  | y :: r, 0, x, hn, h => by
    cases h
    simp only [List.map_cons, List.nodup_cons] at hn
    unfold mdel
    rw [List.eraseIdx_cons_zero, List.filter_cons, if_neg (by simp), List.filter_eq_self.2]
    intro z hz
    have : z.1 ≠ y.1 := fun e => hn.1 (List.mem_map.2 ⟨z, hz, e⟩)
    simpa using this
  | y :: r, i + 1, x, hn, h => by
    simp only [List.map_cons, List.nodup_cons] at hn
    have h' : r[i]? = some x := by simpa using h
    have := eraseIdx_key hn.2 h'
    unfold mdel at this ⊢
    rw [List.eraseIdx_cons_succ, List.filter_cons, if_pos, this]
    have : y.1 ≠ x.1 := fun e => hn.1 (List.mem_map.2 ⟨x, List.mem_of_getElem? h', e.symm⟩)
    simpa using this
theorem eraseIdx_map' {α β : Type} (f : α → β) : ∀ (l : List α) (i : Nat), (l.map f).eraseIdx i = (l.eraseIdx i).map f
  | [], _ => rfl
  | _ :: _, 0 => rfl
  | x :: r, i + 1 => by rw [List.map_cons, List.eraseIdx_cons_succ, List.eraseIdx_cons_succ, List.map_cons, eraseIdx_map' f r i]
theorem del_run [DecidableEq κ] {t kt vt kt' : TypeId} (K : KeyOk P kt ke) (ht : P.underlying t = some (.map kt vt)) {w : World} {b c : Nat} {l : List (Ent κ β)} (h : Mp ke ve w b l c) (k : κ) (ty : Nat) :
    ∃ w', (Builtin.delete_ #[t, kt'] ty #[.map (some b), ke k]).run P w = .ok (.tuple #[]) w' ∧ Mp ke ve w' b (mdel l k) c ∧ Fr (fun i => i = b) w w' := by
  have hg : (getObj b).run P w = .ok (.map (l.map (ent ke ve)).toArray c) w := by simp [getObj, Sem.run, h.heap]
  have hb := h.bound
  have hset : ∀ es c', (setObj b (.map es c')).run P w = .ok () { w with heap := w.heap.setIfInBounds b (.map es c') } := fun es c' => by simp [setObj, Sem.run, h.heap]
  have hfr : ∀ es c', Fr (fun i => i = b) w { w with heap := w.heap.setIfInBounds b (.map es c') } := fun es c' =>
    ⟨rfl, rfl, rfl, by simp, fun i _ hi => by show (w.heap.setIfInBounds b _)[i]? = _; rw [Array.getElem?_setIfInBounds_ne (fun e => hi e.symm)]⟩
  have hk : ∀ e ∈ l.map (ent ke ve), ∃ k', e.key = ke k' := fun e he => by obtain ⟨x, _, rfl⟩ := List.mem_map.1 he; exact ⟨x.1, rfl⟩
  have hmp : Mp ke ve { w with heap := w.heap.setIfInBounds b (.map ((mdel l k).map (ent ke ve)).toArray c) } b (mdel l k) c :=
    ⟨by simp [hb], h.keys.sublist (List.filter_sublist.map _), h.stamps.sublist (List.filter_sublist.map _), fun x hx => h.lt x (List.mem_filter.1 hx).1⟩
  rcases K.find k (l.map (ent ke ve)) w hk with ⟨hf, hno⟩ | ⟨i, e, hi, he, hf⟩
  · have hm : mdel l k = l := by
      unfold mdel
      rw [List.filter_eq_self]
      intro x hx
      have : x.1 ≠ k := fun e => hno _ (List.mem_map.2 ⟨x, hx, rfl⟩) (by show ke x.1 = ke k; rw [e])
      simpa using this
    refine ⟨_, ?_, hmp, hfr _ _⟩
    rw [hm]
    simp [Builtin.delete_, under_run ht, hg, K.chk, hf, hset]
  · have hi' : ∃ x, l[i]? = some x ∧ e = ent ke ve x := by
      rw [List.getElem?_map] at hi
      cases hx : l[i]? with
      | none => rw [hx] at hi; cases hi
      | some x => rw [hx] at hi; cases hi; exact ⟨x, rfl, rfl⟩
    obtain ⟨x, hx, rfl⟩ := hi'
    obtain rfl : x.1 = k := K.inj _ _ he
    refine ⟨_, ?_, hmp, hfr _ _⟩
    have hse : ((l.map (ent ke ve)).toArray.eraseIdxIfInBounds i) = ((mdel l x.1).map (ent ke ve)).toArray := by
      rw [← eraseIdx_key h.keys hx]
      simp [eraseIdx_map']
    have := hset ((l.map (ent ke ve)).toArray.eraseIdxIfInBounds i) c
    rw [hse] at this
    simp only [List.eraseIdxIfInBounds_toArray] at hse
    simp [Builtin.delete_, under_run ht, hg, K.chk, hf, hse, this]
theorem del_nil {t kt vt kt' : TypeId} (K : KeyOk P kt ke) (ht : P.underlying t = some (.map kt vt)) (k : κ) (ty : Nat) (w : World) :
    (Builtin.delete_ #[t, kt'] ty #[.map none, ke k]).run P w = .ok (.tuple #[]) w := by
  simp [Builtin.delete_, under_run ht, K.chk]

/-! ### ranging over the nil map -/
theorem range_nil {t kt vt : TypeId} (ht : P.underlying t = some (.map kt vt)) (w : World) :
    ∃ w', (Instr.range t (.map none)).run P w = .ok (.pointer (some ⟨w.heap.size, 0, none⟩)) w' ∧ Ext w w' ∧ w'.heap[w.heap.size]? = some (.mapIter none 0 #[] 0) := by
  refine ⟨w.alloc (.mapIter none 0 #[] 0), ?_, Ext.alloc _ _, by show (w.heap.push _)[w.heap.size]? = _; simp⟩
  simp [Instr.range, under_run ht]
theorem next_nil {w : World} {r T : Nat} (hi : w.heap[r]? = some (.mapIter none 0 #[] 0)) :
    (Instr.next (.pointer (some ⟨r, 0, none⟩)) false T).run P w = .ok (.tuple (Value.bool false :: ([] : List Value)).toArray) w := by
  have hgr : (getObj r).run P w = .ok (.mapIter none 0 #[] 0) w := by simp [getObj, Sem.run, hi]
  simp [Instr.next, hgr]
end
end Go.VC
