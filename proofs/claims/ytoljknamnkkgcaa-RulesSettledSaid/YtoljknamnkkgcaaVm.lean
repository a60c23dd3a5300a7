/-
  Memory: frames, blocks, slices that read as a list. For every program.
-/
import Derived.Test.YtoljknamnkkgcaaVb5
namespace Go.VC
open Go
variable {P : Program}

/-- The blocks beside M are as they were. -/
structure Fr (M : Nat → Prop) (w w' : World) : Prop where
  os : w'.os = w.os
  tape : w'.tape = w.tape
  output : w'.output = w.output
  size : w.heap.size ≤ w'.heap.size
  blk : ∀ b, b < w.heap.size → ¬ M b → w'.heap[b]? = w.heap[b]?
/-- Nothing that was there has changed. -/
abbrev Ext (w w' : World) : Prop := Fr (fun _ => False) w w'
theorem Fr.refl (M : Nat → Prop) (w : World) : Fr M w w := ⟨rfl, rfl, rfl, Nat.le_refl _, fun _ _ _ => rfl⟩
theorem Fr.trans {M M' : Nat → Prop} {a b c : World} (h : Fr M a b) (k : Fr M' b c) (hm : ∀ i, i < a.heap.size → M' i → M i) : Fr M a c :=
  ⟨k.os.trans h.os, k.tape.trans h.tape, k.output.trans h.output, Nat.le_trans h.size k.size, fun i hi hn =>
    (k.blk i (Nat.lt_of_lt_of_le hi h.size) (fun h' => hn (hm i hi h'))).trans (h.blk i hi hn)⟩
theorem Fr.mono {M M' : Nat → Prop} {a b : World} (h : Fr M a b) (hm : ∀ i, i < a.heap.size → M i → M' i) : Fr M' a b :=
  ⟨h.os, h.tape, h.output, h.size, fun i hi hn => h.blk i hi fun h' => hn (hm i hi h')⟩
theorem Ext.trans {a b c : World} (h : Ext a b) (k : Ext b c) : Ext a c := Fr.trans h k fun _ _ h => h
theorem Fr.ext {M : Nat → Prop} {a b c : World} (h : Fr M a b) (k : Ext b c) : Fr M a c := h.trans k fun _ _ h => h.elim
theorem Ext.fr {M : Nat → Prop} {a b c : World} (h : Ext a b) (k : Fr M b c) : Fr M a c := (Fr.mono (M' := M) h fun _ _ h => h.elim).trans k fun _ _ h => h
/-- What is written is newer than the first world. -/
theorem Ext.newer {M : Nat → Prop} {a b c : World} (h : Ext a b) (k : Fr M b c) (hm : ∀ i, M i → a.heap.size ≤ i) : Ext a c := Fr.trans h k fun i hi h' => absurd (hm i h') (by omega)
theorem Ext.of {M : Nat → Prop} {a b : World} (h : Fr M a b) (hm : ∀ i, M i → a.heap.size ≤ i) : Ext a b := h.mono fun i hi h' => absurd (hm i h') (by omega)
theorem Ext.alloc (w : World) (o : Obj) : Ext w (w.alloc o) := ⟨rfl, rfl, rfl, by simp, fun b hb _ => by show (w.heap.push o)[b]? = _; rw [Array.getElem?_push, if_neg (by omega)]⟩
theorem Ext.drew (w : World) : Ext w w.drew := ⟨rfl, rfl, rfl, Nat.le_refl _, fun _ _ _ => rfl⟩
theorem Fr.grown {w w' : World} {row : Option Nat} (h : w.grownBy w' row) : Fr (fun b => some b = row) w w' := ⟨h.os, h.tape, h.output, h.size, fun b hb hn => h.block b hb hn⟩
theorem Fr.setCell (w : World) (a : Addr) (v : Value) : Fr (fun b => b = a.block) w (w.setCell a v) :=
  ⟨rfl, rfl, rfl, by simp, fun b _ hn => heap_setCell_other w a b v hn⟩
theorem Fr.put : ∀ (vs : List Value) (w : World) (b o : Nat), Fr (fun i => i = b) w (put w b o vs)
  | [], w, _, _ => Fr.refl _ w
  | v :: r, w, b, o => (Fr.setCell w ⟨b, o, none⟩ v).trans (Fr.put r _ b (o + 1)) fun _ _ h => h
theorem Ext.below {w w' : World} (h : Ext w w') : RowKit.Below w.heap.size w w' := ⟨h.os, h.tape, h.output, h.size, fun k hk => h.blk k hk fun h => h⟩
theorem Ext.of_below {w w' : World} (h : RowKit.Below w.heap.size w w') : Ext w w' := ⟨h.os, h.tape, h.output, h.size, fun k hk _ => h.block k hk⟩

/-! ### reading -/
theorem Fr.cell {M : Nat → Prop} {w w' : World} (h : Fr M w w') {a : Addr} {v : Value} (hn : ¬ M a.block) (hc : w.cell? a = some v) : w'.cell? a = some v := by
  have := h.blk a.block (block_lt_of_cell hc) hn
  rw [World.cell?_of_block this]; exact hc
theorem Fr.rd {M : Nat → Prop} {w w' : World} (h : Fr M w w') {b : Nat} (hn : ¬ M b) : ∀ {vs : List Value} {o : Nat}, rd w b o vs → rd w' b o vs
  | [], _, _ => trivial
  | _ :: _, _, ⟨h1, h2⟩ => ⟨h.cell (a := ⟨b, _, none⟩) hn h1, h.rd hn h2⟩
theorem Ext.rd {w w' : World} (h : Ext w w') {b o : Nat} {vs : List Value} (k : rd w b o vs) : rd w' b o vs := Fr.rd h (fun h => h) k
theorem Ext.cell {w w' : World} (h : Ext w w') {a : Addr} {v : Value} (k : w.cell? a = some v) : w'.cell? a = some v := Fr.cell h (fun h => h) k
theorem rd_append {w : World} {b : Nat} : ∀ {xs ys : List Value} {o : Nat}, rd w b o (xs ++ ys) ↔ rd w b o xs ∧ rd w b (o + xs.length) ys
  | [], ys, o => by simp [VC.rd]
  | x :: xs, ys, o => by
    simp only [List.cons_append, VC.rd, rd_append (xs := xs), List.length_cons]
    rw [show o + 1 + xs.length = o + (xs.length + 1) from by omega, and_assoc]
theorem rd_lt {w : World} {b o : Nat} {vs : List Value} (h : rd w b o vs) (hv : vs ≠ []) : b < w.heap.size := by
  cases vs with
  | nil => exact absurd rfl hv
  | cons v r => exact block_lt_of_cell h.1
theorem rd_get {w : World} {b : Nat} : ∀ {vs : List Value} {o i : Nat} {v : Value}, rd w b o vs → vs[i]? = some v → w.cell? ⟨b, o + i, none⟩ = some v
  | [], _, _, _, _, h => by cases h
  | x :: r, o, 0, v, h, e => by cases e; exact h.1
  | x :: r, o, i + 1, v, h, e => by
    have := rd_get (o := o + 1) h.2 (by simpa using e)
    rw [show o + 1 + i = o + (i + 1) from by omega] at this
    exact this

/-! ### blocks known whole -/
def Blk (w : World) (b : Nat) (l : List Value) (T : TypeId) : Prop := w.heap[b]? = some (.cells l.toArray T (0, 0))
theorem Blk.lt {w : World} {b : Nat} {l : List Value} {T : TypeId} (h : Blk w b l T) : b < w.heap.size := (Array.getElem?_eq_some_iff.1 h).1
theorem Blk.cell {w : World} {b : Nat} {l : List Value} {T : TypeId} (h : Blk w b l T) (i : Nat) : w.cell? ⟨b, i, none⟩ = l[i]? := by
  rw [cell_of_row w b i l.toArray T (0, 0) h]; simp
theorem Blk.rd_drop {w : World} {b : Nat} {l : List Value} {T : TypeId} (h : Blk w b l T) : ∀ {vs : List Value} {o : Nat}, (∀ i v, vs[i]? = some v → l[o + i]? = some v) → rd w b o vs
  | [], _, _ => trivial
  | v :: r, o, hv => ⟨by rw [h.cell]; simpa using hv 0 v rfl, h.rd_drop fun i u hu => by
      have := hv (i + 1) u (by simpa using hu)
      rw [show o + 1 + i = o + (i + 1) from by omega]; exact this⟩
theorem Blk.rd {w : World} {b : Nat} {l : List Value} {T : TypeId} (h : Blk w b l T) : VC.rd w b 0 l := h.rd_drop fun i v hv => by simpa using hv
theorem Blk.fr {M : Nat → Prop} {w w' : World} {b : Nat} {l : List Value} {T : TypeId} (h : Blk w b l T) (k : Fr M w w') (hn : ¬ M b) : Blk w' b l T := (k.blk b h.lt hn).trans h
theorem Blk.ext {w w' : World} {b : Nat} {l : List Value} {T : TypeId} (h : Blk w b l T) (k : Ext w w') : Blk w' b l T := h.fr k fun h => h
theorem Blk.alloc (w : World) (l : List Value) (T : TypeId) : Blk (w.alloc (.cells l.toArray T)) w.heap.size l T := heap_alloc_new w _
theorem Blk.set {w : World} {b : Nat} {l : List Value} {T : TypeId} (h : Blk w b l T) (i : Nat) (v : Value) : Blk (w.setCell ⟨b, i, none⟩ v) b (l.set i v) T := by
  have := heap_setCell_same w b i l.toArray T v h
  unfold Blk; rw [this]; simp
theorem Blk.put {b : Nat} {T : TypeId} : ∀ {vs : List Value} {w : World} {l : List Value} {o : Nat}, Blk w b l T → Blk (put w b o vs) b (setR l o vs) T
  | [], _, _, _, h => h
  | v :: r, _, _, o, h => Blk.put (vs := r) (h.set o v)
theorem Blk.mayWr {w : World} {b : Nat} {l : List Value} {T : TypeId} (h : Blk w b l T) : ∀ {n o : Nat}, o + n ≤ l.length → mayWr w b o n
  | 0, _, _ => trivial
  | n + 1, o, hl => ⟨⟨l[o]'(by omega), by rw [h.cell]; simp⟩, frozen_of_row w b o l.toArray T h, h.mayWr (by omega)⟩
theorem Blk.storeOk {w : World} {b : Nat} {l : List Value} {T : TypeId} (h : Blk w b l T) {o n : Nat} {vs : List Value} (hv : vs.length = n) (h1 : ∀ v ∈ vs, v.oneCell' = true) (hl : o + n ≤ l.length) : StoreOk w b o vs n := ⟨hv, h1, h.mayWr hl⟩
theorem setR_all : ∀ {vs l pre : List Value}, vs.length = l.length → setR (pre ++ l) pre.length vs = pre ++ vs
  | [], [], pre, _ => by simp [setR]
  | v :: r, x :: l, pre, h => by
    have h' : r.length = l.length := by simpa using h
    have := setR_all (vs := r) (l := l) (pre := pre ++ [v]) h'
    simp only [List.append_assoc, List.singleton_append, List.length_append, List.length_singleton] at this
    rw [setR]
    rw [show (pre ++ x :: l).set pre.length v = pre ++ v :: l from by simp]
    exact this
/-- A new variable that is laid and at once stored into. -/
theorem new_var (w : World) (T : TypeId) {vs : List Value} {z : Array Value} (hz : z.size = vs.length) (h1 : ∀ v ∈ vs, v.oneCell' = true) :
    StoreOk (w.alloc (.cells z T)) w.heap.size 0 vs vs.length ∧ Blk (put (w.alloc (.cells z T)) w.heap.size 0 vs) w.heap.size vs T ∧ Ext w (put (w.alloc (.cells z T)) w.heap.size 0 vs) := by
  have hb : Blk (w.alloc (.cells z T)) w.heap.size z.toList T := by simpa using Blk.alloc w z.toList T
  refine ⟨hb.storeOk rfl h1 (by simp [hz]), ?_, (Ext.alloc w _).newer (Fr.put _ _ _ _) fun i hi => by omega⟩
  have := hb.put (o := 0) (vs := vs)
  rw [show setR z.toList 0 vs = vs from by simpa using setR_all (vs := vs) (l := z.toList) (pre := []) (by simp [hz])] at this
  exact this

/-! ### slices that read as a list -/
/-- The slice reads as l; each element takes k cells. -/
structure Sli {α : Type} (k : Nat) (enc : α → List Value) (w : World) (s : Sl) (l : List α) : Prop where
  len : s.n = l.length
  cap : s.n ≤ s.c
  mem : l ≠ [] → ∃ p : Pt, s.a = some ⟨p.b, p.o, none⟩ ∧ rd w p.b p.o (l.flatMap enc)
theorem flatMap_at {α : Type} {k : Nat} {enc : α → List Value} (hk : ∀ x, (enc x).length = k) {l : List α} {i : Nat} {x : α} (hx : l[i]? = some x) : ∃ pre post, l.flatMap enc = pre ++ enc x ++ post ∧ pre.length = i * k := by
  induction l generalizing i with
  | nil => cases hx
  | cons y r ih =>
    cases i with
    | zero => cases hx; exact ⟨[], r.flatMap enc, by simp, by simp⟩
    | succ i =>
      obtain ⟨pre, post, h1, h2⟩ := ih (by simpa using hx)
      exact ⟨enc y ++ pre, post, by simp [h1], by simp [h2, hk, Nat.add_mul]; omega⟩
theorem Sli.get {α : Type} {k : Nat} {enc : α → List Value} {w : World} {s : Sl} {l : List α} (hk : ∀ x, (enc x).length = k) (h : Sli k enc w s l) {i : Nat} {x : α} (hx : l[i]? = some x) :
    ∃ p : Pt, s.a = some ⟨p.b, p.o, none⟩ ∧ rd w p.b (p.o + i * k) (enc x) := by
  obtain ⟨p, hp, hr⟩ := h.mem (by rintro rfl; cases hx)
  obtain ⟨pre, post, h1, h2⟩ := flatMap_at hk hx
  rw [h1, rd_append, rd_append, h2] at hr
  exact ⟨p, hp, hr.1.2⟩
theorem Sli.fr {α : Type} {k : Nat} {enc : α → List Value} {M : Nat → Prop} {w w' : World} {s : Sl} {l : List α} (h : Sli k enc w s l) (f : Fr M w w') (hn : ∀ a, s.a = some a → ¬ M a.block) : Sli k enc w' s l :=
  ⟨h.len, h.cap, fun hl => by obtain ⟨p, hp, hr⟩ := h.mem hl; exact ⟨p, hp, Fr.rd f (hn _ hp) hr⟩⟩
theorem Sli.ext {α : Type} {k : Nat} {enc : α → List Value} {w w' : World} {s : Sl} {l : List α} (h : Sli k enc w s l) (f : Ext w w') : Sli k enc w' s l := h.fr f fun _ _ h => h
theorem Sli.nil {α : Type} {k : Nat} {enc : α → List Value} {w : World} (a : Option Addr) (c : Nat) : Sli (α := α) k enc w ⟨a, 0, c⟩ [] := ⟨rfl, Nat.zero_le _, fun h => absurd rfl h⟩
theorem Sli.lt {α : Type} {k : Nat} {enc : α → List Value} {w : World} {s : Sl} {l : List α} (h : Sli k enc w s l) (hk : ∀ x, enc x ≠ []) {a : Addr} (hl : l ≠ []) (ha : s.a = some a) : a.block < w.heap.size := by
  obtain ⟨p, hp, hr⟩ := h.mem hl
  rw [hp] at ha; cases ha
  exact rd_lt hr (by cases l with | nil => exact absurd rfl hl | cons x r => simp [hk x])

def eI (n : Int) : List Value := [.int .i64 n]
/-- A slice of ints. -/
abbrev Ints (w : World) (s : Sl) (l : List Int) : Prop := Sli 1 eI w s l
theorem eI_len (n : Int) : (eI n).length = 1 := rfl
theorem Ints.get {w : World} {s : Sl} {l : List Int} (h : Ints w s l) {i : Nat} {x : Int} (hx : l[i]? = some x) : ∃ p : Pt, s.a = some ⟨p.b, p.o, none⟩ ∧ w.cell? ⟨p.b, p.o + i * 1, none⟩ = some (.int .i64 x) := by
  obtain ⟨p, hp, hr⟩ := Sli.get eI_len h hx
  exact ⟨p, hp, hr.1⟩

/-! ### a slice that the call owns: kit's 'ownsRow' -/
structure Elem (P : Program) (t e size bytes : Nat) : Prop where
  under : P.underlying t = some (.slice e)
  info : ∃ i z, P.info? e = some i ∧ i.zero = some z ∧ i.size = size ∧ i.bytes = bytes ∧ z.cells.size = size
  pos : 0 < size
theorem Elem.of {t e size bytes : Nat} (h1 : P.underlying t = some (.slice e)) (h2 : (P.info? e).map (fun i => (i.zero.map (·.cells.size), i.size, i.bytes)) = some (some size, size, bytes)) (h3 : 0 < size) : Elem P t e size bytes := by
  refine ⟨h1, ?_, h3⟩
  cases hi : P.info? e with
  | none => rw [hi] at h2; cases h2
  | some i =>
    rw [hi] at h2
    simp only [Option.map_some, Option.some.injEq, Prod.mk.injEq] at h2
    obtain ⟨hz, hs, hb⟩ := h2
    cases hz' : i.zero with
    | none => rw [hz'] at hz; cases hz
    | some z => rw [hz'] at hz; exact ⟨i, z, rfl, hz', hs, hb, by simpa using hz⟩
/-- The slice is nil, or the head of a row of its own, from block B on. -/
def Own {α : Type} (T size : Nat) (enc : α → List Value) (B : Nat) (w : World) (s : Sl) (l : List α) : Prop :=
  s.n = l.length ∧ w.ownsRow B T size (.slice s.a s.n s.c) l.length (l.flatMap enc)
theorem Own.nil {α : Type} (T size : Nat) (enc : α → List Value) (B : Nat) (w : World) : Own T size enc B w ⟨none, 0, 0⟩ [] := ⟨rfl, World.ownsRow_nil w B T size⟩
theorem Own.sli {α : Type} {T size : Nat} {enc : α → List Value} {B : Nat} {w : World} {s : Sl} {l : List α} (h : Own T size enc B w s l) : Sli size enc w s l := by
  obtain ⟨hn, hl, h⟩ := h
  rcases h with ⟨h1, h2⟩ | ⟨g, cap, cur, hv, _, hg, hc, _, _, ht⟩
  · have : l = [] := List.eq_nil_of_length_eq_zero h2
    subst this
    simp only [Value.slice.injEq] at h1
    exact ⟨hn, by omega, fun h => absurd rfl h⟩
  · simp only [Value.slice.injEq] at hv
    obtain ⟨h1, h2, h3⟩ := hv
    refine ⟨hn, by rw [h2, h3]; exact hc, fun _ => ⟨⟨g, 0⟩, h1, ?_⟩⟩
    have hb : Blk w g cur.toList T := by unfold Blk; simpa using hg
    refine hb.rd_drop fun i v hv => ?_
    rw [← ht, List.getElem?_take] at hv
    split at hv
    · simpa using hv
    · cases hv
theorem Own.fr {α : Type} {T size : Nat} {enc : α → List Value} {B : Nat} {M : Nat → Prop} {w w' : World} {s : Sl} {l : List α} (h : Own T size enc B w s l) (f : Fr M w w') (hn : ∀ a, s.a = some a → ¬ M a.block) : Own T size enc B w' s l := by
  obtain ⟨h0, hl, h⟩ := h
  refine ⟨h0, hl, ?_⟩
  rcases h with h | ⟨g, cap, cur, hv, hb, hg, r⟩
  · exact .inl h
  · refine .inr ⟨g, cap, cur, hv, hb, ?_, r⟩
    simp only [Value.slice.injEq] at hv
    rw [f.blk g (Array.getElem?_eq_some_iff.1 hg).1 (hn _ hv.1)]; exact hg
theorem Own.ext {α : Type} {T size : Nat} {enc : α → List Value} {B : Nat} {w w' : World} {s : Sl} {l : List α} (h : Own T size enc B w s l) (f : Ext w w') : Own T size enc B w' s l := h.fr f fun _ _ h => h
theorem Own.base {α : Type} {T size : Nat} {enc : α → List Value} {B : Nat} {w : World} {s : Sl} {l : List α} (h : Own T size enc B w s l) {a : Addr} (ha : s.a = some a) : B ≤ a.block ∧ a.block < w.heap.size := by
  exact h.2.lt a.block (by simp [Value.ownBlock, ha])
theorem Own.mono {α : Type} {T size : Nat} {enc : α → List Value} {B B' : Nat} {w : World} {s : Sl} {l : List α} (h : Own T size enc B w s l) (hB : B' ≤ B) : Own T size enc B' w s l := by
  obtain ⟨h0, hl, h⟩ := h
  refine ⟨h0, hl, ?_⟩
  rcases h with h | ⟨g, cap, cur, hv, hb, r⟩
  · exact .inl h
  · exact .inr ⟨g, cap, cur, hv, Nat.le_trans hB hb, r⟩

theorem fill_one {place : Nat → Option (Nat × Nat)} {z : Array Value} {v : Value} {sz : Nat} (hp : place 0 = some (0, sz)) (hs : v.cells.size = sz) (hz : z.size = sz) : Instr.fill place z [(0, v)] = some v.cells := by
  have h := fold_setR' 0 v.cells z
  have e : setR z.toList 0 v.cells.toList = v.cells.toList := by simpa using setR_all (vs := v.cells.toList) (l := z.toList) (pre := []) (by simp [hs, hz])
  rw [Instr.fill, hp]
  simp only [hs, ne_eq, not_true_eq_false, Nat.zero_add]
  rw [if_neg (by simp [hz])]
  simp only [Nat.zero_add] at h
  rw [h, e]
  simp [Instr.fill]
/-- 'append(s, x)': x is laid in a block of its own first. -/
theorem buildOne_run {t e size bytes : Nat} (E : Elem P t e size bytes) {v : Value} {vs : List Value} (hv : cellsV v = vs) (hs : vs.length = size) (hbig : size ≤ 16777216) (w : World) :
    (Instr.buildSlice t 1 [(0, v)].toArray).run P w = .ok (.slice (some ⟨w.heap.size, 0, none⟩) 1 1) (w.alloc (.cells vs.toArray e)) := by
  obtain ⟨i, z, hi, hz, hsz, _, hzs⟩ := E.info
  have hpos := E.pos
  have hc : v.cells.size = size := by rw [← hs, ← hv, ← cellsV_eq]; simp
  have hz0 : ((Array.range (1 * size)).map (z.cells[· % z.cells.size]!)).size = size := by simp
  have hf : Instr.fill (fun i => some (i * size, size)) ((Array.range (1 * size)).map (z.cells[· % z.cells.size]!)) [(0, v)] = some v.cells := fill_one (by simp) hc hz0
  have hsr : (sizeOf e).run P w = .ok size w := by rw [size_run hi, hsz]
  have hzr : (zeroValue e).run P w = .ok z w := by simp [zeroValue, typeInfo, hi, hz]
  have hv' : v.cells = vs.toArray := by apply Array.ext'; rw [cellsV_eq, hv]
  simp only [Instr.buildSlice, Sem.run_bind, under_run E.under, Result.andThen_ok, hsr]
  rw [if_neg (by omega)]
  rw [if_neg (by omega)]
  simp only [Sem.run_bind, hzr, Result.andThen_ok, Sem.run_pure, hf, newRow, run_newObj, hv']
  rfl
theorem buildNone_run {t e size bytes : Nat} (E : Elem P t e size bytes) (w : World) :
    (Instr.buildSlice t 0 ([] : List (Nat × Value)).toArray).run P w = .ok (.slice (some ⟨w.heap.size, 0, none⟩) 0 0) (w.alloc (.cells #[] e)) := by
  obtain ⟨i, z, hi, hz, hsz, _, hzs⟩ := E.info
  have hsr : (sizeOf e).run P w = .ok size w := by rw [size_run hi, hsz]
  have e0 : (Array.range 0 : Array Nat) = #[] := rfl
  simp [Instr.buildSlice, under_run E.under, hsr, Instr.fill, newRow, e0]
/-- 'append' of cells that lie somewhere, to a slice that the call owns. -/
theorem appendOwn {α : Type} {t e size bytes : Nat} (E : Elem P t e size bytes) {enc : α → List Value} {B : Nat} {w : World} {s : Sl} {l : List α} (h : Own e size enc B w s l) {s2 : Sl} {l2 : List α} {b o : Nat}
    (h2n : s2.n = l2.length) (h2a : s2.a = some ⟨b, o, none⟩) (h2 : rd w b o (l2.flatMap enc)) (hk : ∀ x, (enc x).length = size) (h1 : ∀ x, ∀ v ∈ enc x, v.oneCell' = true) (hlen : (l.length + l2.length) * bytes ≤ 140737488355328) (hlen' : l.length + l2.length ≤ maxLen) (hB : B ≤ w.heap.size) (ty : Nat) :
    ∃ (s' : Sl) (w' : World), (Builtin.append_ #[t, t] ty #[.slice s.a s.n s.c, .slice s2.a s2.n s2.c]).run P w = .ok (.slice s'.a s'.n s'.c) w' ∧ Own e size enc B w' s' (l ++ l2) ∧ Fr (fun b => ∃ a, s.a = some a ∧ a.block = b) w w' := by
  obtain ⟨i, z, hi, hz, hsz, hby, hzs⟩ := E.info
  obtain ⟨hn, hown⟩ := h
  have hfl : ∀ l : List α, (l.flatMap enc).length = l.length * size := fun l => by
    induction l with
    | nil => simp
    | cons x r ih => simp [List.flatMap_cons, hk, ih, Nat.add_mul]; omega
  obtain ⟨v', w', hr, ho, hg, _⟩ := run_append_own (P := P) w B t ty e i z size bytes E.under hi hz hsz hby hzs E.pos (.slice s.a s.n s.c) l.length (l.flatMap enc) hown ⟨b, o, none⟩ l2.length s2.c (l2.flatMap enc) (hfl l2)
    (fun j u hu => by rw [addr_add_plain]; exact rd_get h2 hu) (fun u hu => by obtain ⟨x, _, hx⟩ := List.mem_flatMap.1 hu; exact h1 x u hx) hlen' hlen hB
  have hshape : ∃ s' : Sl, v' = .slice s'.a s'.n s'.c ∧ s'.n = l.length + l2.length := by
    rcases ho.2 with ⟨h1, h2⟩ | ⟨g, cap, cur, h1, _⟩
    · exact ⟨⟨none, 0, 0⟩, h1, h2.symm⟩
    · exact ⟨⟨some ⟨g, 0, none⟩, _, cap⟩, h1, rfl⟩
  obtain ⟨s', rfl, hs'⟩ := hshape
  refine ⟨s', w', by rw [h2a, h2n]; exact hr, ⟨by simp [hs'], by simpa using ho⟩, ?_⟩
  refine (Fr.grown hg).mono fun b hb h => ?_
  cases ha : s.a with
  | none => rw [ha] at h; simp [Value.ownBlock] at h
  | some a => rw [ha] at h; simp [Value.ownBlock] at h; exact ⟨a, rfl, h.symm⟩
/-- 'append(s, x)' as it is printed: the one-element slice, then the append. -/
theorem appendOne {α : Type} {t e size bytes : Nat} (E : Elem P t e size bytes) {enc : α → List Value} {B : Nat} {w : World} {s : Sl} {l : List α} (h : Own e size enc B w s l) {x : α} {v : Value} (hv : cellsV v = enc x) (hk : ∀ x, (enc x).length = size) (h1 : ∀ x, ∀ v ∈ enc x, v.oneCell' = true)
    (hbig : size ≤ 16777216) (hlen : (l.length + 1) * bytes ≤ 140737488355328) (hlen' : l.length + 1 ≤ maxLen) (hB : B ≤ w.heap.size) (ty : Nat) :
    ∃ (s1 : Sl) (w1 : World), (Instr.buildSlice t 1 [(0, v)].toArray).run P w = .ok (.slice s1.a s1.n s1.c) w1 ∧
      ∃ (s' : Sl) (w' : World), (Builtin.append_ #[t, t] ty #[.slice s.a s.n s.c, .slice s1.a s1.n s1.c]).run P w1 = .ok (.slice s'.a s'.n s'.c) w' ∧ Own e size enc B w' s' (l ++ [x]) ∧ Fr (fun b => ∃ a, s.a = some a ∧ a.block = b) w w' := by
  have hb := buildOne_run E hv (hk x) hbig w
  have hx := Ext.alloc w (.cells (enc x).toArray e)
  obtain ⟨s', w', hr, ho, hf⟩ := appendOwn E (h.ext hx) (s2 := ⟨some ⟨w.heap.size, 0, none⟩, 1, 1⟩) (l2 := [x]) rfl rfl (by simpa using (Blk.alloc w (enc x) e).rd) hk h1 (by simpa using hlen) (by simpa using hlen') (by simp; omega) ty
  exact ⟨⟨some ⟨w.heap.size, 0, none⟩, 1, 1⟩, _, hb, s', w', hr, ho, Ext.fr hx hf⟩

/-! ### numbers -/
theorem wrap64 {x : Int} (h1 : -9223372036854775808 ≤ x) (h2 : x < 9223372036854775808) : IntKind.wrap .i64 x = x := by
  rw [IntKind.wrap_i64]; omega
end Go.VC
