/-
  Contracts: the locks of the program: who hinders, taking a lock, releasing.
-/
import Derived.Test.YtnbkihkdfhjlmaaEb
import Derived.Test.YtnbkihkdfhjlmaaSd
import Derived.Test.YtnbkihkdfhjlmaaVv
namespace Go.Proofs.Ytnbkihkdfhjlmaa
open Go Go.VC
set_option maxHeartbeats 1000000
set_option maxRecDepth 100000

/-- The locks, as they lie in memory: six maps and six ints. -/
structure Lk (B : Nat) (w : World) (b : Nat) (st : LS) (f : Nat → Value) (ms : Nat → Option Nat) : Prop where
  fb : FB w b 15 f 89
  base : B ≤ b
  fm : ∀ i, i < 6 → f i = .map (ms i)
  nil : ∀ i : Nat, i < 6 → ms i = none → ∀ x, st.sh x i = false
  mp : ∀ i : Nat, i < 6 → ∀ m, ms i = some m → B ≤ m ∧ ∃ (l : List (Ent Int Bool)) (c : Nat), Mp kI kB w m l c ∧ ∀ x, mget l x = if st.sh x i = true then some true else none
  inj : ∀ i j, i < 6 → j < 6 → ∀ m, ms i = some m → ms j = some m → i = j
  fe : ∀ i : Nat, i < 6 → ∃ e : Int, f (6 + i) = .int .i64 e ∧ ∀ x, st.ex x i = (decide (x = e) && decide (e ≠ 0))
def LkB (b : Nat) (ms : Nat → Option Nat) (y : Nat) : Prop := y = b ∨ ∃ i, i < 6 ∧ ms i = some y
theorem Lk.fr {B : Nat} {w w' : World} {b : Nat} {st : LS} {f : Nat → Value} {ms : Nat → Option Nat} {M : Nat → Prop} (k : Lk B w b st f ms) (fr : Fr M w w') (hn : ∀ y, LkB b ms y → ¬ M y) : Lk B w' b st f ms :=
  ⟨k.fb.fr fr (hn b (.inl rfl)), k.base, k.fm, k.nil, fun i hi m hm => by obtain ⟨h1, l, c, h2, h3⟩ := k.mp i hi m hm; exact ⟨h1, l, c, h2.fr fr (hn m (.inr ⟨i, hi, hm⟩)), h3⟩, k.inj, k.fe⟩
theorem Lk.ext {B : Nat} {w w' : World} {b : Nat} {st : LS} {f : Nat → Value} {ms : Nat → Option Nat} (k : Lk B w b st f ms) (x : Ext w w') : Lk B w' b st f ms := k.fr x fun _ _ h => h
theorem Lk.congr {B : Nat} {w : World} {b : Nat} {st st' : LS} {f : Nat → Value} {ms : Nat → Option Nat} (k : Lk B w b st f ms) (h1 : ∀ x, ∀ i : Nat, i < 6 → st'.sh x i = st.sh x i) (h2 : ∀ x, ∀ i : Nat, i < 6 → st'.ex x i = st.ex x i) : Lk B w b st' f ms :=
  ⟨k.fb, k.base, k.fm, fun i hi hm x => by rw [h1 x i hi]; exact k.nil i hi hm x, fun i hi m hm => by obtain ⟨a, l, c, h3, h4⟩ := k.mp i hi m hm; exact ⟨a, l, c, h3, fun x => by rw [h1 x i hi]; exact h4 x⟩, k.inj,
    fun i hi => by obtain ⟨e, h3, h4⟩ := k.fe i hi; exact ⟨e, h3, fun x => by rw [h2 x i hi]; exact h4 x⟩⟩
theorem Lk.bound {B : Nat} {w : World} {b : Nat} {st : LS} {f : Nat → Value} {ms : Nat → Option Nat} (k : Lk B w b st f ms) {y : Nat} (hy : LkB b ms y) : B ≤ y ∧ y < w.heap.size := by
  rcases hy with rfl | ⟨i, hi, hm⟩
  · exact ⟨k.base, k.fb.lt⟩
  · obtain ⟨h1, l, c, h2, _⟩ := k.mp i hi y hm; exact ⟨h1, h2.bound⟩
theorem Lk.ne {B : Nat} {w : World} {b : Nat} {st : LS} {f : Nat → Value} {ms : Nat → Option Nat} (k : Lk B w b st f ms) {i m : Nat} (hi : i < 6) (hm : ms i = some m) : m ≠ b := by
  obtain ⟨_, l, c, h2, _⟩ := k.mp i hi m hm
  exact h2.ne_blk k.fb
/-- An operation's item. -/
theorem item_nat {o : Ev} (ho : okOp o) : ∃ n : Nat, o.i = (n : Int) ∧ n < 6 := by
  unfold okOp at ho
  exact ⟨o.i.toNat, by omega, by omega⟩
theorem newEv (w : World) (o : Ev) (T : TypeId) : Blk (w.alloc (.cells (eO o).toArray T)) w.heap.size (eO o) T ∧ Ext w (w.alloc (.cells (eO o).toArray T)) := ⟨Blk.alloc w (eO o) T, Ext.alloc ..⟩
theorem u84' : Try.prog.underlying 84 = some (.map 3 4) := u84

theorem c79 {B : Nat} {w : World} {b : Nat} {st : LS} {f : Nat → Value} {ms : Nat → Option Nat} (k : Lk B w b st f ms) {h : List Ev} (g : Gd h st) {o : Ev} (ho : okOp o) (hk : o.k ≤ 1) :
    Calls Try.prog 79 [.pointer (some ⟨b, 0, none⟩), .agg [.int .i64 o.t, .int .i64 o.k, .int .i64 o.i].toArray].toArray w fun e w' =>
      ∃ (s : Sl) (l : List Int), e = .returned (.slice s.a s.n s.c) ∧ Own 3 1 eI w.heap.size w' s l ∧ (∀ x, x ∈ l ↔ hind st o x = true) ∧ l.length ≤ 100 ∧ Ext w w' := by
  refine (call79 ⟨b, 0⟩ o.t o.k o.i (R := fun v w' => ∃ (s : Sl) (l : List Int), v = (.slice s.a s.n s.c) ∧ Own 3 1 eI w.heap.size w' s l ∧ (∀ x, x ∈ l ↔ hind st o x = true) ∧ l.length ≤ 100 ∧ Ext w w') ?_).mono fun e w' ⟨v, he, s, l, hv, hx⟩ => ⟨s, l, by rw [he, hv], hx⟩
  obtain ⟨n, hni, hn6⟩ := item_nat ho
  obtain ⟨hb1, hx1⟩ := newEv w o 38
  refine Let.intro fun w1 e1 => Let.intro fun w2 e2 => ?_
  have hb1 : Blk w1 w.heap.size (eO o) 38 := by rw [e1]; exact hb1
  have hx1 : Ext w w1 := by rw [e1]; exact hx1
  have hx12 : Ext w1 w2 := by rw [e2]; exact Ext.drew _
  have hb2 := hb1.ext hx12
  have hx2 := hx1.trans hx12
  obtain ⟨e, hfe, hex⟩ := k.fe n hn6
  have k2 := k.ext hx2
  have hcell : ∀ {v : Value} {i : Nat}, i < 15 → f i = v → World.cell? w2 ⟨b, i, none⟩ = some v := fun hi hv => k2.fb.cell hi hv
  refine ⟨o.i, hb2.cell 2, by omega, by omega, e, by rw [hni]; simpa using hcell (by omega) hfe, ?_⟩
  refine ⟨fun (x : Bool) w3 => x = decide (e ≠ 0 ∧ e ≠ o.t) ∧ w3 = w2, ?_, ?_⟩
  rotate_left
  · refine cond_intro (fun hc => ⟨o.t, hb2.cell 0, ?_, rfl⟩) (fun hc => ⟨?_, rfl⟩)
    · have : e ≠ 0 := by simpa using hc
      by_cases e' : e = o.t <;> simp [this, e']
    · have : e = 0 := by simpa using hc
      simp [this]
  rintro x w3 ⟨rfl, rfl⟩
  generalize hpre : (if e ≠ 0 ∧ e ≠ o.t then [e] else ([] : List Int)) = pre
  have hplen : pre.length ≤ 1 := by rw [← hpre]; split <;> simp
  refine ⟨fun (s5 : Sl) w4 => Own 3 1 eI w3.heap.size w4 s5 pre ∧ Ext w3 w4, ?_, ?_⟩
  rotate_left
  · refine cond_intro (fun hc => ?_) (fun hc => ?_)
    · have hc : e ≠ 0 ∧ e ≠ o.t := by simpa using hc
      rw [if_pos hc] at hpre
      obtain ⟨s1, w9, e9, s2, w10, e10, ho2, hf⟩ := appendInt (B := w3.heap.size) (w := w3) (Own.nil 3 1 eI w3.heap.size w3) e (by simp) (Nat.le_refl _)
      exact ⟨s1, w9, e9, s2, w10, e10, by rw [← hpre]; exact ho2, hf.mono fun y _ ⟨a, ha, _⟩ => by cases ha⟩
    · have hc : ¬ (e ≠ 0 ∧ e ≠ o.t) := by simpa using hc
      rw [if_neg hc] at hpre
      rw [← hpre]
      exact ⟨Own.nil .., Fr.refl _ _⟩
  rintro s5 w4 ⟨ho4, hx4⟩
  have hx04 := hx2.trans hx4
  have hz4 := hx4.size
  refine ⟨fun u => Ext w4 u, Ext.drew _, Let.intro fun w5 e5 => ?_⟩
  have hx5 : Ext w4 w5 := by rw [e5]; exact Ext.drew _
  have hrd : ∀ u, Ext w4 u → World.cell? u ⟨w.heap.size, (0 + 2), none⟩ = some (.int .i64 o.i) := fun u hu => ((hb2.ext hx4).ext hu).cell 2
  have hmc : ∀ u, Ext w4 u → World.cell? u ⟨b, 0 + 0 + Int.toNat o.i * 1, none⟩ = some (.map (ms n)) := fun u hu => by
    have := ((k2.ext hx4).ext hu).fb.cell (i := n) (by omega) (k.fm n hn6)
    rw [hni]; simpa using this
  refine ⟨o.i, hrd, by omega, by omega, ms n, hmc, ?_⟩
  have hpm : ∀ x, x ∈ pre ↔ x = e ∧ e ≠ 0 ∧ e ≠ o.t := fun x => by
    rw [← hpre]; split
    · rename_i hc; simp [hc]
    · rename_i hc; simp; intro _ h1; exact Classical.not_not.1 fun h2 => hc ⟨h1, h2⟩
  have hmem : ∀ x, hind st o x = true ↔ (x ∈ pre ∨ (o.k = 1 ∧ x ≠ o.t ∧ st.sh x n = true)) := fun x => by
    unfold hind
    rw [hpm, hni, hex]
    unfold okOp at ho
    simp only [Bool.and_eq_true, Bool.or_eq_true, decide_eq_true_eq]
    constructor
    · rintro ⟨h1, ⟨_, h2, h3⟩ | ⟨h2, h3⟩⟩
      · exact .inl ⟨h2, h3, by rw [← h2]; exact h1⟩
      · exact .inr ⟨h2, h1, h3⟩
    · rintro (⟨rfl, h2, h3⟩ | ⟨h1, h2, h3⟩)
      · exact ⟨h3, .inl ⟨by omega, rfl, h2⟩⟩
      · exact ⟨h2, .inr ⟨h1, h3⟩⟩
  cases hms : ms n with
  | none =>
    obtain ⟨w6, hr6, hx6, hit⟩ := range_nil (P := Try.prog) u84 w5
    refine ⟨⟨w5.heap.size, 0⟩, w6, hr6, hx5.trans hx6, Join.dir ?_⟩
    refine rangeMnil (P := Try.prog) hit ?_
    refine ⟨s5, pre, rfl, ((ho4.ext hx5).ext hx6).mono hx2.size, fun x => ?_, by omega, (hx04.trans hx5).trans hx6⟩
    rw [hmem, k.nil n hn6 hms]; simp
  | some m =>
    obtain ⟨hBm, l, c, hmp, hml⟩ := (k.ext (hx04.trans hx5)).mp n hn6 m hms
    have hll : l.length ≤ 6 := by
      have h1 := hmp.keys.length_le_of_subset (l₂ := six) (by
        intro t ht
        obtain ⟨x, hx, rfl⟩ := List.mem_map.1 ht
        have := mget_some hmp.keys hx
        rw [hml] at this
        split at this
        · rename_i hs; exact mem_six.2 (g.sh _ _ hs)
        · cases this)
      simpa [six] using h1
    obtain ⟨w6, hr6, hx6, hit, hmp6⟩ := range_run (κ := Int) (β := Bool) (P := Try.prog) u84 hmp
    refine ⟨⟨w5.heap.size, 0⟩, w6, hr6, hx5.trans hx6, Join.dir ?_⟩
    have hx06 := (hx04.trans hx5).trans hx6
    have hz5 := hx5.size
    have hz6 := hx6.size
    have hz1 := hx1.size
    have hz12 := hx12.size
    refine rangeM (P := Try.prog) (k := .slice) (fun vis (s : Sl) w' => Own 3 1 eI w3.heap.size w' s (pre ++ ((vis.filter fun x => decide (o.k = 1) && decide (x.1 ≠ o.t)).map (·.1))) ∧ (∀ a, s.a = some a → a.block ≠ w5.heap.size) ∧ Ext w w' ∧ Blk w' w.heap.size (eO o) 38)
      hmp6 hit ⟨by simpa using (ho4.ext hx5).ext hx6, fun a ha => by have := (ho4.base ha).2; omega, hx06, ((hb2.ext hx4).ext hx5).ext hx6⟩ ?_ ?_ ?_
    · rintro vis s w' w'' ⟨h1, h2, h3, h4⟩ hfr
      have hl1 := hb1.lt
      exact ⟨h1.fr hfr h2, h2, h3.newer hfr fun y (hy : y = w5.heap.size) => by omega, h4.fr hfr fun (hy : w.heap.size = w5.heap.size) => by omega⟩
    · rintro vis x s w' hxl hxv hvn hvl hvlt ⟨h1, h2, h3, h4⟩ hmp' hrb hent K hK
      have hrb : w5.heap.size < w'.heap.size := hrb
      refine ⟨x.1, x.2.1, hent, ?_⟩
      refine ⟨fun (y : Bool) w11 => y = (decide (o.k = 1) && decide (x.1 ≠ o.t)) ∧ w11 = w', ?_, ?_⟩
      rotate_left
      · refine ⟨_, h4.cell 1, cond_intro (fun hc => ⟨_, h4.cell 0, ?_, rfl⟩) (fun hc => ⟨?_, rfl⟩)⟩
        · have : o.k = 1 := by simpa using hc
          simp [this]; by_cases e : x.1 = o.t <;> simp [e]
        · have : ¬ o.k = 1 := by simpa using hc
          simp [this]
      rintro y w11 ⟨rfl, rfl⟩
      have hfilt : ((vis ++ [x]).filter fun x => decide (o.k = 1) && decide (x.1 ≠ o.t)).map (·.1) = (vis.filter fun x => decide (o.k = 1) && decide (x.1 ≠ o.t)).map (·.1) ++ if (decide (o.k = 1) && decide (x.1 ≠ o.t)) = true then [x.1] else [] := by
        rw [List.filter_append, List.map_append, List.filter_cons, List.filter_nil]
        split <;> rfl
      have hlen : (pre ++ ((vis.filter fun x => decide (o.k = 1) && decide (x.1 ≠ o.t)).map (·.1))).length ≤ 1000000 := by
        have : (vis.filter fun x => decide (o.k = 1) && decide (x.1 ≠ o.t)).length ≤ vis.length := List.length_filter_le ..
        rw [List.length_append, List.length_map]; omega
      refine Join.dir (cond_intro (fun hc => ?_) (fun hc => ?_))
      · obtain ⟨s1, w9, e9, hx9, s2, w10, e10, ho2, hf9, hwh⟩ := appendIntW h1 x.1 hlen (by omega)
        have hf := Ext.fr hx9 hf9
        refine ⟨s1, w9, e9, s2, w10, e10, hK _ _ ⟨by rw [hfilt, if_pos hc, ← List.append_assoc]; exact ho2, ?_, h3.newer hf fun y ⟨a, ha, hy⟩ => by have := (h1.base ha).1; omega, h4.fr hf ?_⟩ (hf.mono fun y _ ⟨a, ha, hy⟩ => ⟨?_, ?_⟩)⟩
        · intro a ha
          rcases hwh with hwh | hwh
          · rw [hwh] at ha; exact h2 a ha
          · have := hwh a ha
            omega
        · rintro ⟨a, ha, hy⟩
          have := (h1.base ha).1
          have := hb1.lt
          omega
        · rintro rfl
          exact h2 a ha hy
        · rintro rfl
          obtain ⟨cur, hcur⟩ := h1.blk ha
          rw [hy] at hcur
          exact hmp'.ne_blk hcur rfl
      · refine hK _ _ ⟨by rw [hfilt, if_neg (by rw [hc]; simp), List.append_nil]; exact h1, h2, h3, h4⟩ (Fr.refl _ _)
    · rintro vis s w' hall hvn hvl ⟨h1, h2, h3, h4⟩ hmp'
      refine ⟨s, _, rfl, h1.mono hx2.size, fun x => ?_, ?_, h3⟩
      · rw [hmem, List.mem_append]
        apply or_congr Iff.rfl
        rw [List.mem_map]
        constructor
        · rintro ⟨y, hy, rfl⟩
          obtain ⟨hy1, hy2⟩ := List.mem_filter.1 hy
          simp only [Bool.and_eq_true, decide_eq_true_eq] at hy2
          refine ⟨hy2.1, hy2.2, ?_⟩
          have := mget_some hmp.keys (hvl y hy1)
          rw [hml] at this
          split at this
          · assumption
          · cases this
        · rintro ⟨h5, h6, h7⟩
          have : mget l x = some true := by rw [hml, if_pos h7]
          obtain ⟨c', hc'⟩ := mget_mem this
          exact ⟨_, List.mem_filter.2 ⟨hall _ hc', by simp [h5, h6]⟩, rfl⟩
      · have : (vis.filter fun x => decide (o.k = 1) && decide (x.1 ≠ o.t)).length ≤ vis.length := List.length_filter_le ..
        have h9 := hvn.length_le_of_subset (l₂ := l) (fun x hx => hvl x hx)
        rw [List.length_append, List.length_map]; omega
end Go.Proofs.Ytnbkihkdfhjlmaa
