/-
  Contracts: keys of facts, given facts, arities, single facts, values of variables.
-/
import Derived.Test.YtoljknamnkkgcaaCc
namespace Go.Proofs.Ytoljknamnkkgcaa
open Go Go.VC
set_option maxHeartbeats 1000000
set_option maxRecDepth 100000

def vI (v : List Int) : List Value := v.map (Value.int .i64)
theorem vI_len (v : List Int) : (vI v).length = v.length := List.length_map ..
theorem vI_one (v : List Int) : ∀ x ∈ vI v, x.oneCell' = true := by intro x hx; obtain ⟨n, _, rfl⟩ := List.mem_map.1 hx; rfl
theorem vI_get {v : List Int} {i : Nat} (hi : i < v.length) : (vI v)[i]? = some (.int .i64 (v.getD i 0)) := by simp [vI, List.getD, hi]
theorem vI_set (v : List Int) (i : Nat) (n : Int) : (vI v).set i (.int .i64 n) = vI (v.set i n) := by unfold vI; rw [List.map_set]
/-- A cell of a block of ints. -/
theorem blkAt {w : World} {q : Nat} {v : List Int} {T : TypeId} (h : Blk w q (vI v) T) {i : Nat} (hi : i < v.length) {o : Nat} (ho : o = i) : w.cell? ⟨q, o, none⟩ = some (.int .i64 (v.getD i 0)) := by subst ho; rw [h.cell, vI_get hi]
theorem blkPut {w : World} {q : Nat} {v : List Int} {T : TypeId} (h : Blk w q (vI v) T) {i : Nat} (hi : i < v.length) {o : Nat} (ho : o = i) (n : Int) : StoreOk w q o [.int .i64 n] 1 ∧ Blk (put w q o [.int .i64 n]) q (vI (v.set i n)) T ∧ Fr (fun y => y = q) w (put w q o [.int .i64 n]) := by
  subst ho
  refine ⟨h.storeOk rfl (by simp [Value.oneCell']) (by rw [vI_len]; omega), ?_, Fr.put ..⟩
  have := h.put (o := o) (vs := [.int .i64 n])
  rw [← vI_set]; exact this
theorem zc121b (w : World) : Blk (w.alloc (.cells (zc Try.prog 121) 121)) w.heap.size (eK ⟨0, 0, 0⟩) 121 ∧ Ext w (w.alloc (.cells (zc Try.prog 121) 121)) := by
  refine ⟨?_, Ext.alloc ..⟩
  rw [← zc121l]; simpa using Blk.alloc w (zc Try.prog 121).toList 121
theorem blk_all {w : World} {q : Nat} {l vs : List Value} {T : TypeId} (h : Blk w q l T) (hl : vs.length = l.length) (h1 : ∀ v ∈ vs, v.oneCell' = true) : StoreOk w q 0 vs vs.length ∧ Blk (put w q 0 vs) q vs T ∧ Fr (fun y => y = q) w (put w q 0 vs) := by
  refine ⟨h.storeOk rfl h1 (by omega), ?_, Fr.put ..⟩
  have := h.put (o := 0) (vs := vs)
  rw [show setR l 0 vs = vs from by simpa using setR_all (vs := vs) (l := l) (pre := []) hl] at this
  exact this
/-- The key of a fact. -/
theorem c80 {w : World} {x : DF} (hx : Ints w x.sl x.args) (hne : x.args ≠ []) :
    Calls Try.prog 80 [.agg [.int .i64 x.rel, .slice x.sl.a x.sl.n x.sl.c].toArray].toArray w fun e w' => e = .returned (.agg [.int .i64 x.p.k.rel, .int .i64 x.p.k.a, .int .i64 x.p.k.b].toArray) ∧ Ext w w' := by
  refine (call80 x.rel x.sl (R := fun v w' => v = (.agg [.int .i64 x.p.k.rel, .int .i64 x.p.k.a, .int .i64 x.p.k.b].toArray) ∧ Ext w w') ?_).mono fun e w' ⟨v, he, hv, hx⟩ => ⟨by rw [he, hv], hx⟩
  have hn := hx.len
  have h0 : 0 < x.args.length := List.length_pos_iff.2 hne
  obtain ⟨b1, x1⟩ := eF_cells w x 36
  refine Let.intro fun w1 e1 => ?_
  have e1 : w1 = w.alloc (.cells (eF x).toArray 36) := e1
  rw [← e1] at b1 x1
  obtain ⟨b2, x2⟩ := zc121b w1
  refine Let.intro fun w2 e2 => ?_
  rw [← e2] at b2 x2
  have b1 := b1.ext x2
  have x12 := x1.trans x2
  refine ⟨fun u => Ext w2 u, Ext.drew _, Let.intro fun w3 e3 => ?_⟩
  have x3 : Ext w2 w3 := by rw [e3]; exact Ext.drew _
  obtain ⟨p, hp, _, _, hr⟩ := Ints.at hx h0
  refine ⟨x.rel, fun u hu => (b1.ext hu).cell 0, x.sl, fun u hu => (b1.ext hu).cell 1, p, hp, by omega, by omega, x.args[0], fun u hu => (x12.trans hu).cell hr, ?_⟩
  obtain ⟨n1, n2, n3⟩ := new_eK w3 ⟨x.rel, x.args[0], 0⟩
  refine Let.intro fun w4 e4 => ?_
  rw [← e4] at n1 n2 n3
  have x4 : Ext w3 w4 := by rw [e4]; exact Ext.alloc ..
  refine ⟨x3.trans x4, n1, Let.intro fun w5 e5 => ?_⟩
  have e5 : w5 = put w4 w3.heap.size 0 (eK ⟨x.rel, x.args[0], 0⟩) := e5
  rw [← e5] at n2 n3
  have x25 := x3.trans n3
  have b1 := b1.ext x25
  have b2 := b2.ext x25
  have z := x12.size
  have z1 := x1.size
  have z3 := x3.size
  have l2 := b2.lt
  have l3 := n2.lt
  have q12 : w1.heap.size < w3.heap.size := by have := (zc121b w1).1.lt; rw [← e2] at this; omega
  refine ⟨x.sl, b1.cell 1, ?_⟩
  refine ⟨fun w6 => Blk w6 w3.heap.size (eK x.p.k) 121 ∧ Blk w6 w1.heap.size (eK ⟨0, 0, 0⟩) 121 ∧ Ext w w6, ?_, ?_⟩
  · rintro w6 ⟨b3, b2, x6⟩
    obtain ⟨s1, s2, s3⟩ := blk_all b2 (vs := eK x.p.k) rfl (eK_one _)
    refine ⟨_, _, _, b3.rd, s1, Let.intro fun w7 e7 => ?_⟩
    have e7 : w7 = put w6 w1.heap.size 0 (eK x.p.k) := e7
    rw [← e7] at s2 s3
    exact ⟨_, _, _, s2.rd, rfl, x6.newer s3 fun y (hy : y = w1.heap.size) => by omega⟩
  · refine cond_intro (fun g => ?_) (fun g => ?_)
    · have g : 1 < x.args.length := by simp at g; omega
      obtain ⟨p', hp', _, _, hr'⟩ := Ints.at hx g
      refine ⟨x.sl, b1.cell 1, p', hp', by omega, by omega, x.args[1], (x12.trans x25).cell hr', ?_⟩
      have n2' : Blk w5 w3.heap.size (vI [x.rel, x.args[0], 0]) 121 := n2
      obtain ⟨s1, s2, s3⟩ := blkPut n2' (i := 2) (by simp) (o := 0 + 2) rfl x.args[1]
      refine ⟨s1, Let.intro fun w8 e8 => ?_⟩
      rw [← e8] at s2 s3
      refine ⟨?_, b2.fr s3 (by omega), (x12.trans x25).newer s3 fun y (hy : y = w3.heap.size) => by omega⟩
      have : vI ([x.rel, x.args[0], 0].set 2 x.args[1]) = eK x.p.k := by simp [vI, eK, Fa.k, DF.p, List.getD, h0, g]
      rw [← this]; exact s2
    · have g : ¬ 1 < x.args.length := by simp at g; omega
      refine ⟨?_, b2, x12.trans x25⟩
      have : eK ⟨x.rel, x.args[0], 0⟩ = eK x.p.k := by simp [eK, Fa.k, DF.p, List.getD, h0, List.getElem?_eq_none (show x.args.length ≤ 1 by omega)]
      rw [← this]; exact n2
theorem loadF {w : World} {s : Sl} {l : List DF} (hs : NF w s l) {i : Nat} (hi : i < l.length) {T : TypeId} (hz : (zc Try.prog T).size = 2) {B : World → Prop}
    (hB : ∀ w5, Blk w5 w.heap.size (eF l[i]) T → Ext w w5 → B w5) :
    ∃ p : Pt, s.a = some ⟨p.b, p.o, none⟩ ∧ 0 ≤ (i : Int) ∧ (i : Int) < ((s.n : Nat) : Int) ∧ ∃ a : Int, ∃ b : Sl, rd w p.b (p.o + Int.toNat (i : Int) * 2) [.int .i64 a, .slice b.a b.n b.c] ∧
      Let (w.alloc (.cells (zc Try.prog T) T)) fun w4 => StoreOk w4 w.heap.size 0 [.int .i64 a, .slice b.a b.n b.c] 2 ∧ Let (put w4 w.heap.size 0 [.int .i64 a, .slice b.a b.n b.c]) fun w5 => B w5 := by
  obtain ⟨p, hp, h2, h3, hr⟩ := Sli.at eF_len hs.sl hi
  obtain ⟨a, b, c⟩ := new_var w T (z := zc Try.prog T) (vs := eF l[i]) (by rw [hz, eF_len]) (eF_one _)
  exact ⟨p, hp, h2, h3, _, _, hr, a, hB _ b c⟩
/-- Given facts as a set. -/
def giv (l : List Fa) (k : Ky) : Prop := ∃ f ∈ l, f.k = k
theorem c67 {w : World} {s : Sl} {l : List DF} (hs : NF w s l) (hl : l.length ≤ big) (hne : ∀ x ∈ l, x.args ≠ []) :
    Calls Try.prog 67 [.slice s.a s.n s.c].toArray w fun e w' => ∃ b : Nat, e = .returned (.map (some b)) ∧ FM w' b (giv (l.map DF.p)) ∧ w.heap.size ≤ b ∧ Ext w w' := by
  refine (call67 s (R := fun v w' => ∃ b : Nat, v = (.map (some b)) ∧ FM w' b (giv (l.map DF.p)) ∧ w.heap.size ≤ b ∧ Ext w w') ?_).mono fun e w' ⟨v, he, b, hv, hx⟩ => ⟨b, by rw [he, hv], hx⟩
  have hn := hs.len
  refine Let.intro fun w1 e1 => ?_
  have m1 : FM w1 w.heap.size fun _ => False := by rw [e1]; exact SetM.made w
  have x1 : Ext w w1 := by rw [e1]; exact Ext.alloc ..
  refine Join.dir (rangeI (fun i w2 => FM w2 w.heap.size (giv ((l.take i).map DF.p)) ∧ Ext w w2) (by rw [hn]; exact hl) ⟨m1.congr fun k => by simp [giv], x1⟩ ?_ ?_)
  · rintro i hi w2 ⟨m2, x2⟩ K hK
    have hi : i < l.length := by omega
    refine loadF (hs.ext x2) hi zc36 fun w6 b6 x6 => ⟨_, _, b6.rd, ?_⟩
    have x26 := x2.trans x6
    refine (c80 ((hs.ok _ (List.getElem_mem hi)).ext x26) (hne _ (List.getElem_mem hi))).mono fun e w7 ⟨he, x7⟩ => ⟨_, _, _, he, ?_⟩
    have m7 := (m2.ext x6).ext x7
    obtain ⟨w8, hrun, m8, f8⟩ := m7.put K121 u105 (l[i]).p.k
    refine ⟨w8, hrun, hK _ ⟨m8.congr fun k => ?_, (x26.trans x7).newer f8 fun y (hy : y = w.heap.size) => by omega⟩⟩
    rw [List.take_succ_eq_append_getElem hi]
    simp only [giv, List.map_append, List.mem_append, List.map_cons, List.map_nil, List.mem_singleton]
    constructor
    · rintro ⟨f, hf | hf, e⟩
      · exact .inl ⟨f, hf, e⟩
      · subst hf; exact .inr e.symm
    · rintro (⟨f, hf, e⟩ | e)
      · exact ⟨f, .inl hf, e⟩
      · exact ⟨_, .inr rfl, e.symm⟩
  · rintro w2 ⟨m2, x2⟩
    rw [hn, List.take_length] at m2
    exact ⟨_, rfl, m2, Nat.le_refl _, x2⟩
/-! ### the smallest and the greatest -/
theorem c105 {w : World} {s : Sl} {l : List Int} (hs : Ints w s l) (hl : l.length ≤ big) (hne : l ≠ []) :
    Calls Try.prog 105 [.slice s.a s.n s.c].toArray w fun e w' => ∃ m : Int, e = .returned (.int .i64 m) ∧ (∀ c, c ≤ m ↔ ∀ x ∈ l, c ≤ x) ∧ w' = w := by
  refine (call105 s (R := fun v w' => ∃ m : Int, v = .int .i64 m ∧ (∀ c, c ≤ m ↔ ∀ x ∈ l, c ≤ x) ∧ w' = w) ?_).mono fun e w' ⟨v, he, m, hv, hx⟩ => ⟨m, by rw [he, hv], hx⟩
  have hn := hs.len
  have h0 : 0 < l.length := List.length_pos_iff.2 hne
  have hlb : l.length ≤ 9223372036854775807 := hl
  refine Join.dir (cond_intro (fun g => by simp at g; omega) (fun _ => ?_))
  obtain ⟨p, hp, _, _, hr⟩ := Ints.at hs h0
  refine ⟨p, hp, by omega, by omega, l[0], hr, Join.dir (LoopV.intro (fun n (m x : Int) w3 => ∃ i : Nat, x = i ∧ n = l.length - i ∧ 1 ≤ i ∧ i ≤ l.length ∧ (∀ c, c ≤ m ↔ ∀ x ∈ l.take i, c ≤ x) ∧ w3 = w) (l.length - 1) ⟨1, rfl, rfl, by omega, by omega, fun c => ?_, rfl⟩ ?_)⟩
  · rw [List.take_succ_eq_append_getElem h0]; simp
  rintro n m x w3 ⟨i, rfl, rfl, hi1, hi, hm, hw⟩
  subst hw
  refine cond_intro (fun g => ?_) (fun g => ?_)
  · have g : i < l.length := by simp at g; omega
    obtain ⟨p, hp, a1, a2, hr⟩ := Ints.at hs g
    refine Join.dir ⟨p, hp, a1, a2, _, hr, l.length - (i + 1), by omega, i + 1, by rw [wrap64 (by omega) (by omega)]; rfl, rfl, by omega, by omega, fun c => ?_, rfl⟩
    rw [List.take_succ_eq_append_getElem g]
    simp only [List.mem_append, List.mem_singleton]
    constructor
    · intro h x hx
      rcases hx with hx | hx
      · exact (hm c).1 (by split at h <;> omega) x hx
      · subst hx; split at h <;> omega
    · intro h
      have h1 := (hm c).2 fun x hx => h x (.inl hx)
      have h2 := h _ (.inr rfl)
      split <;> omega
  · have g : i = l.length := by simp at g; omega
    subst g
    rw [List.take_length] at hm
    exact ⟨m, rfl, hm, rfl⟩
theorem c106 {w : World} {s : Sl} {l : List Int} (hs : Ints w s l) (hl : l.length ≤ big) (hne : l ≠ []) :
    Calls Try.prog 106 [.slice s.a s.n s.c].toArray w fun e w' => ∃ m : Int, e = .returned (.int .i64 m) ∧ (∀ c, m ≤ c ↔ ∀ x ∈ l, x ≤ c) ∧ w' = w := by
  refine (call106 s (R := fun v w' => ∃ m : Int, v = .int .i64 m ∧ (∀ c, m ≤ c ↔ ∀ x ∈ l, x ≤ c) ∧ w' = w) ?_).mono fun e w' ⟨v, he, m, hv, hx⟩ => ⟨m, by rw [he, hv], hx⟩
  have hn := hs.len
  have h0 : 0 < l.length := List.length_pos_iff.2 hne
  have hlb : l.length ≤ 9223372036854775807 := hl
  refine Join.dir (cond_intro (fun g => by simp at g; omega) (fun _ => ?_))
  obtain ⟨p, hp, _, _, hr⟩ := Ints.at hs h0
  refine ⟨p, hp, by omega, by omega, l[0], hr, Join.dir (LoopV.intro (fun n (m x : Int) w3 => ∃ i : Nat, x = i ∧ n = l.length - i ∧ 1 ≤ i ∧ i ≤ l.length ∧ (∀ c, m ≤ c ↔ ∀ x ∈ l.take i, x ≤ c) ∧ w3 = w) (l.length - 1) ⟨1, rfl, rfl, by omega, by omega, fun c => ?_, rfl⟩ ?_)⟩
  · rw [List.take_succ_eq_append_getElem h0]; simp
  rintro n m x w3 ⟨i, rfl, rfl, hi1, hi, hm, hw⟩
  subst hw
  refine cond_intro (fun g => ?_) (fun g => ?_)
  · have g : i < l.length := by simp at g; omega
    obtain ⟨p, hp, a1, a2, hr⟩ := Ints.at hs g
    refine Join.dir ⟨p, hp, a1, a2, _, hr, l.length - (i + 1), by omega, i + 1, by rw [wrap64 (by omega) (by omega)]; rfl, rfl, by omega, by omega, fun c => ?_, rfl⟩
    rw [List.take_succ_eq_append_getElem g]
    simp only [List.mem_append, List.mem_singleton]
    constructor
    · intro h x hx
      rcases hx with hx | hx
      · exact (hm c).1 (by split at h <;> omega) x hx
      · subst hx; split at h <;> omega
    · intro h
      have h1 := (hm c).2 fun x hx => h x (.inl hx)
      have h2 := h _ (.inr rfl)
      split <;> omega
  · have g : i = l.length := by simp at g; omega
    subst g
    rw [List.take_length] at hm
    exact ⟨m, rfl, hm, rfl⟩
/-! ### arities -/
def okA (ar : List Int) (rel n : Int) : Prop := 0 ≤ rel ∧ rel < 6 ∧ 1 ≤ n ∧ n ≤ 2 ∧ (ar.getD rel.toNat 0 = 0 ∨ ar.getD rel.toNat 0 = n)
instance (ar : List Int) (rel n : Int) : Decidable (okA ar rel n) := by unfold okA; infer_instance
theorem c102 {w : World} {q : Nat} {ar : List Int} {T : TypeId} (hq : Blk w q (vI ar) T) (hl : ar.length = 6) (rel n : Int) :
    Calls Try.prog 102 [.pointer (some ⟨q, 0, none⟩), .int .i64 rel, .int .i64 n].toArray w fun e w' => e = .returned (.bool (decide (okA ar rel n))) ∧ Blk w' q (vI (if okA ar rel n then ar.set rel.toNat n else ar)) T ∧ Fr (fun y => y = q) w w' := by
  refine (call102 ⟨q, 0⟩ rel n (R := fun v w' => v = .bool (decide (okA ar rel n)) ∧ Blk w' q (vI (if okA ar rel n then ar.set rel.toNat n else ar)) T ∧ Fr (fun y => y = q) w w') ?_).mono fun e w' ⟨v, he, hv, hx⟩ => ⟨by rw [he, hv], hx⟩
  refine ⟨fun (b : Bool) w1 => b = !decide (okA ar rel n) ∧ w1 = w, ?_, ?_⟩
  · rintro b w1 ⟨rfl, rfl⟩
    refine cond_intro (fun g => ?_) (fun g => ?_)
    · have g : ¬ okA ar rel n := by simpa using g
      exact ⟨by simp [g], by rw [if_neg g]; exact hq, Fr.refl _ _⟩
    · have g : okA ar rel n := by simpa using g
      have h1 := g.1
      have h2 := g.2.1
      obtain ⟨s1, s2, s3⟩ := blkPut hq (i := rel.toNat) (by omega) (o := 0 + Int.toNat rel * 1) (by omega) n
      refine ⟨h1, by omega, s1, Let.intro fun w2 e2 => ?_⟩
      rw [← e2] at s2 s3
      exact ⟨by simp [g], by rw [if_pos g]; exact s2, s3⟩
  · refine cond_intro (fun g => ⟨?_, rfl⟩) (fun g1 => cond_intro (fun g => ⟨?_, rfl⟩) (fun g2 => cond_intro (fun g => ⟨?_, rfl⟩) (fun g3 => cond_intro (fun g => ⟨?_, rfl⟩) (fun g4 => ?_))))
    · have g : rel < 0 := by simpa using g
      have : ¬ okA ar rel n := fun h => by have := h.1; omega
      simp [this]
    · have g : rel ≥ 6 := by simpa using g
      have : ¬ okA ar rel n := fun h => by have := h.2.1; omega
      simp [this]
    · have g : n < 1 := by simpa using g
      have : ¬ okA ar rel n := fun h => by have := h.2.2.1; omega
      simp [this]
    · have g : n > 2 := by simpa using g
      have : ¬ okA ar rel n := fun h => by have := h.2.2.2.1; omega
      simp [this]
    · have g1 : ¬ rel < 0 := by simpa using g1
      have g2 : ¬ rel ≥ 6 := by simpa using g2
      have g3 : ¬ n < 1 := by simpa using g3
      have g4 : ¬ n > 2 := by simpa using g4
      have hc := blkAt hq (i := rel.toNat) (by omega) (o := 0 + Int.toNat rel * 1) (by omega)
      refine ⟨by omega, by omega, _, hc, cond_intro (fun g5 => ⟨by omega, by omega, _, hc, ?_, rfl⟩) (fun g5 => ⟨?_, rfl⟩)⟩
      · have g5 : ar.getD rel.toNat 0 ≠ 0 := by simpa using g5
        by_cases h : ar.getD rel.toNat 0 = n
        · have : okA ar rel n := ⟨by omega, by omega, by omega, by omega, .inr h⟩
          simp only [this, decide_true, Bool.not_true]
          rw [bne_eq_false_iff_eq]; exact h
        · have : ¬ okA ar rel n := fun k => by rcases k.2.2.2.2 with k | k; exact g5 k; exact h k
          simp only [this, decide_false, Bool.not_false]
          rw [bne_iff_ne]; exact h
      · have g5 : ar.getD rel.toNat 0 = 0 := by simpa using g5
        have : okA ar rel n := ⟨by omega, by omega, by omega, by omega, .inl g5⟩
        simp [this]
theorem zc167 : (zc Try.prog 167).toList = vI [0, 0, 0, 0, 0, 0] := by kernel_rfl
theorem zc167b (w : World) : Blk (w.alloc (.cells (zc Try.prog 167) 167)) w.heap.size (vI [0, 0, 0, 0, 0, 0]) 167 ∧ Ext w (w.alloc (.cells (zc Try.prog 167) 167)) := by
  refine ⟨?_, Ext.alloc ..⟩
  rw [← zc167]; simpa using Blk.alloc w (zc Try.prog 167).toList 167
/-- A fact by itself. -/
def GroundF (f : Fa) : Prop := 0 ≤ f.rel ∧ f.rel ≤ 5 ∧ 1 ≤ f.args.length ∧ f.args.length ≤ 2 ∧ ∀ x ∈ f.args, 1 ≤ x ∧ x ≤ 6
instance (f : Fa) : Decidable (GroundF f) := by unfold GroundF; infer_instance
theorem c74 {w : World} {x : DF} (hx : Ints w x.sl x.args) (hl : x.args.length ≤ big) :
    Calls Try.prog 74 [.agg [.int .i64 x.rel, .slice x.sl.a x.sl.n x.sl.c].toArray].toArray w fun e w' => e = .returned (.bool (decide (GroundF x.p))) ∧ Ext w w' := by
  refine (call74 x.rel x.sl (R := fun v w' => v = .bool (decide (GroundF x.p)) ∧ Ext w w') ?_).mono fun e w' ⟨v, he, hv, hx⟩ => ⟨by rw [he, hv], hx⟩
  have hn := hx.len
  obtain ⟨b1, x1⟩ := eF_cells w x 36
  refine Let.intro fun w1 e1 => ?_
  have e1 : w1 = w.alloc (.cells (eF x).toArray 36) := e1
  rw [← e1] at b1 x1
  obtain ⟨b2, x2⟩ := zc167b w1
  refine Let.intro fun w2 e2 => ?_
  rw [← e2] at b2 x2
  have b1 := b1.ext x2
  have x12 := x1.trans x2
  have z1 := x1.size
  have hlt : w.heap.size < w1.heap.size := by have := (eF_cells w x 36).1.lt; rw [← e1] at this; exact this
  refine Join.dir ⟨x.rel, b1.cell 0, x.sl, b1.cell 1, (c102 b2 rfl x.rel ((x.sl.n : Nat) : Int)).mono fun e w4 ⟨he, b4, f4⟩ => ⟨_, he, ?_⟩⟩
  have x4 : Ext w w4 := x12.newer f4 fun y (hy : y = w1.heap.size) => by omega
  have b1 := b1.fr f4 (by omega)
  have hok : okA [0, 0, 0, 0, 0, 0] x.rel ((x.sl.n : Nat) : Int) ↔ 0 ≤ x.rel ∧ x.rel ≤ 5 ∧ 1 ≤ x.args.length ∧ x.args.length ≤ 2 := by
    rw [hn]
    unfold okA
    constructor
    · rintro ⟨a, b, c, d, _⟩; exact ⟨a, by omega, by omega, by omega⟩
    · rintro ⟨a, b, c, d⟩
      refine ⟨a, by omega, by omega, by omega, .inl ?_⟩
      have : x.rel.toNat < 6 := by omega
      rcases h : x.rel.toNat with _ | _ | _ | _ | _ | _ | n <;> simp
  refine cond_intro (fun g => ?_) (fun g => ?_)
  rotate_left
  · have g : ¬ okA [0, 0, 0, 0, 0, 0] x.rel ((x.sl.n : Nat) : Int) := by simpa using g
    refine ⟨?_, x4⟩
    have : ¬ GroundF x.p := fun h => g (hok.2 ⟨h.1, h.2.1, h.2.2.1, h.2.2.2.1⟩)
    simp [this]
  have g : okA [0, 0, 0, 0, 0, 0] x.rel ((x.sl.n : Nat) : Int) := by simpa using g
  obtain ⟨g1, g2, g3, g4⟩ := hok.1 g
  have hne : x.args ≠ [] := by intro h; rw [h] at g3; simp at g3
  refine ⟨x.sl, b1.cell 1, (c105 (hx.ext x4) hl hne).mono fun e w5 ⟨m, he, hm, hw⟩ => ⟨_, he, ?_⟩⟩
  subst hw
  refine cond_intro (fun g5 => ?_) (fun g5 => ?_)
  rotate_left
  · have g5 : ¬ (1 ≤ m) := by simpa using g5
    refine ⟨?_, x4⟩
    have : ¬ GroundF x.p := fun h => g5 ((hm 1).2 fun y hy => (h.2.2.2.2 y hy).1)
    simp [this]
  have g5 : 1 ≤ m := by simpa using g5
  refine ⟨x.sl, b1.cell 1, (c106 (hx.ext x4) hl hne).mono fun e w6 ⟨m', he, hm', hw⟩ => ⟨_, he, ?_, ?_⟩⟩
  · congr 1
    apply decide_eq_decide.2
    constructor
    · intro h
      exact ⟨g1, g2, g3, g4, fun y hy => ⟨(hm 1).1 g5 y hy, (hm' 6).1 h y hy⟩⟩
    · intro h
      exact (hm' 6).2 fun y hy => (h.2.2.2.2 y hy).2
  · rw [hw]; exact x4
end Go.Proofs.Ytoljknamnkkgcaa
