/-
  Contracts: the committed part and the serial histories, in the program and in the reference.
-/
import Derived.Test.YtnbkihkdfhjlmaaCe
import Derived.Test.YtnbkihkdfhjlmaaSb
namespace Go.Proofs.Ytnbkihkdfhjlmaa
open Go Go.VC

theorem E23 : Elem Try.prog 23 37 3 24 := Elem.of (by kernel_rfl) (by kernel_rfl) (by decide)
/-- The committed part. -/
def part (h : List Ev) : List Ev := h.filter fun o => decide (o.t ∈ com h)
/-- One step of a filter. -/
theorem filter_step {α : Type} {h : List α} {p : α → Bool} {i : Nat} (hi : i < h.length) : (h.take (i + 1)).filter p = (h.take i).filter p ++ if p h[i] then [h[i]] else [] := by
  rw [List.take_succ_eq_append_getElem hi, List.filter_append, List.filter_cons, List.filter_nil]
/-- An operation appended. -/
theorem appendEv {t e : Nat} (E : Elem Try.prog t e 3 24) {B : Nat} {w : World} {s : Sl} {l : List Ev} (ho : Own e 3 eO B w s l) (x : Ev) (hl : l.length ≤ 1000000) (hB : B ≤ w.heap.size) :
    ∃ (s1 : Sl) (w1 : World), (Instr.buildSlice t 1 [(0, .agg [.int .i64 x.t, .int .i64 x.k, .int .i64 x.i].toArray)].toArray).run Try.prog w = .ok (.slice s1.a s1.n s1.c) w1 ∧
      ∃ (s' : Sl) (w' : World), (Builtin.append_ #[t, t] t #[.slice s.a s.n s.c, .slice s1.a s1.n s1.c]).run Try.prog w1 = .ok (.slice s'.a s'.n s'.c) w' ∧ Own e 3 eO B w' s' (l ++ [x]) ∧ Fr (Bl s) w w' :=
  appendOne E ho (x := x) rfl eO_len eO_one (by omega) (by omega) (by simp only [maxLen]; omega) hB t
/-- An int appended. -/
theorem appendInt {B : Nat} {w : World} {s : Sl} {l : List Int} (ho : Own 3 1 eI B w s l) (x : Int) (hl : l.length ≤ 1000000) (hB : B ≤ w.heap.size) :
    ∃ (s1 : Sl) (w1 : World), (Instr.buildSlice 24 1 [(0, .int .i64 x)].toArray).run Try.prog w = .ok (.slice s1.a s1.n s1.c) w1 ∧
      ∃ (s' : Sl) (w' : World), (Builtin.append_ #[24, 24] 24 #[.slice s.a s.n s.c, .slice s1.a s1.n s1.c]).run Try.prog w1 = .ok (.slice s'.a s'.n s'.c) w' ∧ Own 3 1 eI B w' s' (l ++ [x]) ∧ Fr (Bl s) w w' :=
  appendOne E24 ho (x := x) rfl eI_len eI_one (by omega) (by omega) (by simp only [maxLen]; omega) hB 24
/-- What is written to a slice that is newer than a world changes nothing in that world. -/
theorem Own.newer {T size : Nat} {α : Type} {enc : α → List Value} {w w1 w2 : World} {B : Nat} {s : Sl} {l : List α} (ho : Own T size enc B w1 s l) (hx : Ext w w1) (hf : Fr (Bl s) w1 w2) (hB : w.heap.size ≤ B) : Ext w w2 :=
  hx.newer hf fun b ⟨a, ha, hb⟩ => by have := (ho.base ha).1; omega

theorem c34 {w : World} {s : Sl} {h : List Ev} (hs : Hs w s h) (hl : h.length ≤ 1000000) :
    Calls Try.prog 34 [.slice s.a s.n s.c].toArray w fun e w' => ∃ s' : Sl, e = .returned (.slice s'.a s'.n s'.c) ∧ Own 38 3 eO w.heap.size w' s' (part h) ∧ Ext w w' := by
  refine (call34 s (R := fun v w' => ∃ s' : Sl, v = .slice s'.a s'.n s'.c ∧ Own 38 3 eO w.heap.size w' s' (part h) ∧ Ext w w') ?_).mono fun e w' ⟨v, he, s', hv, hx⟩ => ⟨s', by rw [he, hv], hx⟩
  have hn := hs.len
  have hbig : h.length ≤ big := by show h.length ≤ 9223372036854775807; omega
  refine (c36 hs hbig).mono fun e w1 ⟨sc, he, hoc, hx1⟩ => ⟨sc, he, ?_⟩
  refine Join.dir (rangeSI (fun i (s' : Sl) w' => Own 38 3 eO w1.heap.size w' s' ((h.take i).filter fun o => decide (o.t ∈ com h)) ∧ Ext w1 w') (by rw [hn]; exact hbig) ⟨Own.nil .., Fr.refl _ _⟩ ?_ ?_)
  · rintro i hi s' w3 ⟨ho, hx⟩ K hK
    have hi : i < h.length := by omega
    have hlen : ((h.take i).filter fun o => decide (o.t ∈ com h)).length ≤ 1000000 := by
      refine Nat.le_trans (List.length_filter_le ..) ?_
      simp; omega
    refine loadEv ((hs.ext hx1).ext hx) hi zc38 fun w6 hb hx6 => ⟨_, hb.cell 0, ?_⟩
    refine (c28 (hoc.sli.ext (hx.trans hx6)) h[i].t (Nat.le_trans (com_len h) (by decide))).mono fun e w7 ⟨he, hx7⟩ => ⟨_, he, ?_⟩
    have ho7 := ho.ext (hx6.trans hx7)
    refine Join.dir (cond_intro (fun hc => ?_) (fun hc => ?_))
    · obtain ⟨s1, w9, e9, s2, w10, e10, ho2, hf⟩ := appendEv E29 ho7 h[i] hlen (by have := (hx.trans (hx6.trans hx7)).size; omega)
      refine ⟨_, _, _, (hb.ext hx7).rd, s1, w9, e9, s2, w10, e10, hK _ _ ⟨?_, Own.newer ho7 (hx.trans (hx6.trans hx7)) hf (Nat.le_refl _)⟩⟩
      rw [filter_step hi, hc]; exact ho2
    · refine hK _ _ ⟨?_, hx.trans (hx6.trans hx7)⟩
      rw [filter_step hi, hc]; simpa using ho7
  · rintro s' w' ⟨ho, hx⟩
    rw [hn, List.take_length] at ho
    exact ⟨s', rfl, ho.mono hx1.size, hx1.trans hx⟩

theorem fin_of {h : List Ev} (hok : ∀ o ∈ h, okOp o) {k : Int} (hk : 1 < k) {t : Int} {i : Nat} (hi : i < h.length) : (h[i].t = t ∧ h[i].k = k) ↔ h[i] = ⟨t, k, 0⟩ := by
  have := hok h[i] (List.getElem_mem hi)
  unfold okOp at this
  constructor
  · rintro ⟨h1, h2⟩
    have h3 : h[i].i = 0 := by omega
    cases hh : h[i] with
    | mk a b c => rw [hh] at h1 h2 h3; simp_all
  · intro h1; rw [h1]; exact ⟨rfl, rfl⟩
theorem c68 {w : World} {s : Sl} {h : List Ev} (hs : Hs w s h) (hok : ∀ o ∈ h, okOp o) (t k : Int) (hk : 1 < k) (hl : h.length ≤ big) :
    Calls Try.prog 68 [.slice s.a s.n s.c, .int .i64 t, .int .i64 k].toArray w fun e w' => e = .returned (.int .i64 (fin h k t)) ∧ Ext w w' := by
  refine (call68 s t k (R := fun v w' => v = .int .i64 (fin h k t) ∧ Ext w w') ?_).mono fun e w' ⟨v, he, hv, hx⟩ => ⟨by rw [he, hv], hx⟩
  have hn := hs.len
  refine Join.dir (rangeI (fun i w2 => (⟨t, k, 0⟩ : Ev) ∉ h.take i ∧ Ext w w2) (by rw [hn]; exact hl) ⟨by simp, Fr.refl _ w⟩ ?_ ?_)
  · rintro i hi w2 ⟨hno, hx⟩ K hK
    have hi : i < h.length := by omega
    refine loadEv (hs.ext hx) hi zc37 fun w5 hb hx5 => ?_
    refine ⟨fun (b : Bool) w' => b = decide (h[i] = ⟨t, k, 0⟩) ∧ w' = w5, ?_, ?_⟩
    · rintro b w6 ⟨rfl, rfl⟩
      refine cond_intro (fun hc => ?_) (fun hc => ?_)
      · have hc : h[i] = ⟨t, k, 0⟩ := by simpa using hc
        exact ⟨by rw [fin, ix_at (by rw [List.getElem?_eq_getElem hi, hc]) hno], hx.trans hx5⟩
      · have hc : ¬ h[i] = ⟨t, k, 0⟩ := by simpa using hc
        exact hK _ ⟨not_take hno (List.getElem?_eq_getElem hi) hc, hx.trans hx5⟩
    · have hiff := fin_of hok hk (t := t) hi
      refine ⟨_, hb.cell 0, cond_intro (fun hc => ?_) (fun hc => ?_)⟩
      · refine ⟨_, hb.cell 1, ?_, rfl⟩
        have hc : h[i].t = t := by simpa using hc
        by_cases h2 : h[i].k = k
        · simp [hiff.1 ⟨hc, h2⟩]
        · have : ¬ h[i] = ⟨t, k, 0⟩ := fun e => h2 (hiff.2 e).2
          simp [h2, this]
      · have hc : ¬ h[i].t = t := by simpa using hc
        have : ¬ h[i] = ⟨t, k, 0⟩ := fun e => hc (hiff.2 e).1
        exact ⟨by simp [this], rfl⟩
  · rintro w2 ⟨hno, hx⟩
    rw [hn, List.take_length] at hno
    exact ⟨by rw [fin, ix_not hno], hx⟩

theorem c70 {w : World} {s : Sl} {h : List Ev} (hs : Hs w s h) (hok : ∀ o ∈ h, okOp o) (hl : h.length ≤ 1000000) :
    Calls Try.prog 70 [.slice s.a s.n s.c].toArray w fun e w' => ∃ s' : Sl, e = .returned (.slice s'.a s'.n s'.c) ∧ Own 37 3 eO w.heap.size w' s' (part h) ∧ Ext w w' := by
  refine (call70 s (R := fun v w' => ∃ s' : Sl, v = .slice s'.a s'.n s'.c ∧ Own 37 3 eO w.heap.size w' s' (part h) ∧ Ext w w') ?_).mono fun e w' ⟨v, he, s', hv, hx⟩ => ⟨s', by rw [he, hv], hx⟩
  have hn := hs.len
  have hbig : h.length ≤ big := by show h.length ≤ 9223372036854775807; omega
  refine Join.dir (rangeSI (fun i (s' : Sl) w' => Own 37 3 eO w.heap.size w' s' ((h.take i).filter fun o => decide (o.t ∈ com h)) ∧ Ext w w') (by rw [hn]; exact hbig) ⟨Own.nil .., Fr.refl _ _⟩ ?_ ?_)
  · rintro i hi s' w3 ⟨ho, hx⟩ K hK
    have hi : i < h.length := by omega
    have hlen : ((h.take i).filter fun o => decide (o.t ∈ com h)).length ≤ 1000000 := by
      refine Nat.le_trans (List.length_filter_le ..) ?_
      simp; omega
    have hoki := hok h[i] (List.getElem_mem hi)
    refine loadEv (hs.ext hx) hi zc37 fun w6 hb hx6 => ⟨_, hb.cell 0, ?_⟩
    refine (c68 (hs.ext (hx.trans hx6)) hok h[i].t 2 (by omega) hbig).mono fun e w7 ⟨he, hx7⟩ => ⟨_, he, ?_⟩
    have ho7 := ho.ext (hx6.trans hx7)
    have hiff : decide (h[i].t ∈ com h) = decide (fin h 2 h[i].t ≥ 0) := by
      unfold okOp at hoki
      apply decide_eq_decide.2
      rw [mem_com]
      exact ⟨fun h1 => h1.2.2, fun h1 => ⟨by omega, by omega, h1⟩⟩
    refine Join.dir (cond_intro (fun hc => ?_) (fun hc => ?_))
    · obtain ⟨s1, w9, e9, s2, w10, e10, ho2, hf⟩ := appendEv E23 ho7 h[i] hlen (by have := (hx.trans (hx6.trans hx7)).size; omega)
      refine ⟨_, _, _, (hb.ext hx7).rd, s1, w9, e9, s2, w10, e10, hK _ _ ⟨?_, Own.newer ho7 (hx.trans (hx6.trans hx7)) hf (Nat.le_refl _)⟩⟩
      rw [filter_step hi, hiff, hc]; exact ho2
    · refine hK _ _ ⟨?_, hx.trans (hx6.trans hx7)⟩
      rw [filter_step hi, hiff, hc]; simpa using ho7
  · rintro s' w' ⟨ho, hx⟩
    rw [hn, List.take_length] at ho
    exact ⟨s', rfl, ho, hx⟩

theorem c41 {w : World} {s : Sl} {h : List Ev} (hs : Hs w s h) (hok : ∀ o ∈ h, okOp o) (hl : h.length ≤ 1000000) :
    Calls Try.prog 41 [.slice s.a s.n s.c].toArray w fun e w' => ∃ s' : Sl, e = .returned (.slice s'.a s'.n s'.c) ∧ Own 3 1 eI w.heap.size w' s' (com h) ∧ Ext w w' := by
  refine (call41 s (R := fun v w' => ∃ s' : Sl, v = .slice s'.a s'.n s'.c ∧ Own 3 1 eI w.heap.size w' s' (com h) ∧ Ext w w') ?_).mono fun e w' ⟨v, he, s', hv, hx⟩ => ⟨s', by rw [he, hv], hx⟩
  have hbig : h.length ≤ big := by show h.length ≤ 9223372036854775807; omega
  refine Join.dir (LoopV.intro (fun n (s' : Sl) (x : Int) w' => ∃ i : Nat, x = (i : Int) + 1 ∧ i ≤ 6 ∧ n = 6 - i ∧ Own 3 1 eI w.heap.size w' s' ((([1, 2, 3, 4, 5, 6] : List Int).take i).filter fun t => decide (0 ≤ fin h 2 t)) ∧ Ext w w') 6
    ⟨0, rfl, by omega, by omega, Own.nil .., Fr.refl _ _⟩ ?_)
  rintro n s' x w2 ⟨i, rfl, hi, rfl, ho, hx⟩
  refine cond_intro (fun hc => ?_) (fun hc => ?_)
  · have hi6 : i < 6 := by have : (i : Int) + 1 ≤ 6 := by simpa using hc
                           omega
    have hil : i < ([1, 2, 3, 4, 5, 6] : List Int).length := by simpa using hi6
    have hget : ([1, 2, 3, 4, 5, 6] : List Int)[i] = (i : Int) + 1 := by
      have : ∀ i : Fin 6, ([1, 2, 3, 4, 5, 6] : List Int)[i.1]'(by simp) = (i.1 : Int) + 1 := by decide
      exact this ⟨i, hi6⟩
    have hlen : ((([1, 2, 3, 4, 5, 6] : List Int).take i).filter fun t => decide (0 ≤ fin h 2 t)).length ≤ 1000000 := by
      refine Nat.le_trans (List.length_filter_le ..) ?_
      simp; omega
    refine Join.dir ((c68 (hs.ext hx) hok ((i : Int) + 1) 2 (by omega) hbig).mono fun e w4 ⟨he, hx4⟩ => ⟨_, he, ?_⟩)
    have ho4 := ho.ext hx4
    have hend : ∀ s2 w5, Own 3 1 eI w.heap.size w5 s2 ((([1, 2, 3, 4, 5, 6] : List Int).take (i + 1)).filter fun t => decide (0 ≤ fin h 2 t)) → Ext w w5 → ∃ m, m < 6 - i ∧ ∃ j : Nat, IntKind.wrap .i64 ((i : Int) + 1 + 1) = (j : Int) + 1 ∧ j ≤ 6 ∧ m = 6 - j ∧ Own 3 1 eI w.heap.size w5 s2 ((([1, 2, 3, 4, 5, 6] : List Int).take j).filter fun t => decide (0 ≤ fin h 2 t)) ∧ Ext w w5 :=
      fun s2 w5 h1 h2 => ⟨6 - (i + 1), by omega, i + 1, by rw [wrap64 (by omega) (by omega)]; rfl, by omega, rfl, h1, h2⟩
    refine Join.dir (cond_intro (fun hc => ?_) (fun hc => ?_))
    · obtain ⟨s1, w9, e9, s2, w10, e10, ho2, hf⟩ := appendInt ho4 ((i : Int) + 1) hlen (by have := (hx.trans hx4).size; omega)
      refine ⟨s1, w9, e9, s2, w10, e10, hend _ _ ?_ (Own.newer ho4 (hx.trans hx4) hf (Nat.le_refl _))⟩
      rw [filter_step hil, hget, show decide (0 ≤ fin h 2 ((i : Int) + 1)) = true from hc]; exact ho2
    · refine hend _ _ ?_ (hx.trans hx4)
      rw [filter_step hil, hget, show decide (0 ≤ fin h 2 ((i : Int) + 1)) = false from hc]; simpa using ho4
  · have : i = 6 := by have : ¬ (i : Int) + 1 ≤ 6 := by simpa using hc
                       omega
    subst this
    exact ⟨s', rfl, ho, hx⟩

/-- The operations of a history, transaction by transaction. -/
def serial (h : List Ev) (order : List Int) : List Ev := order.flatMap fun t => h.filter fun o => decide (o.t = t)
theorem serial_len (h : List Ev) : ∀ order : List Int, (serial h order).length ≤ order.length * h.length
  | [] => by simp [serial]
  | t :: r => by
    have := serial_len h r
    have h2 : (h.filter fun o => decide (o.t = t)).length ≤ h.length := List.length_filter_le ..
    unfold serial at this ⊢
    rw [List.flatMap_cons, List.length_append, List.length_cons, Nat.add_mul]; omega
/-- The walk of both. -/
theorem serial_walk {T t : Nat} (E : Elem Try.prog t T 3 24) (hz : (zc Try.prog T).size = 3) {w : World} {s s' : Sl} {h : List Ev} {order : List Int} (hs : Hs w s h) (hs' : Ints w s' order) (hl : h.length ≤ 1000) (hl' : order.length ≤ 100) {R : Value → World → Prop}
    (hR : ∀ s5 w', Own T 3 eO w.heap.size w' s5 (serial h order) → Ext w w' → R (.slice s5.a s5.n s5.c) w') :
    Join [(5, .slice)] (fun (s5 : Sl) (w1 : World) => R (.slice s5.a s5.n s5.c) w1) (fun J =>
  LoopV [(5, .slice), (12, .int .i64)] (fun K => K ⟨none, 0, 0⟩ (0 : Int) w) (fun N => fun (s5_2 : Sl) (x12 : Int) (w2 : World) =>
  cond (decide (x12 < ((s'.n : Nat) : Int))) (
  Join [(5, .slice)] (fun (s5_3 : Sl) (w3 : World) => N ⟨s5_3.a, s5_3.n, s5_3.c⟩ (IntKind.wrap .i64 (x12 + (1 : Int))) w3) (fun J_2 =>
  ∃ p14 : Pt, s'.a = some ⟨p14.b, p14.o, none⟩ ∧ 0 ≤ x12 ∧ x12 < ((s'.n : Nat) : Int) ∧ ∃ x15 : Int, World.cell? w2 ⟨p14.b, (p14.o + Int.toNat x12 * 1), none⟩ = some (.int .i64 x15) ∧ Join [(5, .slice)] (fun (s5_4 : Sl) (w4 : World) => J_2 ⟨s5_4.a, s5_4.n, s5_4.c⟩ w4) (fun J_3 =>
  LoopV [(5, .slice), (18, .int .i64)] (fun K => K ⟨s5_2.a, s5_2.n, s5_2.c⟩ (0 : Int) w2) (fun N_2 => fun (s5_5 : Sl) (x18 : Int) (w5 : World) =>
  cond (decide (x18 < ((s.n : Nat) : Int))) (
  Join [(5, .slice)] (fun (s5_6 : Sl) (w6 : World) => N_2 ⟨s5_6.a, s5_6.n, s5_6.c⟩ (IntKind.wrap .i64 (x18 + (1 : Int))) w6) (fun J_4 =>
  ∃ p20 : Pt, s.a = some ⟨p20.b, p20.o, none⟩ ∧ 0 ≤ x18 ∧ x18 < ((s.n : Nat) : Int) ∧ ∃ x21_0 : Int, ∃ x21_1 : Int, ∃ x21_2 : Int, rd w5 p20.b (p20.o + Int.toNat x18 * 3) [(.int .i64 x21_0), (.int .i64 x21_1), (.int .i64 x21_2)] ∧ Let (w5.alloc (.cells (zc Try.prog T) T)) fun w7 =>
  StoreOk w7 w5.heap.size 0 [(.int .i64 x21_0), (.int .i64 x21_1), (.int .i64 x21_2)] 3 ∧ Let (put w7 w5.heap.size 0 [(.int .i64 x21_0), (.int .i64 x21_1), (.int .i64 x21_2)]) fun w8 =>
  ∃ x23 : Int, World.cell? w8 ⟨w5.heap.size, (0 + 0), none⟩ = some (.int .i64 x23) ∧ Join [(5, .slice)] (fun (s5_7 : Sl) (w9 : World) => J_4 ⟨s5_7.a, s5_7.n, s5_7.c⟩ w9) (fun J_5 =>
  cond (x23 == x15) (
  ∃ x27_0 : Int, ∃ x27_1 : Int, ∃ x27_2 : Int, rd w8 w5.heap.size 0 [(.int .i64 x27_0), (.int .i64 x27_1), (.int .i64 x27_2)] ∧ ∃ (s28 : Sl) (w10 : World), Sem.run Try.prog (Instr.buildSlice t 1 [(0, (.agg [(.int .i64 x27_0), (.int .i64 x27_1), (.int .i64 x27_2)].toArray))].toArray) w8 = .ok (.slice s28.a s28.n s28.c) w10 ∧
  ∃ (s29 : Sl) (w11 : World), Sem.run Try.prog (Builtin.append_ #[t, t] t #[(.slice s5_5.a s5_5.n s5_5.c), (.slice s28.a s28.n s28.c)]) w10 = .ok (.slice s29.a s29.n s29.c) w11 ∧
  J_5 ⟨s29.a, s29.n, s29.c⟩ w11) (
  J_5 ⟨s5_5.a, s5_5.n, s5_5.c⟩ w8)))) (
  J_3 ⟨s5_5.a, s5_5.n, s5_5.c⟩ w5))))) (
  J ⟨s5_2.a, s5_2.n, s5_2.c⟩ w2))) := by
  have hn := hs.len
  have hn' := hs'.len
  refine Join.dir (rangeSI (fun i (s5 : Sl) w' => Own T 3 eO w.heap.size w' s5 (serial h (order.take i)) ∧ Ext w w') (by rw [hn']; show order.length ≤ 9223372036854775807; omega) ⟨Own.nil .., Fr.refl _ _⟩ ?_ ?_)
  · rintro i hi s5 w2 ⟨ho, hx⟩ K hK
    have hi : i < order.length := by omega
    obtain ⟨p, hp, h1, h2, hr⟩ := Ints.at (hs'.ext hx) hi
    refine ⟨p, hp, h1, h2, _, hr, Join.dir (rangeSI (fun j (s5 : Sl) w' => Own T 3 eO w.heap.size w' s5 (serial h (order.take i) ++ (h.take j).filter fun o => decide (o.t = order[i])) ∧ Ext w w') (by rw [hn]; show h.length ≤ 9223372036854775807; omega) ⟨by simpa using ho, hx⟩ ?_ ?_)⟩
    · rintro j hj s6 w5 ⟨ho5, hx5⟩ K2 hK2
      have hj : j < h.length := by omega
      refine loadEv (hs.ext hx5) hj hz fun w8 hb hx8 => ⟨_, hb.cell 0, Join.dir ?_⟩
      have ho8 := ho5.ext hx8
      refine cond_intro (fun hc => ?_) (fun hc => ?_)
      · have hlen : (serial h (order.take i) ++ (h.take j).filter fun o => decide (o.t = order[i])).length ≤ 1000000 := by
          rw [List.length_append]
          have h1 := serial_len h (order.take i)
          have h2 : ((h.take j).filter fun o => decide (o.t = order[i])).length ≤ h.length := Nat.le_trans (List.length_filter_le ..) (by simp; omega)
          have h3 : (order.take i).length * h.length ≤ 100 * 1000 := Nat.mul_le_mul (by simp; omega) hl
          omega
        obtain ⟨s1, w9, e9, s2, w10, e10, ho2, hf⟩ := appendEv E ho8 h[j] hlen (by have := (hx5.trans hx8).size; omega)
        refine ⟨_, _, _, hb.rd, s1, w9, e9, s2, w10, e10, hK2 _ _ ⟨?_, Own.newer ho8 (hx5.trans hx8) hf (Nat.le_refl _)⟩⟩
        rw [filter_step hj, if_pos (by simpa using hc), ← List.append_assoc]; exact ho2
      · refine hK2 _ _ ⟨?_, hx5.trans hx8⟩
        rw [filter_step hj, if_neg (by simpa using hc), List.append_nil]; exact ho8
    · rintro s6 w5 ⟨ho5, hx5⟩
      rw [hn, List.take_length] at ho5
      refine hK _ _ ⟨?_, hx5⟩
      rw [List.take_succ_eq_append_getElem hi]
      unfold serial at ho5 ⊢
      rw [List.flatMap_append]; simpa using ho5
  · rintro s5 w' ⟨ho, hx⟩
    rw [hn', List.take_length] at ho
    exact hR _ _ ho hx
theorem c38 {w : World} {s s' : Sl} {h : List Ev} {order : List Int} (hs : Hs w s h) (hs' : Ints w s' order) (hl : h.length ≤ 1000) (hl' : order.length ≤ 100) :
    Calls Try.prog 38 [.slice s.a s.n s.c, .slice s'.a s'.n s'.c].toArray w fun e w' => ∃ s5 : Sl, e = .returned (.slice s5.a s5.n s5.c) ∧ Own 38 3 eO w.heap.size w' s5 (serial h order) ∧ Ext w w' := by
  refine (call38 s s' (R := fun v w' => ∃ s5 : Sl, v = .slice s5.a s5.n s5.c ∧ Own 38 3 eO w.heap.size w' s5 (serial h order) ∧ Ext w w') ?_).mono fun e w' ⟨v, he, s', hv, hx⟩ => ⟨s', by rw [he, hv], hx⟩
  exact serial_walk E29 zc38 hs hs' hl hl' (R := fun v w' => ∃ s5 : Sl, v = .slice s5.a s5.n s5.c ∧ Own 38 3 eO w.heap.size w' s5 (serial h order) ∧ Ext w w') fun s5 w' h1 h2 => ⟨s5, rfl, h1, h2⟩
theorem c71 {w : World} {s s' : Sl} {h : List Ev} {order : List Int} (hs : Hs w s h) (hs' : Ints w s' order) (hl : h.length ≤ 1000) (hl' : order.length ≤ 100) :
    Calls Try.prog 71 [.slice s.a s.n s.c, .slice s'.a s'.n s'.c].toArray w fun e w' => ∃ s5 : Sl, e = .returned (.slice s5.a s5.n s5.c) ∧ Own 37 3 eO w.heap.size w' s5 (serial h order) ∧ Ext w w' := by
  refine (call71 s s' (R := fun v w' => ∃ s5 : Sl, v = .slice s5.a s5.n s5.c ∧ Own 37 3 eO w.heap.size w' s5 (serial h order) ∧ Ext w w') ?_).mono fun e w' ⟨v, he, s', hv, hx⟩ => ⟨s', by rw [he, hv], hx⟩
  exact serial_walk E23 zc37 hs hs' hl hl' (R := fun v w' => ∃ s5 : Sl, v = .slice s5.a s5.n s5.c ∧ Own 37 3 eO w.heap.size w' s5 (serial h order) ∧ Ext w w') fun s5 w' h1 h2 => ⟨s5, rfl, h1, h2⟩
end Go.Proofs.Ytnbkihkdfhjlmaa
