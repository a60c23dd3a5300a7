/-
  Sorting slices of facts in place: one comparison, one swap.
-/
import Derived.Test.YtoljknamnkkgcaaCa
import Derived.Test.YtoljknamnkkgcaaVw
import Derived.Sort.LotA
import Derived.Sort.LotB
import Derived.Sort.LotC
import Derived.Sort.LotD3
namespace Go.Proofs.Ytoljknamnkkgcaa
open Go Go.VC
set_option maxHeartbeats 1000000
set_option maxRecDepth 100000

abbrev ET := DF
abbrev eT := eF
abbrev eT_len := eF_len
abbrev eT_one := eF_one
abbrev SdT (Ok : ET → Prop) (B : Nat) (w0 w : World) (s : Sl) (d : Array ET) : Prop := Sd 36 2 eT Ok B w0 w s d
abbrev CfT (Ok : ET → Prop) (w0 : World) (s : Sl) (f : Nat) (c : List Value) (lt : ET → ET → Bool) : Prop := Cf Try.prog eT Ok w0 s f c lt
section
variable {Ok : ET → Prop} {B : Nat} {w0 w : World} {s : Sl} {d : Array ET} {f : Nat} {c : List Value} {lt : ET → ET → Bool}
theorem less_stepF (hc : CfT Ok w0 s f c lt) (h : SdT Ok B w0 w s d) {i j : Nat} {x y : Int} (hx : x = (i : Int)) (hy : y = (j : Int)) (hi : i < d.size) (hj : j < d.size) {K : Int → World → Prop} (hK : ∀ v w', SdT Ok B w0 w' s d → decide (v < (0 : Int)) = lt d[i]! d[j]! → Ext w w' → K v w') :
    ∃ p : Pt, s.a = some ⟨p.b, p.o, none⟩ ∧ 0 ≤ x ∧ x < ((s.n : Nat) : Int) ∧ ∃ a0 : Int, ∃ a1 : Sl, rd w p.b (p.o + Int.toNat x * 2) [(.int .i64 a0), (.slice a1.a a1.n a1.c)] ∧ ∃ q : Pt, s.a = some ⟨q.b, q.o, none⟩ ∧ 0 ≤ y ∧ y < ((s.n : Nat) : Int) ∧ ∃ b0 : Int, ∃ b1 : Sl, rd w q.b (q.o + Int.toNat y * 2) [(.int .i64 b0), (.slice b1.a b1.n b1.c)] ∧ (bif callable Try.prog f then Calls Try.prog f (([(.agg [(.int .i64 a0), (.slice a1.a a1.n a1.c)].toArray), (.agg [(.int .i64 b0), (.slice b1.a b1.n b1.c)].toArray)] : List Value) ++ c).toArray w (fun e w2 => ∃ v : Int, e = .returned (.int .i64 v) ∧ K v w2) else False) := by
  obtain ⟨p, hp, a1, a2, hr⟩ := h.at eT_len hx hi
  obtain ⟨q, hq, b1, b2, hs⟩ := h.at eT_len hy hj
  refine ⟨p, hp, a1, a2, _, _, hr, q, hq, b1, b2, _, _, hs, ?_⟩
  rw [hc.ca]
  exact (hc.run w _ _ h.fr (h.okAt hi) (h.okAt hj)).mono fun e w' ⟨v, he, hv, hx⟩ => ⟨v, he, hK v w' (h.ext hx) hv hx⟩
theorem less_step (hc : CfT Ok w0 s f c lt) (h : SdT Ok B w0 w s d) {i j : Nat} {x y : Int} (hx : x = (i : Int)) (hy : y = (j : Int)) (hi : i < d.size) (hj : j < d.size) {K : Int → World → Prop} (hK : ∀ v w', SdT Ok B w0 w' s d → decide (v < (0 : Int)) = lt d[i]! d[j]! → K v w') :
    ∃ p : Pt, s.a = some ⟨p.b, p.o, none⟩ ∧ 0 ≤ x ∧ x < ((s.n : Nat) : Int) ∧ ∃ a0 : Int, ∃ a1 : Sl, rd w p.b (p.o + Int.toNat x * 2) [(.int .i64 a0), (.slice a1.a a1.n a1.c)] ∧ ∃ q : Pt, s.a = some ⟨q.b, q.o, none⟩ ∧ 0 ≤ y ∧ y < ((s.n : Nat) : Int) ∧ ∃ b0 : Int, ∃ b1 : Sl, rd w q.b (q.o + Int.toNat y * 2) [(.int .i64 b0), (.slice b1.a b1.n b1.c)] ∧ (bif callable Try.prog f then Calls Try.prog f (([(.agg [(.int .i64 a0), (.slice a1.a a1.n a1.c)].toArray), (.agg [(.int .i64 b0), (.slice b1.a b1.n b1.c)].toArray)] : List Value) ++ c).toArray w (fun e w2 => ∃ v : Int, e = .returned (.int .i64 v) ∧ K v w2) else False) :=
  less_stepF hc h hx hy hi hj fun v w' h1 h2 _ => hK v w' h1 h2
theorem swap_stepF (h : SdT Ok B w0 w s d) {i j : Nat} {x y : Int} (hx : x = (i : Int)) (hy : y = (j : Int)) (hi : i < d.size) (hj : j < d.size) {K : World → Prop} (hK : ∀ w', SdT Ok B w0 w' s (Sort.swp d i j) → Fr (BlS s) w w' → K w') :
    Let w.drew fun w4 => ∃ p : Pt, s.a = some ⟨p.b, p.o, none⟩ ∧ 0 ≤ y ∧ y < ((s.n : Nat) : Int) ∧ ∃ a0 : Int, ∃ a1 : Sl, rd w4 p.b (p.o + Int.toNat y * 2) [(.int .i64 a0), (.slice a1.a a1.n a1.c)] ∧ ∃ q : Pt, s.a = some ⟨q.b, q.o, none⟩ ∧ 0 ≤ x ∧ x < ((s.n : Nat) : Int) ∧ ∃ b0 : Int, ∃ b1 : Sl, rd w4 q.b (q.o + Int.toNat x * 2) [(.int .i64 b0), (.slice b1.a b1.n b1.c)] ∧
      ∃ p : Pt, s.a = some ⟨p.b, p.o, none⟩ ∧ 0 ≤ x ∧ x < ((s.n : Nat) : Int) ∧ StoreOk w4 p.b (p.o + Int.toNat x * 2) [(.int .i64 a0), (.slice a1.a a1.n a1.c)] 2 ∧ Let (put w4 p.b (p.o + Int.toNat x * 2) [(.int .i64 a0), (.slice a1.a a1.n a1.c)]) fun w5 =>
      ∃ q : Pt, s.a = some ⟨q.b, q.o, none⟩ ∧ 0 ≤ y ∧ y < ((s.n : Nat) : Int) ∧ StoreOk w5 q.b (q.o + Int.toNat y * 2) [(.int .i64 b0), (.slice b1.a b1.n b1.c)] 2 ∧ Let (put w5 q.b (q.o + Int.toNat y * 2) [(.int .i64 b0), (.slice b1.a b1.n b1.c)]) fun w6 => K w6 := by
  refine Let.intro fun w4 e4 => ?_
  have h4 : SdT Ok B w0 w4 s d := by rw [e4]; exact h.ext (Ext.drew _)
  obtain ⟨p, hp, a1, a2, hr⟩ := h4.at eT_len hy hj
  obtain ⟨q, hq, b1, b2, hs⟩ := h4.at eT_len hx hi
  obtain ⟨p2, hp2, c1, c2, st, q2, hq2, d1, d2, st2, h6⟩ := h4.swap eT_len eT_one hx hy hi hj
  refine ⟨p, hp, a1, a2, _, _, hr, q, hq, b1, b2, _, _, hs, p2, hp2, c1, c2, st, Let.intro fun w5 e5 => ?_⟩
  subst e5
  refine ⟨q2, hq2, d1, d2, st2, Let.intro fun w6 e6 => ?_⟩
  subst e6
  refine hK _ h6 ?_
  have g1 : Fr (BlS s) w4 (put w4 p2.b (p2.o + Int.toNat x * 2) (eT d[j]!)) := (Fr.put _ _ _ _).mono fun b _ hb => ⟨_, hp2, hb.symm⟩
  have g2 : Fr (BlS s) (put w4 p2.b (p2.o + Int.toNat x * 2) (eT d[j]!)) (put (put w4 p2.b (p2.o + Int.toNat x * 2) (eT d[j]!)) q2.b (q2.o + Int.toNat y * 2) (eT d[i]!)) := (Fr.put _ _ _ _).mono fun b _ hb => ⟨_, hq2, hb.symm⟩
  have g0 : Ext w w4 := by rw [e4]; exact Ext.drew _
  exact g0.fr (g1.trans g2 fun _ _ h => h)
theorem swap_step (h : SdT Ok B w0 w s d) {i j : Nat} {x y : Int} (hx : x = (i : Int)) (hy : y = (j : Int)) (hi : i < d.size) (hj : j < d.size) {K : World → Prop} (hK : ∀ w', SdT Ok B w0 w' s (Sort.swp d i j) → K w') :
    Let w.drew fun w4 => ∃ p : Pt, s.a = some ⟨p.b, p.o, none⟩ ∧ 0 ≤ y ∧ y < ((s.n : Nat) : Int) ∧ ∃ a0 : Int, ∃ a1 : Sl, rd w4 p.b (p.o + Int.toNat y * 2) [(.int .i64 a0), (.slice a1.a a1.n a1.c)] ∧ ∃ q : Pt, s.a = some ⟨q.b, q.o, none⟩ ∧ 0 ≤ x ∧ x < ((s.n : Nat) : Int) ∧ ∃ b0 : Int, ∃ b1 : Sl, rd w4 q.b (q.o + Int.toNat x * 2) [(.int .i64 b0), (.slice b1.a b1.n b1.c)] ∧
      ∃ p : Pt, s.a = some ⟨p.b, p.o, none⟩ ∧ 0 ≤ x ∧ x < ((s.n : Nat) : Int) ∧ StoreOk w4 p.b (p.o + Int.toNat x * 2) [(.int .i64 a0), (.slice a1.a a1.n a1.c)] 2 ∧ Let (put w4 p.b (p.o + Int.toNat x * 2) [(.int .i64 a0), (.slice a1.a a1.n a1.c)]) fun w5 =>
      ∃ q : Pt, s.a = some ⟨q.b, q.o, none⟩ ∧ 0 ≤ y ∧ y < ((s.n : Nat) : Int) ∧ StoreOk w5 q.b (q.o + Int.toNat y * 2) [(.int .i64 b0), (.slice b1.a b1.n b1.c)] 2 ∧ Let (put w5 q.b (q.o + Int.toNat y * 2) [(.int .i64 b0), (.slice b1.a b1.n b1.c)]) fun w6 => K w6 :=
  swap_stepF h hx hy hi hj fun w' h1 _ => hK w' h1
/-! ### by insertion -/
theorem c130 (hc : CfT Ok w0 s f c lt) (h : SdT Ok B w0 w s d) {a b : Nat} (hab : a ≤ b) (hb : b ≤ d.size) :
    Calls Try.prog 130 [.slice s.a s.n s.c, .int .i64 (a : Int), .int .i64 (b : Int), .func (.func f) #[] c.toArray].toArray w fun e w' => e = .returned (.tuple [].toArray) ∧ SdT Ok B w0 w' s (Sort.insertionSort lt d a b) := by
  have hsz := h.sz
  refine (call130 s a b f c (R := fun v w' => v = .tuple [].toArray ∧ SdT Ok B w0 w' s (Sort.insertionSort lt d a b)) ?_).mono fun e w' ⟨v, he, hv, hx⟩ => ⟨by rw [he, hv], hx⟩
  refine Join.dir (LoopV.intro (fun n (x8 : Int) w2 => ∃ (i : Nat) (d' : Array ET), x8 = (i : Int) ∧ n = b + 1 - i ∧ a < i ∧ i ≤ b + 1 ∧ SdT Ok B w0 w2 s d' ∧ d'.size = d.size ∧ Sort.insOuter lt a b i d' = Sort.insertionSort lt d a b) (b + 1 - (a + 1))
    ⟨a + 1, d, by simp only [IntKind.wrap_i64]; omega, rfl, by omega, by omega, h, rfl, rfl⟩ ?_)
  rintro n x8 w2 ⟨i, d', rfl, rfl, hai, hib1, h2, hs2, he⟩
  refine cond_intro (fun hlt => ?_) (fun hge => ?_)
  · have hib : i < b := by simpa using hlt
    refine Join.dir (Join.dir (LoopV.intro (fun m (x9 : Int) w5 => ∃ (j : Nat) (d2 : Array ET), x9 = (j : Int) ∧ m = j ∧ j ≤ i ∧ SdT Ok B w0 w5 s d2 ∧ d2.size = d.size ∧ Sort.insInner lt a j d2 = Sort.insInner lt a i d') i ⟨i, d', rfl, rfl, Nat.le_refl _, h2, hs2, rfl⟩ ?_))
    rintro j x9 w5 ⟨_, d2, rfl, rfl, hji, h5, hs5, he5⟩
    refine ⟨fun (b34 : Bool) w6 => b34 = (decide (a < j) && lt d2[j]! d2[j - 1]!) ∧ SdT Ok B w0 w6 s d2, ?_, ?_⟩
    · rintro b34 w6 ⟨hb34, h6⟩
      refine cond_intro (fun ht => ?_) (fun hf => ?_)
      · rw [hb34] at ht
        have haj : a < j := by simp at ht; exact ht.1
        obtain ⟨k, rfl⟩ : ∃ k, j = k + 1 := ⟨j - 1, by omega⟩
        rw [Nat.add_sub_cancel] at ht
        refine Join.dir (swap_step (i := k + 1) (j := k) h6 rfl (by simp only [IntKind.wrap_i64]; omega) (by omega) (by omega) fun w' h' => ⟨k, by omega, k, _, by simp only [IntKind.wrap_i64]; omega, rfl, by omega, h', by simp [Sort.size_swp, hs5], ?_⟩)
        rw [← he5, Sort.insInner]
        rw [if_pos (by simpa using ht)]
      · refine ⟨b + 1 - (i + 1), by omega, i + 1, d2, by simp only [IntKind.wrap_i64]; omega, rfl, by omega, by omega, h6, hs5, ?_⟩
        rw [← he, Sort.insOuter.eq_1 lt a b i d', if_pos hib, ← he5]
        congr 1
        rw [hb34] at hf
        cases j with
        | zero => rfl
        | succ k =>
          rw [Sort.insInner]
          rw [Nat.add_sub_cancel] at hf
          rw [if_neg (by simpa using hf)]
    · refine Let.intro fun w11 e11 => ?_
      have h11 : SdT Ok B w0 w11 s d2 := by rw [e11]; exact h5.ext (Ext.drew _)
      refine cond_intro (fun hgt => ?_) (fun hle => ⟨?_, h11⟩)
      · have haj : a < j := by simpa using hgt
        exact less_step (i := j) (j := j - 1) hc h11 rfl (by simp only [IntKind.wrap_i64]; omega) (by omega) (by omega) fun v w' h' hv => ⟨by rw [hv]; simp [haj], h'⟩
      · have haj : ¬ a < j := by simpa using hle
        simp [haj]
  · have hib : ¬ i < b := by simpa using hge
    refine ⟨rfl, ?_⟩
    rw [← he, Sort.insOuter.eq_1, if_neg hib]; exact h2
/-! ### by a heap -/
theorem c140 (hc : CfT Ok w0 s f c lt) (h : SdT Ok B w0 w s d) {root hi first : Nat} (hr : root ≤ 1000000) (hb : first + hi ≤ d.size) :
    Calls Try.prog 140 [.slice s.a s.n s.c, .int .i64 (root : Int), .int .i64 (hi : Int), .int .i64 (first : Int), .func (.func f) #[] c.toArray].toArray w fun e w' => e = .returned (.tuple [].toArray) ∧ SdT Ok B w0 w' s (Sort.siftDown lt hi first root d) := by
  have hsz := h.sz
  refine (call140 s root hi first f c (R := fun v w' => v = .tuple [].toArray ∧ SdT Ok B w0 w' s (Sort.siftDown lt hi first root d)) ?_).mono fun e w' ⟨v, he, hv, hx⟩ => ⟨by rw [he, hv], hx⟩
  refine Join.dir (LoopV.intro (fun n (x10 : Int) w2 => ∃ (r : Nat) (d' : Array ET), x10 = (r : Int) ∧ n = hi - r ∧ r ≤ 1000000 ∧ SdT Ok B w0 w2 s d' ∧ d'.size = d.size ∧ Sort.siftDown lt hi first r d' = Sort.siftDown lt hi first root d) (hi - root)
    ⟨root, d, rfl, rfl, hr, h, rfl, rfl⟩ ?_)
  rintro n x10 w2 ⟨r, d', rfl, rfl, hr2, h2, hs2, he⟩
  have e1 : IntKind.wrap .i64 (IntKind.wrap .i64 ((2 : Int) * (r : Int)) + 1) = ((2 * r + 1 : Nat) : Int) := by simp only [IntKind.wrap_i64]; omega
  have e2 : IntKind.wrap .i64 (((2 * r + 1 : Nat) : Int) + 1) = ((2 * r + 2 : Nat) : Int) := by simp only [IntKind.wrap_i64]; omega
  rw [e1, e2]
  refine Join.dir (cond_intro (fun h1 => ?_) (fun h1 => ?_))
  · have h1 : 2 * r + 1 ≥ hi := by simp at h1; omega
    refine ⟨rfl, ?_⟩
    rw [← he, Sort.siftDown, dif_pos h1]; exact h2
  have h1 : ¬ 2 * r + 1 ≥ hi := by simp at h1; omega
  refine ⟨fun (b40 : Bool) w4 => b40 = (decide (2 * r + 1 + 1 < hi) && lt d'[first + (2 * r + 1)]! d'[first + (2 * r + 1) + 1]!) ∧ SdT Ok B w0 w4 s d', ?_, ?_⟩
  · rintro b40 w4 ⟨hb40, h4⟩
    refine ⟨fun (x11 : Int) w5 => ∃ q : Nat, x11 = (q : Int) ∧ q < hi ∧ r < q ∧ (Sort.siftDown lt hi first r d' = if !lt d'[first + r]! d'[first + q]! then d' else Sort.siftDown lt hi first q (Sort.swp d' (first + r) (first + q))) ∧ SdT Ok B w0 w5 s d', ?_, ?_⟩
    · rintro x11 w5 ⟨q, rfl, hq, hrq, heq, h5⟩
      have i1 : IntKind.wrap .i64 ((first : Int) + (r : Int)) = ((first + r : Nat) : Int) := by simp only [IntKind.wrap_i64]; omega
      have i2 : IntKind.wrap .i64 ((first : Int) + (q : Int)) = ((first + q : Nat) : Int) := by simp only [IntKind.wrap_i64]; omega
      rw [i1, i2]
      refine Let.intro fun w6 e6 => ?_
      have h6 : SdT Ok B w0 w6 s d' := by rw [e6]; exact h5.ext (Ext.drew _)
      refine less_step (i := first + r) (j := first + q) hc h6 rfl rfl (by omega) (by omega) fun v w7 h7 hv => ?_
      rw [hv]
      refine cond_intro (fun g => ⟨rfl, ?_⟩) (fun g => ?_)
      · rw [← he, heq, if_pos g]; exact h7
      · refine swap_step (i := first + r) (j := first + q) h7 rfl rfl (by omega) (by omega) fun w8 h8 => ⟨hi - q, by omega, q, _, rfl, rfl, by omega, h8, by simp [Sort.size_swp, hs2], ?_⟩
        rw [← he, heq, if_neg (by rw [g]; simp)]
    · refine cond_intro (fun g => ?_) (fun g => ?_)
      · rw [hb40] at g
        have g2 : 2 * r + 1 + 1 < hi := by simp at g; omega
        refine ⟨2 * r + 2, rfl, by omega, by omega, ?_, h4⟩
        rw [Sort.siftDown, dif_neg h1, if_pos g]
        rw [dif_pos (show 2 * r + 2 < hi from g2)]
      · rw [hb40] at g
        refine ⟨2 * r + 1, rfl, by omega, by omega, ?_, h4⟩
        rw [Sort.siftDown, dif_neg h1, if_neg (by rw [g]; simp)]
  · refine Let.intro fun w11 e11 => ?_
    have h11 : SdT Ok B w0 w11 s d' := by rw [e11]; exact h2.ext (Ext.drew _)
    refine cond_intro (fun g => ?_) (fun g => ⟨?_, h11⟩)
    · have g2 : 2 * r + 1 + 1 < hi := by simp at g; omega
      refine less_step (i := first + (2 * r + 1)) (j := first + (2 * r + 1) + 1) hc h11 (by simp only [IntKind.wrap_i64]; omega) (by simp only [IntKind.wrap_i64]; omega) (by omega) (by omega) fun v w' h' hv => ⟨?_, h'⟩
      rw [hv]; simp [g2]
    · have g2 : ¬ 2 * r + 1 + 1 < hi := by simp at g; omega
      simp [g2]
theorem c131 (hc : CfT Ok w0 s f c lt) (h : SdT Ok B w0 w s d) {a b : Nat} (hab : a ≤ b) (hb : b ≤ d.size) :
    Calls Try.prog 131 [.slice s.a s.n s.c, .int .i64 (a : Int), .int .i64 (b : Int), .func (.func f) #[] c.toArray].toArray w fun e w' => e = .returned (.tuple [].toArray) ∧ SdT Ok B w0 w' s (Sort.heapSort lt d a b) := by
  have hsz := h.sz
  refine (call131 s a b f c (R := fun v w' => v = .tuple [].toArray ∧ SdT Ok B w0 w' s (Sort.heapSort lt d a b)) ?_).mono fun e w' ⟨v, he, hv, hx⟩ => ⟨by rw [he, hv], hx⟩
  unfold S131
  have e1 : IntKind.wrap .i64 ((b : Int) - (a : Int)) = ((b - a : Nat) : Int) := by simp only [IntKind.wrap_i64]; omega
  have e2 : IntKind.wrap .i64 (((b - a : Nat) : Int) - 1) = ((b - a : Nat) : Int) - 1 := by simp only [IntKind.wrap_i64]; omega
  have e3 : IntKind.wrap .i64 (Int.tdiv (((b - a : Nat) : Int) - 1) 2) = ((((b - a - 1) / 2 + 1 : Nat) : Int) - 1) := by
    rcases Nat.eq_zero_or_pos (b - a) with h0 | h0
    · rw [h0]; decide
    · rw [Int.tdiv_eq_ediv_of_nonneg (by omega)]
      simp only [IntKind.wrap_i64]; omega
  rw [e1, e2, e3]
  refine ⟨by decide, ?_⟩
  refine ⟨fun w1 => ∃ d' : Array ET, SdT Ok B w0 w1 s d' ∧ d'.size = d.size ∧ Sort.heapPop lt a (b - a) d' = Sort.heapSort lt d a b, ?_, ?_⟩
  · rintro w1 ⟨d', h1, hs1, he⟩
    refine Join.dir (LoopV.intro (fun n (x : Int) w3 => ∃ (d2 : Array ET), x = (n : Int) - 1 ∧ n ≤ b - a ∧ SdT Ok B w0 w3 s d2 ∧ d2.size = d.size ∧ Sort.heapPop lt a n d2 = Sort.heapSort lt d a b) (b - a) ⟨d', rfl, Nat.le_refl _, h1, hs1, he⟩ ?_)
    rintro n x w3 ⟨d2, rfl, hn, h3, hs3, he3⟩
    refine cond_intro (fun g => ?_) (fun g => ?_)
    · obtain ⟨k, rfl⟩ : ∃ k, n = k + 1 := ⟨n - 1, by simp at g; omega⟩
      have i0 : ((k + 1 : Nat) : Int) - 1 = (k : Int) := by omega
      rw [i0]
      refine Join.dir (swap_step (i := a) (j := a + k) h3 rfl (by simp only [IntKind.wrap_i64]; omega) (by omega) (by omega) fun w7 h7 => ?_)
      refine (c140 hc h7 (root := 0) (hi := k) (first := a) (by omega) (by simp only [Sort.size_swp]; omega)).mono fun e w8 ⟨he8, h8⟩ => ⟨he8, k, by omega, _, by simp only [IntKind.wrap_i64]; omega, by omega, h8, ?_, ?_⟩
      · have := h8.own.1; have := h3.own.1; simp at *; omega
      · rw [← he3, Sort.heapPop]
    · have : n = 0 := by simp at g; omega
      subst this
      refine ⟨rfl, ?_⟩
      rw [← he3]; exact h3
  · refine LoopV.intro (fun n (x : Int) w3 => ∃ (d2 : Array ET), x = (n : Int) - 1 ∧ n ≤ b - a + 1 ∧ SdT Ok B w0 w3 s d2 ∧ d2.size = d.size ∧ Sort.heapBuild lt (b - a) a n d2 = Sort.heapBuild lt (b - a) a ((b - a - 1) / 2 + 1) d) ((b - a - 1) / 2 + 1) ⟨d, rfl, by omega, h, rfl, rfl⟩ ?_
    rintro n x w3 ⟨d2, rfl, hn, h3, hs3, he3⟩
    refine cond_intro (fun g => ?_) (fun g => ?_)
    · obtain ⟨k, rfl⟩ : ∃ k, n = k + 1 := ⟨n - 1, by simp at g; omega⟩
      have i0 : ((k + 1 : Nat) : Int) - 1 = (k : Int) := by omega
      rw [i0]
      refine Join.dir ((c140 hc h3 (root := k) (hi := b - a) (first := a) (by omega) (by omega)).mono fun e w8 ⟨he8, h8⟩ => ⟨he8, k, by omega, _, by simp only [IntKind.wrap_i64]; omega, by omega, h8, ?_, ?_⟩)
      · have := h8.own.1; have := h3.own.1; simp at *; omega
      · rw [← he3, Sort.heapBuild]
    · have : n = 0 := by simp at g; omega
      subst this
      refine ⟨d2, h3, hs3, ?_⟩
      unfold Sort.heapSort
      rw [← he3]; rfl
/-! ### backwards -/
theorem c134 (h : SdT Ok B w0 w s d) {a b : Nat} (hb0 : 0 < b) (hb : b ≤ d.size) :
    Calls Try.prog 134 [.slice s.a s.n s.c, .int .i64 (a : Int), .int .i64 (b : Int), .func (.func f) #[] c.toArray].toArray w fun e w' => e = .returned (.tuple [].toArray) ∧ SdT Ok B w0 w' s (Sort.reverseRange d a b) := by
  have hsz := h.sz
  refine (call134 s a b f c (R := fun v w' => v = .tuple [].toArray ∧ SdT Ok B w0 w' s (Sort.reverseRange d a b)) ?_).mono fun e w' ⟨v, he, hv, hx⟩ => ⟨by rw [he, hv], hx⟩
  refine Join.dir (LoopV.intro (fun n (x8 x9 : Int) w2 => ∃ (i j : Nat) (d' : Array ET), x8 = (i : Int) ∧ x9 = (j : Int) ∧ n = j - i ∧ j < b ∧ SdT Ok B w0 w2 s d' ∧ d'.size = d.size ∧ Sort.reverseLoop i j d' = Sort.reverseRange d a b) (b - 1 - a)
    ⟨a, b - 1, d, rfl, by simp only [IntKind.wrap_i64]; omega, rfl, by omega, h, rfl, rfl⟩ ?_)
  rintro n x8 x9 w2 ⟨i, j, d', rfl, rfl, rfl, hj, h2, hs2, he⟩
  refine cond_intro (fun g => ?_) (fun g => ?_)
  · have g : i < j := by simpa using g
    refine Join.dir (swap_step (i := i) (j := j) h2 rfl rfl (by omega) (by omega) fun w' h' => ⟨j - 1 - (i + 1), by omega, i + 1, j - 1, _, by simp only [IntKind.wrap_i64]; omega, by simp only [IntKind.wrap_i64]; omega, rfl, by omega, h', by simp [Sort.size_swp, hs2], ?_⟩)
    rw [← he, Sort.reverseLoop.eq_1 i j d', if_pos g]
  · have g : ¬ i < j := by simpa using g
    refine ⟨rfl, ?_⟩
    rw [← he, Sort.reverseLoop.eq_1 i j d', if_neg g]; exact h2
end
end Go.Proofs.Ytoljknamnkkgcaa
