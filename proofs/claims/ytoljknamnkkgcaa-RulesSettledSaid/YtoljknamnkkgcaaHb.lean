/-
  Sorting slices of facts in place: the partitions.
-/
import Derived.Test.YtoljknamnkkgcaaHa
namespace Go.Proofs.Ytoljknamnkkgcaa
open Go Go.VC
set_option maxHeartbeats 1000000
set_option maxRecDepth 100000
section
variable {Ok : ET → Prop} {B : Nat} {w0 w : World} {s : Sl} {d : Array ET} {f : Nat} {c : List Value} {lt : ET → ET → Bool}
/-- 'for i <= j && p(data[i]) { i++ }' -/
theorem up_loop {k : Nat} {w5 : World} {d' : Array ET} (h5 : SdT Ok B w0 w5 s d') (hsz : d'.size ≤ 1000000) {p : ET → Bool} {i j : Nat} {y : Int} (hy : y = (j : Int)) {J : Int → World → Prop} {T : Int → World → (Bool → World → Prop) → Prop} (hi : i ≤ 1000001) (hj : j < d'.size)
    (hT : ∀ (t : Nat) (w20 : World) (K : Bool → World → Prop), t ≤ j → i ≤ t → SdT Ok B w0 w20 s d' → (∀ w21, SdT Ok B w0 w21 s d' → K (p d'[t]!) w21) → T (t : Int) w20 K)
    (hJ : ∀ w7, SdT Ok B w0 w7 s d' → J (Sort.scanUp p d' j i : Nat) w7) {r r2 : Nat} :
    LoopV [(k, .int .i64)] (fun K => K (i : Int) w5) (fun N => fun (x : Int) (w17 : World) =>
      Join [(r, .bool)] (fun (b47 : Bool) (w18 : World) => cond b47 (Join [(r2, .int .i64)] (fun (x6 : Int) (w19 : World) => N x6 w19) (fun J_7 => J_7 (IntKind.wrap .i64 (x + (1 : Int))) w18)) (J x w18)) (fun J_8 =>
        Let w17.drew fun w20 => cond (decide (x ≤ y)) (T x w20 J_8) (J_8 false w20))) := by
  subst hy
  refine LoopV.intro (fun n (x : Int) w => ∃ t : Nat, x = (t : Int) ∧ n = j + 1 - t ∧ i ≤ t ∧ t ≤ 1000001 ∧ SdT Ok B w0 w s d' ∧ Sort.scanUp p d' j t = Sort.scanUp p d' j i) (j + 1 - i) ⟨i, rfl, rfl, Nat.le_refl _, hi, h5, rfl⟩ ?_
  rintro n x w17 ⟨t, rfl, rfl, hit, ht, h17, he⟩
  refine ⟨fun (b : Bool) w18 => b = (decide (t ≤ j) && p d'[t]!) ∧ SdT Ok B w0 w18 s d', ?_, ?_⟩
  · rintro b w18 ⟨hb, h18⟩
    refine cond_intro (fun g => ?_) (fun g => ?_)
    · rw [hb] at g
      have g1 : t ≤ j := by simp at g; exact g.1
      refine Join.dir ⟨j + 1 - (t + 1), by omega, t + 1, by simp only [IntKind.wrap_i64]; omega, rfl, by omega, by omega, h18, ?_⟩
      rw [← he, Sort.scanUp.eq_1 p d' j t, if_pos g]
    · rw [hb] at g
      have : Sort.scanUp p d' j i = t := by rw [← he, Sort.scanUp.eq_1 p d' j t, if_neg (by rw [g]; simp)]
      rw [← this]
      exact hJ _ h18
  · refine Let.intro fun w20 e20 => ?_
    have h20 : SdT Ok B w0 w20 s d' := by rw [e20]; exact h17.ext (Ext.drew _)
    refine cond_intro (fun g => ?_) (fun g => ⟨?_, h20⟩)
    · have g : t ≤ j := by simpa using g
      exact hT t w20 _ g hit h20 fun w21 h21 => ⟨by simp [g], h21⟩
    · have g : ¬ t ≤ j := by simpa using g
      simp [g]
/-- 'for i <= j && p(data[j]) { j-- }' -/
theorem down_loop {k : Nat} {w5 : World} {d' : Array ET} (h5 : SdT Ok B w0 w5 s d') (hsz : d'.size ≤ 1000000) {p : ET → Bool} {i j : Nat} {y : Int} (hy : y = (i : Int)) {J : Int → World → Prop} {T : Int → World → (Bool → World → Prop) → Prop} (hi : 1 ≤ i) (hj : j < d'.size)
    (hT : ∀ (t : Nat) (w20 : World) (K : Bool → World → Prop), t ≤ j → i ≤ t → SdT Ok B w0 w20 s d' → (∀ w21, SdT Ok B w0 w21 s d' → K (p d'[t]!) w21) → T (t : Int) w20 K)
    (hJ : ∀ w7, SdT Ok B w0 w7 s d' → J (Sort.scanDown p d' i j : Nat) w7) {r r2 : Nat} :
    LoopV [(k, .int .i64)] (fun K => K (j : Int) w5) (fun N => fun (x : Int) (w17 : World) =>
      Join [(r, .bool)] (fun (b47 : Bool) (w18 : World) => cond b47 (Join [(r2, .int .i64)] (fun (x6 : Int) (w19 : World) => N x6 w19) (fun J_7 => J_7 (IntKind.wrap .i64 (x - (1 : Int))) w18)) (J x w18)) (fun J_8 =>
        Let w17.drew fun w20 => cond (decide (y ≤ x)) (T x w20 J_8) (J_8 false w20))) := by
  subst hy
  refine LoopV.intro (fun n (x : Int) w => x = (n : Int) ∧ n ≤ j ∧ SdT Ok B w0 w s d' ∧ Sort.scanDown p d' i n = Sort.scanDown p d' i j) j ⟨rfl, Nat.le_refl _, h5, rfl⟩ ?_
  rintro t x w17 ⟨rfl, htj, h17, he⟩
  refine ⟨fun (b : Bool) w18 => b = (decide (i ≤ t) && p d'[t]!) ∧ SdT Ok B w0 w18 s d', ?_, ?_⟩
  · rintro b w18 ⟨hb, h18⟩
    refine cond_intro (fun g => ?_) (fun g => ?_)
    · rw [hb] at g
      have g1 : i ≤ t := by simp at g; exact g.1
      obtain ⟨u, rfl⟩ : ∃ u, t = u + 1 := ⟨t - 1, by omega⟩
      refine Join.dir ⟨u, by omega, by simp only [IntKind.wrap_i64]; omega, by omega, h18, ?_⟩
      rw [← he, Sort.scanDown, if_pos g]
    · rw [hb] at g
      have : Sort.scanDown p d' i j = t := by
        rw [← he]
        cases t with
        | zero => rfl
        | succ u => rw [Sort.scanDown, if_neg (by rw [g]; simp)]
      rw [← this]
      exact hJ _ h18
  · refine Let.intro fun w20 e20 => ?_
    have h20 : SdT Ok B w0 w20 s d' := by rw [e20]; exact h17.ext (Ext.drew _)
    refine cond_intro (fun g => ?_) (fun g => ⟨?_, h20⟩)
    · have g : i ≤ t := by simpa using g
      exact hT t w20 _ htj g h20 fun w21 h21 => ⟨by simp [g], h21⟩
    · have g : ¬ i ≤ t := by simpa using g
      simp [g]
theorem c136 (hc : CfT Ok w0 s f c lt) (h : SdT Ok B w0 w s d) {a b q : Nat} (haq : a ≤ q) (hqb : q < b) (hb : b ≤ d.size) :
    Calls Try.prog 136 [.slice s.a s.n s.c, .int .i64 (a : Int), .int .i64 (b : Int), .int .i64 (q : Int), .func (.func f) #[] c.toArray].toArray w fun e w' => e = .returned (.int .i64 ((Sort.partitionEqual lt d a b q).1 : Nat)) ∧ SdT Ok B w0 w' s (Sort.partitionEqual lt d a b q).2 := by
  have hsz := h.sz
  refine (call136 s a b q f c (R := fun v w' => v = .int .i64 ((Sort.partitionEqual lt d a b q).1 : Nat) ∧ SdT Ok B w0 w' s (Sort.partitionEqual lt d a b q).2) ?_).mono fun e w' ⟨v, he, hv, hx⟩ => ⟨by rw [he, hv], hx⟩
  refine swap_step (i := a) (j := q) h rfl rfl (by omega) (by omega) fun w3 h3 => ?_
  refine Join.dir (LoopV.intro (fun n (x11 x12 : Int) w5 => ∃ (i j : Nat) (d' : Array ET), x11 = (i : Int) ∧ x12 = (j : Int) ∧ n = j + 1 - i ∧ a < i ∧ i ≤ 1000001 ∧ j < b ∧ SdT Ok B w0 w5 s d' ∧ d'.size = d.size ∧ Sort.partEqLoop lt a i j d' = Sort.partitionEqual lt d a b q) (b - 1 + 1 - (a + 1))
    ⟨a + 1, b - 1, _, by simp only [IntKind.wrap_i64]; omega, by simp only [IntKind.wrap_i64]; omega, rfl, by omega, by omega, by omega, h3, by simp [Sort.size_swp], rfl⟩ ?_)
  rintro n x11 x12 w5 ⟨i, j, d', rfl, rfl, rfl, hai, hi6, hjb, h5, hs5, he⟩
  refine Join.dir ?_
  have hu := Sort.scanUp_ge (fun x => !lt d'[a]! x) d' j i
  have hu2 := (Sort.scanUp_spec (fun x => !lt d'[a]! x) d' j _ i rfl).2.1
  rw [Sort.partEqLoop_eq] at he
  have hgd := Sort.partEqLoop_guard lt a i j d'
  have hu3 : Sort.scanUp (fun x => !lt d'[a]! x) d' j i ≤ 1000001 := by
    rcases Nat.lt_or_ge (j + 1) i with h | h
    · rw [Sort.scanUp, if_neg (by simp; omega)]; exact hi6
    · have := hu2 h; omega
  refine ⟨fun (x : Int) w7 => x = (Sort.scanUp (fun x => !lt d'[a]! x) d' j i : Nat) ∧ SdT Ok B w0 w7 s d', ?_, ?_⟩
  · generalize Sort.scanUp (fun x => !lt d'[a]! x) d' j i = i2 at hu hu3 he hgd
    rintro x w7 ⟨rfl, h7⟩
    have hv := Sort.scanDown_le (fun x => lt d'[a]! x) d' i2 j
    refine ⟨fun (x : Int) w8 => x = (Sort.scanDown (fun x => lt d'[a]! x) d' i2 j : Nat) ∧ SdT Ok B w0 w8 s d', ?_, ?_⟩
    · generalize Sort.scanDown (fun x => lt d'[a]! x) d' i2 j = j2 at hv he hgd
      rintro x w8 ⟨rfl, h8⟩
      refine cond_intro (fun g => ?_) (fun g => ?_)
      · have g : i2 > j2 := by simp at g; omega
        rw [if_pos g] at he
        rw [← he]
        exact ⟨rfl, h8⟩
      · have g : ¬ i2 > j2 := by simp at g; omega
        rw [if_neg g] at he
        have := hgd g
        exact swap_step (i := i2) (j := j2) h8 rfl rfl (by omega) (by omega) fun w11 h11 => ⟨j2 - 1 + 1 - (i2 + 1), by omega, i2 + 1, j2 - 1, _, by simp only [IntKind.wrap_i64]; omega, by simp only [IntKind.wrap_i64]; omega, rfl, by omega, by omega, by omega, h11, by simp [Sort.size_swp, hs5], he⟩
    · exact down_loop h7 (by omega) rfl (by omega) (by omega) (fun t w20 K ht hit h20 hK => less_step (i := a) (j := t) hc h20 rfl rfl (by omega) (by omega) fun v w' h' hv => by rw [hv]; exact hK _ h') fun w8 h8 => ⟨rfl, h8⟩
  · exact up_loop h5 (by omega) rfl (by omega) (by omega) (fun t w20 K ht hit h20 hK => less_step (i := a) (j := t) hc h20 rfl rfl (by omega) (by omega) fun v w' h' hv => by rw [hv]; exact hK _ h') fun w8 h8 => ⟨rfl, h8⟩
theorem c137 (hc : CfT Ok w0 s f c lt) (h : SdT Ok B w0 w s d) {a b q : Nat} (haq : a ≤ q) (hqb : q < b) (hb : b ≤ d.size) :
    Calls Try.prog 137 [.slice s.a s.n s.c, .int .i64 (a : Int), .int .i64 (b : Int), .int .i64 (q : Int), .func (.func f) #[] c.toArray].toArray w fun e w' => e = .returned (.tuple [.int .i64 ((Sort.partition lt d a b q).1 : Nat), .bool (Sort.partition lt d a b q).2.1].toArray) ∧ SdT Ok B w0 w' s (Sort.partition lt d a b q).2.2 := by
  have hsz := h.sz
  refine (call137 s a b q f c (R := fun v w' => v = .tuple [.int .i64 ((Sort.partition lt d a b q).1 : Nat), .bool (Sort.partition lt d a b q).2.1].toArray ∧ SdT Ok B w0 w' s (Sort.partition lt d a b q).2.2) ?_).mono fun e w' ⟨v, he, hv, hx⟩ => ⟨by rw [he, hv], hx⟩
  refine swap_step (i := a) (j := q) h rfl rfl (by omega) (by omega) fun w3 h3 => ?_
  have hs3 : (Sort.swp d a q).size = d.size := Sort.size_swp ..
  have ew1 : IntKind.wrap .i64 ((b : Int) - 1) = ((b - 1 : Nat) : Int) := by simp only [IntKind.wrap_i64]; omega
  have ew2 : IntKind.wrap .i64 ((a : Int) + 1) = ((a + 1 : Nat) : Int) := by simp only [IntKind.wrap_i64]; omega
  rw [ew1, ew2]
  obtain ⟨P, he⟩ : ∃ P, P = Sort.partition lt d a b q := ⟨_, rfl⟩
  rw [← he]
  unfold Sort.partition at he
  simp only at he
  generalize Sort.swp d a q = d1 at h3 hs3 he
  have hu := Sort.scanUp_ge (fun x => lt x d1[a]!) d1 (b - 1) (a + 1)
  have hu3 : Sort.scanUp (fun x => lt x d1[a]!) d1 (b - 1) (a + 1) ≤ 1000001 := by
    have := (Sort.scanUp_spec (fun x => lt x d1[a]!) d1 (b - 1) _ (a + 1) rfl).2.1 (by omega); omega
  refine ⟨fun (x : Int) w4 => x = (Sort.scanUp (fun x => lt x d1[a]!) d1 (b - 1) (a + 1) : Nat) ∧ SdT Ok B w0 w4 s d1, ?_, ?_⟩
  rotate_left
  · exact up_loop h3 (by omega) rfl (by omega) (by omega) (fun t w20 K ht hit h20 hK => less_step (i := t) (j := a) hc h20 rfl rfl (by omega) (by omega) fun v w' h' hv => by rw [hv]; exact hK _ h') fun w8 h8 => ⟨rfl, h8⟩
  generalize Sort.scanUp (fun x => lt x d1[a]!) d1 (b - 1) (a + 1) = i0 at hu hu3 he
  rintro x w4 ⟨rfl, h4⟩
  have hv := Sort.scanDown_le (fun x => !lt x d1[a]!) d1 i0 (b - 1)
  refine ⟨fun (x : Int) w5 => x = (Sort.scanDown (fun x => !lt x d1[a]!) d1 i0 (b - 1) : Nat) ∧ SdT Ok B w0 w5 s d1, ?_, ?_⟩
  rotate_left
  · exact down_loop h4 (by omega) rfl (by omega) (by omega) (fun t w20 K ht hit h20 hK => less_step (i := t) (j := a) hc h20 rfl rfl (by omega) (by omega) fun v w' h' hv => by rw [hv]; exact hK _ h') fun w8 h8 => ⟨rfl, h8⟩
  generalize Sort.scanDown (fun x => !lt x d1[a]!) d1 i0 (b - 1) = j0 at hv he
  rintro x w5 ⟨rfl, h5⟩
  refine cond_intro (fun g => ?_) (fun g => ?_)
  · have g : i0 > j0 := by simp at g; omega
    simp only [if_pos g] at he
    rw [he]
    exact swap_step (i := j0) (j := a) h5 rfl rfl (by omega) (by omega) fun w8 h8 => ⟨rfl, h8⟩
  have g : ¬ i0 > j0 := by simp at g; omega
  simp only [if_neg g] at he
  refine swap_step (i := i0) (j := j0) h5 rfl rfl (by omega) (by omega) fun w11 h11 => ?_
  have hs11 : (Sort.swp d1 i0 j0).size = d.size := by rw [Sort.size_swp, hs3]
  generalize hL : Sort.partLoop lt a (i0 + 1) (j0 - 1) (Sort.swp d1 i0 j0) = L at he
  generalize Sort.swp d1 i0 j0 = d2 at h11 hs11 hL
  refine ⟨fun (x : Int) w12 => x = (L.1 : Nat) ∧ L.1 < b ∧ L.2.size = d.size ∧ SdT Ok B w0 w12 s L.2, ?_, ?_⟩
  · rintro x w12 ⟨rfl, hL1, hL2, h12⟩
    refine swap_step (i := L.1) (j := a) h12 rfl rfl (by omega) (by omega) fun w15 h15 => ?_
    rw [he]
    exact ⟨rfl, h15⟩
  refine LoopV.intro (fun n (x11 x12 : Int) w5 => ∃ (i j : Nat) (d' : Array ET), x11 = (i : Int) ∧ x12 = (j : Int) ∧ n = j + 1 - i ∧ a < i ∧ i ≤ 1000001 ∧ j < b ∧ SdT Ok B w0 w5 s d' ∧ d'.size = d.size ∧ Sort.partLoop lt a i j d' = L) (j0 - 1 + 1 - (i0 + 1))
    ⟨i0 + 1, j0 - 1, _, by simp only [IntKind.wrap_i64]; omega, by simp only [IntKind.wrap_i64]; omega, rfl, by omega, by omega, by omega, h11, hs11, hL⟩ ?_
  rintro n x11 x12 w5 ⟨i, j, d', rfl, rfl, rfl, hai, hi6, hjb, h5, hs5, heL⟩
  refine Join.dir ?_
  have hu := Sort.scanUp_ge (fun x => lt x d'[a]!) d' j i
  have hu2 := (Sort.scanUp_spec (fun x => lt x d'[a]!) d' j _ i rfl).2.1
  rw [Sort.partLoop_eq] at heL
  have hgd := Sort.partLoop_guard lt a i j d'
  have hu3 : Sort.scanUp (fun x => lt x d'[a]!) d' j i ≤ 1000001 := by
    rcases Nat.lt_or_ge (j + 1) i with h | h
    · rw [Sort.scanUp, if_neg (by simp; omega)]; exact hi6
    · have := hu2 h; omega
  refine ⟨fun (x : Int) w7 => x = (Sort.scanUp (fun x => lt x d'[a]!) d' j i : Nat) ∧ SdT Ok B w0 w7 s d', ?_, ?_⟩
  · generalize Sort.scanUp (fun x => lt x d'[a]!) d' j i = i2 at hu hu3 heL hgd
    rintro x w7 ⟨rfl, h7⟩
    have hv := Sort.scanDown_le (fun x => !lt x d'[a]!) d' i2 j
    refine ⟨fun (x : Int) w8 => x = (Sort.scanDown (fun x => !lt x d'[a]!) d' i2 j : Nat) ∧ SdT Ok B w0 w8 s d', ?_, ?_⟩
    · generalize Sort.scanDown (fun x => !lt x d'[a]!) d' i2 j = j2 at hv heL hgd
      rintro x w8 ⟨rfl, h8⟩
      refine cond_intro (fun g => ?_) (fun g => ?_)
      · have g : i2 > j2 := by simp at g; omega
        rw [if_pos g] at heL
        rw [← heL]
        exact ⟨rfl, by simp only; omega, hs5, h8⟩
      · have g : ¬ i2 > j2 := by simp at g; omega
        rw [if_neg g] at heL
        have := hgd g
        exact swap_step (i := i2) (j := j2) h8 rfl rfl (by omega) (by omega) fun w11 h11 => ⟨j2 - 1 + 1 - (i2 + 1), by omega, i2 + 1, j2 - 1, _, by simp only [IntKind.wrap_i64]; omega, by simp only [IntKind.wrap_i64]; omega, rfl, by omega, by omega, by omega, h11, by simp [Sort.size_swp, hs5], heL⟩
    · exact down_loop h7 (by omega) rfl (by omega) (by omega) (fun t w20 K ht hit h20 hK => less_step (i := t) (j := a) hc h20 rfl rfl (by omega) (by omega) fun v w' h' hv => by rw [hv]; exact hK _ h') fun w8 h8 => ⟨rfl, h8⟩
  · exact up_loop h5 (by omega) rfl (by omega) (by omega) (fun t w20 K ht hit h20 hK => less_step (i := t) (j := a) hc h20 rfl rfl (by omega) (by omega) fun v w' h' hv => by rw [hv]; exact hK _ h') fun w8 h8 => ⟨rfl, h8⟩
theorem scanSorted_le (lt : ET → ET → Bool) (d : Array ET) (b : Nat) : ∀ (n i : Nat), b - i = n → i ≤ b → i ≤ Sort.scanSorted lt d b i ∧ Sort.scanSorted lt d b i ≤ b := by
  intro n
  induction n with
  | zero => intro i hn hib; rw [Sort.scanSorted, if_neg (by simp; omega)]; exact ⟨Nat.le_refl _, hib⟩
  | succ n ih =>
    intro i hn hib
    rw [Sort.scanSorted]
    split
    · have := ih (i + 1) (by omega) (by omega); omega
    · exact ⟨Nat.le_refl _, hib⟩
theorem c135 (hc : CfT Ok w0 s f c lt) (h : SdT Ok B w0 w s d) {a b : Nat} (hab : a < b) (hb : b ≤ d.size) :
    Calls Try.prog 135 [.slice s.a s.n s.c, .int .i64 (a : Int), .int .i64 (b : Int), .func (.func f) #[] c.toArray].toArray w fun e w' => e = .returned (.bool (Sort.partialInsertionSort lt d a b).2) ∧ SdT Ok B w0 w' s (Sort.partialInsertionSort lt d a b).1 := by
  have hsz := h.sz
  refine (call135 s a b f c (R := fun v w' => v = .bool (Sort.partialInsertionSort lt d a b).2 ∧ SdT Ok B w0 w' s (Sort.partialInsertionSort lt d a b).1) ?_).mono fun e w' ⟨v, he, hv, hx⟩ => ⟨by rw [he, hv], hx⟩
  refine Join.dir (LoopV.intro (fun n (x9 x10 : Int) w2 => ∃ (i : Nat) (d' : Array ET), x9 = (i : Int) ∧ x10 = 5 - (n : Int) ∧ n ≤ 5 ∧ a < i ∧ i ≤ b ∧ SdT Ok B w0 w2 s d' ∧ d'.size = d.size ∧ Sort.partialIns lt a b n i d' = Sort.partialInsertionSort lt d a b) 5
    ⟨a + 1, d, by simp only [IntKind.wrap_i64]; omega, by decide, by omega, by omega, by omega, h, rfl, rfl⟩ ?_)
  rintro n x9 x10 w2 ⟨i, d', rfl, rfl, hn5, hai, hib, h2, hs2, he⟩
  refine cond_intro (fun g => ?_) (fun g => ?_)
  rotate_left
  · have : n = 0 := by simp at g; omega
    subst this
    rw [← he]; exact ⟨rfl, h2⟩
  obtain ⟨m, rfl⟩ : ∃ m, n = m + 1 := ⟨n - 1, by simp at g; omega⟩
  obtain ⟨k1, k2⟩ := scanSorted_le lt d' b _ i rfl hib
  rw [Sort.partialIns_succ] at he
  refine Join.dir ⟨fun (x : Int) w4 => x = (Sort.scanSorted lt d' b i : Nat) ∧ SdT Ok B w0 w4 s d', ?_, ?_⟩
  rotate_left
  · refine LoopV.intro (fun n (x : Int) w => ∃ t : Nat, x = (t : Int) ∧ n = b - t ∧ i ≤ t ∧ t ≤ b ∧ SdT Ok B w0 w s d' ∧ Sort.scanSorted lt d' b t = Sort.scanSorted lt d' b i) (b - i) ⟨i, rfl, rfl, Nat.le_refl _, hib, h2, rfl⟩ ?_
    rintro n x w17 ⟨t, rfl, rfl, hit, ht, h17, he⟩
    refine ⟨fun (b' : Bool) w18 => b' = (decide (t < b) && !lt d'[t]! d'[t - 1]!) ∧ SdT Ok B w0 w18 s d', ?_, ?_⟩
    · rintro b' w18 ⟨hb', h18⟩
      refine cond_intro (fun g => ?_) (fun g => ?_)
      · rw [hb'] at g
        have g1 : t < b := by simp at g; exact g.1
        refine Join.dir ⟨b - (t + 1), by omega, t + 1, by simp only [IntKind.wrap_i64]; omega, rfl, by omega, by omega, h18, ?_⟩
        rw [← he, Sort.scanSorted.eq_1 lt d' b t, if_pos g]
      · rw [hb'] at g
        have : Sort.scanSorted lt d' b i = t := by rw [← he, Sort.scanSorted.eq_1 lt d' b t, if_neg (by rw [g]; simp)]
        rw [← this]
        exact ⟨rfl, h18⟩
    · refine Let.intro fun w20 e20 => ?_
      have h20 : SdT Ok B w0 w20 s d' := by rw [e20]; exact h17.ext (Ext.drew _)
      refine cond_intro (fun g => ?_) (fun g => ⟨?_, h20⟩)
      · have g : t < b := by simpa using g
        exact less_step (i := t) (j := t - 1) hc h20 rfl (by simp only [IntKind.wrap_i64]; omega) (by omega) (by omega) fun v w' h' hv => ⟨by rw [hv]; simp [g], h'⟩
      · have g : ¬ t < b := by simpa using g
        simp [g]
  generalize Sort.scanSorted lt d' b i = t at he k1 k2
  rintro x w4 ⟨rfl, h4⟩
  refine cond_intro (fun g1 => ?_) (fun g1 => ?_)
  · have g1 : t = b := by simp at g1; omega
    rw [if_pos g1] at he
    rw [← he]; exact ⟨rfl, h4⟩
  have g1 : ¬ t = b := by simp at g1; omega
  rw [if_neg g1] at he
  have ew : IntKind.wrap .i64 ((b : Int) - (a : Int)) = ((b - a : Nat) : Int) := by simp only [IntKind.wrap_i64]; omega
  rw [ew]
  refine cond_intro (fun g2 => ?_) (fun g2 => ?_)
  · have g2 : b - a < 50 := by simp at g2; omega
    rw [if_pos g2] at he
    rw [← he]; exact ⟨rfl, h4⟩
  have g2 : ¬ b - a < 50 := by simp at g2; omega
  rw [if_neg g2] at he
  refine swap_step (i := t) (j := t - 1) h4 rfl (by simp only [IntKind.wrap_i64]; omega) (by omega) (by omega) fun w7 h7 => ?_
  have hs7 : (Sort.swp d' t (t - 1)).size = d.size := by rw [Sort.size_swp, hs2]
  generalize Sort.swp d' t (t - 1) = d1 at he h7 hs7
  have ew1 : IntKind.wrap .i64 ((t : Int) - (a : Int)) = ((t - a : Nat) : Int) := by simp only [IntKind.wrap_i64]; omega
  have ew2 : IntKind.wrap .i64 ((b : Int) - (t : Int)) = ((b - t : Nat) : Int) := by simp only [IntKind.wrap_i64]; omega
  rw [ew1, ew2]
  refine ⟨fun w8 => SdT Ok B w0 w8 s (Sort.fixDown lt a t d1) ∧ (Sort.fixDown lt a t d1).size = d.size, ?_, ?_⟩
  · generalize Sort.fixDown lt a t d1 = d2 at he
    rintro w8 ⟨h8, hs8⟩
    refine ⟨fun w9 => SdT Ok B w0 w9 s (Sort.fixUp lt b t d2) ∧ (Sort.fixUp lt b t d2).size = d.size, ?_, ?_⟩
    · rintro w9 ⟨h9, hs9⟩
      exact ⟨m, by omega, t, _, rfl, by simp only [IntKind.wrap_i64]; omega, by omega, by omega, by omega, h9, hs9, he⟩
    · unfold Sort.fixUp
      refine cond_intro (fun g => ?_) (fun g => ?_)
      · have g : b - t ≥ 2 := by simp at g; omega
        rw [if_pos g]
        refine Join.dir (LoopV.intro (fun n (x12 : Int) w11 => ∃ (j : Nat) (e : Array ET), x12 = (j : Int) ∧ n = b - j ∧ t < j ∧ j ≤ b ∧ SdT Ok B w0 w11 s e ∧ e.size = d.size ∧ Sort.shiftUp lt b j e = Sort.shiftUp lt b (t + 1) d2) (b - (t + 1))
          ⟨t + 1, d2, by simp only [IntKind.wrap_i64]; omega, rfl, by omega, by omega, h8, hs8, rfl⟩ ?_)
        rintro n x12 w11 ⟨j, e, rfl, rfl, htj, hjb, h11, hs11, he11⟩
        refine cond_intro (fun g3 => ?_) (fun g3 => ?_)
        · have g3 : j < b := by simpa using g3
          rw [Sort.shiftUp.eq_1 lt b j e, if_pos g3] at he11
          refine Join.dir (Let.intro fun w13 e13 => ?_)
          have h13 : SdT Ok B w0 w13 s e := by rw [e13]; exact h11.ext (Ext.drew _)
          refine less_step (i := j) (j := j - 1) hc h13 rfl (by simp only [IntKind.wrap_i64]; omega) (by omega) (by omega) fun v w14 h14 hv => ?_
          rw [hv]
          refine cond_intro (fun g4 => ?_) (fun g4 => ?_)
          · rw [if_pos g4] at he11
            rw [← he11]; exact ⟨h14, hs11⟩
          · rw [if_neg (by rw [g4]; simp)] at he11
            exact swap_step (i := j) (j := j - 1) h14 rfl (by simp only [IntKind.wrap_i64]; omega) (by omega) (by omega) fun w17 h17 => ⟨b - (j + 1), by omega, j + 1, _, by simp only [IntKind.wrap_i64]; omega, rfl, by omega, by omega, h17, by rw [Sort.size_swp, hs11], he11⟩
        · have g3 : ¬ j < b := by simpa using g3
          rw [Sort.shiftUp.eq_1 lt b j e, if_neg g3] at he11
          rw [← he11]; exact ⟨h11, hs11⟩
      · have g : ¬ b - t ≥ 2 := by simp at g; omega
        rw [if_neg g]; exact ⟨h8, hs8⟩
  · unfold Sort.fixDown
    refine cond_intro (fun g => ?_) (fun g => ?_)
    · have g : t - a ≥ 2 := by simp at g; omega
      rw [if_pos g]
      refine Join.dir (LoopV.intro (fun n (x11 : Int) w19 => ∃ e : Array ET, x11 = (n : Int) ∧ n < b ∧ SdT Ok B w0 w19 s e ∧ e.size = d.size ∧ Sort.shiftDown lt n e = Sort.shiftDown lt (t - 1) d1) (t - 1)
        ⟨d1, by simp only [IntKind.wrap_i64]; omega, by omega, h7, hs7, rfl⟩ ?_)
      rintro n x11 w19 ⟨e, rfl, hnb, h19, hs19, he19⟩
      refine cond_intro (fun g3 => ?_) (fun g3 => ?_)
      · obtain ⟨u, rfl⟩ : ∃ u, n = u + 1 := ⟨n - 1, by simp at g3; omega⟩
        rw [Sort.shiftDown] at he19
        refine Join.dir (Let.intro fun w21 e21 => ?_)
        have h21 : SdT Ok B w0 w21 s e := by rw [e21]; exact h19.ext (Ext.drew _)
        refine less_step (i := u + 1) (j := u) hc h21 rfl (by simp only [IntKind.wrap_i64]; omega) (by omega) (by omega) fun v w22 h22 hv => ?_
        rw [hv]
        refine cond_intro (fun g4 => ?_) (fun g4 => ?_)
        · rw [if_pos g4] at he19
          rw [← he19]; exact ⟨h22, hs19⟩
        · rw [if_neg (by rw [g4]; simp)] at he19
          exact swap_step (i := u + 1) (j := u) h22 rfl (by simp only [IntKind.wrap_i64]; omega) (by omega) (by omega) fun w25 h25 => ⟨u, by omega, _, by simp only [IntKind.wrap_i64]; omega, by omega, h25, by rw [Sort.size_swp, hs19], he19⟩
      · have : n = 0 := by simp at g3; omega
        subst this
        rw [← he19]; exact ⟨h19, hs19⟩
    · have g : ¬ t - a ≥ 2 := by simp at g; omega
      rw [if_neg g]; exact ⟨h7, hs7⟩
end
end Go.Proofs.Ytoljknamnkkgcaa
