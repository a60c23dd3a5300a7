/-
  Sorting slices of facts in place: pivots, patterns, the whole.
-/
import Derived.Test.YtoljknamnkkgcaaHb
namespace Go.Proofs.Ytoljknamnkkgcaa
open Go Go.VC
set_option maxHeartbeats 1000000
set_option maxRecDepth 100000

theorem c125x (x : Int) (w : World) (h0 : 0 ≤ x) (h1 : x ≤ 18446744073709551615) : Calls Try.prog 125 [.int .u64 x].toArray w fun e w' => e = .returned (.int .i64 (Lib.bitLen x.toNat)) ∧ w' = w := by
  refine (call125 x (R := fun v w' => v = .int .i64 (Lib.bitLen x.toNat) ∧ w' = w) ?_).mono fun e w' ⟨v, he, hv, hx⟩ => ⟨by rw [he, hv], hx⟩
  exact (Go.Proofs.Any.bits_Len64 lays129 x w h0 h1).mono fun e w' ⟨he, hw⟩ => ⟨_, he, rfl, hw⟩
theorem zcRng : (zc Try.prog 207).size = 1 := by kernel_rfl
theorem zcInt : (zc Try.prog 3).size = 1 := by kernel_rfl
theorem zcIntL : (zc Try.prog 3).toList = [.int .i64 0] := by kernel_rfl
theorem two_pow_bitLen : ∀ (n x : Nat), x ≤ n → x ≠ 0 → x < 2 ^ 64 → 2 ^ Lib.bitLen x ≤ 2 * x := by
  intro n
  induction n with
  | zero => intro x h1 h2; omega
  | succ n ih =>
    intro x h1 h2 h3
    rw [Lib.bitLen_half x h2 h3, Nat.pow_add, Nat.pow_one]
    rcases Nat.eq_zero_or_pos (x / 2) with h | h
    · rw [h, show Lib.bitLen 0 = 0 from by decide]; omega
    · have := ih (x / 2) (by omega) (by omega) (by omega)
      omega
theorem and_bound {x y : Int} (h0 : 0 ≤ y) (h1 : y ≤ 2000000) : ∃ r : Nat, bitsI .and .u64 x y = (r : Int) ∧ (r : Int) ≤ y := by
  refine ⟨(BitVec.ofInt 64 x &&& BitVec.ofInt 64 y).toNat, ?_, ?_⟩
  · show IntKind.wrap .u64 _ = _
    rw [IntKind.wrap_u64]
    have := (BitVec.ofInt 64 x &&& BitVec.ofInt 64 y).isLt
    show ((BitVec.ofInt 64 x &&& BitVec.ofInt 64 y).toNat : Int) % _ = _
    omega
  · have h3 : (BitVec.ofInt 64 y).toNat = y.toNat := by
      rw [BitVec.toNat_ofInt]; omega
    have h2 : (BitVec.ofInt 64 x &&& BitVec.ofInt 64 y).toNat ≤ y.toNat := by
      rw [BitVec.toNat_and, h3]; exact Nat.and_le_right
    omega
section
variable {Ok : ET → Prop} {B : Nat} {w0 w : World} {s : Sl} {d : Array ET} {f : Nat} {c : List Value} {lt : ET → ET → Bool}
theorem Sd.ne {q : Nat} {T : TypeId} {l : List Value} (h : SdT Ok B w0 w s d) (hq : w0.heap.size ≤ q) (hn : ¬ BlS s q) {w' : World} (hf : Fr (fun b => b = q) w w') : SdT Ok B w0 w' s d :=
  h.newer hf (fun b hb => by omega) fun a ha e => hn ⟨a, ha, e⟩
theorem c145 (hc : CfT Ok w0 s f c lt) (h : SdT Ok B w0 w s d) {a b q : Nat} {n : Int} {T : TypeId} (ha : a < d.size) (hb : b < d.size) (hq : Blk w q [.int .i64 n] T) (hq0 : w0.heap.size ≤ q) (hqn : ¬ BlS s q) :
    Calls Try.prog 145 [.slice s.a s.n s.c, .int .i64 (a : Int), .int .i64 (b : Int), .pointer (some ⟨q, 0, none⟩), .func (.func f) #[] c.toArray].toArray w fun e w' => ∃ x y : Nat, e = .returned (.tuple [.int .i64 (x : Int), .int .i64 (y : Int)].toArray) ∧ ((x = a ∧ y = b) ∨ (x = b ∧ y = a)) ∧ SdT Ok B w0 w' s d ∧ ∃ m : Int, Blk w' q [.int .i64 m] T := by
  refine (call145 s a b ⟨q, 0⟩ f c (R := fun v w' => ∃ x y : Nat, v = (.tuple [.int .i64 (x : Int), .int .i64 (y : Int)].toArray) ∧ ((x = a ∧ y = b) ∨ (x = b ∧ y = a)) ∧ SdT Ok B w0 w' s d ∧ ∃ m : Int, Blk w' q [.int .i64 m] T) ?_).mono fun e w' ⟨v, he, x, y, hv, hx⟩ => ⟨x, y, by rw [he, hv], hx⟩
  refine Let.intro fun w1 e1 => ?_
  have x1 : Ext w w1 := by rw [e1]; exact Ext.drew _
  refine less_stepF (i := b) (j := a) hc (h.ext x1) rfl rfl hb ha fun v w2 h2 hv x2 => ?_
  have hq2 : Blk w2 q [.int .i64 n] T := hq.ext (x1.trans x2)
  refine cond_intro (fun g => ?_) (fun g => ?_)
  · refine ⟨n, hq2.cell 0, hq2.storeOk rfl (by simp [Value.oneCell']) (by simp), Let.intro fun w3 e3 => ?_⟩
    have hf : Fr (fun i => i = q) w2 w3 := by rw [e3]; exact Fr.put ..
    refine ⟨b, a, rfl, .inr ⟨rfl, rfl⟩, h2.newer hf (fun b hb => by omega) (fun a ha e => hqn ⟨a, ha, e⟩), IntKind.wrap .i64 (n + 1), ?_⟩
    rw [e3]; exact hq2.put (o := 0) (vs := [.int .i64 (IntKind.wrap .i64 (n + 1))])
  · exact ⟨a, b, rfl, .inl ⟨rfl, rfl⟩, h2, n, hq2⟩
theorem c144 (hc : CfT Ok w0 s f c lt) (h : SdT Ok B w0 w s d) {i j k q : Nat} {n : Int} {T : TypeId} (hi : i < d.size) (hj : j < d.size) (hk : k < d.size) (hq : Blk w q [.int .i64 n] T) (hq0 : w0.heap.size ≤ q) (hqn : ¬ BlS s q) :
    Calls Try.prog 144 [.slice s.a s.n s.c, .int .i64 (i : Int), .int .i64 (j : Int), .int .i64 (k : Int), .pointer (some ⟨q, 0, none⟩), .func (.func f) #[] c.toArray].toArray w fun e w' => ∃ x : Nat, e = .returned (.int .i64 (x : Int)) ∧ (x = i ∨ x = j ∨ x = k) ∧ SdT Ok B w0 w' s d ∧ ∃ m : Int, Blk w' q [.int .i64 m] T := by
  refine (call144 s i j k ⟨q, 0⟩ f c (R := fun v w' => ∃ x : Nat, v = (.int .i64 (x : Int)) ∧ (x = i ∨ x = j ∨ x = k) ∧ SdT Ok B w0 w' s d ∧ ∃ m : Int, Blk w' q [.int .i64 m] T) ?_).mono fun e w' ⟨v, he, x, hv, hx⟩ => ⟨x, by rw [he, hv], hx⟩
  refine (c145 hc h hi hj hq hq0 hqn).mono fun e w1 ⟨x1, y1, he, hxy1, h1, m1, hq1⟩ => ⟨_, _, he, ?_⟩
  refine (c145 hc h1 (a := y1) (b := k) (by rcases hxy1 with ⟨h, g⟩ | ⟨h, g⟩ <;> omega) hk hq1 hq0 hqn).mono fun e w2 ⟨x2, y2, he, hxy2, h2, m2, hq2⟩ => ⟨_, _, he, ?_⟩
  refine (c145 hc h2 (a := x1) (b := x2) (by rcases hxy1 with ⟨h, g⟩ | ⟨h, g⟩ <;> omega) (by rcases hxy1 with ⟨h, g⟩ | ⟨h, g⟩ <;> rcases hxy2 with ⟨h', g'⟩ | ⟨h', g'⟩ <;> omega) hq2 hq0 hqn).mono fun e w3 ⟨x3, y3, he, hxy3, h3, m3, hq3⟩ => ⟨_, _, he, y3, rfl, ?_, h3, m3, hq3⟩
  rcases hxy1 with ⟨h, g⟩ | ⟨h, g⟩ <;> rcases hxy2 with ⟨h', g'⟩ | ⟨h', g'⟩ <;> rcases hxy3 with ⟨h'', g''⟩ | ⟨h'', g''⟩ <;> omega
theorem c143 (hc : CfT Ok w0 s f c lt) (h : SdT Ok B w0 w s d) {i q : Nat} {n : Int} {T : TypeId} (hi1 : 1 ≤ i) (hi : i + 1 < d.size) (hq : Blk w q [.int .i64 n] T) (hq0 : w0.heap.size ≤ q) (hqn : ¬ BlS s q) :
    Calls Try.prog 143 [.slice s.a s.n s.c, .int .i64 (i : Int), .pointer (some ⟨q, 0, none⟩), .func (.func f) #[] c.toArray].toArray w fun e w' => ∃ x : Nat, e = .returned (.int .i64 (x : Int)) ∧ i - 1 ≤ x ∧ x ≤ i + 1 ∧ SdT Ok B w0 w' s d ∧ ∃ m : Int, Blk w' q [.int .i64 m] T := by
  have hsz := h.sz
  refine (call143 s i ⟨q, 0⟩ f c (R := fun v w' => ∃ x : Nat, v = (.int .i64 (x : Int)) ∧ i - 1 ≤ x ∧ x ≤ i + 1 ∧ SdT Ok B w0 w' s d ∧ ∃ m : Int, Blk w' q [.int .i64 m] T) ?_).mono fun e w' ⟨v, he, x, hv, hx⟩ => ⟨x, by rw [he, hv], hx⟩
  unfold S143
  rw [show IntKind.wrap .i64 ((i : Int) - 1) = ((i - 1 : Nat) : Int) from by simp only [IntKind.wrap_i64]; omega, show IntKind.wrap .i64 ((i : Int) + 1) = ((i + 1 : Nat) : Int) from by simp only [IntKind.wrap_i64]; omega]
  exact (c144 hc h (i := i - 1) (j := i) (k := i + 1) (by omega) (by omega) (by omega) hq hq0 hqn).mono fun e w1 ⟨x, he, hx, h1, hm⟩ => ⟨_, he, x, rfl, by omega, by omega, h1, hm⟩
theorem c133 (hc : CfT Ok w0 s f c lt) (h : SdT Ok B w0 w s d) {a b : Nat} (hab : a < b) (hb : b ≤ d.size) :
    Calls Try.prog 133 [.slice s.a s.n s.c, .int .i64 (a : Int), .int .i64 (b : Int), .func (.func f) #[] c.toArray].toArray w fun e w' => ∃ (x : Nat) (t : Int), e = .returned (.tuple [.int .i64 (x : Int), .int .i64 t].toArray) ∧ a ≤ x ∧ x < b ∧ SdT Ok B w0 w' s d := by
  have hsz := h.sz
  refine (call133 s a b f c (R := fun v w' => ∃ (x : Nat) (t : Int), v = (.tuple [.int .i64 (x : Int), .int .i64 t].toArray) ∧ a ≤ x ∧ x < b ∧ SdT Ok B w0 w' s d) ?_).mono fun e w' ⟨v, he, x, t, hv, hx⟩ => ⟨x, t, by rw [he, hv], hx⟩
  unfold S133
  have ew : IntKind.wrap .i64 ((b : Int) - (a : Int)) = ((b - a : Nat) : Int) := by simp only [IntKind.wrap_i64]; omega
  rw [ew]
  have ed : IntKind.wrap .i64 (Int.tdiv ((b - a : Nat) : Int) 4) = (((b - a) / 4 : Nat) : Int) := by
    rw [Int.tdiv_eq_ediv_of_nonneg (by omega)]
    simp only [IntKind.wrap_i64]; omega
  rw [ed]
  rw [show IntKind.wrap .i64 ((a : Int) + IntKind.wrap .i64 ((((b - a) / 4 : Nat) : Int) * 1)) = ((a + (b - a) / 4 * 1 : Nat) : Int) from by simp only [IntKind.wrap_i64]; omega,
    show IntKind.wrap .i64 ((a : Int) + IntKind.wrap .i64 ((((b - a) / 4 : Nat) : Int) * 2)) = ((a + (b - a) / 4 * 2 : Nat) : Int) from by simp only [IntKind.wrap_i64]; omega,
    show IntKind.wrap .i64 ((a : Int) + IntKind.wrap .i64 ((((b - a) / 4 : Nat) : Int) * 3)) = ((a + (b - a) / 4 * 3 : Nat) : Int) from by simp only [IntKind.wrap_i64]; omega]
  generalize hL : (b - a) / 4 = L
  have hL2 : L * 4 ≤ b - a := by omega
  refine Let.intro fun w1 e1 => ?_
  have x1 : Ext w w1 := by rw [e1]; exact Ext.alloc ..
  have hb1 : Blk w1 w.heap.size [.int .i64 0] 3 := by rw [e1, ← zcIntL]; simpa using Blk.alloc w (zc Try.prog 3).toList 3
  have h1 := h.ext x1
  have hq0 : w0.heap.size ≤ w.heap.size := h.fr.size
  have hqn : ¬ BlS s w.heap.size := by
    rintro ⟨a, ha, e⟩
    have := (h.own.base ha).2; omega
  generalize w.heap.size = q at hb1 hq0 hqn ⊢
  refine ⟨by decide, by decide, by decide, ?_⟩
  refine ⟨fun (x13 : Int) w2 => ∃ x : Nat, x13 = (x : Int) ∧ a ≤ x ∧ x < b ∧ SdT Ok B w0 w2 s d ∧ ∃ m : Int, Blk w2 q [.int .i64 m] 3, ?_, ?_⟩
  · rintro x13 w2 ⟨x, rfl, hx1, hx2, h2, m, hq2⟩
    refine ⟨m, hq2.cell 0, Join.dir ?_⟩
    exact cond_intro (fun _ => ⟨x, _, rfl, hx1, hx2, h2⟩) (fun _ => cond_intro (fun _ => ⟨x, _, rfl, hx1, hx2, h2⟩) (fun _ => ⟨x, _, rfl, hx1, hx2, h2⟩))
  refine cond_intro (fun g8 => ?_) (fun g8 => ⟨a + L * 2, rfl, by omega, by omega, h1, _, hb1⟩)
  have g8 : 8 ≤ b - a := by simp at g8; omega
  refine ⟨fun (x12 x13 x14 : Int) w4 => ∃ x y z : Nat, x12 = (x : Int) ∧ x13 = (y : Int) ∧ x14 = (z : Int) ∧ a ≤ x ∧ x < b ∧ a ≤ y ∧ y < b ∧ a ≤ z ∧ z < b ∧ SdT Ok B w0 w4 s d ∧ ∃ m : Int, Blk w4 q [.int .i64 m] 3, ?_, ?_⟩
  · rintro x12 x13 x14 w4 ⟨x, y, z, rfl, rfl, rfl, hx1, hx2, hy1, hy2, hz1, hz2, h4, m, hq4⟩
    exact (c144 hc h4 (i := x) (j := y) (k := z) (by omega) (by omega) (by omega) hq4 hq0 hqn).mono fun e w5 ⟨r, he, hr, h5, hm⟩ => ⟨_, he, r, rfl, by omega, by omega, h5, hm⟩
  refine cond_intro (fun g50 => ?_) (fun g50 => ⟨_, _, _, rfl, rfl, rfl, by omega, by omega, by omega, by omega, by omega, by omega, h1, _, hb1⟩)
  have g50 : 50 ≤ b - a := by simp at g50; omega
  refine (c143 hc h1 (i := a + L * 1) (by omega) (by omega) hb1 hq0 hqn).mono fun e w6 ⟨x, he, hx1, hx2, h6, m6, hq6⟩ => ⟨_, he, ?_⟩
  refine (c143 hc h6 (i := a + L * 2) (by omega) (by omega) hq6 hq0 hqn).mono fun e w7 ⟨y, he, hy1, hy2, h7, m7, hq7⟩ => ⟨_, he, ?_⟩
  refine (c143 hc h7 (i := a + L * 3) (by omega) (by omega) hq7 hq0 hqn).mono fun e w8 ⟨z, he, hz1, hz2, h8, m8, hq8⟩ => ⟨_, he, ?_⟩
  exact ⟨x, y, z, rfl, rfl, rfl, by omega, by omega, by omega, by omega, by omega, by omega, h8, m8, hq8⟩
theorem c142 {q : Nat} {n : Int} {T : TypeId} (hq : Blk w q [.int .u64 n] T) :
    Calls Try.prog 142 [.pointer (some ⟨q, 0, none⟩)].toArray w fun e w' => ∃ m : Int, e = .returned (.int .u64 m) ∧ Blk w' q [.int .u64 m] T ∧ Fr (fun b => b = q) w w' := by
  refine (call142 ⟨q, 0⟩ (R := fun v w' => ∃ m : Int, v = .int .u64 m ∧ Blk w' q [.int .u64 m] T ∧ Fr (fun b => b = q) w w') ?_).mono fun e w' ⟨v, he, m, hv, hx⟩ => ⟨m, by rw [he, hv], hx⟩
  have hst : ∀ {w : World} {n m : Int} {K : World → Prop}, Blk w q [.int .u64 n] T → (∀ w', Blk w' q [.int .u64 m] T → Fr (fun b => b = q) w w' → K w') → StoreOk w q 0 [.int .u64 m] 1 ∧ Let (put w q 0 [.int .u64 m]) K := fun h hK =>
    ⟨h.storeOk rfl (by simp [Value.oneCell']) (by simp), Let.intro fun w' e => by subst e; exact hK _ (h.put (o := 0) (vs := [_])) (Fr.put ..)⟩
  refine Let.intro fun w1 e1 => ?_
  have x1 : Ext w w1 := by rw [e1]; exact Ext.drew _
  have h1 := hq.ext x1
  refine ⟨_, h1.cell 0, _, h1.cell 0, by decide, hst h1 fun w2 h2 f2 => Let.intro fun w3 e3 => ?_⟩
  have x3 : Ext w2 w3 := by rw [e3]; exact Ext.drew _
  have h3 := h2.ext x3
  refine ⟨_, h3.cell 0, _, h3.cell 0, by decide, hst h3 fun w4 h4 f4 => Let.intro fun w5 e5 => ?_⟩
  have x5 : Ext w4 w5 := by rw [e5]; exact Ext.drew _
  have h5 := h4.ext x5
  refine ⟨_, h5.cell 0, _, h5.cell 0, by decide, hst h5 fun w6 h6 f6 => ⟨_, h6.cell 0, _, rfl, h6, ?_⟩⟩
  exact ((x1.fr f2).trans (x3.fr f4) fun _ _ h => h).trans (x5.fr f6) fun _ _ h => h
theorem c141 {L : Nat} (h0 : 0 < L) (hL : L ≤ 1000000) :
    Calls Try.prog 141 [.int .i64 (L : Int)].toArray w fun e w' => ∃ m : Nat, e = .returned (.int .u64 (m : Int)) ∧ 1 ≤ m ∧ m ≤ 2 * L ∧ w' = w := by
  refine (call141 L (R := fun v w' => ∃ m : Nat, v = .int .u64 (m : Int) ∧ 1 ≤ m ∧ m ≤ 2 * L ∧ w' = w) ?_).mono fun e w' ⟨v, he, m, hv, hx⟩ => ⟨m, by rw [he, hv], hx⟩
  unfold S141
  have ew : IntKind.wrap .u64 (L : Int) = (L : Int) := by rw [IntKind.wrap_u64]; omega
  rw [ew]
  refine (c125x _ w (by omega) (by omega)).mono fun e w1 ⟨he, hw⟩ => ⟨_, he, by omega, ?_⟩
  have h2 := two_pow_bitLen L L (Nat.le_refl _) (by omega) (by omega)
  have e2 : ((L : Int)).toNat = L := by omega
  rw [e2]
  have e3 : Int.toNat ((Lib.bitLen L : Nat) : Int) = Lib.bitLen L := by omega
  rw [e3]
  have h64 : Lib.bitLen L ≤ 64 := by
    rcases Nat.lt_or_ge 64 (Lib.bitLen L) with h | h
    · have h65 : 2 ^ 65 ≤ 2 ^ Lib.bitLen L := Nat.pow_le_pow_right (by omega) h
      omega
    · exact h
  have e4 : min (Lib.bitLen L) (IntKind.bits .u64) = Lib.bitLen L := Nat.min_eq_left h64
  rw [e4]
  have e5 : (1 : Int) * 2 ^ Lib.bitLen L = ((2 ^ Lib.bitLen L : Nat) : Int) := by rw [Int.one_mul, Int.natCast_pow]; rfl
  rw [e5]
  have h1 : 1 ≤ 2 ^ Lib.bitLen L := Nat.one_le_two_pow
  generalize 2 ^ Lib.bitLen L = M at h1 h2 ⊢
  refine ⟨M, ?_, h1, h2, hw⟩
  congr 1
  rw [IntKind.wrap_u64]; omega
theorem c132 (h : SdT Ok B w0 w s d) {a b : Nat} (hab : a < b) (hb : b ≤ d.size) :
    Calls Try.prog 132 [.slice s.a s.n s.c, .int .i64 (a : Int), .int .i64 (b : Int), .func (.func f) #[] c.toArray].toArray w fun e w' => e = .returned (.tuple [].toArray) ∧ ∃ d' : Array ET, Sort.PermIn a b d d' ∧ SdT Ok B w0 w' s d' := by
  have hsz := h.sz
  refine (call132 s a b f c (R := fun v w' => v = .tuple [].toArray ∧ ∃ d' : Array ET, Sort.PermIn a b d d' ∧ SdT Ok B w0 w' s d') ?_).mono fun e w' ⟨v, he, hv, hx⟩ => ⟨by rw [he, hv], hx⟩
  unfold S132
  have ew : IntKind.wrap .i64 ((b : Int) - (a : Int)) = ((b - a : Nat) : Int) := by simp only [IntKind.wrap_i64]; omega
  rw [ew]
  have ed : IntKind.wrap .i64 (Int.tdiv ((b - a : Nat) : Int) 4) = (((b - a) / 4 : Nat) : Int) := by
    rw [Int.tdiv_eq_ediv_of_nonneg (by omega)]
    simp only [IntKind.wrap_i64]; omega
  rw [ed]
  refine Join.dir (cond_intro (fun g8 => ?_) (fun g8 => ⟨rfl, d, Sort.permIn_refl .., h⟩))
  have g8 : 8 ≤ b - a := by simp at g8; omega
  have hL2 : (b - a) / 4 * 4 ≤ b - a := by omega
  have hL3 : 2 ≤ (b - a) / 4 := by omega
  generalize (b - a) / 4 = L at hL2 hL3
  have u1 : IntKind.wrap .i64 ((L : Int) * 2) = ((L * 2 : Nat) : Int) := by simp only [IntKind.wrap_i64]; omega
  have u2 : IntKind.wrap .i64 ((a : Int) + ((L * 2 : Nat) : Int)) = ((a + L * 2 : Nat) : Int) := by simp only [IntKind.wrap_i64]; omega
  have u3 : IntKind.wrap .i64 (((a + L * 2 : Nat) : Int) - 1) = ((a + L * 2 - 1 : Nat) : Int) := by simp only [IntKind.wrap_i64]; omega
  have u4 : IntKind.wrap .i64 (((a + L * 2 : Nat) : Int) + 1) = ((a + L * 2 + 1 : Nat) : Int) := by simp only [IntKind.wrap_i64]; omega
  rw [u1, u2, u3, u4]
  obtain ⟨n1, n2, n3⟩ := new_var w 207 (z := zc Try.prog 207) (vs := [.int .u64 (IntKind.wrap .u64 ((b - a : Nat) : Int))]) (by rw [zcRng]; rfl) (by simp [Value.oneCell'])
  refine Let.intro fun w2 e2 => ?_
  rw [← e2] at n1 n2 n3
  refine ⟨n1, Let.intro fun w3 e3 => ?_⟩
  rw [← e3] at n2 n3
  have h3 := h.ext n3
  have hq0 : w0.heap.size ≤ w.heap.size := h.fr.size
  have hqn : ¬ BlS s w.heap.size := by
    rintro ⟨a, ha, e⟩
    have := (h.own.base ha).2; omega
  clear n1 e2 e3
  generalize w.heap.size = q at n2 hq0 hqn ⊢
  refine (c141 (L := b - a) (by omega) (by omega)).mono fun e w4 ⟨M, he, hM1, hM2, hw4⟩ => ⟨_, he, ?_⟩
  subst hw4
  refine ⟨by decide, Join.dir (LoopV.intro (fun n (x11 : Int) w6 => ∃ (i : Nat) (d' : Array ET), x11 = (i : Int) ∧ n = a + L * 2 + 2 - i ∧ a + L * 2 - 1 ≤ i ∧ i ≤ a + L * 2 + 2 ∧ Sort.PermIn a b d d' ∧ SdT Ok B w0 w6 s d' ∧ ∃ m : Int, Blk w6 q [.int .u64 m] 207) (a + L * 2 + 2 - (a + L * 2 - 1))
    ⟨a + L * 2 - 1, d, rfl, rfl, by omega, by omega, Sort.permIn_refl .., h3, _, n2⟩ ?_)⟩
  rintro n x11 w6 ⟨i, d', rfl, rfl, hi1, hi2, hp, h6, m, hq6⟩
  refine ⟨by decide, cond_intro (fun g => ?_) (fun g => ⟨rfl, d', hp, h6⟩)⟩
  have g : i ≤ a + L * 2 + 1 := by simp at g; omega
  have hs6 : d'.size = d.size := hp.1
  refine Join.dir ((c142 hq6).mono fun e w8 ⟨m8, he, hq8, hf8⟩ => ⟨_, he, ?_⟩)
  have h8 : SdT Ok B w0 w8 s d' := h6.newer hf8 (fun b hb => by omega) (fun a ha e => hqn ⟨a, ha, e⟩)
  have eM : IntKind.wrap .u64 ((M : Int) - 1) = ((M - 1 : Nat) : Int) := by rw [IntKind.wrap_u64]; omega
  rw [eM]
  obtain ⟨r, er, hr⟩ := and_bound (x := m8) (y := ((M - 1 : Nat) : Int)) (by omega) (by omega)
  rw [er]
  have er2 : IntKind.wrap .i64 (r : Int) = (r : Int) := by simp only [IntKind.wrap_i64]; omega
  rw [er2]
  refine ⟨fun (x12 : Int) w9 => ∃ o : Nat, x12 = (o : Int) ∧ o < b - a ∧ w9 = w8, ?_, ?_⟩
  · rintro x12 w9 ⟨o, rfl, ho, rfl⟩
    refine swap_stepF (i := i) (j := a + o) h8 rfl (by simp only [IntKind.wrap_i64]; omega) (by omega) (by omega) fun w12 h12 f12 => ⟨a + L * 2 + 2 - (i + 1), by omega, i + 1, _, by simp only [IntKind.wrap_i64]; omega, rfl, by omega, by omega, Sort.permIn_trans _ _ _ _ _ hp (Sort.swp_permIn d' a b i (a + o) (by omega) (by omega) (by omega) (by omega) (by omega)), h12, m8, hq8.fr f12 hqn⟩
  · refine cond_intro (fun g2 => ⟨r - (b - a), by simp at g2; simp only [IntKind.wrap_i64]; omega, by omega, rfl⟩) (fun g2 => ⟨r, rfl, by simp at g2; omega, rfl⟩)
theorem c124 (hlt : Sort.SWO lt) (hc : CfT Ok w0 s f c lt) : ∀ (N a b : Nat) (w : World) (d : Array ET) (limit : Int), b - a ≤ N → SdT Ok B w0 w s d → a ≤ b → b ≤ d.size → Sort.Below lt a b d →
    Calls Try.prog 124 [.slice s.a s.n s.c, .int .i64 (a : Int), .int .i64 (b : Int), .int .i64 limit, .func (.func f) #[] c.toArray].toArray w fun e w' => e = .returned (.tuple [].toArray) ∧ ∃ R : Array ET, Sort.PermIn a b d R ∧ Sort.SortedIn lt a b R ∧ SdT Ok B w0 w' s R := by
  intro N
  induction N using Nat.strongRecOn with
  | ind N ih =>
  intro a b w d limit hN h hab hb hB
  have hsz := h.sz
  refine (call124 s a b limit f c (R := fun v w' => v = .tuple [].toArray ∧ ∃ R : Array ET, Sort.PermIn a b d R ∧ Sort.SortedIn lt a b R ∧ SdT Ok B w0 w' s R) ?_).mono fun e w' ⟨v, he, hv, hx⟩ => ⟨by rw [he, hv], hx⟩
  refine Join.dir (LoopV.intro (fun n (x1 x2 x3 : Int) (b10 b11 : Bool) w2 => ∃ (a' b' : Nat) (d' : Array ET), x1 = (a' : Int) ∧ x2 = (b' : Int) ∧ n = b' - a' ∧ a' ≤ b' ∧ b' - a' ≤ b - a ∧ b' ≤ d.size ∧ SdT Ok B w0 w2 s d' ∧ d'.size = d.size ∧ Sort.Below lt a' b' d' ∧
      ∀ R, Sort.PermIn a' b' d' R → Sort.SortedIn lt a' b' R → Sort.PermIn a b d R ∧ Sort.SortedIn lt a b R) (b - a)
    ⟨a, b, d, rfl, rfl, rfl, hab, Nat.le_refl _, hb, h, rfl, hB, fun R h1 h2 => ⟨h1, h2⟩⟩ ?_)
  rintro n x1 x2 x3 b10 b11 w2 ⟨a', b', d', rfl, rfl, rfl, hab', hle, hb', h2, hs2, hB2, hfin⟩
  have ew : IntKind.wrap .i64 ((b' : Int) - (a' : Int)) = ((b' - a' : Nat) : Int) := by simp only [IntKind.wrap_i64]; omega
  rw [ew]
  refine Join.dir (cond_intro (fun g12 => ?_) (fun g12 => ?_))
  · refine (c130 hc h2 hab' (by omega)).mono fun e w4 ⟨he, h4⟩ => ⟨he, rfl, Sort.insertionSort lt d' a' b', ?_⟩
    obtain ⟨p1, p2⟩ := Sort.insertionSort_holds hlt d' a' b' hab' (by omega)
    exact ⟨(hfin _ p1 p2).1, (hfin _ p1 p2).2, h4⟩
  have g12 : 12 < b' - a' := by simp at g12; omega
  refine cond_intro (fun g0 => ?_) (fun g0 => ?_)
  · refine (c131 hc h2 hab' (by omega)).mono fun e w4 ⟨he, h4⟩ => ⟨he, rfl, Sort.heapSort lt d' a' b', ?_⟩
    obtain ⟨p1, p2⟩ := Sort.heapSort_holds hlt d' a' b' hab' (by omega)
    exact ⟨(hfin _ p1 p2).1, (hfin _ p1 p2).2, h4⟩
  -- patterns broken
  refine ⟨fun (x3' : Int) w6 => ∃ d1 : Array ET, Sort.PermIn a' b' d' d1 ∧ SdT Ok B w0 w6 s d1, ?_, ?_⟩
  rotate_left
  · refine cond_intro (fun _ => ?_) (fun _ => ⟨d', Sort.permIn_refl .., h2⟩)
    exact (c132 h2 (by omega) (by omega)).mono fun e w21 ⟨he, hd⟩ => ⟨he, hd⟩
  rintro x3' w6 ⟨d1, p1, h6⟩
  have s1 : d1.size = d.size := by rw [p1.1, hs2]
  refine (c133 hc h6 (a := a') (b := b') (by omega) (by omega)).mono fun e w7 ⟨q, t, he, hq1, hq2, h7⟩ => ⟨_, _, he, ?_⟩
  refine ⟨fun (x13 x14 : Int) w8 => ∃ (q : Nat) (d2 : Array ET), x13 = (q : Int) ∧ a' ≤ q ∧ q < b' ∧ Sort.PermIn a' b' d' d2 ∧ SdT Ok B w0 w8 s d2, ?_, ?_⟩
  rotate_left
  · refine cond_intro (fun _ => ?_) (fun _ => ⟨q, d1, rfl, hq1, hq2, p1, h7⟩)
    refine (c134 h7 (by omega) (by omega)).mono fun e w20 ⟨he, h20⟩ => ⟨he, b' - 1 - (q - a'), _, by simp only [IntKind.wrap_i64]; omega, by omega, by omega, Sort.permIn_trans _ _ _ _ _ p1 (Sort.reverseRange_holds d1 a' b' hab' (by omega)), h20⟩
  rintro x13 x14 w8 ⟨q, d2, rfl, hq1, hq2, p2, h8⟩
  have s2 : d2.size = d.size := by rw [p2.1, hs2]
  have hB3 : Sort.Below lt a' b' d2 := hB2.perm (by omega) p2
  refine ⟨fun (b75 : Bool) w9 => SdT Ok B w0 w9 s d2, ?_, ?_⟩
  rotate_left
  · exact cond_intro (fun _ => cond_intro (fun _ => h8) (fun _ => h8)) (fun _ => h8)
  rintro b75 w9 h9
  refine ⟨fun w10 => ∃ d3 : Array ET, Sort.PermIn a' b' d' d3 ∧ SdT Ok B w0 w10 s d3, ?_, ?_⟩
  rotate_left
  · refine cond_intro (fun _ => ?_) (fun _ => ⟨d2, p2, h9⟩)
    obtain ⟨q1, q2⟩ := Sort.partialInsertionSort_holds hlt d2 a' b' (by omega) (by omega) hB3
    refine (c135 hc h9 (a := a') (b := b') (by omega) (by omega)).mono fun e w19 ⟨he, h19⟩ => ⟨_, he, cond_intro (fun g => ?_) (fun g => ⟨_, Sort.permIn_trans _ _ _ _ _ p2 q1, h19⟩)⟩
    have hR := hfin _ (Sort.permIn_trans _ _ _ _ _ p2 q1) (q2 g)
    exact ⟨rfl, _, hR.1, hR.2, h19⟩
  rintro w10 ⟨d3, p3, h10⟩
  have s3 : d3.size = d.size := by rw [p3.1, hs2]
  have hB4 : Sort.Below lt a' b' d3 := hB2.perm (by omega) p3
  refine ⟨fun (b97 : Bool) w11 => b97 = (decide (0 < a') && !lt d3[a' - 1]! d3[q]!) ∧ SdT Ok B w0 w11 s d3, ?_, ?_⟩
  rotate_left
  · refine Let.intro fun w17 e17 => ?_
    have h17 : SdT Ok B w0 w17 s d3 := by rw [e17]; exact h10.ext (Ext.drew _)
    refine cond_intro (fun g => ?_) (fun g => ⟨?_, h17⟩)
    · have g : 0 < a' := by simpa using g
      exact less_step (i := a' - 1) (j := q) hc h17 (by simp only [IntKind.wrap_i64]; omega) rfl (by omega) (by omega) fun v w' h' hv => ⟨by rw [hv]; simp [g], h'⟩
    · have g : ¬ 0 < a' := by simpa using g
      simp [g]
  rintro b97 w11 ⟨hb97, h11⟩
  refine cond_intro (fun g => ?_) (fun g => ?_)
  · rw [hb97] at g
    have g1 : 0 < a' := by simp at g; exact g.1
    have g2 : lt d3[a' - 1]! d3[q]! = false := by simp at g; exact g.2
    obtain ⟨m1, m2, m3, m4, m5⟩ := Sort.round_eq hlt (Sort.partitionEqual_holds lt) g1 hq1 hq2 (by omega) hB4 g2 (show Sort.partitionEqual lt d3 a' b' q = ((Sort.partitionEqual lt d3 a' b' q).1, (Sort.partitionEqual lt d3 a' b' q).2) from rfl)
    refine (c136 hc h11 hq1 hq2 (by omega)).mono fun e w12 ⟨he, h12⟩ => ⟨_, he, b' - (Sort.partitionEqual lt d3 a' b' q).1, by omega, (Sort.partitionEqual lt d3 a' b' q).1, b', _, rfl, rfl, rfl, m2, by omega, hb', h12, by omega, m4, fun R r1 r2 => ?_⟩
    obtain ⟨t1, t2⟩ := m5 R r1 r2
    exact hfin R (Sort.permIn_trans _ _ _ _ _ p3 t1) t2
  · obtain ⟨m1, m2, m3, m4, m5, m6, m7⟩ := Sort.round_part hlt (Sort.partition_holds lt) hq1 hq2 (by omega) hB4 (show Sort.partition lt d3 a' b' q = ((Sort.partition lt d3 a' b' q).1, (Sort.partition lt d3 a' b' q).2.1, (Sort.partition lt d3 a' b' q).2.2) from rfl)
    refine (c137 hc h11 hq1 hq2 (by omega)).mono fun e w13 ⟨he, h13⟩ => ⟨_, _, he, by decide, Join.dir ?_⟩
    generalize (Sort.partition lt d3 a' b' q).1 = mid at m1 m2 m4 m5 m6 m7 ⊢
    generalize (Sort.partition lt d3 a' b' q).2.2 = d4 at m3 m4 m5 m6 m7 h13 ⊢
    have ew1 : IntKind.wrap .i64 ((mid : Int) + 1) = ((mid + 1 : Nat) : Int) := by simp only [IntKind.wrap_i64]; omega
    rw [ew1]
    refine cond_intro (fun _ => ?_) (fun _ => ?_)
    · refine (ih (mid - a') (by omega) a' mid w13 d4 x3' (Nat.le_refl _) h13 m1 (by omega) m4).mono fun e w15 ⟨he, L, l1, l2, h15⟩ => ⟨he, b' - (mid + 1), by omega, mid + 1, b', L, rfl, rfl, rfl, by omega, by omega, hb', h15, by rw [l1.1]; omega, (m6 L l1 l2).1, fun R r1 r2 => ?_⟩
      obtain ⟨t1, t2⟩ := (m6 L l1 l2).2 R r1 r2
      exact hfin R (Sort.permIn_trans _ _ _ _ _ p3 t1) t2
    · refine (ih (b' - (mid + 1)) (by omega) (mid + 1) b' w13 d4 x3' (Nat.le_refl _) h13 (by omega) (by omega) m5).mono fun e w15 ⟨he, L, l1, l2, h15⟩ => ⟨he, mid - a', by omega, a', mid, L, rfl, rfl, rfl, by omega, by omega, by omega, h15, by rw [l1.1]; omega, (m7 L l1 l2).1, fun R r1 r2 => ?_⟩
      obtain ⟨t1, t2⟩ := (m7 L l1 l2).2 R r1 r2
      exact hfin R (Sort.permIn_trans _ _ _ _ _ p3 t1) t2
/-- slices.SortFunc -/
theorem c108 (hlt : Sort.SWO lt) (hc : CfT Ok w0 s f c lt) (h : SdT Ok B w0 w s d) :
    Calls Try.prog 108 [.slice s.a s.n s.c, .func (.func f) #[] c.toArray].toArray w fun e w' => e = .returned (.tuple [].toArray) ∧ ∃ R : Array ET, R.toList.Perm d.toList ∧ R.toList.Pairwise (fun x y => lt y x = false) ∧ SdT Ok B w0 w' s R := by
  have hsz := h.sz
  refine (call108 s f c (R := fun v w' => v = .tuple [].toArray ∧ ∃ R : Array ET, R.toList.Perm d.toList ∧ R.toList.Pairwise (fun x y => lt y x = false) ∧ SdT Ok B w0 w' s R) ?_).mono fun e w' ⟨v, he, hv, hx⟩ => ⟨by rw [he, hv], hx⟩
  unfold S108
  rw [h.len]
  have ew : IntKind.wrap .u64 ((d.size : Nat) : Int) = ((d.size : Nat) : Int) := by rw [IntKind.wrap_u64]; omega
  rw [ew]
  refine (c125x _ w (by omega) (by omega)).mono fun e w1 ⟨he, hw⟩ => ⟨_, he, ?_⟩
  subst hw
  have h89 := c124 hlt hc d.size 0 d.size w1 d ((Lib.bitLen ((d.size : Nat) : Int).toNat : Nat) : Int) (by omega) h (by omega) (Nat.le_refl _) (.inl rfl)
  rw [h.len] at h89
  refine h89.mono fun e w2 ⟨he, R, p, so, h2⟩ => ⟨he, rfl, R, ?_, ?_, h2⟩
  · have := p.2.2
    have e1 : d.extract 0 d.size = d := by simp
    have e2 : R.extract 0 d.size = R := by rw [← p.1]; simp
    rw [e1, e2] at this; exact this
  · rw [List.pairwise_iff_getElem]
    intro i j hi hj hij
    have hi : i < R.size := by simpa using hi
    have hj : j < R.size := by simpa using hj
    have := so i j (by omega) hij (by rw [← p.1]; exact hj)
    rw [Sd.get hi, Sd.get hj] at this
    exact this
end
end Go.Proofs.Ytoljknamnkkgcaa
