/-
  Contracts: the first order that agrees with edges, Order, awake.
-/
import Derived.Test.YtnbkihkdfhjlmaaCn
namespace Go.Proofs.Ytnbkihkdfhjlmaa
open Go Go.VC
set_option maxHeartbeats 400000

/-- The first place with a property. -/
def ixf (P : Int → Bool) : List Int → Int
  | [] => -1
  | y :: r => if P y then 0 else if ixf P r < 0 then -1 else ixf P r + 1
theorem ixf_not {P : Int → Bool} : ∀ {l : List Int}, (∀ y ∈ l, P y = false) → ixf P l = -1
  | [], _ => rfl
  | y :: r, h => by
    rw [ixf, if_neg (by simp [h y]), ixf_not fun z hz => h z (by simp [hz])]; rfl
theorem ixf_at {P : Int → Bool} : ∀ {l : List Int} {i : Nat} {x : Int}, l[i]? = some x → P x = true → (∀ y ∈ l.take i, P y = false) → ixf P l = i
  | [], _, _, h, _, _ => by cases h
  | y :: r, 0, x, h, hx, _ => by cases h; simp [ixf, hx]
  | y :: r, i + 1, x, h, hx, hn => by
    have := ixf_at (l := r) (i := i) (by simpa using h) hx fun z hz => hn z (by simp [hz])
    rw [ixf, if_neg (by rw [hn y (by simp)]; simp), this, if_neg (by omega)]; rfl
theorem ixf_some {P : Int → Bool} : ∀ {l : List Int}, (∃ y ∈ l, P y = true) → ∃ i : Nat, ixf P l = i ∧ i < l.length
  | [], h => by obtain ⟨y, hy, _⟩ := h; cases hy
  | y :: r, h => by
    by_cases e : P y = true
    · exact ⟨0, by simp [ixf, e], by simp⟩
    · obtain ⟨i, h1, h2⟩ := ixf_some (l := r) (by
        obtain ⟨z, hz, hp⟩ := h
        rcases List.mem_cons.1 hz with rfl | hz
        · exact absurd hp e
        · exact ⟨z, hz, hp⟩)
      exact ⟨i + 1, by rw [ixf, if_neg e, h1, if_neg (by omega)]; rfl, by simp; omega⟩
theorem ixf_nonneg {P : Int → Bool} {l : List Int} : decide (ixf P l ≥ 0) = l.any P := by
  by_cases h : ∃ y ∈ l, P y = true
  · obtain ⟨i, h1, _⟩ := ixf_some h
    rw [h1, List.any_eq_true.2 h]; simp
  · have : ∀ y ∈ l, P y = false := fun y hy => by
      cases hp : P y with
      | false => rfl
      | true => exact absurd ⟨y, hy, hp⟩ h
    rw [ixf_not this, List.any_eq_false.2 (fun y hy => by simp [this y hy])]; rfl

/-- slices.IndexFunc, of a function that only adds to memory. -/
theorem c72 {w : World} {s : Sl} {l : List Int} (hs : Ints w s l) (hl : l.length ≤ big) (f : Nat) (cap : List Value) (hc : callable Try.prog f = true) (Q : Int → Bool)
    (hf : ∀ x ∈ l, ∀ w', Ext w w' → Calls Try.prog f (Value.int .i64 x :: cap).toArray w' fun e w2 => e = .returned (.bool (Q x)) ∧ Ext w' w2) :
    Calls Try.prog 72 [.slice s.a s.n s.c, .func (.func f) #[] cap.toArray].toArray w fun e w' => e = .returned (.int .i64 (ixf Q l)) ∧ Ext w w' := by
  refine (call72 s f cap (R := fun v w' => v = .int .i64 (ixf Q l) ∧ Ext w w') ?_).mono fun e w' ⟨v, he, hv, hx⟩ => ⟨by rw [he, hv], hx⟩
  refine Join.dir (rangeI (fun i w2 => (∀ y ∈ l.take i, Q y = false) ∧ Ext w w2) (by rw [hs.len]; exact hl) ⟨by simp, Fr.refl _ w⟩ ?_ ?_)
  · rintro i hi w2 ⟨hn, hx⟩ K hK
    have hi : i < l.length := by rw [← hs.len]; exact hi
    obtain ⟨p, hp, h1, h2, hr⟩ := Ints.at (hs.ext hx) hi
    refine ⟨p, hp, h1, h2, _, hr, ?_⟩
    rw [hc, List.singleton_append]
    refine (hf l[i] (List.getElem_mem hi) w2 hx).mono fun e w4 ⟨he, hx4⟩ => ⟨_, he, cond_intro (fun hq => ?_) (fun hq => ?_)⟩
    · exact ⟨by rw [ixf_at (List.getElem?_eq_getElem hi) hq hn], hx.trans hx4⟩
    · refine hK _ ⟨fun y hy => ?_, hx.trans hx4⟩
      rw [List.take_succ_eq_append_getElem hi] at hy
      rcases List.mem_append.1 hy with hy | hy
      · exact hn y hy
      · rw [List.mem_singleton.1 hy]; exact hq
  · rintro w2 ⟨hn, hx⟩
    rw [hs.len, List.take_length] at hn
    exact ⟨by rw [ixf_not hn], hx⟩
theorem c47 {w : World} {s : Sl} {l : List Int} (hs : Ints w s l) (hl : l.length ≤ big) (f : Nat) (cap : List Value) (hc : callable Try.prog f = true) (Q : Int → Bool)
    (hf : ∀ x ∈ l, ∀ w', Ext w w' → Calls Try.prog f (Value.int .i64 x :: cap).toArray w' fun e w2 => e = .returned (.bool (Q x)) ∧ Ext w' w2) :
    Calls Try.prog 47 [.slice s.a s.n s.c, .func (.func f) #[] cap.toArray].toArray w fun e w' => e = .returned (.bool (l.any Q)) ∧ Ext w w' := by
  refine (call47 s f cap (R := fun v w' => v = .bool (l.any Q) ∧ Ext w w') ?_).mono fun e w' ⟨v, he, hv, hx⟩ => ⟨by rw [he, hv], hx⟩
  exact (c72 hs hl f cap hc Q hf).mono fun e w1 ⟨he, hx⟩ => ⟨_, he, by rw [ixf_nonneg], hx⟩
theorem callable73 : callable Try.prog 73 = true := by kernel_rfl
theorem callable74 : callable Try.prog 74 = true := by kernel_rfl

theorem c74 {w : World} {E : Int → Int → Bool} {b pe pb : Nat} (hm : EdgeM w b E) (he : Blk w pe [.map (some b)] 75) {y : Int} (hb : Blk w pb [.int .i64 y] 3) (x : Int) :
    Calls Try.prog 74 [.int .i64 x, .pointer (some ⟨pe, 0, none⟩), .pointer (some ⟨pb, 0, none⟩)].toArray w fun e w' => e = .returned (.bool (E x y)) ∧ Ext w w' := by
  refine (call74 x ⟨pe, 0⟩ ⟨pb, 0⟩ (R := fun v w' => v = .bool (E x y) ∧ Ext w w') ?_).mono fun e w' ⟨v, he, hv, hx⟩ => ⟨by rw [he, hv], hx⟩
  exact ⟨_, he.cell 0, _, hb.cell 0, _, hm.look x y, rfl, Fr.refl _ _⟩
/-- No one left has to come ahead. -/
def free (E : Int → Int → Bool) (left : List Int) (b : Int) : Bool := !left.any fun a => E a b
theorem c73 {w : World} {E : Int → Int → Bool} {b pe pl : Nat} {s : Sl} {left : List Int} (hm : EdgeM w b E) (he : Blk w pe [.map (some b)] 75) (hl : Blk w pl [.slice s.a s.n s.c] 24) (hs : Ints w s left) (hb : left.length ≤ big) (x : Int) :
    Calls Try.prog 73 [.int .i64 x, .pointer (some ⟨pl, 0, none⟩), .pointer (some ⟨pe, 0, none⟩)].toArray w fun e w' => e = .returned (.bool (free E left x)) ∧ Ext w w' := by
  refine (call73 x ⟨pl, 0⟩ ⟨pe, 0⟩ (R := fun v w' => v = .bool (free E left x) ∧ Ext w w') ?_).mono fun e w' ⟨v, he, hv, hx⟩ => ⟨by rw [he, hv], hx⟩
  refine Let.intro fun w1 e1 => ?_
  have hx1 : Ext w w1 := by rw [e1]; exact Ext.alloc ..
  have hb1 : Blk w1 w.heap.size [.int .i64 x] 3 := by rw [e1]; exact Blk.alloc ..
  refine ⟨s, (hl.ext hx1).cell 0, (c47 (hs.ext hx1) hb 74 [.pointer (some ⟨pe, 0, none⟩), .pointer (some ⟨w.heap.size, 0, none⟩)] callable74 (fun a => E a x) fun a _ w' hx' => c74 ((hm.ext hx1).ext hx') ((he.ext hx1).ext hx') (hb1.ext hx') a).mono fun e w2 ⟨he, hx2⟩ => ⟨_, he, rfl, hx1.trans hx2⟩⟩

theorem c75 {B : Nat} {w : World} {s : Sl} {l : List Int} (ho : Own 3 1 eI B w s l) {i : Nat} (hi : i < l.length) (hl : l.length ≤ 1000000) :
    Calls Try.prog 75 [.slice s.a s.n s.c, .int .i64 i, .int .i64 (IntKind.wrap .i64 ((i : Int) + 1))].toArray w fun e w' => ∃ s' : Sl, e = .returned (.slice s'.a s'.n s'.c) ∧ s'.a = s.a ∧ Own 3 1 eI B w' s' (l.eraseIdx i) ∧ Fr (Bl s) w w' := by
  have hwr : IntKind.wrap .i64 ((i : Int) + 1) = ((i + 1 : Nat) : Int) := by rw [wrap64 (by omega) (by omega)]; rfl
  rw [hwr]
  refine (call75 s i ((i + 1 : Nat) : Int) (R := fun v w' => ∃ s' : Sl, v = (.slice s'.a s'.n s'.c) ∧ s'.a = s.a ∧ Own 3 1 eI B w' s' (l.eraseIdx i) ∧ Fr (Bl s) w w') ?_).mono fun e w' ⟨v, he, s', hv, hx⟩ => ⟨s', by rw [he, hv], hx⟩
  have hn := ho.1
  have hcap := ho.sli.cap
  refine ⟨by omega, by omega, by omega, by omega, by omega, by omega, cond_intro (fun hc => ?_) (fun _ => ?_)⟩
  · have : (i : Int) = ((i + 1 : Nat) : Int) := by simpa using hc
    omega
  refine Let.intro fun w1 e1 => ?_
  have hx1 : Ext w w1 := by rw [e1]; exact Ext.drew _
  obtain ⟨s2, w2, happ, ha, hn2, hc2, w3, hclr, ho3, hf3⟩ := delete_run E24 (fun w => Try.zeroValue3 w) (ho.ext hx1) hi 24 0
  refine ⟨by omega, by omega, by omega, by omega, s2, w2, happ, by omega, by omega, by omega, by omega, w3, hclr, s2, rfl, ha, ho3, Ext.fr hx1 hf3⟩

/-- The first order that agrees with edges. -/
def srt (E : Int → Int → Bool) : Nat → List Int → Option (List Int)
  | 0, _ => some []
  | n + 1, left => if ixf (free E left) left < 0 then none else (srt E n (left.eraseIdx (ixf (free E left) left).toNat)).map (left.getD (ixf (free E left) left).toNat 0 :: ·)
theorem zc24' : (zc Try.prog 24).size = 1 := zc24
theorem c44 {w : World} {E : Int → Int → Bool} {b : Nat} {s : Sl} {l : List Int} (hm : EdgeM w b E) (hs : Ints w s l) (hl : l.length ≤ 6) :
    Calls Try.prog 44 [.map (some b), .slice s.a s.n s.c].toArray w fun e w' => ∃ (s' : Sl) (x : Bool), e = .returned (.tuple [.slice s'.a s'.n s'.c, .bool x].toArray) ∧ x = (srt E l.length l).isSome ∧ Ints w' s' ((srt E l.length l).getD []) ∧ Ext w w' := by
  refine (call44 (some b) s (R := fun v w' => ∃ (s' : Sl) (x : Bool), v = (.tuple [.slice s'.a s'.n s'.c, .bool x].toArray) ∧ x = (srt E l.length l).isSome ∧ Ints w' s' ((srt E l.length l).getD []) ∧ Ext w w') ?_).mono fun e w' ⟨v, he, s', x, hv, hx⟩ => ⟨s', x, by rw [he, hv], hx⟩
  refine Let.intro fun w1 e1 => ?_
  have hx1 : Ext w w1 := by rw [e1]; exact Ext.alloc ..
  have hb1 : Blk w1 w.heap.size [.map (some b)] 75 := by rw [e1]; exact Blk.alloc ..
  refine (c46 (hs.ext hx1) (by omega)).mono fun e w2 ⟨s10, he, ho10, hx2⟩ => ⟨s10, he, Let.intro fun w3 e3 => ?_⟩
  obtain ⟨hst, hb4, hx4⟩ := new_var w2 24 (z := zc Try.prog 24) (vs := [.slice s10.a s10.n s10.c]) zc24 (by simp [Value.oneCell'])
  rw [← e3] at hst hb4 hx4
  refine ⟨hst, Let.intro fun w4 e4 => ?_⟩
  rw [← e4] at hb4 hx4
  have n4 := hb4.lt
  have z1 := hx1.size
  have z2 := hx2.size
  have hx04 := (hx1.trans hx2).trans hx4
  have n1 := hb1.lt
  refine Join.dir (LoopV.intro (fun n (s7 : Sl) w' => ∃ (sl : Sl) (left out : List Int), n = left.length ∧ left.length ≤ 6 ∧ out.length + left.length = l.length ∧ srt E l.length l = (srt E left.length left).map (out ++ ·) ∧
      Blk w' w2.heap.size [.slice sl.a sl.n sl.c] 24 ∧ Own 3 1 eI w1.heap.size w' sl left ∧ (∀ a, sl.a = some a → a.block < w2.heap.size) ∧ Own 3 1 eI w4.heap.size w' s7 out ∧ Ext w w' ∧ EdgeM w' b E ∧ Blk w' w.heap.size [.map (some b)] 75 ∧ w4.heap.size ≤ w'.heap.size) l.length
    ⟨s10, l, [], rfl, hl, by simp, by simp, hb4, ho10.ext hx4, fun a ha => (ho10.base ha).2, Own.nil .., hx04, hm.ext hx04, hb1.ext (hx2.trans hx4), Nat.le_refl _⟩ ?_)
  rintro n s7 w6 ⟨sl, left, out, rfl, hl6, hlen, hsr, hb6, hol, hlb, hou, hx6, hm6, he6, z6⟩
  have hnl := hol.1
  refine ⟨sl, hb6.cell 0, cond_intro (fun hc => ?_) (fun hc => ?_)⟩
  · have hpos : 0 < left.length := by have : (0 : Int) < (sl.n : Int) := by simpa using hc
                                      omega
    obtain ⟨m, hm'⟩ : ∃ m, left.length = m + 1 := ⟨left.length - 1, by omega⟩
    have hbig : left.length ≤ big := by show left.length ≤ 9223372036854775807; omega
    refine Join.dir ⟨sl, hb6.cell 0, (c72 hol.sli hbig 73 [.pointer (some ⟨w2.heap.size, 0, none⟩), .pointer (some ⟨w.heap.size, 0, none⟩)] callable73 (free E left) fun x _ w' hx' => c73 (hm6.ext hx') (he6.ext hx') (hb6.ext hx') (hol.sli.ext hx') hbig x).mono fun e w8 ⟨he, hx8⟩ => ⟨_, he, ?_⟩⟩
    rw [hm'] at hsr
    refine cond_intro (fun hneg => ?_) (fun hneg => ?_)
    · have hneg : ixf (free E left) left < 0 := by simpa using hneg
      rw [srt, if_pos hneg] at hsr
      rw [hsr]
      exact ⟨⟨none, 0, 0⟩, false, rfl, rfl, Sli.nil .., hx6.trans hx8⟩
    · have hneg : ¬ ixf (free E left) left < 0 := by simpa using hneg
      rw [srt, if_neg hneg] at hsr
      obtain ⟨k, hk, hkl⟩ : ∃ k : Nat, ixf (free E left) left = k ∧ k < left.length := by
        apply ixf_some
        have h1 : decide (ixf (free E left) left ≥ 0) = true := by simp; omega
        rw [ixf_nonneg, List.any_eq_true] at h1
        exact h1
      rw [hk] at hsr ⊢
      have hb8 := hb6.ext hx8
      have hol8 := hol.ext hx8
      have hou8 := hou.ext hx8
      obtain ⟨q, hq, h1, h2, hr⟩ := Ints.at hol8.sli hkl
      have z8 := hx8.size
      obtain ⟨s24, w9, e9, s25, w10, e10, ho10', hf10⟩ := appendInt hou8 left[k] (by omega) (by omega)
      have hnb : ∀ i, i < w4.heap.size → ¬ Bl s7 i := fun i hi ⟨a, ha, hb⟩ => by have := (hou.base ha).1; omega
      have hb10 := hb8.fr hf10 (hnb _ n4)
      have hol10 := hol8.fr hf10 fun a ha => hnb _ (by have := hlb a ha; omega)
      have hx10 : Ext w w10 := (hx6.trans hx8).newer hf10 fun i hi => by
        rcases Nat.lt_or_ge i w4.heap.size with h | h
        · exact absurd hi (hnb i h)
        · have := hx04.size; omega
      refine ⟨sl, hb8.cell 0, q, hq, h1, h2, _, hr, s24, w9, e9, s25, w10, e10, sl, hb10.cell 0, ?_⟩
      refine (c75 hol10 hkl (by omega)).mono fun e w11 ⟨s30, he, ha30, ho30, hf11⟩ => ⟨s30, he, ?_⟩
      have hlo : ∀ i, Bl sl i → w1.heap.size ≤ i ∧ i < w2.heap.size := fun i ⟨a, ha, hb⟩ => by have := (hol.base ha).1; have := hlb a ha; omega
      have hb11 := hb10.fr hf11 fun h => by have := (hlo _ h).2; omega
      have hou11 := ho10'.fr hf11 fun a ha h => by have := (hlo _ h).2; have := (ho10'.base ha).1; omega
      have he11 := ((he6.ext hx8).fr hf10 (hnb _ (by omega))).fr hf11 fun h => by have := (hlo _ h).1; omega
      have hx11 : Ext w w11 := hx10.newer hf11 fun i hi => by have := (hlo _ hi).1; omega
      refine ⟨hb11.storeOk rfl (by simp [Value.oneCell']) (by simp), Let.intro fun w12 e12 => ?_⟩
      have hf12 : Fr (fun i => i = w2.heap.size) w11 w12 := by rw [e12]; exact Fr.put ..
      have hb12 := hb11.put (o := 0) (vs := [.slice s30.a s30.n s30.c])
      rw [← e12] at hb12
      have hx12 : Ext w w12 := hx11.newer hf12 fun i hi => by omega
      have hel : (left.eraseIdx k).length = m := by rw [List.length_eraseIdx, if_pos hkl]; omega
      refine ⟨m, by omega, s30, left.eraseIdx k, out ++ [left[k]], hel.symm, by omega, by simp; omega, ?_, hb12, ho30.fr hf12 fun a ha h => by rw [ha30] at ha; have := hlb a ha; omega, fun a ha => by rw [ha30] at ha; exact hlb a ha, hou11.fr hf12 fun a ha h => by have := (hou11.base ha).1; omega, hx12, hm.ext hx12, he11.fr hf12 (by omega), by have := hf10.size; have := hf11.size; have := hf12.size; omega⟩
      rw [hsr, hel, Option.map_map]
      have hgd : left.getD (Int.toNat (k : Int)) 0 = left[k] := by simp [List.getD, hkl]
      rw [hgd, Int.toNat_natCast]
      cases srt E m (left.eraseIdx k) with
      | none => rfl
      | some r => simp
  · have hl0 : left = [] := by
      have : ¬ (0 : Int) < (sl.n : Int) := by simpa using hc
      exact List.eq_nil_of_length_eq_zero (by omega)
    subst hl0
    simp only [List.length_nil, srt, Option.map_some, List.append_nil] at hsr
    rw [hsr]
    exact ⟨s7, true, rfl, rfl, hou.sli, hx6⟩

/-- What Order returns of a valid history. -/
def progO (h : List Ev) : Option (List Int) := srt (conf (part h)) (com h).length (com h)
theorem c17 {w : World} {s : Sl} {h : List Ev} (hs : Hs w s h) (hl : h.length ≤ 100) :
    Calls Try.prog 17 [.slice s.a s.n s.c].toArray w fun e w' => ∃ (s' : Sl) (x : Int), e = .returned (.tuple [.slice s'.a s'.n s'.c, .int .i64 x].toArray) ∧
      ((¬ Valid h ∧ s'.n = 0 ∧ x = 2) ∨ (Valid h ∧ Ints w' s' ((progO h).getD []) ∧ x = if (progO h).isSome then 0 else 8)) ∧ Ext w w' := by
  refine (call17 s (R := fun v w' => ∃ (s' : Sl) (x : Int), v = (.tuple [.slice s'.a s'.n s'.c, .int .i64 x].toArray) ∧
      ((¬ Valid h ∧ s'.n = 0 ∧ x = 2) ∨ (Valid h ∧ Ints w' s' ((progO h).getD []) ∧ x = if (progO h).isSome then 0 else 8)) ∧ Ext w w') ?_).mono fun e w' ⟨v, he, s', x, hv, hx⟩ => ⟨s', x, by rw [he, hv], hx⟩
  have hbig : h.length ≤ big := by show h.length ≤ 9223372036854775807; omega
  refine (c26 hs hbig).mono fun e w1 ⟨he, hx1⟩ => ⟨_, he, cond_intro (fun hc => ?_) (fun hc => ?_)⟩
  · have hc : ¬ Valid h := by simpa using hc
    exact ⟨⟨none, 0, 0⟩, 2, rfl, .inl ⟨hc, rfl, rfl⟩, hx1⟩
  have hval : Valid h := by simpa using hc
  refine (c34 (hs.ext hx1) (by omega)).mono fun e w2 ⟨s11, he, ho11, hx2⟩ => ⟨s11, he, ?_⟩
  have hlp : (part h).length ≤ 100 := Nat.le_trans (List.length_filter_le ..) hl
  refine (c43 ho11.sli (by omega)).mono fun e w3 ⟨he, hm, hx3⟩ => ⟨_, he, ?_⟩
  refine (c36 (((hs.ext hx1).ext hx2).ext hx3) hbig).mono fun e w4 ⟨s14, he, ho14, hx4⟩ => ⟨s14, he, ?_⟩
  refine (c44 (hm.ext hx4) ho14.sli (com_len h)).mono fun e w5 ⟨s15, x, he, hx, hi, hx5⟩ => ⟨s15, x, he, ?_⟩
  have hx05 := (((hx1.trans hx2).trans hx3).trans hx4).trans hx5
  subst hx
  have hi : Ints w5 s15 ((progO h).getD []) := hi
  show cond (!(progO h).isSome) _ _
  cases hp : progO h with
  | none => exact ⟨⟨none, 0, 0⟩, 8, rfl, .inr ⟨hval, Sli.nil .., rfl⟩, hx05⟩
  | some r => rw [hp] at hi; exact ⟨s15, 0, rfl, .inr ⟨hval, hi, rfl⟩, hx05⟩

def hA : List Ev := [⟨2, 1, 0⟩, ⟨1, 0, 0⟩, ⟨1, 2, 0⟩, ⟨2, 2, 0⟩]
theorem c14 (w : World) : Calls Try.prog 14 [].toArray w fun e w' => e = .returned (.bool true) ∧ Ext w w' := by
  refine (call14 (R := fun v w' => v = .bool true ∧ Ext w w') ?_).mono fun e w' ⟨v, he, hv, hx⟩ => ⟨by rw [he, hv], hx⟩
  have h1 := buildList_run E29 (val := fun o : Ev => .agg [.int .i64 o.t, .int .i64 o.k, .int .i64 o.i].toArray) eO_len (fun _ => rfl) hA (by simp [hA]) (by simp [hA]) w
  have hs := sli_new (size := 3) (enc := eO) w hA 38
  have hx1 := Ext.alloc w (.cells (hA.flatMap eO).toArray 38)
  refine ⟨⟨some ⟨w.heap.size, 0, none⟩, 4, 4⟩, _, h1, ?_⟩
  refine (c17 (h := hA) hs (by decide)).mono fun e w2 ⟨s9, x, he, hcase, hx2⟩ => ⟨s9, x, he, ?_⟩
  have hv : Valid hA := by decide
  have hp : progO hA = some [2, 1] := by decide
  rcases hcase with ⟨h, _⟩ | ⟨_, hi, hxx⟩
  · exact absurd hv h
  rw [hp] at hi hxx
  have hxx : x = 0 := hxx
  subst hxx
  refine Join.dir ?_
  have h2 := buildList_run E24 (val := fun o : Int => .int .i64 o) eI_len (fun _ => rfl) [2, 1] (by simp) (by simp) w2
  have hs2 := sli_new (size := 1) (enc := eI) w2 [2, 1] 3
  have hx3 := Ext.alloc w2 (.cells (([2, 1] : List Int).flatMap eI).toArray 3)
  refine ⟨⟨some ⟨w2.heap.size, 0, none⟩, 2, 2⟩, _, h2, ?_⟩
  refine (c16 (hi.ext hx3) hs2 (by decide)).mono fun e w5 ⟨he, hx5⟩ => ⟨_, he, ?_, ((hx1.trans hx2).trans hx3).trans hx5⟩
  rfl
end Go.Proofs.Ytnbkihkdfhjlmaa
