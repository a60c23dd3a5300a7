/-
  Texts Cb, Cc, Cd, Ce, Cf, Cg, Ch, Ci, Cj of this proof, joined.
-/
import Derived.Test.YtoljknamnkkgcaaXr4
/-
  Contracts: comparing facts, facts and keys, the smallest and the greatest number.
-/
namespace Go.Proofs.Ytoljknamnkkgcaa
open Go Go.VC
set_option maxHeartbeats 1000000
set_option maxRecDepth 100000

theorem E34 : Elem Try.prog 34 3 1 8 := Elem.of (by kernel_rfl) (by kernel_rfl) (by decide)
theorem eI_one (n : Int) : ∀ v ∈ eI n, v.oneCell' = true := by intro v hv; simp [eI] at hv; subst hv; rfl
def cmpI (x y : Int) : Int := if x < y then -1 else if x > y then 1 else 0
def cmpL : List Int → List Int → Int
  | [], [] => 0
  | [], _ :: _ => -1
  | _ :: _, [] => 1
  | a :: r, b :: s => if cmpI a b ≠ 0 then cmpI a b else cmpL r s
theorem cmpI_cases (x y : Int) : (cmpI x y = -1 ∧ x < y) ∨ (cmpI x y = 0 ∧ x = y) ∨ (cmpI x y = 1 ∧ y < x) := by
  unfold cmpI
  split
  · exact .inl ⟨rfl, by assumption⟩
  · split
    · exact .inr (.inr ⟨rfl, by assumption⟩)
    · exact .inr (.inl ⟨rfl, by omega⟩)
theorem cmpI_swap (x y : Int) : cmpI y x = - cmpI x y := by
  rcases cmpI_cases x y with ⟨h, g⟩ | ⟨h, g⟩ | ⟨h, g⟩ <;> rcases cmpI_cases y x with ⟨h', g'⟩ | ⟨h', g'⟩ | ⟨h', g'⟩ <;> omega
theorem cmpL_swap : ∀ a b : List Int, cmpL b a = - cmpL a b
  | [], [] => rfl
  | [], _ :: _ => rfl
  | _ :: _, [] => rfl
  | a :: r, b :: s => by
    rw [cmpL, cmpL, cmpI_swap a b, cmpL_swap r s]
    by_cases h : cmpI a b = 0
    · simp [h]
    · rw [if_pos (by omega), if_pos h]
theorem cmpL_refl : ∀ a : List Int, cmpL a a = 0
  | [] => rfl
  | a :: r => by rw [cmpL, if_neg (by simp [cmpI]), cmpL_refl r]
theorem cmpL_zero : ∀ {a b : List Int}, cmpL a b = 0 → a = b
  | [], [], _ => rfl
  | [], _ :: _, h => by cases h
  | _ :: _, [], h => by cases h
  | a :: r, b :: s, h => by
    rw [cmpL] at h
    split at h
    · exact absurd h (by assumption)
    · rename_i h0
      rcases cmpI_cases a b with ⟨h', g⟩ | ⟨h', g⟩ | ⟨h', g⟩
      · omega
      · rw [g, cmpL_zero h]
      · omega
theorem cmpL_trans : ∀ {a b c : List Int}, cmpL a b < 0 → cmpL b c < 0 → cmpL a c < 0
  | [], [], _, h, _ => by simp [cmpL] at h
  | [], _ :: _, [], _, h => by simp [cmpL] at h
  | [], _ :: _, _ :: _, _, _ => by simp [cmpL]
  | _ :: _, [], _, h, _ => by simp [cmpL] at h
  | _ :: _, _ :: _, [], _, h => by simp [cmpL] at h
  | a :: r, b :: s, c :: t, h1, h2 => by
    rw [cmpL] at h1 h2 ⊢
    rcases cmpI_cases a b with ⟨e1, g1⟩ | ⟨e1, g1⟩ | ⟨e1, g1⟩ <;> rcases cmpI_cases b c with ⟨e2, g2⟩ | ⟨e2, g2⟩ | ⟨e2, g2⟩ <;> rcases cmpI_cases a c with ⟨e3, g3⟩ | ⟨e3, g3⟩ | ⟨e3, g3⟩ <;> simp [e1, e2, e3] at h1 h2 ⊢ <;> first | omega | exact cmpL_trans h1 h2
def Fa.key (f : Fa) : List Int := f.rel :: f.args
theorem Fa.key_inj {a b : Fa} (h : a.key = b.key) : a = b := by
  cases a; cases b; simp [Fa.key] at h; simp [h]
def ltF (x y : DF) : Bool := decide (cmpL x.p.key y.p.key < 0)
theorem ltF_swo : Sort.SWO ltF where
  irrefl := fun x => by simp [ltF, cmpL_refl]
  trans := fun x y z h1 h2 => by simp [ltF] at h1 h2 ⊢; exact cmpL_trans h1 h2
  ntrans := fun x y z h1 h2 => by
    simp only [ltF, decide_eq_false_iff_not] at h1 h2 ⊢
    intro h3
    have s1 := cmpL_swap x.p.key y.p.key
    have s2 := cmpL_swap y.p.key z.p.key
    rcases Int.lt_trichotomy (cmpL x.p.key y.p.key) 0 with h | h | h
    · exact h1 h
    · rw [cmpL_zero h] at h3; exact h2 h3
    · have h4 : cmpL y.p.key x.p.key < 0 := by omega
      exact h2 (cmpL_trans h4 h3)
theorem c111 (x y : Int) (w : World) : Calls Try.prog 111 [.int .i64 x, .int .i64 y].toArray w fun e w' => e = .returned (.int .i64 (cmpI x y)) ∧ w' = w := by
  have c126 : ∀ (x : Int) (w : World), Calls Try.prog 126 [.int .i64 x].toArray w fun e w' => e = .returned (.bool false) ∧ w' = w := fun x w => by
    refine (call126 x (R := fun v w' => v = .bool false ∧ w' = w) ?_).mono fun e w' ⟨v, he, hv, hx⟩ => ⟨by rw [he, hv], hx⟩
    exact ⟨by simp, rfl⟩
  refine (call111 x y (R := fun v w' => v = .int .i64 (cmpI x y) ∧ w' = w) ?_).mono fun e w' ⟨v, he, hv, hx⟩ => ⟨by rw [he, hv], hx⟩
  refine (c126 x w).mono fun e w1 ⟨he, h1⟩ => ⟨_, he, (c126 y w1).mono fun e w2 ⟨he, h2⟩ => ⟨_, he, ?_⟩⟩
  subst h1
  subst h2
  refine cond_intro (fun h => by cases h) (fun _ => cond_intro (fun h => by cases h) (fun _ => cond_intro (fun h => ⟨?_, rfl⟩) (fun h => cond_intro (fun h' => ⟨?_, rfl⟩) (fun h' => ⟨?_, rfl⟩))))
  · have h : x < y := by simpa using h
    rw [cmpI, if_pos h]
  · have h : ¬ x < y := by simpa using h
    have h' : x > y := by simpa using h'
    rw [cmpI, if_neg h, if_pos h']
  · have h : ¬ x < y := by simpa using h
    have h' : ¬ x > y := by simpa using h'
    rw [cmpI, if_neg h, if_neg h']
theorem cmpL_take : ∀ {l l' : List Int} {i : Nat}, l.take i = l'.take i → i ≤ l.length → i ≤ l'.length → cmpL l l' = cmpL (l.drop i) (l'.drop i)
  | _, _, 0, _, _, _ => by simp
  | [], _, i + 1, _, h, _ => by simp at h
  | _ :: _, [], i + 1, _, _, h => by simp at h
  | a :: r, b :: s, i + 1, h, h1, h2 => by
    simp only [List.take_succ_cons, List.cons.injEq] at h
    obtain ⟨rfl, h⟩ := h
    have := cmpL_take (l := r) (l' := s) h (by simpa using h1) (by simpa using h2)
    simp only [List.drop_succ_cons]
    rw [← this, cmpL, if_neg (by simp [cmpI])]
theorem c112 {w : World} {s s' : Sl} {l l' : List Int} (hs : Ints w s l) (hs' : Ints w s' l') (hl : l.length ≤ big) :
    Calls Try.prog 112 [.slice s.a s.n s.c, .slice s'.a s'.n s'.c].toArray w fun e w' => e = .returned (.int .i64 (cmpL l l')) ∧ Ext w w' := by
  refine (call112 s s' (R := fun v w' => v = .int .i64 (cmpL l l') ∧ Ext w w') ?_).mono fun e w' ⟨v, he, hv, hx⟩ => ⟨by rw [he, hv], hx⟩
  have h1 := hs.len
  have h2 := hs'.len
  refine Join.dir (rangeI (fun i w2 => l.take i = l'.take i ∧ i ≤ l'.length ∧ Ext w w2) (by rw [h1]; exact hl) ⟨by simp, by omega, Fr.refl _ w⟩ ?_ ?_)
  · rintro i hi w2 ⟨hn, hil, hx⟩ K hK
    have hi : i < l.length := by omega
    obtain ⟨p, hp, a1, a2, hr⟩ := Ints.at (hs.ext hx) hi
    have hd : l.drop i = l[i] :: l.drop (i + 1) := List.drop_eq_getElem_cons hi
    refine ⟨p, hp, a1, a2, _, hr, cond_intro (fun hc => ?_) (fun hc => ?_)⟩
    · have hc : l'.length ≤ i := by simp at hc; omega
      refine ⟨?_, hx⟩
      rw [cmpL_take hn (by omega) hil, hd, List.drop_eq_nil_of_le hc]; rfl
    · have hi' : i < l'.length := by simp at hc; omega
      have hd' : l'.drop i = l'[i] :: l'.drop (i + 1) := List.drop_eq_getElem_cons hi'
      obtain ⟨p', hp', b1, b2, hr'⟩ := Ints.at (hs'.ext hx) hi'
      refine ⟨p', hp', b1, b2, _, hr', (c111 _ _ w2).mono fun e w4 ⟨he, hw⟩ => ⟨_, he, ?_⟩⟩
      subst hw
      refine cond_intro (fun hc => ?_) (fun hc => ?_)
      · have hc : cmpI l[i] l'[i] ≠ 0 := by simpa using hc
        refine ⟨?_, hx⟩
        rw [cmpL_take hn (by omega) hil, hd, hd', cmpL, if_pos hc]
      · have hc : cmpI l[i] l'[i] = 0 := by simpa using hc
        have he : l[i] = l'[i] := by unfold cmpI at hc; split at hc <;> first | omega | (split at hc <;> omega)
        exact hK _ ⟨by rw [List.take_succ_eq_append_getElem hi, List.take_succ_eq_append_getElem hi', hn, he], by omega, hx⟩
  · rintro w2 ⟨hn, hil, hx⟩
    rw [h1] at hn hil
    have hc := cmpL_take hn (Nat.le_refl _) hil
    rw [List.drop_length] at hc
    refine cond_intro (fun h => ⟨?_, hx⟩) (fun h => ⟨?_, hx⟩)
    · have hlt : l.length < l'.length := by simp [h1, h2] at h; omega
      have hd' : l'.drop l.length = l'[l.length] :: l'.drop (l.length + 1) := List.drop_eq_getElem_cons hlt
      rw [hc, hd']; rfl
    · have hge : l'.length ≤ l.length := by simp [h1, h2] at h; omega
      rw [hc, List.drop_eq_nil_of_le hge]; rfl
/-- cmp.Or of two ints -/
theorem c110 {w : World} {s : Sl} {x y : Int} (hs : Ints w s [x, y]) :
    Calls Try.prog 110 [.slice s.a s.n s.c].toArray w fun e w' => e = .returned (.int .i64 (if x ≠ 0 then x else y)) ∧ Ext w w' := by
  refine (call110 s (R := fun v w' => v = .int .i64 (if x ≠ 0 then x else y) ∧ Ext w w') ?_).mono fun e w' ⟨v, he, hv, hx⟩ => ⟨by rw [he, hv], hx⟩
  have hn : s.n = 2 := hs.len
  refine Join.dir (rangeI (fun i w2 => (∀ z ∈ [x, y].take i, z = 0) ∧ Ext w w2) (by rw [hn]; decide) ⟨by simp, Fr.refl _ w⟩ ?_ ?_)
  · rintro i hi w2 ⟨hz, hx⟩ K hK
    have hi : i < [x, y].length := by simp; omega
    obtain ⟨p, hp, a1, a2, hr⟩ := Ints.at (hs.ext hx) hi
    refine ⟨p, hp, a1, a2, _, hr, cond_intro (fun hc => ?_) (fun hc => ?_)⟩
    · have hc : [x, y][i] ≠ 0 := by simpa using hc
      refine ⟨?_, hx⟩
      rcases i with _ | _ | i
      · simp at hc ⊢; simp [hc]
      · have h0 : x = 0 := hz x (by simp)
        simp [h0]
      · simp at hi; omega
    · have hc : [x, y][i] = 0 := by simpa using hc
      refine hK _ ⟨fun z hz' => ?_, hx⟩
      rw [List.take_succ_eq_append_getElem hi] at hz'
      rcases List.mem_append.1 hz' with h | h
      · exact hz z h
      · simp only [List.mem_singleton] at h; rw [h]; exact hc
  · rintro w2 ⟨hz, hx⟩
    rw [hn] at hz
    refine ⟨?_, hx⟩
    have h1 := hz x (by simp)
    have h2 := hz y (by simp)
    simp [h1, h2]
theorem eF_cells (w : World) (x : DF) (T : TypeId) : Blk (w.alloc (.cells (eF x).toArray T)) w.heap.size (eF x) T ∧ Ext w (w.alloc (.cells (eF x).toArray T)) := ⟨Blk.alloc w _ T, Ext.alloc ..⟩
/-- The comparison of two facts. -/
theorem c109 {w : World} {x y : DF} (hx : Ints w x.sl x.args) (hy : Ints w y.sl y.args) (hl : x.args.length ≤ big) :
    Calls Try.prog 109 [.agg (eF x).toArray, .agg (eF y).toArray].toArray w fun e w' => e = .returned (.int .i64 (cmpL x.p.key y.p.key)) ∧ Ext w w' := by
  refine (call109 x.rel x.sl y.rel y.sl (R := fun v w' => v = .int .i64 (cmpL x.p.key y.p.key) ∧ Ext w w') ?_).mono fun e w' ⟨v, he, hv, hx⟩ => ⟨by rw [he, hv], hx⟩
  obtain ⟨b1, x1⟩ := eF_cells w x 36
  refine Let.intro fun w1 e1 => ?_
  have e1 : w1 = w.alloc (.cells (eF x).toArray 36) := e1
  rw [← e1] at b1 x1
  obtain ⟨b2, x2⟩ := eF_cells w1 y 36
  refine Let.intro fun w2 e2 => ?_
  have e2 : w2 = w1.alloc (.cells (eF y).toArray 36) := e2
  rw [← e2] at b2 x2
  have b1 := b1.ext x2
  refine ⟨fun u => Ext w2 u, Ext.drew _, Let.intro fun w3 e3 => ?_⟩
  have x3 : Ext w2 w3 := by rw [e3]; exact Ext.drew _
  refine ⟨x.rel, fun u hu => (b1.ext hu).cell 0, y.rel, fun u hu => (b2.ext hu).cell 0, x.sl, fun u hu => (b1.ext hu).cell 1, y.sl, fun u hu => (b2.ext hu).cell 1, ?_⟩
  refine (c111 x.rel y.rel w3).mono fun e w4 ⟨he, hw⟩ => ⟨_, he, by rw [hw]; exact x3, ?_⟩
  subst hw
  have x14 := (x1.trans x2).trans x3
  refine (c112 (hx.ext x14) (hy.ext x14) hl).mono fun e w5 ⟨he, x5⟩ => ⟨_, he, x3.trans x5, ?_⟩
  have hb := buildList_run E34 (enc := eI) (val := Value.int .i64) eI_len (fun _ => rfl) [cmpI x.rel y.rel, cmpL x.args y.args] (by simp) (by simp) w5
  have hs := sli_new (size := 1) (enc := eI) w5 [cmpI x.rel y.rel, cmpL x.args y.args] 3
  have x6 := Ext.alloc w5 (.cells (([cmpI x.rel y.rel, cmpL x.args y.args] : List Int).flatMap eI).toArray 3)
  refine ⟨⟨some ⟨w5.heap.size, 0, none⟩, 2, 2⟩, _, hb, (x3.trans x5).trans x6, ?_⟩
  refine (c110 hs).mono fun e w7 ⟨he, x7⟩ => ⟨_, he, ((x3.trans x5).trans x6).trans x7, ?_, ((x14.trans x5).trans x6).trans x7⟩
  rfl
theorem callable109 : callable Try.prog 109 = true := by kernel_rfl
/-- Facts sorted: what SortFunc does with them. -/
theorem cf109 (w0 : World) (s : Sl) : CfT (fun x => Ints w0 x.sl x.args ∧ x.args.length ≤ big ∧ ∀ a, x.sl.a = some a → ¬ BlS s a.block) w0 s 109 [] ltF where
  ca := callable109
  run := fun w x y hf ⟨hx, hl, hn⟩ ⟨hy, hl', hn'⟩ => by
    have h1 : Ints w x.sl x.args := Sli.fr hx hf hn
    have h2 : Ints w y.sl y.args := Sli.fr hy hf hn'
    exact (c109 h1 h2 hl).mono fun e w' ⟨he, hx⟩ => ⟨_, he, rfl, hx⟩

/-! ### keys -/
/-- A fact as the key of a map. -/
structure Ky where
  rel : Int
  a : Int
  b : Int
deriving DecidableEq
def Ky.l (k : Ky) : List Int := [k.rel, k.a, k.b]
def kK (k : Ky) : Value := ints k.l
def Ky.f (k : Ky) : Fa := ⟨k.rel, if k.b = 0 then [k.a] else [k.a, k.b]⟩
def Fa.k (f : Fa) : Ky := ⟨f.rel, f.args.getD 0 0, f.args.getD 1 0⟩
theorem S121 : IntStr Try.prog 121 3 := ⟨by kernel_rfl, by kernel_rfl, by kernel_rfl, by kernel_rfl, by kernel_rfl⟩
theorem K121 : KeyOk Try.prog 121 kK := KeyOk.str S121 (fun k h => by
  have : Try.prog.underlying 121 = some (.struct (Try.prog.fieldsOf 121)) := S121.st
  rw [this] at h; cases h) Ky.l (fun a b h => by cases a; cases b; simp [Ky.l] at h; simp [h]) (fun _ => rfl)
theorem u105 : Try.prog.underlying 105 = some (.map 121 4) := by kernel_rfl
theorem zero4 : ∀ w, (zeroValue 4).run Try.prog w = .ok (.bool false) w := fun w => by
  have h : (Try.prog.info? 4).map (fun i => i.zero) = some (some (.bool false)) := by kernel_rfl
  cases hi : Try.prog.info? 4 with
  | none => rw [hi] at h; cases h
  | some i =>
    rw [hi] at h
    have hz : i.zero = some (.bool false) := by simpa using h
    simp [zeroValue, typeInfo, hi, hz]
abbrev FM (w : World) (b : Nat) (S : Ky → Prop) : Prop := SetM kK w b S
def eK (k : Ky) : List Value := [.int .i64 k.rel, .int .i64 k.a, .int .i64 k.b]
theorem eK_len (k : Ky) : (eK k).length = 3 := rfl
theorem eK_one (k : Ky) : ∀ v ∈ eK k, v.oneCell' = true := by intro v hv; simp [eK] at hv; rcases hv with rfl | rfl | rfl <;> rfl
theorem zc36 : (zc Try.prog 36).size = 2 := by kernel_rfl
theorem zc121 : (zc Try.prog 121).size = 3 := by kernel_rfl
theorem zc121l : (zc Try.prog 121).toList = eK ⟨0, 0, 0⟩ := by kernel_rfl
/-- A key as a fact. -/
theorem c107 (k : Ky) (w : World) :
    Calls Try.prog 107 [.agg [.int .i64 k.rel, .int .i64 k.a, .int .i64 k.b].toArray].toArray w fun e w' => ∃ x : DF, e = .returned (.agg [.int .i64 x.rel, .slice x.sl.a x.sl.n x.sl.c].toArray) ∧ x.p = k.f ∧ Ints w' x.sl x.args ∧ (∀ a, x.sl.a = some a → w.heap.size ≤ a.block ∧ ∃ cur, Blk w' a.block cur 3) ∧ Ext w w' := by
  refine (call107 k.rel k.a k.b (R := fun v w' => ∃ x : DF, v = (.agg [.int .i64 x.rel, .slice x.sl.a x.sl.n x.sl.c].toArray) ∧ x.p = k.f ∧ Ints w' x.sl x.args ∧ (∀ a, x.sl.a = some a → w.heap.size ≤ a.block ∧ ∃ cur, Blk w' a.block cur 3) ∧ Ext w w') ?_).mono fun e w' ⟨v, he, x, hv, hx⟩ => ⟨x, by rw [he, hv], hx⟩
  refine Let.intro fun w1 e1 => ?_
  have b1 : Blk w1 w.heap.size (eK k) 121 := by rw [e1]; exact Blk.alloc w (eK k) 121
  have x1 : Ext w w1 := by rw [e1]; exact Ext.alloc ..
  refine Let.intro fun w2 e2 => ?_
  have b2 : Blk w2 w1.heap.size (zc Try.prog 36).toList 36 := by rw [e2]; simpa using Blk.alloc w1 (zc Try.prog 36).toList 36
  have x2 : Ext w1 w2 := by rw [e2]; exact Ext.alloc ..
  have b1 := b1.ext x2
  have z1 := x1.size
  have z2 := x2.size
  have l2 := b2.lt
  -- what both ways do
  have hfin : ∀ (args : List Int), args ≠ [] → args.length ≤ 2 → args = (if k.b = 0 then [k.a] else [k.a, k.b]) →
      ∀ w3, w3 = w2.alloc (.cells (args.flatMap eI).toArray 3) → StoreOk w3 w1.heap.size 0 [.int .i64 k.rel, .slice (some ⟨w2.heap.size, 0, none⟩) args.length args.length] 2 ∧
        ∀ w4, w4 = put w3 w1.heap.size 0 [.int .i64 k.rel, .slice (some ⟨w2.heap.size, 0, none⟩) args.length args.length] → rd w4 w1.heap.size 0 [.int .i64 k.rel, .slice (some ⟨w2.heap.size, 0, none⟩) args.length args.length] ∧
          ∃ x : DF, Value.agg [.int .i64 k.rel, .slice (some ⟨w2.heap.size, 0, none⟩) args.length args.length].toArray = (.agg [.int .i64 x.rel, .slice x.sl.a x.sl.n x.sl.c].toArray) ∧ x.p = k.f ∧ Ints w4 x.sl x.args ∧ (∀ a, x.sl.a = some a → w.heap.size ≤ a.block ∧ ∃ cur, Blk w4 a.block cur 3) ∧ Ext w w4 := by
    intro args hne hl he w3 e3
    have hb3 : Blk w3 w2.heap.size (args.flatMap eI) 3 := by rw [e3]; exact Blk.alloc w2 _ 3
    have hs3 : Ints w3 ⟨some ⟨w2.heap.size, 0, none⟩, args.length, args.length⟩ args := by rw [e3]; exact sli_new w2 args 3
    have x3 : Ext w2 w3 := by rw [e3]; exact Ext.alloc ..
    have b2' := b2.ext x3
    refine ⟨b2'.storeOk rfl (by intro v hv; simp at hv; rcases hv with rfl | rfl <;> rfl) (by have := zc36; simp [this]), fun w4 e4 => ?_⟩
    have hf : Fr (fun y => y = w1.heap.size) w3 w4 := by rw [e4]; exact Fr.put ..
    have b4 : Blk w4 w1.heap.size [.int .i64 k.rel, .slice (some ⟨w2.heap.size, 0, none⟩) args.length args.length] 36 := by
      have := b2'.put (o := 0) (vs := [.int .i64 k.rel, .slice (some ⟨w2.heap.size, 0, none⟩) args.length args.length])
      rw [show setR (zc Try.prog 36).toList 0 [.int .i64 k.rel, .slice (some ⟨w2.heap.size, 0, none⟩) args.length args.length] = [.int .i64 k.rel, .slice (some ⟨w2.heap.size, 0, none⟩) args.length args.length] from by simpa using setR_all (vs := [.int .i64 k.rel, .slice (some ⟨w2.heap.size, 0, none⟩) args.length args.length]) (l := (zc Try.prog 36).toList) (pre := []) (by have := zc36; simp [this])] at this
      rw [e4]; exact this
    have hne2 : ¬ (w2.heap.size = w1.heap.size) := by omega
    refine ⟨b4.rd, ⟨k.rel, ⟨some ⟨w2.heap.size, 0, none⟩, args.length, args.length⟩, args⟩, rfl, by simp [DF.p, Ky.f, he], Sli.fr hs3 hf (by intro a ha; cases ha; exact hne2), ?_, ?_⟩
    · intro a ha
      cases ha
      exact ⟨by show w.heap.size ≤ w2.heap.size; omega, _, hb3.fr hf hne2⟩
    · exact ((x1.trans x2).trans x3).newer hf fun y (hy : y = w1.heap.size) => by omega
  refine ⟨k.b, b1.cell 2, cond_intro (fun hc => ?_) (fun hc => ?_)⟩
  · have hc : k.b = 0 := by simpa using hc
    have hb := buildList_run E34 (enc := eI) (val := Value.int .i64) eI_len (fun _ => rfl) [k.a] (by simp) (by simp) w2
    obtain ⟨h1, h2⟩ := hfin [k.a] (by simp) (by simp) (by simp [hc]) _ rfl
    refine ⟨k.rel, b1.cell 0, k.a, b1.cell 1, ⟨some ⟨w2.heap.size, 0, none⟩, 1, 1⟩, _, hb, h1, Let.intro fun w4 e4 => ?_⟩
    obtain ⟨h3, h4⟩ := h2 w4 e4
    exact ⟨_, ⟨some ⟨w2.heap.size, 0, none⟩, 1, 1⟩, h3, h4⟩
  · have hc : k.b ≠ 0 := by simpa using hc
    have hb := buildList_run E34 (enc := eI) (val := Value.int .i64) eI_len (fun _ => rfl) [k.a, k.b] (by simp) (by simp) w2
    obtain ⟨h1, h2⟩ := hfin [k.a, k.b] (by simp) (by simp) (by simp [hc]) _ rfl
    refine ⟨k.rel, b1.cell 0, k.a, b1.cell 1, k.b, b1.cell 2, ⟨some ⟨w2.heap.size, 0, none⟩, 2, 2⟩, _, hb, h1, Let.intro fun w4 e4 => ?_⟩
    obtain ⟨h3, h4⟩ := h2 w4 e4
    exact ⟨_, ⟨some ⟨w2.heap.size, 0, none⟩, 2, 2⟩, h3, h4⟩
end Go.Proofs.Ytoljknamnkkgcaa
/-
  Contracts: the facts of a set in order; the key of a fact; given facts as a set.
-/
namespace Go.Proofs.Ytoljknamnkkgcaa
open Go Go.VC
set_option maxHeartbeats 1000000
set_option maxRecDepth 100000

theorem E23 : Elem Try.prog 23 36 2 32 := Elem.of (by kernel_rfl) (by kernel_rfl) (by decide)
/-- A slice of facts. -/
structure NF (w : World) (s : Sl) (l : List DF) : Prop where
  sl : Sli 2 eF w s l
  ok : ∀ x ∈ l, Ints w x.sl x.args
theorem NF.ext {w w' : World} {s : Sl} {l : List DF} (h : NF w s l) (x : Ext w w') : NF w' s l := ⟨h.sl.ext x, fun y hy => (h.ok y hy).ext x⟩
theorem NF.len {w : World} {s : Sl} {l : List DF} (h : NF w s l) : s.n = l.length := h.sl.len
theorem Ky.f_inj {a b : Ky} (h : a.f = b.f) : a = b := by
  cases a; cases b
  simp only [Ky.f, Fa.mk.injEq] at h
  obtain ⟨h1, h2⟩ := h
  split at h2 <;> split at h2 <;> simp_all
/-- A list is the rising list of the facts of a set. -/
structure IsL (S : Ky → Prop) (l : List Fa) : Prop where
  ord : l.Pairwise fun x y => ¬ cmpL y.key x.key < 0
  nd : l.Nodup
  mem : ∀ f, f ∈ l ↔ ∃ k, S k ∧ k.f = f
theorem perm_of_mem {α : Type} [DecidableEq α] {l m : List α} (h1 : l.Nodup) (h2 : m.Nodup) (h : ∀ x, x ∈ l ↔ x ∈ m) : l.Perm m := (List.perm_ext_iff_of_nodup h1 h2).2 h
theorem IsL.uniq {S : Ky → Prop} {l m : List Fa} (h1 : IsL S l) (h2 : IsL S m) : l = m := by
  refine List.Perm.eq_of_pairwise (le := fun x y => ¬ cmpL y.key x.key < 0) (fun a b _ _ h3 h4 => ?_) h1.ord h2.ord (perm_of_mem h1.nd h2.nd fun f => by rw [h1.mem, h2.mem])
  have := cmpL_swap a.key b.key
  exact Fa.key_inj (cmpL_zero (by omega))
theorem IsL.congr {S S' : Ky → Prop} {l : List Fa} (h : IsL S l) (e : ∀ k, S k ↔ S' k) : IsL S' l := ⟨h.ord, h.nd, fun f => by rw [h.mem]; exact ⟨fun ⟨k, a, b⟩ => ⟨k, (e k).1 a, b⟩, fun ⟨k, a, b⟩ => ⟨k, (e k).2 a, b⟩⟩⟩
/-- The members are among a few. -/
def Few (S : Ky → Prop) : Prop := ∃ U : List Ky, U.length ≤ 1000 ∧ ∀ k, S k → k ∈ U
theorem new_eK (w : World) (k : Ky) : StoreOk (w.alloc (.cells (zc Try.prog 121) 121)) w.heap.size 0 (eK k) 3 ∧ Blk (put (w.alloc (.cells (zc Try.prog 121) 121)) w.heap.size 0 (eK k)) w.heap.size (eK k) 121 ∧ Ext w (put (w.alloc (.cells (zc Try.prog 121) 121)) w.heap.size 0 (eK k)) :=
  new_var w 121 (z := zc Try.prog 121) (vs := eK k) (by rw [zc121]; rfl) (eK_one k)
/-- The facts of a set, in order. -/
theorem c57 {w : World} {b : Nat} {S : Ky → Prop} (m : FM w b S) (few : Few S) :
    Calls Try.prog 57 [.map (some b)].toArray w fun e w' => ∃ (s : Sl) (L : List DF), e = .returned (.slice s.a s.n s.c) ∧ NF w' s L ∧ IsL S (L.map DF.p) ∧ L.length ≤ 1000 ∧ Ext w w' := by
  refine (call57 (some b) (R := fun v w' => ∃ (s : Sl) (L : List DF), v = (.slice s.a s.n s.c) ∧ NF w' s L ∧ IsL S (L.map DF.p) ∧ L.length ≤ 1000 ∧ Ext w w') ?_).mono fun e w' ⟨v, he, s, L, hv, hx⟩ => ⟨s, L, by rw [he, hv], hx⟩
  obtain ⟨l, c, hmp, hnd, hmem, htrue⟩ := m.list
  obtain ⟨U, hU, hsub⟩ := few
  have hll : l.length ≤ 1000 := by
    have := hnd.length_le_of_subset (l₂ := U) fun k hk => hsub k ((hmem k).2 hk)
    simp at this; omega
  obtain ⟨w1, hr1, x1, hit, hmp1⟩ := range_run (P := Try.prog) u105 hmp
  have hb1 := hmp1.bound
  refine ⟨⟨w.heap.size, 0⟩, w1, hr1, ?_⟩
  have hr0 := hit.bound
  -- what has been gathered
  refine ⟨fun s w2 => ∃ L : List DF, Own 36 2 eF w1.heap.size w2 s L ∧ (∀ x ∈ L, Ints w2 x.sl x.args ∧ x.args.length ≤ big ∧ ∀ a, x.sl.a = some a → ∃ cur, Blk w2 a.block cur 3) ∧ (L.map DF.p).Perm (l.map fun x => x.1.f) ∧ Ext w w2, ?_, ?_⟩
  · rintro s w2 ⟨L, ho, hok, hp, x2⟩
    have hL : L.length ≤ 1000 := by have := hp.length_eq; simp at this; omega
    have hsd : SdT (fun x => Ints w2 x.sl x.args ∧ x.args.length ≤ big ∧ ∀ a, x.sl.a = some a → ¬ BlS s a.block) w1.heap.size w2 w2 s L.toArray :=
      ⟨by simpa using ho, Fr.refl _ _, fun x hx => by
        obtain ⟨h1, h2, h3⟩ := hok x (by simpa using hx)
        refine ⟨h1, h2, fun a ha ⟨a', ha', e⟩ => ?_⟩
        obtain ⟨cur, hc⟩ := h3 a ha
        obtain ⟨cur', hc'⟩ := ho.blk ha'
        rw [e] at hc'
        exact Blk.ne_ty hc hc' (by decide) rfl, by simp; omega⟩
    refine (c108 ltF_swo (cf109 w2 s) hsd).mono fun e w3 ⟨he, R, pR, sR, hR⟩ => ⟨he, s, R.toList, rfl, ⟨hR.own.sli, fun x hx => ?_⟩, ⟨?_, ?_, ?_⟩, ?_, ?_⟩
    · obtain ⟨h1, _, h3⟩ := hR.ok x hx
      exact Sli.fr h1 hR.fr h3
    · rw [List.pairwise_map]
      refine sR.imp fun {x y} h => ?_
      simpa [ltF] using h
    · have hp2 : (R.toList.map DF.p).Perm (l.map fun x => x.1.f) := (pR.map DF.p).trans (by simpa using hp)
      rw [hp2.nodup_iff]
      have : (l.map fun x => x.1.f) = (l.map (·.1)).map Ky.f := by simp
      rw [this]
      exact List.nodup_iff_pairwise_ne.2 (List.pairwise_map.2 (hnd.imp fun {x y} h e => h (Ky.f_inj e)))
    · intro f
      have hp2 : (R.toList.map DF.p).Perm (l.map fun x => x.1.f) := (pR.map DF.p).trans (by simpa using hp)
      rw [hp2.mem_iff]
      constructor
      · intro h
        obtain ⟨x, hx, rfl⟩ := List.mem_map.1 h
        exact ⟨x.1, (hmem _).2 (List.mem_map.2 ⟨x, hx, rfl⟩), rfl⟩
      · rintro ⟨k, hk, rfl⟩
        obtain ⟨x, hx, rfl⟩ := List.mem_map.1 ((hmem k).1 hk)
        exact List.mem_map.2 ⟨x, hx, rfl⟩
    · have := pR.length_eq; simp at this; simp; omega
    · exact x2.newer hR.fr fun y ⟨a, ha, e⟩ => by
        have := (ho.base ha).1
        have := x1.size
        omega
  · refine rangeM (P := Try.prog) (k := .slice) (fun vis (s : Sl) w2 => ∃ L : List DF, Own 36 2 eF w1.heap.size w2 s L ∧ (∀ x ∈ L, Ints w2 x.sl x.args ∧ x.args.length ≤ big ∧ ∀ a, x.sl.a = some a → w1.heap.size ≤ a.block ∧ ∃ cur, Blk w2 a.block cur 3) ∧ L.map DF.p = vis.map (fun x => x.1.f) ∧ Fr (fun y => y = w.heap.size) w1 w2) hmp1 hit ⟨[], Own.nil .., by simp, rfl, Fr.refl _ _⟩ ?_ ?_ ?_
    · rintro vis s w2 w3 ⟨L, ho, hok, hp, x2⟩ hf
      refine ⟨L, ho.fr hf fun a ha (e : a.block = w.heap.size) => by have := (ho.base ha).1; omega, fun x hx => ?_, hp, x2.trans hf fun _ _ h => h⟩
      obtain ⟨h1, h2, h3⟩ := hok x hx
      have hn : ∀ a, x.sl.a = some a → ¬ a.block = w.heap.size := fun a ha e => by have := (h3 a ha).1; omega
      exact ⟨Sli.fr h1 hf hn, h2, fun a ha => ⟨(h3 a ha).1, by obtain ⟨cur, hc⟩ := (h3 a ha).2; exact ⟨cur, hc.fr hf (hn a ha)⟩⟩⟩
    · rintro vis x s w2 hxl hxv hvn hvl hvlt ⟨L, ho, hok, hp, x2⟩ hmp' hrb hent K hK
      have hL : L.length ≤ 1000 := by
        have h1 : L.length = vis.length := by have := congrArg List.length hp; simpa using this
        omega
      have z12 := x2.size
      refine ⟨x.1.rel, x.1.a, x.1.b, x.2.1, hent, ?_⟩
      obtain ⟨n1, n2, n3⟩ := new_eK w2 x.1
      refine Let.intro fun w7 e7 => ?_
      rw [← e7] at n1 n2 n3
      refine ⟨n1, Let.intro fun w8 e8 => ?_⟩
      have e8 : w8 = put w7 w2.heap.size 0 (eK x.1) := e8
      rw [← e8] at n2 n3
      refine ⟨x.1.rel, x.1.a, x.1.b, n2.rd, (c107 x.1 w8).mono fun e w9 ⟨y, he, hy, hyi, hyb, x9⟩ => ⟨_, _, he, ?_⟩⟩
      have x29 := n3.trans x9
      have z8 := n3.size
      have ho9 := ho.ext x29
      obtain ⟨s1, w10, hb10, s2, w11, hr11, ho11, hf11⟩ := appendOne E23 ho9 (x := y) (v := .agg (eF y).toArray) rfl eF_len eF_one (by omega) (by omega) (by simp only [maxLen]; omega) (by have := x29.size; omega) 23
      refine ⟨s1, w10, hb10, s2, w11, hr11, hK _ _ ⟨L ++ [y], ho11, fun z hz => ?_, by simp [hp, hy], ?_⟩ ?_⟩
      · have hzz : Ints w9 z.sl z.args ∧ z.args.length ≤ big ∧ ∀ a, z.sl.a = some a → w1.heap.size ≤ a.block ∧ ∃ cur, Blk w9 a.block cur 3 := by
          rcases List.mem_append.1 hz with hz | hz
          · obtain ⟨h1, h2, h3⟩ := hok z hz
            exact ⟨h1.ext x29, h2, fun a ha => ⟨(h3 a ha).1, by obtain ⟨cur, hc⟩ := (h3 a ha).2; exact ⟨cur, hc.ext x29⟩⟩⟩
          · simp only [List.mem_singleton] at hz
            subst hz
            refine ⟨hyi, ?_, fun a ha => ⟨by have := (hyb a ha).1; omega, (hyb a ha).2⟩⟩
            have : z.args = if x.1.b = 0 then [x.1.a] else [x.1.a, x.1.b] := congrArg Fa.args hy
            rw [this]; split <;> simp [big]
        obtain ⟨h1, h2, h3⟩ := hzz
        have hn : ∀ a, z.sl.a = some a → ¬ BlS s a.block := fun a ha ⟨a', ha', e⟩ => by
          obtain ⟨_, cur, hc⟩ := h3 a ha
          obtain ⟨cur', hc'⟩ := ho9.blk ha'
          rw [e] at hc'
          exact Blk.ne_ty hc hc' (by decide) rfl
        exact ⟨Sli.fr h1 hf11 hn, h2, fun a ha => ⟨(h3 a ha).1, by obtain ⟨cur, hc⟩ := (h3 a ha).2; exact ⟨cur, hc.fr hf11 (hn a ha)⟩⟩⟩
      · exact (x2.ext x29).trans hf11 fun y hy ⟨a, ha, e⟩ => by have := (ho9.base ha).1; omega
      · refine Fr.mono (x29.fr hf11) fun y hy ⟨a, ha, e⟩ => ⟨?_, ?_⟩
        · intro (h : y = w.heap.size)
          have := (ho9.base ha).1; omega
        · have := (ho9.base ha).1; have := hmp1.bound; omega
    · rintro vis s w2 hall hvn hvl ⟨L, ho, hok, hp, x2⟩ hmp'
      refine ⟨L, ho, fun x hx => ?_, ?_, x1.newer x2 fun y (hy : y = w.heap.size) => by omega⟩
      · obtain ⟨h1, h2, h3⟩ := hok x hx
        exact ⟨h1, h2, fun a ha => (h3 a ha).2⟩
      · rw [hp]
        refine List.Perm.map _ (perm_of_mem hvn ?_ fun x => ⟨hvl x, hall x⟩)
        exact (List.pairwise_map.1 hnd).imp fun {x y} h e => h (by rw [e])
end Go.Proofs.Ytoljknamnkkgcaa
/-
  Contracts: keys of facts, given facts, arities, single facts, values of variables.
-/
namespace Go.Proofs.Ytoljknamnkkgcaa
open Go Go.VC
set_option maxHeartbeats 1000000
set_option maxRecDepth 100000

def vI (v : List Int) : List Value := v.map (Value.int .i64)
theorem vI_len (v : List Int) : (vI v).length = v.length := List.length_map ..
theorem vI_one (v : List Int) : ∀ x ∈ vI v, x.oneCell' = true := by intro x hx; obtain ⟨n, _, rfl⟩ := List.mem_map.1 hx; rfl
theorem vI_get {v : List Int} {i : Nat} (hi : i < v.length) : (vI v)[i]? = some (.int .i64 (v.getD i 0)) := by simp [vI, List.getD, hi]
theorem vI_set (v : List Int) (i : Nat) (n : Int) : (vI v).set i (.int .i64 n) = vI (v.set i n) := by unfold vI; rw [List.map_set]
/-- A cell of a block of ints. -/
theorem blkAt {w : World} {q : Nat} {v : List Int} {T : TypeId} (h : Blk w q (vI v) T) {i : Nat} (hi : i < v.length) {o : Nat} (ho : o = i) : w.cell? ⟨q, o, none⟩ = some (.int .i64 (v.getD i 0)) := by subst ho; rw [h.cell, vI_get hi]
theorem blkPut {w : World} {q : Nat} {v : List Int} {T : TypeId} (h : Blk w q (vI v) T) {i : Nat} (hi : i < v.length) {o : Nat} (ho : o = i) (n : Int) : StoreOk w q o [.int .i64 n] 1 ∧ Blk (put w q o [.int .i64 n]) q (vI (v.set i n)) T ∧ Fr (fun y => y = q) w (put w q o [.int .i64 n]) := by
  subst ho
  refine ⟨h.storeOk rfl (by simp [Value.oneCell']) (by rw [vI_len]; omega), ?_, Fr.put ..⟩
  have := h.put (o := o) (vs := [.int .i64 n])
  rw [← vI_set]; exact this
theorem zc121b (w : World) : Blk (w.alloc (.cells (zc Try.prog 121) 121)) w.heap.size (eK ⟨0, 0, 0⟩) 121 ∧ Ext w (w.alloc (.cells (zc Try.prog 121) 121)) := by
  refine ⟨?_, Ext.alloc ..⟩
  rw [← zc121l]; simpa using Blk.alloc w (zc Try.prog 121).toList 121
theorem blk_all {w : World} {q : Nat} {l vs : List Value} {T : TypeId} (h : Blk w q l T) (hl : vs.length = l.length) (h1 : ∀ v ∈ vs, v.oneCell' = true) : StoreOk w q 0 vs vs.length ∧ Blk (put w q 0 vs) q vs T ∧ Fr (fun y => y = q) w (put w q 0 vs) := by
  refine ⟨h.storeOk rfl h1 (by omega), ?_, Fr.put ..⟩
  have := h.put (o := 0) (vs := vs)
  rw [show setR l 0 vs = vs from by simpa using setR_all (vs := vs) (l := l) (pre := []) hl] at this
  exact this
/-- The key of a fact. -/
theorem c80 {w : World} {x : DF} (hx : Ints w x.sl x.args) (hne : x.args ≠ []) :
    Calls Try.prog 80 [.agg [.int .i64 x.rel, .slice x.sl.a x.sl.n x.sl.c].toArray].toArray w fun e w' => e = .returned (.agg [.int .i64 x.p.k.rel, .int .i64 x.p.k.a, .int .i64 x.p.k.b].toArray) ∧ Ext w w' := by
  refine (call80 x.rel x.sl (R := fun v w' => v = (.agg [.int .i64 x.p.k.rel, .int .i64 x.p.k.a, .int .i64 x.p.k.b].toArray) ∧ Ext w w') ?_).mono fun e w' ⟨v, he, hv, hx⟩ => ⟨by rw [he, hv], hx⟩
  have hn := hx.len
  have h0 : 0 < x.args.length := List.length_pos_iff.2 hne
  obtain ⟨b1, x1⟩ := eF_cells w x 36
  refine Let.intro fun w1 e1 => ?_
  have e1 : w1 = w.alloc (.cells (eF x).toArray 36) := e1
  rw [← e1] at b1 x1
  obtain ⟨b2, x2⟩ := zc121b w1
  refine Let.intro fun w2 e2 => ?_
  rw [← e2] at b2 x2
  have b1 := b1.ext x2
  have x12 := x1.trans x2
  refine ⟨fun u => Ext w2 u, Ext.drew _, Let.intro fun w3 e3 => ?_⟩
  have x3 : Ext w2 w3 := by rw [e3]; exact Ext.drew _
  obtain ⟨p, hp, _, _, hr⟩ := Ints.at hx h0
  refine ⟨x.rel, fun u hu => (b1.ext hu).cell 0, x.sl, fun u hu => (b1.ext hu).cell 1, p, hp, by omega, by omega, x.args[0], fun u hu => (x12.trans hu).cell hr, ?_⟩
  obtain ⟨n1, n2, n3⟩ := new_eK w3 ⟨x.rel, x.args[0], 0⟩
  refine Let.intro fun w4 e4 => ?_
  rw [← e4] at n1 n2 n3
  have x4 : Ext w3 w4 := by rw [e4]; exact Ext.alloc ..
  refine ⟨x3.trans x4, n1, Let.intro fun w5 e5 => ?_⟩
  have e5 : w5 = put w4 w3.heap.size 0 (eK ⟨x.rel, x.args[0], 0⟩) := e5
  rw [← e5] at n2 n3
  have x25 := x3.trans n3
  have b1 := b1.ext x25
  have b2 := b2.ext x25
  have z := x12.size
  have z1 := x1.size
  have z3 := x3.size
  have l2 := b2.lt
  have l3 := n2.lt
  have q12 : w1.heap.size < w3.heap.size := by have := (zc121b w1).1.lt; rw [← e2] at this; omega
  refine ⟨x.sl, b1.cell 1, ?_⟩
  refine ⟨fun w6 => Blk w6 w3.heap.size (eK x.p.k) 121 ∧ Blk w6 w1.heap.size (eK ⟨0, 0, 0⟩) 121 ∧ Ext w w6, ?_, ?_⟩
  · rintro w6 ⟨b3, b2, x6⟩
    obtain ⟨s1, s2, s3⟩ := blk_all b2 (vs := eK x.p.k) rfl (eK_one _)
    refine ⟨_, _, _, b3.rd, s1, Let.intro fun w7 e7 => ?_⟩
    have e7 : w7 = put w6 w1.heap.size 0 (eK x.p.k) := e7
    rw [← e7] at s2 s3
    exact ⟨_, _, _, s2.rd, rfl, x6.newer s3 fun y (hy : y = w1.heap.size) => by omega⟩
  · refine cond_intro (fun g => ?_) (fun g => ?_)
    · have g : 1 < x.args.length := by simp at g; omega
      obtain ⟨p', hp', _, _, hr'⟩ := Ints.at hx g
      refine ⟨x.sl, b1.cell 1, p', hp', by omega, by omega, x.args[1], (x12.trans x25).cell hr', ?_⟩
      have n2' : Blk w5 w3.heap.size (vI [x.rel, x.args[0], 0]) 121 := n2
      obtain ⟨s1, s2, s3⟩ := blkPut n2' (i := 2) (by simp) (o := 0 + 2) rfl x.args[1]
      refine ⟨s1, Let.intro fun w8 e8 => ?_⟩
      rw [← e8] at s2 s3
      refine ⟨?_, b2.fr s3 (by omega), (x12.trans x25).newer s3 fun y (hy : y = w3.heap.size) => by omega⟩
      have : vI ([x.rel, x.args[0], 0].set 2 x.args[1]) = eK x.p.k := by simp [vI, eK, Fa.k, DF.p, List.getD, h0, g]
      rw [← this]; exact s2
    · have g : ¬ 1 < x.args.length := by simp at g; omega
      refine ⟨?_, b2, x12.trans x25⟩
      have : eK ⟨x.rel, x.args[0], 0⟩ = eK x.p.k := by simp [eK, Fa.k, DF.p, List.getD, h0, List.getElem?_eq_none (show x.args.length ≤ 1 by omega)]
      rw [← this]; exact n2
theorem loadF {w : World} {s : Sl} {l : List DF} (hs : NF w s l) {i : Nat} (hi : i < l.length) {T : TypeId} (hz : (zc Try.prog T).size = 2) {B : World → Prop}
    (hB : ∀ w5, Blk w5 w.heap.size (eF l[i]) T → Ext w w5 → B w5) :
    ∃ p : Pt, s.a = some ⟨p.b, p.o, none⟩ ∧ 0 ≤ (i : Int) ∧ (i : Int) < ((s.n : Nat) : Int) ∧ ∃ a : Int, ∃ b : Sl, rd w p.b (p.o + Int.toNat (i : Int) * 2) [.int .i64 a, .slice b.a b.n b.c] ∧
      Let (w.alloc (.cells (zc Try.prog T) T)) fun w4 => StoreOk w4 w.heap.size 0 [.int .i64 a, .slice b.a b.n b.c] 2 ∧ Let (put w4 w.heap.size 0 [.int .i64 a, .slice b.a b.n b.c]) fun w5 => B w5 := by
  obtain ⟨p, hp, h2, h3, hr⟩ := Sli.at eF_len hs.sl hi
  obtain ⟨a, b, c⟩ := new_var w T (z := zc Try.prog T) (vs := eF l[i]) (by rw [hz, eF_len]) (eF_one _)
  exact ⟨p, hp, h2, h3, _, _, hr, a, hB _ b c⟩
/-- Given facts as a set. -/
def giv (l : List Fa) (k : Ky) : Prop := ∃ f ∈ l, f.k = k
theorem c67 {w : World} {s : Sl} {l : List DF} (hs : NF w s l) (hl : l.length ≤ big) (hne : ∀ x ∈ l, x.args ≠ []) :
    Calls Try.prog 67 [.slice s.a s.n s.c].toArray w fun e w' => ∃ b : Nat, e = .returned (.map (some b)) ∧ FM w' b (giv (l.map DF.p)) ∧ w.heap.size ≤ b ∧ Ext w w' := by
  refine (call67 s (R := fun v w' => ∃ b : Nat, v = (.map (some b)) ∧ FM w' b (giv (l.map DF.p)) ∧ w.heap.size ≤ b ∧ Ext w w') ?_).mono fun e w' ⟨v, he, b, hv, hx⟩ => ⟨b, by rw [he, hv], hx⟩
  have hn := hs.len
  refine Let.intro fun w1 e1 => ?_
  have m1 : FM w1 w.heap.size fun _ => False := by rw [e1]; exact SetM.made w
  have x1 : Ext w w1 := by rw [e1]; exact Ext.alloc ..
  refine Join.dir (rangeI (fun i w2 => FM w2 w.heap.size (giv ((l.take i).map DF.p)) ∧ Ext w w2) (by rw [hn]; exact hl) ⟨m1.congr fun k => by simp [giv], x1⟩ ?_ ?_)
  · rintro i hi w2 ⟨m2, x2⟩ K hK
    have hi : i < l.length := by omega
    refine loadF (hs.ext x2) hi zc36 fun w6 b6 x6 => ⟨_, _, b6.rd, ?_⟩
    have x26 := x2.trans x6
    refine (c80 ((hs.ok _ (List.getElem_mem hi)).ext x26) (hne _ (List.getElem_mem hi))).mono fun e w7 ⟨he, x7⟩ => ⟨_, _, _, he, ?_⟩
    have m7 := (m2.ext x6).ext x7
    obtain ⟨w8, hrun, m8, f8⟩ := m7.put K121 u105 (l[i]).p.k
    refine ⟨w8, hrun, hK _ ⟨m8.congr fun k => ?_, (x26.trans x7).newer f8 fun y (hy : y = w.heap.size) => by omega⟩⟩
    rw [List.take_succ_eq_append_getElem hi]
    simp only [giv, List.map_append, List.mem_append, List.map_cons, List.map_nil, List.mem_singleton]
    constructor
    · rintro ⟨f, hf | hf, e⟩
      · exact .inl ⟨f, hf, e⟩
      · subst hf; exact .inr e.symm
    · rintro (⟨f, hf, e⟩ | e)
      · exact ⟨f, .inl hf, e⟩
      · exact ⟨_, .inr rfl, e.symm⟩
  · rintro w2 ⟨m2, x2⟩
    rw [hn, List.take_length] at m2
    exact ⟨_, rfl, m2, Nat.le_refl _, x2⟩
/-! ### the smallest and the greatest -/
theorem c105 {w : World} {s : Sl} {l : List Int} (hs : Ints w s l) (hl : l.length ≤ big) (hne : l ≠ []) :
    Calls Try.prog 105 [.slice s.a s.n s.c].toArray w fun e w' => ∃ m : Int, e = .returned (.int .i64 m) ∧ (∀ c, c ≤ m ↔ ∀ x ∈ l, c ≤ x) ∧ w' = w := by
  refine (call105 s (R := fun v w' => ∃ m : Int, v = .int .i64 m ∧ (∀ c, c ≤ m ↔ ∀ x ∈ l, c ≤ x) ∧ w' = w) ?_).mono fun e w' ⟨v, he, m, hv, hx⟩ => ⟨m, by rw [he, hv], hx⟩
  have hn := hs.len
  have h0 : 0 < l.length := List.length_pos_iff.2 hne
  have hlb : l.length ≤ 9223372036854775807 := hl
  refine Join.dir (cond_intro (fun g => by simp at g; omega) (fun _ => ?_))
  obtain ⟨p, hp, _, _, hr⟩ := Ints.at hs h0
  refine ⟨p, hp, by omega, by omega, l[0], hr, Join.dir (LoopV.intro (fun n (m x : Int) w3 => ∃ i : Nat, x = i ∧ n = l.length - i ∧ 1 ≤ i ∧ i ≤ l.length ∧ (∀ c, c ≤ m ↔ ∀ x ∈ l.take i, c ≤ x) ∧ w3 = w) (l.length - 1) ⟨1, rfl, rfl, by omega, by omega, fun c => ?_, rfl⟩ ?_)⟩
  · rw [List.take_succ_eq_append_getElem h0]; simp
  rintro n m x w3 ⟨i, rfl, rfl, hi1, hi, hm, hw⟩
  subst hw
  refine cond_intro (fun g => ?_) (fun g => ?_)
  · have g : i < l.length := by simp at g; omega
    obtain ⟨p, hp, a1, a2, hr⟩ := Ints.at hs g
    refine Join.dir ⟨p, hp, a1, a2, _, hr, l.length - (i + 1), by omega, i + 1, by rw [wrap64 (by omega) (by omega)]; rfl, rfl, by omega, by omega, fun c => ?_, rfl⟩
    rw [List.take_succ_eq_append_getElem g]
    simp only [List.mem_append, List.mem_singleton]
    constructor
    · intro h x hx
      rcases hx with hx | hx
      · exact (hm c).1 (by split at h <;> omega) x hx
      · subst hx; split at h <;> omega
    · intro h
      have h1 := (hm c).2 fun x hx => h x (.inl hx)
      have h2 := h _ (.inr rfl)
      split <;> omega
  · have g : i = l.length := by simp at g; omega
    subst g
    rw [List.take_length] at hm
    exact ⟨m, rfl, hm, rfl⟩
theorem c106 {w : World} {s : Sl} {l : List Int} (hs : Ints w s l) (hl : l.length ≤ big) (hne : l ≠ []) :
    Calls Try.prog 106 [.slice s.a s.n s.c].toArray w fun e w' => ∃ m : Int, e = .returned (.int .i64 m) ∧ (∀ c, m ≤ c ↔ ∀ x ∈ l, x ≤ c) ∧ w' = w := by
  refine (call106 s (R := fun v w' => ∃ m : Int, v = .int .i64 m ∧ (∀ c, m ≤ c ↔ ∀ x ∈ l, x ≤ c) ∧ w' = w) ?_).mono fun e w' ⟨v, he, m, hv, hx⟩ => ⟨m, by rw [he, hv], hx⟩
  have hn := hs.len
  have h0 : 0 < l.length := List.length_pos_iff.2 hne
  have hlb : l.length ≤ 9223372036854775807 := hl
  refine Join.dir (cond_intro (fun g => by simp at g; omega) (fun _ => ?_))
  obtain ⟨p, hp, _, _, hr⟩ := Ints.at hs h0
  refine ⟨p, hp, by omega, by omega, l[0], hr, Join.dir (LoopV.intro (fun n (m x : Int) w3 => ∃ i : Nat, x = i ∧ n = l.length - i ∧ 1 ≤ i ∧ i ≤ l.length ∧ (∀ c, m ≤ c ↔ ∀ x ∈ l.take i, x ≤ c) ∧ w3 = w) (l.length - 1) ⟨1, rfl, rfl, by omega, by omega, fun c => ?_, rfl⟩ ?_)⟩
  · rw [List.take_succ_eq_append_getElem h0]; simp
  rintro n m x w3 ⟨i, rfl, rfl, hi1, hi, hm, hw⟩
  subst hw
  refine cond_intro (fun g => ?_) (fun g => ?_)
  · have g : i < l.length := by simp at g; omega
    obtain ⟨p, hp, a1, a2, hr⟩ := Ints.at hs g
    refine Join.dir ⟨p, hp, a1, a2, _, hr, l.length - (i + 1), by omega, i + 1, by rw [wrap64 (by omega) (by omega)]; rfl, rfl, by omega, by omega, fun c => ?_, rfl⟩
    rw [List.take_succ_eq_append_getElem g]
    simp only [List.mem_append, List.mem_singleton]
    constructor
    · intro h x hx
      rcases hx with hx | hx
      · exact (hm c).1 (by split at h <;> omega) x hx
      · subst hx; split at h <;> omega
    · intro h
      have h1 := (hm c).2 fun x hx => h x (.inl hx)
      have h2 := h _ (.inr rfl)
      split <;> omega
  · have g : i = l.length := by simp at g; omega
    subst g
    rw [List.take_length] at hm
    exact ⟨m, rfl, hm, rfl⟩
/-! ### arities -/
def okA (ar : List Int) (rel n : Int) : Prop := 0 ≤ rel ∧ rel < 6 ∧ 1 ≤ n ∧ n ≤ 2 ∧ (ar.getD rel.toNat 0 = 0 ∨ ar.getD rel.toNat 0 = n)
instance (ar : List Int) (rel n : Int) : Decidable (okA ar rel n) := by unfold okA; infer_instance
theorem c102 {w : World} {q : Nat} {ar : List Int} {T : TypeId} (hq : Blk w q (vI ar) T) (hl : ar.length = 6) (rel n : Int) :
    Calls Try.prog 102 [.pointer (some ⟨q, 0, none⟩), .int .i64 rel, .int .i64 n].toArray w fun e w' => e = .returned (.bool (decide (okA ar rel n))) ∧ Blk w' q (vI (if okA ar rel n then ar.set rel.toNat n else ar)) T ∧ Fr (fun y => y = q) w w' := by
  refine (call102 ⟨q, 0⟩ rel n (R := fun v w' => v = .bool (decide (okA ar rel n)) ∧ Blk w' q (vI (if okA ar rel n then ar.set rel.toNat n else ar)) T ∧ Fr (fun y => y = q) w w') ?_).mono fun e w' ⟨v, he, hv, hx⟩ => ⟨by rw [he, hv], hx⟩
  refine ⟨fun (b : Bool) w1 => b = !decide (okA ar rel n) ∧ w1 = w, ?_, ?_⟩
  · rintro b w1 ⟨rfl, rfl⟩
    refine cond_intro (fun g => ?_) (fun g => ?_)
    · have g : ¬ okA ar rel n := by simpa using g
      exact ⟨by simp [g], by rw [if_neg g]; exact hq, Fr.refl _ _⟩
    · have g : okA ar rel n := by simpa using g
      have h1 := g.1
      have h2 := g.2.1
      obtain ⟨s1, s2, s3⟩ := blkPut hq (i := rel.toNat) (by omega) (o := 0 + Int.toNat rel * 1) (by omega) n
      refine ⟨h1, by omega, s1, Let.intro fun w2 e2 => ?_⟩
      rw [← e2] at s2 s3
      exact ⟨by simp [g], by rw [if_pos g]; exact s2, s3⟩
  · refine cond_intro (fun g => ⟨?_, rfl⟩) (fun g1 => cond_intro (fun g => ⟨?_, rfl⟩) (fun g2 => cond_intro (fun g => ⟨?_, rfl⟩) (fun g3 => cond_intro (fun g => ⟨?_, rfl⟩) (fun g4 => ?_))))
    · have g : rel < 0 := by simpa using g
      have : ¬ okA ar rel n := fun h => by have := h.1; omega
      simp [this]
    · have g : rel ≥ 6 := by simpa using g
      have : ¬ okA ar rel n := fun h => by have := h.2.1; omega
      simp [this]
    · have g : n < 1 := by simpa using g
      have : ¬ okA ar rel n := fun h => by have := h.2.2.1; omega
      simp [this]
    · have g : n > 2 := by simpa using g
      have : ¬ okA ar rel n := fun h => by have := h.2.2.2.1; omega
      simp [this]
    · have g1 : ¬ rel < 0 := by simpa using g1
      have g2 : ¬ rel ≥ 6 := by simpa using g2
      have g3 : ¬ n < 1 := by simpa using g3
      have g4 : ¬ n > 2 := by simpa using g4
      have hc := blkAt hq (i := rel.toNat) (by omega) (o := 0 + Int.toNat rel * 1) (by omega)
      refine ⟨by omega, by omega, _, hc, cond_intro (fun g5 => ⟨by omega, by omega, _, hc, ?_, rfl⟩) (fun g5 => ⟨?_, rfl⟩)⟩
      · have g5 : ar.getD rel.toNat 0 ≠ 0 := by simpa using g5
        by_cases h : ar.getD rel.toNat 0 = n
        · have : okA ar rel n := ⟨by omega, by omega, by omega, by omega, .inr h⟩
          simp only [this, decide_true, Bool.not_true]
          rw [bne_eq_false_iff_eq]; exact h
        · have : ¬ okA ar rel n := fun k => by rcases k.2.2.2.2 with k | k; exact g5 k; exact h k
          simp only [this, decide_false, Bool.not_false]
          rw [bne_iff_ne]; exact h
      · have g5 : ar.getD rel.toNat 0 = 0 := by simpa using g5
        have : okA ar rel n := ⟨by omega, by omega, by omega, by omega, .inl g5⟩
        simp [this]
theorem zc167 : (zc Try.prog 167).toList = vI [0, 0, 0, 0, 0, 0] := by kernel_rfl
theorem zc167b (w : World) : Blk (w.alloc (.cells (zc Try.prog 167) 167)) w.heap.size (vI [0, 0, 0, 0, 0, 0]) 167 ∧ Ext w (w.alloc (.cells (zc Try.prog 167) 167)) := by
  refine ⟨?_, Ext.alloc ..⟩
  rw [← zc167]; simpa using Blk.alloc w (zc Try.prog 167).toList 167
/-- A fact by itself. -/
def GroundF (f : Fa) : Prop := 0 ≤ f.rel ∧ f.rel ≤ 5 ∧ 1 ≤ f.args.length ∧ f.args.length ≤ 2 ∧ ∀ x ∈ f.args, 1 ≤ x ∧ x ≤ 6
instance (f : Fa) : Decidable (GroundF f) := by unfold GroundF; infer_instance
theorem c74 {w : World} {x : DF} (hx : Ints w x.sl x.args) (hl : x.args.length ≤ big) :
    Calls Try.prog 74 [.agg [.int .i64 x.rel, .slice x.sl.a x.sl.n x.sl.c].toArray].toArray w fun e w' => e = .returned (.bool (decide (GroundF x.p))) ∧ Ext w w' := by
  refine (call74 x.rel x.sl (R := fun v w' => v = .bool (decide (GroundF x.p)) ∧ Ext w w') ?_).mono fun e w' ⟨v, he, hv, hx⟩ => ⟨by rw [he, hv], hx⟩
  have hn := hx.len
  obtain ⟨b1, x1⟩ := eF_cells w x 36
  refine Let.intro fun w1 e1 => ?_
  have e1 : w1 = w.alloc (.cells (eF x).toArray 36) := e1
  rw [← e1] at b1 x1
  obtain ⟨b2, x2⟩ := zc167b w1
  refine Let.intro fun w2 e2 => ?_
  rw [← e2] at b2 x2
  have b1 := b1.ext x2
  have x12 := x1.trans x2
  have z1 := x1.size
  have hlt : w.heap.size < w1.heap.size := by have := (eF_cells w x 36).1.lt; rw [← e1] at this; exact this
  refine Join.dir ⟨x.rel, b1.cell 0, x.sl, b1.cell 1, (c102 b2 rfl x.rel ((x.sl.n : Nat) : Int)).mono fun e w4 ⟨he, b4, f4⟩ => ⟨_, he, ?_⟩⟩
  have x4 : Ext w w4 := x12.newer f4 fun y (hy : y = w1.heap.size) => by omega
  have b1 := b1.fr f4 (by omega)
  have hok : okA [0, 0, 0, 0, 0, 0] x.rel ((x.sl.n : Nat) : Int) ↔ 0 ≤ x.rel ∧ x.rel ≤ 5 ∧ 1 ≤ x.args.length ∧ x.args.length ≤ 2 := by
    rw [hn]
    unfold okA
    constructor
    · rintro ⟨a, b, c, d, _⟩; exact ⟨a, by omega, by omega, by omega⟩
    · rintro ⟨a, b, c, d⟩
      refine ⟨a, by omega, by omega, by omega, .inl ?_⟩
      have : x.rel.toNat < 6 := by omega
      rcases h : x.rel.toNat with _ | _ | _ | _ | _ | _ | n <;> simp
  refine cond_intro (fun g => ?_) (fun g => ?_)
  rotate_left
  · have g : ¬ okA [0, 0, 0, 0, 0, 0] x.rel ((x.sl.n : Nat) : Int) := by simpa using g
    refine ⟨?_, x4⟩
    have : ¬ GroundF x.p := fun h => g (hok.2 ⟨h.1, h.2.1, h.2.2.1, h.2.2.2.1⟩)
    simp [this]
  have g : okA [0, 0, 0, 0, 0, 0] x.rel ((x.sl.n : Nat) : Int) := by simpa using g
  obtain ⟨g1, g2, g3, g4⟩ := hok.1 g
  have hne : x.args ≠ [] := by intro h; rw [h] at g3; simp at g3
  refine ⟨x.sl, b1.cell 1, (c105 (hx.ext x4) hl hne).mono fun e w5 ⟨m, he, hm, hw⟩ => ⟨_, he, ?_⟩⟩
  subst hw
  refine cond_intro (fun g5 => ?_) (fun g5 => ?_)
  rotate_left
  · have g5 : ¬ (1 ≤ m) := by simpa using g5
    refine ⟨?_, x4⟩
    have : ¬ GroundF x.p := fun h => g5 ((hm 1).2 fun y hy => (h.2.2.2.2 y hy).1)
    simp [this]
  have g5 : 1 ≤ m := by simpa using g5
  refine ⟨x.sl, b1.cell 1, (c106 (hx.ext x4) hl hne).mono fun e w6 ⟨m', he, hm', hw⟩ => ⟨_, he, ?_, ?_⟩⟩
  · congr 1
    apply decide_eq_decide.2
    constructor
    · intro h
      exact ⟨g1, g2, g3, g4, fun y hy => ⟨(hm 1).1 g5 y hy, (hm' 6).1 h y hy⟩⟩
    · intro h
      exact (hm' 6).2 fun y hy => (h.2.2.2.2 y hy).2
  · rw [hw]; exact x4
end Go.Proofs.Ytoljknamnkkgcaa
/-
  Contracts: an atom under values of its variables; values that fit an atom to a fact. Rules in memory.
-/
namespace Go.Proofs.Ytoljknamnkkgcaa
open Go Go.VC
set_option maxHeartbeats 1000000
set_option maxRecDepth 100000

/-! ### rules in memory -/
structure DL where
  neg : Bool
  a : DF
instance : Inhabited DL := ⟨⟨false, default⟩⟩
def eL (x : DL) : List Value := [.bool x.neg, .int .i64 x.a.rel, .slice x.a.sl.a x.a.sl.n x.a.sl.c]
theorem eL_len (x : DL) : (eL x).length = 3 := rfl
theorem eL_one (x : DL) : ∀ v ∈ eL x, v.oneCell' = true := by intro v hv; simp [eL] at hv; rcases hv with rfl | rfl | rfl <;> rfl
structure DR where
  head : DF
  bs : Sl
  body : List DL
instance : Inhabited DR := ⟨⟨default, ⟨none, 0, 0⟩, []⟩⟩
def eR (x : DR) : List Value := [.int .i64 x.head.rel, .slice x.head.sl.a x.head.sl.n x.head.sl.c, .slice x.bs.a x.bs.n x.bs.c]
theorem eR_len (x : DR) : (eR x).length = 3 := rfl
theorem eR_one (x : DR) : ∀ v ∈ eR x, v.oneCell' = true := by intro v hv; simp [eR] at hv; rcases hv with rfl | rfl | rfl <;> rfl
structure Li where
  neg : Bool
  a : Fa
deriving DecidableEq
instance : Inhabited Li := ⟨⟨false, default⟩⟩
structure Ru where
  head : Fa
  body : List Li
deriving DecidableEq
instance : Inhabited Ru := ⟨⟨default, []⟩⟩
def DL.p (x : DL) : Li := ⟨x.neg, x.a.p⟩
def DR.p (x : DR) : Ru := ⟨x.head.p, x.body.map DL.p⟩
structure NL (w : World) (s : Sl) (l : List DL) : Prop where
  sl : Sli 3 eL w s l
  ok : ∀ x ∈ l, Ints w x.a.sl x.a.args
structure RulOk (w : World) (r : DR) : Prop where
  hd : Ints w r.head.sl r.head.args
  bd : NL w r.bs r.body
structure NR (w : World) (s : Sl) (l : List DR) : Prop where
  sl : Sli 3 eR w s l
  ok : ∀ x ∈ l, RulOk w x
theorem NL.ext {w w' : World} {s : Sl} {l : List DL} (h : NL w s l) (x : Ext w w') : NL w' s l := ⟨h.sl.ext x, fun y hy => (h.ok y hy).ext x⟩
theorem RulOk.ext {w w' : World} {r : DR} (h : RulOk w r) (x : Ext w w') : RulOk w' r := ⟨h.hd.ext x, h.bd.ext x⟩
theorem NR.ext {w w' : World} {s : Sl} {l : List DR} (h : NR w s l) (x : Ext w w') : NR w' s l := ⟨h.sl.ext x, fun y hy => (h.ok y hy).ext x⟩
theorem NR.len {w : World} {s : Sl} {l : List DR} (h : NR w s l) : s.n = l.length := h.sl.len
theorem NL.len {w : World} {s : Sl} {l : List DL} (h : NL w s l) : s.n = l.length := h.sl.len
theorem zc54 : (zc Try.prog 54).size = 3 := by kernel_rfl
theorem zc52 : (zc Try.prog 52).size = 3 := by kernel_rfl
theorem loadL {w : World} {s : Sl} {l : List DL} (hs : NL w s l) {i : Nat} (hi : i < l.length) {B : World → Prop}
    (hB : ∀ w5, Blk w5 w.heap.size (eL l[i]) 54 → Ext w w5 → B w5) :
    ∃ p : Pt, s.a = some ⟨p.b, p.o, none⟩ ∧ 0 ≤ (i : Int) ∧ (i : Int) < ((s.n : Nat) : Int) ∧ ∃ a : Bool, ∃ b : Int, ∃ c : Sl, rd w p.b (p.o + Int.toNat (i : Int) * 3) [.bool a, .int .i64 b, .slice c.a c.n c.c] ∧
      Let (w.alloc (.cells (zc Try.prog 54) 54)) fun w4 => StoreOk w4 w.heap.size 0 [.bool a, .int .i64 b, .slice c.a c.n c.c] 3 ∧ Let (put w4 w.heap.size 0 [.bool a, .int .i64 b, .slice c.a c.n c.c]) fun w5 => B w5 := by
  obtain ⟨p, hp, h2, h3, hr⟩ := Sli.at eL_len hs.sl hi
  obtain ⟨a, b, c⟩ := new_var w 54 (z := zc Try.prog 54) (vs := eL l[i]) (by rw [zc54, eL_len]) (eL_one _)
  exact ⟨p, hp, h2, h3, _, _, _, hr, a, hB _ b c⟩
theorem loadR {w : World} {s : Sl} {l : List DR} (hs : NR w s l) {i : Nat} (hi : i < l.length) {B : World → Prop}
    (hB : ∀ w5, Blk w5 w.heap.size (eR l[i]) 52 → Ext w w5 → B w5) :
    ∃ p : Pt, s.a = some ⟨p.b, p.o, none⟩ ∧ 0 ≤ (i : Int) ∧ (i : Int) < ((s.n : Nat) : Int) ∧ ∃ a : Int, ∃ b : Sl, ∃ c : Sl, rd w p.b (p.o + Int.toNat (i : Int) * 3) [.int .i64 a, .slice b.a b.n b.c, .slice c.a c.n c.c] ∧
      Let (w.alloc (.cells (zc Try.prog 52) 52)) fun w4 => StoreOk w4 w.heap.size 0 [.int .i64 a, .slice b.a b.n b.c, .slice c.a c.n c.c] 3 ∧ Let (put w4 w.heap.size 0 [.int .i64 a, .slice b.a b.n b.c, .slice c.a c.n c.c]) fun w5 => B w5 := by
  obtain ⟨p, hp, h2, h3, hr⟩ := Sli.at eR_len hs.sl hi
  obtain ⟨a, b, c⟩ := new_var w 52 (z := zc Try.prog 52) (vs := eR l[i]) (by rw [zc52, eR_len]) (eR_one _)
  exact ⟨p, hp, h2, h3, _, _, _, hr, a, hB _ b c⟩

/-! ### an atom under values -/
/-- An atom of rules, as far as running goes. -/
def AtOk (f : Fa) : Prop := f.args.length ≤ 2 ∧ ∀ x ∈ f.args, -6 ≤ x ∧ x ≤ 7
def gV (v : List Int) (x : Int) : Int := if x < 0 then -x else v.getD x.toNat 0
def gA (v l : List Int) (i : Nat) : Int := match l[i]? with | none => 0 | some x => gV v x
def gnd (f : Fa) (v : List Int) : Ky := ⟨f.rel, gA v f.args 0, gA v f.args 1⟩
theorem zc114 : (zc Try.prog 114).toList = vI [0, 0] := by kernel_rfl
theorem zc178 : (zc Try.prog 178).toList = vI [0, 0, 0, 0, 0, 0, 0, 0] := by kernel_rfl
theorem c115 {w : World} {v : List Int} {x : DF} (hv : v.length = 8) (hx : Ints w x.sl x.args) (ho : AtOk x.p) :
    Calls Try.prog 115 [.agg (vI v).toArray, .agg [.int .i64 x.rel, .slice x.sl.a x.sl.n x.sl.c].toArray].toArray w fun e w' => e = .returned (.agg [.int .i64 (gnd x.p v).rel, .int .i64 (gnd x.p v).a, .int .i64 (gnd x.p v).b].toArray) ∧ Ext w w' := by
  refine (call115 (vI v) x.rel x.sl (R := fun u w' => u = (.agg [.int .i64 (gnd x.p v).rel, .int .i64 (gnd x.p v).a, .int .i64 (gnd x.p v).b].toArray) ∧ Ext w w') ?_).mono fun e w' ⟨v, he, hv, hx⟩ => ⟨by rw [he, hv], hx⟩
  have hn := hx.len
  have hl2 : x.args.length ≤ 2 := ho.1
  refine Let.intro fun w1 e1 => ?_
  have b1 : Blk w1 w.heap.size (vI v) 178 := by rw [e1]; exact Blk.alloc w _ 178
  have x1 : Ext w w1 := by rw [e1]; exact Ext.alloc ..
  obtain ⟨b2, x2⟩ := eF_cells w1 x 48
  refine Let.intro fun w2 e2 => ?_
  have e2 : w2 = w1.alloc (.cells (eF x).toArray 48) := e2
  rw [← e2] at b2 x2
  obtain ⟨b3, x3⟩ := zc121b w2
  refine Let.intro fun w3 e3 => ?_
  rw [← e3] at b3 x3
  refine Let.intro fun w4 e4 => ?_
  have b4 : Blk w4 w3.heap.size (vI [0, 0]) 114 := by rw [e4, ← zc114]; simpa using Blk.alloc w3 (zc Try.prog 114).toList 114
  have x4 : Ext w3 w4 := by rw [e4]; exact Ext.alloc ..
  have l1 := b1.lt
  have l2 := b2.lt
  have l3 := b3.lt
  have z2 := x2.size
  have z3 := x3.size
  have b1 := ((b1.ext x2).ext x3).ext x4
  have b2 := (b2.ext x3).ext x4
  have b3 := b3.ext x4
  have x04 := ((x1.trans x2).trans x3).trans x4
  refine ⟨x.sl, b2.cell 1, ?_⟩
  refine ⟨fun w5 => Blk w5 w3.heap.size (vI [gA v x.args 0, gA v x.args 1]) 114 ∧ Fr (fun y => y = w3.heap.size) w4 w5, ?_, ?_⟩
  · rintro w5 ⟨c4, f5⟩
    have c2 := b2.fr f5 (by omega)
    have c3 := b3.fr f5 (by omega)
    obtain ⟨s1, s2, s3⟩ := blk_all c3 (vs := eK (gnd x.p v)) rfl (eK_one _)
    refine ⟨x.rel, c2.cell 0, by decide, by decide, _, c4.cell 0, by decide, by decide, _, c4.cell 1, s1, Let.intro fun w6 e6 => ?_⟩
    have e6 : w6 = put w5 w2.heap.size 0 (eK (gnd x.p v)) := e6
    rw [← e6] at s2 s3
    refine ⟨_, _, _, s2.rd, rfl, (x04.newer f5 fun y (hy : y = w3.heap.size) => by have := x1.size; omega).newer s3 fun y (hy : y = w2.heap.size) => by have := x1.size; omega⟩
  · refine rangeI (fun i w5 => Blk w5 w3.heap.size (vI [gA v (x.args.take i) 0, gA v (x.args.take i) 1]) 114 ∧ Fr (fun y => y = w3.heap.size) w4 w5) (by rw [hn]; show x.args.length ≤ 9223372036854775807; omega) ⟨by simpa [gA] using b4, Fr.refl _ _⟩ ?_ ?_
    · rintro i hi w7 ⟨c4, f7⟩ K hK
      have hi : i < x.args.length := by omega
      have c1 := b1.fr f7 (by omega)
      have x07 : Ext w w7 := x04.newer f7 fun y (hy : y = w3.heap.size) => by have := x1.size; omega
      obtain ⟨p, hp, a1, a2, hr⟩ := Ints.at (hx.ext x07) hi
      have hb := ho.2 _ (List.getElem_mem hi)
      refine ⟨p, hp, a1, a2, _, hr, ?_⟩
      have hstep : ([gA v (x.args.take i) 0, gA v (x.args.take i) 1] : List Int).set i (gV v x.args[i]) = [gA v (x.args.take (i + 1)) 0, gA v (x.args.take (i + 1)) 1] := by
        have h0 : i = 0 ∨ i = 1 := by omega
        rcases h0 with rfl | rfl
        · simp [gA, List.getElem?_take, hi]
        · have h1 : 0 < x.args.length := by omega
          simp [gA, List.getElem?_take, hi, h1]
      refine Join.dir (cond_intro (fun g => ?_) (fun g => ?_))
      · have g : x.args[i] < 0 := by simpa using g
        have hb : -6 ≤ x.args[i] := hb.1
        have ew : IntKind.wrap .i64 (0 - x.args[i]) = gV v x.args[i] := by rw [wrap64 (by omega) (by omega)]; simp [gV, g]
        rw [ew]
        obtain ⟨s1, s2, s3⟩ := blkPut c4 (i := i) (by simp; omega) (o := 0 + Int.toNat (i : Int) * 1) (by omega) (gV v x.args[i])
        refine ⟨by omega, by omega, s1, Let.intro fun w10 e10 => ?_⟩
        rw [← e10] at s2 s3
        rw [hstep] at s2
        exact hK _ ⟨s2, f7.trans s3 fun _ _ h => h⟩
      · have g : ¬ x.args[i] < 0 := by simpa using g
        have hb : x.args[i] ≤ 7 := hb.2
        have hcell := blkAt c1 (i := (x.args[i]).toNat) (by omega) (o := 0 + Int.toNat x.args[i] * 1) (by omega)
        have ew : v.getD (x.args[i]).toNat 0 = gV v x.args[i] := by rw [gV, if_neg g]
        rw [ew] at hcell
        obtain ⟨s1, s2, s3⟩ := blkPut c4 (i := i) (by simp; omega) (o := 0 + Int.toNat (i : Int) * 1) (by omega) (gV v x.args[i])
        refine ⟨by omega, by omega, _, hcell, by omega, by omega, s1, Let.intro fun w10 e10 => ?_⟩
        rw [← e10] at s2 s3
        rw [hstep] at s2
        exact hK _ ⟨s2, f7.trans s3 fun _ _ h => h⟩
    · rintro w5 ⟨c4, f5⟩
      rw [hn, List.take_length] at c4
      exact ⟨c4, f5⟩
/-! ### values that fit -/
def fitA : List Int → List Int → List Int → Option (List Int)
  | v, [], _ => some v
  | _, _ :: _, [] => none
  | v, x :: r, n :: ns => if (x < 0 ∧ -x ≠ n) ∨ (0 ≤ x ∧ v.getD x.toNat 0 ≠ 0 ∧ v.getD x.toNat 0 ≠ n) then none else fitA (if 0 ≤ x then v.set x.toNat n else v) r ns
def fitK (v : List Int) (a : Fa) (k : Ky) (v' : List Int) : Prop := a.rel = k.rel ∧ fitA v a.args [k.a, k.b] = some v'
theorem fitA_len : ∀ {v l m v' : List Int}, fitA v l m = some v' → v'.length = v.length
  | _, [], _, _, h => by simp [fitA] at h; rw [h]
  | _, _ :: _, [], _, h => by simp [fitA] at h
  | v, x :: r, n :: ns, v', h => by
    rw [fitA] at h
    split at h
    · cases h
    · have := fitA_len h
      rw [this]; split <;> simp
theorem c128 {w : World} {v : List Int} {x : DF} {k : Ky} (hv : v.length = 8) (hx : Ints w x.sl x.args) (ho : AtOk x.p) :
    Calls Try.prog 128 [.agg (vI v).toArray, .agg [.int .i64 x.rel, .slice x.sl.a x.sl.n x.sl.c].toArray, .agg [.int .i64 k.rel, .int .i64 k.a, .int .i64 k.b].toArray].toArray w fun e w' => ∃ (v' : List Int) (b : Bool), e = .returned (.tuple [.agg (vI v').toArray, .bool b].toArray) ∧ v'.length = 8 ∧ (b = true → fitK v x.p k v') ∧ (b = false → ∀ u, ¬ fitK v x.p k u) ∧ Ext w w' := by
  refine (call128 (vI v) x.rel x.sl k.rel k.a k.b (R := fun u w' => ∃ (v' : List Int) (b : Bool), u = (.tuple [.agg (vI v').toArray, .bool b].toArray) ∧ v'.length = 8 ∧ (b = true → fitK v x.p k v') ∧ (b = false → ∀ u, ¬ fitK v x.p k u) ∧ Ext w w') ?_).mono fun e w' ⟨u, he, v', b, hv, hx⟩ => ⟨v', b, by rw [he, hv], hx⟩
  have hn := hx.len
  have hl2 : x.args.length ≤ 2 := ho.1
  refine Let.intro fun w1 e1 => ?_
  have b1 : Blk w1 w.heap.size (vI v) 178 := by rw [e1]; exact Blk.alloc w _ 178
  have x1 : Ext w w1 := by rw [e1]; exact Ext.alloc ..
  obtain ⟨b2, x2⟩ := eF_cells w1 x 48
  refine Let.intro fun w2 e2 => ?_
  have e2 : w2 = w1.alloc (.cells (eF x).toArray 48) := e2
  rw [← e2] at b2 x2
  refine Let.intro fun w3 e3 => ?_
  have b3 : Blk w3 w2.heap.size (eK k) 121 := by rw [e3]; exact Blk.alloc w2 (eK k) 121
  have x3 : Ext w2 w3 := by rw [e3]; exact Ext.alloc ..
  refine Let.intro fun w4 e4 => ?_
  have b4 : Blk w4 w3.heap.size (vI [0, 0, 0, 0, 0, 0, 0, 0]) 178 := by rw [e4, ← zc178]; simpa using Blk.alloc w3 (zc Try.prog 178).toList 178
  have x4 : Ext w3 w4 := by rw [e4]; exact Ext.alloc ..
  have l1 := b1.lt
  have l2 := b2.lt
  have l3 := b3.lt
  have l4 := b4.lt
  have z1 := x1.size
  have z2 := x2.size
  have z3 := x3.size
  have b1 := ((b1.ext x2).ext x3).ext x4
  have b2 := (b2.ext x3).ext x4
  have b3 := b3.ext x4
  have x04 := ((x1.trans x2).trans x3).trans x4
  have hx4 := hx.ext x04
  refine ⟨x.sl, b2.cell 1, ?_⟩
  have f4 : Fr (fun y => y = w.heap.size) w4 w4 := Fr.refl _ _
  refine ⟨fun w5 => ∃ v' : List Int, v'.length = 8 ∧ fitA v x.args [k.a, k.b] = some v' ∧ Blk w5 w.heap.size (vI v') 178 ∧ Fr (fun y => y = w.heap.size) w4 w5, ?_, ?_⟩
  · rintro w5 ⟨v', hv', hfit, c1, f5⟩
    have c2 := b2.fr f5 (by omega)
    have c3 := b3.fr f5 (by omega)
    have c4 := b4.fr f5 (by omega)
    have x5 : Ext w w5 := x04.newer f5 fun y (hy : y = w.heap.size) => by omega
    refine ⟨fun u => Fr (fun y => y = w3.heap.size) w5 u, Fr.mono (Ext.drew _) fun _ _ h => h.elim, Let.intro fun w6 e6 => ?_⟩
    have x6 : Ext w5 w6 := by rw [e6]; exact Ext.drew _
    obtain ⟨s1, s2, s3⟩ := blk_all (c4.ext x6) (vs := vI v') (by simp [vI, hv']) (vI_one _)
    rw [vI_len, hv'] at s1
    refine ⟨vI v', by rw [vI_len, hv'], fun u hu => (c1.fr hu (by omega)).rd, x.rel, fun u hu => (c2.fr hu (by omega)).cell 0, k.rel, fun u hu => (c3.fr hu (by omega)).cell 0, s1, Let.intro fun w7 e7 => ?_⟩
    rw [← e7] at s2 s3
    refine ⟨x6.fr s3, vI v', by rw [vI_len, hv'], s2.rd, v', _, rfl, hv', fun hb => ?_, fun hb u hu => ?_, (x5.trans x6).newer s3 fun y (hy : y = w3.heap.size) => by omega⟩
    · exact ⟨(by simpa using hb : x.rel = k.rel), hfit⟩
    · have hb : x.rel ≠ k.rel := by simpa using hb
      exact hb hu.1
  · have hkl : ∀ i : Nat, i < 2 → ([k.a, k.b] : List Int)[i]? = some (([k.a, k.b] : List Int).getD i 0) := fun i hi => by
      have h0 : i = 0 ∨ i = 1 := by omega
      rcases h0 with rfl | rfl <;> rfl
    refine rangeI (fun i w5 => ∃ v' : List Int, v'.length = 8 ∧ fitA v x.args [k.a, k.b] = fitA v' (x.args.drop i) (([k.a, k.b] : List Int).drop i) ∧ Blk w5 w.heap.size (vI v') 178 ∧ Fr (fun y => y = w.heap.size) w4 w5) (by rw [hn]; show x.args.length ≤ 9223372036854775807; omega) ⟨v, hv, rfl, b1, f4⟩ ?_ ?_
    · rintro i hi w8 ⟨v', hv', hfit, c1, f8⟩ K hK
      have hi : i < x.args.length := by omega
      have c2 := b2.fr f8 (by omega)
      have c3 := b3.fr f8 (by omega)
      have c4 := b4.fr f8 (by omega)
      have x8 : Ext w w8 := x04.newer f8 fun y (hy : y = w.heap.size) => by omega
      obtain ⟨p, hp, a1, a2, hr⟩ := Ints.at (hx.ext x8) hi
      have hb := ho.2 _ (List.getElem_mem hi)
      have hd : x.args.drop i = x.args[i] :: x.args.drop (i + 1) := List.drop_eq_getElem_cons hi
      have hd2 : ([k.a, k.b] : List Int).drop i = ([k.a, k.b] : List Int).getD i 0 :: ([k.a, k.b] : List Int).drop (i + 1) := by
        have h0 : i = 0 ∨ i = 1 := by omega
        rcases h0 with rfl | rfl <;> rfl
      generalize hN : ([k.a, k.b] : List Int).getD i 0 = n at hd2
      have hcell : ([.int .i64 k.a, .int .i64 k.b] : List Value)[Int.toNat (i : Int)]? = some (.int .i64 n) := by
        rw [← hN]
        have h0 : i = 0 ∨ i = 1 := by omega
        rcases h0 with rfl | rfl <;> rfl
      generalize hX : x.args[i] = y at hr hd hb
      have hb1 : -6 ≤ y := hb.1
      have hb2 : y ≤ 7 := hb.2
      rw [hd, hd2, fitA] at hfit
      refine ⟨p, hp, a1, a2, y, hr, k.a, c3.cell 1, k.b, c3.cell 2, by omega, by omega, n, hcell, ?_⟩
      have hneg : IntKind.wrap .i64 (0 - y) = -y := by rw [wrap64 (by omega) (by omega)]; omega
      rw [hneg]
      refine Join.dir ?_
      refine ⟨fun (b26 : Bool) w11 => (b26 = true ↔ (y < 0 ∧ -y ≠ n) ∨ (0 ≤ y ∧ v'.getD y.toNat 0 ≠ 0 ∧ v'.getD y.toNat 0 ≠ n)) ∧ w11 = w8, ?_, ?_⟩
      · rintro b26 w11 ⟨hb26, rfl⟩
        refine cond_intro (fun g => ?_) (fun g => ?_)
        · rw [if_pos (hb26.1 g)] at hfit
          obtain ⟨s1, s2, s3⟩ := blk_all c4 (vs := vI v') (by simp [vI, hv']) (vI_one _)
          rw [vI_len, hv'] at s1
          refine ⟨vI v', by rw [vI_len, hv'], c1.rd, s1, Let.intro fun w12 e12 => ?_⟩
          rw [← e12] at s2 s3
          refine ⟨vI v', by rw [vI_len, hv'], s2.rd, v', false, rfl, hv', (fun h => by cases h), fun _ u hu => ?_, x8.newer s3 fun y (hy : y = w3.heap.size) => by omega⟩
          have := hu.2
          have hfit' : fitA v x.p.args [k.a, k.b] = none := hfit
          rw [hfit'] at this; cases this
        · rw [if_neg (fun h => by rw [hb26.2 h] at g; cases g)] at hfit
          refine Join.dir (cond_intro (fun g2 => ?_) (fun g2 => ?_))
          · have g2 : 0 ≤ y := by simpa using g2
            rw [if_pos g2] at hfit
            obtain ⟨s1, s2, s3⟩ := blkPut c1 (i := y.toNat) (by omega) (o := 0 + Int.toNat y * 1) (by omega) n
            refine ⟨g2, by omega, s1, Let.intro fun w14 e14 => ?_⟩
            rw [← e14] at s2 s3
            exact hK _ ⟨_, by simp [hv'], hfit, s2, f8.trans s3 fun _ _ h => h⟩
          · have g2 : ¬ 0 ≤ y := by simpa using g2
            rw [if_neg g2] at hfit
            exact hK _ ⟨_, hv', hfit, c1, f8⟩
      · have hget : 0 ≤ y → World.cell? w8 ⟨w.heap.size, 0 + Int.toNat y * 1, none⟩ = some (.int .i64 (v'.getD y.toNat 0)) := fun h => blkAt c1 (i := y.toNat) (by omega) (o := 0 + Int.toNat y * 1) (by omega)
        refine cond_intro (fun g1 => ?_) (fun g1 => ?_)
        · have g1 : y < 0 := by simpa using g1
          refine cond_intro (fun g2 => ⟨?_, rfl⟩) (fun g2 => ?_)
          · have g2 : -y ≠ n := by simpa using g2
            simp [g1, g2]
          · have g2 : -y = n := by simpa using g2
            refine cond_intro (fun g3 => by simp at g3; omega) (fun g3 => ⟨?_, rfl⟩)
            simp only [Bool.false_eq_true, false_iff]
            rintro (⟨_, h⟩ | ⟨h, _⟩)
            · exact h g2
            · omega
        · have g1 : ¬ y < 0 := by simpa using g1
          refine cond_intro (fun g2 => ?_) (fun g2 => by simp at g2; omega)
          refine ⟨by omega, by omega, _, hget (by omega), cond_intro (fun g3 => ⟨by omega, by omega, _, hget (by omega), ?_, rfl⟩) (fun g3 => ⟨?_, rfl⟩)⟩
          · have g3 : v'.getD y.toNat 0 ≠ 0 := by simpa using g3
            rw [bne_iff_ne]
            constructor
            · exact fun h => .inr ⟨by omega, g3, h⟩
            · rintro (⟨h, _⟩ | ⟨_, _, h⟩)
              · omega
              · exact h
          · have g3 : v'.getD y.toNat 0 = 0 := by simpa using g3
            simp only [Bool.false_eq_true, false_iff]
            rintro (⟨h, _⟩ | ⟨_, h, _⟩)
            · omega
            · exact h g3
    · rintro w5 ⟨v', hv', hfit, c1, f5⟩
      refine ⟨v', hv', ?_, c1, f5⟩
      rw [hn, List.drop_length] at hfit
      rw [hfit]; rfl
end Go.Proofs.Ytoljknamnkkgcaa
/-
  Contract: the instances of a rule are handed to a closure, one after another.
-/
namespace Go.Proofs.Ytoljknamnkkgcaa
open Go Go.VC
set_option maxHeartbeats 1000000
set_option maxRecDepth 100000

/-- The values that make the literals without Not facts of a set. -/
def En (In : Ky → Prop) : List Li → List Int → List Int → Prop
  | [], v, u => u = v
  | b :: r, v, u => if b.neg = true then En In r v u else ∃ g v', In g ∧ fitK v b.a g v' ∧ En In r v' u
def NegOk (Nt : Ky → Prop) (body : List Li) (u : List Int) : Prop := ∀ b ∈ body, b.neg = true → ¬ Nt (gnd b.a u)
/-- A set that may be nil. -/
def NotM (w : World) (m : Option Nat) (Nt : Ky → Prop) : Prop := (m = none ∧ ∀ k, ¬ Nt k) ∨ ∃ b, m = some b ∧ FM w b Nt
theorem NotM.look {w : World} {m : Option Nat} {Nt : Ky → Prop} (h : NotM w m Nt) (k : Ky) :
    ∃ r : Bool, (Instr.lookup 105 (.map m) (.agg [.int .i64 k.rel, .int .i64 k.a, .int .i64 k.b].toArray) false).run Try.prog w = .ok (.bool r) w ∧ (r = true ↔ Nt k) := by
  rcases h with ⟨rfl, h⟩ | ⟨b, rfl, h⟩
  · exact ⟨false, look_nil K121 u105 zero4 k, by simp [h k]⟩
  · exact h.look K121 u105 zero4 k

/-! ### what calls of a closure may change -/
structure Rl (own : World → Nat → Prop) (w w' : World) : Prop where
  fr : Fr (own w) w w'
  ow : ∀ b, b < w.heap.size → own w' b → own w b
theorem Rl.refl (own : World → Nat → Prop) (w : World) : Rl own w w := ⟨Fr.refl _ _, fun _ _ h => h⟩
theorem Rl.trans {own : World → Nat → Prop} {a b c : World} (h : Rl own a b) (k : Rl own b c) : Rl own a c :=
  ⟨h.fr.trans k.fr fun i hi ho => h.ow i hi ho, fun i hi ho => h.ow i hi (k.ow i (Nat.lt_of_lt_of_le hi h.fr.size) ho)⟩
theorem Rl.ext {own : World → Nat → Prop} {w w' : World} (x : Ext w w') (h : ∀ b, own w' b → own w b) : Rl own w w' := ⟨x.mono fun _ _ h => h.elim, fun b _ h' => h b h'⟩
/-- A block that the calls keep. -/
structure Kp (own : World → Nat → Prop) (w : World) (q : Nat) (l : List Value) (T : TypeId) : Prop where
  b : Blk w q l T
  n : ¬ own w q
theorem Kp.rl {own : World → Nat → Prop} {w w' : World} {q : Nat} {l : List Value} {T : TypeId} (h : Kp own w q l T) (k : Rl own w w') : Kp own w' q l T := ⟨h.b.fr k.fr h.n, fun h' => h.n (k.ow q h.b.lt h')⟩
/-- What a closure that is called leaves: I, of the values handed to it. -/
structure Cb (own : World → Nat → Prop) (I : List (List Int) → World → Prop) : Prop where
  ext : ∀ {vs w w'}, I vs w → Ext w w' → I vs w' ∧ ∀ b, own w' b → own w b
  lt : ∀ {vs w b}, I vs w → own w b → b < w.heap.size
theorem Cb.rl {own : World → Nat → Prop} {I : List (List Int) → World → Prop} (C : Cb own I) {vs : List (List Int)} {w w' : World} (h : I vs w) (x : Ext w w') : I vs w' ∧ Rl own w w' := ⟨(C.ext h x).1, Rl.ext x (C.ext h x).2⟩
theorem Cb.kp {own : World → Nat → Prop} {I : List (List Int) → World → Prop} (C : Cb own I) {vs : List (List Int)} {w w' : World} (h : I vs w) (x : Ext w w') {q : Nat} {l : List Value} {T : TypeId} (hb : Blk w' q l T) (hq : w.heap.size ≤ q) : Kp own w' q l T :=
  ⟨hb, fun ho => by have := C.lt h ((C.ext h x).2 q ho); omega⟩

/-! ### the recursion -/
def capT (R0 N0 F0 T0 B0 : Nat) : List Value := [.pointer (some ⟨R0, 0, none⟩), .pointer (some ⟨N0, 0, none⟩), .pointer (some ⟨F0, 0, none⟩), .pointer (some ⟨T0, 0, none⟩), .pointer (some ⟨B0, 0, none⟩)]
structure GearAt (w : World) (r : DR) (m2 : Option Nat) (Nt : Ky → Prop) (f : Nat) (c : List Value) (R0 N0 F0 T0 B0 Q : Nat) (bs : Int → Sl) (bk : Int → List Ky) : Prop where
  rb : Blk w R0 (eR r) 52
  nb : Blk w N0 [.map m2] 105
  fb : Blk w F0 [.func (.func f) #[] c.toArray] 180
  tb : Blk w T0 [.func (.func 127) #[] (capT R0 N0 F0 T0 B0).toArray] 192
  bb : Blk w B0 [.map (some Q)] 191
  ro : RulOk w r
  nm : NotM w m2 Nt
  lk : ∀ rel : Int, (Instr.lookup 191 (.map (some Q)) (.int .i64 rel) false).run Try.prog w = .ok (.slice (bs rel).a (bs rel).n (bs rel).c) w
  sl : ∀ rel : Int, Sli 3 eK w (bs rel) (bk rel)
theorem callable127 : callable Try.prog 127 = true := by kernel_rfl
section
variable {own : World → Nat → Prop} {I : List (List Int) → World → Prop} {wC : World} {r : DR} {m2 : Option Nat} {Nt In : Ky → Prop} {f : Nat} {c : List Value} {R0 N0 F0 T0 B0 Q : Nat} {bs : Int → Sl} {bk : Int → List Ky} {P : List Int → Prop}
theorem c127 (C : Cb own I) (G : ∀ w, Rl own wC w → GearAt w r m2 Nt f c R0 N0 F0 T0 B0 Q bs bk) (hbk : ∀ rel k, k ∈ bk rel ↔ In k ∧ k.rel = rel) (hbl : ∀ rel, (bk rel).length ≤ 1000) (hca : callable Try.prog f = true)
    (Bnd : Nat) (hcall : ∀ vs v w, Rl own wC w → I vs w → vs.length < Bnd → v.length = 8 → P v → Calls Try.prog f (([.agg (vI v).toArray] : List Value) ++ c).toArray w fun e w' => e = .returned (.tuple [].toArray) ∧ I (vs ++ [v]) w' ∧ Rl own w w')
    (hat : ∀ b ∈ r.body, AtOk b.a.p) (hb3 : r.body.length ≤ 1000) :
    ∀ (n k : Nat), r.body.length - k = n → k ≤ r.body.length → ∀ (v : List Int) (vs : List (List Int)) (w : World), Rl own wC w → I vs w → vs.length + 1000 ^ (r.body.length - k) ≤ Bnd → v.length = 8 → (∀ u, En In ((r.body.map DL.p).drop k) v u → NegOk Nt (r.body.map DL.p) u → P u) →
      Calls Try.prog 127 [.int .i64 (k : Int), .agg (vI v).toArray, .pointer (some ⟨R0, 0, none⟩), .pointer (some ⟨N0, 0, none⟩), .pointer (some ⟨F0, 0, none⟩), .pointer (some ⟨T0, 0, none⟩), .pointer (some ⟨B0, 0, none⟩)].toArray w fun e w' =>
        e = .returned (.tuple [].toArray) ∧ ∃ vs', I (vs ++ vs') w' ∧ vs'.length ≤ 1000 ^ (r.body.length - k) ∧ Rl own w w' ∧ ∀ u, u ∈ vs' ↔ En In ((r.body.map DL.p).drop k) v u ∧ NegOk Nt (r.body.map DL.p) u := by
  intro n
  induction n with
  | zero =>
    intro k hk hkl v vs w hw hI hB hv hP
    have hk : k = r.body.length := by omega
    subst hk
    rw [Nat.sub_self] at hB
    refine (call127 (r.body.length : Nat) (vI v) ⟨R0, 0⟩ ⟨N0, 0⟩ ⟨F0, 0⟩ ⟨T0, 0⟩ ⟨B0, 0⟩ (R := fun u w' => u = .tuple [].toArray ∧ ∃ vs', I (vs ++ vs') w' ∧ vs'.length ≤ 1000 ^ (r.body.length - r.body.length) ∧ Rl own w w' ∧ ∀ u, u ∈ vs' ↔ En In ((r.body.map DL.p).drop r.body.length) v u ∧ NegOk Nt (r.body.map DL.p) u) ?_).mono fun e w' ⟨u, he, hu, hx⟩ => ⟨by rw [he, hu], hx⟩
    have hen : ∀ u, En In ((r.body.map DL.p).drop r.body.length) v u ↔ u = v := fun u => by rw [List.drop_eq_nil_of_le (by simp)]; rfl
    refine Let.intro fun w1 e1 => ?_
    have b1 : Blk w1 w.heap.size (vI v) 178 := by rw [e1]; exact Blk.alloc w _ 178
    have x1 : Ext w w1 := by rw [e1]; exact Ext.alloc ..
    obtain ⟨hI1, R1⟩ := C.rl hI x1
    have G1 := G w1 (hw.trans R1)
    have hbn := G1.ro.bd.len
    refine ⟨r.bs, G1.rb.cell 2, cond_intro (fun _ => ?_) (fun h => by simp at h; omega)⟩
    refine ⟨r.bs, G1.rb.cell 2, ?_⟩
    refine ⟨fun w2 => Ext w1 w2 ∧ NegOk Nt (r.body.map DL.p) v, ?_, ?_⟩
    · rintro w2 ⟨x2, hneg⟩
      obtain ⟨hI2, R2⟩ := C.rl hI1 x2
      have G2 := G w2 ((hw.trans R1).trans R2)
      refine ⟨f, c, G2.fb.cell 0, vI v, by rw [vI_len, hv], (b1.ext x2).rd, ?_⟩
      rw [hca]
      refine (hcall vs v w2 ((hw.trans R1).trans R2) hI2 (by omega) hv (hP v ((hen v).2 rfl) hneg)).mono fun e w3 ⟨he, hI3, R3⟩ => ⟨he, rfl, [v], hI3, by simp, (R1.trans R2).trans R3, fun u => ?_⟩
      rw [hen]
      simp only [List.mem_singleton]
      exact ⟨fun h => ⟨h, h ▸ hneg⟩, fun h => h.1⟩
    · refine rangeI (fun i w4 => Ext w1 w4 ∧ ∀ b ∈ (r.body.map DL.p).take i, b.neg = true → ¬ Nt (gnd b.a v)) (by rw [hbn]; show r.body.length ≤ 9223372036854775807; omega) ⟨Fr.refl _ _, by simp⟩ ?_ ?_
      · rintro i hi w4 ⟨x4, hno⟩ K hK
        have hi : i < r.body.length := by omega
        obtain ⟨hI4, R4⟩ := C.rl hI1 x4
        have G4 := G w4 ((hw.trans R1).trans R4)
        have hmap : (r.body.map DL.p)[i]'(by simpa using hi) = (r.body[i]).p := by simp
        refine loadL G4.ro.bd hi fun w7 b7 x7 => ?_
        have x17 := x4.trans x7
        have bv7 := b1.ext x17
        refine ⟨fun (b37 : Bool) w8 => (b37 = true ↔ (r.body[i].neg = true ∧ Nt (gnd (r.body[i]).p.a v))) ∧ Ext w1 w8, ?_, ?_⟩
        · rintro b37 w8 ⟨hb37, x8⟩
          refine cond_intro (fun g => ?_) (fun g => ?_)
          · obtain ⟨hI8, R8⟩ := C.rl hI1 x8
            refine ⟨rfl, [], by simpa using hI8, by simp, R1.trans R8, fun u => ?_⟩
            have hg := hb37.1 g
            rw [hen]
            simp only [List.not_mem_nil, false_iff, not_and]
            rintro rfl hneg
            exact hneg (r.body[i]).p (List.mem_map.2 ⟨_, List.getElem_mem hi, rfl⟩) hg.1 hg.2
          · refine hK _ ⟨x8, fun b hb hbn => ?_⟩
            rw [List.take_succ_eq_append_getElem (by simpa using hi), List.mem_append, List.mem_singleton, hmap] at hb
            rcases hb with hb | hb
            · exact hno b hb hbn
            · subst hb
              intro hnt
              rw [hb37.2 ⟨hbn, hnt⟩] at g; cases g
        · refine ⟨fun u => Ext w7 u, Ext.drew _, Let.intro fun w9 e9 => ?_⟩
          have x9 : Ext w7 w9 := by rw [e9]; exact Ext.drew _
          refine ⟨r.body[i].neg, fun u hu => (b7.ext hu).cell 0, cond_intro (fun g => ?_) (fun g => ⟨by simp [g], x17.trans x9⟩)⟩
          have hnb : ∀ u, Ext w7 u → Blk u N0 [.map m2] 105 := fun u hu => (G4.nb.ext x7).ext hu
          have hint : Ints w9 (r.body[i]).a.sl (r.body[i]).a.args := ((G4.ro.bd.ok _ (List.getElem_mem hi)).ext x7).ext x9
          refine ⟨m2, fun u hu => (hnb u hu).cell 0, vI v, by rw [vI_len, hv], fun u hu => (bv7.ext hu).rd, (r.body[i]).a.rel, (r.body[i]).a.sl, fun u hu => ?_, ?_⟩
          · exact (b7.ext hu).rd_drop (o := 1) fun j x hx => by
              rcases j with _ | _ | j
              · simpa [eL] using hx
              · simpa [eL] using hx
              · simp at hx
          refine (c115 (x := (r.body[i]).a) hv hint (hat _ (List.getElem_mem hi))).mono fun e w10 ⟨he, x10⟩ => ⟨_, _, _, he, x9.trans x10, ?_⟩
          obtain ⟨hI10, R10⟩ := C.rl hI1 ((x17.trans x9).trans x10)
          have G10 := G w10 ((hw.trans R1).trans R10)
          obtain ⟨b, _, hbn⟩ := G10.nm.look (gnd (r.body[i]).p.a v)
          refine ⟨b, fun u hu => ?_, ?_⟩
          · obtain ⟨hIu, Ru⟩ := C.rl hI1 (x17.trans hu)
            have Gu := G u ((hw.trans R1).trans Ru)
            obtain ⟨b', hr, hbn'⟩ := Gu.nm.look (gnd (r.body[i]).p.a v)
            have : b' = b := by
              cases b <;> cases b' <;> simp_all
            subst this
            exact hr
          · exact ⟨by rw [hbn]; simp [g], (x17.trans x9).trans x10⟩
      · rintro w5 ⟨x5, hno⟩
        refine ⟨x5, fun b hb hbneg => hno b ?_ hbneg⟩
        rw [hbn, List.take_of_length_le (by simp)]; exact hb
  | succ n ih =>
    intro k hk hkl v vs w hw hI hB hv hP
    have hkb : k < r.body.length := by omega
    have hpw : 1000 ^ (r.body.length - k) = 1000 ^ (r.body.length - (k + 1)) * 1000 := by rw [← Nat.pow_succ]; congr 1; omega
    have hp1 : 1 ≤ 1000 ^ (r.body.length - (k + 1)) := Nat.one_le_pow _ _ (by omega)
    refine (call127 (k : Nat) (vI v) ⟨R0, 0⟩ ⟨N0, 0⟩ ⟨F0, 0⟩ ⟨T0, 0⟩ ⟨B0, 0⟩ (R := fun u w' => u = .tuple [].toArray ∧ ∃ vs', I (vs ++ vs') w' ∧ vs'.length ≤ 1000 ^ (r.body.length - k) ∧ Rl own w w' ∧ ∀ u, u ∈ vs' ↔ En In ((r.body.map DL.p).drop k) v u ∧ NegOk Nt (r.body.map DL.p) u) ?_).mono fun e w' ⟨u, he, hu, hx⟩ => ⟨by rw [he, hu], hx⟩
    have hd : (r.body.map DL.p).drop k = (r.body[k]).p :: (r.body.map DL.p).drop (k + 1) := by
      rw [List.drop_eq_getElem_cons (by simpa using hkb)]; simp
    rw [hd] at hP ⊢
    refine Let.intro fun w1 e1 => ?_
    have b1 : Blk w1 w.heap.size (vI v) 178 := by rw [e1]; exact Blk.alloc w _ 178
    have x1 : Ext w w1 := by rw [e1]; exact Ext.alloc ..
    obtain ⟨hI1, R1⟩ := C.rl hI x1
    have k1 := C.kp hI x1 b1 (Nat.le_refl _)
    have G1 := G w1 (hw.trans R1)
    have hbn := G1.ro.bd.len
    refine ⟨r.bs, G1.rb.cell 2, cond_intro (fun h => by simp at h; omega) (fun _ => ?_)⟩
    refine ⟨r.bs, G1.rb.cell 2, loadL G1.ro.bd hkb fun w12 b12 x12 => ?_⟩
    obtain ⟨hI12, R12⟩ := C.rl hI1 x12
    have k1 := k1.rl R12
    have k12 := C.kp hI1 x12 b12 (Nat.le_refl _)
    have hw12 := (hw.trans R1).trans R12
    have G12 := G w12 hw12
    have hp : (r.body[k]).p.neg = r.body[k].neg := rfl
    have ewk : IntKind.wrap .i64 ((k : Int) + 1) = ((k + 1 : Nat) : Int) := by rw [wrap64 (by omega) (by omega)]; rfl
    rw [ewk]
    refine ⟨r.body[k].neg, b12.cell 0, cond_intro (fun g => ?_) (fun g => ?_)⟩
    · refine ⟨127, capT R0 N0 F0 T0 B0, G12.tb.cell 0, vI v, by rw [vI_len, hv], k1.b.rd, ?_⟩
      rw [callable127]
      refine (ih (k + 1) (by omega) (by omega) v vs w12 hw12 hI12 (by omega) hv fun u h1 h2 => hP u (by rw [En, if_pos (by rw [hp]; exact g)]; exact h1) h2).mono fun e w13 ⟨he, vs', hI', hl', R', hu⟩ => ⟨he, rfl, vs', hI', by omega, (R1.trans R12).trans R', fun u => ?_⟩
      rw [hu, En, if_pos (by rw [hp]; exact g)]
    · have hnp : ¬ (r.body[k]).p.neg = true := by rw [hp, g]; simp
      have hen : ∀ v u, En In ((r.body[k]).p :: (r.body.map DL.p).drop (k + 1)) v u ↔ ∃ g v', In g ∧ fitK v (r.body[k]).p.a g v' ∧ En In ((r.body.map DL.p).drop (k + 1)) v' u := fun v u => by rw [En, if_neg hnp]
      refine ⟨some Q, G12.bb.cell 0, (r.body[k]).a.rel, b12.cell 1, _, G12.lk _, Join.dir ?_⟩
      generalize hrel : (r.body[k]).a.rel = rel
      have hsn : ∀ w', Rl own wC w' → Sli 3 eK w' (bs rel) (bk rel) := fun w' h => (G w' h).sl rel
      have hn := (hsn w12 hw12).len
      refine rangeI (fun i w15 => ∃ vs', I (vs ++ vs') w15 ∧ vs'.length ≤ i * 1000 ^ (r.body.length - (k + 1)) ∧ Rl own w12 w15 ∧ ∀ u, u ∈ vs' ↔ (∃ g ∈ (bk rel).take i, ∃ v', fitK v (r.body[k]).p.a g v' ∧ En In ((r.body.map DL.p).drop (k + 1)) v' u) ∧ NegOk Nt (r.body.map DL.p) u) (by rw [hn]; have := hbl rel; show (bk rel).length ≤ 9223372036854775807; omega) ⟨[], by simpa using hI12, by simp, Rl.refl _ _, fun u => by simp⟩ ?_ ?_
      · rintro i hi w15 ⟨vs', hI15, hl15, R15, hu15⟩ K hK
        have hi : i < (bk rel).length := by omega
        have hbl' := hbl rel
        have hmul : (i + 1) * 1000 ^ (r.body.length - (k + 1)) ≤ 1000 * 1000 ^ (r.body.length - (k + 1)) := Nat.mul_le_mul_right _ (by omega)
        rw [Nat.add_mul, Nat.one_mul] at hmul
        have hw15 := hw12.trans R15
        have k1 := k1.rl R15
        have k12 := k12.rl R15
        have G15 := G w15 hw15
        obtain ⟨p, hp', a1, a2, hr⟩ := Sli.at eK_len (hsn w15 hw15) hi
        obtain ⟨m1, m2', m3⟩ := new_eK w15 (bk rel)[i]
        have hmem := (hbk rel _).1 (List.getElem_mem hi)
        generalize hgk : (bk rel)[i] = gk at hr m1 m2' m3 hmem
        refine ⟨p, hp', a1, a2, _, _, _, hr, Let.intro fun w17 e17 => ?_⟩
        rw [← e17] at m1 m2' m3
        refine ⟨m1, Let.intro fun w18 e18 => ?_⟩
        have e18 : w18 = put w17 w15.heap.size 0 (eK gk) := e18
        rw [← e18] at m2' m3
        obtain ⟨hI18, R18⟩ := C.rl hI15 m3
        have hw18 := hw15.trans R18
        have G18 := G w18 hw18
        have hint : Ints w18 (r.body[k]).a.sl (r.body[k]).a.args := G18.ro.bd.ok _ (List.getElem_mem hkb)
        refine ⟨vI v, by rw [vI_len, hv], (k1.rl R18).b.rd, (r.body[k]).a.rel, (r.body[k]).a.sl, ?_, _, _, _, m2'.rd, ?_⟩
        · exact (k12.rl R18).b.rd_drop (o := 1) fun j x hx => by
            rcases j with _ | _ | j
            · simpa [eL] using hx
            · simpa [eL] using hx
            · simp at hx
        refine (c128 (x := (r.body[k]).a) (k := gk) hv hint (hat _ (List.getElem_mem hkb))).mono fun e w19 ⟨v', b, he, hv', hbt, hbf, x19⟩ => ⟨vI v', by rw [vI_len, hv'], b, he, ?_⟩
        obtain ⟨n1, n2, n3⟩ := new_var w19 178 (z := zc Try.prog 178) (vs := vI v') (by have := congrArg List.length zc178; simpa [vI, hv'] using this) (vI_one _)
        rw [vI_len, hv'] at n1
        refine Let.intro fun w20 e20 => ?_
        rw [← e20] at n1 n2 n3
        refine ⟨n1, Let.intro fun w21 e21 => ?_⟩
        rw [← e21] at n2 n3
        obtain ⟨hI21, R21⟩ := C.rl hI18 (x19.trans n3)
        have hw21 := hw18.trans R21
        have G21 := G w21 hw21
        have hstep : ∀ (vs'' : List (List Int)), (∀ u, u ∈ vs'' ↔ (∃ v', fitK v (r.body[k]).p.a gk v' ∧ En In ((r.body.map DL.p).drop (k + 1)) v' u) ∧ NegOk Nt (r.body.map DL.p) u) →
            ∀ u, u ∈ vs' ++ vs'' ↔ (∃ g ∈ (bk rel).take (i + 1), ∃ v', fitK v (r.body[k]).p.a g v' ∧ En In ((r.body.map DL.p).drop (k + 1)) v' u) ∧ NegOk Nt (r.body.map DL.p) u := fun vs'' h u => by
          rw [List.mem_append, hu15, h, List.take_succ_eq_append_getElem hi, hgk]
          constructor
          · rintro (⟨⟨g, hg, h1⟩, h2⟩ | ⟨h1, h2⟩)
            · exact ⟨⟨g, List.mem_append_left _ hg, h1⟩, h2⟩
            · exact ⟨⟨gk, by simp, h1⟩, h2⟩
          · rintro ⟨⟨g, hg, h1⟩, h2⟩
            rcases List.mem_append.1 hg with hg | hg
            · exact .inl ⟨⟨g, hg, h1⟩, h2⟩
            · simp only [List.mem_singleton] at hg
              subst hg; exact .inr ⟨h1, h2⟩
        refine Join.dir (cond_intro (fun g2 => ?_) (fun g2 => ?_))
        · have hfit := hbt g2
          refine ⟨127, capT R0 N0 F0 T0 B0, G21.tb.cell 0, vI v', by rw [vI_len, hv'], n2.rd, ?_⟩
          rw [callable127]
          refine (ih (k + 1) (by omega) (by omega) v' (vs ++ vs') w21 hw21 hI21 (by rw [List.length_append]; omega) hv' fun u h1 h2 => hP u ((hen v u).2 ⟨gk, v', hmem.1, hfit, h1⟩) h2).mono fun e w23 ⟨he, vs'', hI', hl'', R', hu⟩ => ⟨he, hK _ ⟨vs' ++ vs'', by rw [← List.append_assoc]; exact hI', by rw [List.length_append, Nat.add_mul, Nat.one_mul]; omega, ((R15.trans R18).trans R21).trans R', hstep vs'' fun u => ?_⟩⟩
          rw [hu]
          constructor
          · rintro ⟨h1, h2⟩; exact ⟨⟨v', hfit, h1⟩, h2⟩
          · rintro ⟨⟨v2, h1, h3⟩, h2⟩
            have : v2 = v' := by
              have e1 := h1.2
              have e2 := hfit.2
              exact Option.some.inj (e1.symm.trans e2)
            subst this
            exact ⟨h3, h2⟩
        · refine hK _ ⟨vs' ++ [], by simpa using hI21, by rw [List.append_nil, Nat.add_mul]; omega, (R15.trans R18).trans R21, hstep [] fun u => ?_⟩
          simp only [List.not_mem_nil, false_iff, not_and]
          rintro ⟨v2, h1, _⟩
          exact absurd h1 (hbf g2 v2)
      · rintro w14 ⟨vs', hI14, hl14, R14, hu14⟩
        have hmul : (bs rel).n * 1000 ^ (r.body.length - (k + 1)) ≤ 1000 * 1000 ^ (r.body.length - (k + 1)) := Nat.mul_le_mul_right _ (by rw [hn]; exact hbl rel)
        refine ⟨rfl, vs', hI14, by omega, (R1.trans R12).trans R14, fun u => ?_⟩
        rw [hu14, hen, hn, List.take_length]
        constructor
        · rintro ⟨⟨g, hg, v', h1, h2⟩, h3⟩
          exact ⟨⟨g, v', ((hbk rel g).1 hg).1, h1, h2⟩, h3⟩
        · rintro ⟨⟨g, v', h0, h1, h2⟩, h3⟩
          exact ⟨⟨g, (hbk rel g).2 ⟨h0, by rw [← h1.1, ← hrel]; rfl⟩, v', h1, h2⟩, h3⟩
end
end Go.Proofs.Ytoljknamnkkgcaa
/-
  Contract: instances: facts by their Rel, then the recursion.
-/
namespace Go.Proofs.Ytoljknamnkkgcaa
open Go Go.VC
set_option maxHeartbeats 1000000
set_option maxRecDepth 100000

theorem E150 : Elem Try.prog 150 121 3 24 := Elem.of (by kernel_rfl) (by kernel_rfl) (by decide)
theorem K3 : KeyOk Try.prog 3 (fun n : Int => Value.int .i64 n) := KeyOk.int (by kernel_rfl)
theorem u191 : Try.prog.underlying 191 = some (.map 3 150) := by kernel_rfl
theorem zeroSl {t : TypeId} (h : (Try.prog.info? t).map (fun i => i.zero) = some (some (.slice none 0 0))) : ∀ w, (zeroValue t).run Try.prog w = .ok (.slice none 0 0) w := fun w => by
  cases hi : Try.prog.info? t with
  | none => rw [hi] at h; cases h
  | some i =>
    rw [hi] at h
    have hz : i.zero = some (.slice none 0 0) := by simpa using h
    simp [zeroValue, typeInfo, hi, hz]
theorem zero150 : ∀ w, (zeroValue 150).run Try.prog w = .ok (.slice none 0 0) w := zeroSl (by kernel_rfl)
theorem zc191 : (zc Try.prog 191).size = 1 := by kernel_rfl
theorem zc192 : (zc Try.prog 192).size = 1 := by kernel_rfl
abbrev veS (s : Sl) : Value := .slice s.a s.n s.c
def nilS : Sl := ⟨none, 0, 0⟩
/-- The keys, by their Rel. -/
structure ByR (B : Nat) (w : World) (Q : Nat) (ks : List Ky) (bs : Int → Sl) (bk : Int → List Ky) : Prop where
  mp : ∃ (l : List (Ent Int Sl)) (c : Nat), Mp (fun n : Int => Value.int .i64 n) veS w Q l c ∧ ∀ rel, (mget l rel).getD nilS = bs rel
  own : ∀ rel, Own 121 3 eK B w (bs rel) (bk rel)
  ap : ∀ rel rel', rel ≠ rel' → ∀ a a', (bs rel).a = some a → (bs rel').a = some a' → a.block ≠ a'.block
  mem : ∀ rel k, k ∈ bk rel ↔ k ∈ ks ∧ k.rel = rel
  len : ∀ rel, (bk rel).length ≤ ks.length
theorem ByR.fr {M : Nat → Prop} {B Q : Nat} {w w' : World} {ks : List Ky} {bs : Int → Sl} {bk : Int → List Ky} (h : ByR B w Q ks bs bk) (f : Fr M w w') (h1 : ¬ M Q) (h2 : ∀ b, B ≤ b → ¬ M b) : ByR B w' Q ks bs bk := by
  obtain ⟨l, c, hm, hl⟩ := h.mp
  exact ⟨⟨l, c, hm.fr f h1, hl⟩, fun rel => (h.own rel).fr f fun a ha => h2 _ ((h.own rel).base ha).1, h.ap, h.mem, h.len⟩
theorem ByR.look {B Q : Nat} {w : World} {ks : List Ky} {bs : Int → Sl} {bk : Int → List Ky} (h : ByR B w Q ks bs bk) (rel : Int) : (Instr.lookup 191 (.map (some Q)) (.int .i64 rel) false).run Try.prog w = .ok (.slice (bs rel).a (bs rel).n (bs rel).c) w := by
  obtain ⟨l, c, hm, hl⟩ := h.mp
  have := (look_run K3 u191 hm zero150 rel).1
  rw [this, ← hl rel]
  cases mget l rel <;> rfl
def z8 : List Int := [0, 0, 0, 0, 0, 0, 0, 0]
section
variable {own : World → Nat → Prop} {I : List (List Int) → World → Prop} {r : DR} {m2 : Option Nat} {Nt In : Ky → Prop} {f : Nat} {c : List Value} {P : List Int → Prop} {vs : List (List Int)} {w : World} {inB : Nat}
theorem c113 (C : Cb own I) (hI : I vs w) (hro : ∀ w', Rl own w w' → RulOk w' r) (hin : FM w inB In) (few : Few In) (hnm : ∀ w', Rl own w w' → NotM w' m2 Nt) (hca : callable Try.prog f = true)
    (Bnd : Nat) (hB : vs.length + 1000 ^ r.body.length ≤ Bnd) (hcall : ∀ vs v w', Rl own w w' → I vs w' → vs.length < Bnd → v.length = 8 → P v → Calls Try.prog f (([.agg (vI v).toArray] : List Value) ++ c).toArray w' fun e w2 => e = .returned (.tuple [].toArray) ∧ I (vs ++ [v]) w2 ∧ Rl own w' w2)
    (hat : ∀ b ∈ r.body, AtOk b.a.p) (hb3 : r.body.length ≤ 1000) (hP : ∀ u, En In (r.body.map DL.p) z8 u → NegOk Nt (r.body.map DL.p) u → P u) :
    Calls Try.prog 113 [.agg [.int .i64 r.head.rel, .slice r.head.sl.a r.head.sl.n r.head.sl.c, .slice r.bs.a r.bs.n r.bs.c].toArray, .map (some inB), .map m2, .func (.func f) #[] c.toArray].toArray w fun e w' =>
      e = .returned (.tuple [].toArray) ∧ ∃ vs', I (vs ++ vs') w' ∧ vs'.length ≤ 1000 ^ r.body.length ∧ Rl own w w' ∧ ∀ u, u ∈ vs' ↔ En In (r.body.map DL.p) z8 u ∧ NegOk Nt (r.body.map DL.p) u := by
  refine (call113 r.head.rel r.head.sl r.bs (some inB) m2 f c (R := fun u w' => u = .tuple [].toArray ∧ ∃ vs', I (vs ++ vs') w' ∧ vs'.length ≤ 1000 ^ r.body.length ∧ Rl own w w' ∧ ∀ u, u ∈ vs' ↔ En In (r.body.map DL.p) z8 u ∧ NegOk Nt (r.body.map DL.p) u) ?_).mono fun e w' ⟨u, he, hu, hx⟩ => ⟨by rw [he, hu], hx⟩
  refine Let.intro fun w1 e1 => ?_
  have b1 : Blk w1 w.heap.size (eR r) 52 := by rw [e1]; exact Blk.alloc w (eR r) 52
  have x1 : Ext w w1 := by rw [e1]; exact Ext.alloc ..
  refine Let.intro fun w2 e2 => ?_
  have b2 : Blk w2 w1.heap.size [.map m2] 105 := by rw [e2]; exact Blk.alloc w1 [.map m2] 105
  have x2 : Ext w1 w2 := by rw [e2]; exact Ext.alloc ..
  refine Let.intro fun w3 e3 => ?_
  have b3 : Blk w3 w2.heap.size [.func (.func f) #[] c.toArray] 180 := by rw [e3]; exact Blk.alloc w2 [.func (.func f) #[] c.toArray] 180
  have x3 : Ext w2 w3 := by rw [e3]; exact Ext.alloc ..
  refine Let.intro fun w4 e4 => ?_
  have m4 : Mp (fun n : Int => Value.int .i64 n) veS w4 w3.heap.size ([] : List (Ent Int Sl)) 0 := by rw [e4]; exact Mp.made w3
  have x4 : Ext w3 w4 := by rw [e4]; exact Ext.alloc ..
  obtain ⟨n1, n2, n3⟩ := new_var w4 191 (z := zc Try.prog 191) (vs := [.map (some w3.heap.size)]) (by rw [zc191]; rfl) (by simp [Value.oneCell'])
  refine Let.intro fun w5 e5 => ?_
  rw [← e5] at n1 n2 n3
  refine ⟨n1, Let.intro fun w6 e6 => ?_⟩
  rw [← e6] at n2 n3
  obtain ⟨l, ci, hmp, hnd, hmem, _⟩ := hin.list
  obtain ⟨U, hU, hsub⟩ := few
  have hll : l.length ≤ 1000 := by
    have := hnd.length_le_of_subset (l₂ := U) fun k hk => hsub k ((hmem k).2 hk)
    simp at this; omega
  have x06 := (((x1.trans x2).trans x3).trans x4).trans n3
  obtain ⟨w7, hr7, x7, hit, hmp7⟩ := range_run (P := Try.prog) u105 (hmp.ext x06)
  refine ⟨⟨w6.heap.size, 0⟩, w7, hr7, ?_⟩
  have x07 := x06.trans x7
  have l1 := b1.lt
  have l2 := b2.lt
  have l3 := b3.lt
  have l4 := m4.bound
  have l6 := n2.lt
  have l7 : w6.heap.size < w7.heap.size := hit.bound
  have z1 := x1.size
  have z2 := x2.size
  have z3 := x3.size
  have z4 := x4.size
  have z6 := n3.size
  have lin := hmp.bound
  have b1 := ((((b1.ext x2).ext x3).ext x4).ext n3).ext x7
  have b2 := (((b2.ext x3).ext x4).ext n3).ext x7
  have b3 := ((b3.ext x4).ext n3).ext x7
  have m7 := (m4.ext n3).ext x7
  have b5 := n2.ext x7
  -- what is gathered
  refine ⟨fun w8 => ∃ bs bk, ByR w7.heap.size w8 w3.heap.size (l.map (·.1)) bs bk ∧ Fr (fun y => y = w6.heap.size ∨ y = w3.heap.size) w7 w8, ?_, ?_⟩
  · rintro w8 ⟨bs, bk, hby, f8⟩
    have x08 : Ext w w8 := x07.newer f8 fun y hy => by rcases hy with rfl | rfl <;> omega
    have b1 := b1.fr f8 (by omega)
    have b2 := b2.fr f8 (by omega)
    have b3 := b3.fr f8 (by omega)
    have b5 := b5.fr f8 (by omega)
    have l8 := f8.size
    obtain ⟨p1, p2, p3⟩ := new_var w8 192 (z := zc Try.prog 192) (vs := [.func (.func 127) #[] (capT w.heap.size w1.heap.size w2.heap.size w8.heap.size w4.heap.size).toArray]) (by rw [zc192]; rfl) (by simp [Value.oneCell'])
    refine Let.intro fun w9 e9 => ?_
    rw [← e9] at p1 p2 p3
    refine ⟨p1, Let.intro fun w10 e10 => ?_⟩
    have e10 : w10 = put w9 w8.heap.size 0 [.func (.func 127) #[] (capT w.heap.size w1.heap.size w2.heap.size w8.heap.size w4.heap.size).toArray] := e10
    rw [← e10] at p2 p3
    have x10 := x08.trans p3
    obtain ⟨hI10, R10⟩ := C.rl hI x10
    have hno : ∀ b, w.heap.size ≤ b → ¬ own w10 b := fun b hb ho => by
      have := C.lt hI ((C.ext hI x10).2 b ho); omega
    have kb1 : Kp own w10 _ _ _ := ⟨b1.ext p3, hno _ (by omega)⟩
    have kb2 : Kp own w10 _ _ _ := ⟨b2.ext p3, hno _ (by omega)⟩
    have kb3 : Kp own w10 _ _ _ := ⟨b3.ext p3, hno _ (by omega)⟩
    have kb5 : Kp own w10 _ _ _ := ⟨b5.ext p3, hno _ (by omega)⟩
    have kt : Kp own w10 _ _ _ := ⟨p2, hno _ (by omega)⟩
    have hby10 : ByR w7.heap.size w10 w3.heap.size (l.map (·.1)) bs bk := hby.fr p3 (fun h => h) (fun _ _ h => h)
    have G : ∀ w', Rl own w10 w' → GearAt w' r m2 Nt f c w.heap.size w1.heap.size w2.heap.size w8.heap.size w4.heap.size w3.heap.size bs bk := fun w' R' => by
      have hby' : ByR w7.heap.size w' w3.heap.size (l.map (·.1)) bs bk := hby10.fr R'.fr (hno _ (by omega)) fun b hb => hno b (by omega)
      exact ⟨(kb1.rl R').b, (kb2.rl R').b, (kb3.rl R').b, (kt.rl R').b, (kb5.rl R').b, hro w' (R10.trans R'), hnm w' (R10.trans R'), hby'.look, fun rel => (hby'.own rel).sli⟩
    have hbk : ∀ rel k, k ∈ bk rel ↔ In k ∧ k.rel = rel := fun rel k => by rw [hby.mem, ← hmem k]
    have h127 := c127 (P := P) C G hbk (fun rel => by have := hby.len rel; simp at this; omega) hca Bnd (fun vs v w' R' h1 h2 h3 h4 => hcall vs v w' (R10.trans R') h1 h2 h3 h4) hat hb3 (r.body.length - 0) 0 rfl (Nat.zero_le _) z8 vs w10 (Rl.refl _ _) hI10 hB rfl (fun u h1 h2 => hP u (by simpa using h1) h2)
    refine ⟨127, capT w.heap.size w1.heap.size w2.heap.size w8.heap.size w4.heap.size, p2.cell 0, ?_⟩
    rw [callable127]
    exact h127.mono fun e w11 ⟨he, vs', h1, h0, h2, h3⟩ => ⟨he, rfl, vs', h1, h0, R10.trans h2, fun u => by rw [h3]; rfl⟩
  · refine rangeM0 (P := Try.prog) (fun vis w8 => ∃ bs bk, ByR w7.heap.size w8 w3.heap.size (vis.map (·.1)) bs bk ∧ Fr (fun y => y = w6.heap.size ∨ y = w3.heap.size) w7 w8) hmp7 hit ⟨fun _ => nilS, fun _ => [], ⟨⟨[], 0, m7, fun _ => rfl⟩, fun _ => Own.nil .., (by intro _ _ _ a _ h; cases h), by simp, by simp⟩, Fr.refl _ _⟩ ?_ ?_ ?_
    · rintro vis w8 w9 ⟨bs, bk, hby, f8⟩ hf
      exact ⟨bs, bk, hby.fr hf (by show ¬ (w3.heap.size = w6.heap.size); omega) (fun b hb (e : b = w6.heap.size) => by omega), f8.trans hf fun y _ (e : y = w6.heap.size) => .inl e⟩
    · rintro vis x w13 hxl hxv hvn hvl hvlt ⟨bs, bk, hby, f13⟩ hmp13 hrb hent K hK
      have l13 := f13.size
      have b5 := b5.fr f13 (by omega)
      refine ⟨x.1.rel, x.1.a, x.1.b, x.2.1, hent, ?_⟩
      obtain ⟨q1, q2, q3⟩ := new_eK w13 x.1
      refine Let.intro fun w15 e15 => ?_
      rw [← e15] at q1 q2 q3
      refine ⟨q1, Let.intro fun w16 e16 => ?_⟩
      have e16 : w16 = put w15 w13.heap.size 0 (eK x.1) := e16
      rw [← e16] at q2 q3
      have hby16 : ByR w7.heap.size w16 w3.heap.size (vis.map (·.1)) bs bk := hby.fr q3 (fun h => h) (fun _ _ h => h)
      have b5 := b5.ext q3
      have l16 := q3.size
      generalize hrel : x.1.rel = rel
      have ho := hby16.own rel
      -- the slice's block is none of the others
      have hnb : ∀ {q : Nat} {vs : List Value} {T : TypeId}, Blk w16 q vs T → T ≠ 121 → ¬ BlS (bs rel) q := fun hb hT ⟨a, ha, e⟩ => by
        obtain ⟨cur, hc⟩ := ho.blk ha
        rw [e] at hc
        exact Blk.ne_ty hb hc hT rfl
      have hnq : ¬ BlS (bs rel) w3.heap.size := fun ⟨a, ha, e⟩ => by have := (ho.base ha).1; omega
      have hn13 : ¬ BlS (bs rel) w13.heap.size := fun ⟨a, ha, e⟩ => by have := ((hby.own rel).base ha).2; omega
      refine ⟨fun u => Fr (BlS (bs rel)) w16 u, Fr.mono (Ext.drew _) fun _ _ h => h.elim, Let.intro fun w17 e17 => ?_⟩
      have x17 : Ext w16 w17 := by rw [e17]; exact Ext.drew _
      have hbyu : ∀ u, Fr (BlS (bs rel)) w16 u → (Instr.lookup 191 (.map (some w3.heap.size)) (.int .i64 rel) false).run Try.prog u = .ok (.slice (bs rel).a (bs rel).n (bs rel).c) u := fun u hu => by
        obtain ⟨l', c', hm, hl⟩ := hby16.mp
        have := (look_run K3 u191 (hm.fr hu hnq) zero150 rel).1
        rw [this, ← hl rel]
        cases mget l' rel <;> rfl
      have q2' := q2
      rw [show eK x.1 = [.int .i64 rel, .int .i64 x.1.a, .int .i64 x.1.b] from by rw [← hrel]; rfl] at q2'
      refine ⟨some w3.heap.size, fun u hu => (b5.fr hu (hnb b5 (by decide))).cell 0, rel, fun u hu => (q2'.fr hu hn13).cell 0, some w3.heap.size, fun u hu => (b5.fr hu (hnb b5 (by decide))).cell 0, rel, fun u hu => (q2'.fr hu hn13).cell 0, bs rel, hbyu, rel, x.1.a, x.1.b, fun u hu => (q2'.fr hu hn13).rd, ?_⟩
      have hkeq : x.1 = ⟨rel, x.1.a, x.1.b⟩ := by rw [← hrel]
      have hb := buildOne_run E150 (v := .agg [.int .i64 rel, .int .i64 x.1.a, .int .i64 x.1.b].toArray) (vs := eK x.1) (by rw [hkeq]; rfl) rfl (by omega) w17
      have x18 := Ext.alloc w17 (.cells (eK x.1).toArray 121)
      have hs18 : Sli 3 eK (w17.alloc (.cells (eK x.1).toArray 121)) ⟨some ⟨w17.heap.size, 0, none⟩, 1, 1⟩ [x.1] := ⟨rfl, Nat.le_refl _, fun _ => ⟨⟨w17.heap.size, 0⟩, rfl, by simpa using (Blk.alloc w17 (eK x.1) 121).rd⟩⟩
      have ho18 := (ho.ext x17).ext x18
      have hlen : (bk rel).length ≤ 1000 := by have := hby.len rel; simp at this; omega
      obtain ⟨s27, w19, hr19, ho19, f19⟩ := appendSli E150 ho18 hs18 eK_len eK_one (by simp; omega) (by simp [maxLen]; omega) (by have := x17.size; have := x18.size; omega) 150
      have hwh := append_where E150 ho18 hs18 eK_len eK_one (by simp; omega) (by simp [maxLen]; omega) 150 hr19
      refine ⟨⟨some ⟨w17.heap.size, 0, none⟩, 1, 1⟩, _, hb, (x17.trans x18).mono fun _ _ h => h.elim, s27, w19, hr19, (x17.trans x18).fr f19, ?_⟩
      have f1619 : Fr (BlS (bs rel)) w16 w19 := (x17.trans x18).fr f19
      obtain ⟨l', c', hm, hl⟩ := hby16.mp
      obtain ⟨w20, c20, hr20, hm20, f20⟩ := put_run K3 u191 (hm.fr f1619 hnq) rel s27
      have hQ27 : ∀ a, s27.a = some a → a.block ≠ w3.heap.size := fun a ha e => by have := (ho19.base ha).1; omega
      have l17 := x17.size
      refine ⟨w20, hr20, hK _ ⟨fun rel' => if rel' = rel then s27 else bs rel', fun rel' => if rel' = rel then bk rel ++ [x.1] else bk rel', ⟨⟨_, c20, hm20, fun rel' => ?_⟩, fun rel' => ?_, fun r1 r2 hne a a' ha ha' => ?_, fun rel' k => ?_, fun rel' => ?_⟩, ?_⟩ ?_⟩
      · rw [mget_mput]
        by_cases e : rel' = rel
        · simp [e]
        · simp [e, hl]
      · by_cases e : rel' = rel
        · simp only [e, if_true]
          exact ho19.fr f20 fun a ha (e : a.block = w3.heap.size) => hQ27 a ha e
        · simp only [e, if_false]
          refine ((hby16.own rel').fr f1619 fun a ha ⟨a', ha', e'⟩ => hby16.ap rel' rel e a a' ha ha' e'.symm).fr f20 fun a ha (e' : a.block = w3.heap.size) => ?_
          have := ((hby16.own rel').base ha).1; omega
      · -- the blocks of different Rels
        have hcase : ∀ (r2 : Int), r2 ≠ rel → ∀ a a', s27.a = some a → (bs r2).a = some a' → a.block ≠ a'.block := fun r2 h2 a a' ha ha' e => by
          rcases hwh with h | h
          · exact hby16.ap rel r2 (fun e => h2 e.symm) a a' (h ▸ ha) ha' e
          · have h1 := h a ha
            have h2 := ((hby16.own r2).base ha').2
            simp at h1
            omega
        by_cases e1 : r1 = rel
        · have e2 : r2 ≠ rel := fun e => hne (e1.trans e.symm)
          simp only [e1, if_true] at ha
          simp only [e2, if_false] at ha'
          exact hcase r2 e2 a a' ha ha'
        · simp only [e1, if_false] at ha
          by_cases e2 : r2 = rel
          · simp only [e2, if_true] at ha'
            exact fun e => hcase r1 e1 a' a ha' ha e.symm
          · simp only [e2, if_false] at ha'
            exact hby16.ap r1 r2 hne a a' ha ha'
      · simp only [List.map_append, List.map_cons, List.map_nil, List.mem_append, List.mem_singleton]
        by_cases e : rel' = rel
        · simp only [e, if_true, List.mem_append, List.mem_singleton, hby16.mem]
          constructor
          · rintro (⟨h1, h2⟩ | h)
            · exact ⟨.inl h1, h2⟩
            · exact ⟨.inr h, by rw [h, hrel]⟩
          · rintro ⟨h1 | h1, h2⟩
            · exact .inl ⟨h1, h2⟩
            · exact .inr h1
        · simp only [e, if_false, hby16.mem]
          constructor
          · rintro ⟨h1, h2⟩; exact ⟨.inl h1, h2⟩
          · rintro ⟨h1 | h1, h2⟩
            · exact ⟨h1, h2⟩
            · exact absurd (by rw [← h2, h1, hrel]) e
      · by_cases e : rel' = rel
        · have := hby.len rel
          simp only [e, if_true, List.length_append, List.length_map] at this ⊢
          simp; omega
        · have := hby.len rel'
          simp only [e, if_false, List.length_map] at this ⊢
          simp; omega
      · refine ((f13.ext q3).trans f1619 fun y hy ⟨a, ha, e⟩ => ?_).trans f20 fun y hy (e : y = w3.heap.size) => .inr e
        have := (ho.base ha).1; omega
      · refine Fr.mono (M := fun y => BlS (bs rel) y ∨ y = w3.heap.size) ((q3.fr (f1619.mono fun _ _ h => .inl h)).trans f20 fun y hy (e : y = w3.heap.size) => .inr e) fun y hy h => ?_
        rcases h with ⟨a, ha, e⟩ | e
        · have h1 := (ho.base ha).1
          exact ⟨fun (h : y = w6.heap.size) => by omega, by omega⟩
        · exact ⟨fun (h : y = w6.heap.size) => by omega, by omega⟩
    · rintro vis w8 hall hvn hvl ⟨bs, bk, hby, f8⟩ hmp8
      refine ⟨bs, bk, ⟨hby.mp, hby.own, hby.ap, fun rel k => ?_, fun rel => ?_⟩, f8⟩
      · rw [hby.mem]
        refine and_congr_left fun _ => ?_
        constructor
        · intro h; obtain ⟨x, hx, rfl⟩ := List.mem_map.1 h; exact List.mem_map.2 ⟨x, hvl x hx, rfl⟩
        · intro h; obtain ⟨x, hx, rfl⟩ := List.mem_map.1 h; exact List.mem_map.2 ⟨x, hall x hx, rfl⟩
      · have h1 := hby.len rel
        have h2 := hvn.length_le_of_subset (l₂ := l) hvl
        simp at h1 ⊢; omega
end
end Go.Proofs.Ytoljknamnkkgcaa
/-
  Contract: the consequences of rules with given facts: the least set that is closed under the rules.
-/
namespace Go.Proofs.Ytoljknamnkkgcaa
open Go Go.VC
set_option maxHeartbeats 1000000
set_option maxRecDepth 100000

theorem En_mono {A B : Ky → Prop} (h : ∀ k, A k → B k) : ∀ {l : List Li} {v u : List Int}, En A l v u → En B l v u
  | [], _, _, h' => h'
  | b :: r, v, u, h' => by
    rw [En] at h' ⊢
    split at h'
    · rw [if_pos (by assumption)]; exact En_mono h h'
    · rw [if_neg (by assumption)]
      obtain ⟨g, v', h1, h2, h3⟩ := h'
      exact ⟨g, v', h g h1, h2, En_mono h h3⟩
/-- Closed under rules, where literals with Not are decided by N. -/
def Closed (l : List Ru) (N S : Ky → Prop) : Prop := ∀ r ∈ l, ∀ u, En S r.body z8 u → NegOk N r.body u → S (gnd r.head u)
/-- The least closed set with given facts. -/
def Cl (l : List Ru) (G N : Ky → Prop) (k : Ky) : Prop := ∀ S : Ky → Prop, (∀ k, G k → S k) → Closed l N S → S k
theorem Cl.base {l : List Ru} {G N : Ky → Prop} {k : Ky} (h : G k) : Cl l G N k := fun _ h1 _ => h1 k h
theorem Cl.closed (l : List Ru) (G N : Ky → Prop) : Closed l N (Cl l G N) := fun r hr u h1 h2 S hG hS => hS r hr u (En_mono (fun k hk => hk S hG hS) h1) h2
theorem Cl.eq {l : List Ru} {G N S : Ky → Prop} (hG : ∀ k, G k → S k) (hS : Closed l N S) (hm : ∀ k, S k → Cl l G N k) (k : Ky) : Cl l G N k ↔ S k := ⟨fun h => h S hG hS, hm k⟩

/-! ### the closure that gathers -/
def ownF (F0 : Nat) (w : World) (b : Nat) : Prop := b = F0 ∨ ∃ s : Sl, Blk w F0 [.slice s.a s.n s.c] 150 ∧ BlS s b
structure GI (F0 : Nat) (S : Ky → Prop) (hd : Fa) (L0 : List Ky) (vs : List (List Int)) (w : World) : Prop where
  ex : ∃ (s : Sl) (L : List Ky), Blk w F0 [.slice s.a s.n s.c] 150 ∧ Own 121 3 eK (F0 + 1) w s L ∧ L.length ≤ L0.length + vs.length ∧ ∀ k, k ∈ L ↔ k ∈ L0 ∨ ((∃ v ∈ vs, gnd hd v = k) ∧ ¬ S k)
theorem sl_inj {s s' : Sl} (h : (Value.slice s.a s.n s.c) = .slice s'.a s'.n s'.c) : s = s' := by
  injection h with h1 h2 h3; cases s; cases s'; simp_all
theorem blk_inj {w : World} {q : Nat} {s s' : Sl} {T T' : TypeId} (h : Blk w q [.slice s.a s.n s.c] T) (h' : Blk w q [.slice s'.a s'.n s'.c] T') : s = s' := by
  have h1 := h.cell 0
  have h2 := h'.cell 0
  rw [h1] at h2
  exact sl_inj (Option.some.inj h2)
theorem GI.cb (F0 : Nat) (S : Ky → Prop) (hd : Fa) (L0 : List Ky) : Cb (ownF F0) (GI F0 S hd L0) where
  ext := fun {vs w w'} h x => by
    obtain ⟨s, L, h1, h2, h3, h4⟩ := h.ex
    refine ⟨⟨s, L, h1.ext x, h2.ext x, h3, h4⟩, fun b hb => ?_⟩
    rcases hb with hb | ⟨s', hs', hb⟩
    · exact .inl hb
    · rw [blk_inj hs' (h1.ext x)] at hb
      exact .inr ⟨s, h1, hb⟩
  lt := fun {vs w b} h hb => by
    obtain ⟨s, L, h1, h2, h3, h4⟩ := h.ex
    rcases hb with rfl | ⟨s', hs', ⟨a, ha, e⟩⟩
    · exact h1.lt
    · rw [blk_inj hs' h1] at ha
      have := (h2.base ha).2; omega
/-- What is of another type is not owned. -/
theorem GI.no {F0 : Nat} {S : Ky → Prop} {hd : Fa} {L0 : List Ky} {vs : List (List Int)} {w : World} (h : GI F0 S hd L0 vs w) {q : Nat} {l : List Value} {T : TypeId} (hb : Blk w q l T) (h1 : T ≠ 150) (h2 : T ≠ 121) : ¬ ownF F0 w q := by
  obtain ⟨s, L, g1, g2, g3, g4⟩ := h.ex
  rintro (rfl | ⟨s', hs', ⟨a, ha, e⟩⟩)
  · exact Blk.ne_ty hb g1 h1 rfl
  · rw [blk_inj hs' g1] at ha
    obtain ⟨cur, hc⟩ := g2.blk ha
    rw [e] at hc
    exact Blk.ne_ty hb hc h2 rfl
theorem GI.noM {F0 : Nat} {S : Ky → Prop} {hd : Fa} {L0 : List Ky} {vs : List (List Int)} {w : World} (h : GI F0 S hd L0 vs w) {q : Nat} {Q : Ky → Prop} (hm : FM w q Q) : ¬ ownF F0 w q := by
  obtain ⟨s, L, g1, g2, g3, g4⟩ := h.ex
  rintro (rfl | ⟨s', hs', ⟨a, ha, e⟩⟩)
  · exact hm.ne_blk g1 rfl
  · rw [blk_inj hs' g1] at ha
    obtain ⟨cur, hc⟩ := g2.blk ha
    rw [e] at hc
    exact hm.ne_blk hc rfl
/-- What is older than the variable is not owned. -/
theorem GI.old {F0 : Nat} {S : Ky → Prop} {hd : Fa} {L0 : List Ky} {vs : List (List Int)} {w : World} (h : GI F0 S hd L0 vs w) {q : Nat} (hq : q < F0) : ¬ ownF F0 w q := by
  obtain ⟨s, L, g1, g2, g3, g4⟩ := h.ex
  rintro (rfl | ⟨s', hs', ⟨a, ha, e⟩⟩)
  · omega
  · rw [blk_inj hs' g1] at ha
    have := (g2.base ha).1; omega
theorem callable114 : callable Try.prog 114 = true := by kernel_rfl
theorem c114 {F0 Ob Rb O : Nat} {S : Ky → Prop} {r : DR} {L0 : List Ky} {vs : List (List Int)} {w : World} {v : List Int} (hI : GI F0 S r.head.p L0 vs w) (hR : Blk w Rb (eR r) 52) (hO : Blk w Ob [.map (some O)] 105) (hm : FM w O S) (hd : Ints w r.head.sl r.head.args) (ha : AtOk r.head.p) (hv : v.length = 8) (hb : L0.length + vs.length ≤ 1000000000000) :
    Calls Try.prog 114 [.agg (vI v).toArray, .pointer (some ⟨Rb, 0, none⟩), .pointer (some ⟨Ob, 0, none⟩), .pointer (some ⟨F0, 0, none⟩)].toArray w fun e w' => e = .returned (.tuple [].toArray) ∧ GI F0 S r.head.p L0 (vs ++ [v]) w' ∧ Rl (ownF F0) w w' := by
  refine (call114 (vI v) ⟨Rb, 0⟩ ⟨Ob, 0⟩ ⟨F0, 0⟩ (R := fun u w' => u = .tuple [].toArray ∧ GI F0 S r.head.p L0 (vs ++ [v]) w' ∧ Rl (ownF F0) w w') ?_).mono fun e w' ⟨u, he, hu, hx⟩ => ⟨by rw [he, hu], hx⟩
  have C := GI.cb F0 S r.head.p L0
  refine Let.intro fun w1 e1 => ?_
  have b1 : Blk w1 w.heap.size (vI v) 178 := by rw [e1]; exact Blk.alloc w _ 178
  have x1 : Ext w w1 := by rw [e1]; exact Ext.alloc ..
  refine ⟨vI v, by rw [vI_len, hv], b1.rd, r.head.rel, r.head.sl, ?_, (c115 (x := r.head) hv (hd.ext x1) ha).mono fun e w2 ⟨he, x2⟩ => ⟨_, _, _, he, ?_⟩⟩
  · exact (hR.ext x1).rd_drop (o := 0) fun j x hx => by
      rcases j with _ | _ | j
      · simpa [eR] using hx
      · simpa [eR] using hx
      · simp at hx
  generalize hk : gnd r.head.p v = k
  obtain ⟨n1, n2, n3⟩ := new_eK w2 k
  refine Let.intro fun w3 e3 => ?_
  rw [← e3] at n1 n2 n3
  refine ⟨n1, Let.intro fun w4 e4 => ?_⟩
  have e4 : w4 = put w3 w2.heap.size 0 (eK k) := e4
  rw [← e4] at n2 n3
  have x4 := (x1.trans x2).trans n3
  obtain ⟨hI4, R4⟩ := C.rl hI x4
  obtain ⟨b, hr, hbs⟩ := (hm.ext x4).look K121 u105 zero4 k
  refine ⟨some O, (hO.ext x4).cell 0, _, _, _, n2.rd, b, hr, Join.dir ?_⟩
  obtain ⟨s, L, g1, g2, g3, g4⟩ := hI4.ex
  refine cond_intro (fun g => ?_) (fun g => ?_)
  · have g : b = false := by simpa using g
    have hns : ¬ S k := fun h => by rw [hbs.2 h] at g; cases g
    refine ⟨s, g1.cell 0, _, _, _, n2.rd, ?_⟩
    have hbd := buildOne_run E150 (v := .agg [.int .i64 k.rel, .int .i64 k.a, .int .i64 k.b].toArray) (vs := eK k) rfl rfl (by omega) w4
    have x5 := Ext.alloc w4 (.cells (eK k).toArray 121)
    have hs5 : Sli 3 eK (w4.alloc (.cells (eK k).toArray 121)) ⟨some ⟨w4.heap.size, 0, none⟩, 1, 1⟩ [k] := ⟨rfl, Nat.le_refl _, fun _ => ⟨⟨w4.heap.size, 0⟩, rfl, by simpa using (Blk.alloc w4 (eK k) 121).rd⟩⟩
    have l4 := g1.lt
    obtain ⟨s7, w7, hr7, ho7, f7⟩ := appendSli E150 (g2.ext x5) hs5 eK_len eK_one (by simp; omega) (by simp [maxLen]; omega) (by have := x5.size; omega) 150
    have hwh := append_where E150 (g2.ext x5) hs5 eK_len eK_one (by simp; omega) (by simp [maxLen]; omega) 150 hr7
    refine ⟨⟨some ⟨w4.heap.size, 0, none⟩, 1, 1⟩, _, hbd, s7, w7, hr7, ?_⟩
    have hF : ¬ BlS s F0 := fun ⟨a, ha, e⟩ => by have := (g2.base ha).1; omega
    have b7 : Blk w7 F0 [.slice s.a s.n s.c] 150 := (g1.ext x5).fr f7 hF
    obtain ⟨p1, p2, p3⟩ := blk_all b7 (vs := [.slice s7.a s7.n s7.c]) rfl (by simp [Value.oneCell'])
    refine ⟨p1, Let.intro fun w8 e8 => ?_⟩
    rw [← e8] at p2 p3
    have hF7 : ∀ a, s7.a = some a → a.block ≠ F0 := fun a ha e => by have := (ho7.base ha).1; omega
    refine ⟨rfl, ⟨s7, L ++ [k], p2, ho7.fr p3 fun a ha (e : a.block = F0) => hF7 a ha e, by simp; omega, fun k' => ?_⟩, R4.trans ⟨?_, ?_⟩⟩
    · rw [List.mem_append, List.mem_singleton, g4]
      constructor
      · rintro ((h | ⟨⟨v', hv', e⟩, h⟩) | h)
        · exact .inl h
        · exact .inr ⟨⟨v', List.mem_append_left _ hv', e⟩, h⟩
        · subst h; exact .inr ⟨⟨v, by simp, hk⟩, hns⟩
      · rintro (h | ⟨⟨v', hv', e⟩, h⟩)
        · exact .inl (.inl h)
        · rcases List.mem_append.1 hv' with hv' | hv'
          · exact .inl (.inr ⟨⟨v', hv', e⟩, h⟩)
          · simp only [List.mem_singleton] at hv'
            subst hv'; exact .inr (by rw [← e, hk])
    · exact ((Ext.fr x5 (f7.mono fun b _ hb => .inr ⟨s, g1, hb⟩)).trans p3 fun y _ (e : y = F0) => .inl e)
    · rintro b hb (rfl | ⟨s', hs', ⟨a, ha, e⟩⟩)
      · exact .inl rfl
      · rw [blk_inj hs' p2] at ha
        rcases hwh with h | h
        · exact .inr ⟨s, g1, ⟨a, h ▸ ha, e⟩⟩
        · have := h a ha
          have := x5.size
          omega
  · have g : b = true := by simpa using g
    have hs := hbs.1 g
    refine ⟨rfl, ⟨s, L, g1, g2, by simp; omega, fun k' => ?_⟩, R4⟩
    rw [g4]
    constructor
    · rintro (h | ⟨⟨v', hv', e⟩, h⟩)
      · exact .inl h
      · exact .inr ⟨⟨v', List.mem_append_left _ hv', e⟩, h⟩
    · rintro (h | ⟨⟨v', hv', e⟩, h⟩)
      · exact .inl h
      · rcases List.mem_append.1 hv' with hv' | hv'
        · exact .inr ⟨⟨v', hv', e⟩, h⟩
        · simp only [List.mem_singleton] at hv'
          subst hv'
          rw [hk] at e; subst e
          exact absurd hs h
end Go.Proofs.Ytoljknamnkkgcaa
/-
  Contract: consequences.
-/
namespace Go.Proofs.Ytoljknamnkkgcaa
open Go Go.VC
set_option maxHeartbeats 1000000
set_option maxRecDepth 100000

theorem zc105 : (zc Try.prog 105).size = 1 := by kernel_rfl
theorem zc150 : (zc Try.prog 150).toList = [.slice none 0 0] := by kernel_rfl
theorem NotM.ext {w w' : World} {m : Option Nat} {Nt : Ky → Prop} (h : NotM w m Nt) (x : Ext w w') : NotM w' m Nt := by
  rcases h with h | ⟨b, hb, hm⟩
  · exact .inl h
  · exact .inr ⟨b, hb, hm.ext x⟩
/-- A rule as far as running goes. -/
def RuOk (r : Ru) : Prop := AtOk r.head ∧ r.body.length ≤ 3 ∧ ∀ b ∈ r.body, AtOk b.a
theorem c68 {w : World} {s : Sl} {l : List DR} {gB : Nat} {m2 : Option Nat} {G N : Ky → Prop} (hs : NR w s l) (hg : FM w gB G) (hn : NotM w m2 N) (hl : l.length ≤ 100) (hok : ∀ r ∈ l, RuOk r.p) (few : Few (Cl (l.map DR.p) G N)) :
    Calls Try.prog 68 [.slice s.a s.n s.c, .map (some gB), .map m2].toArray w fun e w' => ∃ b : Nat, e = .returned (.map (some b)) ∧ FM w' b (Cl (l.map DR.p) G N) ∧ w.heap.size ≤ b ∧ Ext w w' := by
  refine (call68 s (some gB) m2 (R := fun v w' => ∃ b : Nat, v = (.map (some b)) ∧ FM w' b (Cl (l.map DR.p) G N) ∧ w.heap.size ≤ b ∧ Ext w w') ?_).mono fun e w' ⟨v, he, b, hv, hx⟩ => ⟨b, by rw [he, hv], hx⟩
  have hsn := hs.len
  obtain ⟨U, hU, hsub⟩ := few
  refine Let.intro fun w1 e1 => ?_
  have m1 : FM w1 w.heap.size fun _ => False := by rw [e1]; exact SetM.made w
  have x1 : Ext w w1 := by rw [e1]; exact Ext.alloc ..
  obtain ⟨n1, n2, n3⟩ := new_var w1 105 (z := zc Try.prog 105) (vs := [.map (some w.heap.size)]) (by rw [zc105]; rfl) (by simp [Value.oneCell'])
  refine Let.intro fun w2 e2 => ?_
  rw [← e2] at n1 n2 n3
  refine ⟨n1, Let.intro fun w3 e3 => ?_⟩
  rw [← e3] at n2 n3
  have x3 := x1.trans n3
  have m3 := m1.ext n3
  have hg3 := hg.ext x3
  obtain ⟨lg, cg, hmp, hnd, hmem, _⟩ := hg3.list
  obtain ⟨w4, hr4, x4, hit, hmp4⟩ := range_run (P := Try.prog) u105 hmp
  refine ⟨⟨w3.heap.size, 0⟩, w4, hr4, ?_⟩
  have lO := m1.lt
  have lOb := n2.lt
  have l34 : w3.heap.size < w4.heap.size := hit.bound
  have z1 := x1.size
  have z3 := n3.size
  have lgB := hg.lt
  have m4 := m3.ext x4
  have bO := n2.ext x4
  have x04 := x3.trans x4
  refine ⟨fun w5 => FM w5 w.heap.size G ∧ Blk w5 w1.heap.size [.map (some w.heap.size)] 105 ∧ Ext w w5, ?_, ?_⟩
  rotate_left
  · -- the given facts are copied
    refine rangeM0 (P := Try.prog) (fun vis w5 => FM w5 w.heap.size (fun k => k ∈ vis.map (·.1)) ∧ Blk w5 w1.heap.size [.map (some w.heap.size)] 105 ∧ Fr (fun y => y = w3.heap.size ∨ y = w.heap.size) w4 w5) hmp4 hit ⟨m4.congr fun k => by simp, bO, Fr.refl _ _⟩ ?_ ?_ ?_
    · rintro vis w5 w6 ⟨h1, h2, h3⟩ hf
      exact ⟨h1.fr hf (by show ¬ w.heap.size = w3.heap.size; omega), h2.fr hf (by show ¬ w1.heap.size = w3.heap.size; omega), h3.trans hf fun y _ (e : y = w3.heap.size) => .inl e⟩
    · rintro vis x w23 hxl hxv hvn hvl hvlt ⟨h1, h2, h3⟩ hmp' hrb hent K hK
      refine ⟨x.1.rel, x.1.a, x.1.b, x.2.1, hent, ?_⟩
      obtain ⟨q1, q2, q3⟩ := new_eK w23 x.1
      refine Let.intro fun w25 e25 => ?_
      rw [← e25] at q1 q2 q3
      refine ⟨q1, Let.intro fun w26 e26 => ?_⟩
      have e26 : w26 = put w25 w23.heap.size 0 (eK x.1) := e26
      rw [← e26] at q2 q3
      obtain ⟨w27, hrun, m27, f27⟩ := (h1.ext q3).put K121 u105 x.1
      have l23 := h3.size
      refine ⟨some w.heap.size, (h2.ext q3).cell 0, _, _, _, q2.rd, w27, hrun, hK _ ⟨m27.congr fun k => ?_, (h2.ext q3).fr f27 (by show ¬ w1.heap.size = w.heap.size; omega), (h3.ext q3).trans f27 fun y _ (e : y = w.heap.size) => .inr e⟩ ?_⟩
      · rw [List.map_append, List.mem_append]; simp
      · exact (q3.fr f27).mono fun y hy (e : y = w.heap.size) => ⟨fun (e2 : y = w3.heap.size) => by omega, by omega⟩
    · rintro vis w5 hall hvn hvl ⟨h1, h2, h3⟩ hmp5
      refine ⟨h1.congr fun k => ?_, h2, x04.newer h3 fun y hy => by rcases hy with rfl | rfl <;> omega⟩
      rw [hmem k]
      constructor
      · intro h; obtain ⟨x, hx, rfl⟩ := List.mem_map.1 h; exact List.mem_map.2 ⟨x, hall x hx, rfl⟩
      · intro h; obtain ⟨x, hx, rfl⟩ := List.mem_map.1 h; exact List.mem_map.2 ⟨x, hvl x hx, rfl⟩
  rintro w5 ⟨m5, bO5, x5⟩
  -- the rounds
  refine ⟨fun w6 => FM w6 w.heap.size (Cl (l.map DR.p) G N) ∧ Blk w6 w1.heap.size [.map (some w.heap.size)] 105 ∧ Ext w w6, ?_, ?_⟩
  · rintro w6 ⟨m6, b6, x6⟩
    exact ⟨some w.heap.size, b6.cell 0, _, rfl, m6, Nat.le_refl _, x6⟩
  obtain ⟨ks5, c5, _, hnd5, hmem5, _⟩ := m5.list
  refine LoopV.intro (fun n (b9 : Bool) w7 => ∃ (S : Ky → Prop) (ks : List Ky), FM w7 w.heap.size S ∧ (∀ k, S k ↔ k ∈ ks) ∧ ks.Nodup ∧ n = U.length - ks.length + (if b9 then 1 else 0) ∧ (∀ k, G k → S k) ∧ (∀ k, S k → Cl (l.map DR.p) G N k) ∧ (b9 = false → Closed (l.map DR.p) N S) ∧ Blk w7 w1.heap.size [.map (some w.heap.size)] 105 ∧ Ext w w7)
    (U.length - (ks5.map (·.1)).length + 1) ⟨G, ks5.map (·.1), m5, hmem5, hnd5, rfl, fun _ h => h, fun _ h => Cl.base h, (by intro h; cases h), bO5, x5⟩ ?_
  rintro n b9 w7 ⟨S, ks, m7, hks, hkn, rfl, hG, hS, hcl, b7, x7⟩
  refine cond_intro (fun g => ?_) (fun g => ⟨m7.congr fun k => Cl.eq hG (hcl g) hS k, b7, x7⟩)
  subst g
  have hksU : ks.length ≤ U.length := hkn.length_le_of_subset fun k hk => hsub k (hS k ((hks k).2 hk))
  refine Join.dir (Let.intro fun w9 e9 => ?_)
  have x9 : Ext w7 w9 := by rw [e9]; exact Ext.alloc ..
  have b9 : Blk w9 w7.heap.size [.slice none 0 0] 150 := by rw [e9, ← zc150]; simpa using Blk.alloc w7 (zc Try.prog 150).toList 150
  have l9 := b9.lt
  have z7 := x7.size
  have hObF : w1.heap.size < w7.heap.size := b7.lt
  have hOF : w.heap.size < w7.heap.size := m7.lt
  have hpow : ∀ r ∈ l, 1000 ^ r.body.length ≤ 1000000000 := fun r hr => by
    have h3 : r.body.length ≤ 3 := by have := (hok r hr).2.1; simpa [DR.p] using this
    exact Nat.le_trans (Nat.pow_le_pow_right (by omega) h3) (by decide)
  refine ⟨fun w10 => ∃ (sL : Sl) (L : List Ky), Blk w10 w7.heap.size [.slice sL.a sL.n sL.c] 150 ∧ Own 121 3 eK (w7.heap.size + 1) w10 sL L ∧ L.length ≤ 100000000000 ∧ (∀ k, k ∈ L ↔ (∃ r ∈ l, ∃ u, (En S r.p.body z8 u ∧ NegOk N r.p.body u) ∧ gnd r.p.head u = k) ∧ ¬ S k) ∧ FM w10 w.heap.size S ∧ Blk w10 w1.heap.size [.map (some w.heap.size)] 105 ∧ Ext w w10, ?_, ?_⟩
  rotate_left
  · -- the rules
    refine rangeI (fun i w10 => ∃ (sL : Sl) (L : List Ky), Blk w10 w7.heap.size [.slice sL.a sL.n sL.c] 150 ∧ Own 121 3 eK (w7.heap.size + 1) w10 sL L ∧ L.length ≤ i * 1000000000 ∧ (∀ k, k ∈ L ↔ (∃ r ∈ l.take i, ∃ u, (En S r.p.body z8 u ∧ NegOk N r.p.body u) ∧ gnd r.p.head u = k) ∧ ¬ S k) ∧ FM w10 w.heap.size S ∧ Blk w10 w1.heap.size [.map (some w.heap.size)] 105 ∧ Ext w w10)
      (by rw [hsn]; show l.length ≤ 9223372036854775807; omega) ⟨⟨none, 0, 0⟩, [], b9, Own.nil .., by simp, by simp, m7.ext x9, b7.ext x9, x7.trans x9⟩ ?_ ?_
    · rintro i hi w17 ⟨sL, L, bF, ho, hLl, hLm, m17, b17, x17⟩ K hK
      have hi : i < l.length := by omega
      refine loadR (hs.ext x17) hi fun w20 b20 x20 => ⟨_, _, _, b20.rd, some w.heap.size, (b17.ext x20).cell 0, ?_⟩
      have hr := List.getElem_mem hi
      have hrok := hok _ hr
      generalize hri : l[i] = r at b20 hr hrok
      have x020 := x17.trans x20
      have m20 := m17.ext x20
      have bO20 := b17.ext x20
      have hI : GI w7.heap.size S r.head.p L [] w20 := ⟨sL, L, bF.ext x20, ho.ext x20, by simp, fun k => by simp⟩
      have C := GI.cb w7.heap.size S r.head.p L
      have hkR : Kp (ownF w7.heap.size) w20 _ _ _ := ⟨b20, hI.no b20 (by decide) (by decide)⟩
      have hkO : Kp (ownF w7.heap.size) w20 _ _ _ := ⟨bO20, hI.old hObF⟩
      -- what was there at the start is kept
      have hext : ∀ w', Rl (ownF w7.heap.size) w20 w' → Ext w w' := fun w' R' => x020.newer R'.fr fun y hy => by
        rcases Nat.lt_or_ge y w7.heap.size with h | h
        · exact absurd hy (hI.old h)
        · omega
      have hmS : ∀ w', Rl (ownF w7.heap.size) w20 w' → FM w' w.heap.size S := fun w' R' => m20.fr R'.fr (hI.noM m20)
      have fewS : Few S := ⟨U, hU, fun k hk => hsub k (hS k hk)⟩
      have hi1 := (Nat.mul_le_mul_right 1000000000 (show i + 1 ≤ 100 by omega))
      rw [Nat.add_mul, Nat.one_mul] at hi1
      have hpr := hpow r hr
      have h113 := c113 (P := fun u => True) (r := r) (m2 := m2) (Nt := N) (In := S) (f := 114) (c := [.pointer (some ⟨w17.heap.size, 0, none⟩), .pointer (some ⟨w1.heap.size, 0, none⟩), .pointer (some ⟨w7.heap.size, 0, none⟩)]) C hI (fun w' R' => ((hs.ext (hext w' R')).ok r hr)) m20 fewS (fun w' R' => hn.ext (hext w' R')) callable114 1000000000 (by simp; exact hpr)
        (fun vs v w' R' hIv hvs hv8 _ => c114 hIv (hkR.rl R').b (hkO.rl R').b (hmS w' R') ((hs.ext (hext w' R')).ok r hr).hd hrok.1 hv8 (by omega))
        (fun b hb => hrok.2.2 b.p (List.mem_map.2 ⟨b, hb, rfl⟩)) (by have := hrok.2.1; simp [DR.p] at this; omega) (fun _ _ _ => trivial)
      refine h113.mono fun e w21 ⟨he, vs', hI', hl', R', hu⟩ => ⟨he, ?_⟩
      obtain ⟨s', L', g1, g2, g3, g4⟩ := hI'.ex
      refine hK _ ⟨s', L', g1, g2, ?_, fun k => ?_, hmS w21 R', (hkO.rl R').b, hext w21 R'⟩
      · rw [Nat.add_mul, Nat.one_mul]; simp at g3; omega
      · rw [g4, hLm, List.take_succ_eq_append_getElem hi, hri]
        simp only [List.nil_append]
        constructor
        · rintro (⟨⟨r', hr', h1⟩, h2⟩ | ⟨⟨u, hu', e⟩, h2⟩)
          · exact ⟨⟨r', List.mem_append_left _ hr', h1⟩, h2⟩
          · exact ⟨⟨r, by simp, u, (hu u).1 hu', e⟩, h2⟩
        · rintro ⟨⟨r', hr', u, h1, e⟩, h2⟩
          rcases List.mem_append.1 hr' with hr' | hr'
          · exact .inl ⟨⟨r', hr', u, h1, e⟩, h2⟩
          · simp only [List.mem_singleton] at hr'
            subst hr'
            exact .inr ⟨⟨u, (hu u).2 h1, e⟩, h2⟩
    · rintro w10 ⟨sL, L, bF, ho, hLl, hLm, m10, b10, x10⟩
      rw [hsn] at hLl hLm
      rw [List.take_length] at hLm
      have := (Nat.mul_le_mul_right 1000000000 hl)
      exact ⟨sL, L, bF, ho, by omega, hLm, m10, b10, x10⟩
  rintro w10 ⟨sL, L, bF, ho, hLl, hLm, m10, b10, x10⟩
  refine ⟨sL, bF.cell 0, ?_⟩
  have hsl := ho.sli.len
  have hLb : ∀ {y : Nat}, y ≤ w7.heap.size → ¬ BlS sL y := fun hy ⟨a, ha, e⟩ => by have := (ho.base ha).1; omega
  refine ⟨fun w11 => FM w11 w.heap.size (fun k => S k ∨ k ∈ L) ∧ Blk w11 w7.heap.size [.slice sL.a sL.n sL.c] 150 ∧ Blk w11 w1.heap.size [.map (some w.heap.size)] 105 ∧ Ext w w11, ?_, ?_⟩
  rotate_left
  · refine rangeI (fun j w12 => FM w12 w.heap.size (fun k => S k ∨ k ∈ L.take j) ∧ Fr (fun y => y = w.heap.size) w10 w12) (by rw [hsl]; show L.length ≤ 9223372036854775807; omega) ⟨m10.congr fun k => by simp, Fr.refl _ _⟩ ?_ ?_
    · rintro j hj w12 ⟨m12, f12⟩ K hK
      have hj : j < L.length := by omega
      have ho12 : Own 121 3 eK (w7.heap.size + 1) w12 sL L := ho.fr f12 fun a ha (e : a.block = w.heap.size) => by have := (ho.base ha).1; omega
      obtain ⟨p, hp, a1, a2, hr⟩ := Sli.at eK_len ho12.sli hj
      obtain ⟨q1, q2, q3⟩ := new_eK w12 L[j]
      refine ⟨p, hp, a1, a2, _, _, _, hr, Let.intro fun w14 e14 => ?_⟩
      rw [← e14] at q1 q2 q3
      refine ⟨q1, Let.intro fun w15 e15 => ?_⟩
      have e15 : w15 = put w14 w12.heap.size 0 (eK L[j]) := e15
      rw [← e15] at q2 q3
      obtain ⟨w16, hrun, m16, f16⟩ := (m12.ext q3).put K121 u105 L[j]
      have b15 : Blk w15 w1.heap.size [.map (some w.heap.size)] 105 := (b10.fr f12 (by omega)).ext q3
      refine ⟨some w.heap.size, b15.cell 0, _, _, _, q2.rd, w16, hrun, hK _ ⟨m16.congr fun k => ?_, (f12.ext q3).trans f16 fun _ _ h => h⟩⟩
      rw [List.take_succ_eq_append_getElem hj, List.mem_append, List.mem_singleton, or_assoc]
    · rintro w12 ⟨m12, f12⟩
      rw [hsl, List.take_length] at m12
      exact ⟨m12, bF.fr f12 (by omega), b10.fr f12 (by omega), x10.newer f12 fun y (hy : y = w.heap.size) => by omega⟩
  rintro w11 ⟨m11, bF11, b11, x11⟩
  refine ⟨sL, bF11.cell 0, ?_⟩
  obtain ⟨ks', c', _, hnd', hmem', _⟩ := m11.list
  have hS' : ∀ k, (S k ∨ k ∈ L) → Cl (l.map DR.p) G N k := fun k hk => by
    rcases hk with hk | hk
    · exact hS k hk
    · obtain ⟨⟨r, hr, u, ⟨h1, h2⟩, e⟩, _⟩ := (hLm k).1 hk
      rw [← e]
      exact Cl.closed (l.map DR.p) G N r.p (List.mem_map.2 ⟨r, hr, rfl⟩) u (En_mono hS h1) h2
  have hU' : (ks'.map (·.1)).length ≤ U.length := hnd'.length_le_of_subset fun k hk => hsub k (hS' k ((hmem' k).2 hk))
  have hsub' : ∀ k ∈ ks, k ∈ ks'.map (·.1) := fun k hk => (hmem' k).1 (.inl ((hks k).2 hk))
  have hle : ks.length ≤ (ks'.map (·.1)).length := hkn.length_le_of_subset hsub'
  have hlen : ((sL.n : Nat) : Int) = (L.length : Int) := by rw [hsl]
  rw [hlen]
  refine ⟨U.length - (ks'.map (·.1)).length + (if (decide ((L.length : Int) > 0)) = true then 1 else 0), ?_, _, ks'.map (·.1), m11, hmem', hnd', rfl, fun k hk => .inl (hG k hk), hS', fun hb => ?_, b11, x11⟩
  · by_cases hL : L = []
    · subst hL
      rw [List.length_map] at hle hU' ⊢; simp; omega
    · obtain ⟨k, hk⟩ := List.exists_mem_of_ne_nil L hL
      have hk' := (hLm k).1 hk
      have hlt : ks.length + 1 ≤ (ks'.map (·.1)).length := by
        have h1 : (k :: ks).Nodup := List.nodup_cons.2 ⟨fun h => hk'.2 ((hks k).2 h), hkn⟩
        have := h1.length_le_of_subset (l₂ := ks'.map (·.1)) fun y hy => by
          rcases List.mem_cons.1 hy with rfl | hy
          · exact (hmem' _).1 (.inr hk)
          · exact hsub' y hy
        simpa using this
      have h0 : 0 < L.length := List.length_pos_iff.2 hL
      have : decide ((L.length : Int) > 0) = true := by simp; omega
      rw [this]
      simp only [if_true]
      omega
  · have hL : L = [] := by
      have : ¬ ((L.length : Int) > 0) := by simpa using hb
      exact List.eq_nil_of_length_eq_zero (by omega)
    subst hL
    intro r hr u h1 h2
    obtain ⟨r', hr', rfl⟩ := List.mem_map.1 hr
    have h1' : En S r'.p.body z8 u := En_mono (fun k hk => by simpa using hk) h1
    refine .inl ?_
    by_cases hk : S (gnd r'.p.head u)
    · exact hk
    · exact absurd ((hLm _).2 ⟨⟨r', hr', u, ⟨h1', h2⟩, rfl⟩, hk⟩) (by simp)
end Go.Proofs.Ytoljknamnkkgcaa
/-
  Contracts: the atoms of a rule; are all its variables bound.
-/
namespace Go.Proofs.Ytoljknamnkkgcaa
open Go Go.VC
set_option maxHeartbeats 1000000
set_option maxRecDepth 100000

def Ru.atoms (r : Ru) : List Fa := r.head :: r.body.map (·.a)
def DR.atoms (r : DR) : List DF := r.head :: r.body.map (·.a)
theorem DR.atoms_p (r : DR) : r.atoms.map DF.p = r.p.atoms := by simp [DR.atoms, Ru.atoms, DR.p, DL.p]
theorem E169 : Elem Try.prog 169 48 2 32 := Elem.of (by kernel_rfl) (by kernel_rfl) (by decide)
theorem rdAtom {w : World} {q : Nat} {x : DL} {T : TypeId} (h : Blk w q (eL x) T) : rd w q (0 + 1) [.int .i64 x.a.rel, .slice x.a.sl.a x.a.sl.n x.a.sl.c] := h.rd_drop (o := 0 + 1) fun j y hy => by
  rcases j with _ | _ | j
  · simpa [eL] using hy
  · simpa [eL] using hy
  · simp at hy
theorem rdHead {w : World} {q : Nat} {x : DR} {T : TypeId} (h : Blk w q (eR x) T) : rd w q (0 + 0) [.int .i64 x.head.rel, .slice x.head.sl.a x.head.sl.n x.head.sl.c] := h.rd_drop (o := 0 + 0) fun j y hy => by
  rcases j with _ | _ | j
  · simpa [eR] using hy
  · simpa [eR] using hy
  · simp at hy
/-- The Head and the atoms of the Body. -/
theorem c104 {w : World} {r : DR} (hr : RulOk w r) (hb : r.body.length ≤ 1000) :
    Calls Try.prog 104 [.agg [.int .i64 r.head.rel, .slice r.head.sl.a r.head.sl.n r.head.sl.c, .slice r.bs.a r.bs.n r.bs.c].toArray].toArray w fun e w' => ∃ s : Sl, e = .returned (.slice s.a s.n s.c) ∧ Own 48 2 eF w.heap.size w' s r.atoms ∧ Ext w w' := by
  refine (call104 r.head.rel r.head.sl r.bs (R := fun v w' => ∃ s : Sl, v = (.slice s.a s.n s.c) ∧ Own 48 2 eF w.heap.size w' s r.atoms ∧ Ext w w') ?_).mono fun e w' ⟨v, he, s, hv, hx⟩ => ⟨s, by rw [he, hv], hx⟩
  refine Let.intro fun w1 e1 => ?_
  have b1 : Blk w1 w.heap.size (eR r) 52 := by rw [e1]; exact Blk.alloc w (eR r) 52
  have x1 : Ext w w1 := by rw [e1]; exact Ext.alloc ..
  have hbd := buildOne_run E169 (v := .agg [.int .i64 r.head.rel, .slice r.head.sl.a r.head.sl.n r.head.sl.c].toArray) (vs := eF r.head) rfl rfl (by omega) w1
  have x2 := Ext.alloc w1 (.cells (eF r.head).toArray 48)
  have ho := Own.one (T := 48) (size := 2) (enc := eF) w1 r.head rfl
  have x12 := x1.trans x2
  refine ⟨_, _, rdHead b1, ⟨some ⟨w1.heap.size, 0, none⟩, 1, 1⟩, _, hbd, r.bs, (b1.ext x2).cell 2, ?_⟩
  have hbn := hr.bd.len
  refine Join.dir (rangeSI (fun i (s : Sl) w4 => Own 48 2 eF w1.heap.size w4 s (r.head :: (r.body.take i).map (·.a)) ∧ w1.heap.size ≤ w4.heap.size ∧ Ext w w4) (by rw [hbn]; show r.body.length ≤ 9223372036854775807; omega) ⟨by simpa using ho, x2.size, x12⟩ ?_ ?_)
  · rintro i hi s w4 ⟨ho4, z4, x4⟩ K hK
    have hi : i < r.body.length := by omega
    refine loadL (hr.bd.ext x4) hi fun w7 b7 x7 => ⟨_, _, rdAtom b7, ?_⟩
    have x47 := x4.trans x7
    obtain ⟨s1, w8, hb8, s2, w9, hr9, ho9, hf9⟩ := appendOne E169 (ho4.ext x7) (x := (r.body[i]).a) (v := .agg (eF (r.body[i]).a).toArray) rfl eF_len eF_one (by omega) (by simp; omega) (by simp [maxLen]; omega) (by have := x7.size; omega) 169
    refine ⟨s1, w8, hb8, s2, w9, hr9, hK _ _ ⟨?_, by have := x7.size; have := hf9.size; omega, x47.newer hf9 fun y ⟨a, ha, e⟩ => by have := ((ho4.ext x7).base ha).1; have := x1.size; omega⟩⟩
    rw [List.take_succ_eq_append_getElem hi, List.map_append, ← List.cons_append]
    exact ho9
  · rintro s w4 ⟨ho4, z4, x4⟩
    rw [hbn, List.take_length] at ho4
    exact ⟨s, rfl, ho4.mono x1.size, x4⟩
theorem RulOk.atoms {w : World} {r : DR} (h : RulOk w r) : ∀ x ∈ r.atoms, Ints w x.sl x.args := fun x hx => by
  rcases List.mem_cons.1 hx with rfl | hx
  · exact h.hd
  · obtain ⟨b, hb, rfl⟩ := List.mem_map.1 hx
    exact h.bd.ok b hb
/-! ### variables that are bound -/
/-- All variables occur in a literal without Not. -/
def SafeP (r : Ru) : Prop := ∀ a ∈ r.atoms, ∀ x ∈ a.args, 0 ≤ x → ∃ b ∈ r.body, b.neg = false ∧ x ∈ b.a.args
theorem u188 : Try.prog.underlying 188 = some (.map 3 4) := by kernel_rfl
structure BndM (w : World) (b : Nat) (Q : Int → Prop) : Prop where
  ex : ∃ (l : List (Ent Int Bool)) (c : Nat), Mp (fun n : Int => Value.int .i64 n) veB w b l c ∧ ∀ v, (mget l v).getD false = true ↔ Q v
theorem BndM.ext {w w' : World} {b : Nat} {Q : Int → Prop} (m : BndM w b Q) (x : Ext w w') : BndM w' b Q := by
  obtain ⟨l, c, h1, h2⟩ := m.ex; exact ⟨l, c, h1.ext x, h2⟩
theorem BndM.congr {w : World} {b : Nat} {Q Q' : Int → Prop} (m : BndM w b Q) (h : ∀ v, Q v ↔ Q' v) : BndM w b Q' := by
  obtain ⟨l, c, h1, h2⟩ := m.ex; exact ⟨l, c, h1, fun v => (h2 v).trans (h v)⟩
theorem BndM.look {w : World} {b : Nat} {Q : Int → Prop} (m : BndM w b Q) (v : Int) : ∃ r : Bool, (Instr.lookup 188 (.map (some b)) (.int .i64 v) false).run Try.prog w = .ok (.bool r) w ∧ (r = true ↔ Q v) := by
  obtain ⟨l, c, h1, h2⟩ := m.ex
  refine ⟨(mget l v).getD false, ?_, h2 v⟩
  rw [(look_run K3 u188 h1 zero4 v).1]
  cases mget l v <;> rfl
theorem BndM.put {w : World} {b : Nat} {Q : Int → Prop} (m : BndM w b Q) (v : Int) (t : Bool) : ∃ w', (Instr.mapUpdate 188 (.map (some b)) (.int .i64 v) (.bool t)).run Try.prog w = .ok () w' ∧ BndM w' b (fun u => if u = v then t = true else Q u) ∧ Fr (fun y => y = b) w w' := by
  obtain ⟨l, c, h1, h2⟩ := m.ex
  obtain ⟨w', c', hr, hm, hf⟩ := put_run K3 u188 h1 v t
  refine ⟨w', hr, ⟨_, c', hm, fun u => ?_⟩, hf⟩
  rw [mget_mput]
  by_cases e : u = v
  · simp [e]
  · simp [e, h2]
theorem c103 {w : World} {r : DR} (hr : RulOk w r) (hb : r.body.length ≤ 1000) (ha : ∀ x ∈ r.atoms, x.args.length ≤ 1000) :
    Calls Try.prog 103 [.agg [.int .i64 r.head.rel, .slice r.head.sl.a r.head.sl.n r.head.sl.c, .slice r.bs.a r.bs.n r.bs.c].toArray].toArray w fun e w' => ∃ b : Bool, e = .returned (.bool b) ∧ (b = true ↔ SafeP r.p) ∧ Ext w w' := by
  refine (call103 r.head.rel r.head.sl r.bs (R := fun v w' => ∃ b : Bool, v = .bool b ∧ (b = true ↔ SafeP r.p) ∧ Ext w w') ?_).mono fun e w' ⟨v, he, b, hv, hx⟩ => ⟨b, by rw [he, hv], hx⟩
  refine Let.intro fun w1 e1 => ?_
  have b1 : Blk w1 w.heap.size (eR r) 52 := by rw [e1]; exact Blk.alloc w (eR r) 52
  have x1 : Ext w w1 := by rw [e1]; exact Ext.alloc ..
  refine Let.intro fun w2 e2 => ?_
  have m2 : BndM w2 w1.heap.size fun _ => False := by rw [e2]; exact ⟨[], 0, Mp.made w1, fun v => by simp [mget]⟩
  have x2 : Ext w1 w2 := by rw [e2]; exact Ext.alloc ..
  have b1 := b1.ext x2
  have x12 := x1.trans x2
  have hbn := hr.bd.len
  have l1 : w.heap.size < w1.heap.size := by rw [e1]; simp
  refine ⟨r.bs, b1.cell 2, ?_⟩
  let Qd : Int → Prop := fun v => ∃ b ∈ r.body, b.neg = false ∧ v ∈ b.a.args
  have hsafe : SafeP r.p ↔ ∀ x ∈ r.atoms, ∀ v ∈ x.args, 0 ≤ v → Qd v := by
    unfold SafeP
    rw [← DR.atoms_p]
    constructor
    · intro h x hx v hv h0
      obtain ⟨b, hb, h1, h2⟩ := h x.p (List.mem_map.2 ⟨x, hx, rfl⟩) v hv h0
      obtain ⟨b', hb', rfl⟩ := List.mem_map.1 hb
      exact ⟨b', hb', h1, h2⟩
    · intro h x hx v hv h0
      obtain ⟨x', hx', rfl⟩ := List.mem_map.1 hx
      obtain ⟨b, hb, h1, h2⟩ := h x' hx' v hv h0
      exact ⟨b.p, List.mem_map.2 ⟨b, hb, rfl⟩, h1, h2⟩
  refine ⟨fun w3 => BndM w3 w1.heap.size Qd ∧ Blk w3 w.heap.size (eR r) 52 ∧ Ext w w3, ?_, ?_⟩
  · rintro w3 ⟨m3, b3, x3⟩
    refine ⟨_, _, _, b3.rd, (c104 (hr.ext x3) hb).mono fun e w4 ⟨s, he, hso, x4⟩ => ⟨s, he, ?_⟩⟩
    have hs : NF w4 s r.atoms := ⟨hso.sli, (hr.ext (x3.trans x4)).atoms⟩
    have hn := hs.len
    have m4 := m3.ext x4
    have x34 := x3.trans x4
    have hlen : r.atoms.length ≤ 1001 := by simp [DR.atoms]; omega
    refine Join.dir (rangeI (fun i w6 => (∀ x ∈ r.atoms.take i, ∀ v ∈ x.args, 0 ≤ v → Qd v) ∧ Ext w4 w6) (by rw [hn]; show r.atoms.length ≤ 9223372036854775807; omega) ⟨by simp, Fr.refl _ _⟩ ?_ ?_)
    · rintro i hi w6 ⟨hok, x6⟩ K hK
      have hi : i < r.atoms.length := by omega
      refine loadF (hs.ext x6) hi (by kernel_rfl) fun w9 b9 x9 => ⟨_, b9.cell 1, ?_⟩
      have hint := ((hs.ok _ (List.getElem_mem hi)).ext x6).ext x9
      have hal := ha _ (List.getElem_mem hi)
      generalize hxi : r.atoms[i] = x at b9 hint hal
      have hxn := hint.len
      refine Join.dir (rangeI (fun j w11 => (∀ v ∈ x.args.take j, 0 ≤ v → Qd v) ∧ Ext w9 w11) (by rw [hxn]; show x.args.length ≤ 9223372036854775807; omega) ⟨by simp, Fr.refl _ _⟩ ?_ ?_)
      · rintro j hj w11 ⟨hok2, x11⟩ K2 hK2
        have hj : j < x.args.length := by omega
        obtain ⟨p, hp, a1, a2, hrd⟩ := Ints.at (hint.ext x11) hj
        refine ⟨p, hp, a1, a2, _, hrd, ?_⟩
        have x411 := (x6.trans x9).trans x11
        obtain ⟨t, hlk, ht⟩ := (m4.ext x411).look x.args[j]
        refine ⟨fun (b61 : Bool) w13 => (b61 = true ↔ 0 ≤ x.args[j] ∧ ¬ Qd x.args[j]) ∧ w13 = w11, ?_, ?_⟩
        · rintro b61 w13 ⟨hb61, rfl⟩
          refine cond_intro (fun g => ⟨false, rfl, ?_, x34.trans x411⟩) (fun g => hK2 _ ⟨fun v hv h0 => ?_, x11⟩)
          · have hg := hb61.1 g
            simp only [Bool.false_eq_true, false_iff]
            intro hsf
            exact hg.2 (hsafe.1 hsf x (by rw [← hxi]; exact List.getElem_mem hi) _ (List.getElem_mem hj) hg.1)
          · rw [List.take_succ_eq_append_getElem hj] at hv
            rcases List.mem_append.1 hv with hv | hv
            · exact hok2 v hv h0
            · simp only [List.mem_singleton] at hv
              subst hv
              refine Classical.byContradiction fun hq => ?_
              rw [hb61.2 ⟨h0, hq⟩] at g; cases g
        · refine cond_intro (fun g => ⟨t, hlk, ?_, rfl⟩) (fun g => ⟨?_, rfl⟩)
          · have g : 0 ≤ x.args[j] := by simpa using g
            cases t <;> simp_all
          · have g : ¬ 0 ≤ x.args[j] := by simpa using g
            simp [g]
      · rintro w10 ⟨hok2, x10⟩
        rw [hxn, List.take_length] at hok2
        refine hK _ ⟨fun y hy => ?_, (x6.trans x9).trans x10⟩
        rw [List.take_succ_eq_append_getElem hi, List.mem_append, List.mem_singleton, hxi] at hy
        rcases hy with hy | rfl
        · exact hok y hy
        · exact hok2
    · rintro w5 ⟨hok, x5⟩
      rw [hn, List.take_length] at hok
      exact ⟨true, rfl, by simp [hsafe.2 hok], x34.trans x5⟩
  · refine rangeI (fun i w14 => BndM w14 w1.heap.size (fun v => ∃ b ∈ r.body.take i, b.neg = false ∧ v ∈ b.a.args) ∧ Blk w14 w.heap.size (eR r) 52 ∧ Ext w w14) (by rw [hbn]; show r.body.length ≤ 9223372036854775807; omega) ⟨m2.congr fun v => by simp, b1, x12⟩ ?_ ?_
    · rintro i hi w14 ⟨m14, b14, x14⟩ K hK
      have hi : i < r.body.length := by omega
      refine loadL (hr.bd.ext x14) hi fun w17 b17 x17 => ⟨_, b17.cell 2, ?_⟩
      have hint := ((hr.bd.ok _ (List.getElem_mem hi)).ext x14).ext x17
      have hal := ha (r.body[i]).a (List.mem_cons_of_mem _ (List.mem_map.2 ⟨_, List.getElem_mem hi, rfl⟩))
      generalize hxi : r.body[i] = x at b17 hint hal
      have hxn := hint.len
      have l17 := b17.lt
      have hlm : w1.heap.size < w17.heap.size := by obtain ⟨l, c, h, _⟩ := (m14.ext x17).ex; exact h.bound
      have hq : w1.heap.size < w14.heap.size := by obtain ⟨l, c, h, _⟩ := m14.ex; exact h.bound
      refine Join.dir (rangeI (fun j w19 => BndM w19 w1.heap.size (fun v => (∃ b ∈ r.body.take i, b.neg = false ∧ v ∈ b.a.args) ∨ (x.neg = false ∧ v ∈ x.a.args.take j)) ∧ Fr (fun y => y = w1.heap.size) w17 w19) (by rw [hxn]; show x.a.args.length ≤ 9223372036854775807; omega) ⟨(m14.ext x17).congr fun v => by simp, Fr.refl _ _⟩ ?_ ?_)
      · rintro j hj w19 ⟨m19, f19⟩ K2 hK2
        have hj : j < x.a.args.length := by omega
        have x019 : Ext w w19 := (x14.trans x17).newer f19 fun y (hy : y = w1.heap.size) => by omega
        have hint19 : Ints w19 x.a.sl x.a.args := by
          have h0 := hr.bd.ok _ (List.getElem_mem hi)
          rw [hxi] at h0
          exact h0.ext x019
        obtain ⟨p, hp, a1, a2, hrd⟩ := Ints.at hint19 hj
        refine ⟨p, hp, a1, a2, _, hrd, Join.dir ?_⟩
        generalize hvj : x.a.args[j] = v
        obtain ⟨t, hlk, ht⟩ := m19.look v
        have hmem : ∀ u, u ∈ x.a.args.take (j + 1) ↔ u ∈ x.a.args.take j ∨ u = v := fun u => by rw [List.take_succ_eq_append_getElem hj, List.mem_append, List.mem_singleton, hvj]
        refine ⟨t, hlk, cond_intro (fun g => ?_) (fun g => ?_)⟩
        · obtain ⟨w22, hr22, m22, f22⟩ := m19.put v true
          refine ⟨w22, hr22, hK2 _ ⟨m22.congr fun u => ?_, f19.trans f22 fun _ _ h => h⟩⟩
          rw [hmem]
          by_cases e : u = v
          · subst e
            simp only [if_true, true_iff]
            rcases ht.1 g with h | ⟨h1, h2⟩
            · exact .inl h
            · exact .inr ⟨h1, .inl h2⟩
          · simp [e]
        · obtain ⟨w23, hr23, m23, f23⟩ := m19.put v (!x.neg)
          refine ⟨x.neg, (b17.fr f19 (by omega)).cell 0, w23, hr23, hK2 _ ⟨m23.congr fun u => ?_, f19.trans f23 fun _ _ h => h⟩⟩
          rw [hmem]
          by_cases e : u = v
          · subst e
            have hno : ¬ _ := fun h => by rw [ht.2 h] at g; cases g
            simp only [not_or] at hno
            simp only [if_true, Bool.not_eq_true']
            constructor
            · exact fun h => .inr ⟨h, .inr trivial⟩
            · rintro (h | ⟨h, _⟩)
              · exact absurd h hno.1
              · exact h
          · simp [e]
      · rintro w18 ⟨m18, f18⟩
        rw [hxn, List.take_length] at m18
        refine hK _ ⟨m18.congr fun v => ?_, (b14.ext x17).fr f18 (by omega), (x14.trans x17).newer f18 fun y (hy : y = w1.heap.size) => by omega⟩
        rw [List.take_succ_eq_append_getElem hi, hxi]
        constructor
        · rintro (⟨b, hb, h⟩ | ⟨h1, h2⟩)
          · exact ⟨b, List.mem_append_left _ hb, h⟩
          · exact ⟨x, by simp, h1, h2⟩
        · rintro ⟨b, hb, h⟩
          rcases List.mem_append.1 hb with hb | hb
          · exact .inl ⟨b, hb, h⟩
          · simp only [List.mem_singleton] at hb
            subst hb; exact .inr h
    · rintro w3 ⟨m3, b3, x3⟩
      rw [hbn, List.take_length] at m3
      exact ⟨m3, b3, x3⟩
end Go.Proofs.Ytoljknamnkkgcaa
