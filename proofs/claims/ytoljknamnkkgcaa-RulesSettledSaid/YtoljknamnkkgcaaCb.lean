/-
  Contracts: comparing facts, facts and keys, the smallest and the greatest number.
-/
import Derived.Test.YtoljknamnkkgcaaHc
import Derived.Test.YtoljknamnkkgcaaVx
namespace Go.Proofs.Ytoljknamnkkgcaa
open Go Go.VC
set_option maxHeartbeats 1000000
set_option maxRecDepth 100000

theorem E34 : Elem Try.prog 34 3 1 8 := Elem.of (by kernel_rfl) (by kernel_rfl) (by decide)
theorem eI_one (n : Int) : ∀ v ∈ eI n, v.oneCell' = true := by intro v hv; simp [eI] at hv; subst hv; rfl
def cmpI (x y : Int) : Int := if x < y then -1 else if x > y then 1 else 0
def cmpL : List Int → List Int → Int
  | [], [] => 0
  | [], _ :: _ => -1
  | _ :: _, [] => 1
  | a :: r, b :: s => if cmpI a b ≠ 0 then cmpI a b else cmpL r s
theorem cmpI_cases (x y : Int) : (cmpI x y = -1 ∧ x < y) ∨ (cmpI x y = 0 ∧ x = y) ∨ (cmpI x y = 1 ∧ y < x) := by
  unfold cmpI
  split
  · exact .inl ⟨rfl, by assumption⟩
  · split
    · exact .inr (.inr ⟨rfl, by assumption⟩)
    · exact .inr (.inl ⟨rfl, by omega⟩)
theorem cmpI_swap (x y : Int) : cmpI y x = - cmpI x y := by
  rcases cmpI_cases x y with ⟨h, g⟩ | ⟨h, g⟩ | ⟨h, g⟩ <;> rcases cmpI_cases y x with ⟨h', g'⟩ | ⟨h', g'⟩ | ⟨h', g'⟩ <;> omega
theorem cmpL_swap : ∀ a b : List Int, cmpL b a = - cmpL a b
  | [], [] => rfl
  | [], _ :: _ => rfl
  | _ :: _, [] => rfl
  | a :: r, b :: s => by
    rw [cmpL, cmpL, cmpI_swap a b, cmpL_swap r s]
    by_cases h : cmpI a b = 0
    · simp [h]
    · rw [if_pos (by omega), if_pos h]
theorem cmpL_refl : ∀ a : List Int, cmpL a a = 0
  | [] => rfl
  | a :: r => by rw [cmpL, if_neg (by simp [cmpI]), cmpL_refl r]
theorem cmpL_zero : ∀ {a b : List Int}, cmpL a b = 0 → a = b
  | [], [], _ => rfl
  | [], _ :: _, h => by cases h
  | _ :: _, [], h => by cases h
  | a :: r, b :: s, h => by
    rw [cmpL] at h
    split at h
    · exact absurd h (by assumption)
    · rename_i h0
      rcases cmpI_cases a b with ⟨h', g⟩ | ⟨h', g⟩ | ⟨h', g⟩
      · omega
      · rw [g, cmpL_zero h]
      · omega
theorem cmpL_trans : ∀ {a b c : List Int}, cmpL a b < 0 → cmpL b c < 0 → cmpL a c < 0
  | [], [], _, h, _ => by simp [cmpL] at h
  | [], _ :: _, [], _, h => by simp [cmpL] at h
  | [], _ :: _, _ :: _, _, _ => by simp [cmpL]
  | _ :: _, [], _, h, _ => by simp [cmpL] at h
  | _ :: _, _ :: _, [], _, h => by simp [cmpL] at h
  | a :: r, b :: s, c :: t, h1, h2 => by
    rw [cmpL] at h1 h2 ⊢
    rcases cmpI_cases a b with ⟨e1, g1⟩ | ⟨e1, g1⟩ | ⟨e1, g1⟩ <;> rcases cmpI_cases b c with ⟨e2, g2⟩ | ⟨e2, g2⟩ | ⟨e2, g2⟩ <;> rcases cmpI_cases a c with ⟨e3, g3⟩ | ⟨e3, g3⟩ | ⟨e3, g3⟩ <;> simp [e1, e2, e3] at h1 h2 ⊢ <;> first | omega | exact cmpL_trans h1 h2
def Fa.key (f : Fa) : List Int := f.rel :: f.args
theorem Fa.key_inj {a b : Fa} (h : a.key = b.key) : a = b := by
  cases a; cases b; simp [Fa.key] at h; simp [h]
def ltF (x y : DF) : Bool := decide (cmpL x.p.key y.p.key < 0)
theorem ltF_swo : Sort.SWO ltF where
  irrefl := fun x => by simp [ltF, cmpL_refl]
  trans := fun x y z h1 h2 => by simp [ltF] at h1 h2 ⊢; exact cmpL_trans h1 h2
  ntrans := fun x y z h1 h2 => by
    simp only [ltF, decide_eq_false_iff_not] at h1 h2 ⊢
    intro h3
    have s1 := cmpL_swap x.p.key y.p.key
    have s2 := cmpL_swap y.p.key z.p.key
    rcases Int.lt_trichotomy (cmpL x.p.key y.p.key) 0 with h | h | h
    · exact h1 h
    · rw [cmpL_zero h] at h3; exact h2 h3
    · have h4 : cmpL y.p.key x.p.key < 0 := by omega
      exact h2 (cmpL_trans h4 h3)
theorem c111 (x y : Int) (w : World) : Calls Try.prog 111 [.int .i64 x, .int .i64 y].toArray w fun e w' => e = .returned (.int .i64 (cmpI x y)) ∧ w' = w := by
  have c126 : ∀ (x : Int) (w : World), Calls Try.prog 126 [.int .i64 x].toArray w fun e w' => e = .returned (.bool false) ∧ w' = w := fun x w => by
    refine (call126 x (R := fun v w' => v = .bool false ∧ w' = w) ?_).mono fun e w' ⟨v, he, hv, hx⟩ => ⟨by rw [he, hv], hx⟩
    exact ⟨by simp, rfl⟩
  refine (call111 x y (R := fun v w' => v = .int .i64 (cmpI x y) ∧ w' = w) ?_).mono fun e w' ⟨v, he, hv, hx⟩ => ⟨by rw [he, hv], hx⟩
  refine (c126 x w).mono fun e w1 ⟨he, h1⟩ => ⟨_, he, (c126 y w1).mono fun e w2 ⟨he, h2⟩ => ⟨_, he, ?_⟩⟩
  subst h1
  subst h2
  refine cond_intro (fun h => by cases h) (fun _ => cond_intro (fun h => by cases h) (fun _ => cond_intro (fun h => ⟨?_, rfl⟩) (fun h => cond_intro (fun h' => ⟨?_, rfl⟩) (fun h' => ⟨?_, rfl⟩))))
  · have h : x < y := by simpa using h
    rw [cmpI, if_pos h]
  · have h : ¬ x < y := by simpa using h
    have h' : x > y := by simpa using h'
    rw [cmpI, if_neg h, if_pos h']
  · have h : ¬ x < y := by simpa using h
    have h' : ¬ x > y := by simpa using h'
    rw [cmpI, if_neg h, if_neg h']
theorem cmpL_take : ∀ {l l' : List Int} {i : Nat}, l.take i = l'.take i → i ≤ l.length → i ≤ l'.length → cmpL l l' = cmpL (l.drop i) (l'.drop i)
  | _, _, 0, _, _, _ => by simp
  | [], _, i + 1, _, h, _ => by simp at h
  | _ :: _, [], i + 1, _, _, h => by simp at h
  | a :: r, b :: s, i + 1, h, h1, h2 => by
    simp only [List.take_succ_cons, List.cons.injEq] at h
    obtain ⟨rfl, h⟩ := h
    have := cmpL_take (l := r) (l' := s) h (by simpa using h1) (by simpa using h2)
    simp only [List.drop_succ_cons]
    rw [← this, cmpL, if_neg (by simp [cmpI])]
theorem c112 {w : World} {s s' : Sl} {l l' : List Int} (hs : Ints w s l) (hs' : Ints w s' l') (hl : l.length ≤ big) :
    Calls Try.prog 112 [.slice s.a s.n s.c, .slice s'.a s'.n s'.c].toArray w fun e w' => e = .returned (.int .i64 (cmpL l l')) ∧ Ext w w' := by
  refine (call112 s s' (R := fun v w' => v = .int .i64 (cmpL l l') ∧ Ext w w') ?_).mono fun e w' ⟨v, he, hv, hx⟩ => ⟨by rw [he, hv], hx⟩
  have h1 := hs.len
  have h2 := hs'.len
  refine Join.dir (rangeI (fun i w2 => l.take i = l'.take i ∧ i ≤ l'.length ∧ Ext w w2) (by rw [h1]; exact hl) ⟨by simp, by omega, Fr.refl _ w⟩ ?_ ?_)
  · rintro i hi w2 ⟨hn, hil, hx⟩ K hK
    have hi : i < l.length := by omega
    obtain ⟨p, hp, a1, a2, hr⟩ := Ints.at (hs.ext hx) hi
    have hd : l.drop i = l[i] :: l.drop (i + 1) := List.drop_eq_getElem_cons hi
    refine ⟨p, hp, a1, a2, _, hr, cond_intro (fun hc => ?_) (fun hc => ?_)⟩
    · have hc : l'.length ≤ i := by simp at hc; omega
      refine ⟨?_, hx⟩
      rw [cmpL_take hn (by omega) hil, hd, List.drop_eq_nil_of_le hc]; rfl
    · have hi' : i < l'.length := by simp at hc; omega
      have hd' : l'.drop i = l'[i] :: l'.drop (i + 1) := List.drop_eq_getElem_cons hi'
      obtain ⟨p', hp', b1, b2, hr'⟩ := Ints.at (hs'.ext hx) hi'
      refine ⟨p', hp', b1, b2, _, hr', (c111 _ _ w2).mono fun e w4 ⟨he, hw⟩ => ⟨_, he, ?_⟩⟩
      subst hw
      refine cond_intro (fun hc => ?_) (fun hc => ?_)
      · have hc : cmpI l[i] l'[i] ≠ 0 := by simpa using hc
        refine ⟨?_, hx⟩
        rw [cmpL_take hn (by omega) hil, hd, hd', cmpL, if_pos hc]
      · have hc : cmpI l[i] l'[i] = 0 := by simpa using hc
        have he : l[i] = l'[i] := by unfold cmpI at hc; split at hc <;> first | omega | (split at hc <;> omega)
        exact hK _ ⟨by rw [List.take_succ_eq_append_getElem hi, List.take_succ_eq_append_getElem hi', hn, he], by omega, hx⟩
  · rintro w2 ⟨hn, hil, hx⟩
    rw [h1] at hn hil
    have hc := cmpL_take hn (Nat.le_refl _) hil
    rw [List.drop_length] at hc
    refine cond_intro (fun h => ⟨?_, hx⟩) (fun h => ⟨?_, hx⟩)
    · have hlt : l.length < l'.length := by simp [h1, h2] at h; omega
      have hd' : l'.drop l.length = l'[l.length] :: l'.drop (l.length + 1) := List.drop_eq_getElem_cons hlt
      rw [hc, hd']; rfl
    · have hge : l'.length ≤ l.length := by simp [h1, h2] at h; omega
      rw [hc, List.drop_eq_nil_of_le hge]; rfl
/-- cmp.Or of two ints -/
theorem c110 {w : World} {s : Sl} {x y : Int} (hs : Ints w s [x, y]) :
    Calls Try.prog 110 [.slice s.a s.n s.c].toArray w fun e w' => e = .returned (.int .i64 (if x ≠ 0 then x else y)) ∧ Ext w w' := by
  refine (call110 s (R := fun v w' => v = .int .i64 (if x ≠ 0 then x else y) ∧ Ext w w') ?_).mono fun e w' ⟨v, he, hv, hx⟩ => ⟨by rw [he, hv], hx⟩
  have hn : s.n = 2 := hs.len
  refine Join.dir (rangeI (fun i w2 => (∀ z ∈ [x, y].take i, z = 0) ∧ Ext w w2) (by rw [hn]; decide) ⟨by simp, Fr.refl _ w⟩ ?_ ?_)
  · rintro i hi w2 ⟨hz, hx⟩ K hK
    have hi : i < [x, y].length := by simp; omega
    obtain ⟨p, hp, a1, a2, hr⟩ := Ints.at (hs.ext hx) hi
    refine ⟨p, hp, a1, a2, _, hr, cond_intro (fun hc => ?_) (fun hc => ?_)⟩
    · have hc : [x, y][i] ≠ 0 := by simpa using hc
      refine ⟨?_, hx⟩
      rcases i with _ | _ | i
      · simp at hc ⊢; simp [hc]
      · have h0 : x = 0 := hz x (by simp)
        simp [h0]
      · simp at hi; omega
    · have hc : [x, y][i] = 0 := by simpa using hc
      refine hK _ ⟨fun z hz' => ?_, hx⟩
      rw [List.take_succ_eq_append_getElem hi] at hz'
      rcases List.mem_append.1 hz' with h | h
      · exact hz z h
      · simp only [List.mem_singleton] at h; rw [h]; exact hc
  · rintro w2 ⟨hz, hx⟩
    rw [hn] at hz
    refine ⟨?_, hx⟩
    have h1 := hz x (by simp)
    have h2 := hz y (by simp)
    simp [h1, h2]
theorem eF_cells (w : World) (x : DF) (T : TypeId) : Blk (w.alloc (.cells (eF x).toArray T)) w.heap.size (eF x) T ∧ Ext w (w.alloc (.cells (eF x).toArray T)) := ⟨Blk.alloc w _ T, Ext.alloc ..⟩
/-- The comparison of two facts. -/
theorem c109 {w : World} {x y : DF} (hx : Ints w x.sl x.args) (hy : Ints w y.sl y.args) (hl : x.args.length ≤ big) :
    Calls Try.prog 109 [.agg (eF x).toArray, .agg (eF y).toArray].toArray w fun e w' => e = .returned (.int .i64 (cmpL x.p.key y.p.key)) ∧ Ext w w' := by
  refine (call109 x.rel x.sl y.rel y.sl (R := fun v w' => v = .int .i64 (cmpL x.p.key y.p.key) ∧ Ext w w') ?_).mono fun e w' ⟨v, he, hv, hx⟩ => ⟨by rw [he, hv], hx⟩
  obtain ⟨b1, x1⟩ := eF_cells w x 36
  refine Let.intro fun w1 e1 => ?_
  have e1 : w1 = w.alloc (.cells (eF x).toArray 36) := e1
  rw [← e1] at b1 x1
  obtain ⟨b2, x2⟩ := eF_cells w1 y 36
  refine Let.intro fun w2 e2 => ?_
  have e2 : w2 = w1.alloc (.cells (eF y).toArray 36) := e2
  rw [← e2] at b2 x2
  have b1 := b1.ext x2
  refine ⟨fun u => Ext w2 u, Ext.drew _, Let.intro fun w3 e3 => ?_⟩
  have x3 : Ext w2 w3 := by rw [e3]; exact Ext.drew _
  refine ⟨x.rel, fun u hu => (b1.ext hu).cell 0, y.rel, fun u hu => (b2.ext hu).cell 0, x.sl, fun u hu => (b1.ext hu).cell 1, y.sl, fun u hu => (b2.ext hu).cell 1, ?_⟩
  refine (c111 x.rel y.rel w3).mono fun e w4 ⟨he, hw⟩ => ⟨_, he, by rw [hw]; exact x3, ?_⟩
  subst hw
  have x14 := (x1.trans x2).trans x3
  refine (c112 (hx.ext x14) (hy.ext x14) hl).mono fun e w5 ⟨he, x5⟩ => ⟨_, he, x3.trans x5, ?_⟩
  have hb := buildList_run E34 (enc := eI) (val := Value.int .i64) eI_len (fun _ => rfl) [cmpI x.rel y.rel, cmpL x.args y.args] (by simp) (by simp) w5
  have hs := sli_new (size := 1) (enc := eI) w5 [cmpI x.rel y.rel, cmpL x.args y.args] 3
  have x6 := Ext.alloc w5 (.cells (([cmpI x.rel y.rel, cmpL x.args y.args] : List Int).flatMap eI).toArray 3)
  refine ⟨⟨some ⟨w5.heap.size, 0, none⟩, 2, 2⟩, _, hb, (x3.trans x5).trans x6, ?_⟩
  refine (c110 hs).mono fun e w7 ⟨he, x7⟩ => ⟨_, he, ((x3.trans x5).trans x6).trans x7, ?_, ((x14.trans x5).trans x6).trans x7⟩
  rfl
theorem callable109 : callable Try.prog 109 = true := by kernel_rfl
/-- Facts sorted: what SortFunc does with them. -/
theorem cf109 (w0 : World) (s : Sl) : CfT (fun x => Ints w0 x.sl x.args ∧ x.args.length ≤ big ∧ ∀ a, x.sl.a = some a → ¬ BlS s a.block) w0 s 109 [] ltF where
  ca := callable109
  run := fun w x y hf ⟨hx, hl, hn⟩ ⟨hy, hl', hn'⟩ => by
    have h1 : Ints w x.sl x.args := Sli.fr hx hf hn
    have h2 : Ints w y.sl y.args := Sli.fr hy hf hn'
    exact (c109 h1 h2 hl).mono fun e w' ⟨he, hx⟩ => ⟨_, he, rfl, hx⟩

/-! ### keys -/
/-- A fact as the key of a map. -/
structure Ky where
  rel : Int
  a : Int
  b : Int
deriving DecidableEq
def Ky.l (k : Ky) : List Int := [k.rel, k.a, k.b]
def kK (k : Ky) : Value := ints k.l
def Ky.f (k : Ky) : Fa := ⟨k.rel, if k.b = 0 then [k.a] else [k.a, k.b]⟩
def Fa.k (f : Fa) : Ky := ⟨f.rel, f.args.getD 0 0, f.args.getD 1 0⟩
theorem S121 : IntStr Try.prog 121 3 := ⟨by kernel_rfl, by kernel_rfl, by kernel_rfl, by kernel_rfl, by kernel_rfl⟩
theorem K121 : KeyOk Try.prog 121 kK := KeyOk.str S121 (fun k h => by
  have : Try.prog.underlying 121 = some (.struct (Try.prog.fieldsOf 121)) := S121.st
  rw [this] at h; cases h) Ky.l (fun a b h => by cases a; cases b; simp [Ky.l] at h; simp [h]) (fun _ => rfl)
theorem u105 : Try.prog.underlying 105 = some (.map 121 4) := by kernel_rfl
theorem zero4 : ∀ w, (zeroValue 4).run Try.prog w = .ok (.bool false) w := fun w => by
  have h : (Try.prog.info? 4).map (fun i => i.zero) = some (some (.bool false)) := by kernel_rfl
  cases hi : Try.prog.info? 4 with
  | none => rw [hi] at h; cases h
  | some i =>
    rw [hi] at h
    have hz : i.zero = some (.bool false) := by simpa using h
    simp [zeroValue, typeInfo, hi, hz]
abbrev FM (w : World) (b : Nat) (S : Ky → Prop) : Prop := SetM kK w b S
def eK (k : Ky) : List Value := [.int .i64 k.rel, .int .i64 k.a, .int .i64 k.b]
theorem eK_len (k : Ky) : (eK k).length = 3 := rfl
theorem eK_one (k : Ky) : ∀ v ∈ eK k, v.oneCell' = true := by intro v hv; simp [eK] at hv; rcases hv with rfl | rfl | rfl <;> rfl
theorem zc36 : (zc Try.prog 36).size = 2 := by kernel_rfl
theorem zc121 : (zc Try.prog 121).size = 3 := by kernel_rfl
theorem zc121l : (zc Try.prog 121).toList = eK ⟨0, 0, 0⟩ := by kernel_rfl
/-- A key as a fact. -/
theorem c107 (k : Ky) (w : World) :
    Calls Try.prog 107 [.agg [.int .i64 k.rel, .int .i64 k.a, .int .i64 k.b].toArray].toArray w fun e w' => ∃ x : DF, e = .returned (.agg [.int .i64 x.rel, .slice x.sl.a x.sl.n x.sl.c].toArray) ∧ x.p = k.f ∧ Ints w' x.sl x.args ∧ (∀ a, x.sl.a = some a → w.heap.size ≤ a.block ∧ ∃ cur, Blk w' a.block cur 3) ∧ Ext w w' := by
  refine (call107 k.rel k.a k.b (R := fun v w' => ∃ x : DF, v = (.agg [.int .i64 x.rel, .slice x.sl.a x.sl.n x.sl.c].toArray) ∧ x.p = k.f ∧ Ints w' x.sl x.args ∧ (∀ a, x.sl.a = some a → w.heap.size ≤ a.block ∧ ∃ cur, Blk w' a.block cur 3) ∧ Ext w w') ?_).mono fun e w' ⟨v, he, x, hv, hx⟩ => ⟨x, by rw [he, hv], hx⟩
  refine Let.intro fun w1 e1 => ?_
  have b1 : Blk w1 w.heap.size (eK k) 121 := by rw [e1]; exact Blk.alloc w (eK k) 121
  have x1 : Ext w w1 := by rw [e1]; exact Ext.alloc ..
  refine Let.intro fun w2 e2 => ?_
  have b2 : Blk w2 w1.heap.size (zc Try.prog 36).toList 36 := by rw [e2]; simpa using Blk.alloc w1 (zc Try.prog 36).toList 36
  have x2 : Ext w1 w2 := by rw [e2]; exact Ext.alloc ..
  have b1 := b1.ext x2
  have z1 := x1.size
  have z2 := x2.size
  have l2 := b2.lt
  -- what both ways do
  have hfin : ∀ (args : List Int), args ≠ [] → args.length ≤ 2 → args = (if k.b = 0 then [k.a] else [k.a, k.b]) →
      ∀ w3, w3 = w2.alloc (.cells (args.flatMap eI).toArray 3) → StoreOk w3 w1.heap.size 0 [.int .i64 k.rel, .slice (some ⟨w2.heap.size, 0, none⟩) args.length args.length] 2 ∧
        ∀ w4, w4 = put w3 w1.heap.size 0 [.int .i64 k.rel, .slice (some ⟨w2.heap.size, 0, none⟩) args.length args.length] → rd w4 w1.heap.size 0 [.int .i64 k.rel, .slice (some ⟨w2.heap.size, 0, none⟩) args.length args.length] ∧
          ∃ x : DF, Value.agg [.int .i64 k.rel, .slice (some ⟨w2.heap.size, 0, none⟩) args.length args.length].toArray = (.agg [.int .i64 x.rel, .slice x.sl.a x.sl.n x.sl.c].toArray) ∧ x.p = k.f ∧ Ints w4 x.sl x.args ∧ (∀ a, x.sl.a = some a → w.heap.size ≤ a.block ∧ ∃ cur, Blk w4 a.block cur 3) ∧ Ext w w4 := by
    intro args hne hl he w3 e3
    have hb3 : Blk w3 w2.heap.size (args.flatMap eI) 3 := by rw [e3]; exact Blk.alloc w2 _ 3
    have hs3 : Ints w3 ⟨some ⟨w2.heap.size, 0, none⟩, args.length, args.length⟩ args := by rw [e3]; exact sli_new w2 args 3
    have x3 : Ext w2 w3 := by rw [e3]; exact Ext.alloc ..
    have b2' := b2.ext x3
    refine ⟨b2'.storeOk rfl (by intro v hv; simp at hv; rcases hv with rfl | rfl <;> rfl) (by have := zc36; simp [this]), fun w4 e4 => ?_⟩
    have hf : Fr (fun y => y = w1.heap.size) w3 w4 := by rw [e4]; exact Fr.put ..
    have b4 : Blk w4 w1.heap.size [.int .i64 k.rel, .slice (some ⟨w2.heap.size, 0, none⟩) args.length args.length] 36 := by
      have := b2'.put (o := 0) (vs := [.int .i64 k.rel, .slice (some ⟨w2.heap.size, 0, none⟩) args.length args.length])
      rw [show setR (zc Try.prog 36).toList 0 [.int .i64 k.rel, .slice (some ⟨w2.heap.size, 0, none⟩) args.length args.length] = [.int .i64 k.rel, .slice (some ⟨w2.heap.size, 0, none⟩) args.length args.length] from by simpa using setR_all (vs := [.int .i64 k.rel, .slice (some ⟨w2.heap.size, 0, none⟩) args.length args.length]) (l := (zc Try.prog 36).toList) (pre := []) (by have := zc36; simp [this])] at this
      rw [e4]; exact this
    have hne2 : ¬ (w2.heap.size = w1.heap.size) := by omega
    refine ⟨b4.rd, ⟨k.rel, ⟨some ⟨w2.heap.size, 0, none⟩, args.length, args.length⟩, args⟩, rfl, by simp [DF.p, Ky.f, he], Sli.fr hs3 hf (by intro a ha; cases ha; exact hne2), ?_, ?_⟩
    · intro a ha
      cases ha
      exact ⟨by show w.heap.size ≤ w2.heap.size; omega, _, hb3.fr hf hne2⟩
    · exact ((x1.trans x2).trans x3).newer hf fun y (hy : y = w1.heap.size) => by omega
  refine ⟨k.b, b1.cell 2, cond_intro (fun hc => ?_) (fun hc => ?_)⟩
  · have hc : k.b = 0 := by simpa using hc
    have hb := buildList_run E34 (enc := eI) (val := Value.int .i64) eI_len (fun _ => rfl) [k.a] (by simp) (by simp) w2
    obtain ⟨h1, h2⟩ := hfin [k.a] (by simp) (by simp) (by simp [hc]) _ rfl
    refine ⟨k.rel, b1.cell 0, k.a, b1.cell 1, ⟨some ⟨w2.heap.size, 0, none⟩, 1, 1⟩, _, hb, h1, Let.intro fun w4 e4 => ?_⟩
    obtain ⟨h3, h4⟩ := h2 w4 e4
    exact ⟨_, ⟨some ⟨w2.heap.size, 0, none⟩, 1, 1⟩, h3, h4⟩
  · have hc : k.b ≠ 0 := by simpa using hc
    have hb := buildList_run E34 (enc := eI) (val := Value.int .i64) eI_len (fun _ => rfl) [k.a, k.b] (by simp) (by simp) w2
    obtain ⟨h1, h2⟩ := hfin [k.a, k.b] (by simp) (by simp) (by simp [hc]) _ rfl
    refine ⟨k.rel, b1.cell 0, k.a, b1.cell 1, k.b, b1.cell 2, ⟨some ⟨w2.heap.size, 0, none⟩, 2, 2⟩, _, hb, h1, Let.intro fun w4 e4 => ?_⟩
    obtain ⟨h3, h4⟩ := h2 w4 e4
    exact ⟨_, ⟨some ⟨w2.heap.size, 0, none⟩, 2, 2⟩, h3, h4⟩
end Go.Proofs.Ytoljknamnkkgcaa
