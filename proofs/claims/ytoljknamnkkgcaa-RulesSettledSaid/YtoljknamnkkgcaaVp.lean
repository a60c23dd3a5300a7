/-
  Keys of maps and '==': ints, arrays of ints, structs of ints. For every program.
-/
import Derived.Test.YtoljknamnkkgcaaVo
import Derived.DeepKeys3
namespace Go.VC
open Go
variable {P : Program}

theorem KeyOk.int {kt : TypeId} (h : P.underlying kt = some (.int .i64)) : KeyOk P kt (fun n : Int => Value.int .i64 n) where
  inj := fun a b e => by injection e
  chk := fun em k w => by
    have hall : ∀ n, (Instr.checkKey em (n + 1) kt (Value.int .i64 k)).run P w = .ok () w := fun n => by
      simp only [Instr.checkKey, Sem.run_bind, under_run h, Result.andThen_ok]
      rfl
    exact hall 9999
  bits := fun k => by simp [Instr.sameBits]
  find := by
    intro k es w hes
    have hfind : ∀ (es : List MapEntry) (i : Nat), (∀ e ∈ es, ∃ k' : Int, e.key = .int .i64 k') →
        (Instr.findNow (.int .i64) (.int .i64 k) es i = some none ∧ ∀ e ∈ es, e.key ≠ .int .i64 k) ∨
        ∃ j e, es[j]? = some e ∧ e.key = .int .i64 k ∧ Instr.findNow (.int .i64) (.int .i64 k) es i = some (some (i + j, e.val)) := by
      intro es
      induction es with
      | nil => intro i _; exact .inl ⟨rfl, by simp⟩
      | cons e r ih =>
        intro i hall
        obtain ⟨k', hk'⟩ := hall e (by simp)
        by_cases hkk : k = k'
        · subst hkk
          exact .inr ⟨0, e, rfl, hk', by simp [Instr.findNow, Instr.sameNow, hk']⟩
        · have hb : (k == k') = false := by simpa using hkk
          rcases ih (i + 1) (fun x hx => hall x (by simp [hx])) with ⟨h1, h2⟩ | ⟨j, x, h1, h2, h3⟩
          · refine .inl ⟨by simp only [Instr.findNow, Instr.sameNow, hk', if_true, hb, h1], ?_⟩
            intro x hx
            rcases List.mem_cons.1 hx with rfl | hx
            · rw [hk']; intro e; injection e with _ e; exact hkk e.symm
            · exact h2 x hx
          · refine .inr ⟨j + 1, x, by simpa using h1, h2, ?_⟩
            simp only [Instr.findNow, Instr.sameNow, hk', if_true, hb, h3]
            rw [show i + 1 + j = i + (j + 1) from by omega]
    rcases hfind es 0 hes with ⟨h1, h2⟩ | ⟨j, x, h1, h2, h3⟩
    · exact .inl ⟨by simp [Instr.findKey, under_run h, h1], h2⟩
    · exact .inr ⟨j, x, h1, h2, by simp [Instr.findKey, under_run h, h3]⟩

/-! ### arrays of ints -/
def ints (l : List Int) : Value := .agg (l.map (Value.int .i64)).toArray
structure IntArr (P : Program) (t e n : Nat) : Prop where
  arr : P.underlying t = some (.array n e)
  elem : P.underlying e = some (.int .i64)
  cell : P.cellsOf e = 1
  guard : P.eqGuardType P.depth t = false
theorem IntArr.info {t e n : Nat} (A : IntArr P t e n) : ∃ i, P.info? e = some i := info_of_underlying A.elem
theorem part_int {e : Nat} (he : P.underlying e = some (.int .i64)) {xs : List Int} {i : Nat} (hi : i < xs.length) (w : World) : (part e (xs.map (Value.int .i64)).toArray i).run P w = .ok (.int .i64 xs[i]) w :=
  run_part_plain w (by simp [Program.plainKey, he]) (by simp [hi])
theorem eqItems_ints {t e n : Nat} (A : IntArr P t e n) {xs ys : List Int} (hl : xs.length = ys.length) (d : Nat) (w : World) : ∀ is : List Nat, (∀ i ∈ is, i < xs.length) →
    (Op.eqItems (d + 1) e 1 (xs.map (Value.int .i64)).toArray (ys.map (Value.int .i64)).toArray is).run P w = .ok (is.all fun i => xs[i]? == ys[i]?) w
  | [], _ => rfl
  | i :: is, h => by
    have h1 : i < xs.length := h i (by simp)
    have h2 : i < ys.length := by omega
    simp only [Op.eqItems, Nat.mul_one, Sem.run_bind, part_int A.elem h1, part_int A.elem h2, Result.andThen_ok, run_equalIn_int w d e .i64 .i64 _ _ A.elem]
    rw [List.all_cons, List.getElem?_eq_getElem h1, List.getElem?_eq_getElem h2]
    by_cases e : xs[i] = ys[i]
    · simp [e, eqItems_ints A hl d w is (fun j hj => h j (by simp [hj]))]
    · simp [e]
theorem equalIn_ints {t e n : Nat} (A : IntArr P t e n) {xs ys : List Int} (hx : xs.length = n) (hy : ys.length = n) (d : Nat) (w : World) :
    (Op.equalIn (d + 2) t (ints xs) (ints ys)).run P w = .ok (decide (xs = ys)) w := by
  obtain ⟨i, hi⟩ := A.info
  unfold ints
  rw [show d + 2 = (d + 1) + 1 from rfl, run_equalIn_array w (d + 1) _ _ A.arr hi, A.cell, eqItems_ints A (by omega) d w _ (by simp [hx])]
  congr 1
  by_cases e : xs = ys
  · subst e; simp
  · simp only [e, decide_false]
    rw [Bool.eq_false_iff]
    intro hall
    apply e
    apply List.ext_getElem?
    intro j
    rw [List.all_eq_true] at hall
    by_cases hj : j < n
    · simpa using hall j (by simp [hj])
    · rw [List.getElem?_eq_none (by omega), List.getElem?_eq_none (by omega)]
theorem aggEq_ints {t e n : Nat} (A : IntArr P t e n) {xs ys : List Int} (hx : xs.length = n) (hy : ys.length = n) (w : World) :
    (aggEq .eql t (ints xs) (ints ys)).run P w = .ok (.bool (decide (xs = ys))) w := by
  have h := equalIn_ints A hx hy 9998 w
  unfold ints at h ⊢
  simp only [aggEq, Sem.run_bind, run_eqGuard_agg w .eql t _ _ _ _ A.guard, Result.andThen_ok, run_eql_struct w]
  rw [show (10000 : Nat) = 9998 + 2 from rfl, h]; rfl
theorem forIn_ok {α : Type} {f : α → PUnit → Sem (ForInStep PUnit)} {w : World} : ∀ {l : List α}, (∀ x ∈ l, (f x ()).run P w = .ok (.yield ()) w) → (forIn l PUnit.unit f).run P w = .ok () w
  | [], _ => rfl
  | x :: r, h => by
    rw [List.forIn_cons, Sem.run_bind, h x (by simp)]
    exact forIn_ok (l := r) fun y hy => h y (by simp [hy])
theorem checkKey_ints {t e n : Nat} (A : IntArr P t e n) {xs : List Int} (hx : xs.length = n) (em : Bool) (d : Nat) (w : World) : (Instr.checkKey em (d + 2) t (ints xs)).run P w = .ok () w := by
  obtain ⟨i, hi⟩ := A.info
  have hc : (sizeOf e).run P w = .ok 1 w := by rw [run_sizeOf w hi, A.cell]
  unfold ints
  simp only [Instr.checkKey, Sem.run_bind, under_run A.arr, Result.andThen_ok]
  simp only [Std.Legacy.Range.forIn_eq_forIn_range', Std.Legacy.Range.size, Nat.sub_zero, Nat.add_one_sub_one, Nat.div_one]
  rw [forIn_ok (P := P) (w := w)]
  · rfl
  · intro j hj
    have hj : j < xs.length := by simp [List.mem_range'] at hj; omega
    have hp := part_int A.elem hj w
    simp [hc, hp, under_run A.elem]
theorem findAsking_of {κ : Type} [DecidableEq κ] {kt : Nat} {ke : κ → Value} (inj : ∀ a b, ke a = ke b → a = b) (heq : ∀ a b w, (Op.equal kt (ke a) (ke b)).run P w = .ok (decide (a = b)) w) (k : κ) (w : World) :
    ∀ (es : List MapEntry) (i : Nat), (∀ e ∈ es, ∃ k', e.key = ke k') → (Instr.findAsking kt (ke k) es i).run P w = .ok none w ∧ (∀ e ∈ es, e.key ≠ ke k) ∨
      ∃ j e, es[j]? = some e ∧ e.key = ke k ∧ (Instr.findAsking kt (ke k) es i).run P w = .ok (some (i + j, e.val)) w
  | [], i, _ => .inl ⟨rfl, by simp⟩
  | e :: r, i, hall => by
    obtain ⟨k', hk'⟩ := hall e (by simp)
    by_cases hkk : k = k'
    · subst hkk
      exact .inr ⟨0, e, rfl, hk', by simp [Instr.findAsking, hk', heq]⟩
    · rcases findAsking_of inj heq k w r (i + 1) (fun x hx => hall x (by simp [hx])) with ⟨h1, h2⟩ | ⟨j, x, h1, h2, h3⟩
      · refine .inl ⟨by simp [Instr.findAsking, hk', heq, hkk, h1], ?_⟩
        intro x hx
        rcases List.mem_cons.1 hx with rfl | hx
        · rw [hk']; exact fun e => hkk (inj _ _ e).symm
        · exact h2 x hx
      · refine .inr ⟨j + 1, x, by simpa using h1, h2, ?_⟩
        simp [Instr.findAsking, hk', heq, hkk, h3]; omega
/-- The keys are arrays of ints. -/
theorem KeyOk.arr {κ : Type} [DecidableEq κ] {t e n : Nat} (A : IntArr P t e n) (f : κ → List Int) (hf : ∀ a b, f a = f b → a = b) (hl : ∀ a, (f a).length = n) : KeyOk P t (fun k => ints (f k)) where
  inj := fun a b h => hf a b (by
    have h : (f a).map (Value.int .i64) = (f b).map (Value.int .i64) := by simpa [ints] using h
    exact List.map_inj_right (fun x y e => by injection e) |>.1 h)
  chk := fun em k w => checkKey_ints A (hl k) em 9998 w
  bits := fun k => by
    show Instr.sameBits (9999 + 1) _ _ = true
    simp only [ints, Instr.sameBits, beq_self_eq_true, Bool.true_and, List.all_eq_true]
    intro p hp
    obtain ⟨i, hi, e⟩ := List.getElem_of_mem hp
    rw [List.getElem_zip] at e
    rw [← e]
    simp [Instr.sameBits]
  find := by
    intro k es w hes
    have hfe : (Instr.findKey t (ints (f k)) es).run P w = (Instr.findAsking t (ints (f k)) es).run P w := run_findKey_eq w (by simp [A.arr]) _ _
    have inj : ∀ a b, ints (f a) = ints (f b) → a = b := fun a b h => hf a b (by
      have h : (f a).map (Value.int .i64) = (f b).map (Value.int .i64) := by simpa [ints] using h
      exact List.map_inj_right (fun x y e => by injection e) |>.1 h)
    have heq : ∀ a b w, (Op.equal t (ints (f a)) (ints (f b))).run P w = .ok (decide (a = b)) w := fun a b w => by
      show (Op.equalIn (9998 + 2) t _ _).run P w = _
      rw [equalIn_ints A (hl a) (hl b) 9998 w]
      by_cases h : a = b
      · subst h; simp
      · have : ¬ f a = f b := fun e => h (hf _ _ e)
        simp [h, this]
    rcases findAsking_of (P := P) (kt := t) (ke := fun k => ints (f k)) inj heq k w es 0 hes with ⟨h1, h2⟩ | ⟨j, x, h1, h2, h3⟩
    · exact .inl ⟨by rw [hfe]; exact h1, h2⟩
    · exact .inr ⟨j, x, h1, h2, by rw [hfe]; simpa using h3⟩
end Go.VC
namespace Go.VC
open Go
variable {P : Program}
/-! ### structs of ints -/
structure IntStr (P : Program) (t n : Nat) : Prop where
  st : P.underlying t = some (.struct (P.fieldsOf t))
  held : P.stoodInHeld t = false
  guard : P.eqGuardType P.depth t = false
  flds : ((P.fieldsOf t).toList.all fun f => f.name != "_" && (match P.underlying f.type with | some (.int .i64) => true | _ => false)) = true
  offs : (P.fieldsOf t).toList.map (·.offset) = List.range n
theorem eqFields_ints {xs ys : List Int} (hl : xs.length = ys.length) (d : Nat) (w : World) : ∀ fs : List Field, (fs.all fun f => f.name != "_" && (match P.underlying f.type with | some (.int .i64) => true | _ => false)) = true → (∀ f ∈ fs, f.offset < xs.length) →
    (Op.eqFields (d + 1) (xs.map (Value.int .i64)).toArray (ys.map (Value.int .i64)).toArray fs).run P w = .ok (fs.all fun f => xs[f.offset]? == ys[f.offset]?) w
  | [], _, _ => rfl
  | f :: r, hf, h => by
    simp only [List.all_cons, Bool.and_eq_true] at hf
    obtain ⟨⟨hn, hu⟩, hr⟩ := hf
    have he : P.underlying f.type = some (.int .i64) := by split at hu <;> simp_all
    have h1 : f.offset < xs.length := h f (by simp)
    have h2 : f.offset < ys.length := by omega
    have hn : f.name ≠ "_" := by simpa using hn
    simp only [Op.eqFields, hn, ne_eq, not_false_eq_true, if_true, Sem.run_bind, part_int he h1, part_int he h2, Result.andThen_ok, run_equalIn_int w d f.type .i64 .i64 _ _ he]
    rw [List.all_cons, List.getElem?_eq_getElem h1, List.getElem?_eq_getElem h2]
    by_cases e : xs[f.offset] = ys[f.offset]
    · simp [e, eqFields_ints hl d w r hr (fun j hj => h j (by simp [hj]))]
    · simp [e]
theorem equalIn_str {t n : Nat} (A : IntStr P t n) {xs ys : List Int} (hx : xs.length = n) (hy : ys.length = n) (d : Nat) (w : World) :
    (Op.equalIn (d + 2) t (ints xs) (ints ys)).run P w = .ok (decide (xs = ys)) w := by
  unfold ints
  have hoff : ∀ f ∈ (P.fieldsOf t).toList, f.offset < xs.length := fun f hf => by
    have : f.offset ∈ List.range n := by rw [← A.offs]; exact List.mem_map.2 ⟨f, hf, rfl⟩
    simp at this; omega
  rw [show d + 2 = (d + 1) + 1 from rfl, run_equalIn_agg w (d + 1) t _ _ A.st A.held, eqFields_ints (by omega) d w _ A.flds hoff]
  congr 1
  by_cases e : xs = ys
  · subst e; simp
  · simp only [e, decide_false]
    rw [Bool.eq_false_iff]
    intro hall
    apply e
    apply List.ext_getElem?
    intro j
    rw [List.all_eq_true] at hall
    by_cases hj : j < n
    · have : j ∈ (P.fieldsOf t).toList.map (·.offset) := by rw [A.offs]; simp [hj]
      obtain ⟨f, hf, rfl⟩ := List.mem_map.1 this
      simpa using hall f hf
    · rw [List.getElem?_eq_none (by omega), List.getElem?_eq_none (by omega)]
theorem aggEq_str {t n : Nat} (A : IntStr P t n) {xs ys : List Int} (hx : xs.length = n) (hy : ys.length = n) (w : World) :
    (aggEq .eql t (ints xs) (ints ys)).run P w = .ok (.bool (decide (xs = ys))) w := by
  have h := equalIn_str A hx hy 9998 w
  unfold ints at h ⊢
  simp only [aggEq, Sem.run_bind, run_eqGuard_agg w .eql t _ _ _ _ A.guard, Result.andThen_ok, run_eql_struct w]
  rw [show (10000 : Nat) = 9998 + 2 from rfl, h]; rfl
end Go.VC
