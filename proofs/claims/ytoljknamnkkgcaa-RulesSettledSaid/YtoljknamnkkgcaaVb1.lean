/-
  The calculus' soundness, first part: operations that look at no memory, and those that read it.
-/
import Derived.Test.YtoljknamnkkgcaaVa
namespace Go.VC
open Go
variable {P : Program}

theorem ikEq_eq {a b : IntKind} (h : ikEq a b = true) : a = b := by cases a <;> cases b <;> first | rfl | (simp [ikEq] at h)
theorem bif_elim' {b : Bool} {p : Prop} (h : bif b then False else p) : b = false ∧ p := by cases b <;> simp_all
theorem bif_elim {b : Bool} {p : Prop} (h : bif b then p else False) : b = true ∧ p := by cases b <;> simp_all

/-- An operation's run that yields a value and leaves the world as it is. -/
abbrev Yld (P : Program) (m : Sem Value) (v : Value) : Prop := ∀ w, m.run P w = .ok v w

theorem under_run {t : TypeId} {d : TypeDesc} (h : P.underlying t = some d) (w : World) : (underlying t).run P w = .ok d w := by
  simp [underlying, h]

theorem intV_sound {op : BinOp} {k : IntKind} {a b : Int} {K : Value → Prop} {t : TypeId} (hs : op ≠ .shl) (hr : op ≠ .shr) (h : intV op k a b K) :
    ∃ v, Yld P (binOp op t (.int k a) (.int k b)) v ∧ K v := by
  have e : ∀ (m : Sem Value) (v : Value), (binOp op t (.int k a) (.int k b)) = m → m = Pure.pure v → Yld P (binOp op t (.int k a) (.int k b)) v := fun m v h1 h2 w => by rw [h1, h2]; rfl
  cases op
  case shl => exact absurd rfl hs
  case shr => exact absurd rfl hr
  case quo => exact ⟨_, e (Op.intDiv .quo k a b) _ (by simp [binOp]) (by simp [Op.intDiv, h.1]), h.2⟩
  case rem => exact ⟨_, e (Op.intDiv .rem k a b) _ (by simp [binOp]) (by simp [Op.intDiv, h.1]), h.2⟩
  case and => exact ⟨_, e (Op.intBits .and k a b) _ (by simp [binOp]) rfl, h⟩
  case or => exact ⟨_, e (Op.intBits .or k a b) _ (by simp [binOp]) rfl, h⟩
  case xor => exact ⟨_, e (Op.intBits .xor k a b) _ (by simp [binOp]) rfl, h⟩
  case andNot => exact ⟨_, e (Op.intBits .andNot k a b) _ (by simp [binOp]) rfl, h⟩
  case add => exact ⟨_, e (Op.intArith .add k a b) _ (by simp [binOp]) rfl, h⟩
  case sub => exact ⟨_, e (Op.intArith .sub k a b) _ (by simp [binOp]) rfl, h⟩
  case mul => exact ⟨_, e (Op.intArith .mul k a b) _ (by simp [binOp]) rfl, h⟩
  case eql => exact ⟨_, e (Op.intCmp .eql a b) _ (by simp [binOp]) rfl, h⟩
  case neq => exact ⟨_, e (Op.intCmp .neq a b) _ (by simp [binOp]) rfl, h⟩
  case lss => exact ⟨_, e (Op.intCmp .lss a b) _ (by simp [binOp]) rfl, h⟩
  case leq => exact ⟨_, e (Op.intCmp .leq a b) _ (by simp [binOp]) rfl, h⟩
  case gtr => exact ⟨_, e (Op.intCmp .gtr a b) _ (by simp [binOp]) rfl, h⟩
  case geq => exact ⟨_, e (Op.intCmp .geq a b) _ (by simp [binOp]) rfl, h⟩

theorem eqGuard_plain (op : BinOp) (t : TypeId) (x y : Operand) (a b : Value) (w : World) (h : (match a, b with | .nilIface, .nilIface => false | .agg _, .agg _ => false | _, _ => true) = true) :
    (eqGuard op t x y a b).run P w = .ok () w := by
  unfold eqGuard
  cases op <;> simp <;> cases a <;> cases b <;> simp_all

theorem equalIn_bool {t : TypeId} (hu : P.underlying t = some .bool) (d : Nat) (a b : Bool) (w : World) : (Op.equalIn (d + 1) t (.bool a) (.bool b)).run P w = .ok (a == b) w := by
  simp [Op.equalIn, under_run hu]
theorem equalIn_map {t k e : TypeId} (hu : P.underlying t = some (.map k e)) (d : Nat) (m : Option Nat) (w : World) : (Op.equalIn (d + 1) t (.map m) (.map none)).run P w = .ok m.isNone w := by
  cases m <;> simp [Op.equalIn, under_run hu]
theorem equalIn_slice {t e : TypeId} (hu : P.underlying t = some (.slice e)) (d : Nat) (a : Option Addr) (n c n' c' : Nat) (w : World) :
    (Op.equalIn (d + 1) t (.slice a n c) (.slice none n' c')).run P w = .ok a.isNone w := by
  cases a <;> simp [Op.equalIn, under_run hu]
theorem equal_of {t : TypeId} {x y : Value} {r : Bool} {w : World} (h : ∀ d, (Op.equalIn (d + 1) t x y).run P w = .ok r w) : (Op.equal t x y).run P w = .ok r w := h 9999
theorem eql_of {t : TypeId} {x y : Value} {r : Bool} {w : World} (h : (Op.equal t x y).run P w = .ok r w) : (do pure (Value.bool (← Op.equal t x y)) : Sem Value).run P w = .ok (.bool r) w := by
  rw [Sem.run_bind, h]; rfl
theorem neq_of {t : TypeId} {x y : Value} {r : Bool} {w : World} (h : (Op.equal t x y).run P w = .ok r w) : (do pure (Value.bool (!(← Op.equal t x y))) : Sem Value).run P w = .ok (.bool (!r)) w := by
  rw [Sem.run_bind, h]; rfl

theorem binV_sound {op : BinOp} {t : TypeId} {xo yo : Operand} {x y : Value} {K : Value → Prop} (h : binV P op t x y K) :
    ∃ v, Yld P (do eqGuard op t xo yo x y; binOp op t x y) v ∧ K v := by
  have plain : ∀ {x y : Value} {v : Value}, (match x, y with | .nilIface, .nilIface => false | .agg _, .agg _ => false | _, _ => true) = true →
      Yld P (binOp op t x y) v → Yld P (do eqGuard op t xo yo x y; binOp op t x y) v := fun hp hy w => by
    rw [Sem.run_bind, eqGuard_plain _ _ _ _ _ _ _ hp]; exact hy w
  unfold binV at h
  split at h
  · rename_i k a k' b
    split at h
    · obtain ⟨hb, h⟩ := h
      exact ⟨_, plain rfl (fun w => by simp only [binOp, Op.shift]; rw [if_neg (by omega)]; rfl), h⟩
    · obtain ⟨hb, h⟩ := h
      exact ⟨_, plain rfl (fun w => by simp only [binOp, Op.shift]; rw [if_neg (by omega)]; rfl), h⟩
    · rename_i h1 h2
      obtain ⟨hk, h3⟩ := bif_elim h
      obtain rfl := ikEq_eq hk
      obtain ⟨v, hv, hK⟩ := intV_sound (P := P) (t := t) h1 h2 h3
      exact ⟨v, plain rfl hv, hK⟩
  · rename_i a b
    split at h
    · rename_i hu
      exact ⟨_, plain rfl (fun w => eql_of (equal_of fun d => equalIn_bool hu d a b w)), h⟩
    · rename_i hu
      exact ⟨_, plain rfl (fun w => neq_of (equal_of fun d => equalIn_bool hu d a b w)), h⟩
    · exact h.elim
  · rename_i xs ys
    split at h
    · obtain ⟨r, hr, h⟩ := h
      exact ⟨_, fun w => hr w, h⟩
    · obtain ⟨r, hr, h⟩ := h
      exact ⟨_, fun w => hr w, h⟩
    · exact h.elim
  · rename_i m
    split at h
    · rename_i hu
      exact ⟨_, plain rfl (fun w => eql_of (equal_of fun d => equalIn_map hu d m w)), h⟩
    · rename_i hu
      exact ⟨_, plain rfl (fun w => neq_of (equal_of fun d => equalIn_map hu d m w)), h⟩
    · exact h.elim
  · rename_i a n c n' c'
    split at h
    · rename_i hu
      exact ⟨_, plain rfl (fun w => eql_of (equal_of fun d => equalIn_slice hu d a n c n' c' w)), h⟩
    · rename_i hu
      exact ⟨_, plain rfl (fun w => neq_of (equal_of fun d => equalIn_slice hu d a n c n' c' w)), h⟩
    · exact h.elim
  · exact h.elim

theorem unV_sound {op : UnOp} {x : Value} {K : Value → Prop} (h : unV op x K) : ∃ v, Yld P (Op.unary op x) v ∧ K v := by
  unfold unV at h
  split at h
  · exact ⟨_, fun w => by simp [Op.unary], h⟩
  · exact ⟨_, fun w => by simp [Op.unary, Op.intArith], h⟩
  · exact h.elim

theorem convV_sound {s d : TypeId} {x : Value} {K : Value → Prop} (h : convV P s d x K) : ∃ v, Yld P (convert s d x) v ∧ K v := by
  unfold convV at h
  split at h
  · rename_i hs hd
    exact ⟨_, fun w => by simp [convert, under_run hs, under_run hd, Conv.intToInt], h⟩
  · exact h.elim

theorem size_run {t : TypeId} {i : TypeInfo} (h : P.info? t = some i) (w : World) : (sizeOf t).run P w = .ok i.size w := by
  simp [sizeOf, typeInfo, h]
/-- A type that has an underlying one has a row in the table. -/
theorem info_of_under {t : TypeId} {d : TypeDesc} (h : P.underlying t = some d) : ∃ i, P.info? t = some i := by
  unfold Program.underlying at h
  cases hi : P.info? t with
  | some i => exact ⟨i, rfl⟩
  | none => rw [hi] at h; simp at h
theorem cellsOf_info {t : TypeId} {i : TypeInfo} (h : P.info? t = some i) : P.cellsOf t = i.size := by simp [Program.cellsOf, h]
theorem sizeOf_run {t : TypeId} (h : P.cellsOf t ≠ 0) (w : World) : (sizeOf t).run P w = .ok (P.cellsOf t) w := by
  cases hi : P.info? t with
  | none => simp [Program.cellsOf, hi] at h
  | some i => rw [size_run hi, cellsOf_info hi]
theorem sizeOf_run' {t : TypeId} {d : TypeDesc} (h : P.underlying t = some d) (w : World) : (sizeOf t).run P w = .ok (P.cellsOf t) w := by
  obtain ⟨i, hi⟩ := info_of_under h
  rw [size_run hi, cellsOf_info hi]
theorem isAgg_run {t : TypeId} {b : Bool} (h : isAggT P t = some b) (w : World) : (isAgg t).run P w = .ok b w := by
  unfold isAggT at h
  cases hu : P.underlying t with
  | none => rw [hu] at h; cases h
  | some d =>
    rw [hu] at h
    simp only [isAgg, Sem.run_bind, under_run hu, Result.andThen_ok]
    cases d <;> (cases h; rfl)
theorem addr_add_plain (b o n : Nat) : (⟨b, o, none⟩ : Addr).add n = ⟨b, o + n, none⟩ := by
  unfold Addr.add; split
  · rename_i h; subst h; rfl
  · rfl

theorem fieldAddrV_sound {s : TypeId} {x : Value} {f : Nat} {K : Value → Prop} (h : fieldAddrV P s x f K) : ∃ v, Yld P (Instr.fieldAt s x f) v ∧ K v := by
  unfold fieldAddrV at h
  split at h
  · rename_i fd b o hf
    obtain ⟨hz, h⟩ := bif_elim' h
    unfold fieldOf at hf
    split at hf
    · rename_i fs hu
      have hf' : fs[f]? = some fd := by simpa using hf
      refine ⟨_, fun w => ?_, h⟩
      have hz' : P.cellsOf fd.type ≠ 0 := by intro e; rw [e] at hz; simp at hz
      simp [Instr.fieldAt, under_run hu, hf', Instr.sureAddr, fieldPlace, sizeOf_run hz', hz', addr_add_plain]
    · cases hf
  · exact h.elim

theorem sizeOf_elem {e : TypeId} {w : World} {m : Nat → Sem Value} (hu : (sizeOf e).run P w = .ok (P.cellsOf e) w) : ((sizeOf e) >>= m).run P w = (m (P.cellsOf e)).run P w := by
  rw [Sem.run_bind, hu]; rfl

theorem indexAddrV_sound {t : TypeId} {x i : Value} {K : Value → Prop} (h : indexAddrV P t x i K) : ∃ v, Yld P (Instr.indexAt t x i) v ∧ K v := by
  unfold indexAddrV at h
  split at h
  · rename_i e a n c k i hu
    obtain ⟨hz, h⟩ := bif_elim' h
    obtain ⟨p, rfl, h0, h1, h⟩ := h
    refine ⟨_, fun w => ?_, h⟩
    have hz' : P.cellsOf e ≠ 0 := by intro e; rw [e] at hz; simp at hz
    simp [Instr.indexAt, asIntOf, under_run hu, h0, h1, sizeOf_run hz', addr_add_plain]
  · rename_i n e b o k i hu
    obtain ⟨hz, h⟩ := bif_elim' h
    obtain ⟨h0, h1, h⟩ := h
    refine ⟨_, fun w => ?_, h⟩
    have hz' : P.cellsOf e ≠ 0 := by intro e; rw [e] at hz; simp at hz
    simp [Instr.indexAt, Instr.sureAddr, asIntOf, under_run hu, h0, h1, sizeOf_run hz', addr_add_plain]
  · exact h.elim

theorem exSK_elim {s : SK} {K : Value → Prop} (h : exSK s K) : ∃ v, K v := by
  cases s <;> simp only [exSK] at h
  case func => obtain ⟨f, c, h⟩ := h; exact ⟨_, h⟩
  all_goals (obtain ⟨x, h⟩ := h; exact ⟨_, h⟩)

theorem part_scalar {e : TypeId} {cs : Array Value} {off : Nat} {v : Value} (ha : isAggT P e = some false) (h : cs.toList[off]? = some v) (w : World) : (part e cs off).run P w = .ok v w := by
  have h' : cs[off]? = some v := by simpa using h
  simp [part, isAgg_run ha, h']
theorem part_agg {e : TypeId} {cs : Array Value} {off : Nat} (ha : isAggT P e = some true) (w : World) :
    (part e cs off).run P w = .ok (.agg ((cs.toList.drop off).take (P.cellsOf e)).toArray) w := by
  have hu : ∃ d, P.underlying e = some d := by
    unfold isAggT at ha
    cases hu : P.underlying e with
    | none => rw [hu] at ha; cases ha
    | some d => exact ⟨d, rfl⟩
  obtain ⟨d, hu⟩ := hu
  simp only [part, Sem.run_bind, isAgg_run ha, Result.andThen_ok, if_true, sizeOf_run' hu, Sem.run_pure]
  congr 2
  apply Array.ext'
  simp

theorem indexV_sound {t : TypeId} {x i : Value} {K : Value → Prop} (h : indexV P t x i K) : ∃ v, Yld P (Instr.index t x i) v ∧ K v := by
  unfold indexV at h
  split at h
  · rename_i n e cs k i hu
    split at h
    · rename_i ha
      obtain ⟨hz, h0, h1, h⟩ := bif_elim h
      obtain ⟨v, hv, h⟩ := exSK_elim h
      have hz' : P.cellsOf e = 1 := by simpa using hz
      refine ⟨v, fun w => ?_, h⟩
      have hp := part_scalar (P := P) ha hv w
      simp [Instr.index, asIntOf, under_run hu, h0, h1, sizeOf_run (P := P) (t := e) (by omega), hz', hp]
    · exact h.elim
  · exact h.elim

theorem fieldV_sound {t : TypeId} {x : Value} {f : Nat} {K : Value → Prop} (h : fieldV P t x f K) : ∃ v, Yld P (Instr.field t x f) v ∧ K v := by
  unfold fieldV at h
  split at h
  · rename_i fd cs hf
    unfold fieldOf at hf
    split at hf
    · rename_i fs hu
      have hf' : fs[f]? = some fd := by simpa using hf
      split at h
      · rename_i ha
        exact ⟨_, fun w => by simp [Instr.field, under_run hu, hf', asAgg, part_agg ha], h⟩
      · rename_i ha
        split at h
        · rename_i v hv
          exact ⟨v, fun w => by simp [Instr.field, under_run hu, hf', asAgg, part_scalar ha hv], h⟩
        · exact h.elim
      · exact h.elim
    · cases hf
  · exact h.elim

theorem setR_length : ∀ (xs cs : List Value) (o : Nat), (setR cs o xs).length = cs.length
  | [], _, _ => rfl
  | x :: xs, cs, o => by rw [setR, setR_length xs]; simp
theorem fold_setR (off : Nat) : ∀ (xs : List Value) (j : Nat) (cs : Array Value),
    (xs.zipIdx j).foldl (fun cs (p : Value × Nat) => cs.setIfInBounds (off + p.2) p.1) cs = (setR cs.toList (off + j) xs).toArray
  | [], _, _ => by simp [setR]
  | x :: xs, j, cs => by
    rw [List.zipIdx_cons, List.foldl_cons, fold_setR off xs (j + 1)]
    simp [setR, Nat.add_assoc]
theorem fold_setR' (off : Nat) (xs : Array Value) (cs : Array Value) :
    xs.zipIdx.foldl (fun cs (p : Value × Nat) => cs.setIfInBounds (off + p.2) p.1) cs = (setR cs.toList off xs.toList).toArray := by
  rw [← Array.foldl_toList, Array.toList_zipIdx, fold_setR]
  simp

theorem fillV_sound {place : Nat → Option (Nat × Nat)} :
    ∀ (ps : List (Nat × Value)) (cs : List Value) (K : Value → Prop), fillV place ps cs K → ∃ ds : Array Value, Instr.fill place cs.toArray ps = some ds ∧ K (.agg ds)
  | [], cs, K, h => ⟨_, rfl, h⟩
  | (i, v) :: r, cs, K, h => by
    unfold fillV at h
    split at h
    · exact h.elim
    · rename_i o s hpl
      have step : ∀ (xs : Array Value), v.cells = xs → xs.toList.length = s → o + s ≤ cs.length → fillV place r (setR cs o xs.toList) K →
          ∃ ds : Array Value, Instr.fill place cs.toArray ((i, v) :: r) = some ds ∧ K (.agg ds) := fun xs hv hs hb h => by
        obtain ⟨ds, hd, hK⟩ := fillV_sound r _ K h
        refine ⟨ds, ?_, hK⟩
        have hs' : xs.size = s := by simpa using hs
        rw [Instr.fill, hpl]
        simp only [hv, hs', ne_eq, not_true_eq_false]
        rw [if_neg (by simp; omega), fold_setR']
        exact hd
      have one : (∀ cs : Array Value, v ≠ .agg cs) → (bif (Nat.beq s 1 && Nat.ble (o + 1) cs.length) then fillV place r (cs.set o v) K else False) →
          ∃ ds : Array Value, Instr.fill place cs.toArray ((i, v) :: r) = some ds ∧ K (.agg ds) := fun hna h => by
        obtain ⟨hc, h⟩ := bif_elim h
        simp only [Bool.and_eq_true, Nat.ble_eq] at hc
        have h1 := Nat.eq_of_beq_eq_true hc.1
        refine step #[v] (by cases v <;> first | rfl | exact absurd rfl (hna _)) (by simp; omega) (by omega) ?_
        simpa [setR] using h
      split at h
      · rename_i xs
        obtain ⟨h1, h2, h⟩ := h
        exact step xs rfl h1 h2 h
      · exact h.elim
      · rename_i hna _
        exact one hna h

theorem zero_run {t : TypeId} (h : hasZero P t = true) (w : World) : ∃ z, (zeroValue t).run P w = .ok z w ∧ z.cells = zc P t := by
  unfold hasZero at h
  cases hi : P.info? t with
  | none => rw [hi] at h; simp at h
  | some i =>
    rw [hi] at h
    cases hz : i.zero with
    | none => simp [hz] at h
    | some z => exact ⟨z, by simp [zeroValue, typeInfo, hi, hz], by simp [zc, hi, hz]⟩

theorem buildV_sound {t : TypeId} {ps : List (Nat × Value)} {K : Value → Prop} (h : buildV P t ps K) : ∃ v, Yld P (Instr.build t ps.toArray) v ∧ K v := by
  unfold buildV at h
  split at h
  · rename_i z place hz hp
    obtain ⟨ds, hd, hK⟩ := fillV_sound ps _ K h
    refine ⟨_, fun w => run_build w t ps.toArray ds ?_, hK⟩
    cases hi : P.info? t with
    | none => rw [hi] at hz; cases hz
    | some it =>
      have hz' : it.zero = some z := by rw [hi] at hz; exact hz
      unfold Program.built
      unfold placesOf at hp
      cases hu : P.underlying t with
      | none => rw [hu] at hp; cases hp
      | some d =>
        rw [hu] at hp
        cases d <;> try (cases hp; done)
        case array n e =>
          cases hie : P.info? e with
          | none => simp [hie] at hp
          | some ie =>
            simp only [hie, Option.map_some, Option.some.injEq] at hp
            subst hp
            simp only [hi, hz', hie]
            simpa using hd
        case struct fs =>
          simp only at hp
          cases hm : fs.toList.mapM (fun f => (P.info? f.type).map fun i => (f.offset, i.size)) with
          | none => rw [hm] at hp; cases hp
          | some places =>
            rw [hm] at hp
            simp only [Option.map_some, Option.some.injEq] at hp
            subst hp
            simp only [hi, hz', hm]
            simpa using hd
  · exact h.elim

theorem bnd_some {v : Value} {y d : Nat} {K : Nat → Prop} (h : bndV (some v) y d K) : ∃ k i, v = .int k i ∧ 0 ≤ i ∧ i ≤ (y : Int) ∧ K i.toNat := by
  unfold bndV at h
  split at h
  · rename_i e; cases e
  · rename_i k i e; cases e; exact ⟨_, _, rfl, h⟩
  · exact h.elim
theorem bnd_none {y d : Nat} {K : Nat → Prop} (h : bndV none y d K) : K d := h
theorem bnd_run {k : IntKind} {i : Int} {y : Nat} {code : BoundsCode} (h0 : 0 ≤ i) (h1 : i ≤ (y : Int)) (w : World) : (Instr.sliceBound (.int k i) y code).run P w = .ok i.toNat w := by
  simp [Instr.sliceBound, asIntOf, h0, h1]
theorem add_zero_map (a : Option Addr) : a.map (fun x => x.add 0) = a := by cases a <;> simp [Addr.add]

theorem slice_run {t e : TypeId} (hu : P.underlying t = some (.slice e)) {a : Option Addr} {n c : Nat} {lo hi mx : Option Value} {l h m : Nat} {w : World}
    (hb : (Instr.sliceBounds true n c lo hi mx).run P w = .ok (l, h, m) w) (hz : P.cellsOf e ≠ 0) :
    (Instr.sliceAt t (.slice a n c) lo hi mx).run P w = .ok (.slice (if m = l then a else a.map (·.add (l * P.cellsOf e))) (h - l) (m - l)) w := by
  simp [Instr.sliceAt, Instr.slice, under_run hu, hb, sizeOf_run hz]

theorem sliceV_sound {t : TypeId} {x : Value} {lo hi mx : Option Value} {K : Value → Prop} (h : sliceV P t x lo hi mx K) : ∃ v, Yld P (Instr.sliceAt t x lo hi mx) v ∧ K v := by
  unfold sliceV at h
  split at h
  · rename_i e a n c hu
    obtain ⟨hz, h⟩ := bif_elim' h
    have hz' : P.cellsOf e ≠ 0 := by intro e; rw [e] at hz; simp at hz
    have z : ∀ m h, Value.slice (if m = 0 then a else a.map (·.add (0 * P.cellsOf e))) (h - 0) (m - 0) = .slice a h m := fun m h => by simp [add_zero_map]
    cases mx with
    | none =>
      have h := bnd_none h
      cases hi with
      | none =>
        have h := bnd_none h
        cases lo with
        | none => exact ⟨_, fun w => by rw [slice_run hu (l := 0) (h := n) (m := c) (by simp [Instr.sliceBounds]) hz', z], h⟩
        | some l =>
          obtain ⟨k, i, rfl, h0, h1, h⟩ := bnd_some h
          exact ⟨_, fun w => slice_run hu (by simp [Instr.sliceBounds, bnd_run h0 h1]) hz', h⟩
      | some hv =>
        obtain ⟨k, i, rfl, h0, h1, h⟩ := bnd_some h
        cases lo with
        | none => exact ⟨_, fun w => by rw [slice_run hu (l := 0) (h := i.toNat) (m := c) (by simp [Instr.sliceBounds, bnd_run h0 h1]) hz', z], h⟩
        | some l =>
          obtain ⟨k', i', rfl, h0', h1', h⟩ := bnd_some h
          exact ⟨_, fun w => slice_run hu (by simp [Instr.sliceBounds, bnd_run h0 h1, bnd_run h0' h1']) hz', h⟩
    | some mv =>
      obtain ⟨k2, i2, rfl, h02, h12, h⟩ := bnd_some h
      cases hi with
      | none => exact h.elim
      | some hv =>
        obtain ⟨k, i, rfl, h0, h1, h⟩ := bnd_some h
        cases lo with
        | none => exact ⟨_, fun w => by rw [slice_run hu (l := 0) (h := i.toNat) (m := i2.toNat) (by simp [Instr.sliceBounds, bnd_run h02 h12, bnd_run h0 h1]) hz', z], h⟩
        | some l =>
          obtain ⟨k', i', rfl, h0', h1', h⟩ := bnd_some h
          exact ⟨_, fun w => slice_run hu (by simp [Instr.sliceBounds, bnd_run h02 h12, bnd_run h0 h1, bnd_run h0' h1']) hz', h⟩
  · rename_i n e b o hu
    obtain ⟨hz, h⟩ := bif_elim' h
    have hz' : P.cellsOf e ≠ 0 := by intro e; rw [e] at hz; simp at hz
    split at h
    · refine ⟨_, fun w => ?_, h⟩
      simp [Instr.sliceAt, under_run hu, Instr.sureAddr, Instr.sliceBounds, addr_add_plain, sizeOf_run hz']
    · exact h.elim
  · exact h.elim

theorem lenV_sound {t T : TypeId} {x : Value} {K : Value → Prop} (h : lenV P t x K) : ∃ v, Yld P (Builtin.len_ #[t] T #[x]) v ∧ K v := by
  unfold lenV at h
  split at h
  · rename_i hu; exact ⟨_, fun w => by simp [Builtin.len_, under_run hu, goInt], h⟩
  · rename_i hu; exact ⟨_, fun w => by simp [Builtin.len_, under_run hu, goInt], h⟩
  · rename_i hu; exact ⟨_, fun w => by simp [Builtin.len_, under_run hu, goInt], h⟩
  · exact h.elim

/-- What an operation that yields a value runs to. -/
theorem yld_value {m : Sem Value} {v : Value} (h : Yld P m v) (w : World) : (do pure (Next.value (← m)) : Sem Next).run P w = .ok (.value v) w := by
  rw [Sem.run_bind, h w]; rfl

theorem map_pairs (ps : Array (Nat × Operand)) (ρ : Operand → Value) : (ps.toList.map fun p => (p.1, ρ p.2)).toArray = ps.map fun (i, x) => (i, ρ x) := by
  apply Array.ext'; simp
theorem map_args (xs : Array Operand) (ρ : Operand → Value) : (xs.toList.map ρ).toArray = xs.map ρ := by
  apply Array.ext'; simp

theorem pureV_sound {ρ : Operand → Value} {o : Oper} {K : Value → Prop} (h : pureV P ρ o.op K) : ∃ v, (∀ w, (execOp ρ o).run P w = .ok (.value v) w) ∧ K v := by
  obtain ⟨dst, op, T, pos, after, guard⟩ := o
  have lift : ∀ {m : Sem Value}, (∃ v, Yld P m v ∧ K v) → ∃ v, (∀ w, (do pure (Next.value (← m)) : Sem Next).run P w = .ok (.value v) w) ∧ K v := fun ⟨v, hy, hK⟩ => ⟨v, yld_value hy, hK⟩
  simp only at h
  unfold pureV at h
  split at h
  · exact ⟨_, fun w => rfl, h⟩
  · exact ⟨_, fun w => rfl, h⟩
  · rename_i c a b
    split at h
    · rename_i hc; exact ⟨_, fun w => by simp [execOp, hc, asBool], h⟩
    · rename_i hc; exact ⟨_, fun w => by simp [execOp, hc, asBool], h⟩
    · exact h.elim
  · exact lift (binV_sound h)
  · exact lift (unV_sound h)
  · exact lift (convV_sound h)
  · rename_i x
    split at h
    · rename_i a hx; exact ⟨_, fun w => by simp [execOp, hx], h⟩
    · exact h.elim
  · exact lift (fieldAddrV_sound h)
  · exact lift (indexAddrV_sound h)
  · exact lift (indexV_sound h)
  · exact lift (fieldV_sound h)
  · rename_i t ps
    have := lift (buildV_sound h)
    rw [map_pairs] at this
    exact this
  · rename_i f first cap
    split at h
    · rename_i hf
      have hf' : first = #[] := by apply Array.ext'; simpa using hf
      subst hf'
      exact ⟨_, fun w => by rw [map_args]; simp [execOp, Instr.makeFunc], h⟩
    · exact h.elim
  · exact lift (sliceV_sound h)
  · rename_i x i
    split at h
    · rename_i vs hx
      split at h
      · rename_i v hv
        have hv' : vs[i]? = some v := by simpa using hv
        exact ⟨v, fun w => by simp [execOp, hx, Instr.extract, hv'], h⟩
      · exact h.elim
    · exact h.elim
  · rename_i b xs ts
    split at h
    · rename_i x t hx ht
      obtain rfl : xs = #[x] := by apply Array.ext'; simpa using hx
      obtain rfl : ts = #[t] := by apply Array.ext'; simpa using ht
      obtain ⟨v, hy, hK⟩ := lenV_sound (T := T) h
      exact ⟨v, fun w => by rw [BigFrame.execOp_builtin, BigFrame.builtin_len]; simp only [List.map_toArray, List.map_cons, List.map_nil]; exact yld_value hy w, hK⟩
    · rename_i x y hx
      obtain rfl : xs = #[x, y] := by apply Array.ext'; simpa using hx
      split at h
      · rename_i k a k' b hx hy
        refine ⟨_, fun w => ?_, h⟩
        simp [execOp, resolve, invoke, builtin, Builtin.max_, Builtin.max2, hx, hy]
      · exact h.elim
    · rename_i x y hx
      obtain rfl : xs = #[x, y] := by apply Array.ext'; simpa using hx
      split at h
      · rename_i k a k' b hx hy
        refine ⟨_, fun w => ?_, h⟩
        simp [execOp, resolve, invoke, builtin, Builtin.min_, Builtin.min2, hx, hy]
      · exact h.elim
    · exact h.elim
  · exact h.elim
end Go.VC
