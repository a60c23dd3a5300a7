/-
  The calculus' soundness, third part: operations that change the world; one operation in a frame.
-/
import Derived.Test.YtoljknamnkkgcaaVb2
namespace Go.VC
open Go
variable {P : Program}

theorem callable_run {f : FuncId} (h : callable P f = true) (args : Array Value) (w : World) : (callFunc f args).run P w = .ok (.enter f args) w := by
  unfold callable at h
  cases hf : P.funcs[f]? with
  | none => rw [hf] at h; cases h
  | some fn =>
    rw [hf] at h
    simp only [Bool.and_eq_true, Bool.not_eq_true'] at h
    obtain ⟨h1, h2⟩ := h
    have h3 : fn.body.isNone = false := by cases hb : fn.body <;> simp_all
    simp only [callFunc, Sem.run_bind, run_program, Result.andThen_ok, hf, h1, h3, Bool.false_eq_true, if_false]
    rfl

theorem upon_value {o : Oper} {a : Act} {next : Act → World → Prop} {Q : Exit → Act → World → Prop} {m : Sem Value} {v : Value} {w w' : World}
    (h : m.run P w = .ok v w') (hk : next (a.put o.dst v) w') : o.upon P a next Q ((do pure (Next.value (← m)) : Sem Next).run P w) := by
  rw [Sem.run_bind, h]; exact hk
theorem upon_unit {o : Oper} {a : Act} {next : Act → World → Prop} {Q : Exit → Act → World → Prop} {m : Sem Unit} {w w' : World}
    (h : m.run P w = .ok () w') (hk : next (a.put o.dst undef) w') : o.upon P a next Q ((do m; pure Next.skip : Sem Next).run P w) := by
  rw [Sem.run_bind, h]; exact hk

theorem effV_sound {ρ : Operand → Value} {o : Oper} {a : Act} {next : Act → World → Prop} {Q : Exit → Act → World → Prop} {K : Value → World → Prop} {w : World}
    (h : effV P ρ o.op o.type K w) (hK : ∀ v w', K v w' → next (a.put o.dst v) w') : o.upon P a next Q ((execOp ρ o).run P w) := by
  obtain ⟨dst, op, T, pos, after, guard⟩ := o
  simp only at h hK
  unfold effV at h
  split at h
  · rename_i t x v
    split at h
    · rename_i b o ha
      obtain ⟨hz, h1, h2⟩ := bif_elim' h
      have hz' : P.cellsOf t ≠ 0 := by intro e; rw [e] at hz; simp at hz
      refine upon_unit (m := Instr.storeAt t (ρ x) (ρ v)) ?_ (hK _ _ h2)
      simp [Instr.storeAt, Instr.sureAddr, ha, storeVar_run h1 hz']
    · exact h.elim
  · rename_i t
    obtain ⟨hz, h⟩ := bif_elim h
    obtain ⟨z, hr, hc⟩ := zero_run hz w
    refine upon_value (m := Instr.alloc t true (.tuple #[])) ?_ (hK _ _ h)
    simp [Instr.alloc, hr, newVar, newRow, hc]
  · rename_i t x
    refine upon_value (m := Instr.box t (ρ x)) ?_ (hK _ _ h)
    simp [Instr.box, newVar, newRow, ← cellsV_eq]
  · rename_i t n ps
    obtain ⟨s, w', hr, h⟩ := h
    rw [map_pairs] at hr
    exact upon_value hr (hK _ _ h)
  · rename_i t
    refine upon_value (m := Instr.makeMap t none) ?_ (hK _ _ h)
    simp [Instr.makeMap]
  · rename_i t l c
    obtain ⟨s, w', hr, h⟩ := h
    exact upon_value hr (hK _ _ h)
  · rename_i t m k x
    obtain ⟨w', hr, h⟩ := h
    exact upon_unit hr (hK _ _ h)
  · rename_i t x
    obtain ⟨p, w', hr, h⟩ := h
    exact upon_value hr (hK _ _ h)
  · rename_i it
    obtain ⟨b, kv, w', hr, h⟩ := h
    exact upon_value hr (hK _ _ h)
  · rename_i f xs ts
    split at h
    · rename_i i first cap hf
      unfold callV at h
      obtain ⟨hc, h⟩ := bif_elim h
      have e : (execOp ρ { dst := dst, op := .call { callee := .value f, args := xs, argTypes := ts }, type := T, pos := pos, after := after, guard := guard }).run P w =
          .ok (.enter i (first.toList ++ xs.toList.map ρ ++ cap.toList).toArray) w := by
        have ea : first ++ xs.map ρ ++ cap = (first.toList ++ xs.toList.map ρ ++ cap.toList).toArray := by apply Array.ext'; simp
        simp only [execOp, resolve, hf, Deferred.ofValue, invoke, Sem.run_bind, Sem.run_pure, Result.andThen_ok]
        rw [callable_run hc, ea]
      rw [e, Oper.upon_enter]
      refine Calls.mono h fun e w' he => ?_
      obtain ⟨v, rfl, hv⟩ := exRes_elim he
      exact hK _ _ hv
    · exact h.elim
  · rename_i b xs ts
    split at h
    · rename_i x y hx
      obtain rfl : xs = #[x, y] := by apply Array.ext'; simpa using hx
      obtain ⟨s, w', hr, h⟩ := h
      rw [BigFrame.execOp_builtin, BigFrame.builtin_append]
      exact upon_value (by simpa using hr) (hK _ _ h)
    · rename_i x y hx
      obtain rfl : xs = #[x, y] := by apply Array.ext'; simpa using hx
      obtain ⟨n, w', hr, h⟩ := h
      rw [BigFrame.execOp_builtin, BigFrame.builtin_copy]
      exact upon_value (by simpa using hr) (hK _ _ h)
    · rename_i x y hx
      obtain rfl : xs = #[x, y] := by apply Array.ext'; simpa using hx
      obtain ⟨w', hr, h⟩ := h
      rw [BigFrame.execOp_builtin, BigFrame.builtin_delete]
      exact upon_value (by simpa using hr) (hK _ _ h)
    · rename_i x hx
      obtain rfl : xs = #[x] := by apply Array.ext'; simpa using hx
      obtain ⟨w', hr, h⟩ := h
      rw [BigFrame.execOp_builtin, BigFrame.builtin_clear]
      exact upon_value (by simpa using hr) (hK _ _ h)
    · exact h.elim
  · exact h.elim

/-! ### frames -/
/-- The frame holds what the environment says. -/
structure Agree (nt : Nat) (a : Act) (env : Env) : Prop where
  defers : a.defers = []
  size : a.tmps.size = nt
  slots : ∀ t, known env t = true → a.tmps[t]? = some (look env t)
theorem Agree.eval {nt : Nat} {a : Act} {env : Env} (h : Agree nt a env) {x : Operand} (hx : knownO env x = true) : a.eval x = ev env x := by
  cases x <;> first | rfl | skip
  rename_i t
  have := h.slots t hx
  simp [Act.eval, ev, this]
theorem known_cons (t : Nat) (v : Value) (env : Env) (s : Nat) : known ((t, v) :: env) s = (Nat.beq t s || known env s) := by
  simp only [known]; cases Nat.beq t s <;> rfl
theorem look_cons_same (t : Nat) (v : Value) (env : Env) : look ((t, v) :: env) t = v := by
  simp only [look, Nat.beq_refl, cond_true]
theorem look_cons_other {t s : Nat} (v : Value) (env : Env) (h : t ≠ s) : look ((t, v) :: env) s = look env s := by
  have : Nat.beq t s = false := by cases hb : Nat.beq t s with | false => rfl | true => exact absurd (Nat.eq_of_beq_eq_true hb) h
  simp only [look, this, cond_false]
theorem known_cons_other {t s : Nat} (v : Value) (env : Env) (h : t ≠ s) : known ((t, v) :: env) s = known env s := by
  have : Nat.beq t s = false := by cases hb : Nat.beq t s with | false => rfl | true => exact absurd (Nat.eq_of_beq_eq_true hb) h
  simp only [known, this, cond_false]
theorem Agree.put {nt : Nat} {a : Act} {env : Env} (h : Agree nt a env) {d : Option Nat} (hd : ∀ t, d = some t → t < nt) (v : Value) : Agree nt (a.put d v) (putE env d v) := by
  cases d with
  | none => exact h
  | some t =>
    have ht := hd t rfl
    refine ⟨h.defers, by simp [Act.put, h.size], fun s hs => ?_⟩
    by_cases e : t = s
    · subst e
      have : t < a.tmps.size := by rw [h.size]; exact ht
      simp [Act.put, putE, look_cons_same, this]
    · rw [putE, known_cons_other _ _ e] at hs
      rw [putE, look_cons_other _ _ e]
      simp only [Act.put]
      rw [Array.getElem?_setIfInBounds_ne e]
      exact h.slots s hs
theorem Agree.note {nt : Nat} {a : Act} {env : Env} (h : Agree nt a env) {d : Nat} {v : Value} (hk : known env d = true) (hv : look env d = v) : Agree nt a ((d, v) :: env) := by
  refine ⟨h.defers, h.size, fun s hs => ?_⟩
  by_cases e : d = s
  · subst e; rw [look_cons_same, ← hv]; exact h.slots _ hk
  · rw [known_cons_other _ _ e] at hs; rw [look_cons_other _ _ e]; exact h.slots s hs
theorem known_of_look {env : Env} {d : Nat} (h : look env d ≠ undef) : known env d = true := by
  induction env with
  | nil => exact absurd rfl h
  | cons p r ih =>
    obtain ⟨t, v⟩ := p
    by_cases e : t = d
    · subst e; rw [known_cons]; simp
    · rw [known_cons_other _ _ e]; rw [look_cons_other _ _ e] at h; exact ih h

theorem allKnown_mem {env : Env} : ∀ {l : List Operand}, allKnown env l = true → ∀ x ∈ l, knownO env x = true
  | [], _, x, hx => by cases hx
  | y :: r, h, x, hx => by
    simp only [allKnown] at h
    cases hk : knownO env y with
    | false => rw [hk] at h; cases h
    | true =>
      rw [hk] at h
      rcases List.mem_cons.1 hx with rfl | hx
      · exact hk
      · exact allKnown_mem h x hx

/-- The operations that this calculus serves look at the operands that it names. -/
def served : Op → Bool
  | .move _ | .assign _ | .pick .. | .binOp .. | .unOp .. | .convert .. | .nilCheck _ | .fieldAddr .. | .indexAddr .. | .index .. | .field .. | .build .. | .slice .. | .extract .. | .load .. | .lookup .. | .entry _ => true
  | .store .. | .alloc _ | .box .. | .buildSlice .. | .makeSlice .. | .mapUpdate .. | .range .. | .next .. => true
  | .makeMap _ none => true
  | .makeFunc _ first _ => first.toList.isEmpty
  | .call { callee := .value _, .. } | .call { callee := .builtin _, .. } => true
  | _ => false
theorem opnds_all {op : Op} (hs : served op = true) {x : Operand} (hx : x ∈ op.operands) : x ∈ opnds op := by
  cases op <;> simp only [served, Bool.false_eq_true] at hs <;> simp only [Op.operands] at hx <;> simp only [opnds]
  case makeFunc fn first cap =>
    have : first = #[] := by apply Array.ext'; simpa using hs
    subst this; simpa using hx
  case makeMap t r =>
    cases r with
    | none => simp at hx
    | some r => simp at hs
  case call c =>
    obtain ⟨callee, xs, ts⟩ := c
    cases callee <;> simp_all [Call.operands]
  case slice t y lo hi mx => simpa [or_assoc] using hx
  all_goals first | (simp at hx; done) | simpa using hx
theorem served_noSelect {op : Op} (hs : served op = true) (cs : Array SelectCase) (b : Bool) : op ≠ .select cs b := by rintro rfl; cases hs
theorem execOp_agree {nt : Nat} {a : Act} {env : Env} (h : Agree nt a env) {o : Oper} (hs : served o.op = true) (hk : allKnown env (opnds o.op) = true) : execOp a.eval o = execOp (ev env) o :=
  execOp_congr o (served_noSelect hs) fun x hx => h.eval (allKnown_mem hk x (opnds_all hs hx))

theorem served_pure {ρ : Operand → Value} {op : Op} {K : Value → Prop} (h : pureV P ρ op K) : served op = true := by
  unfold pureV at h
  split at h <;> first | rfl | exact h.elim | skip
  rename_i f first cap
  split at h
  · rename_i hf; simp [served, hf]
  · exact h.elim
theorem served_read {At : (World → Prop) → Prop} {ρ : Operand → Value} {ent : Option (TypeId × TypeId)} {op : Op} {T : TypeId} {K : Value → Prop} (h : readV P At ρ ent op T K) : served op = true := by
  unfold readV at h
  split at h <;> first | rfl | exact served_pure h
theorem served_eff {ρ : Operand → Value} {op : Op} {T : TypeId} {K : Value → World → Prop} {w : World} (h : effV P ρ op T K w) : served op = true := by
  unfold effV at h
  split at h <;> first | rfl | exact h.elim
end Go.VC
