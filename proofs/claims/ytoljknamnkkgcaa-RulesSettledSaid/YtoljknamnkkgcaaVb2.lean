/-
  The calculus' soundness, second part: operations that read memory, and those that change the world.
-/
import Derived.Test.YtoljknamnkkgcaaVb1
namespace Go.VC
open Go
variable {P : Program}

theorem exSKs_elim : ∀ {ss : List SK} {K : List Value → Prop}, exSKs ss K → ∃ vs, vs.length = ss.length ∧ K vs
  | [], _, h => ⟨[], rfl, h⟩
  | s :: r, K, h => by
    obtain ⟨v, h⟩ := exSK_elim (K := fun v => exSKs r fun vs => K (v :: vs)) h
    obtain ⟨vs, hl, h⟩ := exSKs_elim (K := fun vs => K (v :: vs)) h
    exact ⟨v :: vs, by simp [hl], h⟩
theorem exTS_elim {t : TS} {K : Value → Prop} (h : exTS t K) : ∃ v, K v := by
  cases t with
  | bad => exact h.elim
  | one s => exact exSK_elim h
  | flat ss => obtain ⟨vs, _, h⟩ := exSKs_elim (K := fun vs => K (.agg vs.toArray)) h; exact ⟨_, h⟩
  | opq n => obtain ⟨cs, _, h⟩ := h; exact ⟨_, h⟩
theorem exTSs_elim : ∀ {ts : List TS} {K : List Value → Prop}, exTSs ts K → ∃ vs, K vs
  | [], _, h => ⟨[], h⟩
  | t :: r, K, h => by
    obtain ⟨v, h⟩ := exTS_elim (K := fun v => exTSs r fun vs => K (v :: vs)) h
    obtain ⟨vs, h⟩ := exTSs_elim (K := fun vs => K (v :: vs)) h
    exact ⟨_, h⟩
theorem exRes_elim {t : TypeId} {K : Value → Prop} (h : exRes P t K) : ∃ v, K v := by
  unfold exRes at h
  split at h
  · obtain ⟨vs, h⟩ := exTSs_elim h; exact ⟨_, h⟩
  · exact exTS_elim h

theorem flatOr_flat {m : Nat} {t : TypeId} {ss : List SK} (h : flatOr P m t = .flat ss) : ss.length = P.cellsOf t := by
  unfold flatOr at h
  cases h1 : Nat.ble (P.cellsOf t) m <;> rw [h1] at h
  · cases h
  · cases h2 : Nat.beq (cellsSK P 6 t).length (P.cellsOf t) <;> rw [h2] at h
    · cases h
    · cases h; exact Nat.eq_of_beq_eq_true h2
theorem flatOr_opq {m n : Nat} {t : TypeId} (h : flatOr P m t = .opq n) : n = P.cellsOf t := by
  unfold flatOr at h
  cases h1 : Nat.ble (P.cellsOf t) m <;> rw [h1] at h
  · cases h; rfl
  · cases h2 : Nat.beq (cellsSK P 6 t).length (P.cellsOf t) <;> rw [h2] at h <;> cases h
theorem flatOr_one {m : Nat} {t : TypeId} {s : SK} (h : flatOr P m t = .one s) : False := by
  unfold flatOr at h
  cases h1 : Nat.ble (P.cellsOf t) m <;> rw [h1] at h
  · cases h
  · cases h2 : Nat.beq (cellsSK P 6 t).length (P.cellsOf t) <;> rw [h2] at h <;> cases h
theorem tsOf_one {t : TypeId} {s : SK} (h : tsOf P t = .one s) : isAggT P t = some false := by
  unfold tsOf at h
  unfold isAggT
  cases hu : P.underlying t with
  | none => rw [hu] at h; cases h
  | some d => rw [hu] at h; cases d <;> first | rfl | exact (flatOr_one h).elim
theorem tsOf_agg {t : TypeId} (h : (∃ ss, tsOf P t = .flat ss) ∨ ∃ n, tsOf P t = .opq n) : isAggT P t = some true := by
  unfold tsOf at h
  unfold isAggT
  cases hu : P.underlying t with
  | none => rw [hu] at h; rcases h with ⟨_, h⟩ | ⟨_, h⟩ <;> cases h
  | some d => rw [hu] at h; cases d <;> first | rfl | (rcases h with ⟨_, h⟩ | ⟨_, h⟩ <;> cases h)
theorem tsOf_flat {t : TypeId} {ss : List SK} (h : tsOf P t = .flat ss) : ss.length = P.cellsOf t := by
  unfold tsOf at h
  cases hu : P.underlying t with
  | none => rw [hu] at h; cases h
  | some d => rw [hu] at h; cases d <;> first | exact flatOr_flat h | cases h
theorem tsOf_opq {t : TypeId} {n : Nat} (h : tsOf P t = .opq n) : n = P.cellsOf t := by
  unfold tsOf at h
  cases hu : P.underlying t with
  | none => rw [hu] at h; cases h
  | some d => rw [hu] at h; cases d <;> first | exact flatOr_opq h | cases h

theorem rd_load {w : World} {b : Nat} : ∀ (cs : List Value) (o i : Nat) (acc : Array Value), rd w b (o + i) cs →
    (loadCellsFrom ⟨b, o, none⟩ i cs.length acc).run P w = .ok (acc ++ cs.toArray) w
  | [], _, _, acc, _ => by simp [loadCellsFrom]
  | v :: r, o, i, acc, h => by
    obtain ⟨h1, h2⟩ := h
    have := rd_load r o (i + 1) (acc.push v) h2
    simp only [List.length_cons, loadCellsFrom, addr_add_plain, Sem.run_bind, run_load, h1, Result.andThen_ok, this]
    congr 1
    simp
theorem load_agg_run {t : TypeId} {w : World} {b o : Nat} {cs : List Value} (ha : isAggT P t = some true) (hl : cs.length = P.cellsOf t) (h : rd w b o cs) :
    (loadVar t ⟨b, o, none⟩).run P w = .ok (.agg cs.toArray) w := by
  have hu : ∃ d, P.underlying t = some d := by
    unfold isAggT at ha
    cases hu : P.underlying t with
    | none => rw [hu] at ha; cases ha
    | some d => exact ⟨d, rfl⟩
  obtain ⟨d, hu⟩ := hu
  have := rd_load (P := P) cs o 0 #[] h
  simp [loadVar, isAgg_run ha, sizeOf_run' hu, loadCells, ← hl, this]
theorem load_one_run {t : TypeId} {w : World} {b o : Nat} {v : Value} (ha : isAggT P t = some false) (h : w.cell? ⟨b, o, none⟩ = some v) :
    (loadVar t ⟨b, o, none⟩).run P w = .ok v w := by
  simp [loadVar, isAgg_run ha, h]

/-- The two ways of saying that something holds of the world. -/
structure AtOk (At : (World → Prop) → Prop) : Prop where
  mono : ∀ φ ψ : World → Prop, (∀ w, φ w → ψ w) → At φ → At ψ
  top : ∀ φ : World → Prop, (∀ w, φ w) → At φ
theorem atOk_here (w : World) : AtOk (fun φ => φ w) := ⟨fun _ _ h hφ => h _ hφ, fun _ h => h _⟩
theorem atOk_all (S : World → Prop) : AtOk (fun φ => ∀ w, S w → φ w) := ⟨fun _ _ h hφ w hw => h _ (hφ w hw), fun _ h w _ => h w⟩

theorem loadV_sound {At : (World → Prop) → Prop} (hAt : AtOk At) {t : TypeId} {b o : Nat} {K : Value → Prop} (h : loadV P At t b o K) :
    ∃ v, At (fun w => (loadVar t ⟨b, o, none⟩).run P w = .ok v w) ∧ K v := by
  unfold loadV at h
  split at h
  · exact h.elim
  · rename_i s hs
    obtain ⟨v, h1, h2⟩ := exSK_elim h
    exact ⟨v, hAt.mono _ _ (fun w hw => load_one_run (tsOf_one hs) hw) h1, h2⟩
  · rename_i ss hs
    obtain ⟨vs, hl, h1, h2⟩ := exSKs_elim h
    exact ⟨_, hAt.mono _ _ (fun w hw => load_agg_run (tsOf_agg (.inl ⟨_, hs⟩)) (hl.trans (tsOf_flat hs)) hw) h1, h2⟩
  · rename_i n hs
    obtain ⟨cs, hl, h1, h2⟩ := h
    exact ⟨_, hAt.mono _ _ (fun w hw => load_agg_run (tsOf_agg (.inr ⟨_, hs⟩)) (hl.trans (tsOf_opq hs)) hw) h1, h2⟩

theorem readV_sound {At : (World → Prop) → Prop} (hAt : AtOk At) {ρ : Operand → Value} {ent : Option (TypeId × TypeId)} {o : Oper} {K : Value → Prop} (h : readV P At ρ ent o.op o.type K) :
    ∃ v, At (fun w => (execOp ρ o).run P w = .ok (.value v) w) ∧ K v := by
  have pure' : pureV P ρ o.op K → ∃ v, At (fun w => (execOp ρ o).run P w = .ok (.value v) w) ∧ K v := fun h => by
    obtain ⟨v, h1, h2⟩ := pureV_sound h
    exact ⟨v, hAt.top _ h1, h2⟩
  obtain ⟨dst, op, T, pos, after, guard⟩ := o
  simp only at h
  unfold readV at h
  split at h
  · rename_i t a
    split at h
    · rename_i b o ha
      obtain ⟨v, h1, h2⟩ := loadV_sound hAt h
      refine ⟨v, hAt.mono _ _ (fun w hw => ?_) h1, h2⟩
      simp [execOp, Instr.loadAt, Instr.sureAddr, ha, hw]
    · exact h.elim
  · rename_i t m i ok
    split at h
    · rename_i m' hm
      unfold lookupV at h
      split at h
      · split at h
        · obtain ⟨v, h1, h2⟩ := exTS_elim h
          refine ⟨v, hAt.mono _ _ (fun w hw => ?_) h1, h2⟩
          simp [execOp, hm, hw]
        · obtain ⟨v, b, h1, h2⟩ := exTS_elim h
          refine ⟨_, hAt.mono _ _ (fun w hw => ?_) h1, h2⟩
          simp [execOp, hm, hw]
      · exact h.elim
    · exact h.elim
  · rename_i it
    split at h
    · rename_i kt vt
      obtain ⟨k, h⟩ := exTS_elim h
      obtain ⟨v, h1, h2⟩ := exTS_elim h
      refine ⟨_, hAt.mono _ _ (fun w hw => ?_) h1, h2⟩
      simp [execOp, hw]
    · exact h.elim
  · rename_i xs ts
    split at h
    · rename_i x t hx ht
      split at h
      · rename_i m hm
        obtain rfl : xs = #[x] := by apply Array.ext'; simpa using hx
        obtain rfl : ts = #[t] := by apply Array.ext'; simpa using ht
        obtain ⟨n, h1, h2⟩ := h
        refine ⟨_, hAt.mono _ _ (fun w hw => ?_) h1, h2⟩
        rw [BigFrame.execOp_builtin, BigFrame.builtin_len]
        simp [hm, hw]
      · exact pure' h
    · exact h.elim
  · exact pure' h

theorem mayWr_set {w : World} {b : Nat} {a : Addr} {u : Value} : ∀ (n o : Nat), mayWr w b o n → mayWr (w.setCell a u) b o n
  | 0, _, _ => trivial
  | n + 1, o, ⟨⟨v, hv⟩, hf, hr⟩ => by
    refine ⟨?_, by simpa using hf, mayWr_set n (o + 1) hr⟩
    by_cases e : a = ⟨b, o, none⟩
    · subst e; exact ⟨u, World.cell?_setCell_same w _ u hv⟩
    · exact ⟨v, by rw [World.cell?_setCell_other w _ _ _ e]; exact hv⟩
theorem store_run : ∀ (vs : List Value) (w : World) (b o i : Nat), (∀ v ∈ vs, v.oneCell' = true) → mayWr w b (o + i) vs.length →
    (storeCells ⟨b, o, none⟩ vs i).run P w = .ok () (put w b (o + i) vs)
  | [], w, b, o, i, _, _ => by simp [storeCells, put]
  | v :: r, w, b, o, i, h1, ⟨⟨u, hu⟩, hf, hr⟩ => by
    have hs := run_store P w ⟨b, o + i, none⟩ v .plain (h1 v (by simp))
    rw [hu] at hs
    simp only [hf, Bool.false_eq_true, if_false] at hs
    have := store_run r (w.setCell ⟨b, o + i, none⟩ v) b o (i + 1) (fun x hx => h1 x (by simp [hx])) (by rw [← Nat.add_assoc]; exact mayWr_set _ _ hr)
    rw [storeCells, Sem.run_bind, addr_add_plain]
    rw [hs, Result.andThen_ok, this]
    rfl
theorem cellsV_eq (v : Value) : v.cells.toList = cellsV v := by cases v <;> rfl
theorem storeVar_run {t : TypeId} {v : Value} {w : World} {b o : Nat} (h : StoreOk w b o (cellsV v) (P.cellsOf t)) (hz : P.cellsOf t ≠ 0) :
    (storeVar t ⟨b, o, none⟩ v).run P w = .ok () (put w b o (cellsV v)) := by
  obtain ⟨hl, h1, h2⟩ := h
  have hs : v.cells.size = P.cellsOf t := by rw [← hl, ← cellsV_eq]; simp
  have := store_run (P := P) (cellsV v) w b o 0 h1 (by rw [hl]; exact h2)
  simp [storeVar, sizeOf_run hz, hs, cellsV_eq, this]
end Go.VC
