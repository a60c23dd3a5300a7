/-
  Contracts: taking a lock and releasing all locks of a transaction.
-/
import Derived.Test.YtnbkihkdfhjlmaaEc
namespace Go.Proofs.Ytnbkihkdfhjlmaa
open Go Go.VC
set_option maxHeartbeats 1000000
set_option maxRecDepth 100000

theorem doL_sh0 {st : LS} {o : Ev} (hk : o.k = 0) : (doL st o).sh = getL st.sh o.t o.i ∧ (doL st o).ex = st.ex := by
  unfold doL; simp [hk]
theorem doL_sh1 {st : LS} {o : Ev} (hk : o.k = 1) : (doL st o).sh = st.sh ∧ (doL st o).ex = getL st.ex o.t o.i := by
  unfold doL; simp [hk]
theorem doL_sh2 {st : LS} {o : Ev} (hk : 1 < o.k) : (doL st o).sh = relL st.sh o.t ∧ (doL st o).ex = relL st.ex o.t := by
  unfold doL; simp only [if_neg (show ¬ o.k = 0 by omega), if_neg (show ¬ o.k = 1 by omega), and_self]
/-- A map that is in use changes. -/
theorem Lk.map {B : Nat} {w w' : World} {b : Nat} {st st' : LS} {f : Nat → Value} {ms : Nat → Option Nat} (k : Lk B w b st f ms) {n m : Nat} (hn : n < 6) (hm : ms n = some m) (fr : Fr (fun y => y = m) w w') {l : List (Ent Int Bool)} {c : Nat} (hmp : Mp kI kB w' m l c)
    (h1 : ∀ x, mget l x = if st'.sh x n = true then some true else none) (h2 : ∀ x, ∀ i : Nat, i < 6 → i ≠ n → st'.sh x i = st.sh x i) (h3 : ∀ x, ∀ i : Nat, i < 6 → st'.ex x i = st.ex x i) : Lk B w' b st' f ms := by
  refine ⟨k.fb.fr fr fun e => k.ne hn hm e.symm, k.base, k.fm, fun i hi he x => ?_, fun i hi m' he => ?_, k.inj, fun i hi => ?_⟩
  · have hne : i ≠ n := fun e => by subst e; rw [hm] at he; cases he
    rw [h2 x i hi hne]; exact k.nil i hi he x
  · by_cases e : i = n
    · subst e
      rw [hm] at he
      cases he
      exact ⟨(k.mp i hi m hm).1, l, c, hmp, h1⟩
    · obtain ⟨a, l', c', h4, h5⟩ := k.mp i hi m' he
      refine ⟨a, l', c', h4.fr fr fun e' => e ?_, fun x => by rw [h2 x i hi e]; exact h5 x⟩
      subst e'
      exact k.inj i n hi hn _ he hm
  · obtain ⟨e, h4, h5⟩ := k.fe i hi
    exact ⟨e, h4, fun x => by rw [h3 x i hi]; exact h5 x⟩
/-- An exclusive lock changes. -/
theorem Lk.own {B : Nat} {w : World} {b : Nat} {st st' : LS} {f : Nat → Value} {ms : Nat → Option Nat} (k : Lk B w b st f ms) {n : Nat} (hn : n < 6) (e : Int)
    (h1 : ∀ x, ∀ i : Nat, i < 6 → st'.sh x i = st.sh x i) (h2 : ∀ x, ∀ i : Nat, i < 6 → i ≠ n → st'.ex x i = st.ex x i) (h3 : ∀ x, st'.ex x n = (decide (x = e) && decide (e ≠ 0))) :
    StoreOk w b (6 + n) [.int .i64 e] 1 ∧ Lk B (put w b (6 + n) [.int .i64 e]) b st' (updF f (6 + n) [.int .i64 e]) ms ∧ (∀ j, 12 ≤ j → updF f (6 + n) [.int .i64 e] j = f j) ∧ Fr (fun y => y = b) w (put w b (6 + n) [.int .i64 e]) := by
  have hfr : Fr (fun y => y = b) w (put w b (6 + n) [.int .i64 e]) := Fr.put ..
  refine ⟨k.fb.storeOk rfl (eI_one e) (by omega), ⟨k.fb.put (by simp; omega), k.base, fun i hi => ?_, fun i hi he x => ?_, fun i hi m he => ?_, k.inj, fun i hi => ?_⟩, fun j hj => updF_out (.inr (by simp; omega)), hfr⟩
  · rw [updF_out (.inl (by omega))]; exact k.fm i hi
  · rw [h1 x i hi]; exact k.nil i hi he x
  · obtain ⟨a, l', c', h4, h5⟩ := k.mp i hi m he
    exact ⟨a, l', c', h4.fr hfr fun e' => k.ne hi he e', fun x => by rw [h1 x i hi]; exact h5 x⟩
  · by_cases e' : i = n
    · subst e'
      exact ⟨e, updF_in (Nat.le_refl _) (by simp), h3⟩
    · obtain ⟨e2, h4, h5⟩ := k.fe i hi
      exact ⟨e2, by rw [updF_out (by simp; omega)]; exact h4, fun x => by rw [h2 x i hi e']; exact h5 x⟩
/-- A map is made for an item. -/
theorem Lk.made {B : Nat} {w : World} {b : Nat} {st : LS} {f : Nat → Value} {ms : Nat → Option Nat} (k : Lk B w b st f ms) {n : Nat} (hn : n < 6) (hm : ms n = none) (hB : B ≤ w.heap.size) :
    let w1 := w.alloc (.map #[] 0)
    StoreOk w1 b n [.map (some w.heap.size)] 1 ∧ Lk B (put w1 b n [.map (some w.heap.size)]) b st (updF f n [.map (some w.heap.size)]) (fun i => if i = n then some w.heap.size else ms i) ∧ (∀ j, 12 ≤ j → updF f n [.map (some w.heap.size)] j = f j) ∧ Fr (fun y => y = b) w (put w1 b n [.map (some w.heap.size)]) := by
  intro w1
  have hx1 : Ext w w1 := Ext.alloc ..
  have k1 := k.ext hx1
  have hmade : Mp kI kB w1 w.heap.size ([] : List (Ent Int Bool)) 0 := Mp.made w
  have hfr : Fr (fun y => y = b) w1 (put w1 b n [.map (some w.heap.size)]) := Fr.put ..
  have hold : ∀ i m, i < 6 → ms i = some m → m < w.heap.size := fun i m hi he => (k.bound (.inr ⟨i, hi, he⟩)).2
  refine ⟨k1.fb.storeOk rfl (by simp [Value.oneCell']) (by omega), ⟨k1.fb.put (by simp; omega), k.base, fun i hi => ?_, fun i hi he x => ?_, fun i hi m he => ?_, fun i j hi hj m h1 h2 => ?_, fun i hi => ?_⟩, fun j hj => updF_out (.inr (by simp; omega)), Ext.fr hx1 hfr⟩
  · by_cases e : i = n
    · subst e; rw [if_pos rfl]; exact updF_in (Nat.le_refl _) (by simp)
    · rw [if_neg e, updF_out (by simp; omega)]; exact k.fm i hi
  · by_cases e : i = n
    · rw [if_pos e] at he; cases he
    · rw [if_neg e] at he; exact k.nil i hi he x
  · by_cases e : i = n
    · subst e
      rw [if_pos rfl] at he
      cases he
      exact ⟨hB, [], 0, hmade.fr hfr fun e => by have := k.fb.lt; omega, fun x => by rw [k.nil i hi hm x]; rfl⟩
    · rw [if_neg e] at he
      obtain ⟨a, l', c', h4, h5⟩ := k1.mp i hi m he
      exact ⟨a, l', c', h4.fr hfr fun e' => k1.ne hi he e', h5⟩
  · by_cases e : i = n <;> by_cases e' : j = n
    · rw [e, e']
    · rw [if_pos e] at h1; rw [if_neg e'] at h2; cases h1; have := hold j _ hj h2; omega
    · rw [if_neg e] at h1; rw [if_pos e'] at h2; cases h2; have := hold i _ hi h1; omega
    · rw [if_neg e] at h1; rw [if_neg e'] at h2; exact k.inj i j hi hj m h1 h2
  · obtain ⟨e2, h4, h5⟩ := k.fe i hi
    exact ⟨e2, by rw [updF_out (by simp; omega)]; exact h4, h5⟩

theorem c93 {B : Nat} {w : World} {b : Nat} {st : LS} {f : Nat → Value} {ms : Nat → Option Nat} (k : Lk B w b st f ms) (hB : B ≤ w.heap.size) {h : List Ev} (g : Gd h st) {o : Ev} (ho : okOp o) (hk : o.k ≤ 1) (hh : hit st o = false) :
    Calls Try.prog 93 [.pointer (some ⟨b, 0, none⟩), .agg [.int .i64 o.t, .int .i64 o.k, .int .i64 o.i].toArray].toArray w fun e w' =>
      e = .returned (.tuple [].toArray) ∧ ∃ f' ms', Lk B w' b (doL st o) f' ms' ∧ (∀ j, 12 ≤ j → f' j = f j) ∧ (∀ i m, i < 6 → ms' i = some m → ms i = some m ∨ w.heap.size ≤ m) ∧ Fr (LkB b ms) w w' := by
  refine (call93 ⟨b, 0⟩ o.t o.k o.i (R := fun v w' => v = .tuple [].toArray ∧ ∃ f' ms', Lk B w' b (doL st o) f' ms' ∧ (∀ j, 12 ≤ j → f' j = f j) ∧ (∀ i m, i < 6 → ms' i = some m → ms i = some m ∨ w.heap.size ≤ m) ∧ Fr (LkB b ms) w w') ?_).mono fun e w' ⟨v, he, hv, hx⟩ => ⟨by rw [he, hv], hx⟩
  obtain ⟨n, hni, hn6⟩ := item_nat ho
  obtain ⟨hb1, hx1⟩ := newEv w o 38
  refine Let.intro fun w1 e1 => ?_
  have hb1 : Blk w1 w.heap.size (eO o) 38 := by rw [e1]; exact hb1
  have hx1 : Ext w w1 := by rw [e1]; exact hx1
  have hok := ho
  unfold okOp at hok
  refine ⟨o.k, hb1.cell 1, cond_intro (fun hc => ?_) (fun hc => ?_)⟩
  · have hk1 : o.k = 1 := by simpa using hc
    refine Let.intro fun w2 e2 => ?_
    have hx12 : Ext w1 w2 := by rw [e2]; exact Ext.drew _
    have hb2 := hb1.ext hx12
    have hx2 := hx1.trans hx12
    have hex : ∀ x, st.ex x n = true → x = o.t := fun x hx => by
      by_cases e : x = o.t
      · exact e
      · have : hind st o x = true := by unfold hind; rw [hni, hx]; simp [e]; omega
        rw [hit_mem g this] at hh; cases hh
    obtain ⟨a1, a2, a3, a4⟩ := (k.ext hx2).own (st' := doL st o) hn6 o.t (fun x i _ => by rw [(doL_sh1 hk1).1]) (fun x i _ hne => by rw [(doL_sh1 hk1).2]; unfold getL; rw [hni, show decide ((i : Int) = (n : Int)) = false from decide_eq_false fun h => hne (by omega)]; simp) (fun x => by
      rw [(doL_sh1 hk1).2]; unfold getL; rw [hni]
      have ht0 : o.t ≠ 0 := by omega
      by_cases e : x = o.t
      · simp [e, ht0]
      · have : st.ex x n = false := Bool.eq_false_iff.2 fun h => e (hex x h)
        simp [this, e])
    have hidx : 0 + 6 + Int.toNat o.i * 1 = 6 + n := by rw [hni]; simp
    refine ⟨o.i, hb2.cell 2, o.t, hb2.cell 0, by omega, by omega, ?_, Let.intro fun w3 e3 => ⟨rfl, _, ms, ?_, a3, fun i m _ h => .inl h, ?_⟩⟩
    · show StoreOk w2 b (0 + 6 + Int.toNat o.i * 1) _ 1
      rw [hidx]; exact a1
    · have : w3 = put w2 b (0 + 6 + Int.toNat o.i * 1) [.int .i64 o.t] := e3
      rw [hidx] at this
      rw [this]; exact a2
    · have : w3 = put w2 b (0 + 6 + Int.toNat o.i * 1) [.int .i64 o.t] := e3
      rw [hidx] at this
      rw [this]; exact Ext.fr hx2 (a4.mono fun y _ hy => .inl hy)
  · have hk0 : o.k = 0 := by have : ¬ o.k = 1 := by simpa using hc
                             omega
    refine Let.intro fun w4 e4 => ?_
    have hx14 : Ext w1 w4 := by rw [e4]; exact Ext.drew _
    have hb4 := hb1.ext hx14
    have hx4 := hx1.trans hx14
    have k4 := k.ext hx4
    have z4 := hx4.size
    have hidx : 0 + 0 + Int.toNat o.i * 1 = n := by rw [hni]; simp
    have hcell : ∀ {w' : World} {f' : Nat → Value} {ms' : Nat → Option Nat}, Lk B w' b st f' ms' → World.cell? w' ⟨b, 0 + 0 + Int.toNat o.i * 1, none⟩ = some (.map (ms' n)) := fun k' => by
      rw [hidx]; exact k'.fb.cell (by omega) (k'.fm n hn6)
    refine ⟨o.i, hb4.cell 2, by omega, by omega, ms n, hcell k4, ?_⟩
    refine ⟨fun w5 => ∃ f' ms' m, Lk B w5 b st f' ms' ∧ ms' n = some m ∧ (∀ j, 12 ≤ j → f' j = f j) ∧ (∀ i m, i < 6 → ms' i = some m → ms i = some m ∨ w.heap.size ≤ m) ∧ Fr (LkB b ms) w w5 ∧ Blk w5 w.heap.size (eO o) 38, ?_, ?_⟩
    · rintro w5 ⟨f', ms', m, k5, hm, hf', hms', hfr, hb5⟩
      refine Let.intro fun w6 e6 => ?_
      have hx6 : Ext w5 w6 := by rw [e6]; exact Ext.drew _
      have hb6 := hb5.ext hx6
      have k6 := k5.ext hx6
      obtain ⟨_, l, c, hmp, hml⟩ := k6.mp n hn6 m hm
      obtain ⟨w7, c', hrun, hmp7, hf7⟩ := put_run K3 u84 hmp o.t true
      have hc6 := hcell k6
      rw [hm] at hc6
      refine ⟨o.i, hb6.cell 2, by omega, by omega, some m, hc6, o.t, hb6.cell 0, w7, hrun, rfl, f', ms', ?_, hf', hms', ?_⟩
      · refine k6.map hn6 hm hf7 hmp7 (fun x => ?_) (fun x i _ hne => ?_) (fun x i _ => by rw [(doL_sh0 hk0).2])
        · rw [mget_mput, (doL_sh0 hk0).1]
          unfold getL
          rw [hni]
          by_cases e : x = o.t
          · simp [e]
          · rw [if_neg e, hml]; simp [e]
        · rw [(doL_sh0 hk0).1]; unfold getL; rw [hni, show decide ((i : Int) = (n : Int)) = false from decide_eq_false fun h => hne (by omega)]; simp
      · refine (hfr.ext hx6).trans hf7 fun y hy hym => ?_
        rcases hms' n m hn6 hm with h1 | h1
        · exact .inr ⟨n, hn6, by rw [hym]; exact h1⟩
        · omega
    · refine cond_intro (fun hc => ?_) (fun hc => ?_)
      · have hmn : ms n = none := by simpa using hc
        refine ⟨fun u => Ext w4 u, Ext.drew _, Let.intro fun w8 e8 => ⟨o.i, fun u hu => (hb4.ext hu).cell 2, Let.intro fun w9 e9 => ?_⟩⟩
        have hx8 : Ext w4 w8 := by rw [e8]; exact Ext.drew _
        have z8 := hx8.size
        obtain ⟨a1, a2, a3, a4⟩ := (k4.ext hx8).made hn6 hmn (by omega)
        refine ⟨by rw [e9]; exact hx8.trans (Ext.alloc ..), by omega, by omega, ?_, Let.intro fun w10 e10 => ⟨updF f n [.map (some w8.heap.size)], fun i => if i = n then some w8.heap.size else ms i, w8.heap.size, ?_, if_pos rfl, a3, fun i m hi h => ?_, ?_, ?_⟩⟩
        · show StoreOk w9 b (0 + 0 + Int.toNat o.i * 1) _ 1
          rw [hidx, e9]; exact a1
        · have : w10 = put w9 b (0 + 0 + Int.toNat o.i * 1) [.map (some w8.heap.size)] := e10
          rw [hidx, e9] at this
          rw [this]; exact a2
        · simp only at h
          by_cases e : i = n
          · rw [if_pos e] at h; cases h; exact .inr (by omega)
          · rw [if_neg e] at h; exact .inl h
        · have : w10 = put w9 b (0 + 0 + Int.toNat o.i * 1) [.map (some w8.heap.size)] := e10
          rw [hidx, e9] at this
          rw [this]; exact Ext.fr (hx4.trans hx8) (a4.mono fun y _ hy => .inl hy)
        · have : w10 = put w9 b (0 + 0 + Int.toNat o.i * 1) [.map (some w8.heap.size)] := e10
          rw [hidx, e9] at this
          rw [this]; exact (hb4.ext hx8).fr a4 fun e => by have := k.fb.lt; omega
      · obtain ⟨m, hm⟩ : ∃ m, ms n = some m := by
          cases hmn : ms n with
          | none => rw [hmn] at hc; simp at hc
          | some m => exact ⟨m, rfl⟩
        exact ⟨f, ms, m, k4, hm, fun _ _ => rfl, fun i m _ h => .inl h, hx4.mono fun _ _ h => h.elim, hb4⟩

/-! ### releasing -/
def relTo (st : LS) (t : Int) (a c : Nat) : LS := { st with sh := fun x j => if j < a then decide (x ≠ t) && st.sh x j else st.sh x j, ex := fun x j => if j < c then decide (x ≠ t) && st.ex x j else st.ex x j }
theorem c78 {B : Nat} {w : World} {b : Nat} {st : LS} {f : Nat → Value} {ms : Nat → Option Nat} (k : Lk B w b st f ms) {t : Int} (ht : 1 ≤ t) {st' : LS} (hsh : st'.sh = relL st.sh t) (hex : st'.ex = relL st.ex t) :
    Calls Try.prog 78 [.pointer (some ⟨b, 0, none⟩), .int .i64 t].toArray w fun e w' =>
      e = .returned (.tuple [].toArray) ∧ ∃ f', Lk B w' b st' f' ms ∧ (∀ j, 12 ≤ j → f' j = f j) ∧ Fr (LkB b ms) w w' := by
  refine (call78 ⟨b, 0⟩ t (R := fun v w' => v = .tuple [].toArray ∧ ∃ f', Lk B w' b st' f' ms ∧ (∀ j, 12 ≤ j → f' j = f j) ∧ Fr (LkB b ms) w w') ?_).mono fun e w' ⟨v, he, hv, hx⟩ => ⟨by rw [he, hv], hx⟩
  refine Join.dir (rangeI (n := 6) (fun i w' => ∃ f', Lk B w' b (relTo st t i i) f' ms ∧ (∀ j, 12 ≤ j → f' j = f j) ∧ Fr (LkB b ms) w w') (by decide) ⟨f, ?_, fun _ _ => rfl, Fr.refl _ _⟩ ?_ ?_)
  · refine k.congr (fun x i _ => ?_) (fun x i _ => ?_) <;> simp [relTo] <;> omega
  · rintro i hi w2 ⟨f2, k2, hf2, hfr2⟩ K hK
    have hidx : 0 + 0 + Int.toNat (i : Int) * 1 = i := by simp
    have hidx6 : 0 + 6 + Int.toNat (i : Int) * 1 = 6 + i := by simp
    have hc2 : World.cell? w2 ⟨b, 0 + 0 + Int.toNat (i : Int) * 1, none⟩ = some (.map (ms i)) := by rw [hidx]; exact k2.fb.cell (by omega) (k2.fm i hi)
    refine ⟨by omega, by omega, ms i, hc2, ?_⟩
    have hdel : ∃ w4, Sem.run Try.prog (Builtin.delete_ #[84, 3] 0 #[.map (ms i), .int .i64 t]) w2 = .ok (.tuple #[]) w4 ∧ Lk B w4 b (relTo st t (i + 1) i) f2 ms ∧ Fr (LkB b ms) w2 w4 := by
      have hother : ∀ x, ∀ j : Nat, j < 6 → j ≠ i → (relTo st t (i + 1) i).sh x j = (relTo st t i i).sh x j := fun x j _ hne => by
        simp only [relTo]
        have : (j : Int) < ((i + 1 : Nat) : Int) ↔ (j : Int) < (i : Int) := by omega
        simp only [this]
      have hsame : ∀ x, (relTo st t (i + 1) i).sh x i = (decide (x ≠ t) && (relTo st t i i).sh x i) := fun x => by
        simp only [relTo]; rw [if_pos (by omega), if_neg (by omega)]
      cases hm : ms i with
      | none =>
        refine ⟨w2, del_nil K3 u84 t 0 w2, k2.congr (fun x j hj => ?_) (fun x j hj => rfl), Fr.refl _ _⟩
        by_cases e : j = i
        · subst e; rw [hsame, k2.nil j hj hm x]; simp
        · exact hother x j hj e
      | some m =>
        obtain ⟨_, l, c, hmp, hml⟩ := k2.mp i hi m hm
        obtain ⟨w4, hrun, hmp4, hf4⟩ := del_run (P := Try.prog) (kt' := 3) K3 u84 hmp t 0
        refine ⟨w4, hrun, k2.map hi hm hf4 hmp4 (fun x => ?_) (fun x j hj e => hother x j hj e) (fun x j _ => rfl), hf4.mono fun y _ hy => .inr ⟨i, hi, by rw [hy]; exact hm⟩⟩
        rw [mget_mdel, hsame, hml]
        by_cases e : x = t <;> simp [e]
    obtain ⟨w4, hrun, k4, hfr4⟩ := hdel
    obtain ⟨e, hfe, hex4⟩ := k4.fe i hi
    have hc4 : World.cell? w4 ⟨b, 0 + 6 + Int.toNat (i : Int) * 1, none⟩ = some (.int .i64 e) := by rw [hidx6]; exact k4.fb.cell (by omega) hfe
    have hexi : ∀ x, (relTo st t (i + 1) (i + 1)).ex x i = (decide (x ≠ t) && (relTo st t (i + 1) i).ex x i) := fun x => by
      simp only [relTo]; rw [if_pos (by omega), if_neg (by omega)]
    have hexo : ∀ x, ∀ j : Nat, j < 6 → j ≠ i → (relTo st t (i + 1) (i + 1)).ex x j = (relTo st t (i + 1) i).ex x j := fun x j _ hne => by
      simp only [relTo]
      have : (j : Int) < ((i + 1 : Nat) : Int) ↔ (j : Int) < (i : Int) := by omega
      simp only [this]
    refine ⟨w4, hrun, by omega, by omega, e, hc4, Join.dir (cond_intro (fun hc => ?_) (fun hc => ?_))⟩
    · have hc : e = t := by simpa using hc
      subst hc
      obtain ⟨a1, a2, a3, a4⟩ := k4.own (st' := relTo st e (i + 1) (i + 1)) hi 0 (fun x j _ => rfl) hexo (fun x => by
        rw [hexi, hex4]
        by_cases e' : x = e <;> simp [e'])
      refine ⟨by omega, by omega, ?_, Let.intro fun w6 e6 => hK _ ?_⟩
      · show StoreOk w4 b (0 + 6 + Int.toNat (i : Int) * 1) _ 1
        rw [hidx6]; exact a1
      · have : w6 = put w4 b (0 + 6 + Int.toNat (i : Int) * 1) [.int .i64 0] := e6
        rw [hidx6] at this
        rw [this]
        exact ⟨_, a2, fun j hj => (a3 j hj).trans (hf2 j hj), (hfr2.trans hfr4 fun _ _ h => h).trans a4 fun y _ hy => .inl hy⟩
    · have hc : e ≠ t := by simpa using hc
      refine hK _ ⟨f2, k4.congr (fun x j _ => rfl) (fun x j hj => ?_), hf2, hfr2.trans hfr4 fun _ _ h => h⟩
      by_cases e' : j = i
      · subst e'
        rw [hexi, hex4]
        by_cases e'' : x = e
        · subst e''; simp [hc]
        · simp [e'']
      · exact hexo x j hj e'
  · rintro w' ⟨f', k', hf', hfr⟩
    refine ⟨rfl, f', k'.congr (fun x i hi => ?_) (fun x i hi => ?_), hf', hfr⟩
    · rw [hsh]; simp only [relL, relTo]; rw [if_pos (by omega)]
    · rw [hex]; simp only [relL, relTo]; rw [if_pos (by omega)]
end Go.Proofs.Ytnbkihkdfhjlmaa
