/-
  Contracts: a transaction goes on; those that can go on go on.
-/
import Derived.Test.YtnbkihkdfhjlmaaEf
namespace Go.Proofs.Ytnbkihkdfhjlmaa
open Go Go.VC
set_option maxHeartbeats 1000000
set_option maxRecDepth 100000

/-! ### bounds -/
theorem LI.dn_len {h : List Ev} (ho : OkH h) {i : Nat} {st : LS} (v : LI h i st) : st.dn.length ≤ h.length := by
  have hmem : ∀ o ∈ st.dn, 1 ≤ o.t ∧ o.t ≤ 6 := fun o hm => by
    have hf : o ∈ st.dn.filter (ofT o.t) := List.mem_filter.2 ⟨hm, by simp [ofT]⟩
    have hin : ∀ x, x ∈ opsT h i o.t → 1 ≤ x.t ∧ x.t ≤ 6 := fun x hx => by
      have := ho x (List.mem_of_mem_take (List.mem_filter.1 hx).1)
      unfold okOp at this; omega
    rcases v.ti o.t with ⟨_, h2⟩ | ⟨hab, _, p, x, r, h3, h4⟩
    · exact hin o (by rw [← h2]; simp [hf])
    · rw [h3] at hf
      rcases List.mem_append.1 hf with hf | hf
      · exact hin o (by rw [h4]; simp [hf])
      · simp at hf; exact v.rg _ hab
  have h1 := len_six hmem
  have h2 := len_six (l := h.take i) fun o hm => by have := ho o (List.mem_of_mem_take hm); unfold okOp at this; omega
  have hle : ∀ t, (st.dn.filter (ofT t)).length ≤ ((h.take i).filter (ofT t)).length := fun t => by
    rcases v.ti t with ⟨_, h2⟩ | ⟨_, _, p, x, r, h3, h4⟩
    · unfold opsT at h2; rw [← h2]; simp
    · unfold opsT at h4; rw [h3, h4]; simp
  have h3 : (h.take i).length ≤ h.length := by simp; omega
  simp only [six, List.map_cons, List.map_nil, List.sum_cons, List.sum_nil] at h1 h2
  have a1 := hle 1
  have a2 := hle 2
  have a3 := hle 3
  have a4 := hle 4
  have a5 := hle 5
  have a6 := hle 6
  omega
theorem LI.ab_len {h : List Ev} {i : Nat} {st : LS} (v : LI h i st) : st.ab.length ≤ 6 := by simpa [six] using v.nd.length_le_of_subset (l₂ := six) fun t ht => mem_six.2 (v.rg t ht)
theorem HK.toNone {h : List Ev} {st : LS} {ex : Option Int} (k : HK h st ex) {t : Int} (ht : ∀ j r, st.q t = j :: r → (opA h j).k ≤ 1) (he : ex = some t) : HK h st Option.none := fun x j r _ hq => by
  by_cases e : x = t
  · subst e; exact ht j r hq
  · exact k x j r (by rw [he]; exact fun h => e (Option.some.inj h)) hq
theorem HK.goP {h : List Ev} {st : LS} {t : Int} (k : HK h st (some t)) {n : Nat} (hl : (st.q t).length ≤ n) : HK h (Go.Proofs.Ytnbkihkdfhjlmaa.goP h t n st) Option.none := fun x j r _ hq => by
  by_cases e : x = t
  · subst e
    rcases goP_own (h := h) n hl with h1 | ⟨j', r', h1, h2⟩
    · rw [h1] at hq; cases hq
    · rw [h1] at hq; cases hq; exact hit_kind h2
  · rw [goP_other e] at hq
    exact k x j r (fun h => e (Option.some.inj h)) hq
theorem HK.mono {h : List Ev} {st : LS} (k : HK h st Option.none) (ex : Option Int) : HK h st ex := fun x j r _ hq => k x j r (by simp) hq
theorem HK.next {h : List Ev} {st : LS} {t : Int} (k : HK h st (some t)) (l : List Nat) (o : Ev) : HK h (doL (setq st t l) o) (some t) := fun x j r he hq => by
  rw [doL_q, setq_q, upq_other fun e => he (by rw [e])] at hq
  exact k x j r he hq

theorem c49 {h : List Ev} {B : Nat} {w : World} {b : Nat} {st : LS} (r : RunX h B w b st) (ho : OkH h) (hlen : h.length ≤ 1000) {i : Nat} (v : LI h i st) {t : Int} (hk : HK h st (some t)) :
    Calls Try.prog 49 [.pointer (some ⟨b, 0, none⟩), .int .i64 t].toArray w fun e w' => ∃ c : Bool, e = .returned (.bool c) ∧ RunX h B w' b (goP h t (st.q t).length st) ∧ (c = false → Grew st (goP h t (st.q t).length st)) ∧ Fr (fun y => B ≤ y) w w' := by
  refine (call49 ⟨b, 0⟩ t (R := fun u w' => ∃ c : Bool, u = .bool c ∧ RunX h B w' b (goP h t (st.q t).length st) ∧ (c = false → Grew st (goP h t (st.q t).length st)) ∧ Fr (fun y => B ≤ y) w w') ?_).mono fun e w' ⟨u, he, c, hu, hx⟩ => ⟨c, by rw [he, hu], hx⟩
  refine Join.dir (LoopV.intro (fun n (c : Bool) w2 => ∃ st1, RunX h B w2 b st1 ∧ LI h i st1 ∧ HK h st1 (some t) ∧ goP h t (st1.q t).length st1 = goP h t (st.q t).length st ∧ (c = false → Grew st st1) ∧ n = (st1.q t).length ∧ Fr (fun y => B ≤ y) w w2) (st.q t).length
    ⟨st, r, v, hk, rfl, fun _ => Grew.refl st, rfl, Fr.refl _ _⟩ ?_)
  rintro n c w2 ⟨st1, r1, v1, k1, hgo, hgr, rfl, hfr⟩
  have r1X := r1
  obtain ⟨f, ms, sd, sa, bw, lw, kw, r1⟩ := r1
  have hl1 := r1.len t
  refine ⟨some bw, r1.cw, sAt lw t, lookH r1.mw t, cond_intro (fun hc => ?_) (fun hc => ?_)⟩
  rotate_left
  · have hq : st1.q t = [] := List.eq_nil_of_length_eq_zero (by simp at hc; omega)
    rw [goP_nil hq] at hgo
    rw [← hgo]
    exact ⟨c, rfl, r1X, hgr, hfr⟩
  obtain ⟨j, l, hq⟩ : ∃ j l, st1.q t = j :: l := by
    cases hq : st1.q t with
    | nil => rw [hq] at hl1; simp at hl1; rw [hl1] at hc; simp at hc
    | cons j l => exact ⟨j, l, rfl⟩
  have hoj := ho.at (v1.gd.q t j (by rw [hq]; simp)).1
  have hrg := v1.gd.range ho hq
  have hok := hoj
  unfold okOp at hok
  have hll : (st1.q t).length = l.length + 1 := by rw [hq]; rfl
  rw [hll, goP_succ hq] at hgo
  obtain ⟨p, hp, a1, a2, hr⟩ := r1.head hq
  have hdl := v1.dn_len ho
  have hal := v1.ab_len
  refine Join.dir ⟨some bw, r1.cw, sAt lw t, lookH r1.mw t, p, hp, a1, a2, (opA h j).k, by simpa [eH, hd] using rd_get (i := 1) hr rfl, ?_⟩
  refine (c76 r1 ho v1.gd (by omega) hq).mono fun e w4 ⟨d, he, hcase⟩ => ⟨d, he, ?_⟩
  rcases hcase with ⟨rfl, hh, hx4⟩ | ⟨rfl, hh, r4, hfr4⟩
  rotate_left
  · -- it is done
    rw [if_neg (by simp [hh])] at hgo
    have v4 := v1.next ho hq hh
    have hq4 : (doL (setq st1 t l) (opA h j)).q t = l := by rw [doL_q, setq_q, upq_same]
    have hfin : ∀ c' : Bool, (c' = false → c = false ∧ (opA h j).k ≤ 1) → ltC [(5, .bool)] (st1.q t).length (fun n (c : Bool) w2 => ∃ st1, RunX h B w2 b st1 ∧ LI h i st1 ∧ HK h st1 (some t) ∧ goP h t (st1.q t).length st1 = goP h t (st.q t).length st ∧ (c = false → Grew st st1) ∧ n = (st1.q t).length ∧ Fr (fun y => B ≤ y) w w2) c' w4 := fun c' hc' =>
      ⟨l.length, by omega, doL (setq st1 t l) (opA h j), r4, v4, k1.next l _, by rw [hq4]; exact hgo, fun h0 => (hgr (hc' h0).1).trans (Grew.doL (hc' h0).2 hok.2.2.1 t l), by rw [hq4], hfr.trans hfr4 fun _ _ h => h⟩
    refine Join.dir (cond_intro (fun hc1 => hfin true fun h => by cases h) (fun hc1 => hfin _ fun h0 => ⟨hc1, by simp at h0; exact h0⟩))
  -- it has to wait
  rw [if_pos hh] at hgo
  have hkk := hit_kind hh
  have k1n : HK h st1 none := k1.toNone (fun j' r' hj' => by rw [hq] at hj'; cases hj'; exact hkk) rfl
  refine (c77 (r1.ext hx4) ho v1.gd k1n t).mono fun e w6 ⟨d, he, hd1, hx6⟩ => ⟨d, he, cond_intro (fun hc1 => ?_) (fun hc1 => ?_)⟩
  rotate_left
  · rw [if_neg fun hca => by rw [hd1.2 hca] at hc1; cases hc1] at hgo
    rw [← hgo]
    exact ⟨c, rfl, r1X.ext (hx4.trans hx6), hgr, hfr.ext (hx4.trans hx6)⟩
  rw [if_pos (hd1.1 hc1)] at hgo
  have r6 := r1.ext (hx4.trans hx6)
  have hfr6 := hfr.ext (hx4.trans hx6)
  obtain ⟨s1, w7, e7, hx7, s2, w8, e8, ho8, hf8⟩ := appEv E29 r6.od ⟨t, 3, 0⟩ (by omega) r6.hB
  obtain ⟨d9, r9, f9⟩ := r6.setD hx7 hf8 ho8
  have hbB := r6.lk.base
  refine ⟨sd, r6.cd, s1, w7, e7, s2, w8, e8, d9, Let.intro fun w9 e9 => ?_⟩
  have e9 : w9 = put w8 b 12 [.slice s2.a s2.n s2.c] := e9
  rw [← e9] at r9 f9
  have hfr9 : Fr (fun y => B ≤ y) w w9 := ((hfr6.ext hx7).trans hf8 fun y _ ⟨a, ha, hy⟩ => by have := (r6.od.base ha).1; omega).trans f9 fun y _ (hy : y = b) => by omega
  obtain ⟨s3, w10, e10, hx10, s4, w11, e11, ho11, hf11⟩ : ∃ (s1 : Sl) (w1 : World), (Instr.buildSlice 24 1 [(0, .int .i64 t)].toArray).run Try.prog w9 = .ok (.slice s1.a s1.n s1.c) w1 ∧ Ext w9 w1 ∧
      ∃ (s' : Sl) (w' : World), (Builtin.append_ #[24, 24] 24 #[.slice sa.a sa.n sa.c, .slice s1.a s1.n s1.c]).run Try.prog w1 = .ok (.slice s'.a s'.n s'.c) w' ∧ Own 3 1 eI B w' s' (st1.ab ++ [t]) ∧ Fr (Bl sa) w1 w' := by
    obtain ⟨s1, w1, e1, hx1, s', w', e2, o1, f1, _⟩ := appendIntW r9.oa t (by show st1.ab.length ≤ 1000000; omega) r9.hB
    exact ⟨s1, w1, e1, hx1, s', w', e2, o1, f1⟩
  obtain ⟨d12, r12, f12⟩ := r9.setA hx10 hf11 ho11
  refine ⟨sa, r9.ca, s3, w10, e10, s4, w11, e11, d12, Let.intro fun w12 e12 => ?_⟩
  have e12 : w12 = put w11 b 13 [.slice s4.a s4.n s4.c] := e12
  rw [← e12] at r12 f12
  have hfr12 : Fr (fun y => B ≤ y) w w12 := ((hfr9.ext hx10).trans hf11 fun y _ ⟨a, ha, hy⟩ => by have := (r9.oa.base ha).1; omega).trans f12 fun y _ (hy : y = b) => by omega
  obtain ⟨w13, c13, hrun, r13, f13⟩ := r12.setQ t (l := []) (s := ⟨none, 0, 0⟩) (Tl.nil ..) fun u hu y ⟨h0, _⟩ => absurd h0 (Nat.lt_irrefl _)
  have hbw := r12.bwB
  refine ⟨some bw, r12.cw, w13, hrun, ?_⟩
  refine (c78 r13.lk (t := t) hrg.1 (st' := abortL st1 t) (doL_sh2 (o := ⟨t, 3, 0⟩) (by show (1 : Int) < 3; decide)).1 (doL_sh2 (o := ⟨t, 3, 0⟩) (by show (1 : Int) < 3; decide)).2).mono fun e w14 ⟨he, f', k14, hf', hfr14⟩ => ⟨he, true, rfl, ?_, (fun h => by cases h), ?_⟩
  · rw [← hgo]
    exact ⟨_, _, _, _, _, _, _, r13.lock k14 hf' (fun i m _ h => .inl h) hfr14 rfl rfl rfl⟩
  · exact (hfr12.trans f13 fun y _ (hy : y = bw) => by omega).trans hfr14 fun y _ hy => (r13.lk.bound hy).1
end Go.Proofs.Ytnbkihkdfhjlmaa
