/-
  Contracts: those that can go on go on (F50); Lock (F19).
-/
import Derived.Test.YtnbkihkdfhjlmaaEg
namespace Go.Proofs.Ytnbkihkdfhjlmaa
open Go Go.VC
set_option maxHeartbeats 1000000
set_option maxRecDepth 100000

/-- A transaction that can go on, with the place of its operation. -/
def ready (h : List Ev) (st : LS) (t : Int) (j : Nat) : Prop := ∃ l, st.q t = j :: l ∧ hit st (opA h j) = false
theorem next_of_ready {h : List Ev} {st : LS} (g : Gd h st) {t : Int} {j : Nat} (hr : ready h st t j) (hmin : ∀ u k, ready h st u k → j ≤ k) : nextP h st = some t := by
  obtain ⟨l, hq, hh⟩ := hr
  cases hn : nextP h st with
  | none =>
    have := (nextP_none g).1 hn t j l hq
    rw [hh] at this; cases this
  | some u =>
    obtain ⟨k, l', hk, hu, hqu, hhu, hmk⟩ := nextP_some hn
    have h1 := hmin u k ⟨l', hqu, hhu⟩
    obtain ⟨hjl, hjt⟩ := g.q t j (by rw [hq]; simp)
    rcases Nat.lt_or_ge j k with h2 | h2
    · have := hmk j h2
      unfold nextJ at this
      rw [hjt, hq] at this
      simp [hh] at this
    · have : j = k := by omega
      subst this
      rw [← hu, hjt]
theorem next_none_of {h : List Ev} {st : LS} (g : Gd h st) (hn : ∀ u k, ¬ ready h st u k) : nextP h st = none :=
  (nextP_none g).2 fun t j l hq => by
    cases hh : hit st (opA h j) with
    | true => rfl
    | false => exact absurd ⟨l, hq, hh⟩ (hn t j)
/-- The best of those that were looked at. -/
def Best (h : List Ev) (st : LS) (vis : List (Ent Int Sl)) (x : Int) : Prop := (x = 0 ∧ ∀ e ∈ vis, ∀ j, ¬ ready h st e.1 j) ∨ ∃ j, ready h st x j ∧ ∀ e ∈ vis, ∀ k, ready h st e.1 k → j ≤ k
theorem ready_inj {h : List Ev} {st : LS} {t : Int} {j k : Nat} (a : ready h st t j) (b : ready h st t k) : j = k := by
  obtain ⟨l, h1, _⟩ := a
  obtain ⟨l', h2, _⟩ := b
  rw [h1] at h2; cases h2; rfl
theorem Best.skip {h : List Ev} {st : LS} {vis : List (Ent Int Sl)} {x : Int} {e : Ent Int Sl} (b : Best h st vis x) (hn : ∀ j, ¬ ready h st e.1 j) : Best h st (vis ++ [e]) x := by
  rcases b with ⟨h1, h2⟩ | ⟨j, h1, h2⟩
  · exact .inl ⟨h1, fun y hy => by rcases List.mem_append.1 hy with hy | hy; exact h2 y hy; simp at hy; subst hy; exact hn⟩
  · exact .inr ⟨j, h1, fun y hy k hk => by rcases List.mem_append.1 hy with hy | hy; exact h2 y hy k hk; simp at hy; subst hy; exact absurd hk (hn k)⟩
theorem Best.first {h : List Ev} {st : LS} {vis : List (Ent Int Sl)} {e : Ent Int Sl} (b : Best h st vis 0) (h0 : ∀ j, ¬ ready h st 0 j) {k : Nat} (hk : ready h st e.1 k) : Best h st (vis ++ [e]) e.1 := by
  rcases b with ⟨_, h2⟩ | ⟨j, h1, _⟩
  · exact .inr ⟨k, hk, fun y hy m hm => by
      rcases List.mem_append.1 hy with hy | hy
      · exact absurd hm (h2 y hy m)
      · simp at hy; subst hy; rw [ready_inj hk hm]; exact Nat.le_refl _⟩
  · exact absurd h1 (h0 j)
theorem Best.better {h : List Ev} {st : LS} {vis : List (Ent Int Sl)} {x : Int} {e : Ent Int Sl} (b : Best h st vis x) {j k : Nat} (hj : ready h st x j) (hk : ready h st e.1 k) (hlt : k < j) : Best h st (vis ++ [e]) e.1 := by
  refine .inr ⟨k, hk, fun y hy m hm => ?_⟩
  rcases List.mem_append.1 hy with hy | hy
  · rcases b with ⟨_, h2⟩ | ⟨j', h1, h2⟩
    · exact absurd hm (h2 y hy m)
    · have := ready_inj hj h1
      have := h2 y hy m hm
      omega
  · simp at hy; subst hy; rw [ready_inj hk hm]; exact Nat.le_refl _
theorem Best.worse {h : List Ev} {st : LS} {vis : List (Ent Int Sl)} {x : Int} {e : Ent Int Sl} (b : Best h st vis x) {j k : Nat} (hj : ready h st x j) (hk : ready h st e.1 k) (hle : j ≤ k) : Best h st (vis ++ [e]) x := by
  refine .inr ⟨j, hj, fun y hy m hm => ?_⟩
  rcases List.mem_append.1 hy with hy | hy
  · rcases b with ⟨_, h2⟩ | ⟨j', h1, h2⟩
    · exact absurd hm (h2 y hy m)
    · have := ready_inj hj h1
      have := h2 y hy m hm
      omega
  · simp at hy; subst hy; have := ready_inj hk hm; omega

theorem c50 {h : List Ev} {B : Nat} {w : World} {b : Nat} {st : LS} (r : RunX h B w b st) (ho : OkH h) (hlen : h.length ≤ 1000) {i : Nat} (v : LI h i st) (hk : HK h st none) :
    Calls Try.prog 50 [.pointer (some ⟨b, 0, none⟩)].toArray w fun e w' => e = .returned (.tuple [].toArray) ∧ RunX h B w' b (retryP h (total st) st) ∧ Fr (fun y => B ≤ y) w w' := by
  refine (call50 ⟨b, 0⟩ (R := fun u w' => u = .tuple [].toArray ∧ RunX h B w' b (retryP h (total st) st) ∧ Fr (fun y => B ≤ y) w w') ?_).mono fun e w' ⟨u, he, hu, hx⟩ => ⟨by rw [he, hu], hx⟩
  refine Join.dir (LoopV.intro (fun n w2 => ∃ st1, RunX h B w2 b st1 ∧ LI h i st1 ∧ HK h st1 none ∧ retryP h (total st1) st1 = retryP h (total st) st ∧ n = total st1 ∧ Fr (fun y => B ≤ y) w w2) (total st)
    ⟨st, r, v, hk, rfl, rfl, Fr.refl _ _⟩ ?_)
  rintro n w2 ⟨st1, r1X, v1, k1, hre, rfl, hfr⟩
  obtain ⟨f, ms, sd, sa, bw, lw, kw, r1⟩ := r1X
  obtain ⟨w4, hr4, hx4, hit4, hm4⟩ := range_run (κ := Int) (β := Sl) (P := Try.prog) u83 r1.mw
  refine Join.dir ⟨some bw, r1.cw, ⟨w2.heap.size, 0⟩, w4, hr4, ?_⟩
  have h0 : ∀ j, ¬ ready h st1 0 j := fun j ⟨l, hq, _⟩ => by have := v1.gd.range ho hq; omega
  refine ⟨fun (x : Int) w5 => (x = 0 ∧ nextP h st1 = none ∨ x ≠ 0 ∧ nextP h st1 = some x) ∧ Ext w2 w5, ?_, ?_⟩
  · rintro x w5 ⟨hx, hx5⟩
    rcases hx with ⟨rfl, hn⟩ | ⟨hx0, hn⟩
    · refine cond_intro (fun _ => ⟨rfl, ?_, hfr.ext hx5⟩) (fun hc => by simp at hc)
      rw [← hre, retry_same v1.gd ((nextP_none v1.gd).1 hn)]
      exact ⟨_, _, _, _, _, _, _, r1.ext hx5⟩
    · refine cond_intro (fun hc => absurd (by simpa using hc) hx0) (fun _ => ?_)
      refine (c49 ⟨_, _, _, _, _, _, _, r1.ext hx5⟩ ho hlen v1 (k1.mono (some x))).mono fun e w6 ⟨c, he, r6, _, hfr6⟩ => ⟨c, he, ?_⟩
      refine ⟨total (goP h x (st1.q x).length st1), next_total ho v1.gd hn, _, r6, v1.goP ho _, (k1.mono (some x)).goP (Nat.le_refl _), ?_, rfl, (hfr.ext hx5).trans hfr6 fun _ _ h => h⟩
      rw [← hre, retry_step ho v1.gd hn]
  · refine rangeM (P := Try.prog) (k := .int .i64) (fun vis (x : Int) w' => Ext w2 w' ∧ Best h st1 vis x) hm4 hit4 ⟨hx4, .inl ⟨rfl, by simp⟩⟩ ?_ ?_ ?_
    · rintro vis x w' w'' ⟨h1, h2⟩ hf
      exact ⟨h1.newer hf fun y (hy : y = w2.heap.size) => by omega, h2⟩
    · rintro vis ⟨k, sv, stamp⟩ x w8 hxl hxv hvn hvl hvlt ⟨hx8, hbest⟩ hmp8 hrb hent K hK
      have hsv : sAt lw k = sv := by unfold sAt; rw [mget_some r1.mw.keys hxl]; rfl
      subst hsv
      have r8 := r1.ext hx8
      have hlk := r8.len k
      refine ⟨k, sAt lw k, hent, ?_⟩
      refine ⟨fun (c : Bool) w10 => (c = true → ∀ j, ¬ ready h st1 k j) ∧ (c = false → ∃ j, ready h st1 k j) ∧ Ext w8 w10, ?_, ?_⟩
      · rintro c w10 ⟨hc1, hc2, hx10⟩
        refine cond_intro (fun hc => ?_) (fun hc => ?_)
        · exact hK _ _ ⟨hx8.trans hx10, hbest.skip (e := (k, sAt lw k, stamp)) (hc1 hc)⟩ (hx10.mono fun _ _ h => h.elim)
        · obtain ⟨j, hj⟩ := hc2 hc
          have hjr := hj
          obtain ⟨l, hq, hh⟩ := hjr
          refine ⟨fun (d : Bool) w11 => Best h st1 (vis ++ [(k, sAt lw k, stamp)]) (if d = true then k else x) ∧ Ext w8 w11, ?_, ?_⟩
          · rintro d w11 ⟨hb, hx11⟩
            refine Join.dir (cond_intro (fun hd => ?_) (fun hd => ?_))
            · rw [if_pos hd] at hb
              exact hK _ _ ⟨hx8.trans hx11, hb⟩ (hx11.mono fun _ _ h => h.elim)
            · rw [if_neg (by rw [hd]; simp)] at hb
              exact hK _ _ ⟨hx8.trans hx11, hb⟩ (hx11.mono fun _ _ h => h.elim)
          · refine Let.intro fun w13 e13 => ?_
            have hx13 : Ext w8 w13 := hx10.trans (by rw [e13]; exact Ext.drew _)
            refine cond_intro (fun hc => ⟨?_, hx13⟩) (fun hc => ?_)
            · have : x = 0 := by simpa using hc
              subst this
              exact hbest.first (e := (k, sAt lw k, stamp)) h0 hj
            · have hx0 : x ≠ 0 := by simpa using hc
              have r13 := r1.ext (hx8.trans hx13)
              obtain ⟨jx, hjx⟩ : ∃ jx, ready h st1 x jx := by
                rcases hbest with ⟨h1, _⟩ | ⟨jx, h1, _⟩
                · exact absurd h1 hx0
                · exact ⟨jx, h1⟩
              have hjx2 := hjx
              obtain ⟨lx, hqx, _⟩ := hjx2
              obtain ⟨p, hp, a1, a2, hr⟩ := r13.head hq
              obtain ⟨p', hp', b1, b2, hr'⟩ := r13.head hqx
              refine ⟨p, hp, a1, a2, (j : Int), by simpa [eH, hd] using rd_get (i := 3) hr rfl, some bw, r13.cw, sAt lw x, lookH r13.mw x, p', hp', b1, b2, (jx : Int), by simpa [eH, hd] using rd_get (i := 3) hr' rfl, ?_, hx13⟩
              by_cases hlt : j < jx
              · rw [if_pos (by simpa using hlt)]; exact hbest.better (e := (k, sAt lw k, stamp)) hjx hj hlt
              · rw [if_neg (by simpa using hlt)]; exact hbest.worse (e := (k, sAt lw k, stamp)) hjx hj (by omega)
      · refine ⟨fun u => Ext w8 u, Ext.drew _, Let.intro fun w14 e14 => ?_⟩
        have hx14 : Ext w8 w14 := by rw [e14]; exact Ext.drew _
        refine cond_intro (fun hc => ⟨fun _ j ⟨l, hq, _⟩ => ?_, (fun h => by cases h), hx14⟩) (fun hc => ?_)
        · rw [hq] at hlk; simp at hc hlk; omega
        · obtain ⟨j, l, hq⟩ : ∃ j l, st1.q k = j :: l := by
            cases hq : st1.q k with
            | nil => rw [hq] at hlk; simp at hc hlk; omega
            | cons j l => exact ⟨j, l, rfl⟩
          have hoj := ho.at (v1.gd.q k j (by rw [hq]; simp)).1
          obtain ⟨p, hp, a1, a2, hr⟩ := r8.head hq
          have hhd : ∀ u, Ext w8 u → rd u p.b p.o (eH (hd h j)) := fun u hu => by
            obtain ⟨p', hp', _, _, hr'⟩ := (r8.ext hu).head hq
            rw [hp] at hp'
            have e : (⟨p.b, p.o, none⟩ : Addr) = ⟨p'.b, p'.o, none⟩ := Option.some.inj hp'
            have e1 : p.b = p'.b := congrArg Addr.block e
            have e2 : p.o = p'.o := congrArg Addr.off e
            rw [← e1, ← e2] at hr'; exact hr'
          refine ⟨p, hp, a1, a2, (opA h j).k, fun u hu => by simpa [eH, hd] using rd_get (i := 1) (hhd u hu) rfl, cond_intro (fun hc2 => ?_) (fun hc2 => ?_)⟩
          · have hkk : (opA h j).k ≤ 1 := by simpa using hc2
            refine ⟨p, hp, a1, a2, (opA h j).t, (opA h j).k, (opA h j).i, fun u hu => by simpa [eO, hd] using head_op (hhd u hu), ?_⟩
            refine (c79 (r8.ext hx14).lk v1.gd hoj hkk).mono fun e w15 ⟨s33, ls, he, ho33, hml, hll, hx15⟩ => ⟨s33, he, hx14.trans hx15, ?_, ?_, hx14.trans hx15⟩
            · intro hc3 j' ⟨l', hq', hh'⟩
              rw [hq] at hq'
              cases hq'
              have := (mem_hit v1.gd hml).1 (by have := ho33.sli.len; simp at hc3; omega)
              rw [hh'] at this; cases this
            · intro hc3
              refine ⟨j, l, hq, Bool.eq_false_iff.2 fun hh => ?_⟩
              have := (mem_hit v1.gd hml).2 hh
              have := ho33.sli.len
              simp at hc3; omega
          · have hkk : 1 < (opA h j).k := by simp at hc2; omega
            exact ⟨(fun h => by cases h), fun _ => ⟨j, l, hq, hit_big hkk⟩, hx14⟩
    · rintro vis x w8 hall hvn hvl ⟨hx8, hbest⟩ hmp8
      refine ⟨?_, hx8⟩
      have hin : ∀ u j, ready h st1 u j → ∃ e ∈ vis, e.1 = u := fun u j ⟨l, hq, _⟩ => by
        have hl := r1.len u
        cases hm : mget lw u with
        | none => unfold sAt at hl; rw [hm, hq] at hl; simp [nilS] at hl
        | some s =>
          obtain ⟨c', hc'⟩ := mget_mem hm
          exact ⟨_, hall _ hc', rfl⟩
      rcases hbest with ⟨h1, h2⟩ | ⟨j, h1, h2⟩
      · refine .inl ⟨h1, next_none_of v1.gd fun u k hk => ?_⟩
        obtain ⟨e, he, rfl⟩ := hin u k hk
        exact h2 e he k hk
      · refine .inr ⟨fun e => by subst e; exact h0 j h1, next_of_ready v1.gd h1 fun u k hk => ?_⟩
        obtain ⟨e, he, rfl⟩ := hin u k hk
        exact h2 e he k hk

theorem quiet_HK {h : List Ev} {st : LS} (q : quiet h st) : HK h st none := fun x j r _ hq => hit_kind (q x j r hq)
/-- A queue grew: the slice was appended to, maybe in place. -/
theorem Run.grow {h : List Ev} {B : Nat} {w w1 : World} {b : Nat} {st : LS} {f : Nat → Value} {ms : Nat → Option Nat} {sd sa : Sl} {bw : Nat} {lw : List (Ent Int Sl)} {kw : Nat} (r : Run h B w b st f ms sd sa bw lw kw) (t : Int)
    (hf : Fr (Rm (sAt lw t)) w w1) {l : List Nat} {s : Sl} (ht : Tl 92 4 eH B w1 s (l.map (hd h))) (hsep : ∀ u, u ≠ t → ∀ y, Rm s y → ¬ Rm (sAt lw u) y) :
    ∃ w' c', (Instr.mapUpdate 83 (.map (some bw)) (.int .i64 t) (.slice s.a s.n s.c)).run Try.prog w1 = .ok () w' ∧ Run h B w' b (setq st t l) f ms sd sa bw (mput lw kw t s) c' ∧ Fr (fun y => y = bw) w1 w' := by
  have hblk : ∀ y, Rm (sAt lw t) y → ∃ cur, Blk w y cur 92 := fun y hy => ((r.tl t).base hy).2.2
  have hm1 : Mp kI kS w1 bw lw kw := r.mw.fr hf fun hy => by obtain ⟨cur, hc⟩ := hblk _ hy; exact r.mw.ne_blk hc rfl
  have k1 : Lk B w1 b st f ms := r.lk.fr hf fun y hy hy2 => by obtain ⟨cur, hc⟩ := hblk _ hy2; exact r.lk.not_cells hc (by decide) hy
  have od1 : Own 38 3 eO B w1 sd st.dn := r.od.fr hf fun a ha hy => by
    obtain ⟨cur, hc⟩ := hblk _ hy
    obtain ⟨cur', hc'⟩ := r.od.blk ha
    exact Blk.ne_ty hc hc' (by decide) rfl
  have oa1 : Own 3 1 eI B w1 sa st.ab := r.oa.fr hf fun a ha hy => by
    obtain ⟨cur, hc⟩ := hblk _ hy
    obtain ⟨cur', hc'⟩ := r.oa.blk ha
    exact Blk.ne_ty hc hc' (by decide) rfl
  have tl1 : ∀ u, u ≠ t → Tl 92 4 eH B w1 (sAt lw u) ((st.q u).map (hd h)) := fun u hu => (r.tl u).fr hf fun y hy hy2 => r.sep u t hu y hy hy2
  obtain ⟨w', c', hrun, hmp, hfr⟩ := put_run K3 u83 hm1 t s
  have hcells : ∀ {y T : Nat} {cur : List Value}, Blk w1 y cur T → y ≠ bw := fun hb e => by subst e; exact hm1.ne_blk hb rfl
  refine ⟨w', c', hrun, ⟨(k1.fr hfr fun y hy e => ?_).congr (fun _ _ _ => rfl) (fun _ _ _ => rfl), r.fd, r.fa, r.fw, ?_, ?_, r.bwB, hmp, r.bm, fun u => ?_, fun u v huv y h1 h2 => ?_⟩, hfr⟩
  · rcases hy with h1 | ⟨i, hi, hm⟩
    · exact hcells k1.fb (h1.symm.trans e)
    · rw [e] at hm; exact r.bm i hi hm
  · exact od1.fr hfr fun a ha => by obtain ⟨cur, hc⟩ := od1.blk ha; exact hcells hc
  · exact oa1.fr hfr fun a ha => by obtain ⟨cur, hc⟩ := oa1.blk ha; exact hcells hc
  · rw [sAt_mput, setq_q]
    by_cases e : u = t
    · subst e
      rw [if_pos rfl, upq_same]
      exact ht.fr hfr fun y hy => by obtain ⟨_, _, cur, hc⟩ := ht.base hy; exact hcells hc
    · rw [if_neg e, upq_other e]
      exact (tl1 u e).fr hfr fun y hy => by obtain ⟨_, _, cur, hc⟩ := (tl1 u e).base hy; exact hcells hc
  · rw [sAt_mput] at h1 h2
    by_cases e : u = t
    · subst e
      rw [if_pos rfl] at h1
      rw [if_neg (fun h => huv h.symm)] at h2
      exact hsep v (fun h => huv h.symm) y h1 h2
    · rw [if_neg e] at h1
      by_cases e' : v = t
      · subst e'
        rw [if_pos rfl] at h2
        exact hsep u e y h2 h1
      · rw [if_neg e'] at h2
        exact r.sep u v huv y h1 h2
/-- Whatever was done with an operation: once all who can go on have gone on, the step is made. -/
theorem step_of {h : List Ev} (ho : OkH h) {i : Nat} (hi : i < h.length) {st : LS} (v : LJ h i st) (hn : (opA h i).t ∉ st.ab) : lockStep h st i = retryP h (total (lockA h st i)) (lockA h st i) := by
  unfold lockStep
  exact if_neg hn
theorem c19 {w : World} {s : Sl} {h : List Ev} (hs : Hs w s h) (hl : h.length ≤ 1000) :
    Calls Try.prog 19 [.slice s.a s.n s.c].toArray w fun e w' => ∃ (s1 s2 : Sl) (x : Int), e = .returned (.tuple [.slice s1.a s1.n s1.c, .slice s2.a s2.n s2.c, .int .i64 x].toArray) ∧
      ((¬ Valid h ∧ s1.n = 0 ∧ s2.n = 0 ∧ x = 2) ∨ (Valid h ∧ Own 38 3 eO w.heap.size w' s1 (lockP h).dn ∧ Own 3 1 eI w.heap.size w' s2 (lockP h).ab ∧ x = 0)) ∧ Ext w w' := by
  refine (call19 s (R := fun v w' => ∃ (s1 s2 : Sl) (x : Int), v = (.tuple [.slice s1.a s1.n s1.c, .slice s2.a s2.n s2.c, .int .i64 x].toArray) ∧
      ((¬ Valid h ∧ s1.n = 0 ∧ s2.n = 0 ∧ x = 2) ∨ (Valid h ∧ Own 38 3 eO w.heap.size w' s1 (lockP h).dn ∧ Own 3 1 eI w.heap.size w' s2 (lockP h).ab ∧ x = 0)) ∧ Ext w w') ?_).mono fun e w' ⟨v, he, s1, s2, x, hv, hx⟩ => ⟨s1, s2, x, by rw [he, hv], hx⟩
  have hbig : h.length ≤ big := by show h.length ≤ 9223372036854775807; omega
  refine (c26 hs hbig).mono fun e w1 ⟨he, hx1⟩ => ⟨_, he, cond_intro (fun hc => ?_) (fun hc => ?_)⟩
  · have hc : ¬ Valid h := by simpa using hc
    exact ⟨⟨none, 0, 0⟩, ⟨none, 0, 0⟩, 2, rfl, .inl ⟨hc, rfl, rfl, rfl⟩, hx1⟩
  have hval : Valid h := by simpa using hc
  have ho : OkH h := hval.1.1
  have hn := hs.len
  refine Let.intro fun w2 e2 => Let.intro fun w3 e3 => ?_
  have hx2 : Ext w1 w2 := by rw [e2]; exact Ext.alloc ..
  have hm2 : Mp kI kS w2 w1.heap.size ([] : List (Ent Int Sl)) 0 := by rw [e2]; exact Mp.made w1
  have hx3 : Ext w2 w3 := by rw [e3]; exact Ext.alloc ..
  have hx03 := (hx1.trans hx2).trans hx3
  have z1 := hx1.size
  have z2 := hx2.size
  have z3 := hx3.size
  have hlt2 := hm2.bound
  have hfb : FB w3 w2.heap.size 15 (fun i => ([(.map none), (.map none), (.map none), (.map none), (.map none), (.map none), (.int .i64 (0 : Int)), (.int .i64 (0 : Int)), (.int .i64 (0 : Int)), (.int .i64 (0 : Int)), (.int .i64 (0 : Int)), (.int .i64 (0 : Int)), (.slice none 0 0), (.slice none 0 0), (.map (some w1.heap.size))] : List Value).getD i undef) 89 := by
    rw [e3]; exact FB.alloc w2 _ 89
  have hr3 : RunX h w.heap.size w3 w2.heap.size LS.init := by
    refine ⟨_, fun _ => none, ⟨none, 0, 0⟩, ⟨none, 0, 0⟩, w1.heap.size, [], 0, ⟨⟨hfb, by omega, fun i hi => ?_, fun _ _ _ _ => rfl, fun i hi m hm => (by cases hm), fun i j hi hj m hm => (by cases hm), fun i hi => ⟨0, ?_, fun x => ?_⟩⟩, rfl, rfl, rfl, Own.nil .., Own.nil .., z1, hm2.ext hx3, fun i hi hm => (by cases hm), fun t => Tl.nil .., fun t u _ y hy => ?_⟩⟩
    · have : i = 0 ∨ i = 1 ∨ i = 2 ∨ i = 3 ∨ i = 4 ∨ i = 5 := by omega
      rcases this with rfl | rfl | rfl | rfl | rfl | rfl <;> rfl
    · have : i = 0 ∨ i = 1 ∨ i = 2 ∨ i = 3 ∨ i = 4 ∨ i = 5 := by omega
      rcases this with rfl | rfl | rfl | rfl | rfl | rfl <;> rfl
    · simp [LS.init]
    · exact absurd hy.1 (Nat.lt_irrefl _)
  generalize hb : w2.heap.size = b at hr3
  refine Join.dir (rangeI (fun i w' => RunX h w.heap.size w' b (lockN h i) ∧ Ext w w') (by rw [hn]; exact hbig) ⟨hr3, hx03⟩ ?_ ?_)
  · rintro i hi w6 ⟨r6, hx6⟩ K hK
    have hi : i < h.length := by omega
    have v := lockN_lj ho i (by omega)
    have hK : ∀ w', RunX h w.heap.size w' b (lockStep h (lockN h i) i) → Ext w w' → K w' := fun w' h1 h2 => hK w' ⟨h1, h2⟩
    generalize hst : lockN h i = st at r6 v hK
    refine loadEv (hs.ext hx6) hi zc38 fun w9 hb9 hx9 => Let.intro fun w10 e10 => ?_
    have hx10 : Ext w6 w10 := hx9.trans (by rw [e10]; exact Ext.drew _)
    have hb10 : Blk w10 w6.heap.size (eO h[i]) 38 := hb9.ext (by rw [e10]; exact Ext.drew _)
    obtain ⟨f, ms, sd, sa, bw, lw, kw, r6⟩ := r6
    have hopA := opA_at hi
    rw [← hopA] at hb10
    have hoi := ho.at hi
    generalize hop : opA h i = o at hb10 hoi
    have r10 := r6.ext hx10
    have hab := v.li.ab_len
    refine ⟨sa, r10.ca, o.t, hb10.cell 0, ?_⟩
    refine (c28 r10.oa.sli o.t (by show st.ab.length ≤ 9223372036854775807; omega)).mono fun e w11 ⟨he, hx11⟩ => ⟨_, he, ?_⟩
    refine cond_intro (fun hc => ?_) (fun hc => ?_)
    · have hin : (opA h i).t ∈ st.ab := by rw [hop]; simpa using hc
      refine hK _ ?_ ((hx6.trans hx10).trans hx11)
      unfold lockStep
      rw [if_pos hin]
      exact ⟨_, _, _, _, _, _, _, r10.ext hx11⟩
    have hnin : (opA h i).t ∉ st.ab := by rw [hop]; simpa using hc
    refine Let.intro fun w12 e12 => ?_
    have hx12 : Ext w6 w12 := (hx10.trans hx11).trans (by rw [e12]; exact Ext.drew _)
    have hb12 : Blk w12 w6.heap.size (eO o) 38 := (hb10.ext hx11).ext (by rw [e12]; exact Ext.drew _)
    have r12 := r6.ext hx12
    have hwait := r12.len o.t
    refine ⟨some bw, r12.cw, o.t, hb12.cell 0, sAt lw o.t, lookH r12.mw o.t, ?_⟩
    have hS : ∀ u, Ext w12 u → World.cell? u ⟨b, 14, none⟩ = some (.map (some bw)) ∧ rd u w6.heap.size 0 (eO o) ∧ Sem.run Try.prog (Instr.lookup 83 (.map (some bw)) (.int .i64 o.t) false) u = .ok (.slice (sAt lw o.t).a (sAt lw o.t).n (sAt lw o.t).c) u := fun u hu =>
      ⟨(r12.ext hu).cw, (hb12.ext hu).rd, lookH (r12.ext hu).mw o.t⟩
    refine ⟨fun u => World.cell? u ⟨b, 14, none⟩ = some (.map (some bw)) ∧ rd u w6.heap.size 0 (eO o) ∧ Sem.run Try.prog (Instr.lookup 83 (.map (some bw)) (.int .i64 o.t) false) u = .ok (.slice (sAt lw o.t).a (sAt lw o.t).n (sAt lw o.t).c) u, hS _ (Ext.drew _), Let.intro fun w13 e13 => ?_⟩
    have hx13 : Ext w12 w13 := by rw [e13]; exact Ext.drew _
    have r13 := r12.ext hx13
    have hql : (st.q o.t).length ≤ i := by
      have h1 : (st.q o.t).Nodup := (v.li.gd.srt o.t).imp fun h e => by omega
      have := h1.length_le_of_subset (l₂ := List.range i) fun j hj => by simpa using v.lt _ j hj
      simpa using this
    obtain ⟨s54, w14, e14, hx14, s55, w15, e15, ht15, hf15, hwh⟩ := Tl.append E90 (r13.tl o.t) (x := (o, (i : Int))) (v := .agg [.int .i64 o.t, .int .i64 o.k, .int .i64 o.i, .int .i64 (i : Int)].toArray) rfl eH_len eH_one (by omega) (by simp; omega) (by simp [maxLen]; omega) r13.hB 90
    have r14 := r13.ext hx14
    have hx1214 := hx13.trans hx14
    have hRm : ∀ y, Rm (sAt lw o.t) y → ∃ cur, Blk w14 y cur 92 := fun y hy => ((r14.tl o.t).base hy).2.2
    have hb14 := hb12.ext hx1214
    have hS15 : World.cell? w15 ⟨b, 14, none⟩ = some (.map (some bw)) ∧ rd w15 w6.heap.size 0 (eO o) ∧ Sem.run Try.prog (Instr.lookup 83 (.map (some bw)) (.int .i64 o.t) false) w15 = .ok (.slice (sAt lw o.t).a (sAt lw o.t).n (sAt lw o.t).c) w15 := by
      refine ⟨hf15.cell (a := ⟨b, 14, none⟩) (fun hy => ?_) r14.cw, Fr.rd hf15 (fun hy => ?_) hb14.rd, lookH (r14.mw.fr hf15 fun hy => ?_) o.t⟩
      · obtain ⟨cur, hc⟩ := hRm _ hy; exact Blk.ne_ty hc r14.lk.fb (by decide) rfl
      · obtain ⟨cur, hc⟩ := hRm _ hy; exact Blk.ne_ty hc hb14 (by decide) rfl
      · obtain ⟨cur, hc⟩ := hRm _ hy; exact r14.mw.ne_blk hc rfl
    have hmap : (st.q o.t).map (hd h) ++ [(o, (i : Int))] = (st.q o.t ++ [i]).map (hd h) := by rw [List.map_append]; unfold hd; simp [hop]
    rw [hmap] at ht15
    obtain ⟨w16, c16, hrun, r16, f16⟩ := r14.grow o.t hf15 ht15 fun u hu y hy hy2 => by
      rcases hwh with hwh | hwh
      · exact r14.sep u o.t hu y hy2 (hwh y hy)
      · have h1 := hwh y hy
        have h2 := ((r13.tl u).base hy2).2.1
        omega
    have hbw := r12.bwB
    have hx16 : Ext w w16 := by
      refine ((((hx6.trans hx12).trans hx1214)).newer hf15 fun y hy => ((r14.tl o.t).base hy).1).newer f16 fun y (hy : y = bw) => by omega
    have hb16 : rd w16 w6.heap.size 0 (eO o) := Fr.rd f16 (fun (e : w6.heap.size = bw) => by subst e; exact r12.mw.ne_blk hb12 rfl) hS15.2.1
    refine ⟨some bw, fun u hu => hu.1, o.t, fun u hu => hu.2.1.1, some bw, fun u hu => hu.1, o.t, fun u hu => hu.2.1.1, sAt lw o.t, fun u hu => hu.2.2, o.t, o.k, o.i, fun u hu => hu.2.1, rfl, by omega, s54, w14, e14, hS _ hx1214, s55, w15, e15, hS15, w16, hrun, ?_⟩
    have v1 := v.li.add hi v.lt hnin
    rw [hop] at v1
    have hother : ∀ u, u ≠ o.t → (setq st o.t (st.q o.t ++ [i])).q u = st.q u := fun u hu => by rw [setq_q, upq_other hu]
    have hquiet : ∀ u, u ≠ o.t → ∀ j r, (setq st o.t (st.q o.t ++ [i])).q u = j :: r → hit (setq st o.t (st.q o.t ++ [i])) (opA h j) = true := fun u hu j r hq => by
      rw [hother u hu] at hq; exact v.qt u j r hq
    have hown : (setq st o.t (st.q o.t ++ [i])).q o.t = st.q o.t ++ [i] := by rw [setq_q, upq_same]
    have hlA := lockA_eq (h := h) (st := st) (i := i)
    rw [hop] at hlA
    refine ⟨fun (c : Bool) w17 => RunX h w.heap.size w17 b (lockA h st i) ∧ (c = false → quiet h (lockA h st i)) ∧ Ext w w17, ?_, ?_⟩
    · rintro c w17 ⟨r17, hq17, hx17⟩
      have vA := v.li.lockA ho hi v.lt hnin
      refine Join.dir (cond_intro (fun hc => ?_) (fun hc => ?_))
      · have kA : HK h (lockA h st i) none := by
          intro x j r _ hq
          rw [hlA] at hq
          by_cases hq0 : st.q o.t = []
          · rw [if_pos hq0] at hq
            refine HK.goP (st := setq st o.t (st.q o.t ++ [i])) (t := o.t) (n := 1) ?_ ?_ x j r (by simp) hq
            · intro u j r hu hq; exact hit_kind (hquiet u (fun e => hu (by rw [e])) j r hq)
            · rw [hown, hq0]; simp
          · rw [if_neg hq0] at hq
            by_cases e : x = o.t
            · subst e
              have hne := hq0
              rw [hown] at hq
              cases hqo : st.q o.t with
              | nil => exact absurd hqo hne
              | cons j' l' =>
                rw [hqo] at hq
                simp at hq
                rw [← hq.1]
                exact hit_kind (v.qt o.t j' l' hqo)
            · exact hit_kind (hquiet x e j r hq)
        refine (c50 r17 ho hl vA kA).mono fun e w19 ⟨he, r19, f19⟩ => ⟨he, hK _ ?_ (hx17.newer f19 fun _ h => h)⟩
        rw [step_of ho hi v hnin]; exact r19
      · refine hK _ ?_ hx17
        rw [step_of ho hi v hnin, retry_same vA.gd (hq17 hc)]; exact r17
    · refine cond_intro (fun hc => ?_) (fun hc => ?_)
      · have hq0 : st.q o.t = [] := List.eq_nil_of_length_eq_zero (by simp at hc; omega)
        rw [if_pos hq0] at hlA
        have hl1 : ((setq st o.t (st.q o.t ++ [i])).q o.t).length = 1 := by rw [hown, hq0]; rfl
        refine ⟨o.t, hb16.1, ?_⟩
        refine (c49 ⟨_, _, _, _, _, _, _, r16⟩ ho hl v1 (t := o.t) fun u j r hu hq => hit_kind (hquiet u (fun e => hu (by rw [e])) j r hq)).mono fun e w20 ⟨c, he, r20, hg, f20⟩ => ⟨c, he, ?_, ?_, hx16.newer f20 fun _ h => h⟩
        · rw [hl1] at r20; rw [hlA]; exact r20
        · intro h0
          have := hg h0
          rw [hl1] at this
          rw [hlA]
          exact quiet_goP hquiet (by rw [hl1]; exact Nat.le_refl _) this
      · have hq0 : st.q o.t ≠ [] := by
          intro e; rw [e] at hwait; simp at hc hwait; omega
        rw [if_neg hq0] at hlA
        refine ⟨by rw [hlA]; exact ⟨_, _, _, _, _, _, _, r16⟩, fun _ => ?_, hx16⟩
        rw [hlA]
        intro u j r hq
        by_cases e : u = o.t
        · subst e
          rw [hown] at hq
          cases hqo : st.q o.t with
          | nil => exact absurd hqo hq0
          | cons j' l' =>
            rw [hqo] at hq
            simp at hq
            rw [← hq.1]
            exact v.qt o.t j' l' hqo
        · exact hquiet u e j r hq
  · rintro w6 ⟨r6, hx6⟩
    refine Let.intro fun w5 e5 => ?_
    have hx5 : Ext w6 w5 := by rw [e5]; exact Ext.drew _
    rw [hn] at r6
    obtain ⟨f, ms, sd, sa, bw, lw, kw, r6⟩ := r6
    have r5 := r6.ext hx5
    subst hb
    exact ⟨sd, r5.cd, sa, r5.ca, sd, sa, 0, rfl, .inr ⟨hval, r5.od, r5.oa, rfl⟩, hx6.trans hx5⟩
end Go.Proofs.Ytnbkihkdfhjlmaa
