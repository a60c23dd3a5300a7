/-
  Texts Eh, Se, Sf, Ei, Fa, Sg of this proof, joined.
-/
import Derived.Test.YtnbkihkdfhjlmaaWs5
import Derived.Test.YtnbkihkdfhjlmaaProg
import Derived.KernelRfl
/-
  Contracts: those that can go on go on (F50); Lock (F19).
-/
namespace Go.Proofs.Ytnbkihkdfhjlmaa
open Go Go.VC
set_option maxHeartbeats 1000000
set_option maxRecDepth 100000

/-- A transaction that can go on, with the place of its operation. -/
def ready (h : List Ev) (st : LS) (t : Int) (j : Nat) : Prop := ∃ l, st.q t = j :: l ∧ hit st (opA h j) = false
theorem next_of_ready {h : List Ev} {st : LS} (g : Gd h st) {t : Int} {j : Nat} (hr : ready h st t j) (hmin : ∀ u k, ready h st u k → j ≤ k) : nextP h st = some t := by
  obtain ⟨l, hq, hh⟩ := hr
  cases hn : nextP h st with
  | none =>
    have := (nextP_none g).1 hn t j l hq
    rw [hh] at this; cases this
  | some u =>
    obtain ⟨k, l', hk, hu, hqu, hhu, hmk⟩ := nextP_some hn
    have h1 := hmin u k ⟨l', hqu, hhu⟩
    obtain ⟨hjl, hjt⟩ := g.q t j (by rw [hq]; simp)
    rcases Nat.lt_or_ge j k with h2 | h2
    · have := hmk j h2
      unfold nextJ at this
      rw [hjt, hq] at this
      simp [hh] at this
    · have : j = k := by omega
      subst this
      rw [← hu, hjt]
theorem next_none_of {h : List Ev} {st : LS} (g : Gd h st) (hn : ∀ u k, ¬ ready h st u k) : nextP h st = none :=
  (nextP_none g).2 fun t j l hq => by
    cases hh : hit st (opA h j) with
    | true => rfl
    | false => exact absurd ⟨l, hq, hh⟩ (hn t j)
/-- The best of those that were looked at. -/
def Best (h : List Ev) (st : LS) (vis : List (Ent Int Sl)) (x : Int) : Prop := (x = 0 ∧ ∀ e ∈ vis, ∀ j, ¬ ready h st e.1 j) ∨ ∃ j, ready h st x j ∧ ∀ e ∈ vis, ∀ k, ready h st e.1 k → j ≤ k
theorem ready_inj {h : List Ev} {st : LS} {t : Int} {j k : Nat} (a : ready h st t j) (b : ready h st t k) : j = k := by
  obtain ⟨l, h1, _⟩ := a
  obtain ⟨l', h2, _⟩ := b
  rw [h1] at h2; cases h2; rfl
theorem Best.skip {h : List Ev} {st : LS} {vis : List (Ent Int Sl)} {x : Int} {e : Ent Int Sl} (b : Best h st vis x) (hn : ∀ j, ¬ ready h st e.1 j) : Best h st (vis ++ [e]) x := by
  rcases b with ⟨h1, h2⟩ | ⟨j, h1, h2⟩
  · exact .inl ⟨h1, fun y hy => by rcases List.mem_append.1 hy with hy | hy; exact h2 y hy; simp at hy; subst hy; exact hn⟩
  · exact .inr ⟨j, h1, fun y hy k hk => by rcases List.mem_append.1 hy with hy | hy; exact h2 y hy k hk; simp at hy; subst hy; exact absurd hk (hn k)⟩
theorem Best.first {h : List Ev} {st : LS} {vis : List (Ent Int Sl)} {e : Ent Int Sl} (b : Best h st vis 0) (h0 : ∀ j, ¬ ready h st 0 j) {k : Nat} (hk : ready h st e.1 k) : Best h st (vis ++ [e]) e.1 := by
  rcases b with ⟨_, h2⟩ | ⟨j, h1, _⟩
  · exact .inr ⟨k, hk, fun y hy m hm => by
      rcases List.mem_append.1 hy with hy | hy
      · exact absurd hm (h2 y hy m)
      · simp at hy; subst hy; rw [ready_inj hk hm]; exact Nat.le_refl _⟩
  · exact absurd h1 (h0 j)
theorem Best.better {h : List Ev} {st : LS} {vis : List (Ent Int Sl)} {x : Int} {e : Ent Int Sl} (b : Best h st vis x) {j k : Nat} (hj : ready h st x j) (hk : ready h st e.1 k) (hlt : k < j) : Best h st (vis ++ [e]) e.1 := by
  refine .inr ⟨k, hk, fun y hy m hm => ?_⟩
  rcases List.mem_append.1 hy with hy | hy
  · rcases b with ⟨_, h2⟩ | ⟨j', h1, h2⟩
    · exact absurd hm (h2 y hy m)
    · have := ready_inj hj h1
      have := h2 y hy m hm
      omega
  · simp at hy; subst hy; rw [ready_inj hk hm]; exact Nat.le_refl _
theorem Best.worse {h : List Ev} {st : LS} {vis : List (Ent Int Sl)} {x : Int} {e : Ent Int Sl} (b : Best h st vis x) {j k : Nat} (hj : ready h st x j) (hk : ready h st e.1 k) (hle : j ≤ k) : Best h st (vis ++ [e]) x := by
  refine .inr ⟨j, hj, fun y hy m hm => ?_⟩
  rcases List.mem_append.1 hy with hy | hy
  · rcases b with ⟨_, h2⟩ | ⟨j', h1, h2⟩
    · exact absurd hm (h2 y hy m)
    · have := ready_inj hj h1
      have := h2 y hy m hm
      omega
  · simp at hy; subst hy; have := ready_inj hk hm; omega

theorem c50 {h : List Ev} {B : Nat} {w : World} {b : Nat} {st : LS} (r : RunX h B w b st) (ho : OkH h) (hlen : h.length ≤ 1000) {i : Nat} (v : LI h i st) (hk : HK h st none) :
    Calls Try.prog 50 [.pointer (some ⟨b, 0, none⟩)].toArray w fun e w' => e = .returned (.tuple [].toArray) ∧ RunX h B w' b (retryP h (total st) st) ∧ Fr (fun y => B ≤ y) w w' := by
  refine (call50 ⟨b, 0⟩ (R := fun u w' => u = .tuple [].toArray ∧ RunX h B w' b (retryP h (total st) st) ∧ Fr (fun y => B ≤ y) w w') ?_).mono fun e w' ⟨u, he, hu, hx⟩ => ⟨by rw [he, hu], hx⟩
  refine Join.dir (LoopV.intro (fun n w2 => ∃ st1, RunX h B w2 b st1 ∧ LI h i st1 ∧ HK h st1 none ∧ retryP h (total st1) st1 = retryP h (total st) st ∧ n = total st1 ∧ Fr (fun y => B ≤ y) w w2) (total st)
    ⟨st, r, v, hk, rfl, rfl, Fr.refl _ _⟩ ?_)
  rintro n w2 ⟨st1, r1X, v1, k1, hre, rfl, hfr⟩
  obtain ⟨f, ms, sd, sa, bw, lw, kw, r1⟩ := r1X
  obtain ⟨w4, hr4, hx4, hit4, hm4⟩ := range_run (κ := Int) (β := Sl) (P := Try.prog) u83 r1.mw
  refine Join.dir ⟨some bw, r1.cw, ⟨w2.heap.size, 0⟩, w4, hr4, ?_⟩
  have h0 : ∀ j, ¬ ready h st1 0 j := fun j ⟨l, hq, _⟩ => by have := v1.gd.range ho hq; omega
  refine ⟨fun (x : Int) w5 => (x = 0 ∧ nextP h st1 = none ∨ x ≠ 0 ∧ nextP h st1 = some x) ∧ Ext w2 w5, ?_, ?_⟩
  · rintro x w5 ⟨hx, hx5⟩
    rcases hx with ⟨rfl, hn⟩ | ⟨hx0, hn⟩
    · refine cond_intro (fun _ => ⟨rfl, ?_, hfr.ext hx5⟩) (fun hc => by simp at hc)
      rw [← hre, retry_same v1.gd ((nextP_none v1.gd).1 hn)]
      exact ⟨_, _, _, _, _, _, _, r1.ext hx5⟩
    · refine cond_intro (fun hc => absurd (by simpa using hc) hx0) (fun _ => ?_)
      refine (c49 ⟨_, _, _, _, _, _, _, r1.ext hx5⟩ ho hlen v1 (k1.mono (some x))).mono fun e w6 ⟨c, he, r6, _, hfr6⟩ => ⟨c, he, ?_⟩
      refine ⟨total (goP h x (st1.q x).length st1), next_total ho v1.gd hn, _, r6, v1.goP ho _, (k1.mono (some x)).goP (Nat.le_refl _), ?_, rfl, (hfr.ext hx5).trans hfr6 fun _ _ h => h⟩
      rw [← hre, retry_step ho v1.gd hn]
  · refine rangeM (P := Try.prog) (k := .int .i64) (fun vis (x : Int) w' => Ext w2 w' ∧ Best h st1 vis x) hm4 hit4 ⟨hx4, .inl ⟨rfl, by simp⟩⟩ ?_ ?_ ?_
    · rintro vis x w' w'' ⟨h1, h2⟩ hf
      exact ⟨h1.newer hf fun y (hy : y = w2.heap.size) => by omega, h2⟩
    · rintro vis ⟨k, sv, stamp⟩ x w8 hxl hxv hvn hvl hvlt ⟨hx8, hbest⟩ hmp8 hrb hent K hK
      have hsv : sAt lw k = sv := by unfold sAt; rw [mget_some r1.mw.keys hxl]; rfl
      subst hsv
      have r8 := r1.ext hx8
      have hlk := r8.len k
      refine ⟨k, sAt lw k, hent, ?_⟩
      refine ⟨fun (c : Bool) w10 => (c = true → ∀ j, ¬ ready h st1 k j) ∧ (c = false → ∃ j, ready h st1 k j) ∧ Ext w8 w10, ?_, ?_⟩
      · rintro c w10 ⟨hc1, hc2, hx10⟩
        refine cond_intro (fun hc => ?_) (fun hc => ?_)
        · exact hK _ _ ⟨hx8.trans hx10, hbest.skip (e := (k, sAt lw k, stamp)) (hc1 hc)⟩ (hx10.mono fun _ _ h => h.elim)
        · obtain ⟨j, hj⟩ := hc2 hc
          have hjr := hj
          obtain ⟨l, hq, hh⟩ := hjr
          refine ⟨fun (d : Bool) w11 => Best h st1 (vis ++ [(k, sAt lw k, stamp)]) (if d = true then k else x) ∧ Ext w8 w11, ?_, ?_⟩
          · rintro d w11 ⟨hb, hx11⟩
            refine Join.dir (cond_intro (fun hd => ?_) (fun hd => ?_))
            · rw [if_pos hd] at hb
              exact hK _ _ ⟨hx8.trans hx11, hb⟩ (hx11.mono fun _ _ h => h.elim)
            · rw [if_neg (by rw [hd]; simp)] at hb
              exact hK _ _ ⟨hx8.trans hx11, hb⟩ (hx11.mono fun _ _ h => h.elim)
          · refine Let.intro fun w13 e13 => ?_
            have hx13 : Ext w8 w13 := hx10.trans (by rw [e13]; exact Ext.drew _)
            refine cond_intro (fun hc => ⟨?_, hx13⟩) (fun hc => ?_)
            · have : x = 0 := by simpa using hc
              subst this
              exact hbest.first (e := (k, sAt lw k, stamp)) h0 hj
            · have hx0 : x ≠ 0 := by simpa using hc
              have r13 := r1.ext (hx8.trans hx13)
              obtain ⟨jx, hjx⟩ : ∃ jx, ready h st1 x jx := by
                rcases hbest with ⟨h1, _⟩ | ⟨jx, h1, _⟩
                · exact absurd h1 hx0
                · exact ⟨jx, h1⟩
              have hjx2 := hjx
              obtain ⟨lx, hqx, _⟩ := hjx2
              obtain ⟨p, hp, a1, a2, hr⟩ := r13.head hq
              obtain ⟨p', hp', b1, b2, hr'⟩ := r13.head hqx
              refine ⟨p, hp, a1, a2, (j : Int), by simpa [eH, hd] using rd_get (i := 3) hr rfl, some bw, r13.cw, sAt lw x, lookH r13.mw x, p', hp', b1, b2, (jx : Int), by simpa [eH, hd] using rd_get (i := 3) hr' rfl, ?_, hx13⟩
              by_cases hlt : j < jx
              · rw [if_pos (by simpa using hlt)]; exact hbest.better (e := (k, sAt lw k, stamp)) hjx hj hlt
              · rw [if_neg (by simpa using hlt)]; exact hbest.worse (e := (k, sAt lw k, stamp)) hjx hj (by omega)
      · refine ⟨fun u => Ext w8 u, Ext.drew _, Let.intro fun w14 e14 => ?_⟩
        have hx14 : Ext w8 w14 := by rw [e14]; exact Ext.drew _
        refine cond_intro (fun hc => ⟨fun _ j ⟨l, hq, _⟩ => ?_, (fun h => by cases h), hx14⟩) (fun hc => ?_)
        · rw [hq] at hlk; simp at hc hlk; omega
        · obtain ⟨j, l, hq⟩ : ∃ j l, st1.q k = j :: l := by
            cases hq : st1.q k with
            | nil => rw [hq] at hlk; simp at hc hlk; omega
            | cons j l => exact ⟨j, l, rfl⟩
          have hoj := ho.at (v1.gd.q k j (by rw [hq]; simp)).1
          obtain ⟨p, hp, a1, a2, hr⟩ := r8.head hq
          have hhd : ∀ u, Ext w8 u → rd u p.b p.o (eH (hd h j)) := fun u hu => by
            obtain ⟨p', hp', _, _, hr'⟩ := (r8.ext hu).head hq
            rw [hp] at hp'
            have e : (⟨p.b, p.o, none⟩ : Addr) = ⟨p'.b, p'.o, none⟩ := Option.some.inj hp'
            have e1 : p.b = p'.b := congrArg Addr.block e
            have e2 : p.o = p'.o := congrArg Addr.off e
            rw [← e1, ← e2] at hr'; exact hr'
          refine ⟨p, hp, a1, a2, (opA h j).k, fun u hu => by simpa [eH, hd] using rd_get (i := 1) (hhd u hu) rfl, cond_intro (fun hc2 => ?_) (fun hc2 => ?_)⟩
          · have hkk : (opA h j).k ≤ 1 := by simpa using hc2
            refine ⟨p, hp, a1, a2, (opA h j).t, (opA h j).k, (opA h j).i, fun u hu => by simpa [eO, hd] using head_op (hhd u hu), ?_⟩
            refine (c79 (r8.ext hx14).lk v1.gd hoj hkk).mono fun e w15 ⟨s33, ls, he, ho33, hml, hll, hx15⟩ => ⟨s33, he, hx14.trans hx15, ?_, ?_, hx14.trans hx15⟩
            · intro hc3 j' ⟨l', hq', hh'⟩
              rw [hq] at hq'
              cases hq'
              have := (mem_hit v1.gd hml).1 (by have := ho33.sli.len; simp at hc3; omega)
              rw [hh'] at this; cases this
            · intro hc3
              refine ⟨j, l, hq, Bool.eq_false_iff.2 fun hh => ?_⟩
              have := (mem_hit v1.gd hml).2 hh
              have := ho33.sli.len
              simp at hc3; omega
          · have hkk : 1 < (opA h j).k := by simp at hc2; omega
            exact ⟨(fun h => by cases h), fun _ => ⟨j, l, hq, hit_big hkk⟩, hx14⟩
    · rintro vis x w8 hall hvn hvl ⟨hx8, hbest⟩ hmp8
      refine ⟨?_, hx8⟩
      have hin : ∀ u j, ready h st1 u j → ∃ e ∈ vis, e.1 = u := fun u j ⟨l, hq, _⟩ => by
        have hl := r1.len u
        cases hm : mget lw u with
        | none => unfold sAt at hl; rw [hm, hq] at hl; simp [nilS] at hl
        | some s =>
          obtain ⟨c', hc'⟩ := mget_mem hm
          exact ⟨_, hall _ hc', rfl⟩
      rcases hbest with ⟨h1, h2⟩ | ⟨j, h1, h2⟩
      · refine .inl ⟨h1, next_none_of v1.gd fun u k hk => ?_⟩
        obtain ⟨e, he, rfl⟩ := hin u k hk
        exact h2 e he k hk
      · refine .inr ⟨fun e => by subst e; exact h0 j h1, next_of_ready v1.gd h1 fun u k hk => ?_⟩
        obtain ⟨e, he, rfl⟩ := hin u k hk
        exact h2 e he k hk

theorem quiet_HK {h : List Ev} {st : LS} (q : quiet h st) : HK h st none := fun x j r _ hq => hit_kind (q x j r hq)
/-- A queue grew: the slice was appended to, maybe in place. -/
theorem Run.grow {h : List Ev} {B : Nat} {w w1 : World} {b : Nat} {st : LS} {f : Nat → Value} {ms : Nat → Option Nat} {sd sa : Sl} {bw : Nat} {lw : List (Ent Int Sl)} {kw : Nat} (r : Run h B w b st f ms sd sa bw lw kw) (t : Int)
    (hf : Fr (Rm (sAt lw t)) w w1) {l : List Nat} {s : Sl} (ht : Tl 92 4 eH B w1 s (l.map (hd h))) (hsep : ∀ u, u ≠ t → ∀ y, Rm s y → ¬ Rm (sAt lw u) y) :
    ∃ w' c', (Instr.mapUpdate 83 (.map (some bw)) (.int .i64 t) (.slice s.a s.n s.c)).run Try.prog w1 = .ok () w' ∧ Run h B w' b (setq st t l) f ms sd sa bw (mput lw kw t s) c' ∧ Fr (fun y => y = bw) w1 w' := by
  have hblk : ∀ y, Rm (sAt lw t) y → ∃ cur, Blk w y cur 92 := fun y hy => ((r.tl t).base hy).2.2
  have hm1 : Mp kI kS w1 bw lw kw := r.mw.fr hf fun hy => by obtain ⟨cur, hc⟩ := hblk _ hy; exact r.mw.ne_blk hc rfl
  have k1 : Lk B w1 b st f ms := r.lk.fr hf fun y hy hy2 => by obtain ⟨cur, hc⟩ := hblk _ hy2; exact r.lk.not_cells hc (by decide) hy
  have od1 : Own 38 3 eO B w1 sd st.dn := r.od.fr hf fun a ha hy => by
    obtain ⟨cur, hc⟩ := hblk _ hy
    obtain ⟨cur', hc'⟩ := r.od.blk ha
    exact Blk.ne_ty hc hc' (by decide) rfl
  have oa1 : Own 3 1 eI B w1 sa st.ab := r.oa.fr hf fun a ha hy => by
    obtain ⟨cur, hc⟩ := hblk _ hy
    obtain ⟨cur', hc'⟩ := r.oa.blk ha
    exact Blk.ne_ty hc hc' (by decide) rfl
  have tl1 : ∀ u, u ≠ t → Tl 92 4 eH B w1 (sAt lw u) ((st.q u).map (hd h)) := fun u hu => (r.tl u).fr hf fun y hy hy2 => r.sep u t hu y hy hy2
  obtain ⟨w', c', hrun, hmp, hfr⟩ := put_run K3 u83 hm1 t s
  have hcells : ∀ {y T : Nat} {cur : List Value}, Blk w1 y cur T → y ≠ bw := fun hb e => by subst e; exact hm1.ne_blk hb rfl
  refine ⟨w', c', hrun, ⟨(k1.fr hfr fun y hy e => ?_).congr (fun _ _ _ => rfl) (fun _ _ _ => rfl), r.fd, r.fa, r.fw, ?_, ?_, r.bwB, hmp, r.bm, fun u => ?_, fun u v huv y h1 h2 => ?_⟩, hfr⟩
  · rcases hy with h1 | ⟨i, hi, hm⟩
    · exact hcells k1.fb (h1.symm.trans e)
    · rw [e] at hm; exact r.bm i hi hm
  · exact od1.fr hfr fun a ha => by obtain ⟨cur, hc⟩ := od1.blk ha; exact hcells hc
  · exact oa1.fr hfr fun a ha => by obtain ⟨cur, hc⟩ := oa1.blk ha; exact hcells hc
  · rw [sAt_mput, setq_q]
    by_cases e : u = t
    · subst e
      rw [if_pos rfl, upq_same]
      exact ht.fr hfr fun y hy => by obtain ⟨_, _, cur, hc⟩ := ht.base hy; exact hcells hc
    · rw [if_neg e, upq_other e]
      exact (tl1 u e).fr hfr fun y hy => by obtain ⟨_, _, cur, hc⟩ := (tl1 u e).base hy; exact hcells hc
  · rw [sAt_mput] at h1 h2
    by_cases e : u = t
    · subst e
      rw [if_pos rfl] at h1
      rw [if_neg (fun h => huv h.symm)] at h2
      exact hsep v (fun h => huv h.symm) y h1 h2
    · rw [if_neg e] at h1
      by_cases e' : v = t
      · subst e'
        rw [if_pos rfl] at h2
        exact hsep u e y h2 h1
      · rw [if_neg e'] at h2
        exact r.sep u v huv y h1 h2
/-- Whatever was done with an operation: once all who can go on have gone on, the step is made. -/
theorem step_of {h : List Ev} (ho : OkH h) {i : Nat} (hi : i < h.length) {st : LS} (v : LJ h i st) (hn : (opA h i).t ∉ st.ab) : lockStep h st i = retryP h (total (lockA h st i)) (lockA h st i) := by
  unfold lockStep
  exact if_neg hn
theorem c19 {w : World} {s : Sl} {h : List Ev} (hs : Hs w s h) (hl : h.length ≤ 1000) :
    Calls Try.prog 19 [.slice s.a s.n s.c].toArray w fun e w' => ∃ (s1 s2 : Sl) (x : Int), e = .returned (.tuple [.slice s1.a s1.n s1.c, .slice s2.a s2.n s2.c, .int .i64 x].toArray) ∧
      ((¬ Valid h ∧ s1.n = 0 ∧ s2.n = 0 ∧ x = 2) ∨ (Valid h ∧ Own 38 3 eO w.heap.size w' s1 (lockP h).dn ∧ Own 3 1 eI w.heap.size w' s2 (lockP h).ab ∧ x = 0)) ∧ Ext w w' := by
  refine (call19 s (R := fun v w' => ∃ (s1 s2 : Sl) (x : Int), v = (.tuple [.slice s1.a s1.n s1.c, .slice s2.a s2.n s2.c, .int .i64 x].toArray) ∧
      ((¬ Valid h ∧ s1.n = 0 ∧ s2.n = 0 ∧ x = 2) ∨ (Valid h ∧ Own 38 3 eO w.heap.size w' s1 (lockP h).dn ∧ Own 3 1 eI w.heap.size w' s2 (lockP h).ab ∧ x = 0)) ∧ Ext w w') ?_).mono fun e w' ⟨v, he, s1, s2, x, hv, hx⟩ => ⟨s1, s2, x, by rw [he, hv], hx⟩
  have hbig : h.length ≤ big := by show h.length ≤ 9223372036854775807; omega
  refine (c26 hs hbig).mono fun e w1 ⟨he, hx1⟩ => ⟨_, he, cond_intro (fun hc => ?_) (fun hc => ?_)⟩
  · have hc : ¬ Valid h := by simpa using hc
    exact ⟨⟨none, 0, 0⟩, ⟨none, 0, 0⟩, 2, rfl, .inl ⟨hc, rfl, rfl, rfl⟩, hx1⟩
  have hval : Valid h := by simpa using hc
  have ho : OkH h := hval.1.1
  have hn := hs.len
  refine Let.intro fun w2 e2 => Let.intro fun w3 e3 => ?_
  have hx2 : Ext w1 w2 := by rw [e2]; exact Ext.alloc ..
  have hm2 : Mp kI kS w2 w1.heap.size ([] : List (Ent Int Sl)) 0 := by rw [e2]; exact Mp.made w1
  have hx3 : Ext w2 w3 := by rw [e3]; exact Ext.alloc ..
  have hx03 := (hx1.trans hx2).trans hx3
  have z1 := hx1.size
  have z2 := hx2.size
  have z3 := hx3.size
  have hlt2 := hm2.bound
  have hfb : FB w3 w2.heap.size 15 (fun i => ([(.map none), (.map none), (.map none), (.map none), (.map none), (.map none), (.int .i64 (0 : Int)), (.int .i64 (0 : Int)), (.int .i64 (0 : Int)), (.int .i64 (0 : Int)), (.int .i64 (0 : Int)), (.int .i64 (0 : Int)), (.slice none 0 0), (.slice none 0 0), (.map (some w1.heap.size))] : List Value).getD i undef) 89 := by
    rw [e3]; exact FB.alloc w2 _ 89
  have hr3 : RunX h w.heap.size w3 w2.heap.size LS.init := by
    refine ⟨_, fun _ => none, ⟨none, 0, 0⟩, ⟨none, 0, 0⟩, w1.heap.size, [], 0, ⟨⟨hfb, by omega, fun i hi => ?_, fun _ _ _ _ => rfl, fun i hi m hm => (by cases hm), fun i j hi hj m hm => (by cases hm), fun i hi => ⟨0, ?_, fun x => ?_⟩⟩, rfl, rfl, rfl, Own.nil .., Own.nil .., z1, hm2.ext hx3, fun i hi hm => (by cases hm), fun t => Tl.nil .., fun t u _ y hy => ?_⟩⟩
    · have : i = 0 ∨ i = 1 ∨ i = 2 ∨ i = 3 ∨ i = 4 ∨ i = 5 := by omega
      rcases this with rfl | rfl | rfl | rfl | rfl | rfl <;> rfl
    · have : i = 0 ∨ i = 1 ∨ i = 2 ∨ i = 3 ∨ i = 4 ∨ i = 5 := by omega
      rcases this with rfl | rfl | rfl | rfl | rfl | rfl <;> rfl
    · simp [LS.init]
    · exact absurd hy.1 (Nat.lt_irrefl _)
  generalize hb : w2.heap.size = b at hr3
  refine Join.dir (rangeI (fun i w' => RunX h w.heap.size w' b (lockN h i) ∧ Ext w w') (by rw [hn]; exact hbig) ⟨hr3, hx03⟩ ?_ ?_)
  · rintro i hi w6 ⟨r6, hx6⟩ K hK
    have hi : i < h.length := by omega
    have v := lockN_lj ho i (by omega)
    have hK : ∀ w', RunX h w.heap.size w' b (lockStep h (lockN h i) i) → Ext w w' → K w' := fun w' h1 h2 => hK w' ⟨h1, h2⟩
    generalize hst : lockN h i = st at r6 v hK
    refine loadEv (hs.ext hx6) hi zc38 fun w9 hb9 hx9 => Let.intro fun w10 e10 => ?_
    have hx10 : Ext w6 w10 := hx9.trans (by rw [e10]; exact Ext.drew _)
    have hb10 : Blk w10 w6.heap.size (eO h[i]) 38 := hb9.ext (by rw [e10]; exact Ext.drew _)
    obtain ⟨f, ms, sd, sa, bw, lw, kw, r6⟩ := r6
    have hopA := opA_at hi
    rw [← hopA] at hb10
    have hoi := ho.at hi
    generalize hop : opA h i = o at hb10 hoi
    have r10 := r6.ext hx10
    have hab := v.li.ab_len
    refine ⟨sa, r10.ca, o.t, hb10.cell 0, ?_⟩
    refine (c28 r10.oa.sli o.t (by show st.ab.length ≤ 9223372036854775807; omega)).mono fun e w11 ⟨he, hx11⟩ => ⟨_, he, ?_⟩
    refine cond_intro (fun hc => ?_) (fun hc => ?_)
    · have hin : (opA h i).t ∈ st.ab := by rw [hop]; simpa using hc
      refine hK _ ?_ ((hx6.trans hx10).trans hx11)
      unfold lockStep
      rw [if_pos hin]
      exact ⟨_, _, _, _, _, _, _, r10.ext hx11⟩
    have hnin : (opA h i).t ∉ st.ab := by rw [hop]; simpa using hc
    refine Let.intro fun w12 e12 => ?_
    have hx12 : Ext w6 w12 := (hx10.trans hx11).trans (by rw [e12]; exact Ext.drew _)
    have hb12 : Blk w12 w6.heap.size (eO o) 38 := (hb10.ext hx11).ext (by rw [e12]; exact Ext.drew _)
    have r12 := r6.ext hx12
    have hwait := r12.len o.t
    refine ⟨some bw, r12.cw, o.t, hb12.cell 0, sAt lw o.t, lookH r12.mw o.t, ?_⟩
    have hS : ∀ u, Ext w12 u → World.cell? u ⟨b, 14, none⟩ = some (.map (some bw)) ∧ rd u w6.heap.size 0 (eO o) ∧ Sem.run Try.prog (Instr.lookup 83 (.map (some bw)) (.int .i64 o.t) false) u = .ok (.slice (sAt lw o.t).a (sAt lw o.t).n (sAt lw o.t).c) u := fun u hu =>
      ⟨(r12.ext hu).cw, (hb12.ext hu).rd, lookH (r12.ext hu).mw o.t⟩
    refine ⟨fun u => World.cell? u ⟨b, 14, none⟩ = some (.map (some bw)) ∧ rd u w6.heap.size 0 (eO o) ∧ Sem.run Try.prog (Instr.lookup 83 (.map (some bw)) (.int .i64 o.t) false) u = .ok (.slice (sAt lw o.t).a (sAt lw o.t).n (sAt lw o.t).c) u, hS _ (Ext.drew _), Let.intro fun w13 e13 => ?_⟩
    have hx13 : Ext w12 w13 := by rw [e13]; exact Ext.drew _
    have r13 := r12.ext hx13
    have hql : (st.q o.t).length ≤ i := by
      have h1 : (st.q o.t).Nodup := (v.li.gd.srt o.t).imp fun h e => by omega
      have := h1.length_le_of_subset (l₂ := List.range i) fun j hj => by simpa using v.lt _ j hj
      simpa using this
    obtain ⟨s54, w14, e14, hx14, s55, w15, e15, ht15, hf15, hwh⟩ := Tl.append E90 (r13.tl o.t) (x := (o, (i : Int))) (v := .agg [.int .i64 o.t, .int .i64 o.k, .int .i64 o.i, .int .i64 (i : Int)].toArray) rfl eH_len eH_one (by omega) (by simp; omega) (by simp [maxLen]; omega) r13.hB 90
    have r14 := r13.ext hx14
    have hx1214 := hx13.trans hx14
    have hRm : ∀ y, Rm (sAt lw o.t) y → ∃ cur, Blk w14 y cur 92 := fun y hy => ((r14.tl o.t).base hy).2.2
    have hb14 := hb12.ext hx1214
    have hS15 : World.cell? w15 ⟨b, 14, none⟩ = some (.map (some bw)) ∧ rd w15 w6.heap.size 0 (eO o) ∧ Sem.run Try.prog (Instr.lookup 83 (.map (some bw)) (.int .i64 o.t) false) w15 = .ok (.slice (sAt lw o.t).a (sAt lw o.t).n (sAt lw o.t).c) w15 := by
      refine ⟨hf15.cell (a := ⟨b, 14, none⟩) (fun hy => ?_) r14.cw, Fr.rd hf15 (fun hy => ?_) hb14.rd, lookH (r14.mw.fr hf15 fun hy => ?_) o.t⟩
      · obtain ⟨cur, hc⟩ := hRm _ hy; exact Blk.ne_ty hc r14.lk.fb (by decide) rfl
      · obtain ⟨cur, hc⟩ := hRm _ hy; exact Blk.ne_ty hc hb14 (by decide) rfl
      · obtain ⟨cur, hc⟩ := hRm _ hy; exact r14.mw.ne_blk hc rfl
    have hmap : (st.q o.t).map (hd h) ++ [(o, (i : Int))] = (st.q o.t ++ [i]).map (hd h) := by rw [List.map_append]; unfold hd; simp [hop]
    rw [hmap] at ht15
    obtain ⟨w16, c16, hrun, r16, f16⟩ := r14.grow o.t hf15 ht15 fun u hu y hy hy2 => by
      rcases hwh with hwh | hwh
      · exact r14.sep u o.t hu y hy2 (hwh y hy)
      · have h1 := hwh y hy
        have h2 := ((r13.tl u).base hy2).2.1
        omega
    have hbw := r12.bwB
    have hx16 : Ext w w16 := by
      refine ((((hx6.trans hx12).trans hx1214)).newer hf15 fun y hy => ((r14.tl o.t).base hy).1).newer f16 fun y (hy : y = bw) => by omega
    have hb16 : rd w16 w6.heap.size 0 (eO o) := Fr.rd f16 (fun (e : w6.heap.size = bw) => by subst e; exact r12.mw.ne_blk hb12 rfl) hS15.2.1
    refine ⟨some bw, fun u hu => hu.1, o.t, fun u hu => hu.2.1.1, some bw, fun u hu => hu.1, o.t, fun u hu => hu.2.1.1, sAt lw o.t, fun u hu => hu.2.2, o.t, o.k, o.i, fun u hu => hu.2.1, rfl, by omega, s54, w14, e14, hS _ hx1214, s55, w15, e15, hS15, w16, hrun, ?_⟩
    have v1 := v.li.add hi v.lt hnin
    rw [hop] at v1
    have hother : ∀ u, u ≠ o.t → (setq st o.t (st.q o.t ++ [i])).q u = st.q u := fun u hu => by rw [setq_q, upq_other hu]
    have hquiet : ∀ u, u ≠ o.t → ∀ j r, (setq st o.t (st.q o.t ++ [i])).q u = j :: r → hit (setq st o.t (st.q o.t ++ [i])) (opA h j) = true := fun u hu j r hq => by
      rw [hother u hu] at hq; exact v.qt u j r hq
    have hown : (setq st o.t (st.q o.t ++ [i])).q o.t = st.q o.t ++ [i] := by rw [setq_q, upq_same]
    have hlA := lockA_eq (h := h) (st := st) (i := i)
    rw [hop] at hlA
    refine ⟨fun (c : Bool) w17 => RunX h w.heap.size w17 b (lockA h st i) ∧ (c = false → quiet h (lockA h st i)) ∧ Ext w w17, ?_, ?_⟩
    · rintro c w17 ⟨r17, hq17, hx17⟩
      have vA := v.li.lockA ho hi v.lt hnin
      refine Join.dir (cond_intro (fun hc => ?_) (fun hc => ?_))
      · have kA : HK h (lockA h st i) none := by
          intro x j r _ hq
          rw [hlA] at hq
          by_cases hq0 : st.q o.t = []
          · rw [if_pos hq0] at hq
            refine HK.goP (st := setq st o.t (st.q o.t ++ [i])) (t := o.t) (n := 1) ?_ ?_ x j r (by simp) hq
            · intro u j r hu hq; exact hit_kind (hquiet u (fun e => hu (by rw [e])) j r hq)
            · rw [hown, hq0]; simp
          · rw [if_neg hq0] at hq
            by_cases e : x = o.t
            · subst e
              have hne := hq0
              rw [hown] at hq
              cases hqo : st.q o.t with
              | nil => exact absurd hqo hne
              | cons j' l' =>
                rw [hqo] at hq
                simp at hq
                rw [← hq.1]
                exact hit_kind (v.qt o.t j' l' hqo)
            · exact hit_kind (hquiet x e j r hq)
        refine (c50 r17 ho hl vA kA).mono fun e w19 ⟨he, r19, f19⟩ => ⟨he, hK _ ?_ (hx17.newer f19 fun _ h => h)⟩
        rw [step_of ho hi v hnin]; exact r19
      · refine hK _ ?_ hx17
        rw [step_of ho hi v hnin, retry_same vA.gd (hq17 hc)]; exact r17
    · refine cond_intro (fun hc => ?_) (fun hc => ?_)
      · have hq0 : st.q o.t = [] := List.eq_nil_of_length_eq_zero (by simp at hc; omega)
        rw [if_pos hq0] at hlA
        have hl1 : ((setq st o.t (st.q o.t ++ [i])).q o.t).length = 1 := by rw [hown, hq0]; rfl
        refine ⟨o.t, hb16.1, ?_⟩
        refine (c49 ⟨_, _, _, _, _, _, _, r16⟩ ho hl v1 (t := o.t) fun u j r hu hq => hit_kind (hquiet u (fun e => hu (by rw [e])) j r hq)).mono fun e w20 ⟨c, he, r20, hg, f20⟩ => ⟨c, he, ?_, ?_, hx16.newer f20 fun _ h => h⟩
        · rw [hl1] at r20; rw [hlA]; exact r20
        · intro h0
          have := hg h0
          rw [hl1] at this
          rw [hlA]
          exact quiet_goP hquiet (by rw [hl1]; exact Nat.le_refl _) this
      · have hq0 : st.q o.t ≠ [] := by
          intro e; rw [e] at hwait; simp at hc hwait; omega
        rw [if_neg hq0] at hlA
        refine ⟨by rw [hlA]; exact ⟨_, _, _, _, _, _, _, r16⟩, fun _ => ?_, hx16⟩
        rw [hlA]
        intro u j r hq
        by_cases e : u = o.t
        · subst e
          rw [hown] at hq
          cases hqo : st.q o.t with
          | nil => exact absurd hqo hq0
          | cons j' l' =>
            rw [hqo] at hq
            simp at hq
            rw [← hq.1]
            exact v.qt o.t j' l' hqo
        · exact hquiet u e j r hq
  · rintro w6 ⟨r6, hx6⟩
    refine Let.intro fun w5 e5 => ?_
    have hx5 : Ext w6 w5 := by rw [e5]; exact Ext.drew _
    rw [hn] at r6
    obtain ⟨f, ms, sd, sa, bw, lw, kw, r6⟩ := r6
    have r5 := r6.ext hx5
    subst hb
    exact ⟨sd, r5.cd, sa, r5.ca, sd, sa, 0, rfl, .inr ⟨hval, r5.od, r5.oa, rfl⟩, hx6.trans hx5⟩
end Go.Proofs.Ytnbkihkdfhjlmaa
/-
  Printed by a program of this session (wip/tools/vcprint.py): of each Go function the shallow form, and that the calculus comes to it, by the kernel.
-/
namespace Go.Proofs.Ytnbkihkdfhjlmaa
open Go Go.VC
set_option maxRecDepth 100000

/-- F80: (*cubeb/cubebref05.table).hinders -/
def An80 : An := (.sq .lf (.sq .lf (.sq (.sq .lf (.bk [(5, .slice)] (.lp [(5, .slice), (6, .int .i64)] (.sq (.sq .lf (.cd .lf .lf)) (.sq (.bk [(5, .slice)] (.sq (.dr [0, 1, 2, 3, 4, 5, 6, 7, 8, 9, 10, 11, 12, 13, 14, 15, 16, 17, 18, 19, 20, 21, 22, 23, 24, 25, 26, 27, 28, 29, 30, 31, 32, 33, 34, 35] [] false (some [(46, .bool)])) (.cj [(5, .slice)] .lf .lf))) .lf))))) (.sq .lf .lf))))
def S80 (p0 : Pt) (x1_0 : Int) (x1_1 : Int) (x1_2 : Int) (R : Value → World → Prop) (w : World) : Prop :=
  Let (w.alloc (.cells [(.int .i64 x1_0), (.int .i64 x1_1), (.int .i64 x1_2)].toArray 37)) fun w1 => 
  Join [(5, .slice)] (fun (s5 : Sl) (w2 : World) => R (.slice s5.a s5.n s5.c) w2) (fun J =>
  LoopV [(5, .slice), (6, .int .i64)] (fun K => K ⟨none, 0, 0⟩ (1 : Int) w1) (fun N => fun (s5_2 : Sl) (x6 : Int) (w3 : World) =>
  cond (decide (x6 ≤ (6 : Int))) (
  Join [(5, .slice)] (fun (s5_3 : Sl) (w4 : World) => N ⟨s5_3.a, s5_3.n, s5_3.c⟩ (IntKind.wrap .i64 (x6 + (1 : Int))) w4) (fun J_2 =>
  Join [(46, .bool)] (fun (b46 : Bool) (w5 : World) => Join [(5, .slice)] (fun (s5_4 : Sl) (w6 : World) => J_2 ⟨s5_4.a, s5_4.n, s5_4.c⟩ w6) (fun J_3 =>
  cond b46 (
  ∃ (s49 : Sl) (w7 : World), Sem.run Try.prog (Instr.buildSlice 24 1 [(0, (.int .i64 x6))].toArray) w5 = .ok (.slice s49.a s49.n s49.c) w7 ∧
  ∃ (s50 : Sl) (w8 : World), Sem.run Try.prog (Builtin.append_ #[24, 24] 24 #[(.slice s5_2.a s5_2.n s5_2.c), (.slice s49.a s49.n s49.c)]) w7 = .ok (.slice s50.a s50.n s50.c) w8 ∧
  J_3 ⟨s50.a, s50.n, s50.c⟩ w8) (
  J_3 ⟨s5_2.a, s5_2.n, s5_2.c⟩ w5))) (fun J_4 =>
  Let w3.drew fun w9 =>
  ∃ x13 : Int, World.cell? w9 ⟨w.heap.size, (0 + 0), none⟩ = some (.int .i64 x13) ∧ cond (x6 != x13) (∃ x17 : Int, World.cell? w9 ⟨w.heap.size, (0 + 1), none⟩ = some (.int .i64 x17) ∧ cond (decide (x17 < (2 : Int))) (∃ x23 : Int, World.cell? w9 ⟨w.heap.size, (0 + 2), none⟩ = some (.int .i64 x23) ∧ 0 ≤ x6 ∧ x6 < ((7 : Nat) : Int) ∧ 0 ≤ x23 ∧ x23 < ((6 : Nat) : Int) ∧ ∃ b28 : Bool, World.cell? w9 ⟨p0.b, (((p0.o + 43) + Int.toNat x6 * 6) + Int.toNat x23 * 1), none⟩ = some (.bool b28) ∧ cond b28 (J_4 true w9) (∃ x32 : Int, World.cell? w9 ⟨w.heap.size, (0 + 1), none⟩ = some (.int .i64 x32) ∧ cond (x32 == (1 : Int)) (∃ x38 : Int, World.cell? w9 ⟨w.heap.size, (0 + 2), none⟩ = some (.int .i64 x38) ∧ 0 ≤ x6 ∧ x6 < ((7 : Nat) : Int) ∧ 0 ≤ x38 ∧ x38 < ((6 : Nat) : Int) ∧ ∃ b43 : Bool, World.cell? w9 ⟨p0.b, (((p0.o + 1) + Int.toNat x6 * 6) + Int.toNat x38 * 1), none⟩ = some (.bool b43) ∧ J_4 b43 w9) (J_4 false w9))) (∃ x32_2 : Int, World.cell? w9 ⟨w.heap.size, (0 + 1), none⟩ = some (.int .i64 x32_2) ∧ cond (x32_2 == (1 : Int)) (∃ x38_2 : Int, World.cell? w9 ⟨w.heap.size, (0 + 2), none⟩ = some (.int .i64 x38_2) ∧ 0 ≤ x6 ∧ x6 < ((7 : Nat) : Int) ∧ 0 ≤ x38_2 ∧ x38_2 < ((6 : Nat) : Int) ∧ ∃ b43_2 : Bool, World.cell? w9 ⟨p0.b, (((p0.o + 1) + Int.toNat x6 * 6) + Int.toNat x38_2 * 1), none⟩ = some (.bool b43_2) ∧ J_4 b43_2 w9) (J_4 false w9))) (J_4 false w9)))) (
  J ⟨s5_2.a, s5_2.n, s5_2.c⟩ w3)))
theorem eq80 (p0 : Pt) (x1_0 : Int) (x1_1 : Int) (x1_2 : Int) (R : Value → World → Prop) (w : World) : funV Try.prog Try.f80 An80 [(.pointer (some ⟨p0.b, p0.o, none⟩)), (.agg [(.int .i64 x1_0), (.int .i64 x1_1), (.int .i64 x1_2)].toArray)] R w = S80 p0 x1_0 x1_1 x1_2 R w := by kernel_rfl
theorem call80 (p0 : Pt) (x1_0 : Int) (x1_1 : Int) (x1_2 : Int) {R : Value → World → Prop} {w : World} (h : S80 p0 x1_0 x1_1 x1_2 R w) : Calls Try.prog 80 [(.pointer (some ⟨p0.b, p0.o, none⟩)), (.agg [(.int .i64 x1_0), (.int .i64 x1_1), (.int .i64 x1_2)].toArray)].toArray w fun e w' => ∃ v, e = .returned v ∧ R v w' :=
  funV_calls mixed Try.func80 (an := An80) (by rw [eq80]; exact h)

/-- F94: (*cubeb/cubebref05.table).release -/
def An94 : An := (.dr [0, 1, 2, 3, 4, 5, 6, 7, 8, 10, 11, 9, 12, 13] [] false none)
def S94 (p0 : Pt) (x1 : Int) (R : Value → World → Prop) (w : World) : Prop :=
  Let w.drew fun w1 =>
  0 ≤ x1 ∧ x1 < ((7 : Nat) : Int) ∧ StoreOk w1 p0.b ((p0.o + 1) + Int.toNat x1 * 6) [(.bool false), (.bool false), (.bool false), (.bool false), (.bool false), (.bool false)] 6 ∧ Let (put w1 p0.b ((p0.o + 1) + Int.toNat x1 * 6) [(.bool false), (.bool false), (.bool false), (.bool false), (.bool false), (.bool false)]) fun w2 => 
  0 ≤ x1 ∧ x1 < ((7 : Nat) : Int) ∧ StoreOk w2 p0.b ((p0.o + 43) + Int.toNat x1 * 6) [(.bool false), (.bool false), (.bool false), (.bool false), (.bool false), (.bool false)] 6 ∧ Let (put w2 p0.b ((p0.o + 43) + Int.toNat x1 * 6) [(.bool false), (.bool false), (.bool false), (.bool false), (.bool false), (.bool false)]) fun w3 => 
  R (.tuple [].toArray) w3
theorem eq94 (p0 : Pt) (x1 : Int) (R : Value → World → Prop) (w : World) : funV Try.prog Try.f94 An94 [(.pointer (some ⟨p0.b, p0.o, none⟩)), (.int .i64 x1)] R w = S94 p0 x1 R w := by kernel_rfl
theorem call94 (p0 : Pt) (x1 : Int) {R : Value → World → Prop} {w : World} (h : S94 p0 x1 R w) : Calls Try.prog 94 [(.pointer (some ⟨p0.b, p0.o, none⟩)), (.int .i64 x1)].toArray w fun e w' => ∃ v, e = .returned v ∧ R v w' :=
  funV_calls mixed Try.func94 (an := An94) (by rw [eq94]; exact h)

/-- F82: (*cubeb/cubebref05.table).do -/
def An82 : An := (.sq .lf (.sq (.dr [0, 1, 2, 3, 4, 5, 6, 7, 8, 9, 10] [10] true none) (.sq .lf (.bk [] (.sq .lf (.cj [] (.dr [0, 1, 2, 3, 4, 5, 6, 7, 8, 9] [] false none) (.sq .lf (.cj [] (.dr [0, 1, 2, 3, 4, 5, 6, 7, 8, 9] [] false none) .lf))))))))
def S82 (p0 : Pt) (x1_0 : Int) (x1_1 : Int) (x1_2 : Int) (R : Value → World → Prop) (w : World) : Prop :=
  Let (w.alloc (.cells [(.int .i64 x1_0), (.int .i64 x1_1), (.int .i64 x1_2)].toArray 37)) fun w1 => 
  ∃ S1 : World → Prop, S1 w1.drew ∧ Let w1.drew fun w2 =>
  ∃ s8 : Sl, (∀ u, S1 u → World.cell? u ⟨p0.b, (p0.o + 0), none⟩ = some (.slice s8.a s8.n s8.c)) ∧ ∃ x9_0 : Int, ∃ x9_1 : Int, ∃ x9_2 : Int, (∀ u, S1 u → rd u w.heap.size 0 [(.int .i64 x9_0), (.int .i64 x9_1), (.int .i64 x9_2)]) ∧ ∃ (s10 : Sl) (w3 : World), Sem.run Try.prog (Instr.buildSlice 23 1 [(0, (.agg [(.int .i64 x9_0), (.int .i64 x9_1), (.int .i64 x9_2)].toArray))].toArray) w2 = .ok (.slice s10.a s10.n s10.c) w3 ∧
  S1 w3 ∧ ∃ (s11 : Sl) (w4 : World), Sem.run Try.prog (Builtin.append_ #[23, 23] 23 #[(.slice s8.a s8.n s8.c), (.slice s10.a s10.n s10.c)]) w3 = .ok (.slice s11.a s11.n s11.c) w4 ∧
  S1 w4 ∧ StoreOk w4 p0.b (p0.o + 0) [(.slice s11.a s11.n s11.c)] 1 ∧ Let (put w4 p0.b (p0.o + 0) [(.slice s11.a s11.n s11.c)]) fun w5 => 
  ∃ x15 : Int, World.cell? w5 ⟨w.heap.size, (0 + 1), none⟩ = some (.int .i64 x15) ∧ Join [] (fun (w6 : World) => R (.tuple [].toArray) w6) (fun J =>
  Join [] (fun (w7 : World) => J w7) (fun J_2 =>
  cond (x15 == (0 : Int)) (
  Let w5.drew fun w8 =>
  ∃ x24 : Int, World.cell? w8 ⟨w.heap.size, (0 + 0), none⟩ = some (.int .i64 x24) ∧ ∃ x26 : Int, World.cell? w8 ⟨w.heap.size, (0 + 2), none⟩ = some (.int .i64 x26) ∧ 0 ≤ x24 ∧ x24 < ((7 : Nat) : Int) ∧ 0 ≤ x26 ∧ x26 < ((6 : Nat) : Int) ∧ StoreOk w8 p0.b (((p0.o + 1) + Int.toNat x24 * 6) + Int.toNat x26 * 1) [(.bool true)] 1 ∧ Let (put w8 p0.b (((p0.o + 1) + Int.toNat x24 * 6) + Int.toNat x26 * 1) [(.bool true)]) fun w9 => 
  J_2 w9) (
  Join [] (fun (w10 : World) => J_2 w10) (fun J_3 =>
  cond (x15 == (1 : Int)) (
  Let w5.drew fun w11 =>
  ∃ x35 : Int, World.cell? w11 ⟨w.heap.size, (0 + 0), none⟩ = some (.int .i64 x35) ∧ ∃ x37 : Int, World.cell? w11 ⟨w.heap.size, (0 + 2), none⟩ = some (.int .i64 x37) ∧ 0 ≤ x35 ∧ x35 < ((7 : Nat) : Int) ∧ 0 ≤ x37 ∧ x37 < ((6 : Nat) : Int) ∧ StoreOk w11 p0.b (((p0.o + 43) + Int.toNat x35 * 6) + Int.toNat x37 * 1) [(.bool true)] 1 ∧ Let (put w11 p0.b (((p0.o + 43) + Int.toNat x35 * 6) + Int.toNat x37 * 1) [(.bool true)]) fun w12 => 
  J_3 w12) (
  ∃ x18 : Int, World.cell? w5 ⟨w.heap.size, (0 + 0), none⟩ = some (.int .i64 x18) ∧ Calls Try.prog 94 [(.pointer (some ⟨p0.b, p0.o, none⟩)), (.int .i64 x18)].toArray w5 (fun e w13 => e = .returned (.tuple [].toArray) ∧
  J_3 w13))))))
theorem eq82 (p0 : Pt) (x1_0 : Int) (x1_1 : Int) (x1_2 : Int) (R : Value → World → Prop) (w : World) : funV Try.prog Try.f82 An82 [(.pointer (some ⟨p0.b, p0.o, none⟩)), (.agg [(.int .i64 x1_0), (.int .i64 x1_1), (.int .i64 x1_2)].toArray)] R w = S82 p0 x1_0 x1_1 x1_2 R w := by kernel_rfl
theorem call82 (p0 : Pt) (x1_0 : Int) (x1_1 : Int) (x1_2 : Int) {R : Value → World → Prop} {w : World} (h : S82 p0 x1_0 x1_1 x1_2 R w) : Calls Try.prog 82 [(.pointer (some ⟨p0.b, p0.o, none⟩)), (.agg [(.int .i64 x1_0), (.int .i64 x1_1), (.int .i64 x1_2)].toArray)].toArray w fun e w' => ∃ v, e = .returned v ∧ R v w' :=
  funV_calls mixed Try.func82 (an := An82) (by rw [eq82]; exact h)

/-- F81: (*cubeb/cubebref05.table).caught -/
def An81 : An := (.sq .lf (.sq .lf (.sq .lf (.sq (.bk [] (.lp [(6, .slice)] (.sq (.sq .lf (.cd .lf .lf)) (.bk [(6, .slice)] (.sq .lf (.sq .lf (.sq (.sq .lf (.cd .lf .lf)) (.sq (.dr [0, 1, 2, 3, 4, 5, 6, 7, 8, 9, 10, 11, 12, 13, 14, 17, 15, 16] [] true none) (.bk [(6, .slice)] (.lp [(6, .slice), (45, .int .i64)] (.sq .lf (.sq (.cd .lf .lf) (.sq (.bk [(6, .slice)] (.sq .lf (.sq (.sq .lf (.cd (.sq .lf .lf) .lf)) (.sq .lf (.cj [(6, .slice)] (.sq .lf .lf) .lf))))) .lf))))))))))))) (.sq .lf .lf)))))
def S81 (p0 : Pt) (x1 : Int) (R : Value → World → Prop) (w : World) : Prop :=
  Let (w.alloc (.cells (zc Try.prog 97) 97)) fun w1 => 
  StoreOk w1 w.heap.size 0 [(.bool false), (.bool false), (.bool false), (.bool false), (.bool false), (.bool false), (.bool false)] 7 ∧ Let (put w1 w.heap.size 0 [(.bool false), (.bool false), (.bool false), (.bool false), (.bool false), (.bool false), (.bool false)]) fun w2 => 
  ∃ (s12 : Sl) (w3 : World), Sem.run Try.prog (Instr.buildSlice 24 1 [(0, (.int .i64 x1))].toArray) w2 = .ok (.slice s12.a s12.n s12.c) w3 ∧
  Join [] (fun (w4 : World) => R (.bool false) w4) (fun J =>
  LoopV [(6, .slice)] (fun K => K ⟨s12.a, s12.n, s12.c⟩ w3) (fun N => fun (s6 : Sl) (w5 : World) =>
  cond (decide (((s6.n : Nat) : Int) > (0 : Int))) (
  Join [(6, .slice)] (fun (s6_2 : Sl) (w6 : World) => N ⟨s6_2.a, s6_2.n, s6_2.c⟩ w6) (fun J_2 =>
  ∃ p17 : Pt, s6.a = some ⟨p17.b, p17.o, none⟩ ∧ 0 ≤ (0 : Int) ∧ (0 : Int) < ((s6.n : Nat) : Int) ∧ ∃ x18 : Int, World.cell? w5 ⟨p17.b, (p17.o + Int.toNat (0 : Int) * 1), none⟩ = some (.int .i64 x18) ∧ 0 ≤ (1 : Int) ∧ (1 : Int) ≤ ((s6.n : Nat) : Int) ∧ 0 ≤ x18 ∧ x18 < ((7 : Nat) : Int) ∧ ∃ b26 : Bool, World.cell? w5 ⟨p0.b, ((p0.o + 92) + Int.toNat x18 * 1), none⟩ = some (.bool b26) ∧ cond (!b26) (
  J_2 ⟨(subA s6.a s6.c (Int.toNat (1 : Int)) 1), (s6.n - (Int.toNat (1 : Int))), (s6.c - (Int.toNat (1 : Int)))⟩ w5) (
  ∃ S1 : World → Prop, S1 w5.drew ∧ Let w5.drew fun w7 =>
  ∃ s32 : Sl, (∀ u, S1 u → World.cell? u ⟨p0.b, (p0.o + 100), none⟩ = some (.slice s32.a s32.n s32.c)) ∧ 0 ≤ x18 ∧ x18 < ((7 : Nat) : Int) ∧ ∃ s38 : Sl, (∀ u, S1 u → World.cell? u ⟨p0.b, ((p0.o + 85) + Int.toNat x18 * 1), none⟩ = some (.slice s38.a s38.n s38.c)) ∧ ∃ p39 : Pt, s38.a = some ⟨p39.b, p39.o, none⟩ ∧ 0 ≤ (0 : Int) ∧ (0 : Int) < ((s38.n : Nat) : Int) ∧ ∃ x40 : Int, (∀ u, S1 u → World.cell? u ⟨p39.b, (p39.o + Int.toNat (0 : Int) * 1), none⟩ = some (.int .i64 x40)) ∧ ∃ p41 : Pt, s32.a = some ⟨p41.b, p41.o, none⟩ ∧ 0 ≤ x40 ∧ x40 < ((s32.n : Nat) : Int) ∧ ∃ x42_0 : Int, ∃ x42_1 : Int, ∃ x42_2 : Int, (∀ u, S1 u → rd u p41.b (p41.o + Int.toNat x40 * 3) [(.int .i64 x42_0), (.int .i64 x42_1), (.int .i64 x42_2)]) ∧ Calls Try.prog 80 [(.pointer (some ⟨p0.b, p0.o, none⟩)), (.agg [(.int .i64 x42_0), (.int .i64 x42_1), (.int .i64 x42_2)].toArray)].toArray w7 (fun e w8 => ∃ s43 : Sl, e = .returned (.slice s43.a s43.n s43.c) ∧
  S1 w8 ∧ Join [(6, .slice)] (fun (s6_3 : Sl) (w9 : World) => J_2 ⟨s6_3.a, s6_3.n, s6_3.c⟩ w9) (fun J_3 =>
  LoopV [(6, .slice), (45, .int .i64)] (fun K => K ⟨(subA s6.a s6.c (Int.toNat (1 : Int)) 1), (s6.n - (Int.toNat (1 : Int))), (s6.c - (Int.toNat (1 : Int)))⟩ (0 : Int) w8) (fun N_2 => fun (s6_4 : Sl) (x45 : Int) (w10 : World) =>
  cond (decide (x45 < ((s43.n : Nat) : Int))) (
  Join [(6, .slice)] (fun (s6_5 : Sl) (w11 : World) => N_2 ⟨s6_5.a, s6_5.n, s6_5.c⟩ (IntKind.wrap .i64 (x45 + (1 : Int))) w11) (fun J_4 =>
  ∃ p47 : Pt, s43.a = some ⟨p47.b, p47.o, none⟩ ∧ 0 ≤ x45 ∧ x45 < ((s43.n : Nat) : Int) ∧ ∃ x48 : Int, World.cell? w10 ⟨p47.b, (p47.o + Int.toNat x45 * 1), none⟩ = some (.int .i64 x48) ∧ cond (x48 == x1) (
  R (.bool true) w10) (
  0 ≤ x48 ∧ x48 < ((7 : Nat) : Int) ∧ ∃ b54 : Bool, World.cell? w10 ⟨w.heap.size, (0 + Int.toNat x48 * 1), none⟩ = some (.bool b54) ∧ Join [(6, .slice)] (fun (s6_6 : Sl) (w12 : World) => J_4 ⟨s6_6.a, s6_6.n, s6_6.c⟩ w12) (fun J_5 =>
  cond (!b54) (
  0 ≤ x48 ∧ x48 < ((7 : Nat) : Int) ∧ StoreOk w10 w.heap.size (0 + Int.toNat x48 * 1) [(.bool true)] 1 ∧ Let (put w10 w.heap.size (0 + Int.toNat x48 * 1) [(.bool true)]) fun w13 => 
  ∃ (s60 : Sl) (w14 : World), Sem.run Try.prog (Instr.buildSlice 24 1 [(0, (.int .i64 x48))].toArray) w13 = .ok (.slice s60.a s60.n s60.c) w14 ∧
  ∃ (s61 : Sl) (w15 : World), Sem.run Try.prog (Builtin.append_ #[24, 24] 24 #[(.slice s6_4.a s6_4.n s6_4.c), (.slice s60.a s60.n s60.c)]) w14 = .ok (.slice s61.a s61.n s61.c) w15 ∧
  J_5 ⟨s61.a, s61.n, s61.c⟩ w15) (
  J_5 ⟨s6_4.a, s6_4.n, s6_4.c⟩ w10))))) (
  J_3 ⟨s6_4.a, s6_4.n, s6_4.c⟩ w10))))))) (
  J w5)))
theorem eq81 (p0 : Pt) (x1 : Int) (R : Value → World → Prop) (w : World) : funV Try.prog Try.f81 An81 [(.pointer (some ⟨p0.b, p0.o, none⟩)), (.int .i64 x1)] R w = S81 p0 x1 R w := by kernel_rfl
theorem call81 (p0 : Pt) (x1 : Int) {R : Value → World → Prop} {w : World} (h : S81 p0 x1 R w) : Calls Try.prog 81 [(.pointer (some ⟨p0.b, p0.o, none⟩)), (.int .i64 x1)].toArray w fun e w' => ∃ v, e = .returned v ∧ R v w' :=
  funV_calls mixed Try.func81 (an := An81) (by rw [eq81]; exact h)

/-- F51: (*cubeb/cubebref05.table).goOn -/
def An51 : An := (.sq .lf (.bk [] (.lp [] (.sq (.sq .lf (.cd .lf .lf)) (.bk [] (.sq (.dr [0, 1, 2, 3, 4, 5, 6, 7, 8, 9, 10, 11, 12, 13, 14, 15] [15] true none) (.sq (.sq .lf (.cd (.sq .lf (.sq (.sq .lf (.cj [] (.sq .lf (.sq .lf (.sq .lf .lf))) .lf)) .lf)) .lf)) (.sq (.dr [0, 1, 2, 3, 4, 5, 6, 7, 8, 9, 10, 11, 12] [] false none) .lf))))))))
def S51 (p0 : Pt) (x1 : Int) (R : Value → World → Prop) (w : World) : Prop :=
  0 ≤ x1 ∧ x1 < ((7 : Nat) : Int) ∧ StoreOk w p0.b ((p0.o + 92) + Int.toNat x1 * 1) [(.bool false)] 1 ∧ Let (put w p0.b ((p0.o + 92) + Int.toNat x1 * 1) [(.bool false)]) fun w1 => 
  Join [] (fun (w2 : World) => R (.tuple [].toArray) w2) (fun J =>
  LoopV [] (fun K => K w1) (fun N => fun (w3 : World) =>
  0 ≤ x1 ∧ x1 < ((7 : Nat) : Int) ∧ ∃ s15 : Sl, World.cell? w3 ⟨p0.b, ((p0.o + 85) + Int.toNat x1 * 1), none⟩ = some (.slice s15.a s15.n s15.c) ∧ cond (decide (((s15.n : Nat) : Int) > (0 : Int))) (
  Join [] (fun (w4 : World) => N w4) (fun J_2 =>
  ∃ S1 : World → Prop, S1 w3.drew ∧ Let w3.drew fun w5 =>
  ∃ s21 : Sl, (∀ u, S1 u → World.cell? u ⟨p0.b, (p0.o + 100), none⟩ = some (.slice s21.a s21.n s21.c)) ∧ 0 ≤ x1 ∧ x1 < ((7 : Nat) : Int) ∧ ∃ s27 : Sl, (∀ u, S1 u → World.cell? u ⟨p0.b, ((p0.o + 85) + Int.toNat x1 * 1), none⟩ = some (.slice s27.a s27.n s27.c)) ∧ ∃ p28 : Pt, s27.a = some ⟨p28.b, p28.o, none⟩ ∧ 0 ≤ (0 : Int) ∧ (0 : Int) < ((s27.n : Nat) : Int) ∧ ∃ x29 : Int, (∀ u, S1 u → World.cell? u ⟨p28.b, (p28.o + Int.toNat (0 : Int) * 1), none⟩ = some (.int .i64 x29)) ∧ ∃ p30 : Pt, s21.a = some ⟨p30.b, p30.o, none⟩ ∧ 0 ≤ x29 ∧ x29 < ((s21.n : Nat) : Int) ∧ ∃ x31_0 : Int, ∃ x31_1 : Int, ∃ x31_2 : Int, (∀ u, S1 u → rd u p30.b (p30.o + Int.toNat x29 * 3) [(.int .i64 x31_0), (.int .i64 x31_1), (.int .i64 x31_2)]) ∧ Let (w5.alloc (.cells (zc Try.prog 37) 37)) fun w6 => 
  S1 w6 ∧ StoreOk w6 w5.heap.size 0 [(.int .i64 x31_0), (.int .i64 x31_1), (.int .i64 x31_2)] 3 ∧ Let (put w6 w5.heap.size 0 [(.int .i64 x31_0), (.int .i64 x31_1), (.int .i64 x31_2)]) fun w7 => 
  ∃ x33_0 : Int, ∃ x33_1 : Int, ∃ x33_2 : Int, rd w7 w5.heap.size 0 [(.int .i64 x33_0), (.int .i64 x33_1), (.int .i64 x33_2)] ∧ Calls Try.prog 80 [(.pointer (some ⟨p0.b, p0.o, none⟩)), (.agg [(.int .i64 x33_0), (.int .i64 x33_1), (.int .i64 x33_2)].toArray)].toArray w7 (fun e w8 => ∃ s34 : Sl, e = .returned (.slice s34.a s34.n s34.c) ∧
  cond (decide (((s34.n : Nat) : Int) > (0 : Int))) (
  0 ≤ x1 ∧ x1 < ((7 : Nat) : Int) ∧ StoreOk w8 p0.b ((p0.o + 92) + Int.toNat x1 * 1) [(.bool true)] 1 ∧ Let (put w8 p0.b ((p0.o + 92) + Int.toNat x1 * 1) [(.bool true)]) fun w9 => 
  Calls Try.prog 81 [(.pointer (some ⟨p0.b, p0.o, none⟩)), (.int .i64 x1)].toArray w9 (fun e_2 w10 => ∃ b44 : Bool, e_2 = .returned (.bool b44) ∧
  Join [] (fun (w11 : World) => R (.tuple [].toArray) w11) (fun J_3 =>
  cond b44 (
  0 ≤ x1 ∧ x1 < ((7 : Nat) : Int) ∧ StoreOk w10 p0.b ((p0.o + 92) + Int.toNat x1 * 1) [(.bool false)] 1 ∧ Let (put w10 p0.b ((p0.o + 92) + Int.toNat x1 * 1) [(.bool false)]) fun w12 => 
  0 ≤ x1 ∧ x1 < ((7 : Nat) : Int) ∧ StoreOk w12 p0.b ((p0.o + 85) + Int.toNat x1 * 1) [(.slice none 0 0)] 1 ∧ Let (put w12 p0.b ((p0.o + 85) + Int.toNat x1 * 1) [(.slice none 0 0)]) fun w13 => 
  ∃ s59 : Sl, World.cell? w13 ⟨p0.b, (p0.o + 99), none⟩ = some (.slice s59.a s59.n s59.c) ∧ ∃ (s61 : Sl) (w14 : World), Sem.run Try.prog (Instr.buildSlice 24 1 [(0, (.int .i64 x1))].toArray) w13 = .ok (.slice s61.a s61.n s61.c) w14 ∧
  ∃ (s62 : Sl) (w15 : World), Sem.run Try.prog (Builtin.append_ #[24, 24] 24 #[(.slice s59.a s59.n s59.c), (.slice s61.a s61.n s61.c)]) w14 = .ok (.slice s62.a s62.n s62.c) w15 ∧
  StoreOk w15 p0.b (p0.o + 99) [(.slice s62.a s62.n s62.c)] 1 ∧ Let (put w15 p0.b (p0.o + 99) [(.slice s62.a s62.n s62.c)]) fun w16 => 
  Calls Try.prog 82 [(.pointer (some ⟨p0.b, p0.o, none⟩)), (.agg [(.int .i64 x1), (.int .i64 (3 : Int)), (.int .i64 (0 : Int))].toArray)].toArray w16 (fun e_3 w17 => e_3 = .returned (.tuple [].toArray) ∧
  J_3 w17)) (
  J_3 w10)))) (
  Let w8.drew fun w18 =>
  0 ≤ x1 ∧ x1 < ((7 : Nat) : Int) ∧ ∃ s76 : Sl, World.cell? w18 ⟨p0.b, ((p0.o + 85) + Int.toNat x1 * 1), none⟩ = some (.slice s76.a s76.n s76.c) ∧ 0 ≤ (1 : Int) ∧ (1 : Int) ≤ ((s76.n : Nat) : Int) ∧ 0 ≤ x1 ∧ x1 < ((7 : Nat) : Int) ∧ StoreOk w18 p0.b ((p0.o + 85) + Int.toNat x1 * 1) [(.slice (subA s76.a s76.c (Int.toNat (1 : Int)) 1) (s76.n - (Int.toNat (1 : Int))) (s76.c - (Int.toNat (1 : Int))))] 1 ∧ Let (put w18 p0.b ((p0.o + 85) + Int.toNat x1 * 1) [(.slice (subA s76.a s76.c (Int.toNat (1 : Int)) 1) (s76.n - (Int.toNat (1 : Int))) (s76.c - (Int.toNat (1 : Int))))]) fun w19 => 
  ∃ x82_0 : Int, ∃ x82_1 : Int, ∃ x82_2 : Int, rd w19 w5.heap.size 0 [(.int .i64 x82_0), (.int .i64 x82_1), (.int .i64 x82_2)] ∧ Calls Try.prog 82 [(.pointer (some ⟨p0.b, p0.o, none⟩)), (.agg [(.int .i64 x82_0), (.int .i64 x82_1), (.int .i64 x82_2)].toArray)].toArray w19 (fun e_4 w20 => e_4 = .returned (.tuple [].toArray) ∧
  J_2 w20))))) (
  J w3)))
theorem eq51 (p0 : Pt) (x1 : Int) (R : Value → World → Prop) (w : World) : funV Try.prog Try.f51 An51 [(.pointer (some ⟨p0.b, p0.o, none⟩)), (.int .i64 x1)] R w = S51 p0 x1 R w := by kernel_rfl
theorem call51 (p0 : Pt) (x1 : Int) {R : Value → World → Prop} {w : World} (h : S51 p0 x1 R w) : Calls Try.prog 51 [(.pointer (some ⟨p0.b, p0.o, none⟩)), (.int .i64 x1)].toArray w fun e w' => ∃ v, e = .returned v ∧ R v w' :=
  funV_calls mixed Try.func51 (an := An51) (by rw [eq51]; exact h)

/-- F52: (*cubeb/cubebref05.table).next -/
def An52 : An := (.sq .lf (.sq (.sq .lf (.bk [] (.lp [(10, .int .i64)] (.sq .lf (.sq (.cd .lf .lf) (.sq (.bk [] (.sq .lf (.sq (.dr [0, 1, 2, 3, 4, 5, 6, 7, 8, 9, 10, 11, 12, 13, 14, 15, 16, 17, 18, 19, 20, 21, 22, 23, 24, 25, 26] [] true (some [(41, .bool)])) (.cd (.sq .lf .lf) .lf)))) .lf)))))) (.sq .lf .lf)))
def S52 (p0 : Pt) (R : Value → World → Prop) (w : World) : Prop :=
  ∃ s8 : Sl, World.cell? w ⟨p0.b, (p0.o + 100), none⟩ = some (.slice s8.a s8.n s8.c) ∧ Join [] (fun (w1 : World) => R (.int .i64 (0 : Int)) w1) (fun J =>
  LoopV [(10, .int .i64)] (fun K => K (0 : Int) w) (fun N => fun (x10 : Int) (w2 : World) =>
  cond (decide (x10 < ((s8.n : Nat) : Int))) (
  Join [] (fun (w3 : World) => N (IntKind.wrap .i64 (x10 + (1 : Int))) w3) (fun J_2 =>
  ∃ p13 : Pt, s8.a = some ⟨p13.b, p13.o, none⟩ ∧ 0 ≤ x10 ∧ x10 < ((s8.n : Nat) : Int) ∧ ∃ x14_0 : Int, ∃ x14_1 : Int, ∃ x14_2 : Int, rd w2 p13.b (p13.o + Int.toNat x10 * 3) [(.int .i64 x14_0), (.int .i64 x14_1), (.int .i64 x14_2)] ∧ Let (w2.alloc (.cells (zc Try.prog 37) 37)) fun w4 => 
  StoreOk w4 w2.heap.size 0 [(.int .i64 x14_0), (.int .i64 x14_1), (.int .i64 x14_2)] 3 ∧ Let (put w4 w2.heap.size 0 [(.int .i64 x14_0), (.int .i64 x14_1), (.int .i64 x14_2)]) fun w5 => 
  Join [(41, .bool)] (fun (b41 : Bool) (w6 : World) => cond b41 (
  ∃ x43 : Int, World.cell? w6 ⟨w2.heap.size, (0 + 0), none⟩ = some (.int .i64 x43) ∧ R (.int .i64 x43) w6) (
  J_2 w6)) (fun J_3 =>
  ∃ S1 : World → Prop, S1 w5.drew ∧ Let w5.drew fun w7 =>
  ∃ x17 : Int, (∀ u, S1 u → World.cell? u ⟨w2.heap.size, (0 + 0), none⟩ = some (.int .i64 x17)) ∧ 0 ≤ x17 ∧ x17 < ((7 : Nat) : Int) ∧ ∃ b21 : Bool, (∀ u, S1 u → World.cell? u ⟨p0.b, ((p0.o + 92) + Int.toNat x17 * 1), none⟩ = some (.bool b21)) ∧ cond b21 (∃ x25 : Int, (∀ u, S1 u → World.cell? u ⟨w2.heap.size, (0 + 0), none⟩ = some (.int .i64 x25)) ∧ 0 ≤ x25 ∧ x25 < ((7 : Nat) : Int) ∧ ∃ s29 : Sl, (∀ u, S1 u → World.cell? u ⟨p0.b, ((p0.o + 85) + Int.toNat x25 * 1), none⟩ = some (.slice s29.a s29.n s29.c)) ∧ ∃ p30 : Pt, s29.a = some ⟨p30.b, p30.o, none⟩ ∧ 0 ≤ (0 : Int) ∧ (0 : Int) < ((s29.n : Nat) : Int) ∧ ∃ x31 : Int, (∀ u, S1 u → World.cell? u ⟨p30.b, (p30.o + Int.toNat (0 : Int) * 1), none⟩ = some (.int .i64 x31)) ∧ cond (x31 == x10) (∃ x37_0 : Int, ∃ x37_1 : Int, ∃ x37_2 : Int, (∀ u, S1 u → rd u w2.heap.size 0 [(.int .i64 x37_0), (.int .i64 x37_1), (.int .i64 x37_2)]) ∧ Calls Try.prog 80 [(.pointer (some ⟨p0.b, p0.o, none⟩)), (.agg [(.int .i64 x37_0), (.int .i64 x37_1), (.int .i64 x37_2)].toArray)].toArray w7 (fun e w8 => ∃ s38 : Sl, e = .returned (.slice s38.a s38.n s38.c) ∧
  S1 w8 ∧ J_3 (((s38.n : Nat) : Int) == (0 : Int)) w8)) (J_3 false w7)) (J_3 false w7)))) (
  J w2)))
theorem eq52 (p0 : Pt) (R : Value → World → Prop) (w : World) : funV Try.prog Try.f52 An52 [(.pointer (some ⟨p0.b, p0.o, none⟩))] R w = S52 p0 R w := by kernel_rfl
theorem call52 (p0 : Pt) {R : Value → World → Prop} {w : World} (h : S52 p0 R w) : Calls Try.prog 52 [(.pointer (some ⟨p0.b, p0.o, none⟩))].toArray w fun e w' => ∃ v, e = .returned v ∧ R v w' :=
  funV_calls mixed Try.func52 (an := An52) (by rw [eq52]; exact h)

/-- F20: cubeb/cubebref05.Lock -/
def An20 : An := (.sq .lf (.sq .lf (.sq (.sq .lf (.bk [] (.lp [(15, .int .i64)] (.sq .lf (.sq (.cd .lf .lf) (.sq (.bk [] (.sq .lf (.sq .lf (.sq (.sq .lf (.bk [(7, .bool)] (.lp [(7, .bool), (25, .int .i64)] (.sq .lf (.sq (.cd .lf .lf) (.sq (.bk [(7, .bool)] (.sq .lf (.rj [] [(7, .bool)]))) .lf)))))) (.sq (.sq .lf (.cd .lf .lf)) (.sq (.dr [0, 1, 2, 3, 4, 5, 6, 7, 8, 9, 10, 13, 14, 11, 12, 15, 16] [16] true none) (.sq (.sq (.dr [0, 1, 2, 3, 4, 5, 6, 7] [] false none) (.cj [] .lf .lf)) (.bk [] (.lp [] (.sq (.sq .lf (.cd .lf .lf)) (.bk [] .lf))))))))))) .lf)))))) (.sq (.dr [0, 1, 2, 3, 4, 5, 6, 7, 8, 9] [] false none) .lf))))
def S20 (s0 : Sl) (R : Value → World → Prop) (w : World) : Prop :=
  Let (w.alloc (.cells [(.slice none 0 0), (.bool false), (.bool false), (.bool false), (.bool false), (.bool false), (.bool false), (.bool false), (.bool false), (.bool false), (.bool false), (.bool false), (.bool false), (.bool false), (.bool false), (.bool false), (.bool false), (.bool false), (.bool false), (.bool false), (.bool false), (.bool false), (.bool false), (.bool false), (.bool false), (.bool false), (.bool false), (.bool false), (.bool false), (.bool false), (.bool false), (.bool false), (.bool false), (.bool false), (.bool false), (.bool false), (.bool false), (.bool false), (.bool false), (.bool false), (.bool false), (.bool false), (.bool false), (.bool false), (.bool false), (.bool false), (.bool false), (.bool false), (.bool false), (.bool false), (.bool false), (.bool false), (.bool false), (.bool false), (.bool false), (.bool false), (.bool false), (.bool false), (.bool false), (.bool false), (.bool false), (.bool false), (.bool false), (.bool false), (.bool false), (.bool false), (.bool false), (.bool false), (.bool false), (.bool false), (.bool false), (.bool false), (.bool false), (.bool false), (.bool false), (.bool false), (.bool false), (.bool false), (.bool false), (.bool false), (.bool false), (.bool false), (.bool false), (.bool false), (.bool false), (.slice none 0 0), (.slice none 0 0), (.slice none 0 0), (.slice none 0 0), (.slice none 0 0), (.slice none 0 0), (.slice none 0 0), (.bool false), (.bool false), (.bool false), (.bool false), (.bool false), (.bool false), (.bool false), (.slice none 0 0), (.slice s0.a s0.n s0.c)].toArray 99)) fun w1 => 
  Join [] (fun (w2 : World) => Let w2.drew fun w3 =>
  ∃ s77 : Sl, World.cell? w3 ⟨w.heap.size, (0 + 0), none⟩ = some (.slice s77.a s77.n s77.c) ∧ ∃ s81 : Sl, World.cell? w3 ⟨w.heap.size, (0 + 99), none⟩ = some (.slice s81.a s81.n s81.c) ∧ R (.tuple [(.slice s77.a s77.n s77.c), (.slice s81.a s81.n s81.c)].toArray) w3) (fun J =>
  LoopV [(15, .int .i64)] (fun K => K (0 : Int) w1) (fun N => fun (x15 : Int) (w4 : World) =>
  cond (decide (x15 < ((s0.n : Nat) : Int))) (
  Join [] (fun (w5 : World) => N (IntKind.wrap .i64 (x15 + (1 : Int))) w5) (fun J_2 =>
  ∃ p18 : Pt, s0.a = some ⟨p18.b, p18.o, none⟩ ∧ 0 ≤ x15 ∧ x15 < ((s0.n : Nat) : Int) ∧ ∃ x19_0 : Int, ∃ x19_1 : Int, ∃ x19_2 : Int, rd w4 p18.b (p18.o + Int.toNat x15 * 3) [(.int .i64 x19_0), (.int .i64 x19_1), (.int .i64 x19_2)] ∧ Let (w4.alloc (.cells (zc Try.prog 37) 37)) fun w6 => 
  StoreOk w6 w4.heap.size 0 [(.int .i64 x19_0), (.int .i64 x19_1), (.int .i64 x19_2)] 3 ∧ Let (put w6 w4.heap.size 0 [(.int .i64 x19_0), (.int .i64 x19_1), (.int .i64 x19_2)]) fun w7 => 
  ∃ s23 : Sl, World.cell? w7 ⟨w.heap.size, (0 + 99), none⟩ = some (.slice s23.a s23.n s23.c) ∧ Join [(7, .bool)] (fun (b7 : Bool) (w8 : World) => cond b7 (
  J_2 w8) (
  ∃ S1 : World → Prop, S1 w8.drew ∧ Let w8.drew fun w9 =>
  ∃ x40 : Int, (∀ u, S1 u → World.cell? u ⟨w4.heap.size, (0 + 0), none⟩ = some (.int .i64 x40)) ∧ ∃ x43 : Int, (∀ u, S1 u → World.cell? u ⟨w4.heap.size, (0 + 0), none⟩ = some (.int .i64 x43)) ∧ 0 ≤ x43 ∧ x43 < ((7 : Nat) : Int) ∧ ∃ s47 : Sl, (∀ u, S1 u → World.cell? u ⟨w.heap.size, ((0 + 85) + Int.toNat x43 * 1), none⟩ = some (.slice s47.a s47.n s47.c)) ∧ ∃ (s49 : Sl) (w10 : World), Sem.run Try.prog (Instr.buildSlice 24 1 [(0, (.int .i64 x15))].toArray) w9 = .ok (.slice s49.a s49.n s49.c) w10 ∧
  S1 w10 ∧ ∃ (s50 : Sl) (w11 : World), Sem.run Try.prog (Builtin.append_ #[24, 24] 24 #[(.slice s47.a s47.n s47.c), (.slice s49.a s49.n s49.c)]) w10 = .ok (.slice s50.a s50.n s50.c) w11 ∧
  S1 w11 ∧ 0 ≤ x40 ∧ x40 < ((7 : Nat) : Int) ∧ StoreOk w11 w.heap.size ((0 + 85) + Int.toNat x40 * 1) [(.slice s50.a s50.n s50.c)] 1 ∧ Let (put w11 w.heap.size ((0 + 85) + Int.toNat x40 * 1) [(.slice s50.a s50.n s50.c)]) fun w12 => 
  Let w12.drew fun w13 =>
  ∃ x56 : Int, World.cell? w13 ⟨w4.heap.size, (0 + 0), none⟩ = some (.int .i64 x56) ∧ 0 ≤ x56 ∧ x56 < ((7 : Nat) : Int) ∧ ∃ b60 : Bool, World.cell? w13 ⟨w.heap.size, ((0 + 92) + Int.toNat x56 * 1), none⟩ = some (.bool b60) ∧ Join [] (fun (w14 : World) => Join [] (fun (w15 : World) => J_2 w15) (fun J_3 =>
  LoopV [] (fun K => K w14) (fun N_2 => fun (w16 : World) =>
  Calls Try.prog 52 [(.pointer (some ⟨w.heap.size, 0, none⟩))].toArray w16 (fun e w17 => ∃ x67 : Int, e = .returned (.int .i64 x67) ∧
  cond (decide (x67 > (0 : Int))) (
  Join [] (fun (w18 : World) => N_2 w18) (fun J_4 =>
  Calls Try.prog 52 [(.pointer (some ⟨w.heap.size, 0, none⟩))].toArray w17 (fun e_2 w19 => ∃ x71 : Int, e_2 = .returned (.int .i64 x71) ∧
  Calls Try.prog 51 [(.pointer (some ⟨w.heap.size, 0, none⟩)), (.int .i64 x71)].toArray w19 (fun e_3 w20 => e_3 = .returned (.tuple [].toArray) ∧
  J_4 w20)))) (
  J_3 w17))))) (fun J_5 =>
  cond (!b60) (
  ∃ x64 : Int, World.cell? w13 ⟨w4.heap.size, (0 + 0), none⟩ = some (.int .i64 x64) ∧ Calls Try.prog 51 [(.pointer (some ⟨w.heap.size, 0, none⟩)), (.int .i64 x64)].toArray w13 (fun e_4 w21 => e_4 = .returned (.tuple [].toArray) ∧
  J_5 w21)) (
  J_5 w13)))) (fun J_6 =>
  LoopV [(7, .bool), (25, .int .i64)] (fun K => K false (0 : Int) w7) (fun N_3 => fun (b7_2 : Bool) (x25 : Int) (w22 : World) =>
  cond (decide (x25 < ((s23.n : Nat) : Int))) (
  Join [(7, .bool)] (fun (b7_3 : Bool) (w23 : World) => N_3 b7_3 (IntKind.wrap .i64 (x25 + (1 : Int))) w23) (fun J_7 =>
  ∃ p27 : Pt, s23.a = some ⟨p27.b, p27.o, none⟩ ∧ 0 ≤ x25 ∧ x25 < ((s23.n : Nat) : Int) ∧ ∃ x28 : Int, World.cell? w22 ⟨p27.b, (p27.o + Int.toNat x25 * 1), none⟩ = some (.int .i64 x28) ∧ Join [(7, .bool)] (fun (b7_4 : Bool) (w24 : World) => J_7 b7_4 w24) (fun J_8 =>
  cond b7_2 (J_8 true w22) (∃ x33 : Int, World.cell? w22 ⟨w4.heap.size, (0 + 0), none⟩ = some (.int .i64 x33) ∧ J_8 (x28 == x33) w22)))) (
  J_6 b7_2 w22))))) (
  J w4)))
theorem eq20 (s0 : Sl) (R : Value → World → Prop) (w : World) : funV Try.prog Try.f20 An20 [(.slice s0.a s0.n s0.c)] R w = S20 s0 R w := by kernel_rfl
theorem call20 (s0 : Sl) {R : Value → World → Prop} {w : World} (h : S20 s0 R w) : Calls Try.prog 20 [(.slice s0.a s0.n s0.c)].toArray w fun e w' => ∃ v, e = .returned v ∧ R v w' :=
  funV_calls mixed Try.func20 (an := An20) (by rw [eq20]; exact h)

end Go.Proofs.Ytnbkihkdfhjlmaa
/-
  Printed by a program of this session (wip/tools/vcprint.py): of each Go function the shallow form, and that the calculus comes to it, by the kernel.
-/
namespace Go.Proofs.Ytnbkihkdfhjlmaa
open Go Go.VC
set_option maxRecDepth 100000

/-- F5: cubeb/cubeblaw05.HistoryLocks -/
def An5 : An := (.sq .lf (.sq .lf (.sq (.sq .lf (.cd (.sq (.rj [] [(2, .bool)]) .lf) .lf)) (.sq .lf (.sq (.rj [] [(2, .bool)]) .lf)))))
def S5 (s0 : Sl) (R : Value → World → Prop) (w : World) : Prop :=
  Calls Try.prog 12 [(.slice s0.a s0.n s0.c)].toArray w (fun e w1 => ∃ s10 : Sl, e = .returned (.slice s10.a s10.n s10.c) ∧
  Calls Try.prog 19 [(.slice s10.a s10.n s10.c)].toArray w1 (fun e_2 w2 => ∃ s11_0 : Sl, ∃ s11_1 : Sl, ∃ x11_2 : Int, e_2 = .returned (.tuple [(.slice s11_0.a s11_0.n s11_0.c), (.slice s11_1.a s11_1.n s11_1.c), (.int .i64 x11_2)].toArray) ∧
  Calls Try.prog 13 [(.slice s0.a s0.n s0.c)].toArray w2 (fun e_3 w3 => ∃ b16 : Bool, e_3 = .returned (.bool b16) ∧
  cond (!b16) (
  Join [(2, .bool)] (fun (b2 : Bool) (w4 : World) => R (.bool b2) w4) (fun J =>
  cond ((IntKind.wrap .i64 (((s11_0.n : Nat) : Int) + ((s11_1.n : Nat) : Int))) == (0 : Int)) (cond (x11_2 == (2 : Int)) (Calls Try.prog 14 [].toArray w3 (fun e_4 w5 => ∃ b29 : Bool, e_4 = .returned (.bool b29) ∧
  J b29 w5)) (J false w3)) (J false w3))) (
  Calls Try.prog 20 [(.slice s0.a s0.n s0.c)].toArray w3 (fun e_5 w6 => ∃ s33_0 : Sl, ∃ s33_1 : Sl, e_5 = .returned (.tuple [(.slice s33_0.a s33_0.n s33_0.c), (.slice s33_1.a s33_1.n s33_1.c)].toArray) ∧
  Join [(2, .bool)] (fun (b2_2 : Bool) (w7 : World) => R (.bool b2_2) w7) (fun J_2 =>
  Calls Try.prog 22 [(.slice s11_0.a s11_0.n s11_0.c)].toArray w6 (fun e_6 w8 => ∃ s37 : Sl, e_6 = .returned (.slice s37.a s37.n s37.c) ∧
  Calls Try.prog 21 [(.slice s37.a s37.n s37.c), (.slice s33_0.a s33_0.n s33_0.c)].toArray w8 (fun e_7 w9 => ∃ b39 : Bool, e_7 = .returned (.bool b39) ∧
  cond b39 (Calls Try.prog 16 [(.slice s11_1.a s11_1.n s11_1.c), (.slice s33_1.a s33_1.n s33_1.c)].toArray w9 (fun e_8 w10 => ∃ b43 : Bool, e_8 = .returned (.bool b43) ∧
  cond b43 (cond (x11_2 == (0 : Int)) (Calls Try.prog 14 [].toArray w10 (fun e_9 w11 => ∃ b50 : Bool, e_9 = .returned (.bool b50) ∧
  J_2 b50 w11)) (J_2 false w10)) (J_2 false w10))) (J_2 false w9)))))))))
theorem eq5 (s0 : Sl) (R : Value → World → Prop) (w : World) : funV Try.prog Try.f5 An5 [(.slice s0.a s0.n s0.c)] R w = S5 s0 R w := by kernel_rfl
theorem call5 (s0 : Sl) {R : Value → World → Prop} {w : World} (h : S5 s0 R w) : Calls Try.prog 5 [(.slice s0.a s0.n s0.c)].toArray w fun e w' => ∃ v, e = .returned v ∧ R v w' :=
  funV_calls mixed Try.func5 (an := An5) (by rw [eq5]; exact h)

/-- F6: cubeb/cubeblaw05.HistoryTwice -/
def An6 : An := (.sq .lf (.sq .lf (.sq (.sq .lf (.cd (.sq (.rj [] [(2, .bool)]) .lf) .lf)) (.sq .lf (.sq (.rj [] [(2, .bool)]) .lf)))))
def S6 (s0 : Sl) (R : Value → World → Prop) (w : World) : Prop :=
  Calls Try.prog 12 [(.slice s0.a s0.n s0.c)].toArray w (fun e w1 => ∃ s10 : Sl, e = .returned (.slice s10.a s10.n s10.c) ∧
  Calls Try.prog 19 [(.slice s10.a s10.n s10.c)].toArray w1 (fun e_2 w2 => ∃ s11_0 : Sl, ∃ s11_1 : Sl, ∃ x11_2 : Int, e_2 = .returned (.tuple [(.slice s11_0.a s11_0.n s11_0.c), (.slice s11_1.a s11_1.n s11_1.c), (.int .i64 x11_2)].toArray) ∧
  cond (x11_2 != (0 : Int)) (
  Join [(2, .bool)] (fun (b2 : Bool) (w3 : World) => R (.bool b2) w3) (fun J =>
  cond (x11_2 == (2 : Int)) (Calls Try.prog 14 [].toArray w2 (fun e_3 w4 => ∃ b20 : Bool, e_3 = .returned (.bool b20) ∧
  J b20 w4)) (J false w2))) (
  Calls Try.prog 19 [(.slice s11_0.a s11_0.n s11_0.c)].toArray w2 (fun e_4 w5 => ∃ s24_0 : Sl, ∃ s24_1 : Sl, ∃ x24_2 : Int, e_4 = .returned (.tuple [(.slice s24_0.a s24_0.n s24_0.c), (.slice s24_1.a s24_1.n s24_1.c), (.int .i64 x24_2)].toArray) ∧
  Join [(2, .bool)] (fun (b2_2 : Bool) (w6 : World) => R (.bool b2_2) w6) (fun J_2 =>
  cond (x24_2 == (0 : Int)) (Calls Try.prog 23 [(.slice s11_0.a s11_0.n s11_0.c), (.slice s24_0.a s24_0.n s24_0.c)].toArray w5 (fun e_5 w7 => ∃ b33 : Bool, e_5 = .returned (.bool b33) ∧
  cond b33 (cond (((s24_1.n : Nat) : Int) == (0 : Int)) (Calls Try.prog 14 [].toArray w7 (fun e_6 w8 => ∃ b41 : Bool, e_6 = .returned (.bool b41) ∧
  J_2 b41 w8)) (J_2 false w7)) (J_2 false w7))) (J_2 false w5))))))
theorem eq6 (s0 : Sl) (R : Value → World → Prop) (w : World) : funV Try.prog Try.f6 An6 [(.slice s0.a s0.n s0.c)] R w = S6 s0 R w := by kernel_rfl
theorem call6 (s0 : Sl) {R : Value → World → Prop} {w : World} (h : S6 s0 R w) : Calls Try.prog 6 [(.slice s0.a s0.n s0.c)].toArray w fun e w' => ∃ v, e = .returned v ∧ R v w' :=
  funV_calls mixed Try.func6 (an := An6) (by rw [eq6]; exact h)

/-- F8: cubeb/cubeblaw05.HistoryLocked -/
def An8 : An := (.sq .lf (.sq .lf (.sq (.sq .lf (.cd (.sq (.rj [] [(2, .bool)]) .lf) .lf)) (.sq .lf (.sq .lf (.sq (.sq (.rj [] [(65, .bool)]) (.cd (.sq .lf .lf) .lf)) (.sq .lf (.sq (.sq .lf (.bk [(12, .slice)] (.lp [(12, .slice), (68, .int .i64)] (.sq .lf (.sq (.cd .lf .lf) (.sq (.bk [(12, .slice)] (.sq .lf (.sq (.sq .lf (.cj [(12, .slice)] .lf .lf)) (.sq (.dr [0, 1, 2, 3, 4, 6, 5, 7, 8, 9] [] true (some [(89, .bool)])) (.cd (.sq .lf .lf) .lf))))) .lf)))))) (.sq (.sq .lf (.bk [] (.lp [(93, .int .i64)] (.sq .lf (.sq (.cd .lf .lf) (.sq (.bk [] (.sq .lf (.sq (.rj [] [(106, .bool)]) (.cd (.sq .lf .lf) .lf)))) .lf)))))) (.sq (.rj [] [(2, .bool)]) .lf))))))))))
def S8 (s0 : Sl) (R : Value → World → Prop) (w : World) : Prop :=
  Calls Try.prog 12 [(.slice s0.a s0.n s0.c)].toArray w (fun e w1 => ∃ s19 : Sl, e = .returned (.slice s19.a s19.n s19.c) ∧
  Calls Try.prog 19 [(.slice s19.a s19.n s19.c)].toArray w1 (fun e_2 w2 => ∃ s20_0 : Sl, ∃ s20_1 : Sl, ∃ x20_2 : Int, e_2 = .returned (.tuple [(.slice s20_0.a s20_0.n s20_0.c), (.slice s20_1.a s20_1.n s20_1.c), (.int .i64 x20_2)].toArray) ∧
  cond (x20_2 != (0 : Int)) (
  Join [(2, .bool)] (fun (b2 : Bool) (w3 : World) => R (.bool b2) w3) (fun J =>
  cond (x20_2 == (2 : Int)) (cond ((IntKind.wrap .i64 (((s20_0.n : Nat) : Int) + ((s20_1.n : Nat) : Int))) == (0 : Int)) (Calls Try.prog 14 [].toArray w2 (fun e_3 w4 => ∃ b37 : Bool, e_3 = .returned (.bool b37) ∧
  J b37 w4)) (J false w2)) (J false w2))) (
  Calls Try.prog 25 [(.slice s20_0.a s20_0.n s20_0.c)].toArray w2 (fun e_4 w5 => ∃ b41_0 : Bool, ∃ b41_1 : Bool, ∃ b41_2 : Bool, ∃ x41_3 : Int, e_4 = .returned (.tuple [(.bool b41_0), (.bool b41_1), (.bool b41_2), (.int .i64 x41_3)].toArray) ∧
  Calls Try.prog 17 [(.slice s20_0.a s20_0.n s20_0.c)].toArray w5 (fun e_5 w6 => ∃ s48_0 : Sl, ∃ x48_1 : Int, e_5 = .returned (.tuple [(.slice s48_0.a s48_0.n s48_0.c), (.int .i64 x48_1)].toArray) ∧
  Join [(65, .bool)] (fun (b65 : Bool) (w7 : World) => cond b65 (
  R (.bool false) w7) (
  Join [(12, .slice)] (fun (s12 : Sl) (w8 : World) => Join [] (fun (w9 : World) => Join [(2, .bool)] (fun (b2_2 : Bool) (w10 : World) => R (.bool b2_2) w10) (fun J_2 =>
  Calls Try.prog 22 [(.slice s20_0.a s20_0.n s20_0.c)].toArray w9 (fun e_6 w11 => ∃ s109 : Sl, e_6 = .returned (.slice s109.a s109.n s109.c) ∧
  Calls Try.prog 29 [(.slice s109.a s109.n s109.c), (.slice s12.a s12.n s12.c)].toArray w11 (fun e_7 w12 => ∃ b111 : Bool, e_7 = .returned (.bool b111) ∧
  cond b111 (Calls Try.prog 14 [].toArray w12 (fun e_8 w13 => ∃ b113 : Bool, e_8 = .returned (.bool b113) ∧
  J_2 b113 w13)) (J_2 false w12))))) (fun J_3 =>
  LoopV [(93, .int .i64)] (fun K => K (0 : Int) w8) (fun N => fun (x93 : Int) (w14 : World) =>
  cond (decide (x93 < ((s20_1.n : Nat) : Int))) (
  Join [] (fun (w15 : World) => N (IntKind.wrap .i64 (x93 + (1 : Int))) w15) (fun J_4 =>
  ∃ p95 : Pt, s20_1.a = some ⟨p95.b, p95.o, none⟩ ∧ 0 ≤ x93 ∧ x93 < ((s20_1.n : Nat) : Int) ∧ ∃ x96 : Int, World.cell? w14 ⟨p95.b, (p95.o + Int.toNat x93 * 1), none⟩ = some (.int .i64 x96) ∧ Join [(106, .bool)] (fun (b106 : Bool) (w16 : World) => cond b106 (
  R (.bool false) w16) (
  J_4 w16)) (fun J_5 =>
  Calls Try.prog 28 [(.slice s12.a s12.n s12.c), (.int .i64 x96)].toArray w14 (fun e_9 w17 => ∃ b99 : Bool, e_9 = .returned (.bool b99) ∧
  cond b99 (J_5 true w17) (Calls Try.prog 27 [(.slice s20_0.a s20_0.n s20_0.c), (.agg [(.int .i64 x96), (.int .i64 (3 : Int)), (.int .i64 (0 : Int))].toArray)].toArray w17 (fun e_10 w18 => ∃ b104 : Bool, e_10 = .returned (.bool b104) ∧
  J_5 (!b104) w18)))))) (
  J_3 w14)))) (fun J_6 =>
  LoopV [(12, .slice), (68, .int .i64)] (fun K => K ⟨none, 0, 0⟩ (0 : Int) w7) (fun N_2 => fun (s12_2 : Sl) (x68 : Int) (w19 : World) =>
  cond (decide (x68 < ((s20_0.n : Nat) : Int))) (
  Join [(12, .slice)] (fun (s12_3 : Sl) (w20 : World) => N_2 ⟨s12_3.a, s12_3.n, s12_3.c⟩ (IntKind.wrap .i64 (x68 + (1 : Int))) w20) (fun J_7 =>
  ∃ p70 : Pt, s20_0.a = some ⟨p70.b, p70.o, none⟩ ∧ 0 ≤ x68 ∧ x68 < ((s20_0.n : Nat) : Int) ∧ ∃ x71_0 : Int, ∃ x71_1 : Int, ∃ x71_2 : Int, rd w19 p70.b (p70.o + Int.toNat x68 * 3) [(.int .i64 x71_0), (.int .i64 x71_1), (.int .i64 x71_2)] ∧ Let (w19.alloc (.cells (zc Try.prog 38) 38)) fun w21 => 
  StoreOk w21 w19.heap.size 0 [(.int .i64 x71_0), (.int .i64 x71_1), (.int .i64 x71_2)] 3 ∧ Let (put w21 w19.heap.size 0 [(.int .i64 x71_0), (.int .i64 x71_1), (.int .i64 x71_2)]) fun w22 => 
  ∃ x73 : Int, World.cell? w22 ⟨w19.heap.size, (0 + 1), none⟩ = some (.int .i64 x73) ∧ Join [(12, .slice)] (fun (s12_4 : Sl) (w23 : World) => Join [(89, .bool)] (fun (b89 : Bool) (w24 : World) => cond b89 (
  R (.bool false) w24) (
  J_7 ⟨s12_4.a, s12_4.n, s12_4.c⟩ w24)) (fun J_8 =>
  ∃ S1 : World → Prop, S1 w23.drew ∧ Let w23.drew fun w25 =>
  ∃ x81 : Int, (∀ u, S1 u → World.cell? u ⟨w19.heap.size, (0 + 1), none⟩ = some (.int .i64 x81)) ∧ cond (x81 != (3 : Int)) (∃ x86_0 : Int, ∃ x86_1 : Int, ∃ x86_2 : Int, (∀ u, S1 u → rd u w19.heap.size 0 [(.int .i64 x86_0), (.int .i64 x86_1), (.int .i64 x86_2)]) ∧ Calls Try.prog 12 [(.slice s0.a s0.n s0.c)].toArray w25 (fun e_11 w26 => ∃ s85 : Sl, e_11 = .returned (.slice s85.a s85.n s85.c) ∧
  S1 w26 ∧ Calls Try.prog 27 [(.slice s85.a s85.n s85.c), (.agg [(.int .i64 x86_0), (.int .i64 x86_1), (.int .i64 x86_2)].toArray)].toArray w26 (fun e_12 w27 => ∃ b87 : Bool, e_12 = .returned (.bool b87) ∧
  S1 w27 ∧ J_8 (!b87) w27))) (J_8 false w25))) (fun J_9 =>
  cond (x73 == (2 : Int)) (
  ∃ x77 : Int, World.cell? w22 ⟨w19.heap.size, (0 + 0), none⟩ = some (.int .i64 x77) ∧ ∃ (s78 : Sl) (w28 : World), Sem.run Try.prog (Instr.buildSlice 24 1 [(0, (.int .i64 x77))].toArray) w22 = .ok (.slice s78.a s78.n s78.c) w28 ∧
  ∃ (s79 : Sl) (w29 : World), Sem.run Try.prog (Builtin.append_ #[24, 24] 24 #[(.slice s12_2.a s12_2.n s12_2.c), (.slice s78.a s78.n s78.c)]) w28 = .ok (.slice s79.a s79.n s79.c) w29 ∧
  J_9 ⟨s79.a, s79.n, s79.c⟩ w29) (
  J_9 ⟨s12_2.a, s12_2.n, s12_2.c⟩ w22)))) (
  J_6 ⟨s12_2.a, s12_2.n, s12_2.c⟩ w19))))) (fun J_10 =>
  Calls Try.prog 26 [(.slice s20_0.a s20_0.n s20_0.c)].toArray w6 (fun e_13 w30 => ∃ b52 : Bool, e_13 = .returned (.bool b52) ∧
  cond (!b52) (J_10 true w30) (cond (!b41_2) (J_10 true w30) (cond (x41_3 != (0 : Int)) (J_10 true w30) (J_10 (x48_1 != (0 : Int)) w30))))))))))
theorem eq8 (s0 : Sl) (R : Value → World → Prop) (w : World) : funV Try.prog Try.f8 An8 [(.slice s0.a s0.n s0.c)] R w = S8 s0 R w := by kernel_rfl
theorem call8 (s0 : Sl) {R : Value → World → Prop} {w : World} (h : S8 s0 R w) : Calls Try.prog 8 [(.slice s0.a s0.n s0.c)].toArray w fun e w' => ∃ v, e = .returned v ∧ R v w' :=
  funV_calls mixed Try.func8 (an := An8) (by rw [eq8]; exact h)

/-- F22: cubeb/cubeblaw05.own -/
def An22 : An := (.sq .lf (.sq .lf (.sq (.sq .lf (.bk [(3, .slice)] (.lp [(3, .slice), (8, .int .i64)] (.sq .lf (.sq (.cd .lf .lf) (.sq (.bk [(3, .slice)] (.sq .lf .lf)) .lf)))))) (.sq .lf .lf))))
def S22 (s0 : Sl) (R : Value → World → Prop) (w : World) : Prop :=
  Join [(3, .slice)] (fun (s3 : Sl) (w1 : World) => R (.slice s3.a s3.n s3.c) w1) (fun J =>
  LoopV [(3, .slice), (8, .int .i64)] (fun K => K ⟨none, 0, 0⟩ (0 : Int) w) (fun N => fun (s3_2 : Sl) (x8 : Int) (w2 : World) =>
  cond (decide (x8 < ((s0.n : Nat) : Int))) (
  Join [(3, .slice)] (fun (s3_3 : Sl) (w3 : World) => N ⟨s3_3.a, s3_3.n, s3_3.c⟩ (IntKind.wrap .i64 (x8 + (1 : Int))) w3) (fun J_2 =>
  ∃ p10 : Pt, s0.a = some ⟨p10.b, p10.o, none⟩ ∧ 0 ≤ x8 ∧ x8 < ((s0.n : Nat) : Int) ∧ ∃ x11_0 : Int, ∃ x11_1 : Int, ∃ x11_2 : Int, rd w2 p10.b (p10.o + Int.toNat x8 * 3) [(.int .i64 x11_0), (.int .i64 x11_1), (.int .i64 x11_2)] ∧ Let (w2.alloc (.cells (zc Try.prog 38) 38)) fun w4 => 
  StoreOk w4 w2.heap.size 0 [(.int .i64 x11_0), (.int .i64 x11_1), (.int .i64 x11_2)] 3 ∧ Let (put w4 w2.heap.size 0 [(.int .i64 x11_0), (.int .i64 x11_1), (.int .i64 x11_2)]) fun w5 => 
  ∃ x14 : Int, World.cell? w5 ⟨w2.heap.size, (0 + 0), none⟩ = some (.int .i64 x14) ∧ ∃ x16 : Int, World.cell? w5 ⟨w2.heap.size, (0 + 1), none⟩ = some (.int .i64 x16) ∧ ∃ x18 : Int, World.cell? w5 ⟨w2.heap.size, (0 + 2), none⟩ = some (.int .i64 x18) ∧ ∃ (s20 : Sl) (w6 : World), Sem.run Try.prog (Instr.buildSlice 23 1 [(0, (.agg [(.int .i64 x14), (.int .i64 x16), (.int .i64 x18)].toArray))].toArray) w5 = .ok (.slice s20.a s20.n s20.c) w6 ∧
  ∃ (s21 : Sl) (w7 : World), Sem.run Try.prog (Builtin.append_ #[23, 23] 23 #[(.slice s3_2.a s3_2.n s3_2.c), (.slice s20.a s20.n s20.c)]) w6 = .ok (.slice s21.a s21.n s21.c) w7 ∧
  J_2 ⟨s21.a, s21.n, s21.c⟩ w7)) (
  J ⟨s3_2.a, s3_2.n, s3_2.c⟩ w2)))
theorem eq22 (s0 : Sl) (R : Value → World → Prop) (w : World) : funV Try.prog Try.f22 An22 [(.slice s0.a s0.n s0.c)] R w = S22 s0 R w := by kernel_rfl
theorem call22 (s0 : Sl) {R : Value → World → Prop} {w : World} (h : S22 s0 R w) : Calls Try.prog 22 [(.slice s0.a s0.n s0.c)].toArray w fun e w' => ∃ v, e = .returned v ∧ R v w' :=
  funV_calls mixed Try.func22 (an := An22) (by rw [eq22]; exact h)

/-- F21: slices.Equal[cubeb/cubebref05.History,cubeb/cubebref05.Op] -/
def An21 : An := (.sq .lf (.sq (.sq .lf (.cd (.sq .lf .lf) .lf)) (.sq (.sq .lf (.bk [] (.lp [(13, .int .i64)] (.sq .lf (.sq (.cd .lf .lf) (.sq (.bk [] (.sq .lf (.sq (.dr [0, 1, 2, 3, 4, 5, 6, 7, 8] [] false none) (.cd (.sq .lf .lf) .lf)))) .lf)))))) (.sq .lf .lf))))
def S21 (s0 : Sl) (s1 : Sl) (R : Value → World → Prop) (w : World) : Prop :=
  cond (((s0.n : Nat) : Int) != ((s1.n : Nat) : Int)) (
  R (.bool false) w) (
  Join [] (fun (w1 : World) => R (.bool true) w1) (fun J =>
  LoopV [(13, .int .i64)] (fun K => K (0 : Int) w) (fun N => fun (x13 : Int) (w2 : World) =>
  cond (decide (x13 < ((s0.n : Nat) : Int))) (
  Join [] (fun (w3 : World) => N (IntKind.wrap .i64 (x13 + (1 : Int))) w3) (fun J_2 =>
  Let w2.drew fun w4 =>
  ∃ p18 : Pt, s0.a = some ⟨p18.b, p18.o, none⟩ ∧ 0 ≤ x13 ∧ x13 < ((s0.n : Nat) : Int) ∧ ∃ x19_0 : Int, ∃ x19_1 : Int, ∃ x19_2 : Int, rd w4 p18.b (p18.o + Int.toNat x13 * 3) [(.int .i64 x19_0), (.int .i64 x19_1), (.int .i64 x19_2)] ∧ ∃ p22 : Pt, s1.a = some ⟨p22.b, p22.o, none⟩ ∧ 0 ≤ x13 ∧ x13 < ((s1.n : Nat) : Int) ∧ ∃ x23_0 : Int, ∃ x23_1 : Int, ∃ x23_2 : Int, rd w4 p22.b (p22.o + Int.toNat x13 * 3) [(.int .i64 x23_0), (.int .i64 x23_1), (.int .i64 x23_2)] ∧ ∃ r24 : Bool, (∀ w, Sem.run Try.prog (aggEq .neq 37 (.agg [(.int .i64 x19_0), (.int .i64 x19_1), (.int .i64 x19_2)].toArray) (.agg [(.int .i64 x23_0), (.int .i64 x23_1), (.int .i64 x23_2)].toArray)) w = .ok (.bool r24) w) ∧ cond r24 (
  R (.bool false) w4) (
  J_2 w4))) (
  J w2))))
theorem eq21 (s0 : Sl) (s1 : Sl) (R : Value → World → Prop) (w : World) : funV Try.prog Try.f21 An21 [(.slice s0.a s0.n s0.c), (.slice s1.a s1.n s1.c)] R w = S21 s0 s1 R w := by kernel_rfl
theorem call21 (s0 : Sl) (s1 : Sl) {R : Value → World → Prop} {w : World} (h : S21 s0 s1 R w) : Calls Try.prog 21 [(.slice s0.a s0.n s0.c), (.slice s1.a s1.n s1.c)].toArray w fun e w' => ∃ v, e = .returned v ∧ R v w' :=
  funV_calls mixed Try.func21 (an := An21) (by rw [eq21]; exact h)

/-- F23: slices.Equal[cubeb/history.History,cubeb/history.Op] -/
def An23 : An := (.sq .lf (.sq (.sq .lf (.cd (.sq .lf .lf) .lf)) (.sq (.sq .lf (.bk [] (.lp [(13, .int .i64)] (.sq .lf (.sq (.cd .lf .lf) (.sq (.bk [] (.sq .lf (.sq (.dr [0, 1, 2, 3, 4, 5, 6, 7, 8] [] false none) (.cd (.sq .lf .lf) .lf)))) .lf)))))) (.sq .lf .lf))))
def S23 (s0 : Sl) (s1 : Sl) (R : Value → World → Prop) (w : World) : Prop :=
  cond (((s0.n : Nat) : Int) != ((s1.n : Nat) : Int)) (
  R (.bool false) w) (
  Join [] (fun (w1 : World) => R (.bool true) w1) (fun J =>
  LoopV [(13, .int .i64)] (fun K => K (0 : Int) w) (fun N => fun (x13 : Int) (w2 : World) =>
  cond (decide (x13 < ((s0.n : Nat) : Int))) (
  Join [] (fun (w3 : World) => N (IntKind.wrap .i64 (x13 + (1 : Int))) w3) (fun J_2 =>
  Let w2.drew fun w4 =>
  ∃ p18 : Pt, s0.a = some ⟨p18.b, p18.o, none⟩ ∧ 0 ≤ x13 ∧ x13 < ((s0.n : Nat) : Int) ∧ ∃ x19_0 : Int, ∃ x19_1 : Int, ∃ x19_2 : Int, rd w4 p18.b (p18.o + Int.toNat x13 * 3) [(.int .i64 x19_0), (.int .i64 x19_1), (.int .i64 x19_2)] ∧ ∃ p22 : Pt, s1.a = some ⟨p22.b, p22.o, none⟩ ∧ 0 ≤ x13 ∧ x13 < ((s1.n : Nat) : Int) ∧ ∃ x23_0 : Int, ∃ x23_1 : Int, ∃ x23_2 : Int, rd w4 p22.b (p22.o + Int.toNat x13 * 3) [(.int .i64 x23_0), (.int .i64 x23_1), (.int .i64 x23_2)] ∧ ∃ r24 : Bool, (∀ w, Sem.run Try.prog (aggEq .neq 38 (.agg [(.int .i64 x19_0), (.int .i64 x19_1), (.int .i64 x19_2)].toArray) (.agg [(.int .i64 x23_0), (.int .i64 x23_1), (.int .i64 x23_2)].toArray)) w = .ok (.bool r24) w) ∧ cond r24 (
  R (.bool false) w4) (
  J_2 w4))) (
  J w2))))
theorem eq23 (s0 : Sl) (s1 : Sl) (R : Value → World → Prop) (w : World) : funV Try.prog Try.f23 An23 [(.slice s0.a s0.n s0.c), (.slice s1.a s1.n s1.c)] R w = S23 s0 s1 R w := by kernel_rfl
theorem call23 (s0 : Sl) (s1 : Sl) {R : Value → World → Prop} {w : World} (h : S23 s0 s1 R w) : Calls Try.prog 23 [(.slice s0.a s0.n s0.c), (.slice s1.a s1.n s1.c)].toArray w fun e w' => ∃ v, e = .returned v ∧ R v w' :=
  funV_calls mixed Try.func23 (an := An23) (by rw [eq23]; exact h)

/-- F25: cubeb/history.Recovery -/
def An25 : An := (.sq .lf (.sq (.sq .lf (.cd (.sq .lf .lf) .lf)) (.sq .lf (.sq .lf (.sq (.sq .lf (.bk [(2, .bool), (3, .bool), (4, .bool)] (.lp [(2, .bool), (3, .bool), (4, .bool), (26, .int .i64)] (.sq .lf (.sq (.cd .lf .lf) (.sq (.bk [(2, .bool), (3, .bool), (4, .bool)] (.sq .lf (.sq .lf (.sq (.sq (.rj [] [(42, .bool)]) (.cj [(2, .bool), (3, .bool)] (.sq (.dr [0, 1, 2, 3, 4, 5, 6, 7, 8] [] false none) (.sq (.rj [] [(2, .bool)]) (.rj [] [(3, .bool)]))) .lf)) (.sq (.sq .lf (.cd .lf .lf)) (.sq .lf (.bk [(4, .bool)] (.lp [(4, .bool), (81, .int .i64)] (.sq .lf (.sq (.cd .lf .lf) (.sq (.bk [(4, .bool)] (.sq .lf (.sq .lf (.sq (.rj [] [(119, .bool)]) (.cj [(4, .bool)] .lf .lf))))) .lf))))))))))) .lf)))))) (.sq .lf .lf))))))
def S25 (s0 : Sl) (R : Value → World → Prop) (w : World) : Prop :=
  Calls Try.prog 26 [(.slice s0.a s0.n s0.c)].toArray w (fun e w1 => ∃ b17 : Bool, e = .returned (.bool b17) ∧
  cond (!b17) (
  R (.tuple [(.bool false), (.bool false), (.bool false), (.int .i64 (2 : Int))].toArray) w1) (
  Calls Try.prog 54 [(.slice s0.a s0.n s0.c), (.int .i64 (2 : Int))].toArray w1 (fun e_2 w2 => ∃ m20 : Option Nat, e_2 = .returned (.map m20) ∧
  Calls Try.prog 54 [(.slice s0.a s0.n s0.c), (.int .i64 (3 : Int))].toArray w2 (fun e_3 w3 => ∃ m22 : Option Nat, e_3 = .returned (.map m22) ∧
  Calls Try.prog 55 [(.slice s0.a s0.n s0.c)].toArray w3 (fun e_4 w4 => ∃ s24 : Sl, e_4 = .returned (.slice s24.a s24.n s24.c) ∧
  Join [(2, .bool), (3, .bool), (4, .bool)] (fun (b2 : Bool) (b3 : Bool) (b4 : Bool) (w5 : World) => R (.tuple [(.bool b2), (.bool b3), (.bool b4), (.int .i64 (0 : Int))].toArray) w5) (fun J =>
  LoopV [(2, .bool), (3, .bool), (4, .bool), (26, .int .i64)] (fun K => K true true true (0 : Int) w4) (fun N => fun (b2_2 : Bool) (b3_2 : Bool) (b4_2 : Bool) (x26 : Int) (w6 : World) =>
  cond (decide (x26 < ((s24.n : Nat) : Int))) (
  Join [(2, .bool), (3, .bool), (4, .bool)] (fun (b2_3 : Bool) (b3_3 : Bool) (b4_3 : Bool) (w7 : World) => N b2_3 b3_3 b4_3 (IntKind.wrap .i64 (x26 + (1 : Int))) w7) (fun J_2 =>
  ∃ p29 : Pt, s24.a = some ⟨p29.b, p29.o, none⟩ ∧ 0 ≤ x26 ∧ x26 < ((s24.n : Nat) : Int) ∧ ∃ x30 : Int, World.cell? w6 ⟨p29.b, (p29.o + Int.toNat x26 * 1), none⟩ = some (.int .i64 x30) ∧ ∃ p33 : Pt, s0.a = some ⟨p33.b, p33.o, none⟩ ∧ 0 ≤ x26 ∧ x26 < ((s0.n : Nat) : Int) ∧ ∃ x34_0 : Int, ∃ x34_1 : Int, ∃ x34_2 : Int, rd w6 p33.b (p33.o + Int.toNat x26 * 3) [(.int .i64 x34_0), (.int .i64 x34_1), (.int .i64 x34_2)] ∧ Let (w6.alloc (.cells (zc Try.prog 38) 38)) fun w8 => 
  StoreOk w8 w6.heap.size 0 [(.int .i64 x34_0), (.int .i64 x34_1), (.int .i64 x34_2)] 3 ∧ Let (put w8 w6.heap.size 0 [(.int .i64 x34_0), (.int .i64 x34_1), (.int .i64 x34_2)]) fun w9 => 
  Join [(42, .bool)] (fun (b42 : Bool) (w10 : World) => Join [(2, .bool), (3, .bool)] (fun (b2_4 : Bool) (b3_4 : Bool) (w11 : World) => ∃ x75 : Int, World.cell? w11 ⟨w6.heap.size, (0 + 1), none⟩ = some (.int .i64 x75) ∧ cond (decide (x75 > (1 : Int))) (
  J_2 b2_4 b3_4 b4_2 w11) (
  0 ≤ x26 ∧ x26 ≤ ((s0.c : Nat) : Int) ∧ Join [(4, .bool)] (fun (b4_4 : Bool) (w12 : World) => J_2 b2_4 b3_4 b4_4 w12) (fun J_3 =>
  LoopV [(4, .bool), (81, .int .i64)] (fun K => K b4_2 (0 : Int) w11) (fun N_2 => fun (b4_5 : Bool) (x81 : Int) (w13 : World) =>
  cond (decide (x81 < (((Int.toNat x26) : Nat) : Int))) (
  Join [(4, .bool)] (fun (b4_6 : Bool) (w14 : World) => N_2 b4_6 (IntKind.wrap .i64 (x81 + (1 : Int))) w14) (fun J_4 =>
  ∃ p83 : Pt, s0.a = some ⟨p83.b, p83.o, none⟩ ∧ 0 ≤ x81 ∧ x81 < (((Int.toNat x26) : Nat) : Int) ∧ ∃ x84_0 : Int, ∃ x84_1 : Int, ∃ x84_2 : Int, rd w13 p83.b (p83.o + Int.toNat x81 * 3) [(.int .i64 x84_0), (.int .i64 x84_1), (.int .i64 x84_2)] ∧ Let (w13.alloc (.cells (zc Try.prog 38) 38)) fun w15 => 
  StoreOk w15 w13.heap.size 0 [(.int .i64 x84_0), (.int .i64 x84_1), (.int .i64 x84_2)] 3 ∧ Let (put w15 w13.heap.size 0 [(.int .i64 x84_0), (.int .i64 x84_1), (.int .i64 x84_2)]) fun w16 => 
  ∃ x87 : Int, World.cell? w16 ⟨w13.heap.size, (0 + 0), none⟩ = some (.int .i64 x87) ∧ ∃ x88 : Int, Sem.run Try.prog (Instr.lookup 103 (.map m20) (.int .i64 x87) false) w16 = .ok (.int .i64 x88) w16 ∧ ∃ x91 : Int, World.cell? w16 ⟨w13.heap.size, (0 + 0), none⟩ = some (.int .i64 x91) ∧ ∃ x92 : Int, Sem.run Try.prog (Instr.lookup 103 (.map m22) (.int .i64 x91) false) w16 = .ok (.int .i64 x92) w16 ∧ Join [(119, .bool)] (fun (b119 : Bool) (w17 : World) => Join [(4, .bool)] (fun (b4_7 : Bool) (w18 : World) => J_4 b4_7 w18) (fun J_5 =>
  cond b119 (
  J_5 false w17) (
  J_5 b4_5 w17))) (fun J_6 =>
  ∃ x95 : Int, World.cell? w16 ⟨w13.heap.size, (0 + 1), none⟩ = some (.int .i64 x95) ∧ cond (x95 == (1 : Int)) (∃ x99 : Int, World.cell? w16 ⟨w13.heap.size, (0 + 2), none⟩ = some (.int .i64 x99) ∧ ∃ x101 : Int, World.cell? w16 ⟨w6.heap.size, (0 + 2), none⟩ = some (.int .i64 x101) ∧ cond (x99 == x101) (∃ x106 : Int, World.cell? w16 ⟨w13.heap.size, (0 + 0), none⟩ = some (.int .i64 x106) ∧ ∃ x108 : Int, World.cell? w16 ⟨w6.heap.size, (0 + 0), none⟩ = some (.int .i64 x108) ∧ cond (x106 != x108) (cond (decide ((if x92 > x88 then x92 else x88) < (0 : Int))) (J_6 true w16) (J_6 (decide ((if x92 > x88 then x92 else x88) > x26)) w16)) (J_6 false w16)) (J_6 false w16)) (J_6 false w16)))) (
  J_3 b4_5 w13))))) (fun J_7 =>
  cond b42 (
  Let w10.drew fun w19 =>
  ∃ x45 : Int, World.cell? w19 ⟨w6.heap.size, (0 + 0), none⟩ = some (.int .i64 x45) ∧ ∃ x46 : Int, Sem.run Try.prog (Instr.lookup 103 (.map m20) (.int .i64 x45) false) w19 = .ok (.int .i64 x46) w19 ∧ ∃ x49 : Int, Sem.run Try.prog (Instr.lookup 103 (.map m20) (.int .i64 x30) false) w19 = .ok (.int .i64 x49) w19 ∧ Join [(2, .bool)] (fun (b2_5 : Bool) (w20 : World) => Join [(3, .bool)] (fun (b3_5 : Bool) (w21 : World) => J_7 b2_5 b3_5 w21) (fun J_8 =>
  cond b3_2 (cond (decide (x49 ≥ (0 : Int))) (J_8 (decide (x49 < x26)) w20) (J_8 false w20)) (J_8 false w20))) (fun J_9 =>
  cond b2_2 (cond (decide (x46 < (0 : Int))) (J_9 true w19) (cond (decide (x49 ≥ (0 : Int))) (J_9 (decide (x49 < x46)) w19) (J_9 false w19))) (J_9 false w19))) (
  J_7 b2_2 b3_2 w10))) (fun J_10 =>
  cond (decide (x30 > (0 : Int))) (∃ x40 : Int, World.cell? w9 ⟨w6.heap.size, (0 + 0), none⟩ = some (.int .i64 x40) ∧ J_10 (x30 != x40) w9) (J_10 false w9)))) (
  J b2_2 b3_2 b4_2 w6))))))))
theorem eq25 (s0 : Sl) (R : Value → World → Prop) (w : World) : funV Try.prog Try.f25 An25 [(.slice s0.a s0.n s0.c)] R w = S25 s0 R w := by kernel_rfl
theorem call25 (s0 : Sl) {R : Value → World → Prop} {w : World} (h : S25 s0 R w) : Calls Try.prog 25 [(.slice s0.a s0.n s0.c)].toArray w fun e w' => ∃ v, e = .returned v ∧ R v w' :=
  funV_calls mixed Try.func25 (an := An25) (by rw [eq25]; exact h)

/-- F29: cubeb/cubebref05.Equivalent -/
def An29 : An := (.sq .lf (.sq (.sq .lf (.bk [] (.lp [(14, .int .i64)] (.sq .lf (.sq (.cd .lf .lf) (.sq (.bk [] (.sq .lf (.sq .lf (.sq (.sq .lf (.bk [(7, .bool)] (.lp [(7, .bool), (25, .int .i64)] (.sq .lf (.sq (.cd .lf .lf) (.sq (.bk [(7, .bool)] (.sq .lf (.rj [] [(7, .bool)]))) .lf)))))) (.sq .lf (.cd (.sq .lf .lf) .lf)))))) .lf)))))) (.sq .lf .lf)))
def S29 (s0 : Sl) (s1 : Sl) (R : Value → World → Prop) (w : World) : Prop :=
  Calls Try.prog 41 [(.slice s0.a s0.n s0.c)].toArray w (fun e w1 => ∃ s11 : Sl, e = .returned (.slice s11.a s11.n s11.c) ∧
  Calls Try.prog 40 [(.slice s11.a s11.n s11.c)].toArray w1 (fun e_2 w2 => ∃ s12 : Sl, e_2 = .returned (.slice s12.a s12.n s12.c) ∧
  Join [] (fun (w3 : World) => R (.bool false) w3) (fun J =>
  LoopV [(14, .int .i64)] (fun K => K (0 : Int) w2) (fun N => fun (x14 : Int) (w4 : World) =>
  cond (decide (x14 < ((s12.n : Nat) : Int))) (
  Join [] (fun (w5 : World) => N (IntKind.wrap .i64 (x14 + (1 : Int))) w5) (fun J_2 =>
  ∃ p16 : Pt, s12.a = some ⟨p16.b, p16.o, none⟩ ∧ 0 ≤ x14 ∧ x14 < ((s12.n : Nat) : Int) ∧ ∃ s17 : Sl, World.cell? w4 ⟨p16.b, (p16.o + Int.toNat x14 * 1), none⟩ = some (.slice s17.a s17.n s17.c) ∧ Join [(7, .bool)] (fun (b7 : Bool) (w6 : World) => cond b7 (
  Calls Try.prog 59 [(.slice s0.a s0.n s0.c)].toArray w6 (fun e_3 w7 => ∃ cs43 : List Value, cs43.length = 49 ∧ e_3 = .returned (.agg cs43.toArray) ∧
  Calls Try.prog 58 [(.slice s1.a s1.n s1.c), (.agg cs43.toArray)].toArray w7 (fun e_4 w8 => ∃ b44 : Bool, e_4 = .returned (.bool b44) ∧
  R (.bool b44) w8))) (
  J_2 w6)) (fun J_3 =>
  LoopV [(7, .bool), (25, .int .i64)] (fun K => K (((s17.n : Nat) : Int) == ((s1.n : Nat) : Int)) (0 : Int) w4) (fun N_2 => fun (b7_2 : Bool) (x25 : Int) (w9 : World) =>
  cond (decide (x25 < ((s17.n : Nat) : Int))) (
  Join [(7, .bool)] (fun (b7_3 : Bool) (w10 : World) => N_2 b7_3 (IntKind.wrap .i64 (x25 + (1 : Int))) w10) (fun J_4 =>
  ∃ p28 : Pt, s17.a = some ⟨p28.b, p28.o, none⟩ ∧ 0 ≤ x25 ∧ x25 < ((s17.n : Nat) : Int) ∧ ∃ x29 : Int, World.cell? w9 ⟨p28.b, (p28.o + Int.toNat x25 * 1), none⟩ = some (.int .i64 x29) ∧ Join [(7, .bool)] (fun (b7_4 : Bool) (w11 : World) => J_4 b7_4 w11) (fun J_5 =>
  cond b7_2 (∃ p34 : Pt, s1.a = some ⟨p34.b, p34.o, none⟩ ∧ 0 ≤ x25 ∧ x25 < ((s1.n : Nat) : Int) ∧ ∃ x35 : Int, World.cell? w9 ⟨p34.b, (p34.o + Int.toNat x25 * 1), none⟩ = some (.int .i64 x35) ∧ J_5 (x35 == x29) w9) (J_5 false w9)))) (
  J_3 b7_2 w9))))) (
  J w4)))))
theorem eq29 (s0 : Sl) (s1 : Sl) (R : Value → World → Prop) (w : World) : funV Try.prog Try.f29 An29 [(.slice s0.a s0.n s0.c), (.slice s1.a s1.n s1.c)] R w = S29 s0 s1 R w := by kernel_rfl
theorem call29 (s0 : Sl) (s1 : Sl) {R : Value → World → Prop} {w : World} (h : S29 s0 s1 R w) : Calls Try.prog 29 [(.slice s0.a s0.n s0.c), (.slice s1.a s1.n s1.c)].toArray w fun e w' => ∃ v, e = .returned v ∧ R v w' :=
  funV_calls mixed Try.func29 (an := An29) (by rw [eq29]; exact h)

/-- F58: cubeb/cubebref05.agrees -/
def An58 : An := (.sq .lf (.sq (.sq .lf (.bk [] (.lp [(11, .int .i64)] (.sq .lf (.sq (.cd .lf .lf) (.sq (.bk [] (.sq .lf (.sq .lf (.bk [] (.lp [(20, .int .i64)] (.sq .lf (.sq (.cd .lf .lf) (.sq (.bk [] (.sq .lf (.sq .lf (.cd (.sq .lf .lf) .lf)))) .lf)))))))) .lf)))))) (.sq .lf .lf)))
def S58 (s0 : Sl) (cs1 : List Value) (R : Value → World → Prop) (w : World) : Prop :=
  Let (w.alloc (.cells cs1.toArray 109)) fun w1 => 
  Join [] (fun (w2 : World) => R (.bool true) w2) (fun J =>
  LoopV [(11, .int .i64)] (fun K => K (0 : Int) w1) (fun N => fun (x11 : Int) (w3 : World) =>
  cond (decide (x11 < ((s0.n : Nat) : Int))) (
  Join [] (fun (w4 : World) => N (IntKind.wrap .i64 (x11 + (1 : Int))) w4) (fun J_2 =>
  ∃ p14 : Pt, s0.a = some ⟨p14.b, p14.o, none⟩ ∧ 0 ≤ x11 ∧ x11 < ((s0.n : Nat) : Int) ∧ ∃ x15 : Int, World.cell? w3 ⟨p14.b, (p14.o + Int.toNat x11 * 1), none⟩ = some (.int .i64 x15) ∧ 0 ≤ x11 ∧ x11 ≤ ((s0.c : Nat) : Int) ∧ Join [] (fun (w5 : World) => J_2 w5) (fun J_3 =>
  LoopV [(20, .int .i64)] (fun K => K (0 : Int) w3) (fun N_2 => fun (x20 : Int) (w6 : World) =>
  cond (decide (x20 < (((Int.toNat x11) : Nat) : Int))) (
  Join [] (fun (w7 : World) => N_2 (IntKind.wrap .i64 (x20 + (1 : Int))) w7) (fun J_4 =>
  ∃ p22 : Pt, s0.a = some ⟨p22.b, p22.o, none⟩ ∧ 0 ≤ x20 ∧ x20 < (((Int.toNat x11) : Nat) : Int) ∧ ∃ x23 : Int, World.cell? w6 ⟨p22.b, (p22.o + Int.toNat x20 * 1), none⟩ = some (.int .i64 x23) ∧ 0 ≤ x15 ∧ x15 < ((7 : Nat) : Int) ∧ 0 ≤ x23 ∧ x23 < ((7 : Nat) : Int) ∧ ∃ b28 : Bool, World.cell? w6 ⟨w.heap.size, ((0 + Int.toNat x15 * 7) + Int.toNat x23 * 1), none⟩ = some (.bool b28) ∧ cond b28 (
  R (.bool false) w6) (
  J_4 w6))) (
  J_3 w6))))) (
  J w3)))
theorem eq58 (s0 : Sl) (cs1 : List Value) (R : Value → World → Prop) (w : World) : funV Try.prog Try.f58 An58 [(.slice s0.a s0.n s0.c), (.agg cs1.toArray)] R w = S58 s0 cs1 R w := by kernel_rfl
theorem call58 (s0 : Sl) (cs1 : List Value) {R : Value → World → Prop} {w : World} (h : S58 s0 cs1 R w) : Calls Try.prog 58 [(.slice s0.a s0.n s0.c), (.agg cs1.toArray)].toArray w fun e w' => ∃ v, e = .returned v ∧ R v w' :=
  funV_calls mixed Try.func58 (an := An58) (by rw [eq58]; exact h)

/-- F59: cubeb/cubebref05.conflicts -/
def An59 : An := (.sq .lf (.sq .lf (.sq .lf (.sq (.sq .lf (.bk [] (.lp [(12, .int .i64)] (.sq .lf (.sq (.cd .lf .lf) (.sq (.bk [] (.sq .lf (.sq .lf (.bk [] (.lp [(21, .int .i64)] (.sq .lf (.sq (.cd .lf .lf) (.sq (.bk [] (.sq .lf (.sq (.rj [] [(54, .bool)]) (.cj [] (.dr [0, 1, 2, 3, 4, 5, 6] [] false none) .lf)))) .lf)))))))) .lf)))))) (.sq .lf .lf)))))
def S59 (s0 : Sl) (R : Value → World → Prop) (w : World) : Prop :=
  Let (w.alloc (.cells (zc Try.prog 109) 109)) fun w1 => 
  Let (w1.alloc (.cells (zc Try.prog 109) 109)) fun w2 => 
  Calls Try.prog 70 [(.slice s0.a s0.n s0.c)].toArray w2 (fun e w3 => ∃ s9 : Sl, e = .returned (.slice s9.a s9.n s9.c) ∧
  Join [] (fun (w4 : World) => ∃ cs63 : List Value, cs63.length = 49 ∧ rd w4 w1.heap.size 0 cs63 ∧ StoreOk w4 w.heap.size 0 cs63 49 ∧ Let (put w4 w.heap.size 0 cs63) fun w5 => 
  ∃ csr2 : List Value, csr2.length = 49 ∧ rd w5 w.heap.size 0 csr2 ∧ R (.agg csr2.toArray) w5) (fun J =>
  LoopV [(12, .int .i64)] (fun K => K (0 : Int) w3) (fun N => fun (x12 : Int) (w6 : World) =>
  cond (decide (x12 < ((s9.n : Nat) : Int))) (
  Join [] (fun (w7 : World) => N (IntKind.wrap .i64 (x12 + (1 : Int))) w7) (fun J_2 =>
  ∃ p15 : Pt, s9.a = some ⟨p15.b, p15.o, none⟩ ∧ 0 ≤ x12 ∧ x12 < ((s9.n : Nat) : Int) ∧ ∃ x16_0 : Int, ∃ x16_1 : Int, ∃ x16_2 : Int, rd w6 p15.b (p15.o + Int.toNat x12 * 3) [(.int .i64 x16_0), (.int .i64 x16_1), (.int .i64 x16_2)] ∧ Let (w6.alloc (.cells (zc Try.prog 37) 37)) fun w8 => 
  StoreOk w8 w6.heap.size 0 [(.int .i64 x16_0), (.int .i64 x16_1), (.int .i64 x16_2)] 3 ∧ Let (put w8 w6.heap.size 0 [(.int .i64 x16_0), (.int .i64 x16_1), (.int .i64 x16_2)]) fun w9 => 
  0 ≤ x12 ∧ x12 ≤ ((s9.c : Nat) : Int) ∧ Join [] (fun (w10 : World) => J_2 w10) (fun J_3 =>
  LoopV [(21, .int .i64)] (fun K => K (0 : Int) w9) (fun N_2 => fun (x21 : Int) (w11 : World) =>
  cond (decide (x21 < (((Int.toNat x12) : Nat) : Int))) (
  Join [] (fun (w12 : World) => N_2 (IntKind.wrap .i64 (x21 + (1 : Int))) w12) (fun J_4 =>
  ∃ p23 : Pt, s9.a = some ⟨p23.b, p23.o, none⟩ ∧ 0 ≤ x21 ∧ x21 < (((Int.toNat x12) : Nat) : Int) ∧ ∃ x24_0 : Int, ∃ x24_1 : Int, ∃ x24_2 : Int, rd w11 p23.b (p23.o + Int.toNat x21 * 3) [(.int .i64 x24_0), (.int .i64 x24_1), (.int .i64 x24_2)] ∧ Let (w11.alloc (.cells (zc Try.prog 37) 37)) fun w13 => 
  StoreOk w13 w11.heap.size 0 [(.int .i64 x24_0), (.int .i64 x24_1), (.int .i64 x24_2)] 3 ∧ Let (put w13 w11.heap.size 0 [(.int .i64 x24_0), (.int .i64 x24_1), (.int .i64 x24_2)]) fun w14 => 
  Join [(54, .bool)] (fun (b54 : Bool) (w15 : World) => Join [] (fun (w16 : World) => J_4 w16) (fun J_5 =>
  cond b54 (
  Let w15.drew fun w17 =>
  ∃ x56 : Int, World.cell? w17 ⟨w11.heap.size, (0 + 0), none⟩ = some (.int .i64 x56) ∧ ∃ x58 : Int, World.cell? w17 ⟨w6.heap.size, (0 + 0), none⟩ = some (.int .i64 x58) ∧ 0 ≤ x56 ∧ x56 < ((7 : Nat) : Int) ∧ 0 ≤ x58 ∧ x58 < ((7 : Nat) : Int) ∧ StoreOk w17 w1.heap.size ((0 + Int.toNat x56 * 7) + Int.toNat x58 * 1) [(.bool true)] 1 ∧ Let (put w17 w1.heap.size ((0 + Int.toNat x56 * 7) + Int.toNat x58 * 1) [(.bool true)]) fun w18 => 
  J_5 w18) (
  J_5 w15))) (fun J_6 =>
  ∃ x26 : Int, World.cell? w14 ⟨w6.heap.size, (0 + 1), none⟩ = some (.int .i64 x26) ∧ cond (decide (x26 < (2 : Int))) (∃ x30 : Int, World.cell? w14 ⟨w11.heap.size, (0 + 1), none⟩ = some (.int .i64 x30) ∧ cond (decide (x30 < (2 : Int))) (∃ x35 : Int, World.cell? w14 ⟨w6.heap.size, (0 + 1), none⟩ = some (.int .i64 x35) ∧ ∃ x37 : Int, World.cell? w14 ⟨w11.heap.size, (0 + 1), none⟩ = some (.int .i64 x37) ∧ cond (decide ((IntKind.wrap .i64 (x35 + x37)) > (0 : Int))) (∃ x43 : Int, World.cell? w14 ⟨w6.heap.size, (0 + 2), none⟩ = some (.int .i64 x43) ∧ ∃ x45 : Int, World.cell? w14 ⟨w11.heap.size, (0 + 2), none⟩ = some (.int .i64 x45) ∧ cond (x43 == x45) (∃ x50 : Int, World.cell? w14 ⟨w6.heap.size, (0 + 0), none⟩ = some (.int .i64 x50) ∧ ∃ x52 : Int, World.cell? w14 ⟨w11.heap.size, (0 + 0), none⟩ = some (.int .i64 x52) ∧ J_6 (x50 != x52) w14) (J_6 false w14)) (J_6 false w14)) (J_6 false w14)) (J_6 false w14)))) (
  J_3 w11))))) (
  J w6))))
theorem eq59 (s0 : Sl) (R : Value → World → Prop) (w : World) : funV Try.prog Try.f59 An59 [(.slice s0.a s0.n s0.c)] R w = S59 s0 R w := by kernel_rfl
theorem call59 (s0 : Sl) {R : Value → World → Prop} {w : World} (h : S59 s0 R w) : Calls Try.prog 59 [(.slice s0.a s0.n s0.c)].toArray w fun e w' => ∃ v, e = .returned v ∧ R v w' :=
  funV_calls mixed Try.func59 (an := An59) (by rw [eq59]; exact h)

end Go.Proofs.Ytnbkihkdfhjlmaa
/-
  Contracts: slices.Equal of operations; the law HistoryTwice.
-/
namespace Go.Proofs.Ytnbkihkdfhjlmaa
open Go Go.VC
set_option maxHeartbeats 1000000
set_option maxRecDepth 100000

theorem T37 : IntStr Try.prog 37 3 := ⟨by kernel_rfl, by kernel_rfl, by kernel_rfl, by kernel_rfl, by kernel_rfl⟩
theorem opNe {T : Nat} (A : IntStr Try.prog T 3) (a b : Ev) (w : World) : Sem.run Try.prog (aggEq .neq T (.agg [(.int .i64 a.t), (.int .i64 a.k), (.int .i64 a.i)].toArray) (.agg [(.int .i64 b.t), (.int .i64 b.k), (.int .i64 b.i)].toArray)) w = .ok (.bool (!decide (a = b))) w := by
  have h := aggNe_str A (xs := [a.t, a.k, a.i]) (ys := [b.t, b.k, b.i]) rfl rfl w
  have e : decide ([a.t, a.k, a.i] = [b.t, b.k, b.i]) = decide (a = b) := by
    obtain ⟨a1, a2, a3⟩ := a; obtain ⟨b1, b2, b3⟩ := b; simp
  rw [e] at h
  exact h
theorem c23 {w : World} {s s' : Sl} {l l' : List Ev} (hs : Hs w s l) (hs' : Hs w s' l') (hl : l.length ≤ big) :
    Calls Try.prog 23 [.slice s.a s.n s.c, .slice s'.a s'.n s'.c].toArray w fun e w' => e = .returned (.bool (decide (l = l'))) ∧ Ext w w' := by
  refine (call23 s s' (R := fun v w' => v = .bool (decide (l = l')) ∧ Ext w w') ?_).mono fun e w' ⟨v, he, hv, hx⟩ => ⟨by rw [he, hv], hx⟩
  have h1 := hs.len
  have h2 := hs'.len
  refine cond_intro (fun h => ?_) (fun h => ?_)
  · have h : ¬ l = l' := by rintro rfl; simp [h1, h2] at h
    exact ⟨by simp [h], Fr.refl _ w⟩
  · have h : l.length = l'.length := by simp at h; omega
    refine Join.dir (rangeI (fun i w2 => l.take i = l'.take i ∧ Ext w w2) (by rw [hs.len]; exact hl) ⟨by simp, Fr.refl _ w⟩ ?_ ?_)
    · rintro i hi w2 ⟨hn, hx⟩ K hK
      have hi : i < l.length := by omega
      have hi' : i < l'.length := by omega
      refine Let.intro fun w4 e4 => ?_
      have hx4 : Ext w w4 := by rw [e4]; exact hx.trans (Ext.drew _)
      obtain ⟨p, hp, h1, h2, hr⟩ := Sli.at eO_len (hs.ext hx4) hi
      obtain ⟨p', hp', h1', h2', hr'⟩ := Sli.at eO_len (hs'.ext hx4) hi'
      refine ⟨p, hp, h1, h2, _, _, _, hr, p', hp', h1', h2', _, _, _, hr', _, fun w => opNe T38 l[i] l'[i] w, cond_intro (fun hc => ?_) (fun hc => ?_)⟩
      · have h : ¬ l[i] = l'[i] := by simpa using hc
        exact ⟨by simp; rintro rfl; exact h rfl, hx4⟩
      · have h : l[i] = l'[i] := by simpa using hc
        exact hK _ ⟨by rw [List.take_succ_eq_append_getElem hi, List.take_succ_eq_append_getElem hi', hn, h], hx4⟩
    · rintro w2 ⟨hn, hx⟩
      rw [hs.len, List.take_length, h, List.take_length] at hn
      exact ⟨by simp [hn], hx⟩
theorem c21 {w : World} {s s' : Sl} {l l' : List Ev} (hs : Hs w s l) (hs' : Hs w s' l') (hl : l.length ≤ big) :
    Calls Try.prog 21 [.slice s.a s.n s.c, .slice s'.a s'.n s'.c].toArray w fun e w' => e = .returned (.bool (decide (l = l'))) ∧ Ext w w' := by
  refine (call21 s s' (R := fun v w' => v = .bool (decide (l = l')) ∧ Ext w w') ?_).mono fun e w' ⟨v, he, hv, hx⟩ => ⟨by rw [he, hv], hx⟩
  have h1 := hs.len
  have h2 := hs'.len
  refine cond_intro (fun h => ?_) (fun h => ?_)
  · have h : ¬ l = l' := by rintro rfl; simp [h1, h2] at h
    exact ⟨by simp [h], Fr.refl _ w⟩
  · have h : l.length = l'.length := by simp at h; omega
    refine Join.dir (rangeI (fun i w2 => l.take i = l'.take i ∧ Ext w w2) (by rw [hs.len]; exact hl) ⟨by simp, Fr.refl _ w⟩ ?_ ?_)
    · rintro i hi w2 ⟨hn, hx⟩ K hK
      have hi : i < l.length := by omega
      have hi' : i < l'.length := by omega
      refine Let.intro fun w4 e4 => ?_
      have hx4 : Ext w w4 := by rw [e4]; exact hx.trans (Ext.drew _)
      obtain ⟨p, hp, h1, h2, hr⟩ := Sli.at eO_len (hs.ext hx4) hi
      obtain ⟨p', hp', h1', h2', hr'⟩ := Sli.at eO_len (hs'.ext hx4) hi'
      refine ⟨p, hp, h1, h2, _, _, _, hr, p', hp', h1', h2', _, _, _, hr', _, fun w => opNe T37 l[i] l'[i] w, cond_intro (fun hc => ?_) (fun hc => ?_)⟩
      · have h : ¬ l[i] = l'[i] := by simpa using hc
        exact ⟨by simp; rintro rfl; exact h rfl, hx4⟩
      · have h : l[i] = l'[i] := by simpa using hc
        exact hK _ ⟨by rw [List.take_succ_eq_append_getElem hi, List.take_succ_eq_append_getElem hi', hn, h], hx4⟩
    · rintro w2 ⟨hn, hx⟩
      rw [hs.len, List.take_length, h, List.take_length] at hn
      exact ⟨by simp [hn], hx⟩
/-- What Lock makes of a valid history. -/
theorem lockP_facts {h : List Ev} (hv : Valid h) : Valid (lockP h).dn ∧ Clean (lockP h).dn := by
  have v := lockP_lj (h := h) hv.1.1
  exact ⟨done_valid hv v.li, v.li.dn.clean⟩
theorem hawake {w w' : World} (hx : Ext w w') : Calls Try.prog 14 [].toArray w' fun e w2 => ∃ b : Bool, e = .returned (.bool b) ∧ (Value.bool b = .bool true ∧ Ext w w2) := (c14 w').mono fun e w2 ⟨he, hx2⟩ => ⟨true, he, rfl, hx.trans hx2⟩

theorem c6 {w : World} {s : Sl} {h : List Ev} (hs : Hs w s h) (hl : h.length ≤ big) :
    Calls Try.prog 6 [.slice s.a s.n s.c].toArray w fun e w' => e = .returned (.bool true) ∧ Ext w w' := by
  refine (call6 s (R := fun v w' => v = .bool true ∧ Ext w w') ?_).mono fun e w' ⟨v, he, hv, hx⟩ => ⟨by rw [he, hv], hx⟩
  refine (of_ok hs hl).mono fun e w1 ⟨s10, he, ho10, hx1⟩ => ⟨s10, he, ?_⟩
  refine (c19 ho10.sli (by simp; omega)).mono fun e w2 ⟨s1, s2, x, he, hcase, hx2⟩ => ⟨s1, s2, x, he, ?_⟩
  have hx02 := hx1.trans hx2
  rcases hcase with ⟨hnv, _, _, rfl⟩ | ⟨hv, ho1, ho2, rfl⟩
  · refine cond_intro (fun _ => Join.dir (cond_intro (fun _ => hawake hx02) (fun hc => by simp at hc))) (fun hc => by simp at hc)
  obtain ⟨hv2, hcl⟩ := lockP_facts hv
  obtain ⟨e1, e2⟩ := lock_twice hcl
  generalize (lockP (h.take 43)).dn = l at ho1 hv2 hcl e1 e2
  refine cond_intro (fun hc => by simp at hc) (fun _ => ?_)
  have hl40 := hv2.2
  refine (c19 ho1.sli (by omega)).mono fun e w5 ⟨s3, s4, y, he, hcase, hx5⟩ => ⟨s3, s4, y, he, ?_⟩
  rcases hcase with ⟨hnv, _⟩ | ⟨_, ho3, ho4, rfl⟩
  · exact absurd hv2 hnv
  rw [e1] at ho3
  rw [e2] at ho4
  have n4 := ho4.1
  refine Join.dir (cond_intro (fun _ => ?_) (fun hc => by simp at hc))
  refine (c23 (ho1.sli.ext hx5) ho3.sli (by show l.length ≤ 9223372036854775807; omega)).mono fun e w7 ⟨he, hx7⟩ => ⟨_, he, cond_intro (fun _ => cond_intro (fun _ => hawake ((hx02.trans hx5).trans hx7)) (fun hc => ?_)) (fun hc => by simp at hc)⟩
  simp at n4; simp [n4] at hc
end Go.Proofs.Ytnbkihkdfhjlmaa
/-
  Contracts: Contains of operations; Recovery, as far as a history is strict.
-/
namespace Go.Proofs.Ytnbkihkdfhjlmaa
open Go Go.VC
set_option maxHeartbeats 1000000
set_option maxRecDepth 100000

theorem c27 {w : World} {s : Sl} {h : List Ev} (hs : Hs w s h) (x : Ev) (hl : h.length ≤ big) :
    Calls Try.prog 27 [.slice s.a s.n s.c, .agg [.int .i64 x.t, .int .i64 x.k, .int .i64 x.i].toArray].toArray w fun e w' => e = .returned (.bool (decide (x ∈ h))) ∧ Ext w w' := by
  refine (call27 s x.t x.k x.i (R := fun v w' => v = .bool (decide (x ∈ h)) ∧ Ext w w') ?_).mono fun e w' ⟨v, he, hv, hx⟩ => ⟨by rw [he, hv], hx⟩
  obtain ⟨hb1, hx1⟩ := newEv w x 38
  refine Let.intro fun w1 e1 => ?_
  have hb1 : Blk w1 w.heap.size (eO x) 38 := by rw [e1]; exact hb1
  have hx1 : Ext w w1 := by rw [e1]; exact hx1
  refine ⟨x.t, x.k, x.i, hb1.rd, (c56 (hs.ext hx1) x hl).mono fun e w2 ⟨he, hx2⟩ => ⟨_, he, ?_, hx1.trans hx2⟩⟩
  simp [ix_nonneg]

/-! ### strict -/
def overI (h : List Ev) (t : Int) : Int := if fin h 3 t > fin h 2 t then fin h 3 t else fin h 2 t
/-- The write at j is not over when the operation at i comes. -/
def badB (h : List Ev) (i j : Nat) : Bool := decide ((opA h j).k = 1) && (decide ((opA h j).i = (opA h i).i) && (decide ((opA h j).t ≠ (opA h i).t) && (decide (overI h (opA h j).t < 0) || decide (overI h (opA h j).t > (i : Int)))))
def strictAt (h : List Ev) (i : Nat) : Bool := decide ((opA h i).k > 1) || (List.range i).all fun j => !badB h i j
def strictB (h : List Ev) : Bool := (List.range h.length).all (strictAt h)
theorem all_succ (p : Nat → Bool) (n : Nat) : (List.range (n + 1)).all p = ((List.range n).all p && p n) := by rw [List.range_succ, List.all_append]; simp

theorem c25 {w : World} {s : Sl} {h : List Ev} (hs : Hs w s h) (hl : h.length ≤ 1000) :
    Calls Try.prog 25 [.slice s.a s.n s.c].toArray w fun e w' => ∃ (a b c : Bool) (x : Int), e = .returned (.tuple [.bool a, .bool b, .bool c, .int .i64 x].toArray) ∧ ((¬ Valid h ∧ x = 2) ∨ (Valid h ∧ c = strictB h ∧ x = 0)) ∧ Ext w w' := by
  refine (call25 s (R := fun v w' => ∃ (a b c : Bool) (x : Int), v = (.tuple [.bool a, .bool b, .bool c, .int .i64 x].toArray) ∧ ((¬ Valid h ∧ x = 2) ∨ (Valid h ∧ c = strictB h ∧ x = 0)) ∧ Ext w w') ?_).mono fun e w' ⟨v, he, a, b, c, x, hv, hx⟩ => ⟨a, b, c, x, by rw [he, hv], hx⟩
  have hn := hs.len
  have hbig : h.length ≤ big := by show h.length ≤ 9223372036854775807; omega
  refine (c26 hs hbig).mono fun e w1 ⟨he, hx1⟩ => ⟨_, he, cond_intro (fun hc => ?_) (fun hc => ?_)⟩
  · have hc : ¬ Valid h := by simpa using hc
    exact ⟨false, false, false, 2, rfl, .inl ⟨hc, rfl⟩, hx1⟩
  have hval : Valid h := by simpa using hc
  have hok : OkH h := hval.1.1
  refine (c54 (hs.ext hx1) 2 hbig).mono fun e w2 ⟨he, m2, hx2⟩ => ⟨_, he, ?_⟩
  have hx02 := hx1.trans hx2
  refine (c54 (hs.ext hx02) 3 hbig).mono fun e w3 ⟨he, m3, hx3⟩ => ⟨_, he, ?_⟩
  have hx03 := hx02.trans hx3
  refine (c55 (hs.ext hx03) hok hl).mono fun e w4 ⟨s24, he, ho24, hx4⟩ => ⟨s24, he, ?_⟩
  have hx04 := hx03.trans hx4
  have n24 : s24.n = h.length := by have := ho24.sli.len; simpa [frm] using this
  have m2' := (m2.ext hx3).ext hx4
  have m3' := m3.ext hx4
  refine Join.dir (LoopV.intro (fun m (b2 b3 b4 : Bool) (x : Int) w' => ∃ i : Nat, x = i ∧ m = h.length - i ∧ i ≤ h.length ∧ b4 = (List.range i).all (strictAt h) ∧ Ext w4 w') h.length ⟨0, rfl, by omega, by omega, rfl, Fr.refl _ _⟩ ?_)
  rintro m b2 b3 b4 x w6 ⟨i, rfl, rfl, hi, rfl, hx6⟩
  refine cond_intro (fun hc => ?_) (fun hc => ?_)
  rotate_left
  · have : i = h.length := by have : ¬ (i : Int) < (s24.n : Int) := by simpa using hc
                              omega
    subst this
    exact ⟨b2, b3, _, 0, rfl, .inr ⟨hval, rfl, rfl⟩, hx04.trans hx6⟩
  have hi : i < h.length := by have : (i : Int) < (s24.n : Int) := by simpa using hc
                               omega
  have hif : i < (frm h).length := by simp [frm]; exact hi
  obtain ⟨p29, hp29, a1, a2, hr29⟩ := Ints.at (ho24.sli.ext hx6) hif
  refine Join.dir ⟨p29, hp29, a1, a2, _, hr29, ?_⟩
  refine loadEv ((hs.ext hx04).ext hx6) hi zc38 fun w9 hb9 hx9 => ?_
  rw [← opA_at hi] at hb9
  have hoi := hok.at hi
  have hx49 := hx6.trans hx9
  -- what is said of recoverable and careful does not matter
  have hnext : ∀ (b2 b3 b4 : Bool) (w' : World), b4 = (List.range (i + 1)).all (strictAt h) → Ext w4 w' → ltC [(2, .bool), (3, .bool), (4, .bool), (26, .int .i64)] (h.length - i) (fun m (b2 b3 b4 : Bool) (x : Int) w' => ∃ i : Nat, x = i ∧ m = h.length - i ∧ i ≤ h.length ∧ b4 = (List.range i).all (strictAt h) ∧ Ext w4 w') b2 b3 b4 (IntKind.wrap .i64 ((i : Int) + 1)) w' := fun b2 b3 b4 w' h1 h2 =>
    ⟨h.length - (i + 1), by omega, i + 1, by rw [wrap64 (by omega) (by omega)]; rfl, rfl, by omega, h1, h2⟩
  refine ⟨fun (c : Bool) w10 => Ext w9 w10, ?_, ?_⟩
  rotate_left
  · refine cond_intro (fun _ => ⟨(opA h i).t, hb9.cell 0, Fr.refl _ _⟩) (fun _ => Fr.refl _ _)
  rintro c w10 hx10
  refine ⟨fun (c2 c3 : Bool) w11 => Ext w9 w11, ?_, ?_⟩
  rotate_left
  · refine cond_intro (fun _ => ?_) (fun _ => hx10)
    refine Let.intro fun w19 e19 => ?_
    have hx19 : Ext w9 w19 := hx10.trans (by rw [e19]; exact Ext.drew _)
    have hx419 := hx49.trans hx19
    refine ⟨(opA h i).t, (hb9.ext hx19).cell 0, _, (m2'.ext hx419).look _, _, (m2'.ext hx419).look _, ?_⟩
    refine ⟨fun (c : Bool) w20 => Ext w9 w20, ?_, ?_⟩
    · rintro c w20 hx20
      exact Join.dir (cond_intro (fun _ => cond_intro (fun _ => hx20) (fun _ => hx20)) (fun _ => hx20))
    · exact cond_intro (fun _ => cond_intro (fun _ => hx19) (fun _ => cond_intro (fun _ => hx19) (fun _ => hx19))) (fun _ => hx19)
  rintro c2 c3 w11 hx11
  have hb11 := hb9.ext hx11
  have hx411 := hx49.trans hx11
  have hall := all_succ (strictAt h) i
  refine ⟨(opA h i).k, hb11.cell 1, cond_intro (fun hc => ?_) (fun hc => ?_)⟩
  · have hk : (opA h i).k > 1 := by simpa using hc
    refine hnext _ _ _ _ ?_ hx411
    rw [hall]; unfold strictAt; simp [hk]
  have hk : ¬ (opA h i).k > 1 := by simpa using hc
  refine ⟨by omega, by have := hs.cap; omega, Join.dir ?_⟩
  refine rangeKI (k := .bool) (n := i) (fun j (b : Bool) w' => b = ((List.range i).all (strictAt h) && (List.range j).all fun j => !badB h i j) ∧ Ext w4 w' ∧ Blk w' w6.heap.size (eO (opA h i)) 38) (by omega) ⟨by simp, hx411, hb11⟩ ?_ ?_
  · rintro j hj b w13 ⟨rfl, hx13, hb13⟩ K hK
    have hjl : j < h.length := by omega
    have hK : ∀ b w', b = ((List.range i).all (strictAt h) && ((List.range j).all (fun j => !badB h i j) && !badB h i j)) → Ext w13 w' → K b w' := fun b w' h1 h2 => hK b w' ⟨by rw [h1, all_succ], hx13.trans h2, hb13.ext h2⟩
    refine loadEvN ((hs.ext hx04).ext hx13) hjl (by omega) zc38 fun w16 hb16 hx16 => ?_
    rw [← opA_at hjl] at hb16
    have hb13' := hb13.ext hx16
    have hx416 := hx13.trans hx16
    have hoj := hok.at hjl
    unfold okOp at hoj
    have hlook : ∀ {bb : Nat} {k : Int}, EndM w4 bb h k → (Instr.lookup 103 (.map (some bb)) (.int .i64 (opA h j).t) false).run Try.prog w16 = .ok (.int .i64 (fin h k (opA h j).t)) w16 := fun m => by
      have := (m.ext hx416).look (opA h j).t
      rw [if_pos ⟨hoj.1, hoj.2.1⟩] at this; exact this
    refine ⟨(opA h j).t, hb16.cell 0, _, hlook m2', (opA h j).t, hb16.cell 0, _, hlook m3', ?_⟩
    refine ⟨fun (c : Bool) w17 => c = badB h i j ∧ w17 = w16, ?_, ?_⟩
    · rintro c w17 ⟨rfl, rfl⟩
      refine Join.dir (cond_intro (fun hc => hK _ _ ?_ hx16) (fun hc => hK _ _ ?_ hx16))
      · rw [hc]; simp
      · rw [hc]; simp
    · refine ⟨(opA h j).k, hb16.cell 1, cond_intro (fun h1 => ?_) (fun h1 => ⟨?_, rfl⟩)⟩
      rotate_left
      · have : ¬ (opA h j).k = 1 := by simpa using h1
        unfold badB; simp [this]
      have h1 : (opA h j).k = 1 := by simpa using h1
      refine ⟨(opA h j).i, hb16.cell 2, (opA h i).i, hb13'.cell 2, cond_intro (fun h2 => ?_) (fun h2 => ⟨?_, rfl⟩)⟩
      rotate_left
      · have : ¬ (opA h j).i = (opA h i).i := by simpa using h2
        unfold badB; simp [this]
      have h2 : (opA h j).i = (opA h i).i := by simpa using h2
      refine ⟨(opA h j).t, hb16.cell 0, (opA h i).t, hb13'.cell 0, cond_intro (fun h3 => ?_) (fun h3 => ⟨?_, rfl⟩)⟩
      rotate_left
      · have : (opA h j).t = (opA h i).t := by simpa using h3
        unfold badB; simp [this]
      have h3 : (opA h j).t ≠ (opA h i).t := by simpa using h3
      refine cond_intro (fun h4 => ⟨?_, rfl⟩) (fun h4 => ⟨?_, rfl⟩)
      · have h4 : overI h (opA h j).t < 0 := of_decide_eq_true h4
        unfold badB; simp [h1, h2, h3, h4]
      · have h4 : ¬ overI h (opA h j).t < 0 := of_decide_eq_false h4
        show decide (overI h (opA h j).t > (i : Int)) = _
        unfold badB; simp only [h1, h2, h3, h4, decide_true, decide_false, Bool.true_and, Bool.false_or, ne_eq, not_false_eq_true]
  · rintro b w13 ⟨rfl, hx13, _⟩
    refine hnext _ _ _ _ ?_ hx13
    rw [hall]; unfold strictAt
    rw [decide_eq_false hk, Bool.false_or]
end Go.Proofs.Ytnbkihkdfhjlmaa
/-
  Printed by a program of this session (wip/tools/vcprint.py): of each Go function the shallow form, and that the calculus comes to it, by the kernel.
-/
namespace Go.Proofs.Ytnbkihkdfhjlmaa
open Go Go.VC
set_option maxRecDepth 100000

/-- F63: (cubeb/history.snapshot).overlap -/
def An63 : An := (.sq .lf (.sq (.rj [] [(6, .bool)]) .lf))
def S63 (s0_0 : Sl) (s0_1 : Sl) (m0_2 : Option Nat) (m0_3 : Option Nat) (x1 : Int) (x2 : Int) (R : Value → World → Prop) (w : World) : Prop :=
  Let (w.alloc (.cells [(.slice s0_0.a s0_0.n s0_0.c), (.slice s0_1.a s0_1.n s0_1.c), (.map m0_2), (.map m0_3)].toArray 112)) fun w1 => 
  Join [(6, .bool)] (fun (b6 : Bool) (w2 : World) => R (.bool b6) w2) (fun J =>
  ∃ m8 : Option Nat, World.cell? w1 ⟨w.heap.size, (0 + 2), none⟩ = some (.map m8) ∧ ∃ x10 : Int, Sem.run Try.prog (Instr.lookup 103 (.map m8) (.int .i64 x1) false) w1 = .ok (.int .i64 x10) w1 ∧ ∃ m12 : Option Nat, World.cell? w1 ⟨w.heap.size, (0 + 3), none⟩ = some (.map m12) ∧ ∃ x14 : Int, Sem.run Try.prog (Instr.lookup 103 (.map m12) (.int .i64 x2) false) w1 = .ok (.int .i64 x14) w1 ∧ cond (decide (x10 < x14)) (∃ m18 : Option Nat, World.cell? w1 ⟨w.heap.size, (0 + 2), none⟩ = some (.map m18) ∧ ∃ x20 : Int, Sem.run Try.prog (Instr.lookup 103 (.map m18) (.int .i64 x2) false) w1 = .ok (.int .i64 x20) w1 ∧ ∃ m22 : Option Nat, World.cell? w1 ⟨w.heap.size, (0 + 3), none⟩ = some (.map m22) ∧ ∃ x24 : Int, Sem.run Try.prog (Instr.lookup 103 (.map m22) (.int .i64 x1) false) w1 = .ok (.int .i64 x24) w1 ∧ J (decide (x20 < x24)) w1) (J false w1))
theorem eq63 (s0_0 : Sl) (s0_1 : Sl) (m0_2 : Option Nat) (m0_3 : Option Nat) (x1 : Int) (x2 : Int) (R : Value → World → Prop) (w : World) : funV Try.prog Try.f63 An63 [(.agg [(.slice s0_0.a s0_0.n s0_0.c), (.slice s0_1.a s0_1.n s0_1.c), (.map m0_2), (.map m0_3)].toArray), (.int .i64 x1), (.int .i64 x2)] R w = S63 s0_0 s0_1 m0_2 m0_3 x1 x2 R w := by kernel_rfl
theorem call63 (s0_0 : Sl) (s0_1 : Sl) (m0_2 : Option Nat) (m0_3 : Option Nat) (x1 : Int) (x2 : Int) {R : Value → World → Prop} {w : World} (h : S63 s0_0 s0_1 m0_2 m0_3 x1 x2 R w) : Calls Try.prog 63 [(.agg [(.slice s0_0.a s0_0.n s0_0.c), (.slice s0_1.a s0_1.n s0_1.c), (.map m0_2), (.map m0_3)].toArray), (.int .i64 x1), (.int .i64 x2)].toArray w fun e w' => ∃ v, e = .returned v ∧ R v w' :=
  funV_calls mixed Try.func63 (an := An63) (by rw [eq63]; exact h)

/-- F84: slices.IndexFunc[cubeb/history.History,cubeb/history.Op] -/
def An84 : An := (.sq .lf (.sq (.sq .lf (.bk [] (.lp [(8, .int .i64)] (.sq .lf (.sq (.cd .lf .lf) (.sq (.bk [] (.sq .lf (.sq .lf (.cd (.sq .lf .lf) .lf)))) .lf)))))) (.sq .lf .lf)))
def S84 (s0 : Sl) (f1 : Nat) (c1 : List Value) (R : Value → World → Prop) (w : World) : Prop :=
  Join [] (fun (w1 : World) => R (.int .i64 (-1 : Int)) w1) (fun J =>
  LoopV [(8, .int .i64)] (fun K => K (0 : Int) w) (fun N => fun (x8 : Int) (w2 : World) =>
  cond (decide (x8 < ((s0.n : Nat) : Int))) (
  Join [] (fun (w3 : World) => N (IntKind.wrap .i64 (x8 + (1 : Int))) w3) (fun J_2 =>
  ∃ p14 : Pt, s0.a = some ⟨p14.b, p14.o, none⟩ ∧ 0 ≤ x8 ∧ x8 < ((s0.n : Nat) : Int) ∧ ∃ x15_0 : Int, ∃ x15_1 : Int, ∃ x15_2 : Int, rd w2 p14.b (p14.o + Int.toNat x8 * 3) [(.int .i64 x15_0), (.int .i64 x15_1), (.int .i64 x15_2)] ∧ (bif callable Try.prog f1 then Calls Try.prog f1 (([(.agg [(.int .i64 x15_0), (.int .i64 x15_1), (.int .i64 x15_2)].toArray)] : List Value) ++ c1).toArray w2 (fun e w4 => ∃ b16 : Bool, e = .returned (.bool b16) ∧
  cond b16 (
  R (.int .i64 x8) w4) (
  J_2 w4)) else False))) (
  J w2)))
theorem eq84 (s0 : Sl) (f1 : Nat) (c1 : List Value) (R : Value → World → Prop) (w : World) : funV Try.prog Try.f84 An84 [(.slice s0.a s0.n s0.c), (.func (.func f1) #[] c1.toArray)] R w = S84 s0 f1 c1 R w := by kernel_rfl
theorem call84 (s0 : Sl) (f1 : Nat) (c1 : List Value) {R : Value → World → Prop} {w : World} (h : S84 s0 f1 c1 R w) : Calls Try.prog 84 [(.slice s0.a s0.n s0.c), (.func (.func f1) #[] c1.toArray)].toArray w fun e w' => ∃ v, e = .returned v ∧ R v w' :=
  funV_calls mixed Try.func84 (an := An84) (by rw [eq84]; exact h)

/-- F85: (cubeb/history.History).snapshot$1 -/
def An85 : An := (.sq .lf (.sq .lf .lf))
def S85 (x0_0 : Int) (x0_1 : Int) (x0_2 : Int) (p1 : Pt) (R : Value → World → Prop) (w : World) : Prop :=
  Let (w.alloc (.cells [(.int .i64 x0_0), (.int .i64 x0_1), (.int .i64 x0_2)].toArray 38)) fun w1 => 
  ∃ x5 : Int, World.cell? w1 ⟨w.heap.size, (0 + 0), none⟩ = some (.int .i64 x5) ∧ ∃ x6 : Int, World.cell? w1 ⟨p1.b, p1.o, none⟩ = some (.int .i64 x6) ∧ R (.bool (x5 == x6)) w1
theorem eq85 (x0_0 : Int) (x0_1 : Int) (x0_2 : Int) (p1 : Pt) (R : Value → World → Prop) (w : World) : funV Try.prog Try.f85 An85 [(.agg [(.int .i64 x0_0), (.int .i64 x0_1), (.int .i64 x0_2)].toArray), (.pointer (some ⟨p1.b, p1.o, none⟩))] R w = S85 x0_0 x0_1 x0_2 p1 R w := by kernel_rfl
theorem call85 (x0_0 : Int) (x0_1 : Int) (x0_2 : Int) (p1 : Pt) {R : Value → World → Prop} {w : World} (h : S85 x0_0 x0_1 x0_2 p1 R w) : Calls Try.prog 85 [(.agg [(.int .i64 x0_0), (.int .i64 x0_1), (.int .i64 x0_2)].toArray), (.pointer (some ⟨p1.b, p1.o, none⟩))].toArray w fun e w' => ∃ v, e = .returned v ∧ R v w' :=
  funV_calls mixed Try.func85 (an := An85) (by rw [eq85]; exact h)

/-- F60: (cubeb/history.History).snapshot -/
def An60 : An := (.sq .lf (.sq .lf (.sq (.sq .lf (.bk [] (.lp [(16, .int .i64)] (.sq .lf (.sq (.cd .lf .lf) (.sq (.bk [] (.sq .lf (.dr [0, 1, 2, 3, 4, 5, 6] [6] true none))) .lf)))))) (.sq .lf .lf))))
def S60 (s0 : Sl) (R : Value → World → Prop) (w : World) : Prop :=
  Let (w.alloc (.cells (zc Try.prog 112) 112)) fun w1 => 
  Calls Try.prog 36 [(.slice s0.a s0.n s0.c)].toArray w1 (fun e w2 => ∃ s8 : Sl, e = .returned (.slice s8.a s8.n s8.c) ∧
  Let (w2.alloc (.map #[] 0)) fun w3 => 
  Calls Try.prog 54 [(.slice s0.a s0.n s0.c), (.int .i64 (2 : Int))].toArray w3 (fun e_2 w4 => ∃ m11 : Option Nat, e_2 = .returned (.map m11) ∧
  Let (w4.alloc (.cells (zc Try.prog 112) 112)) fun w5 => 
  StoreOk w5 w4.heap.size 0 [(.slice s0.a s0.n s0.c), (.slice s8.a s8.n s8.c), (.map (some w2.heap.size)), (.map m11)] 4 ∧ Let (put w5 w4.heap.size 0 [(.slice s0.a s0.n s0.c), (.slice s8.a s8.n s8.c), (.map (some w2.heap.size)), (.map m11)]) fun w6 => 
  ∃ s14 : Sl, World.cell? w6 ⟨w4.heap.size, (0 + 1), none⟩ = some (.slice s14.a s14.n s14.c) ∧ Join [] (fun (w7 : World) => ∃ s27_0 : Sl, ∃ s27_1 : Sl, ∃ m27_2 : Option Nat, ∃ m27_3 : Option Nat, rd w7 w4.heap.size 0 [(.slice s27_0.a s27_0.n s27_0.c), (.slice s27_1.a s27_1.n s27_1.c), (.map m27_2), (.map m27_3)] ∧ StoreOk w7 w.heap.size 0 [(.slice s27_0.a s27_0.n s27_0.c), (.slice s27_1.a s27_1.n s27_1.c), (.map m27_2), (.map m27_3)] 4 ∧ Let (put w7 w.heap.size 0 [(.slice s27_0.a s27_0.n s27_0.c), (.slice s27_1.a s27_1.n s27_1.c), (.map m27_2), (.map m27_3)]) fun w8 => 
  ∃ sr2_0 : Sl, ∃ sr2_1 : Sl, ∃ mr2_2 : Option Nat, ∃ mr2_3 : Option Nat, rd w8 w.heap.size 0 [(.slice sr2_0.a sr2_0.n sr2_0.c), (.slice sr2_1.a sr2_1.n sr2_1.c), (.map mr2_2), (.map mr2_3)] ∧ R (.agg [(.slice sr2_0.a sr2_0.n sr2_0.c), (.slice sr2_1.a sr2_1.n sr2_1.c), (.map mr2_2), (.map mr2_3)].toArray) w8) (fun J =>
  LoopV [(16, .int .i64)] (fun K => K (0 : Int) w6) (fun N => fun (x16 : Int) (w9 : World) =>
  cond (decide (x16 < ((s14.n : Nat) : Int))) (
  Join [] (fun (w10 : World) => N (IntKind.wrap .i64 (x16 + (1 : Int))) w10) (fun J_2 =>
  ∃ p18 : Pt, s14.a = some ⟨p18.b, p18.o, none⟩ ∧ 0 ≤ x16 ∧ x16 < ((s14.n : Nat) : Int) ∧ ∃ x19 : Int, World.cell? w9 ⟨p18.b, (p18.o + Int.toNat x16 * 1), none⟩ = some (.int .i64 x19) ∧ Let (w9.alloc (.cells (zc Try.prog 3) 3)) fun w11 => 
  StoreOk w11 w9.heap.size 0 [(.int .i64 x19)] 1 ∧ Let (put w11 w9.heap.size 0 [(.int .i64 x19)]) fun w12 => 
  ∃ S1 : World → Prop, S1 w12.drew ∧ Let w12.drew fun w13 =>
  ∃ m21 : Option Nat, (∀ u, S1 u → World.cell? u ⟨w4.heap.size, (0 + 2), none⟩ = some (.map m21)) ∧ ∃ x22 : Int, (∀ u, S1 u → World.cell? u ⟨w9.heap.size, 0, none⟩ = some (.int .i64 x22)) ∧ Calls Try.prog 84 [(.slice s0.a s0.n s0.c), (.func (.func 85) #[] [(.pointer (some ⟨w9.heap.size, 0, none⟩))].toArray)].toArray w13 (fun e_3 w14 => ∃ x25 : Int, e_3 = .returned (.int .i64 x25) ∧
  S1 w14 ∧ ∃ w15 : World, Sem.run Try.prog (Instr.mapUpdate 103 (.map m21) (.int .i64 x22) (.int .i64 x25)) w14 = .ok () w15 ∧
  J_2 w15))) (
  J w9)))))
theorem eq60 (s0 : Sl) (R : Value → World → Prop) (w : World) : funV Try.prog Try.f60 An60 [(.slice s0.a s0.n s0.c)] R w = S60 s0 R w := by kernel_rfl
theorem call60 (s0 : Sl) {R : Value → World → Prop} {w : World} (h : S60 s0 R w) : Calls Try.prog 60 [(.slice s0.a s0.n s0.c)].toArray w fun e w' => ∃ v, e = .returned v ∧ R v w' :=
  funV_calls mixed Try.func60 (an := An60) (by rw [eq60]; exact h)

/-- F86: (cubeb/history.snapshot).writes -/
def An86 : An := (.sq .lf (.sq .lf .lf))
def S86 (s0_0 : Sl) (s0_1 : Sl) (m0_2 : Option Nat) (m0_3 : Option Nat) (x1 : Int) (x2 : Int) (R : Value → World → Prop) (w : World) : Prop :=
  Let (w.alloc (.cells [(.slice s0_0.a s0_0.n s0_0.c), (.slice s0_1.a s0_1.n s0_1.c), (.map m0_2), (.map m0_3)].toArray 112)) fun w1 => 
  ∃ s8 : Sl, World.cell? w1 ⟨w.heap.size, (0 + 0), none⟩ = some (.slice s8.a s8.n s8.c) ∧ Calls Try.prog 27 [(.slice s8.a s8.n s8.c), (.agg [(.int .i64 x1), (.int .i64 (1 : Int)), (.int .i64 x2)].toArray)].toArray w1 (fun e w2 => ∃ b12 : Bool, e = .returned (.bool b12) ∧
  R (.bool b12) w2)
theorem eq86 (s0_0 : Sl) (s0_1 : Sl) (m0_2 : Option Nat) (m0_3 : Option Nat) (x1 : Int) (x2 : Int) (R : Value → World → Prop) (w : World) : funV Try.prog Try.f86 An86 [(.agg [(.slice s0_0.a s0_0.n s0_0.c), (.slice s0_1.a s0_1.n s0_1.c), (.map m0_2), (.map m0_3)].toArray), (.int .i64 x1), (.int .i64 x2)] R w = S86 s0_0 s0_1 m0_2 m0_3 x1 x2 R w := by kernel_rfl
theorem call86 (s0_0 : Sl) (s0_1 : Sl) (m0_2 : Option Nat) (m0_3 : Option Nat) (x1 : Int) (x2 : Int) {R : Value → World → Prop} {w : World} (h : S86 s0_0 s0_1 m0_2 m0_3 x1 x2 R w) : Calls Try.prog 86 [(.agg [(.slice s0_0.a s0_0.n s0_0.c), (.slice s0_1.a s0_1.n s0_1.c), (.map m0_2), (.map m0_3)].toArray), (.int .i64 x1), (.int .i64 x2)].toArray w fun e w' => ∃ v, e = .returned v ∧ R v w' :=
  funV_calls mixed Try.func86 (an := An86) (by rw [eq86]; exact h)

/-- F87: (cubeb/history.snapshot).reads -/
def An87 : An := (.sq .lf (.sq (.sq .lf (.bk [] (.lp [(12, .int .i64)] (.sq .lf (.sq (.cd .lf .lf) (.sq (.bk [] (.sq .lf (.sq .lf (.bk [] (.sq .lf (.cd (.sq .lf .lf) (.sq .lf (.cd (.sq .lf .lf) .lf)))))))) .lf)))))) (.sq .lf .lf)))
def S87 (s0_0 : Sl) (s0_1 : Sl) (m0_2 : Option Nat) (m0_3 : Option Nat) (x1 : Int) (x2 : Int) (R : Value → World → Prop) (w : World) : Prop :=
  Let (w.alloc (.cells [(.slice s0_0.a s0_0.n s0_0.c), (.slice s0_1.a s0_1.n s0_1.c), (.map m0_2), (.map m0_3)].toArray 112)) fun w1 => 
  ∃ s10 : Sl, World.cell? w1 ⟨w.heap.size, (0 + 0), none⟩ = some (.slice s10.a s10.n s10.c) ∧ Join [] (fun (w2 : World) => R (.bool false) w2) (fun J =>
  LoopV [(12, .int .i64)] (fun K => K (0 : Int) w1) (fun N => fun (x12 : Int) (w3 : World) =>
  cond (decide (x12 < ((s10.n : Nat) : Int))) (
  Join [] (fun (w4 : World) => N (IntKind.wrap .i64 (x12 + (1 : Int))) w4) (fun J_2 =>
  ∃ p14 : Pt, s10.a = some ⟨p14.b, p14.o, none⟩ ∧ 0 ≤ x12 ∧ x12 < ((s10.n : Nat) : Int) ∧ ∃ x15_0 : Int, ∃ x15_1 : Int, ∃ x15_2 : Int, rd w3 p14.b (p14.o + Int.toNat x12 * 3) [(.int .i64 x15_0), (.int .i64 x15_1), (.int .i64 x15_2)] ∧ Let (w3.alloc (.cells (zc Try.prog 38) 38)) fun w5 => 
  StoreOk w5 w3.heap.size 0 [(.int .i64 x15_0), (.int .i64 x15_1), (.int .i64 x15_2)] 3 ∧ Let (put w5 w3.heap.size 0 [(.int .i64 x15_0), (.int .i64 x15_1), (.int .i64 x15_2)]) fun w6 => 
  ∃ x16_0 : Int, ∃ x16_1 : Int, ∃ x16_2 : Int, rd w6 w3.heap.size 0 [(.int .i64 x16_0), (.int .i64 x16_1), (.int .i64 x16_2)] ∧ Join [] (fun (w7 : World) => J_2 w7) (fun J_3 =>
  ∃ r21 : Bool, (∀ w, Sem.run Try.prog (aggEq .eql 38 (.agg [(.int .i64 x16_0), (.int .i64 x16_1), (.int .i64 x16_2)].toArray) (.agg [(.int .i64 x1), (.int .i64 (1 : Int)), (.int .i64 x2)].toArray)) w = .ok (.bool r21) w) ∧ cond r21 (
  R (.bool false) w6) (
  ∃ r26 : Bool, (∀ w, Sem.run Try.prog (aggEq .eql 38 (.agg [(.int .i64 x16_0), (.int .i64 x16_1), (.int .i64 x16_2)].toArray) (.agg [(.int .i64 x1), (.int .i64 (0 : Int)), (.int .i64 x2)].toArray)) w = .ok (.bool r26) w) ∧ cond r26 (
  R (.bool true) w6) (
  J_3 w6))))) (
  J w3)))
theorem eq87 (s0_0 : Sl) (s0_1 : Sl) (m0_2 : Option Nat) (m0_3 : Option Nat) (x1 : Int) (x2 : Int) (R : Value → World → Prop) (w : World) : funV Try.prog Try.f87 An87 [(.agg [(.slice s0_0.a s0_0.n s0_0.c), (.slice s0_1.a s0_1.n s0_1.c), (.map m0_2), (.map m0_3)].toArray), (.int .i64 x1), (.int .i64 x2)] R w = S87 s0_0 s0_1 m0_2 m0_3 x1 x2 R w := by kernel_rfl
theorem call87 (s0_0 : Sl) (s0_1 : Sl) (m0_2 : Option Nat) (m0_3 : Option Nat) (x1 : Int) (x2 : Int) {R : Value → World → Prop} {w : World} (h : S87 s0_0 s0_1 m0_2 m0_3 x1 x2 R w) : Calls Try.prog 87 [(.agg [(.slice s0_0.a s0_0.n s0_0.c), (.slice s0_1.a s0_1.n s0_1.c), (.map m0_2), (.map m0_3)].toArray), (.int .i64 x1), (.int .i64 x2)].toArray w fun e w' => ∃ v, e = .returned v ∧ R v w' :=
  funV_calls mixed Try.func87 (an := An87) (by rw [eq87]; exact h)

/-- F88: (cubeb/history.snapshot).source -/
def An88 : An := (.sq .lf (.sq .lf (.sq (.sq .lf (.bk [(7, .int .i64)] (.lp [(7, .int .i64), (13, .int .i64)] (.sq .lf (.sq (.cd .lf .lf) (.sq (.bk [(7, .int .i64)] (.sq .lf (.sq (.rj [] [(46, .bool)]) (.cj [(7, .int .i64)] .lf .lf)))) .lf)))))) (.sq .lf .lf))))
def S88 (s0_0 : Sl) (s0_1 : Sl) (m0_2 : Option Nat) (m0_3 : Option Nat) (x1 : Int) (x2 : Int) (R : Value → World → Prop) (w : World) : Prop :=
  Let (w.alloc (.cells [(.slice s0_0.a s0_0.n s0_0.c), (.slice s0_1.a s0_1.n s0_1.c), (.map m0_2), (.map m0_3)].toArray 112)) fun w1 => 
  ∃ s11 : Sl, World.cell? w1 ⟨w.heap.size, (0 + 1), none⟩ = some (.slice s11.a s11.n s11.c) ∧ Join [(7, .int .i64)] (fun (x7 : Int) (w2 : World) => R (.int .i64 x7) w2) (fun J =>
  LoopV [(7, .int .i64), (13, .int .i64)] (fun K => K (0 : Int) (0 : Int) w1) (fun N => fun (x7_2 : Int) (x13 : Int) (w3 : World) =>
  cond (decide (x13 < ((s11.n : Nat) : Int))) (
  Join [(7, .int .i64)] (fun (x7_3 : Int) (w4 : World) => N x7_3 (IntKind.wrap .i64 (x13 + (1 : Int))) w4) (fun J_2 =>
  ∃ p15 : Pt, s11.a = some ⟨p15.b, p15.o, none⟩ ∧ 0 ≤ x13 ∧ x13 < ((s11.n : Nat) : Int) ∧ ∃ x16 : Int, World.cell? w3 ⟨p15.b, (p15.o + Int.toNat x13 * 1), none⟩ = some (.int .i64 x16) ∧ Join [(46, .bool)] (fun (b46 : Bool) (w5 : World) => Join [(7, .int .i64)] (fun (x7_4 : Int) (w6 : World) => J_2 x7_4 w6) (fun J_3 =>
  cond b46 (
  J_3 x16 w5) (
  J_3 x7_2 w5))) (fun J_4 =>
  ∃ s17_0 : Sl, ∃ s17_1 : Sl, ∃ m17_2 : Option Nat, ∃ m17_3 : Option Nat, rd w3 w.heap.size 0 [(.slice s17_0.a s17_0.n s17_0.c), (.slice s17_1.a s17_1.n s17_1.c), (.map m17_2), (.map m17_3)] ∧ Calls Try.prog 86 [(.agg [(.slice s17_0.a s17_0.n s17_0.c), (.slice s17_1.a s17_1.n s17_1.c), (.map m17_2), (.map m17_3)].toArray), (.int .i64 x16), (.int .i64 x2)].toArray w3 (fun e w7 => ∃ b20 : Bool, e = .returned (.bool b20) ∧
  cond b20 (∃ m23 : Option Nat, World.cell? w7 ⟨w.heap.size, (0 + 3), none⟩ = some (.map m23) ∧ ∃ x25 : Int, Sem.run Try.prog (Instr.lookup 103 (.map m23) (.int .i64 x16) false) w7 = .ok (.int .i64 x25) w7 ∧ ∃ m27 : Option Nat, World.cell? w7 ⟨w.heap.size, (0 + 2), none⟩ = some (.map m27) ∧ ∃ x29 : Int, Sem.run Try.prog (Instr.lookup 103 (.map m27) (.int .i64 x1) false) w7 = .ok (.int .i64 x29) w7 ∧ cond (decide (x25 < x29)) (cond (x7_2 == (0 : Int)) (J_4 true w7) (∃ m37 : Option Nat, World.cell? w7 ⟨w.heap.size, (0 + 3), none⟩ = some (.map m37) ∧ ∃ x39 : Int, Sem.run Try.prog (Instr.lookup 103 (.map m37) (.int .i64 x16) false) w7 = .ok (.int .i64 x39) w7 ∧ ∃ m41 : Option Nat, World.cell? w7 ⟨w.heap.size, (0 + 3), none⟩ = some (.map m41) ∧ ∃ x43 : Int, Sem.run Try.prog (Instr.lookup 103 (.map m41) (.int .i64 x7_2) false) w7 = .ok (.int .i64 x43) w7 ∧ J_4 (decide (x39 > x43)) w7)) (J_4 false w7)) (J_4 false w7))))) (
  J x7_2 w3)))
theorem eq88 (s0_0 : Sl) (s0_1 : Sl) (m0_2 : Option Nat) (m0_3 : Option Nat) (x1 : Int) (x2 : Int) (R : Value → World → Prop) (w : World) : funV Try.prog Try.f88 An88 [(.agg [(.slice s0_0.a s0_0.n s0_0.c), (.slice s0_1.a s0_1.n s0_1.c), (.map m0_2), (.map m0_3)].toArray), (.int .i64 x1), (.int .i64 x2)] R w = S88 s0_0 s0_1 m0_2 m0_3 x1 x2 R w := by kernel_rfl
theorem call88 (s0_0 : Sl) (s0_1 : Sl) (m0_2 : Option Nat) (m0_3 : Option Nat) (x1 : Int) (x2 : Int) {R : Value → World → Prop} {w : World} (h : S88 s0_0 s0_1 m0_2 m0_3 x1 x2 R w) : Calls Try.prog 88 [(.agg [(.slice s0_0.a s0_0.n s0_0.c), (.slice s0_1.a s0_1.n s0_1.c), (.map m0_2), (.map m0_3)].toArray), (.int .i64 x1), (.int .i64 x2)].toArray w fun e w' => ∃ v, e = .returned v ∧ R v w' :=
  funV_calls mixed Try.func88 (an := An88) (by rw [eq88]; exact h)

/-- F61: (cubeb/history.snapshot).allowed -/
def An61 : An := (.sq .lf (.sq (.sq .lf (.bk [] (.lp [(11, .int .i64)] (.sq .lf (.sq (.cd .lf .lf) (.sq (.bk [] (.sq .lf (.sq .lf (.bk [] (.lp [(18, .int .i64)] (.sq .lf (.sq (.cd .lf .lf) (.sq (.bk [] (.sq .lf (.sq .lf (.bk [] (.lp [(22, .int .i64)] (.sq .lf (.sq (.cd .lf .lf) (.sq (.bk [] (.sq .lf (.sq (.rj [] [(45, .bool)]) (.cd (.sq .lf .lf) .lf)))) .lf)))))))) .lf)))))))) .lf)))))) (.sq .lf .lf)))
def S61 (s0_0 : Sl) (s0_1 : Sl) (m0_2 : Option Nat) (m0_3 : Option Nat) (R : Value → World → Prop) (w : World) : Prop :=
  Let (w.alloc (.cells [(.slice s0_0.a s0_0.n s0_0.c), (.slice s0_1.a s0_1.n s0_1.c), (.map m0_2), (.map m0_3)].toArray 112)) fun w1 => 
  ∃ s9 : Sl, World.cell? w1 ⟨w.heap.size, (0 + 1), none⟩ = some (.slice s9.a s9.n s9.c) ∧ Join [] (fun (w2 : World) => R (.bool true) w2) (fun J =>
  LoopV [(11, .int .i64)] (fun K => K (0 : Int) w1) (fun N => fun (x11 : Int) (w3 : World) =>
  cond (decide (x11 < ((s9.n : Nat) : Int))) (
  Join [] (fun (w4 : World) => N (IntKind.wrap .i64 (x11 + (1 : Int))) w4) (fun J_2 =>
  ∃ p13 : Pt, s9.a = some ⟨p13.b, p13.o, none⟩ ∧ 0 ≤ x11 ∧ x11 < ((s9.n : Nat) : Int) ∧ ∃ x14 : Int, World.cell? w3 ⟨p13.b, (p13.o + Int.toNat x11 * 1), none⟩ = some (.int .i64 x14) ∧ ∃ s16 : Sl, World.cell? w3 ⟨w.heap.size, (0 + 1), none⟩ = some (.slice s16.a s16.n s16.c) ∧ Join [] (fun (w5 : World) => J_2 w5) (fun J_3 =>
  LoopV [(18, .int .i64)] (fun K => K (0 : Int) w3) (fun N_2 => fun (x18 : Int) (w6 : World) =>
  cond (decide (x18 < ((s16.n : Nat) : Int))) (
  Join [] (fun (w7 : World) => N_2 (IntKind.wrap .i64 (x18 + (1 : Int))) w7) (fun J_4 =>
  ∃ p20 : Pt, s16.a = some ⟨p20.b, p20.o, none⟩ ∧ 0 ≤ x18 ∧ x18 < ((s16.n : Nat) : Int) ∧ ∃ x21 : Int, World.cell? w6 ⟨p20.b, (p20.o + Int.toNat x18 * 1), none⟩ = some (.int .i64 x21) ∧ Join [] (fun (w8 : World) => J_4 w8) (fun J_5 =>
  LoopV [(22, .int .i64)] (fun K => K (0 : Int) w6) (fun N_3 => fun (x22 : Int) (w9 : World) =>
  cond (decide (x22 < (6 : Int))) (
  Join [] (fun (w10 : World) => N_3 (IntKind.wrap .i64 (x22 + (1 : Int))) w10) (fun J_6 =>
  Join [(45, .bool)] (fun (b45 : Bool) (w11 : World) => cond b45 (
  R (.bool false) w11) (
  J_6 w11)) (fun J_7 =>
  cond (decide (x14 < x21)) (∃ s29_0 : Sl, ∃ s29_1 : Sl, ∃ m29_2 : Option Nat, ∃ m29_3 : Option Nat, rd w9 w.heap.size 0 [(.slice s29_0.a s29_0.n s29_0.c), (.slice s29_1.a s29_1.n s29_1.c), (.map m29_2), (.map m29_3)] ∧ Calls Try.prog 63 [(.agg [(.slice s29_0.a s29_0.n s29_0.c), (.slice s29_1.a s29_1.n s29_1.c), (.map m29_2), (.map m29_3)].toArray), (.int .i64 x14), (.int .i64 x21)].toArray w9 (fun e w12 => ∃ b32 : Bool, e = .returned (.bool b32) ∧
  cond b32 (∃ s35_0 : Sl, ∃ s35_1 : Sl, ∃ m35_2 : Option Nat, ∃ m35_3 : Option Nat, rd w12 w.heap.size 0 [(.slice s35_0.a s35_0.n s35_0.c), (.slice s35_1.a s35_1.n s35_1.c), (.map m35_2), (.map m35_3)] ∧ Calls Try.prog 86 [(.agg [(.slice s35_0.a s35_0.n s35_0.c), (.slice s35_1.a s35_1.n s35_1.c), (.map m35_2), (.map m35_3)].toArray), (.int .i64 x14), (.int .i64 x22)].toArray w12 (fun e_2 w13 => ∃ b38 : Bool, e_2 = .returned (.bool b38) ∧
  cond b38 (∃ s41_0 : Sl, ∃ s41_1 : Sl, ∃ m41_2 : Option Nat, ∃ m41_3 : Option Nat, rd w13 w.heap.size 0 [(.slice s41_0.a s41_0.n s41_0.c), (.slice s41_1.a s41_1.n s41_1.c), (.map m41_2), (.map m41_3)] ∧ Calls Try.prog 86 [(.agg [(.slice s41_0.a s41_0.n s41_0.c), (.slice s41_1.a s41_1.n s41_1.c), (.map m41_2), (.map m41_3)].toArray), (.int .i64 x21), (.int .i64 x22)].toArray w13 (fun e_3 w14 => ∃ b44 : Bool, e_3 = .returned (.bool b44) ∧
  J_7 b44 w14)) (J_7 false w13))) (J_7 false w12))) (J_7 false w9)))) (
  J_5 w9))))) (
  J_3 w6))))) (
  J w3)))
theorem eq61 (s0_0 : Sl) (s0_1 : Sl) (m0_2 : Option Nat) (m0_3 : Option Nat) (R : Value → World → Prop) (w : World) : funV Try.prog Try.f61 An61 [(.agg [(.slice s0_0.a s0_0.n s0_0.c), (.slice s0_1.a s0_1.n s0_1.c), (.map m0_2), (.map m0_3)].toArray)] R w = S61 s0_0 s0_1 m0_2 m0_3 R w := by kernel_rfl
theorem call61 (s0_0 : Sl) (s0_1 : Sl) (m0_2 : Option Nat) (m0_3 : Option Nat) {R : Value → World → Prop} {w : World} (h : S61 s0_0 s0_1 m0_2 m0_3 R w) : Calls Try.prog 61 [(.agg [(.slice s0_0.a s0_0.n s0_0.c), (.slice s0_1.a s0_1.n s0_1.c), (.map m0_2), (.map m0_3)].toArray)].toArray w fun e w' => ∃ v, e = .returned v ∧ R v w' :=
  funV_calls mixed Try.func61 (an := An61) (by rw [eq61]; exact h)

/-- F30: cubeb/history.Snapshot -/
def An30 : An := (.sq .lf (.sq (.sq .lf (.cd (.sq .lf .lf) .lf)) (.sq .lf .lf)))
def S30 (s0 : Sl) (R : Value → World → Prop) (w : World) : Prop :=
  Calls Try.prog 26 [(.slice s0.a s0.n s0.c)].toArray w (fun e w1 => ∃ b5 : Bool, e = .returned (.bool b5) ∧
  cond (!b5) (
  R (.tuple [(.bool false), (.int .i64 (2 : Int))].toArray) w1) (
  Calls Try.prog 60 [(.slice s0.a s0.n s0.c)].toArray w1 (fun e_2 w2 => ∃ s8_0 : Sl, ∃ s8_1 : Sl, ∃ m8_2 : Option Nat, ∃ m8_3 : Option Nat, e_2 = .returned (.agg [(.slice s8_0.a s8_0.n s8_0.c), (.slice s8_1.a s8_1.n s8_1.c), (.map m8_2), (.map m8_3)].toArray) ∧
  Calls Try.prog 61 [(.agg [(.slice s8_0.a s8_0.n s8_0.c), (.slice s8_1.a s8_1.n s8_1.c), (.map m8_2), (.map m8_3)].toArray)].toArray w2 (fun e_3 w3 => ∃ b9 : Bool, e_3 = .returned (.bool b9) ∧
  R (.tuple [(.bool b9), (.int .i64 (0 : Int))].toArray) w3))))
theorem eq30 (s0 : Sl) (R : Value → World → Prop) (w : World) : funV Try.prog Try.f30 An30 [(.slice s0.a s0.n s0.c)] R w = S30 s0 R w := by kernel_rfl
theorem call30 (s0 : Sl) {R : Value → World → Prop} {w : World} (h : S30 s0 R w) : Calls Try.prog 30 [(.slice s0.a s0.n s0.c)].toArray w fun e w' => ∃ v, e = .returned v ∧ R v w' :=
  funV_calls mixed Try.func30 (an := An30) (by rw [eq30]; exact h)

/-- F31: cubeb/history.SnapshotOrder -/
def An31 : An := (.sq .lf (.sq (.sq .lf (.cd (.sq .lf .lf) .lf)) (.sq .lf (.sq (.sq .lf (.cd (.sq .lf .lf) .lf)) (.sq .lf (.sq .lf (.sq (.sq .lf (.cd (.sq .lf .lf) .lf)) (.sq .lf .lf))))))))
def S31 (s0 : Sl) (R : Value → World → Prop) (w : World) : Prop :=
  Calls Try.prog 26 [(.slice s0.a s0.n s0.c)].toArray w (fun e w1 => ∃ b10 : Bool, e = .returned (.bool b10) ∧
  cond (!b10) (
  R (.tuple [(.slice none 0 0), (.int .i64 (2 : Int))].toArray) w1) (
  Calls Try.prog 60 [(.slice s0.a s0.n s0.c)].toArray w1 (fun e_2 w2 => ∃ s13_0 : Sl, ∃ s13_1 : Sl, ∃ m13_2 : Option Nat, ∃ m13_3 : Option Nat, e_2 = .returned (.agg [(.slice s13_0.a s13_0.n s13_0.c), (.slice s13_1.a s13_1.n s13_1.c), (.map m13_2), (.map m13_3)].toArray) ∧
  Let (w2.alloc (.cells (zc Try.prog 112) 112)) fun w3 => 
  StoreOk w3 w2.heap.size 0 [(.slice s13_0.a s13_0.n s13_0.c), (.slice s13_1.a s13_1.n s13_1.c), (.map m13_2), (.map m13_3)] 4 ∧ Let (put w3 w2.heap.size 0 [(.slice s13_0.a s13_0.n s13_0.c), (.slice s13_1.a s13_1.n s13_1.c), (.map m13_2), (.map m13_3)]) fun w4 => 
  ∃ s14_0 : Sl, ∃ s14_1 : Sl, ∃ m14_2 : Option Nat, ∃ m14_3 : Option Nat, rd w4 w2.heap.size 0 [(.slice s14_0.a s14_0.n s14_0.c), (.slice s14_1.a s14_1.n s14_1.c), (.map m14_2), (.map m14_3)] ∧ Calls Try.prog 61 [(.agg [(.slice s14_0.a s14_0.n s14_0.c), (.slice s14_1.a s14_1.n s14_1.c), (.map m14_2), (.map m14_3)].toArray)].toArray w4 (fun e_3 w5 => ∃ b15 : Bool, e_3 = .returned (.bool b15) ∧
  cond (!b15) (
  R (.tuple [(.slice none 0 0), (.int .i64 (7 : Int))].toArray) w5) (
  ∃ s18_0 : Sl, ∃ s18_1 : Sl, ∃ m18_2 : Option Nat, ∃ m18_3 : Option Nat, rd w5 w2.heap.size 0 [(.slice s18_0.a s18_0.n s18_0.c), (.slice s18_1.a s18_1.n s18_1.c), (.map m18_2), (.map m18_3)] ∧ Calls Try.prog 62 [(.agg [(.slice s18_0.a s18_0.n s18_0.c), (.slice s18_1.a s18_1.n s18_1.c), (.map m18_2), (.map m18_3)].toArray)].toArray w5 (fun e_4 w6 => ∃ m19_0 : Option Nat, ∃ m19_1 : Option Nat, e_4 = .returned (.tuple [(.map m19_0), (.map m19_1)].toArray) ∧
  ∃ s25 : Sl, World.cell? w6 ⟨w2.heap.size, (0 + 1), none⟩ = some (.slice s25.a s25.n s25.c) ∧ Calls Try.prog 44 [(.map m19_1), (.slice s25.a s25.n s25.c)].toArray w6 (fun e_5 w7 => ∃ s26_0 : Sl, ∃ b26_1 : Bool, e_5 = .returned (.tuple [(.slice s26_0.a s26_0.n s26_0.c), (.bool b26_1)].toArray) ∧
  cond (!b26_1) (
  R (.tuple [(.slice none 0 0), (.int .i64 (5 : Int))].toArray) w7) (
  R (.tuple [(.slice s26_0.a s26_0.n s26_0.c), (.int .i64 (0 : Int))].toArray) w7))))))))
theorem eq31 (s0 : Sl) (R : Value → World → Prop) (w : World) : funV Try.prog Try.f31 An31 [(.slice s0.a s0.n s0.c)] R w = S31 s0 R w := by kernel_rfl
theorem call31 (s0 : Sl) {R : Value → World → Prop} {w : World} (h : S31 s0 R w) : Calls Try.prog 31 [(.slice s0.a s0.n s0.c)].toArray w fun e w' => ∃ v, e = .returned v ∧ R v w' :=
  funV_calls mixed Try.func31 (an := An31) (by rw [eq31]; exact h)

/-- F9: cubeb/cubeblaw05.HistorySerial -/
def An9 : An := (.sq .lf (.sq .lf (.sq .lf (.sq (.sq .lf (.bk [(5, .slice), (6, .slice)] (.lp [(5, .slice), (6, .slice), (26, .int .i64)] (.sq .lf (.sq (.cd .lf .lf) (.sq (.bk [(5, .slice), (6, .slice)] (.sq .lf (.sq (.sq (.rj [] [(45, .bool)]) (.cd .lf .lf)) (.sq (.sq .lf (.bk [(5, .slice)] (.lp [(5, .slice), (49, .int .i64)] (.sq .lf (.sq (.cd .lf .lf) (.sq (.bk [(5, .slice)] (.sq .lf (.sq (.rj [] [(61, .bool)]) (.cj [(5, .slice)] .lf .lf)))) .lf)))))) (.sq (.sq .lf (.cd (.sq .lf .lf) .lf)) (.sq .lf .lf)))))) .lf)))))) (.sq .lf (.sq .lf (.sq .lf (.sq .lf (.sq .lf (.sq (.rj [] [(4, .bool)]) .lf))))))))))
def S9 (s0 : Sl) (s1 : Sl) (R : Value → World → Prop) (w : World) : Prop :=
  Join [(5, .slice), (6, .slice)] (fun (s5 : Sl) (s6 : Sl) (w1 : World) => Calls Try.prog 17 [(.slice s5.a s5.n s5.c)].toArray w1 (fun e w2 => ∃ s83_0 : Sl, ∃ x83_1 : Int, e = .returned (.tuple [(.slice s83_0.a s83_0.n s83_0.c), (.int .i64 x83_1)].toArray) ∧
  Calls Try.prog 25 [(.slice s5.a s5.n s5.c)].toArray w2 (fun e_2 w3 => ∃ b88_0 : Bool, ∃ b88_1 : Bool, ∃ b88_2 : Bool, ∃ x88_3 : Int, e_2 = .returned (.tuple [(.bool b88_0), (.bool b88_1), (.bool b88_2), (.int .i64 x88_3)].toArray) ∧
  Calls Try.prog 30 [(.slice s5.a s5.n s5.c)].toArray w3 (fun e_3 w4 => ∃ b95_0 : Bool, ∃ x95_1 : Int, e_3 = .returned (.tuple [(.bool b95_0), (.int .i64 x95_1)].toArray) ∧
  Calls Try.prog 31 [(.slice s5.a s5.n s5.c)].toArray w4 (fun e_4 w5 => ∃ s100_0 : Sl, ∃ x100_1 : Int, e_4 = .returned (.tuple [(.slice s100_0.a s100_0.n s100_0.c), (.int .i64 x100_1)].toArray) ∧
  Calls Try.prog 19 [(.slice s5.a s5.n s5.c)].toArray w5 (fun e_5 w6 => ∃ s105_0 : Sl, ∃ s105_1 : Sl, ∃ x105_2 : Int, e_5 = .returned (.tuple [(.slice s105_0.a s105_0.n s105_0.c), (.slice s105_1.a s105_1.n s105_1.c), (.int .i64 x105_2)].toArray) ∧
  Join [(4, .bool)] (fun (b4 : Bool) (w7 : World) => R (.bool b4) w7) (fun J =>
  cond (x83_1 == (0 : Int)) (Calls Try.prog 24 [(.slice s83_0.a s83_0.n s83_0.c), (.slice s6.a s6.n s6.c)].toArray w6 (fun e_6 w8 => ∃ x114 : Int, e_6 = .returned (.int .i64 x114) ∧
  cond (decide (x114 ≤ (0 : Int))) (Calls Try.prog 22 [(.slice s5.a s5.n s5.c)].toArray w8 (fun e_7 w9 => ∃ s119 : Sl, e_7 = .returned (.slice s119.a s119.n s119.c) ∧
  Calls Try.prog 29 [(.slice s119.a s119.n s119.c), (.slice s6.a s6.n s6.c)].toArray w9 (fun e_8 w10 => ∃ b121 : Bool, e_8 = .returned (.bool b121) ∧
  cond b121 (cond b88_2 (cond (x88_3 == (0 : Int)) (cond b95_0 (cond (x95_1 == (0 : Int)) (cond (x100_1 == (0 : Int)) (Calls Try.prog 24 [(.slice s100_0.a s100_0.n s100_0.c), (.slice s6.a s6.n s6.c)].toArray w10 (fun e_9 w11 => ∃ x144 : Int, e_9 = .returned (.int .i64 x144) ∧
  cond (decide (x144 ≤ (0 : Int))) (Calls Try.prog 23 [(.slice s105_0.a s105_0.n s105_0.c), (.slice s5.a s5.n s5.c)].toArray w11 (fun e_10 w12 => ∃ b150 : Bool, e_10 = .returned (.bool b150) ∧
  cond b150 (cond (((s105_1.n : Nat) : Int) == (0 : Int)) (cond (x105_2 == (0 : Int)) (Calls Try.prog 14 [].toArray w12 (fun e_11 w13 => ∃ b162 : Bool, e_11 = .returned (.bool b162) ∧
  J b162 w13)) (J false w12)) (J false w12)) (J false w12))) (J false w11))) (J false w10)) (J false w10)) (J false w10)) (J false w10)) (J false w10)) (J false w10)))) (J false w8))) (J false w6)))))))) (fun J_2 =>
  LoopV [(5, .slice), (6, .slice), (26, .int .i64)] (fun K => K ⟨none, 0, 0⟩ ⟨none, 0, 0⟩ (0 : Int) w) (fun N => fun (s5_2 : Sl) (s6_2 : Sl) (x26 : Int) (w14 : World) =>
  cond (decide (x26 < ((s1.n : Nat) : Int))) (
  Join [(5, .slice), (6, .slice)] (fun (s5_3 : Sl) (s6_3 : Sl) (w15 : World) => N ⟨s5_3.a, s5_3.n, s5_3.c⟩ ⟨s6_3.a, s6_3.n, s6_3.c⟩ (IntKind.wrap .i64 (x26 + (1 : Int))) w15) (fun J_3 =>
  ∃ p28 : Pt, s1.a = some ⟨p28.b, p28.o, none⟩ ∧ 0 ≤ x26 ∧ x26 < ((s1.n : Nat) : Int) ∧ ∃ x29 : Int, World.cell? w14 ⟨p28.b, (p28.o + Int.toNat x26 * 1), none⟩ = some (.int .i64 x29) ∧ Join [(45, .bool)] (fun (b45 : Bool) (w16 : World) => cond b45 (
  J_3 ⟨s5_2.a, s5_2.n, s5_2.c⟩ ⟨s6_2.a, s6_2.n, s6_2.c⟩ w16) (
  Calls Try.prog 12 [(.slice s0.a s0.n s0.c)].toArray w16 (fun e_12 w17 => ∃ s47 : Sl, e_12 = .returned (.slice s47.a s47.n s47.c) ∧
  Join [(5, .slice)] (fun (s5_4 : Sl) (w18 : World) => cond (decide (((s5_4.n : Nat) : Int) > (34 : Int))) (
  Calls Try.prog 14 [].toArray w18 (fun e_13 w19 => ∃ b70 : Bool, e_13 = .returned (.bool b70) ∧
  R (.bool b70) w19)) (
  ∃ (s73 : Sl) (w20 : World), Sem.run Try.prog (Instr.buildSlice 24 1 [(0, (.int .i64 x29))].toArray) w18 = .ok (.slice s73.a s73.n s73.c) w20 ∧
  ∃ (s74 : Sl) (w21 : World), Sem.run Try.prog (Builtin.append_ #[24, 24] 24 #[(.slice s6_2.a s6_2.n s6_2.c), (.slice s73.a s73.n s73.c)]) w20 = .ok (.slice s74.a s74.n s74.c) w21 ∧
  ∃ (s78 : Sl) (w22 : World), Sem.run Try.prog (Instr.buildSlice 29 1 [(0, (.agg [(.int .i64 x29), (.int .i64 (2 : Int)), (.int .i64 (0 : Int))].toArray))].toArray) w21 = .ok (.slice s78.a s78.n s78.c) w22 ∧
  ∃ (s79 : Sl) (w23 : World), Sem.run Try.prog (Builtin.append_ #[29, 29] 29 #[(.slice s5_4.a s5_4.n s5_4.c), (.slice s78.a s78.n s78.c)]) w22 = .ok (.slice s79.a s79.n s79.c) w23 ∧
  J_3 ⟨s79.a, s79.n, s79.c⟩ ⟨s74.a, s74.n, s74.c⟩ w23)) (fun J_4 =>
  LoopV [(5, .slice), (49, .int .i64)] (fun K => K ⟨s5_2.a, s5_2.n, s5_2.c⟩ (0 : Int) w17) (fun N_2 => fun (s5_5 : Sl) (x49 : Int) (w24 : World) =>
  cond (decide (x49 < ((s47.n : Nat) : Int))) (
  Join [(5, .slice)] (fun (s5_6 : Sl) (w25 : World) => N_2 ⟨s5_6.a, s5_6.n, s5_6.c⟩ (IntKind.wrap .i64 (x49 + (1 : Int))) w25) (fun J_5 =>
  ∃ p51 : Pt, s47.a = some ⟨p51.b, p51.o, none⟩ ∧ 0 ≤ x49 ∧ x49 < ((s47.n : Nat) : Int) ∧ ∃ x52_0 : Int, ∃ x52_1 : Int, ∃ x52_2 : Int, rd w24 p51.b (p51.o + Int.toNat x49 * 3) [(.int .i64 x52_0), (.int .i64 x52_1), (.int .i64 x52_2)] ∧ Let (w24.alloc (.cells (zc Try.prog 38) 38)) fun w26 => 
  StoreOk w26 w24.heap.size 0 [(.int .i64 x52_0), (.int .i64 x52_1), (.int .i64 x52_2)] 3 ∧ Let (put w26 w24.heap.size 0 [(.int .i64 x52_0), (.int .i64 x52_1), (.int .i64 x52_2)]) fun w27 => 
  Join [(61, .bool)] (fun (b61 : Bool) (w28 : World) => Join [(5, .slice)] (fun (s5_7 : Sl) (w29 : World) => J_5 ⟨s5_7.a, s5_7.n, s5_7.c⟩ w29) (fun J_6 =>
  cond b61 (
  ∃ x63_0 : Int, ∃ x63_1 : Int, ∃ x63_2 : Int, rd w28 w24.heap.size 0 [(.int .i64 x63_0), (.int .i64 x63_1), (.int .i64 x63_2)] ∧ ∃ (s64 : Sl) (w30 : World), Sem.run Try.prog (Instr.buildSlice 29 1 [(0, (.agg [(.int .i64 x63_0), (.int .i64 x63_1), (.int .i64 x63_2)].toArray))].toArray) w28 = .ok (.slice s64.a s64.n s64.c) w30 ∧
  ∃ (s65 : Sl) (w31 : World), Sem.run Try.prog (Builtin.append_ #[29, 29] 29 #[(.slice s5_5.a s5_5.n s5_5.c), (.slice s64.a s64.n s64.c)]) w30 = .ok (.slice s65.a s65.n s65.c) w31 ∧
  J_6 ⟨s65.a, s65.n, s65.c⟩ w31) (
  J_6 ⟨s5_5.a, s5_5.n, s5_5.c⟩ w28))) (fun J_7 =>
  ∃ x54 : Int, World.cell? w27 ⟨w24.heap.size, (0 + 0), none⟩ = some (.int .i64 x54) ∧ cond (x54 == x29) (∃ x59 : Int, World.cell? w27 ⟨w24.heap.size, (0 + 1), none⟩ = some (.int .i64 x59) ∧ J_7 (decide (x59 < (2 : Int))) w27) (J_7 false w27)))) (
  J_4 ⟨s5_5.a, s5_5.n, s5_5.c⟩ w24)))))) (fun J_8 =>
  cond (decide (x29 < (1 : Int))) (J_8 true w14) (cond (decide (x29 > (6 : Int))) (J_8 true w14) (Calls Try.prog 28 [(.slice s6_2.a s6_2.n s6_2.c), (.int .i64 x29)].toArray w14 (fun e_14 w32 => ∃ b39 : Bool, e_14 = .returned (.bool b39) ∧
  cond b39 (J_8 true w32) (Calls Try.prog 13 [(.slice s0.a s0.n s0.c)].toArray w32 (fun e_15 w33 => ∃ b43 : Bool, e_15 = .returned (.bool b43) ∧
  J_8 (!b43) w33)))))))) (
  J_2 ⟨s5_2.a, s5_2.n, s5_2.c⟩ ⟨s6_2.a, s6_2.n, s6_2.c⟩ w14)))
theorem eq9 (s0 : Sl) (s1 : Sl) (R : Value → World → Prop) (w : World) : funV Try.prog Try.f9 An9 [(.slice s0.a s0.n s0.c), (.slice s1.a s1.n s1.c)] R w = S9 s0 s1 R w := by kernel_rfl
theorem call9 (s0 : Sl) (s1 : Sl) {R : Value → World → Prop} {w : World} (h : S9 s0 s1 R w) : Calls Try.prog 9 [(.slice s0.a s0.n s0.c), (.slice s1.a s1.n s1.c)].toArray w fun e w' => ∃ v, e = .returned v ∧ R v w' :=
  funV_calls mixed Try.func9 (an := An9) (by rw [eq9]; exact h)

end Go.Proofs.Ytnbkihkdfhjlmaa
