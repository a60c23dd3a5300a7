/-
  How the state of Lock changes in memory; contract: one operation is tried.
-/
import Derived.Test.YtnbkihkdfhjlmaaEe
namespace Go.Proofs.Ytnbkihkdfhjlmaa
open Go Go.VC
set_option maxHeartbeats 1000000
set_option maxRecDepth 100000

section
variable {h : List Ev} {B : Nat} {w w' : World} {b : Nat} {st st' : LS} {f f' : Nat → Value} {ms ms' : Nat → Option Nat} {sd sa : Sl} {bw : Nat} {lw : List (Ent Int Sl)} {kw : Nat}
/-- No block of another type is one of the locks. -/
theorem Lk.not_cells (k : Lk B w b st f ms) {y T : Nat} {cur : List Value} (hb : Blk w y cur T) (hT : T ≠ 89) : ¬ LkB b ms y := by
  rintro (rfl | ⟨i, hi, hm⟩)
  · exact Blk.ne_ty hb k.fb hT rfl
  · obtain ⟨_, l, c, h2, _⟩ := k.mp i hi y hm
    exact h2.ne_blk hb rfl
theorem Run.lock (r : Run h B w b st f ms sd sa bw lw kw) (k : Lk B w' b st' f' ms') (hf : ∀ j, 12 ≤ j → f' j = f j) (hms : ∀ i m, i < 6 → ms' i = some m → ms i = some m ∨ w.heap.size ≤ m) (fr : Fr (LkB b ms) w w')
    (h1 : st'.dn = st.dn) (h2 : st'.ab = st.ab) (h3 : st'.q = st.q) : Run h B w' b st' f' ms' sd sa bw lw kw := by
  have hbw : ¬ LkB b ms bw := by
    rintro (e | ⟨i, hi, hm⟩)
    · exact r.mw.ne_blk r.lk.fb e
    · exact r.bm i hi hm
  refine ⟨k, by rw [hf 12 (by omega)]; exact r.fd, by rw [hf 13 (by omega)]; exact r.fa, by rw [hf 14 (by omega)]; exact r.fw, ?_, ?_, r.bwB, r.mw.fr fr hbw, fun i hi hm => ?_, fun t => ?_, r.sep⟩
  · rw [h1]; exact r.od.fr fr fun a ha => by obtain ⟨cur, hc⟩ := r.od.blk ha; exact r.lk.not_cells hc (by decide)
  · rw [h2]; exact r.oa.fr fr fun a ha => by obtain ⟨cur, hc⟩ := r.oa.blk ha; exact r.lk.not_cells hc (by decide)
  · rcases hms i bw hi hm with h4 | h4
    · exact r.bm i hi h4
    · have := r.mw.bound; omega
  · rw [h3]; exact (r.tl t).fr fr fun y hy => by obtain ⟨_, _, cur, hc⟩ := (r.tl t).base hy; exact r.lk.not_cells hc (by decide)
/-- Cell 12, 13: what was done, who was aborted. -/
theorem Run.setD (r : Run h B w b st f ms sd sa bw lw kw) {w1 w2 : World} (hx : Ext w w1) (hf : Fr (Bl sd) w1 w2) {s' : Sl} {l : List Ev} (ho : Own 38 3 eO B w2 s' l) :
    StoreOk w2 b 12 [.slice s'.a s'.n s'.c] 1 ∧ Run h B (put w2 b 12 [.slice s'.a s'.n s'.c]) b { st with dn := l } (updF f 12 [.slice s'.a s'.n s'.c]) ms s' sa bw lw kw ∧ Fr (fun y => y = b) w2 (put w2 b 12 [.slice s'.a s'.n s'.c]) := by
  have r1 := r.ext hx
  have hblk : ∀ y, Bl sd y → ∃ cur, Blk w1 y cur 38 := fun y ⟨a, ha, hy⟩ => by rw [← hy]; exact r1.od.blk ha
  have k2 : Lk B w2 b st f ms := r1.lk.fr hf fun y hy hb => by obtain ⟨cur, hc⟩ := hblk y hb; exact r1.lk.not_cells hc (by decide) hy
  have ha2 : Own 3 1 eI B w2 sa st.ab := r1.oa.fr hf fun a ha hb => by
    obtain ⟨cur, hc⟩ := hblk _ hb
    obtain ⟨cur', hc'⟩ := r1.oa.blk ha
    exact Blk.ne_ty hc hc' (by decide) rfl
  have hm2 : Mp kI kS w2 bw lw kw := r1.mw.fr hf fun hb => by obtain ⟨cur, hc⟩ := hblk _ hb; exact r1.mw.ne_blk hc rfl
  have ht2 : ∀ t, Tl 92 4 eH B w2 (sAt lw t) ((st.q t).map (hd h)) := fun t => (r1.tl t).fr hf fun y hy hb => by
    obtain ⟨cur, hc⟩ := hblk _ hb
    obtain ⟨_, _, cur', hc'⟩ := (r1.tl t).base hy
    exact Blk.ne_ty hc hc' (by decide) rfl
  have hfr : Fr (fun y => y = b) w2 (put w2 b 12 [.slice s'.a s'.n s'.c]) := Fr.put ..
  have hup : ∀ {j : Nat} {v : Value}, j ≠ 12 → f j = v → updF f 12 [.slice s'.a s'.n s'.c] j = v := fun hj hv => by rw [updF_out (by simp; omega)]; exact hv
  refine ⟨k2.fb.storeOk rfl (by simp [Value.oneCell']) (by omega), ⟨⟨k2.fb.put (by simp), k2.base, fun i hi => hup (by omega) (k2.fm i hi), k2.nil, fun i hi m he => ?_, k2.inj, fun i hi => ?_⟩, updF_in (Nat.le_refl _) (by simp [kS]), hup (by omega) r.fa, hup (by omega) r.fw, ?_, ?_, r.bwB, ?_, r.bm, fun t => ?_, r.sep⟩, hfr⟩
  · obtain ⟨a, l', c', h4, h5⟩ := k2.mp i hi m he
    exact ⟨a, l', c', h4.fr hfr fun e' => k2.ne hi he e', h5⟩
  · obtain ⟨e2, h4, h5⟩ := k2.fe i hi
    exact ⟨e2, hup (by omega) h4, h5⟩
  · exact ho.fr hfr fun a ha e => by obtain ⟨cur, hc⟩ := ho.blk ha; exact Blk.ne_ty hc k2.fb (by decide) e
  · exact ha2.fr hfr fun a ha e => by obtain ⟨cur, hc⟩ := ha2.blk ha; exact Blk.ne_ty hc k2.fb (by decide) e
  · exact hm2.fr hfr fun e => hm2.ne_blk k2.fb e
  · exact (ht2 t).fr hfr fun y hy e => by obtain ⟨_, _, cur, hc⟩ := (ht2 t).base hy; exact Blk.ne_ty hc k2.fb (by decide) e
theorem Run.setA (r : Run h B w b st f ms sd sa bw lw kw) {w1 w2 : World} (hx : Ext w w1) (hf : Fr (Bl sa) w1 w2) {s' : Sl} {l : List Int} (ho : Own 3 1 eI B w2 s' l) :
    StoreOk w2 b 13 [.slice s'.a s'.n s'.c] 1 ∧ Run h B (put w2 b 13 [.slice s'.a s'.n s'.c]) b { st with ab := l } (updF f 13 [.slice s'.a s'.n s'.c]) ms sd s' bw lw kw ∧ Fr (fun y => y = b) w2 (put w2 b 13 [.slice s'.a s'.n s'.c]) := by
  have r1 := r.ext hx
  have hblk : ∀ y, Bl sa y → ∃ cur, Blk w1 y cur 3 := fun y ⟨a, ha, hy⟩ => by rw [← hy]; exact r1.oa.blk ha
  have k2 : Lk B w2 b st f ms := r1.lk.fr hf fun y hy hb => by obtain ⟨cur, hc⟩ := hblk y hb; exact r1.lk.not_cells hc (by decide) hy
  have ha2 : Own 38 3 eO B w2 sd st.dn := r1.od.fr hf fun a ha hb => by
    obtain ⟨cur, hc⟩ := hblk _ hb
    obtain ⟨cur', hc'⟩ := r1.od.blk ha
    exact Blk.ne_ty hc hc' (by decide) rfl
  have hm2 : Mp kI kS w2 bw lw kw := r1.mw.fr hf fun hb => by obtain ⟨cur, hc⟩ := hblk _ hb; exact r1.mw.ne_blk hc rfl
  have ht2 : ∀ t, Tl 92 4 eH B w2 (sAt lw t) ((st.q t).map (hd h)) := fun t => (r1.tl t).fr hf fun y hy hb => by
    obtain ⟨cur, hc⟩ := hblk _ hb
    obtain ⟨_, _, cur', hc'⟩ := (r1.tl t).base hy
    exact Blk.ne_ty hc hc' (by decide) rfl
  have hfr : Fr (fun y => y = b) w2 (put w2 b 13 [.slice s'.a s'.n s'.c]) := Fr.put ..
  have hup : ∀ {j : Nat} {v : Value}, j ≠ 13 → f j = v → updF f 13 [.slice s'.a s'.n s'.c] j = v := fun hj hv => by rw [updF_out (by simp; omega)]; exact hv
  refine ⟨k2.fb.storeOk rfl (by simp [Value.oneCell']) (by omega), ⟨⟨k2.fb.put (by simp), k2.base, fun i hi => hup (by omega) (k2.fm i hi), k2.nil, fun i hi m he => ?_, k2.inj, fun i hi => ?_⟩, hup (by omega) r.fd, updF_in (Nat.le_refl _) (by simp [kS]), hup (by omega) r.fw, ?_, ?_, r.bwB, ?_, r.bm, fun t => ?_, r.sep⟩, hfr⟩
  · obtain ⟨a, l', c', h4, h5⟩ := k2.mp i hi m he
    exact ⟨a, l', c', h4.fr hfr fun e' => k2.ne hi he e', h5⟩
  · obtain ⟨e2, h4, h5⟩ := k2.fe i hi
    exact ⟨e2, hup (by omega) h4, h5⟩
  · exact ha2.fr hfr fun a ha e => by obtain ⟨cur, hc⟩ := ha2.blk ha; exact Blk.ne_ty hc k2.fb (by decide) e
  · exact ho.fr hfr fun a ha e => by obtain ⟨cur, hc⟩ := ho.blk ha; exact Blk.ne_ty hc k2.fb (by decide) e
  · exact hm2.fr hfr fun e => hm2.ne_blk k2.fb e
  · exact (ht2 t).fr hfr fun y hy e => by obtain ⟨_, _, cur, hc⟩ := (ht2 t).base hy; exact Blk.ne_ty hc k2.fb (by decide) e
theorem sAt_mput (l : List (Ent Int Sl)) (c : Nat) (t : Int) (s : Sl) (u : Int) : sAt (mput l c t s) u = if u = t then s else sAt l u := by
  unfold sAt
  rw [mget_mput]
  by_cases e : u = t
  · rw [if_pos e, if_pos e]; rfl
  · rw [if_neg e, if_neg e]
/-- A queue is set. -/
theorem Run.setQ (r : Run h B w b st f ms sd sa bw lw kw) (t : Int) {l : List Nat} {s : Sl} (ht : Tl 92 4 eH B w s (l.map (hd h))) (hsep : ∀ u, u ≠ t → ∀ y, Rm s y → ¬ Rm (sAt lw u) y) :
    ∃ w' c', (Instr.mapUpdate 83 (.map (some bw)) (.int .i64 t) (.slice s.a s.n s.c)).run Try.prog w = .ok () w' ∧ Run h B w' b (setq st t l) f ms sd sa bw (mput lw kw t s) c' ∧ Fr (fun y => y = bw) w w' := by
  obtain ⟨w', c', hrun, hmp, hfr⟩ := put_run K3 u83 r.mw t s
  have hcells : ∀ {y T : Nat} {cur : List Value}, Blk w y cur T → y ≠ bw := fun hb e => by subst e; exact r.mw.ne_blk hb rfl
  refine ⟨w', c', hrun, ⟨(r.lk.fr hfr fun y hy e => ?_).congr (fun _ _ _ => rfl) (fun _ _ _ => rfl), r.fd, r.fa, r.fw, ?_, ?_, r.bwB, hmp, r.bm, fun u => ?_, fun u v huv y h1 h2 => ?_⟩, hfr⟩
  · rcases hy with h1 | ⟨i, hi, hm⟩
    · exact hcells r.lk.fb (h1.symm.trans e)
    · rw [e] at hm; exact r.bm i hi hm
  · exact r.od.fr hfr fun a ha => by obtain ⟨cur, hc⟩ := r.od.blk ha; exact hcells hc
  · exact r.oa.fr hfr fun a ha => by obtain ⟨cur, hc⟩ := r.oa.blk ha; exact hcells hc
  · rw [sAt_mput, setq_q]
    by_cases e : u = t
    · subst e
      rw [if_pos rfl, upq_same]
      exact ht.fr hfr fun y hy => by obtain ⟨_, _, cur, hc⟩ := ht.base hy; exact hcells hc
    · rw [if_neg e, upq_other e]
      exact (r.tl u).fr hfr fun y hy => by obtain ⟨_, _, cur, hc⟩ := (r.tl u).base hy; exact hcells hc
  · rw [sAt_mput] at h1 h2
    by_cases e : u = t
    · subst e
      rw [if_pos rfl] at h1
      rw [if_neg (fun h => huv h.symm)] at h2
      exact hsep v (fun h => huv h.symm) y h1 h2
    · rw [if_neg e] at h1
      by_cases e' : v = t
      · subst e'
        rw [if_pos rfl] at h2
        exact hsep u e y h2 h1
      · rw [if_neg e'] at h2
        exact r.sep u v huv y h1 h2
end
/-- 'append(s, x)' in its two steps. -/
theorem appEv {t e : Nat} (E : Elem Try.prog t e 3 24) {B : Nat} {w : World} {s : Sl} {l : List Ev} (ho : Own e 3 eO B w s l) (x : Ev) (hl : l.length ≤ 1000000) (hB : B ≤ w.heap.size) :
    ∃ (s1 : Sl) (w1 : World), (Instr.buildSlice t 1 [(0, .agg [.int .i64 x.t, .int .i64 x.k, .int .i64 x.i].toArray)].toArray).run Try.prog w = .ok (.slice s1.a s1.n s1.c) w1 ∧ Ext w w1 ∧
      ∃ (s' : Sl) (w' : World), (Builtin.append_ #[t, t] t #[.slice s.a s.n s.c, .slice s1.a s1.n s1.c]).run Try.prog w1 = .ok (.slice s'.a s'.n s'.c) w' ∧ Own e 3 eO B w' s' (l ++ [x]) ∧ Fr (Bl s) w1 w' := by
  have hb := buildOne_run E (v := .agg [.int .i64 x.t, .int .i64 x.k, .int .i64 x.i].toArray) (vs := eO x) rfl rfl (by omega) w
  have hx := Ext.alloc w (.cells (eO x).toArray e)
  obtain ⟨s', w', hr, ho', hf⟩ := appendOwn E (ho.ext hx) (s2 := ⟨some ⟨w.heap.size, 0, none⟩, 1, 1⟩) (l2 := [x]) rfl rfl (by simpa using (Blk.alloc w (eO x) e).rd) eO_len eO_one (by simp; omega) (by simp [maxLen]; omega) (by have := hx.size; omega) t
  exact ⟨⟨some ⟨w.heap.size, 0, none⟩, 1, 1⟩, _, hb, hx, s', w', hr, ho', hf⟩
def RunX (h : List Ev) (B : Nat) (w : World) (b : Nat) (st : LS) : Prop := ∃ f ms sd sa bw lw kw, Run h B w b st f ms sd sa bw lw kw
theorem RunX.ext {h : List Ev} {B : Nat} {w w' : World} {b : Nat} {st : LS} (r : RunX h B w b st) (x : Ext w w') : RunX h B w' b st := by
  obtain ⟨f, ms, sd, sa, bw, lw, kw, r⟩ := r; exact ⟨f, ms, sd, sa, bw, lw, kw, r.ext x⟩
theorem mem_hit {st : LS} {h : List Ev} (g : Gd h st) {o : Ev} {l : List Int} (hl : ∀ x, x ∈ l ↔ hind st o x = true) : l.length > 0 ↔ hit st o = true := by
  constructor
  · intro h0
    obtain ⟨x, hx⟩ := List.exists_mem_of_ne_nil l (by rintro rfl; simp at h0)
    exact hit_mem g ((hl x).1 hx)
  · intro hh
    unfold hit at hh
    obtain ⟨x, _, hx⟩ := List.any_eq_true.1 hh
    exact List.length_pos_of_mem ((hl x).2 hx)
theorem hit_big {st : LS} {o : Ev} (hk : 1 < o.k) : hit st o = false := Bool.eq_false_iff.2 fun h => by have := hit_kind h; omega

theorem c76 {h : List Ev} {B : Nat} {w : World} {b : Nat} {st : LS} {f : Nat → Value} {ms : Nat → Option Nat} {sd sa : Sl} {bw : Nat} {lw : List (Ent Int Sl)} {kw : Nat} (r : Run h B w b st f ms sd sa bw lw kw)
    (ho : OkH h) (g : Gd h st) (hd1 : st.dn.length ≤ 1000) {t : Int} {j : Nat} {l : List Nat} (hq : st.q t = j :: l) :
    Calls Try.prog 76 [.pointer (some ⟨b, 0, none⟩), .int .i64 t].toArray w fun e w' => ∃ c : Bool, e = .returned (.bool c) ∧
      ((c = false ∧ hit st (opA h j) = true ∧ Ext w w') ∨ (c = true ∧ hit st (opA h j) = false ∧ RunX h B w' b (doL (setq st t l) (opA h j)) ∧ Fr (fun y => B ≤ y) w w')) := by
  refine (call76 ⟨b, 0⟩ t (R := fun v w' => ∃ c : Bool, v = .bool c ∧ ((c = false ∧ hit st (opA h j) = true ∧ Ext w w') ∨ (c = true ∧ hit st (opA h j) = false ∧ RunX h B w' b (doL (setq st t l) (opA h j)) ∧ Fr (fun y => B ≤ y) w w'))) ?_).mono fun e w' ⟨v, he, c, hv, hx⟩ => ⟨c, by rw [he, hv], hx⟩
  obtain ⟨hjl, hjt⟩ := g.q t j (by rw [hq]; simp)
  have hoj := ho.at hjl
  have hrg := g.range ho hq
  generalize hop : opA h j = o at hjt hoj
  obtain ⟨p12, hp12, a1, a2, hr12⟩ := r.head hq
  have hr12 : rd w p12.b p12.o (eO o) := by have := head_op hr12; rw [← hop]; exact this
  refine ⟨some bw, r.cw, sAt lw t, lookH r.mw t, p12, hp12, a1, a2, o.t, o.k, o.i, by simpa [eO] using hr12, ?_⟩
  obtain ⟨n1, n2, n3⟩ := new_var w 38 (z := zc Try.prog 38) (vs := eO o) (by rw [zc38]; rfl) (eO_one _)
  refine Let.intro fun w1 e1 => ?_
  rw [← e1] at n1 n2 n3
  refine ⟨n1, Let.intro fun w2 e2 => ?_⟩
  have hb2 : Blk w2 w.heap.size (eO o) 38 := by rw [e2]; exact n2
  have hx2 : Ext w w2 := by rw [e2]; exact n3
  have r2 := r.ext hx2
  have z2 := hx2.size
  have hl2 := hb2.lt
  refine ⟨o.k, hb2.cell 1, ?_⟩
  refine ⟨fun w3 => hit st o = false ∧ (∃ f' ms', Run h B w3 b { st with sh := (doL st o).sh, ex := (doL st o).ex } f' ms' sd sa bw lw kw) ∧ Blk w3 w.heap.size (eO o) 38 ∧ Fr (fun y => B ≤ y) w w3 ∧ w2.heap.size ≤ w3.heap.size, ?_, ?_⟩
  · rintro w3 ⟨hh, ⟨f', ms', r3⟩, hb3, hfr3, hz3⟩
    refine ⟨fun u => World.cell? u ⟨b, 12, none⟩ = some (.slice sd.a sd.n sd.c) ∧ rd u w.heap.size 0 (eO o), ⟨(r3.ext (Ext.drew _)).cd, (hb3.ext (Ext.drew _)).rd⟩, Let.intro fun w4 e4 => ?_⟩
    have hx4 : Ext w3 w4 := by rw [e4]; exact Ext.drew _
    have r4 := r3.ext hx4
    have hb4 := hb3.ext hx4
    have z4 := hx4.size
    have hz := r.hB
    obtain ⟨s1, w5, e5, hx5, s2, w6, e6, ho6, hf6⟩ := appEv E29 r4.od o (by show st.dn.length ≤ 1000000; omega) r4.hB
    have z5 := hx5.size
    have z6 := hf6.size
    obtain ⟨d1, r7, f7⟩ := r4.setD hx5 hf6 ho6
    have hsdlt : ∀ y, Bl sd y → y < w.heap.size ∧ B ≤ y := fun y ⟨a, ha, hy⟩ => by have := r.od.base ha; omega
    have hrd6 : rd w6 w.heap.size 0 (eO o) := Fr.rd hf6 (fun h => by have := hsdlt _ h; omega) (hb4.ext hx5).rd
    have hcd6 : World.cell? w6 ⟨b, 12, none⟩ = some (.slice sd.a sd.n sd.c) := by
      refine hf6.cell (a := ⟨b, 12, none⟩) (fun ⟨a, ha, hy⟩ => ?_) (r4.ext hx5).cd
      obtain ⟨cur, hc⟩ := r4.od.blk ha
      rw [hy] at hc
      exact Blk.ne_ty hc r4.lk.fb (by decide) rfl
    refine ⟨sd, fun u hu => hu.1, o.t, o.k, o.i, fun u hu => hu.2, s1, w5, e5, ⟨(r4.ext hx5).cd, (hb4.ext hx5).rd⟩, s2, w6, e6, ⟨hcd6, hrd6⟩, d1, Let.intro fun w7 e7 => Let.intro fun w8 e8 => ?_⟩
    have e7 : w7 = put w6 b 12 [.slice s2.a s2.n s2.c] := e7
    rw [← e7] at r7 f7
    have hx8 : Ext w7 w8 := by rw [e8]; exact Ext.drew _
    have r8 := r7.ext hx8
    have htl := (r8.tl t).drop eH_len (m := 1) (by show 1 ≤ ((st.q t).map (hd h)).length; rw [hq]; simp)
    have hql : ((st.q t).map (hd h)).drop 1 = l.map (hd h) := by rw [hq]; rfl
    have htl : Tl 92 4 eH B w8 ⟨subA (sAt lw t).a (sAt lw t).c 1 4, (sAt lw t).n - 1, (sAt lw t).c - 1⟩ (l.map (hd h)) := by rw [← hql]; exact htl
    have hcap := (r8.tl t).cap
    have hlen := r8.len t
    have hlen : (sAt lw t).n = l.length + 1 := by rw [hlen]; show (st.q t).length = _; rw [hq]; rfl
    obtain ⟨w9, c9, hrun, r9, f9⟩ := r8.setQ t htl fun u hu y hy hy2 => r8.sep u t hu y hy2 (Rm.drop (size := 4) (by omega) hy)
    refine ⟨some bw, r8.cw, some bw, r8.cw, sAt lw t, lookH r8.mw t, by omega, by omega, w9, hrun, true, rfl, .inr ⟨rfl, hh, ⟨_, _, _, _, _, _, _, r9⟩, ?_⟩⟩
    have hb := r4.lk.base
    have hbw := r8.bwB
    refine ((((hfr3.ext hx4).ext hx5).trans hf6 fun y _ hy => (hsdlt y hy).2).trans f7 fun y _ (hy : y = b) => by omega).trans (hx8.fr f9) fun y _ (hy : y = bw) => by omega
  · refine cond_intro (fun hc => ?_) (fun hc => ?_)
    · have hk : o.k ≤ 1 := by simpa using hc
      refine ⟨fun u => Ext w2 u, Ext.drew _, Let.intro fun w10 e10 => ⟨o.t, o.k, o.i, fun u hu => (hb2.ext hu).rd, ?_⟩⟩
      have hx10 : Ext w2 w10 := by rw [e10]; exact Ext.drew _
      have r10 := r2.ext hx10
      refine (c79 r10.lk g hoj hk).mono fun e w11 ⟨s22, ls, he, ho22, hml, hll, hx11⟩ => ⟨s22, he, hx10.trans hx11, ?_⟩
      have hn22 := ho22.sli.len
      have hmh := mem_hit g hml
      refine cond_intro (fun hc => ⟨false, rfl, .inl ⟨rfl, hmh.1 (by simp at hc; omega), (hx2.trans hx10).trans hx11⟩⟩) (fun hc => ?_)
      have hh : hit st o = false := Bool.eq_false_iff.2 fun h => by have := hmh.2 h; simp at hc; omega
      refine Let.intro fun w12 e12 => ?_
      have hx12 : Ext w11 w12 := by rw [e12]; exact Ext.drew _
      have hx212 := (hx10.trans hx11).trans hx12
      have r12 := r2.ext hx212
      have z12 := hx212.size
      refine ⟨o.t, o.k, o.i, (hb2.ext hx212).rd, (c93 r12.lk r12.hB g hoj hk hh).mono fun e w13 ⟨he, f', ms', k13, hf', hms', hfr13⟩ => ⟨he, hh, ?_, ?_, ?_, ?_⟩⟩
      · exact ⟨f', ms', r12.lock (k13.congr (fun _ _ _ => rfl) (fun _ _ _ => rfl)) hf' hms' hfr13 rfl rfl rfl⟩
      · exact (hb2.ext hx212).fr hfr13 fun h => by have := (r.lk.bound h).2; omega
      · exact Ext.fr (hx2.trans hx212) (hfr13.mono fun y _ hy => (r.lk.bound hy).1)
      · have := hfr13.size; omega
    · have hk : 1 < o.k := by simp at hc; omega
      have hh := hit_big (st := st) hk
      rw [← hjt]
      refine (c78 r2.lk (t := o.t) (by omega) (st' := { st with sh := (doL st o).sh, ex := (doL st o).ex }) (doL_sh2 hk).1 (doL_sh2 hk).2).mono fun e w14 ⟨he, f', k14, hf', hfr14⟩ => ⟨he, hh, ?_, ?_, ?_, ?_⟩
      · exact ⟨f', ms, r2.lock k14 hf' (fun i m _ h => .inl h) hfr14 rfl rfl rfl⟩
      · exact hb2.fr hfr14 fun h => by have := (r.lk.bound h).2; omega
      · exact Ext.fr hx2 (hfr14.mono fun y _ hy => (r.lk.bound hy).1)
      · exact hfr14.size
end Go.Proofs.Ytnbkihkdfhjlmaa
