/-
  Contracts: what the reads of a history read from and the last writers, in the program.
-/
import Derived.Test.YtnbkihkdfhjlmaaCg
import Derived.Test.YtnbkihkdfhjlmaaVs
namespace Go.Proofs.Ytnbkihkdfhjlmaa
open Go Go.VC
set_option maxHeartbeats 400000

theorem appendIntW {B : Nat} {w : World} {s : Sl} {l : List Int} (ho : Own 3 1 eI B w s l) (x : Int) (hl : l.length ≤ 1000000) (hB : B ≤ w.heap.size) :
    ∃ (s1 : Sl) (w1 : World), (Instr.buildSlice 24 1 [(0, .int .i64 x)].toArray).run Try.prog w = .ok (.slice s1.a s1.n s1.c) w1 ∧ Ext w w1 ∧
      ∃ (s' : Sl) (w' : World), (Builtin.append_ #[24, 24] 24 #[.slice s.a s.n s.c, .slice s1.a s1.n s1.c]).run Try.prog w1 = .ok (.slice s'.a s'.n s'.c) w' ∧ Own 3 1 eI B w' s' (l ++ [x]) ∧ Fr (Bl s) w1 w' ∧ (s'.a = s.a ∨ ∀ a, s'.a = some a → w.heap.size ≤ a.block) := by
  have hb := buildOne_run E24 (v := .int .i64 x) (vs := eI x) rfl rfl (by omega) w
  have hx := Ext.alloc w (.cells (eI x).toArray 3)
  have h2 : Sli 1 eI (w.alloc (.cells (eI x).toArray 3)) ⟨some ⟨w.heap.size, 0, none⟩, 1, 1⟩ [x] := ⟨rfl, Nat.le_refl _, fun _ => ⟨⟨w.heap.size, 0⟩, rfl, by simpa using (Blk.alloc w (eI x) 3).rd⟩⟩
  obtain ⟨s', w', hr, ho', hf⟩ := appendSli E24 (ho.ext hx) h2 eI_len eI_one (by simp; omega) (by simp [maxLen]; omega) (by have := hx.size; omega) 24
  refine ⟨⟨some ⟨w.heap.size, 0, none⟩, 1, 1⟩, _, hb, hx, s', w', hr, ho', hf, ?_⟩
  rcases append_where E24 (ho.ext hx) h2 eI_len eI_one (by simp; omega) (by simp [maxLen]; omega) 24 hr with h | h
  · exact .inl h
  · exact .inr fun a ha => Nat.le_trans hx.size (h a ha)

/-- What the reads of a transaction among the first n operations read from. -/
def rds (h : List Ev) (t : Int) (n : Nat) : List Int := ((List.range n).filter fun i => decide ((h.getD i e0).t = t ∧ (h.getD i e0).k = 0)).map (frm1 h)
def reads (h : List Ev) (t : Int) : List Int := rds h t h.length
/-- The last writer of an Item among the first n operations. -/
def lst (h : List Ev) (it : Int) : Nat → Int
  | 0 => 0
  | j + 1 => if (h.getD j e0).k = 1 ∧ (h.getD j e0).i = it then (h.getD j e0).t else lst h it j
def lastsAt (h : List Ev) (n : Nat) : List Int := [lst h 0 n, lst h 1 n, lst h 2 n, lst h 3 n, lst h 4 n, lst h 5 n]
def lasts (h : List Ev) : List Int := lastsAt h h.length
theorem rds_step {h : List Ev} {i : Nat} (hi : i < h.length) (t : Int) : rds h t (i + 1) = rds h t i ++ if h[i].t = t ∧ h[i].k = 0 then [frm1 h i] else [] := by
  unfold rds
  rw [List.range_succ, List.filter_append, List.map_append, List.filter_cons, List.filter_nil, getD_at hi]
  by_cases hc : h[i].t = t ∧ h[i].k = 0
  · simp [hc]
  · simp [hc]
theorem lastsAt_not {h : List Ev} {i : Nat} (hi : i < h.length) (hk : ¬ h[i].k = 1) : lastsAt h (i + 1) = lastsAt h i := by
  simp only [lastsAt, lst, getD_at hi, hk, false_and, if_false]
theorem lastsAt_step {h : List Ev} {i : Nat} (hi : i < h.length) (hk : h[i].k = 1) (h0 : 0 ≤ h[i].i) (h5 : h[i].i ≤ 5) : lastsAt h (i + 1) = (lastsAt h i).set h[i].i.toNat h[i].t := by
  simp only [lastsAt, lst, getD_at hi, hk, true_and]
  have hc : h[i].i = 0 ∨ h[i].i = 1 ∨ h[i].i = 2 ∨ h[i].i = 3 ∨ h[i].i = 4 ∨ h[i].i = 5 := by omega
  rcases hc with e | e | e | e | e | e <;> rw [e] <;> simp

def kS (s : Sl) : Value := .slice s.a s.n s.c
def nilS : Sl := ⟨none, 0, 0⟩
def sAt (l : List (Ent Int Sl)) (t : Int) : Sl := (mget l t).getD nilS
/-- The cells of a view. -/
def VS (b : Nat) (xs : List Int) : List Value := Value.map (some b) :: xs.map (Value.int .i64)
theorem u62 : Try.prog.underlying 62 = some (.map 3 24) := by kernel_rfl
theorem zero24 (w : World) : (zeroValue 24).run Try.prog w = .ok (.slice none 0 0) w := Try.zeroValue24 w
theorem zc65 : (zc Try.prog 65).size = 7 := by kernel_rfl
theorem lookS {w : World} {b c : Nat} {l : List (Ent Int Sl)} (h : Mp kI kS w b l c) (t : Int) :
    (Instr.lookup 62 (.map (some b)) (.int .i64 t) false).run Try.prog w = .ok (.slice (sAt l t).a (sAt l t).n (sAt l t).c) w := by
  have := (look_run K3 u62 h zero24 t).1
  rw [show (Value.int .i64 t) = kI t from rfl, this]
  unfold sAt
  cases mget l t <;> rfl
/-- A view as a value: the map and the last writers. -/
structure ViewV (w : World) (m : Option Nat) (xs : List Int) (h : List Ev) : Prop where
  ex : ∃ b l c, m = some b ∧ Mp kI kS w b l c ∧ ∀ t, Ints w (sAt l t) (reads h t)
  last : xs = lasts h
theorem ViewV.ext {w w' : World} {m : Option Nat} {xs : List Int} {h : List Ev} (v : ViewV w m xs h) (f : Ext w w') : ViewV w' m xs h := by
  obtain ⟨b, l, c, h1, h2, h3⟩ := v.ex
  exact ⟨⟨b, l, c, h1, h2.ext f, fun t => (h3 t).ext f⟩, v.last⟩

/-- While the view is made: the reads of the first i operations, the writes of the first j. -/
structure Mk (h : List Ev) (s9 : Sl) (w0 : World) (b vb rb B : Nat) (i j : Nat) (w : World) : Prop where
  map : ∃ l c, Mp kI kS w b l c ∧ (∀ t, Own 3 1 eI B w (sAt l t) (rds h t i)) ∧ ∀ t t', t ≠ t' → ∀ a a', (sAt l t).a = some a → (sAt l t').a = some a' → a.block ≠ a'.block
  view : Blk w vb (VS b (lastsAt h j)) 65
  res : ∃ z : List Value, z.length = 7 ∧ Blk w rb z 65
  frm : Ints w s9 (frm h)
  ext : Ext w0 w
  size : B ≤ w.heap.size

theorem c35 {w : World} {s : Sl} {h : List Ev} (hs : Hs w s h) (hok : ∀ o ∈ h, okOp o) (hl : h.length ≤ 1000) :
    Calls Try.prog 35 [.slice s.a s.n s.c].toArray w fun e w' => ∃ (m : Option Nat) (a b c d e' f : Int), e = .returned (.agg [.map m, .int .i64 a, .int .i64 b, .int .i64 c, .int .i64 d, .int .i64 e', .int .i64 f].toArray) ∧ ViewV w' m [a, b, c, d, e', f] h ∧ Ext w w' := by
  refine (call35 s (R := fun v w' => ∃ (m : Option Nat) (a b c d e' f : Int), v = (.agg [.map m, .int .i64 a, .int .i64 b, .int .i64 c, .int .i64 d, .int .i64 e', .int .i64 f].toArray) ∧ ViewV w' m [a, b, c, d, e', f] h ∧ Ext w w') ?_).mono
    fun e w' ⟨v, he, m, a, b, c, d, e', f, hv, hx⟩ => ⟨m, a, b, c, d, e', f, by rw [he, hv], hx⟩
  have hn := hs.len
  have hbig : h.length ≤ big := by show h.length ≤ 9223372036854775807; omega
  refine Let.intro fun w1 e1 => Let.intro fun w2 e2 => ?_
  have hx1 : Ext w w1 := by rw [e1]; exact Ext.alloc ..
  have hx2 : Ext w1 w2 := by rw [e2]; exact Ext.alloc ..
  have hr1 : Blk w1 w.heap.size (zc Try.prog 65).toList 65 := by rw [e1]; simpa using Blk.alloc w (zc Try.prog 65).toList 65
  have hm2 : Mp kI kS w2 w1.heap.size ([] : List (Ent Int Sl)) 0 := by rw [e2]; exact Mp.made w1
  obtain ⟨hst, hv4, hx4⟩ := new_var w2 65 (z := zc Try.prog 65) (vs := VS w1.heap.size (lastsAt h 0)) zc65 (by intro v hv; simp [VS, lastsAt] at hv; rcases hv with rfl | rfl | rfl | rfl | rfl | rfl | rfl <;> rfl)
  refine Let.intro fun w3 e3 => ?_
  rw [← e3] at hst hv4 hx4
  refine ⟨hst, Let.intro fun w4 e4 => ?_⟩
  have hv4 : Blk w4 w2.heap.size (VS w1.heap.size (lastsAt h 0)) 65 := by rw [e4]; exact hv4
  have hx4 : Ext w2 w4 := by rw [e4]; exact hx4
  have hx04 : Ext w w4 := (hx1.trans hx2).trans hx4
  refine (c55 (hs.ext hx04) hok hl).mono fun e w5 ⟨s9, he, ho9, hx5⟩ => ⟨s9, he, ?_⟩
  have hx05 := hx04.trans hx5
  have hn9 : s9.n = h.length := by have := ho9.1; simpa [frm] using this
  have b1 : w.heap.size < w1.heap.size := hr1.lt
  have b2 : w1.heap.size < w2.heap.size := hm2.bound
  have b4 : w2.heap.size < w4.heap.size := hv4.lt
  have b5 := hx5.size
  refine Join.dir (rangeI (fun i w' => Mk h s9 w w1.heap.size w2.heap.size w.heap.size w5.heap.size i i w') (by rw [hn9]; exact hbig) ?_ ?_ ?_)
  · have hm5 := (hm2.ext hx4).ext hx5
    exact ⟨⟨[], 0, hm5, fun t => Own.nil .., fun t t' _ a a' ha => by simp [sAt, mget, nilS] at ha⟩, hv4.ext hx5, ⟨_, by simp [zc65], (hr1.ext (hx2.trans (hx4.trans hx5)))⟩, ho9.sli, hx05, Nat.le_refl _⟩
  · rintro i hi w8 hM K hK
    have hi : i < h.length := by omega
    have hi9 : i < (frm h).length := by simp [frm]; exact hi
    have hokh := hok h[i] (List.getElem_mem hi)
    obtain ⟨p, hp, h1, h2, hr⟩ := Ints.at hM.frm hi9
    have hfi : (frm h)[i] = frm1 h i := by simp [frm]
    rw [hfi] at hr
    have hat : ∀ w', Ext w w' → ∃ q : Pt, s.a = some ⟨q.b, q.o, none⟩ ∧ 0 ≤ (i : Int) ∧ (i : Int) < ((s.n : Nat) : Int) ∧ rd w' q.b (q.o + Int.toNat (i : Int) * 3) (eO h[i]) := fun w' hx => Sli.at eO_len (hs.ext hx) hi
    obtain ⟨q, hq, hq1, hq2, hqr⟩ := hat w8 hM.ext
    refine ⟨p, hp, h1, h2, _, hr, q, hq, hq1, hq2, _, hqr.2.1, ?_⟩
    refine ⟨fun w' => Mk h s9 w w1.heap.size w2.heap.size w.heap.size w5.heap.size (i + 1) i w', ?_, ?_⟩
    · -- the last writers
      rintro w10 hM10
      obtain ⟨q, hq, hq1, hq2, hqr⟩ := hat w10 hM10.ext
      refine ⟨q, hq, hq1, hq2, _, hqr.2.1, Join.dir (cond_intro (fun hc => ?_) (fun hc => ?_))⟩
      · have hc : h[i].k = 1 := by simpa using hc
        refine Let.intro fun w12 e12 => ?_
        have hx12 : Ext w10 w12 := by rw [e12]; exact Ext.drew _
        obtain ⟨q, hq, hq1, hq2, hqr⟩ := hat w12 (hM10.ext.trans hx12)
        have hb12 := hM10.view.ext hx12
        have hio : 0 ≤ h[i].i ∧ h[i].i ≤ 5 := by unfold okOp at hokh; omega
        refine ⟨q, hq, hq1, hq2, _, hqr.2.2.1, q, hq, hq1, hq2, _, by simpa using hqr.1, hio.1, by omega, hb12.storeOk rfl (by simp [Value.oneCell']) (by simp [VS, lastsAt]; omega), Let.intro fun w13 e13 => ?_⟩
        have hf13 : Fr (fun b => b = w2.heap.size) w12 w13 := by rw [e13]; exact Fr.put ..
        have hb13 := hb12.put (o := 0 + 1 + Int.toNat h[i].i * 1) (vs := [.int .i64 h[i].t])
        rw [← e13] at hb13
        obtain ⟨l, c, hm, ho, hd⟩ := hM10.map
        obtain ⟨z, hz1, hz2⟩ := hM10.res
        refine hK _ ⟨⟨l, c, (hm.ext hx12).fr hf13 (by omega), fun t => ((ho t).ext hx12).fr hf13 fun a ha hb => by have := ((ho t).base ha).1; omega, hd⟩, ?_, ⟨z, hz1, (hz2.ext hx12).fr hf13 (by omega)⟩, ?_, ?_, ?_⟩
        · rw [lastsAt_step hi hc hio.1 hio.2]
          have : setR (VS w1.heap.size (lastsAt h i)) (0 + 1 + Int.toNat h[i].i * 1) [.int .i64 h[i].t] = VS w1.heap.size ((lastsAt h i).set h[i].i.toNat h[i].t) := by
            rw [setR, setR, show 0 + 1 + Int.toNat h[i].i * 1 = Int.toNat h[i].i + 1 from by omega]
            unfold VS
            rw [List.set_cons_succ, List.map_set]
          rw [← this]; exact hb13
        · exact (hM10.frm.ext hx12).fr hf13 fun a ha hb => by have := (ho9.base ha).1; omega
        · exact (hM10.ext.trans hx12).newer hf13 fun b hb => by omega
        · have := hM10.size; have := hx12.size; have := hf13.size; omega
      · have hc : ¬ h[i].k = 1 := by simpa using hc
        exact hK _ ⟨hM10.map, by rw [lastsAt_not hi hc]; exact hM10.view, hM10.res, hM10.frm, hM10.ext, hM10.size⟩
    · refine cond_intro (fun hc => ?_) (fun hc => ?_)
      · have hc : h[i].k = 0 := by simpa using hc
        obtain ⟨l, c, hm, ho, hd⟩ := hM.map
        refine ⟨fun u => Mp kI kS u w1.heap.size l c ∧ Blk u w2.heap.size (VS w1.heap.size (lastsAt h i)) 65 ∧ Ext w u, ⟨hm.ext (Ext.drew _), hM.view.ext (Ext.drew _), hM.ext.trans (Ext.drew _)⟩, Let.intro fun w14 e14 => ?_⟩
        have hx14 : Ext w8 w14 := by rw [e14]; exact Ext.drew _
        have hcell : ∀ u, Mp kI kS u w1.heap.size l c ∧ Blk u w2.heap.size (VS w1.heap.size (lastsAt h i)) 65 ∧ Ext w u → World.cell? u ⟨w2.heap.size, (0 + 0), none⟩ = some (.map (some w1.heap.size)) := fun u hu => hu.2.1.cell 0
        have htx : ∀ u, Mp kI kS u w1.heap.size l c ∧ Blk u w2.heap.size (VS w1.heap.size (lastsAt h i)) 65 ∧ Ext w u → World.cell? u ⟨q.b, ((q.o + Int.toNat (i : Int) * 3) + 0), none⟩ = some (.int .i64 h[i].t) := fun u hu => by
          obtain ⟨q', hq', _, _, hqr'⟩ := hat u hu.2.2
          have e : (⟨q.b, q.o, none⟩ : Addr) = ⟨q'.b, q'.o, none⟩ := Option.some.inj (hq.symm.trans hq')
          have e1 : q.b = q'.b := congrArg Addr.block e
          have e2 : q.o = q'.o := congrArg Addr.off e
          rw [e1, e2]
          simpa using hqr'.1
        have ho14 := (ho h[i].t).ext hx14
        have hlen : (rds h h[i].t i).length ≤ 1000000 := by
          unfold rds
          rw [List.length_map]
          refine Nat.le_trans (List.length_filter_le ..) ?_
          simp; omega
        obtain ⟨s1, w15, e15, hx15, s2, w16, e16, ho16, hf16, hwh⟩ := appendIntW ho14 (frm1 h i) hlen (by have := hM.size; have := hx14.size; omega)
        have hst : ∀ a, (sAt l h[i].t).a = some a → w5.heap.size ≤ a.block := fun a ha => (ho14.base ha).1
        have hS15 : Mp kI kS w15 w1.heap.size l c ∧ Blk w15 w2.heap.size (VS w1.heap.size (lastsAt h i)) 65 ∧ Ext w w15 := ⟨(hm.ext hx14).ext hx15, (hM.view.ext hx14).ext hx15, (hM.ext.trans hx14).trans hx15⟩
        have hS16 : Mp kI kS w16 w1.heap.size l c ∧ Blk w16 w2.heap.size (VS w1.heap.size (lastsAt h i)) 65 ∧ Ext w w16 :=
          ⟨hS15.1.fr hf16 (by rintro ⟨a, ha, hb⟩; have := hst a ha; omega), hS15.2.1.fr hf16 (by rintro ⟨a, ha, hb⟩; have := hst a ha; omega), hS15.2.2.newer hf16 (by rintro b ⟨a, ha, hb⟩; have := hst a ha; omega)⟩
        obtain ⟨w17, c', e17, hm17, hf17⟩ := put_run K3 u62 hS16.1 h[i].t s2
        refine ⟨_, hcell, q, hq, hq1, hq2, _, htx, _, hcell, q, hq, hq1, hq2, _, htx, sAt l h[i].t, fun u hu => lookS hu.1 _, s1, w15, e15, hS15, s2, w16, e16, hS16, w17, e17, ?_⟩
        have hget : ∀ t, sAt (mput l c h[i].t s2) t = if t = h[i].t then s2 else sAt l t := fun t => by
          unfold sAt
          rw [mget_mput]
          split <;> rfl
        obtain ⟨z, hz1, hz2⟩ := hM.res
        have hs2b : ∀ a, s2.a = some a → w5.heap.size ≤ a.block := fun a ha => (ho16.base ha).1
        refine ⟨⟨_, c', hm17, fun t => ?_, fun t t' hne a a' ha ha' => ?_⟩, hS16.2.1.fr hf17 (by omega), ⟨z, hz1, ?_⟩, ?_, ?_, ?_⟩
        · rw [hget, rds_step hi]
          by_cases e : t = h[i].t
          · subst e
            rw [if_pos rfl, if_pos ⟨rfl, hc⟩]
            exact ho16.fr hf17 fun a ha hb => by have := hs2b a ha; omega
          · rw [if_neg e, if_neg (fun h1 => e h1.1.symm), List.append_nil]
            have h1 := ((ho t).ext hx14).ext hx15
            have h2 := h1.fr hf16 fun a ha hb => by
              obtain ⟨a', ha', hb'⟩ := hb
              exact hd _ _ e a a' ha ha' hb'.symm
            exact h2.fr hf17 fun a ha hb => by have := (h2.base ha).1; omega
        · rw [hget] at ha ha'
          have hold : ∀ t a, (sAt l t).a = some a → a.block < w14.heap.size := fun t a ha => (((ho t).ext hx14).base ha).2
          by_cases e : t = h[i].t
          · have e' : t' ≠ h[i].t := fun h1 => hne (e.trans h1.symm)
            rw [if_pos e] at ha
            rw [if_neg e'] at ha'
            rcases hwh with hw | hw
            · rw [hw] at ha
              exact hd _ _ (Ne.symm e') a a' ha ha'
            · have := hw a ha; have := hold _ a' ha'; omega
          · rw [if_neg e] at ha
            by_cases e' : t' = h[i].t
            · rw [if_pos e'] at ha'
              rcases hwh with hw | hw
              · rw [hw] at ha'
                exact hd _ _ e a a' ha ha'
              · have := hw a' ha'; have := hold _ a ha; omega
            · rw [if_neg e'] at ha'
              exact hd _ _ hne a a' ha ha'
        · exact (((hz2.ext hx14).ext hx15).fr hf16 (by rintro ⟨a, ha, hb⟩; have := hst a ha; omega)).fr hf17 (by omega)
        · exact (((hM.frm.ext hx14).ext hx15).fr hf16 (by rintro a ha ⟨a', ha', hb⟩; have := hst a' ha'; have := (ho9.base ha).2; omega)).fr hf17 (by intro a ha hb; have := (ho9.base ha).1; omega)
        · exact hS16.2.2.newer hf17 fun b hb => by omega
        · have := hM.size; have := hx14.size; have := hx15.size; have := hf16.size; have := hf17.size; omega
      · have hc : ¬ h[i].k = 0 := by simpa using hc
        obtain ⟨l, c, hm, ho, hd⟩ := hM.map
        exact ⟨⟨l, c, hm, fun t => by rw [rds_step hi, if_neg (fun h1 => hc h1.2), List.append_nil]; exact ho t, hd⟩, hM.view, hM.res, hM.frm, hM.ext, hM.size⟩
  · rintro w6 hM
    rw [hn9] at hM
    obtain ⟨z, hz1, hz2⟩ := hM.res
    obtain ⟨l, c, hm, ho, hd⟩ := hM.map
    have hv := hM.view.rd
    have hone : ∀ v ∈ VS w1.heap.size (lastsAt h h.length), v.oneCell' = true := by intro v hv; simp [VS, lastsAt] at hv; rcases hv with rfl | rfl | rfl | rfl | rfl | rfl | rfl <;> rfl
    refine ⟨_, _, _, _, _, _, _, hv, hz2.storeOk rfl hone (by simp [hz1]), Let.intro fun w7 e7 => ?_⟩
    have hf7 : Fr (fun b => b = w.heap.size) w6 w7 := by rw [e7]; exact Fr.put ..
    have hb7 := hz2.put (o := 0) (vs := VS w1.heap.size (lastsAt h h.length))
    rw [show setR z 0 (VS w1.heap.size (lastsAt h h.length)) = VS w1.heap.size (lastsAt h h.length) from by simpa using setR_all (vs := VS w1.heap.size (lastsAt h h.length)) (l := z) (pre := []) (by simp [hz1, VS, lastsAt])] at hb7
    rw [show put w6 w.heap.size 0 (VS w1.heap.size (lastsAt h h.length)) = w7 from e7.symm] at hb7
    refine ⟨_, _, _, _, _, _, _, hb7.rd, _, _, _, _, _, _, _, rfl, ⟨⟨_, l, c, rfl, hm.fr hf7 (by omega), fun t => ((ho t).fr hf7 fun a ha hb => by have := ((ho t).base ha).1; omega).sli⟩, rfl⟩, hM.ext.newer hf7 fun b hb => by omega⟩
end Go.Proofs.Ytnbkihkdfhjlmaa
