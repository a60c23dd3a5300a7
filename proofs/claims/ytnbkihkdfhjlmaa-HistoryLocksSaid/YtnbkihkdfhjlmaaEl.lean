/-
  Contracts of the reference's locks: releasing, doing an operation; how its state changes in memory.
-/
import Derived.Test.YtnbkihkdfhjlmaaEk
namespace Go.Proofs.Ytnbkihkdfhjlmaa
open Go Go.VC
set_option maxHeartbeats 1000000
set_option maxRecDepth 100000

section
variable {h : List Ev} {B : Nat} {w w' : World} {b : Nat} {st : LS} {wt : Nat → Bool} {f : Nat → Value} {sd sa sh : Sl} {sq : Nat → Sl}
theorem Tab.congr (t : Tab h B w b st wt f sd sa sh sq) {st' : LS} {wt' : Nat → Bool} (h1 : st'.dn = st.dn) (h2 : st'.ab = st.ab) (h3 : st'.q = st.q) (h4 : ∀ x i : Nat, x < 7 → i < 6 → st'.sh x i = st.sh x i) (h5 : ∀ x i : Nat, x < 7 → i < 6 → st'.ex x i = st.ex x i) (h6 : ∀ x, x < 7 → wt' x = wt x) : Tab h B w b st' wt' f sd sa sh sq :=
  ⟨t.fb, t.base, t.fd, fun x i hx hi => by rw [h4 x i hx hi]; exact t.fs x i hx hi, fun x i hx hi => by rw [h5 x i hx hi]; exact t.fo x i hx hi, t.fq, fun x hx => by rw [h6 x hx]; exact t.fw x hx, t.fa, t.fh, by rw [h1]; exact t.od, by rw [h2]; exact t.oa, fun x hx => by rw [h3]; exact t.tl x hx, t.sep, t.sepa, t.hs, t.hB⟩
theorem rm_cells (t : Tab h B w b st wt f sd sa sh sq) {x : Nat} (hx : x < 7) {g : Nat} (hg : Rm (sq x) g) : B ≤ g ∧ g < w.heap.size ∧ ∃ cur, Blk w g cur 3 := (t.tl x hx).base hg
/-- Slices change in their own rows, and one of them is laid anew. -/
theorem Tab.setD (t : Tab h B w b st wt f sd sa sh sq) {w1 w2 : World} (hx : Ext w w1) (hf : Fr (Bl sd) w1 w2) {s' : Sl} {l : List Ev} (ho : Own 37 3 eO B w2 s' l) :
    StoreOk w2 b 0 [.slice s'.a s'.n s'.c] 1 ∧ Tab h B (VC.put w2 b 0 [.slice s'.a s'.n s'.c]) b { st with dn := l } wt (updF f 0 [.slice s'.a s'.n s'.c]) s' sa sh sq ∧ Fr (fun y => y = b) w2 (VC.put w2 b 0 [.slice s'.a s'.n s'.c]) := by
  have t1 := t.ext hx
  have hblk : ∀ y, Bl sd y → B ≤ y ∧ ∃ cur, Blk w1 y cur 37 := fun y ⟨a, ha, hy⟩ => by rw [← hy]; exact ⟨(t1.od.base ha).1, t1.od.blk ha⟩
  have hfb : FB w2 b 101 f 99 := t1.fb.fr hf fun hy => by obtain ⟨_, cur, hc⟩ := hblk _ hy; exact Blk.ne_ty hc t1.fb (by decide) rfl
  have ha2 : Own 3 1 eI B w2 sa st.ab := t1.oa.fr hf fun a ha hy => by
    obtain ⟨_, cur, hc⟩ := hblk _ hy
    obtain ⟨cur', hc'⟩ := t1.oa.blk ha
    exact Blk.ne_ty hc hc' (by decide) rfl
  have ht2 : ∀ x, x < 7 → Tl 3 1 eI B w2 (sq x) ((st.q x).map jI) := fun x hx7 => (t1.tl x hx7).fr hf fun g hg hy => by
    obtain ⟨_, cur, hc⟩ := hblk _ hy
    obtain ⟨_, _, cur', hc'⟩ := (t1.tl x hx7).base hg
    exact Blk.ne_ty hc hc' (by decide) rfl
  have hh2 : Hs w2 sh h := t1.hsFr hf fun y hy => (hblk y hy).1
  have fr : Fr (fun y => y = b) w2 (VC.put w2 b 0 [.slice s'.a s'.n s'.c]) := Fr.put ..
  have hup : ∀ {j : Nat} {v : Value}, 1 ≤ j → f j = v → updF f 0 [.slice s'.a s'.n s'.c] j = v := fun hj hv => by rw [updF_out (.inr (by simp; omega))]; exact hv
  refine ⟨hfb.storeOk rfl (by simp [Value.oneCell']) (by omega), ⟨hfb.put (by simp), t.base, updF_in (Nat.le_refl _) (by simp [kS]), fun x i hx hi => hup (by omega) (t.fs x i hx hi), fun x i hx hi => hup (by omega) (t.fo x i hx hi), fun x hx => hup (by omega) (t.fq x hx), fun x hx => hup (by omega) (t.fw x hx), hup (by omega) t.fa, hup (by omega) t.fh, ?_, ?_, fun x hx7 => ?_, t.sep, t.sepa, ?_, t.hB⟩, fr⟩
  · exact ho.fr fr fun a ha e => by obtain ⟨cur, hc⟩ := ho.blk ha; exact Blk.ne_ty hc hfb (by decide) e
  · exact ha2.fr fr fun a ha e => by obtain ⟨cur, hc⟩ := ha2.blk ha; exact Blk.ne_ty hc hfb (by decide) e
  · exact (ht2 x hx7).fr fr fun g hg e => by obtain ⟨_, _, cur, hc⟩ := (ht2 x hx7).base hg; exact Blk.ne_ty hc hfb (by decide) e
  · by_cases hl : h = []
    · subst hl; exact ⟨t.hs.len, t.hs.cap, fun h => absurd rfl h⟩
    · exact hh2.fr fr fun a ha e => by have := t.hB a hl ha; have := t.base; omega
theorem Tab.setA (t : Tab h B w b st wt f sd sa sh sq) {w1 w2 : World} (hx : Ext w w1) (hf : Fr (Bl sa) w1 w2) {s' : Sl} {l : List Int} (ho : Own 3 1 eI B w2 s' l) (hwh : ∀ g, Bl s' g → Bl sa g ∨ w.heap.size ≤ g) :
    StoreOk w2 b 99 [.slice s'.a s'.n s'.c] 1 ∧ Tab h B (VC.put w2 b 99 [.slice s'.a s'.n s'.c]) b { st with ab := l } wt (updF f 99 [.slice s'.a s'.n s'.c]) sd s' sh sq ∧ Fr (fun y => y = b) w2 (VC.put w2 b 99 [.slice s'.a s'.n s'.c]) := by
  have t1 := t.ext hx
  have hblk : ∀ y, Bl sa y → B ≤ y ∧ ∃ cur, Blk w1 y cur 3 := fun y ⟨a, ha, hy⟩ => by rw [← hy]; exact ⟨(t1.oa.base ha).1, t1.oa.blk ha⟩
  have hfb : FB w2 b 101 f 99 := t1.fb.fr hf fun hy => by obtain ⟨_, cur, hc⟩ := hblk _ hy; exact Blk.ne_ty hc t1.fb (by decide) rfl
  have ha2 : Own 37 3 eO B w2 sd st.dn := t1.od.fr hf fun a ha hy => by
    obtain ⟨_, cur, hc⟩ := hblk _ hy
    obtain ⟨cur', hc'⟩ := t1.od.blk ha
    exact Blk.ne_ty hc hc' (by decide) rfl
  have ht2 : ∀ x, x < 7 → Tl 3 1 eI B w2 (sq x) ((st.q x).map jI) := fun x hx7 => (t1.tl x hx7).fr hf fun g hg hy => t.sepa x hx7 g hg hy
  have hh2 : Hs w2 sh h := t1.hsFr hf fun y hy => (hblk y hy).1
  have fr : Fr (fun y => y = b) w2 (VC.put w2 b 99 [.slice s'.a s'.n s'.c]) := Fr.put ..
  have hup : ∀ {j : Nat} {v : Value}, j ≠ 99 → f j = v → updF f 99 [.slice s'.a s'.n s'.c] j = v := fun hj hv => by rw [updF_out (by simp; omega)]; exact hv
  refine ⟨hfb.storeOk rfl (by simp [Value.oneCell']) (by omega), ⟨hfb.put (by simp), t.base, hup (by omega) t.fd, fun x i hx hi => hup (by omega) (t.fs x i hx hi), fun x i hx hi => hup (by omega) (t.fo x i hx hi), fun x hx => hup (by omega) (t.fq x hx), fun x hx => hup (by omega) (t.fw x hx), updF_in (Nat.le_refl _) (by simp [kS]), hup (by omega) t.fh, ?_, ?_, fun x hx7 => ?_, t.sep, fun x hx7 g hg hb => ?_, ?_, t.hB⟩, fr⟩
  · exact ha2.fr fr fun a ha e => by obtain ⟨cur, hc⟩ := ha2.blk ha; exact Blk.ne_ty hc hfb (by decide) e
  · exact ho.fr fr fun a ha e => by obtain ⟨cur, hc⟩ := ho.blk ha; exact Blk.ne_ty hc hfb (by decide) e
  · exact (ht2 x hx7).fr fr fun g hg e => by obtain ⟨_, _, cur, hc⟩ := (ht2 x hx7).base hg; exact Blk.ne_ty hc hfb (by decide) e
  · rcases hwh g hb with h1 | h1
    · exact t.sepa x hx7 g hg h1
    · have := (rm_cells t hx7 hg).2.1; omega
  · by_cases hl : h = []
    · subst hl; exact ⟨t.hs.len, t.hs.cap, fun h => absurd rfl h⟩
    · exact hh2.fr fr fun a ha e => by have := t.hB a hl ha; have := t.base; omega
theorem Tab.setQ (t : Tab h B w b st wt f sd sa sh sq) {x : Nat} (hx7 : x < 7) {w2 : World} (hf : Fr (Rm (sq x)) w w2) {s' : Sl} {l : List Nat} (ho : Tl 3 1 eI B w2 s' (l.map jI)) (hsep : ∀ y, y < 7 → y ≠ x → ∀ g, Rm s' g → ¬ Rm (sq y) g) (hsepa : ∀ g, Rm s' g → ¬ Bl sa g) :
    StoreOk w2 b (85 + x) [.slice s'.a s'.n s'.c] 1 ∧ Tab h B (VC.put w2 b (85 + x) [.slice s'.a s'.n s'.c]) b (setq st x l) wt (updF f (85 + x) [.slice s'.a s'.n s'.c]) sd sa sh (fun y => if y = x then s' else sq y) ∧ Fr (fun y => y = b) w2 (VC.put w2 b (85 + x) [.slice s'.a s'.n s'.c]) := by
  have hblk : ∀ y, Rm (sq x) y → B ≤ y ∧ ∃ cur, Blk w y cur 3 := fun y hy => ⟨(rm_cells t hx7 hy).1, (rm_cells t hx7 hy).2.2⟩
  have hfb : FB w2 b 101 f 99 := t.fb.fr hf fun hy => by obtain ⟨_, cur, hc⟩ := hblk _ hy; exact Blk.ne_ty hc t.fb (by decide) rfl
  have od2 : Own 37 3 eO B w2 sd st.dn := t.od.fr hf fun a ha hy => by
    obtain ⟨_, cur, hc⟩ := hblk _ hy
    obtain ⟨cur', hc'⟩ := t.od.blk ha
    exact Blk.ne_ty hc hc' (by decide) rfl
  have oa2 : Own 3 1 eI B w2 sa st.ab := t.oa.fr hf fun a ha hy => t.sepa x hx7 _ hy ⟨a, ha, rfl⟩
  have ht2 : ∀ y, y < 7 → y ≠ x → Tl 3 1 eI B w2 (sq y) ((st.q y).map jI) := fun y hy hne => (t.tl y hy).fr hf fun g hg h2 => t.sep y x hy hx7 hne g hg h2
  have hh2 : Hs w2 sh h := t.hsFr hf fun y hy => (hblk y hy).1
  have fr : Fr (fun y => y = b) w2 (VC.put w2 b (85 + x) [.slice s'.a s'.n s'.c]) := Fr.put ..
  have hup : ∀ {j : Nat} {v : Value}, j ≠ 85 + x → f j = v → updF f (85 + x) [.slice s'.a s'.n s'.c] j = v := fun hj hv => by rw [updF_out (by simp; omega)]; exact hv
  refine ⟨hfb.storeOk rfl (by simp [Value.oneCell']) (by omega), ⟨hfb.put (by simp; omega), t.base, hup (by omega) t.fd, fun y i hy hi => hup (by omega) (t.fs y i hy hi), fun y i hy hi => hup (by omega) (t.fo y i hy hi), fun y hy => ?_, fun y hy => hup (by omega) (t.fw y hy), hup (by omega) t.fa, hup (by omega) t.fh, ?_, ?_, fun y hy => ?_, fun y z hy hz hne g h1 h2 => ?_, fun y hy g hg hb => ?_, ?_, t.hB⟩, fr⟩
  · by_cases e : y = x
    · subst e; rw [if_pos rfl]; exact updF_in (Nat.le_refl _) (by simp [kS])
    · rw [if_neg e]; exact hup (by omega) (t.fq y hy)
  · exact od2.fr fr fun a ha e => by obtain ⟨cur, hc⟩ := od2.blk ha; exact Blk.ne_ty hc hfb (by decide) e
  · exact oa2.fr fr fun a ha e => by obtain ⟨cur, hc⟩ := oa2.blk ha; exact Blk.ne_ty hc hfb (by decide) e
  · rw [setq_q]
    by_cases e : y = x
    · subst e
      rw [if_pos rfl, upq_same]
      exact ho.fr fr fun g hg e => by obtain ⟨_, _, cur, hc⟩ := ho.base hg; exact Blk.ne_ty hc hfb (by decide) e
    · rw [if_neg e, upq_other (by omega)]
      exact (ht2 y hy e).fr fr fun g hg e' => by obtain ⟨_, _, cur, hc⟩ := (ht2 y hy e).base hg; exact Blk.ne_ty hc hfb (by decide) e'
  · by_cases e : y = x
    · rw [if_pos e] at h1
      rw [if_neg (by omega)] at h2
      exact hsep z hz (by omega) g h1 h2
    · rw [if_neg e] at h1
      by_cases e' : z = x
      · rw [if_pos e'] at h2
        exact hsep y hy e g h2 h1
      · rw [if_neg e'] at h2
        exact t.sep y z hy hz hne g h1 h2
  · by_cases e : y = x
    · rw [if_pos e] at hg; exact hsepa g hg hb
    · rw [if_neg e] at hg; exact t.sepa y hy g hg hb
  · by_cases hl : h = []
    · subst hl; exact ⟨t.hs.len, t.hs.cap, fun h => absurd rfl h⟩
    · exact hh2.fr fr fun a ha e => by have := t.hB a hl ha; have := t.base; omega

theorem c94 (t : Tab h B w b st wt f sd sa sh sq) {x : Int} {n : Nat} (hxn : x = (n : Int)) (hn : n < 7) :
    Calls Try.prog 94 [.pointer (some ⟨b, 0, none⟩), .int .i64 x].toArray w fun e w' => e = .returned (.tuple [].toArray) ∧ (∃ f', Tab h B w' b { st with sh := relL st.sh x, ex := relL st.ex x } wt f' sd sa sh sq) ∧ Fr (fun y => y = b) w w' := by
  refine (call94 ⟨b, 0⟩ x (R := fun v w' => v = .tuple [].toArray ∧ (∃ f', Tab h B w' b { st with sh := relL st.sh x, ex := relL st.ex x } wt f' sd sa sh sq) ∧ Fr (fun y => y = b) w w') ?_).mono fun e w' ⟨v, he, hv, hx⟩ => ⟨by rw [he, hv], hx⟩
  refine Let.intro fun w1 e1 => ?_
  have hx1 : Ext w w1 := by rw [e1]; exact Ext.drew _
  have t1 := t.ext hx1
  have hi1 : 0 + 1 + Int.toNat x * 6 = 1 + n * 6 := by rw [hxn]; simp
  have hi2 : 0 + 43 + Int.toNat x * 6 = 43 + n * 6 := by rw [hxn]; simp
  have hsix : ∀ {g : Nat → Value} {o k : Nat}, o ≤ k → k < o + 6 → updF g o [.bool false, .bool false, .bool false, .bool false, .bool false, .bool false] k = .bool false := fun {g o k} h1 h2 => by
    refine updF_in h1 ?_
    have : k - o = 0 ∨ k - o = 1 ∨ k - o = 2 ∨ k - o = 3 ∨ k - o = 4 ∨ k - o = 5 := by omega
    rcases this with e | e | e | e | e | e <;> rw [e] <;> rfl
  have hst1 := t1.fb.storeOk (o := 1 + n * 6) (k := 6) (vs := [.bool false, .bool false, .bool false, .bool false, .bool false, .bool false]) rfl (by simp [Value.oneCell']) (by omega)
  have hoth : ∀ {y : Nat}, y ≠ n → decide ((y : Int) ≠ x) = true := fun {y} hy => by rw [hxn]; simpa using fun e => hy (by omega)
  obtain ⟨t2, f2⟩ := t1.put (o := 1 + n * 6) (vs := [.bool false, .bool false, .bool false, .bool false, .bool false, .bool false]) (by simp; omega) (st' := { st with sh := relL st.sh x }) (wt' := wt) rfl rfl rfl (by omega) (by simp; omega)
    (fun y i hy hi => by
      simp only [relL]
      by_cases e : y = n
      · subst e
        rw [hsix (by omega) (by omega)]; simp [hxn]
      · rw [updF_out (by simp; omega), hoth e]; exact t1.fs y i hy hi)
    (fun y i hy hi => by rw [updF_out (by simp; omega)]; exact t1.fo y i hy hi)
    (fun y hy => by rw [updF_out (by simp; omega)]; exact t1.fw y hy)
  refine ⟨by omega, by omega, ?_, Let.intro fun w2 e2 => ?_⟩
  · show StoreOk w1 b (0 + 1 + Int.toNat x * 6) _ 6
    rw [hi1]; exact hst1
  have e2 : w2 = VC.put w1 b (0 + 1 + Int.toNat x * 6) [.bool false, .bool false, .bool false, .bool false, .bool false, .bool false] := e2
  rw [hi1] at e2
  rw [← e2] at t2 f2
  have hst2 := t2.fb.storeOk (o := 43 + n * 6) (k := 6) (vs := [.bool false, .bool false, .bool false, .bool false, .bool false, .bool false]) rfl (by simp [Value.oneCell']) (by omega)
  obtain ⟨t3, f3⟩ := t2.put (o := 43 + n * 6) (vs := [.bool false, .bool false, .bool false, .bool false, .bool false, .bool false]) (by simp; omega) (st' := { st with sh := relL st.sh x, ex := relL st.ex x }) (wt' := wt) rfl rfl rfl (by omega) (by simp; omega)
    (fun y i hy hi => by rw [updF_out (by simp; omega)]; exact t2.fs y i hy hi)
    (fun y i hy hi => by
      simp only [relL]
      by_cases e : y = n
      · subst e
        rw [hsix (by omega) (by omega)]; simp [hxn]
      · rw [updF_out (by simp; omega), hoth e]; exact t2.fo y i hy hi)
    (fun y hy => by rw [updF_out (by simp; omega)]; exact t2.fw y hy)
  refine ⟨by omega, by omega, ?_, Let.intro fun w3 e3 => ⟨rfl, ?_, ?_⟩⟩
  · show StoreOk w2 b (0 + 43 + Int.toNat x * 6) _ 6
    rw [hi2]; exact hst2
  · have e3 : w3 = VC.put w2 b (0 + 43 + Int.toNat x * 6) [.bool false, .bool false, .bool false, .bool false, .bool false, .bool false] := e3
    rw [hi2] at e3
    rw [e3]; exact ⟨_, t3⟩
  · have e3 : w3 = VC.put w2 b (0 + 43 + Int.toNat x * 6) [.bool false, .bool false, .bool false, .bool false, .bool false, .bool false] := e3
    rw [hi2] at e3
    rw [e3]; exact (Ext.fr hx1 f2).trans f3 fun _ _ h => h

theorem c82 (t : Tab h B w b st wt f sd sa sh sq) {o : Ev} (ho : okOp o) (hl : st.dn.length ≤ 1000) :
    Calls Try.prog 82 [.pointer (some ⟨b, 0, none⟩), .agg [.int .i64 o.t, .int .i64 o.k, .int .i64 o.i].toArray].toArray w fun e w' => e = .returned (.tuple [].toArray) ∧ (∃ f' sd', Tab h B w' b (doL st o) wt f' sd' sa sh sq) ∧ Fr (fun y => B ≤ y) w w' := by
  refine (call82 ⟨b, 0⟩ o.t o.k o.i (R := fun v w' => v = .tuple [].toArray ∧ (∃ f' sd', Tab h B w' b (doL st o) wt f' sd' sa sh sq) ∧ Fr (fun y => B ≤ y) w w') ?_).mono fun e w' ⟨v, he, hv, hx⟩ => ⟨by rw [he, hv], hx⟩
  obtain ⟨n, hni, hn6⟩ := item_nat ho
  obtain ⟨m, hmt, hm1, hm7⟩ := txn_nat ho
  have hok := ho
  unfold okOp at hok
  obtain ⟨hb1, hx1⟩ := newEv w o 37
  refine Let.intro fun w1 e1 => ?_
  have hb1 : Blk w1 w.heap.size (eO o) 37 := by rw [e1]; exact hb1
  have hx1 : Ext w w1 := by rw [e1]; exact hx1
  have t1 := t.ext hx1
  have hBw := t.hBw
  have hl1 := hb1.lt
  refine ⟨fun u => World.cell? u ⟨b, 0, none⟩ = some (.slice sd.a sd.n sd.c) ∧ rd u w.heap.size 0 (eO o), ⟨(t1.ext (Ext.drew _)).cd, (hb1.ext (Ext.drew _)).rd⟩, Let.intro fun w2 e2 => ?_⟩
  have hx2 : Ext w1 w2 := by rw [e2]; exact Ext.drew _
  have t2 := t1.ext hx2
  have hb2 := hb1.ext hx2
  have z2 := hx2.size
  obtain ⟨s1, w3, e3, hx3, s2, w4, e4, ho4, hf4⟩ := appEv E23 t2.od o (by show st.dn.length ≤ 1000000; omega) t2.hBw
  have z3 := hx3.size
  obtain ⟨d5, t5, f5⟩ := t2.setD hx3 hf4 ho4
  have hsdlt : ∀ y, Bl sd y → y < w.heap.size ∧ B ≤ y := fun y ⟨a, ha, hy⟩ => by have := t.od.base ha; omega
  have hb4 : Blk w4 w.heap.size (eO o) 37 := (hb2.ext hx3).fr hf4 fun h => by have := hsdlt _ h; omega
  have hcd4 : World.cell? w4 ⟨b, 0, none⟩ = some (.slice sd.a sd.n sd.c) := by
    refine hf4.cell (a := ⟨b, 0, none⟩) (fun ⟨a, ha, hy⟩ => ?_) (t2.ext hx3).cd
    obtain ⟨cur, hc⟩ := t2.od.blk ha
    rw [hy] at hc
    exact Blk.ne_ty hc t2.fb (by decide) rfl
  refine ⟨sd, fun u hu => hu.1, o.t, o.k, o.i, fun u hu => hu.2, s1, w3, e3, ⟨(t2.ext hx3).cd, (hb2.ext hx3).rd⟩, s2, w4, e4, ⟨hcd4, hb4.rd⟩, d5, Let.intro fun w5 e5 => ?_⟩
  have e5 : w5 = VC.put w4 b 0 [.slice s2.a s2.n s2.c] := e5
  rw [← e5] at t5 f5
  have hbB := t.base
  have hbne : w.heap.size ≠ b := by have := t.fb.lt; omega
  have hb5 := hb4.fr f5 hbne
  have hfr5 : Fr (fun y => B ≤ y) w w5 := (Ext.fr ((hx1.trans hx2).trans hx3) (hf4.mono fun y _ hy => (hsdlt y hy).2)).trans f5 fun y _ (hy : y = b) => by omega
  have hidx : ∀ c : Nat, 0 + c + Int.toNat o.t * 6 + Int.toNat o.i * 1 = c + m * 6 + n := fun c => by rw [hmt, hni]; simp
  refine ⟨o.k, hb5.cell 1, Join.dir (Join.dir (cond_intro (fun hc => ?_) (fun hc => Join.dir (cond_intro (fun hc2 => ?_) (fun hc2 => ?_)))))⟩
  · have hk0 : o.k = 0 := by simpa using hc
    refine Let.intro fun w8 e8 => ?_
    have hx8 : Ext w5 w8 := by rw [e8]; exact Ext.drew _
    have t8 := t5.ext hx8
    have hb8 := hb5.ext hx8
    have hst := t8.fb.storeOk (o := 1 + m * 6 + n) (k := 1) (vs := [.bool true]) rfl (by simp [Value.oneCell']) (by omega)
    obtain ⟨t9, f9⟩ := t8.put (o := 1 + m * 6 + n) (vs := [.bool true]) (by simp; omega) (st' := doL st o) (wt' := wt) rfl rfl rfl (by omega) (by simp; omega)
      (fun y i hy hi => by
        rw [(doL_sh0 hk0).1]
        simp only [getL]
        by_cases e : y = m ∧ i = n
        · rw [e.1, e.2, updF_in (Nat.le_refl _) (v := .bool true) (by simp)]; simp [hmt, hni]
        · rw [updF_out (by simp; omega), t8.fs y i hy hi]
          have : (decide ((y : Int) = o.t) && decide ((i : Int) = o.i)) = false := by
            rw [hmt, hni]; simp; omega
          simp only [this, Bool.or_false])
      (fun y i hy hi => by rw [(doL_sh0 hk0).2, updF_out (by simp; omega)]; exact t8.fo y i hy hi)
      (fun y hy => by rw [updF_out (by simp; omega)]; exact t8.fw y hy)
    refine ⟨o.t, hb8.cell 0, o.i, hb8.cell 2, by omega, by omega, by omega, by omega, ?_, Let.intro fun w9 e9 => ⟨rfl, ?_, ?_⟩⟩
    · show StoreOk w8 b (0 + 1 + Int.toNat o.t * 6 + Int.toNat o.i * 1) _ 1
      rw [hidx]; exact hst
    · have e9 : w9 = VC.put w8 b (0 + 1 + Int.toNat o.t * 6 + Int.toNat o.i * 1) [.bool true] := e9
      rw [hidx] at e9
      rw [e9]; exact ⟨_, _, t9⟩
    · have e9 : w9 = VC.put w8 b (0 + 1 + Int.toNat o.t * 6 + Int.toNat o.i * 1) [.bool true] := e9
      rw [hidx] at e9
      rw [e9]; exact (hfr5.ext hx8).trans f9 fun y _ (hy : y = b) => by omega
  · have hk1 : o.k = 1 := by simpa using hc2
    refine Let.intro fun w8 e8 => ?_
    have hx8 : Ext w5 w8 := by rw [e8]; exact Ext.drew _
    have t8 := t5.ext hx8
    have hb8 := hb5.ext hx8
    have hst := t8.fb.storeOk (o := 43 + m * 6 + n) (k := 1) (vs := [.bool true]) rfl (by simp [Value.oneCell']) (by omega)
    obtain ⟨t9, f9⟩ := t8.put (o := 43 + m * 6 + n) (vs := [.bool true]) (by simp; omega) (st' := doL st o) (wt' := wt) rfl rfl rfl (by omega) (by simp; omega)
      (fun y i hy hi => by rw [(doL_sh1 hk1).1, updF_out (by simp; omega)]; exact t8.fs y i hy hi)
      (fun y i hy hi => by
        rw [(doL_sh1 hk1).2]
        simp only [getL]
        by_cases e : y = m ∧ i = n
        · rw [e.1, e.2, updF_in (Nat.le_refl _) (v := .bool true) (by simp)]; simp [hmt, hni]
        · rw [updF_out (by simp; omega), t8.fo y i hy hi]
          have : (decide ((y : Int) = o.t) && decide ((i : Int) = o.i)) = false := by
            rw [hmt, hni]; simp; omega
          simp only [this, Bool.or_false])
      (fun y hy => by rw [updF_out (by simp; omega)]; exact t8.fw y hy)
    refine ⟨o.t, hb8.cell 0, o.i, hb8.cell 2, by omega, by omega, by omega, by omega, ?_, Let.intro fun w9 e9 => ⟨rfl, ?_, ?_⟩⟩
    · show StoreOk w8 b (0 + 43 + Int.toNat o.t * 6 + Int.toNat o.i * 1) _ 1
      rw [hidx]; exact hst
    · have e9 : w9 = VC.put w8 b (0 + 43 + Int.toNat o.t * 6 + Int.toNat o.i * 1) [.bool true] := e9
      rw [hidx] at e9
      rw [e9]; exact ⟨_, _, t9⟩
    · have e9 : w9 = VC.put w8 b (0 + 43 + Int.toNat o.t * 6 + Int.toNat o.i * 1) [.bool true] := e9
      rw [hidx] at e9
      rw [e9]; exact (hfr5.ext hx8).trans f9 fun y _ (hy : y = b) => by omega
  · have hk : 1 < o.k := by simp at hc hc2; omega
    refine ⟨o.t, hb5.cell 0, (c94 t5 hmt hm7).mono fun e w6 ⟨he, ⟨f', t6⟩, f6⟩ => ⟨he, rfl, ⟨f', s2, ?_⟩, hfr5.trans f6 fun y _ (hy : y = b) => by omega⟩⟩
    refine t6.congr rfl rfl rfl (fun x i _ _ => ?_) (fun x i _ _ => ?_) fun _ _ => rfl
    · rw [(doL_sh2 hk).1]
    · rw [(doL_sh2 hk).2]
end
end Go.Proofs.Ytnbkihkdfhjlmaa
