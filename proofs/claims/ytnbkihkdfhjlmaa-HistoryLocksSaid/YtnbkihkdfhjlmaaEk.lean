/-
  The state of the reference's Lock in memory; contracts: who hinders, releasing, doing an operation.
-/
import Derived.Test.YtnbkihkdfhjlmaaEh
import Derived.Test.YtnbkihkdfhjlmaaSf
namespace Go.Proofs.Ytnbkihkdfhjlmaa
open Go Go.VC
set_option maxHeartbeats 1000000
set_option maxRecDepth 100000

def jI (j : Nat) : Int := (j : Int)
structure Tab (h : List Ev) (B : Nat) (w : World) (b : Nat) (st : LS) (wt : Nat → Bool) (f : Nat → Value) (sd sa sh : Sl) (sq : Nat → Sl) : Prop where
  fb : FB w b 101 f 99
  base : B ≤ b
  fd : f 0 = kS sd
  fs : ∀ x i : Nat, x < 7 → i < 6 → f (1 + x * 6 + i) = .bool (st.sh x i)
  fo : ∀ x i : Nat, x < 7 → i < 6 → f (43 + x * 6 + i) = .bool (st.ex x i)
  fq : ∀ x : Nat, x < 7 → f (85 + x) = kS (sq x)
  fw : ∀ x : Nat, x < 7 → f (92 + x) = .bool (wt x)
  fa : f 99 = kS sa
  fh : f 100 = kS sh
  od : Own 37 3 eO B w sd st.dn
  oa : Own 3 1 eI B w sa st.ab
  tl : ∀ x : Nat, x < 7 → Tl 3 1 eI B w (sq x) ((st.q x).map jI)
  sep : ∀ x y : Nat, x < 7 → y < 7 → x ≠ y → ∀ g, Rm (sq x) g → ¬ Rm (sq y) g
  sepa : ∀ x : Nat, x < 7 → ∀ g, Rm (sq x) g → ¬ Bl sa g
  hs : Hs w sh h
  hB : ∀ a, h ≠ [] → sh.a = some a → a.block < B
section
variable {h : List Ev} {B : Nat} {w w' : World} {b : Nat} {st : LS} {wt : Nat → Bool} {f : Nat → Value} {sd sa sh : Sl} {sq : Nat → Sl}
theorem Tab.ext (t : Tab h B w b st wt f sd sa sh sq) (x : Ext w w') : Tab h B w' b st wt f sd sa sh sq :=
  ⟨t.fb.ext x, t.base, t.fd, t.fs, t.fo, t.fq, t.fw, t.fa, t.fh, t.od.ext x, t.oa.ext x, fun i hi => (t.tl i hi).ext x, t.sep, t.sepa, t.hs.ext x, t.hB⟩
theorem Tab.hBw (t : Tab h B w b st wt f sd sa sh sq) : B ≤ w.heap.size := by have := t.base; have := t.fb.lt; omega
/-- A history that lies below B is not touched. -/
theorem Tab.hsFr (t : Tab h B w b st wt f sd sa sh sq) {M : Nat → Prop} (fr : Fr M w w') (hM : ∀ y, M y → B ≤ y) : Hs w' sh h := by
  by_cases hl : h = []
  · subst hl; exact ⟨t.hs.len, t.hs.cap, fun h => absurd rfl h⟩
  · exact t.hs.fr fr fun a ha hm => by have := t.hB a hl ha; have := hM _ hm; omega
/-- Cells of the block change; what they say is told. -/
theorem Tab.put (t : Tab h B w b st wt f sd sa sh sq) {o : Nat} {vs : List Value} (ho : o + vs.length ≤ 101) {st' : LS} {wt' : Nat → Bool} (h1 : st'.dn = st.dn) (h2 : st'.ab = st.ab) (h3 : st'.q = st.q) (h0 : 1 ≤ o) (h85 : o + vs.length ≤ 85 ∨ 92 ≤ o ∧ o + vs.length ≤ 99)
    (hs : ∀ x i : Nat, x < 7 → i < 6 → updF f o vs (1 + x * 6 + i) = .bool (st'.sh x i)) (he : ∀ x i : Nat, x < 7 → i < 6 → updF f o vs (43 + x * 6 + i) = .bool (st'.ex x i)) (hw : ∀ x : Nat, x < 7 → updF f o vs (92 + x) = .bool (wt' x)) :
    Tab h B (put w b o vs) b st' wt' (updF f o vs) sd sa sh sq ∧ Fr (fun y => y = b) w (put w b o vs) := by
  have fr : Fr (fun y => y = b) w (VC.put w b o vs) := Fr.put ..
  refine ⟨⟨t.fb.put ho, t.base, ?_, hs, he, fun x hx => ?_, hw, ?_, ?_, ?_, ?_, fun x hx => ?_, t.sep, t.sepa, t.hsFr fr fun y (hy : y = b) => by have := t.base; omega, t.hB⟩, fr⟩
  · rw [updF_out (.inl (by omega))]; exact t.fd
  · rw [updF_out (by omega)]; exact t.fq x hx
  · rw [updF_out (.inr (by omega))]; exact t.fa
  · rw [updF_out (.inr (by omega))]; exact t.fh
  · rw [h1]; exact t.od.fr fr fun a ha e => by obtain ⟨cur, hc⟩ := t.od.blk ha; exact Blk.ne_ty hc t.fb (by decide) e
  · rw [h2]; exact t.oa.fr fr fun a ha e => by obtain ⟨cur, hc⟩ := t.oa.blk ha; exact Blk.ne_ty hc t.fb (by decide) e
  · rw [h3]; exact (t.tl x hx).fr fr fun y hy e => by obtain ⟨_, _, cur, hc⟩ := (t.tl x hx).base hy; exact Blk.ne_ty hc t.fb (by decide) e
theorem Tab.cd (t : Tab h B w b st wt f sd sa sh sq) : World.cell? w ⟨b, 0, none⟩ = some (.slice sd.a sd.n sd.c) := t.fb.cell (by omega) t.fd
theorem Tab.ca (t : Tab h B w b st wt f sd sa sh sq) : World.cell? w ⟨b, 99, none⟩ = some (.slice sa.a sa.n sa.c) := t.fb.cell (by omega) t.fa
theorem Tab.ch (t : Tab h B w b st wt f sd sa sh sq) : World.cell? w ⟨b, 100, none⟩ = some (.slice sh.a sh.n sh.c) := t.fb.cell (by omega) t.fh
theorem Tab.cq (t : Tab h B w b st wt f sd sa sh sq) {x : Nat} (hx : x < 7) : World.cell? w ⟨b, 85 + x, none⟩ = some (.slice (sq x).a (sq x).n (sq x).c) := t.fb.cell (by omega) (t.fq x hx)
theorem Tab.cwt (t : Tab h B w b st wt f sd sa sh sq) {x : Nat} (hx : x < 7) : World.cell? w ⟨b, 92 + x, none⟩ = some (.bool (wt x)) := t.fb.cell (by omega) (t.fw x hx)
theorem Tab.cs (t : Tab h B w b st wt f sd sa sh sq) {x i : Nat} (hx : x < 7) (hi : i < 6) : World.cell? w ⟨b, 1 + x * 6 + i, none⟩ = some (.bool (st.sh x i)) := t.fb.cell (by omega) (t.fs x i hx hi)
theorem Tab.co (t : Tab h B w b st wt f sd sa sh sq) {x i : Nat} (hx : x < 7) (hi : i < 6) : World.cell? w ⟨b, 43 + x * 6 + i, none⟩ = some (.bool (st.ex x i)) := t.fb.cell (by omega) (t.fo x i hx hi)
/-- The wait is set. -/
theorem Tab.setW (t : Tab h B w b st wt f sd sa sh sq) {x : Nat} (hx : x < 7) (c : Bool) : StoreOk w b (92 + x) [.bool c] 1 ∧ Tab h B (VC.put w b (92 + x) [.bool c]) b st (fun y => if y = x then c else wt y) (updF f (92 + x) [.bool c]) sd sa sh sq ∧ Fr (fun y => y = b) w (VC.put w b (92 + x) [.bool c]) := by
  refine ⟨t.fb.storeOk rfl (by simp [Value.oneCell']) (by omega), t.put (by simp; omega) rfl rfl rfl (by omega) (by simp; omega) (fun y i hy hi => ?_) (fun y i hy hi => ?_) (fun y hy => ?_)⟩
  · rw [updF_out (.inl (by omega))]; exact t.fs y i hy hi
  · rw [updF_out (.inl (by omega))]; exact t.fo y i hy hi
  · by_cases e : y = x
    · subst e; rw [if_pos rfl]; exact updF_in (Nat.le_refl _) (by simp)
    · rw [if_neg e, updF_out (by simp; omega)]; exact t.fw y hy
theorem txn_nat {o : Ev} (ho : okOp o) : ∃ n : Nat, o.t = (n : Int) ∧ 1 ≤ n ∧ n < 7 := by
  unfold okOp at ho
  exact ⟨o.t.toNat, by omega, by omega, by omega⟩

theorem c80 (t : Tab h B w b st wt f sd sa sh sq) {o : Ev} (ho : okOp o) :
    Calls Try.prog 80 [.pointer (some ⟨b, 0, none⟩), .agg [.int .i64 o.t, .int .i64 o.k, .int .i64 o.i].toArray].toArray w fun e w' =>
      ∃ s : Sl, e = .returned (.slice s.a s.n s.c) ∧ Own 3 1 eI w.heap.size w' s (six.filter (hind st o)) ∧ Ext w w' := by
  refine (call80 ⟨b, 0⟩ o.t o.k o.i (R := fun v w' => ∃ s : Sl, v = (.slice s.a s.n s.c) ∧ Own 3 1 eI w.heap.size w' s (six.filter (hind st o)) ∧ Ext w w') ?_).mono fun e w' ⟨v, he, s, hv, hx⟩ => ⟨s, by rw [he, hv], hx⟩
  obtain ⟨n, hni, hn6⟩ := item_nat ho
  obtain ⟨hb1, hx1⟩ := newEv w o 37
  refine Let.intro fun w1 e1 => ?_
  have hb1 : Blk w1 w.heap.size (eO o) 37 := by rw [e1]; exact hb1
  have hx1 : Ext w w1 := by rw [e1]; exact hx1
  have z1 := hx1.size
  refine Join.dir (LoopV.intro (fun m (s : Sl) (x : Int) w' => ∃ i : Nat, x = (i : Int) + 1 ∧ i ≤ 6 ∧ m = 6 - i ∧ Own 3 1 eI w.heap.size w' s ((six.take i).filter (hind st o)) ∧ Ext w1 w') 6
    ⟨0, rfl, by omega, by omega, by simpa using Own.nil .., Fr.refl _ _⟩ ?_)
  rintro m s x w3 ⟨i, rfl, hi6, rfl, ho3, hx3⟩
  refine cond_intro (fun hc => ?_) (fun hc => ?_)
  rotate_left
  · have : i = 6 := by have : ¬ (i : Int) + 1 ≤ 6 := by simpa using hc
                       omega
    subst this
    exact ⟨s, rfl, ho3, hx1.trans hx3⟩
  have hi : i < 6 := by have : (i : Int) + 1 ≤ 6 := by simpa using hc
                        omega
  have hsi : i < six.length := by simpa [six] using hi
  have hsx := six_at hsi
  refine Join.dir ?_
  refine ⟨fun (c : Bool) w5 => c = hind st o ((i : Int) + 1) ∧ Ext w3 w5, ?_, ?_⟩
  · rintro c w5 ⟨rfl, hx5⟩
    have ho5 := ho3.ext hx5
    have hstep := filter_step (h := six) (p := hind st o) hsi
    rw [hsx] at hstep
    have hwr : IntKind.wrap .i64 ((i : Int) + 1 + 1) = ((i + 1 : Nat) : Int) + 1 := by rw [wrap64 (by omega) (by omega)]; omega
    refine Join.dir (cond_intro (fun hc => ?_) (fun hc => ?_))
    · have hlen : ((six.take i).filter (hind st o)).length ≤ 1000000 := Nat.le_trans (List.length_filter_le ..) (by simp; omega)
      obtain ⟨s1, w9, e9, s2, w10, e10, ho2, hf⟩ := appendInt ho5 ((i : Int) + 1) hlen (by have := hx3.size; have := hx5.size; omega)
      refine ⟨s1, w9, e9, s2, w10, e10, 6 - (i + 1), by omega, i + 1, hwr, by omega, rfl, ?_, ?_⟩
      · rw [hstep, if_pos hc]; exact ho2
      · exact (hx3.trans hx5).newer hf fun y ⟨a, ha, hy⟩ => by
          obtain ⟨g1, g2⟩ := ho5.base ha
          rcases Nat.lt_or_ge y w1.heap.size with hlt | hge
          · exfalso
            have hyw : y = w.heap.size := by
              have : w1.heap.size = w.heap.size + 1 := by rw [e1]; simp
              omega
            obtain ⟨cur, hcur⟩ := ho5.blk ha
            rw [hy, hyw] at hcur
            exact Blk.ne_ty hcur ((hb1.ext hx3).ext hx5) (by decide) rfl
          · exact hge
    · refine ⟨6 - (i + 1), by omega, i + 1, hwr, by omega, rfl, ?_, hx3.trans hx5⟩
      rw [hstep, if_neg (by rw [hc]; simp), List.append_nil]; exact ho5
  · refine Let.intro fun w9 e9 => ?_
    have hx9 : Ext w3 w9 := by rw [e9]; exact Ext.drew _
    have hb9 := (hb1.ext hx3).ext hx9
    have t9 := t.ext ((hx1.trans hx3).trans hx9)
    have hidx : ∀ c : Nat, 0 + c + Int.toNat ((i : Int) + 1) * 6 + Int.toNat o.i * 1 = c + (i + 1) * 6 + n := fun c => by rw [hni]; simp
    have hcast : (((i + 1 : Nat)) : Int) = (i : Int) + 1 := by omega
    have hce : World.cell? w9 ⟨b, 0 + 43 + Int.toNat ((i : Int) + 1) * 6 + Int.toNat o.i * 1, none⟩ = some (.bool (st.ex ((i : Int) + 1) o.i)) := by
      rw [hidx, hni, ← hcast]; exact t9.co (by omega) hn6
    have hcs : World.cell? w9 ⟨b, 0 + 1 + Int.toNat ((i : Int) + 1) * 6 + Int.toNat o.i * 1, none⟩ = some (.bool (st.sh ((i : Int) + 1) o.i)) := by
      rw [hidx, hni, ← hcast]; exact t9.cs (by omega) hn6
    refine ⟨o.t, hb9.cell 0, cond_intro (fun hc1 => ?_) (fun hc1 => ?_)⟩
    rotate_left
    · have : (i : Int) + 1 = o.t := by simpa using hc1
      exact ⟨by unfold hind; simp [this], hx9⟩
    have hne : (i : Int) + 1 ≠ o.t := by simpa using hc1
    have hshared : o.k = 1 → ∃ x38 : Int, World.cell? w9 ⟨w.heap.size, 0 + 2, none⟩ = some (.int .i64 x38) ∧ 0 ≤ (i : Int) + 1 ∧ (i : Int) + 1 < ((7 : Nat) : Int) ∧ 0 ≤ x38 ∧ x38 < ((6 : Nat) : Int) ∧ ∃ b43 : Bool, World.cell? w9 ⟨b, 0 + 1 + Int.toNat ((i : Int) + 1) * 6 + Int.toNat x38 * 1, none⟩ = some (.bool b43) ∧ b43 = st.sh ((i : Int) + 1) o.i := fun _ =>
      ⟨o.i, hb9.cell 2, by omega, by omega, by omega, by omega, _, hcs, rfl⟩
    refine ⟨o.k, hb9.cell 1, cond_intro (fun hc2 => ?_) (fun hc2 => ?_)⟩
    · have hk2 : o.k < 2 := by simpa using hc2
      refine ⟨o.i, hb9.cell 2, by omega, by omega, by omega, by omega, _, hce, cond_intro (fun hc3 => ?_) (fun hc3 => ?_)⟩
      · exact ⟨by unfold hind; simp [hne, hk2, hc3], hx9⟩
      · refine ⟨o.k, hb9.cell 1, cond_intro (fun hc4 => ?_) (fun hc4 => ?_)⟩
        · have hk1 : o.k = 1 := by simpa using hc4
          obtain ⟨x38, a1, a2, a3, a4, a5, b43, a6, a7⟩ := hshared hk1
          exact ⟨x38, a1, a2, a3, a4, a5, b43, a6, by rw [a7]; unfold hind; simp [hne, hc3, hk1], hx9⟩
        · have hk1 : o.k ≠ 1 := by simpa using hc4
          exact ⟨by unfold hind; simp [hc3, hk1], hx9⟩
    · have hk2 : ¬ o.k < 2 := by simpa using hc2
      refine ⟨o.k, hb9.cell 1, cond_intro (fun hc4 => ?_) (fun hc4 => ?_)⟩
      · have hk1 : o.k = 1 := by simpa using hc4
        omega
      · have hk1 : o.k ≠ 1 := by simpa using hc4
        exact ⟨by unfold hind; simp [hk2, hk1], hx9⟩
end
end Go.Proofs.Ytnbkihkdfhjlmaa
