/-
  Contracts: the program's View: the search that its closure does.
-/
import Derived.Test.YtnbkihkdfhjlmaaCk
namespace Go.Proofs.Ytnbkihkdfhjlmaa
open Go Go.VC
set_option maxHeartbeats 400000

/-- An order that is view equivalent, as the program says. -/
noncomputable def okB (h : List Ev) (p : List Int) : Bool := @decide (SameV (serial (part h) p) (part h)) (Classical.propDecidable _)
theorem okB_iff {h : List Ev} {p : List Int} : okB h p = true ↔ SameV (serial (part h) p) (part h) := @decide_eq_true_iff _ (Classical.propDecidable _)
/-- The first such order that begins so, n transactions being left. -/
noncomputable def search (h : List Ev) : Nat → List Int → Option (List Int)
  | 0, ord => if okB h ord then some ord else none
  | n + 1, ord => (com h).findSome? fun t => if t ∈ ord then none else search h n (ord ++ [t])
theorem findSome_take {α β : Type} {l : List α} {f : α → Option β} {i : Nat} {x : α} (hn : ∀ y ∈ l.take i, f y = none) (hi : l[i]? = some x) {r : β} (hx : f x = some r) : l.findSome? f = some r := by
  obtain ⟨hl, he⟩ := List.getElem?_eq_some_iff.1 hi
  have e : l = l.take i ++ x :: l.drop (i + 1) := by rw [← he, ← List.drop_eq_getElem_cons hl, List.take_append_drop]
  rw [e, List.findSome?_append, List.findSome?_eq_none_iff.2 hn, List.findSome?_cons, hx]; rfl

/-- What stands still while the closure runs. -/
structure Fixd (h : List Ev) (w0 : World) (pl pp pw : Nat) (sl sp : Sl) (m : Option Nat) (a b c d e f : Int) : Prop where
  l : Blk w0 pl [.slice sl.a sl.n sl.c] 24
  li : Ints w0 sl (com h)
  p : Blk w0 pp [.slice sp.a sp.n sp.c] 29
  pi : Hs w0 sp (part h)
  v : Blk w0 pw [.map m, .int .i64 a, .int .i64 b, .int .i64 c, .int .i64 d, .int .i64 e, .int .i64 f] 65
  vi : ViewV w0 m [a, b, c, d, e, f] (part h)
def caps (po pl pp pw pt : Nat) : List Value := [.pointer (some ⟨po, 0, none⟩), .pointer (some ⟨pl, 0, none⟩), .pointer (some ⟨pp, 0, none⟩), .pointer (some ⟨pw, 0, none⟩), .pointer (some ⟨pt, 0, none⟩)]
/-- The closure's variables, the order so far being ord. -/
structure Tr (w0 : World) (po pl pp pw pt : Nat) (w : World) (ord : List Int) : Prop where
  base : Ext w0 w
  ord : ∃ so : Sl, Blk w po [.slice so.a so.n so.c] 24 ∧ Own 3 1 eI w0.heap.size w so ord ∧ ∀ x, so.a = some x → x.block ≠ po ∧ x.block ≠ pt
  self : Blk w pt [.func (.func 37) #[] (caps po pl pp pw pt).toArray] 32
theorem Tr.ext {w0 : World} {po pl pp pw pt : Nat} {w w' : World} {ord : List Int} (h : Tr w0 po pl pp pw pt w ord) (f : Ext w w') : Tr w0 po pl pp pw pt w' ord := by
  obtain ⟨so, h1, h2, h3⟩ := h.ord
  exact ⟨h.base.trans f, ⟨so, h1.ext f, h2.ext f, h3⟩, h.self.ext f⟩
theorem callable37 : callable Try.prog 37 = true := by kernel_rfl

theorem c37 {h : List Ev} {w0 : World} {po pl pp pw pt : Nat} {sl sp : Sl} {m : Option Nat} {a b c d e f : Int} (F : Fixd h w0 pl pp pw sl sp m a b c d e f) (hok : ∀ o ∈ h, okOp o) (hl : h.length ≤ 100) (hpo : w0.heap.size ≤ po) (hne : po ≠ pt) :
    ∀ (n : Nat) (ord : List Int) (w : World), ord.length + n = (com h).length → Tr w0 po pl pp pw pt w ord →
      Calls Try.prog 37 (caps po pl pp pw pt).toArray w fun ee w' => ee = .returned (.bool (search h n ord).isSome) ∧ Tr w0 po pl pp pw pt w' ((search h n ord).getD ord) := by
  have hcl := com_len h
  have hokp : ∀ o ∈ part h, okOp o := fun o ho => hok o (List.mem_filter.1 ho).1
  have hlp : (part h).length ≤ 100 := Nat.le_trans (List.length_filter_le ..) hl
  intro n
  induction n with
  | zero =>
    intro ord w hn hT
    refine (call37 ⟨po, 0⟩ ⟨pl, 0⟩ ⟨pp, 0⟩ ⟨pw, 0⟩ ⟨pt, 0⟩ (R := fun v w' => v = .bool (search h 0 ord).isSome ∧ Tr w0 po pl pp pw pt w' ((search h 0 ord).getD ord)) ?_).mono fun ee w' ⟨v, he, hv, hx⟩ => ⟨by rw [he, hv], hx⟩
    obtain ⟨so, hso, hown, hsep⟩ := hT.ord
    have hlen1 := hown.1
    have hlen2 := F.li.len
    refine ⟨so, hso.cell 0, sl, (F.l.ext hT.base).cell 0, cond_intro (fun _ => ?_) (fun hc => ?_)⟩
    · have hTd := hT.ext (Ext.drew w)
      have hsd : ∀ u, (Ext w u) → World.cell? u ⟨po, 0, none⟩ = some (.slice so.a so.n so.c) := fun u hu => (hso.ext hu).cell 0
      refine ⟨fun u => Ext w u, Ext.drew w, Let.intro fun w1 e1 => ?_⟩
      have hx1 : Ext w w1 := by rw [e1]; exact Ext.drew _
      refine ⟨sp, fun u hu => (F.p.ext (hT.base.trans hu)).cell 0, so, hsd, m, a, b, c, d, e, f, fun u hu => (F.v.ext (hT.base.trans hu)).rd, ?_⟩
      have hb1 := hT.base.trans hx1
      refine (c38 (F.pi.ext hb1) (hown.sli.ext hx1) (by omega) (by omega)).mono fun ee w2 ⟨s15, he, ho15, hx2⟩ => ⟨s15, he, hx1.trans hx2, ?_⟩
      have hoks : ∀ o ∈ serial (part h) ord, okOp o := fun o ho => by
        obtain ⟨t, _, h2⟩ := List.mem_flatMap.1 ho
        exact hokp o (List.mem_filter.1 h2).1
      have hls : (serial (part h) ord).length ≤ 1000 := by
        have h1 := serial_len (part h) ord
        have h3 : ord.length * (part h).length ≤ 6 * 100 := Nat.mul_le_mul (by omega) hlp
        omega
      refine (c35 ho15.sli hoks hls).mono fun ee w3 ⟨m', a', b', c', d', e', f', he, hv, hx3⟩ => ⟨m', a', b', c', d', e', f', he, (hx1.trans hx2).trans hx3, ?_⟩
      refine (c39 hv (F.vi.ext ((hb1.trans hx2).trans hx3)) hls).mono fun ee w4 ⟨r, he, hiff, hx4⟩ => ⟨r, he, ((hx1.trans hx2).trans hx3).trans hx4, ?_⟩
      have hT4 := hT.ext (((hx1.trans hx2).trans hx3).trans hx4)
      have hr : r = okB h ord := Bool.eq_iff_iff.2 (hiff.trans okB_iff.symm)
      subst hr
      unfold search
      cases okB h ord with
      | true => exact ⟨rfl, hT4⟩
      | false => exact ⟨rfl, hT4⟩
    · simp [hlen1, hlen2] at hc; omega
  | succ n ih =>
    intro ord w hn hT
    refine (call37 ⟨po, 0⟩ ⟨pl, 0⟩ ⟨pp, 0⟩ ⟨pw, 0⟩ ⟨pt, 0⟩ (R := fun v w' => v = .bool (search h (n + 1) ord).isSome ∧ Tr w0 po pl pp pw pt w' ((search h (n + 1) ord).getD ord)) ?_).mono fun ee w' ⟨v, he, hv, hx⟩ => ⟨by rw [he, hv], hx⟩
    obtain ⟨so, hso, hown, hsep⟩ := hT.ord
    have hlen1 := hown.1
    have hlen2 := F.li.len
    refine ⟨so, hso.cell 0, sl, (F.l.ext hT.base).cell 0, cond_intro (fun hc => ?_) (fun _ => ?_)⟩
    · simp [hlen1, hlen2] at hc; omega
    refine ⟨sl, (F.l.ext hT.base).cell 0, Join.dir (rangeI (fun i w' => Tr w0 po pl pp pw pt w' ord ∧ ∀ t ∈ (com h).take i, (if t ∈ ord then none else search h n (ord ++ [t])) = none) (by rw [hlen2]; exact Nat.le_trans hcl (by decide)) ⟨hT, by simp⟩ ?_ ?_)⟩
    · rintro i hi w6 ⟨hT6, hno⟩ K hK
      have hi : i < (com h).length := by omega
      obtain ⟨q, hq, h1, h2, hr⟩ := Ints.at (F.li.ext hT6.base) hi
      obtain ⟨so6, hso6, hown6, hsep6⟩ := hT6.ord
      have hn6 := hown6.1
      have hskip : (if (com h)[i] ∈ ord then none else search h n (ord ++ [(com h)[i]])) = none → ∀ w', Tr w0 po pl pp pw pt w' ord → K w' := fun hs w' hT' => hK w' ⟨hT', fun t ht => by
        rw [List.take_succ_eq_append_getElem hi] at ht
        rcases List.mem_append.1 ht with ht | ht
        · exact hno t ht
        · rw [List.mem_singleton.1 ht]; exact hs⟩
      refine ⟨q, hq, h1, h2, _, hr, so6, hso6.cell 0, (c28 hown6.sli (com h)[i] (Nat.le_trans (show ord.length ≤ 6 by omega) (by decide))).mono fun ee w8 ⟨he, hx8⟩ => ⟨_, he, cond_intro (fun hc => ?_) (fun hc => ?_)⟩⟩
      · have hc : (com h)[i] ∈ ord := by simpa using hc
        exact hskip (by rw [if_pos hc]) _ (hT6.ext hx8)
      · have hc : ¬ (com h)[i] ∈ ord := by simpa using hc
        have hso8 := hso6.ext hx8
        have hb8 := (hT6.base.trans hx8)
        obtain ⟨s30, w9, e9, hx9, s31, w10, e10, ho10, hf10, hwh⟩ := appendIntW (hown6.ext hx8) (com h)[i] (show ord.length ≤ 1000000 by omega) hb8.size
        have hso10 : Blk w10 po [.slice so6.a so6.n so6.c] 24 := (hso8.ext hx9).fr hf10 fun ⟨x, hx, hb⟩ => (hsep6 x hx).1 hb
        have hself10 : Blk w10 pt [.func (.func 37) #[] (caps po pl pp pw pt).toArray] 32 := ((hT6.self.ext hx8).ext hx9).fr hf10 fun ⟨x, hx, hb⟩ => (hsep6 x hx).2 hb
        have hb10 : Ext w0 w10 := (hb8.trans hx9).newer hf10 fun b ⟨x, hx, hb⟩ => by have := (hown6.base hx).1; omega
        have hs31 : ∀ x, s31.a = some x → x.block ≠ po ∧ x.block ≠ pt := fun x hx => by
          rcases hwh with hw | hw
          · rw [hw] at hx; exact hsep6 x hx
          · have := hw x hx
            have h3 := hso8.lt
            have h4 := (hT6.self.ext hx8).lt
            omega
        refine ⟨so6, hso8.cell 0, s30, w9, e9, s31, w10, e10, hso10.storeOk rfl (by simp [Value.oneCell']) (by simp), Let.intro fun w11 e11 => ?_⟩
        have hf11 : Fr (fun k => k = po) w10 w11 := by rw [e11]; exact Fr.put ..
        have hb11 := hso10.put (o := 0) (vs := [.slice s31.a s31.n s31.c])
        have hT11 : Tr w0 po pl pp pw pt w11 (ord ++ [(com h)[i]]) :=
          ⟨hb10.newer hf11 fun k hk => by omega, ⟨s31, by rw [e11]; exact hb11, ho10.fr hf11 fun x hx hb => (hs31 x hx).1 hb, hs31⟩, hself10.fr hf11 (Ne.symm hne)⟩
        refine ⟨37, caps po pl pp pw pt, hT11.self.cell 0, ?_⟩
        rw [callable37]
        refine (ih (ord ++ [(com h)[i]]) w11 (by simp; omega) hT11).mono fun ee w12 ⟨he, hT12⟩ => ⟨_, he, cond_intro (fun hr => ?_) (fun hr => ?_)⟩
        · obtain ⟨res, hres⟩ := Option.isSome_iff_exists.1 hr
          have hs : search h (n + 1) ord = some res := by
            rw [search]
            exact findSome_take hno (List.getElem?_eq_getElem hi) (by rw [if_neg hc, hres])
          rw [hs]
          rw [hres] at hT12
          exact ⟨rfl, hT12⟩
        · have hres : search h n (ord ++ [(com h)[i]]) = none := by
            cases hh : search h n (ord ++ [(com h)[i]]) with
            | none => rfl
            | some x => rw [hh] at hr; cases hr
          rw [hres] at hT12
          obtain ⟨so12, hso12, hown12, hsep12⟩ := hT12.ord
          have hn12 : so12.n = ord.length + 1 := by have := hown12.1; simpa using this
          have hcap12 := hown12.sli.cap
          have hwr : IntKind.wrap .i64 (((so12.n : Nat) : Int) - 1) = ((ord.length : Nat) : Int) := by rw [wrap64 (by omega) (by omega)]; omega
          refine ⟨so12, hso12.cell 0, so12, hso12.cell 0, ?_⟩
          rw [hwr]
          refine ⟨by omega, by omega, hso12.storeOk rfl (by simp [Value.oneCell']) (by simp), Let.intro fun w13 e13 => ?_⟩
          have hf13 : Fr (fun k => k = po) w12 w13 := by rw [e13]; exact Fr.put ..
          have hb13 := hso12.put (o := 0) (vs := [.slice so12.a ord.length so12.c])
          have htr := Own.trunc (m := ord.length) eI_len hown12 (by simp)
          rw [show (((none : Option (List Int)).getD (ord ++ [(com h)[i]])).take ord.length) = ord from by simp] at htr
          refine hskip (by rw [if_neg hc, hres]) _ ⟨hT12.base.newer hf13 fun k hk => by omega, ⟨⟨so12.a, ord.length, so12.c⟩, by rw [e13]; exact hb13, htr.fr hf13 fun x hx hb => (hsep12 x hx).1 hb, hsep12⟩, hT12.self.fr hf13 (Ne.symm hne)⟩
    · rintro w6 ⟨hT6, hno⟩
      rw [hlen2, List.take_length] at hno
      have hs : search h (n + 1) ord = none := by rw [search]; exact List.findSome?_eq_none_iff.2 hno
      rw [hs]
      exact ⟨rfl, hT6⟩
end Go.Proofs.Ytnbkihkdfhjlmaa
