/-
  Contracts of the slices' functions and of the places in a history.
-/
import Derived.Test.YtnbkihkdfhjlmaaCa
import Derived.Test.YtnbkihkdfhjlmaaVq
namespace Go.Proofs.Ytnbkihkdfhjlmaa
open Go Go.VC

theorem E24 : Elem Try.prog 24 3 1 8 := Elem.of (by kernel_rfl) (by kernel_rfl) (by decide)
/-- slices.Index -/
theorem c57 {w : World} {s : Sl} {l : List Int} (hs : Ints w s l) (x : Int) (hl : l.length ≤ big) :
    Calls Try.prog 57 [.slice s.a s.n s.c, .int .i64 x].toArray w fun e w' => e = .returned (.int .i64 (ix x l)) ∧ Ext w w' := by
  refine (call57 s x (R := fun v w' => v = .int .i64 (ix x l) ∧ Ext w w') ?_).mono fun e w' ⟨v, he, hv, hx⟩ => ⟨by rw [he, hv], hx⟩
  refine Join.dir (rangeI (fun i w2 => x ∉ l.take i ∧ Ext w w2) (by rw [hs.len]; exact hl) ⟨by simp, Fr.refl _ w⟩ ?_ ?_)
  · rintro i hi w2 ⟨hn, hx⟩ K hK
    have hi : i < l.length := by rw [← hs.len]; exact hi
    obtain ⟨p, hp, h1, h2, hr⟩ := Ints.at (hs.ext hx) hi
    refine ⟨p, hp, h1, h2, _, hr, cond_intro (fun hc => ?_) (fun hc => ?_)⟩
    · have h : x = l[i] := by simpa using hc
      exact ⟨by rw [ix_at (by rw [List.getElem?_eq_getElem hi, h]) hn], hx⟩
    · have h : ¬ x = l[i] := by simpa using hc
      exact hK _ ⟨not_take hn (List.getElem?_eq_getElem hi) (fun e => h e.symm), hx⟩
  · rintro w2 ⟨hn, hx⟩
    rw [hs.len, List.take_length] at hn
    exact ⟨by rw [ix_not hn], hx⟩
/-- slices.Contains -/
theorem c28 {w : World} {s : Sl} {l : List Int} (hs : Ints w s l) (x : Int) (hl : l.length ≤ big) :
    Calls Try.prog 28 [.slice s.a s.n s.c, .int .i64 x].toArray w fun e w' => e = .returned (.bool (decide (x ∈ l))) ∧ Ext w w' := by
  refine (call28 s x (R := fun v w' => v = .bool (decide (x ∈ l)) ∧ Ext w w') ?_).mono fun e w' ⟨v, he, hv, hx⟩ => ⟨by rw [he, hv], hx⟩
  refine (c57 hs x hl).mono fun e w1 ⟨he, hx⟩ => ⟨_, he, ?_, hx⟩
  simp [ix_nonneg]
/-- slices.Equal -/
theorem c16 {w : World} {s s' : Sl} {l l' : List Int} (hs : Ints w s l) (hs' : Ints w s' l') (hl : l.length ≤ big) :
    Calls Try.prog 16 [.slice s.a s.n s.c, .slice s'.a s'.n s'.c].toArray w fun e w' => e = .returned (.bool (decide (l = l'))) ∧ Ext w w' := by
  refine (call16 s s' (R := fun v w' => v = .bool (decide (l = l')) ∧ Ext w w') ?_).mono fun e w' ⟨v, he, hv, hx⟩ => ⟨by rw [he, hv], hx⟩
  have h1 := hs.len
  have h2 := hs'.len
  refine cond_intro (fun h => ?_) (fun h => ?_)
  · have h : ¬ l = l' := by rintro rfl; simp [h1, h2] at h
    exact ⟨by simp [h], Fr.refl _ w⟩
  · have h : l.length = l'.length := by simp at h; omega
    refine Join.dir (rangeI (fun i w2 => l.take i = l'.take i ∧ Ext w w2) (by rw [hs.len]; exact hl) ⟨by simp, Fr.refl _ w⟩ ?_ ?_)
    · rintro i hi w2 ⟨hn, hx⟩ K hK
      have hi : i < l.length := by omega
      have hi' : i < l'.length := by omega
      refine Let.intro fun w4 e4 => ?_
      have hx4 : Ext w w4 := by rw [e4]; exact hx.trans (Ext.drew _)
      obtain ⟨p, hp, h1, h2, hr⟩ := Ints.at (hs.ext hx4) hi
      obtain ⟨p', hp', h1', h2', hr'⟩ := Ints.at (hs'.ext hx4) hi'
      refine ⟨p, hp, h1, h2, _, hr, p', hp', h1', h2', _, hr', cond_intro (fun hc => ?_) (fun hc => ?_)⟩
      · have h : ¬ l[i] = l'[i] := by simpa using hc
        exact ⟨by simp; rintro rfl; exact h rfl, hx4⟩
      · have h : l[i] = l'[i] := by simpa using hc
        exact hK _ ⟨by rw [List.take_succ_eq_append_getElem hi, List.take_succ_eq_append_getElem hi', hn, h], hx4⟩
    · rintro w2 ⟨hn, hx⟩
      rw [hs.len, List.take_length, h, List.take_length] at hn
      exact ⟨by simp [hn], hx⟩
/-- slices.Clone: nil of nil, or a row of its own -/
theorem c46 {w : World} {s : Sl} {l : List Int} (hs : Ints w s l) (hl : l.length ≤ 1000000) :
    Calls Try.prog 46 [.slice s.a s.n s.c].toArray w fun e w' => ∃ s' : Sl, e = .returned (.slice s'.a s'.n s'.c) ∧ Own 3 1 eI w.heap.size w' s' l ∧ Ext w w' := by
  refine (call46 s (R := fun v w' => ∃ s' : Sl, v = .slice s'.a s'.n s'.c ∧ Own 3 1 eI w.heap.size w' s' l ∧ Ext w w') ?_).mono fun e w' ⟨v, he, s', hv, h1, h2⟩ => ⟨s', by rw [he, hv], h1, h2⟩
  refine cond_intro (fun h => ?_) (fun h => ?_)
  · have hn : l = [] := by
      rcases Classical.em (l = []) with h' | h'
      · exact h'
      · obtain ⟨p, hp, _⟩ := hs.mem h'; rw [hp] at h; cases h
    subst hn
    exact ⟨⟨none, 0, 0⟩, rfl, Own.nil .., Fr.refl _ w⟩
  · have hx := Ext.alloc w (.cells #[] 3)
    refine ⟨⟨some ⟨w.heap.size, 0, none⟩, 0, 0⟩, _, buildNone_run E24 w, ?_⟩
    obtain ⟨s', w', hrun, ho', hf⟩ := appendSli E24 (Own.empty w) (hs.ext hx) eI_len eI_one (by simp; omega) (by simp [maxLen]; omega) (by simp) 24
    exact ⟨s', w', hrun, s', rfl, by simpa using ho', hx.newer hf fun b ⟨a, ha, hb⟩ => by cases ha; simp at hb; omega⟩
theorem T38 : IntStr Try.prog 38 3 := ⟨by kernel_rfl, by kernel_rfl, by kernel_rfl, by kernel_rfl, by kernel_rfl⟩
/-- '==' of two operations -/
theorem opEq (a b : Ev) (w : World) : Sem.run Try.prog (aggEq .eql 38 (.agg [(.int .i64 a.t), (.int .i64 a.k), (.int .i64 a.i)].toArray) (.agg [(.int .i64 b.t), (.int .i64 b.k), (.int .i64 b.i)].toArray)) w = .ok (.bool (decide (a = b))) w := by
  have h := aggEq_str T38 (xs := [a.t, a.k, a.i]) (ys := [b.t, b.k, b.i]) rfl rfl w
  have e : decide ([a.t, a.k, a.i] = [b.t, b.k, b.i]) = decide (a = b) := by
    obtain ⟨a1, a2, a3⟩ := a; obtain ⟨b1, b2, b3⟩ := b; simp
  rw [e] at h
  exact h
/-- slices.Index of a history -/
theorem c56 {w : World} {s : Sl} {h : List Ev} (hs : Hs w s h) (x : Ev) (hl : h.length ≤ big) :
    Calls Try.prog 56 [.slice s.a s.n s.c, .agg [.int .i64 x.t, .int .i64 x.k, .int .i64 x.i].toArray].toArray w fun e w' => e = .returned (.int .i64 (ix x h)) ∧ Ext w w' := by
  refine (call56 s x.t x.k x.i (R := fun v w' => v = .int .i64 (ix x h) ∧ Ext w w') ?_).mono fun e w' ⟨v, he, hv, hx⟩ => ⟨by rw [he, hv], hx⟩
  refine Let.intro fun w1 e1 => ?_
  have hb : Blk w1 w.heap.size [.int .i64 x.t, .int .i64 x.k, .int .i64 x.i] 38 := by rw [e1]; exact Blk.alloc ..
  have hx1 : Ext w w1 := by rw [e1]; exact Ext.alloc ..
  refine Join.dir (rangeI (fun i w2 => x ∉ h.take i ∧ Ext w w2 ∧ Blk w2 w.heap.size [.int .i64 x.t, .int .i64 x.k, .int .i64 x.i] 38) (by rw [hs.len]; exact hl) ⟨by simp, hx1, hb⟩ ?_ ?_)
  · rintro i hi w2 ⟨hn, hx, hb2⟩ K hK
    have hi : i < h.length := by rw [← hs.len]; exact hi
    refine Let.intro fun w4 e4 => ?_
    have hx24 : Ext w2 w4 := by rw [e4]; exact Ext.drew _
    obtain ⟨p, hp, h1, h2, hr⟩ := (hs.ext (hx.trans hx24)).at eO_len hi
    refine ⟨_, _, _, (hb2.ext hx24).rd, p, hp, h1, h2, _, _, _, hr, _, fun w => opEq x h[i] w, cond_intro (fun hc => ?_) (fun hc => ?_)⟩
    · have h2 : x = h[i] := by simpa using hc
      exact ⟨by rw [ix_at (by rw [List.getElem?_eq_getElem hi, h2]) hn], hx.trans hx24⟩
    · have h2 : ¬ x = h[i] := by simpa using hc
      exact hK _ ⟨not_take hn (List.getElem?_eq_getElem hi) (fun e => h2 e.symm), hx.trans hx24, hb2.ext hx24⟩
  · rintro w2 ⟨hn, hx, _⟩
    rw [hs.len, List.take_length] at hn
    exact ⟨by rw [ix_not hn], hx⟩
end Go.Proofs.Ytnbkihkdfhjlmaa
