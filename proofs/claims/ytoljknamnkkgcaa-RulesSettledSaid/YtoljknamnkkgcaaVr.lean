/-
  A slice that the call owns, written in place. For every program.
-/
import Derived.Test.YtoljknamnkkgcaaVq
namespace Go.VC
open Go
variable {P : Program}

theorem eI_flat (l : List Int) : l.flatMap eI = l.map (Value.int .i64) := by
  induction l with
  | nil => rfl
  | cons x r ih => simp [eI] at ih ⊢; exact ih
/-- 's[i] = v' of an owned slice of ints. -/
theorem Own.store {T B : Nat} {w : World} {s : Sl} {l : List Int} (h : Own T 1 eI B w s l) {i : Nat} (hi : i < l.length) (v : Int) :
    ∃ p : Pt, s.a = some ⟨p.b, p.o, none⟩ ∧ 0 ≤ (i : Int) ∧ (i : Int) < ((s.n : Nat) : Int) ∧ StoreOk w p.b (p.o + Int.toNat (i : Int) * 1) [.int .i64 v] 1 ∧
      Own T 1 eI B (put w p.b (p.o + Int.toNat (i : Int) * 1) [.int .i64 v]) s (l.set i v) ∧ Fr (fun b => ∃ a, s.a = some a ∧ a.block = b) w (put w p.b (p.o + Int.toNat (i : Int) * 1) [.int .i64 v]) := by
  obtain ⟨hn, hl, h⟩ := h
  rcases h with ⟨h1, h2⟩ | ⟨g, cap, cur, hv, hb, hg, hc, hm, hsz, ht⟩
  · omega
  · simp only [Value.slice.injEq] at hv
    obtain ⟨h1, h2, h3⟩ := hv
    have hb' : Blk w g cur.toList T := by unfold Blk; simpa using hg
    have hlt : i < cur.size := by omega
    have e : (⟨g, 0⟩ : Pt).o + Int.toNat (i : Int) * 1 = i := by simp
    refine ⟨⟨g, 0⟩, h1, by omega, by omega, ?_, ?_, ?_⟩
    · rw [e]; exact hb'.storeOk rfl (by simp [Value.oneCell']) (by simp; omega)
    · rw [e]
      have hput := hb'.put (o := i) (vs := [.int .i64 v])
      refine ⟨by simp [hn], by simp [eI_flat], .inr ⟨g, cap, cur.setIfInBounds i (.int .i64 v), by rw [h1, h2, h3]; simp, hb, ?_, by simpa using hc, hm, by simpa using hsz, ?_⟩⟩
      · unfold Blk at hput
        simp only [setR] at hput
        rw [hput]; congr 1; congr 1; apply Array.ext'; simp
      · rw [eI_flat] at ht ⊢
        simp only [Array.toList_setIfInBounds, List.length_set]
        rw [List.take_set, ht, List.map_set]
    · exact (Fr.put _ _ _ _).mono fun b _ hb => ⟨_, h1, hb.symm⟩
end Go.VC
namespace Go.VC
open Go
theorem flatMap_len {α : Type} {k : Nat} {enc : α → List Value} (hk : ∀ x, (enc x).length = k) : ∀ l : List α, (l.flatMap enc).length = l.length * k
  | [] => by simp
  | x :: r => by simp [List.flatMap_cons, hk, flatMap_len hk r, Nat.add_mul]; omega
/-- 's[m:]' -/
theorem Sli.drop {α : Type} {k : Nat} {enc : α → List Value} {w : World} {s : Sl} {l : List α} (hk : ∀ x, (enc x).length = k) (h : Sli k enc w s l) {m : Nat} (hm : m ≤ l.length) : Sli k enc w ⟨subA s.a s.c m k, s.n - m, s.c - m⟩ (l.drop m) := by
  have h1 := h.len
  have h2 := h.cap
  refine ⟨by simp [h1], by simp only; omega, fun hne => ?_⟩
  have hlt : m < l.length := by
    rcases Nat.lt_or_ge m l.length with h | h
    · exact h
    · exact absurd (List.drop_eq_nil_of_le h) hne
  obtain ⟨p, hp, hr⟩ := h.mem (by rintro rfl; simp at hlt)
  refine ⟨⟨p.b, p.o + m * k⟩, ?_, ?_⟩
  · simp only [subA]
    rw [if_neg (by omega), hp, Option.map_some, addr_add_plain]
  · have e : l.flatMap enc = (l.take m).flatMap enc ++ (l.drop m).flatMap enc := by rw [← List.flatMap_append, List.take_append_drop]
    rw [e, rd_append, flatMap_len hk, List.length_take, Nat.min_eq_left hm] at hr
    exact hr.2
/-- 's[:m]' -/
theorem Sli.take {α : Type} {k : Nat} {enc : α → List Value} {w : World} {s : Sl} {l : List α} (h : Sli k enc w s l) {m : Nat} (hm : m ≤ l.length) : Sli k enc w ⟨s.a, m, s.c⟩ (l.take m) := by
  have h1 := h.len
  have h2 := h.cap
  refine ⟨by simp [hm], by simp only; omega, fun hne => ?_⟩
  obtain ⟨p, hp, hr⟩ := h.mem (by rintro rfl; simp at hne)
  refine ⟨p, hp, ?_⟩
  have e : l.flatMap enc = (l.take m).flatMap enc ++ (l.drop m).flatMap enc := by rw [← List.flatMap_append, List.take_append_drop]
  rw [e, rd_append] at hr
  exact hr.1
end Go.VC
namespace Go.VC
open Go
theorem rangeKI {t t' n : Nat} {k : SK} {w0 : World} {s0 : k.T} {J : k.T → World → Prop} {B : k.T → Int → World → (k.T → World → Prop) → Prop} (Inv : Nat → k.T → World → Prop) (hn : n ≤ big) (h0 : Inv 0 s0 w0)
    (hs : ∀ i, i < n → ∀ s w, Inv i s w → ∀ K : k.T → World → Prop, (∀ s' w', Inv (i + 1) s' w' → K s' w') → B s (i : Int) w K) (he : ∀ s w, Inv n s w → J s w) :
    LoopV [(t', k), (t, .int .i64)] (fun K => K s0 (0 : Int) w0) (fun N => fun (s : k.T) (x : Int) (w : World) => cond (decide (x < (n : Int))) (Join [(t', k)] (fun (s' : k.T) (w3 : World) => N s' (IntKind.wrap .i64 (x + 1)) w3) (fun J2 => B s x w J2)) (J s w)) := by
  refine LoopV.intro (fun m (s : k.T) (x : Int) w => ∃ i : Nat, x = i ∧ m = n - i ∧ i ≤ n ∧ Inv i s w) n ⟨0, rfl, by omega, by omega, h0⟩ ?_
  rintro m s x w ⟨i, rfl, rfl, hi, hv⟩
  refine cond_intro (fun h => ?_) (fun h => ?_)
  · have hi : i < n := by simpa using h
    refine Join.dir (hs i hi s w hv _ fun s' w' h' => ⟨n - (i + 1), by omega, i + 1, ?_, rfl, by omega, h'⟩)
    rw [wrap64 (by omega) (by have : n ≤ 9223372036854775807 := hn; omega)]; rfl
  · have hi : i = n := by have : ¬ i < n := by simpa using h
                          omega
    subst hi; exact he s w hv
end Go.VC
