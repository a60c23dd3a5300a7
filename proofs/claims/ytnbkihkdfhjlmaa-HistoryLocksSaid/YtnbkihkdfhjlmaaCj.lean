/-
  Contracts: all orders of the transactions, in the reference.
-/
import Derived.Test.YtnbkihkdfhjlmaaCi
namespace Go.Proofs.Ytnbkihkdfhjlmaa
open Go Go.VC
set_option maxHeartbeats 400000

/-- All orders of a list. -/
def permsN : Nat → List Int → List (List Int)
  | 0, _ => [[]]
  | n + 1, l => (List.range l.length).flatMap fun i => (permsN n (l.eraseIdx i)).map fun p => l.getD i 0 :: p
theorem flatMap_le {α β : Type} {f : α → List β} {K : Nat} : ∀ {l : List α}, (∀ x ∈ l, (f x).length ≤ K) → (l.flatMap f).length ≤ l.length * K
  | [], _ => by simp
  | x :: r, h => by
    have h1 := h x (by simp)
    have h2 := flatMap_le (l := r) fun y hy => h y (by simp [hy])
    rw [List.flatMap_cons, List.length_append, List.length_cons, Nat.add_mul]; omega
theorem permsN_le : ∀ (n : Nat) (l : List Int), n ≤ 6 → l.length = n → (permsN n l).length ≤ 6 ^ n
  | 0, _, _, _ => by simp [permsN]
  | n + 1, l, hn, hl => by
    have := flatMap_le (l := List.range l.length) (f := fun i => (permsN n (l.eraseIdx i)).map fun p => l.getD i 0 :: p) (K := 6 ^ n) fun i hi => by
      rw [List.length_map]
      exact permsN_le n _ (by omega) (by rw [List.length_eraseIdx]; simp at hi; rw [if_pos hi]; omega)
    unfold permsN
    refine Nat.le_trans this ?_
    rw [List.length_range, hl, Nat.pow_succ, Nat.mul_comm]
    exact Nat.mul_le_mul_left _ hn
theorem permsN_len : ∀ (n : Nat) (l : List Int), l.length = n → ∀ p ∈ permsN n l, p.length = n
  | 0, _, _, p, hp => by simp [permsN] at hp; subst hp; rfl
  | n + 1, l, hl, p, hp => by
    unfold permsN at hp
    obtain ⟨i, hi, h⟩ := List.mem_flatMap.1 hp
    obtain ⟨q, hq, rfl⟩ := List.mem_map.1 h
    simp at hi
    have := permsN_len n _ (by rw [List.length_eraseIdx, if_pos hi]; omega) q hq
    simp [this]

def eS (s : Sl) : List Value := [.slice s.a s.n s.c]
theorem eS_len (s : Sl) : (eS s).length = 1 := rfl
theorem eS_one (s : Sl) : ∀ v ∈ eS s, v.oneCell' = true := by intro v hv; simp [eS] at hv; subst hv; rfl
theorem E70 : Elem Try.prog 70 24 1 24 := Elem.of (by kernel_rfl) (by kernel_rfl) (by decide)
/-- A slice of slices of ints, all from block B on. -/
structure LL (B : Nat) (w : World) (s : Sl) (ll : List (List Int)) : Prop where
  ex : ∃ ss : List Sl, Own 24 1 eS B w s ss ∧ ss.length = ll.length ∧ ∀ p ∈ ss.zip ll, Ints w p.1 p.2 ∧ ∀ a, p.1.a = some a → B ≤ a.block ∧ a.block < w.heap.size ∧ ∀ b, s.a = some b → a.block ≠ b.block
theorem LL.fr {B : Nat} {w w' : World} {s : Sl} {ll : List (List Int)} {M : Nat → Prop} (h : LL B w s ll) (f : Fr M w w') (hn : ∀ i, B ≤ i → i < w.heap.size → ¬ M i) : LL B w' s ll := by
  obtain ⟨ss, ho, hl, h⟩ := h.ex
  refine ⟨ss, ho.fr f fun a ha => hn _ (ho.base ha).1 (ho.base ha).2, hl, fun p hp => ?_⟩
  obtain ⟨h1, h2⟩ := h p hp
  exact ⟨h1.fr f fun a ha => hn _ (h2 a ha).1 (h2 a ha).2.1, fun a ha => ⟨(h2 a ha).1, Nat.lt_of_lt_of_le (h2 a ha).2.1 f.size, (h2 a ha).2.2⟩⟩
theorem LL.ext {B : Nat} {w w' : World} {s : Sl} {ll : List (List Int)} (h : LL B w s ll) (f : Ext w w') : LL B w' s ll := h.fr f fun _ _ _ h => h
theorem LL.len {B : Nat} {w : World} {s : Sl} {ll : List (List Int)} (h : LL B w s ll) : s.n = ll.length := by obtain ⟨ss, ho, hl, _⟩ := h.ex; rw [ho.1, hl]
theorem LL.at {B : Nat} {w : World} {s : Sl} {ll : List (List Int)} (h : LL B w s ll) {j : Nat} (hj : j < ll.length) :
    ∃ (p : Pt) (x : Sl), s.a = some ⟨p.b, p.o, none⟩ ∧ 0 ≤ (j : Int) ∧ (j : Int) < ((s.n : Nat) : Int) ∧ w.cell? ⟨p.b, p.o + Int.toNat (j : Int) * 1, none⟩ = some (.slice x.a x.n x.c) ∧ Ints w x ll[j] := by
  obtain ⟨ss, ho, hl, h⟩ := h.ex
  have hj' : j < ss.length := by omega
  obtain ⟨p, hp, h1, h2, hr⟩ := Sli.at eS_len ho.sli hj'
  refine ⟨p, ss[j], hp, h1, h2, hr.1, (h (ss[j], ll[j]) ?_).1⟩
  refine List.mem_iff_getElem.2 ⟨j, by simp; omega, ?_⟩
  rw [List.getElem_zip]

theorem c40 : ∀ (n : Nat) (l : List Int) (w : World) (s : Sl), n ≤ 6 → l.length = n → Ints w s l →
    Calls Try.prog 40 [.slice s.a s.n s.c].toArray w fun e w' => ∃ s' : Sl, e = .returned (.slice s'.a s'.n s'.c) ∧ LL w.heap.size w' s' (permsN n l) ∧ Ext w w' := by
  intro n
  induction n with
  | zero =>
    intro l w s _ hl hs
    refine (call40 s (R := fun v w' => ∃ s' : Sl, v = (.slice s'.a s'.n s'.c) ∧ LL w.heap.size w' s' (permsN 0 l) ∧ Ext w w') ?_).mono fun e w' ⟨v, he, s', hv, hx⟩ => ⟨s', by rw [he, hv], hx⟩
    refine cond_intro (fun hc => ?_) (fun hc => ?_)
    · refine ⟨⟨some ⟨w.heap.size, 0, none⟩, 1, 1⟩, _, buildOne_run E70 (v := .slice none 0 0) (vs := eS nilS) rfl rfl (by omega) w, _, rfl, ⟨[nilS], Own.one w nilS rfl, rfl, ?_⟩, Ext.alloc ..⟩
      intro p hp
      simp [permsN] at hp
      subst hp
      exact ⟨Sli.nil .., fun a ha => by simp [nilS] at ha⟩
    · have := hs.len; simp [this, hl] at hc
  | succ n ih =>
    intro l w s hn6 hl hs
    refine (call40 s (R := fun v w' => ∃ s' : Sl, v = (.slice s'.a s'.n s'.c) ∧ LL w.heap.size w' s' (permsN (n + 1) l) ∧ Ext w w') ?_).mono fun e w' ⟨v, he, s', hv, hx⟩ => ⟨s', by rw [he, hv], hx⟩
    have hn := hs.len
    have hcap := hs.cap
    refine cond_intro (fun hc => ?_) (fun _ => ?_)
    · simp [hn, hl] at hc; omega
    have hrest : ∀ i, i < l.length → (l.eraseIdx i).length = n := fun i hi => by rw [List.length_eraseIdx, if_pos hi]; omega
    refine Join.dir (rangeSI (fun i (s' : Sl) w' => LL w.heap.size w' s' ((List.range i).flatMap fun i => (permsN n (l.eraseIdx i)).map fun p => l.getD i 0 :: p) ∧ Ext w w') (by rw [hn, hl]; exact Nat.le_trans hn6 (by decide))
      ⟨⟨[], Own.nil .., rfl, by simp⟩, Fr.refl _ _⟩ ?_ ?_)
    · rintro i hi s3 w3 ⟨hLL, hx⟩ K hK
      have hi : i < l.length := by omega
      obtain ⟨p, hp, h1, h2, hr⟩ := Ints.at (hs.ext hx) hi
      refine ⟨p, hp, h1, h2, _, hr, Let.intro fun w5 e5 => ?_⟩
      have hx5 : Ext w3 w5 := by rw [e5]; exact Ext.drew _
      have hwr : IntKind.wrap .i64 ((i : Int) + 1) = ((i + 1 : Nat) : Int) := by rw [wrap64 (by omega) (by omega)]; rfl
      rw [hwr]
      refine ⟨h1, by omega, by omega, by omega, ⟨some ⟨w5.heap.size, 0, none⟩, 0, 0⟩, _, buildNone_run E24 w5, ?_⟩
      have hx6 := Ext.alloc w5 (.cells #[] 3)
      have hs6 := ((hs.ext hx).ext hx5).ext hx6
      have ho6 : Own 3 1 eI w5.heap.size (w5.alloc (.cells #[] 3)) ⟨some ⟨w5.heap.size, 0, none⟩, 0, 0⟩ ([] : List Int) := Own.empty w5
      have ht6 : Sli 1 eI _ ⟨s.a, i, s.c⟩ (l.take i) := hs6.take (by omega)
      obtain ⟨s24, w7, e7, ho7, hf7⟩ := appendSli E24 ho6 ht6 eI_len eI_one (by simp; omega) (by simp [maxLen]; omega) hx6.size 24
      have hx7 : Ext w5 w7 := Own.newer ho6 hx6 hf7 (Nat.le_refl _)
      refine ⟨s24, w7, e7, ?_⟩
      have hd7 : Sli 1 eI w7 ⟨subA s.a s.c (i + 1) 1, s.n - (i + 1), s.c - (i + 1)⟩ (l.drop (i + 1)) := (((hs.ext hx).ext hx5).ext hx7).drop eI_len (by omega)
      obtain ⟨s29, w8, e8, ho8, hf8⟩ := appendSli E24 ho7 hd7 eI_len eI_one (by simp; omega) (by simp [maxLen]; omega) hx7.size 24
      have hx8 : Ext w5 w8 := Own.newer ho7 hx7 hf8 (Nat.le_refl _)
      refine ⟨s29, w8, e8, ?_⟩
      have hl8 : ([] ++ l.take i) ++ l.drop (i + 1) = l.eraseIdx i := by rw [List.eraseIdx_eq_take_drop_succ]; rfl
      rw [hl8] at ho8
      have hx08 : Ext w w8 := (hx.trans hx5).trans hx8
      refine (ih (l.eraseIdx i) w8 s29 (by omega) (hrest i hi) ho8.sli).mono fun e w9 ⟨s31, he, hL31, hx9⟩ => ⟨s31, he, ?_⟩
      have hn31 := hL31.len
      have hpl := permsN_le n (l.eraseIdx i) (by omega) (hrest i hi)
      have hp6 : 6 ^ n ≤ 6 ^ 5 := Nat.pow_le_pow_right (by omega) (by omega)
      have hb3 : ∀ a, s3.a = some a → a.block < w3.heap.size := fun a ha => by obtain ⟨ss, ho, _⟩ := hLL.ex; exact (ho.base ha).2
      have z5 := hx5.size
      have z8 := hx8.size
      have z9 := hx9.size
      have z3 := hx.size
      have hprev : ((List.range i).flatMap fun i => (permsN n (l.eraseIdx i)).map fun p => l.getD i 0 :: p).length ≤ 6 * 6 ^ 5 := by
        refine Nat.le_trans (flatMap_le (K := 6 ^ 5) fun j hj => ?_) ?_
        · rw [List.length_map]
          have hjl : j < l.length := by simp at hj; omega
          exact Nat.le_trans (permsN_le n _ (by omega) (hrest j hjl)) hp6
        · rw [List.length_range]; exact Nat.mul_le_mul_right _ (by omega)
      refine Join.dir (rangeSI (fun j (s' : Sl) w' => LL w.heap.size w' s' (((List.range i).flatMap fun i => (permsN n (l.eraseIdx i)).map fun p => l.getD i 0 :: p) ++ ((permsN n (l.eraseIdx i)).take j).map fun p => l.getD i 0 :: p) ∧
          (∀ a, s'.a = some a → a.block < w8.heap.size ∨ w9.heap.size ≤ a.block) ∧ Fr (fun k => k < w8.heap.size ∨ w9.heap.size ≤ k) w9 w' ∧ Ext w w') (by rw [hn31]; exact Nat.le_trans (Nat.le_trans hpl hp6) (by decide))
        ⟨by simpa using ((hLL.ext hx5).ext hx8).ext hx9, fun a ha => .inl (by have := hb3 a ha; omega), Fr.refl _ _, hx08.trans hx9⟩ ?_ ?_)
      · rintro j hj s5 w11 ⟨hL5, hb5, hf11, hx11⟩ K2 hK2
        have hj : j < (permsN n (l.eraseIdx i)).length := by omega
        have hL31' := hL31.fr hf11 fun k h1 h2 h3 => by omega
        obtain ⟨p, x, hp, h1, h2, hr, hxl⟩ := hL31'.at hj
        have hplen : ((permsN n (l.eraseIdx i))[j]).length = n := permsN_len n _ (hrest i hi) _ (List.getElem_mem hj)
        refine ⟨p, hp, h1, h2, x, hr, ⟨some ⟨w11.heap.size, 0, none⟩, 1, 1⟩, _, buildOne_run E24 (v := .int .i64 l[i]) (vs := eI l[i]) rfl rfl (by omega) w11, ?_⟩
        have hx13 := Ext.alloc w11 (.cells (eI l[i]).toArray 3)
        have ho13 : Own 3 1 eI w11.heap.size (w11.alloc (.cells (eI l[i]).toArray 3)) ⟨some ⟨w11.heap.size, 0, none⟩, 1, 1⟩ [l[i]] := Own.one w11 l[i] rfl
        obtain ⟨s41, w14, e14, ho14, hf14⟩ := appendSli E24 ho13 (hxl.ext hx13) eI_len eI_one (by simp; omega) (by simp [maxLen]; omega) hx13.size 24
        have hx14 : Ext w11 w14 := Own.newer ho13 hx13 hf14 (Nat.le_refl _)
        refine ⟨s41, w14, e14, ⟨some ⟨w14.heap.size, 0, none⟩, 1, 1⟩, _, buildOne_run E70 (v := .slice s41.a s41.n s41.c) (vs := eS s41) rfl rfl (by omega) w14, ?_⟩
        have hx15 := Ext.alloc w14 (.cells (eS s41).toArray 24)
        obtain ⟨ss, hos, hsl, hsg⟩ := hL5.ex
        have hos15 := (hos.ext hx14).ext hx15
        have hlen : ss.length ≤ 100000 := by
          rw [hsl, List.length_append, List.length_map, List.length_take]
          omega
        have h2 : Sli 1 eS (w14.alloc (.cells (eS s41).toArray 24)) ⟨some ⟨w14.heap.size, 0, none⟩, 1, 1⟩ [s41] := (Own.one (T := 24) (enc := eS) w14 s41 rfl).sli
        obtain ⟨s43, w16, e16, ho16, hf16⟩ := appendSli E70 hos15 h2 eS_len eS_one (by simp; omega) (by simp [maxLen]; omega) (by have := hx11.size; have := hx14.size; have := hx15.size; omega) 70
        have hwh := append_where E70 hos15 h2 eS_len eS_one (by simp; omega) (by simp [maxLen]; omega) 70 e16
        refine ⟨s43, w16, e16, hK2 _ _ ⟨⟨ss ++ [s41], ho16, ?_, ?_⟩, ?_, ?_, ?_⟩⟩
        · rw [List.length_append, hsl, List.take_succ_eq_append_getElem hj]; simp; omega
        · have z11 := hx11.size
          have z14 := hx14.size
          have z15 := hx15.size
          have z16 := hf16.size
          have e1 : l.getD i 0 = l[i] := by simp [List.getD, hi]
          rw [List.take_succ_eq_append_getElem hj, List.map_append, ← List.append_assoc, List.zip_append hsl]
          intro q hq
          rcases List.mem_append.1 hq with hq | hq
          · obtain ⟨g1, g2⟩ := hsg q hq
            have hne : ∀ a, q.1.a = some a → ¬ Bl s5 a.block := fun a ha ⟨b, hb, hbb⟩ => (g2 a ha).2.2 b hb hbb.symm
            refine ⟨((g1.ext hx14).ext hx15).fr hf16 hne, fun a ha => ?_⟩
            obtain ⟨k1, k2, k3⟩ := g2 a ha
            refine ⟨k1, by omega, fun b hb => ?_⟩
            rcases hwh with hw | hw
            · rw [hw] at hb; exact k3 b hb
            · have := hw b hb; omega
          · simp at hq
            subst hq
            have g41 : ∀ a, s41.a = some a → w11.heap.size ≤ a.block ∧ a.block < w14.heap.size := fun a ha => ho14.base ha
            have hacc : ∀ b, s5.a = some b → b.block < w11.heap.size := fun b hb => (hos.base hb).2
            refine ⟨?_, fun a ha => ?_⟩
            · have := (ho14.sli.ext hx15).fr hf16 fun a ha ⟨b, hb, hbb⟩ => by have := g41 a ha; have := hacc b hb; omega
              simpa [hi] using this
            · have ga := g41 a ha
              refine ⟨by omega, by omega, fun b hb => ?_⟩
              rcases hwh with hw | hw
              · rw [hw] at hb; have := hacc b hb; omega
              · have := hw b hb; omega
        · intro a ha
          rcases hwh with hw | hw
          · rw [hw] at ha; exact hb5 a ha
          · have := hw a ha; have := hx14.size; have := hx15.size; have := hf11.size; exact .inr (by omega)
        · exact ((hf11.ext hx14).ext hx15).trans hf16 fun k hk ⟨a, ha, hb⟩ => by subst hb; exact hb5 a ha
        · exact ((hx11.trans hx14).trans hx15).newer hf16 fun b ⟨a, ha, hb⟩ => by have := (hos.base ha).1; omega
      · rintro s5 w11 ⟨hL5, hb5, hf11, hx11⟩
        rw [hn31, List.take_length] at hL5
        refine hK _ _ ⟨?_, hx11⟩
        rw [List.range_succ, List.flatMap_append]
        simpa using hL5
    · rintro s3 w3 ⟨hLL, hx⟩
      rw [hn] at hLL
      exact ⟨s3, rfl, by unfold permsN; exact hLL, hx⟩
end Go.Proofs.Ytnbkihkdfhjlmaa
