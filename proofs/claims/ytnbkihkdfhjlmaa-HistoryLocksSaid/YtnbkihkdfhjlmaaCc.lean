/-
  Contract of the sort of few ints.
-/
import Derived.Test.YtnbkihkdfhjlmaaCb
import Derived.Test.YtnbkihkdfhjlmaaVr
import Derived.Shelf.Small.Bits
namespace Go.Proofs.Ytnbkihkdfhjlmaa
open Go Go.VC

def ren129 : Go.Shelf.Ren := ⟨fun | 129 => 104 | n => n, fun | 53 => 147 | 3 => 3 | 4 => 4 | 46 => 35 | 5 => 5 | 9 => 9 | n => n, fun | n => n⟩
theorem lays129 : Go.Proofs.Lays.n129 Try.prog ren129 where
  mixed := by kernel_rfl
  f129 := Try.func104.trans (congrArg some (by kernel_rfl))
  t3 := Try.underlying3
  a3 := Try.isAgg3
  z3 := Try.sizeOf3
  v3 := Try.zeroValue3
  t4 := Try.underlying4
  a4 := Try.isAgg4
  z4 := Try.sizeOf4
  v4 := Try.zeroValue4
  t5 := Try.underlying5
  a5 := Try.isAgg5
  z5 := Try.sizeOf5
  v5 := Try.zeroValue5
  t9 := Try.underlying9
  a9 := Try.isAgg9
  z9 := Try.sizeOf9
  v9 := Try.zeroValue9
  t46 := Try.underlying35
  a46 := Try.isAgg35
  z46 := Try.sizeOf35
  v46 := Try.zeroValue35
  t53 := Try.underlying147
  a53 := Try.isAgg147
  z53 := Try.sizeOf147
  v53 := Try.zeroValue147
theorem c90 (x : Int) (w : World) (h0 : 0 ≤ x) (h1 : x ≤ 18446744073709551615) : Calls Try.prog 90 [.int .u64 x].toArray w fun e w' => (∃ n : Int, e = .returned (.int .i64 n)) ∧ w' = w := by
  refine (call90 x (R := fun v w' => (∃ n : Int, v = .int .i64 n) ∧ w' = w) ?_).mono fun e w' ⟨v, he, ⟨n, hv⟩, hx⟩ => ⟨⟨n, by rw [he, hv]⟩, hx⟩
  exact (Go.Proofs.Any.bits_Len64 lays129 x w h0 h1).mono fun e w' ⟨he, hw⟩ => ⟨_, he, ⟨_, rfl⟩, hw⟩

theorem c111 (x y : Int) (w : World) : Calls Try.prog 111 [.int .i64 x, .int .i64 y].toArray w fun e w' => e = .returned (.bool (decide (x < y))) ∧ w' = w := by
  have c83 : ∀ (x : Int) (w : World), Calls Try.prog 83 [.int .i64 x].toArray w fun e w' => e = .returned (.bool false) ∧ w' = w := fun x w => by
    refine (call83 x (R := fun v w' => v = .bool false ∧ w' = w) ?_).mono fun e w' ⟨v, he, hv, hx⟩ => ⟨by rw [he, hv], hx⟩
    exact ⟨by simp, rfl⟩
  refine (call111 x y (R := fun v w' => v = .bool (decide (x < y)) ∧ w' = w) ?_).mono fun e w' ⟨v, he, hv, hx⟩ => ⟨by rw [he, hv], hx⟩
  refine Join.dir ((c83 x w).mono fun e w1 ⟨he, hx⟩ => ⟨_, he, ?_⟩)
  subst hx
  exact ⟨rfl, rfl⟩

/-- The places that are written: those of the slice alone. -/
abbrev Bl (s : Sl) (b : Nat) : Prop := ∃ a, s.a = some a ∧ a.block = b
theorem c105 {B : Nat} {w : World} {s : Sl} {l : List Int} (hs : Own 3 1 eI B w s l) (hl : l.length ≤ big) :
    Calls Try.prog 105 [.slice s.a s.n s.c, .int .i64 0, .int .i64 ((s.n : Nat) : Int)].toArray w fun e w' => e = .returned (.tuple [].toArray) ∧ ∃ l' : List Int, l'.Perm l ∧ l'.Pairwise (· ≤ ·) ∧ Own 3 1 eI B w' s l' ∧ Fr (Bl s) w w' := by
  refine (call105 s 0 ((s.n : Nat) : Int) (R := fun v w' => v = .tuple [].toArray ∧ ∃ l' : List Int, l'.Perm l ∧ l'.Pairwise (· ≤ ·) ∧ Own 3 1 eI B w' s l' ∧ Fr (Bl s) w w') ?_).mono fun e w' ⟨v, he, hv, hx⟩ => ⟨by rw [he, hv], hx⟩
  have hsn : s.n = l.length := hs.1
  have hbig : l.length ≤ 9223372036854775807 := hl
  refine Join.dir (LoopV.intro (fun n (x : Int) w' => ∃ i : Nat, x = i ∧ 1 ≤ i ∧ i ≤ l.length + 1 ∧ n = l.length + 1 - i ∧ ∃ l' : List Int, l'.Perm l ∧ (l'.take i).Pairwise (· ≤ ·) ∧ Own 3 1 eI B w' s l' ∧ Fr (Bl s) w w') l.length
    ⟨1, by rw [wrap64 (by omega) (by omega)]; rfl, by omega, by omega, by omega, l, .refl _, ?_, hs, Fr.refl _ w⟩ ?_)
  · cases l with
    | nil => simp
    | cons x r => simp
  rintro n x w2 ⟨i, rfl, h1, hi, rfl, l', hp, hso, hown, hfr⟩
  have hpl := hp.length_eq
  refine cond_intro (fun h => ?_) (fun h => ?_)
  · have hi : i < l'.length := by have : (i : Int) < (s.n : Int) := by simpa using h
                                  omega
    refine Join.dir (Join.dir (LoopV.intro (fun n (y : Int) w' => ∃ (p q r : List Int) (x : Int), y = (p.length : Int) ∧ n = p.length ∧ p.length + q.length = i ∧ (p ++ x :: q ++ r).Perm l ∧ (p ++ q).Pairwise (· ≤ ·) ∧ (∀ z ∈ q, x ≤ z) ∧ Own 3 1 eI B w' s (p ++ x :: q ++ r) ∧ Fr (Bl s) w w') i
      ⟨l'.take i, [], l'.drop (i + 1), l'[i], by simp; omega, by simp; omega, by simp; omega, ?_, by simpa using hso, by simp, ?_, hfr⟩ ?_))
    · have : l'.take i ++ [l'[i]] ++ l'.drop (i + 1) = l' := by rw [← List.take_succ_eq_append_getElem hi, List.take_append_drop]
      rw [show l'.take i ++ l'[i] :: [] ++ l'.drop (i + 1) = l' from this]; exact hp
    · have : l'.take i ++ [l'[i]] ++ l'.drop (i + 1) = l' := by rw [← List.take_succ_eq_append_getElem hi, List.take_append_drop]
      rw [show l'.take i ++ l'[i] :: [] ++ l'.drop (i + 1) = l' from this]; exact hown
    rintro m y w5 ⟨p, q, r, x, rfl, rfl, hpq, hperm, hsort, hxq, ho5, hf5⟩
    have hlen : p.length + (q.length + 1) + r.length = l.length := by have := hperm.length_eq; simp at this; omega
    -- when the round is over
    have hend : ∀ w6, Ext w5 w6 → (∀ z ∈ p, z ≤ x) → ∃ m, m < l.length + 1 - i ∧ ∃ j : Nat, IntKind.wrap .i64 ((i : Int) + 1) = j ∧ 1 ≤ j ∧ j ≤ l.length + 1 ∧ m = l.length + 1 - j ∧ ∃ l' : List Int, l'.Perm l ∧ (l'.take j).Pairwise (· ≤ ·) ∧ Own 3 1 eI B w6 s l' ∧ Fr (Bl s) w w6 := by
      intro w6 hx6 hpx
      refine ⟨l.length + 1 - (i + 1), by omega, i + 1, by rw [wrap64 (by omega) (by omega)]; rfl, by omega, by omega, rfl, _, hperm, ?_, ho5.ext hx6, hf5.ext hx6⟩
      rw [List.take_left' (by simp; omega)]
      rw [List.pairwise_append] at hsort ⊢
      refine ⟨hsort.1, ?_, ?_⟩
      · rw [List.pairwise_cons]; exact ⟨hxq, hsort.2.1⟩
      · intro a ha b hb
        rcases List.mem_cons.1 hb with rfl | hb
        · exact hpx a ha
        · exact hsort.2.2 a ha b hb
    refine Join.dir (Let.intro fun w11 e11 => ?_)
    have hx11 : Ext w5 w11 := by rw [e11]; exact Ext.drew _
    refine cond_intro (fun h => ?_) (fun h => ?_)
    · have hp0 : 0 < p.length := by have : (0 : Int) < (p.length : Int) := by simpa using h
                                    omega
      obtain ⟨p', y, rfl⟩ : ∃ p' y, p = p' ++ [y] := ⟨p.dropLast, p.getLast (by rintro rfl; simp at hp0), (List.dropLast_concat_getLast _).symm⟩
      have hwr : IntKind.wrap .i64 (((p' ++ [y]).length : Int) - 1) = ((p'.length : Nat) : Int) := by simp; rw [wrap64 (by omega) (by simp at hpq; omega)]
      have hget1 : (p' ++ [y] ++ x :: q ++ r)[(p' ++ [y]).length]? = some x := by simp
      have hget2 : (p' ++ [y] ++ x :: q ++ r)[p'.length]? = some y := by simp
      obtain ⟨pa, hpa, ha1, ha2, hra⟩ := Ints.at (ho5.ext hx11).sli (i := (p' ++ [y]).length) (by simp)
      obtain ⟨pb, hpb, hb1, hb2, hrb⟩ := Ints.at (ho5.ext hx11).sli (i := p'.length) (by simp)
      rw [(List.getElem?_eq_some_iff.1 hget1).2] at hra
      rw [(List.getElem?_eq_some_iff.1 hget2).2] at hrb
      rw [hwr]
      refine ⟨pa, hpa, ha1, ha2, x, hra, pb, hpb, hb1, hb2, y, hrb, (c111 x y w11).mono fun e w12 ⟨he, hw⟩ => ⟨_, he, ?_⟩⟩
      subst hw
      refine cond_intro (fun hxy => ?_) (fun hxy => ?_)
      · have hxy : x < y := by simpa using hxy
        refine Join.dir (Let.intro fun w8 e8 => ?_)
        have hx8 : Ext w5 w8 := by rw [e8]; exact hx11.trans (Ext.drew _)
        have ho8 := ho5.ext hx8
        obtain ⟨pc, hpc, hc1, hc2, hrc⟩ := Ints.at ho8.sli (i := p'.length) (by simp)
        obtain ⟨pd, hpd, hd1, hd2, hrd⟩ := Ints.at ho8.sli (i := (p' ++ [y]).length) (by simp)
        rw [(List.getElem?_eq_some_iff.1 hget2).2] at hrc
        rw [(List.getElem?_eq_some_iff.1 hget1).2] at hrd
        obtain ⟨pe, hpe, he1, he2, hse, hoe, hfe⟩ := ho8.store (i := (p' ++ [y]).length) (by simp) y
        refine ⟨pc, hpc, hc1, hc2, y, hrc, pd, hpd, hd1, hd2, x, hrd, pe, hpe, he1, he2, hse, ?_⟩
        refine Let.intro fun w9 e9 => ?_
        rw [← e9] at hoe hfe
        obtain ⟨pf, hpf, hf1, hf2, hsf, hof, hff⟩ := hoe.store (i := p'.length) (by simp) x
        refine ⟨pf, hpf, hf1, hf2, hsf, Let.intro fun w10 e10 => ?_⟩
        rw [← e10] at hof hff
        have hset : ((p' ++ [y] ++ x :: q ++ r).set (p' ++ [y]).length y).set p'.length x = p' ++ x :: (y :: q) ++ r := by
          simp
        rw [hset] at hof
        refine ⟨p'.length, by simp, p', y :: q, r, x, by simp, rfl, by simp at hpq ⊢; omega, ?_, by simpa using hsort, ?_, hof, ?_⟩
        · refine List.Perm.trans ?_ hperm
          simp only [List.append_assoc, List.cons_append, List.nil_append]
          exact List.Perm.append_left _ (List.Perm.swap ..)
        · intro z hz
          rcases List.mem_cons.1 hz with rfl | hz
          · omega
          · exact hxq z hz
        · exact (hf5.ext hx8).trans (hfe.trans hff fun _ _ h => h) fun _ _ h => h
      · have hxy : y ≤ x := by simp at hxy; omega
        refine hend _ hx11 fun z hz => ?_
        rcases List.mem_append.1 hz with hz | hz
        · have := (List.pairwise_append.1 (List.pairwise_append.1 hsort).1).2.2 z hz y (by simp); omega
        · simp at hz; omega
    · have hp0 : p = [] := by
        have : ¬ (0 : Int) < (p.length : Int) := by simpa using h
        exact List.eq_nil_of_length_eq_zero (by omega)
      subst hp0
      exact hend _ hx11 (by simp)
  · have hi : l'.length ≤ i := by have : ¬ (i : Int) < (s.n : Int) := by simpa using h
                                  omega
    rw [List.take_of_length_le hi] at hso
    exact ⟨rfl, l', hp, hso, hown, hfr⟩
/-- slices.Sort of few ints -/
theorem c67 {B : Nat} {w : World} {s : Sl} {l : List Int} (hs : Own 3 1 eI B w s l) (hl : l.length ≤ 12) :
    Calls Try.prog 67 [.slice s.a s.n s.c].toArray w fun e w' => e = .returned (.tuple [].toArray) ∧ ∃ l' : List Int, l'.Perm l ∧ l'.Pairwise (· ≤ ·) ∧ Own 3 1 eI B w' s l' ∧ Fr (Bl s) w w' := by
  refine (call67 s (R := fun v w' => v = .tuple [].toArray ∧ ∃ l' : List Int, l'.Perm l ∧ l'.Pairwise (· ≤ ·) ∧ Own 3 1 eI B w' s l' ∧ Fr (Bl s) w w') ?_).mono fun e w' ⟨v, he, hv, hx⟩ => ⟨by rw [he, hv], hx⟩
  have hsn : s.n = l.length := hs.1
  have e : IntKind.wrap .u64 ((s.n : Nat) : Int) = ((s.n : Nat) : Int) := by
    rw [IntKind.wrap_u64]; omega
  unfold S67
  rw [e]
  refine (c90 _ w (by omega) (by omega)).mono fun e w1 ⟨⟨n, he⟩, hw⟩ => ⟨n, he, ?_⟩
  subst hw
  have c91 : Calls Try.prog 91 [.slice s.a s.n s.c, .int .i64 0, .int .i64 ((s.n : Nat) : Int), .int .i64 n].toArray w1 fun e w' => e = .returned (.tuple [].toArray) ∧ ∃ l' : List Int, l'.Perm l ∧ l'.Pairwise (· ≤ ·) ∧ Own 3 1 eI B w' s l' ∧ Fr (Bl s) w1 w' := by
    refine (call91 s 0 ((s.n : Nat) : Int) n (R := fun v w' => v = .tuple [].toArray ∧ ∃ l' : List Int, l'.Perm l ∧ l'.Pairwise (· ≤ ·) ∧ Own 3 1 eI B w' s l' ∧ Fr (Bl s) w1 w') ?_).mono fun e w' ⟨v, he, hv, hx⟩ => ⟨by rw [he, hv], hx⟩
    refine Join.dir (LoopV.intro (fun _ (a b : Int) _ _ _ w' => a = 0 ∧ b = ((s.n : Nat) : Int) ∧ w' = w1) 0 ⟨rfl, rfl, rfl⟩ ?_)
    rintro _ a b _ _ _ w2 ⟨rfl, rfl, rfl⟩
    refine Join.dir (cond_intro (fun _ => ?_) (fun h => ?_))
    · exact (c105 hs (by have : l.length ≤ 9223372036854775807 := by omega
                         exact this)).mono fun e w' ⟨he, h⟩ => ⟨he, rfl, h⟩
    · exfalso
      rw [wrap64 (by omega) (by omega)] at h
      simp at h; omega
  exact c91.mono fun e w2 ⟨he, h⟩ => ⟨he, rfl, h⟩
end Go.Proofs.Ytnbkihkdfhjlmaa
