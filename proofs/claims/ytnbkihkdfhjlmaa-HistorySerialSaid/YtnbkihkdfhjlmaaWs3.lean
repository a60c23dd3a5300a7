/-
  Texts Cc, Cd, Ce, Sb, Cf, Cg, Vs, Ch of this proof, joined.
-/
import Derived.Test.YtnbkihkdfhjlmaaWs2
import Derived.Shelf.Small.Bits
import Derived.Test.YtnbkihkdfhjlmaaProg
import Derived.KernelRfl
import Derived.ArgAppend
/-
  Contract of the sort of few ints.
-/
namespace Go.Proofs.Ytnbkihkdfhjlmaa
open Go Go.VC

def ren129 : Go.Shelf.Ren := ⟨fun | 129 => 104 | n => n, fun | 53 => 147 | 3 => 3 | 4 => 4 | 46 => 35 | 5 => 5 | 9 => 9 | n => n, fun | n => n⟩
theorem lays129 : Go.Proofs.Lays.n129 Try.prog ren129 where
  mixed := by kernel_rfl
  f129 := Try.func104.trans (congrArg some (by kernel_rfl))
  t3 := Try.underlying3
  a3 := Try.isAgg3
  z3 := Try.sizeOf3
  v3 := Try.zeroValue3
  t4 := Try.underlying4
  a4 := Try.isAgg4
  z4 := Try.sizeOf4
  v4 := Try.zeroValue4
  t5 := Try.underlying5
  a5 := Try.isAgg5
  z5 := Try.sizeOf5
  v5 := Try.zeroValue5
  t9 := Try.underlying9
  a9 := Try.isAgg9
  z9 := Try.sizeOf9
  v9 := Try.zeroValue9
  t46 := Try.underlying35
  a46 := Try.isAgg35
  z46 := Try.sizeOf35
  v46 := Try.zeroValue35
  t53 := Try.underlying147
  a53 := Try.isAgg147
  z53 := Try.sizeOf147
  v53 := Try.zeroValue147
theorem c90 (x : Int) (w : World) (h0 : 0 ≤ x) (h1 : x ≤ 18446744073709551615) : Calls Try.prog 90 [.int .u64 x].toArray w fun e w' => (∃ n : Int, e = .returned (.int .i64 n)) ∧ w' = w := by
  refine (call90 x (R := fun v w' => (∃ n : Int, v = .int .i64 n) ∧ w' = w) ?_).mono fun e w' ⟨v, he, ⟨n, hv⟩, hx⟩ => ⟨⟨n, by rw [he, hv]⟩, hx⟩
  exact (Go.Proofs.Any.bits_Len64 lays129 x w h0 h1).mono fun e w' ⟨he, hw⟩ => ⟨_, he, ⟨_, rfl⟩, hw⟩

theorem c111 (x y : Int) (w : World) : Calls Try.prog 111 [.int .i64 x, .int .i64 y].toArray w fun e w' => e = .returned (.bool (decide (x < y))) ∧ w' = w := by
  have c83 : ∀ (x : Int) (w : World), Calls Try.prog 83 [.int .i64 x].toArray w fun e w' => e = .returned (.bool false) ∧ w' = w := fun x w => by
    refine (call83 x (R := fun v w' => v = .bool false ∧ w' = w) ?_).mono fun e w' ⟨v, he, hv, hx⟩ => ⟨by rw [he, hv], hx⟩
    exact ⟨by simp, rfl⟩
  refine (call111 x y (R := fun v w' => v = .bool (decide (x < y)) ∧ w' = w) ?_).mono fun e w' ⟨v, he, hv, hx⟩ => ⟨by rw [he, hv], hx⟩
  refine Join.dir ((c83 x w).mono fun e w1 ⟨he, hx⟩ => ⟨_, he, ?_⟩)
  subst hx
  exact ⟨rfl, rfl⟩

/-- The places that are written: those of the slice alone. -/
abbrev Bl (s : Sl) (b : Nat) : Prop := ∃ a, s.a = some a ∧ a.block = b
theorem c105 {B : Nat} {w : World} {s : Sl} {l : List Int} (hs : Own 3 1 eI B w s l) (hl : l.length ≤ big) :
    Calls Try.prog 105 [.slice s.a s.n s.c, .int .i64 0, .int .i64 ((s.n : Nat) : Int)].toArray w fun e w' => e = .returned (.tuple [].toArray) ∧ ∃ l' : List Int, l'.Perm l ∧ l'.Pairwise (· ≤ ·) ∧ Own 3 1 eI B w' s l' ∧ Fr (Bl s) w w' := by
  refine (call105 s 0 ((s.n : Nat) : Int) (R := fun v w' => v = .tuple [].toArray ∧ ∃ l' : List Int, l'.Perm l ∧ l'.Pairwise (· ≤ ·) ∧ Own 3 1 eI B w' s l' ∧ Fr (Bl s) w w') ?_).mono fun e w' ⟨v, he, hv, hx⟩ => ⟨by rw [he, hv], hx⟩
  have hsn : s.n = l.length := hs.1
  have hbig : l.length ≤ 9223372036854775807 := hl
  refine Join.dir (LoopV.intro (fun n (x : Int) w' => ∃ i : Nat, x = i ∧ 1 ≤ i ∧ i ≤ l.length + 1 ∧ n = l.length + 1 - i ∧ ∃ l' : List Int, l'.Perm l ∧ (l'.take i).Pairwise (· ≤ ·) ∧ Own 3 1 eI B w' s l' ∧ Fr (Bl s) w w') l.length
    ⟨1, by rw [wrap64 (by omega) (by omega)]; rfl, by omega, by omega, by omega, l, .refl _, ?_, hs, Fr.refl _ w⟩ ?_)
  · cases l with
    | nil => simp
    | cons x r => simp
  rintro n x w2 ⟨i, rfl, h1, hi, rfl, l', hp, hso, hown, hfr⟩
  have hpl := hp.length_eq
  refine cond_intro (fun h => ?_) (fun h => ?_)
  · have hi : i < l'.length := by have : (i : Int) < (s.n : Int) := by simpa using h
                                  omega
    refine Join.dir (Join.dir (LoopV.intro (fun n (y : Int) w' => ∃ (p q r : List Int) (x : Int), y = (p.length : Int) ∧ n = p.length ∧ p.length + q.length = i ∧ (p ++ x :: q ++ r).Perm l ∧ (p ++ q).Pairwise (· ≤ ·) ∧ (∀ z ∈ q, x ≤ z) ∧ Own 3 1 eI B w' s (p ++ x :: q ++ r) ∧ Fr (Bl s) w w') i
      ⟨l'.take i, [], l'.drop (i + 1), l'[i], by simp; omega, by simp; omega, by simp; omega, ?_, by simpa using hso, by simp, ?_, hfr⟩ ?_))
    · have : l'.take i ++ [l'[i]] ++ l'.drop (i + 1) = l' := by rw [← List.take_succ_eq_append_getElem hi, List.take_append_drop]
      rw [show l'.take i ++ l'[i] :: [] ++ l'.drop (i + 1) = l' from this]; exact hp
    · have : l'.take i ++ [l'[i]] ++ l'.drop (i + 1) = l' := by rw [← List.take_succ_eq_append_getElem hi, List.take_append_drop]
      rw [show l'.take i ++ l'[i] :: [] ++ l'.drop (i + 1) = l' from this]; exact hown
    rintro m y w5 ⟨p, q, r, x, rfl, rfl, hpq, hperm, hsort, hxq, ho5, hf5⟩
    have hlen : p.length + (q.length + 1) + r.length = l.length := by have := hperm.length_eq; simp at this; omega
    -- when the round is over
    have hend : ∀ w6, Ext w5 w6 → (∀ z ∈ p, z ≤ x) → ∃ m, m < l.length + 1 - i ∧ ∃ j : Nat, IntKind.wrap .i64 ((i : Int) + 1) = j ∧ 1 ≤ j ∧ j ≤ l.length + 1 ∧ m = l.length + 1 - j ∧ ∃ l' : List Int, l'.Perm l ∧ (l'.take j).Pairwise (· ≤ ·) ∧ Own 3 1 eI B w6 s l' ∧ Fr (Bl s) w w6 := by
      intro w6 hx6 hpx
      refine ⟨l.length + 1 - (i + 1), by omega, i + 1, by rw [wrap64 (by omega) (by omega)]; rfl, by omega, by omega, rfl, _, hperm, ?_, ho5.ext hx6, hf5.ext hx6⟩
      rw [List.take_left' (by simp; omega)]
      rw [List.pairwise_append] at hsort ⊢
      refine ⟨hsort.1, ?_, ?_⟩
      · rw [List.pairwise_cons]; exact ⟨hxq, hsort.2.1⟩
      · intro a ha b hb
        rcases List.mem_cons.1 hb with rfl | hb
        · exact hpx a ha
        · exact hsort.2.2 a ha b hb
    refine Join.dir (Let.intro fun w11 e11 => ?_)
    have hx11 : Ext w5 w11 := by rw [e11]; exact Ext.drew _
    refine cond_intro (fun h => ?_) (fun h => ?_)
    · have hp0 : 0 < p.length := by have : (0 : Int) < (p.length : Int) := by simpa using h
                                    omega
      obtain ⟨p', y, rfl⟩ : ∃ p' y, p = p' ++ [y] := ⟨p.dropLast, p.getLast (by rintro rfl; simp at hp0), (List.dropLast_concat_getLast _).symm⟩
      have hwr : IntKind.wrap .i64 (((p' ++ [y]).length : Int) - 1) = ((p'.length : Nat) : Int) := by simp; rw [wrap64 (by omega) (by simp at hpq; omega)]
      have hget1 : (p' ++ [y] ++ x :: q ++ r)[(p' ++ [y]).length]? = some x := by simp
      have hget2 : (p' ++ [y] ++ x :: q ++ r)[p'.length]? = some y := by simp
      obtain ⟨pa, hpa, ha1, ha2, hra⟩ := Ints.at (ho5.ext hx11).sli (i := (p' ++ [y]).length) (by simp)
      obtain ⟨pb, hpb, hb1, hb2, hrb⟩ := Ints.at (ho5.ext hx11).sli (i := p'.length) (by simp)
      rw [(List.getElem?_eq_some_iff.1 hget1).2] at hra
      rw [(List.getElem?_eq_some_iff.1 hget2).2] at hrb
      rw [hwr]
      refine ⟨pa, hpa, ha1, ha2, x, hra, pb, hpb, hb1, hb2, y, hrb, (c111 x y w11).mono fun e w12 ⟨he, hw⟩ => ⟨_, he, ?_⟩⟩
      subst hw
      refine cond_intro (fun hxy => ?_) (fun hxy => ?_)
      · have hxy : x < y := by simpa using hxy
        refine Join.dir (Let.intro fun w8 e8 => ?_)
        have hx8 : Ext w5 w8 := by rw [e8]; exact hx11.trans (Ext.drew _)
        have ho8 := ho5.ext hx8
        obtain ⟨pc, hpc, hc1, hc2, hrc⟩ := Ints.at ho8.sli (i := p'.length) (by simp)
        obtain ⟨pd, hpd, hd1, hd2, hrd⟩ := Ints.at ho8.sli (i := (p' ++ [y]).length) (by simp)
        rw [(List.getElem?_eq_some_iff.1 hget2).2] at hrc
        rw [(List.getElem?_eq_some_iff.1 hget1).2] at hrd
        obtain ⟨pe, hpe, he1, he2, hse, hoe, hfe⟩ := ho8.store (i := (p' ++ [y]).length) (by simp) y
        refine ⟨pc, hpc, hc1, hc2, y, hrc, pd, hpd, hd1, hd2, x, hrd, pe, hpe, he1, he2, hse, ?_⟩
        refine Let.intro fun w9 e9 => ?_
        rw [← e9] at hoe hfe
        obtain ⟨pf, hpf, hf1, hf2, hsf, hof, hff⟩ := hoe.store (i := p'.length) (by simp) x
        refine ⟨pf, hpf, hf1, hf2, hsf, Let.intro fun w10 e10 => ?_⟩
        rw [← e10] at hof hff
        have hset : ((p' ++ [y] ++ x :: q ++ r).set (p' ++ [y]).length y).set p'.length x = p' ++ x :: (y :: q) ++ r := by
          simp
        rw [hset] at hof
        refine ⟨p'.length, by simp, p', y :: q, r, x, by simp, rfl, by simp at hpq ⊢; omega, ?_, by simpa using hsort, ?_, hof, ?_⟩
        · refine List.Perm.trans ?_ hperm
          simp only [List.append_assoc, List.cons_append, List.nil_append]
          exact List.Perm.append_left _ (List.Perm.swap ..)
        · intro z hz
          rcases List.mem_cons.1 hz with rfl | hz
          · omega
          · exact hxq z hz
        · exact (hf5.ext hx8).trans (hfe.trans hff fun _ _ h => h) fun _ _ h => h
      · have hxy : y ≤ x := by simp at hxy; omega
        refine hend _ hx11 fun z hz => ?_
        rcases List.mem_append.1 hz with hz | hz
        · have := (List.pairwise_append.1 (List.pairwise_append.1 hsort).1).2.2 z hz y (by simp); omega
        · simp at hz; omega
    · have hp0 : p = [] := by
        have : ¬ (0 : Int) < (p.length : Int) := by simpa using h
        exact List.eq_nil_of_length_eq_zero (by omega)
      subst hp0
      exact hend _ hx11 (by simp)
  · have hi : l'.length ≤ i := by have : ¬ (i : Int) < (s.n : Int) := by simpa using h
                                  omega
    rw [List.take_of_length_le hi] at hso
    exact ⟨rfl, l', hp, hso, hown, hfr⟩
/-- slices.Sort of few ints -/
theorem c67 {B : Nat} {w : World} {s : Sl} {l : List Int} (hs : Own 3 1 eI B w s l) (hl : l.length ≤ 12) :
    Calls Try.prog 67 [.slice s.a s.n s.c].toArray w fun e w' => e = .returned (.tuple [].toArray) ∧ ∃ l' : List Int, l'.Perm l ∧ l'.Pairwise (· ≤ ·) ∧ Own 3 1 eI B w' s l' ∧ Fr (Bl s) w w' := by
  refine (call67 s (R := fun v w' => v = .tuple [].toArray ∧ ∃ l' : List Int, l'.Perm l ∧ l'.Pairwise (· ≤ ·) ∧ Own 3 1 eI B w' s l' ∧ Fr (Bl s) w w') ?_).mono fun e w' ⟨v, he, hv, hx⟩ => ⟨by rw [he, hv], hx⟩
  have hsn : s.n = l.length := hs.1
  have e : IntKind.wrap .u64 ((s.n : Nat) : Int) = ((s.n : Nat) : Int) := by
    rw [IntKind.wrap_u64]; omega
  unfold S67
  rw [e]
  refine (c90 _ w (by omega) (by omega)).mono fun e w1 ⟨⟨n, he⟩, hw⟩ => ⟨n, he, ?_⟩
  subst hw
  have c91 : Calls Try.prog 91 [.slice s.a s.n s.c, .int .i64 0, .int .i64 ((s.n : Nat) : Int), .int .i64 n].toArray w1 fun e w' => e = .returned (.tuple [].toArray) ∧ ∃ l' : List Int, l'.Perm l ∧ l'.Pairwise (· ≤ ·) ∧ Own 3 1 eI B w' s l' ∧ Fr (Bl s) w1 w' := by
    refine (call91 s 0 ((s.n : Nat) : Int) n (R := fun v w' => v = .tuple [].toArray ∧ ∃ l' : List Int, l'.Perm l ∧ l'.Pairwise (· ≤ ·) ∧ Own 3 1 eI B w' s l' ∧ Fr (Bl s) w1 w') ?_).mono fun e w' ⟨v, he, hv, hx⟩ => ⟨by rw [he, hv], hx⟩
    refine Join.dir (LoopV.intro (fun _ (a b : Int) _ _ _ w' => a = 0 ∧ b = ((s.n : Nat) : Int) ∧ w' = w1) 0 ⟨rfl, rfl, rfl⟩ ?_)
    rintro _ a b _ _ _ w2 ⟨rfl, rfl, rfl⟩
    refine Join.dir (cond_intro (fun _ => ?_) (fun h => ?_))
    · exact (c105 hs (by have : l.length ≤ 9223372036854775807 := by omega
                         exact this)).mono fun e w' ⟨he, h⟩ => ⟨he, rfl, h⟩
    · exfalso
      rw [wrap64 (by omega) (by omega)] at h
      simp at h; omega
  exact c91.mono fun e w2 ⟨he, h⟩ => ⟨he, rfl, h⟩
end Go.Proofs.Ytnbkihkdfhjlmaa
/-
  Contracts: where each transaction ends, the committed transactions, their part of a history.
-/
namespace Go.Proofs.Ytnbkihkdfhjlmaa
open Go Go.VC

def kI (n : Int) : Value := .int .i64 n
def kB (b : Bool) : Value := .bool b
theorem K3 : KeyOk Try.prog 3 kI := KeyOk.int (by kernel_rfl)
theorem u103 : Try.prog.underlying 103 = some (.map 3 3) := by kernel_rfl
theorem zero3 (w : World) : (zeroValue 3).run Try.prog w = .ok (.int .i64 0) w := Try.zeroValue3 w

/-- Where a transaction has its commit (2) or abort (3). -/
def fin (h : List Ev) (k t : Int) : Int := ix ⟨t, k, 0⟩ h
/-- The map of the endings. -/
structure EndM (w : World) (b : Nat) (h : List Ev) (k : Int) : Prop where
  ex : ∃ (l : List (Ent Int Int)) (c : Nat), Mp kI kI w b l c ∧ ∀ t, mget l t = if 1 ≤ t ∧ t ≤ 6 then some (fin h k t) else none
theorem EndM.fr {M : Nat → Prop} {w w' : World} {b : Nat} {h : List Ev} {k : Int} (m : EndM w b h k) (f : Fr M w w') (hn : ¬ M b) : EndM w' b h k := by
  obtain ⟨l, c, h1, h2⟩ := m.ex
  exact ⟨l, c, h1.fr f hn, h2⟩
theorem EndM.ext {w w' : World} {b : Nat} {h : List Ev} {k : Int} (m : EndM w b h k) (f : Ext w w') : EndM w' b h k := m.fr f fun h => h
theorem EndM.look {w : World} {b : Nat} {h : List Ev} {k : Int} (m : EndM w b h k) (t : Int) :
    (Instr.lookup 103 (.map (some b)) (.int .i64 t) false).run Try.prog w = .ok (.int .i64 (if 1 ≤ t ∧ t ≤ 6 then fin h k t else 0)) w := by
  obtain ⟨l, c, h1, h2⟩ := m.ex
  have := (look_run K3 u103 h1 zero3 t).1
  rw [h2] at this
  rw [show (Value.int .i64 t) = kI t from rfl, this]
  split <;> rfl
theorem c54 {w : World} {s : Sl} {h : List Ev} (hs : Hs w s h) (k : Int) (hl : h.length ≤ big) :
    Calls Try.prog 54 [.slice s.a s.n s.c, .int .i64 k].toArray w fun e w' => e = .returned (.map (some w.heap.size)) ∧ EndM w' w.heap.size h k ∧ Ext w w' := by
  refine (call54 s k (R := fun v w' => v = .map (some w.heap.size) ∧ EndM w' w.heap.size h k ∧ Ext w w') ?_).mono fun e w' ⟨v, he, hv, hx⟩ => ⟨by rw [he, hv], hx⟩
  refine Let.intro fun w1 e1 => ?_
  have hm1 : Mp kI kI w1 w.heap.size ([] : List (Ent Int Int)) 0 := by rw [e1]; exact Mp.made w
  have hx1 : Ext w w1 := by rw [e1]; exact Ext.alloc ..
  refine Join.dir (LoopV.intro (fun n (x : Int) w' => 1 ≤ x ∧ x ≤ 7 ∧ (n : Int) = 7 - x ∧ (∃ (l : List (Ent Int Int)) (c : Nat), Mp kI kI w' w.heap.size l c ∧ ∀ t, mget l t = if 1 ≤ t ∧ t < x then some (fin h k t) else none) ∧ Ext w w') 6
    ⟨by omega, by omega, by omega, ⟨[], 0, hm1, fun t => by rw [if_neg (by omega)]; rfl⟩, hx1⟩ ?_)
  rintro n (x : Int) w3 ⟨h1, h2, hn, ⟨l, c, hm, hg⟩, hx⟩
  refine cond_intro (fun hc => ?_) (fun hc => ?_)
  · have hc : x ≤ 6 := by simpa using hc
    refine Join.dir ((c56 (hs.ext hx) ⟨x, k, 0⟩ hl).mono fun e w5 ⟨he, hx5⟩ => ⟨_, he, ?_⟩)
    obtain ⟨w6, c', hrun, hm6, hf6⟩ := put_run K3 u103 (ve := kI) (hm.ext hx5) x (ix ⟨x, k, 0⟩ h)
    refine ⟨w6, hrun, (6 - x).toNat, by omega, ?_⟩
    rw [wrap64 (by omega) (by omega)]
    refine ⟨by omega, by omega, by omega, ⟨_, c', hm6, fun t => ?_⟩, (hx.trans hx5).newer hf6 fun i hi => by omega⟩
    rw [mget_mput, hg]
    by_cases e : t = x
    · subst e; rw [if_pos rfl, if_pos (by omega)]; rfl
    · rw [if_neg e]
      by_cases e2 : 1 ≤ t ∧ t < x
      · rw [if_pos e2, if_pos (by omega)]
      · rw [if_neg e2, if_neg (by omega)]
  · have hc : x = 7 := by have : ¬ x ≤ 6 := by simpa using hc
                          omega
    subst hc
    refine ⟨rfl, ⟨l, c, hm, fun t => ?_⟩, hx⟩
    rw [hg]
    by_cases e2 : 1 ≤ t ∧ t < 7
    · rw [if_pos e2, if_pos (by omega)]
    · rw [if_neg e2, if_neg (by omega)]

/-- The committed transactions, rising. -/
def com (h : List Ev) : List Int := ([1, 2, 3, 4, 5, 6] : List Int).filter fun t => decide (0 ≤ fin h 2 t)
theorem mem_com {h : List Ev} {t : Int} : t ∈ com h ↔ 1 ≤ t ∧ t ≤ 6 ∧ 0 ≤ fin h 2 t := by
  simp only [com, List.mem_filter, decide_eq_true_eq, List.mem_cons, List.not_mem_nil, or_false]
  constructor
  · rintro ⟨h1, h2⟩; exact ⟨by omega, by omega, h2⟩
  · rintro ⟨h1, h2, h3⟩; exact ⟨by omega, h3⟩
theorem com_sorted (h : List Ev) : (com h).Pairwise (· < ·) := List.Pairwise.filter _ (by decide)
theorem com_len (h : List Ev) : (com h).length ≤ 6 := List.length_filter_le ..
theorem pairwise_lt_nodup {l : List Int} (h : l.Pairwise (· < ·)) : l.Nodup := h.imp fun h e => by omega
/-- A sorted list of the same elements is it. -/
theorem com_of {h : List Ev} {l : List Int} (h1 : l.Pairwise (· ≤ ·)) (h2 : l.Nodup) (h3 : ∀ t, t ∈ l ↔ t ∈ com h) : l = com h :=
  List.Perm.eq_of_pairwise (le := fun a b => a ≤ b) (fun a b _ _ h1 h2 => by omega) h1 ((com_sorted h).imp fun h => by omega) ((List.perm_ext_iff_of_nodup h2 (pairwise_lt_nodup (com_sorted h))).2 h3)

theorem nodup_keys {κ β : Type} {l vis : List (Ent κ β)} (hl : (l.map (·.1)).Nodup) (hv : vis.Nodup) (hs : ∀ x ∈ vis, x ∈ l) : (vis.map (·.1)).Nodup := by
  rw [List.nodup_iff_pairwise_ne, List.pairwise_map]
  rw [List.nodup_iff_pairwise_ne] at hv
  refine hv.imp_of_mem fun {a b} ha hb hne e => hne ?_
  obtain ⟨i, hi⟩ := List.getElem?_of_mem (hs a ha)
  obtain ⟨j, hj⟩ := List.getElem?_of_mem (hs b hb)
  have := nodup_at hl (i := i) (j := j) (x := a.1) (by simp [hi]) (by simp [hj, e])
  subst this
  rw [hi] at hj; exact Option.some.inj hj

theorem c36 {w : World} {s : Sl} {h : List Ev} (hs : Hs w s h) (hl : h.length ≤ big) :
    Calls Try.prog 36 [.slice s.a s.n s.c].toArray w fun e w' => ∃ s' : Sl, e = .returned (.slice s'.a s'.n s'.c) ∧ Own 3 1 eI w.heap.size w' s' (com h) ∧ Ext w w' := by
  refine (call36 s (R := fun v w' => ∃ s' : Sl, v = .slice s'.a s'.n s'.c ∧ Own 3 1 eI w.heap.size w' s' (com h) ∧ Ext w w') ?_).mono fun e w' ⟨v, he, s', hv, hx⟩ => ⟨s', by rw [he, hv], hx⟩
  refine (c54 hs 2 hl).mono fun e w1 ⟨he, hm, hx1⟩ => ⟨_, he, ?_⟩
  obtain ⟨l, c, hmp, hg⟩ := hm.ex
  have hlen : l.length ≤ 6 := by
    have h1 := hmp.keys.length_le_of_subset (l₂ := ([1, 2, 3, 4, 5, 6] : List Int)) (by
      intro t ht
      obtain ⟨x, hx, rfl⟩ := List.mem_map.1 ht
      have := mget_some hmp.keys hx
      rw [hg] at this
      split at this
      · simp; omega
      · cases this)
    simpa using h1
  obtain ⟨w2, hr2, hx2, hit2, hmp2⟩ := range_run (κ := Int) (β := Int) u103 hmp
  refine ⟨⟨w1.heap.size, 0⟩, w2, hr2, ?_⟩
  refine Join.dir (LoopV.intro (fun n (s' : Sl) w' => ∃ vis : List (Ent Int Int), n = l.length - vis.length ∧ vis.Nodup ∧ (∀ x ∈ vis, x ∈ l) ∧ Itr (κ := Int) (β := Int) w' w1.heap.size w.heap.size c vis ∧ Mp kI kI w' w.heap.size l c ∧
      Own 3 1 eI w2.heap.size w' s' ((vis.filter fun x => decide (0 ≤ x.2.1)).map (·.1)) ∧ w2.heap.size ≤ w'.heap.size ∧ Ext w w') l.length
    ⟨[], by simp, by simp, by simp, hit2, hmp2, Own.nil .., Nat.le_refl _, hx1.trans hx2⟩ ?_)
  rintro n s' w5 ⟨vis, rfl, hvn, hvl, hit, hmp5, hown, hsz5, hx5⟩
  have hnew : ∀ a, s'.a = some a → w2.heap.size ≤ a.block := fun a ha => (hown.base ha).1
  have hw1 := hmp.bound
  have hs2 := hit2.bound
  obtain ⟨d, kv, w6, hrun, hcase⟩ := next_run (P := Try.prog) (T := 0) hmp5 hit hvl
  refine ⟨d, kv, w6, hrun, ?_⟩
  rcases hcase with ⟨rfl, hall, hx6⟩ | ⟨rfl, x, hxl, hxv, hit6, hmp6, hfr6, hent⟩
  · -- all is seen: the sort
    refine (c67 (hown.ext hx6) ?_).mono fun e w7 ⟨he, l', hp, hso, ho, hf⟩ => ⟨he, s', rfl, ?_, ?_⟩
    · have := hvn.length_le_of_subset (l₂ := l) (fun x hx => hvl x hx)
      have h2 : ((vis.filter fun x => decide (0 ≤ x.2.1)).map (·.1)).length ≤ vis.length := by rw [List.length_map]; exact List.length_filter_le ..
      omega
    · have hnd : ((vis.filter fun x => decide (0 ≤ x.2.1)).map (·.1)).Nodup := nodup_keys hmp.keys (hvn.filter _) fun x hx => hvl x (List.mem_filter.1 hx).1
      have : l' = com h := com_of hso (hp.nodup_iff.2 hnd) fun t => by
        rw [hp.mem_iff, mem_com]
        constructor
        · intro ht
          obtain ⟨y, hy, rfl⟩ := List.mem_map.1 ht
          obtain ⟨hy1, hy2⟩ := List.mem_filter.1 hy
          have := mget_some hmp.keys (hvl y hy1)
          rw [hg] at this
          split at this
          · rename_i hb; exact ⟨hb.1, hb.2, by rw [Option.some.inj this]; simpa using hy2⟩
          · cases this
        · rintro ⟨h1, h2, h3⟩
          have : mget l t = some (fin h 2 t) := by rw [hg, if_pos ⟨h1, h2⟩]
          obtain ⟨c', hc'⟩ := mget_mem this
          exact List.mem_map.2 ⟨_, List.mem_filter.2 ⟨hall _ hc', by simpa using h3⟩, rfl⟩
      rw [← this]; exact ho.mono (by have := hx1.size; have := hx2.size; omega)
    · exact (hx5.trans hx6).newer hf fun b ⟨a, ha, hb⟩ => by have := hnew a ha; have := hx1.size; have := hx2.size; omega
  · -- one more entry
    have hlt : vis.length + 1 ≤ l.length := by
      have := (List.nodup_cons.2 ⟨hxv, hvn⟩).length_le_of_subset (l₂ := l) (by intro y hy; rcases List.mem_cons.1 hy with rfl | hy; exact hxl; exact hvl y hy)
      simpa using this
    have hvn' : (vis ++ [x]).Nodup := by
      rw [List.nodup_append]; exact ⟨hvn, by simp, by intro a ha b hb e; simp at hb; subst hb; subst e; exact hxv ha⟩
    have hvl' : ∀ y ∈ vis ++ [x], y ∈ l := by intro y hy; rcases List.mem_append.1 hy with hy | hy; exact hvl y hy; simp at hy; subst hy; exact hxl
    have hx6 : Ext w w6 := hx5.newer hfr6 fun i hi => by have := hx1.size; omega
    have hown6 := hown.fr hfr6 fun a ha hb => by have := hnew a ha; omega
    refine Join.dir ⟨x.1, x.2.1, hent, Join.dir (cond_intro (fun hc => ?_) (fun hc => ?_))⟩
    · have hc : 0 ≤ x.2.1 := by simpa using hc
      have hvis : ((vis ++ [x]).filter fun x => decide (0 ≤ x.2.1)).map (·.1) = ((vis.filter fun x => decide (0 ≤ x.2.1)).map (·.1)) ++ [x.1] := by simp [List.filter_append, hc]
      have hcl : ((vis.filter fun x => decide (0 ≤ x.2.1)).map (·.1)).length ≤ vis.length := by rw [List.length_map]; exact List.length_filter_le ..
      obtain ⟨s1, w9, e9, s2, w10, e10, ho, hf⟩ := appendOne E24 hown6 (x := x.1) (v := .int .i64 x.1) rfl eI_len eI_one (by omega) (by omega) (by simp only [maxLen]; omega) (by have := hfr6.size; omega) 24
      refine ⟨s1, w9, e9, s2, w10, e10, l.length - (vis ++ [x]).length, by simp; omega, vis ++ [x], rfl, hvn', hvl', hit6.fr hf ?_, hmp6.fr hf ?_, by rw [hvis]; exact ho, by have := hfr6.size; have := hf.size; omega, hx6.newer hf fun b ⟨a, ha, hb⟩ => by have := hnew a ha; have := hx1.size; have := hx2.size; omega⟩
      · rintro ⟨a, ha, hb⟩; have := hnew a ha; omega
      · rintro ⟨a, ha, hb⟩; have := hnew a ha; omega
    · have hc : ¬ 0 ≤ x.2.1 := by simpa using hc
      have hvis : ((vis ++ [x]).filter fun x => decide (0 ≤ x.2.1)).map (·.1) = ((vis.filter fun x => decide (0 ≤ x.2.1)).map (·.1)) := by simp [List.filter_append, hc]
      exact ⟨l.length - (vis ++ [x]).length, by simp; omega, vis ++ [x], rfl, hvn', hvl', hit6, hmp6, by rw [hvis]; exact hown6, by have := hfr6.size; omega, hx6⟩
end Go.Proofs.Ytnbkihkdfhjlmaa
/-
  Contracts: which histories are valid, in the program and in the reference; the committed part.
-/
namespace Go.Proofs.Ytnbkihkdfhjlmaa
open Go Go.VC

/-- An operation that a loop loads into a variable of its own. -/
theorem loadEv {w : World} {s : Sl} {h : List Ev} (hs : Hs w s h) {i : Nat} (hi : i < h.length) {T : TypeId} (hz : (zc Try.prog T).size = 3) {B : World → Prop}
    (hB : ∀ w5, Blk w5 w.heap.size (eO h[i]) T → Ext w w5 → B w5) :
    ∃ p : Pt, s.a = some ⟨p.b, p.o, none⟩ ∧ 0 ≤ (i : Int) ∧ (i : Int) < ((s.n : Nat) : Int) ∧ ∃ a : Int, ∃ b : Int, ∃ c : Int, rd w p.b (p.o + Int.toNat (i : Int) * 3) [.int .i64 a, .int .i64 b, .int .i64 c] ∧
      Let (w.alloc (.cells (zc Try.prog T) T)) fun w4 => StoreOk w4 w.heap.size 0 [.int .i64 a, .int .i64 b, .int .i64 c] 3 ∧ Let (put w4 w.heap.size 0 [.int .i64 a, .int .i64 b, .int .i64 c]) fun w5 => B w5 := by
  obtain ⟨p, hp, h2, h3, hr⟩ := Sli.at eO_len hs hi
  obtain ⟨a, b, c⟩ := new_var w T (z := zc Try.prog T) (vs := eO h[i]) (by rw [hz, eO_len]) (eO_one _)
  exact ⟨p, hp, h2, h3, _, _, _, hr, a, hB _ b c⟩

/-- An operation that a loop loads into a variable of its own. -/
theorem loadEvN {w : World} {s : Sl} {h : List Ev} (hs : Hs w s h) {i : Nat} (hi : i < h.length) {n : Nat} (hin : (i : Int) < (n : Int)) {T : TypeId} (hz : (zc Try.prog T).size = 3) {B : World → Prop}
    (hB : ∀ w5, Blk w5 w.heap.size (eO h[i]) T → Ext w w5 → B w5) :
    ∃ p : Pt, s.a = some ⟨p.b, p.o, none⟩ ∧ 0 ≤ (i : Int) ∧ (i : Int) < ((n : Nat) : Int) ∧ ∃ a : Int, ∃ b : Int, ∃ c : Int, rd w p.b (p.o + Int.toNat (i : Int) * 3) [.int .i64 a, .int .i64 b, .int .i64 c] ∧
      Let (w.alloc (.cells (zc Try.prog T) T)) fun w4 => StoreOk w4 w.heap.size 0 [.int .i64 a, .int .i64 b, .int .i64 c] 3 ∧ Let (put w4 w.heap.size 0 [.int .i64 a, .int .i64 b, .int .i64 c]) fun w5 => B w5 := by
  obtain ⟨p, hp, h2, _, hr⟩ := Sli.at eO_len hs hi
  obtain ⟨a, b, c⟩ := new_var w T (z := zc Try.prog T) (vs := eO h[i]) (by rw [hz, eO_len]) (eO_one _)
  exact ⟨p, hp, h2, hin, _, _, _, hr, a, hB _ b c⟩

def okOp (o : Ev) : Prop := 1 ≤ o.t ∧ o.t ≤ 6 ∧ 0 ≤ o.k ∧ o.k ≤ 3 ∧ 0 ≤ o.i ∧ o.i ≤ 5 ∧ (1 < o.k → o.i = 0)
instance : DecidablePred okOp := fun o => by unfold okOp; infer_instance
/-- No operation of a transaction behind its end. -/
def apart (p o : Ev) : Prop := ¬ (p.t = o.t ∧ 1 < p.k)
instance (p o : Ev) : Decidable (apart p o) := by unfold apart; infer_instance
/-- A history, but for its length. -/
def Wf (h : List Ev) : Prop := (∀ o ∈ h, okOp o) ∧ h.Pairwise apart
instance (h : List Ev) : Decidable (Wf h) := by unfold Wf; infer_instance
def Valid (h : List Ev) : Prop := Wf h ∧ h.length ≤ 40
instance (h : List Ev) : Decidable (Valid h) := by unfold Valid; infer_instance
theorem wf_step {h : List Ev} {i : Nat} (hi : i < h.length) (hw : Wf (h.take i)) : Wf (h.take (i + 1)) ↔ okOp h[i] ∧ ∀ p ∈ h.take i, apart p h[i] := by
  unfold Wf
  rw [List.take_succ_eq_append_getElem hi]
  constructor
  · rintro ⟨h1, h2⟩
    exact ⟨h1 _ (List.mem_append_right _ (List.mem_singleton.2 rfl)), fun p hp => (List.pairwise_append.1 h2).2.2 p hp _ (List.mem_singleton.2 rfl)⟩
  · rintro ⟨h1, h2⟩
    refine ⟨fun o ho => ?_, List.pairwise_append.2 ⟨hw.2, by simp, fun p hp o ho => ?_⟩⟩
    · rcases List.mem_append.1 ho with ho | ho
      · exact hw.1 o ho
      · simp at ho; subst ho; exact h1
    · simp at ho; subst ho; exact h2 p hp
theorem wf_take {h : List Ev} (hw : Wf h) (i : Nat) : Wf (h.take i) := ⟨fun o ho => hw.1 o (List.mem_of_mem_take ho), hw.2.sublist (List.take_sublist i h)⟩

theorem u84 : Try.prog.underlying 84 = some (.map 3 4) := by kernel_rfl
theorem zero4 (w : World) : (zeroValue 4).run Try.prog w = .ok (.bool false) w := Try.zeroValue4 w

theorem c26 {w : World} {s : Sl} {h : List Ev} (hs : Hs w s h) (hl : h.length ≤ big) :
    Calls Try.prog 26 [.slice s.a s.n s.c].toArray w fun e w' => e = .returned (.bool (decide (Valid h))) ∧ Ext w w' := by
  refine (call26 s (R := fun v w' => v = .bool (decide (Valid h)) ∧ Ext w w') ?_).mono fun e w' ⟨v, he, hv, hx⟩ => ⟨by rw [he, hv], hx⟩
  have hn := hs.len
  refine Let.intro fun w1 e1 => ?_
  have hm1 : Mp kI kB w1 w.heap.size ([] : List (Ent Int Bool)) 0 := by rw [e1]; exact Mp.made w
  have hx1 : Ext w w1 := by rw [e1]; exact Ext.alloc ..
  refine cond_intro (fun h40 => ?_) (fun h40 => ?_)
  · have h40 : ¬ h.length ≤ 40 := by simp [hn] at h40; omega
    exact ⟨by simp [Valid, h40], hx1⟩
  have h40 : h.length ≤ 40 := by simp [hn] at h40; omega
  refine Join.dir (rangeI (fun i w' => Wf (h.take i) ∧ (∃ (l : List (Ent Int Bool)) (c : Nat), Mp kI kB w' w.heap.size l c ∧ ∀ t, (mget l t).getD false = decide (∃ p ∈ h.take i, p.t = t ∧ 1 < p.k)) ∧ Ext w w') (by rw [hn]; exact hl)
    ⟨⟨by simp, by simp⟩, ⟨[], 0, hm1, fun t => by simp [mget]⟩, hx1⟩ ?_ ?_)
  · rintro i hi w3 ⟨hw, ⟨l, c, hm, hg⟩, hx⟩ K hK
    have hi : i < h.length := by omega
    refine loadEv (hs.ext hx) hi zc38 fun w6 hb hx6 => ?_
    have hm6 := hm.ext hx6
    have hgo : Wf (h.take (i + 1)) ↔ okOp h[i] ∧ ∀ p ∈ h.take i, apart p h[i] := wf_step hi hw
    have hno : ¬ Wf (h.take (i + 1)) → ¬ Valid h := fun h1 h2 => h1 (wf_take h2.1 _)
    refine ⟨fun (b : Bool) w' => b = decide (h[i].k = 2 ∨ h[i].k = 3) ∧ w' = w6, ?_, ?_⟩
    · rintro b6 w7 ⟨rfl, rfl⟩
      refine ⟨fun (b : Bool) w' => b = decide (¬ Wf (h.take (i + 1))) ∧ w' = w7, ?_, ?_⟩
      · rintro b w8 ⟨rfl, rfl⟩
        refine cond_intro (fun hc => ?_) (fun hc => ?_)
        · have hc : ¬ Wf (h.take (i + 1)) := by simpa using hc
          exact ⟨by simp [hno hc], hx.trans hx6⟩
        · have hc : Wf (h.take (i + 1)) := by simpa using hc
          obtain ⟨w9, c', hrun, hm9, hf9⟩ := put_run K3 u84 hm6 h[i].t (decide (h[i].k = 2 ∨ h[i].k = 3))
          refine ⟨_, hb.cell 0, w9, hrun, hK _ ⟨hc, ⟨_, c', hm9, fun t => ?_⟩, (hx.trans hx6).newer hf9 fun b hb => by omega⟩⟩
          have hok := (hgo.1 hc).1
          have hap := (hgo.1 hc).2
          rw [mget_mput, List.take_succ_eq_append_getElem hi]
          by_cases e : t = h[i].t
          · subst e
            rw [if_pos rfl]
            simp only [Option.getD_some]
            apply decide_eq_decide.2
            constructor
            · intro hk; exact ⟨h[i], List.mem_append_right _ (List.mem_singleton.2 rfl), rfl, by omega⟩
            · rintro ⟨p, hp, hpt, hpk⟩
              rcases List.mem_append.1 hp with hp | hp
              · exact absurd ⟨hpt, hpk⟩ (hap p hp)
              · simp at hp; subst hp; unfold okOp at hok; omega
          · rw [if_neg e, hg]
            apply decide_eq_decide.2
            constructor
            · rintro ⟨p, hp, hpt, hpk⟩; exact ⟨p, List.mem_append_left _ hp, hpt, hpk⟩
            · rintro ⟨p, hp, hpt, hpk⟩
              rcases List.mem_append.1 hp with hp | hp
              · exact ⟨p, hp, hpt, hpk⟩
              · simp at hp; subst hp; exact absurd hpt.symm e
      · have hbad : ¬ okOp h[i] → true = decide (¬ Wf (h.take (i + 1))) ∧ w7 = w7 := fun h1 => ⟨by simp [hgo, h1], rfl⟩
        have hlast : ∀ t, t = h[i].t → (Instr.lookup 84 (.map (some w.heap.size)) (.int .i64 t) false).run Try.prog w7 = .ok (.bool (decide (∃ p ∈ h.take i, p.t = h[i].t ∧ 1 < p.k))) w7 := fun t ht => by
          subst ht
          have := (look_run K3 u84 hm6 zero4 h[i].t).1
          rw [show (Value.int .i64 h[i].t) = kI h[i].t from rfl, this, ← hg]
          cases mget l h[i].t <;> rfl
        refine ⟨_, hb.cell 0, cond_intro (fun hc => hbad fun h => ?_) (fun h1 => ?_)⟩
        · unfold okOp at h; simp at hc; omega
        refine ⟨_, hb.cell 0, cond_intro (fun hc => hbad fun h => ?_) (fun h2 => ?_)⟩
        · unfold okOp at h; simp at hc; omega
        refine ⟨_, hb.cell 1, cond_intro (fun hc => hbad fun h => ?_) (fun h3 => ?_)⟩
        · unfold okOp at h; simp at hc; omega
        refine ⟨_, hb.cell 1, cond_intro (fun hc => hbad fun h => ?_) (fun h4 => ?_)⟩
        · unfold okOp at h; simp at hc; omega
        refine ⟨_, hb.cell 2, cond_intro (fun hc => hbad fun h => ?_) (fun h5 => ?_)⟩
        · unfold okOp at h; simp at hc; omega
        refine ⟨_, hb.cell 2, cond_intro (fun hc => hbad fun h => ?_) (fun h6 => ?_)⟩
        · unfold okOp at h; simp at hc; omega
        have hfin : okOp h[i] → decide (∃ p ∈ h.take i, p.t = h[i].t ∧ 1 < p.k) = decide (¬ Wf (h.take (i + 1))) ∧ w7 = w7 := fun hok => ⟨by
          apply decide_eq_decide.2
          rw [hgo]
          constructor
          · rintro ⟨p, hp, h1⟩ ⟨_, h2⟩; exact h2 p hp h1
          · intro h1
            rcases Classical.em (∃ p ∈ h.take i, p.t = h[i].t ∧ 1 < p.k) with h2 | h2
            · exact h2
            · exact absurd ⟨hok, fun p hp h3 => h2 ⟨p, hp, h3⟩⟩ h1, rfl⟩
        refine cond_intro (fun h7 => ?_) (fun h7 => ?_)
        · refine ⟨_, hb.cell 2, cond_intro (fun hc => hbad fun h => ?_) (fun h8 => ?_)⟩
          · unfold okOp at h; simp at hc h7; omega
          · exact ⟨_, hb.cell 0, _, hlast _ rfl, hfin (by unfold okOp; simp at h1 h2 h3 h4 h5 h6 h7 h8; omega)⟩
        · exact ⟨_, hb.cell 0, _, hlast _ rfl, hfin (by unfold okOp; simp at h1 h2 h3 h4 h5 h6 h7; omega)⟩
    · refine ⟨_, hb.cell 1, cond_intro (fun hc => ?_) (fun hc => ?_)⟩
      · exact ⟨by simp at hc; simp [hc], rfl⟩
      · refine ⟨_, hb.cell 1, ?_, rfl⟩
        simp at hc
        by_cases h3 : h[i].k = 3 <;> simp [hc, h3]
  · rintro w3 ⟨hw, _, hx⟩
    rw [hn, List.take_length] at hw
    exact ⟨by simp [Valid, hw, h40], hx⟩

theorem zc37' : (zc Try.prog 37).size = 3 := zc37
theorem c13 {w : World} {s : Sl} {h : List Ev} (hs : Hs w s h) (hl : h.length ≤ big) :
    Calls Try.prog 13 [.slice s.a s.n s.c].toArray w fun e w' => e = .returned (.bool (decide (Valid h))) ∧ Ext w w' := by
  refine (call13 s (R := fun v w' => v = .bool (decide (Valid h)) ∧ Ext w w') ?_).mono fun e w' ⟨v, he, hv, hx⟩ => ⟨by rw [he, hv], hx⟩
  have hn := hs.len
  have hcap := hs.cap
  refine Join.dir (rangeI (fun i w' => Wf (h.take i) ∧ Ext w w') (by rw [hn]; exact hl) ⟨⟨by simp, by simp⟩, Fr.refl _ w⟩ ?_ ?_)
  · rintro i hi w2 ⟨hw, hx⟩ K hK
    have hi : i < h.length := by omega
    refine loadEv (hs.ext hx) hi zc37 fun w5 hb hx5 => ?_
    have hgo : Wf (h.take (i + 1)) ↔ okOp h[i] ∧ ∀ p ∈ h.take i, apart p h[i] := wf_step hi hw
    have hno : ¬ Wf (h.take (i + 1)) → ¬ Valid h := fun h1 h2 => h1 (wf_take h2.1 _)
    refine ⟨fun (b : Bool) w' => b = decide (¬ okOp h[i]) ∧ w' = w5, ?_, ?_⟩
    · rintro b w6 ⟨rfl, rfl⟩
      refine cond_intro (fun hc => ?_) (fun hc => ?_)
      · have hc : ¬ okOp h[i] := by simpa using hc
        exact ⟨by simp [hno (fun h1 => hc (hgo.1 h1).1)], hx.trans hx5⟩
      have hok : okOp h[i] := by simpa using hc
      refine ⟨by omega, by omega, Join.dir (rangeI (fun j w' => (∀ p ∈ h.take j, apart p h[i]) ∧ Ext w6 w') ?_ ⟨by simp, Fr.refl _ w6⟩ ?_ ?_)⟩
      · have : h.length ≤ 9223372036854775807 := hl
        show Int.toNat (i : Int) ≤ 9223372036854775807
        omega
      · rintro j hj w8 ⟨hap, hx8⟩ K2 hK2
        have hji : j < i := by omega
        have hjl : j < h.length := by omega
        obtain ⟨p, hp, h1, h2, hrest⟩ := loadEv (B := fun w11 => _) (((hs.ext hx).ext hx5).ext hx8) hjl zc37 fun w11 hb11 hx11 => by
          have hb' := hb.ext (hx8.trans hx11)
          show Join [(69, .bool)] (fun (b69 : Bool) (w12 : World) => cond b69 (((Value.bool false : Value) = .bool (decide (Valid h)) ∧ Ext w w12)) (K2 w12)) (fun J_5 =>
            ∃ x61 : Int, World.cell? w11 ⟨w8.heap.size, (0 + 0), none⟩ = some (.int .i64 x61) ∧ ∃ x63 : Int, World.cell? w11 ⟨w2.heap.size, (0 + 0), none⟩ = some (.int .i64 x63) ∧ cond (x61 == x63) (∃ x67 : Int, World.cell? w11 ⟨w8.heap.size, (0 + 1), none⟩ = some (.int .i64 x67) ∧ J_5 (decide (x67 > (1 : Int))) w11) (J_5 false w11))
          refine ⟨fun (b : Bool) w' => b = decide (¬ apart h[j] h[i]) ∧ w' = w11, ?_, ?_⟩
          · rintro b w12 ⟨rfl, rfl⟩
            refine cond_intro (fun hc => ?_) (fun hc => ?_)
            · have hc : ¬ apart h[j] h[i] := by simpa using hc
              refine ⟨?_, (hx.trans hx5).trans (hx8.trans hx11)⟩
              rw [decide_eq_false (hno fun h1 => hc ((hgo.1 h1).2 _ ?_))]
              exact List.mem_take_iff_getElem.2 ⟨j, by omega, rfl⟩
            · have hc : apart h[j] h[i] := by simpa using hc
              refine hK2 _ ⟨fun p hp => ?_, hx8.trans hx11⟩
              rw [List.take_succ_eq_append_getElem hjl] at hp
              rcases List.mem_append.1 hp with hp | hp
              · exact hap p hp
              · rw [List.mem_singleton.1 hp]; exact hc
          · refine ⟨_, hb11.cell 0, _, hb'.cell 0, cond_intro (fun hc => ?_) (fun hc => ?_)⟩
            · exact ⟨_, hb11.cell 1, by simp at hc; simp [apart, hc], rfl⟩
            · exact ⟨by simp at hc; simp [apart, hc], rfl⟩
        exact ⟨p, hp, h1, by omega, hrest⟩
      · rintro w8 ⟨hap, hx8⟩
        exact hK _ ⟨hgo.2 ⟨hok, by simpa using hap⟩, (hx.trans hx5).trans hx8⟩
    · have hbad : ¬ okOp h[i] → true = decide (¬ okOp h[i]) ∧ w5 = w5 := fun h1 => ⟨by simp [h1], rfl⟩
      refine ⟨_, hb.cell 0, cond_intro (fun hc => hbad fun h => ?_) (fun h1 => ?_)⟩
      · unfold okOp at h; simp at hc; omega
      refine ⟨_, hb.cell 0, cond_intro (fun hc => hbad fun h => ?_) (fun h2 => ?_)⟩
      · unfold okOp at h; simp at hc; omega
      refine ⟨_, hb.cell 1, cond_intro (fun hc => hbad fun h => ?_) (fun h3 => ?_)⟩
      · unfold okOp at h; simp at hc; omega
      refine ⟨_, hb.cell 1, cond_intro (fun hc => hbad fun h => ?_) (fun h4 => ?_)⟩
      · unfold okOp at h; simp at hc; omega
      refine ⟨_, hb.cell 2, cond_intro (fun hc => hbad fun h => ?_) (fun h5 => ?_)⟩
      · unfold okOp at h; simp at hc; omega
      refine ⟨_, hb.cell 2, cond_intro (fun hc => hbad fun h => ?_) (fun h6 => ?_)⟩
      · unfold okOp at h; simp at hc; omega
      refine ⟨_, hb.cell 1, cond_intro (fun h7 => ?_) (fun h7 => ?_)⟩
      · refine ⟨_, hb.cell 2, ?_, rfl⟩
        simp at h1 h2 h3 h4 h5 h6 h7
        by_cases h8 : h[i].i = 0
        · have : okOp h[i] := by unfold okOp; omega
          simp [h8, this]
        · have : ¬ okOp h[i] := by unfold okOp; omega
          simp [h8, this]
      · simp at h1 h2 h3 h4 h5 h6 h7
        have : okOp h[i] := by unfold okOp; omega
        exact ⟨by simp [this], rfl⟩
  · rintro w3 ⟨hw, hx⟩
    rw [hn, List.take_length] at hw
    refine ⟨?_, hx⟩
    rw [hn]
    congr 1
    apply decide_eq_decide.2
    unfold Valid
    constructor
    · intro h1; exact ⟨hw, by omega⟩
    · intro h1; have := h1.2; omega
end Go.Proofs.Ytnbkihkdfhjlmaa
/-
  Printed by a program of this session (wip/tools/vcprint.py): of each Go function the shallow form, and that the calculus comes to it, by the kernel.
-/
namespace Go.Proofs.Ytnbkihkdfhjlmaa
open Go Go.VC
set_option maxRecDepth 100000

/-- F35: (cubeb/history.History).view -/
def A35 : An := (.sq .lf (.sq .lf (.sq (.sq .lf (.bk [] (.lp [(11, .int .i64)] (.sq .lf (.sq (.cd .lf .lf) (.sq (.bk [] (.sq .lf (.sq (.sq .lf (.cj [] (.dr [0, 1, 2, 3, 4, 5, 6, 7, 8, 9, 10, 11, 12, 13, 14, 15, 16, 17, 18] [18] true none) .lf)) (.sq .lf (.cj [] (.dr [0, 1, 2, 3, 4, 5, 6, 7, 8, 9, 10, 11, 12] [] false none) .lf))))) .lf)))))) (.sq .lf .lf))))
def S35 (s0 : Sl) (R : Value → World → Prop) (w : World) : Prop :=
  Let (w.alloc (.cells (zc Try.prog 65) 65)) fun w1 => 
  Let (w1.alloc (.map #[] 0)) fun w2 => 
  Let (w2.alloc (.cells (zc Try.prog 65) 65)) fun w3 => 
  StoreOk w3 w2.heap.size 0 [(.map (some w1.heap.size)), (.int .i64 (0 : Int)), (.int .i64 (0 : Int)), (.int .i64 (0 : Int)), (.int .i64 (0 : Int)), (.int .i64 (0 : Int)), (.int .i64 (0 : Int))] 7 ∧ Let (put w3 w2.heap.size 0 [(.map (some w1.heap.size)), (.int .i64 (0 : Int)), (.int .i64 (0 : Int)), (.int .i64 (0 : Int)), (.int .i64 (0 : Int)), (.int .i64 (0 : Int)), (.int .i64 (0 : Int))]) fun w4 => 
  Calls Try.prog 55 [(.slice s0.a s0.n s0.c)].toArray w4 (fun e w5 => ∃ s9 : Sl, e = .returned (.slice s9.a s9.n s9.c) ∧
  Join [] (fun (w6 : World) => ∃ m59_0 : Option Nat, ∃ x59_1 : Int, ∃ x59_2 : Int, ∃ x59_3 : Int, ∃ x59_4 : Int, ∃ x59_5 : Int, ∃ x59_6 : Int, rd w6 w2.heap.size 0 [(.map m59_0), (.int .i64 x59_1), (.int .i64 x59_2), (.int .i64 x59_3), (.int .i64 x59_4), (.int .i64 x59_5), (.int .i64 x59_6)] ∧ StoreOk w6 w.heap.size 0 [(.map m59_0), (.int .i64 x59_1), (.int .i64 x59_2), (.int .i64 x59_3), (.int .i64 x59_4), (.int .i64 x59_5), (.int .i64 x59_6)] 7 ∧ Let (put w6 w.heap.size 0 [(.map m59_0), (.int .i64 x59_1), (.int .i64 x59_2), (.int .i64 x59_3), (.int .i64 x59_4), (.int .i64 x59_5), (.int .i64 x59_6)]) fun w7 => 
  ∃ mr2_0 : Option Nat, ∃ xr2_1 : Int, ∃ xr2_2 : Int, ∃ xr2_3 : Int, ∃ xr2_4 : Int, ∃ xr2_5 : Int, ∃ xr2_6 : Int, rd w7 w.heap.size 0 [(.map mr2_0), (.int .i64 xr2_1), (.int .i64 xr2_2), (.int .i64 xr2_3), (.int .i64 xr2_4), (.int .i64 xr2_5), (.int .i64 xr2_6)] ∧ R (.agg [(.map mr2_0), (.int .i64 xr2_1), (.int .i64 xr2_2), (.int .i64 xr2_3), (.int .i64 xr2_4), (.int .i64 xr2_5), (.int .i64 xr2_6)].toArray) w7) (fun J =>
  LoopV [(11, .int .i64)] (fun K => K (0 : Int) w5) (fun N => fun (x11 : Int) (w8 : World) =>
  cond (decide (x11 < ((s9.n : Nat) : Int))) (
  Join [] (fun (w9 : World) => N (IntKind.wrap .i64 (x11 + (1 : Int))) w9) (fun J_2 =>
  ∃ p14 : Pt, s9.a = some ⟨p14.b, p14.o, none⟩ ∧ 0 ≤ x11 ∧ x11 < ((s9.n : Nat) : Int) ∧ ∃ x15 : Int, World.cell? w8 ⟨p14.b, (p14.o + Int.toNat x11 * 1), none⟩ = some (.int .i64 x15) ∧ ∃ p18 : Pt, s0.a = some ⟨p18.b, p18.o, none⟩ ∧ 0 ≤ x11 ∧ x11 < ((s0.n : Nat) : Int) ∧ ∃ x20 : Int, World.cell? w8 ⟨p18.b, ((p18.o + Int.toNat x11 * 3) + 1), none⟩ = some (.int .i64 x20) ∧ Join [] (fun (w10 : World) => ∃ p42 : Pt, s0.a = some ⟨p42.b, p42.o, none⟩ ∧ 0 ≤ x11 ∧ x11 < ((s0.n : Nat) : Int) ∧ ∃ x44 : Int, World.cell? w10 ⟨p42.b, ((p42.o + Int.toNat x11 * 3) + 1), none⟩ = some (.int .i64 x44) ∧ Join [] (fun (w11 : World) => J_2 w11) (fun J_3 =>
  cond (x44 == (1 : Int)) (
  Let w10.drew fun w12 =>
  ∃ p48 : Pt, s0.a = some ⟨p48.b, p48.o, none⟩ ∧ 0 ≤ x11 ∧ x11 < ((s0.n : Nat) : Int) ∧ ∃ x50 : Int, World.cell? w12 ⟨p48.b, ((p48.o + Int.toNat x11 * 3) + 2), none⟩ = some (.int .i64 x50) ∧ ∃ p53 : Pt, s0.a = some ⟨p53.b, p53.o, none⟩ ∧ 0 ≤ x11 ∧ x11 < ((s0.n : Nat) : Int) ∧ ∃ x55 : Int, World.cell? w12 ⟨p53.b, ((p53.o + Int.toNat x11 * 3) + 0), none⟩ = some (.int .i64 x55) ∧ 0 ≤ x50 ∧ x50 < ((6 : Nat) : Int) ∧ StoreOk w12 w2.heap.size ((0 + 1) + Int.toNat x50 * 1) [(.int .i64 x55)] 1 ∧ Let (put w12 w2.heap.size ((0 + 1) + Int.toNat x50 * 1) [(.int .i64 x55)]) fun w13 => 
  J_3 w13) (
  J_3 w10))) (fun J_4 =>
  cond (x20 == (0 : Int)) (
  ∃ S1 : World → Prop, S1 w8.drew ∧ Let w8.drew fun w14 =>
  ∃ m23 : Option Nat, (∀ u, S1 u → World.cell? u ⟨w2.heap.size, (0 + 0), none⟩ = some (.map m23)) ∧ ∃ p26 : Pt, s0.a = some ⟨p26.b, p26.o, none⟩ ∧ 0 ≤ x11 ∧ x11 < ((s0.n : Nat) : Int) ∧ ∃ x28 : Int, (∀ u, S1 u → World.cell? u ⟨p26.b, ((p26.o + Int.toNat x11 * 3) + 0), none⟩ = some (.int .i64 x28)) ∧ ∃ m30 : Option Nat, (∀ u, S1 u → World.cell? u ⟨w2.heap.size, (0 + 0), none⟩ = some (.map m30)) ∧ ∃ p33 : Pt, s0.a = some ⟨p33.b, p33.o, none⟩ ∧ 0 ≤ x11 ∧ x11 < ((s0.n : Nat) : Int) ∧ ∃ x35 : Int, (∀ u, S1 u → World.cell? u ⟨p33.b, ((p33.o + Int.toNat x11 * 3) + 0), none⟩ = some (.int .i64 x35)) ∧ ∃ s36 : Sl, (∀ u, S1 u → Sem.run Try.prog (Instr.lookup 62 (.map m30) (.int .i64 x35) false) u = .ok (.slice s36.a s36.n s36.c) u) ∧ ∃ (s38 : Sl) (w15 : World), Sem.run Try.prog (Instr.buildSlice 24 1 [(0, (.int .i64 x15))].toArray) w14 = .ok (.slice s38.a s38.n s38.c) w15 ∧
  S1 w15 ∧ ∃ (s39 : Sl) (w16 : World), Sem.run Try.prog (Builtin.append_ #[24, 24] 24 #[(.slice s36.a s36.n s36.c), (.slice s38.a s38.n s38.c)]) w15 = .ok (.slice s39.a s39.n s39.c) w16 ∧
  S1 w16 ∧ ∃ w17 : World, Sem.run Try.prog (Instr.mapUpdate 62 (.map m23) (.int .i64 x28) (.slice s39.a s39.n s39.c)) w16 = .ok () w17 ∧
  J_4 w17) (
  J_4 w8)))) (
  J w8))))
theorem eq35 (s0 : Sl) (R : Value → World → Prop) (w : World) : funV Try.prog Try.f35 A35 [(.slice s0.a s0.n s0.c)] R w = S35 s0 R w := by kernel_rfl
theorem call35 (s0 : Sl) {R : Value → World → Prop} {w : World} (h : S35 s0 R w) : Calls Try.prog 35 [(.slice s0.a s0.n s0.c)].toArray w fun e w' => ∃ v, e = .returned v ∧ R v w' :=
  funV_calls mixed Try.func35 (an := A35) (by rw [eq35]; exact h)

/-- F38: (cubeb/history.History).serial -/
def A38 : An := (.sq .lf (.sq .lf (.sq (.sq .lf (.bk [(5, .slice)] (.lp [(5, .slice), (12, .int .i64)] (.sq .lf (.sq (.cd .lf .lf) (.sq (.bk [(5, .slice)] (.sq .lf (.sq .lf (.bk [(5, .slice)] (.lp [(5, .slice), (18, .int .i64)] (.sq .lf (.sq (.cd .lf .lf) (.sq (.bk [(5, .slice)] (.sq .lf (.sq .lf (.cj [(5, .slice)] .lf .lf)))) .lf)))))))) .lf)))))) (.sq .lf .lf))))
def S38 (s0 : Sl) (s1 : Sl) (R : Value → World → Prop) (w : World) : Prop :=
  Join [(5, .slice)] (fun (s5 : Sl) (w1 : World) => R (.slice s5.a s5.n s5.c) w1) (fun J =>
  LoopV [(5, .slice), (12, .int .i64)] (fun K => K ⟨none, 0, 0⟩ (0 : Int) w) (fun N => fun (s5_2 : Sl) (x12 : Int) (w2 : World) =>
  cond (decide (x12 < ((s1.n : Nat) : Int))) (
  Join [(5, .slice)] (fun (s5_3 : Sl) (w3 : World) => N ⟨s5_3.a, s5_3.n, s5_3.c⟩ (IntKind.wrap .i64 (x12 + (1 : Int))) w3) (fun J_2 =>
  ∃ p14 : Pt, s1.a = some ⟨p14.b, p14.o, none⟩ ∧ 0 ≤ x12 ∧ x12 < ((s1.n : Nat) : Int) ∧ ∃ x15 : Int, World.cell? w2 ⟨p14.b, (p14.o + Int.toNat x12 * 1), none⟩ = some (.int .i64 x15) ∧ Join [(5, .slice)] (fun (s5_4 : Sl) (w4 : World) => J_2 ⟨s5_4.a, s5_4.n, s5_4.c⟩ w4) (fun J_3 =>
  LoopV [(5, .slice), (18, .int .i64)] (fun K => K ⟨s5_2.a, s5_2.n, s5_2.c⟩ (0 : Int) w2) (fun N_2 => fun (s5_5 : Sl) (x18 : Int) (w5 : World) =>
  cond (decide (x18 < ((s0.n : Nat) : Int))) (
  Join [(5, .slice)] (fun (s5_6 : Sl) (w6 : World) => N_2 ⟨s5_6.a, s5_6.n, s5_6.c⟩ (IntKind.wrap .i64 (x18 + (1 : Int))) w6) (fun J_4 =>
  ∃ p20 : Pt, s0.a = some ⟨p20.b, p20.o, none⟩ ∧ 0 ≤ x18 ∧ x18 < ((s0.n : Nat) : Int) ∧ ∃ x21_0 : Int, ∃ x21_1 : Int, ∃ x21_2 : Int, rd w5 p20.b (p20.o + Int.toNat x18 * 3) [(.int .i64 x21_0), (.int .i64 x21_1), (.int .i64 x21_2)] ∧ Let (w5.alloc (.cells (zc Try.prog 38) 38)) fun w7 => 
  StoreOk w7 w5.heap.size 0 [(.int .i64 x21_0), (.int .i64 x21_1), (.int .i64 x21_2)] 3 ∧ Let (put w7 w5.heap.size 0 [(.int .i64 x21_0), (.int .i64 x21_1), (.int .i64 x21_2)]) fun w8 => 
  ∃ x23 : Int, World.cell? w8 ⟨w5.heap.size, (0 + 0), none⟩ = some (.int .i64 x23) ∧ Join [(5, .slice)] (fun (s5_7 : Sl) (w9 : World) => J_4 ⟨s5_7.a, s5_7.n, s5_7.c⟩ w9) (fun J_5 =>
  cond (x23 == x15) (
  ∃ x27_0 : Int, ∃ x27_1 : Int, ∃ x27_2 : Int, rd w8 w5.heap.size 0 [(.int .i64 x27_0), (.int .i64 x27_1), (.int .i64 x27_2)] ∧ ∃ (s28 : Sl) (w10 : World), Sem.run Try.prog (Instr.buildSlice 29 1 [(0, (.agg [(.int .i64 x27_0), (.int .i64 x27_1), (.int .i64 x27_2)].toArray))].toArray) w8 = .ok (.slice s28.a s28.n s28.c) w10 ∧
  ∃ (s29 : Sl) (w11 : World), Sem.run Try.prog (Builtin.append_ #[29, 29] 29 #[(.slice s5_5.a s5_5.n s5_5.c), (.slice s28.a s28.n s28.c)]) w10 = .ok (.slice s29.a s29.n s29.c) w11 ∧
  J_5 ⟨s29.a, s29.n, s29.c⟩ w11) (
  J_5 ⟨s5_5.a, s5_5.n, s5_5.c⟩ w8)))) (
  J_3 ⟨s5_5.a, s5_5.n, s5_5.c⟩ w5))))) (
  J ⟨s5_2.a, s5_2.n, s5_2.c⟩ w2)))
theorem eq38 (s0 : Sl) (s1 : Sl) (R : Value → World → Prop) (w : World) : funV Try.prog Try.f38 A38 [(.slice s0.a s0.n s0.c), (.slice s1.a s1.n s1.c)] R w = S38 s0 s1 R w := by kernel_rfl
theorem call38 (s0 : Sl) (s1 : Sl) {R : Value → World → Prop} {w : World} (h : S38 s0 s1 R w) : Calls Try.prog 38 [(.slice s0.a s0.n s0.c), (.slice s1.a s1.n s1.c)].toArray w fun e w' => ∃ v, e = .returned v ∧ R v w' :=
  funV_calls mixed Try.func38 (an := A38) (by rw [eq38]; exact h)

/-- F39: (cubeb/history.view).same -/
def A39 : An := (.sq .lf (.sq (.sq .lf (.bk [] (.lp [(5, .int .i64)] (.sq (.sq .lf (.cd .lf .lf)) (.sq (.bk [] (.sq .lf (.cd (.sq .lf .lf) .lf))) .lf))))) (.sq .lf .lf)))
def S39 (m0_0 : Option Nat) (x0_1 : Int) (x0_2 : Int) (x0_3 : Int) (x0_4 : Int) (x0_5 : Int) (x0_6 : Int) (m1_0 : Option Nat) (x1_1 : Int) (x1_2 : Int) (x1_3 : Int) (x1_4 : Int) (x1_5 : Int) (x1_6 : Int) (R : Value → World → Prop) (w : World) : Prop :=
  Let (w.alloc (.cells [(.map m0_0), (.int .i64 x0_1), (.int .i64 x0_2), (.int .i64 x0_3), (.int .i64 x0_4), (.int .i64 x0_5), (.int .i64 x0_6)].toArray 65)) fun w1 => 
  Let (w1.alloc (.cells [(.map m1_0), (.int .i64 x1_1), (.int .i64 x1_2), (.int .i64 x1_3), (.int .i64 x1_4), (.int .i64 x1_5), (.int .i64 x1_6)].toArray 65)) fun w2 => 
  Join [] (fun (w3 : World) => ∃ cs21 : List Value, cs21.length = 6 ∧ rd w3 w.heap.size (0 + 1) cs21 ∧ ∃ cs23 : List Value, cs23.length = 6 ∧ rd w3 w1.heap.size (0 + 1) cs23 ∧ ∃ r24 : Bool, (∀ w, Sem.run Try.prog (aggEq .eql 63 (.agg cs21.toArray) (.agg cs23.toArray)) w = .ok (.bool r24) w) ∧ R (.bool r24) w3) (fun J =>
  LoopV [(5, .int .i64)] (fun K => K (1 : Int) w2) (fun N => fun (x5 : Int) (w4 : World) =>
  cond (decide (x5 ≤ (6 : Int))) (
  Join [] (fun (w5 : World) => N (IntKind.wrap .i64 (x5 + (1 : Int))) w5) (fun J_2 =>
  ∃ m11 : Option Nat, World.cell? w4 ⟨w.heap.size, (0 + 0), none⟩ = some (.map m11) ∧ ∃ s13 : Sl, Sem.run Try.prog (Instr.lookup 62 (.map m11) (.int .i64 x5) false) w4 = .ok (.slice s13.a s13.n s13.c) w4 ∧ ∃ m15 : Option Nat, World.cell? w4 ⟨w1.heap.size, (0 + 0), none⟩ = some (.map m15) ∧ ∃ s17 : Sl, Sem.run Try.prog (Instr.lookup 62 (.map m15) (.int .i64 x5) false) w4 = .ok (.slice s17.a s17.n s17.c) w4 ∧ Calls Try.prog 16 [(.slice s13.a s13.n s13.c), (.slice s17.a s17.n s17.c)].toArray w4 (fun e w6 => ∃ b18 : Bool, e = .returned (.bool b18) ∧
  cond (!b18) (
  R (.bool false) w6) (
  J_2 w6)))) (
  J w4)))
theorem eq39 (m0_0 : Option Nat) (x0_1 : Int) (x0_2 : Int) (x0_3 : Int) (x0_4 : Int) (x0_5 : Int) (x0_6 : Int) (m1_0 : Option Nat) (x1_1 : Int) (x1_2 : Int) (x1_3 : Int) (x1_4 : Int) (x1_5 : Int) (x1_6 : Int) (R : Value → World → Prop) (w : World) : funV Try.prog Try.f39 A39 [(.agg [(.map m0_0), (.int .i64 x0_1), (.int .i64 x0_2), (.int .i64 x0_3), (.int .i64 x0_4), (.int .i64 x0_5), (.int .i64 x0_6)].toArray), (.agg [(.map m1_0), (.int .i64 x1_1), (.int .i64 x1_2), (.int .i64 x1_3), (.int .i64 x1_4), (.int .i64 x1_5), (.int .i64 x1_6)].toArray)] R w = S39 m0_0 x0_1 x0_2 x0_3 x0_4 x0_5 x0_6 m1_0 x1_1 x1_2 x1_3 x1_4 x1_5 x1_6 R w := by kernel_rfl
theorem call39 (m0_0 : Option Nat) (x0_1 : Int) (x0_2 : Int) (x0_3 : Int) (x0_4 : Int) (x0_5 : Int) (x0_6 : Int) (m1_0 : Option Nat) (x1_1 : Int) (x1_2 : Int) (x1_3 : Int) (x1_4 : Int) (x1_5 : Int) (x1_6 : Int) {R : Value → World → Prop} {w : World} (h : S39 m0_0 x0_1 x0_2 x0_3 x0_4 x0_5 x0_6 m1_0 x1_1 x1_2 x1_3 x1_4 x1_5 x1_6 R w) : Calls Try.prog 39 [(.agg [(.map m0_0), (.int .i64 x0_1), (.int .i64 x0_2), (.int .i64 x0_3), (.int .i64 x0_4), (.int .i64 x0_5), (.int .i64 x0_6)].toArray), (.agg [(.map m1_0), (.int .i64 x1_1), (.int .i64 x1_2), (.int .i64 x1_3), (.int .i64 x1_4), (.int .i64 x1_5), (.int .i64 x1_6)].toArray)].toArray w fun e w' => ∃ v, e = .returned v ∧ R v w' :=
  funV_calls mixed Try.func39 (an := A39) (by rw [eq39]; exact h)

/-- F37: cubeb/history.View$1 -/
def A37 : An := (.sq .lf (.sq (.sq .lf (.cd (.sq (.dr [0, 1, 4, 2, 3, 5, 6] [] true none) .lf) .lf)) (.sq (.sq .lf (.bk [] (.lp [(21, .int .i64)] (.sq .lf (.sq (.cd .lf .lf) (.sq (.bk [] (.sq .lf (.sq (.sq .lf (.cd .lf .lf)) (.sq .lf (.sq (.sq .lf (.cd (.sq .lf .lf) .lf)) .lf))))) .lf)))))) (.sq .lf .lf))))
def S37 (p0 : Pt) (p1 : Pt) (p2 : Pt) (p3 : Pt) (p4 : Pt) (R : Value → World → Prop) (w : World) : Prop :=
  ∃ s8 : Sl, World.cell? w ⟨p0.b, p0.o, none⟩ = some (.slice s8.a s8.n s8.c) ∧ ∃ s10 : Sl, World.cell? w ⟨p1.b, p1.o, none⟩ = some (.slice s10.a s10.n s10.c) ∧ cond (((s8.n : Nat) : Int) == ((s10.n : Nat) : Int)) (
  ∃ S1 : World → Prop, S1 w.drew ∧ Let w.drew fun w1 =>
  ∃ s13 : Sl, (∀ u, S1 u → World.cell? u ⟨p2.b, p2.o, none⟩ = some (.slice s13.a s13.n s13.c)) ∧ ∃ s14 : Sl, (∀ u, S1 u → World.cell? u ⟨p0.b, p0.o, none⟩ = some (.slice s14.a s14.n s14.c)) ∧ ∃ m17_0 : Option Nat, ∃ x17_1 : Int, ∃ x17_2 : Int, ∃ x17_3 : Int, ∃ x17_4 : Int, ∃ x17_5 : Int, ∃ x17_6 : Int, (∀ u, S1 u → rd u p3.b p3.o [(.map m17_0), (.int .i64 x17_1), (.int .i64 x17_2), (.int .i64 x17_3), (.int .i64 x17_4), (.int .i64 x17_5), (.int .i64 x17_6)]) ∧ Calls Try.prog 38 [(.slice s13.a s13.n s13.c), (.slice s14.a s14.n s14.c)].toArray w1 (fun e w2 => ∃ s15 : Sl, e = .returned (.slice s15.a s15.n s15.c) ∧
  S1 w2 ∧ Calls Try.prog 35 [(.slice s15.a s15.n s15.c)].toArray w2 (fun e_2 w3 => ∃ m16_0 : Option Nat, ∃ x16_1 : Int, ∃ x16_2 : Int, ∃ x16_3 : Int, ∃ x16_4 : Int, ∃ x16_5 : Int, ∃ x16_6 : Int, e_2 = .returned (.agg [(.map m16_0), (.int .i64 x16_1), (.int .i64 x16_2), (.int .i64 x16_3), (.int .i64 x16_4), (.int .i64 x16_5), (.int .i64 x16_6)].toArray) ∧
  S1 w3 ∧ Calls Try.prog 39 [(.agg [(.map m16_0), (.int .i64 x16_1), (.int .i64 x16_2), (.int .i64 x16_3), (.int .i64 x16_4), (.int .i64 x16_5), (.int .i64 x16_6)].toArray), (.agg [(.map m17_0), (.int .i64 x17_1), (.int .i64 x17_2), (.int .i64 x17_3), (.int .i64 x17_4), (.int .i64 x17_5), (.int .i64 x17_6)].toArray)].toArray w3 (fun e_3 w4 => ∃ b18 : Bool, e_3 = .returned (.bool b18) ∧
  S1 w4 ∧ R (.bool b18) w4)))) (
  ∃ s19 : Sl, World.cell? w ⟨p1.b, p1.o, none⟩ = some (.slice s19.a s19.n s19.c) ∧ Join [] (fun (w5 : World) => R (.bool false) w5) (fun J =>
  LoopV [(21, .int .i64)] (fun K => K (0 : Int) w) (fun N => fun (x21 : Int) (w6 : World) =>
  cond (decide (x21 < ((s19.n : Nat) : Int))) (
  Join [] (fun (w7 : World) => N (IntKind.wrap .i64 (x21 + (1 : Int))) w7) (fun J_2 =>
  ∃ p23 : Pt, s19.a = some ⟨p23.b, p23.o, none⟩ ∧ 0 ≤ x21 ∧ x21 < ((s19.n : Nat) : Int) ∧ ∃ x24 : Int, World.cell? w6 ⟨p23.b, (p23.o + Int.toNat x21 * 1), none⟩ = some (.int .i64 x24) ∧ ∃ s25 : Sl, World.cell? w6 ⟨p0.b, p0.o, none⟩ = some (.slice s25.a s25.n s25.c) ∧ Calls Try.prog 28 [(.slice s25.a s25.n s25.c), (.int .i64 x24)].toArray w6 (fun e_4 w8 => ∃ b27 : Bool, e_4 = .returned (.bool b27) ∧
  cond b27 (
  J_2 w8) (
  ∃ s28 : Sl, World.cell? w8 ⟨p0.b, p0.o, none⟩ = some (.slice s28.a s28.n s28.c) ∧ ∃ (s30 : Sl) (w9 : World), Sem.run Try.prog (Instr.buildSlice 24 1 [(0, (.int .i64 x24))].toArray) w8 = .ok (.slice s30.a s30.n s30.c) w9 ∧
  ∃ (s31 : Sl) (w10 : World), Sem.run Try.prog (Builtin.append_ #[24, 24] 24 #[(.slice s28.a s28.n s28.c), (.slice s30.a s30.n s30.c)]) w9 = .ok (.slice s31.a s31.n s31.c) w10 ∧
  StoreOk w10 p0.b p0.o [(.slice s31.a s31.n s31.c)] 1 ∧ Let (put w10 p0.b p0.o [(.slice s31.a s31.n s31.c)]) fun w11 => 
  ∃ (f32 : Nat) (c32 : List Value), World.cell? w11 ⟨p4.b, p4.o, none⟩ = some (.func (.func f32) #[] c32.toArray) ∧ (bif callable Try.prog f32 then Calls Try.prog f32 (([] : List Value) ++ c32).toArray w11 (fun e_5 w12 => ∃ b33 : Bool, e_5 = .returned (.bool b33) ∧
  cond b33 (
  R (.bool true) w12) (
  ∃ s34 : Sl, World.cell? w12 ⟨p0.b, p0.o, none⟩ = some (.slice s34.a s34.n s34.c) ∧ ∃ s35 : Sl, World.cell? w12 ⟨p0.b, p0.o, none⟩ = some (.slice s35.a s35.n s35.c) ∧ 0 ≤ (IntKind.wrap .i64 (((s35.n : Nat) : Int) - (1 : Int))) ∧ (IntKind.wrap .i64 (((s35.n : Nat) : Int) - (1 : Int))) ≤ ((s34.c : Nat) : Int) ∧ StoreOk w12 p0.b p0.o [(.slice s34.a (Int.toNat (IntKind.wrap .i64 (((s35.n : Nat) : Int) - (1 : Int)))) s34.c)] 1 ∧ Let (put w12 p0.b p0.o [(.slice s34.a (Int.toNat (IntKind.wrap .i64 (((s35.n : Nat) : Int) - (1 : Int)))) s34.c)]) fun w13 => 
  J_2 w13)) else False))))) (
  J w6))))
theorem eq37 (p0 : Pt) (p1 : Pt) (p2 : Pt) (p3 : Pt) (p4 : Pt) (R : Value → World → Prop) (w : World) : funV Try.prog Try.f37 A37 [(.pointer (some ⟨p0.b, p0.o, none⟩)), (.pointer (some ⟨p1.b, p1.o, none⟩)), (.pointer (some ⟨p2.b, p2.o, none⟩)), (.pointer (some ⟨p3.b, p3.o, none⟩)), (.pointer (some ⟨p4.b, p4.o, none⟩))] R w = S37 p0 p1 p2 p3 p4 R w := by kernel_rfl
theorem call37 (p0 : Pt) (p1 : Pt) (p2 : Pt) (p3 : Pt) (p4 : Pt) {R : Value → World → Prop} {w : World} (h : S37 p0 p1 p2 p3 p4 R w) : Calls Try.prog 37 [(.pointer (some ⟨p0.b, p0.o, none⟩)), (.pointer (some ⟨p1.b, p1.o, none⟩)), (.pointer (some ⟨p2.b, p2.o, none⟩)), (.pointer (some ⟨p3.b, p3.o, none⟩)), (.pointer (some ⟨p4.b, p4.o, none⟩))].toArray w fun e w' => ∃ v, e = .returned v ∧ R v w' :=
  funV_calls mixed Try.func37 (an := A37) (by rw [eq37]; exact h)

/-- F11: cubeb/history.View -/
def A11 : An := (.sq .lf (.sq (.sq .lf (.cd (.sq .lf .lf) .lf)) (.sq .lf (.sq .lf (.sq .lf (.sq .lf (.sq .lf (.sq (.sq .lf (.cd (.sq .lf .lf) .lf)) (.sq .lf .lf)))))))))
def S11 (s0 : Sl) (R : Value → World → Prop) (w : World) : Prop :=
  Calls Try.prog 26 [(.slice s0.a s0.n s0.c)].toArray w (fun e w1 => ∃ b10 : Bool, e = .returned (.bool b10) ∧
  cond (!b10) (
  R (.tuple [(.slice none 0 0), (.int .i64 (2 : Int))].toArray) w1) (
  Calls Try.prog 34 [(.slice s0.a s0.n s0.c)].toArray w1 (fun e_2 w2 => ∃ s13 : Sl, e_2 = .returned (.slice s13.a s13.n s13.c) ∧
  Let (w2.alloc (.cells (zc Try.prog 29) 29)) fun w3 => 
  StoreOk w3 w2.heap.size 0 [(.slice s13.a s13.n s13.c)] 1 ∧ Let (put w3 w2.heap.size 0 [(.slice s13.a s13.n s13.c)]) fun w4 => 
  ∃ s14 : Sl, World.cell? w4 ⟨w2.heap.size, 0, none⟩ = some (.slice s14.a s14.n s14.c) ∧ Calls Try.prog 35 [(.slice s14.a s14.n s14.c)].toArray w4 (fun e_3 w5 => ∃ m15_0 : Option Nat, ∃ x15_1 : Int, ∃ x15_2 : Int, ∃ x15_3 : Int, ∃ x15_4 : Int, ∃ x15_5 : Int, ∃ x15_6 : Int, e_3 = .returned (.agg [(.map m15_0), (.int .i64 x15_1), (.int .i64 x15_2), (.int .i64 x15_3), (.int .i64 x15_4), (.int .i64 x15_5), (.int .i64 x15_6)].toArray) ∧
  Calls Try.prog 36 [(.slice s0.a s0.n s0.c)].toArray w5 (fun e_4 w6 => ∃ s17 : Sl, e_4 = .returned (.slice s17.a s17.n s17.c) ∧
  Let (w6.alloc (.cells (zc Try.prog 65) 65)) fun w7 => 
  Let (w7.alloc (.cells (zc Try.prog 24) 24)) fun w8 => 
  StoreOk w8 w6.heap.size 0 [(.map m15_0), (.int .i64 x15_1), (.int .i64 x15_2), (.int .i64 x15_3), (.int .i64 x15_4), (.int .i64 x15_5), (.int .i64 x15_6)] 7 ∧ Let (put w8 w6.heap.size 0 [(.map m15_0), (.int .i64 x15_1), (.int .i64 x15_2), (.int .i64 x15_3), (.int .i64 x15_4), (.int .i64 x15_5), (.int .i64 x15_6)]) fun w9 => 
  StoreOk w9 w7.heap.size 0 [(.slice s17.a s17.n s17.c)] 1 ∧ Let (put w9 w7.heap.size 0 [(.slice s17.a s17.n s17.c)]) fun w10 => 
  ∃ (s18 : Sl) (w11 : World), Sem.run Try.prog (Instr.buildSlice 24 0 [].toArray) w10 = .ok (.slice s18.a s18.n s18.c) w11 ∧
  Let (w11.alloc (.cells (zc Try.prog 24) 24)) fun w12 => 
  StoreOk w12 w11.heap.size 0 [(.slice s18.a s18.n s18.c)] 1 ∧ Let (put w12 w11.heap.size 0 [(.slice s18.a s18.n s18.c)]) fun w13 => 
  Let (w13.alloc (.cells (zc Try.prog 32) 32)) fun w14 => 
  StoreOk w14 w13.heap.size 0 [(.func (.func 37) #[] [(.pointer (some ⟨w11.heap.size, 0, none⟩)), (.pointer (some ⟨w7.heap.size, 0, none⟩)), (.pointer (some ⟨w2.heap.size, 0, none⟩)), (.pointer (some ⟨w6.heap.size, 0, none⟩)), (.pointer (some ⟨w13.heap.size, 0, none⟩))].toArray)] 1 ∧ Let (put w14 w13.heap.size 0 [(.func (.func 37) #[] [(.pointer (some ⟨w11.heap.size, 0, none⟩)), (.pointer (some ⟨w7.heap.size, 0, none⟩)), (.pointer (some ⟨w2.heap.size, 0, none⟩)), (.pointer (some ⟨w6.heap.size, 0, none⟩)), (.pointer (some ⟨w13.heap.size, 0, none⟩))].toArray)]) fun w15 => 
  ∃ (f20 : Nat) (c20 : List Value), World.cell? w15 ⟨w13.heap.size, 0, none⟩ = some (.func (.func f20) #[] c20.toArray) ∧ (bif callable Try.prog f20 then Calls Try.prog f20 (([] : List Value) ++ c20).toArray w15 (fun e_5 w16 => ∃ b21 : Bool, e_5 = .returned (.bool b21) ∧
  cond (!b21) (
  R (.tuple [(.slice none 0 0), (.int .i64 (5 : Int))].toArray) w16) (
  ∃ s23 : Sl, World.cell? w16 ⟨w11.heap.size, 0, none⟩ = some (.slice s23.a s23.n s23.c) ∧ R (.tuple [(.slice s23.a s23.n s23.c), (.int .i64 (0 : Int))].toArray) w16)) else False))))))
theorem eq11 (s0 : Sl) (R : Value → World → Prop) (w : World) : funV Try.prog Try.f11 A11 [(.slice s0.a s0.n s0.c)] R w = S11 s0 R w := by kernel_rfl
theorem call11 (s0 : Sl) {R : Value → World → Prop} {w : World} (h : S11 s0 R w) : Calls Try.prog 11 [(.slice s0.a s0.n s0.c)].toArray w fun e w' => ∃ v, e = .returned v ∧ R v w' :=
  funV_calls mixed Try.func11 (an := A11) (by rw [eq11]; exact h)

/-- F68: cubeb/cubebref05.end -/
def A68 : An := (.sq .lf (.sq (.sq .lf (.bk [] (.lp [(11, .int .i64)] (.sq .lf (.sq (.cd .lf .lf) (.sq (.bk [] (.sq .lf (.sq (.rj [] [(25, .bool)]) (.cd (.sq .lf .lf) .lf)))) .lf)))))) (.sq .lf .lf)))
def S68 (s0 : Sl) (x1 : Int) (x2 : Int) (R : Value → World → Prop) (w : World) : Prop :=
  Join [] (fun (w1 : World) => R (.int .i64 (-1 : Int)) w1) (fun J =>
  LoopV [(11, .int .i64)] (fun K => K (0 : Int) w) (fun N => fun (x11 : Int) (w2 : World) =>
  cond (decide (x11 < ((s0.n : Nat) : Int))) (
  Join [] (fun (w3 : World) => N (IntKind.wrap .i64 (x11 + (1 : Int))) w3) (fun J_2 =>
  ∃ p14 : Pt, s0.a = some ⟨p14.b, p14.o, none⟩ ∧ 0 ≤ x11 ∧ x11 < ((s0.n : Nat) : Int) ∧ ∃ x15_0 : Int, ∃ x15_1 : Int, ∃ x15_2 : Int, rd w2 p14.b (p14.o + Int.toNat x11 * 3) [(.int .i64 x15_0), (.int .i64 x15_1), (.int .i64 x15_2)] ∧ Let (w2.alloc (.cells (zc Try.prog 37) 37)) fun w4 => 
  StoreOk w4 w2.heap.size 0 [(.int .i64 x15_0), (.int .i64 x15_1), (.int .i64 x15_2)] 3 ∧ Let (put w4 w2.heap.size 0 [(.int .i64 x15_0), (.int .i64 x15_1), (.int .i64 x15_2)]) fun w5 => 
  Join [(25, .bool)] (fun (b25 : Bool) (w6 : World) => cond b25 (
  R (.int .i64 x11) w6) (
  J_2 w6)) (fun J_3 =>
  ∃ x17 : Int, World.cell? w5 ⟨w2.heap.size, (0 + 0), none⟩ = some (.int .i64 x17) ∧ cond (x17 == x1) (∃ x22 : Int, World.cell? w5 ⟨w2.heap.size, (0 + 1), none⟩ = some (.int .i64 x22) ∧ J_3 (x22 == x2) w5) (J_3 false w5)))) (
  J w2)))
theorem eq68 (s0 : Sl) (x1 : Int) (x2 : Int) (R : Value → World → Prop) (w : World) : funV Try.prog Try.f68 A68 [(.slice s0.a s0.n s0.c), (.int .i64 x1), (.int .i64 x2)] R w = S68 s0 x1 x2 R w := by kernel_rfl
theorem call68 (s0 : Sl) (x1 : Int) (x2 : Int) {R : Value → World → Prop} {w : World} (h : S68 s0 x1 x2 R w) : Calls Try.prog 68 [(.slice s0.a s0.n s0.c), (.int .i64 x1), (.int .i64 x2)].toArray w fun e w' => ∃ v, e = .returned v ∧ R v w' :=
  funV_calls mixed Try.func68 (an := A68) (by rw [eq68]; exact h)

/-- F41: cubeb/cubebref05.committed -/
def A41 : An := (.sq .lf (.sq .lf (.sq (.sq .lf (.bk [(3, .slice)] (.lp [(3, .slice), (4, .int .i64)] (.sq (.sq .lf (.cd .lf .lf)) (.sq (.bk [(3, .slice)] (.sq .lf (.cj [(3, .slice)] .lf .lf))) .lf))))) (.sq .lf .lf))))
def S41 (s0 : Sl) (R : Value → World → Prop) (w : World) : Prop :=
  Join [(3, .slice)] (fun (s3 : Sl) (w1 : World) => R (.slice s3.a s3.n s3.c) w1) (fun J =>
  LoopV [(3, .slice), (4, .int .i64)] (fun K => K ⟨none, 0, 0⟩ (1 : Int) w) (fun N => fun (s3_2 : Sl) (x4 : Int) (w2 : World) =>
  cond (decide (x4 ≤ (6 : Int))) (
  Join [(3, .slice)] (fun (s3_3 : Sl) (w3 : World) => N ⟨s3_3.a, s3_3.n, s3_3.c⟩ (IntKind.wrap .i64 (x4 + (1 : Int))) w3) (fun J_2 =>
  Calls Try.prog 68 [(.slice s0.a s0.n s0.c), (.int .i64 x4), (.int .i64 (2 : Int))].toArray w2 (fun e w4 => ∃ x11 : Int, e = .returned (.int .i64 x11) ∧
  Join [(3, .slice)] (fun (s3_4 : Sl) (w5 : World) => J_2 ⟨s3_4.a, s3_4.n, s3_4.c⟩ w5) (fun J_3 =>
  cond (decide (x11 ≥ (0 : Int))) (
  ∃ (s15 : Sl) (w6 : World), Sem.run Try.prog (Instr.buildSlice 24 1 [(0, (.int .i64 x4))].toArray) w4 = .ok (.slice s15.a s15.n s15.c) w6 ∧
  ∃ (s16 : Sl) (w7 : World), Sem.run Try.prog (Builtin.append_ #[24, 24] 24 #[(.slice s3_2.a s3_2.n s3_2.c), (.slice s15.a s15.n s15.c)]) w6 = .ok (.slice s16.a s16.n s16.c) w7 ∧
  J_3 ⟨s16.a, s16.n, s16.c⟩ w7) (
  J_3 ⟨s3_2.a, s3_2.n, s3_2.c⟩ w4))))) (
  J ⟨s3_2.a, s3_2.n, s3_2.c⟩ w2)))
theorem eq41 (s0 : Sl) (R : Value → World → Prop) (w : World) : funV Try.prog Try.f41 A41 [(.slice s0.a s0.n s0.c)] R w = S41 s0 R w := by kernel_rfl
theorem call41 (s0 : Sl) {R : Value → World → Prop} {w : World} (h : S41 s0 R w) : Calls Try.prog 41 [(.slice s0.a s0.n s0.c)].toArray w fun e w' => ∃ v, e = .returned v ∧ R v w' :=
  funV_calls mixed Try.func41 (an := A41) (by rw [eq41]; exact h)

/-- F70: cubeb/cubebref05.part -/
def A70 : An := (.sq .lf (.sq .lf (.sq (.sq .lf (.bk [(3, .slice)] (.lp [(3, .slice), (8, .int .i64)] (.sq .lf (.sq (.cd .lf .lf) (.sq (.bk [(3, .slice)] (.sq .lf (.sq .lf (.cj [(3, .slice)] .lf .lf)))) .lf)))))) (.sq .lf .lf))))
def S70 (s0 : Sl) (R : Value → World → Prop) (w : World) : Prop :=
  Join [(3, .slice)] (fun (s3 : Sl) (w1 : World) => R (.slice s3.a s3.n s3.c) w1) (fun J =>
  LoopV [(3, .slice), (8, .int .i64)] (fun K => K ⟨none, 0, 0⟩ (0 : Int) w) (fun N => fun (s3_2 : Sl) (x8 : Int) (w2 : World) =>
  cond (decide (x8 < ((s0.n : Nat) : Int))) (
  Join [(3, .slice)] (fun (s3_3 : Sl) (w3 : World) => N ⟨s3_3.a, s3_3.n, s3_3.c⟩ (IntKind.wrap .i64 (x8 + (1 : Int))) w3) (fun J_2 =>
  ∃ p10 : Pt, s0.a = some ⟨p10.b, p10.o, none⟩ ∧ 0 ≤ x8 ∧ x8 < ((s0.n : Nat) : Int) ∧ ∃ x11_0 : Int, ∃ x11_1 : Int, ∃ x11_2 : Int, rd w2 p10.b (p10.o + Int.toNat x8 * 3) [(.int .i64 x11_0), (.int .i64 x11_1), (.int .i64 x11_2)] ∧ Let (w2.alloc (.cells (zc Try.prog 37) 37)) fun w4 => 
  StoreOk w4 w2.heap.size 0 [(.int .i64 x11_0), (.int .i64 x11_1), (.int .i64 x11_2)] 3 ∧ Let (put w4 w2.heap.size 0 [(.int .i64 x11_0), (.int .i64 x11_1), (.int .i64 x11_2)]) fun w5 => 
  ∃ x14 : Int, World.cell? w5 ⟨w2.heap.size, (0 + 0), none⟩ = some (.int .i64 x14) ∧ Calls Try.prog 68 [(.slice s0.a s0.n s0.c), (.int .i64 x14), (.int .i64 (2 : Int))].toArray w5 (fun e w6 => ∃ x15 : Int, e = .returned (.int .i64 x15) ∧
  Join [(3, .slice)] (fun (s3_4 : Sl) (w7 : World) => J_2 ⟨s3_4.a, s3_4.n, s3_4.c⟩ w7) (fun J_3 =>
  cond (decide (x15 ≥ (0 : Int))) (
  ∃ x18_0 : Int, ∃ x18_1 : Int, ∃ x18_2 : Int, rd w6 w2.heap.size 0 [(.int .i64 x18_0), (.int .i64 x18_1), (.int .i64 x18_2)] ∧ ∃ (s19 : Sl) (w8 : World), Sem.run Try.prog (Instr.buildSlice 23 1 [(0, (.agg [(.int .i64 x18_0), (.int .i64 x18_1), (.int .i64 x18_2)].toArray))].toArray) w6 = .ok (.slice s19.a s19.n s19.c) w8 ∧
  ∃ (s20 : Sl) (w9 : World), Sem.run Try.prog (Builtin.append_ #[23, 23] 23 #[(.slice s3_2.a s3_2.n s3_2.c), (.slice s19.a s19.n s19.c)]) w8 = .ok (.slice s20.a s20.n s20.c) w9 ∧
  J_3 ⟨s20.a, s20.n, s20.c⟩ w9) (
  J_3 ⟨s3_2.a, s3_2.n, s3_2.c⟩ w6))))) (
  J ⟨s3_2.a, s3_2.n, s3_2.c⟩ w2)))
theorem eq70 (s0 : Sl) (R : Value → World → Prop) (w : World) : funV Try.prog Try.f70 A70 [(.slice s0.a s0.n s0.c)] R w = S70 s0 R w := by kernel_rfl
theorem call70 (s0 : Sl) {R : Value → World → Prop} {w : World} (h : S70 s0 R w) : Calls Try.prog 70 [(.slice s0.a s0.n s0.c)].toArray w fun e w' => ∃ v, e = .returned v ∧ R v w' :=
  funV_calls mixed Try.func70 (an := A70) (by rw [eq70]; exact h)

/-- F71: cubeb/cubebref05.serial -/
def A71 : An := (.sq .lf (.sq .lf (.sq (.sq .lf (.bk [(5, .slice)] (.lp [(5, .slice), (12, .int .i64)] (.sq .lf (.sq (.cd .lf .lf) (.sq (.bk [(5, .slice)] (.sq .lf (.sq .lf (.bk [(5, .slice)] (.lp [(5, .slice), (18, .int .i64)] (.sq .lf (.sq (.cd .lf .lf) (.sq (.bk [(5, .slice)] (.sq .lf (.sq .lf (.cj [(5, .slice)] .lf .lf)))) .lf)))))))) .lf)))))) (.sq .lf .lf))))
def S71 (s0 : Sl) (s1 : Sl) (R : Value → World → Prop) (w : World) : Prop :=
  Join [(5, .slice)] (fun (s5 : Sl) (w1 : World) => R (.slice s5.a s5.n s5.c) w1) (fun J =>
  LoopV [(5, .slice), (12, .int .i64)] (fun K => K ⟨none, 0, 0⟩ (0 : Int) w) (fun N => fun (s5_2 : Sl) (x12 : Int) (w2 : World) =>
  cond (decide (x12 < ((s1.n : Nat) : Int))) (
  Join [(5, .slice)] (fun (s5_3 : Sl) (w3 : World) => N ⟨s5_3.a, s5_3.n, s5_3.c⟩ (IntKind.wrap .i64 (x12 + (1 : Int))) w3) (fun J_2 =>
  ∃ p14 : Pt, s1.a = some ⟨p14.b, p14.o, none⟩ ∧ 0 ≤ x12 ∧ x12 < ((s1.n : Nat) : Int) ∧ ∃ x15 : Int, World.cell? w2 ⟨p14.b, (p14.o + Int.toNat x12 * 1), none⟩ = some (.int .i64 x15) ∧ Join [(5, .slice)] (fun (s5_4 : Sl) (w4 : World) => J_2 ⟨s5_4.a, s5_4.n, s5_4.c⟩ w4) (fun J_3 =>
  LoopV [(5, .slice), (18, .int .i64)] (fun K => K ⟨s5_2.a, s5_2.n, s5_2.c⟩ (0 : Int) w2) (fun N_2 => fun (s5_5 : Sl) (x18 : Int) (w5 : World) =>
  cond (decide (x18 < ((s0.n : Nat) : Int))) (
  Join [(5, .slice)] (fun (s5_6 : Sl) (w6 : World) => N_2 ⟨s5_6.a, s5_6.n, s5_6.c⟩ (IntKind.wrap .i64 (x18 + (1 : Int))) w6) (fun J_4 =>
  ∃ p20 : Pt, s0.a = some ⟨p20.b, p20.o, none⟩ ∧ 0 ≤ x18 ∧ x18 < ((s0.n : Nat) : Int) ∧ ∃ x21_0 : Int, ∃ x21_1 : Int, ∃ x21_2 : Int, rd w5 p20.b (p20.o + Int.toNat x18 * 3) [(.int .i64 x21_0), (.int .i64 x21_1), (.int .i64 x21_2)] ∧ Let (w5.alloc (.cells (zc Try.prog 37) 37)) fun w7 => 
  StoreOk w7 w5.heap.size 0 [(.int .i64 x21_0), (.int .i64 x21_1), (.int .i64 x21_2)] 3 ∧ Let (put w7 w5.heap.size 0 [(.int .i64 x21_0), (.int .i64 x21_1), (.int .i64 x21_2)]) fun w8 => 
  ∃ x23 : Int, World.cell? w8 ⟨w5.heap.size, (0 + 0), none⟩ = some (.int .i64 x23) ∧ Join [(5, .slice)] (fun (s5_7 : Sl) (w9 : World) => J_4 ⟨s5_7.a, s5_7.n, s5_7.c⟩ w9) (fun J_5 =>
  cond (x23 == x15) (
  ∃ x27_0 : Int, ∃ x27_1 : Int, ∃ x27_2 : Int, rd w8 w5.heap.size 0 [(.int .i64 x27_0), (.int .i64 x27_1), (.int .i64 x27_2)] ∧ ∃ (s28 : Sl) (w10 : World), Sem.run Try.prog (Instr.buildSlice 23 1 [(0, (.agg [(.int .i64 x27_0), (.int .i64 x27_1), (.int .i64 x27_2)].toArray))].toArray) w8 = .ok (.slice s28.a s28.n s28.c) w10 ∧
  ∃ (s29 : Sl) (w11 : World), Sem.run Try.prog (Builtin.append_ #[23, 23] 23 #[(.slice s5_5.a s5_5.n s5_5.c), (.slice s28.a s28.n s28.c)]) w10 = .ok (.slice s29.a s29.n s29.c) w11 ∧
  J_5 ⟨s29.a, s29.n, s29.c⟩ w11) (
  J_5 ⟨s5_5.a, s5_5.n, s5_5.c⟩ w8)))) (
  J_3 ⟨s5_5.a, s5_5.n, s5_5.c⟩ w5))))) (
  J ⟨s5_2.a, s5_2.n, s5_2.c⟩ w2)))
theorem eq71 (s0 : Sl) (s1 : Sl) (R : Value → World → Prop) (w : World) : funV Try.prog Try.f71 A71 [(.slice s0.a s0.n s0.c), (.slice s1.a s1.n s1.c)] R w = S71 s0 s1 R w := by kernel_rfl
theorem call71 (s0 : Sl) (s1 : Sl) {R : Value → World → Prop} {w : World} (h : S71 s0 s1 R w) : Calls Try.prog 71 [(.slice s0.a s0.n s0.c), (.slice s1.a s1.n s1.c)].toArray w fun e w' => ∃ v, e = .returned v ∧ R v w' :=
  funV_calls mixed Try.func71 (an := A71) (by rw [eq71]; exact h)

/-- F92: cubeb/cubebref05.From -/
def A92 : An := (.sq .lf (.sq .lf (.sq (.sq .lf (.bk [(3, .slice)] (.lp [(3, .slice), (12, .int .i64)] (.sq .lf (.sq (.cd .lf .lf) (.sq (.bk [(3, .slice)] (.sq .lf (.sq .lf (.sq (.sq .lf (.cj [(6, .int .i64)] (.sq .lf (.sq .lf (.bk [(6, .int .i64)] (.lp [(6, .int .i64), (24, .int .i64)] (.sq .lf (.sq (.cd .lf .lf) (.sq (.bk [(6, .int .i64)] (.sq .lf (.sq (.rj [] [(37, .bool)]) (.cj [(6, .int .i64)] (.sq .lf (.sq (.rj [] [(48, .bool)]) (.cj [(6, .int .i64)] .lf .lf))) .lf)))) .lf))))))) .lf)) .lf)))) .lf)))))) (.sq .lf .lf))))
def S92 (s0 : Sl) (R : Value → World → Prop) (w : World) : Prop :=
  Join [(3, .slice)] (fun (s3 : Sl) (w1 : World) => R (.slice s3.a s3.n s3.c) w1) (fun J =>
  LoopV [(3, .slice), (12, .int .i64)] (fun K => K ⟨none, 0, 0⟩ (0 : Int) w) (fun N => fun (s3_2 : Sl) (x12 : Int) (w2 : World) =>
  cond (decide (x12 < ((s0.n : Nat) : Int))) (
  Join [(3, .slice)] (fun (s3_3 : Sl) (w3 : World) => N ⟨s3_3.a, s3_3.n, s3_3.c⟩ (IntKind.wrap .i64 (x12 + (1 : Int))) w3) (fun J_2 =>
  ∃ p15 : Pt, s0.a = some ⟨p15.b, p15.o, none⟩ ∧ 0 ≤ x12 ∧ x12 < ((s0.n : Nat) : Int) ∧ ∃ x16_0 : Int, ∃ x16_1 : Int, ∃ x16_2 : Int, rd w2 p15.b (p15.o + Int.toNat x12 * 3) [(.int .i64 x16_0), (.int .i64 x16_1), (.int .i64 x16_2)] ∧ Let (w2.alloc (.cells (zc Try.prog 37) 37)) fun w4 => 
  StoreOk w4 w2.heap.size 0 [(.int .i64 x16_0), (.int .i64 x16_1), (.int .i64 x16_2)] 3 ∧ Let (put w4 w2.heap.size 0 [(.int .i64 x16_0), (.int .i64 x16_1), (.int .i64 x16_2)]) fun w5 => 
  ∃ x18 : Int, World.cell? w5 ⟨w2.heap.size, (0 + 1), none⟩ = some (.int .i64 x18) ∧ Join [(6, .int .i64)] (fun (x6 : Int) (w6 : World) => ∃ (s54 : Sl) (w7 : World), Sem.run Try.prog (Instr.buildSlice 24 1 [(0, (.int .i64 x6))].toArray) w6 = .ok (.slice s54.a s54.n s54.c) w7 ∧
  ∃ (s55 : Sl) (w8 : World), Sem.run Try.prog (Builtin.append_ #[24, 24] 24 #[(.slice s3_2.a s3_2.n s3_2.c), (.slice s54.a s54.n s54.c)]) w7 = .ok (.slice s55.a s55.n s55.c) w8 ∧
  J_2 ⟨s55.a, s55.n, s55.c⟩ w8) (fun J_3 =>
  cond (x18 == (0 : Int)) (
  0 ≤ x12 ∧ x12 ≤ ((s0.c : Nat) : Int) ∧ Join [(6, .int .i64)] (fun (x6_2 : Int) (w9 : World) => J_3 x6_2 w9) (fun J_4 =>
  LoopV [(6, .int .i64), (24, .int .i64)] (fun K => K (0 : Int) (0 : Int) w5) (fun N_2 => fun (x6_3 : Int) (x24 : Int) (w10 : World) =>
  cond (decide (x24 < (((Int.toNat x12) : Nat) : Int))) (
  Join [(6, .int .i64)] (fun (x6_4 : Int) (w11 : World) => N_2 x6_4 (IntKind.wrap .i64 (x24 + (1 : Int))) w11) (fun J_5 =>
  ∃ p26 : Pt, s0.a = some ⟨p26.b, p26.o, none⟩ ∧ 0 ≤ x24 ∧ x24 < (((Int.toNat x12) : Nat) : Int) ∧ ∃ x27_0 : Int, ∃ x27_1 : Int, ∃ x27_2 : Int, rd w10 p26.b (p26.o + Int.toNat x24 * 3) [(.int .i64 x27_0), (.int .i64 x27_1), (.int .i64 x27_2)] ∧ Let (w10.alloc (.cells (zc Try.prog 37) 37)) fun w12 => 
  StoreOk w12 w10.heap.size 0 [(.int .i64 x27_0), (.int .i64 x27_1), (.int .i64 x27_2)] 3 ∧ Let (put w12 w10.heap.size 0 [(.int .i64 x27_0), (.int .i64 x27_1), (.int .i64 x27_2)]) fun w13 => 
  Join [(37, .bool)] (fun (b37 : Bool) (w14 : World) => Join [(6, .int .i64)] (fun (x6_5 : Int) (w15 : World) => J_5 x6_5 w15) (fun J_6 =>
  cond b37 (
  ∃ x40 : Int, World.cell? w14 ⟨w10.heap.size, (0 + 0), none⟩ = some (.int .i64 x40) ∧ Calls Try.prog 68 [(.slice s0.a s0.n s0.c), (.int .i64 x40), (.int .i64 (3 : Int))].toArray w14 (fun e w16 => ∃ x41 : Int, e = .returned (.int .i64 x41) ∧
  Join [(48, .bool)] (fun (b48 : Bool) (w17 : World) => Join [(6, .int .i64)] (fun (x6_6 : Int) (w18 : World) => J_6 x6_6 w18) (fun J_7 =>
  cond b48 (
  ∃ x50 : Int, World.cell? w17 ⟨w10.heap.size, (0 + 0), none⟩ = some (.int .i64 x50) ∧ J_7 x50 w17) (
  J_7 x6_3 w17))) (fun J_8 =>
  cond (decide (x41 < (0 : Int))) (J_8 true w16) (J_8 (decide (x41 > x12)) w16)))) (
  J_6 x6_3 w14))) (fun J_9 =>
  ∃ x29 : Int, World.cell? w13 ⟨w10.heap.size, (0 + 1), none⟩ = some (.int .i64 x29) ∧ cond (x29 == (1 : Int)) (∃ x33 : Int, World.cell? w13 ⟨w10.heap.size, (0 + 2), none⟩ = some (.int .i64 x33) ∧ ∃ x35 : Int, World.cell? w13 ⟨w2.heap.size, (0 + 2), none⟩ = some (.int .i64 x35) ∧ J_9 (x33 == x35) w13) (J_9 false w13)))) (
  J_4 x6_3 w10)))) (
  J_3 (-1 : Int) w5)))) (
  J ⟨s3_2.a, s3_2.n, s3_2.c⟩ w2)))
theorem eq92 (s0 : Sl) (R : Value → World → Prop) (w : World) : funV Try.prog Try.f92 A92 [(.slice s0.a s0.n s0.c)] R w = S92 s0 R w := by kernel_rfl
theorem call92 (s0 : Sl) {R : Value → World → Prop} {w : World} (h : S92 s0 R w) : Calls Try.prog 92 [(.slice s0.a s0.n s0.c)].toArray w fun e w' => ∃ v, e = .returned v ∧ R v w' :=
  funV_calls mixed Try.func92 (an := A92) (by rw [eq92]; exact h)

/-- F69: cubeb/cubebref05.view -/
def A69 : An := (.sq .lf (.sq .lf (.sq .lf (.sq (.sq .lf (.bk [(4, .slice)] (.lp [(4, .slice), (5, .int .i64)] (.sq (.sq .lf (.cd .lf .lf)) (.sq (.bk [(4, .slice)] (.sq .lf (.bk [(4, .slice)] (.lp [(4, .slice), (19, .int .i64)] (.sq .lf (.sq (.cd .lf .lf) (.sq (.bk [(4, .slice)] (.sq .lf (.sq (.rj [] [(32, .bool)]) (.cj [(4, .slice)] .lf .lf)))) .lf))))))) .lf))))) (.sq .lf (.sq (.sq .lf (.bk [] (.lp [(43, .int .i64)] (.sq .lf (.sq (.cd .lf .lf) (.sq (.bk [] (.sq .lf (.sq .lf (.cj [] .lf .lf)))) .lf)))))) (.sq .lf .lf)))))))
def S69 (s0 : Sl) (R : Value → World → Prop) (w : World) : Prop :=
  Calls Try.prog 92 [(.slice s0.a s0.n s0.c)].toArray w (fun e w1 => ∃ s12 : Sl, e = .returned (.slice s12.a s12.n s12.c) ∧
  Join [(4, .slice)] (fun (s4 : Sl) (w2 : World) => Let (w2.alloc (.cells (zc Try.prog 63) 63)) fun w3 => 
  Join [] (fun (w4 : World) => ∃ (s58 : Sl) (w5 : World), Sem.run Try.prog (Builtin.append_ #[24, 24] 24 #[(.slice s4.a s4.n s4.c), (.slice (some ⟨w2.heap.size, 0, none⟩) 6 6)]) w4 = .ok (.slice s58.a s58.n s58.c) w5 ∧
  R (.slice s58.a s58.n s58.c) w5) (fun J =>
  LoopV [(43, .int .i64)] (fun K => K (0 : Int) w3) (fun N => fun (x43 : Int) (w6 : World) =>
  cond (decide (x43 < ((s0.n : Nat) : Int))) (
  Join [] (fun (w7 : World) => N (IntKind.wrap .i64 (x43 + (1 : Int))) w7) (fun J_2 =>
  ∃ p45 : Pt, s0.a = some ⟨p45.b, p45.o, none⟩ ∧ 0 ≤ x43 ∧ x43 < ((s0.n : Nat) : Int) ∧ ∃ x46_0 : Int, ∃ x46_1 : Int, ∃ x46_2 : Int, rd w6 p45.b (p45.o + Int.toNat x43 * 3) [(.int .i64 x46_0), (.int .i64 x46_1), (.int .i64 x46_2)] ∧ Let (w6.alloc (.cells (zc Try.prog 37) 37)) fun w8 => 
  StoreOk w8 w6.heap.size 0 [(.int .i64 x46_0), (.int .i64 x46_1), (.int .i64 x46_2)] 3 ∧ Let (put w8 w6.heap.size 0 [(.int .i64 x46_0), (.int .i64 x46_1), (.int .i64 x46_2)]) fun w9 => 
  ∃ x48 : Int, World.cell? w9 ⟨w6.heap.size, (0 + 1), none⟩ = some (.int .i64 x48) ∧ Join [] (fun (w10 : World) => J_2 w10) (fun J_3 =>
  cond (x48 == (1 : Int)) (
  ∃ x51 : Int, World.cell? w9 ⟨w6.heap.size, (0 + 2), none⟩ = some (.int .i64 x51) ∧ ∃ x53 : Int, World.cell? w9 ⟨w6.heap.size, (0 + 0), none⟩ = some (.int .i64 x53) ∧ 0 ≤ x51 ∧ x51 < ((6 : Nat) : Int) ∧ StoreOk w9 w2.heap.size (0 + Int.toNat x51 * 1) [(.int .i64 x53)] 1 ∧ Let (put w9 w2.heap.size (0 + Int.toNat x51 * 1) [(.int .i64 x53)]) fun w11 => 
  J_3 w11) (
  J_3 w9)))) (
  J w6)))) (fun J_4 =>
  LoopV [(4, .slice), (5, .int .i64)] (fun K => K ⟨none, 0, 0⟩ (1 : Int) w1) (fun N_2 => fun (s4_2 : Sl) (x5 : Int) (w12 : World) =>
  cond (decide (x5 ≤ (6 : Int))) (
  Join [(4, .slice)] (fun (s4_3 : Sl) (w13 : World) => N_2 ⟨s4_3.a, s4_3.n, s4_3.c⟩ (IntKind.wrap .i64 (x5 + (1 : Int))) w13) (fun J_5 =>
  Join [(4, .slice)] (fun (s4_4 : Sl) (w14 : World) => J_5 ⟨s4_4.a, s4_4.n, s4_4.c⟩ w14) (fun J_6 =>
  LoopV [(4, .slice), (19, .int .i64)] (fun K => K ⟨s4_2.a, s4_2.n, s4_2.c⟩ (0 : Int) w12) (fun N_3 => fun (s4_5 : Sl) (x19 : Int) (w15 : World) =>
  cond (decide (x19 < ((s0.n : Nat) : Int))) (
  Join [(4, .slice)] (fun (s4_6 : Sl) (w16 : World) => N_3 ⟨s4_6.a, s4_6.n, s4_6.c⟩ (IntKind.wrap .i64 (x19 + (1 : Int))) w16) (fun J_7 =>
  ∃ p22 : Pt, s0.a = some ⟨p22.b, p22.o, none⟩ ∧ 0 ≤ x19 ∧ x19 < ((s0.n : Nat) : Int) ∧ ∃ x23_0 : Int, ∃ x23_1 : Int, ∃ x23_2 : Int, rd w15 p22.b (p22.o + Int.toNat x19 * 3) [(.int .i64 x23_0), (.int .i64 x23_1), (.int .i64 x23_2)] ∧ Let (w15.alloc (.cells (zc Try.prog 37) 37)) fun w17 => 
  StoreOk w17 w15.heap.size 0 [(.int .i64 x23_0), (.int .i64 x23_1), (.int .i64 x23_2)] 3 ∧ Let (put w17 w15.heap.size 0 [(.int .i64 x23_0), (.int .i64 x23_1), (.int .i64 x23_2)]) fun w18 => 
  Join [(32, .bool)] (fun (b32 : Bool) (w19 : World) => Join [(4, .slice)] (fun (s4_7 : Sl) (w20 : World) => J_7 ⟨s4_7.a, s4_7.n, s4_7.c⟩ w20) (fun J_8 =>
  cond b32 (
  ∃ p36 : Pt, s12.a = some ⟨p36.b, p36.o, none⟩ ∧ 0 ≤ x19 ∧ x19 < ((s12.n : Nat) : Int) ∧ ∃ x37 : Int, World.cell? w19 ⟨p36.b, (p36.o + Int.toNat x19 * 1), none⟩ = some (.int .i64 x37) ∧ ∃ (s38 : Sl) (w21 : World), Sem.run Try.prog (Instr.buildSlice 24 1 [(0, (.int .i64 x37))].toArray) w19 = .ok (.slice s38.a s38.n s38.c) w21 ∧
  ∃ (s39 : Sl) (w22 : World), Sem.run Try.prog (Builtin.append_ #[24, 24] 24 #[(.slice s4_5.a s4_5.n s4_5.c), (.slice s38.a s38.n s38.c)]) w21 = .ok (.slice s39.a s39.n s39.c) w22 ∧
  J_8 ⟨s39.a, s39.n, s39.c⟩ w22) (
  J_8 ⟨s4_5.a, s4_5.n, s4_5.c⟩ w19))) (fun J_9 =>
  ∃ x25 : Int, World.cell? w18 ⟨w15.heap.size, (0 + 0), none⟩ = some (.int .i64 x25) ∧ cond (x25 == x5) (∃ x30 : Int, World.cell? w18 ⟨w15.heap.size, (0 + 1), none⟩ = some (.int .i64 x30) ∧ J_9 (x30 == (0 : Int)) w18) (J_9 false w18)))) (
  J_6 ⟨s4_5.a, s4_5.n, s4_5.c⟩ w15))))) (
  J_4 ⟨s4_2.a, s4_2.n, s4_2.c⟩ w12))))
theorem eq69 (s0 : Sl) (R : Value → World → Prop) (w : World) : funV Try.prog Try.f69 A69 [(.slice s0.a s0.n s0.c)] R w = S69 s0 R w := by kernel_rfl
theorem call69 (s0 : Sl) {R : Value → World → Prop} {w : World} (h : S69 s0 R w) : Calls Try.prog 69 [(.slice s0.a s0.n s0.c)].toArray w fun e w' => ∃ v, e = .returned v ∧ R v w' :=
  funV_calls mixed Try.func69 (an := A69) (by rw [eq69]; exact h)

/-- F42: cubeb/cubebref05.Seen -/
def A42 : An := (.sq .lf (.sq .lf (.sq (.sq .lf (.bk [] (.lp [(18, .int .i64)] (.sq .lf (.sq (.cd .lf .lf) (.sq (.bk [] (.sq .lf (.sq .lf (.cd (.sq .lf .lf) .lf)))) .lf)))))) (.sq .lf .lf))))
def S42 (s0 : Sl) (s1 : Sl) (R : Value → World → Prop) (w : World) : Prop :=
  Calls Try.prog 70 [(.slice s0.a s0.n s0.c)].toArray w (fun e w1 => ∃ s10 : Sl, e = .returned (.slice s10.a s10.n s10.c) ∧
  Calls Try.prog 69 [(.slice s10.a s10.n s10.c)].toArray w1 (fun e_2 w2 => ∃ s11 : Sl, e_2 = .returned (.slice s11.a s11.n s11.c) ∧
  Calls Try.prog 71 [(.slice s0.a s0.n s0.c), (.slice s1.a s1.n s1.c)].toArray w2 (fun e_3 w3 => ∃ s14 : Sl, e_3 = .returned (.slice s14.a s14.n s14.c) ∧
  Calls Try.prog 69 [(.slice s14.a s14.n s14.c)].toArray w3 (fun e_4 w4 => ∃ s15 : Sl, e_4 = .returned (.slice s15.a s15.n s15.c) ∧
  Join [] (fun (w5 : World) => R (.bool true) w5) (fun J =>
  LoopV [(18, .int .i64)] (fun K => K (0 : Int) w4) (fun N => fun (x18 : Int) (w6 : World) =>
  cond (decide (x18 < ((s11.n : Nat) : Int))) (
  Join [] (fun (w7 : World) => N (IntKind.wrap .i64 (x18 + (1 : Int))) w7) (fun J_2 =>
  ∃ p21 : Pt, s11.a = some ⟨p21.b, p21.o, none⟩ ∧ 0 ≤ x18 ∧ x18 < ((s11.n : Nat) : Int) ∧ ∃ x22 : Int, World.cell? w6 ⟨p21.b, (p21.o + Int.toNat x18 * 1), none⟩ = some (.int .i64 x22) ∧ ∃ p25 : Pt, s15.a = some ⟨p25.b, p25.o, none⟩ ∧ 0 ≤ x18 ∧ x18 < ((s15.n : Nat) : Int) ∧ ∃ x26 : Int, World.cell? w6 ⟨p25.b, (p25.o + Int.toNat x18 * 1), none⟩ = some (.int .i64 x26) ∧ cond (x26 != x22) (
  R (.bool false) w6) (
  J_2 w6))) (
  J w6)))))))
theorem eq42 (s0 : Sl) (s1 : Sl) (R : Value → World → Prop) (w : World) : funV Try.prog Try.f42 A42 [(.slice s0.a s0.n s0.c), (.slice s1.a s1.n s1.c)] R w = S42 s0 s1 R w := by kernel_rfl
theorem call42 (s0 : Sl) (s1 : Sl) {R : Value → World → Prop} {w : World} (h : S42 s0 s1 R w) : Calls Try.prog 42 [(.slice s0.a s0.n s0.c), (.slice s1.a s1.n s1.c)].toArray w fun e w' => ∃ v, e = .returned v ∧ R v w' :=
  funV_calls mixed Try.func42 (an := A42) (by rw [eq42]; exact h)

/-- F40: cubeb/cubebref05.perms -/
def A40 : An := (.sq .lf (.sq (.sq .lf (.cd (.sq .lf .lf) .lf)) (.sq .lf (.sq (.sq .lf (.bk [(3, .slice)] (.lp [(3, .slice), (15, .int .i64)] (.sq .lf (.sq (.cd .lf .lf) (.sq (.bk [(3, .slice)] (.sq .lf (.sq (.dr [1, 2, 3, 5, 6, 7, 8, 0, 4, 9, 10] [] false none) (.sq .lf (.bk [(3, .slice)] (.lp [(3, .slice), (33, .int .i64)] (.sq .lf (.sq (.cd .lf .lf) (.sq (.bk [(3, .slice)] (.sq .lf .lf)) .lf))))))))) .lf)))))) (.sq .lf .lf)))))
def S40 (s0 : Sl) (R : Value → World → Prop) (w : World) : Prop :=
  cond (((s0.n : Nat) : Int) == (0 : Int)) (
  ∃ (s12 : Sl) (w1 : World), Sem.run Try.prog (Instr.buildSlice 70 1 [(0, (.slice none 0 0))].toArray) w = .ok (.slice s12.a s12.n s12.c) w1 ∧
  R (.slice s12.a s12.n s12.c) w1) (
  Join [(3, .slice)] (fun (s3 : Sl) (w2 : World) => R (.slice s3.a s3.n s3.c) w2) (fun J =>
  LoopV [(3, .slice), (15, .int .i64)] (fun K => K ⟨none, 0, 0⟩ (0 : Int) w) (fun N => fun (s3_2 : Sl) (x15 : Int) (w3 : World) =>
  cond (decide (x15 < ((s0.n : Nat) : Int))) (
  Join [(3, .slice)] (fun (s3_3 : Sl) (w4 : World) => N ⟨s3_3.a, s3_3.n, s3_3.c⟩ (IntKind.wrap .i64 (x15 + (1 : Int))) w4) (fun J_2 =>
  ∃ p18 : Pt, s0.a = some ⟨p18.b, p18.o, none⟩ ∧ 0 ≤ x15 ∧ x15 < ((s0.n : Nat) : Int) ∧ ∃ x19 : Int, World.cell? w3 ⟨p18.b, (p18.o + Int.toNat x15 * 1), none⟩ = some (.int .i64 x19) ∧ Let w3.drew fun w5 =>
  0 ≤ x15 ∧ x15 ≤ ((s0.c : Nat) : Int) ∧ 0 ≤ (IntKind.wrap .i64 (x15 + (1 : Int))) ∧ (IntKind.wrap .i64 (x15 + (1 : Int))) ≤ ((s0.n : Nat) : Int) ∧ ∃ (s20 : Sl) (w6 : World), Sem.run Try.prog (Instr.buildSlice 24 0 [].toArray) w5 = .ok (.slice s20.a s20.n s20.c) w6 ∧
  ∃ (s24 : Sl) (w7 : World), Sem.run Try.prog (Builtin.append_ #[24, 24] 24 #[(.slice s20.a s20.n s20.c), (.slice s0.a (Int.toNat x15) s0.c)]) w6 = .ok (.slice s24.a s24.n s24.c) w7 ∧
  ∃ (s29 : Sl) (w8 : World), Sem.run Try.prog (Builtin.append_ #[24, 24] 24 #[(.slice s24.a s24.n s24.c), (.slice (subA s0.a s0.c (Int.toNat (IntKind.wrap .i64 (x15 + (1 : Int)))) 1) (s0.n - (Int.toNat (IntKind.wrap .i64 (x15 + (1 : Int))))) (s0.c - (Int.toNat (IntKind.wrap .i64 (x15 + (1 : Int))))))]) w7 = .ok (.slice s29.a s29.n s29.c) w8 ∧
  Calls Try.prog 40 [(.slice s29.a s29.n s29.c)].toArray w8 (fun e w9 => ∃ s31 : Sl, e = .returned (.slice s31.a s31.n s31.c) ∧
  Join [(3, .slice)] (fun (s3_4 : Sl) (w10 : World) => J_2 ⟨s3_4.a, s3_4.n, s3_4.c⟩ w10) (fun J_3 =>
  LoopV [(3, .slice), (33, .int .i64)] (fun K => K ⟨s3_2.a, s3_2.n, s3_2.c⟩ (0 : Int) w9) (fun N_2 => fun (s3_5 : Sl) (x33 : Int) (w11 : World) =>
  cond (decide (x33 < ((s31.n : Nat) : Int))) (
  Join [(3, .slice)] (fun (s3_6 : Sl) (w12 : World) => N_2 ⟨s3_6.a, s3_6.n, s3_6.c⟩ (IntKind.wrap .i64 (x33 + (1 : Int))) w12) (fun J_4 =>
  ∃ p35 : Pt, s31.a = some ⟨p35.b, p35.o, none⟩ ∧ 0 ≤ x33 ∧ x33 < ((s31.n : Nat) : Int) ∧ ∃ s36 : Sl, World.cell? w11 ⟨p35.b, (p35.o + Int.toNat x33 * 1), none⟩ = some (.slice s36.a s36.n s36.c) ∧ ∃ (s39 : Sl) (w13 : World), Sem.run Try.prog (Instr.buildSlice 24 1 [(0, (.int .i64 x19))].toArray) w11 = .ok (.slice s39.a s39.n s39.c) w13 ∧
  ∃ (s41 : Sl) (w14 : World), Sem.run Try.prog (Builtin.append_ #[24, 24] 24 #[(.slice s39.a s39.n s39.c), (.slice s36.a s36.n s36.c)]) w13 = .ok (.slice s41.a s41.n s41.c) w14 ∧
  ∃ (s42 : Sl) (w15 : World), Sem.run Try.prog (Instr.buildSlice 70 1 [(0, (.slice s41.a s41.n s41.c))].toArray) w14 = .ok (.slice s42.a s42.n s42.c) w15 ∧
  ∃ (s43 : Sl) (w16 : World), Sem.run Try.prog (Builtin.append_ #[70, 70] 70 #[(.slice s3_5.a s3_5.n s3_5.c), (.slice s42.a s42.n s42.c)]) w15 = .ok (.slice s43.a s43.n s43.c) w16 ∧
  J_4 ⟨s43.a, s43.n, s43.c⟩ w16)) (
  J_3 ⟨s3_5.a, s3_5.n, s3_5.c⟩ w11)))))) (
  J ⟨s3_2.a, s3_2.n, s3_2.c⟩ w3))))
theorem eq40 (s0 : Sl) (R : Value → World → Prop) (w : World) : funV Try.prog Try.f40 A40 [(.slice s0.a s0.n s0.c)] R w = S40 s0 R w := by kernel_rfl
theorem call40 (s0 : Sl) {R : Value → World → Prop} {w : World} (h : S40 s0 R w) : Calls Try.prog 40 [(.slice s0.a s0.n s0.c)].toArray w fun e w' => ∃ v, e = .returned v ∧ R v w' :=
  funV_calls mixed Try.func40 (an := A40) (by rw [eq40]; exact h)

/-- F15: cubeb/cubebref05.View -/
def A15 : An := (.sq .lf (.sq (.sq .lf (.bk [] (.lp [(10, .int .i64)] (.sq .lf (.sq (.cd .lf .lf) (.sq (.bk [] (.sq .lf (.sq .lf (.cd (.sq .lf .lf) .lf)))) .lf)))))) (.sq .lf .lf)))
def S15 (s0 : Sl) (R : Value → World → Prop) (w : World) : Prop :=
  Calls Try.prog 41 [(.slice s0.a s0.n s0.c)].toArray w (fun e w1 => ∃ s7 : Sl, e = .returned (.slice s7.a s7.n s7.c) ∧
  Calls Try.prog 40 [(.slice s7.a s7.n s7.c)].toArray w1 (fun e_2 w2 => ∃ s8 : Sl, e_2 = .returned (.slice s8.a s8.n s8.c) ∧
  Join [] (fun (w3 : World) => R (.tuple [(.slice none 0 0), (.int .i64 (5 : Int))].toArray) w3) (fun J =>
  LoopV [(10, .int .i64)] (fun K => K (0 : Int) w2) (fun N => fun (x10 : Int) (w4 : World) =>
  cond (decide (x10 < ((s8.n : Nat) : Int))) (
  Join [] (fun (w5 : World) => N (IntKind.wrap .i64 (x10 + (1 : Int))) w5) (fun J_2 =>
  ∃ p12 : Pt, s8.a = some ⟨p12.b, p12.o, none⟩ ∧ 0 ≤ x10 ∧ x10 < ((s8.n : Nat) : Int) ∧ ∃ s13 : Sl, World.cell? w4 ⟨p12.b, (p12.o + Int.toNat x10 * 1), none⟩ = some (.slice s13.a s13.n s13.c) ∧ Calls Try.prog 42 [(.slice s0.a s0.n s0.c), (.slice s13.a s13.n s13.c)].toArray w4 (fun e_3 w6 => ∃ b16 : Bool, e_3 = .returned (.bool b16) ∧
  cond b16 (
  R (.tuple [(.slice s13.a s13.n s13.c), (.int .i64 (0 : Int))].toArray) w6) (
  J_2 w6)))) (
  J w4)))))
theorem eq15 (s0 : Sl) (R : Value → World → Prop) (w : World) : funV Try.prog Try.f15 A15 [(.slice s0.a s0.n s0.c)] R w = S15 s0 R w := by kernel_rfl
theorem call15 (s0 : Sl) {R : Value → World → Prop} {w : World} (h : S15 s0 R w) : Calls Try.prog 15 [(.slice s0.a s0.n s0.c)].toArray w fun e w' => ∃ v, e = .returned v ∧ R v w' :=
  funV_calls mixed Try.func15 (an := A15) (by rw [eq15]; exact h)

/-- F3: cubeb/cubeblaw05.HistoryViews -/
def A3 : An := (.sq .lf (.sq .lf (.sq (.sq .lf (.cd (.sq (.rj [] [(2, .bool)]) .lf) .lf)) (.sq .lf (.sq (.rj [] [(2, .bool)]) .lf)))))
def S3 (s0 : Sl) (R : Value → World → Prop) (w : World) : Prop :=
  Calls Try.prog 12 [(.slice s0.a s0.n s0.c)].toArray w (fun e w1 => ∃ s9 : Sl, e = .returned (.slice s9.a s9.n s9.c) ∧
  Calls Try.prog 11 [(.slice s9.a s9.n s9.c)].toArray w1 (fun e_2 w2 => ∃ s10_0 : Sl, ∃ x10_1 : Int, e_2 = .returned (.tuple [(.slice s10_0.a s10_0.n s10_0.c), (.int .i64 x10_1)].toArray) ∧
  Calls Try.prog 13 [(.slice s0.a s0.n s0.c)].toArray w2 (fun e_3 w3 => ∃ b14 : Bool, e_3 = .returned (.bool b14) ∧
  cond (!b14) (
  Join [(2, .bool)] (fun (b2 : Bool) (w4 : World) => R (.bool b2) w4) (fun J =>
  cond (((s10_0.n : Nat) : Int) == (0 : Int)) (cond (x10_1 == (2 : Int)) (Calls Try.prog 14 [].toArray w3 (fun e_4 w5 => ∃ b24 : Bool, e_4 = .returned (.bool b24) ∧
  J b24 w5)) (J false w3)) (J false w3))) (
  Calls Try.prog 15 [(.slice s0.a s0.n s0.c)].toArray w3 (fun e_5 w6 => ∃ s28_0 : Sl, ∃ x28_1 : Int, e_5 = .returned (.tuple [(.slice s28_0.a s28_0.n s28_0.c), (.int .i64 x28_1)].toArray) ∧
  Join [(2, .bool)] (fun (b2_2 : Bool) (w7 : World) => R (.bool b2_2) w7) (fun J_2 =>
  Calls Try.prog 16 [(.slice s10_0.a s10_0.n s10_0.c), (.slice s28_0.a s28_0.n s28_0.c)].toArray w6 (fun e_6 w8 => ∃ b33 : Bool, e_6 = .returned (.bool b33) ∧
  cond b33 (cond (x10_1 == x28_1) (Calls Try.prog 14 [].toArray w8 (fun e_7 w9 => ∃ b40 : Bool, e_7 = .returned (.bool b40) ∧
  J_2 b40 w9)) (J_2 false w8)) (J_2 false w8))))))))
theorem eq3 (s0 : Sl) (R : Value → World → Prop) (w : World) : funV Try.prog Try.f3 A3 [(.slice s0.a s0.n s0.c)] R w = S3 s0 R w := by kernel_rfl
theorem call3 (s0 : Sl) {R : Value → World → Prop} {w : World} (h : S3 s0 R w) : Calls Try.prog 3 [(.slice s0.a s0.n s0.c)].toArray w fun e w' => ∃ v, e = .returned v ∧ R v w' :=
  funV_calls mixed Try.func3 (an := A3) (by rw [eq3]; exact h)

end Go.Proofs.Ytnbkihkdfhjlmaa
/-
  Contracts: the committed part and the serial histories, in the program and in the reference.
-/
namespace Go.Proofs.Ytnbkihkdfhjlmaa
open Go Go.VC

theorem E23 : Elem Try.prog 23 37 3 24 := Elem.of (by kernel_rfl) (by kernel_rfl) (by decide)
/-- The committed part. -/
def part (h : List Ev) : List Ev := h.filter fun o => decide (o.t ∈ com h)
/-- One step of a filter. -/
theorem filter_step {α : Type} {h : List α} {p : α → Bool} {i : Nat} (hi : i < h.length) : (h.take (i + 1)).filter p = (h.take i).filter p ++ if p h[i] then [h[i]] else [] := by
  rw [List.take_succ_eq_append_getElem hi, List.filter_append, List.filter_cons, List.filter_nil]
/-- An operation appended. -/
theorem appendEv {t e : Nat} (E : Elem Try.prog t e 3 24) {B : Nat} {w : World} {s : Sl} {l : List Ev} (ho : Own e 3 eO B w s l) (x : Ev) (hl : l.length ≤ 1000000) (hB : B ≤ w.heap.size) :
    ∃ (s1 : Sl) (w1 : World), (Instr.buildSlice t 1 [(0, .agg [.int .i64 x.t, .int .i64 x.k, .int .i64 x.i].toArray)].toArray).run Try.prog w = .ok (.slice s1.a s1.n s1.c) w1 ∧
      ∃ (s' : Sl) (w' : World), (Builtin.append_ #[t, t] t #[.slice s.a s.n s.c, .slice s1.a s1.n s1.c]).run Try.prog w1 = .ok (.slice s'.a s'.n s'.c) w' ∧ Own e 3 eO B w' s' (l ++ [x]) ∧ Fr (Bl s) w w' :=
  appendOne E ho (x := x) rfl eO_len eO_one (by omega) (by omega) (by simp only [maxLen]; omega) hB t
/-- An int appended. -/
theorem appendInt {B : Nat} {w : World} {s : Sl} {l : List Int} (ho : Own 3 1 eI B w s l) (x : Int) (hl : l.length ≤ 1000000) (hB : B ≤ w.heap.size) :
    ∃ (s1 : Sl) (w1 : World), (Instr.buildSlice 24 1 [(0, .int .i64 x)].toArray).run Try.prog w = .ok (.slice s1.a s1.n s1.c) w1 ∧
      ∃ (s' : Sl) (w' : World), (Builtin.append_ #[24, 24] 24 #[.slice s.a s.n s.c, .slice s1.a s1.n s1.c]).run Try.prog w1 = .ok (.slice s'.a s'.n s'.c) w' ∧ Own 3 1 eI B w' s' (l ++ [x]) ∧ Fr (Bl s) w w' :=
  appendOne E24 ho (x := x) rfl eI_len eI_one (by omega) (by omega) (by simp only [maxLen]; omega) hB 24
/-- What is written to a slice that is newer than a world changes nothing in that world. -/
theorem Own.newer {T size : Nat} {α : Type} {enc : α → List Value} {w w1 w2 : World} {B : Nat} {s : Sl} {l : List α} (ho : Own T size enc B w1 s l) (hx : Ext w w1) (hf : Fr (Bl s) w1 w2) (hB : w.heap.size ≤ B) : Ext w w2 :=
  hx.newer hf fun b ⟨a, ha, hb⟩ => by have := (ho.base ha).1; omega

theorem c34 {w : World} {s : Sl} {h : List Ev} (hs : Hs w s h) (hl : h.length ≤ 1000000) :
    Calls Try.prog 34 [.slice s.a s.n s.c].toArray w fun e w' => ∃ s' : Sl, e = .returned (.slice s'.a s'.n s'.c) ∧ Own 38 3 eO w.heap.size w' s' (part h) ∧ Ext w w' := by
  refine (call34 s (R := fun v w' => ∃ s' : Sl, v = .slice s'.a s'.n s'.c ∧ Own 38 3 eO w.heap.size w' s' (part h) ∧ Ext w w') ?_).mono fun e w' ⟨v, he, s', hv, hx⟩ => ⟨s', by rw [he, hv], hx⟩
  have hn := hs.len
  have hbig : h.length ≤ big := by show h.length ≤ 9223372036854775807; omega
  refine (c36 hs hbig).mono fun e w1 ⟨sc, he, hoc, hx1⟩ => ⟨sc, he, ?_⟩
  refine Join.dir (rangeSI (fun i (s' : Sl) w' => Own 38 3 eO w1.heap.size w' s' ((h.take i).filter fun o => decide (o.t ∈ com h)) ∧ Ext w1 w') (by rw [hn]; exact hbig) ⟨Own.nil .., Fr.refl _ _⟩ ?_ ?_)
  · rintro i hi s' w3 ⟨ho, hx⟩ K hK
    have hi : i < h.length := by omega
    have hlen : ((h.take i).filter fun o => decide (o.t ∈ com h)).length ≤ 1000000 := by
      refine Nat.le_trans (List.length_filter_le ..) ?_
      simp; omega
    refine loadEv ((hs.ext hx1).ext hx) hi zc38 fun w6 hb hx6 => ⟨_, hb.cell 0, ?_⟩
    refine (c28 (hoc.sli.ext (hx.trans hx6)) h[i].t (Nat.le_trans (com_len h) (by decide))).mono fun e w7 ⟨he, hx7⟩ => ⟨_, he, ?_⟩
    have ho7 := ho.ext (hx6.trans hx7)
    refine Join.dir (cond_intro (fun hc => ?_) (fun hc => ?_))
    · obtain ⟨s1, w9, e9, s2, w10, e10, ho2, hf⟩ := appendEv E29 ho7 h[i] hlen (by have := (hx.trans (hx6.trans hx7)).size; omega)
      refine ⟨_, _, _, (hb.ext hx7).rd, s1, w9, e9, s2, w10, e10, hK _ _ ⟨?_, Own.newer ho7 (hx.trans (hx6.trans hx7)) hf (Nat.le_refl _)⟩⟩
      rw [filter_step hi, hc]; exact ho2
    · refine hK _ _ ⟨?_, hx.trans (hx6.trans hx7)⟩
      rw [filter_step hi, hc]; simpa using ho7
  · rintro s' w' ⟨ho, hx⟩
    rw [hn, List.take_length] at ho
    exact ⟨s', rfl, ho.mono hx1.size, hx1.trans hx⟩

theorem fin_of {h : List Ev} (hok : ∀ o ∈ h, okOp o) {k : Int} (hk : 1 < k) {t : Int} {i : Nat} (hi : i < h.length) : (h[i].t = t ∧ h[i].k = k) ↔ h[i] = ⟨t, k, 0⟩ := by
  have := hok h[i] (List.getElem_mem hi)
  unfold okOp at this
  constructor
  · rintro ⟨h1, h2⟩
    have h3 : h[i].i = 0 := by omega
    cases hh : h[i] with
    | mk a b c => rw [hh] at h1 h2 h3; simp_all
  · intro h1; rw [h1]; exact ⟨rfl, rfl⟩
theorem c68 {w : World} {s : Sl} {h : List Ev} (hs : Hs w s h) (hok : ∀ o ∈ h, okOp o) (t k : Int) (hk : 1 < k) (hl : h.length ≤ big) :
    Calls Try.prog 68 [.slice s.a s.n s.c, .int .i64 t, .int .i64 k].toArray w fun e w' => e = .returned (.int .i64 (fin h k t)) ∧ Ext w w' := by
  refine (call68 s t k (R := fun v w' => v = .int .i64 (fin h k t) ∧ Ext w w') ?_).mono fun e w' ⟨v, he, hv, hx⟩ => ⟨by rw [he, hv], hx⟩
  have hn := hs.len
  refine Join.dir (rangeI (fun i w2 => (⟨t, k, 0⟩ : Ev) ∉ h.take i ∧ Ext w w2) (by rw [hn]; exact hl) ⟨by simp, Fr.refl _ w⟩ ?_ ?_)
  · rintro i hi w2 ⟨hno, hx⟩ K hK
    have hi : i < h.length := by omega
    refine loadEv (hs.ext hx) hi zc37 fun w5 hb hx5 => ?_
    refine ⟨fun (b : Bool) w' => b = decide (h[i] = ⟨t, k, 0⟩) ∧ w' = w5, ?_, ?_⟩
    · rintro b w6 ⟨rfl, rfl⟩
      refine cond_intro (fun hc => ?_) (fun hc => ?_)
      · have hc : h[i] = ⟨t, k, 0⟩ := by simpa using hc
        exact ⟨by rw [fin, ix_at (by rw [List.getElem?_eq_getElem hi, hc]) hno], hx.trans hx5⟩
      · have hc : ¬ h[i] = ⟨t, k, 0⟩ := by simpa using hc
        exact hK _ ⟨not_take hno (List.getElem?_eq_getElem hi) hc, hx.trans hx5⟩
    · have hiff := fin_of hok hk (t := t) hi
      refine ⟨_, hb.cell 0, cond_intro (fun hc => ?_) (fun hc => ?_)⟩
      · refine ⟨_, hb.cell 1, ?_, rfl⟩
        have hc : h[i].t = t := by simpa using hc
        by_cases h2 : h[i].k = k
        · simp [hiff.1 ⟨hc, h2⟩]
        · have : ¬ h[i] = ⟨t, k, 0⟩ := fun e => h2 (hiff.2 e).2
          simp [h2, this]
      · have hc : ¬ h[i].t = t := by simpa using hc
        have : ¬ h[i] = ⟨t, k, 0⟩ := fun e => hc (hiff.2 e).1
        exact ⟨by simp [this], rfl⟩
  · rintro w2 ⟨hno, hx⟩
    rw [hn, List.take_length] at hno
    exact ⟨by rw [fin, ix_not hno], hx⟩

theorem c70 {w : World} {s : Sl} {h : List Ev} (hs : Hs w s h) (hok : ∀ o ∈ h, okOp o) (hl : h.length ≤ 1000000) :
    Calls Try.prog 70 [.slice s.a s.n s.c].toArray w fun e w' => ∃ s' : Sl, e = .returned (.slice s'.a s'.n s'.c) ∧ Own 37 3 eO w.heap.size w' s' (part h) ∧ Ext w w' := by
  refine (call70 s (R := fun v w' => ∃ s' : Sl, v = .slice s'.a s'.n s'.c ∧ Own 37 3 eO w.heap.size w' s' (part h) ∧ Ext w w') ?_).mono fun e w' ⟨v, he, s', hv, hx⟩ => ⟨s', by rw [he, hv], hx⟩
  have hn := hs.len
  have hbig : h.length ≤ big := by show h.length ≤ 9223372036854775807; omega
  refine Join.dir (rangeSI (fun i (s' : Sl) w' => Own 37 3 eO w.heap.size w' s' ((h.take i).filter fun o => decide (o.t ∈ com h)) ∧ Ext w w') (by rw [hn]; exact hbig) ⟨Own.nil .., Fr.refl _ _⟩ ?_ ?_)
  · rintro i hi s' w3 ⟨ho, hx⟩ K hK
    have hi : i < h.length := by omega
    have hlen : ((h.take i).filter fun o => decide (o.t ∈ com h)).length ≤ 1000000 := by
      refine Nat.le_trans (List.length_filter_le ..) ?_
      simp; omega
    have hoki := hok h[i] (List.getElem_mem hi)
    refine loadEv (hs.ext hx) hi zc37 fun w6 hb hx6 => ⟨_, hb.cell 0, ?_⟩
    refine (c68 (hs.ext (hx.trans hx6)) hok h[i].t 2 (by omega) hbig).mono fun e w7 ⟨he, hx7⟩ => ⟨_, he, ?_⟩
    have ho7 := ho.ext (hx6.trans hx7)
    have hiff : decide (h[i].t ∈ com h) = decide (fin h 2 h[i].t ≥ 0) := by
      unfold okOp at hoki
      apply decide_eq_decide.2
      rw [mem_com]
      exact ⟨fun h1 => h1.2.2, fun h1 => ⟨by omega, by omega, h1⟩⟩
    refine Join.dir (cond_intro (fun hc => ?_) (fun hc => ?_))
    · obtain ⟨s1, w9, e9, s2, w10, e10, ho2, hf⟩ := appendEv E23 ho7 h[i] hlen (by have := (hx.trans (hx6.trans hx7)).size; omega)
      refine ⟨_, _, _, (hb.ext hx7).rd, s1, w9, e9, s2, w10, e10, hK _ _ ⟨?_, Own.newer ho7 (hx.trans (hx6.trans hx7)) hf (Nat.le_refl _)⟩⟩
      rw [filter_step hi, hiff, hc]; exact ho2
    · refine hK _ _ ⟨?_, hx.trans (hx6.trans hx7)⟩
      rw [filter_step hi, hiff, hc]; simpa using ho7
  · rintro s' w' ⟨ho, hx⟩
    rw [hn, List.take_length] at ho
    exact ⟨s', rfl, ho, hx⟩

theorem c41 {w : World} {s : Sl} {h : List Ev} (hs : Hs w s h) (hok : ∀ o ∈ h, okOp o) (hl : h.length ≤ 1000000) :
    Calls Try.prog 41 [.slice s.a s.n s.c].toArray w fun e w' => ∃ s' : Sl, e = .returned (.slice s'.a s'.n s'.c) ∧ Own 3 1 eI w.heap.size w' s' (com h) ∧ Ext w w' := by
  refine (call41 s (R := fun v w' => ∃ s' : Sl, v = .slice s'.a s'.n s'.c ∧ Own 3 1 eI w.heap.size w' s' (com h) ∧ Ext w w') ?_).mono fun e w' ⟨v, he, s', hv, hx⟩ => ⟨s', by rw [he, hv], hx⟩
  have hbig : h.length ≤ big := by show h.length ≤ 9223372036854775807; omega
  refine Join.dir (LoopV.intro (fun n (s' : Sl) (x : Int) w' => ∃ i : Nat, x = (i : Int) + 1 ∧ i ≤ 6 ∧ n = 6 - i ∧ Own 3 1 eI w.heap.size w' s' ((([1, 2, 3, 4, 5, 6] : List Int).take i).filter fun t => decide (0 ≤ fin h 2 t)) ∧ Ext w w') 6
    ⟨0, rfl, by omega, by omega, Own.nil .., Fr.refl _ _⟩ ?_)
  rintro n s' x w2 ⟨i, rfl, hi, rfl, ho, hx⟩
  refine cond_intro (fun hc => ?_) (fun hc => ?_)
  · have hi6 : i < 6 := by have : (i : Int) + 1 ≤ 6 := by simpa using hc
                           omega
    have hil : i < ([1, 2, 3, 4, 5, 6] : List Int).length := by simpa using hi6
    have hget : ([1, 2, 3, 4, 5, 6] : List Int)[i] = (i : Int) + 1 := by
      have : ∀ i : Fin 6, ([1, 2, 3, 4, 5, 6] : List Int)[i.1]'(by simp) = (i.1 : Int) + 1 := by decide
      exact this ⟨i, hi6⟩
    have hlen : ((([1, 2, 3, 4, 5, 6] : List Int).take i).filter fun t => decide (0 ≤ fin h 2 t)).length ≤ 1000000 := by
      refine Nat.le_trans (List.length_filter_le ..) ?_
      simp; omega
    refine Join.dir ((c68 (hs.ext hx) hok ((i : Int) + 1) 2 (by omega) hbig).mono fun e w4 ⟨he, hx4⟩ => ⟨_, he, ?_⟩)
    have ho4 := ho.ext hx4
    have hend : ∀ s2 w5, Own 3 1 eI w.heap.size w5 s2 ((([1, 2, 3, 4, 5, 6] : List Int).take (i + 1)).filter fun t => decide (0 ≤ fin h 2 t)) → Ext w w5 → ∃ m, m < 6 - i ∧ ∃ j : Nat, IntKind.wrap .i64 ((i : Int) + 1 + 1) = (j : Int) + 1 ∧ j ≤ 6 ∧ m = 6 - j ∧ Own 3 1 eI w.heap.size w5 s2 ((([1, 2, 3, 4, 5, 6] : List Int).take j).filter fun t => decide (0 ≤ fin h 2 t)) ∧ Ext w w5 :=
      fun s2 w5 h1 h2 => ⟨6 - (i + 1), by omega, i + 1, by rw [wrap64 (by omega) (by omega)]; rfl, by omega, rfl, h1, h2⟩
    refine Join.dir (cond_intro (fun hc => ?_) (fun hc => ?_))
    · obtain ⟨s1, w9, e9, s2, w10, e10, ho2, hf⟩ := appendInt ho4 ((i : Int) + 1) hlen (by have := (hx.trans hx4).size; omega)
      refine ⟨s1, w9, e9, s2, w10, e10, hend _ _ ?_ (Own.newer ho4 (hx.trans hx4) hf (Nat.le_refl _))⟩
      rw [filter_step hil, hget, show decide (0 ≤ fin h 2 ((i : Int) + 1)) = true from hc]; exact ho2
    · refine hend _ _ ?_ (hx.trans hx4)
      rw [filter_step hil, hget, show decide (0 ≤ fin h 2 ((i : Int) + 1)) = false from hc]; simpa using ho4
  · have : i = 6 := by have : ¬ (i : Int) + 1 ≤ 6 := by simpa using hc
                       omega
    subst this
    exact ⟨s', rfl, ho, hx⟩

/-- The operations of a history, transaction by transaction. -/
def serial (h : List Ev) (order : List Int) : List Ev := order.flatMap fun t => h.filter fun o => decide (o.t = t)
theorem serial_len (h : List Ev) : ∀ order : List Int, (serial h order).length ≤ order.length * h.length
  | [] => by simp [serial]
  | t :: r => by
    have := serial_len h r
    have h2 : (h.filter fun o => decide (o.t = t)).length ≤ h.length := List.length_filter_le ..
    unfold serial at this ⊢
    rw [List.flatMap_cons, List.length_append, List.length_cons, Nat.add_mul]; omega
/-- The walk of both. -/
theorem serial_walk {T t : Nat} (E : Elem Try.prog t T 3 24) (hz : (zc Try.prog T).size = 3) {w : World} {s s' : Sl} {h : List Ev} {order : List Int} (hs : Hs w s h) (hs' : Ints w s' order) (hl : h.length ≤ 1000) (hl' : order.length ≤ 100) {R : Value → World → Prop}
    (hR : ∀ s5 w', Own T 3 eO w.heap.size w' s5 (serial h order) → Ext w w' → R (.slice s5.a s5.n s5.c) w') :
    Join [(5, .slice)] (fun (s5 : Sl) (w1 : World) => R (.slice s5.a s5.n s5.c) w1) (fun J =>
  LoopV [(5, .slice), (12, .int .i64)] (fun K => K ⟨none, 0, 0⟩ (0 : Int) w) (fun N => fun (s5_2 : Sl) (x12 : Int) (w2 : World) =>
  cond (decide (x12 < ((s'.n : Nat) : Int))) (
  Join [(5, .slice)] (fun (s5_3 : Sl) (w3 : World) => N ⟨s5_3.a, s5_3.n, s5_3.c⟩ (IntKind.wrap .i64 (x12 + (1 : Int))) w3) (fun J_2 =>
  ∃ p14 : Pt, s'.a = some ⟨p14.b, p14.o, none⟩ ∧ 0 ≤ x12 ∧ x12 < ((s'.n : Nat) : Int) ∧ ∃ x15 : Int, World.cell? w2 ⟨p14.b, (p14.o + Int.toNat x12 * 1), none⟩ = some (.int .i64 x15) ∧ Join [(5, .slice)] (fun (s5_4 : Sl) (w4 : World) => J_2 ⟨s5_4.a, s5_4.n, s5_4.c⟩ w4) (fun J_3 =>
  LoopV [(5, .slice), (18, .int .i64)] (fun K => K ⟨s5_2.a, s5_2.n, s5_2.c⟩ (0 : Int) w2) (fun N_2 => fun (s5_5 : Sl) (x18 : Int) (w5 : World) =>
  cond (decide (x18 < ((s.n : Nat) : Int))) (
  Join [(5, .slice)] (fun (s5_6 : Sl) (w6 : World) => N_2 ⟨s5_6.a, s5_6.n, s5_6.c⟩ (IntKind.wrap .i64 (x18 + (1 : Int))) w6) (fun J_4 =>
  ∃ p20 : Pt, s.a = some ⟨p20.b, p20.o, none⟩ ∧ 0 ≤ x18 ∧ x18 < ((s.n : Nat) : Int) ∧ ∃ x21_0 : Int, ∃ x21_1 : Int, ∃ x21_2 : Int, rd w5 p20.b (p20.o + Int.toNat x18 * 3) [(.int .i64 x21_0), (.int .i64 x21_1), (.int .i64 x21_2)] ∧ Let (w5.alloc (.cells (zc Try.prog T) T)) fun w7 =>
  StoreOk w7 w5.heap.size 0 [(.int .i64 x21_0), (.int .i64 x21_1), (.int .i64 x21_2)] 3 ∧ Let (put w7 w5.heap.size 0 [(.int .i64 x21_0), (.int .i64 x21_1), (.int .i64 x21_2)]) fun w8 =>
  ∃ x23 : Int, World.cell? w8 ⟨w5.heap.size, (0 + 0), none⟩ = some (.int .i64 x23) ∧ Join [(5, .slice)] (fun (s5_7 : Sl) (w9 : World) => J_4 ⟨s5_7.a, s5_7.n, s5_7.c⟩ w9) (fun J_5 =>
  cond (x23 == x15) (
  ∃ x27_0 : Int, ∃ x27_1 : Int, ∃ x27_2 : Int, rd w8 w5.heap.size 0 [(.int .i64 x27_0), (.int .i64 x27_1), (.int .i64 x27_2)] ∧ ∃ (s28 : Sl) (w10 : World), Sem.run Try.prog (Instr.buildSlice t 1 [(0, (.agg [(.int .i64 x27_0), (.int .i64 x27_1), (.int .i64 x27_2)].toArray))].toArray) w8 = .ok (.slice s28.a s28.n s28.c) w10 ∧
  ∃ (s29 : Sl) (w11 : World), Sem.run Try.prog (Builtin.append_ #[t, t] t #[(.slice s5_5.a s5_5.n s5_5.c), (.slice s28.a s28.n s28.c)]) w10 = .ok (.slice s29.a s29.n s29.c) w11 ∧
  J_5 ⟨s29.a, s29.n, s29.c⟩ w11) (
  J_5 ⟨s5_5.a, s5_5.n, s5_5.c⟩ w8)))) (
  J_3 ⟨s5_5.a, s5_5.n, s5_5.c⟩ w5))))) (
  J ⟨s5_2.a, s5_2.n, s5_2.c⟩ w2))) := by
  have hn := hs.len
  have hn' := hs'.len
  refine Join.dir (rangeSI (fun i (s5 : Sl) w' => Own T 3 eO w.heap.size w' s5 (serial h (order.take i)) ∧ Ext w w') (by rw [hn']; show order.length ≤ 9223372036854775807; omega) ⟨Own.nil .., Fr.refl _ _⟩ ?_ ?_)
  · rintro i hi s5 w2 ⟨ho, hx⟩ K hK
    have hi : i < order.length := by omega
    obtain ⟨p, hp, h1, h2, hr⟩ := Ints.at (hs'.ext hx) hi
    refine ⟨p, hp, h1, h2, _, hr, Join.dir (rangeSI (fun j (s5 : Sl) w' => Own T 3 eO w.heap.size w' s5 (serial h (order.take i) ++ (h.take j).filter fun o => decide (o.t = order[i])) ∧ Ext w w') (by rw [hn]; show h.length ≤ 9223372036854775807; omega) ⟨by simpa using ho, hx⟩ ?_ ?_)⟩
    · rintro j hj s6 w5 ⟨ho5, hx5⟩ K2 hK2
      have hj : j < h.length := by omega
      refine loadEv (hs.ext hx5) hj hz fun w8 hb hx8 => ⟨_, hb.cell 0, Join.dir ?_⟩
      have ho8 := ho5.ext hx8
      refine cond_intro (fun hc => ?_) (fun hc => ?_)
      · have hlen : (serial h (order.take i) ++ (h.take j).filter fun o => decide (o.t = order[i])).length ≤ 1000000 := by
          rw [List.length_append]
          have h1 := serial_len h (order.take i)
          have h2 : ((h.take j).filter fun o => decide (o.t = order[i])).length ≤ h.length := Nat.le_trans (List.length_filter_le ..) (by simp; omega)
          have h3 : (order.take i).length * h.length ≤ 100 * 1000 := Nat.mul_le_mul (by simp; omega) hl
          omega
        obtain ⟨s1, w9, e9, s2, w10, e10, ho2, hf⟩ := appendEv E ho8 h[j] hlen (by have := (hx5.trans hx8).size; omega)
        refine ⟨_, _, _, hb.rd, s1, w9, e9, s2, w10, e10, hK2 _ _ ⟨?_, Own.newer ho8 (hx5.trans hx8) hf (Nat.le_refl _)⟩⟩
        rw [filter_step hj, if_pos (by simpa using hc), ← List.append_assoc]; exact ho2
      · refine hK2 _ _ ⟨?_, hx5.trans hx8⟩
        rw [filter_step hj, if_neg (by simpa using hc), List.append_nil]; exact ho8
    · rintro s6 w5 ⟨ho5, hx5⟩
      rw [hn, List.take_length] at ho5
      refine hK _ _ ⟨?_, hx5⟩
      rw [List.take_succ_eq_append_getElem hi]
      unfold serial at ho5 ⊢
      rw [List.flatMap_append]; simpa using ho5
  · rintro s5 w' ⟨ho, hx⟩
    rw [hn', List.take_length] at ho
    exact hR _ _ ho hx
theorem c38 {w : World} {s s' : Sl} {h : List Ev} {order : List Int} (hs : Hs w s h) (hs' : Ints w s' order) (hl : h.length ≤ 1000) (hl' : order.length ≤ 100) :
    Calls Try.prog 38 [.slice s.a s.n s.c, .slice s'.a s'.n s'.c].toArray w fun e w' => ∃ s5 : Sl, e = .returned (.slice s5.a s5.n s5.c) ∧ Own 38 3 eO w.heap.size w' s5 (serial h order) ∧ Ext w w' := by
  refine (call38 s s' (R := fun v w' => ∃ s5 : Sl, v = .slice s5.a s5.n s5.c ∧ Own 38 3 eO w.heap.size w' s5 (serial h order) ∧ Ext w w') ?_).mono fun e w' ⟨v, he, s', hv, hx⟩ => ⟨s', by rw [he, hv], hx⟩
  exact serial_walk E29 zc38 hs hs' hl hl' (R := fun v w' => ∃ s5 : Sl, v = .slice s5.a s5.n s5.c ∧ Own 38 3 eO w.heap.size w' s5 (serial h order) ∧ Ext w w') fun s5 w' h1 h2 => ⟨s5, rfl, h1, h2⟩
theorem c71 {w : World} {s s' : Sl} {h : List Ev} {order : List Int} (hs : Hs w s h) (hs' : Ints w s' order) (hl : h.length ≤ 1000) (hl' : order.length ≤ 100) :
    Calls Try.prog 71 [.slice s.a s.n s.c, .slice s'.a s'.n s'.c].toArray w fun e w' => ∃ s5 : Sl, e = .returned (.slice s5.a s5.n s5.c) ∧ Own 37 3 eO w.heap.size w' s5 (serial h order) ∧ Ext w w' := by
  refine (call71 s s' (R := fun v w' => ∃ s5 : Sl, v = .slice s5.a s5.n s5.c ∧ Own 37 3 eO w.heap.size w' s5 (serial h order) ∧ Ext w w') ?_).mono fun e w' ⟨v, he, s', hv, hx⟩ => ⟨s', by rw [he, hv], hx⟩
  exact serial_walk E23 zc37 hs hs' hl hl' (R := fun v w' => ∃ s5 : Sl, v = .slice s5.a s5.n s5.c ∧ Own 37 3 eO w.heap.size w' s5 (serial h order) ∧ Ext w w') fun s5 w' h1 h2 => ⟨s5, rfl, h1, h2⟩
end Go.Proofs.Ytnbkihkdfhjlmaa
/-
  Contracts: from which transaction each operation reads, in the program and in the reference.
-/
namespace Go.Proofs.Ytnbkihkdfhjlmaa
open Go Go.VC

def e0 : Ev := ⟨0, 0, 0⟩
/-- A write to the Item that is not undone ahead of i. -/
def good (h : List Ev) (it : Int) (i : Nat) (p : Ev) : Prop := p.k = 1 ∧ p.i = it ∧ ¬ (0 ≤ fin h 3 p.t ∧ fin h 3 p.t < i)
instance (h : List Ev) (it : Int) (i : Nat) (p : Ev) : Decidable (good h it i p) := by unfold good; infer_instance
/-- The last such write among the first j operations. -/
def srcUp (h : List Ev) (it : Int) (i : Nat) : Nat → Int
  | 0 => 0
  | j + 1 => if good h it i (h.getD j e0) then (h.getD j e0).t else srcUp h it i j
def frm1 (h : List Ev) (i : Nat) : Int := if (h.getD i e0).k = 0 then srcUp h (h.getD i e0).i i i else -1
def frm (h : List Ev) : List Int := (List.range h.length).map (frm1 h)
theorem getD_at {h : List Ev} {i : Nat} (hi : i < h.length) : h.getD i e0 = h[i] := by simp [List.getD, hi]
theorem frm1_read {h : List Ev} {i : Nat} (hi : i < h.length) (hk : h[i].k = 0) : frm1 h i = srcUp h h[i].i i i := by rw [frm1, getD_at hi, if_pos hk]
theorem frm1_not {h : List Ev} {i : Nat} (hi : i < h.length) (hk : ¬ h[i].k = 0) : frm1 h i = -1 := by rw [frm1, getD_at hi, if_neg hk]
theorem range_step (f : Nat → Int) (i : Nat) : (List.range (i + 1)).map f = (List.range i).map f ++ [f i] := by rw [List.range_succ, List.map_append]; rfl

theorem c55 {w : World} {s : Sl} {h : List Ev} (hs : Hs w s h) (hok : ∀ o ∈ h, okOp o) (hl : h.length ≤ 1000) :
    Calls Try.prog 55 [.slice s.a s.n s.c].toArray w fun e w' => ∃ s' : Sl, e = .returned (.slice s'.a s'.n s'.c) ∧ Own 3 1 eI w.heap.size w' s' (frm h) ∧ Ext w w' := by
  refine (call55 s (R := fun v w' => ∃ s' : Sl, v = .slice s'.a s'.n s'.c ∧ Own 3 1 eI w.heap.size w' s' (frm h) ∧ Ext w w') ?_).mono fun e w' ⟨v, he, s', hv, hx⟩ => ⟨s', by rw [he, hv], hx⟩
  have hn := hs.len
  have hbig : h.length ≤ big := by show h.length ≤ 9223372036854775807; omega
  refine (c54 hs 3 hbig).mono fun e w1 ⟨he, hm, hx1⟩ => ⟨_, he, ?_⟩
  have hmb := hm.ex
  refine Join.dir (rangeSI (fun i (s' : Sl) w' => Own 3 1 eI w1.heap.size w' s' ((List.range i).map (frm1 h)) ∧ Ext w1 w') (by rw [hn]; exact hbig) ⟨Own.nil .., Fr.refl _ _⟩ ?_ ?_)
  · rintro i hi s' w3 ⟨ho, hx⟩ K hK
    have hi : i < h.length := by omega
    have hlen : ((List.range i).map (frm1 h)).length ≤ 1000000 := by simp; omega
    -- an element more
    have hadd : ∀ (x : Int) (w6 : World), x = frm1 h i → Ext w3 w6 → ∃ (s1 : Sl) (w7 : World), (Instr.buildSlice 24 1 [(0, .int .i64 x)].toArray).run Try.prog w6 = .ok (.slice s1.a s1.n s1.c) w7 ∧
        ∃ (s2 : Sl) (w8 : World), (Builtin.append_ #[24, 24] 24 #[.slice s'.a s'.n s'.c, .slice s1.a s1.n s1.c]).run Try.prog w7 = .ok (.slice s2.a s2.n s2.c) w8 ∧ K s2 w8 := by
      intro x w6 hxe hx6
      subst hxe
      have ho6 := ho.ext hx6
      obtain ⟨s1, w9, e9, s2, w10, e10, ho2, hf⟩ := appendInt ho6 (frm1 h i) hlen (by have := (hx.trans hx6).size; omega)
      exact ⟨s1, w9, e9, s2, w10, e10, hK _ _ ⟨by rw [range_step]; exact ho2, Own.newer ho6 (hx.trans hx6) hf (Nat.le_refl _)⟩⟩
    refine loadEv ((hs.ext hx1).ext hx) hi zc38 fun w6 hb hx6 => ⟨_, hb.cell 1, cond_intro (fun hc => ?_) (fun hc => ?_)⟩
    · have hc : ¬ h[i].k = 0 := by simpa using hc
      exact hadd (-1) w6 (frm1_not hi hc).symm hx6
    · have hc : h[i].k = 0 := by simpa using hc
      refine ⟨fun (x : Int) w' => x = srcUp h h[i].i i i ∧ Ext w6 w', ?_, ?_⟩
      · rintro x w9 ⟨hxe, hx9⟩
        exact hadd x w9 (by rw [frm1_read hi hc]; exact hxe) (hx6.trans hx9)
      refine LoopV.intro (fun n (x7 x8 : Int) w' => x7 = 0 ∧ ∃ j : Nat, x8 = (j : Int) - 1 ∧ n = j ∧ j ≤ i ∧ srcUp h h[i].i i i = srcUp h h[i].i i j ∧ Ext w6 w') i ⟨rfl, i, by rw [wrap64 (by omega) (by omega)], rfl, Nat.le_refl _, rfl, Fr.refl _ _⟩ ?_
      rintro n x7 x8 w12 ⟨rfl, j, rfl, hnj, hj, hsr, hx12⟩
      refine cond_intro (fun hj0 => ?_) (fun hj0 => ?_)
      · obtain ⟨m, rfl⟩ : ∃ m, j = m + 1 := ⟨j - 1, by have : (0 : Int) ≤ (j : Int) - 1 := by simpa using hj0
                                                       omega⟩
        have hm1 : ((m + 1 : Nat) : Int) - 1 = (m : Int) := by omega
        rw [hm1]
        have hml : m < h.length := by omega
        have hokm := hok h[m] (List.getElem_mem hml)
        refine Join.dir (loadEv ((((hs.ext hx1).ext hx).ext hx6).ext hx12) hml zc38 fun w15 hb15 hx15 => ?_)
        have hm15 := hm.ext (hx.trans (hx6.trans (hx12.trans hx15)))
        have hlook : (Instr.lookup 103 (.map (some w.heap.size)) (.int .i64 h[m].t) false).run Try.prog w15 = .ok (.int .i64 (fin h 3 h[m].t)) w15 := by
          rw [hm15.look, if_pos (by unfold okOp at hokm; omega)]
        refine ⟨fun (b : Bool) w' => b = decide (0 ≤ fin h 3 h[m].t ∧ fin h 3 h[m].t < i) ∧ w' = w15, ?_, ?_⟩
        · rintro b w16 ⟨rfl, rfl⟩
          refine ⟨fun (b : Bool) w' => b = decide (good h h[i].i i h[m]) ∧ w' = w16, ?_, ?_⟩
          · rintro b w17 ⟨rfl, rfl⟩
            have hstep : srcUp h h[i].i i (m + 1) = if good h h[i].i i h[m] then h[m].t else srcUp h h[i].i i m := by rw [srcUp, getD_at hml]
            refine cond_intro (fun hg => ?_) (fun hg => ?_)
            · refine ⟨_, hb15.cell 0, ?_, hx12.trans hx15⟩
              rw [hsr, hstep, if_pos (by simpa using hg)]
            · refine ⟨m, by omega, rfl, m, ?_, rfl, by omega, ?_, hx12.trans hx15⟩
              · rw [wrap64 (by omega) (by omega)]
              · rw [hsr, hstep, if_neg (by simpa using hg)]
          · have hb6 := hb.ext (hx12.trans hx15)
            refine ⟨_, hb15.cell 1, cond_intro (fun h1 => ?_) (fun h1 => ?_)⟩
            · refine ⟨_, hb15.cell 2, _, hb6.cell 2, cond_intro (fun h2 => ?_) (fun h2 => ?_)⟩
              · refine ⟨?_, rfl⟩
                simp at h1 h2
                rw [← decide_not]
                apply decide_eq_decide.2
                unfold good
                exact ⟨fun h3 => ⟨h1, h2, h3⟩, fun h3 => h3.2.2⟩
              · refine ⟨?_, rfl⟩
                simp at h1 h2
                simp [good, h2]
            · refine ⟨?_, rfl⟩
              simp at h1
              simp [good, h1]
        · refine ⟨_, hb15.cell 0, _, hlook, cond_intro (fun h1 => ?_) (fun h1 => ?_)⟩
          · refine ⟨_, hb15.cell 0, _, hlook, ?_, rfl⟩
            simp at h1
            simp [h1]
          · refine ⟨?_, rfl⟩
            simp at h1
            rw [eq_comm, decide_eq_false_iff_not]; omega
      · have : j = 0 := by have : ¬ (0 : Int) ≤ (j : Int) - 1 := by simpa using hj0
                           omega
        subst this
        exact ⟨hsr.symm, hx12⟩
  · rintro s' w' ⟨ho, hx⟩
    rw [hn] at ho
    exact ⟨s', rfl, ho.mono hx1.size, hx1.trans hx⟩

theorem c92 {w : World} {s : Sl} {h : List Ev} (hs : Hs w s h) (hok : ∀ o ∈ h, okOp o) (hl : h.length ≤ 1000) :
    Calls Try.prog 92 [.slice s.a s.n s.c].toArray w fun e w' => ∃ s' : Sl, e = .returned (.slice s'.a s'.n s'.c) ∧ Own 3 1 eI w.heap.size w' s' (frm h) ∧ Ext w w' := by
  refine (call92 s (R := fun v w' => ∃ s' : Sl, v = .slice s'.a s'.n s'.c ∧ Own 3 1 eI w.heap.size w' s' (frm h) ∧ Ext w w') ?_).mono fun e w' ⟨v, he, s', hv, hx⟩ => ⟨s', by rw [he, hv], hx⟩
  have hn := hs.len
  have hcap := hs.cap
  have hbig : h.length ≤ big := by show h.length ≤ 9223372036854775807; omega
  refine Join.dir (rangeSI (fun i (s' : Sl) w' => Own 3 1 eI w.heap.size w' s' ((List.range i).map (frm1 h)) ∧ Ext w w') (by rw [hn]; exact hbig) ⟨Own.nil .., Fr.refl _ _⟩ ?_ ?_)
  · rintro i hi s' w3 ⟨ho, hx⟩ K hK
    have hi : i < h.length := by omega
    have hlen : ((List.range i).map (frm1 h)).length ≤ 1000000 := by simp; omega
    refine loadEv (hs.ext hx) hi zc37 fun w5 hb hx5 => ⟨_, hb.cell 1, ?_⟩
    refine ⟨fun (x : Int) w' => x = frm1 h i ∧ Ext w5 w', ?_, ?_⟩
    · rintro x w6 ⟨rfl, hx6⟩
      have ho6 := ho.ext (hx5.trans hx6)
      obtain ⟨s1, w9, e9, s2, w10, e10, ho2, hf⟩ := appendInt ho6 (frm1 h i) hlen (by have := (hx.trans (hx5.trans hx6)).size; omega)
      exact ⟨s1, w9, e9, s2, w10, e10, hK _ _ ⟨by rw [range_step]; exact ho2, Own.newer ho6 (hx.trans (hx5.trans hx6)) hf (Nat.le_refl _)⟩⟩
    refine cond_intro (fun hc => ?_) (fun hc => ?_)
    · have hc : h[i].k = 0 := by simpa using hc
      refine ⟨by omega, by omega, Join.dir (rangeKI (k := .int .i64) (fun j (x : Int) w' => x = srcUp h h[i].i i j ∧ Ext w5 w') ?_ ⟨rfl, Fr.refl _ _⟩ ?_ ?_)⟩
      · show Int.toNat (i : Int) ≤ 9223372036854775807; omega
      · rintro j hj x w10 ⟨hxe, hx10⟩ K2 hK2
        have hji : j < i := by omega
        have hjl : j < h.length := by omega
        have hokj := hok h[j] (List.getElem_mem hjl)
        have hstep : srcUp h h[i].i i (j + 1) = if good h h[i].i i h[j] then h[j].t else srcUp h h[i].i i j := by rw [srcUp, getD_at hjl]
        refine loadEvN (n := Int.toNat (i : Int)) (((hs.ext hx).ext hx5).ext hx10) hjl (by omega) zc37 fun w13 hb13 hx13 => ?_
        have hb' := hb.ext (hx10.trans hx13)
        have hx513 := hx10.trans hx13
        have hnot : ¬ (h[j].k = 1 ∧ h[j].i = h[i].i) → K2 x w13 := fun hng => hK2 _ _ ⟨by rw [hstep, if_neg (fun hg => hng ⟨hg.1, hg.2.1⟩)]; exact hxe, hx513⟩
        refine ⟨fun (b : Bool) w' => b = decide (h[j].k = 1 ∧ h[j].i = h[i].i) ∧ w' = w13, ?_, ?_⟩
        · rintro b w14 ⟨rfl, rfl⟩
          refine Join.dir (cond_intro (fun hg => ?_) (fun hg => ?_))
          · have hg : h[j].k = 1 ∧ h[j].i = h[i].i := by simpa using hg
            refine ⟨_, hb13.cell 0, (c68 ((((hs.ext hx).ext hx5).ext hx10).ext hx13) hok h[j].t 3 (by omega) hbig).mono fun e w16 ⟨he, hx16⟩ => ⟨_, he, ?_⟩⟩
            have hne : fin h 3 h[j].t ≠ (i : Int) := fun e => by
              have hm : (⟨h[j].t, 3, 0⟩ : Ev) ∈ h := ix_nonneg.1 (by show 0 ≤ fin h 3 h[j].t; omega)
              obtain ⟨i', h1, h2, _⟩ := ix_mem hm
              have : i' = i := by have : fin h 3 h[j].t = i' := h1
                                  omega
              subst this
              rw [List.getElem?_eq_getElem hi] at h2
              have := Option.some.inj h2
              rw [this] at hc
              simp at hc
            refine ⟨fun (b : Bool) w' => b = decide (good h h[i].i i h[j]) ∧ w' = w16, ?_, ?_⟩
            · rintro b w17 ⟨rfl, rfl⟩
              refine Join.dir (cond_intro (fun hg2 => ?_) (fun hg2 => ?_))
              · refine ⟨_, (hb13.ext hx16).cell 0, hK2 _ _ ⟨?_, hx513.trans hx16⟩⟩
                rw [hstep, if_pos (by simpa using hg2)]
              · refine hK2 _ _ ⟨?_, hx513.trans hx16⟩
                rw [hstep, if_neg (by simpa using hg2)]; exact hxe
            · refine cond_intro (fun h1 => ?_) (fun h1 => ?_)
              · refine ⟨?_, rfl⟩
                simp at h1
                have : good h h[i].i i h[j] := ⟨hg.1, hg.2, by omega⟩
                simp [this]
              · refine ⟨?_, rfl⟩
                simp at h1
                apply decide_eq_decide.2
                unfold good
                constructor
                · intro h2; exact ⟨hg.1, hg.2, by omega⟩
                · intro h2; have := h2.2.2; omega
          · exact hnot (by simpa using hg)
        · refine ⟨_, hb13.cell 1, cond_intro (fun h1 => ?_) (fun h1 => ?_)⟩
          · refine ⟨_, hb13.cell 2, _, hb'.cell 2, ?_, rfl⟩
            simp at h1
            by_cases h2 : h[j].i = h[i].i <;> simp [h1, h2]
          · refine ⟨?_, rfl⟩
            simp at h1
            simp [h1]
      · rintro x w10 ⟨hxe, hx10⟩
        have hxe : x = srcUp h h[i].i i i := by simpa using hxe
        exact ⟨by rw [frm1_read hi hc]; exact hxe, hx10⟩
    · have hc : ¬ h[i].k = 0 := by simpa using hc
      exact ⟨(frm1_not hi hc).symm, Fr.refl _ _⟩
  · rintro s' w' ⟨ho, hx⟩
    rw [hn] at ho
    exact ⟨s', rfl, ho, hx⟩
end Go.Proofs.Ytnbkihkdfhjlmaa
/-
  Where append lays its result: in the slice's own block, or in a new one. For every program.
-/
namespace Go.VC
open Go
variable {P : Program}

theorem append_where2 {α : Type} {t e size bytes : Nat} (E : Elem P t e size bytes) {enc : α → List Value} {B : Nat} {w : World} {s : Sl} {l : List α} (h : Own e size enc B w s l) {s2 : Sl} {l2 : List α}
    (h2 : Sli size enc w s2 l2) (hk : ∀ x, (enc x).length = size) (h1 : ∀ x, ∀ v ∈ enc x, v.oneCell' = true) (hlen : (l.length + l2.length) * bytes ≤ 140737488355328) (hlen' : l.length + l2.length ≤ maxLen) (ty : Nat) {s' : Sl} {w' : World}
    (hrun : (Builtin.append_ #[t, t] ty #[.slice s.a s.n s.c, .slice s2.a s2.n s2.c]).run P w = .ok (.slice s'.a s'.n s'.c) w') : (s'.a = s.a ∧ s'.c = s.c) ∨ ∀ a, s'.a = some a → w.heap.size ≤ a.block := by
  by_cases hl : l2 = []
  · subst hl
    rw [appendNil E h.sli.cap h2.len ty w] at hrun
    injection hrun with hv _
    injection hv with ha _ hc
    exact .inl ⟨ha.symm, hc.symm⟩
  obtain ⟨p, hp, hr⟩ := h2.mem hl
  obtain ⟨i, z, hi, hz, hsz, hby, hzs⟩ := E.info
  have hown := h
  obtain ⟨hn, hll, h⟩ := h
  rcases h with ⟨hnil, h0⟩ | ⟨g, cap, cur, hv, hb, hg, hc, hm, hcs, ht⟩
  · have : l = [] := List.eq_nil_of_length_eq_zero h0
    subst this
    simp only [Value.slice.injEq] at hnil
    obtain ⟨s'', w'', hr2, ho2, _⟩ := appendSli E (Own.nil (α := α) e size enc w.heap.size w) h2 hk h1 hlen hlen' (Nat.le_refl _) ty
    rw [hnil.1, hnil.2.1, hnil.2.2] at hrun
    simp only at hr2
    rw [hr2] at hrun
    injection hrun with hv _
    injection hv with ha _ _
    exact .inr fun a haa => (ho2.base (by rw [ha]; exact haa)).1
  · simp only [Value.slice.injEq] at hv
    obtain ⟨ha, hsn, hsc⟩ := hv
    have hbk : Blk w g cur.toList e := by unfold Blk; simpa using hg
    have hfl := flatMap_len hk
    rw [hp, h2.len, ha, hsn, hsc] at hrun
    rcases Nat.lt_or_ge cap (l.length + l2.length) with hgr | hroom
    · obtain ⟨v', w2, hr2, ho2, _⟩ := run_append_arg_grows (P := P) w t ty e i z size bytes E.under hi hz hsz hby hzs E.pos ⟨g, 0, none⟩ l.length cap (l.flatMap enc) (hfl l)
        (fun j u hu => by
          rw [addr_add_plain, Nat.zero_add, hbk.cell]
          rw [← ht, List.getElem?_take] at hu
          split at hu
          · exact hu
          · cases hu) ⟨p.b, p.o, none⟩ l2.length s2.c (l2.flatMap enc) (hfl l2) (fun j u hu => by rw [addr_add_plain]; exact rd_get hr hu) hgr hlen' hlen
      rw [hr2] at hrun
      injection hrun with hv _
      subst hv
      refine .inr fun a haa => ?_
      have := ho2.lt a.block (by simp [Value.ownBlock, haa])
      exact this.1
    · have hr2 := run_append_room_cells (P := P) w t ty e i E.under hi g 0 l.length cap ⟨p.b, p.o, none⟩ l2.length s2.c (l2.flatMap enc) (by rw [hsz]; exact hfl l2) (fun j u hu => by rw [addr_add_plain]; exact rd_get hr hu)
        (fun u hu => by obtain ⟨x, _, hx⟩ := List.mem_flatMap.1 hu; exact h1 x u hx) hroom
        (fun j hj => by
          rw [hbk.cell, hsz]
          have : l.length * size + j < cur.toList.length := by
            rw [hfl] at hj
            have h3 : (l.length + l2.length) * size ≤ cap * size := Nat.mul_le_mul_right _ hroom
            rw [Nat.add_mul] at h3
            simp; omega
          rw [Nat.zero_add, List.getElem?_eq_getElem this]; rfl)
        (fun j hj => frozen_of_row w g _ cur e hg)
      rw [hr2] at hrun
      injection hrun with hv _
      injection hv with hv _ hcc
      exact .inl ⟨by rw [ha, ← hv], by rw [hsc, ← hcc]⟩
theorem append_where {α : Type} {t e size bytes : Nat} (E : Elem P t e size bytes) {enc : α → List Value} {B : Nat} {w : World} {s : Sl} {l : List α} (h : Own e size enc B w s l) {s2 : Sl} {l2 : List α}
    (h2 : Sli size enc w s2 l2) (hk : ∀ x, (enc x).length = size) (h1 : ∀ x, ∀ v ∈ enc x, v.oneCell' = true) (hlen : (l.length + l2.length) * bytes ≤ 140737488355328) (hlen' : l.length + l2.length ≤ maxLen) (ty : Nat) {s' : Sl} {w' : World}
    (hrun : (Builtin.append_ #[t, t] ty #[.slice s.a s.n s.c, .slice s2.a s2.n s2.c]).run P w = .ok (.slice s'.a s'.n s'.c) w') : s'.a = s.a ∨ ∀ a, s'.a = some a → w.heap.size ≤ a.block :=
  (append_where2 E h h2 hk h1 hlen hlen' ty hrun).imp And.left id
end Go.VC
namespace Go.VC
open Go
variable {P : Program}
/-- A new row of one element. -/
theorem Own.one {α : Type} {T size : Nat} {enc : α → List Value} (w : World) (x : α) (hk : (enc x).length = size) : Own T size enc w.heap.size (w.alloc (.cells (enc x).toArray T)) ⟨some ⟨w.heap.size, 0, none⟩, 1, 1⟩ [x] :=
  ⟨rfl, by simp [hk], .inr ⟨w.heap.size, 1, (enc x).toArray, rfl, Nat.le_refl _, by show (w.heap.push _)[w.heap.size]? = _; simp, Nat.le_refl _, by simp [maxLen], by simp [hk], by simp [← hk]⟩⟩
/-- 's[:m]' of an owned slice. -/
theorem Own.trunc {α : Type} {T size : Nat} {enc : α → List Value} {B : Nat} {w : World} {s : Sl} {l : List α} (hk : ∀ x, (enc x).length = size) (h : Own T size enc B w s l) {m : Nat} (hm : m ≤ l.length) : Own T size enc B w ⟨s.a, m, s.c⟩ (l.take m) := by
  obtain ⟨hn, hl, h⟩ := h
  have hfl := flatMap_len hk
  refine ⟨by simp [hm], by rw [hfl], ?_⟩
  rcases h with ⟨h1, h2⟩ | ⟨g, cap, cur, hv, hb, hg, hc, hmx, hcs, ht⟩
  · simp only [Value.slice.injEq] at h1
    have : m = 0 := by omega
    subst this
    exact .inl ⟨by simp [h1.1, h1.2.2], by simp⟩
  · simp only [Value.slice.injEq] at hv
    refine .inr ⟨g, cap, cur, by simp [hv.1, hv.2.2, hm], hb, hg, by simp; omega, hmx, hcs, ?_⟩
    have e : l.flatMap enc = (l.take m).flatMap enc ++ (l.drop m).flatMap enc := by rw [← List.flatMap_append, List.take_append_drop]
    have h3 : (l.take m).length * size ≤ l.length * size := Nat.mul_le_mul_right _ (by simp; omega)
    have : cur.toList.take ((l.take m).length * size) = (cur.toList.take (l.length * size)).take ((l.take m).length * size) := by rw [List.take_take, Nat.min_eq_left h3]
    rw [this, ht, e, List.take_left' (hfl _)]
end Go.VC
/-
  Contracts: what the reads of a history read from and the last writers, in the program.
-/
namespace Go.Proofs.Ytnbkihkdfhjlmaa
open Go Go.VC
set_option maxHeartbeats 400000

theorem appendIntW {B : Nat} {w : World} {s : Sl} {l : List Int} (ho : Own 3 1 eI B w s l) (x : Int) (hl : l.length ≤ 1000000) (hB : B ≤ w.heap.size) :
    ∃ (s1 : Sl) (w1 : World), (Instr.buildSlice 24 1 [(0, .int .i64 x)].toArray).run Try.prog w = .ok (.slice s1.a s1.n s1.c) w1 ∧ Ext w w1 ∧
      ∃ (s' : Sl) (w' : World), (Builtin.append_ #[24, 24] 24 #[.slice s.a s.n s.c, .slice s1.a s1.n s1.c]).run Try.prog w1 = .ok (.slice s'.a s'.n s'.c) w' ∧ Own 3 1 eI B w' s' (l ++ [x]) ∧ Fr (Bl s) w1 w' ∧ (s'.a = s.a ∨ ∀ a, s'.a = some a → w.heap.size ≤ a.block) := by
  have hb := buildOne_run E24 (v := .int .i64 x) (vs := eI x) rfl rfl (by omega) w
  have hx := Ext.alloc w (.cells (eI x).toArray 3)
  have h2 : Sli 1 eI (w.alloc (.cells (eI x).toArray 3)) ⟨some ⟨w.heap.size, 0, none⟩, 1, 1⟩ [x] := ⟨rfl, Nat.le_refl _, fun _ => ⟨⟨w.heap.size, 0⟩, rfl, by simpa using (Blk.alloc w (eI x) 3).rd⟩⟩
  obtain ⟨s', w', hr, ho', hf⟩ := appendSli E24 (ho.ext hx) h2 eI_len eI_one (by simp; omega) (by simp [maxLen]; omega) (by have := hx.size; omega) 24
  refine ⟨⟨some ⟨w.heap.size, 0, none⟩, 1, 1⟩, _, hb, hx, s', w', hr, ho', hf, ?_⟩
  rcases append_where E24 (ho.ext hx) h2 eI_len eI_one (by simp; omega) (by simp [maxLen]; omega) 24 hr with h | h
  · exact .inl h
  · exact .inr fun a ha => Nat.le_trans hx.size (h a ha)

/-- What the reads of a transaction among the first n operations read from. -/
def rds (h : List Ev) (t : Int) (n : Nat) : List Int := ((List.range n).filter fun i => decide ((h.getD i e0).t = t ∧ (h.getD i e0).k = 0)).map (frm1 h)
def reads (h : List Ev) (t : Int) : List Int := rds h t h.length
/-- The last writer of an Item among the first n operations. -/
def lst (h : List Ev) (it : Int) : Nat → Int
  | 0 => 0
  | j + 1 => if (h.getD j e0).k = 1 ∧ (h.getD j e0).i = it then (h.getD j e0).t else lst h it j
def lastsAt (h : List Ev) (n : Nat) : List Int := [lst h 0 n, lst h 1 n, lst h 2 n, lst h 3 n, lst h 4 n, lst h 5 n]
def lasts (h : List Ev) : List Int := lastsAt h h.length
theorem rds_step {h : List Ev} {i : Nat} (hi : i < h.length) (t : Int) : rds h t (i + 1) = rds h t i ++ if h[i].t = t ∧ h[i].k = 0 then [frm1 h i] else [] := by
  unfold rds
  rw [List.range_succ, List.filter_append, List.map_append, List.filter_cons, List.filter_nil, getD_at hi]
  by_cases hc : h[i].t = t ∧ h[i].k = 0
  · simp [hc]
  · simp [hc]
theorem lastsAt_not {h : List Ev} {i : Nat} (hi : i < h.length) (hk : ¬ h[i].k = 1) : lastsAt h (i + 1) = lastsAt h i := by
  simp only [lastsAt, lst, getD_at hi, hk, false_and, if_false]
theorem lastsAt_step {h : List Ev} {i : Nat} (hi : i < h.length) (hk : h[i].k = 1) (h0 : 0 ≤ h[i].i) (h5 : h[i].i ≤ 5) : lastsAt h (i + 1) = (lastsAt h i).set h[i].i.toNat h[i].t := by
  simp only [lastsAt, lst, getD_at hi, hk, true_and]
  have hc : h[i].i = 0 ∨ h[i].i = 1 ∨ h[i].i = 2 ∨ h[i].i = 3 ∨ h[i].i = 4 ∨ h[i].i = 5 := by omega
  rcases hc with e | e | e | e | e | e <;> rw [e] <;> simp

def kS (s : Sl) : Value := .slice s.a s.n s.c
def nilS : Sl := ⟨none, 0, 0⟩
def sAt (l : List (Ent Int Sl)) (t : Int) : Sl := (mget l t).getD nilS
/-- The cells of a view. -/
def VS (b : Nat) (xs : List Int) : List Value := Value.map (some b) :: xs.map (Value.int .i64)
theorem u62 : Try.prog.underlying 62 = some (.map 3 24) := by kernel_rfl
theorem zero24 (w : World) : (zeroValue 24).run Try.prog w = .ok (.slice none 0 0) w := Try.zeroValue24 w
theorem zc65 : (zc Try.prog 65).size = 7 := by kernel_rfl
theorem lookS {w : World} {b c : Nat} {l : List (Ent Int Sl)} (h : Mp kI kS w b l c) (t : Int) :
    (Instr.lookup 62 (.map (some b)) (.int .i64 t) false).run Try.prog w = .ok (.slice (sAt l t).a (sAt l t).n (sAt l t).c) w := by
  have := (look_run K3 u62 h zero24 t).1
  rw [show (Value.int .i64 t) = kI t from rfl, this]
  unfold sAt
  cases mget l t <;> rfl
/-- A view as a value: the map and the last writers. -/
structure ViewV (w : World) (m : Option Nat) (xs : List Int) (h : List Ev) : Prop where
  ex : ∃ b l c, m = some b ∧ Mp kI kS w b l c ∧ ∀ t, Ints w (sAt l t) (reads h t)
  last : xs = lasts h
theorem ViewV.ext {w w' : World} {m : Option Nat} {xs : List Int} {h : List Ev} (v : ViewV w m xs h) (f : Ext w w') : ViewV w' m xs h := by
  obtain ⟨b, l, c, h1, h2, h3⟩ := v.ex
  exact ⟨⟨b, l, c, h1, h2.ext f, fun t => (h3 t).ext f⟩, v.last⟩

/-- While the view is made: the reads of the first i operations, the writes of the first j. -/
structure Mk (h : List Ev) (s9 : Sl) (w0 : World) (b vb rb B : Nat) (i j : Nat) (w : World) : Prop where
  map : ∃ l c, Mp kI kS w b l c ∧ (∀ t, Own 3 1 eI B w (sAt l t) (rds h t i)) ∧ ∀ t t', t ≠ t' → ∀ a a', (sAt l t).a = some a → (sAt l t').a = some a' → a.block ≠ a'.block
  view : Blk w vb (VS b (lastsAt h j)) 65
  res : ∃ z : List Value, z.length = 7 ∧ Blk w rb z 65
  frm : Ints w s9 (frm h)
  ext : Ext w0 w
  size : B ≤ w.heap.size

theorem c35 {w : World} {s : Sl} {h : List Ev} (hs : Hs w s h) (hok : ∀ o ∈ h, okOp o) (hl : h.length ≤ 1000) :
    Calls Try.prog 35 [.slice s.a s.n s.c].toArray w fun e w' => ∃ (m : Option Nat) (a b c d e' f : Int), e = .returned (.agg [.map m, .int .i64 a, .int .i64 b, .int .i64 c, .int .i64 d, .int .i64 e', .int .i64 f].toArray) ∧ ViewV w' m [a, b, c, d, e', f] h ∧ Ext w w' := by
  refine (call35 s (R := fun v w' => ∃ (m : Option Nat) (a b c d e' f : Int), v = (.agg [.map m, .int .i64 a, .int .i64 b, .int .i64 c, .int .i64 d, .int .i64 e', .int .i64 f].toArray) ∧ ViewV w' m [a, b, c, d, e', f] h ∧ Ext w w') ?_).mono
    fun e w' ⟨v, he, m, a, b, c, d, e', f, hv, hx⟩ => ⟨m, a, b, c, d, e', f, by rw [he, hv], hx⟩
  have hn := hs.len
  have hbig : h.length ≤ big := by show h.length ≤ 9223372036854775807; omega
  refine Let.intro fun w1 e1 => Let.intro fun w2 e2 => ?_
  have hx1 : Ext w w1 := by rw [e1]; exact Ext.alloc ..
  have hx2 : Ext w1 w2 := by rw [e2]; exact Ext.alloc ..
  have hr1 : Blk w1 w.heap.size (zc Try.prog 65).toList 65 := by rw [e1]; simpa using Blk.alloc w (zc Try.prog 65).toList 65
  have hm2 : Mp kI kS w2 w1.heap.size ([] : List (Ent Int Sl)) 0 := by rw [e2]; exact Mp.made w1
  obtain ⟨hst, hv4, hx4⟩ := new_var w2 65 (z := zc Try.prog 65) (vs := VS w1.heap.size (lastsAt h 0)) zc65 (by intro v hv; simp [VS, lastsAt] at hv; rcases hv with rfl | rfl | rfl | rfl | rfl | rfl | rfl <;> rfl)
  refine Let.intro fun w3 e3 => ?_
  rw [← e3] at hst hv4 hx4
  refine ⟨hst, Let.intro fun w4 e4 => ?_⟩
  have hv4 : Blk w4 w2.heap.size (VS w1.heap.size (lastsAt h 0)) 65 := by rw [e4]; exact hv4
  have hx4 : Ext w2 w4 := by rw [e4]; exact hx4
  have hx04 : Ext w w4 := (hx1.trans hx2).trans hx4
  refine (c55 (hs.ext hx04) hok hl).mono fun e w5 ⟨s9, he, ho9, hx5⟩ => ⟨s9, he, ?_⟩
  have hx05 := hx04.trans hx5
  have hn9 : s9.n = h.length := by have := ho9.1; simpa [frm] using this
  have b1 : w.heap.size < w1.heap.size := hr1.lt
  have b2 : w1.heap.size < w2.heap.size := hm2.bound
  have b4 : w2.heap.size < w4.heap.size := hv4.lt
  have b5 := hx5.size
  refine Join.dir (rangeI (fun i w' => Mk h s9 w w1.heap.size w2.heap.size w.heap.size w5.heap.size i i w') (by rw [hn9]; exact hbig) ?_ ?_ ?_)
  · have hm5 := (hm2.ext hx4).ext hx5
    exact ⟨⟨[], 0, hm5, fun t => Own.nil .., fun t t' _ a a' ha => by simp [sAt, mget, nilS] at ha⟩, hv4.ext hx5, ⟨_, by simp [zc65], (hr1.ext (hx2.trans (hx4.trans hx5)))⟩, ho9.sli, hx05, Nat.le_refl _⟩
  · rintro i hi w8 hM K hK
    have hi : i < h.length := by omega
    have hi9 : i < (frm h).length := by simp [frm]; exact hi
    have hokh := hok h[i] (List.getElem_mem hi)
    obtain ⟨p, hp, h1, h2, hr⟩ := Ints.at hM.frm hi9
    have hfi : (frm h)[i] = frm1 h i := by simp [frm]
    rw [hfi] at hr
    have hat : ∀ w', Ext w w' → ∃ q : Pt, s.a = some ⟨q.b, q.o, none⟩ ∧ 0 ≤ (i : Int) ∧ (i : Int) < ((s.n : Nat) : Int) ∧ rd w' q.b (q.o + Int.toNat (i : Int) * 3) (eO h[i]) := fun w' hx => Sli.at eO_len (hs.ext hx) hi
    obtain ⟨q, hq, hq1, hq2, hqr⟩ := hat w8 hM.ext
    refine ⟨p, hp, h1, h2, _, hr, q, hq, hq1, hq2, _, hqr.2.1, ?_⟩
    refine ⟨fun w' => Mk h s9 w w1.heap.size w2.heap.size w.heap.size w5.heap.size (i + 1) i w', ?_, ?_⟩
    · -- the last writers
      rintro w10 hM10
      obtain ⟨q, hq, hq1, hq2, hqr⟩ := hat w10 hM10.ext
      refine ⟨q, hq, hq1, hq2, _, hqr.2.1, Join.dir (cond_intro (fun hc => ?_) (fun hc => ?_))⟩
      · have hc : h[i].k = 1 := by simpa using hc
        refine Let.intro fun w12 e12 => ?_
        have hx12 : Ext w10 w12 := by rw [e12]; exact Ext.drew _
        obtain ⟨q, hq, hq1, hq2, hqr⟩ := hat w12 (hM10.ext.trans hx12)
        have hb12 := hM10.view.ext hx12
        have hio : 0 ≤ h[i].i ∧ h[i].i ≤ 5 := by unfold okOp at hokh; omega
        refine ⟨q, hq, hq1, hq2, _, hqr.2.2.1, q, hq, hq1, hq2, _, by simpa using hqr.1, hio.1, by omega, hb12.storeOk rfl (by simp [Value.oneCell']) (by simp [VS, lastsAt]; omega), Let.intro fun w13 e13 => ?_⟩
        have hf13 : Fr (fun b => b = w2.heap.size) w12 w13 := by rw [e13]; exact Fr.put ..
        have hb13 := hb12.put (o := 0 + 1 + Int.toNat h[i].i * 1) (vs := [.int .i64 h[i].t])
        rw [← e13] at hb13
        obtain ⟨l, c, hm, ho, hd⟩ := hM10.map
        obtain ⟨z, hz1, hz2⟩ := hM10.res
        refine hK _ ⟨⟨l, c, (hm.ext hx12).fr hf13 (by omega), fun t => ((ho t).ext hx12).fr hf13 fun a ha hb => by have := ((ho t).base ha).1; omega, hd⟩, ?_, ⟨z, hz1, (hz2.ext hx12).fr hf13 (by omega)⟩, ?_, ?_, ?_⟩
        · rw [lastsAt_step hi hc hio.1 hio.2]
          have : setR (VS w1.heap.size (lastsAt h i)) (0 + 1 + Int.toNat h[i].i * 1) [.int .i64 h[i].t] = VS w1.heap.size ((lastsAt h i).set h[i].i.toNat h[i].t) := by
            rw [setR, setR, show 0 + 1 + Int.toNat h[i].i * 1 = Int.toNat h[i].i + 1 from by omega]
            unfold VS
            rw [List.set_cons_succ, List.map_set]
          rw [← this]; exact hb13
        · exact (hM10.frm.ext hx12).fr hf13 fun a ha hb => by have := (ho9.base ha).1; omega
        · exact (hM10.ext.trans hx12).newer hf13 fun b hb => by omega
        · have := hM10.size; have := hx12.size; have := hf13.size; omega
      · have hc : ¬ h[i].k = 1 := by simpa using hc
        exact hK _ ⟨hM10.map, by rw [lastsAt_not hi hc]; exact hM10.view, hM10.res, hM10.frm, hM10.ext, hM10.size⟩
    · refine cond_intro (fun hc => ?_) (fun hc => ?_)
      · have hc : h[i].k = 0 := by simpa using hc
        obtain ⟨l, c, hm, ho, hd⟩ := hM.map
        refine ⟨fun u => Mp kI kS u w1.heap.size l c ∧ Blk u w2.heap.size (VS w1.heap.size (lastsAt h i)) 65 ∧ Ext w u, ⟨hm.ext (Ext.drew _), hM.view.ext (Ext.drew _), hM.ext.trans (Ext.drew _)⟩, Let.intro fun w14 e14 => ?_⟩
        have hx14 : Ext w8 w14 := by rw [e14]; exact Ext.drew _
        have hcell : ∀ u, Mp kI kS u w1.heap.size l c ∧ Blk u w2.heap.size (VS w1.heap.size (lastsAt h i)) 65 ∧ Ext w u → World.cell? u ⟨w2.heap.size, (0 + 0), none⟩ = some (.map (some w1.heap.size)) := fun u hu => hu.2.1.cell 0
        have htx : ∀ u, Mp kI kS u w1.heap.size l c ∧ Blk u w2.heap.size (VS w1.heap.size (lastsAt h i)) 65 ∧ Ext w u → World.cell? u ⟨q.b, ((q.o + Int.toNat (i : Int) * 3) + 0), none⟩ = some (.int .i64 h[i].t) := fun u hu => by
          obtain ⟨q', hq', _, _, hqr'⟩ := hat u hu.2.2
          have e : (⟨q.b, q.o, none⟩ : Addr) = ⟨q'.b, q'.o, none⟩ := Option.some.inj (hq.symm.trans hq')
          have e1 : q.b = q'.b := congrArg Addr.block e
          have e2 : q.o = q'.o := congrArg Addr.off e
          rw [e1, e2]
          simpa using hqr'.1
        have ho14 := (ho h[i].t).ext hx14
        have hlen : (rds h h[i].t i).length ≤ 1000000 := by
          unfold rds
          rw [List.length_map]
          refine Nat.le_trans (List.length_filter_le ..) ?_
          simp; omega
        obtain ⟨s1, w15, e15, hx15, s2, w16, e16, ho16, hf16, hwh⟩ := appendIntW ho14 (frm1 h i) hlen (by have := hM.size; have := hx14.size; omega)
        have hst : ∀ a, (sAt l h[i].t).a = some a → w5.heap.size ≤ a.block := fun a ha => (ho14.base ha).1
        have hS15 : Mp kI kS w15 w1.heap.size l c ∧ Blk w15 w2.heap.size (VS w1.heap.size (lastsAt h i)) 65 ∧ Ext w w15 := ⟨(hm.ext hx14).ext hx15, (hM.view.ext hx14).ext hx15, (hM.ext.trans hx14).trans hx15⟩
        have hS16 : Mp kI kS w16 w1.heap.size l c ∧ Blk w16 w2.heap.size (VS w1.heap.size (lastsAt h i)) 65 ∧ Ext w w16 :=
          ⟨hS15.1.fr hf16 (by rintro ⟨a, ha, hb⟩; have := hst a ha; omega), hS15.2.1.fr hf16 (by rintro ⟨a, ha, hb⟩; have := hst a ha; omega), hS15.2.2.newer hf16 (by rintro b ⟨a, ha, hb⟩; have := hst a ha; omega)⟩
        obtain ⟨w17, c', e17, hm17, hf17⟩ := put_run K3 u62 hS16.1 h[i].t s2
        refine ⟨_, hcell, q, hq, hq1, hq2, _, htx, _, hcell, q, hq, hq1, hq2, _, htx, sAt l h[i].t, fun u hu => lookS hu.1 _, s1, w15, e15, hS15, s2, w16, e16, hS16, w17, e17, ?_⟩
        have hget : ∀ t, sAt (mput l c h[i].t s2) t = if t = h[i].t then s2 else sAt l t := fun t => by
          unfold sAt
          rw [mget_mput]
          split <;> rfl
        obtain ⟨z, hz1, hz2⟩ := hM.res
        have hs2b : ∀ a, s2.a = some a → w5.heap.size ≤ a.block := fun a ha => (ho16.base ha).1
        refine ⟨⟨_, c', hm17, fun t => ?_, fun t t' hne a a' ha ha' => ?_⟩, hS16.2.1.fr hf17 (by omega), ⟨z, hz1, ?_⟩, ?_, ?_, ?_⟩
        · rw [hget, rds_step hi]
          by_cases e : t = h[i].t
          · subst e
            rw [if_pos rfl, if_pos ⟨rfl, hc⟩]
            exact ho16.fr hf17 fun a ha hb => by have := hs2b a ha; omega
          · rw [if_neg e, if_neg (fun h1 => e h1.1.symm), List.append_nil]
            have h1 := ((ho t).ext hx14).ext hx15
            have h2 := h1.fr hf16 fun a ha hb => by
              obtain ⟨a', ha', hb'⟩ := hb
              exact hd _ _ e a a' ha ha' hb'.symm
            exact h2.fr hf17 fun a ha hb => by have := (h2.base ha).1; omega
        · rw [hget] at ha ha'
          have hold : ∀ t a, (sAt l t).a = some a → a.block < w14.heap.size := fun t a ha => (((ho t).ext hx14).base ha).2
          by_cases e : t = h[i].t
          · have e' : t' ≠ h[i].t := fun h1 => hne (e.trans h1.symm)
            rw [if_pos e] at ha
            rw [if_neg e'] at ha'
            rcases hwh with hw | hw
            · rw [hw] at ha
              exact hd _ _ (Ne.symm e') a a' ha ha'
            · have := hw a ha; have := hold _ a' ha'; omega
          · rw [if_neg e] at ha
            by_cases e' : t' = h[i].t
            · rw [if_pos e'] at ha'
              rcases hwh with hw | hw
              · rw [hw] at ha'
                exact hd _ _ e a a' ha ha'
              · have := hw a' ha'; have := hold _ a ha; omega
            · rw [if_neg e'] at ha'
              exact hd _ _ hne a a' ha ha'
        · exact (((hz2.ext hx14).ext hx15).fr hf16 (by rintro ⟨a, ha, hb⟩; have := hst a ha; omega)).fr hf17 (by omega)
        · exact (((hM.frm.ext hx14).ext hx15).fr hf16 (by rintro a ha ⟨a', ha', hb⟩; have := hst a' ha'; have := (ho9.base ha).2; omega)).fr hf17 (by intro a ha hb; have := (ho9.base ha).1; omega)
        · exact hS16.2.2.newer hf17 fun b hb => by omega
        · have := hM.size; have := hx14.size; have := hx15.size; have := hf16.size; have := hf17.size; omega
      · have hc : ¬ h[i].k = 0 := by simpa using hc
        obtain ⟨l, c, hm, ho, hd⟩ := hM.map
        exact ⟨⟨l, c, hm, fun t => by rw [rds_step hi, if_neg (fun h1 => hc h1.2), List.append_nil]; exact ho t, hd⟩, hM.view, hM.res, hM.frm, hM.ext, hM.size⟩
  · rintro w6 hM
    rw [hn9] at hM
    obtain ⟨z, hz1, hz2⟩ := hM.res
    obtain ⟨l, c, hm, ho, hd⟩ := hM.map
    have hv := hM.view.rd
    have hone : ∀ v ∈ VS w1.heap.size (lastsAt h h.length), v.oneCell' = true := by intro v hv; simp [VS, lastsAt] at hv; rcases hv with rfl | rfl | rfl | rfl | rfl | rfl | rfl <;> rfl
    refine ⟨_, _, _, _, _, _, _, hv, hz2.storeOk rfl hone (by simp [hz1]), Let.intro fun w7 e7 => ?_⟩
    have hf7 : Fr (fun b => b = w.heap.size) w6 w7 := by rw [e7]; exact Fr.put ..
    have hb7 := hz2.put (o := 0) (vs := VS w1.heap.size (lastsAt h h.length))
    rw [show setR z 0 (VS w1.heap.size (lastsAt h h.length)) = VS w1.heap.size (lastsAt h h.length) from by simpa using setR_all (vs := VS w1.heap.size (lastsAt h h.length)) (l := z) (pre := []) (by simp [hz1, VS, lastsAt])] at hb7
    rw [show put w6 w.heap.size 0 (VS w1.heap.size (lastsAt h h.length)) = w7 from e7.symm] at hb7
    refine ⟨_, _, _, _, _, _, _, hb7.rd, _, _, _, _, _, _, _, rfl, ⟨⟨_, l, c, rfl, hm.fr hf7 (by omega), fun t => ((ho t).fr hf7 fun a ha hb => by have := ((ho t).base ha).1; omega).sli⟩, rfl⟩, hM.ext.newer hf7 fun b hb => by omega⟩
end Go.Proofs.Ytnbkihkdfhjlmaa
