/-
  Contracts: conflicts, the first order that agrees with edges, Order, awake.
-/
import Derived.Test.YtnbkihkdfhjlmaaCm
import Derived.Test.YtnbkihkdfhjlmaaVt
namespace Go.Proofs.Ytnbkihkdfhjlmaa
open Go Go.VC
set_option maxHeartbeats 400000

theorem A79 : IntArr Try.prog 79 3 2 := ⟨by kernel_rfl, by kernel_rfl, by kernel_rfl, by kernel_rfl⟩
def kE (k : Int × Int) : Value := ints [k.1, k.2]
theorem K79 : KeyOk Try.prog 79 kE := KeyOk.arr A79 (fun k : Int × Int => [k.1, k.2]) (fun a b h => by simpa [Prod.ext_iff] using h) (fun _ => rfl)
theorem u75 : Try.prog.underlying 75 = some (.map 79 4) := by kernel_rfl
/-- A map of edges. -/
structure EdgeM (w : World) (b : Nat) (E : Int → Int → Bool) : Prop where
  ex : ∃ (l : List (Ent (Int × Int) Bool)) (c : Nat), Mp kE kB w b l c ∧ ∀ x y, (mget l (x, y)).getD false = E x y
theorem EdgeM.ext {w w' : World} {b : Nat} {E : Int → Int → Bool} (m : EdgeM w b E) (f : Ext w w') : EdgeM w' b E := by
  obtain ⟨l, c, h1, h2⟩ := m.ex
  exact ⟨l, c, h1.ext f, h2⟩
theorem EdgeM.look {w : World} {b : Nat} {E : Int → Int → Bool} (m : EdgeM w b E) (x y : Int) :
    (Instr.lookup 75 (.map (some b)) (.agg [.int .i64 x, .int .i64 y].toArray) false).run Try.prog w = .ok (.bool (E x y)) w := by
  obtain ⟨l, c, h1, h2⟩ := m.ex
  have := (look_run K79 u75 h1 zero4 (x, y)).1
  rw [← h2]
  refine Eq.trans this ?_
  cases mget l (x, y) <;> rfl

/-- Two operations, in this order, are in conflict. -/
def cfl (x y : Ev) : Bool := x.t != y.t && (x.i == y.i && ((if y.k > x.k then y.k else x.k) == 1))
/-- Some x ahead of some y is in conflict with it. -/
def conf (p : List Ev) (a b : Int) : Bool := (List.range p.length).any fun i => (List.range p.length).any fun j => decide (i < j) && cfl (p.getD i e0) (p.getD j e0) && ((p.getD i e0).t == a && (p.getD j e0).t == b)
theorem conf_iff {p : List Ev} {a b : Int} : conf p a b = true ↔ ∃ i j, ∃ (hi : i < p.length) (hj : j < p.length), i < j ∧ cfl p[i] p[j] = true ∧ p[i].t = a ∧ p[j].t = b := by
  unfold conf
  simp only [List.any_eq_true, List.mem_range, Bool.and_eq_true, decide_eq_true_eq, beq_iff_eq]
  constructor
  · rintro ⟨i, hi, j, hj, ⟨h1, h2⟩, h3, h4⟩
    rw [getD_at hi] at h2 h3
    rw [getD_at hj] at h2 h4
    exact ⟨i, j, hi, hj, h1, h2, h3, h4⟩
  · rintro ⟨i, j, hi, hj, h1, h2, h3, h4⟩
    refine ⟨i, hi, j, hj, ⟨h1, ?_⟩, ?_, ?_⟩
    · rw [getD_at hi, getD_at hj]; exact h2
    · rw [getD_at hi]; exact h3
    · rw [getD_at hj]; exact h4
/-- The edges that the first i operations, and of the next one the first j, give. -/
def confTo (p : List Ev) (i j : Nat) (a b : Int) : Prop := ∃ i' j', ∃ (hi : i' < p.length) (hj : j' < p.length), i' < j' ∧ (i' < i ∨ i' = i ∧ j' < j) ∧ cfl p[i'] p[j'] = true ∧ p[i'].t = a ∧ p[j'].t = b

theorem c43 {w : World} {s : Sl} {p : List Ev} (hs : Hs w s p) (hl : p.length ≤ 1000) :
    Calls Try.prog 43 [.slice s.a s.n s.c].toArray w fun e w' => e = .returned (.map (some w.heap.size)) ∧ EdgeM w' w.heap.size (conf p) ∧ Ext w w' := by
  refine (call43 s (R := fun v w' => v = .map (some w.heap.size) ∧ EdgeM w' w.heap.size (conf p) ∧ Ext w w') ?_).mono fun e w' ⟨v, he, hv, hx⟩ => ⟨by rw [he, hv], hx⟩
  have hn := hs.len
  have hbig : p.length ≤ big := by show p.length ≤ 9223372036854775807; omega
  refine Let.intro fun w1 e1 => ?_
  have hm1 : Mp kE kB w1 w.heap.size ([] : List (Ent (Int × Int) Bool)) 0 := by rw [e1]; exact Mp.made w
  have hx1 : Ext w w1 := by rw [e1]; exact Ext.alloc ..
  have hInv0 : ∀ (i : Nat) (a b : Int), confTo p (i + 1) 0 a b ↔ confTo p i p.length a b := by
    intro i a b
    constructor
    · rintro ⟨i', j', hi, hj, h1, h2, h3⟩; exact ⟨i', j', hi, hj, h1, by omega, h3⟩
    · rintro ⟨i', j', hi, hj, h1, h2, h3⟩; exact ⟨i', j', hi, hj, h1, by omega, h3⟩
  refine Join.dir (rangeI (fun i w' => (∃ (l : List (Ent (Int × Int) Bool)) (c : Nat), Mp kE kB w' w.heap.size l c ∧ ∀ x y, (mget l (x, y)).getD false = true ↔ confTo p i 0 x y) ∧ Ext w w') (by rw [hn]; exact hbig)
    ⟨⟨[], 0, hm1, fun x y => ⟨fun h => by simp [mget] at h, fun ⟨i', j', _, _, _, h, _⟩ => by omega⟩⟩, hx1⟩ ?_ ?_)
  · rintro i hi w3 ⟨⟨l, c, hm, hg⟩, hx⟩ K hK
    have hi : i < p.length := by omega
    have hb0 : w.heap.size < w3.heap.size := hm.bound
    refine loadEv (hs.ext hx) hi zc38 fun w6 hb hx6 => ?_
    have hwr : IntKind.wrap .i64 ((i : Int) + 1) = ((i + 1 : Nat) : Int) := by rw [wrap64 (by omega) (by omega)]; rfl
    rw [hwr]
    have hdl : (p.drop (i + 1)).length = p.length - (i + 1) := by simp
    refine ⟨by omega, by omega, Join.dir (rangeI (fun k w' => (∃ (l : List (Ent (Int × Int) Bool)) (c : Nat), Mp kE kB w' w.heap.size l c ∧ ∀ x y, (mget l (x, y)).getD false = true ↔ confTo p i (i + 1 + k) x y) ∧ Ext w w' ∧ Blk w' w3.heap.size (eO p[i]) 38) (by show s.n - (i + 1) ≤ 9223372036854775807; omega)
      ⟨⟨l, c, hm.ext hx6, fun x y => (hg x y).trans ⟨fun ⟨i', j', a, b, h1, h2, h3⟩ => ⟨i', j', a, b, h1, by omega, h3⟩, fun ⟨i', j', a, b, h1, h2, h3⟩ => ⟨i', j', a, b, h1, by omega, h3⟩⟩⟩, hx.trans hx6, hb⟩ ?_ ?_)⟩
    · rintro k hk w8 ⟨⟨l, c, hm, hg⟩, hx8, hb8⟩ K2 hK2
      have hk : k < (p.drop (i + 1)).length := by
        have : k < s.n - (i + 1) := hk
        omega
      have hkl : i + 1 + k < p.length := by omega
      have hget : (p.drop (i + 1))[k] = p[i + 1 + k] := by simp
      refine loadEvN (n := s.n - (i + 1)) (s := ⟨subA s.a s.c (i + 1) 3, s.n - (i + 1), s.c - (i + 1)⟩) ((hs.ext hx8).drop eO_len (by omega)) hk (by omega) zc38 fun w11 hb11 hx11 => ?_
      rw [hget] at hb11
      have hb3 := hb8.ext hx11
      have hm11 := hm.ext hx11
      have hstep : ∀ x y, confTo p i (i + 1 + (k + 1)) x y ↔ confTo p i (i + 1 + k) x y ∨ (cfl p[i] p[i + 1 + k] = true ∧ p[i].t = x ∧ p[i + 1 + k].t = y) := by
        intro x y
        constructor
        · rintro ⟨i', j', a, b, h1, h2, h3⟩
          by_cases e : i' = i ∧ j' = i + 1 + k
          · obtain ⟨rfl, rfl⟩ := e; exact .inr h3
          · exact .inl ⟨i', j', a, b, h1, by omega, h3⟩
        · rintro (⟨i', j', a, b, h1, h2, h3⟩ | h3)
          · exact ⟨i', j', a, b, h1, by omega, h3⟩
          · exact ⟨i, i + 1 + k, hi, hkl, by omega, by omega, h3⟩
      refine ⟨fun (b : Bool) w' => b = cfl p[i] p[i + 1 + k] ∧ w' = w11, ?_, ?_⟩
      · rintro b w12 ⟨rfl, rfl⟩
        refine Join.dir (cond_intro (fun hc => ?_) (fun hc => ?_))
        · obtain ⟨w14, c', hrun, hm14, hf14⟩ := put_run K79 u75 hm11 (p[i].t, p[i + 1 + k].t) true
          refine ⟨_, hb3.cell 0, _, hb11.cell 0, w14, hrun, hK2 _ ⟨⟨_, c', hm14, fun x y => ?_⟩, (hx8.trans hx11).newer hf14 fun b hb => by omega, hb3.fr hf14 ?_⟩⟩
          · rw [mget_mput, hstep]
            by_cases e : (x, y) = (p[i].t, p[i + 1 + k].t)
            · rw [if_pos e]
              injection e with e1 e2
              simp [hc, e1, e2]
            · rw [if_neg e, hg]
              constructor
              · exact fun h => .inl h
              · rintro (h | ⟨_, h1, h2⟩)
                · exact h
                · exact absurd (by rw [h1, h2]) e
          · omega
        · refine hK2 _ ⟨⟨l, c, hm11, fun x y => ?_⟩, hx8.trans hx11, hb3⟩
          rw [hg, hstep]
          constructor
          · exact fun h => .inl h
          · rintro (h | ⟨h, _⟩)
            · exact h
            · rw [hc] at h; cases h
      · refine ⟨_, hb3.cell 0, _, hb11.cell 0, cond_intro (fun h1 => ?_) (fun h1 => ?_)⟩
        · refine ⟨_, hb3.cell 2, _, hb11.cell 2, cond_intro (fun h2 => ?_) (fun h2 => ?_)⟩
          · refine ⟨_, hb3.cell 1, _, hb11.cell 1, ?_, rfl⟩
            unfold cfl; rw [h1, h2]; rfl
          · refine ⟨?_, rfl⟩
            unfold cfl; rw [h1, h2]; rfl
        · refine ⟨?_, rfl⟩
          unfold cfl; rw [h1]; rfl
    · rintro w8 ⟨⟨l, c, hm, hg⟩, hx8, _⟩
      refine hK _ ⟨⟨l, c, hm, fun x y => (hg x y).trans ⟨fun ⟨i', j', a, b, h1, h2, h3⟩ => ⟨i', j', a, b, h1, by omega, h3⟩, fun ⟨i', j', a, b, h1, h2, h3⟩ => ⟨i', j', a, b, h1, ?_, h3⟩⟩⟩, hx8⟩
      have : i + 1 + (s.n - Int.toNat ((i + 1 : Nat) : Int)) = p.length := by omega
      omega
  · rintro w3 ⟨⟨l, c, hm, hg⟩, hx⟩
    refine ⟨rfl, ⟨l, c, hm, fun x y => ?_⟩, hx⟩
    rw [Bool.eq_iff_iff, hg, conf_iff]
    constructor
    · rintro ⟨i', j', a, b, h1, h2, h3⟩; exact ⟨i', j', a, b, h1, h3⟩
    · rintro ⟨i', j', a, b, h1, h3⟩; exact ⟨i', j', a, b, h1, by omega, h3⟩
end Go.Proofs.Ytnbkihkdfhjlmaa
