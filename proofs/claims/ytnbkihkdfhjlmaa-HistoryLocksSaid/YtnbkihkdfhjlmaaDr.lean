/-
  The frame of the rows: a history as an argument.
-/
import Derived.Test.YtnbkihkdfhjlmaaCa
import Derived.Test.YtnbkihkdfhjlmaaVr
import Derived.Test.YtnbkihkdfhjlmaaRows
import Derived.ProofKit
import Derived.SizedLaws
import Derived.Deep.Slices
namespace Go.Proofs.Ytnbkihkdfhjlmaa
open Go Go.VC Go.ChangeShapes Go.WideShapes Go.RowKit
set_option maxRecDepth 100000

theorem own0 : ownKnob Try.prog.godebug = none := by kernel_rfl
theorem laid0 : laidOutB Try.prog = true := by kernel_rfl
theorem cells37 : Try.prog.cellsOf 37 = 3 := by kernel_rfl
theorem cells3 : Try.prog.cellsOf 3 = 1 := by kernel_rfl

section
variable {H : Type} {enc : TypeId × Value → H} {w : World} {base : Nat} {spare : Nat → Bool} {held : Bool}
/-- Three cells that read as an operation. -/
theorem open_op {fuel : Nat} {cs : List Value} {x : DataW H × List MemPlace} (h : DataW.trod enc Try.prog w base spare held fuel 37 cs = some x) : ∃ o : Ev, cs = eO o := by
  obtain ⟨xs, n, _, _, hl, hlen, hf⟩ := DataW.trod_struct Try.underlying37 h
  rw [cells37] at hl
  match cs, hl with
  | [c0, c1, c2], _ =>
    have hfield : ∀ (i : Nat) (f : Field), (#[{ name := "Txn", type := 3, offset := 0, embedded := false, tag := "", pkgPath := "", byteOffset := 0 }, { name := "Kind", type := 3, offset := 1, embedded := false, tag := "", pkgPath := "", byteOffset := 8 }, { name := "Item", type := 3, offset := 2, embedded := false, tag := "", pkgPath := "", byteOffset := 16 }] : Array Field)[i]? = some f → f.type = 3 → ∃ m : Int, (([c0, c1, c2] : List Value).drop f.offset).take 1 = [.int .i64 m] := by
      intro i f hi ht
      have h1 := hf i f hi
      have hil : i < xs.length := by rw [hlen]; exact (Array.getElem?_eq_some_iff.1 hi).1
      rw [List.getElem?_eq_getElem hil, ht, cells3] at h1
      obtain ⟨m, hm, _⟩ := DataW.trod_int Try.underlying3 h1
      exact ⟨m, hm⟩
    obtain ⟨a, ha⟩ := hfield 0 _ rfl rfl
    obtain ⟨b, hb⟩ := hfield 1 _ rfl rfl
    obtain ⟨c, hc⟩ := hfield 2 _ rfl rfl
    simp at ha hb hc
    exact ⟨⟨a, b, c⟩, by rw [ha, hb, hc]; rfl⟩
/-- Cells that are there one by one. -/
theorem rd_of {b : Nat} : ∀ {vs : List Value} {o : Nat}, (∀ i v, vs[i]? = some v → w.cell? ⟨b, o + i, none⟩ = some v) → rd w b o vs
  | [], _, _ => trivial
  | v :: r, o, h => ⟨by simpa using h 0 v rfl, rd_of fun i u hu => by
      have := h (i + 1) u (by simpa using hu)
      rw [show o + 1 + i = o + (i + 1) from by omega]; exact this⟩
theorem rd_flat {b o : Nat} {n : Nat} {f : Nat → Ev} : ∀ {k : Nat}, k ≤ n → (∀ i, i < n → rd w b (o + i * 3) (eO (f i))) → rd w b o (((List.range k).map f).flatMap eO)
  | 0, _, _ => trivial
  | k + 1, hk, h => by
    rw [List.range_succ, List.map_append, List.flatMap_append, rd_append]
    refine ⟨rd_flat (by omega) h, ?_⟩
    rw [flatMap_len eO_len, List.length_map, List.length_range]
    simpa using h k (by omega)
/-- A slice that reads as data is a history. -/
theorem open_hist {t : TypeId} (ht : Try.prog.underlying t = some (.slice 37)) {a : Option Addr} {len cap : Nat} {d : DataW H} {ps : List MemPlace} (h : DataW.Trod enc Try.prog w base spare held t (.slice a len cap) d ps) :
    ∃ l : List Ev, Hs w ⟨a, len, cap⟩ l ∧ len ≤ maxLen := by
  obtain ⟨fuel, hf⟩ := h
  rcases Deep.open_slice ht hf with ⟨hcs, _⟩ | ⟨a', len', cap', m, n, D, Pl, hcs, _, hl, hm, hmm, _, hi⟩
  · simp [Value.cells] at hcs
    obtain ⟨rfl, rfl, rfl⟩ := hcs
    exact ⟨[], Sli.nil .., Nat.zero_le _⟩
  · simp [Value.cells] at hcs
    obtain ⟨rfl, rfl, rfl⟩ := hcs
    have hlm : len ≤ m := by rw [hmm]; split <;> omega
    have hall : ∀ i, i < len → ∃ o : Ev, ∀ j v, (eO o)[j]? = some v → w.cell? (a'.add (i * 3 + j)) = some v := by
      intro i hil
      obtain ⟨cs', hc, hd⟩ := hi i (by omega)
      obtain ⟨o, rfl⟩ := open_op hd
      rw [cells37] at hc
      obtain ⟨_, _, hat⟩ := World.cells?_some hc
      refine ⟨o, fun j v hv => ?_⟩
      have hj : j < 3 := by
        rcases Nat.lt_or_ge j 3 with h | h
        · exact h
        · rw [List.getElem?_eq_none (by rw [eO_len]; exact h)] at hv; cases hv
      have := hat j hj
      rw [hv] at this
      rw [← this]
      congr 1
      unfold Addr.add
      by_cases h0 : i * 3 = 0 <;> by_cases h1 : j = 0 <;> simp [h0, h1, Nat.add_assoc]
    have hsp : 0 < len → a'.spot = none := fun h0 => by
      obtain ⟨o, ho⟩ := hall 0 h0
      have h1 := World.cell?_spot (ho 0 _ rfl)
      have h2 : a'.add (0 * 3 + 0) = a' := by unfold Addr.add; simp
      rw [h2] at h1; exact h1
    let f : Nat → Ev := fun i => if h : i < len then (hall i h).choose else ⟨0, 0, 0⟩
    have hfc : ∀ i, i < len → rd w a'.block (a'.off + i * 3) (eO (f i)) := by
      intro i hil
      have h1 := (hall i hil).choose_spec
      have h2 : f i = (hall i hil).choose := by simp [f, hil]
      rw [h2]
      refine rd_of fun j v hv => ?_
      have h3 := h1 j v hv
      obtain ⟨b, o, sp⟩ := a'
      have h4 : sp = none := hsp (by omega)
      subst h4
      rw [addr_add_plain] at h3
      rw [Nat.add_assoc]; exact h3
    refine ⟨(List.range len).map f, ⟨by simp, hl, fun hne => ?_⟩, by omega⟩
    have h0 : 0 < len := by
      rcases Nat.eq_zero_or_pos len with h | h
      · subst h; exact absurd rfl hne
      · exact h
    obtain ⟨b, o, sp⟩ := a'
    have h4 : sp = none := hsp h0
    subst h4
    exact ⟨⟨b, o⟩, rfl, rd_flat (Nat.le_refl _) hfc⟩
end
end Go.Proofs.Ytnbkihkdfhjlmaa
