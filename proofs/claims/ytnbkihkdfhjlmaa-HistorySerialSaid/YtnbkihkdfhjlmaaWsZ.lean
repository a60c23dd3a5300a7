/-
  PROVED: for every history and every list of transactions the law HistorySerial returns true and leaves its arguments as they were: the serial history that the law makes of them has an Order that is not behind its transactions, is Strict and Allowed, has a SnapshotOrder that is not behind either, passes the locks whole and none is aborted. CONDITIONS: none beyond those of the given row.
-/
import Derived.Test.YtnbkihkdfhjlmaaWs9
namespace Go.Proofs.Ytnbkihkdfhjlmaa
open Go Go.VC Go.ChangeShapes Go.WideShapes Go.RowKit
set_option maxRecDepth 100000

section
variable {H : Type} {enc : TypeId × Value → H} {w : World} {base : Nat} {spare : Nat → Bool} {held : Bool}
/-- A slice that reads as data is a list of ints. -/
theorem open_ord {t e : TypeId} (ht : Try.prog.underlying t = some (.slice e)) (he : Try.prog.underlying e = some (.int .i64)) {a : Option Addr} {len cap : Nat} {d : DataW H} {ps : List MemPlace} (h : DataW.Trod enc Try.prog w base spare held t (.slice a len cap) d ps) (hc : Try.prog.cellsOf e = 1 := by kernel_rfl) :
    ∃ l : List Int, Ints w ⟨a, len, cap⟩ l ∧ len ≤ maxLen := by
  obtain ⟨fuel, hf⟩ := h
  rcases open_ints ht he hc hf with ⟨hcs, _⟩ | ⟨a', len', cap', zs, hcs, _, hl, hm, hzl, _, hi, _⟩
  · simp [Value.cells] at hcs
    obtain ⟨rfl, rfl, rfl⟩ := hcs
    exact ⟨[], Sli.nil .., Nat.zero_le _⟩
  · simp [Value.cells] at hcs
    obtain ⟨rfl, rfl, rfl⟩ := hcs
    have hlz : len ≤ zs.length := by rw [hzl]; split <;> omega
    refine ⟨zs.take len, ⟨by simp; omega, hl, fun hne => ?_⟩, by omega⟩
    have h0 : 0 < len := by
      rcases Nat.eq_zero_or_pos len with h | h
      · subst h; exact absurd rfl hne
      · exact h
    have hsp : a'.spot = none := by
      have h1 := World.cell?_spot (hi 0 (by omega))
      have h2 : a'.add 0 = a' := by unfold Addr.add; simp
      rw [h2] at h1; exact h1
    obtain ⟨b, o, sp⟩ := a'
    have h4 : sp = none := hsp
    subst h4
    refine ⟨⟨b, o⟩, rfl, rd_of fun i v hv => ?_⟩
    rw [eI_flat] at hv
    rw [List.getElem?_map, List.getElem?_take] at hv
    split at hv
    · rename_i hil
      have h3 := hi i (by omega)
      rw [addr_add_plain] at h3
      rw [h3]
      rw [List.getElem?_eq_getElem (by omega)] at hv
      simp at hv
      rw [← hv, List.getD_eq_getElem?_getD, List.getElem?_eq_getElem (by omega)]; rfl
    · cases hv
end

theorem serial_lifted (os : Os) (started : os.Started) (H : Type) (enc : TypeId × Value → H) :
    ReturnsInHanded {} Try.checked os 9 .any (Rows.historySerialSpec.pre6 enc Try.prog Try.f9 Rows.historySerialRow.domain false) (Rows.historySerialSpec.post enc Try.prog Try.f9 false true false false) := by
  refine returnsInHanded_of_change_sized (C := Try.checked) own0 started (by kernel_rfl) Try.func9
    (ChangeSpec.witness6 (enc := enc) (C := Try.checked) false ⟨#[], #[.slice none 0 0, .slice none 0 0], []⟩ 8 (by kernel_rfl) (by kernel_rfl) (by kernel_rfl) (by kernel_rfl)) ?_
  intro W base args ds gs before hval0 hW _ _ _
  have hval : ∀ (j : Nat) t v, Try.f9.params[j]? = some t → args[j]? = some v → Value.okWide Try.prog W .any base t v := hval0
  have hW' := hW
  obtain ⟨p, q, hA0, hV, rfl, _, _⟩ := hW
  have hA : DataW.TrodAll enc Try.prog W 0 (fun _ => true) true Try.f9.params.toList args.toList ds p := hA0
  rw [Try.params9] at hA hval
  obtain ⟨v0, v1, d0, d1, p0, p1, rfl, rfl, rfl, h0, h1⟩ := trodAll_two hA
  obtain ⟨rfl, rfl⟩ := trodVars_none hV
  obtain ⟨a1, len1, cap1, rfl⟩ := okWide_slice Try.underlying24 (hval 1 24 v1 rfl rfl)
  obtain ⟨a0, len, cap, rfl⟩ := okWide_slice Try.underlying23 (hval 0 23 v0 rfl rfl)
  clear hA0 hval0
  simp only [List.append_nil] at hW'
  have hlt : ∀ x ∈ p0 ++ p1, x.block < W.heap.size := fun x hx => by simpa using hW'.lt x hx
  have hargs : ∀ (W' : World), Below W.heap.size W W' → DataW.Trod enc Try.prog W' 0 (fun b => decide (b < W.heap.size)) true 23 (.slice a0 len cap) d0 p0 :=
    fun W' hn => Below.trod laid0 (by kernel_rfl) (of_decide_eq_true (by kernel_rfl)) h0 hn fun x hx => hlt x (List.mem_append_left _ hx)
  have hargs1 : ∀ (W' : World), Below W.heap.size W W' → DataW.Trod enc Try.prog W' 0 (fun b => decide (b < W.heap.size)) true 24 (.slice a1 len1 cap1) d1 p1 :=
    fun W' hn => Below.trod laid0 (by kernel_rfl) (of_decide_eq_true (by kernel_rfl)) h1 hn fun x hx => hlt x (List.mem_append_right _ hx)
  obtain ⟨ord, hs', hlen'⟩ := open_ord Try.underlying24 Try.underlying3 h1
  have hl' : ord.length ≤ big := by rw [← hs'.len]; exact Nat.le_trans hlen' (by decide)
  obtain ⟨l, hs, hlen⟩ := open_hist Try.underlying23 h0
  have hl : l.length ≤ big := by rw [← hs.len]; exact Nat.le_trans hlen (by decide)
  refine (c9 hs hs' hl hl').mono fun e W' ⟨he, hx⟩ => ?_
  subst he
  have hnx := hx.below
  refine ⟨_, rfl, _, _, _, [], p0 ++ p1, [], hW', ?_, ?_, ?_, hnx.frame _, fun h => by cases h⟩
  · exact trodAll_mk1 (shut_bool (by kernel_rfl) true)
  · have ea : (Rows.historySerialSpec.fn H ([d0, d1] ++ [])).args = [d0, d1] := rfl
    rw [ea]
    exact trodAll_mk2 (hargs _ hnx) (hargs1 _ hnx)
  · have ev : (Rows.historySerialSpec.fn H ([d0, d1] ++ [])).vars = [] := rfl
    rw [ev]; rfl

theorem serial_holds : Rows.HistorySerialSaid :=
  OpenClaim.holds_of_wide 9 Try.f9 rfl rfl rfl rfl rfl rfl rfl ⟨rfl, rfl, rfl, rfl, rfl⟩ rfl rfl rfl rfl rfl (by kernel_rfl) Try.func9 (by kernel_rfl)
    (of_decide_eq_true (by kernel_rfl)) (by unfold Func.isWrapper; first | (rw [if_pos (by decide +kernel)]; kernel_rfl) | (rw [if_neg (by decide +kernel)]; exact ⟨rfl, rfl⟩))
    (fun os started H enc _ => serial_lifted os started H enc)
end Go.Proofs.Ytnbkihkdfhjlmaa
#print axioms Go.Proofs.Ytnbkihkdfhjlmaa.serial_holds
