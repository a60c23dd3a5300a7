/-
  PROVED: for every history the law HistoryLocked returns true and leaves its argument as it was: what Lock makes is a strict history, and the commits in it, in their order, are an equivalent order. CONDITIONS: none beyond those of the given row.
-/
import Derived.Test.YtnbkihkdfhjlmaaWl8
namespace Go.Proofs.Ytnbkihkdfhjlmaa
open Go Go.VC Go.ChangeShapes Go.WideShapes Go.RowKit
set_option maxRecDepth 100000

theorem maxLen_big : maxLen ≤ big := by decide
theorem locked_lifted (os : Os) (started : os.Started) (H : Type) (enc : TypeId × Value → H) :
    ReturnsInHanded {} Try.checked os 8 .any (Rows.historyLockedSpec.pre6 enc Try.prog Try.f8 Rows.historyLockedRow.domain false) (Rows.historyLockedSpec.post enc Try.prog Try.f8 false true false false) := by
  refine returnsInHanded_of_change_sized (C := Try.checked) own0 started (by kernel_rfl) Try.func8
    (ChangeSpec.witness6 (enc := enc) (C := Try.checked) false ⟨#[], #[.slice none 0 0], []⟩ 8 (by kernel_rfl) (by kernel_rfl) (by kernel_rfl) (by kernel_rfl)) ?_
  intro W base args ds gs before hval0 hW _ _ _
  have hval : ∀ (j : Nat) t v, Try.f8.params[j]? = some t → args[j]? = some v → Value.okWide Try.prog W .any base t v := hval0
  have hW' := hW
  obtain ⟨p, q, hA0, hV, rfl, _, _⟩ := hW
  have hA : DataW.TrodAll enc Try.prog W 0 (fun _ => true) true Try.f8.params.toList args.toList ds p := hA0
  rw [Try.params8] at hA hval
  obtain ⟨v0, d0, rfl, rfl, h0⟩ := trodAll_one hA
  obtain ⟨rfl, rfl⟩ := trodVars_none hV
  obtain ⟨a0, len, cap, rfl⟩ := okWide_slice Try.underlying23 (hval 0 23 v0 rfl rfl)
  clear hA0 hval0
  simp only [List.append_nil] at hW'
  have hlt : ∀ x ∈ p, x.block < W.heap.size := fun x hx => by simpa using hW'.lt x hx
  have hargs : ∀ (W' : World), Below W.heap.size W W' → DataW.Trod enc Try.prog W' 0 (fun b => decide (b < W.heap.size)) true 23 (.slice a0 len cap) d0 p :=
    fun W' hn => Below.trod laid0 (by kernel_rfl) (of_decide_eq_true (by kernel_rfl)) h0 hn hlt
  obtain ⟨l, hs, hlen⟩ := open_hist Try.underlying23 h0
  have hl : l.length ≤ big := by rw [← hs.len]; exact Nat.le_trans hlen maxLen_big
  refine (c8 hs hl).mono fun e W' ⟨he, hx⟩ => ?_
  subst he
  have hnx := hx.below
  refine ⟨_, rfl, _, _, _, [], p ++ [], [], hW', ?_, ?_, ?_, hnx.frame _, fun h => by cases h⟩
  · exact trodAll_mk1 (shut_bool (by kernel_rfl) true)
  · have ea : (Rows.historyLockedSpec.fn H ([d0] ++ [])).args = [d0] := rfl
    rw [ea, List.append_nil]
    exact trodAll_mk1 (hargs _ hnx)
  · have ev : (Rows.historyLockedSpec.fn H ([d0] ++ [])).vars = [] := rfl
    rw [ev]; rfl

theorem locked_holds : Rows.HistoryLockedSaid :=
  OpenClaim.holds_of_wide 8 Try.f8 rfl rfl rfl rfl rfl rfl rfl ⟨rfl, rfl, rfl, rfl, rfl⟩ rfl rfl rfl rfl rfl (by kernel_rfl) Try.func8 (by kernel_rfl)
    (of_decide_eq_true (by kernel_rfl)) (by unfold Func.isWrapper; first | (rw [if_pos (by decide +kernel)]; kernel_rfl) | (rw [if_neg (by decide +kernel)]; exact ⟨rfl, rfl⟩))
    (fun os started H enc _ => locked_lifted os started H enc)
end Go.Proofs.Ytnbkihkdfhjlmaa
#print axioms Go.Proofs.Ytnbkihkdfhjlmaa.locked_holds
