/-
  PROVED: for every history and every place the law HistoryExchanged returns true and leaves its arguments as they were: exchanging two neighbouring operations that do not clash changes neither Order nor Cycle nor View. CONDITIONS: none beyond those of the given row.
-/
import Derived.Test.YtnbkihkdfhjlmaaDd
import Derived.Test.YtnbkihkdfhjlmaaDr
namespace Go.Proofs.Ytnbkihkdfhjlmaa
open Go Go.VC Go.ChangeShapes Go.WideShapes Go.RowKit
set_option maxRecDepth 100000

theorem exchanged_lifted (os : Os) (started : os.Started) (H : Type) (enc : TypeId × Value → H) :
    ReturnsInHanded {} Try.checked os 4 .any (Rows.historyExchangedSpec.pre6 enc Try.prog Try.f4 Rows.historyExchangedRow.domain false) (Rows.historyExchangedSpec.post enc Try.prog Try.f4 false true false false) := by
  refine returnsInHanded_of_change_sized (C := Try.checked) own0 started (by kernel_rfl) Try.func4
    (ChangeSpec.witness6 (enc := enc) (C := Try.checked) false ⟨#[], #[.slice none 0 0, .int .i64 0], []⟩ 8 (by kernel_rfl) (by kernel_rfl) (by kernel_rfl) (by kernel_rfl)) ?_
  intro W base args ds gs before hval0 hW _ _ _
  have hval : ∀ (j : Nat) t v, Try.f4.params[j]? = some t → args[j]? = some v → Value.okWide Try.prog W .any base t v := hval0
  have hW' := hW
  obtain ⟨p, q, hA0, hV, rfl, _, _⟩ := hW
  have hA : DataW.TrodAll enc Try.prog W 0 (fun _ => true) true Try.f4.params.toList args.toList ds p := hA0
  rw [Try.params4] at hA hval
  obtain ⟨v0, v1, d0, d1, p0, p1, rfl, rfl, rfl, h0, h1⟩ := trodAll_two hA
  obtain ⟨rfl, rfl⟩ := trodVars_none hV
  obtain ⟨m, rfl, rfl, rfl, wm⟩ := open_int Try.underlying3 (hval 1 3 v1 rfl rfl) h1
  obtain ⟨a0, len, cap, rfl⟩ := okWide_slice Try.underlying23 (hval 0 23 v0 rfl rfl)
  clear hA0 hval0
  simp only [List.append_nil] at hW'
  have hlt : ∀ x ∈ p0, x.block < W.heap.size := fun x hx => by simpa using hW'.lt x hx
  have hargs : ∀ (W' : World), Below W.heap.size W W' → DataW.Trod enc Try.prog W' 0 (fun b => decide (b < W.heap.size)) true 23 (.slice a0 len cap) d0 p0 :=
    fun W' hn => Below.trod laid0 (by kernel_rfl) (of_decide_eq_true (by kernel_rfl)) h0 hn hlt
  obtain ⟨l, hs, hlen⟩ := open_hist Try.underlying23 h0
  have hl : l.length ≤ big := by rw [← hs.len]; exact Nat.le_trans hlen (by decide)
  refine (c4 m hs hl).mono fun e W' ⟨he, hx⟩ => ?_
  subst he
  have hnx := hx.below
  refine ⟨_, rfl, _, _, _, [], p0 ++ [], [], hW', ?_, ?_, ?_, hnx.frame _, fun h => by cases h⟩
  · exact trodAll_mk1 (shut_bool (by kernel_rfl) true)
  · have ea : (Rows.historyExchangedSpec.fn H ([d0, .lit (.int .i64 m)] ++ [])).args = [d0, .lit (.int .i64 m)] := rfl
    rw [ea]
    exact trodAll_mk2 (hargs _ hnx) (shut_int Try.underlying3 wm)
  · have ev : (Rows.historyExchangedSpec.fn H ([d0, .lit (.int .i64 m)] ++ [])).vars = [] := rfl
    rw [ev]; rfl

theorem exchanged_holds : Rows.HistoryExchangedSaid :=
  OpenClaim.holds_of_wide 4 Try.f4 rfl rfl rfl rfl rfl rfl rfl ⟨rfl, rfl, rfl, rfl, rfl⟩ rfl rfl rfl rfl rfl (by kernel_rfl) Try.func4 (by kernel_rfl)
    (of_decide_eq_true (by kernel_rfl)) (by unfold Func.isWrapper; first | (rw [if_pos (by decide +kernel)]; kernel_rfl) | (rw [if_neg (by decide +kernel)]; exact ⟨rfl, rfl⟩))
    (fun os started H enc _ => exchanged_lifted os started H enc)
end Go.Proofs.Ytnbkihkdfhjlmaa
#print axioms Go.Proofs.Ytnbkihkdfhjlmaa.exchanged_holds
