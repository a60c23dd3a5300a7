/-
  PROVED: for all rules and facts the law RulesAgain returns true and leaves its arguments as they were: the model of the rules and of all facts of the model, if they may be so many, is the model again, where no Lit has Not. CONDITIONS: none beyond those of the given row.
-/
import Derived.Test.YtoljknamnkkgcaaDb
import Derived.Test.YtoljknamnkkgcaaDr
namespace Go.Proofs.Ytoljknamnkkgcaa
open Go Go.VC Go.ChangeShapes Go.WideShapes Go.RowKit
set_option maxRecDepth 100000

theorem again_lifted (os : Os) (started : os.Started) (H : Type) (enc : TypeId × Value → H) :
    ReturnsInHanded {} Try.checked os 3 .any (Rows.rulesAgainSpec.pre6 enc Try.prog Try.f3 Rows.rulesAgainRow.domain false) (Rows.rulesAgainSpec.post enc Try.prog Try.f3 false true false false) := by
  refine returnsInHanded_of_change_sized (C := Try.checked) own0 started (by kernel_rfl) Try.func3
    (ChangeSpec.witness6 (enc := enc) (C := Try.checked) false ⟨#[], #[.slice none 0 0, .slice none 0 0], []⟩ 8 (by kernel_rfl) (by kernel_rfl) (by kernel_rfl) (by kernel_rfl)) ?_
  intro W base args ds gs before hval0 hW _ _ _
  have hval : ∀ (j : Nat) t v, Try.f3.params[j]? = some t → args[j]? = some v → Value.okWide Try.prog W .any base t v := hval0
  have hW' := hW
  obtain ⟨p, q, hA0, hV, rfl, _, _⟩ := hW
  have hA : DataW.TrodAll enc Try.prog W 0 (fun _ => true) true Try.f3.params.toList args.toList ds p := hA0
  rw [Try.params3] at hA hval
  obtain ⟨v0, v1, d0, d1, p0, p1, rfl, rfl, rfl, h0, h1⟩ := trodAll_two hA
  obtain ⟨rfl, rfl⟩ := trodVars_none hV
  obtain ⟨a1, len1, cap1, rfl⟩ := okWide_slice Try.underlying23 (hval 1 23 v1 rfl rfl)
  obtain ⟨a0, len, cap, rfl⟩ := okWide_slice Try.underlying22 (hval 0 22 v0 rfl rfl)
  clear hA0 hval0
  simp only [List.append_nil] at hW'
  have hlt : ∀ x ∈ p0 ++ p1, x.block < W.heap.size := fun x hx => by simpa using hW'.lt x hx
  have hargs : ∀ (W' : World), Below W.heap.size W W' → DataW.Trod enc Try.prog W' 0 (fun b => decide (b < W.heap.size)) true 22 (.slice a0 len cap) d0 p0 :=
    fun W' hn => Below.trod laid0 (by kernel_rfl) (of_decide_eq_true (by kernel_rfl)) h0 hn fun x hx => hlt x (List.mem_append_left _ hx)
  have hargs1 : ∀ (W' : World), Below W.heap.size W W' → DataW.Trod enc Try.prog W' 0 (fun b => decide (b < W.heap.size)) true 23 (.slice a1 len1 cap1) d1 p1 :=
    fun W' hn => Below.trod laid0 (by kernel_rfl) (of_decide_eq_true (by kernel_rfl)) h1 hn fun x hx => hlt x (List.mem_append_right _ hx)
  obtain ⟨fs, hfs, hfi, hfl, hfa⟩ := open_facts h1
  obtain ⟨l, hs, hl, hru⟩ := open_rules h0
  refine (c3 hs ⟨hfs, hfi⟩ (Nat.le_trans hl maxLen_big) (fun r hr => Nat.le_trans (hru r hr).nb maxLen_big) (Nat.le_trans hfl maxLen_big)).mono fun e W' ⟨he, hx⟩ => ?_
  subst he
  have hnx := hx.below
  refine ⟨_, rfl, _, _, _, [], p0 ++ p1, [], hW', ?_, ?_, ?_, hnx.frame _, fun h => by cases h⟩
  · exact trodAll_mk1 (shut_bool (by kernel_rfl) true)
  · have ea : (Rows.rulesAgainSpec.fn H ([d0, d1] ++ [])).args = [d0, d1] := rfl
    rw [ea]
    exact trodAll_mk2 (hargs _ hnx) (hargs1 _ hnx)
  · have ev : (Rows.rulesAgainSpec.fn H ([d0, d1] ++ [])).vars = [] := rfl
    rw [ev]; rfl

theorem again_holds : Rows.RulesAgainSaid :=
  OpenClaim.holds_of_wide 3 Try.f3 rfl rfl rfl rfl rfl rfl rfl ⟨rfl, rfl, rfl, rfl, rfl⟩ rfl rfl rfl rfl rfl (by kernel_rfl) Try.func3 (by kernel_rfl)
    (of_decide_eq_true (by kernel_rfl)) (by unfold Func.isWrapper; first | (rw [if_pos (by decide +kernel)]; kernel_rfl) | (rw [if_neg (by decide +kernel)]; exact ⟨rfl, rfl⟩))
    (fun os started H enc _ => again_lifted os started H enc)
end Go.Proofs.Ytoljknamnkkgcaa
#print axioms Go.Proofs.Ytoljknamnkkgcaa.again_holds
