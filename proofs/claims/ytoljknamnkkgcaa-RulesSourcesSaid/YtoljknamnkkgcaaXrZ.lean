/-
  PROVED: for all arguments the law RulesSources returns true and leaves its arguments as they were: Sources returns the sources of a fact, or the documented error. CONDITIONS: none beyond those of the given row.
-/
import Derived.Test.YtoljknamnkkgcaaXr9
namespace Go.Proofs.Ytoljknamnkkgcaa
open Go Go.VC Go.ChangeShapes Go.WideShapes Go.RowKit
set_option maxRecDepth 100000

theorem sources_lifted (os : Os) (started : os.Started) (H : Type) (enc : TypeId × Value → H) :
    ReturnsInHanded {} Try.checked os 8 .any (Rows.rulesSourcesSpec.pre6 enc Try.prog Try.f8 Rows.rulesSourcesRow.domain false) (Rows.rulesSourcesSpec.post enc Try.prog Try.f8 false true false false) := by
  refine returnsInHanded_of_change_sized (C := Try.checked) own0 started (by kernel_rfl) Try.func8
    (ChangeSpec.witness6 (enc := enc) (C := Try.checked) false ⟨#[], #[.slice none 0 0, .slice none 0 0, .agg #[.int .i64 0, .slice none 0 0]], []⟩ 8 (by kernel_rfl) (by kernel_rfl) (by kernel_rfl) (by kernel_rfl)) ?_
  intro W base args ds gs before hval0 hW _ _ _
  have hval : ∀ (j : Nat) t v, Try.f8.params[j]? = some t → args[j]? = some v → Value.okWide Try.prog W .any base t v := hval0
  have hW' := hW
  obtain ⟨p, q, hA0, hV, rfl, _, _⟩ := hW
  have hA : DataW.TrodAll enc Try.prog W 0 (fun _ => true) true Try.f8.params.toList args.toList ds p := hA0
  rw [Try.params8] at hA hval
  obtain ⟨v0, v1, v2, d0, d1, d2, p0, p1, p2, rfl, rfl, rfl, h0, h1, h2⟩ := trodAll_three hA
  obtain ⟨rfl, rfl⟩ := trodVars_none hV
  obtain ⟨cs2, rfl, _⟩ := okWide_struct Try.underlying36 (hval 2 36 v2 rfl rfl)
  obtain ⟨a1, len1, cap1, rfl⟩ := okWide_slice Try.underlying23 (hval 1 23 v1 rfl rfl)
  obtain ⟨a0, len0, cap0, rfl⟩ := okWide_slice Try.underlying22 (hval 0 22 v0 rfl rfl)
  clear hA0 hval0
  simp only [List.append_nil] at hW'
  have hlt : ∀ x ∈ p0 ++ p1 ++ p2, x.block < W.heap.size := fun x hx => by simpa using hW'.lt x (by simpa using hx)
  have g0 : ∀ (W' : World), Below W.heap.size W W' → DataW.Trod enc Try.prog W' 0 (fun b => decide (b < W.heap.size)) true 22 (.slice a0 len0 cap0) d0 p0 :=
    fun W' hn => Below.trod laid0 (by kernel_rfl) (of_decide_eq_true (by kernel_rfl)) h0 hn fun x hx => hlt x (by simp [hx])
  have g1 : ∀ (W' : World), Below W.heap.size W W' → DataW.Trod enc Try.prog W' 0 (fun b => decide (b < W.heap.size)) true 23 (.slice a1 len1 cap1) d1 p1 :=
    fun W' hn => Below.trod laid0 (by kernel_rfl) (of_decide_eq_true (by kernel_rfl)) h1 hn fun x hx => hlt x (by simp [hx])
  have g2 : ∀ (W' : World), Below W.heap.size W W' → DataW.Trod enc Try.prog W' 0 (fun b => decide (b < W.heap.size)) true 36 (.agg cs2) d2 p2 :=
    fun W' hn => Below.trod laid0 (by kernel_rfl) (of_decide_eq_true (by kernel_rfl)) h2 hn fun x hx => hlt x (by simp [hx])
  obtain ⟨l, hs, hl, hru⟩ := open_rules h0
  obtain ⟨fs, hfs, hfi, hfl, hfa⟩ := open_facts h1
  obtain ⟨y, hy, hyi, hyl⟩ := open_fact h2
  subst hy
  refine (c8 hs ⟨hfs, hfi⟩ (Nat.le_trans hl maxLen_big) (fun r hr => Nat.le_trans (hru r hr).nb maxLen_big) (Nat.le_trans hfl maxLen_big) (fun r hr x hx => Nat.le_trans ((hru r hr).na x hx) maxLen_big) (fun x hx => Nat.le_trans (hfa x hx) maxLen_big) hyi (Nat.le_trans hyl maxLen_big)).mono fun e W' ⟨he, hx⟩ => ?_
  subst he
  have hnx := hx.below
  refine ⟨_, rfl, _, _, _, [], p0 ++ p1 ++ p2, [], hW', ?_, ?_, ?_, hnx.frame _, fun h => by cases h⟩
  · exact trodAll_mk1 (shut_bool (by kernel_rfl) true)
  · have ea : (Rows.rulesSourcesSpec.fn H ([d0, d1, d2] ++ [])).args = [d0, d1, d2] := rfl
    rw [ea]
    rw [List.append_assoc]
    exact trodAll_mk3 (g0 _ hnx) (g1 _ hnx) (g2 _ hnx)
  · have ev : (Rows.rulesSourcesSpec.fn H ([d0, d1, d2] ++ [])).vars = [] := rfl
    rw [ev]; rfl

theorem sources_holds : Rows.RulesSourcesSaid :=
  OpenClaim.holds_of_wide 8 Try.f8 rfl rfl rfl rfl rfl rfl rfl ⟨rfl, rfl, rfl, rfl, rfl⟩ rfl rfl rfl rfl rfl (by kernel_rfl) Try.func8 (by kernel_rfl)
    (of_decide_eq_true (by kernel_rfl)) (by unfold Func.isWrapper; first | (rw [if_pos (by decide +kernel)]; kernel_rfl) | (rw [if_neg (by decide +kernel)]; exact ⟨rfl, rfl⟩))
    (fun os started H enc _ => sources_lifted os started H enc)
end Go.Proofs.Ytoljknamnkkgcaa
#print axioms Go.Proofs.Ytoljknamnkkgcaa.sources_holds
