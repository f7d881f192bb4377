/-
  ShareNames: the closed law of chapter 8 (numbers, examples, what may not be) returns true. No condition.
-/
import Derived.Test.YtackbajbladhhaaShO
import Derived.Test.YtackbajbladhhaaLawKit
namespace Go.Proofs.Ytackbajbladhhaa
open Go.RowKit Go.ChangeShapes Go.WideShapes Go.ChangeAt
set_option linter.unusedVariables false

theorem shareNames_law : LawWalk 8 Try.f8 := by
  intro H enc W base args ds ps hval hA hlt hsz
  rw [Try.params8] at hA
  obtain rfl : args = #[] := by
    obtain ⟨l⟩ := args
    match l, ds, hA with
    | [], [], _ => rfl
  exact names_any W

set_option maxRecDepth 100000 in
theorem shareNames_holds : Rows.ShareNamesSaid :=
  OpenClaim.holds_of_wide 8 Try.f8 rfl rfl rfl rfl rfl rfl rfl ⟨rfl, rfl, rfl, rfl, rfl⟩ rfl rfl rfl rfl rfl (by kernel_rfl) Try.func8 (by kernel_rfl)
    (of_decide_eq_true (by kernel_rfl)) (by unfold Func.isWrapper; first | (rw [if_pos (by decide +kernel)]; kernel_rfl) | (rw [if_neg (by decide +kernel)]; exact ⟨rfl, rfl⟩))
    (fun os started H enc _ => law_lifted (spec := Rows.shareNamesSpec) os started H enc Try.func8 (by kernel_rfl) rfl
      (fun H ds h => by match ds, h with | [], _ => rfl) (by kernel_rfl) (by rw [Try.params8]; intro t ht; cases ht)
      (ChangeSpec.witness6 (enc := enc) (C := Try.checked) false ⟨#[], #[], []⟩ 8 (by kernel_rfl) (by kernel_rfl) (by kernel_rfl) (by kernel_rfl)) shareNames_law)
#print axioms shareNames_holds
end Go.Proofs.Ytackbajbladhhaa
