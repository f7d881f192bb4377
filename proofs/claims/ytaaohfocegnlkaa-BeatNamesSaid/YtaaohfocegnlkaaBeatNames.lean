/-
  BeatNames: the closed law of chapter 23 (numbers, examples, calls on none) returns true. No condition.
-/
import Derived.Test.YtaaohfocegnlkaaBtNm
import Derived.Test.YtaaohfocegnlkaaLawKit
namespace Go.Proofs.Ytaaohfocegnlkaa
open Go.RowKit Go.ChangeShapes Go.WideShapes Go.ChangeAt
set_option linter.unusedVariables false

theorem beatNames_law : LawWalk 6 Try.f6 := by
  intro H enc W base args ds ps hval hA hlt hsz
  rw [Try.params6] at hA
  obtain rfl : args = #[] := by
    obtain ⟨l⟩ := args
    match l, ds, hA with
    | [], [], _ => rfl
  exact beatNames_walk W

set_option maxRecDepth 100000 in
theorem beatNames_holds : Rows.BeatNamesSaid :=
  OpenClaim.holds_of_wide 6 Try.f6 rfl rfl rfl rfl rfl rfl rfl ⟨rfl, rfl, rfl, rfl, rfl⟩ rfl rfl rfl rfl rfl (by kernel_rfl) Try.func6 (by kernel_rfl)
    (of_decide_eq_true (by kernel_rfl)) (by unfold Func.isWrapper; first | (rw [if_pos (by decide +kernel)]; kernel_rfl) | (rw [if_neg (by decide +kernel)]; exact ⟨rfl, rfl⟩))
    (fun os started H enc _ => law_lifted (spec := Rows.beatNamesSpec) os started H enc Try.func6 (by kernel_rfl) rfl
      (fun H ds h => by match ds, h with | [], _ => rfl) (by kernel_rfl) (by rw [Try.params6]; intro t ht; cases ht)
      (ChangeSpec.witness6 (enc := enc) (C := Try.checked) false ⟨#[], #[], []⟩ 8 (by kernel_rfl) (by kernel_rfl) (by kernel_rfl) (by kernel_rfl)) beatNames_law)
#print axioms beatNames_holds
end Go.Proofs.Ytaaohfocegnlkaa
