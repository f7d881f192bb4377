/-
  PieceNames: the closed law of chapter 21 (numbers, examples, what may not be, calls on none) returns true. No condition.
-/
import Derived.Test.YtjelfiljebamgaaBxP
import Derived.Test.YtjelfiljebamgaaLawKit
namespace Go.Proofs.Ytjelfiljebamgaa
open Go.RowKit Go.ChangeShapes Go.WideShapes Go.ChangeAt
set_option linter.unusedVariables false

theorem pieceNames_law : LawWalk 8 Try.f8 := by
  intro H enc W base args ds ps hval hA hlt hsz
  rw [Try.params8] at hA
  obtain rfl : args = #[] := by
    obtain ⟨l⟩ := args
    match l, ds, hA with
    | [], [], _ => rfl
  exact names_any W

set_option maxRecDepth 100000 in
theorem pieceNames_holds : Rows.PieceNamesSaid :=
  OpenClaim.holds_of_wide 8 Try.f8 rfl rfl rfl rfl rfl rfl rfl ⟨rfl, rfl, rfl, rfl, rfl⟩ rfl rfl rfl rfl rfl (by kernel_rfl) Try.func8 (by kernel_rfl)
    (of_decide_eq_true (by kernel_rfl)) (by unfold Func.isWrapper; first | (rw [if_pos (by decide +kernel)]; kernel_rfl) | (rw [if_neg (by decide +kernel)]; exact ⟨rfl, rfl⟩))
    (fun os started H enc _ => law_lifted (spec := Rows.pieceNamesSpec) os started H enc Try.func8 (by kernel_rfl) rfl
      (fun H ds h => by match ds, h with | [], _ => rfl) (by kernel_rfl) (by rw [Try.params8]; intro t ht; cases ht)
      (ChangeSpec.witness6 (enc := enc) (C := Try.checked) false ⟨#[], #[], []⟩ 8 (by kernel_rfl) (by kernel_rfl) (by kernel_rfl) (by kernel_rfl)) pieceNames_law)
#print axioms pieceNames_holds
end Go.Proofs.Ytjelfiljebamgaa
