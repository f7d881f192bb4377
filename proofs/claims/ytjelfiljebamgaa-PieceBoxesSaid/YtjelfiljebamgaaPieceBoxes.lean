/-
  PieceBoxes: for every room and every list of calls the law of chapter 21 on boxes returns true, and leaves its arguments as they were. No condition.
-/
import Derived.Test.YtjelfiljebamgaaPrE1
import Derived.Test.YtjelfiljebamgaaPrO
import Derived.Test.YtjelfiljebamgaaLawKit
namespace Go.Proofs.Ytjelfiljebamgaa
open Go.RowKit Go.ChangeShapes Go.WideShapes Go.ChangeAt
set_option linter.unusedVariables false

set_option maxRecDepth 100000 in
theorem pieceBoxes_law : LawWalk 5 Try.f5 := by
  intro H enc W base args ds ps hval hA hlt hsz
  rw [Try.params5] at hA hval
  obtain ⟨v0, v1, d0, d1, p0, p1, rfl, rfl, rfl, h0, h1⟩ := trodAll_two hA
  obtain ⟨z, rfl, rfl, rfl, wz⟩ := open_int Try.underlying3 (hval 0 3 v0 rfl rfl) h0
  obtain ⟨L, hL⟩ := open_opsV (hval 1 44 v1 rfl rfl) h1
  exact boxes_any z v1 L W hL

set_option maxRecDepth 100000 in
theorem pieceBoxes_holds : Rows.PieceBoxesSaid :=
  OpenClaim.holds_of_wide 5 Try.f5 rfl rfl rfl rfl rfl rfl rfl ⟨rfl, rfl, rfl, rfl, rfl⟩ rfl rfl rfl rfl rfl (by kernel_rfl) Try.func5 (by kernel_rfl)
    (of_decide_eq_true (by kernel_rfl)) (by unfold Func.isWrapper; first | (rw [if_pos (by decide +kernel)]; kernel_rfl) | (rw [if_neg (by decide +kernel)]; exact ⟨rfl, rfl⟩))
    (fun os started H enc _ => law_lifted (spec := Rows.pieceBoxesSpec) os started H enc Try.func5 (by kernel_rfl) rfl
      (fun H ds h => by match ds, h with | [_, _], _ => rfl) (by kernel_rfl) (by rw [Try.params5]; intro t ht; simp at ht; rcases ht with rfl | rfl <;> exact ⟨by kernel_rfl, of_decide_eq_true (by kernel_rfl)⟩)
      (ChangeSpec.witness6 (enc := enc) (C := Try.checked) false ⟨#[], #[.int .i64 0, .slice none 0 0], []⟩ 8 (by kernel_rfl) (by kernel_rfl) (by kernel_rfl) (by kernel_rfl)) pieceBoxes_law)
#print axioms pieceBoxes_holds
end Go.Proofs.Ytjelfiljebamgaa
