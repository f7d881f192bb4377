/-
  ShareMoves: for every scene, and any two lists of members, the law of chapter 8 on what changes hands returns true, and leaves its arguments as they were. No condition.
-/
import Derived.Test.YtackbajbladhhaaShL
namespace Go.Proofs.Ytackbajbladhhaa
open Go.RowKit Go.ChangeShapes Go.WideShapes Go.ChangeAt
set_option linter.unusedVariables false

set_option maxRecDepth 100000 in
theorem shareMoves_law : LawWalk 6 Try.f6 := by
  intro H enc W base args ds ps hval hA hlt hsz
  rw [Try.params6] at hA hval
  obtain ⟨v0, v1, v2, d0, d1, d2, p0, p1, p2, rfl, rfl, -, h0, h1, h2⟩ := trodAll_three hA
  obtain ⟨s, rfl, hs⟩ := open_scn (hval 0 28 v0 rfl rfl) h0
  obtain ⟨A, ha⟩ := open_list (hval 1 44 v1 rfl rfl) h1
  obtain ⟨B, hb⟩ := open_list (hval 2 44 v2 rfl rfl) h2
  exact moves_any s A B v1 v2 W hs ha hb

set_option maxRecDepth 100000 in
theorem shareMoves_holds : Rows.ShareMovesSaid :=
  OpenClaim.holds_of_wide 6 Try.f6 rfl rfl rfl rfl rfl rfl rfl ⟨rfl, rfl, rfl, rfl, rfl⟩ rfl rfl rfl rfl rfl (by kernel_rfl) Try.func6 (by kernel_rfl)
    (of_decide_eq_true (by kernel_rfl)) (by unfold Func.isWrapper; first | (rw [if_pos (by decide +kernel)]; kernel_rfl) | (rw [if_neg (by decide +kernel)]; exact ⟨rfl, rfl⟩))
    (fun os started H enc _ => law_lifted (spec := Rows.shareMovesSpec) os started H enc Try.func6 (by kernel_rfl) rfl
      (fun H ds h => by match ds, h with | [_, _, _], _ => rfl) (by kernel_rfl) (by rw [Try.params6]; intro t ht; simp at ht; rcases ht with rfl | rfl <;> exact ⟨by kernel_rfl, of_decide_eq_true (by kernel_rfl)⟩)
      (ChangeSpec.witness6 (enc := enc) (C := Try.checked) false ⟨#[], #[.agg #[.int .i64 0, .int .i64 0, .int .i64 0, .int .i64 0, .int .i64 0, .int .i64 0, .int .i64 0, .int .i64 0, .int .i64 0, .int .i64 0, .int .i64 0, .int .i64 0, .int .i64 0, .int .i64 0, .int .i64 0, .int .i64 0, .int .i64 0, .int .i64 0, .slice none 0 0], .slice none 0 0, .slice none 0 0], []⟩ 8 (by kernel_rfl) (by kernel_rfl) (by kernel_rfl) (by kernel_rfl)) shareMoves_law)
#print axioms shareMoves_holds
end Go.Proofs.Ytackbajbladhhaa
