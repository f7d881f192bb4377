/-
  SceneOrder: for every scene the law of chapter 6 returns true, and leaves its argument as it was. No condition.
-/
import Derived.Test.YtackbajbladhhaaScX
import Derived.Test.YtackbajbladhhaaScT
namespace Go.Proofs.Ytackbajbladhhaa
open Go.RowKit Go.ChangeShapes Go.WideShapes Go.ChangeAt
set_option linter.unusedVariables false

set_option maxRecDepth 100000 in
theorem sceneOrder_law : LawWalk 4 Try.f4 := by
  intro H enc W base args ds ps hval hA hlt hsz
  rw [Try.params4] at hA hval
  obtain ⟨v0, d0, rfl, rfl, h0⟩ := trodAll_one hA
  obtain ⟨s, rfl, hs⟩ := open_scn (hval 0 28 v0 rfl rfl) h0
  exact order_any s W hs

set_option maxRecDepth 100000 in
theorem sceneOrder_holds : Rows.SceneOrderSaid :=
  OpenClaim.holds_of_wide 4 Try.f4 rfl rfl rfl rfl rfl rfl rfl ⟨rfl, rfl, rfl, rfl, rfl⟩ rfl rfl rfl rfl rfl (by kernel_rfl) Try.func4 (by kernel_rfl)
    (of_decide_eq_true (by kernel_rfl)) (by unfold Func.isWrapper; first | (rw [if_pos (by decide +kernel)]; kernel_rfl) | (rw [if_neg (by decide +kernel)]; exact ⟨rfl, rfl⟩))
    (fun os started H enc _ => law_lifted (spec := Rows.sceneOrderSpec) os started H enc Try.func4 (by kernel_rfl) rfl
      (fun H ds h => by match ds, h with | [_], _ => rfl) (by kernel_rfl) (by rw [Try.params4]; intro t ht; simp at ht; rcases ht with rfl; exact ⟨by kernel_rfl, of_decide_eq_true (by kernel_rfl)⟩)
      (ChangeSpec.witness6 (enc := enc) (C := Try.checked) false ⟨#[], #[.agg #[.int .i64 0, .int .i64 0, .int .i64 0, .int .i64 0, .int .i64 0, .int .i64 0, .int .i64 0, .int .i64 0, .int .i64 0, .int .i64 0, .int .i64 0, .int .i64 0, .int .i64 0, .int .i64 0, .int .i64 0, .int .i64 0, .int .i64 0, .int .i64 0, .slice none 0 0]], []⟩ 8 (by kernel_rfl) (by kernel_rfl) (by kernel_rfl) (by kernel_rfl)) sceneOrder_law)
#print axioms sceneOrder_holds
end Go.Proofs.Ytackbajbladhhaa
