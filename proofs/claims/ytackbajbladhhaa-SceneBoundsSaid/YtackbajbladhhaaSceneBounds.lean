/-
  SceneBounds: for every scene the law of chapter 6 returns true, and leaves its argument as it was. No condition.
-/
import Derived.Test.YtackbajbladhhaaScQ
import Derived.Test.YtackbajbladhhaaScS
import Derived.Test.YtackbajbladhhaaScT
namespace Go.Proofs.Ytackbajbladhhaa
open Go.RowKit Go.ChangeShapes Go.WideShapes Go.ChangeAt
set_option linter.unusedVariables false

set_option maxRecDepth 100000 in
theorem sceneBounds_law : LawWalk 3 Try.f3 := by
  intro H enc W base args ds ps hval hA hlt hsz
  rw [Try.params3] at hA hval
  obtain ⟨v0, d0, rfl, rfl, h0⟩ := trodAll_one hA
  obtain ⟨s, rfl, hs⟩ := open_scn (hval 0 28 v0 rfl rfl) h0
  exact bounds_any alive_any s W hs

set_option maxRecDepth 100000 in
theorem sceneBounds_holds : Rows.SceneBoundsSaid :=
  OpenClaim.holds_of_wide 3 Try.f3 rfl rfl rfl rfl rfl rfl rfl ⟨rfl, rfl, rfl, rfl, rfl⟩ rfl rfl rfl rfl rfl (by kernel_rfl) Try.func3 (by kernel_rfl)
    (of_decide_eq_true (by kernel_rfl)) (by unfold Func.isWrapper; first | (rw [if_pos (by decide +kernel)]; kernel_rfl) | (rw [if_neg (by decide +kernel)]; exact ⟨rfl, rfl⟩))
    (fun os started H enc _ => law_lifted (spec := Rows.sceneBoundsSpec) os started H enc Try.func3 (by kernel_rfl) rfl
      (fun H ds h => by match ds, h with | [_], _ => rfl) (by kernel_rfl) (by rw [Try.params3]; intro t ht; simp at ht; rcases ht with rfl; exact ⟨by kernel_rfl, of_decide_eq_true (by kernel_rfl)⟩)
      (ChangeSpec.witness6 (enc := enc) (C := Try.checked) false ⟨#[], #[.agg #[.int .i64 0, .int .i64 0, .int .i64 0, .int .i64 0, .int .i64 0, .int .i64 0, .int .i64 0, .int .i64 0, .int .i64 0, .int .i64 0, .int .i64 0, .int .i64 0, .int .i64 0, .int .i64 0, .int .i64 0, .int .i64 0, .int .i64 0, .int .i64 0, .slice none 0 0]], []⟩ 8 (by kernel_rfl) (by kernel_rfl) (by kernel_rfl) (by kernel_rfl)) sceneBounds_law)
#print axioms sceneBounds_holds
end Go.Proofs.Ytackbajbladhhaa
