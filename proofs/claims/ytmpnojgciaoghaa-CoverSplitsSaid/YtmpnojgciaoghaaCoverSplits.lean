/-
  CoverSplits: for every input the law of chapter 11 on a triangle that is parted by a fourth corner returns true, and leaves its arguments as they were. No condition.
-/
import Derived.Test.YtmpnojgciaoghaaCovZ
import Derived.Test.YtmpnojgciaoghaaCovO
namespace Go.Proofs.Ytmpnojgciaoghaa
open Go.RowKit Go.ChangeShapes Go.WideShapes Go.ChangeAt
set_option linter.unusedVariables false

theorem coverSplits_law : LawWalk 5 Try.f5 := by
  intro H enc W base args ds ps hval hA hlt hsz
  rw [Try.params5] at hA hval
  obtain ⟨v0, v1, d0, d1, p0, p1, rfl, rfl, rfl, h0, h1⟩ := trodAll_two hA
  obtain ⟨a, b, c, rfl⟩ := open_tri (hval 0 24 v0 rfl rfl) h0
  obtain ⟨d, rfl⟩ := open_crn1 (hval 1 23 v1 rfl rfl) h1
  exact coverSplits_walk a b c d W

set_option maxRecDepth 100000 in
theorem coverSplits_holds : Rows.CoverSplitsSaid :=
  OpenClaim.holds_of_wide 5 Try.f5 rfl rfl rfl rfl rfl rfl rfl ⟨rfl, rfl, rfl, rfl, rfl⟩ rfl rfl rfl rfl rfl (by kernel_rfl) Try.func5 (by kernel_rfl)
    (of_decide_eq_true (by kernel_rfl)) (by unfold Func.isWrapper; first | (rw [if_pos (by decide +kernel)]; kernel_rfl) | (rw [if_neg (by decide +kernel)]; exact ⟨rfl, rfl⟩))
    (fun os started H enc _ => law_lifted (spec := Rows.coverSplitsSpec) os started H enc Try.func5 (by kernel_rfl) rfl
      (fun H ds h => by match ds, h with | [_, _], _ => rfl) (by kernel_rfl) (by rw [Try.params5]; intro t ht; simp at ht; rcases ht with rfl | rfl <;> exact ⟨by kernel_rfl, of_decide_eq_true (by kernel_rfl)⟩)
      (ChangeSpec.witness6 (enc := enc) (C := Try.checked) false ⟨#[], #[.agg #[.int .i64 0, .int .i64 0, .int .i64 0, .int .i64 0, .int .i64 0, .int .i64 0, .int .i64 0, .int .i64 0, .int .i64 0], .agg #[.int .i64 0, .int .i64 0, .int .i64 0]], []⟩ 8 (by kernel_rfl) (by kernel_rfl) (by kernel_rfl) (by kernel_rfl)) coverSplits_law)
#print axioms coverSplits_holds
end Go.Proofs.Ytmpnojgciaoghaa
