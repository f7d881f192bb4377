/-
  CoverDepths: for every input the law of chapter 11 on what Cells tells and how deep returns true, and leaves its arguments as they were. No condition.
-/
import Derived.Test.YtmpnojgciaoghaaCovL4
import Derived.Test.YtmpnojgciaoghaaCovO
namespace Go.Proofs.Ytmpnojgciaoghaa
open Go.RowKit Go.ChangeShapes Go.WideShapes Go.ChangeAt
set_option linter.unusedVariables false

theorem coverDepths_law : LawWalk 10 Try.f10 := by
  intro H enc W base args ds ps hval hA hlt hsz
  rw [Try.params10] at hA hval
  obtain ⟨v0, v1, v2, d0, d1, d2, p0, p1, p2, rfl, rfl, rfl, h0, h1, h2⟩ := trodAll_three hA
  obtain ⟨a, b, c, rfl⟩ := open_tri (hval 0 24 v0 rfl rfl) h0
  obtain ⟨x, rfl, rfl, rfl, wx⟩ := open_int Try.underlying3 (hval 1 3 v1 rfl rfl) h1
  obtain ⟨y, rfl, rfl, rfl, wy⟩ := open_int Try.underlying3 (hval 2 3 v2 rfl rfl) h2
  exact coverDepths_walk a b c x y W

set_option maxRecDepth 100000 in
theorem coverDepths_holds : Rows.CoverDepthsSaid :=
  OpenClaim.holds_of_wide 10 Try.f10 rfl rfl rfl rfl rfl rfl rfl ⟨rfl, rfl, rfl, rfl, rfl⟩ rfl rfl rfl rfl rfl (by kernel_rfl) Try.func10 (by kernel_rfl)
    (of_decide_eq_true (by kernel_rfl)) (by unfold Func.isWrapper; first | (rw [if_pos (by decide +kernel)]; kernel_rfl) | (rw [if_neg (by decide +kernel)]; exact ⟨rfl, rfl⟩))
    (fun os started H enc _ => law_lifted (spec := Rows.coverDepthsSpec) os started H enc Try.func10 (by kernel_rfl) rfl
      (fun H ds h => by match ds, h with | [_, _, _], _ => rfl) (by kernel_rfl) (by rw [Try.params10]; intro t ht; simp at ht; rcases ht with rfl | rfl <;> exact ⟨by kernel_rfl, of_decide_eq_true (by kernel_rfl)⟩)
      (ChangeSpec.witness6 (enc := enc) (C := Try.checked) false ⟨#[], #[.agg #[.int .i64 0, .int .i64 0, .int .i64 0, .int .i64 0, .int .i64 0, .int .i64 0, .int .i64 0, .int .i64 0, .int .i64 0], .int .i64 0, .int .i64 0], []⟩ 8 (by kernel_rfl) (by kernel_rfl) (by kernel_rfl) (by kernel_rfl)) coverDepths_law)
#print axioms coverDepths_holds
end Go.Proofs.Ytmpnojgciaoghaa
