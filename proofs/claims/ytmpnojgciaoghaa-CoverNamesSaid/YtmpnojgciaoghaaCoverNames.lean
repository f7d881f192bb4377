/-
  CoverNames: the closed law of chapter 11 on its numbers and examples returns true, and leaves its arguments as they were. No condition.
-/
import Derived.Test.YtmpnojgciaoghaaCovL5
import Derived.Test.YtmpnojgciaoghaaCovO
namespace Go.Proofs.Ytmpnojgciaoghaa
open Go.RowKit Go.ChangeShapes Go.WideShapes Go.ChangeAt
set_option linter.unusedVariables false

theorem coverNames_law : LawWalk 9 Try.f9 := by
  intro H enc W base args ds ps hval hA hlt hsz
  rw [Try.params9] at hA hval
  obtain ⟨rfl, rfl, rfl⟩ := trodAll_none hA
  exact coverNames_walk W

set_option maxRecDepth 100000 in
theorem coverNames_holds : Rows.CoverNamesSaid :=
  OpenClaim.holds_of_wide 9 Try.f9 rfl rfl rfl rfl rfl rfl rfl ⟨rfl, rfl, rfl, rfl, rfl⟩ rfl rfl rfl rfl rfl (by kernel_rfl) Try.func9 (by kernel_rfl)
    (of_decide_eq_true (by kernel_rfl)) (by unfold Func.isWrapper; first | (rw [if_pos (by decide +kernel)]; kernel_rfl) | (rw [if_neg (by decide +kernel)]; exact ⟨rfl, rfl⟩))
    (fun os started H enc _ => law_lifted (spec := Rows.coverNamesSpec) os started H enc Try.func9 (by kernel_rfl) rfl
      (fun H ds h => by match ds, h with | [], _ => rfl) (by kernel_rfl) (by rw [Try.params9]; intro t ht; simp at ht)
      (ChangeSpec.witness6 (enc := enc) (C := Try.checked) false ⟨#[], #[], []⟩ 8 (by kernel_rfl) (by kernel_rfl) (by kernel_rfl) (by kernel_rfl)) coverNames_law)
#print axioms coverNames_holds
end Go.Proofs.Ytmpnojgciaoghaa
