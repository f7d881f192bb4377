/-
  ShareWhole: for every scene, and any list of members, the law of chapter 8 on the whole returns true, and leaves its arguments as they were. No condition.
-/
import Derived.Test.YtackbajbladhhaaShR
import Derived.Test.YtackbajbladhhaaShL
namespace Go.Proofs.Ytackbajbladhhaa
open Go.RowKit Go.ChangeShapes Go.WideShapes Go.ChangeAt
set_option linter.unusedVariables false

set_option maxRecDepth 100000 in
theorem shareWhole_law : LawWalk 7 Try.f7 := by
  intro H enc W base args ds ps hval hA hlt hsz
  rw [Try.params7] at hA hval
  obtain ⟨v0, v1, d0, d1, p0, p1, rfl, rfl, -, h0, h1⟩ := trodAll_two hA
  obtain ⟨s, rfl, hs⟩ := open_scn (hval 0 28 v0 rfl rfl) h0
  obtain ⟨M, hM⟩ := open_list (hval 1 44 v1 rfl rfl) h1
  exact whole_any s M v1 W hs hM

set_option maxRecDepth 100000 in
theorem shareWhole_holds : Rows.ShareWholeSaid :=
  OpenClaim.holds_of_wide 7 Try.f7 rfl rfl rfl rfl rfl rfl rfl ⟨rfl, rfl, rfl, rfl, rfl⟩ rfl rfl rfl rfl rfl (by kernel_rfl) Try.func7 (by kernel_rfl)
    (of_decide_eq_true (by kernel_rfl)) (by unfold Func.isWrapper; first | (rw [if_pos (by decide +kernel)]; kernel_rfl) | (rw [if_neg (by decide +kernel)]; exact ⟨rfl, rfl⟩))
    (fun os started H enc _ => law_lifted (spec := Rows.shareWholeSpec) os started H enc Try.func7 (by kernel_rfl) rfl
      (fun H ds h => by match ds, h with | [_, _], _ => rfl) (by kernel_rfl) (by rw [Try.params7]; intro t ht; simp at ht; rcases ht with rfl | rfl <;> exact ⟨by kernel_rfl, of_decide_eq_true (by kernel_rfl)⟩)
      (ChangeSpec.witness6 (enc := enc) (C := Try.checked) false ⟨#[], #[.agg #[.int .i64 0, .int .i64 0, .int .i64 0, .int .i64 0, .int .i64 0, .int .i64 0, .int .i64 0, .int .i64 0, .int .i64 0, .int .i64 0, .int .i64 0, .int .i64 0, .int .i64 0, .int .i64 0, .int .i64 0, .int .i64 0, .int .i64 0, .int .i64 0, .slice none 0 0], .slice none 0 0], []⟩ 8 (by kernel_rfl) (by kernel_rfl) (by kernel_rfl) (by kernel_rfl)) shareWhole_law)
#print axioms shareWhole_holds
end Go.Proofs.Ytackbajbladhhaa
