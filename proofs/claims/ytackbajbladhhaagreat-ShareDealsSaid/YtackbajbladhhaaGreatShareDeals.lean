/-
  ShareDeals: for every scene, any two lists of members, node and ID, the law of chapter 8 beside the document returns true, and leaves its arguments as they were. No condition.
-/
import Derived.Test.YtackbajbladhhaaGreatShU1
import Derived.Test.YtackbajbladhhaaGreatShJ1
namespace Go.Proofs.YtackbajbladhhaaGreat
open Go.RowKit Go.ChangeShapes Go.WideShapes Go.ChangeAt
set_option linter.unusedVariables false

set_option maxRecDepth 100000 in
theorem shareDeals_law : LawWalk 3 Tryz.f3 := by
  intro H enc W base args ds ps hval hA hlt hsz
  rw [Tryz.params3] at hA hval
  obtain ⟨v0, v1, v2, v3, v4, d0, d1, d2, d3, d4, p0, p1, p2, p3, p4, rfl, rfl, h0, h1, h2, h3, h4⟩ := trodAll_five hA
  obtain ⟨s, rfl, hs⟩ := open_scn (hval 0 28 v0 rfl rfl) h0
  obtain ⟨A, ha⟩ := open_list (hval 1 29 v1 rfl rfl) h1
  obtain ⟨B, hb⟩ := open_list (hval 2 29 v2 rfl rfl) h2
  obtain ⟨x, rfl, rfl, rfl, wx⟩ := open_int Tryz.underlying3 (hval 3 3 v3 rfl rfl) h3
  obtain ⟨y, rfl, rfl, rfl, wy⟩ := open_int Tryz.underlying3 (hval 4 3 v4 rfl rfl) h4
  exact deals_any s A B v1 v2 x y W hs ha hb

set_option maxRecDepth 100000 in
theorem shareDeals_holds : Rows.ShareDealsSaid :=
  OpenClaim.holds_of_wide 3 Tryz.f3 rfl rfl rfl rfl rfl rfl rfl ⟨rfl, rfl, rfl, rfl, rfl⟩ rfl rfl rfl rfl rfl (by kernel_rfl) Tryz.func3 (by kernel_rfl)
    (of_decide_eq_true (by kernel_rfl)) (by unfold Func.isWrapper; first | (rw [if_pos (by decide +kernel)]; kernel_rfl) | (rw [if_neg (by decide +kernel)]; exact ⟨rfl, rfl⟩))
    (fun os started H enc _ => law_lifted (spec := Rows.shareDealsSpec) os started H enc Tryz.func3 (by kernel_rfl) rfl
      (fun H ds h => by match ds, h with | [_, _, _, _, _], _ => rfl) (by kernel_rfl) (by rw [Tryz.params3]; intro t ht; simp at ht; rcases ht with rfl | rfl | rfl <;> exact ⟨by kernel_rfl, of_decide_eq_true (by kernel_rfl)⟩)
      (ChangeSpec.witness6 (enc := enc) (C := Tryz.checked) false ⟨#[], #[.agg #[.int .i64 0, .int .i64 0, .int .i64 0, .int .i64 0, .int .i64 0, .int .i64 0, .int .i64 0, .int .i64 0, .int .i64 0, .int .i64 0, .int .i64 0, .int .i64 0, .int .i64 0, .int .i64 0, .int .i64 0, .int .i64 0, .int .i64 0, .int .i64 0, .slice none 0 0], .slice none 0 0, .slice none 0 0, .int .i64 0, .int .i64 0], []⟩ 8 (by kernel_rfl) (by kernel_rfl) (by kernel_rfl) (by kernel_rfl)) shareDeals_law)
#print axioms shareDeals_holds
end Go.Proofs.YtackbajbladhhaaGreat
