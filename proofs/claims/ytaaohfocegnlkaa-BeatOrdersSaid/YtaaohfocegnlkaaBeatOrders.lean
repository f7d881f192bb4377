/-
  BeatOrders: for every input the law of chapter 23 on the order in which nodes are heard returns true, and leaves its arguments as they were. No condition.
-/
import Derived.Test.YtaaohfocegnlkaaBtL
import Derived.Test.YtaaohfocegnlkaaBtO
namespace Go.Proofs.Ytaaohfocegnlkaa
open Go.RowKit Go.ChangeShapes Go.WideShapes Go.ChangeAt
set_option linter.unusedVariables false

theorem beatOrders_law : LawWalk 4 Try.f4 := by
  intro H enc W base args ds ps hval hA hlt hsz
  rw [Try.params4] at hA hval
  obtain ⟨v0, v1, v2, d0, d1, d2, p0, p1, p2, rfl, rfl, rfl, h0, h1, h2⟩ := trodAll_three hA
  obtain ⟨p, rfl, rfl, rfl, wp⟩ := open_int Try.underlying5 (hval 0 5 v0 rfl rfl) h0
  obtain ⟨L, hL⟩ := open_ops (hval 1 22 v1 rfl rfl) h1
  obtain ⟨N, hN⟩ := open_bytes (hval 2 36 v2 rfl rfl) h2
  exact beatOrders_walk p L N v1 v2 W (bd_u8 wp) hL hN

set_option maxRecDepth 100000 in
theorem beatOrders_holds : Rows.BeatOrdersSaid :=
  OpenClaim.holds_of_wide 4 Try.f4 rfl rfl rfl rfl rfl rfl rfl ⟨rfl, rfl, rfl, rfl, rfl⟩ rfl rfl rfl rfl rfl (by kernel_rfl) Try.func4 (by kernel_rfl)
    (of_decide_eq_true (by kernel_rfl)) (by unfold Func.isWrapper; first | (rw [if_pos (by decide +kernel)]; kernel_rfl) | (rw [if_neg (by decide +kernel)]; exact ⟨rfl, rfl⟩))
    (fun os started H enc _ => law_lifted (spec := Rows.beatOrdersSpec) os started H enc Try.func4 (by kernel_rfl) rfl
      (fun H ds h => by match ds, h with | [_, _, _], _ => rfl) (by kernel_rfl) (by rw [Try.params4]; intro t ht; simp at ht; rcases ht with rfl | rfl | rfl <;> exact ⟨by kernel_rfl, of_decide_eq_true (by kernel_rfl)⟩)
      (ChangeSpec.witness6 (enc := enc) (C := Try.checked) false ⟨#[], #[.int .u8 0, .slice none 0 0, .slice none 0 0], []⟩ 8 (by kernel_rfl) (by kernel_rfl) (by kernel_rfl) (by kernel_rfl)) beatOrders_law)
#print axioms beatOrders_holds
end Go.Proofs.Ytaaohfocegnlkaa
