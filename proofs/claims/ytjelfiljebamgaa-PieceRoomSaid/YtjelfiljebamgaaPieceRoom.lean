/-
  PieceRoom: for every room and all bytes the law of chapter 21 on a box's room returns true, and leaves its arguments as they were. No condition.
-/
import Derived.Test.YtjelfiljebamgaaPcK
import Derived.Test.YtjelfiljebamgaaBxW
namespace Go.Proofs.Ytjelfiljebamgaa
open Go.RowKit Go.ChangeShapes Go.WideShapes Go.ChangeAt
set_option linter.unusedVariables false

set_option maxRecDepth 100000 in
theorem pieceRoom_law : LawWalk 6 Try.f6 := by
  intro H enc W base args ds ps hval hA hlt hsz
  rw [Try.params6] at hA hval
  obtain ⟨v0, v1, d0, d1, p0, p1, rfl, rfl, rfl, h0, h1⟩ := trodAll_two hA
  obtain ⟨z, rfl, rfl, rfl, wz⟩ := open_int Try.underlying5 (hval 0 5 v0 rfl rfl) h0
  obtain ⟨B, hB⟩ := open_bytes (hval 1 23 v1 rfl rfl) h1
  exact room_any z v1 B W hB (bd_u8 wz)

set_option maxRecDepth 100000 in
theorem pieceRoom_holds : Rows.PieceRoomSaid :=
  OpenClaim.holds_of_wide 6 Try.f6 rfl rfl rfl rfl rfl rfl rfl ⟨rfl, rfl, rfl, rfl, rfl⟩ rfl rfl rfl rfl rfl (by kernel_rfl) Try.func6 (by kernel_rfl)
    (of_decide_eq_true (by kernel_rfl)) (by unfold Func.isWrapper; first | (rw [if_pos (by decide +kernel)]; kernel_rfl) | (rw [if_neg (by decide +kernel)]; exact ⟨rfl, rfl⟩))
    (fun os started H enc _ => law_lifted (spec := Rows.pieceRoomSpec) os started H enc Try.func6 (by kernel_rfl) rfl
      (fun H ds h => by match ds, h with | [_, _], _ => rfl) (by kernel_rfl) (by rw [Try.params6]; intro t ht; simp at ht; rcases ht with rfl | rfl <;> exact ⟨by kernel_rfl, of_decide_eq_true (by kernel_rfl)⟩)
      (ChangeSpec.witness6 (enc := enc) (C := Try.checked) false ⟨#[], #[.int .u8 0, .slice none 0 0], []⟩ 8 (by kernel_rfl) (by kernel_rfl) (by kernel_rfl) (by kernel_rfl)) pieceRoom_law)
#print axioms pieceRoom_holds
end Go.Proofs.Ytjelfiljebamgaa
