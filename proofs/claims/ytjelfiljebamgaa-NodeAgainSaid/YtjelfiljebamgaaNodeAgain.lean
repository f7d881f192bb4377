/-
  NodeAgain: for every message and all bytes the law of chapter 28 on a message's form returns true, and leaves its arguments as they were. No condition.
-/
import Derived.Test.YtjelfiljebamgaaNdO
import Derived.Test.YtjelfiljebamgaaNdL
namespace Go.Proofs.Ytjelfiljebamgaa
open Go.RowKit Go.ChangeShapes Go.WideShapes Go.ChangeAt
set_option linter.unusedVariables false

set_option maxRecDepth 100000 in
theorem nodeAgain_law : LawWalk 10 Try.f10 := by
  intro H enc W base args ds ps hval hA hlt hsz
  rw [Try.params10] at hA hval
  obtain ⟨v0, v1, d0, d1, p0, p1, rfl, rfl, rfl, h0, h1⟩ := trodAll_two hA
  obtain ⟨k, eN, eB, um, fr, ro, mf, mt, sf, st, ud, Ms, D, rfl, hN, hm, hd⟩ := open_msg (hval 0 88 v0 rfl rfl) h0
  obtain ⟨B, hB⟩ := open_bytes (hval 1 23 v1 rfl rfl) h1
  exact nagain_walk ⟨k, eN, eB, Ms, fr, ro, mf, mt, sf, st, D⟩ um ud v1 B W hN hm hd hB

set_option maxRecDepth 100000 in
theorem nodeAgain_holds : Rows.NodeAgainSaid :=
  OpenClaim.holds_of_wide 10 Try.f10 rfl rfl rfl rfl rfl rfl rfl ⟨rfl, rfl, rfl, rfl, rfl⟩ rfl rfl rfl rfl rfl (by kernel_rfl) Try.func10 (by kernel_rfl)
    (of_decide_eq_true (by kernel_rfl)) (by unfold Func.isWrapper; first | (rw [if_pos (by decide +kernel)]; kernel_rfl) | (rw [if_neg (by decide +kernel)]; exact ⟨rfl, rfl⟩))
    (fun os started H enc _ => law_lifted (spec := Rows.nodeAgainSpec) os started H enc Try.func10 (by kernel_rfl) rfl
      (fun H ds h => by match ds, h with | [_, _], _ => rfl) (by kernel_rfl) (by rw [Try.params10]; intro t ht; simp at ht; rcases ht with rfl | rfl <;> exact ⟨by kernel_rfl, of_decide_eq_true (by kernel_rfl)⟩)
      (ChangeSpec.witness6 (enc := enc) (C := Try.checked) false ⟨#[], #[.agg #[.int .i64 0, .int .u32 0, .int .i64 0, .slice none 0 0, .int .i64 0, .int .i64 0, .int .i64 0, .int .i64 0, .int .i64 0, .int .i64 0, .slice none 0 0], .slice none 0 0], []⟩ 8 (by kernel_rfl) (by kernel_rfl) (by kernel_rfl) (by kernel_rfl)) nodeAgain_law)
#print axioms nodeAgain_holds
end Go.Proofs.Ytjelfiljebamgaa
