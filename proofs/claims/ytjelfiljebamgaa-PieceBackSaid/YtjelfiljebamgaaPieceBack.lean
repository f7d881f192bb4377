/-
  PieceBack: for all lists of bytes, every size and every order the law of chapter 21 on pieces put back returns true, and leaves its arguments as they were. No condition.
-/
import Derived.Test.YtjelfiljebamgaaBxT
namespace Go.Proofs.Ytjelfiljebamgaa
open Go.RowKit Go.ChangeShapes Go.WideShapes Go.ChangeAt
set_option linter.unusedVariables false

section
variable {H : Type} {enc : TypeId × Value → H} {w : World} {base : Nat} {spare : Nat → Bool} {held : Bool}
set_option maxRecDepth 100000 in
theorem open_bssV {v : Value} {d : DataW H} {p : List MemPlace} (hv : Value.okWide Try.prog w .any base 35 v) (h : DataW.Trod enc Try.prog w 0 spare held 35 v d p) : ∃ L, BssV w v L := by
  obtain ⟨ao, ln, cp, rfl⟩ : ∃ ao ln cp, v = .slice ao ln cp := okWide_slice Try.underlying35 hv
  obtain ⟨fuel, hf⟩ := h
  exact open_bss (by simpa [Value.cells] using hf)
set_option maxRecDepth 100000 in
theorem open_u16V {v : Value} {d : DataW H} {p : List MemPlace} (hv : Value.okWide Try.prog w .any base 70 v) (h : DataW.Trod enc Try.prog w 0 spare held 70 v d p) : ∃ L, U16V w v L := by
  obtain ⟨ao, ln, cp, rfl⟩ : ∃ ao ln cp, v = .slice ao ln cp := okWide_slice Try.underlying70 hv
  obtain ⟨fuel, hf⟩ := h
  exact open_u16s (by simpa [Value.cells] using hf)
end

set_option maxRecDepth 100000 in
theorem pieceBack_law : LawWalk 7 Try.f7 := by
  intro H enc W base args ds ps hval hA hlt hsz
  rw [Try.params7] at hA hval
  obtain ⟨v0, v1, v2, d0, d1, d2, p0, p1, p2, rfl, rfl, rfl, h0, h1, h2⟩ := trodAll_three hA
  obtain ⟨L, hL⟩ := open_bssV (hval 0 35 v0 rfl rfl) h0
  obtain ⟨z, rfl, rfl, rfl, wz⟩ := open_int Try.underlying69 (hval 1 69 v1 rfl rfl) h1
  obtain ⟨O, hO⟩ := open_u16V (hval 2 70 v2 rfl rfl) h2
  exact back_any v0 L z v2 O W hL hO (bd_u16 wz)

set_option maxRecDepth 100000 in
theorem pieceBack_holds : Rows.PieceBackSaid :=
  OpenClaim.holds_of_wide 7 Try.f7 rfl rfl rfl rfl rfl rfl rfl ⟨rfl, rfl, rfl, rfl, rfl⟩ rfl rfl rfl rfl rfl (by kernel_rfl) Try.func7 (by kernel_rfl)
    (of_decide_eq_true (by kernel_rfl)) (by unfold Func.isWrapper; first | (rw [if_pos (by decide +kernel)]; kernel_rfl) | (rw [if_neg (by decide +kernel)]; exact ⟨rfl, rfl⟩))
    (fun os started H enc _ => law_lifted (spec := Rows.pieceBackSpec) os started H enc Try.func7 (by kernel_rfl) rfl
      (fun H ds h => by match ds, h with | [_, _, _], _ => rfl) (by kernel_rfl) (by rw [Try.params7]; intro t ht; simp at ht; rcases ht with rfl | rfl | rfl <;> exact ⟨by kernel_rfl, of_decide_eq_true (by kernel_rfl)⟩)
      (ChangeSpec.witness6 (enc := enc) (C := Try.checked) false ⟨#[], #[.slice none 0 0, .int .u16 0, .slice none 0 0], []⟩ 8 (by kernel_rfl) (by kernel_rfl) (by kernel_rfl) (by kernel_rfl)) pieceBack_law)
#print axioms pieceBack_holds
end Go.Proofs.Ytjelfiljebamgaa
