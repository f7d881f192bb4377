/-
  CoverTwo: for every input the law of chapter 11 on two triangles at one edge returns true, and leaves its arguments as they were. No condition.
-/
import Derived.Test.YtmpnojgciaoghaaCovX
import Derived.Test.YtmpnojgciaoghaaCovO
namespace Go.Proofs.Ytmpnojgciaoghaa
open Go.RowKit Go.ChangeShapes Go.WideShapes Go.ChangeAt
set_option linter.unusedVariables false

theorem cells_pair : Try.prog.cellsOf 51 = 6 := by kernel_rfl
section
variable {H : Type} {enc : TypeId × Value → H} {w : World} {base : Nat} {spare : Nat → Bool} {held : Bool}
theorem open_pair {v : Value} {d : DataW H} {p : List MemPlace} (hv : Value.okWide Try.prog w .any base 51 v) (h : DataW.Trod enc Try.prog w 0 spare held 51 v d p) : ∃ a b : C3, v = pair a b := by
  have hv' := hv
  simp only [Value.okWide, Try.underlying51] at hv'
  obtain ⟨cs, rfl, hs, _⟩ := hv'
  rw [cells_pair] at hs
  obtain ⟨fuel, hf⟩ := h
  obtain ⟨xs, m, _, _, hl, hx, hg⟩ := DataW.trod_array Try.underlying51 hf
  obtain ⟨l⟩ := cs
  have g0 := hg 0 (by omega)
  have g1 := hg 1 (by omega)
  simp only [cells_crn] at g0 g1
  match l, hs, xs, hx with
  | [c0, c1, c2, c3, c4, c5], _, [y0, y1], _ =>
    obtain ⟨a, ea⟩ := open_crn (x := y0) (by simpa [Value.cells] using g0)
    obtain ⟨b, eb⟩ := open_crn (x := y1) (by simpa [Value.cells] using g1)
    simp at ea eb
    exact ⟨a, b, by simp [pair, ea, eb]⟩
end
theorem coverTwo_law : LawWalk 6 Try.f6 := by
  intro H enc W base args ds ps hval hA hlt hsz
  rw [Try.params6] at hA hval
  obtain ⟨v0, v1, v2, d0, d1, d2, p0, p1, p2, rfl, rfl, rfl, h0, h1, h2⟩ := trodAll_three hA
  obtain ⟨a, b, rfl⟩ := open_pair (hval 0 51 v0 rfl rfl) h0
  obtain ⟨c, rfl⟩ := open_crn1 (hval 1 23 v1 rfl rfl) h1
  obtain ⟨d, rfl⟩ := open_crn1 (hval 2 23 v2 rfl rfl) h2
  exact coverTwo_walk a b c d W

set_option maxRecDepth 100000 in
theorem coverTwo_holds : Rows.CoverTwoSaid :=
  OpenClaim.holds_of_wide 6 Try.f6 rfl rfl rfl rfl rfl rfl rfl ⟨rfl, rfl, rfl, rfl, rfl⟩ rfl rfl rfl rfl rfl (by kernel_rfl) Try.func6 (by kernel_rfl)
    (of_decide_eq_true (by kernel_rfl)) (by unfold Func.isWrapper; first | (rw [if_pos (by decide +kernel)]; kernel_rfl) | (rw [if_neg (by decide +kernel)]; exact ⟨rfl, rfl⟩))
    (fun os started H enc _ => law_lifted (spec := Rows.coverTwoSpec) os started H enc Try.func6 (by kernel_rfl) rfl
      (fun H ds h => by match ds, h with | [_, _, _], _ => rfl) (by kernel_rfl) (by rw [Try.params6]; intro t ht; simp at ht; rcases ht with rfl | rfl <;> exact ⟨by kernel_rfl, of_decide_eq_true (by kernel_rfl)⟩)
      (ChangeSpec.witness6 (enc := enc) (C := Try.checked) false ⟨#[], #[.agg #[.int .i64 0, .int .i64 0, .int .i64 0, .int .i64 0, .int .i64 0, .int .i64 0], .agg #[.int .i64 0, .int .i64 0, .int .i64 0], .agg #[.int .i64 0, .int .i64 0, .int .i64 0]], []⟩ 8 (by kernel_rfl) (by kernel_rfl) (by kernel_rfl) (by kernel_rfl)) coverTwo_law)
#print axioms coverTwo_holds
end Go.Proofs.Ytmpnojgciaoghaa
