/-
  BeatPlays: for every input the law of chapter 23 that a watch answers what the document says returns true, and leaves its arguments as they were. No condition.
-/
import Derived.Test.YtaaohfocegnlkaaBtY
import Derived.Test.YtaaohfocegnlkaaBtO
namespace Go.Proofs.Ytaaohfocegnlkaa
open Go.RowKit Go.ChangeShapes Go.WideShapes Go.ChangeAt
set_option linter.unusedVariables false

theorem cells_start : Try.prog.cellsOf 40 = 3 := by kernel_rfl
section
variable {H : Type} {enc : TypeId × Value → H} {w : World} {base : Nat} {spare : Nat → Bool} {held : Bool}
theorem open_start {v : Value} {d : DataW H} {p : List MemPlace} (hv : Value.okWide Try.prog w .any base 40 v) (h : DataW.Trod enc Try.prog w 0 spare held 40 v d p) :
    ∃ a b c : Int, v = .agg #[.int .i64 a, .int .i64 b, .int .i64 c] := by
  have hv' := hv
  simp only [Value.okWide, Try.underlying40] at hv'
  obtain ⟨cs, rfl, hs, _⟩ := hv'
  obtain ⟨fuel, hf⟩ := h
  obtain ⟨xs, n, _, _, hl, hx, hg⟩ := DataW.trod_struct Try.underlying40 hf
  rw [cells_start] at hl
  have h0 := hg 0 _ rfl
  have h1 := hg 1 _ rfl
  have h2 := hg 2 _ rfl
  obtain ⟨l⟩ := cs
  match l, hl, xs, hx with
  | [c0, c1, c2], _, [y0, y1, y2], _ =>
    obtain ⟨n0, e0, _, _⟩ := DataW.trod_int Try.underlying3 (x := y0) (by simpa [cells_int, Value.cells] using h0)
    obtain ⟨n1, e1, _, _⟩ := DataW.trod_int Try.underlying3 (x := y1) (by simpa [cells_int, Value.cells] using h1)
    obtain ⟨n2, e2, _, _⟩ := DataW.trod_int Try.underlying3 (x := y2) (by simpa [cells_int, Value.cells] using h2)
    simp at e0 e1 e2
    exact ⟨n0, n1, n2, by simp [e0, e1, e2]⟩
end

theorem beatPlays_law : LawWalk 5 Try.f5 := by
  intro H enc W base args ds ps hval hA hlt hsz
  rw [Try.params5] at hA hval
  obtain ⟨v0, v1, d0, d1, p0, p1, rfl, rfl, rfl, h0, h1⟩ := trodAll_two hA
  obtain ⟨a, b, c, rfl⟩ := open_start (hval 0 40 v0 rfl rfl) h0
  obtain ⟨L, hL⟩ := open_ops (hval 1 22 v1 rfl rfl) h1
  exact beatPlays_walk a b c L v1 W hL

set_option maxRecDepth 100000 in
theorem beatPlays_holds : Rows.BeatPlaysSaid :=
  OpenClaim.holds_of_wide 5 Try.f5 rfl rfl rfl rfl rfl rfl rfl ⟨rfl, rfl, rfl, rfl, rfl⟩ rfl rfl rfl rfl rfl (by kernel_rfl) Try.func5 (by kernel_rfl)
    (of_decide_eq_true (by kernel_rfl)) (by unfold Func.isWrapper; first | (rw [if_pos (by decide +kernel)]; kernel_rfl) | (rw [if_neg (by decide +kernel)]; exact ⟨rfl, rfl⟩))
    (fun os started H enc _ => law_lifted (spec := Rows.beatPlaysSpec) os started H enc Try.func5 (by kernel_rfl) rfl
      (fun H ds h => by match ds, h with | [_, _], _ => rfl) (by kernel_rfl) (by rw [Try.params5]; intro t ht; simp at ht; rcases ht with rfl | rfl <;> exact ⟨by kernel_rfl, of_decide_eq_true (by kernel_rfl)⟩)
      (ChangeSpec.witness6 (enc := enc) (C := Try.checked) false ⟨#[], #[.agg #[.int .i64 0, .int .i64 0, .int .i64 0], .slice none 0 0], []⟩ 8 (by kernel_rfl) (by kernel_rfl) (by kernel_rfl) (by kernel_rfl)) beatPlays_law)
#print axioms beatPlays_holds
end Go.Proofs.Ytaaohfocegnlkaa
