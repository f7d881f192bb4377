/-
  Chapter 11: a corner, and three, that come in.
-/
import Derived.Test.YtmpnojgciaoghaaCovA
import Derived.Test.YtmpnojgciaoghaaLawKit
namespace Go.Proofs.Ytmpnojgciaoghaa
open Go.RowKit Go.ChangeShapes Go.WideShapes
set_option linter.unusedVariables false
set_option linter.unusedSimpArgs false

theorem cells_crn : Try.prog.cellsOf 23 = 3 := by kernel_rfl
theorem cells_tri : Try.prog.cellsOf 24 = 9 := by kernel_rfl
theorem cells_i64 : Try.prog.cellsOf 2 = 1 := by kernel_rfl

section
variable {H : Type} {enc : TypeId × Value → H} {w : World} {base : Nat} {spare : Nat → Bool} {held : Bool}
theorem open_crn {fuel : Nat} {cs : List Value} {x : DataW H × List MemPlace} (h : DataW.trod enc Try.prog w base spare held fuel 23 cs = some x) :
    ∃ c : C3, cs = [.int .i64 c.x, .int .i64 c.y, .int .i64 c.z] := by
  obtain ⟨xs, n, _, _, hl, hx, hf⟩ := DataW.trod_struct Try.underlying23 h
  rw [cells_crn] at hl
  have h0 := hf 0 _ rfl
  have h1 := hf 1 _ rfl
  have h2 := hf 2 _ rfl
  match cs, hl, xs, hx with
  | [c0, c1, c2], _, [y0, y1, y2], _ =>
    obtain ⟨n0, e0, _, _⟩ := DataW.trod_int Try.underlying2 (x := y0) (by simpa [cells_i64] using h0)
    obtain ⟨n1, e1, _, _⟩ := DataW.trod_int Try.underlying2 (x := y1) (by simpa [cells_i64] using h1)
    obtain ⟨n2, e2, _, _⟩ := DataW.trod_int Try.underlying2 (x := y2) (by simpa [cells_i64] using h2)
    simp at e0 e1 e2
    exact ⟨⟨n0, n1, n2⟩, by simp [e0, e1, e2]⟩

theorem open_tri {v : Value} {d : DataW H} {p : List MemPlace} (hv : Value.okWide Try.prog w .any base 24 v) (h : DataW.Trod enc Try.prog w 0 spare held 24 v d p) : ∃ a b c : C3, v = tri a b c := by
  have hv' := hv
  simp only [Value.okWide, Try.underlying24] at hv'
  obtain ⟨cs, rfl, hs, _⟩ := hv'
  rw [cells_tri] at hs
  obtain ⟨fuel, hf⟩ := h
  obtain ⟨xs, m, _, _, hl, hx, hg⟩ := DataW.trod_array Try.underlying24 hf
  obtain ⟨l⟩ := cs
  have g0 := hg 0 (by omega)
  have g1 := hg 1 (by omega)
  have g2 := hg 2 (by omega)
  simp only [cells_crn] at g0 g1 g2
  match l, hs, xs, hx with
  | [c0, c1, c2, c3, c4, c5, c6, c7, c8], _, [y0, y1, y2], _ =>
    obtain ⟨a, ea⟩ := open_crn (x := y0) (by simpa [Value.cells] using g0)
    obtain ⟨b, eb⟩ := open_crn (x := y1) (by simpa [Value.cells] using g1)
    obtain ⟨c, ec⟩ := open_crn (x := y2) (by simpa [Value.cells] using g2)
    simp at ea eb ec
    exact ⟨a, b, c, by simp [tri, ea, eb, ec]⟩

theorem open_crn1 {v : Value} {d : DataW H} {p : List MemPlace} (hv : Value.okWide Try.prog w .any base 23 v) (h : DataW.Trod enc Try.prog w 0 spare held 23 v d p) : ∃ a : C3, v = crn a := by
  have hv' := hv
  simp only [Value.okWide, Try.underlying23] at hv'
  obtain ⟨cs, rfl, hs, _⟩ := hv'
  obtain ⟨fuel, hf⟩ := h
  obtain ⟨a, ea⟩ := open_crn hf
  obtain ⟨l⟩ := cs
  exact ⟨a, by simpa [crn, Value.cells] using ea⟩
end
end Go.Proofs.Ytmpnojgciaoghaa
