/-
  Chapter 21: a piece, and bytes, that come in.
-/
import Derived.Test.YtjelfiljebamgaaPcJ
import Derived.Test.YtjelfiljebamgaaLawKit
namespace Go.Proofs.Ytjelfiljebamgaa
open Go.RowKit Go.ChangeShapes Go.WideShapes
set_option linter.unusedVariables false
set_option linter.unusedSimpArgs false

theorem cells_pc : Try.prog.cellsOf 25 = 4 := by kernel_rfl
theorem cells_int : Try.prog.cellsOf 3 = 1 := by kernel_rfl
theorem cells_u64 : Try.prog.cellsOf 22 = 1 := by kernel_rfl
theorem cells_u8 : Try.prog.cellsOf 5 = 1 := by kernel_rfl
theorem cells_bs : Try.prog.cellsOf 23 = 1 := by kernel_rfl
theorem addr_plain {w : World} {a : Addr} {v : Value} (h : w.cell? (a.add 0) = some v) : ∃ b o, a = ⟨b, o, none⟩ := by
  obtain ⟨b, o, s⟩ := a
  cases s with
  | none => exact ⟨b, o, rfl⟩
  | some s =>
    exfalso
    simp [Addr.add, World.cell?] at h
    split at h <;> simp_all
theorem cell_plain {w : World} {b o k : Nat} {v : Value} (h : w.cell? ((⟨b, o, none⟩ : Addr).add k) = some v) : w.cell? ⟨b, o + k, none⟩ = some v := by
  unfold Addr.add at h; split at h <;> simp_all
theorem bd_u8 {n : Int} (h : (Lit.int .u8 n).wf = true) : 0 ≤ n ∧ n ≤ 255 := by
  simp only [Lit.wf, Bool.and_eq_true, decide_eq_true_eq] at h
  exact h
theorem bd_u64 {n : Int} (h : (Lit.int .u64 n).wf = true) : 0 ≤ n ∧ n ≤ 18446744073709551615 := by
  simp only [Lit.wf, Bool.and_eq_true, decide_eq_true_eq] at h
  exact h

section
variable {H : Type} {enc : TypeId × Value → H} {w : World} {base : Nat} {spare : Nat → Bool} {held : Bool}
set_option maxRecDepth 100000 in
theorem open_bytes1 {c : Value} {fuel : Nat} {x : DataW H × List MemPlace} (h : DataW.trod enc Try.prog w base spare held fuel 23 [c] = some x) : ∃ L, BytV w c L := by
  rcases open_ints Try.underlying23 Try.underlying5 cells_u8 h with ⟨hcs, _⟩ | ⟨a, len, cap, zs, hcs, _, hlen, hcap, hm, _, hx, hw⟩
  · injection hcs with hcs _
    exact ⟨[], fun x hx => by simp at hx, none, 0, hcs, ⟨Nat.le_refl _, fun _ => rfl⟩, fun k hk => by simp at hk⟩
  · injection hcs with hcs _
    have hml : len ≤ zs.length := by rw [hm]; split <;> omega
    have htl : (zs.take len).length = len := by rw [List.length_take]; omega
    refine ⟨zs.take len, fun x hx => ?_, some a, cap, by rw [hcs, htl], ⟨by rw [htl]; exact hlen, fun e => by cases e⟩, fun k hk => ?_⟩
    · have := bd_u8 (hw x (List.mem_of_mem_take hx))
      omega
    · rw [htl] at hk
      obtain ⟨b, o, rfl⟩ := addr_plain (hx 0 (by omega))
      have c0 := cell_plain (hx k (by omega))
      have hg : (zs.take len).getD k 0 = zs.getD k 0 := by rw [List.getD_eq_getElem?_getD, List.getD_eq_getElem?_getD, List.getElem?_take_of_lt hk]
      rw [hg]
      exact ⟨b, o, rfl, c0⟩
set_option maxRecDepth 100000 in
theorem open_bytes {v : Value} {d : DataW H} {p : List MemPlace} (hv : Value.okWide Try.prog w .any base 23 v) (h : DataW.Trod enc Try.prog w 0 spare held 23 v d p) : ∃ L, BytV w v L := by
  obtain ⟨ao, ln, cp, rfl⟩ : ∃ ao ln cp, v = .slice ao ln cp := okWide_slice Try.underlying23 hv
  obtain ⟨fuel, hf⟩ := h
  exact open_bytes1 (by simpa [Value.cells] using hf)
set_option maxRecDepth 100000 in
theorem open_piece {v : Value} {d : DataW H} {p : List MemPlace} (hv : Value.okWide Try.prog w .any base 25 v) (h : DataW.Trod enc Try.prog w 0 spare held 25 v d p) :
    ∃ id at_ of u D, v = pcV id at_ of u ∧ 0 ≤ id ∧ BytV w u D := by
  have hv' := hv
  simp only [Value.okWide, Try.underlying25] at hv'
  obtain ⟨cs, rfl, hs, _⟩ := hv'
  rw [cells_pc] at hs
  obtain ⟨fuel, hf⟩ := h
  obtain ⟨xs, n, _, _, hl, hx, hg⟩ := DataW.trod_struct Try.underlying25 hf
  obtain ⟨l⟩ := cs
  have h0 := hg 0 _ rfl
  have h1 := hg 1 _ rfl
  have h2 := hg 2 _ rfl
  have h3 := hg 3 _ rfl
  match l, hs, xs, hx with
  | [c0, c1, c2, c3], _, [y0, y1, y2, y3], _ =>
    obtain ⟨n0, e0, _, w0⟩ := DataW.trod_int Try.underlying22 (x := y0) (by simpa [cells_u64, Value.cells] using h0)
    obtain ⟨n1, e1, _, _⟩ := DataW.trod_int Try.underlying3 (x := y1) (by simpa [cells_int, Value.cells] using h1)
    obtain ⟨n2, e2, _, _⟩ := DataW.trod_int Try.underlying3 (x := y2) (by simpa [cells_int, Value.cells] using h2)
    obtain ⟨L, hL⟩ := open_bytes1 (c := c3) (x := y3) (by simpa [cells_bs, Value.cells] using h3)
    simp at e0 e1 e2
    exact ⟨n0, n1, n2, c3, L, by rw [e0, e1, e2], (bd_u64 w0).1, hL⟩
end
end Go.Proofs.Ytjelfiljebamgaa
