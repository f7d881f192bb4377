/-
  Chapter 23: calls, and bytes, that come in.
-/
import Derived.Deep.SlicePairs
import Derived.Test.YtaaohfocegnlkaaBtL
import Derived.Test.YtaaohfocegnlkaaLawKit
namespace Go.Proofs.Ytaaohfocegnlkaa
open Go.RowKit Go.ChangeShapes Go.WideShapes
set_option linter.unusedVariables false
set_option linter.unusedSimpArgs false

theorem cells_op : Try.prog.cellsOf 47 = 2 := by kernel_rfl
theorem cells_int : Try.prog.cellsOf 3 = 1 := by kernel_rfl
theorem cells_u8 : Try.prog.cellsOf 5 = 1 := by kernel_rfl
theorem addr_plain {w : World} {a : Addr} {v : Value} (h : w.cell? (a.add 0) = some v) : ∃ b o, a = ⟨b, o, none⟩ := by
  obtain ⟨b, o, s⟩ := a
  cases s with
  | none => exact ⟨b, o, rfl⟩
  | some s =>
    exfalso
    simp [Addr.add, World.cell?] at h
    split at h <;> simp_all
theorem cell_plain {w : World} {b o k : Nat} {v : Value} (h : w.cell? ((⟨b, o, none⟩ : Addr).add k) = some v) : w.cell? ⟨b, o + k, none⟩ = some v := by
  unfold Addr.add at h; split at h <;> simp_all

section
variable {H : Type} {enc : TypeId × Value → H} {w : World} {base : Nat} {spare : Nat → Bool} {held : Bool}
theorem cells_slice {ao bo : Option Addr} {l m c d : Nat} (h : (Value.slice ao l c).cells.toList = [.slice bo m d]) : Value.slice ao l c = .slice bo m d := by
  simpa [Value.cells] using h
theorem open_ops {v : Value} {d : DataW H} {p : List MemPlace} (hv : Value.okWide Try.prog w .any base 22 v) (h : DataW.Trod enc Try.prog w 0 spare held 22 v d p) : ∃ L, OpsV w v L := by
  obtain ⟨ao, ln, cp, rfl⟩ : ∃ ao ln cp, v = .slice ao ln cp := okWide_slice Try.underlying22 hv
  obtain ⟨fuel, hf⟩ := h
  rcases Go.Deep.open_slice_pairs Try.underlying22 Try.underlying47 cells_op rfl rfl cells_int cells_int hf with ⟨hcs, _⟩ | ⟨a, len, cap, m, n, V0, V1, D0, D1, P0, P1, hcs, _, hlen, hcap, hm, _, hx⟩
  · have e := cells_slice hcs
    exact ⟨[], none, 0, e, fun k hk => by simp at hk⟩
  · have e := cells_slice hcs
    have hml : len ≤ m := by rw [hm]; split <;> omega
    have each : ∀ i, i < len → ∃ q : Int × Int, V0 i = .int .i64 q.1 ∧ V1 i = .int .i64 q.2 := fun i hi => by
      obtain ⟨_, _, h3, h4⟩ := hx i (by omega)
      obtain ⟨n0, e0, _, _⟩ := DataW.trod_int Try.underlying3 h3
      obtain ⟨n1, e1, _, _⟩ := DataW.trod_int Try.underlying3 h4
      simp at e0 e1
      exact ⟨(n0, n1), e0, e1⟩
    obtain ⟨q, hq⟩ := Go.Deep.choose_lt each
    refine ⟨(List.range len).map q, some a, cap, by rw [e]; simp, fun k hk => ?_⟩
    have hk : k < len := by simpa using hk
    obtain ⟨h1, h2, _, _⟩ := hx k (by omega)
    obtain ⟨b, o, rfl⟩ := addr_plain (by have := (hx 0 (by omega)).1; rwa [Nat.zero_mul] at this)
    have c0 := cell_plain h1
    have c1 := cell_plain h2
    have hg : ((List.range len).map q).getD k (0, 0) = q k := by rw [List.getD_eq_getElem?_getD]; simp [hk]
    rw [hg]
    exact ⟨b, o, rfl, c0.trans (by rw [(hq k hk).1]), c1.trans (by rw [(hq k hk).2])⟩
theorem bd_u8 {n : Int} (h : (Lit.int .u8 n).wf = true) : 0 ≤ n ∧ n ≤ 255 := by
  simp only [Lit.wf, Bool.and_eq_true, decide_eq_true_eq] at h
  exact h
theorem open_bytes {v : Value} {d : DataW H} {p : List MemPlace} (hv : Value.okWide Try.prog w .any base 36 v) (h : DataW.Trod enc Try.prog w 0 spare held 36 v d p) : ∃ L, BytV w v L := by
  obtain ⟨ao, ln, cp, rfl⟩ : ∃ ao ln cp, v = .slice ao ln cp := okWide_slice Try.underlying36 hv
  obtain ⟨fuel, hf⟩ := h
  rcases open_ints Try.underlying36 Try.underlying5 cells_u8 hf with ⟨hcs, _⟩ | ⟨a, len, cap, zs, hcs, _, hlen, hcap, hm, _, hx, hw⟩
  · have e := cells_slice hcs
    exact ⟨[], none, 0, e, fun k hk => by simp at hk⟩
  · have e := cells_slice hcs
    have hml : len ≤ zs.length := by rw [hm]; split <;> omega
    have htl : (zs.take len).length = len := by rw [List.length_take]; omega
    refine ⟨zs.take len, some a, cap, by rw [e, htl], fun k hk => ?_⟩
    rw [htl] at hk
    obtain ⟨b, o, rfl⟩ := addr_plain (hx 0 (by omega))
    have c0 := cell_plain (hx k (by omega))
    have hg : (zs.take len).getD k 0 = zs.getD k 0 := by rw [List.getD_eq_getElem?_getD, List.getD_eq_getElem?_getD, List.getElem?_take_of_lt hk]
    rw [hg]
    have := bd_u8 (hw (zs.getD k 0) (by rw [List.getD_eq_getElem?_getD, List.getElem?_eq_getElem (by omega)]; exact List.getElem_mem _))
    exact ⟨b, o, rfl, c0, this.1, this.2⟩
end
end Go.Proofs.Ytaaohfocegnlkaa
