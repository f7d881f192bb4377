/-
  Chapter 8's laws: a list of ints that comes in.
-/
import Derived.Test.YtackbajbladhhaaShK
import Derived.Test.YtackbajbladhhaaScT
namespace Go.Proofs.Ytackbajbladhhaa
open Go.RowKit Go.ChangeShapes Go.WideShapes
set_option linter.unusedVariables false
set_option linter.unusedSimpArgs false

theorem addr_plain {w : World} {a : Addr} {v : Value} (h : w.cell? (a.add 0) = some v) : ∃ b o, a = ⟨b, o, none⟩ := by
  obtain ⟨b, o, s⟩ := a
  cases s with
  | none => exact ⟨b, o, rfl⟩
  | some s =>
    exfalso
    simp [Addr.add, World.cell?] at h
    split at h <;> simp_all
theorem cell_plain {w : World} {b o k : Nat} {v : Value} (h : w.cell? ((⟨b, o, none⟩ : Addr).add k) = some v) : w.cell? ⟨b, o + k, none⟩ = some v := by
  unfold Addr.add at h; split at h <;> simp_all
section
variable {H : Type} {enc : TypeId × Value → H} {w : World} {base : Nat} {spare : Nat → Bool} {held : Bool}
set_option maxRecDepth 100000 in
theorem open_ints1 {c : Value} {fuel : Nat} {x : DataW H × List MemPlace} (h : DataW.trod enc Try.prog w base spare held fuel 44 [c] = some x) : ∃ L, IntsO w c L := by
  rcases open_ints Try.underlying44 Try.underlying3 cells_i h with ⟨hcs, _⟩ | ⟨a, len, cap, zs, hcs, _, hlen, hcap, hm, _, hx, hw⟩
  · injection hcs with hcs _
    exact ⟨[], none, 0, hcs, fun k hk => by simp at hk⟩
  · injection hcs with hcs _
    have hml : len ≤ zs.length := by rw [hm]; split <;> omega
    have htl : (zs.take len).length = len := by rw [List.length_take]; omega
    refine ⟨zs.take len, some a, cap, by rw [hcs, htl], fun k hk => ?_⟩
    rw [htl] at hk
    obtain ⟨b, o, rfl⟩ := addr_plain (hx 0 (by omega))
    have c0 := cell_plain (hx k (by omega))
    have hg : (zs.take len).getD k 0 = zs.getD k 0 := by rw [List.getD_eq_getElem?_getD, List.getD_eq_getElem?_getD, List.getElem?_take_of_lt hk]
    rw [hg]
    exact ⟨b, o, rfl, c0⟩
set_option maxRecDepth 100000 in
theorem open_list {v : Value} {d : DataW H} {p : List MemPlace} (hv : Value.okWide Try.prog w .any base 44 v) (h : DataW.Trod enc Try.prog w 0 spare held 44 v d p) : ∃ L, IntsO w v L := by
  obtain ⟨ao, ln, cp, rfl⟩ : ∃ ao ln cp, v = .slice ao ln cp := okWide_slice Try.underlying44 hv
  obtain ⟨fuel, hf⟩ := h
  exact open_ints1 (by simpa [Value.cells] using hf)
end
end Go.Proofs.Ytackbajbladhhaa
