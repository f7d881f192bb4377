/-
  Chapter 21: rows of bytes, and small numbers, that come in.
-/
import Derived.Test.YtjelfiljebamgaaPcK
import Derived.Test.YtjelfiljebamgaaBxS
namespace Go.Proofs.Ytjelfiljebamgaa
open Go.RowKit Go.ChangeShapes Go.WideShapes
set_option linter.unusedVariables false
set_option linter.unusedSimpArgs false

theorem cells_u16 : Try.prog.cellsOf 69 = 1 := by kernel_rfl
theorem bd_u16 {n : Int} (h : (Lit.int .u16 n).wf = true) : 0 ≤ n ∧ n ≤ 65535 := by
  simp only [Lit.wf, Bool.and_eq_true, decide_eq_true_eq] at h
  exact h

section
variable {H : Type} {enc : TypeId × Value → H} {w : World} {base : Nat} {spare : Nat → Bool} {held : Bool}
set_option maxRecDepth 100000 in
theorem open_u16s {c : Value} {fuel : Nat} {x : DataW H × List MemPlace} (h : DataW.trod enc Try.prog w base spare held fuel 70 [c] = some x) : ∃ L, U16V w c L := by
  rcases open_ints Try.underlying70 Try.underlying69 cells_u16 h with ⟨hcs, _⟩ | ⟨a, len, cap, zs, hcs, _, hlen, hcap, hm, _, hx, hw⟩
  · injection hcs with hcs _
    exact ⟨[], none, 0, hcs, fun k hk => by simp at hk⟩
  · injection hcs with hcs _
    have hml : len ≤ zs.length := by rw [hm]; split <;> omega
    have htl : (zs.take len).length = len := by rw [List.length_take]; omega
    refine ⟨zs.take len, some a, cap, by rw [hcs, htl], fun k hk => ?_⟩
    rw [htl] at hk
    obtain ⟨b, o, rfl⟩ := addr_plain (hx 0 (by omega))
    have c0 := cell_plain (hx k (by omega))
    have hg : (zs.take len).getD k 0 = zs.getD k 0 := by rw [List.getD_eq_getElem?_getD, List.getD_eq_getElem?_getD, List.getElem?_take_of_lt hk]
    rw [hg]
    refine ⟨?_, b, o, rfl, c0⟩
    have hk2 : k < zs.length := by omega
    rw [List.getD_eq_getElem?_getD, List.getElem?_eq_getElem hk2, Option.getD_some]
    exact bd_u16 (hw _ (List.getElem_mem hk2))
theorem trod_bytes_one {fuel : Nat} {cs : List Value} {x : DataW H × List MemPlace} (h : DataW.trod enc Try.prog w base spare held fuel 23 cs = some x) : ∃ u L, cs = [u] ∧ BytV w u L := by
  rcases open_ints Try.underlying23 Try.underlying5 cells_u8 h with ⟨hcs, _⟩ | ⟨a, len, cap, zs, hcs, _⟩
  · subst hcs
    exact ⟨_, _, rfl, (open_bytes1 h).choose_spec⟩
  · subst hcs
    exact ⟨_, _, rfl, (open_bytes1 h).choose_spec⟩
set_option maxRecDepth 100000 in
theorem open_bss {c : Value} {fuel : Nat} {x : DataW H × List MemPlace} (h : DataW.trod enc Try.prog w base spare held fuel 35 [c] = some x) : ∃ L, BssV w c L := by
  rcases DataW.trod_slice Try.underlying35 h with ⟨hcs, _⟩ | ⟨a, len, cap, elems, rest, m, _, hcs, _, hb, hl, hm, hlen, hel, _, _⟩
  · injection hcs with hcs _
    exact ⟨[], none, 0, hcs, fun k hk => by simp at hk⟩
  · injection hcs with hcs _
    have key : ∀ i, i < len → ∃ p : Value × List Int, w.cell? (a.add i) = some p.1 ∧ BytV w p.1 p.2 := fun i hi => by
      have h1 := hel i hi
      rw [cells_bs, List.getElem?_eq_getElem (by omega)] at h1
      obtain ⟨cs', h2, h3⟩ := Option.bind_eq_some_iff.1 h1
      obtain ⟨u, L, rfl, hu⟩ := trod_bytes_one h3
      obtain ⟨_, _, hcell⟩ := World.cells?_some h2
      have h4 := hcell 0 (by omega)
      rw [Nat.mul_one] at h4
      exact ⟨(u, L), by simpa [Addr.add] using h4, hu⟩
    let R : Nat → List Int := fun i => if hi : i < len then (key i hi).choose.2 else []
    refine ⟨(List.range len).map R, some a, cap, by rw [hcs, List.length_map, List.length_range], fun k hk => ?_⟩
    have hk' : k < len := by simpa using hk
    have hsp := (key k hk').choose_spec
    obtain ⟨b, o, rfl⟩ : ∃ b o, a = ⟨b, o, none⟩ := addr_plain ((key 0 (by omega)).choose_spec.1)
    refine ⟨b, o, _, rfl, cell_plain hsp.1, ?_⟩
    have hg : ((List.range len).map R).getD k [] = (key k hk').choose.2 := by
      rw [List.getD_eq_getElem?_getD, List.getElem?_map, List.getElem?_range hk']
      simp [R, hk']
    rw [hg]
    exact hsp.2
end
end Go.Proofs.Ytjelfiljebamgaa
