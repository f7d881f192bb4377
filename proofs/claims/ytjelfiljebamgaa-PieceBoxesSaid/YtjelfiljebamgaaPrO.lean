/-
  Chapter 21's law: calls that come in.
-/
import Derived.OpenShut
import Derived.Test.YtjelfiljebamgaaRfD1
import Derived.Test.YtjelfiljebamgaaPcK
namespace Go.Proofs.Ytjelfiljebamgaa
open Go.RowKit Go.ChangeShapes Go.WideShapes
set_option linter.unusedVariables false
set_option linter.unusedSimpArgs false

theorem cells_op : Try.prog.cellsOf 55 = 5 := by kernel_rfl
theorem cells_i1 : Try.prog.cellsOf 3 = 1 := by kernel_rfl
theorem cells_u6 : Try.prog.cellsOf 22 = 1 := by kernel_rfl
theorem cells_sb : Try.prog.cellsOf 23 = 1 := by kernel_rfl
theorem plain_ad {w : World} {a : Addr} {v : Value} (h : w.cell? a = some v) : ∃ b o, a = ⟨b, o, none⟩ := by
  obtain ⟨b, o, s⟩ := a
  cases s with
  | none => exact ⟨b, o, rfl⟩
  | some s =>
    exfalso
    simp [World.cell?] at h
    split at h <;> simp_all
section
variable {H : Type} {enc : TypeId × Value → H} {w : World} {base : Nat} {spare : Nat → Bool} {held : Bool}
theorem bytes_cell {fuel : Nat} {c : Value} {x : DataW H × List MemPlace} (h : DataW.trod enc Try.prog w base spare held fuel 23 [c] = some x) : ∃ L, BytV w c L := ⟨_, (open_bytes1 h).choose_spec⟩
/-- One call's cells. -/
def opRow (q : OpR) (u : Value) : List Value := [.int .i64 q.kind, .int .u64 (q.id : Nat), .int .i64 q.pl, .int .i64 q.of, u]
set_option maxRecDepth 100000 in
theorem open_op {fuel : Nat} {cs : List Value} {x : DataW H × List MemPlace} (h : DataW.trod enc Try.prog w base spare held fuel 55 cs = some x) : ∃ z : OpR × Value, cs = opRow z.1 z.2 ∧ z.1.id < 18446744073709551616 ∧ BytV w z.2 z.1.b := by
  obtain ⟨xs, n, _, _, hl, hx, hg⟩ := DataW.trod_struct Try.underlying55 h
  rw [cells_op] at hl
  have h0 := hg 0 _ rfl
  have h1 := hg 1 _ rfl
  have h2 := hg 2 _ rfl
  have h3 := hg 3 _ rfl
  have h4 := hg 4 _ rfl
  match cs, hl, xs, hx with
  | [c0, c1, c2, c3, c4], _, [y0, y1, y2, y3, y4], _ =>
    obtain ⟨n0, e0, _, _⟩ := DataW.trod_int Try.underlying3 (x := y0) (cs := [c0]) (by simpa [cells_i1, cells_u6, cells_sb] using h0)
    obtain ⟨n1, e1, _, w1⟩ := DataW.trod_int Try.underlying22 (x := y1) (cs := [c1]) (by simpa [cells_i1, cells_u6, cells_sb] using h1)
    obtain ⟨n2, e2, _, _⟩ := DataW.trod_int Try.underlying3 (x := y2) (cs := [c2]) (by simpa [cells_i1, cells_u6, cells_sb] using h2)
    obtain ⟨n3, e3, _, _⟩ := DataW.trod_int Try.underlying3 (x := y3) (cs := [c3]) (by simpa [cells_i1, cells_u6, cells_sb] using h3)
    obtain ⟨L, hL⟩ := bytes_cell (c := c4) (x := y4) (by simpa [cells_i1, cells_u6, cells_sb] using h4)
    injection e0 with e0
    injection e1 with e1
    injection e2 with e2
    injection e3 with e3
    have hb := bd_u64 w1
    refine ⟨(⟨n0, n1.toNat, n2, n3, L⟩, c4), ?_, ?_, hL⟩
    · have : ((n1.toNat : Nat) : Int) = n1 := by omega
      unfold opRow
      rw [this, e0, e1, e2, e3]
    · show n1.toNat < _
      omega
set_option maxRecDepth 100000 in
theorem open_ops {c : Value} {fuel : Nat} {x : DataW H × List MemPlace} (h : DataW.trod enc Try.prog w base spare held fuel 44 [c] = some x) : ∃ L, OpsV w c L := by
  rcases DataW.trod_slice Try.underlying44 h with ⟨hcs, _⟩ | ⟨a, len, cap, elems, rest, m, _, hcs, _, hb, hl, hm, hlen, hel, _, _⟩
  · injection hcs with hcs _
    exact ⟨[], none, 0, hcs, fun k q hk => by simp at hk⟩
  · injection hcs with hcs _
    have key : ∀ i, i < len → ∃ z : OpR × Value, w.cells? base (a.add (i * 5)) 5 = some (opRow z.1 z.2) ∧ z.1.id < 18446744073709551616 ∧ BytV w z.2 z.1.b := fun i hi => by
      have h1 := hel i hi
      rw [cells_op, List.getElem?_eq_getElem (by omega)] at h1
      obtain ⟨cs', h2, h3⟩ := Option.bind_eq_some_iff.1 h1
      obtain ⟨z, rfl, h4⟩ := open_op h3
      exact ⟨z, h2, h4⟩
    let R : Nat → OpR := fun i => if hi : i < len then (key i hi).choose.1 else ⟨0, 0, 0, 0, []⟩
    refine ⟨(List.range len).map R, some a, cap, by rw [hcs, List.length_map, List.length_range], fun k q hk => ?_⟩
    have hk' : k < len := by
      have := (List.getElem?_eq_some_iff.1 hk).1
      simpa using this
    rw [List.getElem?_map, List.getElem?_range hk'] at hk
    obtain rfl : R k = q := by simpa using hk
    have hsp := (key k hk').choose_spec
    have hR : R k = (key k hk').choose.1 := by simp [R, hk']
    rw [hR]
    obtain ⟨zc, hzc⟩ : ∃ z, (key k hk').choose = z := ⟨_, rfl⟩
    rw [hzc] at hsp ⊢
    obtain ⟨h1, h2, h3⟩ := hsp
    obtain ⟨_, hlen2, hcell⟩ := World.cells?_some h1
    obtain ⟨b, o, rfl⟩ : ∃ b o, a = ⟨b, o, none⟩ := by
      obtain ⟨z0, h0, _⟩ := key 0 (by omega)
      obtain ⟨_, _, hcell0⟩ := World.cells?_some h0
      have h0 := hcell0 0 (by decide)
      rw [Nat.zero_mul] at h0
      have e0 : (a.add 0).add 0 = a := by simp [Addr.add]
      rw [e0] at h0
      exact plain_ad (v := .int .i64 z0.1.kind) h0
    have hc : ∀ j v, (opRow zc.1 zc.2)[j]? = some v → w.cell? ⟨b, o + k * 5 + j, none⟩ = some v := fun j v hv => by
      have hj : j < 5 := (List.getElem?_eq_some_iff.1 hv).1
      have h5 := hcell j hj
      rw [Addr.add_mid, Addr.add_mid, hv] at h5
      exact h5
    exact ⟨b, o, zc.2, rfl, h2, hc 0 _ rfl, hc 1 _ rfl, hc 2 _ rfl, hc 3 _ rfl, hc 4 _ rfl, h3⟩
set_option maxRecDepth 100000 in
theorem open_opsV {v : Value} {d : DataW H} {p : List MemPlace} (hv : Value.okWide Try.prog w .any base 44 v) (h : DataW.Trod enc Try.prog w 0 spare held 44 v d p) : ∃ L, OpsV w v L := by
  obtain ⟨ao, ln, cp, rfl⟩ : ∃ ao ln cp, v = .slice ao ln cp := okWide_slice Try.underlying44 hv
  obtain ⟨fuel, hf⟩ := h
  exact open_ops (by simpa [Value.cells] using hf)
end
end Go.Proofs.Ytjelfiljebamgaa
