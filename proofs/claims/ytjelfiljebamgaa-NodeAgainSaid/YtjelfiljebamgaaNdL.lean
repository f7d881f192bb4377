/-
  Chapter 28: a message that comes in.
-/
import Derived.Test.YtjelfiljebamgaaNdB
import Derived.Test.YtjelfiljebamgaaPcK
namespace Go.Proofs.Ytjelfiljebamgaa
open Go.RowKit Go.ChangeShapes Go.WideShapes
set_option linter.unusedVariables false
set_option linter.unusedSimpArgs false

theorem cells_msg : Try.prog.cellsOf 88 = 11 := by kernel_rfl
theorem cells_ep : Try.prog.cellsOf 82 = 2 := by kernel_rfl
theorem cells_mv : Try.prog.cellsOf 86 = 5 := by kernel_rfl
theorem cells_sp : Try.prog.cellsOf 84 = 2 := by kernel_rfl
theorem cells_is : Try.prog.cellsOf 60 = 1 := by kernel_rfl
theorem cells_u32 : Try.prog.cellsOf 80 = 1 := by kernel_rfl
theorem bd_u32 {n : Int} (h : (Lit.int .u32 n).wf = true) : 0 ≤ n ∧ n ≤ 4294967295 := by
  simp only [Lit.wf, Bool.and_eq_true, decide_eq_true_eq] at h
  exact h
section
variable {H : Type} {enc : TypeId × Value → H} {w : World} {base : Nat} {spare : Nat → Bool} {held : Bool}
set_option maxRecDepth 100000 in
theorem open_ints1 {c : Value} {fuel : Nat} {x : DataW H × List MemPlace} (h : DataW.trod enc Try.prog w base spare held fuel 60 [c] = some x) : ∃ L, IntsV w c L := by
  rcases open_ints Try.underlying60 Try.underlying3 cells_int h with ⟨hcs, _⟩ | ⟨a, len, cap, zs, hcs, _, hlen, hcap, hm, _, hx, hw⟩
  · injection hcs with hcs _
    exact ⟨[], none, 0, hcs, fun k hk => by simp at hk⟩
  · injection hcs with hcs _
    have hml : len ≤ zs.length := by rw [hm]; split <;> omega
    have htl : (zs.take len).length = len := by rw [List.length_take]; omega
    refine ⟨zs.take len, some a, cap, by rw [hcs, htl], fun k hk => ?_⟩
    rw [htl] at hk
    obtain ⟨b, o, rfl⟩ := addr_plain (hx 0 (by omega))
    have c0 := cell_plain (hx k (by omega))
    have hg : (zs.take len).getD k 0 = zs.getD k 0 := by rw [List.getD_eq_getElem?_getD, List.getD_eq_getElem?_getD, List.getElem?_take_of_lt hk]
    rw [hg]
    exact ⟨b, o, rfl, c0⟩
set_option maxRecDepth 100000 in
theorem open_msg {v : Value} {d : DataW H} {p : List MemPlace} (hv : Value.okWide Try.prog w .any base 88 v) (h : DataW.Trod enc Try.prog w 0 spare held 88 v d p) :
    ∃ k eN eB um fr ro mf mt sf st ud Ms D, v = msV k eN eB um fr ro mf mt sf st ud ∧ (0 ≤ eN ∧ eN ≤ 4294967295) ∧ IntsV w um Ms ∧ BytV w ud D := by
  have hv' := hv
  simp only [Value.okWide, Try.underlying88] at hv'
  obtain ⟨cs, rfl, hs, _⟩ := hv'
  rw [cells_msg] at hs
  obtain ⟨fuel, hf⟩ := h
  obtain ⟨xs, n, _, _, hl, hx, hg⟩ := DataW.trod_struct Try.underlying88 hf
  obtain ⟨l⟩ := cs
  have h0 := hg 0 _ rfl
  have h1 := hg 1 _ rfl
  have h2 := hg 2 _ rfl
  have h3 := hg 3 _ rfl
  have h4 := hg 4 _ rfl
  have h5 := hg 5 _ rfl
  match l, hs, xs, hx with
  | [c0, c1, c2, c3, c4, c5, c6, c7, c8, c9, c10], _, [y0, y1, y2, y3, y4, y5], _ =>
    obtain ⟨n0, e0, _, w0⟩ := DataW.trod_int Try.underlying3 (x := y0) (by simpa [cells_int, cells_ep, cells_is, cells_mv, cells_bs, Value.cells] using h0)
    obtain ⟨es, ne, _, _, hle, hxe, hge⟩ := DataW.trod_struct Try.underlying82 (x := y1) (cs := [c1, c2]) (by simpa [cells_int, cells_ep, cells_is, cells_mv, cells_bs, Value.cells] using h1)
    have g0 := hge 0 _ rfl
    have g1 := hge 1 _ rfl
    obtain ⟨L, hL⟩ := open_ints1 (c := c3) (x := y2) (by simpa [cells_int, cells_ep, cells_is, cells_mv, cells_bs, Value.cells] using h2)
    obtain ⟨n4, e4, _, _⟩ := DataW.trod_int Try.underlying3 (x := y3) (by simpa [cells_int, cells_ep, cells_is, cells_mv, cells_bs, Value.cells] using h3)
    obtain ⟨ms, nm, _, _, hlm, hxm, hgm⟩ := DataW.trod_struct Try.underlying86 (x := y4) (cs := [c5, c6, c7, c8, c9]) (by simpa [cells_int, cells_ep, cells_is, cells_mv, cells_bs, Value.cells] using h4)
    have m0 := hgm 0 _ rfl
    have m1 := hgm 1 _ rfl
    have m2 := hgm 2 _ rfl
    have m3 := hgm 3 _ rfl
    obtain ⟨D, hD⟩ := open_bytes1 (c := c10) (x := y5) (by simpa [cells_int, cells_ep, cells_is, cells_mv, cells_bs, Value.cells] using h5)
    match es, hxe, ms, hxm with
    | [z0, z1], _, [u0, u1, u2, u3], _ =>
      obtain ⟨n1, e1, _, w1⟩ := DataW.trod_int Try.underlying80 (x := z0) (by simpa [cells_u32, Value.cells] using g0)
      obtain ⟨n2, e2, _, _⟩ := DataW.trod_int Try.underlying3 (x := z1) (by simpa [cells_int, Value.cells] using g1)
      obtain ⟨n5, e5, _, _⟩ := DataW.trod_int Try.underlying3 (x := u0) (by simpa [cells_int, Value.cells] using m0)
      obtain ⟨n6, e6, _, _⟩ := DataW.trod_int Try.underlying3 (x := u1) (by simpa [cells_int, Value.cells] using m1)
      obtain ⟨n7, e7, _, _⟩ := DataW.trod_int Try.underlying3 (x := u2) (by simpa [cells_int, Value.cells] using m2)
      obtain ⟨ss, ns, _, _, hls, hxs, hgs⟩ := DataW.trod_struct Try.underlying84 (x := u3) (cs := [c8, c9]) (by simpa [cells_int, cells_sp, Value.cells] using m3)
      have s0 := hgs 0 _ rfl
      have s1 := hgs 1 _ rfl
      match ss, hxs with
      | [r0, r1], _ =>
        obtain ⟨n8, e8, _, _⟩ := DataW.trod_int Try.underlying3 (x := r0) (by simpa [cells_int, Value.cells] using s0)
        obtain ⟨n9, e9, _, _⟩ := DataW.trod_int Try.underlying3 (x := r1) (by simpa [cells_int, Value.cells] using s1)
        simp at e0 e1 e2 e4 e5 e6 e7 e8 e9
        exact ⟨n0, n1, n2, c3, n4, n5, n6, n7, n8, n9, c10, L, D, by rw [e0, e1, e2, e4, e5, e6, e7, e8, e9], bd_u32 w1, hL, hD⟩
end
end Go.Proofs.Ytjelfiljebamgaa
