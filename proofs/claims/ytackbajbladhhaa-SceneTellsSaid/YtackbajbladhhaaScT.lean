/-
  Chapter 6: a scene that comes in.
-/
import Derived.OpenShut
import Derived.Test.YtackbajbladhhaaScO
import Derived.Test.YtackbajbladhhaaLawKit
namespace Go.Proofs.Ytackbajbladhhaa
open Go.RowKit Go.ChangeShapes Go.WideShapes
set_option linter.unusedVariables false
set_option linter.unusedSimpArgs false

theorem cells_scn : Try.prog.cellsOf 28 = 19 := by kernel_rfl
theorem cells_obj : Try.prog.cellsOf 37 = 19 := by kernel_rfl
theorem cells_mat : Try.prog.cellsOf 25 = 16 := by kernel_rfl
theorem cells_vec : Try.prog.cellsOf 23 = 4 := by kernel_rfl
theorem cells_v3 : Try.prog.cellsOf 40 = 3 := by kernel_rfl
theorem cells_tri : Try.prog.cellsOf 84 = 4 := by kernel_rfl
theorem cells_col : Try.prog.cellsOf 82 = 1 := by kernel_rfl
theorem cells_i64 : Try.prog.cellsOf 2 = 1 := by kernel_rfl
theorem cells_i : Try.prog.cellsOf 3 = 1 := by kernel_rfl
theorem cells_w32 : Try.prog.cellsOf 82 = 1 := by kernel_rfl
theorem cells_so : Try.prog.cellsOf 26 = 1 := by kernel_rfl
theorem cells_sv : Try.prog.cellsOf 34 = 1 := by kernel_rfl
theorem cells_st : Try.prog.cellsOf 35 = 1 := by kernel_rfl

def intAt (cs : List Value) (k : Nat) : Int := match cs[k]? with | some (.int _ n) => n | _ => 0
theorem ints_form {n : Nat} {cs : List Value} (hl : cs.length = n) (h : ∀ j, j < n → ∃ z, cs[j]? = some (.int .i64 z)) : cs = (List.range n).map fun k => .int .i64 (intAt cs k) := by
  apply List.ext_getElem?
  intro j
  by_cases hj : j < n
  · obtain ⟨z, hz⟩ := h j hj
    rw [List.getElem?_map, List.getElem?_range hj]
    simp [hz, intAt]
  · rw [List.getElem?_eq_none (by omega), List.getElem?_eq_none (by simp; omega)]
theorem map_form {α β : Type} {f : α → β} {p : α → Prop} : ∀ {L : List β}, (∀ l ∈ L, ∃ a, f a = l ∧ p a) → ∃ xs : List α, L = xs.map f ∧ ∀ a ∈ xs, p a
  | [], _ => ⟨[], rfl, fun a h => by cases h⟩
  | l :: L, h => by
    obtain ⟨a, h1, h2⟩ := h l (List.mem_cons_self ..)
    obtain ⟨xs, h3, h4⟩ := map_form (L := L) (f := f) (p := p) (fun l' hl => h l' (List.mem_cons_of_mem _ hl))
    refine ⟨a :: xs, by rw [List.map_cons, h1, h3], fun b hb => ?_⟩
    rcases List.mem_cons.1 hb with e | hb
    · rw [e]; exact h2
    · exact h4 b hb
theorem plain_addr {w : World} {a : Addr} {v : Value} (h : w.cell? a = some v) : ∃ b o, a = ⟨b, o, none⟩ := by
  obtain ⟨b, o, s⟩ := a
  cases s with
  | none => exact ⟨b, o, rfl⟩
  | some s =>
    exfalso
    simp [World.cell?] at h
    split at h <;> simp_all

section
variable {H : Type} {enc : TypeId × Value → H} {w : World} {base : Nat} {spare : Nat → Bool} {held : Bool}
/-- A slice of rows of n cells. -/
theorem open_rows {t e : TypeId} {n : Nat} {Good : List Value → Prop} (ht : Try.prog.underlying t = some (.slice e)) (hc : Try.prog.cellsOf e = n) (hn : 0 < n)
    (hgood : ∀ fuel cs (x : DataW H × List MemPlace), DataW.trod enc Try.prog w base spare held fuel e cs = some x → Good cs) {c : Value} {fuel : Nat} {x : DataW H × List MemPlace}
    (h : DataW.trod enc Try.prog w base spare held fuel t [c] = some x) : ∃ L, RowsV n w c L ∧ ∀ l ∈ L, Good l := by
  rcases DataW.trod_slice ht h with ⟨hcs, _⟩ | ⟨a, len, cap, elems, rest, m, _, hcs, _, hb, hl, hm, hlen, hel, _, _⟩
  · injection hcs with hcs _
    exact ⟨[], ⟨none, 0, hcs, ⟨Nat.le_refl _, fun _ => rfl⟩, fun k x hx => by simp at hx⟩, fun l hl => by cases hl⟩
  · injection hcs with hcs _
    have key : ∀ i, i < len → ∃ cs', w.cells? base (a.add (i * n)) n = some cs' ∧ Good cs' := fun i hi => by
      have h1 := hel i hi
      rw [hc, List.getElem?_eq_getElem (by omega)] at h1
      obtain ⟨cs', h2, h3⟩ := Option.bind_eq_some_iff.1 h1
      exact ⟨cs', h2, hgood _ _ _ h3⟩
    let R : Nat → List Value := fun i => (w.cells? base (a.add (i * n)) n).getD []
    have hR : ∀ i, i < len → w.cells? base (a.add (i * n)) n = some (R i) ∧ Good (R i) := fun i hi => by
      obtain ⟨cs', h2, h3⟩ := key i hi
      simp only [R, h2, Option.getD_some]
      exact ⟨trivial, h3⟩
    refine ⟨(List.range len).map R, ⟨some a, cap, by rw [hcs, List.length_map, List.length_range], ⟨by rw [List.length_map, List.length_range]; exact hl, fun e => by cases e⟩, fun k x hx => ?_⟩, fun l hl => ?_⟩
    · have hk : k < len := by
        have := (List.getElem?_eq_some_iff.1 hx).1
        simpa using this
      rw [List.getElem?_map, List.getElem?_range hk] at hx
      obtain rfl : R k = x := by simpa using hx
      obtain ⟨_, hlen2, hcell⟩ := World.cells?_some (hR k hk).1
      obtain ⟨b, o, rfl⟩ : ∃ b o, a = ⟨b, o, none⟩ := by
        obtain ⟨_, hlen0, hcell0⟩ := World.cells?_some (hR 0 (by omega)).1
        have h0 := hcell0 0 hn
        obtain ⟨v, hv⟩ : ∃ v, (R 0)[0]? = some v := ⟨_, List.getElem?_eq_getElem (by omega)⟩
        rw [hv, Nat.zero_mul] at h0
        have e0 : (a.add 0).add 0 = a := by simp [Addr.add]
        rw [e0] at h0
        exact plain_addr h0
      refine ⟨b, o, rfl, fun j v hv => ?_⟩
      have hj : j < n := by rw [← hlen2]; exact (List.getElem?_eq_some_iff.1 hv).1
      have h1 := hcell j hj
      rw [Addr.add_lit, Addr.add_lit, hv] at h1
      exact h1
    · obtain ⟨i, hi, rfl⟩ := List.mem_map.1 hl
      exact (hR i (List.mem_range.1 hi)).2
/-- Rows of whole numbers. -/
theorem open_ints_row {t e : TypeId} {n : Nat} (ht : Try.prog.underlying t = some (.array n e)) (he : Try.prog.underlying e = some (.int .i64)) (hc : Try.prog.cellsOf e = 1) (hct : Try.prog.cellsOf t = n) {fuel : Nat} {cs : List Value} {x : DataW H × List MemPlace}
    (h : DataW.trod enc Try.prog w base spare held fuel t cs = some x) : cs.length = n ∧ ∀ j, j < n → ∃ z, cs[j]? = some (.int .i64 z) := by
  obtain ⟨xs, m, _, _, hl, hx, hg⟩ := DataW.trod_array ht h
  rw [hct] at hl
  refine ⟨hl, fun j hj => ?_⟩
  have h1 := hg j hj
  rw [hc, Nat.mul_one, List.getElem?_eq_getElem (by omega)] at h1
  obtain ⟨z, hz, _, _⟩ := DataW.trod_int he h1
  refine ⟨z, ?_⟩
  have h2 : ((cs.drop j).take 1)[0]? = some (.int .i64 z) := by rw [hz]; rfl
  rw [List.getElem?_take_of_lt (by omega), List.getElem?_drop, Nat.add_zero] at h2
  exact h2
theorem open_vec {fuel : Nat} {cs : List Value} {x : DataW H × List MemPlace} (h : DataW.trod enc Try.prog w base spare held fuel 23 cs = some x) : cs.length = 4 ∧ ∀ j, j < 4 → ∃ z, cs[j]? = some (.int .i64 z) :=
  open_ints_row Try.underlying23 Try.underlying2 cells_i64 cells_vec h
theorem open_mat {fuel : Nat} {cs : List Value} {x : DataW H × List MemPlace} (h : DataW.trod enc Try.prog w base spare held fuel 25 cs = some x) : ∃ f : Nat → Int, cs = (List.range 16).map fun k => .int .i64 (f k) := by
  obtain ⟨xs, m, _, _, hl, hx, hg⟩ := DataW.trod_array Try.underlying25 h
  rw [cells_mat] at hl
  refine ⟨intAt cs, ints_form hl fun j hj => ?_⟩
  have h1 := hg (j / 4) (by omega)
  rw [cells_vec, List.getElem?_eq_getElem (by omega)] at h1
  obtain ⟨z, hz⟩ := (open_vec h1).2 (j % 4) (by omega)
  refine ⟨z, ?_⟩
  rw [List.getElem?_take_of_lt (by omega), List.getElem?_drop, show j / 4 * 4 + j % 4 = j by omega] at hz
  exact hz
theorem open_v3 {fuel : Nat} {cs : List Value} {x : DataW H × List MemPlace} (h : DataW.trod enc Try.prog w base spare held fuel 40 cs = some x) : ∃ v : V3, vrow v = cs ∧ True := by
  obtain ⟨hl, hj⟩ := open_ints_row Try.underlying40 Try.underlying2 cells_i64 cells_v3 h
  refine ⟨(intAt cs 0, intAt cs 1, intAt cs 2), ?_, trivial⟩
  have := ints_form hl hj
  conv => rhs; rw [this]
  rfl
set_option maxRecDepth 100000 in
theorem open_tri {fuel : Nat} {cs : List Value} {x : DataW H × List MemPlace} (h : DataW.trod enc Try.prog w base spare held fuel 84 cs = some x) : ∃ v : T4, trow v = cs ∧ True := by
  obtain ⟨xs, n, _, _, hl, hx, hg⟩ := DataW.trod_struct Try.underlying84 h
  rw [cells_tri] at hl
  have h0 := hg 0 _ rfl
  have h1 := hg 1 _ rfl
  have h2 := hg 2 _ rfl
  have h3 := hg 3 _ rfl
  match cs, hl, xs, hx with
  | [c0, c1, c2, c3], _, [y0, y1, y2, y3], _ =>
    obtain ⟨n0, e0, _, _⟩ := DataW.trod_int Try.underlying3 (x := y0) (cs := [c0]) (by simpa [cells_i] using h0)
    obtain ⟨n1, e1, _, _⟩ := DataW.trod_int Try.underlying3 (x := y1) (cs := [c1]) (by simpa [cells_i] using h1)
    obtain ⟨n2, e2, _, _⟩ := DataW.trod_int Try.underlying3 (x := y2) (cs := [c2]) (by simpa [cells_i] using h2)
    obtain ⟨n3, e3, _, _⟩ := DataW.trod_int Try.underlying82 (x := y3) (cs := [c3]) (by simpa [cells_col] using h3)
    injection e0 with e0
    injection e1 with e1
    injection e2 with e2
    injection e3 with e3
    exact ⟨(n0, n1, n2, n3), by rw [e0, e1, e2, e3]; rfl, trivial⟩
set_option maxRecDepth 100000 in
theorem open_obj {fuel : Nat} {cs : List Value} {x : DataW H × List MemPlace} (h : DataW.trod enc Try.prog w base spare held fuel 37 cs = some x) : ∃ o : SObj, o.row = cs ∧ o.Ok w := by
  obtain ⟨xs, n, _, _, hl, hx, hg⟩ := DataW.trod_struct Try.underlying37 h
  rw [cells_obj] at hl
  have h0 := hg 0 _ rfl
  have h1 := hg 1 _ rfl
  have h2 := hg 2 _ rfl
  have h3 := hg 3 _ rfl
  match cs, hl, xs, hx with
  | [c0, c1, c2, c3, c4, c5, c6, c7, c8, c9, c10, c11, c12, c13, c14, c15, c16, c17, c18], _, [y0, y1, y2, y3], _ =>
    obtain ⟨n0, e0, _, _⟩ := DataW.trod_int Try.underlying3 (x := y0) (cs := [c0]) (by simpa [cells_i] using h0)
    obtain ⟨f, hf⟩ := open_mat (x := y1) (cs := [c1, c2, c3, c4, c5, c6, c7, c8, c9, c10, c11, c12, c13, c14, c15, c16]) (by simpa [cells_mat] using h1)
    obtain ⟨Lv, hv, gv⟩ := open_rows (n := 3) (Good := fun l => ∃ v : V3, vrow v = l ∧ True) Try.underlying34 cells_v3 (by omega) (fun fuel cs x h => open_v3 h) (c := c17) (x := y2) (by simpa [cells_sv] using h2)
    obtain ⟨Lt, ht, gt⟩ := open_rows (n := 4) (Good := fun l => ∃ v : T4, trow v = l ∧ True) Try.underlying35 cells_tri (by omega) (fun fuel cs x h => open_tri h) (c := c18) (x := y3) (by simpa [cells_st] using h3)
    obtain ⟨vs, rfl, _⟩ := map_form gv
    obtain ⟨ts, rfl, _⟩ := map_form gt
    injection e0 with e0
    refine ⟨{ id := n0, m := f, uv := c17, vs := vs, ut := c18, ts := ts }, ?_, hv, ht⟩
    show Value.int .i64 n0 :: (((List.range 16).map fun k => .int .i64 (f k)) ++ [c17, c18]) = _
    rw [← hf, e0]
    rfl
set_option maxRecDepth 100000 in
theorem open_scn {v : Value} {d : DataW H} {p : List MemPlace} (hv : Value.okWide Try.prog w .any base 28 v) (h : DataW.Trod enc Try.prog w 0 spare held 28 v d p) : ∃ s : Scn, v = s.V ∧ s.Ok w := by
  have hv' := hv
  simp only [Value.okWide, Try.underlying28] at hv'
  obtain ⟨cs, rfl, hs, _⟩ := hv'
  rw [cells_scn] at hs
  obtain ⟨fuel, hf⟩ := h
  obtain ⟨xs, n, _, _, hl, hx, hg⟩ := DataW.trod_struct Try.underlying28 hf
  obtain ⟨l⟩ := cs
  have h0 := hg 0 _ rfl
  have h1 := hg 1 _ rfl
  have h2 := hg 2 _ rfl
  have h3 := hg 3 _ rfl
  match l, hs, xs, hx with
  | [c0, c1, c2, c3, c4, c5, c6, c7, c8, c9, c10, c11, c12, c13, c14, c15, c16, c17, c18], _, [y0, y1, y2, y3], _ =>
    obtain ⟨n0, e0, _, _⟩ := DataW.trod_int Try.underlying3 (x := y0) (cs := [c0]) (by simpa [cells_i, Value.cells] using h0)
    obtain ⟨n1, e1, _, _⟩ := DataW.trod_int Try.underlying3 (x := y1) (cs := [c1]) (by simpa [cells_i, Value.cells] using h1)
    obtain ⟨f, hf⟩ := open_mat (x := y2) (cs := [c2, c3, c4, c5, c6, c7, c8, c9, c10, c11, c12, c13, c14, c15, c16, c17]) (by simpa [cells_mat, Value.cells] using h2)
    obtain ⟨Lo, ho, go⟩ := open_rows (n := 19) (Good := fun l => ∃ o : SObj, o.row = l ∧ o.Ok w) Try.underlying26 cells_obj (by omega) (fun fuel cs x h => open_obj h) (c := c18) (x := y3) (by simpa [cells_so, Value.cells] using h3)
    obtain ⟨os, rfl, hos⟩ := map_form go
    injection e0 with e0
    injection e1 with e1
    refine ⟨{ W := n0, H := n1, cam := f, uo := c18, os := os }, ?_, ho, hos⟩
    show _ = Value.agg (Value.int .i64 n0 :: Value.int .i64 n1 :: (((List.range 16).map fun k => .int .i64 (f k)) ++ [c18])).toArray
    rw [← hf, e0, e1]
    rfl
end
end Go.Proofs.Ytackbajbladhhaa
