/-
  CoverMoves: for every input the law returns true.
-/
import Derived.BigRegion
import Derived.Test.YtmpnojgciaoghaaCovN
namespace Go.Proofs.Ytmpnojgciaoghaa
open Go.RowKit Go.Shelf
set_option linter.unusedVariables false
set_option linter.unusedSimpArgs false
attribute [local go_sem] Oper.semAt_some

/-- A block of nine numbers. -/
def Tri9 (W : World) (M : Nat) (f : Nat → Int) : Prop := W.heap[M]? = some (.cells (boardN 9 f) 24 (0, 0))
theorem Tri9.cell {W : World} {M : Nat} {f : Nat → Int} (h : Tri9 W M f) {k : Nat} (hk : k < 9) : W.cell? ⟨M, k, none⟩ = some (.int .i64 (f k)) := by
  rw [cell_of_row W M k _ _ _ h]; exact boardN_get f hk
theorem Tri9.frozen {W : World} {M : Nat} {f : Nat → Int} (h : Tri9 W M f) (k : Nat) : W.frozen? ⟨M, k, none⟩ = false := by
  simp [World.frozen?, show W.heap[M]? = _ from h]
theorem Tri9.lt {W : World} {M : Nat} {f : Nat → Int} (h : Tri9 W M f) : M < W.heap.size := (Array.getElem?_eq_some_iff.1 h).1
theorem Tri9.later {W W' : World} {M : Nat} {f : Nat → Int} (h : Tri9 W M f) (hl : Later W W') : Tri9 W' M f := (hl.block M h.lt).trans h
theorem Tri9.set {W : World} {M : Nat} {f : Nat → Int} (h : Tri9 W M f) {k : Nat} (hk : k < 9) (v : Int) : Tri9 (W.setCell ⟨M, k, none⟩ (.int .i64 v)) M (fun j => if j = k then v else f j) := by
  obtain ⟨hlt, hb⟩ := Array.getElem?_eq_some_iff.1 h
  show (W.heap.modify M _)[M]? = _
  rw [Array.getElem?_eq_getElem (by rw [Array.size_modify]; exact hlt), Array.getElem_modify_self, hb]
  congr 1
  show Obj.cells ((boardN 9 f).setIfInBounds k _) _ _ = _
  congr 1
  apply Array.ext_getElem?
  intro i
  rw [Array.getElem?_setIfInBounds]
  by_cases hi : i < 9
  · rw [boardN_get _ hi, boardN_get _ hi, boardN_size]
    by_cases e : k = i
    · subst e; simp [hk]
    · rw [if_neg e, if_neg (fun e' => e e'.symm)]
  · have e : ¬ k = i := by omega
    rw [if_neg e, Array.getElem?_eq_none (by rw [boardN_size]; omega), Array.getElem?_eq_none (by rw [boardN_size]; omega)]

theorem two_sets {X1 : World} {M i j : Nat} {u v : Int} {f : Nat → Int} (h : Tri9 X1 M f) (hi : i < 9) (hj : j < 9) :
    ∃ X2 : World, X2 = ((X1.setCell ⟨M, i, none⟩ (.int .i64 u)).setCell ⟨M, j, none⟩ (.int .i64 v)).drew ∧ Tri9 X2 M (fun k => if k = j then v else if k = i then u else f k) ∧ X1.grownBy X2 (some M) := by
  refine ⟨_, rfl, (h.set hi u).set hj v, ?_⟩
  have h1 := grownBy_set X1 M i (.int .i64 u)
  have h2 := grownBy_set (X1.setCell ⟨M, i, none⟩ (.int .i64 u)) M j (.int .i64 v)
  have h3 := grown_but h1 h2 (fun r e => .inl (Option.some.inj e).symm)
  exact grown_but h3 (row := none) ⟨rfl, rfl, rfl, Nat.le_refl _, fun _ _ _ => rfl⟩ (fun r e => by cases e)

set_option maxRecDepth 100000 in
set_option maxHeartbeats 4000000 in
theorem coverMoves_walk (a b c : C3) (dx dy : Int) (hdx : 0 ≤ dx ∧ dx ≤ 255) (hdy : 0 ≤ dy ∧ dy ≤ 255) (w : World) :
    Calls Try.prog 8 #[tri a b c, .int .u8 dx, .int .u8 dy] w fun e w' => e = .returned (.bool true) ∧ Later w w' := by
  obtain ⟨m, hm⟩ : ∃ m, Hid (may3 a b c = m) := ⟨_, rfl⟩
  obtain ⟨L, hL⟩ : ∃ L, Hid (CL a b c 32 32 = L) := ⟨_, rfl⟩
  obtain ⟨n, hn⟩ : ∃ n, Hid (L.length = n) := ⟨_, rfl⟩
  obtain ⟨en, hen⟩ : ∃ n : Int, Hid ((if m then 0 else 110) = n) := ⟨_, rfl⟩
  have HL := Lib.hid (covCells_CL a b c 32 32)
  have hcn : cellsN (may3 a b c) 32 32 = if m then 0 else 110 := by rw [hm.out]; cases m <;> rfl
  rw [hL.out, hcn, hen.out] at HL
  clear hcn
  unfold tri
  go_enter Try.func8, Try.ntmps8
  go_wp2_with fail
  refine (alive_any _).mono ?_
  rintro e w1 ⟨rfl, h1⟩
  have a0 := h1.cell (b := w.heap.size) (o := 0) (v := .int .i64 a.x) (by simp)
  have a1 := h1.cell (b := w.heap.size) (o := 1) (v := .int .i64 a.y) (by simp)
  have a2 := h1.cell (b := w.heap.size) (o := 2) (v := .int .i64 a.z) (by simp)
  have a3 := h1.cell (b := w.heap.size) (o := 3) (v := .int .i64 b.x) (by simp)
  have a4 := h1.cell (b := w.heap.size) (o := 4) (v := .int .i64 b.y) (by simp)
  have a5 := h1.cell (b := w.heap.size) (o := 5) (v := .int .i64 b.z) (by simp)
  have a6 := h1.cell (b := w.heap.size) (o := 6) (v := .int .i64 c.x) (by simp)
  have a7 := h1.cell (b := w.heap.size) (o := 7) (v := .int .i64 c.y) (by simp)
  have a8 := h1.cell (b := w.heap.size) (o := 8) (v := .int .i64 c.z) (by simp)
  have hl : Later w w1 := ((Later.refl _).alloc _).trans h1
  clear h1
  go_wp2_with fail
  refine (HL.out _).mono ?_
  rintro e w2 ⟨v, rfl, ⟨ao, cap, rfl, hv⟩, h2⟩
  rw [hn.out] at hv ⊢
  replace hv := Lib.hid hv
  replace a0 := h2.cell a0
  replace a1 := h2.cell a1
  replace a2 := h2.cell a2
  replace a3 := h2.cell a3
  replace a4 := h2.cell a4
  replace a5 := h2.cell a5
  replace a6 := h2.cell a6
  replace a7 := h2.cell a7
  replace a8 := h2.cell a8
  replace hl := hl.trans h2
  go_upto_region 5 with fail
  obtain ⟨x, hx⟩ : ∃ x, Hid (dx % 32 = x) := ⟨_, rfl⟩
  obtain ⟨y, hy⟩ : ∃ y, Hid (dy % 32 = y) := ⟨_, rfl⟩
  have hxb : 0 ≤ x ∧ x ≤ 31 := by rw [← hx.out]; omega
  have hyb : 0 ≤ y ∧ y ≤ 31 := by rw [← hy.out]; omega
  rw [hx.out, hy.out]
  clear hdx hdy hx hy h2
  obtain ⟨X1, hX1⟩ : ∃ X, X = w2.alloc (.cells #[.int .i64 a.x, .int .i64 a.y, .int .i64 a.z, .int .i64 b.x, .int .i64 b.y, .int .i64 b.z, .int .i64 c.x, .int .i64 c.y, .int .i64 c.z] 24) := ⟨_, rfl⟩
  have hT : Tri9 X1 w2.heap.size (fun k => [a.x, a.y, a.z, b.x, b.y, b.z, c.x, c.y, c.z].getD k 0) := by
    unfold Tri9; rw [hX1]; exact heap_alloc_new _ _
  have hX : Later w2 X1 := by rw [hX1]; exact (Later.refl _).alloc _
  rw [← hX1]
  obtain ⟨M, hM⟩ : ∃ M, Hid (w2.heap.size = M) := ⟨_, rfl⟩
  have hlM := hl.size
  have hwM := cell_lt a8
  rw [hM.out] at hT hwM hlM ⊢
  replace a0 := hX.cell a0
  replace a1 := hX.cell a1
  replace a2 := hX.cell a2
  replace a3 := hX.cell a3
  replace a4 := hX.cell a4
  replace a5 := hX.cell a5
  replace a6 := hX.cell a6
  replace a7 := hX.cell a7
  replace a8 := hX.cell a8
  replace hl := hl.trans hX
  have hMX := hT.lt
  have hk := hX
  have hM2 : w2.heap.size ≤ M := Nat.le_of_eq hM.out
  clear hX hX1
  obtain ⟨ax, hax⟩ : ∃ z, Hid (wrap64 (a.x + 16 * x) = z) := ⟨_, rfl⟩
  obtain ⟨ay, hay⟩ : ∃ z, Hid (wrap64 (a.y + 16 * y) = z) := ⟨_, rfl⟩
  obtain ⟨bx, hbx⟩ : ∃ z, Hid (wrap64 (b.x + 16 * x) = z) := ⟨_, rfl⟩
  obtain ⟨by', hby⟩ : ∃ z, Hid (wrap64 (b.y + 16 * y) = z) := ⟨_, rfl⟩
  obtain ⟨cx, hcx⟩ : ∃ z, Hid (wrap64 (c.x + 16 * x) = z) := ⟨_, rfl⟩
  obtain ⟨cy, hcy⟩ : ∃ z, Hid (wrap64 (c.y + 16 * y) = z) := ⟨_, rfl⟩
  obtain ⟨m0, hm0⟩ : ∃ m, Hid (mayB ⟨ax, ay, a.z⟩ = m) := ⟨_, rfl⟩
  obtain ⟨m1, hm1⟩ : ∃ m, Hid (mayB ⟨bx, by', b.z⟩ = m) := ⟨_, rfl⟩
  obtain ⟨m2, hm2⟩ : ∃ m, Hid (mayB ⟨cx, cy, c.z⟩ = m) := ⟨_, rfl⟩
  have M0 := Lib.hid (covMay_any ⟨ax, ay, a.z⟩)
  have M1 := Lib.hid (covMay_any ⟨bx, by', b.z⟩)
  have M2 := Lib.hid (covMay_any ⟨cx, cy, c.z⟩)
  rw [hm0.out] at M0
  rw [hm1.out] at M1
  rw [hm2.out] at M2
  go_wp2_with fail
  refine wp_loop_rounds 4 ?_
  rw [rounds_succ]
  have t0 : (X1).cell? ⟨M, 0, none⟩ = some (.int .i64 a.x) := hT.cell (k := 0) (by omega)
  have t1 : (X1).cell? ⟨M, 1, none⟩ = some (.int .i64 a.y) := hT.cell (k := 1) (by omega)
  have t2 : (X1).cell? ⟨M, 2, none⟩ = some (.int .i64 a.z) := hT.cell (k := 2) (by omega)
  have f0 := hT.frozen 0
  have f1 := hT.frozen 1
  go_upto_region 8 with fail
  go_region
  rw [hax.out, hay.out]
  obtain ⟨X2, hXn, hTn, hg⟩ := two_sets (i := 0) (j := 1) (u := ax) (v := ay) hT (by omega) (by omega)
  rw [← hXn]
  replace a0 := grown_cell hg a0 (by omega)
  replace a1 := grown_cell hg a1 (by omega)
  replace a2 := grown_cell hg a2 (by omega)
  replace a3 := grown_cell hg a3 (by omega)
  replace a4 := grown_cell hg a4 (by omega)
  replace a5 := grown_cell hg a5 (by omega)
  replace a6 := grown_cell hg a6 (by omega)
  replace a7 := grown_cell hg a7 (by omega)
  replace a8 := grown_cell hg a8 (by omega)
  replace hl := grown_later hl hg (by omega)
  replace hk := grown_later hk hg hM2
  clear t0 t1 t2 f0 f1 hXn hg hT
  have hT := hTn
  clear hTn
  have t0 : (X2).cell? ⟨M, 0, none⟩ = some (.int .i64 ax) := hT.cell (k := 0) (by omega)
  have t1 : (X2).cell? ⟨M, 1, none⟩ = some (.int .i64 ay) := hT.cell (k := 1) (by omega)
  have t2 : (X2).cell? ⟨M, 2, none⟩ = some (.int .i64 a.z) := hT.cell (k := 2) (by omega)
  go_wp2_with fail
  refine (M0.out _).mono ?_
  rintro e w3 ⟨rfl, h2⟩
  replace a0 := h2.cell a0
  replace a1 := h2.cell a1
  replace a2 := h2.cell a2
  replace a3 := h2.cell a3
  replace a4 := h2.cell a4
  replace a5 := h2.cell a5
  replace a6 := h2.cell a6
  replace a7 := h2.cell a7
  replace a8 := h2.cell a8
  replace hl := hl.trans h2
  replace hk := hk.trans h2
  replace hT := hT.later h2
  clear h2 t0 t1 t2
  cases m0
  · go_wp2_with fail
    go_ret
    exact ⟨rfl, hl⟩
  go_wp2_with fail
  rw [rounds_succ]
  as_aux_lemma =>
    have t0 : (w3).cell? ⟨M, 3, none⟩ = some (.int .i64 b.x) := hT.cell (k := 3) (by omega)
    have t1 : (w3).cell? ⟨M, 4, none⟩ = some (.int .i64 b.y) := hT.cell (k := 4) (by omega)
    have t2 : (w3).cell? ⟨M, 5, none⟩ = some (.int .i64 b.z) := hT.cell (k := 5) (by omega)
    have f0 := hT.frozen 3
    have f1 := hT.frozen 4
    go_upto_region 8 with fail
    go_region
    rw [hbx.out, hby.out]
    obtain ⟨X3, hXn, hTn, hg⟩ := two_sets (i := 3) (j := 4) (u := bx) (v := by') hT (by omega) (by omega)
    rw [← hXn]
    replace a0 := grown_cell hg a0 (by omega)
    replace a1 := grown_cell hg a1 (by omega)
    replace a2 := grown_cell hg a2 (by omega)
    replace a3 := grown_cell hg a3 (by omega)
    replace a4 := grown_cell hg a4 (by omega)
    replace a5 := grown_cell hg a5 (by omega)
    replace a6 := grown_cell hg a6 (by omega)
    replace a7 := grown_cell hg a7 (by omega)
    replace a8 := grown_cell hg a8 (by omega)
    replace hl := grown_later hl hg (by omega)
    replace hk := grown_later hk hg hM2
    clear t0 t1 t2 f0 f1 hXn hg hT
    have hT := hTn
    clear hTn
    have t0 : (X3).cell? ⟨M, 3, none⟩ = some (.int .i64 bx) := hT.cell (k := 3) (by omega)
    have t1 : (X3).cell? ⟨M, 4, none⟩ = some (.int .i64 by') := hT.cell (k := 4) (by omega)
    have t2 : (X3).cell? ⟨M, 5, none⟩ = some (.int .i64 b.z) := hT.cell (k := 5) (by omega)
    go_wp2_with fail
    refine (M1.out _).mono ?_
    rintro e w4 ⟨rfl, h2⟩
    replace a0 := h2.cell a0
    replace a1 := h2.cell a1
    replace a2 := h2.cell a2
    replace a3 := h2.cell a3
    replace a4 := h2.cell a4
    replace a5 := h2.cell a5
    replace a6 := h2.cell a6
    replace a7 := h2.cell a7
    replace a8 := h2.cell a8
    replace hl := hl.trans h2
    replace hk := hk.trans h2
    replace hT := hT.later h2
    clear h2 t0 t1 t2
    cases m1
    · go_wp2_with fail
      go_ret
      exact ⟨rfl, hl⟩
    go_wp2_with fail
    rw [rounds_succ]
    as_aux_lemma =>
      have t0 : (w4).cell? ⟨M, 6, none⟩ = some (.int .i64 c.x) := hT.cell (k := 6) (by omega)
      have t1 : (w4).cell? ⟨M, 7, none⟩ = some (.int .i64 c.y) := hT.cell (k := 7) (by omega)
      have t2 : (w4).cell? ⟨M, 8, none⟩ = some (.int .i64 c.z) := hT.cell (k := 8) (by omega)
      have f0 := hT.frozen 6
      have f1 := hT.frozen 7
      go_upto_region 8 with fail
      go_region
      rw [hcx.out, hcy.out]
      obtain ⟨X4, hXn, hTn, hg⟩ := two_sets (i := 6) (j := 7) (u := cx) (v := cy) hT (by omega) (by omega)
      rw [← hXn]
      replace a0 := grown_cell hg a0 (by omega)
      replace a1 := grown_cell hg a1 (by omega)
      replace a2 := grown_cell hg a2 (by omega)
      replace a3 := grown_cell hg a3 (by omega)
      replace a4 := grown_cell hg a4 (by omega)
      replace a5 := grown_cell hg a5 (by omega)
      replace a6 := grown_cell hg a6 (by omega)
      replace a7 := grown_cell hg a7 (by omega)
      replace a8 := grown_cell hg a8 (by omega)
      replace hl := grown_later hl hg (by omega)
      replace hk := grown_later hk hg hM2
      clear t0 t1 t2 f0 f1 hXn hg hT
      have hT := hTn
      clear hTn
      have t0 : (X4).cell? ⟨M, 6, none⟩ = some (.int .i64 cx) := hT.cell (k := 6) (by omega)
      have t1 : (X4).cell? ⟨M, 7, none⟩ = some (.int .i64 cy) := hT.cell (k := 7) (by omega)
      have t2 : (X4).cell? ⟨M, 8, none⟩ = some (.int .i64 c.z) := hT.cell (k := 8) (by omega)
      go_wp2_with fail
      refine (M2.out _).mono ?_
      rintro e w5 ⟨rfl, h2⟩
      replace a0 := h2.cell a0
      replace a1 := h2.cell a1
      replace a2 := h2.cell a2
      replace a3 := h2.cell a3
      replace a4 := h2.cell a4
      replace a5 := h2.cell a5
      replace a6 := h2.cell a6
      replace a7 := h2.cell a7
      replace a8 := h2.cell a8
      replace hl := hl.trans h2
      replace hk := hk.trans h2
      replace hT := hT.later h2
      clear h2 t0 t1 t2
      cases m2
      · go_wp2_with fail
        go_ret
        exact ⟨rfl, hl⟩
      go_wp2_with fail
      rw [rounds_succ]
      have e1 : may3 ⟨ax, ay, a.z⟩ ⟨bx, by', b.z⟩ ⟨cx, cy, c.z⟩ = true := by unfold may3; rw [hm0.out, hm1.out, hm2.out]; rfl
      obtain ⟨L2, hL2⟩ : ∃ L2, Hid (CL ⟨ax, ay, a.z⟩ ⟨bx, by', b.z⟩ ⟨cx, cy, c.z⟩ 64 64 = L2) := ⟨_, rfl⟩
      obtain ⟨n2, hn2⟩ : ∃ n, Hid (L2.length = n) := ⟨_, rfl⟩
      have HM := Lib.hid (covCells_CL ⟨ax, ay, a.z⟩ ⟨bx, by', b.z⟩ ⟨cx, cy, c.z⟩ 64 64)
      rw [hL2.out, e1, show cellsN true 64 64 = 0 from by decide] at HM
      have u0 : w5.cell? ⟨M, 0, none⟩ = some (.int .i64 ax) := hT.cell (k := 0) (by omega)
      have u1 : w5.cell? ⟨M, 1, none⟩ = some (.int .i64 ay) := hT.cell (k := 1) (by omega)
      have u2 : w5.cell? ⟨M, 2, none⟩ = some (.int .i64 a.z) := hT.cell (k := 2) (by omega)
      have u3 : w5.cell? ⟨M, 3, none⟩ = some (.int .i64 bx) := hT.cell (k := 3) (by omega)
      have u4 : w5.cell? ⟨M, 4, none⟩ = some (.int .i64 by') := hT.cell (k := 4) (by omega)
      have u5 : w5.cell? ⟨M, 5, none⟩ = some (.int .i64 b.z) := hT.cell (k := 5) (by omega)
      have u6 : w5.cell? ⟨M, 6, none⟩ = some (.int .i64 cx) := hT.cell (k := 6) (by omega)
      have u7 : w5.cell? ⟨M, 7, none⟩ = some (.int .i64 cy) := hT.cell (k := 7) (by omega)
      have u8 : w5.cell? ⟨M, 8, none⟩ = some (.int .i64 c.z) := hT.cell (k := 8) (by omega)
      clear hT M0 M1 M2
      as_aux_lemma =>
        go_wp2_with fail
        refine (HM.out _).mono ?_
        rintro e w6 ⟨v2, rfl, ⟨bo, cap2, rfl, hv2⟩, h2⟩
        rw [hn2.out] at hv2 ⊢
        replace hv2 := Lib.hid hv2
        replace a0 := h2.cell a0
        replace a1 := h2.cell a1
        replace a2 := h2.cell a2
        replace a3 := h2.cell a3
        replace a4 := h2.cell a4
        replace a5 := h2.cell a5
        replace a6 := h2.cell a6
        replace a7 := h2.cell a7
        replace a8 := h2.cell a8
        replace hl := hl.trans h2
        replace hk := hk.trans h2
        clear h2 u0 u1 u2 u3 u4 u5 u6 u7 u8 HM
        cases m
        · obtain rfl : en = 110 := hen.out.symm
          go_wp2_with fail
          refine (refAll_any a b c _).mono ?_
          rintro e w7 ⟨rfl, h2⟩
          rw [show (mayB a && mayB b && mayB c) = false from hm.out]
          go_wp2_with fail
          go_ret
          exact ⟨rfl, hl.trans h2⟩
        clear a0 a1 a2 a3 a4 a5 a6 a7 a8
        obtain rfl : en = 0 := hen.out.symm
        obtain ⟨hma, hmb, hmc⟩ := (may3_iff a b c).1 hm.out
        have hbds := hma
        have hmv : Hid (L2.filter (inB x y) = L.map (sh x y)) := by
          have ea : (⟨ax, ay, a.z⟩ : C3) = mv x y a := by
            unfold MayP at hma; unfold mv; rw [← hax.out, ← hay.out, w64 (by omega) (by omega), w64 (by omega) (by omega)]
          have eb : (⟨bx, by', b.z⟩ : C3) = mv x y b := by
            unfold MayP at hmb; unfold mv; rw [← hbx.out, ← hby.out, w64 (by omega) (by omega), w64 (by omega) (by omega)]
          have ec : (⟨cx, cy, c.z⟩ : C3) = mv x y c := by
            unfold MayP at hmc; unfold mv; rw [← hcx.out, ← hcy.out, w64 (by omega) (by omega), w64 (by omega) (by omega)]
          rw [ea, eb, ec] at e1
          rw [← hL2.out, ea, eb, ec, ← hL.out]
          exact moves_list hxb hyb hm.out e1
        have hbd2 : Hid (∀ q ∈ L2, 0 ≤ q.1 ∧ q.1 ≤ 63 ∧ 0 ≤ q.2.1 ∧ q.2.1 ≤ 63) := by
          rw [← hL2.out]; intro q hq; have := CL64_bd hq; omega
        have hbd : Hid (∀ q ∈ L, 0 ≤ q.1 ∧ q.1 ≤ 31 ∧ 0 ≤ q.2.1 ∧ q.2.1 ≤ 31) := by
          rw [← hL.out]; intro q hq; have := (CL_mem rfl hm.out q).1 hq; omega
        have hlen2 : n2 ≤ 4096 := by rw [← hn2.out, ← hL2.out]; exact CL_length _ _ _ _ _
        clear hL2 hL hax hay hbx hby hcx hcy e1 hm0 hm1 hm2 hm hma hmb hmc hbds hen
        go_wp2_with fail
        go_loopw [16, 88] (fun q z wr => ∃ j : Nat, j ≤ n2 ∧ z = .int .i64 j ∧ q = .int .i64 (flt (inB x y) L2 j) ∧ Later w6 wr) (fun _ z _ => (5000 - intOf z).toNat)
        case atStart => exact ⟨0, by omega, rfl, rfl, Later.refl _⟩
        case round =>
          obtain ⟨j, hj, rfl, rfl, hr⟩ := hrel
          obtain ⟨wo, rfl⟩ : ∃ wo : World, wo = wr := ⟨_, rfl⟩
          by_cases hjn : j < n2
          · have hjL : j < L2.length := by rw [hn2.out]; exact hjn
            obtain ⟨g, rfl, q0, q1, q2⟩ := hv2.out j hjn
            rw [Nat.mul_comm 3 j] at q0 q1 q2
            have hfm := fun h => flt_miss (P := inB x y) hjL h
            have hfh := fun h => moves_hit hmv.out hjL h
            have hqb := hbd2.out (L2.getD j (0, 0, 0)) (by rw [List.getD_eq_getElem?_getD, List.getElem?_eq_getElem hjL]; exact List.getElem_mem _)
            rcases hq : L2.getD j (0, 0, 0) with ⟨qx, qy, qz⟩
            rw [hq] at q0 q1 q2 hfm hfh hqb
            dsimp only at q0 q1 q2 hqb
            replace q0 := hr.cell q0
            replace q1 := hr.cell q1
            replace q2 := hr.cell q2
            obtain ⟨k, hkk⟩ : ∃ k, Hid (flt (inB x y) L2 j = k) := ⟨_, rfl⟩
            have hk4 : k ≤ 4096 := by have := flt_le (inB x y) L2 j; rw [hkk.out, hn2.out] at this; omega
            rw [hkk.out] at hfm hfh ⊢
            clear hkk hq
            by_cases hb : inB x y (qx, qy, qz) = true
            · obtain ⟨f1, f2, f3⟩ := hfh hb
              have hb2 : x ≤ qx ∧ y ≤ qy ∧ qx < x + 32 ∧ qy < y + 32 := of_decide_eq_true hb
              clear hb
              rcases hp : L.getD k (0, 0, 0) with ⟨px, py, pz⟩
              have hpb := hbd.out (L.getD k (0, 0, 0)) (by rw [List.getD_eq_getElem?_getD, List.getElem?_eq_getElem f2]; exact List.getElem_mem _)
              rw [hn.out] at f2
              obtain ⟨g2, rfl, p0, p1, p2⟩ := hv.out k f2
              rw [Nat.mul_comm 3 k] at p0 p1 p2
              rw [hp] at p0 p1 p2 hpb f3
              replace p0 := hr.cell (hk.cell p0)
              replace p1 := hr.cell (hk.cell p1)
              replace p2 := hr.cell (hk.cell p2)
              dsimp only at p0 p1 p2 hpb
              unfold sh at f3
              dsimp only at f3
              injection f3 with f4 f5
              injection f5 with f5 f6
              subst f6
              have g4 : wrap64 (px + x) = qx := by rw [w64 (by omega) (by omega)]; exact f4
              have g5 : wrap64 (py + y) = qy := by rw [w64 (by omega) (by omega)]; exact f5
              clear hfm hfh hp
              replace f1 := Lib.hid f1
              obtain ⟨c1, c2, c3, c4⟩ := hb2
              obtain ⟨pb1, pb2, pb3, pb4⟩ := hpb
              clear hqb
              as_aux_lemma =>
                have hge : ¬ ((n : Int) ≤ (k : Int)) := by omega
                have hge2 : decide ((n : Int) ≤ (k : Int)) = false := decide_eq_false hge
                have hge3 : (k : Int) < (n : Int) := by omega
                have hge4 : decide (n ≤ k) = false := decide_eq_false (by omega)
                have hw1 : IntKind.i64.wrap qx = qx := by rw [IntKind.wrap_i64]; omega
                have hw2 : IntKind.i64.wrap qy = qy := by rw [IntKind.wrap_i64]; omega
                go_wp2_with fail
                go_quiet (fail)
                go_wp2_with fail
                exact ⟨⟨j + 1, by omega, by go_num, int_v (by rw [f1.out]; go_num), hr.drewN _⟩, by simp [intOf]; omega⟩
            · have hb : inB x y (qx, qy, qz) = false := by simpa using hb
              have f1 := hfm hb
              have hb2 : ¬ (x ≤ qx ∧ y ≤ qy ∧ qx < x + 32 ∧ qy < y + 32) := of_decide_eq_false hb
              clear hb
              clear hfm hfh
              replace f1 := Lib.hid f1
              by_cases c1 : qx < x
              · go_wp2_with fail
                go_roundw
                case rel => exact ⟨j + 1, by omega, by go_num, int_v (by rw [f1.out]), hr⟩
                case measure => simp [intOf]; omega
              by_cases c2 : qy < y
              · go_wp2_with fail
                go_roundw
                case rel => exact ⟨j + 1, by omega, by go_num, int_v (by rw [f1.out]), hr⟩
                case measure => simp [intOf]; omega
              by_cases c3 : x + 32 ≤ qx
              · go_wp2_with fail
                go_roundw
                case rel => exact ⟨j + 1, by omega, by go_num, int_v (by rw [f1.out]), hr⟩
                case measure => simp [intOf]; omega
              have c4 : y + 32 ≤ qy := by omega
              go_wp2_with fail
              go_roundw
              case rel => exact ⟨j + 1, by omega, by go_num, int_v (by rw [f1.out]), hr⟩
              case measure => simp [intOf]; omega
          · obtain rfl : j = n2 := by omega
            have hend := moves_end hmv.out
            rw [hn2.out, hn.out] at hend
            rw [hend]
            go_wp2_with fail
            go_ret
            exact ⟨rfl, hl.trans hr⟩
end Go.Proofs.Ytmpnojgciaoghaa
