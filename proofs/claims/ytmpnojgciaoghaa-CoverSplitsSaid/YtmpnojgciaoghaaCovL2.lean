/-
  CoverCells: for every input the law returns true.
-/
import Derived.Test.YtmpnojgciaoghaaCovK
import Derived.Test.YtmpnojgciaoghaaCovS
import Derived.Test.YtmpnojgciaoghaaCovL1
namespace Go.Proofs.Ytmpnojgciaoghaa
open Go.RowKit Go.Shelf
set_option linter.unusedVariables false
set_option linter.unusedSimpArgs false
attribute [local go_sem] Oper.semAt_some

theorem CellsV.later {w w' : World} {v : Value} {L : List Q3} (h : CellsV w v L) (hl : Later w w') : CellsV w' v L := by
  obtain ⟨ao, cap, he, h⟩ := h
  refine ⟨ao, cap, he, fun k hk => ?_⟩
  obtain ⟨g, e, h1, h2, h3⟩ := h k hk
  exact ⟨g, e, hl.cell h1, hl.cell h2, hl.cell h3⟩

/-- What any three corners cover of an image of any size. -/
def CL (a b c : C3) (w h : Int) : List Q3 := if sizeOk w h && may3 a b c then refL a b c w h else []
theorem CL_length (a b c : C3) (w h : Int) : (CL a b c w h).length ≤ 4096 := by
  unfold CL
  split
  · rename_i hs
    rw [Bool.and_eq_true] at hs
    have := of_decide_eq_true hs.1
    exact Nat.le_trans (List.length_filterMap_le _ _) (pix_len_le (by omega) (by omega))
  · simp
theorem covCells_CL (a b c : C3) (w h : Int) (W : World) :
    Calls Try.prog 17 #[tri a b c, .int .i64 w, .int .i64 h] W (CellsRet (CL a b c w h) (cellsN (may3 a b c) w h) W) := by
  have := covCells_any a b c w h W
  unfold CL
  by_cases hs : (sizeOk w h && may3 a b c) = true
  · rw [if_pos hs] at this ⊢
    rw [Bool.and_eq_true] at hs
    obtain ⟨hw1, hw2, hh1, hh2⟩ := of_decide_eq_true hs.1
    obtain ⟨ha, hb, hc⟩ := (may3_iff a b c).1 hs.2
    rw [covL_eq ha hb hc ⟨hw1, hw2⟩ ⟨hh1, hh2⟩] at this
    exact this
  · rw [if_neg hs] at this ⊢
    exact this

theorem coverCells_walk (a b c : C3) (x y : Int) (w : World) :
    Calls Try.prog 4 #[tri a b c, .int .i64 x, .int .i64 y] w fun e w' => e = .returned (.bool true) ∧ Later w w' := by
  obtain ⟨L, hL'⟩ : ∃ z, Hid (CL a b c x y = z) := ⟨_, rfl⟩
  have hlen := CL_length a b c x y
  rw [hL'.out] at hlen
  have H1 := Lib.hid (covCells_CL a b c x y)
  have H2 := Lib.hid (refCells_any a b c x y)
  have e2 : (if sizeOk x y && may3 a b c then refL a b c x y else []) = CL a b c x y := rfl
  rw [e2, hL'.out] at H2
  rw [hL'.out] at H1
  clear e2 hL'
  obtain ⟨s, hs⟩ : ∃ z : Int, Hid ((if may3 a b c then sdW a b c.x c.y else 0) = z) := ⟨_, rfl⟩
  obtain ⟨f, hf⟩ : ∃ z : Int, Hid ((if may3 a b c then 0 else 110) = z) := ⟨_, rfl⟩
  obtain ⟨n, hn⟩ : ∃ z, Hid (cellsN (may3 a b c) x y = z) := ⟨_, rfl⟩
  rw [hn.out] at H1 H2
  obtain ⟨m, hm⟩ : ∃ z, Hid (mayB a = z) := ⟨_, rfl⟩
  go_enter Try.func4, Try.ntmps4
  go_wp2_with fail
  refine (covArea_any a b c _).mono ?_
  rintro e w1 ⟨rfl, h1⟩
  rw [hs.out, hf.out]
  have t0 := h1.cell (b := w.heap.size) (o := 0) (by simp; rfl)
  have t1 := h1.cell (b := w.heap.size) (o := 1) (by simp; rfl)
  have t2 := h1.cell (b := w.heap.size) (o := 2) (by simp; rfl)
  have t3 := h1.cell (b := w.heap.size) (o := 3) (by simp; rfl)
  have t4 := h1.cell (b := w.heap.size) (o := 4) (by simp; rfl)
  have t5 := h1.cell (b := w.heap.size) (o := 5) (by simp; rfl)
  have t6 := h1.cell (b := w.heap.size) (o := 6) (by simp; rfl)
  have t7 := h1.cell (b := w.heap.size) (o := 7) (by simp; rfl)
  have t8 := h1.cell (b := w.heap.size) (o := 8) (by simp; rfl)
  go_wp2_with fail
  refine (refArea_any a b c _).mono ?_
  rintro e w2 ⟨rfl, h2⟩
  rw [hs.out, hf.out]
  replace t0 := h2.cell t0
  replace t1 := h2.cell t1
  replace t2 := h2.cell t2
  replace t3 := h2.cell t3
  replace t4 := h2.cell t4
  replace t5 := h2.cell t5
  replace t6 := h2.cell t6
  replace t7 := h2.cell t7
  replace t8 := h2.cell t8
  go_wp2_with fail
  refine (H1.out _).mono ?_
  rintro e w3 ⟨v1, rfl, hv1, h3⟩
  replace t0 := h3.cell t0
  replace t1 := h3.cell t1
  replace t2 := h3.cell t2
  replace t3 := h3.cell t3
  replace t4 := h3.cell t4
  replace t5 := h3.cell t5
  replace t6 := h3.cell t6
  replace t7 := h3.cell t7
  replace t8 := h3.cell t8
  go_wp2_with fail
  refine (H2.out _).mono ?_
  rintro e w4 ⟨v2, rfl, hv2, h4⟩
  replace hv1 := hv1.later h4
  replace t0 := h4.cell t0
  replace t1 := h4.cell t1
  replace t2 := h4.cell t2
  replace t3 := h4.cell t3
  replace t4 := h4.cell t4
  replace t5 := h4.cell t5
  replace t6 := h4.cell t6
  replace t7 := h4.cell t7
  replace t8 := h4.cell t8
  have hl4 : Later w w4 := ((((Later.refl _).alloc _).trans h1).trans h2).trans (h3.trans h4)
  clear h1 h2 h3 h4
  have HSame : Hid (∀ (W : World), CellsV W v1 L → CellsV W v2 L → Calls Try.prog 21 #[v1, v2] W fun e w' => e = .returned (.bool true) ∧ Later W w') := fun W h1 h2 => by
    have := same_any v1 v2 L L W h1 h2 hlen hlen
    rwa [decide_eq_true (rfl : L = L)] at this
  go_wp2_with fail
  go_region_held3 (fun W => W.cell? ⟨w.heap.size, 0, none⟩ = some (.int .i64 a.x) ∧ W.cell? ⟨w.heap.size, 1, none⟩ = some (.int .i64 a.y) ∧ W.cell? ⟨w.heap.size, 2, none⟩ = some (.int .i64 a.z) ∧ CellsV W v1 L ∧ CellsV W v2 L) ((go_split_ands; (repeat' apply And.intro) <;> first | assumption | exact (Later.refl _).drew.cell (by assumption) | exact ((Later.refl _).alloc _).cell (by assumption) | exact CellsV.later (by assumption) (Later.refl _).drew | exact cell_setCell_o (by assumption) (by omega) | exact Later.cell hL (by assumption) | exact CellsV.later (by assumption) hL)) (first | (go_at_call 19; refine (covMay_any a _).mono ?_; rintro e W0 ⟨rfl, hL⟩; have hL0 := hL; rw [hm.out]) | (go_at_call 20; refine (refMay_any a _).mono ?_; rintro e W1 ⟨rfl, hL⟩; have hL1 := hL; rw [hm.out]) | (go_at_call 21; refine (HSame.out _ (by first | assumption | exact CellsV.later (by assumption) (((Later.refl _).drew.trans hL0).trans hL1)) (by first | assumption | exact CellsV.later (by assumption) (((Later.refl _).drew.trans hL0).trans hL1))).mono ?_; rintro e W2 ⟨rfl, hL⟩; have hL2 := hL))
  go_wp2
  go_ret
  exact ⟨rfl, ((hl4.drew.trans hL0).trans hL1).trans hL2⟩
end Go.Proofs.Ytmpnojgciaoghaa
