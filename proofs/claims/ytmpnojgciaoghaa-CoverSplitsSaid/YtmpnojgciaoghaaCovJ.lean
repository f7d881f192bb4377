/-
  Chapter 11: Cells, the document's.
-/
import Derived.Test.YtmpnojgciaoghaaCovI
import Derived.Test.YtmpnojgciaoghaaCovL1
namespace Go.Proofs.Ytmpnojgciaoghaa
open Go.RowKit Go.Shelf
set_option linter.unusedVariables false
set_option linter.unusedSimpArgs false
attribute [local go_sem] Oper.semAt_some

abbrev Q3 := Int × Int × Int
def refM (F : Int × Int → Option Q3) (w k j : Int) : List Q3 := (pix 0 w 0 k ++ prow 0 j k).filterMap F
theorem refM_zero (F : Int × Int → Option Q3) (w k : Int) : refM F w k 0 = (pix 0 w 0 k).filterMap F := by
  unfold refM; rw [show prow 0 0 k = [] from by unfold prow; rw [irange_nil (Int.le_refl _)]; rfl, List.append_nil]
theorem refM_full (F : Int × Int → Option Q3) (w : Int) {k : Int} (hk : 0 ≤ k) : refM F w k w = (pix 0 w 0 (k + 1)).filterMap F := by
  unfold refM; rw [pix_succ hk]
theorem refM_hit {F : Int × Int → Option Q3} (w : Int) {k j : Int} {q : Q3} (hj : 0 ≤ j) (h : F (j, k) = some q) : refM F w k (j + 1) = refM F w k j ++ [q] := by
  unfold refM; rw [prow_succ hj, ← List.append_assoc, List.filterMap_append]; simp [h]
theorem refM_miss {F : Int × Int → Option Q3} (w : Int) {k j : Int} (hj : 0 ≤ j) (h : F (j, k) = none) : refM F w k (j + 1) = refM F w k j := by
  unfold refM; rw [prow_succ hj, ← List.append_assoc, List.filterMap_append]; simp [h]
theorem refM_length (F : Int × Int → Option Q3) {w k j : Int} (hw : w ≤ 64) (hk : k ≤ 63) (hj : j ≤ 64) : (refM F w k j).length ≤ 4096 := by
  unfold refM
  refine Nat.le_trans (List.length_filterMap_le _ _) ?_
  rw [List.length_append, pix_length, prow_length]
  have := Nat.mul_le_mul (show (k - 0).toNat ≤ 63 by omega) (show (w - 0).toNat ≤ 64 by omega)
  omega

def refL (a b c : C3) (w h : Int) : List Q3 := (pix 0 w 0 h).filterMap (cellOf a (shB b c (sdW a b c.x c.y)) (shC b c (sdW a b c.x c.y)) (shS (sdW a b c.x c.y)))

theorem refCells_bad (a b c : C3) (w h : Int) (W : World) (hs : sizeOk w h = false) :
    Calls Try.prog 18 #[tri a b c, .int .i64 w, .int .i64 h] W (CellsRet [] 2 W) := by
  unfold sizeOk at hs
  have hs2 := of_decide_eq_false hs
  clear hs
  go_enter Try.func18, Try.ntmps18
  go_wp2_with fail
  all_goals first | (exfalso; omega) | (go_ret2; exact ⟨_, rfl, cellsV_nil _, (Later.refl _).alloc _⟩)

set_option maxRecDepth 100000 in
set_option maxHeartbeats 2000000 in
theorem refCells_in (a b c : C3) (w ht : Int) (W : World) (m : Bool) (hm : Hid (may3 a b c = m)) (hh : 1 ≤ ht ∧ ht ≤ 64) (hw : 1 ≤ w ∧ w ≤ 64) :
    Calls Try.prog 18 #[tri a b c, .int .i64 w, .int .i64 ht] W (CellsRet (if m then refL a b c w ht else []) (if m then 0 else 110) W) := by
  have HA := Lib.hid (fun (hm : may3 a b c = true) x y hx hy (W : World) => refAt_any a b c x y W (swapOk a b c hm) hx hy)
  obtain ⟨F, hF⟩ : ∃ F, Hid (cellOf a (shB b c (sdW a b c.x c.y)) (shC b c (sdW a b c.x c.y)) (shS (sdW a b c.x c.y)) = F) := ⟨_, rfl⟩
  unfold refL
  rw [hF.out]
  obtain ⟨L, hL⟩ : ∃ L, Hid ((if m then (pix 0 w 0 ht).filterMap F else []) = L) := ⟨_, rfl⟩
  obtain ⟨N, hN⟩ : ∃ N : Int, Hid ((if m then 0 else 110) = N) := ⟨_, rfl⟩
  rw [hL.out, hN.out]
  obtain ⟨i0, hi, hz0, hz1, hz2⟩ := info_parts info_cell
  obtain ⟨hh1, hh2⟩ := hh
  obtain ⟨hw1, hw2⟩ := hw
  go_enter Try.func18, Try.ntmps18
  go_wp2_with fail
  refine (refAll_any a b c _).mono ?_
  rintro e w1 ⟨rfl, h1⟩
  rw [show (mayB a && mayB b && mayB c) = m from hm.out]
  cases m
  · obtain rfl : L = [] := hL.out.symm
    obtain rfl : N = 110 := hN.out.symm
    go_wp2
    go_ret2
    exact ⟨_, rfl, cellsV_nil _, ((Later.refl _).alloc _).trans h1⟩
  have t0 := h1.cell (b := W.heap.size) (o := 0) (by simp; rfl)
  have t1 := h1.cell (b := W.heap.size) (o := 1) (by simp; rfl)
  have t2 := h1.cell (b := W.heap.size) (o := 2) (by simp; rfl)
  have t3 := h1.cell (b := W.heap.size) (o := 3) (by simp; rfl)
  have t4 := h1.cell (b := W.heap.size) (o := 4) (by simp; rfl)
  have t5 := h1.cell (b := W.heap.size) (o := 5) (by simp; rfl)
  have t6 := h1.cell (b := W.heap.size) (o := 6) (by simp; rfl)
  have t7 := h1.cell (b := W.heap.size) (o := 7) (by simp; rfl)
  have t8 := h1.cell (b := W.heap.size) (o := 8) (by simp; rfl)
  have hLW : Later W w1 := ((Later.refl _).alloc _).trans h1
  clear h1
  go_wp2_with fail
  go_loopw [9, 10] (fun v y wr => ∃ k : Int, 0 ≤ k ∧ k ≤ ht ∧ y = .int .i64 k ∧ wr.ownsRow w1.heap.size 57 3 v (refM F w k 0).length (encs (refM F w k 0)) ∧ Later w1 wr) (fun _ y _ => (300 - intOf y).toNat)
  case atStart => exact ⟨0, by omega, by omega, rfl, by rw [refM_zero, pix_nil (Int.le_refl _)]; exact World.ownsRow_nil _ _ _ _, Later.refl _⟩
  case round =>
    obtain ⟨k, hk1, hk2, rfl, hown, hl⟩ := hrel
    by_cases hy : k < ht
    · go_wp2_with fail
      go_loopw [9, 11] (fun v x wr => ∃ j : Int, 0 ≤ j ∧ j ≤ w ∧ x = .int .i64 j ∧ wr.ownsRow w1.heap.size 57 3 v (refM F w k j).length (encs (refM F w k j)) ∧ Later w1 wr) (fun _ x _ => (300 - intOf x).toNat)
      case atStart => exact ⟨0, by omega, by omega, rfl, hown, hl⟩
      case round =>
        obtain ⟨j, hj1, hj2, rfl, hown, hl⟩ := hrel
        obtain ⟨wi, rfl⟩ : ∃ wi : World, wi = wr := ⟨_, rfl⟩
        replace t0 := hl.cell t0
        replace t1 := hl.cell t1
        replace t2 := hl.cell t2
        replace t3 := hl.cell t3
        replace t4 := hl.cell t4
        replace t5 := hl.cell t5
        replace t6 := hl.cell t6
        replace t7 := hl.cell t7
        replace t8 := hl.cell t8
        by_cases hx : j < w
        · have hlen : (refM F w k j).length ≤ 4096 := refM_length F hw2 (by omega) (by omega)
          obtain ⟨z, hz⟩ : ∃ z, Hid (tellZ a (shB b c (sdW a b c.x c.y)) (shC b c (sdW a b c.x c.y)) (shS (sdW a b c.x c.y)) j k = z) := ⟨_, rfl⟩
          obtain ⟨i, hi'⟩ : ∃ i, Hid (tellI a (shB b c (sdW a b c.x c.y)) (shC b c (sdW a b c.x c.y)) (shS (sdW a b c.x c.y)) j k = i) := ⟨_, rfl⟩
          go_wp2_with fail
          refine (HA.out hm.out j k ⟨hj1, by omega⟩ ⟨hk1, by omega⟩ _).mono ?_
          rintro e w2 ⟨rfl, h2⟩
          rw [hz.out, hi'.out]
          have hown2 := hown.kept h2.grown (Classical.em _)
          have hl2 := hl.trans h2
          cases i
          · have hF2 : F (j, k) = none := by rw [← hF.out]; unfold cellOf; rw [if_neg (by show ¬ tellI _ _ _ _ j k = true; rw [hi'.out]; simp)]
            go_wp2_with fail
            go_roundw
            case rel => exact ⟨j + 1, by omega, by omega, by go_num, by rw [refM_miss w hj1 hF2]; exact hown2, hl2⟩
            case measure => simp [intOf]; omega
          · have hF2 : F (j, k) = some (j, k, z) := by rw [← hF.out]; unfold cellOf; rw [if_pos (show tellI _ _ _ _ j k = true from hi'.out)]; show some (j, k, tellZ _ _ _ _ j k) = _; rw [hz.out]
            have hML : 4097 < maxLen := by decide
            have hsz := hl2.size
            go_wp2_with (at_builtin; refine wpList_append_own _ rfl _ _ 37 rfl w1.heap.size 57 i0 (.agg #[.int .i64 0, .int .i64 0, .int .u32 0]) 3 24 Try.underlying37 hi hz0 hz1 hz2 rfl (by decide) _ _ _ rfl (hown2.alloc _) ⟨w2.heap.size, 0, none⟩ 1 1 [.int .i64 j, .int .i64 k, .int .u32 z] rfl rfl (World.news_of_block (heap_alloc_new _ _)) (by simp [Value.oneCell']) (by omega) (by omega) (by simp; omega) ?_; intro v' w3 hown' hgrow _; have hl3 : Later w1 w3 := Below.grown (hl2.alloc _) hgrow (by simp; omega) (fun r hr => by have := (hown2.lt _ hr).1; omega))
            go_roundw
            case rel => exact ⟨j + 1, by omega, by omega, by go_num, by rw [refM_hit w hj1 hF2, encs_snoc, List.length_append]; exact hown', hl3⟩
            case measure => simp [intOf]; omega
        · obtain rfl : j = w := by omega
          go_wp2_with fail
          go_roundw
          case rel => exact ⟨k + 1, by omega, by omega, by go_num, by rw [refM_zero, ← refM_full F _ hk1]; exact hown, hl⟩
          case measure => simp [intOf]; omega
    · obtain rfl : k = ht := by omega
      obtain rfl : L = refM F w k 0 := by rw [refM_zero]; exact hL.out.symm
      obtain rfl : N = 0 := hN.out.symm
      go_wp2_with fail
      go_ret2
      exact ⟨_, rfl, cellsV_of_row hown, hLW.trans hl⟩

theorem refCells_any (a b c : C3) (w h : Int) (W : World) :
    Calls Try.prog 18 #[tri a b c, .int .i64 w, .int .i64 h] W (CellsRet (if sizeOk w h && may3 a b c then refL a b c w h else []) (cellsN (may3 a b c) w h) W) := by
  unfold cellsN
  by_cases hs : sizeOk w h = true
  · have hs2 := of_decide_eq_true hs
    obtain ⟨hw1, hw2, hh1, hh2⟩ := hs2
    rw [hs]
    have := refCells_in a b c w h W _ rfl ⟨hh1, hh2⟩ ⟨hw1, hw2⟩
    cases hm : may3 a b c <;> rw [hm] at this <;> exact this
  · rw [show sizeOk w h = false by simpa using hs]
    exact refCells_bad a b c w h W (by simpa using hs)
end Go.Proofs.Ytmpnojgciaoghaa
