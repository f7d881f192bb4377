/-
  Chapter 21's document: a piece is read.
-/
import Derived.Test.YtjelfiljebamgaaPcP
import Derived.Test.YtjelfiljebamgaaPcD
namespace Go.Proofs.Ytjelfiljebamgaa
open Go.RowKit Go.Shelf
set_option linter.unusedVariables false
set_option linter.unusedSimpArgs false
attribute [local go_sem] Oper.semAt_some

theorem heap_set4 {W : World} {q : Nat} {c : Array Value} {t : TypeId} (h : W.heap[q]? = some (.cells c t (0, 0))) (k : Nat) (u : Value) : (W.setCell ⟨q, k, none⟩ u).heap[q]? = some (.cells (c.setIfInBounds k u) t (0, 0)) := by
  obtain ⟨hlt, hk⟩ := Array.getElem?_eq_some_iff.1 h
  show (W.heap.modify q _)[q]? = _
  rw [Array.getElem?_eq_getElem (by rw [Array.size_modify]; exact hlt), Array.getElem_modify_self, hk]
  simp
theorem RrB.other {W : World} {p a c : Nat} {v : Value} {L : List Int} {lost : Bool} (h : RrB W p v L a lost) (hc : c ≠ p) (hv : In v (· ≠ c)) (k : Nat) (u : Value) : RrB (W.setCell ⟨c, k, none⟩ u) p v L a lost :=
  ⟨(Below.heap_setCell _ _ _ p (Ne.symm hc)).trans h.head, h.val.stay hv (fun g hg _ => Below.heap_setCell _ _ _ g hg), h.ne, h.le⟩
theorem r5a {b : List Int} (p : Nat) (v : Value) (w : World) (h : RrB w p v b 0 false) (hb : b.length ≤ 1000000) :
    Calls Try.prog 55 #[wp p] w fun e w' => e = .returned (.int .u64 (rd1 b).1) ∧ Took05 p v b (rd1 b) w w' := ruint05_any p v b 0 false w h hb
theorem r5b {b : List Int} {R : Nat × List Int × Bool} (p : Nat) (v : Value) (a : Nat) (w : World) (h : RrB w p v b a R.2.2) (hd : b.drop a = R.2.1) (hb : b.length ≤ 1000000) :
    Calls Try.prog 56 #[wp p, .int .i64 4095] w fun e w' => e = .returned (.int .i64 (rU 4095 R.2.1 R.2.2).1) ∧ Took05 p v b (rU 4095 R.2.1 R.2.2) w w' := by
  have := rsmall05_any p 4095 v b a R.2.2 w h (by omega) hb
  rw [hd] at this; exact this
theorem r5c {b : List Int} {R : Nat × List Int × Bool} (p : Nat) (v : Value) (a : Nat) (w : World) (h : RrB w p v b a R.2.2) (hd : b.drop a = R.2.1) (hb : b.length ≤ 1000000) :
    Calls Try.prog 57 #[wp p, .int .i64 880] w fun e w' => ∃ u, e = .returned u ∧ TookT05 p v b (rT 880 R.2.1 R.2.2) w u w' := by
  have := rtext05_any p 880 v b a R.2.2 w h (by omega) hb
  rw [hd] at this; exact this
theorem r5d {b : List Int} {R : List Int × List Int × Bool} (p : Nat) (v : Value) (a : Nat) (w : World) (h : RrB w p v b a R.2.2) (hd : b.drop a = R.2.1) (hb : b.length ≤ 1000000) :
    Calls Try.prog 58 #[wp p] w fun e w' => e = .returned (.int .i64 (rE R.2.1 R.2.2)) ∧ Later w w' := by
  have := rend05_any p v b a R.2.2 w h hb
  rw [hd] at this; exact this
set_option maxRecDepth 100000 in
theorem read21_yes (u : Value) (b : List Int) (W : World) (hu : BytV W u b) (hb : b.length ≤ 1000000) (hok : RdOk b) :
    Calls Try.prog 14 #[u] W fun e w' => ∃ uD, e = .returned (.tuple #[pcV (rd1 b).1 (rd3 b).1 (((rd2 b).1 : Int) + 1) uD, .int .i64 0]) ∧ w'.ownsRow W.heap.size 5 1 uD (rd4 b).1.length (encB (rd4 b).1) ∧ Later W w' := by
  unfold RdOk at hok
  have H1 := Lib.hid (fun p v w h => r5a (b := b) p v w h hb)
  have H2 := Lib.hid (fun p v a w h hd => r5b (R := rd1 b) (b := b) p v a w h hd hb)
  have H3 := Lib.hid (fun p v a w h hd => r5b (R := rd2 b) (b := b) p v a w h hd hb)
  have H4 := Lib.hid (fun p v a w h hd => r5c (R := rd3 b) (b := b) p v a w h hd hb)
  have H5 := Lib.hid (fun p v a w h hd => r5d (R := rd4 b) (b := b) p v a w h hd hb)
  have hlo := rU_le 4095 (rd1 b).2.1 (rd1 b).2.2
  have hlo3 := rU_le 4095 (rd2 b).2.1 (rd2 b).2.2
  rw [show rU 4095 (rd1 b).2.1 (rd1 b).2.2 = rd2 b from rfl] at H2 hlo
  rw [show rU 4095 (rd2 b).2.1 (rd2 b).2.2 = rd3 b from rfl] at H3 hlo3
  rw [show rT 880 (rd3 b).2.1 (rd3 b).2.2 = rd4 b from rfl] at H4
  have hD4 : Byt (rd4 b).1 := rT_byt _ _ _ (rU_byt _ _ _ (rU_byt _ _ _ (rU_byt _ _ _ hu.1)))
  obtain ⟨R1, hR1⟩ : ∃ R, rd1 b = R := ⟨_, rfl⟩
  obtain ⟨R2, hR2⟩ : ∃ R, rd2 b = R := ⟨_, rfl⟩
  obtain ⟨R3, hR3⟩ : ∃ R, rd3 b = R := ⟨_, rfl⟩
  obtain ⟨R4, hR4⟩ : ∃ R, rd4 b = R := ⟨_, rfl⟩
  rw [hR1, hR2, hR3, hR4] at hok
  rw [hR1] at H1 H2
  rw [hR2] at H2 H3 hlo
  rw [hR3] at H3 H4 hlo3
  rw [hR4] at H4 H5 hD4
  first | rw [hR1, hR2, hR3, hR4] | skip
  clear hR1 hR2 hR3 hR4
  obtain ⟨i, L1, b1⟩ := R1
  obtain ⟨o, L2, b2⟩ := R2
  obtain ⟨a, L3, b3⟩ := R3
  obtain ⟨D, L4, b4⟩ := R4
  dsimp only at H1 H2 H3 H4 H5 hlo hlo3 hok hD4 ⊢
  obtain ⟨I, hI⟩ : ∃ I : Int, Hid ((i : Int) = I) := ⟨_, rfl⟩
  rw [hI.out] at H1 hok
  first | rw [hI.out] | skip
  obtain ⟨ao, cap, hue⟩ := bytV_form hu
  have hult := Lib.hid hu.lt
  have hu := Lib.hid hu
  obtain ⟨n, hn⟩ : ∃ n, Hid (b.length = n) := ⟨_, rfl⟩
  rw [hn.out] at hue
  subst hue
  go_enter Try.func14, Try.ntmps14
  go_upto_region 3 with fail
  obtain ⟨X0, hX0⟩ : ∃ X, X = ((W.alloc (.cells #[.int .u64 0, .int .i64 0, .int .i64 0, .slice none 0 0] 25)).alloc (.cells #[.slice ao n cap, .int .i64 0, .bool false] 115)).alloc (.cells #[.int .u64 0, .int .i64 0, .int .i64 0, .slice none 0 0] 25) := ⟨_, rfl⟩
  have hl0 : Later W X0 := by rw [hX0]; exact (((Later.refl _).alloc _).alloc _).alloc _
  have z0 : X0.heap[W.heap.size]? = some (.cells #[.int .u64 0, .int .i64 0, .int .i64 0, .slice none 0 0] 25 (0, 0)) := by rw [hX0]; exact push_old (push_old (heap_alloc_new _ _))
  have q0 : X0.heap[W.heap.size + 1]? = some (.cells #[.slice ao n cap, .int .i64 0, .bool false] 115 (0, 0)) := by rw [hX0]; exact push_old (push_new _ _ (by simp))
  have c0 : X0.heap[W.heap.size + 1 + 1]? = some (.cells #[.int .u64 0, .int .i64 0, .int .i64 0, .slice none 0 0] 25 (0, 0)) := by rw [hX0]; exact push_new _ _ (by simp)
  rw [← hX0]
  clear hX0
  obtain ⟨z, hz⟩ : ∃ z, Hid (W.heap.size = z) := ⟨_, rfl⟩
  obtain ⟨q, hq⟩ : ∃ q, Hid (z + 1 = q) := ⟨_, rfl⟩
  obtain ⟨c, hc⟩ : ∃ c, Hid (q + 1 = c) := ⟨_, rfl⟩
  simp only [hz.out, hq.out, hc.out] at z0 q0 c0 hult ⊢
  have hzq : z < q := by have := hq.out; omega
  have hqc : q < c := by have := hc.out; omega
  have hqz : z ≤ q := Nat.le_of_lt hzq
  have hqW : W.heap.size ≤ q := by rw [hz.out]; exact hqz
  have hcW : W.heap.size ≤ c := by rw [hz.out]; omega
  have nqc : c ≠ q := by omega
  have nzc : c ≠ z := by omega
  have nzq : z ≠ q := by omega
  have hinc : In (.slice ao n cap) (· ≠ c) := hult.out.mono (fun g hg => by have hg : g < z := hg; omega)
  have hinq : In (.slice ao n cap) (· ≠ q) := hult.out.mono (fun g hg => by have hg : g < z := hg; omega)
  have r0 : RrB X0 q (.slice ao n cap) b 0 false := ⟨q0, hu.out.later hl0, hinq, Nat.zero_le _⟩
  clear q0 hq hc hu hult
  have k0 : X0.cell? ⟨c, 0, none⟩ = some (.int .u64 0) := cell_of_row X0 c 0 _ _ _ c0
  go_wp2_with fail
  refine (H1.out _ _ _ r0).mono ?_
  rintro e w1 ⟨rfl, ⟨a1, r1, hd1⟩, g1⟩
  dsimp only at r1 hd1
  replace c0 := (g1.block c (Array.getElem?_eq_some_iff.1 c0).1 (fun e => nqc (Option.some.inj e))).trans c0
  replace z0 := (g1.block z (Array.getElem?_eq_some_iff.1 z0).1 (fun e => nzq (Option.some.inj e))).trans z0
  replace hl0 := (rw_step hl0 g1 hqW).setCell (p := ⟨c, 0, none⟩) hcW (.int .u64 I)
  have kc := cell_of_row w1 c 0 _ _ _ c0
  have kf := frozen_row c0 0
  simp only [List.getElem?_toArray, List.getElem?_cons_zero, List.getElem?_cons_succ] at kc
  replace z0 := (Below.heap_setCell w1 ⟨c, 0, none⟩ (.int .u64 I) z (Ne.symm nzc)).trans z0
  replace c0 := heap_set4 c0 0 (.int .u64 I)
  simp only [List.setIfInBounds_toArray, List.set_cons_zero, List.set_cons_succ] at c0
  clear g1
  replace r1 := r1.other nqc hinc 0 (.int .u64 I)
  clear r0 H1
  go_wp2_with fail
  refine (H2.out _ _ _ _ r1 hd1).mono ?_
  rintro e w2 ⟨rfl, ⟨a2, r2, hd2⟩, g2⟩
  dsimp only at r2 hd2
  replace c0 := (g2.block c (Array.getElem?_eq_some_iff.1 c0).1 (fun e => nqc (Option.some.inj e))).trans c0
  replace z0 := (g2.block z (Array.getElem?_eq_some_iff.1 z0).1 (fun e => nzq (Option.some.inj e))).trans z0
  replace hl0 := (rw_step hl0 g2 hqW).setCell (p := ⟨c, 2, none⟩) hcW (.int .i64 ((o : Int) + 1))
  have kc := cell_of_row w2 c 2 _ _ _ c0
  have kf := frozen_row c0 2
  simp only [List.getElem?_toArray, List.getElem?_cons_zero, List.getElem?_cons_succ] at kc
  replace z0 := (Below.heap_setCell w2 ⟨c, 2, none⟩ (.int .i64 ((o : Int) + 1)) z (Ne.symm nzc)).trans z0
  replace c0 := heap_set4 c0 2 (.int .i64 ((o : Int) + 1))
  simp only [List.setIfInBounds_toArray, List.set_cons_zero, List.set_cons_succ] at c0
  clear g2
  replace r2 := r2.other nqc hinc 2 (.int .i64 ((o : Int) + 1))
  clear r1 hd1 H2
  go_wp2_with fail
  refine (H3.out _ _ _ _ r2 hd2).mono ?_
  rintro e w3 ⟨rfl, ⟨a3, r3, hd3⟩, g3⟩
  dsimp only at r3 hd3
  replace c0 := (g3.block c (Array.getElem?_eq_some_iff.1 c0).1 (fun e => nqc (Option.some.inj e))).trans c0
  replace z0 := (g3.block z (Array.getElem?_eq_some_iff.1 z0).1 (fun e => nzq (Option.some.inj e))).trans z0
  replace hl0 := (rw_step hl0 g3 hqW).setCell (p := ⟨c, 1, none⟩) hcW (.int .i64 a)
  have kc := cell_of_row w3 c 1 _ _ _ c0
  have kf := frozen_row c0 1
  simp only [List.getElem?_toArray, List.getElem?_cons_zero, List.getElem?_cons_succ] at kc
  replace z0 := (Below.heap_setCell w3 ⟨c, 1, none⟩ (.int .i64 a) z (Ne.symm nzc)).trans z0
  replace c0 := heap_set4 c0 1 (.int .i64 a)
  simp only [List.setIfInBounds_toArray, List.set_cons_zero, List.set_cons_succ] at c0
  clear g3
  replace r3 := r3.other nqc hinc 1 (.int .i64 a)
  clear r2 hd2 H3
  have hs3 := (Array.getElem?_eq_some_iff.1 c0).1
  go_wp2_with fail
  refine (H4.out _ _ _ _ r3 hd3).mono ?_
  rintro e w4 ⟨uD, rfl, ⟨a4, r4, hd4⟩, hrD, g4⟩
  dsimp only at r4 hd4 hrD
  obtain ⟨hvD, hinD⟩ := bytV_of_row hD4 hrD
  obtain ⟨aoD, capD, hueD⟩ := bytV_form hvD
  obtain ⟨nD, hnD⟩ : ∃ x, Hid (D.length = x) := ⟨_, rfl⟩
  rw [hnD.out] at hueD hrD
  subst hueD
  replace c0 := (g4.block c (Array.getElem?_eq_some_iff.1 c0).1 (fun e => nqc (Option.some.inj e))).trans c0
  replace z0 := (g4.block z (Array.getElem?_eq_some_iff.1 z0).1 (fun e => nzq (Option.some.inj e))).trans z0
  replace hl0 := (rw_step hl0 g4 hqW).setCell (p := ⟨c, 3, none⟩) hcW (.slice aoD nD capD)
  have kc := cell_of_row w4 c 3 _ _ _ c0
  have kf := frozen_row c0 3
  simp only [List.getElem?_toArray, List.getElem?_cons_zero, List.getElem?_cons_succ] at kc
  replace z0 := (Below.heap_setCell w4 ⟨c, 3, none⟩ (.slice aoD nD capD) z (Ne.symm nzc)).trans z0
  replace c0 := heap_set4 c0 3 (.slice aoD nD capD)
  simp only [List.setIfInBounds_toArray, List.set_cons_zero, List.set_cons_succ] at c0
  clear g4
  replace r4 := r4.other nqc hinc 3 (.slice aoD nD capD)
  replace hrD := row_mono (ownsRow_setCell_below (a := ⟨c, 3, none⟩) hrD hs3 (.slice aoD nD capD)) (base' := z + 1) (by omega)
  clear r3 hd3 H4 hs3
  have HE := Lib.hid (H5.out _ _ _ _ r4 hd4)
  rw [hok.1] at HE
  have hvD4 := Lib.hid (bytV_of_row hD4 (by rw [hnD.out]; exact hrD)).1
  clear H5 r4 hd4 hvD hinD
  go_upto_region 7 with fail
  obtain ⟨Y, hY⟩ : ∃ X, X = w4.setCell ⟨c, 3, none⟩ (.slice aoD nD capD) := ⟨_, rfl⟩
  rw [← hY] at hl0 c0 z0 hrD hvD4 HE ⊢
  clear hY kc kf
  go_wp2_with fail
  refine HE.out.mono ?_
  rintro e w5 ⟨rfl, hl5⟩
  replace c0 := (hl5.block c (Array.getElem?_eq_some_iff.1 c0).1).trans c0
  replace z0 := (hl5.block z (Array.getElem?_eq_some_iff.1 z0).1).trans z0
  replace hrD := row_later hrD hl5
  replace hl0 := hl0.trans hl5
  have HM := Lib.hid (may21_yes I a ((o : Int) + 1) _ D w5 (hvD4.out.later hl5) hok.2)
  have e0 : w5.cell? ⟨c, 0, none⟩ = some (.int .u64 I) := cell_of_row w5 _ 0 _ _ _ c0
  have e1 : w5.cell? ⟨c, 1, none⟩ = some (.int .i64 a) := cell_of_row w5 _ 1 _ _ _ c0
  have e2 : w5.cell? ⟨c, 2, none⟩ = some (.int .i64 ((o : Int) + 1)) := cell_of_row w5 _ 2 _ _ _ c0
  have e3 : w5.cell? ⟨c, 3, none⟩ = some (.slice aoD nD capD) := cell_of_row w5 _ 3 _ _ _ c0
  clear HE hl5 hvD4 hok
  go_wp2_with fail
  refine HM.out.mono ?_
  rintro e w6 ⟨rfl, hl6⟩
  replace c0 := (hl6.block c (Array.getElem?_eq_some_iff.1 c0).1).trans c0
  replace z0 := (hl6.block z (Array.getElem?_eq_some_iff.1 z0).1).trans z0
  replace hrD := Lib.hid (row_later hrD hl6)
  replace hl0 := hl0.trans hl6
  clear e0 e1 e2 e3
  have e0 : w6.cell? ⟨c, 0, none⟩ = some (.int .u64 I) := cell_of_row w6 _ 0 _ _ _ c0
  have e1 : w6.cell? ⟨c, 1, none⟩ = some (.int .i64 a) := cell_of_row w6 _ 1 _ _ _ c0
  have e2 : w6.cell? ⟨c, 2, none⟩ = some (.int .i64 ((o : Int) + 1)) := cell_of_row w6 _ 2 _ _ _ c0
  have e3 : w6.cell? ⟨c, 3, none⟩ = some (.slice aoD nD capD) := cell_of_row w6 _ 3 _ _ _ c0
  have y0 : w6.cell? ⟨z, 0, none⟩ = some (.int .u64 0) := cell_of_row w6 _ 0 _ _ _ z0
  have y1 : w6.cell? ⟨z, 1, none⟩ = some (.int .i64 0) := cell_of_row w6 _ 1 _ _ _ z0
  have y2 : w6.cell? ⟨z, 2, none⟩ = some (.int .i64 0) := cell_of_row w6 _ 2 _ _ _ z0
  have y3 : w6.cell? ⟨z, 3, none⟩ = some (.slice none 0 0) := cell_of_row w6 _ 3 _ _ _ z0
  have x0 := frozen_row z0 0
  have x1 := frozen_row z0 1
  have x2 := frozen_row z0 2
  have x3 := frozen_row z0 3
  have z7 := Lib.hid z0
  clear HM hl6 z0 c0
  go_wp2_with fail
  refine bodyPost_ret (v := .tuple #[pcV I a ((o : Int) + 1) (.slice aoD nD capD), .int .i64 0]) ?_ rfl ?_
  · have hbl := z7.out
    simp only [results]
    go_simp
  · have hW : z < z + 1 := Nat.lt_succ_self _
    refine ⟨_, rfl, row_mono (ownsRow_setCell_below (a := ⟨z, 3, none⟩) (ownsRow_setCell_below (a := ⟨z, 2, none⟩) (ownsRow_setCell_below (a := ⟨z, 1, none⟩) (ownsRow_setCell_below (a := ⟨z, 0, none⟩) (by rw [hnD.out]; exact hrD.out) hW _) hW _) hW _) hW _) (by rw [hz.out]; exact Nat.le_succ _), (((hl0.setCell (by show W.heap.size ≤ z; rw [hz.out]; exact Nat.le_refl _) _).setCell (by show W.heap.size ≤ z; rw [hz.out]; exact Nat.le_refl _) _).setCell (by show W.heap.size ≤ z; rw [hz.out]; exact Nat.le_refl _) _).setCell (by show W.heap.size ≤ z; rw [hz.out]; exact Nat.le_refl _) _⟩
set_option maxRecDepth 100000 in
theorem read21_no (u : Value) (b : List Int) (W : World) (hu : BytV W u b) (hb : b.length ≤ 1000000) (hok : ¬ RdOk b) :
    Calls Try.prog 14 #[u] W fun e w' => e = .returned (.tuple #[pcV 0 0 0 (.slice none 0 0), .int .i64 210]) ∧ Later W w' := by
  unfold RdOk at hok
  have H1 := Lib.hid (fun p v w h => r5a (b := b) p v w h hb)
  have H2 := Lib.hid (fun p v a w h hd => r5b (R := rd1 b) (b := b) p v a w h hd hb)
  have H3 := Lib.hid (fun p v a w h hd => r5b (R := rd2 b) (b := b) p v a w h hd hb)
  have H4 := Lib.hid (fun p v a w h hd => r5c (R := rd3 b) (b := b) p v a w h hd hb)
  have H5 := Lib.hid (fun p v a w h hd => r5d (R := rd4 b) (b := b) p v a w h hd hb)
  have hlo := rU_le 4095 (rd1 b).2.1 (rd1 b).2.2
  have hlo3 := rU_le 4095 (rd2 b).2.1 (rd2 b).2.2
  rw [show rU 4095 (rd1 b).2.1 (rd1 b).2.2 = rd2 b from rfl] at H2 hlo
  rw [show rU 4095 (rd2 b).2.1 (rd2 b).2.2 = rd3 b from rfl] at H3 hlo3
  rw [show rT 880 (rd3 b).2.1 (rd3 b).2.2 = rd4 b from rfl] at H4
  have hD4 : Byt (rd4 b).1 := rT_byt _ _ _ (rU_byt _ _ _ (rU_byt _ _ _ (rU_byt _ _ _ hu.1)))
  obtain ⟨R1, hR1⟩ : ∃ R, rd1 b = R := ⟨_, rfl⟩
  obtain ⟨R2, hR2⟩ : ∃ R, rd2 b = R := ⟨_, rfl⟩
  obtain ⟨R3, hR3⟩ : ∃ R, rd3 b = R := ⟨_, rfl⟩
  obtain ⟨R4, hR4⟩ : ∃ R, rd4 b = R := ⟨_, rfl⟩
  rw [hR1, hR2, hR3, hR4] at hok
  rw [hR1] at H1 H2
  rw [hR2] at H2 H3 hlo
  rw [hR3] at H3 H4 hlo3
  rw [hR4] at H4 H5 hD4
  first | rw [hR1, hR2, hR3, hR4] | skip
  clear hR1 hR2 hR3 hR4
  obtain ⟨i, L1, b1⟩ := R1
  obtain ⟨o, L2, b2⟩ := R2
  obtain ⟨a, L3, b3⟩ := R3
  obtain ⟨D, L4, b4⟩ := R4
  dsimp only at H1 H2 H3 H4 H5 hlo hlo3 hok hD4 ⊢
  obtain ⟨I, hI⟩ : ∃ I : Int, Hid ((i : Int) = I) := ⟨_, rfl⟩
  rw [hI.out] at H1 hok
  first | rw [hI.out] | skip
  obtain ⟨ao, cap, hue⟩ := bytV_form hu
  have hult := Lib.hid hu.lt
  have hu := Lib.hid hu
  obtain ⟨n, hn⟩ : ∃ n, Hid (b.length = n) := ⟨_, rfl⟩
  rw [hn.out] at hue
  subst hue
  replace hok := Lib.hid hok
  go_enter Try.func14, Try.ntmps14
  go_upto_region 3 with fail
  obtain ⟨X0, hX0⟩ : ∃ X, X = ((W.alloc (.cells #[.int .u64 0, .int .i64 0, .int .i64 0, .slice none 0 0] 25)).alloc (.cells #[.slice ao n cap, .int .i64 0, .bool false] 115)).alloc (.cells #[.int .u64 0, .int .i64 0, .int .i64 0, .slice none 0 0] 25) := ⟨_, rfl⟩
  have hl0 : Later W X0 := by rw [hX0]; exact (((Later.refl _).alloc _).alloc _).alloc _
  have z0 : X0.heap[W.heap.size]? = some (.cells #[.int .u64 0, .int .i64 0, .int .i64 0, .slice none 0 0] 25 (0, 0)) := by rw [hX0]; exact push_old (push_old (heap_alloc_new _ _))
  have q0 : X0.heap[W.heap.size + 1]? = some (.cells #[.slice ao n cap, .int .i64 0, .bool false] 115 (0, 0)) := by rw [hX0]; exact push_old (push_new _ _ (by simp))
  have c0 : X0.heap[W.heap.size + 1 + 1]? = some (.cells #[.int .u64 0, .int .i64 0, .int .i64 0, .slice none 0 0] 25 (0, 0)) := by rw [hX0]; exact push_new _ _ (by simp)
  rw [← hX0]
  clear hX0
  obtain ⟨z, hz⟩ : ∃ z, Hid (W.heap.size = z) := ⟨_, rfl⟩
  obtain ⟨q, hq⟩ : ∃ q, Hid (z + 1 = q) := ⟨_, rfl⟩
  obtain ⟨c, hc⟩ : ∃ c, Hid (q + 1 = c) := ⟨_, rfl⟩
  simp only [hz.out, hq.out, hc.out] at z0 q0 c0 hult ⊢
  have hzq : z < q := by have := hq.out; omega
  have hqc : q < c := by have := hc.out; omega
  have hqz : z ≤ q := Nat.le_of_lt hzq
  have hqW : W.heap.size ≤ q := by rw [hz.out]; exact hqz
  have hcW : W.heap.size ≤ c := by rw [hz.out]; omega
  have nqc : c ≠ q := by omega
  have nzc : c ≠ z := by omega
  have nzq : z ≠ q := by omega
  have hinc : In (.slice ao n cap) (· ≠ c) := hult.out.mono (fun g hg => by have hg : g < z := hg; omega)
  have hinq : In (.slice ao n cap) (· ≠ q) := hult.out.mono (fun g hg => by have hg : g < z := hg; omega)
  have r0 : RrB X0 q (.slice ao n cap) b 0 false := ⟨q0, hu.out.later hl0, hinq, Nat.zero_le _⟩
  clear q0 hq hc hu hult
  have k0 : X0.cell? ⟨c, 0, none⟩ = some (.int .u64 0) := cell_of_row X0 c 0 _ _ _ c0
  go_wp2_with fail
  refine (H1.out _ _ _ r0).mono ?_
  rintro e w1 ⟨rfl, ⟨a1, r1, hd1⟩, g1⟩
  dsimp only at r1 hd1
  replace c0 := (g1.block c (Array.getElem?_eq_some_iff.1 c0).1 (fun e => nqc (Option.some.inj e))).trans c0
  replace z0 := (g1.block z (Array.getElem?_eq_some_iff.1 z0).1 (fun e => nzq (Option.some.inj e))).trans z0
  replace hl0 := (rw_step hl0 g1 hqW).setCell (p := ⟨c, 0, none⟩) hcW (.int .u64 I)
  have kc := cell_of_row w1 c 0 _ _ _ c0
  have kf := frozen_row c0 0
  simp only [List.getElem?_toArray, List.getElem?_cons_zero, List.getElem?_cons_succ] at kc
  replace z0 := (Below.heap_setCell w1 ⟨c, 0, none⟩ (.int .u64 I) z (Ne.symm nzc)).trans z0
  replace c0 := heap_set4 c0 0 (.int .u64 I)
  simp only [List.setIfInBounds_toArray, List.set_cons_zero, List.set_cons_succ] at c0
  clear g1
  replace r1 := r1.other nqc hinc 0 (.int .u64 I)
  clear r0 H1
  go_wp2_with fail
  refine (H2.out _ _ _ _ r1 hd1).mono ?_
  rintro e w2 ⟨rfl, ⟨a2, r2, hd2⟩, g2⟩
  dsimp only at r2 hd2
  replace c0 := (g2.block c (Array.getElem?_eq_some_iff.1 c0).1 (fun e => nqc (Option.some.inj e))).trans c0
  replace z0 := (g2.block z (Array.getElem?_eq_some_iff.1 z0).1 (fun e => nzq (Option.some.inj e))).trans z0
  replace hl0 := (rw_step hl0 g2 hqW).setCell (p := ⟨c, 2, none⟩) hcW (.int .i64 ((o : Int) + 1))
  have kc := cell_of_row w2 c 2 _ _ _ c0
  have kf := frozen_row c0 2
  simp only [List.getElem?_toArray, List.getElem?_cons_zero, List.getElem?_cons_succ] at kc
  replace z0 := (Below.heap_setCell w2 ⟨c, 2, none⟩ (.int .i64 ((o : Int) + 1)) z (Ne.symm nzc)).trans z0
  replace c0 := heap_set4 c0 2 (.int .i64 ((o : Int) + 1))
  simp only [List.setIfInBounds_toArray, List.set_cons_zero, List.set_cons_succ] at c0
  clear g2
  replace r2 := r2.other nqc hinc 2 (.int .i64 ((o : Int) + 1))
  clear r1 hd1 H2
  go_wp2_with fail
  refine (H3.out _ _ _ _ r2 hd2).mono ?_
  rintro e w3 ⟨rfl, ⟨a3, r3, hd3⟩, g3⟩
  dsimp only at r3 hd3
  replace c0 := (g3.block c (Array.getElem?_eq_some_iff.1 c0).1 (fun e => nqc (Option.some.inj e))).trans c0
  replace z0 := (g3.block z (Array.getElem?_eq_some_iff.1 z0).1 (fun e => nzq (Option.some.inj e))).trans z0
  replace hl0 := (rw_step hl0 g3 hqW).setCell (p := ⟨c, 1, none⟩) hcW (.int .i64 a)
  have kc := cell_of_row w3 c 1 _ _ _ c0
  have kf := frozen_row c0 1
  simp only [List.getElem?_toArray, List.getElem?_cons_zero, List.getElem?_cons_succ] at kc
  replace z0 := (Below.heap_setCell w3 ⟨c, 1, none⟩ (.int .i64 a) z (Ne.symm nzc)).trans z0
  replace c0 := heap_set4 c0 1 (.int .i64 a)
  simp only [List.setIfInBounds_toArray, List.set_cons_zero, List.set_cons_succ] at c0
  clear g3
  replace r3 := r3.other nqc hinc 1 (.int .i64 a)
  clear r2 hd2 H3
  have hs3 := (Array.getElem?_eq_some_iff.1 c0).1
  go_wp2_with fail
  refine (H4.out _ _ _ _ r3 hd3).mono ?_
  rintro e w4 ⟨uD, rfl, ⟨a4, r4, hd4⟩, hrD, g4⟩
  dsimp only at r4 hd4 hrD
  obtain ⟨hvD, hinD⟩ := bytV_of_row hD4 hrD
  obtain ⟨aoD, capD, hueD⟩ := bytV_form hvD
  obtain ⟨nD, hnD⟩ : ∃ x, Hid (D.length = x) := ⟨_, rfl⟩
  rw [hnD.out] at hueD hrD
  subst hueD
  replace c0 := (g4.block c (Array.getElem?_eq_some_iff.1 c0).1 (fun e => nqc (Option.some.inj e))).trans c0
  replace z0 := (g4.block z (Array.getElem?_eq_some_iff.1 z0).1 (fun e => nzq (Option.some.inj e))).trans z0
  replace hl0 := (rw_step hl0 g4 hqW).setCell (p := ⟨c, 3, none⟩) hcW (.slice aoD nD capD)
  have kc := cell_of_row w4 c 3 _ _ _ c0
  have kf := frozen_row c0 3
  simp only [List.getElem?_toArray, List.getElem?_cons_zero, List.getElem?_cons_succ] at kc
  replace z0 := (Below.heap_setCell w4 ⟨c, 3, none⟩ (.slice aoD nD capD) z (Ne.symm nzc)).trans z0
  replace c0 := heap_set4 c0 3 (.slice aoD nD capD)
  simp only [List.setIfInBounds_toArray, List.set_cons_zero, List.set_cons_succ] at c0
  clear g4
  replace r4 := r4.other nqc hinc 3 (.slice aoD nD capD)
  replace hrD := row_mono (ownsRow_setCell_below (a := ⟨c, 3, none⟩) hrD hs3 (.slice aoD nD capD)) (base' := z + 1) (by omega)
  clear r3 hd3 H4 hs3
  have HE := Lib.hid (H5.out _ _ _ _ r4 hd4)
  have hvD4 := Lib.hid (bytV_of_row hD4 (by rw [hnD.out]; exact hrD)).1
  clear H5 r4 hd4 hvD hinD hrD
  go_upto_region 7 with fail
  obtain ⟨Y, hY⟩ : ∃ X, X = w4.setCell ⟨c, 3, none⟩ (.slice aoD nD capD) := ⟨_, rfl⟩
  rw [← hY] at hl0 c0 z0 hvD4 HE ⊢
  clear hY kc kf
  by_cases hE : rE L4 b4 = 0
  · rw [hE] at HE
    have hM : Hid (¬ May I a ((o : Int) + 1) D.length) := Lib.hid fun h => hok.out ⟨hE, h⟩
    clear hok hE
    go_wp2_with fail
    refine HE.out.mono ?_
    rintro e w5 ⟨rfl, hl5⟩
    replace c0 := (hl5.block c (Array.getElem?_eq_some_iff.1 c0).1).trans c0
    replace z0 := (hl5.block z (Array.getElem?_eq_some_iff.1 z0).1).trans z0
    replace hl0 := hl0.trans hl5
    have HM := Lib.hid (may21_no I a ((o : Int) + 1) _ D w5 (hvD4.out.later hl5) hM.out)
    have e0 : w5.cell? ⟨c, 0, none⟩ = some (.int .u64 I) := cell_of_row w5 _ 0 _ _ _ c0
    have e1 : w5.cell? ⟨c, 1, none⟩ = some (.int .i64 a) := cell_of_row w5 _ 1 _ _ _ c0
    have e2 : w5.cell? ⟨c, 2, none⟩ = some (.int .i64 ((o : Int) + 1)) := cell_of_row w5 _ 2 _ _ _ c0
    have e3 : w5.cell? ⟨c, 3, none⟩ = some (.slice aoD nD capD) := cell_of_row w5 _ 3 _ _ _ c0
    clear HE hl5 hvD4 hM
    go_wp2_with fail
    refine HM.out.mono ?_
    rintro e w6 ⟨rfl, hl6⟩
    replace c0 := (hl6.block c (Array.getElem?_eq_some_iff.1 c0).1).trans c0
    replace z0 := (hl6.block z (Array.getElem?_eq_some_iff.1 z0).1).trans z0
    replace hl0 := hl0.trans hl6
    clear e0 e1 e2 e3
    have y0 : w6.cell? ⟨z, 0, none⟩ = some (.int .u64 0) := cell_of_row w6 _ 0 _ _ _ z0
    have y1 : w6.cell? ⟨z, 1, none⟩ = some (.int .i64 0) := cell_of_row w6 _ 1 _ _ _ z0
    have y2 : w6.cell? ⟨z, 2, none⟩ = some (.int .i64 0) := cell_of_row w6 _ 2 _ _ _ z0
    have y3 : w6.cell? ⟨z, 3, none⟩ = some (.slice none 0 0) := cell_of_row w6 _ 3 _ _ _ z0
    have x0 := frozen_row z0 0
    have x1 := frozen_row z0 1
    have x2 := frozen_row z0 2
    have x3 := frozen_row z0 3
    clear HM hl6 z0 c0
    go_wp2_with fail
    refine bodyPost_ret (v := .tuple #[pcV 0 0 0 (.slice none 0 0), .int .i64 210]) ?_ rfl ?_
    · simp only [results]
      go_simp
    · exact ⟨rfl, (((hl0.setCell (by show W.heap.size ≤ z; rw [hz.out]; exact Nat.le_refl _) _).setCell (by show W.heap.size ≤ z; rw [hz.out]; exact Nat.le_refl _) _).setCell (by show W.heap.size ≤ z; rw [hz.out]; exact Nat.le_refl _) _).setCell (by show W.heap.size ≤ z; rw [hz.out]; exact Nat.le_refl _) _⟩
  · have h50 : rE L4 b4 = 50 := by
      unfold rE at hE ⊢
      by_cases hc : b4 = true ∨ 0 < L4.length
      · rw [if_pos hc]
      · rw [if_neg hc] at hE; exact absurd rfl hE
    rw [h50] at HE
    clear hok hE h50
    go_wp2_with fail
    refine HE.out.mono ?_
    rintro e w5 ⟨rfl, hl5⟩
    replace c0 := (hl5.block c (Array.getElem?_eq_some_iff.1 c0).1).trans c0
    replace z0 := (hl5.block z (Array.getElem?_eq_some_iff.1 z0).1).trans z0
    replace hl0 := hl0.trans hl5
    have HM : Hid (∃ t, Calls Try.prog 47 #[pcV I a ((o : Int) + 1) (.slice aoD nD capD)] w5 fun e w' => e = .returned (.bool t) ∧ Later w5 w') := Lib.hid (by
      by_cases hM : May I a ((o : Int) + 1) D.length
      · exact ⟨_, may21_yes I a ((o : Int) + 1) _ D w5 (hvD4.out.later hl5) hM⟩
      · exact ⟨_, may21_no I a ((o : Int) + 1) _ D w5 (hvD4.out.later hl5) hM⟩)
    obtain ⟨t, HM⟩ := HM.out
    replace HM := Lib.hid HM
    have e0 : w5.cell? ⟨c, 0, none⟩ = some (.int .u64 I) := cell_of_row w5 _ 0 _ _ _ c0
    have e1 : w5.cell? ⟨c, 1, none⟩ = some (.int .i64 a) := cell_of_row w5 _ 1 _ _ _ c0
    have e2 : w5.cell? ⟨c, 2, none⟩ = some (.int .i64 ((o : Int) + 1)) := cell_of_row w5 _ 2 _ _ _ c0
    have e3 : w5.cell? ⟨c, 3, none⟩ = some (.slice aoD nD capD) := cell_of_row w5 _ 3 _ _ _ c0
    clear HE hl5 hvD4
    go_wp2_with fail
    refine HM.out.mono ?_
    rintro e w6 ⟨rfl, hl6⟩
    replace c0 := (hl6.block c (Array.getElem?_eq_some_iff.1 c0).1).trans c0
    replace z0 := (hl6.block z (Array.getElem?_eq_some_iff.1 z0).1).trans z0
    replace hl0 := hl0.trans hl6
    clear e0 e1 e2 e3
    have y0 : w6.cell? ⟨z, 0, none⟩ = some (.int .u64 0) := cell_of_row w6 _ 0 _ _ _ z0
    have y1 : w6.cell? ⟨z, 1, none⟩ = some (.int .i64 0) := cell_of_row w6 _ 1 _ _ _ z0
    have y2 : w6.cell? ⟨z, 2, none⟩ = some (.int .i64 0) := cell_of_row w6 _ 2 _ _ _ z0
    have y3 : w6.cell? ⟨z, 3, none⟩ = some (.slice none 0 0) := cell_of_row w6 _ 3 _ _ _ z0
    have x0 := frozen_row z0 0
    have x1 := frozen_row z0 1
    have x2 := frozen_row z0 2
    have x3 := frozen_row z0 3
    clear HM hl6 z0 c0
    go_wp2_with fail
    refine bodyPost_ret (v := .tuple #[pcV 0 0 0 (.slice none 0 0), .int .i64 210]) ?_ rfl ?_
    · simp only [results]
      go_simp
    · exact ⟨rfl, (((hl0.setCell (by show W.heap.size ≤ z; rw [hz.out]; exact Nat.le_refl _) _).setCell (by show W.heap.size ≤ z; rw [hz.out]; exact Nat.le_refl _) _).setCell (by show W.heap.size ≤ z; rw [hz.out]; exact Nat.le_refl _) _).setCell (by show W.heap.size ≤ z; rw [hz.out]; exact Nat.le_refl _) _⟩
end Go.Proofs.Ytjelfiljebamgaa
