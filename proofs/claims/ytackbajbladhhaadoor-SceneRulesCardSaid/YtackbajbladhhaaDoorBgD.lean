/-
  Numbers of 320 bits: sums; which is less.
-/
import Derived.Test.YtackbajbladhhaaDoorBgC
namespace Go.Proofs.YtackbajbladhhaaDoor
open Go.RowKit Go.Shelf
set_option linter.unusedVariables false
set_option linter.unusedSimpArgs false
attribute [local go_sem] Oper.semAt_some
attribute [-simp] Tryd.sizeOf105 Tryd.typeInfo105
attribute [-go_sem] Instr.build

theorem sum_same {x y : Int} (h : decide (x < 0) = decide (y < 0)) : bigI (x + y) = bigV (decide (x < 0) && !decide (x.natAbs + y.natAbs = 0)) (dig (x.natAbs + y.natAbs)) := by
  unfold bigI
  by_cases hx : x < 0
  · have hy : y < 0 := by rw [decide_eq_true hx] at h; exact of_decide_eq_true h.symm
    rw [decide_eq_true hx, decide_eq_true (show x + y < 0 by omega), decide_eq_false (show ¬ x.natAbs + y.natAbs = 0 by omega), show (x + y).natAbs = x.natAbs + y.natAbs by omega]; rfl
  · have hy : ¬ y < 0 := by rw [decide_eq_false hx] at h; exact of_decide_eq_false h.symm
    rw [decide_eq_false hx, decide_eq_false (show ¬ x + y < 0 by omega), show (x + y).natAbs = x.natAbs + y.natAbs by omega]; rfl
theorem sum_less {x y : Int} (h : decide (x < 0) ≠ decide (y < 0)) (hl : x.natAbs < y.natAbs) : bigI (x + y) = bigV (decide (y < 0) && !decide (y.natAbs - x.natAbs = 0)) (dig (y.natAbs - x.natAbs)) := by
  unfold bigI
  rw [decide_eq_false (show ¬ y.natAbs - x.natAbs = 0 by omega)]
  by_cases hx : x < 0
  · have hy : ¬ y < 0 := fun hy => h (by rw [decide_eq_true hx, decide_eq_true hy])
    rw [decide_eq_false hy, decide_eq_false (show ¬ x + y < 0 by omega), show (x + y).natAbs = y.natAbs - x.natAbs by omega]; rfl
  · have hy : y < 0 := Decidable.byContradiction fun hy => h (by rw [decide_eq_false hx, decide_eq_false hy])
    rw [decide_eq_true hy, decide_eq_true (show x + y < 0 by omega), show (x + y).natAbs = y.natAbs - x.natAbs by omega]; rfl
theorem sum_more {x y : Int} (h : decide (x < 0) ≠ decide (y < 0)) (hl : ¬ x.natAbs < y.natAbs) : bigI (x + y) = bigV (decide (x < 0) && !decide (x.natAbs - y.natAbs = 0)) (dig (x.natAbs - y.natAbs)) := by
  unfold bigI
  by_cases hx : x < 0
  · have hy : ¬ y < 0 := fun hy => h (by rw [decide_eq_true hx, decide_eq_true hy])
    rw [decide_eq_true hx]
    by_cases e : x.natAbs - y.natAbs = 0
    · rw [decide_eq_true e, decide_eq_false (show ¬ x + y < 0 by omega), show (x + y).natAbs = x.natAbs - y.natAbs by omega]; rfl
    · rw [decide_eq_false e, decide_eq_true (show x + y < 0 by omega), show (x + y).natAbs = x.natAbs - y.natAbs by omega]; rfl
  · have hy : y < 0 := Decidable.byContradiction fun hy => h (by rw [decide_eq_false hx, decide_eq_false hy])
    rw [decide_eq_false hx, decide_eq_false (show ¬ x + y < 0 by omega), show (x + y).natAbs = x.natAbs - y.natAbs by omega]; rfl

set_option maxRecDepth 100000 in
set_option maxHeartbeats 2000000 in
theorem badd_any (x y : Int) (W : World) (h : x.natAbs + y.natAbs < bP 20) :
    Calls Tryd.prog 56 #[.agg (bigI x), .agg (bigI y)] W fun e w' => e = .returned (.agg (bigI (x + y))) ∧ Later W w' := by
  have e1 := Lib.hid (sum_same (x := x) (y := y))
  have e2 := Lib.hid (sum_less (x := x) (y := y))
  have e3 := Lib.hid (sum_more (x := x) (y := y))
  obtain ⟨B0, hB0⟩ : ∃ B, Hid (bigI (x + y) = B) := ⟨_, rfl⟩
  rw [hB0.out] at e1 e2 e3 ⊢
  unfold bigI
  obtain ⟨X, hX⟩ : ∃ X, Hid (x.natAbs = X) := ⟨_, rfl⟩
  obtain ⟨Y, hY⟩ : ∃ X, Hid (y.natAbs = X) := ⟨_, rfl⟩
  obtain ⟨sx, hsx⟩ : ∃ X, Hid (decide (x < 0) = X) := ⟨_, rfl⟩
  obtain ⟨sy, hsy⟩ : ∃ X, Hid (decide (y < 0) = X) := ⟨_, rfl⟩
  rw [hX.out, hY.out] at e1 e2 e3 h
  rw [hX.out, hY.out]
  rw [hsx.out, hsy.out] at e1 e2 e3
  rw [hsx.out, hsy.out]
  clear hX hY hsx hsy hB0
  have hM := Lib.hid (fun V => more_any sx sy X Y V h)
  have hA1 := Lib.hid (fun V (hl : X < Y) => away_any sy sx Y X V (by omega) (by omega))
  have hA2 := Lib.hid (fun V (hl : ¬ X < Y) => away_any sx sy X Y V (by omega) (by omega))
  have hLs := Lib.hid (fun V => less_any sx sy X Y V (by omega) (by omega))
  have hNx : X + Y < bP 20 := h
  obtain ⟨bx, hbx⟩ : ∃ b, Hid (bigV sx (dig X) = b) := ⟨_, rfl⟩
  obtain ⟨by', hby⟩ : ∃ b, Hid (bigV sy (dig Y) = b) := ⟨_, rfl⟩
  rw [hbx.out, hby.out]
  go_enter Tryd.func56, Tryd.ntmps56
  go_upto_region 4 with fail
  obtain ⟨Z0, hZ0⟩ : ∃ Z, Z = (((W.alloc (.cells bx 105)).alloc (.cells by' 105)).alloc (.cells #[.bool false, .int .u64 0, .int .u64 0, .int .u64 0, .int .u64 0, .int .u64 0, .int .u64 0, .int .u64 0, .int .u64 0, .int .u64 0, .int .u64 0, .int .u64 0, .int .u64 0, .int .u64 0, .int .u64 0, .int .u64 0, .int .u64 0, .int .u64 0, .int .u64 0, .int .u64 0, .int .u64 0] 105)).alloc (.cells #[.bool false, .int .u64 0, .int .u64 0, .int .u64 0, .int .u64 0, .int .u64 0, .int .u64 0, .int .u64 0, .int .u64 0, .int .u64 0, .int .u64 0, .int .u64 0, .int .u64 0, .int .u64 0, .int .u64 0, .int .u64 0, .int .u64 0, .int .u64 0, .int .u64 0, .int .u64 0, .int .u64 0] 105) := ⟨_, rfl⟩
  have hlZ : Later W Z0 := by rw [hZ0]; exact ((((Later.refl W).alloc _).alloc _).alloc _).alloc _
  have kA : BigB Z0 W.heap.size sx (dig X) := by unfold BigB; rw [hbx.out, hZ0]; exact push_one (push_one (push_one (heap_alloc_new _ _) _) _) _
  have kB : BigB Z0 (W.heap.size + 1) sy (dig Y) := by unfold BigB; rw [hby.out, hZ0]; exact push_one (push_one (push_new _ _ (by simp)) _) _
  have kR : BigB Z0 (W.heap.size + 1 + 1) false (dig 0) := by unfold BigB; rw [big_zero, hZ0]; exact push_one (push_new _ _ (by simp)) _
  have kT : BigB Z0 (W.heap.size + 1 + 1 + 1) false (dig 0) := by unfold BigB; rw [big_zero, hZ0]; exact push_new _ _ (by simp)
  rw [← hZ0]
  clear hZ0 hbx hby
  obtain ⟨P, hP⟩ : ∃ n, Hid (W.heap.size = n) := ⟨_, rfl⟩
  obtain ⟨Q, hQ⟩ : ∃ n, Hid (P + 1 = n) := ⟨_, rfl⟩
  obtain ⟨R, hR⟩ : ∃ n, Hid (Q + 1 = n) := ⟨_, rfl⟩
  obtain ⟨T, hT⟩ : ∃ n, Hid (R + 1 = n) := ⟨_, rfl⟩
  have hWP : W.heap.size ≤ P := Nat.le_of_eq hP.out
  have hPQ : P < Q := by have := hQ.out; omega
  have hQR : Q < R := by have := hR.out; omega
  have hRT : R < T := by have := hT.out; omega
  rw [hP.out] at kA kB kR kT ⊢
  rw [hQ.out] at kB kR kT ⊢
  rw [hR.out] at kR kT ⊢
  rw [hT.out] at kT ⊢
  clear hP hQ hR hT
  have ca := kA.sign
  have cb := kB.sign
  by_cases hs : sx = sy
  · have hEq := e1.out hs
    subst hs
    have hss : (sx == sx) = true := by simp
    clear e1 e2 e3 hLs hA1 hA2
    go_wp2_with (first | refine wpList_load_row rfl _ _ rfl P rfl _ _ (0, 0) _ kA Tryd.underlying105 rfl (size_big _ _) ?_ | refine wpList_load_row rfl _ _ rfl Q rfl _ _ (0, 0) _ kB Tryd.underlying105 rfl (size_big _ _) ?_)
    refine (hM.out _).mono ?_
    rintro e w2 ⟨rfl, h2⟩
    have kT2 := kT.later h2
    have kR2 := kR.later h2
    have kS2 := BigB.later kA h2
    have hl2 := hlZ.trans h2
    clear kA kB kT kR hlZ ca cb
    have kT3 : BigB (w2.setRow T (bigV false (dig (X + Y)))) T false (dig (X + Y)) := setRow_big kT2
    have kR3 : BigB (w2.setRow T (bigV false (dig (X + Y)))) R false (dig 0) := (setRow_other _ _ _ _ (show R ≠ T by omega)).trans kR2
    have kS3 : BigB (w2.setRow T (bigV false (dig (X + Y)))) P sx _ := (setRow_other _ _ _ _ (show P ≠ T by omega)).trans kS2
    have hl3 : Later W (w2.setRow T (bigV false (dig (X + Y)))) := hl2.setRow (by omega) _
    obtain ⟨V3, hV3⟩ : ∃ V, V = w2.setRow T (bigV false (dig (X + Y))) := ⟨_, rfl⟩
    go_upto_region 6 with (refine wpList_store_row rfl 105 _ _ rfl T (bigV false (dig (X + Y))) rfl rfl 105 (bigV false (dig 0)) kT2 (size_big _ _) (by rw [bigV_size, bigV_size]) (bigV_one _ _) ?_)
    rw [← hV3] at kT3 kR3 kS3 hl3 ⊢
    clear hV3 kT2 kR2 kS2 hl2 h2
    have cs3 := kS3.sign
    have ct3 := kT3.sign
    have ft3 := kT3.frozen 0
    have kV := kT3.setSign sx
    have kRV : BigB (V3.setCell ⟨T, 0, none⟩ (.bool sx)) R false (dig 0) := (Below.heap_setCell _ _ _ R (by show R ≠ T; omega)).trans kR3
    have hlV : Later W (V3.setCell ⟨T, 0, none⟩ (.bool sx)) := hl3.setCell (by show W.heap.size ≤ T; omega) _
    obtain ⟨V, hV⟩ : ∃ V, V = V3.setCell ⟨T, 0, none⟩ (.bool sx) := ⟨_, rfl⟩
    go_upto_region 10 with fail
    rw [← hV] at kV kRV hlV ⊢
    clear hV cs3 ct3 ft3 kT3 kR3 kS3 hl3
    first | go_step3 | skip
    have hTl : Later W V := hlV
    obtain ⟨n, hn⟩ : ∃ n, Hid (decide ((X + Y) = 0) = n) := ⟨_, rfl⟩
    have hNn := Lib.hid (none_any sx (X + Y) V hNx)
    rw [hn.out] at hNn hEq
    obtain ⟨dN, hdN⟩ : ∃ d, Hid (dig (X + Y) = d) := ⟨_, rfl⟩
    rw [hdN.out] at hNn hEq kV
    clear hn hdN
    go_wp2_with (refine wpList_load_row rfl _ _ rfl T rfl _ _ (0, 0) _ kV Tryd.underlying105 rfl (size_big _ _) ?_)
    refine hNn.out.mono ?_
    rintro e w5 ⟨rfl, h5⟩
    have kV5 := kV.later h5
    have kR5 := kRV.later h5
    have hl5 := hlV.trans h5
    clear hNn kV kRV hlV hTl
    cases n
    · rw [show ((sx) && !false) = (sx) from by cases sx <;> rfl] at hEq
      go_wp2_with (first | refine wpList_load_row rfl _ _ rfl T rfl _ _ (0, 0) _ kV5 Tryd.underlying105 rfl (size_big _ _) ?_ | refine wpList_store_row rfl 105 _ _ rfl R (bigV sx dN) rfl rfl 105 (bigV false (dig 0)) kR5 (size_big _ _) (by rw [bigV_size, bigV_size]) (bigV_one _ _) ?_)
      exact bodyPost_ret (v := .agg (bigV sx dN)) (results_cell1 (a := 4) (t := 105) (by kernel_rfl) _ rfl (load_big (setRow_big kR5))) rfl ⟨by rw [hEq], hl5.setRow (by omega) _⟩
    · rw [show ((sx) && !true) = false from by cases sx <;> rfl] at hEq
      have cs5 := kV5.sign
      have fs5 := kV5.frozen 0
      go_upto_region 12 with fail
      have kV6 := kV5.setSign false
      have kR6 : BigB (w5.setCell ⟨T, 0, none⟩ (.bool false)) R false (dig 0) := (Below.heap_setCell _ _ _ R (by show R ≠ T; omega)).trans kR5
      have hl6 : Later W (w5.setCell ⟨T, 0, none⟩ (.bool false)) := hl5.setCell (by show W.heap.size ≤ T; omega) _
      obtain ⟨V6, hV6⟩ : ∃ V, V = w5.setCell ⟨T, 0, none⟩ (.bool false) := ⟨_, rfl⟩
      rw [← hV6] at kV6 kR6 hl6 ⊢
      clear hV6 cs5 fs5 kV5 kR5
      first | go_step3 | skip
      go_wp2_with (first | refine wpList_load_row rfl _ _ rfl T rfl _ _ (0, 0) _ kV6 Tryd.underlying105 rfl (size_big _ _) ?_ | refine wpList_store_row rfl 105 _ _ rfl R (bigV false dN) rfl rfl 105 (bigV false (dig 0)) kR6 (size_big _ _) (by rw [bigV_size, bigV_size]) (bigV_one _ _) ?_)
      exact bodyPost_ret (v := .agg (bigV false dN)) (results_cell1 (a := 4) (t := 105) (by kernel_rfl) _ rfl (load_big (setRow_big kR6))) rfl ⟨by rw [hEq], hl6.setRow (by omega) _⟩
  · have hss : (sx == sy) = false := by
      cases sx <;> cases sy <;> simp_all
    obtain ⟨l, hl⟩ : ∃ l, Hid (decide (X < Y) = l) := ⟨_, rfl⟩
    rw [hl.out] at hLs
    cases l
    · have hlt : ¬ X < Y := of_decide_eq_false hl.out
      have hEq := e3.out hs hlt
      clear e1 e2 e3 hM hA1 hs
      have hL0 : X - Y < bP 20 := by omega
      replace hA2 := Lib.hid (fun V => hA2.out V hlt)
      go_wp2_with (first | refine wpList_load_row rfl _ _ rfl P rfl _ _ (0, 0) _ kA Tryd.underlying105 rfl (size_big _ _) ?_ | refine wpList_load_row rfl _ _ rfl Q rfl _ _ (0, 0) _ kB Tryd.underlying105 rfl (size_big _ _) ?_)
      refine (hLs.out _).mono ?_
      rintro e w1 ⟨rfl, h1⟩
      replace kA := kA.later h1
      replace kB := kB.later h1
      replace kT := kT.later h1
      replace kR := kR.later h1
      replace hlZ := hlZ.trans h1
      replace ca := kA.sign
      replace cb := kB.sign
      clear hLs h1
      go_wp2_with (first | refine wpList_load_row rfl _ _ rfl P rfl _ _ (0, 0) _ kA Tryd.underlying105 rfl (size_big _ _) ?_ | refine wpList_load_row rfl _ _ rfl Q rfl _ _ (0, 0) _ kB Tryd.underlying105 rfl (size_big _ _) ?_)
      refine (hA2.out _).mono ?_
      rintro e w2 ⟨rfl, h2⟩
      have kT2 := kT.later h2
      have kR2 := kR.later h2
      have kS2 := BigB.later kA h2
      have hl2 := hlZ.trans h2
      clear kA kB kT kR hlZ ca cb
      have kT3 : BigB (w2.setRow T (bigV false (dig (X - Y)))) T false (dig (X - Y)) := setRow_big kT2
      have kR3 : BigB (w2.setRow T (bigV false (dig (X - Y)))) R false (dig 0) := (setRow_other _ _ _ _ (show R ≠ T by omega)).trans kR2
      have kS3 : BigB (w2.setRow T (bigV false (dig (X - Y)))) P sx _ := (setRow_other _ _ _ _ (show P ≠ T by omega)).trans kS2
      have hl3 : Later W (w2.setRow T (bigV false (dig (X - Y)))) := hl2.setRow (by omega) _
      obtain ⟨V3, hV3⟩ : ∃ V, V = w2.setRow T (bigV false (dig (X - Y))) := ⟨_, rfl⟩
      go_upto_region 3 with (refine wpList_store_row rfl 105 _ _ rfl T (bigV false (dig (X - Y))) rfl rfl 105 (bigV false (dig 0)) kT2 (size_big _ _) (by rw [bigV_size, bigV_size]) (bigV_one _ _) ?_)
      rw [← hV3] at kT3 kR3 kS3 hl3 ⊢
      clear hV3 kT2 kR2 kS2 hl2 h2
      have cs3 := kS3.sign
      have ct3 := kT3.sign
      have ft3 := kT3.frozen 0
      have kV := kT3.setSign sx
      have kRV : BigB (V3.setCell ⟨T, 0, none⟩ (.bool sx)) R false (dig 0) := (Below.heap_setCell _ _ _ R (by show R ≠ T; omega)).trans kR3
      have hlV : Later W (V3.setCell ⟨T, 0, none⟩ (.bool sx)) := hl3.setCell (by show W.heap.size ≤ T; omega) _
      obtain ⟨V, hV⟩ : ∃ V, V = V3.setCell ⟨T, 0, none⟩ (.bool sx) := ⟨_, rfl⟩
      go_upto_region 10 with fail
      rw [← hV] at kV kRV hlV ⊢
      clear hV cs3 ct3 ft3 kT3 kR3 kS3 hl3
      first | go_step3 | skip
      have hTl : Later W V := hlV
      obtain ⟨n, hn⟩ : ∃ n, Hid (decide ((X - Y) = 0) = n) := ⟨_, rfl⟩
      have hNn := Lib.hid (none_any sx (X - Y) V hL0)
      rw [hn.out] at hNn hEq
      obtain ⟨dN, hdN⟩ : ∃ d, Hid (dig (X - Y) = d) := ⟨_, rfl⟩
      rw [hdN.out] at hNn hEq kV
      clear hn hdN
      go_wp2_with (refine wpList_load_row rfl _ _ rfl T rfl _ _ (0, 0) _ kV Tryd.underlying105 rfl (size_big _ _) ?_)
      refine hNn.out.mono ?_
      rintro e w5 ⟨rfl, h5⟩
      have kV5 := kV.later h5
      have kR5 := kRV.later h5
      have hl5 := hlV.trans h5
      clear hNn kV kRV hlV hTl
      cases n
      · rw [show ((sx) && !false) = (sx) from by cases sx <;> rfl] at hEq
        go_wp2_with (first | refine wpList_load_row rfl _ _ rfl T rfl _ _ (0, 0) _ kV5 Tryd.underlying105 rfl (size_big _ _) ?_ | refine wpList_store_row rfl 105 _ _ rfl R (bigV sx dN) rfl rfl 105 (bigV false (dig 0)) kR5 (size_big _ _) (by rw [bigV_size, bigV_size]) (bigV_one _ _) ?_)
        exact bodyPost_ret (v := .agg (bigV sx dN)) (results_cell1 (a := 4) (t := 105) (by kernel_rfl) _ rfl (load_big (setRow_big kR5))) rfl ⟨by rw [hEq], hl5.setRow (by omega) _⟩
      · rw [show ((sx) && !true) = false from by cases sx <;> rfl] at hEq
        have cs5 := kV5.sign
        have fs5 := kV5.frozen 0
        go_upto_region 12 with fail
        have kV6 := kV5.setSign false
        have kR6 : BigB (w5.setCell ⟨T, 0, none⟩ (.bool false)) R false (dig 0) := (Below.heap_setCell _ _ _ R (by show R ≠ T; omega)).trans kR5
        have hl6 : Later W (w5.setCell ⟨T, 0, none⟩ (.bool false)) := hl5.setCell (by show W.heap.size ≤ T; omega) _
        obtain ⟨V6, hV6⟩ : ∃ V, V = w5.setCell ⟨T, 0, none⟩ (.bool false) := ⟨_, rfl⟩
        rw [← hV6] at kV6 kR6 hl6 ⊢
        clear hV6 cs5 fs5 kV5 kR5
        first | go_step3 | skip
        go_wp2_with (first | refine wpList_load_row rfl _ _ rfl T rfl _ _ (0, 0) _ kV6 Tryd.underlying105 rfl (size_big _ _) ?_ | refine wpList_store_row rfl 105 _ _ rfl R (bigV false dN) rfl rfl 105 (bigV false (dig 0)) kR6 (size_big _ _) (by rw [bigV_size, bigV_size]) (bigV_one _ _) ?_)
        exact bodyPost_ret (v := .agg (bigV false dN)) (results_cell1 (a := 4) (t := 105) (by kernel_rfl) _ rfl (load_big (setRow_big kR6))) rfl ⟨by rw [hEq], hl6.setRow (by omega) _⟩
    · have hlt : X < Y := of_decide_eq_true hl.out
      have hEq := e2.out hs hlt
      clear e1 e2 e3 hM hA2 hs
      have hL0 : Y - X < bP 20 := by omega
      replace hA1 := Lib.hid (fun V => hA1.out V hlt)
      go_wp2_with (first | refine wpList_load_row rfl _ _ rfl P rfl _ _ (0, 0) _ kA Tryd.underlying105 rfl (size_big _ _) ?_ | refine wpList_load_row rfl _ _ rfl Q rfl _ _ (0, 0) _ kB Tryd.underlying105 rfl (size_big _ _) ?_)
      refine (hLs.out _).mono ?_
      rintro e w1 ⟨rfl, h1⟩
      replace kA := kA.later h1
      replace kB := kB.later h1
      replace kT := kT.later h1
      replace kR := kR.later h1
      replace hlZ := hlZ.trans h1
      replace ca := kA.sign
      replace cb := kB.sign
      clear hLs h1
      go_wp2_with (first | refine wpList_load_row rfl _ _ rfl P rfl _ _ (0, 0) _ kA Tryd.underlying105 rfl (size_big _ _) ?_ | refine wpList_load_row rfl _ _ rfl Q rfl _ _ (0, 0) _ kB Tryd.underlying105 rfl (size_big _ _) ?_)
      refine (hA1.out _).mono ?_
      rintro e w2 ⟨rfl, h2⟩
      have kT2 := kT.later h2
      have kR2 := kR.later h2
      have kS2 := BigB.later kB h2
      have hl2 := hlZ.trans h2
      clear kA kB kT kR hlZ ca cb
      have kT3 : BigB (w2.setRow T (bigV false (dig (Y - X)))) T false (dig (Y - X)) := setRow_big kT2
      have kR3 : BigB (w2.setRow T (bigV false (dig (Y - X)))) R false (dig 0) := (setRow_other _ _ _ _ (show R ≠ T by omega)).trans kR2
      have kS3 : BigB (w2.setRow T (bigV false (dig (Y - X)))) Q sy _ := (setRow_other _ _ _ _ (show Q ≠ T by omega)).trans kS2
      have hl3 : Later W (w2.setRow T (bigV false (dig (Y - X)))) := hl2.setRow (by omega) _
      obtain ⟨V3, hV3⟩ : ∃ V, V = w2.setRow T (bigV false (dig (Y - X))) := ⟨_, rfl⟩
      go_upto_region 9 with (refine wpList_store_row rfl 105 _ _ rfl T (bigV false (dig (Y - X))) rfl rfl 105 (bigV false (dig 0)) kT2 (size_big _ _) (by rw [bigV_size, bigV_size]) (bigV_one _ _) ?_)
      rw [← hV3] at kT3 kR3 kS3 hl3 ⊢
      clear hV3 kT2 kR2 kS2 hl2 h2
      have cs3 := kS3.sign
      have ct3 := kT3.sign
      have ft3 := kT3.frozen 0
      have kV := kT3.setSign sy
      have kRV : BigB (V3.setCell ⟨T, 0, none⟩ (.bool sy)) R false (dig 0) := (Below.heap_setCell _ _ _ R (by show R ≠ T; omega)).trans kR3
      have hlV : Later W (V3.setCell ⟨T, 0, none⟩ (.bool sy)) := hl3.setCell (by show W.heap.size ≤ T; omega) _
      obtain ⟨V, hV⟩ : ∃ V, V = V3.setCell ⟨T, 0, none⟩ (.bool sy) := ⟨_, rfl⟩
      go_upto_region 10 with fail
      rw [← hV] at kV kRV hlV ⊢
      clear hV cs3 ct3 ft3 kT3 kR3 kS3 hl3
      first | go_step3 | skip
      have hTl : Later W V := hlV
      obtain ⟨n, hn⟩ : ∃ n, Hid (decide ((Y - X) = 0) = n) := ⟨_, rfl⟩
      have hNn := Lib.hid (none_any sy (Y - X) V hL0)
      rw [hn.out] at hNn hEq
      obtain ⟨dN, hdN⟩ : ∃ d, Hid (dig (Y - X) = d) := ⟨_, rfl⟩
      rw [hdN.out] at hNn hEq kV
      clear hn hdN
      go_wp2_with (refine wpList_load_row rfl _ _ rfl T rfl _ _ (0, 0) _ kV Tryd.underlying105 rfl (size_big _ _) ?_)
      refine hNn.out.mono ?_
      rintro e w5 ⟨rfl, h5⟩
      have kV5 := kV.later h5
      have kR5 := kRV.later h5
      have hl5 := hlV.trans h5
      clear hNn kV kRV hlV hTl
      cases n
      · rw [show ((sy) && !false) = (sy) from by cases sy <;> rfl] at hEq
        go_wp2_with (first | refine wpList_load_row rfl _ _ rfl T rfl _ _ (0, 0) _ kV5 Tryd.underlying105 rfl (size_big _ _) ?_ | refine wpList_store_row rfl 105 _ _ rfl R (bigV sy dN) rfl rfl 105 (bigV false (dig 0)) kR5 (size_big _ _) (by rw [bigV_size, bigV_size]) (bigV_one _ _) ?_)
        exact bodyPost_ret (v := .agg (bigV sy dN)) (results_cell1 (a := 4) (t := 105) (by kernel_rfl) _ rfl (load_big (setRow_big kR5))) rfl ⟨by rw [hEq], hl5.setRow (by omega) _⟩
      · rw [show ((sy) && !true) = false from by cases sy <;> rfl] at hEq
        have cs5 := kV5.sign
        have fs5 := kV5.frozen 0
        go_upto_region 12 with fail
        have kV6 := kV5.setSign false
        have kR6 : BigB (w5.setCell ⟨T, 0, none⟩ (.bool false)) R false (dig 0) := (Below.heap_setCell _ _ _ R (by show R ≠ T; omega)).trans kR5
        have hl6 : Later W (w5.setCell ⟨T, 0, none⟩ (.bool false)) := hl5.setCell (by show W.heap.size ≤ T; omega) _
        obtain ⟨V6, hV6⟩ : ∃ V, V = w5.setCell ⟨T, 0, none⟩ (.bool false) := ⟨_, rfl⟩
        rw [← hV6] at kV6 kR6 hl6 ⊢
        clear hV6 cs5 fs5 kV5 kR5
        first | go_step3 | skip
        go_wp2_with (first | refine wpList_load_row rfl _ _ rfl T rfl _ _ (0, 0) _ kV6 Tryd.underlying105 rfl (size_big _ _) ?_ | refine wpList_store_row rfl 105 _ _ rfl R (bigV false dN) rfl rfl 105 (bigV false (dig 0)) kR6 (size_big _ _) (by rw [bigV_size, bigV_size]) (bigV_one _ _) ?_)
        exact bodyPost_ret (v := .agg (bigV false dN)) (results_cell1 (a := 4) (t := 105) (by kernel_rfl) _ rfl (load_big (setRow_big kR6))) rfl ⟨by rw [hEq], hl6.setRow (by omega) _⟩
end Go.Proofs.YtackbajbladhhaaDoor
