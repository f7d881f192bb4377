/-
  Numbers of 320 bits: sums; which is less.
  Numbers of 320 bits: of 64 bits; powers of 2.
  Numbers of 320 bits: products.
-/
import Derived.Test.YtackbajbladhhaaBgB1
namespace Go.Proofs.Ytackbajbladhhaa
open Go.RowKit Go.Shelf
set_option linter.unusedVariables false
set_option linter.unusedSimpArgs false
attribute [local go_sem] Oper.semAt_some
attribute [-simp] Try.sizeOf167 Try.typeInfo167
attribute [-go_sem] Instr.build

theorem sum_same {x y : Int} (h : decide (x < 0) = decide (y < 0)) : bigI (x + y) = bigV (decide (x < 0) && !decide (x.natAbs + y.natAbs = 0)) (dig (x.natAbs + y.natAbs)) := by
  unfold bigI
  by_cases hx : x < 0
  · have hy : y < 0 := by rw [decide_eq_true hx] at h; exact of_decide_eq_true h.symm
    rw [decide_eq_true hx, decide_eq_true (show x + y < 0 by omega), decide_eq_false (show ¬ x.natAbs + y.natAbs = 0 by omega), show (x + y).natAbs = x.natAbs + y.natAbs by omega]; rfl
  · have hy : ¬ y < 0 := by rw [decide_eq_false hx] at h; exact of_decide_eq_false h.symm
    rw [decide_eq_false hx, decide_eq_false (show ¬ x + y < 0 by omega), show (x + y).natAbs = x.natAbs + y.natAbs by omega]; rfl
theorem sum_less {x y : Int} (h : decide (x < 0) ≠ decide (y < 0)) (hl : x.natAbs < y.natAbs) : bigI (x + y) = bigV (decide (y < 0) && !decide (y.natAbs - x.natAbs = 0)) (dig (y.natAbs - x.natAbs)) := by
  unfold bigI
  rw [decide_eq_false (show ¬ y.natAbs - x.natAbs = 0 by omega)]
  by_cases hx : x < 0
  · have hy : ¬ y < 0 := fun hy => h (by rw [decide_eq_true hx, decide_eq_true hy])
    rw [decide_eq_false hy, decide_eq_false (show ¬ x + y < 0 by omega), show (x + y).natAbs = y.natAbs - x.natAbs by omega]; rfl
  · have hy : y < 0 := Decidable.byContradiction fun hy => h (by rw [decide_eq_false hx, decide_eq_false hy])
    rw [decide_eq_true hy, decide_eq_true (show x + y < 0 by omega), show (x + y).natAbs = y.natAbs - x.natAbs by omega]; rfl
theorem sum_more {x y : Int} (h : decide (x < 0) ≠ decide (y < 0)) (hl : ¬ x.natAbs < y.natAbs) : bigI (x + y) = bigV (decide (x < 0) && !decide (x.natAbs - y.natAbs = 0)) (dig (x.natAbs - y.natAbs)) := by
  unfold bigI
  by_cases hx : x < 0
  · have hy : ¬ y < 0 := fun hy => h (by rw [decide_eq_true hx, decide_eq_true hy])
    rw [decide_eq_true hx]
    by_cases e : x.natAbs - y.natAbs = 0
    · rw [decide_eq_true e, decide_eq_false (show ¬ x + y < 0 by omega), show (x + y).natAbs = x.natAbs - y.natAbs by omega]; rfl
    · rw [decide_eq_false e, decide_eq_true (show x + y < 0 by omega), show (x + y).natAbs = x.natAbs - y.natAbs by omega]; rfl
  · have hy : y < 0 := Decidable.byContradiction fun hy => h (by rw [decide_eq_false hx, decide_eq_false hy])
    rw [decide_eq_false hx, decide_eq_false (show ¬ x + y < 0 by omega), show (x + y).natAbs = x.natAbs - y.natAbs by omega]; rfl

set_option maxRecDepth 100000 in
set_option maxHeartbeats 2000000 in
theorem badd_any (x y : Int) (W : World) (h : x.natAbs + y.natAbs < bP 20) :
    Calls Try.prog 116 #[.agg (bigI x), .agg (bigI y)] W fun e w' => e = .returned (.agg (bigI (x + y))) ∧ Later W w' := by
  have e1 := Lib.hid (sum_same (x := x) (y := y))
  have e2 := Lib.hid (sum_less (x := x) (y := y))
  have e3 := Lib.hid (sum_more (x := x) (y := y))
  obtain ⟨B0, hB0⟩ : ∃ B, Hid (bigI (x + y) = B) := ⟨_, rfl⟩
  rw [hB0.out] at e1 e2 e3 ⊢
  unfold bigI
  obtain ⟨X, hX⟩ : ∃ X, Hid (x.natAbs = X) := ⟨_, rfl⟩
  obtain ⟨Y, hY⟩ : ∃ X, Hid (y.natAbs = X) := ⟨_, rfl⟩
  obtain ⟨sx, hsx⟩ : ∃ X, Hid (decide (x < 0) = X) := ⟨_, rfl⟩
  obtain ⟨sy, hsy⟩ : ∃ X, Hid (decide (y < 0) = X) := ⟨_, rfl⟩
  rw [hX.out, hY.out] at e1 e2 e3 h
  rw [hX.out, hY.out]
  rw [hsx.out, hsy.out] at e1 e2 e3
  rw [hsx.out, hsy.out]
  clear hX hY hsx hsy hB0
  have hM := Lib.hid (fun V => more_any sx sy X Y V h)
  have hA1 := Lib.hid (fun V (hl : X < Y) => away_any sy sx Y X V (by omega) (by omega))
  have hA2 := Lib.hid (fun V (hl : ¬ X < Y) => away_any sx sy X Y V (by omega) (by omega))
  have hLs := Lib.hid (fun V => less_any sx sy X Y V (by omega) (by omega))
  have hNx : X + Y < bP 20 := h
  obtain ⟨bx, hbx⟩ : ∃ b, Hid (bigV sx (dig X) = b) := ⟨_, rfl⟩
  obtain ⟨by', hby⟩ : ∃ b, Hid (bigV sy (dig Y) = b) := ⟨_, rfl⟩
  rw [hbx.out, hby.out]
  go_enter Try.func116, Try.ntmps116
  go_upto_region 4 with fail
  obtain ⟨Z0, hZ0⟩ : ∃ Z, Z = (((W.alloc (.cells bx 167)).alloc (.cells by' 167)).alloc (.cells #[.bool false, .int .u64 0, .int .u64 0, .int .u64 0, .int .u64 0, .int .u64 0, .int .u64 0, .int .u64 0, .int .u64 0, .int .u64 0, .int .u64 0, .int .u64 0, .int .u64 0, .int .u64 0, .int .u64 0, .int .u64 0, .int .u64 0, .int .u64 0, .int .u64 0, .int .u64 0, .int .u64 0] 167)).alloc (.cells #[.bool false, .int .u64 0, .int .u64 0, .int .u64 0, .int .u64 0, .int .u64 0, .int .u64 0, .int .u64 0, .int .u64 0, .int .u64 0, .int .u64 0, .int .u64 0, .int .u64 0, .int .u64 0, .int .u64 0, .int .u64 0, .int .u64 0, .int .u64 0, .int .u64 0, .int .u64 0, .int .u64 0] 167) := ⟨_, rfl⟩
  have hlZ : Later W Z0 := by rw [hZ0]; exact ((((Later.refl W).alloc _).alloc _).alloc _).alloc _
  have kA : BigB Z0 W.heap.size sx (dig X) := by unfold BigB; rw [hbx.out, hZ0]; exact push_one (push_one (push_one (heap_alloc_new _ _) _) _) _
  have kB : BigB Z0 (W.heap.size + 1) sy (dig Y) := by unfold BigB; rw [hby.out, hZ0]; exact push_one (push_one (push_new _ _ (by simp)) _) _
  have kR : BigB Z0 (W.heap.size + 1 + 1) false (dig 0) := by unfold BigB; rw [big_zero, hZ0]; exact push_one (push_new _ _ (by simp)) _
  have kT : BigB Z0 (W.heap.size + 1 + 1 + 1) false (dig 0) := by unfold BigB; rw [big_zero, hZ0]; exact push_new _ _ (by simp)
  rw [← hZ0]
  clear hZ0 hbx hby
  obtain ⟨P, hP⟩ : ∃ n, Hid (W.heap.size = n) := ⟨_, rfl⟩
  obtain ⟨Q, hQ⟩ : ∃ n, Hid (P + 1 = n) := ⟨_, rfl⟩
  obtain ⟨R, hR⟩ : ∃ n, Hid (Q + 1 = n) := ⟨_, rfl⟩
  obtain ⟨T, hT⟩ : ∃ n, Hid (R + 1 = n) := ⟨_, rfl⟩
  have hWP : W.heap.size ≤ P := Nat.le_of_eq hP.out
  have hPQ : P < Q := by have := hQ.out; omega
  have hQR : Q < R := by have := hR.out; omega
  have hRT : R < T := by have := hT.out; omega
  rw [hP.out] at kA kB kR kT ⊢
  rw [hQ.out] at kB kR kT ⊢
  rw [hR.out] at kR kT ⊢
  rw [hT.out] at kT ⊢
  clear hP hQ hR hT
  have ca := kA.sign
  have cb := kB.sign
  by_cases hs : sx = sy
  · have hEq := e1.out hs
    subst hs
    have hss : (sx == sx) = true := by simp
    clear e1 e2 e3 hLs hA1 hA2
    go_wp2_with (first | refine wpList_load_row rfl _ _ rfl P rfl _ _ (0, 0) _ kA Try.underlying167 rfl (size_big _ _) ?_ | refine wpList_load_row rfl _ _ rfl Q rfl _ _ (0, 0) _ kB Try.underlying167 rfl (size_big _ _) ?_)
    refine (hM.out _).mono ?_
    rintro e w2 ⟨rfl, h2⟩
    have kT2 := kT.later h2
    have kR2 := kR.later h2
    have kS2 := BigB.later kA h2
    have hl2 := hlZ.trans h2
    clear kA kB kT kR hlZ ca cb
    have kT3 : BigB (w2.setRow T (bigV false (dig (X + Y)))) T false (dig (X + Y)) := setRow_big kT2
    have kR3 : BigB (w2.setRow T (bigV false (dig (X + Y)))) R false (dig 0) := (setRow_other _ _ _ _ (show R ≠ T by omega)).trans kR2
    have kS3 : BigB (w2.setRow T (bigV false (dig (X + Y)))) P sx _ := (setRow_other _ _ _ _ (show P ≠ T by omega)).trans kS2
    have hl3 : Later W (w2.setRow T (bigV false (dig (X + Y)))) := hl2.setRow (by omega) _
    obtain ⟨V3, hV3⟩ : ∃ V, V = w2.setRow T (bigV false (dig (X + Y))) := ⟨_, rfl⟩
    go_upto_region 6 with (refine wpList_store_row rfl 167 _ _ rfl T (bigV false (dig (X + Y))) rfl rfl 167 (bigV false (dig 0)) kT2 (size_big _ _) (by rw [bigV_size, bigV_size]) (bigV_one _ _) ?_)
    rw [← hV3] at kT3 kR3 kS3 hl3 ⊢
    clear hV3 kT2 kR2 kS2 hl2 h2
    have cs3 := kS3.sign
    have ct3 := kT3.sign
    have ft3 := kT3.frozen 0
    have kV := kT3.setSign sx
    have kRV : BigB (V3.setCell ⟨T, 0, none⟩ (.bool sx)) R false (dig 0) := (Below.heap_setCell _ _ _ R (by show R ≠ T; omega)).trans kR3
    have hlV : Later W (V3.setCell ⟨T, 0, none⟩ (.bool sx)) := hl3.setCell (by show W.heap.size ≤ T; omega) _
    obtain ⟨V, hV⟩ : ∃ V, V = V3.setCell ⟨T, 0, none⟩ (.bool sx) := ⟨_, rfl⟩
    go_upto_region 10 with fail
    rw [← hV] at kV kRV hlV ⊢
    clear hV cs3 ct3 ft3 kT3 kR3 kS3 hl3
    first | go_step3 | skip
    have hTl : Later W V := hlV
    obtain ⟨n, hn⟩ : ∃ n, Hid (decide ((X + Y) = 0) = n) := ⟨_, rfl⟩
    have hNn := Lib.hid (none_any sx (X + Y) V hNx)
    rw [hn.out] at hNn hEq
    obtain ⟨dN, hdN⟩ : ∃ d, Hid (dig (X + Y) = d) := ⟨_, rfl⟩
    rw [hdN.out] at hNn hEq kV
    clear hn hdN
    go_wp2_with (refine wpList_load_row rfl _ _ rfl T rfl _ _ (0, 0) _ kV Try.underlying167 rfl (size_big _ _) ?_)
    refine hNn.out.mono ?_
    rintro e w5 ⟨rfl, h5⟩
    have kV5 := kV.later h5
    have kR5 := kRV.later h5
    have hl5 := hlV.trans h5
    clear hNn kV kRV hlV hTl
    cases n
    · rw [show ((sx) && !false) = (sx) from by cases sx <;> rfl] at hEq
      go_wp2_with (first | refine wpList_load_row rfl _ _ rfl T rfl _ _ (0, 0) _ kV5 Try.underlying167 rfl (size_big _ _) ?_ | refine wpList_store_row rfl 167 _ _ rfl R (bigV sx dN) rfl rfl 167 (bigV false (dig 0)) kR5 (size_big _ _) (by rw [bigV_size, bigV_size]) (bigV_one _ _) ?_)
      exact bodyPost_ret (v := .agg (bigV sx dN)) (results_cell1 (a := 4) (t := 167) (by kernel_rfl) _ rfl (load_big (setRow_big kR5))) rfl ⟨by rw [hEq], hl5.setRow (by omega) _⟩
    · rw [show ((sx) && !true) = false from by cases sx <;> rfl] at hEq
      have cs5 := kV5.sign
      have fs5 := kV5.frozen 0
      go_upto_region 12 with fail
      have kV6 := kV5.setSign false
      have kR6 : BigB (w5.setCell ⟨T, 0, none⟩ (.bool false)) R false (dig 0) := (Below.heap_setCell _ _ _ R (by show R ≠ T; omega)).trans kR5
      have hl6 : Later W (w5.setCell ⟨T, 0, none⟩ (.bool false)) := hl5.setCell (by show W.heap.size ≤ T; omega) _
      obtain ⟨V6, hV6⟩ : ∃ V, V = w5.setCell ⟨T, 0, none⟩ (.bool false) := ⟨_, rfl⟩
      rw [← hV6] at kV6 kR6 hl6 ⊢
      clear hV6 cs5 fs5 kV5 kR5
      first | go_step3 | skip
      go_wp2_with (first | refine wpList_load_row rfl _ _ rfl T rfl _ _ (0, 0) _ kV6 Try.underlying167 rfl (size_big _ _) ?_ | refine wpList_store_row rfl 167 _ _ rfl R (bigV false dN) rfl rfl 167 (bigV false (dig 0)) kR6 (size_big _ _) (by rw [bigV_size, bigV_size]) (bigV_one _ _) ?_)
      exact bodyPost_ret (v := .agg (bigV false dN)) (results_cell1 (a := 4) (t := 167) (by kernel_rfl) _ rfl (load_big (setRow_big kR6))) rfl ⟨by rw [hEq], hl6.setRow (by omega) _⟩
  · have hss : (sx == sy) = false := by
      cases sx <;> cases sy <;> simp_all
    obtain ⟨l, hl⟩ : ∃ l, Hid (decide (X < Y) = l) := ⟨_, rfl⟩
    rw [hl.out] at hLs
    cases l
    · have hlt : ¬ X < Y := of_decide_eq_false hl.out
      have hEq := e3.out hs hlt
      clear e1 e2 e3 hM hA1 hs
      have hL0 : X - Y < bP 20 := by omega
      replace hA2 := Lib.hid (fun V => hA2.out V hlt)
      go_wp2_with (first | refine wpList_load_row rfl _ _ rfl P rfl _ _ (0, 0) _ kA Try.underlying167 rfl (size_big _ _) ?_ | refine wpList_load_row rfl _ _ rfl Q rfl _ _ (0, 0) _ kB Try.underlying167 rfl (size_big _ _) ?_)
      refine (hLs.out _).mono ?_
      rintro e w1 ⟨rfl, h1⟩
      replace kA := kA.later h1
      replace kB := kB.later h1
      replace kT := kT.later h1
      replace kR := kR.later h1
      replace hlZ := hlZ.trans h1
      replace ca := kA.sign
      replace cb := kB.sign
      clear hLs h1
      go_wp2_with (first | refine wpList_load_row rfl _ _ rfl P rfl _ _ (0, 0) _ kA Try.underlying167 rfl (size_big _ _) ?_ | refine wpList_load_row rfl _ _ rfl Q rfl _ _ (0, 0) _ kB Try.underlying167 rfl (size_big _ _) ?_)
      refine (hA2.out _).mono ?_
      rintro e w2 ⟨rfl, h2⟩
      have kT2 := kT.later h2
      have kR2 := kR.later h2
      have kS2 := BigB.later kA h2
      have hl2 := hlZ.trans h2
      clear kA kB kT kR hlZ ca cb
      have kT3 : BigB (w2.setRow T (bigV false (dig (X - Y)))) T false (dig (X - Y)) := setRow_big kT2
      have kR3 : BigB (w2.setRow T (bigV false (dig (X - Y)))) R false (dig 0) := (setRow_other _ _ _ _ (show R ≠ T by omega)).trans kR2
      have kS3 : BigB (w2.setRow T (bigV false (dig (X - Y)))) P sx _ := (setRow_other _ _ _ _ (show P ≠ T by omega)).trans kS2
      have hl3 : Later W (w2.setRow T (bigV false (dig (X - Y)))) := hl2.setRow (by omega) _
      obtain ⟨V3, hV3⟩ : ∃ V, V = w2.setRow T (bigV false (dig (X - Y))) := ⟨_, rfl⟩
      go_upto_region 3 with (refine wpList_store_row rfl 167 _ _ rfl T (bigV false (dig (X - Y))) rfl rfl 167 (bigV false (dig 0)) kT2 (size_big _ _) (by rw [bigV_size, bigV_size]) (bigV_one _ _) ?_)
      rw [← hV3] at kT3 kR3 kS3 hl3 ⊢
      clear hV3 kT2 kR2 kS2 hl2 h2
      have cs3 := kS3.sign
      have ct3 := kT3.sign
      have ft3 := kT3.frozen 0
      have kV := kT3.setSign sx
      have kRV : BigB (V3.setCell ⟨T, 0, none⟩ (.bool sx)) R false (dig 0) := (Below.heap_setCell _ _ _ R (by show R ≠ T; omega)).trans kR3
      have hlV : Later W (V3.setCell ⟨T, 0, none⟩ (.bool sx)) := hl3.setCell (by show W.heap.size ≤ T; omega) _
      obtain ⟨V, hV⟩ : ∃ V, V = V3.setCell ⟨T, 0, none⟩ (.bool sx) := ⟨_, rfl⟩
      go_upto_region 10 with fail
      rw [← hV] at kV kRV hlV ⊢
      clear hV cs3 ct3 ft3 kT3 kR3 kS3 hl3
      first | go_step3 | skip
      have hTl : Later W V := hlV
      obtain ⟨n, hn⟩ : ∃ n, Hid (decide ((X - Y) = 0) = n) := ⟨_, rfl⟩
      have hNn := Lib.hid (none_any sx (X - Y) V hL0)
      rw [hn.out] at hNn hEq
      obtain ⟨dN, hdN⟩ : ∃ d, Hid (dig (X - Y) = d) := ⟨_, rfl⟩
      rw [hdN.out] at hNn hEq kV
      clear hn hdN
      go_wp2_with (refine wpList_load_row rfl _ _ rfl T rfl _ _ (0, 0) _ kV Try.underlying167 rfl (size_big _ _) ?_)
      refine hNn.out.mono ?_
      rintro e w5 ⟨rfl, h5⟩
      have kV5 := kV.later h5
      have kR5 := kRV.later h5
      have hl5 := hlV.trans h5
      clear hNn kV kRV hlV hTl
      cases n
      · rw [show ((sx) && !false) = (sx) from by cases sx <;> rfl] at hEq
        go_wp2_with (first | refine wpList_load_row rfl _ _ rfl T rfl _ _ (0, 0) _ kV5 Try.underlying167 rfl (size_big _ _) ?_ | refine wpList_store_row rfl 167 _ _ rfl R (bigV sx dN) rfl rfl 167 (bigV false (dig 0)) kR5 (size_big _ _) (by rw [bigV_size, bigV_size]) (bigV_one _ _) ?_)
        exact bodyPost_ret (v := .agg (bigV sx dN)) (results_cell1 (a := 4) (t := 167) (by kernel_rfl) _ rfl (load_big (setRow_big kR5))) rfl ⟨by rw [hEq], hl5.setRow (by omega) _⟩
      · rw [show ((sx) && !true) = false from by cases sx <;> rfl] at hEq
        have cs5 := kV5.sign
        have fs5 := kV5.frozen 0
        go_upto_region 12 with fail
        have kV6 := kV5.setSign false
        have kR6 : BigB (w5.setCell ⟨T, 0, none⟩ (.bool false)) R false (dig 0) := (Below.heap_setCell _ _ _ R (by show R ≠ T; omega)).trans kR5
        have hl6 : Later W (w5.setCell ⟨T, 0, none⟩ (.bool false)) := hl5.setCell (by show W.heap.size ≤ T; omega) _
        obtain ⟨V6, hV6⟩ : ∃ V, V = w5.setCell ⟨T, 0, none⟩ (.bool false) := ⟨_, rfl⟩
        rw [← hV6] at kV6 kR6 hl6 ⊢
        clear hV6 cs5 fs5 kV5 kR5
        first | go_step3 | skip
        go_wp2_with (first | refine wpList_load_row rfl _ _ rfl T rfl _ _ (0, 0) _ kV6 Try.underlying167 rfl (size_big _ _) ?_ | refine wpList_store_row rfl 167 _ _ rfl R (bigV false dN) rfl rfl 167 (bigV false (dig 0)) kR6 (size_big _ _) (by rw [bigV_size, bigV_size]) (bigV_one _ _) ?_)
        exact bodyPost_ret (v := .agg (bigV false dN)) (results_cell1 (a := 4) (t := 167) (by kernel_rfl) _ rfl (load_big (setRow_big kR6))) rfl ⟨by rw [hEq], hl6.setRow (by omega) _⟩
    · have hlt : X < Y := of_decide_eq_true hl.out
      have hEq := e2.out hs hlt
      clear e1 e2 e3 hM hA2 hs
      have hL0 : Y - X < bP 20 := by omega
      replace hA1 := Lib.hid (fun V => hA1.out V hlt)
      go_wp2_with (first | refine wpList_load_row rfl _ _ rfl P rfl _ _ (0, 0) _ kA Try.underlying167 rfl (size_big _ _) ?_ | refine wpList_load_row rfl _ _ rfl Q rfl _ _ (0, 0) _ kB Try.underlying167 rfl (size_big _ _) ?_)
      refine (hLs.out _).mono ?_
      rintro e w1 ⟨rfl, h1⟩
      replace kA := kA.later h1
      replace kB := kB.later h1
      replace kT := kT.later h1
      replace kR := kR.later h1
      replace hlZ := hlZ.trans h1
      replace ca := kA.sign
      replace cb := kB.sign
      clear hLs h1
      go_wp2_with (first | refine wpList_load_row rfl _ _ rfl P rfl _ _ (0, 0) _ kA Try.underlying167 rfl (size_big _ _) ?_ | refine wpList_load_row rfl _ _ rfl Q rfl _ _ (0, 0) _ kB Try.underlying167 rfl (size_big _ _) ?_)
      refine (hA1.out _).mono ?_
      rintro e w2 ⟨rfl, h2⟩
      have kT2 := kT.later h2
      have kR2 := kR.later h2
      have kS2 := BigB.later kB h2
      have hl2 := hlZ.trans h2
      clear kA kB kT kR hlZ ca cb
      have kT3 : BigB (w2.setRow T (bigV false (dig (Y - X)))) T false (dig (Y - X)) := setRow_big kT2
      have kR3 : BigB (w2.setRow T (bigV false (dig (Y - X)))) R false (dig 0) := (setRow_other _ _ _ _ (show R ≠ T by omega)).trans kR2
      have kS3 : BigB (w2.setRow T (bigV false (dig (Y - X)))) Q sy _ := (setRow_other _ _ _ _ (show Q ≠ T by omega)).trans kS2
      have hl3 : Later W (w2.setRow T (bigV false (dig (Y - X)))) := hl2.setRow (by omega) _
      obtain ⟨V3, hV3⟩ : ∃ V, V = w2.setRow T (bigV false (dig (Y - X))) := ⟨_, rfl⟩
      go_upto_region 9 with (refine wpList_store_row rfl 167 _ _ rfl T (bigV false (dig (Y - X))) rfl rfl 167 (bigV false (dig 0)) kT2 (size_big _ _) (by rw [bigV_size, bigV_size]) (bigV_one _ _) ?_)
      rw [← hV3] at kT3 kR3 kS3 hl3 ⊢
      clear hV3 kT2 kR2 kS2 hl2 h2
      have cs3 := kS3.sign
      have ct3 := kT3.sign
      have ft3 := kT3.frozen 0
      have kV := kT3.setSign sy
      have kRV : BigB (V3.setCell ⟨T, 0, none⟩ (.bool sy)) R false (dig 0) := (Below.heap_setCell _ _ _ R (by show R ≠ T; omega)).trans kR3
      have hlV : Later W (V3.setCell ⟨T, 0, none⟩ (.bool sy)) := hl3.setCell (by show W.heap.size ≤ T; omega) _
      obtain ⟨V, hV⟩ : ∃ V, V = V3.setCell ⟨T, 0, none⟩ (.bool sy) := ⟨_, rfl⟩
      go_upto_region 10 with fail
      rw [← hV] at kV kRV hlV ⊢
      clear hV cs3 ct3 ft3 kT3 kR3 kS3 hl3
      first | go_step3 | skip
      have hTl : Later W V := hlV
      obtain ⟨n, hn⟩ : ∃ n, Hid (decide ((Y - X) = 0) = n) := ⟨_, rfl⟩
      have hNn := Lib.hid (none_any sy (Y - X) V hL0)
      rw [hn.out] at hNn hEq
      obtain ⟨dN, hdN⟩ : ∃ d, Hid (dig (Y - X) = d) := ⟨_, rfl⟩
      rw [hdN.out] at hNn hEq kV
      clear hn hdN
      go_wp2_with (refine wpList_load_row rfl _ _ rfl T rfl _ _ (0, 0) _ kV Try.underlying167 rfl (size_big _ _) ?_)
      refine hNn.out.mono ?_
      rintro e w5 ⟨rfl, h5⟩
      have kV5 := kV.later h5
      have kR5 := kRV.later h5
      have hl5 := hlV.trans h5
      clear hNn kV kRV hlV hTl
      cases n
      · rw [show ((sy) && !false) = (sy) from by cases sy <;> rfl] at hEq
        go_wp2_with (first | refine wpList_load_row rfl _ _ rfl T rfl _ _ (0, 0) _ kV5 Try.underlying167 rfl (size_big _ _) ?_ | refine wpList_store_row rfl 167 _ _ rfl R (bigV sy dN) rfl rfl 167 (bigV false (dig 0)) kR5 (size_big _ _) (by rw [bigV_size, bigV_size]) (bigV_one _ _) ?_)
        exact bodyPost_ret (v := .agg (bigV sy dN)) (results_cell1 (a := 4) (t := 167) (by kernel_rfl) _ rfl (load_big (setRow_big kR5))) rfl ⟨by rw [hEq], hl5.setRow (by omega) _⟩
      · rw [show ((sy) && !true) = false from by cases sy <;> rfl] at hEq
        have cs5 := kV5.sign
        have fs5 := kV5.frozen 0
        go_upto_region 12 with fail
        have kV6 := kV5.setSign false
        have kR6 : BigB (w5.setCell ⟨T, 0, none⟩ (.bool false)) R false (dig 0) := (Below.heap_setCell _ _ _ R (by show R ≠ T; omega)).trans kR5
        have hl6 : Later W (w5.setCell ⟨T, 0, none⟩ (.bool false)) := hl5.setCell (by show W.heap.size ≤ T; omega) _
        obtain ⟨V6, hV6⟩ : ∃ V, V = w5.setCell ⟨T, 0, none⟩ (.bool false) := ⟨_, rfl⟩
        rw [← hV6] at kV6 kR6 hl6 ⊢
        clear hV6 cs5 fs5 kV5 kR5
        first | go_step3 | skip
        go_wp2_with (first | refine wpList_load_row rfl _ _ rfl T rfl _ _ (0, 0) _ kV6 Try.underlying167 rfl (size_big _ _) ?_ | refine wpList_store_row rfl 167 _ _ rfl R (bigV false dN) rfl rfl 167 (bigV false (dig 0)) kR6 (size_big _ _) (by rw [bigV_size, bigV_size]) (bigV_one _ _) ?_)
        exact bodyPost_ret (v := .agg (bigV false dN)) (results_cell1 (a := 4) (t := 167) (by kernel_rfl) _ rfl (load_big (setRow_big kR6))) rfl ⟨by rw [hEq], hl6.setRow (by omega) _⟩
end Go.Proofs.Ytackbajbladhhaa
namespace Go.Proofs.Ytackbajbladhhaa
open Go.RowKit Go.Shelf
set_option linter.unusedVariables false
set_option linter.unusedSimpArgs false
attribute [local go_sem] Oper.semAt_some
attribute [-simp] Try.sizeOf167 Try.typeInfo167
attribute [-go_sem] Instr.build

theorem build_big (s : Bool) (w : World) : (Instr.build 167 #[(0, .bool s)]).run Try.prog w = .ok (.agg (bigV s (fun _ => 0))) w := by kernel_rfl
set_option maxRecDepth 100000 in
set_option maxHeartbeats 2000000 in
theorem bof_any (n : Int) (W : World) (hn : -9223372036854775808 ≤ n ∧ n ≤ 9223372036854775807) :
    Calls Try.prog 114 #[.int .i64 n] W fun e w' => e = .returned (.agg (bigI n)) ∧ Later W w' := by
  unfold bigI
  obtain ⟨X, hX⟩ : ∃ X, Hid (n.natAbs = X) := ⟨_, rfl⟩
  obtain ⟨s, hs⟩ : ∃ X, Hid (decide (n < 0) = X) := ⟨_, rfl⟩
  rw [hX.out, hs.out]
  have hXb : X ≤ 9223372036854775808 := by have := hX.out; omega
  have hb := build_big s
  have hz := bigV_dig0 s
  obtain ⟨u, hu⟩ : ∃ b, Hid (IntKind.u64.wrap n = b) := ⟨_, rfl⟩
  have hub : 0 ≤ u ∧ u < 18446744073709551616 := by have := hu.out; rw [IntKind.wrap_u64] at this; omega
  have huX : if s then u = 18446744073709551616 - (X : Int) else u = X := by
    have h1 := hu.out
    rw [IntKind.wrap_u64] at h1
    have h2 := hX.out
    have h3 := hs.out
    cases s
    · have := of_decide_eq_false h3; simp only [Bool.false_eq_true, if_false]; omega
    · have := of_decide_eq_true h3; simp only [if_true]; omega
  have huc : ∀ w, (convert 2 105 (.int .i64 n)).run Try.prog w = .ok (.int .u64 u) w := fun w => by
    rw [← hu.out]; go_simp
  rw [hz] at hb
  obtain ⟨bs, hbs⟩ : ∃ b, Hid (bigV s (dig 0) = b) := ⟨_, rfl⟩
  rw [hbs.out] at hb
  obtain ⟨Z0, hZ0⟩ : ∃ Z, Z = (W.alloc (.cells #[.bool false, .int .u64 0, .int .u64 0, .int .u64 0, .int .u64 0, .int .u64 0, .int .u64 0, .int .u64 0, .int .u64 0, .int .u64 0, .int .u64 0, .int .u64 0, .int .u64 0, .int .u64 0, .int .u64 0, .int .u64 0, .int .u64 0, .int .u64 0, .int .u64 0, .int .u64 0, .int .u64 0] 167)).alloc (.cells bs 167) := ⟨_, rfl⟩
  have hlZ : Later W Z0 := by rw [hZ0]; exact ((Later.refl W).alloc _).alloc _
  have kR : BigB Z0 W.heap.size false (dig 0) := by unfold BigB; rw [big_zero, hZ0]; exact push_one (heap_alloc_new _ _) _
  have kT : BigB Z0 (W.heap.size + 1) s (dig 0) := by unfold BigB; rw [hbs.out, hZ0]; exact push_new _ _ (by simp)
  have hnew := heap_alloc_new (W.alloc (.cells #[.bool false, .int .u64 0, .int .u64 0, .int .u64 0, .int .u64 0, .int .u64 0, .int .u64 0, .int .u64 0, .int .u64 0, .int .u64 0, .int .u64 0, .int .u64 0, .int .u64 0, .int .u64 0, .int .u64 0, .int .u64 0, .int .u64 0, .int .u64 0, .int .u64 0, .int .u64 0, .int .u64 0] 167)) (.cells #[.bool false, .int .u64 0, .int .u64 0, .int .u64 0, .int .u64 0, .int .u64 0, .int .u64 0, .int .u64 0, .int .u64 0, .int .u64 0, .int .u64 0, .int .u64 0, .int .u64 0, .int .u64 0, .int .u64 0, .int .u64 0, .int .u64 0, .int .u64 0, .int .u64 0, .int .u64 0, .int .u64 0] 167)
  rw [World.size_alloc] at hnew
  have hbsz : bs.size = 21 := by rw [← hbs.out, bigV_size]
  have hb1 : bs.all (·.oneCell') = true := by rw [← hbs.out]; exact bigV_one _ _
  have hsd : s = decide (n < 0) := hs.out.symm
  replace hnew := Lib.hid hnew
  replace huX := Lib.hid huX
  replace hb1 := Lib.hid hb1
  replace hbsz := Lib.hid hbsz
  replace hsd := Lib.hid hsd
  clear hX hu hs hbs hz
  have hsr : (((W.alloc (.cells #[.bool false, .int .u64 0, .int .u64 0, .int .u64 0, .int .u64 0, .int .u64 0, .int .u64 0, .int .u64 0, .int .u64 0, .int .u64 0, .int .u64 0, .int .u64 0, .int .u64 0, .int .u64 0, .int .u64 0, .int .u64 0, .int .u64 0, .int .u64 0, .int .u64 0, .int .u64 0, .int .u64 0] 167)).alloc (.cells #[.bool false, .int .u64 0, .int .u64 0, .int .u64 0, .int .u64 0, .int .u64 0, .int .u64 0, .int .u64 0, .int .u64 0, .int .u64 0, .int .u64 0, .int .u64 0, .int .u64 0, .int .u64 0, .int .u64 0, .int .u64 0, .int .u64 0, .int .u64 0, .int .u64 0, .int .u64 0, .int .u64 0] 167)).setRow (W.heap.size + 1) bs) = Z0 := by
    rw [hZ0, ← World.size_alloc W (.cells #[.bool false, .int .u64 0, .int .u64 0, .int .u64 0, .int .u64 0, .int .u64 0, .int .u64 0, .int .u64 0, .int .u64 0, .int .u64 0, .int .u64 0, .int .u64 0, .int .u64 0, .int .u64 0, .int .u64 0, .int .u64 0, .int .u64 0, .int .u64 0, .int .u64 0, .int .u64 0, .int .u64 0] 167), World.setRow_alloc_new]
  obtain ⟨R, hR⟩ : ∃ n, Hid (W.heap.size = n) := ⟨_, rfl⟩
  obtain ⟨T, hT⟩ : ∃ n, Hid (R + 1 = n) := ⟨_, rfl⟩
  have hWR : W.heap.size ≤ R := Nat.le_of_eq hR.out
  have hRT : R < T := by have := hT.out; omega
  replace hsr := Lib.hid hsr
  clear hZ0
  go_enter Try.func114, Try.ntmps114
  go_upto_region 1 with fail
  cases s
  · have hn0 : ¬ n < 0 := of_decide_eq_false hsd.out.symm
    have hn1 : decide (n < 0) = false := hsd.out.symm
    go_upto_region 2 with (refine wpList_store_row rfl 167 _ _ rfl (W.heap.size + 1) bs rfl rfl 167 #[.bool false, .int .u64 0, .int .u64 0, .int .u64 0, .int .u64 0, .int .u64 0, .int .u64 0, .int .u64 0, .int .u64 0, .int .u64 0, .int .u64 0, .int .u64 0, .int .u64 0, .int .u64 0, .int .u64 0, .int .u64 0, .int .u64 0, .int .u64 0, .int .u64 0, .int .u64 0, .int .u64 0] hnew.out (by rw [hbsz.out]; exact info_big) (by rw [hbsz.out]; rfl) hb1.out ?_)
    rw [hsr.out]
    clear hsr hnew hb
    rw [hR.out] at kR kT ⊢
    rw [hT.out] at kT ⊢
    go_wp2_with fail
    rw [show u = (X : Int) from huX.out]
    go_loopw [5, 4] (fun y z wr => ∃ k : Nat, k ≤ 4 ∧ y = .int .i64 k ∧ z = .int .u64 ((X / bP k : Nat) : Int) ∧ BigB wr T false (dig (X % bP k)) ∧ Keeps4 Z0 wr T) (fun y _ _ => (300 - intOf y).toNat)
    case atStart => exact ⟨0, by omega, rfl, by rw [bP_zero, Nat.div_one]; first | done | rfl | rw [show IntKind.u64.wrap (X : Int) = X from by rw [IntKind.wrap_u64]; omega], by rw [bP_zero, Nat.mod_one]; exact kT, Keeps4.refl _ _⟩
    case round =>
      obtain ⟨k, hk, rfl, rfl, kTr, hkp⟩ := hrel
      obtain ⟨wo, rfl⟩ : ∃ wo : World, wo = wr := ⟨_, rfl⟩
      by_cases hk4 : k < 4
      · obtain ⟨q, hq⟩ : ∃ q, Hid (X / bP k = q) := ⟨_, rfl⟩
        have hqb : q ≤ 9223372036854775808 := by rw [← hq.out]; exact Nat.le_trans (Nat.div_le_self _ _) hXb
        rw [hq.out]
        have cT := BigB.at1 kTr (k := k) (by omega)
        have fT := BigB.frozen kTr (1 + k)
        have hki : (k : Int) < 4 := by omega
        have hqi : (q : Int) ≤ 9223372036854775808 := by omega
        go_wp2_with fail
        go_roundw
        case rel =>
          have h1 : (q : Int) % 65536 = ((dig X k : Nat) : Int) := by unfold dig; rw [hq.out]; omega
          have h2 : (q : Int) / 65536 = ((X / bP (k + 1) : Nat) : Int) := by rw [bP_succ, ← Nat.div_div_eq_div_mul, hq.out]; omega
          rw [h1, h2]
          refine ⟨k + 1, by omega, by go_num, rfl, ?_, hkp.trans (Keeps4.set _ _ _ _)⟩
          rw [mod_next]
          exact BigB.ext (BigB.set1 kTr (show k < 20 by omega) _) (fun j _ => dig_put (Nat.mod_lt _ (bP_pos k)) (dig_lt _ _) j)
        case measure => simp [intOf]; omega
      · obtain rfl : k = 4 := by omega
        rw [Nat.mod_eq_of_lt (show X < bP 4 from Nat.lt_of_le_of_lt hXb (by decide))] at kTr
        have kRr := hkp.keep (by omega) kR
        go_wp2_with (first | refine wpList_load_row rfl _ _ rfl T rfl _ _ (0, 0) _ kTr Try.underlying167 rfl (size_big _ _) ?_ | refine wpList_store_row rfl 167 _ _ rfl R (bigV false (dig X)) rfl rfl 167 (bigV false (dig 0)) kRr (size_big _ _) (by rw [bigV_size, bigV_size]) (bigV_one _ _) ?_)
        exact bodyPost_ret (v := .agg (bigV false (dig X))) (results_cell1 (a := 2) (t := 167) (by kernel_rfl) _ rfl (load_big (setRow_big kRr))) rfl ⟨rfl, (hkp.to_later hlZ (by omega)).setRow (by omega) _⟩
  · have hn0 : n < 0 := of_decide_eq_true hsd.out.symm
    have hn1 : decide (n < 0) = true := hsd.out.symm
    have hu2 : u = 18446744073709551616 - (X : Int) := huX.out
    have hX1 : 1 ≤ (X : Int) := by omega
    go_upto_region 2 with (refine wpList_store_row rfl 167 _ _ rfl (W.heap.size + 1) bs rfl rfl 167 #[.bool false, .int .u64 0, .int .u64 0, .int .u64 0, .int .u64 0, .int .u64 0, .int .u64 0, .int .u64 0, .int .u64 0, .int .u64 0, .int .u64 0, .int .u64 0, .int .u64 0, .int .u64 0, .int .u64 0, .int .u64 0, .int .u64 0, .int .u64 0, .int .u64 0, .int .u64 0, .int .u64 0] hnew.out (by rw [hbsz.out]; exact info_big) (by rw [hbsz.out]; rfl) hb1.out ?_)
    rw [hsr.out]
    clear hsr hnew hb
    rw [hR.out] at kR kT ⊢
    rw [hT.out] at kT ⊢
    replace hu2 := Lib.hid hu2
    go_wp2_with fail
    rw [show 18446744073709551615 - u + 1 = (X : Int) from by rw [hu2.out]; omega]
    go_loopw [5, 4] (fun y z wr => ∃ k : Nat, k ≤ 4 ∧ y = .int .i64 k ∧ z = .int .u64 ((X / bP k : Nat) : Int) ∧ BigB wr T true (dig (X % bP k)) ∧ Keeps4 Z0 wr T) (fun y _ _ => (300 - intOf y).toNat)
    case atStart => exact ⟨0, by omega, rfl, by rw [bP_zero, Nat.div_one]; first | done | rfl | rw [show IntKind.u64.wrap (X : Int) = X from by rw [IntKind.wrap_u64]; omega], by rw [bP_zero, Nat.mod_one]; exact kT, Keeps4.refl _ _⟩
    case round =>
      obtain ⟨k, hk, rfl, rfl, kTr, hkp⟩ := hrel
      obtain ⟨wo, rfl⟩ : ∃ wo : World, wo = wr := ⟨_, rfl⟩
      by_cases hk4 : k < 4
      · obtain ⟨q, hq⟩ : ∃ q, Hid (X / bP k = q) := ⟨_, rfl⟩
        have hqb : q ≤ 9223372036854775808 := by rw [← hq.out]; exact Nat.le_trans (Nat.div_le_self _ _) hXb
        rw [hq.out]
        have cT := BigB.at1 kTr (k := k) (by omega)
        have fT := BigB.frozen kTr (1 + k)
        have hki : (k : Int) < 4 := by omega
        have hqi : (q : Int) ≤ 9223372036854775808 := by omega
        go_wp2_with fail
        go_roundw
        case rel =>
          have h1 : (q : Int) % 65536 = ((dig X k : Nat) : Int) := by unfold dig; rw [hq.out]; omega
          have h2 : (q : Int) / 65536 = ((X / bP (k + 1) : Nat) : Int) := by rw [bP_succ, ← Nat.div_div_eq_div_mul, hq.out]; omega
          rw [h1, h2]
          refine ⟨k + 1, by omega, by go_num, rfl, ?_, hkp.trans (Keeps4.set _ _ _ _)⟩
          rw [mod_next]
          exact BigB.ext (BigB.set1 kTr (show k < 20 by omega) _) (fun j _ => dig_put (Nat.mod_lt _ (bP_pos k)) (dig_lt _ _) j)
        case measure => simp [intOf]; omega
      · obtain rfl : k = 4 := by omega
        rw [Nat.mod_eq_of_lt (show X < bP 4 from Nat.lt_of_le_of_lt hXb (by decide))] at kTr
        have kRr := hkp.keep (by omega) kR
        go_wp2_with (first | refine wpList_load_row rfl _ _ rfl T rfl _ _ (0, 0) _ kTr Try.underlying167 rfl (size_big _ _) ?_ | refine wpList_store_row rfl 167 _ _ rfl R (bigV true (dig X)) rfl rfl 167 (bigV false (dig 0)) kRr (size_big _ _) (by rw [bigV_size, bigV_size]) (bigV_one _ _) ?_)
        exact bodyPost_ret (v := .agg (bigV true (dig X))) (results_cell1 (a := 2) (t := 167) (by kernel_rfl) _ rfl (load_big (setRow_big kRr))) rfl ⟨rfl, (hkp.to_later hlZ (by omega)).setRow (by omega) _⟩
end Go.Proofs.Ytackbajbladhhaa
namespace Go.Proofs.Ytackbajbladhhaa
open Go.RowKit Go.Shelf
set_option linter.unusedVariables false
set_option linter.unusedSimpArgs false
attribute [local go_sem] Oper.semAt_some
attribute [-simp] Try.sizeOf167 Try.typeInfo167
attribute [-go_sem] Instr.build

theorem dig_set {low q k r : Nat} (hl : low < bP k) (hr : r < 65536) (j : Nat) : (if j = k then r else dig (low + q * bP k) j) = dig (low + r * bP k + q / 65536 * bP (k + 1)) j := by
  have hl2 : low + r * bP k < bP (k + 1) := by
    have : r * bP k ≤ 65535 * bP k := Nat.mul_le_mul_right _ (by omega)
    rw [bP_succ]; omega
  by_cases e : j = k
  · subst e
    rw [if_pos rfl, dig_add_mul _ _ (show j < j + 1 by omega), ← dig_put hl hr j, if_pos rfl]
  · rw [if_neg e]
    by_cases h : j < k
    · rw [dig_add_mul _ _ h, dig_add_mul _ _ (show j < k + 1 by omega), dig_add_mul _ _ h]
    · obtain ⟨d, rfl⟩ : ∃ d, j = k + 1 + d := ⟨j - k - 1, by omega⟩
      unfold dig
      have e1 : (low + q * bP k) / bP (k + 1 + d) = q / 65536 / bP d := by
        rw [bP_add, bP_succ, Nat.mul_assoc, ← Nat.div_div_eq_div_mul, Nat.add_mul_div_right _ _ (bP_pos k), Nat.div_eq_of_lt hl, Nat.zero_add, Nat.div_div_eq_div_mul]
      have e2 : (low + r * bP k + q / 65536 * bP (k + 1)) / bP (k + 1 + d) = q / 65536 / bP d := by
        rw [show bP (k + 1 + d) = bP (k + 1) * bP d from bP_add _ _, ← Nat.div_div_eq_div_mul, Nat.add_mul_div_right _ _ (bP_pos (k + 1)), Nat.div_eq_of_lt hl2, Nat.zero_add]
      rw [e1, e2]
theorem mul_step {low cc V b Y i j d a : Nat} (h : low + cc * bP (i + j) = V % bP (i + j) + b * (Y % bP j) * bP i) (ha : dig V (i + j) = a) (hd : dig Y j = d) :
    low + (a + b * d + cc) % 65536 * bP (i + j) + (a + b * d + cc) / 65536 * bP (i + j + 1) = V % bP (i + j + 1) + b * (Y % bP (j + 1)) * bP i := by
  obtain ⟨s, hs⟩ : ∃ s, a + b * d + cc = s := ⟨_, rfl⟩
  have h1 := Nat.div_add_mod s 65536
  rw [mod_next, mod_next, ha, hd, bP_succ, hs]
  have h2 : s / 65536 * (bP (i + j) * 65536) + s % 65536 * bP (i + j) = s * bP (i + j) := by
    conv => rhs; rw [← h1]
    rw [Nat.add_mul]
    congr 1
    rw [Nat.mul_comm (bP (i + j)) 65536, ← Nat.mul_assoc, Nat.mul_comm _ 65536]
  have h3 : s * bP (i + j) = a * bP (i + j) + b * d * bP (i + j) + cc * bP (i + j) := by rw [← hs, Nat.add_mul, Nat.add_mul]
  have h4 : b * (Y % bP j + d * bP j) * bP i = b * (Y % bP j) * bP i + b * d * bP (i + j) := by
    rw [Nat.mul_add, Nat.add_mul, bP_add]
    congr 1
    simp only [Nat.mul_assoc, Nat.mul_comm (bP j)]
  omega
theorem mul_prod {x y : Int} : bigI (x * y) = bigV ((decide (x < 0) != decide (y < 0)) && !decide (x.natAbs * y.natAbs = 0)) (dig (x.natAbs * y.natAbs)) := by
  unfold bigI
  rw [Int.natAbs_mul]
  congr 1
  by_cases hx0 : x = 0
  · subst hx0; simp
  by_cases hy0 : y = 0
  · subst hy0; simp
  have hN : ¬ x.natAbs * y.natAbs = 0 := by
    intro h
    rcases Nat.mul_eq_zero.1 h with h | h <;> omega
  rw [decide_eq_false hN]
  by_cases hx : x < 0 <;> by_cases hy : y < 0
  · rw [decide_eq_true hx, decide_eq_true hy, decide_eq_false (show ¬ x * y < 0 from by have := Int.mul_pos_of_neg_of_neg hx hy; omega)]; rfl
  · rw [decide_eq_true hx, decide_eq_false hy, decide_eq_true (Int.mul_neg_of_neg_of_pos hx (by omega))]; rfl
  · rw [decide_eq_false hx, decide_eq_true hy, decide_eq_true (Int.mul_neg_of_pos_of_neg (by omega) hy)]; rfl
  · rw [decide_eq_false hx, decide_eq_false hy, decide_eq_false (show ¬ x * y < 0 from by have := Int.mul_pos (show 0 < x by omega) (show 0 < y by omega); omega)]; rfl

set_option maxRecDepth 100000 in
set_option maxHeartbeats 4000000 in
theorem bmul_any (x y : Int) (W : World) (hx : x.natAbs < bP 9) (hy : y.natAbs < bP 9) :
    Calls Try.prog 115 #[.agg (bigI x), .agg (bigI y)] W fun e w' => e = .returned (.agg (bigI (x * y))) ∧ Later W w' := by
  rw [mul_prod]
  unfold bigI
  obtain ⟨X, hX⟩ : ∃ X, Hid (x.natAbs = X) := ⟨_, rfl⟩
  obtain ⟨Y, hY⟩ : ∃ X, Hid (y.natAbs = X) := ⟨_, rfl⟩
  obtain ⟨sx, hsx⟩ : ∃ X, Hid (decide (x < 0) = X) := ⟨_, rfl⟩
  obtain ⟨sy, hsy⟩ : ∃ X, Hid (decide (y < 0) = X) := ⟨_, rfl⟩
  rw [hX.out] at hx ⊢
  rw [hY.out] at hy ⊢
  rw [hsx.out, hsy.out]
  clear hX hY hsx hsy
  have hXY : X * Y < bP 20 := Nat.lt_of_lt_of_le (Nat.lt_of_le_of_lt (Nat.mul_le_mul_left X (Nat.le_of_lt hy)) (Nat.mul_lt_mul_of_pos_right hx (bP_pos 9))) (by rw [← bP_add]; exact bP_mono (by omega))
  have hNn := Lib.hid (fun V => none_any false (X * Y) V hXY)
  obtain ⟨n, hn⟩ : ∃ n, Hid (decide (X * Y = 0) = n) := ⟨_, rfl⟩
  obtain ⟨dN, hdN⟩ : ∃ d, Hid (dig (X * Y) = d) := ⟨_, rfl⟩
  rw [hn.out, hdN.out] at hNn ⊢
  clear hn
  obtain ⟨bx, hbx⟩ : ∃ b, Hid (bigV sx (dig X) = b) := ⟨_, rfl⟩
  obtain ⟨by', hby⟩ : ∃ b, Hid (bigV sy (dig Y) = b) := ⟨_, rfl⟩
  rw [hbx.out, hby.out]
  go_enter Try.func115, Try.ntmps115
  go_upto_region 2 with fail
  obtain ⟨Z0, hZ0⟩ : ∃ Z, Z = (((W.alloc (.cells bx 167)).alloc (.cells by' 167)).alloc (.cells #[.bool false, .int .u64 0, .int .u64 0, .int .u64 0, .int .u64 0, .int .u64 0, .int .u64 0, .int .u64 0, .int .u64 0, .int .u64 0, .int .u64 0, .int .u64 0, .int .u64 0, .int .u64 0, .int .u64 0, .int .u64 0, .int .u64 0, .int .u64 0, .int .u64 0, .int .u64 0, .int .u64 0] 167)).alloc (.cells #[.bool false, .int .u64 0, .int .u64 0, .int .u64 0, .int .u64 0, .int .u64 0, .int .u64 0, .int .u64 0, .int .u64 0, .int .u64 0, .int .u64 0, .int .u64 0, .int .u64 0, .int .u64 0, .int .u64 0, .int .u64 0, .int .u64 0, .int .u64 0, .int .u64 0, .int .u64 0, .int .u64 0] 167) := ⟨_, rfl⟩
  have hlZ : Later W Z0 := by rw [hZ0]; exact ((((Later.refl W).alloc _).alloc _).alloc _).alloc _
  have kA : BigB Z0 W.heap.size sx (dig X) := by unfold BigB; rw [hbx.out, hZ0]; exact push_one (push_one (push_one (heap_alloc_new _ _) _) _) _
  have kB : BigB Z0 (W.heap.size + 1) sy (dig Y) := by unfold BigB; rw [hby.out, hZ0]; exact push_one (push_one (push_new _ _ (by simp)) _) _
  have kR : BigB Z0 (W.heap.size + 1 + 1) false (dig 0) := by unfold BigB; rw [big_zero, hZ0]; exact push_one (push_new _ _ (by simp)) _
  have kT : BigB Z0 (W.heap.size + 1 + 1 + 1) false (dig 0) := by unfold BigB; rw [big_zero, hZ0]; exact push_new _ _ (by simp)
  rw [← hZ0]
  clear hZ0 hbx hby
  obtain ⟨P, hP⟩ : ∃ n, Hid (W.heap.size = n) := ⟨_, rfl⟩
  obtain ⟨Q, hQ⟩ : ∃ n, Hid (P + 1 = n) := ⟨_, rfl⟩
  obtain ⟨R, hR⟩ : ∃ n, Hid (Q + 1 = n) := ⟨_, rfl⟩
  obtain ⟨T, hT⟩ : ∃ n, Hid (R + 1 = n) := ⟨_, rfl⟩
  have hWP : W.heap.size ≤ P := Nat.le_of_eq hP.out
  have hPQ : P < Q := by have := hQ.out; omega
  have hQR : Q < R := by have := hR.out; omega
  have hRT : R < T := by have := hT.out; omega
  rw [hP.out] at kA kB kR kT ⊢
  rw [hQ.out] at kB kR kT ⊢
  rw [hR.out] at kR kT ⊢
  rw [hT.out] at kT ⊢
  clear hP hQ hR hT
  go_wp2_with fail
  go_loopw [6] (fun y wr => ∃ i : Nat, i ≤ 9 ∧ y = .int .i64 i ∧ BigB wr T false (dig (X % bP i * Y)) ∧ Keeps4 Z0 wr T) (fun y _ => (300 - intOf y).toNat)
  case atStart => exact ⟨0, by omega, rfl, by rw [bP_zero, Nat.mod_one, Nat.zero_mul]; exact kT, Keeps4.refl _ _⟩
  case round =>
    obtain ⟨i, hi, rfl, kTi, hki⟩ := hrel
    obtain ⟨wi, rfl⟩ : ∃ wo : World, wo = wr := ⟨_, rfl⟩
    by_cases hi9 : i < 9
    · obtain ⟨V, hV⟩ : ∃ V, Hid (X % bP i * Y = V) := ⟨_, rfl⟩
      rw [hV.out] at kTi
      have hVl : V < bP (i + 9) := by
        rw [← hV.out, bP_add]
        exact Nat.lt_of_le_of_lt (Nat.mul_le_mul_left _ (Nat.le_of_lt hy)) (Nat.mul_lt_mul_of_pos_right (Nat.mod_lt _ (bP_pos i)) (bP_pos 9))
      obtain ⟨b, hb⟩ : ∃ a, Hid (dig X i = a) := ⟨_, rfl⟩
      have hb6 : b < 65536 := by rw [← hb.out]; exact dig_lt _ _
      have hii : (i : Int) < 9 := by omega
      replace hVl := Lib.hid hVl
      go_wp2_with fail
      go_loopw [8, 7] (fun y c wr => ∃ j cc low : Nat, j ≤ 9 ∧ y = .int .i64 j ∧ c = .int .u64 (cc : Nat) ∧ cc < 65536 ∧ Hid (low < bP (i + j)) ∧ Hid (low + cc * bP (i + j) = V % bP (i + j) + b * (Y % bP j) * bP i) ∧ BigB wr T false (dig (low + V / bP (i + j) * bP (i + j))) ∧ Keeps4 Z0 wr T) (fun y _ _ => (300 - intOf y).toNat)
      case atStart => exact ⟨0, 0, V % bP i, by omega, rfl, rfl, by omega, Lib.hid (Nat.mod_lt _ (bP_pos i)), Lib.hid (by rw [Nat.add_zero, bP_zero, Nat.mod_one, Nat.mul_zero]), by rw [Nat.add_zero, Nat.add_comm, Nat.mul_comm, Nat.div_add_mod]; exact kTi, hki⟩
      case round =>
        obtain ⟨j, cc, low, hj, rfl, rfl, hcc, hlow, heq, kTj, hkj⟩ := hrel
        obtain ⟨wj, rfl⟩ : ∃ wo : World, wo = wr := ⟨_, rfl⟩
        by_cases hj9 : j < 9
        · obtain ⟨d, hd⟩ : ∃ a, Hid (dig Y j = a) := ⟨_, rfl⟩
          obtain ⟨a, ha⟩ : ∃ a, Hid (dig V (i + j) = a) := ⟨_, rfl⟩
          have hd6 : d < 65536 := by rw [← hd.out]; exact dig_lt _ _
          have ha6 : a < 65536 := by rw [← ha.out]; exact dig_lt _ _
          have hba : dig (low + V / bP (i + j) * bP (i + j)) (i + j) = a := by
            rw [← ha.out]; unfold dig
            rw [Nat.add_mul_div_right _ _ (bP_pos _), Nat.div_eq_of_lt hlow.out, Nat.zero_add]
          have cT := BigB.at1 kTj (k := i + j) (by omega)
          rw [hba] at cT
          have cA : wj.cell? ⟨P, 1 + i, none⟩ = some (.int .u64 (b : Nat)) := by rw [← hb.out]; exact BigB.at1 (hkj.keep (by omega) kA) (by omega)
          have cB : wj.cell? ⟨Q, 1 + j, none⟩ = some (.int .u64 (d : Nat)) := by rw [← hd.out]; exact BigB.at1 (hkj.keep (by omega) kB) (by omega)
          have hji : (j : Int) < 9 := by omega
          obtain ⟨p, hp⟩ : ∃ p, Hid (b * d = p) := ⟨_, rfl⟩
          have hp6 : p ≤ 4294836225 := by
            rw [← hp.out]
            exact Nat.le_trans (Nat.mul_le_mul (show b ≤ 65535 by omega) (show d ≤ 65535 by omega)) (by omega)
          have hpi : (b : Int) * (d : Int) = (p : Int) := by rw [← hp.out]; exact (Int.natCast_mul b d).symm
          clear hba
          go_upto_region 9 with fail
          go_quiet (fail)
          obtain ⟨w2, hw2⟩ : ∃ X, X = wj.drewN nq := ⟨_, rfl⟩
          have hl2 : Later wj w2 := by rw [hw2]; exact (Later.refl _).drewN _
          rw [← hw2]
          have kTd := BigB.later kTj hl2
          have hkd := hkj.trans (Keeps4.later hl2 kTj.lt)
          have cT2 := hl2.cell cT
          have fT := BigB.frozen kTd (1 + (i + j))
          clear hw2 cA cB cT
          go_wp2_with fail
          go_roundw
          case rel =>
            have hq : ((a : Int) + p + cc) / 65536 = (((a + b * d + cc) / 65536 : Nat) : Int) := by rw [hp.out]; omega
            have hm : ((a : Int) + p + cc) % 65536 = (((a + b * d + cc) % 65536 : Nat) : Int) := by rw [hp.out]; omega
            rw [hq, hm]
            refine ⟨j + 1, (a + b * d + cc) / 65536, low + ((a + b * d + cc) % 65536) * bP (i + j), by omega, by go_num, rfl, by rw [hp.out]; omega, Lib.hid ?_, Lib.hid (mul_step heq.out ha.out hd.out), ?_, hkd.trans (Keeps4.set _ _ _ _)⟩
            · have h0 := hlow.out
              have h1 : (a + b * d + cc) % 65536 * bP (i + j) ≤ 65535 * bP (i + j) := Nat.mul_le_mul_right _ (by omega)
              rw [← Nat.add_assoc, bP_succ]; omega
            · have h1 : V / bP (i + (j + 1)) = V / bP (i + j) / 65536 := by rw [← Nat.add_assoc, bP_succ, Nat.div_div_eq_div_mul]
              exact BigB.ext (BigB.set1 kTd (show i + j < 20 by omega) _) (fun x _ => by rw [h1]; exact dig_set hlow.out (Nat.mod_lt _ (by omega)) x)
          case measure => simp [intOf]; omega
        · obtain rfl : j = 9 := by omega
          have h0 := hlow.out
          have h1 := heq.out
          rw [Nat.mod_eq_of_lt hVl.out, Nat.mod_eq_of_lt hy] at h1
          rw [Nat.div_eq_of_lt hVl.out, Nat.zero_mul, Nat.add_zero] at kTj
          have cT := BigB.at1 kTj (k := i + 9) (by omega)
          have fT := BigB.frozen kTj (1 + (i + 9))
          have hfin : Hid (low + cc * bP (i + 9) = X % bP (i + 1) * Y) := Lib.hid (by
            rw [h1, mod_next, Nat.add_mul, hV.out, hb.out]
            congr 1
            simp only [Nat.mul_assoc, Nat.mul_comm Y])
          have hlw := Lib.hid h0
          clear h0 h1
          go_wp2_with fail
          go_roundw
          case rel =>
            refine ⟨i + 1, by omega, by go_num, ?_, hkj.trans (Keeps4.set _ _ _ _)⟩
            rw [← hfin.out]
            exact BigB.ext (BigB.set1 kTj (show i + 9 < 20 by omega) _) (fun x _ => dig_put hlw.out hcc x)
          case measure => simp [intOf]; omega
    · obtain rfl : i = 9 := by omega
      rw [Nat.mod_eq_of_lt hx] at kTi
      have ka := hki.keep (by omega) kA
      have kb := hki.keep (by omega) kB
      have kr := hki.keep (by omega) kR
      have ca := ka.sign
      have cb := kb.sign
      have ct := kTi.sign
      have ft := kTi.frozen 0
      have hlT : Later W wi := hki.to_later hlZ (by omega)
      rw [hdN.out] at kTi
      clear hdN kA kB kR kT hki hlZ hXY
      cases sx <;> cases sy
      ·
        go_upto_region 14 with fail
        have kV := kTi.setSign false
        have kRV : BigB (wi.setCell ⟨T, 0, none⟩ (.bool false)) R false (dig 0) := (Below.heap_setCell _ _ _ R (by show R ≠ T; omega)).trans kr
        have hlV : Later W (wi.setCell ⟨T, 0, none⟩ (.bool false)) := hlT.setCell (by show W.heap.size ≤ T; omega) _
        obtain ⟨V, hV⟩ : ∃ V, V = wi.setCell ⟨T, 0, none⟩ (.bool false) := ⟨_, rfl⟩
        rw [← hV] at kV kRV hlV ⊢
        clear hV
        first | go_step3 | skip
        go_wp2_with (first | refine wpList_load_row rfl _ _ rfl T rfl _ _ (0, 0) _ kV Try.underlying167 rfl (size_big _ _) ?_ | refine wpList_store_row rfl 167 _ _ rfl R (bigV (false) dN) rfl rfl 167 (bigV false (dig 0)) kRV (size_big _ _) (by rw [bigV_size, bigV_size]) (bigV_one _ _) ?_)
        exact bodyPost_ret (v := .agg (bigV (false) dN)) (results_cell1 (a := 4) (t := 167) (by kernel_rfl) _ rfl (load_big (setRow_big kRV))) rfl ⟨by simp, hlV.setRow (by omega) _⟩
      ·
        go_wp2_with (refine wpList_load_roww rfl _ _ rfl T rfl _ _ (0, 0) _ kTi Try.underlying167 rfl (size_big _ _) ?_)
        refine (hNn.out _).mono ?_
        rintro e w5 ⟨rfl, h5⟩
        have kT5 := kTi.later h5
        have kR5 := kr.later h5
        have ct5 := kT5.sign
        have ft5 := kT5.frozen 0
        have hl5 := hlT.trans h5
        clear hNn ct ft kr kTi hlT ca cb
        go_upto_region 14 with fail
        have kV := kT5.setSign (!n)
        have kRV : BigB (w5.setCell ⟨T, 0, none⟩ (.bool !n)) R false (dig 0) := (Below.heap_setCell _ _ _ R (by show R ≠ T; omega)).trans kR5
        have hlV : Later W (w5.setCell ⟨T, 0, none⟩ (.bool !n)) := hl5.setCell (by show W.heap.size ≤ T; omega) _
        obtain ⟨V, hV⟩ : ∃ V, V = w5.setCell ⟨T, 0, none⟩ (.bool !n) := ⟨_, rfl⟩
        rw [← hV] at kV kRV hlV ⊢
        clear hV
        first | go_step3 | skip
        go_wp2_with (first | refine wpList_load_row rfl _ _ rfl T rfl _ _ (0, 0) _ kV Try.underlying167 rfl (size_big _ _) ?_ | refine wpList_store_row rfl 167 _ _ rfl R (bigV (!n) dN) rfl rfl 167 (bigV false (dig 0)) kRV (size_big _ _) (by rw [bigV_size, bigV_size]) (bigV_one _ _) ?_)
        exact bodyPost_ret (v := .agg (bigV (!n) dN)) (results_cell1 (a := 4) (t := 167) (by kernel_rfl) _ rfl (load_big (setRow_big kRV))) rfl ⟨by simp, hlV.setRow (by omega) _⟩
      ·
        go_wp2_with (refine wpList_load_roww rfl _ _ rfl T rfl _ _ (0, 0) _ kTi Try.underlying167 rfl (size_big _ _) ?_)
        refine (hNn.out _).mono ?_
        rintro e w5 ⟨rfl, h5⟩
        have kT5 := kTi.later h5
        have kR5 := kr.later h5
        have ct5 := kT5.sign
        have ft5 := kT5.frozen 0
        have hl5 := hlT.trans h5
        clear hNn ct ft kr kTi hlT ca cb
        go_upto_region 14 with fail
        have kV := kT5.setSign (!n)
        have kRV : BigB (w5.setCell ⟨T, 0, none⟩ (.bool !n)) R false (dig 0) := (Below.heap_setCell _ _ _ R (by show R ≠ T; omega)).trans kR5
        have hlV : Later W (w5.setCell ⟨T, 0, none⟩ (.bool !n)) := hl5.setCell (by show W.heap.size ≤ T; omega) _
        obtain ⟨V, hV⟩ : ∃ V, V = w5.setCell ⟨T, 0, none⟩ (.bool !n) := ⟨_, rfl⟩
        rw [← hV] at kV kRV hlV ⊢
        clear hV
        first | go_step3 | skip
        go_wp2_with (first | refine wpList_load_row rfl _ _ rfl T rfl _ _ (0, 0) _ kV Try.underlying167 rfl (size_big _ _) ?_ | refine wpList_store_row rfl 167 _ _ rfl R (bigV (!n) dN) rfl rfl 167 (bigV false (dig 0)) kRV (size_big _ _) (by rw [bigV_size, bigV_size]) (bigV_one _ _) ?_)
        exact bodyPost_ret (v := .agg (bigV (!n) dN)) (results_cell1 (a := 4) (t := 167) (by kernel_rfl) _ rfl (load_big (setRow_big kRV))) rfl ⟨by simp, hlV.setRow (by omega) _⟩
      ·
        go_upto_region 14 with fail
        have kV := kTi.setSign false
        have kRV : BigB (wi.setCell ⟨T, 0, none⟩ (.bool false)) R false (dig 0) := (Below.heap_setCell _ _ _ R (by show R ≠ T; omega)).trans kr
        have hlV : Later W (wi.setCell ⟨T, 0, none⟩ (.bool false)) := hlT.setCell (by show W.heap.size ≤ T; omega) _
        obtain ⟨V, hV⟩ : ∃ V, V = wi.setCell ⟨T, 0, none⟩ (.bool false) := ⟨_, rfl⟩
        rw [← hV] at kV kRV hlV ⊢
        clear hV
        first | go_step3 | skip
        go_wp2_with (first | refine wpList_load_row rfl _ _ rfl T rfl _ _ (0, 0) _ kV Try.underlying167 rfl (size_big _ _) ?_ | refine wpList_store_row rfl 167 _ _ rfl R (bigV (false) dN) rfl rfl 167 (bigV false (dig 0)) kRV (size_big _ _) (by rw [bigV_size, bigV_size]) (bigV_one _ _) ?_)
        exact bodyPost_ret (v := .agg (bigV (false) dN)) (results_cell1 (a := 4) (t := 167) (by kernel_rfl) _ rfl (load_big (setRow_big kRV))) rfl ⟨by simp, hlV.setRow (by omega) _⟩
end Go.Proofs.Ytackbajbladhhaa
