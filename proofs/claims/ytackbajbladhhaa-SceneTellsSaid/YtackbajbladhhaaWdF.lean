/-
  Chapter 2: numbers of 128 bits: the walk of Div (by 65536), of what is below 0.
-/
import Derived.Laws.Rows
import Derived.Deep.DeepCutAuto
import Derived.Test.YtackbajbladhhaaWdE
import Derived.Test.YtackbajbladhhaaBgA
namespace Go.Proofs.Ytackbajbladhhaa
open Go.RowKit Go.Shelf
set_option linter.unusedVariables false
set_option linter.unusedSimpArgs false
attribute [local go_sem] Oper.semAt_some

-- BODY
set_option maxRecDepth 100000 in
set_option maxHeartbeats 2000000 in
theorem div_neg (x : Int) (W : World) (hx : -170141183460469231731687303715884105728 < x ∧ x < 0) :
    Calls Try.prog 61 #[wdV x, .int .i64 65536] W fun e w' => e = .returned (.tuple #[wdV (x / 65536), .int .i64 (x % 65536), .int .i64 0]) ∧ Later W w' := by
  have hn : (0 : Int) < -x := by omega
  have hb2 : hiW x < 0 := by rw [hiW_eq]; omega
  have hT := fun w => turned_any x w
  have hP := fun w => parts_any (-x) w (by omega)
  obtain ⟨y, hy⟩ : ∃ y, Hid (-x = y) := ⟨_, rfl⟩
  rw [hy.out] at hT hP
  obtain ⟨d, hd⟩ : ∃ d, Hid (y / 65536 = d) := ⟨_, rfl⟩
  obtain ⟨m, hm⟩ : ∃ d, Hid (y % 65536 = d) := ⟨_, rfl⟩
  have hmb : 0 ≤ m ∧ m < 65536 := by have := hm.out; omega
  have hU := fun w => turned_any d w
  have hV := fun w => plus_any (-d) (-1) w
  have hO := fun w => of_any (-1) w (by omega)
  have hx1 : Hid (m = 0 → x / 65536 = -d ∧ x % 65536 = 0) := Lib.hid (fun h => by have := hy.out; have := hd.out; have := hm.out; omega)
  have hx2 : Hid (m ≠ 0 → x / 65536 = -d + -1 ∧ x % 65536 = 65536 - m) := Lib.hid (fun h => by have := hy.out; have := hd.out; have := hm.out; omega)
  rw [hd.out, hm.out] at hP
  obtain ⟨ox, hox⟩ : ∃ h, Hid (hiW x = h) := ⟨_, rfl⟩
  obtain ⟨px, hpx⟩ : ∃ h, Hid (loW x = h) := ⟨_, rfl⟩
  obtain ⟨h1, e1⟩ : ∃ h, Hid (hiW y = h) := ⟨_, rfl⟩
  obtain ⟨l1, f1⟩ : ∃ h, Hid (loW y = h) := ⟨_, rfl⟩
  obtain ⟨h2, e2⟩ : ∃ h, Hid (hiW d = h) := ⟨_, rfl⟩
  obtain ⟨l2, f2⟩ : ∃ h, Hid (loW d = h) := ⟨_, rfl⟩
  obtain ⟨h3, e3⟩ : ∃ h, Hid (hiW (-d) = h) := ⟨_, rfl⟩
  obtain ⟨l3, f3⟩ : ∃ h, Hid (loW (-d) = h) := ⟨_, rfl⟩
  obtain ⟨h4, e4⟩ : ∃ h, Hid (hiW (-d + -1) = h) := ⟨_, rfl⟩
  obtain ⟨l4, f4⟩ : ∃ h, Hid (loW (-d + -1) = h) := ⟨_, rfl⟩
  obtain ⟨h5, e5⟩ : ∃ h, Hid (hiW (-1) = h) := ⟨_, rfl⟩
  obtain ⟨l5, f5⟩ : ∃ h, Hid (loW (-1) = h) := ⟨_, rfl⟩
  simp only [wdV] at hP hT hU hV hO ⊢
  rw [hox.out, hpx.out, e1.out, f1.out] at hT
  rw [e1.out, f1.out, e2.out, f2.out] at hP
  rw [e2.out, f2.out, e3.out, f3.out] at hU
  rw [e3.out, f3.out, e4.out, f4.out, e5.out, f5.out] at hV
  rw [e5.out, f5.out] at hO
  rw [hox.out] at hb2
  rw [hox.out, hpx.out]
  go_enter Try.func61, Try.ntmps61
  go_wp2_with fail
  refine (hT _).mono ?_
  rintro e w0 ⟨rfl, h0⟩
  obtain ⟨hc_h0, hf_h0⟩ := bcell h0
  have hz_h0 := Later.size h0
  (try simp only [World.size_alloc, World.size_drew, World.size_setCell] at hz_h0)
  have hl_h0_W0_0 : W.heap.size < w0.heap.size := by omega
  have hl_h0_W1_0 : W.heap.size + 1 < w0.heap.size := by omega
  have hl_h0_W2_0 : W.heap.size + 1 + 1 < w0.heap.size := by omega
  have u0 : w0.cell? ⟨W.heap.size + 1 + 1, 0, none⟩ = some (.int .i64 ox) := h0.cell (by go_simp)
  have u1 : w0.cell? ⟨W.heap.size + 1 + 1, 1, none⟩ = some (.int .u64 px) := h0.cell (by go_simp)
  have uf : ∀ o, w0.frozen? ⟨W.heap.size + 1 + 1, o, none⟩ = false := fun o => (h0.frozen' (by simp only [World.size_alloc]; omega)).trans (by go_simp)
  have v0 : w0.cell? ⟨W.heap.size + 1, 0, none⟩ = some (.int .i64 0) := h0.cell (by go_simp)
  have v1 : w0.cell? ⟨W.heap.size + 1, 1, none⟩ = some (.int .u64 0) := h0.cell (by go_simp)
  have vf : ∀ o, w0.frozen? ⟨W.heap.size + 1, o, none⟩ = false := fun o => (h0.frozen' (by simp only [World.size_alloc]; omega)).trans (by go_simp)
  go_wp2_with fail
  obtain ⟨X, hX⟩ : ∃ X, X = (w0.setCell ⟨W.heap.size + 1 + 1, 0, none⟩ (.int .i64 h1)).setCell ⟨W.heap.size + 1 + 1, 1, none⟩ (.int .u64 l1) := ⟨_, rfl⟩
  have q0 : X.cell? ⟨W.heap.size + 1 + 1, 0, none⟩ = some (.int .i64 h1) := by rw [hX]; go_simp
  have q1 : X.cell? ⟨W.heap.size + 1 + 1, 1, none⟩ = some (.int .u64 l1) := by rw [hX]; go_simp
  have r0 : X.cell? ⟨W.heap.size + 1, 0, none⟩ = some (.int .i64 0) := by rw [hX]; go_simp
  have r1 : X.cell? ⟨W.heap.size + 1, 1, none⟩ = some (.int .u64 0) := by rw [hX]; go_simp
  have rf : ∀ o, X.frozen? ⟨W.heap.size + 1, o, none⟩ = false := by rw [hX]; intro o; go_simp
  have hl0 : Later W w0 := (((Later.refl W).alloc _).alloc _).alloc _ |>.trans h0
  have hl : Later W X := by rw [hX]; exact (hl0.setCell (by show W.heap.size ≤ W.heap.size + 1 + 1; omega) _).setCell (by show W.heap.size ≤ W.heap.size + 1 + 1; omega) _
  have hs : W.heap.size + 1 + 1 + 1 ≤ X.heap.size := by rw [hX]; simp; omega
  rw [← hX]
  obtain ⟨P, hP2⟩ : ∃ P, Hid (W.heap.size + 1 + 1 = P) := ⟨_, rfl⟩
  rw [hP2.out] at q0 q1 ⊢
  have hRX : W.heap.size + 1 < X.heap.size := by omega
  obtain ⟨R, hR⟩ : ∃ R, Hid (W.heap.size + 1 = R) := ⟨_, rfl⟩
  have hRW : W.heap.size ≤ R := by have := hR.out; omega
  have hPX : P < X.heap.size := by have := hP2.out; omega
  rw [hR.out] at r0 r1 rf hRX ⊢
  clear hX u0 u1 uf v0 v1 vf h0 hl0 hc_h0 hf_h0 hz_h0 hl_h0_W0_0 hl_h0_W1_0 hl_h0_W2_0 hs
  have hq0' := Lib.hid r0
  have hq1' := Lib.hid r1
  have hqf' := Lib.hid rf
  go_cut [9, 10] from 21 to 27 (fun u v wx => NewW X h2 l2 u wx ∧ v = .int .u64 m)
  case first =>
    go_region_held3 (fun V => V.cell? ⟨P, 0, none⟩ = some (.int .i64 h1) ∧ V.cell? ⟨P, 1, none⟩ = some (.int .u64 l1)) ((go_split_ands; (repeat' apply And.intro) <;> first | assumption | exact (Later.refl _).drew.cell (by assumption) | exact ((Later.refl _).alloc _).cell (by assumption) | exact cell_setCell_o (cell_setCell_o (by assumption) (by omega)) (by omega) | exact Later.cell hL (by assumption))) (first | (go_at_call 80; refine (size_k _).mono ?_; rintro e V0 ⟨rfl, rfl⟩) | (go_at_call 79; refine (hP _).mono ?_; rintro e V1 ⟨rfl, hL⟩; have hL2 := hL; have hL1 : Later X V1 := (by first | exact (Later.refl X).drew.trans hL | exact ((Later.refl X).alloc _).drew.trans hL); have kq0 := hL1.cell q0; have kq1 := hL1.cell q1; obtain ⟨hc1, hf1⟩ := bcell hL))
    all_goals
      rename_i JJ KK hj hk hh; refine hk _ _ (Met.intro (hj _ _ ?_)); (repeat apply Exists.intro)
      refine ⟨⟨?_, rfl⟩, rfl⟩
      first
        | exact newW_one hL1
        | exact newW_two hL1 hL2
  case rest =>
    obtain ⟨⟨Q, rfl, hlQ, hQ, kQ⟩, rfl⟩ := hcut
    have t0 := cell_of_row _ Q 0 _ _ _ kQ
    have t1 := cell_of_row _ Q 1 _ _ _ kQ
    simp only [List.getElem?_toArray, List.getElem?_cons_zero, List.getElem?_cons_succ] at t0 t1
    have kr0 := hlQ.cell r0
    have kr1 := hlQ.cell r1
    have krf := fun o => (hlQ.frozen' (o := o) hRX).trans (rf o)
    have hRQ : R < Q := by omega
    have kr0' := Lib.hid r0
    have kr1' := Lib.hid r1
    have rf' := Lib.hid rf
    clear q0 q1 r0 r1 rf
    go_wp2_with fail
    refine (hU _).mono ?_
    rintro e w3 ⟨rfl, hl3⟩
    have kQ3 := (hl3.block Q (Array.getElem?_eq_some_iff.1 kQ).1).trans kQ
    have g0 := cell_of_row _ Q 0 _ _ _ kQ3
    have g1 := cell_of_row _ Q 1 _ _ _ kQ3
    have gf := fun k => frozen_r kQ3 k
    simp only [List.getElem?_toArray, List.getElem?_cons_zero, List.getElem?_cons_succ] at g0 g1
    go_upto_region 10 with fail
    obtain ⟨Y, hY⟩ : ∃ Y, Y = (w3.setCell ⟨Q, 0, none⟩ (.int .i64 h3)).setCell ⟨Q, 1, none⟩ (.int .u64 l3) := ⟨_, rfl⟩
    have kY : Y.heap[Q]? = some (.cells #[.int .i64 h3, .int .u64 l3] 107 (0, 0)) := by rw [hY]; exact heap_setC (heap_setC kQ3)
    have hlY : Later X Y := by rw [hY]; exact ((hlQ.trans hl3).setCell hQ _).setCell hQ _
    rw [← hY]
    have y0 := (cells_2 kY).1
    have y1 := (cells_2 kY).2
    have yf := fun k => frozen_r kY k
    have r0 := hlY.cell kr0'.out
    have r1 := hlY.cell kr1'.out
    have rf := fun o => (hlY.frozen' (o := o) hRX).trans (rf'.out o)
    clear hY t0 t1 kr0 kr1 krf g0 g1 gf kQ kQ3 hl3 hlQ
    by_cases hm0 : m = 0
    · obtain ⟨x1, x2⟩ := hx1.out hm0
      subst hm0
      go_wp2_with fail
      refine bodyPost_ret (v := .tuple #[.agg #[.int .i64 h3, .int .u64 l3], .int .i64 0, .int .i64 0]) ?_ rfl ⟨?_, ?_⟩
      · simp only [results]; go_simp
      · rw [e3.out, f3.out]
      · exact ((hl.trans hlY).setCell hRW _).setCell hRW _
    · obtain ⟨x1, x2⟩ := hx2.out hm0
      have hm1 : 0 < m := by omega
      have hwm : IntKind.u64.wrap (65536 - m) = 65536 - m := by rw [IntKind.wrap_u64]; omega
      go_upto_region 11 with fail
      go_cut [10] from 36 to 42 (fun u wx => NewW X h4 l4 (.pointer (some ⟨Q, 0, none⟩)) wx ∧ u = .int .u64 (65536 - m))
      case first =>
        clear hT hP hU
        go_region_with (first | (go_at_call 80; refine (size_k _).mono ?_; rintro e V0 ⟨rfl, rfl⟩) | (go_at_call 82; refine (hO _).mono ?_; rintro e V1 ⟨rfl, hL⟩; have kV1 := hL.row kY; have z0 := (cells_2 kV1).1; have z1 := (cells_2 kV1).2; have zf := fun k => frozen_r kV1 k) | (go_at_call 81; refine (hV _).mono ?_; rintro e V2 ⟨rfl, hL2⟩; have kV2 := hL2.row kV1; have zf2 := fun k => frozen_r kV2 k; have z20 := (cells_2 kV2).1; have z21 := (cells_2 kV2).2))
        all_goals
          go_wp2_with fail
          go_meet
          exact ⟨⟨Q, rfl, ((hlY.trans (((Later.refl Y).drew.trans hL).trans hL2)).setCell hQ _).setCell hQ _, hQ, heap_setC (heap_setC kV2)⟩, rfl⟩
      case rest =>
        obtain ⟨⟨Q', hQQ, hlZ, hQ', kZ⟩, rfl⟩ := hcut
        obtain rfl : Q = Q' := by injection hQQ with e; injection e with e; injection e
        clear hQQ
        have z0 := (cells_2 kZ).1
        have z1 := (cells_2 kZ).2
        have zf := fun k => frozen_r kZ k
        have kr0 := hlZ.cell hq0'.out
        have kr1 := hlZ.cell hq1'.out
        have krf := fun o => (hlZ.frozen' (o := o) hRX).trans (hqf'.out o)
        go_wp2_with fail
        refine bodyPost_ret (v := .tuple #[.agg #[.int .i64 h4, .int .u64 l4], .int .i64 (65536 - m), .int .i64 0]) ?_ rfl ⟨?_, ?_⟩
        · simp only [results]; go_simp
        · rw [x1, x2, e4.out, f4.out]
        · exact ((hl.trans hlZ).setCell hRW _).setCell hRW _
end Go.Proofs.Ytackbajbladhhaa
