/-
  CoverSplits: for every input the law returns true.
-/
import Derived.Test.YtmpnojgciaoghaaCovT
import Derived.Test.YtmpnojgciaoghaaCovY
namespace Go.Proofs.Ytmpnojgciaoghaa
open Go.RowKit Go.Shelf
set_option linter.unusedVariables false
set_option linter.unusedSimpArgs false
attribute [local go_sem] Oper.semAt_some

theorem load_at (W : World) (M : Nat) (Z : Array Value) (h : W.heap[M]? = some (.cells Z 47 (0, 0))) (hs : (Try.prog.info? 47).map (·.size) = some Z.size) :
    (Instr.loadAt 47 (.pointer (some ⟨M, 0, none⟩))).run Try.prog W = .ok (.agg Z) W := by
  simp only [Instr.loadAt, Instr.sureAddr, Sem.run_bind, Sem.run_pure, Result.andThen_ok]
  exact run_loadVar_row W M 47 47 _ (0, 0) _ h Try.underlying47 rfl hs
set_option maxRecDepth 100000 in
set_option maxHeartbeats 4000000 in
theorem coverSplits_walk (a b c d : C3) (w : World) :
    Calls Try.prog 5 #[tri a b c, crn d] w fun e w' => e = .returned (.bool true) ∧ Later w w' := by
  obtain ⟨m0, hm0⟩ : ∃ m, Hid (mayB a = m) := ⟨_, rfl⟩
  obtain ⟨m1, hm1⟩ : ∃ m, Hid (mayB b = m) := ⟨_, rfl⟩
  obtain ⟨m2, hm2⟩ : ∃ m, Hid (mayB c = m) := ⟨_, rfl⟩
  obtain ⟨m3, hm3⟩ : ∃ m, Hid (mayB d = m) := ⟨_, rfl⟩
  have M0 := Lib.hid (covMay_any a)
  have M1 := Lib.hid (covMay_any b)
  have M2 := Lib.hid (covMay_any c)
  have M3 := Lib.hid (covMay_any d)
  rw [hm0.out] at M0
  rw [hm1.out] at M1
  rw [hm2.out] at M2
  rw [hm3.out] at M3
  obtain ⟨p, hp⟩ : ∃ m, Hid (sdW a b d.x d.y = m) := ⟨_, rfl⟩
  obtain ⟨q, hq⟩ : ∃ m, Hid (sdW b c d.x d.y = m) := ⟨_, rfl⟩
  obtain ⟨r, hr⟩ : ∃ m, Hid (sdW c a d.x d.y = m) := ⟨_, rfl⟩
  have S0 := Lib.hid (side_any a b d)
  have S1 := Lib.hid (side_any b c d)
  have S2 := Lib.hid (side_any c a d)
  rw [hp.out] at S0
  rw [hq.out] at S1
  rw [hr.out] at S2
  obtain ⟨Z, hZ⟩ : ∃ Z, Hid (boardN 4096 (fun _ => 0) = Z) := ⟨_, rfl⟩
  have hz := zero_board
  rw [hZ.out] at hz
  unfold tri
  go_enter Try.func5, Try.ntmps5
  go_wp2_with fail
  refine (alive_any _).mono ?_
  rintro e w1 ⟨rfl, h1⟩
  have a0 := h1.cell (b := w.heap.size) (o := 0) (v := .int .i64 a.x) (by simp)
  have a1 := h1.cell (b := w.heap.size) (o := 1) (v := .int .i64 a.y) (by simp)
  have a2 := h1.cell (b := w.heap.size) (o := 2) (v := .int .i64 a.z) (by simp)
  have a3 := h1.cell (b := w.heap.size) (o := 3) (v := .int .i64 b.x) (by simp)
  have a4 := h1.cell (b := w.heap.size) (o := 4) (v := .int .i64 b.y) (by simp)
  have a5 := h1.cell (b := w.heap.size) (o := 5) (v := .int .i64 b.z) (by simp)
  have a6 := h1.cell (b := w.heap.size) (o := 6) (v := .int .i64 c.x) (by simp)
  have a7 := h1.cell (b := w.heap.size) (o := 7) (v := .int .i64 c.y) (by simp)
  have a8 := h1.cell (b := w.heap.size) (o := 8) (v := .int .i64 c.z) (by simp)
  have d0 := h1.cell (b := w.heap.size + 1) (o := 0) (v := .int .i64 d.x) (by simp)
  have d1 := h1.cell (b := w.heap.size + 1) (o := 1) (v := .int .i64 d.y) (by simp)
  have d2 := h1.cell (b := w.heap.size + 1) (o := 2) (v := .int .i64 d.z) (by simp)
  have hl : Later w w1 := (((Later.refl _).alloc _).alloc _).trans h1
  clear h1
  go_wp2_with fail
  refine wp_loop_rounds 4 ?_
  rw [rounds_succ]
  go_wp2_with fail
  refine (M0.out _).mono ?_
  rintro e w2 ⟨rfl, h2⟩
  replace a0 := h2.cell a0
  replace a1 := h2.cell a1
  replace a2 := h2.cell a2
  replace a3 := h2.cell a3
  replace a4 := h2.cell a4
  replace a5 := h2.cell a5
  replace a6 := h2.cell a6
  replace a7 := h2.cell a7
  replace a8 := h2.cell a8
  replace d0 := h2.cell d0
  replace d1 := h2.cell d1
  replace d2 := h2.cell d2
  replace hl := hl.trans h2
  clear h2
  cases m0
  · go_wp2_with fail
    go_ret
    exact ⟨rfl, hl⟩
  go_wp2_with fail
  rw [rounds_succ]
  go_wp2_with fail
  refine (M1.out _).mono ?_
  rintro e w3 ⟨rfl, h2⟩
  replace a0 := h2.cell a0
  replace a1 := h2.cell a1
  replace a2 := h2.cell a2
  replace a3 := h2.cell a3
  replace a4 := h2.cell a4
  replace a5 := h2.cell a5
  replace a6 := h2.cell a6
  replace a7 := h2.cell a7
  replace a8 := h2.cell a8
  replace d0 := h2.cell d0
  replace d1 := h2.cell d1
  replace d2 := h2.cell d2
  replace hl := hl.trans h2
  clear h2
  cases m1
  · go_wp2_with fail
    go_ret
    exact ⟨rfl, hl⟩
  go_wp2_with fail
  rw [rounds_succ]
  go_wp2_with fail
  refine (M2.out _).mono ?_
  rintro e w4 ⟨rfl, h2⟩
  replace a0 := h2.cell a0
  replace a1 := h2.cell a1
  replace a2 := h2.cell a2
  replace a3 := h2.cell a3
  replace a4 := h2.cell a4
  replace a5 := h2.cell a5
  replace a6 := h2.cell a6
  replace a7 := h2.cell a7
  replace a8 := h2.cell a8
  replace d0 := h2.cell d0
  replace d1 := h2.cell d1
  replace d2 := h2.cell d2
  replace hl := hl.trans h2
  clear h2
  cases m2
  · go_wp2_with fail
    go_ret
    exact ⟨rfl, hl⟩
  go_wp2_with fail
  rw [rounds_succ]
  clear M0 M1 M2
  as_aux_lemma =>
    go_upto_region 8 with fail
    go_cut [7, 8, 9] (fun u v x wx => u = .int .i64 p ∧ v = .int .i64 q ∧ x = .int .i64 r ∧ Later w4 wx)
    case first =>
      go_region_held3 (fun W => Later w4 W ∧ W.cell? ⟨w.heap.size, 0, none⟩ = some (.int .i64 a.x) ∧ W.cell? ⟨w.heap.size, 1, none⟩ = some (.int .i64 a.y) ∧ W.cell? ⟨w.heap.size, 2, none⟩ = some (.int .i64 a.z) ∧ W.cell? ⟨w.heap.size, 3, none⟩ = some (.int .i64 b.x) ∧ W.cell? ⟨w.heap.size, 4, none⟩ = some (.int .i64 b.y) ∧ W.cell? ⟨w.heap.size, 5, none⟩ = some (.int .i64 b.z) ∧ W.cell? ⟨w.heap.size, 6, none⟩ = some (.int .i64 c.x) ∧ W.cell? ⟨w.heap.size, 7, none⟩ = some (.int .i64 c.y) ∧ W.cell? ⟨w.heap.size, 8, none⟩ = some (.int .i64 c.z) ∧ W.cell? ⟨w.heap.size + 1, 0, none⟩ = some (.int .i64 d.x) ∧ W.cell? ⟨w.heap.size + 1, 1, none⟩ = some (.int .i64 d.y) ∧ W.cell? ⟨w.heap.size + 1, 2, none⟩ = some (.int .i64 d.z)) ((go_split_ands; (repeat' apply And.intro) <;> first | assumption | exact (Later.refl _).drew.cell (by assumption) | exact ((Later.refl _).alloc _).cell (by assumption) | exact Later.cell hL (by assumption) | exact (Later.refl _).drew | exact Later.trans (by assumption) hL)) (first | (go_at_call 23; with_reducible refine (S0.out _).mono ?_; rintro e W0 ⟨rfl, hL⟩; have hL0 := hL) | (go_at_call 23; with_reducible refine (S1.out _).mono ?_; rintro e W1 ⟨rfl, hL⟩; have hL1 := hL) | (go_at_call 23; with_reducible refine (S2.out _).mono ?_; rintro e W2 ⟨rfl, hL⟩; have hL2 := hL))
      all_goals (rename_i JJ KK hj hk hh hx hx2; refine hk _ _ (Met.intro (hj _ _ ?_)); (repeat apply Exists.intro); first | exact ⟨⟨rfl, rfl, rfl, (((Later.refl _).drew.trans hL0).trans hL1).trans hL2⟩, rfl⟩ | exact ⟨⟨rfl, rfl, rfl, (((Later.refl _).drew.trans hL0).trans hL2).trans hL1⟩, rfl⟩ | exact ⟨⟨rfl, rfl, rfl, (((Later.refl _).drew.trans hL1).trans hL0).trans hL2⟩, rfl⟩ | exact ⟨⟨rfl, rfl, rfl, (((Later.refl _).drew.trans hL1).trans hL2).trans hL0⟩, rfl⟩ | exact ⟨⟨rfl, rfl, rfl, (((Later.refl _).drew.trans hL2).trans hL0).trans hL1⟩, rfl⟩ | exact ⟨⟨rfl, rfl, rfl, (((Later.refl _).drew.trans hL2).trans hL1).trans hL0⟩, rfl⟩)
    case rest =>
      obtain ⟨rfl, rfl, rfl, h2⟩ := hcut
      replace a0 := h2.cell a0
      replace a1 := h2.cell a1
      replace a2 := h2.cell a2
      replace a3 := h2.cell a3
      replace a4 := h2.cell a4
      replace a5 := h2.cell a5
      replace a6 := h2.cell a6
      replace a7 := h2.cell a7
      replace a8 := h2.cell a8
      replace d0 := h2.cell d0
      replace d1 := h2.cell d1
      replace d2 := h2.cell d2
      replace hl := hl.trans h2
      clear h2 S0 S1 S2
      obtain ⟨wb, rfl⟩ : ∃ wb : World, wb = wc := ⟨_, rfl⟩
      obtain ⟨mn, hmn⟩ : ∃ m, Hid ((let z := if q < p then q else p; if r < z then r else z) = m) := ⟨_, rfl⟩
      obtain ⟨mx, hmx⟩ : ∃ m, Hid ((let z := if q > p then q else p; if r > z then r else z) = m) := ⟨_, rfl⟩
      have hmin : ∀ ts t W, (Builtin.min_ ts t #[.int .i64 p, .int .i64 q, .int .i64 r]).run Try.prog W = .ok (.int .i64 mn) W := fun ts t W => by
        rw [run_min_int3, ← hmn.out]
      have hmax : ∀ ts t W, (Builtin.max_ ts t #[.int .i64 p, .int .i64 q, .int .i64 r]).run Try.prog W = .ok (.int .i64 mx) W := fun ts t W => by
        rw [run_max_int3, ← hmx.out]
      go_upto_region 9 with fail
      go_cut [65] (fun u wx => u = .bool (!m3 || decide (mn < 0 ∧ 0 < mx)) ∧ Later wb wx)
      case first =>
        go_wp2_with fail
        refine (M3.out _).mono ?_
        rintro e w5 ⟨rfl, h2⟩
        cases m3
        · go_wp2_with fail
          go_meet
          case rel => exact ⟨rfl, h2⟩
        · by_cases hb1 : mn < 0
          · by_cases hb2 : 0 < mx
            · go_wp2_with fail
              go_meet
              case rel => exact ⟨by rw [decide_eq_true (show mn < 0 ∧ 0 < mx from ⟨hb1, hb2⟩)]; rfl, h2⟩
            · go_wp2_with fail
              go_meet
              case rel => exact ⟨by simp [hb1], h2⟩
          · go_wp2_with fail
            go_meet
            case rel => exact ⟨by rw [decide_eq_false (show ¬ (mn < 0 ∧ 0 < mx) from by omega)]; rfl, h2⟩
      case rest =>
        obtain ⟨rfl, h2⟩ := hcut
        replace a0 := h2.cell a0
        replace a1 := h2.cell a1
        replace a2 := h2.cell a2
        replace a3 := h2.cell a3
        replace a4 := h2.cell a4
        replace a5 := h2.cell a5
        replace a6 := h2.cell a6
        replace a7 := h2.cell a7
        replace a8 := h2.cell a8
        replace d0 := h2.cell d0
        replace d1 := h2.cell d1
        replace d2 := h2.cell d2
        replace hl := hl.trans h2
        clear h2 M3 hmin hmax
        cases m3
        · rw [show (!false || decide (mn < 0 ∧ 0 < mx)) = true from rfl]
          go_wp2_with fail
          go_ret
          exact ⟨rfl, hl⟩
        by_cases hbad : mn < 0 ∧ 0 < mx
        · rw [show (!true || decide (mn < 0 ∧ 0 < mx)) = true from by rw [decide_eq_true hbad]; rfl]
          go_wp2_with fail
          go_ret
          exact ⟨rfl, hl⟩
        rw [show (!true || decide (mn < 0 ∧ 0 < mx)) = false from by rw [decide_eq_false hbad]; rfl]
        obtain ⟨hma, hmb, hmc, hmd⟩ : MayP a ∧ MayP b ∧ MayP c ∧ MayP d := ⟨(mayB_iff a).1 hm0.out, (mayB_iff b).1 hm1.out, (mayB_iff c).1 hm2.out, (mayB_iff d).1 hm3.out⟩
        have e1 : may3 a b c = true := (may3_iff _ _ _).2 ⟨hma, hmb, hmc⟩
        have e2 : may3 a b d = true := (may3_iff _ _ _).2 ⟨hma, hmb, hmd⟩
        have e3 : may3 b c d = true := (may3_iff _ _ _).2 ⟨hmb, hmc, hmd⟩
        have e4 : may3 c a d = true := (may3_iff _ _ _).2 ⟨hmc, hma, hmd⟩
        have hall : Hid (∀ k, cnt a b c k = cnt a b d k + cnt b c d k + cnt c a d k) := fun k => by
          refine cnt_split_any hma hmb hmc hmd k ?_
          rw [← (sdc_bd hma hmb hmd).1, ← (sdc_bd hmb hmc hmd).1, ← (sdc_bd hmc hma hmd).1, hp.out, hq.out, hr.out]
          have h1 := hmn.out
          have h2 := hmx.out
          dsimp only at h1 h2
          omega
        clear hmn hmx hbad hma hmb hmc hmd hm0 hm1 hm2 hm3 hp hq hr
        as_aux_lemma =>
          go_upto_region 12 with fail
          have hwM := cell_lt d0
          obtain ⟨X1, hX1⟩ : ∃ X, X = (wc.alloc (.cells Z 47)).alloc (.cells Z 47) := ⟨_, rfl⟩
          have hB : Board X1 wc.heap.size (fun _ => 0) := by
            unfold Board BoardN; rw [hX1, hZ.out]; exact heap_alloc2_old _ _ _
          have hC : Board X1 (wc.heap.size + 1) (fun _ => 0) := by
            unfold Board BoardN; rw [hX1, hZ.out]; exact heap_alloc2_new _ _ _
          have hX : Later wc X1 := by rw [hX1]; exact ((Later.refl _).alloc _).alloc _
          rw [← hX1]
          replace a0 := hX.cell a0
          replace a1 := hX.cell a1
          replace a2 := hX.cell a2
          replace a3 := hX.cell a3
          replace a4 := hX.cell a4
          replace a5 := hX.cell a5
          replace a6 := hX.cell a6
          replace a7 := hX.cell a7
          replace a8 := hX.cell a8
          replace d0 := hX.cell d0
          replace d1 := hX.cell d1
          replace d2 := hX.cell d2
          obtain ⟨M, hM⟩ : ∃ M, Hid (wc.heap.size = M) := ⟨_, rfl⟩
          rw [hM.out] at hB hC hwM ⊢
          have hlM := hl.size
          rw [hM.out] at hlM
          replace hl := hl.trans hX
          clear hX hX1 hZ hz
          have hc01 : ∀ a b c k, 0 ≤ cnt a b c k ∧ cnt a b c k ≤ 1 := fun a b c k => by unfold cnt; split <;> omega
          have hk0 := Lib.hid (hc01 a b c)
          have hk1 := Lib.hid (hc01 a b d)
          have hk2 := Lib.hid (hc01 b c d)
          have hk3 := Lib.hid (hc01 c a d)
          clear hc01
          have K0 := Lib.hid (covered_any M (fun _ => 0) a b c)
          have K1 := Lib.hid (covered_any (M + 1) (fun _ => 0) a b d)
          have K2 := Lib.hid (covered_any (M + 1) (fun k => 0 + cnt a b d k) b c d)
          have K3 := Lib.hid (covered_any (M + 1) (fun k => 0 + cnt a b d k + cnt b c d k) c a d)
          unfold CovRet at K0 K1 K2 K3
          rw [e1] at K0
          rw [e2] at K1
          rw [e3] at K2
          rw [e4] at K3
          obtain ⟨C0, hC0⟩ : ∃ C, Hid (cnt a b c = C) := ⟨_, rfl⟩
          obtain ⟨C1, hC1⟩ : ∃ C, Hid (cnt a b d = C) := ⟨_, rfl⟩
          obtain ⟨C2, hC2⟩ : ∃ C, Hid (cnt b c d = C) := ⟨_, rfl⟩
          obtain ⟨C3, hC3⟩ : ∃ C, Hid (cnt c a d = C) := ⟨_, rfl⟩
          rw [hC0.out] at K0 hk0 hall
          rw [hC1.out] at K1 K2 K3 hk1 hall
          rw [hC2.out] at K2 K3 hk2 hall
          rw [hC3.out] at K3 hk3 hall
          clear hC0 hC1 hC2 hC3 e1 e2 e3 e4
          go_wp2_with fail
          refine (K0.out _ (fun k => by omega) hB).mono ?_
          rintro e w6 ⟨rfl, hB1, hg⟩
          replace a0 := grown_cell hg a0 (by omega)
          replace a1 := grown_cell hg a1 (by omega)
          replace a2 := grown_cell hg a2 (by omega)
          replace a3 := grown_cell hg a3 (by omega)
          replace a4 := grown_cell hg a4 (by omega)
          replace a5 := grown_cell hg a5 (by omega)
          replace a6 := grown_cell hg a6 (by omega)
          replace a7 := grown_cell hg a7 (by omega)
          replace a8 := grown_cell hg a8 (by omega)
          replace d0 := grown_cell hg d0 (by omega)
          replace d1 := grown_cell hg d1 (by omega)
          replace d2 := grown_cell hg d2 (by omega)
          replace hC := hC.grown hg (by simp)
          replace hl := grown_later hl hg (by omega)
          clear hg hB K0
          as_aux_lemma =>
            go_wp2_with fail
            refine (K1.out _ (fun k => by omega) hC).mono ?_
            rintro e w7 ⟨rfl, hD, hg⟩
            replace a0 := grown_cell hg a0 (by omega)
            replace a1 := grown_cell hg a1 (by omega)
            replace a2 := grown_cell hg a2 (by omega)
            replace a3 := grown_cell hg a3 (by omega)
            replace a4 := grown_cell hg a4 (by omega)
            replace a5 := grown_cell hg a5 (by omega)
            replace a6 := grown_cell hg a6 (by omega)
            replace a7 := grown_cell hg a7 (by omega)
            replace a8 := grown_cell hg a8 (by omega)
            replace d0 := grown_cell hg d0 (by omega)
            replace d1 := grown_cell hg d1 (by omega)
            replace d2 := grown_cell hg d2 (by omega)
            replace hB1 := hB1.grown hg (by simp)
            replace hl := grown_later hl hg (by omega)
            clear hg hC K1
            as_aux_lemma =>
              go_wp2_with fail
              refine (K2.out _ (fun k => by have := hk1.out k; omega) hD).mono ?_
              rintro e w8 ⟨rfl, hE, hg⟩
              replace a0 := grown_cell hg a0 (by omega)
              replace a1 := grown_cell hg a1 (by omega)
              replace a2 := grown_cell hg a2 (by omega)
              replace a3 := grown_cell hg a3 (by omega)
              replace a4 := grown_cell hg a4 (by omega)
              replace a5 := grown_cell hg a5 (by omega)
              replace a6 := grown_cell hg a6 (by omega)
              replace a7 := grown_cell hg a7 (by omega)
              replace a8 := grown_cell hg a8 (by omega)
              replace d0 := grown_cell hg d0 (by omega)
              replace d1 := grown_cell hg d1 (by omega)
              replace d2 := grown_cell hg d2 (by omega)
              replace hB1 := hB1.grown hg (by simp)
              replace hl := grown_later hl hg (by omega)
              clear hg hD K2
              as_aux_lemma =>
                go_wp2_with fail
                refine (K3.out _ (fun k => by have := hk1.out k; have := hk2.out k; omega) hE).mono ?_
                rintro e w9 ⟨rfl, hF, hg⟩
                clear a0 a1 a2 a3 a4 a5 a6 a7 a8 d0 d1 d2
                replace hB1 := hB1.grown hg (by simp)
                replace hl := grown_later hl hg (by omega)
                clear hg hE K3
                replace hF := hF.ext (g := fun k => 0 + C0 k) (fun k _ => by have := hall.out k; omega)
                have l3 := eql_board w9 (fun k => 0 + C0 k)
                have hsz : (Try.prog.info? 47).map (·.size) = some (boardN 4096 (fun k => 0 + C0 k)).size := by
                  rw [boardN_size]; kernel_rfl
                unfold Board BoardN at hB1 hF
                obtain ⟨Z1, hZ1⟩ : ∃ Z, Hid (boardN 4096 (fun k => 0 + C0 k) = Z) := ⟨_, rfl⟩
                rw [hZ1.out] at hB1 hF l3 hsz
                clear hZ1
                replace hsz := Lib.hid hsz
                replace l3 := Lib.hid l3
                replace hB1 := Lib.hid hB1
                replace hF := Lib.hid hF
                go_wp2_with (first | refine wpList_load_row_w rfl 47 _ rfl M rfl 47 Z1 (0, 0) _ hB1.out Try.underlying47 rfl hsz.out ?_ | refine wpList_load_row_w rfl 47 _ rfl (M + 1) rfl 47 Z1 (0, 0) _ hF.out Try.underlying47 rfl hsz.out ?_ | refine wpList_eql_w rfl 47 _ _ _ rfl (.agg Z1) (.agg Z1) rfl rfl (.bool true) (run_eqGuard_agg _ _ _ _ _ _ _ guard_board) l3.out ?_)
                go_ret
                exact ⟨rfl, hl⟩
end Go.Proofs.Ytmpnojgciaoghaa
