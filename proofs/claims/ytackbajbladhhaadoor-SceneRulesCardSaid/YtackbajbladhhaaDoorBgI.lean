/-
  Numbers of 320 bits: as 128 bits.
-/
import Derived.Test.YtackbajbladhhaaDoorBgH
namespace Go.Proofs.YtackbajbladhhaaDoor
open Go.RowKit Go.Shelf
set_option linter.unusedVariables false
set_option linter.unusedSimpArgs false
attribute [local go_sem] Oper.semAt_some
attribute [-simp] Tryd.sizeOf105 Tryd.typeInfo105

theorem bP_8 : bP 8 = 2 ^ 128 := by unfold bP; rw [show (65536 : Nat) = 2 ^ 16 from rfl, ← Nat.pow_mul]
theorem bP_4 : bP 4 = 2 ^ 64 := by unfold bP; rw [show (65536 : Nat) = 2 ^ 16 from rfl, ← Nat.pow_mul]
theorem up_step (v k : Nat) : v / bP k = v / bP (k + 1) * 65536 + dig v k := by
  unfold dig
  rw [bP_succ, ← Nat.div_div_eq_div_mul, Nat.mul_comm]
  exact (Nat.div_add_mod _ _).symm
theorem dig_mod {v n k : Nat} (h : k < n) : dig (v % bP n) k = dig v k := by
  conv => rhs; rw [← Nat.div_add_mod v (bP n), Nat.mul_comm, Nat.add_comm]
  rw [dig_add_mul _ _ h]
theorem dig_div (v n k : Nat) : dig (v / bP n) k = dig v (n + k) := by
  unfold dig; rw [Nat.div_div_eq_div_mul, bP_add]
set_option maxRecDepth 100000 in
set_option maxHeartbeats 4000000 in
theorem to_any (x : Int) (W : World) (h : -170141183460469231731687303715884105728 ≤ x ∧ x < 170141183460469231731687303715884105728) :
    Calls Tryd.prog 58 #[.agg (bigI x)] W fun e w' => e = .returned (.tuple #[wdV x, .bool true]) ∧ Later W w' := by
  have hb9 : bP 9 = 2 ^ 144 := bP_9
  have hbig : 2 ^ 144 * 4 ≤ bP 20 := by rw [← bP_9, show bP 20 = bP 9 * bP 11 from bP_add 9 11]; exact Nat.mul_le_mul_left _ (show 4 ≤ bP 11 by rw [show bP 11 = 65536 * bP 10 from by rw [bP_succ, Nat.mul_comm]]; have := bP_pos 10; omega)
  have hbig2 : 89202980794122492566142873090593446023921664 ≤ bP 20 := by
    have : (2 : Nat) ^ 144 * 4 = 89202980794122492566142873090593446023921664 := by decide
    omega
  have hT7 := Lib.hid (fun V => two_any 127 V (by omega))
  have hT8 := Lib.hid (fun V => two_any 128 V (by omega))
  rw [show ((2 ^ 127 : Nat) : Int) = 170141183460469231731687303715884105728 by decide] at hT7
  rw [show ((128 : Nat) : Int) = 128 from rfl] at hT8
  rw [show ((2 ^ 128 : Nat) : Int) = 340282366920938463463374607431768211456 by decide] at hT8
  have hL1 := Lib.hid (fun V => bless_any x 170141183460469231731687303715884105728 V (by omega))
  have hNg := Lib.hid (fun V => bneg_any 170141183460469231731687303715884105728 V (by omega))
  have hL2 := Lib.hid (fun V => bless_any x (-170141183460469231731687303715884105728) V (by omega))
  rw [decide_eq_true (show x < 170141183460469231731687303715884105728 by omega)] at hL1
  rw [decide_eq_false (show ¬ x < -170141183460469231731687303715884105728 by omega)] at hL2
  have hAd := Lib.hid (fun V => badd_any x 340282366920938463463374607431768211456 V (by omega))
  obtain ⟨wd, hwd⟩ : ∃ w, Hid (wdV x = w) := ⟨_, rfl⟩
  rw [hwd.out]
  obtain ⟨v, hv⟩ : ∃ v : Nat, Hid ((if x < 0 then x + 340282366920938463463374607431768211456 else x) = (v : Int)) := by
    by_cases h0 : x < 0
    · exact ⟨(x + 340282366920938463463374607431768211456).toNat, Lib.hid (by rw [if_pos h0]; omega)⟩
    · exact ⟨x.toNat, Lib.hid (by rw [if_neg h0]; omega)⟩
  obtain ⟨s, hs⟩ : ∃ s, Hid (decide (x < 0) = s) := ⟨_, rfl⟩
  have hsg : Hid ((bigI x)[0]? = some (.bool s)) := Lib.hid (by rw [← hs.out]; exact bigV_sign _ _)
  obtain ⟨lx, hlx⟩ : ∃ l, Hid ((bigI x).toList = l) := ⟨_, rfl⟩
  have lenx : lx.length = 21 := by rw [← hlx.out, Array.length_toList]; exact bigV_size _ _
  have ax : bigI x = lx.toArray := by rw [← hlx.out]
  obtain ⟨lm, hlm⟩ : ∃ l, Hid ((bigI 170141183460469231731687303715884105728).toList = l) := ⟨_, rfl⟩
  have lenm : lm.length = 21 := by rw [← hlm.out, Array.length_toList]; exact bigV_size _ _
  have am : bigI 170141183460469231731687303715884105728 = lm.toArray := by rw [← hlm.out]
  have aone : lm.toArray.all (·.oneCell') = true := by rw [← am]; exact bigV_one _ _
  obtain ⟨bn, hbn⟩ : ∃ b, Hid (bigI (-170141183460469231731687303715884105728) = b) := ⟨_, rfl⟩
  obtain ⟨bt, hbt⟩ : ∃ b, Hid (bigI 340282366920938463463374607431768211456 = b) := ⟨_, rfl⟩
  rw [ax] at hL1 hL2 hAd hsg ⊢
  rw [am] at hL1 hNg hT7
  rw [hbn.out] at hNg hL2
  rw [hbt.out] at hT8 hAd
  obtain ⟨Z0, hZ0⟩ : ∃ Z, Z = (W.alloc (.cells lx.toArray 105)).alloc (.cells #[.int .i64 0, .int .u64 0] 95) := ⟨_, rfl⟩
  have hlZ : Later W Z0 := by rw [hZ0]; exact ((Later.refl W).alloc _).alloc _
  have kX : RowIn Z0 W.heap.size lx := ⟨by rw [hZ0]; exact push_one (heap_alloc_new _ _) _, lenx⟩
  have kR : Z0.heap[W.heap.size + 1]? = some (.cells #[.int .i64 0, .int .u64 0] 95 (0, 0)) := by rw [hZ0]; exact push_new _ _ (World.size_alloc _ _)
  obtain ⟨n21, hn21⟩ : ∃ n, Hid ((21 : Nat) = n) := ⟨_, rfl⟩
  have hsz : ∀ w, (sizeOf 105).run Tryd.prog w = .ok n21 w := fun w => by rw [← hn21.out]; kernel_rfl
  obtain ⟨P, hP⟩ : ∃ n, Hid (W.heap.size = n) := ⟨_, rfl⟩
  obtain ⟨R, hR⟩ : ∃ n, Hid (P + 1 = n) := ⟨_, rfl⟩
  have hWP : W.heap.size ≤ P := Nat.le_of_eq hP.out
  have hPR : P < R := by have := hR.out; omega
  go_enter Tryd.func58, Tryd.ntmps58
  go_upto_region 1 with fail
  rw [← hZ0]
  clear hZ0 hb9 hbig hbig2 hlx hlm hbn hbt
  rw [hP.out] at kX kR ⊢
  rw [hR.out] at kR ⊢
  have hkR := Lib.hid kR
  clear hP hR
  first | go_step3 | skip
  go_wp2_with fail
  refine (hT7.out _).mono ?_
  rintro e w1 ⟨rfl, h1⟩
  have hszm : lm.length = n21 := by rw [lenm]; exact hn21.out
  have hsm : (storeCells ⟨w1.heap.size, 0, none⟩ lm).run Tryd.prog (w1.alloc (.cells #[.bool false, .int .u64 0, .int .u64 0, .int .u64 0, .int .u64 0, .int .u64 0, .int .u64 0, .int .u64 0, .int .u64 0, .int .u64 0, .int .u64 0, .int .u64 0, .int .u64 0, .int .u64 0, .int .u64 0, .int .u64 0, .int .u64 0, .int .u64 0, .int .u64 0, .int .u64 0, .int .u64 0] 105)) = .ok () (w1.alloc (.cells lm.toArray 105)) := by
    have := store_roww (arr := lm.toArray) (heap_alloc_new w1 (.cells #[.bool false, .int .u64 0, .int .u64 0, .int .u64 0, .int .u64 0, .int .u64 0, .int .u64 0, .int .u64 0, .int .u64 0, .int .u64 0, .int .u64 0, .int .u64 0, .int .u64 0, .int .u64 0, .int .u64 0, .int .u64 0, .int .u64 0, .int .u64 0, .int .u64 0, .int .u64 0, .int .u64 0] 105)) (by rw [List.size_toArray, List.size_toArray, lenm]; rfl) aone
    rw [World.setRow_alloc_new] at this
    simpa using this
  go_upto_region 2 with fail
  obtain ⟨Y, hY⟩ : ∃ Y, Y = w1.alloc (.cells lm.toArray 105) := ⟨_, rfl⟩
  have hlY : Later Z0 Y := by rw [hY]; exact h1.alloc _
  have kM : RowIn Y w1.heap.size lm := ⟨by rw [hY]; exact heap_alloc_new _ _, lenm⟩
  rw [← hY]
  clear hY hsm
  replace kX := kX.later hlY
  replace kR := hlY.row kR
  have hRY : R < w1.heap.size := Nat.lt_of_lt_of_le (Array.getElem?_eq_some_iff.1 (show Z0.heap[R]? = some _ from hkR.out)).1 h1.size
  obtain ⟨M, hM⟩ : ∃ M, Hid (w1.heap.size = M) := ⟨_, rfl⟩
  rw [hM.out] at kM hRY ⊢
  have hlWY := hlZ.trans hlY
  clear hM h1 hlY hT7 hszm
  have hlcP := fun w => load_list hn21.out lenx w (M := P)
  have hlcM := fun w => load_list hn21.out lenm w (M := M)
  have hS : Hid (∀ U, Later Y U → (U.rangeAt P 0 lx ∧ U.rangeAt M 0 lm)) := Lib.hid (fun U h => ⟨(kX.later h).range, (kM.later h).range⟩)
  have hdZ : Later Y Y.drew := (Later.refl Y).drew
  replace kX := Lib.hid kX
  replace kR := Lib.hid kR
  clear kM
  first | go_step3 | skip
  go_region_held3 (fun U => U.rangeAt P 0 lx ∧ U.rangeAt M 0 lm) ((first | (with_reducible exact hS.out _ hdZ) | (with_reducible exact hS.out _ hK3) | (with_reducible exact hS.out _ hK2) | (with_reducible exact hS.out _ hK1))) (first | (go_at_call 73; with_reducible refine (hL1.out _).mono ?_; rintro e V1 ⟨rfl, hLa⟩; have hK1 := hdZ.trans hLa) | (go_at_call 71; with_reducible refine (hNg.out _).mono ?_; rintro e V2 ⟨rfl, hLb⟩; have hK2 := hK1.trans hLb) | (go_at_call 73; with_reducible refine (hL2.out _).mono ?_; rintro e V3 ⟨rfl, hLc⟩; have hK3 := hK2.trans hLc))
  have hXV := kX.out.later hK3
  have kRV := hK3.row kR.out
  have hlV := hlWY.trans hK3
  have cS : V3.cell? ⟨P, 0, none⟩ = some (.bool s) := (cell_of_row V3 P 0 _ _ _ hXV.row).trans hsg.out
  clear hS hlcP hlcM kX kR hL1 hL2 hNg hK1 hK2 hK3 hLa hLb hLc hlWY
  obtain ⟨U, rfl⟩ : ∃ U : World, U = V3 := ⟨_, rfl⟩
  cases s
  · have hx0 : ¬ x < 0 := of_decide_eq_false hs.out
    have kPU : BigB U P false (dig v) := by
      have h1 := hv.out
      rw [if_neg hx0] at h1
      unfold BigB
      rw [← bigI_nat, ← h1, ax]
      exact hXV.row
    have kRU := kRV
    have hlU := hlV
    clear hXV hT8 hAd
    have hvb : v < 340282366920938463463374607431768211456 := by
      have h1 := hv.out
      by_cases h0 : x < 0
      · rw [if_pos h0] at h1; omega
      · rw [if_neg h0] at h1; omega
    have h8 : bP 8 = 340282366920938463463374607431768211456 := by rw [bP_8]
    have h4 : bP 4 = 18446744073709551616 := by rw [bP_4]
    have hlo : v % bP 4 < 18446744073709551616 := by rw [h4]; exact Nat.mod_lt _ (by omega)
    have hhi : v / bP 4 < 18446744073709551616 := by rw [h4]; omega
    have hwd2 : Hid (wd = .agg #[.int .i64 (hiW x), .int .u64 ((v % bP 4 : Nat) : Int)]) := Lib.hid (by
      rw [← hwd.out]
      have h1 := hv.out
      have h2 : loW x = ((v % bP 4 : Nat) : Int) := by
        rw [loW_eq, h4]
        by_cases h0 : x < 0
        · rw [if_pos h0] at h1; omega
        · rw [if_neg h0] at h1; omega
      show Value.agg #[.int .i64 (hiW x), .int .u64 (loW x)] = _
      rw [h2])
    obtain ⟨hx, hhx⟩ : ∃ n, Hid (hiW x = n) := ⟨_, rfl⟩
    have hcv : ∀ w, (convert 93 2 (.int .u64 ((v / bP 4 : Nat) : Int))).run Tryd.prog w = .ok (.int .i64 hx) w := fun w => by
      have h1 := hv.out
      have h3 : wrap64 ((v / bP 4 : Nat) : Int) = hx := by
        rw [← hhx.out, hiW_eq]
        simp only [wrap64]
        rw [h4]
        by_cases h0 : x < 0
        · rw [if_pos h0] at h1; omega
        · rw [if_neg h0] at h1; omega
      rw [← h3]; go_simp; first | done | rfl | (rw [IntKind.wrap_i64]; simp only [wrap64])
    rw [hhx.out] at hwd2
    obtain ⟨LO, hLO⟩ : ∃ n, Hid (v % bP 4 = n) := ⟨_, rfl⟩
    obtain ⟨HI, hHI⟩ : ∃ n, Hid (v / bP 4 = n) := ⟨_, rfl⟩
    rw [hLO.out] at hlo hwd2
    rw [hHI.out] at hhi hcv
    have hLO4 : Hid (LO / bP 4 = 0) := Lib.hid (Nat.div_eq_of_lt (by rw [h4]; exact hlo))
    have hHI4 : Hid (HI / bP 4 = 0) := Lib.hid (Nat.div_eq_of_lt (by rw [h4]; exact hhi))
    have hd1 : Hid (∀ k, k < 4 → dig LO k = dig v k) := Lib.hid (fun k hk => by rw [← hLO.out]; exact dig_mod hk)
    have hd2 : Hid (∀ k, dig HI k = dig v (k + 4)) := Lib.hid (fun k => by rw [← hHI.out, dig_div, Nat.add_comm])
    replace hcv := Lib.hid hcv
    clear hvb h8 h4 hv hwd hhx
    go_wp2_with fail
    go_loopw [7, 5, 6] (fun y lo hi wr => ∃ k : Nat, k ≤ 4 ∧ y = .int .i64 ((k : Int) - 1) ∧ lo = .int .u64 ((LO / bP k : Nat) : Int) ∧ hi = .int .u64 ((HI / bP k : Nat) : Int) ∧ wr = U) (fun y _ _ _ => (intOf y + 1).toNat)
    case atStart => exact ⟨4, by omega, rfl, by rw [hLO4.out]; rfl, by rw [hHI4.out]; rfl, rfl⟩
    case round =>
      obtain ⟨k, hk, rfl, rfl, rfl, rfl⟩ := hrel
      cases k with
      | zero =>
        rw [show (((0 : Nat) : Int) - 1) = -1 from rfl]
        rw [bP_zero, Nat.div_one, Nat.div_one]
        have r0 := (cells_2 kRU).1
        have r1 := (cells_2 kRU).2
        have rf := fun k => frozen_r kRU k
        have hcv2 := hcv.out
        go_wp2_with fail
        refine bodyPost_ret (v := .tuple #[wd, .bool true]) ?_ rfl ⟨rfl, ?_⟩
        · rw [hwd2.out]
          simp only [results]; go_simp
        · exact (hlU.setCell (by show W.heap.size ≤ R; omega) _).setCell (by show W.heap.size ≤ R; omega) _
      | succ k =>
        rw [show (((k + 1 : Nat) : Int) - 1) = (k : Int) from by omega]
        have hk4 : k < 4 := by omega
        obtain ⟨a, ha⟩ : ∃ n, Hid (dig v k = n) := ⟨_, rfl⟩
        obtain ⟨b, hb⟩ : ∃ n, Hid (dig v (k + 4) = n) := ⟨_, rfl⟩
        have c1 := BigB.at1 kPU (k := k) (by omega)
        have c2 := BigB.at1 kPU (k := k + 4) (by omega)
        rw [ha.out] at c1
        rw [hb.out] at c2
        have e1 := up_step LO k
        have e2 := up_step HI k
        rw [hd1.out k hk4, ha.out] at e1
        rw [hd2.out k, hb.out] at e2
        have b1 : LO / bP k ≤ LO := Nat.div_le_self _ _
        have b2 : HI / bP k ≤ HI := Nat.div_le_self _ _
        obtain ⟨l', hl'⟩ : ∃ n, Hid (LO / bP k = n) := ⟨_, rfl⟩
        obtain ⟨g', hg'⟩ : ∃ n, Hid (HI / bP k = n) := ⟨_, rfl⟩
        obtain ⟨l, hl⟩ : ∃ n, Hid (LO / bP (k + 1) = n) := ⟨_, rfl⟩
        obtain ⟨g, hg⟩ : ∃ n, Hid (HI / bP (k + 1) = n) := ⟨_, rfl⟩
        rw [hl'.out, hl.out] at e1
        rw [hl'.out] at b1
        rw [hg'.out, hg.out] at e2
        rw [hg'.out] at b2
        rw [hl.out, hg.out]
        have q1 : (l : Int) * 65536 + (a : Int) = (l' : Int) := by omega
        have q2 : (g : Int) * 65536 + (b : Int) = (g' : Int) := by omega
        have q3 : (l' : Int) < 18446744073709551616 := by omega
        have q4 : (g' : Int) < 18446744073709551616 := by omega
        have q5 : (l : Int) * 65536 < 18446744073709551616 := by omega
        have q6 : (g : Int) * 65536 < 18446744073709551616 := by omega
        have hki : (k : Int) < 4 := by omega
        clear e1 e2 b1 b2
        go_wp2_with fail
        go_roundw
        case rel => exact ⟨k, by omega, by go_num, by first | (rw [hl'.out]; done) | rw [hl'.out, q1], by first | (rw [hg'.out]; done) | rw [hg'.out, q2], by first | trivial | rfl⟩
        case measure => simp [intOf]
  · have hx0 : x < 0 := of_decide_eq_true hs.out
    have hba : bigI (x + 340282366920938463463374607431768211456) = bigV false (dig v) := by
      have h1 := hv.out
      rw [if_pos hx0] at h1
      rw [h1, bigI_nat]
    obtain ⟨ba, hbae⟩ : ∃ b, Hid (bigI (x + 340282366920938463463374607431768211456) = b) := ⟨_, rfl⟩
    rw [hbae.out] at hAd
    have hbsz : ba.size = n21 := by rw [← hbae.out, hba, bigV_size]; exact hn21.out
    have hbo : ba.all (·.oneCell') = true := by rw [← hbae.out, hba]; exact bigV_one _ _
    have hlcx : Hid (∀ V, Later U V → (loadCellsFrom ⟨P, 0, none⟩ 0 n21 #[]).run Tryd.prog V = .ok lx.toArray V) := Lib.hid (fun V h => load_list hn21.out lenx V (hXV.later h).range)
    have hsto : Hid (∀ V, Later U V → (storeCells ⟨P, 0, none⟩ ba.toList).run Tryd.prog V = .ok () (V.setRow P ba)) := Lib.hid (fun V h => store_roww (hXV.later h).row (by rw [List.size_toArray, lenx, hbsz]; exact hn21.out) hbo)
    have hfin : Hid (∀ V, Later U V → (V.setRow P ba).heap[P]? = some (.cells (bigV false (dig v)) 105 (0, 0)) ∧ (V.setRow P ba).heap[R]? = some (.cells #[.int .i64 0, .int .u64 0] 95 (0, 0)) ∧ Later W (V.setRow P ba)) := Lib.hid (fun V h =>
      ⟨by rw [← hba, hbae.out]; exact setRow_heap _ _ _ _ _ _ (hXV.later h).row, (setRow_other _ _ _ _ (show R ≠ P by omega)).trans (h.row kRV), (hlV.trans h).setRow hWP _⟩)
    have hdU : Later U U.drew := (Later.refl U).drew
    replace hbo := Lib.hid hbo
    clear hba
    go_upto_region 5 with fail
    have hlc0 := hlcx.out _ hdU
    go_cut [3] from 22 to 24 (fun u wx => u = .bool false ∧ wx.heap[P]? = some (.cells (bigV false (dig v)) 105 (0, 0)) ∧ wx.heap[R]? = some (.cells #[.int .i64 0, .int .u64 0] 95 (0, 0)) ∧ Later W wx)
    case first =>
      go_region_with (first | (go_at_call 72; with_reducible refine (hT8.out _).mono ?_; rintro e V1 ⟨rfl, hLa⟩; have hK1 := hdU.trans hLa; have hlc1 := hlcx.out _ hK1) | (go_at_call 56; with_reducible refine (hAd.out _).mono ?_; rintro e V2 ⟨rfl, hLb⟩; have hK2 := hK1.trans hLb; have hst2 := hsto.out _ hK2))
      all_goals
        rename_i JJ KK hj hk
        refine hk _ _ (Met.intro (hj _ _ ?_))
        (repeat apply Exists.intro)
        exact ⟨⟨rfl, hfin.out _ hK2⟩, rfl⟩
    case rest =>
    obtain ⟨rfl, kP1, kR1, hl1⟩ := hcut
    obtain ⟨U2, rfl⟩ : ∃ U : World, U = wc := ⟨_, rfl⟩
    clear hfin hsto hlcx hlc0 hT8 hAd hXV kRV hlV hdU cS hsz
    have kPU : BigB U2 P false (dig v) := kP1
    have kRU := kR1
    have hlU := hl1
    clear kP1 kR1 hl1
    have hvb : v < 340282366920938463463374607431768211456 := by
      have h1 := hv.out
      by_cases h0 : x < 0
      · rw [if_pos h0] at h1; omega
      · rw [if_neg h0] at h1; omega
    have h8 : bP 8 = 340282366920938463463374607431768211456 := by rw [bP_8]
    have h4 : bP 4 = 18446744073709551616 := by rw [bP_4]
    have hlo : v % bP 4 < 18446744073709551616 := by rw [h4]; exact Nat.mod_lt _ (by omega)
    have hhi : v / bP 4 < 18446744073709551616 := by rw [h4]; omega
    have hwd2 : Hid (wd = .agg #[.int .i64 (hiW x), .int .u64 ((v % bP 4 : Nat) : Int)]) := Lib.hid (by
      rw [← hwd.out]
      have h1 := hv.out
      have h2 : loW x = ((v % bP 4 : Nat) : Int) := by
        rw [loW_eq, h4]
        by_cases h0 : x < 0
        · rw [if_pos h0] at h1; omega
        · rw [if_neg h0] at h1; omega
      show Value.agg #[.int .i64 (hiW x), .int .u64 (loW x)] = _
      rw [h2])
    obtain ⟨hx, hhx⟩ : ∃ n, Hid (hiW x = n) := ⟨_, rfl⟩
    have hcv : ∀ w, (convert 93 2 (.int .u64 ((v / bP 4 : Nat) : Int))).run Tryd.prog w = .ok (.int .i64 hx) w := fun w => by
      have h1 := hv.out
      have h3 : wrap64 ((v / bP 4 : Nat) : Int) = hx := by
        rw [← hhx.out, hiW_eq]
        simp only [wrap64]
        rw [h4]
        by_cases h0 : x < 0
        · rw [if_pos h0] at h1; omega
        · rw [if_neg h0] at h1; omega
      rw [← h3]; go_simp; first | done | rfl | (rw [IntKind.wrap_i64]; simp only [wrap64])
    rw [hhx.out] at hwd2
    obtain ⟨LO, hLO⟩ : ∃ n, Hid (v % bP 4 = n) := ⟨_, rfl⟩
    obtain ⟨HI, hHI⟩ : ∃ n, Hid (v / bP 4 = n) := ⟨_, rfl⟩
    rw [hLO.out] at hlo hwd2
    rw [hHI.out] at hhi hcv
    have hLO4 : Hid (LO / bP 4 = 0) := Lib.hid (Nat.div_eq_of_lt (by rw [h4]; exact hlo))
    have hHI4 : Hid (HI / bP 4 = 0) := Lib.hid (Nat.div_eq_of_lt (by rw [h4]; exact hhi))
    have hd1 : Hid (∀ k, k < 4 → dig LO k = dig v k) := Lib.hid (fun k hk => by rw [← hLO.out]; exact dig_mod hk)
    have hd2 : Hid (∀ k, dig HI k = dig v (k + 4)) := Lib.hid (fun k => by rw [← hHI.out, dig_div, Nat.add_comm])
    replace hcv := Lib.hid hcv
    clear hvb h8 h4 hv hwd hhx
    go_wp2_with fail
    go_loopw [7, 5, 6] (fun y lo hi wr => ∃ k : Nat, k ≤ 4 ∧ y = .int .i64 ((k : Int) - 1) ∧ lo = .int .u64 ((LO / bP k : Nat) : Int) ∧ hi = .int .u64 ((HI / bP k : Nat) : Int) ∧ wr = U2) (fun y _ _ _ => (intOf y + 1).toNat)
    case atStart => exact ⟨4, by omega, rfl, by rw [hLO4.out]; rfl, by rw [hHI4.out]; rfl, rfl⟩
    case round =>
      obtain ⟨k, hk, rfl, rfl, rfl, rfl⟩ := hrel
      cases k with
      | zero =>
        rw [show (((0 : Nat) : Int) - 1) = -1 from rfl]
        rw [bP_zero, Nat.div_one, Nat.div_one]
        have r0 := (cells_2 kRU).1
        have r1 := (cells_2 kRU).2
        have rf := fun k => frozen_r kRU k
        have hcv2 := hcv.out
        go_wp2_with fail
        refine bodyPost_ret (v := .tuple #[wd, .bool true]) ?_ rfl ⟨rfl, ?_⟩
        · rw [hwd2.out]
          simp only [results]; go_simp
        · exact (hlU.setCell (by show W.heap.size ≤ R; omega) _).setCell (by show W.heap.size ≤ R; omega) _
      | succ k =>
        rw [show (((k + 1 : Nat) : Int) - 1) = (k : Int) from by omega]
        have hk4 : k < 4 := by omega
        obtain ⟨a, ha⟩ : ∃ n, Hid (dig v k = n) := ⟨_, rfl⟩
        obtain ⟨b, hb⟩ : ∃ n, Hid (dig v (k + 4) = n) := ⟨_, rfl⟩
        have c1 := BigB.at1 kPU (k := k) (by omega)
        have c2 := BigB.at1 kPU (k := k + 4) (by omega)
        rw [ha.out] at c1
        rw [hb.out] at c2
        have e1 := up_step LO k
        have e2 := up_step HI k
        rw [hd1.out k hk4, ha.out] at e1
        rw [hd2.out k, hb.out] at e2
        have b1 : LO / bP k ≤ LO := Nat.div_le_self _ _
        have b2 : HI / bP k ≤ HI := Nat.div_le_self _ _
        obtain ⟨l', hl'⟩ : ∃ n, Hid (LO / bP k = n) := ⟨_, rfl⟩
        obtain ⟨g', hg'⟩ : ∃ n, Hid (HI / bP k = n) := ⟨_, rfl⟩
        obtain ⟨l, hl⟩ : ∃ n, Hid (LO / bP (k + 1) = n) := ⟨_, rfl⟩
        obtain ⟨g, hg⟩ : ∃ n, Hid (HI / bP (k + 1) = n) := ⟨_, rfl⟩
        rw [hl'.out, hl.out] at e1
        rw [hl'.out] at b1
        rw [hg'.out, hg.out] at e2
        rw [hg'.out] at b2
        rw [hl.out, hg.out]
        have q1 : (l : Int) * 65536 + (a : Int) = (l' : Int) := by omega
        have q2 : (g : Int) * 65536 + (b : Int) = (g' : Int) := by omega
        have q3 : (l' : Int) < 18446744073709551616 := by omega
        have q4 : (g' : Int) < 18446744073709551616 := by omega
        have q5 : (l : Int) * 65536 < 18446744073709551616 := by omega
        have q6 : (g : Int) * 65536 < 18446744073709551616 := by omega
        have hki : (k : Int) < 4 := by omega
        clear e1 e2 b1 b2
        go_wp2_with fail
        go_roundw
        case rel => exact ⟨k, by omega, by go_num, by first | (rw [hl'.out]; done) | rw [hl'.out, q1], by first | (rw [hg'.out]; done) | rw [hg'.out, q2], by first | trivial | rfl⟩
        case measure => simp [intOf]
end Go.Proofs.YtackbajbladhhaaDoor
