/-
  Numbers of 320 bits: of 64 bits; powers of 2.
-/
import Derived.Test.YtackbajbladhhaaDoorBgD
namespace Go.Proofs.YtackbajbladhhaaDoor
open Go.RowKit Go.Shelf
set_option linter.unusedVariables false
set_option linter.unusedSimpArgs false
attribute [local go_sem] Oper.semAt_some
attribute [-simp] Tryd.sizeOf105 Tryd.typeInfo105
attribute [-go_sem] Instr.build

theorem build_big (s : Bool) (w : World) : (Instr.build 105 #[(0, .bool s)]).run Tryd.prog w = .ok (.agg (bigV s (fun _ => 0))) w := by kernel_rfl
set_option maxRecDepth 100000 in
set_option maxHeartbeats 2000000 in
theorem bof_any (n : Int) (W : World) (hn : -9223372036854775808 ≤ n ∧ n ≤ 9223372036854775807) :
    Calls Tryd.prog 54 #[.int .i64 n] W fun e w' => e = .returned (.agg (bigI n)) ∧ Later W w' := by
  unfold bigI
  obtain ⟨X, hX⟩ : ∃ X, Hid (n.natAbs = X) := ⟨_, rfl⟩
  obtain ⟨s, hs⟩ : ∃ X, Hid (decide (n < 0) = X) := ⟨_, rfl⟩
  rw [hX.out, hs.out]
  have hXb : X ≤ 9223372036854775808 := by have := hX.out; omega
  have hb := build_big s
  have hz := bigV_dig0 s
  obtain ⟨u, hu⟩ : ∃ b, Hid (IntKind.u64.wrap n = b) := ⟨_, rfl⟩
  have hub : 0 ≤ u ∧ u < 18446744073709551616 := by have := hu.out; rw [IntKind.wrap_u64] at this; omega
  have huX : if s then u = 18446744073709551616 - (X : Int) else u = X := by
    have h1 := hu.out
    rw [IntKind.wrap_u64] at h1
    have h2 := hX.out
    have h3 := hs.out
    cases s
    · have := of_decide_eq_false h3; simp only [Bool.false_eq_true, if_false]; omega
    · have := of_decide_eq_true h3; simp only [if_true]; omega
  have huc : ∀ w, (convert 2 93 (.int .i64 n)).run Tryd.prog w = .ok (.int .u64 u) w := fun w => by
    rw [← hu.out]; go_simp
  rw [hz] at hb
  obtain ⟨bs, hbs⟩ : ∃ b, Hid (bigV s (dig 0) = b) := ⟨_, rfl⟩
  rw [hbs.out] at hb
  obtain ⟨Z0, hZ0⟩ : ∃ Z, Z = (W.alloc (.cells #[.bool false, .int .u64 0, .int .u64 0, .int .u64 0, .int .u64 0, .int .u64 0, .int .u64 0, .int .u64 0, .int .u64 0, .int .u64 0, .int .u64 0, .int .u64 0, .int .u64 0, .int .u64 0, .int .u64 0, .int .u64 0, .int .u64 0, .int .u64 0, .int .u64 0, .int .u64 0, .int .u64 0] 105)).alloc (.cells bs 105) := ⟨_, rfl⟩
  have hlZ : Later W Z0 := by rw [hZ0]; exact ((Later.refl W).alloc _).alloc _
  have kR : BigB Z0 W.heap.size false (dig 0) := by unfold BigB; rw [big_zero, hZ0]; exact push_one (heap_alloc_new _ _) _
  have kT : BigB Z0 (W.heap.size + 1) s (dig 0) := by unfold BigB; rw [hbs.out, hZ0]; exact push_new _ _ (by simp)
  have hnew := heap_alloc_new (W.alloc (.cells #[.bool false, .int .u64 0, .int .u64 0, .int .u64 0, .int .u64 0, .int .u64 0, .int .u64 0, .int .u64 0, .int .u64 0, .int .u64 0, .int .u64 0, .int .u64 0, .int .u64 0, .int .u64 0, .int .u64 0, .int .u64 0, .int .u64 0, .int .u64 0, .int .u64 0, .int .u64 0, .int .u64 0] 105)) (.cells #[.bool false, .int .u64 0, .int .u64 0, .int .u64 0, .int .u64 0, .int .u64 0, .int .u64 0, .int .u64 0, .int .u64 0, .int .u64 0, .int .u64 0, .int .u64 0, .int .u64 0, .int .u64 0, .int .u64 0, .int .u64 0, .int .u64 0, .int .u64 0, .int .u64 0, .int .u64 0, .int .u64 0] 105)
  rw [World.size_alloc] at hnew
  have hbsz : bs.size = 21 := by rw [← hbs.out, bigV_size]
  have hb1 : bs.all (·.oneCell') = true := by rw [← hbs.out]; exact bigV_one _ _
  have hsd : s = decide (n < 0) := hs.out.symm
  replace hnew := Lib.hid hnew
  replace huX := Lib.hid huX
  replace hb1 := Lib.hid hb1
  replace hbsz := Lib.hid hbsz
  replace hsd := Lib.hid hsd
  clear hX hu hs hbs hz
  have hsr : (((W.alloc (.cells #[.bool false, .int .u64 0, .int .u64 0, .int .u64 0, .int .u64 0, .int .u64 0, .int .u64 0, .int .u64 0, .int .u64 0, .int .u64 0, .int .u64 0, .int .u64 0, .int .u64 0, .int .u64 0, .int .u64 0, .int .u64 0, .int .u64 0, .int .u64 0, .int .u64 0, .int .u64 0, .int .u64 0] 105)).alloc (.cells #[.bool false, .int .u64 0, .int .u64 0, .int .u64 0, .int .u64 0, .int .u64 0, .int .u64 0, .int .u64 0, .int .u64 0, .int .u64 0, .int .u64 0, .int .u64 0, .int .u64 0, .int .u64 0, .int .u64 0, .int .u64 0, .int .u64 0, .int .u64 0, .int .u64 0, .int .u64 0, .int .u64 0] 105)).setRow (W.heap.size + 1) bs) = Z0 := by
    rw [hZ0, ← World.size_alloc W (.cells #[.bool false, .int .u64 0, .int .u64 0, .int .u64 0, .int .u64 0, .int .u64 0, .int .u64 0, .int .u64 0, .int .u64 0, .int .u64 0, .int .u64 0, .int .u64 0, .int .u64 0, .int .u64 0, .int .u64 0, .int .u64 0, .int .u64 0, .int .u64 0, .int .u64 0, .int .u64 0, .int .u64 0] 105), World.setRow_alloc_new]
  obtain ⟨R, hR⟩ : ∃ n, Hid (W.heap.size = n) := ⟨_, rfl⟩
  obtain ⟨T, hT⟩ : ∃ n, Hid (R + 1 = n) := ⟨_, rfl⟩
  have hWR : W.heap.size ≤ R := Nat.le_of_eq hR.out
  have hRT : R < T := by have := hT.out; omega
  replace hsr := Lib.hid hsr
  clear hZ0
  go_enter Tryd.func54, Tryd.ntmps54
  go_upto_region 1 with fail
  cases s
  · have hn0 : ¬ n < 0 := of_decide_eq_false hsd.out.symm
    have hn1 : decide (n < 0) = false := hsd.out.symm
    go_upto_region 2 with (refine wpList_store_row rfl 105 _ _ rfl (W.heap.size + 1) bs rfl rfl 105 #[.bool false, .int .u64 0, .int .u64 0, .int .u64 0, .int .u64 0, .int .u64 0, .int .u64 0, .int .u64 0, .int .u64 0, .int .u64 0, .int .u64 0, .int .u64 0, .int .u64 0, .int .u64 0, .int .u64 0, .int .u64 0, .int .u64 0, .int .u64 0, .int .u64 0, .int .u64 0, .int .u64 0] hnew.out (by rw [hbsz.out]; exact info_big) (by rw [hbsz.out]; rfl) hb1.out ?_)
    rw [hsr.out]
    clear hsr hnew hb
    rw [hR.out] at kR kT ⊢
    rw [hT.out] at kT ⊢
    go_wp2_with fail
    rw [show u = (X : Int) from huX.out]
    go_loopw [5, 4] (fun y z wr => ∃ k : Nat, k ≤ 4 ∧ y = .int .i64 k ∧ z = .int .u64 ((X / bP k : Nat) : Int) ∧ BigB wr T false (dig (X % bP k)) ∧ Keeps4 Z0 wr T) (fun y _ _ => (300 - intOf y).toNat)
    case atStart => exact ⟨0, by omega, rfl, by rw [bP_zero, Nat.div_one]; first | done | rfl | rw [show IntKind.u64.wrap (X : Int) = X from by rw [IntKind.wrap_u64]; omega], by rw [bP_zero, Nat.mod_one]; exact kT, Keeps4.refl _ _⟩
    case round =>
      obtain ⟨k, hk, rfl, rfl, kTr, hkp⟩ := hrel
      obtain ⟨wo, rfl⟩ : ∃ wo : World, wo = wr := ⟨_, rfl⟩
      by_cases hk4 : k < 4
      · obtain ⟨q, hq⟩ : ∃ q, Hid (X / bP k = q) := ⟨_, rfl⟩
        have hqb : q ≤ 9223372036854775808 := by rw [← hq.out]; exact Nat.le_trans (Nat.div_le_self _ _) hXb
        rw [hq.out]
        have cT := BigB.at1 kTr (k := k) (by omega)
        have fT := BigB.frozen kTr (1 + k)
        have hki : (k : Int) < 4 := by omega
        have hqi : (q : Int) ≤ 9223372036854775808 := by omega
        go_wp2_with fail
        go_roundw
        case rel =>
          have h1 : (q : Int) % 65536 = ((dig X k : Nat) : Int) := by unfold dig; rw [hq.out]; omega
          have h2 : (q : Int) / 65536 = ((X / bP (k + 1) : Nat) : Int) := by rw [bP_succ, ← Nat.div_div_eq_div_mul, hq.out]; omega
          rw [h1, h2]
          refine ⟨k + 1, by omega, by go_num, rfl, ?_, hkp.trans (Keeps4.set _ _ _ _)⟩
          rw [mod_next]
          exact BigB.ext (BigB.set1 kTr (show k < 20 by omega) _) (fun j _ => dig_put (Nat.mod_lt _ (bP_pos k)) (dig_lt _ _) j)
        case measure => simp [intOf]; omega
      · obtain rfl : k = 4 := by omega
        rw [Nat.mod_eq_of_lt (show X < bP 4 from Nat.lt_of_le_of_lt hXb (by decide))] at kTr
        have kRr := hkp.keep (by omega) kR
        go_wp2_with (first | refine wpList_load_row rfl _ _ rfl T rfl _ _ (0, 0) _ kTr Tryd.underlying105 rfl (size_big _ _) ?_ | refine wpList_store_row rfl 105 _ _ rfl R (bigV false (dig X)) rfl rfl 105 (bigV false (dig 0)) kRr (size_big _ _) (by rw [bigV_size, bigV_size]) (bigV_one _ _) ?_)
        exact bodyPost_ret (v := .agg (bigV false (dig X))) (results_cell1 (a := 2) (t := 105) (by kernel_rfl) _ rfl (load_big (setRow_big kRr))) rfl ⟨rfl, (hkp.to_later hlZ (by omega)).setRow (by omega) _⟩
  · have hn0 : n < 0 := of_decide_eq_true hsd.out.symm
    have hn1 : decide (n < 0) = true := hsd.out.symm
    have hu2 : u = 18446744073709551616 - (X : Int) := huX.out
    have hX1 : 1 ≤ (X : Int) := by omega
    go_upto_region 2 with (refine wpList_store_row rfl 105 _ _ rfl (W.heap.size + 1) bs rfl rfl 105 #[.bool false, .int .u64 0, .int .u64 0, .int .u64 0, .int .u64 0, .int .u64 0, .int .u64 0, .int .u64 0, .int .u64 0, .int .u64 0, .int .u64 0, .int .u64 0, .int .u64 0, .int .u64 0, .int .u64 0, .int .u64 0, .int .u64 0, .int .u64 0, .int .u64 0, .int .u64 0, .int .u64 0] hnew.out (by rw [hbsz.out]; exact info_big) (by rw [hbsz.out]; rfl) hb1.out ?_)
    rw [hsr.out]
    clear hsr hnew hb
    rw [hR.out] at kR kT ⊢
    rw [hT.out] at kT ⊢
    replace hu2 := Lib.hid hu2
    go_wp2_with fail
    rw [show 18446744073709551615 - u + 1 = (X : Int) from by rw [hu2.out]; omega]
    go_loopw [5, 4] (fun y z wr => ∃ k : Nat, k ≤ 4 ∧ y = .int .i64 k ∧ z = .int .u64 ((X / bP k : Nat) : Int) ∧ BigB wr T true (dig (X % bP k)) ∧ Keeps4 Z0 wr T) (fun y _ _ => (300 - intOf y).toNat)
    case atStart => exact ⟨0, by omega, rfl, by rw [bP_zero, Nat.div_one]; first | done | rfl | rw [show IntKind.u64.wrap (X : Int) = X from by rw [IntKind.wrap_u64]; omega], by rw [bP_zero, Nat.mod_one]; exact kT, Keeps4.refl _ _⟩
    case round =>
      obtain ⟨k, hk, rfl, rfl, kTr, hkp⟩ := hrel
      obtain ⟨wo, rfl⟩ : ∃ wo : World, wo = wr := ⟨_, rfl⟩
      by_cases hk4 : k < 4
      · obtain ⟨q, hq⟩ : ∃ q, Hid (X / bP k = q) := ⟨_, rfl⟩
        have hqb : q ≤ 9223372036854775808 := by rw [← hq.out]; exact Nat.le_trans (Nat.div_le_self _ _) hXb
        rw [hq.out]
        have cT := BigB.at1 kTr (k := k) (by omega)
        have fT := BigB.frozen kTr (1 + k)
        have hki : (k : Int) < 4 := by omega
        have hqi : (q : Int) ≤ 9223372036854775808 := by omega
        go_wp2_with fail
        go_roundw
        case rel =>
          have h1 : (q : Int) % 65536 = ((dig X k : Nat) : Int) := by unfold dig; rw [hq.out]; omega
          have h2 : (q : Int) / 65536 = ((X / bP (k + 1) : Nat) : Int) := by rw [bP_succ, ← Nat.div_div_eq_div_mul, hq.out]; omega
          rw [h1, h2]
          refine ⟨k + 1, by omega, by go_num, rfl, ?_, hkp.trans (Keeps4.set _ _ _ _)⟩
          rw [mod_next]
          exact BigB.ext (BigB.set1 kTr (show k < 20 by omega) _) (fun j _ => dig_put (Nat.mod_lt _ (bP_pos k)) (dig_lt _ _) j)
        case measure => simp [intOf]; omega
      · obtain rfl : k = 4 := by omega
        rw [Nat.mod_eq_of_lt (show X < bP 4 from Nat.lt_of_le_of_lt hXb (by decide))] at kTr
        have kRr := hkp.keep (by omega) kR
        go_wp2_with (first | refine wpList_load_row rfl _ _ rfl T rfl _ _ (0, 0) _ kTr Tryd.underlying105 rfl (size_big _ _) ?_ | refine wpList_store_row rfl 105 _ _ rfl R (bigV true (dig X)) rfl rfl 105 (bigV false (dig 0)) kRr (size_big _ _) (by rw [bigV_size, bigV_size]) (bigV_one _ _) ?_)
        exact bodyPost_ret (v := .agg (bigV true (dig X))) (results_cell1 (a := 2) (t := 105) (by kernel_rfl) _ rfl (load_big (setRow_big kRr))) rfl ⟨rfl, (hkp.to_later hlZ (by omega)).setRow (by omega) _⟩
end Go.Proofs.YtackbajbladhhaaDoor
