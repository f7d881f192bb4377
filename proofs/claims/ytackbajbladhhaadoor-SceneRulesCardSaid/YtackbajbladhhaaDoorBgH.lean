/-
  Numbers of 320 bits: powers of 2; which number is less.
-/
import Derived.Test.YtackbajbladhhaaDoorBgG
namespace Go.Proofs.YtackbajbladhhaaDoor
open Go.RowKit Go.Shelf
set_option linter.unusedVariables false
set_option linter.unusedSimpArgs false
attribute [local go_sem] Oper.semAt_some
attribute [-simp] Tryd.sizeOf105 Tryd.typeInfo105
attribute [-go_sem] Instr.build

theorem dig_one {v a : Nat} (hv : v < 65536) (j : Nat) : dig (v * bP a) j = if j = a then v else 0 := by
  have := dig_put (D := 0) (k := a) (bP_pos a) hv j
  rw [Nat.zero_add, dig_zero_i] at this
  exact this.symm
theorem two_eq (n : Nat) : 2 ^ (n % 16) * bP (n / 16) = 2 ^ n := by
  unfold bP
  rw [show (65536 : Nat) = 2 ^ 16 from rfl, ← Nat.pow_mul, ← Nat.pow_add, Nat.add_comm, Nat.div_add_mod]
theorem bigI_nat (n : Nat) : bigI (n : Int) = bigV false (dig n) := by unfold bigI; rw [decide_eq_false (by omega), Int.natAbs_natCast]
set_option maxRecDepth 100000 in
set_option maxHeartbeats 2000000 in
theorem two_any (n : Nat) (W : World) (hn : n < 300) :
    Calls Tryd.prog 72 #[.int .i64 n] W fun e w' => e = .returned (.agg (bigI ((2 ^ n : Nat) : Int))) ∧ Later W w' := by
  rw [bigI_nat, ← two_eq n]
  obtain ⟨a, ha⟩ : ∃ a, Hid (n / 16 = a) := ⟨_, rfl⟩
  obtain ⟨m, hm⟩ : ∃ a, Hid (n % 16 = a) := ⟨_, rfl⟩
  rw [ha.out, hm.out]
  have ha19 : a < 19 := by rw [← ha.out]; omega
  have hm16 : m < 16 := by rw [← hm.out]; omega
  have hna : (n : Int) / 16 = (a : Int) := by rw [← ha.out]; omega
  have hnm : (n : Int) % 16 = (m : Int) := by rw [← hm.out]; omega
  obtain ⟨Z0, hZ0⟩ : ∃ Z, Z = (W.alloc (.cells #[.bool false, .int .u64 0, .int .u64 0, .int .u64 0, .int .u64 0, .int .u64 0, .int .u64 0, .int .u64 0, .int .u64 0, .int .u64 0, .int .u64 0, .int .u64 0, .int .u64 0, .int .u64 0, .int .u64 0, .int .u64 0, .int .u64 0, .int .u64 0, .int .u64 0, .int .u64 0, .int .u64 0] 105)).alloc (.cells #[.bool false, .int .u64 0, .int .u64 0, .int .u64 0, .int .u64 0, .int .u64 0, .int .u64 0, .int .u64 0, .int .u64 0, .int .u64 0, .int .u64 0, .int .u64 0, .int .u64 0, .int .u64 0, .int .u64 0, .int .u64 0, .int .u64 0, .int .u64 0, .int .u64 0, .int .u64 0, .int .u64 0] 105) := ⟨_, rfl⟩
  have hlZ : Later W Z0 := by rw [hZ0]; exact ((Later.refl W).alloc _).alloc _
  have kR : BigB Z0 W.heap.size false (dig 0) := by unfold BigB; rw [big_zero, hZ0]; exact push_one (heap_alloc_new _ _) _
  have kT : BigB Z0 (W.heap.size + 1) false (dig 0) := by unfold BigB; rw [big_zero, hZ0]; exact push_new _ _ (by simp)
  obtain ⟨R, hR⟩ : ∃ n, Hid (W.heap.size = n) := ⟨_, rfl⟩
  obtain ⟨T, hT⟩ : ∃ n, Hid (R + 1 = n) := ⟨_, rfl⟩
  have hWR : W.heap.size ≤ R := Nat.le_of_eq hR.out
  have hRT : R < T := by have := hT.out; omega
  clear ha hm
  go_enter Tryd.func72, Tryd.ntmps72
  go_upto_region 2 with fail
  rw [← hZ0]
  clear hZ0
  rw [hR.out] at kR kT ⊢
  rw [hT.out] at kT ⊢
  clear hR hT
  have cT := BigB.at1 kT (k := a) (by omega)
  have fT := BigB.frozen kT (1 + a)
  have hai : (a : Int) < 19 := by omega
  have kT1 := BigB.set1 kT (show a < 20 by omega) 1
  go_upto_region 3 with fail
  obtain ⟨Z1, hZ1⟩ : ∃ Z, Z = Z0.setCell ⟨T, 1 + a, none⟩ (.int .u64 1) := ⟨_, rfl⟩
  have kT2 : BigB Z1 T false (dig (2 ^ 0 * bP a)) := by
    rw [hZ1]
    exact BigB.ext kT1 (fun j _ => by rw [dig_one (by omega), dig_zero_i])
  have kR1 : BigB Z1 R false (dig 0) := by rw [hZ1]; exact kR.othc (by omega)
  have hlZ1 : Later W Z1 := by rw [hZ1]; exact hlZ.setCell (by show W.heap.size ≤ T; omega) _
  rw [← hZ1]
  clear hZ1 cT fT kT1 kT kR hlZ
  go_wp2_with fail
  go_loopw [4] (fun y wr => ∃ i : Nat, i ≤ m ∧ y = .int .i64 i ∧ BigB wr T false (dig (2 ^ i * bP a)) ∧ Keeps4 Z1 wr T) (fun y _ => (300 - intOf y).toNat)
  case atStart => exact ⟨0, by omega, rfl, kT2, Keeps4.refl _ _⟩
  case round =>
    obtain ⟨i, hi, rfl, kTr, hkp⟩ := hrel
    obtain ⟨wo, rfl⟩ : ∃ wo : World, wo = wr := ⟨_, rfl⟩
    by_cases him : i < m
    · obtain ⟨v, hv⟩ : ∃ v : Nat, Hid ((2 : Nat) ^ i = v) := ⟨_, Lib.hid rfl⟩
      have hv6 : v ≤ 16384 := by rw [← hv.out]; exact Nat.le_trans (Nat.pow_le_pow_right (by omega) (show i ≤ 14 by omega)) (by omega)
      have cT := BigB.at1 kTr (k := a) (by omega)
      rw [hv.out, dig_one (by omega), if_pos rfl] at cT
      have fT := BigB.frozen kTr (1 + a)
      have hvi : (v : Int) ≤ 16384 := by omega
      have hii : (i : Int) < m := by omega
      go_wp2_with fail
      go_roundw
      case rel =>
        have h1 : (v : Int) * 2 = (((2 : Nat) ^ (i + 1) : Nat) : Int) := by rw [Nat.pow_succ, hv.out]; omega
        rw [h1]
        refine ⟨i + 1, by omega, by go_num, ?_, hkp.trans (Keeps4.set _ _ _ _)⟩
        have h2 : (2 : Nat) ^ (i + 1) < 65536 := by rw [Nat.pow_succ, hv.out]; omega
        exact BigB.ext (BigB.set1 kTr (show a < 20 by omega) _) (fun j _ => by
          rw [dig_one h2, hv.out, dig_one (by omega)]
          by_cases e : j = a
          · rw [if_pos e, if_pos e]
          · rw [if_neg e, if_neg e, if_neg e])
      case measure => simp [intOf]; omega
    · obtain rfl : i = m := by omega
      have kRr := hkp.keep (by omega) kR1
      go_wp2_with (first | refine wpList_load_row rfl _ _ rfl T rfl _ _ (0, 0) _ kTr Tryd.underlying105 rfl (size_big _ _) ?_ | refine wpList_store_row rfl 105 _ _ rfl R (bigV false (dig (2 ^ i * bP a))) rfl rfl 105 (bigV false (dig 0)) kRr (size_big _ _) (by rw [bigV_size, bigV_size]) (bigV_one _ _) ?_)
      exact bodyPost_ret (v := .agg (bigV false (dig (2 ^ i * bP a)))) (results_cell1 (a := 2) (t := 105) (by kernel_rfl) _ rfl (load_big (setRow_big kRr))) rfl ⟨rfl, (hkp.to_later hlZ1 (by omega)).setRow (by omega) _⟩
/-- A number in a box that is read whole: what a region that draws wants. -/
structure RowIn (w : World) (M : Nat) (l : List Value) : Prop where
  row : w.heap[M]? = some (.cells l.toArray 105 (0, 0))
  len : l.length = 21
theorem RowIn.range {w : World} {M : Nat} {l : List Value} (h : RowIn w M l) : w.rangeAt M 0 l := row_rang h.row
theorem RowIn.later {w w' : World} {M : Nat} {l : List Value} (h : RowIn w M l) (hl : Later w w') : RowIn w' M l := ⟨hl.row h.row, h.len⟩
theorem BigB.rowIn {w : World} {M : Nat} {s : Bool} {f : Nat → Nat} (h : BigB w M s f) : RowIn w M (bigV s f).toList := ⟨by unfold BigB at h; rw [h], by rw [Array.length_toList, bigV_size]⟩
theorem load_list {n21 : Nat} (hn : 21 = n21) {M : Nat} {l : List Value} (hl : l.length = 21) (w : World) (h : w.rangeAt M 0 l) : (loadCellsFrom ⟨M, 0, none⟩ 0 n21 #[]).run Tryd.prog w = .ok l.toArray w := by
  rw [← hn, ← hl]
  exact run_loadCells_list (P := Tryd.prog) w ⟨M, 0, none⟩ l (fun j v hv => by rw [Addr.add_mid]; exact h j v hv)
set_option maxRecDepth 100000 in
set_option maxHeartbeats 2000000 in
theorem bless_any (x y : Int) (W : World) (h : x.natAbs + y.natAbs < bP 20) :
    Calls Tryd.prog 73 #[.agg (bigI x), .agg (bigI y)] W fun e w' => e = .returned (.bool (decide (x < y))) ∧ Later W w' := by
  have hN := Lib.hid (fun V => bneg_any y V (by omega))
  have hAd := Lib.hid (fun V => badd_any x (-y) V (by omega))
  rw [show decide (x < y) = decide (x + -y < 0) from decide_eq_decide.2 (by omega)]
  obtain ⟨r, hr⟩ : ∃ r, Hid (decide (x + -y < 0) = r) := ⟨_, rfl⟩
  rw [hr.out]
  have hsg : Hid ((bigI (x + -y))[0]? = some (.bool r)) := Lib.hid (by rw [← hr.out]; exact bigV_sign _ _)
  have hzz : Hid ((bigI (x + -y)).size = 21 ∧ (bigI (x + -y)).all (·.oneCell') = true) := Lib.hid ⟨bigV_size _ _, bigV_one _ _⟩
  obtain ⟨lx, hlx⟩ : ∃ l, Hid ((bigI x).toList = l) := ⟨_, rfl⟩
  obtain ⟨ly, hly⟩ : ∃ l, Hid ((bigI y).toList = l) := ⟨_, rfl⟩
  have lenx : lx.length = 21 := by rw [← hlx.out, Array.length_toList]; exact bigV_size _ _
  have leny : ly.length = 21 := by rw [← hly.out, Array.length_toList]; exact bigV_size _ _
  rw [show bigI x = lx.toArray by rw [← hlx.out]] at hAd ⊢
  rw [show bigI y = ly.toArray by rw [← hly.out]] at hN ⊢
  obtain ⟨bn, hbn⟩ : ∃ b, Hid (bigI (-y) = b) := ⟨_, rfl⟩
  obtain ⟨bs, hbs⟩ : ∃ b, Hid (bigI (x + -y) = b) := ⟨_, rfl⟩
  rw [hbn.out] at hN hAd
  rw [hbs.out] at hAd hsg hzz
  clear hlx hly hbn hbs hr
  obtain ⟨Z0, hZ0⟩ : ∃ Z, Z = (W.alloc (.cells lx.toArray 105)).alloc (.cells ly.toArray 105) := ⟨_, rfl⟩
  have hlZ : Later W Z0 := by rw [hZ0]; exact ((Later.refl W).alloc _).alloc _
  have kA : RowIn Z0 W.heap.size lx := ⟨by rw [hZ0]; exact push_one (heap_alloc_new _ _) _, lenx⟩
  have kB : RowIn Z0 (W.heap.size + 1) ly := ⟨by rw [hZ0]; exact push_new _ _ (World.size_alloc _ _), leny⟩
  have hZs : Z0.heap.size = W.heap.size + 2 := by rw [hZ0]; simp
  obtain ⟨n21, hn21⟩ : ∃ n, Hid ((21 : Nat) = n) := ⟨_, rfl⟩
  have hsz : ∀ w, (sizeOf 105).run Tryd.prog w = .ok n21 w := fun w => by rw [← hn21.out]; kernel_rfl
  have hbsz : bs.size = n21 := by rw [hzz.out.1]; exact hn21.out
  obtain ⟨P, hP⟩ : ∃ n, Hid (W.heap.size = n) := ⟨_, rfl⟩
  obtain ⟨Q, hQ⟩ : ∃ n, Hid (P + 1 = n) := ⟨_, rfl⟩
  have hPZ : P < Z0.heap.size := by have := hP.out; omega
  have hQZ : Q < Z0.heap.size := by have := hP.out; have := hQ.out; omega
  rw [hP.out] at kA kB
  rw [hQ.out] at kB
  have hlcA := fun w => load_list hn21.out lenx w (M := P)
  have hlcB := fun w => load_list hn21.out leny w (M := Q)
  have hS : Hid (∀ U, Later Z0 U → (U.rangeAt P 0 lx ∧ U.rangeAt Q 0 ly)) := Lib.hid (fun U h => ⟨(kA.later h).range, (kB.later h).range⟩)
  have hdZ : Later Z0 Z0.drew := (Later.refl Z0).drew
  have hz21 : Hid ((#[.bool false, .int .u64 0, .int .u64 0, .int .u64 0, .int .u64 0, .int .u64 0, .int .u64 0, .int .u64 0, .int .u64 0, .int .u64 0, .int .u64 0, .int .u64 0, .int .u64 0, .int .u64 0, .int .u64 0, .int .u64 0, .int .u64 0, .int .u64 0, .int .u64 0, .int .u64 0, .int .u64 0] : Array Value).size = bs.size) := Lib.hid (by rw [hzz.out.1]; rfl)
  have hst : Hid (∀ U : World, (storeCells ⟨U.heap.size, 0, none⟩ bs.toList).run Tryd.prog (U.alloc (.cells #[.bool false, .int .u64 0, .int .u64 0, .int .u64 0, .int .u64 0, .int .u64 0, .int .u64 0, .int .u64 0, .int .u64 0, .int .u64 0, .int .u64 0, .int .u64 0, .int .u64 0, .int .u64 0, .int .u64 0, .int .u64 0, .int .u64 0, .int .u64 0, .int .u64 0, .int .u64 0, .int .u64 0] 105)) = .ok () ((U.alloc (.cells #[.bool false, .int .u64 0, .int .u64 0, .int .u64 0, .int .u64 0, .int .u64 0, .int .u64 0, .int .u64 0, .int .u64 0, .int .u64 0, .int .u64 0, .int .u64 0, .int .u64 0, .int .u64 0, .int .u64 0, .int .u64 0, .int .u64 0, .int .u64 0, .int .u64 0, .int .u64 0, .int .u64 0] 105)).setRow U.heap.size bs)) := Lib.hid (fun U => store_roww (heap_alloc_new _ _) (by rw [hzz.out.1]; rfl) hzz.out.2)
  have hSn : Hid (∀ U, Later Z0 U → Later Z0 ((U.alloc (.cells #[.bool false, .int .u64 0, .int .u64 0, .int .u64 0, .int .u64 0, .int .u64 0, .int .u64 0, .int .u64 0, .int .u64 0, .int .u64 0, .int .u64 0, .int .u64 0, .int .u64 0, .int .u64 0, .int .u64 0, .int .u64 0, .int .u64 0, .int .u64 0, .int .u64 0, .int .u64 0, .int .u64 0] 105)).setRow U.heap.size bs)) := Lib.hid (fun U h => (h.alloc _).setRow h.size _)
  clear hZs kA kB
  go_enter Tryd.func73, Tryd.ntmps73
  go_upto_region 1 with fail
  rw [← hZ0, hP.out, hQ.out]
  clear hZ0 hP hQ
  have hz0 := hS.out _ hdZ
  have hz1 := hz0.1
  have hz2 := hz0.2
  have hz3 := hS.out _ (hdZ.alloc (.cells #[.bool false, .int .u64 0, .int .u64 0, .int .u64 0, .int .u64 0, .int .u64 0, .int .u64 0, .int .u64 0, .int .u64 0, .int .u64 0, .int .u64 0, .int .u64 0, .int .u64 0, .int .u64 0, .int .u64 0, .int .u64 0, .int .u64 0, .int .u64 0, .int .u64 0, .int .u64 0, .int .u64 0] 105))
  have hz4 := hz3.1
  have hz5 := hz3.2
  clear hz0 hz3
  have hA0 := hlcA _ hz1
  have hB0 := hlcB _ hz2
  have hA1 := hlcA _ hz4
  have hB1 := hlcB _ hz5
  have hlcA' := Lib.hid hlcA
  clear hlcA hlcB hz1 hz2 hz4 hz5
  have hfin : Hid (∀ (U : World) (b : Nat), Later Z0 U → Z0.heap.size ≤ b → b < U.heap.size → True) := Lib.hid (fun _ _ _ _ _ => trivial)
  have hfn : Hid (∀ (U : World) (b : Nat) (cs : Array Value), Later Z0 U → Z0.heap.size ≤ b → U.heap[b]? = some (.cells cs 105 (0, 0)) → (U.setRow b bs).heap[b]? = some (.cells bs 105 (0, 0)) ∧ Later Z0 (U.setRow b bs)) := Lib.hid (fun U b cs h1 h2 h3 => ⟨setRow_heap _ _ _ _ _ _ h3, h1.setRow h2 _⟩)
  have hdA : Hid (Later Z0 ((Z0.alloc (.cells #[.bool false, .int .u64 0, .int .u64 0, .int .u64 0, .int .u64 0, .int .u64 0, .int .u64 0, .int .u64 0, .int .u64 0, .int .u64 0, .int .u64 0, .int .u64 0, .int .u64 0, .int .u64 0, .int .u64 0, .int .u64 0, .int .u64 0, .int .u64 0, .int .u64 0, .int .u64 0, .int .u64 0] 105)).drew)) := Lib.hid ((Later.refl Z0).alloc _).drew
  have hdK : Hid (((Z0.alloc (.cells #[.bool false, .int .u64 0, .int .u64 0, .int .u64 0, .int .u64 0, .int .u64 0, .int .u64 0, .int .u64 0, .int .u64 0, .int .u64 0, .int .u64 0, .int .u64 0, .int .u64 0, .int .u64 0, .int .u64 0, .int .u64 0, .int .u64 0, .int .u64 0, .int .u64 0, .int .u64 0, .int .u64 0] 105)).drew).heap[Z0.heap.size]? = some (.cells #[.bool false, .int .u64 0, .int .u64 0, .int .u64 0, .int .u64 0, .int .u64 0, .int .u64 0, .int .u64 0, .int .u64 0, .int .u64 0, .int .u64 0, .int .u64 0, .int .u64 0, .int .u64 0, .int .u64 0, .int .u64 0, .int .u64 0, .int .u64 0, .int .u64 0, .int .u64 0, .int .u64 0] 105 (0, 0))) := Lib.hid (heap_alloc_new _ _)
  have hA9 := load_list hn21.out lenx _ (M := P) (hS.out _ hdA.out).1
  have hB9 := load_list hn21.out leny _ (M := Q) (hS.out _ hdA.out).2
  go_cut [5] from 6 to 9 (fun u wx => ∃ b, u = .pointer (some ⟨b, 0, none⟩) ∧ wx.heap[b]? = some (.cells bs 105 (0, 0)) ∧ Later Z0 wx)
  case first =>
    go_region_with (first | (go_at_call 71; with_reducible refine (hN.out _).mono ?_; go_loud (rintro e V1 ⟨rfl, hLa⟩; (first | (have hL1 : Later Z0 V1 := hdZ.trans hLa) | (have hL1 : Later Z0 V1 := (hdZ.alloc _).trans hLa; have kZ1 := hLa.row (heap_alloc_new _ _)) | (have hL1 : Later Z0 V1 := hdA.out.trans hLa; have kZ1 := hLa.row hdK.out)); have hA2 := (load_list hn21.out lenx V1 (M := P) (hS.out _ hL1).1); have hA3 := (load_list hn21.out lenx _ (M := P) (hS.out _ (hL1.alloc (.cells #[.bool false, .int .u64 0, .int .u64 0, .int .u64 0, .int .u64 0, .int .u64 0, .int .u64 0, .int .u64 0, .int .u64 0, .int .u64 0, .int .u64 0, .int .u64 0, .int .u64 0, .int .u64 0, .int .u64 0, .int .u64 0, .int .u64 0, .int .u64 0, .int .u64 0, .int .u64 0, .int .u64 0] 105))).1))) | (go_at_call 56; with_reducible refine (hAd.out _).mono ?_; go_loud (rintro e V2 ⟨rfl, hLb⟩; first | (have hL2 : Later Z0 V2 := hL1.trans hLb; have hst2 := hst.out V2; (try have kZ2 := hLb.row kZ1); (try have hst3 := store_roww kZ2 hz21.out hzz.out.2)) | (have hL2 : Later Z0 V2 := (hL1.alloc _).trans hLb; have kZ2 := hLb.row (heap_alloc_new _ _); have hst3 := store_roww kZ2 hz21.out hzz.out.2))))
    all_goals
      rename_i JJ KK hj hk
      refine hk _ _ (Met.intro (hj _ _ ?_))
      (repeat apply Exists.intro)
      first
        | exact ⟨⟨_, rfl, setRow_heap _ _ _ _ _ _ (heap_alloc_new _ _), hSn.out V2 hL2⟩, rfl⟩
        | exact ⟨⟨_, rfl, setRow_heap _ _ _ _ _ _ kZ2, hL2.setRow hL1.size _⟩, rfl⟩
        | exact ⟨⟨_, rfl, setRow_heap _ _ _ _ _ _ kZ2, hL2.setRow (Nat.le_refl _) _⟩, rfl⟩
  case rest =>
  obtain ⟨b, rfl, hb, hlb⟩ := hcut
  have cb : wc.cell? ⟨b, 0, none⟩ = some (.bool r) := (cell_of_row wc b 0 _ _ _ hb).trans hsg.out
  clear hA0 hB0 hA1 hB1 hA9 hB9 hsz hN hAd hst hS
  go_wp2_with fail
  go_ret
  exact ⟨rfl, hlZ.trans hlb⟩
end Go.Proofs.YtackbajbladhhaaDoor
