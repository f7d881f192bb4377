/-
  Numbers of 320 bits: powers of 2; which number is less.
  Numbers of 320 bits: as 128 bits.
  The document's matrices: are numbers within a bound?
-/
import Derived.Test.YtackbajbladhhaaBgG
import Derived.Test.YtackbajbladhhaaMxH
namespace Go.Proofs.Ytackbajbladhhaa
open Go.RowKit Go.Shelf
set_option linter.unusedVariables false
set_option linter.unusedSimpArgs false
attribute [local go_sem] Oper.semAt_some
attribute [-simp] Try.sizeOf167 Try.typeInfo167
attribute [-go_sem] Instr.build

theorem dig_one {v a : Nat} (hv : v < 65536) (j : Nat) : dig (v * bP a) j = if j = a then v else 0 := by
  have := dig_put (D := 0) (k := a) (bP_pos a) hv j
  rw [Nat.zero_add, dig_zero_i] at this
  exact this.symm
theorem two_eq (n : Nat) : 2 ^ (n % 16) * bP (n / 16) = 2 ^ n := by
  unfold bP
  rw [show (65536 : Nat) = 2 ^ 16 from rfl, ← Nat.pow_mul, ← Nat.pow_add, Nat.add_comm, Nat.div_add_mod]
theorem bigI_nat (n : Nat) : bigI (n : Int) = bigV false (dig n) := by unfold bigI; rw [decide_eq_false (by omega), Int.natAbs_natCast]
set_option maxRecDepth 100000 in
set_option maxHeartbeats 2000000 in
theorem two_any (n : Nat) (W : World) (hn : n < 300) :
    Calls Try.prog 128 #[.int .i64 n] W fun e w' => e = .returned (.agg (bigI ((2 ^ n : Nat) : Int))) ∧ Later W w' := by
  rw [bigI_nat, ← two_eq n]
  obtain ⟨a, ha⟩ : ∃ a, Hid (n / 16 = a) := ⟨_, rfl⟩
  obtain ⟨m, hm⟩ : ∃ a, Hid (n % 16 = a) := ⟨_, rfl⟩
  rw [ha.out, hm.out]
  have ha19 : a < 19 := by rw [← ha.out]; omega
  have hm16 : m < 16 := by rw [← hm.out]; omega
  have hna : (n : Int) / 16 = (a : Int) := by rw [← ha.out]; omega
  have hnm : (n : Int) % 16 = (m : Int) := by rw [← hm.out]; omega
  obtain ⟨Z0, hZ0⟩ : ∃ Z, Z = (W.alloc (.cells #[.bool false, .int .u64 0, .int .u64 0, .int .u64 0, .int .u64 0, .int .u64 0, .int .u64 0, .int .u64 0, .int .u64 0, .int .u64 0, .int .u64 0, .int .u64 0, .int .u64 0, .int .u64 0, .int .u64 0, .int .u64 0, .int .u64 0, .int .u64 0, .int .u64 0, .int .u64 0, .int .u64 0] 167)).alloc (.cells #[.bool false, .int .u64 0, .int .u64 0, .int .u64 0, .int .u64 0, .int .u64 0, .int .u64 0, .int .u64 0, .int .u64 0, .int .u64 0, .int .u64 0, .int .u64 0, .int .u64 0, .int .u64 0, .int .u64 0, .int .u64 0, .int .u64 0, .int .u64 0, .int .u64 0, .int .u64 0, .int .u64 0] 167) := ⟨_, rfl⟩
  have hlZ : Later W Z0 := by rw [hZ0]; exact ((Later.refl W).alloc _).alloc _
  have kR : BigB Z0 W.heap.size false (dig 0) := by unfold BigB; rw [big_zero, hZ0]; exact push_one (heap_alloc_new _ _) _
  have kT : BigB Z0 (W.heap.size + 1) false (dig 0) := by unfold BigB; rw [big_zero, hZ0]; exact push_new _ _ (by simp)
  obtain ⟨R, hR⟩ : ∃ n, Hid (W.heap.size = n) := ⟨_, rfl⟩
  obtain ⟨T, hT⟩ : ∃ n, Hid (R + 1 = n) := ⟨_, rfl⟩
  have hWR : W.heap.size ≤ R := Nat.le_of_eq hR.out
  have hRT : R < T := by have := hT.out; omega
  clear ha hm
  go_enter Try.func128, Try.ntmps128
  go_upto_region 2 with fail
  rw [← hZ0]
  clear hZ0
  rw [hR.out] at kR kT ⊢
  rw [hT.out] at kT ⊢
  clear hR hT
  have cT := BigB.at1 kT (k := a) (by omega)
  have fT := BigB.frozen kT (1 + a)
  have hai : (a : Int) < 19 := by omega
  have kT1 := BigB.set1 kT (show a < 20 by omega) 1
  go_upto_region 3 with fail
  obtain ⟨Z1, hZ1⟩ : ∃ Z, Z = Z0.setCell ⟨T, 1 + a, none⟩ (.int .u64 1) := ⟨_, rfl⟩
  have kT2 : BigB Z1 T false (dig (2 ^ 0 * bP a)) := by
    rw [hZ1]
    exact BigB.ext kT1 (fun j _ => by rw [dig_one (by omega), dig_zero_i])
  have kR1 : BigB Z1 R false (dig 0) := by rw [hZ1]; exact kR.othc (by omega)
  have hlZ1 : Later W Z1 := by rw [hZ1]; exact hlZ.setCell (by show W.heap.size ≤ T; omega) _
  rw [← hZ1]
  clear hZ1 cT fT kT1 kT kR hlZ
  go_wp2_with fail
  go_loopw [4] (fun y wr => ∃ i : Nat, i ≤ m ∧ y = .int .i64 i ∧ BigB wr T false (dig (2 ^ i * bP a)) ∧ Keeps4 Z1 wr T) (fun y _ => (300 - intOf y).toNat)
  case atStart => exact ⟨0, by omega, rfl, kT2, Keeps4.refl _ _⟩
  case round =>
    obtain ⟨i, hi, rfl, kTr, hkp⟩ := hrel
    obtain ⟨wo, rfl⟩ : ∃ wo : World, wo = wr := ⟨_, rfl⟩
    by_cases him : i < m
    · obtain ⟨v, hv⟩ : ∃ v : Nat, Hid ((2 : Nat) ^ i = v) := ⟨_, Lib.hid rfl⟩
      have hv6 : v ≤ 16384 := by rw [← hv.out]; exact Nat.le_trans (Nat.pow_le_pow_right (by omega) (show i ≤ 14 by omega)) (by omega)
      have cT := BigB.at1 kTr (k := a) (by omega)
      rw [hv.out, dig_one (by omega), if_pos rfl] at cT
      have fT := BigB.frozen kTr (1 + a)
      have hvi : (v : Int) ≤ 16384 := by omega
      have hii : (i : Int) < m := by omega
      go_wp2_with fail
      go_roundw
      case rel =>
        have h1 : (v : Int) * 2 = (((2 : Nat) ^ (i + 1) : Nat) : Int) := by rw [Nat.pow_succ, hv.out]; omega
        rw [h1]
        refine ⟨i + 1, by omega, by go_num, ?_, hkp.trans (Keeps4.set _ _ _ _)⟩
        have h2 : (2 : Nat) ^ (i + 1) < 65536 := by rw [Nat.pow_succ, hv.out]; omega
        exact BigB.ext (BigB.set1 kTr (show a < 20 by omega) _) (fun j _ => by
          rw [dig_one h2, hv.out, dig_one (by omega)]
          by_cases e : j = a
          · rw [if_pos e, if_pos e]
          · rw [if_neg e, if_neg e, if_neg e])
      case measure => simp [intOf]; omega
    · obtain rfl : i = m := by omega
      have kRr := hkp.keep (by omega) kR1
      go_wp2_with (first | refine wpList_load_row rfl _ _ rfl T rfl _ _ (0, 0) _ kTr Try.underlying167 rfl (size_big _ _) ?_ | refine wpList_store_row rfl 167 _ _ rfl R (bigV false (dig (2 ^ i * bP a))) rfl rfl 167 (bigV false (dig 0)) kRr (size_big _ _) (by rw [bigV_size, bigV_size]) (bigV_one _ _) ?_)
      exact bodyPost_ret (v := .agg (bigV false (dig (2 ^ i * bP a)))) (results_cell1 (a := 2) (t := 167) (by kernel_rfl) _ rfl (load_big (setRow_big kRr))) rfl ⟨rfl, (hkp.to_later hlZ1 (by omega)).setRow (by omega) _⟩
/-- A number in a box that is read whole: what a region that draws wants. -/
structure RowIn (w : World) (M : Nat) (l : List Value) : Prop where
  row : w.heap[M]? = some (.cells l.toArray 167 (0, 0))
  len : l.length = 21
theorem RowIn.range {w : World} {M : Nat} {l : List Value} (h : RowIn w M l) : w.rangeAt M 0 l := row_rang h.row
theorem RowIn.later {w w' : World} {M : Nat} {l : List Value} (h : RowIn w M l) (hl : Later w w') : RowIn w' M l := ⟨hl.row h.row, h.len⟩
theorem BigB.rowIn {w : World} {M : Nat} {s : Bool} {f : Nat → Nat} (h : BigB w M s f) : RowIn w M (bigV s f).toList := ⟨by unfold BigB at h; rw [h], by rw [Array.length_toList, bigV_size]⟩
theorem load_list {n21 : Nat} (hn : 21 = n21) {M : Nat} {l : List Value} (hl : l.length = 21) (w : World) (h : w.rangeAt M 0 l) : (loadCellsFrom ⟨M, 0, none⟩ 0 n21 #[]).run Try.prog w = .ok l.toArray w := by
  rw [← hn, ← hl]
  exact run_loadCells_list (P := Try.prog) w ⟨M, 0, none⟩ l (fun j v hv => by rw [Addr.add_mid]; exact h j v hv)
set_option maxRecDepth 100000 in
set_option maxHeartbeats 2000000 in
theorem bless_any (x y : Int) (W : World) (h : x.natAbs + y.natAbs < bP 20) :
    Calls Try.prog 129 #[.agg (bigI x), .agg (bigI y)] W fun e w' => e = .returned (.bool (decide (x < y))) ∧ Later W w' := by
  have hN := Lib.hid (fun V => bneg_any y V (by omega))
  have hAd := Lib.hid (fun V => badd_any x (-y) V (by omega))
  rw [show decide (x < y) = decide (x + -y < 0) from decide_eq_decide.2 (by omega)]
  obtain ⟨r, hr⟩ : ∃ r, Hid (decide (x + -y < 0) = r) := ⟨_, rfl⟩
  rw [hr.out]
  have hsg : Hid ((bigI (x + -y))[0]? = some (.bool r)) := Lib.hid (by rw [← hr.out]; exact bigV_sign _ _)
  have hzz : Hid ((bigI (x + -y)).size = 21 ∧ (bigI (x + -y)).all (·.oneCell') = true) := Lib.hid ⟨bigV_size _ _, bigV_one _ _⟩
  obtain ⟨lx, hlx⟩ : ∃ l, Hid ((bigI x).toList = l) := ⟨_, rfl⟩
  obtain ⟨ly, hly⟩ : ∃ l, Hid ((bigI y).toList = l) := ⟨_, rfl⟩
  have lenx : lx.length = 21 := by rw [← hlx.out, Array.length_toList]; exact bigV_size _ _
  have leny : ly.length = 21 := by rw [← hly.out, Array.length_toList]; exact bigV_size _ _
  rw [show bigI x = lx.toArray by rw [← hlx.out]] at hAd ⊢
  rw [show bigI y = ly.toArray by rw [← hly.out]] at hN ⊢
  obtain ⟨bn, hbn⟩ : ∃ b, Hid (bigI (-y) = b) := ⟨_, rfl⟩
  obtain ⟨bs, hbs⟩ : ∃ b, Hid (bigI (x + -y) = b) := ⟨_, rfl⟩
  rw [hbn.out] at hN hAd
  rw [hbs.out] at hAd hsg hzz
  clear hlx hly hbn hbs hr
  obtain ⟨Z0, hZ0⟩ : ∃ Z, Z = (W.alloc (.cells lx.toArray 167)).alloc (.cells ly.toArray 167) := ⟨_, rfl⟩
  have hlZ : Later W Z0 := by rw [hZ0]; exact ((Later.refl W).alloc _).alloc _
  have kA : RowIn Z0 W.heap.size lx := ⟨by rw [hZ0]; exact push_one (heap_alloc_new _ _) _, lenx⟩
  have kB : RowIn Z0 (W.heap.size + 1) ly := ⟨by rw [hZ0]; exact push_new _ _ (World.size_alloc _ _), leny⟩
  have hZs : Z0.heap.size = W.heap.size + 2 := by rw [hZ0]; simp
  obtain ⟨n21, hn21⟩ : ∃ n, Hid ((21 : Nat) = n) := ⟨_, rfl⟩
  have hsz : ∀ w, (sizeOf 167).run Try.prog w = .ok n21 w := fun w => by rw [← hn21.out]; kernel_rfl
  have hbsz : bs.size = n21 := by rw [hzz.out.1]; exact hn21.out
  obtain ⟨P, hP⟩ : ∃ n, Hid (W.heap.size = n) := ⟨_, rfl⟩
  obtain ⟨Q, hQ⟩ : ∃ n, Hid (P + 1 = n) := ⟨_, rfl⟩
  have hPZ : P < Z0.heap.size := by have := hP.out; omega
  have hQZ : Q < Z0.heap.size := by have := hP.out; have := hQ.out; omega
  rw [hP.out] at kA kB
  rw [hQ.out] at kB
  have hlcA := fun w => load_list hn21.out lenx w (M := P)
  have hlcB := fun w => load_list hn21.out leny w (M := Q)
  have hS : Hid (∀ U, Later Z0 U → (U.rangeAt P 0 lx ∧ U.rangeAt Q 0 ly)) := Lib.hid (fun U h => ⟨(kA.later h).range, (kB.later h).range⟩)
  have hdZ : Later Z0 Z0.drew := (Later.refl Z0).drew
  have hz21 : Hid ((#[.bool false, .int .u64 0, .int .u64 0, .int .u64 0, .int .u64 0, .int .u64 0, .int .u64 0, .int .u64 0, .int .u64 0, .int .u64 0, .int .u64 0, .int .u64 0, .int .u64 0, .int .u64 0, .int .u64 0, .int .u64 0, .int .u64 0, .int .u64 0, .int .u64 0, .int .u64 0, .int .u64 0] : Array Value).size = bs.size) := Lib.hid (by rw [hzz.out.1]; rfl)
  have hst : Hid (∀ U : World, (storeCells ⟨U.heap.size, 0, none⟩ bs.toList).run Try.prog (U.alloc (.cells #[.bool false, .int .u64 0, .int .u64 0, .int .u64 0, .int .u64 0, .int .u64 0, .int .u64 0, .int .u64 0, .int .u64 0, .int .u64 0, .int .u64 0, .int .u64 0, .int .u64 0, .int .u64 0, .int .u64 0, .int .u64 0, .int .u64 0, .int .u64 0, .int .u64 0, .int .u64 0, .int .u64 0] 167)) = .ok () ((U.alloc (.cells #[.bool false, .int .u64 0, .int .u64 0, .int .u64 0, .int .u64 0, .int .u64 0, .int .u64 0, .int .u64 0, .int .u64 0, .int .u64 0, .int .u64 0, .int .u64 0, .int .u64 0, .int .u64 0, .int .u64 0, .int .u64 0, .int .u64 0, .int .u64 0, .int .u64 0, .int .u64 0, .int .u64 0] 167)).setRow U.heap.size bs)) := Lib.hid (fun U => store_roww (heap_alloc_new _ _) (by rw [hzz.out.1]; rfl) hzz.out.2)
  have hSn : Hid (∀ U, Later Z0 U → Later Z0 ((U.alloc (.cells #[.bool false, .int .u64 0, .int .u64 0, .int .u64 0, .int .u64 0, .int .u64 0, .int .u64 0, .int .u64 0, .int .u64 0, .int .u64 0, .int .u64 0, .int .u64 0, .int .u64 0, .int .u64 0, .int .u64 0, .int .u64 0, .int .u64 0, .int .u64 0, .int .u64 0, .int .u64 0, .int .u64 0] 167)).setRow U.heap.size bs)) := Lib.hid (fun U h => (h.alloc _).setRow h.size _)
  clear hZs kA kB
  go_enter Try.func129, Try.ntmps129
  go_upto_region 1 with fail
  rw [← hZ0, hP.out, hQ.out]
  clear hZ0 hP hQ
  have hz0 := hS.out _ hdZ
  have hz1 := hz0.1
  have hz2 := hz0.2
  have hz3 := hS.out _ (hdZ.alloc (.cells #[.bool false, .int .u64 0, .int .u64 0, .int .u64 0, .int .u64 0, .int .u64 0, .int .u64 0, .int .u64 0, .int .u64 0, .int .u64 0, .int .u64 0, .int .u64 0, .int .u64 0, .int .u64 0, .int .u64 0, .int .u64 0, .int .u64 0, .int .u64 0, .int .u64 0, .int .u64 0, .int .u64 0] 167))
  have hz4 := hz3.1
  have hz5 := hz3.2
  clear hz0 hz3
  have hA0 := hlcA _ hz1
  have hB0 := hlcB _ hz2
  have hA1 := hlcA _ hz4
  have hB1 := hlcB _ hz5
  have hlcA' := Lib.hid hlcA
  clear hlcA hlcB hz1 hz2 hz4 hz5
  have hfin : Hid (∀ (U : World) (b : Nat), Later Z0 U → Z0.heap.size ≤ b → b < U.heap.size → True) := Lib.hid (fun _ _ _ _ _ => trivial)
  have hfn : Hid (∀ (U : World) (b : Nat) (cs : Array Value), Later Z0 U → Z0.heap.size ≤ b → U.heap[b]? = some (.cells cs 167 (0, 0)) → (U.setRow b bs).heap[b]? = some (.cells bs 167 (0, 0)) ∧ Later Z0 (U.setRow b bs)) := Lib.hid (fun U b cs h1 h2 h3 => ⟨setRow_heap _ _ _ _ _ _ h3, h1.setRow h2 _⟩)
  have hdA : Hid (Later Z0 ((Z0.alloc (.cells #[.bool false, .int .u64 0, .int .u64 0, .int .u64 0, .int .u64 0, .int .u64 0, .int .u64 0, .int .u64 0, .int .u64 0, .int .u64 0, .int .u64 0, .int .u64 0, .int .u64 0, .int .u64 0, .int .u64 0, .int .u64 0, .int .u64 0, .int .u64 0, .int .u64 0, .int .u64 0, .int .u64 0] 167)).drew)) := Lib.hid ((Later.refl Z0).alloc _).drew
  have hdK : Hid (((Z0.alloc (.cells #[.bool false, .int .u64 0, .int .u64 0, .int .u64 0, .int .u64 0, .int .u64 0, .int .u64 0, .int .u64 0, .int .u64 0, .int .u64 0, .int .u64 0, .int .u64 0, .int .u64 0, .int .u64 0, .int .u64 0, .int .u64 0, .int .u64 0, .int .u64 0, .int .u64 0, .int .u64 0, .int .u64 0] 167)).drew).heap[Z0.heap.size]? = some (.cells #[.bool false, .int .u64 0, .int .u64 0, .int .u64 0, .int .u64 0, .int .u64 0, .int .u64 0, .int .u64 0, .int .u64 0, .int .u64 0, .int .u64 0, .int .u64 0, .int .u64 0, .int .u64 0, .int .u64 0, .int .u64 0, .int .u64 0, .int .u64 0, .int .u64 0, .int .u64 0, .int .u64 0] 167 (0, 0))) := Lib.hid (heap_alloc_new _ _)
  have hA9 := load_list hn21.out lenx _ (M := P) (hS.out _ hdA.out).1
  have hB9 := load_list hn21.out leny _ (M := Q) (hS.out _ hdA.out).2
  go_cut [5] from 6 to 9 (fun u wx => ∃ b, u = .pointer (some ⟨b, 0, none⟩) ∧ wx.heap[b]? = some (.cells bs 167 (0, 0)) ∧ Later Z0 wx)
  case first =>
    go_region_with (first | (go_at_call 127; with_reducible refine (hN.out _).mono ?_; go_loud (rintro e V1 ⟨rfl, hLa⟩; (first | (have hL1 : Later Z0 V1 := hdZ.trans hLa) | (have hL1 : Later Z0 V1 := (hdZ.alloc _).trans hLa; have kZ1 := hLa.row (heap_alloc_new _ _)) | (have hL1 : Later Z0 V1 := hdA.out.trans hLa; have kZ1 := hLa.row hdK.out)); have hA2 := (load_list hn21.out lenx V1 (M := P) (hS.out _ hL1).1); have hA3 := (load_list hn21.out lenx _ (M := P) (hS.out _ (hL1.alloc (.cells #[.bool false, .int .u64 0, .int .u64 0, .int .u64 0, .int .u64 0, .int .u64 0, .int .u64 0, .int .u64 0, .int .u64 0, .int .u64 0, .int .u64 0, .int .u64 0, .int .u64 0, .int .u64 0, .int .u64 0, .int .u64 0, .int .u64 0, .int .u64 0, .int .u64 0, .int .u64 0, .int .u64 0] 167))).1))) | (go_at_call 116; with_reducible refine (hAd.out _).mono ?_; go_loud (rintro e V2 ⟨rfl, hLb⟩; first | (have hL2 : Later Z0 V2 := hL1.trans hLb; have hst2 := hst.out V2; (try have kZ2 := hLb.row kZ1); (try have hst3 := store_roww kZ2 hz21.out hzz.out.2)) | (have hL2 : Later Z0 V2 := (hL1.alloc _).trans hLb; have kZ2 := hLb.row (heap_alloc_new _ _); have hst3 := store_roww kZ2 hz21.out hzz.out.2))))
    all_goals
      rename_i JJ KK hj hk
      refine hk _ _ (Met.intro (hj _ _ ?_))
      (repeat apply Exists.intro)
      first
        | exact ⟨⟨_, rfl, setRow_heap _ _ _ _ _ _ (heap_alloc_new _ _), hSn.out V2 hL2⟩, rfl⟩
        | exact ⟨⟨_, rfl, setRow_heap _ _ _ _ _ _ kZ2, hL2.setRow hL1.size _⟩, rfl⟩
        | exact ⟨⟨_, rfl, setRow_heap _ _ _ _ _ _ kZ2, hL2.setRow (Nat.le_refl _) _⟩, rfl⟩
  case rest =>
  obtain ⟨b, rfl, hb, hlb⟩ := hcut
  have cb : wc.cell? ⟨b, 0, none⟩ = some (.bool r) := (cell_of_row wc b 0 _ _ _ hb).trans hsg.out
  clear hA0 hB0 hA1 hB1 hA9 hB9 hsz hN hAd hst hS
  go_wp2_with fail
  go_ret
  exact ⟨rfl, hlZ.trans hlb⟩
end Go.Proofs.Ytackbajbladhhaa
namespace Go.Proofs.Ytackbajbladhhaa
open Go.RowKit Go.Shelf
set_option linter.unusedVariables false
set_option linter.unusedSimpArgs false
attribute [local go_sem] Oper.semAt_some
attribute [-simp] Try.sizeOf167 Try.typeInfo167

theorem bP_8 : bP 8 = 2 ^ 128 := by unfold bP; rw [show (65536 : Nat) = 2 ^ 16 from rfl, ← Nat.pow_mul]
theorem bP_4 : bP 4 = 2 ^ 64 := by unfold bP; rw [show (65536 : Nat) = 2 ^ 16 from rfl, ← Nat.pow_mul]
theorem up_step (v k : Nat) : v / bP k = v / bP (k + 1) * 65536 + dig v k := by
  unfold dig
  rw [bP_succ, ← Nat.div_div_eq_div_mul, Nat.mul_comm]
  exact (Nat.div_add_mod _ _).symm
theorem dig_mod {v n k : Nat} (h : k < n) : dig (v % bP n) k = dig v k := by
  conv => rhs; rw [← Nat.div_add_mod v (bP n), Nat.mul_comm, Nat.add_comm]
  rw [dig_add_mul _ _ h]
theorem dig_div (v n k : Nat) : dig (v / bP n) k = dig v (n + k) := by
  unfold dig; rw [Nat.div_div_eq_div_mul, bP_add]
set_option maxRecDepth 100000 in
set_option maxHeartbeats 4000000 in
theorem to_any (x : Int) (W : World) (h : -170141183460469231731687303715884105728 ≤ x ∧ x < 170141183460469231731687303715884105728) :
    Calls Try.prog 118 #[.agg (bigI x)] W fun e w' => e = .returned (.tuple #[wdV x, .bool true]) ∧ Later W w' := by
  have hb9 : bP 9 = 2 ^ 144 := bP_9
  have hbig : 2 ^ 144 * 4 ≤ bP 20 := by rw [← bP_9, show bP 20 = bP 9 * bP 11 from bP_add 9 11]; exact Nat.mul_le_mul_left _ (show 4 ≤ bP 11 by rw [show bP 11 = 65536 * bP 10 from by rw [bP_succ, Nat.mul_comm]]; have := bP_pos 10; omega)
  have hbig2 : 89202980794122492566142873090593446023921664 ≤ bP 20 := by
    have : (2 : Nat) ^ 144 * 4 = 89202980794122492566142873090593446023921664 := by decide
    omega
  have hT7 := Lib.hid (fun V => two_any 127 V (by omega))
  have hT8 := Lib.hid (fun V => two_any 128 V (by omega))
  rw [show ((2 ^ 127 : Nat) : Int) = 170141183460469231731687303715884105728 by decide] at hT7
  rw [show ((128 : Nat) : Int) = 128 from rfl] at hT8
  rw [show ((2 ^ 128 : Nat) : Int) = 340282366920938463463374607431768211456 by decide] at hT8
  have hL1 := Lib.hid (fun V => bless_any x 170141183460469231731687303715884105728 V (by omega))
  have hNg := Lib.hid (fun V => bneg_any 170141183460469231731687303715884105728 V (by omega))
  have hL2 := Lib.hid (fun V => bless_any x (-170141183460469231731687303715884105728) V (by omega))
  rw [decide_eq_true (show x < 170141183460469231731687303715884105728 by omega)] at hL1
  rw [decide_eq_false (show ¬ x < -170141183460469231731687303715884105728 by omega)] at hL2
  have hAd := Lib.hid (fun V => badd_any x 340282366920938463463374607431768211456 V (by omega))
  obtain ⟨wd, hwd⟩ : ∃ w, Hid (wdV x = w) := ⟨_, rfl⟩
  rw [hwd.out]
  obtain ⟨v, hv⟩ : ∃ v : Nat, Hid ((if x < 0 then x + 340282366920938463463374607431768211456 else x) = (v : Int)) := by
    by_cases h0 : x < 0
    · exact ⟨(x + 340282366920938463463374607431768211456).toNat, Lib.hid (by rw [if_pos h0]; omega)⟩
    · exact ⟨x.toNat, Lib.hid (by rw [if_neg h0]; omega)⟩
  obtain ⟨s, hs⟩ : ∃ s, Hid (decide (x < 0) = s) := ⟨_, rfl⟩
  have hsg : Hid ((bigI x)[0]? = some (.bool s)) := Lib.hid (by rw [← hs.out]; exact bigV_sign _ _)
  obtain ⟨lx, hlx⟩ : ∃ l, Hid ((bigI x).toList = l) := ⟨_, rfl⟩
  have lenx : lx.length = 21 := by rw [← hlx.out, Array.length_toList]; exact bigV_size _ _
  have ax : bigI x = lx.toArray := by rw [← hlx.out]
  obtain ⟨lm, hlm⟩ : ∃ l, Hid ((bigI 170141183460469231731687303715884105728).toList = l) := ⟨_, rfl⟩
  have lenm : lm.length = 21 := by rw [← hlm.out, Array.length_toList]; exact bigV_size _ _
  have am : bigI 170141183460469231731687303715884105728 = lm.toArray := by rw [← hlm.out]
  have aone : lm.toArray.all (·.oneCell') = true := by rw [← am]; exact bigV_one _ _
  obtain ⟨bn, hbn⟩ : ∃ b, Hid (bigI (-170141183460469231731687303715884105728) = b) := ⟨_, rfl⟩
  obtain ⟨bt, hbt⟩ : ∃ b, Hid (bigI 340282366920938463463374607431768211456 = b) := ⟨_, rfl⟩
  rw [ax] at hL1 hL2 hAd hsg ⊢
  rw [am] at hL1 hNg hT7
  rw [hbn.out] at hNg hL2
  rw [hbt.out] at hT8 hAd
  obtain ⟨Z0, hZ0⟩ : ∃ Z, Z = (W.alloc (.cells lx.toArray 167)).alloc (.cells #[.int .i64 0, .int .u64 0] 107) := ⟨_, rfl⟩
  have hlZ : Later W Z0 := by rw [hZ0]; exact ((Later.refl W).alloc _).alloc _
  have kX : RowIn Z0 W.heap.size lx := ⟨by rw [hZ0]; exact push_one (heap_alloc_new _ _) _, lenx⟩
  have kR : Z0.heap[W.heap.size + 1]? = some (.cells #[.int .i64 0, .int .u64 0] 107 (0, 0)) := by rw [hZ0]; exact push_new _ _ (World.size_alloc _ _)
  obtain ⟨n21, hn21⟩ : ∃ n, Hid ((21 : Nat) = n) := ⟨_, rfl⟩
  have hsz : ∀ w, (sizeOf 167).run Try.prog w = .ok n21 w := fun w => by rw [← hn21.out]; kernel_rfl
  obtain ⟨P, hP⟩ : ∃ n, Hid (W.heap.size = n) := ⟨_, rfl⟩
  obtain ⟨R, hR⟩ : ∃ n, Hid (P + 1 = n) := ⟨_, rfl⟩
  have hWP : W.heap.size ≤ P := Nat.le_of_eq hP.out
  have hPR : P < R := by have := hR.out; omega
  go_enter Try.func118, Try.ntmps118
  go_upto_region 1 with fail
  rw [← hZ0]
  clear hZ0 hb9 hbig hbig2 hlx hlm hbn hbt
  rw [hP.out] at kX kR ⊢
  rw [hR.out] at kR ⊢
  have hkR := Lib.hid kR
  clear hP hR
  first | go_step3 | skip
  go_wp2_with fail
  refine (hT7.out _).mono ?_
  rintro e w1 ⟨rfl, h1⟩
  have hszm : lm.length = n21 := by rw [lenm]; exact hn21.out
  have hsm : (storeCells ⟨w1.heap.size, 0, none⟩ lm).run Try.prog (w1.alloc (.cells #[.bool false, .int .u64 0, .int .u64 0, .int .u64 0, .int .u64 0, .int .u64 0, .int .u64 0, .int .u64 0, .int .u64 0, .int .u64 0, .int .u64 0, .int .u64 0, .int .u64 0, .int .u64 0, .int .u64 0, .int .u64 0, .int .u64 0, .int .u64 0, .int .u64 0, .int .u64 0, .int .u64 0] 167)) = .ok () (w1.alloc (.cells lm.toArray 167)) := by
    have := store_roww (arr := lm.toArray) (heap_alloc_new w1 (.cells #[.bool false, .int .u64 0, .int .u64 0, .int .u64 0, .int .u64 0, .int .u64 0, .int .u64 0, .int .u64 0, .int .u64 0, .int .u64 0, .int .u64 0, .int .u64 0, .int .u64 0, .int .u64 0, .int .u64 0, .int .u64 0, .int .u64 0, .int .u64 0, .int .u64 0, .int .u64 0, .int .u64 0] 167)) (by rw [List.size_toArray, List.size_toArray, lenm]; rfl) aone
    rw [World.setRow_alloc_new] at this
    simpa using this
  go_upto_region 2 with fail
  obtain ⟨Y, hY⟩ : ∃ Y, Y = w1.alloc (.cells lm.toArray 167) := ⟨_, rfl⟩
  have hlY : Later Z0 Y := by rw [hY]; exact h1.alloc _
  have kM : RowIn Y w1.heap.size lm := ⟨by rw [hY]; exact heap_alloc_new _ _, lenm⟩
  rw [← hY]
  clear hY hsm
  replace kX := kX.later hlY
  replace kR := hlY.row kR
  have hRY : R < w1.heap.size := Nat.lt_of_lt_of_le (Array.getElem?_eq_some_iff.1 (show Z0.heap[R]? = some _ from hkR.out)).1 h1.size
  obtain ⟨M, hM⟩ : ∃ M, Hid (w1.heap.size = M) := ⟨_, rfl⟩
  rw [hM.out] at kM hRY ⊢
  have hlWY := hlZ.trans hlY
  clear hM h1 hlY hT7 hszm
  have hlcP := fun w => load_list hn21.out lenx w (M := P)
  have hlcM := fun w => load_list hn21.out lenm w (M := M)
  have hS : Hid (∀ U, Later Y U → (U.rangeAt P 0 lx ∧ U.rangeAt M 0 lm)) := Lib.hid (fun U h => ⟨(kX.later h).range, (kM.later h).range⟩)
  have hdZ : Later Y Y.drew := (Later.refl Y).drew
  replace kX := Lib.hid kX
  replace kR := Lib.hid kR
  clear kM
  first | go_step3 | skip
  go_region_held3 (fun U => U.rangeAt P 0 lx ∧ U.rangeAt M 0 lm) ((first | (with_reducible exact hS.out _ hdZ) | (with_reducible exact hS.out _ hK3) | (with_reducible exact hS.out _ hK2) | (with_reducible exact hS.out _ hK1))) (first | (go_at_call 129; with_reducible refine (hL1.out _).mono ?_; rintro e V1 ⟨rfl, hLa⟩; have hK1 := hdZ.trans hLa) | (go_at_call 127; with_reducible refine (hNg.out _).mono ?_; rintro e V2 ⟨rfl, hLb⟩; have hK2 := hK1.trans hLb) | (go_at_call 129; with_reducible refine (hL2.out _).mono ?_; rintro e V3 ⟨rfl, hLc⟩; have hK3 := hK2.trans hLc))
  have hXV := kX.out.later hK3
  have kRV := hK3.row kR.out
  have hlV := hlWY.trans hK3
  have cS : V3.cell? ⟨P, 0, none⟩ = some (.bool s) := (cell_of_row V3 P 0 _ _ _ hXV.row).trans hsg.out
  clear hS hlcP hlcM kX kR hL1 hL2 hNg hK1 hK2 hK3 hLa hLb hLc hlWY
  obtain ⟨U, rfl⟩ : ∃ U : World, U = V3 := ⟨_, rfl⟩
  cases s
  · have hx0 : ¬ x < 0 := of_decide_eq_false hs.out
    have kPU : BigB U P false (dig v) := by
      have h1 := hv.out
      rw [if_neg hx0] at h1
      unfold BigB
      rw [← bigI_nat, ← h1, ax]
      exact hXV.row
    have kRU := kRV
    have hlU := hlV
    clear hXV hT8 hAd
    have hvb : v < 340282366920938463463374607431768211456 := by
      have h1 := hv.out
      by_cases h0 : x < 0
      · rw [if_pos h0] at h1; omega
      · rw [if_neg h0] at h1; omega
    have h8 : bP 8 = 340282366920938463463374607431768211456 := by rw [bP_8]
    have h4 : bP 4 = 18446744073709551616 := by rw [bP_4]
    have hlo : v % bP 4 < 18446744073709551616 := by rw [h4]; exact Nat.mod_lt _ (by omega)
    have hhi : v / bP 4 < 18446744073709551616 := by rw [h4]; omega
    have hwd2 : Hid (wd = .agg #[.int .i64 (hiW x), .int .u64 ((v % bP 4 : Nat) : Int)]) := Lib.hid (by
      rw [← hwd.out]
      have h1 := hv.out
      have h2 : loW x = ((v % bP 4 : Nat) : Int) := by
        rw [loW_eq, h4]
        by_cases h0 : x < 0
        · rw [if_pos h0] at h1; omega
        · rw [if_neg h0] at h1; omega
      show Value.agg #[.int .i64 (hiW x), .int .u64 (loW x)] = _
      rw [h2])
    obtain ⟨hx, hhx⟩ : ∃ n, Hid (hiW x = n) := ⟨_, rfl⟩
    have hcv : ∀ w, (convert 105 2 (.int .u64 ((v / bP 4 : Nat) : Int))).run Try.prog w = .ok (.int .i64 hx) w := fun w => by
      have h1 := hv.out
      have h3 : wrap64 ((v / bP 4 : Nat) : Int) = hx := by
        rw [← hhx.out, hiW_eq]
        simp only [wrap64]
        rw [h4]
        by_cases h0 : x < 0
        · rw [if_pos h0] at h1; omega
        · rw [if_neg h0] at h1; omega
      rw [← h3]; go_simp; first | done | rfl | (rw [IntKind.wrap_i64]; simp only [wrap64])
    rw [hhx.out] at hwd2
    obtain ⟨LO, hLO⟩ : ∃ n, Hid (v % bP 4 = n) := ⟨_, rfl⟩
    obtain ⟨HI, hHI⟩ : ∃ n, Hid (v / bP 4 = n) := ⟨_, rfl⟩
    rw [hLO.out] at hlo hwd2
    rw [hHI.out] at hhi hcv
    have hLO4 : Hid (LO / bP 4 = 0) := Lib.hid (Nat.div_eq_of_lt (by rw [h4]; exact hlo))
    have hHI4 : Hid (HI / bP 4 = 0) := Lib.hid (Nat.div_eq_of_lt (by rw [h4]; exact hhi))
    have hd1 : Hid (∀ k, k < 4 → dig LO k = dig v k) := Lib.hid (fun k hk => by rw [← hLO.out]; exact dig_mod hk)
    have hd2 : Hid (∀ k, dig HI k = dig v (k + 4)) := Lib.hid (fun k => by rw [← hHI.out, dig_div, Nat.add_comm])
    replace hcv := Lib.hid hcv
    clear hvb h8 h4 hv hwd hhx
    go_wp2_with fail
    go_loopw [7, 5, 6] (fun y lo hi wr => ∃ k : Nat, k ≤ 4 ∧ y = .int .i64 ((k : Int) - 1) ∧ lo = .int .u64 ((LO / bP k : Nat) : Int) ∧ hi = .int .u64 ((HI / bP k : Nat) : Int) ∧ wr = U) (fun y _ _ _ => (intOf y + 1).toNat)
    case atStart => exact ⟨4, by omega, rfl, by rw [hLO4.out]; rfl, by rw [hHI4.out]; rfl, rfl⟩
    case round =>
      obtain ⟨k, hk, rfl, rfl, rfl, rfl⟩ := hrel
      cases k with
      | zero =>
        rw [show (((0 : Nat) : Int) - 1) = -1 from rfl]
        rw [bP_zero, Nat.div_one, Nat.div_one]
        have r0 := (cells_2 kRU).1
        have r1 := (cells_2 kRU).2
        have rf := fun k => frozen_r kRU k
        have hcv2 := hcv.out
        go_wp2_with fail
        refine bodyPost_ret (v := .tuple #[wd, .bool true]) ?_ rfl ⟨rfl, ?_⟩
        · rw [hwd2.out]
          simp only [results]; go_simp
        · exact (hlU.setCell (by show W.heap.size ≤ R; omega) _).setCell (by show W.heap.size ≤ R; omega) _
      | succ k =>
        rw [show (((k + 1 : Nat) : Int) - 1) = (k : Int) from by omega]
        have hk4 : k < 4 := by omega
        obtain ⟨a, ha⟩ : ∃ n, Hid (dig v k = n) := ⟨_, rfl⟩
        obtain ⟨b, hb⟩ : ∃ n, Hid (dig v (k + 4) = n) := ⟨_, rfl⟩
        have c1 := BigB.at1 kPU (k := k) (by omega)
        have c2 := BigB.at1 kPU (k := k + 4) (by omega)
        rw [ha.out] at c1
        rw [hb.out] at c2
        have e1 := up_step LO k
        have e2 := up_step HI k
        rw [hd1.out k hk4, ha.out] at e1
        rw [hd2.out k, hb.out] at e2
        have b1 : LO / bP k ≤ LO := Nat.div_le_self _ _
        have b2 : HI / bP k ≤ HI := Nat.div_le_self _ _
        obtain ⟨l', hl'⟩ : ∃ n, Hid (LO / bP k = n) := ⟨_, rfl⟩
        obtain ⟨g', hg'⟩ : ∃ n, Hid (HI / bP k = n) := ⟨_, rfl⟩
        obtain ⟨l, hl⟩ : ∃ n, Hid (LO / bP (k + 1) = n) := ⟨_, rfl⟩
        obtain ⟨g, hg⟩ : ∃ n, Hid (HI / bP (k + 1) = n) := ⟨_, rfl⟩
        rw [hl'.out, hl.out] at e1
        rw [hl'.out] at b1
        rw [hg'.out, hg.out] at e2
        rw [hg'.out] at b2
        rw [hl.out, hg.out]
        have q1 : (l : Int) * 65536 + (a : Int) = (l' : Int) := by omega
        have q2 : (g : Int) * 65536 + (b : Int) = (g' : Int) := by omega
        have q3 : (l' : Int) < 18446744073709551616 := by omega
        have q4 : (g' : Int) < 18446744073709551616 := by omega
        have q5 : (l : Int) * 65536 < 18446744073709551616 := by omega
        have q6 : (g : Int) * 65536 < 18446744073709551616 := by omega
        have hki : (k : Int) < 4 := by omega
        clear e1 e2 b1 b2
        go_wp2_with fail
        go_roundw
        case rel => exact ⟨k, by omega, by go_num, by first | (rw [hl'.out]; done) | rw [hl'.out, q1], by first | (rw [hg'.out]; done) | rw [hg'.out, q2], by first | trivial | rfl⟩
        case measure => simp [intOf]
  · have hx0 : x < 0 := of_decide_eq_true hs.out
    have hba : bigI (x + 340282366920938463463374607431768211456) = bigV false (dig v) := by
      have h1 := hv.out
      rw [if_pos hx0] at h1
      rw [h1, bigI_nat]
    obtain ⟨ba, hbae⟩ : ∃ b, Hid (bigI (x + 340282366920938463463374607431768211456) = b) := ⟨_, rfl⟩
    rw [hbae.out] at hAd
    have hbsz : ba.size = n21 := by rw [← hbae.out, hba, bigV_size]; exact hn21.out
    have hbo : ba.all (·.oneCell') = true := by rw [← hbae.out, hba]; exact bigV_one _ _
    have hlcx : Hid (∀ V, Later U V → (loadCellsFrom ⟨P, 0, none⟩ 0 n21 #[]).run Try.prog V = .ok lx.toArray V) := Lib.hid (fun V h => load_list hn21.out lenx V (hXV.later h).range)
    have hsto : Hid (∀ V, Later U V → (storeCells ⟨P, 0, none⟩ ba.toList).run Try.prog V = .ok () (V.setRow P ba)) := Lib.hid (fun V h => store_roww (hXV.later h).row (by rw [List.size_toArray, lenx, hbsz]; exact hn21.out) hbo)
    have hfin : Hid (∀ V, Later U V → (V.setRow P ba).heap[P]? = some (.cells (bigV false (dig v)) 167 (0, 0)) ∧ (V.setRow P ba).heap[R]? = some (.cells #[.int .i64 0, .int .u64 0] 107 (0, 0)) ∧ Later W (V.setRow P ba)) := Lib.hid (fun V h =>
      ⟨by rw [← hba, hbae.out]; exact setRow_heap _ _ _ _ _ _ (hXV.later h).row, (setRow_other _ _ _ _ (show R ≠ P by omega)).trans (h.row kRV), (hlV.trans h).setRow hWP _⟩)
    have hdU : Later U U.drew := (Later.refl U).drew
    replace hbo := Lib.hid hbo
    clear hba
    go_upto_region 5 with fail
    have hlc0 := hlcx.out _ hdU
    go_cut [3] from 22 to 24 (fun u wx => u = .bool false ∧ wx.heap[P]? = some (.cells (bigV false (dig v)) 167 (0, 0)) ∧ wx.heap[R]? = some (.cells #[.int .i64 0, .int .u64 0] 107 (0, 0)) ∧ Later W wx)
    case first =>
      go_region_with (first | (go_at_call 128; with_reducible refine (hT8.out _).mono ?_; rintro e V1 ⟨rfl, hLa⟩; have hK1 := hdU.trans hLa; have hlc1 := hlcx.out _ hK1) | (go_at_call 116; with_reducible refine (hAd.out _).mono ?_; rintro e V2 ⟨rfl, hLb⟩; have hK2 := hK1.trans hLb; have hst2 := hsto.out _ hK2))
      all_goals
        rename_i JJ KK hj hk
        refine hk _ _ (Met.intro (hj _ _ ?_))
        (repeat apply Exists.intro)
        exact ⟨⟨rfl, hfin.out _ hK2⟩, rfl⟩
    case rest =>
    obtain ⟨rfl, kP1, kR1, hl1⟩ := hcut
    obtain ⟨U2, rfl⟩ : ∃ U : World, U = wc := ⟨_, rfl⟩
    clear hfin hsto hlcx hlc0 hT8 hAd hXV kRV hlV hdU cS hsz
    have kPU : BigB U2 P false (dig v) := kP1
    have kRU := kR1
    have hlU := hl1
    clear kP1 kR1 hl1
    have hvb : v < 340282366920938463463374607431768211456 := by
      have h1 := hv.out
      by_cases h0 : x < 0
      · rw [if_pos h0] at h1; omega
      · rw [if_neg h0] at h1; omega
    have h8 : bP 8 = 340282366920938463463374607431768211456 := by rw [bP_8]
    have h4 : bP 4 = 18446744073709551616 := by rw [bP_4]
    have hlo : v % bP 4 < 18446744073709551616 := by rw [h4]; exact Nat.mod_lt _ (by omega)
    have hhi : v / bP 4 < 18446744073709551616 := by rw [h4]; omega
    have hwd2 : Hid (wd = .agg #[.int .i64 (hiW x), .int .u64 ((v % bP 4 : Nat) : Int)]) := Lib.hid (by
      rw [← hwd.out]
      have h1 := hv.out
      have h2 : loW x = ((v % bP 4 : Nat) : Int) := by
        rw [loW_eq, h4]
        by_cases h0 : x < 0
        · rw [if_pos h0] at h1; omega
        · rw [if_neg h0] at h1; omega
      show Value.agg #[.int .i64 (hiW x), .int .u64 (loW x)] = _
      rw [h2])
    obtain ⟨hx, hhx⟩ : ∃ n, Hid (hiW x = n) := ⟨_, rfl⟩
    have hcv : ∀ w, (convert 105 2 (.int .u64 ((v / bP 4 : Nat) : Int))).run Try.prog w = .ok (.int .i64 hx) w := fun w => by
      have h1 := hv.out
      have h3 : wrap64 ((v / bP 4 : Nat) : Int) = hx := by
        rw [← hhx.out, hiW_eq]
        simp only [wrap64]
        rw [h4]
        by_cases h0 : x < 0
        · rw [if_pos h0] at h1; omega
        · rw [if_neg h0] at h1; omega
      rw [← h3]; go_simp; first | done | rfl | (rw [IntKind.wrap_i64]; simp only [wrap64])
    rw [hhx.out] at hwd2
    obtain ⟨LO, hLO⟩ : ∃ n, Hid (v % bP 4 = n) := ⟨_, rfl⟩
    obtain ⟨HI, hHI⟩ : ∃ n, Hid (v / bP 4 = n) := ⟨_, rfl⟩
    rw [hLO.out] at hlo hwd2
    rw [hHI.out] at hhi hcv
    have hLO4 : Hid (LO / bP 4 = 0) := Lib.hid (Nat.div_eq_of_lt (by rw [h4]; exact hlo))
    have hHI4 : Hid (HI / bP 4 = 0) := Lib.hid (Nat.div_eq_of_lt (by rw [h4]; exact hhi))
    have hd1 : Hid (∀ k, k < 4 → dig LO k = dig v k) := Lib.hid (fun k hk => by rw [← hLO.out]; exact dig_mod hk)
    have hd2 : Hid (∀ k, dig HI k = dig v (k + 4)) := Lib.hid (fun k => by rw [← hHI.out, dig_div, Nat.add_comm])
    replace hcv := Lib.hid hcv
    clear hvb h8 h4 hv hwd hhx
    go_wp2_with fail
    go_loopw [7, 5, 6] (fun y lo hi wr => ∃ k : Nat, k ≤ 4 ∧ y = .int .i64 ((k : Int) - 1) ∧ lo = .int .u64 ((LO / bP k : Nat) : Int) ∧ hi = .int .u64 ((HI / bP k : Nat) : Int) ∧ wr = U2) (fun y _ _ _ => (intOf y + 1).toNat)
    case atStart => exact ⟨4, by omega, rfl, by rw [hLO4.out]; rfl, by rw [hHI4.out]; rfl, rfl⟩
    case round =>
      obtain ⟨k, hk, rfl, rfl, rfl, rfl⟩ := hrel
      cases k with
      | zero =>
        rw [show (((0 : Nat) : Int) - 1) = -1 from rfl]
        rw [bP_zero, Nat.div_one, Nat.div_one]
        have r0 := (cells_2 kRU).1
        have r1 := (cells_2 kRU).2
        have rf := fun k => frozen_r kRU k
        have hcv2 := hcv.out
        go_wp2_with fail
        refine bodyPost_ret (v := .tuple #[wd, .bool true]) ?_ rfl ⟨rfl, ?_⟩
        · rw [hwd2.out]
          simp only [results]; go_simp
        · exact (hlU.setCell (by show W.heap.size ≤ R; omega) _).setCell (by show W.heap.size ≤ R; omega) _
      | succ k =>
        rw [show (((k + 1 : Nat) : Int) - 1) = (k : Int) from by omega]
        have hk4 : k < 4 := by omega
        obtain ⟨a, ha⟩ : ∃ n, Hid (dig v k = n) := ⟨_, rfl⟩
        obtain ⟨b, hb⟩ : ∃ n, Hid (dig v (k + 4) = n) := ⟨_, rfl⟩
        have c1 := BigB.at1 kPU (k := k) (by omega)
        have c2 := BigB.at1 kPU (k := k + 4) (by omega)
        rw [ha.out] at c1
        rw [hb.out] at c2
        have e1 := up_step LO k
        have e2 := up_step HI k
        rw [hd1.out k hk4, ha.out] at e1
        rw [hd2.out k, hb.out] at e2
        have b1 : LO / bP k ≤ LO := Nat.div_le_self _ _
        have b2 : HI / bP k ≤ HI := Nat.div_le_self _ _
        obtain ⟨l', hl'⟩ : ∃ n, Hid (LO / bP k = n) := ⟨_, rfl⟩
        obtain ⟨g', hg'⟩ : ∃ n, Hid (HI / bP k = n) := ⟨_, rfl⟩
        obtain ⟨l, hl⟩ : ∃ n, Hid (LO / bP (k + 1) = n) := ⟨_, rfl⟩
        obtain ⟨g, hg⟩ : ∃ n, Hid (HI / bP (k + 1) = n) := ⟨_, rfl⟩
        rw [hl'.out, hl.out] at e1
        rw [hl'.out] at b1
        rw [hg'.out, hg.out] at e2
        rw [hg'.out] at b2
        rw [hl.out, hg.out]
        have q1 : (l : Int) * 65536 + (a : Int) = (l' : Int) := by omega
        have q2 : (g : Int) * 65536 + (b : Int) = (g' : Int) := by omega
        have q3 : (l' : Int) < 18446744073709551616 := by omega
        have q4 : (g' : Int) < 18446744073709551616 := by omega
        have q5 : (l : Int) * 65536 < 18446744073709551616 := by omega
        have q6 : (g : Int) * 65536 < 18446744073709551616 := by omega
        have hki : (k : Int) < 4 := by omega
        clear e1 e2 b1 b2
        go_wp2_with fail
        go_roundw
        case rel => exact ⟨k, by omega, by go_num, by first | (rw [hl'.out]; done) | rw [hl'.out, q1], by first | (rw [hg'.out]; done) | rw [hg'.out, q2], by first | trivial | rfl⟩
        case measure => simp [intOf]
end Go.Proofs.Ytackbajbladhhaa
namespace Go.Proofs.Ytackbajbladhhaa
open Go.RowKit Go.Shelf
set_option linter.unusedVariables false
set_option linter.unusedSimpArgs false
attribute [local go_sem] Oper.semAt_some

theorem within_next {b : Int} {n : Nat} {f : Nat → Int} (h : Within b n f) (hn : -b ≤ f n ∧ f n ≤ b) : Within b (n + 1) f := fun k hk => by
  by_cases e : k = n
  · rw [e]; exact hn
  · exact h k (by omega)
set_option maxRecDepth 100000 in
set_option maxHeartbeats 2000000 in
theorem within3_any (f : Nat → Int) (b : Int) (W : World) (hb : 0 ≤ b ∧ b ≤ 4611686018427387904) :
    Calls Try.prog 94 #[matV f, .int .i64 b] W fun e w' => e = .returned (.bool (decide (Within b 16 f))) ∧ Later W w' := by
  obtain ⟨X, hX⟩ : ∃ X, X = W.alloc (.cells (rowV 16 f) 25) := ⟨_, rfl⟩
  have hlX : Later W X := by rw [hX]; exact (Later.refl W).alloc _
  have kM : matB X W.heap.size f := by rw [hX]; exact heap_alloc_new _ _
  obtain ⟨P, hP⟩ : ∃ n, Hid (W.heap.size = n) := ⟨_, rfl⟩
  obtain ⟨rr, hrr⟩ : ∃ r, Hid (decide (Within b 16 f) = r) := ⟨_, rfl⟩
  rw [hrr.out]
  go_enter Try.func94, Try.ntmps94
  go_upto_region 1 with fail
  rw [← hX]
  clear hX
  rw [hP.out] at kM ⊢
  clear hP
  have hbn : ¬ b < 0 := by omega
  go_wp2_with fail
  go_loopw [5] (fun y wr => ∃ r : Nat, r ≤ 4 ∧ y = .int .i64 r ∧ Hid (Within b (r * 4) f) ∧ wr = X) (fun y _ => (300 - intOf y).toNat)
  case atStart => exact ⟨0, by omega, rfl, Lib.hid (fun k hk => by omega), rfl⟩
  case round =>
    obtain ⟨r, hr, rfl, hw, rfl⟩ := hrel
    by_cases hr4 : r < 4
    · have hri : (r : Int) < 4 := by omega
      go_wp2_with fail
      go_loopw [6] (fun y wx => ∃ c : Nat, c ≤ 4 ∧ y = .int .i64 c ∧ Hid (Within b (r * 4 + c) f) ∧ wx = wr) (fun y _ => (300 - intOf y).toNat)
      case atStart => exact ⟨0, by omega, rfl, hw, rfl⟩
      case round =>
        obtain ⟨c, hc, rfl, hwc, rfl⟩ := hrel
        by_cases hc4 : c < 4
        · have hci : (c : Int) < 4 := by omega
          have cx := kM.cell (k := r * 4 + c) (by omega)
          obtain ⟨x, hx⟩ : ∃ x, Hid (f (r * 4 + c) = x) := ⟨_, rfl⟩
          rw [hx.out] at cx
          by_cases h1 : b < x
          · have hno : Hid (rr = false) := Lib.hid (by
              rw [← hrr.out]
              refine decide_eq_false (fun hW => ?_)
              have := (hW (r * 4 + c) (by omega)).2
              rw [hx.out] at this
              omega)
            go_wp2_with fail
            go_ret
            exact ⟨by rw [hno.out]; rfl, hlX⟩
          · by_cases h2 : x < -b
            · have hno : Hid (rr = false) := Lib.hid (by
                rw [← hrr.out]
                refine decide_eq_false (fun hW => ?_)
                have := (hW (r * 4 + c) (by omega)).1
                rw [hx.out] at this
                omega)
              go_wp2_with fail
              go_ret
              exact ⟨by rw [hno.out]; rfl, hlX⟩
            · have hwn : Hid (Within b (r * 4 + (c + 1)) f) := Lib.hid (within_next (n := r * 4 + c) hwc.out (by show -b ≤ f (r * 4 + c) ∧ f (r * 4 + c) ≤ b; rw [hx.out]; omega))
              have h2' : -b ≤ x := by omega
              have h1' : x ≤ b := by omega
              go_wp2_with fail
              go_roundw
              case rel => exact ⟨c + 1, by omega, by go_num, hwn, by first | trivial | rfl⟩
              case measure => simp [intOf]; omega
        · obtain rfl : c = 4 := by omega
          have hw2 : Hid (Within b ((r + 1) * 4) f) := Lib.hid (by rw [show (r + 1) * 4 = r * 4 + 4 by omega]; exact hwc.out)
          go_wp2_with fail
          go_roundw
          case rel => exact ⟨r + 1, by omega, by go_num, hw2, by first | trivial | rfl⟩
          case measure => simp [intOf]; omega
    · obtain rfl : r = 4 := by omega
      have hyes : Hid (rr = true) := Lib.hid (by rw [← hrr.out]; exact decide_eq_true hw.out)
      go_wp2_with fail
      go_ret
      exact ⟨by rw [hyes.out]; rfl, hlX⟩
end Go.Proofs.Ytackbajbladhhaa
