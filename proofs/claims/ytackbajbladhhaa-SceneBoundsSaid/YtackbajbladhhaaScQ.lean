/-
  Chapter 6's law SceneBounds: its walk.
-/
import Derived.Test.YtackbajbladhhaaScO
import Derived.Test.YtackbajbladhhaaScP
namespace Go.Proofs.Ytackbajbladhhaa
open Go.RowKit Go.Shelf
set_option linter.unusedVariables false
set_option linter.unusedSimpArgs false
attribute [local go_sem] Oper.semAt_some
attribute [-simp] Try.sizeOf28 Try.typeInfo28

theorem Scn.V_lit (s : Scn) {v : Value} (h : s.uo = v) : s.V = .agg #[.int .i64 s.W, .int .i64 s.H, .int .i64 (s.cam 0), .int .i64 (s.cam 1), .int .i64 (s.cam 2), .int .i64 (s.cam 3), .int .i64 (s.cam 4), .int .i64 (s.cam 5), .int .i64 (s.cam 6), .int .i64 (s.cam 7), .int .i64 (s.cam 8), .int .i64 (s.cam 9), .int .i64 (s.cam 10), .int .i64 (s.cam 11), .int .i64 (s.cam 12), .int .i64 (s.cam 13), .int .i64 (s.cam 14), .int .i64 (s.cam 15), v] := by rw [← h]; rfl
set_option maxRecDepth 100000 in
set_option maxHeartbeats 4000000 in
theorem bounds_any (hal : ∀ W : World, Calls Try.prog 9 #[] W fun e w' => e = .returned (.bool true) ∧ Later W w') (s : Scn) (W : World) (hs : s.Ok W) :
    Calls Try.prog 3 #[s.V] W fun e w' => e = .returned (.bool true) ∧ Later W w' := by
  replace hal := Lib.hid hal
  obtain ⟨X, hX⟩ : ∃ X, X = W.alloc (.cells s.row.toArray 28) := ⟨_, rfl⟩
  have hlX : Later W X := by rw [hX]; exact (Later.refl W).alloc _
  have kS : ScnB X W.heap.size s := by rw [hX]; exact heap_alloc_new _ _
  have hss : (Try.prog.info? 28).map (·.size) = some s.row.toArray.size := by rw [List.size_toArray]; exact size_scn s
  have hC := Lib.hid (fun V (h : Later W V) => check_scene s V (hs.later h))
  obtain ⟨ao, cap, hu⟩ := hs.1.form
  rw [List.length_map] at hu
  obtain ⟨n, hn⟩ : ∃ n, Hid (s.os.length = n) := ⟨_, rfl⟩
  go_enter Try.func3, Try.ntmps3
  go_upto_region 1 with fail
  rw [← hX]
  clear hX
  obtain ⟨N, hN⟩ : ∃ N, Hid (W.heap.size = N) := ⟨_, rfl⟩
  rw [hN.out] at kS ⊢
  go_wp2_with fail
  refine (hal.out _).mono ?_
  rintro e w1 ⟨rfl, hl1⟩
  have kS1 := hl1.row kS
  go_wp2_with (refine wpList_load_row rfl _ _ rfl N rfl _ _ (0, 0) _ kS1 Try.underlying28 rfl hss ?_)
  refine (hC.out _ (hlX.trans hl1)).mono ?_
  rintro e w2 ⟨rfl, hl2⟩
  have hlW := (hlX.trans hl1).trans hl2
  by_cases hr : (wrongQ s).1 = 0
  case neg =>
    rw [if_neg hr]
    clear hr
    go_wp2_with fail
    go_ret
    exact ⟨rfl, hlW⟩
  case pos =>
    rw [if_pos hr]
    have hr := Lib.hid hr
    obtain ⟨h16, -⟩ := right_all hr.out
    have kS2 : ScnB w2 N s := hl2.row kS1
    have so := kS2.uo
    rw [hu] at so
    rw [hn.out] at so h16 hu
    have hu := Lib.hid hu
    clear kS kS1 hl1 hl2 hlX hC hal
    go_wp2_with fail
    go_loopw [26] (fun y wr => ∃ k : Nat, k ≤ n ∧ y = .int .i64 k ∧ Later w2 wr) (fun y _ => (300 - intOf y).toNat)
    case atStart => exact ⟨0, by omega, rfl, Later.refl _⟩
    case round =>
      obtain ⟨k, hk, rfl, hl0⟩ := hrel
      obtain ⟨X0, rfl⟩ : ∃ wo : World, wo = wr := ⟨_, rfl⟩
      by_cases hkN : k < n
      case neg =>
        obtain rfl : k = n := by omega
        go_wp2_with fail
        go_ret
        exact ⟨rfl, hlW.trans hl0⟩
      case pos =>
      obtain ⟨x, hx⟩ : ∃ x, Hid (s.os[k]? = some x) := ⟨_, Lib.hid (List.getElem?_eq_getElem (by rw [hn.out]; exact hkN))⟩
      have hOk0 := Lib.hid (hs.later (hlW.trans hl0))
      have hv := hOk0.out.1
      rw [hu.out] at hv
      obtain ⟨g, o, rfl, hrg⟩ := hv.at (k := k) (x := x.row) (by rw [List.getElem?_map, hx.out]; rfl)
      have kS0 : ScnB X0 N s := hl0.row kS2
      have so0 := hl0.cell so
      have ci : X0.cell? ⟨g, o + k * 19, none⟩ = some (.int .i64 x.id) := hrg 0 _ rfl
      have cv : X0.cell? ⟨g, o + k * 19 + 17, none⟩ = some x.uv := hrg 17 _ rfl
      have hki : (k : Int) < n := by omega
      have hF := Lib.hid (fun V (h : Later X0 V) => find_any s x.id V (hOk0.out.later h) (by rw [hn.out]; omega))
      rw [right_find hr.out hx.out, show max 0 (k : Int) = k by omega, show decide (0 ≤ (k : Int)) = true from decide_eq_true (by omega)] at hF
      have hB := Lib.hid (fun V (h : Later X0 V) => both_yes s k x V (hOk0.out.later h) hx.out (right_both hr.out hx.out).1)
      obtain ⟨cs, hcs⟩ : ∃ cs, Hid (s.row = cs) := ⟨_, rfl⟩
      obtain ⟨n19, hn19⟩ : ∃ n, Hid ((19 : Nat) = n) := ⟨_, rfl⟩
      have hsz19 : ∀ w, (sizeOf 28).run Try.prog w = .ok n19 w := fun w => by rw [← hn19.out]; kernel_rfl
      have hlc : ∀ w : World, w.rangeAt N 0 cs → (loadCellsFrom ⟨N, 0, none⟩ 0 n19 #[]).run Try.prog w = .ok cs.toArray w := fun w h => by
        have hlen : cs.length = 19 := by rw [← hcs.out]; exact s.row_length
        rw [← hn19.out, ← hlen]
        exact run_loadCells_list (P := Try.prog) w ⟨N, 0, none⟩ cs (fun j v hv => by rw [Addr.add_mid]; exact h j v hv)
      have kr := row_range kS0
      rw [hcs.out] at kr
      have a18 : X0.cell? ⟨N, 18, none⟩ = some (.slice (some ⟨g, o, none⟩) n cap) := so0
      have hS : Hid (∀ Z, Later X0 Z → (Later X0 Z ∧ Z.rangeAt N 0 cs ∧ Z.cell? ⟨N, 18, none⟩ = some (.slice (some ⟨g, o, none⟩) n cap) ∧ Z.cell? ⟨g, o + k * 19, none⟩ = some (.int .i64 x.id))) := Lib.hid (fun Z h => ⟨h, rangeAt_later kr h, h.cell a18, h.cell ci⟩)
      clear hv hrg kr a18
      replace hF : Hid (∀ V, Later X0 V → Calls Try.prog 11 #[.agg cs.toArray, .int .i64 x.id] V fun e w' => e = .returned (.tuple #[.int .i64 k, .bool true]) ∧ Later V w') := Lib.hid (fun V h => by rw [← hcs.out]; exact hF.out V h)
      have hdX : Later X0 X0.drew := (Later.refl X0).drew
      go_wp2_with fail
      go_region_held3 (fun Z => Later X0 Z ∧ Z.rangeAt N 0 cs ∧ Z.cell? ⟨N, 18, none⟩ = some (.slice (some ⟨g, o, none⟩) n cap) ∧ Z.cell? ⟨g, o + k * 19, none⟩ = some (.int .i64 x.id)) ((first | (with_reducible exact hS.out _ hdX) | (with_reducible exact hS.out _ hL1))) (first | (go_at_call 11; refine (hF.out _ hdX).mono ?_; rintro e V1 ⟨rfl, hL⟩; have hL1 : Later X0 V1 := hdX.trans hL))
      clear hdX hS hF
      have kS1 := hL1.row kS0
      have hB1 := Lib.hid (hB.out V1 hL1)
      have hd1 : ((k : Int) == k) = true := by simp
      obtain ⟨q, hq⟩ : ∃ q, Hid (mulQ s.cam x.m = q) := ⟨_, rfl⟩
      have hqw := (right_both hr.out hx.out).2
      rw [hq.out] at hB1 hqw
      replace hqw := Lib.hid hqw
      go_wp2_with (refine wpList_load_row rfl _ _ rfl N rfl _ _ (0, 0) _ kS1 Try.underlying28 rfl hss ?_)
      refine hB1.out.mono ?_
      rintro e V2 ⟨rfl, hl2⟩
      have hnew := heap_alloc_new V2 (.cells #[.int .i64 0, .int .i64 0, .int .i64 0, .int .i64 0, .int .i64 0, .int .i64 0, .int .i64 0, .int .i64 0, .int .i64 0, .int .i64 0, .int .i64 0, .int .i64 0, .int .i64 0, .int .i64 0, .int .i64 0, .int .i64 0] 25)
      have hz2 : (#[.int .i64 0, .int .i64 0, .int .i64 0, .int .i64 0, .int .i64 0, .int .i64 0, .int .i64 0, .int .i64 0, .int .i64 0, .int .i64 0, .int .i64 0, .int .i64 0, .int .i64 0, .int .i64 0, .int .i64 0, .int .i64 0] : Array Value).size = (rowV 16 q).size := by rw [rowV_size]; rfl
      have hl02 : Later X0 V2 := hL1.trans hl2
      have so2 := hl02.cell so0
      have cv2 := hl02.cell cv
      obtain ⟨V3, hV3⟩ : ∃ V, V = V2.alloc (.cells (rowV 16 q) 25) := ⟨_, rfl⟩
      have hl3 : Later V2 V3 := by rw [hV3]; exact (Later.refl V2).alloc _
      have kQ : matB V3 V2.heap.size q := by rw [hV3]; exact heap_alloc_new _ _
      obtain ⟨au, cu, hxu⟩ := ((hOk0.out).2 x (List.mem_of_getElem? hx.out)).1.form
      rw [List.length_map] at hxu
      obtain ⟨m, hm⟩ : ∃ m, Hid (x.vs.length = m) := ⟨_, rfl⟩
      obtain ⟨h64, hfar⟩ := right_verts hr.out hx.out
      replace hfar := Lib.hid hfar
      rw [hm.out] at h64 hxu
      have so3 := hl3.cell so2
      have cv3 := hl3.cell cv2
      rw [hxu] at cv3
      replace hxu := Lib.hid hxu
      go_upto_region 9 with (refine wpList_store_row rfl 25 _ _ rfl V2.heap.size (rowV 16 q) rfl rfl 25 #[.int .i64 0, .int .i64 0, .int .i64 0, .int .i64 0, .int .i64 0, .int .i64 0, .int .i64 0, .int .i64 0, .int .i64 0, .int .i64 0, .int .i64 0, .int .i64 0, .int .i64 0, .int .i64 0, .int .i64 0, .int .i64 0] hnew (size_mat _) hz2 (rowV_one 16 _) ?_)
      rw [World.setRow_alloc_new, ← hV3]
      clear hnew hz2 hV3
      obtain ⟨M, hM⟩ : ∃ M, Hid (V2.heap.size = M) := ⟨_, rfl⟩
      rw [hM.out] at kQ ⊢
      have hl30 : Later X0 V3 := hl02.trans hl3
      clear hB1 hB hl2 hl3 hl02 so2 cv2 ci cv kS1 hL1 hL
      as_aux_lemma =>
        go_wp2_with fail
        go_loopw [64] (fun y wr => ∃ j : Nat, j ≤ m ∧ y = .int .i64 j ∧ Later V3 wr) (fun y _ => (300 - intOf y).toNat)
        case atStart => exact ⟨0, by omega, rfl, Later.refl _⟩
        case round =>
          obtain ⟨j, hj, rfl, hl4⟩ := hrel
          obtain ⟨Y, rfl⟩ : ∃ wo : World, wo = wr := ⟨_, rfl⟩
          by_cases hjm : j < m
          case neg =>
            obtain rfl : j = m := by omega
            go_wp2_with fail
            go_roundw
            case rel => exact ⟨k + 1, by omega, by go_num, hl0.trans (hl30.trans hl4)⟩
            case measure => simp [intOf]; omega
          case pos =>
          obtain ⟨v, hv⟩ : ∃ v, Hid (x.vs[j]? = some v) := ⟨_, Lib.hid (List.getElem?_eq_getElem (by rw [hm.out]; exact hjm))⟩
          have hxr := (((hOk0.out).2 x (List.mem_of_getElem? hx.out)).1.later hl30).later hl4
          rw [hxu.out] at hxr
          obtain ⟨gv, ov, rfl, hvg⟩ := hxr.at (k := j) (x := vrow v) (by rw [List.getElem?_map, hv.out]; rfl)
          have e0 : Y.cell? ⟨gv, ov + j * 3, none⟩ = some (.int .i64 v.1) := hvg 0 _ rfl
          have e1 : Y.cell? ⟨gv, ov + j * 3 + 1, none⟩ = some (.int .i64 v.2.1) := hvg 1 _ rfl
          have e2 : Y.cell? ⟨gv, ov + j * 3 + 2, none⟩ = some (.int .i64 v.2.2) := hvg 2 _ rfl
          have hji : (j : Int) < m := by omega
          have hvf := hfar.out v (List.mem_of_getElem? hv.out)
          obtain ⟨d, hd⟩ : ∃ d : Nat → Int, Hid ((fun r => dotQ (rowOf q r) (vecOf v)) = d) := ⟨_, rfl⟩
          have hdb : Hid (∀ r, r < 4 → -8796093022208 < d r ∧ d r < 8796093022208) := Lib.hid (fun r hr => by rw [← hd.out]; exact apply_bound hqw.out hvf r hr)
          have hAp0 := fun W => apply_yes q (vecOf v) W (apply_may hqw.out hvf)
          rw [hd.out] at hAp0
          have hAp : Hid (∀ W : World, Calls Try.prog 13 #[matV q, .agg #[.int .i64 v.1, .int .i64 v.2.1, .int .i64 v.2.2, .int .i64 65536]] W fun e w' => e = .returned (.tuple #[vecV d, .int .i64 0]) ∧ Later W w') := Lib.hid hAp0
          have kQY := Row.later kQ hl4
          clear hAp0 hvg hxr hvf
          go_upto_region 14 with fail
          obtain ⟨Y1, hY1⟩ : ∃ V, V = Y.alloc (.cells #[.int .i64 v.1, .int .i64 v.2.1, .int .i64 v.2.2] 40) := ⟨_, rfl⟩
          have hl5 : Later Y Y1 := by rw [hY1]; exact (Later.refl Y).alloc _
          have z0 : Y1.cell? ⟨Y.heap.size, 0, none⟩ = some (.int .i64 v.1) := by rw [hY1]; go_simp
          have z1 : Y1.cell? ⟨Y.heap.size, 1, none⟩ = some (.int .i64 v.2.1) := by rw [hY1]; go_simp
          have z2 : Y1.cell? ⟨Y.heap.size, 2, none⟩ = some (.int .i64 v.2.2) := by rw [hY1]; go_simp
          have kQ1 := Row.later kQY hl5
          rw [← hY1]
          clear hY1 e0 e1 e2
          go_wp2_with (refine wpList_load_row rfl _ _ rfl M rfl _ _ (0, 0) _ kQ1 Try.underlying25 rfl (size_mat q) ?_)
          refine (hAp.out _).mono ?_
          rintro e Y2 ⟨rfl, hl6⟩
          clear z0 z1 z2 kQ1 kQY
          go_upto_region 15 with fail
          obtain ⟨Y3, hY3⟩ : ∃ V, V = Y2.alloc (.cells #[.int .i64 (d 0), .int .i64 (d 1), .int .i64 (d 2), .int .i64 (d 3)] 23) := ⟨_, rfl⟩
          have hl7 : Later Y2 Y3 := by rw [hY3]; exact (Later.refl Y2).alloc _
          have kD : vecB Y3 Y2.heap.size 23 d := by rw [hY3]; exact heap_alloc_new _ _
          rw [← hY3]
          clear hY3
          obtain ⟨T, hT⟩ : ∃ T, Hid (Y2.heap.size = T) := ⟨_, rfl⟩
          rw [hT.out] at kD ⊢
          have kDf := Lib.hid (four_of_box kD)
          clear kD
          go_wp2_with fail
          go_loop [13] (fun y => ∃ i : Nat, i ≤ 4 ∧ y = .int .i64 i) (fun y => (300 - intOf y).toNat)
          case atStart => exact ⟨0, by omega, rfl⟩
          case round =>
            obtain ⟨i, hi, rfl⟩ := hrel
            by_cases hi4 : i < 4
            · have c0 := kDf.out i hi4
              rw [Nat.zero_add] at c0
              obtain ⟨hd1, hd2⟩ := hdb.out i hi4
              have hii : (i : Int) < 4 := by omega
              obtain ⟨di, hdi⟩ : ∃ z, Hid (d i = z) := ⟨_, rfl⟩
              rw [hdi.out] at c0 hd1 hd2
              have hg1 : ¬ (8796093022208 : Int) ≤ di := by omega
              have hg2 : ¬ di ≤ (-8796093022208 : Int) := by omega
              go_wp2_with fail
              go_round
              case rel => exact ⟨i + 1, by omega, by go_num⟩
              case measure => simp [intOf]; omega
            · obtain rfl : i = 4 := by omega
              go_wp2_with fail
              go_roundw
              case rel => exact ⟨j + 1, by omega, by go_num, hl4.trans (hl5.trans (hl6.trans hl7))⟩
              case measure => simp [intOf]; omega
end Go.Proofs.Ytackbajbladhhaa
