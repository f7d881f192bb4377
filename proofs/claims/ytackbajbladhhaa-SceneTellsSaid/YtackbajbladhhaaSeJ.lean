/-
  Chapter 6's law SceneTells: its walk.
-/
import Derived.Test.YtackbajbladhhaaSeH1
import Derived.Test.YtackbajbladhhaaSeA1
import Derived.Test.YtackbajbladhhaaScKf
import Derived.BigQuiet
namespace Go.Proofs.Ytackbajbladhhaa
open Go.RowKit Go.Shelf
set_option linter.unusedVariables false
set_option linter.unusedSimpArgs false
attribute [local go_sem] Oper.semAt_some

set_option maxRecDepth 100000 in
theorem ints_eq (u v : Value) (L : List Int) (W : World) (hu : IntsV W u L) (hv : IntsV W v L) (hL : L.length ≤ 1000000) :
    Calls Try.prog 21 #[u, v] W fun e w' => e = .returned (.bool true) ∧ Later W w' := by
  obtain ⟨ao, cap, rfl, hcu⟩ := hu
  obtain ⟨bo, cbp, rfl, hcv⟩ := hv
  obtain ⟨n, hn⟩ : ∃ n, Hid (L.length = n) := ⟨_, rfl⟩
  rw [hn.out] at hL
  have h1 : Hid (∀ k, k < n → ∃ g, ao = some ⟨g, 0, none⟩ ∧ W.cell? ⟨g, k, none⟩ = some (.int .i64 (L.getD k 0))) := Lib.hid (by rw [← hn.out]; exact hcu)
  have h2 : Hid (∀ k, k < n → ∃ g, bo = some ⟨g, 0, none⟩ ∧ W.cell? ⟨g, k, none⟩ = some (.int .i64 (L.getD k 0))) := Lib.hid (by rw [← hn.out]; exact hcv)
  rw [hn.out]
  clear hcu hcv
  go_enter Try.func21, Try.ntmps21
  go_wp2_with fail
  go_loopg [5] (n + 1) (fun g y wr => Later W wr ∧ ∃ (i : Nat), g = n + 1 - i ∧ i ≤ n ∧ y = .int .i64 i)
  case atStart => exact ⟨Later.refl _, 0, by omega, Nat.zero_le _, rfl⟩
  case round =>
    obtain ⟨hl, i, rfl, hin, rfl⟩ := hrel
    obtain ⟨wo, rfl⟩ : ∃ wo : World, wo = wr := ⟨_, rfl⟩
    by_cases hi : i < n
    · have hii : (i : Int) < (n : Int) := by omega
      obtain ⟨g, rfl, hc⟩ := h1.out i hi
      obtain ⟨g2, rfl, hc2⟩ := h2.out i hi
      obtain ⟨x, hx⟩ : ∃ x, Hid (L.getD i 0 = x) := ⟨_, rfl⟩
      rw [hx.out] at hc hc2
      replace hc := hl.cell hc
      replace hc2 := hl.cell hc2
      go_wp2_with fail
      go_quiet (fail)
      obtain ⟨w2, hw2⟩ : ∃ X, X = wo.drewN nq := ⟨_, rfl⟩
      have hl2 : Later W w2 := by rw [hw2]; exact hl.drewN _
      rw [← hw2]
      clear hw2
      go_wp2_with fail
      go_roundg (n - i)
      case measure => omega
      case rel => exact ⟨hl2, i + 1, by omega, by omega, by go_num⟩
    · obtain rfl : n = i := by omega
      have hii : ¬ (n : Int) < (n : Int) := by omega
      go_wp2_with fail
      go_ret
      exact ⟨rfl, hl⟩
attribute [-go_sem] run_neq_struct run_eql_struct
attribute [-simp] Try.sizeOf167 Try.typeInfo167 Try.sizeOf28 Try.typeInfo28 Try.sizeOf25 Try.typeInfo25
/-- What the law's writing loops keep. -/
structure WI (w0 w : World) (C D : Nat) (ao : Option Addr) (n cap : Nat) : Prop where
  lat : Later w0 w
  cc : w.cell? ⟨C, 18, none⟩ = some (.slice ao n cap)
  wr : 0 < n → WrD w0.heap.size w D n
theorem WI.set {w0 w : World} {C D : Nat} {ao : Option Addr} {n cap : Nat} (h : WI w0 w C D ao n cap) {b o : Nat} {u : Int} (hb : ∃ v, w.cell? ⟨b, o, none⟩ = some (.int .i64 v)) (hm : w0.heap.size ≤ b) : WI w0 (w.setCell ⟨b, o, none⟩ (.int .i64 u)) C D ao n cap :=
  ⟨h.lat.setCell (p := ⟨b, o, none⟩) hm _, slice_keep hb h.cc, fun hn => (h.wr hn).set hb⟩
theorem WI.drew {w0 w : World} {C D : Nat} {ao : Option Addr} {n cap : Nat} (h : WI w0 w C D ao n cap) : WI w0 w.drew C D ao n cap := ⟨h.lat.drew, h.cc, fun hn => (h.wr hn).later (Later.refl w).drew⟩
set_option maxRecDepth 100000 in
set_option maxHeartbeats 8000000 in
theorem tells_any (s t : Scn) (k id : Int) (W : World) (hs : s.Ok W) (ht : t.Ok W) :
    Calls Try.prog 5 #[s.V, t.V, .int .i64 k, .int .i64 id] W fun e w' => e = .returned (.bool true) ∧ Later W w' := by
  obtain ⟨X, hX⟩ : ∃ X, X = (W.alloc (.cells s.row.toArray 28)).alloc (.cells t.row.toArray 28) := ⟨_, rfl⟩
  have hlX : Later W X := by rw [hX]; exact ((Later.refl W).alloc _).alloc _
  have kS0 : ScnB X W.heap.size s := by rw [hX]; exact push_one (heap_alloc_new _ _) _
  have kT0 : ScnB X (W.heap.size + 1) t := by rw [hX]; exact push_new _ _ (World.size_alloc _ _)
  have hG1 := Lib.hid (fun V (h : Later W V) => great_any s V (hs.later h))
  have hG2 := Lib.hid (fun V (h : Later W V) => great_any t V (ht.later h))
  have hB1 := Lib.hid (fun V (h : Later W V) => both_any s k V (hs.later h))
  have hB2 := Lib.hid (fun V (h : Later W V) => rboth_any s k V (hs.later h))
  have hF1 := Lib.hid (fun V (h : Later W V) (hsm : SmallS s) => find_any s id V (hs.later h) (by have := hsm.1; omega))
  have hF2 := Lib.hid (fun V (h : Later W V) (hsm : SmallS s) => rfind_any s id V (hs.later h) (by have := hsm.1; omega))
  have hI1 := Lib.hid (fun V (h : Later W V) (hsm : SmallS s) => ids_any s V (hs.later h) (by have := hsm.1; omega))
  have hI2 := Lib.hid (fun V (h : Later W V) (hsm : SmallS s) => rids_any s V (hs.later h) hsm.1)
  have hN1 := Lib.hid (fun V (h : Later W V) (hsm : SmallS s) => count_any s V (hs.later h) hsm)
  have hC1 := Lib.hid (fun V (h : Later W V) (hsm : SmallS s) => copy_any s V (hs.later h) hsm)
  have hR1 := Lib.hid (fun V (c : Scn) (hc : c.Ok V) (h : Later W V) (hsm : SmallS c) (hss : SmallS s) => rsame_any c s V hc (hs.later h) hsm (by have := hss.1; omega))
  have hS1 := Lib.hid (fun V (h : Later W V) (hsm : SmallS s) => same_any s t V (hs.later h) (ht.later h) hsm)
  have hS2 := Lib.hid (fun V (h : Later W V) (hsm : SmallS s) (hst : SmallS t) => rsame_any s t V (hs.later h) (ht.later h) hsm (by have := hst.1; omega))
  have hS3 := Lib.hid (fun V (h : Later W V) (hsm : SmallS s) => same_any s s V (hs.later h) (hs.later h) hsm)
  have hself : sameB s s = true := by
    have := same_of (s := s) (c := s.os) (u := s.uo) rfl (fun i x y h1 h2 => by obtain rfl := Option.some.inj (h1.symm.trans h2); exact ⟨rfl, rfl, rfl, rfl⟩)
    exact this
  rw [hself] at hS3
  obtain ⟨q, hq⟩ : ∃ q, Hid ((bothQ s k).1 = q) := ⟨_, rfl⟩
  obtain ⟨e1, he1⟩ : ∃ q, Hid ((bothQ s k).2 = q) := ⟨_, rfl⟩
  rw [hq.out, he1.out] at hB1 hB2
  obtain ⟨fq, hfq⟩ : ∃ q, Hid (max 0 (findQ s id) = q) := ⟨_, rfl⟩
  obtain ⟨fb, hfb⟩ : ∃ q, Hid (decide (0 ≤ findQ s id) = q) := ⟨_, rfl⟩
  rw [hfq.out, hfb.out] at hF1 hF2
  obtain ⟨I, hI⟩ : ∃ q, Hid (srt (idL s) = q) := ⟨_, rfl⟩
  have hIl : I.length = s.os.length := by rw [← hI.out]; unfold srt idL; rw [List.length_mergeSort, List.length_map]
  rw [hI.out] at hI1 hI2
  obtain ⟨sb, hsb⟩ : ∃ q, Hid (sameB s t = q) := ⟨_, rfl⟩
  rw [hsb.out] at hS1 hS2
  obtain ⟨av, hav⟩ : ∃ q, Hid (cntV s.os = q) := ⟨_, rfl⟩
  obtain ⟨at', hat⟩ : ∃ q, Hid (cntT s.os = q) := ⟨_, rfl⟩
  rw [hav.out, hat.out] at hN1
  obtain ⟨ao, cap, hu⟩ := hs.1.form
  rw [List.length_map] at hu
  obtain ⟨n, hn⟩ : ∃ n, Hid (s.os.length = n) := ⟨_, rfl⟩
  rw [hn.out] at hu hIl
  have so0 := kS0.uo
  rw [hu] at so0
  have hrow := hs.1
  rw [hu] at hrow
  have hokall := Lib.hid (fun x hx => hs.2 x hx)
  have hle := Lib.hid (fun (h : SmallS s) => few_le (s := s) h)
  obtain ⟨ls, hls⟩ : ∃ r, Hid (s.row = r) := ⟨_, rfl⟩
  obtain ⟨lt, hlt⟩ : ∃ r, Hid (t.row = r) := ⟨_, rfl⟩
  have lens : ls.length = 19 := by rw [← hls.out]; exact s.row_length
  have lent : lt.length = 19 := by rw [← hlt.out]; exact t.row_length
  have hsi : (Try.prog.info? 28).map (·.size) = some ls.toArray.size := by rw [List.size_toArray, lens]; kernel_rfl
  have hti : (Try.prog.info? 28).map (·.size) = some lt.toArray.size := by rw [List.size_toArray, lent]; kernel_rfl
  simp only [Scn.V] at hG1 hG2 hB1 hB2 hF1 hF2 hI1 hI2 hN1 hC1 hR1 hS1 hS2 hS3 ⊢
  replace kS0 : X.heap[W.heap.size]? = some (.cells s.row.toArray 28 (0, 0)) := kS0
  replace kT0 : X.heap[W.heap.size + 1]? = some (.cells t.row.toArray 28 (0, 0)) := kT0
  rw [hls.out] at hG1 hB1 hB2 hF1 hF2 hI1 hI2 hN1 hC1 hR1 hS1 hS2 hS3 kS0
  rw [hlt.out] at hG2 hS1 hS2 kT0
  clear hs ht hu
  go_enter Try.func5, Try.ntmps5
  go_upto_region 1 with fail
  rw [hls.out, hlt.out] at hX
  rw [hls.out, hlt.out]
  rw [← hX]
  clear hX
  obtain ⟨P, hP⟩ : ∃ P, Hid (W.heap.size = P) := ⟨_, rfl⟩
  rw [hP.out] at kS0 kT0 so0 ⊢
  go_wp2_with (refine wpList_load_row rfl _ _ rfl P rfl _ _ (0, 0) _ kS0 Try.underlying28 rfl hsi ?_)
  refine (hG1.out _ hlX).mono ?_
  rintro e w1 ⟨⟨g, rfl, hg⟩, hl1⟩
  rcases hg with rfl | ⟨rfl, hsm⟩
  · go_wp2_with fail
    go_ret
    exact ⟨rfl, hlX.trans hl1⟩
  replace hsm := Lib.hid hsm
  have kT1 := hl1.row kT0
  go_wp2_with (refine wpList_load_row_w rfl _ _ rfl (P + 1) rfl _ _ (0, 0) _ kT1 Try.underlying28 rfl hti ?_)
  refine (hG2.out _ (hlX.trans hl1)).mono ?_
  rintro e w2 ⟨⟨g, rfl, hg⟩, hl2⟩
  have hlA := (hlX.trans hl1).trans hl2
  rcases hg with rfl | ⟨rfl, hst⟩
  · go_wp2_with fail
    go_ret
    exact ⟨rfl, hlA⟩
  replace hst := Lib.hid hst
  have hn20 : n ≤ 20 := by rw [← hn.out]; exact hsm.out.1
  have kS2 := hl2.row (hl1.row kS0)
  have kT2 := hl2.row kT1
  have so2 := hl2.cell (hl1.cell so0)
  clear kS0 kT0 kT1 so0 hG1 hG2 hlX hl1 hl2
  go_wp2_with (refine wpList_load_row rfl _ _ rfl P rfl _ _ (0, 0) _ kS2 Try.underlying28 rfl hsi ?_)
  refine (hB1.out _ hlA).mono ?_
  rintro e w3 ⟨rfl, hl3⟩
  have hnew3 := heap_alloc_new w3 (.cells #[.int .i64 0, .int .i64 0, .int .i64 0, .int .i64 0, .int .i64 0, .int .i64 0, .int .i64 0, .int .i64 0, .int .i64 0, .int .i64 0, .int .i64 0, .int .i64 0, .int .i64 0, .int .i64 0, .int .i64 0, .int .i64 0] 25)
  have hzq : (#[.int .i64 0, .int .i64 0, .int .i64 0, .int .i64 0, .int .i64 0, .int .i64 0, .int .i64 0, .int .i64 0, .int .i64 0, .int .i64 0, .int .i64 0, .int .i64 0, .int .i64 0, .int .i64 0, .int .i64 0, .int .i64 0] : Array Value).size = (rowV 16 q).size := by rw [rowV_size]; rfl
  go_upto_region 4 with (refine wpList_store_row rfl 25 _ _ rfl w3.heap.size (rowV 16 q) rfl rfl 25 #[.int .i64 0, .int .i64 0, .int .i64 0, .int .i64 0, .int .i64 0, .int .i64 0, .int .i64 0, .int .i64 0, .int .i64 0, .int .i64 0, .int .i64 0, .int .i64 0, .int .i64 0, .int .i64 0, .int .i64 0, .int .i64 0] hnew3 (size_mat _) hzq (rowV_one 16 _) ?_)
  obtain ⟨w4, hw4⟩ : ∃ w, w = w3.alloc (.cells (rowV 16 q) 25) := ⟨_, rfl⟩
  have hl4 : Later w3 w4 := by rw [hw4]; exact (Later.refl w3).alloc _
  have kM1 : w4.heap[w3.heap.size]? = some (.cells (rowV 16 q) 25 (0, 0)) := by rw [hw4]; exact heap_alloc_new _ _
  rw [World.setRow_alloc_new, ← hw4]
  obtain ⟨M1, hM1⟩ : ∃ m, Hid (w3.heap.size = m) := ⟨_, rfl⟩
  rw [hM1.out] at kM1 ⊢
  clear hw4 hnew3
  have kS4 := hl4.row (hl3.row kS2)
  replace hlA := (hlA.trans hl3).trans hl4
  go_wp2_with (refine wpList_load_row rfl _ _ rfl P rfl _ _ (0, 0) _ kS4 Try.underlying28 rfl hsi ?_)
  refine (hB2.out _ hlA).mono ?_
  rintro e w5 ⟨rfl, hl5⟩
  have hnew5 := heap_alloc_new w5 (.cells #[.int .i64 0, .int .i64 0, .int .i64 0, .int .i64 0, .int .i64 0, .int .i64 0, .int .i64 0, .int .i64 0, .int .i64 0, .int .i64 0, .int .i64 0, .int .i64 0, .int .i64 0, .int .i64 0, .int .i64 0, .int .i64 0] 25)
  go_upto_region 5 with (refine wpList_store_row rfl 25 _ _ rfl w5.heap.size (rowV 16 q) rfl rfl 25 #[.int .i64 0, .int .i64 0, .int .i64 0, .int .i64 0, .int .i64 0, .int .i64 0, .int .i64 0, .int .i64 0, .int .i64 0, .int .i64 0, .int .i64 0, .int .i64 0, .int .i64 0, .int .i64 0, .int .i64 0, .int .i64 0] hnew5 (size_mat _) hzq (rowV_one 16 _) ?_)
  obtain ⟨w6, hw6⟩ : ∃ w, w = w5.alloc (.cells (rowV 16 q) 25) := ⟨_, rfl⟩
  have hl6 : Later w5 w6 := by rw [hw6]; exact (Later.refl w5).alloc _
  have kM2 : w6.heap[w5.heap.size]? = some (.cells (rowV 16 q) 25 (0, 0)) := by rw [hw6]; exact heap_alloc_new _ _
  rw [World.setRow_alloc_new, ← hw6]
  obtain ⟨M2, hM2⟩ : ∃ m, Hid (w5.heap.size = m) := ⟨_, rfl⟩
  rw [hM2.out] at kM2 ⊢
  clear hw6 hnew5
  have hl26 : Later w2 w6 := ((hl3.trans hl4).trans hl5).trans hl6
  have kS6 := hl26.row kS2
  have kT6 := hl26.row kT2
  have so6 := hl26.cell so2
  replace kM1 := (hl5.trans hl6).row kM1
  replace hlA := (hlA.trans hl5).trans hl6
  clear kS2 kT2 so2 hl26 hl3 hl4 hl5 hl6 hB1 hB2 kS4 hM1 hM2
  go_wp2_with (refine wpList_load_row rfl _ _ rfl P rfl _ _ (0, 0) _ kS6 Try.underlying28 rfl hsi ?_)
  refine (hF1.out _ hlA hsm.out).mono ?_
  rintro e w7 ⟨rfl, hl7⟩
  have kS7 := hl7.row kS6
  replace hlA := hlA.trans hl7
  go_wp2_with (refine wpList_load_row rfl _ _ rfl P rfl _ _ (0, 0) _ kS7 Try.underlying28 rfl hsi ?_)
  refine (hF2.out _ hlA hsm.out).mono ?_
  rintro e w8 ⟨rfl, hl8⟩
  have kS8 := hl8.row kS7
  replace hlA := hlA.trans hl8
  go_wp2_with (refine wpList_load_row rfl _ _ rfl P rfl _ _ (0, 0) _ kS8 Try.underlying28 rfl hsi ?_)
  refine (hI1.out _ hlA hsm.out).mono ?_
  rintro e w9 ⟨u9, rfl, hu9, hl9⟩
  have kS9 := hl9.row kS8
  replace hlA := hlA.trans hl9
  obtain ⟨⟨b9, c9, rfl, hc9⟩, -⟩ := hu9
  have hv9 : IntsV w9 (.slice b9 I.length c9) I := ⟨b9, c9, rfl, hc9⟩
  clear hc9
  rw [hIl] at hv9 ⊢
  go_wp2_with (refine wpList_load_row rfl _ _ rfl P rfl _ _ (0, 0) _ kS9 Try.underlying28 rfl hsi ?_)
  refine (hN1.out _ hlA hsm.out).mono ?_
  rintro e w10 ⟨rfl, hl10⟩
  replace hlA := hlA.trans hl10
  have hl610 := ((hl7.trans hl8).trans hl9).trans hl10
  have kS10 := hl10.row kS9
  have kT10 := hl610.row kT6
  have so10 := hl610.cell so6
  replace kM1 := hl610.row kM1
  replace kM2 := hl610.row kM2
  replace hv9 := hv9.later hl10
  have hrow10 := hrow.later hlA
  clear kS6 kS7 kS8 kS9 kT6 so6 hl7 hl8 hl9 hl10 hl610 hF1 hF2 hI1 hN1
  have hlek := hle.out hsm.out
  have hall := hlek n
  rw [show s.os.take n = s.os by rw [List.take_of_length_le (by rw [hn.out]; exact Nat.le_refl _)], hav.out, hat.out] at hall
  replace hlek := Lib.hid hlek
  go_wp2_with fail
  go_loopw [67, 18, 19] (fun y p r wr => ∃ i : Nat, i ≤ n ∧ y = .int .i64 i ∧ p = .int .i64 ((av : Int) - (cntV (s.os.take i) : Nat)) ∧ r = .int .i64 ((at' : Int) - (cntT (s.os.take i) : Nat)) ∧ wr = w10) (fun y _ _ _ => (300 - intOf y).toNat)
  case atStart => exact ⟨0, by omega, rfl, by simp [cntV], by simp [cntT], rfl⟩
  case round =>
    obtain ⟨i, hi, rfl, rfl, rfl, rfl⟩ := hrel
    obtain ⟨wi, rfl⟩ : ∃ wo : World, wo = wr := ⟨_, rfl⟩
    have hli := hlek.out i
    obtain ⟨ci, hci⟩ : ∃ z, Hid (cntV (s.os.take i) = z) := ⟨_, rfl⟩
    obtain ⟨di, hdi⟩ : ∃ z, Hid (cntT (s.os.take i) = z) := ⟨_, rfl⟩
    rw [hci.out, hdi.out] at hli
    rw [hci.out, hdi.out]
    by_cases hin : i < n
    · obtain ⟨x, hx⟩ : ∃ x, Hid (s.os[i]? = some x) := ⟨_, Lib.hid (List.getElem?_eq_getElem (by rw [hn.out]; exact hin))⟩
      obtain ⟨g, o, rfl, hrg⟩ := hrow10.at (k := i) (x := x.row) (by rw [List.getElem?_map, hx.out]; rfl)
      have hxo := hokall.out x (List.mem_of_getElem? hx.out)
      obtain ⟨xa, xc, hxv⟩ := hxo.1.form
      obtain ⟨ya, yc, hxt⟩ := hxo.2.form
      rw [List.length_map] at hxv hxt
      have hvs := hsm.out.2 x (List.mem_of_getElem? hx.out)
      obtain ⟨nv, hnv⟩ : ∃ z, Hid (x.vs.length = z) := ⟨_, rfl⟩
      obtain ⟨nt, hnt⟩ : ∃ z, Hid (x.ts.length = z) := ⟨_, rfl⟩
      have hvs2 : nv ≤ 80 ∧ nt ≤ 80 := by rw [← hnv.out, ← hnt.out]; exact hvs
      have c17 : wi.cell? ⟨g, o + i * 19 + 17, none⟩ = some (.slice xa nv xc) := by rw [← hnv.out, ← hxv]; exact hrg 17 _ rfl
      have c18 : wi.cell? ⟨g, o + i * 19 + 18, none⟩ = some (.slice ya nt yc) := by rw [← hnt.out, ← hxt]; exact hrg 18 _ rfl
      have hii : (i : Int) < n := by omega
      have h2 : Hid (cntV (s.os.take (i + 1)) = ci + nv) := Lib.hid (by rw [cntV_take hx.out, hci.out, hnv.out])
      have h3 : Hid (cntT (s.os.take (i + 1)) = di + nt) := Lib.hid (by rw [cntT_take hx.out, hdi.out, hnt.out])
      clear hrg hxo hxv hxt hvs
      go_wp2_with fail
      go_roundw
      case rel => exact ⟨i + 1, by omega, by go_num, by rw [h2.out]; go_num, by rw [h3.out]; go_num, by first | trivial | rfl⟩
      case measure => simp [intOf]; omega
    · obtain rfl : i = n := by omega
      have hz1 : (av : Int) - ci = 0 := by
        have : ci = av := by rw [← hci.out, ← hav.out, List.take_of_length_le (by rw [hn.out]; exact Nat.le_refl _)]
        omega
      have hz2 : (at' : Int) - di = 0 := by
        have : di = at' := by rw [← hdi.out, ← hat.out, List.take_of_length_le (by rw [hn.out]; exact Nat.le_refl _)]
        omega
      rw [hz1, hz2]
      clear hz1 hz2 hli hall hci hdi hav hat hlek hle
      go_wp2_with (refine wpList_load_row rfl _ _ rfl P rfl _ _ (0, 0) _ kS10 Try.underlying28 rfl hsi ?_)
      refine (hC1.out _ hlA hsm.out).mono ?_
      rintro e w11 ⟨c, co, cc, rfl, hcOk, hcSame, hcSm, hl11, hcu, hcW⟩
      obtain ⟨lc, hlc⟩ : ∃ r, Hid (c.row = r) := ⟨_, rfl⟩
      have lenc : lc.length = 19 := by rw [← hlc.out]; exact c.row_length
      have hci' : (Try.prog.info? 28).map (·.size) = some lc.toArray.size := by rw [List.size_toArray, lenc]; kernel_rfl
      have hconec : lc.toArray.all (·.oneCell') = true := by
        rw [← hlc.out]
        simp only [Scn.row, List.all_toArray, List.all_cons, List.all_append, List.all_map, List.all_nil, hcu]
        rfl
      have hnewc := heap_alloc_new w11 (.cells #[.int .i64 0, .int .i64 0, .int .i64 0, .int .i64 0, .int .i64 0, .int .i64 0, .int .i64 0, .int .i64 0, .int .i64 0, .int .i64 0, .int .i64 0, .int .i64 0, .int .i64 0, .int .i64 0, .int .i64 0, .int .i64 0, .int .i64 0, .int .i64 0, .slice none 0 0] 28)
      have hzc : (#[.int .i64 0, .int .i64 0, .int .i64 0, .int .i64 0, .int .i64 0, .int .i64 0, .int .i64 0, .int .i64 0, .int .i64 0, .int .i64 0, .int .i64 0, .int .i64 0, .int .i64 0, .int .i64 0, .int .i64 0, .int .i64 0, .int .i64 0, .int .i64 0, .slice none 0 0] : Array Value).size = lc.toArray.size := by show (19 : Nat) = _; rw [List.size_toArray, lenc]
      simp only [Scn.V]
      rw [hlc.out]
      go_upto_region 16 with (refine wpList_store_row rfl 28 _ _ rfl w11.heap.size lc.toArray rfl rfl 28 #[.int .i64 0, .int .i64 0, .int .i64 0, .int .i64 0, .int .i64 0, .int .i64 0, .int .i64 0, .int .i64 0, .int .i64 0, .int .i64 0, .int .i64 0, .int .i64 0, .int .i64 0, .int .i64 0, .int .i64 0, .int .i64 0, .int .i64 0, .int .i64 0, .slice none 0 0] hnewc hci' hzc hconec ?_)
      obtain ⟨w12, hw12⟩ : ∃ w, w = w11.alloc (.cells lc.toArray 28) := ⟨_, rfl⟩
      have hl12 : Later w11 w12 := by rw [hw12]; exact (Later.refl w11).alloc _
      have kC : w12.heap[w11.heap.size]? = some (.cells lc.toArray 28 (0, 0)) := by rw [hw12]; exact heap_alloc_new _ _
      rw [World.setRow_alloc_new, ← hw12]
      have hCm : Hid (wi.heap.size ≤ w11.heap.size) := Lib.hid hl11.size
      obtain ⟨C, hC⟩ : ∃ m, Hid (w11.heap.size = m) := ⟨_, rfl⟩
      rw [hC.out] at kC hCm ⊢
      clear hw12 hnewc hzc hconec hC1
      have hl1112 := hl11.trans hl12
      have kS12 := hl1112.row kS10
      have hR2 := Lib.hid (hR1.out w12 c (hcOk.later hl12) (hlA.trans hl1112) hcSm hsm.out)
      rw [hcSame, hlc.out] at hR2
      go_wp2_with (first | refine wpList_load_row rfl _ _ rfl C rfl _ _ (0, 0) _ kC Try.underlying28 rfl hci' ?_ | refine wpList_load_row rfl _ _ rfl P rfl _ _ (0, 0) _ kS12 Try.underlying28 rfl hsi ?_)
      refine hR2.out.mono ?_
      rintro e w13 ⟨rfl, hl13⟩
      have hl1013 := hl1112.trans hl13
      have cC : w13.cell? ⟨C, 18, none⟩ = some (.slice co i cc) := by
        have h1 : c.row[18]? = some c.uo := rfl
        rw [hlc.out] at h1
        have h2 := row_range (hl13.row kC) 18 _ h1
        rw [hcu, hn.out] at h2
        exact h2
      obtain ⟨D, hD⟩ : ∃ D, Hid (0 < i → co = some ⟨D, 0, none⟩ ∧ wi.heap.size ≤ D) := by
        by_cases h0 : 0 < i
        · obtain ⟨x, hx⟩ : ∃ x, c.os[0]? = some x := ⟨_, List.getElem?_eq_getElem (by
            have := osEq_len (L := c.os) (M := s.os) (by have h := hcSame; unfold sameB at h; simp only [Bool.and_eq_true] at h; exact h.2.2.2)
            rw [this, hn.out]; exact h0)⟩
          have hr := hcOk.1
          rw [hcu] at hr
          obtain ⟨g, o, he, -⟩ := hr.at (k := 0) (x := x.row) (by rw [List.getElem?_map, hx]; rfl)
          obtain ⟨ho, hm, -⟩ := hcW g o he (by rw [hn.out]; exact h0)
          exact ⟨g, Lib.hid (fun _ => ⟨by rw [he, ho], hm⟩)⟩
        · exact ⟨0, Lib.hid (fun h => absurd h h0)⟩
      have hWI : Hid (WI wi w13 C D co i cc) := Lib.hid ⟨hl1013, cC, fun h0 => by
        obtain ⟨he, -⟩ := hD.out h0
        obtain ⟨-, -, hw⟩ := hcW D 0 he (by rw [hn.out]; exact h0)
        rw [hn.out] at hw
        exact hw.later (hl12.trans hl13)⟩
      clear hR1 hR2 kC hci' hcOk hcSame hcSm hcu hcW hl11 hl12 hl13 hl1112 hl1013 kS12 hlc
      go_wp2_with fail
      go_loopw [97] (fun y wr => ∃ j : Nat, j ≤ i ∧ y = .int .i64 j ∧ Hid (WI wi wr C D co i cc)) (fun y _ => (300 - intOf y).toNat)
      case atStart => exact ⟨0, by omega, rfl, hWI⟩
      case round =>
        clear hWI cC
        obtain ⟨j, hj, rfl, hWI⟩ := hrel
        obtain ⟨wj, rfl⟩ : ∃ wo : World, wo = wr := ⟨_, rfl⟩
        have cC := hWI.out.cc
        by_cases hji : j < i
        · obtain ⟨rfl, hDm⟩ := hD.out (by omega)
          obtain ⟨⟨v1, hv1⟩, hf1, aw, nw, cw, hc17, hnw, hbl⟩ := hWI.out.wr (by omega) j hji
          have hjj : (j : Int) < i := by omega
          replace hbl := Lib.hid hbl
          go_upto_region 21 with fail
          obtain ⟨wk, hwk⟩ : ∃ w, w = wj.setCell ⟨D, j * 19, none⟩ (.int .i64 (wrap64 (v1 + 1))) := ⟨_, rfl⟩
          have hWK : Hid (WI wi wk C D (some ⟨D, 0, none⟩) i cc) := Lib.hid (by rw [hwk]; exact hWI.out.set ⟨v1, hv1⟩ hDm)
          rw [← hwk]
          have cCk := hWK.out.cc
          have c17k : wk.cell? ⟨D, j * 19 + 17, none⟩ = some (.slice aw nw cw) := by rw [hwk]; exact slice_keep ⟨v1, hv1⟩ hc17
          clear hwk hWI cC hv1 hf1 hc17 hbl
          go_wp2_with fail
          go_loopw [116] (fun y wr => ∃ l : Nat, l ≤ nw ∧ y = .int .i64 l ∧ Hid (WI wi wr C D (some ⟨D, 0, none⟩) i cc ∧ wr.cell? ⟨D, j * 19 + 17, none⟩ = some (.slice aw nw cw))) (fun y _ => (300 - intOf y).toNat)
          case atStart => exact ⟨0, by omega, rfl, Lib.hid ⟨hWK.out, c17k⟩⟩
          case round =>
            clear hWK cCk c17k
            obtain ⟨l, hl, rfl, hWL⟩ := hrel
            obtain ⟨wl, rfl⟩ : ∃ wo : World, wo = wr := ⟨_, rfl⟩
            have cCl := hWL.out.1.cc
            have c17l := hWL.out.2
            by_cases hlw : l < nw
            · obtain ⟨-, -, aw', nw', cw', hc17', -, hbl⟩ := hWL.out.1.wr (by omega) j hji
              rw [c17l] at hc17'
              cases hc17'
              obtain ⟨B, rfl, hBm, ⟨v2, hv2⟩, hf2⟩ := hbl l hlw
              have hll : (l : Int) < nw := by omega
              have hWN : Hid (∀ u : Int, Hid (WI wi ((wl.setCell ⟨B, l * 3, none⟩ (.int .i64 u)).drew) C D (some ⟨D, 0, none⟩) i cc ∧ ((wl.setCell ⟨B, l * 3, none⟩ (.int .i64 u)).drew).cell? ⟨D, j * 19 + 17, none⟩ = some (.slice (some ⟨B, 0, none⟩) nw cw))) := Lib.hid (fun u => Lib.hid ⟨(hWL.out.1.set ⟨v2, hv2⟩ hBm).drew, slice_keep ⟨v2, hv2⟩ c17l⟩)
              clear hWL hbl
              go_upto_region 24 with fail
              go_region
              all_goals
                go_wp2_with fail
                go_roundw
                case rel => exact ⟨l + 1, by omega, by go_num, hWN.out _⟩
                case measure => simp [intOf]; omega
            · obtain rfl : l = nw := by omega
              have hWM : Hid (WI wi wl C D (some ⟨D, 0, none⟩) i cc) := Lib.hid hWL.out.1
              clear hWL
              go_wp2_with fail
              go_roundw
              case rel => exact ⟨j + 1, by omega, by go_num, hWM⟩
              case measure => simp [intOf]; omega
        · obtain rfl : j = i := by omega
          have hlz := hWI.out.lat
          have hlZ := hlA.trans hlz
          have kSz := hlz.row kS10
          have kTz := hlz.row kT10
          replace kM1 := hlz.row kM1
          replace kM2 := hlz.row kM2
          have hvz := hv9.later hlz
          clear hD hCm hWI hrow10 hokall
          obtain ⟨n19, hn19⟩ : ∃ n, Hid ((19 : Nat) = n) := ⟨_, rfl⟩
          obtain ⟨n16, hn16⟩ : ∃ n, Hid ((16 : Nat) = n) := ⟨_, rfl⟩
          have hsz19 : ∀ w, (sizeOf 28).run Try.prog w = .ok n19 w := fun w => by rw [← hn19.out]; kernel_rfl
          have hsz16 : ∀ w, (sizeOf 25).run Try.prog w = .ok n16 w := fun w => by rw [← hn16.out]; kernel_rfl
          obtain ⟨lm, hlm⟩ : ∃ l, Hid ((rowV 16 q).toList = l) := ⟨_, rfl⟩
          have lenm : lm.length = 16 := by rw [← hlm.out, Array.length_toList]; exact rowV_size 16 q
          have hl1 : ∀ w, w.rangeAt P 0 ls → (loadCellsFrom ⟨P, 0, none⟩ 0 n19 #[]).run Try.prog w = .ok ls.toArray w := fun w h => by
            rw [← hn19.out, ← lens]
            exact run_loadCells_list (P := Try.prog) w ⟨P, 0, none⟩ ls (fun j v hv => by rw [Addr.add_mid]; exact h j v hv)
          have hl2 : ∀ w, w.rangeAt (P + 1) 0 lt → (loadCellsFrom ⟨P + 1, 0, none⟩ 0 n19 #[]).run Try.prog w = .ok lt.toArray w := fun w h => by
            rw [← hn19.out, ← lent]
            exact run_loadCells_list (P := Try.prog) w ⟨P + 1, 0, none⟩ lt (fun j v hv => by rw [Addr.add_mid]; exact h j v hv)
          have hl3 : ∀ w, w.rangeAt M1 0 lm → (loadCellsFrom ⟨M1, 0, none⟩ 0 n16 #[]).run Try.prog w = .ok lm.toArray w := fun w h => by
            rw [← hn16.out, ← lenm]
            exact run_loadCells_list (P := Try.prog) w ⟨M1, 0, none⟩ lm (fun j v hv => by rw [Addr.add_mid]; exact h j v hv)
          have hl4 : ∀ w, w.rangeAt M2 0 lm → (loadCellsFrom ⟨M2, 0, none⟩ 0 n16 #[]).run Try.prog w = .ok lm.toArray w := fun w h => by
            rw [← hn16.out, ← lenm]
            exact run_loadCells_list (P := Try.prog) w ⟨M2, 0, none⟩ lm (fun j v hv => by rw [Addr.add_mid]; exact h j v hv)
          have heq : ∀ W, (binOp .eql 25 (.agg lm.toArray) (.agg lm.toArray)).run Try.prog W = .ok (.bool true) W := fun W => by
            rw [← hlm.out, Array.toArray_toList]
            have := eql_mat W q q
            rw [matEq_iff.2 (fun _ _ => rfl)] at this
            exact this
          have hgm := guard_mat
          have r1 := row_range kSz
          have r2 := row_range kTz
          have r3 : wj.rangeAt M1 0 lm := by rw [← hlm.out]; exact row_range (L := (rowV 16 q).toList) (by rw [Array.toArray_toList]; exact kM1)
          have r4 : wj.rangeAt M2 0 lm := by rw [← hlm.out]; exact row_range (L := (rowV 16 q).toList) (by rw [Array.toArray_toList]; exact kM2)
          have hS : Hid (∀ Z, Later wj Z → (Later wj Z ∧ Z.rangeAt P 0 ls ∧ Z.rangeAt (P + 1) 0 lt ∧ Z.rangeAt M1 0 lm ∧ Z.rangeAt M2 0 lm)) := Lib.hid (fun Z h => ⟨h, rangeAt_later r1 h, rangeAt_later r2 h, rangeAt_later r3 h, rangeAt_later r4 h⟩)
          have hIDs : Hid (∀ V, Later wj V → Calls Try.prog 22 #[.agg ls.toArray] V fun e w' => ∃ bu cu, e = .returned (.slice bu j cu) ∧ IntsV w' (.slice bu j cu) I ∧ Later V w') := Lib.hid (fun V h => (hI2.out V (hlZ.trans h) hsm.out).mono (by
            rintro e w' ⟨v, rfl, ⟨⟨bu, cu, rfl, hcu⟩, -⟩, hl⟩
            rw [hIl] at hcu ⊢
            exact ⟨bu, cu, rfl, ⟨bu, cu, by rw [hIl], by rw [hIl]; exact hcu⟩, hl⟩))
          have hInts : Hid (∀ V u, Later wj V → IntsV V u I → Calls Try.prog 21 #[.slice b9 j c9, u] V fun e w' => e = .returned (.bool true) ∧ Later V w') := Lib.hid (fun V u h hu => ints_eq _ _ I V (hvz.later h) hu (by rw [hIl]; omega))
          have hSa : Hid (∀ V, Later wj V → Calls Try.prog 23 #[.agg ls.toArray, .agg lt.toArray] V fun e w' => e = .returned (.bool sb) ∧ Later V w') := Lib.hid (fun V h => hS1.out V (hlZ.trans h) hsm.out)
          have hRa : Hid (∀ V, Later wj V → Calls Try.prog 20 #[.agg ls.toArray, .agg lt.toArray] V fun e w' => e = .returned (.bool sb) ∧ Later V w') := Lib.hid (fun V h => hS2.out V (hlZ.trans h) hsm.out hst.out)
          have hSs : Hid (∀ V, Later wj V → Calls Try.prog 23 #[.agg ls.toArray, .agg ls.toArray] V fun e w' => e = .returned (.bool true) ∧ Later V w') := Lib.hid (fun V h => hS3.out V (hlZ.trans h) hsm.out)
          have y0 : ¬ n19 = 0 := by have := hn19.out; omega
          have y1 : ¬ n16 = 0 := by have := hn16.out; omega
          have z1 : (e1 == e1) = true := by simp
          have z2 : (fq == fq) = true := by simp
          have z3 : (fb == fb) = true := by simp
          have z4 : (sb == sb) = true := by simp
          have hK : Later wj wj.drew := (Later.refl wj).drew
          clear hlz kSz kTz kM1 kM2 hvz r1 r2 r3 r4 hS1 hS2 hS3 hI2 kS10 kT10 hv9 hlA lens lent lenm so10 hsi hti
          go_upto_region 27 with fail
          go_region_held3 (fun Z => Later wj Z ∧ Z.rangeAt P 0 ls ∧ Z.rangeAt (P + 1) 0 lt ∧ Z.rangeAt M1 0 lm ∧ Z.rangeAt M2 0 lm) ((first | (with_reducible exact hS.out _ hK))) (first
            | (go_at_call 22; with_reducible refine (hIDs.out _ hK).mono ?_; rintro e V1 ⟨bu, cu, rfl, hu, hLa⟩; have hK : Later wj V1 := hK.trans hLa)
            | (go_at_call 21; with_reducible refine (hInts.out _ _ hK hu).mono ?_; rintro e V2 ⟨rfl, hLb⟩; have hK : Later wj V2 := hK.trans hLb)
            | (go_at_call 23; with_reducible refine (hSa.out _ hK).mono ?_; rintro e V3 ⟨rfl, hLc⟩; have hK : Later wj V3 := hK.trans hLc)
            | (go_at_call 20; with_reducible refine (hRa.out _ hK).mono ?_; rintro e V4 ⟨rfl, hLd⟩; have hK : Later wj V4 := hK.trans hLd)
            | (go_at_call 23; with_reducible refine (hSs.out _ hK).mono ?_; rintro e V5 ⟨rfl, hLe⟩; have hK : Later wj V5 := hK.trans hLe))
          all_goals
            go_wp2_with fail
            go_ret
            exact ⟨by first | rfl | simp, hlZ.trans hK⟩
end Go.Proofs.Ytackbajbladhhaa
