/-
  Chapter 6: the document's answers: the camera times an object's matrix; where an object is; all IDs.
  Chapter 6: the document's answers: where an object is; all IDs.
-/
import Derived.Test.YtackbajbladhhaaScY
import Derived.Test.YtackbajbladhhaaScW
import Derived.Test.YtackbajbladhhaaBgM
import Derived.Deep.Onto
namespace Go.Proofs.Ytackbajbladhhaa
open Go.RowKit Go.Shelf
set_option linter.unusedVariables false
set_option linter.unusedSimpArgs false
attribute [local go_sem] Oper.semAt_some
attribute [-simp] Try.sizeOf167 Try.typeInfo167

set_option maxRecDepth 100000 in
set_option maxHeartbeats 4000000 in
theorem rboth_gen (s : Scn) (k : Nat) (x : SObj) (W : World) (hs : s.Ok W) (hx : s.os[k]? = some x) (q : Nat → Int) (ev : Int)
    (hM : ∀ W : World, Calls Try.prog 41 #[matV s.cam, matV x.m] W fun e w' => e = .returned (.tuple #[matV q, .int .i64 ev]) ∧ Later W w') (ans : Value)
    (hA : (ev = 0 ∧ ans = .tuple #[matV q, .int .i64 0]) ∨ (ev ≠ 0 ∧ ans = .tuple #[matV (fun _ => 0), .int .i64 60])) :
    Calls Try.prog 16 #[s.V, .int .i64 k] W fun e w' => e = .returned ans ∧ Later W w' := by
  replace hM := Lib.hid hM
  replace hA := Lib.hid hA
  have hsq := size_mat q
  have hoq := rowV_one 16 q
  have hzq : (#[.int .i64 0, .int .i64 0, .int .i64 0, .int .i64 0, .int .i64 0, .int .i64 0, .int .i64 0, .int .i64 0, .int .i64 0, .int .i64 0, .int .i64 0, .int .i64 0, .int .i64 0, .int .i64 0, .int .i64 0, .int .i64 0] : Array Value).size = (rowV 16 q).size := by rw [rowV_size]; rfl
  have hst1 : ∀ V : World, (storeCells ⟨V.heap.size, 0, none⟩ (rowV 16 q).toList).run Try.prog (V.alloc (.cells #[.int .i64 0, .int .i64 0, .int .i64 0, .int .i64 0, .int .i64 0, .int .i64 0, .int .i64 0, .int .i64 0, .int .i64 0, .int .i64 0, .int .i64 0, .int .i64 0, .int .i64 0, .int .i64 0, .int .i64 0, .int .i64 0] 25)) = .ok () (V.alloc (.cells (rowV 16 q) 25)) := fun V => run_storeCells_new V 25 #[.int .i64 0, .int .i64 0, .int .i64 0, .int .i64 0, .int .i64 0, .int .i64 0, .int .i64 0, .int .i64 0, .int .i64 0, .int .i64 0, .int .i64 0, .int .i64 0, .int .i64 0, .int .i64 0, .int .i64 0, .int .i64 0] (rowV 16 q) hsq hzq hoq
  have hst2 := Lib.hid (fun (V : World) (n : Nat) (h : V.heap[n]? = some (.cells #[.int .i64 0, .int .i64 0, .int .i64 0, .int .i64 0, .int .i64 0, .int .i64 0, .int .i64 0, .int .i64 0, .int .i64 0, .int .i64 0, .int .i64 0, .int .i64 0, .int .i64 0, .int .i64 0, .int .i64 0, .int .i64 0] 25 (0, 0))) => new_store q V n h)
  clear hsq hoq hzq
  obtain ⟨X, hX⟩ : ∃ X, X = (W.alloc (.cells s.row.toArray 28)).alloc (.cells #[.int .i64 0, .int .i64 0, .int .i64 0, .int .i64 0, .int .i64 0, .int .i64 0, .int .i64 0, .int .i64 0, .int .i64 0, .int .i64 0, .int .i64 0, .int .i64 0, .int .i64 0, .int .i64 0, .int .i64 0, .int .i64 0] 25) := ⟨_, rfl⟩
  have hlX : Later W X := by rw [hX]; exact ((Later.refl W).alloc _).alloc _
  have kS : ScnB X W.heap.size s := by rw [hX]; exact push_one (heap_alloc_new _ _) _
  have kR : matB X (W.heap.size + 1) (fun _ => 0) := by rw [hX]; exact push_new _ _ (by simp)
  obtain ⟨ao, cap, hu⟩ := hs.1.form
  rw [List.length_map] at hu
  have so := kS.uo
  rw [hu] at so
  have hv := (hs.later hlX).1
  rw [hu] at hv
  obtain ⟨n, hn⟩ : ∃ n, Hid (s.os.length = n) := ⟨_, rfl⟩
  rw [hn.out] at so hv
  obtain ⟨g, o, rfl, hrg⟩ := hv.at (k := k) (x := x.row) (by rw [List.getElem?_map, hx]; rfl)
  have om : X.rangeAt g (o + k * 19 + 1) (cells16 x.m) := rangeAt_mid (A := [.int .i64 x.id]) (C := [x.uv, x.ut]) hrg
  have sc : X.rangeAt W.heap.size 2 (cells16 s.cam) := kS.cam
  have hkn : k < n := by rw [← hn.out]; exact (List.getElem?_eq_some_iff.1 hx).1
  have hki : (k : Int) < n := by omega
  have hd1 : decide ((k : Int) < 0) = false := decide_eq_false (by omega)
  have hd2 : decide (n ≤ k) = false := decide_eq_false (by omega)
  clear hv hu hrg hs hx kS
  go_enter Try.func16, Try.ntmps16
  go_upto_region 1 with fail
  rw [← hX]
  clear hX
  obtain ⟨N, hN⟩ : ∃ N, Hid (W.heap.size = N) := ⟨_, rfl⟩
  have hNW : W.heap.size ≤ N := Nat.le_of_eq hN.out
  rw [hN.out] at so sc kR ⊢
  clear hN
  have a0 : X.cell? ⟨N, 2, none⟩ = some (.int .i64 (s.cam 0)) := sc 0 _ rfl
  have a1 : X.cell? ⟨N, 3, none⟩ = some (.int .i64 (s.cam 1)) := sc 1 _ rfl
  have a2 : X.cell? ⟨N, 4, none⟩ = some (.int .i64 (s.cam 2)) := sc 2 _ rfl
  have a3 : X.cell? ⟨N, 5, none⟩ = some (.int .i64 (s.cam 3)) := sc 3 _ rfl
  have a4 : X.cell? ⟨N, 6, none⟩ = some (.int .i64 (s.cam 4)) := sc 4 _ rfl
  have a5 : X.cell? ⟨N, 7, none⟩ = some (.int .i64 (s.cam 5)) := sc 5 _ rfl
  have a6 : X.cell? ⟨N, 8, none⟩ = some (.int .i64 (s.cam 6)) := sc 6 _ rfl
  have a7 : X.cell? ⟨N, 9, none⟩ = some (.int .i64 (s.cam 7)) := sc 7 _ rfl
  have a8 : X.cell? ⟨N, 10, none⟩ = some (.int .i64 (s.cam 8)) := sc 8 _ rfl
  have a9 : X.cell? ⟨N, 11, none⟩ = some (.int .i64 (s.cam 9)) := sc 9 _ rfl
  have a10 : X.cell? ⟨N, 12, none⟩ = some (.int .i64 (s.cam 10)) := sc 10 _ rfl
  have a11 : X.cell? ⟨N, 13, none⟩ = some (.int .i64 (s.cam 11)) := sc 11 _ rfl
  have a12 : X.cell? ⟨N, 14, none⟩ = some (.int .i64 (s.cam 12)) := sc 12 _ rfl
  have a13 : X.cell? ⟨N, 15, none⟩ = some (.int .i64 (s.cam 13)) := sc 13 _ rfl
  have a14 : X.cell? ⟨N, 16, none⟩ = some (.int .i64 (s.cam 14)) := sc 14 _ rfl
  have a15 : X.cell? ⟨N, 17, none⟩ = some (.int .i64 (s.cam 15)) := sc 15 _ rfl
  have b0 : X.cell? ⟨g, o + k * 19 + 1, none⟩ = some (.int .i64 (x.m 0)) := om 0 _ rfl
  have b1 : X.cell? ⟨g, o + k * 19 + 2, none⟩ = some (.int .i64 (x.m 1)) := om 1 _ rfl
  have b2 : X.cell? ⟨g, o + k * 19 + 3, none⟩ = some (.int .i64 (x.m 2)) := om 2 _ rfl
  have b3 : X.cell? ⟨g, o + k * 19 + 4, none⟩ = some (.int .i64 (x.m 3)) := om 3 _ rfl
  have b4 : X.cell? ⟨g, o + k * 19 + 5, none⟩ = some (.int .i64 (x.m 4)) := om 4 _ rfl
  have b5 : X.cell? ⟨g, o + k * 19 + 6, none⟩ = some (.int .i64 (x.m 5)) := om 5 _ rfl
  have b6 : X.cell? ⟨g, o + k * 19 + 7, none⟩ = some (.int .i64 (x.m 6)) := om 6 _ rfl
  have b7 : X.cell? ⟨g, o + k * 19 + 8, none⟩ = some (.int .i64 (x.m 7)) := om 7 _ rfl
  have b8 : X.cell? ⟨g, o + k * 19 + 9, none⟩ = some (.int .i64 (x.m 8)) := om 8 _ rfl
  have b9 : X.cell? ⟨g, o + k * 19 + 10, none⟩ = some (.int .i64 (x.m 9)) := om 9 _ rfl
  have b10 : X.cell? ⟨g, o + k * 19 + 11, none⟩ = some (.int .i64 (x.m 10)) := om 10 _ rfl
  have b11 : X.cell? ⟨g, o + k * 19 + 12, none⟩ = some (.int .i64 (x.m 11)) := om 11 _ rfl
  have b12 : X.cell? ⟨g, o + k * 19 + 13, none⟩ = some (.int .i64 (x.m 12)) := om 12 _ rfl
  have b13 : X.cell? ⟨g, o + k * 19 + 14, none⟩ = some (.int .i64 (x.m 13)) := om 13 _ rfl
  have b14 : X.cell? ⟨g, o + k * 19 + 15, none⟩ = some (.int .i64 (x.m 14)) := om 14 _ rfl
  have b15 : X.cell? ⟨g, o + k * 19 + 16, none⟩ = some (.int .i64 (x.m 15)) := om 15 _ rfl
  have hS : Hid (∀ Z, Later X Z → (Later X Z ∧ Z.cell? ⟨N, 18, none⟩ = some (.slice (some ⟨g, o, none⟩) n cap) ∧ Z.cell? ⟨N, 2, none⟩ = some (.int .i64 (s.cam 0)) ∧ Z.cell? ⟨N, 3, none⟩ = some (.int .i64 (s.cam 1)) ∧ Z.cell? ⟨N, 4, none⟩ = some (.int .i64 (s.cam 2)) ∧ Z.cell? ⟨N, 5, none⟩ = some (.int .i64 (s.cam 3)) ∧ Z.cell? ⟨N, 6, none⟩ = some (.int .i64 (s.cam 4)) ∧ Z.cell? ⟨N, 7, none⟩ = some (.int .i64 (s.cam 5)) ∧ Z.cell? ⟨N, 8, none⟩ = some (.int .i64 (s.cam 6)) ∧ Z.cell? ⟨N, 9, none⟩ = some (.int .i64 (s.cam 7)) ∧ Z.cell? ⟨N, 10, none⟩ = some (.int .i64 (s.cam 8)) ∧ Z.cell? ⟨N, 11, none⟩ = some (.int .i64 (s.cam 9)) ∧ Z.cell? ⟨N, 12, none⟩ = some (.int .i64 (s.cam 10)) ∧ Z.cell? ⟨N, 13, none⟩ = some (.int .i64 (s.cam 11)) ∧ Z.cell? ⟨N, 14, none⟩ = some (.int .i64 (s.cam 12)) ∧ Z.cell? ⟨N, 15, none⟩ = some (.int .i64 (s.cam 13)) ∧ Z.cell? ⟨N, 16, none⟩ = some (.int .i64 (s.cam 14)) ∧ Z.cell? ⟨N, 17, none⟩ = some (.int .i64 (s.cam 15)) ∧ Z.cell? ⟨g, o + k * 19 + 1, none⟩ = some (.int .i64 (x.m 0)) ∧ Z.cell? ⟨g, o + k * 19 + 2, none⟩ = some (.int .i64 (x.m 1)) ∧ Z.cell? ⟨g, o + k * 19 + 3, none⟩ = some (.int .i64 (x.m 2)) ∧ Z.cell? ⟨g, o + k * 19 + 4, none⟩ = some (.int .i64 (x.m 3)) ∧ Z.cell? ⟨g, o + k * 19 + 5, none⟩ = some (.int .i64 (x.m 4)) ∧ Z.cell? ⟨g, o + k * 19 + 6, none⟩ = some (.int .i64 (x.m 5)) ∧ Z.cell? ⟨g, o + k * 19 + 7, none⟩ = some (.int .i64 (x.m 6)) ∧ Z.cell? ⟨g, o + k * 19 + 8, none⟩ = some (.int .i64 (x.m 7)) ∧ Z.cell? ⟨g, o + k * 19 + 9, none⟩ = some (.int .i64 (x.m 8)) ∧ Z.cell? ⟨g, o + k * 19 + 10, none⟩ = some (.int .i64 (x.m 9)) ∧ Z.cell? ⟨g, o + k * 19 + 11, none⟩ = some (.int .i64 (x.m 10)) ∧ Z.cell? ⟨g, o + k * 19 + 12, none⟩ = some (.int .i64 (x.m 11)) ∧ Z.cell? ⟨g, o + k * 19 + 13, none⟩ = some (.int .i64 (x.m 12)) ∧ Z.cell? ⟨g, o + k * 19 + 14, none⟩ = some (.int .i64 (x.m 13)) ∧ Z.cell? ⟨g, o + k * 19 + 15, none⟩ = some (.int .i64 (x.m 14)) ∧ Z.cell? ⟨g, o + k * 19 + 16, none⟩ = some (.int .i64 (x.m 15)))) := Lib.hid (fun Z h => ⟨h, h.cell so, h.cell a0, h.cell a1, h.cell a2, h.cell a3, h.cell a4, h.cell a5, h.cell a6, h.cell a7, h.cell a8, h.cell a9, h.cell a10, h.cell a11, h.cell a12, h.cell a13, h.cell a14, h.cell a15, h.cell b0, h.cell b1, h.cell b2, h.cell b3, h.cell b4, h.cell b5, h.cell b6, h.cell b7, h.cell b8, h.cell b9, h.cell b10, h.cell b11, h.cell b12, h.cell b13, h.cell b14, h.cell b15⟩)
  clear a0 a1 a2 a3 a4 a5 a6 a7 a8 a9 a10 a11 a12 a13 a14 a15 b0 b1 b2 b3 b4 b5 b6 b7 b8 b9 b10 b11 b12 b13 b14 b15 sc om
  go_wp2_with fail
  go_cut [6, 7] from 18 to 29 (fun u v wx => NewM X q u wx ∧ v = .int .i64 ev)
  case first =>
    go_region_held3 (fun Z => Later X Z ∧ Z.cell? ⟨N, 18, none⟩ = some (.slice (some ⟨g, o, none⟩) n cap) ∧ Z.cell? ⟨N, 2, none⟩ = some (.int .i64 (s.cam 0)) ∧ Z.cell? ⟨N, 3, none⟩ = some (.int .i64 (s.cam 1)) ∧ Z.cell? ⟨N, 4, none⟩ = some (.int .i64 (s.cam 2)) ∧ Z.cell? ⟨N, 5, none⟩ = some (.int .i64 (s.cam 3)) ∧ Z.cell? ⟨N, 6, none⟩ = some (.int .i64 (s.cam 4)) ∧ Z.cell? ⟨N, 7, none⟩ = some (.int .i64 (s.cam 5)) ∧ Z.cell? ⟨N, 8, none⟩ = some (.int .i64 (s.cam 6)) ∧ Z.cell? ⟨N, 9, none⟩ = some (.int .i64 (s.cam 7)) ∧ Z.cell? ⟨N, 10, none⟩ = some (.int .i64 (s.cam 8)) ∧ Z.cell? ⟨N, 11, none⟩ = some (.int .i64 (s.cam 9)) ∧ Z.cell? ⟨N, 12, none⟩ = some (.int .i64 (s.cam 10)) ∧ Z.cell? ⟨N, 13, none⟩ = some (.int .i64 (s.cam 11)) ∧ Z.cell? ⟨N, 14, none⟩ = some (.int .i64 (s.cam 12)) ∧ Z.cell? ⟨N, 15, none⟩ = some (.int .i64 (s.cam 13)) ∧ Z.cell? ⟨N, 16, none⟩ = some (.int .i64 (s.cam 14)) ∧ Z.cell? ⟨N, 17, none⟩ = some (.int .i64 (s.cam 15)) ∧ Z.cell? ⟨g, o + k * 19 + 1, none⟩ = some (.int .i64 (x.m 0)) ∧ Z.cell? ⟨g, o + k * 19 + 2, none⟩ = some (.int .i64 (x.m 1)) ∧ Z.cell? ⟨g, o + k * 19 + 3, none⟩ = some (.int .i64 (x.m 2)) ∧ Z.cell? ⟨g, o + k * 19 + 4, none⟩ = some (.int .i64 (x.m 3)) ∧ Z.cell? ⟨g, o + k * 19 + 5, none⟩ = some (.int .i64 (x.m 4)) ∧ Z.cell? ⟨g, o + k * 19 + 6, none⟩ = some (.int .i64 (x.m 5)) ∧ Z.cell? ⟨g, o + k * 19 + 7, none⟩ = some (.int .i64 (x.m 6)) ∧ Z.cell? ⟨g, o + k * 19 + 8, none⟩ = some (.int .i64 (x.m 7)) ∧ Z.cell? ⟨g, o + k * 19 + 9, none⟩ = some (.int .i64 (x.m 8)) ∧ Z.cell? ⟨g, o + k * 19 + 10, none⟩ = some (.int .i64 (x.m 9)) ∧ Z.cell? ⟨g, o + k * 19 + 11, none⟩ = some (.int .i64 (x.m 10)) ∧ Z.cell? ⟨g, o + k * 19 + 12, none⟩ = some (.int .i64 (x.m 11)) ∧ Z.cell? ⟨g, o + k * 19 + 13, none⟩ = some (.int .i64 (x.m 12)) ∧ Z.cell? ⟨g, o + k * 19 + 14, none⟩ = some (.int .i64 (x.m 13)) ∧ Z.cell? ⟨g, o + k * 19 + 15, none⟩ = some (.int .i64 (x.m 14)) ∧ Z.cell? ⟨g, o + k * 19 + 16, none⟩ = some (.int .i64 (x.m 15))) ((go_split_ands; first | exact hS.out _ (Later.refl X).drew | exact hS.out _ (Later.alloc (by assumption) _) | exact hS.out _ (Later.trans (by assumption) hL) | exact hS.out _ (Later.alloc hL1 _) | exact hS.out _ (Later.setRow hL1 (Nat.le_refl _) _))) (first | (go_at_call 41; refine (hM.out _).mono ?_; rintro e V1 ⟨rfl, hL⟩; have hL1 : Later X V1 := (Later.refl X).drew.trans hL) | (go_at_call 41; refine (hM.out _).mono ?_; rintro e V1 ⟨rfl, hL⟩; have hL1 : Later X V1 := ((Later.refl X).alloc _).drew.trans hL; have kN1 := hL.row (heap_alloc_new X _); have hst3 := hst2.out V1 X.heap.size kN1))
    · rename_i JJ KK hj hk hh _; refine hk _ _ (Met.intro (hj _ _ ?_)); (repeat apply Exists.intro)
      exact ⟨⟨⟨_, rfl, hL1.alloc _, hL1.size, heap_alloc_new _ _⟩, rfl⟩, rfl⟩
    · rename_i JJ KK hj hk hh _; refine hk _ _ (Met.intro (hj _ _ ?_)); (repeat apply Exists.intro)
      exact ⟨⟨⟨_, rfl, Later.setRow hL1 (Nat.le_refl _) _, Nat.le_refl _, setRow_heap _ _ _ _ _ _ kN1⟩, rfl⟩, rfl⟩
  case rest =>
    obtain ⟨⟨Q, rfl, hlQ, hQ, kQ⟩, rfl⟩ := hcut
    have kR1 := Row.later kR hlQ
    rcases hA.out with ⟨rfl, rfl⟩ | ⟨h0, rfl⟩
    · go_wp2_with (first | refine wpList_load_row rfl _ _ rfl Q rfl _ _ (0, 0) _ kQ Try.underlying25 rfl (size_mat q) ?_ | refine wpList_store_row rfl 25 _ _ rfl (N + 1) (rowV 16 q) rfl rfl 25 (rowV 16 (fun _ => 0)) kR1 (size_mat _) (by rw [rowV_size, rowV_size]) (rowV_one 16 _) ?_)
      have kZ : matB _ (N + 1) q := setRow_heap _ _ _ (rowV 16 q) _ _ kR1
      have hload := load_mat kZ
      exact bodyPost_ret (v := .tuple #[matV q, .int .i64 0]) (results_cell2 (a := 4) (b := 5) (t := 25) (by kernel_rfl) _ rfl hload) rfl ⟨rfl, (hlX.trans hlQ).setRow (by omega) _⟩
    · have hne : (ev != 0) = true := by simpa using h0
      replace h0 := Lib.hid h0
      go_wp2_with (refine wpList_store_row rfl 25 _ _ rfl (N + 1) #[.int .i64 0, .int .i64 0, .int .i64 0, .int .i64 0, .int .i64 0, .int .i64 0, .int .i64 0, .int .i64 0, .int .i64 0, .int .i64 0, .int .i64 0, .int .i64 0, .int .i64 0, .int .i64 0, .int .i64 0, .int .i64 0] rfl rfl 25 (rowV 16 (fun _ => 0)) kR1 zero_size (by rw [rowV_size]; rfl) zero_one ?_)
      rw [← zero_lit]
      have kZ : matB _ (N + 1) (fun _ => 0) := setRow_heap _ _ _ (rowV 16 (fun _ => 0)) _ _ kR1
      have hload := load_mat kZ
      exact bodyPost_ret (v := .tuple #[matV (fun _ => 0), .int .i64 60]) (results_cell2 (a := 4) (b := 5) (t := 25) (by kernel_rfl) _ rfl hload) rfl ⟨rfl, (hlX.trans hlQ).setRow (by omega) _⟩
set_option maxRecDepth 100000 in
set_option maxHeartbeats 2000000 in
theorem rboth_out (s : Scn) (k : Int) (W : World) (hs : s.Ok W) (hk : k < 0 ∨ (s.os.length : Int) ≤ k) :
    Calls Try.prog 16 #[s.V, .int .i64 k] W fun e w' => e = .returned (.tuple #[matV (fun _ => 0), .int .i64 60]) ∧ Later W w' := by
  obtain ⟨X, hX⟩ : ∃ X, X = (W.alloc (.cells s.row.toArray 28)).alloc (.cells #[.int .i64 0, .int .i64 0, .int .i64 0, .int .i64 0, .int .i64 0, .int .i64 0, .int .i64 0, .int .i64 0, .int .i64 0, .int .i64 0, .int .i64 0, .int .i64 0, .int .i64 0, .int .i64 0, .int .i64 0, .int .i64 0] 25) := ⟨_, rfl⟩
  have hlX : Later W X := by rw [hX]; exact ((Later.refl W).alloc _).alloc _
  have kS : ScnB X W.heap.size s := by rw [hX]; exact push_one (heap_alloc_new _ _) _
  have kR : matB X (W.heap.size + 1) (fun _ => 0) := by rw [hX]; exact push_new _ _ (by simp)
  obtain ⟨ao, cap, hu⟩ := hs.1.form
  rw [List.length_map] at hu
  have so := kS.uo
  rw [hu] at so
  have hv := (hs.later hlX).1
  rw [hu] at hv
  obtain ⟨n, hn⟩ : ∃ n, Hid (s.os.length = n) := ⟨_, rfl⟩
  rw [hn.out] at so hv
  rw [hn.out] at hk
  go_enter Try.func16, Try.ntmps16
  go_upto_region 1 with fail
  rw [← hX]
  clear hX
  obtain ⟨N, hN⟩ : ∃ N, Hid (W.heap.size = N) := ⟨_, rfl⟩
  have hNW : W.heap.size ≤ N := Nat.le_of_eq hN.out
  rw [hN.out] at so kR ⊢
  clear hN kS hv hu hs
  have fin : ∀ Z : World, Z = X.setRow (N + 1) (rowV 16 (fun _ => 0)) → (loadVar 25 ⟨N + 1, 0, none⟩).run Try.prog Z = .ok (matV (fun _ => 0)) Z ∧ Later W Z := fun Z hZ => by
    have kZ : matB Z (N + 1) (fun _ => 0) := by rw [hZ]; exact setRow_heap _ _ _ (rowV 16 (fun _ => 0)) _ _ kR
    exact ⟨load_mat kZ, by rw [hZ]; exact hlX.setRow (by omega) _⟩
  replace fin := Lib.hid fin
  rcases Classical.em (k < 0) with h1 | h1
  · clear hk
    go_wp2_with (refine wpList_store_row rfl 25 _ _ rfl (N + 1) #[.int .i64 0, .int .i64 0, .int .i64 0, .int .i64 0, .int .i64 0, .int .i64 0, .int .i64 0, .int .i64 0, .int .i64 0, .int .i64 0, .int .i64 0, .int .i64 0, .int .i64 0, .int .i64 0, .int .i64 0, .int .i64 0] rfl rfl 25 (rowV 16 (fun _ => 0)) kR zero_size (by rw [rowV_size]; rfl) zero_one ?_)
    rw [← zero_lit]
    exact bodyPost_ret (v := .tuple #[matV (fun _ => 0), .int .i64 60]) (results_cell2 (a := 4) (b := 5) (t := 25) (by kernel_rfl) _ rfl (fin.out _ rfl).1) rfl ⟨rfl, (fin.out _ rfl).2⟩
  · have h2 : (n : Int) ≤ k := by omega
    clear hk
    go_wp2_with (refine wpList_store_row rfl 25 _ _ rfl (N + 1) #[.int .i64 0, .int .i64 0, .int .i64 0, .int .i64 0, .int .i64 0, .int .i64 0, .int .i64 0, .int .i64 0, .int .i64 0, .int .i64 0, .int .i64 0, .int .i64 0, .int .i64 0, .int .i64 0, .int .i64 0, .int .i64 0] rfl rfl 25 (rowV 16 (fun _ => 0)) kR zero_size (by rw [rowV_size]; rfl) zero_one ?_)
    rw [← zero_lit]
    exact bodyPost_ret (v := .tuple #[matV (fun _ => 0), .int .i64 60]) (results_cell2 (a := 4) (b := 5) (t := 25) (by kernel_rfl) _ rfl (fin.out _ rfl).1) rfl ⟨rfl, (fin.out _ rfl).2⟩
/-- What both answer: the matrix, or the error. -/
noncomputable def bothQ (s : Scn) (k : Int) : (Nat → Int) × Int :=
  open Classical in
  if k < 0 ∨ (s.os.length : Int) ≤ k then (fun _ => 0, 60)
  else match s.os[k.toNat]? with
    | some x => if mulMay s.cam x.m then (mulQ s.cam x.m, 0) else (fun _ => 0, 60)
    | none => (fun _ => 0, 60)
theorem bothQ_out {s : Scn} {k : Int} (h : k < 0 ∨ (s.os.length : Int) ≤ k) : bothQ s k = (fun _ => 0, 60) := by unfold bothQ; rw [if_pos h]
theorem bothQ_yes {s : Scn} {k : Nat} {x : SObj} (hx : s.os[k]? = some x) (h : mulMay s.cam x.m) : bothQ s k = (mulQ s.cam x.m, 0) := by
  have hk := (List.getElem?_eq_some_iff.1 hx).1
  unfold bothQ
  rw [if_neg (by omega), Int.toNat_natCast, hx]
  exact if_pos h
theorem bothQ_no {s : Scn} {k : Nat} {x : SObj} (hx : s.os[k]? = some x) (h : ¬ mulMay s.cam x.m) : bothQ s k = (fun _ => 0, 60) := by
  have hk := (List.getElem?_eq_some_iff.1 hx).1
  unfold bothQ
  rw [if_neg (by omega), Int.toNat_natCast, hx]
  exact if_neg h
theorem both_any (s : Scn) (k : Int) (W : World) (hs : s.Ok W) :
    Calls Try.prog 12 #[s.V, .int .i64 k] W fun e w' => e = .returned (.tuple #[matV (bothQ s k).1, .int .i64 (bothQ s k).2]) ∧ Later W w' := by
  by_cases hk : k < 0 ∨ (s.os.length : Int) ≤ k
  · rw [bothQ_out hk]; exact both_out s k W hs hk
  · obtain ⟨m, rfl⟩ : ∃ m : Nat, k = m := ⟨k.toNat, by omega⟩
    obtain ⟨x, hx⟩ : ∃ x, s.os[m]? = some x := ⟨_, List.getElem?_eq_getElem (by omega)⟩
    by_cases hm : mulMay s.cam x.m
    · rw [bothQ_yes hx hm]; exact both_gen s m x W hs hx _ 0 (fun V => mul_yes s.cam x.m V hm) _ (Or.inl ⟨rfl, rfl⟩)
    · rw [bothQ_no hx hm]; exact both_gen s m x W hs hx _ 30 (fun V => mul_no s.cam x.m V hm) _ (Or.inr ⟨by decide, rfl⟩)
theorem rboth_any (s : Scn) (k : Int) (W : World) (hs : s.Ok W) :
    Calls Try.prog 16 #[s.V, .int .i64 k] W fun e w' => e = .returned (.tuple #[matV (bothQ s k).1, .int .i64 (bothQ s k).2]) ∧ Later W w' := by
  by_cases hk : k < 0 ∨ (s.os.length : Int) ≤ k
  · rw [bothQ_out hk]; exact rboth_out s k W hs hk
  · obtain ⟨m, rfl⟩ : ∃ m : Nat, k = m := ⟨k.toNat, by omega⟩
    obtain ⟨x, hx⟩ : ∃ x, s.os[m]? = some x := ⟨_, List.getElem?_eq_getElem (by omega)⟩
    by_cases hm : mulMay s.cam x.m
    · rw [bothQ_yes hx hm]; exact rboth_gen s m x W hs hx _ 0 (fun V => mul3_any s.cam x.m V _ (fun _ => rfl) (fun h => absurd hm h)) _ (Or.inl ⟨rfl, rfl⟩)
    · rw [bothQ_no hx hm]; exact rboth_gen s m x W hs hx _ 30 (fun V => mul3_any s.cam x.m V _ (fun h => absurd h hm) (fun _ => rfl)) _ (Or.inr ⟨by decide, rfl⟩)
end Go.Proofs.Ytackbajbladhhaa
namespace Go.Proofs.Ytackbajbladhhaa
open Go.RowKit Go.Shelf
set_option linter.unusedVariables false
set_option linter.unusedSimpArgs false
attribute [local go_sem] Oper.semAt_some

set_option maxRecDepth 100000 in
set_option maxHeartbeats 2000000 in
theorem rfind_any (s : Scn) (i : Int) (W : World) (hs : s.Ok W) (hlen : s.os.length ≤ 1000000) :
    Calls Try.prog 17 #[s.V, .int .i64 i] W fun e w' => e = .returned (.tuple #[.int .i64 (max 0 (findQ s i)), .bool (decide (0 ≤ findQ s i))]) ∧ Later W w' := by
  obtain ⟨X, hX⟩ : ∃ X, X = W.alloc (.cells s.row.toArray 28) := ⟨_, rfl⟩
  have hlX : Later W X := by rw [hX]; exact (Later.refl W).alloc _
  have kS : ScnB X W.heap.size s := by rw [hX]; exact heap_alloc_new _ _
  obtain ⟨ao, cap, hu⟩ := hs.1.form
  rw [List.length_map] at hu
  have so := kS.uo
  rw [hu] at so
  have hv := (hs.later hlX).1
  rw [hu] at hv
  obtain ⟨n, hn⟩ : ∃ n, Hid (s.os.length = n) := ⟨_, rfl⟩
  rw [hn.out] at so hlen hv
  obtain ⟨r, hr⟩ : ∃ r, Hid (findQ s i = r) := ⟨_, rfl⟩
  rw [hr.out]
  have hst : Hid (fst (fun k => ((s.os[k]?).map (·.id)).getD 0 == i) n 0 = r) := Lib.hid (by rw [← hr.out]; unfold findQ; rw [hn.out])
  clear hu hr kS hs
  go_enter Try.func17, Try.ntmps17
  go_upto_region 1 with fail
  rw [← hX]
  clear hX
  go_wp2_with fail
  go_loopw [6] (fun y wr => ∃ k : Nat, k ≤ n ∧ y = .int .i64 k ∧ Hid (fst (fun k => ((s.os[k]?).map (·.id)).getD 0 == i) (n - k) k = r) ∧ wr = X) (fun y _ => (2000000 - intOf y).toNat)
  case atStart => exact ⟨0, by omega, rfl, hst, rfl⟩
  case round =>
    obtain ⟨k, hk, rfl, hf, rfl⟩ := hrel
    obtain ⟨wi, rfl⟩ : ∃ wo : World, wo = wr := ⟨_, rfl⟩
    clear hst
    by_cases hkN : k < n
    · have hkL : k < s.os.length := by rw [hn.out]; exact hkN
      obtain ⟨x, hx⟩ : ∃ x, Hid (s.os[k]? = some x) := ⟨_, Lib.hid (List.getElem?_eq_getElem hkL)⟩
      obtain ⟨g, o, rfl, hrg⟩ := hv.at (k := k) (x := x.row) (by rw [List.getElem?_map, hx.out]; rfl)
      have ci : wi.cell? ⟨g, o + k * 19, none⟩ = some (.int .i64 x.id) := hrg 0 _ rfl
      obtain ⟨xi, hxi⟩ : ∃ b, Hid (x.id = b) := ⟨_, rfl⟩
      rw [hxi.out] at ci
      have hki : (k : Int) < n := by omega
      have hpk : Hid ((fun k => ((s.os[k]?).map (·.id)).getD 0 == i) k = (xi == i)) := Lib.hid (by show (((s.os[k]?).map (·.id)).getD 0 == i) = (xi == i); rw [hx.out, ← hxi.out]; rfl)
      clear hrg
      by_cases heq : xi = i
      · have hd : (xi == i) = true := by simpa using heq
        have hres : Hid (r = k) := Lib.hid (by
          have h0 := hf.out
          rw [show n - k = (n - k - 1) + 1 by omega, fst_hit _ _ _ (hpk.out.trans hd)] at h0
          exact h0.symm)
        clear heq hf hpk
        go_wp2_with fail
        go_ret2
        exact ⟨by rw [hres.out, show max (0 : Int) k = k by omega, decide_eq_true (show (0 : Int) ≤ k by omega)]; rfl, hlX⟩
      · have hd : (xi == i) = false := by simpa using heq
        have hf2 : Hid (fst (fun k => ((s.os[k]?).map (·.id)).getD 0 == i) (n - (k + 1)) (k + 1) = r) := Lib.hid (by
          have h0 := hf.out
          rw [show n - k = (n - (k + 1)) + 1 by omega, fst_miss _ _ _ (hpk.out.trans hd)] at h0
          exact h0)
        clear heq hf hpk
        go_wp2_with fail
        go_roundw
        case rel => exact ⟨k + 1, by omega, by go_num, hf2, by first | trivial | rfl⟩
        case measure => simp [intOf]; omega
    · obtain rfl : k = n := by omega
      have hres : Hid (r = -1) := Lib.hid (by
        have h0 := hf.out
        rw [Nat.sub_self] at h0
        exact h0.symm)
      clear hf
      go_wp2_with fail
      go_ret2
      exact ⟨by rw [hres.out]; rfl, hlX⟩

/-! A number into its place. -/
def insL (x : Int) : List Int → List Int
  | [] => [x]
  | y :: r => if x < y then x :: y :: r else y :: insL x r
def hasL (x : Int) (L : List Int) : Bool := L.any (fun y => decide (x < y))
theorem insL_more (x y : Int) : ∀ (L : List Int), hasL x L = true → insL x (L ++ [y]) = insL x L ++ [y]
  | [], h => by simp [hasL] at h
  | z :: r, h => by
    by_cases hz : x < z
    · simp [insL, hz]
    · have : hasL x r = true := by
        unfold hasL at h ⊢
        rw [List.any_cons, decide_eq_false hz, Bool.false_or] at h; exact h
      show (if x < z then x :: z :: (r ++ [y]) else z :: insL x (r ++ [y])) = (if x < z then x :: z :: r else z :: insL x r) ++ [y]
      rw [if_neg hz, if_neg hz, insL_more x y r this]; rfl
theorem insL_none (x : Int) : ∀ (L : List Int), hasL x L = false → insL x L = L ++ [x]
  | [], _ => rfl
  | z :: r, h => by
    unfold hasL at h
    rw [List.any_cons, Bool.or_eq_false_iff] at h
    have hz := of_decide_eq_false h.1
    show (if x < z then _ else z :: insL x r) = _
    rw [if_neg hz, insL_none x r h.2]; rfl
theorem insL_here (x y : Int) (hxy : x < y) : ∀ (L : List Int), hasL x L = false → insL x (L ++ [y]) = L ++ [x, y]
  | [], _ => by simp [insL, hxy]
  | z :: r, h => by
    unfold hasL at h
    rw [List.any_cons, Bool.or_eq_false_iff] at h
    have hz := of_decide_eq_false h.1
    show (if x < z then _ else z :: insL x (r ++ [y])) = _
    rw [if_neg hz, insL_here x y hxy r h.2]; rfl
theorem hasL_snoc (x y : Int) (L : List Int) : hasL x (L ++ [y]) = (hasL x L || decide (x < y)) := by simp [hasL]
theorem insL_perm (x : Int) : ∀ L : List Int, (insL x L).Perm (x :: L)
  | [] => List.Perm.refl _
  | y :: r => by
    show (if x < y then x :: y :: r else y :: insL x r).Perm _
    split
    · exact List.Perm.refl _
    · exact ((insL_perm x r).cons y).trans (List.Perm.swap x y r)
theorem insL_sorted (x : Int) : ∀ {L : List Int}, L.Pairwise (· ≤ ·) → (insL x L).Pairwise (· ≤ ·)
  | [], _ => by simp [insL]
  | y :: r, h => by
    have hy := List.pairwise_cons.1 h
    show (if x < y then x :: y :: r else y :: insL x r).Pairwise _
    split
    case isTrue hxy =>
      refine List.pairwise_cons.2 ⟨fun z hz => ?_, h⟩
      rcases List.mem_cons.1 hz with rfl | hz
      · omega
      · have := hy.1 z hz; omega
    case isFalse hxy =>
      refine List.pairwise_cons.2 ⟨fun z hz => ?_, insL_sorted x hy.2⟩
      rcases List.mem_cons.1 ((insL_perm x r).mem_iff.1 hz) with rfl | hz
      · omega
      · exact hy.1 z hz
/-- The part of the new list behind so many of the old one. -/
def insP (x : Int) (L : List Int) : List Int := if hasL x L then insL x L else L
def foldI (L : List Int) : List Int := L.foldl (fun a x => insL x a) []
theorem foldI_snoc (L : List Int) (x : Int) : foldI (L ++ [x]) = insL x (foldI L) := by simp [foldI]
theorem foldI_perm (L : List Int) : (foldI L).Perm L ∧ (foldI L).Pairwise (· ≤ ·) := by
  suffices h : ∀ (L A B : List Int), A.Perm B → A.Pairwise (· ≤ ·) → (L.foldl (fun a x => insL x a) A).Perm (B ++ L) ∧ (L.foldl (fun a x => insL x a) A).Pairwise (· ≤ ·) from
    (by unfold foldI; simpa using h L [] [] (List.Perm.refl _) List.Pairwise.nil)
  intro L
  induction L with
  | nil => intro A B h1 h2; rw [List.append_nil]; exact ⟨h1, h2⟩
  | cons x r ih =>
    intro A B h1 h2
    have := ih (insL x A) (B ++ [x]) (((insL_perm x A).trans (h1.cons x)).trans (List.perm_append_comm (l₁ := [x]) (l₂ := B))) (insL_sorted x h2)
    rw [List.append_assoc] at this
    exact this
theorem foldI_srt (L : List Int) : foldI L = srt L :=
  List.Perm.eq_of_pairwise (le := (· ≤ ·)) (fun a b _ _ h1 h2 => Int.le_antisymm h1 h2) (foldI_perm L).2 (srt_sorted L) ((foldI_perm L).1.trans (List.mergeSort_perm L _).symm)
theorem insL_length (x : Int) (L : List Int) : (insL x L).length = L.length + 1 := (insL_perm x L).length_eq
theorem foldI_length (L : List Int) : (foldI L).length = L.length := (foldI_perm L).1.length_eq
theorem insP_le (x : Int) (L : List Int) : (insP x L).length ≤ L.length + 1 := by
  unfold insP; split
  · rw [insL_length]; omega
  · omega
theorem insP_done {x y : Int} {L : List Int} (h : hasL x L = true) : insP x (L ++ [y]) = insP x L ++ [y] ∧ hasL x (L ++ [y]) = true := by
  have h2 : hasL x (L ++ [y]) = true := by rw [hasL_snoc, h]; rfl
  refine ⟨?_, h2⟩
  unfold insP
  rw [if_pos h, if_pos h2, insL_more x y L h]
theorem insP_here {x y : Int} {L : List Int} (h : hasL x L = false) (hxy : x < y) : insP x (L ++ [y]) = insP x L ++ [x, y] ∧ hasL x (L ++ [y]) = true := by
  have h2 : hasL x (L ++ [y]) = true := by rw [hasL_snoc, h, decide_eq_true hxy]; rfl
  refine ⟨?_, h2⟩
  unfold insP
  rw [h, if_pos h2, insL_here x y hxy L h]
  rfl
theorem insP_wait {x y : Int} {L : List Int} (h : hasL x L = false) (hxy : ¬ x < y) : insP x (L ++ [y]) = insP x L ++ [y] ∧ hasL x (L ++ [y]) = false := by
  have h2 : hasL x (L ++ [y]) = false := by rw [hasL_snoc, h, decide_eq_false hxy]; rfl
  refine ⟨?_, h2⟩
  unfold insP
  rw [h, h2]
  rfl
theorem getD_take_snoc {L : List Int} {i : Nat} (h : i < L.length) : L.take (i + 1) = L.take i ++ [L.getD i 0] := by
  rw [List.take_add_one, List.getElem?_eq_getElem h, List.getD_eq_getElem?_getD, List.getElem?_eq_getElem h]; rfl
theorem IntsV.at0 {W : World} {ao : Option Addr} {n cap : Nat} {M : List Int} (h : IntsV W (.slice ao n cap) M) {k : Nat} (hk : k < M.length) : ∃ g, ao = some ⟨g, 0, none⟩ ∧ W.cell? ⟨g, k, none⟩ = some (.int .i64 (M.getD k 0)) := by
  obtain ⟨ao', cap', e, hv⟩ := h
  cases e
  exact hv k hk
set_option maxRecDepth 100000 in
set_option maxHeartbeats 4000000 in
theorem rids_any (s : Scn) (W : World) (hs : s.Ok W) (hlen : s.os.length ≤ 20) :
    Calls Try.prog 22 #[s.V] W fun e w' => ∃ v, e = .returned v ∧ IntsF W.heap.size w' v (srt (idL s)) ∧ Later W w' := by
  obtain ⟨i0, hi, hz0, hz1, hz2⟩ := info_parts info_int
  obtain ⟨X, hX⟩ : ∃ X, X = W.alloc (.cells s.row.toArray 28) := ⟨_, rfl⟩
  have hlX : Later W X := by rw [hX]; exact (Later.refl W).alloc _
  have hWX : Hid (W.heap.size + 1 = X.heap.size) := Lib.hid (by rw [hX]; exact (World.size_alloc _ _).symm)
  have kS : ScnB X W.heap.size s := by rw [hX]; exact heap_alloc_new _ _
  obtain ⟨ao, cap, hu⟩ := hs.1.form
  rw [List.length_map] at hu
  obtain ⟨n, hn⟩ : ∃ n, Hid (s.os.length = n) := ⟨_, rfl⟩
  have so := kS.uo
  rw [hu] at so
  rw [hn.out] at so hlen hu
  replace hu := Lib.hid hu
  have hML : 2000 < maxLen := by decide
  go_enter Try.func22, Try.ntmps22
  go_upto_region 1 with fail
  rw [← hX]
  clear hX kS
  go_wp2_with fail
  go_loopw [3, 4] (fun z y wr => ∃ (k : Nat) (v : Value), k ≤ n ∧ y = .int .i64 k ∧ v = z ∧ Later X wr ∧ wr.ownsRow X.heap.size 3 1 v k (encI (foldI ((idL s).take k)))) (fun _ y _ => (300 - intOf y).toNat)
  case atStart => exact ⟨0, _, by omega, rfl, rfl, Later.refl _, World.ownsRow_nil ..⟩
  case round =>
    obtain ⟨k, v, hk, rfl, rfl, hl0, hrow⟩ := hrel
    obtain ⟨wo, rfl⟩ : ∃ wo : World, wo = wr := ⟨_, rfl⟩
    by_cases hkN : k < n
    · have hkL : k < s.os.length := by rw [hn.out]; exact hkN
      obtain ⟨x, hx⟩ : ∃ x, Hid (s.os[k]? = some x) := ⟨_, Lib.hid (List.getElem?_eq_getElem hkL)⟩
      obtain ⟨xi, hxi⟩ : ∃ b, Hid (x.id = b) := ⟨_, rfl⟩
      obtain ⟨O, hO⟩ : ∃ O, Hid (foldI ((idL s).take k) = O) := ⟨_, rfl⟩
      have hOl : O.length = k := by rw [← hO.out, foldI_length, List.length_take]; unfold idL; rw [List.length_map]; omega
      have hO2 : Hid (foldI ((idL s).take (k + 1)) = insL xi O) := Lib.hid (by rw [idL_snoc hx.out, foldI_snoc, hO.out, hxi.out])
      rw [hO.out] at hrow
      have hiv : IntsV wo v O := by
        have := hrow
        rw [← hOl] at this
        exact intsV_of_row this
      obtain ⟨av, cv, rfl⟩ : ∃ ao cap, v = .slice ao k cap := by
        obtain ⟨ao, cap, e, _⟩ := hiv
        exact ⟨ao, cap, by rw [e, hOl]⟩
      have hOk := hs.later (hlX.trans hl0)
      have hrv := hOk.1
      rw [hu.out] at hrv
      obtain ⟨g, o, rfl, hrg⟩ := hrv.at (k := k) (x := x.row) (by rw [List.getElem?_map, hx.out]; rfl)
      have ci0 : wo.cell? ⟨g, o + k * 19, none⟩ = some (.int .i64 xi) := by rw [← hxi.out]; exact hrg 0 _ rfl
      have hki : (k : Int) < n := by omega
      have hn2 : X.heap.size ≤ wo.heap.size := hl0.size
      have so0 := hl0.cell so
      clear hrg hOk hrv hrow
      go_wp2_with fail
      go_loopw [5, 6, 7] (fun z d y wr => ∃ (i : Nat) (u : Value), i ≤ k ∧ y = .int .i64 i ∧ d = .bool (hasL xi (O.take i)) ∧ u = z ∧ Later wo wr ∧ wr.ownsRow wo.heap.size 3 1 u (insP xi (O.take i)).length (encI (insP xi (O.take i)))) (fun _ _ y _ => (300 - intOf y).toNat)
      case atStart => exact ⟨0, _, by omega, rfl, rfl, rfl, Later.refl _, World.ownsRow_nil ..⟩
      case round =>
        obtain ⟨i, u, hik, rfl, rfl, rfl, hl1, hrow⟩ := hrel
        obtain ⟨wi, rfl⟩ : ∃ wo : World, wo = wr := ⟨_, rfl⟩
        obtain ⟨m, hm⟩ : ∃ m, Hid ((insP xi (O.take i)).length = m) := ⟨_, rfl⟩
        have hm21 : m ≤ 21 := by have := insP_le xi (O.take i); rw [List.length_take] at this; have := hm.out; omega
        have hn3 : wo.heap.size ≤ wi.heap.size := hl1.size
        have soi := hl1.cell so0
        have cii := hl1.cell ci0
        rw [hm.out] at hrow
        by_cases hiK : i < k
        · obtain ⟨gv, rfl, cy0⟩ := hiv.at0 (k := i) (by rw [hOl]; exact hiK)
          have cy := hl1.cell cy0
          have cy00 := cy0
          obtain ⟨y, hy⟩ : ∃ y, Hid (O.getD i 0 = y) := ⟨_, rfl⟩
          rw [hy.out] at cy cy00
          have htk : Hid (O.take (i + 1) = O.take i ++ [y]) := Lib.hid (by rw [getD_take_snoc (by rw [hOl]; exact hiK), hy.out])
          have hiki : (i : Int) < k := by omega
          clear cy0
          cases hd : hasL xi (O.take i)
          · replace hd := Lib.hid hd
            by_cases hxy : xi < y
            · obtain ⟨e1, e2⟩ := insP_here hd.out hxy
              have f1 : Hid (insP xi (O.take (i + 1)) = insP xi (O.take i) ++ [xi, y]) := Lib.hid (by rw [htk.out, e1])
              have f2 : Hid (hasL xi (O.take (i + 1)) = true) := Lib.hid (by rw [htk.out, e2])
              clear e1 e2
              go_upto_region 10 with fail
              go_region
              obtain ⟨wd, hwd⟩ : ∃ w, w = wi.drew := ⟨_, rfl⟩
              have hld : Later wi wd := by rw [hwd]; exact (Later.refl wi).drew
              have hrowd : wd.ownsRow wo.heap.size 3 1 u m (encI (insP xi (O.take i))) := by rw [hwd]; exact hrow.drew
              rw [← hwd]
              clear hwd
              replace cy := hld.cell cy
              replace soi := hld.cell soi
              replace cii := hld.cell cii
              have hn4 : wo.heap.size ≤ wd.heap.size := Nat.le_trans hn3 hld.size
              go_upto_region 12 with (at_builtin; refine wpList_append_own _ rfl _ _ 44 rfl wo.heap.size 3 i0 (.int .i64 0) 1 8 Try.underlying44 hi hz0 hz1 hz2 rfl (by decide) u m _ rfl (hrowd.alloc _) ⟨wd.heap.size, 0, none⟩ 1 1 [.int .i64 xi] rfl rfl (World.news_of_block (heap_alloc_new _ _)) (by simp [Value.oneCell']) (by omega) (by omega) (by simp; omega) ?_; intro v2 w2 hr2 hg2 hn9)
              have hlm : Later wo w2 := later_row ((hl1.trans hld).alloc _) (hrowd.alloc _) (Nat.le_refl _) hg2
              have hn5 : wo.heap.size ≤ w2.heap.size := hlm.size
              replace cy := hlm.cell cy00
              go_wp2_with (at_builtin; refine wpList_append_own _ rfl _ _ 44 rfl wo.heap.size 3 i0 (.int .i64 0) 1 8 Try.underlying44 hi hz0 hz1 hz2 rfl (by decide) v2 (m + 1) _ rfl (hr2.alloc _) ⟨w2.heap.size, 0, none⟩ 1 1 [.int .i64 y] rfl rfl (World.news_of_block (heap_alloc_new _ _)) (by simp [Value.oneCell']) (by omega) (by omega) (by simp; omega) ?_; intro v3 w3 hr3 hg3 hn3)
              go_roundw
              case rel =>
                refine ⟨i + 1, _, by omega, by go_num, by rw [f2.out], rfl, ?_, ?_⟩
                · exact later_row (hlm.alloc _) (hr2.alloc _) (Nat.le_refl _) hg3
                · rw [f1.out, List.length_append, hm.out]
                  unfold encI at hr3 ⊢
                  rw [List.map_append]
                  simpa using hr3
              case measure => simp [intOf]; omega
            · obtain ⟨e1, e2⟩ := insP_wait hd.out hxy
              have f1 : Hid (insP xi (O.take (i + 1)) = insP xi (O.take i) ++ [y]) := Lib.hid (by rw [htk.out, e1])
              have f2 : Hid (hasL xi (O.take (i + 1)) = false) := Lib.hid (by rw [htk.out, e2])
              clear e1 e2
              go_upto_region 10 with fail
              go_region
              obtain ⟨wd, hwd⟩ : ∃ w, w = wi.drew := ⟨_, rfl⟩
              have hld : Later wi wd := by rw [hwd]; exact (Later.refl wi).drew
              have hrowd : wd.ownsRow wo.heap.size 3 1 u m (encI (insP xi (O.take i))) := by rw [hwd]; exact hrow.drew
              rw [← hwd]
              clear hwd
              replace cy := hld.cell cy
              replace soi := hld.cell soi
              replace cii := hld.cell cii
              have hn4 : wo.heap.size ≤ wd.heap.size := Nat.le_trans hn3 hld.size
              go_wp2_with (at_builtin; refine wpList_append_own _ rfl _ _ 44 rfl wo.heap.size 3 i0 (.int .i64 0) 1 8 Try.underlying44 hi hz0 hz1 hz2 rfl (by decide) u m _ rfl (hrowd.alloc _) ⟨wd.heap.size, 0, none⟩ 1 1 [.int .i64 y] rfl rfl (World.news_of_block (heap_alloc_new _ _)) (by simp [Value.oneCell']) (by omega) (by omega) (by simp; omega) ?_; intro v2 w2 hr2 hg2 hn2)
              go_roundw
              case rel =>
                refine ⟨i + 1, _, by omega, by go_num, by rw [f2.out], rfl, ?_, ?_⟩
                · exact later_row ((hl1.trans hld).alloc _) (hrowd.alloc _) (Nat.le_refl _) hg2
                · rw [f1.out, List.length_append, hm.out]
                  unfold encI at hr2 ⊢
                  rw [List.map_append]
                  exact hr2
              case measure => simp [intOf]; omega
          · obtain ⟨e1, e2⟩ := insP_done (y := y) hd
            have f1 : Hid (insP xi (O.take (i + 1)) = insP xi (O.take i) ++ [y]) := Lib.hid (by rw [htk.out, e1])
            have f2 : Hid (hasL xi (O.take (i + 1)) = true) := Lib.hid (by rw [htk.out, e2])
            replace hd := Lib.hid hd
            clear e1 e2
            go_upto_region 10 with fail
            go_region
            obtain ⟨wd, hwd⟩ : ∃ w, w = wi.drew := ⟨_, rfl⟩
            have hld : Later wi wd := by rw [hwd]; exact (Later.refl wi).drew
            have hrowd : wd.ownsRow wo.heap.size 3 1 u m (encI (insP xi (O.take i))) := by rw [hwd]; exact hrow.drew
            rw [← hwd]
            clear hwd
            replace cy := hld.cell cy
            replace soi := hld.cell soi
            replace cii := hld.cell cii
            have hn4 : wo.heap.size ≤ wd.heap.size := Nat.le_trans hn3 hld.size
            go_wp2_with (at_builtin; refine wpList_append_own _ rfl _ _ 44 rfl wo.heap.size 3 i0 (.int .i64 0) 1 8 Try.underlying44 hi hz0 hz1 hz2 rfl (by decide) u m _ rfl (hrowd.alloc _) ⟨wd.heap.size, 0, none⟩ 1 1 [.int .i64 y] rfl rfl (World.news_of_block (heap_alloc_new _ _)) (by simp [Value.oneCell']) (by omega) (by omega) (by simp; omega) ?_; intro v2 w2 hr2 hg2 hn2)
            go_roundw
            case rel =>
              refine ⟨i + 1, _, by omega, by go_num, by rw [f2.out], rfl, ?_, ?_⟩
              · exact later_row ((hl1.trans hld).alloc _) (hrowd.alloc _) (Nat.le_refl _) hg2
              · rw [f1.out, List.length_append, hm.out]
                unfold encI at hr2 ⊢
                rw [List.map_append]
                exact hr2
            case measure => simp [intOf]; omega
        · obtain rfl : i = k := by omega
          rw [List.take_of_length_le (by rw [hOl]; omega)] at hrow hm ⊢
          cases hd : hasL xi O
          · have e1 : Hid (insL xi O = insP xi O ++ [xi]) := Lib.hid (by unfold insP; rw [hd, insL_none xi O hd]; rfl)
            replace hd := Lib.hid hd
            go_wp2_with (at_builtin; refine wpList_append_own _ rfl _ _ 44 rfl wo.heap.size 3 i0 (.int .i64 0) 1 8 Try.underlying44 hi hz0 hz1 hz2 rfl (by decide) u m _ rfl (hrow.alloc _) ⟨wi.heap.size, 0, none⟩ 1 1 [.int .i64 xi] rfl rfl (World.news_of_block (heap_alloc_new _ _)) (by simp [Value.oneCell']) (by omega) (by omega) (by simp; omega) ?_; intro v2 w2 hr2 hg2 hn9)
            go_roundw
            case rel =>
              refine ⟨i + 1, _, by omega, by go_num, rfl, ?_, ?_⟩
              · exact hl0.trans (later_row (hl1.alloc _) (hrow.alloc _) (Nat.le_refl _) hg2)
              · have hmk : Hid (m = i) := Lib.hid (by rw [← hm.out]; unfold insP; rw [hd.out]; exact hOl)
                rw [hO2.out, e1.out]
                unfold encI at hr2 ⊢
                rw [List.map_append]
                rw [hmk.out] at hr2
                exact hr2.mono hn2
            case measure => simp [intOf]; omega
          · have e1 : Hid (insL xi O = insP xi O) := Lib.hid (by unfold insP; rw [hd]; rfl)
            have hmk : Hid (m = i + 1) := Lib.hid (by rw [← hm.out, ← e1.out, insL_length, hOl])
            replace hd := Lib.hid hd
            go_wp2_with fail
            go_roundw
            case rel =>
              refine ⟨i + 1, _, by omega, by go_num, rfl, hl0.trans hl1, ?_⟩
              rw [hO2.out, e1.out, ← hmk.out]
              exact hrow.mono hn2
            case measure => simp [intOf]; omega
    · obtain rfl : k = n := by omega
      have so0 := hl0.cell so
      rw [List.take_of_length_le (by unfold idL; rw [List.length_map, hn.out]; omega), foldI_srt] at hrow
      have hlr : (srt (idL s)).length = k := by unfold srt idL; rw [List.length_mergeSort, List.length_map]; exact hn.out
      go_wp2_with fail
      go_ret
      rw [← hlr] at hrow
      exact ⟨_, rfl, intsF_of_row hrow (by have := hWX.out; omega), hlX.trans hl0⟩
end Go.Proofs.Ytackbajbladhhaa
