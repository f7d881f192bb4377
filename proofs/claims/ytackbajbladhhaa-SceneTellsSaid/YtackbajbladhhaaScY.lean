/-
  Chapter 6: the camera times an object's matrix, or the error, whatever is asked; how many vertices and triangles a scene has.
-/
import Derived.Test.YtackbajbladhhaaScL
namespace Go.Proofs.Ytackbajbladhhaa
open Go.RowKit Go.Shelf
set_option linter.unusedVariables false
set_option linter.unusedSimpArgs false
attribute [local go_sem] Oper.semAt_some

theorem zero_lit : rowV 16 (fun _ => 0) = #[.int .i64 0, .int .i64 0, .int .i64 0, .int .i64 0, .int .i64 0, .int .i64 0, .int .i64 0, .int .i64 0, .int .i64 0, .int .i64 0, .int .i64 0, .int .i64 0, .int .i64 0, .int .i64 0, .int .i64 0, .int .i64 0] := rfl
theorem zero_size : (Try.prog.info? 25).map (·.size) = some (#[.int .i64 0, .int .i64 0, .int .i64 0, .int .i64 0, .int .i64 0, .int .i64 0, .int .i64 0, .int .i64 0, .int .i64 0, .int .i64 0, .int .i64 0, .int .i64 0, .int .i64 0, .int .i64 0, .int .i64 0, .int .i64 0] : Array Value).size := by kernel_rfl
theorem zero_one : (#[.int .i64 0, .int .i64 0, .int .i64 0, .int .i64 0, .int .i64 0, .int .i64 0, .int .i64 0, .int .i64 0, .int .i64 0, .int .i64 0, .int .i64 0, .int .i64 0, .int .i64 0, .int .i64 0, .int .i64 0, .int .i64 0] : Array Value).all (·.oneCell') = true := by kernel_rfl
set_option maxRecDepth 100000 in
set_option maxHeartbeats 4000000 in
theorem both_gen (s : Scn) (k : Nat) (x : SObj) (W : World) (hs : s.Ok W) (hx : s.os[k]? = some x) (q : Nat → Int) (ev : Int)
    (hM : ∀ W : World, Calls Try.prog 37 #[matV s.cam, matV x.m] W fun e w' => e = .returned (.tuple #[matV q, .int .i64 ev]) ∧ Later W w') (ans : Value)
    (hA : (ev = 0 ∧ ans = .tuple #[matV q, .int .i64 0]) ∨ (ev ≠ 0 ∧ ans = .tuple #[matV (fun _ => 0), .int .i64 60])) :
    Calls Try.prog 12 #[s.V, .int .i64 k] W fun e w' => e = .returned ans ∧ Later W w' := by
  replace hM := Lib.hid hM
  replace hA := Lib.hid hA
  have hsq := size_mat q
  have hoq := rowV_one 16 q
  have hzq : (#[.int .i64 0, .int .i64 0, .int .i64 0, .int .i64 0, .int .i64 0, .int .i64 0, .int .i64 0, .int .i64 0, .int .i64 0, .int .i64 0, .int .i64 0, .int .i64 0, .int .i64 0, .int .i64 0, .int .i64 0, .int .i64 0] : Array Value).size = (rowV 16 q).size := by rw [rowV_size]; rfl
  have hst1 : ∀ V : World, (storeCells ⟨V.heap.size, 0, none⟩ (rowV 16 q).toList).run Try.prog (V.alloc (.cells #[.int .i64 0, .int .i64 0, .int .i64 0, .int .i64 0, .int .i64 0, .int .i64 0, .int .i64 0, .int .i64 0, .int .i64 0, .int .i64 0, .int .i64 0, .int .i64 0, .int .i64 0, .int .i64 0, .int .i64 0, .int .i64 0] 25)) = .ok () (V.alloc (.cells (rowV 16 q) 25)) := fun V => run_storeCells_new V 25 #[.int .i64 0, .int .i64 0, .int .i64 0, .int .i64 0, .int .i64 0, .int .i64 0, .int .i64 0, .int .i64 0, .int .i64 0, .int .i64 0, .int .i64 0, .int .i64 0, .int .i64 0, .int .i64 0, .int .i64 0, .int .i64 0] (rowV 16 q) hsq hzq hoq
  have hst2 := Lib.hid (fun (V : World) (n : Nat) (h : V.heap[n]? = some (.cells #[.int .i64 0, .int .i64 0, .int .i64 0, .int .i64 0, .int .i64 0, .int .i64 0, .int .i64 0, .int .i64 0, .int .i64 0, .int .i64 0, .int .i64 0, .int .i64 0, .int .i64 0, .int .i64 0, .int .i64 0, .int .i64 0] 25 (0, 0))) => new_store q V n h)
  clear hsq hoq hzq
  obtain ⟨X, hX⟩ : ∃ X, X = (W.alloc (.cells s.row.toArray 28)).alloc (.cells #[.int .i64 0, .int .i64 0, .int .i64 0, .int .i64 0, .int .i64 0, .int .i64 0, .int .i64 0, .int .i64 0, .int .i64 0, .int .i64 0, .int .i64 0, .int .i64 0, .int .i64 0, .int .i64 0, .int .i64 0, .int .i64 0] 25) := ⟨_, rfl⟩
  have hlX : Later W X := by rw [hX]; exact ((Later.refl W).alloc _).alloc _
  have kS : ScnB X W.heap.size s := by rw [hX]; exact push_one (heap_alloc_new _ _) _
  have kR : matB X (W.heap.size + 1) (fun _ => 0) := by rw [hX]; exact push_new _ _ (by simp)
  obtain ⟨ao, cap, hu⟩ := hs.1.form
  rw [List.length_map] at hu
  have so := kS.uo
  rw [hu] at so
  have hv := (hs.later hlX).1
  rw [hu] at hv
  obtain ⟨n, hn⟩ : ∃ n, Hid (s.os.length = n) := ⟨_, rfl⟩
  rw [hn.out] at so hv
  obtain ⟨g, o, rfl, hrg⟩ := hv.at (k := k) (x := x.row) (by rw [List.getElem?_map, hx]; rfl)
  have om : X.rangeAt g (o + k * 19 + 1) (cells16 x.m) := rangeAt_mid (A := [.int .i64 x.id]) (C := [x.uv, x.ut]) hrg
  have sc : X.rangeAt W.heap.size 2 (cells16 s.cam) := kS.cam
  have hkn : k < n := by rw [← hn.out]; exact (List.getElem?_eq_some_iff.1 hx).1
  have hki : (k : Int) < n := by omega
  have hd1 : decide ((k : Int) < 0) = false := decide_eq_false (by omega)
  have hd2 : decide (n ≤ k) = false := decide_eq_false (by omega)
  clear hv hu hrg hs hx kS
  go_enter Try.func12, Try.ntmps12
  go_upto_region 1 with fail
  rw [← hX]
  clear hX
  obtain ⟨N, hN⟩ : ∃ N, Hid (W.heap.size = N) := ⟨_, rfl⟩
  have hNW : W.heap.size ≤ N := Nat.le_of_eq hN.out
  rw [hN.out] at so sc kR ⊢
  clear hN
  have a0 : X.cell? ⟨N, 2, none⟩ = some (.int .i64 (s.cam 0)) := sc 0 _ rfl
  have a1 : X.cell? ⟨N, 3, none⟩ = some (.int .i64 (s.cam 1)) := sc 1 _ rfl
  have a2 : X.cell? ⟨N, 4, none⟩ = some (.int .i64 (s.cam 2)) := sc 2 _ rfl
  have a3 : X.cell? ⟨N, 5, none⟩ = some (.int .i64 (s.cam 3)) := sc 3 _ rfl
  have a4 : X.cell? ⟨N, 6, none⟩ = some (.int .i64 (s.cam 4)) := sc 4 _ rfl
  have a5 : X.cell? ⟨N, 7, none⟩ = some (.int .i64 (s.cam 5)) := sc 5 _ rfl
  have a6 : X.cell? ⟨N, 8, none⟩ = some (.int .i64 (s.cam 6)) := sc 6 _ rfl
  have a7 : X.cell? ⟨N, 9, none⟩ = some (.int .i64 (s.cam 7)) := sc 7 _ rfl
  have a8 : X.cell? ⟨N, 10, none⟩ = some (.int .i64 (s.cam 8)) := sc 8 _ rfl
  have a9 : X.cell? ⟨N, 11, none⟩ = some (.int .i64 (s.cam 9)) := sc 9 _ rfl
  have a10 : X.cell? ⟨N, 12, none⟩ = some (.int .i64 (s.cam 10)) := sc 10 _ rfl
  have a11 : X.cell? ⟨N, 13, none⟩ = some (.int .i64 (s.cam 11)) := sc 11 _ rfl
  have a12 : X.cell? ⟨N, 14, none⟩ = some (.int .i64 (s.cam 12)) := sc 12 _ rfl
  have a13 : X.cell? ⟨N, 15, none⟩ = some (.int .i64 (s.cam 13)) := sc 13 _ rfl
  have a14 : X.cell? ⟨N, 16, none⟩ = some (.int .i64 (s.cam 14)) := sc 14 _ rfl
  have a15 : X.cell? ⟨N, 17, none⟩ = some (.int .i64 (s.cam 15)) := sc 15 _ rfl
  have b0 : X.cell? ⟨g, o + k * 19 + 1, none⟩ = some (.int .i64 (x.m 0)) := om 0 _ rfl
  have b1 : X.cell? ⟨g, o + k * 19 + 2, none⟩ = some (.int .i64 (x.m 1)) := om 1 _ rfl
  have b2 : X.cell? ⟨g, o + k * 19 + 3, none⟩ = some (.int .i64 (x.m 2)) := om 2 _ rfl
  have b3 : X.cell? ⟨g, o + k * 19 + 4, none⟩ = some (.int .i64 (x.m 3)) := om 3 _ rfl
  have b4 : X.cell? ⟨g, o + k * 19 + 5, none⟩ = some (.int .i64 (x.m 4)) := om 4 _ rfl
  have b5 : X.cell? ⟨g, o + k * 19 + 6, none⟩ = some (.int .i64 (x.m 5)) := om 5 _ rfl
  have b6 : X.cell? ⟨g, o + k * 19 + 7, none⟩ = some (.int .i64 (x.m 6)) := om 6 _ rfl
  have b7 : X.cell? ⟨g, o + k * 19 + 8, none⟩ = some (.int .i64 (x.m 7)) := om 7 _ rfl
  have b8 : X.cell? ⟨g, o + k * 19 + 9, none⟩ = some (.int .i64 (x.m 8)) := om 8 _ rfl
  have b9 : X.cell? ⟨g, o + k * 19 + 10, none⟩ = some (.int .i64 (x.m 9)) := om 9 _ rfl
  have b10 : X.cell? ⟨g, o + k * 19 + 11, none⟩ = some (.int .i64 (x.m 10)) := om 10 _ rfl
  have b11 : X.cell? ⟨g, o + k * 19 + 12, none⟩ = some (.int .i64 (x.m 11)) := om 11 _ rfl
  have b12 : X.cell? ⟨g, o + k * 19 + 13, none⟩ = some (.int .i64 (x.m 12)) := om 12 _ rfl
  have b13 : X.cell? ⟨g, o + k * 19 + 14, none⟩ = some (.int .i64 (x.m 13)) := om 13 _ rfl
  have b14 : X.cell? ⟨g, o + k * 19 + 15, none⟩ = some (.int .i64 (x.m 14)) := om 14 _ rfl
  have b15 : X.cell? ⟨g, o + k * 19 + 16, none⟩ = some (.int .i64 (x.m 15)) := om 15 _ rfl
  have hS : Hid (∀ Z, Later X Z → (Later X Z ∧ Z.cell? ⟨N, 18, none⟩ = some (.slice (some ⟨g, o, none⟩) n cap) ∧ Z.cell? ⟨N, 2, none⟩ = some (.int .i64 (s.cam 0)) ∧ Z.cell? ⟨N, 3, none⟩ = some (.int .i64 (s.cam 1)) ∧ Z.cell? ⟨N, 4, none⟩ = some (.int .i64 (s.cam 2)) ∧ Z.cell? ⟨N, 5, none⟩ = some (.int .i64 (s.cam 3)) ∧ Z.cell? ⟨N, 6, none⟩ = some (.int .i64 (s.cam 4)) ∧ Z.cell? ⟨N, 7, none⟩ = some (.int .i64 (s.cam 5)) ∧ Z.cell? ⟨N, 8, none⟩ = some (.int .i64 (s.cam 6)) ∧ Z.cell? ⟨N, 9, none⟩ = some (.int .i64 (s.cam 7)) ∧ Z.cell? ⟨N, 10, none⟩ = some (.int .i64 (s.cam 8)) ∧ Z.cell? ⟨N, 11, none⟩ = some (.int .i64 (s.cam 9)) ∧ Z.cell? ⟨N, 12, none⟩ = some (.int .i64 (s.cam 10)) ∧ Z.cell? ⟨N, 13, none⟩ = some (.int .i64 (s.cam 11)) ∧ Z.cell? ⟨N, 14, none⟩ = some (.int .i64 (s.cam 12)) ∧ Z.cell? ⟨N, 15, none⟩ = some (.int .i64 (s.cam 13)) ∧ Z.cell? ⟨N, 16, none⟩ = some (.int .i64 (s.cam 14)) ∧ Z.cell? ⟨N, 17, none⟩ = some (.int .i64 (s.cam 15)) ∧ Z.cell? ⟨g, o + k * 19 + 1, none⟩ = some (.int .i64 (x.m 0)) ∧ Z.cell? ⟨g, o + k * 19 + 2, none⟩ = some (.int .i64 (x.m 1)) ∧ Z.cell? ⟨g, o + k * 19 + 3, none⟩ = some (.int .i64 (x.m 2)) ∧ Z.cell? ⟨g, o + k * 19 + 4, none⟩ = some (.int .i64 (x.m 3)) ∧ Z.cell? ⟨g, o + k * 19 + 5, none⟩ = some (.int .i64 (x.m 4)) ∧ Z.cell? ⟨g, o + k * 19 + 6, none⟩ = some (.int .i64 (x.m 5)) ∧ Z.cell? ⟨g, o + k * 19 + 7, none⟩ = some (.int .i64 (x.m 6)) ∧ Z.cell? ⟨g, o + k * 19 + 8, none⟩ = some (.int .i64 (x.m 7)) ∧ Z.cell? ⟨g, o + k * 19 + 9, none⟩ = some (.int .i64 (x.m 8)) ∧ Z.cell? ⟨g, o + k * 19 + 10, none⟩ = some (.int .i64 (x.m 9)) ∧ Z.cell? ⟨g, o + k * 19 + 11, none⟩ = some (.int .i64 (x.m 10)) ∧ Z.cell? ⟨g, o + k * 19 + 12, none⟩ = some (.int .i64 (x.m 11)) ∧ Z.cell? ⟨g, o + k * 19 + 13, none⟩ = some (.int .i64 (x.m 12)) ∧ Z.cell? ⟨g, o + k * 19 + 14, none⟩ = some (.int .i64 (x.m 13)) ∧ Z.cell? ⟨g, o + k * 19 + 15, none⟩ = some (.int .i64 (x.m 14)) ∧ Z.cell? ⟨g, o + k * 19 + 16, none⟩ = some (.int .i64 (x.m 15)))) := Lib.hid (fun Z h => ⟨h, h.cell so, h.cell a0, h.cell a1, h.cell a2, h.cell a3, h.cell a4, h.cell a5, h.cell a6, h.cell a7, h.cell a8, h.cell a9, h.cell a10, h.cell a11, h.cell a12, h.cell a13, h.cell a14, h.cell a15, h.cell b0, h.cell b1, h.cell b2, h.cell b3, h.cell b4, h.cell b5, h.cell b6, h.cell b7, h.cell b8, h.cell b9, h.cell b10, h.cell b11, h.cell b12, h.cell b13, h.cell b14, h.cell b15⟩)
  clear a0 a1 a2 a3 a4 a5 a6 a7 a8 a9 a10 a11 a12 a13 a14 a15 b0 b1 b2 b3 b4 b5 b6 b7 b8 b9 b10 b11 b12 b13 b14 b15 sc om
  go_wp2_with fail
  go_cut [6, 7] from 18 to 29 (fun u v wx => NewM X q u wx ∧ v = .int .i64 ev)
  case first =>
    go_region_held3 (fun Z => Later X Z ∧ Z.cell? ⟨N, 18, none⟩ = some (.slice (some ⟨g, o, none⟩) n cap) ∧ Z.cell? ⟨N, 2, none⟩ = some (.int .i64 (s.cam 0)) ∧ Z.cell? ⟨N, 3, none⟩ = some (.int .i64 (s.cam 1)) ∧ Z.cell? ⟨N, 4, none⟩ = some (.int .i64 (s.cam 2)) ∧ Z.cell? ⟨N, 5, none⟩ = some (.int .i64 (s.cam 3)) ∧ Z.cell? ⟨N, 6, none⟩ = some (.int .i64 (s.cam 4)) ∧ Z.cell? ⟨N, 7, none⟩ = some (.int .i64 (s.cam 5)) ∧ Z.cell? ⟨N, 8, none⟩ = some (.int .i64 (s.cam 6)) ∧ Z.cell? ⟨N, 9, none⟩ = some (.int .i64 (s.cam 7)) ∧ Z.cell? ⟨N, 10, none⟩ = some (.int .i64 (s.cam 8)) ∧ Z.cell? ⟨N, 11, none⟩ = some (.int .i64 (s.cam 9)) ∧ Z.cell? ⟨N, 12, none⟩ = some (.int .i64 (s.cam 10)) ∧ Z.cell? ⟨N, 13, none⟩ = some (.int .i64 (s.cam 11)) ∧ Z.cell? ⟨N, 14, none⟩ = some (.int .i64 (s.cam 12)) ∧ Z.cell? ⟨N, 15, none⟩ = some (.int .i64 (s.cam 13)) ∧ Z.cell? ⟨N, 16, none⟩ = some (.int .i64 (s.cam 14)) ∧ Z.cell? ⟨N, 17, none⟩ = some (.int .i64 (s.cam 15)) ∧ Z.cell? ⟨g, o + k * 19 + 1, none⟩ = some (.int .i64 (x.m 0)) ∧ Z.cell? ⟨g, o + k * 19 + 2, none⟩ = some (.int .i64 (x.m 1)) ∧ Z.cell? ⟨g, o + k * 19 + 3, none⟩ = some (.int .i64 (x.m 2)) ∧ Z.cell? ⟨g, o + k * 19 + 4, none⟩ = some (.int .i64 (x.m 3)) ∧ Z.cell? ⟨g, o + k * 19 + 5, none⟩ = some (.int .i64 (x.m 4)) ∧ Z.cell? ⟨g, o + k * 19 + 6, none⟩ = some (.int .i64 (x.m 5)) ∧ Z.cell? ⟨g, o + k * 19 + 7, none⟩ = some (.int .i64 (x.m 6)) ∧ Z.cell? ⟨g, o + k * 19 + 8, none⟩ = some (.int .i64 (x.m 7)) ∧ Z.cell? ⟨g, o + k * 19 + 9, none⟩ = some (.int .i64 (x.m 8)) ∧ Z.cell? ⟨g, o + k * 19 + 10, none⟩ = some (.int .i64 (x.m 9)) ∧ Z.cell? ⟨g, o + k * 19 + 11, none⟩ = some (.int .i64 (x.m 10)) ∧ Z.cell? ⟨g, o + k * 19 + 12, none⟩ = some (.int .i64 (x.m 11)) ∧ Z.cell? ⟨g, o + k * 19 + 13, none⟩ = some (.int .i64 (x.m 12)) ∧ Z.cell? ⟨g, o + k * 19 + 14, none⟩ = some (.int .i64 (x.m 13)) ∧ Z.cell? ⟨g, o + k * 19 + 15, none⟩ = some (.int .i64 (x.m 14)) ∧ Z.cell? ⟨g, o + k * 19 + 16, none⟩ = some (.int .i64 (x.m 15))) ((go_split_ands; first | exact hS.out _ (Later.refl X).drew | exact hS.out _ (Later.alloc (by assumption) _) | exact hS.out _ (Later.trans (by assumption) hL) | exact hS.out _ (Later.alloc hL1 _) | exact hS.out _ (Later.setRow hL1 (Nat.le_refl _) _))) (first | (go_at_call 37; refine (hM.out _).mono ?_; rintro e V1 ⟨rfl, hL⟩; have hL1 : Later X V1 := (Later.refl X).drew.trans hL) | (go_at_call 37; refine (hM.out _).mono ?_; rintro e V1 ⟨rfl, hL⟩; have hL1 : Later X V1 := ((Later.refl X).alloc _).drew.trans hL; have kN1 := hL.row (heap_alloc_new X _); have hst3 := hst2.out V1 X.heap.size kN1))
    · rename_i JJ KK hj hk hh _; refine hk _ _ (Met.intro (hj _ _ ?_)); (repeat apply Exists.intro)
      exact ⟨⟨⟨_, rfl, hL1.alloc _, hL1.size, heap_alloc_new _ _⟩, rfl⟩, rfl⟩
    · rename_i JJ KK hj hk hh _; refine hk _ _ (Met.intro (hj _ _ ?_)); (repeat apply Exists.intro)
      exact ⟨⟨⟨_, rfl, Later.setRow hL1 (Nat.le_refl _) _, Nat.le_refl _, setRow_heap _ _ _ _ _ _ kN1⟩, rfl⟩, rfl⟩
  case rest =>
    obtain ⟨⟨Q, rfl, hlQ, hQ, kQ⟩, rfl⟩ := hcut
    have kR1 := Row.later kR hlQ
    rcases hA.out with ⟨rfl, rfl⟩ | ⟨h0, rfl⟩
    · go_wp2_with (first | refine wpList_load_row rfl _ _ rfl Q rfl _ _ (0, 0) _ kQ Try.underlying25 rfl (size_mat q) ?_ | refine wpList_store_row rfl 25 _ _ rfl (N + 1) (rowV 16 q) rfl rfl 25 (rowV 16 (fun _ => 0)) kR1 (size_mat _) (by rw [rowV_size, rowV_size]) (rowV_one 16 _) ?_)
      have kZ : matB _ (N + 1) q := setRow_heap _ _ _ (rowV 16 q) _ _ kR1
      have hload := load_mat kZ
      exact bodyPost_ret (v := .tuple #[matV q, .int .i64 0]) (results_cell2 (a := 4) (b := 5) (t := 25) (by kernel_rfl) _ rfl hload) rfl ⟨rfl, (hlX.trans hlQ).setRow (by omega) _⟩
    · have hne : (ev != 0) = true := by simpa using h0
      replace h0 := Lib.hid h0
      go_wp2_with (refine wpList_store_row rfl 25 _ _ rfl (N + 1) #[.int .i64 0, .int .i64 0, .int .i64 0, .int .i64 0, .int .i64 0, .int .i64 0, .int .i64 0, .int .i64 0, .int .i64 0, .int .i64 0, .int .i64 0, .int .i64 0, .int .i64 0, .int .i64 0, .int .i64 0, .int .i64 0] rfl rfl 25 (rowV 16 (fun _ => 0)) kR1 zero_size (by rw [rowV_size]; rfl) zero_one ?_)
      rw [← zero_lit]
      have kZ : matB _ (N + 1) (fun _ => 0) := setRow_heap _ _ _ (rowV 16 (fun _ => 0)) _ _ kR1
      have hload := load_mat kZ
      exact bodyPost_ret (v := .tuple #[matV (fun _ => 0), .int .i64 60]) (results_cell2 (a := 4) (b := 5) (t := 25) (by kernel_rfl) _ rfl hload) rfl ⟨rfl, (hlX.trans hlQ).setRow (by omega) _⟩
set_option maxRecDepth 100000 in
set_option maxHeartbeats 2000000 in
theorem both_out (s : Scn) (k : Int) (W : World) (hs : s.Ok W) (hk : k < 0 ∨ (s.os.length : Int) ≤ k) :
    Calls Try.prog 12 #[s.V, .int .i64 k] W fun e w' => e = .returned (.tuple #[matV (fun _ => 0), .int .i64 60]) ∧ Later W w' := by
  obtain ⟨X, hX⟩ : ∃ X, X = (W.alloc (.cells s.row.toArray 28)).alloc (.cells #[.int .i64 0, .int .i64 0, .int .i64 0, .int .i64 0, .int .i64 0, .int .i64 0, .int .i64 0, .int .i64 0, .int .i64 0, .int .i64 0, .int .i64 0, .int .i64 0, .int .i64 0, .int .i64 0, .int .i64 0, .int .i64 0] 25) := ⟨_, rfl⟩
  have hlX : Later W X := by rw [hX]; exact ((Later.refl W).alloc _).alloc _
  have kS : ScnB X W.heap.size s := by rw [hX]; exact push_one (heap_alloc_new _ _) _
  have kR : matB X (W.heap.size + 1) (fun _ => 0) := by rw [hX]; exact push_new _ _ (by simp)
  obtain ⟨ao, cap, hu⟩ := hs.1.form
  rw [List.length_map] at hu
  have so := kS.uo
  rw [hu] at so
  have hv := (hs.later hlX).1
  rw [hu] at hv
  obtain ⟨n, hn⟩ : ∃ n, Hid (s.os.length = n) := ⟨_, rfl⟩
  rw [hn.out] at so hv
  rw [hn.out] at hk
  go_enter Try.func12, Try.ntmps12
  go_upto_region 1 with fail
  rw [← hX]
  clear hX
  obtain ⟨N, hN⟩ : ∃ N, Hid (W.heap.size = N) := ⟨_, rfl⟩
  have hNW : W.heap.size ≤ N := Nat.le_of_eq hN.out
  rw [hN.out] at so kR ⊢
  clear hN kS hv hu hs
  have fin : ∀ Z : World, Z = X.setRow (N + 1) (rowV 16 (fun _ => 0)) → (loadVar 25 ⟨N + 1, 0, none⟩).run Try.prog Z = .ok (matV (fun _ => 0)) Z ∧ Later W Z := fun Z hZ => by
    have kZ : matB Z (N + 1) (fun _ => 0) := by rw [hZ]; exact setRow_heap _ _ _ (rowV 16 (fun _ => 0)) _ _ kR
    exact ⟨load_mat kZ, by rw [hZ]; exact hlX.setRow (by omega) _⟩
  replace fin := Lib.hid fin
  rcases Classical.em (k < 0) with h1 | h1
  · clear hk
    go_wp2_with (refine wpList_store_row rfl 25 _ _ rfl (N + 1) #[.int .i64 0, .int .i64 0, .int .i64 0, .int .i64 0, .int .i64 0, .int .i64 0, .int .i64 0, .int .i64 0, .int .i64 0, .int .i64 0, .int .i64 0, .int .i64 0, .int .i64 0, .int .i64 0, .int .i64 0, .int .i64 0] rfl rfl 25 (rowV 16 (fun _ => 0)) kR zero_size (by rw [rowV_size]; rfl) zero_one ?_)
    rw [← zero_lit]
    exact bodyPost_ret (v := .tuple #[matV (fun _ => 0), .int .i64 60]) (results_cell2 (a := 4) (b := 5) (t := 25) (by kernel_rfl) _ rfl (fin.out _ rfl).1) rfl ⟨rfl, (fin.out _ rfl).2⟩
  · have h2 : (n : Int) ≤ k := by omega
    clear hk
    go_wp2_with (refine wpList_store_row rfl 25 _ _ rfl (N + 1) #[.int .i64 0, .int .i64 0, .int .i64 0, .int .i64 0, .int .i64 0, .int .i64 0, .int .i64 0, .int .i64 0, .int .i64 0, .int .i64 0, .int .i64 0, .int .i64 0, .int .i64 0, .int .i64 0, .int .i64 0, .int .i64 0] rfl rfl 25 (rowV 16 (fun _ => 0)) kR zero_size (by rw [rowV_size]; rfl) zero_one ?_)
    rw [← zero_lit]
    exact bodyPost_ret (v := .tuple #[matV (fun _ => 0), .int .i64 60]) (results_cell2 (a := 4) (b := 5) (t := 25) (by kernel_rfl) _ rfl (fin.out _ rfl).1) rfl ⟨rfl, (fin.out _ rfl).2⟩
/-- How many vertices, and triangles, the first k objects have. -/
def cntV (L : List SObj) : Nat := (L.map fun x => x.vs.length).sum
def cntT (L : List SObj) : Nat := (L.map fun x => x.ts.length).sum
theorem cntV_snoc (L : List SObj) (x : SObj) : cntV (L ++ [x]) = cntV L + x.vs.length := by simp [cntV]
theorem cntT_snoc (L : List SObj) (x : SObj) : cntT (L ++ [x]) = cntT L + x.ts.length := by simp [cntT]
theorem take_snoc {α : Type} {L : List α} {k : Nat} {x : α} (h : L[k]? = some x) : L.take (k + 1) = L.take k ++ [x] := by
  rw [List.take_add_one, h]; rfl
theorem cntV_take {L : List SObj} {k : Nat} {x : SObj} (h : L[k]? = some x) : cntV (L.take (k + 1)) = cntV (L.take k) + x.vs.length := by rw [take_snoc h, cntV_snoc]
theorem cntT_take {L : List SObj} {k : Nat} {x : SObj} (h : L[k]? = some x) : cntT (L.take (k + 1)) = cntT (L.take k) + x.ts.length := by rw [take_snoc h, cntT_snoc]
def FewS (s : Scn) : Prop := s.os.length ≤ 20 ∧ ∀ x ∈ s.os, x.vs.length ≤ 80 ∧ x.ts.length ≤ 80
theorem few_le {s : Scn} (h : FewS s) : ∀ k, cntV (s.os.take k) ≤ 80 * k ∧ cntT (s.os.take k) ≤ 80 * k
  | 0 => by simp [cntV, cntT]
  | k + 1 => by
    have ih := few_le h k
    cases hx : s.os[k]? with
    | none =>
      have : s.os.take (k + 1) = s.os.take k := by rw [List.take_add_one, hx]; simp
      rw [this]; omega
    | some x =>
      have := h.2 x (List.mem_of_getElem? hx)
      rw [cntV_take hx, cntT_take hx]; omega
set_option maxRecDepth 100000 in
set_option maxHeartbeats 2000000 in
theorem count_any (s : Scn) (W : World) (hs : s.Ok W) (hf : FewS s) :
    Calls Try.prog 18 #[s.V] W fun e w' => e = .returned (.tuple #[.int .i64 (cntV s.os), .int .i64 (cntT s.os)]) ∧ Later W w' := by
  obtain ⟨X, hX⟩ : ∃ X, X = W.alloc (.cells s.row.toArray 28) := ⟨_, rfl⟩
  have hlX : Later W X := by rw [hX]; exact (Later.refl W).alloc _
  have kS : ScnB X W.heap.size s := by rw [hX]; exact heap_alloc_new _ _
  obtain ⟨ao, cap, hu⟩ := hs.1.form
  rw [List.length_map] at hu
  have so := kS.uo
  rw [hu] at so
  have hOk := hs.later hlX
  have hv := hOk.1
  rw [hu] at hv
  obtain ⟨n, hn⟩ : ∃ n, Hid (s.os.length = n) := ⟨_, rfl⟩
  have hn20 : n ≤ 20 := by rw [← hn.out]; exact hf.1
  rw [hn.out] at so hv
  obtain ⟨a, ha⟩ : ∃ a, Hid (cntV s.os = a) := ⟨_, rfl⟩
  obtain ⟨b, hb⟩ : ∃ b, Hid (cntT s.os = b) := ⟨_, rfl⟩
  rw [ha.out, hb.out]
  have hle := Lib.hid (few_le hf)
  replace hOk := Lib.hid hOk
  have hz2 : (#[.int .i64 0, .int .i64 0, .int .i64 0, .int .i64 0, .int .i64 0, .int .i64 0, .int .i64 0, .int .i64 0, .int .i64 0, .int .i64 0, .int .i64 0, .int .i64 0, .int .i64 0, .int .i64 0, .int .i64 0, .int .i64 0, .int .i64 0, .slice none 0 0, .slice none 0 0] : Array Value).size = 19 := rfl
  clear hs hu kS hf
  go_enter Try.func18, Try.ntmps18
  go_upto_region 1 with fail
  rw [← hX]
  clear hX
  go_wp2_with fail
  go_loopw [9, 2, 3] (fun y u v wr => ∃ k : Nat, k ≤ n ∧ y = .int .i64 k ∧ u = .int .i64 (cntV (s.os.take k)) ∧ v = .int .i64 (cntT (s.os.take k)) ∧ Later X wr) (fun y _ _ _ => (300 - intOf y).toNat)
  case atStart => exact ⟨0, by omega, rfl, rfl, rfl, Later.refl _⟩
  case round =>
    obtain ⟨k, hk, rfl, rfl, rfl, hl⟩ := hrel
    obtain ⟨wi, rfl⟩ : ∃ wo : World, wo = wr := ⟨_, rfl⟩
    have hlk := hle.out k
    obtain ⟨c, hc⟩ : ∃ c, Hid (cntV (s.os.take k) = c) := ⟨_, rfl⟩
    obtain ⟨d, hd⟩ : ∃ c, Hid (cntT (s.os.take k) = c) := ⟨_, rfl⟩
    rw [hc.out, hd.out] at hlk
    rw [hc.out, hd.out]
    by_cases hkN : k < n
    · have hkL : k < s.os.length := by rw [hn.out]; exact hkN
      obtain ⟨x, hx⟩ : ∃ x, Hid (s.os[k]? = some x) := ⟨_, Lib.hid (List.getElem?_eq_getElem hkL)⟩
      obtain ⟨g, o, rfl, hrg0⟩ := hv.at (k := k) (x := x.row) (by rw [List.getElem?_map, hx.out]; rfl)
      have hrg := rangeAt_later hrg0 hl
      have hxs := size_obj x
      have hxo := hOk.out.2 x (List.mem_of_getElem? hx.out)
      obtain ⟨av, cv, hxv⟩ := hxo.1.form
      obtain ⟨at', ct, hxt⟩ := hxo.2.form
      rw [List.length_map] at hxv hxt
      have hc2 : Hid (cntV (s.os.take (k + 1)) = c + x.vs.length) := Lib.hid (by rw [cntV_take hx.out, hc.out])
      have hd2 : Hid (cntT (s.os.take (k + 1)) = d + x.ts.length) := Lib.hid (by rw [cntT_take hx.out, hd.out])
      have hlk2 := hle.out (k + 1)
      rw [hc2.out, hd2.out] at hlk2
      obtain ⟨nv, hnv⟩ : ∃ n, Hid (x.vs.length = n) := ⟨_, rfl⟩
      obtain ⟨nt, hnt⟩ : ∃ n, Hid (x.ts.length = n) := ⟨_, rfl⟩
      rw [hnv.out] at hxv hc2 hlk2
      rw [hnt.out] at hxt hd2 hlk2
      obtain ⟨X1, hX1⟩ : ∃ Y, Y = wi.alloc (.cells x.row.toArray 37) := ⟨_, rfl⟩
      have hl1 : Later wi X1 := by rw [hX1]; exact (Later.refl wi).alloc _
      have kX : ObjB X1 wi.heap.size x := by rw [hX1]; exact heap_alloc_new _ _
      have ou := kX.uv
      have ot := kX.ut
      rw [hxv] at ou
      rw [hxt] at ot
      have hnew := heap_alloc_new wi (.cells #[.int .i64 0, .int .i64 0, .int .i64 0, .int .i64 0, .int .i64 0, .int .i64 0, .int .i64 0, .int .i64 0, .int .i64 0, .int .i64 0, .int .i64 0, .int .i64 0, .int .i64 0, .int .i64 0, .int .i64 0, .int .i64 0, .int .i64 0, .slice none 0 0, .slice none 0 0] 37)
      have hz2' : (#[.int .i64 0, .int .i64 0, .int .i64 0, .int .i64 0, .int .i64 0, .int .i64 0, .int .i64 0, .int .i64 0, .int .i64 0, .int .i64 0, .int .i64 0, .int .i64 0, .int .i64 0, .int .i64 0, .int .i64 0, .int .i64 0, .int .i64 0, .slice none 0 0, .slice none 0 0] : Array Value).size = x.row.toArray.size := by show (19 : Nat) = _; rw [List.size_toArray, SObj.row_length]
      have hz1' : x.row.toArray.all (·.oneCell') = true := all_oneCell_toArray (SObj.row_one hxo)
      have hxs2 : (Try.prog.info? 37).map (·.size) = some x.row.toArray.size := by rw [List.size_toArray]; exact hxs
      have hki : (k : Int) < n := by omega
      have soi := hl.cell so
      clear hxv hxt hxo hz2 hrg0 kX hlk
      go_upto_region 4 with (first | refine wpList_load_mid rfl _ _ rfl g (o + k * 19) rfl x.row _ hrg Try.underlying37 rfl hxs ?_ | refine wpList_store_row rfl 37 _ _ rfl wi.heap.size x.row.toArray rfl rfl 37 #[.int .i64 0, .int .i64 0, .int .i64 0, .int .i64 0, .int .i64 0, .int .i64 0, .int .i64 0, .int .i64 0, .int .i64 0, .int .i64 0, .int .i64 0, .int .i64 0, .int .i64 0, .int .i64 0, .int .i64 0, .int .i64 0, .int .i64 0, .slice none 0 0, .slice none 0 0] hnew hxs2 hz2' hz1' ?_)
      rw [World.setRow_alloc_new, ← hX1]
      clear hX1 hnew hz2' hz1' hxs hxs2 hrg
      go_wp2_with fail
      go_roundw
      case rel => exact ⟨k + 1, by omega, by go_num, by rw [hc2.out]; go_num, by rw [hd2.out]; go_num, hl.trans hl1⟩
      case measure => simp [intOf]; omega
    · obtain rfl : k = n := by omega
      have e1 : Hid (c = a) := Lib.hid (by rw [← hc.out, ← ha.out, List.take_of_length_le (by rw [hn.out]; omega)])
      have e2 : Hid (d = b) := Lib.hid (by rw [← hd.out, ← hb.out, List.take_of_length_le (by rw [hn.out]; omega)])
      go_wp2_with fail
      go_ret2
      exact ⟨by rw [e1.out, e2.out]; rfl, hlX.trans hl⟩
end Go.Proofs.Ytackbajbladhhaa
