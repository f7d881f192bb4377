/-
  Chapter 6: the camera times an object's matrix.
-/
import Derived.Deep.RegionWith
import Derived.Test.YtackbajbladhhaaScK
namespace Go.Proofs.Ytackbajbladhhaa
open Go.RowKit Go.Shelf
set_option linter.unusedVariables false
set_option linter.unusedSimpArgs false
attribute [local go_sem] Oper.semAt_some

abbrev cells16 (f : Nat → Int) : List Value := (List.range 16).map fun k => Value.int .i64 (f k)
theorem cells16_length (f : Nat → Int) : (cells16 f).length = 16 := by simp
theorem cells16_one (f : Nat → Int) : ∀ v ∈ cells16 f, v.oneCell' = true := by
  intro v hv
  obtain ⟨k, _, rfl⟩ := List.mem_map.1 hv
  rfl
/-- A matrix in a new block. -/
def NewM (X : World) (f : Nat → Int) (u : Value) (wx : World) : Prop := ∃ Q, u = .pointer (some ⟨Q, 0, none⟩) ∧ Later X wx ∧ X.heap.size ≤ Q ∧ matB wx Q f
theorem new_store (q : Nat → Int) (V : World) (n : Nat) (h : V.heap[n]? = some (.cells #[.int .i64 0, .int .i64 0, .int .i64 0, .int .i64 0, .int .i64 0, .int .i64 0, .int .i64 0, .int .i64 0, .int .i64 0, .int .i64 0, .int .i64 0, .int .i64 0, .int .i64 0, .int .i64 0, .int .i64 0, .int .i64 0] 25 (0, 0))) :
    (storeCells ⟨n, 0, none⟩ (rowV 16 q).toList).run Try.prog V = .ok () (V.setRow n (rowV 16 q)) := by
  have := run_storeCells_from (P := Try.prog) n 25 (rowV 16 q).toList 0 _ V h (by rw [Nat.zero_add, Array.length_toList, rowV_size]; rfl) (fun v hv => (Array.all_eq_true_iff_forall_mem.1 (rowV_one 16 q)) v (by simpa using hv))
  simpa using this
set_option maxRecDepth 100000 in
set_option maxHeartbeats 4000000 in
theorem both_yes (s : Scn) (k : Nat) (x : SObj) (W : World) (hs : s.Ok W) (hx : s.os[k]? = some x) (hm : mulMay s.cam x.m) :
    Calls Try.prog 12 #[s.V, .int .i64 k] W fun e w' => e = .returned (.tuple #[matV (mulQ s.cam x.m), .int .i64 0]) ∧ Later W w' := by
  have hM := Lib.hid (fun W => mul_yes s.cam x.m W hm)
  obtain ⟨q, hq⟩ : ∃ q, Hid (mulQ s.cam x.m = q) := ⟨_, rfl⟩
  rw [hq.out] at hM ⊢
  have hsq := size_mat q
  have hoq := rowV_one 16 q
  have hzq : (#[.int .i64 0, .int .i64 0, .int .i64 0, .int .i64 0, .int .i64 0, .int .i64 0, .int .i64 0, .int .i64 0, .int .i64 0, .int .i64 0, .int .i64 0, .int .i64 0, .int .i64 0, .int .i64 0, .int .i64 0, .int .i64 0] : Array Value).size = (rowV 16 q).size := by rw [rowV_size]; rfl
  have hst1 : ∀ V : World, (storeCells ⟨V.heap.size, 0, none⟩ (rowV 16 q).toList).run Try.prog (V.alloc (.cells #[.int .i64 0, .int .i64 0, .int .i64 0, .int .i64 0, .int .i64 0, .int .i64 0, .int .i64 0, .int .i64 0, .int .i64 0, .int .i64 0, .int .i64 0, .int .i64 0, .int .i64 0, .int .i64 0, .int .i64 0, .int .i64 0] 25)) = .ok () (V.alloc (.cells (rowV 16 q) 25)) := fun V => run_storeCells_new V 25 #[.int .i64 0, .int .i64 0, .int .i64 0, .int .i64 0, .int .i64 0, .int .i64 0, .int .i64 0, .int .i64 0, .int .i64 0, .int .i64 0, .int .i64 0, .int .i64 0, .int .i64 0, .int .i64 0, .int .i64 0, .int .i64 0] (rowV 16 q) hsq hzq hoq
  have hst2 := Lib.hid (fun (V : World) (n : Nat) (h : V.heap[n]? = some (.cells #[.int .i64 0, .int .i64 0, .int .i64 0, .int .i64 0, .int .i64 0, .int .i64 0, .int .i64 0, .int .i64 0, .int .i64 0, .int .i64 0, .int .i64 0, .int .i64 0, .int .i64 0, .int .i64 0, .int .i64 0, .int .i64 0] 25 (0, 0))) => new_store q V n h)
  clear hsq hoq hzq
  obtain ⟨X, hX⟩ : ∃ X, X = (W.alloc (.cells s.row.toArray 28)).alloc (.cells #[.int .i64 0, .int .i64 0, .int .i64 0, .int .i64 0, .int .i64 0, .int .i64 0, .int .i64 0, .int .i64 0, .int .i64 0, .int .i64 0, .int .i64 0, .int .i64 0, .int .i64 0, .int .i64 0, .int .i64 0, .int .i64 0] 25) := ⟨_, rfl⟩
  have hlX : Later W X := by rw [hX]; exact ((Later.refl W).alloc _).alloc _
  have kS : ScnB X W.heap.size s := by rw [hX]; exact push_one (heap_alloc_new _ _) _
  have kR : matB X (W.heap.size + 1) (fun _ => 0) := by rw [hX]; exact push_new _ _ (by simp)
  obtain ⟨ao, cap, hu⟩ := hs.1.form
  rw [List.length_map] at hu
  have so := kS.uo
  rw [hu] at so
  have hv := (hs.later hlX).1
  rw [hu] at hv
  obtain ⟨n, hn⟩ : ∃ n, Hid (s.os.length = n) := ⟨_, rfl⟩
  rw [hn.out] at so hv
  obtain ⟨g, o, rfl, hrg⟩ := hv.at (k := k) (x := x.row) (by rw [List.getElem?_map, hx]; rfl)
  have om : X.rangeAt g (o + k * 19 + 1) (cells16 x.m) := rangeAt_mid (A := [.int .i64 x.id]) (C := [x.uv, x.ut]) hrg
  have sc : X.rangeAt W.heap.size 2 (cells16 s.cam) := kS.cam
  have hkn : k < n := by rw [← hn.out]; exact (List.getElem?_eq_some_iff.1 hx).1
  have hki : (k : Int) < n := by omega
  have hd1 : decide ((k : Int) < 0) = false := decide_eq_false (by omega)
  have hd2 : decide (n ≤ k) = false := decide_eq_false (by omega)
  clear hv hu hrg hs hx hm kS
  go_enter Try.func12, Try.ntmps12
  go_upto_region 1 with fail
  rw [← hX]
  clear hX
  obtain ⟨N, hN⟩ : ∃ N, Hid (W.heap.size = N) := ⟨_, rfl⟩
  have hNW : W.heap.size ≤ N := Nat.le_of_eq hN.out
  rw [hN.out] at so sc kR ⊢
  clear hN
  have a0 : X.cell? ⟨N, 2, none⟩ = some (.int .i64 (s.cam 0)) := sc 0 _ rfl
  have a1 : X.cell? ⟨N, 3, none⟩ = some (.int .i64 (s.cam 1)) := sc 1 _ rfl
  have a2 : X.cell? ⟨N, 4, none⟩ = some (.int .i64 (s.cam 2)) := sc 2 _ rfl
  have a3 : X.cell? ⟨N, 5, none⟩ = some (.int .i64 (s.cam 3)) := sc 3 _ rfl
  have a4 : X.cell? ⟨N, 6, none⟩ = some (.int .i64 (s.cam 4)) := sc 4 _ rfl
  have a5 : X.cell? ⟨N, 7, none⟩ = some (.int .i64 (s.cam 5)) := sc 5 _ rfl
  have a6 : X.cell? ⟨N, 8, none⟩ = some (.int .i64 (s.cam 6)) := sc 6 _ rfl
  have a7 : X.cell? ⟨N, 9, none⟩ = some (.int .i64 (s.cam 7)) := sc 7 _ rfl
  have a8 : X.cell? ⟨N, 10, none⟩ = some (.int .i64 (s.cam 8)) := sc 8 _ rfl
  have a9 : X.cell? ⟨N, 11, none⟩ = some (.int .i64 (s.cam 9)) := sc 9 _ rfl
  have a10 : X.cell? ⟨N, 12, none⟩ = some (.int .i64 (s.cam 10)) := sc 10 _ rfl
  have a11 : X.cell? ⟨N, 13, none⟩ = some (.int .i64 (s.cam 11)) := sc 11 _ rfl
  have a12 : X.cell? ⟨N, 14, none⟩ = some (.int .i64 (s.cam 12)) := sc 12 _ rfl
  have a13 : X.cell? ⟨N, 15, none⟩ = some (.int .i64 (s.cam 13)) := sc 13 _ rfl
  have a14 : X.cell? ⟨N, 16, none⟩ = some (.int .i64 (s.cam 14)) := sc 14 _ rfl
  have a15 : X.cell? ⟨N, 17, none⟩ = some (.int .i64 (s.cam 15)) := sc 15 _ rfl
  have b0 : X.cell? ⟨g, o + k * 19 + 1, none⟩ = some (.int .i64 (x.m 0)) := om 0 _ rfl
  have b1 : X.cell? ⟨g, o + k * 19 + 2, none⟩ = some (.int .i64 (x.m 1)) := om 1 _ rfl
  have b2 : X.cell? ⟨g, o + k * 19 + 3, none⟩ = some (.int .i64 (x.m 2)) := om 2 _ rfl
  have b3 : X.cell? ⟨g, o + k * 19 + 4, none⟩ = some (.int .i64 (x.m 3)) := om 3 _ rfl
  have b4 : X.cell? ⟨g, o + k * 19 + 5, none⟩ = some (.int .i64 (x.m 4)) := om 4 _ rfl
  have b5 : X.cell? ⟨g, o + k * 19 + 6, none⟩ = some (.int .i64 (x.m 5)) := om 5 _ rfl
  have b6 : X.cell? ⟨g, o + k * 19 + 7, none⟩ = some (.int .i64 (x.m 6)) := om 6 _ rfl
  have b7 : X.cell? ⟨g, o + k * 19 + 8, none⟩ = some (.int .i64 (x.m 7)) := om 7 _ rfl
  have b8 : X.cell? ⟨g, o + k * 19 + 9, none⟩ = some (.int .i64 (x.m 8)) := om 8 _ rfl
  have b9 : X.cell? ⟨g, o + k * 19 + 10, none⟩ = some (.int .i64 (x.m 9)) := om 9 _ rfl
  have b10 : X.cell? ⟨g, o + k * 19 + 11, none⟩ = some (.int .i64 (x.m 10)) := om 10 _ rfl
  have b11 : X.cell? ⟨g, o + k * 19 + 12, none⟩ = some (.int .i64 (x.m 11)) := om 11 _ rfl
  have b12 : X.cell? ⟨g, o + k * 19 + 13, none⟩ = some (.int .i64 (x.m 12)) := om 12 _ rfl
  have b13 : X.cell? ⟨g, o + k * 19 + 14, none⟩ = some (.int .i64 (x.m 13)) := om 13 _ rfl
  have b14 : X.cell? ⟨g, o + k * 19 + 15, none⟩ = some (.int .i64 (x.m 14)) := om 14 _ rfl
  have b15 : X.cell? ⟨g, o + k * 19 + 16, none⟩ = some (.int .i64 (x.m 15)) := om 15 _ rfl
  have hS : Hid (∀ Z, Later X Z → (Later X Z ∧ Z.cell? ⟨N, 18, none⟩ = some (.slice (some ⟨g, o, none⟩) n cap) ∧ Z.cell? ⟨N, 2, none⟩ = some (.int .i64 (s.cam 0)) ∧ Z.cell? ⟨N, 3, none⟩ = some (.int .i64 (s.cam 1)) ∧ Z.cell? ⟨N, 4, none⟩ = some (.int .i64 (s.cam 2)) ∧ Z.cell? ⟨N, 5, none⟩ = some (.int .i64 (s.cam 3)) ∧ Z.cell? ⟨N, 6, none⟩ = some (.int .i64 (s.cam 4)) ∧ Z.cell? ⟨N, 7, none⟩ = some (.int .i64 (s.cam 5)) ∧ Z.cell? ⟨N, 8, none⟩ = some (.int .i64 (s.cam 6)) ∧ Z.cell? ⟨N, 9, none⟩ = some (.int .i64 (s.cam 7)) ∧ Z.cell? ⟨N, 10, none⟩ = some (.int .i64 (s.cam 8)) ∧ Z.cell? ⟨N, 11, none⟩ = some (.int .i64 (s.cam 9)) ∧ Z.cell? ⟨N, 12, none⟩ = some (.int .i64 (s.cam 10)) ∧ Z.cell? ⟨N, 13, none⟩ = some (.int .i64 (s.cam 11)) ∧ Z.cell? ⟨N, 14, none⟩ = some (.int .i64 (s.cam 12)) ∧ Z.cell? ⟨N, 15, none⟩ = some (.int .i64 (s.cam 13)) ∧ Z.cell? ⟨N, 16, none⟩ = some (.int .i64 (s.cam 14)) ∧ Z.cell? ⟨N, 17, none⟩ = some (.int .i64 (s.cam 15)) ∧ Z.cell? ⟨g, o + k * 19 + 1, none⟩ = some (.int .i64 (x.m 0)) ∧ Z.cell? ⟨g, o + k * 19 + 2, none⟩ = some (.int .i64 (x.m 1)) ∧ Z.cell? ⟨g, o + k * 19 + 3, none⟩ = some (.int .i64 (x.m 2)) ∧ Z.cell? ⟨g, o + k * 19 + 4, none⟩ = some (.int .i64 (x.m 3)) ∧ Z.cell? ⟨g, o + k * 19 + 5, none⟩ = some (.int .i64 (x.m 4)) ∧ Z.cell? ⟨g, o + k * 19 + 6, none⟩ = some (.int .i64 (x.m 5)) ∧ Z.cell? ⟨g, o + k * 19 + 7, none⟩ = some (.int .i64 (x.m 6)) ∧ Z.cell? ⟨g, o + k * 19 + 8, none⟩ = some (.int .i64 (x.m 7)) ∧ Z.cell? ⟨g, o + k * 19 + 9, none⟩ = some (.int .i64 (x.m 8)) ∧ Z.cell? ⟨g, o + k * 19 + 10, none⟩ = some (.int .i64 (x.m 9)) ∧ Z.cell? ⟨g, o + k * 19 + 11, none⟩ = some (.int .i64 (x.m 10)) ∧ Z.cell? ⟨g, o + k * 19 + 12, none⟩ = some (.int .i64 (x.m 11)) ∧ Z.cell? ⟨g, o + k * 19 + 13, none⟩ = some (.int .i64 (x.m 12)) ∧ Z.cell? ⟨g, o + k * 19 + 14, none⟩ = some (.int .i64 (x.m 13)) ∧ Z.cell? ⟨g, o + k * 19 + 15, none⟩ = some (.int .i64 (x.m 14)) ∧ Z.cell? ⟨g, o + k * 19 + 16, none⟩ = some (.int .i64 (x.m 15)))) := Lib.hid (fun Z h => ⟨h, h.cell so, h.cell a0, h.cell a1, h.cell a2, h.cell a3, h.cell a4, h.cell a5, h.cell a6, h.cell a7, h.cell a8, h.cell a9, h.cell a10, h.cell a11, h.cell a12, h.cell a13, h.cell a14, h.cell a15, h.cell b0, h.cell b1, h.cell b2, h.cell b3, h.cell b4, h.cell b5, h.cell b6, h.cell b7, h.cell b8, h.cell b9, h.cell b10, h.cell b11, h.cell b12, h.cell b13, h.cell b14, h.cell b15⟩)
  clear a0 a1 a2 a3 a4 a5 a6 a7 a8 a9 a10 a11 a12 a13 a14 a15 b0 b1 b2 b3 b4 b5 b6 b7 b8 b9 b10 b11 b12 b13 b14 b15 sc om
  go_wp2_with fail
  go_cut [6, 7] from 18 to 29 (fun u v wx => NewM X q u wx ∧ v = .int .i64 0)
  case first =>
    go_region_held3 (fun Z => Later X Z ∧ Z.cell? ⟨N, 18, none⟩ = some (.slice (some ⟨g, o, none⟩) n cap) ∧ Z.cell? ⟨N, 2, none⟩ = some (.int .i64 (s.cam 0)) ∧ Z.cell? ⟨N, 3, none⟩ = some (.int .i64 (s.cam 1)) ∧ Z.cell? ⟨N, 4, none⟩ = some (.int .i64 (s.cam 2)) ∧ Z.cell? ⟨N, 5, none⟩ = some (.int .i64 (s.cam 3)) ∧ Z.cell? ⟨N, 6, none⟩ = some (.int .i64 (s.cam 4)) ∧ Z.cell? ⟨N, 7, none⟩ = some (.int .i64 (s.cam 5)) ∧ Z.cell? ⟨N, 8, none⟩ = some (.int .i64 (s.cam 6)) ∧ Z.cell? ⟨N, 9, none⟩ = some (.int .i64 (s.cam 7)) ∧ Z.cell? ⟨N, 10, none⟩ = some (.int .i64 (s.cam 8)) ∧ Z.cell? ⟨N, 11, none⟩ = some (.int .i64 (s.cam 9)) ∧ Z.cell? ⟨N, 12, none⟩ = some (.int .i64 (s.cam 10)) ∧ Z.cell? ⟨N, 13, none⟩ = some (.int .i64 (s.cam 11)) ∧ Z.cell? ⟨N, 14, none⟩ = some (.int .i64 (s.cam 12)) ∧ Z.cell? ⟨N, 15, none⟩ = some (.int .i64 (s.cam 13)) ∧ Z.cell? ⟨N, 16, none⟩ = some (.int .i64 (s.cam 14)) ∧ Z.cell? ⟨N, 17, none⟩ = some (.int .i64 (s.cam 15)) ∧ Z.cell? ⟨g, o + k * 19 + 1, none⟩ = some (.int .i64 (x.m 0)) ∧ Z.cell? ⟨g, o + k * 19 + 2, none⟩ = some (.int .i64 (x.m 1)) ∧ Z.cell? ⟨g, o + k * 19 + 3, none⟩ = some (.int .i64 (x.m 2)) ∧ Z.cell? ⟨g, o + k * 19 + 4, none⟩ = some (.int .i64 (x.m 3)) ∧ Z.cell? ⟨g, o + k * 19 + 5, none⟩ = some (.int .i64 (x.m 4)) ∧ Z.cell? ⟨g, o + k * 19 + 6, none⟩ = some (.int .i64 (x.m 5)) ∧ Z.cell? ⟨g, o + k * 19 + 7, none⟩ = some (.int .i64 (x.m 6)) ∧ Z.cell? ⟨g, o + k * 19 + 8, none⟩ = some (.int .i64 (x.m 7)) ∧ Z.cell? ⟨g, o + k * 19 + 9, none⟩ = some (.int .i64 (x.m 8)) ∧ Z.cell? ⟨g, o + k * 19 + 10, none⟩ = some (.int .i64 (x.m 9)) ∧ Z.cell? ⟨g, o + k * 19 + 11, none⟩ = some (.int .i64 (x.m 10)) ∧ Z.cell? ⟨g, o + k * 19 + 12, none⟩ = some (.int .i64 (x.m 11)) ∧ Z.cell? ⟨g, o + k * 19 + 13, none⟩ = some (.int .i64 (x.m 12)) ∧ Z.cell? ⟨g, o + k * 19 + 14, none⟩ = some (.int .i64 (x.m 13)) ∧ Z.cell? ⟨g, o + k * 19 + 15, none⟩ = some (.int .i64 (x.m 14)) ∧ Z.cell? ⟨g, o + k * 19 + 16, none⟩ = some (.int .i64 (x.m 15))) ((go_split_ands; first | exact hS.out _ (Later.refl X).drew | exact hS.out _ (Later.alloc (by assumption) _) | exact hS.out _ (Later.trans (by assumption) hL) | exact hS.out _ (Later.alloc hL1 _) | exact hS.out _ (Later.setRow hL1 (Nat.le_refl _) _))) (first | (go_at_call 37; refine (hM.out _).mono ?_; rintro e V1 ⟨rfl, hL⟩; have hL1 : Later X V1 := (Later.refl X).drew.trans hL) | (go_at_call 37; refine (hM.out _).mono ?_; rintro e V1 ⟨rfl, hL⟩; have hL1 : Later X V1 := ((Later.refl X).alloc _).drew.trans hL; have kN1 := hL.row (heap_alloc_new X _); have hst3 := hst2.out V1 X.heap.size kN1))
    · rename_i JJ KK hj hk hh _; refine hk _ _ (Met.intro (hj _ _ ?_)); (repeat apply Exists.intro)
      exact ⟨⟨⟨_, rfl, hL1.alloc _, hL1.size, heap_alloc_new _ _⟩, rfl⟩, rfl⟩
    · rename_i JJ KK hj hk hh _; refine hk _ _ (Met.intro (hj _ _ ?_)); (repeat apply Exists.intro)
      exact ⟨⟨⟨_, rfl, Later.setRow hL1 (Nat.le_refl _) _, Nat.le_refl _, setRow_heap _ _ _ _ _ _ kN1⟩, rfl⟩, rfl⟩
  case rest =>
    obtain ⟨⟨Q, rfl, hlQ, hQ, kQ⟩, rfl⟩ := hcut
    have kR1 := Row.later kR hlQ
    go_wp2_with (first | refine wpList_load_row rfl _ _ rfl Q rfl _ _ (0, 0) _ kQ Try.underlying25 rfl (size_mat q) ?_ | refine wpList_store_row rfl 25 _ _ rfl (N + 1) (rowV 16 q) rfl rfl 25 (rowV 16 (fun _ => 0)) kR1 (size_mat _) (by rw [rowV_size, rowV_size]) (rowV_one 16 _) ?_)
    have kZ : matB _ (N + 1) q := setRow_heap _ _ _ (rowV 16 q) _ _ kR1
    have hload := load_mat kZ
    exact bodyPost_ret (v := .tuple #[matV q, .int .i64 0]) (results_cell2 (a := 4) (b := 5) (t := 25) (by kernel_rfl) _ rfl hload) rfl ⟨rfl, (hlX.trans hlQ).setRow (by omega) _⟩
end Go.Proofs.Ytackbajbladhhaa
