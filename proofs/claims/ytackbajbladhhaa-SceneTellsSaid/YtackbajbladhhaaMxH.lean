/-
  Chapter 3: a product of matrices that is too great.
-/
import Derived.Test.YtackbajbladhhaaMxG
namespace Go.Proofs.Ytackbajbladhhaa
open Go.RowKit Go.Shelf
set_option linter.unusedVariables false
set_option linter.unusedSimpArgs false
attribute [local go_sem] Oper.semAt_some

def AllApl (f g : Nat → Int) (c : Nat) : Prop := ∀ k, k < c → aplMay f (colOf g k)
set_option maxRecDepth 100000 in
set_option maxHeartbeats 4000000 in
theorem mul_no (f g : Nat → Int) (W : World) (hm : ¬ mulMay f g) :
    Calls Try.prog 37 #[matV f, matV g] W fun e w' => e = .returned (.tuple #[matV (fun _ => 0), .int .i64 30]) ∧ Later W w' := by
  replace hm := Lib.hid hm
  have hA := Lib.hid (fun W => across_any g W)
  obtain ⟨X, hX⟩ : ∃ X, X = (((W.alloc (.cells (rowV 16 f) 25)).alloc (.cells (rowV 16 g) 25)).alloc (.cells #[.int .i64 0, .int .i64 0, .int .i64 0, .int .i64 0, .int .i64 0, .int .i64 0, .int .i64 0, .int .i64 0, .int .i64 0, .int .i64 0, .int .i64 0, .int .i64 0, .int .i64 0, .int .i64 0, .int .i64 0, .int .i64 0] 25)).alloc (.cells #[.int .i64 0, .int .i64 0, .int .i64 0, .int .i64 0, .int .i64 0, .int .i64 0, .int .i64 0, .int .i64 0, .int .i64 0, .int .i64 0, .int .i64 0, .int .i64 0, .int .i64 0, .int .i64 0, .int .i64 0, .int .i64 0] 25) := ⟨_, rfl⟩
  have hlX : Later W X := by rw [hX]; exact ((((Later.refl W).alloc _).alloc _).alloc _).alloc _
  have kM : matB X W.heap.size f := by rw [hX]; exact push_one (push_one (push_one (heap_alloc_new _ _) _) _) _
  have kG : matB X (W.heap.size + 1) g := by rw [hX]; exact push_one (push_one (push_new _ _ (by simp)) _) _
  have kR : matB X (W.heap.size + 1 + 1) (fun _ => 0) := by rw [hX]; exact push_one (push_new _ _ (by simp)) _
  have kO : matB X (W.heap.size + 1 + 1 + 1) (fun _ => 0) := by rw [hX]; exact push_new _ _ (by simp)
  have hXs : X.heap.size = W.heap.size + 4 := by rw [hX]; simp
  go_enter Try.func37, Try.ntmps37
  go_upto_region 2 with fail
  rw [← hX]
  clear hX
  replace hXs := Lib.hid hXs
  obtain ⟨N, hN⟩ : ∃ N, Hid (W.heap.size = N) := ⟨_, rfl⟩
  obtain ⟨V, hV⟩ : ∃ R, Hid (N + 1 = R) := ⟨_, rfl⟩
  obtain ⟨R, hR⟩ : ∃ R, Hid (V + 1 = R) := ⟨_, rfl⟩
  obtain ⟨O, hO⟩ : ∃ O, Hid (R + 1 = O) := ⟨_, rfl⟩
  have hNW : W.heap.size ≤ N := Nat.le_of_eq hN.out
  have hNV : N < V := by have := hV.out; omega
  have hVR : V < R := by have := hR.out; omega
  have hRO : R < O := by have := hO.out; omega
  rw [hN.out] at kM kG kR kO ⊢
  rw [hV.out] at kG kR kO ⊢
  rw [hR.out] at kR kO ⊢
  rw [hO.out] at kO ⊢
  clear hN hV hR hO hXs
  go_wp2_with (refine wpList_load_row rfl _ _ rfl V rfl _ _ (0, 0) _ kG Try.underlying25 rfl (size_mat g) ?_)
  refine (hA.out _).mono ?_
  rintro e w1 ⟨rfl, hl1⟩
  have hlW := hlX.trans hl1
  replace kM := Row.later kM hl1
  replace kR := Row.later kR hl1
  replace kO := Row.later kO hl1
  clear hl1 hlX kG hA
  go_wp2_with fail
  go_loopw [13] (fun y wr => ∃ c : Nat, c ≤ 4 ∧ y = .int .i64 c ∧ AllApl f g c ∧ matB wr O (mulC f g c) ∧ matB wr N f ∧ matB wr R (fun _ => 0) ∧ Later W wr) (fun y _ => (300 - intOf y).toNat)
  case atStart => exact ⟨0, by omega, rfl, (fun k hk => by omega), kO.ext (fun k hk => by unfold mulC; rw [if_neg (by omega)]), kM, kR, hlW⟩
  case round =>
    clear kM kR kO hlW
    obtain ⟨c, hc, rfl, hAll, kO, kM, kR, hlW⟩ := hrel
    obtain ⟨wo, rfl⟩ : ∃ wo : World, wo = wr := ⟨_, rfl⟩
    by_cases hcN : c < 4
    · by_cases hD : aplMay f (colOf g c)
      · have hAll2 : AllApl f g (c + 1) := fun k hk => by
          by_cases e : k = c
          · rw [e]; exact hD
          · exact hAll k (by omega)
        have hix := fun w => row_index_tr g c hcN w
        have hAp := Lib.hid (fun W => apply_yes f (colOf g c) W hD)
        obtain ⟨d, hd⟩ : ∃ d : Nat → Int, Hid ((fun r => dotQ (rowOf f r) (colOf g c)) = d) := ⟨_, rfl⟩
        rw [hd.out] at hAp
        have hci : (c : Int) < 4 := by omega
        go_upto_region 5 with fail
        have hl2 : Later wo (wo.alloc (.cells #[.int .i64 (colOf g c 0), .int .i64 (colOf g c 1), .int .i64 (colOf g c 2), .int .i64 (colOf g c 3)] 23)) := (Later.refl wo).alloc _
        have kM2 := Row.later kM hl2
        go_wp2_with (refine wpList_load_row rfl _ _ rfl N rfl _ _ (0, 0) _ kM2 Try.underlying25 rfl (size_mat f) ?_)
        refine (hAp.out _).mono ?_
        rintro e w3 ⟨rfl, hl3⟩
        have hl := hl2.trans hl3
        replace kO := Row.later kO hl
        replace kM := Row.later kM hl
        replace kR := Row.later kR hl
        have co0 := kO.cell (k := c * 4) (by omega)
        have co1 := kO.cell (k := c * 4 + 1) (by omega)
        have co2 := kO.cell (k := c * 4 + 2) (by omega)
        have co3 := kO.cell (k := c * 4 + 3) (by omega)
        have cf := fun k => kO.frozen k
        have hOw := kO.lt
        have hOn : O ≠ w3.heap.size := by omega
        clear hAp kM2 hl2 hl3 hix
        have kOs := Lib.hid (Row.set (Row.set (Row.set (Row.set kO (k := c * 4) (by omega) (d 0)) (k := c * 4 + 1) (by omega) (d 1)) (k := c * 4 + 2) (by omega) (d 2)) (k := c * 4 + 3) (by omega) (d 3))
        have kMs := Lib.hid ((set4_other w3 O N (c * 4) (c * 4 + 1) (c * 4 + 2) (c * 4 + 3) (.int .i64 (d 0)) (.int .i64 (d 1)) (.int .i64 (d 2)) (.int .i64 (d 3)) (by omega)).trans kM)
        have kRs := Lib.hid ((set4_other w3 O R (c * 4) (c * 4 + 1) (c * 4 + 2) (c * 4 + 3) (.int .i64 (d 0)) (.int .i64 (d 1)) (.int .i64 (d 2)) (.int .i64 (d 3)) (by omega)).trans kR)
        go_wp2_with fail
        go_roundw
        case rel =>
          have hal : ∀ Z : World, Later Z (Z.alloc (.cells #[.int .i64 (d 0), .int .i64 (d 1), .int .i64 (d 2), .int .i64 (d 3)] 23)) := fun Z => (Later.refl Z).alloc _
          refine ⟨c + 1, by omega, by go_num, hAll2, Row.ext (Row.later kOs.out (hal _)) (fun k hk => ?_), Row.later (M := N) kMs.out (hal _), Row.later (M := R) kRs.out (hal _), ?_⟩
          · exact mulC_set f g c d hd.out k hk
          · exact (((((hlW.trans hl).setCell (by show W.heap.size ≤ O; omega) _).setCell (by show W.heap.size ≤ O; omega) _).setCell (by show W.heap.size ≤ O; omega) _).setCell (by show W.heap.size ≤ O; omega) _).trans (hal _)
        case measure => simp [intOf]; omega
      · have hix := fun w => row_index_tr g c hcN w
        have hAp := Lib.hid (fun W => apply_no f (colOf g c) W hD)
        have hci : (c : Int) < 4 := by omega
        go_upto_region 5 with fail
        have hl2 : Later wo (wo.alloc (.cells #[.int .i64 (colOf g c 0), .int .i64 (colOf g c 1), .int .i64 (colOf g c 2), .int .i64 (colOf g c 3)] 23)) := (Later.refl wo).alloc _
        have kM2 := Row.later kM hl2
        go_wp2_with (refine wpList_load_row rfl _ _ rfl N rfl _ _ (0, 0) _ kM2 Try.underlying25 rfl (size_mat f) ?_)
        refine (hAp.out _).mono ?_
        rintro e w3 ⟨rfl, hl3⟩
        have hl := hl2.trans hl3
        replace kR := Row.later kR hl
        replace kR := Row.later kR ((Later.refl w3).alloc (.cells #[.int .i64 0, .int .i64 0, .int .i64 0, .int .i64 0] 23))
        clear kO hAp hix kM2
        have hs16 : (Try.prog.info? 25).map (·.size) = some (16 : Nat) := by kernel_rfl
        have hz1 : (#[.int .i64 0, .int .i64 0, .int .i64 0, .int .i64 0, .int .i64 0, .int .i64 0, .int .i64 0, .int .i64 0, .int .i64 0, .int .i64 0, .int .i64 0, .int .i64 0, .int .i64 0, .int .i64 0, .int .i64 0, .int .i64 0] : Array Value).all (·.oneCell') = true := by rw [← Array.all_toList]; rfl
        have hz2 : (rowV 16 (fun _ => 0)).size = (#[.int .i64 0, .int .i64 0, .int .i64 0, .int .i64 0, .int .i64 0, .int .i64 0, .int .i64 0, .int .i64 0, .int .i64 0, .int .i64 0, .int .i64 0, .int .i64 0, .int .i64 0, .int .i64 0, .int .i64 0, .int .i64 0] : Array Value).size := rowV_size _ _
        go_wp2_with (refine wpList_store_row rfl 25 _ _ rfl R #[.int .i64 0, .int .i64 0, .int .i64 0, .int .i64 0, .int .i64 0, .int .i64 0, .int .i64 0, .int .i64 0, .int .i64 0, .int .i64 0, .int .i64 0, .int .i64 0, .int .i64 0, .int .i64 0, .int .i64 0, .int .i64 0] rfl rfl 25 (rowV 16 (fun _ => 0)) kR hs16 hz2 hz1 ?_)
        have kZ : matB (((w3.alloc (.cells #[.int .i64 0, .int .i64 0, .int .i64 0, .int .i64 0] 23))).setRow R #[.int .i64 0, .int .i64 0, .int .i64 0, .int .i64 0, .int .i64 0, .int .i64 0, .int .i64 0, .int .i64 0, .int .i64 0, .int .i64 0, .int .i64 0, .int .i64 0, .int .i64 0, .int .i64 0, .int .i64 0, .int .i64 0]) R (fun _ => 0) := setRow_heap _ _ _ _ _ _ kR
        have hload := load_mat kZ
        refine bodyPost_ret (v := .tuple #[matV (fun _ => 0), .int .i64 30]) (results_cell2 (a := 4) (b := 5) (t := 25) (by kernel_rfl) _ rfl hload) rfl ⟨rfl, ((hlW.trans hl).alloc _).setRow (by omega) _⟩
    · obtain rfl : c = 4 := by omega
      exact absurd hAll hm.out
end Go.Proofs.Ytackbajbladhhaa
