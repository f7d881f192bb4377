/-
  Chapter 3: a matrix and a vector.
-/
import Derived.Laws.Rows
import Derived.Laws.Tables
import Derived.Test.YtackbajbladhhaaMxD
namespace Go.Proofs.Ytackbajbladhhaa
open Go.RowKit Go.Shelf
set_option linter.unusedVariables false
set_option linter.unusedSimpArgs false
attribute [local go_sem] Oper.semAt_some

def rowOf (f : Nat → Int) (r : Nat) (j : Nat) : Int := f (r * 4 + j)
/-- A matrix whose first row is a vector. -/
def one4 (v : Nat → Int) (k : Nat) : Int := if k < 4 then v k else 0
theorem build_one (v : Nat → Int) (w : World) : (Instr.build 25 #[(0, vecV v)]).run Try.prog w = .ok (matV (one4 v)) w := by kernel_rfl
def aplMay (f v : Nat → Int) : Prop := Within 4611686018427387904 16 f ∧ Within 4611686018427387904 4 v ∧ ∀ r, r < 4 → dotMay (rowOf f r) v
theorem one4_within (b : Int) (hb : 0 ≤ b) (v : Nat → Int) : Within b 16 (one4 v) ↔ Within b 4 v := by
  constructor
  · intro h k hk
    have := h k (by omega)
    unfold one4 at this
    rwa [if_pos hk] at this
  · intro h k _
    unfold one4
    by_cases hk : k < 4
    · rw [if_pos hk]; exact h k hk
    · rw [if_neg hk]; omega
set_option maxRecDepth 100000 in
set_option maxHeartbeats 4000000 in
theorem apply_yes (f v : Nat → Int) (W : World) (hm : aplMay f v) :
    Calls Try.prog 13 #[matV f, vecV v] W fun e w' => e = .returned (.tuple #[vecV (fun r => dotQ (rowOf f r) v), .int .i64 0]) ∧ Later W w' := by
  obtain ⟨hm1, hm2, hm3⟩ := hm
  have hC1 := Lib.hid (fun W => check_any f 4611686018427387904 W (by omega))
  have hC2 := Lib.hid (fun W => check_any (one4 v) 4611686018427387904 W (by omega))
  rw [if_pos hm1] at hC1
  rw [if_pos ((one4_within _ (by omega) v).2 hm2)] at hC2
  obtain ⟨X, hX⟩ : ∃ X, X = (((W.alloc (.cells (rowV 16 f) 25)).alloc (.cells #[.int .i64 (v 0), .int .i64 (v 1), .int .i64 (v 2), .int .i64 (v 3)] 23)).alloc (.cells #[.int .i64 0, .int .i64 0, .int .i64 0, .int .i64 0] 23)).alloc (.cells #[.int .i64 0, .int .i64 0, .int .i64 0, .int .i64 0] 23) := ⟨_, rfl⟩
  have hlX : Later W X := by rw [hX]; exact ((((Later.refl W).alloc _).alloc _).alloc _).alloc _
  have kM : matB X W.heap.size f := by rw [hX]; exact push_one (push_one (push_one (heap_alloc_new _ _) _) _) _
  have kV : vecB X (W.heap.size + 1) 23 v := by rw [hX]; exact push_one (push_one (push_new _ _ (by simp)) _) _
  have kR : vecB X (W.heap.size + 1 + 1) 23 (fun _ => 0) := by rw [hX]; exact push_one (push_new _ _ (by simp)) _
  have kO : vecB X (W.heap.size + 1 + 1 + 1) 23 (fun _ => 0) := by rw [hX]; exact push_new _ _ (by simp)
  have hXs : X.heap.size = W.heap.size + 4 := by rw [hX]; simp
  go_enter Try.func13, Try.ntmps13
  go_upto_region 2 with fail
  rw [← hX]
  clear hX
  replace hXs := Lib.hid hXs
  go_wp2_with (refine wpList_load_row rfl _ _ rfl W.heap.size rfl _ _ (0, 0) _ kM Try.underlying25 rfl (size_mat f) ?_)
  refine (hC1.out _).mono ?_
  rintro e w1 ⟨rfl, hl1⟩
  have kM1 := Row.later kM hl1
  have kV1 := hl1.row kV
  have f1 := four_of_box kV1
  have v0 := f1 0 (by omega)
  have v1 := f1 1 (by omega)
  have v2 := f1 2 (by omega)
  have v3 := f1 3 (by omega)
  simp only [Nat.zero_add] at v0 v1 v2 v3
  have hbo := build_one v
  go_wp2_with fail
  refine (hC2.out _).mono ?_
  rintro e w2 ⟨rfl, hl2⟩
  have hlW := (hlX.trans hl1).trans hl2
  have hl12 := hl1.trans hl2
  replace kM := Row.later kM hl12
  replace kV := hl12.row kV
  replace kR := hl12.row kR
  replace kO : Row 23 4 w2 (W.heap.size + 1 + 1 + 1) (fun _ => 0) := hl12.row kO
  have hw2 : W.heap.size + 4 ≤ w2.heap.size := by have := hl12.size; have := hXs.out; omega
  obtain ⟨N, hN⟩ : ∃ N, Hid (W.heap.size = N) := ⟨_, rfl⟩
  obtain ⟨V, hV⟩ : ∃ R, Hid (N + 1 = R) := ⟨_, rfl⟩
  obtain ⟨R, hR⟩ : ∃ R, Hid (V + 1 = R) := ⟨_, rfl⟩
  obtain ⟨O, hO⟩ : ∃ O, Hid (R + 1 = O) := ⟨_, rfl⟩
  have hNW : W.heap.size ≤ N := Nat.le_of_eq hN.out
  have hNV : N < V := by have := hV.out; omega
  have hVR : V < R := by have := hR.out; omega
  have hRO : R < O := by have := hO.out; omega
  rw [hN.out] at kM kV kR kO ⊢
  rw [hV.out] at kV kR kO ⊢
  rw [hR.out] at kR kO ⊢
  rw [hO.out] at kO ⊢
  clear hC1 hC2 hbo v0 v1 v2 v3 f1 kM1 kV1 hl1 hl2 hl12 hlX hXs hN hV hR hO hw2
  have hB : B4 v := fun k hk => hm2 k hk
  have hBr : ∀ r, r < 4 → B4 (rowOf f r) := fun r hr k hk => hm1 (r * 4 + k) (by omega)
  clear hm1 hm2
  go_wp2_with fail
  go_loopw [20] (fun y wr => ∃ r : Nat, r ≤ 4 ∧ y = .int .i64 r ∧ Row 23 4 wr O (fun k => if k < r then dotQ (rowOf f k) v else 0) ∧ matB wr N f ∧ vecB wr V 23 v ∧ vecB wr R 23 (fun _ => 0) ∧ Later W wr) (fun y _ => (300 - intOf y).toNat)
  case atStart => exact ⟨0, by omega, rfl, kO.ext (fun k hk => by rw [if_neg (by omega)]), kM, kV, kR, hlW⟩
  case round =>
    clear kM kV kR kO hlW
    obtain ⟨r, hr, rfl, kO, kM, kV, kR, hlW⟩ := hrel
    obtain ⟨wo, rfl⟩ : ∃ wo : World, wo = wr := ⟨_, rfl⟩
    by_cases hrN : r < 4
    · have hS := Lib.hid (fun W => msum_yes (rowOf f r) v W (hBr r hrN) hB (hm3 r hrN))
      have hri : (r : Int) < 4 := by omega
      have c0 : wo.cell? ⟨N, r * 4, none⟩ = some (.int .i64 (rowOf f r 0)) := kM.cell (k := r * 4) (by omega)
      have c1 : wo.cell? ⟨N, r * 4 + 1, none⟩ = some (.int .i64 (rowOf f r 1)) := kM.cell (k := r * 4 + 1) (by omega)
      have c2 : wo.cell? ⟨N, r * 4 + 2, none⟩ = some (.int .i64 (rowOf f r 2)) := kM.cell (k := r * 4 + 2) (by omega)
      have c3 : wo.cell? ⟨N, r * 4 + 3, none⟩ = some (.int .i64 (rowOf f r 3)) := kM.cell (k := r * 4 + 3) (by omega)
      have f1 := four_of_box kV
      have v0 := f1 0 (by omega)
      have v1 := f1 1 (by omega)
      have v2 := f1 2 (by omega)
      have v3 := f1 3 (by omega)
      simp only [Nat.zero_add] at v0 v1 v2 v3
      clear f1
      go_wp2_with fail
      go_region_held3 (fun Z => Z.cell? ⟨N, r * 4, none⟩ = some (.int .i64 (rowOf f r 0)) ∧ Z.cell? ⟨N, r * 4 + 1, none⟩ = some (.int .i64 (rowOf f r 1)) ∧ Z.cell? ⟨N, r * 4 + 2, none⟩ = some (.int .i64 (rowOf f r 2)) ∧ Z.cell? ⟨N, r * 4 + 3, none⟩ = some (.int .i64 (rowOf f r 3)) ∧ Z.cell? ⟨V, 0, none⟩ = some (.int .i64 (v 0)) ∧ Z.cell? ⟨V, 1, none⟩ = some (.int .i64 (v 1)) ∧ Z.cell? ⟨V, 2, none⟩ = some (.int .i64 (v 2)) ∧ Z.cell? ⟨V, 3, none⟩ = some (.int .i64 (v 3))) ((go_split_ands; (repeat' apply And.intro) <;> first | assumption | exact (Later.refl _).drew.cell (by assumption) | exact ((Later.refl _).alloc _).cell (by assumption) | exact Later.cell hL (by assumption))) (first | (go_at_call 39; refine (hS.out _).mono ?_; rintro e V0 ⟨rfl, hL⟩; have hL1 := hL))
      have hl1 := (drew_later wo).trans hL1
      replace kO := Row.later kO hl1
      replace kM := Row.later kM hl1
      replace kV := hl1.row kV
      replace kR := hl1.row kR
      have co := kO.cell hrN
      have cf := kO.frozen r
      have kOs := Row.set kO hrN (dotQ (rowOf f r) v)
      obtain ⟨d, hd⟩ : ∃ d, Hid (dotQ (rowOf f r) v = d) := ⟨_, rfl⟩
      rw [hd.out] at kOs ⊢
      clear hS c0 c1 c2 c3 v0 v1 v2 v3
      go_wp2_with fail
      go_roundw
      case rel =>
        refine ⟨r + 1, by omega, by go_num, Row.ext kOs (fun k hk => ?_), (Below.heap_setCell _ _ _ _ (by show N ≠ O; omega)).trans kM, (Below.heap_setCell _ _ _ _ (by show V ≠ O; omega)).trans kV, (Below.heap_setCell _ _ _ _ (by show R ≠ O; omega)).trans kR, (hlW.trans hl1).setCell (by show W.heap.size ≤ O; omega) _⟩
        by_cases hkr : k = r
        · subst hkr; rw [if_pos rfl, if_pos (by omega), hd.out]
        · rw [if_neg hkr]
          by_cases h2 : k < r
          · rw [if_pos h2, if_pos (by omega)]
          · rw [if_neg h2, if_neg (by omega)]
      case measure => simp [intOf]; omega
    · obtain rfl : r = 4 := by omega
      have kO4 : vecB wo O 23 (fun k => if k < 4 then dotQ (rowOf f k) v else 0) := kO
      have f1 := four_of_box kO4
      have o0 := f1 0 (by omega)
      have o1 := f1 1 (by omega)
      have o2 := f1 2 (by omega)
      have o3 := f1 3 (by omega)
      simp only [Nat.zero_add, show (0 : Nat) < 4 from by omega, show (1 : Nat) < 4 from by omega, show (2 : Nat) < 4 from by omega, show (3 : Nat) < 4 from by omega, if_true] at o0 o1 o2 o3
      have f2 := four_of_box kR
      have r0 := f2 0 (by omega)
      have r1 := f2 1 (by omega)
      have r2 := f2 2 (by omega)
      have r3 := f2 3 (by omega)
      simp only [Nat.zero_add] at r0 r1 r2 r3
      have rf := fun k => frozen_r kR k
      clear f1 f2 kO kO4
      go_wp2_with fail
      refine bodyPost_ret (v := .tuple #[vecV (fun r => dotQ (rowOf f r) v), .int .i64 0]) ?_ rfl ⟨rfl, ?_⟩
      · simp only [results]; go_simp
      · exact (((hlW.setCell (by show W.heap.size ≤ R; omega) _).setCell (by show W.heap.size ≤ R; omega) _).setCell (by show W.heap.size ≤ R; omega) _).setCell (by show W.heap.size ≤ R; omega) _
end Go.Proofs.Ytackbajbladhhaa
