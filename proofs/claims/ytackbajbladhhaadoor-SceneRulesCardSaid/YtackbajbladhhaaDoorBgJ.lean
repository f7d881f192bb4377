/-
  The document's matrices: are numbers within a bound?
-/
import Derived.Test.YtackbajbladhhaaDoorBgI
import Derived.Test.YtackbajbladhhaaDoorMxH
namespace Go.Proofs.YtackbajbladhhaaDoor
open Go.RowKit Go.Shelf
set_option linter.unusedVariables false
set_option linter.unusedSimpArgs false
attribute [local go_sem] Oper.semAt_some

theorem within_next {b : Int} {n : Nat} {f : Nat → Int} (h : Within b n f) (hn : -b ≤ f n ∧ f n ≤ b) : Within b (n + 1) f := fun k hk => by
  by_cases e : k = n
  · rw [e]; exact hn
  · exact h k (by omega)
set_option maxRecDepth 100000 in
set_option maxHeartbeats 2000000 in
theorem within3_any (f : Nat → Int) (b : Int) (W : World) (hb : 0 ≤ b ∧ b ≤ 4611686018427387904) :
    Calls Tryd.prog 22 #[matV f, .int .i64 b] W fun e w' => e = .returned (.bool (decide (Within b 16 f))) ∧ Later W w' := by
  obtain ⟨X, hX⟩ : ∃ X, X = W.alloc (.cells (rowV 16 f) 25) := ⟨_, rfl⟩
  have hlX : Later W X := by rw [hX]; exact (Later.refl W).alloc _
  have kM : matB X W.heap.size f := by rw [hX]; exact heap_alloc_new _ _
  obtain ⟨P, hP⟩ : ∃ n, Hid (W.heap.size = n) := ⟨_, rfl⟩
  obtain ⟨rr, hrr⟩ : ∃ r, Hid (decide (Within b 16 f) = r) := ⟨_, rfl⟩
  rw [hrr.out]
  go_enter Tryd.func22, Tryd.ntmps22
  go_upto_region 1 with fail
  rw [← hX]
  clear hX
  rw [hP.out] at kM ⊢
  clear hP
  have hbn : ¬ b < 0 := by omega
  go_wp2_with fail
  go_loopw [5] (fun y wr => ∃ r : Nat, r ≤ 4 ∧ y = .int .i64 r ∧ Hid (Within b (r * 4) f) ∧ wr = X) (fun y _ => (300 - intOf y).toNat)
  case atStart => exact ⟨0, by omega, rfl, Lib.hid (fun k hk => by omega), rfl⟩
  case round =>
    obtain ⟨r, hr, rfl, hw, rfl⟩ := hrel
    by_cases hr4 : r < 4
    · have hri : (r : Int) < 4 := by omega
      go_wp2_with fail
      go_loopw [6] (fun y wx => ∃ c : Nat, c ≤ 4 ∧ y = .int .i64 c ∧ Hid (Within b (r * 4 + c) f) ∧ wx = wr) (fun y _ => (300 - intOf y).toNat)
      case atStart => exact ⟨0, by omega, rfl, hw, rfl⟩
      case round =>
        obtain ⟨c, hc, rfl, hwc, rfl⟩ := hrel
        by_cases hc4 : c < 4
        · have hci : (c : Int) < 4 := by omega
          have cx := kM.cell (k := r * 4 + c) (by omega)
          obtain ⟨x, hx⟩ : ∃ x, Hid (f (r * 4 + c) = x) := ⟨_, rfl⟩
          rw [hx.out] at cx
          by_cases h1 : b < x
          · have hno : Hid (rr = false) := Lib.hid (by
              rw [← hrr.out]
              refine decide_eq_false (fun hW => ?_)
              have := (hW (r * 4 + c) (by omega)).2
              rw [hx.out] at this
              omega)
            go_wp2_with fail
            go_ret
            exact ⟨by rw [hno.out]; rfl, hlX⟩
          · by_cases h2 : x < -b
            · have hno : Hid (rr = false) := Lib.hid (by
                rw [← hrr.out]
                refine decide_eq_false (fun hW => ?_)
                have := (hW (r * 4 + c) (by omega)).1
                rw [hx.out] at this
                omega)
              go_wp2_with fail
              go_ret
              exact ⟨by rw [hno.out]; rfl, hlX⟩
            · have hwn : Hid (Within b (r * 4 + (c + 1)) f) := Lib.hid (within_next (n := r * 4 + c) hwc.out (by show -b ≤ f (r * 4 + c) ∧ f (r * 4 + c) ≤ b; rw [hx.out]; omega))
              have h2' : -b ≤ x := by omega
              have h1' : x ≤ b := by omega
              go_wp2_with fail
              go_roundw
              case rel => exact ⟨c + 1, by omega, by go_num, hwn, by first | trivial | rfl⟩
              case measure => simp [intOf]; omega
        · obtain rfl : c = 4 := by omega
          have hw2 : Hid (Within b ((r + 1) * 4) f) := Lib.hid (by rw [show (r + 1) * 4 = r * 4 + 4 by omega]; exact hwc.out)
          go_wp2_with fail
          go_roundw
          case rel => exact ⟨r + 1, by omega, by go_num, hw2, by first | trivial | rfl⟩
          case measure => simp [intOf]; omega
    · obtain rfl : r = 4 := by omega
      have hyes : Hid (rr = true) := Lib.hid (by rw [← hrr.out]; exact decide_eq_true hw.out)
      go_wp2_with fail
      go_ret
      exact ⟨by rw [hyes.out]; rfl, hlX⟩
end Go.Proofs.YtackbajbladhhaaDoor
