/-
  Chapter 2: numbers of 128 bits: Div by 65536 of any; the walk of Add; fixed's Clamp.
-/
import Derived.Laws.Rows
import Derived.Deep.DeepCutAuto
import Derived.Test.YtackbajbladhhaaWdE
import Derived.Test.YtackbajbladhhaaWdF
import Derived.Test.YtackbajbladhhaaBgA
namespace Go.Proofs.Ytackbajbladhhaa
open Go.RowKit Go.Shelf
set_option linter.unusedVariables false
set_option linter.unusedSimpArgs false
attribute [local go_sem] Oper.semAt_some

theorem div_any (x : Int) (W : World) (hx : -170141183460469231731687303715884105728 < x ∧ x < 170141183460469231731687303715884105728) :
    Calls Try.prog 61 #[wdV x, .int .i64 65536] W fun e w' => e = .returned (.tuple #[wdV (x / 65536), .int .i64 (x % 65536), .int .i64 0]) ∧ Later W w' := by
  by_cases h : x < 0
  · exact div_neg x W ⟨hx.1, h⟩
  · exact div_pos x W ⟨by omega, hx.2⟩
theorem clamp_k (n : Int) (W : World) (h : -9223372036854775808 ≤ n ∧ n ≤ 9223372036854775807) :
    Calls Try.prog 63 #[.int .i64 n, .int .i64 (-4611686018427387904), .int .i64 4611686018427387904] W fun e w' => e = .returned (.int .i64 (max (-4611686018427387904) (min n 4611686018427387904))) ∧ W = w' := by
  have hmin : ∀ ts t W, (Builtin.min_ ts t #[.int .i64 n, .int .i64 4611686018427387904]).run Try.prog W = .ok (.int .i64 (min n 4611686018427387904)) W := fun ts t W => by
    rw [run_min_int2]
    congr 2
    by_cases h : (4611686018427387904 : Int) < n
    · rw [if_pos (by omega)]; omega
    · rw [if_neg (by omega)]; omega
  go_enter Try.func63, Try.ntmps63
  by_cases hn : n < -4611686018427387904
  all_goals
    go_wp2_with fail
    go_ret
    exact ⟨ret_int (by omega), rfl⟩
set_option maxHeartbeats 2000000 in
theorem add_any (x y : Int) (W : World) (hx : InW x) (hy : InW y) (hz : InW (x + y)) :
    Calls Try.prog 76 #[wdV x, wdV y] W fun e w' => e = .returned (.tuple #[wdV (x + y), .int .i64 0]) ∧ Later W w' := by
  have hP := fun w => plus_any x y w
  have s1 := hiW_neg hx
  have s2 := hiW_neg hy
  have s3 := hiW_neg hz
  obtain ⟨z, hze⟩ : ∃ z, Hid (x + y = z) := ⟨_, rfl⟩
  have hsg : (x < 0 ∧ y < 0 → z < 0) ∧ (¬ x < 0 ∧ ¬ y < 0 → ¬ z < 0) := by have := hze.out; omega
  rw [hze.out] at hP s3 ⊢
  obtain ⟨hx1, e1⟩ : ∃ h, Hid (hiW x = h) := ⟨_, rfl⟩
  obtain ⟨hx2, e2⟩ : ∃ h, Hid (loW x = h) := ⟨_, rfl⟩
  obtain ⟨hy1, e3⟩ : ∃ h, Hid (hiW y = h) := ⟨_, rfl⟩
  obtain ⟨hy2, e4⟩ : ∃ h, Hid (loW y = h) := ⟨_, rfl⟩
  obtain ⟨hz1, e5⟩ : ∃ h, Hid (hiW z = h) := ⟨_, rfl⟩
  obtain ⟨hz2, e6⟩ : ∃ h, Hid (loW z = h) := ⟨_, rfl⟩
  simp only [wdV] at hP ⊢
  rw [e1.out, e2.out, e3.out, e4.out, e5.out, e6.out] at hP
  rw [e1.out] at s1
  rw [e3.out] at s2
  rw [e5.out] at s3
  rw [e1.out, e2.out, e3.out, e4.out, e5.out, e6.out]
  rw [← s1, ← s2, ← s3] at hsg
  clear s1 s2 s3 hx hy hz
  obtain ⟨b1, d1⟩ : ∃ b, decide (hx1 < 0) = b := ⟨_, rfl⟩
  obtain ⟨b2, d2⟩ : ∃ b, decide (hy1 < 0) = b := ⟨_, rfl⟩
  have hsg2 : b1 = b2 → decide (hz1 < 0) = b1 := fun e => by
    subst e
    cases b1
    · exact decide_eq_false (hsg.2 ⟨of_decide_eq_false d1, of_decide_eq_false d2⟩)
    · exact decide_eq_true (hsg.1 ⟨of_decide_eq_true d1, of_decide_eq_true d2⟩)
  clear hsg
  cases b1
  all_goals
    cases b2
    all_goals
      try (have d3 := hsg2 rfl)
      clear hsg2
      go_enter Try.func76, Try.ntmps76
      go_wp2_with fail
      refine (hP _).mono ?_
      rintro e w0 ⟨rfl, h0⟩
      obtain ⟨hc_h0, hf_h0⟩ := bcell h0
      have hz_h0 := Later.size h0
      (try simp only [World.size_alloc, World.size_drew, World.size_setCell] at hz_h0)
      have hl_h0_W0_0 : W.heap.size < w0.heap.size := by omega
      have hl_h0_W1_0 : W.heap.size + 1 < w0.heap.size := by omega
      have hl_h0_W2_0 : W.heap.size + 1 + 1 < w0.heap.size := by omega
      have u0 : w0.cell? ⟨W.heap.size, 0, none⟩ = some (.int .i64 hx1) := h0.cell (by go_simp)
      have u1 : w0.cell? ⟨W.heap.size + 1, 0, none⟩ = some (.int .i64 hy1) := h0.cell (by go_simp)
      have v0 : w0.cell? ⟨W.heap.size + 1 + 1, 0, none⟩ = some (.int .i64 0) := h0.cell (by go_simp)
      have v1 : w0.cell? ⟨W.heap.size + 1 + 1, 1, none⟩ = some (.int .u64 0) := h0.cell (by go_simp)
      have vf : ∀ o, w0.frozen? ⟨W.heap.size + 1 + 1, o, none⟩ = false := fun o => (h0.frozen' (by simp only [World.size_alloc]; omega)).trans (by go_simp)
      go_wp2_with fail
      refine bodyPost_ret (v := .tuple #[.agg #[.int .i64 hz1, .int .u64 hz2], .int .i64 0]) ?_ rfl ⟨rfl, ?_⟩
      · simp only [results]; go_simp
      · have hl := (((Later.refl W).alloc (.cells #[.int .i64 hx1, .int .u64 hx2] 107)).alloc (.cells #[.int .i64 hy1, .int .u64 hy2] 107)).alloc (.cells #[.int .i64 0, .int .u64 0] 107) |>.trans h0
        exact ((hl.setCell (by show W.heap.size ≤ W.heap.size + 1 + 1; omega) _).setCell (by show W.heap.size ≤ W.heap.size + 1 + 1; omega) _).alloc _
end Go.Proofs.Ytackbajbladhhaa
