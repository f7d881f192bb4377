/-
  Chapter 2: numbers of 128 bits: the walks of Of, size, turned, plus, Mul, Add.
-/
import Derived.Test.YtackbajbladhhaaWdA
namespace Go.Proofs.Ytackbajbladhhaa
open Go.RowKit Go.Shelf
set_option linter.unusedVariables false
set_option linter.unusedSimpArgs false
attribute [local go_sem] Oper.semAt_some

theorem of_any (n : Int) (W : World) (h : -9223372036854775808 ≤ n ∧ n ≤ 9223372036854775807) :
    Calls Try.prog 82 #[.int .i64 n] W fun e w' => e = .returned (wdV n) ∧ Later W w' := by
  go_enter Try.func82, Try.ntmps82
  go_wp2_with fail
  refine bodyPost_ret (v := wdV n) ?_ rfl ⟨rfl, ?_⟩
  · simp only [results]; go_simp
    rw [hiW_eq, loW_eq, IntKind.wrap_u64]
    omega
  · exact (Later.refl W).alloc _
theorem size_any (n : Int) (W : World) (h : -9223372036854775808 ≤ n ∧ n ≤ 9223372036854775807) :
    Calls Try.prog 80 #[.int .i64 n] W fun e w' => e = .returned (.int .u64 n.natAbs) ∧ W = w' := by
  go_enter Try.func80, Try.ntmps80
  by_cases hn : n < 0
  all_goals
    go_wp2_with fail
    go_ret
    refine ⟨ret_int ?_, rfl⟩
  · rw [IntKind.wrap_u64, IntKind.wrap_u64]; omega
  · omega
theorem plus_any (x y : Int) (W : World) :
    Calls Try.prog 81 #[wdV x, wdV y] W fun e w' => e = .returned (wdV (x + y)) ∧ Later W w' := by
  have hb1 := loW_b x
  have hb2 := loW_b y
  have ha := fun w => add64_run (loW x) (loW y) 0 hb1 hb2 (by omega) w
  go_enter Try.func81, Try.ntmps81
  go_wp2_with fail
  refine bodyPost_ret (v := wdV (x + y)) ?_ rfl ⟨rfl, ?_⟩
  · simp only [results]; go_simp
    clear ha
    rw [w64_eq]
    simp only [hiW_eq, loW_eq, wrap64]
    omega
  · exact (((Later.refl W).alloc _).alloc _).alloc _
theorem turned_any (x : Int) (W : World) :
    Calls Try.prog 78 #[wdV x] W fun e w' => e = .returned (wdV (-x)) ∧ Later W w' := by
  have hb1 := loW_b x
  have ha := fun w => sub64_run 0 (loW x) 0 (by omega) hb1 (by omega) w
  obtain ⟨bo, hbo⟩ : ∃ b, Hid (0 - (0 - loW x - 0) / w64 = b) := ⟨_, rfl⟩
  have hbb : 0 ≤ bo ∧ bo ≤ 1 := by have := hbo.out; rw [w64_eq] at this; omega
  rw [hbo.out] at ha
  obtain ⟨uh, huh⟩ : ∃ b, Hid (IntKind.u64.wrap (hiW x) = b) := ⟨_, rfl⟩
  have hub : 0 ≤ uh ∧ uh < 18446744073709551616 := by have := huh.out; rw [IntKind.wrap_u64] at this; omega
  have hc := fun w => sub64_run 0 uh bo (by omega) hub hbb w
  have huc : ∀ w, (convert 2 105 (.int .i64 (hiW x))).run Try.prog w = .ok (.int .u64 uh) w := fun w => by
    rw [← huh.out]; go_simp
  go_enter Try.func78, Try.ntmps78
  go_wp2_with fail
  refine bodyPost_ret (v := wdV (-x)) ?_ rfl ⟨rfl, ?_⟩
  · simp only [results]; go_simp
    have h1 := hbo.out
    have h2 := huh.out
    clear ha hc huc hbo huh
    rw [w64_eq] at h1 ⊢
    rw [IntKind.wrap_u64] at h2
    rw [loW_eq] at h1 hb1 ⊢
    rw [hiW_eq] at h2 ⊢
    simp only [wrap64]
    rw [loW_eq]
    omega
  · exact ((Later.refl W).alloc _).alloc _
theorem abs_mul_le {a b : Int} (ha : -9223372036854775808 ≤ a ∧ a ≤ 9223372036854775807) (hb : -9223372036854775808 ≤ b ∧ b ≤ 9223372036854775807) :
    0 ≤ (a.natAbs : Int) * b.natAbs ∧ (a.natAbs : Int) * b.natAbs ≤ 85070591730234615865843651857942052864 := by
  have h1 : a.natAbs ≤ 9223372036854775808 := by omega
  have h2 : b.natAbs ≤ 9223372036854775808 := by omega
  have h3 := Nat.mul_le_mul h1 h2
  rw [← Int.natCast_mul]
  omega
theorem abs_mul (a b : Int) : a * b = if (decide (a < 0) != decide (b < 0)) = true then -((a.natAbs : Int) * b.natAbs) else (a.natAbs : Int) * b.natAbs := by
  by_cases ha : a < 0 <;> by_cases hb : b < 0
  · rw [show ((a.natAbs : Nat) : Int) = -a by omega, show ((b.natAbs : Nat) : Int) = -b by omega]; simp [ha, hb, Int.neg_mul_neg]
  · rw [show ((a.natAbs : Nat) : Int) = -a by omega, show ((b.natAbs : Nat) : Int) = b by omega]; simp [ha, hb, Int.neg_mul]
  · rw [show ((a.natAbs : Nat) : Int) = a by omega, show ((b.natAbs : Nat) : Int) = -b by omega]; simp [ha, hb, Int.mul_neg]
  · rw [show ((a.natAbs : Nat) : Int) = a by omega, show ((b.natAbs : Nat) : Int) = b by omega]; simp [ha, hb]
theorem mul_any (a b : Int) (W : World) (ha : -9223372036854775808 ≤ a ∧ a ≤ 9223372036854775807) (hb : -9223372036854775808 ≤ b ∧ b ≤ 9223372036854775807) :
    Calls Try.prog 77 #[.int .i64 a, .int .i64 b] W fun e w' => e = .returned (wdV (a * b)) ∧ Later W w' := by
  have hp := abs_mul_le ha hb
  have hab := abs_mul a b
  obtain ⟨p, hpe⟩ : ∃ p, (a.natAbs : Int) * b.natAbs = p := ⟨_, rfl⟩
  rw [hpe] at hp hab
  have hM : ∀ w, Calls Try.prog 104 #[.int .u64 a.natAbs, .int .u64 b.natAbs] w fun e w' => e = .returned (.tuple #[.int .u64 (hiW p), .int .u64 (loW p)]) ∧ w = w' := fun w => by
    have := mul64_any a.natAbs b.natAbs (by omega) (by omega) w
    rw [hpe, w64_eq] at this
    rw [hiW_eq, loW_eq, show (p / 18446744073709551616 + 9223372036854775808) % 18446744073709551616 - 9223372036854775808 = p / 18446744073709551616 by omega]
    exact this
  have hh : 0 ≤ hiW p ∧ hiW p ≤ 9223372036854775807 := by rw [hiW_eq]; omega
  clear hpe hp
  have hA := size_any a
  have hB := size_any b
  have HA := Lib.hid ha
  have HB := Lib.hid hb
  obtain ⟨na, hna⟩ : ∃ x, decide (a < 0) = x := ⟨_, rfl⟩
  obtain ⟨nb, hnb⟩ : ∃ x, decide (b < 0) = x := ⟨_, rfl⟩
  rw [hna, hnb] at hab
  cases na <;> cases nb
  all_goals
    rw [hab]
    clear hab
    simp only [bne_self_eq_false, Bool.false_eq_true, if_false, show (true != false) = true from rfl, show (false != true) = true from rfl, if_true]
    go_enter Try.func77, Try.ntmps77
    go_wp2_with fail
    refine (hA _ HA.out).mono ?_
    rintro e w1 ⟨rfl, rfl⟩
    go_wp2_with fail
    refine (hB _ HB.out).mono ?_
    rintro e w1 ⟨rfl, rfl⟩
    go_wp2_with fail
    refine (hM _).mono ?_
    rintro e w1 ⟨rfl, rfl⟩
    go_wp2_with fail
  · refine bodyPost_ret (v := wdV p) ?_ rfl ⟨rfl, ?_⟩
    · simp only [results]; go_simp
    · exact ((Later.refl W).alloc _).alloc _
  ·
    refine (turned_any p _).mono ?_
    rintro e w1 ⟨rfl, hl⟩
    obtain ⟨hc_hl, hf_hl⟩ := bcell hl
    have hz_hl := Later.size hl
    (try simp only [World.size_alloc, World.size_drew, World.size_setCell] at hz_hl)
    have hl_hl_W0_0 : W.heap.size < w1.heap.size := by omega
    have hl_hl_W1_0 : W.heap.size + 1 < w1.heap.size := by omega
    have tc0 : w1.cell? ⟨W.heap.size, 0, none⟩ = some (.int .i64 0) := hl.cell (by go_simp)
    have tc1 : w1.cell? ⟨W.heap.size, 1, none⟩ = some (.int .u64 0) := hl.cell (by go_simp)
    have tf : ∀ o, w1.frozen? ⟨W.heap.size, o, none⟩ = false := fun o => (hf_hl _ _ (by simp only [World.size_alloc]; omega)).trans (by go_simp)
    go_wp2_with fail
    refine bodyPost_ret (v := wdV (-p)) ?_ rfl ⟨rfl, ?_⟩
    · simp only [results]; go_simp
    · refine Later.setCell (Later.setCell (Later.trans (((Later.refl W).alloc _).alloc _) hl) ?_ _) ?_ _ <;> exact Nat.le_refl _
  ·
    refine (turned_any p _).mono ?_
    rintro e w1 ⟨rfl, hl⟩
    obtain ⟨hc_hl, hf_hl⟩ := bcell hl
    have hz_hl := Later.size hl
    (try simp only [World.size_alloc, World.size_drew, World.size_setCell] at hz_hl)
    have hl_hl_W0_0 : W.heap.size < w1.heap.size := by omega
    have hl_hl_W1_0 : W.heap.size + 1 < w1.heap.size := by omega
    have tc0 : w1.cell? ⟨W.heap.size, 0, none⟩ = some (.int .i64 0) := hl.cell (by go_simp)
    have tc1 : w1.cell? ⟨W.heap.size, 1, none⟩ = some (.int .u64 0) := hl.cell (by go_simp)
    have tf : ∀ o, w1.frozen? ⟨W.heap.size, o, none⟩ = false := fun o => (hf_hl _ _ (by simp only [World.size_alloc]; omega)).trans (by go_simp)
    go_wp2_with fail
    refine bodyPost_ret (v := wdV (-p)) ?_ rfl ⟨rfl, ?_⟩
    · simp only [results]; go_simp
    · refine Later.setCell (Later.setCell (Later.trans (((Later.refl W).alloc _).alloc _) hl) ?_ _) ?_ _ <;> exact Nat.le_refl _
  · refine bodyPost_ret (v := wdV p) ?_ rfl ⟨rfl, ?_⟩
    · simp only [results]; go_simp
    · exact ((Later.refl W).alloc _).alloc _
end Go.Proofs.Ytackbajbladhhaa
