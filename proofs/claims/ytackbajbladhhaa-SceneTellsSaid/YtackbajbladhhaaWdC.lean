/-
  The library's division of 128 bits, by 65536.
-/
import Derived.Laws.BitsAllLaws
import Derived.Test.YtackbajbladhhaaWdA
namespace Go.Proofs.Ytackbajbladhhaa
open Go.RowKit Go.Shelf
set_option linter.unusedVariables false
set_option linter.unusedSimpArgs false
attribute [local go_sem] Oper.semAt_some

set_option maxRecDepth 100000 in
theorem len64_k (W : World) : Calls Try.prog 93 #[.int .u64 65536] W fun e w' => e = .returned (.int .i64 17) ∧ W = w' := by
  go_enter Try.func93, Try.ntmps93
  go_wp2_with fail
  go_ret
  exact ⟨ret_int (by kernel_rfl), rfl⟩
theorem lead64_k (W : World) : Calls Try.prog 121 #[.int .u64 65536] W fun e w' => e = .returned (.int .i64 47) ∧ W = w' := by
  go_enter Try.func121, Try.ntmps121
  go_wp2_with fail
  refine (len64_k _).mono ?_
  rintro e w1 ⟨rfl, rfl⟩
  go_wp2_with fail
  go_ret
  exact ⟨rfl, rfl⟩
theorem div64_zero (lo : Int) (W : World) (hl : 0 ≤ lo ∧ lo < 18446744073709551616) :
    Calls Try.prog 106 #[.int .u64 0, .int .u64 lo, .int .u64 65536] W fun e w' => e = .returned (.tuple #[.int .u64 (lo / 65536), .int .u64 (lo % 65536)]) ∧ Later W w' := by
  go_enter Try.func106, Try.ntmps106
  go_wp2_with fail
  go_quiet (fail)
  go_wp2_with fail
  go_ret2
  exact ⟨rfl, (Later.refl W).drewN _⟩
set_option maxRecDepth 100000 in
theorem div64_some (hi lo : Int) (W : World) (hh : 1 ≤ hi ∧ hi < 65536) (hl : 0 ≤ lo ∧ lo < 18446744073709551616) :
    Calls Try.prog 106 #[.int .u64 hi, .int .u64 lo, .int .u64 65536] W fun e w' => e = .returned (.tuple #[.int .u64 ((hi * 18446744073709551616 + lo) / 65536), .int .u64 (lo % 65536)]) ∧ Later W w' := by
  have h1 : ¬ (65536 : Int) ≤ hi := by omega
  have h2 : (hi == 0) = false := by simp; omega
  have e10 : bits BinOp.and .u64 9223372036854775808 4294967295 = 0 := by decide
  obtain ⟨u, hu⟩ : ∃ u, Hid (hi * 140737488355328 + lo / 131072 = u) := ⟨_, rfl⟩
  have hub : 0 ≤ u ∧ u < 9223372036854775808 := by have := hu.out; omega
  have e11 : bits BinOp.or .u64 (hi * 140737488355328) (lo / 131072) = u := by
    have h := u64_or_nat (hi.toNat * 140737488355328) (lo.toNat / 131072) (by omega) (by omega)
    rw [nat_join 47 _ _ (by omega) (by omega)] at h
    rw [← hu.out, show hi * 140737488355328 = ((hi.toNat * 140737488355328 : Nat) : Int) by omega, show lo / 131072 = ((lo.toNat / 131072 : Nat) : Int) by omega, h]
    omega
  obtain ⟨v, hv⟩ : ∃ v, Hid (lo % 131072 * 32768 = v) := ⟨_, rfl⟩
  have hvb : 0 ≤ v ∧ v < 4294967296 := by have := hv.out; omega
  have e12 : IntKind.u64.wrap (lo * 140737488355328) = v * 4294967296 := by rw [IntKind.wrap_u64, ← hv.out]; omega
  have e13 : v * 4294967296 / 4294967296 = v := by omega
  have e14 : bits BinOp.and .u64 (v * 4294967296) 4294967295 = 0 := by
    have h := u64_and_nat (v.toNat * 4294967296) 4294967295 (by omega) (by omega)
    rw [Nat.and_two_pow_sub_one_eq_mod _ 32] at h
    rw [show v * 4294967296 = ((v.toNat * 4294967296 : Nat) : Int) by omega]
    refine h.trans ?_
    omega
  obtain ⟨q1, hq1⟩ : ∃ q, Hid (u / 2147483648 = q) := ⟨_, rfl⟩
  have e15 : u / 2147483648 = q1 := hq1.out
  have hqb : 0 ≤ q1 ∧ q1 < 4294967296 := by omega
  obtain ⟨r1, hr1⟩ : ∃ r, Hid (u - q1 * 2147483648 = r) := ⟨_, rfl⟩
  have e16 : u - q1 * 2147483648 = r1 := hr1.out
  have hrb : 0 ≤ r1 ∧ r1 < 2147483648 := by omega
  obtain ⟨t, ht⟩ : ∃ t, Hid (r1 * 4294967296 + v = t) := ⟨_, rfl⟩
  have htb : 0 ≤ t ∧ t < 9223372036854775808 := by have := ht.out; omega
  have e17 : IntKind.u64.wrap (IntKind.u64.wrap (IntKind.u64.wrap (u * 4294967296) + v) - IntKind.u64.wrap (q1 * 9223372036854775808)) = t := by
    have := ht.out
    simp only [IntKind.wrap_u64]
    omega
  obtain ⟨q0, hq0⟩ : ∃ q, Hid (t / 2147483648 = q) := ⟨_, rfl⟩
  have e18 : t / 2147483648 = q0 := hq0.out
  have hqb0 : 0 ≤ q0 ∧ q0 < 4294967296 := by omega
  obtain ⟨r0, hr0⟩ : ∃ r, Hid (t - q0 * 2147483648 = r) := ⟨_, rfl⟩
  have e19 : t - q0 * 2147483648 = r0 := hr0.out
  have hrb0 : 0 ≤ r0 ∧ r0 < 2147483648 := by omega
  have fin1 : Hid (q1 * 4294967296 + q0 = (hi * 18446744073709551616 + lo) / 65536) := Lib.hid (by
    have := hu.out; have := hv.out; have := ht.out
    omega)
  have fin2 : Hid (IntKind.u64.wrap (IntKind.u64.wrap (IntKind.u64.wrap (t * 4294967296)) - IntKind.u64.wrap (q0 * 9223372036854775808)) / 140737488355328 = lo % 65536) := Lib.hid (by
    have := hv.out; have := ht.out
    simp only [IntKind.wrap_u64]
    omega)
  go_enter Try.func106, Try.ntmps106
  go_wp2_with fail
  refine (lead64_k _).mono ?_
  rintro e w1 ⟨rfl, rfl⟩
  go_wp2_with fail
  refine wp_loop_rounds 1 ?_
  rw [rounds_succ]
  go_wp2_with fail
  refine wp_loop_rounds 1 ?_
  rw [rounds_succ]
  go_wp2_with fail
  go_ret2
  exact ⟨ret_2 (int_v fin1.out) (int_v fin2.out), Later.refl W⟩
end Go.Proofs.Ytackbajbladhhaa
