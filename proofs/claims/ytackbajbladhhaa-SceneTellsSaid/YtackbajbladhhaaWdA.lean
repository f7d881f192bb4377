/-
  Numbers of 128 bits in two words, plainly; the library's carries.
-/
import Derived.Shelf.Bits.Mul64
import Derived.Shelf.Spec.BitsCarry
import Derived.Test.YtackbajbladhhaaKit
namespace Go.Proofs.Ytackbajbladhhaa
open Go.RowKit Go.Shelf
set_option linter.unusedVariables false
set_option linter.unusedSimpArgs false

def lays264_ren : Go.Shelf.Ren := ⟨fun | 264 => 104 | n => n, fun | 53 => 105 | 46 => 117 | n => n, fun | n => n⟩
theorem lays264 : Go.Proofs.Lays.n264 Try.prog lays264_ren := {
  mixed := by kernel_rfl
  f264 := Try.func104.trans (congrArg some (by kernel_rfl))
  t46 := Try.underlying117
  a46 := Try.isAgg117
  z46 := Try.sizeOf117
  v46 := Try.zeroValue117
  t53 := Try.underlying105
  a53 := Try.isAgg105
  z53 := Try.sizeOf105
  v53 := Try.zeroValue105 }
/-- 2 to the 64th. -/
@[irreducible] def w64 : Int := 18446744073709551616
theorem w64_eq : w64 = 18446744073709551616 := by unfold w64; rfl
theorem mul64_any (x y : Int) (hx : 0 ≤ x ∧ x < 18446744073709551616) (hy : 0 ≤ y ∧ y < 18446744073709551616) (w : World) :
    Calls Try.prog 104 #[.int .u64 x, .int .u64 y] w fun e w' => e = .returned (.tuple #[.int .u64 (x * y / w64), .int .u64 (x * y % w64)]) ∧ w = w' := by
  obtain ⟨a, rfl⟩ := Int.eq_ofNat_of_zero_le hx.1
  obtain ⟨b, rfl⟩ := Int.eq_ofNat_of_zero_le hy.1
  refine (show Calls Try.prog 104 #[.int .u64 a, .int .u64 b] w _ from Any.bits_Mul64 lays264 a b (by omega) (by omega) w).mono ?_
  rintro e w' ⟨rfl, rfl⟩
  refine ⟨?_, rfl⟩
  rw [w64_eq]
  rfl
theorem add64_run (x y c : Int) (hx : 0 ≤ x ∧ x < 18446744073709551616) (hy : 0 ≤ y ∧ y < 18446744073709551616) (hc : 0 ≤ c ∧ c ≤ 1) (w : World) :
    (callFunc 107 #[.int .u64 x, .int .u64 y, .int .u64 c]).run Try.prog w = .ok (.value (.tuple #[.int .u64 ((x + y + c) % w64), .int .u64 ((x + y + c) / w64)])) w := by
  obtain ⟨a, rfl⟩ := Int.eq_ofNat_of_zero_le hx.1
  obtain ⟨b, rfl⟩ := Int.eq_ofNat_of_zero_le hy.1
  obtain ⟨d, rfl⟩ := Int.eq_ofNat_of_zero_le hc.1
  rw [run_callFunc_extern Try.func107 (by kernel_rfl) (by kernel_rfl) (by kernel_rfl) (e := add64Entry) (by kernel_rfl), run_add64 (a : Int) (b : Int) (d : Int) (by omega) (by omega) (by omega) (by omega), w64_eq]
  rfl
theorem sub64_run (x y c : Int) (hx : 0 ≤ x ∧ x < 18446744073709551616) (hy : 0 ≤ y ∧ y < 18446744073709551616) (hc : 0 ≤ c ∧ c ≤ 1) (w : World) :
    (callFunc 105 #[.int .u64 x, .int .u64 y, .int .u64 c]).run Try.prog w = .ok (.value (.tuple #[.int .u64 ((x - y - c) % w64), .int .u64 (0 - (x - y - c) / w64)])) w := by
  obtain ⟨a, rfl⟩ := Int.eq_ofNat_of_zero_le hx.1
  obtain ⟨b, rfl⟩ := Int.eq_ofNat_of_zero_le hy.1
  obtain ⟨d, rfl⟩ := Int.eq_ofNat_of_zero_le hc.1
  rw [run_callFunc_extern Try.func105 (by kernel_rfl) (by kernel_rfl) (by kernel_rfl) (e := sub64Entry) (by kernel_rfl), run_sub64 a b d (by omega), w64_eq]
  have e1 : (((a + 18446744073709551616 - b - d) % 18446744073709551616 : Nat) : Int) = ((a : Int) - b - d) % 18446744073709551616 := by omega
  have e2 : ((if a < b + d then 1 else 0 : Nat) : Int) = 0 - ((a : Int) - b - d) / 18446744073709551616 := by split <;> omega
  rw [e1, e2]
  rfl

/-! Two words. -/
@[irreducible] def hiW (z : Int) : Int := (z / 18446744073709551616 + 9223372036854775808) % 18446744073709551616 - 9223372036854775808
@[irreducible] def loW (z : Int) : Int := z % 18446744073709551616
theorem hiW_eq (z : Int) : hiW z = (z / 18446744073709551616 + 9223372036854775808) % 18446744073709551616 - 9223372036854775808 := by unfold hiW; rfl
theorem loW_eq (z : Int) : loW z = z % 18446744073709551616 := by unfold loW; rfl
abbrev wdV (z : Int) : Value := .agg #[.int .i64 (hiW z), .int .u64 (loW z)]
theorem loW_b (z : Int) : 0 ≤ loW z ∧ loW z < 18446744073709551616 := by rw [loW_eq]; omega
theorem hiW_b (z : Int) : -9223372036854775808 ≤ hiW z ∧ hiW z ≤ 9223372036854775807 := by rw [hiW_eq]; omega
/-- Numbers that go into two words. -/
def InW (z : Int) : Prop := -170141183460469231731687303715884105728 ≤ z ∧ z < 170141183460469231731687303715884105728
theorem hiW_neg {z : Int} (h : InW z) : (hiW z < 0) = (z < 0) := by
  unfold InW at h; rw [hiW_eq]; exact propext (by omega)
theorem wd_val {z : Int} (h : InW z) : z = hiW z * 18446744073709551616 + loW z := by
  unfold InW at h; rw [hiW_eq, loW_eq]; omega
theorem hiW_of {n : Int} (h : -9223372036854775808 ≤ n ∧ n ≤ 9223372036854775807) : hiW n = if n < 0 then -1 else 0 := by
  rw [hiW_eq]; split <;> omega
theorem wd_ext {x y : Int} (hx : InW x) (hy : InW y) (h1 : hiW x = hiW y) (h2 : loW x = loW y) : x = y := by
  rw [wd_val hx, wd_val hy, h1, h2]
end Go.Proofs.Ytackbajbladhhaa
