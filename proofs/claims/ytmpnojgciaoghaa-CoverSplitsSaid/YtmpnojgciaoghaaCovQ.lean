/-
  Chapter 11, plainly: where corners may be, nothing wraps.
-/
import Derived.Test.YtmpnojgciaoghaaCovP
namespace Go.Proofs.Ytmpnojgciaoghaa
open Go.RowKit
set_option linter.unusedVariables false
set_option linter.unusedSimpArgs false

def MayP (c : C3) : Prop := -4096 ≤ c.x ∧ c.x ≤ 4096 ∧ -4096 ≤ c.y ∧ c.y ≤ 4096 ∧ 0 ≤ c.z ∧ c.z ≤ 16777215
theorem mayB_iff (c : C3) : mayB c = true ↔ MayP c := by unfold mayB MayP; exact decide_eq_true_iff

theorem mul_bd {u v : Int} (h1 : -8192 ≤ u) (h2 : u ≤ 8192) (h3 : -8192 ≤ v) (h4 : v ≤ 8192) : -67108864 ≤ u * v ∧ u * v ≤ 67108864 := by
  have a := Int.mul_nonneg (show 0 ≤ 8192 - u by omega) (show 0 ≤ 8192 + v by omega)
  have b := Int.mul_nonneg (show 0 ≤ 8192 + u by omega) (show 0 ≤ 8192 - v by omega)
  have c := Int.mul_nonneg (show 0 ≤ 8192 - u by omega) (show 0 ≤ 8192 - v by omega)
  have d := Int.mul_nonneg (show 0 ≤ 8192 + u by omega) (show 0 ≤ 8192 + v by omega)
  simp only [Int.sub_mul, Int.add_mul, Int.mul_sub, Int.mul_add] at a b c d
  omega

theorem w64 {n : Int} (h1 : -9223372036854775808 ≤ n) (h2 : n ≤ 9223372036854775807) : wrap64 n = n := by unfold wrap64; omega

theorem sd_bd {a b : C3} {x y : Int} (ha : MayP a) (hb : MayP b) (hx : -4096 ≤ x ∧ x ≤ 4096) (hy : -4096 ≤ y ∧ y ≤ 4096) : sdW a b x y = sd a b x y ∧ -134217728 ≤ sd a b x y ∧ sd a b x y ≤ 134217728 := by
  unfold MayP at ha hb
  have m1 := mul_bd (u := b.x - a.x) (v := y - a.y) (by omega) (by omega) (by omega) (by omega)
  have m2 := mul_bd (u := b.y - a.y) (v := x - a.x) (by omega) (by omega) (by omega) (by omega)
  unfold sdW sd
  rw [w64 (n := b.x - a.x) (by omega) (by omega), w64 (n := y - a.y) (by omega) (by omega), w64 (n := b.y - a.y) (by omega) (by omega), w64 (n := x - a.x) (by omega) (by omega)]
  rw [w64 (n := (b.x - a.x) * (y - a.y)) (by omega) (by omega), w64 (n := (b.y - a.y) * (x - a.x)) (by omega) (by omega)]
  rw [w64 (by omega) (by omega)]
  omega

theorem sd_swap (a b c : C3) : sd a c b.x b.y = - sd a b c.x c.y := by
  unfold sd
  grind

theorem sdW_swap {a b c : C3} (ha : MayP a) (hb : MayP b) (hc : MayP c) (h : sdW a b c.x c.y < 0) : sdW a c b.x b.y = wrap64 (- sdW a b c.x c.y) ∧ ¬ sdW a c b.x b.y < 0 := by
  have h1 := sd_bd (x := c.x) (y := c.y) ha hb (by unfold MayP at hc; omega) (by unfold MayP at hc; omega)
  have h2 := sd_bd (x := b.x) (y := b.y) ha hc (by unfold MayP at hb; omega) (by unfold MayP at hb; omega)
  have h3 := sd_swap a b c
  rw [h1.1] at h ⊢
  rw [h2.1, h3, w64 (by omega) (by omega)]
  omega
end Go.Proofs.Ytmpnojgciaoghaa
