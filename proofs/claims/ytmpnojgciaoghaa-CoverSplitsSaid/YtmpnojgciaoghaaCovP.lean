/-
  Chapter 11, plainly: corners, sides, which edge owns, what a triangle covers.
-/
import Derived.RowKit
namespace Go.Proofs.Ytmpnojgciaoghaa
open Go.RowKit
set_option linter.unusedVariables false
set_option linter.unusedSimpArgs false

structure C3 where
  x : Int
  y : Int
  z : Int

def ownsB (a b : C3) : Bool := decide (b.y < a.y ∨ (b.y = a.y ∧ a.x < b.x))
def mayB (c : C3) : Bool := decide (-4096 ≤ c.x ∧ c.x ≤ 4096 ∧ -4096 ≤ c.y ∧ c.y ≤ 4096 ∧ 0 ≤ c.z ∧ c.z ≤ 16777215)
def sd (a b : C3) (x y : Int) : Int := (b.x - a.x) * (y - a.y) - (b.y - a.y) * (x - a.x)
def sdW (a b : C3) (x y : Int) : Int := wrap64 (wrap64 (wrap64 (b.x - a.x) * wrap64 (y - a.y)) - wrap64 (wrap64 (b.y - a.y) * wrap64 (x - a.x)))
def inW (a b : C3) (x y : Int) : Bool := decide (0 < sdW a b x y) || (decide (sdW a b x y = 0) && ownsB a b)
theorem wrap64_twice (x : Int) : wrap64 (wrap64 x) = wrap64 x := by unfold wrap64; omega
def atI (s : Int) (i0 i1 i2 : Bool) : Bool := !decide (s = 0) && i0 && i1 && i2
def atZ (s s0 s1 s2 : Int) (i0 i1 i2 : Bool) (z0 z1 z2 : Int) : Int :=
  if atI s i0 i1 i2 then (wrap64 ((wrap64 (wrap64 (wrap64 (s0 * z0) + wrap64 (s1 * z1)) + wrap64 (s2 * z2))).tdiv s)) % 4294967296 else 0
end Go.Proofs.Ytmpnojgciaoghaa
