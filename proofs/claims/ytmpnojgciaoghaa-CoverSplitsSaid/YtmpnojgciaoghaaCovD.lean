/-
  Chapter 11: how deep a shape is at a pixel.
-/
import Derived.Test.YtmpnojgciaoghaaCovC
namespace Go.Proofs.Ytmpnojgciaoghaa
open Go.RowKit
set_option linter.unusedVariables false
set_option linter.unusedSimpArgs false

/-- The closure of the edge from a to b, at a place. -/
theorem edgeV_any (a b : C3) (d p e o : Nat) (x y s : Int) (i : Bool) (w : World)
    (h1 : w.cell? ⟨d, 0, none⟩ = some (.int .i64 (wrap64 (b.x - a.x)))) (h2 : w.cell? ⟨p, 0, none⟩ = some (.int .i64 a.x)) (h3 : w.cell? ⟨p, 1, none⟩ = some (.int .i64 a.y))
    (h4 : w.cell? ⟨e, 0, none⟩ = some (.int .i64 (wrap64 (b.y - a.y)))) (h5 : w.cell? ⟨o, 0, none⟩ = some (.bool (ownsB a b)))
    (hs : Hid (sdW a b x y = s)) (hi : Hid (inW a b x y = i)) :
    Calls Try.prog 37 #[.int .i64 x, .int .i64 y, .pointer (some ⟨d, 0, none⟩), .pointer (some ⟨p, 0, none⟩), .pointer (some ⟨e, 0, none⟩), .pointer (some ⟨o, 0, none⟩)] w
      fun e w' => e = .returned (.tuple #[.int .i64 s, .bool i]) ∧ Later w w' := by
  refine (edge_any d p e o _ _ a.x a.y (ownsB a b) x y s w h1 h2 h3 h4 h5 hs).mono ?_
  rintro e w' ⟨rfl, hl⟩
  refine ⟨ret_2 rfl (bool_v ?_), hl⟩
  rw [← hi.out, ← hs.out]; rfl

set_option maxHeartbeats 1000000 in
theorem shapeAt_any (B : Nat) (a b c : C3) (s x y s0 s1 s2 : Int) (i0 i1 i2 : Bool) (w : World) (hS : ShapeAt w B a b c s) (hx : 0 ≤ x ∧ x ≤ 63) (hy : 0 ≤ y ∧ y ≤ 63)
    (v0 v1 v2 : Value) (hv0 : w.cell? ⟨B, 10, none⟩ = some v0) (hE0 : EdgeV w v0 b c) (hv1 : w.cell? ⟨B, 11, none⟩ = some v1) (hE1 : EdgeV w v1 c a) (hv2 : w.cell? ⟨B, 12, none⟩ = some v2) (hE2 : EdgeV w v2 a b)
    (hs0 : Hid (sdW b c (16 * x + 8) (16 * y + 8) = s0)) (hs1 : Hid (sdW c a (16 * x + 8) (16 * y + 8) = s1)) (hs2 : Hid (sdW a b (16 * x + 8) (16 * y + 8) = s2))
    (hi0 : Hid (inW b c (16 * x + 8) (16 * y + 8) = i0)) (hi1 : Hid (inW c a (16 * x + 8) (16 * y + 8) = i1)) (hi2 : Hid (inW a b (16 * x + 8) (16 * y + 8) = i2)) :
    Calls Try.prog 29 #[.pointer (some ⟨B, 0, none⟩), .int .i64 x, .int .i64 y] w
      fun e w' => e = .returned (.tuple #[.int .u32 (atZ s s0 s1 s2 i0 i1 i2 a.z b.z c.z), .bool (atI s i0 i1 i2)]) ∧ Later w w' := by
  obtain ⟨⟨t0, t1, t2, t3, t4, t5, t6, t7, t8⟩, t9⟩ := hS
  obtain ⟨d0, p0, e0, o0, rfl, a1, a2, a3, a4, a5⟩ := hE0
  obtain ⟨d1, p1, e1, o1, rfl, b1, b2, b3, b4, b5⟩ := hE1
  obtain ⟨d2, p2, e2, o2, rfl, c1, c2, c3, c4, c5⟩ := hE2
  have j0 : ∀ w, (Instr.index 71 (.agg #[.func (.func 37) #[] #[.pointer (some ⟨d0, 0, none⟩), .pointer (some ⟨p0, 0, none⟩), .pointer (some ⟨e0, 0, none⟩), .pointer (some ⟨o0, 0, none⟩)], .func (.func 37) #[] #[.pointer (some ⟨d1, 0, none⟩), .pointer (some ⟨p1, 0, none⟩), .pointer (some ⟨e1, 0, none⟩), .pointer (some ⟨o1, 0, none⟩)], .func (.func 37) #[] #[.pointer (some ⟨d2, 0, none⟩), .pointer (some ⟨p2, 0, none⟩), .pointer (some ⟨e2, 0, none⟩), .pointer (some ⟨o2, 0, none⟩)]]) (.int .i64 0)).run Try.prog w = .ok (.func (.func 37) #[] #[.pointer (some ⟨d0, 0, none⟩), .pointer (some ⟨p0, 0, none⟩), .pointer (some ⟨e0, 0, none⟩), .pointer (some ⟨o0, 0, none⟩)]) w := fun _ => by kernel_rfl
  have j1 : ∀ w, (Instr.index 71 (.agg #[.func (.func 37) #[] #[.pointer (some ⟨d0, 0, none⟩), .pointer (some ⟨p0, 0, none⟩), .pointer (some ⟨e0, 0, none⟩), .pointer (some ⟨o0, 0, none⟩)], .func (.func 37) #[] #[.pointer (some ⟨d1, 0, none⟩), .pointer (some ⟨p1, 0, none⟩), .pointer (some ⟨e1, 0, none⟩), .pointer (some ⟨o1, 0, none⟩)], .func (.func 37) #[] #[.pointer (some ⟨d2, 0, none⟩), .pointer (some ⟨p2, 0, none⟩), .pointer (some ⟨e2, 0, none⟩), .pointer (some ⟨o2, 0, none⟩)]]) (.int .i64 1)).run Try.prog w = .ok (.func (.func 37) #[] #[.pointer (some ⟨d1, 0, none⟩), .pointer (some ⟨p1, 0, none⟩), .pointer (some ⟨e1, 0, none⟩), .pointer (some ⟨o1, 0, none⟩)]) w := fun _ => by kernel_rfl
  have j2 : ∀ w, (Instr.index 71 (.agg #[.func (.func 37) #[] #[.pointer (some ⟨d0, 0, none⟩), .pointer (some ⟨p0, 0, none⟩), .pointer (some ⟨e0, 0, none⟩), .pointer (some ⟨o0, 0, none⟩)], .func (.func 37) #[] #[.pointer (some ⟨d1, 0, none⟩), .pointer (some ⟨p1, 0, none⟩), .pointer (some ⟨e1, 0, none⟩), .pointer (some ⟨o1, 0, none⟩)], .func (.func 37) #[] #[.pointer (some ⟨d2, 0, none⟩), .pointer (some ⟨p2, 0, none⟩), .pointer (some ⟨e2, 0, none⟩), .pointer (some ⟨o2, 0, none⟩)]]) (.int .i64 2)).run Try.prog w = .ok (.func (.func 37) #[] #[.pointer (some ⟨d2, 0, none⟩), .pointer (some ⟨p2, 0, none⟩), .pointer (some ⟨e2, 0, none⟩), .pointer (some ⟨o2, 0, none⟩)]) w := fun _ => by kernel_rfl
  by_cases hz : s = 0
  · obtain rfl := hz
    go_enter Try.func29, Try.ntmps29
    go_wp2
    go_ret2
    exact ⟨ret_2 (int_v (by simp [atZ, atI])) (bool_v (by simp [atI])), Later.refl _⟩
  have hzb : (s == 0) = false := by simp [hz]
  go_enter Try.func29, Try.ntmps29
  go_wp2
  refine wp_loop_rounds 4 ?_
  rw [rounds_succ]
  go_wp2_with fail
  refine (edgeV_any b c d0 p0 e0 o0 _ _ s0 i0 _ a1 a2 a3 a4 a5 hs0 hi0).mono ?_
  rintro e w1 ⟨rfl, h1⟩
  clear t0 t1 t3 t4 t6 t7 a1 a2 a3 a4 a5 hv0 hv1 hv2
  replace t2 := h1.cell t2
  replace t5 := h1.cell t5
  replace t8 := h1.cell t8
  replace t9 := h1.cell t9
  replace b1 := h1.cell b1
  replace b2 := h1.cell b2
  replace b3 := h1.cell b3
  replace b4 := h1.cell b4
  replace b5 := h1.cell b5
  replace c1 := h1.cell c1
  replace c2 := h1.cell c2
  replace c3 := h1.cell c3
  replace c4 := h1.cell c4
  replace c5 := h1.cell c5
  cases i0
  · go_wp2
    go_ret2
    exact ⟨ret_2 (int_v (by simp [atZ, atI, hz])) (bool_v (by simp [atI, hz])), h1⟩
  go_wp2
  rw [rounds_succ]
  go_wp2_with fail
  refine (edgeV_any c a d1 p1 e1 o1 _ _ s1 i1 _ b1 b2 b3 b4 b5 hs1 hi1).mono ?_
  rintro e w2 ⟨rfl, h2⟩
  clear b1 b2 b3 b4 b5
  replace t2 := h2.cell t2
  replace t5 := h2.cell t5
  replace t8 := h2.cell t8
  replace t9 := h2.cell t9
  replace c1 := h2.cell c1
  replace c2 := h2.cell c2
  replace c3 := h2.cell c3
  replace c4 := h2.cell c4
  replace c5 := h2.cell c5
  cases i1
  · go_wp2
    go_ret2
    exact ⟨ret_2 (int_v (by simp [atZ, atI, hz])) (bool_v (by simp [atI, hz])), h1.trans h2⟩
  go_wp2
  rw [rounds_succ]
  go_wp2_with fail
  refine (edgeV_any a b d2 p2 e2 o2 _ _ s2 i2 _ c1 c2 c3 c4 c5 hs2 hi2).mono ?_
  rintro e w3 ⟨rfl, h3⟩
  clear c1 c2 c3 c4 c5
  replace t2 := h3.cell t2
  replace t5 := h3.cell t5
  replace t8 := h3.cell t8
  replace t9 := h3.cell t9
  cases i2
  · go_wp2
    go_ret2
    exact ⟨ret_2 (int_v (by simp [atZ, atI, hz])) (bool_v (by simp [atI, hz])), (h1.trans h2).trans h3⟩
  go_wp2
  rw [rounds_succ]
  go_wp2
  go_ret2
  exact ⟨ret_2 (int_v (by simp [atZ, atI, hz, wrap64_twice])) (bool_v (by simp [atI, hz])), (h1.trans h2).trans h3⟩

/-- What 'At' tells of three corners that may be, at a pixel: the sides as the machine reckons them. -/
def tellI (a b c : C3) (s x y : Int) : Bool := atI s (inW b c (16 * x + 8) (16 * y + 8)) (inW c a (16 * x + 8) (16 * y + 8)) (inW a b (16 * x + 8) (16 * y + 8))
def tellZ (a b c : C3) (s x y : Int) : Int := atZ s (sdW b c (16 * x + 8) (16 * y + 8)) (sdW c a (16 * x + 8) (16 * y + 8)) (sdW a b (16 * x + 8) (16 * y + 8)) (inW b c (16 * x + 8) (16 * y + 8)) (inW c a (16 * x + 8) (16 * y + 8)) (inW a b (16 * x + 8) (16 * y + 8)) a.z b.z c.z

/-- A made shape lies at block B. -/
def Shape (w : World) (B : Nat) (a b c : C3) (s : Int) : Prop :=
  ShapeAt w B a b c s ∧ ∃ v0 v1 v2, w.cell? ⟨B, 10, none⟩ = some v0 ∧ EdgeV w v0 b c ∧ w.cell? ⟨B, 11, none⟩ = some v1 ∧ EdgeV w v1 c a ∧ w.cell? ⟨B, 12, none⟩ = some v2 ∧ EdgeV w v2 a b
theorem Shape.later {w w' : World} {B : Nat} {a b c : C3} {s : Int} (h : Shape w B a b c s) (hl : Later w w') : Shape w' B a b c s := by
  obtain ⟨h0, v0, v1, v2, h1, h2, h3, h4, h5, h6⟩ := h
  exact ⟨h0.later hl, v0, v1, v2, hl.cell h1, h2.later hl, hl.cell h3, h4.later hl, hl.cell h5, h6.later hl⟩

theorem shape_any (B : Nat) (a b c : C3) (s x y : Int) (w : World) (hS : Shape w B a b c s) (hx : 0 ≤ x ∧ x ≤ 63) (hy : 0 ≤ y ∧ y ≤ 63) :
    Calls Try.prog 29 #[.pointer (some ⟨B, 0, none⟩), .int .i64 x, .int .i64 y] w
      fun e w' => e = .returned (.tuple #[.int .u32 (tellZ a b c s x y), .bool (tellI a b c s x y)]) ∧ Later w w' := by
  obtain ⟨h0, v0, v1, v2, h1, h2, h3, h4, h5, h6⟩ := hS
  exact shapeAt_any B a b c s x y _ _ _ _ _ _ w h0 hx hy v0 v1 v2 h1 h2 h3 h4 h5 h6 rfl rfl rfl rfl rfl rfl

/-- The corners, and the area, as a shape has them. -/
def shB (b c : C3) (s : Int) : C3 := if s < 0 then c else b
def shC (b c : C3) (s : Int) : C3 := if s < 0 then b else c
def shS (s : Int) : Int := if s < 0 then wrap64 (-s) else s
def MadeV (a b c : C3) (s : Int) (w : World) (e : Ending) (w' : World) : Prop :=
  ∃ B, e = .returned (.pointer (some ⟨B, 0, none⟩)) ∧ Later w w' ∧ Shape w' B a (shB b c s) (shC b c s) (shS s)

theorem made_any (a b c : C3) (w : World) : Calls Try.prog 28 #[tri a b c] w (MadeV a b c (sdW a b c.x c.y) w) := by
  obtain ⟨s, hs⟩ : ∃ s, Hid (sdW a b c.x c.y = s) := ⟨_, rfl⟩
  rw [hs.out]
  by_cases h0 : s < 0
  · refine (made_neg a b c s w hs h0).mono ?_
    rintro e w' ⟨B, he, hl, h⟩
    refine ⟨B, he, hl, ?_⟩
    simp only [shB, shC, shS, h0, if_true]
    exact h
  · refine (made_pos a b c s w hs h0).mono ?_
    rintro e w' ⟨B, he, hl, h⟩
    refine ⟨B, he, hl, ?_⟩
    simp only [shB, shC, shS, h0, if_false]
    exact h
end Go.Proofs.Ytmpnojgciaoghaa
