/-
  Chapter 11, plain law: a triangle parted by a fourth corner covers just what the three cover, each place once. Edges own what lies on them as if each place were moved a little to the right, and much less down.
-/
import Derived.Test.YtmpnojgciaoghaaCovW
namespace Go.Proofs.Ytmpnojgciaoghaa
open Go.RowKit Go.Shelf
set_option linter.unusedVariables false
set_option linter.unusedSimpArgs false

/-- The side of a place that is moved by 1 / 20000 to the right and 1 / 400000000 down, times 400000000. -/
def pert (a b : C3) (X Y : Int) : Int := 400000000 * sd a b X Y + ((b.x - a.x) - 20000 * (b.y - a.y))
theorem inE_pert {a b : C3} {X Y : Int} (ha : MayP a) (hb : MayP b) : inE a b X Y ↔ 0 < pert a b X Y := by
  unfold inE pert; unfold MayP at ha hb
  omega
theorem pert_zero {a b : C3} {X Y : Int} (ha : MayP a) (hb : MayP b) (h : pert a b X Y = 0) : a.x = b.x ∧ a.y = b.y := by
  unfold pert at h; unfold MayP at ha hb
  omega
theorem pert_rev (a b : C3) (X Y : Int) : pert b a X Y = - pert a b X Y := by unfold pert; rw [sd_rev a b]; omega
theorem sd_tri (a b p : C3) (X Y : Int) : sd a b X Y + sd b p X Y - sd a p X Y = sd a b p.x p.y := by unfold sd; grind
theorem pert_tri (a b p : C3) (X Y : Int) : pert a b X Y + pert b p X Y - pert a p X Y = 400000000 * sd a b p.x p.y := by
  have := sd_tri a b p X Y
  unfold pert; omega
theorem w_x (s t r p : C3) : sd t r p.x p.y * (p.x - s.x) + sd r s p.x p.y * (p.x - t.x) + sd s t p.x p.y * (p.x - r.x) = 0 := by unfold sd; grind
theorem w_y (s t r p : C3) : sd t r p.x p.y * (p.y - s.y) + sd r s p.x p.y * (p.y - t.y) + sd s t p.x p.y * (p.y - r.y) = 0 := by unfold sd; grind
theorem w_lin {b c a s t r X Y x0 x1 x2 y0 y1 y2 : Int} (hx : b * x0 + c * x1 + a * x2 = 0) (hy : b * y0 + c * y1 + a * y2 = 0)
    (hs : s = x0 * Y - y0 * X) (ht : t = x1 * Y - y1 * X) (hr : r = x2 * Y - y2 * X) :
    b * (400000000 * s + (x0 - 20000 * y0)) + c * (400000000 * t + (x1 - 20000 * y1)) + a * (400000000 * r + (x2 - 20000 * y2)) = 0 := by
  subst hs ht hr
  have e : b * (400000000 * (x0 * Y - y0 * X) + (x0 - 20000 * y0)) + c * (400000000 * (x1 * Y - y1 * X) + (x1 - 20000 * y1)) + a * (400000000 * (x2 * Y - y2 * X) + (x2 - 20000 * y2))
      = (b * x0 + c * x1 + a * x2) * (400000000 * Y + 1) - (b * y0 + c * y1 + a * y2) * (400000000 * X + 20000) := by grind
  rw [e, hx, hy]; simp
theorem sd_at (s p : C3) (X Y : Int) : sd s p X Y = (p.x - s.x) * (Y - p.y) - (p.y - s.y) * (X - p.x) := by unfold sd; grind
theorem pert_w (s t r p : C3) (X Y : Int) : sd t r p.x p.y * pert s p X Y + sd r s p.x p.y * pert t p X Y + sd s t p.x p.y * pert r p X Y = 0 := by
  unfold pert
  exact w_lin (w_x s t r p) (w_y s t r p) (sd_at s p X Y) (sd_at t p X Y) (sd_at r p X Y)

theorem prod_sign (x y : Int) (hx : 0 ≤ x) : ∃ p, x * y = p ∧ ((x = 0 ∧ p = 0) ∨ (0 < x ∧ y < 0 ∧ p < 0) ∨ (0 < x ∧ y = 0 ∧ p = 0) ∨ (0 < x ∧ 0 < y ∧ 0 < p)) := by
  refine ⟨_, rfl, ?_⟩
  rcases (show x = 0 ∨ 0 < x by omega) with rfl | hx
  · exact .inl ⟨rfl, by simp⟩
  rcases Int.lt_trichotomy y 0 with hy | rfl | hy
  · exact .inr (.inl ⟨hx, hy, Int.mul_neg_of_pos_of_neg hx hy⟩)
  · exact .inr (.inr (.inl ⟨hx, rfl, by simp⟩))
  · exact .inr (.inr (.inr ⟨hx, hy, Int.mul_pos hx hy⟩))

theorem split_to {a b c A B C u v w M : Int} (hM : 0 < M) (ha : 0 ≤ a) (hb : 0 ≤ b) (hc : 0 ≤ c) (r1 : A + v - u = M * a) (r2 : B + w - v = M * b) (r3 : C + u - w = M * c) (r4 : b * u + c * v + a * w = 0)
    (h1 : 0 < a) (h2 : 0 < A) (h3 : 0 < v) (h4 : u < 0) : 0 < B ∧ 0 < C := by
  have e1 : a * B = v * (a + b + c) + A * b := by
    have : B = M * b + v - w := by omega
    have : A = M * a + u - v := by omega
    grind
  have e2 : a * C = - u * (a + b + c) + A * c := by
    have : C = M * c + w - u := by omega
    have : A = M * a + u - v := by omega
    grind
  have p1 := Int.mul_pos h3 (show 0 < a + b + c by omega)
  have p2 := Int.mul_nonneg (show 0 ≤ A by omega) hb
  have p3 := Int.mul_pos (show 0 < -u by omega) (show 0 < a + b + c by omega)
  have p4 := Int.mul_nonneg (show 0 ≤ A by omega) hc
  exact ⟨Int.pos_of_mul_pos_right (by omega : 0 < a * B) h1, Int.pos_of_mul_pos_right (by omega : 0 < a * C) h1⟩

set_option maxHeartbeats 4000000 in
theorem split_law {a b c A B C u v w M : Int} (hM : 0 < M) (ha : 0 ≤ a) (hb : 0 ≤ b) (hc : 0 ≤ c) (hS : 0 < a + b + c) (r1 : A + v - u = M * a) (r2 : B + w - v = M * b) (r3 : C + u - w = M * c) (r4 : b * u + c * v + a * w = 0)
    (z1 : u = 0 → a = 0 ∧ c = 0) (z2 : v = 0 → a = 0 ∧ b = 0) (z3 : w = 0 → b = 0 ∧ c = 0) :
    (0 < A ∧ 0 < B ∧ 0 < C) ↔ ((0 < a ∧ 0 < A ∧ 0 < v ∧ u < 0) ∨ (0 < b ∧ 0 < B ∧ 0 < w ∧ v < 0) ∨ (0 < c ∧ 0 < C ∧ 0 < u ∧ w < 0)) := by
  constructor
  · rintro ⟨hA, hB, hC⟩
    obtain ⟨p, hp, p1⟩ := prod_sign b u hb
    obtain ⟨q, hq, q1⟩ := prod_sign c v hc
    obtain ⟨r, hr, t1⟩ := prod_sign a w ha
    have m1 : a = 0 → A + v - u = 0 := by rintro rfl; simpa using r1
    have m2 : b = 0 → B + w - v = 0 := by rintro rfl; simpa using r2
    have m3 : c = 0 → C + u - w = 0 := by rintro rfl; simpa using r3
    rw [hp, hq, hr] at r4
    clear hp hq hr hM r1 r2 r3
    have key : (u < 0 ∧ 0 < v ∧ 0 < a) ∨ (v < 0 ∧ 0 < w ∧ 0 < b) ∨ (w < 0 ∧ 0 < u ∧ 0 < c) := by
      rcases p1 with p1 | p1 | p1 | p1 <;> rcases q1 with q1 | q1 | q1 | q1 <;> rcases t1 with t1 | t1 | t1 | t1 <;> omega
    rcases key with k | k | k
    · exact .inl ⟨k.2.2, hA, k.2.1, k.1⟩
    · exact .inr (.inl ⟨k.2.2, hB, k.2.1, k.1⟩)
    · exact .inr (.inr ⟨k.2.2, hC, k.2.1, k.1⟩)
  · rintro (⟨h1, h2, h3, h4⟩ | ⟨h1, h2, h3, h4⟩ | ⟨h1, h2, h3, h4⟩)
    · have := split_to hM ha hb hc r1 r2 r3 r4 h1 h2 h3 h4; exact ⟨h2, this⟩
    · have := split_to (u := v) (v := w) (w := u) hM hb hc ha r2 r3 r1 (by omega) h1 h2 h3 h4; exact ⟨this.2, h2, this.1⟩
    · have := split_to (u := w) (v := u) (w := v) hM hc ha hb r3 r1 r2 (by omega) h1 h2 h3 h4; exact ⟨this.1, this.2, h2⟩
theorem cov_nn {a b c : C3} {X Y : Int} (h0 : 0 ≤ sd a b c.x c.y) : Cov a b c X Y ↔ CovP a b c X Y := by
  constructor
  · rintro (h | h)
    · exact h
    · have := h.1; have := sd_swap a b c; omega
  · exact .inl

/-- One of three, at most, and one just where the whole is. -/
theorem cov_split {s t r p : C3} (hs : MayP s) (ht : MayP t) (hr : MayP r) (hp : MayP p) (X Y : Int) (ha : 0 ≤ sd s t p.x p.y) (hb : 0 ≤ sd t r p.x p.y) (hc : 0 ≤ sd r s p.x p.y) :
    (Cov s t r X Y ↔ Cov s t p X Y ∨ Cov t r p X Y ∨ Cov r s p X Y) ∧ ¬ (Cov s t p X Y ∧ Cov t r p X Y) ∧ ¬ (Cov t r p X Y ∧ Cov r s p X Y) ∧ ¬ (Cov s t p X Y ∧ Cov r s p X Y) := by
  have hS := sd_sum s t r p.x p.y
  rw [cov_nn ha, cov_nn hb, cov_nn hc, cov_nn (a := s) (b := t) (c := r) (by omega)]
  unfold CovP
  rw [inE_pert hs ht, inE_pert ht hr, inE_pert hr hs, inE_pert ht hp, inE_pert hp hs, inE_pert hr hp, inE_pert hp ht, inE_pert hs hp, inE_pert hp hr, pert_rev s p, pert_rev t p, pert_rev r p]
  have r1 := pert_tri s t p X Y
  have r2 := pert_tri t r p X Y
  have r3 := pert_tri r s p X Y
  have r4 := pert_w s t r p X Y
  have z1 : pert s p X Y = 0 → sd s t p.x p.y = 0 ∧ sd r s p.x p.y = 0 := fun h => by
    obtain ⟨h1, h2⟩ := pert_zero hs hp h
    unfold sd; rw [← h1, ← h2]; constructor
    · simp
    · grind
  have z2 : pert t p X Y = 0 → sd s t p.x p.y = 0 ∧ sd t r p.x p.y = 0 := fun h => by
    obtain ⟨h1, h2⟩ := pert_zero ht hp h
    unfold sd; rw [← h1, ← h2]; constructor
    · grind
    · simp
  have z3 : pert r p X Y = 0 → sd t r p.x p.y = 0 ∧ sd r s p.x p.y = 0 := fun h => by
    obtain ⟨h1, h2⟩ := pert_zero hr hp h
    unfold sd; rw [← h1, ← h2]; constructor
    · grind
    · simp
  rw [← hS]
  generalize sd s t p.x p.y = a at *
  generalize sd t r p.x p.y = b at *
  generalize sd r s p.x p.y = c at *
  generalize pert s t X Y = A at *
  generalize pert t r X Y = B at *
  generalize pert r s X Y = C at *
  generalize pert s p X Y = u at *
  generalize pert t p X Y = v at *
  generalize pert r p X Y = w at *
  by_cases h0 : 0 < a + b + c
  · have := split_law (M := 400000000) (by omega) ha hb hc h0 r1 r2 r3 r4 z1 z2 z3
    clear r4
    refine ⟨?_, ?_, ?_, ?_⟩ <;> omega
  · clear r4 z1 z2 z3
    refine ⟨?_, ?_, ?_, ?_⟩ <;> omega

theorem cnt_rot (a b c : C3) (k : Nat) : cnt b c a k = cnt a b c k := by unfold cnt; simp only [may3_rot, cov_rot]
theorem cnt_swap (a b c : C3) (k : Nat) : cnt a c b k = cnt a b c k := by unfold cnt; simp only [may3_swap, cov_swap]

theorem cnt_split {s t r p : C3} (hs : MayP s) (ht : MayP t) (hr : MayP r) (hp : MayP p) (k : Nat) (ha : 0 ≤ sd s t p.x p.y) (hb : 0 ≤ sd t r p.x p.y) (hc : 0 ≤ sd r s p.x p.y) :
    cnt s t r k = cnt s t p k + cnt t r p k + cnt r s p k := by
  have h := cov_split hs ht hr hp (16 * ((k % 64 : Nat) : Int) + 8) (16 * ((k / 64 : Nat) : Int) + 8) ha hb hc
  unfold cnt
  rw [(may3_iff s t r).2 ⟨hs, ht, hr⟩, (may3_iff s t p).2 ⟨hs, ht, hp⟩, (may3_iff t r p).2 ⟨ht, hr, hp⟩, (may3_iff r s p).2 ⟨hr, hs, hp⟩]
  simp only [true_and]
  obtain ⟨h1, h2, h3, h4⟩ := h
  by_cases x1 : Cov s t p (16 * ((k % 64 : Nat) : Int) + 8) (16 * ((k / 64 : Nat) : Int) + 8) <;> by_cases x2 : Cov t r p (16 * ((k % 64 : Nat) : Int) + 8) (16 * ((k / 64 : Nat) : Int) + 8) <;> by_cases x3 : Cov r s p (16 * ((k % 64 : Nat) : Int) + 8) (16 * ((k / 64 : Nat) : Int) + 8) <;> simp_all

theorem cnt_split_any {s t r p : C3} (hs : MayP s) (ht : MayP t) (hr : MayP r) (hp : MayP p) (k : Nat)
    (h : (0 ≤ sd s t p.x p.y ∧ 0 ≤ sd t r p.x p.y ∧ 0 ≤ sd r s p.x p.y) ∨ (sd s t p.x p.y ≤ 0 ∧ sd t r p.x p.y ≤ 0 ∧ sd r s p.x p.y ≤ 0)) :
    cnt s t r k = cnt s t p k + cnt t r p k + cnt r s p k := by
  rcases h with ⟨ha, hb, hc⟩ | ⟨ha, hb, hc⟩
  · exact cnt_split hs ht hr hp k ha hb hc
  · have := cnt_split (s := s) (t := r) (r := t) hs hr ht hp k (by rw [sd_rev r s]; omega) (by rw [sd_rev t r]; omega) (by rw [sd_rev s t]; omega)
    have e1 : cnt t s p k = cnt s t p k := by rw [← cnt_rot t s p, cnt_swap s t p]
    have e2 : cnt s r p k = cnt r s p k := by rw [← cnt_rot s r p, cnt_swap r s p]
    have e3 : cnt r t p k = cnt t r p k := by rw [← cnt_rot r t p, cnt_swap t r p]
    rw [cnt_swap, e1, e2, e3] at this
    omega
end Go.Proofs.Ytmpnojgciaoghaa
