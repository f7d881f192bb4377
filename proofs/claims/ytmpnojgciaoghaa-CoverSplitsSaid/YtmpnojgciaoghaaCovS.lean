/-
  Chapter 11, plain laws: which pixels a triangle covers, and how deep, in whole numbers with no machine in sight.
-/
import Derived.Test.YtmpnojgciaoghaaCovI
namespace Go.Proofs.Ytmpnojgciaoghaa
open Go.RowKit Go.Shelf
set_option linter.unusedVariables false
set_option linter.unusedSimpArgs false

def inE (a b : C3) (X Y : Int) : Prop := 0 < sd a b X Y ∨ (sd a b X Y = 0 ∧ (b.y < a.y ∨ (b.y = a.y ∧ a.x < b.x)))
/-- Three corners that go round to the right cover a place. -/
def CovP (a b c : C3) (X Y : Int) : Prop := 0 < sd a b c.x c.y ∧ inE b c X Y ∧ inE c a X Y ∧ inE a b X Y
def Cov (a b c : C3) (X Y : Int) : Prop := CovP a b c X Y ∨ CovP a c b X Y
def depN (a b c : C3) (X Y : Int) : Int := sd b c X Y * a.z + sd c a X Y * b.z + sd a b X Y * c.z
def Dep (a b c : C3) (X Y : Int) : Int := (depN a b c X Y).tdiv (sd a b c.x c.y)

theorem px_bd {x : Int} (h : 0 ≤ x ∧ x ≤ 63) : -4096 ≤ 16 * x + 8 ∧ 16 * x + 8 ≤ 4096 := by omega
theorem inW_iff {a b : C3} {X Y : Int} (ha : MayP a) (hb : MayP b) (hX : -4096 ≤ X ∧ X ≤ 4096) (hY : -4096 ≤ Y ∧ Y ≤ 4096) : inW a b X Y = true ↔ inE a b X Y := by
  unfold inW inE ownsB
  rw [(sd_bd ha hb hX hY).1]
  simp
theorem sdc_bd {a b c : C3} (ha : MayP a) (hb : MayP b) (hc : MayP c) : sdW a b c.x c.y = sd a b c.x c.y ∧ -134217728 ≤ sd a b c.x c.y ∧ sd a b c.x c.y ≤ 134217728 := by
  unfold MayP at hc
  exact sd_bd ha hb (by omega) (by omega)

theorem atI_iff (s : Int) (i j k : Bool) : atI s i j k = true ↔ s ≠ 0 ∧ i = true ∧ j = true ∧ k = true := by
  unfold atI; simp [and_assoc]

theorem hit_iff {a b c : C3} {x y : Int} (ha : MayP a) (hb : MayP b) (hc : MayP c) (hx : 0 ≤ x ∧ x ≤ 63) (hy : 0 ≤ y ∧ y ≤ 63) :
    tellI a (shB b c (sdW a b c.x c.y)) (shC b c (sdW a b c.x c.y)) (shS (sdW a b c.x c.y)) x y = true ↔ Cov a b c (16 * x + 8) (16 * y + 8) := by
  have hX := px_bd hx
  have hY := px_bd hy
  have h1 := sdc_bd ha hb hc
  have h2 := sd_swap a b c
  unfold tellI
  rw [atI_iff, h1.1]
  unfold Cov CovP
  by_cases hn : sd a b c.x c.y < 0
  · rw [show shB b c (sd a b c.x c.y) = c from if_pos hn, show shC b c (sd a b c.x c.y) = b from if_pos hn, show shS (sd a b c.x c.y) = wrap64 (-sd a b c.x c.y) from if_pos hn]
    rw [inW_iff hc hb hX hY, inW_iff hb ha hX hY, inW_iff ha hc hX hY, w64 (by omega) (by omega), h2]
    constructor
    · rintro ⟨_, h⟩; exact .inr ⟨by omega, h⟩
    · rintro (⟨h, _⟩ | ⟨_, h⟩)
      · omega
      · exact ⟨by omega, h⟩
  · rw [show shB b c (sd a b c.x c.y) = b from if_neg hn, show shC b c (sd a b c.x c.y) = c from if_neg hn, show shS (sd a b c.x c.y) = sd a b c.x c.y from if_neg hn]
    rw [inW_iff hb hc hX hY, inW_iff hc ha hX hY, inW_iff ha hb hX hY, h2]
    constructor
    · rintro ⟨_, h⟩; exact .inl ⟨by omega, h⟩
    · rintro (⟨_, h⟩ | ⟨h, _⟩)
      · exact ⟨by omega, h⟩
      · omega

theorem inE_nn {a b : C3} {X Y : Int} (h : inE a b X Y) : 0 ≤ sd a b X Y := by unfold inE at h; omega
theorem sd_sum (a b c : C3) (X Y : Int) : sd b c X Y + sd c a X Y + sd a b X Y = sd a b c.x c.y := by unfold sd; grind
theorem sd_bx (a b c : C3) (X Y : Int) : sd b c X Y * a.x + sd c a X Y * b.x + sd a b X Y * c.x = sd a b c.x c.y * X := by unfold sd; grind
theorem sd_by (a b c : C3) (X Y : Int) : sd b c X Y * a.y + sd c a X Y * b.y + sd a b X Y * c.y = sd a b c.x c.y * Y := by unfold sd; grind

theorem bary_le {s u v w A B C p M : Int} (hs : 0 < s) (hu : 0 ≤ u) (hv : 0 ≤ v) (hw : 0 ≤ w) (h1 : u + v + w = s) (h2 : u * A + v * B + w * C = s * p) (hA : A ≤ M) (hB : B ≤ M) (hC : C ≤ M) : p ≤ M := by
  have a := Int.mul_nonneg hu (show 0 ≤ M - A by omega)
  have b := Int.mul_nonneg hv (show 0 ≤ M - B by omega)
  have c := Int.mul_nonneg hw (show 0 ≤ M - C by omega)
  have d : u * (M - A) + v * (M - B) + w * (M - C) = s * (M - p) := by
    have e : s * (M - p) = s * M - s * p := Int.mul_sub _ _ _
    rw [e, ← h2, ← h1]; grind
  have e : 0 ≤ s * (M - p) := by omega
  have f := Int.nonneg_of_mul_nonneg_right e hs
  omega
theorem bary_ge {s u v w A B C p M : Int} (hs : 0 < s) (hu : 0 ≤ u) (hv : 0 ≤ v) (hw : 0 ≤ w) (h1 : u + v + w = s) (h2 : u * A + v * B + w * C = s * p) (hA : M ≤ A) (hB : M ≤ B) (hC : M ≤ C) : M ≤ p := by
  have := bary_le (A := -A) (B := -B) (C := -C) (p := -p) (M := -M) hs hu hv hw h1 (by rw [Int.mul_neg, Int.mul_neg, Int.mul_neg, Int.mul_neg]; omega) (by omega) (by omega) (by omega)
  omega

/-- What is covered lies between the corners. -/
theorem covP_box {a b c : C3} {X Y L H L' H' : Int} (h : CovP a b c X Y) (hL : L ≤ a.x ∧ L ≤ b.x ∧ L ≤ c.x) (hH : a.x ≤ H ∧ b.x ≤ H ∧ c.x ≤ H) (hL' : L' ≤ a.y ∧ L' ≤ b.y ∧ L' ≤ c.y) (hH' : a.y ≤ H' ∧ b.y ≤ H' ∧ c.y ≤ H') :
    L ≤ X ∧ X ≤ H ∧ L' ≤ Y ∧ Y ≤ H' := by
  obtain ⟨h0, h1, h2, h3⟩ := h
  have n1 := inE_nn h1
  have n2 := inE_nn h2
  have n3 := inE_nn h3
  exact ⟨bary_ge h0 n1 n2 n3 (sd_sum a b c X Y) (sd_bx a b c X Y) hL.1 hL.2.1 hL.2.2, bary_le h0 n1 n2 n3 (sd_sum a b c X Y) (sd_bx a b c X Y) hH.1 hH.2.1 hH.2.2,
    bary_ge h0 n1 n2 n3 (sd_sum a b c X Y) (sd_by a b c X Y) hL'.1 hL'.2.1 hL'.2.2, bary_le h0 n1 n2 n3 (sd_sum a b c X Y) (sd_by a b c X Y) hH'.1 hH'.2.1 hH'.2.2⟩
theorem cov_box {a b c : C3} {X Y L H L' H' : Int} (h : Cov a b c X Y) (hL : L ≤ a.x ∧ L ≤ b.x ∧ L ≤ c.x) (hH : a.x ≤ H ∧ b.x ≤ H ∧ c.x ≤ H) (hL' : L' ≤ a.y ∧ L' ≤ b.y ∧ L' ≤ c.y) (hH' : a.y ≤ H' ∧ b.y ≤ H' ∧ c.y ≤ H') :
    L ≤ X ∧ X ≤ H ∧ L' ≤ Y ∧ Y ≤ H' := by
  rcases h with h | h
  · exact covP_box h hL hH hL' hH'
  · exact covP_box h ⟨hL.1, hL.2.2, hL.2.1⟩ ⟨hH.1, hH.2.2, hH.2.1⟩ ⟨hL'.1, hL'.2.2, hL'.2.1⟩ ⟨hH'.1, hH'.2.2, hH'.2.1⟩

theorem lo3_any {a b c m : Int} (hm : -4096 ≤ m ∧ m ≤ 4096) (h : m = mn3 a b c) : lo3 a b c = (if m < 0 then 0 else m) / 16 := by
  unfold lo3; rw [← h, IntKind.wrap_i64, Int.tdiv_eq_ediv_of_nonneg (by omega)]; omega

theorem cellOf_none {a b c : C3} {s : Int} {p : Int × Int} (h : ¬ tellI a b c s p.1 p.2 = true) : cellOf a b c s p = none := if_neg h

theorem covL_eq {a b c : C3} {w h : Int} (ha : MayP a) (hb : MayP b) (hc : MayP c) (hw : 1 ≤ w ∧ w ≤ 64) (hh : 1 ≤ h ∧ h ≤ 64) :
    covL a b c w h = (pix 0 w 0 h).filterMap (cellOf a (shB b c (sdW a b c.x c.y)) (shC b c (sdW a b c.x c.y)) (shS (sdW a b c.x c.y))) := by
  have hx : -4096 ≤ mn3 a.x b.x c.x ∧ mn3 a.x b.x c.x ≤ 4096 ∧ mn3 a.x b.x c.x ≤ a.x ∧ mn3 a.x b.x c.x ≤ b.x ∧ mn3 a.x b.x c.x ≤ c.x := by unfold MayP at ha hb hc; unfold mn3; omega
  have hy : -4096 ≤ mn3 a.y b.y c.y ∧ mn3 a.y b.y c.y ≤ 4096 ∧ mn3 a.y b.y c.y ≤ a.y ∧ mn3 a.y b.y c.y ≤ b.y ∧ mn3 a.y b.y c.y ≤ c.y := by unfold MayP at ha hb hc; unfold mn3; omega
  have hX := lo3_any (a := a.x) (b := b.x) (c := c.x) ⟨hx.1, hx.2.1⟩ rfl
  have hY := lo3_any (a := a.y) (b := b.y) (c := c.y) ⟨hy.1, hy.2.1⟩ rfl
  have mX := mx3_bd (a := a.x) (b := b.x) (c := c.x) (by unfold MayP at ha; omega) (by unfold MayP at hb; omega) (by unfold MayP at hc; omega)
  have mY := mx3_bd (a := a.y) (b := b.y) (c := c.y) (by unfold MayP at ha; omega) (by unfold MayP at hb; omega) (by unfold MayP at hc; omega)
  refine (pix_mid (by rw [hX]; omega) (by unfold gX; omega) (by rw [hY]; omega) (by unfold eY; omega) ?_).symm
  intro x y x0 x1 y0 y1 hn
  refine cellOf_none fun ht => hn ?_
  have hcov := (hit_iff ha hb hc ⟨x0, by omega⟩ ⟨y0, by omega⟩).1 ht
  obtain ⟨k1, k2, k3, k4⟩ := cov_box hcov hx.2.2 mX.2.2 hy.2.2 mY.2.2
  rw [hX, hY]
  unfold gX eY
  omega
end Go.Proofs.Ytmpnojgciaoghaa
