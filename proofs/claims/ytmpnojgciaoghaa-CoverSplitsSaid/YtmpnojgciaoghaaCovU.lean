/-
  Chapter 11, plain laws: what is covered, in any order of the corners; depths lie between the corners'.
-/
import Derived.Test.YtmpnojgciaoghaaCovS
import Derived.Test.YtmpnojgciaoghaaCovL2
namespace Go.Proofs.Ytmpnojgciaoghaa
open Go.RowKit Go.Shelf
set_option linter.unusedVariables false
set_option linter.unusedSimpArgs false

instance (a b : C3) (X Y : Int) : Decidable (inE a b X Y) := by unfold inE; infer_instance
instance (a b c : C3) (X Y : Int) : Decidable (CovP a b c X Y) := by unfold CovP; infer_instance
instance (a b c : C3) (X Y : Int) : Decidable (Cov a b c X Y) := by unfold Cov; infer_instance

theorem sd_rot (a b c : C3) : sd b c a.x a.y = sd a b c.x c.y := by unfold sd; grind
theorem sd_rev (a b : C3) (X Y : Int) : sd b a X Y = - sd a b X Y := by unfold sd; grind
theorem covP_rot (a b c : C3) (X Y : Int) : CovP b c a X Y ↔ CovP a b c X Y := by
  unfold CovP; rw [sd_rot]
  constructor
  · rintro ⟨h0, h1, h2, h3⟩; exact ⟨h0, h3, h1, h2⟩
  · rintro ⟨h0, h1, h2, h3⟩; exact ⟨h0, h2, h3, h1⟩
theorem cov_rot (a b c : C3) (X Y : Int) : Cov b c a X Y ↔ Cov a b c X Y := by
  unfold Cov; rw [covP_rot a b c, ← covP_rot a c b, ← covP_rot c b a]
theorem cov_swap (a b c : C3) (X Y : Int) : Cov a c b X Y ↔ Cov a b c X Y := by
  unfold Cov; exact Or.comm
theorem depN_rot (a b c : C3) (X Y : Int) : depN b c a X Y = depN a b c X Y := by unfold depN; omega
theorem dep_rot (a b c : C3) (X Y : Int) : Dep b c a X Y = Dep a b c X Y := by unfold Dep; rw [depN_rot, sd_rot]
theorem depN_swap (a b c : C3) (X Y : Int) : depN a c b X Y = - depN a b c X Y := by
  unfold depN; rw [sd_rev b c, sd_rev a b, sd_rev c a]; grind
theorem dep_swap (a b c : C3) (X Y : Int) : Dep a c b X Y = Dep a b c X Y := by
  unfold Dep; rw [depN_swap, sd_swap, Int.neg_tdiv, Int.tdiv_neg, Int.neg_neg]

theorem bary_n {s u v w A B C M : Int} (hu : 0 ≤ u) (hv : 0 ≤ v) (hw : 0 ≤ w) (h1 : u + v + w = s) (hA : A ≤ M) (hB : B ≤ M) (hC : C ≤ M) : u * A + v * B + w * C ≤ s * M := by
  have a := Int.mul_nonneg hu (show 0 ≤ M - A by omega)
  have b := Int.mul_nonneg hv (show 0 ≤ M - B by omega)
  have c := Int.mul_nonneg hw (show 0 ≤ M - C by omega)
  have d : u * (M - A) + v * (M - B) + w * (M - C) = s * M - (u * A + v * B + w * C) := by rw [← h1]; grind
  omega
theorem bary_m {s u v w A B C M : Int} (hu : 0 ≤ u) (hv : 0 ≤ v) (hw : 0 ≤ w) (h1 : u + v + w = s) (hA : M ≤ A) (hB : M ≤ B) (hC : M ≤ C) : s * M ≤ u * A + v * B + w * C := by
  have := bary_n (A := -A) (B := -B) (C := -C) (M := -M) hu hv hw h1 (by omega) (by omega) (by omega)
  rw [Int.mul_neg, Int.mul_neg, Int.mul_neg, Int.mul_neg] at this
  omega

theorem depP_bd {a b c : C3} {X Y L H : Int} (h : CovP a b c X Y) (h0 : 0 ≤ L) (hL : L ≤ a.z ∧ L ≤ b.z ∧ L ≤ c.z) (hH : a.z ≤ H ∧ b.z ≤ H ∧ c.z ≤ H) : L ≤ Dep a b c X Y ∧ Dep a b c X Y ≤ H ∧ 0 ≤ depN a b c X Y ∧ depN a b c X Y ≤ sd a b c.x c.y * H := by
  obtain ⟨hs, e1, e2, e3⟩ := h
  have n1 := inE_nn e1
  have n2 := inE_nn e2
  have n3 := inE_nn e3
  have u1 : depN a b c X Y ≤ sd a b c.x c.y * H := bary_n n1 n2 n3 (sd_sum a b c X Y) hH.1 hH.2.1 hH.2.2
  have u2 : sd a b c.x c.y * L ≤ depN a b c X Y := bary_m n1 n2 n3 (sd_sum a b c X Y) hL.1 hL.2.1 hL.2.2
  have u3 := Int.mul_nonneg (show 0 ≤ sd a b c.x c.y by omega) h0
  refine ⟨?_, ?_, by omega, u1⟩
  · unfold Dep; rw [Int.tdiv_eq_ediv_of_nonneg (by omega)]
    exact Int.le_ediv_of_mul_le hs (by rw [Int.mul_comm]; exact u2)
  · unfold Dep; rw [Int.tdiv_eq_ediv_of_nonneg (by omega)]
    exact Int.ediv_le_of_le_mul hs (by rw [Int.mul_comm]; exact u1)
theorem dep_bd {a b c : C3} {X Y L H : Int} (h : Cov a b c X Y) (h0 : 0 ≤ L) (hL : L ≤ a.z ∧ L ≤ b.z ∧ L ≤ c.z) (hH : a.z ≤ H ∧ b.z ≤ H ∧ c.z ≤ H) : L ≤ Dep a b c X Y ∧ Dep a b c X Y ≤ H := by
  rcases h with h | h
  · have := depP_bd h h0 hL hH; exact ⟨this.1, this.2.1⟩
  · have := depP_bd h h0 ⟨hL.1, hL.2.2, hL.2.1⟩ ⟨hH.1, hH.2.2, hH.2.1⟩
    rw [dep_swap] at this; exact ⟨this.1, this.2.1⟩

theorem mul_bd2 {u v : Int} (h1 : 0 ≤ u) (h2 : u ≤ 134217728) (h3 : 0 ≤ v) (h4 : v ≤ 16777215) : 0 ≤ u * v ∧ u * v ≤ 2251799679467520 := by
  have a := Int.mul_nonneg h1 h3
  have b := Int.mul_le_mul h2 h4 h3 (show (0:Int) ≤ 134217728 by omega)
  exact ⟨a, by omega⟩

/-- The depth that the machine reckons is the depth. -/
theorem atZ_dep {a b c : C3} {X Y : Int} (ha : MayP a) (hb : MayP b) (hc : MayP c) (hX : -4096 ≤ X ∧ X ≤ 4096) (hY : -4096 ≤ Y ∧ Y ≤ 4096) (h : CovP a b c X Y) :
    atZ (sd a b c.x c.y) (sdW b c X Y) (sdW c a X Y) (sdW a b X Y) (inW b c X Y) (inW c a X Y) (inW a b X Y) a.z b.z c.z = Dep a b c X Y := by
  have hd := depP_bd (L := 0) (H := 16777215) h (by omega) (by unfold MayP at ha hb hc; omega) (by unfold MayP at ha hb hc; omega)
  obtain ⟨hs, e1, e2, e3⟩ := h
  have b1 := sd_bd hb hc hX hY
  have b2 := sd_bd hc ha hX hY
  have b3 := sd_bd ha hb hX hY
  have m1 := mul_bd2 (u := sd b c X Y) (v := a.z) (inE_nn e1) b1.2.2 (by unfold MayP at ha; omega) (by unfold MayP at ha; omega)
  have m2 := mul_bd2 (u := sd c a X Y) (v := b.z) (inE_nn e2) b2.2.2 (by unfold MayP at hb; omega) (by unfold MayP at hb; omega)
  have m3 := mul_bd2 (u := sd a b X Y) (v := c.z) (inE_nn e3) b3.2.2 (by unfold MayP at hc; omega) (by unfold MayP at hc; omega)
  unfold atZ
  rw [if_pos ((atI_iff _ _ _ _).2 ⟨by omega, (inW_iff hb hc hX hY).2 e1, (inW_iff hc ha hX hY).2 e2, (inW_iff ha hb hX hY).2 e3⟩), b1.1, b2.1, b3.1]
  rw [w64 (n := sd b c X Y * a.z) (by omega) (by omega), w64 (n := sd c a X Y * b.z) (by omega) (by omega), w64 (n := sd a b X Y * c.z) (by omega) (by omega), w64 (n := sd b c X Y * a.z + sd c a X Y * b.z) (by omega) (by omega), w64 (n := sd b c X Y * a.z + sd c a X Y * b.z + sd a b X Y * c.z) (by omega) (by omega)]
  show wrap64 (Dep a b c X Y) % 4294967296 = _
  rw [w64 (n := Dep a b c X Y) (by omega) (by omega), Int.emod_eq_of_lt (by omega) (by omega)]

def cellC (a b c : C3) (p : Int × Int) : Option Q3 := if Cov a b c (16 * p.1 + 8) (16 * p.2 + 8) then some (p.1, p.2, Dep a b c (16 * p.1 + 8) (16 * p.2 + 8)) else none

theorem tell_dep {a b c : C3} {x y : Int} (ha : MayP a) (hb : MayP b) (hc : MayP c) (hx : 0 ≤ x ∧ x ≤ 63) (hy : 0 ≤ y ∧ y ≤ 63) (h : Cov a b c (16 * x + 8) (16 * y + 8)) :
    tellZ a (shB b c (sdW a b c.x c.y)) (shC b c (sdW a b c.x c.y)) (shS (sdW a b c.x c.y)) x y = Dep a b c (16 * x + 8) (16 * y + 8) := by
  have h1 := sdc_bd ha hb hc
  unfold tellZ
  rw [h1.1]
  rcases h with h | h
  · have hn : ¬ sd a b c.x c.y < 0 := by have := h.1; omega
    rw [show shB b c (sd a b c.x c.y) = b from if_neg hn, show shC b c (sd a b c.x c.y) = c from if_neg hn, show shS (sd a b c.x c.y) = sd a b c.x c.y from if_neg hn]
    exact atZ_dep ha hb hc (px_bd hx) (px_bd hy) h
  · have h2 := sd_swap a b c
    have hn : sd a b c.x c.y < 0 := by have := h.1; omega
    rw [show shB b c (sd a b c.x c.y) = c from if_pos hn, show shC b c (sd a b c.x c.y) = b from if_pos hn, show shS (sd a b c.x c.y) = wrap64 (-sd a b c.x c.y) from if_pos hn,
      w64 (by omega) (by omega), ← h2, ← dep_swap]
    exact atZ_dep ha hc hb (px_bd hx) (px_bd hy) h

theorem cellOf_eq {a b c : C3} {p : Int × Int} (ha : MayP a) (hb : MayP b) (hc : MayP c) (hx : 0 ≤ p.1 ∧ p.1 ≤ 63) (hy : 0 ≤ p.2 ∧ p.2 ≤ 63) :
    cellOf a (shB b c (sdW a b c.x c.y)) (shC b c (sdW a b c.x c.y)) (shS (sdW a b c.x c.y)) p = cellC a b c p := by
  have h1 := hit_iff ha hb hc hx hy
  unfold cellOf cellC
  by_cases h : Cov a b c (16 * p.1 + 8) (16 * p.2 + 8)
  · rw [if_pos h, if_pos (h1.2 h), tell_dep ha hb hc hx hy h]
  · rw [if_neg h, if_neg (mt h1.1 h)]

theorem filterMap_cong {α β : Type} {f g : α → Option β} : ∀ {l : List α}, (∀ x ∈ l, f x = g x) → l.filterMap f = l.filterMap g
  | [], _ => rfl
  | a :: l, h => by rw [List.filterMap_cons, List.filterMap_cons, h a (by simp), filterMap_cong (fun x hx => h x (by simp [hx]))]

theorem CL_eq (a b c : C3) (w h : Int) : CL a b c w h = if sizeOk w h && may3 a b c then (pix 0 w 0 h).filterMap (cellC a b c) else [] := by
  unfold CL
  split
  · rename_i hs
    rw [Bool.and_eq_true] at hs
    obtain ⟨hw1, hw2, hh1, hh2⟩ := of_decide_eq_true hs.1
    obtain ⟨ha, hb, hc⟩ := (may3_iff a b c).1 hs.2
    unfold refL
    exact filterMap_cong (fun p hp => by rw [mem_pix] at hp; exact cellOf_eq ha hb hc (by omega) (by omega))
  · rfl

theorem may3_rot (a b c : C3) : may3 b c a = may3 a b c := by unfold may3; cases mayB a <;> cases mayB b <;> cases mayB c <;> rfl
theorem may3_swap (a b c : C3) : may3 a c b = may3 a b c := by unfold may3; cases mayB a <;> cases mayB b <;> cases mayB c <;> rfl
theorem cellC_rot (a b c : C3) : cellC b c a = cellC a b c := by
  funext p; unfold cellC
  by_cases h : Cov a b c (16 * p.1 + 8) (16 * p.2 + 8)
  · rw [if_pos h, if_pos ((cov_rot a b c _ _).2 h), dep_rot]
  · rw [if_neg h, if_neg (mt (cov_rot a b c _ _).1 h)]
theorem cellC_swap (a b c : C3) : cellC a c b = cellC a b c := by
  funext p; unfold cellC
  by_cases h : Cov a b c (16 * p.1 + 8) (16 * p.2 + 8)
  · rw [if_pos h, if_pos ((cov_swap a b c _ _).2 h), dep_swap]
  · rw [if_neg h, if_neg (mt (cov_swap a b c _ _).1 h)]
theorem CL_rot (a b c : C3) (w h : Int) : CL b c a w h = CL a b c w h := by rw [CL_eq, CL_eq, may3_rot, cellC_rot]
theorem CL_swap (a b c : C3) (w h : Int) : CL a c b w h = CL a b c w h := by rw [CL_eq, CL_eq, may3_swap, cellC_swap]

/-- The area that is answered. -/
def areaV (a b c : C3) : Int := if may3 a b c then sdW a b c.x c.y else 0
theorem areaV_bd (a b c : C3) : -134217728 ≤ areaV a b c ∧ areaV a b c ≤ 134217728 := by
  unfold areaV; split
  · rename_i hs
    obtain ⟨ha, hb, hc⟩ := (may3_iff a b c).1 hs
    have := sdc_bd ha hb hc; omega
  · omega
theorem areaV_rot (a b c : C3) : areaV b c a = areaV a b c := by
  unfold areaV; rw [may3_rot]; split
  · rename_i hs
    obtain ⟨ha, hb, hc⟩ := (may3_iff a b c).1 hs
    rw [(sdc_bd ha hb hc).1, (sdc_bd hb hc ha).1, sd_rot]
  · rfl
theorem areaV_swap (a b c : C3) : areaV a c b = - areaV a b c := by
  unfold areaV; rw [may3_swap]; split
  · rename_i hs
    obtain ⟨ha, hb, hc⟩ := (may3_iff a b c).1 hs
    rw [(sdc_bd ha hb hc).1, (sdc_bd ha hc hb).1, sd_swap]
  · rfl
theorem CL_p0 (a b c : C3) (w h : Int) : CL b c a w h = CL a b c w h := CL_rot a b c w h
theorem CL_p1 (a b c : C3) (w h : Int) : CL c a b w h = CL a b c w h := (CL_rot b c a w h).trans (CL_rot a b c w h)
theorem CL_p2 (a b c : C3) (w h : Int) : CL a c b w h = CL a b c w h := CL_swap a b c w h
theorem CL_p3 (a b c : C3) (w h : Int) : CL c b a w h = CL a b c w h := (CL_rot a c b w h).trans (CL_swap a b c w h)
theorem CL_p4 (a b c : C3) (w h : Int) : CL b a c w h = CL a b c w h := (CL_rot c b a w h).trans (CL_p3 a b c w h)
theorem may_p0 (a b c : C3) : may3 b c a = may3 a b c := may3_rot a b c
theorem may_p1 (a b c : C3) : may3 c a b = may3 a b c := (may3_rot b c a).trans (may3_rot a b c)
theorem may_p2 (a b c : C3) : may3 a c b = may3 a b c := may3_swap a b c
theorem may_p3 (a b c : C3) : may3 c b a = may3 a b c := (may3_rot a c b).trans (may3_swap a b c)
theorem may_p4 (a b c : C3) : may3 b a c = may3 a b c := (may3_rot c b a).trans (may_p3 a b c)
theorem area_p0 (a b c : C3) : areaV b c a = areaV a b c := areaV_rot a b c
theorem area_p1 (a b c : C3) : areaV c a b = areaV a b c := (areaV_rot b c a).trans (areaV_rot a b c)
theorem area_p2 (a b c : C3) : areaV a c b = - areaV a b c := areaV_swap a b c
theorem area_p3 (a b c : C3) : areaV c b a = - areaV a b c := (areaV_rot a c b).trans (areaV_swap a b c)
theorem area_p4 (a b c : C3) : areaV b a c = - areaV a b c := (areaV_rot c b a).trans (area_p3 a b c)
end Go.Proofs.Ytmpnojgciaoghaa
