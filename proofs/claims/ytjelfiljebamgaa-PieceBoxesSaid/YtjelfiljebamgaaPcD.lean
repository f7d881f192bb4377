/-
  Chapter 21: a piece is read.
-/
import Derived.Test.YtjelfiljebamgaaPcC
import Derived.Test.YtjelfiljebamgaaPkY
namespace Go.Proofs.Ytjelfiljebamgaa
open Go.RowKit Go.Shelf
set_option linter.unusedVariables false
set_option linter.unusedSimpArgs false
attribute [local go_sem] Oper.semAt_some

def rd1 (b : List Int) : Nat × List Int × Bool := rU 18446744073709551615 b false
def rd2 (b : List Int) : Nat × List Int × Bool := rU 4095 (rd1 b).2.1 (rd1 b).2.2
def rd3 (b : List Int) : Nat × List Int × Bool := rU 4095 (rd2 b).2.1 (rd2 b).2.2
def rd4 (b : List Int) : List Int × List Int × Bool := rT 880 (rd3 b).2.1 (rd3 b).2.2
/-- Are bytes a piece's? -/
def RdOk (b : List Int) : Prop := rE (rd4 b).2.1 (rd4 b).2.2 = 0 ∧ May (rd1 b).1 (rd3 b).1 (((rd2 b).1 : Int) + 1) (rd4 b).1.length
theorem rT_byt (m : Nat) (L : List Int) (lost : Bool) (h : Byt L) : Byt (rT m L lost).1 := by
  have hu : Byt (rU m L false).2.1 := by
    unfold rU
    simp only [Bool.false_eq_true, if_false]
    split
    · split
      · exact h.drop _
      · exact h
    · exact h
  unfold rT
  split
  · intro x hx; cases hx
  · split
    · intro x hx; cases hx
    · exact hu.take _
theorem rU_byt (m : Nat) (L : List Int) (lost : Bool) (h : Byt L) : Byt (rU m L lost).2.1 := by
  unfold rU
  split
  · exact h
  · split
    · split
      · exact h.drop _
      · exact h
    · exact h
set_option maxRecDepth 100000 in
theorem read_yes (u : Value) (b : List Int) (W : World) (hu : BytV W u b) (hb : b.length ≤ 1000000) (hok : RdOk b) :
    Calls Try.prog 13 #[u] W fun e w' => ∃ uD, e = .returned (.tuple #[pcV (rd1 b).1 (rd3 b).1 (((rd2 b).1 : Int) + 1) uD, .int .i64 0]) ∧ w'.ownsRow W.heap.size 5 1 uD (rd4 b).1.length (encB (rd4 b).1) ∧ Later W w' := by
  have hby := hu.1
  unfold RdOk at hok
  have hlen1 := rU_len 18446744073709551615 b false
  have hlen2 := rU_len 4095 (rd1 b).2.1 (rd1 b).2.2
  have hlen3 := rU_len 4095 (rd2 b).2.1 (rd2 b).2.2
  have H1 := Lib.hid (fun p v w h => ruint_any p v b false w h hb)
  have H2 := Lib.hid (fun p v w h => rsmall_any p 4095 v (rd1 b).2.1 (rd1 b).2.2 w h (by omega) (Nat.le_trans hlen1 hb))
  have H3 := Lib.hid (fun p v w h => rsmall_any p 4095 v (rd2 b).2.1 (rd2 b).2.2 w h (by omega) (Nat.le_trans (Nat.le_trans hlen2 hlen1) hb))
  have H4 := Lib.hid (fun p v w h => rtext_any p 880 v (rd3 b).2.1 (rd3 b).2.2 w h (by omega) (Nat.le_trans (Nat.le_trans hlen3 (Nat.le_trans hlen2 hlen1)) hb))
  have hlo := rU_le 4095 (rd1 b).2.1 (rd1 b).2.2
  rw [show rU 18446744073709551615 b false = rd1 b from rfl] at H1
  rw [show rU 4095 (rd1 b).2.1 (rd1 b).2.2 = rd2 b from rfl] at H2 hlo
  rw [show rU 4095 (rd2 b).2.1 (rd2 b).2.2 = rd3 b from rfl] at H3
  rw [show rT 880 (rd3 b).2.1 (rd3 b).2.2 = rd4 b from rfl] at H4
  have hD4 : Byt (rd4 b).1 := rT_byt _ _ _ (rU_byt _ _ _ (rU_byt _ _ _ (rU_byt _ _ _ hby)))
  obtain ⟨R1, hR1⟩ : ∃ R, rd1 b = R := ⟨_, rfl⟩
  obtain ⟨R2, hR2⟩ : ∃ R, rd2 b = R := ⟨_, rfl⟩
  obtain ⟨R3, hR3⟩ : ∃ R, rd3 b = R := ⟨_, rfl⟩
  obtain ⟨R4, hR4⟩ : ∃ R, rd4 b = R := ⟨_, rfl⟩
  rw [hR1, hR2, hR3, hR4] at hok
  rw [hR1] at H1 H2
  rw [hR2] at H2 H3 hlo
  rw [hR3] at H3 H4
  rw [hR4] at H4 hD4
  first | rw [hR1, hR2, hR3, hR4] | skip
  clear hR1 hR2 hR3 hR4 hlen1 hlen2 hlen3
  obtain ⟨i, L1, b1⟩ := R1
  obtain ⟨o, L2, b2⟩ := R2
  obtain ⟨a, L3, b3⟩ := R3
  obtain ⟨D, L4, b4⟩ := R4
  dsimp only at H1 H2 H3 H4 hlo hok hD4 ⊢
  obtain ⟨I, hI⟩ : ∃ I : Int, Hid ((i : Int) = I) := ⟨_, rfl⟩
  rw [hI.out] at H1 hok
  first | rw [hI.out] | skip
  have hO : 0 ≤ (o : Int) ∧ (o : Int) ≤ 4095 := by omega
  clear hlo
  go_enter Try.func13, Try.ntmps13
  go_upto_region 1 with fail
  have hl0 : Later W (W.alloc (.cells #[.int .u64 0, .int .i64 0, .int .i64 0, .slice none 0 0] 25)) := (Later.refl _).alloc _
  have z0 : (W.alloc (.cells #[.int .u64 0, .int .i64 0, .int .i64 0, .slice none 0 0] 25)).heap[W.heap.size]? = some (.cells #[.int .u64 0, .int .i64 0, .int .i64 0, .slice none 0 0] 25 (0, 0)) := heap_alloc_new _ _
  obtain ⟨X0, hX0⟩ : ∃ X, X = W.alloc (.cells #[.int .u64 0, .int .i64 0, .int .i64 0, .slice none 0 0] 25) := ⟨_, rfl⟩
  rw [← hX0] at hl0 z0 ⊢
  clear hX0
  have hu0 := Lib.hid (hu.later hl0)
  have hWX : W.heap.size < X0.heap.size := (Array.getElem?_eq_some_iff.1 z0).1
  clear hu
  go_wp2_with fail
  refine (newReader_any u b _ hu0.out hb).mono ?_
  rintro e w1 ⟨p, v1, rfl, h1, hp, hl1⟩
  replace z0 := (hl1.block _ hWX).trans z0
  replace hl0 := hl0.trans hl1
  clear hl1 hu0
  have hWp : W.heap.size ≤ p := by omega
  have hpW : W.heap.size ≠ p := by omega
  go_wp2_with fail
  refine (H1.out _ _ _ h1).mono ?_
  rintro e w2 ⟨rfl, ⟨v2, h2⟩, g2⟩
  dsimp only at h2
  replace z0 := (g2.block _ (Array.getElem?_eq_some_iff.1 z0).1 (fun e => hpW (Option.some.inj e))).trans z0
  replace hl0 := rw_step hl0 g2 hWp
  clear H1 g2 h1
  go_wp2_with fail
  refine (H2.out _ _ _ h2).mono ?_
  rintro e w3 ⟨rfl, ⟨v3, h3⟩, g3⟩
  dsimp only at h3
  replace z0 := (g3.block _ (Array.getElem?_eq_some_iff.1 z0).1 (fun e => hpW (Option.some.inj e))).trans z0
  replace hl0 := rw_step hl0 g3 hWp
  clear H2 g3 h2
  go_wp2_with fail
  refine (H3.out _ _ _ h3).mono ?_
  rintro e w4 ⟨rfl, ⟨v4, h4⟩, g4⟩
  dsimp only at h4
  replace z0 := (g4.block _ (Array.getElem?_eq_some_iff.1 z0).1 (fun e => hpW (Option.some.inj e))).trans z0
  replace hl0 := rw_step hl0 g4 hWp
  clear H3 g4 h3
  have hsz4 := (Array.getElem?_eq_some_iff.1 z0).1
  go_wp2_with fail
  refine (H4.out _ _ _ h4).mono ?_
  rintro e w5 ⟨uD, rfl, ⟨v5, h5⟩, hrD, g5⟩
  dsimp only at h5 hrD
  replace z0 := (g5.block _ (Array.getElem?_eq_some_iff.1 z0).1 (fun e => hpW (Option.some.inj e))).trans z0
  replace hl0 := rw_step hl0 g5 hWp
  obtain ⟨hvD, hinD⟩ := bytV_of_row hD4 hrD
  replace hrD := row_mono hrD (base' := W.heap.size + 1) hsz4
  clear H4 g5 h4 hsz4 hinD
  obtain ⟨aoD, capD, hue⟩ := bytV_form hvD
  replace hrD := Lib.hid hrD
  replace hvD := Lib.hid hvD
  obtain ⟨nD, hnD⟩ : ∃ x, Hid (D.length = x) := ⟨_, rfl⟩
  rw [hnD.out] at hue hrD
  subst hue
  go_upto_region 3 with fail
  have hX : Later w5 (w5.alloc (.cells #[.int .u64 I, .int .i64 a, .int .i64 ((o : Int) + 1), .slice aoD nD capD] 25)) := (Later.refl _).alloc _
  have HE := Lib.hid (rend_any p v5 L4 b4 _ (h5.later hX))
  rw [hok.1] at HE
  have HM := Lib.hid (may_yes I a ((o : Int) + 1) _ D _ (hvD.out.later hX) hok.2)
  have z1 := (hX.block _ (Array.getElem?_eq_some_iff.1 z0).1).trans z0
  have hlt := (Array.getElem?_eq_some_iff.1 z0).1
  clear h5 hvD z0 hok
  go_wp2_with fail
  refine HE.out.mono ?_
  rintro e w6 ⟨rfl, rfl⟩
  go_wp2_with fail
  refine HM.out.mono ?_
  rintro e w7 ⟨rfl, hl7⟩
  have e0 : w7.cell? ⟨w5.heap.size, 0, none⟩ = some (.int .u64 I) := hl7.cell (by simp)
  have e1 : w7.cell? ⟨w5.heap.size, 1, none⟩ = some (.int .i64 a) := hl7.cell (by simp)
  have e2 : w7.cell? ⟨w5.heap.size, 2, none⟩ = some (.int .i64 ((o : Int) + 1)) := hl7.cell (by simp)
  have e3 : w7.cell? ⟨w5.heap.size, 3, none⟩ = some (.slice aoD nD capD) := hl7.cell (by simp)
  have z7 := (hl7.block _ (Array.getElem?_eq_some_iff.1 z1).1).trans z1
  have y0 : w7.cell? ⟨W.heap.size, 0, none⟩ = some (.int .u64 0) := cell_of_row w7 _ 0 _ _ _ z7
  have y1 : w7.cell? ⟨W.heap.size, 1, none⟩ = some (.int .i64 0) := cell_of_row w7 _ 1 _ _ _ z7
  have y2 : w7.cell? ⟨W.heap.size, 2, none⟩ = some (.int .i64 0) := cell_of_row w7 _ 2 _ _ _ z7
  have y3 : w7.cell? ⟨W.heap.size, 3, none⟩ = some (.slice none 0 0) := cell_of_row w7 _ 3 _ _ _ z7
  have x0 := frozen_row z7 0
  have x1 := frozen_row z7 1
  have x2 := frozen_row z7 2
  have x3 := frozen_row z7 3
  have hl := (hl0.trans hX).trans hl7
  have hrD7 := Lib.hid (row_later hrD.out (hX.trans hl7))
  have zz7 := Lib.hid z7
  clear HE HM z1 z7 hX hl7 hl0 hrD
  go_wp2_with fail
  refine bodyPost_ret (v := .tuple #[pcV I a ((o : Int) + 1) (.slice aoD nD capD), .int .i64 0]) ?_ rfl ?_
  · have hbl : w7.heap[W.heap.size]? = some (.cells #[.int .u64 0, .int .i64 0, .int .i64 0, .slice none 0 0] 25 (0, 0)) := zz7.out
    simp only [results]
    go_simp
  · have hW : W.heap.size < W.heap.size + 1 := Nat.lt_succ_self _
    refine ⟨_, rfl, row_mono (ownsRow_setCell_below (a := ⟨W.heap.size, 3, none⟩) (ownsRow_setCell_below (a := ⟨W.heap.size, 2, none⟩) (ownsRow_setCell_below (a := ⟨W.heap.size, 1, none⟩) (ownsRow_setCell_below (a := ⟨W.heap.size, 0, none⟩) (by rw [hnD.out]; exact hrD7.out) hW _) hW _) hW _) hW _) (Nat.le_succ _), (((hl.setCell (Nat.le_refl _) _).setCell (Nat.le_refl _) _).setCell (Nat.le_refl _) _).setCell (Nat.le_refl _) _⟩
set_option maxRecDepth 100000 in
theorem read_no (u : Value) (b : List Int) (W : World) (hu : BytV W u b) (hb : b.length ≤ 1000000) (hok : ¬ RdOk b) :
    Calls Try.prog 13 #[u] W fun e w' => e = .returned (.tuple #[pcV 0 0 0 (.slice none 0 0), .int .i64 210]) ∧ Later W w' := by
  have hby := hu.1
  unfold RdOk at hok
  have hlen1 := rU_len 18446744073709551615 b false
  have hlen2 := rU_len 4095 (rd1 b).2.1 (rd1 b).2.2
  have hlen3 := rU_len 4095 (rd2 b).2.1 (rd2 b).2.2
  have H1 := Lib.hid (fun p v w h => ruint_any p v b false w h hb)
  have H2 := Lib.hid (fun p v w h => rsmall_any p 4095 v (rd1 b).2.1 (rd1 b).2.2 w h (by omega) (Nat.le_trans hlen1 hb))
  have H3 := Lib.hid (fun p v w h => rsmall_any p 4095 v (rd2 b).2.1 (rd2 b).2.2 w h (by omega) (Nat.le_trans (Nat.le_trans hlen2 hlen1) hb))
  have H4 := Lib.hid (fun p v w h => rtext_any p 880 v (rd3 b).2.1 (rd3 b).2.2 w h (by omega) (Nat.le_trans (Nat.le_trans hlen3 (Nat.le_trans hlen2 hlen1)) hb))
  have hlo := rU_le 4095 (rd1 b).2.1 (rd1 b).2.2
  rw [show rU 18446744073709551615 b false = rd1 b from rfl] at H1
  rw [show rU 4095 (rd1 b).2.1 (rd1 b).2.2 = rd2 b from rfl] at H2 hlo
  rw [show rU 4095 (rd2 b).2.1 (rd2 b).2.2 = rd3 b from rfl] at H3
  rw [show rT 880 (rd3 b).2.1 (rd3 b).2.2 = rd4 b from rfl] at H4
  have hD4 : Byt (rd4 b).1 := rT_byt _ _ _ (rU_byt _ _ _ (rU_byt _ _ _ (rU_byt _ _ _ hby)))
  obtain ⟨R1, hR1⟩ : ∃ R, rd1 b = R := ⟨_, rfl⟩
  obtain ⟨R2, hR2⟩ : ∃ R, rd2 b = R := ⟨_, rfl⟩
  obtain ⟨R3, hR3⟩ : ∃ R, rd3 b = R := ⟨_, rfl⟩
  obtain ⟨R4, hR4⟩ : ∃ R, rd4 b = R := ⟨_, rfl⟩
  rw [hR1, hR2, hR3, hR4] at hok
  rw [hR1] at H1 H2
  rw [hR2] at H2 H3 hlo
  rw [hR3] at H3 H4
  rw [hR4] at H4 hD4
  first | rw [hR1, hR2, hR3, hR4] | skip
  clear hR1 hR2 hR3 hR4 hlen1 hlen2 hlen3
  obtain ⟨i, L1, b1⟩ := R1
  obtain ⟨o, L2, b2⟩ := R2
  obtain ⟨a, L3, b3⟩ := R3
  obtain ⟨D, L4, b4⟩ := R4
  dsimp only at H1 H2 H3 H4 hlo hok hD4 ⊢
  obtain ⟨I, hI⟩ : ∃ I : Int, Hid ((i : Int) = I) := ⟨_, rfl⟩
  rw [hI.out] at H1 hok
  first | rw [hI.out] | skip
  have hO : 0 ≤ (o : Int) ∧ (o : Int) ≤ 4095 := by omega
  clear hlo
  replace hok := Lib.hid hok
  go_enter Try.func13, Try.ntmps13
  go_upto_region 1 with fail
  have hl0 : Later W (W.alloc (.cells #[.int .u64 0, .int .i64 0, .int .i64 0, .slice none 0 0] 25)) := (Later.refl _).alloc _
  have z0 : (W.alloc (.cells #[.int .u64 0, .int .i64 0, .int .i64 0, .slice none 0 0] 25)).heap[W.heap.size]? = some (.cells #[.int .u64 0, .int .i64 0, .int .i64 0, .slice none 0 0] 25 (0, 0)) := heap_alloc_new _ _
  obtain ⟨X0, hX0⟩ : ∃ X, X = W.alloc (.cells #[.int .u64 0, .int .i64 0, .int .i64 0, .slice none 0 0] 25) := ⟨_, rfl⟩
  rw [← hX0] at hl0 z0 ⊢
  clear hX0
  have hu0 := Lib.hid (hu.later hl0)
  have hWX : W.heap.size < X0.heap.size := (Array.getElem?_eq_some_iff.1 z0).1
  clear hu
  go_wp2_with fail
  refine (newReader_any u b _ hu0.out hb).mono ?_
  rintro e w1 ⟨p, v1, rfl, h1, hp, hl1⟩
  replace z0 := (hl1.block _ hWX).trans z0
  replace hl0 := hl0.trans hl1
  clear hl1 hu0
  have hWp : W.heap.size ≤ p := by omega
  have hpW : W.heap.size ≠ p := by omega
  go_wp2_with fail
  refine (H1.out _ _ _ h1).mono ?_
  rintro e w2 ⟨rfl, ⟨v2, h2⟩, g2⟩
  dsimp only at h2
  replace z0 := (g2.block _ (Array.getElem?_eq_some_iff.1 z0).1 (fun e => hpW (Option.some.inj e))).trans z0
  replace hl0 := rw_step hl0 g2 hWp
  clear H1 g2 h1
  go_wp2_with fail
  refine (H2.out _ _ _ h2).mono ?_
  rintro e w3 ⟨rfl, ⟨v3, h3⟩, g3⟩
  dsimp only at h3
  replace z0 := (g3.block _ (Array.getElem?_eq_some_iff.1 z0).1 (fun e => hpW (Option.some.inj e))).trans z0
  replace hl0 := rw_step hl0 g3 hWp
  clear H2 g3 h2
  go_wp2_with fail
  refine (H3.out _ _ _ h3).mono ?_
  rintro e w4 ⟨rfl, ⟨v4, h4⟩, g4⟩
  dsimp only at h4
  replace z0 := (g4.block _ (Array.getElem?_eq_some_iff.1 z0).1 (fun e => hpW (Option.some.inj e))).trans z0
  replace hl0 := rw_step hl0 g4 hWp
  clear H3 g4 h3
  have hsz4 := (Array.getElem?_eq_some_iff.1 z0).1
  go_wp2_with fail
  refine (H4.out _ _ _ h4).mono ?_
  rintro e w5 ⟨uD, rfl, ⟨v5, h5⟩, hrD, g5⟩
  dsimp only at h5 hrD
  replace z0 := (g5.block _ (Array.getElem?_eq_some_iff.1 z0).1 (fun e => hpW (Option.some.inj e))).trans z0
  replace hl0 := rw_step hl0 g5 hWp
  obtain ⟨hvD, hinD⟩ := bytV_of_row hD4 hrD
  replace hrD := row_mono hrD (base' := W.heap.size + 1) hsz4
  clear H4 g5 h4 hsz4 hinD
  obtain ⟨aoD, capD, hue⟩ := bytV_form hvD
  replace hrD := Lib.hid hrD
  replace hvD := Lib.hid hvD
  obtain ⟨nD, hnD⟩ : ∃ x, Hid (D.length = x) := ⟨_, rfl⟩
  rw [hnD.out] at hue hrD
  subst hue
  go_upto_region 3 with fail
  have hX : Later w5 (w5.alloc (.cells #[.int .u64 I, .int .i64 a, .int .i64 ((o : Int) + 1), .slice aoD nD capD] 25)) := (Later.refl _).alloc _
  have HE := Lib.hid (rend_any p v5 L4 b4 _ (h5.later hX))
  have z7 := (hX.block _ (Array.getElem?_eq_some_iff.1 z0).1).trans z0
  have hl := hl0.trans hX
  by_cases hE : rE L4 b4 = 0
  · rw [hE] at HE
    have HM := Lib.hid (may_no I a ((o : Int) + 1) _ D _ (hvD.out.later hX) (fun h => hok.out ⟨hE, h⟩))
    clear h5 hvD z0 hok hl0 hE
    go_wp2_with fail
    refine HE.out.mono ?_
    rintro e w6 ⟨rfl, rfl⟩
    go_wp2_with fail
    refine HM.out.mono ?_
    rintro e w7 ⟨rfl, hl7⟩
    replace z7 := (hl7.block _ (Array.getElem?_eq_some_iff.1 z7).1).trans z7
    replace hl := hl.trans hl7
    have y0 : w7.cell? ⟨W.heap.size, 0, none⟩ = some (.int .u64 0) := cell_of_row w7 _ 0 _ _ _ z7
    have y1 : w7.cell? ⟨W.heap.size, 1, none⟩ = some (.int .i64 0) := cell_of_row w7 _ 1 _ _ _ z7
    have y2 : w7.cell? ⟨W.heap.size, 2, none⟩ = some (.int .i64 0) := cell_of_row w7 _ 2 _ _ _ z7
    have y3 : w7.cell? ⟨W.heap.size, 3, none⟩ = some (.slice none 0 0) := cell_of_row w7 _ 3 _ _ _ z7
    have x0 := frozen_row z7 0
    have x1 := frozen_row z7 1
    have x2 := frozen_row z7 2
    have x3 := frozen_row z7 3
    clear hl7 hX HE HM z7
    go_wp2_with fail
    refine bodyPost_ret (v := .tuple #[pcV 0 0 0 (.slice none 0 0), .int .i64 210]) ?_ rfl ?_
    · simp only [results]
      go_simp
    · exact ⟨rfl, (((hl.setCell (Nat.le_refl _) _).setCell (Nat.le_refl _) _).setCell (Nat.le_refl _) _).setCell (Nat.le_refl _) _⟩
  · have h50 : rE L4 b4 = 50 := by
      unfold rE at hE ⊢
      by_cases hc : b4 = true ∨ 0 < L4.length
      · rw [if_pos hc]
      · rw [if_neg hc] at hE; exact absurd rfl hE
    rw [h50] at HE
    obtain ⟨X, hXX⟩ : ∃ X, X = w5.alloc (.cells #[.int .u64 I, .int .i64 a, .int .i64 ((o : Int) + 1), .slice aoD nD capD] 25) := ⟨_, rfl⟩
    rw [← hXX] at hl z7 HE ⊢
    clear h5 hvD z0 hok hl0 hE h50 hX hXX
    have y0 : X.cell? ⟨W.heap.size, 0, none⟩ = some (.int .u64 0) := cell_of_row X _ 0 _ _ _ z7
    have y1 : X.cell? ⟨W.heap.size, 1, none⟩ = some (.int .i64 0) := cell_of_row X _ 1 _ _ _ z7
    have y2 : X.cell? ⟨W.heap.size, 2, none⟩ = some (.int .i64 0) := cell_of_row X _ 2 _ _ _ z7
    have y3 : X.cell? ⟨W.heap.size, 3, none⟩ = some (.slice none 0 0) := cell_of_row X _ 3 _ _ _ z7
    have x0 := frozen_row z7 0
    have x1 := frozen_row z7 1
    have x2 := frozen_row z7 2
    have x3 := frozen_row z7 3
    clear z7
    go_wp2_with fail
    refine HE.out.mono ?_
    rintro e w6 ⟨rfl, rfl⟩
    go_wp2_with fail
    refine bodyPost_ret (v := .tuple #[pcV 0 0 0 (.slice none 0 0), .int .i64 210]) ?_ rfl ?_
    · simp only [results]
      go_simp
    · exact ⟨rfl, (((hl.setCell (Nat.le_refl _) _).setCell (Nat.le_refl _) _).setCell (Nat.le_refl _) _).setCell (Nat.le_refl _) _⟩
end Go.Proofs.Ytjelfiljebamgaa
