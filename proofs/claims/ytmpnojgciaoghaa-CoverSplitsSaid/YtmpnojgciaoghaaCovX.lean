/-
  CoverTwo: for every input the law returns true.
-/
import Derived.Test.YtmpnojgciaoghaaCovW
namespace Go.Proofs.Ytmpnojgciaoghaa
open Go.RowKit Go.Shelf
set_option linter.unusedVariables false
set_option linter.unusedSimpArgs false
attribute [local go_sem] Oper.semAt_some

def pair (a b : C3) : Value := .agg #[.int .i64 a.x, .int .i64 a.y, .int .i64 a.z, .int .i64 b.x, .int .i64 b.y, .int .i64 b.z]

theorem inE_excl {a b : C3} {X Y : Int} (h : inE a b X Y) (k : inE b a X Y) : False := by
  unfold inE at h k
  rw [sd_rev a b] at k
  omega
theorem cov_pos {a b c : C3} {X Y : Int} (h0 : 0 < sd a b c.x c.y) (h : Cov a b c X Y) : CovP a b c X Y := by
  rcases h with h | h
  · exact h
  · have := h.1; have := sd_swap a b c; omega
theorem cov_neg {a b c : C3} {X Y : Int} (h0 : sd a b c.x c.y < 0) (h : Cov a b c X Y) : CovP a c b X Y := by
  rcases h with h | h
  · have := h.1; omega
  · exact h
theorem two_cnt {a b c d : C3} (hp : 0 < sd a b c.x c.y) (hq : sd a b d.x d.y < 0) (k : Nat) : cnt a b c k + cnt d a b k ≤ 1 := by
  unfold cnt
  by_cases h1 : may3 a b c = true ∧ Cov a b c (16 * ((k % 64 : Nat) : Int) + 8) (16 * ((k / 64 : Nat) : Int) + 8)
  · by_cases h2 : may3 d a b = true ∧ Cov d a b (16 * ((k % 64 : Nat) : Int) + 8) (16 * ((k / 64 : Nat) : Int) + 8)
    · exfalso
      have e1 := (cov_pos hp h1.2).2.2.2
      have e2 := (cov_neg (by rw [← sd_rot]; exact hq) h2.2).2.1
      exact inE_excl e1 e2
    · rw [if_pos h1, if_neg h2]; omega
  · rw [if_neg h1]; split <;> omega

theorem grown_lt {w0 w : World} {o : Nat} (h : w0.grownBy w (some o)) {n : Nat} (hn : n < w0.heap.size) : n < w.heap.size := Nat.lt_of_lt_of_le hn h.size

set_option maxRecDepth 100000 in
set_option maxHeartbeats 4000000 in
theorem coverTwo_walk (a b c d : C3) (w : World) :
    Calls Try.prog 6 #[pair a b, crn c, crn d] w fun e w' => e = .returned (.bool true) ∧ Later w w' := by
  obtain ⟨m0, hm0⟩ : ∃ m, Hid (mayB a = m) := ⟨_, rfl⟩
  obtain ⟨m1, hm1⟩ : ∃ m, Hid (mayB b = m) := ⟨_, rfl⟩
  obtain ⟨m2, hm2⟩ : ∃ m, Hid (mayB c = m) := ⟨_, rfl⟩
  obtain ⟨m3, hm3⟩ : ∃ m, Hid (mayB d = m) := ⟨_, rfl⟩
  have M0 := Lib.hid (covMay_any a)
  have M1 := Lib.hid (covMay_any b)
  have M2 := Lib.hid (covMay_any c)
  have M3 := Lib.hid (covMay_any d)
  rw [hm0.out] at M0
  rw [hm1.out] at M1
  rw [hm2.out] at M2
  rw [hm3.out] at M3
  obtain ⟨p, hp⟩ : ∃ m, Hid (sdW a b c.x c.y = m) := ⟨_, rfl⟩
  obtain ⟨q, hq⟩ : ∃ m, Hid (sdW a b d.x d.y = m) := ⟨_, rfl⟩
  have S0 := Lib.hid (side_any a b c)
  have S1 := Lib.hid (side_any a b d)
  rw [hp.out] at S0
  rw [hq.out] at S1
  obtain ⟨Z, hZ⟩ : ∃ Z, Hid (boardN 4096 (fun _ => 0) = Z) := ⟨_, rfl⟩
  have hz := zero_board
  rw [hZ.out] at hz
  unfold pair
  go_enter Try.func6, Try.ntmps6
  go_wp2_with fail
  refine (alive_any _).mono ?_
  rintro e w1 ⟨rfl, h1⟩
  have a0 := h1.cell (b := w.heap.size) (o := 0) (v := .int .i64 a.x) (by simp)
  have a1 := h1.cell (b := w.heap.size) (o := 1) (v := .int .i64 a.y) (by simp)
  have a2 := h1.cell (b := w.heap.size) (o := 2) (v := .int .i64 a.z) (by simp)
  have a3 := h1.cell (b := w.heap.size) (o := 3) (v := .int .i64 b.x) (by simp)
  have a4 := h1.cell (b := w.heap.size) (o := 4) (v := .int .i64 b.y) (by simp)
  have a5 := h1.cell (b := w.heap.size) (o := 5) (v := .int .i64 b.z) (by simp)
  have c0 := h1.cell (b := w.heap.size + 1) (o := 0) (v := .int .i64 c.x) (by simp)
  have c1 := h1.cell (b := w.heap.size + 1) (o := 1) (v := .int .i64 c.y) (by simp)
  have c2 := h1.cell (b := w.heap.size + 1) (o := 2) (v := .int .i64 c.z) (by simp)
  have d0 := h1.cell (b := w.heap.size + 1 + 1) (o := 0) (v := .int .i64 d.x) (by simp)
  have d1 := h1.cell (b := w.heap.size + 1 + 1) (o := 1) (v := .int .i64 d.y) (by simp)
  have d2 := h1.cell (b := w.heap.size + 1 + 1) (o := 2) (v := .int .i64 d.z) (by simp)
  have hl : Later w w1 := ((((Later.refl _).alloc _).alloc _).alloc _).trans h1
  clear h1
  go_wp2_with fail
  refine (M0.out _).mono ?_
  rintro e w2 ⟨rfl, h2⟩
  replace a0 := h2.cell a0
  replace a1 := h2.cell a1
  replace a2 := h2.cell a2
  replace a3 := h2.cell a3
  replace a4 := h2.cell a4
  replace a5 := h2.cell a5
  replace c0 := h2.cell c0
  replace c1 := h2.cell c1
  replace c2 := h2.cell c2
  replace d0 := h2.cell d0
  replace d1 := h2.cell d1
  replace d2 := h2.cell d2
  replace hl := hl.trans h2
  clear h2
  cases m0
  · go_wp2_with fail
    go_ret
    exact ⟨rfl, hl⟩
  go_wp2_with fail
  refine (M1.out _).mono ?_
  rintro e w3 ⟨rfl, h2⟩
  replace a0 := h2.cell a0
  replace a1 := h2.cell a1
  replace a2 := h2.cell a2
  replace a3 := h2.cell a3
  replace a4 := h2.cell a4
  replace a5 := h2.cell a5
  replace c0 := h2.cell c0
  replace c1 := h2.cell c1
  replace c2 := h2.cell c2
  replace d0 := h2.cell d0
  replace d1 := h2.cell d1
  replace d2 := h2.cell d2
  replace hl := hl.trans h2
  clear h2
  cases m1
  · go_wp2_with fail
    go_ret
    exact ⟨rfl, hl⟩
  go_wp2_with fail
  refine (M2.out _).mono ?_
  rintro e w4 ⟨rfl, h2⟩
  replace a0 := h2.cell a0
  replace a1 := h2.cell a1
  replace a2 := h2.cell a2
  replace a3 := h2.cell a3
  replace a4 := h2.cell a4
  replace a5 := h2.cell a5
  replace c0 := h2.cell c0
  replace c1 := h2.cell c1
  replace c2 := h2.cell c2
  replace d0 := h2.cell d0
  replace d1 := h2.cell d1
  replace d2 := h2.cell d2
  replace hl := hl.trans h2
  clear h2
  cases m2
  · go_wp2_with fail
    go_ret
    exact ⟨rfl, hl⟩
  go_wp2_with fail
  refine (M3.out _).mono ?_
  rintro e w5 ⟨rfl, h2⟩
  replace a0 := h2.cell a0
  replace a1 := h2.cell a1
  replace a2 := h2.cell a2
  replace a3 := h2.cell a3
  replace a4 := h2.cell a4
  replace a5 := h2.cell a5
  replace c0 := h2.cell c0
  replace c1 := h2.cell c1
  replace c2 := h2.cell c2
  replace d0 := h2.cell d0
  replace d1 := h2.cell d1
  replace d2 := h2.cell d2
  replace hl := hl.trans h2
  clear h2
  cases m3
  · go_wp2_with fail
    go_ret
    exact ⟨rfl, hl⟩
  obtain ⟨hma, hmb, hmc, hmd⟩ : MayP a ∧ MayP b ∧ MayP c ∧ MayP d := ⟨(mayB_iff a).1 hm0.out, (mayB_iff b).1 hm1.out, (mayB_iff c).1 hm2.out, (mayB_iff d).1 hm3.out⟩
  have e1 : may3 a b c = true := by unfold may3; rw [hm0.out, hm1.out, hm2.out]; rfl
  have e2 : may3 d a b = true := by unfold may3; rw [hm0.out, hm1.out, hm3.out]; rfl
  clear M0 M1 M2 M3 hm0 hm1 hm2 hm3
  as_aux_lemma =>
    go_upto_region 4 with fail
    go_cut [8, 9] (fun u v wx => u = .int .i64 p ∧ v = .int .i64 q ∧ Later w5 wx)
    case first =>
      go_region_held3 (fun W => W.cell? ⟨w.heap.size, 0, none⟩ = some (.int .i64 a.x) ∧ W.cell? ⟨w.heap.size, 1, none⟩ = some (.int .i64 a.y) ∧ W.cell? ⟨w.heap.size, 2, none⟩ = some (.int .i64 a.z) ∧ W.cell? ⟨w.heap.size, 3, none⟩ = some (.int .i64 b.x) ∧ W.cell? ⟨w.heap.size, 4, none⟩ = some (.int .i64 b.y) ∧ W.cell? ⟨w.heap.size, 5, none⟩ = some (.int .i64 b.z) ∧ W.cell? ⟨w.heap.size + 1, 0, none⟩ = some (.int .i64 c.x) ∧ W.cell? ⟨w.heap.size + 1, 1, none⟩ = some (.int .i64 c.y) ∧ W.cell? ⟨w.heap.size + 1, 2, none⟩ = some (.int .i64 c.z) ∧ W.cell? ⟨w.heap.size + 1 + 1, 0, none⟩ = some (.int .i64 d.x) ∧ W.cell? ⟨w.heap.size + 1 + 1, 1, none⟩ = some (.int .i64 d.y) ∧ W.cell? ⟨w.heap.size + 1 + 1, 2, none⟩ = some (.int .i64 d.z)) ((go_split_ands; (repeat' apply And.intro) <;> first | assumption | exact (Later.refl _).drew.cell (by assumption) | exact ((Later.refl _).alloc _).cell (by assumption) | exact Later.cell hL (by assumption))) (first | (go_at_call 23; with_reducible refine (S0.out _).mono ?_; rintro e W0 ⟨rfl, hL⟩; have hL0 := hL) | (go_at_call 23; with_reducible refine (S1.out _).mono ?_; rintro e W1 ⟨rfl, hL⟩; have hL1 := hL))
      all_goals (rename_i JJ KK hj hk hh hx; refine hk _ _ (Met.intro (hj _ _ ?_)); (repeat apply Exists.intro); first | exact ⟨⟨rfl, rfl, (((Later.refl _).drew.trans hL0).trans hL1)⟩, rfl⟩ | exact ⟨⟨rfl, rfl, (((Later.refl _).drew.trans hL1).trans hL0)⟩, rfl⟩)
    case rest =>
      obtain ⟨rfl, rfl, h2⟩ := hcut
      rename_i w6
      replace a0 := h2.cell a0
      replace a1 := h2.cell a1
      replace a2 := h2.cell a2
      replace a3 := h2.cell a3
      replace a4 := h2.cell a4
      replace a5 := h2.cell a5
      replace c0 := h2.cell c0
      replace c1 := h2.cell c1
      replace c2 := h2.cell c2
      replace d0 := h2.cell d0
      replace d1 := h2.cell d1
      replace d2 := h2.cell d2
      replace hl := hl.trans h2
      clear h2 S0 S1
      by_cases hpq : 0 < p ∧ q < 0
      · obtain ⟨hpp, hqq⟩ := hpq
        go_upto_region 8 with fail
        have hwM := cell_lt d0
        obtain ⟨X1, hX1⟩ : ∃ X, X = wc.alloc (.cells Z 47) := ⟨_, rfl⟩
        have hB : Board X1 wc.heap.size (fun _ => 0) := by
          unfold Board BoardN; rw [hX1, hZ.out]; show (wc.heap.push _)[wc.heap.size]? = _; simp
        have hX : Later wc X1 := by rw [hX1]; exact (Later.refl _).alloc _
        rw [← hX1]
        replace a0 := hX.cell a0
        replace a1 := hX.cell a1
        replace a2 := hX.cell a2
        replace a3 := hX.cell a3
        replace a4 := hX.cell a4
        replace a5 := hX.cell a5
        replace c0 := hX.cell c0
        replace c1 := hX.cell c1
        replace c2 := hX.cell c2
        replace d0 := hX.cell d0
        replace d1 := hX.cell d1
        replace d2 := hX.cell d2
        obtain ⟨M, hM⟩ : ∃ M, Hid (wc.heap.size = M) := ⟨_, rfl⟩
        rw [hM.out] at hB hwM ⊢
        have hlM := hl.size
        rw [hM.out] at hlM
        replace hl := hl.trans hX
        clear hX hX1 hZ hz
        obtain ⟨C1, hC1⟩ : ∃ C, Hid (cnt a b c = C) := ⟨_, rfl⟩
        obtain ⟨C2, hC2⟩ : ∃ C, Hid (cnt d a b = C) := ⟨_, rfl⟩
        have hsum : Hid (∀ k, 0 ≤ C1 k ∧ C1 k ≤ 1 ∧ C1 k + C2 k ≤ 1) := fun k => by
          rw [← hC1.out, ← hC2.out]
          refine ⟨?_, ?_, two_cnt (by rw [← (sdc_bd hma hmb hmc).1, hp.out]; exact hpp) (by rw [← (sdc_bd hma hmb hmd).1, hq.out]; exact hqq) k⟩ <;> unfold cnt <;> split <;> omega
        have K1 := Lib.hid (covered_any M (fun _ => 0) a b c)
        have K2 := Lib.hid (covered_any M (fun k => 0 + cnt a b c k) d a b)
        unfold CovRet at K1 K2
        rw [e1] at K1
        rw [e2] at K2
        rw [hC1.out] at K1 K2
        rw [hC2.out] at K2
        clear hC1 hC2 hp hq e1 e2 hma hmb hmc hmd
        go_wp2_with fail
        refine (K1.out _ (fun k => by omega) hB).mono ?_
        rintro e w6 ⟨rfl, hB1, hg⟩
        replace a0 := grown_cell hg a0 (by omega)
        replace a1 := grown_cell hg a1 (by omega)
        replace a2 := grown_cell hg a2 (by omega)
        replace a3 := grown_cell hg a3 (by omega)
        replace a4 := grown_cell hg a4 (by omega)
        replace a5 := grown_cell hg a5 (by omega)
        replace d0 := grown_cell hg d0 (by omega)
        replace d1 := grown_cell hg d1 (by omega)
        replace d2 := grown_cell hg d2 (by omega)
        replace hl := grown_later hl hg (by omega)
        clear hg hB c0 c1 c2
        go_wp2_with fail
        refine (K2.out _ (fun k => by have := hsum.out k; omega) hB1).mono ?_
        rintro e w7 ⟨rfl, hB2, hg⟩
        replace hl := grown_later hl hg (by omega)
        clear hg hB1 a0 a1 a2 a3 a4 a5 d0 d1 d2 K1 K2
        as_aux_lemma =>
          go_wp2_with fail
          go_loopw [72] (fun y wr => ∃ i : Nat, i ≤ 64 ∧ y = .int .i64 i ∧ w7 = wr) (fun y _ => (100 - intOf y).toNat)
          case atStart => exact ⟨0, by omega, rfl, rfl⟩
          case round =>
            obtain ⟨i, hi, rfl, rfl⟩ := hrel
            by_cases hy : i < 64
            · go_wp2_with fail
              go_loopw [75] (fun x wr => ∃ j : Nat, j ≤ 64 ∧ x = .int .i64 j ∧ w7 = wr) (fun x _ => (100 - intOf x).toNat)
              case atStart => exact ⟨0, by omega, rfl, rfl⟩
              case round =>
                obtain ⟨j, hj, rfl, rfl⟩ := hrel
                by_cases hx : j < 64
                · have v0 := hB2.cell (k := i * 64 + j) (by omega)
                  have hle := hsum.out (i * 64 + j)
                  obtain ⟨u, hu⟩ : ∃ u, Hid (0 + C1 (i * 64 + j) + C2 (i * 64 + j) = u) := ⟨_, rfl⟩
                  rw [hu.out] at v0
                  have hu1 : u ≤ 1 := by rw [← hu.out]; omega
                  clear hle
                  go_wp2_with fail
                  go_roundw
                  case rel => exact ⟨j + 1, by omega, by go_num, trivial⟩
                  case measure => simp [intOf]; omega
                · obtain rfl : j = 64 := by omega
                  go_wp2_with fail
                  go_roundw
                  case rel => exact ⟨i + 1, by omega, by go_num, trivial⟩
                  case measure => simp [intOf]; omega
            · obtain rfl : i = 64 := by omega
              go_wp2_with fail
              go_ret
              exact ⟨rfl, hl⟩
      · by_cases hpp : p ≤ 0
        · go_wp2_with fail
          go_ret
          exact ⟨rfl, hl⟩
        · have hqq : 0 ≤ q := by omega
          go_wp2_with fail
          go_ret
          exact ⟨rfl, hl⟩
end Go.Proofs.Ytmpnojgciaoghaa
