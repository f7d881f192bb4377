/-
  Chapter 11: are two lists of cells the same?
-/
import Derived.Test.YtmpnojgciaoghaaCovJ
namespace Go.Proofs.Ytmpnojgciaoghaa
open Go.RowKit Go.Shelf
set_option linter.unusedVariables false
set_option linter.unusedSimpArgs false
attribute [local go_sem] Oper.semAt_some

theorem list_eq_of {L M : List Q3} (h : L.length = M.length) (k : ∀ j, j < L.length → L.getD j (0, 0, 0) = M.getD j (0, 0, 0)) : L = M := by
  refine List.ext_getElem h fun i h1 h2 => ?_
  have := k i h1
  simpa [List.getD_eq_getElem?_getD, h1, h2] using this

theorem same_any (v u : Value) (L M : List Q3) (W : World) (hv : CellsV W v L) (hu : CellsV W u M) (hL : L.length ≤ 4096) (hM : M.length ≤ 4096) :
    Calls Try.prog 21 #[v, u] W fun e w' => e = .returned (.bool (decide (L = M))) ∧ Later W w' := by
  obtain ⟨ao, ac, rfl, hv⟩ := hv
  obtain ⟨bo, bc, rfl, hu⟩ := hu
  obtain ⟨n, hn⟩ : ∃ n, Hid (L.length = n) := ⟨_, rfl⟩
  obtain ⟨m, hm⟩ : ∃ n, Hid (M.length = n) := ⟨_, rfl⟩
  rw [hn.out] at hL hv ⊢
  rw [hm.out] at hM hu ⊢
  obtain ⟨s, hs⟩ : ∃ s, Hid (decide (L = M) = s) := ⟨_, rfl⟩
  rw [hs.out]
  by_cases hnm : n = m
  · subst hnm
    have h0 : n = 0 ∨ ∃ g g', ao = some ⟨g, 0, none⟩ ∧ bo = some ⟨g', 0, none⟩ := by
      by_cases h0 : n = 0
      · exact .inl h0
      · obtain ⟨g, hg, _⟩ := hv 0 (by omega)
        obtain ⟨g', hg', _⟩ := hu 0 (by omega)
        exact .inr ⟨g, g', hg, hg'⟩
    rcases h0 with rfl | ⟨g, g', rfl, rfl⟩
    · go_enter Try.func21, Try.ntmps21
      obtain rfl : s = true := by
        rw [← hs.out]
        exact decide_eq_true (list_eq_of (by rw [hn.out, hm.out]) (fun j hj => by rw [hn.out] at hj; omega))
      go_wp2_with fail
      refine wp_loop_rounds 1 ?_
      rw [rounds_succ]
      go_wp2_with fail
      go_ret
      exact ⟨rfl, Later.refl _⟩
    · have hv := Lib.hid hv
      have hu := Lib.hid hu
      go_enter Try.func21, Try.ntmps21
      go_wp2_with fail
      go_loopw [5] (fun y wr => ∃ k : Nat, k ≤ n ∧ y = .int .i64 k ∧ (∀ j, j < k → L.getD j (0, 0, 0) = M.getD j (0, 0, 0)) ∧ Later W wr) (fun y _ => (5000 - intOf y).toNat)
      case atStart => exact ⟨0, by omega, rfl, fun j hj => by omega, Later.refl _⟩
      case round =>
        obtain ⟨k, hk, rfl, heq, hl⟩ := hrel
        by_cases hkn : k < n
        · obtain ⟨g1, hg, a0, a1, a2⟩ := hv.out k hkn
          obtain ⟨g2, hg', b0, b1, b2⟩ := hu.out k hkn
          obtain rfl : g = g1 := by simpa using hg
          obtain rfl : g' = g2 := by simpa using hg'
          replace a0 := hl.cell a0
          replace a1 := hl.cell a1
          replace a2 := hl.cell a2
          replace b0 := hl.cell b0
          replace b1 := hl.cell b1
          replace b2 := hl.cell b2
          rw [Nat.mul_comm 3 k] at a0 a1 a2 b0 b1 b2
          rcases hqL : L.getD k (0, 0, 0) with ⟨x1, y1, z1⟩
          rcases hqM : M.getD k (0, 0, 0) with ⟨x2, y2, z2⟩
          rw [hqL] at a0 a1 a2
          rw [hqM] at b0 b1 b2
          clear hv hu
          dsimp only at a0 a1 a2 b0 b1 b2
          rcases (show (x1 = x2 ∧ y1 = y2 ∧ z1 = z2) ∨ ¬ x1 = x2 ∨ (x1 = x2 ∧ ¬ y1 = y2) ∨ (x1 = x2 ∧ y1 = y2 ∧ ¬ z1 = z2) by omega) with ⟨rfl, rfl, rfl⟩ | hx | ⟨rfl, hx⟩ | ⟨rfl, rfl, hx⟩
          · go_wp2_with fail
            go_region_held3 (fun W => W.cell? ⟨g, k * 3, none⟩ = some (.int .i64 x1) ∧ W.cell? ⟨g, k * 3 + 1, none⟩ = some (.int .i64 y1) ∧ W.cell? ⟨g, k * 3 + 2, none⟩ = some (.int .u32 z1) ∧ W.cell? ⟨g', k * 3, none⟩ = some (.int .i64 x1) ∧ W.cell? ⟨g', k * 3 + 1, none⟩ = some (.int .i64 y1) ∧ W.cell? ⟨g', k * 3 + 2, none⟩ = some (.int .u32 z1)) ((go_split_ands; (repeat' apply And.intro) <;> first | assumption | exact (Later.refl _).drew.cell (by assumption) | exact ((Later.refl _).alloc _).cell (by assumption) | exact cell_setCell_o (by assumption) (by omega) | exact Later.cell hl (by assumption))) (fail)
            go_wp2_with fail
            go_roundw
            case rel =>
              refine ⟨k + 1, hkn, by go_num, fun j hj => ?_, by first | exact hl.drewN _ | exact hl.drew⟩
              rcases (show j < k ∨ j = k by omega) with h3 | rfl
              · exact heq j h3
              · rw [hqL, hqM]
            case measure => simp [intOf]; omega
          · obtain rfl : s = false := by
              rw [← hs.out]; refine decide_eq_false fun hLM => ?_
              rw [hLM, hqM] at hqL
              simp at hqL
              omega
            go_wp2_with fail
            go_region_held3 (fun W => W.cell? ⟨g, k * 3, none⟩ = some (.int .i64 x1) ∧ W.cell? ⟨g, k * 3 + 1, none⟩ = some (.int .i64 y1) ∧ W.cell? ⟨g, k * 3 + 2, none⟩ = some (.int .u32 z1) ∧ W.cell? ⟨g', k * 3, none⟩ = some (.int .i64 x2) ∧ W.cell? ⟨g', k * 3 + 1, none⟩ = some (.int .i64 y2) ∧ W.cell? ⟨g', k * 3 + 2, none⟩ = some (.int .u32 z2)) ((go_split_ands; (repeat' apply And.intro) <;> first | assumption | exact (Later.refl _).drew.cell (by assumption) | exact ((Later.refl _).alloc _).cell (by assumption) | exact cell_setCell_o (by assumption) (by omega) | exact Later.cell hl (by assumption))) (fail)
            go_wp2_with fail
            go_ret
            exact ⟨rfl, hl.drewN _⟩
          · obtain rfl : s = false := by
              rw [← hs.out]; refine decide_eq_false fun hLM => ?_
              rw [hLM, hqM] at hqL
              simp at hqL
              omega
            go_wp2_with fail
            go_region_held3 (fun W => W.cell? ⟨g, k * 3, none⟩ = some (.int .i64 x1) ∧ W.cell? ⟨g, k * 3 + 1, none⟩ = some (.int .i64 y1) ∧ W.cell? ⟨g, k * 3 + 2, none⟩ = some (.int .u32 z1) ∧ W.cell? ⟨g', k * 3, none⟩ = some (.int .i64 x1) ∧ W.cell? ⟨g', k * 3 + 1, none⟩ = some (.int .i64 y2) ∧ W.cell? ⟨g', k * 3 + 2, none⟩ = some (.int .u32 z2)) ((go_split_ands; (repeat' apply And.intro) <;> first | assumption | exact (Later.refl _).drew.cell (by assumption) | exact ((Later.refl _).alloc _).cell (by assumption) | exact cell_setCell_o (by assumption) (by omega) | exact Later.cell hl (by assumption))) (fail)
            go_wp2_with fail
            go_ret
            exact ⟨rfl, hl.drewN _⟩
          · obtain rfl : s = false := by
              rw [← hs.out]; refine decide_eq_false fun hLM => ?_
              rw [hLM, hqM] at hqL
              simp at hqL
              omega
            go_wp2_with fail
            go_region_held3 (fun W => W.cell? ⟨g, k * 3, none⟩ = some (.int .i64 x1) ∧ W.cell? ⟨g, k * 3 + 1, none⟩ = some (.int .i64 y1) ∧ W.cell? ⟨g, k * 3 + 2, none⟩ = some (.int .u32 z1) ∧ W.cell? ⟨g', k * 3, none⟩ = some (.int .i64 x1) ∧ W.cell? ⟨g', k * 3 + 1, none⟩ = some (.int .i64 y1) ∧ W.cell? ⟨g', k * 3 + 2, none⟩ = some (.int .u32 z2)) ((go_split_ands; (repeat' apply And.intro) <;> first | assumption | exact (Later.refl _).drew.cell (by assumption) | exact ((Later.refl _).alloc _).cell (by assumption) | exact cell_setCell_o (by assumption) (by omega) | exact Later.cell hl (by assumption))) (fail)
            go_wp2_with fail
            go_ret
            exact ⟨rfl, hl.drewN _⟩
        · obtain rfl : s = true := by
            rw [← hs.out]
            exact decide_eq_true (list_eq_of (by rw [hn.out, hm.out]) (fun j hj => heq j (by rw [hn.out] at hj; omega)))
          go_wp2_with fail
          go_ret
          exact ⟨rfl, hl⟩
  · go_enter Try.func21, Try.ntmps21
    go_wp2_with fail
    all_goals first
      | (exfalso; omega)
      | (obtain rfl : s = false := by
          rw [← hs.out]; exact decide_eq_false (fun hLM => hnm (by rw [← hn.out, ← hm.out, hLM]))
         go_ret
         exact ⟨rfl, Later.refl _⟩)
end Go.Proofs.Ytmpnojgciaoghaa
