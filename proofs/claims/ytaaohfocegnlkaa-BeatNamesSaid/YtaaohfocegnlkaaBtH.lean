/-
  Chapter 23: two lists of ints: are they the same?
-/
import Derived.Test.YtaaohfocegnlkaaBtC
namespace Go.Proofs.Ytaaohfocegnlkaa
open Go.RowKit Go.Shelf
set_option linter.unusedVariables false
set_option linter.unusedSimpArgs false
attribute [local go_sem] Oper.semAt_some

theorem list_eq_of {L M : List Int} (h : L.length = M.length) (k : ∀ j, j < L.length → L.getD j 0 = M.getD j 0) : L = M := by
  refine List.ext_getElem h fun i h1 h2 => ?_
  have := k i h1
  simpa [List.getD_eq_getElem?_getD, h1, h2] using this

theorem ints_any (v u : Value) (L M : List Int) (W : World) (hv : IntsV W v L) (hu : IntsV W u M) (hL : L.length ≤ 4096) (hM : M.length ≤ 4096) :
    Calls Try.prog 13 #[v, u] W fun e w' => e = .returned (.bool (decide (L = M))) ∧ Later W w' := by
  obtain ⟨ao, ac, rfl, hv⟩ := hv
  obtain ⟨bo, bc, rfl, hu⟩ := hu
  obtain ⟨n, hn⟩ : ∃ n, Hid (L.length = n) := ⟨_, rfl⟩
  obtain ⟨m, hm⟩ : ∃ n, Hid (M.length = n) := ⟨_, rfl⟩
  rw [hn.out] at hL hv ⊢
  rw [hm.out] at hM hu ⊢
  obtain ⟨s, hs⟩ : ∃ s, Hid (decide (L = M) = s) := ⟨_, rfl⟩
  rw [hs.out]
  by_cases hnm : n = m
  · subst hnm
    have h0 : n = 0 ∨ ∃ g g', ao = some ⟨g, 0, none⟩ ∧ bo = some ⟨g', 0, none⟩ := by
      by_cases h0 : n = 0
      · exact .inl h0
      · obtain ⟨g, hg, _⟩ := hv 0 (by omega)
        obtain ⟨g', hg', _⟩ := hu 0 (by omega)
        exact .inr ⟨g, g', hg, hg'⟩
    rcases h0 with rfl | ⟨g, g', rfl, rfl⟩
    · go_enter Try.func13, Try.ntmps13
      obtain rfl : s = true := by
        rw [← hs.out]
        exact decide_eq_true (list_eq_of (by rw [hn.out, hm.out]) (fun j hj => by rw [hn.out] at hj; omega))
      go_wp2_with fail
      refine wp_loop_rounds 1 ?_
      rw [rounds_succ]
      go_wp2_with fail
      go_ret
      exact ⟨rfl, Later.refl _⟩
    · have hv := Lib.hid hv
      have hu := Lib.hid hu
      go_enter Try.func13, Try.ntmps13
      go_wp2_with fail
      go_loopw [5] (fun y wr => ∃ k : Nat, k ≤ n ∧ y = .int .i64 k ∧ (∀ j, j < k → L.getD j 0 = M.getD j 0) ∧ Later W wr) (fun y _ => (5000 - intOf y).toNat)
      case atStart => exact ⟨0, by omega, rfl, fun j hj => by omega, Later.refl _⟩
      case round =>
        obtain ⟨k, hk, rfl, heq, hl⟩ := hrel
        by_cases hkn : k < n
        · obtain ⟨g1, hg, a0⟩ := hv.out k hkn
          obtain ⟨g2, hg', b0⟩ := hu.out k hkn
          obtain rfl : g = g1 := by simpa using hg
          obtain rfl : g' = g2 := by simpa using hg'
          replace a0 := hl.cell a0
          replace b0 := hl.cell b0
          obtain ⟨x1, hqL⟩ : ∃ x1, Hid (L.getD k 0 = x1) := ⟨_, rfl⟩
          obtain ⟨x2, hqM⟩ : ∃ x2, Hid (M.getD k 0 = x2) := ⟨_, rfl⟩
          rw [hqL.out] at a0
          rw [hqM.out] at b0
          clear hv hu
          by_cases hx : x1 = x2
          · subst hx
            go_wp2_with fail
            go_region_held3 (fun W => W.cell? ⟨g, k, none⟩ = some (.int .i64 x1) ∧ W.cell? ⟨g', k, none⟩ = some (.int .i64 x1)) ((go_split_ands; (repeat' apply And.intro) <;> first | assumption | exact (Later.refl _).drew.cell (by assumption) | exact ((Later.refl _).alloc _).cell (by assumption) | exact Later.cell hl (by assumption))) (fail)
            go_wp2_with fail
            go_roundw
            case rel =>
              refine ⟨k + 1, hkn, by go_num, fun j hj => ?_, by first | exact hl.drewN _ | exact hl.drew⟩
              rcases (show j < k ∨ j = k by omega) with h3 | rfl
              · exact heq j h3
              · rw [hqL.out, hqM.out]
            case measure => simp [intOf]; omega
          · obtain rfl : s = false := by
              rw [← hs.out]; refine decide_eq_false fun hLM => ?_
              rw [← hqL.out, ← hqM.out, hLM] at hx
              exact hx rfl
            go_wp2_with fail
            go_region_held3 (fun W => W.cell? ⟨g, k, none⟩ = some (.int .i64 x1) ∧ W.cell? ⟨g', k, none⟩ = some (.int .i64 x2)) ((go_split_ands; (repeat' apply And.intro) <;> first | assumption | exact (Later.refl _).drew.cell (by assumption) | exact ((Later.refl _).alloc _).cell (by assumption) | exact Later.cell hl (by assumption))) (fail)
            go_wp2_with fail
            go_ret
            exact ⟨rfl, hl.drewN _⟩
        · obtain rfl : s = true := by
            rw [← hs.out]
            exact decide_eq_true (list_eq_of (by rw [hn.out, hm.out]) (fun j hj => heq j (by rw [hn.out] at hj; omega)))
          go_wp2_with fail
          go_ret
          exact ⟨rfl, hl⟩
  · go_enter Try.func13, Try.ntmps13
    go_wp2_with fail
    all_goals first
      | (exfalso; omega)
      | (obtain rfl : s = false := by
          rw [← hs.out]; exact decide_eq_false (fun hLM => hnm (by rw [← hn.out, ← hm.out, hLM]))
         go_ret
         exact ⟨rfl, Later.refl _⟩)
end Go.Proofs.Ytaaohfocegnlkaa
