/-
  Chapter 23, the document's answer: a node is heard: the walk.
-/
import Derived.Test.YtaaohfocegnlkaaBtR
namespace Go.Proofs.Ytaaohfocegnlkaa
open Go.RowKit Go.Shelf
set_option linter.unusedVariables false
set_option linter.unusedSimpArgs false
attribute [local go_sem] Oper.semAt_some

theorem rHeard_no (b lb bb N : Nat) (s p now x : Int) (last : Nat → Int) (bad : Nat → Bool) (W : World) (h : RB W b lb bb N s p now last bad) (hi : ¬ (0 ≤ x ∧ x < N ∧ x ≠ s)) :
    Calls Try.prog 19 #[wp b, .int .i64 x] W fun e w' => e = .returned (.tuple #[.bool false, .int .i64 230]) ∧ Later W w' := by
  have HI := Lib.hid (is_any b lb bb N s p now x last bad W h)
  rw [decide_eq_false hi] at HI
  go_enter Try.func19, Try.ntmps19
  go_wp2_with fail
  refine HI.out.mono ?_
  rintro e w1 ⟨rfl, h1⟩
  go_wp2_with fail
  go_ret2
  exact ⟨rfl, h1⟩
set_option maxRecDepth 100000 in
theorem rHeard_yes (b lb bb N k : Nat) (s p now : Int) (last : Nat → Int) (bad : Nat → Bool) (W : World) (h : RB W b lb bb N s p now last bad) (hk : k < N) (hs : (k : Int) ≠ s) (hN : N ≤ 64) :
    Calls Try.prog 19 #[wp b, .int .i64 k] W fun e w' => e = .returned (.tuple #[.bool (bad k), .int .i64 0]) ∧
      RB w' b lb bb N s p now (fun j => if j = k then now else last j) (fun j => if j = k then false else bad j) ∧ Two W w' lb bb := by
  have HI := Lib.hid (is_any b lb bb N s p now k last bad W h)
  rw [decide_eq_true (show 0 ≤ (k : Int) ∧ (k : Int) < N ∧ (k : Int) ≠ s from ⟨by omega, by omega, hs⟩)] at HI
  obtain ⟨z, hz⟩ : ∃ z, Hid (bad k = z) := ⟨_, rfl⟩
  rw [hz.out]
  go_enter Try.func19, Try.ntmps19
  go_wp2_with fail
  refine HI.out.mono ?_
  rintro e w1 ⟨rfl, h1⟩
  replace h := h.later h1
  have c5 : w1.cell? ⟨b, 5, none⟩ = some (.slice (some ⟨bb, 0, none⟩) N N) := h.cell 5
  have cb : w1.cell? ⟨bb, k, none⟩ = some (.bool z) := by
    rw [cell_of_row w1 bb k _ _ _ h.rowB, ← hz.out]; simp [hk]
  have fb : w1.frozen? ⟨bb, k, none⟩ = false := by simp [World.frozen?, h.rowB]
  have hkN : (k : Int) < (N : Int) := by omega
  go_upto_region 6 with fail
  obtain ⟨X, hX⟩ : ∃ X, X = w1.setCell ⟨bb, k, none⟩ (.bool false) := ⟨_, rfl⟩
  rw [← hX]
  have hR := h.setB hk false
  have hT : Two W X lb bb := by rw [hX]; exact (Two.of_later h1).trans (Two.set2 _)
  rw [← hX] at hR
  clear hX c5 cb fb
  have c3 : X.cell? ⟨b, 3, none⟩ = some (.int .i64 now) := hR.cell 3
  have c4 : X.cell? ⟨b, 4, none⟩ = some (.slice (some ⟨lb, 0, none⟩) N N) := hR.cell 4
  have cl := hR.rowL.cell (k := k) hk
  have fl := hR.rowL.frozen k
  go_region
  obtain ⟨Y, hY⟩ : ∃ Y, Y = (X.setCell ⟨lb, k, none⟩ (.int .i64 now)).drew := ⟨_, rfl⟩
  rw [← hY]
  have hR2 : RB Y b lb bb N s p now (fun j => if j = k then now else last j) (fun j => if j = k then false else bad j) := by
    rw [hY]
    have := hR.setL hk now
    exact ⟨this.head, this.rowL, this.rowB, this.ne1, this.ne2, this.ne3⟩
  have hT2 : Two W Y lb bb := by rw [hY]; exact (hT.trans (Two.set1 _)).trans (Two.of_later (drew_later _))
  clear hY
  go_wp2_with fail
  go_ret2
  exact ⟨rfl, hR2, hT2⟩
end Go.Proofs.Ytaaohfocegnlkaa
