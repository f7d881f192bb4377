/-
  Chapter 11's laws: the helpers.
-/
import Derived.Test.YtmpnojgciaoghaaCovL2
namespace Go.Proofs.Ytmpnojgciaoghaa
open Go.RowKit Go.Shelf
set_option linter.unusedVariables false
set_option linter.unusedSimpArgs false
attribute [local go_sem] Oper.semAt_some

def sA : C3 := ⟨0, 0, 0⟩
def sB : C3 := ⟨48, 0, 48⟩
def sC : C3 := ⟨0, 48, 96⟩

theorem some_any (w : World) : Calls Try.prog 26 #[] w fun e w' => e = .returned (tri sA sB sC) ∧ Later w w' := by
  go_enter Try.func26, Try.ntmps26
  go_wp2_with fail
  refine bodyPost_ret (v := tri sA sB sC) ?_ rfl ⟨rfl, (Later.refl _).alloc _⟩
  simp only [results]
  go_simp
  exact ⟨rfl, rfl, rfl, rfl, rfl, rfl, rfl, rfl, rfl⟩

theorem side_any (a b c : C3) (w : World) : Calls Try.prog 23 #[crn a, crn b, crn c] w fun e w' => e = .returned (.int .i64 (sdW a b c.x c.y)) ∧ Later w w' := by
  go_enter Try.func23, Try.ntmps23
  go_wp2_with fail
  go_ret
  exact ⟨ret_int rfl, (((Later.refl _).alloc _).alloc _).alloc _⟩

theorem alive_list : CL sA sB sC 4 4 = [(0, 0, 24), (1, 0, 40), (0, 1, 56)] := by decide +kernel

theorem alive_any (w : World) : Calls Try.prog 22 #[] w fun e w' => e = .returned (.bool true) ∧ Later w w' := by
  go_enter Try.func22, Try.ntmps22
  go_wp2_with fail
  refine (some_any _).mono ?_
  rintro e w1 ⟨rfl, h1⟩
  go_wp2_with fail
  refine (covArea_any sA sB sC _).mono ?_
  rintro e w2 ⟨rfl, h2⟩
  rw [show (if may3 sA sB sC then sdW sA sB sC.x sC.y else 0) = 2304 by decide +kernel, show (if may3 sA sB sC then (0 : Int) else 110) = 0 by decide +kernel]
  go_wp2_with fail
  refine (some_any _).mono ?_
  rintro e w3 ⟨rfl, h3⟩
  go_wp2_with fail
  refine (covCells_CL sA sB sC 4 4 _).mono ?_
  rintro e w4 ⟨v, rfl, hv, h4⟩
  rw [show cellsN (may3 sA sB sC) 4 4 = 0 by decide +kernel]
  rw [alive_list] at hv
  go_wp2_with fail
  refine (same_any v _ _ [(0, 0, 24), (1, 0, 40), (0, 1, 56)] _ (hv.later ((Later.refl _).alloc _)) ⟨some ⟨w4.heap.size, 0, none⟩, 3, rfl, fun k hk => ?_⟩ (by decide) (by decide)).mono ?_
  · refine ⟨_, rfl, ?_⟩
    rcases (show k = 0 ∨ k = 1 ∨ k = 2 by simp at hk; omega) with rfl | rfl | rfl <;> simp
  rintro e w5 ⟨rfl, h5⟩
  go_wp2
  go_ret
  exact ⟨rfl, (((h1.trans h2).trans h3).trans (h4.alloc _)).trans h5⟩
end Go.Proofs.Ytmpnojgciaoghaa
