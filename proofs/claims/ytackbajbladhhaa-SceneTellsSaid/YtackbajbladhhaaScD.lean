/-
  Chapter 6: triangles whose corners are no vertices.
-/
import Derived.Test.YtackbajbladhhaaScC
namespace Go.Proofs.Ytackbajbladhhaa
open Go.RowKit Go.Shelf
set_option linter.unusedVariables false
set_option linter.unusedSimpArgs false
attribute [local go_sem] Oper.semAt_some

/-- A new slice of ints. -/
theorem rowsV_new (W : World) (L : List Int) (hL : L ≠ []) : RowsV 1 (W.alloc (.cells (L.map (Value.int .i64)).toArray 3)) (.slice (some ⟨W.heap.size, 0, none⟩) L.length L.length) (L.map fun x => [.int .i64 x]) := by
  refine ⟨_, _, by rw [List.length_map], ⟨by rw [List.length_map]; exact Nat.le_refl _, fun e => by cases e⟩, fun k x hx => ⟨_, _, rfl, fun j v hv => ?_⟩⟩
  rw [List.getElem?_map] at hx
  obtain ⟨y, hy, rfl⟩ := Option.map_eq_some_iff.1 hx
  obtain rfl : j = 0 := by
    have := (List.getElem?_eq_some_iff.1 hv).1
    simp at this; omega
  simp at hv
  subst hv
  simp [hy]
theorem out1_any (t : T4) (n : Nat) (B : Nat) (W : World) (ao : Option Addr) (cap : Nat) (hB : W.cell? ⟨B, 17, none⟩ = some (.slice ao n cap)) (hn : n ≤ 1000000) :
    Calls Try.prog 101 #[.agg (trow t).toArray, wp B] W fun e w' => e = .returned (.bool (!allIn 0 ((n : Int) - 1) [t.1, t.2.1, t.2.2.1])) ∧ Later W w' := by
  obtain ⟨a, b, c, d⟩ := t
  show Calls Try.prog 101 #[.agg #[.int .i64 a, .int .i64 b, .int .i64 c, .int .u32 d], wp B] W _
  obtain ⟨X, hX⟩ : ∃ X, X = W.alloc (.cells #[.int .i64 a, .int .i64 b, .int .i64 c, .int .u32 d] 84) := ⟨_, rfl⟩
  have hl : Later W X := by rw [hX]; exact (Later.refl W).alloc _
  have c0 : X.cell? ⟨W.heap.size, 0, none⟩ = some (.int .i64 a) := by rw [hX]; go_simp
  have c1 : X.cell? ⟨W.heap.size, 1, none⟩ = some (.int .i64 b) := by rw [hX]; go_simp
  have c2 : X.cell? ⟨W.heap.size, 2, none⟩ = some (.int .i64 c) := by rw [hX]; go_simp
  have cB := hl.cell hB
  go_enter Try.func101, Try.ntmps101
  go_upto_region 1 with fail
  rw [← hX]
  clear hX hB
  go_wp2_with fail
  refine (in_any 0 ((n : Int) - 1) [a, b, c] _ _ (rowsV_new X [a, b, c] (by simp)) (by simp)).mono ?_
  rintro e w2 ⟨rfl, hl2⟩
  go_wp2_with fail
  go_ret
  exact ⟨ret_bool rfl, (hl.alloc _).trans hl2⟩
end Go.Proofs.Ytackbajbladhhaa
