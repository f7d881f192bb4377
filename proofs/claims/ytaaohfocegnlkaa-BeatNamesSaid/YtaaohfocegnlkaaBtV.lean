/-
  Chapter 23, the document's answer: a new watch, and a tick.
-/
import Derived.Deep.OwnRows
import Derived.Test.YtaaohfocegnlkaaBtU
namespace Go.Proofs.Ytaaohfocegnlkaa
open Go.RowKit Go.Shelf
set_option linter.unusedVariables false
set_option linter.unusedSimpArgs false
attribute [local go_sem] Oper.semAt_some

theorem info_bool : (Try.prog.info? 4).map (fun i => (i.zero, i.size, i.bytes)) = some (some (.bool false), 1, 1) := by kernel_rfl
theorem made_row (z : Value) (N : Nat) : madeCells #[z] N = ((List.range N).map fun _ => z).toArray := by
  unfold madeCells
  apply Array.ext
  · simp
  · intro i h1 h2
    simp [Nat.mod_one]
theorem heap3_0 (w : World) (a b c : Obj) : (((w.alloc a).alloc b).alloc c).heap[w.heap.size]? = some a := by
  rw [Below.heap_alloc _ _ _ (by simp; omega), Below.heap_alloc _ _ _ (by simp), heap_alloc_new]
theorem heap3_1 (w : World) (a b c : Obj) : (((w.alloc a).alloc b).alloc c).heap[w.heap.size + 1]? = some b := by
  rw [Below.heap_alloc _ _ _ (by simp)]
  have := heap_alloc_new (w.alloc a) b
  simpa using this
theorem heap3_2 (w : World) (a b c : Obj) : (((w.alloc a).alloc b).alloc c).heap[w.heap.size + 1 + 1]? = some c := by
  have := heap_alloc_new ((w.alloc a).alloc b) c
  simpa using this
set_option maxRecDepth 100000 in
theorem rNew_ok (s p : Int) (N : Nat) (w : World) (h1 : 1 ≤ N) (h2 : N ≤ 64) (h3 : 0 ≤ s) (h4 : s < N) (h5 : 4 ≤ p) (h6 : p ≤ 1000) :
    Calls Try.prog 17 #[.int .i64 s, .int .i64 N, .int .i64 p] w fun e w' => ∃ b lb bb, e = .returned (.tuple #[wp b, .int .i64 0]) ∧
      RB w' b lb bb N s p 0 (fun _ => 0) (fun _ => false) ∧ w.heap.size ≤ b ∧ w.heap.size ≤ lb ∧ w.heap.size ≤ bb ∧ Later w w' := by
  have m1 := run_make_row' (P := Try.prog) 26 3 (.int .i64 0) 8 Try.underlying26 info_int rfl .i64 .i64 N (by omega) (by omega)
  have m2 := run_make_row' (P := Try.prog) 51 4 (.bool false) 1 Try.underlying51 info_bool rfl .i64 .i64 N (by omega) (by omega)
  rw [made_row] at m1 m2
  obtain ⟨Z1, hZ1⟩ : ∃ Z, Hid (((List.range N).map fun _ => Value.int .i64 0).toArray = Z) := ⟨_, rfl⟩
  obtain ⟨Z2, hZ2⟩ : ∃ Z, Hid (((List.range N).map fun _ => Value.bool false).toArray = Z) := ⟨_, rfl⟩
  rw [hZ1.out] at m1
  rw [hZ2.out] at m2
  go_enter Try.func17, Try.ntmps17
  go_wp2_with fail
  go_region
  all_goals
    go_wp2_with fail
    go_ret2
  · refine ⟨w.heap.size + 1 + 1, w.heap.size, w.heap.size + 1, rfl, ⟨heap3_2 _ _ _ _, ?_, ?_, by omega, by omega, by omega⟩, by omega, Nat.le_refl _, by omega, ((((Later.refl _).alloc _).alloc _).alloc _).drew⟩
    · exact (heap3_0 _ _ _ _).trans (by rw [← hZ1.out]; rfl)
    · exact (heap3_1 _ _ _ _).trans (by rw [← hZ2.out])
  · refine ⟨w.heap.size + 1 + 1, w.heap.size + 1, w.heap.size, rfl, ⟨heap3_2 _ _ _ _, ?_, ?_, by omega, by omega, by omega⟩, by omega, by omega, Nat.le_refl _, ((((Later.refl _).alloc _).alloc _).alloc _).drew⟩
    · exact (heap3_1 _ _ _ _).trans (by rw [← hZ1.out]; rfl)
    · exact (heap3_0 _ _ _ _).trans (by rw [← hZ2.out])
theorem rNew_bad (s n p : Int) (w : World) (h : ¬ (1 ≤ n ∧ n ≤ 64 ∧ 0 ≤ s ∧ s < n ∧ 4 ≤ p ∧ p ≤ 1000)) :
    Calls Try.prog 17 #[.int .i64 s, .int .i64 n, .int .i64 p] w fun e w' => e = .returned (.tuple #[.pointer none, .int .i64 230]) ∧ Later w w' := by
  go_enter Try.func17, Try.ntmps17
  go_wp2_with fail
  all_goals (go_ret2; exact ⟨rfl, Later.refl _⟩)
end Go.Proofs.Ytaaohfocegnlkaa
