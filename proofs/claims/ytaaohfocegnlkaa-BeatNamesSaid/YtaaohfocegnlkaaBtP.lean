/-
  Chapter 23, the document's answer: its watch in memory; whether a number is another node's.
-/
import Derived.Test.YtaaohfocegnlkaaBtF
import Derived.Test.YtaaohfocegnlkaaBtH
namespace Go.Proofs.Ytaaohfocegnlkaa
open Go.RowKit Go.Shelf
set_option linter.unusedVariables false
set_option linter.unusedSimpArgs false
attribute [local go_sem] Oper.semAt_some

/-- The document's watch: its six fields; two rows, one of numbers and one of Booleans. -/
structure RB (W : World) (b lb bb N : Nat) (s p now : Int) (last : Nat → Int) (bad : Nat → Bool) : Prop where
  head : W.heap[b]? = some (.cells #[.int .i64 s, .int .i64 N, .int .i64 p, .int .i64 now, .slice (some ⟨lb, 0, none⟩) N N, .slice (some ⟨bb, 0, none⟩) N N] 53 (0, 0))
  rowL : Row 3 N W lb last
  rowB : W.heap[bb]? = some (.cells ((List.range N).map fun k => Value.bool (bad k)).toArray 4 (0, 0))
  ne1 : b ≠ lb
  ne2 : b ≠ bb
  ne3 : lb ≠ bb
theorem RB.later {W W' : World} {b lb bb N : Nat} {s p now : Int} {last : Nat → Int} {bad : Nat → Bool} (h : RB W b lb bb N s p now last bad) (hl : Later W W') : RB W' b lb bb N s p now last bad :=
  ⟨(hl.block b (Array.getElem?_eq_some_iff.1 h.head).1).trans h.head, Row.later h.rowL hl, (hl.block bb (Array.getElem?_eq_some_iff.1 h.rowB).1).trans h.rowB, h.ne1, h.ne2, h.ne3⟩
theorem RB.cell {W : World} {b lb bb N : Nat} {s p now : Int} {last : Nat → Int} {bad : Nat → Bool} (h : RB W b lb bb N s p now last bad) (k : Nat) :
    W.cell? ⟨b, k, none⟩ = (#[.int .i64 s, .int .i64 N, .int .i64 p, .int .i64 now, .slice (some ⟨lb, 0, none⟩) N N, .slice (some ⟨bb, 0, none⟩) N N] : Array Value)[k]? := cell_of_row W b k _ _ _ h.head

theorem is_any (b lb bb N : Nat) (s p now x : Int) (last : Nat → Int) (bad : Nat → Bool) (W : World) (h : RB W b lb bb N s p now last bad) :
    Calls Try.prog 28 #[wp b, .int .i64 x] W fun e w' => e = .returned (.bool (decide (0 ≤ x ∧ x < N ∧ x ≠ s))) ∧ Later W w' := by
  have c0 : W.cell? ⟨b, 0, none⟩ = some (.int .i64 s) := h.cell 0
  have c1 : W.cell? ⟨b, 1, none⟩ = some (.int .i64 N) := h.cell 1
  go_enter Try.func28, Try.ntmps28
  by_cases h0 : 0 ≤ x
  · by_cases h1 : x < N
    · by_cases h2 : x = s
      · rw [show decide (0 ≤ x ∧ x < N ∧ x ≠ s) = false from decide_eq_false (fun h => h.2.2 h2)]
        have h3 : (x != s) = false := by simp [h2]
        go_wp2_with fail
        go_ret
        exact ⟨ret_bool (by simp [h2]), Later.refl _⟩
      · rw [show decide (0 ≤ x ∧ x < N ∧ x ≠ s) = true from decide_eq_true ⟨h0, h1, h2⟩]
        have h3 : (x != s) = true := by simp [h2]
        go_wp2_with fail
        go_ret
        exact ⟨ret_bool (by simp [h2]), Later.refl _⟩
    · rw [show decide (0 ≤ x ∧ x < N ∧ x ≠ s) = false from decide_eq_false (fun h => h1 h.2.1)]
      go_wp2_with fail
      go_ret
      exact ⟨rfl, Later.refl _⟩
  · rw [show decide (0 ≤ x ∧ x < N ∧ x ≠ s) = false from decide_eq_false (fun h => h0 h.1)]
    go_wp2_with fail
    go_ret
    exact ⟨rfl, Later.refl _⟩
end Go.Proofs.Ytaaohfocegnlkaa
