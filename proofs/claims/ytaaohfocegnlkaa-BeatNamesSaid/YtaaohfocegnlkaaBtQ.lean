/-
  Chapter 23, the document's answer: for how long a node was not heard.
-/
import Derived.Test.YtaaohfocegnlkaaBtP
namespace Go.Proofs.Ytaaohfocegnlkaa
open Go.RowKit Go.Shelf
set_option linter.unusedVariables false
set_option linter.unusedSimpArgs false
attribute [local go_sem] Oper.semAt_some

def isB (N : Nat) (s x : Int) : Bool := decide (0 ≤ x ∧ x < N ∧ x ≠ s)
theorem rQuiet_any (b lb bb N : Nat) (s p now x : Int) (last : Nat → Int) (bad : Nat → Bool) (W : World) (h : RB W b lb bb N s p now last bad) (hN : N ≤ 64) :
    Calls Try.prog 21 #[wp b, .int .i64 x] W fun e w' => e = .returned (.tuple #[.int .i64 (if isB N s x then IntKind.i64.wrap (now - last x.toNat) else 0), .bool (isB N s x)]) ∧ Later W w' := by
  have HI := Lib.hid (is_any b lb bb N s p now x last bad W h)
  by_cases hi : 0 ≤ x ∧ x < N ∧ x ≠ s
  · have e : isB N s x = true := decide_eq_true hi
    rw [e]
    rw [decide_eq_true hi] at HI
    obtain ⟨k, rfl⟩ : ∃ k : Nat, x = k := ⟨x.toNat, by omega⟩
    have hk : k < N := by omega
    rw [show (if true = true then IntKind.i64.wrap (now - last (k : Int).toNat) else 0) = IntKind.i64.wrap (now - last k) from rfl]
    obtain ⟨q, hq⟩ : ∃ q, Hid (IntKind.i64.wrap (now - last k) = q) := ⟨_, rfl⟩
    go_enter Try.func21, Try.ntmps21
    go_wp2_with fail
    refine HI.out.mono ?_
    rintro e w1 ⟨rfl, h1⟩
    replace h := h.later h1
    have c3 : w1.cell? ⟨b, 3, none⟩ = some (.int .i64 now) := h.cell 3
    have c4 : w1.cell? ⟨b, 4, none⟩ = some (.slice (some ⟨lb, 0, none⟩) N N) := h.cell 4
    have cl := h.rowL.cell (k := k) hk
    have hkN : (k : Int) < (N : Int) := by omega
    go_wp2_with fail
    go_quiet (fail)
    go_wp2
    go_ret2
    exact ⟨ret_2 (int_v (show wrap64 (now - last k) = IntKind.i64.wrap (now - last k) from by first | rfl | (rw [IntKind.wrap_i64]; unfold wrap64; omega) | simp [IntKind.wrap_i64, wrap64])) (bool_v rfl), h1.drewN _⟩
  · have e : isB N s x = false := decide_eq_false hi
    rw [e]
    rw [decide_eq_false hi] at HI
    go_enter Try.func21, Try.ntmps21
    go_wp2_with fail
    refine HI.out.mono ?_
    rintro e w1 ⟨rfl, h1⟩
    go_wp2_with fail
    go_ret2
    exact ⟨rfl, h1⟩
end Go.Proofs.Ytaaohfocegnlkaa
