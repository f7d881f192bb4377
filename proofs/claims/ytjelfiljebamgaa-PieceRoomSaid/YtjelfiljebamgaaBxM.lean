/-
  Chapter 21: Open of a box in which nothing is; calls on none.
-/
import Derived.Test.YtjelfiljebamgaaBxL
namespace Go.Proofs.Ytjelfiljebamgaa
open Go.RowKit Go.Shelf Go.Maps
set_option linter.unusedVariables false
set_option linter.unusedSimpArgs false
attribute [local go_sem] Oper.semAt_some

theorem ins_nil (p : Option Addr) (cap : Nat) (w : World) :
    Calls Try.prog 101 #[.slice p 0 cap, .int .i64 0, .int .i64 0] w fun e w' => e = .returned (.tuple #[]) ∧ w' = w := by
  go_enter Try.func101, Try.ntmps101
  go_wp2
  refine wp_loop_rounds 1 ?_
  rw [rounds_succ]
  go_wp2
  go_end0
  exact ⟨rfl, rfl⟩
set_option maxRecDepth 100000 in
theorem pdq_nil (p : Option Addr) (cap : Nat) (t : Int) (w : World) :
    Calls Try.prog 90 #[.slice p 0 cap, .int .i64 0, .int .i64 0, .int .i64 t] w fun e w' => e = .returned (.tuple #[]) ∧ w' = w := by
  go_enter Try.func90, Try.ntmps90
  go_wp2
  refine wp_loop_rounds 1 ?_
  rw [rounds_succ]
  go_wp2_with (first | (go_at_call 101; refine (ins_nil p cap _).mono ?_; rintro e w' ⟨rfl, rfl⟩))
  refine bodyPost_ret (results_none rfl _ _ _) rfl ?_
  exact ⟨rfl, rfl⟩
theorem len_zero (w : World) : Calls Try.prog 91 #[.int .u64 0] w fun e w' => ∃ t : Int, e = .returned (.int .i64 t) ∧ w' = w := by
  have h := len64_any 0 w (by decide)
  go_enter Try.func91, Try.ntmps91
  go_wp2_with fail
  refine h.mono ?_
  rintro e w2 ⟨t, rfl, -, -, rfl⟩
  go_wp2_with fail
  go_ret
  exact ⟨t, rfl, rfl⟩
set_option maxRecDepth 100000 in
theorem sort_nil (p : Option Addr) (cap : Nat) (w : World) :
    Calls Try.prog 63 #[.slice p 0 cap] w fun e w' => e = .returned (.tuple #[]) ∧ w' = w := by
  go_enter Try.func63, Try.ntmps63
  go_wp2_with fail
  refine (len_zero _).mono ?_
  rintro e w2 ⟨t, rfl, rfl⟩
  go_wp2_with fail
  refine (pdq_nil p cap t _).mono ?_
  rintro e w3 ⟨rfl, rfl⟩
  go_wp2_with fail
  go_end0
  exact ⟨rfl, rfl⟩
set_option maxRecDepth 100000 in
theorem open_empty (x : Nat) (r : Int) (M : Bx) (S T : Nat → Prop) (W : World) (h : BoxB W x r M S T) (hM : ∀ i, M i = none) :
    Calls Try.prog 23 #[wp x] W fun e w' => e = .returned (.slice none 0 0) ∧ Later W w' := by
  obtain ⟨B, D, f, G, n, h⟩ := h
  obtain ⟨x0, x1⟩ := h.cells
  have hr := h.room.1
  have hmap := Lib.hid h.map
  have hok := Lib.hid h.ok
  have hf : Hid (∀ i p, f i = some p → False) := Lib.hid (fun i p hf => by
    obtain ⟨m, hm, _⟩ := h.some' i p hf
    rw [hM i] at hm; cases hm)
  clear h hM
  go_enter Try.func23, Try.ntmps23
  go_wp2_with fail
  refine (none_no x r W x0 hr).mono ?_
  rintro e w0 ⟨rfl, hw0⟩
  obtain rfl : W = w0 := hw0.symm
  go_wp2_with (at_range; refine wpList_range_own _ rfl _ 76 rfl 22 125 lawM Try.underlying76 _ B n D rfl hmap.out ?_; intro w1 hrg1 hg1 hs1)
  go_frame
  have hl1 : Hid (Later W w1) := Lib.hid ⟨hg1.os, hg1.tape, hg1.output, hg1.size, fun k hk => hg1.block k hk (by simp)⟩
  replace hrg1 := Lib.hid hrg1
  clear hg1 hs1
  refine wp_loop_rounds 1 ?_
  rw [rounds_succ]
  go_wp2_with (at_next; refine wpList_next_box _ rfl _ rfl B _ n n D f _ _ hok.out rfl hrg1.out ?_ ?_)
  · intro hc0 hl0
    go_wp2_with fail
    refine (sort_nil none 0 _).mono ?_
    rintro e w2 ⟨rfl, rfl⟩
    go_wp2_with fail
    go_ret
    exact ⟨rfl, hl1.out⟩
  · intro i p w2 cnt2 hfi
    exfalso
    exact hf.out i p hfi
/-! Calls on none. -/
set_option maxRecDepth 100000 in
theorem put_none (u : Value) (w : World) : Calls Try.prog 32 #[.pointer none, u] w fun e w' => e = .returned (.tuple #[.slice none 0 0, .bool false, .int .i64 1]) ∧ w' = w := by
  go_enter Try.func32, Try.ntmps32
  go_wp2_with fail
  refine (none_nil w).mono ?_
  rintro e w0 ⟨rfl, hw0⟩
  obtain rfl : w = w0 := hw0.symm
  go_wp2_with fail
  go_ret3
  exact ⟨rfl, rfl⟩
theorem open_none (w : World) : Calls Try.prog 23 #[.pointer none] w fun e w' => e = .returned (.slice none 0 0) ∧ w' = w := by
  go_enter Try.func23, Try.ntmps23
  go_wp2_with fail
  refine (none_nil w).mono ?_
  rintro e w0 ⟨rfl, hw0⟩
  obtain rfl : w = w0 := hw0.symm
  go_wp2_with fail
  go_ret
  exact ⟨rfl, rfl⟩
theorem held_none (w : World) : Calls Try.prog 26 #[.pointer none] w fun e w' => e = .returned (.int .i64 0) ∧ w' = w := by
  go_enter Try.func26, Try.ntmps26
  go_wp2_with fail
  refine (none_nil w).mono ?_
  rintro e w0 ⟨rfl, hw0⟩
  obtain rfl : w = w0 := hw0.symm
  go_wp2_with fail
  go_ret
  exact ⟨rfl, rfl⟩
theorem drop_zero (x : Nat) (i : Int) (w : World) (h : w.cell? ⟨x, 0, none⟩ = some (.int .i64 0)) : Calls Try.prog 31 #[wp x, .int .u64 i] w fun e w' => e = .returned (.int .i64 1) ∧ w' = w := by
  go_enter Try.func31, Try.ntmps31
  go_wp2_with fail
  refine (none_zero x w h).mono ?_
  rintro e w0 ⟨rfl, hw0⟩
  obtain rfl : w = w0 := hw0.symm
  go_wp2_with fail
  go_ret
  exact ⟨rfl, rfl⟩
theorem missing_zero (x : Nat) (i : Int) (w : World) (h : w.cell? ⟨x, 0, none⟩ = some (.int .i64 0)) : Calls Try.prog 28 #[wp x, .int .u64 i] w fun e w' => e = .returned (.slice none 0 0) ∧ w' = w := by
  go_enter Try.func28, Try.ntmps28
  go_wp2_with fail
  go_step3
  go_wp2_with fail
  refine (none_zero x w h).mono ?_
  rintro e w0 ⟨rfl, hw0⟩
  obtain rfl : w = w0 := hw0.symm
  go_wp2_with fail
  rw [Exit.noGoto_ret]
  go_ret
  exact ⟨rfl, rfl⟩
theorem copy_zero (x : Nat) (w : World) (h : w.cell? ⟨x, 0, none⟩ = some (.int .i64 0)) : Calls Try.prog 34 #[wp x] w fun e w' => e = .returned (.pointer none) ∧ w' = w := by
  go_enter Try.func34, Try.ntmps34
  go_wp2_with fail
  refine (none_zero x w h).mono ?_
  rintro e w0 ⟨rfl, hw0⟩
  obtain rfl : w = w0 := hw0.symm
  go_wp2_with fail
  go_ret
  exact ⟨rfl, rfl⟩
end Go.Proofs.Ytjelfiljebamgaa
