/-
  Chapter 23: a watch in memory; whether there is one, now, and whether a heartbeat is due.
-/
import Derived.Test.YtaaohfocegnlkaaRow
namespace Go.Proofs.Ytaaohfocegnlkaa
open Go.RowKit Go.Shelf
set_option linter.unusedVariables false
set_option linter.unusedSimpArgs false
attribute [local go_sem] Oper.semAt_some

/-- A watch: 0 whose, 1 over how many, 2 the patience, 3 ticks, from 4 on when each was heard. -/
abbrev WB (W : World) (b : Nat) (g : Nat → Int) : Prop := Row 59 68 W b g
abbrev wp (b : Nat) : Value := .pointer (some ⟨b, 0, none⟩)

theorem none_any (b : Nat) (g : Nat → Int) (w : World) (h : WB w b g) :
    Calls Try.prog 26 #[wp b] w fun e w' => e = .returned (.bool (g 1 == 0)) ∧ Later w w' := by
  have c1 := h.cell (k := 1) (by omega)
  go_enter Try.func26, Try.ntmps26
  go_wp2
  go_ret
  exact ⟨rfl, Later.refl _⟩
theorem none_nil (w : World) :
    Calls Try.prog 26 #[.pointer none] w fun e w' => e = .returned (.bool true) ∧ Later w w' := by
  go_enter Try.func26, Try.ntmps26
  go_wp2
  go_ret
  exact ⟨rfl, Later.refl _⟩
theorem now_any (b : Nat) (g : Nat → Int) (w : World) (h : WB w b g) (hn : ¬ g 1 = 0) :
    Calls Try.prog 15 #[wp b] w fun e w' => e = .returned (.int .i64 (g 3)) ∧ Later w w' := by
  have c3 := h.cell (k := 3) (by omega)
  have hn2 : (g 1 == 0) = false := by simp [hn]
  have H := none_any b g w h
  rw [hn2] at H
  go_enter Try.func15, Try.ntmps15
  go_wp2_with fail
  refine H.mono ?_
  rintro e w1 ⟨rfl, h1⟩
  replace c3 := h1.cell c3
  go_wp2
  go_ret
  exact ⟨rfl, h1⟩
theorem due_any (b : Nat) (g : Nat → Int) (w : World) (h : WB w b g) (hn : ¬ g 1 = 0) :
    Calls Try.prog 22 #[wp b] w fun e w' => e = .returned (.bool ((g 3).tmod 2 == 0)) ∧ Later w w' := by
  have c3 := h.cell (k := 3) (by omega)
  have hn2 : (g 1 == 0) = false := by simp [hn]
  have H := none_any b g w h
  rw [hn2] at H
  go_enter Try.func22, Try.ntmps22
  go_wp2_with fail
  refine H.mono ?_
  rintro e w1 ⟨rfl, h1⟩
  replace c3 := h1.cell c3
  go_wp2
  go_ret
  exact ⟨rfl, h1⟩

set_option maxRecDepth 100000 in
theorem zero_watch (W : World) : (zeroValue 59).run Try.prog W = .ok (.agg (rowV 68 fun _ => 0)) W := zero_of (by kernel_rfl) W
def g0 (self nodes pat : Int) : Nat → Int := fun k => if k = 0 then self else if k = 1 then nodes else if k = 2 then pat else 0
theorem new_ok (s n p : Int) (w : World) (h1 : 1 ≤ n) (h2 : n ≤ 64) (h3 : 0 ≤ s) (h4 : s < n) (h5 : 4 ≤ p) (h6 : p ≤ 1000) :
    Calls Try.prog 16 #[.int .i64 s, .int .i64 n, .int .i64 p] w fun e w' => ∃ b, e = .returned (.tuple #[wp b, .int .i64 0]) ∧ WB w' b (g0 s n p) ∧ w.heap.size ≤ b ∧ Later w w' := by
  obtain ⟨Z, hZ⟩ : ∃ Z, Hid (rowV 68 (fun _ => 0) = Z) := ⟨_, rfl⟩
  have hz := zero_watch
  rw [hZ.out] at hz
  have hzs : Z.size = 68 := by rw [← hZ.out, rowV_size]
  have hz0 : ¬ Z = #[] := fun e => by rw [e] at hzs; cases hzs
  go_enter Try.func16, Try.ntmps16
  go_wp2_with fail
  go_ret2
  refine ⟨_, rfl, ?_, Nat.le_refl _, (Later.refl _).alloc _⟩
  unfold WB Row
  rw [← hZ.out, rowV_set _ (by omega), rowV_set _ (by omega), rowV_set _ (by omega)]
  refine (heap_alloc_new _ _).trans ?_
  congr 2
theorem new_bad (s n p : Int) (w : World) (h : ¬ (1 ≤ n ∧ n ≤ 64 ∧ 0 ≤ s ∧ s < n ∧ 4 ≤ p ∧ p ≤ 1000)) :
    Calls Try.prog 16 #[.int .i64 s, .int .i64 n, .int .i64 p] w fun e w' => e = .returned (.tuple #[.pointer none, .int .i64 230]) ∧ Later w w' := by
  obtain ⟨Z, hZ⟩ : ∃ Z, Hid (rowV 68 (fun _ => 0) = Z) := ⟨_, rfl⟩
  have hz := zero_watch
  rw [hZ.out] at hz
  have hzs : Z.size = 68 := by rw [← hZ.out, rowV_size]
  have hz0 : ¬ Z = #[] := fun e => by rw [e] at hzs; cases hzs
  go_enter Try.func16, Try.ntmps16
  go_wp2_with fail
  all_goals (go_ret2; exact ⟨rfl, Later.refl _⟩)

set_option maxRecDepth 100000 in
theorem size_watch : (Try.prog.info? 59).map (·.size) = some 68 := by kernel_rfl
theorem rowV_one (n : Nat) (f : Nat → Int) : (rowV n f).all (·.oneCell') = true := by
  rw [Array.all_eq_true]
  intro i hi
  rw [rowV_size] at hi
  have h := rowV_get f hi
  rw [Array.getElem?_eq_getElem (by rw [rowV_size]; exact hi)] at h
  rw [Option.some.inj h]
  rfl
theorem copy_any (b : Nat) (g : Nat → Int) (w : World) (h : WB w b g) (hn : ¬ g 1 = 0) :
    Calls Try.prog 20 #[wp b] w fun e w' => ∃ c, e = .returned (wp c) ∧ WB w' c g ∧ w.heap.size ≤ c ∧ Later w w' := by
  have hn2 : (g 1 == 0) = false := by simp [hn]
  have H := none_any b g w h
  rw [hn2] at H
  obtain ⟨Z, hZ⟩ : ∃ Z, Hid (rowV 68 (fun _ => 0) = Z) := ⟨_, rfl⟩
  have hz := zero_watch
  rw [hZ.out] at hz
  have hzs : Z.size = 68 := by rw [← hZ.out, rowV_size]
  have hys : (rowV 68 g).size = 68 := rowV_size _ _
  have hy1 := rowV_one 68 g
  have hsz := Lib.hid size_watch
  replace h : w.heap[b]? = some (.cells (rowV 68 g) 59 (0, 0)) := h
  obtain ⟨Y, hY⟩ : ∃ Z, Hid (rowV 68 g = Z) := ⟨_, rfl⟩
  unfold WB Row
  rw [hY.out] at h hys hy1 ⊢
  clear hZ hY
  go_enter Try.func20, Try.ntmps20
  go_wp2_with fail
  refine H.mono ?_
  rintro e w1 ⟨rfl, h1⟩
  replace h := (h1.block b (Array.getElem?_eq_some_iff.1 h).1).trans h
  have hi := hsz.out.trans (show some 68 = some Y.size by rw [hys])
  have hh := heap_alloc_new w1 (.cells Z 59)
  have hold : Z.size = Y.size := by rw [hys, hzs]
  go_wp2_with (first | refine wpList_load_row rfl 59 _ rfl b rfl 59 Y (0, 0) _ h Try.underlying59 rfl hi ?_ | refine wpList_store_row rfl 59 _ _ rfl w1.heap.size Y rfl rfl 59 Z hh hi hold hy1 ?_)
  rw [World.setRow_alloc_new]
  go_ret
  exact ⟨_, rfl, heap_alloc_new _ _, h1.size, h1.alloc _⟩
end Go.Proofs.Ytaaohfocegnlkaa
