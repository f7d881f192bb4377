/-
  CoverNames: the chapter's examples.
-/
import Derived.Test.YtmpnojgciaoghaaCovM
import Derived.Test.YtmpnojgciaoghaaCovU
namespace Go.Proofs.Ytmpnojgciaoghaa
open Go.RowKit Go.Shelf
set_option linter.unusedVariables false
set_option linter.unusedSimpArgs false
attribute [local go_sem] Oper.semAt_some

theorem some_agg (w : World) : Calls Try.prog 26 #[] w fun e w' => e = .returned (.agg #[.int .i64 0, .int .i64 0, .int .i64 0, .int .i64 48, .int .i64 0, .int .i64 48, .int .i64 0, .int .i64 48, .int .i64 96]) ∧ Later w w' := some_any w
theorem at_of {a b c : C3} {x y z n : Int} {i : Bool} (h1 : (if pixOk x y && may3 a b c then tellZ a (shB b c (sdW a b c.x c.y)) (shC b c (sdW a b c.x c.y)) (shS (sdW a b c.x c.y)) x y else 0) = z)
    (h2 : (if pixOk x y && may3 a b c then tellI a (shB b c (sdW a b c.x c.y)) (shC b c (sdW a b c.x c.y)) (shS (sdW a b c.x c.y)) x y else false) = i)
    (h3 : (if !pixOk x y then 2 else if !may3 a b c then 110 else 0) = n) (w : World) :
    Calls Try.prog 11 #[tri a b c, .int .i64 x, .int .i64 y] w fun e w' => e = .returned (.tuple #[.int .u32 z, .bool i, .int .i64 n]) ∧ Later w w' := by
  have := covAt_any a b c x y w
  rwa [h1, h2, h3] at this
theorem area_of {a b c : C3} {z n : Int} (h1 : (if may3 a b c then sdW a b c.x c.y else 0) = z) (h3 : (if may3 a b c then 0 else 110) = n) (w : World) :
    Calls Try.prog 15 #[tri a b c] w fun e w' => e = .returned (.tuple #[.int .i64 z, .int .i64 n]) ∧ Later w w' := by
  have := covArea_any a b c w
  rwa [h1, h3] at this
theorem cells_of {a b c : C3} {x y n : Int} (h1 : CL a b c x y = []) (h3 : cellsN (may3 a b c) x y = n) (w : World) :
    Calls Try.prog 17 #[tri a b c, .int .i64 x, .int .i64 y] w fun e w' => ∃ ao cap, e = .returned (.tuple #[.slice ao 0 cap, .int .i64 n]) ∧ Later w w' := by
  have := covCells_CL a b c x y w
  rw [h1, h3] at this
  refine this.mono ?_
  rintro e w' ⟨v, rfl, ⟨ao, cap, rfl, _⟩, hl⟩
  exact ⟨ao, cap, rfl, hl⟩
theorem owns_of {a b : C3} {i : Bool} (h : ownsB a b = i) (w : World) : Calls Try.prog 13 #[crn a, crn b] w fun e w' => e = .returned (.bool i) ∧ Later w w' := by
  have := covOwns_any a b w
  rwa [h] at this
theorem may_of {a : C3} {i : Bool} (h : mayB a = i) (w : World) : Calls Try.prog 19 #[crn a] w fun e w' => e = .returned (.bool i) ∧ Later w w' := by
  have := covMay_any a w
  rwa [h] at this

def sT : C3 := ⟨4097, 0, 48⟩
def sU : C3 := ⟨16, 0, 0⟩

set_option maxRecDepth 1000000 in
set_option maxHeartbeats 4000000 in
theorem coverNames_walk (w : World) :
    Calls Try.prog 9 #[] w fun e w' => e = .returned (.bool true) ∧ Later w w' := by
  have k1 := Lib.hid (fun w => at_of (a := sA) (b := sB) (c := sC) (x := 1) (y := 1) (z := 0) (n := 0) (i := false) (by decide +kernel) (by decide +kernel) (by decide +kernel) w)
  have k2 := Lib.hid (fun w => at_of (a := sA) (b := sB) (c := sC) (x := 64) (y := 0) (z := 0) (n := 2) (i := false) (by decide +kernel) (by decide +kernel) (by decide +kernel) w)
  have k3 := Lib.hid (fun w => at_of (a := sA) (b := sB) (c := sC) (x := 0) (y := -1) (z := 0) (n := 2) (i := false) (by decide +kernel) (by decide +kernel) (by decide +kernel) w)
  have k4 := Lib.hid (fun w => area_of (a := sA) (b := sT) (c := sC) (z := 0) (n := 110) (by decide +kernel) (by decide +kernel) w)
  have k5 := Lib.hid (fun w => at_of (a := sA) (b := sT) (c := sC) (x := 0) (y := 0) (z := 0) (n := 110) (i := false) (by decide +kernel) (by decide +kernel) (by decide +kernel) w)
  have k6 := Lib.hid (fun w => cells_of (a := sA) (b := sT) (c := sC) (x := 4) (y := 4) (n := 110) (by decide +kernel) (by decide +kernel) w)
  have k7 := Lib.hid (fun w => cells_of (a := sA) (b := sT) (c := sC) (x := 4) (y := 65) (n := 2) (by decide +kernel) (by decide +kernel) w)
  have k8 := Lib.hid (fun w => cells_of (a := sA) (b := sB) (c := sC) (x := 0) (y := 4) (n := 2) (by decide +kernel) (by decide +kernel) w)
  have k9 := Lib.hid (fun w => owns_of (a := ⟨0, 0, 0⟩) (b := ⟨5, 0, 0⟩) (i := true) (by decide +kernel) w)
  have k10 := Lib.hid (fun w => owns_of (a := ⟨5, 0, 0⟩) (b := ⟨0, 0, 0⟩) (i := false) (by decide +kernel) w)
  have k11 := Lib.hid (fun w => owns_of (a := ⟨0, 5, 0⟩) (b := ⟨9, 4, 0⟩) (i := true) (by decide +kernel) w)
  have k12 := Lib.hid (fun w => owns_of (a := ⟨0, 0, 0⟩) (b := ⟨0, 0, 0⟩) (i := false) (by decide +kernel) w)
  have k13 := Lib.hid (fun w => cells_of (a := sA) (b := sB) (c := sU) (x := 4) (y := 4) (n := 0) (by decide +kernel) (by decide +kernel) w)
  have k14 := Lib.hid (fun w => may_of (a := ⟨-4096, 4096, 16777215⟩) (i := true) (by decide +kernel) w)
  have k15 := Lib.hid (fun w => may_of (a := ⟨0, 0, 16777216⟩) (i := false) (by decide +kernel) w)
  have k16 := Lib.hid (fun w => may_of (a := ⟨0, 0, -1⟩) (i := false) (by decide +kernel) w)
  go_enter Try.func9, Try.ntmps9
  go_wp2_with fail
  refine (some_any _).mono ?_
  rintro e w1 ⟨rfl, h1⟩
  have hl := h1
  clear h1
  go_wp2_with fail
  refine (k1.out _).mono ?_
  rintro e w2 ⟨rfl, h2⟩
  replace hl := hl.trans h2
  clear h2
  go_wp2_with fail
  refine (some_any _).mono ?_
  rintro e w3 ⟨rfl, h3⟩
  replace hl := hl.trans h3
  clear h3
  go_wp2_with fail
  refine (k2.out _).mono ?_
  rintro e w4 ⟨rfl, h4⟩
  replace hl := hl.trans h4
  clear h4
  go_wp2_with fail
  refine (some_any _).mono ?_
  rintro e w5 ⟨rfl, h5⟩
  replace hl := hl.trans h5
  clear h5
  go_wp2_with fail
  refine (k3.out _).mono ?_
  rintro e w6 ⟨rfl, h6⟩
  replace hl := hl.trans h6
  clear h6
  go_wp2_with fail
  refine (some_agg _).mono ?_
  rintro e w7 ⟨rfl, h7⟩
  replace hl := hl.trans h7
  clear h7
  go_upto_region 6 with fail
  obtain ⟨X1, hX1⟩ : ∃ X, X = w7.alloc (.cells #[.int .i64 0, .int .i64 0, .int .i64 0, .int .i64 4097, .int .i64 0, .int .i64 48, .int .i64 0, .int .i64 48, .int .i64 96] 24) := ⟨_, rfl⟩
  have t0 : X1.cell? ⟨w7.heap.size, 0, none⟩ = some (.int .i64 0) := by rw [hX1]; simp
  have t1 : X1.cell? ⟨w7.heap.size, 1, none⟩ = some (.int .i64 0) := by rw [hX1]; simp
  have t2 : X1.cell? ⟨w7.heap.size, 2, none⟩ = some (.int .i64 0) := by rw [hX1]; simp
  have t3 : X1.cell? ⟨w7.heap.size, 3, none⟩ = some (.int .i64 4097) := by rw [hX1]; simp
  have t4 : X1.cell? ⟨w7.heap.size, 4, none⟩ = some (.int .i64 0) := by rw [hX1]; simp
  have t5 : X1.cell? ⟨w7.heap.size, 5, none⟩ = some (.int .i64 48) := by rw [hX1]; simp
  have t6 : X1.cell? ⟨w7.heap.size, 6, none⟩ = some (.int .i64 0) := by rw [hX1]; simp
  have t7 : X1.cell? ⟨w7.heap.size, 7, none⟩ = some (.int .i64 48) := by rw [hX1]; simp
  have t8 : X1.cell? ⟨w7.heap.size, 8, none⟩ = some (.int .i64 96) := by rw [hX1]; simp
  replace hl : Later w X1 := by rw [hX1]; exact hl.alloc _
  rw [← hX1]
  clear hX1
  go_wp2_with fail
  refine (k4.out _).mono ?_
  rintro e w8 ⟨rfl, h8⟩
  replace hl := hl.trans h8
  replace t0 := h8.cell t0
  replace t1 := h8.cell t1
  replace t2 := h8.cell t2
  replace t3 := h8.cell t3
  replace t4 := h8.cell t4
  replace t5 := h8.cell t5
  replace t6 := h8.cell t6
  replace t7 := h8.cell t7
  replace t8 := h8.cell t8
  clear h8
  go_wp2_with fail
  refine (k5.out _).mono ?_
  rintro e w9 ⟨rfl, h9⟩
  replace hl := hl.trans h9
  replace t0 := h9.cell t0
  replace t1 := h9.cell t1
  replace t2 := h9.cell t2
  replace t3 := h9.cell t3
  replace t4 := h9.cell t4
  replace t5 := h9.cell t5
  replace t6 := h9.cell t6
  replace t7 := h9.cell t7
  replace t8 := h9.cell t8
  clear h9
  go_wp2_with fail
  refine (k6.out _).mono ?_
  rintro e w10 ⟨a1, c1, rfl, h10⟩
  replace hl := hl.trans h10
  replace t0 := h10.cell t0
  replace t1 := h10.cell t1
  replace t2 := h10.cell t2
  replace t3 := h10.cell t3
  replace t4 := h10.cell t4
  replace t5 := h10.cell t5
  replace t6 := h10.cell t6
  replace t7 := h10.cell t7
  replace t8 := h10.cell t8
  clear h10
  go_wp2_with fail
  refine (k7.out _).mono ?_
  rintro e w11 ⟨a2, c2, rfl, h11⟩
  replace hl := hl.trans h11
  replace t0 := h11.cell t0
  replace t1 := h11.cell t1
  replace t2 := h11.cell t2
  replace t3 := h11.cell t3
  replace t4 := h11.cell t4
  replace t5 := h11.cell t5
  replace t6 := h11.cell t6
  replace t7 := h11.cell t7
  replace t8 := h11.cell t8
  clear h11
  clear t0 t1 t2 t3 t4 t5 t6 t7 t8
  go_wp2_with fail
  refine (some_any _).mono ?_
  rintro e w12 ⟨rfl, h12⟩
  replace hl := hl.trans h12
  clear h12
  go_wp2_with fail
  refine (k8.out _).mono ?_
  rintro e w13 ⟨a3, c3, rfl, h13⟩
  replace hl := hl.trans h13
  clear h13
  go_wp2_with fail
  refine (k9.out _).mono ?_
  rintro e w14 ⟨rfl, h14⟩
  replace hl := hl.trans h14
  clear h14
  go_wp2_with fail
  refine (k10.out _).mono ?_
  rintro e w15 ⟨rfl, h15⟩
  replace hl := hl.trans h15
  clear h15
  go_wp2_with fail
  refine (k11.out _).mono ?_
  rintro e w16 ⟨rfl, h16⟩
  replace hl := hl.trans h16
  clear h16
  go_wp2_with fail
  refine (k12.out _).mono ?_
  rintro e w17 ⟨rfl, h17⟩
  replace hl := hl.trans h17
  clear h17
  go_wp2_with fail
  refine (some_agg _).mono ?_
  rintro e w18 ⟨rfl, h18⟩
  replace hl := hl.trans h18
  clear h18
  go_upto_region 15 with fail
  obtain ⟨X2, hX2⟩ : ∃ X, X = w18.alloc (.cells #[.int .i64 0, .int .i64 0, .int .i64 0, .int .i64 48, .int .i64 0, .int .i64 48, .int .i64 16, .int .i64 0, .int .i64 0] 24) := ⟨_, rfl⟩
  have t0 : X2.cell? ⟨w18.heap.size, 0, none⟩ = some (.int .i64 0) := by rw [hX2]; simp
  have t1 : X2.cell? ⟨w18.heap.size, 1, none⟩ = some (.int .i64 0) := by rw [hX2]; simp
  have t2 : X2.cell? ⟨w18.heap.size, 2, none⟩ = some (.int .i64 0) := by rw [hX2]; simp
  have t3 : X2.cell? ⟨w18.heap.size, 3, none⟩ = some (.int .i64 48) := by rw [hX2]; simp
  have t4 : X2.cell? ⟨w18.heap.size, 4, none⟩ = some (.int .i64 0) := by rw [hX2]; simp
  have t5 : X2.cell? ⟨w18.heap.size, 5, none⟩ = some (.int .i64 48) := by rw [hX2]; simp
  have t6 : X2.cell? ⟨w18.heap.size, 6, none⟩ = some (.int .i64 16) := by rw [hX2]; simp
  have t7 : X2.cell? ⟨w18.heap.size, 7, none⟩ = some (.int .i64 0) := by rw [hX2]; simp
  have t8 : X2.cell? ⟨w18.heap.size, 8, none⟩ = some (.int .i64 0) := by rw [hX2]; simp
  replace hl : Later w X2 := by rw [hX2]; exact hl.alloc _
  rw [← hX2]
  clear hX2
  go_wp2_with fail
  refine (k13.out _).mono ?_
  rintro e w19 ⟨a4, c4, rfl, h19⟩
  replace hl := hl.trans h19
  replace t0 := h19.cell t0
  replace t1 := h19.cell t1
  replace t2 := h19.cell t2
  replace t3 := h19.cell t3
  replace t4 := h19.cell t4
  replace t5 := h19.cell t5
  replace t6 := h19.cell t6
  replace t7 := h19.cell t7
  replace t8 := h19.cell t8
  clear h19
  clear t0 t1 t2 t3 t4 t5 t6 t7 t8
  go_wp2_with fail
  refine (alive_any _).mono ?_
  rintro e w20 ⟨rfl, h20⟩
  replace hl := hl.trans h20
  clear h20
  go_wp2_with fail
  refine (k14.out _).mono ?_
  rintro e w21 ⟨rfl, h21⟩
  replace hl := hl.trans h21
  clear h21
  go_wp2_with fail
  refine (k15.out _).mono ?_
  rintro e w22 ⟨rfl, h22⟩
  replace hl := hl.trans h22
  clear h22
  go_wp2_with fail
  refine (k16.out _).mono ?_
  rintro e w23 ⟨rfl, h23⟩
  replace hl := hl.trans h23
  clear h23
  go_wp2_with fail
  go_ret
  exact ⟨rfl, hl⟩
end Go.Proofs.Ytmpnojgciaoghaa
