/-
  CoverAt: for every input the law returns true.
-/
import Derived.Test.YtmpnojgciaoghaaCovE
import Derived.Test.YtmpnojgciaoghaaCovQ
import Derived.Test.YtmpnojgciaoghaaLawKit
namespace Go.Proofs.Ytmpnojgciaoghaa
open Go.RowKit Go.ChangeShapes Go.WideShapes
set_option linter.unusedVariables false
set_option linter.unusedSimpArgs false

theorem swapOk (a b c : C3) (hm : may3 a b c = true) (h : sdW a b c.x c.y < 0) : sdW a c b.x b.y = wrap64 (- sdW a b c.x c.y) ∧ ¬ sdW a c b.x b.y < 0 := by
  unfold may3 at hm
  simp only [Bool.and_eq_true, mayB_iff] at hm
  exact sdW_swap hm.1.1 hm.1.2 hm.2 h

set_option maxHeartbeats 1000000 in
theorem coverAt_walk (a b c : C3) (x y : Int) (w : World) :
    Calls Try.prog 3 #[tri a b c, .int .i64 x, .int .i64 y] w fun e w' => e = .returned (.bool true) ∧ Later w w' := by
  obtain ⟨z, hz⟩ : ∃ z, Hid ((if pixOk x y && may3 a b c then tellZ a (shB b c (sdW a b c.x c.y)) (shC b c (sdW a b c.x c.y)) (shS (sdW a b c.x c.y)) x y else 0) = z) := ⟨_, rfl⟩
  obtain ⟨i, hi⟩ : ∃ z, Hid ((if pixOk x y && may3 a b c then tellI a (shB b c (sdW a b c.x c.y)) (shC b c (sdW a b c.x c.y)) (shS (sdW a b c.x c.y)) x y else false) = z) := ⟨_, rfl⟩
  obtain ⟨n, hn⟩ : ∃ z : Int, Hid ((if !pixOk x y then 2 else if !may3 a b c then 110 else 0) = z) := ⟨_, rfl⟩
  obtain ⟨o, ho⟩ : ∃ z, Hid (ownsB a b = z) := ⟨_, rfl⟩
  go_enter Try.func3, Try.ntmps3
  go_wp2_with fail
  refine (covAt_any a b c x y _).mono ?_
  rintro e w1 ⟨rfl, h1⟩
  rw [hz.out, hi.out, hn.out]
  have t0 := h1.cell (b := w.heap.size) (o := 0) (by simp; rfl)
  have t1 := h1.cell (b := w.heap.size) (o := 1) (by simp; rfl)
  have t2 := h1.cell (b := w.heap.size) (o := 2) (by simp; rfl)
  have t3 := h1.cell (b := w.heap.size) (o := 3) (by simp; rfl)
  have t4 := h1.cell (b := w.heap.size) (o := 4) (by simp; rfl)
  have t5 := h1.cell (b := w.heap.size) (o := 5) (by simp; rfl)
  have t6 := h1.cell (b := w.heap.size) (o := 6) (by simp; rfl)
  have t7 := h1.cell (b := w.heap.size) (o := 7) (by simp; rfl)
  have t8 := h1.cell (b := w.heap.size) (o := 8) (by simp; rfl)
  go_wp2_with fail
  refine (refAt3_any a b c x y _ (swapOk a b c)).mono ?_
  rintro e w2 ⟨rfl, h2⟩
  rw [hz.out, hi.out, hn.out]
  replace t0 := h2.cell t0
  replace t1 := h2.cell t1
  replace t2 := h2.cell t2
  replace t3 := h2.cell t3
  replace t4 := h2.cell t4
  replace t5 := h2.cell t5
  replace t6 := h2.cell t6
  replace t7 := h2.cell t7
  replace t8 := h2.cell t8
  go_wp2_with fail
  go_region_held3 (fun W => W.cell? ⟨w.heap.size, 0, none⟩ = some (.int .i64 a.x) ∧ W.cell? ⟨w.heap.size, 1, none⟩ = some (.int .i64 a.y) ∧ W.cell? ⟨w.heap.size, 2, none⟩ = some (.int .i64 a.z) ∧ W.cell? ⟨w.heap.size, 3, none⟩ = some (.int .i64 b.x) ∧ W.cell? ⟨w.heap.size, 4, none⟩ = some (.int .i64 b.y) ∧ W.cell? ⟨w.heap.size, 5, none⟩ = some (.int .i64 b.z)) ((go_split_ands; (repeat' apply And.intro) <;> first | assumption | exact (Later.refl _).drew.cell (by assumption) | exact ((Later.refl _).alloc _).cell (by assumption) | exact cell_setCell_o (by assumption) (by omega) | exact Later.cell hL (by assumption))) (first | (go_at_call 13; refine (covOwns_any a b _).mono ?_; rintro e W0 ⟨rfl, hL⟩; have hL0 := hL; rw [ho.out]) | (go_at_call 14; refine (refOwns_any a b _).mono ?_; rintro e W1 ⟨rfl, hL⟩; have hL1 := hL; rw [ho.out]))
  go_wp2
  go_ret
  exact ⟨rfl, ((((((Later.refl _).alloc _).trans h1).trans h2).drew).trans hL0).trans hL1⟩
end Go.Proofs.Ytmpnojgciaoghaa
