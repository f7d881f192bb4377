/-
  Chapter 11: a triangle's shape, where the corners go round to the left.
-/
import Derived.Test.YtmpnojgciaoghaaCovB
namespace Go.Proofs.Ytmpnojgciaoghaa
open Go.RowKit
set_option linter.unusedVariables false
set_option linter.unusedSimpArgs false

set_option maxHeartbeats 2000000 in
theorem made_neg (a b c : C3) (s : Int) (w : World) (hs : Hid (sdW a b c.x c.y = s)) (h0 : s < 0) :
    Calls Try.prog 28 #[tri a b c] w (MadeS a c b (wrap64 (-s)) w) := by
  go_enter Try.func28, Try.ntmps28
  go_wp2_with fail
  go_region_held3 (fun W => W.cell? ⟨w.heap.size, 0, none⟩ = some (.int .i64 a.x) ∧ W.cell? ⟨w.heap.size, 1, none⟩ = some (.int .i64 a.y) ∧ W.cell? ⟨w.heap.size, 2, none⟩ = some (.int .i64 a.z) ∧ W.cell? ⟨w.heap.size, 3, none⟩ = some (.int .i64 b.x) ∧ W.cell? ⟨w.heap.size, 4, none⟩ = some (.int .i64 b.y) ∧ W.cell? ⟨w.heap.size, 5, none⟩ = some (.int .i64 b.z) ∧ W.cell? ⟨w.heap.size, 6, none⟩ = some (.int .i64 c.x) ∧ W.cell? ⟨w.heap.size, 7, none⟩ = some (.int .i64 c.y) ∧ W.cell? ⟨w.heap.size, 8, none⟩ = some (.int .i64 c.z)) (first | (simp; done) | (go_split_ands; refine ⟨?_, ?_, ?_, ?_, ?_, ?_, ?_, ?_, ?_⟩ <;> exact Later.cell hL (by assumption)) | (go_split_ands; refine ⟨?_, ?_, ?_, ?_, ?_, ?_, ?_, ?_, ?_⟩ <;> exact Later.cell ((Later.refl _).alloc _) (by assumption))) (first | (go_at_call 31; refine (area_any a b c s _ hs).mono ?_; rintro e W1 ⟨rfl, hL⟩))
  go_split_ands
  have q0 : W1.cell? ⟨w.heap.size, 0, none⟩ = some (.int .i64 a.x) := hL.cell (by simp)
  have q1 : W1.cell? ⟨w.heap.size, 1, none⟩ = some (.int .i64 a.y) := hL.cell (by simp)
  have q2 : W1.cell? ⟨w.heap.size, 2, none⟩ = some (.int .i64 a.z) := hL.cell (by simp)
  have q3 : W1.cell? ⟨w.heap.size, 3, none⟩ = some (.int .i64 b.x) := hL.cell (by simp)
  have q4 : W1.cell? ⟨w.heap.size, 4, none⟩ = some (.int .i64 b.y) := hL.cell (by simp)
  have q5 : W1.cell? ⟨w.heap.size, 5, none⟩ = some (.int .i64 b.z) := hL.cell (by simp)
  have q6 : W1.cell? ⟨w.heap.size, 6, none⟩ = some (.int .i64 c.x) := hL.cell (by simp)
  have q7 : W1.cell? ⟨w.heap.size, 7, none⟩ = some (.int .i64 c.y) := hL.cell (by simp)
  have q8 : W1.cell? ⟨w.heap.size, 8, none⟩ = some (.int .i64 c.z) := hL.cell (by simp)
  have hlt : w.heap.size < W1.heap.size := by have := hL.size; simp at this; omega
  go_wp2
  go_region
  all_goals go_wp2
  have hLw : Later w (W1.alloc (.cells #[.int .i64 a.x, .int .i64 a.y, .int .i64 a.z, .int .i64 c.x, .int .i64 c.y, .int .i64 c.z, .int .i64 b.x, .int .i64 b.y, .int .i64 b.z, .int .i64 (wrap64 (-s)), .nilFunc, .nilFunc, .nilFunc] 73)).drew := (((((Later.refl _).alloc _).drew).trans hL).alloc _).drew
  obtain ⟨B, hB⟩ : ∃ B, W1.heap.size = B := ⟨_, rfl⟩
  have hwB : w.heap.size < B := by omega
  obtain ⟨X0, hX0⟩ : ∃ X, X = (W1.alloc (.cells #[.int .i64 a.x, .int .i64 a.y, .int .i64 a.z, .int .i64 c.x, .int .i64 c.y, .int .i64 c.z, .int .i64 b.x, .int .i64 b.y, .int .i64 b.z, .int .i64 (wrap64 (-s)), .nilFunc, .nilFunc, .nilFunc] 73)).drew := ⟨_, rfl⟩
  have hM0 : MB X0 B a c b (wrap64 (-s)) := by subst hX0; subst hB; unfold MB ShapeAt Free; simp
  have hLw0 : Later w X0 := by rw [hX0]; exact hLw
  rw [← hX0, hB]
  clear hLw hL hX0 q0 q1 q2 q3 q4 q5 q6 q7 q8
  have k1 : IntKind.i64.wrap 1 = 1 := by simp [IntKind.wrap_i64]
  have k2 : IntKind.i64.wrap 2 = 2 := by simp [IntKind.wrap_i64]
  have k3 : IntKind.i64.wrap 3 = 3 := by simp [IntKind.wrap_i64]
  have k4 : IntKind.i64.wrap 4 = 4 := by simp [IntKind.wrap_i64]
  refine wp_loop_rounds 4 ?_
  obtain ⟨⟨⟨t0, t1, t2, t3, t4, t5, t6, t7, t8⟩, t9⟩, ⟨⟨x10, n0⟩, f0⟩, ⟨⟨x11, n1⟩, f1⟩, ⟨⟨x12, n2⟩, f2⟩⟩ := id hM0
  rw [rounds_succ]
  go_wp2_with fail
  go_region_held3 (fun W => W.cell? ⟨B, 0, none⟩ = some (.int .i64 a.x) ∧ W.cell? ⟨B, 1, none⟩ = some (.int .i64 a.y) ∧ W.cell? ⟨B, 2, none⟩ = some (.int .i64 a.z) ∧ W.cell? ⟨B, 3, none⟩ = some (.int .i64 c.x) ∧ W.cell? ⟨B, 4, none⟩ = some (.int .i64 c.y) ∧ W.cell? ⟨B, 5, none⟩ = some (.int .i64 c.z) ∧ W.cell? ⟨B, 6, none⟩ = some (.int .i64 b.x) ∧ W.cell? ⟨B, 7, none⟩ = some (.int .i64 b.y) ∧ W.cell? ⟨B, 8, none⟩ = some (.int .i64 b.z)) ((go_split_ands; (repeat' apply And.intro) <;> first | assumption | exact (Later.refl _).drew.cell (by assumption) | exact ((Later.refl _).alloc _).cell (by assumption) | exact cell_setCell_o (by assumption) (by omega) | exact Later.cell hL (by assumption))) (first | (go_at_call 34; refine (along_any c b _).mono ?_; rintro e V0 ⟨v0, rfl, hE0, hL⟩; obtain ⟨d0, p0, e0, o0, rfl, _, _, _, _, _⟩ := id hE0; have q := ((Later.refl X0).drew.trans hL).cell n0; have g := ((Later.refl X0).drew.trans hL).frozen n0 f0))
  obtain ⟨X1, hX1⟩ : ∃ X, X = V0.setCell ⟨B, 10, none⟩ (.func (.func 37) #[] #[.pointer (some ⟨d0, 0, none⟩), .pointer (some ⟨p0, 0, none⟩), .pointer (some ⟨e0, 0, none⟩), .pointer (some ⟨o0, 0, none⟩)]) := ⟨_, rfl⟩
  have hl0 := (Later.refl X0).drew.trans hL
  have hM1 : MB X1 B a c b (wrap64 (-s)) := by rw [hX1]; exact (hM0.later hl0).setCell (by omega) _
  have hLw1 : Later w X1 := by rw [hX1]; exact (hLw0.trans hl0).setCell (by simp; omega) _
  have hq0 : X1.cell? ⟨B, 10, none⟩ = some (.func (.func 37) #[] #[.pointer (some ⟨d0, 0, none⟩), .pointer (some ⟨p0, 0, none⟩), .pointer (some ⟨e0, 0, none⟩), .pointer (some ⟨o0, 0, none⟩)]) := by rw [hX1]; exact cell_setCell_s q
  have hE0_1 : EdgeV X1 (.func (.func 37) #[] #[.pointer (some ⟨d0, 0, none⟩), .pointer (some ⟨p0, 0, none⟩), .pointer (some ⟨e0, 0, none⟩), .pointer (some ⟨o0, 0, none⟩)]) c b := by rw [hX1]; exact (hE0).setCell (by omega) _
  rw [← hX1]
  clear hX1 hl0 hL t0 t1 t2 t3 t4 t5 t6 t7 t8 t9 n0 n1 n2 f0 f1 f2 q g
  go_wp2
  obtain ⟨⟨⟨t0, t1, t2, t3, t4, t5, t6, t7, t8⟩, t9⟩, ⟨⟨x10, n0⟩, f0⟩, ⟨⟨x11, n1⟩, f1⟩, ⟨⟨x12, n2⟩, f2⟩⟩ := id hM1
  rw [rounds_succ]
  go_wp2_with fail
  go_region_held3 (fun W => W.cell? ⟨B, 0, none⟩ = some (.int .i64 a.x) ∧ W.cell? ⟨B, 1, none⟩ = some (.int .i64 a.y) ∧ W.cell? ⟨B, 2, none⟩ = some (.int .i64 a.z) ∧ W.cell? ⟨B, 3, none⟩ = some (.int .i64 c.x) ∧ W.cell? ⟨B, 4, none⟩ = some (.int .i64 c.y) ∧ W.cell? ⟨B, 5, none⟩ = some (.int .i64 c.z) ∧ W.cell? ⟨B, 6, none⟩ = some (.int .i64 b.x) ∧ W.cell? ⟨B, 7, none⟩ = some (.int .i64 b.y) ∧ W.cell? ⟨B, 8, none⟩ = some (.int .i64 b.z)) ((go_split_ands; (repeat' apply And.intro) <;> first | assumption | exact (Later.refl _).drew.cell (by assumption) | exact ((Later.refl _).alloc _).cell (by assumption) | exact cell_setCell_o (by assumption) (by omega) | exact Later.cell hL (by assumption))) (first | (go_at_call 34; refine (along_any b a _).mono ?_; rintro e V1 ⟨v1, rfl, hE1, hL⟩; obtain ⟨d1, p1, e1, o1, rfl, _, _, _, _, _⟩ := id hE1; have q := ((Later.refl X1).drew.trans hL).cell n1; have g := ((Later.refl X1).drew.trans hL).frozen n1 f1))
  obtain ⟨X2, hX2⟩ : ∃ X, X = V1.setCell ⟨B, 11, none⟩ (.func (.func 37) #[] #[.pointer (some ⟨d1, 0, none⟩), .pointer (some ⟨p1, 0, none⟩), .pointer (some ⟨e1, 0, none⟩), .pointer (some ⟨o1, 0, none⟩)]) := ⟨_, rfl⟩
  have hl1 := (Later.refl X1).drew.trans hL
  have hM2 : MB X2 B a c b (wrap64 (-s)) := by rw [hX2]; exact (hM1.later hl1).setCell (by omega) _
  have hLw2 : Later w X2 := by rw [hX2]; exact (hLw1.trans hl1).setCell (by simp; omega) _
  have hq1 : X2.cell? ⟨B, 11, none⟩ = some (.func (.func 37) #[] #[.pointer (some ⟨d1, 0, none⟩), .pointer (some ⟨p1, 0, none⟩), .pointer (some ⟨e1, 0, none⟩), .pointer (some ⟨o1, 0, none⟩)]) := by rw [hX2]; exact cell_setCell_s q
  have hE0_2 : EdgeV X2 (.func (.func 37) #[] #[.pointer (some ⟨d0, 0, none⟩), .pointer (some ⟨p0, 0, none⟩), .pointer (some ⟨e0, 0, none⟩), .pointer (some ⟨o0, 0, none⟩)]) c b := by rw [hX2]; exact (hE0_1.later hl1).setCell (by omega) _
  have hE1_2 : EdgeV X2 (.func (.func 37) #[] #[.pointer (some ⟨d1, 0, none⟩), .pointer (some ⟨p1, 0, none⟩), .pointer (some ⟨e1, 0, none⟩), .pointer (some ⟨o1, 0, none⟩)]) b a := by rw [hX2]; exact (hE1).setCell (by omega) _
  have hq0_2 : X2.cell? ⟨B, 10, none⟩ = some (.func (.func 37) #[] #[.pointer (some ⟨d0, 0, none⟩), .pointer (some ⟨p0, 0, none⟩), .pointer (some ⟨e0, 0, none⟩), .pointer (some ⟨o0, 0, none⟩)]) := by rw [hX2]; exact cell_setCell_o (hl1.cell hq0) (by omega)
  rw [← hX2]
  clear hX2 hl1 hL t0 t1 t2 t3 t4 t5 t6 t7 t8 t9 n0 n1 n2 f0 f1 f2 q g
  go_wp2
  obtain ⟨⟨⟨t0, t1, t2, t3, t4, t5, t6, t7, t8⟩, t9⟩, ⟨⟨x10, n0⟩, f0⟩, ⟨⟨x11, n1⟩, f1⟩, ⟨⟨x12, n2⟩, f2⟩⟩ := id hM2
  rw [rounds_succ]
  go_wp2_with fail
  go_region_held3 (fun W => W.cell? ⟨B, 0, none⟩ = some (.int .i64 a.x) ∧ W.cell? ⟨B, 1, none⟩ = some (.int .i64 a.y) ∧ W.cell? ⟨B, 2, none⟩ = some (.int .i64 a.z) ∧ W.cell? ⟨B, 3, none⟩ = some (.int .i64 c.x) ∧ W.cell? ⟨B, 4, none⟩ = some (.int .i64 c.y) ∧ W.cell? ⟨B, 5, none⟩ = some (.int .i64 c.z) ∧ W.cell? ⟨B, 6, none⟩ = some (.int .i64 b.x) ∧ W.cell? ⟨B, 7, none⟩ = some (.int .i64 b.y) ∧ W.cell? ⟨B, 8, none⟩ = some (.int .i64 b.z)) ((go_split_ands; (repeat' apply And.intro) <;> first | assumption | exact (Later.refl _).drew.cell (by assumption) | exact ((Later.refl _).alloc _).cell (by assumption) | exact cell_setCell_o (by assumption) (by omega) | exact Later.cell hL (by assumption))) (first | (go_at_call 34; refine (along_any a c _).mono ?_; rintro e V2 ⟨v2, rfl, hE2, hL⟩; obtain ⟨d2, p2, e2, o2, rfl, _, _, _, _, _⟩ := id hE2; have q := ((Later.refl X2).drew.trans hL).cell n2; have g := ((Later.refl X2).drew.trans hL).frozen n2 f2))
  obtain ⟨X3, hX3⟩ : ∃ X, X = V2.setCell ⟨B, 12, none⟩ (.func (.func 37) #[] #[.pointer (some ⟨d2, 0, none⟩), .pointer (some ⟨p2, 0, none⟩), .pointer (some ⟨e2, 0, none⟩), .pointer (some ⟨o2, 0, none⟩)]) := ⟨_, rfl⟩
  have hl2 := (Later.refl X2).drew.trans hL
  have hM3 : MB X3 B a c b (wrap64 (-s)) := by rw [hX3]; exact (hM2.later hl2).setCell (by omega) _
  have hLw3 : Later w X3 := by rw [hX3]; exact (hLw2.trans hl2).setCell (by simp; omega) _
  have hq2 : X3.cell? ⟨B, 12, none⟩ = some (.func (.func 37) #[] #[.pointer (some ⟨d2, 0, none⟩), .pointer (some ⟨p2, 0, none⟩), .pointer (some ⟨e2, 0, none⟩), .pointer (some ⟨o2, 0, none⟩)]) := by rw [hX3]; exact cell_setCell_s q
  have hE0_3 : EdgeV X3 (.func (.func 37) #[] #[.pointer (some ⟨d0, 0, none⟩), .pointer (some ⟨p0, 0, none⟩), .pointer (some ⟨e0, 0, none⟩), .pointer (some ⟨o0, 0, none⟩)]) c b := by rw [hX3]; exact (hE0_2.later hl2).setCell (by omega) _
  have hE1_3 : EdgeV X3 (.func (.func 37) #[] #[.pointer (some ⟨d1, 0, none⟩), .pointer (some ⟨p1, 0, none⟩), .pointer (some ⟨e1, 0, none⟩), .pointer (some ⟨o1, 0, none⟩)]) b a := by rw [hX3]; exact (hE1_2.later hl2).setCell (by omega) _
  have hE2_3 : EdgeV X3 (.func (.func 37) #[] #[.pointer (some ⟨d2, 0, none⟩), .pointer (some ⟨p2, 0, none⟩), .pointer (some ⟨e2, 0, none⟩), .pointer (some ⟨o2, 0, none⟩)]) a c := by rw [hX3]; exact (hE2).setCell (by omega) _
  have hq0_3 : X3.cell? ⟨B, 10, none⟩ = some (.func (.func 37) #[] #[.pointer (some ⟨d0, 0, none⟩), .pointer (some ⟨p0, 0, none⟩), .pointer (some ⟨e0, 0, none⟩), .pointer (some ⟨o0, 0, none⟩)]) := by rw [hX3]; exact cell_setCell_o (hl2.cell hq0_2) (by omega)
  have hq1_3 : X3.cell? ⟨B, 11, none⟩ = some (.func (.func 37) #[] #[.pointer (some ⟨d1, 0, none⟩), .pointer (some ⟨p1, 0, none⟩), .pointer (some ⟨e1, 0, none⟩), .pointer (some ⟨o1, 0, none⟩)]) := by rw [hX3]; exact cell_setCell_o (hl2.cell hq1) (by omega)
  rw [← hX3]
  clear hX3 hl2 hL t0 t1 t2 t3 t4 t5 t6 t7 t8 t9 n0 n1 n2 f0 f1 f2 q g
  go_wp2
  rw [rounds_succ]
  go_wp2
  go_ret
  exact ⟨B, rfl, hLw3, hM3.1, _, _, _, hq0_3, hE0_3, hq1_3, hE1_3, hq2, hE2_3⟩
end Go.Proofs.Ytmpnojgciaoghaa
