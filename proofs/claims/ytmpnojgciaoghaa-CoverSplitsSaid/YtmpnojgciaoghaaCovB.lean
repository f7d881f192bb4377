/-
  Walks of chapter 11: an edge's closure, the area, a triangle's shape.
-/
import Derived.Test.YtmpnojgciaoghaaCovA
import Derived.RegionTactic
import Derived.Laws.EntriesVeiled
namespace Go.Proofs.Ytmpnojgciaoghaa
open Go.RowKit
set_option linter.unusedVariables false
set_option linter.unusedSimpArgs false

/-- v is the closure of the edge from a to b. -/
def EdgeV (w : World) (v : Value) (a b : C3) : Prop :=
  ∃ d p e o : Nat, v = .func (.func 37) #[] #[.pointer (some ⟨d, 0, none⟩), .pointer (some ⟨p, 0, none⟩), .pointer (some ⟨e, 0, none⟩), .pointer (some ⟨o, 0, none⟩)] ∧
    w.cell? ⟨d, 0, none⟩ = some (.int .i64 (wrap64 (b.x - a.x))) ∧ w.cell? ⟨p, 0, none⟩ = some (.int .i64 a.x) ∧ w.cell? ⟨p, 1, none⟩ = some (.int .i64 a.y) ∧
    w.cell? ⟨e, 0, none⟩ = some (.int .i64 (wrap64 (b.y - a.y))) ∧ w.cell? ⟨o, 0, none⟩ = some (.bool (ownsB a b))
theorem EdgeV.later {w w' : World} {v : Value} {a b : C3} (h : EdgeV w v a b) (hl : Later w w') : EdgeV w' v a b := by
  obtain ⟨d, p, e, o, hv, h1, h2, h3, h4, h5⟩ := h
  exact ⟨d, p, e, o, hv, hl.cell h1, hl.cell h2, hl.cell h3, hl.cell h4, hl.cell h5⟩

def EdgeMade (a b : C3) (w : World) (e : Ending) (w' : World) : Prop := ∃ v, e = .returned v ∧ EdgeV w' v a b ∧ Later w w'

set_option maxHeartbeats 400000 in
theorem along_any (a b : C3) (w : World) :
    Calls Try.prog 34 #[crn a, crn b] w (EdgeMade a b w) := by
  go_enter Try.func34, Try.ntmps34
  go_wp2_with fail
  refine (covOwns_any a b _).mono ?_
  rintro e w1 ⟨rfl, h1⟩
  obtain ⟨hc_h1, hf_h1⟩ := bcell h1
  have hz_h1 := Later.size h1
  (try simp only [World.size_alloc, World.size_drew, World.size_setCell] at hz_h1)
  have hl_h1_w0_0 : w.heap.size < w1.heap.size := by omega
  have hl_h1_w0_1 : w.heap.size < w1.heap.size + 1 := by omega
  have hl_h1_w0_2 : w.heap.size < w1.heap.size + 1 + 1 := by omega
  have hl_h1_w0_3 : w.heap.size < w1.heap.size + 1 + 1 + 1 := by omega
  have hl_h1_w1_0 : w.heap.size + 1 < w1.heap.size := by omega
  have hl_h1_w1_1 : w.heap.size + 1 < w1.heap.size + 1 := by omega
  have hl_h1_w1_2 : w.heap.size + 1 < w1.heap.size + 1 + 1 := by omega
  have hl_h1_w1_3 : w.heap.size + 1 < w1.heap.size + 1 + 1 + 1 := by omega
  have e0 : w1.cell? ⟨w.heap.size, 0, none⟩ = some (.int .i64 a.x) := (hc_h1 _ _ (by simp; try omega)).trans (by simp)
  have e1 : w1.cell? ⟨w.heap.size, 1, none⟩ = some (.int .i64 a.y) := (hc_h1 _ _ (by simp; try omega)).trans (by simp)
  have e2 : w1.cell? ⟨w.heap.size + 1, 0, none⟩ = some (.int .i64 b.x) := (hc_h1 _ _ (by simp; try omega)).trans (by simp)
  have e3 : w1.cell? ⟨w.heap.size + 1, 1, none⟩ = some (.int .i64 b.y) := (hc_h1 _ _ (by simp; try omega)).trans (by simp)
  clear hc_h1 hf_h1
  go_wp2
  go_region
  all_goals go_wp2
  all_goals (go_ret; refine ⟨_, rfl, ⟨_, _, _, _, rfl, ?_, ?_, ?_, ?_, ?_⟩, ?_⟩)
  all_goals first | exact ((((((Later.refl _).alloc _).alloc _).trans h1).alloc _).alloc _).alloc _ |>.drew | exact ((((Later.refl _).alloc _).alloc _).alloc _).drew.cell e0 | exact ((((Later.refl _).alloc _).alloc _).alloc _).drew.cell e1 | simp

set_option maxHeartbeats 1000000 in
theorem area_any (a b c : C3) (s : Int) (w : World) (hs : Hid (sdW a b c.x c.y = s)) :
    Calls Try.prog 31 #[tri a b c] w fun e w' => e = .returned (.int .i64 s) ∧ Later w w' := by
  go_enter Try.func31, Try.ntmps31
  go_wp2_with fail
  go_region_held3 (fun W => Later w W ∧ W.cell? ⟨w.heap.size, 0, none⟩ = some (.int .i64 a.x) ∧ W.cell? ⟨w.heap.size, 1, none⟩ = some (.int .i64 a.y) ∧ W.cell? ⟨w.heap.size, 2, none⟩ = some (.int .i64 a.z) ∧ W.cell? ⟨w.heap.size, 3, none⟩ = some (.int .i64 b.x) ∧ W.cell? ⟨w.heap.size, 4, none⟩ = some (.int .i64 b.y) ∧ W.cell? ⟨w.heap.size, 5, none⟩ = some (.int .i64 b.z) ∧ W.cell? ⟨w.heap.size, 6, none⟩ = some (.int .i64 c.x) ∧ W.cell? ⟨w.heap.size, 7, none⟩ = some (.int .i64 c.y) ∧ W.cell? ⟨w.heap.size, 8, none⟩ = some (.int .i64 c.z)) (first | (refine ⟨((Later.refl _).alloc _).drew, ?_⟩; simp; done) | (go_split_ands; refine ⟨Later.trans (by assumption) hL, ?_, ?_, ?_, ?_, ?_, ?_, ?_, ?_, ?_⟩ <;> exact Later.cell hL (by assumption)) | (go_split_ands; refine ⟨Later.trans (by assumption) hM, ?_, ?_, ?_, ?_, ?_, ?_, ?_, ?_, ?_⟩ <;> exact Later.cell hM (by assumption))) (first | (go_at_call 34; refine (along_any a b _).mono ?_; rintro e W1 ⟨v, rfl, ⟨d, p, e, o, rfl, c1, c2, c3, c4, c5⟩, hL⟩) | (go_at_call 37; refine (edge_any _ _ _ _ _ _ _ _ _ _ _ s _ c1 c2 c3 c4 c5 hs).mono ?_; rintro e W2 ⟨rfl, hM⟩))
  go_wp2
  go_ret
  exact ⟨rfl, by go_split_ands; assumption⟩

/-- Block B of w begins with the three corners and the area. -/
def ShapeAt (w : World) (B : Nat) (a b c : C3) (s : Int) : Prop :=
  (w.cell? ⟨B, 0, none⟩ = some (.int .i64 a.x) ∧ w.cell? ⟨B, 1, none⟩ = some (.int .i64 a.y) ∧ w.cell? ⟨B, 2, none⟩ = some (.int .i64 a.z) ∧ w.cell? ⟨B, 3, none⟩ = some (.int .i64 b.x) ∧ w.cell? ⟨B, 4, none⟩ = some (.int .i64 b.y) ∧ w.cell? ⟨B, 5, none⟩ = some (.int .i64 b.z) ∧ w.cell? ⟨B, 6, none⟩ = some (.int .i64 c.x) ∧ w.cell? ⟨B, 7, none⟩ = some (.int .i64 c.y) ∧ w.cell? ⟨B, 8, none⟩ = some (.int .i64 c.z)) ∧ w.cell? ⟨B, 9, none⟩ = some (.int .i64 s)
theorem ShapeAt.later {w w' : World} {B : Nat} {a b c : C3} {s : Int} (h : ShapeAt w B a b c s) (hl : Later w w') : ShapeAt w' B a b c s := by
  obtain ⟨⟨h0, h1, h2, h3, h4, h5, h6, h7, h8⟩, h9⟩ := h
  exact ⟨⟨hl.cell h0, hl.cell h1, hl.cell h2, hl.cell h3, hl.cell h4, hl.cell h5, hl.cell h6, hl.cell h7, hl.cell h8⟩, hl.cell h9⟩
theorem EdgeV.setCell {w : World} {v : Value} {a b : C3} (h : EdgeV w v a b) {B o : Nat} (ho : 2 ≤ o) (u : Value) : EdgeV (w.setCell ⟨B, o, none⟩ u) v a b := by
  obtain ⟨d, p, e, q, hv, h1, h2, h3, h4, h5⟩ := h
  exact ⟨d, p, e, q, hv, cell_setCell_o h1 (by omega), cell_setCell_o h2 (by omega), cell_setCell_o h3 (by omega), cell_setCell_o h4 (by omega), cell_setCell_o h5 (by omega)⟩
theorem ShapeAt.setCell {w : World} {B : Nat} {a b c : C3} {s : Int} (h : ShapeAt w B a b c s) {o : Nat} (ho : 10 ≤ o) (u : Value) : ShapeAt (w.setCell ⟨B, o, none⟩ u) B a b c s := by
  obtain ⟨⟨h0, h1, h2, h3, h4, h5, h6, h7, h8⟩, h9⟩ := h
  exact ⟨⟨cell_setCell_o h0 (by omega), cell_setCell_o h1 (by omega), cell_setCell_o h2 (by omega), cell_setCell_o h3 (by omega), cell_setCell_o h4 (by omega), cell_setCell_o h5 (by omega), cell_setCell_o h6 (by omega), cell_setCell_o h7 (by omega), cell_setCell_o h8 (by omega)⟩, cell_setCell_o h9 (by omega)⟩
theorem Free.setCell {w : World} {B o : Nat} (h : Free w B o) {B' o' : Nat} (u : Value) : Free (w.setCell ⟨B', o', none⟩ u) B o := by
  obtain ⟨⟨v, hv⟩, hf⟩ := h
  refine ⟨?_, by rw [World.frozen?_setCell]; exact hf⟩
  by_cases e : B' = B ∧ o' = o
  · obtain ⟨rfl, rfl⟩ := e
    exact ⟨u, cell_setCell_s hv⟩
  · exact ⟨v, cell_setCell_o hv e⟩
def MB (w : World) (B : Nat) (a b c : C3) (s : Int) : Prop := ShapeAt w B a b c s ∧ Free w B 10 ∧ Free w B 11 ∧ Free w B 12
theorem MB.later {w w' : World} {B : Nat} {a b c : C3} {s : Int} (h : MB w B a b c s) (hl : Later w w') : MB w' B a b c s := ⟨h.1.later hl, h.2.1.later hl, h.2.2.1.later hl, h.2.2.2.later hl⟩
theorem MB.setCell {w : World} {B : Nat} {a b c : C3} {s : Int} (h : MB w B a b c s) {o : Nat} (ho : 10 ≤ o) (u : Value) : MB (w.setCell ⟨B, o, none⟩ u) B a b c s :=
  ⟨h.1.setCell ho u, h.2.1.setCell u, h.2.2.1.setCell u, h.2.2.2.setCell u⟩
def MadeS (a b c : C3) (s : Int) (w : World) (e : Ending) (w' : World) : Prop :=
  ∃ B, e = .returned (.pointer (some ⟨B, 0, none⟩)) ∧ Later w w' ∧ ShapeAt w' B a b c s ∧ ∃ v0 v1 v2, w'.cell? ⟨B, 10, none⟩ = some v0 ∧ EdgeV w' v0 b c ∧ w'.cell? ⟨B, 11, none⟩ = some v1 ∧ EdgeV w' v1 c a ∧ w'.cell? ⟨B, 12, none⟩ = some v2 ∧ EdgeV w' v2 a b

set_option maxHeartbeats 2000000 in
theorem made_pos (a b c : C3) (s : Int) (w : World) (hs : Hid (sdW a b c.x c.y = s)) (h0 : ¬ s < 0) :
    Calls Try.prog 28 #[tri a b c] w (MadeS a b c s w) := by
  go_enter Try.func28, Try.ntmps28
  go_wp2_with fail
  go_region_held3 (fun W => W.cell? ⟨w.heap.size, 0, none⟩ = some (.int .i64 a.x) ∧ W.cell? ⟨w.heap.size, 1, none⟩ = some (.int .i64 a.y) ∧ W.cell? ⟨w.heap.size, 2, none⟩ = some (.int .i64 a.z) ∧ W.cell? ⟨w.heap.size, 3, none⟩ = some (.int .i64 b.x) ∧ W.cell? ⟨w.heap.size, 4, none⟩ = some (.int .i64 b.y) ∧ W.cell? ⟨w.heap.size, 5, none⟩ = some (.int .i64 b.z) ∧ W.cell? ⟨w.heap.size, 6, none⟩ = some (.int .i64 c.x) ∧ W.cell? ⟨w.heap.size, 7, none⟩ = some (.int .i64 c.y) ∧ W.cell? ⟨w.heap.size, 8, none⟩ = some (.int .i64 c.z)) (first | (simp; done) | (go_split_ands; refine ⟨?_, ?_, ?_, ?_, ?_, ?_, ?_, ?_, ?_⟩ <;> exact Later.cell hL (by assumption)) | (go_split_ands; refine ⟨?_, ?_, ?_, ?_, ?_, ?_, ?_, ?_, ?_⟩ <;> exact Later.cell ((Later.refl _).alloc _) (by assumption))) (first | (go_at_call 31; refine (area_any a b c s _ hs).mono ?_; rintro e W1 ⟨rfl, hL⟩))
  have hLw : Later w (W1.alloc (.cells #[.int .i64 a.x, .int .i64 a.y, .int .i64 a.z, .int .i64 b.x, .int .i64 b.y, .int .i64 b.z, .int .i64 c.x, .int .i64 c.y, .int .i64 c.z, .int .i64 s, .nilFunc, .nilFunc, .nilFunc] 73)) := ((((Later.refl _).alloc _).drew).trans hL).alloc _
  obtain ⟨B, hB⟩ : ∃ B, W1.heap.size = B := ⟨_, rfl⟩
  have hwB : w.heap.size < B := by have := hL.size; simp at this; omega
  obtain ⟨X0, hX0⟩ : ∃ X, X = W1.alloc (.cells #[.int .i64 a.x, .int .i64 a.y, .int .i64 a.z, .int .i64 b.x, .int .i64 b.y, .int .i64 b.z, .int .i64 c.x, .int .i64 c.y, .int .i64 c.z, .int .i64 s, .nilFunc, .nilFunc, .nilFunc] 73) := ⟨_, rfl⟩
  have hM0 : MB X0 B a b c s := by subst hX0; subst hB; unfold MB ShapeAt Free; simp
  have hLw0 : Later w X0 := by rw [hX0]; exact hLw
  rw [← hX0, hB]
  clear hLw hL hX0
  obtain ⟨⟨⟨t0, t1, t2, t3, t4, t5, t6, t7, t8⟩, t9⟩, ⟨⟨x10, n0⟩, f0⟩, ⟨⟨x11, n1⟩, f1⟩, ⟨⟨x12, n2⟩, f2⟩⟩ := id hM0
  have k1 : IntKind.i64.wrap 1 = 1 := by simp [IntKind.wrap_i64]
  have k2 : IntKind.i64.wrap 2 = 2 := by simp [IntKind.wrap_i64]
  have k3 : IntKind.i64.wrap 3 = 3 := by simp [IntKind.wrap_i64]
  have k4 : IntKind.i64.wrap 4 = 4 := by simp [IntKind.wrap_i64]
  go_wp2
  refine wp_loop_rounds 4 ?_
  clear t0 t1 t2 t3 t4 t5 t6 t7 t8 t9 n0 n1 n2 f0 f1 f2
  obtain ⟨⟨⟨t0, t1, t2, t3, t4, t5, t6, t7, t8⟩, t9⟩, ⟨⟨x10, n0⟩, f0⟩, ⟨⟨x11, n1⟩, f1⟩, ⟨⟨x12, n2⟩, f2⟩⟩ := id hM0
  rw [rounds_succ]
  go_wp2_with fail
  go_region_held3 (fun W => W.cell? ⟨B, 0, none⟩ = some (.int .i64 a.x) ∧ W.cell? ⟨B, 1, none⟩ = some (.int .i64 a.y) ∧ W.cell? ⟨B, 2, none⟩ = some (.int .i64 a.z) ∧ W.cell? ⟨B, 3, none⟩ = some (.int .i64 b.x) ∧ W.cell? ⟨B, 4, none⟩ = some (.int .i64 b.y) ∧ W.cell? ⟨B, 5, none⟩ = some (.int .i64 b.z) ∧ W.cell? ⟨B, 6, none⟩ = some (.int .i64 c.x) ∧ W.cell? ⟨B, 7, none⟩ = some (.int .i64 c.y) ∧ W.cell? ⟨B, 8, none⟩ = some (.int .i64 c.z)) ((go_split_ands; (repeat' apply And.intro) <;> first | assumption | exact (Later.refl _).drew.cell (by assumption) | exact ((Later.refl _).alloc _).cell (by assumption) | exact cell_setCell_o (by assumption) (by omega) | exact Later.cell hL (by assumption))) (first | (go_at_call 34; refine (along_any b c _).mono ?_; rintro e V0 ⟨v0, rfl, hE0, hL⟩; obtain ⟨d0, p0, e0, o0, rfl, _, _, _, _, _⟩ := id hE0; have q := ((Later.refl X0).drew.trans hL).cell n0; have g := ((Later.refl X0).drew.trans hL).frozen n0 f0))
  obtain ⟨X1, hX1⟩ : ∃ X, X = V0.setCell ⟨B, 10, none⟩ (.func (.func 37) #[] #[.pointer (some ⟨d0, 0, none⟩), .pointer (some ⟨p0, 0, none⟩), .pointer (some ⟨e0, 0, none⟩), .pointer (some ⟨o0, 0, none⟩)]) := ⟨_, rfl⟩
  have hl0 := (Later.refl X0).drew.trans hL
  have hM1 : MB X1 B a b c s := by rw [hX1]; exact (hM0.later hl0).setCell (by omega) _
  have hLw1 : Later w X1 := by rw [hX1]; exact (hLw0.trans hl0).setCell (by simp; omega) _
  have hq0 : X1.cell? ⟨B, 10, none⟩ = some (.func (.func 37) #[] #[.pointer (some ⟨d0, 0, none⟩), .pointer (some ⟨p0, 0, none⟩), .pointer (some ⟨e0, 0, none⟩), .pointer (some ⟨o0, 0, none⟩)]) := by rw [hX1]; exact cell_setCell_s q
  have hE0_1 : EdgeV X1 (.func (.func 37) #[] #[.pointer (some ⟨d0, 0, none⟩), .pointer (some ⟨p0, 0, none⟩), .pointer (some ⟨e0, 0, none⟩), .pointer (some ⟨o0, 0, none⟩)]) b c := by rw [hX1]; exact (hE0).setCell (by omega) _
  rw [← hX1]
  clear hX1 hl0 hL t0 t1 t2 t3 t4 t5 t6 t7 t8 t9 n0 n1 n2 f0 f1 f2 q g
  go_wp2
  obtain ⟨⟨⟨t0, t1, t2, t3, t4, t5, t6, t7, t8⟩, t9⟩, ⟨⟨x10, n0⟩, f0⟩, ⟨⟨x11, n1⟩, f1⟩, ⟨⟨x12, n2⟩, f2⟩⟩ := id hM1
  rw [rounds_succ]
  go_wp2_with fail
  go_region_held3 (fun W => W.cell? ⟨B, 0, none⟩ = some (.int .i64 a.x) ∧ W.cell? ⟨B, 1, none⟩ = some (.int .i64 a.y) ∧ W.cell? ⟨B, 2, none⟩ = some (.int .i64 a.z) ∧ W.cell? ⟨B, 3, none⟩ = some (.int .i64 b.x) ∧ W.cell? ⟨B, 4, none⟩ = some (.int .i64 b.y) ∧ W.cell? ⟨B, 5, none⟩ = some (.int .i64 b.z) ∧ W.cell? ⟨B, 6, none⟩ = some (.int .i64 c.x) ∧ W.cell? ⟨B, 7, none⟩ = some (.int .i64 c.y) ∧ W.cell? ⟨B, 8, none⟩ = some (.int .i64 c.z)) ((go_split_ands; (repeat' apply And.intro) <;> first | assumption | exact (Later.refl _).drew.cell (by assumption) | exact ((Later.refl _).alloc _).cell (by assumption) | exact cell_setCell_o (by assumption) (by omega) | exact Later.cell hL (by assumption))) (first | (go_at_call 34; refine (along_any c a _).mono ?_; rintro e V1 ⟨v1, rfl, hE1, hL⟩; obtain ⟨d1, p1, e1, o1, rfl, _, _, _, _, _⟩ := id hE1; have q := ((Later.refl X1).drew.trans hL).cell n1; have g := ((Later.refl X1).drew.trans hL).frozen n1 f1))
  obtain ⟨X2, hX2⟩ : ∃ X, X = V1.setCell ⟨B, 11, none⟩ (.func (.func 37) #[] #[.pointer (some ⟨d1, 0, none⟩), .pointer (some ⟨p1, 0, none⟩), .pointer (some ⟨e1, 0, none⟩), .pointer (some ⟨o1, 0, none⟩)]) := ⟨_, rfl⟩
  have hl1 := (Later.refl X1).drew.trans hL
  have hM2 : MB X2 B a b c s := by rw [hX2]; exact (hM1.later hl1).setCell (by omega) _
  have hLw2 : Later w X2 := by rw [hX2]; exact (hLw1.trans hl1).setCell (by simp; omega) _
  have hq1 : X2.cell? ⟨B, 11, none⟩ = some (.func (.func 37) #[] #[.pointer (some ⟨d1, 0, none⟩), .pointer (some ⟨p1, 0, none⟩), .pointer (some ⟨e1, 0, none⟩), .pointer (some ⟨o1, 0, none⟩)]) := by rw [hX2]; exact cell_setCell_s q
  have hE0_2 : EdgeV X2 (.func (.func 37) #[] #[.pointer (some ⟨d0, 0, none⟩), .pointer (some ⟨p0, 0, none⟩), .pointer (some ⟨e0, 0, none⟩), .pointer (some ⟨o0, 0, none⟩)]) b c := by rw [hX2]; exact (hE0_1.later hl1).setCell (by omega) _
  have hE1_2 : EdgeV X2 (.func (.func 37) #[] #[.pointer (some ⟨d1, 0, none⟩), .pointer (some ⟨p1, 0, none⟩), .pointer (some ⟨e1, 0, none⟩), .pointer (some ⟨o1, 0, none⟩)]) c a := by rw [hX2]; exact (hE1).setCell (by omega) _
  have hq0_2 : X2.cell? ⟨B, 10, none⟩ = some (.func (.func 37) #[] #[.pointer (some ⟨d0, 0, none⟩), .pointer (some ⟨p0, 0, none⟩), .pointer (some ⟨e0, 0, none⟩), .pointer (some ⟨o0, 0, none⟩)]) := by rw [hX2]; exact cell_setCell_o (hl1.cell hq0) (by omega)
  rw [← hX2]
  clear hX2 hl1 hL t0 t1 t2 t3 t4 t5 t6 t7 t8 t9 n0 n1 n2 f0 f1 f2 q g
  go_wp2
  obtain ⟨⟨⟨t0, t1, t2, t3, t4, t5, t6, t7, t8⟩, t9⟩, ⟨⟨x10, n0⟩, f0⟩, ⟨⟨x11, n1⟩, f1⟩, ⟨⟨x12, n2⟩, f2⟩⟩ := id hM2
  rw [rounds_succ]
  go_wp2_with fail
  go_region_held3 (fun W => W.cell? ⟨B, 0, none⟩ = some (.int .i64 a.x) ∧ W.cell? ⟨B, 1, none⟩ = some (.int .i64 a.y) ∧ W.cell? ⟨B, 2, none⟩ = some (.int .i64 a.z) ∧ W.cell? ⟨B, 3, none⟩ = some (.int .i64 b.x) ∧ W.cell? ⟨B, 4, none⟩ = some (.int .i64 b.y) ∧ W.cell? ⟨B, 5, none⟩ = some (.int .i64 b.z) ∧ W.cell? ⟨B, 6, none⟩ = some (.int .i64 c.x) ∧ W.cell? ⟨B, 7, none⟩ = some (.int .i64 c.y) ∧ W.cell? ⟨B, 8, none⟩ = some (.int .i64 c.z)) ((go_split_ands; (repeat' apply And.intro) <;> first | assumption | exact (Later.refl _).drew.cell (by assumption) | exact ((Later.refl _).alloc _).cell (by assumption) | exact cell_setCell_o (by assumption) (by omega) | exact Later.cell hL (by assumption))) (first | (go_at_call 34; refine (along_any a b _).mono ?_; rintro e V2 ⟨v2, rfl, hE2, hL⟩; obtain ⟨d2, p2, e2, o2, rfl, _, _, _, _, _⟩ := id hE2; have q := ((Later.refl X2).drew.trans hL).cell n2; have g := ((Later.refl X2).drew.trans hL).frozen n2 f2))
  obtain ⟨X3, hX3⟩ : ∃ X, X = V2.setCell ⟨B, 12, none⟩ (.func (.func 37) #[] #[.pointer (some ⟨d2, 0, none⟩), .pointer (some ⟨p2, 0, none⟩), .pointer (some ⟨e2, 0, none⟩), .pointer (some ⟨o2, 0, none⟩)]) := ⟨_, rfl⟩
  have hl2 := (Later.refl X2).drew.trans hL
  have hM3 : MB X3 B a b c s := by rw [hX3]; exact (hM2.later hl2).setCell (by omega) _
  have hLw3 : Later w X3 := by rw [hX3]; exact (hLw2.trans hl2).setCell (by simp; omega) _
  have hq2 : X3.cell? ⟨B, 12, none⟩ = some (.func (.func 37) #[] #[.pointer (some ⟨d2, 0, none⟩), .pointer (some ⟨p2, 0, none⟩), .pointer (some ⟨e2, 0, none⟩), .pointer (some ⟨o2, 0, none⟩)]) := by rw [hX3]; exact cell_setCell_s q
  have hE0_3 : EdgeV X3 (.func (.func 37) #[] #[.pointer (some ⟨d0, 0, none⟩), .pointer (some ⟨p0, 0, none⟩), .pointer (some ⟨e0, 0, none⟩), .pointer (some ⟨o0, 0, none⟩)]) b c := by rw [hX3]; exact (hE0_2.later hl2).setCell (by omega) _
  have hE1_3 : EdgeV X3 (.func (.func 37) #[] #[.pointer (some ⟨d1, 0, none⟩), .pointer (some ⟨p1, 0, none⟩), .pointer (some ⟨e1, 0, none⟩), .pointer (some ⟨o1, 0, none⟩)]) c a := by rw [hX3]; exact (hE1_2.later hl2).setCell (by omega) _
  have hE2_3 : EdgeV X3 (.func (.func 37) #[] #[.pointer (some ⟨d2, 0, none⟩), .pointer (some ⟨p2, 0, none⟩), .pointer (some ⟨e2, 0, none⟩), .pointer (some ⟨o2, 0, none⟩)]) a b := by rw [hX3]; exact (hE2).setCell (by omega) _
  have hq0_3 : X3.cell? ⟨B, 10, none⟩ = some (.func (.func 37) #[] #[.pointer (some ⟨d0, 0, none⟩), .pointer (some ⟨p0, 0, none⟩), .pointer (some ⟨e0, 0, none⟩), .pointer (some ⟨o0, 0, none⟩)]) := by rw [hX3]; exact cell_setCell_o (hl2.cell hq0_2) (by omega)
  have hq1_3 : X3.cell? ⟨B, 11, none⟩ = some (.func (.func 37) #[] #[.pointer (some ⟨d1, 0, none⟩), .pointer (some ⟨p1, 0, none⟩), .pointer (some ⟨e1, 0, none⟩), .pointer (some ⟨o1, 0, none⟩)]) := by rw [hX3]; exact cell_setCell_o (hl2.cell hq1) (by omega)
  rw [← hX3]
  clear hX3 hl2 hL t0 t1 t2 t3 t4 t5 t6 t7 t8 t9 n0 n1 n2 f0 f1 f2 q g
  go_wp2
  rw [rounds_succ]
  go_wp2
  go_ret
  exact ⟨B, rfl, hLw3, hM3.1, _, _, _, hq0_3, hE0_3, hq1_3, hE1_3, hq2, hE2_3⟩
end Go.Proofs.Ytmpnojgciaoghaa
