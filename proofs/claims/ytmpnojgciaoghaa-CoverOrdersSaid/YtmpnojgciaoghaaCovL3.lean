/-
  CoverOrders: for every input the law returns true.
-/
import Derived.Test.YtmpnojgciaoghaaCovM
import Derived.Test.YtmpnojgciaoghaaCovU
namespace Go.Proofs.Ytmpnojgciaoghaa
open Go.RowKit Go.Shelf
set_option linter.unusedVariables false
set_option linter.unusedSimpArgs false
attribute [local go_sem] Oper.semAt_some

set_option maxHeartbeats 10000000 in
theorem coverOrders_walk (a b c : C3) (x y : Int) (w : World) :
    Calls Try.prog 7 #[tri a b c, .int .i64 x, .int .i64 y] w fun e w' => e = .returned (.bool true) ∧ Later w w' := by
  obtain ⟨L, hL'⟩ : ∃ z, Hid (CL a b c x y = z) := ⟨_, rfl⟩
  have hlen := CL_length a b c x y
  rw [hL'.out] at hlen
  obtain ⟨n, hn⟩ : ∃ z, Hid (cellsN (may3 a b c) x y = z) := ⟨_, rfl⟩
  obtain ⟨s, hs⟩ : ∃ z, Hid (areaV a b c = z) := ⟨_, rfl⟩
  obtain ⟨f, hf⟩ : ∃ z : Int, Hid ((if may3 a b c then 0 else 110) = z) := ⟨_, rfl⟩
  have H0 := Lib.hid (covCells_CL a b c x y)
  rw [hL'.out, hn.out] at H0
  have hsb := areaV_bd a b c
  rw [hs.out] at hsb
  obtain ⟨hsb1, hsb2⟩ := hsb
  have hng : Hid (wrap64 (-s) = -s) := w64 (by omega) (by omega)
  have hng2 : IntKind.i64.wrap (-s) = -s := by rw [IntKind.wrap_i64]; omega
  have E0 : CL b c a x y = L := by rw [← hL'.out]; exact CL_p0 a b c x y
  have M0 : may3 b c a = may3 a b c := may_p0 a b c
  have A0 : areaV b c a = s := by rw [← hs.out]; exact area_p0 a b c
  have KC0 := Lib.hid (covCells_CL b c a x y)
  rw [E0, M0, hn.out] at KC0
  have R0 := Lib.hid (covArea_any b c a)
  change Hid (∀ w, Calls _ _ _ w fun e w' => e = .returned (.tuple #[.int .i64 (areaV b c a), _]) ∧ _) at R0
  rw [A0, M0, hf.out] at R0
  clear E0 M0 A0
  have E1 : CL c a b x y = L := by rw [← hL'.out]; exact CL_p1 a b c x y
  have M1 : may3 c a b = may3 a b c := may_p1 a b c
  have A1 : areaV c a b = s := by rw [← hs.out]; exact area_p1 a b c
  have KC1 := Lib.hid (covCells_CL c a b x y)
  rw [E1, M1, hn.out] at KC1
  have R1 := Lib.hid (covArea_any c a b)
  change Hid (∀ w, Calls _ _ _ w fun e w' => e = .returned (.tuple #[.int .i64 (areaV c a b), _]) ∧ _) at R1
  rw [A1, M1, hf.out] at R1
  clear E1 M1 A1
  have E2 : CL a c b x y = L := by rw [← hL'.out]; exact CL_p2 a b c x y
  have M2 : may3 a c b = may3 a b c := may_p2 a b c
  have A2 : areaV a c b = -s := by rw [← hs.out]; exact area_p2 a b c
  have KC2 := Lib.hid (covCells_CL a c b x y)
  rw [E2, M2, hn.out] at KC2
  have R2 := Lib.hid (covArea_any a c b)
  change Hid (∀ w, Calls _ _ _ w fun e w' => e = .returned (.tuple #[.int .i64 (areaV a c b), _]) ∧ _) at R2
  rw [A2, M2, hf.out] at R2
  clear E2 M2 A2
  have E3 : CL c b a x y = L := by rw [← hL'.out]; exact CL_p3 a b c x y
  have M3 : may3 c b a = may3 a b c := may_p3 a b c
  have A3 : areaV c b a = -s := by rw [← hs.out]; exact area_p3 a b c
  have KC3 := Lib.hid (covCells_CL c b a x y)
  rw [E3, M3, hn.out] at KC3
  have R3 := Lib.hid (covArea_any c b a)
  change Hid (∀ w, Calls _ _ _ w fun e w' => e = .returned (.tuple #[.int .i64 (areaV c b a), _]) ∧ _) at R3
  rw [A3, M3, hf.out] at R3
  clear E3 M3 A3
  have E4 : CL b a c x y = L := by rw [← hL'.out]; exact CL_p4 a b c x y
  have M4 : may3 b a c = may3 a b c := may_p4 a b c
  have A4 : areaV b a c = -s := by rw [← hs.out]; exact area_p4 a b c
  have KC4 := Lib.hid (covCells_CL b a c x y)
  rw [E4, M4, hn.out] at KC4
  have R4 := Lib.hid (covArea_any b a c)
  change Hid (∀ w, Calls _ _ _ w fun e w' => e = .returned (.tuple #[.int .i64 (areaV b a c), _]) ∧ _) at R4
  rw [A4, M4, hf.out] at R4
  clear E4 M4 A4
  have HSame : Hid (∀ (v1 v2 : Value) (W : World), CellsV W v1 L → CellsV W v2 L → Calls Try.prog 21 #[v1, v2] W fun e w' => e = .returned (.bool true) ∧ Later W w') := fun v1 v2 W h1 h2 => by
    have := same_any v1 v2 L L W h1 h2 hlen hlen
    rwa [decide_eq_true (rfl : L = L)] at this
  have R := Lib.hid (covArea_any a b c)
  change Hid (∀ w, Calls _ _ _ w fun e w' => e = .returned (.tuple #[.int .i64 (areaV a b c), _]) ∧ _) at R
  rw [hs.out, hf.out] at R
  clear hL' hlen
  go_enter Try.func7, Try.ntmps7
  go_wp2_with fail
  refine (alive_any _).mono ?_
  rintro e w0 ⟨rfl, h0⟩
  have t0 := h0.cell (b := w.heap.size) (o := 0) (by simp; rfl)
  have t1 := h0.cell (b := w.heap.size) (o := 1) (by simp; rfl)
  have t2 := h0.cell (b := w.heap.size) (o := 2) (by simp; rfl)
  have t3 := h0.cell (b := w.heap.size) (o := 3) (by simp; rfl)
  have t4 := h0.cell (b := w.heap.size) (o := 4) (by simp; rfl)
  have t5 := h0.cell (b := w.heap.size) (o := 5) (by simp; rfl)
  have t6 := h0.cell (b := w.heap.size) (o := 6) (by simp; rfl)
  have t7 := h0.cell (b := w.heap.size) (o := 7) (by simp; rfl)
  have t8 := h0.cell (b := w.heap.size) (o := 8) (by simp; rfl)
  have hl0 : Later w w0 := ((Later.refl _).alloc _).trans h0
  have hlt0 : w.heap.size < w0.heap.size := h0.lt (by simp)
  clear h0
  go_wp2_with fail
  refine (H0.out _).mono ?_
  rintro e w1 ⟨v, rfl, hv, h1⟩
  replace t0 := h1.cell t0
  replace t1 := h1.cell t1
  replace t2 := h1.cell t2
  replace t3 := h1.cell t3
  replace t4 := h1.cell t4
  replace t5 := h1.cell t5
  replace t6 := h1.cell t6
  replace t7 := h1.cell t7
  replace t8 := h1.cell t8
  go_wp2_with fail
  refine (R.out _).mono ?_
  rintro e w2 ⟨rfl, h2⟩
  replace hv := hv.later h2
  have hl2 : Later w w2 := hl0.trans (h1.trans h2)
  replace hlt0 := (h1.trans h2).lt hlt0
  replace t0 := h2.cell t0
  replace t1 := h2.cell t1
  replace t2 := h2.cell t2
  replace t3 := h2.cell t3
  replace t4 := h2.cell t4
  replace t5 := h2.cell t5
  replace t6 := h2.cell t6
  replace t7 := h2.cell t7
  replace t8 := h2.cell t8
  clear h1 h2 hl0
  go_wp2_with fail
  obtain ⟨X0, hX0⟩ : ∃ X, X = w2.alloc (.cells #[.int .i64 1, .int .i64 2, .int .i64 0, .int .i64 2, .int .i64 0, .int .i64 1, .int .i64 0, .int .i64 2, .int .i64 1, .int .i64 2, .int .i64 1, .int .i64 0, .int .i64 1, .int .i64 0, .int .i64 2] 53) := ⟨_, rfl⟩
  have l0 : X0.cell? ⟨w2.heap.size, 0, none⟩ = some (.int .i64 1) := by rw [hX0]; simp
  have l1 : X0.cell? ⟨w2.heap.size, 1, none⟩ = some (.int .i64 2) := by rw [hX0]; simp
  have l2 : X0.cell? ⟨w2.heap.size, 2, none⟩ = some (.int .i64 0) := by rw [hX0]; simp
  have l3 : X0.cell? ⟨w2.heap.size, 3, none⟩ = some (.int .i64 2) := by rw [hX0]; simp
  have l4 : X0.cell? ⟨w2.heap.size, 4, none⟩ = some (.int .i64 0) := by rw [hX0]; simp
  have l5 : X0.cell? ⟨w2.heap.size, 5, none⟩ = some (.int .i64 1) := by rw [hX0]; simp
  have l6 : X0.cell? ⟨w2.heap.size, 6, none⟩ = some (.int .i64 0) := by rw [hX0]; simp
  have l7 : X0.cell? ⟨w2.heap.size, 7, none⟩ = some (.int .i64 2) := by rw [hX0]; simp
  have l8 : X0.cell? ⟨w2.heap.size, 8, none⟩ = some (.int .i64 1) := by rw [hX0]; simp
  have l9 : X0.cell? ⟨w2.heap.size, 9, none⟩ = some (.int .i64 2) := by rw [hX0]; simp
  have l10 : X0.cell? ⟨w2.heap.size, 10, none⟩ = some (.int .i64 1) := by rw [hX0]; simp
  have l11 : X0.cell? ⟨w2.heap.size, 11, none⟩ = some (.int .i64 0) := by rw [hX0]; simp
  have l12 : X0.cell? ⟨w2.heap.size, 12, none⟩ = some (.int .i64 1) := by rw [hX0]; simp
  have l13 : X0.cell? ⟨w2.heap.size, 13, none⟩ = some (.int .i64 0) := by rw [hX0]; simp
  have l14 : X0.cell? ⟨w2.heap.size, 14, none⟩ = some (.int .i64 2) := by rw [hX0]; simp
  replace t0 := ((Later.refl _).alloc (.cells #[.int .i64 1, .int .i64 2, .int .i64 0, .int .i64 2, .int .i64 0, .int .i64 1, .int .i64 0, .int .i64 2, .int .i64 1, .int .i64 2, .int .i64 1, .int .i64 0, .int .i64 1, .int .i64 0, .int .i64 2] 53)).cell t0
  replace t1 := ((Later.refl _).alloc (.cells #[.int .i64 1, .int .i64 2, .int .i64 0, .int .i64 2, .int .i64 0, .int .i64 1, .int .i64 0, .int .i64 2, .int .i64 1, .int .i64 2, .int .i64 1, .int .i64 0, .int .i64 1, .int .i64 0, .int .i64 2] 53)).cell t1
  replace t2 := ((Later.refl _).alloc (.cells #[.int .i64 1, .int .i64 2, .int .i64 0, .int .i64 2, .int .i64 0, .int .i64 1, .int .i64 0, .int .i64 2, .int .i64 1, .int .i64 2, .int .i64 1, .int .i64 0, .int .i64 1, .int .i64 0, .int .i64 2] 53)).cell t2
  replace t3 := ((Later.refl _).alloc (.cells #[.int .i64 1, .int .i64 2, .int .i64 0, .int .i64 2, .int .i64 0, .int .i64 1, .int .i64 0, .int .i64 2, .int .i64 1, .int .i64 2, .int .i64 1, .int .i64 0, .int .i64 1, .int .i64 0, .int .i64 2] 53)).cell t3
  replace t4 := ((Later.refl _).alloc (.cells #[.int .i64 1, .int .i64 2, .int .i64 0, .int .i64 2, .int .i64 0, .int .i64 1, .int .i64 0, .int .i64 2, .int .i64 1, .int .i64 2, .int .i64 1, .int .i64 0, .int .i64 1, .int .i64 0, .int .i64 2] 53)).cell t4
  replace t5 := ((Later.refl _).alloc (.cells #[.int .i64 1, .int .i64 2, .int .i64 0, .int .i64 2, .int .i64 0, .int .i64 1, .int .i64 0, .int .i64 2, .int .i64 1, .int .i64 2, .int .i64 1, .int .i64 0, .int .i64 1, .int .i64 0, .int .i64 2] 53)).cell t5
  replace t6 := ((Later.refl _).alloc (.cells #[.int .i64 1, .int .i64 2, .int .i64 0, .int .i64 2, .int .i64 0, .int .i64 1, .int .i64 0, .int .i64 2, .int .i64 1, .int .i64 2, .int .i64 1, .int .i64 0, .int .i64 1, .int .i64 0, .int .i64 2] 53)).cell t6
  replace t7 := ((Later.refl _).alloc (.cells #[.int .i64 1, .int .i64 2, .int .i64 0, .int .i64 2, .int .i64 0, .int .i64 1, .int .i64 0, .int .i64 2, .int .i64 1, .int .i64 2, .int .i64 1, .int .i64 0, .int .i64 1, .int .i64 0, .int .i64 2] 53)).cell t7
  replace t8 := ((Later.refl _).alloc (.cells #[.int .i64 1, .int .i64 2, .int .i64 0, .int .i64 2, .int .i64 0, .int .i64 1, .int .i64 0, .int .i64 2, .int .i64 1, .int .i64 2, .int .i64 1, .int .i64 0, .int .i64 1, .int .i64 0, .int .i64 2] 53)).cell t8
  rw [← hX0] at t0
  rw [← hX0] at t1
  rw [← hX0] at t2
  rw [← hX0] at t3
  rw [← hX0] at t4
  rw [← hX0] at t5
  rw [← hX0] at t6
  rw [← hX0] at t7
  rw [← hX0] at t8
  replace hv := hv.later ((Later.refl _).alloc (.cells #[.int .i64 1, .int .i64 2, .int .i64 0, .int .i64 2, .int .i64 0, .int .i64 1, .int .i64 0, .int .i64 2, .int .i64 1, .int .i64 2, .int .i64 1, .int .i64 0, .int .i64 1, .int .i64 0, .int .i64 2] 53))
  rw [← hX0] at hv
  have hlX : Later w X0 := by rw [hX0]; exact hl2.alloc _
  rw [← hX0]
  clear hX0 hl2 hlt0
  obtain ⟨LB, hLB⟩ : ∃ l, l = w2.heap.size := ⟨_, rfl⟩
  obtain ⟨TB, hTB⟩ : ∃ l, l = w.heap.size := ⟨_, rfl⟩
  rw [← hLB, ← hTB]
  rw [← hLB] at l0 l1 l2 l3 l4 l5 l6 l7 l8 l9 l10 l11 l12 l13 l14
  rw [← hTB] at t0 t1 t2 t3 t4 t5 t6 t7 t8
  clear hLB hTB
  go_loopw [39] (fun y wr => ∃ k : Nat, k ≤ 5 ∧ y = .int .i64 k ∧ Later X0 wr) (fun y _ => (5 - intOf y).toNat)
  case atStart => exact ⟨0, by omega, rfl, Later.refl _⟩
  case round =>
    obtain ⟨k, hk, rfl, hl⟩ := hrel
    obtain ⟨wi, rfl⟩ : ∃ wi : World, wi = wr := ⟨_, rfl⟩
    replace t0 := hl.cell t0
    replace t1 := hl.cell t1
    replace t2 := hl.cell t2
    replace t3 := hl.cell t3
    replace t4 := hl.cell t4
    replace t5 := hl.cell t5
    replace t6 := hl.cell t6
    replace t7 := hl.cell t7
    replace t8 := hl.cell t8
    replace l0 := hl.cell l0
    replace l1 := hl.cell l1
    replace l2 := hl.cell l2
    replace l3 := hl.cell l3
    replace l4 := hl.cell l4
    replace l5 := hl.cell l5
    replace l6 := hl.cell l6
    replace l7 := hl.cell l7
    replace l8 := hl.cell l8
    replace l9 := hl.cell l9
    replace l10 := hl.cell l10
    replace l11 := hl.cell l11
    replace l12 := hl.cell l12
    replace l13 := hl.cell l13
    replace l14 := hl.cell l14
    replace hv := hv.later hl
    by_cases hk5 : k < 5
    · obtain ⟨o0, o1, o2, p, q, r, hP⟩ : ∃ o0 o1 o2 : Nat, ∃ p q r : C3, Hid ((o0 < 3 ∧ o1 < 3 ∧ o2 < 3) ∧
          (wi.cell? ⟨LB, k * 3, none⟩ = some (.int .i64 o0) ∧ wi.cell? ⟨LB, k * 3 + 1, none⟩ = some (.int .i64 o1) ∧ wi.cell? ⟨LB, k * 3 + 2, none⟩ = some (.int .i64 o2)) ∧
          (wi.cell? ⟨TB, o0 * 3, none⟩ = some (.int .i64 p.x) ∧ wi.cell? ⟨TB, o0 * 3 + 1, none⟩ = some (.int .i64 p.y) ∧ wi.cell? ⟨TB, o0 * 3 + 2, none⟩ = some (.int .i64 p.z)) ∧
          (wi.cell? ⟨TB, o1 * 3, none⟩ = some (.int .i64 q.x) ∧ wi.cell? ⟨TB, o1 * 3 + 1, none⟩ = some (.int .i64 q.y) ∧ wi.cell? ⟨TB, o1 * 3 + 2, none⟩ = some (.int .i64 q.z)) ∧
          (wi.cell? ⟨TB, o2 * 3, none⟩ = some (.int .i64 r.x) ∧ wi.cell? ⟨TB, o2 * 3 + 1, none⟩ = some (.int .i64 r.y) ∧ wi.cell? ⟨TB, o2 * 3 + 2, none⟩ = some (.int .i64 r.z)) ∧
          (∀ W, Calls Try.prog 17 #[tri p q r, .int .i64 x, .int .i64 y] W (CellsRet L n W)) ∧
          (∀ W, Calls Try.prog 15 #[tri p q r] W fun e w' => ∃ s', Hid (s' = s ∨ s' = -s) ∧ e = .returned (.tuple #[.int .i64 s', .int .i64 f]) ∧ Later W w')) := by
        rcases (show k = 0 ∨ k = 1 ∨ k = 2 ∨ k = 3 ∨ k = 4 by omega) with rfl | rfl | rfl | rfl | rfl
        · exact ⟨1, 2, 0, b, c, a, ⟨by omega, by omega, by omega⟩, ⟨l0, l1, l2⟩, ⟨t3, t4, t5⟩, ⟨t6, t7, t8⟩, ⟨t0, t1, t2⟩, KC0.out, fun W => (R0.out W).mono fun e w' h => ⟨_, .inl rfl, h⟩⟩
        · exact ⟨2, 0, 1, c, a, b, ⟨by omega, by omega, by omega⟩, ⟨l3, l4, l5⟩, ⟨t6, t7, t8⟩, ⟨t0, t1, t2⟩, ⟨t3, t4, t5⟩, KC1.out, fun W => (R1.out W).mono fun e w' h => ⟨_, .inl rfl, h⟩⟩
        · exact ⟨0, 2, 1, a, c, b, ⟨by omega, by omega, by omega⟩, ⟨l6, l7, l8⟩, ⟨t0, t1, t2⟩, ⟨t6, t7, t8⟩, ⟨t3, t4, t5⟩, KC2.out, fun W => (R2.out W).mono fun e w' h => ⟨_, .inr rfl, h⟩⟩
        · exact ⟨2, 1, 0, c, b, a, ⟨by omega, by omega, by omega⟩, ⟨l9, l10, l11⟩, ⟨t6, t7, t8⟩, ⟨t3, t4, t5⟩, ⟨t0, t1, t2⟩, KC3.out, fun W => (R3.out W).mono fun e w' h => ⟨_, .inr rfl, h⟩⟩
        · exact ⟨1, 0, 2, b, a, c, ⟨by omega, by omega, by omega⟩, ⟨l12, l13, l14⟩, ⟨t3, t4, t5⟩, ⟨t0, t1, t2⟩, ⟨t6, t7, t8⟩, KC4.out, fun W => (R4.out W).mono fun e w' h => ⟨_, .inr rfl, h⟩⟩
      clear t0 t1 t2 t3 t4 t5 t6 t7 t8 l0 l1 l2 l3 l4 l5 l6 l7 l8 l9 l10 l11 l12 l13 l14 KC0 R0 KC1 R1 KC2 R2 KC3 R3 KC4 R4
      obtain ⟨⟨ho0, ho1, ho2⟩, ⟨l0, l1, l2⟩, ⟨p0, p1, p2⟩, ⟨q0, q1, q2⟩, ⟨r0, r1, r2⟩, HC, HR⟩ := hP
      replace HC := Lib.hid HC
      replace HR := Lib.hid HR
      go_upto_region 7 with fail
      obtain ⟨X1, hX1⟩ : ∃ X, X = wi.alloc (.cells #[.int .i64 o0, .int .i64 o1, .int .i64 o2] 53) := ⟨_, rfl⟩
      have m0 : X1.cell? ⟨wi.heap.size, 0, none⟩ = some (.int .i64 o0) := by rw [hX1]; simp
      have m1 : X1.cell? ⟨wi.heap.size, 1, none⟩ = some (.int .i64 o1) := by rw [hX1]; simp
      have m2 : X1.cell? ⟨wi.heap.size, 2, none⟩ = some (.int .i64 o2) := by rw [hX1]; simp
      have hl1 : Later wi X1 := by rw [hX1]; exact (Later.refl _).alloc _
      replace p0 := hl1.cell p0
      replace p1 := hl1.cell p1
      replace p2 := hl1.cell p2
      replace q0 := hl1.cell q0
      replace q1 := hl1.cell q1
      replace q2 := hl1.cell q2
      replace r0 := hl1.cell r0
      replace r1 := hl1.cell r1
      replace r2 := hl1.cell r2
      replace hv := hv.later hl1
      rw [← hX1]
      clear hX1 l0 l1 l2
      have HZ : Later X1 (X1.alloc (.cells #[.int .i64 0, .int .i64 0, .int .i64 0, .int .i64 0, .int .i64 0, .int .i64 0, .int .i64 0, .int .i64 0, .int .i64 0] 24)) := (Later.refl X1).alloc _
      have zm0 := HZ.cell m0
      have zm1 := HZ.cell m1
      have zm2 := HZ.cell m2
      have zp0 := HZ.cell p0
      have zp1 := HZ.cell p1
      have zp2 := HZ.cell p2
      have zq0 := HZ.cell q0
      have zq1 := HZ.cell q1
      have zq2 := HZ.cell q2
      have zr0 := HZ.cell r0
      have zr1 := HZ.cell r1
      have zr2 := HZ.cell r2
      clear HZ
      go_region
      clear m0 m1 m2 p0 p1 p2 q0 q1 q2 r0 r1 r2 zm0 zm1 zm2 zp0 zp1 zp2 zq0 zq1 zq2 zr0 zr1 zr2
      obtain ⟨X2, hX2⟩ : ∃ X, X = (X1.alloc (.cells #[.int .i64 p.x, .int .i64 p.y, .int .i64 p.z, .int .i64 q.x, .int .i64 q.y, .int .i64 q.z, .int .i64 r.x, .int .i64 r.y, .int .i64 r.z] 24)).drew := ⟨_, rfl⟩
      have t0 : X2.cell? ⟨X1.heap.size, 0, none⟩ = some (.int .i64 p.x) := by rw [hX2]; simp
      have t1 : X2.cell? ⟨X1.heap.size, 1, none⟩ = some (.int .i64 p.y) := by rw [hX2]; simp
      have t2 : X2.cell? ⟨X1.heap.size, 2, none⟩ = some (.int .i64 p.z) := by rw [hX2]; simp
      have t3 : X2.cell? ⟨X1.heap.size, 3, none⟩ = some (.int .i64 q.x) := by rw [hX2]; simp
      have t4 : X2.cell? ⟨X1.heap.size, 4, none⟩ = some (.int .i64 q.y) := by rw [hX2]; simp
      have t5 : X2.cell? ⟨X1.heap.size, 5, none⟩ = some (.int .i64 q.z) := by rw [hX2]; simp
      have t6 : X2.cell? ⟨X1.heap.size, 6, none⟩ = some (.int .i64 r.x) := by rw [hX2]; simp
      have t7 : X2.cell? ⟨X1.heap.size, 7, none⟩ = some (.int .i64 r.y) := by rw [hX2]; simp
      have t8 : X2.cell? ⟨X1.heap.size, 8, none⟩ = some (.int .i64 r.z) := by rw [hX2]; simp
      have hl2 : Later X1 X2 := by rw [hX2]; exact ((Later.refl _).alloc _).drew
      replace hv := hv.later hl2
      rw [← hX2]
      clear hX2
      as_aux_lemma =>
        go_wp2_with fail
        refine (HC.out _).mono ?_
        rintro e W3 ⟨v3, rfl, hv3, h3⟩
        replace hv := hv.later h3
        replace t0 := h3.cell t0
        replace t1 := h3.cell t1
        replace t2 := h3.cell t2
        replace t3 := h3.cell t3
        replace t4 := h3.cell t4
        replace t5 := h3.cell t5
        replace t6 := h3.cell t6
        replace t7 := h3.cell t7
        replace t8 := h3.cell t8
        go_wp2_with fail
        refine (HR.out _).mono ?_
        rintro e W4 ⟨s', hs', rfl, h4⟩
        replace hv := hv.later h4
        replace hv3 := hv3.later h4
        have hlW : Later X0 W4 := (((hl.trans hl1).trans hl2).trans h3).trans h4
        clear t0 t1 t2 t3 t4 t5 t6 t7 t8 h3 h4 hl1 hl2
        as_aux_lemma =>
          rcases hs'.out with rfl | rfl
          · go_wp2_with fail
            refine (HSame.out _ _ _ hv hv3).mono ?_
            rintro e W5 ⟨rfl, h5⟩
            go_wp2_with fail
            go_roundw
            case rel => exact ⟨k + 1, by omega, by go_num, hlW.trans h5⟩
            case measure => simp [intOf]; omega
          · go_wp2_with fail
            refine (HSame.out _ _ _ hv hv3).mono ?_
            rintro e W5 ⟨rfl, h5⟩
            go_wp2_with fail
            all_goals exact ⟨⟨k + 1, by omega, by go_num, hlW.trans h5⟩, by simp [intOf]; omega⟩
    · go_wp2_with fail
      go_ret
      exact ⟨rfl, hlX.trans hl⟩
end Go.Proofs.Ytmpnojgciaoghaa
