/-
  Chapter 11: At and Area, the program's and the document's.
-/
import Derived.Test.YtmpnojgciaoghaaCovD
namespace Go.Proofs.Ytmpnojgciaoghaa
open Go.RowKit
set_option linter.unusedVariables false
set_option linter.unusedSimpArgs false

def may3 (a b c : C3) : Bool := mayB a && mayB b && mayB c
def pixOk (x y : Int) : Bool := decide (0 ≤ x ∧ x ≤ 63 ∧ 0 ≤ y ∧ y ≤ 63)

theorem covArea_any (a b c : C3) (w : World) :
    Calls Try.prog 15 #[tri a b c] w fun e w' =>
      e = .returned (.tuple #[.int .i64 (if may3 a b c then sdW a b c.x c.y else 0), .int .i64 (if may3 a b c then 0 else 110)]) ∧ Later w w' := by
  obtain ⟨m, hm⟩ : ∃ m, Hid (may3 a b c = m) := ⟨_, rfl⟩
  obtain ⟨s, hs⟩ : ∃ s, Hid (sdW a b c.x c.y = s) := ⟨_, rfl⟩
  rw [hm.out, hs.out]
  go_enter Try.func15, Try.ntmps15
  go_wp2_with fail
  refine (covMay3_any a b c _).mono ?_
  rintro e w1 ⟨rfl, h1⟩
  rw [show (mayB a && mayB b && mayB c) = m from hm.out]
  have t0 := h1.cell (b := w.heap.size) (o := 0) (by simp; rfl)
  have t1 := h1.cell (b := w.heap.size) (o := 1) (by simp; rfl)
  have t2 := h1.cell (b := w.heap.size) (o := 2) (by simp; rfl)
  have t3 := h1.cell (b := w.heap.size) (o := 3) (by simp; rfl)
  have t4 := h1.cell (b := w.heap.size) (o := 4) (by simp; rfl)
  have t5 := h1.cell (b := w.heap.size) (o := 5) (by simp; rfl)
  have t6 := h1.cell (b := w.heap.size) (o := 6) (by simp; rfl)
  have t7 := h1.cell (b := w.heap.size) (o := 7) (by simp; rfl)
  have t8 := h1.cell (b := w.heap.size) (o := 8) (by simp; rfl)
  cases m
  · go_wp2
    go_ret2
    exact ⟨rfl, ((Later.refl _).alloc _).trans h1⟩
  · go_wp2_with fail
    refine (area_any a b c s _ hs).mono ?_
    rintro e w2 ⟨rfl, h2⟩
    go_wp2
    go_ret2
    exact ⟨rfl, (((Later.refl _).alloc _).trans h1).trans h2⟩

theorem refArea_any (a b c : C3) (w : World) :
    Calls Try.prog 16 #[tri a b c] w fun e w' =>
      e = .returned (.tuple #[.int .i64 (if may3 a b c then sdW a b c.x c.y else 0), .int .i64 (if may3 a b c then 0 else 110)]) ∧ Later w w' := by
  obtain ⟨m, hm⟩ : ∃ m, Hid (may3 a b c = m) := ⟨_, rfl⟩
  rw [hm.out]
  go_enter Try.func16, Try.ntmps16
  go_wp2_with fail
  refine (refAll_any a b c _).mono ?_
  rintro e w1 ⟨rfl, h1⟩
  rw [show (mayB a && mayB b && mayB c) = m from hm.out]
  have t0 := h1.cell (b := w.heap.size) (o := 0) (by simp; rfl)
  have t1 := h1.cell (b := w.heap.size) (o := 1) (by simp; rfl)
  have t2 := h1.cell (b := w.heap.size) (o := 2) (by simp; rfl)
  have t3 := h1.cell (b := w.heap.size) (o := 3) (by simp; rfl)
  have t4 := h1.cell (b := w.heap.size) (o := 4) (by simp; rfl)
  have t5 := h1.cell (b := w.heap.size) (o := 5) (by simp; rfl)
  have t6 := h1.cell (b := w.heap.size) (o := 6) (by simp; rfl)
  have t7 := h1.cell (b := w.heap.size) (o := 7) (by simp; rfl)
  have t8 := h1.cell (b := w.heap.size) (o := 8) (by simp; rfl)
  cases m
  · go_wp2
    go_ret2
    exact ⟨rfl, ((Later.refl _).alloc _).trans h1⟩
  · go_wp2_with fail
    refine (refSide_any a b c.x c.y _).mono ?_
    rintro e w2 ⟨rfl, h2⟩
    go_wp2
    go_ret2
    exact ⟨rfl, (((Later.refl _).alloc _).trans h1).trans h2⟩

theorem covAt_any (a b c : C3) (x y : Int) (w : World) :
    Calls Try.prog 11 #[tri a b c, .int .i64 x, .int .i64 y] w fun e w' =>
      e = .returned (.tuple #[.int .u32 (if pixOk x y && may3 a b c then tellZ a (shB b c (sdW a b c.x c.y)) (shC b c (sdW a b c.x c.y)) (shS (sdW a b c.x c.y)) x y else 0),
        .bool (if pixOk x y && may3 a b c then tellI a (shB b c (sdW a b c.x c.y)) (shC b c (sdW a b c.x c.y)) (shS (sdW a b c.x c.y)) x y else false),
        .int .i64 (if !pixOk x y then 2 else if !may3 a b c then 110 else 0)]) ∧ Later w w' := by
  obtain ⟨m, hm⟩ : ∃ m, Hid (may3 a b c = m) := ⟨_, rfl⟩
  obtain ⟨z, hzz⟩ : ∃ z, Hid (tellZ a (shB b c (sdW a b c.x c.y)) (shC b c (sdW a b c.x c.y)) (shS (sdW a b c.x c.y)) x y = z) := ⟨_, rfl⟩
  obtain ⟨i, hii⟩ : ∃ i, Hid (tellI a (shB b c (sdW a b c.x c.y)) (shC b c (sdW a b c.x c.y)) (shS (sdW a b c.x c.y)) x y = i) := ⟨_, rfl⟩
  rw [hm.out, hzz.out, hii.out]
  by_cases hp : 0 ≤ x ∧ x ≤ 63 ∧ 0 ≤ y ∧ y ≤ 63
  · have hpx : Hid (pixOk x y = true) := by simp [Hid, pixOk, hp]
    rw [hpx.out]
    obtain ⟨p1, p2, p3, p4⟩ := hp
    go_enter Try.func11, Try.ntmps11
    go_wp2_with fail
    all_goals
      refine (covMay3_any a b c _).mono ?_
      rintro e w1 ⟨rfl, h1⟩
      rw [show (mayB a && mayB b && mayB c) = m from hm.out]
      have t0 := h1.cell (b := w.heap.size) (o := 0) (by simp; rfl)
      have t1 := h1.cell (b := w.heap.size) (o := 1) (by simp; rfl)
      have t2 := h1.cell (b := w.heap.size) (o := 2) (by simp; rfl)
      have t3 := h1.cell (b := w.heap.size) (o := 3) (by simp; rfl)
      have t4 := h1.cell (b := w.heap.size) (o := 4) (by simp; rfl)
      have t5 := h1.cell (b := w.heap.size) (o := 5) (by simp; rfl)
      have t6 := h1.cell (b := w.heap.size) (o := 6) (by simp; rfl)
      have t7 := h1.cell (b := w.heap.size) (o := 7) (by simp; rfl)
      have t8 := h1.cell (b := w.heap.size) (o := 8) (by simp; rfl)
      cases m
      · go_wp2
        refine bodyPost_ret (results_tmp3 rfl _ _ _) rfl ?_
        exact ⟨rfl, ((Later.refl _).alloc _).trans h1⟩
      · go_wp2_with fail
        refine (made_any a b c _).mono ?_
        rintro e w2 ⟨B, rfl, h2, hS⟩
        go_wp2_with fail
        refine (shape_any B _ _ _ _ x y _ hS ⟨p1, p2⟩ ⟨p3, p4⟩).mono ?_
        rintro e w3 ⟨rfl, h3⟩
        rw [hzz.out, hii.out]
        go_wp2
        refine bodyPost_ret (results_tmp3 rfl _ _ _) rfl ?_
        exact ⟨rfl, ((((Later.refl _).alloc _).trans h1).trans h2).trans h3⟩
  · have hpx : Hid (pixOk x y = false) := by simp [Hid, pixOk]; omega
    rw [hpx.out]
    go_enter Try.func11, Try.ntmps11
    go_wp2_with fail
    all_goals first | (exfalso; omega) | (refine bodyPost_ret (results_tmp3 rfl _ _ _) rfl ?_; exact ⟨rfl, (Later.refl _).alloc _⟩)

theorem refSideS_any (a b : C3) (x y s : Int) (w : World) (hs : Hid (sdW a b x y = s)) :
    Calls Try.prog 32 #[crn a, crn b, .int .i64 x, .int .i64 y] w fun e w' => e = .returned (.int .i64 s) ∧ Later w w' := by
  rw [← hs.out]; exact refSide_any a b x y w

set_option maxHeartbeats 1000000 in
/-- The document's depth, where the corners do not go round to the left. -/
theorem refAtp_any (a b c : C3) (x y s : Int) (w : World) (hs : Hid (sdW a b c.x c.y = s)) (h0 : ¬ s < 0) (hx : 0 ≤ x ∧ x ≤ 63) (hy : 0 ≤ y ∧ y ≤ 63) :
    Calls Try.prog 30 #[crn a, crn b, crn c, .int .i64 x, .int .i64 y] w fun e w' => e = .returned (.tuple #[.int .u32 (tellZ a b c s x y), .bool (tellI a b c s x y)]) ∧ Later w w' := by
  obtain ⟨s0, hs0⟩ : ∃ s0, Hid (sdW b c (16 * x + 8) (16 * y + 8) = s0) := ⟨_, rfl⟩
  obtain ⟨s1, hs1⟩ : ∃ s0, Hid (sdW c a (16 * x + 8) (16 * y + 8) = s0) := ⟨_, rfl⟩
  obtain ⟨s2, hs2⟩ : ∃ s0, Hid (sdW a b (16 * x + 8) (16 * y + 8) = s0) := ⟨_, rfl⟩
  obtain ⟨i0, hi0⟩ : ∃ s0, Hid (inW b c (16 * x + 8) (16 * y + 8) = s0) := ⟨_, rfl⟩
  obtain ⟨i1, hi1⟩ : ∃ s0, Hid (inW c a (16 * x + 8) (16 * y + 8) = s0) := ⟨_, rfl⟩
  obtain ⟨i2, hi2⟩ : ∃ s0, Hid (inW a b (16 * x + 8) (16 * y + 8) = s0) := ⟨_, rfl⟩
  have HZ : Hid (tellZ a b c s x y = atZ s s0 s1 s2 i0 i1 i2 a.z b.z c.z) := by unfold Hid tellZ; rw [hs0.out, hs1.out, hs2.out, hi0.out, hi1.out, hi2.out]
  have HI : Hid (tellI a b c s x y = atI s i0 i1 i2) := by unfold Hid tellI; rw [hi0.out, hi1.out, hi2.out]
  rw [HZ.out, HI.out]
  go_enter Try.func30, Try.ntmps30
  go_wp2_with fail
  refine (refSide_any a b c.x c.y _).mono ?_
  rintro e w1 ⟨rfl, h1⟩
  rw [hs.out]
  by_cases hz : s = 0
  · obtain rfl := hz
    go_wp2
    go_ret2
    exact ⟨ret_2 (int_v (by simp [atZ, atI])) (bool_v (by simp [atI])), ((((Later.refl _).alloc _).alloc _).alloc _).trans h1⟩
  have hzb : (s == 0) = false := by simp [hz]
  have t0 := h1.cell (b := w.heap.size) (o := 0) (by simp; rfl)
  have t1 := h1.cell (b := w.heap.size) (o := 1) (by simp; rfl)
  have t2 := h1.cell (b := w.heap.size) (o := 2) (by simp; rfl)
  have t3 := h1.cell (b := w.heap.size + 1) (o := 0) (by simp; rfl)
  have t4 := h1.cell (b := w.heap.size + 1) (o := 1) (by simp; rfl)
  have t5 := h1.cell (b := w.heap.size + 1) (o := 2) (by simp; rfl)
  have t6 := h1.cell (b := w.heap.size + 1 + 1) (o := 0) (by simp; rfl)
  have t7 := h1.cell (b := w.heap.size + 1 + 1) (o := 1) (by simp; rfl)
  have t8 := h1.cell (b := w.heap.size + 1 + 1) (o := 2) (by simp; rfl)
  go_wp2_with fail
  refine (refIn_any a b _ _ _).mono ?_
  rintro e w2 ⟨rfl, h2⟩
  rw [hi2.out]
  replace t0 := h2.cell t0
  replace t1 := h2.cell t1
  replace t2 := h2.cell t2
  replace t3 := h2.cell t3
  replace t4 := h2.cell t4
  replace t5 := h2.cell t5
  replace t6 := h2.cell t6
  replace t7 := h2.cell t7
  replace t8 := h2.cell t8
  go_wp2_with fail
  refine (refIn_any b c _ _ _).mono ?_
  rintro e w3 ⟨rfl, h3⟩
  rw [hi0.out]
  replace t0 := h3.cell t0
  replace t1 := h3.cell t1
  replace t2 := h3.cell t2
  replace t3 := h3.cell t3
  replace t4 := h3.cell t4
  replace t5 := h3.cell t5
  replace t6 := h3.cell t6
  replace t7 := h3.cell t7
  replace t8 := h3.cell t8
  go_wp2_with fail
  refine (refIn_any c a _ _ _).mono ?_
  rintro e w4 ⟨rfl, h4⟩
  rw [hi1.out]
  replace t0 := h4.cell t0
  replace t1 := h4.cell t1
  replace t2 := h4.cell t2
  replace t3 := h4.cell t3
  replace t4 := h4.cell t4
  replace t5 := h4.cell t5
  replace t6 := h4.cell t6
  replace t7 := h4.cell t7
  replace t8 := h4.cell t8
  have hL4 := (((((((Later.refl w).alloc (.cells #[.int .i64 a.x, .int .i64 a.y, .int .i64 a.z] 23)).alloc (.cells #[.int .i64 b.x, .int .i64 b.y, .int .i64 b.z] 23)).alloc (.cells #[.int .i64 c.x, .int .i64 c.y, .int .i64 c.z] 23)).trans h1).trans h2).trans h3).trans h4
  clear h1 h2 h3 h4
  cases i2
  · go_wp2
    go_ret2
    exact ⟨ret_2 (int_v (by simp [atZ, atI])) (bool_v (by simp [atI])), hL4⟩
  cases i0
  · go_wp2
    go_ret2
    exact ⟨ret_2 (int_v (by simp [atZ, atI])) (bool_v (by simp [atI])), hL4⟩
  cases i1
  · go_wp2
    go_ret2
    exact ⟨ret_2 (int_v (by simp [atZ, atI])) (bool_v (by simp [atI])), hL4⟩
  go_wp2_with fail
  go_region_held3 (fun W => W.cell? ⟨w.heap.size, 0, none⟩ = some (.int .i64 a.x) ∧ W.cell? ⟨w.heap.size, 1, none⟩ = some (.int .i64 a.y) ∧ W.cell? ⟨w.heap.size, 2, none⟩ = some (.int .i64 a.z) ∧ W.cell? ⟨w.heap.size + 1, 0, none⟩ = some (.int .i64 b.x) ∧ W.cell? ⟨w.heap.size + 1, 1, none⟩ = some (.int .i64 b.y) ∧ W.cell? ⟨w.heap.size + 1, 2, none⟩ = some (.int .i64 b.z) ∧ W.cell? ⟨w.heap.size + 1 + 1, 0, none⟩ = some (.int .i64 c.x) ∧ W.cell? ⟨w.heap.size + 1 + 1, 1, none⟩ = some (.int .i64 c.y) ∧ W.cell? ⟨w.heap.size + 1 + 1, 2, none⟩ = some (.int .i64 c.z)) ((go_split_ands; (repeat' apply And.intro) <;> first | assumption | exact (Later.refl _).drew.cell (by assumption) | exact ((Later.refl _).alloc _).cell (by assumption) | exact cell_setCell_o (by assumption) (by omega) | exact Later.cell hL (by assumption))) (first | (go_at_call 32; with_reducible refine (refSideS_any b c _ _ s0 _ hs0).mono ?_; rintro e W0 ⟨rfl, hL⟩; have hL0 := hL) | (go_at_call 32; with_reducible refine (refSideS_any c a _ _ s1 _ hs1).mono ?_; rintro e W1 ⟨rfl, hL⟩; have hL1 := hL) | (go_at_call 32; with_reducible refine (refSideS_any a b _ _ s2 _ hs2).mono ?_; rintro e W2 ⟨rfl, hL⟩; have hL2 := hL))
  go_wp2
  go_ret2
  exact ⟨ret_2 (int_v (by simp [atZ, atI, hz, IntKind.wrap_i64, IntKind.wrap_u32, wrap64])) (bool_v (by simp [atI, hz])), ((hL4.drew.trans hL0).trans hL1).trans hL2⟩

/-- The document's depth: where they go round to the left, what a, c, b are told. -/
theorem refAt_any (a b c : C3) (x y : Int) (w : World) (h0 : sdW a b c.x c.y < 0 → sdW a c b.x b.y = wrap64 (- sdW a b c.x c.y) ∧ ¬ sdW a c b.x b.y < 0) (hx : 0 ≤ x ∧ x ≤ 63) (hy : 0 ≤ y ∧ y ≤ 63) :
    Calls Try.prog 30 #[crn a, crn b, crn c, .int .i64 x, .int .i64 y] w fun e w' =>
      e = .returned (.tuple #[.int .u32 (tellZ a (shB b c (sdW a b c.x c.y)) (shC b c (sdW a b c.x c.y)) (shS (sdW a b c.x c.y)) x y), .bool (tellI a (shB b c (sdW a b c.x c.y)) (shC b c (sdW a b c.x c.y)) (shS (sdW a b c.x c.y)) x y)]) ∧ Later w w' := by
  obtain ⟨s, hs⟩ : ∃ s0, Hid (sdW a b c.x c.y = s0) := ⟨_, rfl⟩
  by_cases hn : s < 0
  · obtain ⟨hm, hp⟩ := h0 (by rw [hs.out]; exact hn)
    have IH := Lib.hid (fun (W : World) => refAtp_any a c b x y _ W (Lib.hid hm) (by rw [← hm]; exact hp) hx hy)
    have HB : Hid (shB b c (sdW a b c.x c.y) = c) := by unfold Hid shB; rw [hs.out, if_pos hn]
    have HC : Hid (shC b c (sdW a b c.x c.y) = b) := by unfold Hid shC; rw [hs.out, if_pos hn]
    have HS : Hid (shS (sdW a b c.x c.y) = wrap64 (- sdW a b c.x c.y)) := by unfold Hid shS; rw [if_pos (by rw [hs.out]; exact hn)]
    rw [HB.out, HC.out, HS.out]
    clear hm hp h0 HB HC HS
    obtain ⟨z, hz⟩ : ∃ z, Hid (tellZ a c b (wrap64 (- sdW a b c.x c.y)) x y = z) := ⟨_, rfl⟩
    obtain ⟨i, hi⟩ : ∃ z, Hid (tellI a c b (wrap64 (- sdW a b c.x c.y)) x y = z) := ⟨_, rfl⟩
    rw [hz.out, hi.out]
    have hzb : (s == 0) = false := by simp; omega
    go_enter Try.func30, Try.ntmps30
    go_wp2_with fail
    refine (refSide_any a b c.x c.y _).mono ?_
    rintro e w1 ⟨rfl, h1⟩
    rw [hs.out]
    have t0 := h1.cell (b := w.heap.size) (o := 0) (by simp; rfl)
    have t1 := h1.cell (b := w.heap.size) (o := 1) (by simp; rfl)
    have t2 := h1.cell (b := w.heap.size) (o := 2) (by simp; rfl)
    have t3 := h1.cell (b := w.heap.size + 1) (o := 0) (by simp; rfl)
    have t4 := h1.cell (b := w.heap.size + 1) (o := 1) (by simp; rfl)
    have t5 := h1.cell (b := w.heap.size + 1) (o := 2) (by simp; rfl)
    have t6 := h1.cell (b := w.heap.size + 1 + 1) (o := 0) (by simp; rfl)
    have t7 := h1.cell (b := w.heap.size + 1 + 1) (o := 1) (by simp; rfl)
    have t8 := h1.cell (b := w.heap.size + 1 + 1) (o := 2) (by simp; rfl)
    go_wp2_with fail
    refine (IH.out _).mono ?_
    rintro e w2 ⟨rfl, h2⟩
    rw [hz.out, hi.out]
    go_wp2
    go_ret2
    exact ⟨rfl, (((((Later.refl _).alloc _).alloc _).alloc _).trans h1).trans h2⟩
  · have HB : shB b c (sdW a b c.x c.y) = b := by unfold shB; rw [hs.out, if_neg hn]
    have HC : shC b c (sdW a b c.x c.y) = c := by unfold shC; rw [hs.out, if_neg hn]
    have HS : shS (sdW a b c.x c.y) = s := by unfold shS; rw [hs.out, if_neg hn]
    rw [HB, HC, HS]
    exact refAtp_any a b c x y s w hs hn hx hy

theorem refAt3_any (a b c : C3) (x y : Int) (w : World) (h0 : may3 a b c = true → sdW a b c.x c.y < 0 → sdW a c b.x b.y = wrap64 (- sdW a b c.x c.y) ∧ ¬ sdW a c b.x b.y < 0) :
    Calls Try.prog 12 #[tri a b c, .int .i64 x, .int .i64 y] w fun e w' =>
      e = .returned (.tuple #[.int .u32 (if pixOk x y && may3 a b c then tellZ a (shB b c (sdW a b c.x c.y)) (shC b c (sdW a b c.x c.y)) (shS (sdW a b c.x c.y)) x y else 0),
        .bool (if pixOk x y && may3 a b c then tellI a (shB b c (sdW a b c.x c.y)) (shC b c (sdW a b c.x c.y)) (shS (sdW a b c.x c.y)) x y else false),
        .int .i64 (if !pixOk x y then 2 else if !may3 a b c then 110 else 0)]) ∧ Later w w' := by
  have hA := Lib.hid (fun (hm : may3 a b c = true) hx hy (W : World) => refAt_any a b c x y W (h0 hm) hx hy)
  clear h0
  obtain ⟨m, hm⟩ : ∃ m, Hid (may3 a b c = m) := ⟨_, rfl⟩
  obtain ⟨z, hzz⟩ : ∃ z, Hid (tellZ a (shB b c (sdW a b c.x c.y)) (shC b c (sdW a b c.x c.y)) (shS (sdW a b c.x c.y)) x y = z) := ⟨_, rfl⟩
  obtain ⟨i, hii⟩ : ∃ i, Hid (tellI a (shB b c (sdW a b c.x c.y)) (shC b c (sdW a b c.x c.y)) (shS (sdW a b c.x c.y)) x y = i) := ⟨_, rfl⟩
  rw [hm.out, hzz.out, hii.out]
  by_cases hp : 0 ≤ x ∧ x ≤ 63 ∧ 0 ≤ y ∧ y ≤ 63
  · have hpx : Hid (pixOk x y = true) := by simp [Hid, pixOk, hp]
    rw [hpx.out]
    obtain ⟨p1, p2, p3, p4⟩ := hp
    go_enter Try.func12, Try.ntmps12
    go_wp2_with fail
    refine (refAll_any a b c _).mono ?_
    rintro e w1 ⟨rfl, h1⟩
    rw [show (mayB a && mayB b && mayB c) = m from hm.out]
    have t0 := h1.cell (b := w.heap.size) (o := 0) (by simp; rfl)
    have t1 := h1.cell (b := w.heap.size) (o := 1) (by simp; rfl)
    have t2 := h1.cell (b := w.heap.size) (o := 2) (by simp; rfl)
    have t3 := h1.cell (b := w.heap.size) (o := 3) (by simp; rfl)
    have t4 := h1.cell (b := w.heap.size) (o := 4) (by simp; rfl)
    have t5 := h1.cell (b := w.heap.size) (o := 5) (by simp; rfl)
    have t6 := h1.cell (b := w.heap.size) (o := 6) (by simp; rfl)
    have t7 := h1.cell (b := w.heap.size) (o := 7) (by simp; rfl)
    have t8 := h1.cell (b := w.heap.size) (o := 8) (by simp; rfl)
    cases m
    · go_wp2
      refine bodyPost_ret (results_tmp3 rfl _ _ _) rfl ?_
      exact ⟨rfl, ((Later.refl _).alloc _).trans h1⟩
    · go_wp2_with fail
      refine (hA.out hm.out ⟨p1, p2⟩ ⟨p3, p4⟩ _).mono ?_
      rintro e w2 ⟨rfl, h2⟩
      rw [hzz.out, hii.out]
      go_wp2
      refine bodyPost_ret (results_tmp3 rfl _ _ _) rfl ?_
      exact ⟨rfl, (((Later.refl _).alloc _).trans h1).trans h2⟩
  · have hpx : Hid (pixOk x y = false) := by simp [Hid, pixOk]; omega
    rw [hpx.out]
    go_enter Try.func12, Try.ntmps12
    go_wp2_with fail
    all_goals first | (exfalso; omega) | (refine bodyPost_ret (results_tmp3 rfl _ _ _) rfl ?_; exact ⟨rfl, (Later.refl _).alloc _⟩)
end Go.Proofs.Ytmpnojgciaoghaa
