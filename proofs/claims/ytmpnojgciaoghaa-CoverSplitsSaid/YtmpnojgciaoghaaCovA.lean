/-
  Walks over the small functions of chapter 11: Owns, May, Side, All, in.
-/
import Derived.Test.YtmpnojgciaoghaaKit
import Derived.Test.YtmpnojgciaoghaaCovP
import Derived.LoopN
namespace Go.Proofs.Ytmpnojgciaoghaa
open Go.RowKit
set_option linter.unusedVariables false
set_option linter.unusedSimpArgs false

abbrev crn (c : C3) : Value := .agg #[.int .i64 c.x, .int .i64 c.y, .int .i64 c.z]
abbrev tri (a b c : C3) : Value := .agg #[.int .i64 a.x, .int .i64 a.y, .int .i64 a.z, .int .i64 b.x, .int .i64 b.y, .int .i64 b.z, .int .i64 c.x, .int .i64 c.y, .int .i64 c.z]

set_option maxHeartbeats 400000 in
theorem refOwns_any (a b : C3) (w : World) :
    Calls Try.prog 14 #[crn a, crn b] w fun e w' => e = .returned (.bool (ownsB a b)) ∧ Later w w' := by
  go_enter Try.func14, Try.ntmps14
  go_wp2
  all_goals (go_ret; refine ⟨ret_bool ?_, ((Later.refl _).alloc _).alloc _⟩)
  all_goals (simp only [ownsB]; first | (rw [eq_comm, decide_eq_true_iff]; omega) | (rw [eq_comm, decide_eq_false_iff_not]; omega) | (rw [decide_eq_decide]; omega))

set_option maxHeartbeats 400000 in
theorem covOwns_any (a b : C3) (w : World) :
    Calls Try.prog 13 #[crn a, crn b] w fun e w' => e = .returned (.bool (ownsB a b)) ∧ Later w w' := by
  go_enter Try.func13, Try.ntmps13
  go_wp2
  all_goals (go_ret; refine ⟨ret_bool ?_, ((Later.refl _).alloc _).alloc _⟩)
  all_goals (simp only [ownsB]; first | (rw [eq_comm, decide_eq_true_iff]; omega) | (rw [eq_comm, decide_eq_false_iff_not]; omega) | (rw [decide_eq_decide]; omega))

set_option maxHeartbeats 400000 in
theorem covMay_any (a : C3) (w : World) :
    Calls Try.prog 19 #[crn a] w fun e w' => e = .returned (.bool (mayB a)) ∧ Later w w' := by
  go_enter Try.func19, Try.ntmps19
  go_wp2
  all_goals (go_ret; refine ⟨ret_bool ?_, (Later.refl _).alloc _⟩)
  all_goals (unfold mayB; symm)
  all_goals first | (rw [decide_eq_decide]; omega) | (rw [decide_eq_false_iff_not]; omega)

set_option maxHeartbeats 400000 in
theorem refMay_any (a : C3) (w : World) :
    Calls Try.prog 20 #[crn a] w fun e w' => e = .returned (.bool (mayB a)) ∧ Later w w' := by
  go_enter Try.func20, Try.ntmps20
  go_wp2
  all_goals (go_ret; refine ⟨ret_bool ?_, (Later.refl _).alloc _⟩)
  all_goals (unfold mayB; symm)
  all_goals first | (rw [decide_eq_decide]; omega) | (rw [decide_eq_false_iff_not]; omega)

set_option maxHeartbeats 400000 in
/-- Side, wrapped as the machine does. -/
theorem refSide_any (a b : C3) (x y : Int) (w : World) :
    Calls Try.prog 32 #[crn a, crn b, .int .i64 x, .int .i64 y] w fun e w' => e = .returned (.int .i64 (sdW a b x y)) ∧ Later w w' := by
  go_enter Try.func32, Try.ntmps32
  go_wp2
  go_ret
  exact ⟨ret_int rfl, ((Later.refl _).alloc _).alloc _⟩

set_option maxHeartbeats 400000 in
/-- All three may be. -/
theorem refAll_any (a b c : C3) (w : World) :
    Calls Try.prog 25 #[tri a b c] w fun e w' => e = .returned (.bool (mayB a && mayB b && mayB c)) ∧ Later w w' := by
  go_enter Try.func25, Try.ntmps25
  go_wp2
  refine wp_loop_rounds 4 ?_
  rw [rounds_succ]
  go_wp2_with fail
  refine (refMay_any a _).mono ?_
  rintro e w1 ⟨rfl, h1⟩
  obtain ⟨hc_h1, hf_h1⟩ := bcell h1
  have hz_h1 := Later.size h1
  (try simp only [World.size_alloc, World.size_drew, World.size_setCell] at hz_h1)
  have hl_h1_w0_0 : w.heap.size < w1.heap.size := by omega
  cases hma : mayB a
  · go_wp2
    go_ret
    exact ⟨ret_bool (by simp [hma]), ((Later.refl _).alloc _).trans h1⟩
  go_wp2
  rw [rounds_succ]
  go_wp2_with fail
  refine (refMay_any b _).mono ?_
  rintro e w2 ⟨rfl, h2⟩
  obtain ⟨hc_h2, hf_h2⟩ := bcell h2
  have hz_h2 := Later.size h2
  (try simp only [World.size_alloc, World.size_drew, World.size_setCell] at hz_h2)
  have hl_h2_w0_0 : w.heap.size < w2.heap.size := by omega
  cases hmb : mayB b
  · go_wp2
    go_ret
    exact ⟨ret_bool (by simp [hma, hmb]), (((Later.refl _).alloc _).trans h1).trans h2⟩
  go_wp2
  rw [rounds_succ]
  go_wp2_with fail
  refine (refMay_any c _).mono ?_
  rintro e w3 ⟨rfl, h3⟩
  obtain ⟨hc_h3, hf_h3⟩ := bcell h3
  have hz_h3 := Later.size h3
  (try simp only [World.size_alloc, World.size_drew, World.size_setCell] at hz_h3)
  cases hmc : mayB c
  · go_wp2
    go_ret
    exact ⟨ret_bool (by simp [hma, hmb, hmc]), ((((Later.refl _).alloc _).trans h1).trans h2).trans h3⟩
  go_wp2
  rw [rounds_succ]
  go_wp2
  go_ret
  exact ⟨ret_bool (by simp [hma, hmb, hmc]), ((((Later.refl _).alloc _).trans h1).trans h2).trans h3⟩

set_option maxHeartbeats 400000 in
/-- All three may be (the program's). -/
theorem covMay3_any (a b c : C3) (w : World) :
    Calls Try.prog 27 #[tri a b c] w fun e w' => e = .returned (.bool (mayB a && mayB b && mayB c)) ∧ Later w w' := by
  go_enter Try.func27, Try.ntmps27
  go_wp2_with fail
  refine (covMay_any a _).mono ?_
  rintro e w1 ⟨rfl, h1⟩
  obtain ⟨hc_h1, hf_h1⟩ := bcell h1
  have hz_h1 := Later.size h1
  (try simp only [World.size_alloc, World.size_drew, World.size_setCell] at hz_h1)
  have hl_h1_w0_0 : w.heap.size < w1.heap.size := by omega
  cases hma : mayB a
  · go_wp2
    go_ret
    exact ⟨ret_bool (by simp [hma]), ((Later.refl _).alloc _).trans h1⟩
  go_wp2_with fail
  refine (covMay_any b _).mono ?_
  rintro e w2 ⟨rfl, h2⟩
  obtain ⟨hc_h2, hf_h2⟩ := bcell h2
  have hz_h2 := Later.size h2
  (try simp only [World.size_alloc, World.size_drew, World.size_setCell] at hz_h2)
  have hl_h2_w0_0 : w.heap.size < w2.heap.size := by omega
  cases hmb : mayB b
  · go_wp2
    go_ret
    exact ⟨ret_bool (by simp [hma, hmb]), (((Later.refl _).alloc _).trans h1).trans h2⟩
  go_wp2_with fail
  refine (covMay_any c _).mono ?_
  rintro e w3 ⟨rfl, h3⟩
  obtain ⟨hc_h3, hf_h3⟩ := bcell h3
  have hz_h3 := Later.size h3
  (try simp only [World.size_alloc, World.size_drew, World.size_setCell] at hz_h3)
  go_wp2
  go_ret
  exact ⟨ret_bool (by simp [hma, hmb]), ((((Later.refl _).alloc _).trans h1).trans h2).trans h3⟩

set_option maxHeartbeats 400000 in
theorem refIn_any (a b : C3) (x y : Int) (w : World) :
    Calls Try.prog 35 #[crn a, crn b, .int .i64 x, .int .i64 y] w fun e w' => e = .returned (.bool (inW a b x y)) ∧ Later w w' := by
  have Hs : ∀ s, Hid (sdW a b x y = s) → inW a b x y = (decide (0 < s) || (decide (s = 0) && ownsB a b)) := fun s h => by rw [← h.out]; rfl
  obtain ⟨s, hs⟩ : ∃ s, Hid (sdW a b x y = s) := ⟨_, rfl⟩
  have HS := Lib.hid (Hs s hs)
  clear Hs
  go_enter Try.func35, Try.ntmps35
  go_wp2_with fail
  refine (refSide_any a b x y _).mono ?_
  rintro e w1 ⟨rfl, h1⟩
  obtain ⟨hc_h1, hf_h1⟩ := bcell h1
  have hz_h1 := Later.size h1
  (try simp only [World.size_alloc, World.size_drew, World.size_setCell] at hz_h1)
  have hl_h1_w0_0 : w.heap.size < w1.heap.size := by omega
  have hl_h1_w1_0 : w.heap.size + 1 < w1.heap.size := by omega
  rw [hs.out]
  go_wp2_with fail
  refine (refOwns_any a b _).mono ?_
  rintro e w2 ⟨rfl, h2⟩
  obtain ⟨hc_h2, hf_h2⟩ := bcell h2
  have hz_h2 := Later.size h2
  (try simp only [World.size_alloc, World.size_drew, World.size_setCell] at hz_h2)
  by_cases hp : 0 < s
  · go_wp2
    go_ret
    exact ⟨ret_bool (by rw [HS.out]; simp [hp]), ((((Later.refl _).alloc _).alloc _).trans h1).trans h2⟩
  · by_cases hz : s = 0
    · obtain rfl := hz
      go_wp2
      go_ret
      exact ⟨ret_bool (by rw [HS.out]; simp), ((((Later.refl _).alloc _).alloc _).trans h1).trans h2⟩
    · go_wp2
      go_ret
      exact ⟨ret_bool (by rw [HS.out]; simp [hp, hz]), ((((Later.refl _).alloc _).alloc _).trans h1).trans h2⟩

set_option maxHeartbeats 400000 in
/-- What an edge says of a place: the closure. -/
theorem edge_any (d p e o : Nat) (dx dy ax ay : Int) (ow : Bool) (x y s : Int) (w : World)
    (h1 : w.cell? ⟨d, 0, none⟩ = some (.int .i64 dx)) (h2 : w.cell? ⟨p, 0, none⟩ = some (.int .i64 ax)) (h3 : w.cell? ⟨p, 1, none⟩ = some (.int .i64 ay))
    (h4 : w.cell? ⟨e, 0, none⟩ = some (.int .i64 dy)) (h5 : w.cell? ⟨o, 0, none⟩ = some (.bool ow))
    (hs : Hid (wrap64 (wrap64 (dx * wrap64 (y - ay)) - wrap64 (dy * wrap64 (x - ax))) = s)) :
    Calls Try.prog 37 #[.int .i64 x, .int .i64 y, .pointer (some ⟨d, 0, none⟩), .pointer (some ⟨p, 0, none⟩), .pointer (some ⟨e, 0, none⟩), .pointer (some ⟨o, 0, none⟩)] w
      fun e w' => e = .returned (.tuple #[.int .i64 s, .bool (decide (0 < s) || (decide (s = 0) && ow))]) ∧ Later w w' := by
  go_enter Try.func37, Try.ntmps37
  go_wp2
  rw [hs.out]
  by_cases hp : 0 < s
  · have hd : decide (0 < s) = true := by simp [hp]
    go_quiet (fail)
    go_wp2
    go_ret2
    exact ⟨ret_2 rfl (bool_v (by simp [hp])), (Later.refl _).drewN _⟩
  · by_cases hz : s = 0
    · obtain rfl := hz
      go_quiet (fail)
      go_wp2
      go_ret2
      exact ⟨ret_2 rfl (bool_v (by simp)), (Later.refl _).drewN _⟩
    · have hd : decide (0 < s) = false := by simp; omega
      have hd2 : (s == 0) = false := by simp [hz]
      go_quiet (fail)
      go_wp2
      go_ret2
      exact ⟨ret_2 rfl (bool_v (by simp [hp, hz])), (Later.refl _).drewN _⟩
end Go.Proofs.Ytmpnojgciaoghaa
