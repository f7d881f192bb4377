/-
  Chapter 11: Cells, the program's, for any corners and size.
-/
import Derived.Test.YtmpnojgciaoghaaCovH
namespace Go.Proofs.Ytmpnojgciaoghaa
open Go.RowKit Go.Shelf
set_option linter.unusedVariables false
set_option linter.unusedSimpArgs false
attribute [local go_sem] Oper.semAt_some

def sizeOk (w h : Int) : Bool := decide (1 ≤ w ∧ w ≤ 64 ∧ 1 ≤ h ∧ h ≤ 64)
def cellsN (m : Bool) (w h : Int) : Int := if !sizeOk w h then 2 else if !m then 110 else 0

theorem cellsV_nil (w : World) : CellsV w (.slice none 0 0) [] := ⟨none, 0, rfl, fun k hk => by simp at hk⟩

theorem covCells_bad (a b c : C3) (w h : Int) (W : World) (hs : sizeOk w h = false) :
    Calls Try.prog 17 #[tri a b c, .int .i64 w, .int .i64 h] W (CellsRet [] 2 W) := by
  unfold sizeOk at hs
  have hs2 := of_decide_eq_false hs
  clear hs
  go_enter Try.func17, Try.ntmps17
  go_wp2_with fail
  go_step3
  go_upto_region 1 with fail
  go_cut [14] from 15 to 24 (fun u wx => u = .bool true ∧ wx = W.alloc (.cells #[.int .i64 a.x, .int .i64 a.y, .int .i64 a.z, .int .i64 b.x, .int .i64 b.y, .int .i64 b.z, .int .i64 c.x, .int .i64 c.y, .int .i64 c.z] 24))
  case first =>
    go_wp2_with fail
    all_goals (go_meet; exact ⟨bool_v (by first | (simp; done) | (simp; omega)), rfl⟩)
  case rest =>
    obtain ⟨rfl, rfl⟩ := hcut
    go_wp2_with fail
    go_ret2
    exact ⟨_, rfl, cellsV_nil _, (Later.refl _).alloc _⟩

theorem covCells_may (a b c : C3) (w h : Int) (W : World) (hh : 1 ≤ h ∧ h ≤ 64) (hw : 1 ≤ w ∧ w ≤ 64) (hm : Hid (may3 a b c = false)) :
    Calls Try.prog 17 #[tri a b c, .int .i64 w, .int .i64 h] W (CellsRet [] 110 W) := by
  obtain ⟨hh1, hh2⟩ := hh
  obtain ⟨hw1, hw2⟩ := hw
  go_enter Try.func17, Try.ntmps17
  go_wp2_with fail
  go_step3
  go_upto_region 1 with fail
  go_cut [14] from 15 to 24 (fun u wx => u = .bool false ∧ wx = W.alloc (.cells #[.int .i64 a.x, .int .i64 a.y, .int .i64 a.z, .int .i64 b.x, .int .i64 b.y, .int .i64 b.z, .int .i64 c.x, .int .i64 c.y, .int .i64 c.z] 24))
  case first =>
    go_wp2_with fail
    all_goals (go_meet; exact ⟨bool_v (by first | (simp; done) | (simp; omega)), rfl⟩)
  case rest =>
    obtain ⟨rfl, rfl⟩ := hcut
    go_wp2_with fail
    refine (covMay3_any a b c _).mono ?_
    rintro e w1 ⟨rfl, h1⟩
    rw [show (mayB a && mayB b && mayB c) = false from hm.out]
    go_wp2_with fail
    go_ret2
    exact ⟨_, rfl, cellsV_nil _, ((Later.refl _).alloc _).trans h1⟩

theorem may3_iff (a b c : C3) : may3 a b c = true ↔ MayP a ∧ MayP b ∧ MayP c := by
  unfold may3; simp [Bool.and_eq_true, mayB_iff, and_assoc]

theorem covCells_any (a b c : C3) (w h : Int) (W : World) :
    Calls Try.prog 17 #[tri a b c, .int .i64 w, .int .i64 h] W (CellsRet (if sizeOk w h && may3 a b c then covL a b c w h else []) (cellsN (may3 a b c) w h) W) := by
  unfold cellsN
  by_cases hs : sizeOk w h = true
  · have hs2 := of_decide_eq_true hs
    obtain ⟨hw1, hw2, hh1, hh2⟩ := hs2
    by_cases hm : may3 a b c = true
    · obtain ⟨ha, hb, hc⟩ := (may3_iff a b c).1 hm
      rw [hs, hm]
      exact covCells_ok a b c w h W (Lib.hid hm) ha hb hc ⟨hh1, hh2⟩ ⟨hw1, hw2⟩
    · rw [hs, show may3 a b c = false by simpa using hm]
      exact covCells_may a b c w h W ⟨hh1, hh2⟩ ⟨hw1, hw2⟩ (Lib.hid (by simpa using hm))
  · rw [show sizeOk w h = false by simpa using hs]
    exact covCells_bad a b c w h W (by simpa using hs)
end Go.Proofs.Ytmpnojgciaoghaa
