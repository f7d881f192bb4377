/-
  Chapter 28: may a message be.
-/
import Derived.Test.YtjelfiljebamgaaNdA
namespace Go.Proofs.Ytjelfiljebamgaa
open Go.RowKit Go.Shelf
set_option linter.unusedVariables false
set_option linter.unusedSimpArgs false
attribute [local go_sem] Oper.semAt_some

/-- A message in memory: its numbers; its members; its bytes. -/
abbrev msV (k eN eB : Int) (um : Value) (fr ro mf mt sf st : Int) (ud : Value) : Value := .agg #[.int .i64 k, .int .u32 eN, .int .i64 eB, um, .int .i64 fr, .int .i64 ro, .int .i64 mf, .int .i64 mt, .int .i64 sf, .int .i64 st, ud]
abbrev msC (k eN eB : Int) (um : Value) (fr ro mf mt sf st : Int) (ud : Value) : Array Value := #[.int .i64 k, .int .u32 eN, .int .i64 eB, um, .int .i64 fr, .int .i64 ro, .int .i64 mf, .int .i64 mt, .int .i64 sf, .int .i64 st, ud]
def MayM (k eB fr ro mf mt sf st : Int) (nm nd r : Nat) : Prop :=
  0 ≤ eB ∧ eB ≤ 63 ∧ 0 ≤ fr ∧ fr ≤ 1000 ∧ nd ≤ 70000 ∧ 0 ≤ mf ∧ mf ≤ 63 ∧ 0 ≤ mt ∧ mt ≤ 63 ∧ 0 ≤ ro ∧ ro ≤ 6 ∧ 0 ≤ st ∧ st ≤ 4096 ∧ 0 ≤ sf ∧ sf ≤ st ∧
  ((k = 1 ∧ r = 1 ∧ fr = 0 ∧ nd = 0 ∧ ro = 0 ∧ mf = 0 ∧ mt = 0 ∧ sf = 0 ∧ st = 0) ∨ ((k = 2 ∨ k = 3 ∨ k = 6) ∧ nm = 0 ∧ nd = 0 ∧ ro = 0 ∧ mf = 0 ∧ mt = 0 ∧ sf = 0 ∧ st = 0) ∨ (k = 4 ∧ nm = 0) ∨ (k = 5 ∧ nm = 0 ∧ ro = 0 ∧ mt = 0))
instance (k eB fr ro mf mt sf st : Int) (nm nd r : Nat) : Decidable (MayM k eB fr ro mf mt sf st nm nd r) := by unfold MayM; infer_instance
theorem within_yes {n m : Int} (h : 0 ≤ n ∧ n ≤ m) (W : World) : Calls Try.prog 93 #[.int .i64 n, .int .i64 m] W fun e w' => e = .returned (.bool true) ∧ W = w' := by
  have := within_any n m W
  rw [decide_eq_true h.1, decide_eq_true h.2] at this; exact this
theorem within_not {n m : Int} (h : ¬ (0 ≤ n ∧ n ≤ m)) (W : World) : Calls Try.prog 93 #[.int .i64 n, .int .i64 m] W fun e w' => e = .returned (.bool false) ∧ W = w' := by
  have := within_any n m W
  rw [show (decide (0 ≤ n) && decide (n ≤ m)) = false from by rw [Bool.and_eq_false_iff, decide_eq_false_iff_not, decide_eq_false_iff_not]; omega] at this; exact this
set_option maxRecDepth 100000 in
set_option maxHeartbeats 2000000 in
theorem fineM_any (k eN eB : Int) (um : Value) (fr ro mf mt sf st : Int) (ud : Value) (Ms D : List Int) (W : World) (hm : IntsV W um Ms) (hd : BytV W ud D) (hml : Ms.length ≤ 1000000) (hdl : D.length ≤ 1000000) :
    Calls Try.prog 69 #[msV k eN eB um fr ro mf mt sf st ud] W fun e w' => e = .returned (.bool (decide (MayM k eB fr ro mf mt sf st Ms.length D.length (risen (-1) Ms).toNat))) ∧ Later W w' := by
  obtain ⟨am, cm, hume⟩ := intsV_form hm
  obtain ⟨ad, cd, hude⟩ := bytV_form hd
  have hl2 : Later W ((W.alloc (.cells (msC k eN eB um fr ro mf mt sf st ud) 88)).alloc (.cells #[.int .i64 sf, .int .i64 st] 84)) := ((Later.refl _).alloc _).alloc _
  have HL := Lib.hid (list_any um Ms _ (hm.later hl2) hml)
  obtain ⟨R, hR⟩ : ∃ R, risen (-1) Ms = R := ⟨_, rfl⟩
  rw [hR] at HL ⊢
  obtain ⟨nm, hnm⟩ : ∃ n, Ms.length = n := ⟨_, rfl⟩
  obtain ⟨nd, hnd⟩ : ∃ n, D.length = n := ⟨_, rfl⟩
  rw [hnm] at hume hml ⊢
  rw [hnd] at hude hdl ⊢
  clear hm hd hR hnm hnd hl2
  subst hume hude
  go_enter Try.func69, Try.ntmps69
  by_cases c1 : Hid (0 ≤ eB ∧ eB ≤ 63)
  case neg =>
    replace c1 : Hid (¬ (0 ≤ eB ∧ eB ≤ 63)) := Lib.hid fun h => c1 (Lib.hid h)
    go_wp2_with fail
    refine (within_not (c1).out _).mono ?_
    rintro e w' ⟨rfl, rfl⟩
    go_wp2_with fail
    all_goals
      go_ret
      exact ⟨ret_bool (decide_eq_false (by have hh := (c1).out; unfold MayM; omega)).symm, ((Later.refl _).alloc _).alloc _⟩
  go_wp2_with fail
  refine (within_yes (c1).out _).mono ?_
  rintro e w' ⟨rfl, rfl⟩
  by_cases c2 : Hid (0 ≤ fr ∧ fr ≤ 1000)
  case neg =>
    replace c2 : Hid (¬ (0 ≤ fr ∧ fr ≤ 1000)) := Lib.hid fun h => c2 (Lib.hid h)
    go_wp2_with fail
    refine (within_not (c2).out _).mono ?_
    rintro e w' ⟨rfl, rfl⟩
    go_wp2_with fail
    all_goals
      go_ret
      exact ⟨ret_bool (decide_eq_false (by have hh := (c2).out; unfold MayM; omega)).symm, ((Later.refl _).alloc _).alloc _⟩
  go_wp2_with fail
  refine (within_yes (c2).out _).mono ?_
  rintro e w' ⟨rfl, rfl⟩
  by_cases c3 : Hid ((nd : Int) ≤ 70000)
  case neg =>
    replace c3 : Hid (¬ ((nd : Int) ≤ 70000)) := Lib.hid fun h => c3 (Lib.hid h)
    have g3 : ¬ (nd : Int) ≤ 70000 := c3.out
    go_wp2_with fail
    all_goals
      go_ret
      exact ⟨ret_bool (decide_eq_false (by have hh := (c3).out; unfold MayM; omega)).symm, ((Later.refl _).alloc _).alloc _⟩
  have g3 : (nd : Int) ≤ 70000 := c3.out
  by_cases c4 : Hid (0 ≤ mf ∧ mf ≤ 63)
  case neg =>
    replace c4 : Hid (¬ (0 ≤ mf ∧ mf ≤ 63)) := Lib.hid fun h => c4 (Lib.hid h)
    go_wp2_with fail
    refine (within_not (c4).out _).mono ?_
    rintro e w' ⟨rfl, rfl⟩
    go_wp2_with fail
    all_goals
      go_ret
      exact ⟨ret_bool (decide_eq_false (by have hh := (c4).out; unfold MayM; omega)).symm, ((Later.refl _).alloc _).alloc _⟩
  go_wp2_with fail
  refine (within_yes (c4).out _).mono ?_
  rintro e w' ⟨rfl, rfl⟩
  by_cases c5 : Hid (0 ≤ mt ∧ mt ≤ 63)
  case neg =>
    replace c5 : Hid (¬ (0 ≤ mt ∧ mt ≤ 63)) := Lib.hid fun h => c5 (Lib.hid h)
    go_wp2_with fail
    refine (within_not (c5).out _).mono ?_
    rintro e w' ⟨rfl, rfl⟩
    go_wp2_with fail
    all_goals
      go_ret
      exact ⟨ret_bool (decide_eq_false (by have hh := (c5).out; unfold MayM; omega)).symm, ((Later.refl _).alloc _).alloc _⟩
  go_wp2_with fail
  refine (within_yes (c5).out _).mono ?_
  rintro e w' ⟨rfl, rfl⟩
  by_cases c6 : Hid (0 ≤ ro ∧ ro ≤ 6)
  case neg =>
    replace c6 : Hid (¬ (0 ≤ ro ∧ ro ≤ 6)) := Lib.hid fun h => c6 (Lib.hid h)
    go_wp2_with fail
    refine (within_not (c6).out _).mono ?_
    rintro e w' ⟨rfl, rfl⟩
    go_wp2_with fail
    all_goals
      go_ret
      exact ⟨ret_bool (decide_eq_false (by have hh := (c6).out; unfold MayM; omega)).symm, ((Later.refl _).alloc _).alloc _⟩
  go_wp2_with fail
  refine (within_yes (c6).out _).mono ?_
  rintro e w' ⟨rfl, rfl⟩
  by_cases c7 : Hid (0 ≤ st ∧ st ≤ 4096)
  case neg =>
    replace c7 : Hid (¬ (0 ≤ st ∧ st ≤ 4096)) := Lib.hid fun h => c7 (Lib.hid h)
    go_wp2_with fail
    refine (within_not (c7).out _).mono ?_
    rintro e w' ⟨rfl, rfl⟩
    go_wp2_with fail
    all_goals
      go_ret
      exact ⟨ret_bool (decide_eq_false (by have hh := (c7).out; unfold MayM; omega)).symm, ((Later.refl _).alloc _).alloc _⟩
  go_wp2_with fail
  refine (within_yes (c7).out _).mono ?_
  rintro e w' ⟨rfl, rfl⟩
  by_cases c8 : Hid (0 ≤ sf ∧ sf ≤ st)
  case neg =>
    replace c8 : Hid (¬ (0 ≤ sf ∧ sf ≤ st)) := Lib.hid fun h => c8 (Lib.hid h)
    go_wp2_with fail
    refine (within_not (c8).out _).mono ?_
    rintro e w' ⟨rfl, rfl⟩
    go_wp2_with fail
    all_goals
      go_ret
      exact ⟨ret_bool (decide_eq_false (by have hh := (c8).out; unfold MayM; omega)).symm, ((Later.refl _).alloc _).alloc _⟩
  go_wp2_with fail
  refine (within_yes (c8).out _).mono ?_
  rintro e w' ⟨rfl, rfl⟩
  have hall : Hid ((0 ≤ eB ∧ eB ≤ 63) ∧ (0 ≤ fr ∧ fr ≤ 1000) ∧ (nd : Int) ≤ 70000 ∧ (0 ≤ mf ∧ mf ≤ 63) ∧ (0 ≤ mt ∧ mt ≤ 63) ∧ (0 ≤ ro ∧ ro ≤ 6) ∧ (0 ≤ st ∧ st ≤ 4096) ∧ (0 ≤ sf ∧ sf ≤ st)) := Lib.hid ⟨c1.out, c2.out, c3.out, c4.out, c5.out, c6.out, c7.out, c8.out⟩
  clear c1 c2 c3 c4 c5 c6 c7 c8 g3
  go_upto_region 4 with fail
  by_cases k1 : k = 1
  · subst k1
    cases R with
    | false =>
      go_wp2_with fail
      refine HL.out.mono ?_
      rintro e w' ⟨rfl, rfl⟩
      go_wp2_with fail
      all_goals
        go_ret
        refine ⟨?_, ((Later.refl _).alloc _).alloc _⟩
        have hh := hall.out
        (try simp only [beq_iff_eq, beq_eq_false_iff_ne, ne_eq] at *)
        first
          | exact ret_bool (decide_eq_false (by unfold MayM; rw [show true.toNat = 1 from rfl]; omega)).symm
          | exact ret_bool (decide_eq_false (by unfold MayM; rw [show false.toNat = 0 from rfl]; omega)).symm
          | exact ret_bool (decide_eq_true (by unfold MayM; rw [show true.toNat = 1 from rfl]; omega)).symm
          | exact ret_bool (decide_eq_false (by unfold MayM; omega)).symm
          | exact ret_bool (decide_eq_true (by unfold MayM; omega)).symm
          | exact ret_bool (Bool.eq_iff_iff.2 (by rw [beq_iff_eq, decide_eq_true_eq]; unfold MayM; omega))
          | trace_state
    | true =>
      go_wp2_with fail
      refine HL.out.mono ?_
      rintro e w' ⟨rfl, rfl⟩
      go_wp2_with fail
      all_goals
        go_ret
        refine ⟨?_, ((Later.refl _).alloc _).alloc _⟩
        have hh := hall.out
        (try simp only [beq_iff_eq, beq_eq_false_iff_ne, ne_eq] at *)
        first
          | exact ret_bool (decide_eq_false (by unfold MayM; rw [show true.toNat = 1 from rfl]; omega)).symm
          | exact ret_bool (decide_eq_false (by unfold MayM; rw [show false.toNat = 0 from rfl]; omega)).symm
          | exact ret_bool (decide_eq_true (by unfold MayM; rw [show true.toNat = 1 from rfl]; omega)).symm
          | exact ret_bool (decide_eq_false (by unfold MayM; omega)).symm
          | exact ret_bool (decide_eq_true (by unfold MayM; omega)).symm
          | exact ret_bool (Bool.eq_iff_iff.2 (by rw [beq_iff_eq, decide_eq_true_eq]; unfold MayM; omega))
          | trace_state
  · go_wp2_with fail
    all_goals
      go_ret
      refine ⟨?_, ((Later.refl _).alloc _).alloc _⟩
      have hh := hall.out
      (try simp only [beq_iff_eq, beq_eq_false_iff_ne, ne_eq] at *)
      first
        | exact ret_bool (decide_eq_false (by unfold MayM; rw [show true.toNat = 1 from rfl]; omega)).symm
        | exact ret_bool (decide_eq_false (by unfold MayM; rw [show false.toNat = 0 from rfl]; omega)).symm
        | exact ret_bool (decide_eq_true (by unfold MayM; rw [show true.toNat = 1 from rfl]; omega)).symm
        | exact ret_bool (decide_eq_false (by unfold MayM; omega)).symm
        | exact ret_bool (decide_eq_true (by unfold MayM; omega)).symm
        | exact ret_bool (Bool.eq_iff_iff.2 (by rw [beq_iff_eq, decide_eq_true_eq]; unfold MayM; omega))
        | trace_state
end Go.Proofs.Ytjelfiljebamgaa
