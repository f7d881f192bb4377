/-
  Chapter 28, the document's answer: may a message be.
-/
import Derived.Test.YtjelfiljebamgaaNdB
namespace Go.Proofs.Ytjelfiljebamgaa
open Go.RowKit Go.Shelf
set_option linter.unusedVariables false
set_option linter.unusedSimpArgs false
attribute [local go_sem] Oper.semAt_some

theorem node_yes {n : Int} (h : 0 ≤ n ∧ n ≤ 63) (W : World) : Calls Try.prog 95 #[.int .i64 n] W fun e w' => e = .returned (.bool true) ∧ W = w' := by
  have := node28_any n W
  rw [decide_eq_true h.1, decide_eq_true h.2] at this; exact this
theorem node_not {n : Int} (h : ¬ (0 ≤ n ∧ n ≤ 63)) (W : World) : Calls Try.prog 95 #[.int .i64 n] W fun e w' => e = .returned (.bool false) ∧ W = w' := by
  have := node28_any n W
  rw [show (decide (0 ≤ n) && decide (n ≤ 63)) = false from by rw [Bool.and_eq_false_iff, decide_eq_false_iff_not, decide_eq_false_iff_not]; omega] at this; exact this
theorem span_yes {a b : Int} (h : (0 ≤ a ∧ a ≤ b) ∧ b ≤ 4096) (W : World) : Calls Try.prog 96 #[.agg #[.int .i64 a, .int .i64 b]] W fun e w' => e = .returned (.bool true) ∧ Later W w' := by
  have := span28_any a b W
  rw [decide_eq_true h.1.1, decide_eq_true h.1.2, decide_eq_true h.2] at this; exact this
theorem span_not {a b : Int} (h : ¬ ((0 ≤ a ∧ a ≤ b) ∧ b ≤ 4096)) (W : World) : Calls Try.prog 96 #[.agg #[.int .i64 a, .int .i64 b]] W fun e w' => e = .returned (.bool false) ∧ Later W w' := by
  have := span28_any a b W
  rw [show (decide (0 ≤ a) && decide (a ≤ b) && decide (b ≤ 4096)) = false from by rw [Bool.and_eq_false_iff, Bool.and_eq_false_iff, decide_eq_false_iff_not, decide_eq_false_iff_not, decide_eq_false_iff_not]; omega] at this; exact this
set_option maxRecDepth 100000 in
set_option maxHeartbeats 2000000 in
theorem may28_any (k eN eB : Int) (um : Value) (fr ro mf mt sf st : Int) (ud : Value) (Ms D : List Int) (W : World) (hm : IntsV W um Ms) (hd : BytV W ud D) (hml : Ms.length ≤ 1000000) (hdl : D.length ≤ 1000000) :
    Calls Try.prog 71 #[msV k eN eB um fr ro mf mt sf st ud] W fun e w' => e = .returned (.bool (decide (MayM k eB fr ro mf mt sf st Ms.length D.length (risen (-1) Ms).toNat))) ∧ Later W w' := by
  obtain ⟨am, cm, hume⟩ := intsV_form hm
  obtain ⟨ad, cd, hude⟩ := bytV_form hd
  have HL := Lib.hid (fun w (hl : Later W w) => nodes_any um Ms w (hm.later hl) hml)
  obtain ⟨R, hR⟩ : ∃ R, risen (-1) Ms = R := ⟨_, rfl⟩
  rw [hR] at HL ⊢
  obtain ⟨nm, hnm⟩ : ∃ n, Ms.length = n := ⟨_, rfl⟩
  obtain ⟨nd, hnd⟩ : ∃ n, D.length = n := ⟨_, rfl⟩
  rw [hnm] at hume hml ⊢
  rw [hnd] at hude hdl ⊢
  clear hm hd hR hnm hnd
  subst hume hude
  go_enter Try.func71, Try.ntmps71
  by_cases c1 : Hid (0 ≤ eB ∧ eB ≤ 63)
  case neg =>
    replace c1 : Hid (¬ (0 ≤ eB ∧ eB ≤ 63)) := Lib.hid fun h => c1 (Lib.hid h)
    go_wp2_with fail
    refine (node_not c1.out _).mono ?_
    rintro e w' ⟨rfl, rfl⟩
    go_wp2_with fail
    go_ret
    exact ⟨ret_bool (decide_eq_false (by have hh := c1.out; unfold MayM; omega)).symm, (Later.refl _).alloc _⟩
  go_wp2_with fail
  refine (node_yes c1.out _).mono ?_
  rintro e w' ⟨rfl, rfl⟩
  by_cases c2 : ¬ (0 ≤ fr ∧ fr ≤ 1000)
  case pos =>
    have g2 : (decide (fr < 0) || decide (1000 < fr)) = true := by rw [Bool.or_eq_true, decide_eq_true_eq, decide_eq_true_eq]; omega
    replace c2 := Lib.hid c2
    go_wp2_with fail
    all_goals
      go_ret
      exact ⟨ret_bool (decide_eq_false (by have hh := c2.out; unfold MayM; omega)).symm, (Later.refl _).alloc _⟩
  have g1 : decide (fr < 0) = false := decide_eq_false (by omega)
  have g2 : decide (1000 < fr) = false := decide_eq_false (by omega)
  replace c2 := Lib.hid c2
  go_upto_region 3 with fail
  obtain ⟨Z, hZ⟩ : ∃ Z, Hid (decide (ro = 0 ∧ mf = 0 ∧ mt = 0 ∧ sf = 0 ∧ st = 0 ∧ nd = 0) = Z) := ⟨_, rfl⟩
  go_cut [3] from 22 to 31 (fun v3 wx => v3 = .bool Z ∧ wx = W.alloc (.cells (msC k eN eB (.slice am nm cm) fr ro mf mt sf st (.slice ad nd cd)) 88))
  case first =>
    go_wp2_with fail
    all_goals
      subst_vars
      go_meet
      case rel =>
        refine ⟨?_, rfl⟩
        (try rw [← hZ.out])
        first
          | exact congrArg Value.bool (decide_eq_false (by omega)).symm
          | exact congrArg Value.bool (decide_eq_true (by omega)).symm
          | exact congrArg Value.bool (Bool.eq_iff_iff.2 (by rw [beq_iff_eq, decide_eq_true_eq]; omega))
          | trace_state
  case rest =>
    obtain ⟨rfl, rfl⟩ := hcut
    go_upto_region 5 with fail
    obtain ⟨X5, hX5⟩ : ∃ X, X = (W.alloc (.cells (msC k eN eB (.slice am nm cm) fr ro mf mt sf st (.slice ad nd cd)) 88)).alloc (.cells #[.int .i64 ro, .int .i64 mf, .int .i64 mt, .int .i64 sf, .int .i64 st] 86) := ⟨_, rfl⟩
    have hl5 : Later W X5 := by rw [hX5]; exact ((Later.refl _).alloc _).alloc _
    have kP : X5.heap[W.heap.size]? = some (.cells (msC k eN eB (.slice am nm cm) fr ro mf mt sf st (.slice ad nd cd)) 88 (0, 0)) := by rw [hX5]; exact push_old (heap_alloc_new _ _)
    have kQ : X5.heap[W.heap.size + 1]? = some (.cells #[.int .i64 ro, .int .i64 mf, .int .i64 mt, .int .i64 sf, .int .i64 st] 86 (0, 0)) := by rw [hX5]; exact push_new _ _ (by simp)
    rw [← hX5]
    clear hX5
    obtain ⟨P, hP⟩ : ∃ P, Hid (W.heap.size = P) := ⟨_, rfl⟩
    obtain ⟨Q, hQ⟩ : ∃ Q, Hid (P + 1 = Q) := ⟨_, rfl⟩
    simp only [hP.out, hQ.out] at kP kQ ⊢
    obtain ⟨Y, hY⟩ : ∃ Y, Hid (decide ((0 ≤ mf ∧ mf ≤ 63) ∧ ((0 ≤ sf ∧ sf ≤ st) ∧ st ≤ 4096) ∧ nd ≤ 70000 ∧ nm = 0) = Y) := ⟨_, rfl⟩
    go_cut [5] from 34 to 53 (fun v5 wx => v5 = .bool Y ∧ Later X5 wx)
    case first =>
      have m0 : X5.cell? ⟨P, 0, none⟩ = some (.int .i64 k) := cell_of_row X5 _ 0 _ _ _ kP
      have m1 : X5.cell? ⟨P, 1, none⟩ = some (.int .u32 eN) := cell_of_row X5 _ 1 _ _ _ kP
      have m2 : X5.cell? ⟨P, 2, none⟩ = some (.int .i64 eB) := cell_of_row X5 _ 2 _ _ _ kP
      have m3 : X5.cell? ⟨P, 3, none⟩ = some (.slice am nm cm) := cell_of_row X5 _ 3 _ _ _ kP
      have m4 : X5.cell? ⟨P, 4, none⟩ = some (.int .i64 fr) := cell_of_row X5 _ 4 _ _ _ kP
      have m5 : X5.cell? ⟨P, 5, none⟩ = some (.int .i64 ro) := cell_of_row X5 _ 5 _ _ _ kP
      have m6 : X5.cell? ⟨P, 6, none⟩ = some (.int .i64 mf) := cell_of_row X5 _ 6 _ _ _ kP
      have m7 : X5.cell? ⟨P, 7, none⟩ = some (.int .i64 mt) := cell_of_row X5 _ 7 _ _ _ kP
      have m8 : X5.cell? ⟨P, 8, none⟩ = some (.int .i64 sf) := cell_of_row X5 _ 8 _ _ _ kP
      have m9 : X5.cell? ⟨P, 9, none⟩ = some (.int .i64 st) := cell_of_row X5 _ 9 _ _ _ kP
      have m10 : X5.cell? ⟨P, 10, none⟩ = some (.slice ad nd cd) := cell_of_row X5 _ 10 _ _ _ kP
      have v0 : X5.cell? ⟨Q, 0, none⟩ = some (.int .i64 ro) := cell_of_row X5 _ 0 _ _ _ kQ
      have v1 : X5.cell? ⟨Q, 1, none⟩ = some (.int .i64 mf) := cell_of_row X5 _ 1 _ _ _ kQ
      have v2 : X5.cell? ⟨Q, 2, none⟩ = some (.int .i64 mt) := cell_of_row X5 _ 2 _ _ _ kQ
      have v3 : X5.cell? ⟨Q, 3, none⟩ = some (.int .i64 sf) := cell_of_row X5 _ 3 _ _ _ kQ
      have v4 : X5.cell? ⟨Q, 4, none⟩ = some (.int .i64 st) := cell_of_row X5 _ 4 _ _ _ kQ
      by_cases d1 : Hid (0 ≤ mf ∧ mf ≤ 63)
      case neg =>
        replace d1 : Hid (¬ (0 ≤ mf ∧ mf ≤ 63)) := Lib.hid fun h => d1 (Lib.hid h)
        go_wp2_with fail
        refine (node_not d1.out _).mono ?_
        rintro e w' ⟨rfl, rfl⟩
        go_wp2_with fail
        go_meet
        case rel => exact ⟨by rw [← hY.out]; exact congrArg Value.bool (decide_eq_false (by have := d1.out; omega)).symm, Later.refl _⟩
      go_wp2_with fail
      refine (node_yes d1.out _).mono ?_
      rintro e w' ⟨rfl, rfl⟩
      by_cases d2 : Hid ((0 ≤ sf ∧ sf ≤ st) ∧ st ≤ 4096)
      case neg =>
        replace d2 : Hid (¬ ((0 ≤ sf ∧ sf ≤ st) ∧ st ≤ 4096)) := Lib.hid fun h => d2 (Lib.hid h)
        go_wp2_with fail
        refine (span_not d2.out _).mono ?_
        rintro e w' ⟨rfl, hl⟩
        go_wp2_with fail
        go_meet
        case rel => exact ⟨by rw [← hY.out]; exact congrArg Value.bool (decide_eq_false (by have := d2.out; omega)).symm, hl⟩
      go_wp2_with fail
      refine (span_yes d2.out _).mono ?_
      rintro e w' ⟨rfl, hl⟩
      have dd : Hid ((0 ≤ mf ∧ mf ≤ 63) ∧ ((0 ≤ sf ∧ sf ≤ st) ∧ st ≤ 4096)) := Lib.hid ⟨d1.out, d2.out⟩
      replace kP := (hl.block P (Array.getElem?_eq_some_iff.1 kP).1).trans kP
      replace kQ := (hl.block Q (Array.getElem?_eq_some_iff.1 kQ).1).trans kQ
      clear d1 d2 m0 m1 m2 m3 m4 m5 m6 m7 m8 m9 m10 v0 v1 v2 v3 v4
      have m0 : w'.cell? ⟨P, 0, none⟩ = some (.int .i64 k) := cell_of_row w' _ 0 _ _ _ kP
      have m1 : w'.cell? ⟨P, 1, none⟩ = some (.int .u32 eN) := cell_of_row w' _ 1 _ _ _ kP
      have m2 : w'.cell? ⟨P, 2, none⟩ = some (.int .i64 eB) := cell_of_row w' _ 2 _ _ _ kP
      have m3 : w'.cell? ⟨P, 3, none⟩ = some (.slice am nm cm) := cell_of_row w' _ 3 _ _ _ kP
      have m4 : w'.cell? ⟨P, 4, none⟩ = some (.int .i64 fr) := cell_of_row w' _ 4 _ _ _ kP
      have m5 : w'.cell? ⟨P, 5, none⟩ = some (.int .i64 ro) := cell_of_row w' _ 5 _ _ _ kP
      have m6 : w'.cell? ⟨P, 6, none⟩ = some (.int .i64 mf) := cell_of_row w' _ 6 _ _ _ kP
      have m7 : w'.cell? ⟨P, 7, none⟩ = some (.int .i64 mt) := cell_of_row w' _ 7 _ _ _ kP
      have m8 : w'.cell? ⟨P, 8, none⟩ = some (.int .i64 sf) := cell_of_row w' _ 8 _ _ _ kP
      have m9 : w'.cell? ⟨P, 9, none⟩ = some (.int .i64 st) := cell_of_row w' _ 9 _ _ _ kP
      have m10 : w'.cell? ⟨P, 10, none⟩ = some (.slice ad nd cd) := cell_of_row w' _ 10 _ _ _ kP
      have v0 : w'.cell? ⟨Q, 0, none⟩ = some (.int .i64 ro) := cell_of_row w' _ 0 _ _ _ kQ
      have v1 : w'.cell? ⟨Q, 1, none⟩ = some (.int .i64 mf) := cell_of_row w' _ 1 _ _ _ kQ
      have v2 : w'.cell? ⟨Q, 2, none⟩ = some (.int .i64 mt) := cell_of_row w' _ 2 _ _ _ kQ
      have v3 : w'.cell? ⟨Q, 3, none⟩ = some (.int .i64 sf) := cell_of_row w' _ 3 _ _ _ kQ
      have v4 : w'.cell? ⟨Q, 4, none⟩ = some (.int .i64 st) := cell_of_row w' _ 4 _ _ _ kQ
      by_cases d3 : nd ≤ 70000
      case neg =>
        have g3 : ¬ (nd : Int) ≤ 70000 := by omega
        go_wp2_with fail
        go_meet
        case rel => exact ⟨by rw [← hY.out]; exact congrArg Value.bool (decide_eq_false (by omega)).symm, hl⟩
      have g3 : (nd : Int) ≤ 70000 := by omega
      go_wp2_with fail
      go_meet
      case rel => exact ⟨by rw [← hY.out]; exact congrArg Value.bool (Bool.eq_iff_iff.2 (by rw [beq_iff_eq, decide_eq_true_eq]; have := dd.out; omega)), hl⟩
    case rest =>
      obtain ⟨rfl, hl⟩ := hcut
      replace kP := (hl.block P (Array.getElem?_eq_some_iff.1 kP).1).trans kP
      replace kQ := (hl.block Q (Array.getElem?_eq_some_iff.1 kQ).1).trans kQ
      replace hl5 := hl5.trans hl
      clear hl
      have m0 : wc.cell? ⟨P, 0, none⟩ = some (.int .i64 k) := cell_of_row wc _ 0 _ _ _ kP
      have m1 : wc.cell? ⟨P, 1, none⟩ = some (.int .u32 eN) := cell_of_row wc _ 1 _ _ _ kP
      have m2 : wc.cell? ⟨P, 2, none⟩ = some (.int .i64 eB) := cell_of_row wc _ 2 _ _ _ kP
      have m3 : wc.cell? ⟨P, 3, none⟩ = some (.slice am nm cm) := cell_of_row wc _ 3 _ _ _ kP
      have m4 : wc.cell? ⟨P, 4, none⟩ = some (.int .i64 fr) := cell_of_row wc _ 4 _ _ _ kP
      have m5 : wc.cell? ⟨P, 5, none⟩ = some (.int .i64 ro) := cell_of_row wc _ 5 _ _ _ kP
      have m6 : wc.cell? ⟨P, 6, none⟩ = some (.int .i64 mf) := cell_of_row wc _ 6 _ _ _ kP
      have m7 : wc.cell? ⟨P, 7, none⟩ = some (.int .i64 mt) := cell_of_row wc _ 7 _ _ _ kP
      have m8 : wc.cell? ⟨P, 8, none⟩ = some (.int .i64 sf) := cell_of_row wc _ 8 _ _ _ kP
      have m9 : wc.cell? ⟨P, 9, none⟩ = some (.int .i64 st) := cell_of_row wc _ 9 _ _ _ kP
      have m10 : wc.cell? ⟨P, 10, none⟩ = some (.slice ad nd cd) := cell_of_row wc _ 10 _ _ _ kP
      have v0 : wc.cell? ⟨Q, 0, none⟩ = some (.int .i64 ro) := cell_of_row wc _ 0 _ _ _ kQ
      have v1 : wc.cell? ⟨Q, 1, none⟩ = some (.int .i64 mf) := cell_of_row wc _ 1 _ _ _ kQ
      have v2 : wc.cell? ⟨Q, 2, none⟩ = some (.int .i64 mt) := cell_of_row wc _ 2 _ _ _ kQ
      have v3 : wc.cell? ⟨Q, 3, none⟩ = some (.int .i64 sf) := cell_of_row wc _ 3 _ _ _ kQ
      have v4 : wc.cell? ⟨Q, 4, none⟩ = some (.int .i64 st) := cell_of_row wc _ 4 _ _ _ kQ
      clear kP kQ
      have hall : Hid ((0 ≤ eB ∧ eB ≤ 63) ∧ (0 ≤ fr ∧ fr ≤ 1000)) := Lib.hid ⟨c1.out, by have := c2.out; omega⟩
      have zz : (Z = true ∧ Hid (ro = 0 ∧ mf = 0 ∧ mt = 0 ∧ sf = 0 ∧ st = 0 ∧ nd = 0)) ∨ (Z = false ∧ Hid (¬ (ro = 0 ∧ mf = 0 ∧ mt = 0 ∧ sf = 0 ∧ st = 0 ∧ nd = 0))) := by
        have h := hZ.out
        cases Z with
        | true => exact .inl ⟨rfl, Lib.hid (of_decide_eq_true h)⟩
        | false => exact .inr ⟨rfl, Lib.hid (of_decide_eq_false h)⟩
      have yy : (Y = true ∧ Hid ((0 ≤ mf ∧ mf ≤ 63) ∧ ((0 ≤ sf ∧ sf ≤ st) ∧ st ≤ 4096) ∧ nd ≤ 70000 ∧ nm = 0)) ∨ (Y = false ∧ Hid (¬ ((0 ≤ mf ∧ mf ≤ 63) ∧ ((0 ≤ sf ∧ sf ≤ st) ∧ st ≤ 4096) ∧ nd ≤ 70000 ∧ nm = 0))) := by
        have h := hY.out
        cases Y with
        | true => exact .inl ⟨rfl, Lib.hid (of_decide_eq_true h)⟩
        | false => exact .inr ⟨rfl, Lib.hid (of_decide_eq_false h)⟩
      clear hZ hY c1 c2 g1 g2
      have hl5' := Lib.hid hl5
      by_cases k1 : k = 1
      · subst k1
        clear yy
        go_wp2_with fail
        refine (HL.out wc hl5).mono ?_
        rintro e w' ⟨rfl, rfl⟩
        clear hl5
        rcases zz with ⟨rfl, hz⟩ | ⟨rfl, hz⟩
        · cases R with
          | false =>
            go_wp2_with fail
            all_goals
              go_ret
              refine ⟨?_, hl5'.out⟩
              have hh := hall.out
              have hz' := hz.out
              (try simp only [beq_iff_eq, beq_eq_false_iff_ne, ne_eq] at *)
              first
                | exact ret_bool (decide_eq_false (by unfold MayM; rw [show true.toNat = 1 from rfl]; omega)).symm
                | exact ret_bool (decide_eq_false (by unfold MayM; rw [show false.toNat = 0 from rfl]; omega)).symm
                | exact ret_bool (decide_eq_true (by unfold MayM; rw [show true.toNat = 1 from rfl]; omega)).symm
                | exact ret_bool (Bool.eq_iff_iff.2 (by rw [beq_iff_eq, decide_eq_true_eq]; unfold MayM; rw [show true.toNat = 1 from rfl]; omega))
                | trace_state
          | true =>
            go_wp2_with fail
            all_goals
              go_ret
              refine ⟨?_, hl5'.out⟩
              have hh := hall.out
              have hz' := hz.out
              (try simp only [beq_iff_eq, beq_eq_false_iff_ne, ne_eq] at *)
              first
                | exact ret_bool (decide_eq_false (by unfold MayM; rw [show true.toNat = 1 from rfl]; omega)).symm
                | exact ret_bool (decide_eq_false (by unfold MayM; rw [show false.toNat = 0 from rfl]; omega)).symm
                | exact ret_bool (decide_eq_true (by unfold MayM; rw [show true.toNat = 1 from rfl]; omega)).symm
                | exact ret_bool (Bool.eq_iff_iff.2 (by rw [beq_iff_eq, decide_eq_true_eq]; unfold MayM; rw [show true.toNat = 1 from rfl]; omega))
                | trace_state
        · cases R with
          | false =>
            go_wp2_with fail
            all_goals
              go_ret
              refine ⟨?_, hl5'.out⟩
              have hh := hall.out
              have hz' := hz.out
              (try simp only [beq_iff_eq, beq_eq_false_iff_ne, ne_eq] at *)
              first
                | exact ret_bool (decide_eq_false (by unfold MayM; rw [show true.toNat = 1 from rfl]; omega)).symm
                | exact ret_bool (decide_eq_false (by unfold MayM; rw [show false.toNat = 0 from rfl]; omega)).symm
                | exact ret_bool (decide_eq_true (by unfold MayM; rw [show true.toNat = 1 from rfl]; omega)).symm
                | exact ret_bool (Bool.eq_iff_iff.2 (by rw [beq_iff_eq, decide_eq_true_eq]; unfold MayM; rw [show true.toNat = 1 from rfl]; omega))
                | trace_state
          | true =>
            go_wp2_with fail
            all_goals
              go_ret
              refine ⟨?_, hl5'.out⟩
              have hh := hall.out
              have hz' := hz.out
              (try simp only [beq_iff_eq, beq_eq_false_iff_ne, ne_eq] at *)
              first
                | exact ret_bool (decide_eq_false (by unfold MayM; rw [show true.toNat = 1 from rfl]; omega)).symm
                | exact ret_bool (decide_eq_false (by unfold MayM; rw [show false.toNat = 0 from rfl]; omega)).symm
                | exact ret_bool (decide_eq_true (by unfold MayM; rw [show true.toNat = 1 from rfl]; omega)).symm
                | exact ret_bool (Bool.eq_iff_iff.2 (by rw [beq_iff_eq, decide_eq_true_eq]; unfold MayM; rw [show true.toNat = 1 from rfl]; omega))
                | trace_state
      · clear hl5 HL
        rcases zz with ⟨rfl, hz⟩ | ⟨rfl, hz⟩
        · rcases yy with ⟨rfl, hy⟩ | ⟨rfl, hy⟩
          · by_cases k4 : k = 4
            · subst k4
              by_cases d1 : Hid (0 ≤ mt ∧ mt ≤ 63)
              case neg =>
                replace d1 : Hid (¬ (0 ≤ mt ∧ mt ≤ 63)) := Lib.hid fun h => d1 (Lib.hid h)
                go_wp2_with fail
                refine (node_not d1.out _).mono ?_
                rintro e w' ⟨rfl, rfl⟩
                go_wp2_with fail
                all_goals
                  go_ret
                  refine ⟨?_, hl5'.out⟩
                  have hh := hall.out
                  have hz' := hz.out
                  have hy' := hy.out
                  (try have hd := d1.out)
                  (try simp only [beq_iff_eq, beq_eq_false_iff_ne, ne_eq] at *)
                  first
                    | exact ret_bool (decide_eq_false (by unfold MayM; omega)).symm
                    | exact ret_bool (decide_eq_true (by unfold MayM; omega)).symm
                    | exact ret_bool (Bool.eq_iff_iff.2 (by rw [beq_iff_eq, decide_eq_true_eq]; unfold MayM; omega))
                    | exact ret_bool (Bool.eq_iff_iff.2 (by rw [decide_eq_true_eq, decide_eq_true_eq]; unfold MayM; omega))
                    | trace_state
              case pos =>
                go_wp2_with fail
                refine (node_yes d1.out _).mono ?_
                rintro e w' ⟨rfl, rfl⟩
                go_wp2_with fail
                all_goals
                  go_ret
                  refine ⟨?_, hl5'.out⟩
                  have hh := hall.out
                  have hz' := hz.out
                  have hy' := hy.out
                  (try have hd := d1.out)
                  (try simp only [beq_iff_eq, beq_eq_false_iff_ne, ne_eq] at *)
                  first
                    | exact ret_bool (decide_eq_false (by unfold MayM; omega)).symm
                    | exact ret_bool (decide_eq_true (by unfold MayM; omega)).symm
                    | exact ret_bool (Bool.eq_iff_iff.2 (by rw [beq_iff_eq, decide_eq_true_eq]; unfold MayM; omega))
                    | exact ret_bool (Bool.eq_iff_iff.2 (by rw [decide_eq_true_eq, decide_eq_true_eq]; unfold MayM; omega))
                    | trace_state
            · go_wp2_with fail
              all_goals
                go_ret
                refine ⟨?_, hl5'.out⟩
                have hh := hall.out
                have hz' := hz.out
                have hy' := hy.out
                (try have hd := d1.out)
                (try simp only [beq_iff_eq, beq_eq_false_iff_ne, ne_eq] at *)
                first
                  | exact ret_bool (decide_eq_false (by unfold MayM; omega)).symm
                  | exact ret_bool (decide_eq_true (by unfold MayM; omega)).symm
                  | exact ret_bool (Bool.eq_iff_iff.2 (by rw [beq_iff_eq, decide_eq_true_eq]; unfold MayM; omega))
                  | exact ret_bool (Bool.eq_iff_iff.2 (by rw [decide_eq_true_eq, decide_eq_true_eq]; unfold MayM; omega))
                  | trace_state
          · go_wp2_with fail
            all_goals
              go_ret
              refine ⟨?_, hl5'.out⟩
              have hh := hall.out
              have hz' := hz.out
              have hy' := hy.out
              (try have hd := d1.out)
              (try simp only [beq_iff_eq, beq_eq_false_iff_ne, ne_eq] at *)
              first
                | exact ret_bool (decide_eq_false (by unfold MayM; omega)).symm
                | exact ret_bool (decide_eq_true (by unfold MayM; omega)).symm
                | exact ret_bool (Bool.eq_iff_iff.2 (by rw [beq_iff_eq, decide_eq_true_eq]; unfold MayM; omega))
                | exact ret_bool (Bool.eq_iff_iff.2 (by rw [decide_eq_true_eq, decide_eq_true_eq]; unfold MayM; omega))
                | trace_state
        · rcases yy with ⟨rfl, hy⟩ | ⟨rfl, hy⟩
          · by_cases k4 : k = 4
            · subst k4
              by_cases d1 : Hid (0 ≤ mt ∧ mt ≤ 63)
              case neg =>
                replace d1 : Hid (¬ (0 ≤ mt ∧ mt ≤ 63)) := Lib.hid fun h => d1 (Lib.hid h)
                go_wp2_with fail
                refine (node_not d1.out _).mono ?_
                rintro e w' ⟨rfl, rfl⟩
                go_wp2_with fail
                all_goals
                  go_ret
                  refine ⟨?_, hl5'.out⟩
                  have hh := hall.out
                  have hz' := hz.out
                  have hy' := hy.out
                  (try have hd := d1.out)
                  (try simp only [beq_iff_eq, beq_eq_false_iff_ne, ne_eq] at *)
                  first
                    | exact ret_bool (decide_eq_false (by unfold MayM; omega)).symm
                    | exact ret_bool (decide_eq_true (by unfold MayM; omega)).symm
                    | exact ret_bool (Bool.eq_iff_iff.2 (by rw [beq_iff_eq, decide_eq_true_eq]; unfold MayM; omega))
                    | exact ret_bool (Bool.eq_iff_iff.2 (by rw [decide_eq_true_eq, decide_eq_true_eq]; unfold MayM; omega))
                    | trace_state
              case pos =>
                go_wp2_with fail
                refine (node_yes d1.out _).mono ?_
                rintro e w' ⟨rfl, rfl⟩
                go_wp2_with fail
                all_goals
                  go_ret
                  refine ⟨?_, hl5'.out⟩
                  have hh := hall.out
                  have hz' := hz.out
                  have hy' := hy.out
                  (try have hd := d1.out)
                  (try simp only [beq_iff_eq, beq_eq_false_iff_ne, ne_eq] at *)
                  first
                    | exact ret_bool (decide_eq_false (by unfold MayM; omega)).symm
                    | exact ret_bool (decide_eq_true (by unfold MayM; omega)).symm
                    | exact ret_bool (Bool.eq_iff_iff.2 (by rw [beq_iff_eq, decide_eq_true_eq]; unfold MayM; omega))
                    | exact ret_bool (Bool.eq_iff_iff.2 (by rw [decide_eq_true_eq, decide_eq_true_eq]; unfold MayM; omega))
                    | trace_state
            · go_wp2_with fail
              all_goals
                go_ret
                refine ⟨?_, hl5'.out⟩
                have hh := hall.out
                have hz' := hz.out
                have hy' := hy.out
                (try have hd := d1.out)
                (try simp only [beq_iff_eq, beq_eq_false_iff_ne, ne_eq] at *)
                first
                  | exact ret_bool (decide_eq_false (by unfold MayM; omega)).symm
                  | exact ret_bool (decide_eq_true (by unfold MayM; omega)).symm
                  | exact ret_bool (Bool.eq_iff_iff.2 (by rw [beq_iff_eq, decide_eq_true_eq]; unfold MayM; omega))
                  | exact ret_bool (Bool.eq_iff_iff.2 (by rw [decide_eq_true_eq, decide_eq_true_eq]; unfold MayM; omega))
                  | trace_state
          · go_wp2_with fail
            all_goals
              go_ret
              refine ⟨?_, hl5'.out⟩
              have hh := hall.out
              have hz' := hz.out
              have hy' := hy.out
              (try have hd := d1.out)
              (try simp only [beq_iff_eq, beq_eq_false_iff_ne, ne_eq] at *)
              first
                | exact ret_bool (decide_eq_false (by unfold MayM; omega)).symm
                | exact ret_bool (decide_eq_true (by unfold MayM; omega)).symm
                | exact ret_bool (Bool.eq_iff_iff.2 (by rw [beq_iff_eq, decide_eq_true_eq]; unfold MayM; omega))
                | exact ret_bool (Bool.eq_iff_iff.2 (by rw [decide_eq_true_eq, decide_eq_true_eq]; unfold MayM; omega))
                | trace_state
end Go.Proofs.Ytjelfiljebamgaa
