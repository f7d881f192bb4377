/-
  Chapter 21's law PieceAgain: its walk.
-/
import Derived.Test.YtjelfiljebamgaaPcI
namespace Go.Proofs.Ytjelfiljebamgaa
open Go.RowKit Go.Shelf
set_option linter.unusedVariables false
set_option linter.unusedSimpArgs false
attribute [local go_sem] Oper.semAt_some

theorem wrL_byt {id at_ of : Int} {D : List Int} (h : May id at_ of D.length) (hid : 0 ≤ id) (hD : Byt D) : Byt (wrL id at_ of D) := by
  obtain ⟨h1, h2, h3, h4, h5, h6⟩ := h
  unfold wrL
  exact ((((fm_byt (by omega)).append (fm_byt (by omega))).append (fm_byt (by omega))).append (fm_byt (by omega))).append hD
theorem back_yes {v : Value} {B : List Int} {W : World} (hv : BytV W v B) (hb : B.length ≤ 1000000) (hR : RdOk B) :
    ∃ (I a o : Int) (E : List Int), Byt E ∧ (Calls Try.prog 13 #[v] W fun e w' => ∃ uD, e = .returned (.tuple #[pcV I a o uD, .int .i64 0]) ∧ w'.ownsRow W.heap.size 5 1 uD E.length (encB E) ∧ Later W w') ∧
      ∀ Y x, BytV Y x E → Calls Try.prog 11 #[pcV I a o x] Y fun e w' => ∃ d, e = .returned (.tuple #[d, .int .i64 0]) ∧ w'.ownsRow Y.heap.size 5 1 d B.length (encB B) ∧ Later Y w' := by
  refine ⟨_, _, _, _, ?_, read_yes v B W hv hb hR, fun Y x hx => ?_⟩
  · have h3 : Byt (rd3 B).2.1 := rU_byt _ _ _ (rU_byt _ _ _ (rU_byt _ _ _ hv.1))
    exact rT_byt _ _ _ h3
  · have h := write_yes (rd1 B).1 (rd3 B).1 (((rd2 B).1 : Int) + 1) x (rd4 B).1 Y hx hR.2 (by omega)
    rw [write_read hv.1 hR] at h
    exact h
set_option maxRecDepth 100000 in
set_option maxHeartbeats 2000000 in
theorem again_walk (id at_ of : Int) (u : Value) (D : List Int) (v : Value) (B : List Int) (W : World) (hid : 0 ≤ id) (hu : BytV W u D) (hv : BytV W v B) :
    Calls Try.prog 4 #[pcV id at_ of u, v] W fun e w' => e = .returned (.bool true) ∧ Later W w' := by
  obtain ⟨aD, cD, hue⟩ := bytV_form hu
  obtain ⟨aB, cB, hve⟩ := bytV_form hv
  obtain ⟨nD, hnD⟩ : ∃ n, Hid (D.length = n) := ⟨_, rfl⟩
  obtain ⟨nB, hnB⟩ : ∃ n, Hid (B.length = n) := ⟨_, rfl⟩
  rw [hnD.out] at hue
  rw [hnB.out] at hve
  have hX0 : Later W (W.alloc (.cells #[.int .u64 id, .int .i64 at_, .int .i64 of, u] 25)) := (Later.refl _).alloc _
  have k0 := push_new W (.cells #[.int .u64 id, .int .i64 at_, .int .i64 of, u] 25) rfl
  have hu0 := Lib.hid (hu.later hX0)
  have hv0 := Lib.hid (hv.later hX0)
  clear hu hv
  subst hue
  subst hve
  go_enter Try.func4, Try.ntmps4
  go_wp2_with fail
  refine (alive_any _).mono ?_
  rintro e w1 ⟨rfl, h1⟩
  have k1 := (h1.block _ (Array.getElem?_eq_some_iff.1 k0).1).trans k0
  have hsz1 := h1.size
  have hs1 : W.heap.size < w1.heap.size := (Array.getElem?_eq_some_iff.1 k1).1
  have hW1 := hX0.trans h1
  have hu1 := Lib.hid (hu0.out.later h1)
  have hv1 := Lib.hid (hv0.out.later h1)
  obtain ⟨P, hP⟩ : ∃ P, Hid (W.heap.size = P) := ⟨_, rfl⟩
  rw [hP.out] at k1 hs1 ⊢
  clear hu0 hv0 hX0 k0 h1 hsz1
  have p0 : w1.cell? ⟨P, 0, none⟩ = some (.int .u64 id) := cell_of_row _ _ 0 _ _ _ k1
  have p1 : w1.cell? ⟨P, 1, none⟩ = some (.int .i64 at_) := cell_of_row _ _ 1 _ _ _ k1
  have p2 : w1.cell? ⟨P, 2, none⟩ = some (.int .i64 of) := cell_of_row _ _ 2 _ _ _ k1
  have p3 : w1.cell? ⟨P, 3, none⟩ = some (.slice aD nD cD) := cell_of_row _ _ 3 _ _ _ k1
  by_cases hs : ¬ (nD ≤ 1000 ∧ nB ≤ 1500)
  · have hor : (decide ((1000 : Int) < nD) || decide ((1500 : Int) < nB)) = true := by
      rw [Bool.or_eq_true, decide_eq_true_eq, decide_eq_true_eq]; omega
    go_wp2_with fail
    all_goals
      go_ret
      exact ⟨rfl, hW1⟩
  · rw [Classical.not_not] at hs
    have d1 : decide ((1000 : Int) < nD) = false := decide_eq_false (by omega)
    have d2 : decide ((1500 : Int) < nB) = false := decide_eq_false (by omega)
    go_wp2_with fail
    by_cases hM : May id at_ of D.length
    · refine (write_yes id at_ of _ D w1 hu1.out hM hid).mono ?_
      rintro e w2 ⟨c, rfl, hrc, h2⟩
      have hRW := read_write hM hid
      have hcl := wrL_length hM hid
      obtain ⟨nC, hnC⟩ : ∃ n, Hid ((wrL id at_ of D).length = n) := ⟨_, rfl⟩
      obtain ⟨hvc, -⟩ := bytV_of_row (wrL_byt hM hid hu1.out.1) hrc
      rw [hnC.out] at hrc hcl
      obtain ⟨ac, cc, rfl⟩ := own_form hrc
      have d3 : decide ((900 : Int) < nC) = false := decide_eq_false (by omega)
      go_wp2_with fail
      refine (read_yes _ _ _ hvc (by rw [hnC.out]; omega) hRW.1).mono ?_
      rintro e w3 ⟨uD, rfl, hr3, h3⟩
      rw [hRW.2.1, hRW.2.2.1, hRW.2.2.2.1]
      rw [hRW.2.2.2.2] at hr3
      obtain ⟨q1, q2, q3, rfl⟩ : ∃ m a q, uD = .slice a m q := by
        obtain ⟨a, c, h⟩ := own_form hr3
        exact ⟨_, a, c, h⟩
      have h13 := (h2.trans h3).trans ((Later.refl w3).alloc (.cells #[.int .u64 id, .int .i64 at_, .int .i64 of, .slice q2 q1 q3] 25))
      have r0 := h13.cell p0
      have r1 := h13.cell p1
      have r2 := h13.cell p2
      have r3 := h13.cell p3
      have sq : (convert 23 9 (.slice q2 q1 q3)).run Try.prog (w3.alloc (.cells #[.int .u64 id, .int .i64 at_, .int .i64 of, .slice q2 q1 q3] 25)) = .ok (.string (strOfNums D)) (w3.alloc (.cells #[.int .u64 id, .int .i64 at_, .int .i64 of, .slice q2 q1 q3] 25)) := bytV_string ((bytV_of_row hu1.out.1 hr3).1.later ((Later.refl _).alloc _))
      have sp : (convert 23 9 (.slice aD nD cD)).run Try.prog (w3.alloc (.cells #[.int .u64 id, .int .i64 at_, .int .i64 of, .slice q2 q1 q3] 25)) = .ok (.string (strOfNums D)) (w3.alloc (.cells #[.int .u64 id, .int .i64 at_, .int .i64 of, .slice q2 q1 q3] 25)) := bytV_string (hu1.out.later h13)
      go_wp2_with fail
      by_cases hR : RdOk B
      · obtain ⟨I, a, o, E, hE, HR, HW⟩ := back_yes (hv1.out.later h13) (by rw [hnB.out]; omega) hR
        refine HR.mono ?_
        rintro e w5 ⟨uE, rfl, hr5, h5⟩
        obtain ⟨g1, g2, g3, rfl⟩ : ∃ m a q, uE = .slice a m q := by
          obtain ⟨a, c, h⟩ := own_form hr5
          exact ⟨_, a, c, h⟩
        go_wp2_with fail
        refine (HW _ _ ((bytV_of_row hE hr5).1.later ((Later.refl _).alloc _))).mono ?_
        rintro e w7 ⟨d, rfl, hr7, h7⟩
        have hl7 := ((h13).trans h5).trans (((Later.refl w5).alloc (.cells #[.int .u64 I, .int .i64 a, .int .i64 o, .slice g2 g1 g3] 25)).trans h7)
        have sb : (convert 23 9 (.slice aB nB cB)).run Try.prog w7 = .ok (.string (strOfNums B)) w7 := bytV_string (hv1.out.later hl7)
        have sd : (convert 23 9 d).run Try.prog w7 = .ok (.string (strOfNums B)) w7 := bytV_string (bytV_of_row hv1.out.1 hr7).1
        obtain ⟨g4, g5, g6, rfl⟩ : ∃ m a q, d = .slice a m q := by
          obtain ⟨a, c, h⟩ := own_form hr7
          exact ⟨_, a, c, h⟩
        go_wp2_with fail
        go_ret
        exact ⟨rfl, hW1.trans hl7⟩
      · refine (read_no _ B _ (hv1.out.later h13) (by rw [hnB.out]; omega) hR).mono ?_
        rintro e w5 ⟨rfl, h5⟩
        go_wp2_with fail
        go_ret
        exact ⟨rfl, hW1.trans (((h13).trans h5).alloc _)⟩
    · refine (write_no id at_ of _ D w1 hu1.out hM).mono ?_
      rintro e w2 ⟨rfl, h2⟩
      go_wp2_with fail
      by_cases hR : RdOk B
      · obtain ⟨I, a, o, E, hE, HR, HW⟩ := back_yes (hv1.out.later h2) (by rw [hnB.out]; omega) hR
        refine HR.mono ?_
        rintro e w5 ⟨uE, rfl, hr5, h5⟩
        obtain ⟨g1, g2, g3, rfl⟩ : ∃ m a q, uE = .slice a m q := by
          obtain ⟨a, c, h⟩ := own_form hr5
          exact ⟨_, a, c, h⟩
        go_wp2_with fail
        refine (HW _ _ ((bytV_of_row hE hr5).1.later ((Later.refl _).alloc _))).mono ?_
        rintro e w7 ⟨d, rfl, hr7, h7⟩
        have hl7 := ((h2).trans h5).trans (((Later.refl w5).alloc (.cells #[.int .u64 I, .int .i64 a, .int .i64 o, .slice g2 g1 g3] 25)).trans h7)
        have sb : (convert 23 9 (.slice aB nB cB)).run Try.prog w7 = .ok (.string (strOfNums B)) w7 := bytV_string (hv1.out.later hl7)
        have sd : (convert 23 9 d).run Try.prog w7 = .ok (.string (strOfNums B)) w7 := bytV_string (bytV_of_row hv1.out.1 hr7).1
        obtain ⟨g4, g5, g6, rfl⟩ : ∃ m a q, d = .slice a m q := by
          obtain ⟨a, c, h⟩ := own_form hr7
          exact ⟨_, a, c, h⟩
        go_wp2_with fail
        go_ret
        exact ⟨rfl, hW1.trans hl7⟩
      · refine (read_no _ B _ (hv1.out.later h2) (by rw [hnB.out]; omega) hR).mono ?_
        rintro e w5 ⟨rfl, h5⟩
        go_wp2_with fail
        go_ret
        exact ⟨rfl, hW1.trans (((h2).trans h5).alloc _)⟩
end Go.Proofs.Ytjelfiljebamgaa
