/-
  Chapter 28's law NodeAgain: its walk.
-/
import Derived.Test.YtjelfiljebamgaaNdN
namespace Go.Proofs.Ytjelfiljebamgaa
open Go.RowKit Go.Shelf
set_option linter.unusedVariables false
set_option linter.unusedSimpArgs false
attribute [local go_sem] Oper.semAt_some

set_option maxRecDepth 100000 in
theorem part_any (W : World) : Calls Try.prog 76 #[] W fun e w' => ∃ a m q, e = .returned (mC.V (.slice none 0 0) (.slice a m q)) ∧ BytV w' (.slice a m q) [97, 98] ∧ Later W w' := by
  have hcv := Lib.run_convert_bytes_const (P := Try.prog) (W.alloc (.cells #[.int .i64 0, .int .u32 0, .int .i64 0, .slice none 0 0, .int .i64 0, .int .i64 0, .int .i64 0, .int .i64 0, .int .i64 0, .int .i64 0, .slice none 0 0] 88)) 23 5 #[.int .u8 97, .int .u8 98] 2 2 Try.underlying23 Try.underlying5
  rw [show (W.alloc (.cells #[.int .i64 0, .int .u32 0, .int .i64 0, .slice none 0 0, .int .i64 0, .int .i64 0, .int .i64 0, .int .i64 0, .int .i64 0, .int .i64 0, .slice none 0 0] 88)).heap.size = W.heap.size + 1 from by simp] at hcv
  have hu : BytV ((W.alloc (.cells #[.int .i64 0, .int .u32 0, .int .i64 0, .slice none 0 0, .int .i64 0, .int .i64 0, .int .i64 0, .int .i64 0, .int .i64 0, .int .i64 0, .slice none 0 0] 88)).alloc (.cells #[.int .u8 97, .int .u8 98] 5 (2, 3))) (.slice (some ⟨W.heap.size + 1, 0, none⟩) 2 2) [97, 98] := by
    refine ⟨by intro x hx; simp at hx; omega, _, _, rfl, ⟨Nat.le_refl _, fun e => by cases e⟩, fun k hk => ⟨_, 0, rfl, ?_⟩⟩
    have hk2 : k < 2 := hk
    rw [Nat.zero_add, cell_of_row' (push_new (W.alloc (.cells #[.int .i64 0, .int .u32 0, .int .i64 0, .slice none 0 0, .int .i64 0, .int .i64 0, .int .i64 0, .int .i64 0, .int .i64 0, .int .i64 0, .slice none 0 0] 88)) (.cells #[.int .u8 97, .int .u8 98] 5 (2, 3)) (by simp))]
    rcases (show k = 0 ∨ k = 1 by omega) with rfl | rfl <;> rfl
  have hl : Later W ((W.alloc (.cells #[.int .i64 0, .int .u32 0, .int .i64 0, .slice none 0 0, .int .i64 0, .int .i64 0, .int .i64 0, .int .i64 0, .int .i64 0, .int .i64 0, .slice none 0 0] 88)).alloc (.cells #[.int .u8 97, .int .u8 98] 5 (2, 3))) := ((Later.refl _).alloc _).alloc _
  have z0 : ((W.alloc (.cells #[.int .i64 0, .int .u32 0, .int .i64 0, .slice none 0 0, .int .i64 0, .int .i64 0, .int .i64 0, .int .i64 0, .int .i64 0, .int .i64 0, .slice none 0 0] 88)).alloc (.cells #[.int .u8 97, .int .u8 98] 5 (2, 3))).heap[W.heap.size]? = some (.cells #[.int .i64 0, .int .u32 0, .int .i64 0, .slice none 0 0, .int .i64 0, .int .i64 0, .int .i64 0, .int .i64 0, .int .i64 0, .int .i64 0, .slice none 0 0] 88 (0, 0)) := push_old (heap_alloc_new _ _)
  obtain ⟨X, hX⟩ : ∃ X, X = (W.alloc (.cells #[.int .i64 0, .int .u32 0, .int .i64 0, .slice none 0 0, .int .i64 0, .int .i64 0, .int .i64 0, .int .i64 0, .int .i64 0, .int .i64 0, .slice none 0 0] 88)).alloc (.cells #[.int .u8 97, .int .u8 98] 5 (2, 3)) := ⟨_, rfl⟩
  have hcv2 : (convert 23 23 (.slice (some ⟨W.heap.size + 1, 0, none⟩) 2 2)).run Try.prog ((W.alloc (.cells #[.int .i64 0, .int .u32 0, .int .i64 0, .slice none 0 0, .int .i64 0, .int .i64 0, .int .i64 0, .int .i64 0, .int .i64 0, .int .i64 0, .slice none 0 0] 88)).alloc (.cells #[.int .u8 97, .int .u8 98] 5)) = .ok (.slice (some ⟨W.heap.size + 1, 0, none⟩) 2 2) X := by rw [hX]; exact hcv
  rw [← hX] at hu hl z0
  clear hcv hX
  have c0 : X.cell? ⟨W.heap.size, 0, none⟩ = some _ := cell_of_row X _ 0 _ _ _ z0
  have c1 : X.cell? ⟨W.heap.size, 1, none⟩ = some _ := cell_of_row X _ 1 _ _ _ z0
  have c2 : X.cell? ⟨W.heap.size, 2, none⟩ = some _ := cell_of_row X _ 2 _ _ _ z0
  have c3 : X.cell? ⟨W.heap.size, 3, none⟩ = some _ := cell_of_row X _ 3 _ _ _ z0
  have c4 : X.cell? ⟨W.heap.size, 4, none⟩ = some _ := cell_of_row X _ 4 _ _ _ z0
  have c5 : X.cell? ⟨W.heap.size, 5, none⟩ = some _ := cell_of_row X _ 5 _ _ _ z0
  have c6 : X.cell? ⟨W.heap.size, 6, none⟩ = some _ := cell_of_row X _ 6 _ _ _ z0
  have c7 : X.cell? ⟨W.heap.size, 7, none⟩ = some _ := cell_of_row X _ 7 _ _ _ z0
  have c8 : X.cell? ⟨W.heap.size, 8, none⟩ = some _ := cell_of_row X _ 8 _ _ _ z0
  have c9 : X.cell? ⟨W.heap.size, 9, none⟩ = some _ := cell_of_row X _ 9 _ _ _ z0
  have c10 : X.cell? ⟨W.heap.size, 10, none⟩ = some _ := cell_of_row X _ 10 _ _ _ z0
  have y0 := frozen_row z0 0
  have y1 := frozen_row z0 1
  have y2 := frozen_row z0 2
  have y3 := frozen_row z0 3
  have y4 := frozen_row z0 4
  have y5 := frozen_row z0 5
  have y6 := frozen_row z0 6
  have y7 := frozen_row z0 7
  have y8 := frozen_row z0 8
  have y9 := frozen_row z0 9
  have y10 := frozen_row z0 10
  replace hu := Lib.hid hu
  replace hl := Lib.hid hl
  clear z0
  go_enter Try.func76, Try.ntmps76
  go_wp2_with fail
  refine bodyPost_ret (v := mC.V (.slice none 0 0) (.slice (some ⟨W.heap.size + 1, 0, none⟩) 2 2)) ?_ rfl ?_
  · simp only [results]
    go_simp
    exact ⟨rfl, rfl, rfl, rfl, rfl, rfl, rfl, rfl, rfl⟩
  · refine ⟨_, _, _, rfl, ?_, ?_⟩
    · refine hu.out.stay (P := fun g => g = W.heap.size + 1) (fun g o s len cap e hp => by cases e; rfl) (fun g hg _ => ?_)
      have hne : g ≠ W.heap.size := by have hg : g = W.heap.size + 1 := hg; omega
      iterate 11 refine (Below.heap_setCell _ _ _ g hne).trans ?_
      rfl
    · iterate 11 refine Later.setCell ?_ (Nat.le_refl _) _
      exact hl.out
set_option maxRecDepth 100000 in
theorem alive28_any (W : World) : Calls Try.prog 40 #[] W fun e w' => e = .returned (.bool true) ∧ Later W w' := by
  have hl0 : Later W (W.alloc (.cells #[.int .i64 1, .int .i64 5] 3)) := (Later.refl _).alloc _
  have hm : IntsV (W.alloc (.cells #[.int .i64 1, .int .i64 5] 3)) (.slice (some ⟨W.heap.size, 0, none⟩) 2 2) mA.Ms := by
    refine ⟨_, _, rfl, fun k hk => ⟨_, 0, rfl, ?_⟩⟩
    have hk2 : k < 2 := hk
    rw [Nat.zero_add, cell_of_row _ _ _ _ _ _ (heap_alloc_new W _)]
    rcases (show k = 0 ∨ k = 1 by omega) with rfl | rfl <;> rfl
  have HA := Lib.hid (told_any mA _ _ _ _ hm (bytV_nil _) (by decide) mA_m (by decide) (by decide) mA_w)
  have HB := Lib.hid (fun w : World => told_any mB (.slice none 0 0) (.slice none 0 0) _ w ⟨none, 0, rfl, fun k hk => by cases hk⟩ (bytV_nil _) (by decide) mB_m (by decide) (by decide) mB_w)
  go_enter Try.func40, Try.ntmps40
  go_wp2_with fail
  refine HA.out.mono ?_
  rintro e w1 ⟨rfl, h1⟩
  go_wp2_with fail
  refine (HB.out w1).mono ?_
  rintro e w2 ⟨rfl, h2⟩
  go_wp2_with fail
  refine (part_any w2).mono ?_
  rintro e w3 ⟨a, m, q, rfl, hb, h3⟩
  have HC := Lib.hid (told_any mC (.slice none 0 0) _ _ w3 ⟨none, 0, rfl, fun k hk => by cases hk⟩ hb (by decide) mC_m (by decide) (by decide) mC_w)
  go_wp2_with fail
  refine HC.out.mono ?_
  rintro e w4 ⟨rfl, h4⟩
  go_wp2_with fail
  go_ret
  exact ⟨rfl, (((hl0.trans h1).trans h2).trans h3).trans h4⟩
theorem fin_some' {m m' : Msg} {L : List Int} {lost : Bool} (h : fin m L lost = some m') : m = m' ∧ m.May := by
  unfold fin at h
  split at h
  · rename_i hc
    exact ⟨Option.some.inj h, hc.2⟩
  · cases h
theorem rdT_some' {k : Int} {n y f r s t : Nat} {L : List Int} {lost : Bool} {m : Msg} (hb : Byt L) (h : rdT k n y f r s t L lost = some m) : m.May ∧ Byt m.D := by
  obtain ⟨e, hm⟩ := fin_some' h
  exact ⟨e ▸ hm, e ▸ rT_byt _ _ _ (rU_byt _ _ _ (rU_byt _ _ _ hb))⟩
theorem rdM_some' {b : List Int} {m : Msg} (hb : Byt b) (h : rdM b = some m) : m.May ∧ Byt m.D := by
  have nb : Byt ([] : List Int) := fun x hx => by simp at hx
  have h3 : Byt (rU 63 (rU 4294967295 (rU 6 b false).2.1 (rU 6 b false).2.2).2.1 (rU 4294967295 (rU 6 b false).2.1 (rU 6 b false).2.2).2.2).2.1 := rU_byt _ _ _ (rU_byt _ _ _ (rU_byt _ _ _ hb))
  unfold rdM rdBM at h
  split at h
  · obtain ⟨e, hm⟩ := fin_some' h
    exact ⟨e ▸ hm, e ▸ nb⟩
  · unfold rdFM at h
    have h4 := rU_byt 1000 _ (rU 63 (rU 4294967295 (rU 6 b false).2.1 (rU 6 b false).2.2).2.1 (rU 4294967295 (rU 6 b false).2.1 (rU 6 b false).2.2).2.2).2.2 h3
    split at h
    · exact rdT_some' (rU_byt _ _ _ (rU_byt _ _ _ (rU_byt _ _ _ h4))) h
    · split at h
      · exact rdT_some' (rU_byt _ _ _ h4) h
      · obtain ⟨e, hm⟩ := fin_some' h
        exact ⟨e ▸ hm, e ▸ nb⟩
theorem may_len' {m : Msg} (h : m.May) : m.Ms.length ≤ 1000000 ∧ m.D.length ≤ 70000 := by
  obtain ⟨_, _, _, _, hD, _, _, _, _, _, _, _, _, _, _, hk⟩ := h
  refine ⟨?_, hD⟩
  rcases hk with ⟨_, hr, _⟩ | ⟨_, h0, _⟩ | ⟨_, h0⟩ | ⟨_, h0, _⟩
  · have hRt : risen (-1) m.Ms = true := by
      cases hh : risen (-1) m.Ms with
      | true => rfl
      | false => rw [hh] at hr; cases hr
    have := risen_len hRt (by omega) (by omega)
    omega
  · omega
  · omega
  · omega
theorem rdM_byt {b : List Int} {m : Msg} (hb : Byt b) (h : rdM b = some m) : Byt m.D := (rdM_some' hb h).2
theorem msg_write_no (m : Msg) (um ud : Value) (W : World) (hm : IntsV W um m.Ms) (hd : BytV W ud m.D) (hM : ¬ m.May) (hml : m.Ms.length ≤ 1000000) (hdl : m.D.length ≤ 1000000) :
    Calls Try.prog 35 #[m.V um ud] W fun e w' => e = .returned (.tuple #[.slice none 0 0, .int .i64 281]) ∧ Later W w' :=
  writeM_no m.k m.eN m.eB um m.fr m.ro m.mf m.mt m.sf m.st ud m.Ms m.D W hm hd hml hdl hM
set_option maxRecDepth 100000 in
set_option maxHeartbeats 4000000 in
theorem nagain_walk (m : Msg) (um ud v : Value) (B : List Int) (W : World) (hN : 0 ≤ m.eN ∧ m.eN ≤ 4294967295) (hm : IntsV W um m.Ms) (hd : BytV W ud m.D) (hv : BytV W v B) :
    Calls Try.prog 10 #[m.V um ud, v] W fun e w' => e = .returned (.bool true) ∧ Later W w' := by
  obtain ⟨am, cm, hume⟩ := intsV_form hm
  obtain ⟨ad, cd, hude⟩ := bytV_form hd
  obtain ⟨aB, cB, hve⟩ := bytV_form hv
  obtain ⟨nM, hnM⟩ : ∃ n, Hid (m.Ms.length = n) := ⟨_, rfl⟩
  obtain ⟨nD, hnD⟩ : ∃ n, Hid (m.D.length = n) := ⟨_, rfl⟩
  obtain ⟨nB, hnB⟩ : ∃ n, Hid (B.length = n) := ⟨_, rfl⟩
  rw [hnM.out] at hume
  rw [hnD.out] at hude
  rw [hnB.out] at hve
  subst hume hude hve
  obtain ⟨X0, hX0⟩ : ∃ X, X = W.alloc (.cells (m.C (.slice am nM cm) (.slice ad nD cd)) 88) := ⟨_, rfl⟩
  have hl0 : Later W X0 := by rw [hX0]; exact (Later.refl _).alloc _
  have k0 : X0.heap[W.heap.size]? = some (.cells (m.C (.slice am nM cm) (.slice ad nD cd)) 88 (0, 0)) := by rw [hX0]; exact push_new W _ rfl
  have hm0 := Lib.hid (hm.later hl0)
  have hd0 := Lib.hid (hd.later hl0)
  have hv0 := Lib.hid (hv.later hl0)
  clear hm hd hv
  go_enter Try.func10, Try.ntmps10
  go_upto_region 1 with fail
  change Code.wp _ _ _ _ (W.alloc (.cells (m.C (.slice am nM cm) (.slice ad nD cd)) 88))
  rw [← hX0]
  obtain ⟨P, hP⟩ : ∃ P, Hid (W.heap.size = P) := ⟨_, rfl⟩
  rw [hP.out] at k0 ⊢
  clear hX0
  go_wp2_with fail
  refine (alive28_any X0).mono ?_
  rintro e w1 ⟨rfl, h1⟩
  have k1 := (h1.block P (Array.getElem?_eq_some_iff.1 k0).1).trans k0
  have hW1 := hl0.trans h1
  have hm1 := Lib.hid (hm0.out.later h1)
  have hd1 := Lib.hid (hd0.out.later h1)
  have hv1 := Lib.hid (hv0.out.later h1)
  clear k0 hm0 hd0 hv0 hl0 h1
  have p0 : w1.cell? ⟨P, 0, none⟩ = some _ := cell_of_row w1 _ 0 _ _ _ k1
  have p1 : w1.cell? ⟨P, 1, none⟩ = some _ := cell_of_row w1 _ 1 _ _ _ k1
  have p2 : w1.cell? ⟨P, 2, none⟩ = some _ := cell_of_row w1 _ 2 _ _ _ k1
  have p3 : w1.cell? ⟨P, 3, none⟩ = some _ := cell_of_row w1 _ 3 _ _ _ k1
  have p4 : w1.cell? ⟨P, 4, none⟩ = some _ := cell_of_row w1 _ 4 _ _ _ k1
  have p5 : w1.cell? ⟨P, 5, none⟩ = some _ := cell_of_row w1 _ 5 _ _ _ k1
  have p6 : w1.cell? ⟨P, 6, none⟩ = some _ := cell_of_row w1 _ 6 _ _ _ k1
  have p7 : w1.cell? ⟨P, 7, none⟩ = some _ := cell_of_row w1 _ 7 _ _ _ k1
  have p8 : w1.cell? ⟨P, 8, none⟩ = some _ := cell_of_row w1 _ 8 _ _ _ k1
  have p9 : w1.cell? ⟨P, 9, none⟩ = some _ := cell_of_row w1 _ 9 _ _ _ k1
  have p10 : w1.cell? ⟨P, 10, none⟩ = some _ := cell_of_row w1 _ 10 _ _ _ k1
  by_cases hs : ¬ (nM ≤ 100 ∧ nD ≤ 1000 ∧ nB ≤ 2000)
  · have hor : (decide ((100 : Int) < nM) || decide ((1000 : Int) < nD) || decide ((2000 : Int) < nB)) = true := by
      rw [Bool.or_eq_true, Bool.or_eq_true, decide_eq_true_eq, decide_eq_true_eq, decide_eq_true_eq]; omega
    go_wp2_with fail
    all_goals
      first | (exfalso; omega) | (go_ret; exact ⟨rfl, hW1⟩)
  · rw [Classical.not_not] at hs
    obtain ⟨hsM, hsD, hsB⟩ := hs
    have d1 : decide ((100 : Int) < nM) = false := decide_eq_false (by omega)
    have d2 : decide ((1000 : Int) < nD) = false := decide_eq_false (by omega)
    have d3 : decide ((2000 : Int) < nB) = false := decide_eq_false (by omega)
    have hml : m.Ms.length ≤ 1000000 := by rw [hnM.out]; omega
    have hdl : m.D.length ≤ 1000000 := by rw [hnD.out]; omega
    have hBl : B.length ≤ 1000000 := by rw [hnB.out]; omega
    replace hml := Lib.hid hml
    replace hdl := Lib.hid hdl
    replace hBl := Lib.hid hBl
    by_cases hM : m.May
    · have hWB := msg_byt hM hN hd1.out.1
      have HW := Lib.hid (msg_write m _ _ w1 hm1.out hd1.out hN hM hml.out hdl.out)
      have hRD := Lib.hid (rd_wr hM hN)
      go_wp2_with fail
      refine HW.out.mono ?_
      rintro e w2 ⟨cv, rfl, hrc, h2⟩
      obtain ⟨m2, a2, q2, rfl⟩ := row_form hrc
      have hRc := readM_any _ m.W w2 (bytV_of_row hWB.1 hrc).1 (Nat.le_trans hWB.2 (by omega))
      rw [hRD.out] at hRc
      replace hRc := Lib.hid hRc
      clear hrc HW hWB p0 p1 p2 p3 p4 p5 p6 p7 p8 p9 p10
      go_wp2_with fail
      refine hRc.out.mono ?_
      rintro e w3 ⟨⟨vm, vd, rfl, rm, rd⟩, h3⟩
      obtain ⟨xm, xam, xqm, rfl⟩ := row_form rm
      obtain ⟨xd, xad, xqd, rfl⟩ := row_form rd
      go_upto_region 7 with fail
      obtain ⟨X5, hX5⟩ : ∃ X, X = w3.alloc (.cells (m.C (.slice xam xm xqm) (.slice xad xd xqd)) 88) := ⟨_, rfl⟩
      have hl5 : Later w3 X5 := by rw [hX5]; exact (Later.refl _).alloc _
      have kd : X5.heap[w3.heap.size]? = some (.cells (m.C (.slice xam xm xqm) (.slice xad xd xqd)) 88 (0, 0)) := by rw [hX5]; exact push_new w3 _ rfl
      have hl15 := (h2.trans h3).trans hl5
      have HSm := Lib.hid (msg_same m _ _ _ _ X5 (hm1.out.later hl15) ((intsV_of_row rm).later hl5) (hd1.out.later hl15) ((bytV_of_row hd1.out.1 rd).1.later hl5) hml.out)
      have kP5 := (hl15.block P (Array.getElem?_eq_some_iff.1 k1).1).trans k1
      change Code.wp _ _ _ _ (w3.alloc (.cells (m.C (.slice xam xm xqm) (.slice xad xd xqd)) 88))
      rw [← hX5]
      obtain ⟨dd, hdd⟩ : ∃ d, Hid (w3.heap.size = d) := ⟨_, rfl⟩
      rw [hdd.out] at kd ⊢
      clear hX5 hl5 h2 h3 rm rd hRc
      have p0 : X5.cell? ⟨P, 0, none⟩ = some _ := cell_of_row X5 _ 0 _ _ _ kP5
      have p1 : X5.cell? ⟨P, 1, none⟩ = some _ := cell_of_row X5 _ 1 _ _ _ kP5
      have p2 : X5.cell? ⟨P, 2, none⟩ = some _ := cell_of_row X5 _ 2 _ _ _ kP5
      have p3 : X5.cell? ⟨P, 3, none⟩ = some _ := cell_of_row X5 _ 3 _ _ _ kP5
      have p4 : X5.cell? ⟨P, 4, none⟩ = some _ := cell_of_row X5 _ 4 _ _ _ kP5
      have p5 : X5.cell? ⟨P, 5, none⟩ = some _ := cell_of_row X5 _ 5 _ _ _ kP5
      have p6 : X5.cell? ⟨P, 6, none⟩ = some _ := cell_of_row X5 _ 6 _ _ _ kP5
      have p7 : X5.cell? ⟨P, 7, none⟩ = some _ := cell_of_row X5 _ 7 _ _ _ kP5
      have p8 : X5.cell? ⟨P, 8, none⟩ = some _ := cell_of_row X5 _ 8 _ _ _ kP5
      have p9 : X5.cell? ⟨P, 9, none⟩ = some _ := cell_of_row X5 _ 9 _ _ _ kP5
      have p10 : X5.cell? ⟨P, 10, none⟩ = some _ := cell_of_row X5 _ 10 _ _ _ kP5
      have j0 : X5.cell? ⟨dd, 0, none⟩ = some _ := cell_of_row X5 _ 0 _ _ _ kd
      have j1 : X5.cell? ⟨dd, 1, none⟩ = some _ := cell_of_row X5 _ 1 _ _ _ kd
      have j2 : X5.cell? ⟨dd, 2, none⟩ = some _ := cell_of_row X5 _ 2 _ _ _ kd
      have j3 : X5.cell? ⟨dd, 3, none⟩ = some _ := cell_of_row X5 _ 3 _ _ _ kd
      have j4 : X5.cell? ⟨dd, 4, none⟩ = some _ := cell_of_row X5 _ 4 _ _ _ kd
      have j5 : X5.cell? ⟨dd, 5, none⟩ = some _ := cell_of_row X5 _ 5 _ _ _ kd
      have j6 : X5.cell? ⟨dd, 6, none⟩ = some _ := cell_of_row X5 _ 6 _ _ _ kd
      have j7 : X5.cell? ⟨dd, 7, none⟩ = some _ := cell_of_row X5 _ 7 _ _ _ kd
      have j8 : X5.cell? ⟨dd, 8, none⟩ = some _ := cell_of_row X5 _ 8 _ _ _ kd
      have j9 : X5.cell? ⟨dd, 9, none⟩ = some _ := cell_of_row X5 _ 9 _ _ _ kd
      have j10 : X5.cell? ⟨dd, 10, none⟩ = some _ := cell_of_row X5 _ 10 _ _ _ kd
      go_wp2_with fail
      refine HSm.out.mono ?_
      rintro e w9 ⟨rfl, h9⟩
      have hl19 := hl15.trans h9
      clear p0 p1 p2 p3 p4 p5 p6 p7 p8 p9 p10 j0 j1 j2 j3 j4 j5 j6 j7 j8 j9 j10 kd kP5 hl15 h9 HSm
      have hvB := Lib.hid (hv1.out.later hl19)
      have HR := readM_any _ B w9 hvB.out hBl.out
      cases hR : rdM B with
      | none =>
        rw [hR] at HR
        replace HR := Lib.hid HR
        go_wp2_with fail
        refine HR.out.mono ?_
        rintro e w20 ⟨rfl, h20⟩
        have hz := Lib.hid (msg_same Msg.zero (.slice none 0 0) (.slice none 0 0) (.slice none 0 0) (.slice none 0 0) (w20.alloc (.cells (Msg.zero.C (.slice none 0 0) (.slice none 0 0)) 88)) ⟨none, 0, rfl, fun k hk => by cases hk⟩ ⟨none, 0, rfl, fun k hk => by cases hk⟩ (bytV_nil _) (bytV_nil _) (by decide))
        go_wp2_with fail
        refine hz.out.mono ?_
        rintro e w21 ⟨rfl, h21⟩
        go_wp2_with fail
        go_ret
        exact ⟨rfl, hW1.trans (((hl19).trans h20).trans (((Later.refl _).alloc _).trans h21))⟩
      | some m' =>
        rw [hR] at HR
        replace HR := Lib.hid HR
        obtain ⟨eW, hM', hN'⟩ := wr_rd hv1.out.1 hR
        have hlen := may_len' hM'
        have hDb := rdM_byt hv1.out.1 hR
        clear hR
        go_wp2_with fail
        refine HR.out.mono ?_
        rintro e w20 ⟨⟨vm, vd, rfl, rm, rd⟩, h20⟩
        obtain ⟨xm, xam, xqm, rfl⟩ := row_form rm
        obtain ⟨xd, xad, xqd, rfl⟩ := row_form rd
        have hl21 : Later w20 (w20.alloc (.cells (m'.C (.slice xam xm xqm) (.slice xad xd xqd)) 88)) := (Later.refl _).alloc _
        have HW' := msg_write m' _ _ (w20.alloc (.cells (m'.C (.slice xam xm xqm) (.slice xad xd xqd)) 88)) ((intsV_of_row rm).later hl21) ((bytV_of_row hDb rd).1.later hl21) hN' hM' hlen.1 (by omega)
        rw [eW] at HW'
        replace HW' := Lib.hid HW'
        clear rm rd hlen
        go_wp2_with fail
        refine HW'.out.mono ?_
        rintro e w22 ⟨dv, rfl, hrd, h22⟩
        obtain ⟨md, ad2, qd, rfl⟩ := row_form hrd
        have hlast := (h20.trans hl21).trans h22
        have t1 : (convert 23 9 (.slice ad2 md qd)).run Try.prog w22 = .ok (.string (strOfNums B)) w22 := bytV_string (bytV_of_row hv1.out.1 hrd).1
        have t2 : (convert 23 9 (.slice aB nB cB)).run Try.prog w22 = .ok (.string (strOfNums B)) w22 := bytV_string (hvB.out.later hlast)
        clear hrd
        go_wp2_with fail
        go_ret
        exact ⟨rfl, hW1.trans ((hl19).trans hlast)⟩
    · have HW := Lib.hid (msg_write_no m _ _ w1 hm1.out hd1.out hM hml.out hdl.out)
      go_wp2_with fail
      refine HW.out.mono ?_
      rintro e w9 ⟨rfl, hl19⟩
      clear p0 p1 p2 p3 p4 p5 p6 p7 p8 p9 p10 HW
      have hvB := Lib.hid (hv1.out.later hl19)
      have HR := readM_any _ B w9 hvB.out hBl.out
      cases hR : rdM B with
      | none =>
        rw [hR] at HR
        replace HR := Lib.hid HR
        go_wp2_with fail
        refine HR.out.mono ?_
        rintro e w20 ⟨rfl, h20⟩
        have hz := Lib.hid (msg_same Msg.zero (.slice none 0 0) (.slice none 0 0) (.slice none 0 0) (.slice none 0 0) (w20.alloc (.cells (Msg.zero.C (.slice none 0 0) (.slice none 0 0)) 88)) ⟨none, 0, rfl, fun k hk => by cases hk⟩ ⟨none, 0, rfl, fun k hk => by cases hk⟩ (bytV_nil _) (bytV_nil _) (by decide))
        go_wp2_with fail
        refine hz.out.mono ?_
        rintro e w21 ⟨rfl, h21⟩
        go_wp2_with fail
        go_ret
        exact ⟨rfl, hW1.trans (((hl19).trans h20).trans (((Later.refl _).alloc _).trans h21))⟩
      | some m' =>
        rw [hR] at HR
        replace HR := Lib.hid HR
        obtain ⟨eW, hM', hN'⟩ := wr_rd hv1.out.1 hR
        have hlen := may_len' hM'
        have hDb := rdM_byt hv1.out.1 hR
        clear hR
        go_wp2_with fail
        refine HR.out.mono ?_
        rintro e w20 ⟨⟨vm, vd, rfl, rm, rd⟩, h20⟩
        obtain ⟨xm, xam, xqm, rfl⟩ := row_form rm
        obtain ⟨xd, xad, xqd, rfl⟩ := row_form rd
        have hl21 : Later w20 (w20.alloc (.cells (m'.C (.slice xam xm xqm) (.slice xad xd xqd)) 88)) := (Later.refl _).alloc _
        have HW' := msg_write m' _ _ (w20.alloc (.cells (m'.C (.slice xam xm xqm) (.slice xad xd xqd)) 88)) ((intsV_of_row rm).later hl21) ((bytV_of_row hDb rd).1.later hl21) hN' hM' hlen.1 (by omega)
        rw [eW] at HW'
        replace HW' := Lib.hid HW'
        clear rm rd hlen
        go_wp2_with fail
        refine HW'.out.mono ?_
        rintro e w22 ⟨dv, rfl, hrd, h22⟩
        obtain ⟨md, ad2, qd, rfl⟩ := row_form hrd
        have hlast := (h20.trans hl21).trans h22
        have t1 : (convert 23 9 (.slice ad2 md qd)).run Try.prog w22 = .ok (.string (strOfNums B)) w22 := bytV_string (bytV_of_row hv1.out.1 hrd).1
        have t2 : (convert 23 9 (.slice aB nB cB)).run Try.prog w22 = .ok (.string (strOfNums B)) w22 := bytV_string (hvB.out.later hlast)
        clear hrd
        go_wp2_with fail
        go_ret
        exact ⟨rfl, hW1.trans ((hl19).trans hlast)⟩
end Go.Proofs.Ytjelfiljebamgaa
