/-
  CoverDepths: for every input the law returns true.
-/
import Derived.Test.YtmpnojgciaoghaaCovM
import Derived.Test.YtmpnojgciaoghaaCovU
namespace Go.Proofs.Ytmpnojgciaoghaa
open Go.RowKit Go.Shelf
set_option linter.unusedVariables false
set_option linter.unusedSimpArgs false
attribute [local go_sem] Oper.semAt_some

theorem prow_append {f g e y : Int} (h : f ≤ g) (k : g ≤ e) : prow f e y = prow f g y ++ prow g e y := by unfold prow; rw [irange_append h k, List.map_append]
theorem refM_pre (F : Int × Int → Option Q3) {w h y x : Int} (hx : 0 ≤ x ∧ x ≤ w) (hy : 0 ≤ y ∧ y < h) : ∃ R, (pix 0 w 0 h).filterMap F = refM F w y x ++ R := by
  refine ⟨(prow x w y ++ pix 0 w (y + 1) h).filterMap F, ?_⟩
  unfold refM
  rw [← List.filterMap_append]
  congr 1
  have e1 : pix 0 w 0 h = pix 0 w 0 (y + 1) ++ pix 0 w (y + 1) h := by unfold pix; rw [irange_append (b := y + 1) (by omega) (by omega), List.flatMap_append]
  rw [e1, pix_succ hy.1, prow_append hx.1 hx.2]
  simp [List.append_assoc]

theorem cells_at {L M : List Q3} {q : Q3} {R : List Q3} (h : L = (M ++ [q]) ++ R) : M.length < L.length ∧ L.getD M.length (0, 0, 0) = q := by
  subst h
  constructor
  · simp
  · rw [List.getD_eq_getElem?_getD]; simp

theorem coverDepths_bad (a b c : C3) (x y : Int) (w : World) (hno : Hid ((sizeOk x y && may3 a b c) = false)) :
    Calls Try.prog 10 #[tri a b c, .int .i64 x, .int .i64 y] w fun e w' => e = .returned (.bool true) ∧ Later w w' := by
  have H1 := Lib.hid (covCells_CL a b c x y)
  have hL : CL a b c x y = [] := by unfold CL; rw [hno.out]; rfl
  rw [hL] at H1
  obtain ⟨n, hn⟩ : ∃ n, Hid (cellsN (may3 a b c) x y = n) := ⟨_, rfl⟩
  have hn0 : ¬ n = 0 := by
    rw [← hn.out]; unfold cellsN
    have := hno.out
    cases h1 : sizeOk x y <;> cases h2 : may3 a b c <;> simp [h1, h2] at this ⊢
  rw [hn.out] at H1
  go_enter Try.func10, Try.ntmps10
  go_wp2_with fail
  refine (alive_any _).mono ?_
  rintro e w0 ⟨rfl, h0⟩
  have t0 := h0.cell (b := w.heap.size) (o := 0) (by simp; rfl)
  have t1 := h0.cell (b := w.heap.size) (o := 1) (by simp; rfl)
  have t2 := h0.cell (b := w.heap.size) (o := 2) (by simp; rfl)
  have t3 := h0.cell (b := w.heap.size) (o := 3) (by simp; rfl)
  have t4 := h0.cell (b := w.heap.size) (o := 4) (by simp; rfl)
  have t5 := h0.cell (b := w.heap.size) (o := 5) (by simp; rfl)
  have t6 := h0.cell (b := w.heap.size) (o := 6) (by simp; rfl)
  have t7 := h0.cell (b := w.heap.size) (o := 7) (by simp; rfl)
  have t8 := h0.cell (b := w.heap.size) (o := 8) (by simp; rfl)
  go_wp2_with fail
  refine (H1.out _).mono ?_
  rintro e w1 ⟨v, rfl, ⟨ao, cap, rfl, hv⟩, h1⟩
  rw [show ([] : List Q3).length = 0 from rfl]
  go_wp2_with fail
  go_ret
  exact ⟨rfl, (((Later.refl _).alloc _).trans h0).trans h1⟩

set_option maxRecDepth 100000 in
set_option maxHeartbeats 4000000 in
theorem coverDepths_ok (a b c : C3) (wd ht : Int) (w : World) (hm : Hid (may3 a b c = true)) (hw1 : 1 ≤ wd) (hw2 : wd ≤ 64) (hh1 : 1 ≤ ht) (hh2 : ht ≤ 64) :
    Calls Try.prog 10 #[tri a b c, .int .i64 wd, .int .i64 ht] w fun e w' => e = .returned (.bool true) ∧ Later w w' := by
  have hs : sizeOk wd ht = true := decide_eq_true ⟨hw1, hw2, hh1, hh2⟩
  obtain ⟨ha, hb, hc⟩ := (may3_iff a b c).1 hm.out
  have H1 := Lib.hid (covCells_CL a b c wd ht)
  have hCL : CL a b c wd ht = (pix 0 wd 0 ht).filterMap (cellC a b c) := by rw [CL_eq, hs, hm.out]; rfl
  rw [hCL, show cellsN (may3 a b c) wd ht = 0 by unfold cellsN; rw [hs, hm.out]; rfl] at H1
  obtain ⟨F, hF⟩ : ∃ F, Hid (cellC a b c = F) := ⟨_, rfl⟩
  rw [hF.out] at H1
  obtain ⟨L, hL⟩ : ∃ L, Hid ((pix 0 wd 0 ht).filterMap F = L) := ⟨_, rfl⟩
  rw [hL.out] at H1
  have hpre := Lib.hid (fun y x hx hy => refM_pre F (w := wd) (h := ht) (y := y) (x := x) hx hy)
  rw [hL.out] at hpre
  obtain ⟨lo, hlo⟩ : ∃ l, Hid (mn3 a.z b.z c.z = l) := ⟨_, rfl⟩
  obtain ⟨hi, hhi⟩ : ∃ l, Hid (mx3 a.z b.z c.z = l) := ⟨_, rfl⟩
  have HA : Hid (∀ x y, 0 ≤ x → x ≤ 63 → 0 ≤ y → y ≤ 63 → ∃ z i, Hid ((i = true → F (x, y) = some (x, y, z) ∧ lo ≤ z ∧ z ≤ hi ∧ 0 ≤ z ∧ z ≤ 16777215) ∧ (i = false → F (x, y) = none)) ∧ ∀ W, Calls Try.prog 11 #[tri a b c, .int .i64 x, .int .i64 y] W fun e w' => e = .returned (.tuple #[.int .u32 z, .bool i, .int .i64 0]) ∧ Later W w') := by
    intro x y x0 x1 y0 y1
    have hp : pixOk x y = true := decide_eq_true ⟨x0, x1, y0, y1⟩
    refine ⟨tellZ a (shB b c (sdW a b c.x c.y)) (shC b c (sdW a b c.x c.y)) (shS (sdW a b c.x c.y)) x y, tellI a (shB b c (sdW a b c.x c.y)) (shC b c (sdW a b c.x c.y)) (shS (sdW a b c.x c.y)) x y, ?_, fun W => ?_⟩
    rotate_left
    · have := covAt_any a b c x y W
      rw [hp, hm.out] at this
      exact this
    · have h1 := hit_iff ha hb hc ⟨x0, x1⟩ ⟨y0, y1⟩
      rw [← hF.out, ← hlo.out, ← hhi.out]
      refine ⟨fun hi' => ?_, fun hi' => ?_⟩
      · have hcov := h1.1 hi'
        have e := tell_dep ha hb hc ⟨x0, x1⟩ ⟨y0, y1⟩ hcov
        have bz : 0 ≤ mn3 a.z b.z c.z ∧ mn3 a.z b.z c.z ≤ a.z ∧ mn3 a.z b.z c.z ≤ b.z ∧ mn3 a.z b.z c.z ≤ c.z := by unfold MayP at ha hb hc; unfold mn3; omega
        have bZ : mx3 a.z b.z c.z ≤ 16777215 ∧ a.z ≤ mx3 a.z b.z c.z ∧ b.z ≤ mx3 a.z b.z c.z ∧ c.z ≤ mx3 a.z b.z c.z := by unfold MayP at ha hb hc; unfold mx3; omega
        have hd := dep_bd hcov bz.1 bz.2 bZ.2
        rw [← e] at hd
        refine ⟨?_, hd.1, hd.2, by omega, by omega⟩
        unfold cellC
        rw [if_pos hcov, e]
      · unfold cellC
        rw [if_neg (mt h1.2 (by rw [hi']; simp))]
  clear hs ha hb hc hCL
  go_enter Try.func10, Try.ntmps10
  go_wp2_with fail
  refine (alive_any _).mono ?_
  rintro e w0 ⟨rfl, h0⟩
  have t0 := h0.cell (b := w.heap.size) (o := 0) (by simp; rfl)
  have t1 := h0.cell (b := w.heap.size) (o := 1) (by simp; rfl)
  have t2 := h0.cell (b := w.heap.size) (o := 2) (by simp; rfl)
  have t3 := h0.cell (b := w.heap.size) (o := 3) (by simp; rfl)
  have t4 := h0.cell (b := w.heap.size) (o := 4) (by simp; rfl)
  have t5 := h0.cell (b := w.heap.size) (o := 5) (by simp; rfl)
  have t6 := h0.cell (b := w.heap.size) (o := 6) (by simp; rfl)
  have t7 := h0.cell (b := w.heap.size) (o := 7) (by simp; rfl)
  have t8 := h0.cell (b := w.heap.size) (o := 8) (by simp; rfl)
  go_wp2_with fail
  refine (H1.out _).mono ?_
  rintro e w1 ⟨v, rfl, ⟨ao, cap, rfl, hv⟩, h1⟩
  obtain ⟨n, hn⟩ : ∃ n, Hid (L.length = n) := ⟨_, rfl⟩
  rw [hn.out] at hv ⊢
  replace t0 := h1.cell t0
  replace t1 := h1.cell t1
  replace t2 := h1.cell t2
  replace t3 := h1.cell t3
  replace t4 := h1.cell t4
  replace t5 := h1.cell t5
  replace t6 := h1.cell t6
  replace t7 := h1.cell t7
  replace t8 := h1.cell t8
  replace hv := Lib.hid hv
  have hl1 : Later w w1 := (((Later.refl _).alloc _).trans h0).trans h1
  clear h0 h1
  go_upto_region 5 with fail
  go_cut [10, 11] (fun u v wx => u = .int .i64 lo ∧ v = .int .i64 hi ∧ wx = w1.drew)
  case first =>
    go_region_held3 (fun W => W.cell? ⟨w.heap.size, 2, none⟩ = some (.int .i64 a.z) ∧ W.cell? ⟨w.heap.size, 5, none⟩ = some (.int .i64 b.z) ∧ W.cell? ⟨w.heap.size, 8, none⟩ = some (.int .i64 c.z)) ((go_split_ands; (repeat' apply And.intro) <;> first | assumption | exact (Later.refl _).drew.cell (by assumption) | exact ((Later.refl _).alloc _).cell (by assumption) | exact CellsV.later (by assumption) (Later.refl _).drew | exact cell_setCell_o (by assumption) (by omega) | exact Later.cell hl1 (by assumption) | exact CellsV.later (by assumption) hl1)) (fail)
    all_goals (rename_i JJ KK hj hk hh; refine hk _ _ (Met.intro (hj _ _ ?_)); (repeat apply Exists.intro); exact ⟨⟨int_v hlo.out, int_v hhi.out, rfl⟩, rfl⟩)
  case rest =>
    obtain ⟨rfl, rfl, rfl⟩ := hcut
    go_wp2_with fail
    go_loopw [12, 13] (fun q y wr => ∃ k : Int, 0 ≤ k ∧ k ≤ ht ∧ y = .int .i64 k ∧ q = .int .i64 (refM F wd k 0).length ∧ Later w1 wr) (fun _ y _ => (300 - intOf y).toNat)
    case atStart => exact ⟨0, by omega, by omega, rfl, by rw [refM_zero, pix_nil (Int.le_refl _)]; rfl, (Later.refl _).drew⟩
    case round =>
      obtain ⟨k, hk1, hk2, rfl, rfl, hl⟩ := hrel
      obtain ⟨wo, rfl⟩ : ∃ wo : World, wo = wr := ⟨_, rfl⟩
      by_cases hy : k < ht
      · go_wp2_with fail
        go_loopw [12, 14] (fun q x wr => ∃ j : Int, 0 ≤ j ∧ j ≤ wd ∧ x = .int .i64 j ∧ q = .int .i64 (refM F wd k j).length ∧ Later w1 wr) (fun _ x _ => (300 - intOf x).toNat)
        case atStart => exact ⟨0, by omega, by omega, rfl, rfl, hl⟩
        case round =>
          obtain ⟨j, hj1, hj2, rfl, rfl, hl⟩ := hrel
          obtain ⟨wi, rfl⟩ : ∃ wi : World, wi = wr := ⟨_, rfl⟩
          by_cases hx : j < wd
          · obtain ⟨z, i, hzi, hcall⟩ := HA.out j k hj1 (by omega) hk1 (by omega)
            replace hcall := Lib.hid hcall
            have hlen : (refM F wd k j).length ≤ 4096 := refM_length F hw2 (by omega) (by omega)
            replace t0 := hl.cell t0
            replace t1 := hl.cell t1
            replace t2 := hl.cell t2
            replace t3 := hl.cell t3
            replace t4 := hl.cell t4
            replace t5 := hl.cell t5
            replace t6 := hl.cell t6
            replace t7 := hl.cell t7
            replace t8 := hl.cell t8
            go_wp2_with fail
            refine (hcall.out _).mono ?_
            rintro e w2 ⟨rfl, h2⟩
            have hl2 := hl.trans h2
            clear t0 t1 t2 t3 t4 t5 t6 t7 t8
            cases i
            · have hF2 := hzi.out.2 rfl
              go_wp2_with fail
              go_roundw
              case rel => exact ⟨j + 1, by omega, by omega, by go_num, by rw [refM_miss wd hj1 hF2], hl2⟩
              case measure => simp [intOf]; omega
            · obtain ⟨hF2, z1, z2, z3, z4⟩ := hzi.out.1 rfl
              obtain ⟨R, hR⟩ := hpre.out k (j + 1) ⟨by omega, by omega⟩ ⟨hk1, hy⟩
              rw [refM_hit wd hj1 hF2] at hR
              obtain ⟨hkl, hkq⟩ := cells_at hR
              obtain ⟨m, hm'⟩ : ∃ m, Hid ((refM F wd k j).length = m) := ⟨_, rfl⟩
              rw [hm'.out] at hkl hkq hlen ⊢
              rw [hn.out] at hkl
              obtain ⟨g, rfl, a0, a1, a2⟩ := hv.out m hkl
              rw [hkq] at a0 a1 a2
              rw [Nat.mul_comm 3 m] at a0 a1 a2
              replace a0 := hl2.cell a0
              replace a1 := hl2.cell a1
              replace a2 := hl2.cell a2
              dsimp only at a0 a1 a2
              have hwz : IntKind.i64.wrap z = z := by rw [IntKind.wrap_i64]; omega
              as_aux_lemma =>
                go_wp2_with fail
                all_goals exact ⟨⟨j + 1, by omega, by omega, by go_num, int_v (by rw [refM_hit wd hj1 hF2, List.length_append, hm'.out]; simp), hl2⟩, by simp [intOf]; omega⟩
          · obtain rfl : j = wd := by omega
            go_wp2_with fail
            go_roundw
            case rel => exact ⟨k + 1, by omega, by omega, by go_num, by rw [refM_zero, ← refM_full F _ hk1], hl⟩
            case measure => simp [intOf]; omega
      · obtain rfl : k = ht := by omega
        obtain rfl : (refM F wd k 0).length = n := by rw [refM_zero, hL.out]; exact hn.out
        go_wp2_with fail
        go_ret
        exact ⟨rfl, hl1.trans hl⟩

theorem coverDepths_walk (a b c : C3) (x y : Int) (w : World) :
    Calls Try.prog 10 #[tri a b c, .int .i64 x, .int .i64 y] w fun e w' => e = .returned (.bool true) ∧ Later w w' := by
  by_cases h : (sizeOk x y && may3 a b c) = true
  · rw [Bool.and_eq_true] at h
    obtain ⟨hw1, hw2, hh1, hh2⟩ := of_decide_eq_true h.1
    exact coverDepths_ok a b c x y w (Lib.hid h.2) hw1 hw2 hh1 hh2
  · exact coverDepths_bad a b c x y w (Lib.hid (by simpa using h))
end Go.Proofs.Ytmpnojgciaoghaa
