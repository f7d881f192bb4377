/-
  Chapter 28: a message is read (the program).
-/
import Derived.Test.YtjelfiljebamgaaNdHd
namespace Go.Proofs.Ytjelfiljebamgaa
open Go.RowKit Go.Shelf
set_option linter.unusedVariables false
set_option linter.unusedSimpArgs false
attribute [local go_sem] Oper.semAt_some

set_option maxRecDepth 100000 in
set_option maxHeartbeats 8000000 in
theorem readM_any (u : Value) (b : List Int) (W : World) (hu : BytV W u b) (hb : b.length ≤ 1000000) :
    Calls Try.prog 37 #[u] W fun e w' => ReadPost (rdM b) W e w' ∧ Later W w' := by
  obtain ⟨ao, cap, hue⟩ := bytV_form hu
  obtain ⟨nn, hnn⟩ : ∃ n, Hid (b.length = n) := ⟨_, rfl⟩
  rw [hnn.out] at hue
  obtain ⟨M, hM⟩ : ∃ M, Hid (rdM b = M) := ⟨_, rfl⟩
  rw [hM.out]
  obtain ⟨⟨k, L1, b1⟩, hR1⟩ : ∃ R, rU 6 b false = R := ⟨_, rfl⟩
  obtain ⟨⟨n, L2, b2⟩, hR2⟩ : ∃ R, rU 4294967295 L1 b1 = R := ⟨_, rfl⟩
  obtain ⟨⟨y, L3, b3⟩, hR3⟩ : ∃ R, rU 63 L2 b2 = R := ⟨_, rfl⟩
  have hk6 : k ≤ 6 := by have := rU_le 6 b false; rw [hR1] at this; exact this
  have hn6 : n ≤ 4294967295 := by have := rU_le 4294967295 L1 b1; rw [hR2] at this; exact this
  have hl1 : L1.length ≤ b.length := by have := rU_len 6 b false; rw [hR1] at this; exact this
  have hMe : Hid (rdBM k n y L3 b3 = M) := Lib.hid (by rw [← hM.out]; unfold rdM; rw [hR1]; dsimp only; rw [hR2]; dsimp only; rw [hR3])
  clear hM
  have hl0 : Later W (W.alloc (.cells (Msg.zero.C (.slice none 0 0) (.slice none 0 0)) 88)) := (Later.refl _).alloc _
  have kz0 := heap_alloc_new W (.cells (Msg.zero.C (.slice none 0 0) (.slice none 0 0)) 88)
  have hu0 := Lib.hid (hu.later hl0)
  clear hu
  subst hue
  go_enter Try.func37, Try.ntmps37
  go_wp2_with fail
  refine (newReader_any _ b _ hu0.out hb).mono ?_
  rintro e w1 ⟨q, v1, rfl, h1, hq, hw1⟩
  have hS := rsmall_any q 6 v1 b false w1 h1 (by omega) hb
  rw [hR1] at hS
  replace hS := Lib.hid hS
  go_wp2_with fail
  refine hS.out.mono ?_
  rintro e w2 ⟨rfl, ⟨v2, h2⟩, g2⟩
  dsimp only at h2
  go_upto_region 4 with fail
  obtain ⟨X3, hX3⟩ : ∃ X, X = w2.alloc (.cells #[.int .i64 k, .int .u32 0, .int .i64 0, .slice none 0 0, .int .i64 0, .int .i64 0, .int .i64 0, .int .i64 0, .int .i64 0, .int .i64 0, .slice none 0 0] 88) := ⟨_, rfl⟩
  have hlx : Later w2 X3 := by rw [hX3]; exact (Later.refl _).alloc _
  have kc : X3.heap[w2.heap.size]? = some (.cells #[.int .i64 k, .int .u32 0, .int .i64 0, .slice none 0 0, .int .i64 0, .int .i64 0, .int .i64 0, .int .i64 0, .int .i64 0, .int .i64 0, .slice none 0 0] 88 (0, 0)) := by rw [hX3]; exact push_new w2 _ rfl
  have hWq : W.heap.size < q := by simp at hq; omega
  have kz1 := (hw1.block _ (by simp)).trans kz0
  have kz2 := (g2.block _ (Array.getElem?_eq_some_iff.1 kz1).1 (fun e => by have := Option.some.inj e; omega)).trans kz1
  have hq2 := h2.lt
  have hX : PX W W.heap.size q w2.heap.size #[.int .i64 k, .int .u32 0, .int .i64 0, .slice none 0 0, .int .i64 0, .int .i64 0, .int .i64 0, .int .i64 0, .int .i64 0, .int .i64 0, .slice none 0 0] L1 b1 X3 :=
    ⟨⟨_, h2.later hlx⟩, (hlx.block _ (Array.getElem?_eq_some_iff.1 kz2).1).trans kz2, kc, (rw_step (hl0.trans hw1) g2 (by omega)).trans hlx, Nat.le_refl _, by omega, by have := (Array.getElem?_eq_some_iff.1 kz2).1; omega, by omega, by omega, by have := (Array.getElem?_eq_some_iff.1 kz2).1; omega, by omega, h2.val.1⟩
  rw [← hX3]
  obtain ⟨z, hz⟩ : ∃ z, Hid (W.heap.size = z) := ⟨_, rfl⟩
  obtain ⟨c, hc⟩ : ∃ c, Hid (w2.heap.size = c) := ⟨_, rfl⟩
  rw [hz.out, hc.out] at hX
  simp only [hz.out, hc.out]
  have hzc0 : z < c := by rw [← hz.out, ← hc.out]; exact (Array.getElem?_eq_some_iff.1 kz2).1
  clear hX3 hlx kc hWq kz1 kz2 hq2 h2 g2 hS h1 hq hw1 hl0 kz0 hu0
  have hk6' : (k : Int) ≤ 6 := by omega
  have hn6' : (n : Int) ≤ 4294967295 := by omega
  have c0 : X3.cell? ⟨c, 0, none⟩ = some _ := hX.cell 0
  have c1 : X3.cell? ⟨c, 1, none⟩ = some _ := hX.cell 1
  have c2 : X3.cell? ⟨c, 2, none⟩ = some _ := hX.cell 2
  have c3 : X3.cell? ⟨c, 3, none⟩ = some _ := hX.cell 3
  have c4 : X3.cell? ⟨c, 4, none⟩ = some _ := hX.cell 4
  have c5 : X3.cell? ⟨c, 5, none⟩ = some _ := hX.cell 5
  have c6 : X3.cell? ⟨c, 6, none⟩ = some _ := hX.cell 6
  have c7 : X3.cell? ⟨c, 7, none⟩ = some _ := hX.cell 7
  have c8 : X3.cell? ⟨c, 8, none⟩ = some _ := hX.cell 8
  have c9 : X3.cell? ⟨c, 9, none⟩ = some _ := hX.cell 9
  have c10 : X3.cell? ⟨c, 10, none⟩ = some _ := hX.cell 10
  go_wp2_with fail
  refine (hX.small (by omega) hR2).mono ?_
  rintro e w3 ⟨rfl, hX⟩
  clear c0 c1 c2 c3 c4 c5 c6 c7 c8 c9 c10
  have c0 : w3.cell? ⟨c, 0, none⟩ = some _ := hX.cell 0
  have c1 : w3.cell? ⟨c, 1, none⟩ = some _ := hX.cell 1
  have c2 : w3.cell? ⟨c, 2, none⟩ = some _ := hX.cell 2
  have c3 : w3.cell? ⟨c, 3, none⟩ = some _ := hX.cell 3
  have c4 : w3.cell? ⟨c, 4, none⟩ = some _ := hX.cell 4
  have c5 : w3.cell? ⟨c, 5, none⟩ = some _ := hX.cell 5
  have c6 : w3.cell? ⟨c, 6, none⟩ = some _ := hX.cell 6
  have c7 : w3.cell? ⟨c, 7, none⟩ = some _ := hX.cell 7
  have c8 : w3.cell? ⟨c, 8, none⟩ = some _ := hX.cell 8
  have c9 : w3.cell? ⟨c, 9, none⟩ = some _ := hX.cell 9
  have c10 : w3.cell? ⟨c, 10, none⟩ = some _ := hX.cell 10
  have ff := hX.fz 1
  replace hX := hX.set 1 (.int .u32 n)
  simp only [List.setIfInBounds_toArray, List.set_cons_zero, List.set_cons_succ] at hX
  go_wp2_with fail
  refine (hX.node hR3).mono ?_
  rintro e w4 ⟨rfl, hX⟩
  clear c0 c1 c2 c3 c4 c5 c6 c7 c8 c9 c10
  have c0 : w4.cell? ⟨c, 0, none⟩ = some _ := hX.cell 0
  have c1 : w4.cell? ⟨c, 1, none⟩ = some _ := hX.cell 1
  have c2 : w4.cell? ⟨c, 2, none⟩ = some _ := hX.cell 2
  have c3 : w4.cell? ⟨c, 3, none⟩ = some _ := hX.cell 3
  have c4 : w4.cell? ⟨c, 4, none⟩ = some _ := hX.cell 4
  have c5 : w4.cell? ⟨c, 5, none⟩ = some _ := hX.cell 5
  have c6 : w4.cell? ⟨c, 6, none⟩ = some _ := hX.cell 6
  have c7 : w4.cell? ⟨c, 7, none⟩ = some _ := hX.cell 7
  have c8 : w4.cell? ⟨c, 8, none⟩ = some _ := hX.cell 8
  have c9 : w4.cell? ⟨c, 9, none⟩ = some _ := hX.cell 9
  have c10 : w4.cell? ⟨c, 10, none⟩ = some _ := hX.cell 10
  have ff := hX.fz 2
  replace hX := hX.set 2 (.int .i64 y)
  simp only [List.setIfInBounds_toArray, List.set_cons_zero, List.set_cons_succ] at hX
  go_upto_region 6 with fail
  obtain ⟨X5, hX5⟩ : ∃ X, X = w4.setCell ⟨c, 2, none⟩ (.int .i64 y) := ⟨_, rfl⟩
  rw [← hX5] at hX ⊢
  clear hX5 c0 c1 c2 c3 c4 c5 c6 c7 c8 c9 c10 ff
  have c0 : X5.cell? ⟨c, 0, none⟩ = some _ := hX.cell 0
  have c1 : X5.cell? ⟨c, 1, none⟩ = some _ := hX.cell 1
  have c2 : X5.cell? ⟨c, 2, none⟩ = some _ := hX.cell 2
  have c3 : X5.cell? ⟨c, 3, none⟩ = some _ := hX.cell 3
  have c4 : X5.cell? ⟨c, 4, none⟩ = some _ := hX.cell 4
  have c5 : X5.cell? ⟨c, 5, none⟩ = some _ := hX.cell 5
  have c6 : X5.cell? ⟨c, 6, none⟩ = some _ := hX.cell 6
  have c7 : X5.cell? ⟨c, 7, none⟩ = some _ := hX.cell 7
  have c8 : X5.cell? ⟨c, 8, none⟩ = some _ := hX.cell 8
  have c9 : X5.cell? ⟨c, 9, none⟩ = some _ := hX.cell 9
  have c10 : X5.cell? ⟨c, 10, none⟩ = some _ := hX.cell 10
  have hcl := hX.lt
  have hzc : z < c + 1 := by omega
  have hWz : W.heap.size ≤ z := Nat.le_of_eq hz.out
  have hWc : W.heap.size ≤ c + 1 := by omega
  by_cases k1 : k = 1
  · subst k1
    obtain ⟨⟨S1, S2, S3⟩, hS⟩ : ∃ S, rL (rU 64 L3 b3).1 (rU 64 L3 b3).2.1 (rU 64 L3 b3).2.2 = S := ⟨_, rfl⟩
    obtain ⟨Lf, hLf⟩ : ∃ Lf, (if S3 = true then [] else S1) = Lf := ⟨_, rfl⟩
    obtain ⟨mm, hmm⟩ : ∃ mm : Msg, Hid (mm = ⟨1, n, y, Lf, 0, 0, 0, 0, 0, 0, []⟩) := ⟨_, Lib.hid rfl⟩
    have hfin : Hid (fin mm S2 S3 = M) := Lib.hid (by
      rw [hmm.out, ← hMe.out]; unfold rdBM; rw [if_pos rfl]; unfold rd1M; rw [hS]
      cases S3 with
      | true => exact fin_lost
      | false => rw [← hLf]; rfl)
    have hLfl : Lf.length ≤ 64 := by
      have h1 := rL_length (rU 64 L3 b3).1 (rU 64 L3 b3).2.1 (rU 64 L3 b3).2.2
      have h2 := rU_le 64 L3 b3
      rw [hS] at h1
      rw [← hLf]
      split
      · simp
      · exact Nat.le_trans (Nat.le_of_eq h1) h2
    have HM := Lib.hid (hX.many hS hLf)
    clear hS hLf hMe hX hR1 hR2 hR3
    go_wp2_with fail
    refine HM.out.mono ?_
    rintro e w6 ⟨um, rfl, hX, hrow⟩
    obtain ⟨m6, a6, q6, rfl⟩ := row_form hrow
    clear c0 c1 c2 c3 c4 c5 c6 c7 c8 c9 c10
    have c0 : w6.cell? ⟨c, 0, none⟩ = some _ := hX.cell 0
    have c1 : w6.cell? ⟨c, 1, none⟩ = some _ := hX.cell 1
    have c2 : w6.cell? ⟨c, 2, none⟩ = some _ := hX.cell 2
    have c3 : w6.cell? ⟨c, 3, none⟩ = some _ := hX.cell 3
    have c4 : w6.cell? ⟨c, 4, none⟩ = some _ := hX.cell 4
    have c5 : w6.cell? ⟨c, 5, none⟩ = some _ := hX.cell 5
    have c6 : w6.cell? ⟨c, 6, none⟩ = some _ := hX.cell 6
    have c7 : w6.cell? ⟨c, 7, none⟩ = some _ := hX.cell 7
    have c8 : w6.cell? ⟨c, 8, none⟩ = some _ := hX.cell 8
    have c9 : w6.cell? ⟨c, 9, none⟩ = some _ := hX.cell 9
    have c10 : w6.cell? ⟨c, 10, none⟩ = some _ := hX.cell 10
    have ff := hX.fz 3
    replace hX := hX.set 3 (.slice a6 m6 q6)
    have hrow2 := ownsRow_setCell_below (a := ⟨c, 3, none⟩) (row_mono hrow (show c + 1 ≤ X5.heap.size from hcl)) (Nat.lt_succ_self c) (.slice a6 m6 q6)
    clear hrow HM
    go_upto_region 18 with fail
    obtain ⟨X8, hX8⟩ : ∃ X, X = w6.setCell ⟨c, 3, none⟩ (.slice a6 m6 q6) := ⟨_, rfl⟩
    rw [← hX8] at hX hrow2 ⊢
    clear hX8 c0 c1 c2 c3 c4 c5 c6 c7 c8 c9 c10 ff
    obtain ⟨vE, hvE⟩ := hX.rd
    have HE := Lib.hid (rend_any q vE _ _ _ hvE)
    have hrm : Hid (World.ownsRow X8 (c + 1) 3 1 (.slice a6 m6 q6) (Lf).length (encI Lf)) := Lib.hid hrow2
    have hrd : Hid (World.ownsRow X8 (c + 1) 5 1 (.slice none 0 0) (([] : List Int)).length (encB ([] : List Int))) := Lib.hid (World.ownsRow_nil _ (c + 1) _ _)
    have HF := fine_msg mm (.slice a6 m6 q6) (.slice none 0 0) X8 (by rw [hmm.out]; exact intsV_of_row hrm.out) (by rw [hmm.out]; exact (bytV_of_row (fun x hx => by simp at hx) hrd.out).1) (by rw [hmm.out]; exact (show Lf.length ≤ 1000000 by omega)) (by rw [hmm.out]; exact (show ([] : List Int).length ≤ 1000000 by simp))
    have hVV : Msg.V mm (.slice a6 m6 q6) (.slice none 0 0) = Msg.V ⟨1, n, y, Lf, 0, 0, 0, 0, 0, 0, []⟩ (.slice a6 m6 q6) (.slice none 0 0) := by rw [hmm.out]
    rw [hVV] at HF
    replace HF := Lib.hid HF
    clear hVV
    have kzX := hX.kz
    have kcX := hX.kc
    have hls := hX.ls
    have c0 : X8.cell? ⟨c, 0, none⟩ = some _ := hX.cell 0
    have c1 : X8.cell? ⟨c, 1, none⟩ = some _ := hX.cell 1
    have c2 : X8.cell? ⟨c, 2, none⟩ = some _ := hX.cell 2
    have c3 : X8.cell? ⟨c, 3, none⟩ = some _ := hX.cell 3
    have c4 : X8.cell? ⟨c, 4, none⟩ = some _ := hX.cell 4
    have c5 : X8.cell? ⟨c, 5, none⟩ = some _ := hX.cell 5
    have c6 : X8.cell? ⟨c, 6, none⟩ = some _ := hX.cell 6
    have c7 : X8.cell? ⟨c, 7, none⟩ = some _ := hX.cell 7
    have c8 : X8.cell? ⟨c, 8, none⟩ = some _ := hX.cell 8
    have c9 : X8.cell? ⟨c, 9, none⟩ = some _ := hX.cell 9
    have c10 : X8.cell? ⟨c, 10, none⟩ = some _ := hX.cell 10
    clear hvE hX
    by_cases hE : rE S2 S3 = 0 ∧ True
    · have hE1 := hE.1
      rw [hE1] at HE
      by_cases hMay : Msg.May mm
      · have hf2 := (fin_yes (m := mm) hE1 hMay).symm.trans hfin.out
        clear hfin
        have HF2 := HF.out
        rw [decide_eq_true hMay] at HF2
        replace HF2 := Lib.hid HF2
        replace hf2 := Lib.hid hf2
        clear hE hE1 HF hMay
        go_wp2_with fail
        refine HE.out.mono ?_
        rintro e w7 ⟨rfl, rfl⟩
        go_wp2_with fail
        refine HF2.out.mono ?_
        rintro e w8 ⟨rfl, hl8⟩
        replace kzX := (hl8.block z (Array.getElem?_eq_some_iff.1 kzX).1).trans kzX
        replace kcX := (hl8.block c (Array.getElem?_eq_some_iff.1 kcX).1).trans kcX
        clear c0 c1 c2 c3 c4 c5 c6 c7 c8 c9 c10 HE HF2
        have z0 : w8.cell? ⟨z, 0, none⟩ = some _ := cell_of_row w8 _ 0 _ _ _ kzX
        have y0 := frozen_row kzX 0
        have z1 : w8.cell? ⟨z, 1, none⟩ = some _ := cell_of_row w8 _ 1 _ _ _ kzX
        have y1 := frozen_row kzX 1
        have z2 : w8.cell? ⟨z, 2, none⟩ = some _ := cell_of_row w8 _ 2 _ _ _ kzX
        have y2 := frozen_row kzX 2
        have z3 : w8.cell? ⟨z, 3, none⟩ = some _ := cell_of_row w8 _ 3 _ _ _ kzX
        have y3 := frozen_row kzX 3
        have z4 : w8.cell? ⟨z, 4, none⟩ = some _ := cell_of_row w8 _ 4 _ _ _ kzX
        have y4 := frozen_row kzX 4
        have z5 : w8.cell? ⟨z, 5, none⟩ = some _ := cell_of_row w8 _ 5 _ _ _ kzX
        have y5 := frozen_row kzX 5
        have z6 : w8.cell? ⟨z, 6, none⟩ = some _ := cell_of_row w8 _ 6 _ _ _ kzX
        have y6 := frozen_row kzX 6
        have z7 : w8.cell? ⟨z, 7, none⟩ = some _ := cell_of_row w8 _ 7 _ _ _ kzX
        have y7 := frozen_row kzX 7
        have z8 : w8.cell? ⟨z, 8, none⟩ = some _ := cell_of_row w8 _ 8 _ _ _ kzX
        have y8 := frozen_row kzX 8
        have z9 : w8.cell? ⟨z, 9, none⟩ = some _ := cell_of_row w8 _ 9 _ _ _ kzX
        have y9 := frozen_row kzX 9
        have z10 : w8.cell? ⟨z, 10, none⟩ = some _ := cell_of_row w8 _ 10 _ _ _ kzX
        have y10 := frozen_row kzX 10
        have c0 : w8.cell? ⟨c, 0, none⟩ = some _ := cell_of_row w8 _ 0 _ _ _ kcX
        have c1 : w8.cell? ⟨c, 1, none⟩ = some _ := cell_of_row w8 _ 1 _ _ _ kcX
        have c2 : w8.cell? ⟨c, 2, none⟩ = some _ := cell_of_row w8 _ 2 _ _ _ kcX
        have c3 : w8.cell? ⟨c, 3, none⟩ = some _ := cell_of_row w8 _ 3 _ _ _ kcX
        have c4 : w8.cell? ⟨c, 4, none⟩ = some _ := cell_of_row w8 _ 4 _ _ _ kcX
        have c5 : w8.cell? ⟨c, 5, none⟩ = some _ := cell_of_row w8 _ 5 _ _ _ kcX
        have c6 : w8.cell? ⟨c, 6, none⟩ = some _ := cell_of_row w8 _ 6 _ _ _ kcX
        have c7 : w8.cell? ⟨c, 7, none⟩ = some _ := cell_of_row w8 _ 7 _ _ _ kcX
        have c8 : w8.cell? ⟨c, 8, none⟩ = some _ := cell_of_row w8 _ 8 _ _ _ kcX
        have c9 : w8.cell? ⟨c, 9, none⟩ = some _ := cell_of_row w8 _ 9 _ _ _ kcX
        have c10 : w8.cell? ⟨c, 10, none⟩ = some _ := cell_of_row w8 _ 10 _ _ _ kcX
        have hlw := hls.trans hl8
        have hrm8 := Lib.hid (row_later hrm.out hl8)
        have hrd8 := Lib.hid (row_later hrd.out hl8)
        clear kzX kcX hls hl8 hrm hrd
        go_wp2_with fail
        refine bodyPost_ret (v := .tuple #[Msg.V ⟨1, n, y, Lf, 0, 0, 0, 0, 0, 0, []⟩ (.slice a6 m6 q6) (.slice none 0 0), .int .i64 0]) ?_ rfl ?_
        · simp only [results]
          go_simp
        · rw [← hf2.out, hmm.out]
          refine ⟨⟨(.slice a6 m6 q6), (.slice none 0 0), rfl, row_mono ?_ hWc, row_mono ?_ hWc⟩, ?_⟩
          · iterate 11 refine ownsRow_setCell_below (a := ⟨z, _, none⟩) ?_ hzc _
            exact hrm8.out
          · iterate 11 refine ownsRow_setCell_below (a := ⟨z, _, none⟩) ?_ hzc _
            exact hrd8.out
          · iterate 11 refine Later.setCell ?_ hWz _
            exact hlw
      · have hf2 := (fin_m (m := mm) hMay).symm.trans hfin.out
        clear hfin
        have HF2 := HF.out
        rw [decide_eq_false hMay] at HF2
        replace HF2 := Lib.hid HF2
        replace hf2 := Lib.hid hf2
        clear hE hE1 HF hMay hrm hrd
        go_wp2_with fail
        refine HE.out.mono ?_
        rintro e w7 ⟨rfl, rfl⟩
        go_wp2_with fail
        refine HF2.out.mono ?_
        rintro e w8 ⟨rfl, hl8⟩
        replace kzX := (hl8.block z (Array.getElem?_eq_some_iff.1 kzX).1).trans kzX
        clear c0 c1 c2 c3 c4 c5 c6 c7 c8 c9 c10 HE HF2
        have z0 : w8.cell? ⟨z, 0, none⟩ = some _ := cell_of_row w8 _ 0 _ _ _ kzX
        have y0 := frozen_row kzX 0
        have z1 : w8.cell? ⟨z, 1, none⟩ = some _ := cell_of_row w8 _ 1 _ _ _ kzX
        have y1 := frozen_row kzX 1
        have z2 : w8.cell? ⟨z, 2, none⟩ = some _ := cell_of_row w8 _ 2 _ _ _ kzX
        have y2 := frozen_row kzX 2
        have z3 : w8.cell? ⟨z, 3, none⟩ = some _ := cell_of_row w8 _ 3 _ _ _ kzX
        have y3 := frozen_row kzX 3
        have z4 : w8.cell? ⟨z, 4, none⟩ = some _ := cell_of_row w8 _ 4 _ _ _ kzX
        have y4 := frozen_row kzX 4
        have z5 : w8.cell? ⟨z, 5, none⟩ = some _ := cell_of_row w8 _ 5 _ _ _ kzX
        have y5 := frozen_row kzX 5
        have z6 : w8.cell? ⟨z, 6, none⟩ = some _ := cell_of_row w8 _ 6 _ _ _ kzX
        have y6 := frozen_row kzX 6
        have z7 : w8.cell? ⟨z, 7, none⟩ = some _ := cell_of_row w8 _ 7 _ _ _ kzX
        have y7 := frozen_row kzX 7
        have z8 : w8.cell? ⟨z, 8, none⟩ = some _ := cell_of_row w8 _ 8 _ _ _ kzX
        have y8 := frozen_row kzX 8
        have z9 : w8.cell? ⟨z, 9, none⟩ = some _ := cell_of_row w8 _ 9 _ _ _ kzX
        have y9 := frozen_row kzX 9
        have z10 : w8.cell? ⟨z, 10, none⟩ = some _ := cell_of_row w8 _ 10 _ _ _ kzX
        have y10 := frozen_row kzX 10
        have hlw := hls.trans hl8
        clear kzX kcX hls hl8
        go_wp2_with fail
        refine bodyPost_ret (v := .tuple #[Msg.V Msg.zero (.slice none 0 0) (.slice none 0 0), .int .i64 281]) ?_ rfl ?_
        · simp only [results]
          go_simp
        · rw [← hf2.out]
          refine ⟨rfl, ?_⟩
          iterate 11 refine Later.setCell ?_ hWz _
          exact hlw
    · have hf2 := (fin_e (m := mm) (fun h => hE ⟨h, trivial⟩)).symm.trans hfin.out
      clear hfin
      have h50 := rE_50 (fun h => hE ⟨h, trivial⟩)
      rw [h50] at HE
      replace hf2 := Lib.hid hf2
      clear hE h50 HF hrm hrd
      go_wp2_with fail
      refine HE.out.mono ?_
      rintro e w7 ⟨rfl, rfl⟩
      clear c0 c1 c2 c3 c4 c5 c6 c7 c8 c9 c10 HE
      have z0 : X8.cell? ⟨z, 0, none⟩ = some _ := cell_of_row X8 _ 0 _ _ _ kzX
      have y0 := frozen_row kzX 0
      have z1 : X8.cell? ⟨z, 1, none⟩ = some _ := cell_of_row X8 _ 1 _ _ _ kzX
      have y1 := frozen_row kzX 1
      have z2 : X8.cell? ⟨z, 2, none⟩ = some _ := cell_of_row X8 _ 2 _ _ _ kzX
      have y2 := frozen_row kzX 2
      have z3 : X8.cell? ⟨z, 3, none⟩ = some _ := cell_of_row X8 _ 3 _ _ _ kzX
      have y3 := frozen_row kzX 3
      have z4 : X8.cell? ⟨z, 4, none⟩ = some _ := cell_of_row X8 _ 4 _ _ _ kzX
      have y4 := frozen_row kzX 4
      have z5 : X8.cell? ⟨z, 5, none⟩ = some _ := cell_of_row X8 _ 5 _ _ _ kzX
      have y5 := frozen_row kzX 5
      have z6 : X8.cell? ⟨z, 6, none⟩ = some _ := cell_of_row X8 _ 6 _ _ _ kzX
      have y6 := frozen_row kzX 6
      have z7 : X8.cell? ⟨z, 7, none⟩ = some _ := cell_of_row X8 _ 7 _ _ _ kzX
      have y7 := frozen_row kzX 7
      have z8 : X8.cell? ⟨z, 8, none⟩ = some _ := cell_of_row X8 _ 8 _ _ _ kzX
      have y8 := frozen_row kzX 8
      have z9 : X8.cell? ⟨z, 9, none⟩ = some _ := cell_of_row X8 _ 9 _ _ _ kzX
      have y9 := frozen_row kzX 9
      have z10 : X8.cell? ⟨z, 10, none⟩ = some _ := cell_of_row X8 _ 10 _ _ _ kzX
      have y10 := frozen_row kzX 10
      have hlw := hls
      clear kzX kcX hls
      go_wp2_with fail
      refine bodyPost_ret (v := .tuple #[Msg.V Msg.zero (.slice none 0 0) (.slice none 0 0), .int .i64 281]) ?_ rfl ?_
      · simp only [results]
        go_simp
      · rw [← hf2.out]
        refine ⟨rfl, ?_⟩
        iterate 11 refine Later.setCell ?_ hWz _
        exact hlw
  · have hk1 : ((k : Int) == 1) = false := by rw [beq_eq_false_iff_ne]; omega
    obtain ⟨⟨f, L4, b4⟩, hR4⟩ : ∃ R, rU 1000 L3 b3 = R := ⟨_, rfl⟩
    have hMf : Hid (rdFM k n y f L4 b4 = M) := Lib.hid (by rw [← hMe.out]; unfold rdBM; rw [if_neg k1, hR4])
    clear hMe
    go_wp2_with fail
    refine (hX.small (by omega) hR4).mono ?_
    rintro e w6 ⟨rfl, hX⟩
    clear c0 c1 c2 c3 c4 c5 c6 c7 c8 c9 c10
    have c0 : w6.cell? ⟨c, 0, none⟩ = some _ := hX.cell 0
    have c1 : w6.cell? ⟨c, 1, none⟩ = some _ := hX.cell 1
    have c2 : w6.cell? ⟨c, 2, none⟩ = some _ := hX.cell 2
    have c3 : w6.cell? ⟨c, 3, none⟩ = some _ := hX.cell 3
    have c4 : w6.cell? ⟨c, 4, none⟩ = some _ := hX.cell 4
    have c5 : w6.cell? ⟨c, 5, none⟩ = some _ := hX.cell 5
    have c6 : w6.cell? ⟨c, 6, none⟩ = some _ := hX.cell 6
    have c7 : w6.cell? ⟨c, 7, none⟩ = some _ := hX.cell 7
    have c8 : w6.cell? ⟨c, 8, none⟩ = some _ := hX.cell 8
    have c9 : w6.cell? ⟨c, 9, none⟩ = some _ := hX.cell 9
    have c10 : w6.cell? ⟨c, 10, none⟩ = some _ := hX.cell 10
    have ff := hX.fz 4
    replace hX := hX.set 4 (.int .i64 f)
    simp only [List.setIfInBounds_toArray, List.set_cons_zero, List.set_cons_succ] at hX
    by_cases k4 : k = 4
    · subst k4
      obtain ⟨⟨r5, L5, b5⟩, hR5⟩ : ∃ R, rU 6 L4 b4 = R := ⟨_, rfl⟩
      obtain ⟨⟨r6, L6, b6⟩, hR6⟩ : ∃ R, rU 63 L5 b5 = R := ⟨_, rfl⟩
      obtain ⟨⟨r7, L7, b7⟩, hR7⟩ : ∃ R, rU 63 L6 b6 = R := ⟨_, rfl⟩
      obtain ⟨⟨r8, L8, b8⟩, hR8⟩ : ∃ R, rU 4096 L7 b7 = R := ⟨_, rfl⟩
      obtain ⟨⟨r9, L9, b9⟩, hR9⟩ : ∃ R, rU 4096 L8 b8 = R := ⟨_, rfl⟩
      obtain ⟨⟨D, LT, bT⟩, hRT⟩ : ∃ R, rT 70000 L9 b9 = R := ⟨_, rfl⟩
      obtain ⟨mm, hmm⟩ : ∃ mm : Msg, Hid (mm = ⟨4, n, y, [], f, r5, r6, r7, r8, r9, D⟩) := ⟨_, Lib.hid rfl⟩
      have hfin : Hid (fin mm LT bT = M) := Lib.hid (by
        rw [hmm.out, ← hMf.out]; unfold rdFM; rw [if_pos rfl]; unfold rd4M rdT
        rw [hR5]; dsimp only; rw [hR6]; dsimp only; rw [hR7]; dsimp only; rw [hR8]; dsimp only; rw [hR9]; dsimp only; rw [hRT])
      clear hMf
      have hDl : D.length ≤ 70000 := by have := rT_most 70000 L9 b9; rw [hRT] at this; exact this
      go_wp2_with fail
      refine (hX.small (by omega) hR5).mono ?_
      rintro e w7 ⟨rfl, hX⟩
      clear c0 c1 c2 c3 c4 c5 c6 c7 c8 c9 c10
      have c0 : w7.cell? ⟨c, 0, none⟩ = some _ := hX.cell 0
      have c1 : w7.cell? ⟨c, 1, none⟩ = some _ := hX.cell 1
      have c2 : w7.cell? ⟨c, 2, none⟩ = some _ := hX.cell 2
      have c3 : w7.cell? ⟨c, 3, none⟩ = some _ := hX.cell 3
      have c4 : w7.cell? ⟨c, 4, none⟩ = some _ := hX.cell 4
      have c5 : w7.cell? ⟨c, 5, none⟩ = some _ := hX.cell 5
      have c6 : w7.cell? ⟨c, 6, none⟩ = some _ := hX.cell 6
      have c7 : w7.cell? ⟨c, 7, none⟩ = some _ := hX.cell 7
      have c8 : w7.cell? ⟨c, 8, none⟩ = some _ := hX.cell 8
      have c9 : w7.cell? ⟨c, 9, none⟩ = some _ := hX.cell 9
      have c10 : w7.cell? ⟨c, 10, none⟩ = some _ := hX.cell 10
      have ff := hX.fz 5
      replace hX := hX.set 5 (.int .i64 r5)
      simp only [List.setIfInBounds_toArray, List.set_cons_zero, List.set_cons_succ] at hX
      go_wp2_with fail
      refine (hX.node hR6).mono ?_
      rintro e w8 ⟨rfl, hX⟩
      clear c0 c1 c2 c3 c4 c5 c6 c7 c8 c9 c10
      have c0 : w8.cell? ⟨c, 0, none⟩ = some _ := hX.cell 0
      have c1 : w8.cell? ⟨c, 1, none⟩ = some _ := hX.cell 1
      have c2 : w8.cell? ⟨c, 2, none⟩ = some _ := hX.cell 2
      have c3 : w8.cell? ⟨c, 3, none⟩ = some _ := hX.cell 3
      have c4 : w8.cell? ⟨c, 4, none⟩ = some _ := hX.cell 4
      have c5 : w8.cell? ⟨c, 5, none⟩ = some _ := hX.cell 5
      have c6 : w8.cell? ⟨c, 6, none⟩ = some _ := hX.cell 6
      have c7 : w8.cell? ⟨c, 7, none⟩ = some _ := hX.cell 7
      have c8 : w8.cell? ⟨c, 8, none⟩ = some _ := hX.cell 8
      have c9 : w8.cell? ⟨c, 9, none⟩ = some _ := hX.cell 9
      have c10 : w8.cell? ⟨c, 10, none⟩ = some _ := hX.cell 10
      have ff := hX.fz 6
      replace hX := hX.set 6 (.int .i64 r6)
      simp only [List.setIfInBounds_toArray, List.set_cons_zero, List.set_cons_succ] at hX
      go_wp2_with fail
      refine (hX.node hR7).mono ?_
      rintro e w9 ⟨rfl, hX⟩
      clear c0 c1 c2 c3 c4 c5 c6 c7 c8 c9 c10
      have c0 : w9.cell? ⟨c, 0, none⟩ = some _ := hX.cell 0
      have c1 : w9.cell? ⟨c, 1, none⟩ = some _ := hX.cell 1
      have c2 : w9.cell? ⟨c, 2, none⟩ = some _ := hX.cell 2
      have c3 : w9.cell? ⟨c, 3, none⟩ = some _ := hX.cell 3
      have c4 : w9.cell? ⟨c, 4, none⟩ = some _ := hX.cell 4
      have c5 : w9.cell? ⟨c, 5, none⟩ = some _ := hX.cell 5
      have c6 : w9.cell? ⟨c, 6, none⟩ = some _ := hX.cell 6
      have c7 : w9.cell? ⟨c, 7, none⟩ = some _ := hX.cell 7
      have c8 : w9.cell? ⟨c, 8, none⟩ = some _ := hX.cell 8
      have c9 : w9.cell? ⟨c, 9, none⟩ = some _ := hX.cell 9
      have c10 : w9.cell? ⟨c, 10, none⟩ = some _ := hX.cell 10
      have ff := hX.fz 7
      replace hX := hX.set 7 (.int .i64 r7)
      simp only [List.setIfInBounds_toArray, List.set_cons_zero, List.set_cons_succ] at hX
      go_wp2_with fail
      refine (hX.small (by omega) hR8).mono ?_
      rintro e w10 ⟨rfl, hX⟩
      go_wp2_with fail
      refine (hX.small (by omega) hR9).mono ?_
      rintro e w11 ⟨rfl, hX⟩
      clear c0 c1 c2 c3 c4 c5 c6 c7 c8 c9 c10
      have c0 : w11.cell? ⟨c, 0, none⟩ = some _ := hX.cell 0
      have c1 : w11.cell? ⟨c, 1, none⟩ = some _ := hX.cell 1
      have c2 : w11.cell? ⟨c, 2, none⟩ = some _ := hX.cell 2
      have c3 : w11.cell? ⟨c, 3, none⟩ = some _ := hX.cell 3
      have c4 : w11.cell? ⟨c, 4, none⟩ = some _ := hX.cell 4
      have c5 : w11.cell? ⟨c, 5, none⟩ = some _ := hX.cell 5
      have c6 : w11.cell? ⟨c, 6, none⟩ = some _ := hX.cell 6
      have c7 : w11.cell? ⟨c, 7, none⟩ = some _ := hX.cell 7
      have c8 : w11.cell? ⟨c, 8, none⟩ = some _ := hX.cell 8
      have c9 : w11.cell? ⟨c, 9, none⟩ = some _ := hX.cell 9
      have c10 : w11.cell? ⟨c, 10, none⟩ = some _ := hX.cell 10
      have ff8 := hX.fz 8
      have ff9 := hX.fz 9
      replace hX := (hX.set 8 (.int .i64 r8)).set 9 (.int .i64 r9)
      simp only [List.setIfInBounds_toArray, List.set_cons_zero, List.set_cons_succ] at hX
      have hBD : Byt D := by have := rT_byt 70000 L9 b9 hX.hb; rw [hRT] at this; exact this
      have hcl2 := hX.lt
      go_wp2_with fail
      refine (hX.text hRT).mono ?_
      rintro e w12 ⟨uT, rfl, hX, hrow⟩
      obtain ⟨mT, aT, qT, rfl⟩ := row_form hrow
      clear c0 c1 c2 c3 c4 c5 c6 c7 c8 c9 c10 ff8 ff9
      have c0 : w12.cell? ⟨c, 0, none⟩ = some _ := hX.cell 0
      have c1 : w12.cell? ⟨c, 1, none⟩ = some _ := hX.cell 1
      have c2 : w12.cell? ⟨c, 2, none⟩ = some _ := hX.cell 2
      have c3 : w12.cell? ⟨c, 3, none⟩ = some _ := hX.cell 3
      have c4 : w12.cell? ⟨c, 4, none⟩ = some _ := hX.cell 4
      have c5 : w12.cell? ⟨c, 5, none⟩ = some _ := hX.cell 5
      have c6 : w12.cell? ⟨c, 6, none⟩ = some _ := hX.cell 6
      have c7 : w12.cell? ⟨c, 7, none⟩ = some _ := hX.cell 7
      have c8 : w12.cell? ⟨c, 8, none⟩ = some _ := hX.cell 8
      have c9 : w12.cell? ⟨c, 9, none⟩ = some _ := hX.cell 9
      have c10 : w12.cell? ⟨c, 10, none⟩ = some _ := hX.cell 10
      have ff := hX.fz 10
      replace hX := hX.set 10 (.slice aT mT qT)
      simp only [List.setIfInBounds_toArray, List.set_cons_zero, List.set_cons_succ] at hX
      have hrow2 := ownsRow_setCell_below (a := ⟨c, 10, none⟩) (row_mono hrow (Nat.succ_le_of_lt hcl2)) (Nat.lt_succ_self c) (.slice aT mT qT)
      clear hrow hcl2
      go_upto_region 18 with fail
      obtain ⟨X8, hX8⟩ : ∃ X, X = w12.setCell ⟨c, 10, none⟩ (.slice aT mT qT) := ⟨_, rfl⟩
      rw [← hX8] at hX hrow2 ⊢
      clear hX8 c0 c1 c2 c3 c4 c5 c6 c7 c8 c9 c10 ff
      obtain ⟨vE, hvE⟩ := hX.rd
      have HE := Lib.hid (rend_any q vE _ _ _ hvE)
      have hrm : Hid (World.ownsRow X8 (c + 1) 3 1 (.slice none 0 0) (([] : List Int)).length (encI ([] : List Int))) := Lib.hid (World.ownsRow_nil _ _ _ _)
      have hrd : Hid (World.ownsRow X8 (c + 1) 5 1 (.slice aT mT qT) (D).length (encB D)) := Lib.hid hrow2
      have HF := fine_msg mm (.slice none 0 0) (.slice aT mT qT) X8 (by rw [hmm.out]; exact intsV_of_row hrm.out) (by rw [hmm.out]; exact (bytV_of_row hBD hrd.out).1) (by rw [hmm.out]; exact (show ([] : List Int).length ≤ 1000000 by simp)) (by rw [hmm.out]; exact (show D.length ≤ 1000000 by omega))
      have hVV : Msg.V mm (.slice none 0 0) (.slice aT mT qT) = Msg.V ⟨4, n, y, [], f, r5, r6, r7, r8, r9, D⟩ (.slice none 0 0) (.slice aT mT qT) := by rw [hmm.out]
      rw [hVV] at HF
      replace HF := Lib.hid HF
      clear hVV
      have kzX := hX.kz
      have kcX := hX.kc
      have hls := hX.ls
      have c0 : X8.cell? ⟨c, 0, none⟩ = some _ := hX.cell 0
      have c1 : X8.cell? ⟨c, 1, none⟩ = some _ := hX.cell 1
      have c2 : X8.cell? ⟨c, 2, none⟩ = some _ := hX.cell 2
      have c3 : X8.cell? ⟨c, 3, none⟩ = some _ := hX.cell 3
      have c4 : X8.cell? ⟨c, 4, none⟩ = some _ := hX.cell 4
      have c5 : X8.cell? ⟨c, 5, none⟩ = some _ := hX.cell 5
      have c6 : X8.cell? ⟨c, 6, none⟩ = some _ := hX.cell 6
      have c7 : X8.cell? ⟨c, 7, none⟩ = some _ := hX.cell 7
      have c8 : X8.cell? ⟨c, 8, none⟩ = some _ := hX.cell 8
      have c9 : X8.cell? ⟨c, 9, none⟩ = some _ := hX.cell 9
      have c10 : X8.cell? ⟨c, 10, none⟩ = some _ := hX.cell 10
      clear hvE hX
      by_cases hE : rE LT bT = 0 ∧ True
      · have hE1 := hE.1
        rw [hE1] at HE
        by_cases hMay : Msg.May mm
        · have hf2 := (fin_yes (m := mm) hE1 hMay).symm.trans hfin.out
          clear hfin
          have HF2 := HF.out
          rw [decide_eq_true hMay] at HF2
          replace HF2 := Lib.hid HF2
          replace hf2 := Lib.hid hf2
          clear hE hE1 HF hMay
          go_wp2_with fail
          refine HE.out.mono ?_
          rintro e w7 ⟨rfl, rfl⟩
          go_wp2_with fail
          refine HF2.out.mono ?_
          rintro e w8 ⟨rfl, hl8⟩
          replace kzX := (hl8.block z (Array.getElem?_eq_some_iff.1 kzX).1).trans kzX
          replace kcX := (hl8.block c (Array.getElem?_eq_some_iff.1 kcX).1).trans kcX
          clear c0 c1 c2 c3 c4 c5 c6 c7 c8 c9 c10 HE HF2
          have z0 : w8.cell? ⟨z, 0, none⟩ = some _ := cell_of_row w8 _ 0 _ _ _ kzX
          have y0 := frozen_row kzX 0
          have z1 : w8.cell? ⟨z, 1, none⟩ = some _ := cell_of_row w8 _ 1 _ _ _ kzX
          have y1 := frozen_row kzX 1
          have z2 : w8.cell? ⟨z, 2, none⟩ = some _ := cell_of_row w8 _ 2 _ _ _ kzX
          have y2 := frozen_row kzX 2
          have z3 : w8.cell? ⟨z, 3, none⟩ = some _ := cell_of_row w8 _ 3 _ _ _ kzX
          have y3 := frozen_row kzX 3
          have z4 : w8.cell? ⟨z, 4, none⟩ = some _ := cell_of_row w8 _ 4 _ _ _ kzX
          have y4 := frozen_row kzX 4
          have z5 : w8.cell? ⟨z, 5, none⟩ = some _ := cell_of_row w8 _ 5 _ _ _ kzX
          have y5 := frozen_row kzX 5
          have z6 : w8.cell? ⟨z, 6, none⟩ = some _ := cell_of_row w8 _ 6 _ _ _ kzX
          have y6 := frozen_row kzX 6
          have z7 : w8.cell? ⟨z, 7, none⟩ = some _ := cell_of_row w8 _ 7 _ _ _ kzX
          have y7 := frozen_row kzX 7
          have z8 : w8.cell? ⟨z, 8, none⟩ = some _ := cell_of_row w8 _ 8 _ _ _ kzX
          have y8 := frozen_row kzX 8
          have z9 : w8.cell? ⟨z, 9, none⟩ = some _ := cell_of_row w8 _ 9 _ _ _ kzX
          have y9 := frozen_row kzX 9
          have z10 : w8.cell? ⟨z, 10, none⟩ = some _ := cell_of_row w8 _ 10 _ _ _ kzX
          have y10 := frozen_row kzX 10
          have c0 : w8.cell? ⟨c, 0, none⟩ = some _ := cell_of_row w8 _ 0 _ _ _ kcX
          have c1 : w8.cell? ⟨c, 1, none⟩ = some _ := cell_of_row w8 _ 1 _ _ _ kcX
          have c2 : w8.cell? ⟨c, 2, none⟩ = some _ := cell_of_row w8 _ 2 _ _ _ kcX
          have c3 : w8.cell? ⟨c, 3, none⟩ = some _ := cell_of_row w8 _ 3 _ _ _ kcX
          have c4 : w8.cell? ⟨c, 4, none⟩ = some _ := cell_of_row w8 _ 4 _ _ _ kcX
          have c5 : w8.cell? ⟨c, 5, none⟩ = some _ := cell_of_row w8 _ 5 _ _ _ kcX
          have c6 : w8.cell? ⟨c, 6, none⟩ = some _ := cell_of_row w8 _ 6 _ _ _ kcX
          have c7 : w8.cell? ⟨c, 7, none⟩ = some _ := cell_of_row w8 _ 7 _ _ _ kcX
          have c8 : w8.cell? ⟨c, 8, none⟩ = some _ := cell_of_row w8 _ 8 _ _ _ kcX
          have c9 : w8.cell? ⟨c, 9, none⟩ = some _ := cell_of_row w8 _ 9 _ _ _ kcX
          have c10 : w8.cell? ⟨c, 10, none⟩ = some _ := cell_of_row w8 _ 10 _ _ _ kcX
          have hlw := hls.trans hl8
          have hrm8 := Lib.hid (row_later hrm.out hl8)
          have hrd8 := Lib.hid (row_later hrd.out hl8)
          clear kzX kcX hls hl8 hrm hrd
          go_wp2_with fail
          refine bodyPost_ret (v := .tuple #[Msg.V ⟨4, n, y, [], f, r5, r6, r7, r8, r9, D⟩ (.slice none 0 0) (.slice aT mT qT), .int .i64 0]) ?_ rfl ?_
          · simp only [results]
            go_simp
          · rw [← hf2.out, hmm.out]
            refine ⟨⟨(.slice none 0 0), (.slice aT mT qT), rfl, row_mono ?_ hWc, row_mono ?_ hWc⟩, ?_⟩
            · iterate 11 refine ownsRow_setCell_below (a := ⟨z, _, none⟩) ?_ hzc _
              exact hrm8.out
            · iterate 11 refine ownsRow_setCell_below (a := ⟨z, _, none⟩) ?_ hzc _
              exact hrd8.out
            · iterate 11 refine Later.setCell ?_ hWz _
              exact hlw
        · have hf2 := (fin_m (m := mm) hMay).symm.trans hfin.out
          clear hfin
          have HF2 := HF.out
          rw [decide_eq_false hMay] at HF2
          replace HF2 := Lib.hid HF2
          replace hf2 := Lib.hid hf2
          clear hE hE1 HF hMay hrm hrd
          go_wp2_with fail
          refine HE.out.mono ?_
          rintro e w7 ⟨rfl, rfl⟩
          go_wp2_with fail
          refine HF2.out.mono ?_
          rintro e w8 ⟨rfl, hl8⟩
          replace kzX := (hl8.block z (Array.getElem?_eq_some_iff.1 kzX).1).trans kzX
          clear c0 c1 c2 c3 c4 c5 c6 c7 c8 c9 c10 HE HF2
          have z0 : w8.cell? ⟨z, 0, none⟩ = some _ := cell_of_row w8 _ 0 _ _ _ kzX
          have y0 := frozen_row kzX 0
          have z1 : w8.cell? ⟨z, 1, none⟩ = some _ := cell_of_row w8 _ 1 _ _ _ kzX
          have y1 := frozen_row kzX 1
          have z2 : w8.cell? ⟨z, 2, none⟩ = some _ := cell_of_row w8 _ 2 _ _ _ kzX
          have y2 := frozen_row kzX 2
          have z3 : w8.cell? ⟨z, 3, none⟩ = some _ := cell_of_row w8 _ 3 _ _ _ kzX
          have y3 := frozen_row kzX 3
          have z4 : w8.cell? ⟨z, 4, none⟩ = some _ := cell_of_row w8 _ 4 _ _ _ kzX
          have y4 := frozen_row kzX 4
          have z5 : w8.cell? ⟨z, 5, none⟩ = some _ := cell_of_row w8 _ 5 _ _ _ kzX
          have y5 := frozen_row kzX 5
          have z6 : w8.cell? ⟨z, 6, none⟩ = some _ := cell_of_row w8 _ 6 _ _ _ kzX
          have y6 := frozen_row kzX 6
          have z7 : w8.cell? ⟨z, 7, none⟩ = some _ := cell_of_row w8 _ 7 _ _ _ kzX
          have y7 := frozen_row kzX 7
          have z8 : w8.cell? ⟨z, 8, none⟩ = some _ := cell_of_row w8 _ 8 _ _ _ kzX
          have y8 := frozen_row kzX 8
          have z9 : w8.cell? ⟨z, 9, none⟩ = some _ := cell_of_row w8 _ 9 _ _ _ kzX
          have y9 := frozen_row kzX 9
          have z10 : w8.cell? ⟨z, 10, none⟩ = some _ := cell_of_row w8 _ 10 _ _ _ kzX
          have y10 := frozen_row kzX 10
          have hlw := hls.trans hl8
          clear kzX kcX hls hl8
          go_wp2_with fail
          refine bodyPost_ret (v := .tuple #[Msg.V Msg.zero (.slice none 0 0) (.slice none 0 0), .int .i64 281]) ?_ rfl ?_
          · simp only [results]
            go_simp
          · rw [← hf2.out]
            refine ⟨rfl, ?_⟩
            iterate 11 refine Later.setCell ?_ hWz _
            exact hlw
      · have hf2 := (fin_e (m := mm) (fun h => hE ⟨h, trivial⟩)).symm.trans hfin.out
        clear hfin
        have h50 := rE_50 (fun h => hE ⟨h, trivial⟩)
        rw [h50] at HE
        replace hf2 := Lib.hid hf2
        clear hE h50 HF hrm hrd
        go_wp2_with fail
        refine HE.out.mono ?_
        rintro e w7 ⟨rfl, rfl⟩
        clear c0 c1 c2 c3 c4 c5 c6 c7 c8 c9 c10 HE
        have z0 : X8.cell? ⟨z, 0, none⟩ = some _ := cell_of_row X8 _ 0 _ _ _ kzX
        have y0 := frozen_row kzX 0
        have z1 : X8.cell? ⟨z, 1, none⟩ = some _ := cell_of_row X8 _ 1 _ _ _ kzX
        have y1 := frozen_row kzX 1
        have z2 : X8.cell? ⟨z, 2, none⟩ = some _ := cell_of_row X8 _ 2 _ _ _ kzX
        have y2 := frozen_row kzX 2
        have z3 : X8.cell? ⟨z, 3, none⟩ = some _ := cell_of_row X8 _ 3 _ _ _ kzX
        have y3 := frozen_row kzX 3
        have z4 : X8.cell? ⟨z, 4, none⟩ = some _ := cell_of_row X8 _ 4 _ _ _ kzX
        have y4 := frozen_row kzX 4
        have z5 : X8.cell? ⟨z, 5, none⟩ = some _ := cell_of_row X8 _ 5 _ _ _ kzX
        have y5 := frozen_row kzX 5
        have z6 : X8.cell? ⟨z, 6, none⟩ = some _ := cell_of_row X8 _ 6 _ _ _ kzX
        have y6 := frozen_row kzX 6
        have z7 : X8.cell? ⟨z, 7, none⟩ = some _ := cell_of_row X8 _ 7 _ _ _ kzX
        have y7 := frozen_row kzX 7
        have z8 : X8.cell? ⟨z, 8, none⟩ = some _ := cell_of_row X8 _ 8 _ _ _ kzX
        have y8 := frozen_row kzX 8
        have z9 : X8.cell? ⟨z, 9, none⟩ = some _ := cell_of_row X8 _ 9 _ _ _ kzX
        have y9 := frozen_row kzX 9
        have z10 : X8.cell? ⟨z, 10, none⟩ = some _ := cell_of_row X8 _ 10 _ _ _ kzX
        have y10 := frozen_row kzX 10
        have hlw := hls
        clear kzX kcX hls
        go_wp2_with fail
        refine bodyPost_ret (v := .tuple #[Msg.V Msg.zero (.slice none 0 0) (.slice none 0 0), .int .i64 281]) ?_ rfl ?_
        · simp only [results]
          go_simp
        · rw [← hf2.out]
          refine ⟨rfl, ?_⟩
          iterate 11 refine Later.setCell ?_ hWz _
          exact hlw
    · have hk4 : ((k : Int) == 4) = false := by rw [beq_eq_false_iff_ne]; omega
      by_cases k5 : k = 5
      · subst k5
        obtain ⟨⟨r6, L6, b6⟩, hR6⟩ : ∃ R, rU 63 L4 b4 = R := ⟨_, rfl⟩
        obtain ⟨⟨r8, L8, b8⟩, hR8⟩ : ∃ R, rU 4096 L6 b6 = R := ⟨_, rfl⟩
        obtain ⟨⟨r9, L9, b9⟩, hR9⟩ : ∃ R, rU 4096 L8 b8 = R := ⟨_, rfl⟩
        obtain ⟨⟨D, LT, bT⟩, hRT⟩ : ∃ R, rT 70000 L9 b9 = R := ⟨_, rfl⟩
        obtain ⟨mm, hmm⟩ : ∃ mm : Msg, Hid (mm = ⟨5, n, y, [], f, 0, r6, 0, r8, r9, D⟩) := ⟨_, Lib.hid rfl⟩
        have hfin : Hid (fin mm LT bT = M) := Lib.hid (by
          rw [hmm.out, ← hMf.out]; unfold rdFM; rw [if_neg k4, if_pos rfl]; unfold rdT
          rw [hR6]; dsimp only; rw [hR8]; dsimp only; rw [hR9]; dsimp only; rw [hRT]; rfl)
        clear hMf
        have hDl : D.length ≤ 70000 := by have := rT_most 70000 L9 b9; rw [hRT] at this; exact this
        go_wp2_with fail
        refine (hX.node hR6).mono ?_
        rintro e w8 ⟨rfl, hX⟩
        clear c0 c1 c2 c3 c4 c5 c6 c7 c8 c9 c10
        have c0 : w8.cell? ⟨c, 0, none⟩ = some _ := hX.cell 0
        have c1 : w8.cell? ⟨c, 1, none⟩ = some _ := hX.cell 1
        have c2 : w8.cell? ⟨c, 2, none⟩ = some _ := hX.cell 2
        have c3 : w8.cell? ⟨c, 3, none⟩ = some _ := hX.cell 3
        have c4 : w8.cell? ⟨c, 4, none⟩ = some _ := hX.cell 4
        have c5 : w8.cell? ⟨c, 5, none⟩ = some _ := hX.cell 5
        have c6 : w8.cell? ⟨c, 6, none⟩ = some _ := hX.cell 6
        have c7 : w8.cell? ⟨c, 7, none⟩ = some _ := hX.cell 7
        have c8 : w8.cell? ⟨c, 8, none⟩ = some _ := hX.cell 8
        have c9 : w8.cell? ⟨c, 9, none⟩ = some _ := hX.cell 9
        have c10 : w8.cell? ⟨c, 10, none⟩ = some _ := hX.cell 10
        have ff := hX.fz 6
        replace hX := hX.set 6 (.int .i64 r6)
        simp only [List.setIfInBounds_toArray, List.set_cons_zero, List.set_cons_succ] at hX
        go_wp2_with fail
        refine (hX.small (by omega) hR8).mono ?_
        rintro e w10 ⟨rfl, hX⟩
        go_wp2_with fail
        refine (hX.small (by omega) hR9).mono ?_
        rintro e w11 ⟨rfl, hX⟩
        clear c0 c1 c2 c3 c4 c5 c6 c7 c8 c9 c10
        have c0 : w11.cell? ⟨c, 0, none⟩ = some _ := hX.cell 0
        have c1 : w11.cell? ⟨c, 1, none⟩ = some _ := hX.cell 1
        have c2 : w11.cell? ⟨c, 2, none⟩ = some _ := hX.cell 2
        have c3 : w11.cell? ⟨c, 3, none⟩ = some _ := hX.cell 3
        have c4 : w11.cell? ⟨c, 4, none⟩ = some _ := hX.cell 4
        have c5 : w11.cell? ⟨c, 5, none⟩ = some _ := hX.cell 5
        have c6 : w11.cell? ⟨c, 6, none⟩ = some _ := hX.cell 6
        have c7 : w11.cell? ⟨c, 7, none⟩ = some _ := hX.cell 7
        have c8 : w11.cell? ⟨c, 8, none⟩ = some _ := hX.cell 8
        have c9 : w11.cell? ⟨c, 9, none⟩ = some _ := hX.cell 9
        have c10 : w11.cell? ⟨c, 10, none⟩ = some _ := hX.cell 10
        have ff8 := hX.fz 8
        have ff9 := hX.fz 9
        replace hX := (hX.set 8 (.int .i64 r8)).set 9 (.int .i64 r9)
        simp only [List.setIfInBounds_toArray, List.set_cons_zero, List.set_cons_succ] at hX
        have hBD : Byt D := by have := rT_byt 70000 L9 b9 hX.hb; rw [hRT] at this; exact this
        have hcl2 := hX.lt
        go_wp2_with fail
        refine (hX.text hRT).mono ?_
        rintro e w12 ⟨uT, rfl, hX, hrow⟩
        obtain ⟨mT, aT, qT, rfl⟩ := row_form hrow
        clear c0 c1 c2 c3 c4 c5 c6 c7 c8 c9 c10 ff8 ff9
        have c0 : w12.cell? ⟨c, 0, none⟩ = some _ := hX.cell 0
        have c1 : w12.cell? ⟨c, 1, none⟩ = some _ := hX.cell 1
        have c2 : w12.cell? ⟨c, 2, none⟩ = some _ := hX.cell 2
        have c3 : w12.cell? ⟨c, 3, none⟩ = some _ := hX.cell 3
        have c4 : w12.cell? ⟨c, 4, none⟩ = some _ := hX.cell 4
        have c5 : w12.cell? ⟨c, 5, none⟩ = some _ := hX.cell 5
        have c6 : w12.cell? ⟨c, 6, none⟩ = some _ := hX.cell 6
        have c7 : w12.cell? ⟨c, 7, none⟩ = some _ := hX.cell 7
        have c8 : w12.cell? ⟨c, 8, none⟩ = some _ := hX.cell 8
        have c9 : w12.cell? ⟨c, 9, none⟩ = some _ := hX.cell 9
        have c10 : w12.cell? ⟨c, 10, none⟩ = some _ := hX.cell 10
        have ff := hX.fz 10
        replace hX := hX.set 10 (.slice aT mT qT)
        simp only [List.setIfInBounds_toArray, List.set_cons_zero, List.set_cons_succ] at hX
        have hrow2 := ownsRow_setCell_below (a := ⟨c, 10, none⟩) (row_mono hrow (Nat.succ_le_of_lt hcl2)) (Nat.lt_succ_self c) (.slice aT mT qT)
        clear hrow hcl2
        go_upto_region 18 with fail
        obtain ⟨X8, hX8⟩ : ∃ X, X = w12.setCell ⟨c, 10, none⟩ (.slice aT mT qT) := ⟨_, rfl⟩
        rw [← hX8] at hX hrow2 ⊢
        clear hX8 c0 c1 c2 c3 c4 c5 c6 c7 c8 c9 c10 ff
        obtain ⟨vE, hvE⟩ := hX.rd
        have HE := Lib.hid (rend_any q vE _ _ _ hvE)
        have hrm : Hid (World.ownsRow X8 (c + 1) 3 1 (.slice none 0 0) (([] : List Int)).length (encI ([] : List Int))) := Lib.hid (World.ownsRow_nil _ _ _ _)
        have hrd : Hid (World.ownsRow X8 (c + 1) 5 1 (.slice aT mT qT) (D).length (encB D)) := Lib.hid hrow2
        have HF := fine_msg mm (.slice none 0 0) (.slice aT mT qT) X8 (by rw [hmm.out]; exact intsV_of_row hrm.out) (by rw [hmm.out]; exact (bytV_of_row hBD hrd.out).1) (by rw [hmm.out]; exact (show ([] : List Int).length ≤ 1000000 by simp)) (by rw [hmm.out]; exact (show D.length ≤ 1000000 by omega))
        have hVV : Msg.V mm (.slice none 0 0) (.slice aT mT qT) = Msg.V ⟨5, n, y, [], f, 0, r6, 0, r8, r9, D⟩ (.slice none 0 0) (.slice aT mT qT) := by rw [hmm.out]
        rw [hVV] at HF
        replace HF := Lib.hid HF
        clear hVV
        have kzX := hX.kz
        have kcX := hX.kc
        have hls := hX.ls
        have c0 : X8.cell? ⟨c, 0, none⟩ = some _ := hX.cell 0
        have c1 : X8.cell? ⟨c, 1, none⟩ = some _ := hX.cell 1
        have c2 : X8.cell? ⟨c, 2, none⟩ = some _ := hX.cell 2
        have c3 : X8.cell? ⟨c, 3, none⟩ = some _ := hX.cell 3
        have c4 : X8.cell? ⟨c, 4, none⟩ = some _ := hX.cell 4
        have c5 : X8.cell? ⟨c, 5, none⟩ = some _ := hX.cell 5
        have c6 : X8.cell? ⟨c, 6, none⟩ = some _ := hX.cell 6
        have c7 : X8.cell? ⟨c, 7, none⟩ = some _ := hX.cell 7
        have c8 : X8.cell? ⟨c, 8, none⟩ = some _ := hX.cell 8
        have c9 : X8.cell? ⟨c, 9, none⟩ = some _ := hX.cell 9
        have c10 : X8.cell? ⟨c, 10, none⟩ = some _ := hX.cell 10
        clear hvE hX
        by_cases hE : rE LT bT = 0 ∧ True
        · have hE1 := hE.1
          rw [hE1] at HE
          by_cases hMay : Msg.May mm
          · have hf2 := (fin_yes (m := mm) hE1 hMay).symm.trans hfin.out
            clear hfin
            have HF2 := HF.out
            rw [decide_eq_true hMay] at HF2
            replace HF2 := Lib.hid HF2
            replace hf2 := Lib.hid hf2
            clear hE hE1 HF hMay
            go_wp2_with fail
            refine HE.out.mono ?_
            rintro e w7 ⟨rfl, rfl⟩
            go_wp2_with fail
            refine HF2.out.mono ?_
            rintro e w8 ⟨rfl, hl8⟩
            replace kzX := (hl8.block z (Array.getElem?_eq_some_iff.1 kzX).1).trans kzX
            replace kcX := (hl8.block c (Array.getElem?_eq_some_iff.1 kcX).1).trans kcX
            clear c0 c1 c2 c3 c4 c5 c6 c7 c8 c9 c10 HE HF2
            have z0 : w8.cell? ⟨z, 0, none⟩ = some _ := cell_of_row w8 _ 0 _ _ _ kzX
            have y0 := frozen_row kzX 0
            have z1 : w8.cell? ⟨z, 1, none⟩ = some _ := cell_of_row w8 _ 1 _ _ _ kzX
            have y1 := frozen_row kzX 1
            have z2 : w8.cell? ⟨z, 2, none⟩ = some _ := cell_of_row w8 _ 2 _ _ _ kzX
            have y2 := frozen_row kzX 2
            have z3 : w8.cell? ⟨z, 3, none⟩ = some _ := cell_of_row w8 _ 3 _ _ _ kzX
            have y3 := frozen_row kzX 3
            have z4 : w8.cell? ⟨z, 4, none⟩ = some _ := cell_of_row w8 _ 4 _ _ _ kzX
            have y4 := frozen_row kzX 4
            have z5 : w8.cell? ⟨z, 5, none⟩ = some _ := cell_of_row w8 _ 5 _ _ _ kzX
            have y5 := frozen_row kzX 5
            have z6 : w8.cell? ⟨z, 6, none⟩ = some _ := cell_of_row w8 _ 6 _ _ _ kzX
            have y6 := frozen_row kzX 6
            have z7 : w8.cell? ⟨z, 7, none⟩ = some _ := cell_of_row w8 _ 7 _ _ _ kzX
            have y7 := frozen_row kzX 7
            have z8 : w8.cell? ⟨z, 8, none⟩ = some _ := cell_of_row w8 _ 8 _ _ _ kzX
            have y8 := frozen_row kzX 8
            have z9 : w8.cell? ⟨z, 9, none⟩ = some _ := cell_of_row w8 _ 9 _ _ _ kzX
            have y9 := frozen_row kzX 9
            have z10 : w8.cell? ⟨z, 10, none⟩ = some _ := cell_of_row w8 _ 10 _ _ _ kzX
            have y10 := frozen_row kzX 10
            have c0 : w8.cell? ⟨c, 0, none⟩ = some _ := cell_of_row w8 _ 0 _ _ _ kcX
            have c1 : w8.cell? ⟨c, 1, none⟩ = some _ := cell_of_row w8 _ 1 _ _ _ kcX
            have c2 : w8.cell? ⟨c, 2, none⟩ = some _ := cell_of_row w8 _ 2 _ _ _ kcX
            have c3 : w8.cell? ⟨c, 3, none⟩ = some _ := cell_of_row w8 _ 3 _ _ _ kcX
            have c4 : w8.cell? ⟨c, 4, none⟩ = some _ := cell_of_row w8 _ 4 _ _ _ kcX
            have c5 : w8.cell? ⟨c, 5, none⟩ = some _ := cell_of_row w8 _ 5 _ _ _ kcX
            have c6 : w8.cell? ⟨c, 6, none⟩ = some _ := cell_of_row w8 _ 6 _ _ _ kcX
            have c7 : w8.cell? ⟨c, 7, none⟩ = some _ := cell_of_row w8 _ 7 _ _ _ kcX
            have c8 : w8.cell? ⟨c, 8, none⟩ = some _ := cell_of_row w8 _ 8 _ _ _ kcX
            have c9 : w8.cell? ⟨c, 9, none⟩ = some _ := cell_of_row w8 _ 9 _ _ _ kcX
            have c10 : w8.cell? ⟨c, 10, none⟩ = some _ := cell_of_row w8 _ 10 _ _ _ kcX
            have hlw := hls.trans hl8
            have hrm8 := Lib.hid (row_later hrm.out hl8)
            have hrd8 := Lib.hid (row_later hrd.out hl8)
            clear kzX kcX hls hl8 hrm hrd
            go_wp2_with fail
            refine bodyPost_ret (v := .tuple #[Msg.V ⟨5, n, y, [], f, 0, r6, 0, r8, r9, D⟩ (.slice none 0 0) (.slice aT mT qT), .int .i64 0]) ?_ rfl ?_
            · simp only [results]
              go_simp
            · rw [← hf2.out, hmm.out]
              refine ⟨⟨(.slice none 0 0), (.slice aT mT qT), rfl, row_mono ?_ hWc, row_mono ?_ hWc⟩, ?_⟩
              · iterate 11 refine ownsRow_setCell_below (a := ⟨z, _, none⟩) ?_ hzc _
                exact hrm8.out
              · iterate 11 refine ownsRow_setCell_below (a := ⟨z, _, none⟩) ?_ hzc _
                exact hrd8.out
              · iterate 11 refine Later.setCell ?_ hWz _
                exact hlw
          · have hf2 := (fin_m (m := mm) hMay).symm.trans hfin.out
            clear hfin
            have HF2 := HF.out
            rw [decide_eq_false hMay] at HF2
            replace HF2 := Lib.hid HF2
            replace hf2 := Lib.hid hf2
            clear hE hE1 HF hMay hrm hrd
            go_wp2_with fail
            refine HE.out.mono ?_
            rintro e w7 ⟨rfl, rfl⟩
            go_wp2_with fail
            refine HF2.out.mono ?_
            rintro e w8 ⟨rfl, hl8⟩
            replace kzX := (hl8.block z (Array.getElem?_eq_some_iff.1 kzX).1).trans kzX
            clear c0 c1 c2 c3 c4 c5 c6 c7 c8 c9 c10 HE HF2
            have z0 : w8.cell? ⟨z, 0, none⟩ = some _ := cell_of_row w8 _ 0 _ _ _ kzX
            have y0 := frozen_row kzX 0
            have z1 : w8.cell? ⟨z, 1, none⟩ = some _ := cell_of_row w8 _ 1 _ _ _ kzX
            have y1 := frozen_row kzX 1
            have z2 : w8.cell? ⟨z, 2, none⟩ = some _ := cell_of_row w8 _ 2 _ _ _ kzX
            have y2 := frozen_row kzX 2
            have z3 : w8.cell? ⟨z, 3, none⟩ = some _ := cell_of_row w8 _ 3 _ _ _ kzX
            have y3 := frozen_row kzX 3
            have z4 : w8.cell? ⟨z, 4, none⟩ = some _ := cell_of_row w8 _ 4 _ _ _ kzX
            have y4 := frozen_row kzX 4
            have z5 : w8.cell? ⟨z, 5, none⟩ = some _ := cell_of_row w8 _ 5 _ _ _ kzX
            have y5 := frozen_row kzX 5
            have z6 : w8.cell? ⟨z, 6, none⟩ = some _ := cell_of_row w8 _ 6 _ _ _ kzX
            have y6 := frozen_row kzX 6
            have z7 : w8.cell? ⟨z, 7, none⟩ = some _ := cell_of_row w8 _ 7 _ _ _ kzX
            have y7 := frozen_row kzX 7
            have z8 : w8.cell? ⟨z, 8, none⟩ = some _ := cell_of_row w8 _ 8 _ _ _ kzX
            have y8 := frozen_row kzX 8
            have z9 : w8.cell? ⟨z, 9, none⟩ = some _ := cell_of_row w8 _ 9 _ _ _ kzX
            have y9 := frozen_row kzX 9
            have z10 : w8.cell? ⟨z, 10, none⟩ = some _ := cell_of_row w8 _ 10 _ _ _ kzX
            have y10 := frozen_row kzX 10
            have hlw := hls.trans hl8
            clear kzX kcX hls hl8
            go_wp2_with fail
            refine bodyPost_ret (v := .tuple #[Msg.V Msg.zero (.slice none 0 0) (.slice none 0 0), .int .i64 281]) ?_ rfl ?_
            · simp only [results]
              go_simp
            · rw [← hf2.out]
              refine ⟨rfl, ?_⟩
              iterate 11 refine Later.setCell ?_ hWz _
              exact hlw
        · have hf2 := (fin_e (m := mm) (fun h => hE ⟨h, trivial⟩)).symm.trans hfin.out
          clear hfin
          have h50 := rE_50 (fun h => hE ⟨h, trivial⟩)
          rw [h50] at HE
          replace hf2 := Lib.hid hf2
          clear hE h50 HF hrm hrd
          go_wp2_with fail
          refine HE.out.mono ?_
          rintro e w7 ⟨rfl, rfl⟩
          clear c0 c1 c2 c3 c4 c5 c6 c7 c8 c9 c10 HE
          have z0 : X8.cell? ⟨z, 0, none⟩ = some _ := cell_of_row X8 _ 0 _ _ _ kzX
          have y0 := frozen_row kzX 0
          have z1 : X8.cell? ⟨z, 1, none⟩ = some _ := cell_of_row X8 _ 1 _ _ _ kzX
          have y1 := frozen_row kzX 1
          have z2 : X8.cell? ⟨z, 2, none⟩ = some _ := cell_of_row X8 _ 2 _ _ _ kzX
          have y2 := frozen_row kzX 2
          have z3 : X8.cell? ⟨z, 3, none⟩ = some _ := cell_of_row X8 _ 3 _ _ _ kzX
          have y3 := frozen_row kzX 3
          have z4 : X8.cell? ⟨z, 4, none⟩ = some _ := cell_of_row X8 _ 4 _ _ _ kzX
          have y4 := frozen_row kzX 4
          have z5 : X8.cell? ⟨z, 5, none⟩ = some _ := cell_of_row X8 _ 5 _ _ _ kzX
          have y5 := frozen_row kzX 5
          have z6 : X8.cell? ⟨z, 6, none⟩ = some _ := cell_of_row X8 _ 6 _ _ _ kzX
          have y6 := frozen_row kzX 6
          have z7 : X8.cell? ⟨z, 7, none⟩ = some _ := cell_of_row X8 _ 7 _ _ _ kzX
          have y7 := frozen_row kzX 7
          have z8 : X8.cell? ⟨z, 8, none⟩ = some _ := cell_of_row X8 _ 8 _ _ _ kzX
          have y8 := frozen_row kzX 8
          have z9 : X8.cell? ⟨z, 9, none⟩ = some _ := cell_of_row X8 _ 9 _ _ _ kzX
          have y9 := frozen_row kzX 9
          have z10 : X8.cell? ⟨z, 10, none⟩ = some _ := cell_of_row X8 _ 10 _ _ _ kzX
          have y10 := frozen_row kzX 10
          have hlw := hls
          clear kzX kcX hls
          go_wp2_with fail
          refine bodyPost_ret (v := .tuple #[Msg.V Msg.zero (.slice none 0 0) (.slice none 0 0), .int .i64 281]) ?_ rfl ?_
          · simp only [results]
            go_simp
          · rw [← hf2.out]
            refine ⟨rfl, ?_⟩
            iterate 11 refine Later.setCell ?_ hWz _
            exact hlw
      · have hk5 : ((k : Int) == 5) = false := by rw [beq_eq_false_iff_ne]; omega
        obtain ⟨mm, hmm⟩ : ∃ mm : Msg, Hid (mm = ⟨k, n, y, [], f, 0, 0, 0, 0, 0, []⟩) := ⟨_, Lib.hid rfl⟩
        have hfin : Hid (fin mm L4 b4 = M) := Lib.hid (by rw [hmm.out, ← hMf.out]; unfold rdFM; rw [if_neg k4, if_neg k5])
        clear hMf
        go_upto_region 18 with fail
        obtain ⟨X8, hX8⟩ : ∃ X, X = w6.setCell ⟨c, 4, none⟩ (.int .i64 f) := ⟨_, rfl⟩
        rw [← hX8] at hX ⊢
        clear hX8 c0 c1 c2 c3 c4 c5 c6 c7 c8 c9 c10 ff
        obtain ⟨vE, hvE⟩ := hX.rd
        have HE := Lib.hid (rend_any q vE _ _ _ hvE)
        have hrm : Hid (World.ownsRow X8 (c + 1) 3 1 (.slice none 0 0) (([] : List Int)).length (encI ([] : List Int))) := Lib.hid (World.ownsRow_nil _ _ _ _)
        have hrd : Hid (World.ownsRow X8 (c + 1) 5 1 (.slice none 0 0) (([] : List Int)).length (encB ([] : List Int))) := Lib.hid (World.ownsRow_nil _ _ _ _)
        have HF := fine_msg mm (.slice none 0 0) (.slice none 0 0) X8 (by rw [hmm.out]; exact intsV_of_row hrm.out) (by rw [hmm.out]; exact (bytV_of_row (fun x hx => by simp at hx) hrd.out).1) (by rw [hmm.out]; exact (show ([] : List Int).length ≤ 1000000 by simp)) (by rw [hmm.out]; exact (show ([] : List Int).length ≤ 1000000 by simp))
        have hVV : Msg.V mm (.slice none 0 0) (.slice none 0 0) = Msg.V ⟨k, n, y, [], f, 0, 0, 0, 0, 0, []⟩ (.slice none 0 0) (.slice none 0 0) := by rw [hmm.out]
        rw [hVV] at HF
        replace HF := Lib.hid HF
        clear hVV
        have kzX := hX.kz
        have kcX := hX.kc
        have hls := hX.ls
        have c0 : X8.cell? ⟨c, 0, none⟩ = some _ := hX.cell 0
        have c1 : X8.cell? ⟨c, 1, none⟩ = some _ := hX.cell 1
        have c2 : X8.cell? ⟨c, 2, none⟩ = some _ := hX.cell 2
        have c3 : X8.cell? ⟨c, 3, none⟩ = some _ := hX.cell 3
        have c4 : X8.cell? ⟨c, 4, none⟩ = some _ := hX.cell 4
        have c5 : X8.cell? ⟨c, 5, none⟩ = some _ := hX.cell 5
        have c6 : X8.cell? ⟨c, 6, none⟩ = some _ := hX.cell 6
        have c7 : X8.cell? ⟨c, 7, none⟩ = some _ := hX.cell 7
        have c8 : X8.cell? ⟨c, 8, none⟩ = some _ := hX.cell 8
        have c9 : X8.cell? ⟨c, 9, none⟩ = some _ := hX.cell 9
        have c10 : X8.cell? ⟨c, 10, none⟩ = some _ := hX.cell 10
        clear hvE hX
        by_cases hE : rE L4 b4 = 0 ∧ True
        · have hE1 := hE.1
          rw [hE1] at HE
          by_cases hMay : Msg.May mm
          · have hf2 := (fin_yes (m := mm) hE1 hMay).symm.trans hfin.out
            clear hfin
            have HF2 := HF.out
            rw [decide_eq_true hMay] at HF2
            replace HF2 := Lib.hid HF2
            replace hf2 := Lib.hid hf2
            clear hE hE1 HF hMay
            go_wp2_with fail
            refine HE.out.mono ?_
            rintro e w7 ⟨rfl, rfl⟩
            go_wp2_with fail
            refine HF2.out.mono ?_
            rintro e w8 ⟨rfl, hl8⟩
            replace kzX := (hl8.block z (Array.getElem?_eq_some_iff.1 kzX).1).trans kzX
            replace kcX := (hl8.block c (Array.getElem?_eq_some_iff.1 kcX).1).trans kcX
            clear c0 c1 c2 c3 c4 c5 c6 c7 c8 c9 c10 HE HF2
            have z0 : w8.cell? ⟨z, 0, none⟩ = some _ := cell_of_row w8 _ 0 _ _ _ kzX
            have y0 := frozen_row kzX 0
            have z1 : w8.cell? ⟨z, 1, none⟩ = some _ := cell_of_row w8 _ 1 _ _ _ kzX
            have y1 := frozen_row kzX 1
            have z2 : w8.cell? ⟨z, 2, none⟩ = some _ := cell_of_row w8 _ 2 _ _ _ kzX
            have y2 := frozen_row kzX 2
            have z3 : w8.cell? ⟨z, 3, none⟩ = some _ := cell_of_row w8 _ 3 _ _ _ kzX
            have y3 := frozen_row kzX 3
            have z4 : w8.cell? ⟨z, 4, none⟩ = some _ := cell_of_row w8 _ 4 _ _ _ kzX
            have y4 := frozen_row kzX 4
            have z5 : w8.cell? ⟨z, 5, none⟩ = some _ := cell_of_row w8 _ 5 _ _ _ kzX
            have y5 := frozen_row kzX 5
            have z6 : w8.cell? ⟨z, 6, none⟩ = some _ := cell_of_row w8 _ 6 _ _ _ kzX
            have y6 := frozen_row kzX 6
            have z7 : w8.cell? ⟨z, 7, none⟩ = some _ := cell_of_row w8 _ 7 _ _ _ kzX
            have y7 := frozen_row kzX 7
            have z8 : w8.cell? ⟨z, 8, none⟩ = some _ := cell_of_row w8 _ 8 _ _ _ kzX
            have y8 := frozen_row kzX 8
            have z9 : w8.cell? ⟨z, 9, none⟩ = some _ := cell_of_row w8 _ 9 _ _ _ kzX
            have y9 := frozen_row kzX 9
            have z10 : w8.cell? ⟨z, 10, none⟩ = some _ := cell_of_row w8 _ 10 _ _ _ kzX
            have y10 := frozen_row kzX 10
            have c0 : w8.cell? ⟨c, 0, none⟩ = some _ := cell_of_row w8 _ 0 _ _ _ kcX
            have c1 : w8.cell? ⟨c, 1, none⟩ = some _ := cell_of_row w8 _ 1 _ _ _ kcX
            have c2 : w8.cell? ⟨c, 2, none⟩ = some _ := cell_of_row w8 _ 2 _ _ _ kcX
            have c3 : w8.cell? ⟨c, 3, none⟩ = some _ := cell_of_row w8 _ 3 _ _ _ kcX
            have c4 : w8.cell? ⟨c, 4, none⟩ = some _ := cell_of_row w8 _ 4 _ _ _ kcX
            have c5 : w8.cell? ⟨c, 5, none⟩ = some _ := cell_of_row w8 _ 5 _ _ _ kcX
            have c6 : w8.cell? ⟨c, 6, none⟩ = some _ := cell_of_row w8 _ 6 _ _ _ kcX
            have c7 : w8.cell? ⟨c, 7, none⟩ = some _ := cell_of_row w8 _ 7 _ _ _ kcX
            have c8 : w8.cell? ⟨c, 8, none⟩ = some _ := cell_of_row w8 _ 8 _ _ _ kcX
            have c9 : w8.cell? ⟨c, 9, none⟩ = some _ := cell_of_row w8 _ 9 _ _ _ kcX
            have c10 : w8.cell? ⟨c, 10, none⟩ = some _ := cell_of_row w8 _ 10 _ _ _ kcX
            have hlw := hls.trans hl8
            have hrm8 := Lib.hid (row_later hrm.out hl8)
            have hrd8 := Lib.hid (row_later hrd.out hl8)
            clear kzX kcX hls hl8 hrm hrd
            go_wp2_with fail
            refine bodyPost_ret (v := .tuple #[Msg.V ⟨k, n, y, [], f, 0, 0, 0, 0, 0, []⟩ (.slice none 0 0) (.slice none 0 0), .int .i64 0]) ?_ rfl ?_
            · simp only [results]
              go_simp
            · rw [← hf2.out, hmm.out]
              refine ⟨⟨(.slice none 0 0), (.slice none 0 0), rfl, row_mono ?_ hWc, row_mono ?_ hWc⟩, ?_⟩
              · iterate 11 refine ownsRow_setCell_below (a := ⟨z, _, none⟩) ?_ hzc _
                exact hrm8.out
              · iterate 11 refine ownsRow_setCell_below (a := ⟨z, _, none⟩) ?_ hzc _
                exact hrd8.out
              · iterate 11 refine Later.setCell ?_ hWz _
                exact hlw
          · have hf2 := (fin_m (m := mm) hMay).symm.trans hfin.out
            clear hfin
            have HF2 := HF.out
            rw [decide_eq_false hMay] at HF2
            replace HF2 := Lib.hid HF2
            replace hf2 := Lib.hid hf2
            clear hE hE1 HF hMay hrm hrd
            go_wp2_with fail
            refine HE.out.mono ?_
            rintro e w7 ⟨rfl, rfl⟩
            go_wp2_with fail
            refine HF2.out.mono ?_
            rintro e w8 ⟨rfl, hl8⟩
            replace kzX := (hl8.block z (Array.getElem?_eq_some_iff.1 kzX).1).trans kzX
            clear c0 c1 c2 c3 c4 c5 c6 c7 c8 c9 c10 HE HF2
            have z0 : w8.cell? ⟨z, 0, none⟩ = some _ := cell_of_row w8 _ 0 _ _ _ kzX
            have y0 := frozen_row kzX 0
            have z1 : w8.cell? ⟨z, 1, none⟩ = some _ := cell_of_row w8 _ 1 _ _ _ kzX
            have y1 := frozen_row kzX 1
            have z2 : w8.cell? ⟨z, 2, none⟩ = some _ := cell_of_row w8 _ 2 _ _ _ kzX
            have y2 := frozen_row kzX 2
            have z3 : w8.cell? ⟨z, 3, none⟩ = some _ := cell_of_row w8 _ 3 _ _ _ kzX
            have y3 := frozen_row kzX 3
            have z4 : w8.cell? ⟨z, 4, none⟩ = some _ := cell_of_row w8 _ 4 _ _ _ kzX
            have y4 := frozen_row kzX 4
            have z5 : w8.cell? ⟨z, 5, none⟩ = some _ := cell_of_row w8 _ 5 _ _ _ kzX
            have y5 := frozen_row kzX 5
            have z6 : w8.cell? ⟨z, 6, none⟩ = some _ := cell_of_row w8 _ 6 _ _ _ kzX
            have y6 := frozen_row kzX 6
            have z7 : w8.cell? ⟨z, 7, none⟩ = some _ := cell_of_row w8 _ 7 _ _ _ kzX
            have y7 := frozen_row kzX 7
            have z8 : w8.cell? ⟨z, 8, none⟩ = some _ := cell_of_row w8 _ 8 _ _ _ kzX
            have y8 := frozen_row kzX 8
            have z9 : w8.cell? ⟨z, 9, none⟩ = some _ := cell_of_row w8 _ 9 _ _ _ kzX
            have y9 := frozen_row kzX 9
            have z10 : w8.cell? ⟨z, 10, none⟩ = some _ := cell_of_row w8 _ 10 _ _ _ kzX
            have y10 := frozen_row kzX 10
            have hlw := hls.trans hl8
            clear kzX kcX hls hl8
            go_wp2_with fail
            refine bodyPost_ret (v := .tuple #[Msg.V Msg.zero (.slice none 0 0) (.slice none 0 0), .int .i64 281]) ?_ rfl ?_
            · simp only [results]
              go_simp
            · rw [← hf2.out]
              refine ⟨rfl, ?_⟩
              iterate 11 refine Later.setCell ?_ hWz _
              exact hlw
        · have hf2 := (fin_e (m := mm) (fun h => hE ⟨h, trivial⟩)).symm.trans hfin.out
          clear hfin
          have h50 := rE_50 (fun h => hE ⟨h, trivial⟩)
          rw [h50] at HE
          replace hf2 := Lib.hid hf2
          clear hE h50 HF hrm hrd
          go_wp2_with fail
          refine HE.out.mono ?_
          rintro e w7 ⟨rfl, rfl⟩
          clear c0 c1 c2 c3 c4 c5 c6 c7 c8 c9 c10 HE
          have z0 : X8.cell? ⟨z, 0, none⟩ = some _ := cell_of_row X8 _ 0 _ _ _ kzX
          have y0 := frozen_row kzX 0
          have z1 : X8.cell? ⟨z, 1, none⟩ = some _ := cell_of_row X8 _ 1 _ _ _ kzX
          have y1 := frozen_row kzX 1
          have z2 : X8.cell? ⟨z, 2, none⟩ = some _ := cell_of_row X8 _ 2 _ _ _ kzX
          have y2 := frozen_row kzX 2
          have z3 : X8.cell? ⟨z, 3, none⟩ = some _ := cell_of_row X8 _ 3 _ _ _ kzX
          have y3 := frozen_row kzX 3
          have z4 : X8.cell? ⟨z, 4, none⟩ = some _ := cell_of_row X8 _ 4 _ _ _ kzX
          have y4 := frozen_row kzX 4
          have z5 : X8.cell? ⟨z, 5, none⟩ = some _ := cell_of_row X8 _ 5 _ _ _ kzX
          have y5 := frozen_row kzX 5
          have z6 : X8.cell? ⟨z, 6, none⟩ = some _ := cell_of_row X8 _ 6 _ _ _ kzX
          have y6 := frozen_row kzX 6
          have z7 : X8.cell? ⟨z, 7, none⟩ = some _ := cell_of_row X8 _ 7 _ _ _ kzX
          have y7 := frozen_row kzX 7
          have z8 : X8.cell? ⟨z, 8, none⟩ = some _ := cell_of_row X8 _ 8 _ _ _ kzX
          have y8 := frozen_row kzX 8
          have z9 : X8.cell? ⟨z, 9, none⟩ = some _ := cell_of_row X8 _ 9 _ _ _ kzX
          have y9 := frozen_row kzX 9
          have z10 : X8.cell? ⟨z, 10, none⟩ = some _ := cell_of_row X8 _ 10 _ _ _ kzX
          have y10 := frozen_row kzX 10
          have hlw := hls
          clear kzX kcX hls
          go_wp2_with fail
          refine bodyPost_ret (v := .tuple #[Msg.V Msg.zero (.slice none 0 0) (.slice none 0 0), .int .i64 281]) ?_ rfl ?_
          · simp only [results]
            go_simp
          · rw [← hf2.out]
            refine ⟨rfl, ?_⟩
            iterate 11 refine Later.setCell ?_ hWz _
            exact hlw
end Go.Proofs.Ytjelfiljebamgaa
