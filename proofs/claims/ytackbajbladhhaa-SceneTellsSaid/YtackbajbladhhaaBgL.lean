/-
  The document's matrices: a matrix times a vector.
-/
import Derived.Test.YtackbajbladhhaaBgK
namespace Go.Proofs.Ytackbajbladhhaa
open Go.RowKit Go.Shelf
set_option linter.unusedVariables false
set_option linter.unusedSimpArgs false
attribute [local go_sem] Oper.semAt_some
attribute [-simp] Try.sizeOf167 Try.typeInfo167

theorem dotB_yes {a b : Nat → Int} (h : dotMay a b) : dotB a b = true := by
  unfold dotB; rw [decide_eq_true h.1, decide_eq_true h.2]; rfl
theorem dotB_no {a b : Nat → Int} (h : ¬ dotMay a b) : dotB a b = false := by
  unfold dotB
  by_cases h1 : -4611686018427387904 ≤ dotQ a b
  · rw [decide_eq_true h1, decide_eq_false (fun h2 => h ⟨h1, h2⟩)]; rfl
  · rw [decide_eq_false h1]; rfl
def aplYes (f v : Nat → Int) : Value := .tuple #[vecV (fun r => dotQ (rowOf f r) v), .int .i64 0]
def aplNo : Value := .tuple #[vecV (fun _ => 0), .int .i64 30]
set_option maxRecDepth 100000 in
set_option maxHeartbeats 4000000 in
theorem apply3_any (f v : Nat → Int) (W : World) (ans : Value) (hy : aplMay f v → ans = aplYes f v) (hn : ¬ aplMay f v → ans = aplNo) :
    Calls Try.prog 66 #[matV f, vecV v] W fun e w' => e = .returned ans ∧ Later W w' := by
  have hC1 := Lib.hid (fun W => within3_any f 4611686018427387904 W (by omega))
  have hC2 := Lib.hid (fun W => within3_any (one4 v) 4611686018427387904 W (by omega))
  obtain ⟨b1, hb1⟩ : ∃ b, Hid (decide (Within 4611686018427387904 16 f) = b) := ⟨_, rfl⟩
  obtain ⟨b2, hb2⟩ : ∃ b, Hid (decide (Within 4611686018427387904 16 (one4 v)) = b) := ⟨_, rfl⟩
  rw [hb1.out] at hC1
  rw [hb2.out] at hC2
  replace hy := Lib.hid hy
  replace hn := Lib.hid hn
  obtain ⟨X, hX⟩ : ∃ X, X = ((W.alloc (.cells (rowV 16 f) 25)).alloc (.cells #[.int .i64 (v 0), .int .i64 (v 1), .int .i64 (v 2), .int .i64 (v 3)] 23)).alloc (.cells #[.int .i64 0, .int .i64 0, .int .i64 0, .int .i64 0] 23) := ⟨_, rfl⟩
  have hlX : Later W X := by rw [hX]; exact (((Later.refl W).alloc _).alloc _).alloc _
  have kM : matB X W.heap.size f := by rw [hX]; exact push_one (push_one (heap_alloc_new _ _) _) _
  have kV : vecB X (W.heap.size + 1) 23 v := by rw [hX]; exact push_one (push_new _ _ (by simp)) _
  have kR : vecB X (W.heap.size + 1 + 1) 23 (fun _ => 0) := by rw [hX]; exact push_new _ _ (by simp)
  have hXs : X.heap.size = W.heap.size + 3 := by rw [hX]; simp
  go_enter Try.func66, Try.ntmps66
  go_upto_region 1 with fail
  rw [← hX]
  clear hX
  replace hXs := Lib.hid hXs
  first | go_step3 | skip
  go_wp2_with (refine wpList_load_row rfl _ _ rfl W.heap.size rfl _ _ (0, 0) _ kM Try.underlying25 rfl (size_mat f) ?_)
  refine (hC1.out _).mono ?_
  rintro e w1 ⟨rfl, hl1⟩
  have kM1 := Row.later kM hl1
  have kV1 := hl1.row kV
  have f1 := four_of_box kV1
  have v0 := f1 0 (by omega)
  have v1 := f1 1 (by omega)
  have v2 := f1 2 (by omega)
  have v3 := f1 3 (by omega)
  simp only [Nat.zero_add] at v0 v1 v2 v3
  have hbo := build_one v
  go_wp2_with fail
  refine (hC2.out _).mono ?_
  rintro e w2 ⟨rfl, hl2⟩
  have hlW := (hlX.trans hl1).trans hl2
  have hl12 := hl1.trans hl2
  replace kM := Row.later kM hl12
  replace kV := hl12.row kV
  replace kR : vecB w2 (W.heap.size + 1 + 1) 23 (fun _ => 0) := hl12.row kR
  have hw2 : W.heap.size + 3 ≤ w2.heap.size := by have := hl12.size; have := hXs.out; omega
  obtain ⟨N, hN⟩ : ∃ N, Hid (W.heap.size = N) := ⟨_, rfl⟩
  obtain ⟨V, hV⟩ : ∃ R, Hid (N + 1 = R) := ⟨_, rfl⟩
  obtain ⟨R, hR⟩ : ∃ R, Hid (V + 1 = R) := ⟨_, rfl⟩
  have hNW : W.heap.size ≤ N := Nat.le_of_eq hN.out
  have hNV : N < V := by have := hV.out; omega
  have hVR : V < R := by have := hR.out; omega
  rw [hN.out] at kM kV kR ⊢
  rw [hV.out] at kV kR ⊢
  rw [hR.out] at kR ⊢
  have hR2 : R < w2.heap.size := by have h1 := hN.out; have h2 := hV.out; have h3 := hR.out; omega
  have hWR : W.heap.size ≤ R := by omega
  clear hC1 hC2 hbo v0 v1 v2 v3 f1 kM1 kV1 hl1 hl2 hl12 hlX hXs hN hV hR hw2
  have f2 := four_of_box kR
  have r0 := f2 0 (by omega)
  have r1 := f2 1 (by omega)
  have r2 := f2 2 (by omega)
  have r3 := f2 3 (by omega)
  simp only [Nat.zero_add] at r0 r1 r2 r3
  have rf := fun k => frozen_r kR k
  cases b1
  · have hno : ans = aplNo := hn.out (fun h => of_decide_eq_false hb1.out h.1)
    replace hno := Lib.hid hno
    clear hy hn hb1 hb2 f2
    cases b2 <;> (
      go_wp2_with fail
      refine bodyPost_ret (v := .tuple #[vecV (fun _ => 0), .int .i64 30]) ?_ rfl ⟨by rw [hno.out]; rfl, ?_⟩
      · simp only [results]; go_simp
      · exact (((hlW.setCell (by show W.heap.size ≤ R; omega) _).setCell (by show W.heap.size ≤ R; omega) _).setCell (by show W.heap.size ≤ R; omega) _).setCell (by show W.heap.size ≤ R; omega) _)
  cases b2
  · have hno : ans = aplNo := hn.out (fun h => of_decide_eq_false hb2.out ((one4_within _ (by omega) v).2 h.2.1))
    replace hno := Lib.hid hno
    clear hy hn hb1 hb2 f2
    go_wp2_with fail
    refine bodyPost_ret (v := .tuple #[vecV (fun _ => 0), .int .i64 30]) ?_ rfl ⟨by rw [hno.out]; rfl, ?_⟩
    · simp only [results]; go_simp
    · exact (((hlW.setCell (by show W.heap.size ≤ R; omega) _).setCell (by show W.heap.size ≤ R; omega) _).setCell (by show W.heap.size ≤ R; omega) _).setCell (by show W.heap.size ≤ R; omega) _
  have hm1 := of_decide_eq_true hb1.out
  have hm2 := (one4_within _ (by omega) v).1 (of_decide_eq_true hb2.out)
  have hB : Within 4611686018427387904 4 v := hm2
  have hBr : ∀ r, r < 4 → Within 4611686018427387904 4 (rowOf f r) := fun r hr k hk => hm1 (r * 4 + k) (by omega)
  replace hm1 := Lib.hid hm1
  clear hb1 hb2 f2 r0 r1 r2 r3 rf
  go_upto_region 6 with fail
  obtain ⟨O, hO⟩ : ∃ O, Hid (w2.heap.size = O) := ⟨_, rfl⟩
  obtain ⟨Y, hY⟩ : ∃ Y, Y = w2.alloc (.cells #[.int .i64 0, .int .i64 0, .int .i64 0, .int .i64 0] 23) := ⟨_, rfl⟩
  rw [← hY]
  have kO : vecB Y w2.heap.size 23 (fun _ => 0) := by rw [hY]; exact heap_alloc_new _ _
  have hlY : Later w2 Y := by rw [hY]; exact (Later.refl w2).alloc _
  replace kM := Row.later kM hlY
  replace kV := hlY.row kV
  replace kR := hlY.row kR
  replace hlW := hlW.trans hlY
  rw [hO.out] at kO hR2 ⊢
  clear hY hlY hO
  replace kO : Row 23 4 Y O (fun _ => 0) := kO
  go_wp2_with fail
  go_loopw [9] (fun y wr => ∃ r : Nat, r ≤ 4 ∧ y = .int .i64 r ∧ Hid (∀ k, k < r → dotMay (rowOf f k) v) ∧ Row 23 4 wr O (fun k => if k < r then dotQ (rowOf f k) v else 0) ∧ matB wr N f ∧ vecB wr V 23 v ∧ vecB wr R 23 (fun _ => 0) ∧ Later W wr) (fun y _ => (300 - intOf y).toNat)
  case atStart => exact ⟨0, by omega, rfl, Lib.hid (fun k hk => by omega), kO.ext (fun k hk => by rw [if_neg (by omega)]), kM, kV, kR, hlW⟩
  case round =>
    clear kM kV kR kO hlW
    obtain ⟨r, hr, rfl, hall, kO, kM, kV, kR, hlW⟩ := hrel
    obtain ⟨wo, rfl⟩ : ∃ wo : World, wo = wr := ⟨_, rfl⟩
    by_cases hrN : r < 4
    · have hS := Lib.hid (fun W => sum3_any (rowOf f r) v W (hBr r hrN) hB)
      have hri : (r : Int) < 4 := by omega
      have c0 : wo.cell? ⟨N, r * 4, none⟩ = some (.int .i64 (rowOf f r 0)) := kM.cell (k := r * 4) (by omega)
      have c1 : wo.cell? ⟨N, r * 4 + 1, none⟩ = some (.int .i64 (rowOf f r 1)) := kM.cell (k := r * 4 + 1) (by omega)
      have c2 : wo.cell? ⟨N, r * 4 + 2, none⟩ = some (.int .i64 (rowOf f r 2)) := kM.cell (k := r * 4 + 2) (by omega)
      have c3 : wo.cell? ⟨N, r * 4 + 3, none⟩ = some (.int .i64 (rowOf f r 3)) := kM.cell (k := r * 4 + 3) (by omega)
      have f1 := four_of_box kV
      have v0 := f1 0 (by omega)
      have v1 := f1 1 (by omega)
      have v2 := f1 2 (by omega)
      have v3 := f1 3 (by omega)
      simp only [Nat.zero_add] at v0 v1 v2 v3
      clear f1
      obtain ⟨bb, hbb⟩ : ∃ d, Hid (dotB (rowOf f r) v = d) := ⟨_, rfl⟩
      obtain ⟨d, hd⟩ : ∃ d, Hid (dotQ (rowOf f r) v = d) := ⟨_, rfl⟩
      rw [hbb.out, hd.out] at hS
      obtain ⟨dd, hdd⟩ : ∃ x, Hid ((if bb then d else 0) = x) := ⟨_, rfl⟩
      rw [hdd.out] at hS
      go_wp2_with fail
      go_region_held3 (fun Z => Z.cell? ⟨N, r * 4, none⟩ = some (.int .i64 (rowOf f r 0)) ∧ Z.cell? ⟨N, r * 4 + 1, none⟩ = some (.int .i64 (rowOf f r 1)) ∧ Z.cell? ⟨N, r * 4 + 2, none⟩ = some (.int .i64 (rowOf f r 2)) ∧ Z.cell? ⟨N, r * 4 + 3, none⟩ = some (.int .i64 (rowOf f r 3)) ∧ Z.cell? ⟨V, 0, none⟩ = some (.int .i64 (v 0)) ∧ Z.cell? ⟨V, 1, none⟩ = some (.int .i64 (v 1)) ∧ Z.cell? ⟨V, 2, none⟩ = some (.int .i64 (v 2)) ∧ Z.cell? ⟨V, 3, none⟩ = some (.int .i64 (v 3))) ((go_split_ands; (repeat' apply And.intro) <;> first | assumption | exact (Later.refl _).drew.cell (by assumption) | exact ((Later.refl _).alloc _).cell (by assumption) | exact Later.cell hL (by assumption))) (first | (go_at_call 95; refine (hS.out _).mono ?_; rintro e V0 ⟨rfl, hL⟩; have hL1 := hL))
      have hl1 := (drew_later wo).trans hL1
      replace kO := Row.later kO hl1
      replace kM := Row.later kM hl1
      replace kV := hl1.row kV
      replace kR : vecB V0 R 23 (fun _ => 0) := hl1.row kR
      have hlW1 := hlW.trans hl1
      clear hS c0 c1 c2 c3 v0 v1 v2 v3
      cases bb
      · have hno : ans = aplNo := hn.out (fun h => by have h1 := dotB_yes (h.2.2 r hrN); rw [hbb.out] at h1; cases h1)
        replace hno := Lib.hid hno
        have f2 := four_of_box kR
        have r0 := f2 0 (by omega)
        have r1 := f2 1 (by omega)
        have r2 := f2 2 (by omega)
        have r3 := f2 3 (by omega)
        simp only [Nat.zero_add] at r0 r1 r2 r3
        have rf := fun k => frozen_r kR k
        clear hy hn f2 kO kM kV kR hall hdd hd hbb hlW hl1
        go_wp2_with fail
        refine bodyPost_ret (v := .tuple #[vecV (fun _ => 0), .int .i64 30]) ?_ rfl ⟨by rw [hno.out]; rfl, ?_⟩
        · simp only [results]; go_simp
        · exact (((hlW1.setCell (by show W.heap.size ≤ R; omega) _).setCell (by show W.heap.size ≤ R; omega) _).setCell (by show W.heap.size ≤ R; omega) _).setCell (by show W.heap.size ≤ R; omega) _
      · have hdm : dotMay (rowOf f r) v := Classical.byContradiction (fun h => by have h1 := dotB_no h; rw [hbb.out] at h1; cases h1)
        have hall2 : Hid (∀ k, k < r + 1 → dotMay (rowOf f k) v) := Lib.hid (fun k hk => by
          by_cases e : k = r
          · rw [e]; exact hdm
          · exact hall.out k (by omega))
        obtain rfl : d = dd := hdd.out
        have co := kO.cell hrN
        have cf := kO.frozen r
        have kOs := Row.set kO hrN d
        replace hdm := Lib.hid hdm
        clear hall hdm hdd
        go_wp2_with fail
        go_roundw
        case rel =>
          refine ⟨r + 1, by omega, by go_num, hall2, Row.ext kOs (fun k hk => ?_), (Below.heap_setCell _ _ _ _ (by show N ≠ O; omega)).trans kM, (Below.heap_setCell _ _ _ _ (by show V ≠ O; omega)).trans kV, (Below.heap_setCell _ _ _ _ (by show R ≠ O; omega)).trans kR, hlW1.setCell (by show W.heap.size ≤ O; omega) _⟩
          by_cases hkr : k = r
          · subst hkr; rw [if_pos rfl, if_pos (by omega), hd.out]
          · rw [if_neg hkr]
            by_cases h2 : k < r
            · rw [if_pos h2, if_pos (by omega)]
            · rw [if_neg h2, if_neg (by omega)]
        case measure => simp [intOf]; omega
    · obtain rfl : r = 4 := by omega
      have hyes : ans = aplYes f v := hy.out ⟨hm1.out, hm2, hall.out⟩
      replace hyes := Lib.hid hyes
      have kO4 : vecB wo O 23 (fun k => if k < 4 then dotQ (rowOf f k) v else 0) := kO
      have f1 := four_of_box kO4
      have o0 := f1 0 (by omega)
      have o1 := f1 1 (by omega)
      have o2 := f1 2 (by omega)
      have o3 := f1 3 (by omega)
      simp only [Nat.zero_add, show (0 : Nat) < 4 from by omega, show (1 : Nat) < 4 from by omega, show (2 : Nat) < 4 from by omega, show (3 : Nat) < 4 from by omega, if_true] at o0 o1 o2 o3
      have f2 := four_of_box kR
      have r0 := f2 0 (by omega)
      have r1 := f2 1 (by omega)
      have r2 := f2 2 (by omega)
      have r3 := f2 3 (by omega)
      simp only [Nat.zero_add] at r0 r1 r2 r3
      have rf := fun k => frozen_r kR k
      clear f1 f2 kO kO4 hy hn hall
      go_wp2_with fail
      refine bodyPost_ret (v := .tuple #[vecV (fun r => dotQ (rowOf f r) v), .int .i64 0]) ?_ rfl ⟨by rw [hyes.out]; rfl, ?_⟩
      · simp only [results]; go_simp
      · exact (((hlW.setCell (by show W.heap.size ≤ R; omega) _).setCell (by show W.heap.size ≤ R; omega) _).setCell (by show W.heap.size ≤ R; omega) _).setCell (by show W.heap.size ≤ R; omega) _
end Go.Proofs.Ytackbajbladhhaa
