/-
  Chapter 21's law PieceForms: its walk.
-/
import Derived.Test.YtjelfiljebamgaaPcU
namespace Go.Proofs.Ytjelfiljebamgaa
open Go.RowKit Go.Shelf
set_option linter.unusedVariables false
set_option linter.unusedSimpArgs false
attribute [local go_sem] Oper.semAt_some

theorem Byt.one (x : Int) (hx : 0 ≤ x ∧ x < 256) : Byt [x] := fun y hy => by rw [List.mem_singleton] at hy; rw [hy]; exact hx
theorem bytV_cap {W : World} {a : Option Addr} {m q : Nat} {L : List Int} (h : BytV W (.slice a m q) L) : m = L.length ∧ m ≤ q := by
  obtain ⟨_, ao, cap, e, hc, _⟩ := h
  injection e with e1 e2 e3
  subst e1 e2 e3
  exact ⟨rfl, hc.1⟩
theorem own_form4 {W : World} {base e k size : Nat} {v : Value} {xs : List Value} (h : W.ownsRow base e size v k xs) : ∃ m a q, v = .slice a m q := by
  obtain ⟨a, c, h⟩ := own_form h
  exact ⟨_, a, c, h⟩
theorem new_byte (W : World) (x : Int) (hx : 0 ≤ x ∧ x < 256) : BytV (W.alloc (.cells #[.int .u8 x] 5)) (.slice (some ⟨W.heap.size, 0, none⟩) 1 1) [x] := by
  refine ⟨fun y hy => by rw [List.mem_singleton] at hy; rw [hy]; exact hx, _, _, rfl, ⟨Nat.le_refl _, fun e => by cases e⟩, fun k hk => ⟨_, _, rfl, ?_⟩⟩
  have hk1 : k = 0 := by have : k < 1 := hk; omega
  subst hk1
  simp
set_option maxRecDepth 100000 in
set_option maxHeartbeats 2000000 in
theorem forms_walk (id at_ of : Int) (u : Value) (D : List Int) (v : Value) (B : List Int) (id2 : Int) (m : Value) (M : List Int) (s : Int) (W : World) (hid : 0 ≤ id) (hid2 : 0 ≤ id2) (hu : BytV W u D) (hv : BytV W v B) (hm : BytV W m M) :
    Calls Try.prog 3 #[pcV id at_ of u, v, .int .u64 id2, m, .int .i64 s] W fun e w' => e = .returned (.bool true) ∧ Later W w' := by
  obtain ⟨aD, cD, hue⟩ := bytV_form hu
  obtain ⟨aB, cB, hve⟩ := bytV_form hv
  obtain ⟨aM, cM, hme⟩ := bytV_form hm
  obtain ⟨nD, hnD⟩ : ∃ n, Hid (D.length = n) := ⟨_, rfl⟩
  obtain ⟨nB, hnB⟩ : ∃ n, Hid (B.length = n) := ⟨_, rfl⟩
  obtain ⟨nM, hnM⟩ : ∃ n, Hid (M.length = n) := ⟨_, rfl⟩
  rw [hnD.out] at hue
  rw [hnB.out] at hve
  rw [hnM.out] at hme
  obtain ⟨X0, hX0⟩ : ∃ X, X = W.alloc (.cells #[.int .u64 id, .int .i64 at_, .int .i64 of, u] 25) := ⟨_, rfl⟩
  have hl0 : Later W X0 := by rw [hX0]; exact (Later.refl _).alloc _
  have k0 : X0.heap[W.heap.size]? = some (.cells #[.int .u64 id, .int .i64 at_, .int .i64 of, u] 25 (0, 0)) := by rw [hX0]; exact push_new W _ rfl
  have hu0 := Lib.hid (hu.later hl0)
  have hv0 := Lib.hid (hv.later hl0)
  have hm0 := Lib.hid (hm.later hl0)
  clear hu hv hm
  subst hue hve hme
  go_enter Try.func3, Try.ntmps3
  go_upto_region 1 with fail
  rw [← hX0]
  obtain ⟨P, hP⟩ : ∃ P, Hid (W.heap.size = P) := ⟨_, rfl⟩
  rw [hP.out] at k0 ⊢
  clear hX0
  have p0 : X0.cell? ⟨P, 0, none⟩ = some (.int .u64 id) := cell_of_row _ _ 0 _ _ _ k0
  have p1 : X0.cell? ⟨P, 1, none⟩ = some (.int .i64 at_) := cell_of_row _ _ 1 _ _ _ k0
  have p2 : X0.cell? ⟨P, 2, none⟩ = some (.int .i64 of) := cell_of_row _ _ 2 _ _ _ k0
  have p3 : X0.cell? ⟨P, 3, none⟩ = some (.slice aD nD cD) := cell_of_row _ _ 3 _ _ _ k0
  by_cases hs : ¬ (nD ≤ 1000 ∧ nB ≤ 1500 ∧ nM ≤ 5000)
  · have hor : (decide ((1000 : Int) < nD) || decide ((1500 : Int) < nB) || decide ((5000 : Int) < nM)) = true := by
      rw [Bool.or_eq_true, Bool.or_eq_true, decide_eq_true_eq, decide_eq_true_eq, decide_eq_true_eq]; omega
    go_wp2_with fail
    all_goals
      first | (exfalso; omega) | (go_ret; exact ⟨rfl, hl0⟩)
  · rw [Classical.not_not] at hs
    obtain ⟨hsD, hsB, hsM⟩ := hs
    have d1 : decide ((1000 : Int) < nD) = false := decide_eq_false (by omega)
    have d2 : decide ((1500 : Int) < nB) = false := decide_eq_false (by omega)
    have d3 : decide ((5000 : Int) < nM) = false := decide_eq_false (by omega)
    go_upto_region 3 with fail
    have hDl : D.length ≤ 1000 := by rw [hnD.out]; exact hsD
    have hBl : B.length ≤ 1500 := by rw [hnB.out]; exact hsB
    have hMl : M.length ≤ 5000 := by rw [hnM.out]; exact hsM
    have o1 : Hid ((X0.alloc (.cells #[] 5)).ownsRow X0.heap.size 5 1 (.slice (some ⟨X0.heap.size, 0, none⟩) 0 0) ([] : List Int).length (encB [])) :=
      Lib.hid ⟨rfl, .inr ⟨_, _, _, rfl, Nat.le_refl _, heap_alloc_new _ _, Nat.le_refl _, by decide, rfl, rfl⟩⟩
    have b1 := Lib.hid (hv0.out.later ((Later.refl X0).alloc (.cells #[] 5)))
    have l1 : Hid (([] : List Int).length + (B).length ≤ 2000000) := Lib.hid (by simp; omega)
    have l2 : Hid (X0.heap.size ≤ (X0.alloc (.cells #[] 5)).heap.size) := Lib.hid (by simp)
    have l3 : Hid ((B).length + ([7] : List Int).length ≤ 2000000) := Lib.hid (by simp; omega)
    go_upto_region 4 with (first
      | (at_builtin; refine wpList_append_bytes rfl _ _ rfl X0.heap.size _ [] rfl o1.out _ rfl B b1.out l1.out l2.out ?_; intro vA wA hrA hgA hnA; have hlA := later_own ((Later.refl X0).alloc _) o1.out (Nat.le_refl _) hgA; rw [List.nil_append] at hrA; obtain ⟨mA, aA, qA, rfl⟩ := own_form4 hrA; have oA := Lib.hid (hrA.alloc (.cells #[.int .u8 7] 5)); have bA := Lib.hid (new_byte wA 7 (by decide)); have lA : Hid (X0.heap.size ≤ (wA.alloc (.cells #[.int .u8 7] 5)).heap.size) := Lib.hid (Nat.le_trans hlA.size (by simp)))
      | (at_builtin; refine wpList_append_bytes rfl _ _ rfl X0.heap.size _ B rfl oA.out _ rfl [7] bA.out l3.out lA.out ?_; intro vB w1 hrB hgB hnB; have hl1 := later_own (hlA.alloc _) oA.out (Nat.le_refl _) hgB; obtain ⟨m1, a1, q1, rfl⟩ := own_form4 hrB; have ho1 := Lib.hid hrB))
    clear o1 b1 l1 l2 l3 hrA hgA hnA hlA oA bA lA hrB hgB hnB
    have hm1 := Lib.hid (hm0.out.later hl1)
    have o1 : Hid ((w1.alloc (.cells #[] 5)).ownsRow w1.heap.size 5 1 (.slice (some ⟨w1.heap.size, 0, none⟩) 0 0) ([] : List Int).length (encB [])) :=
      Lib.hid ⟨rfl, .inr ⟨_, _, _, rfl, Nat.le_refl _, heap_alloc_new _ _, Nat.le_refl _, by decide, rfl, rfl⟩⟩
    have b1 := Lib.hid (hm1.out.later ((Later.refl w1).alloc (.cells #[] 5)))
    have l1 : Hid (([] : List Int).length + (M).length ≤ 2000000) := Lib.hid (by simp; omega)
    have l2 : Hid (w1.heap.size ≤ (w1.alloc (.cells #[] 5)).heap.size) := Lib.hid (by simp)
    have l3 : Hid ((M).length + ([8] : List Int).length ≤ 2000000) := Lib.hid (by simp; omega)
    go_upto_region 5 with (first
      | (at_builtin; refine wpList_append_bytes rfl _ _ rfl w1.heap.size _ [] rfl o1.out _ rfl M b1.out l1.out l2.out ?_; intro vA wA hrA hgA hnA; have hlA := later_own ((Later.refl w1).alloc _) o1.out (Nat.le_refl _) hgA; rw [List.nil_append] at hrA; obtain ⟨mA, aA, qA, rfl⟩ := own_form4 hrA; have oA := Lib.hid (hrA.alloc (.cells #[.int .u8 8] 5)); have bA := Lib.hid (new_byte wA 8 (by decide)); have lA : Hid (w1.heap.size ≤ (wA.alloc (.cells #[.int .u8 8] 5)).heap.size) := Lib.hid (Nat.le_trans hlA.size (by simp)))
      | (at_builtin; refine wpList_append_bytes rfl _ _ rfl w1.heap.size _ M rfl oA.out _ rfl [8] bA.out l3.out lA.out ?_; intro vB w2 hrB hgB hnB; have hl2 := later_own (hlA.alloc _) oA.out (Nat.le_refl _) hgB; obtain ⟨m2, a2, q2, rfl⟩ := own_form4 hrB; have ho2 := Lib.hid hrB))
    clear o1 b1 l1 l2 l3 hrA hgA hnA hlA oA bA lA hrB hgB hnB
    clear hm1 p0 p1 p2 p3
    have kp2 := ((hl1.trans hl2).block P (Array.getElem?_eq_some_iff.1 k0).1).trans k0
    have p0 : w2.cell? ⟨P, 0, none⟩ = some (.int .u64 id) := cell_of_row _ _ 0 _ _ _ kp2
    have p1 : w2.cell? ⟨P, 1, none⟩ = some (.int .i64 at_) := cell_of_row _ _ 1 _ _ _ kp2
    have p2 : w2.cell? ⟨P, 2, none⟩ = some (.int .i64 of) := cell_of_row _ _ 2 _ _ _ kp2
    have p3 : w2.cell? ⟨P, 3, none⟩ = some (.slice aD nD cD) := cell_of_row _ _ 3 _ _ _ kp2
    go_upto_region 6 with fail
    obtain ⟨X3, hX3⟩ : ∃ X, X = w2.alloc (.cells #[.int .u64 id, .int .i64 at_, .int .i64 of, .slice aD nD cD] 25) := ⟨_, rfl⟩
    have hl3 : Later w2 X3 := by rw [hX3]; exact (Later.refl _).alloc _
    have kQ : X3.heap[w2.heap.size]? = some (.cells #[.int .u64 id, .int .i64 at_, .int .i64 of, .slice aD nD cD] 25 (0, 0)) := by rw [hX3]; exact push_new w2 _ rfl
    rw [← hX3]
    obtain ⟨Q, hQ⟩ : ∃ Q, Hid (w2.heap.size = Q) := ⟨_, rfl⟩
    rw [hQ.out] at kQ ⊢
    have kP3 := (hl3.block P (Array.getElem?_eq_some_iff.1 kp2).1).trans kp2
    clear hX3 p0 p1 p2 p3
    have p3 := ((Later.refl X3).alloc (.cells #[] 5)).cell (show X3.cell? ⟨P, 3, none⟩ = some (.slice aD nD cD) from cell_of_row _ _ 3 _ _ _ kP3)
    have hu3 := Lib.hid (hu0.out.later ((hl1.trans hl2).trans hl3))
    have hQl := (Array.getElem?_eq_some_iff.1 kQ).1
    have o1 : Hid ((X3.alloc (.cells #[] 5)).ownsRow X3.heap.size 5 1 (.slice (some ⟨X3.heap.size, 0, none⟩) 0 0) ([] : List Int).length (encB [])) :=
      Lib.hid ⟨rfl, .inr ⟨_, _, _, rfl, Nat.le_refl _, heap_alloc_new _ _, Nat.le_refl _, by decide, rfl, rfl⟩⟩
    have b1 := Lib.hid (hu3.out.later ((Later.refl X3).alloc (.cells #[] 5)))
    have l1 : Hid (([] : List Int).length + (D).length ≤ 2000000) := Lib.hid (by simp; omega)
    have l2 : Hid (X3.heap.size ≤ (X3.alloc (.cells #[] 5)).heap.size) := Lib.hid (by simp)
    go_upto_region 7 with (first
      | (at_builtin; refine wpList_append_bytes rfl _ _ rfl X3.heap.size _ [] rfl o1.out _ rfl D b1.out l1.out l2.out ?_; intro vA w4 hrA hgA hnA; have hl4 := later_own ((Later.refl X3).alloc _) o1.out (Nat.le_refl _) hgA; rw [List.nil_append] at hrA; obtain ⟨m4, a4, q4, rfl⟩ := own_form4 hrA; have ho4 := Lib.hid hrA; have kQ4 := (hl4.block Q (Array.getElem?_eq_some_iff.1 kQ).1).trans kQ; have q3 : w4.cell? ⟨Q, 3, none⟩ = some (.slice aD nD cD) := cell_of_row _ _ 3 _ _ _ kQ4; have f3 := frozen_row kQ4 3))
    clear o1 b1 l1 l2 hrA hgA hnA
    have bO := (bytV_of_row (hv0.out.1.append (Byt.one 7 (by decide))) ho1.out).1
    have bG := (bytV_of_row (hm0.out.1.append (Byt.one 8 (by decide))) ho2.out).1
    obtain ⟨X7, hX7⟩ : ∃ X, X = w4.setCell ⟨Q, 3, none⟩ (.slice a4 m4 q4) := ⟨_, rfl⟩
    have hl7 : Later w2 X7 := by rw [hX7]; exact (hl3.trans hl4).setCell (by rw [hQ.out]; exact Nat.le_refl _) _
    have hW7 : Later W X7 := hl0.trans ((hl1.trans hl2).trans hl7)
    have kP7 := (hl7.block P (Array.getElem?_eq_some_iff.1 kp2).1).trans kp2
    have kQ7 : X7.heap[Q]? = some (.cells #[.int .u64 id, .int .i64 at_, .int .i64 of, .slice a4 m4 q4] 25 (0, 0)) := by rw [hX7]; exact heap_set4 kQ4 3 _
    have bO7 := Lib.hid (bO.later (hl2.trans hl7))
    have bG7 := Lib.hid (bG.later hl7)
    have bQ7 : Hid (BytV X7 (.slice a4 m4 q4) D) := Lib.hid (by rw [hX7]; exact (bytV_of_row hu0.out.1 (ownsRow_setCell_below (a := ⟨Q, 3, none⟩) ho4.out hQl _)).1)
    have bP7 := Lib.hid (hu0.out.later ((hl1.trans hl2).trans hl7))
    have bB7 := Lib.hid (hv0.out.later ((hl1.trans hl2).trans hl7))
    have bM7 := Lib.hid (hm0.out.later ((hl1.trans hl2).trans hl7))
    rw [← hX7]
    obtain ⟨eO, cO⟩ := bytV_cap bO7.out
    obtain ⟨eG, cG⟩ := bytV_cap bG7.out
    have nO : nB ≤ m1 := by rw [eO, List.length_append, hnB.out]; exact Nat.le_add_right _ _
    have nG : nM ≤ m2 := by rw [eG, List.length_append, hnM.out]; exact Nat.le_add_right _ _
    obtain ⟨zO, hO⟩ := slice_high a1 m1 q1 nB nO cO
    obtain ⟨zG, hG⟩ := slice_high a2 m2 q2 nM nG cG
    have rO : ∀ W', _ := fun W' => (hO W').1
    have rG : ∀ W', _ := fun W' => (hG W').1
    have bO8 : Hid (BytV X7 (.slice zO nB q1) B) := Lib.hid (by have h := (hO X7).2 X7 _ eO.symm bO7.out; rw [List.take_left' hnB.out] at h; exact h)
    have bG8 : Hid (BytV X7 (.slice zG nM q2) M) := Lib.hid (by have h := (hG X7).2 X7 _ eG.symm bG7.out; rw [List.take_left' hnM.out] at h; exact h)
    obtain ⟨A, rA, hA, hAl, HA1, HA2⟩ := write_both id at_ of D hid hu0.out.1
    obtain ⟨I, a, o, E, rE, hE, hEl, HE1, HE2⟩ := read_both B hv0.out.1 (by omega)
    obtain ⟨Ls, rL, hLl, hLb, HL1, HL2⟩ := cut_both id2 M s hid2 hm0.out.1
    replace HA1 := Lib.hid HA1
    replace HA2 := Lib.hid HA2
    replace HE1 := Lib.hid HE1
    replace HE2 := Lib.hid HE2
    replace HL1 := Lib.hid HL1
    replace HL2 := Lib.hid HL2
    have hDb := Lib.hid hu0.out.1
    have hBb := Lib.hid hv0.out.1
    have hMb := Lib.hid hm0.out.1
    clear hX7 hl0 k0 hu0 hv0 hm0 hl1 hl2 hl3 hl4 hl7 kp2 kP3 kQ kQ4 hu3 hQl p3 q3 f3 bO bG ho1 ho2 ho4 hO hG nO nG eO eG cO cG d1 d2 d3
    have p0 : X7.cell? ⟨Q, 0, none⟩ = some (.int .u64 id) := cell_of_row _ _ 0 _ _ _ kQ7
    have p1 : X7.cell? ⟨Q, 1, none⟩ = some (.int .i64 at_) := cell_of_row _ _ 1 _ _ _ kQ7
    have p2 : X7.cell? ⟨Q, 2, none⟩ = some (.int .i64 of) := cell_of_row _ _ 2 _ _ _ kQ7
    have p3 : X7.cell? ⟨Q, 3, none⟩ = some (.slice a4 m4 q4) := cell_of_row _ _ 3 _ _ _ kQ7
    go_wp2_with fail
    refine (HA1.out X7 _ bQ7.out).mono ?_
    rintro e w8 ⟨vA, rfl, rA8, h8⟩
    obtain ⟨mA, aA, qA, rfl⟩ := own_form4 rA8
    have uA := Lib.hid (u8s_of rA8)
    have bA := Lib.hid (bytV_of_row hA rA8).1
    have kP8 := (h8.block P (Array.getElem?_eq_some_iff.1 kP7).1).trans kP7
    have h78 := h8
    clear HA1 p0 p1 p2 p3 rA8
    have p0 : w8.cell? ⟨P, 0, none⟩ = some (.int .u64 id) := cell_of_row _ _ 0 _ _ _ kP8
    have p1 : w8.cell? ⟨P, 1, none⟩ = some (.int .i64 at_) := cell_of_row _ _ 1 _ _ _ kP8
    have p2 : w8.cell? ⟨P, 2, none⟩ = some (.int .i64 of) := cell_of_row _ _ 2 _ _ _ kP8
    have p3 : w8.cell? ⟨P, 3, none⟩ = some (.slice aD nD cD) := cell_of_row _ _ 3 _ _ _ kP8
    go_wp2_with fail
    refine (HA2.out w8 _ (bP7.out.later h8)).mono ?_
    rintro e w9 ⟨vC, rfl, bC, h9⟩
    obtain ⟨mC, aC, qC, rfl⟩ := bytV_sl bC
    replace bC := Lib.hid bC
    replace uA := Lib.hid (uA.out.later h9)
    replace bA := Lib.hid (bA.out.later h9)
    have h79 := h8.trans h9
    clear HA2 p0 p1 p2 p3 h8 h9 kP8
    go_wp2_with fail
    refine (HE1.out w9 _ (bO8.out.later h79)).mono ?_
    rintro e w10 ⟨vd, rfl, rd10, h10⟩
    obtain ⟨md, ad, qd, rfl⟩ := own_form4 rd10
    replace rd10 := Lib.hid rd10
    go_upto_region 10 with fail
    obtain ⟨Xd, hXd⟩ : ∃ X, X = w10.alloc (.cells #[.int .u64 I, .int .i64 a, .int .i64 o, .slice ad md qd] 25) := ⟨_, rfl⟩
    have hld : Later w10 Xd := by rw [hXd]; exact (Later.refl _).alloc _
    have kd : Xd.heap[w10.heap.size]? = some (.cells #[.int .u64 I, .int .i64 a, .int .i64 o, .slice ad md qd] 25 (0, 0)) := by rw [hXd]; exact push_new w10 _ rfl
    have h7d := (h79.trans h10).trans hld
    replace uA := Lib.hid (uA.out.later (h10.trans hld))
    replace bA := Lib.hid (bA.out.later (h10.trans hld))
    replace bC := Lib.hid (bC.out.later (h10.trans hld))
    have ud := Lib.hid ((u8s_of rd10.out).later hld)
    have bd := Lib.hid ((bytV_of_row hE rd10.out).1.later hld)
    have hq7 : X7.heap.size ≤ w10.heap.size := (h79.trans h10).size
    have hb9 : X7.heap.size ≤ w9.heap.size := h79.size
    rw [← hXd]
    obtain ⟨d, hd⟩ : ∃ d, Hid (w10.heap.size = d) := ⟨_, rfl⟩
    rw [hd.out] at kd hq7 ⊢
    clear hXd rd10 h10 hld HE1 h79
    go_wp2_with fail
    refine (HE2.out Xd _ (bB7.out.later h7d)).mono ?_
    rintro e w11 ⟨vh, rfl, bh, h11⟩
    obtain ⟨mh, ah, qh, rfl⟩ := bytV_sl bh
    replace bh := Lib.hid bh
    go_upto_region 11 with fail
    obtain ⟨Xh, hXh⟩ : ∃ X, X = w11.alloc (.cells #[.int .u64 I, .int .i64 a, .int .i64 o, .slice ah mh qh] 25) := ⟨_, rfl⟩
    have hlh : Later w11 Xh := by rw [hXh]; exact (Later.refl _).alloc _
    have kh : Xh.heap[w11.heap.size]? = some (.cells #[.int .u64 I, .int .i64 a, .int .i64 o, .slice ah mh qh] 25 (0, 0)) := by rw [hXh]; exact push_new w11 _ rfl
    have hdh := h11.trans hlh
    replace kd := (hdh.block d (Array.getElem?_eq_some_iff.1 kd).1).trans kd
    have h7h := h7d.trans hdh
    replace uA := Lib.hid (uA.out.later hdh)
    replace bA := Lib.hid (bA.out.later hdh)
    replace bC := Lib.hid (bC.out.later hdh)
    replace ud := Lib.hid (ud.out.later hdh)
    replace bd := Lib.hid (bd.out.later hdh)
    replace bh := Lib.hid (bh.out.later hlh)
    rw [← hXh]
    obtain ⟨hc, hhc⟩ : ∃ d, Hid (w11.heap.size = d) := ⟨_, rfl⟩
    rw [hhc.out] at kh ⊢
    clear hXh h11 hlh hdh HE2 h7d
    go_wp2_with fail
    refine (HL1.out Xh _ (bG8.out.later h7h)).mono ?_
    rintro e w12 ⟨vl, vs, rfl, rl, pl, h12⟩
    obtain ⟨ml, al, ql, rfl⟩ := own_form4 rl
    go_wp2_with fail
    refine (HL2.out w12 _ (bM7.out.later (h7h.trans h12))).mono ?_
    rintro e w13 ⟨vk, rfl, bk, h13⟩
    obtain ⟨mk, ak, qk, rfl⟩ : ∃ m a q, vk = .slice a m q := by
      obtain ⟨ao, cap, e, _⟩ := bk
      exact ⟨_, ao, cap, e⟩
    have hB3 : Xh.heap.size ≤ Xh.heap.size := Nat.le_refl _
    have hb12 : X7.heap.size ≤ Xh.heap.size := h7h.size
    have ul := Lib.hid ((l8s_of rl pl hLb).later h13)
    have bl := Lib.hid ((bss_of rl pl (fun D hD => (hLb D hD).1)).later h13)
    replace bk := Lib.hid bk
    have hE3 := h12.trans h13
    replace kd := (hE3.block d (Array.getElem?_eq_some_iff.1 kd).1).trans kd
    replace kh := (hE3.block hc (Array.getElem?_eq_some_iff.1 kh).1).trans kh
    replace uA := Lib.hid (uA.out.later hE3)
    replace bA := Lib.hid (bA.out.later hE3)
    replace bC := Lib.hid (bC.out.later hE3)
    replace ud := Lib.hid (ud.out.later hE3)
    replace bd := Lib.hid (bd.out.later hE3)
    replace bh := Lib.hid (bh.out.later hE3)
    have h7 := h7h.trans hE3
    clear h12 h13 hE3 h7h HL1 HL2 rl pl
    have s1 : (convert 23 9 (.slice aA mA qA)).run Try.prog w13 = .ok (.string (strOfNums A)) w13 := bytV_string bA.out
    have s2 : (convert 23 9 (.slice aC mC qC)).run Try.prog w13 = .ok (.string (strOfNums A)) w13 := bytV_string bC.out
    have s3 : (convert 23 9 (.slice ad md qd)).run Try.prog w13 = .ok (.string (strOfNums E)) w13 := bytV_string bd.out
    have s4 : (convert 23 9 (.slice ah mh qh)).run Try.prog w13 = .ok (.string (strOfNums E)) w13 := bytV_string bh.out
    have e0 : w13.cell? ⟨d, 0, none⟩ = some (.int .u64 I) := cell_of_row _ _ 0 _ _ _ kd
    have e1 : w13.cell? ⟨d, 1, none⟩ = some (.int .i64 a) := cell_of_row _ _ 1 _ _ _ kd
    have e2 : w13.cell? ⟨d, 2, none⟩ = some (.int .i64 o) := cell_of_row _ _ 2 _ _ _ kd
    have e3 : w13.cell? ⟨d, 3, none⟩ = some (.slice ad md qd) := cell_of_row _ _ 3 _ _ _ kd
    have g0 : w13.cell? ⟨hc, 0, none⟩ = some (.int .u64 I) := cell_of_row _ _ 0 _ _ _ kh
    have g1 : w13.cell? ⟨hc, 1, none⟩ = some (.int .i64 a) := cell_of_row _ _ 1 _ _ _ kh
    have g2 : w13.cell? ⟨hc, 2, none⟩ = some (.int .i64 o) := cell_of_row _ _ 2 _ _ _ kh
    have g3 : w13.cell? ⟨hc, 3, none⟩ = some (.slice ah mh qh) := cell_of_row _ _ 3 _ _ _ kh
    go_wp2_with fail
    refine (lists_same _ _ Ls w13 bl.out bk.out (by omega)).mono ?_
    rintro e w14 ⟨rfl, h14⟩
    go_upto_region 15 with fail
    have em : md = E.length := (bytV_cap bd.out).1
    have eA : mA = A.length := (bytV_cap bA.out).1
    have el : ml = Ls.length := by
      obtain ⟨ao, cap, e, _⟩ := bl.out
      injection e
    have hmut : Mut X7 w14 (.slice ad md qd) md (.slice aA mA qA) mA (.slice al ml ql) ml d #[.int .u64 I, .int .i64 a, .int .i64 o, .slice ad md qd] :=
      ⟨h7.trans h14, by have h := (ud.out.mono hb9).later h14; rw [← em] at h; exact h, by have h := uA.out.later h14; rw [← eA] at h; exact h, by have h := (ul.out.mono hb12).later h14; rw [← el] at h; exact h, (h14.block d (Array.getElem?_eq_some_iff.1 kd).1).trans kd⟩
    have hmd : md ≤ 880 := by omega
    have hmA : mA ≤ 900 := by omega
    have hml : ml ≤ 4096 := by omega
    clear em eA el h7 h14 ud uA ul kd kh bd bA bC bh bl bk s1 s2 s3 s4 e0 e1 e2 e3 g0 g1 g2 g3 rO rG bO8 bG8
    have e3 : w14.cell? ⟨d, 3, none⟩ = some (.slice ad md qd) := cell_of_row _ _ 3 _ _ _ hmut.kd
    replace hmut := Lib.hid hmut
    as_aux_lemma =>
      go_upto_region 16 with fail
      clear e3
      go_loopg [26, 159] (md + 1) (fun g y26 y wr => Mut X7 wr (.slice ad md qd) md (.slice aA mA qA) mA (.slice al ml ql) ml d #[.int .u64 I, .int .i64 a, .int .i64 o, .slice ad md qd] ∧ ∃ i : Nat, g = md + 1 - i ∧ i ≤ md ∧ y = .int .i64 i)
      case atStart => exact ⟨hmut.out, 0, by omega, Nat.zero_le _, rfl⟩
      case round =>
        obtain ⟨hm, i, rfl, him, rfl⟩ := hrel
        obtain ⟨wo, rfl⟩ : ∃ wo : World, wo = wr := ⟨_, rfl⟩
        by_cases hi : i < md
        · have hii : (i : Int) < (md : Int) := by omega
          obtain ⟨g, cap, x, he, hge, hc, hf, hblk⟩ := hm.ud.at_ hi
          injection he with he1 he2 he3
          subst he1 he3
          have hl2 : Later wo wo.drew := (Later.refl _).drew
          obtain ⟨w2, hw2⟩ : ∃ X, X = wo.drew := ⟨_, rfl⟩
          rw [← hw2] at hl2
          have hm2 := hm.step hl2
          have e3 : w2.cell? ⟨d, 3, none⟩ = some (.slice (some ⟨g, 0, none⟩) md qd) := cell_of_row _ _ 3 _ _ _ hm2.kd
          have c1 := hl2.cell hc
          have f1 := hl2.frozen hc hf
          have hb2 : ∃ c, w2.heap[g]? = some (.cells c 5 (0, 0)) := by obtain ⟨c, h⟩ := hblk; exact ⟨c, (hl2.block g (Array.getElem?_eq_some_iff.1 h).1).trans h⟩
          replace hm2 := Lib.hid hm2
          clear hm hl2 hc hf hblk
          go_upto_region 18 with fail
          refine wp_region_still_tail 10 (by kernel_rfl) (by kernel_rfl) ?_
          change wpStill _ _ wo.drew (fun a' => wpList _ _ _ _ a' wo.drew) _ _
          rw [← hw2]
          clear hw2
          simp only [List.take_succ_cons, List.take_zero, List.drop_succ_cons, List.drop_zero]
          repeat still_step
          refine wpStill_nil ?_
          go_wp2_with fail
          go_roundg (md - i)
          case measure => omega
          case rel => exact ⟨hm2.out.set hge hb2 _ _, i + 1, by omega, by omega, by go_num⟩
        · obtain rfl : md = i := by omega
          have hii : ¬ (md : Int) < (md : Int) := by omega
          have hmut := Lib.hid hm
          clear hm
          go_upto_region 21 with fail
          as_aux_lemma =>
            go_loopg [27, 175] (mA + 1) (fun g y27 y wr => Mut X7 wr (.slice ad md qd) md (.slice aA mA qA) mA (.slice al ml ql) ml d #[.int .u64 I, .int .i64 a, .int .i64 o, .slice ad md qd] ∧ ∃ i : Nat, g = mA + 1 - i ∧ i ≤ mA ∧ y = .int .i64 i)
            case atStart => exact ⟨hmut.out, 0, by omega, Nat.zero_le _, rfl⟩
            case round =>
              clear hmut
              obtain ⟨hm, i, rfl, him, rfl⟩ := hrel
              obtain ⟨wo, rfl⟩ : ∃ wo : World, wo = wr := ⟨_, rfl⟩
              by_cases hi : i < mA
              · have hii : (i : Int) < (mA : Int) := by omega
                obtain ⟨g, cap, x, he, hge, hc, hf, hblk⟩ := hm.uA.at_ hi
                injection he with he1 he2 he3
                subst he1 he3
                replace hm := Lib.hid hm
                go_wp2_with fail
                go_roundg (mA - i)
                case measure => omega
                case rel => exact ⟨hm.out.set hge hblk _ _, i + 1, by omega, by omega, by go_num⟩
              · obtain rfl : mA = i := by omega
                have hii : ¬ (mA : Int) < (mA : Int) := by omega
                have hmut := Lib.hid hm
                clear hm
                go_upto_region 26 with fail
                as_aux_lemma =>
                  go_loopg [28, 29, 189, 197] (ml + 1) (fun g y28 y29 y y197 wr => Mut X7 wr (.slice ad md qd) md (.slice aA mA qA) mA (.slice al ml ql) ml d #[.int .u64 I, .int .i64 a, .int .i64 o, .slice ad md qd] ∧ ∃ j : Nat, g = ml + 1 - j ∧ j ≤ ml ∧ y = .int .i64 j)
                  case atStart => exact ⟨hmut.out, 0, by omega, Nat.zero_le _, rfl⟩
                  case round =>
                    clear hmut
                    obtain ⟨hm, j, rfl, hjm, rfl⟩ := hrel
                    obtain ⟨wo, rfl⟩ : ∃ wo : World, wo = wr := ⟨_, rfl⟩
                    by_cases hj : j < ml
                    · have hjj : (j : Int) < (ml : Int) := by omega
                      obtain ⟨gl, cl, uu, m, he, hcl, hmm, huu, cc, hbl⟩ := hm.ul.at_ hj
                      have hcj := (cell_of_row wo gl j _ _ _ hbl).symm.trans hcl
                      obtain ⟨au, qu, rfl⟩ := huu.form
                      injection he with he1 he2 he3
                      subst he1 he3
                      replace hm := Lib.hid hm
                      replace huu := Lib.hid huu
                      go_upto_region 29 with fail
                      clear hcl
                      go_loopg [29, 197] (m + 1) (fun g y29 y wr => Mut X7 wr (.slice ad md qd) md (.slice aA mA qA) mA (.slice (some ⟨gl, 0, none⟩) ml ql) ml d #[.int .u64 I, .int .i64 a, .int .i64 o, .slice ad md qd] ∧ (∃ c, wr.heap[gl]? = some (.cells c 23 (0, 0)) ∧ c[j]? = some (.slice au m qu)) ∧ U8s wr X7.heap.size (.slice au m qu) m ∧ ∃ i : Nat, g = m + 1 - i ∧ i ≤ m ∧ y = .int .i64 i)
                      case atStart => exact ⟨hm.out, ⟨_, hbl, hcj⟩, huu.out, 0, by omega, Nat.zero_le _, rfl⟩
                      case round =>
                        clear hm huu hbl hcj
                        obtain ⟨hm, ⟨cc, hbl, hcj⟩, huu, i, rfl, him, rfl⟩ := hrel
                        obtain ⟨wo, rfl⟩ : ∃ wo : World, wo = wr := ⟨_, rfl⟩
                        by_cases hi : i < m
                        · have hii : (i : Int) < (m : Int) := by omega
                          obtain ⟨g, cap, x, he, hge, hc, hf, hblk⟩ := huu.at_ hi
                          injection he with he1 he2 he3
                          subst he1 he3
                          have hl2 : Later wo wo.drew := (Later.refl _).drew
                          obtain ⟨w2, hw2⟩ : ∃ X, X = wo.drew := ⟨_, rfl⟩
                          rw [← hw2] at hl2
                          have hm2 := hm.step hl2
                          have hu2 := huu.later hl2
                          have hbl2 := (hl2.block gl (Array.getElem?_eq_some_iff.1 hbl).1).trans hbl
                          have e3 : w2.cell? ⟨gl, j, none⟩ = some (.slice (some ⟨g, 0, none⟩) m qu) := (cell_of_row w2 gl j _ _ _ hbl2).trans hcj
                          have c1 := hl2.cell hc
                          have f1 := hl2.frozen hc hf
                          have hb2 : ∃ c, w2.heap[g]? = some (.cells c 5 (0, 0)) := by obtain ⟨c, h⟩ := hblk; exact ⟨c, (hl2.block g (Array.getElem?_eq_some_iff.1 h).1).trans h⟩
                          replace hm2 := Lib.hid hm2
                          replace hu2 := Lib.hid hu2
                          clear hm hl2 hc hf hblk huu hbl
                          go_upto_region 31 with fail
                          refine wp_region_still_tail 14 (by kernel_rfl) (by kernel_rfl) ?_
                          change wpStill _ _ wo.drew (fun a' => wpList _ _ _ _ a' wo.drew) _ _
                          rw [← hw2]
                          clear hw2
                          simp only [List.take_succ_cons, List.take_zero, List.drop_succ_cons, List.drop_zero]
                          repeat still_step
                          refine wpStill_nil ?_
                          go_wp2_with fail
                          go_roundg (m - i)
                          case measure => omega
                          case rel => exact ⟨hm2.out.set hge hb2 _ _, ⟨_, set_other hb2 hbl2 _ _, hcj⟩, hu2.out.set _ _ _, i + 1, by omega, by omega, by go_num⟩
                        · obtain rfl : m = i := by omega
                          have hii : ¬ (m : Int) < (m : Int) := by omega
                          replace hm := Lib.hid hm
                          clear huu hbl hcj
                          go_wp2_with fail
                          go_roundg (ml - j)
                          case measure => omega
                          case rel => exact ⟨hm.out, j + 1, by omega, by omega, by go_num⟩
                    · obtain rfl : ml = j := by omega
                      have hjj : ¬ (ml : Int) < (ml : Int) := by omega
                      have hL := hm.later
                      have t1 : (convert 23 9 (.slice a1 m1 q1)).run Try.prog wo = .ok (.string (strOfNums (B ++ [7]))) wo := bytV_string (bO7.out.later hL)
                      have t2 : (convert 23 9 (.slice aB nB cB)).run Try.prog wo = .ok (.string (strOfNums B)) wo := bytV_string (bB7.out.later hL)
                      have t3 : (convert 23 9 (.slice a2 m2 q2)).run Try.prog wo = .ok (.string (strOfNums (M ++ [8]))) wo := bytV_string (bG7.out.later hL)
                      have t4 : (convert 23 9 (.slice aM nM cM)).run Try.prog wo = .ok (.string (strOfNums M)) wo := bytV_string (bM7.out.later hL)
                      have t5 : (convert 23 9 (.slice a4 m4 q4)).run Try.prog wo = .ok (.string (strOfNums D)) wo := bytV_string (bQ7.out.later hL)
                      have t6 : (convert 23 9 (.slice aD nD cD)).run Try.prog wo = .ok (.string (strOfNums D)) wo := bytV_string (bP7.out.later hL)
                      have e5 : wo.cell? ⟨Q, 3, none⟩ = some (.slice a4 m4 q4) := hL.cell (cell_of_row _ _ 3 _ _ _ kQ7)
                      have e6 : wo.cell? ⟨P, 3, none⟩ = some (.slice aD nD cD) := hL.cell (cell_of_row _ _ 3 _ _ _ kP7)
                      rw [strOf_snoc] at t1 t3
                      have z1 : ¬ 9223372036854775807 < (strOfNums B).size + 1 := by rw [strOfNums_size]; omega
                      have z2 : ¬ 9223372036854775807 < (strOfNums M).size + 1 := by rw [strOfNums_size]; omega
                      have hend := Lib.hid (hW7.trans hL)
                      clear hm hL
                      go_wp2_with fail
                      go_ret
                      exact ⟨rfl, hend.out⟩
end Go.Proofs.Ytjelfiljebamgaa
