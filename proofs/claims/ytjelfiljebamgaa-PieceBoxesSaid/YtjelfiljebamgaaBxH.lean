/-
  Chapter 21: a piece is put into a message that is open.
-/
import Derived.Test.YtjelfiljebamgaaBxG
namespace Go.Proofs.Ytjelfiljebamgaa
open Go.RowKit Go.Shelf Go.Maps
set_option linter.unusedVariables false
set_option linter.unusedSimpArgs false
attribute [local go_sem] Oper.semAt_some
attribute [-go_sem] Builtin.append_

def pcOf (b : List Int) : Pc := ⟨(rd1 b).1, (rd3 b).1, (rd2 b).1 + 1, (rd4 b).1⟩
theorem rd4_byt {b : List Int} (h : Byt b) : Byt (rd4 b).1 := rT_byt _ _ _ (rU_byt _ _ _ (rU_byt _ _ _ (rU_byt _ _ _ h)))
def PutPost (W : World) (x : Nat) (r : Int) (M : Bx) (n : Nat) (S T : Nat → Prop) (b : List Int) (e : Ending) (w' : World) : Prop :=
  ∃ v is er out M', e = .returned (.tuple #[v, .bool is, .int .i64 er]) ∧ pput M n r (pcOf b) = (out, is, er, M') ∧ Left W x r S T M' out v w'
set_option maxRecDepth 100000 in
set_option maxHeartbeats 2000000 in
theorem put_found (u : Value) (b : List Int) (x B n p : Nat) (r : Int) (D : DataW Unit) (f : Nat → Option Nat) (G : Nat → Nat) (M : Bx) (S T : Nat → Prop) (W : World) (h : BoxC W x r B D f G n M S T) (hu : BytV W u b) (hb : b.length ≤ 1000000) (hok : RdOk b) (hf : f (rd1 b).1 = some p) :
    Calls Try.prog 32 #[wp x, u] W (PutPost W x r M n S T b) := by
  have hbox := Lib.hid h
  have hby := rd4_byt hu.1
  have HR := read_yes u b W hu hb hok
  have hMay := hok.2
  have hpc : pcOf b = ⟨(rd1 b).1, (rd3 b).1, (rd2 b).1 + 1, (rd4 b).1⟩ := rfl
  obtain ⟨i, hi⟩ : ∃ i, (rd1 b).1 = i := ⟨_, rfl⟩
  obtain ⟨a, ha⟩ : ∃ a, (rd3 b).1 = a := ⟨_, rfl⟩
  obtain ⟨N, hN⟩ : ∃ N, (rd2 b).1 + 1 = N := ⟨_, rfl⟩
  obtain ⟨d, hd⟩ : ∃ d, (rd4 b).1 = d := ⟨_, rfl⟩
  have hcast : (((rd2 b).1 : Nat) : Int) + 1 = (N : Int) := by omega
  rw [hi, ha, hcast, hd] at HR hMay
  rw [hi, ha, hN, hd] at hpc
  rw [hi] at hf
  rw [hd] at hby
  unfold PutPost
  rw [hpc]
  clear hi ha hN hcast hd hpc hok
  replace HR := Lib.hid HR
  unfold May at hMay
  obtain ⟨m1, m2, m3, m4, m5, m6⟩ := hMay
  have hi62 : i < 18446744073709551616 := by omega
  have hi62h := Lib.hid hi62
  have haN := Lib.hid (show a < N by omega)
  have hx := h.cells
  have hroom := h.room.1
  have hx0 := hx.1
  go_enter Try.func32, Try.ntmps32
  go_wp2_with fail
  refine (none_no x r W hx0 hroom).mono ?_
  rintro e w0 ⟨rfl, hw0⟩
  obtain rfl : W = w0 := hw0.symm
  go_wp2_with fail
  refine HR.out.mono ?_
  rintro e w1 ⟨uD, rfl, hrD, hl1⟩
  obtain ⟨hvD, hinD⟩ := bytV_of_row hby hrD
  obtain ⟨nD, hnD⟩ : ∃ k, Hid (d.length = k) := ⟨_, Lib.hid rfl⟩
  obtain ⟨aoD, capD, hue⟩ := bytV_form hvD
  rw [hnD.out] at hue m6
  subst hue
  obtain ⟨I, hI⟩ : ∃ I : Int, Hid ((i : Int) = I) := ⟨_, Lib.hid rfl⟩
  obtain ⟨A, hA⟩ : ∃ A : Int, Hid ((a : Int) = A) := ⟨_, Lib.hid rfl⟩
  obtain ⟨Y, hYe⟩ : ∃ Y, Y = w1.alloc (.cells #[.int .u64 i, .int .i64 a, .int .i64 N, .slice aoD nD capD] 25) := ⟨_, rfl⟩
  go_wp2_with fail
  obtain ⟨P, hP⟩ : ∃ P, Hid (w1.heap.size = P) := ⟨_, Lib.hid rfl⟩
  have hlY : Later w1 Y := by rw [hYe]; exact (Later.refl _).alloc _
  have kP : Y.heap[P]? = some (.cells #[.int .u64 i, .int .i64 a, .int .i64 N, .slice aoD nD capD] 25 (0, 0)) := by rw [hYe]; exact push_new _ _ hP.out
  rw [← hYe, hP.out]
  clear hYe
  have hWP : Hid (W.heap.size ≤ P) := Lib.hid (by rw [← hP.out]; exact hl1.size)
  replace hvD := hvD.later hlY
  have hY := (h.later hl1).later hlY
  have hlWY := hl1.trans hlY
  have hPS : Hid (∀ k, S k ∨ T k → k < P) := Lib.hid (fun k hk => by have := h.lt k hk; have := hWP.out; omega)
  clear h hrD hl1 hlY hx hx0 hu HR hP
  have y0 : Y.cell? ⟨P, 0, none⟩ = some (.int .u64 i) := cell_of_row _ _ 0 _ _ _ kP
  have y1 : Y.cell? ⟨P, 1, none⟩ = some (.int .i64 a) := cell_of_row _ _ 1 _ _ _ kP
  have y2 : Y.cell? ⟨P, 2, none⟩ = some (.int .i64 N) := cell_of_row _ _ 2 _ _ _ kP
  have y3 : Y.cell? ⟨P, 3, none⟩ = some (.slice aoD nD capD) := cell_of_row _ _ 3 _ _ _ kP
  obtain ⟨x0, x1⟩ := hY.cells
  obtain ⟨m, hMi, hMB⟩ := hY.some' i p hf
  obtain ⟨⟨cap, vs, hm, hr, hp⟩, sp, sg, q1, q2, q3, q4⟩ := hMB
  have hlk := fun k => MapOk.look (P := Try.prog) (w := Y.drewN k) hY.ok (by exact hY.map) lawM Try.underlying76 (zeroM _) (keyM hi62)
  have epf : ptrF f i = wp p := by unfold ptrF; rw [hf]
  rw [epf] at hlk
  have hY0 := hY
  replace hY := Lib.hid hY
  replace hvD := Lib.hid hvD
  rw [hI.out] at y0 hlk ⊢
  rw [hA.out] at y1 ⊢
  go_quiet (fail)
  obtain ⟨Z, hZ⟩ : ∃ Z, Z = Y.drewN nq := ⟨_, rfl⟩
  have hYZ : Later Y Z := by rw [hZ]; exact (Later.refl _).drewN _
  rw [← hZ]
  clear hZ hlk
  replace kP := hYZ.obj kP
  replace hvD := Lib.hid (hvD.out.later hYZ)
  replace y0 := hYZ.cell y0
  replace y1 := hYZ.cell y1
  replace y2 := hYZ.cell y2
  replace y3 := hYZ.cell y3
  replace x0 := hYZ.cell x0
  replace x1 := hYZ.cell x1
  replace hY := Lib.hid (hY.out.later hYZ)
  replace hlWY := Lib.hid (hlWY.trans hYZ)
  replace hm := hYZ.obj hm
  replace hr := row_later hr hYZ
  replace hp := hp.stay (fun k hk => hYZ.block k (hY0.lt k (.inr hk)))
  clear hYZ
  obtain ⟨n0, hn0⟩ : ∃ k, Hid (m.l.length = k) := ⟨_, Lib.hid rfl⟩
  rw [hn0.out] at hm hr q1
  have c0 : Z.cell? ⟨p, 0, none⟩ = some (.slice (some ⟨G i, 0, none⟩) n0 cap) := cell_of_row _ _ 0 _ _ _ hm
  have c1 : Z.cell? ⟨p, 1, none⟩ = some (.int .i64 m.left) := cell_of_row _ _ 1 _ _ _ hm
  have c2 : Z.cell? ⟨p, 2, none⟩ = some (.int .i64 m.by') := cell_of_row _ _ 2 _ _ _ hm
  obtain ⟨g, hg⟩ : ∃ g, Hid (G i = g) := ⟨_, Lib.hid rfl⟩
  rw [hg.out] at c0 hm hr
  have HT := Lib.hid (there_any p g n0 cap a vs m.l T Z c0 hr hp hn0.out q1)
  obtain ⟨was, hwas⟩ : ∃ q, Hid ((m.l.getD a none).isSome = q) := ⟨_, Lib.hid rfl⟩
  rw [hwas.out, hA.out] at HT
  replace hr := Lib.hid hr
  replace hp := Lib.hid hp
  replace hm := Lib.hid hm
  go_wp2_with fail
  refine HT.out.mono ?_
  rintro e wz ⟨rfl, hwz⟩
  obtain rfl : Z = wz := hwz.symm
  clear HT hwz
  go_wp2_with fail
  by_cases hnN : n0 = N
  · obtain rfl : n0 = N := hnN
    cases was with
    | true =>
      have han : a < m.l.length := by
        rcases Nat.lt_or_ge a m.l.length with h | h
        · exact h
        · have := hwas.out
          rw [List.getD_eq_getElem?_getD, List.getElem?_eq_none h] at this
          cases this
      obtain ⟨v, hv1, hv2⟩ := hp.out.2 a han
      obtain ⟨da, hda⟩ := Option.isSome_iff_exists.1 hwas.out
      rw [hda] at hv2
      have hcell : Z.cell? ⟨g, A.toNat, none⟩ = some v := by rw [← hv1, ← hA.out, Int.toNat_natCast]; exact hr.out.cellAt a (by rw [← hn0.out]; omega)
      rw [hn0.out] at han
      have hii : A < (n0 : Int) := by rw [← hA.out]; omega
      have hi0 : 0 ≤ A := by rw [← hA.out]; omega
      have hEq := Lib.hid (fun k => equal_any v (.slice aoD nD capD) da d (Z.drewN k) (hv2.1.later ((Later.refl _).drewN k)) (hvD.out.later ((Later.refl _).drewN k)) (by have := hv2.2.2.2; omega) (by rw [hnD.out]; omega))
      obtain ⟨q, hq⟩ : ∃ q, Hid ((da == d) = q) := ⟨_, Lib.hid rfl⟩
      rw [hq.out] at hEq
      obtain ⟨vo, vn, vc, rfl⟩ := hv2.form
      replace hv2 := Lib.hid hv2
      replace hda := Lib.hid hda
      go_quiet (first | (go_at_call 66; refine Calls.quiet_of (hEq.out _)))
      have hl5 := hlWY.out.trans ((Later.refl Z).drewN nq)
      obtain ⟨V, hV⟩ : ∃ V, V = Z.drewN nq := ⟨_, rfl⟩
      rw [← hV] at hl5 ⊢
      clear hV hEq hcell hv1 han hii hi0 hi62 m1 m2 m3 m4 m5 m6
      cases q with
      | true =>
        go_wp2_with fail
        go_ret3
        exact ⟨_, _, _, [], M, rfl, pput_there (pclash_eq hMi hn0.out hda.out hq.out) ((pthere_at hMi).trans hwas.out), Left.same ⟨B, D, f, G, n, hbox.out⟩ hl5⟩
      | false =>
        go_wp2_with fail
        go_ret3
        exact ⟨_, _, _, [], M, rfl, pput_clash (pclash_ne hMi hn0.out hda.out hq.out), Left.same ⟨B, D, f, G, n, hbox.out⟩ hl5⟩
    | false =>
      have hat : m.l.getD a none = none := Option.not_isSome_iff_eq_none.1 (by rw [hwas.out]; simp)
      have hcl := Lib.hid (pclash_no (p := ⟨i, a, n0, d⟩) hMi hn0.out hat)
      have hth := Lib.hid ((pthere_at (p := ⟨i, a, n0, d⟩) hMi).trans hwas.out)
      go_quiet (fail)
      obtain ⟨V, hV⟩ : ∃ X, X = Z.drewN nq := ⟨_, rfl⟩
      have hZV : Later Z V := by rw [hV]; exact (Later.refl _).drewN _
      rw [← hV]
      clear hV
      replace hY := Lib.hid (hY.out.later hZV)
      replace hlWY := Lib.hid (hlWY.out.trans hZV)
      replace hm := Lib.hid (hZV.obj hm.out)
      replace hr := Lib.hid (row_later hr.out hZV)
      replace hp := Lib.hid (hp.out.stay (fun k hk => hZV.block k (Nat.lt_trans (hPS.out k (.inr hk)) (Array.getElem?_eq_some_iff.1 kP).1)))
      replace c0 := hZV.cell c0
      replace c1 := hZV.cell c1
      replace c2 := hZV.cell c2
      replace kP := hZV.obj kP
      replace hvD := Lib.hid (hvD.out.later hZV)
      replace y0 := hZV.cell y0
      replace y1 := hZV.cell y1
      replace y2 := hZV.cell y2
      replace y3 := hZV.cell y3
      replace x0 := hZV.cell x0
      replace x1 := hZV.cell x1
      obtain ⟨BY, hBY⟩ : ∃ q : Int, Hid ((m.by' : Int) = q) := ⟨_, Lib.hid rfl⟩
      rw [hBY.out] at c2
      have hb1 : 0 ≤ BY ∧ BY ≤ 131072 := by rw [← hBY.out]; omega
      go_wp2_with fail
      by_cases hfull : (131072 : Int) < BY + (nD : Int)
      · go_quiet (fail)
        have hl5 := hlWY.out.trans ((Later.refl V).drewN nq)
        obtain ⟨U, hU⟩ : ∃ X, X = V.drewN nq := ⟨_, rfl⟩
        rw [← hU] at hl5 ⊢
        clear hU
        have hfl := Lib.hid (show (131072 : Nat) < m.by' + d.length by rw [hnD.out]; have := hBY.out; omega)
        clear hfull hb1 m1 m2 m3 m4 m5 m6 hi62
        go_wp2_with fail
        have hpf := Lib.hid (pput_full (n := n) (r := r) hcl.out hth.out (.inr (by
          show 131072 < ((M i).getD (Msg.fresh n0)).by' + d.length
          rw [hMi]
          exact hfl.out)))
        go_ret3
        exact ⟨_, _, _, [], M, rfl, hpf.out, Left.same ⟨B, D, f, G, n, hbox.out⟩ hl5⟩
      · go_quiet (fail)
        obtain ⟨U, hU⟩ : ∃ X, X = V.drewN nq := ⟨_, rfl⟩
        have hVU : Later V U := by rw [hU]; exact (Later.refl _).drewN _
        rw [← hU]
        clear hU
        replace hY := Lib.hid (hY.out.later hVU)
        replace hlWY := Lib.hid (hlWY.out.trans hVU)
        replace hm := Lib.hid (hVU.obj hm.out)
        replace hr := Lib.hid (row_later hr.out hVU)
        replace hp := Lib.hid (hp.out.stay (fun k hk => hVU.block k (Nat.lt_trans (hPS.out k (.inr hk)) (Array.getElem?_eq_some_iff.1 kP).1)))
        replace c0 := hVU.cell c0
        replace c1 := hVU.cell c1
        replace c2 := hVU.cell c2
        replace kP := hVU.obj kP
        replace hvD := Lib.hid (hvD.out.later hVU)
        replace y0 := hVU.cell y0
        replace y1 := hVU.cell y1
        replace y2 := hVU.cell y2
        replace y3 := hVU.cell y3
        replace x0 := hVU.cell x0
        replace x1 := hVU.cell x1
        go_wp2_with fail
        have hkd : Hid (p ≠ P ∧ g ≠ P ∧ g ≠ p ∧ x ≠ g ∧ x ≠ p) := Lib.hid (by
          obtain ⟨k1, k2, k3, k4, k5, k6⟩ := hY.out.kinds hf
          have e1 := hPS.out p (.inl sp)
          have e2 := hPS.out g (.inl (hg.out ▸ sg))
          have e3 := k6 i (by rw [hf]; rfl)
          rw [hg.out] at k3 e3
          exact ⟨by omega, by omega, fun e => e3 e.symm, fun e => k3 e.symm, fun e => k1 e.symm⟩)
        have hBk : Hid (B < U.heap.size ∧ B ≠ g ∧ B ≠ p) := Lib.hid (by
          obtain ⟨k1, k2, k3, k4, k5, k6⟩ := hY.out.kinds hf
          rw [hg.out] at k4
          exact ⟨hY.out.lt B (.inl hY.out.sb), fun e => k4 e.symm, fun e => k2 e.symm⟩)
        have sg1 : S g := hg.out ▸ sg
        have sp1 : S p := sp
        have hpU : Hid (p < U.heap.size) := Lib.hid (hY.out.lt p (.inl sp))
        have hTd : Hid (∀ k, T k → k < U.heap.size ∧ k ≠ g ∧ k ≠ p) := Lib.hid (fun k hk => ⟨hY.out.lt k (.inr hk), fun e => hY.out.dis k hk (e ▸ sg1), fun e => hY.out.dis k hk (e ▸ sp1)⟩)
        obtain ⟨LF, hLF⟩ : ∃ q : Int, Hid ((m.left : Int) = q) := ⟨_, Lib.hid rfl⟩
        have hlf : 1 ≤ LF ∧ LF ≤ 4096 := by rw [← hLF.out]; omega
        have hl1 : Later U (U.alloc (.cells #[] 5)) := (Later.refl U).alloc _
        have hown : (U.alloc (.cells #[] 5)).drew.ownsRow U.heap.size 5 1 (.slice (some ⟨U.heap.size, 0, none⟩) 0 0) 0 [] := ⟨rfl, .inr ⟨_, _, _, rfl, Nat.le_refl _, heap_alloc_new _ _, Nat.le_refl _, by decide, rfl, rfl⟩⟩
        obtain ⟨ga, cd, V2, hap, hrow2, hgr2⟩ := run_append_new (U.alloc (.cells #[] 5)).drew U.heap.size 0 (.slice aoD nD capD) d U.heap.size hown (hvD.out.later hl1.drew) (by rw [hnD.out]; omega) (by rw [World.size_drew, World.size_alloc]; omega)
        rw [hnD.out] at hap hrow2
        have hl2 : Later U V2 := later_own hl1.drew hown (Nat.le_refl _) hgr2
        have han : a < n0 := by omega
        have hii : A < (n0 : Int) := by rw [← hA.out]; omega
        have hi0 : 0 ≤ A := by rw [← hA.out]; omega
        have hAn : Hid (A.toNat = a) := Lib.hid (by rw [← hA.out, Int.toNat_natCast])
        obtain ⟨v0, hv1, -⟩ := hp.out.2 a (by rw [hn0.out]; exact han)
        have hrV := row_later hr.out hl2
        have hcg : V2.cell? ⟨g, A.toNat, none⟩ = some v0 := by rw [hAn.out, ← hv1]; exact hrV.cellAt a (by omega)
        have hfg : V2.frozen? ⟨g, A.toNat, none⟩ = false := by
          rcases hr.out.2 with ⟨e, _⟩ | ⟨g', c', cur, e, _, hb', _⟩
          · cases e
          · cases e
            exact frozen_row (hl2.obj hb') _
        have c0a := hl1.cell c0
        have y1a := hl1.cell y1
        have y3a := hl1.cell y3
        have c0b := hl2.cell c0
        have y1b := hl2.cell y1
        have hga : Hid (U.heap.size ≤ ga) := Lib.hid (row_ge hrow2)
        replace hrow2 := Lib.hid hrow2
        replace hgr2 := Lib.hid hgr2
        clear hown hl1 hv1 hrV hi62 m1 m2 m3 m4 m5 han
        go_region
        obtain ⟨X1, hX1⟩ : ∃ X, X = V2.setCell ⟨g, A.toNat, none⟩ (.slice (some ⟨ga, 0, none⟩) nD cd) := ⟨_, rfl⟩
        rw [← hX1]
        have hm1 : X1.heap[p]? = some (.cells #[.slice (some ⟨g, 0, none⟩) n0 cap, .int .i64 LF, .int .i64 BY] 127 (0, 0)) := by rw [hX1, ← hLF.out, ← hBY.out]; exact (Below.heap_setCell _ _ _ p (fun e => hkd.out.2.2.1 e.symm)).trans (hl2.obj hm.out)
        have kP1 : X1.heap[P]? = some (.cells #[.int .u64 I, .int .i64 A, .int .i64 n0, .slice aoD nD capD] 25 (0, 0)) := by rw [hX1, ← hI.out, ← hA.out]; exact (Below.heap_setCell _ _ _ P (fun e => hkd.out.2.1 e.symm)).trans (hl2.obj kP)
        have kx1 : X1.heap[x]? = some (.cells #[.int .i64 r, .map (some B)] 78 (0, 0)) := by rw [hX1]; exact (Below.heap_setCell _ _ _ x hkd.out.2.2.2.1).trans (hl2.obj hY.out.head)
        have hr1 : Hid (X1.ownsRow 0 23 1 (.slice (some ⟨g, 0, none⟩) n0 cap) n0 (vs.set a (.slice (some ⟨ga, 0, none⟩) nD cd))) := Lib.hid (by rw [hX1, hAn.out]; exact row_set (row_later hr.out hl2) (by have := hAn.out; omega))
        have ho1 : Hid (∀ k, k < U.heap.size → k ≠ g → X1.heap[k]? = U.heap[k]?) := Lib.hid (fun k hk hne => by rw [hX1]; exact (Below.heap_setCell _ _ _ k hne).trans (hl2.block k hk))
        have hv1 : Hid (X1.ownsRow U.heap.size 5 1 (.slice (some ⟨ga, 0, none⟩) nD cd) nD (encB d)) := Lib.hid (by
          rw [hX1]
          exact ownsRow_setCell_below hrow2.out (a := ⟨g, A.toNat, none⟩) (row_lt hr.out) _)
        clear hap hrow2 hgr2 hcg hfg c0a y1a y3a c0b y1b c0 c1 c2 y0 y1 y2 y3 x0 x1
        have c1 : X1.cell? ⟨p, 1, none⟩ = some (.int .i64 LF) := cell_of_row _ _ 1 _ _ _ hm1
        have f1 := frozen_row hm1 1
        replace hm1 := Lib.hid hm1
        replace kP1 := Lib.hid kP1
        replace kx1 := Lib.hid kx1
        have hk1 : Hid (Keep _ U X1) := Lib.hid (by rw [hX1]; exact (Keep.of_later hl2).setCell (p := ⟨g, A.toNat, none⟩) (.inl sg1) _)
        clear kP hX1
        have hl2 := Lib.hid hl2
        go_upto_region 19 with fail
        obtain ⟨X2, hX2⟩ : ∃ X, X = X1.setCell ⟨p, 1, none⟩ (.int .i64 (LF - 1)) := ⟨_, rfl⟩
        rw [← hX2]
        have hm2 : X2.heap[p]? = some (.cells #[.slice (some ⟨g, 0, none⟩) n0 cap, .int .i64 (LF - 1), .int .i64 BY] 127 (0, 0)) := by rw [hX2]; exact heap_set3b X1 p _ _ _ _ _ hm1.out
        have kP2 : X2.heap[P]? = some (.cells #[.int .u64 I, .int .i64 A, .int .i64 n0, .slice aoD nD capD] 25 (0, 0)) := by rw [hX2]; exact (Below.heap_setCell _ _ _ P (fun e => hkd.out.1 e.symm)).trans kP1.out
        have kx2 : X2.heap[x]? = some (.cells #[.int .i64 r, .map (some B)] 78 (0, 0)) := by rw [hX2]; exact (Below.heap_setCell _ _ _ x hkd.out.2.2.2.2).trans kx1.out
        have ho2 : Hid (∀ k, k ≠ p → X2.heap[k]? = X1.heap[k]?) := Lib.hid (fun k hk => by rw [hX2]; exact Below.heap_setCell _ _ _ k hk)
        have hk2 : Hid (Keep _ U X2) := Lib.hid (by rw [hX2]; exact hk1.out.setCell (p := ⟨p, 1, none⟩) (.inl sp1) _)
        clear hk1 hX2 c1 f1 hm1 kP1 kx1
        have d2 : X2.cell? ⟨p, 2, none⟩ = some (.int .i64 BY) := cell_of_row _ _ 2 _ _ _ hm2
        have f2 := frozen_row hm2 2
        have d3 : X2.cell? ⟨P, 3, none⟩ = some (.slice aoD nD capD) := cell_of_row _ _ 3 _ _ _ kP2
        replace hm2 := Lib.hid hm2
        replace kP2 := Lib.hid kP2
        replace kx2 := Lib.hid kx2
        go_region
        obtain ⟨X3, hX3⟩ : ∃ X, X = (X2.setCell ⟨p, 2, none⟩ (.int .i64 (BY + nD))).drew := ⟨_, rfl⟩
        rw [← hX3]
        have hm3 : X3.heap[p]? = some (.cells #[.slice (some ⟨g, 0, none⟩) n0 cap, .int .i64 (LF - 1), .int .i64 (BY + nD)] 127 (0, 0)) := by rw [hX3]; exact heap_set3c X2 p _ _ _ _ _ hm2.out
        have kP3 : X3.heap[P]? = some (.cells #[.int .u64 I, .int .i64 A, .int .i64 n0, .slice aoD nD capD] 25 (0, 0)) := by rw [hX3]; exact (Below.heap_setCell _ _ _ P (fun e => hkd.out.1 e.symm)).trans kP2.out
        have kx3 : X3.heap[x]? = some (.cells #[.int .i64 r, .map (some B)] 78 (0, 0)) := by rw [hX3]; exact (Below.heap_setCell _ _ _ x hkd.out.2.2.2.2).trans kx2.out
        have ho3 : Hid (∀ k, k ≠ p → X3.heap[k]? = X1.heap[k]?) := Lib.hid (fun k hk => by rw [hX3]; exact (Below.heap_setCell _ _ _ k hk).trans (ho2.out k hk))
        have hk3 : Hid (Keep _ U X3) := Lib.hid (by rw [hX3]; exact (hk2.out.setCell (p := ⟨p, 2, none⟩) (.inl sp1) _).drew)
        clear hX3 d2 f2 d3 hm2 kP2 kx2 ho2 hk2
        have hoU : Hid (∀ k, k < U.heap.size → k ≠ g → k ≠ p → X3.heap[k]? = U.heap[k]?) := Lib.hid (fun k h1 h2 h3 => (ho3.out k h3).trans (ho1.out k h1 h2))
        have hr3 : Hid (X3.ownsRow 0 23 1 (.slice (some ⟨g, 0, none⟩) n0 cap) n0 (vs.set a (.slice (some ⟨ga, 0, none⟩) nD cd))) := Lib.hid (row_at1 hr1.out (ho3.out g hkd.out.2.2.1))
        have hv3 : Hid (X3.ownsRow U.heap.size 5 1 (.slice (some ⟨ga, 0, none⟩) nD cd) nD (encB d)) := Lib.hid (row_at1 hv1.out (ho3.out ga (fun e => by have := hga.out; have := hpU.out; omega)))
        have hB3 : Hid (X3.ownsMap Try.prog 22 ptrElem B n D) := Lib.hid (map_at hY.out.map (hoU.out B hBk.out.1 hBk.out.2.1 hBk.out.2.2))
        clear hr1 hv1 ho1 ho3
        have z0 : X3.cell? ⟨P, 0, none⟩ = some (.int .u64 I) := cell_of_row _ _ 0 _ _ _ kP3
        have w0 : X3.cell? ⟨p, 0, none⟩ = some (.slice (some ⟨g, 0, none⟩) n0 cap) := cell_of_row _ _ 0 _ _ _ hm3
        have w1 : X3.cell? ⟨p, 1, none⟩ = some (.int .i64 (LF - 1)) := cell_of_row _ _ 1 _ _ _ hm3
        have e1 : X3.cell? ⟨x, 1, none⟩ = some (.map (some B)) := cell_of_row _ _ 1 _ _ _ kx3
        replace hm3 := Lib.hid hm3
        clear kP3 kx3
        have hPl : PlV X3 (fun k => T k ∨ k = ga) (.slice (some ⟨ga, 0, none⟩) nD cd) (some d) := by
          have h1 := hv3.out
          rw [← hnD.out] at h1
          rw [← hnD.out]
          refine ⟨(bytV_of_row hby h1).1, fun g' o s len cap' e _ => ?_, ⟨_, _, _, rfl⟩, by rw [hnD.out]; exact m6⟩
          cases e
          exact .inr rfl
        have hPls := Lib.hid (((hp.out.stay (w' := X3) (fun k hk => hoU.out k (hTd.out k hk).1 (hTd.out k hk).2.1 (hTd.out k hk).2.2)).mono (T' := fun k => T k ∨ k = ga) (fun k hk => .inl hk)).set (j := a) hPl)
        have hv3b := hv3
        clear hPl hv3
        have hno := Lib.hid (show ¬ (((M i).isNone = true ∧ r ≤ (n : Int)) ∨ 131072 < ((M i).getD (Msg.fresh n0)).by' + d.length) by
          rw [hMi]
          have := hBY.out
          rintro (⟨h, _⟩ | h)
          · cases h
          · have h : 131072 < m.by' + d.length := h
            rw [hnD.out] at h
            omega)
        by_cases hpos : (0 : Int) < LF - 1
        · have hMB := MsgB.fill (pc := ⟨i, a, n0, d⟩) (S := S) (T := fun k => T k ∨ k = ga) (by rw [hn0.out]; exact hm3.out) (by rw [hLF.out]) (by rw [hBY.out]; show _ + (d.length : Int) = _; rw [hnD.out]) (by rw [hn0.out]; exact hr3.out) hPls.out sp1 sg1 (by rw [hn0.out]; exact q1) ⟨hpos, by omega⟩ (by omega) q4 (by rw [hn0.out]; exact haN.out) hat
          have hgaX : ga < X3.heap.size := row_lt (k := nD) (base := U.heap.size) hv3b.out
          have hF := hY.out.filled hf (w' := X3) (T' := fun k => T k ∨ k = ga) (fun k hk h1 h2 => hoU.out k (hY.out.lt k hk) (by rw [← hg.out]; exact h2) h1) hk3.out.size (by rw [hg.out]; exact hMB) (fun k hk => .inl hk) (fun k hk => by
            rcases hk with hk | rfl
            · exact ⟨Nat.lt_of_lt_of_le (hY.out.lt k (.inr hk)) hk3.out.size, hY.out.dis k hk⟩
            · exact ⟨hgaX, fun e => by have := hY.out.lt k (.inl e); have := hga.out; omega⟩)
          have hnM : n < maxLen := by
            have h1 := hY.out.full
            have h2 := hY.out.room.2
            have h3 : 64 < maxLen := by decide
            omega
          obtain ⟨w4, hrun4, hown4, hgr4⟩ := World.ownsMap.update (w := X3.drew) (t := 76) (World.ownsMap.drew hF.map) lawM Try.underlying76 hnM (keyM hi62h.out) (ptrElem_mk p)
          obtain ⟨D2, hR⟩ := hF.remap (w' := w4) (by simp [hf]) (fun k hk hne => hgr4.block k hk (fun e => hne (Option.some.inj e))) hgr4.size hown4
          have hK4 : Keep S W w4 := ((Keep.of_later hlWY.out).trans (hk3.out.drew)).grown hgr4 (fun q e => by cases e; exact .inl hY.out.sb)
          have hend : Left W x r S T (fun j => if j = i then some (m.fill ⟨i, a, n0, d⟩) else M j) [] (.slice none 0 0) w4 :=
            ⟨⟨S, fun k => T k ∨ k = ga, ⟨B, D2, f, G, n, hR⟩, fun k hk => .inl hk, fun k hk => hk.imp id (fun e => by have := hga.out; have := hlWY.out.size; omega), fun k hk => by cases hk⟩, hK4, World.ownsRow_nil _ _ _ _⟩
          have hpf := Lib.hid (pput_open hcl.out hth.out hno.out (m := m) (by show (M i).getD _ = m; rw [hMi]; rfl) (by show 0 < m.left - 1; have := hLF.out; omega))
          replace hend := Lib.hid hend
          rw [hI.out] at hrun4
          clear hF hMB hnM hown4 hgr4 hR hK4 hgaX
          go_wp2_with fail
          go_region
          go_wp2_with fail
          go_ret3
          exact ⟨_, _, _, _, _, rfl, hpf.out, hend.out⟩
        · have hlz : LF - 1 = 0 := by omega
          obtain ⟨w4, hrun4, hown4, ht4⟩ := World.ownsMap.drop (w := X3.drew) (t := 76) (World.ownsMap.drew hB3.out) lawM Try.underlying76 (keyM hi62h.out) 0
          have hg4 := ht4.grown
          have ho4 : ∀ k, k < X3.heap.size → k ≠ B → w4.heap[k]? = X3.heap[k]? := fun k hk hne => hg4.block k hk (fun e => hne (Option.some.inj e))
          have hUX := hk3.out.size
          have hpX : p < X3.heap.size := Nat.lt_of_lt_of_le hpU.out hUX
          have hgX : g < X3.heap.size := row_lt hr3.out
          have w04 : w4.cell? ⟨p, 0, none⟩ = some (.slice (some ⟨g, 0, none⟩) n0 cap) := (World.cell?_of_block (a := ⟨p, 0, none⟩) (ho4 p hpX (fun e => hBk.out.2.2 e.symm))).trans w0
          have hr4 := row_at1 hr3.out (ho4 g hgX (fun e => hBk.out.2.1 e.symm))
          have hP4 := hPls.out.stay (w' := w4) (fun k hk => by
            rcases hk with hk | rfl
            · exact ho4 k (Nat.lt_of_lt_of_le (hY.out.lt k (.inr hk)) hUX) (fun e => hY.out.dis k hk (e ▸ hY.out.sb))
            · exact ho4 k (row_lt (k := nD) (base := U.heap.size) hv3b.out) (fun e => by have := hga.out; have := hBk.out.1; omega))
          have hln : (m.l.set a (some d)).length = n0 := by rw [List.length_set, hn0.out]
          rw [← hln] at hr4
          have hBs := bsV_of hr4 hP4
          rw [hln] at hBs hr4
          have hsum : ((m.l.set a (some d)).map fun o => o.getD []).flatten.length = m.by' + d.length := by
            rw [pcat_set (by rw [hn0.out]; exact haN.out) hat]
            exact congrArg (· + d.length) q4
          have hC := Lib.hid (concat_any _ _ w4 hBs (by rw [List.length_map, hln]; exact q1) (by rw [hsum, hnD.out]; omega))
          have hmB := map_at hown4 (w' := w4) rfl
          have hK4 : Keep S W w4 := ((Keep.of_later hlWY.out).trans (hk3.out.drew)).grown hg4 (fun q e => by cases e; exact .inl hY.out.sb)
          have hend : Hid (∀ w5 u5, w5.ownsRow w4.heap.size 5 1 u5 (pcat (m.fill ⟨i, a, n0, d⟩)).length (encB (pcat (m.fill ⟨i, a, n0, d⟩))) → Later w4 w5 → Left W x r S T (fun j => if j = i then none else M j) (pcat (m.fill ⟨i, a, n0, d⟩)) u5 w5) := Lib.hid (fun w5 u5 hr5 hl5 => by
            obtain ⟨n2, D2, hG⟩ := hY.out.gone i (w' := w5) (n' := n) (fun k hk h1 h2 => (hl5.block k (Nat.lt_of_lt_of_le (Nat.lt_of_lt_of_le (hY.out.lt k hk) hUX) hg4.size)).trans ((ho4 k (Nat.lt_of_lt_of_le (hY.out.lt k hk) hUX) h1).trans (hoU.out k (hY.out.lt k hk) (by have := (h2 p hf).2; rw [hg.out] at this; exact this) (h2 p hf).1))) (Nat.le_trans (Nat.le_trans hUX hg4.size) hl5.size) (map_at hown4 (hl5.block B (Nat.lt_of_lt_of_le (Nat.lt_of_lt_of_le hBk.out.1 hUX) hg4.size)))
            refine ⟨⟨S, T, ⟨B, D2, _, G, n2, hG⟩, fun k hk => .inl hk, fun k hk => .inl hk, fun k hk => ?_⟩, hK4.trans (Keep.of_later hl5), row_mono hr5 (Nat.le_trans hlWY.out.size (Nat.le_trans hUX hg4.size))⟩
            obtain ⟨a5, c5, rfl⟩ := own_form hr5
            cases a5 with
            | none => cases hk
            | some ad =>
              have hb5 : w4.heap.size ≤ k := by
                rcases hr5.2 with ⟨e, _⟩ | ⟨g', c', cur, e, hb, _⟩
                · cases e
                · cases e; cases hk; exact hb
              have h6 : U.heap.size ≤ k := Nat.le_trans (Nat.le_trans hUX hg4.size) hb5
              exact ⟨fun e => by have := hY.out.lt k (.inl e); omega, fun e => by have := hY.out.lt k (.inr e); omega⟩)
          have hpf := Lib.hid (pput_whole hcl.out hth.out hno.out (m := m) (by show (M i).getD _ = m; rw [hMi]; rfl) (by show ¬ 0 < m.left - 1; have := hLF.out; omega))
          rw [hI.out] at hrun4
          clear hg4 ho4 hUX hpX hgX hr4 hP4 hln hBs hsum hmB hK4 hown4 ht4 hlf
          go_wp2_with fail
          go_region
          clear hrun4 z0 w0 w1 e1
          go_wp2_with fail
          refine hC.out.mono ?_
          rintro e w5 ⟨u5, rfl, hr5, hl5⟩
          have hend5 := Lib.hid (hend.out w5 u5 hr5 hl5)
          clear hr5 hl5 hend
          go_wp2_with fail
          go_ret3
          exact ⟨_, _, _, _, _, rfl, hpf.out, hend5.out⟩
  · have hne : ((n0 : Int) != (N : Int)) = true := by simp; omega
    go_wp2_with fail
    go_quiet (fail)
    have hl5 := hlWY.out.trans ((Later.refl Z).drewN nq)
    obtain ⟨V, hV⟩ : ∃ V, V = Z.drewN nq := ⟨_, rfl⟩
    rw [← hV] at hl5 ⊢
    clear hV
    go_wp2_with fail
    go_ret3
    exact ⟨_, _, _, [], M, rfl, pput_clash (pclash_len hMi (fun e => hnN (hn0.out.symm.trans e))), Left.same ⟨B, D, f, G, n, hbox.out⟩ hl5⟩
end Go.Proofs.Ytjelfiljebamgaa
