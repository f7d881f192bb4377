/-
  Chapter 21: a piece is put into a message that is new.
-/
import Derived.Test.YtjelfiljebamgaaBxH
namespace Go.Proofs.Ytjelfiljebamgaa
open Go.RowKit Go.Shelf Go.Maps
set_option linter.unusedVariables false
set_option linter.unusedSimpArgs false
attribute [local go_sem] Oper.semAt_some
attribute [-go_sem] Builtin.append_

set_option maxRecDepth 100000 in
set_option maxHeartbeats 2000000 in
theorem put_fresh (u : Value) (b : List Int) (x B n : Nat) (r : Int) (D : DataW Unit) (f : Nat → Option Nat) (G : Nat → Nat) (M : Bx) (S T : Nat → Prop) (W : World) (h : BoxC W x r B D f G n M S T) (hu : BytV W u b) (hb : b.length ≤ 1000000) (hok : RdOk b) (hf : f (rd1 b).1 = none) :
    Calls Try.prog 32 #[wp x, u] W (PutPost W x r M n S T b) := by
  have hbox := Lib.hid h
  have hby := rd4_byt hu.1
  have HR := read_yes u b W hu hb hok
  have hMay := hok.2
  have hpc : pcOf b = ⟨(rd1 b).1, (rd3 b).1, (rd2 b).1 + 1, (rd4 b).1⟩ := rfl
  obtain ⟨i, hi⟩ : ∃ i, (rd1 b).1 = i := ⟨_, rfl⟩
  obtain ⟨a, ha⟩ : ∃ a, (rd3 b).1 = a := ⟨_, rfl⟩
  obtain ⟨N, hN⟩ : ∃ N, (rd2 b).1 + 1 = N := ⟨_, rfl⟩
  obtain ⟨d, hd⟩ : ∃ d, (rd4 b).1 = d := ⟨_, rfl⟩
  have hcast : (((rd2 b).1 : Nat) : Int) + 1 = (N : Int) := by omega
  rw [hi, ha, hcast, hd] at HR hMay
  rw [hi, ha, hN, hd] at hpc
  rw [hi] at hf
  rw [hd] at hby
  unfold PutPost
  rw [hpc]
  clear hi ha hN hcast hd hpc hok
  replace HR := Lib.hid HR
  unfold May at hMay
  obtain ⟨m1, m2, m3, m4, m5, m6⟩ := hMay
  have hi62 : i < 18446744073709551616 := by omega
  have hi62h := Lib.hid hi62
  have haN := Lib.hid (show a < N by omega)
  have hx := h.cells
  have hroom := h.room.1
  have hx0 := hx.1
  go_enter Try.func32, Try.ntmps32
  go_wp2_with fail
  refine (none_no x r W hx0 hroom).mono ?_
  rintro e w0 ⟨rfl, hw0⟩
  obtain rfl : W = w0 := hw0.symm
  go_wp2_with fail
  refine HR.out.mono ?_
  rintro e w1 ⟨uD, rfl, hrD, hl1⟩
  obtain ⟨hvD, hinD⟩ := bytV_of_row hby hrD
  obtain ⟨nD, hnD⟩ : ∃ k, Hid (d.length = k) := ⟨_, Lib.hid rfl⟩
  obtain ⟨aoD, capD, hue⟩ := bytV_form hvD
  rw [hnD.out] at hue m6
  subst hue
  obtain ⟨I, hI⟩ : ∃ I : Int, Hid ((i : Int) = I) := ⟨_, Lib.hid rfl⟩
  obtain ⟨A, hA⟩ : ∃ A : Int, Hid ((a : Int) = A) := ⟨_, Lib.hid rfl⟩
  obtain ⟨Y, hYe⟩ : ∃ Y, Y = w1.alloc (.cells #[.int .u64 i, .int .i64 a, .int .i64 N, .slice aoD nD capD] 25) := ⟨_, rfl⟩
  go_wp2_with fail
  obtain ⟨P, hP⟩ : ∃ P, Hid (w1.heap.size = P) := ⟨_, Lib.hid rfl⟩
  have hlY : Later w1 Y := by rw [hYe]; exact (Later.refl _).alloc _
  have kP : Y.heap[P]? = some (.cells #[.int .u64 i, .int .i64 a, .int .i64 N, .slice aoD nD capD] 25 (0, 0)) := by rw [hYe]; exact push_new _ _ hP.out
  rw [← hYe, hP.out]
  clear hYe
  have hWP : Hid (W.heap.size ≤ P) := Lib.hid (by rw [← hP.out]; exact hl1.size)
  replace hvD := hvD.later hlY
  have hY := (h.later hl1).later hlY
  have hlWY := hl1.trans hlY
  have hPS : Hid (∀ k, S k ∨ T k → k < P) := Lib.hid (fun k hk => by have := h.lt k hk; have := hWP.out; omega)
  clear h hrD hl1 hlY hx hx0 hu HR hP
  have y0 : Y.cell? ⟨P, 0, none⟩ = some (.int .u64 i) := cell_of_row _ _ 0 _ _ _ kP
  have y1 : Y.cell? ⟨P, 1, none⟩ = some (.int .i64 a) := cell_of_row _ _ 1 _ _ _ kP
  have y2 : Y.cell? ⟨P, 2, none⟩ = some (.int .i64 N) := cell_of_row _ _ 2 _ _ _ kP
  have y3 : Y.cell? ⟨P, 3, none⟩ = some (.slice aoD nD capD) := cell_of_row _ _ 3 _ _ _ kP
  obtain ⟨x0, x1⟩ := hY.cells
  obtain ⟨n0, hn0e⟩ : ∃ k : Nat, k = N := ⟨_, rfl⟩
  obtain rfl : n0 = N := hn0e
  have hMi := hbox.out.none' i hf
  have hlk := fun k => MapOk.look (P := Try.prog) (w := Y.drewN k) hY.ok (by exact hY.map) lawM Try.underlying76 (zeroM _) (keyM hi62)
  have epf : ptrF f i = .pointer none := by unfold ptrF; rw [hf]
  rw [epf] at hlk
  replace hY := Lib.hid hY
  replace hvD := Lib.hid hvD
  rw [hI.out] at y0 hlk ⊢
  rw [hA.out] at y1 ⊢
  go_quiet (fail)
  obtain ⟨Z, hZ⟩ : ∃ Z, Z = Y.drewN nq := ⟨_, rfl⟩
  have hYZ : Later Y Z := by rw [hZ]; exact (Later.refl _).drewN _
  rw [← hZ]
  clear hZ hlk
  replace kP := hYZ.obj kP
  replace hvD := Lib.hid (hvD.out.later hYZ)
  replace y0 := hYZ.cell y0
  replace y1 := hYZ.cell y1
  replace y2 := hYZ.cell y2
  replace y3 := hYZ.cell y3
  replace x0 := hYZ.cell x0
  replace x1 := hYZ.cell x1
  have kPZ := Lib.hid kP
  replace hY := Lib.hid (hY.out.later hYZ)
  replace hlWY := hlWY.trans hYZ
  clear hYZ
  go_wp2_with fail
  have hN4 : n0 ≤ 4096 := by omega
  obtain ⟨vs, hrw⟩ : ∃ l, Hid (List.replicate n0 (Value.slice none 0 0) = l) := ⟨_, Lib.hid rfl⟩
  have hmk := run_make_bss Z.drew n0 hN4
  have hra := row_make Z n0 hN4
  have hPf := PlsV.fresh Z T n0
  rw [hrw.out] at hmk hra hPf
  have hl1 : Later Z (Z.alloc (.cells vs.toArray 23)) := (Later.refl Z).alloc _
  have y2a := hl1.cell y2
  go_region
  obtain ⟨V, hV⟩ : ∃ X, X = ((Z.alloc (.cells vs.toArray 23)).alloc (.cells #[.slice (some ⟨Z.heap.size, 0, none⟩) n0 n0, .int .i64 n0, .int .i64 0] 127)).drew := ⟨_, rfl⟩
  have hZV : Later Z V := by rw [hV]; exact (hl1.alloc _).drew
  obtain ⟨g, hg⟩ : ∃ g, Hid (Z.heap.size = g) := ⟨_, Lib.hid rfl⟩
  obtain ⟨p, hpe⟩ : ∃ p, Hid (g + 1 = p) := ⟨_, Lib.hid rfl⟩
  obtain ⟨m, hmf⟩ : ∃ m, Hid (Msg.fresh n0 = m) := ⟨_, Lib.hid rfl⟩
  have hn0 : Hid (m.l.length = n0) := Lib.hid (by rw [← hmf.out]; simp [Msg.fresh])
  have hm : V.heap[p]? = some (.cells #[.slice (some ⟨g, 0, none⟩) n0 n0, .int .i64 n0, .int .i64 0] 127 (0, 0)) := by
    rw [hV, ← hpe.out, ← hg.out]
    exact push_new (Z.alloc (.cells vs.toArray 23)) _ (World.size_alloc _ _)
  have hr : Hid (V.ownsRow 0 23 1 (.slice (some ⟨g, 0, none⟩) n0 n0) n0 vs) := Lib.hid (by
    rw [hV, ← hg.out]
    exact row_later (hra.alloc _) (drew_later _))
  have hp : Hid (PlsV V T vs m.l) := Lib.hid (by
    rw [← hmf.out]
    exact hPf.stay (fun k hk => hZV.block k (hY.out.lt k (.inr hk))))
  rw [← hV, hg.out, hpe.out]
  clear hV hmk hra hPf y2a hl1 hrw
  replace kP := hZV.obj kP
  replace hvD := Lib.hid (hvD.out.later hZV)
  replace y0 := hZV.cell y0
  replace y1 := hZV.cell y1
  replace y2 := hZV.cell y2
  replace y3 := hZV.cell y3
  replace x0 := hZV.cell x0
  replace x1 := hZV.cell x1
  have hYZ := Lib.hid (show BoxC Z x r B D f G n M S T from hY.out)
  have hlZ := Lib.hid hZV
  have hg1 : Hid (∀ k, S k ∨ T k → k < g) := Lib.hid (fun k hk => by rw [← hg.out]; exact hY.out.lt k hk)
  have hgZ : Hid (P < g) := Lib.hid (by rw [← hg.out]; exact (Array.getElem?_eq_some_iff.1 kPZ.out).1)
  have hgW : Hid (W.heap.size ≤ g) := Lib.hid (by rw [← hg.out]; exact hlWY.size)
  replace hY := Lib.hid (hY.out.later hZV)
  replace hlWY := Lib.hid (hlWY.trans hZV)
  clear hZV kPZ
  have c0 : V.cell? ⟨p, 0, none⟩ = some (.slice (some ⟨g, 0, none⟩) n0 n0) := cell_of_row _ _ 0 _ _ _ hm
  have c1 : V.cell? ⟨p, 1, none⟩ = some (.int .i64 n0) := cell_of_row _ _ 1 _ _ _ hm
  have c2 : V.cell? ⟨p, 2, none⟩ = some (.int .i64 0) := cell_of_row _ _ 2 _ _ _ hm
  replace hm := Lib.hid hm
  have hat : m.l.getD a none = none := by
    rw [← hmf.out, List.getD_eq_getElem?_getD]
    show ((List.replicate n0 none)[a]?).getD none = none
    rw [List.getElem?_replicate]
    split <;> rfl
  have HT := Lib.hid (there_any p g n0 n0 a vs m.l T V c0 hr.out hp.out hn0.out hN4)
  rw [hat, hA.out] at HT
  go_wp2_with fail
  refine HT.out.mono ?_
  rintro e wz ⟨rfl, hwz⟩
  obtain rfl : V = wz := hwz.symm
  clear HT hwz
  go_wp2_with fail
  go_quiet (fail)
  obtain ⟨X, hX⟩ : ∃ X, X = V.drewN nq := ⟨_, rfl⟩
  have hVX : Later V X := by rw [hX]; exact (Later.refl _).drewN _
  rw [← hX]
  clear hX
  replace hY := Lib.hid (hY.out.later hVX)
  replace hlWY := Lib.hid (hlWY.out.trans hVX)
  replace hm := Lib.hid (hVX.obj hm.out)
  replace hr := Lib.hid (row_later hr.out hVX)
  replace hp := Lib.hid (hp.out.stay (fun k hk => hVX.block k (Nat.lt_trans (hPS.out k (.inr hk)) (Array.getElem?_eq_some_iff.1 kP).1)))
  replace c0 := hVX.cell c0
  replace c1 := hVX.cell c1
  replace c2 := hVX.cell c2
  replace kP := hVX.obj kP
  replace hvD := Lib.hid (hvD.out.later hVX)
  replace y0 := hVX.cell y0
  replace y1 := hVX.cell y1
  replace y2 := hVX.cell y2
  replace y3 := hVX.cell y3
  replace x0 := hVX.cell x0
  replace x1 := hVX.cell x1
  have hcl := Lib.hid (pclash_fresh (p := ⟨i, a, n0, d⟩) hMi)
  have hth := Lib.hid (pthere_fresh (p := ⟨i, a, n0, d⟩) hMi)
  have hsz := hY.out.ok.size'
  have hlen := fun k => World.ownsMap.len (w := X.drewN k) (t := 76) (show (X.drewN k).ownsMap Try.prog 22 ptrElem B n D from hY.out.map) Try.underlying76 3
  rw [hsz] at hlen
  obtain ⟨es, clock, hbe, -⟩ := hY.out.map
  go_wp2_with fail
  by_cases hnr : r ≤ (n : Int)
  · go_quiet (fail)
    have hl5 := hlWY.out.trans ((Later.refl X).drewN nq)
    obtain ⟨U, hU⟩ : ∃ q, q = X.drewN nq := ⟨_, rfl⟩
    rw [← hU] at hl5 ⊢
    clear hU hlen hsz
    have hpf := Lib.hid (pput_full (n := n) (r := r) hcl.out hth.out (.inl ⟨by show (M i).isNone = true; rw [hMi]; rfl, hnr⟩))
    clear hnr m1 m2 m3 m4 m5 m6 hi62
    go_wp2_with fail
    go_ret3
    exact ⟨_, _, _, [], M, rfl, hpf.out, Left.same ⟨B, D, f, G, n, hbox.out⟩ hl5⟩
  · go_quiet (fail)
    obtain ⟨U, hU⟩ : ∃ q, q = X.drewN nq := ⟨_, rfl⟩
    have hXU : Later X U := by rw [hU]; exact (Later.refl _).drewN _
    rw [← hU]
    clear hU hlen hsz hbe
    replace hY := Lib.hid (hY.out.later hXU)
    replace hlWY := Lib.hid (hlWY.out.trans hXU)
    replace hm := Lib.hid (hXU.obj hm.out)
    replace hr := Lib.hid (row_later hr.out hXU)
    replace hp := Lib.hid (hp.out.stay (fun k hk => hXU.block k (Nat.lt_trans (hPS.out k (.inr hk)) (Array.getElem?_eq_some_iff.1 kP).1)))
    replace c0 := hXU.cell c0
    replace c1 := hXU.cell c1
    replace c2 := hXU.cell c2
    replace kP := hXU.obj kP
    replace hvD := Lib.hid (hvD.out.later hXU)
    replace y0 := hXU.cell y0
    replace y1 := hXU.cell y1
    replace y2 := hXU.cell y2
    replace y3 := hXU.cell y3
    replace x0 := hXU.cell x0
    replace x1 := hXU.cell x1
    replace hlZ := Lib.hid ((hlZ.out.trans hVX).trans hXU)
    clear hXU hVX
    obtain ⟨BY, hBY⟩ : ∃ q : Int, Hid ((m.by' : Int) = q) := ⟨_, Lib.hid rfl⟩
    obtain ⟨LF, hLF⟩ : ∃ q : Int, Hid ((m.left : Int) = q) := ⟨_, Lib.hid rfl⟩
    have hB0 : BY = 0 := by rw [← hBY.out, ← hmf.out]; rfl
    have hLN : LF = n0 := by rw [← hLF.out, ← hmf.out]; rfl
    have hlf : 1 ≤ LF ∧ LF ≤ 4096 := by omega
    have hb1 : 0 ≤ BY ∧ BY ≤ 131072 := by omega
    replace hm : Hid (U.heap[p]? = some (.cells #[.slice (some ⟨g, 0, none⟩) n0 n0, .int .i64 m.left, .int .i64 m.by'] 127 (0, 0))) := Lib.hid (by rw [← hmf.out]; exact hm.out)
    obtain ⟨S1, hS1⟩ : ∃ S1 : Nat → Prop, Hid (∀ k, S1 k ↔ (S k ∨ k = p ∨ k = g)) := ⟨_, Lib.hid (fun k => Iff.rfl)⟩
    have sg1 : S1 g := (hS1.out g).2 (.inr (.inr rfl))
    have sp1 : S1 p := (hS1.out p).2 (.inr (.inl rfl))
    have hpU : Hid (p < U.heap.size) := Lib.hid (Array.getElem?_eq_some_iff.1 hm.out).1
    have hkd : Hid (p ≠ P ∧ g ≠ P ∧ g ≠ p ∧ x ≠ g ∧ x ≠ p) := Lib.hid (by
      have e1 := hg1.out x (.inl hY.out.sx)
      have e2 := hgZ.out
      have e3 := hpe.out
      omega)
    have hBk : Hid (B < U.heap.size ∧ B ≠ g ∧ B ≠ p) := Lib.hid (by
      have e1 := hg1.out B (.inl hY.out.sb)
      have e3 := hpe.out
      exact ⟨hY.out.lt B (.inl hY.out.sb), by omega, by omega⟩)
    have hTd : Hid (∀ k, T k → k < U.heap.size ∧ k ≠ g ∧ k ≠ p) := Lib.hid (fun k hk => by
      have e1 := hg1.out k (.inr hk)
      have e3 := hpe.out
      exact ⟨hY.out.lt k (.inr hk), by omega, by omega⟩)
    have q1 := hN4
    clear hi62 m1
    have hi62 := trivial
    have m1 := trivial
    replace hLN := Lib.hid hLN
    replace hB0 := Lib.hid hB0
    replace hnr := Lib.hid hnr
    clear hN4
    go_wp2_with fail
    have hl1 : Later U (U.alloc (.cells #[] 5)) := (Later.refl U).alloc _
    have hown : (U.alloc (.cells #[] 5)).drew.ownsRow U.heap.size 5 1 (.slice (some ⟨U.heap.size, 0, none⟩) 0 0) 0 [] := ⟨rfl, .inr ⟨_, _, _, rfl, Nat.le_refl _, heap_alloc_new _ _, Nat.le_refl _, by decide, rfl, rfl⟩⟩
    obtain ⟨ga, cd, V2, hap, hrow2, hgr2⟩ := run_append_new (U.alloc (.cells #[] 5)).drew U.heap.size 0 (.slice aoD nD capD) d U.heap.size hown (hvD.out.later hl1.drew) (by rw [hnD.out]; omega) (by rw [World.size_drew, World.size_alloc]; omega)
    rw [hnD.out] at hap hrow2
    have hl2 : Later U V2 := later_own hl1.drew hown (Nat.le_refl _) hgr2
    have han : a < n0 := by omega
    have hii : A < (n0 : Int) := by rw [← hA.out]; omega
    have hi0 : 0 ≤ A := by rw [← hA.out]; omega
    have hAn : Hid (A.toNat = a) := Lib.hid (by rw [← hA.out, Int.toNat_natCast])
    obtain ⟨v0, hv1, -⟩ := hp.out.2 a (by rw [hn0.out]; exact han)
    have hrV := row_later hr.out hl2
    have hcg : V2.cell? ⟨g, A.toNat, none⟩ = some v0 := by rw [hAn.out, ← hv1]; exact hrV.cellAt a (by omega)
    have hfg : V2.frozen? ⟨g, A.toNat, none⟩ = false := by
      rcases hr.out.2 with ⟨e, _⟩ | ⟨g', c', cur, e, _, hb', _⟩
      · cases e
      · cases e
        exact frozen_row (hl2.obj hb') _
    have c0a := hl1.cell c0
    have y1a := hl1.cell y1
    have y3a := hl1.cell y3
    have c0b := hl2.cell c0
    have y1b := hl2.cell y1
    have hga : Hid (U.heap.size ≤ ga) := Lib.hid (row_ge hrow2)
    replace hrow2 := Lib.hid hrow2
    replace hgr2 := Lib.hid hgr2
    clear hown hl1 hv1 hrV hi62 m1 m2 m3 m4 m5 han
    go_region
    obtain ⟨X1, hX1⟩ : ∃ X, X = V2.setCell ⟨g, A.toNat, none⟩ (.slice (some ⟨ga, 0, none⟩) nD cd) := ⟨_, rfl⟩
    rw [← hX1]
    have hm1 : X1.heap[p]? = some (.cells #[.slice (some ⟨g, 0, none⟩) n0 n0, .int .i64 LF, .int .i64 BY] 127 (0, 0)) := by rw [hX1, ← hLF.out, ← hBY.out]; exact (Below.heap_setCell _ _ _ p (fun e => hkd.out.2.2.1 e.symm)).trans (hl2.obj hm.out)
    have kP1 : X1.heap[P]? = some (.cells #[.int .u64 I, .int .i64 A, .int .i64 n0, .slice aoD nD capD] 25 (0, 0)) := by rw [hX1, ← hI.out, ← hA.out]; exact (Below.heap_setCell _ _ _ P (fun e => hkd.out.2.1 e.symm)).trans (hl2.obj kP)
    have kx1 : X1.heap[x]? = some (.cells #[.int .i64 r, .map (some B)] 78 (0, 0)) := by rw [hX1]; exact (Below.heap_setCell _ _ _ x hkd.out.2.2.2.1).trans (hl2.obj hY.out.head)
    have hr1 : Hid (X1.ownsRow 0 23 1 (.slice (some ⟨g, 0, none⟩) n0 n0) n0 (vs.set a (.slice (some ⟨ga, 0, none⟩) nD cd))) := Lib.hid (by rw [hX1, hAn.out]; exact row_set (row_later hr.out hl2) (by have := hAn.out; omega))
    have ho1 : Hid (∀ k, k < U.heap.size → k ≠ g → X1.heap[k]? = U.heap[k]?) := Lib.hid (fun k hk hne => by rw [hX1]; exact (Below.heap_setCell _ _ _ k hne).trans (hl2.block k hk))
    have hv1 : Hid (X1.ownsRow U.heap.size 5 1 (.slice (some ⟨ga, 0, none⟩) nD cd) nD (encB d)) := Lib.hid (by
      rw [hX1]
      exact ownsRow_setCell_below hrow2.out (a := ⟨g, A.toNat, none⟩) (row_lt hr.out) _)
    clear hap hrow2 hgr2 hcg hfg c0a y1a y3a c0b y1b c0 c1 c2 y0 y1 y2 y3 x0 x1
    have c1 : X1.cell? ⟨p, 1, none⟩ = some (.int .i64 LF) := cell_of_row _ _ 1 _ _ _ hm1
    have f1 := frozen_row hm1 1
    replace hm1 := Lib.hid hm1
    replace kP1 := Lib.hid kP1
    replace kx1 := Lib.hid kx1
    have hk1 : Hid (Keep _ U X1) := Lib.hid (by rw [hX1]; exact (Keep.of_later hl2).setCell (p := ⟨g, A.toNat, none⟩) (.inl sg1) _)
    clear kP hX1
    have hl2 := Lib.hid hl2
    go_upto_region 19 with fail
    obtain ⟨X2, hX2⟩ : ∃ X, X = X1.setCell ⟨p, 1, none⟩ (.int .i64 (LF - 1)) := ⟨_, rfl⟩
    rw [← hX2]
    have hm2 : X2.heap[p]? = some (.cells #[.slice (some ⟨g, 0, none⟩) n0 n0, .int .i64 (LF - 1), .int .i64 BY] 127 (0, 0)) := by rw [hX2]; exact heap_set3b X1 p _ _ _ _ _ hm1.out
    have kP2 : X2.heap[P]? = some (.cells #[.int .u64 I, .int .i64 A, .int .i64 n0, .slice aoD nD capD] 25 (0, 0)) := by rw [hX2]; exact (Below.heap_setCell _ _ _ P (fun e => hkd.out.1 e.symm)).trans kP1.out
    have kx2 : X2.heap[x]? = some (.cells #[.int .i64 r, .map (some B)] 78 (0, 0)) := by rw [hX2]; exact (Below.heap_setCell _ _ _ x hkd.out.2.2.2.2).trans kx1.out
    have ho2 : Hid (∀ k, k ≠ p → X2.heap[k]? = X1.heap[k]?) := Lib.hid (fun k hk => by rw [hX2]; exact Below.heap_setCell _ _ _ k hk)
    have hk2 : Hid (Keep _ U X2) := Lib.hid (by rw [hX2]; exact hk1.out.setCell (p := ⟨p, 1, none⟩) (.inl sp1) _)
    clear hk1 hX2 c1 f1 hm1 kP1 kx1
    have d2 : X2.cell? ⟨p, 2, none⟩ = some (.int .i64 BY) := cell_of_row _ _ 2 _ _ _ hm2
    have f2 := frozen_row hm2 2
    have d3 : X2.cell? ⟨P, 3, none⟩ = some (.slice aoD nD capD) := cell_of_row _ _ 3 _ _ _ kP2
    replace hm2 := Lib.hid hm2
    replace kP2 := Lib.hid kP2
    replace kx2 := Lib.hid kx2
    go_region
    obtain ⟨X3, hX3⟩ : ∃ X, X = (X2.setCell ⟨p, 2, none⟩ (.int .i64 (BY + nD))).drew := ⟨_, rfl⟩
    rw [← hX3]
    have hm3 : X3.heap[p]? = some (.cells #[.slice (some ⟨g, 0, none⟩) n0 n0, .int .i64 (LF - 1), .int .i64 (BY + nD)] 127 (0, 0)) := by rw [hX3]; exact heap_set3c X2 p _ _ _ _ _ hm2.out
    have kP3 : X3.heap[P]? = some (.cells #[.int .u64 I, .int .i64 A, .int .i64 n0, .slice aoD nD capD] 25 (0, 0)) := by rw [hX3]; exact (Below.heap_setCell _ _ _ P (fun e => hkd.out.1 e.symm)).trans kP2.out
    have kx3 : X3.heap[x]? = some (.cells #[.int .i64 r, .map (some B)] 78 (0, 0)) := by rw [hX3]; exact (Below.heap_setCell _ _ _ x hkd.out.2.2.2.2).trans kx2.out
    have ho3 : Hid (∀ k, k ≠ p → X3.heap[k]? = X1.heap[k]?) := Lib.hid (fun k hk => by rw [hX3]; exact (Below.heap_setCell _ _ _ k hk).trans (ho2.out k hk))
    have hk3 : Hid (Keep _ U X3) := Lib.hid (by rw [hX3]; exact (hk2.out.setCell (p := ⟨p, 2, none⟩) (.inl sp1) _).drew)
    clear hX3 d2 f2 d3 hm2 kP2 kx2 ho2 hk2
    have hoU : Hid (∀ k, k < U.heap.size → k ≠ g → k ≠ p → X3.heap[k]? = U.heap[k]?) := Lib.hid (fun k h1 h2 h3 => (ho3.out k h3).trans (ho1.out k h1 h2))
    have hr3 : Hid (X3.ownsRow 0 23 1 (.slice (some ⟨g, 0, none⟩) n0 n0) n0 (vs.set a (.slice (some ⟨ga, 0, none⟩) nD cd))) := Lib.hid (row_at1 hr1.out (ho3.out g hkd.out.2.2.1))
    have hv3 : Hid (X3.ownsRow U.heap.size 5 1 (.slice (some ⟨ga, 0, none⟩) nD cd) nD (encB d)) := Lib.hid (row_at1 hv1.out (ho3.out ga (fun e => by have := hga.out; have := hpU.out; omega)))
    have hB3 : Hid (X3.ownsMap Try.prog 22 ptrElem B n D) := Lib.hid (map_at hY.out.map (hoU.out B hBk.out.1 hBk.out.2.1 hBk.out.2.2))
    clear hr1 hv1 ho1 ho3
    have z0 : X3.cell? ⟨P, 0, none⟩ = some (.int .u64 I) := cell_of_row _ _ 0 _ _ _ kP3
    have w0 : X3.cell? ⟨p, 0, none⟩ = some (.slice (some ⟨g, 0, none⟩) n0 n0) := cell_of_row _ _ 0 _ _ _ hm3
    have w1 : X3.cell? ⟨p, 1, none⟩ = some (.int .i64 (LF - 1)) := cell_of_row _ _ 1 _ _ _ hm3
    have e1 : X3.cell? ⟨x, 1, none⟩ = some (.map (some B)) := cell_of_row _ _ 1 _ _ _ kx3
    replace hm3 := Lib.hid hm3
    clear kP3 kx3
    have hPl : PlV X3 (fun k => T k ∨ k = ga) (.slice (some ⟨ga, 0, none⟩) nD cd) (some d) := by
      have h1 := hv3.out
      rw [← hnD.out] at h1
      rw [← hnD.out]
      refine ⟨(bytV_of_row hby h1).1, fun g' o s len cap' e _ => ?_, ⟨_, _, _, rfl⟩, by rw [hnD.out]; exact m6⟩
      cases e
      exact .inr rfl
    have hPls := Lib.hid (((hp.out.stay (w' := X3) (fun k hk => hoU.out k (hTd.out k hk).1 (hTd.out k hk).2.1 (hTd.out k hk).2.2)).mono (T' := fun k => T k ∨ k = ga) (fun k hk => .inl hk)).set (j := a) hPl)
    have hv3b := hv3
    clear hPl hv3
    have hno := Lib.hid (show ¬ (((M i).isNone = true ∧ r ≤ (n : Int)) ∨ 131072 < ((M i).getD (Msg.fresh n0)).by' + d.length) by
      rw [hMi]
      rintro (⟨_, h⟩ | h)
      · have := hnr.out; omega
      · have h : 131072 < (Msg.fresh n0).by' + d.length := h
        have e : (Msg.fresh n0).by' = 0 := rfl
        rw [hnD.out, e] at h
        omega)
    have hgd : Hid ((M i).getD (Msg.fresh n0) = m) := Lib.hid (by rw [hMi]; exact hmf.out)
    have q4 : (pcat m).length = m.by' := by
      rw [← hmf.out]
      show ((List.replicate n0 (none : Option (List Int))).map fun o => o.getD []).flatten.length = 0
      simp
    have hlWU := Lib.hid (show Later W U from hlWY.out)
    have hgrow : Hid (∀ k, k < g → k ≠ B → X3.heap[k]? = Z.heap[k]?) := Lib.hid (fun k hk _ => (hoU.out k (by have := hpU.out; have := hpe.out; omega) (by omega) (by have := hpe.out; omega)).trans (hlZ.out.block k (by rw [hg.out]; exact hk)))
    have hnM : n < maxLen := by
      have h1 := hY.out.full
      have h2 := hY.out.room.2
      have h3 : 64 < maxLen := by decide
      omega
    by_cases hpos : (0 : Int) < LF - 1
    · have hMB := MsgB.fill (pc := ⟨i, a, n0, d⟩) (S := S1) (T := fun k => T k ∨ k = ga) (by rw [hn0.out]; exact hm3.out) (by rw [hLF.out]) (by rw [hBY.out]; show _ + (d.length : Int) = _; rw [hnD.out]) (by rw [hn0.out]; exact hr3.out) hPls.out sp1 sg1 (by rw [hn0.out]; exact q1) ⟨hpos, by omega⟩ (by have := hB0.out; omega) q4 (by rw [hn0.out]; exact haN.out) hat
      have hgaX : ga < X3.heap.size := row_lt (k := nD) (base := U.heap.size) hv3b.out
      obtain ⟨w4, hrun4, hown4, hgr4⟩ := World.ownsMap.update (w := X3.drew) (t := 76) (World.ownsMap.drew hB3.out) lawM Try.underlying76 hnM (keyM hi62h.out) (ptrElem_mk p)
      have ho4 : ∀ k, k < X3.heap.size → k ≠ B → w4.heap[k]? = X3.heap[k]? := fun k hk hne => hgr4.block k hk (fun e => hne (Option.some.inj e))
      have hUX := hk3.out.size
      have hgX : g < X3.heap.size := row_lt hr3.out
      have hMB4 := hMB.stay (w' := w4) (ho4 p (Nat.lt_of_lt_of_le hpU.out hUX) (fun e => hBk.out.2.2 e.symm)) (ho4 g hgX (fun e => hBk.out.2.1 e.symm)) (fun k hk => by
        rcases hk with hk | rfl
        · exact ho4 k (Nat.lt_of_lt_of_le (hTd.out k hk).1 hUX) (fun e => hY.out.dis k hk (e ▸ hY.out.sb))
        · exact ho4 k hgaX (fun e => by have := hga.out; have := hBk.out.1; omega))
      obtain ⟨n2, D2, hR⟩ := hYZ.out.opened hf (w' := w4) (p := p) (g := g) (S' := S1) (T' := fun k => T k ∨ k = ga) (fun k hk hne => (ho4 k (by have := hg1.out k hk; omega) hne).trans (hgrow.out k (hg1.out k hk) hne)) (Nat.le_trans hlZ.out.size (Nat.le_trans hUX hgr4.size)) hown4 hMB4 (by rw [hg.out]; have := hpe.out; omega) (by rw [hg.out]; omega)
        (fun k hk => (hS1.out k).2 (.inl hk)) (fun k hk => .inl hk) (fun k hk => by
          have h4 : X3.heap.size ≤ w4.heap.size := hgr4.size
          rcases hk with hk | hk | rfl
          · rcases (hS1.out k).1 hk with h | rfl | rfl
            · have := hg1.out k (.inl h); omega
            · have := hpU.out; omega
            · omega
          · have := hg1.out k (.inr hk); omega
          · omega) (fun k hk hs => by
          have h5 := hga.out
          have h6 := hpU.out
          have h7 := hpe.out
          rcases hk with hk | rfl
          · rcases (hS1.out k).1 hs with h | rfl | rfl
            · exact hY.out.dis k hk h
            · have := hg1.out k (.inr hk); omega
            · have := hg1.out k (.inr hk); omega
          · rcases (hS1.out k).1 hs with h | rfl | rfl
            · have := hg1.out k (.inl h); omega
            · omega
            · omega) (by have := hnr.out; omega)
      have hK4 : Keep S W w4 := by
        have h1 : Keep S1 W w4 := ((Keep.of_later hlWU.out).trans (hk3.out.drew)).grown hgr4 (fun q e => by cases e; exact .inl ((hS1.out B).2 (.inl hY.out.sb)))
        refine h1.mono (fun k hk hs => ?_)
        rcases (hS1.out k).1 hs with h | rfl | rfl
        · exact h
        · have := hgW.out; have := hpe.out; omega
        · have := hgW.out; omega
      have hend : Left W x r S T (fun j => if j = i then some (m.fill ⟨i, a, n0, d⟩) else M j) [] (.slice none 0 0) w4 :=
        ⟨⟨S1, fun k => T k ∨ k = ga, ⟨B, D2, _, _, n2, hR⟩, fun k hk => by
          rcases (hS1.out k).1 hk with h | rfl | rfl
          · exact .inl h
          · have := hgW.out; have := hpe.out; exact .inr (by omega)
          · exact .inr hgW.out, fun k hk => hk.imp id (fun e => by have := hga.out; have := hlWU.out.size; omega), fun k hk => by cases hk⟩, hK4, World.ownsRow_nil _ _ _ _⟩
      have hpf := Lib.hid (pput_open hcl.out hth.out hno.out (m := m) hgd.out (by show 0 < m.left - 1; have := hLF.out; omega))
      replace hend := Lib.hid hend
      rw [hI.out] at hrun4
      clear hMB hnM hown4 hgr4 hR hK4 hgaX ho4 hUX hgX hMB4 q4
      go_wp2_with fail
      go_region
      go_wp2_with fail
      go_ret3
      exact ⟨_, _, _, _, _, rfl, hpf.out, hend.out⟩
    · have hlz : LF - 1 = 0 := by omega
      obtain ⟨w4, hrun4, hown4, ht4⟩ := World.ownsMap.drop (w := X3.drew) (t := 76) (World.ownsMap.drew hB3.out) lawM Try.underlying76 (keyM hi62h.out) 0
      have hg4 := ht4.grown
      have ho4 : ∀ k, k < X3.heap.size → k ≠ B → w4.heap[k]? = X3.heap[k]? := fun k hk hne => hg4.block k hk (fun e => hne (Option.some.inj e))
      have hUX := hk3.out.size
      have hpX : p < X3.heap.size := Nat.lt_of_lt_of_le hpU.out hUX
      have hgX : g < X3.heap.size := row_lt hr3.out
      have w04 : w4.cell? ⟨p, 0, none⟩ = some (.slice (some ⟨g, 0, none⟩) n0 n0) := (World.cell?_of_block (a := ⟨p, 0, none⟩) (ho4 p hpX (fun e => hBk.out.2.2 e.symm))).trans w0
      have hr4 := row_at1 hr3.out (ho4 g hgX (fun e => hBk.out.2.1 e.symm))
      have hP4 := hPls.out.stay (w' := w4) (fun k hk => by
        rcases hk with hk | rfl
        · exact ho4 k (Nat.lt_of_lt_of_le (hY.out.lt k (.inr hk)) hUX) (fun e => hY.out.dis k hk (e ▸ hY.out.sb))
        · exact ho4 k (row_lt (k := nD) (base := U.heap.size) hv3b.out) (fun e => by have := hga.out; have := hBk.out.1; omega))
      have hln : (m.l.set a (some d)).length = n0 := by rw [List.length_set, hn0.out]
      have hr4' : w4.ownsRow 0 23 1 (.slice (some ⟨g, 0, none⟩) (m.l.set a (some d)).length n0) (m.l.set a (some d)).length (vs.set a (.slice (some ⟨ga, 0, none⟩) nD cd)) := by rw [hln]; exact hr4
      have hBs := bsV_of hr4' hP4
      rw [hln] at hBs
      have hsum : ((m.l.set a (some d)).map fun o => o.getD []).flatten.length = m.by' + d.length := by
        rw [pcat_set (by rw [hn0.out]; exact haN.out) hat]
        exact congrArg (· + d.length) q4
      have hC := Lib.hid (concat_any _ _ w4 hBs (by rw [List.length_map, hln]; exact q1) (by rw [hsum, hnD.out]; have := hBY.out; omega))
      have hK4 : Keep S W w4 := by
        have h1 : Keep S1 W w4 := ((Keep.of_later hlWU.out).trans (hk3.out.drew)).grown hg4 (fun q e => by cases e; exact .inl ((hS1.out B).2 (.inl hY.out.sb)))
        refine h1.mono (fun k hk hs => ?_)
        rcases (hS1.out k).1 hs with h | rfl | rfl
        · exact h
        · have := hgW.out; have := hpe.out; omega
        · have := hgW.out; omega
      have hend : Hid (∀ w5 u5, w5.ownsRow w4.heap.size 5 1 u5 (pcat (m.fill ⟨i, a, n0, d⟩)).length (encB (pcat (m.fill ⟨i, a, n0, d⟩))) → Later w4 w5 → Left W x r S T (fun j => if j = i then none else M j) (pcat (m.fill ⟨i, a, n0, d⟩)) u5 w5) := Lib.hid (fun w5 u5 hr5 hl5 => by
        obtain ⟨n2, D2, hG⟩ := hYZ.out.gone i (w' := w5) (n' := n) (fun k hk h1 _ => (hl5.block k (Nat.lt_of_lt_of_le (Nat.lt_of_lt_of_le (hY.out.lt k hk) hUX) hg4.size)).trans ((ho4 k (Nat.lt_of_lt_of_le (hY.out.lt k hk) hUX) h1).trans (hgrow.out k (hg1.out k hk) h1))) (Nat.le_trans hlZ.out.size (Nat.le_trans (Nat.le_trans hUX hg4.size) hl5.size)) (map_at hown4 (hl5.block B (Nat.lt_of_lt_of_le (Nat.lt_of_lt_of_le hBk.out.1 hUX) hg4.size)))
        refine ⟨⟨S, T, ⟨B, D2, _, G, n2, hG⟩, fun k hk => .inl hk, fun k hk => .inl hk, fun k hk => ?_⟩, hK4.trans (Keep.of_later hl5), row_mono hr5 (Nat.le_trans hlWU.out.size (Nat.le_trans hUX hg4.size))⟩
        obtain ⟨a5, c5, rfl⟩ := own_form hr5
        cases a5 with
        | none => cases hk
        | some ad =>
          have hb5 : w4.heap.size ≤ k := by
            rcases hr5.2 with ⟨e, _⟩ | ⟨g', c', cur, e, hb, _⟩
            · cases e
            · cases e; cases hk; exact hb
          have h6 : U.heap.size ≤ k := Nat.le_trans (Nat.le_trans hUX hg4.size) hb5
          exact ⟨fun e => by have := hY.out.lt k (.inl e); omega, fun e => by have := hY.out.lt k (.inr e); omega⟩)
      have hpf := Lib.hid (pput_whole hcl.out hth.out hno.out (m := m) hgd.out (by show ¬ 0 < m.left - 1; have := hLF.out; omega))
      rw [hI.out] at hrun4
      clear hg4 ho4 hUX hpX hgX hr4 hr4' hP4 hln hBs hsum hK4 hown4 ht4 hlf q4 hnM
      go_wp2_with fail
      go_region
      clear hrun4 z0 w0 w1 e1
      go_wp2_with fail
      refine hC.out.mono ?_
      rintro e w5 ⟨u5, rfl, hr5, hl5⟩
      have hend5 := Lib.hid (hend.out w5 u5 hr5 hl5)
      clear hr5 hl5 hend
      go_wp2_with fail
      go_ret3
      exact ⟨_, _, _, _, _, rfl, hpf.out, hend5.out⟩
end Go.Proofs.Ytjelfiljebamgaa
