/-
  BeatPlays: the walk.
-/
import Derived.Deep.CutBlock
import Derived.Test.YtaaohfocegnlkaaBtX
namespace Go.Proofs.Ytaaohfocegnlkaa
open Go.RowKit Go.Shelf
set_option linter.unusedVariables false
set_option linter.unusedSimpArgs false
attribute [local go_sem] Oper.semAt_some

/-- Both watches, in memory made since W0: the program's at b, the document's at rb, lb, bb; they say the same. -/
structure St (W0 W : World) (b rb lb bb N : Nat) (s p : Int) (g : Nat → Int) (i : Nat) : Prop where
  wb : WB W b g
  ref : RB W rb lb bb N s p (g 3) (lastG g) (badG g)
  inv : Inv N s p g i
  lat : Later W0 W
  b0 : W0.heap.size ≤ b
  r0 : W0.heap.size ≤ rb
  l0 : W0.heap.size ≤ lb
  x0 : W0.heap.size ≤ bb
  n1 : b ≠ rb
  n2 : b ≠ lb
  n3 : b ≠ bb
theorem St.later {W0 W W' : World} {b rb lb bb N : Nat} {s p : Int} {g : Nat → Int} {i : Nat} (h : St W0 W b rb lb bb N s p g i) (hl : Later W W') : St W0 W' b rb lb bb N s p g i :=
  ⟨Row.later h.wb hl, h.ref.later hl, h.inv, h.lat.trans hl, h.b0, h.r0, h.l0, h.x0, h.n1, h.n2, h.n3⟩
/-- The program's watch is written; the document's is not. -/
theorem St.rbG {W0 W W' : World} {b rb lb bb N : Nat} {s p : Int} {g : Nat → Int} {i : Nat} (h : St W0 W b rb lb bb N s p g i) (hg : W.grownBy W' (some b)) : RB W' rb lb bb N s p (g 3) (lastG g) (badG g) :=
  h.ref.grown hg (by simp; exact fun e => h.n1 e.symm) (by simp; exact fun e => h.n2 e.symm) (by simp; exact fun e => h.n3 e.symm)
theorem St.latG {W0 W W' : World} {b rb lb bb N : Nat} {s p : Int} {g : Nat → Int} {i : Nat} (h : St W0 W b rb lb bb N s p g i) (hg : W.grownBy W' (some b)) : Later W0 W' := grown_later h.lat hg h.b0
theorem two_row {W W' : World} {p q b : Nat} {g : Nat → Int} (h : WB W b g) (ht : Two W W' p q) (h1 : b ≠ p) (h2 : b ≠ q) : WB W' b g := (ht.block b h.lt h1 h2).trans h
theorem two_later {W0 W W' : World} {p q : Nat} (h : Later W0 W) (ht : Two W W' p q) (h1 : W0.heap.size ≤ p) (h2 : W0.heap.size ≤ q) : Later W0 W' :=
  ⟨ht.os.trans h.os, ht.tape.trans h.tape, ht.output.trans h.output, Nat.le_trans h.size ht.size, fun k hk => (ht.block k (Nat.lt_of_lt_of_le hk h.size) (by omega) (by omega)).trans (h.block k hk)⟩
theorem two_cell {W W' : World} {p q b o : Nat} {v : Value} (ht : Two W W' p q) (hc : W.cell? ⟨b, o, none⟩ = some v) (h1 : b ≠ p) (h2 : b ≠ q) : W'.cell? ⟨b, o, none⟩ = some v :=
  (World.cell?_of_block (a := ⟨b, o, none⟩) (ht.block b (cell_lt hc) h1 h2)).trans hc

theorem IntsF.two {n p q : Nat} {w w' : World} {v : Value} {L : List Int} (h : IntsF n w v L) (ht : Two w w' p q) (hp : p < n) (hq : q < n) : IntsV w' v L := by
  obtain ⟨⟨ao, cap, rfl, hv⟩, hf, _⟩ := h
  refine ⟨ao, cap, rfl, fun k hk => ?_⟩
  obtain ⟨g, rfl, hc⟩ := hv k hk
  have := hf g 0 none _ _ rfl
  exact ⟨g, rfl, two_cell ht hc (by omega) (by omega)⟩
set_option maxRecDepth 100000 in
set_option maxHeartbeats 2000000 in
theorem beatPlays_walk (s n p : Int) (L : List (Int × Int)) (u : Value) (W : World) (hu : OpsV W u L) :
    Calls Try.prog 5 #[.agg #[.int .i64 s, .int .i64 n, .int .i64 p], u] W fun e w' => e = .returned (.bool true) ∧ Later W w' := by
  obtain ⟨uo, ucap, rfl, hc⟩ := hu
  obtain ⟨m, hm⟩ : ∃ n, Hid (L.length = n) := ⟨_, rfl⟩
  rw [hm.out] at hc ⊢
  have hc := Lib.hid hc
  have hl0 : Later W (W.alloc (.cells #[.int .i64 s, .int .i64 n, .int .i64 p] 40)) := (Later.refl _).alloc _
  by_cases hm2 : 300 < m
  · go_enter Try.func5, Try.ntmps5
    go_wp2_with fail
    go_ret
    exact ⟨rfl, hl0⟩
  by_cases hok : 1 ≤ n ∧ n ≤ 64 ∧ 0 ≤ s ∧ s < n ∧ 4 ≤ p ∧ p ≤ 1000
  · obtain ⟨N, rfl⟩ : ∃ N : Nat, n = N := ⟨n.toNat, by omega⟩
    obtain ⟨h1, h2, h3, h4, h5, h6⟩ := hok
    have HN := Lib.hid (fun w => new_ok s N p w h1 h2 h3 h4 h5 h6)
    have HR := Lib.hid (fun w => rNew_ok s p N w (by omega) (by omega) h3 h4 h5 h6)
    go_enter Try.func5, Try.ntmps5
    go_wp2_with fail
    refine (HN.out _).mono ?_
    rintro e w1 ⟨b, rfl, hw, hb, hl1⟩
    replace hb : W.heap.size ≤ b := Nat.le_trans hl0.size hb
    have t0 : w1.cell? ⟨W.heap.size, 0, none⟩ = some (.int .i64 s) := hl1.cell (by simp)
    have t1 : w1.cell? ⟨W.heap.size, 1, none⟩ = some (.int .i64 N) := hl1.cell (by simp)
    have t2 : w1.cell? ⟨W.heap.size, 2, none⟩ = some (.int .i64 p) := hl1.cell (by simp)
    replace hl1 := hl0.trans hl1
    go_wp2_with fail
    refine (HR.out _).mono ?_
    rintro e w2 ⟨rb, lb, bb, rfl, hr, hr1, hr2, hr3, hl2⟩
    have hbl := hw.lt
    have hS : St W w2 b rb lb bb N s p (g0 s N p) 0 :=
      ⟨Row.later hw hl2, (hr.extL (fun k _ => (new_last0 N k).symm)).extB (fun k _ => (new_bad0 N h5 k).symm), inv_new N s p, hl1.trans hl2, hb, Nat.le_trans hl1.size hr1, Nat.le_trans hl1.size hr2, Nat.le_trans hl1.size hr3, by omega, by omega, by omega⟩
    clear HN HR hw hr hr1 hr2 hr3 hl1 hl2 hbl hb
    go_wp2_with fail
    go_loopw [5, 61] (fun v5 y wr => ∃ (i b : Nat) (g : Nat → Int), i ≤ m ∧ y = .int .i64 i ∧ v5 = wp b ∧ St W wr b rb lb bb N s p g i) (fun _ y _ => (5000 - intOf y).toNat)
    case atStart => exact ⟨0, b, _, by omega, rfl, rfl, hS⟩
    case round =>
      obtain ⟨i, b, g, hi, rfl, rfl, hS⟩ := hrel
      obtain ⟨wo, rfl⟩ : ∃ wo : World, wo = wr := ⟨_, rfl⟩
      by_cases hin : i < m
      · obtain ⟨gb, o, rfl, ck, cn⟩ := hc.out i hin
        replace ck := hS.lat.cell ck
        replace cn := hS.lat.cell cn
        rcases hx : L.getD i (0, 0) with ⟨kd, nd⟩
        rw [hx] at ck cn
        dsimp only at ck cn
        clear hx
        go_upto_block 2 with fail
        have hlx : Later wo (wo.alloc (.cells #[.int .i64 kd, .int .i64 nd] 47)) := (Later.refl _).alloc _
        have x0 : (wo.alloc (.cells #[.int .i64 kd, .int .i64 nd] 47)).cell? ⟨wo.heap.size, 0, none⟩ = some (.int .i64 kd) := by simp
        have x1 : (wo.alloc (.cells #[.int .i64 kd, .int .i64 nd] 47)).cell? ⟨wo.heap.size, 1, none⟩ = some (.int .i64 nd) := by simp
        have hwx := hS.lat.size
        obtain ⟨xb, hxb⟩ : ∃ xb, Hid (wo.heap.size = xb) := ⟨_, rfl⟩
        obtain ⟨X, hX⟩ : ∃ X, X = wo.alloc (.cells #[.int .i64 kd, .int .i64 nd] 47) := ⟨_, rfl⟩
        rw [← hX] at hlx x0 x1 ⊢
        have hbx := hS.wb.lt
        have hrx := hS.ref.lt
        rw [hxb.out] at x0 x1 hwx hbx hrx ⊢
        replace hS := hS.later hlx
        clear hX hlx ck cn
        go_cut [5, 11, 12, 13, 14, 15, 16, 17, 18, 69, 70, 79, 103] (fun v5 v11 v12 v13 v14 v15 v16 v17 v18 v69 v70 v79 v103 wx => ∃ b' g', v5 = wp b' ∧ v11 = .bool true ∧ St W wx b' rb lb bb N s p g' (i + 1) ∧ wx.cell? ⟨xb, 1, none⟩ = some (.int .i64 nd) ∧ xb ≠ b')
        case first =>
          have hg1 : 1 ≤ g 1 ∧ g 1 ≤ 64 := by rw [hS.inv.e1]; omega
          have hg3 : 0 ≤ g 3 ∧ g 3 ≤ 300 := by have := hS.inv.n3; omega
          by_cases k0 : kd = 0
          · subst k0
            have HT := Lib.hid (hS.inv.tick (by omega))
            have hlen : (tkL g).length ≤ 4096 := by rw [HT.out]; exact Nat.le_trans (rtL_length _) (by omega)
            go_wp2_with fail
            refine (tick_any b g _ hS.wb hg1 (by omega)).mono ?_
            rintro e w3 ⟨va, rfl, hva, hwb, hg⟩
            have hrb := hS.rbG hg
            replace x1 := grown_cell hg x1 (by omega)
            have hlt := hS.latG hg
            have hne := hS.n1
            have hne2 := hS.n3
            have hXs : xb < X.heap.size := cell_lt x0
            go_wp2_with fail
            refine (rTick_any rb lb bb N s p (g 3) (lastG g) (badG g) _ hrb (by omega) (by omega) (by omega) (fun k hk => by have := hS.inv.ln k hk; unfold lastG; omega)).mono ?_
            rintro e w4 ⟨vb, rfl, hvb, hrb2, ht⟩
            rw [← HT.out] at hvb
            have hva2 := hva.two ht (by omega) (by omega)
            replace x1 := two_cell ht x1 (by omega) (by omega)
            go_wp2_with fail
            refine (same_ints va vb (tkL g) _ hva2 hvb hlen).mono ?_
            rintro e w5 ⟨rfl, hl5⟩
            go_wp2_with fail
            go_meet
            exact ⟨b, tk g, rfl, rfl, ⟨Row.later (two_row hwb ht hne hne2) hl5, ((hrb2.extL (fun k _ => (tickL k).symm)).extB (fun k hk => hS.inv.tickB (by omega) hk)).later hl5, hS.inv.tk, (two_later hlt ht hS.r0 hS.x0).trans hl5, hS.b0, hS.r0, hS.l0, hS.x0, hS.n1, hS.n2, hS.n3⟩, hl5.cell x1, by omega⟩
          by_cases k1 : kd = 1
          · subst k1
            have HH := Lib.hid (heard_any b g nd X hS.wb hg1)
            have hne2 := hS.n2
            have hne := hS.n3
            have hXs : xb < X.heap.size := cell_lt x0
            cases hI : isB N s nd with
            | false =>
              obtain ⟨q1, q2, q3⟩ := hS.inv.hd_no hI
              rw [q1, q2, q3] at HH
              have HR := Lib.hid (fun w h => rHeard_no rb lb bb N s p (g 3) nd (lastG g) (badG g) w h (of_decide_eq_false hI))
              clear q1 q2 q3 hI
              go_wp2_with fail
              refine HH.out.mono ?_
              rintro e w3 ⟨rfl, hwb, hg⟩
              have hrb := hS.rbG hg
              replace x1 := grown_cell hg x1 (by omega)
              have hlt := hS.latG hg
              go_wp2_with fail
              refine (HR.out _ hrb).mono ?_
              rintro e w4 ⟨rfl, hl4⟩
              go_wp2_with fail
              go_meet
              exact ⟨b, g, rfl, rfl, ⟨Row.later hwb hl4, hrb.later hl4, hS.inv.mono (by omega), hlt.trans hl4, hS.b0, hS.r0, hS.l0, hS.x0, hS.n1, hS.n2, hS.n3⟩, hl4.cell x1, by omega⟩
            | true =>
              have hI2 : 0 ≤ nd ∧ nd < (N : Int) ∧ nd ≠ s := of_decide_eq_true hI
              obtain ⟨k, rfl⟩ : ∃ k : Nat, nd = k := ⟨nd.toNat, by omega⟩
              have hkN : k < N := by omega
              have hks : (k : Int) ≠ s := hI2.2.2
              obtain ⟨q1, q2⟩ := hS.inv.hd_yes (by omega) hkN hks
              rw [q1, q2] at HH
              have HR := Lib.hid (fun w h => rHeard_yes rb lb bb N k s p (g 3) (lastG g) (badG g) w h hkN hks (by omega))
              obtain ⟨z, hz⟩ : ∃ z, Hid (badG g k = z) := ⟨_, rfl⟩
              rw [hz.out] at HH HR
              clear q1 q2 hI
              replace hks := Lib.hid hks
              clear hI2
              go_wp2_with fail
              refine HH.out.mono ?_
              rintro e w3 ⟨rfl, hwb, hg⟩
              have hrb := hS.rbG hg
              replace x1 := grown_cell hg x1 (by omega)
              have hlt := hS.latG hg
              go_wp2_with fail
              refine (HR.out _ hrb).mono ?_
              rintro e w4 ⟨rfl, hrb2, ht⟩
              replace x1 := two_cell ht x1 (by omega) (by omega)
              go_wp2_with fail
              go_meet
              refine ⟨b, hdG g k, rfl, rfl, ⟨two_row hwb ht hne2 hne, ?_, (hS.inv.hd k).mono (by omega), two_later hlt ht hS.l0 hS.x0, hS.b0, hS.r0, hS.l0, hS.x0, hS.n1, hS.n2, hS.n3⟩, x1, by omega⟩
              have := (hrb2.extL (fun j _ => hS.inv.hdL hkN hks.out j)).extB (fun j _ => hS.inv.hdB (by omega) hkN hks.out j)
              rw [show hdG g k 3 = g 3 from hdG_lo g k (by omega)]
              exact this
          by_cases k2 : kd = 2
          · subst k2
            have hne : ¬ g 1 = 0 := by omega
            have hXs : xb < X.heap.size := cell_lt x0
            go_wp2_with fail
            refine (copy_any b g _ hS.wb hne).mono ?_
            rintro e w3 ⟨c, rfl, hwc, hc0, hl3⟩
            replace hS := hS.later hl3
            replace x1 := hl3.cell x1
            have hWX := hS.lat.size
            have hbc := hbx
            go_wp2_with fail
            refine (tick_any b g _ hS.wb hg1 (by omega)).mono ?_
            rintro e w4 ⟨va, rfl, _, hwb4, hg4⟩
            have hrb4 := hS.rbG hg4
            replace x1 := grown_cell hg4 x1 (by omega)
            replace hwc := hwc.grown hg4 (by simp; omega)
            have hlt := hS.latG hg4
            go_wp2_with fail
            refine (heard_any b (tk g) nd _ hwb4 (by show 1 ≤ g 1 ∧ g 1 ≤ 64; exact hg1)).mono ?_
            rintro e w5 ⟨rfl, hwb5, hg5⟩
            replace x1 := grown_cell hg5 x1 (by omega)
            replace hwc := hwc.grown hg5 (by simp; omega)
            replace hrb4 := hrb4.grown hg5 (by simp; exact fun e => hS.n1 e.symm) (by simp; exact fun e => hS.n2 e.symm) (by simp; exact fun e => hS.n3 e.symm)
            replace hlt := grown_later hlt hg5 hS.b0
            go_wp2_with fail
            go_meet
            exact ⟨c, g, rfl, rfl, ⟨hwc, hrb4, hS.inv.mono (by omega), hlt, by omega, hS.r0, hS.l0, hS.x0, by omega, by omega, by omega⟩, x1, by omega⟩
          have c0 : (kd == 0) = false := by simp [k0]
          have c1 : (kd == 1) = false := by simp [k1]
          have c2 : (kd == 2) = false := by simp [k2]
          go_wp2_with fail
          go_meet
          exact ⟨b, g, rfl, rfl, ⟨hS.wb, hS.ref, hS.inv.mono (by omega), hS.lat, hS.b0, hS.r0, hS.l0, hS.x0, hS.n1, hS.n2, hS.n3⟩, x1, by omega⟩
        case rest =>
          obtain ⟨b', g', rfl, rfl, hS', x1', hxb'⟩ := hcut
          clear hS x0 x1 hbx hrx
          have hg1 : 1 ≤ g' 1 ∧ g' 1 ≤ 64 := by rw [hS'.inv.e1]; omega
          have hne : ¬ g' 1 = 0 := by omega
          have hi1 := hS'.inv
          have hq := hS'.inv.isq nd
          have HQ := Lib.hid (fun w h => quiet_any b' g' nd w h (by omega))
          have HR := Lib.hid (fun w h => rQuiet_any rb lb bb N s p (g' 3) nd (lastG g') (badG g') w h (by omega))
          rw [hq.1, hq.2] at HQ
          obtain ⟨z, hz⟩ : ∃ z, Hid (isB N s nd = z) := ⟨_, rfl⟩
          obtain ⟨q, hqq⟩ : ∃ q, Hid ((if isB N s nd = true then IntKind.i64.wrap (g' 3 - lastG g' nd.toNat) else 0) = q) := ⟨_, rfl⟩
          rw [hqq.out, hz.out] at HQ HR
          obtain ⟨A, hA⟩ : ∃ A, Hid (lsL (badG g') false N = A) := ⟨_, rfl⟩
          obtain ⟨B, hB⟩ : ∃ A, Hid (lsL (badG g') true N = A) := ⟨_, rfl⟩
          have hAl : A.length ≤ 4096 := by rw [← hA.out]; exact Nat.le_trans (lsL_length _ _ _) (by omega)
          have hBl : B.length ≤ 4096 := by rw [← hB.out]; exact Nat.le_trans (lsL_length _ _ _) (by omega)
          have HS := Lib.hid (fun w h => suspects_any b' g' w h (by omega))
          rw [hS'.inv.sus (by omega), hA.out] at HS
          have HA := Lib.hid (fun w h => alive_nodes b' g' w h hg1)
          rw [alv_eq (by rw [hS'.inv.e0, hS'.inv.e1]; omega), hS'.inv.alv (by omega), hB.out] at HA
          have HLf := Lib.hid (fun w h => rList_any rb lb bb N s p (g' 3) (lastG g') (badG g') false w h (by omega))
          have HLt := Lib.hid (fun w h => rList_any rb lb bb N s p (g' 3) (lastG g') (badG g') true w h (by omega))
          rw [hA.out] at HLf
          rw [hB.out] at HLt
          have HN := Lib.hid (fun w h => now_any b' g' w h hne)
          have HD := Lib.hid (fun w h => due_any b' g' w h hne)
          have hwb := hS'.wb
          have hrb := hS'.ref
          replace hi1 := Lib.hid hi1
          obtain ⟨last, hlast⟩ : ∃ l, lastG g' = l := ⟨_, rfl⟩
          obtain ⟨bad, hbad⟩ : ∃ l, badG g' = l := ⟨_, rfl⟩
          obtain ⟨now, hnow⟩ : ∃ l, g' 3 = l := ⟨_, rfl⟩
          rw [hnow] at HN HD
          rw [hlast, hbad, hnow] at hrb HR HLf HLt
          replace hlast := Lib.hid hlast
          replace hbad := Lib.hid hbad
          replace hnow := Lib.hid hnow
          have hlt := hS'.lat
          replace hS' := Lib.hid (show W.heap.size ≤ b' ∧ W.heap.size ≤ rb ∧ W.heap.size ≤ lb ∧ W.heap.size ≤ bb ∧ b' ≠ rb ∧ b' ≠ lb ∧ b' ≠ bb from ⟨hS'.b0, hS'.r0, hS'.l0, hS'.x0, hS'.n1, hS'.n2, hS'.n3⟩)
          clear hq hne hg1
          as_aux_lemma =>
            go_wp2_with fail
            refine (HQ.out _ hwb).mono ?_
            rintro e w3 ⟨rfl, hl3⟩
            replace hwb := Row.later hwb hl3
            replace hrb := hrb.later hl3
            replace x1' := hl3.cell x1'
            replace hlt := hlt.trans hl3
            go_wp2_with fail
            refine (HR.out _ hrb).mono ?_
            rintro e w4 ⟨rfl, hl4⟩
            replace hwb := Row.later hwb hl4
            replace hrb := hrb.later hl4
            replace hlt := hlt.trans hl4
            go_wp2_with fail
            refine (HS.out _ hwb).mono ?_
            rintro e w5 ⟨va, rfl, hva, hl5⟩
            replace hwb := Row.later hwb hl5
            replace hrb := hrb.later hl5
            replace hlt := hlt.trans hl5
            go_wp2_with fail
            refine (HA.out _ hwb).mono ?_
            rintro e w6 ⟨vb, rfl, hvb, hl6⟩
            replace hwb := Row.later hwb hl6
            replace hrb := hrb.later hl6
            replace hva := hva.later hl6
            replace hlt := hlt.trans hl6
            clear HQ HR HS HA hl3 hl4 hl5 hl6 x1'
            have HIa := Lib.hid (fun u w (h : IntsV w va A) h2 => same_ints va u A w h h2 hAl)
            have HIb := Lib.hid (fun u w (h : IntsV w vb B) h2 => same_ints vb u B w h h2 hBl)
            have c3 : w6.cell? ⟨rb, 3, none⟩ = some (.int .i64 now) := hrb.cell 3
            go_wp2_with fail
            go_region_held3 (fun V => WB V b' g' ∧ RB V rb lb bb N s p now last bad ∧ V.cell? ⟨rb, 3, none⟩ = some (.int .i64 now) ∧ IntsV V va A ∧ IntsV V vb B) ((go_split_ands; (repeat' apply And.intro) <;> first | assumption | exact (Later.refl _).drew.cell (by assumption) | exact Row.later (by assumption) (drew_later _) | exact RB.later (by assumption) (drew_later _) | exact IntsV.later (by assumption) (drew_later _) | exact Later.cell hL (by assumption) | exact Row.later (by assumption) hL | exact RB.later (by assumption) hL | exact IntsV.later (by assumption) hL)) (first | (go_at_call 15; refine (HN.out _ (by first | assumption | exact Row.later hwb (drew_later _))).mono ?_; rintro e V0 ⟨rfl, hL⟩; have hK0 := (drew_later w6).trans hL) | (go_at_call 22; ((with_reducible refine (HD.out _ (Row.later hwb hK0)).mono ?_)); rintro e V1 ⟨rfl, hL⟩; have hK1 := hK0.trans hL) | (go_at_call 23; ((with_reducible refine (HLf.out _ (hrb.later hK1)).mono ?_)); rintro e V2 ⟨v2, rfl, hv2, hL⟩; have hK2 := hK1.trans hL) | (go_at_call 13; ((with_reducible refine (HIa.out _ _ (hva.later hK2) hv2).mono ?_)); rintro e V3 ⟨rfl, hL⟩; have hK3 := hK2.trans hL) | (go_at_call 23; ((with_reducible refine (HLt.out _ (hrb.later hK3)).mono ?_)); rintro e V4 ⟨v4, rfl, hv4, hL⟩; have hK4 := hK3.trans hL) | (go_at_call 13; ((with_reducible refine (HIb.out _ _ (hvb.later hK4) hv4).mono ?_)); rintro e V5 ⟨rfl, hL⟩; have hK5 := hK4.trans hL))
            have hrb5 := hrb.later hK5
            have hwb5 := Row.later hwb hK5
            replace hlt := hlt.trans hK5
            rw [← hlast.out, ← hbad.out, ← hnow.out] at hrb5
            obtain ⟨d1, d2, d3, d4, d5, d6, d7⟩ := hS'.out
            have hFin : St W V5 b' rb lb bb N s p g' (i + 1) := ⟨hwb5, hrb5, hi1.out, hlt, d1, d2, d3, d4, d5, d6, d7⟩
            clear hrb5 hwb5 hlt hlast hbad hnow hi1 HN HD HLf HLt HIa HIb hva hvb hwb hrb c3 hv2 hv4 hK0 hK1 hK2 hK3 hK4 hK5 d1 d2 d3 d4 d5 d6 d7 hL
            go_wp2_with fail
            go_roundw
            case rel => first | exact ⟨i + 1, b', g', by omega, by go_num, rfl, hFin⟩ | ((repeat apply Exists.intro); exact ⟨⟨i + 1, b', g', by omega, by go_num, rfl, hFin⟩, rfl⟩)
            case measure => simp [intOf]; omega
      · obtain rfl : i = m := by omega
        go_wp2_with fail
        go_ret
        exact ⟨rfl, hS.lat⟩
  · have HN := Lib.hid (fun w => new_bad s n p w hok)
    have HR := Lib.hid (fun w => rNew_bad s n p w hok)
    clear hok
    go_enter Try.func5, Try.ntmps5
    go_wp2_with fail
    refine (HN.out _).mono ?_
    rintro e w1 ⟨rfl, hl1⟩
    have t0 : w1.cell? ⟨W.heap.size, 0, none⟩ = some (.int .i64 s) := hl1.cell (by simp)
    have t1 : w1.cell? ⟨W.heap.size, 1, none⟩ = some (.int .i64 n) := hl1.cell (by simp)
    have t2 : w1.cell? ⟨W.heap.size, 2, none⟩ = some (.int .i64 p) := hl1.cell (by simp)
    replace hl1 := hl0.trans hl1
    go_wp2_with fail
    refine (HR.out _).mono ?_
    rintro e w2 ⟨rfl, hl2⟩
    go_wp2_with fail
    go_ret
    exact ⟨rfl, hl1.trans hl2⟩
end Go.Proofs.Ytaaohfocegnlkaa
