/-
  Chapter 8's law of what changes hands: the walk.
-/
import Derived.Test.YtackbajbladhhaaShI1
namespace Go.Proofs.Ytackbajbladhhaa
open Go.RowKit Go.Shelf Go.Maps
set_option linter.unusedVariables false
set_option linter.unusedSimpArgs false
attribute [local go_sem] Oper.semAt_some

theorem may_both {s : Scn} {A B : List Int} : (mayQ s A && memB B) = (mayQ s B && memB A) := by
  unfold mayQ
  cases memB A <;> cases memB B <;> simp
theorem IntsO.form {W : World} {v : Value} {M : List Int} (h : IntsO W v M) : ∃ ao cap, v = .slice ao M.length cap := by
  obtain ⟨ao, cap, rfl, _⟩ := h; exact ⟨ao, cap, rfl⟩
theorem IntsO.at {W : World} {ao : Option Addr} {n cap : Nat} {M : List Int} (h : IntsO W (.slice ao n cap) M) {k : Nat} (hk : k < M.length) : ∃ g o, ao = some ⟨g, o, none⟩ ∧ W.cell? ⟨g, o + k, none⟩ = some (.int .i64 (M.getD k 0)) := by
  obtain ⟨ao', cap', e, hc⟩ := h
  injection e with e1 _ _
  subst e1
  exact hc k hk
theorem IntsV.at {W : World} {ao : Option Addr} {n cap : Nat} {M : List Int} (h : IntsV W (.slice ao n cap) M) {k : Nat} (hk : k < M.length) : ∃ g, ao = some ⟨g, 0, none⟩ ∧ W.cell? ⟨g, k, none⟩ = some (.int .i64 (M.getD k 0)) := by
  obtain ⟨ao', cap', e, hc⟩ := h
  injection e with e1 _ _
  subst e1
  exact hc k hk
theorem IntsV.form {W : World} {v : Value} {M : List Int} (h : IntsV W v M) : ∃ ao cap, v = .slice ao M.length cap := by
  obtain ⟨ao, cap, rfl, _⟩ := h; exact ⟨ao, cap, rfl⟩
set_option maxRecDepth 100000 in
set_option maxHeartbeats 4000000 in
theorem moves_any (s : Scn) (A B : List Int) (va vb : Value) (W : World) (hs : s.Ok W) (ha : IntsO W va A) (hb : IntsO W vb B) :
    Calls Try.prog 6 #[s.V, va, vb] W fun e w' => e = .returned (.bool true) ∧ Later W w' := by
  obtain ⟨X, hX⟩ : ∃ X, X = W.alloc (.cells s.row.toArray 28) := ⟨_, rfl⟩
  have hlX : Later W X := by rw [hX]; exact (Later.refl W).alloc _
  have kS : ScnB X W.heap.size s := by rw [hX]; exact heap_alloc_new _ _
  have hS2 : (Try.prog.info? 28).map (·.size) = some s.row.toArray.size := by rw [List.size_toArray]; exact size_scn s
  have hAl := Lib.hid (fun V => alive8_any V)
  obtain ⟨ao, ac, rfl⟩ := ha.form
  obtain ⟨bo, bc, rfl⟩ := hb.form
  by_cases hP : (mayQ s A && memB B) = true
  · have hQ : (mayQ s B && memB A) = true := by rw [← may_both]; exact hP
    rw [Bool.and_eq_true] at hP hQ
    have hr := ids_rise (may_parts hP.1).2
    have hwr := (may_parts hP.1).2
    have h1 := Lib.hid (fun V (h : Later W V) => mov_yes s A B _ _ V (hs.later h) (ha.later h) (hb.later h) hP.1 hP.2)
    have h2 := Lib.hid (fun V (h : Later W V) => mov_yes s B A _ _ V (hs.later h) (hb.later h) (ha.later h) hQ.1 hQ.2)
    have h3 := Lib.hid (fun V (h : Later W V) => mov_yes s A A _ _ V (hs.later h) (ha.later h) (ha.later h) hP.1 hQ.2)
    have hsm := ids_small hwr
    have hIl := ids_length s
    have hos := (right_all hwr).1
    obtain ⟨I, hI⟩ : ∃ I, Hid (srt (idL s) = I) := ⟨_, rfl⟩
    rw [hI.out] at h1 h2 h3 hr hsm hIl
    rw [mov_same hr hQ.2] at h3
    rw [← mov_back hr hQ.2 hP.2] at h2
    have hLm : ∀ z ∈ movQ I A B, 1 ≤ z ∧ z ≤ 65535 := fun z hz => by
      obtain ⟨i, hi, _, rfl⟩ := mem_selN.1 hz
      exact hsm _ (by rw [List.getD_eq_getElem?_getD, List.getElem?_eq_getElem hi]; exact List.getElem_mem hi)
    have hLl : (movQ I A B).length ≤ 16 := by have := selN_length (fun i => !(ownR I B (I.getD i 0) == ow A i)) I I.length; unfold movQ; omega
    have hone := Lib.hid (fun node id => mov_all hr hQ.2 hP.2 (node := node) (id := id))
    obtain ⟨L, hL⟩ : ∃ L, Hid (movQ I A B = L) := ⟨_, rfl⟩
    rw [hL.out] at h1 h2 hLm hLl hone
    have hOf := Lib.hid (fun V (h : Later W V) node (hin : A.contains node = true) => of_yes s A _ node V (hs.later h) (ha.later h) hP.1 hin)
    rw [hI.out] at hOf
    have hAl64 := mem_length hQ.2
    have hBl64 := mem_length hP.2
    have hofs : Hid (∀ node, (ofQ I A node).length ≤ 16 ∧ ∀ z ∈ ofQ I A node, 1 ≤ z ∧ z ≤ 65535) := Lib.hid (fun node => by
      constructor
      · have := selN_length (fun i => ow A i == node) I I.length; unfold ofQ; omega
      · intro z hz
        obtain ⟨i, hi, _, rfl⟩ := mem_selN.1 hz
        exact hsm _ (by rw [List.getD_eq_getElem?_getD, List.getElem?_eq_getElem hi]; exact List.getElem_mem hi))
    replace hr := Lib.hid hr
    replace hsm := Lib.hid hsm
    replace hLm := Lib.hid hLm
    replace hwr := Lib.hid hwr
    clear hP hQ
    go_enter Try.func6, Try.ntmps6
    go_upto_region 1 with fail
    rw [← hX]
    clear hX
    go_wp2_with fail
    refine (hAl.out _).mono ?_
    rintro e w1 ⟨rfl, g1⟩
    have kS1 := g1.row kS
    replace g1 := hlX.trans g1
    go_wp2_with (refine wpList_load_row rfl _ _ rfl W.heap.size rfl _ _ (0, 0) _ kS1 Try.underlying28 rfl hS2 ?_)
    refine (h1.out _ g1).mono ?_
    rintro e w2 ⟨x, rfl, hx, g2⟩
    replace hx := hx.1
    obtain ⟨xo, xc, rfl⟩ := hx.form
    have kS2 := g2.row kS1
    replace g2 := g1.trans g2
    go_wp2_with (refine wpList_load_row rfl _ _ rfl W.heap.size rfl _ _ (0, 0) _ kS2 Try.underlying28 rfl hS2 ?_)
    refine (h2.out _ g2).mono ?_
    rintro e w3 ⟨y, rfl, hy, g3⟩
    replace hy := hy.1
    obtain ⟨yo, yc, rfl⟩ := hy.form
    replace hx := hx.later g3
    have kS3 := g3.row kS2
    replace g3 := g2.trans g3
    go_upto_region 6 with fail
    go_wp2_with (refine wpList_load_row rfl _ _ rfl W.heap.size rfl _ _ (0, 0) _ kS3 Try.underlying28 rfl hS2 ?_)
    refine (h3.out _ g3).mono ?_
    rintro e w4 ⟨z, rfl, hz, g4⟩
    replace hz := hz.1
    obtain ⟨zo, zc, rfl⟩ := hz.form
    replace hx := hx.later g4
    replace hy := hy.later g4
    have kS4 := g4.row kS3
    replace g4 := g3.trans g4
    clear hz kS1 kS2 kS3 g1 g2 g3 h1 h2 h3 hAl kS
    rw [show ([] : List Int).length = 0 from rfl]
    obtain ⟨n, hn⟩ : ∃ n, Hid (L.length = n) := ⟨_, rfl⟩
    have hIn := Lib.hid (ints_same _ _ L w4 hx hy (by omega))
    rw [hn.out] at hIn hx hy hLl ⊢
    go_wp2_with fail
    refine hIn.out.mono ?_
    rintro e w5 ⟨rfl, g5⟩
    replace hx := hx.later g5
    have kS5 := g5.row kS4
    replace g5 := g4.trans g5
    clear hy hIn kS4 g4
    have hmm := @run_makeMap Try.prog
    go_wp2_with fail
    clear hmm
    obtain ⟨M, hM⟩ : ∃ M, Hid (w5.heap.size = M) := ⟨_, rfl⟩
    obtain ⟨V, hV⟩ : ∃ V, V = w5.alloc (.map #[] 0) := ⟨_, rfl⟩
    have hVm : V.ownsMap Try.prog 3 (plainElem (H := Unit) Try.prog 3) M 0 (.map []) := by rw [hV, ← hM.out]; exact World.ownsMap_made _ _ _ _
    have g6 : Later w5 V := by rw [hV]; exact (Later.refl _).alloc _
    rw [← hV, hM.out]
    have hMw : w5.heap.size ≤ M := Nat.le_of_eq hM.out
    clear hV hM
    replace hn := hn
    go_loopw [75] (fun y wr => ∃ (k : Nat) (D : DataW Unit), k ≤ n ∧ y = .int .i64 k ∧ Later w5 wr ∧ wr.ownsMap Try.prog 3 (plainElem (H := Unit) Try.prog 3) M k D ∧ CntOk D (L.take k)) (fun y _ => (1000 - intOf y).toNat)
    case atStart => exact ⟨0, _, by omega, rfl, g6, hVm, CntOk.nil⟩
    case round =>
      obtain ⟨k, D, hk, rfl, hl, hown, hcnt⟩ := hrel
      obtain ⟨wo, rfl⟩ : ∃ wo : World, wo = wr := ⟨_, rfl⟩
      by_cases hkN : k < n
      · obtain ⟨g, rfl, cx⟩ := hx.at (k := k) (by rw [hn.out]; exact hkN)
        replace cx := hl.cell cx
        have hzm : L.getD k 0 ∈ L := by
          have : k < L.length := by rw [hn.out]; exact hkN
          rw [List.getD_eq_getElem?_getD, List.getElem?_eq_getElem this]; exact List.getElem_mem this
        have hz := hLm.out _ hzm
        have hstep := hcnt.step (L.getD k 0)
        have htk : L.take k ++ [L.getD k 0] = L.take (k + 1) := by
          have : k < L.length := by rw [hn.out]; exact hkN
          rw [List.getD_eq_getElem?_getD, List.getElem?_eq_getElem this]
          show _ ++ [L[k]] = _
          rw [List.take_append_getElem]
        rw [htk] at hstep
        have hcb : ∀ c : Int, D.atKey (.int .i64 (L.getD k 0)) (.lit (.int .i64 0)) = .lit (.int .i64 c) → (0 ≤ c ∧ c ≤ 16) ∧ c = ((L.take k).count (L.getD k 0) : Nat) := fun c hc => by
          rw [hcnt.at'] at hc
          injection hc with hc
          injection hc with _ hc
          have h1 : (L.take k).count (L.getD k 0) ≤ (L.take k).length := List.count_le_length
          rw [List.length_take] at h1
          omega
        obtain ⟨z, hze⟩ : ∃ z, Hid (L.getD k 0 = z) := ⟨_, rfl⟩
        rw [hze.out] at cx hz hstep hcb
        have hkey : keyOf Try.prog 3 (.int .i64 z) = some (.int .i64 z) := keyOf_int_mk Try.underlying3 (WalkArith.wf_i64 (by omega))
        have hki : (k : Int) < n := by omega
        have hML : 1000 < maxLen := by decide
        replace hstep := Lib.hid hstep
        replace hcb := Lib.hid hcb
        clear hzm htk hcnt hx
        go_wp2_with (first
          | (at_lookup; refine wpList_lookup_own_int _ rfl _ _ 57 rfl 3 3 .i64 lawI Try.underlying57 Try.underlying3 (zeroI _) M k _ rfl hown _ _ rfl hkey ?_; intro c hat hwc; have hc2 := (hcb.out c hat).1; have hc3 := Lib.hid (hcb.out c hat).2; clear hat hwc)
          | (at_mapUpdate; refine wpList_mapUpdate_own _ rfl _ _ _ 57 rfl 3 3 lawI Try.underlying57 _ M k _ rfl hown (by omega) _ _ _ rfl rfl hkey _ [] (plainElem_int Try.underlying3 (WalkArith.wf_i64 (by omega))) ?_; intro w1 hown1 hgrow1)
          | go_in)
        go_roundw
        case rel =>
          rw [hc3.out] at hown1
          exact ⟨k + 1, _, by omega, by go_num, Later.of_grown (grown_none hl.grown hgrow1 (fun r e => by cases e; exact hMw)), hown1, hstep.out⟩
        case measure => simp [intOf]; omega
      · obtain rfl : k = n := by omega
        rw [← hn.out, List.take_length] at hcnt
        clear hx
        go_wp2_with fail
        clear hLl hLm hn
        go_loopw [86] (fun y wr => ∃ i : Nat, i ≤ A.length ∧ y = .int .i64 i ∧ Later w5 wr ∧ wr.ownsMap Try.prog 3 (plainElem (H := Unit) Try.prog 3) M k D) (fun y _ => (1000 - intOf y).toNat)
        case atStart => exact ⟨0, by omega, rfl, hl, hown⟩
        case round =>
          obtain ⟨i, hi, rfl, hlr, hownr⟩ := hrel
          obtain ⟨wi, rfl⟩ : ∃ wi : World, wi = wr := ⟨_, rfl⟩
          by_cases hiA : i < A.length
          · obtain ⟨g, o, hao, ca⟩ := ha.at (k := i) hiA
            replace ca := (g5.trans hlr).cell ca
            have hin : A.contains (A.getD i 0) = true := by
              rw [List.contains_iff_mem, List.getD_eq_getElem?_getD, List.getElem?_eq_getElem hiA]; exact List.getElem_mem hiA
            have hOn := Lib.hid (hOf.out wi (g5.trans hlr) (A.getD i 0) hin)
            have hofn := Lib.hid (hofs.out (A.getD i 0))
            have hon := Lib.hid (hone.out (A.getD i 0))
            obtain ⟨node, hno⟩ : ∃ z, Hid (A.getD i 0 = z) := ⟨_, rfl⟩
            rw [hno.out] at ca hOn hofn hon
            have hiI : (i : Int) < A.length := by omega
            have kSi := hlr.row kS5
            subst hao
            clear hin
            go_wp2_with fail
            go_loopw [92, 19] (fun y st wr => ∃ (j : Nat) (b : Bool), j ≤ B.length ∧ y = .int .i64 j ∧ st = .bool b ∧ Hid (b = (B.take j).contains node) ∧ wr = wi) (fun y _ _ => (1000 - intOf y).toNat)
            case atStart => exact ⟨0, false, by omega, rfl, rfl, Lib.hid rfl, rfl⟩
            case round =>
              obtain ⟨j, b, hj, rfl, rfl, hbv, rfl⟩ := hrel
              by_cases hjB : j < B.length
              · obtain ⟨g2, o2, hbo, cb⟩ := hb.at (k := j) hjB
                replace cb := (g5.trans hlr).cell cb
                have hbs : Hid ((B.take (j + 1)).contains node = (b || (B.getD j 0 == node))) := Lib.hid (by
                  rw [hbv.out, show B.take (j + 1) = B.take j ++ [B.getD j 0] from by
                    rw [List.getD_eq_getElem?_getD, List.getElem?_eq_getElem hjB]
                    show _ = _ ++ [B[j]]
                    rw [List.take_append_getElem]]
                  rw [Bool.eq_iff_iff, List.contains_iff_mem, List.mem_append, List.mem_singleton, Bool.or_eq_true, List.contains_iff_mem, beq_iff_eq]
                  exact or_congr Iff.rfl ⟨Eq.symm, Eq.symm⟩)
                obtain ⟨q, hq⟩ : ∃ q, Hid (B.getD j 0 = q) := ⟨_, rfl⟩
                rw [hq.out] at cb hbs
                have hjI : (j : Int) < B.length := by omega
                subst hbo
                cases b
                · go_wp2_with fail
                  go_roundw
                  case rel => exact ⟨j + 1, (q == node), by omega, by go_num, rfl, Lib.hid (by rw [hbs.out]; rfl), by first | trivial | rfl⟩
                  case measure => simp [intOf]; omega
                · go_wp2_with fail
                  go_roundw
                  case rel => exact ⟨j + 1, true, by omega, by go_num, rfl, Lib.hid (by rw [hbs.out]; rfl), by first | trivial | rfl⟩
                  case measure => simp [intOf]; omega
              · obtain rfl : j = B.length := by omega
                rw [List.take_length] at hbv
                clear hjB
                go_wp2_with (refine wpList_load_row rfl _ _ rfl W.heap.size rfl _ _ (0, 0) _ kSi Try.underlying28 rfl hS2 ?_)
                refine hOn.out.mono ?_
                rintro e w7 ⟨u, rfl, hu, g7⟩
                replace hu := hu.1
                obtain ⟨uo, uc, rfl⟩ := hu.form
                replace hu := hu
                have hown7 := hownr.kept g7.grown (by simp)
                have hl7 := hlr.trans g7
                obtain ⟨U, hU⟩ : ∃ U, Hid (ofQ I A node = U) := ⟨_, rfl⟩
                rw [hU.out] at hu hofn hon ⊢
                obtain ⟨m, hm⟩ : ∃ m, Hid (U.length = m) := ⟨_, rfl⟩
                have hm16 : m ≤ 16 := by rw [← hm.out]; exact hofn.out.1
                rw [hm.out] at hu ⊢
                clear hOn
                go_wp2_with fail
                go_loopw [112] (fun y wr => ∃ r : Nat, r ≤ m ∧ y = .int .i64 r ∧ wr = w7) (fun y _ => (1000 - intOf y).toNat)
                case atStart => exact ⟨0, by omega, rfl, rfl⟩
                case round =>
                  obtain ⟨r, hr', rfl, rfl⟩ := hrel
                  by_cases hrm : r < m
                  · obtain ⟨g3, huo, cu⟩ := hu.at (k := r) (by rw [hm.out]; exact hrm)
                    have hxm : U.getD r 0 ∈ U := by
                      have : r < U.length := by rw [hm.out]; exact hrm
                      rw [List.getD_eq_getElem?_getD, List.getElem?_eq_getElem this]; exact List.getElem_mem this
                    have hxs := hofn.out.2 _ hxm
                    have hx1 : Hid (b = false → L.count (U.getD r 0) = 1) := Lib.hid (fun e => hon.out _ (by
                      intro hm2
                      rw [hbv.out] at e
                      rw [List.contains_iff_mem.2 hm2] at e
                      cases e) hxm)
                    obtain ⟨x, hx⟩ : ∃ x, Hid (U.getD r 0 = x) := ⟨_, rfl⟩
                    rw [hx.out] at cu hxs hx1
                    have hri : (r : Int) < m := by omega
                    subst huo
                    cases b
                    · have hkey : keyOf Try.prog 3 (.int .i64 x) = some (.int .i64 x) := keyOf_int_mk Try.underlying3 (WalkArith.wf_i64 (by omega))
                      obtain ⟨c, hrun, hat, _⟩ := hown7.lookup_int lawI Try.underlying57 Try.underlying3 (zeroI _) hkey
                      have hc1 : c = 1 := by
                        rw [hcnt.at', hx1.out rfl] at hat
                        injection hat with hat
                        injection hat with _ hat
                        exact hat.symm
                      subst hc1
                      clear hat hkey hxm
                      go_wp2_with fail
                      go_roundw
                      case rel => exact ⟨r + 1, by omega, by go_num, by first | trivial | rfl⟩
                      case measure => simp [intOf]; omega
                    · clear hxm
                      go_wp2_with fail
                      go_roundw
                      case rel => exact ⟨r + 1, by omega, by go_num, by first | trivial | rfl⟩
                      case measure => simp [intOf]; omega
                  · obtain rfl : r = m := by omega
                    go_wp2_with fail
                    go_roundw
                    case rel => exact ⟨i + 1, by omega, by go_num, hl7, hown7⟩
                    case measure => simp [intOf]; omega
          · obtain rfl : i = A.length := by omega
            go_wp2_with fail
            go_ret
            exact ⟨rfl, g5.trans hlr⟩
  · have hP' : (mayQ s A && memB B) = false := by simpa using hP
    have hQ' : (mayQ s B && memB A) = false := by rw [← may_both]; exact hP'
    have h1 := Lib.hid (fun V (h : Later W V) => mov_no s A B _ _ V (hs.later h) (ha.later h) (hb.later h) hP')
    have h2 := Lib.hid (fun V (h : Later W V) => mov_no s B A _ _ V (hs.later h) (hb.later h) (ha.later h) hQ')
    clear hP hP' hQ'
    go_enter Try.func6, Try.ntmps6
    go_upto_region 1 with fail
    rw [← hX]
    clear hX
    go_wp2_with fail
    refine (hAl.out _).mono ?_
    rintro e w1 ⟨rfl, g1⟩
    have kS1 := g1.row kS
    replace g1 := hlX.trans g1
    go_wp2_with (refine wpList_load_row rfl _ _ rfl W.heap.size rfl _ _ (0, 0) _ kS1 Try.underlying28 rfl hS2 ?_)
    refine (h1.out _ g1).mono ?_
    rintro e w2 ⟨rfl, g2⟩
    have kS2 := g2.row kS1
    replace g2 := g1.trans g2
    go_wp2_with (refine wpList_load_row rfl _ _ rfl W.heap.size rfl _ _ (0, 0) _ kS2 Try.underlying28 rfl hS2 ?_)
    refine (h2.out _ g2).mono ?_
    rintro e w3 ⟨rfl, g3⟩
    go_wp2_with fail
    go_ret
    exact ⟨rfl, g2.trans g3⟩
end Go.Proofs.Ytackbajbladhhaa
