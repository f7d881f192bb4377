/-
  Chapter 8's law of the whole: the walk.
-/
import Derived.BigQuiet
import Derived.Test.YtackbajbladhhaaShM1
namespace Go.Proofs.Ytackbajbladhhaa
open Go.RowKit Go.Shelf Go.Maps
set_option linter.unusedVariables false
set_option linter.unusedSimpArgs false
attribute [local go_sem] Oper.semAt_some
attribute [-go_sem] Instr.buildSlice Builtin.append_
attribute [-simp] Try.sizeOf37 Try.typeInfo37 Try.sizeOf28 Try.typeInfo28

set_option maxRecDepth 100000 in
theorem ints_quiet (u v : Value) (L : List Int) (W : World) (hu : IntsV W u L) (hv : IntsV W v L) (hL : L.length ≤ 1000000) :
    Calls Try.prog 21 #[u, v] W fun e w' => e = .returned (.bool true) ∧ ∃ m, w' = W.drewN m := by
  obtain ⟨ao, cap, rfl, hcu⟩ := hu
  obtain ⟨bo, cbp, rfl, hcv⟩ := hv
  obtain ⟨n, hn⟩ : ∃ n, Hid (L.length = n) := ⟨_, rfl⟩
  rw [hn.out] at hL
  have h1 : Hid (∀ k, k < n → ∃ g, ao = some ⟨g, 0, none⟩ ∧ W.cell? ⟨g, k, none⟩ = some (.int .i64 (L.getD k 0))) := Lib.hid (by rw [← hn.out]; exact hcu)
  have h2 : Hid (∀ k, k < n → ∃ g, bo = some ⟨g, 0, none⟩ ∧ W.cell? ⟨g, k, none⟩ = some (.int .i64 (L.getD k 0))) := Lib.hid (by rw [← hn.out]; exact hcv)
  rw [hn.out]
  clear hcu hcv
  go_enter Try.func21, Try.ntmps21
  go_wp2_with fail
  go_loopg [5] (n + 1) (fun g y wr => Hid (∃ m, wr = W.drewN m) ∧ ∃ (i : Nat), g = n + 1 - i ∧ i ≤ n ∧ y = .int .i64 i)
  case atStart => exact ⟨Lib.hid ⟨0, rfl⟩, 0, by omega, Nat.zero_le _, rfl⟩
  case round =>
    obtain ⟨hl, i, rfl, hin, rfl⟩ := hrel
    obtain ⟨wo, rfl⟩ : ∃ wo : World, wo = wr := ⟨_, rfl⟩
    have hlw : Later W wo := by obtain ⟨m, e⟩ := hl.out; rw [e]; exact (Later.refl _).drewN _
    by_cases hi : i < n
    · have hii : (i : Int) < (n : Int) := by omega
      obtain ⟨g, rfl, hc⟩ := h1.out i hi
      obtain ⟨g2, rfl, hc2⟩ := h2.out i hi
      obtain ⟨x, hx⟩ : ∃ x, Hid (L.getD i 0 = x) := ⟨_, rfl⟩
      rw [hx.out] at hc hc2
      replace hc := hlw.cell hc
      replace hc2 := hlw.cell hc2
      go_wp2_with fail
      go_quiet (fail)
      obtain ⟨w2, hw2⟩ : ∃ X, X = wo.drewN nq := ⟨_, rfl⟩
      have hl2 : Hid (∃ m, w2 = W.drewN m) := Lib.hid (by obtain ⟨m, e⟩ := hl.out; exact ⟨_, by rw [hw2, e, World.drewN_drewN]⟩)
      rw [← hw2]
      clear hw2
      go_wp2_with fail
      go_roundg (n - i)
      case measure => omega
      case rel => exact ⟨hl2, i + 1, by omega, by omega, by go_num⟩
    · obtain rfl : n = i := by omega
      have hii : ¬ (n : Int) < (n : Int) := by omega
      go_wp2_with fail
      go_ret
      exact ⟨rfl, hl.out⟩
theorem rev_may (s : Scn) (u : Value) (M : List Int) : mayQ (revS s u) M = mayQ s M := by
  have h : ∀ (p q : Prop), p = q → @decide p (Classical.propDecidable _) = @decide q (Classical.propDecidable _) := fun p q h => by subst h; rfl
  unfold mayQ
  rw [h _ _ (rev_zero s u)]
set_option maxRecDepth 100000 in
set_option maxHeartbeats 4000000 in
theorem whole_any (s : Scn) (M : List Int) (v : Value) (W : World) (hs : s.Ok W) (hv : IntsO W v M) :
    Calls Try.prog 7 #[s.V, v] W fun e w' => e = .returned (.bool true) ∧ Later W w' := by
  obtain ⟨X, hX⟩ : ∃ X, X = W.alloc (.cells s.row.toArray 28) := ⟨_, rfl⟩
  have hlX : Later W X := by rw [hX]; exact (Later.refl W).alloc _
  have kS : ScnB X W.heap.size s := by rw [hX]; exact heap_alloc_new _ _
  have hss : (Try.prog.info? 28).map (·.size) = some s.row.toArray.size := size_scn' s
  have hAl := Lib.hid (fun V => alive8_any V)
  obtain ⟨P, hP⟩ : ∃ P, Hid (W.heap.size = P) := ⟨_, rfl⟩
  by_cases hmay : mayQ s M = true
  · have hA := Lib.hid (fun V (h : Later W V) => all_yes s M _ V (hs.later h) (hv.later h) hmay)
    have hAt := Lib.hid (fun V (h : Later W V) u (hu : (revS s u).Ok V) => all_yes (revS s u) M _ V hu (hv.later h) (by rw [rev_may]; exact hmay))
    have hOw := Lib.hid (fun V (h : Later W V) id => owner_any s M _ id V (hs.later h) (hv.later h))
    have hof := Lib.hid (fun node id => own_of hmay (node := node) (id := id))
    obtain ⟨hmem, hwr⟩ := may_parts hmay
    have hr := ids_rise hwr
    have hpm := Lib.hid (all_perm hr hmem)
    have hnear := Lib.hid (near_all (I := srt (idL s)) hmem)
    have hsm := Lib.hid (ids_small hwr)
    have hIl := ids_length s
    have hn16 := (right_all hwr).1
    have hml := mem_length hmem
    have hat := Lib.hid (fun p (hp : p < M.length) => all_at (I := srt (idL s)) hp)
    simp only [rev_ids] at hAt
    have hidI : Hid (∀ (k : Nat) (x : SObj), s.os[k]? = some x → x.id ∈ srt (idL s)) := Lib.hid (fun k x hx => (List.mergeSort_perm _ _).mem_iff.2 (by unfold idL; exact List.mem_map.2 ⟨x, List.mem_of_getElem? hx, rfl⟩))
    obtain ⟨I, hI⟩ : ∃ I, Hid (srt (idL s) = I) := ⟨_, rfl⟩
    rw [hI.out] at hA hAt hof hr hpm hnear hsm hIl hat hidI
    have hnd := Lib.hid (rises_nodup hr)
    obtain ⟨LL, hLL⟩ : ∃ LL, Hid (M.map (ofQ I M) = LL) := ⟨_, rfl⟩
    rw [hLL.out] at hA hAt hpm hnear hat
    have hLLl : LL.length = M.length := by rw [← hLL.out, List.length_map]
    obtain ⟨ao, ac, rfl⟩ := hv.form
    obtain ⟨ro, rc, hu⟩ := hs.1.form
    rw [List.length_map] at hu
    obtain ⟨n, hn⟩ : ∃ n, Hid (s.os.length = n) := ⟨_, rfl⟩
    rw [hn.out] at hu hIl hn16
    rw [hIl] at hnear
    obtain ⟨m, hm⟩ : ∃ m, Hid (M.length = m) := ⟨_, rfl⟩
    rw [hm.out] at hA hAt hOw hnear hml hat hLLl hv ⊢
    have hu := Lib.hid hu
    replace hIl := Lib.hid hIl
    replace hLLl := Lib.hid hLLl
    replace hr := Lib.hid hr
    replace hmem := Lib.hid hmem
    replace hwr := Lib.hid hwr
    clear hmay
    go_enter Try.func7, Try.ntmps7
    go_upto_region 1 with fail
    rw [← hX]
    clear hX
    rw [hP.out] at kS ⊢
    go_wp2_with fail
    refine (hAl.out _).mono ?_
    rintro e w1 ⟨rfl, g1⟩
    have kS1 := g1.row kS
    replace g1 := hlX.trans g1
    go_wp2_with (refine wpList_load_row rfl _ _ rfl P rfl _ _ (0, 0) _ kS1 Try.underlying28 rfl hss ?_)
    refine (hA.out _ g1).mono ?_
    rintro e w2 ⟨u, rfl, hU, g2⟩
    obtain ⟨uo, uc, rfl⟩ := hU.form
    rw [hLLl.out] at hU ⊢
    have kS2 := g2.row kS1
    replace g2 := g1.trans g2
    clear hA hAl kS kS1 g1
    have hmm := @run_makeMap Try.prog
    go_upto_region 6 with fail
    clear hmm
    obtain ⟨B, hB⟩ : ∃ M, Hid (w2.heap.size = M) := ⟨_, rfl⟩
    obtain ⟨V, hV⟩ : ∃ V, V = w2.alloc (.map #[] 0) := ⟨_, rfl⟩
    have hVm : V.ownsMap Try.prog 3 (plainElem (H := Unit) Try.prog 3) B 0 (.map []) := by rw [hV, ← hB.out]; exact World.ownsMap_made _ _ _ _
    have g3 : Later w2 V := by rw [hV]; exact (Later.refl _).alloc _
    rw [← hV, hB.out]
    have hBw : w2.heap.size ≤ B := Nat.le_of_eq hB.out
    clear hV hB
    have so := ScnB.uo (g3.row kS2)
    rw [hu.out] at so
    go_wp2_with fail
    have hpl : Hid (∀ p q, p < m → ((LL.take p).flatten ++ (LL.getD p []).take q).length ≤ 16) := Lib.hid (fun p q hp => by
      have h1 : ((LL.take p).flatten ++ (LL.getD p []).take q).Sublist LL.flatten := by
        have e : LL.flatten = (LL.take p).flatten ++ ((LL.getD p []) ++ (LL.drop (p + 1)).flatten) := by
          have e2 : LL.drop p = LL.getD p [] :: LL.drop (p + 1) := by
            have hpl : p < LL.length := by rw [hLLl.out]; exact hp
            rw [List.drop_eq_getElem_cons hpl, List.getD_eq_getElem?_getD, List.getElem?_eq_getElem hpl]; rfl
          conv => lhs; rw [← List.take_append_drop p LL]
          rw [List.flatten_append, e2, List.flatten_cons]
        rw [e]
        exact (List.Sublist.refl _).append (((List.take_sublist _ _).trans (List.sublist_append_left _ _)))
      have h2 := h1.length_le
      rw [hpm.out.length_eq, hIl.out] at h2
      omega)
    go_loopw [42, 9, 10] (fun y le mo wr => ∃ (p : Nat) (D : DataW Unit), p ≤ m ∧ y = .int .i64 p ∧ le = .int .i64 (mnK n LL p) ∧ mo = .int .i64 (mxK LL p) ∧ Later w2 wr ∧
      wr.ownsMap Try.prog 3 (plainElem (H := Unit) Try.prog 3) B ((LL.take p).flatten).length D ∧ CntOk D ((LL.take p).flatten)) (fun y _ _ _ => (1000 - intOf y).toNat)
    case atStart => exact ⟨0, _, by omega, rfl, rfl, rfl, g3, hVm, CntOk.nil⟩
    case round =>
      obtain ⟨p, D, hp, rfl, rfl, rfl, hl, hown, hcnt⟩ := hrel
      obtain ⟨wo, rfl⟩ : ∃ wo : World, wo = wr := ⟨_, rfl⟩
      by_cases hpm1 : p < m
      · obtain ⟨g, xo, xc, huo, cx, hxv⟩ := hU.at (k := p) (by rw [hLLl.out]; exact hpm1)
        replace cx := hl.cell cx
        obtain ⟨gm, om, hao, cm⟩ := hv.at (k := p) (by rw [hm.out]; exact hpm1)
        have hLp := hat.out p hpm1
        obtain ⟨Lp, hLpe⟩ : ∃ Lp, Hid (LL.getD p [] = Lp) := ⟨_, rfl⟩
        obtain ⟨node, hno⟩ : ∃ z, Hid (M.getD p 0 = z) := ⟨_, rfl⟩
        rw [hno.out] at cm hLp
        rw [hLpe.out] at cx hxv hLp
        have hplp := Lib.hid (fun q => hpl.out p q hpm1)
        rw [hLpe.out] at hplp
        obtain ⟨ln, hln⟩ : ∃ n, Hid (Lp.length = n) := ⟨_, rfl⟩
        rw [hln.out] at cx hxv
        have hln16 : ln ≤ 16 := by
          have := hplp.out ln
          rw [List.length_append, List.length_take, hln.out] at this
          omega
        obtain ⟨a0, ha0⟩ : ∃ a, Hid (mnK n LL p = a) := ⟨_, rfl⟩
        obtain ⟨a1, ha1⟩ : ∃ a, Hid (mnK n LL (p + 1) = a) := ⟨_, rfl⟩
        obtain ⟨b0, hb0⟩ : ∃ a, Hid (mxK LL p = a) := ⟨_, rfl⟩
        obtain ⟨b1, hb1⟩ : ∃ a, Hid (mxK LL (p + 1) = a) := ⟨_, rfl⟩
        have hmin : ∀ ts t W, (Builtin.min_ ts t #[.int .i64 a0, .int .i64 (ln : Int)]).run Try.prog W = .ok (.int .i64 a1) W := fun ts t W => by
          rw [run_min_int2]
          congr 2
          have : a1 = min a0 (ln : Int) := by rw [← ha1.out, ← ha0.out, ← hln.out, ← hLpe.out]; rfl
          rw [this]
          by_cases h : (ln : Int) < a0
          · rw [if_pos h]; omega
          · rw [if_neg h]; omega
        have hmax : ∀ ts t W, (Builtin.max_ ts t #[.int .i64 b0, .int .i64 (ln : Int)]).run Try.prog W = .ok (.int .i64 b1) W := fun ts t W => by
          rw [run_max_int2]
          congr 2
          have : b1 = max b0 (ln : Int) := by rw [← hb1.out, ← hb0.out, ← hln.out, ← hLpe.out]; rfl
          rw [this]
          by_cases h : (ln : Int) > b0
          · rw [if_pos h]; omega
          · rw [if_neg h]; omega
        rw [ha0.out, hb0.out]
        have hpi : (p : Int) < m := by omega
        have hml' : (m : Int) ≤ 64 := by omega
        subst huo
        subst hao
        replace hU := Lib.hid hU
        replace hxv := Lib.hid hxv
        go_upto_region 10 with fail
        go_region
        have hld : Later w2 wo.drew := hl.drew
        have hownd := hown.drew
        obtain ⟨wd, hwd⟩ : ∃ w, w = wo.drew := ⟨_, rfl⟩
        rw [← hwd] at hld hownd ⊢
        have cxd : wd.cell? ⟨g, p, none⟩ = some (.slice xo ln xc) := by rw [hwd]; exact (Later.refl _).drew.cell cx
        clear hwd hmin hmax hown hl cx
        go_wp2_with fail
        go_loopw [64] (fun y wr => ∃ (q : Nat) (E : DataW Unit), q ≤ ln ∧ y = .int .i64 q ∧ Later w2 wr ∧
          wr.ownsMap Try.prog 3 (plainElem (H := Unit) Try.prog 3) B ((LL.take p).flatten ++ Lp.take q).length E ∧ CntOk E ((LL.take p).flatten ++ Lp.take q)) (fun y _ => (1000 - intOf y).toNat)
        case atStart => exact ⟨0, D, by omega, rfl, hld, by rw [List.take_zero, List.append_nil]; exact hownd, by rw [List.take_zero, List.append_nil]; exact hcnt⟩
        case round =>
          obtain ⟨q, E, hq, rfl, hlq, hownq, hcq⟩ := hrel
          obtain ⟨wq, rfl⟩ : ∃ wo : World, wo = wr := ⟨_, rfl⟩
          by_cases hql : q < ln
          · have hqL : q < Lp.length := by rw [hln.out]; exact hql
            obtain ⟨gx, hxo, cz⟩ := hxv.out.at (k := q) hqL
            replace cz := hlq.cell cz
            have hzm : Lp.getD q 0 ∈ ofQ I M node := by rw [← hLp]; exact getD_mem hqL
            have hzo := hof.out node _ hzm
            have hzI := hsm.out (Lp.getD q 0) (by
              obtain ⟨i, hi, _, e⟩ := mem_selN.1 hzm
              rw [← e]; exact getD_mem hi)
            have hstep := hcq.step (Lp.getD q 0)
            have htk : ((LL.take p).flatten ++ Lp.take q) ++ [Lp.getD q 0] = (LL.take p).flatten ++ Lp.take (q + 1) := by
              rw [List.append_assoc, List.getD_eq_getElem?_getD, List.getElem?_eq_getElem hqL]
              show _ ++ (_ ++ [Lp[q]]) = _
              rw [List.take_append_getElem]
            rw [htk] at hstep
            have hb16 := hplp.out q
            have hcb : ∀ c : Int, E.atKey (.int .i64 (Lp.getD q 0)) (.lit (.int .i64 0)) = .lit (.int .i64 c) → (0 ≤ c ∧ c ≤ 16) ∧ c = (((LL.take p).flatten ++ Lp.take q).count (Lp.getD q 0) : Nat) := fun c hc => by
              rw [hcq.at'] at hc
              injection hc with hc
              injection hc with _ hc
              have h1 : ((LL.take p).flatten ++ Lp.take q).count (Lp.getD q 0) ≤ ((LL.take p).flatten ++ Lp.take q).length := List.count_le_length
              omega
            have hln1 : ((LL.take p).flatten ++ Lp.take q).length + 1 = ((LL.take p).flatten ++ Lp.take (q + 1)).length := by rw [← htk]; simp [Nat.add_assoc]
            obtain ⟨z, hze⟩ : ∃ z, Hid (Lp.getD q 0 = z) := ⟨_, rfl⟩
            rw [hze.out] at cz hzI hstep hcb hzo
            have hkey : keyOf Try.prog 3 (.int .i64 z) = some (.int .i64 z) := keyOf_int_mk Try.underlying3 (WalkArith.wf_i64 (by omega))
            have hqi : (q : Int) < ln := by omega
            have hML : 1000 < maxLen := by decide
            obtain ⟨ll, hll⟩ : ∃ l, Hid (((LL.take p).flatten ++ Lp.take q).length = l) := ⟨_, rfl⟩
            rw [hll.out] at hownq hb16 hln1
            replace hstep := Lib.hid hstep
            replace hcb := Lib.hid hcb
            replace hln1 := Lib.hid hln1
            have hOz := Lib.hid (fun V h => hOw.out V h z)
            rw [hzo] at hOz
            subst hxo
            clear hzm hzo hcq htk
            go_wp2_with (first
              | (at_lookup; refine wpList_lookup_own_int _ rfl _ _ 57 rfl 3 3 .i64 lawI Try.underlying57 Try.underlying3 (zeroI _) B ll _ rfl hownq _ _ rfl hkey ?_; intro c hat2 hwc; have hc2 := (hcb.out c hat2).1; have hc3 := Lib.hid (hcb.out c hat2).2; clear hat2 hwc)
              | (at_mapUpdate; refine wpList_mapUpdate_own _ rfl _ _ _ 57 rfl 3 3 lawI Try.underlying57 _ B ll _ rfl hownq (by omega) _ _ _ rfl rfl hkey _ [] (plainElem_int Try.underlying3 (WalkArith.wf_i64 (by omega))) ?_; intro w4 hown4 hgrow4; have hl4 : Later w2 w4 := Later.of_grown (grown_none hlq.grown hgrow4 (fun r e => by cases e; exact hBw)); have kS4 := hl4.row kS2)
              | (refine wpList_load_row rfl _ _ rfl P rfl _ _ (0, 0) _ kS4 Try.underlying28 rfl hss ?_))
            refine (hOz.out w4 (g2.trans hl4)).mono ?_
            rintro e w5 ⟨rfl, g5⟩
            have cm5 := (g2.trans (hl4.trans g5)).cell cm
            clear hOz hgrow4
            go_wp2_with fail
            go_roundw
            case rel =>
              rw [hc3.out] at hown4
              exact ⟨q + 1, _, by omega, by go_num, hl4.trans g5, by rw [← hln1.out]; exact hown4.kept g5.grown (by simp), hstep.out⟩
            case measure => simp [intOf]; omega
          · obtain rfl : q = ln := by omega
            have htf : (LL.take p).flatten ++ Lp.take q = (LL.take (p + 1)).flatten := by
              have hpl2 : p < LL.length := by rw [hLLl.out]; exact hpm1
              rw [← hln.out, List.take_length, ← hLpe.out, List.take_succ_eq_append_getElem hpl2, List.flatten_append, List.getD_eq_getElem?_getD, List.getElem?_eq_getElem hpl2]
              simp
            rw [htf] at hownq hcq
            go_wp2_with fail
            go_roundw
            case rel => exact ⟨p + 1, E, by omega, by go_num, by rw [ha1.out], by rw [hb1.out], hlq, hownq, hcq⟩
            case measure => simp [intOf]; omega
      · obtain rfl : p = m := by omega
        rw [show LL.take p = LL from List.take_of_length_le (by rw [hLLl.out]; exact Nat.le_refl _)] at hown hcnt
        have hone : Hid (∀ (k : Nat) (x : SObj), s.os[k]? = some x → (1 ≤ x.id ∧ x.id ≤ 65535) ∧ D.atKey (.int .i64 x.id) (.lit (.int .i64 0)) = .lit (.int .i64 1)) := Lib.hid (fun k x hx => by
          have h1 := hidI.out k x hx
          refine ⟨hsm.out _ h1, ?_⟩
          rw [hcnt.at', hpm.out.count_eq, hnd.out.count, if_pos h1]; rfl)
        have hsize : Hid (Maps.size D = n) := Lib.hid (by
          rw [hcnt.size' (hpm.out.nodup_iff.2 hnd.out), hpm.out.length_eq, hIl.out])
        have hab := mnK_bd (n := n) (by omega) LL p
        have hbb := mxK_bd (LL := LL) (b := 16) p (fun j hj => by
          have := hpl.out j (LL.getD j []).length hj
          rw [List.length_append, List.take_length] at this
          omega)
        have hln16 : Hid (∀ j, j < p → (LL.getD j []).length ≤ 16) := Lib.hid (fun j hj => by
          have := hpl.out j (LL.getD j []).length hj
          rw [List.length_append, List.take_length] at this
          omega)
        have hnear2 := hnear.out
        obtain ⟨a1, ha1⟩ : ∃ a, Hid (mnK n LL p = a) := ⟨_, rfl⟩
        obtain ⟨b1, hb1⟩ : ∃ a, Hid (mxK LL p = a) := ⟨_, rfl⟩
        rw [ha1.out, hb1.out] at hnear2
        rw [ha1.out] at hab
        rw [hb1.out] at hbb
        rw [ha1.out, hb1.out]
        obtain ⟨n19, hn19⟩ : ∃ n, Hid ((19 : Nat) = n) := ⟨_, rfl⟩
        have hsz19 : ∀ w, (sizeOf 37).run Try.prog w = .ok n19 w := fun w => by rw [← hn19.out]; kernel_rfl
        have kSo := hl.row kS2
        have soo := ScnB.uo kSo
        rw [hu.out] at soo
        have hOk := hs.later (g2.trans hl)
        have hrv := hOk.1
        rw [hu.out] at hrv
        clear hcnt hpl hnear hOw hof ha1 hb1 hmem hr hat so
        go_wp2_with fail
        go_loopw [94] (fun y wr => ∃ k : Nat, k ≤ n ∧ y = .int .i64 k ∧ wr = wo) (fun y _ => (1000 - intOf y).toNat)
        case atStart => exact ⟨0, by omega, rfl, rfl⟩
        case round =>
          obtain ⟨k, hk, rfl, rfl⟩ := hrel
          by_cases hkn : k < n
          · obtain ⟨x, hx⟩ : ∃ x, Hid (s.os[k]? = some x) := ⟨_, Lib.hid (List.getElem?_eq_getElem (by rw [hn.out]; exact hkn))⟩
            obtain ⟨g, o, hro, hrg⟩ := hrv.at (k := k) (x := x.row) (by rw [List.getElem?_map, hx.out]; rfl)
            obtain ⟨hxi, hxc⟩ := hone.out k x hx.out
            have cz : wr.cell? ⟨g, o + k * n19, none⟩ = some (.int .i64 x.id) := by
              have := hrg 0 _ rfl
              rw [Nat.add_zero] at this
              rw [← hn19.out]
              exact this
            obtain ⟨z, hze⟩ : ∃ z, Hid (x.id = z) := ⟨_, rfl⟩
            rw [hze.out] at hxi hxc cz
            have hkey : keyOf Try.prog 3 (.int .i64 z) = some (.int .i64 z) := keyOf_int_mk Try.underlying3 (WalkArith.wf_i64 (by omega))
            obtain ⟨c, hrun, hat2, _⟩ := hown.lookup_int lawI Try.underlying57 Try.underlying3 (zeroI _) hkey
            have hc1 : c = 1 := by
              rw [hxc] at hat2
              injection hat2 with hat2
              injection hat2 with _ hat2
              exact hat2.symm
            subst hc1
            have hki : (k : Int) < n := by omega
            subst hro
            clear hat2 hxc hkey hrg hrv hOk
            go_wp2_with fail
            go_roundw
            case rel => exact ⟨k + 1, by omega, by go_num, by first | trivial | rfl⟩
            case measure => simp [intOf]; omega
          · obtain rfl : k = n := by omega
            obtain ⟨w3, rfl⟩ : ∃ wo : World, wo = wr := ⟨_, rfl⟩
            have hlW : Later W w3 := g2.trans hl
            have hnew := heap_alloc_new w3 (.cells #[.int .i64 0, .int .i64 0, .int .i64 0, .int .i64 0, .int .i64 0, .int .i64 0, .int .i64 0, .int .i64 0, .int .i64 0, .int .i64 0, .int .i64 0, .int .i64 0, .int .i64 0, .int .i64 0, .int .i64 0, .int .i64 0, .int .i64 0, .int .i64 0, .slice none 0 0] 28)
            have hz2 : (#[.int .i64 0, .int .i64 0, .int .i64 0, .int .i64 0, .int .i64 0, .int .i64 0, .int .i64 0, .int .i64 0, .int .i64 0, .int .i64 0, .int .i64 0, .int .i64 0, .int .i64 0, .int .i64 0, .int .i64 0, .int .i64 0, .int .i64 0, .int .i64 0, .slice none 0 0] : Array Value).size = s.row.toArray.size := by rw [show s.row.toArray.size = 19 from by rw [List.size_toArray, Scn.row_length]]; rfl
            have hz1 := row_one_of s hs
            obtain ⟨X2, hX2⟩ : ∃ X, X = w3.alloc (.cells s.row.toArray 28) := ⟨_, rfl⟩
            have hl2 : Later w3 X2 := by rw [hX2]; exact (Later.refl w3).alloc _
            have kQ : ScnB X2 w3.heap.size s := by rw [hX2]; exact heap_alloc_new _ _
            have hQs : Hid (X2.heap.size = w3.heap.size + 1) := Lib.hid (by rw [hX2]; exact World.size_alloc _ _)
            clear hone hrv hOk
            go_upto_region 27 with (first | refine wpList_load_row rfl _ _ rfl P rfl _ _ (0, 0) _ kSo Try.underlying28 rfl hss ?_ | refine wpList_store_row rfl 28 _ _ rfl w3.heap.size s.row.toArray rfl rfl 28 #[.int .i64 0, .int .i64 0, .int .i64 0, .int .i64 0, .int .i64 0, .int .i64 0, .int .i64 0, .int .i64 0, .int .i64 0, .int .i64 0, .int .i64 0, .int .i64 0, .int .i64 0, .int .i64 0, .int .i64 0, .int .i64 0, .int .i64 0, .int .i64 0, .slice none 0 0] hnew hss hz2 hz1 ?_)
            rw [World.setRow_alloc_new, ← hX2]
            clear hX2 hnew hz2 hz1
            obtain ⟨Q, hQ⟩ : ∃ Q, Hid (w3.heap.size = Q) := ⟨_, rfl⟩
            have hPQ : Hid (P < Q) := Lib.hid (by rw [← hQ.out]; exact (Array.getElem?_eq_some_iff.1 kSo).1)
            rw [hQ.out] at kQ hQs ⊢
            have cq := ScnB.uo kQ
            rw [hu.out] at cq
            have fq := frozen_r kQ 18
            obtain ⟨Y, hY⟩ : ∃ Y, Y = X2.setCell ⟨Q, 18, none⟩ (.slice none 0 0) := ⟨_, rfl⟩
            have hlY : Later w3 Y := by rw [hY]; exact hl2.setCell (p := ⟨Q, 18, none⟩) (Nat.le_of_eq hQ.out) _
            have yQ : ScnB Y Q { s with uo := .slice none 0 0 } := by rw [hY]; exact heap_setC kQ
            have so2 := ScnB.uo (hlY.row kSo)
            rw [hu.out] at so2
            go_upto_region 28 with fail
            rw [← hY]
            clear hY cq fq kQ
            go_wp2_with fail
            go_loopw [18] (fun y wx => ∃ (m : Nat) (v : Value), m ≤ k ∧ y = .int .i64 ((m : Int) - 1) ∧ Later w3 wx ∧ ScnB wx Q { s with uo := v } ∧ wx.ownsRow (Q + 1) 37 19 v (k - m) (revL s (k - m))) (fun y _ => (intOf y + 1).toNat)
            case atStart => exact ⟨k, _, by omega, by go_num, hlY, yQ, by rw [Nat.sub_self]; exact World.ownsRow_nil ..⟩
            case round =>
              obtain ⟨m, v, hm', rfl, hl3, zQ, hrow⟩ := hrel
              obtain ⟨Z, rfl⟩ : ∃ wo : World, wo = wr := ⟨_, rfl⟩
              cases m with
              | zero =>
                have hneg : ¬ ((0 : Int) ≤ ((0 : Nat) : Int) - 1) := by omega
                rw [show (((0 : Nat) : Int) - 1) = -1 from rfl]
                have hrev : Hid ((revS s v).Ok Z) := Lib.hid (rev_ok hn.out (fun x hx => (hs.later (hlW.trans hl3)).2 x hx) (by rw [Nat.sub_zero] at hrow; exact hrow))
                have zT : ScnB Z Q (revS s v) := zQ
                have hlZ := hlW.trans hl3
                have hC := Lib.hid (fun V (h : Later Z V) => check_scene (revS s v) V (hrev.out.later h))
                rw [if_pos (rev_right hwr.out)] at hC
                have hAz := Lib.hid (hAt.out Z hlZ v hrev.out)
                have hssT : (Try.prog.info? 28).map (·.size) = some (revS s v).row.toArray.size := size_scn' _
                clear hrow zQ hAt
                obtain ⟨T, hT⟩ : ∃ T, Hid (revS s v = T) := ⟨_, rfl⟩
                rw [hT.out] at zT hC hAz hssT
                go_wp2_with (refine wpList_load_row rfl _ _ rfl Q rfl _ _ (0, 0) _ zT Try.underlying28 rfl hssT ?_)
                refine hAz.out.mono ?_
                rintro e w6 ⟨u2, rfl, hU2, g6⟩
                obtain ⟨u2o, u2c, rfl⟩ := hU2.form
                rw [hLLl.out] at hU2 ⊢
                have g36 : Later w3 w6 := hl3.trans g6
                clear hAz
                go_wp2_with fail
                go_loopw [135] (fun y wr => ∃ i : Nat, i ≤ p ∧ y = .int .i64 i ∧ Later w6 wr) (fun y _ => (1000 - intOf y).toNat)
                case atStart => exact ⟨0, by omega, rfl, Later.refl _⟩
                case round =>
                  obtain ⟨i, hi, rfl, hl6⟩ := hrel
                  obtain ⟨wi, rfl⟩ : ∃ wo : World, wo = wr := ⟨_, rfl⟩
                  by_cases hip : i < p
                  · obtain ⟨g1, x1o, x1c, hu1, cx1, hx1⟩ := hU.at (k := i) (by rw [hLLl.out]; exact hip)
                    obtain ⟨g2', x2o, x2c, hu2, cx2, hx2⟩ := hU2.at (k := i) (by rw [hLLl.out]; exact hip)
                    have h16 := hln16.out i hip
                    obtain ⟨Li, hLi⟩ : ∃ L, Hid (LL.getD i [] = L) := ⟨_, rfl⟩
                    rw [hLi.out] at cx1 cx2 hx1 hx2 h16
                    have hl2i : Later w2 wi := (hl.trans g36).trans hl6
                    have hq := Lib.hid (fun m => ints_quiet _ _ Li (wi.drewN m) (hx1.later (hl2i.drewN m)) (hx2.later (hl6.drewN m)) (by omega))
                    replace cx1 := hl2i.cell cx1
                    replace cx2 := hl6.cell cx2
                    obtain ⟨ln, hln⟩ : ∃ n, Hid (Li.length = n) := ⟨_, rfl⟩
                    rw [hln.out] at cx1 cx2 hq
                    have hip' : (i : Int) < p := by omega
                    have hd1 : decide ((p : Int) ≤ (i : Int)) = false := decide_eq_false (by omega)
                    subst hu1
                    subst hu2
                    clear hx1 hx2
                    replace hU := Lib.hid hU
                    replace hU2 := Lib.hid hU2
                    go_upto_region 36 with fail
                    go_quiet (first | (go_at_call 21; refine Calls.quiet_of (hq.out _)))
                    go_wp2_with fail
                    go_roundw
                    case rel => exact ⟨i + 1, by omega, by go_num, hl6.drewN _⟩
                    case measure => simp [intOf]; omega
                  · obtain rfl : i = p := by omega
                    have hlF : Later w3 wi := g36.trans hl6
                    have hownF := hown.kept hlF.grown (by simp)
                    have hlenF : ∀ ty, (Builtin.len_ #[57] ty #[.map (some B)]).run Try.prog wi = .ok (.int .i64 (k : Nat)) wi := fun ty => by
                      have h := hownF.len Try.underlying57 ty
                      rw [hsize.out] at h
                      exact h
                    have soF := hlF.cell soo
                    have zF := (g6.trans hl6).row zT
                    have hCF := Lib.hid (hC.out wi (g6.trans hl6))
                    have hb1 : b1 - a1 ≤ 1 := hnear2
                    obtain ⟨hab1, hab2⟩ := hab
                    obtain ⟨hbb1, hbb2⟩ := hbb
                    have hb2 : b1 ≤ 16 := hbb2
                    have hssF := hssT
                    clear hU hU2 hC hown hownF hln16 hbb2
                    go_wp2_with (refine wpList_load_row_w rfl _ _ rfl Q rfl _ _ (0, 0) _ zF Try.underlying28 rfl hssF ?_)
                    refine hCF.out.mono ?_
                    rintro e w7 ⟨rfl, g7⟩
                    go_wp2_with fail
                    go_ret
                    exact ⟨rfl, hlZ.trans ((g6.trans hl6).trans g7)⟩
              | succ j =>
                have hj : (((j + 1 : Nat) : Int) - 1) = (j : Int) := by omega
                rw [hj]
                have hjn : j < k := by omega
                have hji : (j : Int) < k := by omega
                obtain ⟨x, hx⟩ : ∃ x, Hid (s.os[j]? = some x) := ⟨_, Lib.hid (List.getElem?_eq_getElem (by rw [hn.out]; exact hjn))⟩
                have hOk := hs.later (hlW.trans hl3)
                have hrv := hOk.1
                rw [hu.out] at hrv
                obtain ⟨g, o, hro, hrg⟩ := hrv.at (k := j) (x := x.row) (by rw [List.getElem?_map, hx.out]; rfl)
                have hxo := SObj.row_one (hOk.2 x (List.mem_of_getElem? hx.out))
                obtain ⟨ol, hol⟩ : ∃ ol, Hid (x.row = ol) := ⟨_, rfl⟩
                have hoL : ol.length = 19 := by rw [← hol.out]; exact SObj.row_length _
                rw [hol.out] at hrg hxo
                subst hro
                have hlc : (loadCellsFrom ⟨g, o + j * n19, none⟩ 0 n19 #[]).run Try.prog Z.drew = .ok ol.toArray Z.drew := by
                  rw [← hn19.out, ← hoL]
                  refine run_loadCells_list (P := Try.prog) _ ⟨g, o + j * ol.length, none⟩ ol (fun j' v hv => ?_)
                  rw [Addr.add_mid, hoL]; exact hrg j' v hv
                have hbs : ∀ w, (Instr.buildSlice 26 1 #[(0, .agg ol.toArray)]).run Try.prog w = .ok (.slice (some ⟨w.heap.size, 0, none⟩) 1 1) (w.alloc (.cells ol.toArray 37)) := fun w => by
                  rw [← hol.out]
                  exact slice_row x w
                obtain ⟨V', hV'⟩ : ∃ V, V = (Z.alloc (.cells ol.toArray 37)).drew := ⟨_, rfl⟩
                have hlV : Later Z V' := by rw [hV']; exact ((Later.refl Z).alloc _).drew
                have hnewV : V'.heap[Z.heap.size]? = some (.cells ol.toArray 37 (0, 0)) := by rw [hV']; exact heap_alloc_new _ _
                have hrowV : V'.ownsRow (Q + 1) 37 19 v (k - (j + 1)) (revL s (k - (j + 1))) := by rw [hV']; exact (hrow.alloc _).drew
                have hQZ : Q + 1 ≤ Z.heap.size := (Array.getElem?_eq_some_iff.1 zQ).1
                obtain ⟨i37, hi37, hi1, hi2, z37, hz37, hz19⟩ : ∃ i, Try.prog.info? 37 = some i ∧ i.size = 19 ∧ i.bytes ≤ 1000 ∧ ∃ z, i.zero = some z ∧ z.cells.size = 19 := ⟨_, rfl, by kernel_rfl, by decide, _, rfl, by kernel_rfl⟩
                have hML : 2000000 < maxLen := by decide
                obtain ⟨v2, w2', hap, hr2, hg2, -⟩ := run_append_own (P := Try.prog) V' (Q + 1) 26 26 37 i37 z37 19 i37.bytes Try.underlying26 hi37 hz37 hi1 rfl hz19 (by decide) v (k - (j + 1)) _ hrowV
                  ⟨Z.heap.size, 0, none⟩ 1 1 ol (by rw [hoL]) (fun j' u hv => by rw [Addr.add_mid]; exact row_range hnewV j' u hv) hxo (by omega)
                  (Nat.le_trans (Nat.mul_le_mul (show k - (j + 1) + 1 ≤ 20 by omega) hi2) (by decide)) (Nat.le_trans hQZ hlV.size)
                obtain ⟨a2, m2, c2, rfl⟩ : ∃ a2 m2 c2, v2 = .slice a2 m2 c2 := by
                  rcases hr2.2 with ⟨rfl, _⟩ | ⟨g2, cp2, cur2, rfl, _⟩
                  · exact ⟨_, _, _, rfl⟩
                  · exact ⟨_, _, _, rfl⟩
                have hlw2 : Later w3 w2' := later_own (hl3.trans hlV) hrowV (by have := hQ.out; omega) hg2
                have zQ2 : ScnB w2' Q { s with uo := v } := (hg2.block Q (Array.getElem?_eq_some_iff.1 (hlV.row zQ)).1 (fun e => by have := (hrowV.lt Q e.symm).1; omega)).trans (hlV.row zQ)
                have c18 : Z.cell? ⟨Q, 18, none⟩ = some v := ScnB.uo zQ
                have so3 : Z.cell? ⟨P, 18, none⟩ = some (.slice (some ⟨g, o, none⟩) k rc) := by
                  have := ScnB.uo (hl3.row kSo)
                  rw [hu.out] at this
                  exact this
                have c18b : V'.cell? ⟨Q, 18, none⟩ = some v := hlV.cell c18
                have so4 : V'.cell? ⟨P, 18, none⟩ = some (.slice (some ⟨g, o, none⟩) k rc) := hlV.cell so3
                have c18c : w2'.cell? ⟨Q, 18, none⟩ = some v := ScnB.uo zQ2
                have f18 := frozen_r zQ2 18
                rw [hV'] at hap c18b so4
                clear hV' hnewV hrowV hi37 hi1 hi2 hz37 hz19 hrv hOk hxo hrow hML hoL
                replace zQ2 := Lib.hid zQ2
                replace hr2 := Lib.hid hr2
                go_upto_region 31 with fail
                go_region
                go_wp2_with fail
                go_roundw
                case rel =>
                  refine ⟨j, .slice a2 m2 c2, by omega, by go_num, hlw2.setCell (p := ⟨Q, 18, none⟩) (Nat.le_of_eq hQ.out) _, heap_setC zQ2.out, ?_⟩
                  have h5 := ownsRow_setCell_below hr2.out (a := ⟨Q, 18, none⟩) (show Q < Q + 1 by omega) (.slice a2 m2 c2)
                  have h6 := revL_succ (s := s) (m := j) (x := x) (by rw [hn.out]; exact hjn) hx.out
                  rw [hn.out] at h6
                  rw [h6, hol.out, show k - j = k - (j + 1) + 1 by omega]
                  exact h5
                case measure => simp [intOf]
  · have hmay' : mayQ s M = false := by simpa using hmay
    have hA := Lib.hid (fun V (h : Later W V) => all_no s M _ V (hs.later h) (hv.later h) hmay')
    obtain ⟨ao, ac, rfl⟩ := hv.form
    clear hmay hmay'
    go_enter Try.func7, Try.ntmps7
    go_upto_region 1 with fail
    rw [← hX]
    clear hX
    rw [hP.out] at kS ⊢
    go_wp2_with fail
    refine (hAl.out _).mono ?_
    rintro e w1 ⟨rfl, g1⟩
    have kS1 := g1.row kS
    replace g1 := hlX.trans g1
    go_wp2_with (refine wpList_load_row rfl _ _ rfl P rfl _ _ (0, 0) _ kS1 Try.underlying28 rfl hss ?_)
    refine (hA.out _ g1).mono ?_
    rintro e w2 ⟨rfl, g2⟩
    go_wp2_with fail
    go_ret
    exact ⟨rfl, g1.trans g2⟩
end Go.Proofs.Ytackbajbladhhaa
