/-
  Chapter 21's theorem: the walk.
-/
import Derived.Test.YtjelfiljebamgaaBxR
import Derived.Test.YtjelfiljebamgaaPcJ
import Derived.Deep.DeepCutAuto
import Derived.Deep.RegionHeld3
namespace Go.Proofs.Ytjelfiljebamgaa
open Go.RowKit Go.Shelf Go.Maps
set_option linter.unusedVariables false
set_option linter.unusedSimpArgs false
attribute [local go_sem] Oper.semAt_some
attribute [-go_sem] Builtin.append_ run_slice_h run_slice_l

/-- Small numbers in memory. -/
def U16V (w : World) (v : Value) (O : List Int) : Prop := ∃ ao cap, v = .slice ao O.length cap ∧ ∀ k, k < O.length → (0 ≤ O.getD k 0 ∧ O.getD k 0 ≤ 65535) ∧ ∃ g o, ao = some ⟨g, o, none⟩ ∧ w.cell? ⟨g, o + k, none⟩ = some (.int .u16 (O.getD k 0))
theorem info_td2 : (Try.prog.info? 73).map (fun i => (i.zero, i.size, i.bytes)) = some (some (.agg #[.int .i64 0, .int .i64 0]), 2, 16) := by kernel_rfl
theorem info_bss : (Try.prog.info? 35).map (fun i => (i.zero, i.size, i.bytes)) = some (some (.slice none 0 0), 1, 24) := by kernel_rfl
theorem later_own2 {X w w' : World} {base e n k : Nat} {v : Value} {xs : List Value} (h : Later X w) (hr : w.ownsRow base e n v k xs) (hb : X.heap.size ≤ base) (hg : w.grownBy w' v.ownBlock) : Later X w' :=
  ⟨hg.os.trans h.os, hg.tape.trans h.tape, hg.output.trans h.output, Nat.le_trans h.size hg.size, fun k hk => (hg.block k (Nat.lt_of_lt_of_le hk h.size) (fun e => by
    have := (World.ownsRow.lt hr k e.symm).1
    omega)).trans (h.block k hk)⟩
theorem ownsRow_pos1 {W : World} {base e n : Nat} {v : Value} {k : Nat} {xs : List Value} (h : W.ownsRow base e n v k xs) (hk : 0 < k) : ∃ g cap, v = .slice (some ⟨g, 0, none⟩) k cap := by
  rcases h.2 with ⟨_, h0⟩ | ⟨g, cap, cur, hv, _⟩
  · omega
  · exact ⟨g, cap, hv⟩
set_option maxRecDepth 100000 in
set_option maxHeartbeats 4000000 in
theorem back_any (v : Value) (Ls : List (List Int)) (z : Int) (ov : Value) (O : List Int) (W : World) (hv : BssV W v Ls) (ho : U16V W ov O) (hz : 0 ≤ z ∧ z ≤ 65535) :
    Calls Try.prog 7 #[v, .int .u16 z, ov] W fun e w' => e = .returned (.bool true) ∧ Later W w' := by
  obtain ⟨ao, cap, rfl, hv⟩ := hv
  obtain ⟨oo, ocap, rfl, ho⟩ := ho
  obtain ⟨m, hm⟩ : ∃ k, Hid (Ls.length = k) := ⟨_, Lib.hid rfl⟩
  obtain ⟨no, hno⟩ : ∃ k, Hid (O.length = k) := ⟨_, Lib.hid rfl⟩
  replace hv : Hid (∀ k, k < m → ∃ g o u, ao = some ⟨g, o, none⟩ ∧ W.cell? ⟨g, o + k, none⟩ = some u ∧ BytV W u (Ls.getD k [])) := Lib.hid (by rw [← hm.out]; exact hv)
  replace ho : Hid (∀ k, k < no → (0 ≤ O.getD k 0 ∧ O.getD k 0 ≤ 65535) ∧ ∃ g o, oo = some ⟨g, o, none⟩ ∧ W.cell? ⟨g, o + k, none⟩ = some (.int .u16 (O.getD k 0))) := Lib.hid (by rw [← hno.out]; exact ho)
  rw [hm.out, hno.out]
  obtain ⟨s0, hs0⟩ : ∃ s0 : Int, z.tmod 861 = s0 := ⟨_, rfl⟩
  have hs0b : 0 ≤ s0 ∧ s0 ≤ 860 := by
    rw [← hs0, Int.tmod_eq_emod_of_nonneg hz.1]
    omega
  obtain ⟨s, hs⟩ : ∃ s : Nat, Hid (20 + s0 = (s : Int)) := ⟨(20 + s0).toNat, Lib.hid (by omega)⟩
  have hsb : 20 ≤ s ∧ s ≤ 880 := by have := hs.out; omega
  go_enter Try.func7, Try.ntmps7
  go_wp2_with fail
  refine (alive_any _).mono ?_
  rintro e w1 ⟨rfl, h1⟩
  by_cases hm8 : ¬ m ≤ 8
  · have hd : (8 : Int) < (m : Int) := by omega
    go_wp2_with fail
    go_ret
    exact ⟨rfl, h1⟩
  rw [Classical.not_not] at hm8
  have hd : ¬ (8 : Int) < (m : Int) := by omega
  go_wp2_with fail
  refine (new_st 8 _ ⟨by decide, by decide⟩).mono ?_
  rintro e w2 ⟨x, rfl, hbx, h2⟩
  rw [hs.out]
  go_wp2_with fail
  obtain ⟨i0, hi, hz0, hz1, hz2⟩ := info_parts info_bss
  have hW2 := Lib.hid (h1.trans h2)
  obtain ⟨B, hB⟩ : ∃ B, Hid (w2.heap.size = B) := ⟨_, Lib.hid rfl⟩
  replace hbx := Lib.hid hbx
  go_loopg [11, 51] (m + 1) (fun gg va y wr => ∃ k : Nat, gg = m + 1 - k ∧ k ≤ m ∧ y = .int .i64 k ∧ Hid (AllV wr B va (ppL Ls s k)) ∧ Hid (Later w2 wr) ∧ Hid (∀ j, j < k → (Ls.getD j []).length ≤ 3000))
  case atStart => exact ⟨0, by omega, Nat.zero_le _, rfl, Lib.hid ⟨[], World.ownsRow_nil _ _ _ _, fun i hi => by simp [ppL] at hi⟩, Lib.hid (Later.refl _), Lib.hid (fun j hj => absurd hj (Nat.not_lt_zero _))⟩
  case round =>
    obtain ⟨k, rfl, hkm, rfl, hall, hlw, hsm⟩ := hrel
    have hlW := Lib.hid (hW2.out.trans hlw.out)
    by_cases hk : k < m
    · have hkk : (k : Int) < (m : Int) := by omega
      obtain ⟨g, o, u, rfl, hc, hu⟩ := hv.out k hk
      replace hc := hlW.out.cell hc
      replace hu := hu.later hlW.out
      obtain ⟨L, hL⟩ : ∃ L, Hid (Ls.getD k [] = L) := ⟨_, Lib.hid rfl⟩
      rw [hL.out] at hu
      obtain ⟨nL, hnL⟩ : ∃ k, Hid (L.length = k) := ⟨_, Lib.hid rfl⟩
      obtain ⟨ua, uc, hue⟩ := bytV_form hu
      rw [hnL.out] at hue
      by_cases hbig : 3000 < nL
      · have hbb : (3000 : Int) < (nL : Int) := by omega
        subst hue
        clear hu
        go_wp2_with fail
        go_ret
        exact ⟨rfl, hlW.out⟩
      · have hbb : ¬ (3000 : Int) < (nL : Int) := by omega
        have hw64 : IntKind.u64.wrap (k : Int) = k := by
          show (k : Int) % 18446744073709551616 = k
          omega
        obtain ⟨K, hK⟩ : ∃ K : Int, Hid ((k : Int) = K) := ⟨_, Lib.hid rfl⟩
        have hcut := Lib.hid (cut_any k s u L wr hu (by omega) (by rw [hnL.out]; unfold CutOk; omega))
        have hof := chunks_of (L := L) (s := s) (by omega)
        obtain ⟨N, hN⟩ : ∃ N, Hid ((chunks L s).length = N) := ⟨_, Lib.hid rfl⟩
        have hN1 := chunks_small (s := s) (by omega) (L := L) (by rw [hnL.out]; omega)
        rw [hN.out] at hcut hof hN1
        rw [hnL.out] at hof
        have hmax : ∀ ts t W, (Builtin.max_ ts t #[.int .i64 1, .int .i64 (((nL : Int) + s - 1) / s)]).run Try.prog W = .ok (.int .i64 N) W := fun ts t W => by
          rw [run_max_int2, hof]
          congr 2
          generalize ((nL : Int) + s - 1) / s = z
          by_cases h : z > 1
          · rw [if_pos h]; omega
          · rw [if_neg h]; omega
        replace hof := Lib.hid hof
        subst hue
        clear hu
        obtain ⟨vs, hvs, hrows⟩ := hall.out
        rw [ppL_len] at hvs hrows
        obtain ⟨oa, oc, rfl⟩ := own_form hvs
        go_wp2_with fail
        refine hcut.out.mono ?_
        rintro e w3 ⟨(⟨h4, vu, us, rfl, hru, hpc⟩ | ⟨h4, rfl⟩), h3⟩
        rotate_left
        · exact absurd (by omega) h4
        obtain ⟨ac, cc, rfl⟩ := own_form hru
        have hc3 := h3.cell hc
        have hsz3 : B ≤ w3.heap.size := by have := hlw.out.size; have := h3.size; have := hB.out; omega
        have hszr : B ≤ wr.heap.size := by have := hlw.out.size; have := hB.out; omega
        have q1 := (row_later hvs h3).alloc (.cells #[.slice ac N cc] 35)
        have q4 : k + 1 ≤ maxLen := Nat.le_trans (by omega : _ ≤ 5000) (by decide)
        have hrowsL := Lib.hid hrows
        replace hvs := Lib.hid hvs
        clear hrows hcut hc
        go_wp2_with (at_builtin; refine wpList_append_lies _ rfl _ _ 71 rfl B 35 i0 (.slice none 0 0) 1 24 Try.underlying71 hi hz0 hz1 hz2 rfl (by decide) _ _ _ rfl q1 ⟨w3.heap.size, 0, none⟩ 1 1 [.slice ac N cc] rfl rfl (World.news_of_block (heap_alloc_new _ _)) (fun u hu => by rw [List.mem_singleton] at hu; rw [hu]; rfl) (by omega) q4 (by omega) (by simp; omega) _ rfl ?_; intro ga ca w4 hr4 hg4 _ _)
        go_roundg (m - k)
        case measure => omega
        case rel =>
          refine ⟨k + 1, by omega, by omega, by go_num, Lib.hid ?_, Lib.hid ?_, Lib.hid (fun j hj => ?_)⟩
          · rw [ppL_succ, hL.out, hN.out]
            have hru' := row_mono hru hszr
            refine AllV.snoc (vs := vs) (us := us) (W := w3) (va := .slice oa k oc) (u := .slice ac N cc) (by rw [ppL_len]; exact row_later hvs.out h3) (fun i hi => ?_) (by rw [cutL_length hN.out]; exact hru') ⟨hpc.1, fun j u D x y => row_mono (hpc.2 j u D x y) hszr⟩ (by rw [ppL_len]; exact hr4) hg4
            rw [ppL_len] at hi
            obtain ⟨u2, us2, a1, a2, a3⟩ := hrowsL.out i hi
            exact ⟨u2, us2, a1, row_later a2 h3, a3.1, fun j u D x y => row_later (a3.2 j u D x y) h3⟩
          · exact later_own ((hlw.out.trans h3).alloc _) q1 (by rw [hB.out]; exact Nat.le_refl _) hg4
          · by_cases e : j = k
            · subst e; rw [hL.out, hnL.out]; omega
            · exact hsm.out j (by omega)
    · obtain rfl : m = k := by omega
      have hkk : ¬ (m : Int) < (m : Int) := by omega
      obtain ⟨wa, rfl⟩ : ∃ wa, wa = wr := ⟨_, rfl⟩
      obtain ⟨PP, hPP⟩ : ∃ PP, Hid (ppL Ls s m = PP) := ⟨_, Lib.hid rfl⟩
      have hPl : PP.length = m := by rw [← hPP.out, ppL_len]
      rw [hPP.out] at hall
      obtain ⟨N, hN⟩ : ∃ N : Nat → Nat, Hid (∀ i, (PP.getD i []).length = N i) := ⟨_, Lib.hid (fun i => rfl)⟩
      have hNb : Hid (∀ i, N i ≤ 151) := Lib.hid (fun i => by
        rw [← hN.out, ← hPP.out]
        by_cases hi : i < m
        · rw [ppL_at hi, cutL_length rfl]
          exact chunks_small hsb.1 (hsm.out i hi)
        · rw [List.getD_eq_getElem?_getD, List.getElem?_eq_none (by rw [ppL_len]; omega)]
          exact Nat.zero_le _)
      obtain ⟨vs, hvs, hrows⟩ := id hall.out
      obtain ⟨oa, oc, rfl⟩ := own_form hvs
      rw [hPl] at hvs hrows hall
      rw [hPl]
      obtain ⟨j0, hj, hy0, hy1, hy2⟩ := info_parts info_td2
      obtain ⟨Ba, hBae⟩ : ∃ b, Hid (wa.heap.size = b) := ⟨_, Lib.hid rfl⟩
      have hBa : B ≤ Ba := by have := hlw.out.size; have := hB.out; have := hBae.out; omega
      have hBaH := Lib.hid hBa
      replace hrows := Lib.hid hrows
      replace hvs := Lib.hid hvs
      replace hPl := Lib.hid hPl
      go_wp2_with fail
      go_loopg [15, 97] (m + 1) (fun gg vt y wr => ∃ k : Nat, gg = m + 1 - k ∧ k ≤ m ∧ y = .int .i64 k ∧ Hid (wr.ownsRow Ba 73 2 vt (tdL N k).length (encT (tdL N k))) ∧ Hid (Later wa wr))
      case atStart => exact ⟨0, by omega, Nat.zero_le _, rfl, Lib.hid (World.ownsRow_nil _ _ _ _), Lib.hid (Later.refl _)⟩
      case round =>
        obtain ⟨k, rfl, hkm, rfl, htd, hla⟩ := hrel
        by_cases hk : k < m
        · have hkk : (k : Int) < (m : Int) := by omega
          obtain ⟨u, us, a1, a2, a3⟩ := hrows.out k hk
          rw [hN.out] at a2
          obtain ⟨ua, uc, rfl⟩ := own_form a2
          obtain ⟨ga, capa, e⟩ := ownsRow_pos1 hvs.out (by omega)
          injection e with e1 e2 e3
          subst e1 e3
          have hc := hla.out.cell ((hvs.out.cellAt k (by omega)).trans a1)
          clear e2 a1 a2 a3
          go_wp2_with fail
          go_loopg [15, 105] (N k + 1) (fun gg vt y wr => ∃ q : Nat, gg = N k + 1 - q ∧ q ≤ N k ∧ y = .int .i64 q ∧ Hid (wr.ownsRow Ba 73 2 vt (tdL N k ++ (List.range q).map (fun j => (k, j))).length (encT (tdL N k ++ (List.range q).map (fun j => (k, j))))) ∧ Hid (Later wa wr))
          case atStart => exact ⟨0, by omega, Nat.zero_le _, rfl, by simpa using htd, hla⟩
          case round =>
            obtain ⟨q, rfl, hqn, rfl, htd2, hla2⟩ := hrel
            by_cases hq : q < N k
            · have hqq : (q : Int) < (N k : Int) := by omega
              have hlen0 := tdL_le (N := N) hNb.out k
              have hlen : (tdL N k ++ (List.range q).map (fun j => (k, j))).length ≤ 2000 := by
                rw [List.length_append, List.length_map, List.length_range]
                have := hNb.out k
                omega
              have hlenN : (tdL N k ++ (List.range q).map (fun j => (k, j))).length + 1 = (tdL N k ++ (List.range (q + 1)).map (fun j => (k, j))).length := by
                rw [List.range_succ, List.map_append]; simp; omega
              have hencN : encT (tdL N k ++ (List.range (q + 1)).map (fun j => (k, j))) = encT (tdL N k ++ (List.range q).map (fun j => (k, j))) ++ [.int .i64 (k : Nat), .int .i64 (q : Nat)] := by
                rw [List.range_succ, List.map_append, ← List.append_assoc, encT_app _ (List.map _ [q])]; rfl
              obtain ⟨TL, hTL⟩ : ∃ TL, Hid (tdL N k ++ (List.range q).map (fun j => (k, j)) = TL) := ⟨_, Lib.hid rfl⟩
              rw [hTL.out] at htd2 hlen hlenN hencN
              obtain ⟨TN, hTN⟩ : ∃ TL, Hid (tdL N k ++ (List.range (q + 1)).map (fun j => (k, j)) = TL) := ⟨_, Lib.hid rfl⟩
              rw [hTN.out] at hlenN hencN
              obtain ⟨lt, hlt⟩ : ∃ n, Hid (TL.length = n) := ⟨_, Lib.hid rfl⟩
              rw [hlt.out] at htd2 hlen hlenN
              obtain ⟨ta, tc, rfl⟩ := own_form htd2.out
              have q1 := htd2.out.alloc (.cells #[.int .i64 k, .int .i64 q] 73)
              have q4 : lt + 1 ≤ maxLen := Nat.le_trans (by omega : _ ≤ 5000) (by decide)
              have hBr : Ba ≤ wr.heap.size := by have := hla2.out.size; have := hBae.out; omega
              have hqb : (q : Int) < 151 := by have := hNb.out k; omega
              replace hlenN := Lib.hid hlenN
              replace hencN := Lib.hid hencN
              go_wp2_with (at_builtin; refine wpList_append_lies _ rfl _ _ 72 rfl Ba 73 j0 (.agg #[.int .i64 0, .int .i64 0]) 2 16 Try.underlying72 hj hy0 hy1 hy2 rfl (by decide) _ _ _ rfl q1 ⟨wr.heap.size, 0, none⟩ 1 1 [.int .i64 k, .int .i64 q] rfl rfl (World.news_of_block (heap_alloc_new _ _)) (fun u hu => by simp at hu; rcases hu with rfl | rfl <;> rfl) (by omega) q4 (by omega) (by simp; omega) _ rfl ?_; intro g4 c4 w4 hr4 hg4 _ _)
              go_roundg (N k - q)
              case measure => omega
              case rel =>
                refine ⟨q + 1, by omega, by omega, by go_num, Lib.hid ?_, Lib.hid ?_⟩
                · rw [hTN.out, ← hlenN.out, hencN.out]; exact hr4
                · exact later_own2 (hla2.out.alloc _) q1 (by rw [hBae.out]; exact Nat.le_refl _) hg4
            · obtain rfl : N k = q := by omega
              have hqq : ¬ (N k : Int) < (N k : Int) := by omega
              go_wp2_with fail
              go_roundg (m - k)
              case measure => omega
              case rel => exact ⟨k + 1, by omega, by omega, by go_num, by rw [tdL_succ]; exact htd2, hla2⟩
        · obtain rfl : m = k := by omega
          have hkk : ¬ (m : Int) < (m : Int) := by omega
          obtain ⟨wb, rfl⟩ : ∃ wb, wb = wr := ⟨_, rfl⟩
          obtain ⟨lt, hlt⟩ : ∃ n, Hid ((tdL N m).length = n) := ⟨_, Lib.hid rfl⟩
          have hltb : lt ≤ 1208 := by
            have := tdL_le (N := N) hNb.out m
            rw [hlt.out] at this
            omega
          obtain ⟨T0, hT0⟩ : ∃ T, Hid (tdL N m = T) := ⟨_, Lib.hid rfl⟩
          rw [hT0.out] at htd hlt
          rw [hlt.out] at htd
          obtain ⟨ta, tc, rfl⟩ := own_form htd.out
          have hmk := make_ints m (by omega) wb
          obtain ⟨wm, hwm⟩ : ∃ w, w = wb.alloc (.cells (rowV m fun _ => 0) 3) := ⟨_, rfl⟩
          obtain ⟨gl, hgl⟩ : ∃ g, Hid (wb.heap.size = g) := ⟨_, Lib.hid rfl⟩
          have hlm : Later wb wm := by rw [hwm]; exact (Later.refl _).alloc _
          have hR0 : Row 3 m wm gl (fun _ => 0) := by rw [hwm]; exact push_new _ _ hgl.out
          rw [hgl.out, ← hwm] at hmk
          clear hwm
          replace hR0 := Lib.hid hR0
          replace hlm := Lib.hid hlm
          go_wp2_with fail
          go_loopg [121] (m + 1) (fun gg y wr => ∃ k : Nat, gg = m + 1 - k ∧ k ≤ m ∧ y = .int .i64 k ∧ Hid (Row 3 m wr gl (fun i => if i < k then (N i : Int) else 0)) ∧ Hid (Keep (fun b => b = gl) wm wr) ∧ Hid (wr.heap.size = wm.heap.size))
          case atStart => exact ⟨0, by omega, Nat.zero_le _, rfl, Lib.hid (Row.ext hR0.out (fun k hk => by simp)), Lib.hid (Keep.refl _ _), Lib.hid rfl⟩
          case round =>
            obtain ⟨k, rfl, hkm, rfl, hrow, hkp, hszm⟩ := hrel
            have hKb : Hid (Later wb wr) := Lib.hid (hkp.out.later hlm.out (fun b e => by rw [e, hgl.out]; exact Nat.le_refl _))
            by_cases hk : k < m
            · have hkk : (k : Int) < (m : Int) := by omega
              obtain ⟨u, us, a1, a2, a3⟩ := hrows.out k hk
              rw [hN.out] at a2
              obtain ⟨ua, uc, rfl⟩ := own_form a2
              obtain ⟨ga, capa, e⟩ := ownsRow_pos1 hvs.out (by omega)
              injection e with e1 e2 e3
              subst e1 e3
              have hc := hKb.out.cell (hla.out.cell ((hvs.out.cellAt k (by omega)).trans a1))
              clear e2 a1 a2 a3
              have hcl := hrow.out.cell hk
              have hfl := hrow.out.frozen k
              go_wp2_with fail
              go_roundg (m - k)
              case measure => omega
              case rel =>
                refine ⟨k + 1, by omega, by omega, by go_num, Lib.hid ?_, Lib.hid ?_, Lib.hid ((World.size_setCell _ _ _).trans hszm.out)⟩
                · refine (hrow.out.set hk _).ext (fun i hi => ?_)
                  by_cases e : i = k
                  · subst e; simp
                  · simp only [e, if_false]
                    by_cases e2 : i < k
                    · rw [if_pos e2, if_pos (by omega)]
                    · rw [if_neg e2, if_neg (by omega)]
                · exact hkp.out.setCell (p := ⟨gl, k, none⟩) (.inl rfl) _
            · obtain rfl : m = k := by omega
              have hkk : ¬ (m : Int) < (m : Int) := by omega
              obtain ⟨wc, rfl⟩ : ∃ wc, wc = wr := ⟨_, rfl⟩
              have hwm_lt : Hid (gl < wm.heap.size) := Lib.hid hR0.out.lt
              have hty : ∀ (b : Nat) (c : Array Value) (t : TypeId), wm.heap[b]? = some (Obj.cells c t (0, 0)) → t ≠ 3 → b ≠ gl := fun b c t h hne e => by
                have h2 := hR0.out
                unfold Row at h2
                rw [e, h2] at h
                injection h with h; injection h with _ h3
                exact hne h3.symm
              have hkc : Hid (∀ (b : Nat) (c : Array Value) (t : TypeId), wb.heap[b]? = some (Obj.cells c t (0, 0)) → t ≠ 3 → wc.heap[b]? = some (Obj.cells c t (0, 0))) := Lib.hid (fun b c t h hne => by
                have h2 := hlm.out.obj h
                exact hkp.out.at_ h2 (hty b c t h2 hne))
              have hallc : Hid (AllV wc B (.slice oa m oc) PP) := Lib.hid (hall.out.stay (fun b c t hb ht h => hkc.out b c t (hla.out.obj h) (by rcases ht with rfl | rfl | rfl <;> decide)))
              have htdc : Hid (wc.ownsRow Ba 73 2 (.slice ta lt tc) lt (encT T0)) := Lib.hid (by
                obtain ⟨hx, h⟩ := htd.out
                refine ⟨hx, ?_⟩
                rcases h with h | ⟨g', cap', cur, hv', hg', hb', hr'⟩
                · exact .inl h
                · exact .inr ⟨g', cap', cur, hv', hg', hkc.out g' _ _ hb' (by decide), hr'⟩)
              have hbw : BxSt wm (fun b => b < w1.heap.size ∨ (B ≤ b ∧ b < wm.heap.size)) x 8 (fun _ => none) := (hbx.out.later ((hlw.out.trans hla.out).trans hlm.out)).mono (fun b hb => by rw [hB.out]; exact hb)
              have hgB : B ≤ gl := by rw [← hgl.out, ← hB.out]; exact (hlw.out.trans hla.out).size
              have hwcm := hkp.out.size
              obtain ⟨Q, hQ⟩ : ∃ Q : Nat → Prop, Hid (∀ b, Q b ↔ (b < w1.heap.size ∨ (B ≤ b ∧ b < wc.heap.size))) := ⟨_, Lib.hid (fun b => Iff.rfl)⟩
              have hbc : Hid (BxSt wc Q x 8 (fun _ => none)) := Lib.hid ((hbw.other (A := fun b => b = gl) hkp.out (fun b _ e => .inr (by rw [e]; exact ⟨hgB, hwm_lt.out⟩))).mono (fun b hb => by have := (hQ.out b).1 hb; rw [hszm.out] at this; exact this))
              have hWc : Hid (Later W wc) := Lib.hid (hlW.out.trans (hla.out.trans hKb.out))
              have hn1 : Hid (W.heap.size ≤ w1.heap.size) := Lib.hid h1.size
              obtain ⟨CC, hCC⟩ : ∃ CC, Hid ((List.range m).map (fun i => chunks (Ls.getD i []) s) = CC) := ⟨_, Lib.hid rfl⟩
              have hCl : CC.length = m := by rw [← hCC.out]; simp
              have hCat : Hid (∀ i, i < m → CC.getD i [] = chunks (Ls.getD i []) s) := Lib.hid (fun i hi => by rw [← hCC.out, List.getD_eq_getElem?_getD]; simp [hi])
              have hCN : Hid (∀ i, i < m → (CC.getD i []).length = N i) := Lib.hid (fun i hi => by
                rw [hCat.out i hi, ← hN.out, ← hPP.out, ppL_at hi, cutL_length rfl])
              have hPat : Hid (∀ i k, i < m → k < N i → (PP.getD i [])[k]? = some (wrL i k (N i) ((CC.getD i []).getD k []))) := Lib.hid (fun i k hi hk => by
                have h1 := hCN.out i hi
                rw [hCat.out i hi] at h1 ⊢
                rw [← hPP.out, ppL_at hi, h1]
                exact cutL_at h1 hk)
              have hMay : Hid (∀ i k, i < m → k < N i → May i k (N i) ((CC.getD i []).getD k []).length) := Lib.hid (fun i k hi hk => by
                have h1 := hNb.out i
                have h2 : ((CC.getD i []).getD k []).length ≤ s := by
                  rw [hCat.out i hi]
                  have h3 := hCN.out i hi
                  rw [hCat.out i hi] at h3
                  rw [List.getD_eq_getElem?_getD, List.getElem?_eq_getElem (by omega)]
                  exact chunks_of_le (by omega) (List.getElem?_eq_getElem (by omega))
                unfold May
                omega)
              have hByt : Hid (∀ i k, i < m → k < N i → Byt ((CC.getD i []).getD k [])) := Lib.hid (fun i k hi hk => by
                have h3 := hCN.out i hi
                rw [hCat.out i hi] at h3 ⊢
                obtain ⟨_, _, _, _, _, hb⟩ := hv.out i hi
                rw [List.getD_eq_getElem?_getD, chunks_get (by omega) k _ (by omega)]
                exact (hb.1.drop _).take _)
              have hLb : Hid (∀ i, i < m → Byt (Ls.getD i [])) := Lib.hid (fun i hi => by obtain ⟨_, _, _, _, _, hb⟩ := hv.out i hi; exact hb.1)
              have hflat : Hid (∀ i, i < m → (CC.getD i []).flatten = Ls.getD i []) := Lib.hid (fun i hi => by rw [hCat.out i hi]; exact chunks_flat (by omega) _)
              have hN1 : Hid (∀ i, i < m → 1 ≤ N i) := Lib.hid (fun i hi => by rw [← hCN.out i hi, hCat.out i hi]; exact chunks_pos (by omega) _)
              have hT0m : Hid (∀ p ∈ T0, p.1 < m ∧ p.2 < N p.1) := Lib.hid (fun p hp => by obtain ⟨a, b⟩ := p; rw [← hT0.out] at hp; exact mem_tdL.1 hp)
              have hT0n : Hid T0.Nodup := Lib.hid (by rw [← hT0.out]; exact tdL_nodup N m)
              have hM0 : bxT CC T0 = fun _ => none := bxT_start (fun i k hi hk => by
                rw [hCl] at hi
                rw [hCN.out i hi] at hk
                rw [← hT0.out]
                exact mem_tdL.2 ⟨hi, hk⟩)
              have hR1 : Hid (Row 3 m wc gl (fun i => (cntT (N i) T0 i : Nat))) := Lib.hid (hrow.out.ext (fun i hi => by
                rw [if_pos hi, cnt_full (fun k hk => by rw [← hT0.out]; exact mem_tdL.2 ⟨hi, hk⟩)]))
              rw [← hM0] at hbc
              have hgQ : Hid (Q gl) := Lib.hid ((hQ.out gl).2 (.inr ⟨hgB, by rw [hszm.out]; exact hwm_lt.out⟩))
              clear hty hkc hall htd hbw hM0 hrow hkp hR0 hlm hmk hKb hrows hvs hbx hBa hla hlw
              replace hCl := Lib.hid hCl
              go_wp2_with fail
              go_loopg [15, 20] (lt + 1) (fun gg vt y wr => ∃ (T : Td) (tt lT : Nat), gg = lT + 1 ∧ vt = .slice ta lT tc ∧ y = .int .i64 tt ∧ tt + lT = lt ∧ Hid (T.length = lT) ∧ Hid T.Nodup ∧ Hid (∀ p ∈ T, p.1 < m ∧ p.2 < N p.1) ∧ Hid (wr.ownsRow Ba 73 2 (.slice ta lT tc) lT (encT T)) ∧ Hid (Row 3 m wr gl (fun i => (cntT (N i) T i : Nat))) ∧ Hid (BxSt wr Q x 8 (bxT CC T)) ∧ Hid (Keep (fun b => ¬ Q b ∨ b = gl ∨ ta = some ⟨b, 0, none⟩) wc wr))
              case atStart => exact ⟨T0, 0, lt, rfl, rfl, rfl, by omega, hlt, hT0n, hT0m, htdc, hR1, hbc, Lib.hid (Keep.refl _ _)⟩
              case round =>
                obtain ⟨T, tt, lT, rfl, rfl, rfl, hsum, hlT, hnd, hval, htd, hR, hbx, hK⟩ := hrel
                have hWr : Hid (Later W wr) := Lib.hid (hK.out.later hWc.out (fun b hb => by
                  rcases hb with h | h | h
                  · rcases Nat.lt_or_ge b W.heap.size with h2 | h2
                    · exact absurd ((hQ.out b).2 (.inl (Nat.lt_of_lt_of_le h2 hn1.out))) h
                    · exact h2
                  · rw [h]; have := hgB; have := hB.out; have := hW2.out.size; omega
                  · rcases htdc.out.2 with ⟨e, _⟩ | ⟨g', c', cur, e, hb', _⟩
                    · rw [h] at e; cases e
                    · rw [h] at e; cases e
                      have := hB.out; have := hW2.out.size; have := hBaH.out; omega))
                by_cases hl0 : lT = 0
                · subst hl0
                  have hTn : T = [] := List.length_eq_zero_iff.1 hlT.out
                  subst hTn
                  go_wp2_with fail
                  refine (open_st hbx.out (bxT_nil CC)).mono ?_
                  rintro e w8 ⟨rfl, h8⟩
                  have hbx8 := hbx.out.later h8
                  go_wp2_with fail
                  refine (held_st hbx8 (ks := []) List.nodup_nil (fun i => by rw [bxT_nil]; simp)).mono ?_
                  rintro e w9 ⟨rfl, h9⟩
                  go_wp2_with fail
                  go_ret
                  exact ⟨rfl, hWr.out.trans (h8.trans h9)⟩
                · have hpos : 0 < (lT : Int) := by omega
                  obtain ⟨gt, ct, e⟩ := ownsRow_pos1 htd.out (by omega)
                  injection e with e1 e2 e3
                  subst e1 e3
                  clear e2
                  obtain ⟨j, hjl, hjc⟩ : ∃ j : Nat, j < lT ∧ Hid ((tt < no → (O.getD tt 0).tmod (lT : Int) = j) ∧ (¬ tt < no → j = 0)) := by
                    by_cases ht : tt < no
                    · have hb := (ho.out tt ht).1
                      refine ⟨((O.getD tt 0).tmod (lT : Int)).toNat, ?_, Lib.hid ⟨fun _ => ?_, fun h => absurd ht h⟩⟩
                      · rw [Int.tmod_eq_emod_of_nonneg hb.1]
                        have := Int.emod_lt_of_pos (O.getD tt 0) hpos
                        have := Int.emod_nonneg (O.getD tt 0) (show (lT : Int) ≠ 0 by omega)
                        omega
                      · rw [Int.tmod_eq_emod_of_nonneg hb.1]
                        have := Int.emod_nonneg (O.getD tt 0) (show (lT : Int) ≠ 0 by omega)
                        omega
                    · exact ⟨0, by omega, Lib.hid ⟨fun h => absurd h ht, fun _ => rfl⟩⟩
                  go_upto_if 141 with fail
                  go_cut [21] (fun v21 wx => v21 = .int .i64 j ∧ wr = wx)
                  case first =>
                    by_cases ht : tt < no
                    · have htt : (tt : Int) < (no : Int) := by omega
                      obtain ⟨hb, go, oo', rfl, hco⟩ := ho.out tt ht
                      replace hco := hWr.out.cell hco
                      have hmod := hjc.out.1 ht
                      obtain ⟨r0, hr0⟩ : ∃ r, Hid (O.getD tt 0 = r) := ⟨_, Lib.hid rfl⟩
                      rw [hr0.out] at hco hmod hb
                      have hne : ¬ (lT : Int) = 0 := by omega
                      go_wp2_with fail
                      go_meet
                      case rel => exact ⟨rfl, rfl⟩
                    · have htt : ¬ (tt : Int) < (no : Int) := by omega
                      have hj0 := hjc.out.2 ht
                      subst hj0
                      go_wp2_with fail
                      go_meet
                      case rel => exact ⟨rfl, rfl⟩
                  case rest =>
                    obtain ⟨rfl, rfl⟩ := hcut
                    obtain ⟨ik, hik⟩ : ∃ p, T[j]? = some p := ⟨T[j]'(by rw [hlT.out]; exact hjl), List.getElem?_eq_getElem _⟩
                    obtain ⟨i, k⟩ := ik
                    have hmem := List.mem_of_getElem? hik
                    obtain ⟨him, hkN⟩ := hval.out _ hmem
                    have hik1 := encT_at hik
                    have hera := erase_at hnd.out hik
                    have hC := hCN.out i him
                    have hcnt := cntT_one (N := N i) hnd.out hmem hkN
                    have hcother : Hid (∀ q, q ≠ i → cntT (N q) (T.erase (i, k)) q = cntT (N q) T q) := Lib.hid (fun q hq => cntT_other hnd.out hq)
                    obtain ⟨n8, hn8, _⟩ := hbx.out.cnt
                    have hput := put_bxT (CC := CC) (i := i) (k := k) rfl hnd.out hmem (by rw [hCl.out]; exact him) (by rw [hC]; exact hkN) (by rw [hCl.out]; exact hm8) (by rw [hflat.out i him]; have := hsm.out i him; omega) hn8
                    rw [hC, hflat.out i him] at hput
                    have hnd' := hnd.out.erase (i, k)
                    have hval' : ∀ p ∈ T.erase (i, k), p.1 < m ∧ p.2 < N p.1 := fun p hp => hval.out p (List.mem_of_mem_erase hp)
                    have hnot : (T.erase (i, k)).contains (i, k) = false := by rw [contains_erase hnd.out]; simp
                    obtain ⟨T', hT'⟩ : ∃ T', Hid (T.erase (i, k) = T') := ⟨_, Lib.hid rfl⟩
                    rw [hT'.out] at hera hcnt hcother hput hnd' hval' hnot
                    obtain ⟨w3, hrun3, htd3, hg3⟩ := run_td_erase wr.drew Ba gt lT tc j T hlT.out (show wr.drew.ownsRow _ _ _ _ _ _ from htd.out) hjl
                    have k0 : wr.cell? ⟨gt, j * 2, none⟩ = some (.int .i64 (i : Nat)) := by
                      have h := htd.out.cells (g := gt) rfl _ _ hik1.1
                      rw [add_plain, Nat.zero_add] at h; exact h
                    have k1 : wr.cell? ⟨gt, j * 2 + 1, none⟩ = some (.int .i64 (k : Nat)) := by
                      have h := htd.out.cells (g := gt) rfl _ _ hik1.2
                      rw [add_plain, Nat.zero_add] at h; exact h
                    have hjj : (j : Int) < (lT : Int) := by omega
                    clear hrun3 htd3 hg3
                    go_wp2_with fail
                    go_quiet (fail)
                    obtain ⟨wd, hwd⟩ : ∃ w, w = wr.drewN nq := ⟨_, rfl⟩
                    have hld : Later wr wd := by rw [hwd]; exact (Later.refl _).drewN _
                    have htdd : Hid (wd.ownsRow Ba 73 2 (.slice (some ⟨gt, 0, none⟩) lT tc) lT (encT T)) := Lib.hid (by rw [hwd]; exact htd.out)
                    have hRd : Hid (Row 3 m wd gl (fun i => (cntT (N i) T i : Nat))) := Lib.hid (hR.out.later hld)
                    have hbd : Hid (BxSt wd Q x 8 (bxT CC T)) := Lib.hid ((hbx.out.later hld).mono (fun b hb => .inl hb))
                    have hKd : Hid (Keep (fun b => ¬ Q b ∨ b = gl ∨ some (⟨gt, 0, none⟩ : Addr) = some ⟨b, 0, none⟩) wc wd) := Lib.hid (hK.out.trans (Keep.of_later hld))
                    rw [← hwd]
                    clear hwd hld k0 k1 htd hR hbx hK hWr
                    obtain ⟨w3, hrun3, htd3, hg3⟩ := run_td_erase wd.drew Ba gt lT tc j T hlT.out (show wd.drew.ownsRow _ _ _ _ _ _ from htdd.out) hjl
                    rw [← hera] at htd3
                    have hcap : lT ≤ tc := by
                      rcases htdd.out.2 with ⟨e, _⟩ | ⟨g', c', cur, e, _, _, h, _⟩
                      · cases e
                      · cases e; exact h
                    have hs1 := fun V => td_high (some ⟨gt, 0, none⟩) lT tc j (by omega) hcap (by omega) gt rfl V
                    have hs2 : ∀ V, (Instr.slice 72 (.slice (some ⟨gt, 0, none⟩) lT tc) (some (.int .i64 ((j : Int) + 1))) none none).run Try.prog V = .ok (.slice (some ⟨gt, if tc = j + 1 then 0 else (j + 1) * 2, none⟩) (lT - (j + 1)) (tc - (j + 1))) V := fun V => td_low lT tc (j + 1) (by omega) hcap gt V
                    obtain ⟨ao2, hao2⟩ : ∃ a : Nat, Hid ((if tc = j + 1 then 0 else (j + 1) * 2) = a) := ⟨_, Lib.hid rfl⟩
                    rw [hao2.out] at hs2 hrun3
                    go_wp2_with fail
                    replace htd3 := Lib.hid htd3
                    replace hg3 := Lib.hid hg3
                    go_region
                    have hgtB : Ba ≤ gt ∧ gt < wc.heap.size := by
                      rcases htdc.out.2 with ⟨e, _⟩ | ⟨g', c', cur, e, hb', hb2, _⟩
                      · cases e
                      · cases e; exact ⟨hb', (Array.getElem?_eq_some_iff.1 hb2).1⟩
                    have hgtQ : Q gt := (hQ.out gt).2 (.inr ⟨by have := hBaH.out; omega, hgtB.2⟩)
                    have hglt : gl ≠ gt := fun e => by
                      have h2 := hRd.out
                      unfold Row at h2
                      rcases htdd.out.2 with ⟨e', _⟩ | ⟨g', c', cur, e', hb', hb2, _⟩
                      · cases e'
                      · cases e'
                        rw [e, hb2] at h2
                        injection h2 with h2; injection h2 with _ h3; exact absurd h3 (by decide)
                    have hR3 : Hid (Row 3 m w3 gl (fun i => (cntT (N i) T i : Nat))) := Lib.hid ((show Row 3 m wd.drew gl _ from hRd.out).grown hg3.out (fun e => hglt (Option.some.inj e)))
                    have hKg : Keep (fun b => b = gt) wd w3 := (Keep.refl _ _).grown (show wd.grownBy w3 (some gt) from ⟨hg3.out.os, hg3.out.tape, hg3.out.output, hg3.out.size, hg3.out.block⟩) (fun r e => by cases e; exact .inl rfl)
                    have hb3 : Hid (BxSt w3 Q x 8 (bxT CC T)) := Lib.hid (hbd.out.other hKg (fun b _ e => by rw [e]; exact hgtQ))
                    have hK3 : Hid (Keep (fun b => ¬ Q b ∨ b = gl ∨ some (⟨gt, 0, none⟩ : Addr) = some ⟨b, 0, none⟩) wc w3) := Lib.hid (hKd.out.trans (hKg.mono (fun b _ e => .inr (.inr (by rw [e])))))
                    obtain ⟨KP, hKP⟩ : ∃ KP : Nat → Prop, Hid (∀ b, KP b ↔ (¬ Q b ∨ b = gl ∨ some (⟨gt, 0, none⟩ : Addr) = some ⟨b, 0, none⟩)) := ⟨_, Lib.hid (fun b => Iff.rfl)⟩
                    replace hK3 : Hid (Keep KP wc w3) := Lib.hid (hK3.out.mono (fun b _ h => (hKP.out b).2 h))
                    have hstay : Hid (∀ w, Keep KP wc w → Stay3 B wc w) := Lib.hid (fun w hKw b c t hb ht h => by
                      have h1 : t ≠ 3 := by rcases ht with rfl | rfl | rfl <;> decide
                      have h2 : t ≠ 73 := by rcases ht with rfl | rfl | rfl <;> decide
                      refine hKw.at_ h (fun hk => ?_)
                      rcases (hKP.out b).1 hk with hk | hk | hk
                      · exact hk ((hQ.out b).2 (.inr ⟨hb, (Array.getElem?_eq_some_iff.1 h).1⟩))
                      · have h3 := hR1.out
                        unfold Row at h3
                        rw [hk, h3] at h
                        injection h with h; injection h with _ h; exact h1 h.symm
                      · injection hk with hk; injection hk with hk
                        rcases htdc.out.2 with ⟨e', _⟩ | ⟨g', c', cur, e', hb', hb2, _⟩
                        · cases e'
                        · cases e'
                          rw [← hk, hb2] at h
                          injection h with h; injection h with _ h; exact h2 h.symm)
                    have hKPW : Hid (∀ b, KP b → W.heap.size ≤ b) := Lib.hid (fun b hb => by
                      rcases (hKP.out b).1 hb with h | h | h
                      · rcases Nat.lt_or_ge b W.heap.size with h2 | h2
                        · exact absurd ((hQ.out b).2 (.inl (Nat.lt_of_lt_of_le h2 hn1.out))) h
                        · exact h2
                      · rw [h]; have := hgB; have := hB.out; have := hW2.out.size; omega
                      · injection h with h; injection h with h
                        rw [← h]
                        have := hB.out; have := hW2.out.size; have := hBaH.out; have := hgtB.1; omega)
                    obtain ⟨ga, hga⟩ : ∃ ga, oa = some ⟨ga, 0, none⟩ := by
                      obtain ⟨vs, hvs, _⟩ := hallc.out
                      obtain ⟨ga, ca, e⟩ := ownsRow_pos1 hvs (by rw [hPl.out]; omega)
                      injection e with e1 _ _
                      exact ⟨ga, e1⟩
                    subst hga
                    have hmay := hMay.out i k him hkN
                    have hbD := wrL_byt hmay (by omega) (hByt.out i k him hkN)
                    have hDl := wrL_length hmay (by omega)
                    obtain ⟨hok, hpc⟩ := pc_of_wr hmay (by omega)
                    simp only [Int.toNat_natCast] at hpc
                    have hPik := hPat.out i k him hkN
                    obtain ⟨D, hD⟩ : ∃ D, Hid (wrL i k (N i) ((CC.getD i []).getD k []) = D) := ⟨_, Lib.hid rfl⟩
                    rw [hD.out] at hok hpc hDl hbD hPik
                    have hfetch : Hid (∀ w, Keep KP wc w → ∃ g2 c2 u2, w.cell? ⟨ga, i, none⟩ = some (.slice (some ⟨g2, 0, none⟩) (N i) c2) ∧ w.cell? ⟨g2, k, none⟩ = some u2 ∧ BytV w u2 D) := Lib.hid (fun w hKw => by
                      obtain ⟨ga', ca, ui, ni, he, hca, hni, -, hkk⟩ := (hallc.out.stay (hstay.out w hKw)).at_ (i := i) (by rw [hPl.out]; exact him)
                      injection he with he1 he2 he3
                      injection he1 with he1
                      injection he1 with he1
                      subst he1
                      rw [hN.out] at hni
                      subst hni
                      obtain ⟨g2, c2, u2, rfl, hc2, hrw2⟩ := hkk k _ hPik
                      exact ⟨g2, c2, u2, hca, hc2, (bytV_of_row hbD hrw2).1⟩)
                    obtain ⟨c', hc'⟩ : ∃ c, Hid (cntT (N i) T' i = c) := ⟨_, Lib.hid rfl⟩
                    rw [hc'.out] at hcnt hput
                    have hRcell : Hid (∀ w, Row 3 m w gl (fun i => (cntT (N i) T i : Nat)) → w.cell? ⟨gl, i, none⟩ = some (.int .i64 ((c' : Int) + 1)) ∧ w.frozen? ⟨gl, i, none⟩ = false) := Lib.hid (fun w h => by
                      have e : ((cntT (N i) T i : Nat) : Int) = (c' : Int) + 1 := by omega
                      have h2 := h.cell him
                      rw [e] at h2
                      exact ⟨h2, h.frozen i⟩)
                    have hc'b : (c' : Int) ≤ 151 := by
                      have h1 := cntT_le (N i) T' i
                      have h2 := hNb.out i
                      rw [hc'.out] at h1
                      omega
                    replace hok := Lib.hid hok
                    replace hpc := Lib.hid hpc
                    replace hn8 := Lib.hid hn8
                    replace hnd' := Lib.hid hnd'
                    replace hval' := Lib.hid hval'
                    replace hera := Lib.hid hera
                    replace hcnt := Lib.hid hcnt
                    replace hik := Lib.hid hik
                    have hnotH := Lib.hid hnot
                    clear hik1 hmem hmay hbD hrun3 hs1 hs2 hKg hPik hnot
                    have him' : (i : Int) < (m : Int) := by omega
                    have hkN' : (k : Int) < (N i : Int) := by omega
                    obtain ⟨gr, orr, ur, hare, hcr, hur⟩ := hv.out i him
                    have hstr : Hid (∀ w, Later W w → w.cell? ⟨gr, orr + i, none⟩ = some ur ∧ BytV w ur (Ls.getD i [])) := Lib.hid (fun w hw => ⟨hw.cell hcr, hur.later hw⟩)
                    subst hare
                    clear hcr
                    obtain ⟨mr, ar, qr, rfl⟩ := bytV_sl hur
                    clear hur
                    by_cases h0 : c' = 0
                    · rw [if_pos h0, decide_eq_true h0] at hput
                      replace hput := Lib.hid hput
                      subst h0
                      obtain ⟨g2, c2, u2, hca, hc2, hu2⟩ := hfetch.out w3 hK3.out
                      have hP5 := Lib.hid (put_st hb3.out hu2 (by omega) hok.out hpc.out hn8.out hput.out)
                      clear hu2
                      go_wp2_with fail
                      refine hP5.out.mono ?_
                      rintro e w5 ⟨v5, rfl, hb5, hh5, hr5⟩
                      have hR5 : Row 3 m w5 gl (fun i => (cntT (N i) T i : Nat)) := hh5.at_ hR3.out hgQ.out
                      obtain ⟨cl, fl⟩ := hRcell.out w5 hR5
                      go_upto_region 45 with fail
                      obtain ⟨w6, hw6⟩ : ∃ w, w = w5.setCell ⟨gl, i, none⟩ (.int .i64 0) := ⟨_, rfl⟩
                      have hk56 : Keep (fun b => b = gl) w5 w6 := by rw [hw6]; exact (Keep.refl (fun b => b = gl) w5).setCell (p := ⟨gl, i, none⟩) (.inl rfl) _
                      have hR6 : Hid (Row 3 m w6 gl (fun q => (cntT (N q) T' q : Nat))) := Lib.hid (by
                        rw [hw6]
                        refine (hR5.set him _).ext (fun q hq => ?_)
                        by_cases e : q = i
                        · subst e
                          rw [if_pos rfl, hc'.out]
                          all_goals rfl
                        · rw [if_neg e, hcother.out q e])
                      have hb6 : Hid (BxSt w6 Q x 8 (bxT CC T')) := Lib.hid ((hb5.mono (fun b hb => .inl hb)).other hk56 (fun b _ e => by rw [e]; exact hgQ.out))
                      have hK6 : Hid (Keep KP wc w6) := Lib.hid ((hK3.out.trans (Keep.mono hh5 (fun b _ h => (hKP.out b).2 (.inl h)))).trans (hk56.mono (fun b _ e => (hKP.out b).2 (.inr (.inl e)))))
                      have hW6 : Hid (Later W w6) := Lib.hid (hK6.out.later hWc.out hKPW.out)
                      have htd6 : Hid (w6.ownsRow Ba 73 2 (.slice (some ⟨gt, 0, none⟩) (lT - 1) tc) (lT - 1) (encT T')) := Lib.hid (by
                        obtain ⟨hx, h⟩ := htd3.out
                        refine ⟨hx, ?_⟩
                        rcases h with h | ⟨g', cap', cur, hv', hg', hb', hr'⟩
                        · exact .inl h
                        · have e : gt = g' := by injection hv' with hv'; injection hv' with hv'; injection hv'
                          exact .inr ⟨g', cap', cur, hv', hg', hk56.at_ (hh5.at_ hb' (e ▸ hgtQ)) (fun h => hglt (by rw [e, ← h])), hr'⟩)
                      have hr6 : Hid (w6.ownsRow w3.heap.size 5 1 v5 _ _) := Lib.hid (row_at hr5 (fun b hb => hk56.block b (World.ownsRow.lt hr5 b hb).2 (fun e => by have := (World.ownsRow.lt hr5 b hb).1; have := hR3.out.lt; omega)))
                      have c6 : w6.cell? ⟨gl, i, none⟩ = some (.int .i64 0) := by rw [hw6]; exact cell_setCell_s cl
                      rw [← hw6]
                      clear hw6 hk56 cl fl hR5 hb5 hh5 hr5 hP5 hca hc2
                      obtain ⟨cr, br⟩ := hstr.out w6 hW6.out
                      have sr : ∀ q, (convert 23 9 (.slice ar mr qr)).run Try.prog (w6.drewN q) = .ok (.string (strOfNums (Ls.getD i []))) (w6.drewN q) := fun q => bytV_string (br.later ((Later.refl _).drewN q))
                      have b5 := (bytV_of_row (hLb.out i him) hr6.out).1
                      have s5 : ∀ q, (convert 23 9 v5).run Try.prog (w6.drewN q) = .ok (.string (strOfNums (Ls.getD i []))) (w6.drewN q) := fun q => bytV_string (b5.later ((Later.refl _).drewN q))
                      obtain ⟨m5, a5, q5, rfl⟩ := bytV_sl b5
                      obtain ⟨S5, hS5⟩ : ∃ S, Hid (strOfNums (Ls.getD i []) = S) := ⟨_, Lib.hid rfl⟩
                      rw [hS5.out] at sr s5
                      clear br b5
                      go_quiet (fail)
                      obtain ⟨w7, hw7⟩ : ∃ w, w = w6.drewN nq := ⟨_, rfl⟩
                      have h67 : Later w6 w7 := by rw [hw7]; exact (Later.refl _).drewN _
                      rw [← hw7]
                      clear hw7
                      go_wp2_with fail
                      have hb7 := Lib.hid ((hb6.out.later h67).mono (fun b hb => Or.inl hb))
                      go_roundg lT
                      case measure => omega
                      case rel =>
                        refine ⟨T', tt + 1, lT - 1, by omega, rfl, by go_num, by omega, Lib.hid ?_, hnd', hval', Lib.hid (htd6.out.kept (h67).grown (Classical.em _)), Lib.hid (hR6.out.later h67), hb7, Lib.hid ((hK6.out.trans (Keep.of_later h67)).mono (fun b _ h => (hKP.out b).1 h))⟩
                        rw [hera.out, List.length_eraseIdx, if_pos (by rw [hlT.out]; exact hjl), hlT.out]
                    · rw [if_neg h0, decide_eq_false h0] at hput
                      replace hput := Lib.hid hput
                      obtain ⟨g2, c2, u2, hca, hc2, hu2⟩ := hfetch.out w3 hK3.out
                      have hP5 := Lib.hid (put_st hb3.out hu2 (by omega) hok.out hpc.out hn8.out hput.out)
                      clear hu2
                      go_wp2_with fail
                      refine hP5.out.mono ?_
                      rintro e w5 ⟨v5, rfl, hb5, hh5, hr5⟩
                      have hR5 : Row 3 m w5 gl (fun i => (cntT (N i) T i : Nat)) := hh5.at_ hR3.out hgQ.out
                      obtain ⟨cl, fl⟩ := hRcell.out w5 hR5
                      go_upto_region 45 with fail
                      obtain ⟨w6, hw6⟩ : ∃ w, w = w5.setCell ⟨gl, i, none⟩ (.int .i64 c') := ⟨_, rfl⟩
                      have hk56 : Keep (fun b => b = gl) w5 w6 := by rw [hw6]; exact (Keep.refl (fun b => b = gl) w5).setCell (p := ⟨gl, i, none⟩) (.inl rfl) _
                      have hR6 : Hid (Row 3 m w6 gl (fun q => (cntT (N q) T' q : Nat))) := Lib.hid (by
                        rw [hw6]
                        refine (hR5.set him _).ext (fun q hq => ?_)
                        by_cases e : q = i
                        · subst e
                          rw [if_pos rfl, hc'.out]
                          all_goals rfl
                        · rw [if_neg e, hcother.out q e])
                      have hb6 : Hid (BxSt w6 Q x 8 (bxT CC T')) := Lib.hid ((hb5.mono (fun b hb => .inl hb)).other hk56 (fun b _ e => by rw [e]; exact hgQ.out))
                      have hK6 : Hid (Keep KP wc w6) := Lib.hid ((hK3.out.trans (Keep.mono hh5 (fun b _ h => (hKP.out b).2 (.inl h)))).trans (hk56.mono (fun b _ e => (hKP.out b).2 (.inr (.inl e)))))
                      have hW6 : Hid (Later W w6) := Lib.hid (hK6.out.later hWc.out hKPW.out)
                      have htd6 : Hid (w6.ownsRow Ba 73 2 (.slice (some ⟨gt, 0, none⟩) (lT - 1) tc) (lT - 1) (encT T')) := Lib.hid (by
                        obtain ⟨hx, h⟩ := htd3.out
                        refine ⟨hx, ?_⟩
                        rcases h with h | ⟨g', cap', cur, hv', hg', hb', hr'⟩
                        · exact .inl h
                        · have e : gt = g' := by injection hv' with hv'; injection hv' with hv'; injection hv'
                          exact .inr ⟨g', cap', cur, hv', hg', hk56.at_ (hh5.at_ hb' (e ▸ hgtQ)) (fun h => hglt (by rw [e, ← h])), hr'⟩)
                      have hr6 : Hid (w6.ownsRow w3.heap.size 5 1 v5 _ _) := Lib.hid (row_at hr5 (fun b hb => hk56.block b (World.ownsRow.lt hr5 b hb).2 (fun e => by have := (World.ownsRow.lt hr5 b hb).1; have := hR3.out.lt; omega)))
                      have c6 : w6.cell? ⟨gl, i, none⟩ = some (.int .i64 c') := by rw [hw6]; exact cell_setCell_s cl
                      rw [← hw6]
                      clear hw6 hk56 cl fl hR5 hb5 hh5 hr5 hP5 hca hc2
                      obtain ⟨a5, q5, rfl⟩ := own_form hr6.out
                      have hcz : ((c' : Int) == 0) = false := by simp; omega
                      go_quiet (fail)
                      obtain ⟨w7, hw7⟩ : ∃ w, w = w6.drewN nq := ⟨_, rfl⟩
                      have h67 : Later w6 w7 := by rw [hw7]; exact (Later.refl _).drewN _
                      rw [← hw7]
                      clear hw7
                      have hb7 := Lib.hid ((hb6.out.later h67).mono (Q' := Q) (fun b hb => Or.inl hb))
                      have htt0 : 0 ≤ (tt : Int) ∧ (tt : Int) ≤ 1208 := by omega
                      by_cases hpar : ((tt : Int) % 2 == 0) = true
                      · have hK7 : Keep KP wc w7 := hK6.out.trans (Keep.of_later h67)
                        obtain ⟨g2, c2, u2, hca, hc2, hu2⟩ := hfetch.out w7 hK7
                        obtain ⟨n9, hn9, _⟩ := hb7.out.cnt
                        have hput9 := put_again (CC := CC) (T := T') (i := i) (k := k) (n := n9) rfl (by rw [hCl.out]; exact him) (by rw [hC]; exact hkN) hnotH.out (by rw [hC, hc'.out]; omega)
                        rw [hC] at hput9
                        have hP9 := Lib.hid (put_st hb7.out hu2 (by omega) hok.out hpc.out hn9 hput9)
                        have c7 := h67.cell c6
                        have hmiss := Lib.hid (miss_bxT (CC := CC) (T := T') (i := i) rfl (by rw [hCl.out]; exact him) (by rw [hC, hc'.out]; omega) (by rw [hC, hc'.out]; have h1 := hcnt.out; have h2 := cntT_le (N i) T i; omega))
                        rw [hC, hc'.out] at hmiss
                        clear hu2 hput9 hn9
                        go_wp2_with fail
                        refine hP9.out.mono ?_
                        rintro e w8 ⟨v8, rfl, hb8, hh8, -⟩
                        have c8 : w8.cell? ⟨gl, i, none⟩ = some (.int .i64 c') := Keep.cell hh8 c7 (fun h => h hgQ.out)
                        have hb8' := Lib.hid (hb8.mono (Q' := Q) (fun b hb => Or.inl hb))
                        have hK8 : Hid (Keep KP wc w8) := Lib.hid (hK7.trans (Keep.mono hh8 (fun b _ h => (hKP.out b).2 (.inl h))))
                        have hM8 := Lib.hid (missing_st i (by omega) ((hb8.later (drew_later w8)).mono (Q' := Q) (fun b hb => Or.inl (Or.inl hb))))
                        have hw64 : IntKind.u64.wrap (i : Int) = i := by
                          show (i : Int) % 18446744073709551616 = i
                          omega
                        clear hca hc2 hP9 hb8
                        go_wp2_with fail
                        have c8d : w8.drew.cell? ⟨gl, i, none⟩ = some (.int .i64 c') := c8
                        go_region_held3 (fun V => V.cell? ⟨gl, i, none⟩ = some (.int .i64 c')) (first | exact c8d | exact c9) (first | (go_at_call 28; with_reducible refine hM8.out.mono ?_; rintro e w9 ⟨v9, rfl, hr9, h9⟩; rw [hmiss.out] at hr9; obtain ⟨a9, q9, rfl⟩ := own_form hr9; have c9 := h9.cell c8d))
                        have h89 : Later w8 w9 := (drew_later w8).trans h9
                        have htd8 : Hid (w8.ownsRow Ba 73 2 (.slice (some ⟨gt, 0, none⟩) (lT - 1) tc) (lT - 1) (encT T')) := Lib.hid (by
                          obtain ⟨hx, h⟩ := htd6.out.kept h67.grown (Classical.em _)
                          refine ⟨hx, ?_⟩
                          rcases h with h | ⟨g', cap', cur, hv', hg', hb', hr'⟩
                          · exact .inl h
                          · have e : gt = g' := by injection hv' with hv'; injection hv' with hv'; injection hv'
                            exact .inr ⟨g', cap', cur, hv', hg', hh8.at_ hb' (e ▸ hgtQ), hr'⟩)
                        have hR8 : Hid (Row 3 m w8 gl (fun q => (cntT (N q) T' q : Nat))) := Lib.hid (hh8.at_ (hR6.out.later h67) hgQ.out)
                        go_wp2_with fail
                        go_roundg lT
                        case measure => omega
                        case rel =>
                          refine ⟨T', tt + 1, lT - 1, by omega, rfl, by go_num, by omega, Lib.hid ?_, hnd', hval', Lib.hid (htd8.out.kept (h89).grown (Classical.em _)), Lib.hid (hR8.out.later h89), Lib.hid ((hb8'.out.later h89).mono (fun b hb => Or.inl hb)), Lib.hid ((hK8.out.trans (Keep.of_later h89)).mono (fun b _ h => (hKP.out b).1 h))⟩
                          rw [hera.out, List.length_eraseIdx, if_pos (by rw [hlT.out]; exact hjl), hlT.out]
                      · have hpar2 : ((tt : Int) % 2 == 0) = false := by simpa using hpar
                        clear hpar
                        go_wp2_with fail
                        go_roundg lT
                        case measure => omega
                        case rel =>
                          refine ⟨T', tt + 1, lT - 1, by omega, rfl, by go_num, by omega, Lib.hid ?_, hnd', hval', Lib.hid (htd6.out.kept (h67).grown (Classical.em _)), Lib.hid (hR6.out.later h67), hb7, Lib.hid ((hK6.out.trans (Keep.of_later h67)).mono (fun b _ h => (hKP.out b).1 h))⟩
                          rw [hera.out, List.length_eraseIdx, if_pos (by rw [hlT.out]; exact hjl), hlT.out]
end Go.Proofs.Ytjelfiljebamgaa
