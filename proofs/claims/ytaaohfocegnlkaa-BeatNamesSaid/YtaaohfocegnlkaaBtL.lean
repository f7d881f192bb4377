/-
  BeatOrders: for every input the law returns true.
-/
import Derived.Test.YtaaohfocegnlkaaBtK
namespace Go.Proofs.Ytaaohfocegnlkaa
open Go.RowKit Go.Shelf
set_option linter.unusedVariables false
set_option linter.unusedSimpArgs false
attribute [local go_sem] Oper.semAt_some

/-- A slice of bytes: what it holds. -/
def BytV (w : World) (v : Value) (L : List Int) : Prop :=
  ∃ ao cap, v = .slice ao L.length cap ∧ ∀ k, k < L.length → ∃ g o, ao = some ⟨g, o, none⟩ ∧ w.cell? ⟨g, o + k, none⟩ = some (.int .u8 (L.getD k 0)) ∧ 0 ≤ L.getD k 0 ∧ L.getD k 0 ≤ 255
def sixth (L : List Int) : List Int := L.map (· % 6)
theorem sixth_getD (L : List Int) {k : Nat} (hk : k < L.length) : (sixth L).getD k 0 = L.getD k 0 % 6 := by
  unfold sixth
  rw [List.getD_eq_getElem?_getD, List.getD_eq_getElem?_getD, List.getElem?_map, List.getElem?_eq_getElem hk]; rfl

theorem sel_length (P : Int → Bool) (g : Nat → Int) (N : Nat) : (selP P (ol g N)).length ≤ N := by
  unfold selP
  rw [List.length_map]
  exact Nat.le_trans (List.length_filter_le _ _) (ol_length g N)
theorem same_ints (v u : Value) (L : List Int) (W : World) (hv : IntsV W v L) (hu : IntsV W u L) (hL : L.length ≤ 4096) :
    Calls Try.prog 13 #[v, u] W fun e w' => e = .returned (.bool true) ∧ Later W w' := by
  have := ints_any v u L L W hv hu hL hL
  rwa [decide_eq_true rfl] at this
set_option maxRecDepth 100000 in
set_option maxHeartbeats 2000000 in
theorem beatOrders_walk (p : Int) (L : List (Int × Int)) (N : List Int) (u v : Value) (W : World) (hp : 0 ≤ p ∧ p ≤ 255) (hu : OpsV W u L) (hv : BytV W v N) :
    Calls Try.prog 4 #[.int .u8 p, u, v] W fun e w' => e = .returned (.bool true) ∧ Later W w' := by
  obtain ⟨uo, ucap, rfl, hu'⟩ := id hu
  obtain ⟨vo, vcap, rfl, hv⟩ := hv
  clear hu'
  obtain ⟨n, hn⟩ : ∃ n, Hid (N.length = n) := ⟨_, rfl⟩
  obtain ⟨m, hm⟩ : ∃ n, Hid (L.length = n) := ⟨_, rfl⟩
  have hu := Lib.hid hu
  have hv := Lib.hid hv
  rw [hn.out] at hv ⊢
  rw [hm.out] at hu ⊢
  go_enter Try.func4, Try.ntmps4
  go_wp2_with fail
  refine (alive_any _).mono ?_
  rintro e w1 ⟨rfl, hl⟩
  by_cases hm2 : 200 < m
  · go_wp2_with fail
    go_ret
    exact ⟨rfl, hl⟩
  by_cases hn2 : 20 < n
  · go_wp2_with fail
    go_ret
    exact ⟨rfl, hl⟩
  have HM := Lib.hid (fun w h => made_any p L (.slice uo m ucap) w hp (by rw [hm.out]; omega) h)
  obtain ⟨gm, hgm⟩ : ∃ g, madeG p L = g := ⟨_, rfl⟩
  have m1 : gm 1 = 6 := by rw [← hgm]; unfold madeG; rw [foldG_lo _ _ (by omega)]; rfl
  have m3 : 0 ≤ gm 3 ∧ gm 3 ≤ 300 := by
    rw [← hgm]; unfold madeG
    have := foldG_3 L (g0 2 6 (4 + p % 20))
    rw [hm.out, show g0 2 6 (4 + p % 20) 3 = 0 from rfl] at this
    omega
  rw [hgm] at HM
  clear hgm
  go_wp2_with fail
  refine (HM.out _ (hu.out.later hl)).mono ?_
  rintro e w2 ⟨bv, rfl, hwv, hbv, hl2⟩
  have hs1 := hl.size
  replace hl := hl.trans hl2
  go_wp2_with fail
  refine (HM.out _ (hu.out.later hl)).mono ?_
  rintro e w3 ⟨bw, rfl, hww, hbw, hl3⟩
  have hne : bv ≠ bw := by have := hwv.lt; omega
  replace hwv : WB w3 bv gm := Row.later hwv hl3
  have hWv : W.heap.size ≤ bv := Nat.le_trans hs1 hbv
  have hWw : W.heap.size ≤ bw := Nat.le_trans hl.size hbw
  replace hl := hl.trans hl3
  clear HM hl2 hl3 hbv hbw hs1
  obtain ⟨ns, hns⟩ : ∃ ns, Hid (sixth N = ns) := ⟨_, rfl⟩
  have hnl : Hid (ns.length = n) := by rw [← hns.out]; unfold sixth; rw [List.length_map]; exact hn.out
  have hlo : Hid (∀ (A : List Int), A.foldl hdG gm 1 = 6 ∧ A.foldl hdG gm 3 = gm 3) := fun A => ⟨by rw [fold_lo A gm (by omega)]; exact m1, fold_lo A gm (by omega)⟩
  as_aux_lemma =>
    go_wp2_with fail
    go_loopw [34] (fun y wr => ∃ i : Nat, i ≤ n ∧ y = .int .i64 i ∧ WB wr bv ((ns.take i).foldl hdG gm) ∧ WB wr bw ((ns.reverse.take i).foldl hdG gm) ∧ Later W wr) (fun y _ => (5000 - intOf y).toNat)
    case atStart => exact ⟨0, by omega, rfl, hwv, hww, hl⟩
    case round =>
      obtain ⟨i, hi, rfl, hv1, hv2, hlr⟩ := hrel
      obtain ⟨wo, rfl⟩ : ∃ wo : World, wo = wr := ⟨_, rfl⟩
      by_cases hin : i < n
      · obtain ⟨g, o, rfl, ca, ca1, ca2⟩ := hv.out i hin
        obtain ⟨g', o', hgo, cb, cb1, cb2⟩ := hv.out (n - 1 - i) (by omega)
        obtain ⟨rfl, rfl⟩ : g = g' ∧ o = o' := by simpa using hgo
        have e1 := fold_snoc (L := ns) (i := i) (by rw [hnl.out]; exact hin) gm
        have e2 := fold_rev (L := ns) (i := i) (by rw [hnl.out]; exact hin) gm
        rw [hnl.out] at e2
        have d1 : ns.getD i 0 = N.getD i 0 % 6 := by rw [← hns.out]; exact sixth_getD N (by rw [hn.out]; exact hin)
        have d2 : ns.getD (n - 1 - i) 0 = N.getD (n - 1 - i) 0 % 6 := by rw [← hns.out]; exact sixth_getD N (by rw [hn.out]; omega)
        rw [d1] at e1
        rw [d2] at e2
        obtain ⟨x, hx⟩ : ∃ x, N.getD i 0 = x := ⟨_, rfl⟩
        obtain ⟨y, hy⟩ : ∃ y, N.getD (n - 1 - i) 0 = y := ⟨_, rfl⟩
        rw [hx] at ca ca1 ca2 e1
        rw [hy] at cb cb1 cb2 e2
        have hgl := cell_lt ca
        replace ca := hlr.cell ca
        replace cb := hlr.cell cb
        obtain ⟨j, hj⟩ : ∃ j : Nat, n - 1 - i = j := ⟨_, rfl⟩
        have hj2 : (n : Int) - 1 - (i : Int) = (j : Int) := by omega
        have hjn : j < n := by omega
        rw [hj] at cb
        obtain ⟨l1, l3⟩ := hlo.out (ns.take i)
        obtain ⟨l2, l4⟩ := hlo.out (ns.reverse.take i)
        obtain ⟨ga, hga⟩ : ∃ g, (ns.take i).foldl hdG gm = g := ⟨_, rfl⟩
        obtain ⟨gb, hgb⟩ : ∃ g, (ns.reverse.take i).foldl hdG gm = g := ⟨_, rfl⟩
        rw [hga] at hv1 e1 l1
        rw [hgb] at hv2 e2 l2
        clear d1 d2 hx hy hga hgb l3 l4 hj
        go_wp2_with fail
        refine (heard_any bv ga (x % 6) _ hv1 (by omega)).mono ?_
        rintro e w4 ⟨rfl, hv3, hg4⟩
        replace hv2 := hv2.grown hg4 (by simp; exact fun e => hne e.symm)
        replace hlr := grown_later hlr hg4 hWv
        replace cb := grown_cell hg4 cb (by omega)
        go_wp2_with fail
        refine (heard_any bw gb (y % 6) _ hv2 (by omega)).mono ?_
        rintro e w5 ⟨rfl, hv4, hg5⟩
        replace hv3 := hv3.grown hg5 (by simp; exact hne)
        replace hlr := grown_later hlr hg5 hWw
        go_wp2_with fail
        go_roundw
        case rel => exact ⟨i + 1, by omega, by go_num, by rw [e1]; exact hv3, by rw [e2]; exact hv4, hlr⟩
        case measure => simp [intOf]; omega
      · obtain rfl : i = n := by omega
        rw [List.take_of_length_le (Nat.le_of_eq hnl.out)] at hv1
        rw [List.take_of_length_le (Nat.le_of_eq ((List.length_reverse).trans hnl.out))] at hv2
        obtain ⟨l2, l4⟩ := hlo.out ns.reverse
        have hfin : (ns.reverse ++ ns).foldl hdG gm = ns.foldl hdG gm := fold_same (fun x => by simp) gm
        rw [List.foldl_append] at hfin
        obtain ⟨gr, hgr⟩ : ∃ g, ns.reverse.foldl hdG gm = g := ⟨_, rfl⟩
        rw [hgr] at hv2 l2 l4 hfin
        obtain ⟨gf, hgf⟩ : ∃ g, ns.foldl hdG gm = g := ⟨_, rfl⟩
        have f1 := hlo.out ns
        rw [hgf] at hv1 hfin f1
        obtain ⟨f1, f3⟩ := f1
        have hlo2 : Hid (∀ (A : List Int), A.foldl hdG gr 1 = 6) := fun A => by rw [fold_lo A gr (by omega)]; exact l2
        clear hgf hgr hlo
        as_aux_lemma =>
          go_wp2_with fail
          go_loopw [60] (fun y wr => ∃ j : Nat, j ≤ i ∧ y = .int .i64 j ∧ WB wr bv gf ∧ WB wr bw ((ns.take j).foldl hdG gr) ∧ Later W wr) (fun y _ => (5000 - intOf y).toNat)
          case atStart => exact ⟨0, by omega, rfl, hv1, hv2, hlr⟩
          case round =>
            obtain ⟨j, hj, rfl, hv1, hv2, hlr⟩ := hrel
            obtain ⟨wo, rfl⟩ : ∃ wo : World, wo = wr := ⟨_, rfl⟩
            by_cases hjn : j < i
            · obtain ⟨g, o, rfl, ca, ca1, ca2⟩ := hv.out j hjn
              have e1 := fold_snoc (L := ns) (i := j) (by rw [hnl.out]; exact hjn) gr
              have d1 : ns.getD j 0 = N.getD j 0 % 6 := by rw [← hns.out]; exact sixth_getD N (by rw [hn.out]; exact hjn)
              rw [d1] at e1
              obtain ⟨x, hx⟩ : ∃ x, N.getD j 0 = x := ⟨_, rfl⟩
              rw [hx] at ca ca1 ca2 e1
              replace ca := hlr.cell ca
              have l1 := hlo2.out (ns.take j)
              obtain ⟨gb, hgb⟩ : ∃ g, (ns.take j).foldl hdG gr = g := ⟨_, rfl⟩
              rw [hgb] at hv2 e1 l1
              clear d1 hx hgb
              go_wp2_with fail
              refine (heard_any bw gb (x % 6) _ hv2 (by omega)).mono ?_
              rintro e w5 ⟨rfl, hv4, hg5⟩
              replace hv1 := hv1.grown hg5 (by simp; exact hne)
              replace hlr := grown_later hlr hg5 hWw
              go_wp2_with fail
              go_roundw
              case rel => exact ⟨j + 1, by omega, by go_num, hv1, by rw [e1]; exact hv4, hlr⟩
              case measure => simp [intOf]; omega
            · obtain rfl : j = i := by omega
              rw [List.take_of_length_le (Nat.le_of_eq hnl.out), hfin] at hv2
              clear hfin hlo2 l2 l4 hu hv hwv hww hns hnl hn hm
              as_aux_lemma =>
                go_wp2_with fail
                go_loopw [72] (fun y wr => ∃ k : Nat, k ≤ 30 ∧ y = .int .i64 k ∧ WB wr bv (tkN k gf) ∧ WB wr bw (tkN k gf) ∧ Later W wr) (fun y _ => (5000 - intOf y).toNat)
                case atStart => exact ⟨0, by omega, rfl, hv1, hv2, hlr⟩
                case round =>
                  obtain ⟨k, hk, rfl, hv1, hv2, hlr⟩ := hrel
                  obtain ⟨wo, rfl⟩ : ∃ wo : World, wo = wr := ⟨_, rfl⟩
                  have g1 := tkN_1 k gf
                  have g3 := tkN_3 k gf
                  have gs := tkN_succ k gf
                  obtain ⟨gk, hgk⟩ : ∃ g, tkN k gf = g := ⟨_, rfl⟩
                  rw [hgk] at hv1 hv2 g1 g3 gs
                  clear hgk
                  by_cases hk30 : k < 30
                  · have q1 : (sus gk).length ≤ 4096 := by have : (sus gk).length ≤ (gk 1).toNat := sel_length _ _ _; omega
                    have q2 : (tkL gk).length ≤ 4096 := by have : (tkL gk).length ≤ (gk 1).toNat := sel_length _ _ _; omega
                    go_wp2_with fail
                    refine (suspects_any bv gk _ hv1 (by omega)).mono ?_
                    rintro e w6 ⟨v1, rfl, hs1, hl1⟩
                    replace hv1 : WB w6 bv gk := Row.later hv1 hl1
                    replace hv2 : WB w6 bw gk := Row.later hv2 hl1
                    replace hlr := hlr.trans hl1
                    clear hl1
                    go_wp2_with fail
                    refine (suspects_any bw gk _ hv2 (by omega)).mono ?_
                    rintro e w7 ⟨v2, rfl, hs2, hl1⟩
                    replace hv1 : WB w7 bv gk := Row.later hv1 hl1
                    replace hv2 : WB w7 bw gk := Row.later hv2 hl1
                    replace hs1 := hs1.later hl1
                    replace hlr := hlr.trans hl1
                    clear hl1
                    go_wp2_with fail
                    refine (same_ints v1 v2 _ _ hs1 hs2 q1).mono ?_
                    rintro e w8 ⟨rfl, hl1⟩
                    replace hv1 : WB w8 bv gk := Row.later hv1 hl1
                    replace hv2 : WB w8 bw gk := Row.later hv2 hl1
                    replace hlr := hlr.trans hl1
                    clear hl1 hs1 hs2
                    go_wp2_with fail
                    refine (tick_any bv gk _ hv1 (by omega) (by omega)).mono ?_
                    rintro e w9 ⟨v3, rfl, hf3, hw3, hg3⟩
                    have hbl := hv2.lt
                    replace hv2 := hv2.grown hg3 (by simp; exact fun e => hne e.symm)
                    replace hlr := grown_later hlr hg3 hWv
                    clear hg3 hv1
                    go_wp2_with fail
                    refine (tick_any bw gk _ hv2 (by omega) (by omega)).mono ?_
                    rintro e w10 ⟨v4, rfl, hf4, hw4, hg4⟩
                    have hs3 := hf3.grown hg4 hbl
                    replace hw3 := hw3.grown hg4 (by simp; exact hne)
                    replace hlr := grown_later hlr hg4 hWw
                    clear hg4 hv2 hf3
                    go_wp2_with fail
                    refine (same_ints v3 v4 _ _ hs3 hf4.1 q2).mono ?_
                    rintro e w11 ⟨rfl, hl1⟩
                    go_wp2_with fail
                    go_roundw
                    case rel => exact ⟨k + 1, by omega, by go_num, by rw [gs]; exact Row.later hw3 hl1, by rw [gs]; exact Row.later hw4 hl1, hlr.trans hl1⟩
                    case measure => simp [intOf]; omega
                  · obtain rfl : k = 30 := by omega
                    go_wp2_with fail
                    refine (now_any bv gk _ hv1 (by omega)).mono ?_
                    rintro e w6 ⟨rfl, hl1⟩
                    replace hv2 : WB w6 bw gk := Row.later hv2 hl1
                    go_wp2_with fail
                    refine (now_any bw gk _ hv2 (by omega)).mono ?_
                    rintro e w7 ⟨rfl, hl2⟩
                    go_wp2_with fail
                    go_ret
                    exact ⟨ret_bool (by simp), (hlr.trans hl1).trans hl2⟩
end Go.Proofs.Ytaaohfocegnlkaa
