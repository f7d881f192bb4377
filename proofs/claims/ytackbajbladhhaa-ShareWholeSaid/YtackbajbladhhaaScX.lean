/-
  Chapter 6's law SceneOrder: its walk.
-/
import Derived.BigQuiet
import Derived.Test.YtackbajbladhhaaScS
import Derived.Test.YtackbajbladhhaaScW
namespace Go.Proofs.Ytackbajbladhhaa
open Go.RowKit Go.Shelf
set_option linter.unusedVariables false
set_option linter.unusedSimpArgs false
attribute [local go_sem] Oper.semAt_some
attribute [-go_sem] Instr.buildSlice Builtin.append_
attribute [-simp] Try.sizeOf37 Try.typeInfo37 Try.sizeOf28 Try.typeInfo28

/-- The first objects of the scene turned round, cell by cell. -/
def revL (s : Scn) (k : Nat) : List Value := (s.os.reverse.take k).flatMap SObj.row
theorem revL_zero (s : Scn) : revL s 0 = [] := rfl
theorem revL_succ {s : Scn} {m : Nat} {x : SObj} (hm : m < s.os.length) (hx : s.os[m]? = some x) : revL s (s.os.length - m) = revL s (s.os.length - (m + 1)) ++ x.row := by
  have h1 : s.os.length - m = (s.os.length - (m + 1)) + 1 := by omega
  have h2 : s.os.reverse[s.os.length - (m + 1)]? = some x := by
    rw [List.getElem?_reverse (by omega), show s.os.length - 1 - (s.os.length - (m + 1)) = m by omega]; exact hx
  unfold revL
  rw [h1, List.take_add_one, h2, List.flatMap_append]
  simp
theorem later_own {X w w' : World} {base k size : Nat} {e : TypeId} {v : Value} {xs : List Value} (h : Later X w) (hr : w.ownsRow base e size v k xs) (hb : X.heap.size ≤ base) (hg : w.grownBy w' v.ownBlock) : Later X w' :=
  Later.of_grown (grown_none h.grown hg (fun r e' => Nat.le_trans hb (hr.lt r e').1))
theorem slice_row (x : SObj) (w : World) : (Instr.buildSlice 26 1 #[(0, .agg x.row.toArray)]).run Try.prog w = .ok (.slice (some ⟨w.heap.size, 0, none⟩) 1 1) (w.alloc (.cells x.row.toArray 37)) := by kernel_rfl
theorem flat_at : ∀ (L : List (List Value)), (∀ l ∈ L, l.length = 19) → ∀ k x, L[k]? = some x → ∀ j v, x[j]? = some v → (L.flatten)[k * 19 + j]? = some v
  | [], _, k, x, hx, _, _, _ => by simp at hx
  | l :: L, hl, 0, x, hx, j, v, hv => by
    obtain rfl : l = x := by simpa using hx
    rw [List.flatten_cons, Nat.zero_mul, Nat.zero_add, List.getElem?_append_left (List.getElem?_eq_some_iff.1 hv).1]
    exact hv
  | l :: L, hl, k + 1, x, hx, j, v, hv => by
    have h19 := hl l (List.mem_cons_self ..)
    rw [List.flatten_cons, List.getElem?_append_right (by omega), show (k + 1) * 19 + j - l.length = k * 19 + j by omega]
    exact flat_at L (fun l' h => hl l' (List.mem_cons_of_mem _ h)) k x (by simpa using hx) j v hv
theorem rev_ok {s : Scn} {w : World} {base n : Nat} {v : Value} (hn : s.os.length = n) (hx : ∀ x ∈ s.os, x.Ok w) (h : w.ownsRow base 37 19 v n (revL s n)) : (revS s v).Ok w := by
  refine ⟨?_, fun x hm => hx x (List.mem_reverse.1 hm)⟩
  have hl : (s.os.reverse.map SObj.row).length = n := by rw [List.length_map, List.length_reverse, hn]
  have e : revL s n = (s.os.reverse.map SObj.row).flatten := by
    unfold revL
    rw [List.take_of_length_le (by rw [List.length_reverse, hn]; exact Nat.le_refl _), List.flatMap_def]
  rw [e] at h
  rcases h.2 with ⟨rfl, h0⟩ | ⟨g, cap, cur, rfl, _, hb, hc, _, _, _⟩
  · exact ⟨none, 0, by show Value.slice none 0 0 = .slice none (s.os.reverse.map SObj.row).length 0; rw [hl, h0], ⟨by show (s.os.reverse.map SObj.row).length ≤ 0; omega, fun _ => rfl⟩, fun k x hk => by
      have := (List.getElem?_eq_some_iff.1 hk).1
      have h2 : k < (s.os.reverse.map SObj.row).length := this
      omega⟩
  · refine ⟨some ⟨g, 0, none⟩, cap, by show Value.slice (some ⟨g, 0, none⟩) n cap = .slice (some ⟨g, 0, none⟩) (s.os.reverse.map SObj.row).length cap; rw [hl], ⟨by show (s.os.reverse.map SObj.row).length ≤ cap; omega, fun e => by cases e⟩, fun k x hk => ⟨g, 0, rfl, fun j u hu => ?_⟩⟩
    have hk2 : k < n := by
      have : k < (s.os.reverse.map SObj.row).length := (List.getElem?_eq_some_iff.1 hk).1
      omega
    have hlx : ∀ l ∈ s.os.reverse.map SObj.row, l.length = 19 := fun l hl => by
      obtain ⟨y, _, rfl⟩ := List.mem_map.1 hl
      exact SObj.row_length y
    have hj : j < 19 := by rw [← hlx x (List.mem_of_getElem? hk)]; exact (List.getElem?_eq_some_iff.1 hu).1
    have h3 := flat_at _ hlx k x hk j u hu
    have h4 := h.cellAt (k * 19 + j) (by omega)
    rw [h3] at h4
    rw [Nat.zero_add]
    exact h4
theorem row_one_of (s : Scn) {w : World} (h : s.Ok w) : s.row.toArray.all (·.oneCell') = true := by
  obtain ⟨ao, cap, hu⟩ := h.1.form
  exact scn_one s (by rw [hu]; rfl)
set_option maxRecDepth 100000 in
set_option maxHeartbeats 4000000 in
theorem order_any (s : Scn) (W : World) (hs : s.Ok W) :
    Calls Try.prog 4 #[s.V] W fun e w' => e = .returned (.bool true) ∧ Later W w' := by
  have hal := Lib.hid (fun W => alive_any W)
  obtain ⟨n19, hn19⟩ : ∃ n, Hid ((19 : Nat) = n) := ⟨_, rfl⟩
  have hsz19 : ∀ w, (sizeOf 37).run Try.prog w = .ok n19 w := fun w => by rw [← hn19.out]; kernel_rfl
  obtain ⟨X, hX⟩ : ∃ X, X = W.alloc (.cells s.row.toArray 28) := ⟨_, rfl⟩
  have hlX : Later W X := by rw [hX]; exact (Later.refl W).alloc _
  have kS : ScnB X W.heap.size s := by rw [hX]; exact heap_alloc_new _ _
  have hss : (Try.prog.info? 28).map (·.size) = some s.row.toArray.size := size_scn' s
  obtain ⟨ao, cap, hu⟩ := hs.1.form
  rw [List.length_map] at hu
  obtain ⟨n, hn⟩ : ∃ n, Hid (s.os.length = n) := ⟨_, rfl⟩
  rw [hn.out] at hu
  have hu := Lib.hid hu
  obtain ⟨P, hP⟩ : ∃ P, Hid (W.heap.size = P) := ⟨_, rfl⟩
  go_enter Try.func4, Try.ntmps4
  go_upto_region 1 with fail
  rw [← hX]
  clear hX
  rw [hP.out] at kS ⊢
  go_wp2_with fail
  refine (hal.out _).mono ?_
  rintro e w1 ⟨rfl, hl1⟩
  have kS1 := hl1.row kS
  have so := ScnB.uo kS1
  rw [hu.out] at so
  by_cases h20 : 20 < n
  · have hgt : ((20 : Int) < n) := by omega
    go_wp2_with fail
    go_ret
    exact ⟨rfl, hlX.trans hl1⟩
  · have hgt : ¬ ((20 : Int) < n) := by omega
    have hgt2 : ((n : Int) ≤ 20) := by omega
    have hnew := heap_alloc_new w1 (.cells #[.int .i64 0, .int .i64 0, .int .i64 0, .int .i64 0, .int .i64 0, .int .i64 0, .int .i64 0, .int .i64 0, .int .i64 0, .int .i64 0, .int .i64 0, .int .i64 0, .int .i64 0, .int .i64 0, .int .i64 0, .int .i64 0, .int .i64 0, .int .i64 0, .slice none 0 0] 28)
    have hz2 : (#[.int .i64 0, .int .i64 0, .int .i64 0, .int .i64 0, .int .i64 0, .int .i64 0, .int .i64 0, .int .i64 0, .int .i64 0, .int .i64 0, .int .i64 0, .int .i64 0, .int .i64 0, .int .i64 0, .int .i64 0, .int .i64 0, .int .i64 0, .int .i64 0, .slice none 0 0] : Array Value).size = s.row.toArray.size := by rw [show s.row.toArray.size = 19 from by rw [List.size_toArray, Scn.row_length]]; rfl
    have hz1 := row_one_of s hs
    obtain ⟨X2, hX2⟩ : ∃ X, X = w1.alloc (.cells s.row.toArray 28) := ⟨_, rfl⟩
    have hl2 : Later w1 X2 := by rw [hX2]; exact (Later.refl w1).alloc _
    have kQ : ScnB X2 w1.heap.size s := by rw [hX2]; exact heap_alloc_new _ _
    have hQs : Hid (X2.heap.size = w1.heap.size + 1) := Lib.hid (by rw [hX2]; exact World.size_alloc _ _)
    go_upto_region 5 with (first | refine wpList_load_row rfl _ _ rfl P rfl _ _ (0, 0) _ kS1 Try.underlying28 rfl hss ?_ | refine wpList_store_row rfl 28 _ _ rfl w1.heap.size s.row.toArray rfl rfl 28 #[.int .i64 0, .int .i64 0, .int .i64 0, .int .i64 0, .int .i64 0, .int .i64 0, .int .i64 0, .int .i64 0, .int .i64 0, .int .i64 0, .int .i64 0, .int .i64 0, .int .i64 0, .int .i64 0, .int .i64 0, .int .i64 0, .int .i64 0, .int .i64 0, .slice none 0 0] hnew hss hz2 hz1 ?_)
    rw [World.setRow_alloc_new, ← hX2]
    clear hX2 hnew hz2 hz1
    obtain ⟨Q, hQ⟩ : ∃ Q, Hid (w1.heap.size = Q) := ⟨_, rfl⟩
    have hPQ : Hid (P < Q) := Lib.hid (by rw [← hQ.out]; exact (Array.getElem?_eq_some_iff.1 kS1).1)
    rw [hQ.out] at kQ hQs ⊢
    have cq := ScnB.uo kQ
    rw [hu.out] at cq
    have fq := frozen_r kQ 18
    obtain ⟨Y, hY⟩ : ∃ Y, Y = X2.setCell ⟨Q, 18, none⟩ (.slice none 0 0) := ⟨_, rfl⟩
    have hlY : Later w1 Y := by rw [hY]; exact hl2.setCell (p := ⟨Q, 18, none⟩) (Nat.le_of_eq hQ.out) _
    have yQ : ScnB Y Q { s with uo := .slice none 0 0 } := by rw [hY]; exact heap_setC kQ
    have so2 := ScnB.uo (hlY.row kS1)
    rw [hu.out] at so2
    go_upto_region 6 with fail
    rw [← hY]
    clear hY cq fq kQ
    go_wp2_with fail
    go_loopw [5] (fun y wr => ∃ (m : Nat) (v : Value), m ≤ n ∧ y = .int .i64 ((m : Int) - 1) ∧ Later w1 wr ∧ ScnB wr Q { s with uo := v } ∧ wr.ownsRow (Q + 1) 37 19 v (n - m) (revL s (n - m))) (fun y _ => (intOf y + 1).toNat)
    case atStart => exact ⟨n, _, by omega, by go_num, hlY, yQ, by rw [Nat.sub_self]; exact World.ownsRow_nil ..⟩
    case round =>
      obtain ⟨m, v, hm, rfl, hl3, zQ, hrow⟩ := hrel
      obtain ⟨Z, rfl⟩ : ∃ wo : World, wo = wr := ⟨_, rfl⟩
      cases m with
      | zero =>
        have hneg : ¬ ((0 : Int) ≤ ((0 : Nat) : Int) - 1) := by omega
        rw [show (((0 : Nat) : Int) - 1) = -1 from rfl]
        have hrev : Hid ((revS s v).Ok Z) := Lib.hid (rev_ok hn.out (fun x hx => (hs.later ((hlX.trans hl1).trans hl3)).2 x hx) (by rw [Nat.sub_zero] at hrow; exact hrow))
        have zP := hl3.row kS1
        have hlZ := (hlX.trans hl1).trans hl3
        clear hrow
        obtain ⟨L, hL⟩ : ∃ L, Hid (srt (idL s) = L) := ⟨_, rfl⟩
        obtain ⟨m19, hm19⟩ : ∃ n, Hid ((19 : Nat) = n) := ⟨_, rfl⟩
        have hszS : ∀ w, (sizeOf 28).run Try.prog w = .ok m19 w := fun w => by rw [← hm19.out]; kernel_rfl
        obtain ⟨cs, hcs⟩ : ∃ cs, Hid (s.row = cs) := ⟨_, rfl⟩
        obtain ⟨ct, hct⟩ : ∃ cs, Hid ((revS s v).row = cs) := ⟨_, rfl⟩
        have hIs : Hid (∀ V, Later Z V → Calls Try.prog 14 #[.agg cs.toArray] V fun e w' => ∃ u, e = .returned u ∧ IntsV w' u L ∧ Later V w') := Lib.hid (fun V h => by
          rw [← hcs.out, ← hL.out]
          exact (ids_any s V (hs.later (hlZ.trans h)) (by rw [hn.out]; omega)).mono (by rintro e w' ⟨u, h1, h2, h3⟩; exact ⟨u, h1, h2.1, h3⟩))
        have hIt : Hid (∀ V, Later Z V → Calls Try.prog 14 #[.agg ct.toArray] V fun e w' => ∃ u, e = .returned u ∧ IntsV w' u L ∧ Later V w') := Lib.hid (fun V h => by
          rw [← hct.out, ← hL.out, ← rev_ids s v]
          exact (ids_any (revS s v) V (hrev.out.later h) (by show s.os.reverse.length ≤ 1000000; rw [List.length_reverse, hn.out]; omega)).mono (by rintro e w' ⟨u, h1, h2, h3⟩; exact ⟨u, h1, h2.1, h3⟩))
        have hlc : ∀ (b : Nat) (l : List Value) (w : World), l.length = 19 → w.rangeAt b 0 l → (loadCellsFrom ⟨b, 0, none⟩ 0 m19 #[]).run Try.prog w = .ok l.toArray w := fun b l w hl h => by
          rw [← hm19.out, ← hl]
          exact run_loadCells_list (P := Try.prog) w ⟨b, 0, none⟩ l (fun j v hv => by rw [Addr.add_mid]; exact h j v hv)
        have hlcP := fun w => hlc P cs w (by rw [← hcs.out]; exact s.row_length)
        have hlcQ := fun w => hlc Q ct w (by rw [← hct.out]; exact Scn.row_length _)
        have rP : Z.rangeAt P 0 cs := by rw [← hcs.out]; exact row_range zP
        have rQ : Z.rangeAt Q 0 ct := by rw [← hct.out]; exact row_range zQ
        have hS : Hid (∀ V, Later Z V → (Later Z V ∧ V.rangeAt P 0 cs ∧ V.rangeAt Q 0 ct)) := Lib.hid (fun V h => ⟨h, rangeAt_later rP h, rangeAt_later rQ h⟩)
        have hdZ : Later Z Z.drew := (Later.refl Z).drew
        clear hlc rP rQ
        go_wp2_with fail
        go_cut [6, 7] from 39 to 42 (fun u y wx => IntsV wx u L ∧ IntsV wx y L ∧ Later Z wx)
        case first =>
          go_region_held3 (fun V => Later Z V ∧ V.rangeAt P 0 cs ∧ V.rangeAt Q 0 ct) ((first | (with_reducible exact hS.out _ hdZ) | (with_reducible exact hS.out _ hL2) | (with_reducible exact hS.out _ hL1))) (first | (go_at_call 14; with_reducible refine (hIs.out _ hdZ).mono ?_; rintro e V1 ⟨va, rfl, hia, hLa⟩; have hL1 := hdZ.trans hLa) | (go_at_call 14; with_reducible refine (hIt.out _ hdZ).mono ?_; rintro e V1 ⟨vb, rfl, hib, hLa⟩; have hL1 := hdZ.trans hLa) | (go_at_call 14; with_reducible refine (hIs.out _ hL1).mono ?_; rintro e V2 ⟨va, rfl, hia, hLb⟩; have hL2 := hL1.trans hLb) | (go_at_call 14; with_reducible refine (hIt.out _ hL1).mono ?_; rintro e V2 ⟨vb, rfl, hib, hLb⟩; have hL2 := hL1.trans hLb))
          rename_i JJ KK hj hk hh
          refine hk _ _ (Met.intro (hj _ _ ?_))
          (repeat apply Exists.intro)
          exact ⟨⟨hia.later hLb, hib, hL2⟩, rfl⟩
        case rest =>
        obtain ⟨hi1, hi2, hl4⟩ := hcut
        have hLl : L.length = n := by
          rw [← hL.out]
          unfold srt
          rw [List.length_mergeSort]
          unfold idL
          rw [List.length_map]
          exact hn.out
        have hsrt : Hid (∀ j, j + 1 < n → L.getD j 0 ≤ L.getD (j + 1) 0) := Lib.hid (fun j hj => by
          rw [← hL.out]
          exact srt_at (by rw [hL.out, hLl]; exact hj))
        obtain ⟨a1, c1, rfl, hv1⟩ := hi1
        obtain ⟨a2, c2, rfl, hv2⟩ := hi2
        rw [hLl] at hv1 hv2 ⊢
        clear hLl
        have so5 := ScnB.uo (hl4.row zP)
        rw [hu.out] at so5
        have hC1 := Lib.hid (fun V (h : Later Z V) => check_scene s V (hs.later (hlZ.trans h)))
        have hC2 := Lib.hid (fun V (h : Later Z V) => check_scene (revS s v) V (hrev.out.later h))
        go_wp2_with fail
        go_loopw [58] (fun y wr => ∃ k : Nat, k ≤ n ∧ y = .int .i64 k ∧ Later wc wr) (fun y _ => (300 - intOf y).toNat)
        case atStart => exact ⟨0, by omega, rfl, Later.refl _⟩
        case round =>
          obtain ⟨k, hk, rfl, hl5⟩ := hrel
          obtain ⟨Y, rfl⟩ : ∃ wo : World, wo = wr := ⟨_, rfl⟩
          by_cases hkn : k < n
          · have hki : (k : Int) < n := by omega
            obtain ⟨g1, rfl, d1⟩ := hv1 k hkn
            obtain ⟨g2, rfl, d2⟩ := hv2 k hkn
            replace d1 := hl5.cell d1
            replace d2 := hl5.cell d2
            cases k with
            | zero =>
              go_upto_region 16 with fail
              go_quiet (fail)
              go_wp2_with fail
              go_roundw
              case rel => exact ⟨1, by omega, rfl, hl5.drewN _⟩
              case measure => simp [intOf]
            | succ i =>
              obtain ⟨_, e1, d3⟩ := hv1 i (by omega)
              injection e1 with e1
              injection e1 with e1
              subst e1
              replace d3 := hl5.cell d3
              have hle := hsrt.out i hkn
              obtain ⟨p, hp⟩ : ∃ z, Hid (L.getD i 0 = z) := ⟨_, rfl⟩
              obtain ⟨q, hq⟩ : ∃ z, Hid (L.getD (i + 1) 0 = z) := ⟨_, rfl⟩
              rw [hp.out] at d3 hle
              rw [hq.out] at d1 d2 hle
              have hng : ¬ q < p := by omega
              have hii : (i : Int) < n := by omega
              have hii1 : (i : Int) + 1 < n := by omega
              have hgt0 : (0 : Int) < (i : Int) + 1 := by omega
              go_upto_region 16 with fail
              go_quiet (fail)
              go_wp2_with fail
              go_roundw
              case rel => exact ⟨i + 1 + 1, by omega, by go_num, hl5.drewN _⟩
              case measure => simp [intOf]; omega
          · obtain rfl : k = n := by omega
            clear hsrt hv1 hv2
            obtain ⟨c, hc⟩ : ∃ c : Int, Hid ((if (wrongQ s).1 = 0 then (0 : Int) else 60) = c) := ⟨_, rfl⟩
            have hCs : Hid (∀ V, Later Z V → Calls Try.prog 10 #[.agg cs.toArray] V fun e w' => e = .returned (.int .i64 c) ∧ Later V w') := Lib.hid (fun V h => by
              rw [← hcs.out, ← hc.out]; exact hC1.out V h)
            have hCt : Hid (∀ V, Later Z V → Calls Try.prog 10 #[.agg ct.toArray] V fun e w' => e = .returned (.int .i64 c) ∧ Later V w') := Lib.hid (fun V h => by
              have h2 := hC2.out V h
              simp only [rev_zero] at h2
              rw [hc.out, Scn.V, hct.out] at h2
              exact h2)
            have hcc : (c == c) = true := by simp
            have hdY : Later Z Y.drew := (hl4.trans hl5).drew
            clear hC1 hC2
            go_upto_region 19 with fail
            go_region_held3 (fun V => Later Z V ∧ V.rangeAt P 0 cs ∧ V.rangeAt Q 0 ct) ((first | (with_reducible exact hS.out _ hdY) | (with_reducible exact hS.out _ hL2) | (with_reducible exact hS.out _ hL1))) (first | (go_at_call 10; with_reducible refine (hCs.out _ hdY).mono ?_; rintro e V1 ⟨rfl, hLa⟩; have hL1 := hdY.trans hLa) | (go_at_call 10; with_reducible refine (hCt.out _ hdY).mono ?_; rintro e V1 ⟨rfl, hLa⟩; have hL1 := hdY.trans hLa) | (go_at_call 10; with_reducible refine (hCs.out _ hL1).mono ?_; rintro e V2 ⟨rfl, hLb⟩; have hL2 := hL1.trans hLb) | (go_at_call 10; with_reducible refine (hCt.out _ hL1).mono ?_; rintro e V2 ⟨rfl, hLb⟩; have hL2 := hL1.trans hLb))
            go_wp2_with fail
            go_ret
            exact ⟨rfl, hlZ.trans hL2⟩
      | succ j =>
        have hj : (((j + 1 : Nat) : Int) - 1) = (j : Int) := by omega
        rw [hj]
        have hjn : j < n := by omega
        have hji : (j : Int) < n := by omega
        obtain ⟨x, hx⟩ : ∃ x, Hid (s.os[j]? = some x) := ⟨_, Lib.hid (List.getElem?_eq_getElem (by rw [hn.out]; exact hjn))⟩
        have hOk := hs.later ((hlX.trans hl1).trans hl3)
        have hrv := hOk.1
        rw [hu.out] at hrv
        obtain ⟨g, o, rfl, hrg⟩ := hrv.at (k := j) (x := x.row) (by rw [List.getElem?_map, hx.out]; rfl)
        have hxo := SObj.row_one (hOk.2 x (List.mem_of_getElem? hx.out))
        obtain ⟨ol, hol⟩ : ∃ ol, Hid (x.row = ol) := ⟨_, rfl⟩
        have hoL : ol.length = 19 := by rw [← hol.out]; exact SObj.row_length _
        rw [hol.out] at hrg hxo
        have hlc : (loadCellsFrom ⟨g, o + j * n19, none⟩ 0 n19 #[]).run Try.prog Z.drew = .ok ol.toArray Z.drew := by
          rw [← hn19.out, ← hoL]
          refine run_loadCells_list (P := Try.prog) _ ⟨g, o + j * ol.length, none⟩ ol (fun j' v hv => ?_)
          rw [Addr.add_mid, hoL]; exact hrg j' v hv
        have hbs : ∀ w, (Instr.buildSlice 26 1 #[(0, .agg ol.toArray)]).run Try.prog w = .ok (.slice (some ⟨w.heap.size, 0, none⟩) 1 1) (w.alloc (.cells ol.toArray 37)) := fun w => by
          rw [← hol.out]
          exact slice_row x w
        obtain ⟨V, hV⟩ : ∃ V, V = (Z.alloc (.cells ol.toArray 37)).drew := ⟨_, rfl⟩
        have hlV : Later Z V := by rw [hV]; exact ((Later.refl Z).alloc _).drew
        have hnewV : V.heap[Z.heap.size]? = some (.cells ol.toArray 37 (0, 0)) := by rw [hV]; exact heap_alloc_new _ _
        have hrowV : V.ownsRow (Q + 1) 37 19 v (n - (j + 1)) (revL s (n - (j + 1))) := by rw [hV]; exact (hrow.alloc _).drew
        have hQZ : Q + 1 ≤ Z.heap.size := (Array.getElem?_eq_some_iff.1 zQ).1
        obtain ⟨i37, hi37, hi1, hi2, z37, hz37, hz19⟩ : ∃ i, Try.prog.info? 37 = some i ∧ i.size = 19 ∧ i.bytes ≤ 1000 ∧ ∃ z, i.zero = some z ∧ z.cells.size = 19 := ⟨_, rfl, by kernel_rfl, by decide, _, rfl, by kernel_rfl⟩
        have hML : 2000000 < maxLen := by decide
        obtain ⟨v2, w2, hap, hr2, hg2, -⟩ := run_append_own (P := Try.prog) V (Q + 1) 26 26 37 i37 z37 19 i37.bytes Try.underlying26 hi37 hz37 hi1 rfl hz19 (by decide) v (n - (j + 1)) _ hrowV
          ⟨Z.heap.size, 0, none⟩ 1 1 ol (by rw [hoL]) (fun j' u hv => by rw [Addr.add_mid]; exact row_range hnewV j' u hv) hxo (by omega)
          (Nat.le_trans (Nat.mul_le_mul (show n - (j + 1) + 1 ≤ 20 by omega) hi2) (by decide)) (Nat.le_trans hQZ hlV.size)
        obtain ⟨a2, m2, c2, rfl⟩ : ∃ a2 m2 c2, v2 = .slice a2 m2 c2 := by
          rcases hr2.2 with ⟨rfl, _⟩ | ⟨g2, cp2, cur2, rfl, _⟩
          · exact ⟨_, _, _, rfl⟩
          · exact ⟨_, _, _, rfl⟩
        have hlw2 : Later w1 w2 := later_own (hl3.trans hlV) hrowV (by have := hQ.out; omega) hg2
        have zQ2 : ScnB w2 Q { s with uo := v } := (hg2.block Q (Array.getElem?_eq_some_iff.1 (hlV.row zQ)).1 (fun e => by have := (hrowV.lt Q e.symm).1; omega)).trans (hlV.row zQ)
        have c18 : Z.cell? ⟨Q, 18, none⟩ = some v := ScnB.uo zQ
        have so3 : Z.cell? ⟨P, 18, none⟩ = some (.slice (some ⟨g, o, none⟩) n cap) := by
          have := ScnB.uo (hl3.row kS1)
          rw [hu.out] at this
          exact this
        have c18b : V.cell? ⟨Q, 18, none⟩ = some v := hlV.cell c18
        have so4 : V.cell? ⟨P, 18, none⟩ = some (.slice (some ⟨g, o, none⟩) n cap) := hlV.cell so3
        have c18c : w2.cell? ⟨Q, 18, none⟩ = some v := ScnB.uo zQ2
        have f18 := frozen_r zQ2 18
        rw [hV] at hap c18b so4
        clear hV hnewV hrowV hi37 hi1 hi2 hz37 hz19 hrv hOk hxo hrow hML hoL
        replace zQ2 := Lib.hid zQ2
        replace hr2 := Lib.hid hr2
        go_upto_region 9 with fail
        go_region
        go_wp2_with fail
        go_roundw
        case rel =>
          refine ⟨j, .slice a2 m2 c2, by omega, by go_num, hlw2.setCell (p := ⟨Q, 18, none⟩) (Nat.le_of_eq hQ.out) _, heap_setC zQ2.out, ?_⟩
          have h5 := ownsRow_setCell_below hr2.out (a := ⟨Q, 18, none⟩) (show Q < Q + 1 by omega) (.slice a2 m2 c2)
          have h6 := revL_succ (s := s) (m := j) (x := x) (by rw [hn.out]; exact hjn) hx.out
          rw [hn.out] at h6
          rw [h6, hol.out, show n - j = n - (j + 1) + 1 by omega]
          exact h5
        case measure => simp [intOf]
end Go.Proofs.Ytackbajbladhhaa
