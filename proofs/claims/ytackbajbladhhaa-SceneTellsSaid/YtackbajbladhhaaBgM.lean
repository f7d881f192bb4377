/-
  The document's matrices: a product.
-/
import Derived.Test.YtackbajbladhhaaBgL
namespace Go.Proofs.Ytackbajbladhhaa
open Go.RowKit Go.Shelf
set_option linter.unusedVariables false
set_option linter.unusedSimpArgs false
attribute [local go_sem] Oper.semAt_some
attribute [-simp] Try.sizeOf167 Try.typeInfo167

theorem load_l16 {n16 : Nat} (hn : 16 = n16) {M : Nat} {l : List Value} (hl : l.length = 16) (w : World) (h : w.rangeAt M 0 l) : (loadCellsFrom ⟨M, 0, none⟩ 0 n16 #[]).run Try.prog w = .ok l.toArray w := by
  rw [← hn, ← hl]
  exact run_loadCells_list (P := Try.prog) w ⟨M, 0, none⟩ l (fun j v hv => by rw [Addr.add_mid]; exact h j v hv)
def mulYes (f g : Nat → Int) : Value := .tuple #[matV (mulQ f g), .int .i64 0]
def mulNo : Value := .tuple #[matV (fun _ => 0), .int .i64 30]
/-- A product's cells, as far as they are reckoned. -/
def mulP (f g : Nat → Int) (c r k : Nat) : Int := if k % 4 < c ∨ (k % 4 = c ∧ k / 4 < r) then mulQ f g k else 0
theorem mulP_set (f g : Nat → Int) (c r : Nat) (hc : c < 4) (hr : r < 4) : ∀ k, k < 16 → (if k = r * 4 + c then dotQ (rowOf f r) (colOf g c) else mulP f g c r k) = mulP f g c (r + 1) k := fun k hk => by
  unfold mulP
  by_cases h : k = r * 4 + c
  · subst h
    rw [if_pos rfl, if_pos (by omega)]
    unfold mulQ
    rw [show (r * 4 + c) / 4 = r by omega, show (r * 4 + c) % 4 = c by omega]
  · rw [if_neg h]
    by_cases h1 : k % 4 < c ∨ (k % 4 = c ∧ k / 4 < r)
    · rw [if_pos h1, if_pos (by omega)]
    · rw [if_neg h1, if_neg (by omega)]
theorem mulP_next (f g : Nat → Int) (c : Nat) (hc : c < 4) : ∀ k, k < 16 → mulP f g c 4 k = mulP f g (c + 1) 0 k := fun k hk => by
  unfold mulP
  by_cases h1 : k % 4 < c ∨ (k % 4 = c ∧ k / 4 < 4)
  · rw [if_pos h1, if_pos (by omega)]
  · rw [if_neg h1, if_neg (by omega)]
theorem mulP_all (f g : Nat → Int) : ∀ k, k < 16 → mulP f g 4 0 k = mulQ f g k := fun k hk => by
  unfold mulP; rw [if_pos (by omega)]
set_option maxRecDepth 100000 in
set_option maxHeartbeats 4000000 in
theorem mul3_any (f g : Nat → Int) (W : World) (ans : Value) (hy : mulMay f g → ans = mulYes f g) (hn : ¬ mulMay f g → ans = mulNo) :
    Calls Try.prog 41 #[matV f, matV g] W fun e w' => e = .returned ans ∧ Later W w' := by
  replace hy := Lib.hid hy
  replace hn := Lib.hid hn
  obtain ⟨X, hX⟩ : ∃ X, X = (((W.alloc (.cells (rowV 16 f) 25)).alloc (.cells (rowV 16 g) 25)).alloc (.cells #[.int .i64 0, .int .i64 0, .int .i64 0, .int .i64 0, .int .i64 0, .int .i64 0, .int .i64 0, .int .i64 0, .int .i64 0, .int .i64 0, .int .i64 0, .int .i64 0, .int .i64 0, .int .i64 0, .int .i64 0, .int .i64 0] 25)).alloc (.cells #[.int .i64 0, .int .i64 0, .int .i64 0, .int .i64 0, .int .i64 0, .int .i64 0, .int .i64 0, .int .i64 0, .int .i64 0, .int .i64 0, .int .i64 0, .int .i64 0, .int .i64 0, .int .i64 0, .int .i64 0, .int .i64 0] 25) := ⟨_, rfl⟩
  have hlX : Later W X := by rw [hX]; exact ((((Later.refl W).alloc _).alloc _).alloc _).alloc _
  have kM : matB X W.heap.size f := by rw [hX]; exact push_one (push_one (push_one (heap_alloc_new _ _) _) _) _
  have kG : matB X (W.heap.size + 1) g := by rw [hX]; exact push_one (push_one (push_new _ _ (by simp)) _) _
  have kR : matB X (W.heap.size + 1 + 1) (fun _ => 0) := by rw [hX]; exact push_one (push_new _ _ (by simp)) _
  have kO : matB X (W.heap.size + 1 + 1 + 1) (fun _ => 0) := by rw [hX]; exact push_new _ _ (by simp)
  have hXs : X.heap.size = W.heap.size + 4 := by rw [hX]; simp
  go_enter Try.func41, Try.ntmps41
  go_upto_region 2 with fail
  rw [← hX]
  clear hX
  replace hXs := Lib.hid hXs
  obtain ⟨N, hN⟩ : ∃ N, Hid (W.heap.size = N) := ⟨_, rfl⟩
  obtain ⟨G, hG⟩ : ∃ R, Hid (N + 1 = R) := ⟨_, rfl⟩
  obtain ⟨R, hR⟩ : ∃ R, Hid (G + 1 = R) := ⟨_, rfl⟩
  obtain ⟨O, hO⟩ : ∃ O, Hid (R + 1 = O) := ⟨_, rfl⟩
  have hNW : W.heap.size ≤ N := Nat.le_of_eq hN.out
  have hNG : N < G := by have := hG.out; omega
  have hGR : G < R := by have := hR.out; omega
  have hRO : R < O := by have := hO.out; omega
  rw [hN.out] at kM kG kR kO ⊢
  rw [hG.out] at kG kR kO ⊢
  rw [hR.out] at kR kO ⊢
  rw [hO.out] at kO ⊢
  clear hN hG hR hO hXs
  go_wp2_with fail
  go_loopw [7] (fun y wr => ∃ c : Nat, c ≤ 4 ∧ y = .int .i64 c ∧ Hid (∀ k, k < c → aplMay f (colOf g k)) ∧ matB wr O (mulP f g c 0) ∧ matB wr N f ∧ matB wr G g ∧ matB wr R (fun _ => 0) ∧ Later W wr) (fun y _ => (300 - intOf y).toNat)
  case atStart => exact ⟨0, by omega, rfl, Lib.hid (fun k hk => by omega), kO.ext (fun k hk => by unfold mulP; rw [if_neg (by omega)]), kM, kG, kR, hlX⟩
  case round =>
    clear kM kG kR kO hlX
    obtain ⟨c, hc, rfl, hall, kO, kM, kG, kR, hlW⟩ := hrel
    obtain ⟨wi, rfl⟩ : ∃ wo : World, wo = wr := ⟨_, rfl⟩
    by_cases hcN : c < 4
    · obtain ⟨x, ev, hAp, hxe⟩ : ∃ (x : Nat → Int) (ev : Int), Hid (∀ V, Calls Try.prog 66 #[matV f, vecV (colOf g c)] V fun e w' => e = .returned (.tuple #[vecV x, .int .i64 ev]) ∧ Later V w') ∧ Hid ((aplMay f (colOf g c) ∧ ev = 0 ∧ x = fun r => dotQ (rowOf f r) (colOf g c)) ∨ (¬ aplMay f (colOf g c) ∧ ev = 30)) := by
        by_cases hD : aplMay f (colOf g c)
        · exact ⟨_, _, Lib.hid (fun V => apply3_any f (colOf g c) V _ (fun _ => rfl) (fun h => absurd hD h)), Lib.hid (Or.inl ⟨hD, rfl, rfl⟩)⟩
        · exact ⟨_, _, Lib.hid (fun V => apply3_any f (colOf g c) V _ (fun h => absurd h hD) (fun _ => rfl)), Lib.hid (Or.inr ⟨hD, rfl⟩)⟩
      have hci : (c : Int) < 4 := by omega
      obtain ⟨n16, hn16⟩ : ∃ n, Hid ((16 : Nat) = n) := ⟨_, rfl⟩
      have hsz : ∀ w, (sizeOf 25).run Try.prog w = .ok n16 w := fun w => by rw [← hn16.out]; kernel_rfl
      obtain ⟨lf, hlf⟩ : ∃ l, Hid ((rowV 16 f).toList = l) := ⟨_, rfl⟩
      have lenf : lf.length = 16 := by rw [← hlf.out, Array.length_toList]; exact rowV_size _ _
      have arf : rowV 16 f = lf.toArray := by rw [← hlf.out]
      have hlc : ∀ w : World, w.rangeAt N 0 lf → (loadCellsFrom ⟨N, 0, none⟩ 0 n16 #[]).run Try.prog w = .ok lf.toArray w := fun w => load_l16 hn16.out lenf w
      obtain ⟨lx, hlx⟩ : ∃ l, Hid ([Value.int .i64 (x 0), .int .i64 (x 1), .int .i64 (x 2), .int .i64 (x 3)] = l) := ⟨_, rfl⟩
      have lenx : lx.length = 4 := by rw [← hlx.out]; rfl
      have arx : vecV x = .agg lx.toArray := by rw [← hlx.out]
      have onex : lx.toArray.all (·.oneCell') = true := by rw [← hlx.out, ← Array.all_toList]; rfl
      unfold matV at hAp
      rw [arf, arx] at hAp
      have hst : Hid (∀ (U : World) (b : Nat), U.heap[b]? = some (.cells #[.int .i64 0, .int .i64 0, .int .i64 0, .int .i64 0] 23 (0, 0)) → (storeCells ⟨b, 0, none⟩ lx).run Try.prog U = .ok () (U.setRow b lx.toArray)) := Lib.hid (fun U b h => store_roww (arr := lx.toArray) h (by rw [List.size_toArray, List.size_toArray, lenx]; rfl) onex)
      have hw1 : Hid ((wi.drew.alloc (.cells #[.int .i64 0, .int .i64 0, .int .i64 0, .int .i64 0] 23)).heap[wi.heap.size]? = some (.cells #[.int .i64 0, .int .i64 0, .int .i64 0, .int .i64 0] 23 (0, 0))) := Lib.hid (heap_alloc_new wi.drew _)
      have hw3 : Hid ((wi.alloc (.cells #[.int .i64 0, .int .i64 0, .int .i64 0, .int .i64 0] 23)).drew.heap[wi.heap.size]? = some (.cells #[.int .i64 0, .int .i64 0, .int .i64 0, .int .i64 0] 23 (0, 0))) := Lib.hid (heap_alloc_new wi _)
      have rN : wi.rangeAt N 0 lf := row_rang (by have := kM; unfold matB Row at this; rw [arf] at this; exact this)
      have c0 : wi.cell? ⟨G, c, none⟩ = some (.int .i64 (colOf g c 0)) := by have := kG.cell (k := c) (by omega); rw [show colOf g c 0 = g c from by unfold colOf; rw [Nat.zero_mul, Nat.zero_add]]; exact this
      have c1 : wi.cell? ⟨G, 4 + c, none⟩ = some (.int .i64 (colOf g c 1)) := kG.cell (k := 4 + c) (by omega)
      have c2 : wi.cell? ⟨G, 8 + c, none⟩ = some (.int .i64 (colOf g c 2)) := kG.cell (k := 8 + c) (by omega)
      have c3 : wi.cell? ⟨G, 12 + c, none⟩ = some (.int .i64 (colOf g c 3)) := kG.cell (k := 12 + c) (by omega)
      have hS : Hid (∀ Z, Later wi Z → (Z.rangeAt N 0 lf ∧ Z.cell? ⟨G, c, none⟩ = some (.int .i64 (colOf g c 0)) ∧ Z.cell? ⟨G, 4 + c, none⟩ = some (.int .i64 (colOf g c 1)) ∧ Z.cell? ⟨G, 8 + c, none⟩ = some (.int .i64 (colOf g c 2)) ∧ Z.cell? ⟨G, 12 + c, none⟩ = some (.int .i64 (colOf g c 3)))) := Lib.hid (fun U h => ⟨rangeAt_latr rN h, h.cell c0, h.cell c1, h.cell c2, h.cell c3⟩)
      have hdZ : Later wi wi.drew := (Later.refl wi).drew
      have hdA : Hid (Later wi ((wi.alloc (.cells #[.int .i64 0, .int .i64 0, .int .i64 0, .int .i64 0] 23)).drew)) := Lib.hid ((Later.refl wi).alloc _).drew
      clear onex hlf lenf arf rN c0 c1 c2 c3
      go_upto_region 5 with fail
      go_cut [8, 9] from 16 to 37 (fun u8 u9 wx => ∃ V, u8 = .pointer (some ⟨V, 0, none⟩) ∧ u9 = .int .i64 ev ∧ wx.heap[V]? = some (.cells lx.toArray 23 (0, 0)) ∧ wi.heap.size ≤ V ∧ Later wi wx)
      case first =>
        go_region_held3 (fun Z => (Z.rangeAt N 0 lf ∧ Z.cell? ⟨G, c, none⟩ = some (.int .i64 (colOf g c 0)) ∧ Z.cell? ⟨G, 4 + c, none⟩ = some (.int .i64 (colOf g c 1)) ∧ Z.cell? ⟨G, 8 + c, none⟩ = some (.int .i64 (colOf g c 2)) ∧ Z.cell? ⟨G, 12 + c, none⟩ = some (.int .i64 (colOf g c 3)))) (first | exact hS.out _ (by first | exact hdZ | exact hdZ.alloc _ | exact hdA.out | exact hdA.out.alloc _) | exact hS.out _ (by first | exact hK1 | exact hK1.alloc _) | exact hS.out _ ((hK1.alloc _).setRow s1 _) | exact hS.out _ (hK1.setRow (Nat.le_refl _) _)) (first | (go_at_call 66; refine (hAp.out _).mono ?_; rintro e V1 ⟨rfl, hLa⟩; have hK1 : Later wi V1 := Later.trans (by first | exact hdZ | exact hdZ.alloc _ | exact hdA.out | exact hdA.out.alloc _) hLa; have s1 := hK1.size; have hst3 := hst.out (V1.alloc (.cells #[.int .i64 0, .int .i64 0, .int .i64 0, .int .i64 0] 23)) V1.heap.size (heap_alloc_new _ _); (try have kz1 : V1.heap[wi.heap.size]? = some (.cells #[.int .i64 0, .int .i64 0, .int .i64 0, .int .i64 0] 23 (0, 0)) := hLa.row (by first | exact hw1.out | exact hw3.out)); (try have hst4 := hst.out V1 wi.heap.size kz1)))
        all_goals
          rename_i JJ KK hj hk hh
          refine hk _ _ (Met.intro (hj _ _ ?_))
          (repeat apply Exists.intro)
          first
            | exact ⟨⟨_, rfl, rfl, setRow_heap _ _ _ _ _ _ (heap_alloc_new _ _), s1, (hK1.alloc _).setRow s1 _⟩, rfl⟩
            | exact ⟨⟨_, rfl, rfl, setRow_heap _ _ _ _ _ _ kz1, Nat.le_refl _, hK1.setRow (Nat.le_refl _) _⟩, rfl⟩
            | trace_state
      case rest =>
      obtain ⟨V, rfl, rfl, hV, hVs, hlg⟩ := hcut
      have hOV : O < V := by have := kO.lt; omega
      clear hVs
      replace hV : wc.heap[V]? = some (.cells #[.int .i64 (x 0), .int .i64 (x 1), .int .i64 (x 2), .int .i64 (x 3)] 23 (0, 0)) := by rw [hV, ← hlx.out]
      have kV : vecB wc V 23 x := hV
      replace kO := Row.later kO hlg
      replace kM := Row.later kM hlg
      replace kG := Row.later kG hlg
      replace kR := Row.later kR hlg
      have hlW2 := hlW.trans hlg
      clear hsz hlc hst hw1 hw3 hS hAp hdA hdZ hV lenx arx hlx hn16 hlW hlg
      rcases hxe.out with ⟨hD, rfl, rfl⟩ | ⟨hD, rfl⟩
      · have hall2 : Hid (∀ k, k < c + 1 → aplMay f (colOf g k)) := Lib.hid (fun k hk => by
          by_cases e : k = c
          · rw [e]; exact hD
          · exact hall.out k (by omega))
        replace hD := Lib.hid hD
        clear hall hxe
        obtain ⟨d, hd⟩ : ∃ d : Nat → Int, Hid ((fun r => dotQ (rowOf f r) (colOf g c)) = d) := ⟨_, rfl⟩
        rw [hd.out] at kV
        go_wp2_with fail
        go_loopw [10] (fun y wr => ∃ r : Nat, r ≤ 4 ∧ y = .int .i64 r ∧ matB wr O (mulP f g c r) ∧ matB wr N f ∧ matB wr G g ∧ matB wr R (fun _ => 0) ∧ vecB wr V 23 d ∧ Later W wr) (fun y _ => (300 - intOf y).toNat)
        case atStart => exact ⟨0, by omega, rfl, kO, kM, kG, kR, kV, hlW2⟩
        case round =>
          clear kM kG kR kO kV hlW2
          obtain ⟨r, hr, rfl, kO, kM, kG, kR, kV, hlW⟩ := hrel
          obtain ⟨wi, rfl⟩ : ∃ wo : World, wo = wr := ⟨_, rfl⟩
          by_cases hrN : r < 4
          · have cx : wi.cell? ⟨V, r, none⟩ = some (.int .i64 (d r)) := by have := four_of_box kV r hrN; rwa [Nat.zero_add] at this
            have co := kO.cell (k := r * 4 + c) (by omega)
            have cf := kO.frozen (r * 4 + c)
            have hri : (r : Int) < 4 := by omega
            go_upto_region 11 with fail
            go_region
            have kOs := Row.later (Row.ext (g := mulP f g c (r + 1)) (Row.set kO (k := r * 4 + c) (by omega) (d r)) (fun k hk => by rw [← hd.out]; exact mulP_set f g c r hcN hrN k hk)) (drew_later _)
            have kMs : matB (wi.setCell ⟨O, r * 4 + c, none⟩ (.int .i64 (d r))).drew N f := Row.later (W := wi.setCell ⟨O, r * 4 + c, none⟩ (.int .i64 (d r))) ((Below.heap_setCell _ _ _ _ (by show N ≠ O; omega)).trans kM) (drew_later _)
            have kGs : matB (wi.setCell ⟨O, r * 4 + c, none⟩ (.int .i64 (d r))).drew G g := Row.later (W := wi.setCell ⟨O, r * 4 + c, none⟩ (.int .i64 (d r))) ((Below.heap_setCell _ _ _ _ (by show G ≠ O; omega)).trans kG) (drew_later _)
            have kRs : matB (wi.setCell ⟨O, r * 4 + c, none⟩ (.int .i64 (d r))).drew R (fun _ => 0) := Row.later (W := wi.setCell ⟨O, r * 4 + c, none⟩ (.int .i64 (d r))) ((Below.heap_setCell _ _ _ _ (by show R ≠ O; omega)).trans kR) (drew_later _)
            have kVs : vecB (wi.setCell ⟨O, r * 4 + c, none⟩ (.int .i64 (d r))).drew V 23 d := (drew_later _).row ((Below.heap_setCell _ _ _ _ (by show V ≠ O; omega)).trans kV)
            go_wp2_with fail
            go_roundw
            case rel =>
              exact ⟨r + 1, by omega, by go_num, kOs, kMs, kGs, kRs, kVs, (hlW.setCell (by show W.heap.size ≤ O; omega) _).trans (drew_later _)⟩
            case measure => simp [intOf]; omega
          · obtain rfl : r = 4 := by omega
            go_wp2_with fail
            go_roundw
            case rel => exact ⟨c + 1, by omega, by go_num, hall2, Row.ext kO (mulP_next f g c hcN), kM, kG, kR, hlW⟩
            case measure => simp [intOf]; omega
      · have hno : Hid (ans = mulNo) := Lib.hid (hn.out (fun h => hD (h c hcN)))
        clear hD hy hn hall hxe kV kO kM kG
        have hs16 : (Try.prog.info? 25).map (·.size) = some (16 : Nat) := by kernel_rfl
        have hz1 : (#[.int .i64 0, .int .i64 0, .int .i64 0, .int .i64 0, .int .i64 0, .int .i64 0, .int .i64 0, .int .i64 0, .int .i64 0, .int .i64 0, .int .i64 0, .int .i64 0, .int .i64 0, .int .i64 0, .int .i64 0, .int .i64 0] : Array Value).all (·.oneCell') = true := by rw [← Array.all_toList]; rfl
        have hz2 : (rowV 16 (fun _ => 0)).size = (#[.int .i64 0, .int .i64 0, .int .i64 0, .int .i64 0, .int .i64 0, .int .i64 0, .int .i64 0, .int .i64 0, .int .i64 0, .int .i64 0, .int .i64 0, .int .i64 0, .int .i64 0, .int .i64 0, .int .i64 0, .int .i64 0] : Array Value).size := rowV_size _ _
        go_wp2_with (refine wpList_store_row rfl 25 _ _ rfl R #[.int .i64 0, .int .i64 0, .int .i64 0, .int .i64 0, .int .i64 0, .int .i64 0, .int .i64 0, .int .i64 0, .int .i64 0, .int .i64 0, .int .i64 0, .int .i64 0, .int .i64 0, .int .i64 0, .int .i64 0, .int .i64 0] rfl rfl 25 (rowV 16 (fun _ => 0)) kR hs16 hz2 hz1 ?_)
        have kZ : matB (wc.setRow R #[.int .i64 0, .int .i64 0, .int .i64 0, .int .i64 0, .int .i64 0, .int .i64 0, .int .i64 0, .int .i64 0, .int .i64 0, .int .i64 0, .int .i64 0, .int .i64 0, .int .i64 0, .int .i64 0, .int .i64 0, .int .i64 0]) R (fun _ => 0) := setRow_heap _ _ _ _ _ _ kR
        have hload := load_mat kZ
        refine bodyPost_ret (v := .tuple #[matV (fun _ => 0), .int .i64 30]) (results_cell2 (a := 4) (b := 5) (t := 25) (by kernel_rfl) _ rfl hload) rfl ⟨by rw [hno.out]; rfl, hlW2.setRow (by omega) _⟩
    · obtain rfl : c = 4 := by omega
      have hyes : Hid (ans = mulYes f g) := Lib.hid (hy.out hall.out)
      replace kO := Row.ext kO (mulP_all f g)
      clear hy hn hall
      go_wp2_with (first | refine wpList_load_row rfl _ _ rfl O rfl _ _ (0, 0) _ kO Try.underlying25 rfl (size_mat _) ?_ | refine wpList_store_row rfl 25 _ _ rfl R (rowV 16 (mulQ f g)) rfl rfl 25 (rowV 16 (fun _ => 0)) kR (size_mat _) (by rw [rowV_size, rowV_size]) (rowV_one 16 _) ?_)
      have kZ : matB (wi.setRow R (rowV 16 (mulQ f g))) R (mulQ f g) := setRow_heap _ _ _ _ _ _ kR
      have hload := load_mat kZ
      refine bodyPost_ret (v := .tuple #[matV (mulQ f g), .int .i64 0]) (results_cell2 (a := 4) (b := 5) (t := 25) (by kernel_rfl) _ rfl hload) rfl ⟨by rw [hyes.out]; rfl, hlW.setRow (by omega) _⟩
end Go.Proofs.Ytackbajbladhhaa
