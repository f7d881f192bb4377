/-
  Chapter 8: the document's answers: a node's objects; what changes hands; and Most of what may not be.
  Chapter 8's law ShareDeals: its walk.
-/
import Derived.Test.YtackbajbladhhaaGreatShS1
namespace Go.Proofs.YtackbajbladhhaaGreat
open Go.RowKit Go.Shelf
set_option linter.unusedVariables false
set_option linter.unusedSimpArgs false
attribute [local go_sem] Oper.semAt_some
attribute [-simp] Tryz.sizeOf123 Tryz.typeInfo123 Tryz.sizeOf28 Tryz.typeInfo28

set_option maxRecDepth 100000 in
set_option maxHeartbeats 1000000 in
theorem most_no (s : Scn) (M : List Int) (v : Value) (W : World) (hs : s.Ok W) (hv : IntsO W v M) (hmay : mayQ s M = false) :
    Calls Tryz.prog 16 #[s.V, v] W fun e w' => e = .returned (.int .i64 0) ∧ Later W w' := by
  obtain ⟨X, hX⟩ : ∃ X, X = W.alloc (.cells s.row.toArray 28) := ⟨_, rfl⟩
  have hlX : Later W X := by rw [hX]; exact (Later.refl W).alloc _
  have kS : ScnB X W.heap.size s := by rw [hX]; exact heap_alloc_new _ _
  have hS2 := size_scn2 s
  have hAll := Lib.hid (all_no s M v X (hs.later hlX) (hv.later hlX) hmay)
  obtain ⟨ao, mc, rfl⟩ := (show ∃ ao cap, v = .slice ao M.length cap by obtain ⟨ao, cap, rfl, _⟩ := hv; exact ⟨ao, cap, rfl⟩)
  clear hmay hv
  go_enter Tryz.func16, Tryz.ntmps16
  go_upto_region 1 with fail
  rw [← hX]
  clear hX
  go_wp2_with (refine wpList_load_row rfl _ _ rfl W.heap.size rfl _ _ (0, 0) _ kS Tryz.underlying28 rfl hS2 ?_)
  refine hAll.out.mono ?_
  rintro e w1 ⟨rfl, h1⟩
  clear hAll kS
  go_wp2_with fail
  refine wp_loop_rounds 1 ?_
  rw [rounds_succ]
  go_wp2_with fail
  go_ret
  exact ⟨rfl, hlX.trans h1⟩
theorem row_lat {w w' : World} {base e k : Nat} {v : Value} {xs : List Value} (hr : w.ownsRow base e 1 v k xs) (h : Later w w') : w'.ownsRow base e 1 v k xs := hr.kept h.grown (Classical.em _)
def inK (M : List Int) (x : Int) (k : Nat) : Bool := (M.take k).contains x
theorem inK_succ {M : List Int} {x : Int} {k : Nat} (hk : k < M.length) : inK M x (k + 1) = (inK M x k || M.getD k 0 == x) := by
  unfold inK
  rw [getD_take_snoc hk]
  have h : ∀ (L : List Int) (y : Int), (L ++ [y]).contains x = (L.contains x || y == x) := by
    intro L y
    induction L with
    | nil => rw [List.nil_append, List.contains_cons]; simp [Bool.beq_comm (a := x)]
    | cons z r ih =>
      rw [List.cons_append, List.contains_cons, List.contains_cons, ih, Bool.or_assoc]
  exact h _ _
theorem inK_all {M : List Int} {x : Int} {n : Nat} (h : M.length = n) : inK M x n = M.contains x := by unfold inK; rw [List.take_of_length_le (by omega)]
set_option maxRecDepth 100000 in
set_option maxHeartbeats 2000000 in
theorem rof_no (s : Scn) (M : List Int) (v : Value) (node : Int) (W : World) (hs : s.Ok W) (hv : IntsO W v M) (hsm : SmallS s) (hlen : M.length ≤ 70) (hno : (mayQ s M && M.contains node) = false) :
    Calls Tryz.prog 8 #[s.V, v, .int .i64 node] W fun e w' => e = .returned (.tuple #[.slice none 0 0, .int .i64 80]) ∧ Later W w' := by
  obtain ⟨X, hX⟩ : ∃ X, X = W.alloc (.cells s.row.toArray 28) := ⟨_, rfl⟩
  have hlX : Later W X := by rw [hX]; exact (Later.refl W).alloc _
  have kS : ScnB X W.heap.size s := by rw [hX]; exact heap_alloc_new _ _
  have hS2 := size_scn2 s
  have hCk := Lib.hid (fun V (h : Later X V) => rcheck_any s V (hs.later (hlX.trans h)) hsm)
  have hM := Lib.hid (rmembers_any v M X (hv.later hlX) hlen)
  obtain ⟨b, hb⟩ : ∃ f, Hid (memB M = f) := ⟨_, rfl⟩
  obtain ⟨wq, hwq⟩ : ∃ f, Hid ((wrongQ s).1 = f) := ⟨_, rfl⟩
  obtain ⟨c, hc⟩ : ∃ c : Int, Hid ((if wq = 0 then 0 else 60) = c) := ⟨_, rfl⟩
  rw [hb.out] at hM
  rw [hwq.out, hc.out] at hCk
  have hv2 := hv
  obtain ⟨am, mc, rfl, hcells⟩ := hv2
  obtain ⟨m, hm⟩ : ∃ m, Hid (M.length = m) := ⟨_, rfl⟩
  rw [hm.out] at hM hcells hlen ⊢
  replace hcells := Lib.hid hcells
  have hcase : Hid (b = false ∨ (b = true ∧ c ≠ 0) ∨ (b = true ∧ c = 0 ∧ M.contains node = false)) := Lib.hid (by
    by_cases hbb : b = true
    · by_cases hw : wq = 0
      · refine Or.inr (Or.inr ⟨hbb, by rw [← hc.out, if_pos hw], ?_⟩)
        rw [may_of (hb.out.trans hbb) (hwq.out.trans hw), Bool.true_and] at hno
        exact hno
      · exact Or.inr (Or.inl ⟨hbb, by rw [← hc.out, if_neg hw]; decide⟩)
    · exact Or.inl (by simpa using hbb))
  clear hv hno hc
  go_enter Tryz.func8, Tryz.ntmps8
  go_upto_region 1 with fail
  rw [← hX]
  clear hX
  obtain ⟨N, hN⟩ : ∃ N, Hid (W.heap.size = N) := ⟨_, rfl⟩
  rw [hN.out] at kS ⊢
  go_wp2_with fail
  refine hM.out.mono ?_
  rintro e w1 ⟨rfl, hl1⟩
  have kS1 := hl1.row kS
  go_wp2_with (refine wpList_load_row rfl _ _ rfl N rfl _ _ (0, 0) _ kS1 Tryz.underlying28 rfl hS2 ?_)
  refine (hCk.out _ hl1).mono ?_
  rintro e w2 ⟨rfl, hl2⟩
  have kS2 : ScnB w2 N s := hl2.row kS1
  have hl12 := hlX.trans (hl1.trans hl2)
  clear hM hCk hl1 hl2 kS kS1
  go_wp2_with fail
  go_loopw [10, 11] (fun d y wr => ∃ k : Nat, k ≤ m ∧ y = .int .i64 k ∧ d = .bool (inK M node k) ∧ wr = w2) (fun _ y _ => (300 - intOf y).toNat)
  case atStart => exact ⟨0, by omega, rfl, rfl, rfl⟩
  case round =>
    obtain ⟨k, hk, rfl, rfl, rfl⟩ := hrel
    obtain ⟨wi, rfl⟩ : ∃ wo : World, wo = wr := ⟨_, rfl⟩
    obtain ⟨d, hd⟩ : ∃ d, Hid (inK M node k = d) := ⟨_, rfl⟩
    rw [hd.out]
    by_cases hkm : k < m
    · obtain ⟨g, o, rfl, cx0⟩ := hcells.out k hkm
      have cx := hl12.cell cx0
      obtain ⟨x, hx⟩ : ∃ x, Hid (M.getD k 0 = x) := ⟨_, rfl⟩
      rw [hx.out] at cx
      have hki : (k : Int) < m := by omega
      clear cx0
      by_cases hxn : x = node
      · have hdd : (x == node) = true := by simpa using hxn
        have h2 : Hid (inK M node (k + 1) = true) := Lib.hid (by rw [inK_succ (by rw [hm.out]; exact hkm), hx.out, hdd, Bool.or_true])
        clear hxn
        go_wp2_with fail
        go_roundw
        case rel => exact ⟨k + 1, by omega, by go_num, by rw [h2.out], by first | trivial | rfl⟩
        case measure => simp [intOf]; omega
      · have hdd : (x == node) = false := by simpa using hxn
        have h2 : Hid (inK M node (k + 1) = d) := Lib.hid (by rw [inK_succ (by rw [hm.out]; exact hkm), hx.out, hdd, Bool.or_false, hd.out])
        clear hxn
        go_wp2_with fail
        go_roundw
        case rel => exact ⟨k + 1, by omega, by go_num, by rw [h2.out], by first | trivial | rfl⟩
        case measure => simp [intOf]; omega
    · obtain rfl : k = m := by omega
      have hdc : Hid (d = M.contains node) := Lib.hid (by rw [← hd.out, inK_all hm.out])
      have hfin : Later W wi := hl12
      clear hcells kS2 hd
      rcases hcase.out with rfl | ⟨rfl, hc0⟩ | ⟨rfl, rfl, hcn⟩
      · go_wp2_with fail
        go_ret2
        exact ⟨rfl, hfin⟩
      · have hne : (c != 0) = true := by simpa using hc0
        clear hc0
        go_wp2_with fail
        go_ret2
        exact ⟨rfl, hfin⟩
      · have hd0 : Hid (d = false) := Lib.hid (by rw [hdc.out, hcn])
        clear hdc hcn
        obtain rfl := hd0.out
        go_wp2_with fail
        go_ret2
        exact ⟨rfl, hfin⟩
set_option maxRecDepth 100000 in
set_option maxHeartbeats 4000000 in
theorem rof_yes (s : Scn) (M : List Int) (v : Value) (node : Int) (W : World) (hs : s.Ok W) (hv : IntsO W v M) (hsm : SmallS s) (hlen : M.length ≤ 70) (hmay : mayQ s M = true) (hin : M.contains node = true) :
    Calls Tryz.prog 8 #[s.V, v, .int .i64 node] W fun e w' => ∃ u, e = .returned (.tuple #[u, .int .i64 0]) ∧ IntsF W.heap.size w' u (ofQ (srt (idL s)) M node) ∧ Later W w' := by
  obtain ⟨i0, hi, hz0, hz1, hz2⟩ := info_parts info_int
  have hML : 2000 < maxLen := by decide
  obtain ⟨hmem, hwr⟩ := may_parts hmay
  have hrise := ids_rise hwr
  obtain ⟨X, hX⟩ : ∃ X, X = W.alloc (.cells s.row.toArray 28) := ⟨_, rfl⟩
  have hlX : Later W X := by rw [hX]; exact (Later.refl W).alloc _
  have kS : ScnB X W.heap.size s := by rw [hX]; exact heap_alloc_new _ _
  have hS2 := size_scn2 s
  have hCk := Lib.hid (fun V (h : Later X V) => rcheck_any s V (hs.later (hlX.trans h)) hsm)
  have hM := Lib.hid (rmembers_any v M X (hv.later hlX) hlen)
  obtain ⟨b, hb⟩ : ∃ f, Hid (memB M = f) := ⟨_, rfl⟩
  obtain ⟨wq, hwq⟩ : ∃ f, Hid ((wrongQ s).1 = f) := ⟨_, rfl⟩
  obtain ⟨c, hc⟩ : ∃ c : Int, Hid ((if wq = 0 then 0 else 60) = c) := ⟨_, rfl⟩
  rw [hb.out] at hM
  rw [hwq.out, hc.out] at hCk
  have hv2 := hv
  obtain ⟨am, mc, rfl, hcells⟩ := hv2
  obtain ⟨m, hm⟩ : ∃ m, Hid (M.length = m) := ⟨_, rfl⟩
  rw [hm.out] at hM hcells hlen ⊢
  replace hcells := Lib.hid hcells
  obtain rfl : true = b := hmem.symm.trans hb.out
  obtain rfl : 0 = c := by rw [← hc.out, if_pos (hwq.out.symm.trans hwr)]
  have hWX : Hid (W.heap.size + 1 = X.heap.size) := Lib.hid (by rw [hX]; exact (World.size_alloc _ _).symm)
  have hids := Lib.hid (fun V (h : Later W V) => rids_any s V (hs.later h) hsm.1)
  have hOwn := Lib.hid (fun V id (h : Later W V) => rowner_any s M (.slice am M.length mc) id V (hs.later h) (hv.later h) hsm (by rw [hm.out]; exact hlen))
  rw [hm.out] at hOwn
  obtain ⟨I, hI⟩ : ∃ I, Hid (srt (idL s) = I) := ⟨_, rfl⟩
  have hIl : I.length = s.os.length := by rw [← hI.out]; exact ids_length s
  obtain ⟨n, hn⟩ : ∃ n, Hid (I.length = n) := ⟨_, rfl⟩
  have hn20 : n ≤ 20 := by rw [← hn.out, hIl]; exact hsm.1
  rw [hI.out] at hids hrise ⊢
  have hown : Hid (∀ i, i < n → ownE s M (I.getD i 0) = (ow M i, 0)) := Lib.hid (fun i hi => by
    unfold ownE
    rw [if_pos hmay, hI.out, ownQ_at hrise (by rw [hn.out]; exact hi), if_neg (by have := ow_may hmem i; omega)])
  have hofq : Hid (ofQ I M node = selN (fun i => ow M i == node) I n) := Lib.hid (by unfold ofQ; rw [hn.out])
  rw [hofq.out]
  clear hv hc hmay hmem hwr hrise hIl
  go_enter Tryz.func8, Tryz.ntmps8
  go_upto_region 1 with fail
  rw [← hX]
  clear hX
  obtain ⟨N, hN⟩ : ∃ N, Hid (W.heap.size = N) := ⟨_, rfl⟩
  rw [hN.out] at kS ⊢
  go_wp2_with fail
  refine hM.out.mono ?_
  rintro e w1 ⟨rfl, hl1⟩
  have kS1 := hl1.row kS
  go_wp2_with (refine wpList_load_row rfl _ _ rfl N rfl _ _ (0, 0) _ kS1 Tryz.underlying28 rfl hS2 ?_)
  refine (hCk.out _ hl1).mono ?_
  rintro e w2 ⟨rfl, hl2⟩
  have kS2 : ScnB w2 N s := hl2.row kS1
  have hl12 := hlX.trans (hl1.trans hl2)
  clear hM hCk hl1 hl2 kS kS1
  go_wp2_with fail
  go_loopw [10, 11] (fun d y wr => ∃ k : Nat, k ≤ m ∧ y = .int .i64 k ∧ d = .bool (inK M node k) ∧ wr = w2) (fun _ y _ => (300 - intOf y).toNat)
  case atStart => exact ⟨0, by omega, rfl, rfl, rfl⟩
  case round =>
    obtain ⟨k, hk, rfl, rfl, rfl⟩ := hrel
    obtain ⟨wi, rfl⟩ : ∃ wo : World, wo = wr := ⟨_, rfl⟩
    obtain ⟨d, hd⟩ : ∃ d, Hid (inK M node k = d) := ⟨_, rfl⟩
    rw [hd.out]
    by_cases hkm : k < m
    · obtain ⟨g, o, rfl, cx0⟩ := hcells.out k hkm
      have cx := hl12.cell cx0
      obtain ⟨x, hx⟩ : ∃ x, Hid (M.getD k 0 = x) := ⟨_, rfl⟩
      rw [hx.out] at cx
      have hki : (k : Int) < m := by omega
      clear cx0
      by_cases hxn : x = node
      · have hdd : (x == node) = true := by simpa using hxn
        have h2 : Hid (inK M node (k + 1) = true) := Lib.hid (by rw [inK_succ (by rw [hm.out]; exact hkm), hx.out, hdd, Bool.or_true])
        clear hxn
        go_wp2_with fail
        go_roundw
        case rel => exact ⟨k + 1, by omega, by go_num, by rw [h2.out], by first | trivial | rfl⟩
        case measure => simp [intOf]; omega
      · have hdd : (x == node) = false := by simpa using hxn
        have h2 : Hid (inK M node (k + 1) = d) := Lib.hid (by rw [inK_succ (by rw [hm.out]; exact hkm), hx.out, hdd, Bool.or_false, hd.out])
        clear hxn
        go_wp2_with fail
        go_roundw
        case rel => exact ⟨k + 1, by omega, by go_num, by rw [h2.out], by first | trivial | rfl⟩
        case measure => simp [intOf]; omega
    · obtain rfl : k = m := by omega
      have hdc : Hid (d = M.contains node) := Lib.hid (by rw [← hd.out, inK_all hm.out])
      obtain rfl : d = true := by rw [hdc.out]; exact hin
      clear hcells hd hdc hin
      go_wp2_with (refine wpList_load_row rfl _ _ rfl N rfl _ _ (0, 0) _ kS2 Tryz.underlying28 rfl hS2 ?_)
      refine (hids.out _ hl12).mono ?_
      rintro e w3 ⟨u, rfl, hu, hl3⟩
      obtain ⟨⟨bo, bc, rfl, hbc⟩, hF⟩ := hu
      rw [hn.out] at hbc ⊢
      replace hbc := Lib.hid hbc
      have kS3 : ScnB w3 N s := hl3.row kS2
      have hl13 := hl12.trans hl3
      clear hF hids kS2 hl3 hl12
      go_wp2_with fail
      go_loopw [12, 14] (fun z y wr => ∃ (i : Nat) (r : Value), i ≤ n ∧ y = .int .i64 i ∧ r = z ∧ Later w3 wr ∧ wr.ownsRow w3.heap.size 3 1 r (selN (fun i => ow M i == node) I i).length (encI (selN (fun i => ow M i == node) I i))) (fun _ y _ => (300 - intOf y).toNat)
      case atStart => exact ⟨0, _, by omega, rfl, rfl, Later.refl _, World.ownsRow_nil ..⟩
      case round =>
        obtain ⟨i, r, hin, rfl, rfl, hl, hrow⟩ := hrel
        obtain ⟨wj, rfl⟩ : ∃ wo : World, wo = wr := ⟨_, rfl⟩
        obtain ⟨l, hl0⟩ : ∃ l, Hid ((selN (fun i => ow M i == node) I i).length = l) := ⟨_, rfl⟩
        have hli : l ≤ i := by rw [← hl0.out]; exact selN_length _ _ _
        rw [hl0.out] at hrow
        have hn3 := hl.size
        have hlj := hl13.trans hl
        by_cases hiN : i < n
        · obtain ⟨gI, rfl, cI0⟩ := hbc.out i hiN
          have cI := hl.cell cI0
          obtain ⟨z, hz⟩ : ∃ z, Hid (I.getD i 0 = z) := ⟨_, rfl⟩
          obtain ⟨y, hy⟩ : ∃ y, Hid (ow M i = y) := ⟨_, rfl⟩
          rw [hz.out] at cI
          have hii : (i : Int) < n := by omega
          have kSj : ScnB wj N s := hl.row kS3
          obtain ⟨cs, hcs⟩ : ∃ cs, Hid (s.row = cs) := ⟨_, rfl⟩
          obtain ⟨n19, hn19⟩ : ∃ n, Hid ((19 : Nat) = n) := ⟨_, rfl⟩
          have hsz19 : ∀ w, (sizeOf 28).run Tryz.prog w = .ok n19 w := fun w => by rw [← hn19.out]; kernel_rfl
          have hlc : ∀ w : World, w.rangeAt N 0 cs → (loadCellsFrom ⟨N, 0, none⟩ 0 n19 #[]).run Tryz.prog w = .ok cs.toArray w := fun w h => by
            have hlen : cs.length = 19 := by rw [← hcs.out]; exact s.row_length
            rw [← hn19.out, ← hlen]
            exact run_loadCells_list (P := Tryz.prog) w ⟨N, 0, none⟩ cs (fun j v hv => by rw [Addr.add_mid]; exact h j v hv)
          have kr := row_range kSj
          rw [hcs.out] at kr
          have hdX : Later wj wj.drew := (Later.refl wj).drew
          have hO : Hid (∀ V, Later wj V → Calls Tryz.prog 6 #[.agg cs.toArray, .slice am k mc, .int .i64 z] V fun e w' => e = .returned (.tuple #[.int .i64 y, .int .i64 0]) ∧ Later V w') := Lib.hid (fun V h => by
            have h0 := hOwn.out V z (hlj.trans h)
            have h1 := hown.out i hiN
            rw [hz.out, hy.out] at h1
            rw [h1] at h0
            rw [← hcs.out]; exact h0)
          have hS : Hid (∀ Z, Later wj Z → (Later wj Z ∧ Z.rangeAt N 0 cs ∧ Z.cell? ⟨gI, i, none⟩ = some (.int .i64 z))) := Lib.hid (fun Z h => ⟨h, rangeAt_later kr h, h.cell cI⟩)
          clear cI0 kr
          go_upto_region 16 with fail
          go_region_held3 (fun Z => Later wj Z ∧ Z.rangeAt N 0 cs ∧ Z.cell? ⟨gI, i, none⟩ = some (.int .i64 z)) ((first | (with_reducible exact hS.out _ hdX) | (with_reducible exact hS.out _ hL1))) (first | (go_at_call 6; refine (hO.out _ hdX).mono ?_; rintro e V1 ⟨rfl, hL⟩; have hL1 : Later wj V1 := hdX.trans hL))
          clear hdX hS hO
          have cI1 := hL1.cell cI
          have hr1 : V1.ownsRow w3.heap.size 3 1 r l (encI (selN (fun i => ow M i == node) I i)) := row_lat hrow hL1
          have hn4 : w3.heap.size ≤ V1.heap.size := Nat.le_trans hn3 hL1.size
          by_cases hyn : y = node
          · have hdd : (y == node) = true := by simpa using hyn
            have h2 : Hid (selN (fun i => ow M i == node) I (i + 1) = selN (fun i => ow M i == node) I i ++ [z]) := Lib.hid (by rw [selN_hit (by rw [hy.out]; exact hdd), hz.out])
            clear hyn
            go_wp2_with (at_builtin; refine wpList_append_own _ rfl _ _ 29 rfl w3.heap.size 3 i0 (.int .i64 0) 1 8 Tryz.underlying29 hi hz0 hz1 hz2 rfl (by decide) r l _ rfl (hr1.alloc _) ⟨V1.heap.size, 0, none⟩ 1 1 [.int .i64 z] rfl rfl (World.news_of_block (heap_alloc_new _ _)) (by simp [Value.oneCell']) (by omega) (by omega) (by simp; omega) ?_; intro v2 w4 hr2 hg2 hn9)
            go_roundw
            case rel =>
              refine ⟨i + 1, _, by omega, by go_num, rfl, ?_, ?_⟩
              · exact later_row ((hl.trans hL1).alloc _) (hr1.alloc _) (Nat.le_refl _) hg2
              · rw [h2.out, List.length_append, hl0.out]
                unfold encI at hr2 ⊢
                rw [List.map_append]
                exact hr2
            case measure => simp [intOf]; omega
          · have hdd : (y == node) = false := by simpa using hyn
            have h2 : Hid (selN (fun i => ow M i == node) I (i + 1) = selN (fun i => ow M i == node) I i) := Lib.hid (by rw [selN_miss (by rw [hy.out]; exact hdd)])
            clear hyn
            go_wp2_with fail
            go_roundw
            case rel =>
              refine ⟨i + 1, _, by omega, by go_num, rfl, hl.trans hL1, ?_⟩
              rw [h2.out, hl0.out]
              exact hr1
            case measure => simp [intOf]; omega
        · obtain rfl : i = n := by omega
          have hXle : Hid (W.heap.size ≤ w3.heap.size) := Lib.hid hl13.size
          rw [← hl0.out] at hrow
          replace hrow := Lib.hid hrow
          go_wp2_with fail
          refine bodyPost_ret (results_tmp2 rfl _ _ _) rfl ?_
          exact ⟨_, rfl, intsF_of_row hrow.out hXle.out, hlj⟩
set_option maxRecDepth 100000 in
set_option maxHeartbeats 2000000 in
theorem rmov_no (s : Scn) (A B : List Int) (va vb : Value) (W : World) (hs : s.Ok W) (ha : IntsO W va A) (hb : IntsO W vb B) (hsm : SmallS s) (hla : A.length ≤ 70) (hlb : B.length ≤ 70) (hno : (mayQ s A && memB B) = false) :
    Calls Tryz.prog 10 #[s.V, va, vb] W fun e w' => e = .returned (.tuple #[.slice none 0 0, .int .i64 80]) ∧ Later W w' := by
  obtain ⟨X, hX⟩ : ∃ X, X = W.alloc (.cells s.row.toArray 28) := ⟨_, rfl⟩
  have hlX : Later W X := by rw [hX]; exact (Later.refl W).alloc _
  have kS : ScnB X W.heap.size s := by rw [hX]; exact heap_alloc_new _ _
  have hS2 := size_scn2 s
  have hCk := Lib.hid (fun V (h : Later X V) => rcheck_any s V (hs.later (hlX.trans h)) hsm)
  have hMA := Lib.hid (fun V (h : Later X V) => rmembers_any va A V (ha.later (hlX.trans h)) hla)
  have hMB := Lib.hid (fun V (h : Later X V) => rmembers_any vb B V (hb.later (hlX.trans h)) hlb)
  obtain ⟨p, hp⟩ : ∃ f, Hid (memB A = f) := ⟨_, rfl⟩
  obtain ⟨q, hq⟩ : ∃ f, Hid (memB B = f) := ⟨_, rfl⟩
  obtain ⟨wq, hwq⟩ : ∃ f, Hid ((wrongQ s).1 = f) := ⟨_, rfl⟩
  obtain ⟨c, hc⟩ : ∃ c : Int, Hid ((if wq = 0 then 0 else 60) = c) := ⟨_, rfl⟩
  rw [hp.out] at hMA
  rw [hq.out] at hMB
  rw [hwq.out, hc.out] at hCk
  have ha2 := ha
  obtain ⟨aa, ca, rfl, -⟩ := ha2
  have hb2 := hb
  obtain ⟨ab, cb, rfl, -⟩ := hb2
  obtain ⟨ma, hma⟩ : ∃ m, Hid (A.length = m) := ⟨_, rfl⟩
  obtain ⟨mb, hmb⟩ : ∃ m, Hid (B.length = m) := ⟨_, rfl⟩
  rw [hma.out] at hMA hla ⊢
  rw [hmb.out] at hMB hlb ⊢
  have hcase : Hid (p = false ∨ (p = true ∧ q = false) ∨ (p = true ∧ q = true ∧ c ≠ 0)) := Lib.hid (by
    by_cases hpp : p = true
    · by_cases hqq : q = true
      · refine Or.inr (Or.inr ⟨hpp, hqq, ?_⟩)
        by_cases hw : wq = 0
        · rw [may_of (hp.out.trans hpp) (hwq.out.trans hw), hq.out, hqq] at hno
          exact absurd hno (by decide)
        · rw [← hc.out, if_neg hw]; decide
      · exact Or.inr (Or.inl ⟨hpp, by simpa using hqq⟩)
    · exact Or.inl (by simpa using hpp))
  clear ha hb hno hc
  go_enter Tryz.func10, Tryz.ntmps10
  go_upto_region 1 with fail
  rw [← hX]
  clear hX
  obtain ⟨N, hN⟩ : ∃ N, Hid (W.heap.size = N) := ⟨_, rfl⟩
  rw [hN.out] at kS ⊢
  go_wp2_with fail
  refine (hMA.out _ (Later.refl _)).mono ?_
  rintro e w1 ⟨rfl, hl1⟩
  go_wp2_with fail
  refine (hMB.out _ hl1).mono ?_
  rintro e w2 ⟨rfl, hl2⟩
  have kS2 := (hl1.trans hl2).row kS
  go_wp2_with (refine wpList_load_row rfl _ _ rfl N rfl _ _ (0, 0) _ kS2 Tryz.underlying28 rfl hS2 ?_)
  refine (hCk.out _ (hl1.trans hl2)).mono ?_
  rintro e w3 ⟨rfl, hl3⟩
  have kS3 : ScnB w3 N s := hl3.row kS2
  have hl13 := hlX.trans ((hl1.trans hl2).trans hl3)
  clear hMA hMB hCk hl1 hl2 hl3 kS kS2
  rcases hcase.out with rfl | ⟨rfl, rfl⟩ | ⟨rfl, rfl, hc0⟩
  · go_wp2_with fail
    go_ret2
    exact ⟨rfl, hl13⟩
  · go_wp2_with fail
    go_ret2
    exact ⟨rfl, hl13⟩
  · have hne : (c != 0) = true := by simpa using hc0
    clear hc0
    go_wp2_with fail
    go_ret2
    exact ⟨rfl, hl13⟩
set_option maxRecDepth 100000 in
set_option maxHeartbeats 4000000 in
theorem rmov_yes (s : Scn) (A B : List Int) (va vb : Value) (W : World) (hs : s.Ok W) (ha : IntsO W va A) (hb : IntsO W vb B) (hsm : SmallS s) (hla : A.length ≤ 70) (hlb : B.length ≤ 70) (hmay : mayQ s A = true) (hB : memB B = true) :
    Calls Tryz.prog 10 #[s.V, va, vb] W fun e w' => ∃ u, e = .returned (.tuple #[u, .int .i64 0]) ∧ IntsF W.heap.size w' u (movQ (srt (idL s)) A B) ∧ Later W w' := by
  obtain ⟨i0, hi, hz0, hz1, hz2⟩ := info_parts info_int
  have hML : 2000 < maxLen := by decide
  obtain ⟨hmem, hwr⟩ := may_parts hmay
  have hrise := ids_rise hwr
  obtain ⟨X, hX⟩ : ∃ X, X = W.alloc (.cells s.row.toArray 28) := ⟨_, rfl⟩
  have hlX : Later W X := by rw [hX]; exact (Later.refl W).alloc _
  have kS : ScnB X W.heap.size s := by rw [hX]; exact heap_alloc_new _ _
  have hS2 := size_scn2 s
  have hCk := Lib.hid (fun V (h : Later X V) => rcheck_any s V (hs.later (hlX.trans h)) hsm)
  have hMA := Lib.hid (fun V (h : Later X V) => rmembers_any va A V (ha.later (hlX.trans h)) hla)
  have hMB := Lib.hid (fun V (h : Later X V) => rmembers_any vb B V (hb.later (hlX.trans h)) hlb)
  obtain ⟨p, hp⟩ : ∃ f, Hid (memB A = f) := ⟨_, rfl⟩
  obtain ⟨q, hq⟩ : ∃ f, Hid (memB B = f) := ⟨_, rfl⟩
  obtain ⟨wq, hwq⟩ : ∃ f, Hid ((wrongQ s).1 = f) := ⟨_, rfl⟩
  obtain ⟨c, hc⟩ : ∃ c : Int, Hid ((if wq = 0 then 0 else 60) = c) := ⟨_, rfl⟩
  rw [hp.out] at hMA
  rw [hq.out] at hMB
  rw [hwq.out, hc.out] at hCk
  have ha2 := ha
  obtain ⟨aa, ca, rfl, -⟩ := ha2
  have hb2 := hb
  obtain ⟨ab, cb, rfl, -⟩ := hb2
  obtain ⟨ma, hma⟩ : ∃ m, Hid (A.length = m) := ⟨_, rfl⟩
  obtain ⟨mb, hmb⟩ : ∃ m, Hid (B.length = m) := ⟨_, rfl⟩
  rw [hma.out] at hMA hla ⊢
  rw [hmb.out] at hMB hlb ⊢
  obtain rfl : true = p := hmem.symm.trans hp.out
  obtain rfl : true = q := hB.symm.trans hq.out
  obtain rfl : 0 = c := by rw [← hc.out, if_pos (hwq.out.symm.trans hwr)]
  have hids := Lib.hid (fun V (h : Later W V) => rids_any s V (hs.later h) hsm.1)
  have hOwnA := Lib.hid (fun V id (h : Later W V) => rowner_any s A (.slice aa A.length ca) id V (hs.later h) (ha.later h) hsm (by rw [hma.out]; exact hla))
  have hOwnB := Lib.hid (fun V id (h : Later W V) => rowner_any s B (.slice ab B.length cb) id V (hs.later h) (hb.later h) hsm (by rw [hmb.out]; exact hlb))
  rw [hma.out] at hOwnA
  rw [hmb.out] at hOwnB
  obtain ⟨I, hI⟩ : ∃ I, Hid (srt (idL s) = I) := ⟨_, rfl⟩
  have hIl : I.length = s.os.length := by rw [← hI.out]; exact ids_length s
  obtain ⟨n, hn⟩ : ∃ n, Hid (I.length = n) := ⟨_, rfl⟩
  have hn20 : n ≤ 20 := by rw [← hn.out, hIl]; exact hsm.1
  rw [hI.out] at hids hrise ⊢
  have hownA : Hid (∀ i, i < n → ownE s A (I.getD i 0) = (ow A i, 0)) := Lib.hid (fun i hi => by
    unfold ownE
    rw [if_pos hmay, hI.out, ownQ_at hrise (by rw [hn.out]; exact hi), if_neg (by have := ow_may hmem i; omega)])
  have hownB : Hid (∀ i, i < n → ownE s B (I.getD i 0) = (ow B i, 0)) := Lib.hid (fun i hi => by
    unfold ownE
    rw [if_pos (may_of hB hwr), hI.out, ownQ_at hrise (by rw [hn.out]; exact hi), if_neg (by have := ow_may hB i; omega)])
  have hmvq : Hid (movQ I A B = selN (fun i => !(ow B i == ow A i)) I n) := Lib.hid (by
    unfold movQ
    rw [hn.out]
    exact selN_congr (fun i hi => by rw [ownR_at hrise hB (by rw [hn.out]; exact hi)]))
  rw [hmvq.out]
  clear ha hb hc hmay hmem hwr hrise hIl hB
  go_enter Tryz.func10, Tryz.ntmps10
  go_upto_region 1 with fail
  rw [← hX]
  clear hX
  obtain ⟨N, hN⟩ : ∃ N, Hid (W.heap.size = N) := ⟨_, rfl⟩
  rw [hN.out] at kS ⊢
  go_wp2_with fail
  refine (hMA.out _ (Later.refl _)).mono ?_
  rintro e w1 ⟨rfl, hl1⟩
  go_wp2_with fail
  refine (hMB.out _ hl1).mono ?_
  rintro e w2 ⟨rfl, hl2⟩
  have kS2 := (hl1.trans hl2).row kS
  go_wp2_with (refine wpList_load_row rfl _ _ rfl N rfl _ _ (0, 0) _ kS2 Tryz.underlying28 rfl hS2 ?_)
  refine (hCk.out _ (hl1.trans hl2)).mono ?_
  rintro e w3 ⟨rfl, hl3⟩
  have kS3 : ScnB w3 N s := hl3.row kS2
  have hl13 := hlX.trans ((hl1.trans hl2).trans hl3)
  clear hMA hMB hCk hl1 hl2 hl3 kS kS2
  go_wp2_with (refine wpList_load_row rfl _ _ rfl N rfl _ _ (0, 0) _ kS3 Tryz.underlying28 rfl hS2 ?_)
  refine (hids.out _ hl13).mono ?_
  rintro e w4 ⟨u, rfl, hu, hl4⟩
  obtain ⟨⟨bo, bc, rfl, hbc⟩, hF⟩ := hu
  rw [hn.out] at hbc ⊢
  replace hbc := Lib.hid hbc
  have kS4 : ScnB w4 N s := hl4.row kS3
  have hl14 := hl13.trans hl4
  clear hF hids kS3 hl4 hl13
  go_wp2_with fail
  go_loopw [11, 13] (fun z y wr => ∃ (i : Nat) (r : Value), i ≤ n ∧ y = .int .i64 i ∧ r = z ∧ Later w4 wr ∧ wr.ownsRow w4.heap.size 3 1 r (selN (fun i => !(ow B i == ow A i)) I i).length (encI (selN (fun i => !(ow B i == ow A i)) I i))) (fun _ y _ => (300 - intOf y).toNat)
  case atStart => exact ⟨0, _, by omega, rfl, rfl, Later.refl _, World.ownsRow_nil ..⟩
  case round =>
        obtain ⟨i, r, hin, rfl, rfl, hl, hrow⟩ := hrel
        obtain ⟨wj, rfl⟩ : ∃ wo : World, wo = wr := ⟨_, rfl⟩
        obtain ⟨l, hl0⟩ : ∃ l, Hid ((selN (fun i => !(ow B i == ow A i)) I i).length = l) := ⟨_, rfl⟩
        have hli : l ≤ i := by rw [← hl0.out]; exact selN_length _ _ _
        rw [hl0.out] at hrow
        have hn3 := hl.size
        have hlj11 := hl14.trans hl
        by_cases hiN : i < n
        · obtain ⟨gI, rfl, cI0⟩ := hbc.out i hiN
          have cI11 := hl.cell cI0
          obtain ⟨z, hz⟩ : ∃ z, Hid (I.getD i 0 = z) := ⟨_, rfl⟩
          obtain ⟨y, hy⟩ : ∃ y, Hid (ow A i = y) := ⟨_, rfl⟩
          obtain ⟨x, hx⟩ : ∃ y, Hid (ow B i = y) := ⟨_, rfl⟩
          rw [hz.out] at cI11
          have hii : (i : Int) < n := by omega
          have kSj : ScnB wj N s := hl.row kS4
          obtain ⟨cs, hcs⟩ : ∃ cs, Hid (s.row = cs) := ⟨_, rfl⟩
          obtain ⟨n19, hn19⟩ : ∃ n, Hid ((19 : Nat) = n) := ⟨_, rfl⟩
          have hsz19 : ∀ w, (sizeOf 28).run Tryz.prog w = .ok n19 w := fun w => by rw [← hn19.out]; kernel_rfl
          have hlc : ∀ w : World, w.rangeAt N 0 cs → (loadCellsFrom ⟨N, 0, none⟩ 0 n19 #[]).run Tryz.prog w = .ok cs.toArray w := fun w h => by
            have hlen : cs.length = 19 := by rw [← hcs.out]; exact s.row_length
            rw [← hn19.out, ← hlen]
            exact run_loadCells_list (P := Tryz.prog) w ⟨N, 0, none⟩ cs (fun j v hv => by rw [Addr.add_mid]; exact h j v hv)
          have kr := row_range kSj
          rw [hcs.out] at kr
          have kr11 := kr
          clear cI0
          have hdX11 : Later wj wj.drew := (Later.refl wj).drew
          have hO11 : Hid (∀ V, Later wj V → Calls Tryz.prog 6 #[.agg cs.toArray, .slice aa ma ca, .int .i64 z] V fun e w' => e = .returned (.tuple #[.int .i64 y, .int .i64 0]) ∧ Later V w') := Lib.hid (fun V h => by
            have h0 := hOwnA.out V z (hlj11.trans h)
            have h1 := hownA.out i hiN
            rw [hz.out, hy.out] at h1
            rw [h1] at h0
            rw [← hcs.out]; exact h0)
          have hS11 : Hid (∀ Z, Later wj Z → (Later wj Z ∧ Z.rangeAt N 0 cs ∧ Z.cell? ⟨gI, i, none⟩ = some (.int .i64 z))) := Lib.hid (fun Z h => ⟨h, rangeAt_later kr11 h, h.cell cI11⟩)
          go_upto_region 11 with fail
          go_region_held3 (fun Z => Later wj Z ∧ Z.rangeAt N 0 cs ∧ Z.cell? ⟨gI, i, none⟩ = some (.int .i64 z)) ((first | (with_reducible exact hS11.out _ hdX11) | (with_reducible exact hS11.out _ hL11))) (first | (go_at_call 6; refine (hO11.out _ hdX11).mono ?_; rintro e V1 ⟨rfl, hQ11⟩; have hL11 : Later wj V1 := hdX11.trans hQ11))
          clear hdX11 hS11 hO11
          have cI12 := hL11.cell cI11
          have kr12 : V1.rangeAt N 0 cs := rangeAt_later kr11 hL11
          have hlj12 := hlj11.trans hL11
          clear kr kr11 cI11
          have hdX12 : Later V1 V1.drew := (Later.refl V1).drew
          have hO12 : Hid (∀ V, Later V1 V → Calls Tryz.prog 6 #[.agg cs.toArray, .slice ab mb cb, .int .i64 z] V fun e w' => e = .returned (.tuple #[.int .i64 x, .int .i64 0]) ∧ Later V w') := Lib.hid (fun V h => by
            have h0 := hOwnB.out V z (hlj12.trans h)
            have h1 := hownB.out i hiN
            rw [hz.out, hx.out] at h1
            rw [h1] at h0
            rw [← hcs.out]; exact h0)
          have hS12 : Hid (∀ Z, Later V1 Z → (Later V1 Z ∧ Z.rangeAt N 0 cs ∧ Z.cell? ⟨gI, i, none⟩ = some (.int .i64 z))) := Lib.hid (fun Z h => ⟨h, rangeAt_later kr12 h, h.cell cI12⟩)
          go_upto_region 12 with fail
          go_region_held3 (fun Z => Later V1 Z ∧ Z.rangeAt N 0 cs ∧ Z.cell? ⟨gI, i, none⟩ = some (.int .i64 z)) ((first | (with_reducible exact hS12.out _ hdX12) | (with_reducible exact hS12.out _ hL12))) (first | (go_at_call 6; refine (hO12.out _ hdX12).mono ?_; rintro e V2 ⟨rfl, hQ12⟩; have hL12 : Later V1 V2 := hdX12.trans hQ12))
          clear hdX12 hS12 hO12
          have cI1 := hL12.cell cI12
          have hLL := hL11.trans hL12
          have hr1 : V2.ownsRow w4.heap.size 3 1 r l (encI (selN (fun i => !(ow B i == ow A i)) I i)) := row_lat hrow hLL
          have hn4 : w4.heap.size ≤ V2.heap.size := Nat.le_trans hn3 hLL.size
          clear cI12 kr12
          by_cases hyn : y = x
          · have hdd : (y == x) = true := by simpa using hyn
            have h2 : Hid (selN (fun i => !(ow B i == ow A i)) I (i + 1) = selN (fun i => !(ow B i == ow A i)) I i) := Lib.hid (by rw [selN_miss (by rw [hy.out, hx.out, hyn]; simp)])
            subst hyn
            go_wp2_with fail
            go_roundw
            case rel =>
              refine ⟨i + 1, _, by omega, by go_num, rfl, hl.trans hLL, ?_⟩
              rw [h2.out, hl0.out]
              exact hr1
            case measure => simp [intOf]; omega
          · have hdd : (y != x) = true := by simpa using hyn
            have h2 : Hid (selN (fun i => !(ow B i == ow A i)) I (i + 1) = selN (fun i => !(ow B i == ow A i)) I i ++ [z]) := Lib.hid (by rw [selN_hit (by rw [hy.out, hx.out]; simpa using fun h => hyn h.symm), hz.out])
            clear hyn
            go_wp2_with (at_builtin; refine wpList_append_own _ rfl _ _ 29 rfl w4.heap.size 3 i0 (.int .i64 0) 1 8 Tryz.underlying29 hi hz0 hz1 hz2 rfl (by decide) r l _ rfl (hr1.alloc _) ⟨V2.heap.size, 0, none⟩ 1 1 [.int .i64 z] rfl rfl (World.news_of_block (heap_alloc_new _ _)) (by simp [Value.oneCell']) (by omega) (by omega) (by simp; omega) ?_; intro v2 w5 hr2 hg2 hn9)
            go_roundw
            case rel =>
              refine ⟨i + 1, _, by omega, by go_num, rfl, ?_, ?_⟩
              · exact later_row ((hl.trans hLL).alloc _) (hr1.alloc _) (Nat.le_refl _) hg2
              · rw [h2.out, List.length_append, hl0.out]
                unfold encI at hr2 ⊢
                rw [List.map_append]
                exact hr2
            case measure => simp [intOf]; omega
        · obtain rfl : i = n := by omega
          have hXle : Hid (W.heap.size ≤ w4.heap.size) := Lib.hid hl14.size
          rw [← hl0.out] at hrow
          replace hrow := Lib.hid hrow
          go_wp2_with fail
          refine bodyPost_ret (results_tmp2 rfl _ _ _) rfl ?_
          exact ⟨_, rfl, intsF_of_row hrow.out hXle.out, hlj11⟩
end Go.Proofs.YtackbajbladhhaaGreat
namespace Go.Proofs.YtackbajbladhhaaGreat
open Go.RowKit Go.Shelf
set_option linter.unusedVariables false
set_option linter.unusedSimpArgs false
attribute [local go_sem] Oper.semAt_some
attribute [-simp] Tryz.sizeOf123 Tryz.typeInfo123 Tryz.sizeOf28 Tryz.typeInfo28

theorem intsF_none (n : Nat) (w : World) : IntsF n w (.slice none 0 0) [] := ⟨⟨none, 0, rfl, fun k hk => absurd hk (by simp)⟩, (fun g o s len cap e => by cases e), (fun len cap e => by cases e; rfl)⟩
noncomputable def ofE (s : Scn) (M : List Int) (node : Int) : List Int × Int := if (mayQ s M && M.contains node) = true then (ofQ (srt (idL s)) M node, 0) else ([], 80)
noncomputable def movE (s : Scn) (A B : List Int) : List Int × Int := if (mayQ s A && memB B) = true then (movQ (srt (idL s)) A B, 0) else ([], 80)
theorem ofE_len (s : Scn) (M : List Int) (node : Int) : (ofE s M node).1.length ≤ s.os.length := by
  unfold ofE
  split
  · show (ofQ _ _ _).length ≤ _
    unfold ofQ
    rw [← ids_length s]
    exact selN_length _ _ _
  · simp
theorem movE_len (s : Scn) (A B : List Int) : (movE s A B).1.length ≤ s.os.length := by
  unfold movE
  split
  · show (movQ _ _ _).length ≤ _
    unfold movQ
    rw [← ids_length s]
    exact selN_length _ _ _
  · simp
theorem of_e (s : Scn) (M : List Int) (v : Value) (node : Int) (W : World) (hs : s.Ok W) (hv : IntsO W v M) :
    Calls Tryz.prog 7 #[s.V, v, .int .i64 node] W fun e w' => ∃ u, e = .returned (.tuple #[u, .int .i64 (ofE s M node).2]) ∧ IntsF W.heap.size w' u (ofE s M node).1 ∧ Later W w' := by
  unfold ofE
  by_cases h : (mayQ s M && M.contains node) = true
  · rw [if_pos h]
    rw [Bool.and_eq_true] at h
    exact of_yes s M v node W hs hv h.1 h.2
  · rw [if_neg h]
    refine (of_no s M v node W hs hv (by simpa using h)).mono ?_
    rintro e w' ⟨rfl, hl⟩
    exact ⟨_, rfl, intsF_none _ _, hl⟩
theorem rof_e (s : Scn) (M : List Int) (v : Value) (node : Int) (W : World) (hs : s.Ok W) (hv : IntsO W v M) (hsm : SmallS s) (hlen : M.length ≤ 70) :
    Calls Tryz.prog 8 #[s.V, v, .int .i64 node] W fun e w' => ∃ u, e = .returned (.tuple #[u, .int .i64 (ofE s M node).2]) ∧ IntsF W.heap.size w' u (ofE s M node).1 ∧ Later W w' := by
  unfold ofE
  by_cases h : (mayQ s M && M.contains node) = true
  · rw [if_pos h]
    rw [Bool.and_eq_true] at h
    exact rof_yes s M v node W hs hv hsm hlen h.1 h.2
  · rw [if_neg h]
    refine (rof_no s M v node W hs hv hsm hlen (by simpa using h)).mono ?_
    rintro e w' ⟨rfl, hl⟩
    exact ⟨_, rfl, intsF_none _ _, hl⟩
theorem mov_e (s : Scn) (A B : List Int) (v u : Value) (W : World) (hs : s.Ok W) (hv : IntsO W v A) (hu : IntsO W u B) :
    Calls Tryz.prog 9 #[s.V, v, u] W fun e w' => ∃ z, e = .returned (.tuple #[z, .int .i64 (movE s A B).2]) ∧ IntsF W.heap.size w' z (movE s A B).1 ∧ Later W w' := by
  unfold movE
  by_cases h : (mayQ s A && memB B) = true
  · rw [if_pos h]
    rw [Bool.and_eq_true] at h
    exact mov_yes s A B v u W hs hv hu h.1 h.2
  · rw [if_neg h]
    refine (mov_no s A B v u W hs hv hu (by simpa using h)).mono ?_
    rintro e w' ⟨rfl, hl⟩
    exact ⟨_, rfl, intsF_none _ _, hl⟩
theorem rmov_e (s : Scn) (A B : List Int) (v u : Value) (W : World) (hs : s.Ok W) (hv : IntsO W v A) (hu : IntsO W u B) (hsm : SmallS s) (hla : A.length ≤ 70) (hlb : B.length ≤ 70) :
    Calls Tryz.prog 10 #[s.V, v, u] W fun e w' => ∃ z, e = .returned (.tuple #[z, .int .i64 (movE s A B).2]) ∧ IntsF W.heap.size w' z (movE s A B).1 ∧ Later W w' := by
  unfold movE
  by_cases h : (mayQ s A && memB B) = true
  · rw [if_pos h]
    rw [Bool.and_eq_true] at h
    exact rmov_yes s A B v u W hs hv hu hsm hla hlb h.1 h.2
  · rw [if_neg h]
    refine (rmov_no s A B v u W hs hv hu hsm hla hlb (by simpa using h)).mono ?_
    rintro e w' ⟨rfl, hl⟩
    exact ⟨_, rfl, intsF_none _ _, hl⟩
noncomputable def allE (s : Scn) (M : List Int) : List (List Int) × Int := if mayQ s M = true then (M.map (ofQ (srt (idL s)) M), 0) else ([], 80)
theorem all_e (s : Scn) (M : List Int) (v : Value) (W : World) (hs : s.Ok W) (hv : IntsO W v M) :
    Calls Tryz.prog 11 #[s.V, v] W fun e w' => ∃ u, e = .returned (.tuple #[u, .int .i64 (allE s M).2]) ∧ RowsI w' u (allE s M).1 ∧ Later W w' := by
  unfold allE
  by_cases h : mayQ s M = true
  · rw [if_pos h]
    exact all_yes s M v W hs hv h
  · rw [if_neg h]
    refine (all_no s M v W hs hv (by simpa using h)).mono ?_
    rintro e w' ⟨rfl, hl⟩
    exact ⟨_, rfl, ⟨none, 0, rfl, fun k hk => absurd hk (by simp)⟩, hl⟩
noncomputable def mostE (s : Scn) (M : List Int) : Int := if mayQ s M = true then mxK (M.map (ofQ (srt (idL s)) M)) M.length else 0
theorem most_e (s : Scn) (M : List Int) (v : Value) (W : World) (hs : s.Ok W) (hv : IntsO W v M) :
    Calls Tryz.prog 16 #[s.V, v] W fun e w' => e = .returned (.int .i64 (mostE s M)) ∧ Later W w' := by
  unfold mostE
  by_cases h : mayQ s M = true
  · rw [if_pos h]
    exact most_yes s M v W hs hv h
  · rw [if_neg h]
    exact most_no s M v W hs hv (by simpa using h)
theorem slice_lit {n : Nat} {w : World} {u : Value} {L : List Int} (h : IntsF n w u L) {l : Nat} (hl : L.length = l) : ∃ ao cap, u = .slice ao l cap := by
  obtain ⟨⟨ao, cap, e, _⟩, _⟩ := h
  exact ⟨ao, cap, by rw [e, hl]⟩
set_option maxRecDepth 100000 in
set_option maxHeartbeats 4000000 in
theorem deals_any (s : Scn) (A B : List Int) (va vb : Value) (node id : Int) (W : World) (hs : s.Ok W) (ha : IntsO W va A) (hb : IntsO W vb B) :
    Calls Tryz.prog 3 #[s.V, va, vb, .int .i64 node, .int .i64 id] W fun e w' => e = .returned (.bool true) ∧ Later W w' := by
  obtain ⟨X, hX⟩ : ∃ X, X = W.alloc (.cells s.row.toArray 28) := ⟨_, rfl⟩
  have hlX : Later W X := by rw [hX]; exact (Later.refl W).alloc _
  have kS : ScnB X W.heap.size s := by rw [hX]; exact heap_alloc_new _ _
  have hS2 := size_scn2 s
  have hG := Lib.hid (great_any s X (hs.later hlX))
  have h1 := Lib.hid (fun V (h : Later W V) => owner_any s A va id V (hs.later h) (ha.later h))
  have h2 := Lib.hid (fun V (h : Later W V) (hsm : SmallS s) (hla : A.length ≤ 70) => rowner_any s A va id V (hs.later h) (ha.later h) hsm hla)
  have h3 := Lib.hid (fun V (h : Later W V) => of_e s A va node V (hs.later h) (ha.later h))
  have h4 := Lib.hid (fun V nd (h : Later W V) (hsm : SmallS s) (hla : A.length ≤ 70) => rof_e s A va nd V (hs.later h) (ha.later h) hsm hla)
  have h5 := Lib.hid (fun V (h : Later W V) => mov_e s A B va vb V (hs.later h) (ha.later h) (hb.later h))
  have h6 := Lib.hid (fun V (h : Later W V) (hsm : SmallS s) (hla : A.length ≤ 70) (hlb : B.length ≤ 70) => rmov_e s A B va vb V (hs.later h) (ha.later h) (hb.later h) hsm hla hlb)
  have h7 := Lib.hid (fun V (h : Later W V) => all_e s A va V (hs.later h) (ha.later h))
  have h8 := Lib.hid (fun V (h : Later W V) (hla : A.length ≤ 70) => rmembers_any va A V (ha.later h) hla)
  have h9 := Lib.hid (fun V (h : Later W V) => members_any va A V (ha.later h))
  have h10 := Lib.hid (fun V (h : Later W V) (hsm : SmallS s) => rcheck_any s V (hs.later h) hsm)
  have h11 := Lib.hid (fun V (h : Later W V) => most_e s A va V (hs.later h) (ha.later h))
  have hA2 := ha
  obtain ⟨aa, ca, rfl, hcA⟩ := hA2
  have hB2 := hb
  obtain ⟨ab, cb, rfl, -⟩ := hB2
  replace hcA := Lib.hid hcA
  obtain ⟨ma, hma⟩ : ∃ m, Hid (A.length = m) := ⟨_, rfl⟩
  obtain ⟨mb, hmb⟩ : ∃ m, Hid (B.length = m) := ⟨_, rfl⟩
  rw [hma.out] at h1 h2 h3 h4 h5 h6 h7 h8 h9 h11
  rw [hmb.out] at h5 h6
  rw [hma.out, hmb.out]
  obtain ⟨r1, hr1⟩ : ∃ r, Hid ((ownE s A id).1 = r) := ⟨_, rfl⟩
  obtain ⟨r2, hr2⟩ : ∃ r, Hid ((ownE s A id).2 = r) := ⟨_, rfl⟩
  rw [hr1.out, hr2.out] at h1 h2
  obtain ⟨ofs, hofs⟩ : ∃ q, Hid (ofE s A node = q) := ⟨_, rfl⟩
  have hofl : ofs.1.length ≤ s.os.length := by rw [← hofs.out]; exact ofE_len _ _ _
  have h4n := Lib.hid (fun V (h : Later W V) hsm hla => h4.out V node h hsm hla)
  rw [hofs.out] at h3 h4n
  obtain ⟨oL, oE⟩ := ofs
  replace h3 : Hid (∀ V, Later W V → Calls Tryz.prog 7 #[s.V, .slice aa ma ca, .int .i64 node] V fun e w' => ∃ u, e = .returned (.tuple #[u, .int .i64 oE]) ∧ IntsF V.heap.size w' u oL ∧ Later V w') := h3
  replace h4n : Hid (∀ V, Later W V → SmallS s → ma ≤ 70 → Calls Tryz.prog 8 #[s.V, .slice aa ma ca, .int .i64 node] V fun e w' => ∃ u, e = .returned (.tuple #[u, .int .i64 oE]) ∧ IntsF V.heap.size w' u oL ∧ Later V w') := h4n
  replace hofl : oL.length ≤ s.os.length := hofl
  obtain ⟨mvs, hmvs⟩ : ∃ q, Hid (movE s A B = q) := ⟨_, rfl⟩
  have hmvl : mvs.1.length ≤ s.os.length := by rw [← hmvs.out]; exact movE_len _ _ _
  rw [hmvs.out] at h5 h6
  obtain ⟨mL, mE⟩ := mvs
  replace h5 : Hid (∀ V, Later W V → Calls Tryz.prog 9 #[s.V, .slice aa ma ca, .slice ab mb cb] V fun e w' => ∃ u, e = .returned (.tuple #[u, .int .i64 mE]) ∧ IntsF V.heap.size w' u mL ∧ Later V w') := h5
  replace h6 : Hid (∀ V, Later W V → SmallS s → ma ≤ 70 → mb ≤ 70 → Calls Tryz.prog 10 #[s.V, .slice aa ma ca, .slice ab mb cb] V fun e w' => ∃ u, e = .returned (.tuple #[u, .int .i64 mE]) ∧ IntsF V.heap.size w' u mL ∧ Later V w') := h6
  replace hmvl : mL.length ≤ s.os.length := hmvl
  obtain ⟨als, hals⟩ : ∃ q, Hid (allE s A = q) := ⟨_, rfl⟩
  rw [hals.out] at h7
  obtain ⟨aL, aE⟩ := als
  replace h7 : Hid (∀ V, Later W V → Calls Tryz.prog 11 #[s.V, .slice aa ma ca] V fun e w' => ∃ u, e = .returned (.tuple #[u, .int .i64 aE]) ∧ RowsI w' u aL ∧ Later V w') := h7
  obtain ⟨bA, hbA⟩ : ∃ b, Hid (memB A = b) := ⟨_, rfl⟩
  rw [hbA.out] at h8 h9
  obtain ⟨mo, hmo⟩ : ∃ b, Hid (mostE s A = b) := ⟨_, rfl⟩
  rw [hmo.out] at h11
  obtain ⟨c, hc⟩ : ∃ c : Int, Hid ((if (wrongQ s).1 = 0 then 0 else 60) = c) := ⟨_, rfl⟩
  rw [hc.out] at h10
  obtain ⟨cs, hcs⟩ : ∃ cs, Hid (s.row.toArray = cs) := ⟨_, rfl⟩
  have hss : (Tryz.prog.info? 28).map (·.size) = some cs.size := by rw [← hcs.out]; exact hS2
  have kS0 : X.heap[W.heap.size]? = some (.cells cs 28 (0, 0)) := by rw [← hcs.out]; exact kS
  have hn20 : SmallS s → oL.length ≤ 20 ∧ mL.length ≤ 20 := fun h => ⟨by have := h.1; omega, by have := h.1; omega⟩
  replace hn20 := Lib.hid hn20
  clear hofl hmvl hS2 kS
  go_enter Tryz.func3, Tryz.ntmps3
  go_upto_region 1 with fail
  rw [← hX]
  clear hX
  simp only [Scn.V, hcs.out] at h1 h2 h3 h4 h4n h5 h6 h7 h8 h9 h10 h11 hG ⊢
  obtain ⟨N, hN⟩ : ∃ N, Hid (W.heap.size = N) := ⟨_, rfl⟩
  rw [hN.out] at kS0 ⊢
  go_wp2_with (refine wpList_load_row rfl _ _ rfl N rfl _ _ (0, 0) _ kS0 Tryz.underlying28 rfl hss ?_)
  refine hG.out.mono ?_
  rintro e w0 ⟨⟨g, rfl, hg⟩, hl0⟩
  clear hG
  rcases hg with rfl | ⟨rfl, hsm⟩
  · go_wp2_with fail
    go_ret
    exact ⟨rfl, hlX.trans hl0⟩
  replace hsm := Lib.hid hsm
  rcases Classical.em (70 < ma) with hla | hla
  · have hla2 : (70 : Int) < ma := by omega
    go_wp2_with fail
    go_ret
    exact ⟨rfl, hlX.trans hl0⟩
  rcases Classical.em (70 < mb) with hlb | hlb
  · have hlb2 : (70 : Int) < mb := by omega
    have hla2 : ¬ (70 : Int) < ma := by omega
    go_wp2_with fail
    go_ret
    exact ⟨rfl, hlX.trans hl0⟩
  have hla2 : ¬ (70 : Int) < ma := by omega
  have hlb2 : ¬ (70 : Int) < mb := by omega
  have hla70 : Hid (ma ≤ 70) := Lib.hid (by omega)
  have hlb70 : Hid (mb ≤ 70) := Lib.hid (by omega)
  have hlen := hn20.out hsm.out
  have kS1 := hl0.row kS0
  have hlA := hlX.trans hl0
  go_wp2_with (refine wpList_load_row rfl _ _ rfl N rfl _ _ (0, 0) _ kS1 Tryz.underlying28 rfl hss ?_)
  refine (h1.out _ hlA).mono ?_
  rintro e w1 ⟨rfl, hl1⟩
  have kS2 := hl1.row kS1
  replace hlA := hlA.trans hl1
  go_wp2_with (refine wpList_load_row rfl _ _ rfl N rfl _ _ (0, 0) _ kS2 Tryz.underlying28 rfl hss ?_)
  refine (h2.out _ hlA hsm.out hla70.out).mono ?_
  rintro e w2 ⟨rfl, hl2⟩
  have kS3 := hl2.row kS2
  replace hlA := hlA.trans hl2
  go_wp2_with (refine wpList_load_row rfl _ _ rfl N rfl _ _ (0, 0) _ kS3 Tryz.underlying28 rfl hss ?_)
  refine (h3.out _ hlA).mono ?_
  rintro e w3 ⟨x3, rfl, hx3, hl3⟩
  have kS4 := hl3.row kS3
  replace hlA := hlA.trans hl3
  go_wp2_with (refine wpList_load_row rfl _ _ rfl N rfl _ _ (0, 0) _ kS4 Tryz.underlying28 rfl hss ?_)
  refine (h4n.out _ hlA hsm.out hla70.out).mono ?_
  rintro e w4 ⟨x4, rfl, hx4, hl4⟩
  have kS5 := hl4.row kS4
  replace hlA := hlA.trans hl4
  have i3 := hx3.later hl4
  go_wp2_with (refine wpList_load_row rfl _ _ rfl N rfl _ _ (0, 0) _ kS5 Tryz.underlying28 rfl hss ?_)
  refine (h5.out _ hlA).mono ?_
  rintro e w5 ⟨x5, rfl, hx5, hl5⟩
  have kS6 := hl5.row kS5
  replace hlA := hlA.trans hl5
  replace i3 := i3.later hl5
  have i4 := hx4.later hl5
  go_wp2_with (refine wpList_load_row rfl _ _ rfl N rfl _ _ (0, 0) _ kS6 Tryz.underlying28 rfl hss ?_)
  refine (h6.out _ hlA hsm.out hla70.out hlb70.out).mono ?_
  rintro e w6 ⟨x6, rfl, hx6, hl6⟩
  have kS7 := hl6.row kS6
  replace hlA := hlA.trans hl6
  replace i3 := i3.later hl6
  replace i4 := i4.later hl6
  have i5 := hx5.later hl6
  go_wp2_with (refine wpList_load_row rfl _ _ rfl N rfl _ _ (0, 0) _ kS7 Tryz.underlying28 rfl hss ?_)
  refine (h7.out _ hlA).mono ?_
  rintro e w7 ⟨x7, rfl, hx7, hl7⟩
  have kS8 := hl7.row kS7
  replace hlA := hlA.trans hl7
  replace i3 := i3.later hl7
  replace i4 := i4.later hl7
  replace i5 := i5.later hl7
  have i6 := hx6.later hl7
  clear kS0 kS1 kS2 kS3 kS4 kS5 kS6 kS7 hl0 hl1 hl2 hl3 hl4 hl5 hl6 hl7 hx3 hx4 hx5 hx6 hn20 h1 h2 h3 h4n h5 h6 h7
  obtain ⟨n3, hn3⟩ : ∃ n, Hid (oL.length = n) := ⟨_, rfl⟩
  obtain ⟨n5, hn5⟩ : ∃ n, Hid (mL.length = n) := ⟨_, rfl⟩
  obtain ⟨p3, c3, rfl⟩ := slice_lit i3 hn3.out
  obtain ⟨p4, c4, rfl⟩ := slice_lit i4 hn3.out
  obtain ⟨p5, c5, rfl⟩ := slice_lit i5 hn5.out
  obtain ⟨p6, c6, rfl⟩ := slice_lit i6 hn5.out
  have hI1 := Lib.hid (fun V (h : Later w7 V) => ints_same _ _ oL V (i3.1.later h) (i4.1.later h) (by have := hlen.1; omega))
  have hI2 := Lib.hid (fun V (h : Later w7 V) => ints_same _ _ mL V (i5.1.later h) (i6.1.later h) (by have := hlen.2; omega))
  clear i3 i4 i5 i6
  obtain ⟨ao7, c7, rfl⟩ := hx7.form
  obtain ⟨m7, hm7⟩ : ∃ n, Hid (aL.length = n) := ⟨_, rfl⟩
  rw [hm7.out] at hx7 ⊢
  replace hx7 := Lib.hid hx7
  go_wp2_with fail
  refine (h8.out _ hlA hla70.out).mono ?_
  rintro e w8 ⟨rfl, hl8⟩
  have kS9 := hl8.row kS8
  go_wp2_with fail
  refine (h9.out _ (hlA.trans hl8)).mono ?_
  rintro e w8' ⟨rfl, rfl⟩
  have q1 : (bA != bA) = false := by simp
  have q2 : (r1 != r1) = false := by simp
  have q3 : (r2 != r2) = false := by simp
  have q4 : (oE != oE) = false := by simp
  have q5 : (mE != mE) = false := by simp
  go_wp2_with fail
  refine (hI1.out _ hl8).mono ?_
  rintro e w9 ⟨rfl, hl9⟩
  go_wp2_with fail
  refine (hI2.out _ (hl8.trans hl9)).mono ?_
  rintro e w10 ⟨rfl, hl10⟩
  have kS11 := hl10.row (hl9.row kS9)
  have hlB := ((hlA.trans hl8).trans hl9).trans hl10
  have hx10 := Lib.hid (hx7.out.later ((hl8.trans hl9).trans hl10))
  clear hI1 hI2 hl8 hl9 hl10 kS8 kS9 hx7 hlA q1 q2 q3 q4 q5 h8 h9
  cases bA
  · have hmay : mayQ s A = false := may_mem hbA.out
    obtain ⟨rfl, rfl⟩ : aL = [] ∧ aE = 80 := by
      have h0 := hals.out
      unfold allE at h0
      rw [if_neg (by rw [hmay]; decide)] at h0
      cases h0
      exact ⟨rfl, rfl⟩
    obtain rfl : m7 = 0 := hm7.out.symm
    obtain rfl : mo = 0 := by rw [← hmo.out]; unfold mostE; rw [if_neg (by rw [hmay]; decide)]
    clear hmay hx10
    go_wp2_with (first | refine wpList_load_row_w rfl _ _ rfl N rfl _ _ (0, 0) _ kS11 Tryz.underlying28 rfl hss ?_)
    refine (h11.out _ hlB).mono ?_
    rintro e w11 ⟨rfl, hl11⟩
    go_wp2_with fail
    go_ret
    exact ⟨rfl, hlB.trans hl11⟩
  · go_wp2_with (refine wpList_load_row_w rfl _ _ rfl N rfl _ _ (0, 0) _ kS11 Tryz.underlying28 rfl hss ?_)
    refine (h10.out _ hlB hsm.out).mono ?_
    rintro e w11 ⟨rfl, hl11⟩
    have kS12 := hl11.row kS11
    have hlC := hlB.trans hl11
    have hx11 := Lib.hid (hx10.out.later hl11)
    clear hx10 kS11 hlB hl11
    by_cases hc0 : c = 0
    case neg =>
      have hne : (c != 0) = true := by simpa using hc0
      have hmay : mayQ s A = false := may_wr (fun h => hc0 (by rw [← hc.out, if_pos h]))
      obtain ⟨rfl, rfl⟩ : aL = [] ∧ aE = 80 := by
        have h0 := hals.out
        unfold allE at h0
        rw [if_neg (by rw [hmay]; decide)] at h0
        cases h0
        exact ⟨rfl, rfl⟩
      obtain rfl : m7 = 0 := hm7.out.symm
      obtain rfl : mo = 0 := by rw [← hmo.out]; unfold mostE; rw [if_neg (by rw [hmay]; decide)]
      replace hc0 := Lib.hid hc0
      clear hmay hx11
      go_wp2_with (first | refine wpList_load_row_w rfl _ _ rfl N rfl _ _ (0, 0) _ kS12 Tryz.underlying28 rfl hss ?_)
      refine (h11.out _ hlC).mono ?_
      rintro e w12 ⟨rfl, hl12⟩
      go_wp2_with fail
      go_ret
      exact ⟨rfl, hlC.trans hl12⟩
    case pos =>
      subst hc0
      have hwr : (wrongQ s).1 = 0 := Classical.byContradiction (fun h => by
        have h0 := hc.out
        rw [if_neg h] at h0
        exact absurd h0 (by decide))
      have hmay : Hid (mayQ s A = true) := Lib.hid (may_of hbA.out hwr)
      obtain ⟨haL, rfl⟩ : aL = A.map (ofQ (srt (idL s)) A) ∧ aE = 0 := by
        have h0 := hals.out
        unfold allE at h0
        rw [if_pos hmay.out] at h0
        cases h0
        exact ⟨rfl, rfl⟩
      replace haL := Lib.hid haL
      obtain rfl : m7 = ma := by rw [← hm7.out, haL.out, List.length_map]; exact hma.out
      have hmo2 : Hid (mo = mxK aL m7) := Lib.hid (by rw [← hmo.out, haL.out]; unfold mostE; rw [if_pos hmay.out, hma.out])
      clear hwr h10
      go_wp2_with fail
      go_loopw [151, 26] (fun y z wr => ∃ p : Nat, p ≤ m7 ∧ y = .int .i64 p ∧ z = .int .i64 (mxK aL p) ∧ Later w11 wr) (fun y _ _ => (300 - intOf y).toNat)
      case atStart => exact ⟨0, by omega, rfl, rfl, Later.refl _⟩
      case round =>
        obtain ⟨p, hp, rfl, rfl, hl⟩ := hrel
        obtain ⟨wj, rfl⟩ : ∃ wo : World, wo = wr := ⟨_, rfl⟩
        by_cases hpN : p < m7
        · obtain ⟨gA, oA, rfl, cA0⟩ := hcA.out p (by rw [hma.out]; exact hpN)
          have cA := (hlC.trans hl).cell cA0
          obtain ⟨nd, hnd⟩ : ∃ z, Hid (A.getD p 0 = z) := ⟨_, rfl⟩
          rw [hnd.out] at cA
          have hpi : (p : Int) < m7 := by omega
          have kSj := hl.row kS12
          obtain ⟨cl, hcl⟩ : ∃ l, Hid (s.row = l) := ⟨_, rfl⟩
          have hcsl : Hid (cs = cl.toArray) := Lib.hid (by rw [← hcs.out, hcl.out])
          obtain ⟨n19, hn19⟩ : ∃ n, Hid ((19 : Nat) = n) := ⟨_, rfl⟩
          have hsz19 : ∀ w, (sizeOf 28).run Tryz.prog w = .ok n19 w := fun w => by rw [← hn19.out]; kernel_rfl
          have hlc : ∀ w : World, w.rangeAt N 0 cl → (loadCellsFrom ⟨N, 0, none⟩ 0 n19 #[]).run Tryz.prog w = .ok cl.toArray w := fun w h => by
            have hlen : cl.length = 19 := by rw [← hcl.out]; exact s.row_length
            rw [← hn19.out, ← hlen]
            exact run_loadCells_list (P := Tryz.prog) w ⟨N, 0, none⟩ cl (fun j v hv => by rw [Addr.add_mid]; exact h j v hv)
          have kr : wj.rangeAt N 0 cl := by rw [hcsl.out] at kSj; exact row_range kSj
          have hdX : Later wj wj.drew := (Later.refl wj).drew
          have hnin : A.contains nd = true := by
            rw [← hnd.out, ← getD_of (show p < A.length by rw [hma.out]; exact hpN)]
            simp
          have hOf : Hid (ofE s A nd = (ofQ (srt (idL s)) A nd, 0)) := Lib.hid (by unfold ofE; rw [hmay.out, hnin]; rfl)
          obtain ⟨L, hL0⟩ : ∃ L, Hid (ofQ (srt (idL s)) A nd = L) := ⟨_, rfl⟩
          have hLl : L.length ≤ 20 := by
            have := ofE_len s A nd
            rw [hOf.out, hL0.out] at this
            have h2 := hsm.out.1
            exact Nat.le_trans this h2
          have hO : Hid (∀ V, Later wj V → Calls Tryz.prog 8 #[.agg cl.toArray, .slice (some ⟨gA, oA, none⟩) m7 ca, .int .i64 nd] V fun e w' => ∃ u, e = .returned (.tuple #[u, .int .i64 0]) ∧ IntsF V.heap.size w' u L ∧ Later V w') := Lib.hid (fun V h => by
            have h0 := h4.out V nd ((hlC.trans hl).trans h) hsm.out hla70.out
            rw [hOf.out, hL0.out] at h0
            rw [← hcsl.out]
            exact h0)
          have hS : Hid (∀ Z, Later wj Z → (Later wj Z ∧ Z.rangeAt N 0 cl ∧ Z.cell? ⟨gA, oA + p, none⟩ = some (.int .i64 nd))) := Lib.hid (fun Z h => ⟨h, rangeAt_later kr h, h.cell cA⟩)
          have hLp : Hid (aL.getD p [] = L) := Lib.hid (by rw [haL.out, all_at (by rw [hma.out]; exact hpN), hnd.out, hL0.out])
          obtain ⟨mxp, hmxp⟩ : ∃ q, Hid (mxK aL p = q) := ⟨_, rfl⟩
          obtain ⟨mxq, hmxq⟩ : ∃ q, Hid (mxK aL (p + 1) = q) := ⟨_, rfl⟩
          obtain ⟨ln, hln⟩ : ∃ n, Hid (L.length = n) := ⟨_, rfl⟩
          have hmax : ∀ ts t W, (Builtin.max_ ts t #[.int .i64 mxp, .int .i64 (ln : Int)]).run Tryz.prog W = .ok (.int .i64 mxq) W := fun ts t W => by
            rw [run_max_int2]
            congr 2
            have : mxq = max mxp (ln : Int) := by rw [← hmxq.out, ← hmxp.out, ← hln.out, ← hLp.out]; rfl
            rw [this]
            by_cases h : (ln : Int) > mxp
            · rw [if_pos h]; omega
            · rw [if_neg h]; omega
          rw [hmxp.out]
          clear cA0 kr hnin kSj
          go_upto_region 19 with fail
          go_region_held3 (fun Z => Later wj Z ∧ Z.rangeAt N 0 cl ∧ Z.cell? ⟨gA, oA + p, none⟩ = some (.int .i64 nd)) ((first | (with_reducible exact hS.out _ hdX) | (with_reducible exact hS.out _ hL1))) (first | (go_at_call 8; refine (hO.out _ hdX).mono ?_; rintro e V1 ⟨u, rfl, hu, hLa⟩; have hL1 : Later wj V1 := hdX.trans hLa))
          clear hdX hS hO hlc hsz19
          obtain ⟨pu, cu, rfl⟩ := slice_lit hu hln.out
          have hrows := hx11.out.later (hl.trans hL1)
          obtain ⟨g7, x7, rfl, cx7, hx7⟩ := (show ∃ g x, ao7 = some ⟨g, 0, none⟩ ∧ V1.cell? ⟨g, p, none⟩ = some x ∧ IntsV V1 x (aL.getD p []) by
            obtain ⟨ao, cap, e, h⟩ := hrows
            cases e
            exact h p (by rw [hm7.out]; exact hpN))
          rw [hLp.out] at hx7
          obtain ⟨bo, bc, rfl, hbc⟩ := hx7
          have hsame := Lib.hid (ints_same _ _ L V1 ⟨bo, bc, rfl, hbc⟩ hu.1 (by omega))
          rw [hln.out] at hsame cx7
          clear hrows hbc hu cA
          go_wp2_with fail
          refine hsame.out.mono ?_
          rintro e V2 ⟨rfl, hl2⟩
          clear hsame
          go_wp2_with fail
          go_roundw
          case rel => exact ⟨p + 1, by omega, by go_num, by rw [hmxq.out], (hl.trans hL1).trans hl2⟩
          case measure => simp [intOf]; omega
        · obtain rfl : p = m7 := by omega
          have kS13 := hl.row kS12
          have hlD := hlC.trans hl
          rw [← hmo2.out]
          have qm : (mo == mo) = true := by simp
          clear hx11
          go_wp2_with (refine wpList_load_row_w rfl _ _ rfl N rfl _ _ (0, 0) _ kS13 Tryz.underlying28 rfl hss ?_)
          refine (h11.out _ hlD).mono ?_
          rintro e w12 ⟨rfl, hl12⟩
          go_wp2_with fail
          go_ret
          exact ⟨by simp, hlD.trans hl12⟩
end Go.Proofs.YtackbajbladhhaaGreat
