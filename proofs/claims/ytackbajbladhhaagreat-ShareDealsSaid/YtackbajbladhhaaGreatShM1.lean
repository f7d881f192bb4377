/-
  Chapter 8: all members' objects.
  Chapter 8: how many the one has that has most; the chapter's examples.
  Chapter 8, plainly: each object has one owner; nobody has more than one more than another.
-/
import Derived.Test.YtackbajbladhhaaGreatShJ1
namespace Go.Proofs.YtackbajbladhhaaGreat
open Go.RowKit Go.Shelf
set_option linter.unusedVariables false
set_option linter.unusedSimpArgs false
attribute [local go_sem] Oper.semAt_some

theorem info_sl : (Tryz.prog.info? 29).map (fun i => (i.zero, i.size, i.bytes)) = some (some (.slice none 0 0), 1, 24) := by kernel_rfl
/-- Lists of ints in a slice. -/
def RowsI (w : World) (u : Value) (LL : List (List Int)) : Prop :=
  ∃ ao cap, u = .slice ao LL.length cap ∧ ∀ k, k < LL.length → ∃ g x, ao = some ⟨g, 0, none⟩ ∧ w.cell? ⟨g, k, none⟩ = some x ∧ IntsV w x (LL.getD k [])
theorem RowsI.later {w w' : World} {u : Value} {LL : List (List Int)} (h : RowsI w u LL) (hl : Later w w') : RowsI w' u LL := by
  obtain ⟨ao, cap, rfl, hv⟩ := h
  exact ⟨ao, cap, rfl, fun k hk => by obtain ⟨g, x, e, hc, hx⟩ := hv k hk; exact ⟨g, x, e, hl.cell hc, hx.later hl⟩⟩
/-- A list of ints does not lie in a row of slices. -/
theorem intsV_kept {W W' : World} {x v : Value} {L : List Int} {base k : Nat} {xs : List Value} {tmp : Obj} (h : IntsV W x L) (hrow : W.ownsRow base 29 1 v k xs) (hsl : ∀ y ∈ xs, ∃ a n c, y = .slice a n c) (hk0 : k = 0 → v.ownBlock = none) (hxk : xs.length = k)
    (hg : (W.alloc tmp).grownBy W' v.ownBlock) : IntsV W' x L := by
  obtain ⟨ao, cap, rfl, hc⟩ := h
  refine ⟨ao, cap, rfl, fun j hj => ?_⟩
  obtain ⟨g, rfl, hcj⟩ := hc j hj
  refine ⟨g, rfl, ?_⟩
  obtain ⟨g', e', hc0⟩ := hc 0 (by omega)
  have hne : v.ownBlock ≠ some g := by
    intro e
    by_cases h0 : k = 0
    · rw [hk0 h0] at e; cases e
    · obtain ⟨g2, c2, rfl⟩ := ownsRow_pos hrow (by omega)
      obtain rfl : g2 = g := by simpa [Value.ownBlock] using e
      have h1 := hrow.cellAt 0 (by omega)
      obtain ⟨y, hy⟩ : ∃ y, xs[0]? = some y := ⟨_, List.getElem?_eq_getElem (by omega)⟩
      obtain ⟨a, n, c, rfl⟩ := hsl y (List.mem_of_getElem? hy)
      rw [hy] at h1
      injection e' with e'
      injection e' with e'
      subst e'
      rw [hc0] at h1
      cases h1
  have hlt := cell_lt hcj
  exact (World.cell?_of_block (a := ⟨g, j, none⟩) ((hg.block g (by simp; omega) (fun e => hne e.symm)).trans (Below.heap_alloc W tmp g hlt))).trans hcj
set_option maxRecDepth 100000 in
set_option maxHeartbeats 2000000 in
theorem all_yes (s : Scn) (M : List Int) (v : Value) (W : World) (hs : s.Ok W) (hv : IntsO W v M) (hmay : mayQ s M = true) :
    Calls Tryz.prog 11 #[s.V, v] W fun e w' => ∃ u, e = .returned (.tuple #[u, .int .i64 0]) ∧ RowsI w' u (M.map (ofQ (srt (idL s)) M)) ∧ Later W w' := by
  obtain ⟨i0, hi, hz0, hz1, hz2⟩ := info_parts info_sl
  obtain ⟨X, hX⟩ : ∃ X, X = W.alloc (.cells s.row.toArray 28) := ⟨_, rfl⟩
  have hlX : Later W X := by rw [hX]; exact (Later.refl W).alloc _
  have kS : ScnB X W.heap.size s := by rw [hX]; exact heap_alloc_new _ _
  have hS2 : (Tryz.prog.info? 28).map (·.size) = some s.row.toArray.size := by rw [List.size_toArray]; exact size_scn s
  have hMay := Lib.hid (may_any s v M X (hs.later hlX) (hv.later hlX))
  rw [hmay] at hMay
  obtain ⟨hmem, hwr⟩ := may_parts hmay
  have hml := mem_length hmem
  obtain ⟨I, hI⟩ : ∃ I, Hid (srt (idL s) = I) := ⟨_, rfl⟩
  have hOf := Lib.hid (fun V (h : Later W V) node (hin : M.contains node = true) => of_yes s M _ node V (hs.later h) (hv.later h) hmay hin)
  rw [hI.out] at hOf ⊢
  obtain ⟨ao, mc, rfl⟩ := (show ∃ ao cap, v = .slice ao M.length cap by obtain ⟨ao, cap, rfl, _⟩ := hv; exact ⟨ao, cap, rfl⟩)
  obtain ⟨m, hm⟩ : ∃ m, Hid (M.length = m) := ⟨_, rfl⟩
  rw [hm.out] at hMay hOf hml hv ⊢
  replace hv := Lib.hid hv
  clear hmay hmem hwr
  go_enter Tryz.func11, Tryz.ntmps11
  go_upto_region 1 with fail
  rw [← hX]
  clear hX
  go_wp2_with (refine wpList_load_row rfl _ _ rfl W.heap.size rfl _ _ (0, 0) _ kS Tryz.underlying28 rfl hS2 ?_)
  refine hMay.out.mono ?_
  rintro e w1 ⟨rfl, h1⟩
  have kS1 := h1.row kS
  replace h1 := hlX.trans h1
  clear kS hMay hlX
  go_wp2_with fail
  go_loopw [17, 6] (fun y z wr => ∃ (k : Nat) (v : Value) (xs : List Value), k ≤ m ∧ y = .int .i64 k ∧ v = z ∧ Later w1 wr ∧ wr.ownsRow w1.heap.size 29 1 v k xs ∧ (k = 0 → v.ownBlock = none) ∧ xs.length = k ∧ (∀ y ∈ xs, ∃ a n c, y = .slice a n c) ∧
    (∀ i, i < k → ∃ x, xs[i]? = some x ∧ IntsV wr x (ofQ I M (M.getD i 0)))) (fun y _ _ => (1000 - intOf y).toNat)
  case atStart => exact ⟨0, .slice none 0 0, [], by omega, rfl, rfl, Later.refl _, World.ownsRow_nil .., by simp [Value.ownBlock]⟩
  case round =>
    obtain ⟨k, v, xs, hk, rfl, rfl, hl, hrow, hk0, hxk, hsl, hxs⟩ := hrel
    obtain ⟨wo, rfl⟩ : ∃ wo : World, wo = wr := ⟨_, rfl⟩
    by_cases hkm : k < m
    · obtain ⟨g, o, hao, cm⟩ : ∃ g o, ao = some ⟨g, o, none⟩ ∧ W.cell? ⟨g, o + k, none⟩ = some (.int .i64 (M.getD k 0)) := by
        obtain ⟨a', c', e, hc⟩ := hv.out
        injection e with e1 _ _
        subst e1
        exact hc k (by rw [hm.out]; exact hkm)
      replace cm := (h1.trans hl).cell cm
      have hin : M.contains (M.getD k 0) = true := by
        have : k < M.length := by rw [hm.out]; exact hkm
        rw [List.contains_iff_mem, List.getD_eq_getElem?_getD, List.getElem?_eq_getElem this]; exact List.getElem_mem this
      have hOk := Lib.hid (hOf.out wo (h1.trans hl) _ hin)
      obtain ⟨node, hno⟩ : ∃ z, Hid (M.getD k 0 = z) := ⟨_, rfl⟩
      rw [hno.out] at cm hOk
      have hki : (k : Int) < m := by omega
      have kSo := hl.row kS1
      subst hao
      clear hin
      replace hxs := Lib.hid hxs
      replace hsl := Lib.hid hsl
      replace hk0 := Lib.hid hk0
      replace hxk := Lib.hid hxk
      go_wp2_with (refine wpList_load_row rfl _ _ rfl W.heap.size rfl _ _ (0, 0) _ kSo Tryz.underlying28 rfl hS2 ?_)
      refine hOk.out.mono ?_
      rintro e w2 ⟨u, rfl, hu, h2⟩
      obtain ⟨uo, uc, hue⟩ := hu.1.form
      replace hu := hu.1
      obtain ⟨ln, hln⟩ : ∃ n, Hid ((ofQ I M node).length = n) := ⟨_, rfl⟩
      rw [hln.out] at hue
      subst hue
      replace hu := Lib.hid hu
      replace hrow := hrow.kept h2.grown (Classical.em _)
      have hn2 : w1.heap.size ≤ w2.heap.size := (hl.trans h2).size
      have hML : 2000000 < maxLen := by decide
      go_wp2_with (at_builtin; refine wpList_append_own _ rfl _ _ 42 rfl w1.heap.size 29 i0 (.slice none 0 0) 1 24 Tryz.underlying42 hi hz0 hz1 hz2 rfl (by decide) v k xs rfl (hrow.alloc _) ⟨w2.heap.size, 0, none⟩ 1 1 [.slice uo ln uc] rfl rfl (World.news_of_block (heap_alloc_new _ _)) (by simp [Value.oneCell']) (by omega) (by omega) (by simp; omega) ?_; intro v2 w3 hr2 hg2 hn3)
      go_roundw
      case rel =>
        have hl3 : Later w1 w3 := later_row ((hl.trans h2).alloc _) (hrow.alloc _) (Nat.le_refl _) hg2
        refine ⟨k + 1, _, _, by omega, by go_num, rfl, hl3, hr2, fun h => by omega, by rw [List.length_append, hxk.out]; rfl, fun y hy => ?_, fun i hi => ?_⟩
        · rcases List.mem_append.1 hy with h | h
          · exact hsl.out y h
          · rw [List.mem_singleton.1 h]; exact ⟨_, _, _, rfl⟩
        · by_cases e : i = k
          · subst e
            refine ⟨_, by rw [List.getElem?_append_right (by rw [hxk.out]; omega), hxk.out, Nat.sub_self]; rfl, ?_⟩
            rw [hno.out]
            exact intsV_kept hu.out hrow hsl.out hk0.out hxk.out hg2
          · obtain ⟨x, hx, hxv⟩ := hxs.out i (by omega)
            exact ⟨x, by rw [List.getElem?_append_left (by rw [hxk.out]; omega)]; exact hx, intsV_kept (hxv.later h2) hrow hsl.out hk0.out hxk.out hg2⟩
      case measure => simp [intOf]; omega
    · obtain rfl : k = m := by omega
      have hR : RowsI wo v (M.map (ofQ I M)) := by
        have hll : (M.map (ofQ I M)).length = k := by rw [List.length_map]; exact hm.out
        by_cases h0 : k = 0
        · have hv0 : ∃ p cp, v = .slice p 0 cp := by
            rcases hrow.2 with ⟨rfl, _⟩ | ⟨g, cp, cur, rfl, _⟩
            · exact ⟨_, _, rfl⟩
            · exact ⟨_, _, by rw [h0]⟩
          obtain ⟨p, cp, rfl⟩ := hv0
          exact ⟨p, cp, by rw [hll, h0], fun j hj => by omega⟩
        · obtain ⟨g, cp, rfl⟩ := ownsRow_pos hrow (by omega)
          refine ⟨_, cp, by rw [hll], fun j hj => ?_⟩
          rw [hll] at hj
          obtain ⟨x, hx, hxv⟩ := hxs j hj
          have h3 := hrow.cellAt j (by omega)
          rw [hx] at h3
          have hmj : (M.map (ofQ I M)).getD j [] = ofQ I M (M.getD j 0) := by
            have : j < M.length := by rw [hm.out]; exact hj
            rw [List.getD_eq_getElem?_getD, List.getElem?_map, List.getD_eq_getElem?_getD, List.getElem?_eq_getElem this]; rfl
          rw [hmj]
          exact ⟨g, x, rfl, h3, hxv⟩
      replace hR := Lib.hid hR
      have hvs : ∃ a n c, v = .slice a n c := by obtain ⟨a, c, e, _⟩ := hR.out; exact ⟨a, _, c, e⟩
      obtain ⟨va, vn, vc, rfl⟩ := hvs
      clear hrow hxs hsl hk0 hxk
      go_wp2_with fail
      refine bodyPost_ret (results_tmp2 rfl _ _ _) rfl ?_
      exact ⟨_, rfl, hR.out, h1.trans hl⟩
set_option maxRecDepth 100000 in
theorem all_no (s : Scn) (M : List Int) (v : Value) (W : World) (hs : s.Ok W) (hv : IntsO W v M) (hmay : mayQ s M = false) :
    Calls Tryz.prog 11 #[s.V, v] W fun e w' => e = .returned (.tuple #[.slice none 0 0, .int .i64 80]) ∧ Later W w' := by
  obtain ⟨X, hX⟩ : ∃ X, X = W.alloc (.cells s.row.toArray 28) := ⟨_, rfl⟩
  have hlX : Later W X := by rw [hX]; exact (Later.refl W).alloc _
  have kS : ScnB X W.heap.size s := by rw [hX]; exact heap_alloc_new _ _
  have hS2 : (Tryz.prog.info? 28).map (·.size) = some s.row.toArray.size := by rw [List.size_toArray]; exact size_scn s
  have hMay := Lib.hid (may_any s v M X (hs.later hlX) (hv.later hlX))
  rw [hmay] at hMay
  obtain ⟨ao, mc, rfl⟩ := (show ∃ ao cap, v = .slice ao M.length cap by obtain ⟨ao, cap, rfl, _⟩ := hv; exact ⟨ao, cap, rfl⟩)
  clear hmay
  go_enter Tryz.func11, Tryz.ntmps11
  go_upto_region 1 with fail
  rw [← hX]
  clear hX
  go_wp2_with (refine wpList_load_row rfl _ _ rfl W.heap.size rfl _ _ (0, 0) _ kS Tryz.underlying28 rfl hS2 ?_)
  refine hMay.out.mono ?_
  rintro e w1 ⟨rfl, h1⟩
  go_wp2_with fail
  refine bodyPost_ret (results_tmp2 rfl _ _ _) rfl ?_
  exact ⟨rfl, hlX.trans h1⟩
end Go.Proofs.YtackbajbladhhaaGreat
namespace Go.Proofs.YtackbajbladhhaaGreat
open Go.RowKit Go.Shelf
set_option linter.unusedVariables false
set_option linter.unusedSimpArgs false
attribute [local go_sem] Oper.semAt_some

/-- The greatest number of objects among the first lists. -/
def mxK (LL : List (List Int)) : Nat → Int
  | 0 => 0
  | k + 1 => max (mxK LL k) ((LL.getD k []).length : Nat)
theorem RowsI.at {w : World} {ao : Option Addr} {n cap : Nat} {LL : List (List Int)} (h : RowsI w (.slice ao n cap) LL) {k : Nat} (hk : k < LL.length) :
    ∃ g uo uc, ao = some ⟨g, 0, none⟩ ∧ w.cell? ⟨g, k, none⟩ = some (.slice uo (LL.getD k []).length uc) ∧ IntsV w (.slice uo (LL.getD k []).length uc) (LL.getD k []) := by
  obtain ⟨ao', cap', e, hc⟩ := h
  injection e with e1 _ _
  subst e1
  obtain ⟨g, x, e, hx, hxv⟩ := hc k hk
  obtain ⟨uo, uc, rfl⟩ := hxv.form
  exact ⟨g, uo, uc, e, hx, hxv⟩
theorem RowsI.form {w : World} {u : Value} {LL : List (List Int)} (h : RowsI w u LL) : ∃ ao cap, u = .slice ao LL.length cap := by
  obtain ⟨ao, cap, rfl, _⟩ := h; exact ⟨ao, cap, rfl⟩
set_option maxRecDepth 100000 in
set_option maxHeartbeats 1000000 in
theorem most_yes (s : Scn) (M : List Int) (v : Value) (W : World) (hs : s.Ok W) (hv : IntsO W v M) (hmay : mayQ s M = true) :
    Calls Tryz.prog 16 #[s.V, v] W fun e w' => e = .returned (.int .i64 (mxK (M.map (ofQ (srt (idL s)) M)) M.length)) ∧ Later W w' := by
  obtain ⟨X, hX⟩ : ∃ X, X = W.alloc (.cells s.row.toArray 28) := ⟨_, rfl⟩
  have hlX : Later W X := by rw [hX]; exact (Later.refl W).alloc _
  have kS : ScnB X W.heap.size s := by rw [hX]; exact heap_alloc_new _ _
  have hS2 : (Tryz.prog.info? 28).map (·.size) = some s.row.toArray.size := by rw [List.size_toArray]; exact size_scn s
  have hAll := Lib.hid (all_yes s M v X (hs.later hlX) (hv.later hlX) hmay)
  have hml := mem_length (may_parts hmay).1
  obtain ⟨LL, hLL⟩ : ∃ LL, Hid (M.map (ofQ (srt (idL s)) M) = LL) := ⟨_, rfl⟩
  have hln : M.length = LL.length := by rw [← hLL.out, List.length_map]
  rw [hLL.out] at hAll ⊢
  obtain ⟨ao, mc, rfl⟩ := (show ∃ ao cap, v = .slice ao M.length cap by obtain ⟨ao, cap, rfl, _⟩ := hv; exact ⟨ao, cap, rfl⟩)
  rw [hln] at hAll hml ⊢
  obtain ⟨m, hm⟩ : ∃ m, Hid (LL.length = m) := ⟨_, rfl⟩
  obtain ⟨mx, hmx⟩ : ∃ x, Hid (mxK LL LL.length = x) := ⟨_, rfl⟩
  rw [hmx.out]
  rw [hm.out] at hAll hml hmx ⊢
  clear hmay hv hln
  go_enter Tryz.func16, Tryz.ntmps16
  go_upto_region 1 with fail
  rw [← hX]
  clear hX
  go_wp2_with (refine wpList_load_row rfl _ _ rfl W.heap.size rfl _ _ (0, 0) _ kS Tryz.underlying28 rfl hS2 ?_)
  refine hAll.out.mono ?_
  rintro e w1 ⟨u, rfl, hu, h1⟩
  obtain ⟨uo, uc, rfl⟩ := hu.form
  rw [hm.out] at hu ⊢
  clear hAll kS
  go_wp2_with fail
  go_loopw [18, 7] (fun y z wr => ∃ k : Nat, k ≤ m ∧ y = .int .i64 k ∧ z = .int .i64 (mxK LL k) ∧ wr = w1) (fun y _ _ => (1000 - intOf y).toNat)
  case atStart => exact ⟨0, by omega, rfl, rfl, rfl⟩
  case round =>
    obtain ⟨k, hk, rfl, rfl, rfl⟩ := hrel
    by_cases hkm : k < m
    · obtain ⟨g, xo, xc, huo, cx, -⟩ := hu.at (k := k) (by rw [hm.out]; exact hkm)
      obtain ⟨ln, hl⟩ : ∃ n, Hid ((LL.getD k []).length = n) := ⟨_, rfl⟩
      rw [hl.out] at cx
      obtain ⟨b, hb⟩ : ∃ b, Hid (mxK LL (k + 1) = b) := ⟨_, rfl⟩
      obtain ⟨a, ha⟩ : ∃ a, Hid (mxK LL k = a) := ⟨_, rfl⟩
      have hmax : ∀ ts t W, (Builtin.max_ ts t #[.int .i64 a, .int .i64 (ln : Int)]).run Tryz.prog W = .ok (.int .i64 b) W := fun ts t W => by
        rw [run_max_int2]
        congr 2
        have : b = max a (ln : Int) := by rw [← hb.out, ← ha.out, ← hl.out]; rfl
        rw [this]
        by_cases h : (ln : Int) > a
        · rw [if_pos h]; omega
        · rw [if_neg h]; omega
      rw [ha.out]
      have hki : (k : Int) < m := by omega
      subst huo
      clear ha hu
      go_wp2_with fail
      go_roundw
      case rel => exact ⟨k + 1, by omega, by go_num, by rw [hb.out], by first | trivial | rfl⟩
      case measure => simp [intOf]; omega
    · obtain rfl : k = m := by omega
      rw [hmx.out]
      go_wp2_with fail
      go_ret
      exact ⟨rfl, hlX.trans h1⟩
end Go.Proofs.YtackbajbladhhaaGreat
namespace Go.Proofs.YtackbajbladhhaaGreat
open Go.RowKit Go.Shelf
set_option linter.unusedVariables false
set_option linter.unusedSimpArgs false

theorem rises_nodup {I : List Int} (h : Rises I) : I.Nodup := by
  unfold List.Nodup
  rw [List.pairwise_iff_getElem]
  intro i j hi hj hij
  have := h i j hij hj
  rw [List.getD_eq_getElem?_getD, List.getD_eq_getElem?_getD, List.getElem?_eq_getElem hi, List.getElem?_eq_getElem hj] at this
  have h2 : I[i] < I[j] := this
  omega
theorem getD_mem {I : List Int} {i : Nat} (h : i < I.length) : I.getD i 0 ∈ I := by
  rw [List.getD_eq_getElem?_getD, List.getElem?_eq_getElem h]; exact List.getElem_mem h
theorem sum_ind (x : Int) : ∀ M : List Int, (M.map fun z => if (x == z) = true then 1 else 0).sum = M.count x
  | [] => rfl
  | z :: M => by
    rw [List.map_cons, List.sum_cons, sum_ind x M, List.count_cons]
    by_cases e : x = z
    · subst e; simp; omega
    · have h1 : (x == z) = false := by simp [e]
      have h2 : (z == x) = false := by simp; exact fun h => e h.symm
      simp [h1, h2]
/-- All members' objects are all objects. -/
theorem all_perm {I M : List Int} (h : Rises I) (hM : memB M = true) : ((M.map (ofQ I M)).flatten).Perm I := by
  rw [List.perm_iff_count]
  intro a
  rw [List.count_flatten, List.map_map]
  by_cases ha : a ∈ I
  · obtain ⟨i, hi, rfl⟩ : ∃ i, i < I.length ∧ I.getD i 0 = a := by
      obtain ⟨i, hi, rfl⟩ := List.getElem_of_mem ha
      exact ⟨i, hi, by rw [List.getD_eq_getElem?_getD, List.getElem?_eq_getElem hi]; rfl⟩
    have e : (List.map (List.count (I.getD i 0) ∘ ofQ I M) M) = M.map fun z => if (ow M i == z) = true then 1 else 0 := by
      refine List.map_congr_left fun z hz => ?_
      show (ofQ I M z).count (I.getD i 0) = _
      unfold ofQ
      rw [selN_count h (Nat.le_refl _) hi]
    rw [e, sum_ind, (rises_nodup (mem_may hM).2.2).count, if_pos (ow_mem hM i), (rises_nodup h).count, if_pos ha]
  · have e : (List.map (List.count a ∘ ofQ I M) M) = M.map fun z => 0 := by
      refine List.map_congr_left fun z hz => ?_
      show (ofQ I M z).count a = 0
      rw [List.count_eq_zero]
      intro hm
      obtain ⟨i, hi, _, rfl⟩ := mem_selN.1 hm
      exact ha (getD_mem hi)
    rw [e, List.count_eq_zero.2 ha]
    clear e
    induction M with
    | nil => rfl
    | cons z M ih =>
      rw [List.map_cons, List.sum_cons]
      have : ∀ L : List Int, (L.map fun _ => 0).sum = 0 := fun L => by induction L with
        | nil => rfl
        | cons y L ih => rw [List.map_cons, List.sum_cons, ih]
      rw [this]
/-- Whoever has an object is its owner. -/
theorem own_of {s : Scn} {M : List Int} (hmay : mayQ s M = true) {node id : Int} (hid : id ∈ ofQ (srt (idL s)) M node) : ownE s M id = (node, 0) := by
  obtain ⟨hM, hw⟩ := may_parts hmay
  have hr := ids_rise hw
  obtain ⟨i, hi, hp, rfl⟩ := mem_selN.1 hid
  have e1 : ow M i = node := by simpa using hp
  unfold ownE
  rw [if_pos hmay, ownQ_at hr hi, if_neg (by have := ow_may hM i; omega), e1]
/-- How many objects a member has. -/
theorem sel_len {M I : List Int} (hM : memB M = true) {p : Nat} (hp : p < M.length) : ∀ n, (selN (fun i => ow M i == M.getD p 0) I n).length = n / M.length + (if p < n % M.length then 1 else 0)
  | 0 => by rw [selN_zero]; simp
  | n + 1 => by
    have hm := (mem_may hM).1
    have ih := sel_len (I := I) hM hp n
    have how : (ow M n == M.getD p 0) = decide (n % M.length = p) := by
      by_cases e : n % M.length = p
      · unfold ow; rw [e]; simp
      · have : ow M n ≠ M.getD p 0 := fun h => e (rises_inj (mem_may hM).2.2 (Nat.mod_lt _ hm) hp h)
        rw [decide_eq_false e]
        exact beq_eq_false_iff_ne.2 this
    obtain ⟨q, hq⟩ : ∃ q, q = n / M.length := ⟨_, rfl⟩
    obtain ⟨r, hr⟩ : ∃ r, r = n % M.length := ⟨_, rfl⟩
    have hn : n = M.length * q + r := by rw [hq, hr]; exact (Nat.div_add_mod n M.length).symm
    have hrm : r < M.length := by rw [hr]; exact Nat.mod_lt _ hm
    rw [← hq, ← hr] at ih
    rw [← hr] at how
    have hdm : (n + 1) / M.length = (if r + 1 = M.length then q + 1 else q) ∧ (n + 1) % M.length = (if r + 1 = M.length then 0 else r + 1) := by
      have e1 : n + 1 = M.length * q + (r + 1) := by omega
      rw [e1, Nat.mul_add_div hm, Nat.mul_add_mod]
      by_cases e : r + 1 = M.length
      · rw [if_pos e, if_pos e, e, Nat.div_self hm, Nat.mod_self]; exact ⟨rfl, rfl⟩
      · rw [if_neg e, if_neg e, Nat.div_eq_of_lt (by omega), Nat.mod_eq_of_lt (by omega)]; exact ⟨rfl, rfl⟩
    rw [hdm.1, hdm.2]
    by_cases e : r = p
    · rw [selN_hit (by rw [how]; exact decide_eq_true e), List.length_append, ih]
      by_cases e2 : r + 1 = M.length
      · rw [if_pos e2, if_pos e2, if_neg (by omega), if_neg (by omega)]; rfl
      · rw [if_neg e2, if_neg e2, if_neg (by omega), if_pos (by omega)]; rfl
    · rw [selN_miss (by rw [how]; exact decide_eq_false e), ih]
      by_cases e2 : r + 1 = M.length
      · rw [if_pos e2, if_pos e2, if_pos (by omega), if_neg (by omega)]
      · rw [if_neg e2, if_neg e2]
        by_cases e3 : p < r
        · rw [if_pos e3, if_pos (by omega)]
        · rw [if_neg e3, if_neg (by omega)]
theorem of_len {M I : List Int} (hM : memB M = true) {p : Nat} (hp : p < M.length) : I.length / M.length ≤ (ofQ I M (M.getD p 0)).length ∧ (ofQ I M (M.getD p 0)).length ≤ I.length / M.length + 1 := by
  unfold ofQ
  rw [sel_len hM hp]
  split <;> omega
/-- The least number of objects among the first lists. -/
def mnK (n : Int) (LL : List (List Int)) : Nat → Int
  | 0 => n
  | k + 1 => min (mnK n LL k) ((LL.getD k []).length : Nat)
theorem all_at {M I : List Int} {p : Nat} (hp : p < M.length) : (M.map (ofQ I M)).getD p [] = ofQ I M (M.getD p 0) := by
  rw [List.getD_eq_getElem?_getD, List.getElem?_map, List.getD_eq_getElem?_getD, List.getElem?_eq_getElem hp]; rfl
theorem mnK_bd {n : Int} (h0 : 0 ≤ n) (LL : List (List Int)) : ∀ k, 0 ≤ mnK n LL k ∧ mnK n LL k ≤ n
  | 0 => ⟨h0, Int.le_refl _⟩
  | k + 1 => by
    have := mnK_bd h0 LL k
    unfold mnK
    omega
theorem mxK_bd {LL : List (List Int)} {b : Nat} : ∀ k, (∀ j, j < k → (LL.getD j []).length ≤ b) → 0 ≤ mxK LL k ∧ mxK LL k ≤ b
  | 0, _ => ⟨Int.le_refl _, Int.natCast_nonneg b⟩
  | k + 1, h => by
    have h1 := mxK_bd k (fun j hj => h j (by omega))
    have h2 := h k (by omega)
    unfold mxK
    omega
theorem near_all {M I : List Int} (hM : memB M = true) : mxK (M.map (ofQ I M)) M.length - mnK I.length (M.map (ofQ I M)) M.length ≤ 1 := by
  have hm := (mem_may hM).1
  have h0 := Nat.div_le_self I.length M.length
  have h3 := fun k (hk : k < M.length) => of_len (I := I) hM (p := k) hk
  obtain ⟨q, hq⟩ : ∃ q, I.length / M.length = q := ⟨_, rfl⟩
  rw [hq] at h0
  simp only [hq] at h3
  have h1 : ∀ k, k ≤ M.length → (q : Int) ≤ mnK I.length (M.map (ofQ I M)) k ∧ mxK (M.map (ofQ I M)) k ≤ (q : Int) + 1 := by
    intro k
    induction k with
    | zero =>
      intro _
      unfold mnK mxK
      omega
    | succ k ih =>
      intro hk
      have h2 := ih (by omega)
      have h4 := h3 k (by omega)
      unfold mnK mxK
      rw [all_at (by omega)]
      omega
  have := h1 M.length (Nat.le_refl _)
  omega
end Go.Proofs.YtackbajbladhhaaGreat
