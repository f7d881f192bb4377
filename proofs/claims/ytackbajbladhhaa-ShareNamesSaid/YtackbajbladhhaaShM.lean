/-
  Chapter 8: all members' objects.
-/
import Derived.Test.YtackbajbladhhaaShK
namespace Go.Proofs.Ytackbajbladhhaa
open Go.RowKit Go.Shelf
set_option linter.unusedVariables false
set_option linter.unusedSimpArgs false
attribute [local go_sem] Oper.semAt_some

theorem info_sl : (Try.prog.info? 44).map (fun i => (i.zero, i.size, i.bytes)) = some (some (.slice none 0 0), 1, 24) := by kernel_rfl
/-- Lists of ints in a slice. -/
def RowsI (w : World) (u : Value) (LL : List (List Int)) : Prop :=
  ∃ ao cap, u = .slice ao LL.length cap ∧ ∀ k, k < LL.length → ∃ g x, ao = some ⟨g, 0, none⟩ ∧ w.cell? ⟨g, k, none⟩ = some x ∧ IntsV w x (LL.getD k [])
theorem RowsI.later {w w' : World} {u : Value} {LL : List (List Int)} (h : RowsI w u LL) (hl : Later w w') : RowsI w' u LL := by
  obtain ⟨ao, cap, rfl, hv⟩ := h
  exact ⟨ao, cap, rfl, fun k hk => by obtain ⟨g, x, e, hc, hx⟩ := hv k hk; exact ⟨g, x, e, hl.cell hc, hx.later hl⟩⟩
/-- A list of ints does not lie in a row of slices. -/
theorem intsV_kept {W W' : World} {x v : Value} {L : List Int} {base k : Nat} {xs : List Value} {tmp : Obj} (h : IntsV W x L) (hrow : W.ownsRow base 44 1 v k xs) (hsl : ∀ y ∈ xs, ∃ a n c, y = .slice a n c) (hk0 : k = 0 → v.ownBlock = none) (hxk : xs.length = k)
    (hg : (W.alloc tmp).grownBy W' v.ownBlock) : IntsV W' x L := by
  obtain ⟨ao, cap, rfl, hc⟩ := h
  refine ⟨ao, cap, rfl, fun j hj => ?_⟩
  obtain ⟨g, rfl, hcj⟩ := hc j hj
  refine ⟨g, rfl, ?_⟩
  obtain ⟨g', e', hc0⟩ := hc 0 (by omega)
  have hne : v.ownBlock ≠ some g := by
    intro e
    by_cases h0 : k = 0
    · rw [hk0 h0] at e; cases e
    · obtain ⟨g2, c2, rfl⟩ := ownsRow_pos hrow (by omega)
      obtain rfl : g2 = g := by simpa [Value.ownBlock] using e
      have h1 := hrow.cellAt 0 (by omega)
      obtain ⟨y, hy⟩ : ∃ y, xs[0]? = some y := ⟨_, List.getElem?_eq_getElem (by omega)⟩
      obtain ⟨a, n, c, rfl⟩ := hsl y (List.mem_of_getElem? hy)
      rw [hy] at h1
      injection e' with e'
      injection e' with e'
      subst e'
      rw [hc0] at h1
      cases h1
  have hlt := cell_lt hcj
  exact (World.cell?_of_block (a := ⟨g, j, none⟩) ((hg.block g (by simp; omega) (fun e => hne e.symm)).trans (Below.heap_alloc W tmp g hlt))).trans hcj
set_option maxRecDepth 100000 in
set_option maxHeartbeats 2000000 in
theorem all_yes (s : Scn) (M : List Int) (v : Value) (W : World) (hs : s.Ok W) (hv : IntsO W v M) (hmay : mayQ s M = true) :
    Calls Try.prog 27 #[s.V, v] W fun e w' => ∃ u, e = .returned (.tuple #[u, .int .i64 0]) ∧ RowsI w' u (M.map (ofQ (srt (idL s)) M)) ∧ Later W w' := by
  obtain ⟨i0, hi, hz0, hz1, hz2⟩ := info_parts info_sl
  obtain ⟨X, hX⟩ : ∃ X, X = W.alloc (.cells s.row.toArray 28) := ⟨_, rfl⟩
  have hlX : Later W X := by rw [hX]; exact (Later.refl W).alloc _
  have kS : ScnB X W.heap.size s := by rw [hX]; exact heap_alloc_new _ _
  have hS2 : (Try.prog.info? 28).map (·.size) = some s.row.toArray.size := by rw [List.size_toArray]; exact size_scn s
  have hMay := Lib.hid (may_any s v M X (hs.later hlX) (hv.later hlX))
  rw [hmay] at hMay
  obtain ⟨hmem, hwr⟩ := may_parts hmay
  have hml := mem_length hmem
  obtain ⟨I, hI⟩ : ∃ I, Hid (srt (idL s) = I) := ⟨_, rfl⟩
  have hOf := Lib.hid (fun V (h : Later W V) node (hin : M.contains node = true) => of_yes s M _ node V (hs.later h) (hv.later h) hmay hin)
  rw [hI.out] at hOf ⊢
  obtain ⟨ao, mc, rfl⟩ := (show ∃ ao cap, v = .slice ao M.length cap by obtain ⟨ao, cap, rfl, _⟩ := hv; exact ⟨ao, cap, rfl⟩)
  obtain ⟨m, hm⟩ : ∃ m, Hid (M.length = m) := ⟨_, rfl⟩
  rw [hm.out] at hMay hOf hml hv ⊢
  replace hv := Lib.hid hv
  clear hmay hmem hwr
  go_enter Try.func27, Try.ntmps27
  go_upto_region 1 with fail
  rw [← hX]
  clear hX
  go_wp2_with (refine wpList_load_row rfl _ _ rfl W.heap.size rfl _ _ (0, 0) _ kS Try.underlying28 rfl hS2 ?_)
  refine hMay.out.mono ?_
  rintro e w1 ⟨rfl, h1⟩
  have kS1 := h1.row kS
  replace h1 := hlX.trans h1
  clear kS hMay hlX
  go_wp2_with fail
  go_loopw [17, 6] (fun y z wr => ∃ (k : Nat) (v : Value) (xs : List Value), k ≤ m ∧ y = .int .i64 k ∧ v = z ∧ Later w1 wr ∧ wr.ownsRow w1.heap.size 44 1 v k xs ∧ (k = 0 → v.ownBlock = none) ∧ xs.length = k ∧ (∀ y ∈ xs, ∃ a n c, y = .slice a n c) ∧
    (∀ i, i < k → ∃ x, xs[i]? = some x ∧ IntsV wr x (ofQ I M (M.getD i 0)))) (fun y _ _ => (1000 - intOf y).toNat)
  case atStart => exact ⟨0, .slice none 0 0, [], by omega, rfl, rfl, Later.refl _, World.ownsRow_nil .., by simp [Value.ownBlock]⟩
  case round =>
    obtain ⟨k, v, xs, hk, rfl, rfl, hl, hrow, hk0, hxk, hsl, hxs⟩ := hrel
    obtain ⟨wo, rfl⟩ : ∃ wo : World, wo = wr := ⟨_, rfl⟩
    by_cases hkm : k < m
    · obtain ⟨g, o, hao, cm⟩ : ∃ g o, ao = some ⟨g, o, none⟩ ∧ W.cell? ⟨g, o + k, none⟩ = some (.int .i64 (M.getD k 0)) := by
        obtain ⟨a', c', e, hc⟩ := hv.out
        injection e with e1 _ _
        subst e1
        exact hc k (by rw [hm.out]; exact hkm)
      replace cm := (h1.trans hl).cell cm
      have hin : M.contains (M.getD k 0) = true := by
        have : k < M.length := by rw [hm.out]; exact hkm
        rw [List.contains_iff_mem, List.getD_eq_getElem?_getD, List.getElem?_eq_getElem this]; exact List.getElem_mem this
      have hOk := Lib.hid (hOf.out wo (h1.trans hl) _ hin)
      obtain ⟨node, hno⟩ : ∃ z, Hid (M.getD k 0 = z) := ⟨_, rfl⟩
      rw [hno.out] at cm hOk
      have hki : (k : Int) < m := by omega
      have kSo := hl.row kS1
      subst hao
      clear hin
      replace hxs := Lib.hid hxs
      replace hsl := Lib.hid hsl
      replace hk0 := Lib.hid hk0
      replace hxk := Lib.hid hxk
      go_wp2_with (refine wpList_load_row rfl _ _ rfl W.heap.size rfl _ _ (0, 0) _ kSo Try.underlying28 rfl hS2 ?_)
      refine hOk.out.mono ?_
      rintro e w2 ⟨u, rfl, hu, h2⟩
      obtain ⟨uo, uc, hue⟩ := hu.1.form
      replace hu := hu.1
      obtain ⟨ln, hln⟩ : ∃ n, Hid ((ofQ I M node).length = n) := ⟨_, rfl⟩
      rw [hln.out] at hue
      subst hue
      replace hu := Lib.hid hu
      replace hrow := hrow.kept h2.grown (Classical.em _)
      have hn2 : w1.heap.size ≤ w2.heap.size := (hl.trans h2).size
      have hML : 2000000 < maxLen := by decide
      go_wp2_with (at_builtin; refine wpList_append_own _ rfl _ _ 60 rfl w1.heap.size 44 i0 (.slice none 0 0) 1 24 Try.underlying60 hi hz0 hz1 hz2 rfl (by decide) v k xs rfl (hrow.alloc _) ⟨w2.heap.size, 0, none⟩ 1 1 [.slice uo ln uc] rfl rfl (World.news_of_block (heap_alloc_new _ _)) (by simp [Value.oneCell']) (by omega) (by omega) (by simp; omega) ?_; intro v2 w3 hr2 hg2 hn3)
      go_roundw
      case rel =>
        have hl3 : Later w1 w3 := later_own ((hl.trans h2).alloc _) (hrow.alloc _) (Nat.le_refl _) hg2
        refine ⟨k + 1, _, _, by omega, by go_num, rfl, hl3, hr2, fun h => by omega, by rw [List.length_append, hxk.out]; rfl, fun y hy => ?_, fun i hi => ?_⟩
        · rcases List.mem_append.1 hy with h | h
          · exact hsl.out y h
          · rw [List.mem_singleton.1 h]; exact ⟨_, _, _, rfl⟩
        · by_cases e : i = k
          · subst e
            refine ⟨_, by rw [List.getElem?_append_right (by rw [hxk.out]; omega), hxk.out, Nat.sub_self]; rfl, ?_⟩
            rw [hno.out]
            exact intsV_kept hu.out hrow hsl.out hk0.out hxk.out hg2
          · obtain ⟨x, hx, hxv⟩ := hxs.out i (by omega)
            exact ⟨x, by rw [List.getElem?_append_left (by rw [hxk.out]; omega)]; exact hx, intsV_kept (hxv.later h2) hrow hsl.out hk0.out hxk.out hg2⟩
      case measure => simp [intOf]; omega
    · obtain rfl : k = m := by omega
      have hR : RowsI wo v (M.map (ofQ I M)) := by
        have hll : (M.map (ofQ I M)).length = k := by rw [List.length_map]; exact hm.out
        by_cases h0 : k = 0
        · have hv0 : ∃ p cp, v = .slice p 0 cp := by
            rcases hrow.2 with ⟨rfl, _⟩ | ⟨g, cp, cur, rfl, _⟩
            · exact ⟨_, _, rfl⟩
            · exact ⟨_, _, by rw [h0]⟩
          obtain ⟨p, cp, rfl⟩ := hv0
          exact ⟨p, cp, by rw [hll, h0], fun j hj => by omega⟩
        · obtain ⟨g, cp, rfl⟩ := ownsRow_pos hrow (by omega)
          refine ⟨_, cp, by rw [hll], fun j hj => ?_⟩
          rw [hll] at hj
          obtain ⟨x, hx, hxv⟩ := hxs j hj
          have h3 := hrow.cellAt j (by omega)
          rw [hx] at h3
          have hmj : (M.map (ofQ I M)).getD j [] = ofQ I M (M.getD j 0) := by
            have : j < M.length := by rw [hm.out]; exact hj
            rw [List.getD_eq_getElem?_getD, List.getElem?_map, List.getD_eq_getElem?_getD, List.getElem?_eq_getElem this]; rfl
          rw [hmj]
          exact ⟨g, x, rfl, h3, hxv⟩
      replace hR := Lib.hid hR
      have hvs : ∃ a n c, v = .slice a n c := by obtain ⟨a, c, e, _⟩ := hR.out; exact ⟨a, _, c, e⟩
      obtain ⟨va, vn, vc, rfl⟩ := hvs
      clear hrow hxs hsl hk0 hxk
      go_wp2_with fail
      refine bodyPost_ret (results_tmp2 rfl _ _ _) rfl ?_
      exact ⟨_, rfl, hR.out, h1.trans hl⟩
set_option maxRecDepth 100000 in
theorem all_no (s : Scn) (M : List Int) (v : Value) (W : World) (hs : s.Ok W) (hv : IntsO W v M) (hmay : mayQ s M = false) :
    Calls Try.prog 27 #[s.V, v] W fun e w' => e = .returned (.tuple #[.slice none 0 0, .int .i64 80]) ∧ Later W w' := by
  obtain ⟨X, hX⟩ : ∃ X, X = W.alloc (.cells s.row.toArray 28) := ⟨_, rfl⟩
  have hlX : Later W X := by rw [hX]; exact (Later.refl W).alloc _
  have kS : ScnB X W.heap.size s := by rw [hX]; exact heap_alloc_new _ _
  have hS2 : (Try.prog.info? 28).map (·.size) = some s.row.toArray.size := by rw [List.size_toArray]; exact size_scn s
  have hMay := Lib.hid (may_any s v M X (hs.later hlX) (hv.later hlX))
  rw [hmay] at hMay
  obtain ⟨ao, mc, rfl⟩ := (show ∃ ao cap, v = .slice ao M.length cap by obtain ⟨ao, cap, rfl, _⟩ := hv; exact ⟨ao, cap, rfl⟩)
  clear hmay
  go_enter Try.func27, Try.ntmps27
  go_upto_region 1 with fail
  rw [← hX]
  clear hX
  go_wp2_with (refine wpList_load_row rfl _ _ rfl W.heap.size rfl _ _ (0, 0) _ kS Try.underlying28 rfl hS2 ?_)
  refine hMay.out.mono ?_
  rintro e w1 ⟨rfl, h1⟩
  go_wp2_with fail
  refine bodyPost_ret (results_tmp2 rfl _ _ _) rfl ?_
  exact ⟨rfl, hlX.trans h1⟩
end Go.Proofs.Ytackbajbladhhaa
