/-
  Chapter 8: the objects that are asked for.
  Chapter 8: a node's objects, and those that change hands.
-/
import Derived.Test.YtackbajbladhhaaGreatShD1
namespace Go.Proofs.YtackbajbladhhaaGreat
open Go.RowKit Go.Shelf
set_option linter.unusedVariables false
set_option linter.unusedSimpArgs false
attribute [local go_sem] Oper.semAt_some

/-- The numbers at the places that are asked for. -/
def pickL (p : Nat → Bool) (I : List Int) (pre : List Nat) : List Int := (pre.filter p).map (I.getD · 0)
theorem pickL_hit {p : Nat → Bool} {I : List Int} {pre : List Nat} {i : Nat} (h : p i = true) : pickL p I (pre ++ [i]) = pickL p I pre ++ [I.getD i 0] := by
  unfold pickL; rw [List.filter_append, List.map_append]; simp [h]
theorem pickL_miss {p : Nat → Bool} {I : List Int} {pre : List Nat} {i : Nat} (h : p i = false) : pickL p I (pre ++ [i]) = pickL p I pre := by
  unfold pickL; rw [List.filter_append, List.map_append]; simp [h]
theorem pickL_length (p : Nat → Bool) (I : List Int) (pre : List Nat) : (pickL p I pre).length ≤ pre.length := by
  unfold pickL; rw [List.length_map]; exact List.length_filter_le _ _
theorem row_ne {W : World} {n₀ e size k b : Nat} {v : Value} {xs : List Value} {c : Array Value} {t : TypeId} {fr : Nat × Nat} (hrow : W.ownsRow n₀ e size v k xs) (hb : W.heap[b]? = some (.cells c t fr)) (hte : t ≠ e) : v.ownBlock ≠ some b := by
  rcases hrow.2 with ⟨rfl, _⟩ | ⟨g, cap, cur, rfl, _, hgb, _⟩
  · simp [Value.ownBlock]
  · intro h
    obtain rfl : g = b := by simpa [Value.ownBlock] using h
    rw [hgb] at hb
    injection hb with hb
    injection hb with h1 h2
    exact hte h2.symm
theorem append_none {X W w1 : World} {n₀ B e size k : Nat} {v v' : Value} {xs : List Value} {tmp : Obj} (h : X.grownBy W none) (hX : X.heap.size ≤ n₀) (hB : X.heap.size ≤ B) (hrow : W.ownsRow n₀ e size v k xs) (hgrow : (W.alloc tmp).grownBy w1 v.ownBlock) :
    X.grownBy (w1.setCell ⟨B, 0, none⟩ v') none := by
  refine grown_none (grown_none (grown_none h (World.grownBy_alloc W tmp none) (fun r e' => by cases e')) hgrow (fun r e' => ?_)) (grownBy_setCell' w1 B v') (fun r e' => by cases e'; exact hB)
  rcases hrow.2 with ⟨rfl, _⟩ | ⟨g, cap, cur, rfl, hb, _, _⟩
  · simp [Value.ownBlock] at e'
  · obtain rfl : g = r := by simpa [Value.ownBlock] using e'
    omega
theorem ownsRow_succ' {W : World} {base e : Nat} {v : Value} {k : Nat} {xs : List Value} (h : W.ownsRow base e 1 v (k + 1) xs) : ∃ g cap, v = .slice (some ⟨g, 0, none⟩) (k + 1) cap := ownsRow_pos h (by omega)

set_option maxRecDepth 100000 in
set_option maxHeartbeats 4000000 in
theorem some_of (C : Nat) (s : Scn) (M : List Int) (v : Value) (p : Nat → Bool) (W : World) (hs : s.Ok W) (hv : IntsO W v M) (hMl : 0 < M.length ∧ M.length ≤ 1000000) (hlen : s.os.length ≤ 1000000)
    (hc : ∀ i V, Later W V → Calls Tryz.prog 22 (#[.int .i64 ((srt (idL s)).getD i 0), .int .i64 (ow M i)] ++ #[wp C]) V fun e w' => e = .returned (.bool (p i)) ∧ Later V w') :
    Calls Tryz.prog 21 #[s.V, v, .func (.func 22) #[] #[wp C]] W fun e w' => ∃ u, e = .returned u ∧ IntsF W.heap.size w' u (selN p (srt (idL s)) s.os.length) ∧ Later W w' := by
  obtain ⟨i0, hi, hz0, hz1, hz2⟩ := info_parts info_int
  have hbl := hv.block_lt hMl.1
  have hS2 : (Tryz.prog.info? 28).map (·.size) = some s.row.toArray.size := by rw [List.size_toArray]; exact size_scn s
  have hv2 := hv
  obtain ⟨ao, mc, rfl, _⟩ := hv2
  obtain ⟨m, hm⟩ : ∃ m, Hid (M.length = m) := ⟨_, rfl⟩
  rw [hm.out] at hv hbl hMl ⊢
  replace hv := Lib.hid hv
  replace hbl := Lib.hid hbl
  have hIl := ids_length s
  obtain ⟨n, hn⟩ : ∃ n, Hid (s.os.length = n) := ⟨_, rfl⟩
  obtain ⟨I, hI⟩ : ∃ I, Hid (srt (idL s) = I) := ⟨_, rfl⟩
  rw [hI.out] at hIl hc ⊢
  rw [hn.out] at hIl ⊢
  obtain ⟨X0, hX0⟩ : ∃ X, X = (W.alloc (.cells s.row.toArray 28)).alloc (.cells #[.func (.func 22) #[] #[wp C]] 61) := ⟨_, rfl⟩
  have hl0 : Later W X0 := by rw [hX0]; exact ((Later.refl W).alloc _).alloc _
  have kS : ScnB X0 W.heap.size s := by rw [hX0]; exact push_one (heap_alloc_new _ _) _
  have kF : X0.heap[W.heap.size + 1]? = some (.cells #[.func (.func 22) #[] #[wp C]] 61 (0, 0)) := by rw [hX0]; exact push_new _ _ (by simp)
  have hs0 : X0.heap.size = W.heap.size + 2 := by rw [hX0]; simp
  refine (callsIn_wide (n := 4)).1 ?_
  refine callsIn_of_wp_marks Tryz.func21 rfl trivial ?_ rfl
  simp only [Tryz.ntmps21, List.size_toArray, List.length_cons, List.length_nil, Nat.reduceAdd, Nat.reduceSub, Array.replicate_succ, Array.replicate_zero, List.push_toArray, List.append_toArray, List.nil_append, List.cons_append]
  refine wpIn_wide.2 ?_
  go_upto_region 1 with fail
  rw [← hX0]
  clear hX0
  go_upto_region 2 with fail
  obtain ⟨X1, hX1⟩ : ∃ X, X = X0.alloc (.cells #[.slice none 0 0] 29) := ⟨_, rfl⟩
  have hs1 : X1.heap.size = X0.heap.size + 1 := by rw [hX1]; simp
  have bO : Boxed X1 X0.heap.size 29 (.slice none 0 0) := by rw [hX1]; exact Boxed.new X0 29 (.slice none 0 0)
  have hl1 : Later X0 X1 := by rw [hX1]; exact (Later.refl _).alloc _
  have y1S := hl1.row kS
  rw [← hX1]
  clear hX1
  first | go_step3 | refine wp_label ?_ | skip
  go_wp2_with (refine wpList_load_row rfl _ _ rfl W.heap.size rfl _ _ (0, 0) _ y1S Tryz.underlying28 rfl hS2 ?_)
  refine (dealt_any s ao m mc _).mono ?_
  rintro e Z1 ⟨rfl, rfl⟩
  obtain ⟨V, hV⟩ : ∃ V, V = (X1.alloc (.cells s.row.toArray 28)).alloc (.cells #[.slice ao m mc] 29) := ⟨_, rfl⟩
  have hlV : Later X1 V := by rw [hV]; exact ((Later.refl X1).alloc _).alloc _
  have vS : ScnB V X1.heap.size s := by rw [hV]; exact push_one (heap_alloc_new _ _) _
  have vR : V.heap[X1.heap.size + 1]? = some (.cells #[.slice ao m mc] 29 (0, 0)) := by rw [hV]; exact push_new _ _ (by simp)
  have hVs : V.heap.size = X1.heap.size + 2 := by rw [hV]; simp
  have bV := Boxed.later bO hlV
  have vF := (hl1.trans hlV).row kF
  have hlXV := hl1.trans hlV
  have hlWV := hl0.trans hlXV
  rw [← hV]
  clear hV
  have HS := Lib.hid (dealt_stops X1.heap.size (X1.heap.size + 1) X0.heap.size s M _ V (hs.later hlWV) hlen (hv.out.later hlWV) (by rw [hm.out]; exact hMl) (by omega) (by omega) (by rw [outOf_cell bV.cell]; rfl)
    (fun g o st len cap e => by have := hbl.out g o st len cap e; omega) vS vR)
  rw [hI.out] at HS
  rw [hn.out] at HS hlen
  obtain ⟨vals, hvals⟩ : ∃ vals, vals = pickL p I := ⟨_, rfl⟩
  have hit : ∀ pre x, p x = true → vals (pre ++ [x]) = vals pre ++ [I.getD x 0] := fun pre x h => by rw [hvals]; exact pickL_hit h
  have miss : ∀ pre x, p x = false → vals (pre ++ [x]) = vals pre := fun pre x h => by rw [hvals]; exact pickL_miss h
  have hvl : ∀ pre, (vals pre).length ≤ pre.length + 1 := fun pre => by rw [hvals]; exact Nat.le_succ_of_le (pickL_length _ _ _)
  have hall : Hid (∀ ys : List Nat, ys = List.range n → vals ys = selN p I n) := Lib.hid (fun ys h => by rw [hvals, h]; rfl)
  have hrow0 : V.ownsRow X0.heap.size 3 1 (.slice none 0 0) (vals []).length (encI (vals [])) := by rw [hvals]; exact World.ownsRow_nil _ _ _ _
  obtain ⟨n₀, hn0⟩ : ∃ n, Hid (X0.heap.size = n) := ⟨_, rfl⟩
  have hn0V : n₀ ≤ X0.heap.size := Nat.le_of_eq hn0.out.symm
  have hVn0 : X0.heap.size ≤ n₀ := Nat.le_of_eq hn0.out
  rw [hn0.out] at hrow0
  obtain ⟨N, hN⟩ : ∃ N, Hid (W.heap.size = N) := ⟨_, rfl⟩
  obtain ⟨F, hF⟩ : ∃ F, Hid (N + 1 = F) := ⟨_, rfl⟩
  obtain ⟨Bo, hBo⟩ : ∃ B, Hid (N + 2 = B) := ⟨_, rfl⟩
  obtain ⟨S', hS'⟩ : ∃ S', Hid (X1.heap.size = S') := ⟨_, rfl⟩
  have hNF : N < F := by have := hF.out; omega
  have hFB : F < Bo := by have := hF.out; have := hN.out; have := hBo.out; omega
  have hBS : Bo < S' := by have := hBo.out; have := hS'.out; have := hN.out; omega
  have hSV : S' + 1 < V.heap.size := by have := hS'.out; omega
  have hWB : W.heap.size ≤ Bo := by have := hBo.out; have := hN.out; omega
  have hX0B : X0.heap.size ≤ Bo := by have := hBo.out; have := hN.out; omega
  have hX0n : X0.heap.size ≤ n₀ := by omega
  rw [hs0] at HS bV
  rw [hN.out] at HS bV vF ⊢
  rw [hF.out] at vF ⊢
  rw [hBo.out] at HS bV ⊢
  rw [hS'.out] at HS ⊢
  replace hWB := Lib.hid hWB
  replace hIl := Lib.hid hIl
  replace hc := Lib.hid hc
  clear hs0 hs1 hVs vS vR hn0 hN hF hBo hS' kS kF y1S bO hl1 hlV hvals hI hn
  go_wp2_with fail
  refine (wpIn_wide (n := 4)).1 ?_
  refine wpIn_rangeFunc_ownG rfl (by omega) (gf := 27) (lb := #[wp S', wp (S' + 1)]) rfl trivial (enters_of Tryz.func27 (by kernel_rfl) rfl)
    HS.out KeepO.trans (fun W l o o' hl ho hc _ => KeepO.putObj o' ho hc (by omega)) (Below.refl _ _) (fun _ => rfl)
    (fun (pre : List Nat) W' => (∃ v, Boxed W' Bo 29 v ∧ W'.ownsRow n₀ 3 1 v (vals pre).length (encI (vals pre)) ∧ True) ∧ X0.grownBy W' none ∧ W'.heap[F]? = some (.cells #[.func (.func 22) #[] #[wp C]] 61 (0, 0)))
    (fun _ _ _ => False)
    (OwnFrom.and (Own.from (holdsRow_own n₀ Bo 29 3 1 (fun pre => (vals pre).length) (fun pre => encI (vals pre)) (fun _ _ => True)) _) (OwnFrom.and (ownFrom_none (by omega)) (ownFrom_row (by omega))))
    (fun _ _ _ _ _ hs _ _ => hs)
    ⟨⟨_, bV, hrow0, trivial⟩, hlXV.grown, vF⟩
    (fun x => { tmps := #[s.V, .slice ao m mc, .func (.func 22) #[] #[wp C], wp N, undef, wp F, .slice none 0 0, wp Bo, .int .i64 (I.getD x 0), .int .i64 (ow M x), .agg s.row.toArray, .slice ao m mc, .func (.func 27) #[] #[wp S', wp (S' + 1)], .int .i64 (I.getD x 0), .int .i64 (ow M x), undef, undef, undef, undef, undef, undef, undef, undef, undef], defers := [] })
    ?assign ?body ?done ?stop
  case assign =>
    intro l x U K hK
    gi_wp2
    exact hK
  case body =>
    rintro l pre x U ⟨⟨u, hu, hrow, _⟩, hG, uF⟩ hlt
    have uf := cell_1 uF
    have hC := Lib.hid (hc.out x U (hl0.trans (Later.of_grown hG)))
    have hUV := hG.size
    obtain ⟨z, hz⟩ : ∃ z, Hid (I.getD x 0 = z) := ⟨_, rfl⟩
    obtain ⟨y, hy⟩ : ∃ y, Hid (ow M x = y) := ⟨_, rfl⟩
    obtain ⟨b, hb⟩ : ∃ b, Hid (p x = b) := ⟨_, rfl⟩
    rw [hz.out, hy.out] at hC ⊢
    rw [hb.out] at hC
    gi_wp2_with fail
    refine ⟨trivial, ?_⟩
    refine (CallsIn.inRound l (callsIn_wide.2 hC.out)).mono ?_
    rintro e U2 ⟨rfl, hl2⟩
    have hBU : Bo < U.heap.size := cell_lt hu.cell
    have k0 : KeepO Bo U U2 := KeepO.later hl2 hBU
    have o0 : KeepsOthers U U2 := KeepsOthers.of_grownBy hl2.grown (fun j o ej => by cases ej)
    replace hu := Boxed.later hu hl2
    replace hrow := hrow.kept hl2.grown (Classical.em _)
    replace hG := grown_none hG hl2.grown (fun r e => by cases e)
    replace uF := hl2.row uF
    have huc := hu.cell
    cases b
    · have hpx := miss pre x hb.out
      clear hC uf hz hy
      gi_wp2_with fail
      exact ⟨o0.from _, k0, ⟨u, hu, by rw [hpx]; first | exact hrow | exact ⟨hrow, trivial⟩⟩, hG, uF⟩
    · have hpx := hit pre x hb.out
      rw [hz.out] at hpx
      have hpl := hvl pre
      have hML : 4000000 < maxLen := by decide
      have hn2 : n₀ ≤ U2.heap.size := by have := hl2.size; omega
      have hFu := (Array.getElem?_eq_some_iff.1 uF).1
      clear hC uf hz hy hl2
      gi_wp2_with (gi_at_builtin; refine wpListIn_append_own_at _ rfl _ _ 29 rfl n₀ 3 i0 (.int .i64 0) 1 8 Tryz.underlying29 hi hz0 hz1 hz2 rfl (by decide) _ _ _ rfl (hrow.alloc _) ⟨U2.heap.size, 0, none⟩ 1 1 [.int .i64 z] rfl rfl (World.news_of_block (heap_alloc_new _ _)) (by simp [Value.oneCell']) (by omega) (by omega) (by simp; omega) ?_; intro v' w1 hown' hgrow _ hat; obtain ⟨g', cap', rfl⟩ := ownsRow_succ' hown'; obtain ⟨hv1, hv3, hr3, hk3, hb3, hg3⟩ := boxed_append hu (by decide) hrow hn2 hown' hgrow; have hc1 := hv1.cell; have hf1 := hv1.frozen)
      have k1 := fun v' => append_block (B := Bo) (v' := v') hgrow hFu (by omega) (row_ne hrow uF (by decide))
      exact ⟨(o0.trans hk3).from _, k0.trans (KeepO.append huc hc1 hgrow hat), ⟨_, hv3, by rw [hpx]; unfold encI at hr3 ⊢; rw [List.map_append, List.length_append]; exact hr3, trivial⟩, append_none hG (by omega) (by omega) hrow hgrow, (k1 _).trans uF⟩
  case done =>
    rintro D ys U hD hys ⟨⟨u, hu, hrow, _⟩, hG, uF⟩ hK
    have huc := hu.cell
    rw [hall.out ys hys] at hrow
    have hX0W := hl0.size
    go_wp2_with fail
    have hWB2 := hWB.out
    have hWD : W.heap.size ≤ D := by omega
    have hGW := grown_none hl0.grown hG (fun r e => by cases e)
    refine ⟨by simp, .inl ⟨_, _, rfl, run_takeDeferred hK, ?_⟩⟩
    exact ⟨_, results_tmp rfl _ _ _, u, rfl, intsF_of_row (ownsRow_putObj hrow _ hK rfl) (by omega), Later.of_grown (grown_none hGW (grownBy_putObj' U D _) (fun r e => by cases e; exact hWD))⟩
  case stop =>
    rintro D c pre W _ _ h _
    exact h.elim
set_option maxRecDepth 100000 in
set_option maxHeartbeats 4000000 in
theorem some_mov (C E : Nat) (s : Scn) (M : List Int) (v : Value) (p : Nat → Bool) (W : World) (hs : s.Ok W) (hv : IntsO W v M) (hMl : 0 < M.length ∧ M.length ≤ 1000000) (hlen : s.os.length ≤ 1000000)
    (hc : ∀ i V, Later W V → Calls Tryz.prog 24 (#[.int .i64 ((srt (idL s)).getD i 0), .int .i64 (ow M i)] ++ #[wp C, wp E]) V fun e w' => e = .returned (.bool (p i)) ∧ Later V w') :
    Calls Tryz.prog 21 #[s.V, v, .func (.func 24) #[] #[wp C, wp E]] W fun e w' => ∃ u, e = .returned u ∧ IntsF W.heap.size w' u (selN p (srt (idL s)) s.os.length) ∧ Later W w' := by
  obtain ⟨i0, hi, hz0, hz1, hz2⟩ := info_parts info_int
  have hbl := hv.block_lt hMl.1
  have hS2 : (Tryz.prog.info? 28).map (·.size) = some s.row.toArray.size := by rw [List.size_toArray]; exact size_scn s
  have hv2 := hv
  obtain ⟨ao, mc, rfl, _⟩ := hv2
  obtain ⟨m, hm⟩ : ∃ m, Hid (M.length = m) := ⟨_, rfl⟩
  rw [hm.out] at hv hbl hMl ⊢
  replace hv := Lib.hid hv
  replace hbl := Lib.hid hbl
  have hIl := ids_length s
  obtain ⟨n, hn⟩ : ∃ n, Hid (s.os.length = n) := ⟨_, rfl⟩
  obtain ⟨I, hI⟩ : ∃ I, Hid (srt (idL s) = I) := ⟨_, rfl⟩
  rw [hI.out] at hIl hc ⊢
  rw [hn.out] at hIl ⊢
  obtain ⟨X0, hX0⟩ : ∃ X, X = (W.alloc (.cells s.row.toArray 28)).alloc (.cells #[.func (.func 24) #[] #[wp C, wp E]] 61) := ⟨_, rfl⟩
  have hl0 : Later W X0 := by rw [hX0]; exact ((Later.refl W).alloc _).alloc _
  have kS : ScnB X0 W.heap.size s := by rw [hX0]; exact push_one (heap_alloc_new _ _) _
  have kF : X0.heap[W.heap.size + 1]? = some (.cells #[.func (.func 24) #[] #[wp C, wp E]] 61 (0, 0)) := by rw [hX0]; exact push_new _ _ (by simp)
  have hs0 : X0.heap.size = W.heap.size + 2 := by rw [hX0]; simp
  refine (callsIn_wide (n := 4)).1 ?_
  refine callsIn_of_wp_marks Tryz.func21 rfl trivial ?_ rfl
  simp only [Tryz.ntmps21, List.size_toArray, List.length_cons, List.length_nil, Nat.reduceAdd, Nat.reduceSub, Array.replicate_succ, Array.replicate_zero, List.push_toArray, List.append_toArray, List.nil_append, List.cons_append]
  refine wpIn_wide.2 ?_
  go_upto_region 1 with fail
  rw [← hX0]
  clear hX0
  go_upto_region 2 with fail
  obtain ⟨X1, hX1⟩ : ∃ X, X = X0.alloc (.cells #[.slice none 0 0] 29) := ⟨_, rfl⟩
  have hs1 : X1.heap.size = X0.heap.size + 1 := by rw [hX1]; simp
  have bO : Boxed X1 X0.heap.size 29 (.slice none 0 0) := by rw [hX1]; exact Boxed.new X0 29 (.slice none 0 0)
  have hl1 : Later X0 X1 := by rw [hX1]; exact (Later.refl _).alloc _
  have y1S := hl1.row kS
  rw [← hX1]
  clear hX1
  first | go_step3 | refine wp_label ?_ | skip
  go_wp2_with (refine wpList_load_row rfl _ _ rfl W.heap.size rfl _ _ (0, 0) _ y1S Tryz.underlying28 rfl hS2 ?_)
  refine (dealt_any s ao m mc _).mono ?_
  rintro e Z1 ⟨rfl, rfl⟩
  obtain ⟨V, hV⟩ : ∃ V, V = (X1.alloc (.cells s.row.toArray 28)).alloc (.cells #[.slice ao m mc] 29) := ⟨_, rfl⟩
  have hlV : Later X1 V := by rw [hV]; exact ((Later.refl X1).alloc _).alloc _
  have vS : ScnB V X1.heap.size s := by rw [hV]; exact push_one (heap_alloc_new _ _) _
  have vR : V.heap[X1.heap.size + 1]? = some (.cells #[.slice ao m mc] 29 (0, 0)) := by rw [hV]; exact push_new _ _ (by simp)
  have hVs : V.heap.size = X1.heap.size + 2 := by rw [hV]; simp
  have bV := Boxed.later bO hlV
  have vF := (hl1.trans hlV).row kF
  have hlXV := hl1.trans hlV
  have hlWV := hl0.trans hlXV
  rw [← hV]
  clear hV
  have HS := Lib.hid (dealt_stops X1.heap.size (X1.heap.size + 1) X0.heap.size s M _ V (hs.later hlWV) hlen (hv.out.later hlWV) (by rw [hm.out]; exact hMl) (by omega) (by omega) (by rw [outOf_cell bV.cell]; rfl)
    (fun g o st len cap e => by have := hbl.out g o st len cap e; omega) vS vR)
  rw [hI.out] at HS
  rw [hn.out] at HS hlen
  obtain ⟨vals, hvals⟩ : ∃ vals, vals = pickL p I := ⟨_, rfl⟩
  have hit : ∀ pre x, p x = true → vals (pre ++ [x]) = vals pre ++ [I.getD x 0] := fun pre x h => by rw [hvals]; exact pickL_hit h
  have miss : ∀ pre x, p x = false → vals (pre ++ [x]) = vals pre := fun pre x h => by rw [hvals]; exact pickL_miss h
  have hvl : ∀ pre, (vals pre).length ≤ pre.length + 1 := fun pre => by rw [hvals]; exact Nat.le_succ_of_le (pickL_length _ _ _)
  have hall : Hid (∀ ys : List Nat, ys = List.range n → vals ys = selN p I n) := Lib.hid (fun ys h => by rw [hvals, h]; rfl)
  have hrow0 : V.ownsRow X0.heap.size 3 1 (.slice none 0 0) (vals []).length (encI (vals [])) := by rw [hvals]; exact World.ownsRow_nil _ _ _ _
  obtain ⟨n₀, hn0⟩ : ∃ n, Hid (X0.heap.size = n) := ⟨_, rfl⟩
  have hn0V : n₀ ≤ X0.heap.size := Nat.le_of_eq hn0.out.symm
  have hVn0 : X0.heap.size ≤ n₀ := Nat.le_of_eq hn0.out
  rw [hn0.out] at hrow0
  obtain ⟨N, hN⟩ : ∃ N, Hid (W.heap.size = N) := ⟨_, rfl⟩
  obtain ⟨F, hF⟩ : ∃ F, Hid (N + 1 = F) := ⟨_, rfl⟩
  obtain ⟨Bo, hBo⟩ : ∃ B, Hid (N + 2 = B) := ⟨_, rfl⟩
  obtain ⟨S', hS'⟩ : ∃ S', Hid (X1.heap.size = S') := ⟨_, rfl⟩
  have hNF : N < F := by have := hF.out; omega
  have hFB : F < Bo := by have := hF.out; have := hN.out; have := hBo.out; omega
  have hBS : Bo < S' := by have := hBo.out; have := hS'.out; have := hN.out; omega
  have hSV : S' + 1 < V.heap.size := by have := hS'.out; omega
  have hWB : W.heap.size ≤ Bo := by have := hBo.out; have := hN.out; omega
  have hX0B : X0.heap.size ≤ Bo := by have := hBo.out; have := hN.out; omega
  have hX0n : X0.heap.size ≤ n₀ := by omega
  rw [hs0] at HS bV
  rw [hN.out] at HS bV vF ⊢
  rw [hF.out] at vF ⊢
  rw [hBo.out] at HS bV ⊢
  rw [hS'.out] at HS ⊢
  replace hWB := Lib.hid hWB
  replace hIl := Lib.hid hIl
  replace hc := Lib.hid hc
  clear hs0 hs1 hVs vS vR hn0 hN hF hBo hS' kS kF y1S bO hl1 hlV hvals hI hn
  go_wp2_with fail
  refine (wpIn_wide (n := 4)).1 ?_
  refine wpIn_rangeFunc_ownG rfl (by omega) (gf := 27) (lb := #[wp S', wp (S' + 1)]) rfl trivial (enters_of Tryz.func27 (by kernel_rfl) rfl)
    HS.out KeepO.trans (fun W l o o' hl ho hc _ => KeepO.putObj o' ho hc (by omega)) (Below.refl _ _) (fun _ => rfl)
    (fun (pre : List Nat) W' => (∃ v, Boxed W' Bo 29 v ∧ W'.ownsRow n₀ 3 1 v (vals pre).length (encI (vals pre)) ∧ True) ∧ X0.grownBy W' none ∧ W'.heap[F]? = some (.cells #[.func (.func 24) #[] #[wp C, wp E]] 61 (0, 0)))
    (fun _ _ _ => False)
    (OwnFrom.and (Own.from (holdsRow_own n₀ Bo 29 3 1 (fun pre => (vals pre).length) (fun pre => encI (vals pre)) (fun _ _ => True)) _) (OwnFrom.and (ownFrom_none (by omega)) (ownFrom_row (by omega))))
    (fun _ _ _ _ _ hs _ _ => hs)
    ⟨⟨_, bV, hrow0, trivial⟩, hlXV.grown, vF⟩
    (fun x => { tmps := #[s.V, .slice ao m mc, .func (.func 24) #[] #[wp C, wp E], wp N, undef, wp F, .slice none 0 0, wp Bo, .int .i64 (I.getD x 0), .int .i64 (ow M x), .agg s.row.toArray, .slice ao m mc, .func (.func 27) #[] #[wp S', wp (S' + 1)], .int .i64 (I.getD x 0), .int .i64 (ow M x), undef, undef, undef, undef, undef, undef, undef, undef, undef], defers := [] })
    ?assign ?body ?done ?stop
  case assign =>
    intro l x U K hK
    gi_wp2
    exact hK
  case body =>
    rintro l pre x U ⟨⟨u, hu, hrow, _⟩, hG, uF⟩ hlt
    have uf := cell_1 uF
    have hC := Lib.hid (hc.out x U (hl0.trans (Later.of_grown hG)))
    have hUV := hG.size
    obtain ⟨z, hz⟩ : ∃ z, Hid (I.getD x 0 = z) := ⟨_, rfl⟩
    obtain ⟨y, hy⟩ : ∃ y, Hid (ow M x = y) := ⟨_, rfl⟩
    obtain ⟨b, hb⟩ : ∃ b, Hid (p x = b) := ⟨_, rfl⟩
    rw [hz.out, hy.out] at hC ⊢
    rw [hb.out] at hC
    gi_wp2_with fail
    refine ⟨trivial, ?_⟩
    refine (CallsIn.inRound l (callsIn_wide.2 hC.out)).mono ?_
    rintro e U2 ⟨rfl, hl2⟩
    have hBU : Bo < U.heap.size := cell_lt hu.cell
    have k0 : KeepO Bo U U2 := KeepO.later hl2 hBU
    have o0 : KeepsOthers U U2 := KeepsOthers.of_grownBy hl2.grown (fun j o ej => by cases ej)
    replace hu := Boxed.later hu hl2
    replace hrow := hrow.kept hl2.grown (Classical.em _)
    replace hG := grown_none hG hl2.grown (fun r e => by cases e)
    replace uF := hl2.row uF
    have huc := hu.cell
    cases b
    · have hpx := miss pre x hb.out
      clear hC uf hz hy
      gi_wp2_with fail
      exact ⟨o0.from _, k0, ⟨u, hu, by rw [hpx]; first | exact hrow | exact ⟨hrow, trivial⟩⟩, hG, uF⟩
    · have hpx := hit pre x hb.out
      rw [hz.out] at hpx
      have hpl := hvl pre
      have hML : 4000000 < maxLen := by decide
      have hn2 : n₀ ≤ U2.heap.size := by have := hl2.size; omega
      have hFu := (Array.getElem?_eq_some_iff.1 uF).1
      clear hC uf hz hy hl2
      gi_wp2_with (gi_at_builtin; refine wpListIn_append_own_at _ rfl _ _ 29 rfl n₀ 3 i0 (.int .i64 0) 1 8 Tryz.underlying29 hi hz0 hz1 hz2 rfl (by decide) _ _ _ rfl (hrow.alloc _) ⟨U2.heap.size, 0, none⟩ 1 1 [.int .i64 z] rfl rfl (World.news_of_block (heap_alloc_new _ _)) (by simp [Value.oneCell']) (by omega) (by omega) (by simp; omega) ?_; intro v' w1 hown' hgrow _ hat; obtain ⟨g', cap', rfl⟩ := ownsRow_succ' hown'; obtain ⟨hv1, hv3, hr3, hk3, hb3, hg3⟩ := boxed_append hu (by decide) hrow hn2 hown' hgrow; have hc1 := hv1.cell; have hf1 := hv1.frozen)
      have k1 := fun v' => append_block (B := Bo) (v' := v') hgrow hFu (by omega) (row_ne hrow uF (by decide))
      exact ⟨(o0.trans hk3).from _, k0.trans (KeepO.append huc hc1 hgrow hat), ⟨_, hv3, by rw [hpx]; unfold encI at hr3 ⊢; rw [List.map_append, List.length_append]; exact hr3, trivial⟩, append_none hG (by omega) (by omega) hrow hgrow, (k1 _).trans uF⟩
  case done =>
    rintro D ys U hD hys ⟨⟨u, hu, hrow, _⟩, hG, uF⟩ hK
    have huc := hu.cell
    rw [hall.out ys hys] at hrow
    have hX0W := hl0.size
    go_wp2_with fail
    have hWB2 := hWB.out
    have hWD : W.heap.size ≤ D := by omega
    have hGW := grown_none hl0.grown hG (fun r e => by cases e)
    refine ⟨by simp, .inl ⟨_, _, rfl, run_takeDeferred hK, ?_⟩⟩
    exact ⟨_, results_tmp rfl _ _ _, u, rfl, intsF_of_row (ownsRow_putObj hrow _ hK rfl) (by omega), Later.of_grown (grown_none hGW (grownBy_putObj' U D _) (fun r e => by cases e; exact hWD))⟩
  case stop =>
    rintro D c pre W _ _ h _
    exact h.elim
end Go.Proofs.YtackbajbladhhaaGreat
namespace Go.Proofs.YtackbajbladhhaaGreat
open Go.RowKit Go.Shelf
set_option linter.unusedVariables false
set_option linter.unusedSimpArgs false
attribute [local go_sem] Oper.semAt_some

theorem of1_any (x y node : Int) (C : Nat) (V : World) (hC : V.heap[C]? = some (.cells #[.int .i64 node] 3 (0, 0))) :
    Calls Tryz.prog 22 #[.int .i64 x, .int .i64 y, wp C] V fun e w' => e = .returned (.bool (y == node)) ∧ Later V w' := by
  have hc := cell_1 hC
  go_enter Tryz.func22, Tryz.ntmps22
  go_wp2_with fail
  go_ret
  exact ⟨rfl, Later.refl _⟩
set_option maxRecDepth 100000 in
theorem mov1_any (s : Scn) (M : List Int) (v : Value) (x y : Int) (C E : Nat) (V : World) (hs : s.Ok V) (hv : IntsO V v M) (hC : ScnB V C s) (hE : V.heap[E]? = some (.cells #[v] 29 (0, 0))) :
    Calls Tryz.prog 24 #[.int .i64 x, .int .i64 y, wp C, wp E] V fun e w' => e = .returned (.bool (!((ownE s M x).1 == y))) ∧ Later V w' := by
  have hO := Lib.hid (owner_any s M v x V hs hv)
  obtain ⟨a, ha⟩ : ∃ a, Hid ((ownE s M x).1 = a) := ⟨_, rfl⟩
  obtain ⟨b, hb⟩ : ∃ b, Hid ((ownE s M x).2 = b) := ⟨_, rfl⟩
  rw [ha.out, hb.out] at hO
  rw [ha.out]
  obtain ⟨ao, mc, rfl, _⟩ := hv
  have hc := cell_1 hE
  have hS2 : (Tryz.prog.info? 28).map (·.size) = some s.row.toArray.size := by rw [List.size_toArray]; exact size_scn s
  go_enter Tryz.func24, Tryz.ntmps24
  go_wp2_with (refine wpList_load_row rfl _ _ rfl C rfl _ _ (0, 0) _ hC Tryz.underlying28 rfl hS2 ?_)
  refine hO.out.mono ?_
  rintro e w' ⟨rfl, hl⟩
  go_wp2_with fail
  go_ret
  exact ⟨rfl, hl⟩
set_option maxRecDepth 100000 in
set_option maxHeartbeats 1000000 in
theorem of_yes (s : Scn) (M : List Int) (v : Value) (node : Int) (W : World) (hs : s.Ok W) (hv : IntsO W v M) (hmay : mayQ s M = true) (hin : M.contains node = true) :
    Calls Tryz.prog 7 #[s.V, v, .int .i64 node] W fun e w' => ∃ u, e = .returned (.tuple #[u, .int .i64 0]) ∧ IntsF W.heap.size w' u (ofQ (srt (idL s)) M node) ∧ Later W w' := by
  obtain ⟨X, hX⟩ : ∃ X, X = (W.alloc (.cells s.row.toArray 28)).alloc (.cells #[.int .i64 node] 3) := ⟨_, rfl⟩
  have hlX : Later W X := by rw [hX]; exact ((Later.refl W).alloc _).alloc _
  have kS : ScnB X W.heap.size s := by rw [hX]; exact push_one (heap_alloc_new _ _) _
  have kI : X.heap[W.heap.size + 1]? = some (.cells #[.int .i64 node] 3 (0, 0)) := by rw [hX]; exact push_new _ _ (by simp)
  have hS2 : (Tryz.prog.info? 28).map (·.size) = some s.row.toArray.size := by rw [List.size_toArray]; exact size_scn s
  have hMay := Lib.hid (may_any s v M X (hs.later hlX) (hv.later hlX))
  rw [hmay] at hMay
  obtain ⟨hmem, hwr⟩ := may_parts hmay
  have hmem2 := (mem_may hmem).1
  have hos := (right_all hwr).1
  have hCon := Lib.hid (fun V (h : Later W V) => contains_any v M node V (hv.later h) (by have := mem_length hmem; omega) hmem2)
  rw [hin] at hCon
  have hSome := Lib.hid (fun V (h : Later X V) => some_of (W.heap.size + 1) s M v (fun i => ow M i == node) V (hs.later (hlX.trans h)) (hv.later (hlX.trans h)) ⟨hmem2, by have := mem_length hmem; omega⟩ (by omega)
    (fun i U hU => of1_any _ _ node (W.heap.size + 1) U ((h.trans hU).row kI)))
  have kIc := cell_1 kI
  obtain ⟨L, hL⟩ : ∃ L, Hid (ofQ (srt (idL s)) M node = L) := ⟨_, rfl⟩
  rw [show selN (fun i => ow M i == node) (srt (idL s)) s.os.length = ofQ (srt (idL s)) M node from by unfold ofQ; rw [ids_length], hL.out] at hSome
  rw [hL.out]
  obtain ⟨ao, mc, rfl, _⟩ := hv
  clear hmay hin hmem hwr
  go_enter Tryz.func7, Tryz.ntmps7
  go_upto_region 1 with fail
  rw [← hX]
  clear hX
  go_wp2_with (refine wpList_load_row rfl _ _ rfl W.heap.size rfl _ _ (0, 0) _ kS Tryz.underlying28 rfl hS2 ?_)
  refine hMay.out.mono ?_
  rintro e w1 ⟨rfl, h1⟩
  have kIc1 := h1.cell kIc
  have kS1 := h1.row kS
  go_wp2_with fail
  refine (hCon.out _ (hlX.trans h1)).mono ?_
  rintro e w2 ⟨rfl, rfl⟩
  go_wp2_with (refine wpList_load_row rfl _ _ rfl W.heap.size rfl _ _ (0, 0) _ kS1 Tryz.underlying28 rfl hS2 ?_)
  refine (hSome.out _ h1).mono ?_
  rintro e w3 ⟨u, rfl, hu, h3⟩
  obtain ⟨⟨bo, bc, rfl, hbc⟩, hF⟩ := hu
  have hbc := Lib.hid hbc
  go_wp2_with fail
  refine bodyPost_ret (results_tmp2 rfl _ _ _) rfl ?_
  exact ⟨_, rfl, ⟨⟨bo, bc, rfl, hbc.out⟩, fun g o st len cap e => by have := hF.1 g o st len cap e; have := (hlX.trans h1).size; omega, hF.2⟩, (hlX.trans h1).trans h3⟩
set_option maxRecDepth 100000 in
set_option maxHeartbeats 1000000 in
theorem of_no (s : Scn) (M : List Int) (v : Value) (node : Int) (W : World) (hs : s.Ok W) (hv : IntsO W v M) (hno : (mayQ s M && M.contains node) = false) :
    Calls Tryz.prog 7 #[s.V, v, .int .i64 node] W fun e w' => e = .returned (.tuple #[.slice none 0 0, .int .i64 80]) ∧ Later W w' := by
  obtain ⟨X, hX⟩ : ∃ X, X = (W.alloc (.cells s.row.toArray 28)).alloc (.cells #[.int .i64 node] 3) := ⟨_, rfl⟩
  have hlX : Later W X := by rw [hX]; exact ((Later.refl W).alloc _).alloc _
  have kS : ScnB X W.heap.size s := by rw [hX]; exact push_one (heap_alloc_new _ _) _
  have kI : X.heap[W.heap.size + 1]? = some (.cells #[.int .i64 node] 3 (0, 0)) := by rw [hX]; exact push_new _ _ (by simp)
  have hS2 : (Tryz.prog.info? 28).map (·.size) = some s.row.toArray.size := by rw [List.size_toArray]; exact size_scn s
  have hMay := Lib.hid (may_any s v M X (hs.later hlX) (hv.later hlX))
  have kIc := cell_1 kI
  cases hmay : mayQ s M with
  | false =>
    rw [hmay] at hMay
    obtain ⟨ao, mc, rfl, _⟩ := hv
    clear hmay hno
    go_enter Tryz.func7, Tryz.ntmps7
    go_upto_region 1 with fail
    rw [← hX]
    clear hX
    go_wp2_with (refine wpList_load_row rfl _ _ rfl W.heap.size rfl _ _ (0, 0) _ kS Tryz.underlying28 rfl hS2 ?_)
    refine hMay.out.mono ?_
    rintro e w1 ⟨rfl, h1⟩
    go_wp2_with fail
    refine bodyPost_ret (results_tmp2 rfl _ _ _) rfl ?_
    exact ⟨rfl, hlX.trans h1⟩
  | true =>
    rw [hmay] at hMay hno
    obtain ⟨hmem, hwr⟩ := may_parts hmay
    have hmem2 := (mem_may hmem).1
    have hin : M.contains node = false := hno
    have hCon := Lib.hid (fun V (h : Later W V) => contains_any v M node V (hv.later h) (by have := mem_length hmem; omega) hmem2)
    rw [hin] at hCon
    obtain ⟨ao, mc, rfl, _⟩ := hv
    clear hmay hin hmem hwr hno
    go_enter Tryz.func7, Tryz.ntmps7
    go_upto_region 1 with fail
    rw [← hX]
    clear hX
    go_wp2_with (refine wpList_load_row rfl _ _ rfl W.heap.size rfl _ _ (0, 0) _ kS Tryz.underlying28 rfl hS2 ?_)
    refine hMay.out.mono ?_
    rintro e w1 ⟨rfl, h1⟩
    have kIc1 := h1.cell kIc
    go_wp2_with fail
    refine (hCon.out _ (hlX.trans h1)).mono ?_
    rintro e w2 ⟨rfl, rfl⟩
    go_wp2_with fail
    refine bodyPost_ret (results_tmp2 rfl _ _ _) rfl ?_
    exact ⟨rfl, hlX.trans h1⟩
set_option maxRecDepth 100000 in
set_option maxHeartbeats 1000000 in
theorem mov_yes (s : Scn) (A B : List Int) (v u : Value) (W : World) (hs : s.Ok W) (hv : IntsO W v A) (hu : IntsO W u B) (hmay : mayQ s A = true) (hB : memB B = true) :
    Calls Tryz.prog 9 #[s.V, v, u] W fun e w' => ∃ z, e = .returned (.tuple #[z, .int .i64 0]) ∧ IntsF W.heap.size w' z (movQ (srt (idL s)) A B) ∧ Later W w' := by
  obtain ⟨ao, mc, rfl, hcA⟩ := hv
  obtain ⟨bo, nc, rfl, hcB⟩ := hu
  have hv : IntsO W (.slice ao A.length mc) A := ⟨ao, mc, rfl, hcA⟩
  have hu : IntsO W (.slice bo B.length nc) B := ⟨bo, nc, rfl, hcB⟩
  clear hcA hcB
  obtain ⟨X, hX⟩ : ∃ X, X = (W.alloc (.cells s.row.toArray 28)).alloc (.cells #[.slice bo B.length nc] 29) := ⟨_, rfl⟩
  have hlX : Later W X := by rw [hX]; exact ((Later.refl W).alloc _).alloc _
  have kS : ScnB X W.heap.size s := by rw [hX]; exact push_one (heap_alloc_new _ _) _
  have kI : X.heap[W.heap.size + 1]? = some (.cells #[.slice bo B.length nc] 29 (0, 0)) := by rw [hX]; exact push_new _ _ (by simp)
  have hS2 : (Tryz.prog.info? 28).map (·.size) = some s.row.toArray.size := by rw [List.size_toArray]; exact size_scn s
  have hMay := Lib.hid (may_any s _ A X (hs.later hlX) (hv.later hlX))
  have hMem := Lib.hid (fun V (h : Later W V) => members_any _ B V (hu.later h))
  have kIc := cell_1 kI
  rw [hmay] at hMay
  rw [hB] at hMem
  obtain ⟨hmem, hwr⟩ := may_parts hmay
  have hmem2 := (mem_may hmem).1
  have hos := (right_all hwr).1
  have hmayB : mayQ s B = true := by unfold mayQ; rw [hB]; simp [hwr]
  have hp : ∀ x, (ownE s B x).1 = ownR (srt (idL s)) B x := fun x => by
    unfold ownE ownR
    rw [if_pos hmayB]
    split <;> rfl
  have hSome := Lib.hid (fun V (h : Later X V) => some_mov W.heap.size (W.heap.size + 1) s A _ (fun i => !(ownR (srt (idL s)) B ((srt (idL s)).getD i 0) == ow A i)) V (hs.later (hlX.trans h)) (hv.later (hlX.trans h)) ⟨hmem2, by have := mem_length hmem; omega⟩ (by omega)
    (fun i U hU => by
      have := mov1_any s B _ ((srt (idL s)).getD i 0) (ow A i) W.heap.size (W.heap.size + 1) U (hs.later ((hlX.trans h).trans hU)) (hu.later ((hlX.trans h).trans hU)) ((h.trans hU).row kS) ((h.trans hU).row kI)
      rw [hp] at this
      exact this))
  obtain ⟨L, hL⟩ : ∃ L, Hid (movQ (srt (idL s)) A B = L) := ⟨_, rfl⟩
  rw [show selN (fun i => !(ownR (srt (idL s)) B ((srt (idL s)).getD i 0) == ow A i)) (srt (idL s)) s.os.length = movQ (srt (idL s)) A B from by unfold movQ; rw [ids_length], hL.out] at hSome
  rw [hL.out]
  clear hmay hB hmem hwr hmayB hp hv hu
  go_enter Tryz.func9, Tryz.ntmps9
  go_upto_region 1 with fail
  rw [← hX]
  clear hX
  go_wp2_with (refine wpList_load_row rfl _ _ rfl W.heap.size rfl _ _ (0, 0) _ kS Tryz.underlying28 rfl hS2 ?_)
  refine hMay.out.mono ?_
  rintro e w1 ⟨rfl, h1⟩
  have kIc1 := h1.cell kIc
  have kS1 := h1.row kS
  go_wp2_with fail
  refine (hMem.out _ (hlX.trans h1)).mono ?_
  rintro e w2 ⟨rfl, rfl⟩
  go_wp2_with (refine wpList_load_row rfl _ _ rfl W.heap.size rfl _ _ (0, 0) _ kS1 Tryz.underlying28 rfl hS2 ?_)
  refine (hSome.out _ h1).mono ?_
  rintro e w3 ⟨z, rfl, hz, h3⟩
  obtain ⟨⟨zo, zc, rfl, hzc⟩, hF⟩ := hz
  have hzc := Lib.hid hzc
  go_wp2_with fail
  refine bodyPost_ret (results_tmp2 rfl _ _ _) rfl ?_
  exact ⟨_, rfl, ⟨⟨zo, zc, rfl, hzc.out⟩, fun g o st len cap e => by have := hF.1 g o st len cap e; have := (hlX.trans h1).size; omega, hF.2⟩, (hlX.trans h1).trans h3⟩
set_option maxRecDepth 100000 in
set_option maxHeartbeats 1000000 in
theorem mov_no (s : Scn) (A B : List Int) (v u : Value) (W : World) (hs : s.Ok W) (hv : IntsO W v A) (hu : IntsO W u B) (hno : (mayQ s A && memB B) = false) :
    Calls Tryz.prog 9 #[s.V, v, u] W fun e w' => e = .returned (.tuple #[.slice none 0 0, .int .i64 80]) ∧ Later W w' := by
  obtain ⟨ao, mc, rfl, hcA⟩ := hv
  obtain ⟨bo, nc, rfl, hcB⟩ := hu
  have hv : IntsO W (.slice ao A.length mc) A := ⟨ao, mc, rfl, hcA⟩
  have hu : IntsO W (.slice bo B.length nc) B := ⟨bo, nc, rfl, hcB⟩
  clear hcA hcB
  obtain ⟨X, hX⟩ : ∃ X, X = (W.alloc (.cells s.row.toArray 28)).alloc (.cells #[.slice bo B.length nc] 29) := ⟨_, rfl⟩
  have hlX : Later W X := by rw [hX]; exact ((Later.refl W).alloc _).alloc _
  have kS : ScnB X W.heap.size s := by rw [hX]; exact push_one (heap_alloc_new _ _) _
  have kI : X.heap[W.heap.size + 1]? = some (.cells #[.slice bo B.length nc] 29 (0, 0)) := by rw [hX]; exact push_new _ _ (by simp)
  have hS2 : (Tryz.prog.info? 28).map (·.size) = some s.row.toArray.size := by rw [List.size_toArray]; exact size_scn s
  have hMay := Lib.hid (may_any s _ A X (hs.later hlX) (hv.later hlX))
  have hMem := Lib.hid (fun V (h : Later W V) => members_any _ B V (hu.later h))
  have kIc := cell_1 kI
  cases hmay : mayQ s A with
  | false =>
    rw [hmay] at hMay
    clear hmay hno hv hu
    go_enter Tryz.func9, Tryz.ntmps9
    go_upto_region 1 with fail
    rw [← hX]
    clear hX
    go_wp2_with (refine wpList_load_row rfl _ _ rfl W.heap.size rfl _ _ (0, 0) _ kS Tryz.underlying28 rfl hS2 ?_)
    refine hMay.out.mono ?_
    rintro e w1 ⟨rfl, h1⟩
    go_wp2_with fail
    refine bodyPost_ret (results_tmp2 rfl _ _ _) rfl ?_
    exact ⟨rfl, hlX.trans h1⟩
  | true =>
    rw [hmay] at hMay hno
    have hB : memB B = false := hno
    rw [hB] at hMem
    clear hmay hno hv hu hB
    go_enter Tryz.func9, Tryz.ntmps9
    go_upto_region 1 with fail
    rw [← hX]
    clear hX
    go_wp2_with (refine wpList_load_row rfl _ _ rfl W.heap.size rfl _ _ (0, 0) _ kS Tryz.underlying28 rfl hS2 ?_)
    refine hMay.out.mono ?_
    rintro e w1 ⟨rfl, h1⟩
    have kIc1 := h1.cell kIc
    go_wp2_with fail
    refine (hMem.out _ (hlX.trans h1)).mono ?_
    rintro e w2 ⟨rfl, rfl⟩
    go_wp2_with fail
    refine bodyPost_ret (results_tmp2 rfl _ _ _) rfl ?_
    exact ⟨rfl, hlX.trans h1⟩
end Go.Proofs.YtackbajbladhhaaGreat
