/-
  Chapter 11: Cells, the program's, where there is no error.
-/
import Derived.Test.YtmpnojgciaoghaaCovG
namespace Go.Proofs.Ytmpnojgciaoghaa
open Go.RowKit Go.Shelf
set_option linter.unusedVariables false
set_option linter.unusedSimpArgs false
attribute [local go_sem] Oper.semAt_some

set_option maxRecDepth 100000 in
set_option maxHeartbeats 2000000 in
theorem covCells_ok (a b c : C3) (w h : Int) (W : World) (hm : Hid (may3 a b c = true)) (ha : MayP a) (hb : MayP b) (hc : MayP c) (hh : 1 ≤ h ∧ h ≤ 64) (hw : 1 ≤ w ∧ w ≤ 64) :
    Calls Try.prog 17 #[tri a b c, .int .i64 w, .int .i64 h] W (CellsRet (covL a b c w h) 0 W) := by
  have HP := Lib.hid (fun T Hb Wb n₀ o w0 h1 h2 h3 => pixels_stops T Hb Wb n₀ o a b c w h w0 ha hb hc hh hw h1 h2 h3)
  obtain ⟨i0, hi, hz0, hz1, hz2⟩ := info_parts info_cell
  clear ha hb hc
  refine (callsIn_wide (n := 4)).1 ?_
  refine callsIn_of_wp_marks Try.func17 rfl trivial ?_ rfl
  simp only [Try.ntmps17, List.size_toArray, List.length_cons, List.length_nil, Nat.reduceAdd, Nat.reduceSub, Array.replicate_succ, Array.replicate_zero, List.push_toArray, List.append_toArray, List.nil_append, List.cons_append]
  refine wpIn_wide.2 ?_
  obtain ⟨hh1, hh2⟩ := hh
  obtain ⟨hw1, hw2⟩ := hw
  go_wp2_with fail
  go_step3
  obtain ⟨X0, hX0⟩ : ∃ X, X = W.alloc (.cells #[.int .i64 a.x, .int .i64 a.y, .int .i64 a.z, .int .i64 b.x, .int .i64 b.y, .int .i64 b.z, .int .i64 c.x, .int .i64 c.y, .int .i64 c.z] 24) := ⟨_, rfl⟩
  have t0 : X0.cell? ⟨W.heap.size, 0, none⟩ = some (.int .i64 a.x) := by rw [hX0]; simp
  have t1 : X0.cell? ⟨W.heap.size, 1, none⟩ = some (.int .i64 a.y) := by rw [hX0]; simp
  have t2 : X0.cell? ⟨W.heap.size, 2, none⟩ = some (.int .i64 a.z) := by rw [hX0]; simp
  have t3 : X0.cell? ⟨W.heap.size, 3, none⟩ = some (.int .i64 b.x) := by rw [hX0]; simp
  have t4 : X0.cell? ⟨W.heap.size, 4, none⟩ = some (.int .i64 b.y) := by rw [hX0]; simp
  have t5 : X0.cell? ⟨W.heap.size, 5, none⟩ = some (.int .i64 b.z) := by rw [hX0]; simp
  have t6 : X0.cell? ⟨W.heap.size, 6, none⟩ = some (.int .i64 c.x) := by rw [hX0]; simp
  have t7 : X0.cell? ⟨W.heap.size, 7, none⟩ = some (.int .i64 c.y) := by rw [hX0]; simp
  have t8 : X0.cell? ⟨W.heap.size, 8, none⟩ = some (.int .i64 c.z) := by rw [hX0]; simp
  have hL0 : Later W X0 := by rw [hX0]; exact (Later.refl _).alloc _
  have hlt0 : W.heap.size < X0.heap.size := by rw [hX0]; simp
  rw [← hX0]
  clear hX0
  go_upto_region 1 with fail
  go_cut [14] from 15 to 24 (fun u wx => u = .bool false ∧ wx = X0)
  case first =>
    go_wp2_with fail
    all_goals (go_meet; exact ⟨bool_v (by simp; omega), rfl⟩)
  case rest =>
    obtain ⟨rfl, rfl⟩ := hcut
    go_wp2_with fail
    refine (covMay3_any a b c _).mono ?_
    rintro e w1 ⟨rfl, h1⟩
    rw [show (mayB a && mayB b && mayB c) = true from hm.out]
    replace t0 := h1.cell t0
    replace t1 := h1.cell t1
    replace t2 := h1.cell t2
    replace t3 := h1.cell t3
    replace t4 := h1.cell t4
    replace t5 := h1.cell t5
    replace t6 := h1.cell t6
    replace t7 := h1.cell t7
    replace t8 := h1.cell t8
    go_wp2_with fail
    refine (made_any a b c _).mono ?_
    rintro e w2 ⟨B, rfl, h2, hS⟩
    replace t0 := h2.cell t0
    replace t1 := h2.cell t1
    replace t2 := h2.cell t2
    replace t3 := h2.cell t3
    replace t4 := h2.cell t4
    replace t5 := h2.cell t5
    replace t6 := h2.cell t6
    replace t7 := h2.cell t7
    replace t8 := h2.cell t8
    go_wp2_with fail
    go_step3
    obtain ⟨X1, hX1⟩ : ∃ X, X = (w2.alloc (.cells #[.pointer (some ⟨B, 0, none⟩)] 61)).alloc (.cells #[.slice none 0 0] 37) := ⟨_, rfl⟩
    have hlX : Later w2 X1 := by rw [hX1]; exact ((Later.refl _).alloc _).alloc _
    have tS : X1.cell? ⟨w2.heap.size, 0, none⟩ = some (.pointer (some ⟨B, 0, none⟩)) := by rw [hX1]; simp
    have bO : Boxed X1 (w2.heap.size + 1) 37 (.slice none 0 0) := by rw [hX1]; have := Boxed.new (w2.alloc (.cells #[.pointer (some ⟨B, 0, none⟩)] 61)) 37 (.slice none 0 0); rwa [World.size_alloc] at this
    replace hS := hS.later hlX
    have hLW : Later W X1 := ((hL0.trans h1).trans h2).trans hlX
    have hsz : W.heap.size ≤ w2.heap.size := ((hL0.trans h1).trans h2).size
    replace t0 := hlX.cell t0
    replace t1 := hlX.cell t1
    replace t2 := hlX.cell t2
    replace t3 := hlX.cell t3
    replace t4 := hlX.cell t4
    replace t5 := hlX.cell t5
    replace t6 := hlX.cell t6
    replace t7 := hlX.cell t7
    replace t8 := hlX.cell t8
    rw [← hX1]
    clear hX1 hlX h1 h2 hL0 hlt0
    go_wp2_with fail
    refine (pixels_any a b c w h _).mono ?_
    rintro e w3 ⟨rfl, rfl⟩
    obtain ⟨X2, hX2⟩ : ∃ X, X = ((X1.alloc (.cells #[.int .i64 a.x, .int .i64 a.y, .int .i64 a.z, .int .i64 b.x, .int .i64 b.y, .int .i64 b.z, .int .i64 c.x, .int .i64 c.y, .int .i64 c.z] 24)).alloc (.cells #[.int .i64 w] 3)).alloc (.cells #[.int .i64 h] 3) := ⟨_, rfl⟩
    have hlX2 : Later X1 X2 := by rw [hX2]; exact (((Later.refl _).alloc _).alloc _).alloc _
    have z1 : w2.heap.size + 1 < X1.heap.size := bO.lt
    have z2 : X2.heap.size = X1.heap.size + 1 + 1 + 1 := by rw [hX2]; simp
    have HS := Lib.hid (HP.out X1.heap.size (X1.heap.size + 1 + 1) (X1.heap.size + 1) X2.heap.size (w2.heap.size + 1) X2 (by omega) (by omega) (by omega) (by rw [hX2]; simp) (by rw [hX2]; simp) (by rw [hX2]; simp) (by rw [hX2]; simp) (by rw [hX2]; simp) (by rw [hX2]; simp) (by rw [hX2]; simp) (by rw [hX2]; simp))
    clear HP
    replace hS := hS.later hlX2
    replace tS := hlX2.cell tS
    have bO2 : Boxed X2 (w2.heap.size + 1) 37 (.slice none 0 0) := by rw [hX2]; exact ((bO.alloc _).alloc _).alloc _
    have hLW2 : Later W X2 := hLW.trans hlX2
    rw [← hX2]
    clear hX2 t0 t1 t2 t3 t4 t5 t6 t7 t8 bO hLW hlX2
    go_wp2_with fail
    refine (wpIn_wide (n := 4)).1 ?_
    refine wpIn_rangeFunc_ownG rfl (by omega) (gf := 36) (lb := #[.pointer (some ⟨X1.heap.size, 0, none⟩), .pointer (some ⟨X1.heap.size + 1 + 1, 0, none⟩), .pointer (some ⟨X1.heap.size + 1, 0, none⟩)]) rfl trivial (enters_of Try.func36 (by kernel_rfl) rfl)
      HS.out Apart.trans (fun W l o o' hl _ _ _ => Apart.putObj W l o' hl) (Below.refl _ _) (fun _ => rfl)
      (fun pre W' => (∃ v, Boxed W' (w2.heap.size + 1) 37 v ∧ W'.ownsRow X2.heap.size 57 3 v (pixL a b c pre).length (encs (pixL a b c pre)) ∧ True) ∧ X2.grownBy W' (some (w2.heap.size + 1)))
      (fun _ _ _ => False)
      (OwnFrom.and (Own.from (holdsRow_own X2.heap.size (w2.heap.size + 1) 37 57 3 (fun pre => (pixL a b c pre).length) (fun pre => encs (pixL a b c pre)) (fun _ _ => True)) _) (ownFrom_grown (Nat.le_refl _)))
      (fun _ _ _ _ _ hs _ _ => hs)
      ⟨⟨_, bO2, World.ownsRow_nil _ _ _ _, trivial⟩, ⟨rfl, rfl, rfl, Nat.le_refl _, fun _ _ _ => rfl⟩⟩
      (fun x => { tmps := #[tri a b c, .int .i64 w, .int .i64 h, .pointer (some ⟨W.heap.size, 0, none⟩), undef, undef, .slice none 0 0, .int .i64 0, .pointer (some ⟨w2.heap.size, 0, none⟩), .pointer (some ⟨w2.heap.size + 1, 0, none⟩), .int .i64 x.1.1, .int .i64 x.1.2, undef, undef, .bool false, u15, u16, u17, u18, u19, u20, u21, u22, u23, u24, .bool false, (.agg #[.int .i64 a.x, .int .i64 a.y, .int .i64 a.z, .int .i64 b.x, .int .i64 b.y, .int .i64 b.z, .int .i64 c.x, .int .i64 c.y, .int .i64 c.z]), .bool true, .bool false, (.agg #[.int .i64 a.x, .int .i64 a.y, .int .i64 a.z, .int .i64 b.x, .int .i64 b.y, .int .i64 b.z, .int .i64 c.x, .int .i64 c.y, .int .i64 c.z]), .pointer (some ⟨B, 0, none⟩), (.agg #[.int .i64 a.x, .int .i64 a.y, .int .i64 a.z, .int .i64 b.x, .int .i64 b.y, .int .i64 b.z, .int .i64 c.x, .int .i64 c.y, .int .i64 c.z]), .int .i64 w, .int .i64 h, .func (.func 36) #[] #[.pointer (some ⟨X1.heap.size, 0, none⟩), .pointer (some ⟨X1.heap.size + 1 + 1, 0, none⟩), .pointer (some ⟨X1.heap.size + 1, 0, none⟩)], .int .i64 x.1.1, .int .i64 x.1.2, undef, undef, undef, undef, undef, undef, undef, undef, undef, undef, undef, undef, undef, undef, undef, undef, undef], defers := [] }) ?assign ?body ?done ?stop
    case assign =>
      intro l x W K hK
      gi_wp2
      exact hK
    case body =>
      rintro l pre x W1 ⟨⟨v, hv, hrow, _⟩, hG⟩ hlt
      have hS1 := grown_shape hG hS bO2.cell
      have tS1 := grown_cell hG tS (by omega)
      obtain ⟨z, hz⟩ : ∃ z, Hid (tellZ a (shB b c (sdW a b c.x c.y)) (shC b c (sdW a b c.x c.y)) (shS (sdW a b c.x c.y)) x.1.1 x.1.2 = z) := ⟨_, rfl⟩
      obtain ⟨i, hi'⟩ : ∃ i, Hid (tellI a (shB b c (sdW a b c.x c.y)) (shC b c (sdW a b c.x c.y)) (shS (sdW a b c.x c.y)) x.1.1 x.1.2 = i) := ⟨_, rfl⟩
      have hcall := Lib.hid (fun (Y : World) hs => shape_any B a (shB b c (sdW a b c.x c.y)) (shC b c (sdW a b c.x c.y)) (shS (sdW a b c.x c.y)) x.1.1 x.1.2 Y hs ⟨x.2.1, x.2.2.1⟩ ⟨x.2.2.2.1, x.2.2.2.2⟩)
      gi_wp2_with fail
      refine ⟨trivial, ?_⟩
      refine (CallsIn.inRound l (callsIn_wide.2 (hcall.out _ hS1))).mono ?_
      rintro e W2 ⟨rfl, h2⟩
      rw [hz.out, hi'.out]
      have hv2 := Boxed.later hv h2
      have hc2 := hv2.cell
      have hrow2 := hrow.kept h2.grown (Classical.em _)
      cases i
      · have hpx : pixL a b c (pre ++ [x]) = pixL a b c pre := pixL_miss hi'.out
        gi_wp2_with fail
        exact ⟨(KeepsOthers.of_grownBy h2.grown (fun _ _ e => by cases e)).from _, Apart.later h2 hG.size, ⟨v, hv2, by rw [hpx]; exact hrow2, trivial⟩, grown_but hG h2.grown (fun _ e => by cases e)⟩
      · have hpx : pixL a b c (pre ++ [x]) = pixL a b c pre ++ [(x.1.1, x.1.2, z)] := pixL_hit hi'.out hz.out
        have hn2 : X2.heap.size ≤ W2.heap.size := Nat.le_trans hG.size h2.size
        have hpl : (pixL a b c pre).length ≤ pre.length := pixL_length a b c pre
        have hML : 4096 < maxLen := by decide
        gi_wp2_with (gi_at_builtin; refine wpListIn_append_own _ rfl _ _ 37 rfl X2.heap.size 57 i0 (.agg #[.int .i64 0, .int .i64 0, .int .u32 0]) 3 24 Try.underlying37 hi hz0 hz1 hz2 rfl (by decide) _ _ _ rfl (hrow2.alloc _) ⟨W2.heap.size, 0, none⟩ 1 1 [.int .i64 x.1.1, .int .i64 x.1.2, .int .u32 z] rfl rfl (World.news_of_block (heap_alloc_new _ _)) (by simp [Value.oneCell']) (by omega) (by omega) (by simp; omega) ?_; intro v' w1 hown' hgrow _; obtain ⟨g', cap', rfl⟩ := ownsRow_succ hown'; obtain ⟨hv1, hv3, hr3, hk3, hb3, hg3⟩ := boxed_append hv2 (by decide) hrow2 hn2 hown' hgrow; have hc1 := hv1.cell; have hf1 := hv1.frozen)
        exact ⟨((KeepsOthers.of_grownBy h2.grown (fun _ _ e => by cases e)).trans hk3).from _, (Apart.later h2 hG.size).trans hb3, ⟨_, hv3, by rw [hpx, encs_snoc, List.length_append]; exact hr3, trivial⟩, hg3 _ (Nat.le_refl _) (grown_but hG h2.grown (fun _ e => by cases e))⟩
    case done =>
      rintro D ys W' hD hys ⟨⟨v, hv, hrow, _⟩, hG⟩ hK
      have hc := hv.cell
      rw [pixL_all hys] at hrow
      go_wp2_with fail
      rw [Exit.noGoto_ret]
      refine ⟨by simp, .inl ⟨_, _, rfl, run_takeDeferred hK, ?_⟩⟩
      exact ⟨_, results_tmp2 rfl _ _ _, _, rfl, cellsV_of_row (ownsRow_putObj hrow _ hK rfl), Below.trans (grown_later hLW2 hG (by omega)) (belowK_b (w := X2) hLW2.size W' D _ _ hD hK rfl rfl)⟩
    case stop =>
      rintro D c pre W _ _ h _
      exact h.elim
end Go.Proofs.Ytmpnojgciaoghaa
