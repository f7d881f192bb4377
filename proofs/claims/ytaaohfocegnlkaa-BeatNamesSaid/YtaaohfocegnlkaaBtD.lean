/-
  Chapter 23: a tick, and who is told.
-/
import Derived.Test.YtaaohfocegnlkaaBtC
namespace Go.Proofs.Ytaaohfocegnlkaa
open Go.RowKit Go.Shelf
set_option linter.unusedVariables false
set_option linter.unusedSimpArgs false
attribute [local go_sem] Oper.semAt_some

theorem grown_below {w w' w'' : World} {o n : Nat} (h : w.grownBy w' (some o)) (hb : Below n w' w'') (hn : w.heap.size ≤ n) : w.grownBy w'' (some o) :=
  ⟨hb.os.trans h.os, hb.tape.trans h.tape, hb.output.trans h.output, Nat.le_trans h.size hb.size, fun k hk hne => (hb.block k (by omega)).trans (h.block k hk hne)⟩
def tk (g : Nat → Int) : Nat → Int := fun k => if k = 3 then g 3 + 1 else g k
def tkL (g : Nat → Int) : List Int := selP (fun q => decide (q = g 2)) (ol (tk g) (g 1).toNat)

set_option maxRecDepth 100000 in
set_option maxHeartbeats 2000000 in
theorem tick_any (b : Nat) (g0 : Nat → Int) (W : World) (h : WB W b g0) (hg : 1 ≤ g0 1 ∧ g0 1 ≤ 64) (hn3 : 0 ≤ g0 3 ∧ g0 3 ≤ 1000000) :
    Calls Try.prog 14 #[wp b] W fun e w' => ∃ v, e = .returned v ∧ IntsF W.heap.size w' v (tkL g0) ∧ WB w' b (tk g0) ∧ W.grownBy w' (some b) := by
  obtain ⟨i0, hi, hz0, hz1, hz2⟩ := info_parts info_int
  have HN := none_any b g0 (W.alloc (.cells #[wp b] 24)) (Row.later h ((Later.refl _).alloc _))
  rw [show (g0 1 == 0) = false from by simp; omega] at HN
  obtain ⟨g, hgd⟩ : ∃ g, tk g0 = g := ⟨_, rfl⟩
  have hg1 : g 1 = g0 1 := by rw [← hgd]; rfl
  have hg2 : g 2 = g0 2 := by rw [← hgd]; rfl
  have HP := Lib.hid (fun Bx w0 h1 h2 => others_stops b Bx g w0 (by omega) h1 h2)
  refine (callsIn_wide (n := 4)).1 ?_
  refine callsIn_of_wp_marks Try.func14 rfl trivial ?_ rfl
  simp only [Try.ntmps14, List.size_toArray, List.length_cons, List.length_nil, Nat.reduceAdd, Nat.reduceSub, Array.replicate_succ, Array.replicate_zero, List.push_toArray, List.append_toArray, List.nil_append, List.cons_append]
  refine wpIn_wide.2 ?_
  go_wp2_with fail
  refine HN.mono ?_
  rintro e w1 ⟨rfl, h1⟩
  have hl1 : Later W w1 := ((Later.refl _).alloc _).trans h1
  have tw : w1.cell? ⟨W.heap.size, 0, none⟩ = some (wp b) := h1.cell (by simp)
  have hbl := h.lt
  replace h : WB w1 b g0 := Row.later h hl1
  have c3 := h.cell (k := 3) (by omega)
  have f3 := h.frozen 3
  have hws := cell_lt tw
  have hw1 : IntKind.i64.wrap (g0 3 + 1) = g0 3 + 1 := by rw [IntKind.wrap_i64]; omega
  have hww : wrap64 (g0 3 + 1) = g0 3 + 1 := by unfold wrap64; omega
  go_wp2_with fail
  refine (others_any b _).mono ?_
  rintro e w3 ⟨rfl, rfl⟩
  obtain ⟨X0, hX0⟩ : ∃ X, X = w1.setCell ⟨b, 3, none⟩ (.int .i64 (g0 3 + 1)) := ⟨_, rfl⟩
  have hs0 : X0.heap.size = w1.heap.size := by rw [hX0]; simp
  have hgX : W.grownBy X0 (some b) := by rw [hX0]; exact grown_set (grown_some hl1.grown)
  have tw0 : X0.cell? ⟨W.heap.size, 0, none⟩ = some (wp b) := by rw [hX0]; exact cell_setCell_o tw (by omega)
  have h0 : WB X0 b g := by rw [hX0, ← hgd]; exact h.set (by omega) _
  rw [← hX0]
  obtain ⟨X1, hX1⟩ : ∃ X, X = X0.alloc (.cells #[.slice none 0 0] 26) := ⟨_, rfl⟩
  have hs1 : X1.heap.size = w1.heap.size + 1 := by rw [hX1]; simp [hs0]
  have bO : Boxed X1 w1.heap.size 26 (.slice none 0 0) := by rw [hX1]; have := Boxed.new X0 26 (.slice none 0 0); rwa [hs0] at this
  have hl1 : Later X0 X1 := by rw [hX1]; exact (Later.refl _).alloc _
  rw [← hX1]
  obtain ⟨X2, hX2⟩ : ∃ X, X = X1.alloc (.cells #[wp b] 24) := ⟨_, rfl⟩
  have hs2 : X2.heap.size = X1.heap.size + 1 := by rw [hX2]; simp
  have hl2 : Later X1 X2 := by rw [hX2]; exact (Later.refl _).alloc _
  have tX : X2.heap[w1.heap.size + 1]? = some (.cells #[wp b] 24) := by rw [← hs1, hX2]; exact heap_alloc_new _ _
  have tx : X2.cell? ⟨w1.heap.size + 1, 0, none⟩ = some (wp b) := by simp [World.cell?, tX]
  rw [← hX2]
  replace bO := Boxed.later bO hl2
  replace h : WB X2 b g := Row.later h0 (hl1.trans hl2)
  have tw := tw0
  have hX02 : X0.grownBy X2 none := (hl1.trans hl2).grown
  have HS := Lib.hid (HP.out (w1.heap.size + 1) X2 h tx)
  obtain ⟨vals, hvals⟩ : ∃ vals, vals = selX (fun q => decide (q = g 2)) := ⟨_, rfl⟩
  have hit : ∀ pre x, x.1.2 = g 2 → vals (pre ++ [x]) = vals pre ++ [x.1.1] := fun pre x h => by rw [hvals]; exact selX_hit (decide_eq_true h)
  have miss : ∀ pre x, ¬ x.1.2 = g 2 → vals (pre ++ [x]) = vals pre := fun pre x h => by rw [hvals]; exact selX_miss (decide_eq_false h)
  have hlen : ∀ pre, (vals pre).length ≤ pre.length + 1 := fun pre => by rw [hvals]; exact Nat.le_succ_of_le (selX_length _ _)
  have hall : ∀ ys : List Nx, ys.map (·.1) = ol g (g 1).toNat → vals ys = tkL g0 := fun ys h => by rw [hvals]; unfold tkL; rw [hgd, ← hg1, ← hg2]; exact selX_all h
  have hrow0 : X2.ownsRow X0.heap.size 3 1 (.slice none 0 0) (vals []).length (encI (vals [])) := by rw [hvals]; exact World.ownsRow_nil _ _ _ _
  obtain ⟨n₀, hn⟩ : ∃ n, Hid (X0.heap.size = n) := ⟨_, rfl⟩
  rw [hn.out] at hrow0
  have hn0 : n₀ ≤ X0.heap.size := Nat.le_of_eq hn.out.symm
  have hX0n : X0.heap.size ≤ n₀ := Nat.le_of_eq hn.out
  obtain ⟨Wb, hWb⟩ : ∃ n, Hid (W.heap.size = n) := ⟨_, rfl⟩
  obtain ⟨Bo, hBo⟩ : ∃ n, Hid (w1.heap.size = n) := ⟨_, rfl⟩
  obtain ⟨Bx, hBx⟩ : ∃ n, Hid (w1.heap.size + 1 = n) := ⟨_, rfl⟩
  have hX0B : X0.heap.size ≤ Bo := by have := hBo.out; omega
  have hbX2 : b < X2.heap.size := by omega
  have hBX2 : Bx < X2.heap.size := by have := hBx.out; omega
  have hWX2 : W.heap.size ≤ X2.heap.size := by omega
  have hbB : b ≠ Bo := by have := hBo.out; omega
  have hBB : Bx ≠ Bo := by have := hBo.out; have := hBx.out; omega
  have hX0X2 : X0.heap.size ≤ X2.heap.size := by omega
  rw [hs1, hBx.out, hBo.out, hWb.out]
  rw [hBx.out] at HS tX tx
  rw [hBo.out] at bO
  rw [hWb.out] at tw
  clear hs0 hs1 hs2 hBx hBo hWb hn hX0 hX1 hX2 hl1 hl2 HP hvals c3 f3 hw1 hww hws h0 tw0 h1
  go_wp2_with fail
  refine (wpIn_wide (n := 4)).1 ?_
  refine wpIn_rangeFunc_ownG rfl (by omega) (gf := 29) (lb := #[wp Bx]) rfl trivial (enters_of Try.func29 (by kernel_rfl) rfl)
    HS.out Keep2.trans (fun W l o o' hl _ _ _ => Keep2.putObj W l o' (by omega)) (Below.refl _ _) (fun _ => rfl)
    (fun pre W' => (∃ v, Boxed W' Bo 26 v ∧ W'.ownsRow n₀ 3 1 v (vals pre).length (encI (vals pre)) ∧ True) ∧ X0.grownBy W' none ∧ W'.heap[b]? = some (.cells (rowV 68 g) 59 (0, 0)) ∧ W'.heap[Bx]? = some (.cells #[wp b] 24 (0, 0)))
    (fun _ _ _ => False)
    (OwnFrom.and (Own.from (holdsRow_own n₀ Bo 26 3 1 (fun pre => (vals pre).length) (fun pre => encI (vals pre)) (fun _ _ => True)) _) (OwnFrom.and (ownFrom_none (by omega)) (OwnFrom.and (ownFrom_block (by omega)) (ownFrom_block (by omega)))))
    (fun _ _ _ _ _ hs _ _ => hs)
    ⟨⟨_, bO, hrow0, trivial⟩, hX02, h, tX⟩
    (fun x => { tmps := #[wp b, wp Wb, .slice none 0 0, wp Bo, .int .i64 x.1.1, .int .i64 x.1.2, wp b, .bool false, wp b, .pointer (some ⟨b, 0, none⟩), .pointer (some ⟨b, 3, none⟩), .int .i64 (g0 3), .int .i64 (g0 3 + 1), .pointer (some ⟨b, 0, none⟩), .pointer (some ⟨b, 3, none⟩), wp b, (.func (.func 29) #[] #[wp Bx]), .int .i64 x.1.1, .int .i64 x.1.2, undef, undef, undef, undef, undef, undef, undef, undef, undef, undef, undef], defers := [] }) ?assign ?body ?done ?stop
  case assign =>
    intro l x W K hK
    gi_wp2
    exact hK
  case body =>
    rintro l pre x W1 ⟨⟨v, hv, hrow, _⟩, hG, hWB, hWX⟩ hlt
    have tw1 := (Later.of_grown hG).cell tw
    have c2 := Row.cell (t := 59) (n := 68) (f := g) hWB (k := 2) (by omega)
    have hc := hv.cell
    have hb1 := (Array.getElem?_eq_some_iff.1 hWB).1
    have hb2 := (Array.getElem?_eq_some_iff.1 hWX).1
    by_cases hP : x.1.2 = g 2
    · have hpos := True.intro
      have hq : (x.1.2 == g 2) = true := by simp [hP]
      have hpx := hit pre x hP
      have hpl := hlen pre
      have hML : 4096 < maxLen := by decide
      have hn2 : n₀ ≤ W1.heap.size := Nat.le_trans hn0 hG.size
      gi_wp2_with (gi_at_builtin; refine wpListIn_append_own _ rfl _ _ 26 rfl n₀ 3 i0 (.int .i64 0) 1 8 Try.underlying26 hi hz0 hz1 hz2 rfl (by decide) _ _ _ rfl (hrow.alloc _) ⟨W1.heap.size, 0, none⟩ 1 1 [.int .i64 x.1.1] rfl rfl (World.news_of_block (heap_alloc_new _ _)) (by simp [Value.oneCell']) (by omega) (by omega) (by simp; omega) ?_; intro v' w1 hown' hgrow _; obtain ⟨g', cap', rfl⟩ := ownsRow_succ hown'; obtain ⟨hv1, hv3, hr3, hk3, hb3, hg3⟩ := boxed_append hv (by decide) hrow hn2 hown' hgrow; have hc1 := hv1.cell; have hf1 := hv1.frozen)
      have k1 := fun v' => append_block (B := Bo) (v' := v') hgrow hb1 (by omega) (row_ne hrow hWB (by decide))
      have k2 := fun v' => append_block (B := Bo) (v' := v') hgrow hb2 (by omega) (row_ne hrow hWX (by decide))
      exact ⟨hk3.from _, ⟨k1 _, k2 _⟩, ⟨_, hv3, by rw [hpx]; unfold encI at hr3 ⊢; rw [List.map_append, List.length_append]; exact hr3, trivial⟩, append_none hG hX0n hX0B hrow hgrow, (k1 _).trans hWB, (k2 _).trans hWX⟩
    · have hneg := True.intro
      have hq : (x.1.2 == g 2) = false := by simp [hP]
      have hpx := miss pre x (by omega)
      gi_wp2_with fail
      exact ⟨(KeepsOthers.refl _).from _, ⟨rfl, rfl⟩, ⟨v, hv, by rw [hpx]; first | exact hrow | exact ⟨hrow, trivial⟩⟩, hG, hWB, hWX⟩
  case done =>
    rintro D ys W' hD hys ⟨⟨v, hv, hrow, _⟩, hG, hWB, hWX⟩ hK
    have hc := hv.cell
    rw [hall ys hys] at hrow
    go_wp2_with fail
    refine ⟨by simp, .inl ⟨_, _, rfl, run_takeDeferred hK, ?_⟩⟩
    have hbe := fun o o' h1 h2 h3 => belowK_b (w := X2) (Nat.le_refl _) W' D o o' hD h1 h2 h3
    exact ⟨_, results_tmp rfl _ _ _, _, rfl, intsF_of_row (ownsRow_putObj hrow _ hK rfl) (Nat.le_trans hgX.size hX0n), (by rw [hgd]; exact ((hbe _ _ hK rfl rfl).block b hbX2).trans hWB), grown_below (grown_but hgX hG (fun r e => by cases e)) (hbe _ _ hK rfl rfl) hWX2⟩
  case stop =>
    rintro D c pre W _ _ h _
    exact h.elim
end Go.Proofs.Ytaaohfocegnlkaa
