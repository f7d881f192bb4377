/-
  Chapter 23: who is suspected.
-/
import Derived.RangeFuncNested
import Derived.RangeFuncBound
import Derived.RangeFuncBox
import Derived.OwnWalkIn
import Derived.TacticsInMore
import Derived.LoopNIn
import Derived.LoopIn
import Derived.Maps.AppendAt
import Derived.Deep.AppendLies
import Derived.Deep.DeepCutAuto
import Derived.Test.YtaaohfocegnlkaaBtB
namespace Go.Proofs.Ytaaohfocegnlkaa
open Go.RowKit Go.Shelf
set_option linter.unusedVariables false
set_option linter.unusedSimpArgs false
attribute [local go_sem] Oper.semAt_some

abbrev Nx := { p : Int × Int // 0 ≤ p.1 ∧ p.1 ≤ 63 }

theorem others_stops (b Bx : Nat) (g : Nat → Int) (w0 : World) (hg : 0 ≤ g 1 ∧ g 1 ≤ 64) (hw : WB w0 b g) (tx : w0.cell? ⟨Bx, 0, none⟩ = some (wp b)) :
    SeqStopsK Fence.wide 3 Try.prog 29 #[wp Bx] (fun x : Nx => encp x.1) (Keep2 b Bx)
      (fun ys => ys.map (·.1) = ol g (g 1).toNat) (fun ys => ∃ k, k ≤ (g 1).toNat ∧ ys.map (·.1) = ol g k) 64 w0 := fun l J Jx W hW hJ hJx hY h0 => by
  have hl : Later w0 W := hW
  refine (others1_in l b Bx g (fun ys W => ∃ zs : List Nx, zs.map (·.1) = ys ∧ J zs W) (fun ys W => ∃ zs : List Nx, zs.map (·.1) = ys ∧ Jx zs W) W hg ?_ ?_
    (Row.later hw hl) (hl.cell tx) ⟨[], rfl, h0⟩).mono ?_
  · rintro s X Y row ⟨zs, hz, hj⟩ hg hr
    exact ⟨zs, hz, hJ zs X Y row hj hg hr⟩
  · rintro pre x W1 hx ⟨zs, rfl, hj⟩ hlen
    obtain ⟨fn, tmps, assign, body, hy, hR⟩ := hY zs ⟨x, hx⟩ W1 hj (by simpa using hlen)
    refine ⟨fn, tmps, assign, body, hy, hR.mono ?_⟩
    rintro e W' (⟨he, h1, h2⟩ | ⟨he, h1⟩)
    · exact .inl ⟨he, ⟨zs ++ [⟨x, hx⟩], by simp, h1⟩, h2⟩
    · exact .inr ⟨he, ⟨zs ++ [⟨x, hx⟩], by simp, h1⟩⟩
  · rintro e W' ⟨hv, h | h⟩
    · obtain ⟨xs, hxs, zs, hz, hj⟩ := h
      exact ⟨hv, .inl ⟨zs, by show zs.map (·.1) = _; rw [hz, hxs], hj⟩⟩
    · obtain ⟨xs, ⟨k, hk, hxs⟩, zs, hz, hj⟩ := h
      exact ⟨hv, .inr ⟨zs, ⟨k, hk, by rw [hz, hxs]⟩, hj⟩⟩

theorem Later.of_grown {w w' : World} (h : w.grownBy w' none) : Later w w' := ⟨h.os, h.tape, h.output, h.size, fun k hk => h.block k hk (by simp)⟩
theorem grown_none {w0 w w' : World} {row : Option Nat} (h : w0.grownBy w none) (hg : w.grownBy w' row) (hr : ∀ r, row = some r → w0.heap.size ≤ r) : w0.grownBy w' none :=
  ⟨hg.os.trans h.os, hg.tape.trans h.tape, hg.output.trans h.output, Nat.le_trans h.size hg.size, fun k hk hne => by
    refine (hg.block k (Nat.lt_of_lt_of_le hk h.size) (fun e => ?_)).trans (h.block k hk hne)
    have := hr k e.symm; omega⟩
theorem ownFrom_none {β : Type} {B : Nat} {w₀ : World} (hB : w₀.heap.size ≤ B) : OwnFrom B (fun (_ : β) W => w₀.grownBy W none) :=
  fun _ _ _ _ hs hg hr => grown_none hs hg (fun r e => Nat.le_trans hB (hr r e).1)
theorem ownFrom_block {β : Type} {B k : Nat} {o : Obj} (hk : k < B) : OwnFrom B (fun (_ : β) W => W.heap[k]? = some o) :=
  fun _ A _ _ hs hg hr => (hg.block k (Array.getElem?_eq_some_iff.1 hs).1 (fun e => by have := (hr _ e.symm).1; omega)).trans hs
theorem row_ne {W : World} {n₀ e size k b : Nat} {v : Value} {xs : List Value} {c : Array Value} {t : TypeId} {fr : Nat × Nat} (hrow : W.ownsRow n₀ e size v k xs) (hb : W.heap[b]? = some (.cells c t fr)) (hte : t ≠ e) : v.ownBlock ≠ some b := by
  rcases hrow.2 with ⟨rfl, _⟩ | ⟨g, cap, cur, rfl, _, hgb, _⟩
  · simp [Value.ownBlock]
  · intro h
    obtain rfl : g = b := by simpa [Value.ownBlock] using h
    rw [hgb] at hb
    injection hb with hb
    injection hb with h1 h2
    exact hte h2.symm
theorem append_block {W w1 : World} {B k : Nat} {v v' : Value} {tmp : Obj} (hgrow : (W.alloc tmp).grownBy w1 v.ownBlock) (hk : k < W.heap.size) (hne : k ≠ B) (hr : v.ownBlock ≠ some k) :
    (w1.setCell ⟨B, 0, none⟩ v').heap[k]? = W.heap[k]? :=
  (Below.heap_setCell _ _ _ k hne).trans ((hgrow.block k (by simp; omega) (fun e => hr e.symm)).trans (Below.heap_alloc W tmp k hk))
theorem append_none {X W w1 : World} {n₀ B e size k : Nat} {v v' : Value} {xs : List Value} {tmp : Obj} (h : X.grownBy W none) (hX : X.heap.size ≤ n₀) (hB : X.heap.size ≤ B) (hrow : W.ownsRow n₀ e size v k xs) (hgrow : (W.alloc tmp).grownBy w1 v.ownBlock) :
    X.grownBy (w1.setCell ⟨B, 0, none⟩ v') none := by
  refine grown_none (grown_none (grown_none h (World.grownBy_alloc W tmp none) (fun r e' => by cases e')) hgrow (fun r e' => ?_)) (grownBy_setCell' w1 B v') (fun r e' => by cases e'; exact hB)
  rcases hrow.2 with ⟨rfl, _⟩ | ⟨g, cap, cur, rfl, hb, _, _⟩
  · simp [Value.ownBlock] at e'
  · obtain rfl : g = r := by simpa [Value.ownBlock] using e'
    omega

theorem others_any (b : Nat) (W : World) :
    Calls Try.prog 25 #[wp b] W fun e w' => e = .returned (.func (.func 29) #[] #[wp W.heap.size]) ∧ w' = W.alloc (.cells #[wp b] 24) := by
  go_enter Try.func25, Try.ntmps25
  go_wp2
  go_ret
  exact ⟨rfl, rfl⟩

/-- Which nodes, by for how long they were not heard. -/
def selP (P : Int → Bool) (L : List (Int × Int)) : List Int := (L.filter (fun x => P x.2)).map (·.1)
def selX (P : Int → Bool) (pre : List Nx) : List Int := selP P (pre.map (·.1))
def encI (L : List Int) : List Value := L.map (Value.int .i64)
theorem selX_hit {P : Int → Bool} {pre : List Nx} {x : Nx} (h : P x.1.2 = true) : selX P (pre ++ [x]) = selX P pre ++ [x.1.1] := by
  unfold selX selP; rw [List.map_append, List.filter_append, List.map_append]
  show _ ++ List.map _ (List.filter _ [x.1]) = _
  rw [List.filter_cons, if_pos h]; rfl
theorem selX_miss {P : Int → Bool} {pre : List Nx} {x : Nx} (h : P x.1.2 = false) : selX P (pre ++ [x]) = selX P pre := by
  unfold selX selP; rw [List.map_append, List.filter_append, List.map_append]
  show _ ++ List.map _ (List.filter _ [x.1]) = _
  rw [List.filter_cons, if_neg (by rw [h]; simp)]; simp
theorem selX_length (P : Int → Bool) (pre : List Nx) : (selX P pre).length ≤ pre.length := by
  unfold selX selP; rw [List.length_map]
  exact Nat.le_trans (List.length_filter_le _ _) (by simp)
theorem selX_all {P : Int → Bool} {ys : List Nx} {L : List (Int × Int)} (h : ys.map (·.1) = L) : selX P ys = selP P L := by unfold selX; rw [h]

/-- A slice of ints: what it holds. -/
def IntsV (w : World) (v : Value) (L : List Int) : Prop :=
  ∃ ao cap, v = .slice ao L.length cap ∧ ∀ k, k < L.length → ∃ g, ao = some ⟨g, 0, none⟩ ∧ w.cell? ⟨g, k, none⟩ = some (.int .i64 (L.getD k 0))
theorem IntsV.later {w w' : World} {v : Value} {L : List Int} (h : IntsV w v L) (hl : Later w w') : IntsV w' v L := by
  obtain ⟨ao, cap, rfl, hv⟩ := h
  exact ⟨ao, cap, rfl, fun k hk => by obtain ⟨g, e, hc⟩ := hv k hk; exact ⟨g, e, hl.cell hc⟩⟩
theorem intsV_of_row {w : World} {base : Nat} {v : Value} {L : List Int} {E : TypeId} (h : w.ownsRow base E 1 v L.length (encI L)) : IntsV w v L := by
  rcases h.2 with ⟨rfl, h0⟩ | ⟨g, cap, cur, rfl, _⟩
  · exact ⟨none, 0, by rw [h0], fun k hk => by omega⟩
  · refine ⟨some ⟨g, 0, none⟩, cap, rfl, fun k hk => ⟨g, rfl, ?_⟩⟩
    refine (h.cellAt k (by omega)).trans ?_
    unfold encI
    rw [List.getElem?_map, List.getElem?_eq_getElem hk, List.getD_eq_getElem?_getD, List.getElem?_eq_getElem hk]; rfl

/-- .. and it lies behind so many blocks. -/
def IntsF (n : Nat) (w : World) (v : Value) (L : List Int) : Prop := IntsV w v L ∧ (∀ g o s len cap, v = .slice (some ⟨g, o, s⟩) len cap → n ≤ g) ∧ ∀ len cap, v = .slice none len cap → cap = 0
theorem IntsF.grown {n o : Nat} {w w' : World} {v : Value} {L : List Int} (h : IntsF n w v L) (hg : w.grownBy w' (some o)) (ho : o < n) : IntsV w' v L := by
  obtain ⟨⟨ao, cap, rfl, hv⟩, hf⟩ := h
  refine ⟨ao, cap, rfl, fun k hk => ?_⟩
  obtain ⟨g, rfl, hc⟩ := hv k hk
  have := hf.1 g 0 none _ _ rfl
  exact ⟨g, rfl, grown_cell hg hc (by omega)⟩
theorem IntsF.later {n : Nat} {w w' : World} {v : Value} {L : List Int} (h : IntsF n w v L) (hl : Later w w') : IntsF n w' v L := ⟨h.1.later hl, h.2⟩
theorem intsF_of_row {w : World} {base n : Nat} {v : Value} {L : List Int} {E : TypeId} (h : w.ownsRow base E 1 v L.length (encI L)) (hn : n ≤ base) : IntsF n w v L := by
  refine ⟨intsV_of_row h, fun g o s len cap e => ?_, fun len cap e => ?_⟩
  · rcases h.2 with ⟨e2, h0⟩ | ⟨g', cap', cur, e2, hb, _⟩
    · rw [e2] at e; cases e
    · rw [e2] at e; cases e; omega
  · rcases h.2 with ⟨e2, h0⟩ | ⟨g', cap', cur, e2, hb, _⟩
    · rw [e2] at e; cases e; rfl
    · rw [e2] at e; cases e
theorem info_int : (Try.prog.info? 3).map (fun i => (i.zero, i.size, i.bytes)) = some (some (.int .i64 0), 1, 8) := by kernel_rfl

def sus (g : Nat → Int) : List Int := selP (fun q => decide (g 2 ≤ q)) (ol g (g 1).toNat)
set_option maxRecDepth 100000 in
set_option maxHeartbeats 2000000 in
theorem suspects_f (b : Nat) (g : Nat → Int) (W : World) (h : WB W b g) (hg : 0 ≤ g 1 ∧ g 1 ≤ 64) :
    Calls Try.prog 9 #[wp b] W fun e w' => ∃ v, e = .returned v ∧ IntsF W.heap.size w' v (sus g) ∧ Later W w' := by
  have HP := Lib.hid (fun Bx w0 h1 h2 => others_stops b Bx g w0 hg h1 h2)
  obtain ⟨i0, hi, hz0, hz1, hz2⟩ := info_parts info_int
  refine (callsIn_wide (n := 4)).1 ?_
  refine callsIn_of_wp_marks Try.func9 rfl trivial ?_ rfl
  simp only [Try.ntmps9, List.size_toArray, List.length_cons, List.length_nil, Nat.reduceAdd, Nat.reduceSub, Array.replicate_succ, Array.replicate_zero, List.push_toArray, List.append_toArray, List.nil_append, List.cons_append]
  refine wpIn_wide.2 ?_
  go_wp2_with fail
  refine (others_any b _).mono ?_
  rintro e w3 ⟨rfl, rfl⟩
  obtain ⟨X0, hX0⟩ : ∃ X, X = W.alloc (.cells #[wp b] 24) := ⟨_, rfl⟩
  have hs0 : X0.heap.size = W.heap.size + 1 := by rw [hX0]; simp
  have tw : X0.cell? ⟨W.heap.size, 0, none⟩ = some (wp b) := by rw [hX0]; simp
  have hl0 : Later W X0 := by rw [hX0]; exact (Later.refl _).alloc _
  rw [← hX0]
  obtain ⟨X1, hX1⟩ : ∃ X, X = X0.alloc (.cells #[.slice none 0 0] 26) := ⟨_, rfl⟩
  have hs1 : X1.heap.size = W.heap.size + 1 + 1 := by rw [hX1]; simp [hs0]
  have bO : Boxed X1 (W.heap.size + 1) 26 (.slice none 0 0) := by rw [hX1]; have := Boxed.new X0 26 (.slice none 0 0); rwa [hs0] at this
  have hl1 : Later X0 X1 := by rw [hX1]; exact (Later.refl _).alloc _
  rw [← hX1]
  obtain ⟨X2, hX2⟩ : ∃ X, X = X1.alloc (.cells #[wp b] 24) := ⟨_, rfl⟩
  have hs2 : X2.heap.size = X1.heap.size + 1 := by rw [hX2]; simp
  have hl2 : Later X1 X2 := by rw [hX2]; exact (Later.refl _).alloc _
  have tX : X2.heap[W.heap.size + 1 + 1]? = some (.cells #[wp b] 24) := by rw [← hs1, hX2]; exact heap_alloc_new _ _
  have tx : X2.cell? ⟨W.heap.size + 1 + 1, 0, none⟩ = some (wp b) := by simp [World.cell?, tX]
  rw [← hX2]
  replace bO := Boxed.later bO hl2
  have hbl := h.lt
  replace h : WB X2 b g := Row.later h ((hl0.trans hl1).trans hl2)
  have hX02 : X0.grownBy X2 none := (hl1.trans hl2).grown
  have HS := Lib.hid (HP.out (W.heap.size + 1 + 1) X2 h tx)
  obtain ⟨vals, hvals⟩ : ∃ vals, vals = selX (fun q => decide (g 2 ≤ q)) := ⟨_, rfl⟩
  have hit : ∀ pre x, g 2 ≤ x.1.2 → vals (pre ++ [x]) = vals pre ++ [x.1.1] := fun pre x h => by rw [hvals]; exact selX_hit (decide_eq_true h)
  have miss : ∀ pre x, ¬ g 2 ≤ x.1.2 → vals (pre ++ [x]) = vals pre := fun pre x h => by rw [hvals]; exact selX_miss (decide_eq_false h)
  have hlen : ∀ pre, (vals pre).length ≤ pre.length + 1 := fun pre => by rw [hvals]; exact Nat.le_succ_of_le (selX_length _ _)
  have hall : ∀ ys : List Nx, ys.map (·.1) = ol g (g 1).toNat → vals ys = sus g := fun ys h => by rw [hvals]; exact selX_all h
  have hrow0 : X2.ownsRow X0.heap.size 3 1 (.slice none 0 0) (vals []).length (encI (vals [])) := by rw [hvals]; exact World.ownsRow_nil _ _ _ _
  obtain ⟨n₀, hn⟩ : ∃ n, Hid (X0.heap.size = n) := ⟨_, rfl⟩
  rw [hn.out] at hrow0
  have hn0 : n₀ ≤ X0.heap.size := Nat.le_of_eq hn.out.symm
  have hX0n : X0.heap.size ≤ n₀ := Nat.le_of_eq hn.out
  obtain ⟨Wb, hWb⟩ : ∃ n, Hid (W.heap.size = n) := ⟨_, rfl⟩
  obtain ⟨Bo, hBo⟩ : ∃ n, Hid (W.heap.size + 1 = n) := ⟨_, rfl⟩
  obtain ⟨Bx, hBx⟩ : ∃ n, Hid (W.heap.size + 1 + 1 = n) := ⟨_, rfl⟩
  have hX0B : X0.heap.size ≤ Bo := by have := hBo.out; omega
  have hbX2 : b < X2.heap.size := by omega
  have hBX2 : Bx < X2.heap.size := by have := hBx.out; omega
  have hWX2 : W.heap.size ≤ X2.heap.size := by omega
  have hbB : b ≠ Bo := by have := hBo.out; omega
  have hBB : Bx ≠ Bo := by have := hBo.out; have := hBx.out; omega
  have hX0X2 : X0.heap.size ≤ X2.heap.size := by omega
  rw [hs1, hBx.out, hBo.out, hWb.out]
  rw [hBx.out] at HS tX tx
  rw [hBo.out] at bO
  rw [hWb.out] at tw
  clear hs0 hs1 hs2 hBx hBo hWb hn hX0 hX1 hX2 hl1 hl2 HP hvals
  go_wp2_with fail
  refine (wpIn_wide (n := 4)).1 ?_
  refine wpIn_rangeFunc_ownG rfl (by omega) (gf := 29) (lb := #[wp Bx]) rfl trivial (enters_of Try.func29 (by kernel_rfl) rfl)
    HS.out Keep2.trans (fun W l o o' hl _ _ _ => Keep2.putObj W l o' (by omega)) (Below.refl _ _) (fun _ => rfl)
    (fun pre W' => (∃ v, Boxed W' Bo 26 v ∧ W'.ownsRow n₀ 3 1 v (vals pre).length (encI (vals pre)) ∧ True) ∧ X0.grownBy W' none ∧ W'.heap[b]? = some (.cells (rowV 68 g) 59 (0, 0)) ∧ W'.heap[Bx]? = some (.cells #[wp b] 24 (0, 0)))
    (fun _ _ _ => False)
    (OwnFrom.and (Own.from (holdsRow_own n₀ Bo 26 3 1 (fun pre => (vals pre).length) (fun pre => encI (vals pre)) (fun _ _ => True)) _) (OwnFrom.and (ownFrom_none (by omega)) (OwnFrom.and (ownFrom_block (by omega)) (ownFrom_block (by omega)))))
    (fun _ _ _ _ _ hs _ _ => hs)
    ⟨⟨_, bO, hrow0, trivial⟩, hX02, h, tX⟩
    (fun x => { tmps := #[wp b, wp Wb, .slice none 0 0, wp Bo, .int .i64 x.1.1, .int .i64 x.1.2, wp b, (.func (.func 29) #[] #[wp Bx]), .int .i64 x.1.1, .int .i64 x.1.2, undef, undef, undef, undef, undef, undef, undef, undef, undef, undef, undef], defers := [] }) ?assign ?body ?done ?stop
  case assign =>
    intro l x W K hK
    gi_wp2
    exact hK
  case body =>
    rintro l pre x W1 ⟨⟨v, hv, hrow, _⟩, hG, hWB, hWX⟩ hlt
    have tw1 := (Later.of_grown hG).cell tw
    have c2 := Row.cell (t := 59) (n := 68) (f := g) hWB (k := 2) (by omega)
    have hc := hv.cell
    have hb1 := (Array.getElem?_eq_some_iff.1 hWB).1
    have hb2 := (Array.getElem?_eq_some_iff.1 hWX).1
    by_cases hP : g 2 ≤ x.1.2
    · have hpx := hit pre x hP
      have hpl := hlen pre
      have hML : 4096 < maxLen := by decide
      have hn2 : n₀ ≤ W1.heap.size := Nat.le_trans hn0 hG.size
      gi_wp2_with (gi_at_builtin; refine wpListIn_append_own _ rfl _ _ 26 rfl n₀ 3 i0 (.int .i64 0) 1 8 Try.underlying26 hi hz0 hz1 hz2 rfl (by decide) _ _ _ rfl (hrow.alloc _) ⟨W1.heap.size, 0, none⟩ 1 1 [.int .i64 x.1.1] rfl rfl (World.news_of_block (heap_alloc_new _ _)) (by simp [Value.oneCell']) (by omega) (by omega) (by simp; omega) ?_; intro v' w1 hown' hgrow _; obtain ⟨g', cap', rfl⟩ := ownsRow_succ hown'; obtain ⟨hv1, hv3, hr3, hk3, hb3, hg3⟩ := boxed_append hv (by decide) hrow hn2 hown' hgrow; have hc1 := hv1.cell; have hf1 := hv1.frozen)
      have k1 := fun v' => append_block (B := Bo) (v' := v') hgrow hb1 (by omega) (row_ne hrow hWB (by decide))
      have k2 := fun v' => append_block (B := Bo) (v' := v') hgrow hb2 (by omega) (row_ne hrow hWX (by decide))
      exact ⟨hk3.from _, ⟨k1 _, k2 _⟩, ⟨_, hv3, by rw [hpx]; unfold encI at hr3 ⊢; rw [List.map_append, List.length_append]; exact hr3, trivial⟩, append_none hG hX0n hX0B hrow hgrow, (k1 _).trans hWB, (k2 _).trans hWX⟩
    · have hpx := miss pre x (by omega)
      gi_wp2_with fail
      exact ⟨(KeepsOthers.refl _).from _, ⟨rfl, rfl⟩, ⟨v, hv, by rw [hpx]; first | exact hrow | exact ⟨hrow, trivial⟩⟩, hG, hWB, hWX⟩
  case done =>
    rintro D ys W' hD hys ⟨⟨v, hv, hrow, _⟩, hG, hWB, hWX⟩ hK
    have hc := hv.cell
    rw [hall ys hys] at hrow
    go_wp2_with fail
    refine ⟨by simp, .inl ⟨_, _, rfl, run_takeDeferred hK, ?_⟩⟩
    exact ⟨_, results_tmp rfl _ _ _, _, rfl, intsF_of_row (ownsRow_putObj hrow _ hK rfl) (Nat.le_trans hl0.size hX0n), Below.trans (hl0.trans (Later.of_grown hG)) (belowK_b (w := X2) hWX2 W' D _ _ hD hK rfl rfl)⟩
  case stop =>
    rintro D c pre W _ _ h _
    exact h.elim
theorem suspects_any (b : Nat) (g : Nat → Int) (W : World) (h : WB W b g) (hg : 0 ≤ g 1 ∧ g 1 ≤ 64) :
    Calls Try.prog 9 #[wp b] W fun e w' => ∃ v, e = .returned v ∧ IntsV w' v (sus g) ∧ Later W w' :=
  (suspects_f b g W h hg).mono fun e w' ⟨v, he, hv, hl⟩ => ⟨v, he, hv.1, hl⟩
end Go.Proofs.Ytaaohfocegnlkaa
