/-
  Chapter 3: rows and columns exchanged.
-/
import Derived.Laws.Rows
import Derived.Stop.RegionWithIn
import Derived.Test.YtackbajbladhhaaMxC
namespace Go.Proofs.Ytackbajbladhhaa
open Go.RowKit Go.Shelf
set_option linter.unusedVariables false
set_option linter.unusedSimpArgs false
attribute [local go_sem] Oper.semAt_some

theorem rowV_one (n : Nat) (f : Nat → Int) : (rowV n f).all (·.oneCell') = true := by
  rw [Array.all_eq_true]
  intro i hi
  rw [rowV_size] at hi
  have h := rowV_get f hi
  rw [Array.getElem?_eq_getElem (by rw [rowV_size]; exact hi)] at h
  rw [Option.some.inj h]
  rfl
/-- A place's other one. -/
def tix (k : Nat) : Nat := k % 4 * 4 + k / 4
theorem tix_lt {k : Nat} (h : k < 16) : tix k < 16 := by unfold tix; omega
theorem tix_tix {k : Nat} (h : k < 16) : tix (tix k) = k := by unfold tix; omega
/-- Rows and columns exchanged, of the places that were met. -/
def trn (f : Nat → Int) (l : List Nat) (k : Nat) : Int := if tix k ∈ l then f (tix k) else 0
theorem trn_set (f : Nat → Int) (l : List Nat) {x : Nat} (hx : x < 16) : ∀ k, k < 16 → (if k = tix x then f x else trn f l k) = trn f (l ++ [x]) k := fun k hk => by
  unfold trn
  by_cases h : k = tix x
  · rw [if_pos h, h, tix_tix hx, if_pos (by simp)]
  · have h2 : tix k ≠ x := fun e => h (by rw [← e, tix_tix hk])
    rw [if_neg h]
    by_cases h3 : tix k ∈ l
    · rw [if_pos h3, if_pos (by simp [h3])]
    · rw [if_neg h3, if_neg (by simp [h3, h2])]
theorem trn_all (f : Nat → Int) : ∀ k, k < 16 → trn f (List.range 16) k = f (tix k) := fun k hk => by
  unfold trn; rw [if_pos (List.mem_range.2 (tix_lt hk))]
theorem cells_stand {X Y : World} {B : Nat} {row : Option Nat} (hg : X.grownBy Y row) (hr : ∀ r, row = some r → B ≤ r ∧ ∃ o : Obj, X.heap[r]? = some o ∧ o.isCells = false) {k : Nat} {c : Array Value} {t : TypeId} {fr : Nat × Nat} (hk : X.heap[k]? = some (.cells c t fr)) : Y.heap[k]? = some (.cells c t fr) :=
  (hg.block k (Array.getElem?_eq_some_iff.1 hk).1 (fun e => by
    obtain ⟨_, o', h1, h2⟩ := hr k e.symm
    rw [hk] at h1; cases h1; cases h2)).trans hk
theorem Later.setRow {w W : World} {R : Nat} (h : Later w W) (hR : w.heap.size ≤ R) (cs : Array Value) : Later w (W.setRow R cs) :=
  ⟨h.os, h.tape, h.output, by rw [size_setRow]; exact h.size, fun k hk => (setRow_other _ _ _ _ (by omega)).trans (h.block k hk)⟩
theorem results_cell1 {P : Program} {w : World} {fn : Func} {a : Tmp} {t : TypeId} (h : fn.results = #[.cell a t]) (tmps : Array Value) {p : Addr} {v : Value} (hp : tmps.getD a undef = .pointer (some p)) (hl : (loadVar t p).run P w = .ok v w) :
    (results fn tmps).run P w = .ok v w := by
  rw [Array.getD_eq_getD_getElem?] at hp
  simp [results, h, hp, hl, asAddr, Sem.run_bind]
theorem results_cell2 {P : Program} {w : World} {fn : Func} {a b : Tmp} {t : TypeId} (h : fn.results = #[.cell a t, .tmp b]) (tmps : Array Value) {p : Addr} {v : Value} (hp : tmps.getD a undef = .pointer (some p)) (hl : (loadVar t p).run P w = .ok v w) :
    (results fn tmps).run P w = .ok (.tuple #[v, tmps.getD b undef]) w := by
  rw [Array.getD_eq_getD_getElem?] at hp
  simp [results, h, hp, hl, asAddr, Sem.run_bind]
theorem push_new (W : World) (o : Obj) {n : Nat} (h : W.heap.size = n) : (W.alloc o).heap[n]? = some o := h ▸ heap_alloc_new W o
set_option maxRecDepth 100000 in
set_option maxHeartbeats 4000000 in
theorem across_any (f : Nat → Int) (W : World) :
    Calls Try.prog 58 #[matV f] W fun e w' => e = .returned (matV (fun k => f (tix k))) ∧ Later W w' := by
  refine (callsIn_wide (n := 4)).1 ?_
  refine callsIn_of_wp_marks Try.func58 rfl trivial ?_ rfl
  simp only [Try.ntmps58, List.size_toArray, List.length_cons, List.length_nil, Nat.reduceAdd, Nat.reduceSub, Array.replicate_succ, Array.replicate_zero, List.push_toArray, List.append_toArray, List.nil_append, List.cons_append]
  refine wpIn_wide.2 ?_
  obtain ⟨X, hX⟩ : ∃ X, X = ((W.alloc (.cells (rowV 16 f) 25)).alloc (.cells #[.int .i64 0, .int .i64 0, .int .i64 0, .int .i64 0, .int .i64 0, .int .i64 0, .int .i64 0, .int .i64 0, .int .i64 0, .int .i64 0, .int .i64 0, .int .i64 0, .int .i64 0, .int .i64 0, .int .i64 0, .int .i64 0] 25)).alloc (.cells #[.int .i64 0, .int .i64 0, .int .i64 0, .int .i64 0, .int .i64 0, .int .i64 0, .int .i64 0, .int .i64 0, .int .i64 0, .int .i64 0, .int .i64 0, .int .i64 0, .int .i64 0, .int .i64 0, .int .i64 0, .int .i64 0] 25) := ⟨_, rfl⟩
  have hlX : Later W X := by rw [hX]; exact (((Later.refl W).alloc _).alloc _).alloc _
  have kM : matB X W.heap.size f := by rw [hX]; exact push_one (push_one (heap_alloc_new _ _) _) _
  have kR : matB X (W.heap.size + 1) (fun _ => 0) := by rw [hX]; exact push_one (push_new _ _ (by simp)) _
  have kO : matB X (W.heap.size + 1 + 1) (fun _ => 0) := by rw [hX]; exact push_new _ _ (by simp)
  have hXs : X.heap.size = W.heap.size + 3 := by rw [hX]; simp
  go_upto_region 2 with fail
  rw [← hX]
  clear hX
  replace hXs := Lib.hid hXs
  go_wp2_with (refine wpList_load_row rfl _ _ rfl W.heap.size rfl _ _ (0, 0) _ kM Try.underlying25 rfl (size_mat f) ?_)
  refine (numbers_any f _).mono ?_
  rintro e w3 ⟨rfl, rfl⟩
  obtain ⟨Y, hY⟩ : ∃ Y, Y = X.alloc (.cells (rowV 16 f) 25) := ⟨_, rfl⟩
  have hlY : Later X Y := by rw [hY]; exact (Later.refl X).alloc _
  have hYs : Y.heap.size = X.heap.size + 1 := by rw [hY]; simp
  have kM2 : matB Y X.heap.size f := by rw [hY]; exact heap_alloc_new _ _
  replace kR := Row.later kR hlY
  replace kO := Row.later kO hlY
  rw [← hY]
  obtain ⟨N, hN⟩ : ∃ N, Hid (W.heap.size = N) := ⟨_, rfl⟩
  obtain ⟨R, hR⟩ : ∃ R, Hid (N + 1 = R) := ⟨_, rfl⟩
  obtain ⟨O, hO⟩ : ∃ O, Hid (R + 1 = O) := ⟨_, rfl⟩
  obtain ⟨M, hM⟩ : ∃ M, Hid (X.heap.size = M) := ⟨_, rfl⟩
  have hNW : W.heap.size ≤ N := Nat.le_of_eq hN.out
  have hNR : N < R := by have := hR.out; omega
  have hRO : R < O := by have := hO.out; omega
  have hOM : O < M := by have := hM.out; have := hO.out; have := hR.out; have := hN.out; have := hXs.out; omega
  have hMY : M < Y.heap.size := by have := hM.out; omega
  rw [hN.out] at kM kR kO
  rw [hR.out] at kR kO
  rw [hO.out] at kO
  rw [hM.out] at kM2
  rw [hN.out, hR.out, hO.out, hM.out]
  have HS := Lib.hid (numbers_stops M f (fun k => k = M) Y rfl kM2)
  have hlW := hlX.trans hlY
  clear hXs hY hYs hN hR hO hM kM hlX hlY kM2
  go_wp2_with fail
  refine (wpIn_wide (n := 4)).1 ?_
  refine wpIn_rangeFunc_ownH rfl (by omega) (gf := 74) (lb := #[wp M]) rfl trivial (enters_of Try.func74 (by kernel_rfl) rfl)
    HS.out KeepS.trans (fun W l o o' hl _ _ _ => KeepS.putObj W l o' (fun k hk => by have : k = M := hk; omega)) (Below.refl _ _) (fun _ => rfl)
    (fun (pre : List K16) W' => matB W' O (trn f (pre.map (·.1))) ∧ matB W' R (fun _ => 0) ∧ Y.heap.size ≤ W'.heap.size ∧ W.grownBy W' none)
    (fun _ _ _ => False)
    (OwnFrom.and (ownFrom_row (by omega)) (OwnFrom.and (ownFrom_row (by omega)) (OwnFrom.and (ownFrom_size _ _) (ownFrom_none hlW.size))))
    (fun _ _ _ _ _ hs _ _ => hs)
    ⟨kO.ext (fun k hk => by unfold trn; rw [if_neg (by simp)]), kR, Nat.le_refl _, hlW.grown⟩
    (fun (x : K16) a' W' => ∃ B, Y.heap.size ≤ B ∧ W'.heap[B]? = some (.cells #[.int .i64 ((x.1 / 4 : Nat) : Int), .int .i64 ((x.1 % 4 : Nat) : Int)] 104 (0, 0)) ∧ a' = { tmps := #[matV f, wp N, wp R, wp O, wp B, .int .i64 (f x.1), matV f, .func (.func 74) #[] #[wp M], .agg #[.int .i64 ((x.1 / 4 : Nat) : Int), .int .i64 ((x.1 % 4 : Nat) : Int)], .int .i64 (f x.1), undef, undef, undef, undef, undef, undef, undef, undef], defers := [] })
    (fun x a' _ A W' row ⟨B, hB, hk, ha⟩ hg hr => ⟨B, hB, cells_stand hg hr hk, ha⟩)
    ?assign ?body ?done ?stop
  case assign =>
    rintro l pre x W1 K ⟨kO1, kR1, hs1, hG⟩ hK
    gi_wp2
    have hl1 : Later W1 (W1.alloc (.cells #[.int .i64 ((x.1 / 4 : Nat) : Int), .int .i64 ((x.1 % 4 : Nat) : Int)] 104)) := (Later.refl W1).alloc _
    refine hK _ _ (keepsFrom_later hl1) (KeepS.later hl1 (fun k hk => by have : k = M := hk; omega)) ⟨Row.later kO1 hl1, Row.later kR1 hl1, Nat.le_trans hs1 hl1.size, grown_none hG hl1.grown (fun r e => by cases e)⟩ ⟨W1.heap.size, hs1, heap_alloc_new _ _, rfl⟩
  case body =>
    rintro l pre x a' W1 hYl hloop ⟨kO1, kR1, hs1, hG⟩ ⟨B, hB, kB, rfl⟩ hlt
    obtain ⟨r, hr⟩ : ∃ r, Hid (x.1 / 4 = r) := ⟨_, rfl⟩
    obtain ⟨c, hc⟩ : ∃ c, Hid (x.1 % 4 = c) := ⟨_, rfl⟩
    have hrb : r < 4 := by have := hr.out; have := x.2; omega
    have hcb : c < 4 := by have := hc.out; omega
    have hrx : tix x.1 = c * 4 + r := by rw [← hr.out, ← hc.out]; rfl
    have hst := Lib.hid (trn_set f (pre.map (·.1)) x.2)
    rw [hrx] at hst
    rw [hr.out, hc.out] at kB ⊢
    have b0 := (cells_2 kB).1
    have b1 := (cells_2 kB).2
    have co := kO1.cell (k := c * 4 + r) (by omega)
    have cf := kO1.frozen (c * 4 + r)
    have hri : (r : Int) < 4 := by omega
    have hci : (c : Int) < 4 := by omega
    have kOs := Row.set kO1 (k := c * 4 + r) (by omega) (f x.1)
    clear hrx
    gi_wp2_with fail
    have hl1 : W1.grownBy (W1.setCell ⟨O, c * 4 + r, none⟩ (.int .i64 (f x.1))).drew (some O) := grown_after (grownBy_set W1 O _ _) (drew_later _)
    have zK : KeepsFrom Y.heap.size W1 (W1.setCell ⟨O, c * 4 + r, none⟩ (.int .i64 (f x.1))).drew := KeepsFrom.of_grownBy hl1 (fun j e => by cases e; omega)
    have zS : KeepS (fun k => k = M) W1 (W1.setCell ⟨O, c * 4 + r, none⟩ (.int .i64 (f x.1))).drew := fun k hk => hl1.block k (by have : k = M := hk; omega) (fun e => by injection e with e; have : k = M := hk; omega)
    have zR : matB (W1.setCell ⟨O, c * 4 + r, none⟩ (.int .i64 (f x.1))).drew R (fun _ => 0) := Row.grown kR1 hl1 (fun e => by cases e; omega)
    have zO : matB (W1.setCell ⟨O, c * 4 + r, none⟩ (.int .i64 (f x.1))).drew O (trn f ((pre ++ [x]).map (·.1))) := by rw [List.map_append]; exact Row.ext (Row.later kOs (drew_later _)) hst.out
    have zG : W.grownBy (W1.setCell ⟨O, c * 4 + r, none⟩ (.int .i64 (f x.1))).drew none := grown_none hG hl1 (fun r e => by cases e; omega)
    replace zK := Lib.hid zK
    replace zS := Lib.hid zS
    replace zR := Lib.hid zR
    replace zO := Lib.hid zO
    replace zG := Lib.hid zG
    clear kOs hst hl1
    gi_region_with (fail)
    all_goals
      gi_wp2_with fail
      exact ⟨zK.out, zS.out, zO.out, zR.out, Nat.le_trans hs1 zK.out.size, zG.out⟩
  case done =>
    rintro D ys W' hD hys ⟨kO1, kR1, hs1, hG⟩ hK
    rw [hys] at kO1
    replace kO1 := Row.ext kO1 (trn_all f)
    go_wp2_with (first | refine wpList_load_row rfl _ _ rfl O rfl _ _ (0, 0) _ kO1 Try.underlying25 rfl (size_mat _) ?_ | refine wpList_store_row rfl 25 _ _ rfl R (rowV 16 (fun k => f (tix k))) rfl rfl 25 (rowV 16 (fun _ => 0)) kR1 (size_mat _) (by rw [rowV_size, rowV_size]) (rowV_one 16 _) ?_)
    obtain ⟨Z0, hZ0⟩ : ∃ Z, Z = W'.setRow R (rowV 16 fun k => f (tix k)) := ⟨_, rfl⟩
    have kZ0 : matB Z0 R (fun k => f (tix k)) := by rw [hZ0]; exact setRow_heap _ _ _ _ _ _ kR1
    have kD0 : Z0.heap[D]? = some (.deferred (some [])) := by rw [hZ0]; exact (setRow_other _ _ _ _ (by omega)).trans hK
    have hlZ : Later W Z0 := by rw [hZ0]; exact (Later.of_grown hG).setRow (by omega) _
    rw [← hZ0]
    refine ⟨by simp, .inl ⟨_, _, rfl, run_takeDeferred (b := D) kD0, ?_⟩⟩
    obtain ⟨Z, hZ⟩ : ∃ Z, Z = Z0.putObj D (.deferred none) := ⟨_, rfl⟩
    have kZ : matB Z R (fun k => f (tix k)) := by rw [hZ]; exact (World.putObj_heap_other (by omega)).trans kZ0
    have hlZ2 : Later W Z := by rw [hZ]; exact Below.trans hlZ (belowK_b (w := Y) hlW.size Z0 D _ _ hD kD0 rfl rfl)
    rw [← hZ]
    clear hZ hZ0
    refine ⟨matV (fun k => f (tix k)), ?_, rfl, hlZ2⟩
    have hload := load_mat kZ
    exact results_cell1 (a := 2) (t := 25) (by kernel_rfl) _ rfl hload
  case stop =>
    rintro D c pre W' hD hsp h hK
    exact h.elim
end Go.Proofs.Ytackbajbladhhaa
