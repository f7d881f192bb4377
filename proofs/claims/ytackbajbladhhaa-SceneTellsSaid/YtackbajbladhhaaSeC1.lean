/-
  Chapter 6: when rows of numbers are the same: matrices, vertices, triangles.
  Chapter 6: the library's Equal and Clone of vertices and triangles, and Clone of objects, by their contracts.
  Chapter 6: whether two scenes are the same: the program's answer.
  Chapter 6: whether two scenes are the same: the program's answer, whole.
-/
import Derived.Test.YtackbajbladhhaaScA
import Derived.DeepKeys
import Derived.Test.YtackbajbladhhaaScK
import Derived.Test.YtackbajbladhhaaSdA
namespace Go.Proofs.Ytackbajbladhhaa
open Go.RowKit Go.Shelf
set_option linter.unusedVariables false
set_option linter.unusedSimpArgs false

theorem part_int {t : TypeId} (hagg : ∀ w, (isAgg t).run Try.prog w = .ok false w) (W : World) (xs : Array Value) (off : Nat) (v : Value) (h : xs[off]? = some v) : (part t xs off).run Try.prog W = .ok v W := by
  unfold part
  simp only [Sem.run_bind, hagg, Result.andThen_ok, Bool.false_eq_true, if_false, h, Sem.run_pure]
theorem eqItems_int {t : TypeId} {k : IntKind} (hu : Try.prog.underlying t = some (.int k)) (hagg : ∀ w, (isAgg t).run Try.prog w = .ok false w) (D : Nat) (xs ys : Array Value) (f g : Nat → Int) (W : World) : ∀ is : List Nat, (∀ i ∈ is, xs[i]? = some (.int k (f i)) ∧ ys[i]? = some (.int k (g i))) → (Op.eqItems (D + 1) t 1 xs ys is).run Try.prog W = .ok (is.all fun i => f i == g i) W
  | [], _ => by rw [Op.eqItems]; rfl
  | i :: is, h => by
    obtain ⟨h1, h2⟩ := h i (by simp)
    have ih := eqItems_int hu hagg D xs ys f g W is (fun j hj => h j (by simp [hj]))
    have p1 := part_int hagg W xs (i * 1) _ (by rw [Nat.mul_one]; exact h1)
    have p2 := part_int hagg W ys (i * 1) _ (by rw [Nat.mul_one]; exact h2)
    have p3 := run_equalIn_int (P := Try.prog) W D t k k (f i) (g i) hu
    rw [Op.eqItems]
    simp only [Sem.run_bind, p1, p2, Result.andThen_ok, p3]
    rw [List.all_cons]
    cases hb : (f i == g i)
    · rfl
    · simp only [Bool.not_true, Bool.false_eq_true, if_false, Bool.true_and]
      exact ih
theorem agg_i64 (w : World) : (isAgg 2).run Try.prog w = .ok false w := by kernel_rfl
theorem one_i64 : (Try.prog.cellsOf 2) = 1 := by kernel_rfl
theorem info_of {t : TypeId} (h : (Try.prog.info? t).isSome = true) : ∃ i, Try.prog.info? t = some i := Option.isSome_iff_exists.1 h
theorem eq_arr {t : TypeId} {n : Nat} (hu : Try.prog.underlying t = some (.array n 2)) (d : Nat) (W : World) (xs ys : Array Value) (f g : Nat → Int) (h : ∀ i, i < n → xs[i]? = some (.int .i64 (f i)) ∧ ys[i]? = some (.int .i64 (g i))) :
    (Op.equalIn (d + 2) t (.agg xs) (.agg ys)).run Try.prog W = .ok ((List.range n).all fun i => f i == g i) W := by
  obtain ⟨i, hi⟩ := info_of (t := 2) (by kernel_rfl)
  refine (run_equalIn_array W (d + 1) xs ys hu hi).trans ?_
  rw [one_i64]
  exact eqItems_int Try.underlying2 agg_i64 d xs ys f g W (List.range n) (fun j hj => h j (List.mem_range.1 hj))
theorem agg_vec (w : World) : (isAgg 23).run Try.prog w = .ok true w := by kernel_rfl
theorem size_vec4 (w : World) : (sizeOf 23).run Try.prog w = .ok 4 w := by kernel_rfl
theorem four_vec : (Try.prog.cellsOf 23) = 4 := by kernel_rfl
theorem part_vec (W : World) (xs : Array Value) (off : Nat) : (part 23 xs off).run Try.prog W = .ok (.agg (xs.extract off (off + 4))) W := by
  unfold part
  simp only [Sem.run_bind, agg_vec, size_vec4, Result.andThen_ok, if_true, Sem.run_pure]
def vecEq (f g : Nat → Int) (i : Nat) : Bool := (List.range 4).all fun j => f (i * 4 + j) == g (i * 4 + j)
theorem eqItems_vec (D : Nat) (xs ys : Array Value) (f g : Nat → Int) (W : World) : ∀ is : List Nat, (∀ i ∈ is, ∀ j, j < 4 → xs[i * 4 + j]? = some (.int .i64 (f (i * 4 + j))) ∧ ys[i * 4 + j]? = some (.int .i64 (g (i * 4 + j)))) →
    (Op.eqItems (D + 2) 23 4 xs ys is).run Try.prog W = .ok (is.all (vecEq f g)) W
  | [], _ => by rw [Op.eqItems]; rfl
  | i :: is, h => by
    have h0 := h i (by simp)
    have ih := eqItems_vec D xs ys f g W is (fun j hj => h j (by simp [hj]))
    have p3 := eq_arr Try.underlying23 D W (xs.extract (i * 4) (i * 4 + 4)) (ys.extract (i * 4) (i * 4 + 4)) (fun j => f (i * 4 + j)) (fun j => g (i * 4 + j)) (fun j hj => by
      have e1 := (h0 j hj).1
      have e2 := (h0 j hj).2
      have l1 := (Array.getElem?_eq_some_iff.1 (h0 3 (by omega)).1).1
      have l2 := (Array.getElem?_eq_some_iff.1 (h0 3 (by omega)).2).1
      constructor
      · rw [Array.getElem?_extract, if_pos (by omega)]; exact e1
      · rw [Array.getElem?_extract, if_pos (by omega)]; exact e2)
    rw [Op.eqItems]
    simp only [Sem.run_bind, part_vec, Result.andThen_ok, p3]
    rw [List.all_cons]
    change (if (!(vecEq f g i)) = true then _ else _ : Sem Bool).run _ _ = _
    cases hb : vecEq f g i
    · rfl
    · simp only [Bool.not_true, Bool.false_eq_true, if_false, Bool.true_and]
      exact ih
def matEq (f g : Nat → Int) : Bool := (List.range 4).all (vecEq f g)
theorem matEq_iff {f g : Nat → Int} : matEq f g = true ↔ ∀ k, k < 16 → f k = g k := by
  unfold matEq vecEq
  simp only [List.all_eq_true, List.mem_range, beq_iff_eq]
  constructor
  · intro h k hk
    have := h (k / 4) (by omega) (k % 4) (by omega)
    rwa [show k / 4 * 4 + k % 4 = k by omega] at this
  · intro h i hi j hj
    exact h _ (by omega)
theorem eq_mat (W : World) (f g : Nat → Int) : (Op.equalIn 10000 25 (.agg (rowV 16 f)) (.agg (rowV 16 g))).run Try.prog W = .ok (matEq f g) W := by
  obtain ⟨i, hi⟩ := info_of (t := 23) (by kernel_rfl)
  refine (run_equalIn_array W 9999 _ _ Try.underlying25 hi).trans ?_
  rw [four_vec]
  refine eqItems_vec 9997 _ _ f g W (List.range 4) (fun i hi j hj => ?_)
  have hk : i * 4 + j < 16 := by have := List.mem_range.1 hi; omega
  unfold rowV
  constructor
  · simp [hk]
  · simp [hk]
theorem eql_mat (W : World) (f g : Nat → Int) : (binOp .eql 25 (.agg (rowV 16 f)) (.agg (rowV 16 g))).run Try.prog W = .ok (.bool (matEq f g)) W := by
  rw [run_eql_struct, eq_mat]; rfl
theorem neq_mat (W : World) (f g : Nat → Int) : (binOp .neq 25 (.agg (rowV 16 f)) (.agg (rowV 16 g))).run Try.prog W = .ok (.bool (!(matEq f g))) W := by
  rw [run_neq_struct, eq_mat]; rfl
theorem guard_mat : Try.prog.eqGuardType Try.prog.depth 25 = false := by kernel_rfl
/-! Vertices. -/
theorem v3_eq {a b : V3} : (a == b) = ((List.range 3).all fun i => (fun k => if k = 0 then a.1 else if k = 1 then a.2.1 else a.2.2) i == (fun k => if k = 0 then b.1 else if k = 1 then b.2.1 else b.2.2) i) := by
  obtain ⟨x, y, z⟩ := a
  obtain ⟨p, q, r⟩ := b
  show ((x == p) && ((y == q) && (z == r))) = ((x == p) && ((y == q) && ((z == r) && true)))
  rw [Bool.and_true]
theorem eq_v3 (W : World) (a b : V3) : (Op.equalIn 10000 40 (.agg (vrow a).toArray) (.agg (vrow b).toArray)).run Try.prog W = .ok (a == b) W := by
  rw [v3_eq]
  refine eq_arr Try.underlying40 9998 W _ _ _ _ (fun i hi => ?_)
  rcases (show i = 0 ∨ i = 1 ∨ i = 2 by omega) with rfl | rfl | rfl <;> exact ⟨rfl, rfl⟩
theorem neq_v3 (W : World) (a b : V3) : (binOp .neq 40 (.agg (vrow a).toArray) (.agg (vrow b).toArray)).run Try.prog W = .ok (.bool (!(a == b))) W := by
  rw [run_neq_struct, eq_v3]; rfl
theorem guard_v3 : Try.prog.eqGuardType Try.prog.depth 40 = false := by kernel_rfl
/-! Triangles. -/
theorem agg_int (w : World) : (isAgg 3).run Try.prog w = .ok false w := by kernel_rfl
theorem agg_u32 (w : World) : (isAgg 82).run Try.prog w = .ok false w := by kernel_rfl
theorem eq_field {t : TypeId} {k : IntKind} (hu : Try.prog.underlying t = some (.int k)) (hagg : ∀ w, (isAgg t).run Try.prog w = .ok false w) (D : Nat) (xs ys : Array Value) (f : Field) (fs : List Field) (hn : f.name ≠ "_") (ht : f.type = t) (a b : Int) (W : World)
    (hx : xs[f.offset]? = some (.int k a)) (hy : ys[f.offset]? = some (.int k b)) {r : Bool} (hr : (Op.eqFields (D + 1) xs ys fs).run Try.prog W = .ok r W) :
    (Op.eqFields (D + 1) xs ys (f :: fs)).run Try.prog W = .ok ((a == b) && r) W := by
  subst ht
  have p1 := part_int hagg W xs _ _ hx
  have p2 := part_int hagg W ys _ _ hy
  have p3 := run_equalIn_int (P := Try.prog) W D f.type k k a b hu
  rw [Op.eqFields]
  rw [Sem.run_ite, if_pos hn]
  simp only [Sem.run_bind, p1, p2, Result.andThen_ok, p3]
  cases hb : (a == b)
  · rfl
  · simp only [Bool.not_true, Bool.false_eq_true, if_false, Bool.true_and]
    exact hr
theorem four_of {α : Type} {L : List α} (h : L.length = 4) : ∃ a b c d, L = [a, b, c, d] := by
  rcases L with _ | ⟨a, _ | ⟨b, _ | ⟨c, _ | ⟨d, _ | ⟨e, r⟩⟩⟩⟩⟩ <;> simp at h
  exact ⟨a, b, c, d, rfl⟩
theorem eq_tri (W : World) (a b : T4) : (Op.equalIn 10000 84 (.agg (trow a).toArray) (.agg (trow b).toArray)).run Try.prog W = .ok (a == b) W := by
  obtain ⟨x, y, z, c⟩ := a
  obtain ⟨p, q, r, s⟩ := b
  show _ = Result.ok ((x == p) && ((y == q) && ((z == r) && (c == s)))) W
  rw [run_equalIn_struct W 9999 _ _ _ (by kernel_rfl) (by kernel_rfl)]
  have hfs : (Try.prog.fieldsOf 84).toList.map (fun f => (f.name, f.type, f.offset)) = [("A", 3, 0), ("B", 3, 1), ("C", 3, 2), ("Color", 82, 3)] := by kernel_rfl
  generalize (Try.prog.fieldsOf 84).toList = fs at hfs
  obtain ⟨f0, f1, f2, f3, rfl⟩ := four_of ((List.length_map _).symm.trans (congrArg List.length hfs))
  · simp only [List.map_cons, List.map_nil, List.cons.injEq, Prod.mk.injEq, and_true] at hfs
    obtain ⟨⟨n0, t0, o0⟩, ⟨n1, t1, o1⟩, ⟨n2, t2, o2⟩, ⟨n3, t3, o3⟩⟩ := hfs
    rw [← Bool.and_true (c == s)]
    refine eq_field Try.underlying3 agg_int 9998 _ _ _ _ (by rw [n0]; decide) t0 x p W (by rw [o0]; rfl) (by rw [o0]; rfl) ?_
    refine eq_field Try.underlying3 agg_int 9998 _ _ _ _ (by rw [n1]; decide) t1 y q W (by rw [o1]; rfl) (by rw [o1]; rfl) ?_
    refine eq_field Try.underlying3 agg_int 9998 _ _ _ _ (by rw [n2]; decide) t2 z r W (by rw [o2]; rfl) (by rw [o2]; rfl) ?_
    refine eq_field Try.underlying82 agg_u32 9998 _ _ _ _ (by rw [n3]; decide) t3 c s W (by rw [o3]; rfl) (by rw [o3]; rfl) ?_
    rw [Op.eqFields]; rfl
theorem neq_tri (W : World) (a b : T4) : (binOp .neq 84 (.agg (trow a).toArray) (.agg (trow b).toArray)).run Try.prog W = .ok (.bool (!(a == b))) W := by
  rw [run_neq_struct, eq_tri]; rfl
theorem guard_tri : Try.prog.eqGuardType Try.prog.depth 84 = false := by kernel_rfl
end Go.Proofs.Ytackbajbladhhaa
namespace Go.Proofs.Ytackbajbladhhaa
open Go.RowKit Go.Shelf
set_option linter.unusedVariables false
set_option linter.unusedSimpArgs false
attribute [local go_sem] Oper.semAt_some
attribute [-go_sem] run_neq_struct run_eql_struct Instr.buildSlice Builtin.append_

set_option maxRecDepth 100000 in
set_option maxHeartbeats 2000000 in
theorem equal_vs (u v : Value) (L M : List V3) (W : World) (hu : RowsV 3 W u (L.map vrow)) (hv : RowsV 3 W v (M.map vrow)) (hlen : L.length ≤ 1000000) :
    Calls Try.prog 46 #[u, v] W fun e w' => e = .returned (.bool (L == M)) ∧ Later W w' := by
  obtain ⟨r, hr⟩ : ∃ r, Hid ((L == M) = r) := ⟨_, rfl⟩
  rw [hr.out]
  obtain ⟨ao, ca, rfl⟩ := hu.form
  obtain ⟨bo, cb, rfl⟩ := hv.form
  rw [List.length_map, List.length_map]
  rw [List.length_map] at hu hv
  obtain ⟨n, hn⟩ : ∃ n, Hid (L.length = n) := ⟨_, rfl⟩
  obtain ⟨m, hm⟩ : ∃ n, Hid (M.length = n) := ⟨_, rfl⟩
  rw [hn.out] at hu hlen ⊢
  rw [hm.out] at hv ⊢
  by_cases hnm : n = m
  case neg =>
    have hd : ((n : Int) != (m : Int)) = true := by simp; omega
    have hf : Hid (r = false) := Lib.hid (by
      rw [← hr.out]
      exact beq_eq_false_iff_ne.2 (fun e => hnm (by rw [← hn.out, ← hm.out, e])))
    clear hu hv hnm
    go_enter Try.func46, Try.ntmps46
    go_wp2_with fail
    go_ret
    exact ⟨by rw [hf.out]; rfl, Later.refl _⟩
  subst hnm
  have hd : ((n : Int) != (n : Int)) = false := by simp
  go_enter Try.func46, Try.ntmps46
  go_wp2_with fail
  go_loopw [13] (fun y wr => ∃ i : Nat, i ≤ n ∧ y = .int .i64 i ∧ Hid (∀ j, j < i → L[j]? = M[j]?) ∧ Later W wr) (fun y _ => (2000000 - intOf y).toNat)
  case atStart => exact ⟨0, by omega, rfl, Lib.hid (fun j hj => by omega), Later.refl _⟩
  case round =>
    obtain ⟨i, hi, rfl, hall, hl⟩ := hrel
    obtain ⟨wi, rfl⟩ : ∃ wo : World, wo = wr := ⟨_, rfl⟩
    by_cases hin : i < n
    · obtain ⟨x, hx⟩ : ∃ x, Hid (L[i]? = some x) := ⟨_, Lib.hid (List.getElem?_eq_getElem (by rw [hn.out]; exact hin))⟩
      obtain ⟨y, hy⟩ : ∃ x, Hid (M[i]? = some x) := ⟨_, Lib.hid (List.getElem?_eq_getElem (by rw [hm.out]; exact hin))⟩
      obtain ⟨g1, o1, rfl, hr1⟩ := (hu.later hl).at (k := i) (x := vrow x) (by rw [List.getElem?_map, hx.out]; rfl)
      obtain ⟨g2, o2, rfl, hr2⟩ := (hv.later hl).at (k := i) (x := vrow y) (by rw [List.getElem?_map, hy.out]; rfl)
      obtain ⟨a0, a1, a2⟩ := x
      obtain ⟨b0, b1, b2⟩ := y
      have c0 : wi.cell? ⟨g1, o1 + i * 3, none⟩ = some (.int .i64 a0) := hr1 0 _ rfl
      have d0 : wi.cell? ⟨g2, o2 + i * 3, none⟩ = some (.int .i64 b0) := hr2 0 _ rfl
      have c1 : wi.cell? ⟨g1, o1 + i * 3 + 1, none⟩ = some (.int .i64 a1) := hr1 1 _ rfl
      have d1 : wi.cell? ⟨g2, o2 + i * 3 + 1, none⟩ = some (.int .i64 b1) := hr2 1 _ rfl
      have c2 : wi.cell? ⟨g1, o1 + i * 3 + 2, none⟩ = some (.int .i64 a2) := hr1 2 _ rfl
      have d2 : wi.cell? ⟨g2, o2 + i * 3 + 2, none⟩ = some (.int .i64 b2) := hr2 2 _ rfl
      have hii : (i : Int) < n := by omega
      obtain ⟨q, hq⟩ : ∃ q, Hid ((((a0, a1, a2) : V3) == (b0, b1, b2)) = q) := ⟨_, rfl⟩
      have hne : ∀ W, (binOp .neq 40 (.agg #[.int .i64 a0, .int .i64 a1, .int .i64 a2]) (.agg #[.int .i64 b0, .int .i64 b1, .int .i64 b2])).run Try.prog W = .ok (.bool (!q)) W := fun W => by rw [← hq.out]; exact neq_v3 W (a0, a1, a2) (b0, b1, b2)
      have hgd := guard_v3
      clear hr1 hr2
      cases q
      · have hf : Hid (r = false) := Lib.hid (by
          rw [← hr.out]
          refine beq_eq_false_iff_ne.2 (fun e => ?_)
          have h1 := hx.out
          rw [e, hy.out] at h1
          have h2 := hq.out
          rw [Option.some.inj h1] at h2
          simp at h2)
        clear hall hx hy hq
        go_upto_region 6 with fail
        go_region
        go_wp2_with fail
        go_ret
        exact ⟨by rw [hf.out]; rfl, hl.drew⟩
      · have h2 : Hid (∀ j, j < i + 1 → L[j]? = M[j]?) := Lib.hid (fun j hj => by
          by_cases e : j = i
          · rw [e, hx.out, hy.out, eq_of_beq hq.out]
          · exact hall.out j (by omega))
        clear hall hx hy hq
        go_upto_region 6 with fail
        go_region
        go_wp2_with fail
        go_roundw
        case rel => exact ⟨i + 1, by omega, by go_num, h2, hl.drew⟩
        case measure => simp [intOf]; omega
    · obtain rfl : i = n := by omega
      have hf : Hid (r = true) := Lib.hid (by
        rw [← hr.out]
        refine beq_iff_eq.2 (List.ext_getElem? (fun j => ?_))
        by_cases hj : j < i
        · exact hall.out j hj
        · rw [List.getElem?_eq_none (by rw [hn.out]; omega), List.getElem?_eq_none (by rw [hm.out]; omega)])
      clear hall
      go_wp2_with fail
      go_ret
      exact ⟨by rw [hf.out]; rfl, hl⟩
set_option maxRecDepth 100000 in
set_option maxHeartbeats 2000000 in
theorem equal_ts (u v : Value) (L M : List T4) (W : World) (hu : RowsV 4 W u (L.map trow)) (hv : RowsV 4 W v (M.map trow)) (hlen : L.length ≤ 1000000) :
    Calls Try.prog 47 #[u, v] W fun e w' => e = .returned (.bool (L == M)) ∧ Later W w' := by
  obtain ⟨r, hr⟩ : ∃ r, Hid ((L == M) = r) := ⟨_, rfl⟩
  rw [hr.out]
  obtain ⟨ao, ca, rfl⟩ := hu.form
  obtain ⟨bo, cb, rfl⟩ := hv.form
  rw [List.length_map, List.length_map]
  rw [List.length_map] at hu hv
  obtain ⟨n, hn⟩ : ∃ n, Hid (L.length = n) := ⟨_, rfl⟩
  obtain ⟨m, hm⟩ : ∃ n, Hid (M.length = n) := ⟨_, rfl⟩
  rw [hn.out] at hu hlen ⊢
  rw [hm.out] at hv ⊢
  by_cases hnm : n = m
  case neg =>
    have hd : ((n : Int) != (m : Int)) = true := by simp; omega
    have hf : Hid (r = false) := Lib.hid (by
      rw [← hr.out]
      exact beq_eq_false_iff_ne.2 (fun e => hnm (by rw [← hn.out, ← hm.out, e])))
    clear hu hv hnm
    go_enter Try.func47, Try.ntmps47
    go_wp2_with fail
    go_ret
    exact ⟨by rw [hf.out]; rfl, Later.refl _⟩
  subst hnm
  have hd : ((n : Int) != (n : Int)) = false := by simp
  go_enter Try.func47, Try.ntmps47
  go_wp2_with fail
  go_loopw [13] (fun y wr => ∃ i : Nat, i ≤ n ∧ y = .int .i64 i ∧ Hid (∀ j, j < i → L[j]? = M[j]?) ∧ Later W wr) (fun y _ => (2000000 - intOf y).toNat)
  case atStart => exact ⟨0, by omega, rfl, Lib.hid (fun j hj => by omega), Later.refl _⟩
  case round =>
    obtain ⟨i, hi, rfl, hall, hl⟩ := hrel
    obtain ⟨wi, rfl⟩ : ∃ wo : World, wo = wr := ⟨_, rfl⟩
    by_cases hin : i < n
    · obtain ⟨x, hx⟩ : ∃ x, Hid (L[i]? = some x) := ⟨_, Lib.hid (List.getElem?_eq_getElem (by rw [hn.out]; exact hin))⟩
      obtain ⟨y, hy⟩ : ∃ x, Hid (M[i]? = some x) := ⟨_, Lib.hid (List.getElem?_eq_getElem (by rw [hm.out]; exact hin))⟩
      obtain ⟨g1, o1, rfl, hr1⟩ := (hu.later hl).at (k := i) (x := trow x) (by rw [List.getElem?_map, hx.out]; rfl)
      obtain ⟨g2, o2, rfl, hr2⟩ := (hv.later hl).at (k := i) (x := trow y) (by rw [List.getElem?_map, hy.out]; rfl)
      obtain ⟨a0, a1, a2, a3⟩ := x
      obtain ⟨b0, b1, b2, b3⟩ := y
      have c0 : wi.cell? ⟨g1, o1 + i * 4, none⟩ = some (.int .i64 a0) := hr1 0 _ rfl
      have d0 : wi.cell? ⟨g2, o2 + i * 4, none⟩ = some (.int .i64 b0) := hr2 0 _ rfl
      have c1 : wi.cell? ⟨g1, o1 + i * 4 + 1, none⟩ = some (.int .i64 a1) := hr1 1 _ rfl
      have d1 : wi.cell? ⟨g2, o2 + i * 4 + 1, none⟩ = some (.int .i64 b1) := hr2 1 _ rfl
      have c2 : wi.cell? ⟨g1, o1 + i * 4 + 2, none⟩ = some (.int .i64 a2) := hr1 2 _ rfl
      have d2 : wi.cell? ⟨g2, o2 + i * 4 + 2, none⟩ = some (.int .i64 b2) := hr2 2 _ rfl
      have c3 : wi.cell? ⟨g1, o1 + i * 4 + 3, none⟩ = some (.int .u32 a3) := hr1 3 _ rfl
      have d3 : wi.cell? ⟨g2, o2 + i * 4 + 3, none⟩ = some (.int .u32 b3) := hr2 3 _ rfl
      have hii : (i : Int) < n := by omega
      obtain ⟨q, hq⟩ : ∃ q, Hid ((((a0, a1, a2, a3) : T4) == (b0, b1, b2, b3)) = q) := ⟨_, rfl⟩
      have hne : ∀ W, (binOp .neq 84 (.agg #[.int .i64 a0, .int .i64 a1, .int .i64 a2, .int .u32 a3]) (.agg #[.int .i64 b0, .int .i64 b1, .int .i64 b2, .int .u32 b3])).run Try.prog W = .ok (.bool (!q)) W := fun W => by rw [← hq.out]; exact neq_tri W (a0, a1, a2, a3) (b0, b1, b2, b3)
      have hgd := guard_tri
      clear hr1 hr2
      cases q
      · have hf : Hid (r = false) := Lib.hid (by
          rw [← hr.out]
          refine beq_eq_false_iff_ne.2 (fun e => ?_)
          have h1 := hx.out
          rw [e, hy.out] at h1
          have h2 := hq.out
          rw [Option.some.inj h1] at h2
          simp at h2)
        clear hall hx hy hq
        go_upto_region 6 with fail
        go_region
        go_wp2_with fail
        go_ret
        exact ⟨by rw [hf.out]; rfl, hl.drew⟩
      · have h2 : Hid (∀ j, j < i + 1 → L[j]? = M[j]?) := Lib.hid (fun j hj => by
          by_cases e : j = i
          · rw [e, hx.out, hy.out, eq_of_beq hq.out]
          · exact hall.out j (by omega))
        clear hall hx hy hq
        go_upto_region 6 with fail
        go_region
        go_wp2_with fail
        go_roundw
        case rel => exact ⟨i + 1, by omega, by go_num, h2, hl.drew⟩
        case measure => simp [intOf]; omega
    · obtain rfl : i = n := by omega
      have hf : Hid (r = true) := Lib.hid (by
        rw [← hr.out]
        refine beq_iff_eq.2 (List.ext_getElem? (fun j => ?_))
        by_cases hj : j < i
        · exact hall.out j hj
        · rw [List.getElem?_eq_none (by rw [hn.out]; omega), List.getElem?_eq_none (by rw [hm.out]; omega)])
      clear hall
      go_wp2_with fail
      go_ret
      exact ⟨by rw [hf.out]; rfl, hl⟩
/-- Rows in new memory: behind so many blocks, and the block may be written. -/
def NewR (n E m : Nat) (w : World) (u : Value) (L : List (List Value)) : Prop :=
  (L = [] ∧ ∃ ao c, u = .slice ao 0 c ∧ (ao = none → c = 0)) ∨ ∃ D c z, u = .slice (some ⟨D, 0, none⟩) L.length c ∧ L.length ≤ c ∧ m ≤ D ∧ w.heap[D]? = some (.cells (L.flatten ++ z).toArray E (0, 0))
theorem flat_at {n : Nat} : ∀ (L : List (List Value)), (∀ l ∈ L, l.length = n) → ∀ k x j v, L[k]? = some x → x[j]? = some v → L.flatten[k * n + j]? = some v
  | [], _, k, x, j, v, h, _ => by simp at h
  | l :: r, hl, 0, x, j, v, h, hj => by
    obtain rfl : l = x := by simpa using h
    have hlt := (List.getElem?_eq_some_iff.1 hj).1
    rw [List.flatten_cons, Nat.zero_mul, Nat.zero_add, List.getElem?_append_left hlt]
    exact hj
  | l :: r, hl, k + 1, x, j, v, h, hj => by
    have h1 := hl l (by simp)
    rw [List.flatten_cons, List.getElem?_append_right (by rw [h1, Nat.succ_mul]; omega), h1, Nat.succ_mul, show k * n + n + j - n = k * n + j by omega]
    exact flat_at r (fun m hm => hl m (by simp [hm])) k x j v (by simpa using h) hj
theorem NewR.rows {n E m : Nat} {w : World} {u : Value} {L : List (List Value)} (h : NewR n E m w u L) (hL : ∀ l ∈ L, l.length = n) : RowsV n w u L := by
  rcases h with ⟨rfl, ao, c, rfl, h0⟩ | ⟨D, c, z, rfl, hc, _, hD⟩
  · exact ⟨ao, c, rfl, ⟨by simp, h0⟩, fun k x hx => by simp at hx⟩
  · refine ⟨some ⟨D, 0, none⟩, c, rfl, ⟨hc, fun h => by cases h⟩, fun k x hx => ⟨D, 0, rfl, fun j v hv => ?_⟩⟩
    rw [Nat.zero_add]
    have h1 := flat_at L hL k x j v hx hv
    have h2 := row_range hD (k * n + j) v (by rw [List.getElem?_append_left (List.getElem?_eq_some_iff.1 h1).1]; exact h1)
    rwa [Nat.zero_add] at h2
theorem NewR.later {n E m : Nat} {w w' : World} {u : Value} {L : List (List Value)} (h : NewR n E m w u L) (hl : Later w w') : NewR n E m w' u L := by
  rcases h with h | ⟨D, c, z, h1, h2, h3, hD⟩
  · exact Or.inl h
  · exact Or.inr ⟨D, c, z, h1, h2, h3, hl.row hD⟩
theorem flat_range {n : Nat} {w : World} {g o : Nat} : ∀ (L : List (List Value)) (k0 : Nat), (∀ l ∈ L, l.length = n) → (∀ k x, L[k]? = some x → w.rangeAt g (o + (k0 + k) * n) x) → w.rangeAt g (o + k0 * n) L.flatten
  | [], _, _, _ => fun j v hv => by simp at hv
  | l :: r, k0, hl, h => fun j v hv => by
    have h1 := hl l (by simp)
    by_cases hj : j < n
    · rw [List.flatten_cons, List.getElem?_append_left (by rw [h1]; exact hj)] at hv
      have := h 0 l rfl
      rw [Nat.add_zero] at this
      exact this j v hv
    · rw [List.flatten_cons, List.getElem?_append_right (by rw [h1]; omega), h1] at hv
      have ih := flat_range r (k0 + 1) (fun m hm => hl m (by simp [hm])) (fun k x hx => by
        have := h (k + 1) x (by simpa using hx)
        rw [show k0 + 1 + k = k0 + (k + 1) by omega]; exact this)
      have h2 := ih (j - n) v hv
      rw [show o + (k0 + 1) * n + (j - n) = o + k0 * n + j by rw [Nat.succ_mul]; omega] at h2
      exact h2
set_option maxRecDepth 100000 in
set_option maxHeartbeats 1000000 in
theorem clone_vs (v : Value) (L : List (List Value)) (W : World) (hv : RowsV 3 W v L) (hL : ∀ l ∈ L, l.length = 3) (hlen : L.length ≤ 1000) :
    Calls Try.prog 43 #[v] W fun e w' => ∃ u, e = .returned u ∧ NewR 3 40 W.heap.size w' u L ∧ Later W w' := by
  obtain ⟨ao, cap, rfl⟩ := hv.form
  obtain ⟨-, hcap, hnone⟩ := hv.cap
  cases ao with
  | none =>
    obtain rfl : cap = 0 := hnone rfl
    have hL0 : L = [] := List.eq_nil_of_length_eq_zero (by omega)
    subst hL0
    have he : ∀ W, (binOp .eql 34 (.slice none 0 0) (.slice none 0 0)).run Try.prog W = .ok (.bool true) W := fun W => by kernel_rfl
    go_enter Try.func43, Try.ntmps43
    go_wp2_with fail
    go_ret
    exact ⟨_, rfl, Or.inl ⟨rfl, none, 0, rfl, fun _ => rfl⟩, Later.refl _⟩
  | some a =>
    obtain ⟨n, hn⟩ : ∃ n, Hid (L.length = n) := ⟨_, rfl⟩
    rw [hn.out] at hlen hcap hv ⊢
    have he : ∀ W, (binOp .eql 34 (.slice (some a) n cap) (.slice none 0 0)).run Try.prog W = .ok (.bool false) W := fun W => by kernel_rfl
    have hb : ∀ w, (Instr.buildSlice 34 0 #[]).run Try.prog w = .ok (.slice (some ⟨w.heap.size, 0, none⟩) 0 0) (w.alloc (.cells #[] 40)) := fun w => by kernel_rfl
    by_cases h0 : n = 0
    · subst h0
      have hL0 : L = [] := List.eq_nil_of_length_eq_zero hn.out
      subst hL0
      have ha : ∀ w b, (Builtin.append_ #[34, 34] 34 #[.slice (some b) 0 0, .slice (some a) 0 cap]).run Try.prog w = .ok (.slice (some b) 0 0) w := fun w b => by kernel_rfl
      clear hv
      go_enter Try.func43, Try.ntmps43
      go_wp2_with fail
      go_ret
      exact ⟨_, rfl, Or.inl ⟨rfl, _, 0, rfl, fun h => by cases h⟩, (Later.refl _).alloc _⟩
    · obtain ⟨x, hx⟩ : ∃ x, L[0]? = some x := ⟨_, List.getElem?_eq_getElem (by rw [hn.out]; omega)⟩
      obtain ⟨g, ob, he2, -⟩ := hv.at hx
      cases he2
      have hfl : W.rangeAt g ob L.flatten := by
        have := flat_range (n := 3) (w := W) (g := g) (o := ob) L 0 hL (fun k x hx => by
          obtain ⟨g', o', e, h⟩ := hv.at hx
          cases e
          rw [Nat.zero_add]; exact h)
        rwa [Nat.zero_mul, Nat.add_zero] at this
      have hfn : L.flatten.length = n * 3 := by
        rw [← hn.out]
        clear hfl hv hx hn
        induction L with
        | nil => rfl
        | cons l r ih =>
          rw [List.flatten_cons, List.length_append, hL l (by simp), ih (fun m hm => hL m (by simp [hm])), List.length_cons, Nat.succ_mul, Nat.add_comm]
      obtain ⟨FL, hFL⟩ : ∃ F, Hid (L.flatten = F) := ⟨_, rfl⟩
      rw [hFL.out] at hfl hfn
      obtain ⟨i37, hi37, hi1, hi2, z37, hz37⟩ : ∃ i, Try.prog.info? 40 = some i ∧ i.size = 3 ∧ i.bytes = 24 ∧ ∃ z, i.zero = some z := ⟨_, rfl, by kernel_rfl, by kernel_rfl, _, rfl⟩
      obtain ⟨V, hV⟩ : ∃ V, V = W.alloc (.cells #[] 40) := ⟨_, rfl⟩
      have hVn : V.heap.size = W.heap.size + 1 := by rw [hV]; exact World.size_alloc _ _
      have hlV : Later W V := by rw [hV]; exact (Later.refl W).alloc _
      have hap := run_append_grow (P := Try.prog) V 34 34 40 i37 z37 Try.underlying34 hi37 hz37 ⟨W.heap.size, 0, none⟩ 0 0 [] (by simp) (fun j v hv => by simp at hv) ⟨g, ob, none⟩ n cap FL (by rw [hi1, hfn])
        (fun j v hv => by rw [Addr.add_mid]; exact rangeAt_later hfl hlV j v hv) (by omega) (by omega) (by
          rw [hi2, Nat.zero_add]
          exact growslice_fits (by omega) (by omega))
      have hcap2 := grownCap_ge V (0 + n) 0 40
      obtain ⟨cp, hcp⟩ : ∃ cp, grownCap V (0 + n) 0 40 = cp := ⟨_, rfl⟩
      rw [hcp] at hap hcap2
      rw [Nat.zero_add] at hap hcap2
      obtain ⟨VV, hVV⟩ : ∃ VV, VV = V.drew.alloc (.cells (([] : List Value).toArray ++ FL.toArray ++ Builtin.zeroCells z37.cells (cp - n)) 40) := ⟨_, rfl⟩
      rw [← hVV] at hap
      have hl2 : Later V VV := by rw [hVV]; exact (Later.refl V).drew.alloc _
      have kN : VV.heap[V.heap.size]? = some (.cells (L.flatten ++ (Builtin.zeroCells z37.cells (cp - n)).toList).toArray 40 (0, 0)) := by
        rw [hVV, hFL.out]
        have := push_new (W := V.drew) (o := .cells (([] : List Value).toArray ++ FL.toArray ++ Builtin.zeroCells z37.cells (cp - n)) 40 (0, 0)) rfl
        refine this.trans ?_
        congr 2
        apply Array.ext'; simp
      have hlE := hlV.trans hl2
      have hm : W.heap.size ≤ V.heap.size := hlV.size
      replace kN := Lib.hid kN
      clear hv hfl hfn hVV hcp hi37 hi1 hi2 hz37 hx hcap hlV hl2 hnone
      rw [hV] at hap
      rw [World.size_alloc] at hap
      rw [hVn] at kN hm
      clear hV hVn
      go_enter Try.func43, Try.ntmps43
      go_wp2_with fail
      go_ret
      refine ⟨_, rfl, Or.inr ⟨W.heap.size + 1, cp, _, by rw [hn.out]; rfl, by rw [hn.out]; omega, hm, kN.out⟩, hlE⟩
set_option maxRecDepth 100000 in
set_option maxHeartbeats 1000000 in
theorem clone_ts (v : Value) (L : List (List Value)) (W : World) (hv : RowsV 4 W v L) (hL : ∀ l ∈ L, l.length = 4) (hlen : L.length ≤ 1000) :
    Calls Try.prog 44 #[v] W fun e w' => ∃ u, e = .returned u ∧ NewR 4 84 W.heap.size w' u L ∧ Later W w' := by
  obtain ⟨ao, cap, rfl⟩ := hv.form
  obtain ⟨-, hcap, hnone⟩ := hv.cap
  cases ao with
  | none =>
    obtain rfl : cap = 0 := hnone rfl
    have hL0 : L = [] := List.eq_nil_of_length_eq_zero (by omega)
    subst hL0
    have he : ∀ W, (binOp .eql 35 (.slice none 0 0) (.slice none 0 0)).run Try.prog W = .ok (.bool true) W := fun W => by kernel_rfl
    go_enter Try.func44, Try.ntmps44
    go_wp2_with fail
    go_ret
    exact ⟨_, rfl, Or.inl ⟨rfl, none, 0, rfl, fun _ => rfl⟩, Later.refl _⟩
  | some a =>
    obtain ⟨n, hn⟩ : ∃ n, Hid (L.length = n) := ⟨_, rfl⟩
    rw [hn.out] at hlen hcap hv ⊢
    have he : ∀ W, (binOp .eql 35 (.slice (some a) n cap) (.slice none 0 0)).run Try.prog W = .ok (.bool false) W := fun W => by kernel_rfl
    have hb : ∀ w, (Instr.buildSlice 35 0 #[]).run Try.prog w = .ok (.slice (some ⟨w.heap.size, 0, none⟩) 0 0) (w.alloc (.cells #[] 84)) := fun w => by kernel_rfl
    by_cases h0 : n = 0
    · subst h0
      have hL0 : L = [] := List.eq_nil_of_length_eq_zero hn.out
      subst hL0
      have ha : ∀ w b, (Builtin.append_ #[35, 35] 35 #[.slice (some b) 0 0, .slice (some a) 0 cap]).run Try.prog w = .ok (.slice (some b) 0 0) w := fun w b => by kernel_rfl
      clear hv
      go_enter Try.func44, Try.ntmps44
      go_wp2_with fail
      go_ret
      exact ⟨_, rfl, Or.inl ⟨rfl, _, 0, rfl, fun h => by cases h⟩, (Later.refl _).alloc _⟩
    · obtain ⟨x, hx⟩ : ∃ x, L[0]? = some x := ⟨_, List.getElem?_eq_getElem (by rw [hn.out]; omega)⟩
      obtain ⟨g, ob, he2, -⟩ := hv.at hx
      cases he2
      have hfl : W.rangeAt g ob L.flatten := by
        have := flat_range (n := 4) (w := W) (g := g) (o := ob) L 0 hL (fun k x hx => by
          obtain ⟨g', o', e, h⟩ := hv.at hx
          cases e
          rw [Nat.zero_add]; exact h)
        rwa [Nat.zero_mul, Nat.add_zero] at this
      have hfn : L.flatten.length = n * 4 := by
        rw [← hn.out]
        clear hfl hv hx hn
        induction L with
        | nil => rfl
        | cons l r ih =>
          rw [List.flatten_cons, List.length_append, hL l (by simp), ih (fun m hm => hL m (by simp [hm])), List.length_cons, Nat.succ_mul, Nat.add_comm]
      obtain ⟨FL, hFL⟩ : ∃ F, Hid (L.flatten = F) := ⟨_, rfl⟩
      rw [hFL.out] at hfl hfn
      obtain ⟨i37, hi37, hi1, hi2, z37, hz37⟩ : ∃ i, Try.prog.info? 84 = some i ∧ i.size = 4 ∧ i.bytes = 32 ∧ ∃ z, i.zero = some z := ⟨_, rfl, by kernel_rfl, by kernel_rfl, _, rfl⟩
      obtain ⟨V, hV⟩ : ∃ V, V = W.alloc (.cells #[] 84) := ⟨_, rfl⟩
      have hVn : V.heap.size = W.heap.size + 1 := by rw [hV]; exact World.size_alloc _ _
      have hlV : Later W V := by rw [hV]; exact (Later.refl W).alloc _
      have hap := run_append_grow (P := Try.prog) V 35 35 84 i37 z37 Try.underlying35 hi37 hz37 ⟨W.heap.size, 0, none⟩ 0 0 [] (by simp) (fun j v hv => by simp at hv) ⟨g, ob, none⟩ n cap FL (by rw [hi1, hfn])
        (fun j v hv => by rw [Addr.add_mid]; exact rangeAt_later hfl hlV j v hv) (by omega) (by omega) (by
          rw [hi2, Nat.zero_add]
          exact growslice_fits (by omega) (by omega))
      have hcap2 := grownCap_ge V (0 + n) 0 84
      obtain ⟨cp, hcp⟩ : ∃ cp, grownCap V (0 + n) 0 84 = cp := ⟨_, rfl⟩
      rw [hcp] at hap hcap2
      rw [Nat.zero_add] at hap hcap2
      obtain ⟨VV, hVV⟩ : ∃ VV, VV = V.drew.alloc (.cells (([] : List Value).toArray ++ FL.toArray ++ Builtin.zeroCells z37.cells (cp - n)) 84) := ⟨_, rfl⟩
      rw [← hVV] at hap
      have hl2 : Later V VV := by rw [hVV]; exact (Later.refl V).drew.alloc _
      have kN : VV.heap[V.heap.size]? = some (.cells (L.flatten ++ (Builtin.zeroCells z37.cells (cp - n)).toList).toArray 84 (0, 0)) := by
        rw [hVV, hFL.out]
        have := push_new (W := V.drew) (o := .cells (([] : List Value).toArray ++ FL.toArray ++ Builtin.zeroCells z37.cells (cp - n)) 84 (0, 0)) rfl
        refine this.trans ?_
        congr 2
        apply Array.ext'; simp
      have hlE := hlV.trans hl2
      have hm : W.heap.size ≤ V.heap.size := hlV.size
      replace kN := Lib.hid kN
      clear hv hfl hfn hVV hcp hi37 hi1 hi2 hz37 hx hcap hlV hl2 hnone
      rw [hV] at hap
      rw [World.size_alloc] at hap
      rw [hVn] at kN hm
      clear hV hVn
      go_enter Try.func44, Try.ntmps44
      go_wp2_with fail
      go_ret
      refine ⟨_, rfl, Or.inr ⟨W.heap.size + 1, cp, _, by rw [hn.out]; rfl, by rw [hn.out]; omega, hm, kN.out⟩, hlE⟩
set_option maxRecDepth 100000 in
set_option maxHeartbeats 1000000 in
theorem clone_os (v : Value) (L : List (List Value)) (W : World) (hv : RowsV 19 W v L) (hL : ∀ l ∈ L, l.length = 19) (hlen : L.length ≤ 1000) :
    Calls Try.prog 42 #[v] W fun e w' => ∃ u, e = .returned u ∧ NewR 19 37 W.heap.size w' u L ∧ Later W w' := by
  obtain ⟨ao, cap, rfl⟩ := hv.form
  obtain ⟨-, hcap, hnone⟩ := hv.cap
  cases ao with
  | none =>
    obtain rfl : cap = 0 := hnone rfl
    have hL0 : L = [] := List.eq_nil_of_length_eq_zero (by omega)
    subst hL0
    have he : ∀ W, (binOp .eql 26 (.slice none 0 0) (.slice none 0 0)).run Try.prog W = .ok (.bool true) W := fun W => by kernel_rfl
    go_enter Try.func42, Try.ntmps42
    go_wp2_with fail
    go_ret
    exact ⟨_, rfl, Or.inl ⟨rfl, none, 0, rfl, fun _ => rfl⟩, Later.refl _⟩
  | some a =>
    obtain ⟨n, hn⟩ : ∃ n, Hid (L.length = n) := ⟨_, rfl⟩
    rw [hn.out] at hlen hcap hv ⊢
    have he : ∀ W, (binOp .eql 26 (.slice (some a) n cap) (.slice none 0 0)).run Try.prog W = .ok (.bool false) W := fun W => by kernel_rfl
    have hb : ∀ w, (Instr.buildSlice 26 0 #[]).run Try.prog w = .ok (.slice (some ⟨w.heap.size, 0, none⟩) 0 0) (w.alloc (.cells #[] 37)) := fun w => by kernel_rfl
    by_cases h0 : n = 0
    · subst h0
      have hL0 : L = [] := List.eq_nil_of_length_eq_zero hn.out
      subst hL0
      have ha : ∀ w b, (Builtin.append_ #[26, 26] 26 #[.slice (some b) 0 0, .slice (some a) 0 cap]).run Try.prog w = .ok (.slice (some b) 0 0) w := fun w b => by kernel_rfl
      clear hv
      go_enter Try.func42, Try.ntmps42
      go_wp2_with fail
      go_ret
      exact ⟨_, rfl, Or.inl ⟨rfl, _, 0, rfl, fun h => by cases h⟩, (Later.refl _).alloc _⟩
    · obtain ⟨x, hx⟩ : ∃ x, L[0]? = some x := ⟨_, List.getElem?_eq_getElem (by rw [hn.out]; omega)⟩
      obtain ⟨g, ob, he2, -⟩ := hv.at hx
      cases he2
      have hfl : W.rangeAt g ob L.flatten := by
        have := flat_range (n := 19) (w := W) (g := g) (o := ob) L 0 hL (fun k x hx => by
          obtain ⟨g', o', e, h⟩ := hv.at hx
          cases e
          rw [Nat.zero_add]; exact h)
        rwa [Nat.zero_mul, Nat.add_zero] at this
      have hfn : L.flatten.length = n * 19 := by
        rw [← hn.out]
        clear hfl hv hx hn
        induction L with
        | nil => rfl
        | cons l r ih =>
          rw [List.flatten_cons, List.length_append, hL l (by simp), ih (fun m hm => hL m (by simp [hm])), List.length_cons, Nat.succ_mul, Nat.add_comm]
      obtain ⟨FL, hFL⟩ : ∃ F, Hid (L.flatten = F) := ⟨_, rfl⟩
      rw [hFL.out] at hfl hfn
      obtain ⟨i37, hi37, hi1, hi2, z37, hz37⟩ : ∃ i, Try.prog.info? 37 = some i ∧ i.size = 19 ∧ i.bytes = 184 ∧ ∃ z, i.zero = some z := ⟨_, rfl, by kernel_rfl, by kernel_rfl, _, rfl⟩
      obtain ⟨V, hV⟩ : ∃ V, V = W.alloc (.cells #[] 37) := ⟨_, rfl⟩
      have hVn : V.heap.size = W.heap.size + 1 := by rw [hV]; exact World.size_alloc _ _
      have hlV : Later W V := by rw [hV]; exact (Later.refl W).alloc _
      have hap := run_append_grow (P := Try.prog) V 26 26 37 i37 z37 Try.underlying26 hi37 hz37 ⟨W.heap.size, 0, none⟩ 0 0 [] (by simp) (fun j v hv => by simp at hv) ⟨g, ob, none⟩ n cap FL (by rw [hi1, hfn])
        (fun j v hv => by rw [Addr.add_mid]; exact rangeAt_later hfl hlV j v hv) (by omega) (by omega) (by
          rw [hi2, Nat.zero_add]
          exact growslice_fits (by omega) (by omega))
      have hcap2 := grownCap_ge V (0 + n) 0 37
      obtain ⟨cp, hcp⟩ : ∃ cp, grownCap V (0 + n) 0 37 = cp := ⟨_, rfl⟩
      rw [hcp] at hap hcap2
      rw [Nat.zero_add] at hap hcap2
      obtain ⟨VV, hVV⟩ : ∃ VV, VV = V.drew.alloc (.cells (([] : List Value).toArray ++ FL.toArray ++ Builtin.zeroCells z37.cells (cp - n)) 37) := ⟨_, rfl⟩
      rw [← hVV] at hap
      have hl2 : Later V VV := by rw [hVV]; exact (Later.refl V).drew.alloc _
      have kN : VV.heap[V.heap.size]? = some (.cells (L.flatten ++ (Builtin.zeroCells z37.cells (cp - n)).toList).toArray 37 (0, 0)) := by
        rw [hVV, hFL.out]
        have := push_new (W := V.drew) (o := .cells (([] : List Value).toArray ++ FL.toArray ++ Builtin.zeroCells z37.cells (cp - n)) 37 (0, 0)) rfl
        refine this.trans ?_
        congr 2
        apply Array.ext'; simp
      have hlE := hlV.trans hl2
      have hm : W.heap.size ≤ V.heap.size := hlV.size
      replace kN := Lib.hid kN
      clear hv hfl hfn hVV hcp hi37 hi1 hi2 hz37 hx hcap hlV hl2 hnone
      rw [hV] at hap
      rw [World.size_alloc] at hap
      rw [hVn] at kN hm
      clear hV hVn
      go_enter Try.func42, Try.ntmps42
      go_wp2_with fail
      go_ret
      refine ⟨_, rfl, Or.inr ⟨W.heap.size + 1, cp, _, by rw [hn.out]; rfl, by rw [hn.out]; omega, hm, kN.out⟩, hlE⟩
end Go.Proofs.Ytackbajbladhhaa
namespace Go.Proofs.Ytackbajbladhhaa
open Go.RowKit Go.Shelf
set_option linter.unusedVariables false
set_option linter.unusedSimpArgs false
attribute [local go_sem] Oper.semAt_some
attribute [-go_sem] run_neq_struct run_eql_struct

theorem wpList_load_mid_w {P : Program} {ops : Array Oper} {rest : List Oper} {op : Oper} {a : Act} {w : World} {Q : Exit → Act → World → Prop} (hgd : Region.wanted op (yielded ops a.tmps) = true) (ty : TypeId) (x : Operand) (ho : op.op = .load ty x)
    (b o : Nat) (hx : a.eval x = .pointer (some ⟨b, o, none⟩)) (cs : List Value) (d : TypeDesc) (hc : w.rangeAt b o cs)
    (hu : P.underlying ty = some d) (hd : d.isRow = true) (hi : (P.info? ty).map (·.size) = some cs.length)
    (h : wpList P ops Q rest (a.put op.dst (.agg cs.toArray)) w) : wpList P ops Q (op :: rest) a w := by
  unfold wpList
  rw [if_pos hgd]
  exact .inl (wp_load_mid ty x ho b o hx cs d hc hu hd hi h)
def sobjEq (x y : SObj) : Bool := (x.id == y.id) && (matEq x.m y.m && ((x.vs == y.vs) && (x.ts == y.ts)))
def osEq : List SObj → List SObj → Bool
  | [], [] => true
  | x :: l, y :: m => sobjEq x y && osEq l m
  | _, _ => false
theorem osEq_len : ∀ {L M : List SObj}, osEq L M = true → L.length = M.length
  | [], [], _ => rfl
  | x :: l, y :: m, h => by
    unfold osEq at h
    rw [Bool.and_eq_true] at h
    rw [List.length_cons, List.length_cons, osEq_len h.2]
  | [], _ :: _, h => by simp [osEq] at h
  | _ :: _, [], h => by simp [osEq] at h
theorem osEq_no : ∀ {L M : List SObj} {i : Nat} {x y : SObj}, L[i]? = some x → M[i]? = some y → sobjEq x y = false → osEq L M = false
  | [], _, _, _, _, h, _, _ => by simp at h
  | _ :: _, [], _, _, _, _, h, _ => by simp at h
  | a :: l, b :: m, 0, x, y, h1, h2, h3 => by
    obtain rfl : a = x := by simpa using h1
    obtain rfl : b = y := by simpa using h2
    unfold osEq
    rw [h3]; rfl
  | a :: l, b :: m, i + 1, x, y, h1, h2, h3 => by
    unfold osEq
    rw [osEq_no (by simpa using h1) (by simpa using h2) h3, Bool.and_false]
theorem osEq_yes : ∀ {L M : List SObj}, L.length = M.length → (∀ (i : Nat) x y, L[i]? = some x → M[i]? = some y → sobjEq x y = true) → osEq L M = true
  | [], [], _, _ => rfl
  | x :: l, y :: m, h, h1 => by
    unfold osEq
    rw [h1 0 x y rfl rfl, osEq_yes (by simpa using h) (fun i a b ha hb => h1 (i + 1) a b (by simpa using ha) (by simpa using hb))]
    rfl
  | [], _ :: _, h, _ => by simp at h
  | _ :: _, [], h, _ => by simp at h
set_option maxRecDepth 100000 in
set_option maxHeartbeats 2000000 in
theorem smo_any (x y : SObj) (W : World) (hx : x.Ok W) (hy : y.Ok W) (hlv : x.vs.length ≤ 1000000) (hlt : x.ts.length ≤ 1000000) :
    Calls Try.prog 45 #[.agg x.row.toArray, .agg y.row.toArray] W fun e w' => e = .returned (.bool (sobjEq x y)) ∧ Later W w' := by
  obtain ⟨X, hX⟩ : ∃ X, X = (W.alloc (.cells x.row.toArray 37)).alloc (.cells y.row.toArray 37) := ⟨_, rfl⟩
  have hl : Later W X := by rw [hX]; exact ((Later.refl W).alloc _).alloc _
  have kX : ObjB X W.heap.size x := by rw [hX]; exact push_one (heap_alloc_new _ _) _
  have kY : ObjB X (W.heap.size + 1) y := by rw [hX]; exact push_new _ _ (World.size_alloc _ _)
  have hV := Lib.hid (fun V (h : Later X V) => equal_vs x.uv y.uv x.vs y.vs V ((hx.1.later hl).later h) ((hy.1.later hl).later h) hlv)
  have hT := Lib.hid (fun V (h : Later X V) => equal_ts x.ut y.ut x.ts y.ts V ((hx.2.later hl).later h) ((hy.2.later hl).later h) hlt)
  have i1 := kX.id
  have i2 := kY.id
  have u1 := kX.uv
  have u2 := kY.uv
  have t1 := kX.ut
  have t2 := kY.ut
  have m1 := kX.mat
  have m2 := kY.mat
  have l1 := len_mat x.m
  have l2 := len_mat y.m
  have hq : ∀ W, (binOp .eql 25 (.agg ((List.range 16).map fun k => Value.int .i64 (x.m k)).toArray) (.agg ((List.range 16).map fun k => Value.int .i64 (y.m k)).toArray)).run Try.prog W = .ok (.bool (matEq x.m y.m)) W := fun W => eql_mat W x.m y.m
  have hgd := guard_mat
  unfold sobjEq
  obtain ⟨xi, hxi⟩ : ∃ z, Hid (x.id = z) := ⟨_, rfl⟩
  obtain ⟨yi, hyi⟩ : ∃ z, Hid (y.id = z) := ⟨_, rfl⟩
  obtain ⟨bm, hbm⟩ : ∃ z, Hid (matEq x.m y.m = z) := ⟨_, rfl⟩
  obtain ⟨bv, hbv⟩ : ∃ z, Hid ((x.vs == y.vs) = z) := ⟨_, rfl⟩
  obtain ⟨bt, hbt⟩ : ∃ z, Hid ((x.ts == y.ts) = z) := ⟨_, rfl⟩
  obtain ⟨cx, hcx⟩ : ∃ z, Hid (((List.range 16).map fun k => Value.int .i64 (x.m k)) = z) := ⟨_, rfl⟩
  obtain ⟨cy, hcy⟩ : ∃ z, Hid (((List.range 16).map fun k => Value.int .i64 (y.m k)) = z) := ⟨_, rfl⟩
  rw [hxi.out] at i1
  rw [hyi.out] at i2
  rw [hbm.out, hcx.out, hcy.out] at hq
  rw [hcx.out] at m1 l1
  rw [hcy.out] at m2 l2
  rw [hbv.out] at hV
  rw [hbt.out] at hT
  rw [hxi.out, hyi.out, hbm.out, hbv.out, hbt.out]
  obtain ⟨bi, hbi⟩ : ∃ z, Hid ((xi == yi) = z) := ⟨_, rfl⟩
  have hbi2 := hbi.out
  rw [hbi2]
  clear hx hy kX kY hxi hyi hbm hbv hbt hcx hcy
  go_enter Try.func45, Try.ntmps45
  go_upto_region 1 with fail
  rw [← hX]
  clear hX
  obtain ⟨N, hN⟩ : ∃ N, Hid (W.heap.size = N) := ⟨_, rfl⟩
  rw [hN.out] at i1 i2 u1 u2 t1 t2 m1 m2 ⊢
  cases bi
  · go_wp2_with fail
    go_ret
    exact ⟨rfl, hl⟩
  cases bm
  · go_wp2_with (first | refine wpList_load_mid_w rfl _ _ rfl N 1 rfl _ _ m1 Try.underlying25 rfl l1 ?_ | refine wpList_load_mid_w rfl _ _ rfl (N + 1) 1 rfl _ _ m2 Try.underlying25 rfl l2 ?_)
    go_ret
    exact ⟨rfl, hl⟩
  go_wp2_with (first | refine wpList_load_mid_w rfl _ _ rfl N 1 rfl _ _ m1 Try.underlying25 rfl l1 ?_ | refine wpList_load_mid_w rfl _ _ rfl (N + 1) 1 rfl _ _ m2 Try.underlying25 rfl l2 ?_)
  refine (hV.out _ (Later.refl _)).mono ?_
  rintro e w1 ⟨rfl, hl1⟩
  have t3 := hl1.cell t1
  have t4 := hl1.cell t2
  cases bv
  · go_wp2_with fail
    go_ret
    exact ⟨rfl, hl.trans hl1⟩
  go_wp2_with fail
  refine (hT.out _ hl1).mono ?_
  rintro e w2 ⟨rfl, hl2⟩
  go_wp2_with fail
  go_ret
  exact ⟨by simp, (hl.trans hl1).trans hl2⟩
end Go.Proofs.Ytackbajbladhhaa
namespace Go.Proofs.Ytackbajbladhhaa
open Go.RowKit Go.Shelf
set_option linter.unusedVariables false
set_option linter.unusedSimpArgs false
attribute [local go_sem] Oper.semAt_some
attribute [-go_sem] run_neq_struct run_eql_struct

set_option maxRecDepth 100000 in
set_option maxHeartbeats 4000000 in
theorem equalf_any (u v : Value) (L M : List SObj) (W : World) (hu : RowsV 19 W u (L.map SObj.row)) (hv : RowsV 19 W v (M.map SObj.row)) (hL : ∀ x ∈ L, x.Ok W) (hM : ∀ x ∈ M, x.Ok W) (hlen : L.length ≤ 1000) (hsm : ∀ x ∈ L, x.vs.length ≤ 80 ∧ x.ts.length ≤ 80) :
    Calls Try.prog 48 #[u, v, .func (.func 45) #[] #[]] W fun e w' => e = .returned (.bool (osEq L M)) ∧ Later W w' := by
  obtain ⟨r, hr⟩ : ∃ r, Hid (osEq L M = r) := ⟨_, rfl⟩
  rw [hr.out]
  obtain ⟨ao, ca, rfl⟩ := hu.form
  obtain ⟨bo, cb, rfl⟩ := hv.form
  rw [List.length_map, List.length_map]
  rw [List.length_map] at hu hv
  obtain ⟨n, hn⟩ : ∃ n, Hid (L.length = n) := ⟨_, rfl⟩
  obtain ⟨m, hm⟩ : ∃ n, Hid (M.length = n) := ⟨_, rfl⟩
  rw [hn.out] at hu hlen ⊢
  rw [hm.out] at hv ⊢
  replace hL := Lib.hid hL
  replace hM := Lib.hid hM
  replace hsm := Lib.hid hsm
  by_cases hnm : n = m
  case neg =>
    have hd : ((n : Int) != (m : Int)) = true := by simp; omega
    have hf : Hid (r = false) := Lib.hid (by
      rw [← hr.out]
      cases h : osEq L M
      · rfl
      · exact absurd (osEq_len h) (by rw [hn.out, hm.out]; exact hnm))
    clear hu hv hnm
    go_enter Try.func48, Try.ntmps48
    go_wp2_with fail
    go_ret
    exact ⟨by rw [hf.out]; rfl, Later.refl _⟩
  subst hnm
  have hd : ((n : Int) != (n : Int)) = false := by simp
  go_enter Try.func48, Try.ntmps48
  go_wp2_with fail
  go_loopw [17] (fun y wr => ∃ i : Nat, i ≤ n ∧ y = .int .i64 i ∧ Hid (∀ (j : Nat) x y, j < i → L[j]? = some x → M[j]? = some y → sobjEq x y = true) ∧ Later W wr) (fun y _ => (2000 - intOf y).toNat)
  case atStart => exact ⟨0, by omega, rfl, Lib.hid (fun j x y hj => by omega), Later.refl _⟩
  case round =>
    obtain ⟨i, hi, rfl, hall, hl⟩ := hrel
    obtain ⟨wi, rfl⟩ : ∃ wo : World, wo = wr := ⟨_, rfl⟩
    by_cases hin : i < n
    · obtain ⟨x, hx⟩ : ∃ x, Hid (L[i]? = some x) := ⟨_, Lib.hid (List.getElem?_eq_getElem (by rw [hn.out]; exact hin))⟩
      obtain ⟨y, hy⟩ : ∃ x, Hid (M[i]? = some x) := ⟨_, Lib.hid (List.getElem?_eq_getElem (by rw [hm.out]; exact hin))⟩
      obtain ⟨g1, o1, rfl, hrg1⟩ := (hu.later hl).at (k := i) (x := x.row) (by rw [List.getElem?_map, hx.out]; rfl)
      obtain ⟨g2, o2, rfl, hrg20⟩ := (hv.later hl).at (k := i) (x := y.row) (by rw [List.getElem?_map, hy.out]; rfl)
      have hok1 := (hL.out x (List.mem_of_getElem? hx.out)).later hl
      have hok2 := (hM.out y (List.mem_of_getElem? hy.out)).later hl
      have hii : (i : Int) < n := by omega
      have hxs1 := size_obj x
      obtain ⟨X1, hX1⟩ : ∃ Y, Y = wi.alloc (.cells x.row.toArray 37) := ⟨_, rfl⟩
      have hl1 : Later wi X1 := by rw [hX1]; exact (Later.refl wi).alloc _
      have kX1 : ObjB X1 wi.heap.size x := by rw [hX1]; exact heap_alloc_new _ _
      have hnew1 := heap_alloc_new wi (.cells #[.int .i64 0, .int .i64 0, .int .i64 0, .int .i64 0, .int .i64 0, .int .i64 0, .int .i64 0, .int .i64 0, .int .i64 0, .int .i64 0, .int .i64 0, .int .i64 0, .int .i64 0, .int .i64 0, .int .i64 0, .int .i64 0, .int .i64 0, .slice none 0 0, .slice none 0 0] 37)
      have hz21 : (#[.int .i64 0, .int .i64 0, .int .i64 0, .int .i64 0, .int .i64 0, .int .i64 0, .int .i64 0, .int .i64 0, .int .i64 0, .int .i64 0, .int .i64 0, .int .i64 0, .int .i64 0, .int .i64 0, .int .i64 0, .int .i64 0, .int .i64 0, .slice none 0 0, .slice none 0 0] : Array Value).size = x.row.toArray.size := by show (19 : Nat) = _; rw [List.size_toArray, SObj.row_length]
      have hz11 : x.row.toArray.all (·.oneCell') = true := all_oneCell_toArray (SObj.row_one hok1)
      have hxt1 : (Try.prog.info? 37).map (·.size) = some x.row.toArray.size := by rw [List.size_toArray]; exact hxs1

      go_upto_region 6 with (first | refine wpList_load_mid rfl _ _ rfl g1 (o1 + i * 19) rfl x.row _ hrg1 Try.underlying37 rfl hxs1 ?_ | refine wpList_store_row rfl 37 _ _ rfl wi.heap.size x.row.toArray rfl rfl 37 #[.int .i64 0, .int .i64 0, .int .i64 0, .int .i64 0, .int .i64 0, .int .i64 0, .int .i64 0, .int .i64 0, .int .i64 0, .int .i64 0, .int .i64 0, .int .i64 0, .int .i64 0, .int .i64 0, .int .i64 0, .int .i64 0, .int .i64 0, .slice none 0 0, .slice none 0 0] hnew1 hxt1 hz21 hz11 ?_)
      rw [World.setRow_alloc_new, ← hX1]
      clear hX1 hnew1 hz21 hz11 hxs1 hxt1 hrg1
      have hrg2 := rangeAt_later hrg20 hl1
      replace hok2 := hok2.later hl1
      obtain ⟨N1, hN1⟩ : ∃ N, Hid (wi.heap.size = N) := ⟨_, rfl⟩
      rw [hN1.out] at kX1 ⊢
      have hxs2 := size_obj y
      obtain ⟨X2, hX2⟩ : ∃ Y, Y = X1.alloc (.cells y.row.toArray 37) := ⟨_, rfl⟩
      have hl2 : Later X1 X2 := by rw [hX2]; exact (Later.refl X1).alloc _
      have kX2 : ObjB X2 X1.heap.size y := by rw [hX2]; exact heap_alloc_new _ _
      have hnew2 := heap_alloc_new X1 (.cells #[.int .i64 0, .int .i64 0, .int .i64 0, .int .i64 0, .int .i64 0, .int .i64 0, .int .i64 0, .int .i64 0, .int .i64 0, .int .i64 0, .int .i64 0, .int .i64 0, .int .i64 0, .int .i64 0, .int .i64 0, .int .i64 0, .int .i64 0, .slice none 0 0, .slice none 0 0] 37)
      have hz22 : (#[.int .i64 0, .int .i64 0, .int .i64 0, .int .i64 0, .int .i64 0, .int .i64 0, .int .i64 0, .int .i64 0, .int .i64 0, .int .i64 0, .int .i64 0, .int .i64 0, .int .i64 0, .int .i64 0, .int .i64 0, .int .i64 0, .int .i64 0, .slice none 0 0, .slice none 0 0] : Array Value).size = y.row.toArray.size := by show (19 : Nat) = _; rw [List.size_toArray, SObj.row_length]
      have hz12 : y.row.toArray.all (·.oneCell') = true := all_oneCell_toArray (SObj.row_one hok2)
      have hxt2 : (Try.prog.info? 37).map (·.size) = some y.row.toArray.size := by rw [List.size_toArray]; exact hxs2

      go_upto_region 7 with (first | refine wpList_load_mid rfl _ _ rfl g2 (o2 + i * 19) rfl y.row _ hrg2 Try.underlying37 rfl hxs2 ?_ | refine wpList_store_row rfl 37 _ _ rfl X1.heap.size y.row.toArray rfl rfl 37 #[.int .i64 0, .int .i64 0, .int .i64 0, .int .i64 0, .int .i64 0, .int .i64 0, .int .i64 0, .int .i64 0, .int .i64 0, .int .i64 0, .int .i64 0, .int .i64 0, .int .i64 0, .int .i64 0, .int .i64 0, .int .i64 0, .int .i64 0, .slice none 0 0, .slice none 0 0] hnew2 hxt2 hz22 hz12 ?_)
      rw [World.setRow_alloc_new, ← hX2]
      clear hX2 hnew2 hz22 hz12 hxs2 hxt2 hrg2 hrg20
      obtain ⟨N2, hN2⟩ : ∃ N, Hid (X1.heap.size = N) := ⟨_, rfl⟩
      rw [hN2.out] at kX2 ⊢
      replace kX1 : ObjB X2 N1 x := hl2.row kX1
      have hS := Lib.hid (smo_any x y X2 ((hok1.later hl1).later hl2) (hok2.later hl2) (by have := (hsm.out x (List.mem_of_getElem? hx.out)).1; omega) (by have := (hsm.out x (List.mem_of_getElem? hx.out)).2; omega))
      obtain ⟨q, hq⟩ : ∃ q, Hid (sobjEq x y = q) := ⟨_, rfl⟩
      rw [hq.out] at hS
      have e1 : (Try.prog.info? 37).map (·.size) = some x.row.toArray.size := by rw [List.size_toArray]; exact size_obj x
      have e2 : (Try.prog.info? 37).map (·.size) = some y.row.toArray.size := by rw [List.size_toArray]; exact size_obj y
      have hlw := (hl.trans hl1).trans hl2
      clear hok1 hok2
      go_wp2_with (first | refine wpList_load_row rfl _ _ rfl N1 rfl _ _ (0, 0) _ kX1 Try.underlying37 rfl e1 ?_ | refine wpList_load_row rfl _ _ rfl N2 rfl _ _ (0, 0) _ kX2 Try.underlying37 rfl e2 ?_)
      refine hS.out.mono ?_
      rintro e w3 ⟨rfl, hl3⟩
      clear hS kX1 kX2 e1 e2
      cases q
      · have hf : Hid (r = false) := Lib.hid (by rw [← hr.out]; exact osEq_no hx.out hy.out hq.out)
        clear hall
        go_wp2_with fail
        go_ret
        exact ⟨by rw [hf.out]; rfl, hlw.trans hl3⟩
      · have h2 : Hid (∀ (j : Nat) x y, j < i + 1 → L[j]? = some x → M[j]? = some y → sobjEq x y = true) := Lib.hid (fun j a b hj ha hb => by
          by_cases e : j = i
          · rw [e, hx.out] at ha
            rw [e, hy.out] at hb
            rw [← Option.some.inj ha, ← Option.some.inj hb]; exact hq.out
          · exact hall.out j a b (by omega) ha hb)
        clear hall
        go_wp2_with fail
        go_roundw
        case rel => exact ⟨i + 1, by omega, by go_num, h2, hlw.trans hl3⟩
        case measure => simp [intOf]; omega
    · obtain rfl : i = n := by omega
      have hf : Hid (r = true) := Lib.hid (by
        rw [← hr.out]
        refine osEq_yes (by rw [hn.out, hm.out]) (fun j a b ha hb => hall.out j a b ?_ ha hb)
        have := (List.getElem?_eq_some_iff.1 ha).1
        rw [hn.out] at this
        exact this)
      clear hall
      go_wp2_with fail
      go_ret
      exact ⟨by rw [hf.out]; rfl, hl⟩
def sameB (a b : Scn) : Bool := (a.W == b.W) && ((a.H == b.H) && (matEq a.cam b.cam && osEq a.os b.os))
set_option maxRecDepth 100000 in
set_option maxHeartbeats 2000000 in
theorem same_any (x y : Scn) (W : World) (hx : x.Ok W) (hy : y.Ok W) (hsm : SmallS x) :
    Calls Try.prog 23 #[x.V, y.V] W fun e w' => e = .returned (.bool (sameB x y)) ∧ Later W w' := by
  obtain ⟨X, hX⟩ : ∃ X, X = (W.alloc (.cells x.row.toArray 28)).alloc (.cells y.row.toArray 28) := ⟨_, rfl⟩
  have hl : Later W X := by rw [hX]; exact ((Later.refl W).alloc _).alloc _
  have kX : ScnB X W.heap.size x := by rw [hX]; exact push_one (heap_alloc_new _ _) _
  have kY : ScnB X (W.heap.size + 1) y := by rw [hX]; exact push_new _ _ (World.size_alloc _ _)
  have hV := Lib.hid (equalf_any x.uo y.uo x.os y.os X (hx.1.later hl) (hy.1.later hl) (fun z hz => (hx.2 z hz).later hl) (fun z hz => (hy.2 z hz).later hl) (by have := hsm.1; omega) hsm.2)
  have w1 := kX.w
  have w2 := kY.w
  have h1 := kX.h
  have h2 := kY.h
  have u1 := kX.uo
  have u2 := kY.uo
  have m1 := kX.cam
  have m2 := kY.cam
  have l1 := len_mat x.cam
  have l2 := len_mat y.cam
  have hq : ∀ W, (binOp .eql 25 (.agg ((List.range 16).map fun k => Value.int .i64 (x.cam k)).toArray) (.agg ((List.range 16).map fun k => Value.int .i64 (y.cam k)).toArray)).run Try.prog W = .ok (.bool (matEq x.cam y.cam)) W := fun W => eql_mat W x.cam y.cam
  have hgd := guard_mat
  unfold sameB
  obtain ⟨xW, hxW⟩ : ∃ z, Hid (x.W = z) := ⟨_, rfl⟩
  obtain ⟨yW, hyW⟩ : ∃ z, Hid (y.W = z) := ⟨_, rfl⟩
  obtain ⟨xH, hxH⟩ : ∃ z, Hid (x.H = z) := ⟨_, rfl⟩
  obtain ⟨yH, hyH⟩ : ∃ z, Hid (y.H = z) := ⟨_, rfl⟩
  obtain ⟨bm, hbm⟩ : ∃ z, Hid (matEq x.cam y.cam = z) := ⟨_, rfl⟩
  obtain ⟨bo, hbo⟩ : ∃ z, Hid (osEq x.os y.os = z) := ⟨_, rfl⟩
  obtain ⟨cx, hcx⟩ : ∃ z, Hid (((List.range 16).map fun k => Value.int .i64 (x.cam k)) = z) := ⟨_, rfl⟩
  obtain ⟨cy, hcy⟩ : ∃ z, Hid (((List.range 16).map fun k => Value.int .i64 (y.cam k)) = z) := ⟨_, rfl⟩
  rw [hxW.out] at w1
  rw [hyW.out] at w2
  rw [hxH.out] at h1
  rw [hyH.out] at h2
  rw [hbm.out, hcx.out, hcy.out] at hq
  rw [hcx.out] at m1 l1
  rw [hcy.out] at m2 l2
  rw [hbo.out] at hV
  rw [hxW.out, hyW.out, hxH.out, hyH.out, hbm.out, hbo.out]
  obtain ⟨b1, hb1⟩ : ∃ z, Hid ((xW == yW) = z) := ⟨_, rfl⟩
  obtain ⟨b2, hb2⟩ : ∃ z, Hid ((xH == yH) = z) := ⟨_, rfl⟩
  have d1 := hb1.out
  have d2 := hb2.out
  rw [d1, d2]
  clear hx hy kX kY hxW hyW hxH hyH hbm hbo hcx hcy
  go_enter Try.func23, Try.ntmps23
  go_upto_region 1 with fail
  rw [← hX]
  clear hX
  obtain ⟨N, hN⟩ : ∃ N, Hid (W.heap.size = N) := ⟨_, rfl⟩
  rw [hN.out] at w1 w2 h1 h2 u1 u2 m1 m2 ⊢
  cases b1
  · go_wp2_with fail
    go_ret
    exact ⟨rfl, hl⟩
  cases b2
  · go_wp2_with fail
    go_ret
    exact ⟨rfl, hl⟩
  cases bm
  · go_wp2_with (first | refine wpList_load_mid_w rfl _ _ rfl N 2 rfl _ _ m1 Try.underlying25 rfl l1 ?_ | refine wpList_load_mid_w rfl _ _ rfl (N + 1) 2 rfl _ _ m2 Try.underlying25 rfl l2 ?_)
    go_ret
    exact ⟨rfl, hl⟩
  go_wp2_with (first | refine wpList_load_mid_w rfl _ _ rfl N 2 rfl _ _ m1 Try.underlying25 rfl l1 ?_ | refine wpList_load_mid_w rfl _ _ rfl (N + 1) 2 rfl _ _ m2 Try.underlying25 rfl l2 ?_)
  refine hV.out.mono ?_
  rintro e w3 ⟨rfl, hl3⟩
  go_wp2_with fail
  go_ret
  exact ⟨by simp, hl.trans hl3⟩
end Go.Proofs.Ytackbajbladhhaa
