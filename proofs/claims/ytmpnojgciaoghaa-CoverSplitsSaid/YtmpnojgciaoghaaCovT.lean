/-
  Chapter 11's laws: two boards that are the same are told equal; a whole board is loaded.
-/
import Derived.ChangeKeysEq
import Derived.Laws.Rows
import Derived.Test.YtmpnojgciaoghaaCovX
namespace Go.Proofs.Ytmpnojgciaoghaa
open Go.RowKit Go.Shelf
set_option linter.unusedVariables false
set_option linter.unusedSimpArgs false

/-! Two boards that are the same are told equal. -/
theorem isAgg_row (W : World) : (isAgg 46).run Try.prog W = .ok true W := by
  unfold isAgg; rw [Sem.run_bind, run_underlying Try.underlying46 W]; rfl
theorem isAgg_int (W : World) : (isAgg 3).run Try.prog W = .ok false W := by
  unfold isAgg; rw [Sem.run_bind, run_underlying Try.underlying3 W]; rfl
theorem size_row (W : World) : (sizeOf 46).run Try.prog W = .ok 64 W := by kernel_rfl
theorem cellsOf_row : Try.prog.cellsOf 46 = 64 := by kernel_rfl
theorem cellsOf_int : Try.prog.cellsOf 3 = 1 := by kernel_rfl
theorem part_row (W : World) (xs : Array Value) (off : Nat) : (part 46 xs off).run Try.prog W = .ok (.agg (xs.extract off (off + 64))) W := by
  unfold part
  simp only [Sem.run_bind, isAgg_row, Result.andThen_ok, if_true, size_row, Sem.run_pure]
theorem part_int (W : World) (xs : Array Value) (off : Nat) (v : Value) (h : xs[off]? = some v) : (part 3 xs off).run Try.prog W = .ok v W := by
  unfold part
  simp only [Sem.run_bind, isAgg_int, Result.andThen_ok, Bool.false_eq_true, if_false, h, Sem.run_pure]
theorem eqItems_self {P : Program} (D : Nat) (e : TypeId) (c : Nat) (xs : Array Value) (W : World) : ∀ is : List Nat, (∀ i ∈ is, ∃ a, (part e xs (i * c)).run P W = .ok a W ∧ (Op.equalIn D e a a).run P W = .ok true W) → (Op.eqItems D e c xs xs is).run P W = .ok true W
  | [], _ => by rw [Op.eqItems]; rfl
  | i :: is, h => by
    obtain ⟨a, h1, h2⟩ := h i (by simp)
    have ih := eqItems_self D e c xs W is (fun j hj => h j (by simp [hj]))
    rw [Op.eqItems]
    simp only [Sem.run_bind, h1, Result.andThen_ok, h2, Bool.not_true, Bool.false_eq_true, if_false]
    exact ih
theorem eq_row (d : Nat) (W : World) (xs : Array Value) (h : ∀ i, i < 64 → ∃ v, xs[i]? = some (.int .i64 v)) : (Op.equalIn (d + 2) 46 (.agg xs) (.agg xs)).run Try.prog W = .ok true W := by
  obtain ⟨i, hi⟩ : ∃ i, Try.prog.info? 3 = some i := by
    have : (Try.prog.info? 3).isSome = true := by kernel_rfl
    exact Option.isSome_iff_exists.1 this
  refine (run_equalIn_array W (d + 1) xs xs Try.underlying46 hi).trans ?_
  rw [cellsOf_int]
  refine eqItems_self _ _ _ _ _ _ (fun j hj => ?_)
  obtain ⟨v, hv⟩ := h j (List.mem_range.1 hj)
  refine ⟨_, part_int W xs (j * 1) _ (by rw [Nat.mul_one]; exact hv), ?_⟩
  refine (run_equalIn_int W d 3 .i64 .i64 v v Try.underlying3).trans ?_
  rw [beq_self_eq_true]
theorem eq_board (d : Nat) (W : World) (f : Nat → Int) : (Op.equalIn (d + 3) 47 (.agg (boardN 4096 f)) (.agg (boardN 4096 f))).run Try.prog W = .ok true W := by
  obtain ⟨i, hi⟩ : ∃ i, Try.prog.info? 46 = some i := by
    have : (Try.prog.info? 46).isSome = true := by kernel_rfl
    exact Option.isSome_iff_exists.1 this
  refine (run_equalIn_array W (d + 2) _ _ Try.underlying47 hi).trans ?_
  rw [cellsOf_row]
  refine eqItems_self _ _ _ _ _ _ (fun i hi => ?_)
  have hi2 := List.mem_range.1 hi
  refine ⟨_, part_row W _ (i * 64), eq_row d W _ (fun j hj => ⟨f (i * 64 + j), ?_⟩)⟩
  rw [Array.getElem?_extract, boardN_size, if_pos (by omega)]
  exact boardN_get f (by omega)
theorem load_board (W : World) (M : Nat) (f : Nat → Int) (h : Board W M f) : (loadVar 47 ⟨M, 0, none⟩).run Try.prog W = .ok (.agg (boardN 4096 f)) W := by
  have hs : (Try.prog.info? 47).map (·.size) = some 4096 := by kernel_rfl
  exact run_loadVar_row W M 47 47 _ (0, 0) _ h Try.underlying47 rfl (by rw [hs, boardN_size])

theorem wpList_load_row_w {P : Program} {ops : Array Oper} {rest : List Oper} {o : Oper} {a : Act} {w : World} {Q : Exit → Act → World → Prop} (hgd : Region.wanted o (yielded ops a.tmps) = true) (ty : TypeId) (x : Operand) (ho : o.op = .load ty x)
    (g : Nat) (hx : a.eval x = .pointer (some ⟨g, 0, none⟩)) (t : TypeId) (cs : Array Value) (fr : Nat × Nat) (d : TypeDesc) (hg : w.heap[g]? = some (.cells cs t fr))
    (hu : P.underlying ty = some d) (hd : (match d with | .struct _ | .array _ _ => true | _ => false) = true) (hi : (P.info? ty).map (·.size) = some cs.size)
    (h : wpList P ops Q rest (a.put o.dst (.agg cs)) w) : wpList P ops Q (o :: rest) a w := by
  unfold wpList
  rw [if_pos hgd]
  exact .inl (wp_load_row ty x ho g hx t cs fr d hg hu hd hi h)
theorem wpList_eql_w {P : Program} {ops : Array Oper} {rest : List Oper} {o : Oper} {a : Act} {w : World} {Q : Exit → Act → World → Prop} (hgd : Region.wanted o (yielded ops a.tmps) = true) (ty ty' : TypeId) (x y : Operand) (ho : o.op = .binOp .eql ty x y ty')
    (vx vy : Value) (hx : a.eval x = vx) (hy : a.eval y = vy) (v : Value) (he : (eqGuard .eql ty x y vx vy).run P w = .ok () w) (hr : (binOp .eql ty vx vy).run P w = .ok v w)
    (h : wpList P ops Q rest (a.put o.dst v) w) : wpList P ops Q (o :: rest) a w := by
  unfold wpList
  rw [if_pos hgd]
  refine .inl ?_
  unfold Oper.wp execOp
  simp only [ho, hx, hy, Sem.run_bind, he, hr, Result.andThen_ok, Sem.run_pure]
  exact h
theorem guard_board : Try.prog.eqGuardType Try.prog.depth 47 = false := by kernel_rfl
theorem eql_board (w : World) (f : Nat → Int) : (binOp .eql 47 (.agg (boardN 4096 f)) (.agg (boardN 4096 f))).run Try.prog w = .ok (.bool true) w := by
  have h : (Op.equalIn 10000 47 (.agg (boardN 4096 f)) (.agg (boardN 4096 f))).run Try.prog w = .ok true w := eq_board 9997 w f
  rw [run_eql_struct, h]; rfl
end Go.Proofs.Ytmpnojgciaoghaa
