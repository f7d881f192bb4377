/-
  A block of so many machine integers, in words that walks and plain laws share.
-/
import Derived.Laws.Rows
import Derived.Laws.Tables
import Derived.Deep.WholeRow
import Derived.Test.YtjelfiljebamgaaBox
namespace Go.Proofs.Ytjelfiljebamgaa
open Go.RowKit Go.Shelf
set_option linter.unusedVariables false
set_option linter.unusedSimpArgs false

def rowV (n : Nat) (f : Nat → Int) : Array Value := ((List.range n).map fun k => Value.int .i64 (f k)).toArray
theorem rowV_size (n : Nat) (f : Nat → Int) : (rowV n f).size = n := by simp [rowV]
theorem rowV_get {n : Nat} (f : Nat → Int) {k : Nat} (h : k < n) : (rowV n f)[k]? = some (.int .i64 (f k)) := by
  simp [rowV, h]
theorem rowV_ext {n : Nat} {f g : Nat → Int} (h : ∀ k, k < n → f k = g k) : rowV n f = rowV n g := by
  unfold rowV; congr 1
  exact List.map_congr_left (fun k hk => by rw [h k (List.mem_range.1 hk)])

theorem rowV_set {n : Nat} (f : Nat → Int) {k : Nat} (hk : k < n) (v : Int) : (rowV n f).setIfInBounds k (.int .i64 v) = rowV n (fun j => if j = k then v else f j) := by
  apply Array.ext_getElem?
  intro i
  rw [Array.getElem?_setIfInBounds]
  by_cases hi : i < n
  · rw [rowV_get _ hi, rowV_get _ hi, rowV_size]
    by_cases e : k = i
    · subst e; simp [hk]
    · rw [if_neg e, if_neg (fun e' => e e'.symm)]
  · have e : ¬ k = i := by omega
    rw [if_neg e, Array.getElem?_eq_none (by rw [rowV_size]; omega), Array.getElem?_eq_none (by rw [rowV_size]; omega)]
/-- A type's zero value, where its row of the table has it. -/
theorem zero_of {P : Program} {t : TypeId} {z : Value} (h : (P.info? t).map (·.zero) = some (some z)) (W : World) : (zeroValue t).run P W = .ok z W := by
  obtain ⟨i, hi, hz⟩ := Option.map_eq_some_iff.1 h
  simp [zeroValue, typeInfo, hi, hz]

def Row (t : TypeId) (n : Nat) (W : World) (M : Nat) (f : Nat → Int) : Prop := W.heap[M]? = some (.cells (rowV n f) t (0, 0))
theorem Row.cell {t : TypeId} {n : Nat} {W : World} {M : Nat} {f : Nat → Int} (h : Row t n W M f) {k : Nat} (hk : k < n) : W.cell? ⟨M, k, none⟩ = some (.int .i64 (f k)) := by
  rw [cell_of_row W M k _ _ _ h]; exact rowV_get f hk
theorem Row.frozen {t : TypeId} {n : Nat} {W : World} {M : Nat} {f : Nat → Int} (h : Row t n W M f) (k : Nat) : W.frozen? ⟨M, k, none⟩ = false := by
  simp [World.frozen?, show W.heap[M]? = _ from h]
theorem Row.lt {t : TypeId} {n : Nat} {W : World} {M : Nat} {f : Nat → Int} (h : Row t n W M f) : M < W.heap.size := (Array.getElem?_eq_some_iff.1 h).1
theorem Row.later {t : TypeId} {n : Nat} {W W' : World} {M : Nat} {f : Nat → Int} (h : Row t n W M f) (hl : Later W W') : Row t n W' M f := (hl.block M h.lt).trans h
theorem Row.set {t : TypeId} {n : Nat} {W : World} {M : Nat} {f : Nat → Int} (h : Row t n W M f) {k : Nat} (hk : k < n) (v : Int) : Row t n (W.setCell ⟨M, k, none⟩ (.int .i64 v)) M (fun j => if j = k then v else f j) := by
  obtain ⟨hlt, hb⟩ := Array.getElem?_eq_some_iff.1 h
  show (W.heap.modify M _)[M]? = _
  rw [Array.getElem?_eq_getElem (by rw [Array.size_modify]; exact hlt), Array.getElem_modify_self, hb]
  congr 1
  show Obj.cells ((rowV n f).setIfInBounds k _) _ _ = _
  congr 1
  apply Array.ext_getElem?
  intro i
  rw [Array.getElem?_setIfInBounds]
  by_cases hi : i < n
  · rw [rowV_get _ hi, rowV_get _ hi, rowV_size]
    by_cases e : k = i
    · subst e; simp [hk]
    · rw [if_neg e, if_neg (fun e' => e e'.symm)]
  · have e : ¬ k = i := by omega
    rw [if_neg e, Array.getElem?_eq_none (by rw [rowV_size]; omega), Array.getElem?_eq_none (by rw [rowV_size]; omega)]
theorem Row.ext {t : TypeId} {n : Nat} {W : World} {M : Nat} {f g : Nat → Int} (h : Row t n W M f) (e : ∀ k, k < n → f k = g k) : Row t n W M g := by
  unfold Row; rw [← rowV_ext e]; exact h
theorem Row.grown {t : TypeId} {n : Nat} {W W' : World} {M : Nat} {f : Nat → Int} {row : Option Nat} (h : Row t n W M f) (hg : W.grownBy W' row) (hne : some M ≠ row) : Row t n W' M f := (hg.block M h.lt hne).trans h
theorem Row.other {t : TypeId} {n : Nat} {W W' : World} {M : Nat} {f : Nat → Int} {n₀ o : Nat} (h : Row t n W M f) (hg : Apart n₀ o W W') (hn : M < n₀) (hne : M ≠ o) : Row t n W' M f := (hg M hn hne).trans h
theorem grown_some {w w' : World} {o : Nat} (h : w.grownBy w' none) : w.grownBy w' (some o) := ⟨h.os, h.tape, h.output, h.size, fun k hk _ => h.block k hk (by simp)⟩
theorem grownBy_set (W : World) (b j : Nat) (v : Value) : W.grownBy (W.setCell ⟨b, j, none⟩ v) (some b) :=
  ⟨rfl, rfl, rfl, (KeepsWalks.setCell W _ v).size, fun k _ hk => Below.heap_setCell _ _ _ k (fun e => hk (by rw [e]))⟩
theorem grown_set {w W : World} {b j : Nat} {v : Value} (h : w.grownBy W (some b)) : w.grownBy (W.setCell ⟨b, j, none⟩ v) (some b) := grown_but h (grownBy_set W b j v) (fun r e => .inl (Option.some.inj e).symm)
theorem grown_after {w W W' : World} {o : Nat} (h : w.grownBy W (some o)) (hl : Later W W') : w.grownBy W' (some o) := grown_but h hl.grown (fun r e => by cases e)
theorem drew_later (W : World) : Later W W.drew := (Later.refl W).drew
end Go.Proofs.Ytjelfiljebamgaa
