/-
  Chapter 23, the document's answer: a node is heard.
-/
import Derived.BigRegion
import Derived.Test.YtaaohfocegnlkaaBtQ
namespace Go.Proofs.Ytaaohfocegnlkaa
open Go.RowKit Go.Shelf
set_option linter.unusedVariables false
set_option linter.unusedSimpArgs false
attribute [local go_sem] Oper.semAt_some

def bools (N : Nat) (bad : Nat → Bool) : Array Value := ((List.range N).map fun k => Value.bool (bad k)).toArray
theorem bools_get {N : Nat} (bad : Nat → Bool) {k : Nat} (hk : k < N) : (bools N bad)[k]? = some (.bool (bad k)) := by simp [bools, hk]
theorem bools_size (N : Nat) (bad : Nat → Bool) : (bools N bad).size = N := by simp [bools]
theorem bools_set {N : Nat} (bad : Nat → Bool) {k : Nat} (hk : k < N) (v : Bool) : (bools N bad).setIfInBounds k (.bool v) = bools N (fun j => if j = k then v else bad j) := by
  apply Array.ext_getElem?
  intro i
  rw [Array.getElem?_setIfInBounds]
  by_cases hi : i < N
  · rw [bools_get _ hi, bools_get _ hi, bools_size]
    by_cases e : k = i
    · subst e; simp [hk]
    · rw [if_neg e, if_neg (fun e' => e e'.symm)]
  · have e : ¬ k = i := by omega
    rw [if_neg e, Array.getElem?_eq_none (by rw [bools_size]; omega), Array.getElem?_eq_none (by rw [bools_size]; omega)]
theorem heap_set (W : World) (b j : Nat) (v : Value) (c : Array Value) (t : TypeId) (fr : Nat × Nat) (h : W.heap[b]? = some (.cells c t fr)) : (W.setCell ⟨b, j, none⟩ v).heap[b]? = some (.cells (c.setIfInBounds j v) t fr) := by
  obtain ⟨hlt, hb⟩ := Array.getElem?_eq_some_iff.1 h
  show (W.heap.modify b _)[b]? = _
  rw [Array.getElem?_eq_getElem (by rw [Array.size_modify]; exact hlt), Array.getElem_modify_self, hb]
  rfl
theorem heap_set_o (W : World) (b j k : Nat) (v : Value) (h : k ≠ b) : (W.setCell ⟨b, j, none⟩ v).heap[k]? = W.heap[k]? := Below.heap_setCell _ _ _ k h
/-- All blocks but two are as they were. -/
structure Two (W W' : World) (p q : Nat) : Prop where
  os : W'.os = W.os
  tape : W'.tape = W.tape
  output : W'.output = W.output
  size : W.heap.size ≤ W'.heap.size
  block : ∀ k, k < W.heap.size → k ≠ p → k ≠ q → W'.heap[k]? = W.heap[k]?
theorem Two.of_later {W W' : World} {p q : Nat} (h : Later W W') : Two W W' p q := ⟨h.os, h.tape, h.output, h.size, fun k hk _ _ => h.block k hk⟩
theorem Two.trans {A B C : World} {p q : Nat} (h : Two A B p q) (k : Two B C p q) : Two A C p q :=
  ⟨k.os.trans h.os, k.tape.trans h.tape, k.output.trans h.output, Nat.le_trans h.size k.size, fun i hi h1 h2 => (k.block i (Nat.lt_of_lt_of_le hi h.size) h1 h2).trans (h.block i hi h1 h2)⟩
theorem Two.set1 {W : World} {p q j : Nat} (v : Value) : Two W (W.setCell ⟨p, j, none⟩ v) p q := ⟨rfl, rfl, rfl, (KeepsWalks.setCell W _ v).size, fun k _ h1 _ => heap_set_o W p j k v h1⟩
theorem Two.set2 {W : World} {p q j : Nat} (v : Value) : Two W (W.setCell ⟨q, j, none⟩ v) p q := ⟨rfl, rfl, rfl, (KeepsWalks.setCell W _ v).size, fun k _ _ h2 => heap_set_o W q j k v h2⟩
theorem RB.setL {W : World} {b lb bb N : Nat} {s p now : Int} {last : Nat → Int} {bad : Nat → Bool} (h : RB W b lb bb N s p now last bad) {k : Nat} (hk : k < N) (v : Int) :
    RB (W.setCell ⟨lb, k, none⟩ (.int .i64 v)) b lb bb N s p now (fun j => if j = k then v else last j) bad :=
  ⟨(heap_set_o _ _ _ _ _ h.ne1).trans h.head, h.rowL.set hk v, (heap_set_o _ _ _ _ _ (fun e => h.ne3 e.symm)).trans h.rowB, h.ne1, h.ne2, h.ne3⟩
theorem RB.setB {W : World} {b lb bb N : Nat} {s p now : Int} {last : Nat → Int} {bad : Nat → Bool} (h : RB W b lb bb N s p now last bad) {k : Nat} (hk : k < N) (v : Bool) :
    RB (W.setCell ⟨bb, k, none⟩ (.bool v)) b lb bb N s p now last (fun j => if j = k then v else bad j) :=
  ⟨(heap_set_o _ _ _ _ _ h.ne2).trans h.head, (heap_set_o _ _ _ _ _ h.ne3).trans h.rowL, (heap_set W bb k (.bool v) _ _ _ h.rowB).trans (by rw [show ((List.range N).map fun k => Value.bool (bad k)).toArray = bools N bad from rfl, bools_set bad hk v]; rfl), h.ne1, h.ne2, h.ne3⟩
end Go.Proofs.Ytaaohfocegnlkaa
