/-
  A variable's box in a function that collects: what an append does to it, in words that a caller of an iterator can use.
-/
import Derived.RangeFuncNested
import Derived.RangeFuncBound
import Derived.RangeFuncCalls
import Derived.RangeFuncLeaves
import Derived.RangeFuncBox
import Derived.Shelf.Abstract
import Derived.WalkKit
import Derived.OwnWalkIn
import Derived.TacticsInMore
import Derived.LoopNIn
import Derived.LoopIn
import Derived.Maps.AppendAt
import Derived.Deep.AppendLies
import Derived.Deep.DeepCutAuto
import Derived.Test.YtjelfiljebamgaaKit
namespace Go.Proofs.Ytjelfiljebamgaa
open Go.RowKit Go.Shelf
set_option linter.unusedVariables false
set_option linter.unusedSimpArgs false

/-- All blocks below n₀, but o's, are as they were. -/
def Apart (n₀ o : Nat) (W W' : World) : Prop := ∀ k, k < n₀ → k ≠ o → W'.heap[k]? = W.heap[k]?
theorem Apart.refl (n₀ o : Nat) (W : World) : Apart n₀ o W W := fun _ _ _ => rfl
theorem Apart.trans {n₀ o : Nat} {A B C : World} (h : Apart n₀ o A B) (k : Apart n₀ o B C) : Apart n₀ o A C := fun i hi hne => (k i hi hne).trans (h i hi hne)
theorem Apart.cell {n₀ o : Nat} {A B : World} (h : Apart n₀ o A B) {p : Addr} (hp : p.block < n₀ ∧ p.block ≠ o) : B.cell? p = A.cell? p := World.cell?_of_block (h p.block hp.1 hp.2)
theorem Apart.putObj {n₀ o : Nat} (W : World) (l : Nat) (ob : Obj) (hl : n₀ ≤ l) : Apart n₀ o W (W.putObj l ob) := fun k hk _ => World.putObj_heap_other (by omega)
theorem Apart.later {n₀ o : Nat} {W W' : World} (h : Later W W') (hn : n₀ ≤ W.heap.size) : Apart n₀ o W W' := fun k hk _ => h.block k (by omega)

theorem Later.grown {w w' : World} (h : Later w w') : w.grownBy w' none := ⟨h.os, h.tape, h.output, Below.size h, fun k hk _ => h.block k hk⟩
theorem Boxed.later {W W' : World} {B : Nat} {t : TypeId} {v : Value} (h : Boxed W B t v) (hl : Later W W') : Boxed W' B t v := h.kept hl.grown (by simp)
theorem grown_but {w0 w w' : World} {o : Nat} {row : Option Nat} (h : w0.grownBy w (some o)) (hg : w.grownBy w' row) (hr : ∀ r, row = some r → r = o ∨ w0.heap.size ≤ r) : w0.grownBy w' (some o) :=
  ⟨hg.os.trans h.os, hg.tape.trans h.tape, hg.output.trans h.output, Nat.le_trans h.size hg.size, fun k hk hne => by
    refine (hg.block k (Nat.lt_of_lt_of_le hk h.size) (fun e => ?_)).trans (h.block k hk hne)
    rcases hr k e.symm with e2 | e2
    · exact hne (by rw [e2])
    · omega⟩
theorem grown_cell {w0 w : World} {o b j : Nat} {v : Value} (h : w0.grownBy w (some o)) (hc : w0.cell? ⟨b, j, none⟩ = some v) (hne : b ≠ o) : w.cell? ⟨b, j, none⟩ = some v :=
  (World.cell?_of_block (a := ⟨b, j, none⟩) (h.block b (cell_lt hc) (fun e => hne (by injection e)))).trans hc
theorem grown_later {w0 w w' : World} {o : Nat} (h0 : Later w0 w) (h : w.grownBy w' (some o)) (ho : w0.heap.size ≤ o) : Later w0 w' :=
  Below.grown h0 h h0.size (fun k e => by cases e; exact ho)
theorem ownFrom_grown {β : Type} {B o : Nat} {w₀ : World} (hB : w₀.heap.size ≤ B) : OwnFrom B (fun (_ : β) W => w₀.grownBy W (some o)) :=
  fun _ _ _ _ hs hg hr => grown_but hs hg (fun r e => .inr (Nat.le_trans hB (hr r e).1))

/-- Append into a box, where the row lies from n₀ on and the box may lie below. -/
theorem boxed_append {W w1 : World} {n₀ B : Nat} {t e : TypeId} {size : Nat} {v v' : Value} {k m : Nat} {xs ys : List Value} {tmp : Obj}
    (hv : Boxed W B t v) (hte : t ≠ e) (hrow : W.ownsRow n₀ e size v k xs) (hn₀ : n₀ ≤ W.heap.size)
    (hown' : w1.ownsRow n₀ e size v' m ys) (hgrow : (W.alloc tmp).grownBy w1 v.ownBlock) :
    Boxed w1 B t v ∧ Boxed (w1.setCell ⟨B, 0, none⟩ v') B t v' ∧ (w1.setCell ⟨B, 0, none⟩ v').ownsRow n₀ e size v' m ys ∧ KeepsOthers W (w1.setCell ⟨B, 0, none⟩ v') ∧
      Apart n₀ B W (w1.setCell ⟨B, 0, none⟩ v') ∧ ∀ X : World, X.heap.size ≤ n₀ → X.grownBy W (some B) → X.grownBy (w1.setCell ⟨B, 0, none⟩ v') (some B) := by
  have hv1 : Boxed w1 B t v := (hv.alloc tmp).kept hgrow (hv.not_row hte hrow)
  have hrb : ∀ r, v.ownBlock = some r → n₀ ≤ r := by
    intro r hr
    rcases hrow.2 with ⟨rfl, _⟩ | ⟨g, cap, cur, rfl, hb, _, _⟩
    · simp [Value.ownBlock] at hr
    · obtain rfl : g = r := by simpa [Value.ownBlock] using hr
      exact hb
  refine ⟨hv1, hv1.set v', hown'.kept (grownBy_setCell' w1 B v') (.inr (hv1.not_row hte hown').symm), ?_, ?_, ?_⟩
  · refine ((KeepsOthers.alloc W tmp).trans (KeepsOthers.of_grownBy hgrow fun j o ej hj => ?_)).trans (KeepsOthers.setCell _ _ _)
    rcases (hrow.alloc tmp).2 with ⟨rfl, _⟩ | ⟨g, cap, cur, rfl, _, hgb, _⟩
    · simp [Value.ownBlock] at ej
    · obtain rfl : g = j := by simpa [Value.ownBlock] using ej
      rw [hgb] at hj; cases hj; rfl
  · intro i hi hne
    refine (Below.heap_setCell _ _ _ i hne).trans ((hgrow.block i (by simp; omega) (fun e' => ?_)).trans (Below.heap_alloc W tmp i (by omega)))
    have := hrb i e'.symm
    omega
  · intro X hX hg
    exact grown_but (grown_but (grown_but hg (World.grownBy_alloc W tmp none) (fun r e' => by cases e')) hgrow (fun r e' => .inr (Nat.le_trans hX (hrb r e')))) (grownBy_setCell' w1 B v') (fun r e' => .inl (by cases e'; rfl))
end Go.Proofs.Ytjelfiljebamgaa
