/-
  Small lemmas for walks: endings, worlds that only grew, draws.
-/
import Derived.Test.YtjelfiljebamgaaProg
import Derived.WalkKit
import Derived.WalkSpells
import Derived.WalkLawsBesides
import Derived.Lib.Hide
import Derived.BigQuiet
import Derived.Deep.QuietTactic
import Derived.Deep.RegionHeld3
import Derived.Deep.RegionWith
import Derived.Deep.DeepFit
import Derived.Outline
namespace Go.Proofs.Ytjelfiljebamgaa
open Go.RowKit
set_option linter.unusedVariables false
set_option linter.unusedSimpArgs false

theorem ret_bool {a b : Bool} (h : a = b) : Ending.returned (.bool a) = .returned (.bool b) := by rw [h]
theorem ret_int {k : IntKind} {a b : Int} (h : a = b) : Ending.returned (.int k a) = .returned (.int k b) := by rw [h]
theorem ret_2 {a b c d : Value} (h : a = c) (k : b = d) : Ending.returned (.tuple #[a, b]) = .returned (.tuple #[c, d]) := by rw [h, k]
theorem ret_3 {a b c d e f : Value} (h : a = d) (k : b = e) (l : c = f) : Ending.returned (.tuple #[a, b, c]) = .returned (.tuple #[d, e, f]) := by rw [h, k, l]
theorem bool_v {a b : Bool} (h : a = b) : Value.bool a = .bool b := by rw [h]
theorem int_v {k : IntKind} {a b : Int} (h : a = b) : Value.int k a = .int k b := by rw [h]

theorem bcell {n : Nat} {W w1 : World} (hb : Below n W w1) : (∀ b o, b < n → w1.cell? ⟨b, o, none⟩ = W.cell? ⟨b, o, none⟩) ∧ (∀ b o, b < n → w1.frozen? ⟨b, o, none⟩ = W.frozen? ⟨b, o, none⟩) :=
  ⟨fun b o h => hb.cell (p := ⟨b, o, none⟩) h, fun b o h => hb.frozen (p := ⟨b, o, none⟩) h⟩

theorem below_drewN {B : Nat} {a w : World} (h : Below B a w) (n : Nat) : Below B a (w.drewN n) := ⟨h.os, h.tape, h.output, h.size, h.block⟩

/-- A later world: nothing that lay in w has turned; the world has not shrunk. -/
def Later (w w' : World) : Prop := Below w.heap.size w w'
theorem Later.refl (w : World) : Later w w := Below.refl _ _
theorem Later.trans {a b c : World} (h : Later a b) (k : Later b c) : Later a c := Below.trans h (Below.mono k h.size)
theorem Later.alloc {a b : World} (h : Later a b) (o : Obj) : Later a (b.alloc o) := Below.alloc h h.size o
theorem Later.drew {a b : World} (h : Later a b) : Later a b.drew := Below.drew h
theorem Later.drewN {a b : World} (h : Later a b) (n : Nat) : Later a (b.drewN n) := below_drewN h n
theorem Later.setCell {a b : World} (h : Later a b) {p : Addr} (hp : a.heap.size ≤ p.block) (u : Value) : Later a (b.setCell p u) := Below.setCell h hp u
theorem Later.size {a b : World} (h : Later a b) : a.heap.size ≤ b.heap.size := Below.size h
theorem cell_lt {w : World} {b o : Nat} {v : Value} (h : w.cell? ⟨b, o, none⟩ = some v) : b < w.heap.size := by
  cases hh : w.heap[b]? with
  | none => simp [World.cell?, hh] at h
  | some x => exact (Array.getElem?_eq_some_iff.1 hh).1
theorem Later.cell {w w' : World} (h : Later w w') {b o : Nat} {v : Value} (hc : w.cell? ⟨b, o, none⟩ = some v) : w'.cell? ⟨b, o, none⟩ = some v :=
  (Below.cell (p := ⟨b, o, none⟩) h (cell_lt hc)).trans hc
theorem Later.frozen {w w' : World} (h : Later w w') {b o : Nat} {v : Value} (hc : w.cell? ⟨b, o, none⟩ = some v) (hf : w.frozen? ⟨b, o, none⟩ = false) : w'.frozen? ⟨b, o, none⟩ = false :=
  (Below.frozen (p := ⟨b, o, none⟩) h (cell_lt hc)).trans hf
theorem cell_setCell_o {w : World} {b o b' o' : Nat} {u v : Value} (h : w.cell? ⟨b, o, none⟩ = some v) (hne : ¬ (b' = b ∧ o' = o)) : (w.setCell ⟨b', o', none⟩ u).cell? ⟨b, o, none⟩ = some v :=
  (World.cell?_setCell_other _ _ _ _ (fun e => hne (by injection e with e1 e2; exact ⟨e1, e2⟩))).trans h
theorem cell_setCell_s {w : World} {b o : Nat} {u v : Value} (h : w.cell? ⟨b, o, none⟩ = some v) : (w.setCell ⟨b, o, none⟩ u).cell? ⟨b, o, none⟩ = some u :=
  World.cell?_setCell_same _ _ _ h
/-- A cell that may be written. -/
def Free (w : World) (b o : Nat) : Prop := (∃ v, w.cell? ⟨b, o, none⟩ = some v) ∧ w.frozen? ⟨b, o, none⟩ = false
theorem Free.later {w w' : World} {b o : Nat} (h : Free w b o) (hl : Later w w') : Free w' b o := ⟨⟨h.1.choose, hl.cell h.1.choose_spec⟩, hl.frozen h.1.choose_spec h.2⟩
theorem Later.lt {w w' : World} (h : Later w w') {n : Nat} (hn : n < w.heap.size) : n < w'.heap.size := Nat.lt_of_lt_of_le hn h.size
@[simp] theorem cell_a3_0 (w : World) (c : Array Value) (t : TypeId) (o1 o2 : Obj) (i : Nat) : (((w.alloc (.cells c t)).alloc o1).alloc o2).cell? ⟨w.heap.size, i, none⟩ = c[i]? := by
  rw [World.cell?_alloc_lt _ _ _ (by simp; omega), World.cell?_alloc_lt _ _ _ (by simp)]; simp
@[simp] theorem cell_a3_1 (w : World) (o0 : Obj) (c : Array Value) (t : TypeId) (o2 : Obj) (i : Nat) : (((w.alloc o0).alloc (.cells c t)).alloc o2).cell? ⟨w.heap.size + 1, i, none⟩ = c[i]? := by
  rw [World.cell?_alloc_lt _ _ _ (by simp)]; simp
@[simp] theorem cell_a3_2 (w : World) (o0 o1 : Obj) (c : Array Value) (t : TypeId) (i : Nat) : (((w.alloc o0).alloc o1).alloc (.cells c t)).cell? ⟨w.heap.size + 1 + 1, i, none⟩ = c[i]? := by
  have := World.cell?_alloc_new ((w.alloc o0).alloc o1) c t i
  simpa using this
end Go.Proofs.Ytjelfiljebamgaa
