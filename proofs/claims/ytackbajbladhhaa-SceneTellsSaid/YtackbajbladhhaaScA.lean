/-
  Chapter 6: scenes as data.
-/
import Derived.Deep.MidRow
import Derived.Test.YtackbajbladhhaaMxH
namespace Go.Proofs.Ytackbajbladhhaa
open Go.RowKit Go.Shelf
set_option linter.unusedVariables false
set_option linter.unusedSimpArgs false

/-- A slice of rows of n cells: what it holds. -/
def RowsV (n : Nat) (w : World) (v : Value) (L : List (List Value)) : Prop :=
  ∃ ao cap, v = .slice ao L.length cap ∧ (L.length ≤ cap ∧ (ao = none → cap = 0)) ∧ ∀ k x, L[k]? = some x → ∃ g o, ao = some ⟨g, o, none⟩ ∧ w.rangeAt g (o + k * n) x
theorem rangeAt_later {w w' : World} {b o : Nat} {cs : List Value} (h : w.rangeAt b o cs) (hl : Later w w') : w'.rangeAt b o cs := fun j v hv => hl.cell (h j v hv)
theorem RowsV.later {n : Nat} {w w' : World} {v : Value} {L : List (List Value)} (h : RowsV n w v L) (hl : Later w w') : RowsV n w' v L := by
  obtain ⟨ao, cap, rfl, hc, hk⟩ := h
  exact ⟨ao, cap, rfl, hc, fun k x hx => by obtain ⟨g, o, e, hr⟩ := hk k x hx; exact ⟨g, o, e, rangeAt_later hr hl⟩⟩
theorem RowsV.form {n : Nat} {w : World} {v : Value} {L : List (List Value)} (h : RowsV n w v L) : ∃ ao cap, v = .slice ao L.length cap := by
  obtain ⟨ao, cap, e, _⟩ := h
  exact ⟨ao, cap, e⟩
theorem RowsV.at {n : Nat} {w : World} {ao : Option Addr} {m cap : Nat} {L : List (List Value)} (h : RowsV n w (.slice ao m cap) L) {k : Nat} {x : List Value} (hx : L[k]? = some x) : ∃ g o, ao = some ⟨g, o, none⟩ ∧ w.rangeAt g (o + k * n) x := by
  obtain ⟨ao', cap', e, hc, hk⟩ := h
  cases e
  exact hk k x hx
theorem RowsV.cap {n : Nat} {w : World} {ao : Option Addr} {m cap : Nat} {L : List (List Value)} (h : RowsV n w (.slice ao m cap) L) : m = L.length ∧ m ≤ cap ∧ (ao = none → cap = 0) := by
  obtain ⟨ao', cap', e, hc, hk⟩ := h
  cases e
  exact ⟨rfl, hc⟩
/-- The first few. -/
theorem RowsV.take {n : Nat} {w : World} {ao : Option Addr} {m cap : Nat} {L : List (List Value)} (h : RowsV n w (.slice ao m cap) L) {k : Nat} (hk : k ≤ m) : RowsV n w (.slice ao k cap) (L.take k) := by
  obtain ⟨hm, hc, hn⟩ := h.cap
  refine ⟨ao, cap, by rw [List.length_take, Nat.min_eq_left (by omega)], ⟨by rw [List.length_take]; omega, hn⟩, fun j x hx => h.at ?_⟩
  rw [List.getElem?_take] at hx
  split at hx
  · exact hx
  · cases hx

/-! The first place at which something holds. -/
def fst (p : Nat → Bool) : Nat → Nat → Int
  | 0, _ => -1
  | m + 1, k => if p k then (k : Int) else fst p m (k + 1)
theorem fst_hit (p : Nat → Bool) (m k : Nat) (h : p k = true) : fst p (m + 1) k = k := by unfold fst; rw [if_pos h]
theorem fst_miss (p : Nat → Bool) (m k : Nat) (h : p k = false) : fst p (m + 1) k = fst p m (k + 1) := by
  conv => lhs; unfold fst
  rw [h]; rfl
theorem fst_lt (p : Nat → Bool) : ∀ m k, -1 ≤ fst p m k ∧ fst p m k < k + m
  | 0, k => by unfold fst; omega
  | m + 1, k => by
    have := fst_lt p m (k + 1)
    unfold fst; split <;> omega
theorem fst_any (p : Nat → Bool) : ∀ m k, decide (0 ≤ fst p m k) = (List.range m).any (fun j => p (k + j))
  | 0, k => by simp [fst]
  | m + 1, k => by
    rw [List.range_succ_eq_map, List.any_cons, List.any_map]
    by_cases h : p k = true
    · rw [fst_hit p m k h]; simp [h]
    · have h2 : p k = false := by simpa using h
      rw [fst_miss p m k h2, fst_any p m (k + 1)]
      simp only [Nat.add_zero, h2, Bool.false_or]
      congr 1
      funext j
      show p (k + 1 + j) = p (k + (j + 1))
      congr 1; omega
theorem fst_is (p : Nat → Bool) : ∀ m k, 0 ≤ fst p m k → p (fst p m k).toNat = true ∧ ∀ j, k ≤ j → j < (fst p m k).toNat → p j = false
  | 0, k => fun h => by unfold fst at h; omega
  | m + 1, k => fun h => by
    by_cases hk : p k = true
    · rw [fst_hit p m k hk]
      exact ⟨by simpa using hk, fun j h1 h2 => by simp at h2; omega⟩
    · have h2 : p k = false := by simpa using hk
      rw [fst_miss p m k h2] at h ⊢
      obtain ⟨h3, h4⟩ := fst_is p m (k + 1) h
      refine ⟨h3, fun j h5 h6 => ?_⟩
      by_cases e : j = k
      · rw [e]; exact h2
      · exact h4 j (by omega) h6

/-! Objects and scenes. -/
abbrev V3 := Int × Int × Int
abbrev T4 := Int × Int × Int × Int
def vrow (v : V3) : List Value := [.int .i64 v.1, .int .i64 v.2.1, .int .i64 v.2.2]
def trow (t : T4) : List Value := [.int .i64 t.1, .int .i64 t.2.1, .int .i64 t.2.2.1, .int .u32 t.2.2.2]
structure SObj where
  id : Int
  m : Nat → Int
  uv : Value
  vs : List V3
  ut : Value
  ts : List T4
def SObj.row (x : SObj) : List Value := .int .i64 x.id :: (((List.range 16).map fun k => .int .i64 (x.m k)) ++ [x.uv, x.ut])
def SObj.Ok (w : World) (x : SObj) : Prop := RowsV 3 w x.uv (x.vs.map vrow) ∧ RowsV 4 w x.ut (x.ts.map trow)
structure Scn where
  W : Int
  H : Int
  cam : Nat → Int
  uo : Value
  os : List SObj
def Scn.row (s : Scn) : List Value := .int .i64 s.W :: .int .i64 s.H :: (((List.range 16).map fun k => .int .i64 (s.cam k)) ++ [s.uo])
def Scn.Ok (w : World) (s : Scn) : Prop := RowsV 19 w s.uo (s.os.map SObj.row) ∧ ∀ x ∈ s.os, x.Ok w
theorem SObj.Ok.later {w w' : World} {x : SObj} (h : x.Ok w) (hl : Later w w') : x.Ok w' := ⟨h.1.later hl, h.2.later hl⟩
theorem Scn.Ok.later {w w' : World} {s : Scn} (h : s.Ok w) (hl : Later w w') : s.Ok w' := ⟨h.1.later hl, fun x hx => (h.2 x hx).later hl⟩
abbrev SObj.V (x : SObj) : Value := .agg x.row.toArray
abbrev Scn.V (s : Scn) : Value := .agg s.row.toArray
theorem SObj.row_length (x : SObj) : x.row.length = 19 := by simp [SObj.row]
theorem Scn.row_length (s : Scn) : s.row.length = 19 := by simp [Scn.row]
/-- A block of a scene; of an object. -/
abbrev ScnB (W : World) (P : Nat) (s : Scn) : Prop := W.heap[P]? = some (.cells s.row.toArray 28 (0, 0))
abbrev ObjB (W : World) (P : Nat) (x : SObj) : Prop := W.heap[P]? = some (.cells x.row.toArray 37 (0, 0))
theorem row_range {W : World} {P : Nat} {L : List Value} {t : TypeId} {fr : Nat × Nat} (h : W.heap[P]? = some (.cells L.toArray t fr)) : W.rangeAt P 0 L := fun j v hv => by
  rw [Nat.zero_add]
  exact (cell_of_row W P j _ _ _ h).trans (by simpa using hv)
theorem rangeAt_mid {W : World} {P o : Nat} {A B C : List Value} (h : W.rangeAt P o (A ++ (B ++ C))) : W.rangeAt P (o + A.length) B := fun j v hv => by
  have hj : j < B.length := (List.getElem?_eq_some_iff.1 hv).1
  rw [Nat.add_assoc]
  refine h (A.length + j) v ?_
  rw [List.getElem?_append_right (by omega), Nat.add_sub_cancel_left, List.getElem?_append_left hj]
  exact hv
theorem range_mat (f : Nat → Int) : ((List.range 16).map fun k => Value.int .i64 (f k)).toArray = rowV 16 f := rfl
theorem len_mat (f : Nat → Int) : (Try.prog.info? 25).map (·.size) = some ((List.range 16).map fun k => Value.int .i64 (f k)).length := by
  have hs : (Try.prog.info? 25).map (·.size) = some 16 := by kernel_rfl
  rw [hs]; simp
theorem ObjB.id {W : World} {P : Nat} {x : SObj} (h : ObjB W P x) : W.cell? ⟨P, 0, none⟩ = some (.int .i64 x.id) := row_range h 0 _ rfl
theorem ObjB.mat {W : World} {P : Nat} {x : SObj} (h : ObjB W P x) : W.rangeAt P 1 ((List.range 16).map fun k => .int .i64 (x.m k)) :=
  rangeAt_mid (A := [.int .i64 x.id]) (C := [x.uv, x.ut]) (row_range h)
theorem ObjB.uv {W : World} {P : Nat} {x : SObj} (h : ObjB W P x) : W.cell? ⟨P, 17, none⟩ = some x.uv := row_range h 17 _ rfl
theorem ObjB.ut {W : World} {P : Nat} {x : SObj} (h : ObjB W P x) : W.cell? ⟨P, 18, none⟩ = some x.ut := row_range h 18 _ rfl
theorem ScnB.w {W : World} {P : Nat} {x : Scn} (h : ScnB W P x) : W.cell? ⟨P, 0, none⟩ = some (.int .i64 x.W) := row_range h 0 _ rfl
theorem ScnB.h {W : World} {P : Nat} {x : Scn} (h : ScnB W P x) : W.cell? ⟨P, 1, none⟩ = some (.int .i64 x.H) := row_range h 1 _ rfl
theorem ScnB.cam {W : World} {P : Nat} {x : Scn} (h : ScnB W P x) : W.rangeAt P 2 ((List.range 16).map fun k => .int .i64 (x.cam k)) :=
  rangeAt_mid (A := [.int .i64 x.W, .int .i64 x.H]) (C := [x.uo]) (row_range h)
theorem ScnB.uo {W : World} {P : Nat} {x : Scn} (h : ScnB W P x) : W.cell? ⟨P, 18, none⟩ = some x.uo := row_range h 18 _ rfl
theorem size_obj (x : SObj) : (Try.prog.info? 37).map (·.size) = some x.row.length := by
  have hs : (Try.prog.info? 37).map (·.size) = some 19 := by kernel_rfl
  rw [hs, SObj.row_length]
theorem size_scn (x : Scn) : (Try.prog.info? 28).map (·.size) = some x.row.length := by
  have hs : (Try.prog.info? 28).map (·.size) = some 19 := by kernel_rfl
  rw [hs, Scn.row_length]
end Go.Proofs.Ytackbajbladhhaa
