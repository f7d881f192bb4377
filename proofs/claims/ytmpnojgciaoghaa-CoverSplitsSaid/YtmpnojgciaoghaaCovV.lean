/-
  Chapter 11: boards of 64 times 64 counts; each pixel comes once.
-/
import Derived.Test.YtmpnojgciaoghaaCovM
import Derived.Test.YtmpnojgciaoghaaCovU
namespace Go.Proofs.Ytmpnojgciaoghaa
open Go.RowKit Go.Shelf
set_option linter.unusedVariables false
set_option linter.unusedSimpArgs false

def boardN (n : Nat) (f : Nat → Int) : Array Value := ((List.range n).map fun k => Value.int .i64 (f k)).toArray
theorem boardN_size (n : Nat) (f : Nat → Int) : (boardN n f).size = n := by simp [boardN]
theorem boardN_get {n : Nat} (f : Nat → Int) {k : Nat} (h : k < n) : (boardN n f)[k]? = some (.int .i64 (f k)) := by
  simp [boardN, h]
theorem boardN_ext {n : Nat} {f g : Nat → Int} (h : ∀ k, k < n → f k = g k) : boardN n f = boardN n g := by
  unfold boardN; congr 1
  exact List.map_congr_left (fun k hk => by rw [h k (List.mem_range.1 hk)])

def BoardN (n : Nat) (W : World) (M : Nat) (f : Nat → Int) : Prop := W.heap[M]? = some (.cells (boardN n f) 47 (0, 0))
theorem BoardN.cell {n : Nat} {W : World} {M : Nat} {f : Nat → Int} (h : BoardN n W M f) {k : Nat} (hk : k < n) : W.cell? ⟨M, k, none⟩ = some (.int .i64 (f k)) := by
  rw [cell_of_row W M k _ _ _ h]; exact boardN_get f hk
theorem BoardN.frozen {n : Nat} {W : World} {M : Nat} {f : Nat → Int} (h : BoardN n W M f) (k : Nat) : W.frozen? ⟨M, k, none⟩ = false := by
  simp [World.frozen?, show W.heap[M]? = _ from h]
theorem BoardN.lt {n : Nat} {W : World} {M : Nat} {f : Nat → Int} (h : BoardN n W M f) : M < W.heap.size := (Array.getElem?_eq_some_iff.1 h).1
theorem BoardN.later {n : Nat} {W W' : World} {M : Nat} {f : Nat → Int} (h : BoardN n W M f) (hl : Later W W') : BoardN n W' M f := (hl.block M h.lt).trans h
theorem BoardN.set {n : Nat} {W : World} {M : Nat} {f : Nat → Int} (h : BoardN n W M f) {k : Nat} (hk : k < n) (v : Int) : BoardN n (W.setCell ⟨M, k, none⟩ (.int .i64 v)) M (fun j => if j = k then v else f j) := by
  obtain ⟨hlt, hb⟩ := Array.getElem?_eq_some_iff.1 h
  show (W.heap.modify M _)[M]? = _
  rw [Array.getElem?_eq_getElem (by rw [Array.size_modify]; exact hlt), Array.getElem_modify_self, hb]
  congr 1
  show Obj.cells ((boardN n f).setIfInBounds k _) _ _ = _
  congr 1
  apply Array.ext_getElem?
  intro i
  rw [Array.getElem?_setIfInBounds]
  by_cases hi : i < n
  · rw [boardN_get _ hi, boardN_get _ hi, boardN_size]
    by_cases e : k = i
    · subst e; simp [hk]
    · rw [if_neg e, if_neg (fun e' => e e'.symm)]
  · have e : ¬ k = i := by omega
    rw [if_neg e, Array.getElem?_eq_none (by rw [boardN_size]; omega), Array.getElem?_eq_none (by rw [boardN_size]; omega)]
theorem BoardN.ext {n : Nat} {W : World} {M : Nat} {f g : Nat → Int} (h : BoardN n W M f) (e : ∀ k, k < n → f k = g k) : BoardN n W M g := by
  unfold BoardN; rw [← boardN_ext e]; exact h
theorem BoardN.grown {n : Nat} {W W' : World} {M : Nat} {f : Nat → Int} {row : Option Nat} (h : BoardN n W M f) (hg : W.grownBy W' row) (hne : some M ≠ row) : BoardN n W' M f := (hg.block M h.lt hne).trans h
abbrev Board := BoardN 4096
set_option maxRecDepth 1000000 in
theorem zero_board (W : World) : (zeroValue 47).run Try.prog W = .ok (.agg (boardN 4096 fun _ => 0)) W := by
  have h : (Try.prog.info? 47).map (·.zero) = some (some (.agg (boardN 4096 fun _ => 0))) := by kernel_rfl
  generalize boardN 4096 (fun _ => 0) = z at h
  obtain ⟨i, hi, hz⟩ := Option.map_eq_some_iff.1 h
  clear h
  generalize Try.prog = P at hi
  simp [zeroValue, typeInfo, hi, hz]
theorem BoardN.none {n : Nat} {W : World} {M : Nat} {f : Nat → Int} (h : BoardN n W M f) {k : Nat} (hk : n ≤ k) : W.cell? ⟨M, k, none⟩ = none := by
  rw [cell_of_row W M k _ _ _ h]; exact Array.getElem?_eq_none (by rw [boardN_size]; exact hk)
theorem grown_some {w w' : World} {o : Nat} (h : w.grownBy w' none) : w.grownBy w' (some o) := ⟨h.os, h.tape, h.output, h.size, fun k hk _ => h.block k hk (by simp)⟩
theorem grownBy_set (W : World) (b j : Nat) (v : Value) : W.grownBy (W.setCell ⟨b, j, none⟩ v) (some b) :=
  ⟨rfl, rfl, rfl, (KeepsWalks.setCell W _ v).size, fun k _ hk => Below.heap_setCell _ _ _ k (fun e => hk (by rw [e]))⟩

def pos (q : Int × Int) : Int := q.2 * 64 + q.1
theorem irange_pairwise (a b : Int) : (irange a b).Pairwise (· < ·) := by
  unfold irange
  rw [List.pairwise_map]
  exact List.pairwise_lt_range.imp (by intro x y h; omega)
theorem pix_pairwise : (pix 0 64 0 64).Pairwise (fun p q => pos p < pos q) := by
  unfold pix
  rw [List.pairwise_flatMap]
  constructor
  · intro y hy
    unfold prow
    rw [List.pairwise_map]
    exact (irange_pairwise 0 64).imp (by intro a b h; simp only [pos]; omega)
  · refine (irange_pairwise 0 64).imp ?_
    intro y1 y2 h p hp q hq
    rw [mem_prow] at hp hq
    unfold pos
    omega
def pos3 (q : Q3) : Int := q.2.1 * 64 + q.1
theorem cellC_pos {a b c : C3} {p : Int × Int} {q : Q3} (h : cellC a b c p = some q) : q.1 = p.1 ∧ q.2.1 = p.2 ∧ Cov a b c (16 * p.1 + 8) (16 * p.2 + 8) := by
  unfold cellC at h
  by_cases hc : Cov a b c (16 * p.1 + 8) (16 * p.2 + 8)
  · rw [if_pos hc] at h; cases h; exact ⟨rfl, rfl, hc⟩
  · rw [if_neg hc] at h; cases h
theorem CL64_pairwise (a b c : C3) : (CL a b c 64 64).Pairwise (fun p q => pos3 p < pos3 q) := by
  rw [CL_eq]
  split
  · rw [List.pairwise_filterMap]
    refine pix_pairwise.imp ?_
    intro p q h p' hp q' hq
    have h1 := cellC_pos hp
    have h2 := cellC_pos hq
    unfold pos at h; unfold pos3
    rw [h1.1, h1.2.1, h2.1, h2.2.1]; exact h
  · exact List.Pairwise.nil
theorem CL64_bd {a b c : C3} {q : Q3} (h : q ∈ CL a b c 64 64) : 0 ≤ q.1 ∧ q.1 ≤ 63 ∧ 0 ≤ q.2.1 ∧ q.2.1 ≤ 63 ∧ may3 a b c = true ∧ Cov a b c (16 * q.1 + 8) (16 * q.2.1 + 8) := by
  rw [CL_eq] at h
  split at h
  · rename_i hs
    rw [Bool.and_eq_true] at hs
    rw [List.mem_filterMap] at h
    obtain ⟨p, hp, hq⟩ := h
    rw [mem_pix] at hp
    obtain ⟨h1, h2, h3⟩ := cellC_pos hq
    rw [h1, h2]
    exact ⟨by omega, by omega, by omega, by omega, hs.2, h3⟩
  · cases h
theorem CL64_mem {a b c : C3} {x y : Int} (hm : may3 a b c = true) (hx : 0 ≤ x ∧ x ≤ 63) (hy : 0 ≤ y ∧ y ≤ 63) (h : Cov a b c (16 * x + 8) (16 * y + 8)) : ∃ z, (x, y, z) ∈ CL a b c 64 64 := by
  refine ⟨Dep a b c (16 * x + 8) (16 * y + 8), ?_⟩
  rw [CL_eq, hm, show sizeOk 64 64 = true from rfl]
  show _ ∈ List.filterMap _ _
  rw [List.mem_filterMap]
  exact ⟨(x, y), mem_pix.2 ⟨by show 0 ≤ x; omega, by show x < 64; omega, by show 0 ≤ y; omega, by show y < 64; omega⟩, if_pos h⟩

/-- Whether the first i of a list meet a place. -/
def Met (L : List Q3) (i : Nat) (k : Nat) : Prop := ∃ j, j < i ∧ j < L.length ∧ pos3 (L.getD j (0, 0, 0)) = (k : Int)
noncomputable def met (L : List Q3) (i k : Nat) : Int := by classical exact if Met L i k then 1 else 0
theorem met_zero (L : List Q3) (k : Nat) : met L 0 k = 0 := by
  unfold met; rw [if_neg]; rintro ⟨j, hj, _⟩; omega
theorem met_01 (L : List Q3) (i k : Nat) : 0 ≤ met L i k ∧ met L i k ≤ 1 := by unfold met; split <;> omega
theorem getD_lt {L : List Q3} (hp : L.Pairwise (fun p q => pos3 p < pos3 q)) {i j : Nat} (hij : i < j) (hj : j < L.length) : pos3 (L.getD i (0, 0, 0)) < pos3 (L.getD j (0, 0, 0)) := by
  rw [List.pairwise_iff_getElem] at hp
  have := hp i j (by omega) hj hij
  simpa [List.getD_eq_getElem?_getD, hj, show i < L.length by omega] using this
theorem met_succ {L : List Q3} (hp : L.Pairwise (fun p q => pos3 p < pos3 q)) {i : Nat} (hi : i < L.length) (k : Nat) :
    met L (i + 1) k = if pos3 (L.getD i (0, 0, 0)) = (k : Int) then met L i k + 1 else met L i k := by
  by_cases e : pos3 (L.getD i (0, 0, 0)) = (k : Int)
  · rw [if_pos e]
    have h1 : Met L (i + 1) k := ⟨i, by omega, hi, e⟩
    have h2 : ¬ Met L i k := by
      rintro ⟨j, hj, _, hk⟩
      have := getD_lt hp hj hi
      omega
    unfold met; rw [if_pos h1, if_neg h2]; rfl
  · rw [if_neg e]
    have h : Met L (i + 1) k ↔ Met L i k := by
      constructor
      · rintro ⟨j, hj, hl, hk⟩
        refine ⟨j, ?_, hl, hk⟩
        rcases (show j < i ∨ j = i by omega) with h | rfl
        · exact h
        · exact absurd hk e
      · rintro ⟨j, hj, hl, hk⟩; exact ⟨j, by omega, hl, hk⟩
    unfold met
    by_cases hm : Met L i k
    · rw [if_pos hm, if_pos (h.2 hm)]
    · rw [if_neg hm, if_neg (fun h' => hm (h.1 h'))]

/-- How often a triangle covers a place of the board. -/
def cnt (a b c : C3) (k : Nat) : Int := if may3 a b c = true ∧ Cov a b c (16 * ((k % 64 : Nat) : Int) + 8) (16 * ((k / 64 : Nat) : Int) + 8) then 1 else 0
theorem met_cnt (a b c : C3) {k : Nat} (hk : k < 4096) : met (CL a b c 64 64) (CL a b c 64 64).length k = cnt a b c k := by
  have hk1 : ((k / 64 : Nat) : Int) * 64 + ((k % 64 : Nat) : Int) = (k : Int) := by omega
  have h : Met (CL a b c 64 64) (CL a b c 64 64).length k ↔ (may3 a b c = true ∧ Cov a b c (16 * ((k % 64 : Nat) : Int) + 8) (16 * ((k / 64 : Nat) : Int) + 8)) := by
    constructor
    · rintro ⟨j, _, hj, hp⟩
      have hmem : (CL a b c 64 64).getD j (0, 0, 0) ∈ CL a b c 64 64 := by
        rw [List.getD_eq_getElem?_getD, List.getElem?_eq_getElem hj]; exact List.getElem_mem hj
      have hb := CL64_bd hmem
      generalize (CL a b c 64 64).getD j (0, 0, 0) = q at hp hb
      unfold pos3 at hp
      have e1 : q.1 = ((k % 64 : Nat) : Int) := by omega
      have e2 : q.2.1 = ((k / 64 : Nat) : Int) := by omega
      rw [e1, e2] at hb
      exact ⟨hb.2.2.2.2.1, hb.2.2.2.2.2⟩
    · rintro ⟨hm, hc⟩
      obtain ⟨z, hz⟩ := CL64_mem hm (by omega) (by omega) hc
      obtain ⟨j, hj, e⟩ := List.mem_iff_getElem.1 hz
      refine ⟨j, hj, hj, ?_⟩
      rw [List.getD_eq_getElem?_getD, List.getElem?_eq_getElem hj, e]
      exact hk1
  unfold met cnt
  by_cases hm : Met (CL a b c 64 64) (CL a b c 64 64).length k
  · rw [if_pos hm, if_pos (h.1 hm)]
  · rw [if_neg hm, if_neg (fun h' => hm (h.2 h'))]
end Go.Proofs.Ytmpnojgciaoghaa
