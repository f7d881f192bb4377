/-
  Chapter 23, plain law: in which order, and how often, nodes are heard makes no difference.
-/
import Derived.Test.YtaaohfocegnlkaaBtJ
namespace Go.Proofs.Ytaaohfocegnlkaa
open Go.RowKit Go.Shelf
set_option linter.unusedVariables false
set_option linter.unusedSimpArgs false

theorem hdG_at (g : Nat → Int) (x : Int) (k : Nat) : hdG g x k = if (0 ≤ x ∧ x < g 1 ∧ x ≠ g 0) ∧ k = 4 + x.toNat then g 3 else g k := by
  unfold hdG
  by_cases h : 0 ≤ x ∧ x < g 1 ∧ x ≠ g 0
  · rw [qd_is h.1 h.2.1 h.2.2]
    by_cases e : k = 4 + x.toNat
    · rw [if_pos (show (0 ≤ x ∧ x < g 1 ∧ x ≠ g 0) ∧ k = 4 + x.toNat from ⟨h, e⟩)]
      show (if k = 4 + x.toNat then g 3 else g k) = g 3
      rw [if_pos e]
    · rw [if_neg (show ¬ ((0 ≤ x ∧ x < g 1 ∧ x ≠ g 0) ∧ k = 4 + x.toNat) from fun h2 => e h2.2)]
      show (if k = 4 + x.toNat then g 3 else g k) = g k
      rw [if_neg e]
  · rw [qd_no h, if_neg (show ¬ ((none : Option (Int × Int)).isSome = true) from by simp), if_neg (show ¬ ((0 ≤ x ∧ x < g 1 ∧ x ≠ g 0) ∧ k = 4 + x.toNat) from fun h2 => h h2.1)]
def Heard (g : Nat → Int) (A : List Int) (k : Nat) : Prop := ∃ x ∈ A, (0 ≤ x ∧ x < g 1 ∧ x ≠ g 0) ∧ k = 4 + x.toNat
theorem fold_at (A : List Int) : ∀ (g : Nat → Int) (k : Nat), (Heard g A k → A.foldl hdG g k = g 3) ∧ (¬ Heard g A k → A.foldl hdG g k = g k) := by
  induction A with
  | nil =>
    intro g k
    refine ⟨?_, fun _ => rfl⟩
    rintro ⟨x, hx, _⟩; cases hx
  | cons x A ih =>
    intro g k
    rw [List.foldl_cons]
    have h0 := hdG_lo g x (k := 0) (by omega)
    have h1 := hdG_lo g x (k := 1) (by omega)
    have h3 := hdG_lo g x (k := 3) (by omega)
    have hH : Heard (hdG g x) A k ↔ Heard g A k := by unfold Heard; rw [h0, h1]
    have i := ih (hdG g x) k
    rw [hH, h3, hdG_at] at i
    by_cases hA : Heard g A k
    · have hc : Heard g (x :: A) k := by obtain ⟨y, hy, h⟩ := hA; exact ⟨y, List.mem_cons_of_mem _ hy, h⟩
      exact ⟨fun _ => i.1 hA, fun h => absurd hc h⟩
    · by_cases hx : (0 ≤ x ∧ x < g 1 ∧ x ≠ g 0) ∧ k = 4 + x.toNat
      · rw [if_pos hx] at i
        exact ⟨fun _ => i.2 hA, fun h => absurd ⟨x, by simp, hx⟩ h⟩
      · rw [if_neg hx] at i
        refine ⟨?_, fun _ => i.2 hA⟩
        rintro ⟨y, hy, h⟩
        rw [List.mem_cons] at hy
        rcases hy with rfl | hy
        · exact absurd h hx
        · exact absurd ⟨y, hy, h⟩ hA
theorem fold_same {A B : List Int} (h : ∀ x, x ∈ A ↔ x ∈ B) (g : Nat → Int) : A.foldl hdG g = B.foldl hdG g := by
  funext k
  have hH : Heard g A k ↔ Heard g B k := by unfold Heard; simp only [h]
  by_cases hA : Heard g A k
  · rw [(fold_at A g k).1 hA, (fold_at B g k).1 (hH.1 hA)]
  · rw [(fold_at A g k).2 hA, (fold_at B g k).2 (fun h2 => hA (hH.2 h2))]
theorem fold_lo (A : List Int) : ∀ (g : Nat → Int) {k : Nat} (hk : k < 4), A.foldl hdG g k = g k := by
  induction A with
  | nil => intro g k _; rfl
  | cons x A ih => intro g k hk; rw [List.foldl_cons, ih _ hk, hdG_lo g x hk]
theorem take_snocI {L : List Int} {i : Nat} (hi : i < L.length) : L.take (i + 1) = L.take i ++ [L.getD i 0] := by
  rw [List.take_add_one, List.getD_eq_getElem?_getD, List.getElem?_eq_getElem hi]; rfl
theorem fold_snoc {L : List Int} {i : Nat} (hi : i < L.length) (g : Nat → Int) : (L.take (i + 1)).foldl hdG g = hdG ((L.take i).foldl hdG g) (L.getD i 0) := by
  rw [take_snocI hi, List.foldl_append]; rfl
theorem fold_rev {L : List Int} {i : Nat} (hi : i < L.length) (g : Nat → Int) : (L.reverse.take (i + 1)).foldl hdG g = hdG ((L.reverse.take i).foldl hdG g) (L.getD (L.length - 1 - i) 0) := by
  rw [fold_snoc (by rw [List.length_reverse]; exact hi)]
  congr 1
  rw [List.getD_eq_getElem?_getD, List.getD_eq_getElem?_getD, List.getElem?_reverse hi]
end Go.Proofs.Ytaaohfocegnlkaa
