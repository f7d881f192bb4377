/-
  Chapter 23: the program's watch and the document's, in plain numbers: they say the same.
-/
import Derived.Test.YtaaohfocegnlkaaBtW
import Derived.Test.YtaaohfocegnlkaaBtN
namespace Go.Proofs.Ytaaohfocegnlkaa
open Go.RowKit Go.Shelf
set_option linter.unusedVariables false
set_option linter.unusedSimpArgs false

theorem sel_eq (P : Int → Bool) (g : Nat → Int) : ∀ N, selP P (ol g N) = ((List.range N).filter (fun k : Nat => decide ((k : Int) ≠ g 0) && P (qt g k))).map (fun k : Nat => (k : Int))
  | 0 => rfl
  | N + 1 => by
    have ih := sel_eq P g N
    rw [List.range_succ, List.filter_append, List.map_append, ← ih]
    rw [show ol g (N + 1) = ol g N ++ (if (N : Int) = g 0 then [] else [((N : Int), qt g N)]) from rfl]
    unfold selP
    by_cases e : (N : Int) = g 0
    · rw [if_pos e, List.filter_cons, decide_eq_false (show ¬ (N : Int) ≠ g 0 from fun h => h e)]; simp
    · rw [if_neg e, List.filter_append, List.map_append, List.filter_cons, List.filter_cons, decide_eq_true (show (N : Int) ≠ g 0 from e)]
      cases P (qt g N) <;> rfl
def lastG (g : Nat → Int) (k : Nat) : Int := g (4 + k)
def badG (g : Nat → Int) (k : Nat) : Bool := isB (g 1).toNat (g 0) k && decide (g 2 ≤ g 3 - g (4 + k))
structure Inv (N : Nat) (s p : Int) (g : Nat → Int) (i : Nat) : Prop where
  e0 : g 0 = s
  e1 : g 1 = N
  e2 : g 2 = p
  n3 : 0 ≤ g 3 ∧ g 3 ≤ i
  ln : ∀ k : Nat, k < N → 0 ≤ g (4 + k) ∧ g (4 + k) ≤ g 3
section
variable {N : Nat} {s p : Int} {g : Nat → Int} {i : Nat}
theorem Inv.mono (h : Inv N s p g i) {j : Nat} (hij : i ≤ j) : Inv N s p g j := ⟨h.e0, h.e1, h.e2, ⟨h.n3.1, by have := h.n3.2; omega⟩, h.ln⟩
theorem Inv.qt (h : Inv N s p g i) (hi : i ≤ 400) {k : Nat} (hk : k < N) : qt g k = g 3 - g (4 + k) := by
  unfold Go.Proofs.Ytaaohfocegnlkaa.qt
  have := h.n3; have := h.ln k hk
  rw [IntKind.wrap_i64]; omega
theorem Inv.tk (h : Inv N s p g i) : Inv N s p (tk g) (i + 1) :=
  ⟨h.e0, h.e1, h.e2, by have := h.n3; show 0 ≤ g 3 + 1 ∧ g 3 + 1 ≤ _; omega, fun k hk => by
    have := h.ln k hk
    show 0 ≤ Go.Proofs.Ytaaohfocegnlkaa.tk g (4 + k) ∧ Go.Proofs.Ytaaohfocegnlkaa.tk g (4 + k) ≤ g 3 + 1
    unfold Go.Proofs.Ytaaohfocegnlkaa.tk
    rw [if_neg (by omega)]; omega⟩
theorem Inv.hd (h : Inv N s p g i) (x : Int) : Inv N s p (hdG g x) i := by
  refine ⟨by rw [hdG_lo g x (by omega)]; exact h.e0, by rw [hdG_lo g x (by omega)]; exact h.e1, by rw [hdG_lo g x (by omega)]; exact h.e2, by rw [hdG_lo g x (by omega)]; exact h.n3, fun k hk => ?_⟩
  rw [hdG_lo g x (show 3 < 4 by omega), hdG_at]
  have := h.ln k hk; have := h.n3
  split <;> omega
theorem Inv.badG (h : Inv N s p g i) (k : Nat) : badG g k = (isB N s k && decide (p ≤ g 3 - g (4 + k))) := by
  unfold Go.Proofs.Ytaaohfocegnlkaa.badG
  rw [h.e1, h.e0, h.e2, Int.toNat_natCast]
theorem isB_nat {k : Nat} (hk : k < N) : isB N s k = decide ((k : Int) ≠ s) := by
  unfold isB; congr 1; exact propext ⟨fun h => h.2.2, fun h => ⟨by omega, by omega, h⟩⟩
theorem Inv.rc (h : Inv N s p g i) (hi : i < 400) {k : Nat} (hk : k < N) : rc N s p (g 3 + 1) (lastG g) (Go.Proofs.Ytaaohfocegnlkaa.badG g) k = (decide ((k : Int) ≠ s) && decide (Go.Proofs.Ytaaohfocegnlkaa.qt (Go.Proofs.Ytaaohfocegnlkaa.tk g) k = p)) := by
  have hq := h.tk.qt (by omega) hk
  have e3 : Go.Proofs.Ytaaohfocegnlkaa.tk g 3 = g 3 + 1 := rfl
  have e4 : Go.Proofs.Ytaaohfocegnlkaa.tk g (4 + k) = g (4 + k) := by unfold Go.Proofs.Ytaaohfocegnlkaa.tk; rw [if_neg (by omega)]
  rw [e3, e4] at hq
  rw [hq]
  unfold Go.Proofs.Ytaaohfocegnlkaa.rc lastG
  rw [h.badG, isB_nat hk]
  by_cases e : (k : Int) = s
  · rw [decide_eq_false (show ¬ (k : Int) ≠ s from fun h => h e)]; rfl
  · rw [decide_eq_true (show (k : Int) ≠ s from e)]
    by_cases e2 : g 3 + 1 - g (4 + k) = p
    · rw [decide_eq_true e2, decide_eq_false (show ¬ p ≤ g 3 - g (4 + k) by omega), decide_eq_true (show g 3 + 1 = g (4 + k) + p by omega)]; rfl
    · rw [decide_eq_false e2, decide_eq_false (show ¬ g 3 + 1 = g (4 + k) + p by omega), Bool.and_false]
theorem Inv.tick (h : Inv N s p g i) (hi : i < 400) : tkL g = rtL N s p (g 3 + 1) (lastG g) (Go.Proofs.Ytaaohfocegnlkaa.badG g) N := by
  unfold tkL rtL
  rw [sel_eq, h.e1, Int.toNat_natCast]
  congr 1
  refine List.filter_congr fun k hk => ?_
  rw [h.rc hi (List.mem_range.1 hk)]
  have e0 : Go.Proofs.Ytaaohfocegnlkaa.tk g 0 = s := h.e0
  rw [e0, h.e2]
theorem Inv.tickB (h : Inv N s p g i) (hi : i < 400) {k : Nat} (hk : k < N) : rtB N s p (g 3 + 1) (lastG g) (Go.Proofs.Ytaaohfocegnlkaa.badG g) N k = Go.Proofs.Ytaaohfocegnlkaa.badG (Go.Proofs.Ytaaohfocegnlkaa.tk g) k := by
  unfold rtB
  rw [h.rc hi hk, h.tk.badG, h.badG, decide_eq_true hk, isB_nat hk]
  have hq := h.tk.qt (by omega) hk
  have e3 : Go.Proofs.Ytaaohfocegnlkaa.tk g 3 = g 3 + 1 := rfl
  have e4 : Go.Proofs.Ytaaohfocegnlkaa.tk g (4 + k) = g (4 + k) := by unfold Go.Proofs.Ytaaohfocegnlkaa.tk; rw [if_neg (by omega)]
  rw [e3, e4] at hq
  rw [hq, e3, e4]
  cases decide ((k : Int) ≠ s)
  · rfl
  · by_cases e2 : p ≤ g 3 - g (4 + k)
    · rw [decide_eq_true e2, decide_eq_true (show p ≤ g 3 + 1 - g (4 + k) by omega)]; rfl
    · by_cases e3 : g 3 + 1 - g (4 + k) = p
      · rw [decide_eq_false e2, decide_eq_true e3, decide_eq_true (show p ≤ g 3 + 1 - g (4 + k) by omega)]; rfl
      · rw [decide_eq_false e2, decide_eq_false e3, decide_eq_false (show ¬ p ≤ g 3 + 1 - g (4 + k) by omega)]; rfl
theorem tickL (k : Nat) : lastG (Go.Proofs.Ytaaohfocegnlkaa.tk g) k = lastG g k := by unfold lastG Go.Proofs.Ytaaohfocegnlkaa.tk; rw [if_neg (by omega)]
theorem Inv.sus (h : Inv N s p g i) (hi : i ≤ 400) : sus g = lsL (Go.Proofs.Ytaaohfocegnlkaa.badG g) false N := by
  unfold Go.Proofs.Ytaaohfocegnlkaa.sus lsL
  rw [sel_eq, h.e1, Int.toNat_natCast]
  congr 1
  refine List.filter_congr fun k hk => ?_
  have hk := List.mem_range.1 hk
  rw [h.qt hi hk, h.badG, isB_nat hk, h.e0, h.e2]
  simp
theorem Inv.alv (h : Inv N s p g i) (hi : i ≤ 400) : alvL g = lsL (Go.Proofs.Ytaaohfocegnlkaa.badG g) true N := by
  unfold alvL lsL
  rw [h.e1, Int.toNat_natCast]
  congr 1
  refine List.filter_congr fun k hk => ?_
  have hk := List.mem_range.1 hk
  rw [h.qt hi hk, h.badG, isB_nat hk, h.e0, h.e2]
  by_cases e : (k : Int) = s
  · rw [decide_eq_true e, decide_eq_false (show ¬ (k : Int) ≠ s from fun h => h e)]; rfl
  · rw [decide_eq_false e, decide_eq_true (show (k : Int) ≠ s from e)]
    by_cases e2 : p ≤ g 3 - g (4 + k)
    · rw [decide_eq_true e2, decide_eq_false (show ¬ g 3 - g (4 + k) < p by omega)]; rfl
    · rw [decide_eq_false e2, decide_eq_true (show g 3 - g (4 + k) < p by omega)]; rfl
theorem Inv.isq (h : Inv N s p g i) (x : Int) : (qd g x).isSome = isB N s x ∧ ((qd g x).map (·.2)).getD 0 = (if isB N s x then IntKind.i64.wrap (g 3 - lastG g x.toNat) else 0) := by
  by_cases e : 0 ≤ x ∧ x < g 1 ∧ x ≠ g 0
  · have e' : isB N s x = true := decide_eq_true (by rw [h.e1, h.e0] at e; exact e)
    rw [qd_is e.1 e.2.1 e.2.2, e']; exact ⟨rfl, rfl⟩
  · have e' : isB N s x = false := decide_eq_false (by rw [h.e1, h.e0] at e; exact e)
    rw [qd_no e, e']; exact ⟨rfl, rfl⟩
theorem Inv.hd_no (h : Inv N s p g i) {x : Int} (e : isB N s x = false) : hdB g x = false ∧ hdE g x = 230 ∧ hdG g x = g := by
  have e' : ¬ (0 ≤ x ∧ x < g 1 ∧ x ≠ g 0) := by rw [h.e1, h.e0]; exact of_decide_eq_false e
  unfold hdB hdE hdG
  rw [qd_no e']; exact ⟨rfl, rfl, rfl⟩
theorem Inv.hd_yes (h : Inv N s p g i) (hi : i ≤ 400) {k : Nat} (hk : k < N) (hs : (k : Int) ≠ s) : hdB g k = Go.Proofs.Ytaaohfocegnlkaa.badG g k ∧ hdE g k = 0 := by
  unfold hdB hdE
  rw [qd_is (by omega) (by rw [h.e1]; omega) (by rw [h.e0]; exact hs)]
  refine ⟨?_, rfl⟩
  show decide (g 2 ≤ Go.Proofs.Ytaaohfocegnlkaa.qt g k) = _
  rw [h.qt hi hk, h.badG, isB_nat hk, h.e2, decide_eq_true hs, Bool.true_and]
theorem Inv.hdL (h : Inv N s p g i) {k : Nat} (hk : k < N) (hs : (k : Int) ≠ s) (j : Nat) : (if j = k then g 3 else lastG g j) = lastG (hdG g k) j := by
  unfold lastG
  rw [hdG_at]
  by_cases e : j = k
  · subst e; rw [if_pos rfl, if_pos ⟨⟨by omega, by rw [h.e1]; omega, by rw [h.e0]; exact hs⟩, rfl⟩]
  · rw [if_neg e, if_neg (fun q => e (by have := q.2; omega))]
theorem Inv.hdB (h : Inv N s p g i) (hp : 4 ≤ p) {k : Nat} (hk : k < N) (hs : (k : Int) ≠ s) (j : Nat) : (if j = k then false else Go.Proofs.Ytaaohfocegnlkaa.badG g j) = Go.Proofs.Ytaaohfocegnlkaa.badG (hdG g k) j := by
  rw [(h.hd k).badG, h.badG, hdG_lo g k (show 3 < 4 by omega), hdG_at]
  by_cases e : j = k
  · subst e
    rw [if_pos rfl, if_pos ⟨⟨by omega, by rw [h.e1]; omega, by rw [h.e0]; exact hs⟩, rfl⟩, decide_eq_false (show ¬ p ≤ g 3 - g 3 by omega), Bool.and_false]
  · rw [if_neg e, if_neg (fun q => e (by have := q.2; omega))]
end
theorem inv_new (N : Nat) (s p : Int) : Inv N s p (g0 s N p) 0 := ⟨rfl, rfl, rfl, by show 0 ≤ (0 : Int) ∧ (0 : Int) ≤ _; omega, fun k hk => by
  have e : g0 s N p (4 + k) = 0 := by unfold g0; rw [if_neg (by omega), if_neg (by omega), if_neg (by omega)]
  rw [e]; show 0 ≤ (0 : Int) ∧ (0 : Int) ≤ 0; omega⟩
theorem new_bad0 (N : Nat) {s p : Int} (hp : 4 ≤ p) (k : Nat) : badG (g0 s N p) k = false := by
  rw [(inv_new N s p).badG]
  have e : g0 s N p (4 + k) = 0 := by unfold g0; rw [if_neg (by omega), if_neg (by omega), if_neg (by omega)]
  rw [e, show g0 s N p 3 = 0 from rfl, decide_eq_false (show ¬ p ≤ (0 : Int) - 0 by omega), Bool.and_false]
theorem new_last0 (N : Nat) {s p : Int} (k : Nat) : lastG (g0 s N p) k = 0 := by
  unfold lastG g0; rw [if_neg (by omega), if_neg (by omega), if_neg (by omega)]
end Go.Proofs.Ytaaohfocegnlkaa
