/-
  Chapter 23: a node is heard.
-/
import Derived.BigRegion
import Derived.Test.YtaaohfocegnlkaaBtE
namespace Go.Proofs.Ytaaohfocegnlkaa
open Go.RowKit Go.Shelf
set_option linter.unusedVariables false
set_option linter.unusedSimpArgs false
attribute [local go_sem] Oper.semAt_some

theorem mem_ol (g : Nat → Int) (x : Int × Int) : ∀ N, x ∈ ol g N ↔ ∃ k : Nat, k < N ∧ (k : Int) ≠ g 0 ∧ x = ((k : Int), qt g k)
  | 0 => by simp [ol]
  | N + 1 => by
    unfold ol
    rw [List.mem_append, mem_ol g x N]
    constructor
    · rintro (⟨k, h1, h2, h3⟩ | h)
      · exact ⟨k, by omega, h2, h3⟩
      · by_cases e : (N : Int) = g 0
        · rw [if_pos e] at h; cases h
        · rw [if_neg e, List.mem_singleton] at h; exact ⟨N, by omega, e, h⟩
    · rintro ⟨k, h1, h2, h3⟩
      rcases (show k < N ∨ k = N by omega) with hk | rfl
      · exact .inl ⟨k, hk, h2, h3⟩
      · refine .inr ?_
        rw [if_neg h2, List.mem_singleton]; exact h3
theorem qd_iff {g : Nat → Int} {n : Int} {x : Int × Int} (h : qd g n = some x) : 0 ≤ n ∧ n < g 1 ∧ n ≠ g 0 ∧ x = (n, qt g n.toNat) := by
  unfold qd at h
  have h1 := List.mem_of_find?_eq_some h
  have h2 := List.find?_some h
  obtain ⟨k, hk, hs, rfl⟩ := (mem_ol _ _ _).1 h1
  have h3 : (k : Int) = n := by simpa using h2
  subst h3
  exact ⟨by omega, by omega, hs, by simp⟩
theorem qd_is {g : Nat → Int} {n : Int} (h0 : 0 ≤ n) (h1 : n < g 1) (h2 : n ≠ g 0) : qd g n = some (n, qt g n.toNat) := by
  cases hq : qd g n with
  | some x => rw [(qd_iff hq).2.2.2]
  | none =>
    exfalso
    unfold qd at hq
    rw [List.find?_eq_none] at hq
    have := hq (n, qt g n.toNat) ((mem_ol _ _ _).2 ⟨n.toNat, by omega, by omega, by rw [show ((n.toNat : Nat) : Int) = n by omega]⟩)
    simp at this
theorem qd_no {g : Nat → Int} {n : Int} (h : ¬ (0 ≤ n ∧ n < g 1 ∧ n ≠ g 0)) : qd g n = none := by
  cases hq : qd g n with
  | none => rfl
  | some x => have := qd_iff hq; exact absurd ⟨this.1, this.2.1, this.2.2.1⟩ h

def hdG (g : Nat → Int) (n : Int) : Nat → Int := if (qd g n).isSome then fun k => if k = 4 + n.toNat then g 3 else g k else g
def hdB (g : Nat → Int) (n : Int) : Bool := match qd g n with | some x => decide (g 2 ≤ x.2) | none => false
def hdE (g : Nat → Int) (n : Int) : Int := if (qd g n).isSome then 0 else 230

set_option maxRecDepth 100000 in
set_option maxHeartbeats 1000000 in
theorem heard_any (b : Nat) (g : Nat → Int) (n : Int) (W : World) (h : WB W b g) (hg : 1 ≤ g 1 ∧ g 1 ≤ 64) :
    Calls Try.prog 11 #[wp b, .int .i64 n] W fun e w' => e = .returned (.tuple #[.bool (hdB g n), .int .i64 (hdE g n)]) ∧ WB w' b (hdG g n) ∧ W.grownBy w' (some b) := by
  have HN := none_any b g W h
  rw [show (g 1 == 0) = false from by simp; omega] at HN
  have HQ := Lib.hid (fun w h => quiet_any b g n w h ⟨by omega, hg.2⟩)
  cases hq : qd g n with
  | none =>
    have e1 : hdB g n = false := by unfold hdB; rw [hq]
    have e2 : hdE g n = 230 := by unfold hdE; rw [hq]; rfl
    have e3 : hdG g n = g := by unfold hdG; rw [hq]; rfl
    rw [e1, e2, e3]
    rw [hq, show ((Option.map (fun x : Int × Int => x.2) none).getD (0 : Int)) = 0 from rfl, show (none : Option (Int × Int)).isSome = false from rfl] at HQ
    clear e1 e2 e3
    go_enter Try.func11, Try.ntmps11
    go_wp2_with fail
    refine HN.mono ?_
    rintro e w1 ⟨rfl, h1⟩
    have hw1 : WB w1 b g := Row.later h h1
    go_wp2_with fail
    refine (HQ.out _ hw1).mono ?_
    rintro e w2 ⟨rfl, h2⟩
    have hw2 : WB w2 b g := Row.later hw1 h2
    have hl := h1.trans h2
    clear h1 h2 HN HQ hw1
    go_wp2_with fail
    go_ret2
    exact ⟨rfl, hw2, grown_some hl.grown⟩
  | some x =>
    obtain ⟨n1, n2, n3, n4⟩ := qd_iff hq
    obtain ⟨k, rfl⟩ : ∃ k : Nat, n = k := ⟨n.toNat, by omega⟩
    obtain ⟨q, hqq⟩ : ∃ q, Hid (x.2 = q) := ⟨_, rfl⟩
    have e1 : hdB g k = decide (g 2 ≤ q) := by unfold hdB; rw [hq]; dsimp only; rw [hqq.out]
    have e2 : hdE g k = 0 := by unfold hdE; rw [hq]; rfl
    have e3 : hdG g k = fun j => if j = 4 + k then g 3 else g j := by unfold hdG; rw [hq]; rfl
    rw [e1, e2, e3]
    rw [hq, show (((some x).map (fun x : Int × Int => x.2)).getD (0 : Int)) = q from hqq.out, show (some x).isSome = true from rfl] at HQ
    clear e1 e2 e3 n4
    go_enter Try.func11, Try.ntmps11
    go_wp2_with fail
    refine HN.mono ?_
    rintro e w1 ⟨rfl, h1⟩
    have hw1 : WB w1 b g := Row.later h h1
    go_wp2_with fail
    refine (HQ.out _ hw1).mono ?_
    rintro e w2 ⟨rfl, h2⟩
    have hw2 : WB w2 b g := Row.later hw1 h2
    have hl := h1.trans h2
    clear h1 h2 HN HQ hw1 hqq hq
    have c3 := hw2.cell (k := 3) (by omega)
    have c4 := hw2.cell (k := 4 + k) (by omega)
    have f4 := hw2.frozen (4 + k)
    have c2 := hw2.cell (k := 2) (by omega)
    have hk64 : (k : Int) < 64 := by omega
    have hk64' : k < 64 := by omega
    go_upto_region 6 with fail
    go_region
    obtain ⟨X2, hX2⟩ : ∃ X, X = (w2.setCell ⟨b, 4 + k, none⟩ (.int .i64 (g 3))).drew := ⟨_, rfl⟩
    rw [← hX2]
    have hw3 : WB X2 b (fun j => if j = 4 + k then g 3 else g j) := by rw [hX2]; exact hw2.set (by omega) _
    have hgr : W.grownBy X2 (some b) := by rw [hX2]; exact grown_after (grown_set (grown_some hl.grown)) (drew_later _)
    have c2' := hw3.cell (k := 2) (by omega)
    clear hX2
    go_wp2_with fail
    go_ret2
    exact ⟨rfl, hw3, hgr⟩
end Go.Proofs.Ytaaohfocegnlkaa
