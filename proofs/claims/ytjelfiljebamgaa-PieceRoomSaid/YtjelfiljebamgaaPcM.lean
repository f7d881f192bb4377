/-
  The document's reader (chapter 5) in memory: its short calls.
-/
import Derived.Test.YtjelfiljebamgaaPcL
namespace Go.Proofs.Ytjelfiljebamgaa
open Go.RowKit Go.Shelf
set_option linter.unusedVariables false
set_option linter.unusedSimpArgs false
attribute [local go_sem] Oper.semAt_some

set_option maxRecDepth 100000 in
theorem ruint05_any (p : Nat) (v : Value) (L : List Int) (a : Nat) (lost : Bool) (W : World) (h : RrB W p v L a lost) (hL : L.length ≤ 1000000) :
    Calls Try.prog 55 #[wp p] W fun e w' => e = .returned (.int .u64 (rU 18446744073709551615 (L.drop a) lost).1) ∧ Took05 p v L (rU 18446744073709551615 (L.drop a) lost) W w' := by
  have HU := Lib.hid (upto05_any p 18446744073709551615 18446744073709551615 v L a lost W h rfl hL)
  clear h
  generalize rU 18446744073709551615 (L.drop a) lost = R at HU ⊢
  go_enter Try.func55, Try.ntmps55
  go_wp2_with fail
  refine HU.out.mono ?_
  rintro e w' ⟨rfl, ht⟩
  go_wp2_with fail
  go_ret
  exact ⟨rfl, ht⟩
set_option maxRecDepth 100000 in
theorem rsmall05_any (p m : Nat) (v : Value) (L : List Int) (a : Nat) (lost : Bool) (W : World) (h : RrB W p v L a lost) (hm : m ≤ 1000000000000) (hL : L.length ≤ 1000000) :
    Calls Try.prog 56 #[wp p, .int .i64 m] W fun e w' => e = .returned (.int .i64 (rU m (L.drop a) lost).1) ∧ Took05 p v L (rU m (L.drop a) lost) W w' := by
  have HU := Lib.hid (upto05_any p m m v L a lost W h rfl hL)
  have hle := rU_le m (L.drop a) lost
  clear h
  generalize rU m (L.drop a) lost = R at HU hle ⊢
  obtain ⟨r, hr⟩ : ∃ r, Hid (R.1 = r) := ⟨_, rfl⟩
  rw [hr.out] at HU hle ⊢
  have hm0 : ¬ ((m : Int) < 0) := by omega
  have hd : decide ((m : Int) < 0) = false := decide_eq_false hm0
  go_enter Try.func56, Try.ntmps56
  go_wp2_with fail
  refine HU.out.mono ?_
  rintro e w' ⟨rfl, ht⟩
  go_wp2_with fail
  go_ret
  exact ⟨rfl, ht⟩
set_option maxRecDepth 100000 in
theorem rend05_any (p : Nat) (v : Value) (L : List Int) (a : Nat) (lost : Bool) (W : World) (h : RrB W p v L a lost) (hL : L.length ≤ 1000000) :
    Calls Try.prog 58 #[wp p] W fun e w' => e = .returned (.int .i64 (rE (L.drop a) lost)) ∧ Later W w' := by
  have c0 : W.cell? ⟨p, 0, none⟩ = some v := h.cell 0
  have c1 : W.cell? ⟨p, 1, none⟩ = some (.int .i64 a) := h.cell 1
  have c2 : W.cell? ⟨p, 2, none⟩ = some (.bool lost) := h.cell 2
  have hle := h.le
  obtain ⟨ao, cap, rfl⟩ := bytV_form h.val
  clear h
  cases lost with
  | true =>
    rw [show rE (L.drop a) true = 50 from by unfold rE; rw [if_pos (.inl rfl)]]
    go_enter Try.func58, Try.ntmps58
    go_wp2_with fail
    go_quiet (fail)
    go_wp2_with fail
    go_ret
    exact ⟨rfl, (Later.refl _).drewN _⟩
  | false =>
    obtain ⟨n, hn⟩ : ∃ n, Hid (L.length = n) := ⟨_, rfl⟩
    by_cases hl : a < L.length
    · rw [show rE (L.drop a) false = 50 from by unfold rE; rw [if_pos (.inr (by rw [List.length_drop]; omega))]]
      rw [hn.out] at c0 hl
      have hd : decide ((a : Int) < (n : Int)) = true := decide_eq_true (by omega)
      go_enter Try.func58, Try.ntmps58
      go_wp2_with fail
      go_quiet (fail)
      go_wp2_with fail
      go_ret
      exact ⟨rfl, (Later.refl _).drewN _⟩
    · rw [show rE (L.drop a) false = 0 from by unfold rE; rw [if_neg (by rw [List.length_drop]; simp; omega)]]
      rw [hn.out] at c0 hl
      have hd : decide ((a : Int) < (n : Int)) = false := decide_eq_false (by omega)
      go_enter Try.func58, Try.ntmps58
      go_wp2_with fail
      go_quiet (fail)
      go_wp2_with fail
      go_ret
      exact ⟨rfl, (Later.refl _).drewN _⟩
end Go.Proofs.Ytjelfiljebamgaa
