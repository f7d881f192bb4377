/-
  Chapter 5: a reader's other calls.
-/
import Derived.Test.YtjelfiljebamgaaPkS
namespace Go.Proofs.Ytjelfiljebamgaa
open Go.RowKit Go.Shelf
set_option linter.unusedVariables false
set_option linter.unusedSimpArgs false
attribute [local go_sem] Oper.semAt_some

theorem ruint_any (p : Nat) (v : Value) (L : List Int) (lost : Bool) (W : World) (h : RdB W p v L lost) (hL : L.length ≤ 1000000) :
    Calls Try.prog 51 #[wp p] W fun e w' => e = .returned (.int .u64 (rU 18446744073709551615 L lost).1) ∧ Took p (rU 18446744073709551615 L lost) W w' := by
  have HU := Lib.hid (upto_any p 18446744073709551615 18446744073709551615 v L lost W h (by decide) hL)
  obtain ⟨R, hR⟩ : ∃ R, rU 18446744073709551615 L lost = R := ⟨_, rfl⟩
  rw [hR] at HU ⊢
  clear hR h
  go_enter Try.func51, Try.ntmps51
  go_wp2_with fail
  refine HU.out.mono ?_
  rintro e w1 ⟨rfl, hT⟩
  replace hT := Lib.hid hT
  go_wp2_with fail
  go_ret
  exact ⟨rfl, hT.out⟩
theorem rU_le (m : Nat) (L : List Int) (lost : Bool) : (rU m L lost).1 ≤ m := by
  unfold rU
  split
  · exact Nat.zero_le _
  · split
    · split
      · assumption
      · exact Nat.zero_le _
    · exact Nat.zero_le _
theorem rsmall_any (p m : Nat) (v : Value) (L : List Int) (lost : Bool) (W : World) (h : RdB W p v L lost) (hm : m ≤ 1000000000000) (hL : L.length ≤ 1000000) :
    Calls Try.prog 52 #[wp p, .int .i64 m] W fun e w' => e = .returned (.int .i64 (rU m L lost).1) ∧ Took p (rU m L lost) W w' := by
  have HU := Lib.hid (upto_any p m m v L lost W h rfl hL)
  have hle := rU_le m L lost
  obtain ⟨R, hR⟩ : ∃ R, rU m L lost = R := ⟨_, rfl⟩
  rw [hR] at HU hle ⊢
  obtain ⟨r0, L1, b1⟩ := R
  obtain ⟨M, hM⟩ : ∃ M : Int, Hid ((m : Int) = M) := ⟨_, rfl⟩
  obtain ⟨N, hN⟩ : ∃ M : Int, Hid ((r0 : Int) = M) := ⟨_, rfl⟩
  have hle : r0 ≤ m := hle
  have hMN : 0 ≤ N ∧ N ≤ M ∧ M ≤ 1000000000000 := by have := hM.out; have := hN.out; omega
  rw [show (((r0, L1, b1) : Nat × List Int × Bool).1 : Int) = (r0 : Int) from rfl, hM.out] at HU
  rw [show (((r0, L1, b1) : Nat × List Int × Bool).1 : Int) = (r0 : Int) from rfl, hM.out]
  rw [hN.out] at HU ⊢
  clear hR h hle hm
  go_enter Try.func52, Try.ntmps52
  go_wp2_with fail
  refine HU.out.mono ?_
  rintro e w1 ⟨rfl, hT⟩
  replace hT := Lib.hid hT
  go_wp2_with fail
  go_ret
  exact ⟨rfl, hT.out⟩
def rE (L : List Int) (lost : Bool) : Int := if lost = true ∨ 0 < L.length then 50 else 0
theorem rend_any (p : Nat) (v : Value) (L : List Int) (lost : Bool) (W : World) (h : RdB W p v L lost) :
    Calls Try.prog 54 #[wp p] W fun e w' => e = .returned (.int .i64 (rE L lost)) ∧ W = w' := by
  have c0 : W.cell? ⟨p, 0, none⟩ = some v := h.cell 0
  have c1 : W.cell? ⟨p, 1, none⟩ = some (.bool true) := h.cell 1
  have c2 : W.cell? ⟨p, 2, none⟩ = some (.bool lost) := h.cell 2
  obtain ⟨ao, cap, rfl⟩ := bytV_form' h.val
  clear h
  cases lost with
  | true =>
    rw [show rE L true = 50 from by unfold rE; rw [if_pos (.inl rfl)]]
    go_enter Try.func54, Try.ntmps54
    go_wp2_with fail
    go_ret
    exact ⟨rfl, rfl⟩
  | false =>
    by_cases hl : 0 < L.length
    · rw [show rE L false = 50 from by unfold rE; rw [if_pos (.inr hl)]]
      obtain ⟨n, hn⟩ : ∃ n, Hid (L.length = n) := ⟨_, rfl⟩
      rw [hn.out] at c0 hl
      have hl2 : 0 < (n : Int) := by omega
      go_enter Try.func54, Try.ntmps54
      go_wp2_with fail
      go_ret
      exact ⟨rfl, rfl⟩
    · rw [show rE L false = 0 from by unfold rE; rw [if_neg (fun h => h.elim (fun e => by cases e) hl)]]
      have hl0 : L.length = 0 := by omega
      rw [hl0] at c0
      clear hl hl0
      go_enter Try.func54, Try.ntmps54
      go_wp2_with fail
      go_ret
      exact ⟨rfl, rfl⟩
theorem newReader_any (u : Value) (L : List Int) (W : World) (hu : BytV W u L) (hL : L.length ≤ 1000000) :
    Calls Try.prog 50 #[u] W fun e w' => ∃ p v, e = .returned (wp p) ∧ RdB w' p v L false ∧ W.heap.size ≤ p ∧ Later W w' := by
  have HC := Lib.hid (clone_any u L W hu hL)
  have hb := hu.1
  clear hu
  go_enter Try.func50, Try.ntmps50
  go_wp2_with fail
  refine HC.out.mono ?_
  rintro e w1 ⟨v, rfl, hr, hl⟩
  obtain ⟨h1, h2⟩ := bytV_of_row hb hr
  have hlt := h1.lt
  have hty := Lib.hid (U8b.of_row hr)
  obtain ⟨ao, cap, rfl⟩ := bytV_form' h1
  replace h1 := Lib.hid h1
  clear hr
  go_wp2_with fail
  go_ret
  exact ⟨_, _, rfl, ⟨heap_alloc_new _ _, h1.out.later ((Later.refl _).alloc _), hlt.mono (fun g hg => by have hg : g < w1.heap.size := hg; omega), hty.out.later ((Later.refl _).alloc _)⟩, hl.size, hl.alloc _⟩
end Go.Proofs.Ytjelfiljebamgaa
