/-
  Chapter 21, plain: what Write writes, Read reads; what Read read, Write writes again.
-/
import Derived.Test.YtjelfiljebamgaaPcG
namespace Go.Proofs.Ytjelfiljebamgaa
open Go.RowKit Go.Shelf
set_option linter.unusedVariables false
set_option linter.unusedSimpArgs false

theorem rU_fm {m n : Nat} (R : List Int) (h : n ≤ m) (hn : n < 18446744073709551616) : rU m (fm n ++ R) false = (n, R, false) := by
  unfold rU
  rw [num_fm R hn]
  simp only [Bool.false_eq_true, if_false, if_pos h, List.drop_left]
theorem rU_ok {m : Nat} {L : List Int} {lost : Bool} (hb : Byt L) (h : (rU m L lost).2.2 = false) : lost = false ∧ L = fm (rU m L lost).1 ++ (rU m L lost).2.1 ∧ (rU m L lost).1 ≤ m := by
  unfold rU at h ⊢
  cases lost with
  | true => simp at h
  | false =>
    simp only [Bool.false_eq_true, if_false] at h ⊢
    cases hn : num L with
    | none => rw [hn] at h; simp at h
    | some p =>
      obtain ⟨n, k⟩ := p
      rw [hn] at h
      simp only at h ⊢
      by_cases hm : n ≤ m
      · rw [if_pos hm]
        obtain ⟨_, hk, R, hR⟩ := num_some hb hn
        refine ⟨trivial, ?_, hm⟩
        show L = fm n ++ L.drop k
        rw [hk, hR, List.drop_left]
      · rw [if_neg hm] at h; simp at h
theorem rT_fm {m : Nat} (D : List Int) (h : D.length ≤ m) (hn : D.length < 18446744073709551616) : rT m (fm D.length ++ D) false = (D, [], false) := by
  unfold rT
  rw [rU_fm D h hn]
  simp
theorem rT_ok {m : Nat} {L : List Int} {lost : Bool} (hb : Byt L) (h : (rT m L lost).2.2 = false) : lost = false ∧ L = fm (rT m L lost).1.length ++ (rT m L lost).1 ++ (rT m L lost).2.1 := by
  unfold rT at h ⊢
  cases lost with
  | true => simp at h
  | false =>
    simp only [Bool.false_eq_true, if_false] at h ⊢
    by_cases hc : (rU m L false).2.2 = true ∨ (rU m L false).2.1.length < (rU m L false).1
    · rw [if_pos hc] at h; simp at h
    · rw [if_neg hc]
      rw [not_or] at hc
      obtain ⟨-, h2, -⟩ := rU_ok hb (Bool.eq_false_iff.2 hc.1)
      refine ⟨trivial, ?_⟩
      show L = fm (List.take (rU m L false).1 (rU m L false).2.1).length ++ List.take (rU m L false).1 (rU m L false).2.1 ++ List.drop (rU m L false).1 (rU m L false).2.1
      rw [List.length_take, Nat.min_eq_left (by omega), List.append_assoc, List.take_append_drop]
      exact h2
/-- What Write writes, Read reads. -/
theorem read_write {id at_ of : Int} {D : List Int} (h : May id at_ of D.length) (hid : 0 ≤ id) :
    RdOk (wrL id at_ of D) ∧ ((rd1 (wrL id at_ of D)).1 : Int) = id ∧ ((rd3 (wrL id at_ of D)).1 : Int) = at_ ∧ ((rd2 (wrL id at_ of D)).1 : Int) + 1 = of ∧ (rd4 (wrL id at_ of D)).1 = D := by
  obtain ⟨h1, h2, h3, h4, h5, h6⟩ := _root_.id h
  have e0 : wrL id at_ of D = fm id.toNat ++ (fm (of - 1).toNat ++ (fm at_.toNat ++ (fm D.length ++ D))) := by
    unfold wrL; simp only [List.append_assoc]
  have e1 : rd1 (wrL id at_ of D) = (id.toNat, fm (of - 1).toNat ++ (fm at_.toNat ++ (fm D.length ++ D)), false) := by
    unfold rd1; rw [e0]; exact rU_fm _ (by omega) (by omega)
  have e2 : rd2 (wrL id at_ of D) = ((of - 1).toNat, fm at_.toNat ++ (fm D.length ++ D), false) := by
    unfold rd2; rw [e1]; exact rU_fm _ (by omega) (by omega)
  have e3 : rd3 (wrL id at_ of D) = (at_.toNat, fm D.length ++ D, false) := by
    unfold rd3; rw [e2]; exact rU_fm _ (by omega) (by omega)
  have e4 : rd4 (wrL id at_ of D) = (D, [], false) := by
    unfold rd4; rw [e3]; exact rT_fm _ h6 (by omega)
  have i1 : ((id.toNat : Nat) : Int) = id := by omega
  have i2 : ((at_.toNat : Nat) : Int) = at_ := by omega
  have i3 : (((of - 1).toNat : Nat) : Int) + 1 = of := by omega
  refine ⟨?_, ?_, ?_, ?_, ?_⟩
  · unfold RdOk
    rw [e1, e2, e3, e4]
    refine ⟨rfl, ?_⟩
    show May ((id.toNat : Nat) : Int) ((at_.toNat : Nat) : Int) ((((of - 1).toNat : Nat) : Int) + 1) D.length
    rw [i1, i2, i3]; exact h
  · rw [e1]; exact i1
  · rw [e3]; exact i2
  · rw [e2]; exact i3
  · rw [e4]
/-- What Read read, Write writes again. -/
theorem write_read {b : List Int} (hb : Byt b) (h : RdOk b) : wrL (rd1 b).1 (rd3 b).1 (((rd2 b).1 : Int) + 1) (rd4 b).1 = b := by
  have he : (rd4 b).2.2 = false ∧ (rd4 b).2.1 = [] := by
    have := h.1
    unfold rE at this
    by_cases hc : (rd4 b).2.2 = true ∨ 0 < (rd4 b).2.1.length
    · rw [if_pos hc] at this; cases this
    · rw [not_or] at hc
      exact ⟨Bool.eq_false_iff.2 hc.1, List.length_eq_zero_iff.1 (by omega)⟩
  have b1 : Byt (rd1 b).2.1 := rU_byt _ _ _ hb
  have b2 : Byt (rd2 b).2.1 := rU_byt _ _ _ b1
  have b3 : Byt (rd3 b).2.1 := rU_byt _ _ _ b2
  obtain ⟨l3, e4⟩ := rT_ok b3 he.1
  obtain ⟨l2, e3, -⟩ := rU_ok b2 l3
  obtain ⟨l1, e2, -⟩ := rU_ok b1 l2
  obtain ⟨-, e1, -⟩ := rU_ok hb l1
  have e4' : (rd3 b).2.1 = fm (rd4 b).1.length ++ (rd4 b).1 := by
    refine e4.trans ?_
    show fm (rd4 b).1.length ++ (rd4 b).1 ++ (rd4 b).2.1 = _
    rw [he.2, List.append_nil]
  have e3' : (rd2 b).2.1 = fm (rd3 b).1 ++ (rd3 b).2.1 := e3
  have e2' : (rd1 b).2.1 = fm (rd2 b).1 ++ (rd2 b).2.1 := e2
  have e1' : b = fm (rd1 b).1 ++ (rd1 b).2.1 := e1
  have t2 : (((rd2 b).1 : Int) + 1 - 1).toNat = (rd2 b).1 := by omega
  have hw : wrL (rd1 b).1 (rd3 b).1 (((rd2 b).1 : Int) + 1) (rd4 b).1 = fm (rd1 b).1 ++ (rd1 b).2.1 := by
    unfold wrL
    rw [t2, Int.toNat_natCast, Int.toNat_natCast, e2', e3', e4']
    simp only [List.append_assoc]
  exact hw.trans e1'.symm
theorem fmF_length : ∀ (k n : Nat), n < 128 ^ k → 0 < k → (fmF k n).length ≤ k
  | 0, n, h, h0 => by omega
  | k + 1, n, h, h0 => by
    unfold fmF
    split
    · simp
    · rw [List.length_cons]
      have h2 : n / 128 < 128 ^ k := by rw [Nat.div_lt_iff_lt_mul (by omega), ← Nat.pow_succ]; exact h
      rcases Nat.eq_zero_or_pos k with rfl | hk
      · have : n < 128 := by simpa using h
        omega
      · exact Nat.succ_le_succ (fmF_length k (n / 128) h2 hk)
theorem fm_length {n k : Nat} (h : n < 128 ^ k) (h0 : 0 < k) (hk : k ≤ 9) : (fm n).length ≤ k := by
  have : fmF 9 n = fmF k n := by
    obtain ⟨d, hd⟩ : ∃ d, 9 = k + d := ⟨9 - k, by omega⟩
    rw [hd]
    clear hd hk
    induction d with
    | zero => rfl
    | succ d ih => rw [← Nat.add_assoc, fmF_fuel (k + d) n (Nat.lt_of_lt_of_le h (Nat.pow_le_pow_right (by omega) (by omega)))]; exact ih
  unfold fm
  rw [this]
  exact fmF_length k n h h0
/-- A piece is a datagram. -/
theorem wrL_length {id at_ of : Int} {D : List Int} (h : May id at_ of D.length) (hid : 0 ≤ id) : (wrL id at_ of D).length ≤ 900 := by
  obtain ⟨h1, h2, h3, h4, h5, h6⟩ := h
  have a1 := fm_length (n := id.toNat) (k := 9) (by simp; omega) (by omega) (by omega)
  have a2 := fm_length (n := (of - 1).toNat) (k := 2) (by simp; omega) (by omega) (by omega)
  have a3 := fm_length (n := at_.toNat) (k := 2) (by simp; omega) (by omega) (by omega)
  have a4 := fm_length (n := D.length) (k := 2) (by simp; omega) (by omega) (by omega)
  unfold wrL
  simp only [List.length_append]
  omega
end Go.Proofs.Ytjelfiljebamgaa
