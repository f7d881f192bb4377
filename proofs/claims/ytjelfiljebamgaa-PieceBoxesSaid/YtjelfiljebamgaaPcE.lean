/-
  Chapter 21: what a message is cut into: the parts, one by one.
-/
import Derived.Test.YtjelfiljebamgaaPcD
namespace Go.Proofs.Ytjelfiljebamgaa
open Go.RowKit Go.Shelf
set_option linter.unusedVariables false
set_option linter.unusedSimpArgs false
attribute [local go_sem] Oper.semAt_some

/-- The parts of a message. -/
def chF : Nat → List Int → Nat → List (List Int)
  | 0, L, s => [L.take s]
  | k + 1, L, s => if L.length ≤ s then [L.take s] else L.take s :: chF k (L.drop s) s
def chunks (L : List Int) (s : Nat) : List (List Int) := chF L.length L s
theorem chF_fuel : ∀ (k k' : Nat) (L : List Int) (s : Nat), 1 ≤ s → L.length ≤ k → k ≤ k' → chF k' L s = chF k L s
  | 0, 0, L, s, hs, hL, hk => rfl
  | 0, k' + 1, L, s, hs, hL, hk => by
    show (if L.length ≤ s then [L.take s] else _) = _
    rw [if_pos (by omega)]; rfl
  | k + 1, 0, L, s, hs, hL, hk => by omega
  | k + 1, k' + 1, L, s, hs, hL, hk => by
    show (if L.length ≤ s then [L.take s] else L.take s :: chF k' (L.drop s) s) = (if L.length ≤ s then [L.take s] else L.take s :: chF k (L.drop s) s)
    by_cases h : L.length ≤ s
    · rw [if_pos h, if_pos h]
    · rw [if_neg h, if_neg h, chF_fuel k k' (L.drop s) s hs (by rw [List.length_drop]; omega) (by omega)]
theorem chunks_eq {L : List Int} {s : Nat} (hs : 1 ≤ s) : chunks L s = if L.length ≤ s then [L.take s] else L.take s :: chunks (L.drop s) s := by
  unfold chunks
  cases hl : L.length with
  | zero =>
    have : L = [] := List.length_eq_zero_iff.1 hl
    subst this
    show [([] : List Int).take s] = if 0 ≤ s then _ else _
    rw [if_pos (Nat.zero_le _)]
  | succ n =>
    show (if L.length ≤ s then [L.take s] else L.take s :: chF n (L.drop s) s) = _
    rw [hl]
    by_cases h : n + 1 ≤ s
    · rw [if_pos h, if_pos h]
    · rw [if_neg h, if_neg h]
      congr 1
      exact chF_fuel _ _ _ _ hs (Nat.le_refl _) (by rw [List.length_drop]; omega)
theorem chunks_len {s : Nat} (hs : 1 ≤ s) : ∀ (n : Nat) (L : List Int), L.length ≤ n → 1 ≤ (chunks L s).length ∧ ((chunks L s).length - 1) * s ≤ L.length ∧ ((chunks L s).length = 1 ∨ ((chunks L s).length - 1) * s < L.length) ∧ L.length ≤ (chunks L s).length * s := by
  intro n
  induction n with
  | zero =>
    intro L hL
    have : L = [] := List.length_eq_zero_iff.1 (by omega)
    subst this
    exact ⟨Nat.le_refl 1, by simp [chunks, chF], .inl rfl, Nat.zero_le _⟩
  | succ n ih =>
    intro L hL
    rw [chunks_eq hs]
    by_cases h : L.length ≤ s
    · rw [if_pos h]; exact ⟨Nat.le_refl 1, by simp, .inl rfl, by simpa using h⟩
    · rw [if_neg h]
      obtain ⟨h1, h2, h3, h4⟩ := ih (L.drop s) (by rw [List.length_drop]; omega)
      rw [List.length_drop] at h2 h3 h4
      rw [List.length_cons]
      obtain ⟨m, hm⟩ : ∃ m, (chunks (L.drop s) s).length = m + 1 := ⟨(chunks (L.drop s) s).length - 1, by omega⟩
      rw [hm] at h2 h3 h4 ⊢
      simp only [Nat.add_sub_cancel] at h2 h3 h4 ⊢
      have e1 : (m + 1) * s = m * s + s := Nat.succ_mul m s
      have e2 : (m + 1 + 1) * s = m * s + s + s := by rw [Nat.succ_mul, e1]
      refine ⟨by omega, by omega, .inr ?_, by omega⟩
      rcases h3 with h3 | h3
      · have : m = 0 := by omega
        subst this; simp; omega
      · omega
/-- How many parts there are. -/
theorem chunks_of {L : List Int} {s : Nat} (hs : 1 ≤ s) : ((chunks L s).length : Int) = max 1 (((L.length : Int) + s - 1) / s) := by
  obtain ⟨h1, h2, h3, h4⟩ := chunks_len hs L.length L (Nat.le_refl _)
  obtain ⟨m, hm⟩ : ∃ m, (chunks L s).length = m + 1 := ⟨(chunks L s).length - 1, by omega⟩
  rw [hm] at h2 h3 h4 ⊢
  simp only [Nat.add_sub_cancel] at h2 h3
  have e1 : (m + 1) * s = m * s + s := Nat.succ_mul m s
  rcases Nat.eq_zero_or_pos L.length with h0 | h0
  · have hm0 : m = 0 := by
      rcases h3 with h | h
      · omega
      · have : 0 ≤ m * s := Nat.zero_le _
        omega
    subst hm0
    rw [h0]
    have : (((0 : Nat) : Int) + (s : Int) - 1) / (s : Int) = 0 := Int.ediv_eq_zero_of_lt (by omega) (by omega)
    rw [this]; rfl
  · have hq : ((L.length : Int) + s - 1) / s = ((m + 1 : Nat) : Int) := by
      have hlo : m * s < L.length := by
        rcases h3 with h | h
        · have : m = 0 := by omega
          subst this; simpa using h0
        · exact h
      have e2 : ((L.length : Int) + s - 1) = ((L.length + s - 1 : Nat) : Int) := by omega
      rw [e2, ← Int.natCast_ediv]
      congr 1
      apply Nat.div_eq_of_lt_le
      · omega
      · rw [Nat.succ_mul]; omega
    rw [hq]
    omega
end Go.Proofs.Ytjelfiljebamgaa
