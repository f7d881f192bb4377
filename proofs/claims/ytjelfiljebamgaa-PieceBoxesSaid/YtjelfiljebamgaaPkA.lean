/-
  Chapter 5 in plain numbers: a number's bytes, and the number of bytes.
-/
import Derived.Test.YtjelfiljebamgaaKit
namespace Go.Proofs.Ytjelfiljebamgaa
set_option linter.unusedVariables false
set_option linter.unusedSimpArgs false

/-- All are bytes. -/
def Byt (L : List Int) : Prop := ∀ x ∈ L, 0 ≤ x ∧ x < 256
def fmF : Nat → Nat → List Int
  | 0, n => [((n : Nat) : Int)]
  | k + 1, n => if n < 128 then [((n : Nat) : Int)] else ((128 + n % 128 : Nat) : Int) :: fmF k (n / 128)
/-- The bytes of a number. -/
def fm (n : Nat) : List Int := fmF 9 n
theorem fmF_fuel : ∀ (k n : Nat), n < 128 ^ (k + 1) → fmF (k + 1) n = fmF k n
  | 0, n, h => by
    have : n < 128 := by simpa using h
    unfold fmF; rw [if_pos this]
  | k + 1, n, h => by
    have h2 : n / 128 < 128 ^ (k + 1) := by
      rw [Nat.div_lt_iff_lt_mul (by decide), ← Nat.pow_succ]; exact h
    rw [show fmF (k + 1 + 1) n = if n < 128 then [((n : Nat) : Int)] else ((128 + n % 128 : Nat) : Int) :: fmF (k + 1) (n / 128) from rfl,
      show fmF (k + 1) n = if n < 128 then [((n : Nat) : Int)] else ((128 + n % 128 : Nat) : Int) :: fmF k (n / 128) from rfl, fmF_fuel k _ h2]
theorem fm_eq {n : Nat} (h : n < 18446744073709551616) : fm n = if n < 128 then [((n : Nat) : Int)] else ((128 + n % 128 : Nat) : Int) :: fm (n / 128) := by
  unfold fm
  rw [show fmF 9 n = if n < 128 then [((n : Nat) : Int)] else ((128 + n % 128 : Nat) : Int) :: fmF 8 (n / 128) from rfl, fmF_fuel 8 (n / 128) (by simp; omega)]
theorem fmF_byt : ∀ (k n : Nat), n < 128 ^ (k + 1) → Byt (fmF k n)
  | 0, n, h => fun x hx => by
    have : n < 128 := by simpa using h
    unfold fmF at hx; simp at hx; omega
  | k + 1, n, h => fun x hx => by
    have h2 : n / 128 < 128 ^ (k + 1) := by
      rw [Nat.div_lt_iff_lt_mul (by decide), ← Nat.pow_succ]; exact h
    unfold fmF at hx
    split at hx
    · simp at hx; omega
    · rcases List.mem_cons.1 hx with rfl | hx
      · omega
      · exact fmF_byt k _ h2 x hx
theorem fm_byt {n : Nat} (h : n < 18446744073709551616) : Byt (fm n) := fmF_byt 9 n (by simp; omega)
theorem fmF_len : ∀ (k n : Nat), 1 ≤ (fmF k n).length ∧ (fmF k n).length ≤ k + 1
  | 0, n => by unfold fmF; simp
  | k + 1, n => by
    have := fmF_len k (n / 128)
    unfold fmF
    split
    · simp
    · rw [List.length_cons]; omega
theorem fm_len (n : Nat) : 1 ≤ (fm n).length ∧ (fm n).length ≤ 10 := fmF_len 9 n

/-- The number that stands at a place, and how many bytes it has. -/
def nm : List Int → Nat → Nat → Option (Nat × Nat)
  | [], _, _ => none
  | c :: r, i, acc =>
    if 10 ≤ i ∨ (i = 9 ∧ 2 ≤ (c % 128).toNat) then none
    else if 128 ≤ c then nm r (i + 1) (acc + (c % 128).toNat * 128 ^ i)
    else if c = 0 ∧ 0 < i then none
    else some (acc + (c % 128).toNat * 128 ^ i, i + 1)
def num (L : List Int) : Option (Nat × Nat) := nm L 0 0
theorem pow9 {i : Nat} (h : i ≤ 8) : 2 * 128 ^ (9 - i) = 128 * (2 * 128 ^ (9 - (i + 1))) := by
  rw [show 9 - i = (9 - (i + 1)) + 1 by omega, Nat.pow_succ]; omega
theorem nm_fm (R : List Int) : ∀ (k n i acc : Nat), n < 128 ^ (k + 1) → i ≤ 9 → n < 2 * 128 ^ (9 - i) → (0 < i → 0 < n) →
    nm (fmF k n ++ R) i acc = some (acc + n * 128 ^ i, i + (fmF k n).length) := by
  intro k
  induction k with
  | zero =>
    intro n i acc h hi hb hz
    have hn : n < 128 := by simpa using h
    unfold fmF
    rw [List.singleton_append]
    unfold nm
    have e : (((n : Nat) : Int) % 128).toNat = n := by omega
    rw [e, if_neg (by rintro (h | ⟨rfl, h2⟩); omega; simp at hb; omega), if_neg (by omega), if_neg (by rintro ⟨h1, h2⟩; have := hz h2; omega)]
    rfl
  | succ k ih =>
    intro n i acc h hi hb hz
    unfold fmF
    by_cases hn : n < 128
    · rw [if_pos hn, List.singleton_append]
      unfold nm
      have e : (((n : Nat) : Int) % 128).toNat = n := by omega
      rw [e, if_neg (by rintro (h | ⟨rfl, h2⟩); omega; simp at hb; omega), if_neg (by omega), if_neg (by rintro ⟨h1, h2⟩; have := hz h2; omega)]
      rfl
    · rw [if_neg hn, List.cons_append]
      unfold nm
      have e : ((((128 + n % 128 : Nat)) : Int) % 128).toNat = n % 128 := by omega
      have hi8 : i ≤ 8 := by
        rcases Nat.lt_or_ge i 9 with h | h
        · omega
        · obtain rfl : i = 9 := by omega
          simp at hb; omega
      rw [e, if_neg (by omega), if_pos (by omega), ih (n / 128) (i + 1) _ (by rw [Nat.div_lt_iff_lt_mul (by decide), ← Nat.pow_succ]; exact h) (by omega) (by rw [pow9 hi8] at hb; omega) (fun _ => by omega)]
      congr 2
      · have : n * 128 ^ i = (n % 128) * 128 ^ i + n / 128 * (128 ^ (i + 1)) := by
          rw [Nat.pow_succ, show n / 128 * (128 ^ i * 128) = (128 * (n / 128)) * 128 ^ i by rw [Nat.mul_comm (128 ^ i) 128, ← Nat.mul_assoc, Nat.mul_comm (n / 128) 128], ← Nat.add_mul]
          congr 1; omega
        omega
      · rw [List.length_cons]; omega
/-- What was written is read. -/
theorem num_fm {n : Nat} (R : List Int) (h : n < 18446744073709551616) : num (fm n ++ R) = some (n, (fm n).length) := by
  unfold num fm
  rw [nm_fm R 9 n 0 0 (by simp; omega) (by omega) (by simpa using h) (fun h => by omega)]
  simp
theorem nm_some : ∀ (L : List Int) (i acc v k : Nat), Byt L → nm L i acc = some (v, k) → i ≤ 9 ∧ ∃ n R, n < 2 * 128 ^ (9 - i) ∧ (0 < i → 0 < n) ∧ v = acc + n * 128 ^ i ∧ L = fm n ++ R ∧ k = i + (fm n).length := by
  intro L
  induction L with
  | nil => intro i acc v k _ h; cases h
  | cons c r ih =>
    intro i acc v k hb h
    have hc := hb c (by simp)
    unfold nm at h
    split at h
    · cases h
    rename_i h1
    split at h
    · rename_i h2
      obtain ⟨hi, n, R, hn, hz, rfl, rfl, rfl⟩ := ih (i + 1) _ v k (fun x hx => hb x (by simp [hx])) h
      have hi8 : i ≤ 8 := by omega
      have hz := hz (by omega)
      have hbn : (c % 128).toNat + 128 * n < 2 * 128 ^ (9 - i) := by rw [pow9 hi8]; omega
      have hlt : (c % 128).toNat + 128 * n < 18446744073709551616 := by
        have : 2 * 128 ^ (9 - i) ≤ 2 * 128 ^ 9 := Nat.mul_le_mul_left _ (Nat.pow_le_pow_right (by decide) (by omega))
        simp at this; omega
      have e : fm ((c % 128).toNat + 128 * n) = c :: fm n := by
        rw [fm_eq hlt, if_neg (by omega)]
        congr 1
        · omega
        · congr 1; omega
      refine ⟨by omega, (c % 128).toNat + 128 * n, R, hbn, fun _ => by omega, ?_, by rw [e]; rfl, by rw [e, List.length_cons]; omega⟩
      rw [Nat.pow_succ, Nat.add_mul, show n * (128 ^ i * 128) = 128 * n * 128 ^ i by rw [Nat.mul_comm (128 ^ i) 128, ← Nat.mul_assoc, Nat.mul_comm n 128]]
      omega
    · rename_i h2
      split at h
      · cases h
      rename_i h3
      injection h with h
      injection h with e1 e2
      have hi : i ≤ 9 := by omega
      have hm : (c % 128).toNat = c.toNat := by omega
      have hb2 : c.toNat < 2 * 128 ^ (9 - i) := by
        rcases Nat.lt_or_ge i 9 with h9 | h9
        · have : 128 ^ 1 ≤ 128 ^ (9 - i) := Nat.pow_le_pow_right (by decide) (by omega)
          simp at this; omega
        · obtain rfl : i = 9 := by omega
          simp; omega
      have e : fm c.toNat = [c] := by
        rw [fm_eq (by omega), if_pos (by omega)]
        congr 1; omega
      exact ⟨hi, c.toNat, r, hb2, fun _ => by omega, by rw [← e1, hm], by rw [e]; rfl, by rw [e]; exact e2.symm⟩
/-- What is read was written so. -/
theorem num_some {L : List Int} (hb : Byt L) {n k : Nat} (h : num L = some (n, k)) : n < 18446744073709551616 ∧ k = (fm n).length ∧ ∃ R, L = fm n ++ R := by
  obtain ⟨_, m, R, hm, _, e1, e2, e3⟩ := nm_some L 0 0 n k hb h
  have : n = m := by simpa using e1
  subst this
  exact ⟨by simpa using hm, by omega, R, e2⟩
theorem Byt.drop {L : List Int} (h : Byt L) (k : Nat) : Byt (L.drop k) := fun x hx => h x (List.mem_of_mem_drop hx)
theorem Byt.take {L : List Int} (h : Byt L) (k : Nat) : Byt (L.take k) := fun x hx => h x (List.mem_of_mem_take hx)
theorem Byt.append {L M : List Int} (h : Byt L) (k : Byt M) : Byt (L ++ M) := fun x hx => (List.mem_append.1 hx).elim (h x) (k x)
end Go.Proofs.Ytjelfiljebamgaa
