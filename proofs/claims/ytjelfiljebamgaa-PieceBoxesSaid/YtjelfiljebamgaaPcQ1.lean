/-
  The parts, one by one, plain.
  Chapter 21's document: a message is cut.
-/
import Derived.Test.YtjelfiljebamgaaPcM1
namespace Go.Proofs.Ytjelfiljebamgaa
open Go.RowKit Go.Shelf
set_option linter.unusedVariables false
set_option linter.unusedSimpArgs false

theorem chunks_get {s : Nat} (hs : 1 ≤ s) : ∀ (i : Nat) (L : List Int), i < (chunks L s).length → (chunks L s)[i]? = some ((L.drop (i * s)).take s)
  | 0, L, h => by
    rw [chunks_eq hs]
    split
    · simp
    · simp
  | i + 1, L, h => by
    rw [chunks_eq hs] at h ⊢
    split at h
    · simp at h
    · rename_i hL
      rw [if_neg hL, List.getElem?_cons_succ, chunks_get hs i (L.drop s) (by simpa using h), List.drop_drop, Nat.succ_mul, Nat.add_comm]
/-- The document's way to a part. -/
theorem chunks_part {s : Nat} (hs : 1 ≤ s) {i : Nat} {L : List Int} (h : i < (chunks L s).length) : (chunks L s)[i]? = some ((L.take (min ((i + 1) * s) L.length)).drop (i * s)) := by
  rw [chunks_get hs i L h]
  congr 1
  rw [List.drop_take]
  have e1 : (i + 1) * s = i * s + s := Nat.succ_mul _ _
  rcases Nat.le_total ((i + 1) * s) L.length with h1 | h1
  · rw [Nat.min_eq_left h1, e1, Nat.add_sub_cancel_left]
  · rw [Nat.min_eq_right h1, List.take_of_length_le (by rw [List.length_drop]; omega), List.take_of_length_le (by rw [List.length_drop]; omega)]
/-- How many parts there are: the first number of parts that holds all. -/
theorem chunks_first {s : Nat} (hs : 1 ≤ s) {L : List Int} {k : Nat} (hk : 1 ≤ k) (h : k < (chunks L s).length) : k * s < L.length := by
  obtain ⟨h1, h2, h3, h4⟩ := chunks_len hs L.length L (Nat.le_refl _)
  have h5 : k * s ≤ ((chunks L s).length - 1) * s := Nat.mul_le_mul_right _ (by omega)
  rcases h3 with h3 | h3
  · omega
  · omega
theorem chunks_last {s : Nat} (hs : 1 ≤ s) (L : List Int) : ¬ (chunks L s).length * s < L.length := by
  have := (chunks_len hs L.length L (Nat.le_refl _)).2.2.2
  omega
end Go.Proofs.Ytjelfiljebamgaa
namespace Go.Proofs.Ytjelfiljebamgaa
open Go.RowKit Go.Shelf
set_option linter.unusedVariables false
set_option linter.unusedSimpArgs false
attribute [local go_sem] Oper.semAt_some

set_option maxRecDepth 100000 in
theorem cut21_bad (id s : Int) (u : Value) (L : List Int) (W : World) (hu : BytV W u L) (h : ¬ CutOk id L.length s) :
    Calls Try.prog 16 #[.int .u64 id, u, .int .i64 s] W fun e w' => e = .returned (.tuple #[.slice none 0 0, .int .i64 210]) ∧ Later W w' := by
  obtain ⟨ao, cap, rfl⟩ := bytV_form hu
  obtain ⟨n, hn⟩ : ∃ n, Hid (L.length = n) := ⟨_, rfl⟩
  rw [hn.out] at h ⊢
  have hbad : ¬ (((id < 4611686018427387904 ∧ (n : Int) ≤ 131072) ∧ 1 ≤ s) ∧ s ≤ 880) := fun hh => h ⟨hh.1.1.1, by omega, hh.1.2, hh.2⟩
  clear hu h
  go_enter Try.func16, Try.ntmps16
  have d : (decide ((4611686018427387904 : Int) ≤ id) || decide ((131072 : Int) < n) || decide ((s : Int) < 1) || decide ((880 : Int) < s)) = true := by
    rw [Bool.or_eq_true, Bool.or_eq_true, Bool.or_eq_true, decide_eq_true_eq, decide_eq_true_eq, decide_eq_true_eq, decide_eq_true_eq]; omega
  go_upto_region 3 with fail
  all_goals first
    | (exfalso; omega)
    | (go_ret2; exact ⟨rfl, Later.refl _⟩)
    | trace_state
end Go.Proofs.Ytjelfiljebamgaa
