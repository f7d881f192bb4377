/-
  Chapter 6's laws: the objects turned round, plainly.
-/
import Derived.Test.YtackbajbladhhaaScV
namespace Go.Proofs.Ytackbajbladhhaa
open Go.RowKit Go.Shelf
set_option linter.unusedVariables false
set_option linter.unusedSimpArgs false

theorem srt_sorted (L : List Int) : (srt L).Pairwise (· ≤ ·) := by
  have h1 : (srt L).Pairwise (fun x y => decide (x ≤ y) = true) := List.pairwise_mergeSort (fun a b c hab hbc => by simp at *; omega) (fun a b => by simp; omega) L
  exact h1.imp (fun h => of_decide_eq_true h)
theorem srt_perm {L M : List Int} (h : L.Perm M) : srt L = srt M :=
  List.Perm.eq_of_pairwise (le := (· ≤ ·)) (fun a b _ _ h1 h2 => Int.le_antisymm h1 h2) (srt_sorted L) (srt_sorted M) ((List.mergeSort_perm L _).trans (h.trans (List.mergeSort_perm M _).symm))
theorem srt_at {L : List Int} {j : Nat} (h : j + 1 < (srt L).length) : (srt L).getD j 0 ≤ (srt L).getD (j + 1) 0 := by
  have h1 := List.pairwise_iff_getElem.1 (srt_sorted L) j (j + 1) (by omega) h (by omega)
  rw [List.getD_eq_getElem?_getD, List.getD_eq_getElem?_getD, List.getElem?_eq_getElem (by omega), List.getElem?_eq_getElem h]
  exact h1

/-- A scene with its objects turned round. -/
def revS (s : Scn) (u : Value) : Scn := { s with uo := u, os := s.os.reverse }
theorem rev_ids (s : Scn) (u : Value) : srt (idL (revS s u)) = srt (idL s) := by
  refine srt_perm ?_
  show ((s.os.reverse).map (·.id)).Perm (s.os.map (·.id))
  exact (List.reverse_perm s.os).map _
theorem wrong_zero {s : Scn} (h : (wrongQ s).1 = 0) : sizeMay s = true ∧ Within 16777216 16 s.cam := by
  unfold wrongQ at h
  split at h
  · simp at h
  split at h
  · simp at h
  · exact ⟨by simp_all, by simp_all⟩
theorem wrong_of {s : Scn} (h1 : sizeMay s = true) (h2 : Within 16777216 16 s.cam) (h3 : s.os.length ≤ 16) (h4 : ∀ r, 4 ≤ r → r ≤ 8 → ∀ k x, s.os[k]? = some x → keepsB s k x r = true) : (wrongQ s).1 = 0 := by
  unfold wrongQ
  rw [if_neg (by simp [h1]), if_neg (fun h => h h2), if_neg (by omega)]
  have hb : ∀ r, 4 ≤ r → r ≤ 8 → badL s r s.os.length = [] := fun r ha hb => nil_badL (fun k x hk hx => h4 r ha hb k x hx)
  rw [wrongFrom_miss (hb 4 (by omega) (by omega)), wrongFrom_miss (hb 5 (by omega) (by omega)), wrongFrom_miss (hb 6 (by omega) (by omega)), wrongFrom_miss (hb 7 (by omega) (by omega)), wrongFrom_miss (hb 8 (by omega) (by omega))]
  rfl
theorem rev_at {s : Scn} {k : Nat} {x : SObj} (h : s.os.reverse[k]? = some x) : k < s.os.length ∧ s.os[s.os.length - 1 - k]? = some x := by
  have hk : k < s.os.length := by simpa using (List.getElem?_eq_some_iff.1 h).1
  rw [List.getElem?_reverse hk] at h
  exact ⟨hk, h⟩
theorem rev_right {s : Scn} {u : Value} (h : (wrongQ s).1 = 0) : (wrongQ (revS s u)).1 = 0 := by
  obtain ⟨h1, h2⟩ := wrong_zero h
  obtain ⟨h3, h4⟩ := right_all h
  refine wrong_of h1 h2 (by show s.os.reverse.length ≤ 16; rw [List.length_reverse]; exact h3) (fun r ha hb k x hx => ?_)
  obtain ⟨hk, hx2⟩ := rev_at hx
  have h5 := h4 r ha hb _ x hx2
  by_cases hr : r = 4
  · subst hr
    unfold keepsB at h5 ⊢
    simp only [if_true, Bool.and_eq_true, Bool.not_eq_true'] at h5 ⊢
    refine ⟨h5.1, ?_⟩
    cases hb : idIn ((revS s u).os.take k) x.id with
    | false => rfl
    | true =>
      exfalso
      unfold idIn at hb
      obtain ⟨j, hj, he⟩ := List.any_eq_true.1 hb
      have hj2 : j < k := by
        have := List.mem_range.1 hj
        rw [List.length_take] at this
        omega
      rw [List.getElem?_take_of_lt hj2] at he
      obtain ⟨y, hy⟩ : ∃ y, s.os.reverse[j]? = some y := ⟨_, List.getElem?_eq_getElem (by rw [List.length_reverse]; omega)⟩
      have hy' : (revS s u).os[j]? = some y := hy
      rw [hy'] at he
      obtain ⟨hj3, hy2⟩ := rev_at hy
      exact right_ids h hy2 _ x (by omega) hx2 (show y.id = x.id by simpa using he).symm
  · unfold keepsB at h5 ⊢
    simp only [hr, if_false] at h5 ⊢
    exact h5
theorem rev_zero (s : Scn) (u : Value) : ((wrongQ (revS s u)).1 = 0) = ((wrongQ s).1 = 0) := by
  refine propext ⟨fun h => ?_, fun h => rev_right h⟩
  have h2 := rev_right (u := s.uo) h
  have e : revS (revS s u) s.uo = s := by
    unfold revS
    simp only [List.reverse_reverse]
  rw [e] at h2
  exact h2
end Go.Proofs.Ytackbajbladhhaa
