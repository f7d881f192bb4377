/-
  Chapter 6: what follows of a scene that may be, plainly.
-/
import Derived.Test.YtackbajbladhhaaScK
namespace Go.Proofs.Ytackbajbladhhaa
open Go.RowKit Go.Shelf
set_option linter.unusedVariables false
set_option linter.unusedSimpArgs false

theorem wrongFrom_zero (s : Scn) : ∀ m r, 1 ≤ r → (wrongFrom s m r).1 = 0 → ∀ j, r ≤ j → j < r + m → badL s j s.os.length = []
  | 0, r, _, _ => fun j h1 h2 => by omega
  | m + 1, r, hr, h => fun j h1 h2 => by
    cases hb : badL s r s.os.length with
    | cons k l => rw [wrongFrom_hit hb] at h; dsimp only at h; omega
    | nil =>
      rw [wrongFrom_miss hb] at h
      by_cases e : j = r
      · rw [e]; exact hb
      · exact wrongFrom_zero s m (r + 1) (by omega) h j (by omega) (by omega)
/-- What each object of a scene that may be keeps. -/
theorem right_all {s : Scn} (h : (wrongQ s).1 = 0) : s.os.length ≤ 16 ∧ ∀ r, 4 ≤ r → r ≤ 8 → ∀ k x, s.os[k]? = some x → keepsB s k x r = true := by
  unfold wrongQ at h
  split at h
  · simp at h
  split at h
  · simp at h
  split at h
  · simp at h
  refine ⟨by omega, fun r h1 h2 k x hx => ?_⟩
  exact badL_nil (wrongFrom_zero s 5 4 (by omega) h r h1 (by omega)) k x (List.getElem?_eq_some_iff.1 hx).1 hx
theorem right_both {s : Scn} (h : (wrongQ s).1 = 0) {k : Nat} {x : SObj} (hx : s.os[k]? = some x) : mulMay s.cam x.m ∧ Within 67108864 16 (mulQ s.cam x.m) := by
  have := (right_all h).2 6 (by omega) (by omega) k x hx
  unfold keepsB at this
  simpa using this
theorem right_verts {s : Scn} (h : (wrongQ s).1 = 0) {k : Nat} {x : SObj} (hx : s.os[k]? = some x) : x.vs.length ≤ 64 ∧ ∀ v ∈ x.vs, farB v = false := by
  have := (right_all h).2 7 (by omega) (by omega) k x hx
  unfold keepsB at this
  simp only [show ¬ (7 : Nat) = 4 by omega, show ¬ (7 : Nat) = 5 by omega, show ¬ (7 : Nat) = 6 by omega, if_false, if_true, Bool.and_eq_true, decide_eq_true_eq] at this
  refine ⟨this.1, fun v hv => ?_⟩
  have h2 := List.all_eq_true.1 this.2 v hv
  simpa using h2
theorem right_ids {s : Scn} (h : (wrongQ s).1 = 0) {k : Nat} {x : SObj} (hx : s.os[k]? = some x) : ∀ j y, j < k → s.os[j]? = some y → y.id ≠ x.id := by
  have := (right_all h).2 4 (by omega) (by omega) k x hx
  unfold keepsB at this
  simp only [if_true, Bool.and_eq_true, Bool.not_eq_true'] at this
  intro j y hj hy e
  have h2 := this.2
  unfold idIn at h2
  have hk := (List.getElem?_eq_some_iff.1 hx).1
  have h3 : (List.range (s.os.take k).length).any (fun j => (((s.os.take k)[j]?).map (·.id)).getD 0 == x.id) = true := by
    refine List.any_eq_true.2 ⟨j, List.mem_range.2 (by rw [List.length_take]; omega), ?_⟩
    rw [List.getElem?_take_of_lt hj, hy]
    simp [e]
  rw [h3] at h2
  cases h2
theorem right_find {s : Scn} (h : (wrongQ s).1 = 0) {k : Nat} {x : SObj} (hx : s.os[k]? = some x) : findQ s x.id = k := by
  have hk := (List.getElem?_eq_some_iff.1 hx).1
  unfold findQ
  have key : ∀ m i, i ≤ k → k < i + m → fst (fun k => ((s.os[k]?).map (·.id)).getD 0 == x.id) m i = k := by
    intro m
    induction m with
    | zero => intro i h1 h2; omega
    | succ m ih =>
      intro i h1 h2
      by_cases e : i = k
      · subst e
        rw [fst_hit _ _ _ (by simp [hx])]
      · obtain ⟨y, hy⟩ : ∃ y, s.os[i]? = some y := ⟨_, List.getElem?_eq_getElem (by omega)⟩
        rw [fst_miss _ _ _ (by
          have := right_ids h hx i y (by omega) hy
          simp [hy, this])]
        exact ih (i + 1) (by omega) (by omega)
  exact key s.os.length 0 (Nat.zero_le _) (by omega)
/-- A vertex, as a vector. -/
def vecOf (v : V3) (k : Nat) : Int := if k = 0 then v.1 else if k = 1 then v.2.1 else if k = 2 then v.2.2 else 65536
theorem far_not {v : V3} (h : farB v = false) : (-1073741824 ≤ v.1 ∧ v.1 ≤ 1073741824) ∧ (-1073741824 ≤ v.2.1 ∧ v.2.1 ≤ 1073741824) ∧ (-1073741824 ≤ v.2.2 ∧ v.2.2 ≤ 1073741824) := by
  unfold farB at h
  rw [decide_eq_false_iff_not] at h
  omega
theorem mul_le {a b A B : Int} (hA : 0 ≤ A) (ha : -A ≤ a ∧ a ≤ A) (hb : -B ≤ b ∧ b ≤ B) : -(A * B) ≤ a * b ∧ a * b ≤ A * B := by
  have h1 : a.natAbs ≤ A.natAbs := by omega
  have h2 : b.natAbs ≤ B.natAbs := by omega
  have h3 := Nat.mul_le_mul h1 h2
  rw [← Int.natAbs_mul, ← Int.natAbs_mul] at h3
  have h4 : 0 ≤ A * B := Int.mul_nonneg hA (by omega)
  omega
theorem apply_bound {m : Nat → Int} (hm : Within 67108864 16 m) {v : V3} (hv : farB v = false) (r : Nat) (hr : r < 4) : -8796093022208 < dotQ (rowOf m r) (vecOf v) ∧ dotQ (rowOf m r) (vecOf v) < 8796093022208 := by
  obtain ⟨b1, b2, b3⟩ := far_not hv
  have h0 := mul_le (by omega) (hm (r * 4 + 0) (by omega)) b1
  have h1 := mul_le (by omega) (hm (r * 4 + 1) (by omega)) b2
  have h2 := mul_le (by omega) (hm (r * 4 + 2) (by omega)) b3
  have h3 := hm (r * 4 + 3) (by omega)
  unfold dotQ rowOf
  show _ < (m (r * 4 + 0) * v.1 + m (r * 4 + 1) * v.2.1 + m (r * 4 + 2) * v.2.2 + m (r * 4 + 3) * 65536) / 65536 ∧ (m (r * 4 + 0) * v.1 + m (r * 4 + 1) * v.2.1 + m (r * 4 + 2) * v.2.2 + m (r * 4 + 3) * 65536) / 65536 < _
  omega
theorem apply_may {m : Nat → Int} (hm : Within 67108864 16 m) {v : V3} (hv : farB v = false) : aplMay m (vecOf v) := by
  obtain ⟨b1, b2, b3⟩ := far_not hv
  refine ⟨fun k hk => by have := hm k hk; omega, fun k hk => ?_, fun r hr => ?_⟩
  · unfold vecOf
    rcases (show k = 0 ∨ k = 1 ∨ k = 2 ∨ k = 3 by omega) with rfl | rfl | rfl | rfl
    · simp; omega
    · simp; omega
    · simp; omega
    · simp
  · have := apply_bound hm hv r hr
    unfold dotMay; omega
end Go.Proofs.Ytackbajbladhhaa
