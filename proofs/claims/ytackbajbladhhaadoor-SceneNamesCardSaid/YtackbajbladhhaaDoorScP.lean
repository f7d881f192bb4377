/-
  Chapter 6's laws: the chapter's examples, plainly.
-/
import Derived.Test.YtackbajbladhhaaDoorScM
import Derived.Test.YtackbajbladhhaaDoorScO
namespace Go.Proofs.YtackbajbladhhaaDoor
open Go.RowKit Go.Shelf
set_option linter.unusedVariables false
set_option linter.unusedSimpArgs false

def oneObj (id : Int) (uv ut : Value) : SObj := { id := id, m := idQ, uv := uv, vs := [(0, 0, 0), (0, 0, 0), (0, 0, 0)], ut := ut, ts := [(0, 1, 2, 0)] }
def oneScn (w : Int) (uo : Value) (os : List SObj) : Scn := { W := w, H := 3, cam := idQ, uo := uo, os := os }
theorem id_within : Within 16777216 16 idQ := by unfold Within; decide
theorem id_may : mulMay idQ idQ ∧ Within 67108864 16 (mulQ idQ idQ) := by
  have h1 : ∀ c, c < 4 → ∀ r, r < 4 → -4611686018427387904 ≤ dotQ (rowOf idQ r) (colOf idQ c) ∧ dotQ (rowOf idQ r) (colOf idQ c) ≤ 4611686018427387904 := by decide
  have h2 : Within 4611686018427387904 16 idQ := by unfold Within; decide
  have h3 : ∀ c, c < 4 → ∀ k, k < 4 → -4611686018427387904 ≤ colOf idQ c k ∧ colOf idQ c k ≤ 4611686018427387904 := by decide
  refine ⟨fun c hc => ⟨h2, h3 c hc, fun r hr => h1 c hc r hr⟩, ?_⟩
  unfold Within; decide
theorem one_keeps {s : Scn} (hc : s.cam = idQ) {k : Nat} {id : Int} {uv ut : Value} {r : Nat} (hr : 5 ≤ r ∧ r ≤ 8) : keepsB s k (oneObj id uv ut) r = true := by
  rcases (show r = 5 ∨ r = 6 ∨ r = 7 ∨ r = 8 by omega) with rfl | rfl | rfl | rfl
  · unfold keepsB
    simp only [show ¬ (5 : Nat) = 4 by omega, if_false, if_true, decide_eq_true_eq]
    exact id_within
  · unfold keepsB
    simp only [show ¬ (6 : Nat) = 4 by omega, show ¬ (6 : Nat) = 5 by omega, if_false, if_true, decide_eq_true_eq]
    rw [hc]
    exact id_may
  · rfl
  · rfl
theorem some_right (uo uv ut : Value) : wrongQ (oneScn 4 uo [oneObj 7 uv ut]) = (0, -1) := by
  have h : ∀ r, 4 ≤ r → r ≤ 8 → badL (oneScn 4 uo [oneObj 7 uv ut]) r (oneScn 4 uo [oneObj 7 uv ut]).os.length = [] := fun r h1 h2 => nil_badL (fun k x hk hx => by
    obtain rfl : k = 0 := by simp [oneScn] at hk; omega
    obtain rfl : oneObj 7 uv ut = x := by simpa [oneScn] using hx
    by_cases e : r = 4
    · subst e; rfl
    · exact one_keeps rfl ⟨by omega, h2⟩)
  unfold wrongQ
  rw [if_neg (by simp [sizeMay, allIn, oneScn]), if_neg (fun h => h id_within), if_neg (by simp [oneScn])]
  rw [wrongFrom_miss (h 4 (by omega) (by omega)), wrongFrom_miss (h 5 (by omega) (by omega)), wrongFrom_miss (h 6 (by omega) (by omega)), wrongFrom_miss (h 7 (by omega) (by omega)), wrongFrom_miss (h 8 (by omega) (by omega))]
  rfl
theorem some_wide (uo : Value) (os : List SObj) : wrongQ (oneScn 65 uo os) = (1, -1) := by
  unfold wrongQ
  rw [if_pos (by simp [sizeMay, allIn, oneScn])]
theorem some_zero (uo uv ut : Value) : wrongQ (oneScn 4 uo [oneObj 0 uv ut]) = (4, 0) := by
  unfold wrongQ
  rw [if_neg (by simp [sizeMay, allIn, oneScn]), if_neg (fun h => h id_within), if_neg (by simp [oneScn])]
  obtain ⟨l, hl⟩ := badL_cons (s := oneScn 4 uo [oneObj 0 uv ut]) (r := 4) (k := 0) (n := 1) (x := oneObj 0 uv ut) rfl rfl rfl (by omega)
  exact wrongFrom_hit hl
theorem some_two (uo uv ut : Value) : wrongQ (oneScn 4 uo [oneObj 7 uv ut, oneObj 7 uv ut]) = (4, 1) := by
  unfold wrongQ
  rw [if_neg (by simp [sizeMay, allIn, oneScn]), if_neg (fun h => h id_within), if_neg (by simp [oneScn])]
  have h0 : badL (oneScn 4 uo [oneObj 7 uv ut, oneObj 7 uv ut]) 4 1 = [] := nil_badL (fun k x hk hx => by
    obtain rfl : k = 0 := by omega
    obtain rfl : oneObj 7 uv ut = x := by simpa [oneScn] using hx
    rfl)
  obtain ⟨l, hl⟩ := badL_cons (s := oneScn 4 uo [oneObj 7 uv ut, oneObj 7 uv ut]) (r := 4) (k := 1) (n := 2) (x := oneObj 7 uv ut) rfl rfl h0 (by omega)
  exact wrongFrom_hit hl
end Go.Proofs.YtackbajbladhhaaDoor
