/-
  Chapter 6: the scene's closures; numbers between two.
-/
import Derived.WalkLawsBesides
import Derived.Test.YtackbajbladhhaaScB
namespace Go.Proofs.Ytackbajbladhhaa
open Go.RowKit Go.Shelf
set_option linter.unusedVariables false
set_option linter.unusedSimpArgs false
attribute [local go_sem] Oper.semAt_some

def outB (lo hi n : Int) : Bool := decide (n < lo) || decide (hi < n)
theorem in1_any (x lo hi : Int) (B C : Nat) (W : World) (hB : W.cell? ⟨B, 0, none⟩ = some (.int .i64 lo)) (hC : W.cell? ⟨C, 0, none⟩ = some (.int .i64 hi)) :
    Calls Try.prog 71 #[.int .i64 x, wp B, wp C] W fun e w' => e = .returned (.bool (outB lo hi x)) ∧ Later W w' := by
  obtain ⟨b, hb⟩ : ∃ b, decide (x < lo) = b := ⟨_, rfl⟩
  have hb2 := Lib.hid hb
  cases b
  all_goals
    go_enter Try.func71, Try.ntmps71
    go_wp2_with fail
    go_ret
    exact ⟨ret_bool (by unfold outB; rw [hb2.out]; simp), Later.refl _⟩
theorem same1_any (x : List Value) (i j : Int) (B : Nat) (W : World) (hx : x.length = 19) (hx0 : x[0]? = some (.int .i64 i)) (hB : W.cell? ⟨B, 0, none⟩ = some (.int .i64 j)) :
    Calls Try.prog 97 #[.agg x.toArray, wp B] W fun e w' => e = .returned (.bool (i == j)) ∧ Later W w' := by
  obtain ⟨X, hX⟩ : ∃ X, X = W.alloc (.cells x.toArray 37) := ⟨_, rfl⟩
  have hl : Later W X := by rw [hX]; exact (Later.refl W).alloc _
  have c0 : X.cell? ⟨W.heap.size, 0, none⟩ = some (.int .i64 i) := by
    have h := heap_alloc_new W (.cells x.toArray 37)
    rw [← hX] at h
    have := row_range h 0 _ hx0
    rwa [Nat.add_zero] at this
  have cB := hl.cell hB
  go_enter Try.func97, Try.ntmps97
  go_upto_region 1 with fail
  rw [← hX]
  clear hX hx0 hB
  go_wp2_with fail
  go_ret
  exact ⟨rfl, hl⟩
/-- A vertex that is too far. -/
def farB (v : V3) : Bool := decide (v.1 < -1073741824 ∨ v.2.1 < -1073741824 ∨ v.2.2 < -1073741824 ∨ 1073741824 < v.1 ∨ 1073741824 < v.2.1 ∨ 1073741824 < v.2.2)
set_option maxHeartbeats 1000000 in
theorem far1_any (a b c : Int) (W : World) :
    Calls Try.prog 99 #[.agg #[.int .i64 a, .int .i64 b, .int .i64 c]] W fun e w' => e = .returned (.bool (farB (a, b, c))) ∧ Later W w' := by
  obtain ⟨mn, hmn⟩ : ∃ m, Hid ((if c < (if b < a then b else a) then c else (if b < a then b else a)) = m) := ⟨_, rfl⟩
  obtain ⟨mx, hmx⟩ : ∃ m, Hid ((if c > (if b > a then b else a) then c else (if b > a then b else a)) = m) := ⟨_, rfl⟩
  have h1 : ∀ ts t W, (Builtin.min_ ts t #[.int .i64 a, .int .i64 b, .int .i64 c]).run Try.prog W = .ok (.int .i64 mn) W := fun ts t W => by rw [run_min_int3, hmn.out]
  have h2 : ∀ ts t W, (Builtin.max_ ts t #[.int .i64 a, .int .i64 b, .int .i64 c]).run Try.prog W = .ok (.int .i64 mx) W := fun ts t W => by rw [run_max_int3, hmx.out]
  have hmn1 : mn ≤ a ∧ mn ≤ b ∧ mn ≤ c ∧ (mn = a ∨ mn = b ∨ mn = c) := by have := hmn.out; split at this <;> split at this <;> omega
  have hmx1 : a ≤ mx ∧ b ≤ mx ∧ c ≤ mx ∧ (mx = a ∨ mx = b ∨ mx = c) := by have := hmx.out; split at this <;> split at this <;> omega
  have hf := Lib.hid (show farB (a, b, c) = (decide (mn < -1073741824) || decide (1073741824 < mx)) by
    unfold farB
    rw [← Bool.decide_or, decide_eq_decide]
    dsimp only
    omega)
  obtain ⟨d, hd⟩ : ∃ d, decide (mn < -1073741824) = d := ⟨_, rfl⟩
  have hd2 := Lib.hid hd
  clear hmn1 hmx1 hmn hmx
  cases d
  all_goals
    go_enter Try.func99, Try.ntmps99
    go_wp2_with fail
    go_ret
    exact ⟨ret_bool (by rw [hf.out, hd2.out]; simp), (Later.refl W).alloc _⟩
def allIn (lo hi : Int) (L : List Int) : Bool := L.all fun n => decide (lo ≤ n) && decide (n ≤ hi)
theorem any_out (lo hi : Int) (L : List Int) : (List.range L.length).any (fun k => outB lo hi (L.getD k 0)) = !allIn lo hi L := by
  rw [Bool.eq_iff_iff]
  unfold allIn outB
  simp only [List.any_eq_true, List.mem_range, Bool.not_eq_true', List.all_eq_false, Bool.or_eq_true, decide_eq_true_eq, Bool.and_eq_true]
  constructor
  · rintro ⟨k, hk, h⟩
    refine ⟨L[k], List.getElem_mem hk, fun h2 => ?_⟩
    rw [List.getD_eq_getElem?_getD, List.getElem?_eq_getElem hk] at h
    simp only [Option.getD_some] at h
    omega
  · rintro ⟨x, hx, h⟩
    obtain ⟨k, hk, rfl⟩ := List.getElem_of_mem hx
    refine ⟨k, hk, ?_⟩
    rw [List.getD_eq_getElem?_getD, List.getElem?_eq_getElem hk]
    simp only [Option.getD_some]
    omega
theorem in_any (lo hi : Int) (L : List Int) (v : Value) (W : World) (hv : RowsV 1 W v (L.map fun x => [.int .i64 x])) (hlen : L.length ≤ 1000000) :
    Calls Try.prog 56 #[.int .i64 lo, .int .i64 hi, v] W fun e w' => e = .returned (.bool (allIn lo hi L)) ∧ Later W w' := by
  have ha := Lib.hid (any_out lo hi L)
  obtain ⟨X, hX⟩ : ∃ X, X = (W.alloc (.cells #[.int .i64 lo] 3)).alloc (.cells #[.int .i64 hi] 3) := ⟨_, rfl⟩
  have hl : Later W X := by rw [hX]; exact ((Later.refl W).alloc _).alloc _
  have c0 : X.cell? ⟨W.heap.size, 0, none⟩ = some (.int .i64 lo) := by rw [hX]; go_simp
  have c1 : X.cell? ⟨W.heap.size + 1, 0, none⟩ = some (.int .i64 hi) := by rw [hX]; go_simp
  have hC := Lib.hid (cff_in W.heap.size (W.heap.size + 1) L v (fun k => outB lo hi (L.getD k 0)) X (hv.later hl) hlen (fun k x V hx hV => by
    rw [List.getD_eq_getElem?_getD, hx]
    exact in1_any x lo hi _ _ V (hV.cell c0) (hV.cell c1)))
  rw [ha.out] at hC
  obtain ⟨ao, cap, rfl⟩ := hv.form
  clear hv c0 c1
  rw [List.length_map] at hC ⊢
  obtain ⟨r, hr⟩ : ∃ r, Hid (allIn lo hi L = r) := ⟨_, rfl⟩
  rw [hr.out] at hC ⊢
  go_enter Try.func56, Try.ntmps56
  go_upto_region 1 with fail
  rw [← hX]
  clear hX
  go_wp2_with fail
  refine hC.out.mono ?_
  rintro e w2 ⟨rfl, hl2⟩
  go_wp2_with fail
  go_ret
  exact ⟨ret_bool (by simp), hl.trans hl2⟩
end Go.Proofs.Ytackbajbladhhaa
