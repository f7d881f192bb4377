/-
  Chapter 28: may a message be: its numbers, and its members.
-/
import Derived.Test.YtjelfiljebamgaaPcU
namespace Go.Proofs.Ytjelfiljebamgaa
open Go.RowKit Go.Shelf
set_option linter.unusedVariables false
set_option linter.unusedSimpArgs false
attribute [local go_sem] Oper.semAt_some

def encI (L : List Int) : List Value := L.map (Value.int .i64)
/-- A slice of ints: what it holds. -/
def IntsV (w : World) (v : Value) (L : List Int) : Prop :=
  ∃ ao cap, v = .slice ao L.length cap ∧ ∀ k, k < L.length → ∃ g o, ao = some ⟨g, o, none⟩ ∧ w.cell? ⟨g, o + k, none⟩ = some (.int .i64 (L.getD k 0))
theorem IntsV.later {w w' : World} {v : Value} {L : List Int} (h : IntsV w v L) (hl : Later w w') : IntsV w' v L := by
  obtain ⟨ao, cap, rfl, hv⟩ := h
  exact ⟨ao, cap, rfl, fun k hk => by obtain ⟨g, o, e, hc⟩ := hv k hk; exact ⟨g, o, e, hl.cell hc⟩⟩
theorem intsV_of_row {w : World} {base : Nat} {v : Value} {L : List Int} {E : TypeId} (h : w.ownsRow base E 1 v L.length (encI L)) : IntsV w v L := by
  rcases h.2 with ⟨rfl, h0⟩ | ⟨g, cap, cur, rfl, _⟩
  · exact ⟨none, 0, by rw [h0], fun k hk => by omega⟩
  · refine ⟨some ⟨g, 0, none⟩, cap, rfl, fun k hk => ⟨g, 0, rfl, ?_⟩⟩
    rw [Nat.zero_add]
    refine (h.cellAt k (by omega)).trans ?_
    unfold encI
    rw [List.getElem?_map, List.getElem?_eq_getElem hk, List.getD_eq_getElem?_getD, List.getElem?_eq_getElem hk]; rfl
theorem intsV_form {w : World} {v : Value} {L : List Int} (h : IntsV w v L) : ∃ ao cap, v = .slice ao L.length cap := by
  obtain ⟨ao, cap, e, _⟩ := h
  exact ⟨ao, cap, e⟩
/-- Do they rise, within nodes' numbers? -/
def risen : Int → List Int → Bool
  | last, [] => decide (0 ≤ last)
  | last, x :: L => if x ≤ last ∨ 63 < x then false else risen x L
theorem risen_drop {last x : Int} {L : List Int} {i : Nat} (hi : i < L.length) (hx : L.getD i 0 = x) : risen last (L.drop i) = if x ≤ last ∨ 63 < x then false else risen x (L.drop (i + 1)) := by
  rw [List.drop_eq_getElem_cons hi]
  rw [List.getD_eq_getElem?_getD, List.getElem?_eq_getElem hi] at hx
  rw [← hx]; rfl
set_option maxRecDepth 100000 in
theorem list_any (u : Value) (L : List Int) (W : World) (hu : IntsV W u L) (hL : L.length ≤ 1000000) :
    Calls Try.prog 94 #[u] W fun e w' => e = .returned (.bool (risen (-1) L)) ∧ W = w' := by
  obtain ⟨ao, cap, rfl, hv⟩ := hu
  obtain ⟨n, hn⟩ : ∃ n, Hid (L.length = n) := ⟨_, rfl⟩
  rw [hn.out] at hL
  have hcell : Hid (∀ k, k < n → ∃ g o, ao = some ⟨g, o, none⟩ ∧ W.cell? ⟨g, o + k, none⟩ = some (.int .i64 (L.getD k 0))) := Lib.hid (by rw [← hn.out]; exact hv)
  obtain ⟨R, hR⟩ : ∃ R, Hid (risen (-1) L = R) := ⟨_, rfl⟩
  rw [hn.out, hR.out]
  clear hv
  go_enter Try.func94, Try.ntmps94
  go_wp2_with fail
  go_loopg [3, 5, 8] (n + 1) (fun g yl y5 y wr => W = wr ∧ ∃ (i : Nat) (last : Int), g = n + 1 - i ∧ i ≤ n ∧ y = .int .i64 i ∧ yl = .int .i64 last ∧ R = risen last (L.drop i))
  case atStart => exact ⟨rfl, 0, -1, by omega, Nat.zero_le _, rfl, rfl, by rw [← hR.out]; rfl⟩
  case round =>
    obtain ⟨rfl, i, last, rfl, hin, rfl, rfl, hr⟩ := hrel
    by_cases hi : i < n
    · have hii : (i : Int) < (n : Int) := by omega
      obtain ⟨g, o, rfl, hc⟩ := hcell.out i hi
      obtain ⟨x, hx⟩ : ∃ x, Hid (L.getD i 0 = x) := ⟨_, rfl⟩
      rw [hx.out] at hc
      rw [risen_drop (by rw [hn.out]; exact hi) hx.out] at hr
      replace hr := Lib.hid hr
      by_cases h1 : x ≤ last
      · have e1 : R = false := by rw [hr.out, if_pos (.inl h1)]
        subst e1
        clear hr
        go_wp2_with fail
        go_ret
        exact ⟨rfl, rfl⟩
      · by_cases h2 : 63 < x
        · have e1 : R = false := by rw [hr.out, if_pos (.inr h2)]
          have h3 : 64 ≤ x := by omega
          subst e1
          clear hr
          go_wp2_with fail
          go_ret
          exact ⟨rfl, rfl⟩
        · have h3 : ¬ 64 ≤ x := by omega
          have hr2 := hr.out
          rw [if_neg (by omega)] at hr2
          replace hr2 := Lib.hid hr2
          clear hr
          go_wp2_with fail
          go_roundg (n - i)
          case measure => omega
          case rel => exact ⟨rfl, i + 1, x, by omega, by omega, by go_num, rfl, hr2.out⟩
    · obtain rfl : i = n := by omega
      have hii : ¬ (i : Int) < (i : Int) := by omega
      rw [List.drop_of_length_le (by rw [hn.out]; exact Nat.le_refl _)] at hr
      replace hr := Lib.hid hr
      go_wp2_with fail
      go_ret
      exact ⟨by rw [hr.out]; rfl, rfl⟩
set_option maxRecDepth 100000 in
theorem nodes_any (u : Value) (L : List Int) (W : World) (hu : IntsV W u L) (hL : L.length ≤ 1000000) :
    Calls Try.prog 97 #[u, .int .i64 64] W fun e w' => e = .returned (.bool (risen (-1) L)) ∧ W = w' := by
  obtain ⟨ao, cap, rfl, hv⟩ := hu
  obtain ⟨n, hn⟩ : ∃ n, Hid (L.length = n) := ⟨_, rfl⟩
  rw [hn.out] at hL
  have hcell : Hid (∀ k, k < n → ∃ g o, ao = some ⟨g, o, none⟩ ∧ W.cell? ⟨g, o + k, none⟩ = some (.int .i64 (L.getD k 0))) := Lib.hid (by rw [← hn.out]; exact hv)
  obtain ⟨R, hR⟩ : ∃ R, Hid (risen (-1) L = R) := ⟨_, rfl⟩
  rw [hn.out, hR.out]
  clear hv
  go_enter Try.func97, Try.ntmps97
  go_wp2_with fail
  go_loopg [5, 6] (n + 1) (fun g yl y wr => W = wr ∧ ∃ (i : Nat) (last : Int), g = n + 1 - i ∧ i ≤ n ∧ y = .int .i64 i ∧ yl = .int .i64 last ∧ R = risen last (L.drop i))
  case atStart => exact ⟨rfl, 0, -1, by omega, Nat.zero_le _, rfl, rfl, by rw [← hR.out]; rfl⟩
  case round =>
    obtain ⟨rfl, i, last, rfl, hin, rfl, rfl, hr⟩ := hrel
    by_cases hi : i < n
    · have hii : (i : Int) < (n : Int) := by omega
      obtain ⟨g, o, rfl, hc⟩ := hcell.out i hi
      obtain ⟨x, hx⟩ : ∃ x, Hid (L.getD i 0 = x) := ⟨_, rfl⟩
      rw [hx.out] at hc
      rw [risen_drop (by rw [hn.out]; exact hi) hx.out] at hr
      replace hr := Lib.hid hr
      by_cases h1 : x ≤ last
      · have e1 : R = false := by rw [hr.out, if_pos (.inl h1)]
        subst e1
        clear hr
        go_wp2_with fail
        go_ret
        exact ⟨rfl, rfl⟩
      · by_cases h2 : 63 < x
        · have e1 : R = false := by rw [hr.out, if_pos (.inr h2)]
          have h3 : 64 ≤ x := by omega
          subst e1
          clear hr
          go_wp2_with fail
          go_ret
          exact ⟨rfl, rfl⟩
        · have h3 : ¬ 64 ≤ x := by omega
          have hr2 := hr.out
          rw [if_neg (by omega)] at hr2
          replace hr2 := Lib.hid hr2
          clear hr
          go_wp2_with fail
          go_roundg (n - i)
          case measure => omega
          case rel => exact ⟨rfl, i + 1, x, by omega, by omega, by go_num, rfl, hr2.out⟩
    · obtain rfl : i = n := by omega
      have hii : ¬ (i : Int) < (i : Int) := by omega
      rw [List.drop_of_length_le (by rw [hn.out]; exact Nat.le_refl _)] at hr
      replace hr := Lib.hid hr
      go_wp2_with fail
      go_ret
      exact ⟨by rw [hr.out]; rfl, rfl⟩
set_option maxRecDepth 10000 in
theorem within_any (n m : Int) (W : World) : Calls Try.prog 93 #[.int .i64 n, .int .i64 m] W fun e w' => e = .returned (.bool (decide (0 ≤ n) && decide (n ≤ m))) ∧ W = w' := by
  go_enter Try.func93, Try.ntmps93
  go_wp2_with fail
  all_goals
    go_ret
    first | exact ⟨rfl, rfl⟩ | exact ⟨ret_bool (by simp; omega), rfl⟩
set_option maxRecDepth 10000 in
theorem node28_any (n : Int) (W : World) : Calls Try.prog 95 #[.int .i64 n] W fun e w' => e = .returned (.bool (decide (0 ≤ n) && decide (n ≤ 63))) ∧ W = w' := by
  go_enter Try.func95, Try.ntmps95
  go_wp2_with fail
  all_goals
    go_ret
    first | exact ⟨rfl, rfl⟩ | exact ⟨ret_bool (by simp; omega), rfl⟩
set_option maxRecDepth 10000 in
theorem span28_any (a b : Int) (W : World) : Calls Try.prog 96 #[.agg #[.int .i64 a, .int .i64 b]] W fun e w' => e = .returned (.bool (decide (0 ≤ a) && decide (a ≤ b) && decide (b ≤ 4096))) ∧ Later W w' := by
  go_enter Try.func96, Try.ntmps96
  go_wp2_with fail
  all_goals
    go_ret
    first | exact ⟨rfl, (Later.refl _).alloc _⟩ | exact ⟨ret_bool (by simp; omega), (Later.refl _).alloc _⟩
end Go.Proofs.Ytjelfiljebamgaa
