/-
  Chapter 3: a matrix' numbers: the iterator.
-/
import Derived.Laws.Rows
import Derived.Test.YtackbajbladhhaaMxA
namespace Go.Proofs.Ytackbajbladhhaa
open Go.RowKit Go.Shelf
set_option linter.unusedVariables false
set_option linter.unusedSimpArgs false
attribute [local go_sem] Oper.semAt_some

/-- A matrix by value; in a block. -/
abbrev matV (f : Nat → Int) : Value := .agg (rowV 16 f)
abbrev matB (W : World) (M : Nat) (f : Nat → Int) : Prop := Row 25 16 W M f
theorem numbers_any (f : Nat → Int) (W : World) :
    Calls Try.prog 59 #[matV f] W fun e w' => e = .returned (.func (.func 74) #[] #[wp W.heap.size]) ∧ w' = W.alloc (.cells (rowV 16 f) 25) := by
  go_enter Try.func59, Try.ntmps59
  go_wp2
  go_ret
  exact ⟨rfl, rfl⟩
abbrev ent (f : Nat → Int) (k : Nat) : Array Value := #[.agg #[.int .i64 ((k / 4 : Nat) : Int), .int .i64 ((k % 4 : Nat) : Int)], .int .i64 (f k)]
theorem ix4 (f : Nat → Int) (r j : Nat) (hj : j < 4) (w : World) : (Instr.index 23 (.agg #[.int .i64 (f (r * 4)), .int .i64 (f (r * 4 + 1)), .int .i64 (f (r * 4 + 2)), .int .i64 (f (r * 4 + 3))]) (.int .i64 (j : Nat))).run Try.prog w = .ok (.int .i64 (f (r * 4 + j))) w := by
  rcases j with _ | _ | _ | _ | j
  · kernel_rfl
  · kernel_rfl
  · kernel_rfl
  · kernel_rfl
  · omega
set_option maxRecDepth 100000 in
set_option maxHeartbeats 2000000 in
theorem numbers1_in (l M : Nat) (f : Nat → Int) (S : Nat → Prop) (J Jx : List Nat → World → Prop) (W : World)
    (hJ : AbidesFrom W.heap.size J) (hS : S M)
    (hY : ∀ (k : Nat) W1, k < 16 → J (List.range k) W1 → YieldAt Fence.wide 2 Try.prog l (ent f k) W1 fun e W' =>
      (e = .returned (.bool true) ∧ J (List.range (k + 1)) W' ∧ KeepS S W1 W') ∨ (e = .returned (.bool false) ∧ Jx (List.range (k + 1)) W'))
    (hM : matB W M f) (h0 : J [] W) :
    CallsIn Fence.wide 3 Try.prog 74 #[.func (.yield l) #[] #[], wp M] W fun e W' =>
      (∃ v, e = .returned v) ∧ ((∃ xs, xs = List.range 16 ∧ J xs W') ∨ (∃ pre, (∃ k, k < 16 ∧ pre = List.range (k + 1)) ∧ Jx pre W')) := by
  refine callsIn_of_wp Try.func74 rfl trivial ?_ rfl
  simp only [Try.ntmps74, List.size_toArray, List.length_cons, List.length_nil, Nat.reduceAdd, Nat.reduceSub, Array.replicate_succ, Array.replicate_zero, List.push_toArray, List.append_toArray, List.nil_append, List.cons_append]
  refine wpIn_wide.2 ?_
  go_wp2_with fail
  go_loopw [6] (fun y wr => ∃ r : Nat, r ≤ 4 ∧ y = .int .i64 r ∧ J (List.range (r * 4)) wr ∧ KeepS S W wr) (fun y _ => (300 - intOf y).toNat)
  case atStart => exact ⟨0, by omega, rfl, h0, KeepS.refl _ _⟩
  case round =>
    obtain ⟨r, hr, rfl, hJr, hbr⟩ := hrel
    obtain ⟨wo, rfl⟩ : ∃ wo : World, wo = wr := ⟨_, rfl⟩
    by_cases hrN : r < 4
    · have hMo : matB wo M f := (hbr M hS).trans hM
      have c0 := hMo.cell (k := r * 4) (by omega)
      have c1 := hMo.cell (k := r * 4 + 1) (by omega)
      have c2 := hMo.cell (k := r * 4 + 2) (by omega)
      have c3 := hMo.cell (k := r * 4 + 3) (by omega)
      have hrd : (r : Int) < 4 := by omega
      go_wp2_with fail
      go_loopw [12] (fun y wr => ∃ j : Nat, j ≤ 4 ∧ y = .int .i64 j ∧ J (List.range (r * 4 + j)) wr ∧ KeepS S W wr) (fun y _ => (300 - intOf y).toNat)
      case atStart => exact ⟨0, by omega, rfl, hJr, hbr⟩
      case round =>
        obtain ⟨j, hj, rfl, hJj, hbj⟩ := hrel
        obtain ⟨wi, rfl⟩ : ∃ wo : World, wo = wr := ⟨_, rfl⟩
        by_cases hjN : j < 4
        · have hix := fun w => ix4 f r j hjN w
          obtain ⟨fn, tmps, assign, body, hy, hR⟩ := hY (r * 4 + j) wi (by omega) hJj
          have hR2 := hR.mono (R' := fun e W' => ∃ bb : Bool, e = .returned (.bool bb) ∧ (bb = true → J (List.range (r * 4 + j + 1)) W' ∧ KeepS S wi W') ∧ (bb = false → Jx (List.range (r * 4 + j + 1)) W')) (by
            rintro e' W3 (⟨rfl, hJ3, hk3⟩ | ⟨rfl, hJx3⟩)
            · exact ⟨true, rfl, fun _ => ⟨hJ3, hk3⟩, fun h => absurd h (by simp)⟩
            · exact ⟨false, rfl, fun h => absurd h (by simp), fun _ => hJx3⟩)
          rw [show ent f (r * 4 + j) = #[.agg #[.int .i64 r, .int .i64 j], .int .i64 (f (r * 4 + j))] by unfold ent; rw [show (r * 4 + j) / 4 = r by omega, show (r * 4 + j) % 4 = j by omega]] at hy
          clear hR hJj hY hJr
          go_upto_region 6 with fail
          refine (wpIn_wide (n := 3)).1 ?_
          gi_wp2_with (refine hR2.mono ?_; rintro e' W3 ⟨bb, rfl, hA, hB⟩; rcases bb with _ | _)
          · clear hy hR2
            have hBf := hB (by first | rfl | trivial)
            go_wp2_with fail
            (try rw [Exit.noGoto_ret])
            refine bodyPost_ret (results_none rfl _ _ _) rfl ?_
            exact ⟨⟨_, rfl⟩, .inr ⟨_, ⟨r * 4 + j, by omega, rfl⟩, hBf⟩⟩
          · clear hy hR2
            obtain ⟨hJ3, hk3⟩ := hA (by first | rfl | trivial)
            clear hA hB
            go_wp2_with fail
            go_roundw
            case rel => exact ⟨j + 1, by omega, by go_num, hJ3, hbj.trans hk3⟩
            case measure => simp [intOf]; omega
        · obtain rfl : j = 4 := by omega
          go_wp2_with fail
          go_roundw
          case rel => exact ⟨r + 1, by omega, by go_num, by rw [show (r + 1) * 4 = r * 4 + 4 by omega]; exact hJj, hbj⟩
          case measure => simp [intOf]; omega
    · obtain rfl : r = 4 := by omega
      go_wp2_with fail
      (try rw [Exit.noGoto_normal])
      go_end0
      exact ⟨⟨_, rfl⟩, .inl ⟨_, rfl, hJr⟩⟩

abbrev K16 := { k : Nat // k < 16 }
/-- The contract of the iterator over a matrix' numbers, by places. -/
theorem numbers_stops (M : Nat) (f : Nat → Int) (S : Nat → Prop) (w0 : World) (hS : S M) (hM : matB w0 M f) :
    SeqStopsK Fence.wide 3 Try.prog 74 #[wp M] (fun x : K16 => ent f x.1) (KeepS S)
      (fun ys => ys.map (·.1) = List.range 16) (fun ys => ∃ k, k < 16 ∧ ys.map (·.1) = List.range (k + 1)) 16 w0 := fun l J Jx W hW hJ hJx hY h0 => by
  have hl : Later w0 W := hW
  refine (numbers1_in l M f S (fun ys W => ∃ zs : List K16, zs.map (·.1) = ys ∧ J zs W) (fun ys W => ∃ zs : List K16, zs.map (·.1) = ys ∧ Jx zs W) W ?_ hS ?_
    (Row.later hM hl) ⟨[], rfl, h0⟩).mono ?_
  · rintro s X Y row ⟨zs, hz, hj⟩ hg hr
    exact ⟨zs, hz, hJ zs X Y row hj hg hr⟩
  · rintro k W1 hk ⟨zs, hz, hj⟩
    obtain ⟨fn, tmps, assign, body, hy, hR⟩ := hY zs ⟨k, hk⟩ W1 hj (by have := congrArg List.length hz; rw [List.length_map, List.length_range] at this; omega)
    refine ⟨fn, tmps, assign, body, hy, hR.mono ?_⟩
    rintro e W' (⟨he, h1, h2⟩ | ⟨he, h1⟩)
    · exact .inl ⟨he, ⟨zs ++ [⟨k, hk⟩], by rw [List.map_append, hz, List.range_succ]; rfl, h1⟩, h2⟩
    · exact .inr ⟨he, ⟨zs ++ [⟨k, hk⟩], by rw [List.map_append, hz, List.range_succ]; rfl, h1⟩⟩
  · rintro e W' ⟨hv, h | h⟩
    · obtain ⟨xs, hxs, zs, hz, hj⟩ := h
      exact ⟨hv, .inl ⟨zs, by show zs.map _ = _; rw [hz, hxs], hj⟩⟩
    · obtain ⟨xs, ⟨k, hk, hxs⟩, zs, hz, hj⟩ := h
      exact ⟨hv, .inr ⟨zs, ⟨k, hk, by rw [hz, hxs]⟩, hj⟩⟩
end Go.Proofs.Ytackbajbladhhaa
