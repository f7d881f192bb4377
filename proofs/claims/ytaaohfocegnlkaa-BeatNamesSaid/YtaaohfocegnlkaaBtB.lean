/-
  Chapter 23: the other nodes, and for how long each was not heard: the iterator.
-/
import Derived.RangeFuncCalls
import Derived.RangeFuncLeaves
import Derived.Shelf.Abstract
import Derived.Shelf.RegionOpen
import Derived.RegionIn
import Derived.Test.YtaaohfocegnlkaaBtA
namespace Go.Proofs.Ytaaohfocegnlkaa
open Go.RowKit Go.Shelf
set_option linter.unusedVariables false
set_option linter.unusedSimpArgs false
attribute [local go_sem] Oper.semAt_some

abbrev encp (p : Int × Int) : Array Value := #[.int .i64 p.1, .int .i64 p.2]
/-- Two blocks lie as they lay. -/
def Keep2 (b c : Nat) (W W' : World) : Prop := W'.heap[b]? = W.heap[b]? ∧ W'.heap[c]? = W.heap[c]?
theorem Keep2.trans {b c : Nat} {A B C : World} (h : Keep2 b c A B) (k : Keep2 b c B C) : Keep2 b c A C := ⟨k.1.trans h.1, k.2.trans h.2⟩
theorem Keep2.putObj {b c : Nat} (W : World) (l : Nat) (o : Obj) (hl : b < l ∧ c < l) : Keep2 b c W (W.putObj l o) := ⟨World.putObj_heap_other (by omega), World.putObj_heap_other (by omega)⟩
theorem Keep2.of_apart {b c n₀ o : Nat} {A B : World} (h : Apart n₀ o A B) (hb : b < n₀ ∧ b ≠ o) (hc : c < n₀ ∧ c ≠ o) : Keep2 b c A B := ⟨h b hb.1 hb.2, h c hc.1 hc.2⟩
/-- For how long a node was not heard, as the machine reckons it. -/
def qt (g : Nat → Int) (n : Nat) : Int := IntKind.i64.wrap (g 3 - g (4 + n))
/-- The first k nodes, but the node itself. -/
def ol (g : Nat → Int) : Nat → List (Int × Int)
  | 0 => []
  | k + 1 => ol g k ++ (if (k : Int) = g 0 then [] else [((k : Int), qt g k)])
theorem ol_length (g : Nat → Int) : ∀ k, (ol g k).length ≤ k
  | 0 => Nat.le_refl _
  | k + 1 => by
    have := ol_length g k
    unfold ol; rw [List.length_append]; split
    · simp; omega
    · simp; omega

set_option maxRecDepth 100000 in
set_option maxHeartbeats 2000000 in
theorem others1_in (l b Bx : Nat) (g : Nat → Int) (J Jx : List (Int × Int) → World → Prop) (W : World) (hg : 0 ≤ g 1 ∧ g 1 ≤ 64)
    (hJ : AbidesFrom W.heap.size J)
    (hY : ∀ pre x W1, (0 ≤ x.1 ∧ x.1 ≤ 63) → J pre W1 → pre.length < 64 → YieldAt Fence.wide 2 Try.prog l (encp x) W1 fun e W' =>
      (e = .returned (.bool true) ∧ J (pre ++ [x]) W' ∧ Keep2 b Bx W1 W') ∨ (e = .returned (.bool false) ∧ Jx (pre ++ [x]) W'))
    (hw : WB W b g) (tx : W.cell? ⟨Bx, 0, none⟩ = some (wp b)) (h0 : J [] W) :
    CallsIn Fence.wide 3 Try.prog 29 #[.func (.yield l) #[] #[], wp Bx] W fun e W' =>
      (∃ v, e = .returned v) ∧ ((∃ xs, xs = ol g (g 1).toNat ∧ J xs W') ∨ (∃ pre, (∃ k, k ≤ (g 1).toNat ∧ pre = ol g k) ∧ Jx pre W')) := by
  obtain ⟨N, hN⟩ : ∃ N : Nat, g 1 = N := ⟨(g 1).toNat, by omega⟩
  have hN64 : N ≤ 64 := by omega
  have HN := none_any b g W hw
  rw [show (g 1).toNat = N by omega]
  rw [hN] at HN
  refine callsIn_of_wp Try.func29 rfl trivial ?_ rfl
  simp only [Try.ntmps29, List.size_toArray, List.length_cons, List.length_nil, Nat.reduceAdd, Nat.reduceSub, Array.replicate_succ, Array.replicate_zero, List.push_toArray, List.append_toArray, List.nil_append, List.cons_append]
  refine wpIn_wide.2 ?_
  go_step3
  go_wp2_with fail
  refine HN.mono ?_
  rintro e w1 ⟨rfl, h1⟩
  replace hw := Row.later hw h1
  replace tx := h1.cell tx
  have hJ0 : J [] w1 := hJ [] _ _ none h0 h1.grown (fun _ e => by cases e)
  have c1 := hw.cell (k := 1) (by omega)
  rw [hN] at c1
  by_cases hz : N = 0
  · subst hz
    rw [show (((0 : Nat) : Int) == 0) = true from rfl]
    go_wp2_with fail
    rw [Exit.noGoto_ret]
    refine bodyPost_ret (results_none rfl _ _ _) rfl ?_
    exact ⟨⟨_, rfl⟩, .inl ⟨_, rfl, hJ0⟩⟩
  have hz2 : ((N : Int) == 0) = false := by simp [hz]
  rw [hz2]
  go_wp2_with fail
  refine wp_label ?_
  go_wp2_with fail
  go_loopw [10] (fun y wr => ∃ k : Nat, k ≤ N ∧ y = .int .i64 k ∧ J (ol g k) wr ∧ Keep2 b Bx w1 wr) (fun y _ => (300 - intOf y).toNat)
  case atStart => exact ⟨0, by omega, rfl, hJ0, ⟨rfl, rfl⟩⟩
  case round =>
    obtain ⟨k, hk, rfl, hJk, hbk⟩ := hrel
    obtain ⟨wo, rfl⟩ : ∃ wo : World, wo = wr := ⟨_, rfl⟩
    by_cases hkN : k < N
    · have hwo : WB wo b g := hbk.1.trans hw
      have txo := (World.cell?_of_block (a := ⟨Bx, 0, none⟩) hbk.2).trans tx
      have c0 := hwo.cell (k := 0) (by omega)
      by_cases hs : (k : Int) = g 0
      · have hol : ol g (k + 1) = ol g k := by
          conv => lhs; unfold ol
          rw [if_pos hs, List.append_nil]
        have hs2 : ((k : Int) == g 0) = true := by simp [hs]
        go_wp2_with fail
        go_roundw
        case rel => exact ⟨k + 1, by omega, by go_num, by rw [hol]; exact hJk, hbk⟩
        case measure => simp [intOf]; omega
      · have hol : ol g (k + 1) = ol g k ++ [((k : Int), qt g k)] := by
          conv => lhs; unfold ol
          rw [if_neg hs]
        have hs2 : ((k : Int) == g 0) = false := by simp [hs]
        have c3 := hwo.cell (k := 3) (by omega)
        have c4 := hwo.cell (k := 4 + k) (by omega)
        have hJd : J (ol g k) wo.drew := hJ _ _ _ none hJk ⟨rfl, rfl, rfl, Nat.le_refl _, fun _ _ _ => rfl⟩ (fun _ e => by cases e)
        obtain ⟨fn, tmps, assign, body, hy, hR⟩ := hY _ ((k : Int), qt g k) wo.drew ⟨by show (0 : Int) ≤ (k : Int); omega, by show (k : Int) ≤ 63; omega⟩ hJd (by have := ol_length g k; omega)
        dsimp only [encp, qt] at hy
        go_upto_region 5 with fail
        have hR2 := hR.mono (R' := fun e W' => ∃ bb : Bool, e = .returned (.bool bb) ∧ (bb = true → J (ol g k ++ [((k : Int), qt g k)]) W' ∧ Keep2 b Bx wo.drew W') ∧ (bb = false → Jx (ol g k ++ [((k : Int), qt g k)]) W')) (by
          rintro e' W3 (⟨rfl, hJ3, hk3⟩ | ⟨rfl, hJx3⟩)
          · exact ⟨true, rfl, fun _ => ⟨hJ3, hk3⟩, fun h => absurd h (by simp)⟩
          · exact ⟨false, rfl, fun h => absurd h (by simp), fun _ => hJx3⟩)
        refine (wpIn_wide (n := 3)).1 ?_
        have hk64 : (k : Int) < 64 := by omega
        have hk64' : k < 64 := by omega
        have hmx : Try.prog.follows .mixedOrders = true := by kernel_rfl
        gi_region_with_o (refine hR2.mono ?_; rintro e' W3 ⟨bb, rfl, hA, hB⟩)
        clear hy hR hR2
        all_goals
          clear hY
          cases bb
          · have hBf := hB rfl
            clear hA hB
            gi_wp2
            go_wp2_with fail
            rw [Exit.noGoto_ret]
            refine bodyPost_ret (results_none rfl _ _ _) rfl ?_
            exact ⟨⟨_, rfl⟩, .inr ⟨_, ⟨k + 1, hkN, hol.symm⟩, hBf⟩⟩
          · obtain ⟨hJ3, hk3⟩ := hA rfl
            clear hA hB
            gi_wp2
            go_wp2_with fail
            go_roundw
            case rel => exact ⟨k + 1, by omega, by go_num, by rw [hol]; exact hJ3, hbk.trans hk3⟩
            case measure => simp [intOf]; omega
    · obtain rfl : k = N := by omega
      go_wp2_with fail
      rw [Exit.noGoto_normal]
      go_end0
      exact ⟨⟨_, rfl⟩, .inl ⟨_, rfl, hJk⟩⟩
end Go.Proofs.Ytaaohfocegnlkaa
