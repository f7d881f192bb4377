/-
  Chapter 2: numbers side by side: the iterator (of two lists of four).
-/
import Derived.RangeFuncCalls
import Derived.RangeFuncLeaves
import Derived.RangeFuncNested
import Derived.RangeFuncBound
import Derived.RangeFuncBox
import Derived.Shelf.Abstract
import Derived.Shelf.RegionOpen
import Derived.RegionIn
import Derived.OwnWalkIn
import Derived.TacticsInMore
import Derived.LoopNIn
import Derived.LoopIn
import Derived.Deep.DeepCutAuto
import Derived.Test.YtackbajbladhhaaBox
import Derived.Test.YtackbajbladhhaaRow
import Derived.Test.YtackbajbladhhaaBgA
namespace Go.Proofs.Ytackbajbladhhaa
open Go.RowKit Go.Shelf
set_option linter.unusedVariables false
set_option linter.unusedSimpArgs false
attribute [local go_sem] Oper.semAt_some

abbrev wp (b : Nat) : Value := .pointer (some ⟨b, 0, none⟩)
/-- These blocks lie as they lay. -/
def KeepS (S : Nat → Prop) (W W' : World) : Prop := ∀ k, S k → W'.heap[k]? = W.heap[k]?
theorem KeepS.refl (S : Nat → Prop) (W : World) : KeepS S W W := fun _ _ => rfl
theorem KeepS.trans {S : Nat → Prop} {A B C : World} (h : KeepS S A B) (k : KeepS S B C) : KeepS S A C := fun i hi => (k i hi).trans (h i hi)
theorem KeepS.putObj {S : Nat → Prop} (W : World) (l : Nat) (o : Obj) (hl : ∀ k, S k → k < l) : KeepS S W (W.putObj l o) := fun k hk => World.putObj_heap_other (by have := hl k hk; omega)
theorem KeepS.later {S : Nat → Prop} {W W' : World} (h : Later W W') (hS : ∀ k, S k → k < W.heap.size) : KeepS S W W' := fun k hk => h.block k (hS k hk)
theorem KeepS.set {S : Nat → Prop} {W W' : World} {b o : Nat} {v : Value} (h : KeepS S W W') (hb : ¬ S b) : KeepS S W (W'.setCell ⟨b, o, none⟩ v) := fun k hk => (Below.heap_setCell _ _ _ k (fun e => hb (by have e2 : k = b := e; rw [← e2]; exact hk))).trans (h k hk)
/-- The first k pairs. -/
def prs (f g : Nat → Int) : Nat → List (Int × Int)
  | 0 => []
  | k + 1 => prs f g k ++ [(f k, g k)]
theorem prs_length (f g : Nat → Int) : ∀ k, (prs f g k).length = k
  | 0 => rfl
  | k + 1 => by unfold prs; rw [List.length_append, prs_length f g k]; rfl
/-- Four numbers that lie from a place on. -/
def Four (W : World) (g o : Nat) (f : Nat → Int) : Prop := ∀ k, k < 4 → W.cell? ⟨g, o + k, none⟩ = some (.int .i64 (f k))
theorem Four.later {W W' : World} {g o : Nat} {f : Nat → Int} (h : Four W g o f) (hl : Later W W') : Four W' g o f := fun k hk => hl.cell (h k hk)
theorem Four.same {W W' : World} {g o : Nat} {f : Nat → Int} (h : Four W g o f) (hl : W'.heap[g]? = W.heap[g]?) : Four W' g o f := fun k hk => (World.cell?_of_block (a := ⟨g, o + k, none⟩) hl).trans (h k hk)

theorem pairs_4 (a b oa ob : Nat) (W : World) :
    Calls Try.prog 75 #[.slice (some ⟨a, oa, none⟩) 4 4, .slice (some ⟨b, ob, none⟩) 4 4] W fun e w' => e = .returned (.func (.func 103) #[] #[wp W.heap.size, wp (W.heap.size + 1)]) ∧ w' = (W.alloc (.cells #[.slice (some ⟨a, oa, none⟩) 4 4] 110)).alloc (.cells #[.slice (some ⟨b, ob, none⟩) 4 4] 110) := by
  go_enter Try.func75, Try.ntmps75
  go_wp2
  go_ret
  exact ⟨rfl, rfl⟩
set_option maxRecDepth 100000 in
set_option maxHeartbeats 2000000 in
theorem pairs1_in (l A B a b oa ob : Nat) (f g : Nat → Int) (S : Nat → Prop) (J Jx : List (Int × Int) → World → Prop) (W : World)
    (hJ : AbidesFrom W.heap.size J) (hS : S A ∧ S B ∧ S a ∧ S b)
    (hY : ∀ pre (k : Nat) W1, k < 4 → J pre W1 → pre.length < 4 → YieldAt Fence.wide 2 Try.prog l #[.int .i64 (f k), .int .i64 (g k)] W1 fun e W' =>
      (e = .returned (.bool true) ∧ J (pre ++ [(f k, g k)]) W' ∧ KeepS S W1 W') ∨ (e = .returned (.bool false) ∧ Jx (pre ++ [(f k, g k)]) W'))
    (tA : W.cell? ⟨A, 0, none⟩ = some (.slice (some ⟨a, oa, none⟩) 4 4)) (tB : W.cell? ⟨B, 0, none⟩ = some (.slice (some ⟨b, ob, none⟩) 4 4)) (hf : Four W a oa f) (hg : Four W b ob g) (h0 : J [] W) :
    CallsIn Fence.wide 3 Try.prog 103 #[.func (.yield l) #[] #[], wp A, wp B] W fun e W' =>
      (∃ v, e = .returned v) ∧ ((∃ xs, xs = prs f g 4 ∧ J xs W') ∨ (∃ pre, True ∧ Jx pre W')) := by
  have hmin : ∀ ts t W, (Builtin.min_ ts t #[.int .i64 4, .int .i64 4]).run Try.prog W = .ok (.int .i64 4) W := fun ts t W => by
    rw [run_min_int2]; rfl
  refine callsIn_of_wp Try.func103 rfl trivial ?_ rfl
  simp only [Try.ntmps103, List.size_toArray, List.length_cons, List.length_nil, Nat.reduceAdd, Nat.reduceSub, Array.replicate_succ, Array.replicate_zero, List.push_toArray, List.append_toArray, List.nil_append, List.cons_append]
  refine wpIn_wide.2 ?_
  go_wp2_with fail
  go_loopw [10] (fun y wr => ∃ k : Nat, k ≤ 4 ∧ y = .int .i64 k ∧ J (prs f g k) wr ∧ KeepS S W wr) (fun y _ => (300 - intOf y).toNat)
  case atStart => exact ⟨0, by omega, rfl, h0, KeepS.refl _ _⟩
  case round =>
    obtain ⟨k, hk, rfl, hJk, hbk⟩ := hrel
    obtain ⟨wo, rfl⟩ : ∃ wo : World, wo = wr := ⟨_, rfl⟩
    by_cases hkN : k < 4
    · have tAo := (World.cell?_of_block (a := ⟨A, 0, none⟩) (hbk A hS.1)).trans tA
      have tBo := (World.cell?_of_block (a := ⟨B, 0, none⟩) (hbk B hS.2.1)).trans tB
      have tfo := (hf.same (hbk a hS.2.2.1)) k hkN
      have tgo := (hg.same (hbk b hS.2.2.2)) k hkN
      have hol : prs f g (k + 1) = prs f g k ++ [(f k, g k)] := rfl
      have hJd : J (prs f g k) wo.drew := hJ _ _ _ none hJk ⟨rfl, rfl, rfl, Nat.le_refl _, fun _ _ _ => rfl⟩ (fun _ e => by cases e)
      obtain ⟨fn, tmps, assign, body, hy, hR⟩ := hY _ k wo.drew hkN hJd (by rw [prs_length]; exact hkN)
      go_upto_region 3 with fail
      have hR2 := hR.mono (R' := fun e W' => ∃ bb : Bool, e = .returned (.bool bb) ∧ (bb = true → J (prs f g k ++ [(f k, g k)]) W' ∧ KeepS S wo.drew W') ∧ (bb = false → Jx (prs f g k ++ [(f k, g k)]) W')) (by
        rintro e' W3 (⟨rfl, hJ3, hk3⟩ | ⟨rfl, hJx3⟩)
        · exact ⟨true, rfl, fun _ => ⟨hJ3, hk3⟩, fun h => absurd h (by simp)⟩
        · exact ⟨false, rfl, fun h => absurd h (by simp), fun _ => hJx3⟩)
      refine (wpIn_wide (n := 3)).1 ?_
      have hk64 : (k : Int) < 4 := by omega
      have hmx : Try.prog.follows .mixedOrders = true := by kernel_rfl
      clear hf hg hJ hS
      gi_region_with_o (refine hR2.mono ?_; rintro e' W3 ⟨bb, rfl, hA, hB⟩)
      clear hy hR hR2
      all_goals
        clear hY
        cases bb
        · have hBf := hB rfl
          clear hA hB
          gi_wp2
          go_wp2_with fail
          (try rw [Exit.noGoto_ret])
          refine bodyPost_ret (results_none rfl _ _ _) rfl ?_
          exact ⟨⟨_, rfl⟩, .inr ⟨_, trivial, hBf⟩⟩
        · obtain ⟨hJ3, hk3⟩ := hA rfl
          clear hA hB
          gi_wp2
          go_wp2_with fail
          go_roundw
          case rel => exact ⟨k + 1, by omega, by go_num, by rw [hol]; exact hJ3, hbk.trans hk3⟩
          case measure => simp [intOf]; omega
    · obtain rfl : k = 4 := by omega
      go_wp2_with fail
      go_end0
      exact ⟨⟨_, rfl⟩, .inl ⟨_, rfl, hJk⟩⟩

abbrev K4 := { k : Nat // k < 4 }
def pr4 (f g : Nat → Int) (x : K4) : Int × Int := (f x.1, g x.1)
theorem pairs_stops (A B a b oa ob : Nat) (f g : Nat → Int) (S : Nat → Prop) (w0 : World) (hS : S A ∧ S B ∧ S a ∧ S b)
    (tA : w0.cell? ⟨A, 0, none⟩ = some (.slice (some ⟨a, oa, none⟩) 4 4)) (tB : w0.cell? ⟨B, 0, none⟩ = some (.slice (some ⟨b, ob, none⟩) 4 4)) (hf : Four w0 a oa f) (hg : Four w0 b ob g) :
    SeqStopsK Fence.wide 3 Try.prog 103 #[wp A, wp B] (fun x : K4 => #[.int .i64 (f x.1), .int .i64 (g x.1)]) (KeepS S)
      (fun ys => ys.map (pr4 f g) = prs f g 4) (fun _ => True) 4 w0 := fun l J Jx W hW hJ hJx hY h0 => by
  have hl : Later w0 W := hW
  refine (pairs1_in l A B a b oa ob f g S (fun ys W => ∃ zs : List K4, zs.map (pr4 f g) = ys ∧ J zs W) (fun ys W => ∃ zs : List K4, zs.map (pr4 f g) = ys ∧ Jx zs W) W ?_ hS ?_
    (hl.cell tA) (hl.cell tB) (hf.later hl) (hg.later hl) ⟨[], rfl, h0⟩).mono ?_
  · rintro s X Y row ⟨zs, hz, hj⟩ hg hr
    exact ⟨zs, hz, hJ zs X Y row hj hg hr⟩
  · rintro pre k W1 hk ⟨zs, rfl, hj⟩ hlen
    obtain ⟨fn, tmps, assign, body, hy, hR⟩ := hY zs ⟨k, hk⟩ W1 hj (by simpa using hlen)
    refine ⟨fn, tmps, assign, body, hy, hR.mono ?_⟩
    rintro e W' (⟨he, h1, h2⟩ | ⟨he, h1⟩)
    · exact .inl ⟨he, ⟨zs ++ [⟨k, hk⟩], by simp [pr4], h1⟩, h2⟩
    · exact .inr ⟨he, ⟨zs ++ [⟨k, hk⟩], by simp [pr4], h1⟩⟩
  · rintro e W' ⟨hv, h | h⟩
    · obtain ⟨xs, hxs, zs, hz, hj⟩ := h
      exact ⟨hv, .inl ⟨zs, by show zs.map _ = _; rw [hz, hxs], hj⟩⟩
    · obtain ⟨xs, _, zs, hz, hj⟩ := h
      exact ⟨hv, .inr ⟨zs, trivial, hj⟩⟩
end Go.Proofs.Ytackbajbladhhaa
