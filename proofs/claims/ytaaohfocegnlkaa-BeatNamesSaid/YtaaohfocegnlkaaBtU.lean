/-
  Chapter 23, the document's answer: all who are suspected, or who are not.
-/
import Derived.Test.YtaaohfocegnlkaaBtT
namespace Go.Proofs.Ytaaohfocegnlkaa
open Go.RowKit Go.Shelf
set_option linter.unusedVariables false
set_option linter.unusedSimpArgs false
attribute [local go_sem] Oper.semAt_some

def lsL (bad : Nat → Bool) (al : Bool) (N : Nat) : List Int := ((List.range N).filter (fun k => bad k != al)).map (fun k : Nat => (k : Int))
theorem lsL_succ (bad : Nat → Bool) (al : Bool) (i : Nat) : lsL bad al (i + 1) = lsL bad al i ++ (if (bad i != al) = true then [(i : Int)] else []) := by
  unfold lsL
  rw [List.range_succ, List.filter_append, List.map_append]
  by_cases e : (bad i != al) = true
  · rw [if_pos e, List.filter_cons, if_pos e]; rfl
  · rw [if_neg e, List.filter_cons, if_neg e]; rfl
theorem lsL_length (bad : Nat → Bool) (al : Bool) (i : Nat) : (lsL bad al i).length ≤ i := by
  unfold lsL; rw [List.length_map]; exact Nat.le_trans (List.length_filter_le _ _) (by rw [List.length_range]; exact Nat.le_refl _)

theorem later_rowR {X w w' : World} {base e k : Nat} {v : Value} {xs : List Value} (h : Later X w) (hr : w.ownsRow base e 1 v k xs) (hb : X.heap.size ≤ base) (hg : w.grownBy w' v.ownBlock) : Later X w' := by
  refine Later.of_grown (grown_none h.grown hg (fun r e' => ?_))
  rcases hr.2 with ⟨rfl, _⟩ | ⟨g, cap, cur, rfl, hb2, _⟩
  · simp [Value.ownBlock] at e'
  · obtain rfl : g = r := by simpa [Value.ownBlock] using e'
    omega
set_option maxRecDepth 100000 in
set_option maxHeartbeats 2000000 in
theorem rList_any (b lb bb N : Nat) (s p now : Int) (last : Nat → Int) (bad : Nat → Bool) (al : Bool) (W : World) (h : RB W b lb bb N s p now last bad) (hN : N ≤ 64) :
    Calls Try.prog 23 #[wp b, .bool al] W fun e w' => ∃ v, e = .returned v ∧ IntsV w' v (lsL bad al N) ∧ Later W w' := by
  obtain ⟨i0, hi0, hz0, hz1, hz2⟩ := info_parts info_int
  go_enter Try.func23, Try.ntmps23
  go_wp2_with fail
  go_loopw [5, 6] (fun o y wr => ∃ i : Nat, i ≤ N ∧ y = .int .i64 i ∧ wr.ownsRow W.heap.size 3 1 o (lsL bad al i).length (encI (lsL bad al i)) ∧ W.grownBy wr none) (fun _ y _ => (5000 - intOf y).toNat)
  case atStart => exact ⟨0, by omega, rfl, World.ownsRow_nil _ _ _ _, World.grownBy.refl _ _⟩
  case round =>
    obtain ⟨i, hi, rfl, hrow, hG⟩ := hrel
    obtain ⟨wo, rfl⟩ : ∃ wo : World, wo = wr := ⟨_, rfl⟩
    have hh := h.later (Later.of_grown hG)
    have c1 : wo.cell? ⟨b, 1, none⟩ = some (.int .i64 N) := hh.cell 1
    by_cases hin : i < N
    · have c5 : wo.cell? ⟨b, 5, none⟩ = some (.slice (some ⟨bb, 0, none⟩) N N) := hh.cell 5
      obtain ⟨z, hz⟩ : ∃ z, Hid (bad i = z) := ⟨_, rfl⟩
      have cb : wo.cell? ⟨bb, i, none⟩ = some (.bool z) := by
        rw [cell_of_row wo bb i _ _ _ hh.rowB, ← hz.out]; simp [hin]
      have hls := lsL_succ bad al i
      have hll := lsL_length bad al i
      rw [hz.out] at hls
      have hML : 4096 < maxLen := by decide
      obtain ⟨F, hF⟩ : ∃ F, lsL bad al i = F := ⟨_, rfl⟩
      rw [hF] at hrow hls hll
      clear hF hz
      cases z <;> cases al
      · have hpos := True.intro
        rw [if_neg (by decide), List.append_nil] at hls
        go_wp2_with fail
        go_roundw
        case rel => exact ⟨i + 1, by omega, by go_num, by rw [hls]; exact hrow, hG⟩
        case measure => simp [intOf]; omega
      · have hpos := True.intro
        rw [if_pos (by rfl)] at hls
        go_wp2_with (at_builtin; refine wpList_append_own _ rfl _ _ 26 rfl W.heap.size 3 i0 (.int .i64 0) 1 8 Try.underlying26 hi0 hz0 hz1 hz2 rfl (by decide) _ _ _ rfl (hrow.alloc _) ⟨wo.heap.size, 0, none⟩ 1 1 [.int .i64 i] rfl rfl (World.news_of_block (heap_alloc_new _ _)) (by simp [Value.oneCell']) (by omega) (by omega) (by have := hG.size; simp; omega) ?_; intro v' w8 hown' hgrow _)
        go_roundw
        case rel =>
          refine ⟨i + 1, by omega, by go_num, ?_, (later_rowR ((Later.of_grown hG).alloc _) (hrow.alloc _) (Nat.le_refl _) hgrow).grown⟩
          rw [hls]; unfold encI at hown' ⊢; rw [List.map_append, List.length_append]; exact hown'
        case measure => simp [intOf]; omega
      · have hpos := True.intro
        rw [if_pos (by rfl)] at hls
        go_wp2_with (at_builtin; refine wpList_append_own _ rfl _ _ 26 rfl W.heap.size 3 i0 (.int .i64 0) 1 8 Try.underlying26 hi0 hz0 hz1 hz2 rfl (by decide) _ _ _ rfl (hrow.alloc _) ⟨wo.heap.size, 0, none⟩ 1 1 [.int .i64 i] rfl rfl (World.news_of_block (heap_alloc_new _ _)) (by simp [Value.oneCell']) (by omega) (by omega) (by have := hG.size; simp; omega) ?_; intro v' w8 hown' hgrow _)
        go_roundw
        case rel =>
          refine ⟨i + 1, by omega, by go_num, ?_, (later_rowR ((Later.of_grown hG).alloc _) (hrow.alloc _) (Nat.le_refl _) hgrow).grown⟩
          rw [hls]; unfold encI at hown' ⊢; rw [List.map_append, List.length_append]; exact hown'
        case measure => simp [intOf]; omega
      · have hpos := True.intro
        rw [if_neg (by decide), List.append_nil] at hls
        go_wp2_with fail
        go_roundw
        case rel => exact ⟨i + 1, by omega, by go_num, by rw [hls]; exact hrow, hG⟩
        case measure => simp [intOf]; omega
    · obtain rfl : i = N := by omega
      go_wp2_with fail
      go_ret
      exact ⟨_, rfl, intsV_of_row hrow, Later.of_grown hG⟩
end Go.Proofs.Ytaaohfocegnlkaa
