/-
  Chapter 6's laws: is.
-/
import Derived.Test.YtackbajbladhhaaDoorScN
namespace Go.Proofs.YtackbajbladhhaaDoor
open Go.RowKit Go.Shelf
set_option linter.unusedVariables false
set_option linter.unusedSimpArgs false
attribute [local go_sem] Oper.semAt_some

set_option maxRecDepth 100000 in
theorem is_yes (s : Scn) {r a : Int} (hq : wrongQ s = (r, a)) (W : World) (hs : s.Ok W) :
    Calls Tryd.prog 14 #[s.V, .int .i64 r, .int .i64 a] W fun e w' => e = .returned (.bool true) ∧ Later W w' := by
  obtain ⟨X, hX⟩ : ∃ X, X = W.alloc (.cells s.row.toArray 28) := ⟨_, rfl⟩
  have hlX : Later W X := by rw [hX]; exact (Later.refl W).alloc _
  have kS : ScnB X W.heap.size s := by rw [hX]; exact heap_alloc_new _ _
  have hW := Lib.hid (wrong_any s X (hs.later hlX))
  have hC := Lib.hid (fun V (h : Later X V) => check_scene s V (hs.later (hlX.trans h)))
  have hss : (Tryd.prog.info? 28).map (·.size) = some s.row.toArray.size := by rw [List.size_toArray]; exact size_scn s
  rw [hq] at hW hC
  clear hq
  have hr : (r == r) = true := by simp
  have ha : (a == a) = true := by simp
  by_cases h0 : r = 0
  all_goals
    first
      | rw [if_pos h0] at hC
      | rw [if_neg h0] at hC
    first
      | subst h0
      | (have h1 : (r == 0) = false := by simpa using h0)
    go_enter Tryd.func14, Tryd.ntmps14
    go_upto_region 1 with fail
    rw [← hX]
    clear hX
    go_wp2_with (refine wpList_load_row rfl _ _ rfl W.heap.size rfl _ _ (0, 0) _ kS Tryd.underlying28 rfl hss ?_)
    refine hW.out.mono ?_
    rintro e w2 ⟨rfl, hl2⟩
    have kS2 := hl2.row kS
    go_wp2_with (refine wpList_load_row_w rfl _ _ rfl W.heap.size rfl _ _ (0, 0) _ kS2 Tryd.underlying28 rfl hss ?_)
    refine (hC.out _ hl2).mono ?_
    rintro e w3 ⟨rfl, hl3⟩
    go_wp2_with fail
    go_ret
    exact ⟨rfl, hlX.trans (hl2.trans hl3)⟩
end Go.Proofs.YtackbajbladhhaaDoor
