/-
  SceneNames: the law of chapter 6 on numbers and examples returns true. Its row lists scene.names with what it holds; the card ties that to the program's text. No condition.
-/
import Derived.Test.YtackbajbladhhaaDoorSdN
import Derived.Test.YtackbajbladhhaaDoorLawCard
import Derived.Test.YtackbajbladhhaaDoorCards
namespace Go.Proofs.YtackbajbladhhaaDoor
open Go.RowKit Go.ChangeShapes Go.WideShapes Go.ChangeAt
set_option linter.unusedVariables false

set_option maxRecDepth 100000 in
theorem sceneNames_law : LawWalkL [("mullion/scene.names", Rows.laid_mullion_scene_names)] 4 Tryd.f4 := by
  intro H enc W base args ds ps hval hA hlt hsz hL
  rw [Tryd.params4] at hA hval
  obtain ⟨rfl, rfl, rfl⟩ := trodAll_none hA
  exact names_any W (names_at hL)
theorem sceneNames_door (os : Os) (args : Array Value) : laidMetH Tryd.prog [("mullion/scene.names", Rows.laid_mullion_scene_names)] ((World.doorLaid Tryd.prog 14 os).forCall (fun _ _ => 0) ⟨#[], args, []⟩).memory :=
  laidMetH_of_parts3 (fuel := 8) (laidMet_of_run' 8 (by kernel_rfl) (by kernel_rfl)) (by kernel_rfl) (by kernel_rfl)
set_option maxRecDepth 100000 in
theorem sceneNames_bare : Rows.SceneNamesSaid :=
  OpenClaim.holds_of_wide 4 Tryd.f4 rfl rfl rfl rfl rfl rfl rfl ⟨rfl, rfl, rfl, rfl, rfl⟩ rfl rfl rfl rfl rfl (by kernel_rfl) Tryd.func4 (by kernel_rfl)
    (of_decide_eq_true (by kernel_rfl)) (by unfold Func.isWrapper; first | (rw [if_pos (by decide +kernel)]; kernel_rfl) | (rw [if_neg (by decide +kernel)]; exact ⟨rfl, rfl⟩))
    (fun os started H enc _ => law_lifted_laid (spec := Rows.sceneNamesSpec) os started H enc Tryd.func4 (by kernel_rfl) rfl
      (fun H ds h => by match ds, h with | [], _ => rfl) (by kernel_rfl) (by rw [Tryd.params4]; intro t ht; simp at ht)
      (ChangeSpec.witness_shaped (enc := enc) (C := Tryd.checked) (os := os) (X := fun w _ => laidMetH Tryd.prog [("mullion/scene.names", Rows.laid_mullion_scene_names)] w) false (World.doorLaid Tryd.prog 14 os) #[] 8 rfl (World.shaped_of_RefB (by kernel_rfl) (by kernel_rfl)) (by kernel_rfl) (by kernel_rfl) (by kernel_rfl) (sceneNames_door os _)) sceneNames_law)
set_option maxRecDepth 100000 in
theorem sceneNames_holds : Rows.SceneNamesCardSaid :=
  Claim7.holds_tied_plain_at .later [] [.data] true Rows.sceneNamesCard.stood.harness false
    sceneNames_bare (fun _ h => by cases h) (by kernel_rfl) (fun _ h => by cases h) sceneNames_row_tie rfl ⟨rfl, rfl⟩ (by kernel_rfl) rfl
    (fun f fn hf hfn => by
      obtain rfl : f = 4 := Option.some.inj ((show Tryd.prog.funcNamed "mullion/mullionlaw06.SceneNames" = some 4 by kernel_rfl).symm.trans hf) |>.symm
      obtain rfl : fn = Tryd.f4 := (Option.some.inj (Tryd.func4.symm.trans hfn)).symm
      exact ⟨by kernel_rfl, fun j t ht => by
        rw [Tryd.params4] at ht
        have hm := Array.mem_of_getElem? ht
        have hall : (Tryd.f4.params.toList.all fun u => !Tryd.prog.wantsStandIn u) = true := by kernel_rfl
        rw [Tryd.params4] at hall
        exact (show Tryd.prog.wantsStandIn t = false by simpa using List.all_eq_true.1 hall t (Array.mem_toList_iff.2 hm))⟩)
    (by kernel_rfl)
#print axioms sceneNames_holds
end Go.Proofs.YtackbajbladhhaaDoor
