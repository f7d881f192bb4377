/-
  DERIVED. GIVEN WITH THE SEED: THE CARDS: each row of YtackbajbladhhaaDoorRows.lean that lists a variable, with what it lists TIED to the program's text (the seventh form; the later family's looks); each row that meets fmt, with fmt's text TOLD by the authors' own Lean function (tested against real Go, not proved from fmt's source: count such statements apart). THE CARD IS WHAT COUNTS. Prove the row's statement (the work); the ties are given (YtackbajbladhhaaDoorTie.lean); close each card by the builder's one call (the guide's Derived/Test/ToyasCard.lean, 'card_holds'). Laid BY PROGRAM, IN A SANDBOX (cutbox-door.mjs). By AI agents, Wed Nov 11 2026. No macro, syntax, notation, axiom, sorry.
-/
import Derived.Test.YtackbajbladhhaaDoorRows
import GoSem.ClaimSeven
namespace Go.Proofs.YtackbajbladhhaaDoor
namespace Rows

/-- THE TIED CARD OF 'mullionlaw06.SceneRules'. -/
def sceneRulesCard : Claim7 := { stood := { row := sceneRulesRow, standIns := [], harness := (true, "db425fec315aa443d1e03a9dedf793049f5b86e39854ceaa5964177123b3a8ae"), looks := false }, kinds := [], alts := [], laidByText := true, laidKinds := [.data], laidTests := true, laidLooks := .later }
def SceneRulesCardSaid : Prop := Claim7.holds Tryd.pinned (.plain (OpenSpec.ofChange sceneRulesSpec)) sceneRulesCard

/-- THE TIED CARD OF 'mullionlaw06.SceneNames'. -/
def sceneNamesCard : Claim7 := { stood := { row := sceneNamesRow, standIns := [], harness := (true, "db425fec315aa443d1e03a9dedf793049f5b86e39854ceaa5964177123b3a8ae"), looks := false }, kinds := [], alts := [], laidByText := true, laidKinds := [.data], laidTests := true, laidLooks := .later }
def SceneNamesCardSaid : Prop := Claim7.holds Tryd.pinned (.plain (OpenSpec.ofChange sceneNamesSpec)) sceneNamesCard

/-- THE SECOND FORM's CARD OF 'mullionlaw06.SceneRules'. -/
def sceneRulesUptoCard : Claim7 := { stood := { row := sceneRulesUptoRow, standIns := [], harness := (true, "db425fec315aa443d1e03a9dedf793049f5b86e39854ceaa5964177123b3a8ae"), looks := false }, kinds := [], alts := [], laidByText := true, laidKinds := [.data], laidTests := true, laidLooks := .later }
def SceneRulesUptoCardSaid : Prop := Claim7.holds Tryd.pinned (.plain (OpenSpec.upto sceneRulesSpec)) sceneRulesUptoCard

/-- THE SECOND FORM's CARD OF 'mullionlaw06.SceneNames'. -/
def sceneNamesUptoCard : Claim7 := { stood := { row := sceneNamesUptoRow, standIns := [], harness := (true, "db425fec315aa443d1e03a9dedf793049f5b86e39854ceaa5964177123b3a8ae"), looks := false }, kinds := [], alts := [], laidByText := true, laidKinds := [.data], laidTests := true, laidLooks := .later }
def SceneNamesUptoCardSaid : Prop := Claim7.holds Tryd.pinned (.plain (OpenSpec.upto sceneNamesSpec)) sceneNamesUptoCard
end Rows
end Go.Proofs.YtackbajbladhhaaDoor
