/-
  NARROWER THAN 'FOR EVERY INPUT', by the rows' own cells (each row's printed sentence says how): SceneRules: laid · SceneNames: laid.
  DERIVED. THE GIVEN ROWS OF THIS SEAT. 2 by the template 'for every input the law returns true; each argument reads behind the call as it read before'; 0 by the template 'total and deterministic' (their statements: YtackbajbladhhaaDoorTotals.lean).
  GIVEN WITH THE SEED: the statements are not yours to turn. If you find one false, say at which input.
  Laid BY PROGRAM, IN A SANDBOX (cutbox-rows.mjs): the forced cells as the released guide's own fill.sh prints them over the translation e6c894fe31e8953f… (all of the seat's roots in one cut). By AI agents, Wed Nov 11 2026. No macro, syntax, notation, axiom, sorry.
-/
import Derived.Test.YtackbajbladhhaaDoorChecked
import GoSem.Claim
import GoSem.ClaimJoined
import GoSem.ClaimMapViews
import Derived.JoinedTies
import Derived.KernelRfl
namespace Go.Proofs.YtackbajbladhhaaDoor
/- THE CELL 'sum', in the pinned program and in every row, IS THE sha256 OF THE DUMP (.gsa) THAT YtackbajbladhhaaDoorProg.lean LOADS. Nothing in Lean hashes anything: it is a label: what it is worth is what the hold of that sum in a sandbox is worth. -/
noncomputable def Tryd.pinned : Pinned := { name := "ytackbajbladhhaadoor", sum := "e6c894fe31e8953f0a444242c73116a4938e145e7a91fcbcf43d00c846d4aadd", checked := Tryd.checked }
namespace Rows
def none {H : Type} : Left H := { results := [], args := [] }

/- WHAT THE LISTED PACKAGE-LEVEL VARIABLES READ AS WHEN THE CALL BEGINS. Each datum BY PROGRAM (the guide's laid-datum.mjs) off the statement by which the dump's own 'gosem.cut.vars' lays the variable. In a bare row this is a premise. The card (YtackbajbladhhaaDoorCards.lean) ties it to the program's text. -/
def laid_mullion_scene_names {H : Type} : DataW H := .agg [.lit (.string []), .lit (.string [115, 105, 122, 101]), .lit (.string [99, 97, 109, 101, 114, 97]), .lit (.string [111, 98, 106, 101, 99, 116, 115]), .lit (.string [105, 100, 115]), .lit (.string [109, 97, 116, 114, 105, 120]), .lit (.string [98, 111, 116, 104]), .lit (.string [118, 101, 114, 116, 105, 99, 101, 115]), .lit (.string [116, 114, 105, 97, 110, 103, 108, 101, 115])]

/-- 'mullionlaw06.SceneRules': WHATEVER THE INPUT: true; the input reads as it did. -/
def sceneRulesSpec : ChangeSpec := { name := "sceneRules", fn := fun _ => fun
  | [d1, d2] => { results := [.lit (.bool true)], args := [d1, d2] }
  | _ => none }
def sceneRulesRow : OpenClaim := { program := "ytackbajbladhhaadoor", sum := "e6c894fe31e8953f0a444242c73116a4938e145e7a91fcbcf43d00c846d4aadd", func := "mullion/mullionlaw06.SceneRules", spec := "sceneRules", inPlace := ["math/bits.Sub64", "math/bits.Add64"], unfollowed := true, recurses := true, named := ["math/bits.divideError", "math/bits.overflowError", "mullion/scene.names"], apart := false, laid := [("mullion/scene.names", laid_mullion_scene_names)] }
def SceneRulesSaid : Prop := sceneRulesRow.holds Tryd.pinned (OpenSpec.ofChange sceneRulesSpec)

/-- ITS FALSE NEIGHBOUR: 'it returns false'. Refute it at one input. -/
def sceneRulesWrong : ChangeSpec := { name := "sceneRules", fn := fun _ => fun
  | [d1, d2] => { results := [.lit (.bool false)], args := [d1, d2] }
  | _ => none }
def SceneRulesWrongFalsely : Prop := sceneRulesRow.holds Tryd.pinned (OpenSpec.ofChange sceneRulesWrong)

/-- 'mullionlaw06.SceneNames': WHATEVER THE INPUT: true; the input reads as it did. -/
def sceneNamesSpec : ChangeSpec := { name := "sceneNames", fn := fun _ => fun
  | [] => { results := [.lit (.bool true)], args := [] }
  | _ => none }
def sceneNamesRow : OpenClaim := { program := "ytackbajbladhhaadoor", sum := "e6c894fe31e8953f0a444242c73116a4938e145e7a91fcbcf43d00c846d4aadd", func := "mullion/mullionlaw06.SceneNames", spec := "sceneNames", inPlace := ["math/bits.Sub64", "math/bits.Add64"], unfollowed := true, recurses := true, named := ["math/bits.divideError", "math/bits.overflowError", "mullion/scene.names"], apart := false, laid := [("mullion/scene.names", laid_mullion_scene_names)] }
def SceneNamesSaid : Prop := sceneNamesRow.holds Tryd.pinned (OpenSpec.ofChange sceneNamesSpec)

/-- ITS FALSE NEIGHBOUR: 'it returns false'. Refute it at one input. -/
def sceneNamesWrong : ChangeSpec := { name := "sceneNames", fn := fun _ => fun
  | [] => { results := [.lit (.bool false)], args := [] }
  | _ => none }
def SceneNamesWrongFalsely : Prop := sceneNamesRow.holds Tryd.pinned (OpenSpec.ofChange sceneNamesWrong)

/- THE SECOND FORM. 'bulk': how many values and letters a reading holds, each counted each time it is reached (what is shared counts as often as it is met; a slice's spare places count too). A statement '..UptoSaid' is the law's where the arguments, and the package variables that the reading takes, are together of bulk at most 1048576: NARROWER than '..Said'. Prove '..Said' where nothing that the law and all that it calls make is longer than what came in: it says more and counts as full. Else prove '..UptoSaid'. A law counts once. -/
mutual
def uptoBulk {H : Type} : DataW H → Nat
  | .lit (.string bytes) => bytes.length + 1
  | .lit _ => 1
  | .nil => 1
  | .ptr d => uptoBulk d + 1
  | .slice elems spare => uptoBulkAll elems + uptoBulkAll spare + 1
  | .agg parts => uptoBulkAll parts + 1
  | .iface _ d => uptoBulk d + 1
  | .map entries => uptoBulkEntries entries + 1
  | .held _ => 1
def uptoBulkAll {H : Type} : List (DataW H) → Nat
  | [] => 0
  | d :: r => uptoBulk d + uptoBulkAll r
def uptoBulkEntries {H : Type} : List (Lit × DataW H) → Nat
  | [] => 0
  | x :: r => uptoBulkEntry x + uptoBulkEntries r
def uptoBulkEntry {H : Type} : Lit × DataW H → Nat
  | (.string bytes, d) => bytes.length + uptoBulk d + 1
  | (_, d) => uptoBulk d + 1
 end
def uptoSmall : (H : Type) → List (DataW H) → Bool := fun _ ds => decide (uptoBulkAll ds ≤ 1048576)
def OpenSpec.upto (s : _root_.Go.ChangeSpec) : _root_.Go.OpenSpec := { _root_.Go.OpenSpec.ofChange s with cond := some uptoSmall }

/-- 'mullionlaw06.SceneRules', WHERE WHAT IT READS IS OF BULK AT MOST 1048576: true; the input reads as it did. -/
def sceneRulesUptoRow : OpenClaim := { program := "ytackbajbladhhaadoor", sum := "e6c894fe31e8953f0a444242c73116a4938e145e7a91fcbcf43d00c846d4aadd", func := "mullion/mullionlaw06.SceneRules", spec := "sceneRules", inPlace := ["math/bits.Sub64", "math/bits.Add64"], unfollowed := true, recurses := true, named := ["math/bits.divideError", "math/bits.overflowError", "mullion/scene.names"], apart := false, laid := [("mullion/scene.names", laid_mullion_scene_names)], narrowed := true }
def SceneRulesUptoSaid : Prop := sceneRulesUptoRow.holds Tryd.pinned (OpenSpec.upto sceneRulesSpec)

/-- 'mullionlaw06.SceneNames', WHERE WHAT IT READS IS OF BULK AT MOST 1048576: true; the input reads as it did. -/
def sceneNamesUptoRow : OpenClaim := { program := "ytackbajbladhhaadoor", sum := "e6c894fe31e8953f0a444242c73116a4938e145e7a91fcbcf43d00c846d4aadd", func := "mullion/mullionlaw06.SceneNames", spec := "sceneNames", inPlace := ["math/bits.Sub64", "math/bits.Add64"], unfollowed := true, recurses := true, named := ["math/bits.divideError", "math/bits.overflowError", "mullion/scene.names"], apart := false, laid := [("mullion/scene.names", laid_mullion_scene_names)], narrowed := true }
def SceneNamesUptoSaid : Prop := sceneNamesUptoRow.holds Tryd.pinned (OpenSpec.upto sceneNamesSpec)

end Rows
end Go.Proofs.YtackbajbladhhaaDoor
