/-
  No cell of these rows narrows 'for every input' (looked for: loops, veiled, ifaces, maps, wideKeys, modest, calm, conditions, laid).
  DERIVED. THE GIVEN ROWS OF THIS SEAT. 6 by the template 'for every input the law returns true; each argument reads behind the call as it read before'; 0 by the template 'total and deterministic' (their statements: YtackbajbladhhaaTotals.lean).
  GIVEN WITH THE SEED: the statements are not yours to turn. If you find one false, say at which input.
  Laid BY PROGRAM, IN A SANDBOX (cutbox-rows.mjs): the forced cells as the released guide's own fill.sh prints them over the translation ed072c3e8ecfd029… (all of the seat's roots in one cut). By AI agents, Wed Nov 11 2026. No macro, syntax, notation, axiom, sorry.
-/
import Derived.Test.YtackbajbladhhaaChecked
import GoSem.Claim
import GoSem.ClaimJoined
import GoSem.ClaimMapViews
import Derived.JoinedTies
import Derived.KernelRfl
namespace Go.Proofs.Ytackbajbladhhaa
/- THE CELL 'sum', in the pinned program and in every row, IS THE sha256 OF THE DUMP (.gsa) THAT YtackbajbladhhaaProg.lean LOADS. Nothing in Lean hashes anything: it is a label: what it is worth is what the hold of that sum in a sandbox is worth. -/
noncomputable def Try.pinned : Pinned := { name := "ytackbajbladhhaa", sum := "ed072c3e8ecfd029ddcc73254fd73ce69b9b3aa70b7b266823e6f6f37d8a5b94", checked := Try.checked }
namespace Rows
def none {H : Type} : Left H := { results := [], args := [] }

/-- 'mullionlaw06.SceneBounds': WHATEVER THE INPUT: true; the input reads as it did. -/
def sceneBoundsSpec : ChangeSpec := { name := "sceneBounds", fn := fun _ => fun
  | [d] => { results := [.lit (.bool true)], args := [d] }
  | _ => none }
def sceneBoundsRow : OpenClaim := { program := "ytackbajbladhhaa", sum := "ed072c3e8ecfd029ddcc73254fd73ce69b9b3aa70b7b266823e6f6f37d8a5b94", func := "mullion/mullionlaw06.SceneBounds", spec := "sceneBounds", inPlace := ["math/bits.Sub64", "math/bits.Add64"], unfollowed := true, recurses := true, named := ["math/bits.divideError", "math/bits.overflowError"], apart := false }
def SceneBoundsSaid : Prop := sceneBoundsRow.holds Try.pinned (OpenSpec.ofChange sceneBoundsSpec)

/-- ITS FALSE NEIGHBOUR: 'it returns false'. Refute it at one input. -/
def sceneBoundsWrong : ChangeSpec := { name := "sceneBounds", fn := fun _ => fun
  | [d] => { results := [.lit (.bool false)], args := [d] }
  | _ => none }
def SceneBoundsWrongFalsely : Prop := sceneBoundsRow.holds Try.pinned (OpenSpec.ofChange sceneBoundsWrong)

/-- 'mullionlaw06.SceneOrder': WHATEVER THE INPUT: true; the input reads as it did. -/
def sceneOrderSpec : ChangeSpec := { name := "sceneOrder", fn := fun _ => fun
  | [d] => { results := [.lit (.bool true)], args := [d] }
  | _ => none }
def sceneOrderRow : OpenClaim := { program := "ytackbajbladhhaa", sum := "ed072c3e8ecfd029ddcc73254fd73ce69b9b3aa70b7b266823e6f6f37d8a5b94", func := "mullion/mullionlaw06.SceneOrder", spec := "sceneOrder", inPlace := ["math/bits.Sub64", "math/bits.Add64"], unfollowed := true, recurses := true, named := ["math/bits.divideError", "math/bits.overflowError"], apart := false }
def SceneOrderSaid : Prop := sceneOrderRow.holds Try.pinned (OpenSpec.ofChange sceneOrderSpec)

/-- ITS FALSE NEIGHBOUR: 'it returns false'. Refute it at one input. -/
def sceneOrderWrong : ChangeSpec := { name := "sceneOrder", fn := fun _ => fun
  | [d] => { results := [.lit (.bool false)], args := [d] }
  | _ => none }
def SceneOrderWrongFalsely : Prop := sceneOrderRow.holds Try.pinned (OpenSpec.ofChange sceneOrderWrong)

/-- 'mullionlaw06.SceneTells': WHATEVER THE INPUT: true; the input reads as it did. -/
def sceneTellsSpec : ChangeSpec := { name := "sceneTells", fn := fun _ => fun
  | [d1, d2, d3, d4] => { results := [.lit (.bool true)], args := [d1, d2, d3, d4] }
  | _ => none }
def sceneTellsRow : OpenClaim := { program := "ytackbajbladhhaa", sum := "ed072c3e8ecfd029ddcc73254fd73ce69b9b3aa70b7b266823e6f6f37d8a5b94", func := "mullion/mullionlaw06.SceneTells", spec := "sceneTells", inPlace := ["math/bits.Sub64", "math/bits.Add64"], unfollowed := true, recurses := true, named := ["math/bits.divideError", "math/bits.overflowError"], apart := false }
def SceneTellsSaid : Prop := sceneTellsRow.holds Try.pinned (OpenSpec.ofChange sceneTellsSpec)

/-- ITS FALSE NEIGHBOUR: 'it returns false'. Refute it at one input. -/
def sceneTellsWrong : ChangeSpec := { name := "sceneTells", fn := fun _ => fun
  | [d1, d2, d3, d4] => { results := [.lit (.bool false)], args := [d1, d2, d3, d4] }
  | _ => none }
def SceneTellsWrongFalsely : Prop := sceneTellsRow.holds Try.pinned (OpenSpec.ofChange sceneTellsWrong)

/-- 'mullionlaw08.ShareMoves': WHATEVER THE INPUT: true; the input reads as it did. -/
def shareMovesSpec : ChangeSpec := { name := "shareMoves", fn := fun _ => fun
  | [d1, d2, d3] => { results := [.lit (.bool true)], args := [d1, d2, d3] }
  | _ => none }
def shareMovesRow : OpenClaim := { program := "ytackbajbladhhaa", sum := "ed072c3e8ecfd029ddcc73254fd73ce69b9b3aa70b7b266823e6f6f37d8a5b94", func := "mullion/mullionlaw08.ShareMoves", spec := "shareMoves", inPlace := ["math/bits.Sub64", "math/bits.Add64"], unfollowed := true, recurses := true, named := ["math/bits.divideError", "math/bits.overflowError"], apart := false }
def ShareMovesSaid : Prop := shareMovesRow.holds Try.pinned (OpenSpec.ofChange shareMovesSpec)

/-- ITS FALSE NEIGHBOUR: 'it returns false'. Refute it at one input. -/
def shareMovesWrong : ChangeSpec := { name := "shareMoves", fn := fun _ => fun
  | [d1, d2, d3] => { results := [.lit (.bool false)], args := [d1, d2, d3] }
  | _ => none }
def ShareMovesWrongFalsely : Prop := shareMovesRow.holds Try.pinned (OpenSpec.ofChange shareMovesWrong)

/-- 'mullionlaw08.ShareWhole': WHATEVER THE INPUT: true; the input reads as it did. -/
def shareWholeSpec : ChangeSpec := { name := "shareWhole", fn := fun _ => fun
  | [d1, d2] => { results := [.lit (.bool true)], args := [d1, d2] }
  | _ => none }
def shareWholeRow : OpenClaim := { program := "ytackbajbladhhaa", sum := "ed072c3e8ecfd029ddcc73254fd73ce69b9b3aa70b7b266823e6f6f37d8a5b94", func := "mullion/mullionlaw08.ShareWhole", spec := "shareWhole", inPlace := ["math/bits.Sub64", "math/bits.Add64"], unfollowed := true, recurses := true, named := ["math/bits.divideError", "math/bits.overflowError"], apart := false }
def ShareWholeSaid : Prop := shareWholeRow.holds Try.pinned (OpenSpec.ofChange shareWholeSpec)

/-- ITS FALSE NEIGHBOUR: 'it returns false'. Refute it at one input. -/
def shareWholeWrong : ChangeSpec := { name := "shareWhole", fn := fun _ => fun
  | [d1, d2] => { results := [.lit (.bool false)], args := [d1, d2] }
  | _ => none }
def ShareWholeWrongFalsely : Prop := shareWholeRow.holds Try.pinned (OpenSpec.ofChange shareWholeWrong)

/-- 'mullionlaw08.ShareNames': WHATEVER THE INPUT: true; the input reads as it did. -/
def shareNamesSpec : ChangeSpec := { name := "shareNames", fn := fun _ => fun
  | [] => { results := [.lit (.bool true)], args := [] }
  | _ => none }
def shareNamesRow : OpenClaim := { program := "ytackbajbladhhaa", sum := "ed072c3e8ecfd029ddcc73254fd73ce69b9b3aa70b7b266823e6f6f37d8a5b94", func := "mullion/mullionlaw08.ShareNames", spec := "shareNames", inPlace := ["math/bits.Sub64", "math/bits.Add64"], unfollowed := true, recurses := true, named := ["math/bits.divideError", "math/bits.overflowError"], apart := false }
def ShareNamesSaid : Prop := shareNamesRow.holds Try.pinned (OpenSpec.ofChange shareNamesSpec)

/-- ITS FALSE NEIGHBOUR: 'it returns false'. Refute it at one input. -/
def shareNamesWrong : ChangeSpec := { name := "shareNames", fn := fun _ => fun
  | [] => { results := [.lit (.bool false)], args := [] }
  | _ => none }
def ShareNamesWrongFalsely : Prop := shareNamesRow.holds Try.pinned (OpenSpec.ofChange shareNamesWrong)

/- THE SECOND FORM. 'bulk': how many values and letters a reading holds, each counted each time it is reached (what is shared counts as often as it is met; a slice's spare places count too). A statement '..UptoSaid' is the law's where the arguments, and the package variables that the reading takes, are together of bulk at most 1048576: NARROWER than '..Said'. Prove '..Said' where nothing that the law and all that it calls make is longer than what came in: it says more and counts as full. Else prove '..UptoSaid'. A law counts once. -/
mutual
def uptoBulk {H : Type} : DataW H → Nat
  | .lit (.string bytes) => bytes.length + 1
  | .lit _ => 1
  | .nil => 1
  | .ptr d => uptoBulk d + 1
  | .slice elems spare => uptoBulkAll elems + uptoBulkAll spare + 1
  | .agg parts => uptoBulkAll parts + 1
  | .iface _ d => uptoBulk d + 1
  | .map entries => uptoBulkEntries entries + 1
  | .held _ => 1
def uptoBulkAll {H : Type} : List (DataW H) → Nat
  | [] => 0
  | d :: r => uptoBulk d + uptoBulkAll r
def uptoBulkEntries {H : Type} : List (Lit × DataW H) → Nat
  | [] => 0
  | x :: r => uptoBulkEntry x + uptoBulkEntries r
def uptoBulkEntry {H : Type} : Lit × DataW H → Nat
  | (.string bytes, d) => bytes.length + uptoBulk d + 1
  | (_, d) => uptoBulk d + 1
 end
def uptoSmall : (H : Type) → List (DataW H) → Bool := fun _ ds => decide (uptoBulkAll ds ≤ 1048576)
def OpenSpec.upto (s : _root_.Go.ChangeSpec) : _root_.Go.OpenSpec := { _root_.Go.OpenSpec.ofChange s with cond := some uptoSmall }

/-- 'mullionlaw06.SceneBounds', WHERE WHAT IT READS IS OF BULK AT MOST 1048576: true; the input reads as it did. -/
def sceneBoundsUptoRow : OpenClaim := { program := "ytackbajbladhhaa", sum := "ed072c3e8ecfd029ddcc73254fd73ce69b9b3aa70b7b266823e6f6f37d8a5b94", func := "mullion/mullionlaw06.SceneBounds", spec := "sceneBounds", inPlace := ["math/bits.Sub64", "math/bits.Add64"], unfollowed := true, recurses := true, named := ["math/bits.divideError", "math/bits.overflowError"], apart := false, narrowed := true }
def SceneBoundsUptoSaid : Prop := sceneBoundsUptoRow.holds Try.pinned (OpenSpec.upto sceneBoundsSpec)

/-- 'mullionlaw06.SceneOrder', WHERE WHAT IT READS IS OF BULK AT MOST 1048576: true; the input reads as it did. -/
def sceneOrderUptoRow : OpenClaim := { program := "ytackbajbladhhaa", sum := "ed072c3e8ecfd029ddcc73254fd73ce69b9b3aa70b7b266823e6f6f37d8a5b94", func := "mullion/mullionlaw06.SceneOrder", spec := "sceneOrder", inPlace := ["math/bits.Sub64", "math/bits.Add64"], unfollowed := true, recurses := true, named := ["math/bits.divideError", "math/bits.overflowError"], apart := false, narrowed := true }
def SceneOrderUptoSaid : Prop := sceneOrderUptoRow.holds Try.pinned (OpenSpec.upto sceneOrderSpec)

/-- 'mullionlaw06.SceneTells', WHERE WHAT IT READS IS OF BULK AT MOST 1048576: true; the input reads as it did. -/
def sceneTellsUptoRow : OpenClaim := { program := "ytackbajbladhhaa", sum := "ed072c3e8ecfd029ddcc73254fd73ce69b9b3aa70b7b266823e6f6f37d8a5b94", func := "mullion/mullionlaw06.SceneTells", spec := "sceneTells", inPlace := ["math/bits.Sub64", "math/bits.Add64"], unfollowed := true, recurses := true, named := ["math/bits.divideError", "math/bits.overflowError"], apart := false, narrowed := true }
def SceneTellsUptoSaid : Prop := sceneTellsUptoRow.holds Try.pinned (OpenSpec.upto sceneTellsSpec)

/-- 'mullionlaw08.ShareMoves', WHERE WHAT IT READS IS OF BULK AT MOST 1048576: true; the input reads as it did. -/
def shareMovesUptoRow : OpenClaim := { program := "ytackbajbladhhaa", sum := "ed072c3e8ecfd029ddcc73254fd73ce69b9b3aa70b7b266823e6f6f37d8a5b94", func := "mullion/mullionlaw08.ShareMoves", spec := "shareMoves", inPlace := ["math/bits.Sub64", "math/bits.Add64"], unfollowed := true, recurses := true, named := ["math/bits.divideError", "math/bits.overflowError"], apart := false, narrowed := true }
def ShareMovesUptoSaid : Prop := shareMovesUptoRow.holds Try.pinned (OpenSpec.upto shareMovesSpec)

/-- 'mullionlaw08.ShareWhole', WHERE WHAT IT READS IS OF BULK AT MOST 1048576: true; the input reads as it did. -/
def shareWholeUptoRow : OpenClaim := { program := "ytackbajbladhhaa", sum := "ed072c3e8ecfd029ddcc73254fd73ce69b9b3aa70b7b266823e6f6f37d8a5b94", func := "mullion/mullionlaw08.ShareWhole", spec := "shareWhole", inPlace := ["math/bits.Sub64", "math/bits.Add64"], unfollowed := true, recurses := true, named := ["math/bits.divideError", "math/bits.overflowError"], apart := false, narrowed := true }
def ShareWholeUptoSaid : Prop := shareWholeUptoRow.holds Try.pinned (OpenSpec.upto shareWholeSpec)

/-- 'mullionlaw08.ShareNames', WHERE WHAT IT READS IS OF BULK AT MOST 1048576: true; the input reads as it did. -/
def shareNamesUptoRow : OpenClaim := { program := "ytackbajbladhhaa", sum := "ed072c3e8ecfd029ddcc73254fd73ce69b9b3aa70b7b266823e6f6f37d8a5b94", func := "mullion/mullionlaw08.ShareNames", spec := "shareNames", inPlace := ["math/bits.Sub64", "math/bits.Add64"], unfollowed := true, recurses := true, named := ["math/bits.divideError", "math/bits.overflowError"], apart := false, narrowed := true }
def ShareNamesUptoSaid : Prop := shareNamesUptoRow.holds Try.pinned (OpenSpec.upto shareNamesSpec)

end Rows
end Go.Proofs.Ytackbajbladhhaa
