/-
  No cell of these rows narrows 'for every input' (looked for: loops, veiled, ifaces, maps, wideKeys, modest, calm, conditions, laid).
  DERIVED. THE GIVEN ROWS OF THIS SEAT. 8 by the template 'for every input the law returns true; each argument reads behind the call as it read before'; 0 by the template 'total and deterministic' (their statements: YtmpnojgciaoghaaTotals.lean).
  GIVEN WITH THE SEED: the statements are not yours to turn. If you find one false, say at which input.
  Laid BY PROGRAM, IN A SANDBOX (cutbox-rows.mjs): the forced cells as the released guide's own fill.sh prints them over the translation 26a75fb13b2763f1… (all of the seat's roots in one cut). By AI agents, Wed Nov 11 2026. No macro, syntax, notation, axiom, sorry.
-/
import Derived.Test.YtmpnojgciaoghaaChecked
import GoSem.Claim
import GoSem.ClaimJoined
import GoSem.ClaimMapViews
import Derived.JoinedTies
import Derived.KernelRfl
namespace Go.Proofs.Ytmpnojgciaoghaa
/- THE CELL 'sum', in the pinned program and in every row, IS THE sha256 OF THE DUMP (.gsa) THAT YtmpnojgciaoghaaProg.lean LOADS. Nothing in Lean hashes anything: it is a label: what it is worth is what the hold of that sum in a sandbox is worth. -/
noncomputable def Try.pinned : Pinned := { name := "ytmpnojgciaoghaa", sum := "26a75fb13b2763f1f7888c764d3431dda8676ad422daeed38848fc8d858b53c5", checked := Try.checked }
namespace Rows
def none {H : Type} : Left H := { results := [], args := [] }

/-- 'mullionlaw11.CoverAt': WHATEVER THE INPUT: true; the input reads as it did. -/
def coverAtSpec : ChangeSpec := { name := "coverAt", fn := fun _ => fun
  | [d1, d2, d3] => { results := [.lit (.bool true)], args := [d1, d2, d3] }
  | _ => none }
def coverAtRow : OpenClaim := { program := "ytmpnojgciaoghaa", sum := "26a75fb13b2763f1f7888c764d3431dda8676ad422daeed38848fc8d858b53c5", func := "mullion/mullionlaw11.CoverAt", spec := "coverAt", unfollowed := true, recurses := true, apart := false }
def CoverAtSaid : Prop := coverAtRow.holds Try.pinned (OpenSpec.ofChange coverAtSpec)

/-- ITS FALSE NEIGHBOUR: 'it returns false'. Refute it at one input. -/
def coverAtWrong : ChangeSpec := { name := "coverAt", fn := fun _ => fun
  | [d1, d2, d3] => { results := [.lit (.bool false)], args := [d1, d2, d3] }
  | _ => none }
def CoverAtWrongFalsely : Prop := coverAtRow.holds Try.pinned (OpenSpec.ofChange coverAtWrong)

/-- 'mullionlaw11.CoverCells': WHATEVER THE INPUT: true; the input reads as it did. -/
def coverCellsSpec : ChangeSpec := { name := "coverCells", fn := fun _ => fun
  | [d1, d2, d3] => { results := [.lit (.bool true)], args := [d1, d2, d3] }
  | _ => none }
def coverCellsRow : OpenClaim := { program := "ytmpnojgciaoghaa", sum := "26a75fb13b2763f1f7888c764d3431dda8676ad422daeed38848fc8d858b53c5", func := "mullion/mullionlaw11.CoverCells", spec := "coverCells", unfollowed := true, recurses := true, apart := false }
def CoverCellsSaid : Prop := coverCellsRow.holds Try.pinned (OpenSpec.ofChange coverCellsSpec)

/-- ITS FALSE NEIGHBOUR: 'it returns false'. Refute it at one input. -/
def coverCellsWrong : ChangeSpec := { name := "coverCells", fn := fun _ => fun
  | [d1, d2, d3] => { results := [.lit (.bool false)], args := [d1, d2, d3] }
  | _ => none }
def CoverCellsWrongFalsely : Prop := coverCellsRow.holds Try.pinned (OpenSpec.ofChange coverCellsWrong)

/-- 'mullionlaw11.CoverSplits': WHATEVER THE INPUT: true; the input reads as it did. -/
def coverSplitsSpec : ChangeSpec := { name := "coverSplits", fn := fun _ => fun
  | [d1, d2] => { results := [.lit (.bool true)], args := [d1, d2] }
  | _ => none }
def coverSplitsRow : OpenClaim := { program := "ytmpnojgciaoghaa", sum := "26a75fb13b2763f1f7888c764d3431dda8676ad422daeed38848fc8d858b53c5", func := "mullion/mullionlaw11.CoverSplits", spec := "coverSplits", unfollowed := true, recurses := true, apart := false }
def CoverSplitsSaid : Prop := coverSplitsRow.holds Try.pinned (OpenSpec.ofChange coverSplitsSpec)

/-- ITS FALSE NEIGHBOUR: 'it returns false'. Refute it at one input. -/
def coverSplitsWrong : ChangeSpec := { name := "coverSplits", fn := fun _ => fun
  | [d1, d2] => { results := [.lit (.bool false)], args := [d1, d2] }
  | _ => none }
def CoverSplitsWrongFalsely : Prop := coverSplitsRow.holds Try.pinned (OpenSpec.ofChange coverSplitsWrong)

/-- 'mullionlaw11.CoverTwo': WHATEVER THE INPUT: true; the input reads as it did. -/
def coverTwoSpec : ChangeSpec := { name := "coverTwo", fn := fun _ => fun
  | [d1, d2, d3] => { results := [.lit (.bool true)], args := [d1, d2, d3] }
  | _ => none }
def coverTwoRow : OpenClaim := { program := "ytmpnojgciaoghaa", sum := "26a75fb13b2763f1f7888c764d3431dda8676ad422daeed38848fc8d858b53c5", func := "mullion/mullionlaw11.CoverTwo", spec := "coverTwo", unfollowed := true, recurses := true, apart := false }
def CoverTwoSaid : Prop := coverTwoRow.holds Try.pinned (OpenSpec.ofChange coverTwoSpec)

/-- ITS FALSE NEIGHBOUR: 'it returns false'. Refute it at one input. -/
def coverTwoWrong : ChangeSpec := { name := "coverTwo", fn := fun _ => fun
  | [d1, d2, d3] => { results := [.lit (.bool false)], args := [d1, d2, d3] }
  | _ => none }
def CoverTwoWrongFalsely : Prop := coverTwoRow.holds Try.pinned (OpenSpec.ofChange coverTwoWrong)

/-- 'mullionlaw11.CoverOrders': WHATEVER THE INPUT: true; the input reads as it did. -/
def coverOrdersSpec : ChangeSpec := { name := "coverOrders", fn := fun _ => fun
  | [d1, d2, d3] => { results := [.lit (.bool true)], args := [d1, d2, d3] }
  | _ => none }
def coverOrdersRow : OpenClaim := { program := "ytmpnojgciaoghaa", sum := "26a75fb13b2763f1f7888c764d3431dda8676ad422daeed38848fc8d858b53c5", func := "mullion/mullionlaw11.CoverOrders", spec := "coverOrders", unfollowed := true, recurses := true, apart := false }
def CoverOrdersSaid : Prop := coverOrdersRow.holds Try.pinned (OpenSpec.ofChange coverOrdersSpec)

/-- ITS FALSE NEIGHBOUR: 'it returns false'. Refute it at one input. -/
def coverOrdersWrong : ChangeSpec := { name := "coverOrders", fn := fun _ => fun
  | [d1, d2, d3] => { results := [.lit (.bool false)], args := [d1, d2, d3] }
  | _ => none }
def CoverOrdersWrongFalsely : Prop := coverOrdersRow.holds Try.pinned (OpenSpec.ofChange coverOrdersWrong)

/-- 'mullionlaw11.CoverMoves': WHATEVER THE INPUT: true; the input reads as it did. -/
def coverMovesSpec : ChangeSpec := { name := "coverMoves", fn := fun _ => fun
  | [d1, d2, d3] => { results := [.lit (.bool true)], args := [d1, d2, d3] }
  | _ => none }
def coverMovesRow : OpenClaim := { program := "ytmpnojgciaoghaa", sum := "26a75fb13b2763f1f7888c764d3431dda8676ad422daeed38848fc8d858b53c5", func := "mullion/mullionlaw11.CoverMoves", spec := "coverMoves", unfollowed := true, recurses := true, apart := false }
def CoverMovesSaid : Prop := coverMovesRow.holds Try.pinned (OpenSpec.ofChange coverMovesSpec)

/-- ITS FALSE NEIGHBOUR: 'it returns false'. Refute it at one input. -/
def coverMovesWrong : ChangeSpec := { name := "coverMoves", fn := fun _ => fun
  | [d1, d2, d3] => { results := [.lit (.bool false)], args := [d1, d2, d3] }
  | _ => none }
def CoverMovesWrongFalsely : Prop := coverMovesRow.holds Try.pinned (OpenSpec.ofChange coverMovesWrong)

/-- 'mullionlaw11.CoverNames': WHATEVER THE INPUT: true; the input reads as it did. -/
def coverNamesSpec : ChangeSpec := { name := "coverNames", fn := fun _ => fun
  | [] => { results := [.lit (.bool true)], args := [] }
  | _ => none }
def coverNamesRow : OpenClaim := { program := "ytmpnojgciaoghaa", sum := "26a75fb13b2763f1f7888c764d3431dda8676ad422daeed38848fc8d858b53c5", func := "mullion/mullionlaw11.CoverNames", spec := "coverNames", unfollowed := true, recurses := true, apart := false }
def CoverNamesSaid : Prop := coverNamesRow.holds Try.pinned (OpenSpec.ofChange coverNamesSpec)

/-- ITS FALSE NEIGHBOUR: 'it returns false'. Refute it at one input. -/
def coverNamesWrong : ChangeSpec := { name := "coverNames", fn := fun _ => fun
  | [] => { results := [.lit (.bool false)], args := [] }
  | _ => none }
def CoverNamesWrongFalsely : Prop := coverNamesRow.holds Try.pinned (OpenSpec.ofChange coverNamesWrong)

/-- 'mullionlaw11.CoverDepths': WHATEVER THE INPUT: true; the input reads as it did. -/
def coverDepthsSpec : ChangeSpec := { name := "coverDepths", fn := fun _ => fun
  | [d1, d2, d3] => { results := [.lit (.bool true)], args := [d1, d2, d3] }
  | _ => none }
def coverDepthsRow : OpenClaim := { program := "ytmpnojgciaoghaa", sum := "26a75fb13b2763f1f7888c764d3431dda8676ad422daeed38848fc8d858b53c5", func := "mullion/mullionlaw11.CoverDepths", spec := "coverDepths", unfollowed := true, recurses := true, apart := false }
def CoverDepthsSaid : Prop := coverDepthsRow.holds Try.pinned (OpenSpec.ofChange coverDepthsSpec)

/-- ITS FALSE NEIGHBOUR: 'it returns false'. Refute it at one input. -/
def coverDepthsWrong : ChangeSpec := { name := "coverDepths", fn := fun _ => fun
  | [d1, d2, d3] => { results := [.lit (.bool false)], args := [d1, d2, d3] }
  | _ => none }
def CoverDepthsWrongFalsely : Prop := coverDepthsRow.holds Try.pinned (OpenSpec.ofChange coverDepthsWrong)

/- THE SECOND FORM. 'bulk': how many values and letters a reading holds, each counted each time it is reached (what is shared counts as often as it is met; a slice's spare places count too). A statement '..UptoSaid' is the law's where the arguments, and the package variables that the reading takes, are together of bulk at most 1048576: NARROWER than '..Said'. Prove '..Said' where nothing that the law and all that it calls make is longer than what came in: it says more and counts as full. Else prove '..UptoSaid'. A law counts once. -/
mutual
def uptoBulk {H : Type} : DataW H → Nat
  | .lit (.string bytes) => bytes.length + 1
  | .lit _ => 1
  | .nil => 1
  | .ptr d => uptoBulk d + 1
  | .slice elems spare => uptoBulkAll elems + uptoBulkAll spare + 1
  | .agg parts => uptoBulkAll parts + 1
  | .iface _ d => uptoBulk d + 1
  | .map entries => uptoBulkEntries entries + 1
  | .held _ => 1
def uptoBulkAll {H : Type} : List (DataW H) → Nat
  | [] => 0
  | d :: r => uptoBulk d + uptoBulkAll r
def uptoBulkEntries {H : Type} : List (Lit × DataW H) → Nat
  | [] => 0
  | x :: r => uptoBulkEntry x + uptoBulkEntries r
def uptoBulkEntry {H : Type} : Lit × DataW H → Nat
  | (.string bytes, d) => bytes.length + uptoBulk d + 1
  | (_, d) => uptoBulk d + 1
 end
def uptoSmall : (H : Type) → List (DataW H) → Bool := fun _ ds => decide (uptoBulkAll ds ≤ 1048576)
def OpenSpec.upto (s : _root_.Go.ChangeSpec) : _root_.Go.OpenSpec := { _root_.Go.OpenSpec.ofChange s with cond := some uptoSmall }

/-- 'mullionlaw11.CoverAt', WHERE WHAT IT READS IS OF BULK AT MOST 1048576: true; the input reads as it did. -/
def coverAtUptoRow : OpenClaim := { program := "ytmpnojgciaoghaa", sum := "26a75fb13b2763f1f7888c764d3431dda8676ad422daeed38848fc8d858b53c5", func := "mullion/mullionlaw11.CoverAt", spec := "coverAt", unfollowed := true, recurses := true, apart := false, narrowed := true }
def CoverAtUptoSaid : Prop := coverAtUptoRow.holds Try.pinned (OpenSpec.upto coverAtSpec)

/-- 'mullionlaw11.CoverCells', WHERE WHAT IT READS IS OF BULK AT MOST 1048576: true; the input reads as it did. -/
def coverCellsUptoRow : OpenClaim := { program := "ytmpnojgciaoghaa", sum := "26a75fb13b2763f1f7888c764d3431dda8676ad422daeed38848fc8d858b53c5", func := "mullion/mullionlaw11.CoverCells", spec := "coverCells", unfollowed := true, recurses := true, apart := false, narrowed := true }
def CoverCellsUptoSaid : Prop := coverCellsUptoRow.holds Try.pinned (OpenSpec.upto coverCellsSpec)

/-- 'mullionlaw11.CoverSplits', WHERE WHAT IT READS IS OF BULK AT MOST 1048576: true; the input reads as it did. -/
def coverSplitsUptoRow : OpenClaim := { program := "ytmpnojgciaoghaa", sum := "26a75fb13b2763f1f7888c764d3431dda8676ad422daeed38848fc8d858b53c5", func := "mullion/mullionlaw11.CoverSplits", spec := "coverSplits", unfollowed := true, recurses := true, apart := false, narrowed := true }
def CoverSplitsUptoSaid : Prop := coverSplitsUptoRow.holds Try.pinned (OpenSpec.upto coverSplitsSpec)

/-- 'mullionlaw11.CoverTwo', WHERE WHAT IT READS IS OF BULK AT MOST 1048576: true; the input reads as it did. -/
def coverTwoUptoRow : OpenClaim := { program := "ytmpnojgciaoghaa", sum := "26a75fb13b2763f1f7888c764d3431dda8676ad422daeed38848fc8d858b53c5", func := "mullion/mullionlaw11.CoverTwo", spec := "coverTwo", unfollowed := true, recurses := true, apart := false, narrowed := true }
def CoverTwoUptoSaid : Prop := coverTwoUptoRow.holds Try.pinned (OpenSpec.upto coverTwoSpec)

/-- 'mullionlaw11.CoverOrders', WHERE WHAT IT READS IS OF BULK AT MOST 1048576: true; the input reads as it did. -/
def coverOrdersUptoRow : OpenClaim := { program := "ytmpnojgciaoghaa", sum := "26a75fb13b2763f1f7888c764d3431dda8676ad422daeed38848fc8d858b53c5", func := "mullion/mullionlaw11.CoverOrders", spec := "coverOrders", unfollowed := true, recurses := true, apart := false, narrowed := true }
def CoverOrdersUptoSaid : Prop := coverOrdersUptoRow.holds Try.pinned (OpenSpec.upto coverOrdersSpec)

/-- 'mullionlaw11.CoverMoves', WHERE WHAT IT READS IS OF BULK AT MOST 1048576: true; the input reads as it did. -/
def coverMovesUptoRow : OpenClaim := { program := "ytmpnojgciaoghaa", sum := "26a75fb13b2763f1f7888c764d3431dda8676ad422daeed38848fc8d858b53c5", func := "mullion/mullionlaw11.CoverMoves", spec := "coverMoves", unfollowed := true, recurses := true, apart := false, narrowed := true }
def CoverMovesUptoSaid : Prop := coverMovesUptoRow.holds Try.pinned (OpenSpec.upto coverMovesSpec)

/-- 'mullionlaw11.CoverNames', WHERE WHAT IT READS IS OF BULK AT MOST 1048576: true; the input reads as it did. -/
def coverNamesUptoRow : OpenClaim := { program := "ytmpnojgciaoghaa", sum := "26a75fb13b2763f1f7888c764d3431dda8676ad422daeed38848fc8d858b53c5", func := "mullion/mullionlaw11.CoverNames", spec := "coverNames", unfollowed := true, recurses := true, apart := false, narrowed := true }
def CoverNamesUptoSaid : Prop := coverNamesUptoRow.holds Try.pinned (OpenSpec.upto coverNamesSpec)

/-- 'mullionlaw11.CoverDepths', WHERE WHAT IT READS IS OF BULK AT MOST 1048576: true; the input reads as it did. -/
def coverDepthsUptoRow : OpenClaim := { program := "ytmpnojgciaoghaa", sum := "26a75fb13b2763f1f7888c764d3431dda8676ad422daeed38848fc8d858b53c5", func := "mullion/mullionlaw11.CoverDepths", spec := "coverDepths", unfollowed := true, recurses := true, apart := false, narrowed := true }
def CoverDepthsUptoSaid : Prop := coverDepthsUptoRow.holds Try.pinned (OpenSpec.upto coverDepthsSpec)

end Rows
end Go.Proofs.Ytmpnojgciaoghaa
