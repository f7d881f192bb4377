/-
  No cell of these rows narrows 'for every input' (looked for: loops, veiled, ifaces, maps, wideKeys, modest, calm, conditions, laid).
  DERIVED. THE GIVEN ROWS OF THIS SEAT. 4 by the template 'for every input the law returns true; each argument reads behind the call as it read before'; 0 by the template 'total and deterministic' (their statements: YtaaohfocegnlkaaTotals.lean).
  GIVEN WITH THE SEED: the statements are not yours to turn. If you find one false, say at which input.
  Laid BY PROGRAM, IN A SANDBOX (cutbox-rows.mjs): the forced cells as the released guide's own fill.sh prints them over the translation dbf2d1dee31e3fc0… (all of the seat's roots in one cut). By AI agents, Wed Nov 11 2026. No macro, syntax, notation, axiom, sorry.
-/
import Derived.Test.YtaaohfocegnlkaaChecked
import GoSem.Claim
import GoSem.ClaimJoined
import GoSem.ClaimMapViews
import Derived.JoinedTies
import Derived.KernelRfl
namespace Go.Proofs.Ytaaohfocegnlkaa
/- THE CELL 'sum', in the pinned program and in every row, IS THE sha256 OF THE DUMP (.gsa) THAT YtaaohfocegnlkaaProg.lean LOADS. Nothing in Lean hashes anything: it is a label: what it is worth is what the hold of that sum in a sandbox is worth. -/
noncomputable def Try.pinned : Pinned := { name := "ytaaohfocegnlkaa", sum := "dbf2d1dee31e3fc0dd1292d0679012f29ead7f5111008719304127714a106882", checked := Try.checked }
namespace Rows
def none {H : Type} : Left H := { results := [], args := [] }

/-- 'mullionlaw23.BeatSets': WHATEVER THE INPUT: true; the input reads as it did. -/
def beatSetsSpec : ChangeSpec := { name := "beatSets", fn := fun _ => fun
  | [d1, d2, d3] => { results := [.lit (.bool true)], args := [d1, d2, d3] }
  | _ => none }
def beatSetsRow : OpenClaim := { program := "ytaaohfocegnlkaa", sum := "dbf2d1dee31e3fc0dd1292d0679012f29ead7f5111008719304127714a106882", func := "mullion/mullionlaw23.BeatSets", spec := "beatSets", unfollowed := true, recurses := true, apart := false }
def BeatSetsSaid : Prop := beatSetsRow.holds Try.pinned (OpenSpec.ofChange beatSetsSpec)

/-- ITS FALSE NEIGHBOUR: 'it returns false'. Refute it at one input. -/
def beatSetsWrong : ChangeSpec := { name := "beatSets", fn := fun _ => fun
  | [d1, d2, d3] => { results := [.lit (.bool false)], args := [d1, d2, d3] }
  | _ => none }
def BeatSetsWrongFalsely : Prop := beatSetsRow.holds Try.pinned (OpenSpec.ofChange beatSetsWrong)

/-- 'mullionlaw23.BeatOrders': WHATEVER THE INPUT: true; the input reads as it did. -/
def beatOrdersSpec : ChangeSpec := { name := "beatOrders", fn := fun _ => fun
  | [d1, d2, d3] => { results := [.lit (.bool true)], args := [d1, d2, d3] }
  | _ => none }
def beatOrdersRow : OpenClaim := { program := "ytaaohfocegnlkaa", sum := "dbf2d1dee31e3fc0dd1292d0679012f29ead7f5111008719304127714a106882", func := "mullion/mullionlaw23.BeatOrders", spec := "beatOrders", unfollowed := true, recurses := true, apart := false }
def BeatOrdersSaid : Prop := beatOrdersRow.holds Try.pinned (OpenSpec.ofChange beatOrdersSpec)

/-- ITS FALSE NEIGHBOUR: 'it returns false'. Refute it at one input. -/
def beatOrdersWrong : ChangeSpec := { name := "beatOrders", fn := fun _ => fun
  | [d1, d2, d3] => { results := [.lit (.bool false)], args := [d1, d2, d3] }
  | _ => none }
def BeatOrdersWrongFalsely : Prop := beatOrdersRow.holds Try.pinned (OpenSpec.ofChange beatOrdersWrong)

/-- 'mullionlaw23.BeatPlays': WHATEVER THE INPUT: true; the input reads as it did. -/
def beatPlaysSpec : ChangeSpec := { name := "beatPlays", fn := fun _ => fun
  | [d1, d2] => { results := [.lit (.bool true)], args := [d1, d2] }
  | _ => none }
def beatPlaysRow : OpenClaim := { program := "ytaaohfocegnlkaa", sum := "dbf2d1dee31e3fc0dd1292d0679012f29ead7f5111008719304127714a106882", func := "mullion/mullionlaw23.BeatPlays", spec := "beatPlays", unfollowed := true, recurses := true, apart := false }
def BeatPlaysSaid : Prop := beatPlaysRow.holds Try.pinned (OpenSpec.ofChange beatPlaysSpec)

/-- ITS FALSE NEIGHBOUR: 'it returns false'. Refute it at one input. -/
def beatPlaysWrong : ChangeSpec := { name := "beatPlays", fn := fun _ => fun
  | [d1, d2] => { results := [.lit (.bool false)], args := [d1, d2] }
  | _ => none }
def BeatPlaysWrongFalsely : Prop := beatPlaysRow.holds Try.pinned (OpenSpec.ofChange beatPlaysWrong)

/-- 'mullionlaw23.BeatNames': WHATEVER THE INPUT: true; the input reads as it did. -/
def beatNamesSpec : ChangeSpec := { name := "beatNames", fn := fun _ => fun
  | [] => { results := [.lit (.bool true)], args := [] }
  | _ => none }
def beatNamesRow : OpenClaim := { program := "ytaaohfocegnlkaa", sum := "dbf2d1dee31e3fc0dd1292d0679012f29ead7f5111008719304127714a106882", func := "mullion/mullionlaw23.BeatNames", spec := "beatNames", unfollowed := true, recurses := true, apart := false }
def BeatNamesSaid : Prop := beatNamesRow.holds Try.pinned (OpenSpec.ofChange beatNamesSpec)

/-- ITS FALSE NEIGHBOUR: 'it returns false'. Refute it at one input. -/
def beatNamesWrong : ChangeSpec := { name := "beatNames", fn := fun _ => fun
  | [] => { results := [.lit (.bool false)], args := [] }
  | _ => none }
def BeatNamesWrongFalsely : Prop := beatNamesRow.holds Try.pinned (OpenSpec.ofChange beatNamesWrong)

/- THE SECOND FORM. 'bulk': how many values and letters a reading holds, each counted each time it is reached (what is shared counts as often as it is met; a slice's spare places count too). A statement '..UptoSaid' is the law's where the arguments, and the package variables that the reading takes, are together of bulk at most 1048576: NARROWER than '..Said'. Prove '..Said' where nothing that the law and all that it calls make is longer than what came in: it says more and counts as full. Else prove '..UptoSaid'. A law counts once. -/
mutual
def uptoBulk {H : Type} : DataW H → Nat
  | .lit (.string bytes) => bytes.length + 1
  | .lit _ => 1
  | .nil => 1
  | .ptr d => uptoBulk d + 1
  | .slice elems spare => uptoBulkAll elems + uptoBulkAll spare + 1
  | .agg parts => uptoBulkAll parts + 1
  | .iface _ d => uptoBulk d + 1
  | .map entries => uptoBulkEntries entries + 1
  | .held _ => 1
def uptoBulkAll {H : Type} : List (DataW H) → Nat
  | [] => 0
  | d :: r => uptoBulk d + uptoBulkAll r
def uptoBulkEntries {H : Type} : List (Lit × DataW H) → Nat
  | [] => 0
  | x :: r => uptoBulkEntry x + uptoBulkEntries r
def uptoBulkEntry {H : Type} : Lit × DataW H → Nat
  | (.string bytes, d) => bytes.length + uptoBulk d + 1
  | (_, d) => uptoBulk d + 1
 end
def uptoSmall : (H : Type) → List (DataW H) → Bool := fun _ ds => decide (uptoBulkAll ds ≤ 1048576)
def OpenSpec.upto (s : _root_.Go.ChangeSpec) : _root_.Go.OpenSpec := { _root_.Go.OpenSpec.ofChange s with cond := some uptoSmall }

/-- 'mullionlaw23.BeatSets', WHERE WHAT IT READS IS OF BULK AT MOST 1048576: true; the input reads as it did. -/
def beatSetsUptoRow : OpenClaim := { program := "ytaaohfocegnlkaa", sum := "dbf2d1dee31e3fc0dd1292d0679012f29ead7f5111008719304127714a106882", func := "mullion/mullionlaw23.BeatSets", spec := "beatSets", unfollowed := true, recurses := true, apart := false, narrowed := true }
def BeatSetsUptoSaid : Prop := beatSetsUptoRow.holds Try.pinned (OpenSpec.upto beatSetsSpec)

/-- 'mullionlaw23.BeatOrders', WHERE WHAT IT READS IS OF BULK AT MOST 1048576: true; the input reads as it did. -/
def beatOrdersUptoRow : OpenClaim := { program := "ytaaohfocegnlkaa", sum := "dbf2d1dee31e3fc0dd1292d0679012f29ead7f5111008719304127714a106882", func := "mullion/mullionlaw23.BeatOrders", spec := "beatOrders", unfollowed := true, recurses := true, apart := false, narrowed := true }
def BeatOrdersUptoSaid : Prop := beatOrdersUptoRow.holds Try.pinned (OpenSpec.upto beatOrdersSpec)

/-- 'mullionlaw23.BeatPlays', WHERE WHAT IT READS IS OF BULK AT MOST 1048576: true; the input reads as it did. -/
def beatPlaysUptoRow : OpenClaim := { program := "ytaaohfocegnlkaa", sum := "dbf2d1dee31e3fc0dd1292d0679012f29ead7f5111008719304127714a106882", func := "mullion/mullionlaw23.BeatPlays", spec := "beatPlays", unfollowed := true, recurses := true, apart := false, narrowed := true }
def BeatPlaysUptoSaid : Prop := beatPlaysUptoRow.holds Try.pinned (OpenSpec.upto beatPlaysSpec)

/-- 'mullionlaw23.BeatNames', WHERE WHAT IT READS IS OF BULK AT MOST 1048576: true; the input reads as it did. -/
def beatNamesUptoRow : OpenClaim := { program := "ytaaohfocegnlkaa", sum := "dbf2d1dee31e3fc0dd1292d0679012f29ead7f5111008719304127714a106882", func := "mullion/mullionlaw23.BeatNames", spec := "beatNames", unfollowed := true, recurses := true, apart := false, narrowed := true }
def BeatNamesUptoSaid : Prop := beatNamesUptoRow.holds Try.pinned (OpenSpec.upto beatNamesSpec)

end Rows
end Go.Proofs.Ytaaohfocegnlkaa
