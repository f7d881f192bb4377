/-
  No cell of these rows narrows 'for every input' (looked for: loops, veiled, ifaces, maps, wideKeys, modest, calm, conditions, laid).
  DERIVED. THE GIVEN ROWS OF THIS SEAT. 8 by the template 'for every input the law returns true; each argument reads behind the call as it read before'; 0 by the template 'total and deterministic' (their statements: YtjelfiljebamgaaTotals.lean).
  GIVEN WITH THE SEED: the statements are not yours to turn. If you find one false, say at which input.
  Laid BY PROGRAM, IN A SANDBOX (cutbox-rows.mjs): the forced cells as the released guide's own fill.sh prints them over the translation 8a8e949e07d60b83… (all of the seat's roots in one cut). By AI agents, Wed Nov 11 2026. No macro, syntax, notation, axiom, sorry.
-/
import Derived.Test.YtjelfiljebamgaaChecked
import GoSem.Claim
import GoSem.ClaimJoined
import GoSem.ClaimMapViews
import Derived.JoinedTies
import Derived.KernelRfl
namespace Go.Proofs.Ytjelfiljebamgaa
/- THE CELL 'sum', in the pinned program and in every row, IS THE sha256 OF THE DUMP (.gsa) THAT YtjelfiljebamgaaProg.lean LOADS. Nothing in Lean hashes anything: it is a label: what it is worth is what the hold of that sum in a sandbox is worth. -/
noncomputable def Try.pinned : Pinned := { name := "ytjelfiljebamgaa", sum := "8a8e949e07d60b833997165b9f87f643341ed50d71e0418220466142879b3880", checked := Try.checked }
namespace Rows
def none {H : Type} : Left H := { results := [], args := [] }

/-- 'mullionlaw21.PieceForms': WHATEVER THE INPUT: true; the input reads as it did. -/
def pieceFormsSpec : ChangeSpec := { name := "pieceForms", fn := fun _ => fun
  | [d1, d2, d3, d4, d5] => { results := [.lit (.bool true)], args := [d1, d2, d3, d4, d5] }
  | _ => none }
def pieceFormsRow : OpenClaim := { program := "ytjelfiljebamgaa", sum := "8a8e949e07d60b833997165b9f87f643341ed50d71e0418220466142879b3880", func := "mullion/mullionlaw21.PieceForms", spec := "pieceForms", unfollowed := true, recurses := true, apart := false }
def PieceFormsSaid : Prop := pieceFormsRow.holds Try.pinned (OpenSpec.ofChange pieceFormsSpec)

/-- ITS FALSE NEIGHBOUR: 'it returns false'. Refute it at one input. -/
def pieceFormsWrong : ChangeSpec := { name := "pieceForms", fn := fun _ => fun
  | [d1, d2, d3, d4, d5] => { results := [.lit (.bool false)], args := [d1, d2, d3, d4, d5] }
  | _ => none }
def PieceFormsWrongFalsely : Prop := pieceFormsRow.holds Try.pinned (OpenSpec.ofChange pieceFormsWrong)

/-- 'mullionlaw21.PieceAgain': WHATEVER THE INPUT: true; the input reads as it did. -/
def pieceAgainSpec : ChangeSpec := { name := "pieceAgain", fn := fun _ => fun
  | [d1, d2] => { results := [.lit (.bool true)], args := [d1, d2] }
  | _ => none }
def pieceAgainRow : OpenClaim := { program := "ytjelfiljebamgaa", sum := "8a8e949e07d60b833997165b9f87f643341ed50d71e0418220466142879b3880", func := "mullion/mullionlaw21.PieceAgain", spec := "pieceAgain", unfollowed := true, recurses := true, apart := false }
def PieceAgainSaid : Prop := pieceAgainRow.holds Try.pinned (OpenSpec.ofChange pieceAgainSpec)

/-- ITS FALSE NEIGHBOUR: 'it returns false'. Refute it at one input. -/
def pieceAgainWrong : ChangeSpec := { name := "pieceAgain", fn := fun _ => fun
  | [d1, d2] => { results := [.lit (.bool false)], args := [d1, d2] }
  | _ => none }
def PieceAgainWrongFalsely : Prop := pieceAgainRow.holds Try.pinned (OpenSpec.ofChange pieceAgainWrong)

/-- 'mullionlaw21.PieceBoxes': WHATEVER THE INPUT: true; the input reads as it did. -/
def pieceBoxesSpec : ChangeSpec := { name := "pieceBoxes", fn := fun _ => fun
  | [d1, d2] => { results := [.lit (.bool true)], args := [d1, d2] }
  | _ => none }
def pieceBoxesRow : OpenClaim := { program := "ytjelfiljebamgaa", sum := "8a8e949e07d60b833997165b9f87f643341ed50d71e0418220466142879b3880", func := "mullion/mullionlaw21.PieceBoxes", spec := "pieceBoxes", recurses := true, apart := false }
def PieceBoxesSaid : Prop := pieceBoxesRow.holds Try.pinned (OpenSpec.ofChange pieceBoxesSpec)

/-- ITS FALSE NEIGHBOUR: 'it returns false'. Refute it at one input. -/
def pieceBoxesWrong : ChangeSpec := { name := "pieceBoxes", fn := fun _ => fun
  | [d1, d2] => { results := [.lit (.bool false)], args := [d1, d2] }
  | _ => none }
def PieceBoxesWrongFalsely : Prop := pieceBoxesRow.holds Try.pinned (OpenSpec.ofChange pieceBoxesWrong)

/-- 'mullionlaw21.PieceRoom': WHATEVER THE INPUT: true; the input reads as it did. -/
def pieceRoomSpec : ChangeSpec := { name := "pieceRoom", fn := fun _ => fun
  | [d1, d2] => { results := [.lit (.bool true)], args := [d1, d2] }
  | _ => none }
def pieceRoomRow : OpenClaim := { program := "ytjelfiljebamgaa", sum := "8a8e949e07d60b833997165b9f87f643341ed50d71e0418220466142879b3880", func := "mullion/mullionlaw21.PieceRoom", spec := "pieceRoom", unfollowed := true, recurses := true, apart := false }
def PieceRoomSaid : Prop := pieceRoomRow.holds Try.pinned (OpenSpec.ofChange pieceRoomSpec)

/-- ITS FALSE NEIGHBOUR: 'it returns false'. Refute it at one input. -/
def pieceRoomWrong : ChangeSpec := { name := "pieceRoom", fn := fun _ => fun
  | [d1, d2] => { results := [.lit (.bool false)], args := [d1, d2] }
  | _ => none }
def PieceRoomWrongFalsely : Prop := pieceRoomRow.holds Try.pinned (OpenSpec.ofChange pieceRoomWrong)

/-- 'mullionlaw21.PieceBack': WHATEVER THE INPUT: true; the input reads as it did. -/
def pieceBackSpec : ChangeSpec := { name := "pieceBack", fn := fun _ => fun
  | [d1, d2, d3] => { results := [.lit (.bool true)], args := [d1, d2, d3] }
  | _ => none }
def pieceBackRow : OpenClaim := { program := "ytjelfiljebamgaa", sum := "8a8e949e07d60b833997165b9f87f643341ed50d71e0418220466142879b3880", func := "mullion/mullionlaw21.PieceBack", spec := "pieceBack", unfollowed := true, recurses := true, apart := false }
def PieceBackSaid : Prop := pieceBackRow.holds Try.pinned (OpenSpec.ofChange pieceBackSpec)

/-- ITS FALSE NEIGHBOUR: 'it returns false'. Refute it at one input. -/
def pieceBackWrong : ChangeSpec := { name := "pieceBack", fn := fun _ => fun
  | [d1, d2, d3] => { results := [.lit (.bool false)], args := [d1, d2, d3] }
  | _ => none }
def PieceBackWrongFalsely : Prop := pieceBackRow.holds Try.pinned (OpenSpec.ofChange pieceBackWrong)

/-- 'mullionlaw21.PieceNames': WHATEVER THE INPUT: true; the input reads as it did. -/
def pieceNamesSpec : ChangeSpec := { name := "pieceNames", fn := fun _ => fun
  | [] => { results := [.lit (.bool true)], args := [] }
  | _ => none }
def pieceNamesRow : OpenClaim := { program := "ytjelfiljebamgaa", sum := "8a8e949e07d60b833997165b9f87f643341ed50d71e0418220466142879b3880", func := "mullion/mullionlaw21.PieceNames", spec := "pieceNames", unfollowed := true, recurses := true, apart := false }
def PieceNamesSaid : Prop := pieceNamesRow.holds Try.pinned (OpenSpec.ofChange pieceNamesSpec)

/-- ITS FALSE NEIGHBOUR: 'it returns false'. Refute it at one input. -/
def pieceNamesWrong : ChangeSpec := { name := "pieceNames", fn := fun _ => fun
  | [] => { results := [.lit (.bool false)], args := [] }
  | _ => none }
def PieceNamesWrongFalsely : Prop := pieceNamesRow.holds Try.pinned (OpenSpec.ofChange pieceNamesWrong)

/-- 'mullionlaw28.NodeForms': WHATEVER THE INPUT: true; the input reads as it did. -/
def nodeFormsSpec : ChangeSpec := { name := "nodeForms", fn := fun _ => fun
  | [d1, d2] => { results := [.lit (.bool true)], args := [d1, d2] }
  | _ => none }
def nodeFormsRow : OpenClaim := { program := "ytjelfiljebamgaa", sum := "8a8e949e07d60b833997165b9f87f643341ed50d71e0418220466142879b3880", func := "mullion/mullionlaw28.NodeForms", spec := "nodeForms", unfollowed := true, recurses := true, apart := false }
def NodeFormsSaid : Prop := nodeFormsRow.holds Try.pinned (OpenSpec.ofChange nodeFormsSpec)

/-- ITS FALSE NEIGHBOUR: 'it returns false'. Refute it at one input. -/
def nodeFormsWrong : ChangeSpec := { name := "nodeForms", fn := fun _ => fun
  | [d1, d2] => { results := [.lit (.bool false)], args := [d1, d2] }
  | _ => none }
def NodeFormsWrongFalsely : Prop := nodeFormsRow.holds Try.pinned (OpenSpec.ofChange nodeFormsWrong)

/-- 'mullionlaw28.NodeAgain': WHATEVER THE INPUT: true; the input reads as it did. -/
def nodeAgainSpec : ChangeSpec := { name := "nodeAgain", fn := fun _ => fun
  | [d1, d2] => { results := [.lit (.bool true)], args := [d1, d2] }
  | _ => none }
def nodeAgainRow : OpenClaim := { program := "ytjelfiljebamgaa", sum := "8a8e949e07d60b833997165b9f87f643341ed50d71e0418220466142879b3880", func := "mullion/mullionlaw28.NodeAgain", spec := "nodeAgain", unfollowed := true, recurses := true, apart := false }
def NodeAgainSaid : Prop := nodeAgainRow.holds Try.pinned (OpenSpec.ofChange nodeAgainSpec)

/-- ITS FALSE NEIGHBOUR: 'it returns false'. Refute it at one input. -/
def nodeAgainWrong : ChangeSpec := { name := "nodeAgain", fn := fun _ => fun
  | [d1, d2] => { results := [.lit (.bool false)], args := [d1, d2] }
  | _ => none }
def NodeAgainWrongFalsely : Prop := nodeAgainRow.holds Try.pinned (OpenSpec.ofChange nodeAgainWrong)

/- THE SECOND FORM. 'bulk': how many values and letters a reading holds, each counted each time it is reached (what is shared counts as often as it is met; a slice's spare places count too). A statement '..UptoSaid' is the law's where the arguments, and the package variables that the reading takes, are together of bulk at most 1048576: NARROWER than '..Said'. Prove '..Said' where nothing that the law and all that it calls make is longer than what came in: it says more and counts as full. Else prove '..UptoSaid'. A law counts once. -/
mutual
def uptoBulk {H : Type} : DataW H → Nat
  | .lit (.string bytes) => bytes.length + 1
  | .lit _ => 1
  | .nil => 1
  | .ptr d => uptoBulk d + 1
  | .slice elems spare => uptoBulkAll elems + uptoBulkAll spare + 1
  | .agg parts => uptoBulkAll parts + 1
  | .iface _ d => uptoBulk d + 1
  | .map entries => uptoBulkEntries entries + 1
  | .held _ => 1
def uptoBulkAll {H : Type} : List (DataW H) → Nat
  | [] => 0
  | d :: r => uptoBulk d + uptoBulkAll r
def uptoBulkEntries {H : Type} : List (Lit × DataW H) → Nat
  | [] => 0
  | x :: r => uptoBulkEntry x + uptoBulkEntries r
def uptoBulkEntry {H : Type} : Lit × DataW H → Nat
  | (.string bytes, d) => bytes.length + uptoBulk d + 1
  | (_, d) => uptoBulk d + 1
 end
def uptoSmall : (H : Type) → List (DataW H) → Bool := fun _ ds => decide (uptoBulkAll ds ≤ 1048576)
def OpenSpec.upto (s : _root_.Go.ChangeSpec) : _root_.Go.OpenSpec := { _root_.Go.OpenSpec.ofChange s with cond := some uptoSmall }

/-- 'mullionlaw21.PieceForms', WHERE WHAT IT READS IS OF BULK AT MOST 1048576: true; the input reads as it did. -/
def pieceFormsUptoRow : OpenClaim := { program := "ytjelfiljebamgaa", sum := "8a8e949e07d60b833997165b9f87f643341ed50d71e0418220466142879b3880", func := "mullion/mullionlaw21.PieceForms", spec := "pieceForms", unfollowed := true, recurses := true, apart := false, narrowed := true }
def PieceFormsUptoSaid : Prop := pieceFormsUptoRow.holds Try.pinned (OpenSpec.upto pieceFormsSpec)

/-- 'mullionlaw21.PieceAgain', WHERE WHAT IT READS IS OF BULK AT MOST 1048576: true; the input reads as it did. -/
def pieceAgainUptoRow : OpenClaim := { program := "ytjelfiljebamgaa", sum := "8a8e949e07d60b833997165b9f87f643341ed50d71e0418220466142879b3880", func := "mullion/mullionlaw21.PieceAgain", spec := "pieceAgain", unfollowed := true, recurses := true, apart := false, narrowed := true }
def PieceAgainUptoSaid : Prop := pieceAgainUptoRow.holds Try.pinned (OpenSpec.upto pieceAgainSpec)

/-- 'mullionlaw21.PieceBoxes', WHERE WHAT IT READS IS OF BULK AT MOST 1048576: true; the input reads as it did. -/
def pieceBoxesUptoRow : OpenClaim := { program := "ytjelfiljebamgaa", sum := "8a8e949e07d60b833997165b9f87f643341ed50d71e0418220466142879b3880", func := "mullion/mullionlaw21.PieceBoxes", spec := "pieceBoxes", recurses := true, apart := false, narrowed := true }
def PieceBoxesUptoSaid : Prop := pieceBoxesUptoRow.holds Try.pinned (OpenSpec.upto pieceBoxesSpec)

/-- 'mullionlaw21.PieceRoom', WHERE WHAT IT READS IS OF BULK AT MOST 1048576: true; the input reads as it did. -/
def pieceRoomUptoRow : OpenClaim := { program := "ytjelfiljebamgaa", sum := "8a8e949e07d60b833997165b9f87f643341ed50d71e0418220466142879b3880", func := "mullion/mullionlaw21.PieceRoom", spec := "pieceRoom", unfollowed := true, recurses := true, apart := false, narrowed := true }
def PieceRoomUptoSaid : Prop := pieceRoomUptoRow.holds Try.pinned (OpenSpec.upto pieceRoomSpec)

/-- 'mullionlaw21.PieceBack', WHERE WHAT IT READS IS OF BULK AT MOST 1048576: true; the input reads as it did. -/
def pieceBackUptoRow : OpenClaim := { program := "ytjelfiljebamgaa", sum := "8a8e949e07d60b833997165b9f87f643341ed50d71e0418220466142879b3880", func := "mullion/mullionlaw21.PieceBack", spec := "pieceBack", unfollowed := true, recurses := true, apart := false, narrowed := true }
def PieceBackUptoSaid : Prop := pieceBackUptoRow.holds Try.pinned (OpenSpec.upto pieceBackSpec)

/-- 'mullionlaw21.PieceNames', WHERE WHAT IT READS IS OF BULK AT MOST 1048576: true; the input reads as it did. -/
def pieceNamesUptoRow : OpenClaim := { program := "ytjelfiljebamgaa", sum := "8a8e949e07d60b833997165b9f87f643341ed50d71e0418220466142879b3880", func := "mullion/mullionlaw21.PieceNames", spec := "pieceNames", unfollowed := true, recurses := true, apart := false, narrowed := true }
def PieceNamesUptoSaid : Prop := pieceNamesUptoRow.holds Try.pinned (OpenSpec.upto pieceNamesSpec)

/-- 'mullionlaw28.NodeForms', WHERE WHAT IT READS IS OF BULK AT MOST 1048576: true; the input reads as it did. -/
def nodeFormsUptoRow : OpenClaim := { program := "ytjelfiljebamgaa", sum := "8a8e949e07d60b833997165b9f87f643341ed50d71e0418220466142879b3880", func := "mullion/mullionlaw28.NodeForms", spec := "nodeForms", unfollowed := true, recurses := true, apart := false, narrowed := true }
def NodeFormsUptoSaid : Prop := nodeFormsUptoRow.holds Try.pinned (OpenSpec.upto nodeFormsSpec)

/-- 'mullionlaw28.NodeAgain', WHERE WHAT IT READS IS OF BULK AT MOST 1048576: true; the input reads as it did. -/
def nodeAgainUptoRow : OpenClaim := { program := "ytjelfiljebamgaa", sum := "8a8e949e07d60b833997165b9f87f643341ed50d71e0418220466142879b3880", func := "mullion/mullionlaw28.NodeAgain", spec := "nodeAgain", unfollowed := true, recurses := true, apart := false, narrowed := true }
def NodeAgainUptoSaid : Prop := nodeAgainUptoRow.holds Try.pinned (OpenSpec.upto nodeAgainSpec)

end Rows
end Go.Proofs.Ytjelfiljebamgaa
