/-
  No cell of these rows narrows 'for every input' (looked for: loops, veiled, ifaces, maps, wideKeys, modest, calm, conditions, laid).
  DERIVED. THE GIVEN ROWS OF THIS SEAT. 4 by the template 'for every input the law returns true; each argument reads behind the call as it read before'; 0 by the template 'total and deterministic' (their statements: YtempbaflcbmcpaaTotals.lean).
  GIVEN WITH THE SEED: the statements are not yours to turn. If you find one false, say at which input.
  Laid BY PROGRAM, IN A SANDBOX (cutbox-rows.mjs): the forced cells as the released guide's own fill.sh prints them over the translation a666954d70bdf9e4… (all of the seat's roots in one cut). By AI agents, Wed Nov 11 2026. No macro, syntax, notation, axiom, sorry.
-/
import Derived.Test.YtempbaflcbmcpaaChecked
import GoSem.Claim
import GoSem.ClaimJoined
import GoSem.ClaimMapViews
import Derived.JoinedTies
import Derived.KernelRfl
namespace Go.Proofs.Ytempbaflcbmcpaa
/- THE CELL 'sum', in the pinned program and in every row, IS THE sha256 OF THE DUMP (.gsa) THAT YtempbaflcbmcpaaProg.lean LOADS. Nothing in Lean hashes anything: it is a label: what it is worth is what the hold of that sum in a sandbox is worth. -/
noncomputable def Try.pinned : Pinned := { name := "ytempbaflcbmcpaa", sum := "a666954d70bdf9e49c83404d613f99545d60aacc34beb7e418649152125c4c13", checked := Try.checked }
namespace Rows
def none {H : Type} : Left H := { results := [], args := [] }

/-- 'palatinelaw04.TreeLen': WHATEVER THE INPUT: true; the input reads as it did. -/
def treeLenSpec : ChangeSpec := { name := "treeLen", fn := fun _ => fun
  | [d1, d2] => { results := [.lit (.bool true)], args := [d1, d2] }
  | _ => none }
def treeLenRow : OpenClaim := { program := "ytempbaflcbmcpaa", sum := "a666954d70bdf9e49c83404d613f99545d60aacc34beb7e418649152125c4c13", func := "palatine/palatinelaw04.TreeLen", spec := "treeLen", inPlace := ["slices.overlaps[palatine/tree.item[string]]", "slices.overlaps[palatine/tree.item[*palatine/tree.node]]"], unfollowed := true, recurses := true, apart := false }
def TreeLenSaid : Prop := treeLenRow.holds Try.pinned (OpenSpec.ofChange treeLenSpec)

/-- ITS FALSE NEIGHBOUR: 'it returns false'. Refute it at one input. -/
def treeLenWrong : ChangeSpec := { name := "treeLen", fn := fun _ => fun
  | [d1, d2] => { results := [.lit (.bool false)], args := [d1, d2] }
  | _ => none }
def TreeLenWrongFalsely : Prop := treeLenRow.holds Try.pinned (OpenSpec.ofChange treeLenWrong)

/-- 'palatinelaw04.TreeApart': WHATEVER THE INPUT: true; the input reads as it did. -/
def treeApartSpec : ChangeSpec := { name := "treeApart", fn := fun _ => fun
  | [d1, d2, d3] => { results := [.lit (.bool true)], args := [d1, d2, d3] }
  | _ => none }
def treeApartRow : OpenClaim := { program := "ytempbaflcbmcpaa", sum := "a666954d70bdf9e49c83404d613f99545d60aacc34beb7e418649152125c4c13", func := "palatine/palatinelaw04.TreeApart", spec := "treeApart", inPlace := ["slices.overlaps[palatine/tree.item[string]]", "slices.overlaps[palatine/tree.item[*palatine/tree.node]]"], unfollowed := true, recurses := true, apart := false }
def TreeApartSaid : Prop := treeApartRow.holds Try.pinned (OpenSpec.ofChange treeApartSpec)

/-- ITS FALSE NEIGHBOUR: 'it returns false'. Refute it at one input. -/
def treeApartWrong : ChangeSpec := { name := "treeApart", fn := fun _ => fun
  | [d1, d2, d3] => { results := [.lit (.bool false)], args := [d1, d2, d3] }
  | _ => none }
def TreeApartWrongFalsely : Prop := treeApartRow.holds Try.pinned (OpenSpec.ofChange treeApartWrong)

/-- 'palatinelaw04.TreeUndo': WHATEVER THE INPUT: true; the input reads as it did. -/
def treeUndoSpec : ChangeSpec := { name := "treeUndo", fn := fun _ => fun
  | [d1, d2, d3] => { results := [.lit (.bool true)], args := [d1, d2, d3] }
  | _ => none }
def treeUndoRow : OpenClaim := { program := "ytempbaflcbmcpaa", sum := "a666954d70bdf9e49c83404d613f99545d60aacc34beb7e418649152125c4c13", func := "palatine/palatinelaw04.TreeUndo", spec := "treeUndo", inPlace := ["slices.overlaps[palatine/tree.item[string]]", "slices.overlaps[palatine/tree.item[*palatine/tree.node]]"], unfollowed := true, recurses := true, apart := false }
def TreeUndoSaid : Prop := treeUndoRow.holds Try.pinned (OpenSpec.ofChange treeUndoSpec)

/-- ITS FALSE NEIGHBOUR: 'it returns false'. Refute it at one input. -/
def treeUndoWrong : ChangeSpec := { name := "treeUndo", fn := fun _ => fun
  | [d1, d2, d3] => { results := [.lit (.bool false)], args := [d1, d2, d3] }
  | _ => none }
def TreeUndoWrongFalsely : Prop := treeUndoRow.holds Try.pinned (OpenSpec.ofChange treeUndoWrong)

/-- 'palatinelaw04.TreePlays': WHATEVER THE INPUT: true; the input reads as it did. -/
def treePlaysSpec : ChangeSpec := { name := "treePlays", fn := fun _ => fun
  | [d1, d2] => { results := [.lit (.bool true)], args := [d1, d2] }
  | _ => none }
def treePlaysRow : OpenClaim := { program := "ytempbaflcbmcpaa", sum := "a666954d70bdf9e49c83404d613f99545d60aacc34beb7e418649152125c4c13", func := "palatine/palatinelaw04.TreePlays", spec := "treePlays", inPlace := ["slices.overlaps[palatine/tree.item[string]]", "slices.overlaps[palatine/tree.item[*palatine/tree.node]]"], unfollowed := true, recurses := true, apart := false }
def TreePlaysSaid : Prop := treePlaysRow.holds Try.pinned (OpenSpec.ofChange treePlaysSpec)

/-- ITS FALSE NEIGHBOUR: 'it returns false'. Refute it at one input. -/
def treePlaysWrong : ChangeSpec := { name := "treePlays", fn := fun _ => fun
  | [d1, d2] => { results := [.lit (.bool false)], args := [d1, d2] }
  | _ => none }
def TreePlaysWrongFalsely : Prop := treePlaysRow.holds Try.pinned (OpenSpec.ofChange treePlaysWrong)

/- THE SECOND FORM. 'bulk': how many values and letters a reading holds, each counted each time it is reached (what is shared counts as often as it is met; a slice's spare places count too). A statement '..UptoSaid' is the law's where the arguments, and the package variables that the reading takes, are together of bulk at most 1048576: NARROWER than '..Said'. Prove '..Said' where nothing that the law and all that it calls make is longer than what came in: it says more and counts as full. Else prove '..UptoSaid'. A law counts once. -/
mutual
def uptoBulk {H : Type} : DataW H → Nat
  | .lit (.string bytes) => bytes.length + 1
  | .lit _ => 1
  | .nil => 1
  | .ptr d => uptoBulk d + 1
  | .slice elems spare => uptoBulkAll elems + uptoBulkAll spare + 1
  | .agg parts => uptoBulkAll parts + 1
  | .iface _ d => uptoBulk d + 1
  | .map entries => uptoBulkEntries entries + 1
  | .held _ => 1
def uptoBulkAll {H : Type} : List (DataW H) → Nat
  | [] => 0
  | d :: r => uptoBulk d + uptoBulkAll r
def uptoBulkEntries {H : Type} : List (Lit × DataW H) → Nat
  | [] => 0
  | x :: r => uptoBulkEntry x + uptoBulkEntries r
def uptoBulkEntry {H : Type} : Lit × DataW H → Nat
  | (.string bytes, d) => bytes.length + uptoBulk d + 1
  | (_, d) => uptoBulk d + 1
 end
def uptoSmall : (H : Type) → List (DataW H) → Bool := fun _ ds => decide (uptoBulkAll ds ≤ 1048576)
def OpenSpec.upto (s : _root_.Go.ChangeSpec) : _root_.Go.OpenSpec := { _root_.Go.OpenSpec.ofChange s with cond := some uptoSmall }

/-- 'palatinelaw04.TreeLen', WHERE WHAT IT READS IS OF BULK AT MOST 1048576: true; the input reads as it did. -/
def treeLenUptoRow : OpenClaim := { program := "ytempbaflcbmcpaa", sum := "a666954d70bdf9e49c83404d613f99545d60aacc34beb7e418649152125c4c13", func := "palatine/palatinelaw04.TreeLen", spec := "treeLen", inPlace := ["slices.overlaps[palatine/tree.item[string]]", "slices.overlaps[palatine/tree.item[*palatine/tree.node]]"], unfollowed := true, recurses := true, apart := false, narrowed := true }
def TreeLenUptoSaid : Prop := treeLenUptoRow.holds Try.pinned (OpenSpec.upto treeLenSpec)

/-- 'palatinelaw04.TreeApart', WHERE WHAT IT READS IS OF BULK AT MOST 1048576: true; the input reads as it did. -/
def treeApartUptoRow : OpenClaim := { program := "ytempbaflcbmcpaa", sum := "a666954d70bdf9e49c83404d613f99545d60aacc34beb7e418649152125c4c13", func := "palatine/palatinelaw04.TreeApart", spec := "treeApart", inPlace := ["slices.overlaps[palatine/tree.item[string]]", "slices.overlaps[palatine/tree.item[*palatine/tree.node]]"], unfollowed := true, recurses := true, apart := false, narrowed := true }
def TreeApartUptoSaid : Prop := treeApartUptoRow.holds Try.pinned (OpenSpec.upto treeApartSpec)

/-- 'palatinelaw04.TreeUndo', WHERE WHAT IT READS IS OF BULK AT MOST 1048576: true; the input reads as it did. -/
def treeUndoUptoRow : OpenClaim := { program := "ytempbaflcbmcpaa", sum := "a666954d70bdf9e49c83404d613f99545d60aacc34beb7e418649152125c4c13", func := "palatine/palatinelaw04.TreeUndo", spec := "treeUndo", inPlace := ["slices.overlaps[palatine/tree.item[string]]", "slices.overlaps[palatine/tree.item[*palatine/tree.node]]"], unfollowed := true, recurses := true, apart := false, narrowed := true }
def TreeUndoUptoSaid : Prop := treeUndoUptoRow.holds Try.pinned (OpenSpec.upto treeUndoSpec)

/-- 'palatinelaw04.TreePlays', WHERE WHAT IT READS IS OF BULK AT MOST 1048576: true; the input reads as it did. -/
def treePlaysUptoRow : OpenClaim := { program := "ytempbaflcbmcpaa", sum := "a666954d70bdf9e49c83404d613f99545d60aacc34beb7e418649152125c4c13", func := "palatine/palatinelaw04.TreePlays", spec := "treePlays", inPlace := ["slices.overlaps[palatine/tree.item[string]]", "slices.overlaps[palatine/tree.item[*palatine/tree.node]]"], unfollowed := true, recurses := true, apart := false, narrowed := true }
def TreePlaysUptoSaid : Prop := treePlaysUptoRow.holds Try.pinned (OpenSpec.upto treePlaysSpec)

end Rows
end Go.Proofs.Ytempbaflcbmcpaa
