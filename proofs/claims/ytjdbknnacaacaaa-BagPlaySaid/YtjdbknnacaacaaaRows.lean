/-
  No cell of these rows narrows 'for every input' (looked for: loops, veiled, ifaces, maps, wideKeys, modest, calm, conditions, laid).
  DERIVED. THE GIVEN ROWS OF THIS SEAT. 8 by the template 'for every input the law returns true; each argument reads behind the call as it read before'; 0 by the template 'total and deterministic' (their statements: YtjdbknnacaacaaaTotals.lean).
  GIVEN WITH THE SEED: the statements are not yours to turn. If you find one false, say at which input.
  Laid BY PROGRAM, IN A SANDBOX (cutbox-rows.mjs): the forced cells as the released guide's own fill.sh prints them over the translation f5c9f96caaa4e6aa… (all of the seat's roots in one cut). By AI agents, Wed Nov 11 2026. No macro, syntax, notation, axiom, sorry.
-/
import Derived.Test.YtjdbknnacaacaaaChecked
import GoSem.Claim
import GoSem.ClaimJoined
import GoSem.ClaimMapViews
import Derived.JoinedTies
import Derived.KernelRfl
namespace Go.Proofs.Ytjdbknnacaacaaa
/- THE CELL 'sum', in the pinned program and in every row, IS THE sha256 OF THE DUMP (.gsa) THAT YtjdbknnacaacaaaProg.lean LOADS. Nothing in Lean hashes anything: it is a label: what it is worth is what the hold of that sum in a sandbox is worth. -/
noncomputable def Try.pinned : Pinned := { name := "ytjdbknnacaacaaa", sum := "f5c9f96caaa4e6aa2b23eba1374875f21f1f80abb5282e337a6f1ffb82593f3c", checked := Try.checked }
namespace Rows
def none {H : Type} : Left H := { results := [], args := [] }

/-- 'quilletlaw09.BagFull': WHATEVER THE INPUT: true; the input reads as it did. -/
def bagFullSpec : ChangeSpec := { name := "bagFull", fn := fun _ => fun
  | [] => { results := [.lit (.bool true)], args := [] }
  | _ => none }
def bagFullRow : OpenClaim := { program := "ytjdbknnacaacaaa", sum := "f5c9f96caaa4e6aa2b23eba1374875f21f1f80abb5282e337a6f1ffb82593f3c", func := "quillet/quilletlaw09.BagFull", spec := "bagFull", unfollowed := true, recurses := true, apart := false }
def BagFullSaid : Prop := bagFullRow.holds Try.pinned (OpenSpec.ofChange bagFullSpec)

/-- ITS FALSE NEIGHBOUR: 'it returns false'. Refute it at one input. -/
def bagFullWrong : ChangeSpec := { name := "bagFull", fn := fun _ => fun
  | [] => { results := [.lit (.bool false)], args := [] }
  | _ => none }
def BagFullWrongFalsely : Prop := bagFullRow.holds Try.pinned (OpenSpec.ofChange bagFullWrong)

/-- 'quilletlaw09.BagPlay': WHATEVER THE INPUT: true; the input reads as it did. -/
def bagPlaySpec : ChangeSpec := { name := "bagPlay", fn := fun _ => fun
  | [d1, d2, d3] => { results := [.lit (.bool true)], args := [d1, d2, d3] }
  | _ => none }
def bagPlayRow : OpenClaim := { program := "ytjdbknnacaacaaa", sum := "f5c9f96caaa4e6aa2b23eba1374875f21f1f80abb5282e337a6f1ffb82593f3c", func := "quillet/quilletlaw09.BagPlay", spec := "bagPlay", unfollowed := true, recurses := true, apart := false }
def BagPlaySaid : Prop := bagPlayRow.holds Try.pinned (OpenSpec.ofChange bagPlaySpec)

/-- ITS FALSE NEIGHBOUR: 'it returns false'. Refute it at one input. -/
def bagPlayWrong : ChangeSpec := { name := "bagPlay", fn := fun _ => fun
  | [d1, d2, d3] => { results := [.lit (.bool false)], args := [d1, d2, d3] }
  | _ => none }
def BagPlayWrongFalsely : Prop := bagPlayRow.holds Try.pinned (OpenSpec.ofChange bagPlayWrong)

/-- 'quilletlaw09.BagNodes': WHATEVER THE INPUT: true; the input reads as it did. -/
def bagNodesSpec : ChangeSpec := { name := "bagNodes", fn := fun _ => fun
  | [d1, d2] => { results := [.lit (.bool true)], args := [d1, d2] }
  | _ => none }
def bagNodesRow : OpenClaim := { program := "ytjdbknnacaacaaa", sum := "f5c9f96caaa4e6aa2b23eba1374875f21f1f80abb5282e337a6f1ffb82593f3c", func := "quillet/quilletlaw09.BagNodes", spec := "bagNodes", unfollowed := true, recurses := true, apart := false }
def BagNodesSaid : Prop := bagNodesRow.holds Try.pinned (OpenSpec.ofChange bagNodesSpec)

/-- ITS FALSE NEIGHBOUR: 'it returns false'. Refute it at one input. -/
def bagNodesWrong : ChangeSpec := { name := "bagNodes", fn := fun _ => fun
  | [d1, d2] => { results := [.lit (.bool false)], args := [d1, d2] }
  | _ => none }
def BagNodesWrongFalsely : Prop := bagNodesRow.holds Try.pinned (OpenSpec.ofChange bagNodesWrong)

/-- 'quilletlaw09.BagLists': WHATEVER THE INPUT: true; the input reads as it did. -/
def bagListsSpec : ChangeSpec := { name := "bagLists", fn := fun _ => fun
  | [d1, d2, d3] => { results := [.lit (.bool true)], args := [d1, d2, d3] }
  | _ => none }
def bagListsRow : OpenClaim := { program := "ytjdbknnacaacaaa", sum := "f5c9f96caaa4e6aa2b23eba1374875f21f1f80abb5282e337a6f1ffb82593f3c", func := "quillet/quilletlaw09.BagLists", spec := "bagLists", unfollowed := true, recurses := true, apart := false }
def BagListsSaid : Prop := bagListsRow.holds Try.pinned (OpenSpec.ofChange bagListsSpec)

/-- ITS FALSE NEIGHBOUR: 'it returns false'. Refute it at one input. -/
def bagListsWrong : ChangeSpec := { name := "bagLists", fn := fun _ => fun
  | [d1, d2, d3] => { results := [.lit (.bool false)], args := [d1, d2, d3] }
  | _ => none }
def BagListsWrongFalsely : Prop := bagListsRow.holds Try.pinned (OpenSpec.ofChange bagListsWrong)

/-- 'quilletlaw09.BagKnown': WHATEVER THE INPUT: true; the input reads as it did. -/
def bagKnownSpec : ChangeSpec := { name := "bagKnown", fn := fun _ => fun
  | [] => { results := [.lit (.bool true)], args := [] }
  | _ => none }
def bagKnownRow : OpenClaim := { program := "ytjdbknnacaacaaa", sum := "f5c9f96caaa4e6aa2b23eba1374875f21f1f80abb5282e337a6f1ffb82593f3c", func := "quillet/quilletlaw09.BagKnown", spec := "bagKnown", unfollowed := true, recurses := true, apart := false }
def BagKnownSaid : Prop := bagKnownRow.holds Try.pinned (OpenSpec.ofChange bagKnownSpec)

/-- ITS FALSE NEIGHBOUR: 'it returns false'. Refute it at one input. -/
def bagKnownWrong : ChangeSpec := { name := "bagKnown", fn := fun _ => fun
  | [] => { results := [.lit (.bool false)], args := [] }
  | _ => none }
def BagKnownWrongFalsely : Prop := bagKnownRow.holds Try.pinned (OpenSpec.ofChange bagKnownWrong)

/-- 'quilletlaw11.SlabBlocks': WHATEVER THE INPUT: true; the input reads as it did. -/
def slabBlocksSpec : ChangeSpec := { name := "slabBlocks", fn := fun _ => fun
  | [d1, d2, d3] => { results := [.lit (.bool true)], args := [d1, d2, d3] }
  | _ => none }
def slabBlocksRow : OpenClaim := { program := "ytjdbknnacaacaaa", sum := "f5c9f96caaa4e6aa2b23eba1374875f21f1f80abb5282e337a6f1ffb82593f3c", func := "quillet/quilletlaw11.SlabBlocks", spec := "slabBlocks", unfollowed := true, recurses := true, apart := false }
def SlabBlocksSaid : Prop := slabBlocksRow.holds Try.pinned (OpenSpec.ofChange slabBlocksSpec)

/-- ITS FALSE NEIGHBOUR: 'it returns false'. Refute it at one input. -/
def slabBlocksWrong : ChangeSpec := { name := "slabBlocks", fn := fun _ => fun
  | [d1, d2, d3] => { results := [.lit (.bool false)], args := [d1, d2, d3] }
  | _ => none }
def SlabBlocksWrongFalsely : Prop := slabBlocksRow.holds Try.pinned (OpenSpec.ofChange slabBlocksWrong)

/-- 'quilletlaw11.SlabPlay': WHATEVER THE INPUT: true; the input reads as it did. -/
def slabPlaySpec : ChangeSpec := { name := "slabPlay", fn := fun _ => fun
  | [d1, d2] => { results := [.lit (.bool true)], args := [d1, d2] }
  | _ => none }
def slabPlayRow : OpenClaim := { program := "ytjdbknnacaacaaa", sum := "f5c9f96caaa4e6aa2b23eba1374875f21f1f80abb5282e337a6f1ffb82593f3c", func := "quillet/quilletlaw11.SlabPlay", spec := "slabPlay", unfollowed := true, recurses := true, apart := false }
def SlabPlaySaid : Prop := slabPlayRow.holds Try.pinned (OpenSpec.ofChange slabPlaySpec)

/-- ITS FALSE NEIGHBOUR: 'it returns false'. Refute it at one input. -/
def slabPlayWrong : ChangeSpec := { name := "slabPlay", fn := fun _ => fun
  | [d1, d2] => { results := [.lit (.bool false)], args := [d1, d2] }
  | _ => none }
def SlabPlayWrongFalsely : Prop := slabPlayRow.holds Try.pinned (OpenSpec.ofChange slabPlayWrong)

/-- 'quilletlaw11.SlabKnown': WHATEVER THE INPUT: true; the input reads as it did. -/
def slabKnownSpec : ChangeSpec := { name := "slabKnown", fn := fun _ => fun
  | [] => { results := [.lit (.bool true)], args := [] }
  | _ => none }
def slabKnownRow : OpenClaim := { program := "ytjdbknnacaacaaa", sum := "f5c9f96caaa4e6aa2b23eba1374875f21f1f80abb5282e337a6f1ffb82593f3c", func := "quillet/quilletlaw11.SlabKnown", spec := "slabKnown", unfollowed := true, recurses := true, apart := false }
def SlabKnownSaid : Prop := slabKnownRow.holds Try.pinned (OpenSpec.ofChange slabKnownSpec)

/-- ITS FALSE NEIGHBOUR: 'it returns false'. Refute it at one input. -/
def slabKnownWrong : ChangeSpec := { name := "slabKnown", fn := fun _ => fun
  | [] => { results := [.lit (.bool false)], args := [] }
  | _ => none }
def SlabKnownWrongFalsely : Prop := slabKnownRow.holds Try.pinned (OpenSpec.ofChange slabKnownWrong)

/- THE SECOND FORM. 'bulk': how many values and letters a reading holds, each counted each time it is reached (what is shared counts as often as it is met; a slice's spare places count too). A statement '..UptoSaid' is the law's where the arguments, and the package variables that the reading takes, are together of bulk at most 1048576: NARROWER than '..Said'. Prove '..Said' where nothing that the law and all that it calls make is longer than what came in: it says more and counts as full. Else prove '..UptoSaid'. A law counts once. -/
mutual
def uptoBulk {H : Type} : DataW H → Nat
  | .lit (.string bytes) => bytes.length + 1
  | .lit _ => 1
  | .nil => 1
  | .ptr d => uptoBulk d + 1
  | .slice elems spare => uptoBulkAll elems + uptoBulkAll spare + 1
  | .agg parts => uptoBulkAll parts + 1
  | .iface _ d => uptoBulk d + 1
  | .map entries => uptoBulkEntries entries + 1
  | .held _ => 1
def uptoBulkAll {H : Type} : List (DataW H) → Nat
  | [] => 0
  | d :: r => uptoBulk d + uptoBulkAll r
def uptoBulkEntries {H : Type} : List (Lit × DataW H) → Nat
  | [] => 0
  | x :: r => uptoBulkEntry x + uptoBulkEntries r
def uptoBulkEntry {H : Type} : Lit × DataW H → Nat
  | (.string bytes, d) => bytes.length + uptoBulk d + 1
  | (_, d) => uptoBulk d + 1
 end
def uptoSmall : (H : Type) → List (DataW H) → Bool := fun _ ds => decide (uptoBulkAll ds ≤ 1048576)
def OpenSpec.upto (s : _root_.Go.ChangeSpec) : _root_.Go.OpenSpec := { _root_.Go.OpenSpec.ofChange s with cond := some uptoSmall }

/-- 'quilletlaw09.BagFull', WHERE WHAT IT READS IS OF BULK AT MOST 1048576: true; the input reads as it did. -/
def bagFullUptoRow : OpenClaim := { program := "ytjdbknnacaacaaa", sum := "f5c9f96caaa4e6aa2b23eba1374875f21f1f80abb5282e337a6f1ffb82593f3c", func := "quillet/quilletlaw09.BagFull", spec := "bagFull", unfollowed := true, recurses := true, apart := false, narrowed := true }
def BagFullUptoSaid : Prop := bagFullUptoRow.holds Try.pinned (OpenSpec.upto bagFullSpec)

/-- 'quilletlaw09.BagPlay', WHERE WHAT IT READS IS OF BULK AT MOST 1048576: true; the input reads as it did. -/
def bagPlayUptoRow : OpenClaim := { program := "ytjdbknnacaacaaa", sum := "f5c9f96caaa4e6aa2b23eba1374875f21f1f80abb5282e337a6f1ffb82593f3c", func := "quillet/quilletlaw09.BagPlay", spec := "bagPlay", unfollowed := true, recurses := true, apart := false, narrowed := true }
def BagPlayUptoSaid : Prop := bagPlayUptoRow.holds Try.pinned (OpenSpec.upto bagPlaySpec)

/-- 'quilletlaw09.BagNodes', WHERE WHAT IT READS IS OF BULK AT MOST 1048576: true; the input reads as it did. -/
def bagNodesUptoRow : OpenClaim := { program := "ytjdbknnacaacaaa", sum := "f5c9f96caaa4e6aa2b23eba1374875f21f1f80abb5282e337a6f1ffb82593f3c", func := "quillet/quilletlaw09.BagNodes", spec := "bagNodes", unfollowed := true, recurses := true, apart := false, narrowed := true }
def BagNodesUptoSaid : Prop := bagNodesUptoRow.holds Try.pinned (OpenSpec.upto bagNodesSpec)

/-- 'quilletlaw09.BagLists', WHERE WHAT IT READS IS OF BULK AT MOST 1048576: true; the input reads as it did. -/
def bagListsUptoRow : OpenClaim := { program := "ytjdbknnacaacaaa", sum := "f5c9f96caaa4e6aa2b23eba1374875f21f1f80abb5282e337a6f1ffb82593f3c", func := "quillet/quilletlaw09.BagLists", spec := "bagLists", unfollowed := true, recurses := true, apart := false, narrowed := true }
def BagListsUptoSaid : Prop := bagListsUptoRow.holds Try.pinned (OpenSpec.upto bagListsSpec)

/-- 'quilletlaw09.BagKnown', WHERE WHAT IT READS IS OF BULK AT MOST 1048576: true; the input reads as it did. -/
def bagKnownUptoRow : OpenClaim := { program := "ytjdbknnacaacaaa", sum := "f5c9f96caaa4e6aa2b23eba1374875f21f1f80abb5282e337a6f1ffb82593f3c", func := "quillet/quilletlaw09.BagKnown", spec := "bagKnown", unfollowed := true, recurses := true, apart := false, narrowed := true }
def BagKnownUptoSaid : Prop := bagKnownUptoRow.holds Try.pinned (OpenSpec.upto bagKnownSpec)

/-- 'quilletlaw11.SlabBlocks', WHERE WHAT IT READS IS OF BULK AT MOST 1048576: true; the input reads as it did. -/
def slabBlocksUptoRow : OpenClaim := { program := "ytjdbknnacaacaaa", sum := "f5c9f96caaa4e6aa2b23eba1374875f21f1f80abb5282e337a6f1ffb82593f3c", func := "quillet/quilletlaw11.SlabBlocks", spec := "slabBlocks", unfollowed := true, recurses := true, apart := false, narrowed := true }
def SlabBlocksUptoSaid : Prop := slabBlocksUptoRow.holds Try.pinned (OpenSpec.upto slabBlocksSpec)

/-- 'quilletlaw11.SlabPlay', WHERE WHAT IT READS IS OF BULK AT MOST 1048576: true; the input reads as it did. -/
def slabPlayUptoRow : OpenClaim := { program := "ytjdbknnacaacaaa", sum := "f5c9f96caaa4e6aa2b23eba1374875f21f1f80abb5282e337a6f1ffb82593f3c", func := "quillet/quilletlaw11.SlabPlay", spec := "slabPlay", unfollowed := true, recurses := true, apart := false, narrowed := true }
def SlabPlayUptoSaid : Prop := slabPlayUptoRow.holds Try.pinned (OpenSpec.upto slabPlaySpec)

/-- 'quilletlaw11.SlabKnown', WHERE WHAT IT READS IS OF BULK AT MOST 1048576: true; the input reads as it did. -/
def slabKnownUptoRow : OpenClaim := { program := "ytjdbknnacaacaaa", sum := "f5c9f96caaa4e6aa2b23eba1374875f21f1f80abb5282e337a6f1ffb82593f3c", func := "quillet/quilletlaw11.SlabKnown", spec := "slabKnown", unfollowed := true, recurses := true, apart := false, narrowed := true }
def SlabKnownUptoSaid : Prop := slabKnownUptoRow.holds Try.pinned (OpenSpec.upto slabKnownSpec)

end Rows
end Go.Proofs.Ytjdbknnacaacaaa
