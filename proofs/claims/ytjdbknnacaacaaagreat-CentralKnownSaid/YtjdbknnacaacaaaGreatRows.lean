/-
  No cell of these rows narrows 'for every input' (looked for: loops, veiled, ifaces, maps, wideKeys, modest, calm, conditions, laid).
  DERIVED. THE GIVEN ROWS OF THIS SEAT. 4 by the template 'for every input the law returns true; each argument reads behind the call as it read before'; 0 by the template 'total and deterministic' (their statements: YtjdbknnacaacaaaGreatTotals.lean).
  GIVEN WITH THE SEED: the statements are not yours to turn. If you find one false, say at which input.
  Laid BY PROGRAM, IN A SANDBOX (cutbox-rows.mjs): the forced cells as the released guide's own fill.sh prints them over the translation 813ddd6dd77002ab… (all of the seat's roots in one cut). By AI agents, Wed Nov 11 2026. No macro, syntax, notation, axiom, sorry.
-/
import Derived.Test.YtjdbknnacaacaaaGreatChecked
import GoSem.Claim
import GoSem.ClaimJoined
import GoSem.ClaimMapViews
import Derived.JoinedTies
import Derived.KernelRfl
namespace Go.Proofs.YtjdbknnacaacaaaGreat
/- THE CELL 'sum', in the pinned program and in every row, IS THE sha256 OF THE DUMP (.gsa) THAT YtjdbknnacaacaaaGreatProg.lean LOADS. Nothing in Lean hashes anything: it is a label: what it is worth is what the hold of that sum in a sandbox is worth. -/
noncomputable def Tryz.pinned : Pinned := { name := "ytjdbknnacaacaaagreat", sum := "813ddd6dd77002ab84e90f2410a690baf8cf447e880eb3cac2c1d260d3821cbf", checked := Tryz.checked }
namespace Rows
def none {H : Type} : Left H := { results := [], args := [] }

/-- 'quilletlaw13.CentralNear': WHATEVER THE INPUT: true; the input reads as it did. -/
def centralNearSpec : ChangeSpec := { name := "centralNear", fn := fun _ => fun
  | [d1, d2, d3] => { results := [.lit (.bool true)], args := [d1, d2, d3] }
  | _ => none }
def centralNearRow : OpenClaim := { program := "ytjdbknnacaacaaagreat", sum := "813ddd6dd77002ab84e90f2410a690baf8cf447e880eb3cac2c1d260d3821cbf", func := "quillet/quilletlaw13.CentralNear", spec := "centralNear", unfollowed := true, recurses := true, apart := false }
def CentralNearSaid : Prop := centralNearRow.holds Tryz.pinned (OpenSpec.ofChange centralNearSpec)

/-- ITS FALSE NEIGHBOUR: 'it returns false'. Refute it at one input. -/
def centralNearWrong : ChangeSpec := { name := "centralNear", fn := fun _ => fun
  | [d1, d2, d3] => { results := [.lit (.bool false)], args := [d1, d2, d3] }
  | _ => none }
def CentralNearWrongFalsely : Prop := centralNearRow.holds Tryz.pinned (OpenSpec.ofChange centralNearWrong)

/-- 'quilletlaw13.CentralKnown': WHATEVER THE INPUT: true; the input reads as it did. -/
def centralKnownSpec : ChangeSpec := { name := "centralKnown", fn := fun _ => fun
  | [] => { results := [.lit (.bool true)], args := [] }
  | _ => none }
def centralKnownRow : OpenClaim := { program := "ytjdbknnacaacaaagreat", sum := "813ddd6dd77002ab84e90f2410a690baf8cf447e880eb3cac2c1d260d3821cbf", func := "quillet/quilletlaw13.CentralKnown", spec := "centralKnown", unfollowed := true, recurses := true, apart := false }
def CentralKnownSaid : Prop := centralKnownRow.holds Tryz.pinned (OpenSpec.ofChange centralKnownSpec)

/-- ITS FALSE NEIGHBOUR: 'it returns false'. Refute it at one input. -/
def centralKnownWrong : ChangeSpec := { name := "centralKnown", fn := fun _ => fun
  | [] => { results := [.lit (.bool false)], args := [] }
  | _ => none }
def CentralKnownWrongFalsely : Prop := centralKnownRow.holds Tryz.pinned (OpenSpec.ofChange centralKnownWrong)

/-- 'quilletlaw13.CentralEpoch': WHATEVER THE INPUT: true; the input reads as it did. -/
def centralEpochSpec : ChangeSpec := { name := "centralEpoch", fn := fun _ => fun
  | [d1, d2, d3] => { results := [.lit (.bool true)], args := [d1, d2, d3] }
  | _ => none }
def centralEpochRow : OpenClaim := { program := "ytjdbknnacaacaaagreat", sum := "813ddd6dd77002ab84e90f2410a690baf8cf447e880eb3cac2c1d260d3821cbf", func := "quillet/quilletlaw13.CentralEpoch", spec := "centralEpoch", unfollowed := true, recurses := true, apart := false }
def CentralEpochSaid : Prop := centralEpochRow.holds Tryz.pinned (OpenSpec.ofChange centralEpochSpec)

/-- ITS FALSE NEIGHBOUR: 'it returns false'. Refute it at one input. -/
def centralEpochWrong : ChangeSpec := { name := "centralEpoch", fn := fun _ => fun
  | [d1, d2, d3] => { results := [.lit (.bool false)], args := [d1, d2, d3] }
  | _ => none }
def CentralEpochWrongFalsely : Prop := centralEpochRow.holds Tryz.pinned (OpenSpec.ofChange centralEpochWrong)

/-- 'quilletlaw13.CentralFails': WHATEVER THE INPUT: true; the input reads as it did. -/
def centralFailsSpec : ChangeSpec := { name := "centralFails", fn := fun _ => fun
  | [d1, d2, d3] => { results := [.lit (.bool true)], args := [d1, d2, d3] }
  | _ => none }
def centralFailsRow : OpenClaim := { program := "ytjdbknnacaacaaagreat", sum := "813ddd6dd77002ab84e90f2410a690baf8cf447e880eb3cac2c1d260d3821cbf", func := "quillet/quilletlaw13.CentralFails", spec := "centralFails", unfollowed := true, recurses := true, apart := false }
def CentralFailsSaid : Prop := centralFailsRow.holds Tryz.pinned (OpenSpec.ofChange centralFailsSpec)

/-- ITS FALSE NEIGHBOUR: 'it returns false'. Refute it at one input. -/
def centralFailsWrong : ChangeSpec := { name := "centralFails", fn := fun _ => fun
  | [d1, d2, d3] => { results := [.lit (.bool false)], args := [d1, d2, d3] }
  | _ => none }
def CentralFailsWrongFalsely : Prop := centralFailsRow.holds Tryz.pinned (OpenSpec.ofChange centralFailsWrong)

/- THE SECOND FORM. 'bulk': how many values and letters a reading holds, each counted each time it is reached (what is shared counts as often as it is met; a slice's spare places count too). A statement '..UptoSaid' is the law's where the arguments, and the package variables that the reading takes, are together of bulk at most 1048576: NARROWER than '..Said'. Prove '..Said' where nothing that the law and all that it calls make is longer than what came in: it says more and counts as full. Else prove '..UptoSaid'. A law counts once. -/
mutual
def uptoBulk {H : Type} : DataW H → Nat
  | .lit (.string bytes) => bytes.length + 1
  | .lit _ => 1
  | .nil => 1
  | .ptr d => uptoBulk d + 1
  | .slice elems spare => uptoBulkAll elems + uptoBulkAll spare + 1
  | .agg parts => uptoBulkAll parts + 1
  | .iface _ d => uptoBulk d + 1
  | .map entries => uptoBulkEntries entries + 1
  | .held _ => 1
def uptoBulkAll {H : Type} : List (DataW H) → Nat
  | [] => 0
  | d :: r => uptoBulk d + uptoBulkAll r
def uptoBulkEntries {H : Type} : List (Lit × DataW H) → Nat
  | [] => 0
  | x :: r => uptoBulkEntry x + uptoBulkEntries r
def uptoBulkEntry {H : Type} : Lit × DataW H → Nat
  | (.string bytes, d) => bytes.length + uptoBulk d + 1
  | (_, d) => uptoBulk d + 1
 end
def uptoSmall : (H : Type) → List (DataW H) → Bool := fun _ ds => decide (uptoBulkAll ds ≤ 1048576)
def OpenSpec.upto (s : _root_.Go.ChangeSpec) : _root_.Go.OpenSpec := { _root_.Go.OpenSpec.ofChange s with cond := some uptoSmall }

/-- 'quilletlaw13.CentralNear', WHERE WHAT IT READS IS OF BULK AT MOST 1048576: true; the input reads as it did. -/
def centralNearUptoRow : OpenClaim := { program := "ytjdbknnacaacaaagreat", sum := "813ddd6dd77002ab84e90f2410a690baf8cf447e880eb3cac2c1d260d3821cbf", func := "quillet/quilletlaw13.CentralNear", spec := "centralNear", unfollowed := true, recurses := true, apart := false, narrowed := true }
def CentralNearUptoSaid : Prop := centralNearUptoRow.holds Tryz.pinned (OpenSpec.upto centralNearSpec)

/-- 'quilletlaw13.CentralKnown', WHERE WHAT IT READS IS OF BULK AT MOST 1048576: true; the input reads as it did. -/
def centralKnownUptoRow : OpenClaim := { program := "ytjdbknnacaacaaagreat", sum := "813ddd6dd77002ab84e90f2410a690baf8cf447e880eb3cac2c1d260d3821cbf", func := "quillet/quilletlaw13.CentralKnown", spec := "centralKnown", unfollowed := true, recurses := true, apart := false, narrowed := true }
def CentralKnownUptoSaid : Prop := centralKnownUptoRow.holds Tryz.pinned (OpenSpec.upto centralKnownSpec)

/-- 'quilletlaw13.CentralEpoch', WHERE WHAT IT READS IS OF BULK AT MOST 1048576: true; the input reads as it did. -/
def centralEpochUptoRow : OpenClaim := { program := "ytjdbknnacaacaaagreat", sum := "813ddd6dd77002ab84e90f2410a690baf8cf447e880eb3cac2c1d260d3821cbf", func := "quillet/quilletlaw13.CentralEpoch", spec := "centralEpoch", unfollowed := true, recurses := true, apart := false, narrowed := true }
def CentralEpochUptoSaid : Prop := centralEpochUptoRow.holds Tryz.pinned (OpenSpec.upto centralEpochSpec)

/-- 'quilletlaw13.CentralFails', WHERE WHAT IT READS IS OF BULK AT MOST 1048576: true; the input reads as it did. -/
def centralFailsUptoRow : OpenClaim := { program := "ytjdbknnacaacaaagreat", sum := "813ddd6dd77002ab84e90f2410a690baf8cf447e880eb3cac2c1d260d3821cbf", func := "quillet/quilletlaw13.CentralFails", spec := "centralFails", unfollowed := true, recurses := true, apart := false, narrowed := true }
def CentralFailsUptoSaid : Prop := centralFailsUptoRow.holds Tryz.pinned (OpenSpec.upto centralFailsSpec)

end Rows
end Go.Proofs.YtjdbknnacaacaaaGreat
