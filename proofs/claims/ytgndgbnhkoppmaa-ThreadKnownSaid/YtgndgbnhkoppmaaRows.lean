/-
  No cell of these rows narrows 'for every input' (looked for: loops, veiled, ifaces, maps, wideKeys, modest, calm, conditions, laid).
  DERIVED. THE GIVEN ROWS OF THIS SEAT. 3 by the template 'for every input the law returns true; each argument reads behind the call as it read before'; 0 by the template 'total and deterministic' (their statements: YtgndgbnhkoppmaaTotals.lean).
  GIVEN WITH THE SEED: the statements are not yours to turn. If you find one false, say at which input.
  Laid BY PROGRAM, IN A SANDBOX (cutbox-rows.mjs): the forced cells as the released guide's own fill.sh prints them over the translation aeb7f8908c9029aa… (all of the seat's roots in one cut). By AI agents, Wed Nov 11 2026. No macro, syntax, notation, axiom, sorry.
-/
import Derived.Test.YtgndgbnhkoppmaaChecked
import GoSem.Claim
import GoSem.ClaimJoined
import GoSem.ClaimMapViews
import Derived.JoinedTies
import Derived.KernelRfl
namespace Go.Proofs.Ytgndgbnhkoppmaa
/- THE CELL 'sum', in the pinned program and in every row, IS THE sha256 OF THE DUMP (.gsa) THAT YtgndgbnhkoppmaaProg.lean LOADS. Nothing in Lean hashes anything: it is a label: what it is worth is what the hold of that sum in a sandbox is worth. -/
noncomputable def Try.pinned : Pinned := { name := "ytgndgbnhkoppmaa", sum := "aeb7f8908c9029aa810851c6c69415ee0de9c8da66295ad3f3156c6b58433879", checked := Try.checked }
namespace Rows
def none {H : Type} : Left H := { results := [], args := [] }

/-- 'quilletlaw05.ThreadKnown': WHATEVER THE INPUT: true; the input reads as it did. -/
def threadKnownSpec : ChangeSpec := { name := "threadKnown", fn := fun _ => fun
  | [] => { results := [.lit (.bool true)], args := [] }
  | _ => none }
def threadKnownRow : OpenClaim := { program := "ytgndgbnhkoppmaa", sum := "aeb7f8908c9029aa810851c6c69415ee0de9c8da66295ad3f3156c6b58433879", func := "quillet/quilletlaw05.ThreadKnown", spec := "threadKnown", unfollowed := true, recurses := true, leaving := true, apart := false }
def ThreadKnownSaid : Prop := threadKnownRow.holds Try.pinned (OpenSpec.ofChange threadKnownSpec)

/-- ITS FALSE NEIGHBOUR: 'it returns false'. Refute it at one input. -/
def threadKnownWrong : ChangeSpec := { name := "threadKnown", fn := fun _ => fun
  | [] => { results := [.lit (.bool false)], args := [] }
  | _ => none }
def ThreadKnownWrongFalsely : Prop := threadKnownRow.holds Try.pinned (OpenSpec.ofChange threadKnownWrong)

/-- 'quilletlaw05.ThreadPlays': WHATEVER THE INPUT: true; the input reads as it did. -/
def threadPlaysSpec : ChangeSpec := { name := "threadPlays", fn := fun _ => fun
  | [d1, d2] => { results := [.lit (.bool true)], args := [d1, d2] }
  | _ => none }
def threadPlaysRow : OpenClaim := { program := "ytgndgbnhkoppmaa", sum := "aeb7f8908c9029aa810851c6c69415ee0de9c8da66295ad3f3156c6b58433879", func := "quillet/quilletlaw05.ThreadPlays", spec := "threadPlays", unfollowed := true, recurses := true, leaving := true, apart := false }
def ThreadPlaysSaid : Prop := threadPlaysRow.holds Try.pinned (OpenSpec.ofChange threadPlaysSpec)

/-- ITS FALSE NEIGHBOUR: 'it returns false'. Refute it at one input. -/
def threadPlaysWrong : ChangeSpec := { name := "threadPlays", fn := fun _ => fun
  | [d1, d2] => { results := [.lit (.bool false)], args := [d1, d2] }
  | _ => none }
def ThreadPlaysWrongFalsely : Prop := threadPlaysRow.holds Try.pinned (OpenSpec.ofChange threadPlaysWrong)

/-- 'quilletlaw05.ThreadDirect': WHATEVER THE INPUT: true; the input reads as it did. -/
def threadDirectSpec : ChangeSpec := { name := "threadDirect", fn := fun _ => fun
  | [d] => { results := [.lit (.bool true)], args := [d] }
  | _ => none }
def threadDirectRow : OpenClaim := { program := "ytgndgbnhkoppmaa", sum := "aeb7f8908c9029aa810851c6c69415ee0de9c8da66295ad3f3156c6b58433879", func := "quillet/quilletlaw05.ThreadDirect", spec := "threadDirect", unfollowed := true, recurses := true, leaving := true, apart := false }
def ThreadDirectSaid : Prop := threadDirectRow.holds Try.pinned (OpenSpec.ofChange threadDirectSpec)

/-- ITS FALSE NEIGHBOUR: 'it returns false'. Refute it at one input. -/
def threadDirectWrong : ChangeSpec := { name := "threadDirect", fn := fun _ => fun
  | [d] => { results := [.lit (.bool false)], args := [d] }
  | _ => none }
def ThreadDirectWrongFalsely : Prop := threadDirectRow.holds Try.pinned (OpenSpec.ofChange threadDirectWrong)

/- THE SECOND FORM. 'bulk': how many values and letters a reading holds, each counted each time it is reached (what is shared counts as often as it is met; a slice's spare places count too). A statement '..UptoSaid' is the law's where the arguments, and the package variables that the reading takes, are together of bulk at most 1048576: NARROWER than '..Said'. Prove '..Said' where nothing that the law and all that it calls make is longer than what came in: it says more and counts as full. Else prove '..UptoSaid'. A law counts once. -/
mutual
def uptoBulk {H : Type} : DataW H → Nat
  | .lit (.string bytes) => bytes.length + 1
  | .lit _ => 1
  | .nil => 1
  | .ptr d => uptoBulk d + 1
  | .slice elems spare => uptoBulkAll elems + uptoBulkAll spare + 1
  | .agg parts => uptoBulkAll parts + 1
  | .iface _ d => uptoBulk d + 1
  | .map entries => uptoBulkEntries entries + 1
  | .held _ => 1
def uptoBulkAll {H : Type} : List (DataW H) → Nat
  | [] => 0
  | d :: r => uptoBulk d + uptoBulkAll r
def uptoBulkEntries {H : Type} : List (Lit × DataW H) → Nat
  | [] => 0
  | x :: r => uptoBulkEntry x + uptoBulkEntries r
def uptoBulkEntry {H : Type} : Lit × DataW H → Nat
  | (.string bytes, d) => bytes.length + uptoBulk d + 1
  | (_, d) => uptoBulk d + 1
 end
def uptoSmall : (H : Type) → List (DataW H) → Bool := fun _ ds => decide (uptoBulkAll ds ≤ 1048576)
def OpenSpec.upto (s : _root_.Go.ChangeSpec) : _root_.Go.OpenSpec := { _root_.Go.OpenSpec.ofChange s with cond := some uptoSmall }

/-- 'quilletlaw05.ThreadKnown', WHERE WHAT IT READS IS OF BULK AT MOST 1048576: true; the input reads as it did. -/
def threadKnownUptoRow : OpenClaim := { program := "ytgndgbnhkoppmaa", sum := "aeb7f8908c9029aa810851c6c69415ee0de9c8da66295ad3f3156c6b58433879", func := "quillet/quilletlaw05.ThreadKnown", spec := "threadKnown", unfollowed := true, recurses := true, leaving := true, apart := false, narrowed := true }
def ThreadKnownUptoSaid : Prop := threadKnownUptoRow.holds Try.pinned (OpenSpec.upto threadKnownSpec)

/-- 'quilletlaw05.ThreadPlays', WHERE WHAT IT READS IS OF BULK AT MOST 1048576: true; the input reads as it did. -/
def threadPlaysUptoRow : OpenClaim := { program := "ytgndgbnhkoppmaa", sum := "aeb7f8908c9029aa810851c6c69415ee0de9c8da66295ad3f3156c6b58433879", func := "quillet/quilletlaw05.ThreadPlays", spec := "threadPlays", unfollowed := true, recurses := true, leaving := true, apart := false, narrowed := true }
def ThreadPlaysUptoSaid : Prop := threadPlaysUptoRow.holds Try.pinned (OpenSpec.upto threadPlaysSpec)

/-- 'quilletlaw05.ThreadDirect', WHERE WHAT IT READS IS OF BULK AT MOST 1048576: true; the input reads as it did. -/
def threadDirectUptoRow : OpenClaim := { program := "ytgndgbnhkoppmaa", sum := "aeb7f8908c9029aa810851c6c69415ee0de9c8da66295ad3f3156c6b58433879", func := "quillet/quilletlaw05.ThreadDirect", spec := "threadDirect", unfollowed := true, recurses := true, leaving := true, apart := false, narrowed := true }
def ThreadDirectUptoSaid : Prop := threadDirectUptoRow.holds Try.pinned (OpenSpec.upto threadDirectSpec)

end Rows
end Go.Proofs.Ytgndgbnhkoppmaa
