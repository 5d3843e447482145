/-
  No cell of these rows narrows 'for every input' (looked for: loops, veiled, ifaces, maps, wideKeys, modest, calm, conditions, laid).
  DERIVED. THE GIVEN ROWS OF THIS SEAT. 10 by the template 'for every input the law returns true; each argument reads behind the call as it read before'; 0 by the template 'total and deterministic' (their statements: YtkjnamhgemidkaaTotals.lean).
  GIVEN WITH THE SEED: the statements are not yours to turn. If you find one false, say at which input.
  Laid BY PROGRAM, IN A SANDBOX (cutbox-rows.mjs): the forced cells as the released guide's own fill.sh prints them over the translation 1c73efd77f18ab89… (all of the seat's roots in one cut). By AI agents, Wed Nov 11 2026. No macro, syntax, notation, axiom, sorry.
-/
import Derived.Test.YtkjnamhgemidkaaChecked
import GoSem.Claim
import GoSem.ClaimJoined
import GoSem.ClaimMapViews
import Derived.JoinedTies
import Derived.KernelRfl
namespace Go.Proofs.Ytkjnamhgemidkaa
/- THE CELL 'sum', in the pinned program and in every row, IS THE sha256 OF THE DUMP (.gsa) THAT YtkjnamhgemidkaaProg.lean LOADS. Nothing in Lean hashes anything: it is a label: what it is worth is what the hold of that sum in a sandbox is worth. -/
noncomputable def Try.pinned : Pinned := { name := "ytkjnamhgemidkaa", sum := "1c73efd77f18ab89e2c26d391c564eb679b318c8d3475d29c830cb0e9f109ec5", checked := Try.checked }
namespace Rows
def none {H : Type} : Left H := { results := [], args := [] }

/-- 'quilletlaw05.ThreadPanics': WHATEVER THE INPUT: true; the input reads as it did. -/
def threadPanicsSpec : ChangeSpec := { name := "threadPanics", fn := fun _ => fun
  | [d1, d2] => { results := [.lit (.bool true)], args := [d1, d2] }
  | _ => none }
def threadPanicsRow : OpenClaim := { program := "ytkjnamhgemidkaa", sum := "1c73efd77f18ab89e2c26d391c564eb679b318c8d3475d29c830cb0e9f109ec5", func := "quillet/quilletlaw05.ThreadPanics", spec := "threadPanics", unfollowed := true, recurses := true, leaving := true, apart := false }
def ThreadPanicsSaid : Prop := threadPanicsRow.holds Try.pinned (OpenSpec.ofChange threadPanicsSpec)

/-- ITS FALSE NEIGHBOUR: 'it returns false'. Refute it at one input. -/
def threadPanicsWrong : ChangeSpec := { name := "threadPanics", fn := fun _ => fun
  | [d1, d2] => { results := [.lit (.bool false)], args := [d1, d2] }
  | _ => none }
def ThreadPanicsWrongFalsely : Prop := threadPanicsRow.holds Try.pinned (OpenSpec.ofChange threadPanicsWrong)

/-- 'quilletlaw05.ThreadClose': WHATEVER THE INPUT: true; the input reads as it did. -/
def threadCloseSpec : ChangeSpec := { name := "threadClose", fn := fun _ => fun
  | [d1, d2] => { results := [.lit (.bool true)], args := [d1, d2] }
  | _ => none }
def threadCloseRow : OpenClaim := { program := "ytkjnamhgemidkaa", sum := "1c73efd77f18ab89e2c26d391c564eb679b318c8d3475d29c830cb0e9f109ec5", func := "quillet/quilletlaw05.ThreadClose", spec := "threadClose", unfollowed := true, recurses := true, leaving := true, apart := false }
def ThreadCloseSaid : Prop := threadCloseRow.holds Try.pinned (OpenSpec.ofChange threadCloseSpec)

/-- ITS FALSE NEIGHBOUR: 'it returns false'. Refute it at one input. -/
def threadCloseWrong : ChangeSpec := { name := "threadClose", fn := fun _ => fun
  | [d1, d2] => { results := [.lit (.bool false)], args := [d1, d2] }
  | _ => none }
def ThreadCloseWrongFalsely : Prop := threadCloseRow.holds Try.pinned (OpenSpec.ofChange threadCloseWrong)

/-- 'quilletlaw05.ThreadKnown': WHATEVER THE INPUT: true; the input reads as it did. -/
def threadKnownSpec : ChangeSpec := { name := "threadKnown", fn := fun _ => fun
  | [] => { results := [.lit (.bool true)], args := [] }
  | _ => none }
def threadKnownRow : OpenClaim := { program := "ytkjnamhgemidkaa", sum := "1c73efd77f18ab89e2c26d391c564eb679b318c8d3475d29c830cb0e9f109ec5", func := "quillet/quilletlaw05.ThreadKnown", spec := "threadKnown", unfollowed := true, recurses := true, leaving := true, apart := false }
def ThreadKnownSaid : Prop := threadKnownRow.holds Try.pinned (OpenSpec.ofChange threadKnownSpec)

/-- ITS FALSE NEIGHBOUR: 'it returns false'. Refute it at one input. -/
def threadKnownWrong : ChangeSpec := { name := "threadKnown", fn := fun _ => fun
  | [] => { results := [.lit (.bool false)], args := [] }
  | _ => none }
def ThreadKnownWrongFalsely : Prop := threadKnownRow.holds Try.pinned (OpenSpec.ofChange threadKnownWrong)

/-- 'quilletlaw05.ThreadPlays': WHATEVER THE INPUT: true; the input reads as it did. -/
def threadPlaysSpec : ChangeSpec := { name := "threadPlays", fn := fun _ => fun
  | [d1, d2] => { results := [.lit (.bool true)], args := [d1, d2] }
  | _ => none }
def threadPlaysRow : OpenClaim := { program := "ytkjnamhgemidkaa", sum := "1c73efd77f18ab89e2c26d391c564eb679b318c8d3475d29c830cb0e9f109ec5", func := "quillet/quilletlaw05.ThreadPlays", spec := "threadPlays", unfollowed := true, recurses := true, leaving := true, apart := false }
def ThreadPlaysSaid : Prop := threadPlaysRow.holds Try.pinned (OpenSpec.ofChange threadPlaysSpec)

/-- ITS FALSE NEIGHBOUR: 'it returns false'. Refute it at one input. -/
def threadPlaysWrong : ChangeSpec := { name := "threadPlays", fn := fun _ => fun
  | [d1, d2] => { results := [.lit (.bool false)], args := [d1, d2] }
  | _ => none }
def ThreadPlaysWrongFalsely : Prop := threadPlaysRow.holds Try.pinned (OpenSpec.ofChange threadPlaysWrong)

/-- 'quilletlaw05.ThreadDirect': WHATEVER THE INPUT: true; the input reads as it did. -/
def threadDirectSpec : ChangeSpec := { name := "threadDirect", fn := fun _ => fun
  | [d] => { results := [.lit (.bool true)], args := [d] }
  | _ => none }
def threadDirectRow : OpenClaim := { program := "ytkjnamhgemidkaa", sum := "1c73efd77f18ab89e2c26d391c564eb679b318c8d3475d29c830cb0e9f109ec5", func := "quillet/quilletlaw05.ThreadDirect", spec := "threadDirect", unfollowed := true, recurses := true, leaving := true, apart := false }
def ThreadDirectSaid : Prop := threadDirectRow.holds Try.pinned (OpenSpec.ofChange threadDirectSpec)

/-- ITS FALSE NEIGHBOUR: 'it returns false'. Refute it at one input. -/
def threadDirectWrong : ChangeSpec := { name := "threadDirect", fn := fun _ => fun
  | [d] => { results := [.lit (.bool false)], args := [d] }
  | _ => none }
def ThreadDirectWrongFalsely : Prop := threadDirectRow.holds Try.pinned (OpenSpec.ofChange threadDirectWrong)

/-- 'quilletlaw18.TallyAll': WHATEVER THE INPUT: true; the input reads as it did. -/
def tallyAllSpec : ChangeSpec := { name := "tallyAll", fn := fun _ => fun
  | [d1, d2] => { results := [.lit (.bool true)], args := [d1, d2] }
  | _ => none }
def tallyAllRow : OpenClaim := { program := "ytkjnamhgemidkaa", sum := "1c73efd77f18ab89e2c26d391c564eb679b318c8d3475d29c830cb0e9f109ec5", func := "quillet/quilletlaw18.TallyAll", spec := "tallyAll", unfollowed := true, recurses := true, leaving := true, apart := false }
def TallyAllSaid : Prop := tallyAllRow.holds Try.pinned (OpenSpec.ofChange tallyAllSpec)

/-- ITS FALSE NEIGHBOUR: 'it returns false'. Refute it at one input. -/
def tallyAllWrong : ChangeSpec := { name := "tallyAll", fn := fun _ => fun
  | [d1, d2] => { results := [.lit (.bool false)], args := [d1, d2] }
  | _ => none }
def TallyAllWrongFalsely : Prop := tallyAllRow.holds Try.pinned (OpenSpec.ofChange tallyAllWrong)

/-- 'quilletlaw07.LockOne': WHATEVER THE INPUT: true; the input reads as it did. -/
def lockOneSpec : ChangeSpec := { name := "lockOne", fn := fun _ => fun
  | [d1, d2, d3] => { results := [.lit (.bool true)], args := [d1, d2, d3] }
  | _ => none }
def lockOneRow : OpenClaim := { program := "ytkjnamhgemidkaa", sum := "1c73efd77f18ab89e2c26d391c564eb679b318c8d3475d29c830cb0e9f109ec5", func := "quillet/quilletlaw07.LockOne", spec := "lockOne", unfollowed := true, recurses := true, leaving := true, apart := false }
def LockOneSaid : Prop := lockOneRow.holds Try.pinned (OpenSpec.ofChange lockOneSpec)

/-- ITS FALSE NEIGHBOUR: 'it returns false'. Refute it at one input. -/
def lockOneWrong : ChangeSpec := { name := "lockOne", fn := fun _ => fun
  | [d1, d2, d3] => { results := [.lit (.bool false)], args := [d1, d2, d3] }
  | _ => none }
def LockOneWrongFalsely : Prop := lockOneRow.holds Try.pinned (OpenSpec.ofChange lockOneWrong)

/-- 'quilletlaw07.LockStands': WHATEVER THE INPUT: true; the input reads as it did. -/
def lockStandsSpec : ChangeSpec := { name := "lockStands", fn := fun _ => fun
  | [d1, d2] => { results := [.lit (.bool true)], args := [d1, d2] }
  | _ => none }
def lockStandsRow : OpenClaim := { program := "ytkjnamhgemidkaa", sum := "1c73efd77f18ab89e2c26d391c564eb679b318c8d3475d29c830cb0e9f109ec5", func := "quillet/quilletlaw07.LockStands", spec := "lockStands", unfollowed := true, recurses := true, leaving := true, apart := false }
def LockStandsSaid : Prop := lockStandsRow.holds Try.pinned (OpenSpec.ofChange lockStandsSpec)

/-- ITS FALSE NEIGHBOUR: 'it returns false'. Refute it at one input. -/
def lockStandsWrong : ChangeSpec := { name := "lockStands", fn := fun _ => fun
  | [d1, d2] => { results := [.lit (.bool false)], args := [d1, d2] }
  | _ => none }
def LockStandsWrongFalsely : Prop := lockStandsRow.holds Try.pinned (OpenSpec.ofChange lockStandsWrong)

/-- 'quilletlaw18.TallyBetween': WHATEVER THE INPUT: true; the input reads as it did. -/
def tallyBetweenSpec : ChangeSpec := { name := "tallyBetween", fn := fun _ => fun
  | [d1, d2] => { results := [.lit (.bool true)], args := [d1, d2] }
  | _ => none }
def tallyBetweenRow : OpenClaim := { program := "ytkjnamhgemidkaa", sum := "1c73efd77f18ab89e2c26d391c564eb679b318c8d3475d29c830cb0e9f109ec5", func := "quillet/quilletlaw18.TallyBetween", spec := "tallyBetween", unfollowed := true, recurses := true, leaving := true, apart := false }
def TallyBetweenSaid : Prop := tallyBetweenRow.holds Try.pinned (OpenSpec.ofChange tallyBetweenSpec)

/-- ITS FALSE NEIGHBOUR: 'it returns false'. Refute it at one input. -/
def tallyBetweenWrong : ChangeSpec := { name := "tallyBetween", fn := fun _ => fun
  | [d1, d2] => { results := [.lit (.bool false)], args := [d1, d2] }
  | _ => none }
def TallyBetweenWrongFalsely : Prop := tallyBetweenRow.holds Try.pinned (OpenSpec.ofChange tallyBetweenWrong)

/-- 'quilletlaw12.CacheStands': WHATEVER THE INPUT: true; the input reads as it did. -/
def cacheStandsSpec : ChangeSpec := { name := "cacheStands", fn := fun _ => fun
  | [d1, d2, d3] => { results := [.lit (.bool true)], args := [d1, d2, d3] }
  | _ => none }
def cacheStandsRow : OpenClaim := { program := "ytkjnamhgemidkaa", sum := "1c73efd77f18ab89e2c26d391c564eb679b318c8d3475d29c830cb0e9f109ec5", func := "quillet/quilletlaw12.CacheStands", spec := "cacheStands", unfollowed := true, recurses := true, leaving := true, apart := false }
def CacheStandsSaid : Prop := cacheStandsRow.holds Try.pinned (OpenSpec.ofChange cacheStandsSpec)

/-- ITS FALSE NEIGHBOUR: 'it returns false'. Refute it at one input. -/
def cacheStandsWrong : ChangeSpec := { name := "cacheStands", fn := fun _ => fun
  | [d1, d2, d3] => { results := [.lit (.bool false)], args := [d1, d2, d3] }
  | _ => none }
def CacheStandsWrongFalsely : Prop := cacheStandsRow.holds Try.pinned (OpenSpec.ofChange cacheStandsWrong)

/- THE SECOND FORM. 'bulk': how many values and letters a reading holds, each counted each time it is reached (what is shared counts as often as it is met; a slice's spare places count too). A statement '..UptoSaid' is the law's where the arguments, and the package variables that the reading takes, are together of bulk at most 1048576: NARROWER than '..Said'. Prove '..Said' where nothing that the law and all that it calls make is longer than what came in: it says more and counts as full. Else prove '..UptoSaid'. A law counts once. -/
mutual
def uptoBulk {H : Type} : DataW H → Nat
  | .lit (.string bytes) => bytes.length + 1
  | .lit _ => 1
  | .nil => 1
  | .ptr d => uptoBulk d + 1
  | .slice elems spare => uptoBulkAll elems + uptoBulkAll spare + 1
  | .agg parts => uptoBulkAll parts + 1
  | .iface _ d => uptoBulk d + 1
  | .map entries => uptoBulkEntries entries + 1
  | .held _ => 1
def uptoBulkAll {H : Type} : List (DataW H) → Nat
  | [] => 0
  | d :: r => uptoBulk d + uptoBulkAll r
def uptoBulkEntries {H : Type} : List (Lit × DataW H) → Nat
  | [] => 0
  | x :: r => uptoBulkEntry x + uptoBulkEntries r
def uptoBulkEntry {H : Type} : Lit × DataW H → Nat
  | (.string bytes, d) => bytes.length + uptoBulk d + 1
  | (_, d) => uptoBulk d + 1
 end
def uptoSmall : (H : Type) → List (DataW H) → Bool := fun _ ds => decide (uptoBulkAll ds ≤ 1048576)
def OpenSpec.upto (s : _root_.Go.ChangeSpec) : _root_.Go.OpenSpec := { _root_.Go.OpenSpec.ofChange s with cond := some uptoSmall }

/-- 'quilletlaw05.ThreadPanics', WHERE WHAT IT READS IS OF BULK AT MOST 1048576: true; the input reads as it did. -/
def threadPanicsUptoRow : OpenClaim := { program := "ytkjnamhgemidkaa", sum := "1c73efd77f18ab89e2c26d391c564eb679b318c8d3475d29c830cb0e9f109ec5", func := "quillet/quilletlaw05.ThreadPanics", spec := "threadPanics", unfollowed := true, recurses := true, leaving := true, apart := false, narrowed := true }
def ThreadPanicsUptoSaid : Prop := threadPanicsUptoRow.holds Try.pinned (OpenSpec.upto threadPanicsSpec)

/-- 'quilletlaw05.ThreadClose', WHERE WHAT IT READS IS OF BULK AT MOST 1048576: true; the input reads as it did. -/
def threadCloseUptoRow : OpenClaim := { program := "ytkjnamhgemidkaa", sum := "1c73efd77f18ab89e2c26d391c564eb679b318c8d3475d29c830cb0e9f109ec5", func := "quillet/quilletlaw05.ThreadClose", spec := "threadClose", unfollowed := true, recurses := true, leaving := true, apart := false, narrowed := true }
def ThreadCloseUptoSaid : Prop := threadCloseUptoRow.holds Try.pinned (OpenSpec.upto threadCloseSpec)

/-- 'quilletlaw05.ThreadKnown', WHERE WHAT IT READS IS OF BULK AT MOST 1048576: true; the input reads as it did. -/
def threadKnownUptoRow : OpenClaim := { program := "ytkjnamhgemidkaa", sum := "1c73efd77f18ab89e2c26d391c564eb679b318c8d3475d29c830cb0e9f109ec5", func := "quillet/quilletlaw05.ThreadKnown", spec := "threadKnown", unfollowed := true, recurses := true, leaving := true, apart := false, narrowed := true }
def ThreadKnownUptoSaid : Prop := threadKnownUptoRow.holds Try.pinned (OpenSpec.upto threadKnownSpec)

/-- 'quilletlaw05.ThreadPlays', WHERE WHAT IT READS IS OF BULK AT MOST 1048576: true; the input reads as it did. -/
def threadPlaysUptoRow : OpenClaim := { program := "ytkjnamhgemidkaa", sum := "1c73efd77f18ab89e2c26d391c564eb679b318c8d3475d29c830cb0e9f109ec5", func := "quillet/quilletlaw05.ThreadPlays", spec := "threadPlays", unfollowed := true, recurses := true, leaving := true, apart := false, narrowed := true }
def ThreadPlaysUptoSaid : Prop := threadPlaysUptoRow.holds Try.pinned (OpenSpec.upto threadPlaysSpec)

/-- 'quilletlaw05.ThreadDirect', WHERE WHAT IT READS IS OF BULK AT MOST 1048576: true; the input reads as it did. -/
def threadDirectUptoRow : OpenClaim := { program := "ytkjnamhgemidkaa", sum := "1c73efd77f18ab89e2c26d391c564eb679b318c8d3475d29c830cb0e9f109ec5", func := "quillet/quilletlaw05.ThreadDirect", spec := "threadDirect", unfollowed := true, recurses := true, leaving := true, apart := false, narrowed := true }
def ThreadDirectUptoSaid : Prop := threadDirectUptoRow.holds Try.pinned (OpenSpec.upto threadDirectSpec)

/-- 'quilletlaw18.TallyAll', WHERE WHAT IT READS IS OF BULK AT MOST 1048576: true; the input reads as it did. -/
def tallyAllUptoRow : OpenClaim := { program := "ytkjnamhgemidkaa", sum := "1c73efd77f18ab89e2c26d391c564eb679b318c8d3475d29c830cb0e9f109ec5", func := "quillet/quilletlaw18.TallyAll", spec := "tallyAll", unfollowed := true, recurses := true, leaving := true, apart := false, narrowed := true }
def TallyAllUptoSaid : Prop := tallyAllUptoRow.holds Try.pinned (OpenSpec.upto tallyAllSpec)

/-- 'quilletlaw07.LockOne', WHERE WHAT IT READS IS OF BULK AT MOST 1048576: true; the input reads as it did. -/
def lockOneUptoRow : OpenClaim := { program := "ytkjnamhgemidkaa", sum := "1c73efd77f18ab89e2c26d391c564eb679b318c8d3475d29c830cb0e9f109ec5", func := "quillet/quilletlaw07.LockOne", spec := "lockOne", unfollowed := true, recurses := true, leaving := true, apart := false, narrowed := true }
def LockOneUptoSaid : Prop := lockOneUptoRow.holds Try.pinned (OpenSpec.upto lockOneSpec)

/-- 'quilletlaw07.LockStands', WHERE WHAT IT READS IS OF BULK AT MOST 1048576: true; the input reads as it did. -/
def lockStandsUptoRow : OpenClaim := { program := "ytkjnamhgemidkaa", sum := "1c73efd77f18ab89e2c26d391c564eb679b318c8d3475d29c830cb0e9f109ec5", func := "quillet/quilletlaw07.LockStands", spec := "lockStands", unfollowed := true, recurses := true, leaving := true, apart := false, narrowed := true }
def LockStandsUptoSaid : Prop := lockStandsUptoRow.holds Try.pinned (OpenSpec.upto lockStandsSpec)

/-- 'quilletlaw18.TallyBetween', WHERE WHAT IT READS IS OF BULK AT MOST 1048576: true; the input reads as it did. -/
def tallyBetweenUptoRow : OpenClaim := { program := "ytkjnamhgemidkaa", sum := "1c73efd77f18ab89e2c26d391c564eb679b318c8d3475d29c830cb0e9f109ec5", func := "quillet/quilletlaw18.TallyBetween", spec := "tallyBetween", unfollowed := true, recurses := true, leaving := true, apart := false, narrowed := true }
def TallyBetweenUptoSaid : Prop := tallyBetweenUptoRow.holds Try.pinned (OpenSpec.upto tallyBetweenSpec)

/-- 'quilletlaw12.CacheStands', WHERE WHAT IT READS IS OF BULK AT MOST 1048576: true; the input reads as it did. -/
def cacheStandsUptoRow : OpenClaim := { program := "ytkjnamhgemidkaa", sum := "1c73efd77f18ab89e2c26d391c564eb679b318c8d3475d29c830cb0e9f109ec5", func := "quillet/quilletlaw12.CacheStands", spec := "cacheStands", unfollowed := true, recurses := true, leaving := true, apart := false, narrowed := true }
def CacheStandsUptoSaid : Prop := cacheStandsUptoRow.holds Try.pinned (OpenSpec.upto cacheStandsSpec)

end Rows
end Go.Proofs.Ytkjnamhgemidkaa
