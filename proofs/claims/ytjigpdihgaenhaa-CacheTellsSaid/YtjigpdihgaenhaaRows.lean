/-
  No cell of these rows narrows 'for every input' (looked for: loops, veiled, ifaces, maps, wideKeys, modest, calm, conditions, laid).
  DERIVED. THE GIVEN ROWS OF THIS SEAT. 8 by the template 'for every input the law returns true; each argument reads behind the call as it read before'; 0 by the template 'total and deterministic' (their statements: YtjigpdihgaenhaaTotals.lean).
  GIVEN WITH THE SEED: the statements are not yours to turn. If you find one false, say at which input.
  Laid BY PROGRAM, IN A SANDBOX (cutbox-rows.mjs): the forced cells as the released guide's own fill.sh prints them over the translation 9430598f747b9919… (all of the seat's roots in one cut). By AI agents, Wed Nov 11 2026. No macro, syntax, notation, axiom, sorry.
-/
import Derived.Test.YtjigpdihgaenhaaChecked
import GoSem.Claim
import GoSem.ClaimJoined
import GoSem.ClaimMapViews
import Derived.JoinedTies
import Derived.KernelRfl
namespace Go.Proofs.Ytjigpdihgaenhaa
/- THE CELL 'sum', in the pinned program and in every row, IS THE sha256 OF THE DUMP (.gsa) THAT YtjigpdihgaenhaaProg.lean LOADS. Nothing in Lean hashes anything: it is a label: what it is worth is what the hold of that sum in a sandbox is worth. -/
noncomputable def Try.pinned : Pinned := { name := "ytjigpdihgaenhaa", sum := "9430598f747b99191cb8f7ca9bfd2982676553df43384aadc04c5f2a6f3b6021", checked := Try.checked }
namespace Rows
def none {H : Type} : Left H := { results := [], args := [] }

/-- 'quilletlaw18.TallyPairs': WHATEVER THE INPUT: true; the input reads as it did. -/
def tallyPairsSpec : ChangeSpec := { name := "tallyPairs", fn := fun _ => fun
  | [d1, d2, d3] => { results := [.lit (.bool true)], args := [d1, d2, d3] }
  | _ => none }
def tallyPairsRow : OpenClaim := { program := "ytjigpdihgaenhaa", sum := "9430598f747b99191cb8f7ca9bfd2982676553df43384aadc04c5f2a6f3b6021", func := "quillet/quilletlaw18.TallyPairs", spec := "tallyPairs", unfollowed := true, recurses := true, apart := false }
def TallyPairsSaid : Prop := tallyPairsRow.holds Try.pinned (OpenSpec.ofChange tallyPairsSpec)

/-- ITS FALSE NEIGHBOUR: 'it returns false'. Refute it at one input. -/
def tallyPairsWrong : ChangeSpec := { name := "tallyPairs", fn := fun _ => fun
  | [d1, d2, d3] => { results := [.lit (.bool false)], args := [d1, d2, d3] }
  | _ => none }
def TallyPairsWrongFalsely : Prop := tallyPairsRow.holds Try.pinned (OpenSpec.ofChange tallyPairsWrong)

/-- 'quilletlaw07.LockPlay': WHATEVER THE INPUT: true; the input reads as it did. -/
def lockPlaySpec : ChangeSpec := { name := "lockPlay", fn := fun _ => fun
  | [d1, d2] => { results := [.lit (.bool true)], args := [d1, d2] }
  | _ => none }
def lockPlayRow : OpenClaim := { program := "ytjigpdihgaenhaa", sum := "9430598f747b99191cb8f7ca9bfd2982676553df43384aadc04c5f2a6f3b6021", func := "quillet/quilletlaw07.LockPlay", spec := "lockPlay", unfollowed := true, recurses := true, apart := false }
def LockPlaySaid : Prop := lockPlayRow.holds Try.pinned (OpenSpec.ofChange lockPlaySpec)

/-- ITS FALSE NEIGHBOUR: 'it returns false'. Refute it at one input. -/
def lockPlayWrong : ChangeSpec := { name := "lockPlay", fn := fun _ => fun
  | [d1, d2] => { results := [.lit (.bool false)], args := [d1, d2] }
  | _ => none }
def LockPlayWrongFalsely : Prop := lockPlayRow.holds Try.pinned (OpenSpec.ofChange lockPlayWrong)

/-- 'quilletlaw07.LockKnown': WHATEVER THE INPUT: true; the input reads as it did. -/
def lockKnownSpec : ChangeSpec := { name := "lockKnown", fn := fun _ => fun
  | [] => { results := [.lit (.bool true)], args := [] }
  | _ => none }
def lockKnownRow : OpenClaim := { program := "ytjigpdihgaenhaa", sum := "9430598f747b99191cb8f7ca9bfd2982676553df43384aadc04c5f2a6f3b6021", func := "quillet/quilletlaw07.LockKnown", spec := "lockKnown", unfollowed := true, recurses := true, apart := false }
def LockKnownSaid : Prop := lockKnownRow.holds Try.pinned (OpenSpec.ofChange lockKnownSpec)

/-- ITS FALSE NEIGHBOUR: 'it returns false'. Refute it at one input. -/
def lockKnownWrong : ChangeSpec := { name := "lockKnown", fn := fun _ => fun
  | [] => { results := [.lit (.bool false)], args := [] }
  | _ => none }
def LockKnownWrongFalsely : Prop := lockKnownRow.holds Try.pinned (OpenSpec.ofChange lockKnownWrong)

/-- 'quilletlaw12.CachePlay': WHATEVER THE INPUT: true; the input reads as it did. -/
def cachePlaySpec : ChangeSpec := { name := "cachePlay", fn := fun _ => fun
  | [d1, d2] => { results := [.lit (.bool true)], args := [d1, d2] }
  | _ => none }
def cachePlayRow : OpenClaim := { program := "ytjigpdihgaenhaa", sum := "9430598f747b99191cb8f7ca9bfd2982676553df43384aadc04c5f2a6f3b6021", func := "quillet/quilletlaw12.CachePlay", spec := "cachePlay", unfollowed := true, recurses := true, apart := false }
def CachePlaySaid : Prop := cachePlayRow.holds Try.pinned (OpenSpec.ofChange cachePlaySpec)

/-- ITS FALSE NEIGHBOUR: 'it returns false'. Refute it at one input. -/
def cachePlayWrong : ChangeSpec := { name := "cachePlay", fn := fun _ => fun
  | [d1, d2] => { results := [.lit (.bool false)], args := [d1, d2] }
  | _ => none }
def CachePlayWrongFalsely : Prop := cachePlayRow.holds Try.pinned (OpenSpec.ofChange cachePlayWrong)

/-- 'quilletlaw12.CacheKnown': WHATEVER THE INPUT: true; the input reads as it did. -/
def cacheKnownSpec : ChangeSpec := { name := "cacheKnown", fn := fun _ => fun
  | [] => { results := [.lit (.bool true)], args := [] }
  | _ => none }
def cacheKnownRow : OpenClaim := { program := "ytjigpdihgaenhaa", sum := "9430598f747b99191cb8f7ca9bfd2982676553df43384aadc04c5f2a6f3b6021", func := "quillet/quilletlaw12.CacheKnown", spec := "cacheKnown", unfollowed := true, recurses := true, apart := false }
def CacheKnownSaid : Prop := cacheKnownRow.holds Try.pinned (OpenSpec.ofChange cacheKnownSpec)

/-- ITS FALSE NEIGHBOUR: 'it returns false'. Refute it at one input. -/
def cacheKnownWrong : ChangeSpec := { name := "cacheKnown", fn := fun _ => fun
  | [] => { results := [.lit (.bool false)], args := [] }
  | _ => none }
def CacheKnownWrongFalsely : Prop := cacheKnownRow.holds Try.pinned (OpenSpec.ofChange cacheKnownWrong)

/-- 'quilletlaw18.TallyCounts': WHATEVER THE INPUT: true; the input reads as it did. -/
def tallyCountsSpec : ChangeSpec := { name := "tallyCounts", fn := fun _ => fun
  | [d1, d2] => { results := [.lit (.bool true)], args := [d1, d2] }
  | _ => none }
def tallyCountsRow : OpenClaim := { program := "ytjigpdihgaenhaa", sum := "9430598f747b99191cb8f7ca9bfd2982676553df43384aadc04c5f2a6f3b6021", func := "quillet/quilletlaw18.TallyCounts", spec := "tallyCounts", unfollowed := true, recurses := true, apart := false }
def TallyCountsSaid : Prop := tallyCountsRow.holds Try.pinned (OpenSpec.ofChange tallyCountsSpec)

/-- ITS FALSE NEIGHBOUR: 'it returns false'. Refute it at one input. -/
def tallyCountsWrong : ChangeSpec := { name := "tallyCounts", fn := fun _ => fun
  | [d1, d2] => { results := [.lit (.bool false)], args := [d1, d2] }
  | _ => none }
def TallyCountsWrongFalsely : Prop := tallyCountsRow.holds Try.pinned (OpenSpec.ofChange tallyCountsWrong)

/-- 'quilletlaw07.LockTells': WHATEVER THE INPUT: true; the input reads as it did. -/
def lockTellsSpec : ChangeSpec := { name := "lockTells", fn := fun _ => fun
  | [d1, d2, d3] => { results := [.lit (.bool true)], args := [d1, d2, d3] }
  | _ => none }
def lockTellsRow : OpenClaim := { program := "ytjigpdihgaenhaa", sum := "9430598f747b99191cb8f7ca9bfd2982676553df43384aadc04c5f2a6f3b6021", func := "quillet/quilletlaw07.LockTells", spec := "lockTells", unfollowed := true, recurses := true, apart := false }
def LockTellsSaid : Prop := lockTellsRow.holds Try.pinned (OpenSpec.ofChange lockTellsSpec)

/-- ITS FALSE NEIGHBOUR: 'it returns false'. Refute it at one input. -/
def lockTellsWrong : ChangeSpec := { name := "lockTells", fn := fun _ => fun
  | [d1, d2, d3] => { results := [.lit (.bool false)], args := [d1, d2, d3] }
  | _ => none }
def LockTellsWrongFalsely : Prop := lockTellsRow.holds Try.pinned (OpenSpec.ofChange lockTellsWrong)

/-- 'quilletlaw12.CacheTells': WHATEVER THE INPUT: true; the input reads as it did. -/
def cacheTellsSpec : ChangeSpec := { name := "cacheTells", fn := fun _ => fun
  | [d1, d2, d3, d4, d5, d6, d7] => { results := [.lit (.bool true)], args := [d1, d2, d3, d4, d5, d6, d7] }
  | _ => none }
def cacheTellsRow : OpenClaim := { program := "ytjigpdihgaenhaa", sum := "9430598f747b99191cb8f7ca9bfd2982676553df43384aadc04c5f2a6f3b6021", func := "quillet/quilletlaw12.CacheTells", spec := "cacheTells", unfollowed := true, recurses := true, apart := false }
def CacheTellsSaid : Prop := cacheTellsRow.holds Try.pinned (OpenSpec.ofChange cacheTellsSpec)

/-- ITS FALSE NEIGHBOUR: 'it returns false'. Refute it at one input. -/
def cacheTellsWrong : ChangeSpec := { name := "cacheTells", fn := fun _ => fun
  | [d1, d2, d3, d4, d5, d6, d7] => { results := [.lit (.bool false)], args := [d1, d2, d3, d4, d5, d6, d7] }
  | _ => none }
def CacheTellsWrongFalsely : Prop := cacheTellsRow.holds Try.pinned (OpenSpec.ofChange cacheTellsWrong)

/- THE SECOND FORM. 'bulk': how many values and letters a reading holds, each counted each time it is reached (what is shared counts as often as it is met; a slice's spare places count too). A statement '..UptoSaid' is the law's where the arguments, and the package variables that the reading takes, are together of bulk at most 1048576: NARROWER than '..Said'. Prove '..Said' where nothing that the law and all that it calls make is longer than what came in: it says more and counts as full. Else prove '..UptoSaid'. A law counts once. -/
mutual
def uptoBulk {H : Type} : DataW H → Nat
  | .lit (.string bytes) => bytes.length + 1
  | .lit _ => 1
  | .nil => 1
  | .ptr d => uptoBulk d + 1
  | .slice elems spare => uptoBulkAll elems + uptoBulkAll spare + 1
  | .agg parts => uptoBulkAll parts + 1
  | .iface _ d => uptoBulk d + 1
  | .map entries => uptoBulkEntries entries + 1
  | .held _ => 1
def uptoBulkAll {H : Type} : List (DataW H) → Nat
  | [] => 0
  | d :: r => uptoBulk d + uptoBulkAll r
def uptoBulkEntries {H : Type} : List (Lit × DataW H) → Nat
  | [] => 0
  | x :: r => uptoBulkEntry x + uptoBulkEntries r
def uptoBulkEntry {H : Type} : Lit × DataW H → Nat
  | (.string bytes, d) => bytes.length + uptoBulk d + 1
  | (_, d) => uptoBulk d + 1
 end
def uptoSmall : (H : Type) → List (DataW H) → Bool := fun _ ds => decide (uptoBulkAll ds ≤ 1048576)
def OpenSpec.upto (s : _root_.Go.ChangeSpec) : _root_.Go.OpenSpec := { _root_.Go.OpenSpec.ofChange s with cond := some uptoSmall }

/-- 'quilletlaw18.TallyPairs', WHERE WHAT IT READS IS OF BULK AT MOST 1048576: true; the input reads as it did. -/
def tallyPairsUptoRow : OpenClaim := { program := "ytjigpdihgaenhaa", sum := "9430598f747b99191cb8f7ca9bfd2982676553df43384aadc04c5f2a6f3b6021", func := "quillet/quilletlaw18.TallyPairs", spec := "tallyPairs", unfollowed := true, recurses := true, apart := false, narrowed := true }
def TallyPairsUptoSaid : Prop := tallyPairsUptoRow.holds Try.pinned (OpenSpec.upto tallyPairsSpec)

/-- 'quilletlaw07.LockPlay', WHERE WHAT IT READS IS OF BULK AT MOST 1048576: true; the input reads as it did. -/
def lockPlayUptoRow : OpenClaim := { program := "ytjigpdihgaenhaa", sum := "9430598f747b99191cb8f7ca9bfd2982676553df43384aadc04c5f2a6f3b6021", func := "quillet/quilletlaw07.LockPlay", spec := "lockPlay", unfollowed := true, recurses := true, apart := false, narrowed := true }
def LockPlayUptoSaid : Prop := lockPlayUptoRow.holds Try.pinned (OpenSpec.upto lockPlaySpec)

/-- 'quilletlaw07.LockKnown', WHERE WHAT IT READS IS OF BULK AT MOST 1048576: true; the input reads as it did. -/
def lockKnownUptoRow : OpenClaim := { program := "ytjigpdihgaenhaa", sum := "9430598f747b99191cb8f7ca9bfd2982676553df43384aadc04c5f2a6f3b6021", func := "quillet/quilletlaw07.LockKnown", spec := "lockKnown", unfollowed := true, recurses := true, apart := false, narrowed := true }
def LockKnownUptoSaid : Prop := lockKnownUptoRow.holds Try.pinned (OpenSpec.upto lockKnownSpec)

/-- 'quilletlaw12.CachePlay', WHERE WHAT IT READS IS OF BULK AT MOST 1048576: true; the input reads as it did. -/
def cachePlayUptoRow : OpenClaim := { program := "ytjigpdihgaenhaa", sum := "9430598f747b99191cb8f7ca9bfd2982676553df43384aadc04c5f2a6f3b6021", func := "quillet/quilletlaw12.CachePlay", spec := "cachePlay", unfollowed := true, recurses := true, apart := false, narrowed := true }
def CachePlayUptoSaid : Prop := cachePlayUptoRow.holds Try.pinned (OpenSpec.upto cachePlaySpec)

/-- 'quilletlaw12.CacheKnown', WHERE WHAT IT READS IS OF BULK AT MOST 1048576: true; the input reads as it did. -/
def cacheKnownUptoRow : OpenClaim := { program := "ytjigpdihgaenhaa", sum := "9430598f747b99191cb8f7ca9bfd2982676553df43384aadc04c5f2a6f3b6021", func := "quillet/quilletlaw12.CacheKnown", spec := "cacheKnown", unfollowed := true, recurses := true, apart := false, narrowed := true }
def CacheKnownUptoSaid : Prop := cacheKnownUptoRow.holds Try.pinned (OpenSpec.upto cacheKnownSpec)

/-- 'quilletlaw18.TallyCounts', WHERE WHAT IT READS IS OF BULK AT MOST 1048576: true; the input reads as it did. -/
def tallyCountsUptoRow : OpenClaim := { program := "ytjigpdihgaenhaa", sum := "9430598f747b99191cb8f7ca9bfd2982676553df43384aadc04c5f2a6f3b6021", func := "quillet/quilletlaw18.TallyCounts", spec := "tallyCounts", unfollowed := true, recurses := true, apart := false, narrowed := true }
def TallyCountsUptoSaid : Prop := tallyCountsUptoRow.holds Try.pinned (OpenSpec.upto tallyCountsSpec)

/-- 'quilletlaw07.LockTells', WHERE WHAT IT READS IS OF BULK AT MOST 1048576: true; the input reads as it did. -/
def lockTellsUptoRow : OpenClaim := { program := "ytjigpdihgaenhaa", sum := "9430598f747b99191cb8f7ca9bfd2982676553df43384aadc04c5f2a6f3b6021", func := "quillet/quilletlaw07.LockTells", spec := "lockTells", unfollowed := true, recurses := true, apart := false, narrowed := true }
def LockTellsUptoSaid : Prop := lockTellsUptoRow.holds Try.pinned (OpenSpec.upto lockTellsSpec)

/-- 'quilletlaw12.CacheTells', WHERE WHAT IT READS IS OF BULK AT MOST 1048576: true; the input reads as it did. -/
def cacheTellsUptoRow : OpenClaim := { program := "ytjigpdihgaenhaa", sum := "9430598f747b99191cb8f7ca9bfd2982676553df43384aadc04c5f2a6f3b6021", func := "quillet/quilletlaw12.CacheTells", spec := "cacheTells", unfollowed := true, recurses := true, apart := false, narrowed := true }
def CacheTellsUptoSaid : Prop := cacheTellsUptoRow.holds Try.pinned (OpenSpec.upto cacheTellsSpec)

end Rows
end Go.Proofs.Ytjigpdihgaenhaa
