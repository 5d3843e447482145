/-
  No cell of these rows narrows 'for every input' (looked for: loops, veiled, ifaces, maps, wideKeys, modest, calm, conditions, laid).
  DERIVED. THE GIVEN ROWS OF THIS SEAT. 12 by the template 'for every input the law returns true; each argument reads behind the call as it read before'; 0 by the template 'total and deterministic' (their statements: YtceddijolfpppaaTotals.lean).
  GIVEN WITH THE SEED: the statements are not yours to turn. If you find one false, say at which input.
  Laid BY PROGRAM, IN A SANDBOX (cutbox-rows.mjs): the forced cells as the released guide's own fill.sh prints them over the translation 70d8b734533d8222… (all of the seat's roots in one cut). By AI agents, Wed Nov 11 2026. No macro, syntax, notation, axiom, sorry.
-/
import Derived.Test.YtceddijolfpppaaChecked
import GoSem.Claim
import GoSem.ClaimJoined
import GoSem.ClaimMapViews
import Derived.JoinedTies
import Derived.KernelRfl
namespace Go.Proofs.Ytceddijolfpppaa
/- THE CELL 'sum', in the pinned program and in every row, IS THE sha256 OF THE DUMP (.gsa) THAT YtceddijolfpppaaProg.lean LOADS. Nothing in Lean hashes anything: it is a label: what it is worth is what the hold of that sum in a sandbox is worth. -/
noncomputable def Try.pinned : Pinned := { name := "ytceddijolfpppaa", sum := "70d8b734533d8222472a95f8aecaa5689b0f7ddbdddace48bbea17d93d5005b5", checked := Try.checked }
namespace Rows
def none {H : Type} : Left H := { results := [], args := [] }

/-- 'quilletlaw14.StateVers': WHATEVER THE INPUT: true; the input reads as it did. -/
def stateVersSpec : ChangeSpec := { name := "stateVers", fn := fun _ => fun
  | [d1, d2] => { results := [.lit (.bool true)], args := [d1, d2] }
  | _ => none }
def stateVersRow : OpenClaim := { program := "ytceddijolfpppaa", sum := "70d8b734533d8222472a95f8aecaa5689b0f7ddbdddace48bbea17d93d5005b5", func := "quillet/quilletlaw14.StateVers", spec := "stateVers", unfollowed := true, recurses := true, apart := false }
def StateVersSaid : Prop := stateVersRow.holds Try.pinned (OpenSpec.ofChange stateVersSpec)

/-- ITS FALSE NEIGHBOUR: 'it returns false'. Refute it at one input. -/
def stateVersWrong : ChangeSpec := { name := "stateVers", fn := fun _ => fun
  | [d1, d2] => { results := [.lit (.bool false)], args := [d1, d2] }
  | _ => none }
def StateVersWrongFalsely : Prop := stateVersRow.holds Try.pinned (OpenSpec.ofChange stateVersWrong)

/-- 'quilletlaw14.StateSettles': WHATEVER THE INPUT: true; the input reads as it did. -/
def stateSettlesSpec : ChangeSpec := { name := "stateSettles", fn := fun _ => fun
  | [d1, d2, d3] => { results := [.lit (.bool true)], args := [d1, d2, d3] }
  | _ => none }
def stateSettlesRow : OpenClaim := { program := "ytceddijolfpppaa", sum := "70d8b734533d8222472a95f8aecaa5689b0f7ddbdddace48bbea17d93d5005b5", func := "quillet/quilletlaw14.StateSettles", spec := "stateSettles", unfollowed := true, recurses := true, apart := false }
def StateSettlesSaid : Prop := stateSettlesRow.holds Try.pinned (OpenSpec.ofChange stateSettlesSpec)

/-- ITS FALSE NEIGHBOUR: 'it returns false'. Refute it at one input. -/
def stateSettlesWrong : ChangeSpec := { name := "stateSettles", fn := fun _ => fun
  | [d1, d2, d3] => { results := [.lit (.bool false)], args := [d1, d2, d3] }
  | _ => none }
def StateSettlesWrongFalsely : Prop := stateSettlesRow.holds Try.pinned (OpenSpec.ofChange stateSettlesWrong)

/-- 'quilletlaw14.StateKnown': WHATEVER THE INPUT: true; the input reads as it did. -/
def stateKnownSpec : ChangeSpec := { name := "stateKnown", fn := fun _ => fun
  | [] => { results := [.lit (.bool true)], args := [] }
  | _ => none }
def stateKnownRow : OpenClaim := { program := "ytceddijolfpppaa", sum := "70d8b734533d8222472a95f8aecaa5689b0f7ddbdddace48bbea17d93d5005b5", func := "quillet/quilletlaw14.StateKnown", spec := "stateKnown", unfollowed := true, recurses := true, apart := false }
def StateKnownSaid : Prop := stateKnownRow.holds Try.pinned (OpenSpec.ofChange stateKnownSpec)

/-- ITS FALSE NEIGHBOUR: 'it returns false'. Refute it at one input. -/
def stateKnownWrong : ChangeSpec := { name := "stateKnown", fn := fun _ => fun
  | [] => { results := [.lit (.bool false)], args := [] }
  | _ => none }
def StateKnownWrongFalsely : Prop := stateKnownRow.holds Try.pinned (OpenSpec.ofChange stateKnownWrong)

/-- 'quilletlaw10.RunsBest': WHATEVER THE INPUT: true; the input reads as it did. -/
def runsBestSpec : ChangeSpec := { name := "runsBest", fn := fun _ => fun
  | [d1, d2, d3, d4] => { results := [.lit (.bool true)], args := [d1, d2, d3, d4] }
  | _ => none }
def runsBestRow : OpenClaim := { program := "ytceddijolfpppaa", sum := "70d8b734533d8222472a95f8aecaa5689b0f7ddbdddace48bbea17d93d5005b5", func := "quillet/quilletlaw10.RunsBest", spec := "runsBest", unfollowed := true, recurses := true, apart := false }
def RunsBestSaid : Prop := runsBestRow.holds Try.pinned (OpenSpec.ofChange runsBestSpec)

/-- ITS FALSE NEIGHBOUR: 'it returns false'. Refute it at one input. -/
def runsBestWrong : ChangeSpec := { name := "runsBest", fn := fun _ => fun
  | [d1, d2, d3, d4] => { results := [.lit (.bool false)], args := [d1, d2, d3, d4] }
  | _ => none }
def RunsBestWrongFalsely : Prop := runsBestRow.holds Try.pinned (OpenSpec.ofChange runsBestWrong)

/-- 'quilletlaw08.PoolPlay': WHATEVER THE INPUT: true; the input reads as it did. -/
def poolPlaySpec : ChangeSpec := { name := "poolPlay", fn := fun _ => fun
  | [d1, d2, d3] => { results := [.lit (.bool true)], args := [d1, d2, d3] }
  | _ => none }
def poolPlayRow : OpenClaim := { program := "ytceddijolfpppaa", sum := "70d8b734533d8222472a95f8aecaa5689b0f7ddbdddace48bbea17d93d5005b5", func := "quillet/quilletlaw08.PoolPlay", spec := "poolPlay", unfollowed := true, recurses := true, apart := false }
def PoolPlaySaid : Prop := poolPlayRow.holds Try.pinned (OpenSpec.ofChange poolPlaySpec)

/-- ITS FALSE NEIGHBOUR: 'it returns false'. Refute it at one input. -/
def poolPlayWrong : ChangeSpec := { name := "poolPlay", fn := fun _ => fun
  | [d1, d2, d3] => { results := [.lit (.bool false)], args := [d1, d2, d3] }
  | _ => none }
def PoolPlayWrongFalsely : Prop := poolPlayRow.holds Try.pinned (OpenSpec.ofChange poolPlayWrong)

/-- 'quilletlaw08.PoolKnown': WHATEVER THE INPUT: true; the input reads as it did. -/
def poolKnownSpec : ChangeSpec := { name := "poolKnown", fn := fun _ => fun
  | [] => { results := [.lit (.bool true)], args := [] }
  | _ => none }
def poolKnownRow : OpenClaim := { program := "ytceddijolfpppaa", sum := "70d8b734533d8222472a95f8aecaa5689b0f7ddbdddace48bbea17d93d5005b5", func := "quillet/quilletlaw08.PoolKnown", spec := "poolKnown", unfollowed := true, recurses := true, apart := false }
def PoolKnownSaid : Prop := poolKnownRow.holds Try.pinned (OpenSpec.ofChange poolKnownSpec)

/-- ITS FALSE NEIGHBOUR: 'it returns false'. Refute it at one input. -/
def poolKnownWrong : ChangeSpec := { name := "poolKnown", fn := fun _ => fun
  | [] => { results := [.lit (.bool false)], args := [] }
  | _ => none }
def PoolKnownWrongFalsely : Prop := poolKnownRow.holds Try.pinned (OpenSpec.ofChange poolKnownWrong)

/-- 'quilletlaw10.RunsCover': WHATEVER THE INPUT: true; the input reads as it did. -/
def runsCoverSpec : ChangeSpec := { name := "runsCover", fn := fun _ => fun
  | [d1, d2] => { results := [.lit (.bool true)], args := [d1, d2] }
  | _ => none }
def runsCoverRow : OpenClaim := { program := "ytceddijolfpppaa", sum := "70d8b734533d8222472a95f8aecaa5689b0f7ddbdddace48bbea17d93d5005b5", func := "quillet/quilletlaw10.RunsCover", spec := "runsCover", unfollowed := true, recurses := true, apart := false }
def RunsCoverSaid : Prop := runsCoverRow.holds Try.pinned (OpenSpec.ofChange runsCoverSpec)

/-- ITS FALSE NEIGHBOUR: 'it returns false'. Refute it at one input. -/
def runsCoverWrong : ChangeSpec := { name := "runsCover", fn := fun _ => fun
  | [d1, d2] => { results := [.lit (.bool false)], args := [d1, d2] }
  | _ => none }
def RunsCoverWrongFalsely : Prop := runsCoverRow.holds Try.pinned (OpenSpec.ofChange runsCoverWrong)

/-- 'quilletlaw10.RunsApart': WHATEVER THE INPUT: true; the input reads as it did. -/
def runsApartSpec : ChangeSpec := { name := "runsApart", fn := fun _ => fun
  | [d1, d2, d3] => { results := [.lit (.bool true)], args := [d1, d2, d3] }
  | _ => none }
def runsApartRow : OpenClaim := { program := "ytceddijolfpppaa", sum := "70d8b734533d8222472a95f8aecaa5689b0f7ddbdddace48bbea17d93d5005b5", func := "quillet/quilletlaw10.RunsApart", spec := "runsApart", unfollowed := true, recurses := true, apart := false }
def RunsApartSaid : Prop := runsApartRow.holds Try.pinned (OpenSpec.ofChange runsApartSpec)

/-- ITS FALSE NEIGHBOUR: 'it returns false'. Refute it at one input. -/
def runsApartWrong : ChangeSpec := { name := "runsApart", fn := fun _ => fun
  | [d1, d2, d3] => { results := [.lit (.bool false)], args := [d1, d2, d3] }
  | _ => none }
def RunsApartWrongFalsely : Prop := runsApartRow.holds Try.pinned (OpenSpec.ofChange runsApartWrong)

/-- 'quilletlaw10.RunsKnown': WHATEVER THE INPUT: true; the input reads as it did. -/
def runsKnownSpec : ChangeSpec := { name := "runsKnown", fn := fun _ => fun
  | [] => { results := [.lit (.bool true)], args := [] }
  | _ => none }
def runsKnownRow : OpenClaim := { program := "ytceddijolfpppaa", sum := "70d8b734533d8222472a95f8aecaa5689b0f7ddbdddace48bbea17d93d5005b5", func := "quillet/quilletlaw10.RunsKnown", spec := "runsKnown", unfollowed := true, recurses := true, apart := false }
def RunsKnownSaid : Prop := runsKnownRow.holds Try.pinned (OpenSpec.ofChange runsKnownSpec)

/-- ITS FALSE NEIGHBOUR: 'it returns false'. Refute it at one input. -/
def runsKnownWrong : ChangeSpec := { name := "runsKnown", fn := fun _ => fun
  | [] => { results := [.lit (.bool false)], args := [] }
  | _ => none }
def RunsKnownWrongFalsely : Prop := runsKnownRow.holds Try.pinned (OpenSpec.ofChange runsKnownWrong)

/-- 'quilletlaw17.DataWritten': WHATEVER THE INPUT: true; the input reads as it did. -/
def dataWrittenSpec : ChangeSpec := { name := "dataWritten", fn := fun _ => fun
  | [d1, d2, d3, d4] => { results := [.lit (.bool true)], args := [d1, d2, d3, d4] }
  | _ => none }
def dataWrittenRow : OpenClaim := { program := "ytceddijolfpppaa", sum := "70d8b734533d8222472a95f8aecaa5689b0f7ddbdddace48bbea17d93d5005b5", func := "quillet/quilletlaw17.DataWritten", spec := "dataWritten", unfollowed := true, recurses := true, apart := false }
def DataWrittenSaid : Prop := dataWrittenRow.holds Try.pinned (OpenSpec.ofChange dataWrittenSpec)

/-- ITS FALSE NEIGHBOUR: 'it returns false'. Refute it at one input. -/
def dataWrittenWrong : ChangeSpec := { name := "dataWritten", fn := fun _ => fun
  | [d1, d2, d3, d4] => { results := [.lit (.bool false)], args := [d1, d2, d3, d4] }
  | _ => none }
def DataWrittenWrongFalsely : Prop := dataWrittenRow.holds Try.pinned (OpenSpec.ofChange dataWrittenWrong)

/-- 'quilletlaw17.DataTells': WHATEVER THE INPUT: true; the input reads as it did. -/
def dataTellsSpec : ChangeSpec := { name := "dataTells", fn := fun _ => fun
  | [d1, d2, d3, d4, d5, d6] => { results := [.lit (.bool true)], args := [d1, d2, d3, d4, d5, d6] }
  | _ => none }
def dataTellsRow : OpenClaim := { program := "ytceddijolfpppaa", sum := "70d8b734533d8222472a95f8aecaa5689b0f7ddbdddace48bbea17d93d5005b5", func := "quillet/quilletlaw17.DataTells", spec := "dataTells", unfollowed := true, recurses := true, apart := false }
def DataTellsSaid : Prop := dataTellsRow.holds Try.pinned (OpenSpec.ofChange dataTellsSpec)

/-- ITS FALSE NEIGHBOUR: 'it returns false'. Refute it at one input. -/
def dataTellsWrong : ChangeSpec := { name := "dataTells", fn := fun _ => fun
  | [d1, d2, d3, d4, d5, d6] => { results := [.lit (.bool false)], args := [d1, d2, d3, d4, d5, d6] }
  | _ => none }
def DataTellsWrongFalsely : Prop := dataTellsRow.holds Try.pinned (OpenSpec.ofChange dataTellsWrong)

/-- 'quilletlaw17.DataKnown': WHATEVER THE INPUT: true; the input reads as it did. -/
def dataKnownSpec : ChangeSpec := { name := "dataKnown", fn := fun _ => fun
  | [] => { results := [.lit (.bool true)], args := [] }
  | _ => none }
def dataKnownRow : OpenClaim := { program := "ytceddijolfpppaa", sum := "70d8b734533d8222472a95f8aecaa5689b0f7ddbdddace48bbea17d93d5005b5", func := "quillet/quilletlaw17.DataKnown", spec := "dataKnown", unfollowed := true, recurses := true, apart := false }
def DataKnownSaid : Prop := dataKnownRow.holds Try.pinned (OpenSpec.ofChange dataKnownSpec)

/-- ITS FALSE NEIGHBOUR: 'it returns false'. Refute it at one input. -/
def dataKnownWrong : ChangeSpec := { name := "dataKnown", fn := fun _ => fun
  | [] => { results := [.lit (.bool false)], args := [] }
  | _ => none }
def DataKnownWrongFalsely : Prop := dataKnownRow.holds Try.pinned (OpenSpec.ofChange dataKnownWrong)

/- THE SECOND FORM. 'bulk': how many values and letters a reading holds, each counted each time it is reached (what is shared counts as often as it is met; a slice's spare places count too). A statement '..UptoSaid' is the law's where the arguments, and the package variables that the reading takes, are together of bulk at most 1048576: NARROWER than '..Said'. Prove '..Said' where nothing that the law and all that it calls make is longer than what came in: it says more and counts as full. Else prove '..UptoSaid'. A law counts once. -/
mutual
def uptoBulk {H : Type} : DataW H → Nat
  | .lit (.string bytes) => bytes.length + 1
  | .lit _ => 1
  | .nil => 1
  | .ptr d => uptoBulk d + 1
  | .slice elems spare => uptoBulkAll elems + uptoBulkAll spare + 1
  | .agg parts => uptoBulkAll parts + 1
  | .iface _ d => uptoBulk d + 1
  | .map entries => uptoBulkEntries entries + 1
  | .held _ => 1
def uptoBulkAll {H : Type} : List (DataW H) → Nat
  | [] => 0
  | d :: r => uptoBulk d + uptoBulkAll r
def uptoBulkEntries {H : Type} : List (Lit × DataW H) → Nat
  | [] => 0
  | x :: r => uptoBulkEntry x + uptoBulkEntries r
def uptoBulkEntry {H : Type} : Lit × DataW H → Nat
  | (.string bytes, d) => bytes.length + uptoBulk d + 1
  | (_, d) => uptoBulk d + 1
 end
def uptoSmall : (H : Type) → List (DataW H) → Bool := fun _ ds => decide (uptoBulkAll ds ≤ 1048576)
def OpenSpec.upto (s : _root_.Go.ChangeSpec) : _root_.Go.OpenSpec := { _root_.Go.OpenSpec.ofChange s with cond := some uptoSmall }

/-- 'quilletlaw14.StateVers', WHERE WHAT IT READS IS OF BULK AT MOST 1048576: true; the input reads as it did. -/
def stateVersUptoRow : OpenClaim := { program := "ytceddijolfpppaa", sum := "70d8b734533d8222472a95f8aecaa5689b0f7ddbdddace48bbea17d93d5005b5", func := "quillet/quilletlaw14.StateVers", spec := "stateVers", unfollowed := true, recurses := true, apart := false, narrowed := true }
def StateVersUptoSaid : Prop := stateVersUptoRow.holds Try.pinned (OpenSpec.upto stateVersSpec)

/-- 'quilletlaw14.StateSettles', WHERE WHAT IT READS IS OF BULK AT MOST 1048576: true; the input reads as it did. -/
def stateSettlesUptoRow : OpenClaim := { program := "ytceddijolfpppaa", sum := "70d8b734533d8222472a95f8aecaa5689b0f7ddbdddace48bbea17d93d5005b5", func := "quillet/quilletlaw14.StateSettles", spec := "stateSettles", unfollowed := true, recurses := true, apart := false, narrowed := true }
def StateSettlesUptoSaid : Prop := stateSettlesUptoRow.holds Try.pinned (OpenSpec.upto stateSettlesSpec)

/-- 'quilletlaw14.StateKnown', WHERE WHAT IT READS IS OF BULK AT MOST 1048576: true; the input reads as it did. -/
def stateKnownUptoRow : OpenClaim := { program := "ytceddijolfpppaa", sum := "70d8b734533d8222472a95f8aecaa5689b0f7ddbdddace48bbea17d93d5005b5", func := "quillet/quilletlaw14.StateKnown", spec := "stateKnown", unfollowed := true, recurses := true, apart := false, narrowed := true }
def StateKnownUptoSaid : Prop := stateKnownUptoRow.holds Try.pinned (OpenSpec.upto stateKnownSpec)

/-- 'quilletlaw10.RunsBest', WHERE WHAT IT READS IS OF BULK AT MOST 1048576: true; the input reads as it did. -/
def runsBestUptoRow : OpenClaim := { program := "ytceddijolfpppaa", sum := "70d8b734533d8222472a95f8aecaa5689b0f7ddbdddace48bbea17d93d5005b5", func := "quillet/quilletlaw10.RunsBest", spec := "runsBest", unfollowed := true, recurses := true, apart := false, narrowed := true }
def RunsBestUptoSaid : Prop := runsBestUptoRow.holds Try.pinned (OpenSpec.upto runsBestSpec)

/-- 'quilletlaw08.PoolPlay', WHERE WHAT IT READS IS OF BULK AT MOST 1048576: true; the input reads as it did. -/
def poolPlayUptoRow : OpenClaim := { program := "ytceddijolfpppaa", sum := "70d8b734533d8222472a95f8aecaa5689b0f7ddbdddace48bbea17d93d5005b5", func := "quillet/quilletlaw08.PoolPlay", spec := "poolPlay", unfollowed := true, recurses := true, apart := false, narrowed := true }
def PoolPlayUptoSaid : Prop := poolPlayUptoRow.holds Try.pinned (OpenSpec.upto poolPlaySpec)

/-- 'quilletlaw08.PoolKnown', WHERE WHAT IT READS IS OF BULK AT MOST 1048576: true; the input reads as it did. -/
def poolKnownUptoRow : OpenClaim := { program := "ytceddijolfpppaa", sum := "70d8b734533d8222472a95f8aecaa5689b0f7ddbdddace48bbea17d93d5005b5", func := "quillet/quilletlaw08.PoolKnown", spec := "poolKnown", unfollowed := true, recurses := true, apart := false, narrowed := true }
def PoolKnownUptoSaid : Prop := poolKnownUptoRow.holds Try.pinned (OpenSpec.upto poolKnownSpec)

/-- 'quilletlaw10.RunsCover', WHERE WHAT IT READS IS OF BULK AT MOST 1048576: true; the input reads as it did. -/
def runsCoverUptoRow : OpenClaim := { program := "ytceddijolfpppaa", sum := "70d8b734533d8222472a95f8aecaa5689b0f7ddbdddace48bbea17d93d5005b5", func := "quillet/quilletlaw10.RunsCover", spec := "runsCover", unfollowed := true, recurses := true, apart := false, narrowed := true }
def RunsCoverUptoSaid : Prop := runsCoverUptoRow.holds Try.pinned (OpenSpec.upto runsCoverSpec)

/-- 'quilletlaw10.RunsApart', WHERE WHAT IT READS IS OF BULK AT MOST 1048576: true; the input reads as it did. -/
def runsApartUptoRow : OpenClaim := { program := "ytceddijolfpppaa", sum := "70d8b734533d8222472a95f8aecaa5689b0f7ddbdddace48bbea17d93d5005b5", func := "quillet/quilletlaw10.RunsApart", spec := "runsApart", unfollowed := true, recurses := true, apart := false, narrowed := true }
def RunsApartUptoSaid : Prop := runsApartUptoRow.holds Try.pinned (OpenSpec.upto runsApartSpec)

/-- 'quilletlaw10.RunsKnown', WHERE WHAT IT READS IS OF BULK AT MOST 1048576: true; the input reads as it did. -/
def runsKnownUptoRow : OpenClaim := { program := "ytceddijolfpppaa", sum := "70d8b734533d8222472a95f8aecaa5689b0f7ddbdddace48bbea17d93d5005b5", func := "quillet/quilletlaw10.RunsKnown", spec := "runsKnown", unfollowed := true, recurses := true, apart := false, narrowed := true }
def RunsKnownUptoSaid : Prop := runsKnownUptoRow.holds Try.pinned (OpenSpec.upto runsKnownSpec)

/-- 'quilletlaw17.DataWritten', WHERE WHAT IT READS IS OF BULK AT MOST 1048576: true; the input reads as it did. -/
def dataWrittenUptoRow : OpenClaim := { program := "ytceddijolfpppaa", sum := "70d8b734533d8222472a95f8aecaa5689b0f7ddbdddace48bbea17d93d5005b5", func := "quillet/quilletlaw17.DataWritten", spec := "dataWritten", unfollowed := true, recurses := true, apart := false, narrowed := true }
def DataWrittenUptoSaid : Prop := dataWrittenUptoRow.holds Try.pinned (OpenSpec.upto dataWrittenSpec)

/-- 'quilletlaw17.DataTells', WHERE WHAT IT READS IS OF BULK AT MOST 1048576: true; the input reads as it did. -/
def dataTellsUptoRow : OpenClaim := { program := "ytceddijolfpppaa", sum := "70d8b734533d8222472a95f8aecaa5689b0f7ddbdddace48bbea17d93d5005b5", func := "quillet/quilletlaw17.DataTells", spec := "dataTells", unfollowed := true, recurses := true, apart := false, narrowed := true }
def DataTellsUptoSaid : Prop := dataTellsUptoRow.holds Try.pinned (OpenSpec.upto dataTellsSpec)

/-- 'quilletlaw17.DataKnown', WHERE WHAT IT READS IS OF BULK AT MOST 1048576: true; the input reads as it did. -/
def dataKnownUptoRow : OpenClaim := { program := "ytceddijolfpppaa", sum := "70d8b734533d8222472a95f8aecaa5689b0f7ddbdddace48bbea17d93d5005b5", func := "quillet/quilletlaw17.DataKnown", spec := "dataKnown", unfollowed := true, recurses := true, apart := false, narrowed := true }
def DataKnownUptoSaid : Prop := dataKnownUptoRow.holds Try.pinned (OpenSpec.upto dataKnownSpec)

end Rows
end Go.Proofs.Ytceddijolfpppaa
