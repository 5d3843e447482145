/-
  CentralKnown: the walk, carried out by the kernel in parts.
  No condition.
-/
import Derived.Test.YtjdbknnacaacaaaGreatCentralKnownQ0
import Derived.Test.YtjdbknnacaacaaaGreatCentralKnownQ1
import Derived.Test.YtjdbknnacaacaaaGreatCentralKnownQ2
import Derived.Test.YtjdbknnacaacaaaGreatCentralKnownQ3
import Derived.Test.YtjdbknnacaacaaaGreatCentralKnownQ4
import Derived.Test.YtjdbknnacaacaaaGreatCentralKnownQ5
import Derived.Test.YtjdbknnacaacaaaGreatCentralKnownQ6
namespace Go.Proofs.YtjdbknnacaacaaaGreat
open Go Go.RowKit
set_option linter.unusedSimpArgs false
set_option linter.unusedVariables false
theorem centralKnown_from : FromHere OK6 4 centralKnownP0 centralKnownS0 :=
  segB_ok centralKnownQ0 (segB_ok centralKnownQ1 (segB_ok centralKnownQ2 (segB_ok centralKnownQ3 (segB_ok centralKnownQ4 (segB_ok centralKnownQ5 (endB_ok centralKnownQ6))))))
theorem centralKnown_walk (w : World) : Calls Tryz.prog 4 #[] w fun e w' => e = .returned (.bool true) ∧ Below w.heap.size w w' :=
  walk_of_law (closed7 (kn := knownK) (hkn := knownK_ok) (f := 4) (by kernel_rfl) centralKnown_from) w
end Go.Proofs.YtjdbknnacaacaaaGreat
