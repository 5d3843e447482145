/-
  CentralKnown: a part of its run, carried out by the kernel.
  No condition.
-/
import Derived.Test.YtjdbknnacaacaaaGreatCentralKnownS
namespace Go.Proofs.YtjdbknnacaacaaaGreat
open Go Go.RowKit
set_option linter.unusedSimpArgs false
set_option linter.unusedVariables false
theorem centralKnownQ1 : segB OK6 1000000 4 centralKnownP1 centralKnownS1 4 0 centralKnownS2 = true := by kernel_rfl
end Go.Proofs.YtjdbknnacaacaaaGreat
