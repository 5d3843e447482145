/-
  CentralKnown: a part of its run, carried out by the kernel.
  No condition.
-/
import Derived.Test.YtjdbknnacaacaaaGreatCentralKnownS
namespace Go.Proofs.YtjdbknnacaacaaaGreat
open Go Go.RowKit
set_option linter.unusedSimpArgs false
set_option linter.unusedVariables false
theorem centralKnownQ6 : endB OK6 1000000 4 centralKnownP6 centralKnownS6 = true := by kernel_rfl
end Go.Proofs.YtjdbknnacaacaaaGreat
