/-
  BagFull: a part of its run, carried out by the kernel.
  No condition.
-/
import Derived.Test.YtjdbknnacaacaaaBagFullS
namespace Go.Proofs.Ytjdbknnacaacaaa
open Go Go.RowKit
set_option linter.unusedSimpArgs false
set_option linter.unusedVariables false
theorem bagFullQ4 : segB OK6 1000000 3 bagFullP4 bagFullS4 140 0 bagFullS5 = true := by kernel_rfl
end Go.Proofs.Ytjdbknnacaacaaa
