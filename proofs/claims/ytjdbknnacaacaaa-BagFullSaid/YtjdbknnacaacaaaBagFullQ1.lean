/-
  BagFull: a part of its run, carried out by the kernel.
  No condition.
-/
import Derived.Test.YtjdbknnacaacaaaBagFullS
namespace Go.Proofs.Ytjdbknnacaacaaa
open Go Go.RowKit
set_option linter.unusedSimpArgs false
set_option linter.unusedVariables false
theorem bagFullQ1 : segB OK6 1000000 3 bagFullP1 bagFullS1 140 140737488355327 bagFullS2 = true := by kernel_rfl
end Go.Proofs.Ytjdbknnacaacaaa
