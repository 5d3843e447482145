/-
  BagFull: a part of its run, carried out by the kernel.
  No condition.
-/
import Derived.Test.YtjdbknnacaacaaaBagFullS
namespace Go.Proofs.Ytjdbknnacaacaaa
open Go Go.RowKit
set_option linter.unusedSimpArgs false
set_option linter.unusedVariables false
theorem bagFullQ5 : segB OK6 1000000 3 bagFullP5 bagFullS5 140 3 bagFullS6 = true := by kernel_rfl
end Go.Proofs.Ytjdbknnacaacaaa
