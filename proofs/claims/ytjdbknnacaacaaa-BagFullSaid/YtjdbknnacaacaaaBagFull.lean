/-
  BagFull: the walk, carried out by the kernel in parts.
  No condition.
-/
import Derived.Test.YtjdbknnacaacaaaBagFullQ0
import Derived.Test.YtjdbknnacaacaaaBagFullQ1
import Derived.Test.YtjdbknnacaacaaaBagFullQ2
import Derived.Test.YtjdbknnacaacaaaBagFullQ3
import Derived.Test.YtjdbknnacaacaaaBagFullQ4
import Derived.Test.YtjdbknnacaacaaaBagFullQ5
import Derived.Test.YtjdbknnacaacaaaBagFullQ6
import Derived.Test.YtjdbknnacaacaaaBagFullQ7
namespace Go.Proofs.Ytjdbknnacaacaaa
open Go Go.RowKit
set_option linter.unusedSimpArgs false
set_option linter.unusedVariables false
theorem bagFull_from : FromHere OK6 3 bagFullP0 bagFullS0 :=
  segB_ok bagFullQ0 (segB_ok bagFullQ1 (segB_ok bagFullQ2 (segB_ok bagFullQ3 (segB_ok bagFullQ4 (segB_ok bagFullQ5 (segB_ok bagFullQ6 (endB_ok bagFullQ7)))))))
theorem bagFull_walk (w : World) : Calls Try.prog 3 #[] w fun e w' => e = .returned (.bool true) ∧ Below w.heap.size w w' :=
  walk_of_law (closed7 (kn := knownK) (hkn := knownK_ok) (f := 3) (by kernel_rfl) bagFull_from) w
end Go.Proofs.Ytjdbknnacaacaaa
