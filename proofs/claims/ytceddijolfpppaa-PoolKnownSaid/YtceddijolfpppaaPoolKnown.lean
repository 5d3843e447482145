/-
  PoolKnown: the walk, carried out by the kernel.
  No condition.
-/
import Derived.Test.YtceddijolfpppaaRun5
namespace Go.Proofs.Ytceddijolfpppaa
open Go Go.RowKit
set_option linter.unusedSimpArgs false
set_option linter.unusedVariables false

theorem poolKnown_true : trueB OK [] 8 1000000 = true := by kernel_rfl
theorem poolKnown_walk (w : World) : Calls Try.prog 8 #[] w fun e w' => e = .returned (.bool true) ∧ Below w.heap.size w w' :=
  closed_walk poolKnown_true w
end Go.Proofs.Ytceddijolfpppaa
