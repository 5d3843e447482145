/-
  SlabKnown: the walk, carried out by the kernel.
  No condition.
-/
import Derived.Test.YtjdbknnacaacaaaRun5
namespace Go.Proofs.Ytjdbknnacaacaaa
open Go Go.RowKit
set_option linter.unusedSimpArgs false
set_option linter.unusedVariables false

theorem slabKnown_true : trueB OK [] 10 1000000 = true := by kernel_rfl
theorem slabKnown_walk (w : World) : Calls Try.prog 10 #[] w fun e w' => e = .returned (.bool true) ∧ Below w.heap.size w w' :=
  closed_walk slabKnown_true w
end Go.Proofs.Ytjdbknnacaacaaa
