/-
  Rows of objects: what stands where.
  No condition.
-/
import Derived.Test.YtceddijolfpppaaLaw
import Derived.Test.YtceddijolfpppaaDoes
namespace Go.Proofs.Ytceddijolfpppaa
open Go Go.RowKit
set_option linter.unusedSimpArgs false
set_option linter.unusedVariables false

theorem two_m {S : St} {a b : Ob} : (S ++ [a, b])[S.length]? = some a := by simp
theorem two_p {S : St} {a b : Ob} : (S ++ [a, b])[S.length + 1]? = some b := by simp
theorem two_app {S : St} {a b : Ob} : (S ++ [a]) ++ [b] = S ++ [a, b] := by simp
theorem two_len {S : St} {a : Ob} : (S ++ [a]).length = S.length + 1 := by simp
theorem one_m {S : St} {a : Ob} : (S ++ [a])[S.length]? = some a := by simp
theorem three_len {S : St} {a b : Ob} : (S ++ [a, b]).length = S.length + 2 := by simp
theorem three_app {S : St} {a b c : Ob} : (S ++ [a, b]) ++ [c] = S ++ [a, b, c] := by simp
theorem three_m {S : St} {a b c : Ob} : (S ++ [a, b, c])[S.length]? = some a := by simp
theorem three_p {S : St} {a b c : Ob} : (S ++ [a, b, c])[S.length + 1]? = some b := by simp
theorem three_q {S : St} {a b c : Ob} : (S ++ [a, b, c])[S.length + 2]? = some c := by simp
theorem acc_app {S : St} {L : List Ob} {i : Nat} {me : Int} {s : Nat} {ws : List UInt64} {bs : List UInt8} : accS (S ++ L) (S.length + i) S.length me s ws bs = S ++ (L.set i (.port S.length me s)).set 0 (.mem ws bs) := by
  unfold accS
  rw [List.set_append_right _ _ (by omega), List.set_append_right _ _ (by omega), Nat.add_sub_cancel_left, Nat.sub_self]
theorem three_acc1 {S : St} {a b c : Ob} {me : Int} {s : Nat} {ws : List UInt64} {bs : List UInt8} : accS (S ++ [a, b, c]) (S.length + 1) S.length me s ws bs = S ++ [.mem ws bs, .port S.length me s, c] := acc_app
theorem three_acc2 {S : St} {a b c : Ob} {me : Int} {s : Nat} {ws : List UInt64} {bs : List UInt8} : accS (S ++ [a, b, c]) (S.length + 2) S.length me s ws bs = S ++ [.mem ws bs, b, .port S.length me s] := acc_app
end Go.Proofs.Ytceddijolfpppaa
