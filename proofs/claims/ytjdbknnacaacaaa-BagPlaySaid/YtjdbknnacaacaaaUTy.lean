/-
  Facts on the types and functions of this program, as the abstract machine asks them.
  No condition: closed facts.
-/
import Derived.Test.YtjdbknnacaacaaaUPort
namespace Go.Proofs.Ytjdbknnacaacaaa
open Go Go.RowKit
set_option linter.unusedSimpArgs false
set_option linter.unusedVariables false
theorem Try.eql7 (y : Operand) (a0 b0 : Int) (a1 b1 : Int) (a2 b2 : Bool) (a3 b3 : Int) : binOpA Try.prog .eql 7 y (.agg #[.int .i64 a0, .int .i64 a1, .bool a2, .int .u8 a3]) (.agg #[.int .i64 b0, .int .i64 b1, .bool b2, .int .u8 b3]) = some (.bool (a0 == b0 && (a1 == b1 && (a2 == b2 && (a3 == b3 && true))))) := by kernel_rfl
theorem Try.neq7 (y : Operand) (a0 b0 : Int) (a1 b1 : Int) (a2 b2 : Bool) (a3 b3 : Int) : binOpA Try.prog .neq 7 y (.agg #[.int .i64 a0, .int .i64 a1, .bool a2, .int .u8 a3]) (.agg #[.int .i64 b0, .int .i64 b1, .bool b2, .int .u8 b3]) = some (.bool !(a0 == b0 && (a1 == b1 && (a2 == b2 && (a3 == b3 && true))))) := by kernel_rfl
theorem Try.eql8 (y : Operand) (a0 b0 : Int) (a1 b1 : Int) (a2 b2 : Bool) (a3 b3 : Int) : binOpA Try.prog .eql 8 y (.agg #[.int .i64 a0, .int .i64 a1, .bool a2, .int .u8 a3]) (.agg #[.int .i64 b0, .int .i64 b1, .bool b2, .int .u8 b3]) = some (.bool (a0 == b0 && (a1 == b1 && (a2 == b2 && (a3 == b3 && true))))) := by kernel_rfl
theorem Try.neq8 (y : Operand) (a0 b0 : Int) (a1 b1 : Int) (a2 b2 : Bool) (a3 b3 : Int) : binOpA Try.prog .neq 8 y (.agg #[.int .i64 a0, .int .i64 a1, .bool a2, .int .u8 a3]) (.agg #[.int .i64 b0, .int .i64 b1, .bool b2, .int .u8 b3]) = some (.bool !(a0 == b0 && (a1 == b1 && (a2 == b2 && (a3 == b3 && true))))) := by kernel_rfl
theorem Try.eql43 (y : Operand) (a0 b0 : Int) (a1 b1 : Int) (a2 b2 : Int) (a3 b3 : Int) : binOpA Try.prog .eql 43 y (.agg #[.int .u8 a0, .int .u8 a1, .int .i64 a2, .int .u64 a3]) (.agg #[.int .u8 b0, .int .u8 b1, .int .i64 b2, .int .u64 b3]) = some (.bool (a0 == b0 && (a1 == b1 && (a2 == b2 && (a3 == b3 && true))))) := by kernel_rfl
theorem Try.neq43 (y : Operand) (a0 b0 : Int) (a1 b1 : Int) (a2 b2 : Int) (a3 b3 : Int) : binOpA Try.prog .neq 43 y (.agg #[.int .u8 a0, .int .u8 a1, .int .i64 a2, .int .u64 a3]) (.agg #[.int .u8 b0, .int .u8 b1, .int .i64 b2, .int .u64 b3]) = some (.bool !(a0 == b0 && (a1 == b1 && (a2 == b2 && (a3 == b3 && true))))) := by kernel_rfl
theorem Try.eql44 (y : Operand) (a0 b0 : Int) (a1 b1 : Int) (a2 b2 : Int) (a3 b3 : Int) : binOpA Try.prog .eql 44 y (.agg #[.int .u8 a0, .int .u8 a1, .int .i64 a2, .int .u64 a3]) (.agg #[.int .u8 b0, .int .u8 b1, .int .i64 b2, .int .u64 b3]) = some (.bool (a0 == b0 && (a1 == b1 && (a2 == b2 && (a3 == b3 && true))))) := by kernel_rfl
theorem Try.neq44 (y : Operand) (a0 b0 : Int) (a1 b1 : Int) (a2 b2 : Int) (a3 b3 : Int) : binOpA Try.prog .neq 44 y (.agg #[.int .u8 a0, .int .u8 a1, .int .i64 a2, .int .u64 a3]) (.agg #[.int .u8 b0, .int .u8 b1, .int .i64 b2, .int .u64 b3]) = some (.bool !(a0 == b0 && (a1 == b1 && (a2 == b2 && (a3 == b3 && true))))) := by kernel_rfl
theorem Try.eql66 (y : Operand) (a0 b0 : Int) (a1 b1 : Bool) (a2 b2 : Int) (a3 b3 : Int) : binOpA Try.prog .eql 66 y (.agg #[.int .u8 a0, .bool a1, .int .i64 a2, .int .u32 a3]) (.agg #[.int .u8 b0, .bool b1, .int .i64 b2, .int .u32 b3]) = some (.bool (a0 == b0 && (a1 == b1 && (a2 == b2 && (a3 == b3 && true))))) := by kernel_rfl
theorem Try.neq66 (y : Operand) (a0 b0 : Int) (a1 b1 : Bool) (a2 b2 : Int) (a3 b3 : Int) : binOpA Try.prog .neq 66 y (.agg #[.int .u8 a0, .bool a1, .int .i64 a2, .int .u32 a3]) (.agg #[.int .u8 b0, .bool b1, .int .i64 b2, .int .u32 b3]) = some (.bool !(a0 == b0 && (a1 == b1 && (a2 == b2 && (a3 == b3 && true))))) := by kernel_rfl
theorem Try.eql67 (y : Operand) (a0 b0 : Int) (a1 b1 : Bool) (a2 b2 : Int) (a3 b3 : Int) : binOpA Try.prog .eql 67 y (.agg #[.int .u8 a0, .bool a1, .int .i64 a2, .int .u32 a3]) (.agg #[.int .u8 b0, .bool b1, .int .i64 b2, .int .u32 b3]) = some (.bool (a0 == b0 && (a1 == b1 && (a2 == b2 && (a3 == b3 && true))))) := by kernel_rfl
theorem Try.neq67 (y : Operand) (a0 b0 : Int) (a1 b1 : Bool) (a2 b2 : Int) (a3 b3 : Int) : binOpA Try.prog .neq 67 y (.agg #[.int .u8 a0, .bool a1, .int .i64 a2, .int .u32 a3]) (.agg #[.int .u8 b0, .bool b1, .int .i64 b2, .int .u32 b3]) = some (.bool !(a0 == b0 && (a1 == b1 && (a2 == b2 && (a3 == b3 && true))))) := by kernel_rfl
theorem Try.eql76 (y : Operand) (a0 b0 : Int) (a1 b1 : Int) : binOpA Try.prog .eql 76 y (.agg #[.int .u8 a0, .int .u8 a1]) (.agg #[.int .u8 b0, .int .u8 b1]) = some (.bool (a0 == b0 && (a1 == b1 && true))) := by kernel_rfl
theorem Try.neq76 (y : Operand) (a0 b0 : Int) (a1 b1 : Int) : binOpA Try.prog .neq 76 y (.agg #[.int .u8 a0, .int .u8 a1]) (.agg #[.int .u8 b0, .int .u8 b1]) = some (.bool !(a0 == b0 && (a1 == b1 && true))) := by kernel_rfl
theorem Try.eql77 (y : Operand) (a0 b0 : Int) (a1 b1 : Int) : binOpA Try.prog .eql 77 y (.agg #[.int .u8 a0, .int .u8 a1]) (.agg #[.int .u8 b0, .int .u8 b1]) = some (.bool (a0 == b0 && (a1 == b1 && true))) := by kernel_rfl
theorem Try.neq77 (y : Operand) (a0 b0 : Int) (a1 b1 : Int) : binOpA Try.prog .neq 77 y (.agg #[.int .u8 a0, .int .u8 a1]) (.agg #[.int .u8 b0, .int .u8 b1]) = some (.bool !(a0 == b0 && (a1 == b1 && true))) := by kernel_rfl
theorem Try.eql89 (y : Operand) (a0 b0 : Int) (a1 b1 : Int) (a2 b2 : Int) (a3 b3 : Int) : binOpA Try.prog .eql 89 y (.agg #[.int .i64 a0, .int .i64 a1, .int .i64 a2, .int .i64 a3]) (.agg #[.int .i64 b0, .int .i64 b1, .int .i64 b2, .int .i64 b3]) = some (.bool (a0 == b0 && (a1 == b1 && (a2 == b2 && (a3 == b3 && true))))) := by kernel_rfl
theorem Try.neq89 (y : Operand) (a0 b0 : Int) (a1 b1 : Int) (a2 b2 : Int) (a3 b3 : Int) : binOpA Try.prog .neq 89 y (.agg #[.int .i64 a0, .int .i64 a1, .int .i64 a2, .int .i64 a3]) (.agg #[.int .i64 b0, .int .i64 b1, .int .i64 b2, .int .i64 b3]) = some (.bool !(a0 == b0 && (a1 == b1 && (a2 == b2 && (a3 == b3 && true))))) := by kernel_rfl
theorem Try.eql90 (y : Operand) (a0 b0 : Int) (a1 b1 : Int) (a2 b2 : Int) (a3 b3 : Int) : binOpA Try.prog .eql 90 y (.agg #[.int .i64 a0, .int .i64 a1, .int .i64 a2, .int .i64 a3]) (.agg #[.int .i64 b0, .int .i64 b1, .int .i64 b2, .int .i64 b3]) = some (.bool (a0 == b0 && (a1 == b1 && (a2 == b2 && (a3 == b3 && true))))) := by kernel_rfl
theorem Try.neq90 (y : Operand) (a0 b0 : Int) (a1 b1 : Int) (a2 b2 : Int) (a3 b3 : Int) : binOpA Try.prog .neq 90 y (.agg #[.int .i64 a0, .int .i64 a1, .int .i64 a2, .int .i64 a3]) (.agg #[.int .i64 b0, .int .i64 b1, .int .i64 b2, .int .i64 b3]) = some (.bool !(a0 == b0 && (a1 == b1 && (a2 == b2 && (a3 == b3 && true))))) := by kernel_rfl
theorem Try.eql112 (y : Operand) (a0 b0 : Int) (a1 b1 : Bool) (a2 b2 : Int) : binOpA Try.prog .eql 112 y (.agg #[.int .i64 a0, .bool a1, .int .u32 a2]) (.agg #[.int .i64 b0, .bool b1, .int .u32 b2]) = some (.bool (a0 == b0 && (a1 == b1 && (a2 == b2 && true)))) := by kernel_rfl
theorem Try.neq112 (y : Operand) (a0 b0 : Int) (a1 b1 : Bool) (a2 b2 : Int) : binOpA Try.prog .neq 112 y (.agg #[.int .i64 a0, .bool a1, .int .u32 a2]) (.agg #[.int .i64 b0, .bool b1, .int .u32 b2]) = some (.bool !(a0 == b0 && (a1 == b1 && (a2 == b2 && true)))) := by kernel_rfl
theorem Try.eql113 (y : Operand) (a0 b0 : Int) (a1 b1 : Bool) (a2 b2 : Int) : binOpA Try.prog .eql 113 y (.agg #[.int .i64 a0, .bool a1, .int .u32 a2]) (.agg #[.int .i64 b0, .bool b1, .int .u32 b2]) = some (.bool (a0 == b0 && (a1 == b1 && (a2 == b2 && true)))) := by kernel_rfl
theorem Try.neq113 (y : Operand) (a0 b0 : Int) (a1 b1 : Bool) (a2 b2 : Int) : binOpA Try.prog .neq 113 y (.agg #[.int .i64 a0, .bool a1, .int .u32 a2]) (.agg #[.int .i64 b0, .bool b1, .int .u32 b2]) = some (.bool !(a0 == b0 && (a1 == b1 && (a2 == b2 && true)))) := by kernel_rfl
theorem Try.eql119 (y : Operand) (a0 b0 : Int) (a1 b1 : Int) (a2 b2 : Int) (a3 b3 : Int) : binOpA Try.prog .eql 119 y (.agg #[.int .u8 a0, .int .i64 a1, .int .u64 a2, .int .u64 a3]) (.agg #[.int .u8 b0, .int .i64 b1, .int .u64 b2, .int .u64 b3]) = some (.bool (a0 == b0 && (a1 == b1 && (a2 == b2 && (a3 == b3 && true))))) := by kernel_rfl
theorem Try.neq119 (y : Operand) (a0 b0 : Int) (a1 b1 : Int) (a2 b2 : Int) (a3 b3 : Int) : binOpA Try.prog .neq 119 y (.agg #[.int .u8 a0, .int .i64 a1, .int .u64 a2, .int .u64 a3]) (.agg #[.int .u8 b0, .int .i64 b1, .int .u64 b2, .int .u64 b3]) = some (.bool !(a0 == b0 && (a1 == b1 && (a2 == b2 && (a3 == b3 && true))))) := by kernel_rfl
theorem Try.eql120 (y : Operand) (a0 b0 : Int) (a1 b1 : Int) (a2 b2 : Int) (a3 b3 : Int) : binOpA Try.prog .eql 120 y (.agg #[.int .u8 a0, .int .i64 a1, .int .u64 a2, .int .u64 a3]) (.agg #[.int .u8 b0, .int .i64 b1, .int .u64 b2, .int .u64 b3]) = some (.bool (a0 == b0 && (a1 == b1 && (a2 == b2 && (a3 == b3 && true))))) := by kernel_rfl
theorem Try.neq120 (y : Operand) (a0 b0 : Int) (a1 b1 : Int) (a2 b2 : Int) (a3 b3 : Int) : binOpA Try.prog .neq 120 y (.agg #[.int .u8 a0, .int .i64 a1, .int .u64 a2, .int .u64 a3]) (.agg #[.int .u8 b0, .int .i64 b1, .int .u64 b2, .int .u64 b3]) = some (.bool !(a0 == b0 && (a1 == b1 && (a2 == b2 && (a3 == b3 && true))))) := by kernel_rfl
theorem Try.eql133 (y : Operand) (a0 b0 : Int) (a1 b1 : Int) (a2 b2 : Int) : binOpA Try.prog .eql 133 y (.agg #[.int .i64 a0, .int .i64 a1, .int .i64 a2]) (.agg #[.int .i64 b0, .int .i64 b1, .int .i64 b2]) = some (.bool (a0 == b0 && (a1 == b1 && (a2 == b2 && true)))) := by kernel_rfl
theorem Try.neq133 (y : Operand) (a0 b0 : Int) (a1 b1 : Int) (a2 b2 : Int) : binOpA Try.prog .neq 133 y (.agg #[.int .i64 a0, .int .i64 a1, .int .i64 a2]) (.agg #[.int .i64 b0, .int .i64 b1, .int .i64 b2]) = some (.bool !(a0 == b0 && (a1 == b1 && (a2 == b2 && true)))) := by kernel_rfl
theorem Try.eql134 (y : Operand) (a0 b0 : Int) (a1 b1 : Int) (a2 b2 : Int) : binOpA Try.prog .eql 134 y (.agg #[.int .i64 a0, .int .i64 a1, .int .i64 a2]) (.agg #[.int .i64 b0, .int .i64 b1, .int .i64 b2]) = some (.bool (a0 == b0 && (a1 == b1 && (a2 == b2 && true)))) := by kernel_rfl
theorem Try.neq134 (y : Operand) (a0 b0 : Int) (a1 b1 : Int) (a2 b2 : Int) : binOpA Try.prog .neq 134 y (.agg #[.int .i64 a0, .int .i64 a1, .int .i64 a2]) (.agg #[.int .i64 b0, .int .i64 b1, .int .i64 b2]) = some (.bool !(a0 == b0 && (a1 == b1 && (a2 == b2 && true)))) := by kernel_rfl
theorem Try.eql173 (y : Operand) (a0 b0 : Int) (a1 b1 : Int) (a2 b2 : Int) : binOpA Try.prog .eql 173 y (.agg #[.int .i64 a0, .int .i64 a1, .int .i64 a2]) (.agg #[.int .i64 b0, .int .i64 b1, .int .i64 b2]) = some (.bool (a0 == b0 && (a1 == b1 && (a2 == b2 && true)))) := by kernel_rfl
theorem Try.neq173 (y : Operand) (a0 b0 : Int) (a1 b1 : Int) (a2 b2 : Int) : binOpA Try.prog .neq 173 y (.agg #[.int .i64 a0, .int .i64 a1, .int .i64 a2]) (.agg #[.int .i64 b0, .int .i64 b1, .int .i64 b2]) = some (.bool !(a0 == b0 && (a1 == b1 && (a2 == b2 && true)))) := by kernel_rfl
theorem Try.eql174 (y : Operand) (a0 b0 : Int) (a1 b1 : Int) (a2 b2 : Int) : binOpA Try.prog .eql 174 y (.agg #[.int .i64 a0, .int .i64 a1, .int .i64 a2]) (.agg #[.int .i64 b0, .int .i64 b1, .int .i64 b2]) = some (.bool (a0 == b0 && (a1 == b1 && (a2 == b2 && true)))) := by kernel_rfl
theorem Try.neq174 (y : Operand) (a0 b0 : Int) (a1 b1 : Int) (a2 b2 : Int) : binOpA Try.prog .neq 174 y (.agg #[.int .i64 a0, .int .i64 a1, .int .i64 a2]) (.agg #[.int .i64 b0, .int .i64 b1, .int .i64 b2]) = some (.bool !(a0 == b0 && (a1 == b1 && (a2 == b2 && true)))) := by kernel_rfl
theorem Try.eql203 (y : Operand) (a0 b0 : Int) (a1 b1 : Int) (a2 b2 : Int) (a3 b3 : Int) (a4 b4 : Int) : binOpA Try.prog .eql 203 y (.agg #[.int .u64 a0, .int .u64 a1, .int .u64 a2, .int .u64 a3, .int .u64 a4]) (.agg #[.int .u64 b0, .int .u64 b1, .int .u64 b2, .int .u64 b3, .int .u64 b4]) = some (.bool (a0 == b0 && (a1 == b1 && (a2 == b2 && (a3 == b3 && (a4 == b4 && true)))))) := by kernel_rfl
theorem Try.neq203 (y : Operand) (a0 b0 : Int) (a1 b1 : Int) (a2 b2 : Int) (a3 b3 : Int) (a4 b4 : Int) : binOpA Try.prog .neq 203 y (.agg #[.int .u64 a0, .int .u64 a1, .int .u64 a2, .int .u64 a3, .int .u64 a4]) (.agg #[.int .u64 b0, .int .u64 b1, .int .u64 b2, .int .u64 b3, .int .u64 b4]) = some (.bool !(a0 == b0 && (a1 == b1 && (a2 == b2 && (a3 == b3 && (a4 == b4 && true)))))) := by kernel_rfl
theorem Try.eql204 (y : Operand) (a0 b0 : Int) (a1 b1 : Int) (a2 b2 : Int) (a3 b3 : Int) (a4 b4 : Int) : binOpA Try.prog .eql 204 y (.agg #[.int .u64 a0, .int .u64 a1, .int .u64 a2, .int .u64 a3, .int .u64 a4]) (.agg #[.int .u64 b0, .int .u64 b1, .int .u64 b2, .int .u64 b3, .int .u64 b4]) = some (.bool (a0 == b0 && (a1 == b1 && (a2 == b2 && (a3 == b3 && (a4 == b4 && true)))))) := by kernel_rfl
theorem Try.neq204 (y : Operand) (a0 b0 : Int) (a1 b1 : Int) (a2 b2 : Int) (a3 b3 : Int) (a4 b4 : Int) : binOpA Try.prog .neq 204 y (.agg #[.int .u64 a0, .int .u64 a1, .int .u64 a2, .int .u64 a3, .int .u64 a4]) (.agg #[.int .u64 b0, .int .u64 b1, .int .u64 b2, .int .u64 b3, .int .u64 b4]) = some (.bool !(a0 == b0 && (a1 == b1 && (a2 == b2 && (a3 == b3 && (a4 == b4 && true)))))) := by kernel_rfl
theorem Try.ty0 :
  tyAgg Try.prog 2 = some false ∧
  tySize Try.prog 2 = some 1 ∧
  tyMk Try.prog 2 = true ∧
  tyBytes Try.prog 2 = some 8 ∧
  tyZero Try.prog 2 = some (.int .i64 0) ∧
  plainB (.int .i64 0) = true ∧
  tyAgg Try.prog 3 = some false ∧
  tySize Try.prog 3 = some 1 ∧
  tyMk Try.prog 3 = true ∧
  tyBytes Try.prog 3 = some 8 ∧
  tyZero Try.prog 3 = some (.int .i64 0) ∧
  tyAgg Try.prog 4 = some false ∧
  tySize Try.prog 4 = some 1 ∧
  tyMk Try.prog 4 = true ∧
  tyBool Try.prog 4 = true ∧
  tyBytes Try.prog 4 = some 1 ∧
  tyZero Try.prog 4 = some (.bool false) ∧
  plainB (.bool false) = true ∧
  tyAgg Try.prog 5 = some false ∧
  tySize Try.prog 5 = some 1 ∧
  tyMk Try.prog 5 = true ∧
  tyBytes Try.prog 5 = some 1 ∧
  tyZero Try.prog 5 = some (.int .u8 0) ∧
  plainB (.int .u8 0) = true := by (repeat' apply And.intro) <;> kernel_rfl
theorem Try.ty2 :
  tyBytes Try.prog 8 = some 24 ∧
  tyZero Try.prog 8 = some (.agg #[.int .i64 0, .int .i64 0, .bool false, .int .u8 0]) ∧
  tyAgg Try.prog 9 = some false ∧
  tySize Try.prog 9 = some 1 ∧
  tyMk Try.prog 9 = true ∧
  tyBytes Try.prog 9 = some 16 ∧
  tyZero Try.prog 9 = some (.string ⟨#[]⟩) ∧
  plainB (.string ⟨#[]⟩) = true ∧
  tyAgg Try.prog 10 = some false ∧
  tySize Try.prog 10 = some 1 ∧
  tyBytes Try.prog 10 = some 16 ∧
  tyZero Try.prog 10 = some (.string ⟨#[]⟩) ∧
  tyAgg Try.prog 11 = some false ∧
  tySize Try.prog 11 = some 1 ∧
  tyBytes Try.prog 11 = some 16 ∧
  tyZero Try.prog 11 = some (.string ⟨#[]⟩) ∧
  tyAgg Try.prog 12 = some false ∧
  tySize Try.prog 12 = some 1 ∧
  tyMk Try.prog 12 = true ∧
  tyBytes Try.prog 12 = some 8 ∧
  tyZero Try.prog 12 = some (.int .u64 0) ∧
  plainB (.int .u64 0) = true ∧
  tyAgg Try.prog 13 = some true ∧
  tySize Try.prog 13 = some 2 := by (repeat' apply And.intro) <;> kernel_rfl
theorem Try.ty6 :
  plainB (.agg #[.int .i64 0, .int .i64 0, .int .i64 0, .int .i64 0, .int .i64 0, .int .i64 0, .int .i64 0, .int .i64 0, .int .i64 0, .int .i64 0, .int .i64 0, .int .i64 0, .int .i64 0, .int .i64 0, .int .i64 0, .int .i64 0, .int .i64 0, .int .i64 0, .int .i64 0, .int .i64 0]) = true ∧
  tyAgg Try.prog 23 = some true ∧
  tySize Try.prog 23 = some 22 ∧
  tyField Try.prog 23 0 = some (0, 3) ∧
  tyField Try.prog 23 1 = some (1, 3) ∧
  tyField Try.prog 23 2 = some (2, 22) ∧
  (tyPlace Try.prog 23 = some fun i => ([(0, 1), (1, 1), (2, 20)] : List (Nat × Nat))[i]?) ∧
  tyMk Try.prog 23 = true ∧
  tyBytes Try.prog 23 = some 176 ∧
  tyZero Try.prog 23 = some (.agg #[.int .i64 0, .int .i64 0, .int .i64 0, .int .i64 0, .int .i64 0, .int .i64 0, .int .i64 0, .int .i64 0, .int .i64 0, .int .i64 0, .int .i64 0, .int .i64 0, .int .i64 0, .int .i64 0, .int .i64 0, .int .i64 0, .int .i64 0, .int .i64 0, .int .i64 0, .int .i64 0, .int .i64 0, .int .i64 0]) ∧
  plainB (.agg #[.int .i64 0, .int .i64 0, .int .i64 0, .int .i64 0, .int .i64 0, .int .i64 0, .int .i64 0, .int .i64 0, .int .i64 0, .int .i64 0, .int .i64 0, .int .i64 0, .int .i64 0, .int .i64 0, .int .i64 0, .int .i64 0, .int .i64 0, .int .i64 0, .int .i64 0, .int .i64 0, .int .i64 0, .int .i64 0]) = true ∧
  tyAgg Try.prog 24 = some true ∧
  tySize Try.prog 24 = some 22 ∧
  tyField Try.prog 24 0 = some (0, 3) ∧
  tyField Try.prog 24 1 = some (1, 3) ∧
  tyField Try.prog 24 2 = some (2, 22) ∧
  (tyPlace Try.prog 24 = some fun i => ([(0, 1), (1, 1), (2, 20)] : List (Nat × Nat))[i]?) ∧
  tyMk Try.prog 24 = true ∧
  tyBytes Try.prog 24 = some 176 ∧
  tyZero Try.prog 24 = some (.agg #[.int .i64 0, .int .i64 0, .int .i64 0, .int .i64 0, .int .i64 0, .int .i64 0, .int .i64 0, .int .i64 0, .int .i64 0, .int .i64 0, .int .i64 0, .int .i64 0, .int .i64 0, .int .i64 0, .int .i64 0, .int .i64 0, .int .i64 0, .int .i64 0, .int .i64 0, .int .i64 0, .int .i64 0, .int .i64 0]) ∧
  tyAgg Try.prog 26 = some false ∧
  tySize Try.prog 26 = some 1 ∧
  tyMk Try.prog 26 = true ∧
  tyPtr Try.prog 26 = true := by (repeat' apply And.intro) <;> kernel_rfl
theorem Try.ty7 :
  tyBytes Try.prog 26 = some 8 ∧
  tyZero Try.prog 26 = some (.pointer none) ∧
  methA Try.prog 26 "Add" = some 165 ∧
  methA Try.prog 26 "CAS" = some 166 ∧
  methA Try.prog 26 "Fresh" = some 167 ∧
  methA Try.prog 26 "Get" = some 173 ∧
  methA Try.prog 26 "Load" = some 168 ∧
  methA Try.prog 26 "Put" = some 174 ∧
  methA Try.prog 26 "Self" = some 169 ∧
  methA Try.prog 26 "Steps" = some 29 ∧
  methA Try.prog 26 "Store" = some 170 ∧
  methA Try.prog 26 "Tell" = some 175 ∧
  tyAgg Try.prog 28 = some false ∧
  tySize Try.prog 28 = some 1 ∧
  tyMk Try.prog 28 = true ∧
  tyPtr Try.prog 28 = true ∧
  tyBytes Try.prog 28 = some 8 ∧
  tyZero Try.prog 28 = some (.pointer none) ∧
  methA Try.prog 28 "Bytes" = some 110 ∧
  methA Try.prog 28 "Copy" = some 57 ∧
  methA Try.prog 28 "Do" = some 79 ∧
  methA Try.prog 28 "Word" = some 25 ∧
  methA Try.prog 28 "Words" = some 109 ∧
  tyAgg Try.prog 30 = some false := by (repeat' apply And.intro) <;> kernel_rfl
theorem Try.ty8 :
  tySize Try.prog 30 = some 1 ∧
  tyMk Try.prog 30 = true ∧
  tyBytes Try.prog 30 = some 8 ∧
  tyZero Try.prog 30 = some (.int .u64 0) ∧
  tyAgg Try.prog 36 = some false ∧
  tySize Try.prog 36 = some 1 ∧
  tySli Try.prog 36 = true ∧
  tyBytes Try.prog 36 = some 24 ∧
  tySlice Try.prog 36 = some 44 ∧
  tyZero Try.prog 36 = some (.slice none 0 0) ∧
  plainB (.slice none 0 0) = true ∧
  tyAgg Try.prog 38 = some false ∧
  tySize Try.prog 38 = some 1 ∧
  tySli Try.prog 38 = true ∧
  tyBytes Try.prog 38 = some 24 ∧
  tySlice Try.prog 38 = some 50 ∧
  tyZero Try.prog 38 = some (.slice none 0 0) ∧
  tyAgg Try.prog 39 = some true ∧
  tySize Try.prog 39 = some 2 ∧
  tyField Try.prog 39 0 = some (0, 38) ∧
  tyField Try.prog 39 1 = some (1, 3) ∧
  (tyPlace Try.prog 39 = some fun i => ([(0, 1), (1, 1)] : List (Nat × Nat))[i]?) ∧
  tyMk Try.prog 39 = true ∧
  tyBytes Try.prog 39 = some 32 := by (repeat' apply And.intro) <;> kernel_rfl
theorem Try.ty9 :
  tyZero Try.prog 39 = some (.agg #[.slice none 0 0, .int .i64 0]) ∧
  plainB (.agg #[.slice none 0 0, .int .i64 0]) = true ∧
  tyAgg Try.prog 40 = some true ∧
  tySize Try.prog 40 = some 2 ∧
  tyField Try.prog 40 0 = some (0, 38) ∧
  tyField Try.prog 40 1 = some (1, 3) ∧
  (tyPlace Try.prog 40 = some fun i => ([(0, 1), (1, 1)] : List (Nat × Nat))[i]?) ∧
  tyMk Try.prog 40 = true ∧
  tyBytes Try.prog 40 = some 32 ∧
  tyZero Try.prog 40 = some (.agg #[.slice none 0 0, .int .i64 0]) ∧
  tyAgg Try.prog 42 = some false ∧
  tySize Try.prog 42 = some 1 ∧
  tySli Try.prog 42 = true ∧
  tyBytes Try.prog 42 = some 24 ∧
  tySlice Try.prog 42 = some 40 ∧
  tyZero Try.prog 42 = some (.slice none 0 0) ∧
  tyAgg Try.prog 43 = some true ∧
  tySize Try.prog 43 = some 4 ∧
  tyField Try.prog 43 0 = some (0, 5) ∧
  tyField Try.prog 43 1 = some (1, 5) ∧
  tyField Try.prog 43 2 = some (2, 3) ∧
  tyField Try.prog 43 3 = some (3, 30) ∧
  (tyPlace Try.prog 43 = some fun i => ([(0, 1), (1, 1), (2, 1), (3, 1)] : List (Nat × Nat))[i]?) ∧
  tyMk Try.prog 43 = true := by (repeat' apply And.intro) <;> kernel_rfl
theorem Try.ty10 :
  tyBytes Try.prog 43 = some 24 ∧
  tyZero Try.prog 43 = some (.agg #[.int .u8 0, .int .u8 0, .int .i64 0, .int .u64 0]) ∧
  plainB (.agg #[.int .u8 0, .int .u8 0, .int .i64 0, .int .u64 0]) = true ∧
  tyAgg Try.prog 44 = some true ∧
  tySize Try.prog 44 = some 4 ∧
  tyField Try.prog 44 0 = some (0, 5) ∧
  tyField Try.prog 44 1 = some (1, 5) ∧
  tyField Try.prog 44 2 = some (2, 3) ∧
  tyField Try.prog 44 3 = some (3, 30) ∧
  (tyPlace Try.prog 44 = some fun i => ([(0, 1), (1, 1), (2, 1), (3, 1)] : List (Nat × Nat))[i]?) ∧
  tyMk Try.prog 44 = true ∧
  tyBytes Try.prog 44 = some 24 ∧
  tyZero Try.prog 44 = some (.agg #[.int .u8 0, .int .u8 0, .int .i64 0, .int .u64 0]) ∧
  tyAgg Try.prog 50 = some false ∧
  tySize Try.prog 50 = some 1 ∧
  tySli Try.prog 50 = true ∧
  tyBytes Try.prog 50 = some 24 ∧
  tySlice Try.prog 50 = some 116 ∧
  tyZero Try.prog 50 = some (.slice none 0 0) ∧
  tyAgg Try.prog 62 = some false ∧
  tySize Try.prog 62 = some 1 ∧
  tySli Try.prog 62 = true ∧
  tyBytes Try.prog 62 = some 24 ∧
  tySlice Try.prog 62 = some 3 := by (repeat' apply And.intro) <;> kernel_rfl
theorem Try.ty11 :
  tyZero Try.prog 62 = some (.slice none 0 0) ∧
  tyAgg Try.prog 65 = some false ∧
  tySize Try.prog 65 = some 1 ∧
  tyMk Try.prog 65 = true ∧
  tyBytes Try.prog 65 = some 4 ∧
  tyZero Try.prog 65 = some (.int .u32 0) ∧
  plainB (.int .u32 0) = true ∧
  tyAgg Try.prog 66 = some true ∧
  tySize Try.prog 66 = some 4 ∧
  tyField Try.prog 66 0 = some (0, 5) ∧
  tyField Try.prog 66 1 = some (1, 4) ∧
  tyField Try.prog 66 2 = some (2, 3) ∧
  tyField Try.prog 66 3 = some (3, 65) ∧
  (tyPlace Try.prog 66 = some fun i => ([(0, 1), (1, 1), (2, 1), (3, 1)] : List (Nat × Nat))[i]?) ∧
  tyMk Try.prog 66 = true ∧
  tyBytes Try.prog 66 = some 24 ∧
  tyZero Try.prog 66 = some (.agg #[.int .u8 0, .bool false, .int .i64 0, .int .u32 0]) ∧
  plainB (.agg #[.int .u8 0, .bool false, .int .i64 0, .int .u32 0]) = true ∧
  tyAgg Try.prog 67 = some true ∧
  tySize Try.prog 67 = some 4 ∧
  tyField Try.prog 67 0 = some (0, 5) ∧
  tyField Try.prog 67 1 = some (1, 4) ∧
  tyField Try.prog 67 2 = some (2, 3) ∧
  tyField Try.prog 67 3 = some (3, 65) := by (repeat' apply And.intro) <;> kernel_rfl
theorem Try.ty14 :
  tyField Try.prog 77 0 = some (0, 5) ∧
  tyField Try.prog 77 1 = some (1, 5) ∧
  (tyPlace Try.prog 77 = some fun i => ([(0, 1), (1, 1)] : List (Nat × Nat))[i]?) ∧
  tyMk Try.prog 77 = true ∧
  tyBytes Try.prog 77 = some 2 ∧
  tyZero Try.prog 77 = some (.agg #[.int .u8 0, .int .u8 0]) ∧
  tyAgg Try.prog 89 = some true ∧
  tySize Try.prog 89 = some 4 ∧
  tyField Try.prog 89 0 = some (0, 3) ∧
  tyField Try.prog 89 1 = some (1, 3) ∧
  tyField Try.prog 89 2 = some (2, 3) ∧
  tyField Try.prog 89 3 = some (3, 3) ∧
  (tyPlace Try.prog 89 = some fun i => ([(0, 1), (1, 1), (2, 1), (3, 1)] : List (Nat × Nat))[i]?) ∧
  tyMk Try.prog 89 = true ∧
  tyBytes Try.prog 89 = some 32 ∧
  tyZero Try.prog 89 = some (.agg #[.int .i64 0, .int .i64 0, .int .i64 0, .int .i64 0]) ∧
  plainB (.agg #[.int .i64 0, .int .i64 0, .int .i64 0, .int .i64 0]) = true ∧
  tyAgg Try.prog 90 = some true ∧
  tySize Try.prog 90 = some 4 ∧
  tyField Try.prog 90 0 = some (0, 3) ∧
  tyField Try.prog 90 1 = some (1, 3) ∧
  tyField Try.prog 90 2 = some (2, 3) ∧
  tyField Try.prog 90 3 = some (3, 3) ∧
  (tyPlace Try.prog 90 = some fun i => ([(0, 1), (1, 1), (2, 1), (3, 1)] : List (Nat × Nat))[i]?) := by (repeat' apply And.intro) <;> kernel_rfl
theorem Try.ty15 :
  tyMk Try.prog 90 = true ∧
  tyBytes Try.prog 90 = some 32 ∧
  tyZero Try.prog 90 = some (.agg #[.int .i64 0, .int .i64 0, .int .i64 0, .int .i64 0]) ∧
  tyAgg Try.prog 100 = some false ∧
  tySize Try.prog 100 = some 1 ∧
  tyMk Try.prog 100 = true ∧
  tyPtr Try.prog 100 = true ∧
  tyBytes Try.prog 100 = some 8 ∧
  tyZero Try.prog 100 = some (.pointer none) ∧
  tyAgg Try.prog 101 = some true ∧
  tySize Try.prog 101 = some 2 ∧
  tyField Try.prog 101 0 = some (0, 28) ∧
  tyField Try.prog 101 1 = some (1, 3) ∧
  (tyPlace Try.prog 101 = some fun i => ([(0, 1), (1, 1)] : List (Nat × Nat))[i]?) ∧
  tyMk Try.prog 101 = true ∧
  tyBytes Try.prog 101 = some 16 ∧
  tyZero Try.prog 101 = some (.agg #[.pointer none, .int .i64 0]) ∧
  plainB (.agg #[.pointer none, .int .i64 0]) = true ∧
  tyAgg Try.prog 102 = some true ∧
  tySize Try.prog 102 = some 2 ∧
  tyField Try.prog 102 0 = some (0, 28) ∧
  tyField Try.prog 102 1 = some (1, 3) ∧
  (tyPlace Try.prog 102 = some fun i => ([(0, 1), (1, 1)] : List (Nat × Nat))[i]?) ∧
  tyMk Try.prog 102 = true := by (repeat' apply And.intro) <;> kernel_rfl
theorem Try.ty17 :
  tyMk Try.prog 105 = true ∧
  tyBytes Try.prog 105 = some 24 ∧
  tyZero Try.prog 105 = some (.agg #[.pointer none, .int .i64 0, .pointer none]) ∧
  tyAgg Try.prog 108 = some false ∧
  tySize Try.prog 108 = some 1 ∧
  tyIfc Try.prog 108 = true ∧
  tyBytes Try.prog 108 = some 16 ∧
  tyZero Try.prog 108 = some (.nilIface) ∧
  tyAgg Try.prog 109 = some false ∧
  tySize Try.prog 109 = some 1 ∧
  tyIfc Try.prog 109 = true ∧
  tyBytes Try.prog 109 = some 16 ∧
  tyZero Try.prog 109 = some (.nilIface) ∧
  tyAgg Try.prog 112 = some true ∧
  tySize Try.prog 112 = some 3 ∧
  tyField Try.prog 112 0 = some (0, 3) ∧
  tyField Try.prog 112 1 = some (1, 4) ∧
  tyField Try.prog 112 2 = some (2, 65) ∧
  (tyPlace Try.prog 112 = some fun i => ([(0, 1), (1, 1), (2, 1)] : List (Nat × Nat))[i]?) ∧
  tyMk Try.prog 112 = true ∧
  tyBytes Try.prog 112 = some 16 ∧
  tyZero Try.prog 112 = some (.agg #[.int .i64 0, .bool false, .int .u32 0]) ∧
  plainB (.agg #[.int .i64 0, .bool false, .int .u32 0]) = true ∧
  tyAgg Try.prog 113 = some true := by (repeat' apply And.intro) <;> kernel_rfl
theorem Try.ty18 :
  tySize Try.prog 113 = some 3 ∧
  tyField Try.prog 113 0 = some (0, 3) ∧
  tyField Try.prog 113 1 = some (1, 4) ∧
  tyField Try.prog 113 2 = some (2, 65) ∧
  (tyPlace Try.prog 113 = some fun i => ([(0, 1), (1, 1), (2, 1)] : List (Nat × Nat))[i]?) ∧
  tyMk Try.prog 113 = true ∧
  tyBytes Try.prog 113 = some 16 ∧
  tyZero Try.prog 113 = some (.agg #[.int .i64 0, .bool false, .int .u32 0]) ∧
  tyAgg Try.prog 116 = some false ∧
  tySize Try.prog 116 = some 1 ∧
  tySli Try.prog 116 = true ∧
  tyBytes Try.prog 116 = some 24 ∧
  tySlice Try.prog 116 = some 30 ∧
  tyZero Try.prog 116 = some (.slice none 0 0) ∧
  tyAgg Try.prog 119 = some true ∧
  tySize Try.prog 119 = some 4 ∧
  tyField Try.prog 119 0 = some (0, 5) ∧
  tyField Try.prog 119 1 = some (1, 3) ∧
  tyField Try.prog 119 2 = some (2, 30) ∧
  tyField Try.prog 119 3 = some (3, 30) ∧
  (tyPlace Try.prog 119 = some fun i => ([(0, 1), (1, 1), (2, 1), (3, 1)] : List (Nat × Nat))[i]?) ∧
  tyMk Try.prog 119 = true ∧
  tyBytes Try.prog 119 = some 32 ∧
  tyZero Try.prog 119 = some (.agg #[.int .u8 0, .int .i64 0, .int .u64 0, .int .u64 0]) := by (repeat' apply And.intro) <;> kernel_rfl
theorem Try.ty21 :
  tyField Try.prog 133 1 = some (1, 3) ∧
  tyField Try.prog 133 2 = some (2, 3) ∧
  (tyPlace Try.prog 133 = some fun i => ([(0, 1), (1, 1), (2, 1)] : List (Nat × Nat))[i]?) ∧
  tyMk Try.prog 133 = true ∧
  tyBytes Try.prog 133 = some 24 ∧
  tyZero Try.prog 133 = some (.agg #[.int .i64 0, .int .i64 0, .int .i64 0]) ∧
  plainB (.agg #[.int .i64 0, .int .i64 0, .int .i64 0]) = true ∧
  tyAgg Try.prog 134 = some true ∧
  tySize Try.prog 134 = some 3 ∧
  tyField Try.prog 134 0 = some (0, 3) ∧
  tyField Try.prog 134 1 = some (1, 3) ∧
  tyField Try.prog 134 2 = some (2, 3) ∧
  (tyPlace Try.prog 134 = some fun i => ([(0, 1), (1, 1), (2, 1)] : List (Nat × Nat))[i]?) ∧
  tyMk Try.prog 134 = true ∧
  tyBytes Try.prog 134 = some 24 ∧
  tyZero Try.prog 134 = some (.agg #[.int .i64 0, .int .i64 0, .int .i64 0]) ∧
  tyAgg Try.prog 135 = some true ∧
  tySize Try.prog 135 = some 12 ∧
  (tyPlace Try.prog 135 = some fun i => some (i * 3, 3)) ∧
  tyBytes Try.prog 135 = some 96 ∧
  tyArray Try.prog 135 = some (4, 134) ∧
  tyZero Try.prog 135 = some (.agg #[.int .i64 0, .int .i64 0, .int .i64 0, .int .i64 0, .int .i64 0, .int .i64 0, .int .i64 0, .int .i64 0, .int .i64 0, .int .i64 0, .int .i64 0, .int .i64 0]) ∧
  plainB (.agg #[.int .i64 0, .int .i64 0, .int .i64 0, .int .i64 0, .int .i64 0, .int .i64 0, .int .i64 0, .int .i64 0, .int .i64 0, .int .i64 0, .int .i64 0, .int .i64 0]) = true ∧
  tyAgg Try.prog 151 = some false := by (repeat' apply And.intro) <;> kernel_rfl
theorem Try.ty22 :
  tySize Try.prog 151 = some 1 ∧
  tySli Try.prog 151 = true ∧
  tyBytes Try.prog 151 = some 24 ∧
  tySlice Try.prog 151 = some 5 ∧
  tyZero Try.prog 151 = some (.slice none 0 0) ∧
  tyAgg Try.prog 152 = some true ∧
  tySize Try.prog 152 = some 2 ∧
  tyField Try.prog 152 0 = some (0, 116) ∧
  tyField Try.prog 152 1 = some (1, 151) ∧
  (tyPlace Try.prog 152 = some fun i => ([(0, 1), (1, 1)] : List (Nat × Nat))[i]?) ∧
  tyMk Try.prog 152 = true ∧
  tyBytes Try.prog 152 = some 48 ∧
  tyZero Try.prog 152 = some (.agg #[.slice none 0 0, .slice none 0 0]) ∧
  plainB (.agg #[.slice none 0 0, .slice none 0 0]) = true ∧
  tyAgg Try.prog 153 = some true ∧
  tySize Try.prog 153 = some 2 ∧
  tyField Try.prog 153 0 = some (0, 116) ∧
  tyField Try.prog 153 1 = some (1, 151) ∧
  (tyPlace Try.prog 153 = some fun i => ([(0, 1), (1, 1)] : List (Nat × Nat))[i]?) ∧
  tyMk Try.prog 153 = true ∧
  tyBytes Try.prog 153 = some 48 ∧
  tyZero Try.prog 153 = some (.agg #[.slice none 0 0, .slice none 0 0]) ∧
  tyAgg Try.prog 158 = some true ∧
  tySize Try.prog 158 = some 19 := by (repeat' apply And.intro) <;> kernel_rfl
theorem Try.ty32 :
  tySize Try.prog 210 = some 1 ∧
  tyBytes Try.prog 210 = some 8 ∧
  tyZero Try.prog 210 = some (.pointer none) ∧
  tyConv Try.prog 3 30 = some .u64 ∧
  tyConv Try.prog 5 3 = some .i64 ∧
  tyConv Try.prog 5 5 = some .u8 ∧
  tyConv Try.prog 5 30 = some .u64 ∧
  tyConv Try.prog 30 3 = some .i64 ∧
  tyConv Try.prog 30 5 = some .u8 ∧
  tyConv Try.prog 30 65 = some .u32 ∧
  tyConv Try.prog 65 30 = some .u64 ∧
  fnOK Try.prog 2 = true ∧
  fnOK Try.prog 3 = true ∧
  fnOK Try.prog 4 = true ∧
  fnOK Try.prog 5 = true ∧
  fnOK Try.prog 6 = true ∧
  fnOK Try.prog 7 = true ∧
  fnOK Try.prog 8 = true ∧
  fnOK Try.prog 9 = true ∧
  fnOK Try.prog 10 = true ∧
  fnOK Try.prog 11 = true ∧
  fnOK Try.prog 12 = true ∧
  fnOK Try.prog 13 = true ∧
  fnOK Try.prog 14 = true := by (repeat' apply And.intro) <;> kernel_rfl
theorem Try.ty33 :
  fnOK Try.prog 15 = true ∧
  fnOK Try.prog 16 = true ∧
  fnOK Try.prog 17 = true ∧
  fnOK Try.prog 18 = true ∧
  fnOK Try.prog 19 = true ∧
  fnOK Try.prog 20 = true ∧
  fnOK Try.prog 21 = true ∧
  fnOK Try.prog 22 = true ∧
  fnOK Try.prog 23 = true ∧
  fnOK Try.prog 24 = true ∧
  fnOK Try.prog 25 = true ∧
  fnOK Try.prog 26 = true ∧
  fnOK Try.prog 27 = true ∧
  fnOK Try.prog 28 = true ∧
  fnOK Try.prog 29 = true ∧
  fnOK Try.prog 30 = true ∧
  fnOK Try.prog 31 = true ∧
  fnOK Try.prog 32 = true ∧
  fnOK Try.prog 33 = true ∧
  fnOK Try.prog 34 = true ∧
  fnOK Try.prog 35 = true ∧
  fnOK Try.prog 36 = true ∧
  fnOK Try.prog 37 = true ∧
  fnOK Try.prog 38 = true := by (repeat' apply And.intro) <;> kernel_rfl
theorem Try.ty34 :
  fnOK Try.prog 39 = true ∧
  fnOK Try.prog 40 = true ∧
  fnOK Try.prog 41 = true ∧
  fnOK Try.prog 42 = true ∧
  fnOK Try.prog 43 = true ∧
  fnOK Try.prog 44 = true ∧
  fnOK Try.prog 45 = true ∧
  fnOK Try.prog 46 = true ∧
  fnOK Try.prog 47 = true ∧
  fnOK Try.prog 48 = true ∧
  fnOK Try.prog 49 = true ∧
  fnOK Try.prog 50 = true ∧
  fnOK Try.prog 51 = true ∧
  fnOK Try.prog 52 = true ∧
  fnOK Try.prog 53 = true ∧
  fnOK Try.prog 54 = true ∧
  fnOK Try.prog 55 = true ∧
  fnOK Try.prog 56 = true ∧
  fnOK Try.prog 57 = true ∧
  fnOK Try.prog 58 = true ∧
  fnOK Try.prog 59 = true ∧
  fnOK Try.prog 60 = true ∧
  fnOK Try.prog 61 = true ∧
  fnOK Try.prog 62 = true := by (repeat' apply And.intro) <;> kernel_rfl
theorem Try.ty35 :
  fnOK Try.prog 63 = true ∧
  fnOK Try.prog 64 = true ∧
  fnOK Try.prog 65 = true ∧
  fnOK Try.prog 66 = true ∧
  fnOK Try.prog 67 = true ∧
  fnOK Try.prog 68 = true ∧
  fnOK Try.prog 69 = true ∧
  fnOK Try.prog 70 = true ∧
  fnOK Try.prog 71 = true ∧
  fnOK Try.prog 72 = true ∧
  fnOK Try.prog 73 = true ∧
  fnOK Try.prog 74 = true ∧
  fnOK Try.prog 75 = true ∧
  fnOK Try.prog 76 = true ∧
  fnOK Try.prog 77 = true ∧
  fnOK Try.prog 78 = true ∧
  fnOK Try.prog 79 = true ∧
  fnOK Try.prog 80 = true ∧
  fnOK Try.prog 81 = true ∧
  fnOK Try.prog 82 = true ∧
  fnOK Try.prog 83 = true ∧
  fnOK Try.prog 84 = true ∧
  fnOK Try.prog 85 = true ∧
  fnOK Try.prog 86 = true := by (repeat' apply And.intro) <;> kernel_rfl
theorem Try.ty37 :
  fnOK Try.prog 111 = true ∧
  fnOK Try.prog 112 = true ∧
  fnOK Try.prog 113 = true ∧
  fnOK Try.prog 114 = true ∧
  fnOK Try.prog 115 = true ∧
  fnOK Try.prog 116 = true ∧
  fnOK Try.prog 117 = true ∧
  fnOK Try.prog 118 = true ∧
  fnOK Try.prog 119 = true ∧
  fnOK Try.prog 120 = true ∧
  fnOK Try.prog 121 = true ∧
  fnOK Try.prog 122 = true ∧
  fnOK Try.prog 123 = true ∧
  fnOK Try.prog 124 = true ∧
  fnOK Try.prog 125 = true ∧
  fnOK Try.prog 126 = true ∧
  fnOK Try.prog 127 = true ∧
  fnOK Try.prog 128 = true ∧
  fnOK Try.prog 129 = true ∧
  fnOK Try.prog 130 = true ∧
  fnOK Try.prog 131 = true ∧
  fnOK Try.prog 132 = true ∧
  fnOK Try.prog 133 = true ∧
  fnOK Try.prog 134 = true := by (repeat' apply And.intro) <;> kernel_rfl
theorem Try.ty38 :
  fnOK Try.prog 135 = true ∧
  fnOK Try.prog 136 = true ∧
  fnOK Try.prog 137 = true ∧
  fnOK Try.prog 138 = true ∧
  fnOK Try.prog 139 = true ∧
  fnOK Try.prog 140 = true ∧
  fnOK Try.prog 141 = true ∧
  fnOK Try.prog 142 = true ∧
  fnOK Try.prog 143 = true ∧
  fnOK Try.prog 144 = true ∧
  fnOK Try.prog 145 = true ∧
  fnOK Try.prog 146 = true ∧
  fnOK Try.prog 147 = true ∧
  fnOK Try.prog 148 = true ∧
  fnOK Try.prog 165 = true ∧
  fnOK Try.prog 166 = true ∧
  fnOK Try.prog 168 = true ∧
  fnOK Try.prog 169 = true ∧
  fnOK Try.prog 170 = true ∧
  fnOK Try.prog 171 = true := by (repeat' apply And.intro) <;> kernel_rfl
attribute [go_sem] Try.eql7 Try.neq7 Try.eql8 Try.neq8 Try.eql43 Try.neq43 Try.eql44 Try.neq44 Try.eql66 Try.neq66 Try.eql67 Try.neq67 Try.eql76 Try.neq76 Try.eql77 Try.neq77 Try.eql89 Try.neq89 Try.eql90 Try.neq90 Try.eql112 Try.neq112 Try.eql113 Try.neq113 Try.eql119 Try.neq119 Try.eql120 Try.neq120 Try.eql133 Try.neq133 Try.eql134 Try.neq134 Try.eql173 Try.neq173 Try.eql174 Try.neq174 Try.eql203 Try.neq203 Try.eql204 Try.neq204 Try.ty0 Try.ty2 Try.ty6 Try.ty7 Try.ty8 Try.ty9 Try.ty10 Try.ty11 Try.ty14 Try.ty15 Try.ty17 Try.ty18 Try.ty21 Try.ty22 Try.ty32 Try.ty33 Try.ty34 Try.ty35 Try.ty37 Try.ty38
end Go.Proofs.Ytjdbknnacaacaaa
namespace Go.Proofs.Ytjdbknnacaacaaa
open Go Go.RowKit
set_option linter.unusedSimpArgs false
set_option linter.unusedVariables false
def upN (ns : List Nat) (nx : Nat) (n : Nat) : Nat := if n < ns.length then ns.getD n 0 else if n < VB then nx + (n - ns.length) else n
def upE (ns : List Nat) (nx : Nat) : Emb := nameE (upN ns nx)
def renB (E : Emb) (b : Blk) : Blk := { b with cells := b.cells.map (ren E) }
structure Gives (cnt : Nat) (l l' new : List Blk) (ex : List Nat) (R : Nat → Nat) (h1 : AHeap) (v0 v : Value) : Prop where
  low : ∀ n, n < l.length → R n = n
  hand : ∀ n, VB ≤ n → R n = n
  more : ∀ (j n : Nat), ex[j]? = some n → l.length ≤ n ∧ n < VB ∧ R n = l.length + j
  nodup : ex.Nodup
  len : ex.length = new.length
  len' : l'.length = l.length
  told : v = ren (nameE R) v0
  clo : Clo (fun n => n < l.length ∨ n ∈ ex ∨ (VB ≤ n ∧ n < VB + cnt)) v0
  rows : ∀ (i : Nat) (b : Blk), l[i]? = some b → b.ro = false → ∃ b1, h1.get i = some b1 ∧ l'[i]? = some (renB (nameE R) b1) ∧ b1.ro = false ∧ ∀ u ∈ b1.cells, Clo (fun n => n < l.length ∨ n ∈ ex ∨ (VB ≤ n ∧ n < VB + cnt)) u
  news : ∀ (j n : Nat), ex[j]? = some n → ∃ b1, h1.get n = some b1 ∧ new[j]? = some (renB (nameE R) b1) ∧ b1.ro = false ∧ ∀ u ∈ b1.cells, Clo (fun n => n < l.length ∨ n ∈ ex ∨ (VB ≤ n ∧ n < VB + cnt)) u
section
variable {P : Program} {σ : Type} {X : Face P σ}
def DoesX (X : Face P σ) (f : FuncId) (args : Array Value) (l : List Blk) (S : σ) (v : Value) (l' new : List Blk) (S' : σ) : Prop :=
  ∃ g c h1 v0 ex R, P.funcs[f]? = some g ∧ goB g = true ∧ g.body = some c ∧ (∀ u ∈ args.toList, Clo (Kn l.length (X.cnt S)) u) ∧ (∀ b ∈ l, ∀ u ∈ b.cells, Clo (Kn l.length (X.cnt S)) u) ∧ Gives (X.cnt S') l l' new ex R h1 v0 v ∧
    Goes X g (fun x => x = .done v0 h1 S') (.run (enterL g c args).1 (enterL g c args).2 (heapL (l.map some)) S)
def LendL (h : AHeap) (E : Emb) : List Nat → List Blk → Prop
  | [], [] => True
  | n :: ns, b :: l => (∃ b0, h.get n = some b0 ∧ b0.elem = b.elem ∧ b0.cells = b.cells.map (ren E) ∧ (b.grow = b0.grow ∨ b.grow = none) ∧ (b.ro = false → b0.ro = false)) ∧ LendL h E ns l
  | _, _ => False
theorem LendL.spec {h : AHeap} {E : Emb} : ∀ {ns : List Nat} {l : List Blk}, LendL h E ns l → ns.length = l.length ∧ ∀ (i : Nat) (b : Blk), l[i]? = some b → ∃ n b0, ns[i]? = some n ∧ h.get n = some b0 ∧ b0.elem = b.elem ∧ b0.cells = b.cells.map (ren E) ∧ (b.grow = b0.grow ∨ b.grow = none) ∧ (b.ro = false → b0.ro = false)
  | [], [], _ => ⟨rfl, fun i b hb => by simp at hb⟩
  | n :: ns, c :: l, ⟨⟨b0, h0⟩, hr⟩ => by
    obtain ⟨h1, h2⟩ := LendL.spec hr
    refine ⟨by simp [h1], fun i b hb => ?_⟩
    cases i with
    | zero => simp at hb; subst hb; exact ⟨n, b0, by simp, h0⟩
    | succ i => simp at hb; simpa using h2 i b hb
  | [], _ :: _, h => h.elim
  | _ :: _, [], h => h.elim
def backL : List Nat → List Blk → List Blk → Nat → Option Blk
  | n :: ns, b :: l, b' :: l', m => if n = m ∧ b.ro = false then some b' else backL ns l l' m
  | _, _, _, _ => none
theorem backL_some : ∀ {ns : List Nat} {l l' : List Blk} {m : Nat} {b' : Blk}, backL ns l l' m = some b' → ∃ (i : Nat) (b : Blk), ns[i]? = some m ∧ l[i]? = some b ∧ b.ro = false ∧ l'[i]? = some b'
  | [], _, _, _, _, h => by simp [backL] at h
  | _ :: _, [], _, _, _, h => by simp [backL] at h
  | _ :: _, _ :: _, [], _, _, h => by simp [backL] at h
  | n :: ns, b :: l, c :: l', m, b', h => by
    simp only [backL] at h
    split at h
    · rename_i hc; cases h; exact ⟨0, b, by simp [hc.1], by simp, hc.2, by simp⟩
    · obtain ⟨i, b1, h1, h2, h3, h4⟩ := backL_some h
      exact ⟨i + 1, b1, by simpa using h1, by simpa using h2, h3, by simpa using h4⟩
theorem backL_none : ∀ {ns : List Nat} {l l' : List Blk} {m : Nat}, backL ns l l' m = none → ns.length = l.length → l'.length = l.length → ∀ (i : Nat) (b : Blk), l[i]? = some b → b.ro = false → ns[i]? ≠ some m
  | [], [], _, _, _, _, _, i, b, hb, _ => by simp at hb
  | [], _ :: _, _, _, _, hl, _, _, _, _, _ => by simp at hl
  | _ :: _, [], _, _, _, hl, _, _, _, _, _ => by simp at hl
  | _ :: _, _ :: _, [], _, _, _, hl, _, _, _, _ => by simp at hl
  | n :: ns, c :: l, c' :: l', m, h, hl, hl', i, b, hb, hr => by
    simp only [backL] at h
    split at h
    · cases h
    · rename_i hc
      cases i with
      | zero =>
        simp at hb; subst hb
        simp only [List.getElem?_cons_zero, ne_eq, Option.some.injEq]
        exact fun h => hc ⟨h, hr⟩
      | succ i =>
        simp at hb hl hl'
        simpa using backL_none h hl hl' i b hb hr
def backH (h : AHeap) (E : Emb) (ns : List Nat) (l l' new : List Blk) : AHeap :=
  ⟨fun m => match backL ns l l' m with
    | some b => some (renB E b)
    | none => if h.next ≤ m then (new[m - h.next]?).map (renB E) else h.get m, h.next + new.length⟩
theorem upE_low {ns : List Nat} {nx i n : Nat} (h : ns[i]? = some n) : (upE ns nx).blk i = n := by
  have := (List.getElem?_eq_some_iff.1 h).1
  simp only [upE, nameE, upN, this, if_true]
  simp [List.getD, h]
theorem renB_comp (F E : Emb) (b : Blk) : renB F (renB E b) = { b with cells := b.cells.map (ren (F.comp E)) } := by
  unfold renB
  simp only [List.map_map]
  congr 1
  exact List.map_congr_left fun v _ => ren_comp F E v
theorem nodup_ne {l : List Nat} (h : l.Nodup) {i j : Nat} (hi : i < l.length) (hj : j < l.length) (hne : i ≠ j) : l[i] ≠ l[j] := by
  rcases Nat.lt_or_gt_of_ne hne with h1 | h1
  · exact List.pairwise_iff_getElem.1 h i j hi hj h1
  · exact Ne.symm (List.pairwise_iff_getElem.1 h j i hj hi h1)
theorem call_lent {o : Oper} {e : Operand → Value} {h : AHeap} {S S' : σ} {f : FuncId} {g : Func} {c : Code} {args : Array Value} {l l' new : List Blk} {ex : List Nat} {R : Nat → Nat} {v v0 : Value} {h1 : AHeap} {ns : List Nat} (hca : callA P e o.op = some (f, args.map (ren (upE ns h.next)))) (hf : P.funcs[f]? = some g) (hg : goB g = true) (hb : g.body = some c)
    (hclo : ∀ u ∈ args.toList, Clo (Kn l.length (X.cnt S)) u) (hcl : ∀ b ∈ l, ∀ u ∈ b.cells, Clo (Kn l.length (X.cnt S)) u) (G : Gives (X.cnt S') l l' new ex R h1 v0 v) (hlow : h.Low) (hL : LendL h (upE ns h.next) ns l) (hnd : ns.Nodup) (hlim : l.length + new.length ≤ VB) :
    CallOK X o e h S (ren (upE ns h.next) v) (backH h (upE ns h.next) ns l l' new) S' f g c args (upE ns h.next) ((upE ns h.next).comp (nameE R)) (heapL (l.map some)) h1 ex v0 := by
  obtain ⟨hlen, hlend⟩ := hL.spec
  have hget : ∀ n b, (heapL (l.map some)).get n = some b ↔ l[n]? = some b := fun n b => by
    rw [heapL_get, List.getElem?_map]
    cases l[n]? <;> simp
  have hhand : ∀ n, VB ≤ n → (upE ns h.next).blk n = n := fun n hn => by
    have h1 : ¬ n < ns.length := by omega
    have h2 : ¬ n < VB := by omega
    simp only [upE, nameE, upN, h1, h2, if_false]
  have hK : ∀ n, (n < l.length ∨ n ∈ ex ∨ (VB ≤ n ∧ n < VB + X.cnt S')) → ((∃ b, (heapL (l.map some)).get n = some b) ∨ n ∈ ex ∨ (VB ≤ n ∧ n < VB + X.cnt S')) := fun n hn => by
    rcases hn with hn | hn
    · exact .inl ⟨l[n], (hget _ _).2 (List.getElem?_eq_getElem hn)⟩
    · exact .inr hn
  have hex : ∀ (j n : Nat), ex[j]? = some n → j < new.length := fun j n hj => by
    rw [← G.len]; exact (List.getElem?_eq_some_iff.1 hj).1
  refine ⟨hca, hf, hg, hb, ⟨?_, ?_, ?_, ?_, ?_, ?_⟩, ?_, ⟨by rw [G.len]; rfl, ?_, ?_, ?_, ?_, ?_, ?_, ?_, ?_, ?_, G.nodup⟩⟩
  · intro n b hb v hv
    rw [hget] at hb
    rw [heapL_next, List.length_map]
    exact hcl b (List.mem_of_getElem? hb) v hv
  · intro n b hb
    rw [hget] at hb
    rw [heapL_next, List.length_map]
    exact (List.getElem?_eq_some_iff.1 hb).1
  · intro n b hb
    rw [hget] at hb
    obtain ⟨m, b0, k1, k2, k3, k4, k5, k6⟩ := hlend n b hb
    exact ⟨b0, by rw [upE_low k1]; exact k2, k3, .inl ⟨k4, rfl, rfl, k5, k6⟩⟩
  · intro n m b c hb hc hne _
    rw [hget] at hb hc
    obtain ⟨x, _, k1, _⟩ := hlend n b hb
    obtain ⟨y, _, k2, _⟩ := hlend m c hc
    rw [upE_low k1, upE_low k2]
    rintro rfl
    obtain ⟨h1, h1'⟩ := List.getElem?_eq_some_iff.1 k1
    obtain ⟨h2, h2'⟩ := List.getElem?_eq_some_iff.1 k2
    exact nodup_ne hnd h1 h2 hne (h1'.trans h2'.symm)
  · rw [heapL_next, List.length_map]; omega
  · exact fun n hn => ⟨hhand n hn, rfl, rfl⟩
  · rw [heapL_next, List.length_map]; exact hclo
  · intro n hn
    rw [heapL_next, List.length_map] at hn
    simp only [Emb.comp, nameE, G.low n hn, upE, Nat.add_zero, and_self]
  · intro j n hj
    obtain ⟨k1, k2, k3⟩ := G.more j n hj
    have := hex j n hj
    refine ⟨by rw [heapL_next, List.length_map]; exact k1, k2, ?_, rfl, rfl⟩
    simp only [Emb.comp, nameE, k3, upE, upN, hlen]
    have h1 : ¬ l.length + j < l.length := by omega
    have h2 : l.length + j < VB := by omega
    simp only [h1, h2, if_false, if_true]
    omega
  · intro n hn
    refine ⟨?_, rfl, rfl⟩
    simp only [Emb.comp]
    rw [show (nameE R).blk n = n from G.hand n hn]
    exact hhand n hn
  · rw [G.told, ren_comp]
  · exact fun F F' hs => G.clo F F' (hs.mono hK)
  · rintro n b hb hn u hu
    rcases hn with ⟨b0, hb0, hr⟩ | hn
    · rw [hget] at hb0
      obtain ⟨b1, k1, _, _, k4⟩ := G.rows n b0 hb0 hr
      rw [hb] at k1; cases k1
      exact fun F F' hs => k4 u hu F F' (hs.mono hK)
    · obtain ⟨j, hj⟩ := List.getElem?_of_mem hn
      obtain ⟨b1, k1, _, _, k4⟩ := G.news j n hj
      rw [hb] at k1; cases k1
      exact fun F F' hs => k4 u hu F F' (hs.mono hK)
  · intro j n hj
    obtain ⟨b1, k1, k2, _⟩ := G.news j n hj
    rw [k1]
    unfold backH
    simp only
    have hbk : backL ns l l' (h.next + j) = none := by
      cases hb' : backL ns l l' (h.next + j) with
      | none => rfl
      | some b' =>
        obtain ⟨i, b, g1, g2, _⟩ := backL_some hb'
        obtain ⟨m, b0, p1, p2, _⟩ := hlend i b g2
        rw [g1] at p1; cases p1
        have := hlow _ _ p2
        omega
    rw [hbk]
    simp only
    rw [if_pos (by omega), Nat.add_sub_cancel_left, k2, Option.map_some, renB_comp]
    rfl
  · intro m hm
    unfold backH
    simp only
    cases hb' : backL ns l l' m with
    | some b' =>
      obtain ⟨i, b, g1, g2, g3, g4⟩ := backL_some hb'
      obtain ⟨b1, k1, k2, k3, k4⟩ := G.rows i b g2 g3
      refine .inr ⟨i, b, (hget _ _).2 g2, g3, upE_low g1, ?_⟩
      rw [g4] at k2; cases k2
      rw [k1, Option.map_some]
      simp only [renB_comp]
    | none =>
      refine .inl ⟨?_, fun n b hb hr => ?_⟩
      · simp only
        split
        · rename_i hle
          rcases hm with hm | hm
          · omega
          · have hm : h.next + new.length ≤ m := hm
            rw [List.getElem?_eq_none (by omega)]
            cases hg' : h.get m with
            | none => rfl
            | some b => have := hlow _ _ hg'; omega
        · rfl
      · rw [hget] at hb
        obtain ⟨x, _, p1, _⟩ := hlend n b hb
        have := backL_none hb' hlen G.len' n b hb hr
        rw [upE_low p1]
        rintro rfl
        exact this p1
  · rintro n b hb (⟨b0, hb0, hr⟩ | hn)
    · rw [hget] at hb0
      obtain ⟨b1, k1, _, k3, _⟩ := G.rows n b0 hb0 hr
      rw [hb] at k1; cases k1; exact k3
    · obtain ⟨j, hj⟩ := List.getElem?_of_mem hn
      obtain ⟨b1, k1, _, k3, _⟩ := G.news j n hj
      rw [hb] at k1; cases k1; exact k3
def backR (E : Emb) (rows : List (Option Blk)) : List Nat → List Blk → List Blk → List (Option Blk)
  | n :: ns, b :: l, b' :: l' => if b.ro = false then (backR E rows ns l l').set n (some (renB E b')) else backR E rows ns l l'
  | _, _, _ => rows
theorem backR_len {E : Emb} {rows : List (Option Blk)} : ∀ {ns : List Nat} {l l' : List Blk}, (backR E rows ns l l').length = rows.length
  | [], _, _ => rfl
  | _ :: _, [], _ => rfl
  | _ :: _, _ :: _, [] => rfl
  | n :: ns, b :: l, b' :: l' => by
    simp only [backR]
    split
    · rw [List.length_set, backR_len]
    · rw [backR_len]
theorem backR_get {E : Emb} {rows : List (Option Blk)} : ∀ {ns : List Nat} {l l' : List Blk} {m : Nat}, (∀ n ∈ ns, n < rows.length) → ((backR E rows ns l l')[m]?).join = match backL ns l l' m with | some b => some (renB E b) | none => (rows[m]?).join
  | [], _, _, _, _ => rfl
  | _ :: _, [], _, _, _ => rfl
  | _ :: _, _ :: _, [], _, _ => rfl
  | n :: ns, b :: l, b' :: l', m, hlt => by
    have ih := @backR_get E rows ns l l' m (fun x hx => hlt x (by simp [hx]))
    simp only [backR, backL]
    have hn : n < rows.length := hlt n (by simp)
    by_cases hr : b.ro = false
    · rw [if_pos hr, List.getElem?_set]
      by_cases hm : n = m
      · subst hm
        simp [hr, backR_len, hn]
      · simp only [hm, false_and, if_false]
        exact ih
    · have hc : ¬ (n = m ∧ b.ro = false) := fun h => hr h.2
      rw [if_neg hr, if_neg hc]
      exact ih
theorem backH_L {E : Emb} {rows : List (Option Blk)} {ns : List Nat} {l l' new : List Blk} (hlt : ∀ n ∈ ns, n < rows.length) : backH (heapL rows) E ns l l' new = heapL (backR E rows ns l l' ++ new.map fun b => some (renB E b)) := by
  unfold backH heapL
  simp only [List.length_append, List.length_map, backR_len]
  congr 1
  funext m
  by_cases hm : rows.length ≤ m
  · have hbk : backL ns l l' m = none := by
      cases hb' : backL ns l l' m with
      | none => rfl
      | some b' =>
        obtain ⟨i, b, g1, _⟩ := backL_some hb'
        have := hlt m (List.mem_of_getElem? g1)
        omega
    rw [hbk, List.getElem?_append_right (by rw [backR_len]; exact hm), backR_len, List.getElem?_map]
    simp only [hm, if_true]
    cases new[m - rows.length]? <;> simp
  · rw [List.getElem?_append_left (by rw [backR_len]; omega), backR_get hlt]
    cases backL ns l l' m with
    | some b => rfl
    | none => simp [hm]
variable {fn : Func} {A : Conf σ → Prop} {ops : Array Oper} {k : List Item} {i : Nat} {tmps : List Value} {h : AHeap} {S : σ} {o : Oper} {todo : List Item} {W : List Nat} {n0 : Nat} {hf : AHeap} {Kf : List Value → AHeap → σ → Prop} {born : List (Nat × Nat)}
theorem aheap_ext {h h' : AHeap} (hg : ∀ m, h.get m = h'.get m) (hn : h.next = h'.next) : h = h' := by
  cases h; cases h'
  simp only [AHeap.mk.injEq]
  exact ⟨funext hg, hn⟩
theorem glueH_get {h hv : AHeap} {m : Nat} : (glueH h hv).get m = if h.next ≤ m then (if m < hv.next then hv.get m else none) else h.get m := rfl
def CallX (X : Face P σ) (S : σ) (ns : List Nat) (nx : Nat) (h : AHeap) (K : Value → List Blk → List Blk → List Blk → σ → Prop) (f : FuncId) (args : Array Value) : Prop :=
  ∃ zs l v l' new S', DoesX X f zs l S v l' new S' ∧ args = zs.map (ren (upE ns nx)) ∧ LendL h (upE ns nx) ns l ∧ K v l l' new S'
theorem At.callX {rows : List (Option Blk)} (ns : List Nat) (ho : ops.toList[i]? = some o) (hw : Region.wanted o (yieldedL ops tmps) = true) (hb : opOK o.op = true) (hnd : ns.Nodup) (hlt : (ns.all fun n => decide (n < rows.length)) = true)
    (hk : ∀ K : List Value → List (Option Blk) → σ → Prop, (∀ t rs S', At X fn A ops k (i + 1) t (heapL rs) S' → K t rs S') →
      CallK (CallX X S ns rows.length (heapL rows) fun v l l' new S' => decide (rows.length + l.length + new.length < 1000000) = true ∧ K (putL o.dst (ren (upE ns rows.length) v) tmps) (backR (upE ns rows.length) rows ns l l' ++ new.map fun b => some (renB (upE ns rows.length) b)) S') (callA P (evA tmps) o.op)) : At X fn A ops k i tmps (heapL rows) S := by
  have hk := hk _ fun _ _ _ h => h
  have hlt : ∀ n ∈ ns, n < rows.length := fun n hn => of_decide_eq_true (List.all_eq_true.1 hlt n hn)
  unfold At
  rw [range_at (at_list ho)]
  cases hv : callA P (evA tmps) o.op with
  | none => rw [hv] at hk; exact hk.elim
  | some x =>
    obtain ⟨f, args⟩ := x
    rw [hv] at hk
    obtain ⟨zs, l, v, l', new, S', ⟨g, c, h1, v0, ex, R, d1, d2, d3, d4, d5, d6, d7⟩, rfl, hL, hlim, hK⟩ := hk
    have hlim := of_decide_eq_true hlim
    have hC := call_lent (ns := ns) (h := heapL rows) (o := o) (e := evA tmps) (f := f) (args := zs) (by rw [heapL_next]; exact hv) d1 d2 d3 d4 d5 d6 (heapL_low _) (by rw [heapL_next]; exact hL) hnd (by unfold VB; omega)
    rw [heapL_next, backH_L hlt] at hC
    exact .call f g c zs _ _ _ h1 ex v0 (at_list ho) hw (opOK_all hb) hC (.inr (by rw [heapL_next, List.length_append, backR_len, List.length_map]; unfold VB; omega)) d7 hK
theorem RG.callX {rows : List (Option Blk)} (ns : List Nat) (ho : ops.toList[i]? = some o) (hw : Region.wanted o (yieldedL ops tmps) = true) (hb : opOK o.op = true) (hq : wrB W i o = false) (hnd : ns.Nodup)
    (hk : ∀ K : List Value → List (Option Blk) → σ → List (Nat × Nat) → Prop, (∀ t rs S' born', RGF X W ops n0 hf Kf (i + 1) t (heapL rs) S' born' → K t rs S' born') →
      CallK (CallX X S ns rows.length (visH n0 born ((masksFrom ops.toList []).getD i 0) (heapL rows)) fun v l _ new S' => (l.all (·.ro) = true ∧ decide (rows.length + l.length + new.length < 1000000) = true) ∧ K (putL o.dst (ren (upE ns rows.length) v) tmps) (rows ++ new.map fun b => some (renB (upE ns rows.length) b)) S' (bornN i rows.length (rows.length + new.length) ++ born)) (callA P (evA tmps) o.op)) (hnf : farB W i = false := by rfl) : RGF X W ops n0 hf Kf i tmps (heapL rows) S born := by
  have hk := hk _ fun _ _ _ _ h => h
  cases hv : callA P (evA tmps) o.op with
  | none => rw [hv] at hk; exact hk.elim
  | some x =>
    obtain ⟨f, args⟩ := x
    rw [hv] at hk
    obtain ⟨zs, l, v, l', new, S', ⟨g, c, h1, v0, ex, R, d1, d2, d3, d4, d5, d6, d7⟩, rfl, hL, ⟨hro, hlim⟩, hK⟩ := hk
    have hlim := of_decide_eq_true hlim
    have hlowv : (visH n0 born ((masksFrom ops.toList []).getD i 0) (heapL rows)).Low := by
      intro n b hb
      unfold visH at hb ⊢
      simp only at hb ⊢
      split at hb
      · cases hg : (heapL rows).get n with
        | none => rw [hg] at hb; cases hb
        | some b0 => exact heapL_low _ _ _ hg
      · cases hb
    have hnx : (visH n0 born ((masksFrom ops.toList []).getD i 0) (heapL rows)).next = rows.length := rfl
    have hC := call_lent (ns := ns) (h := visH n0 born ((masksFrom ops.toList []).getD i 0) (heapL rows)) (o := o) (e := evA tmps) (f := f) (args := zs) (by rw [hnx]; exact hv) d1 d2 d3 d4 d5 d6 hlowv (by rw [hnx]; exact hL) hnd (by unfold VB; omega)
    rw [hnx] at hC
    have hbl : ∀ m, backL ns l l' m = none := fun m => by
      cases hb' : backL ns l l' m with
      | none => rfl
      | some b' =>
        obtain ⟨j, b, _, g2, g3, _⟩ := backL_some hb'
        have := List.all_eq_true.1 hro b (List.mem_of_getElem? g2)
        rw [g3] at this; cases this
    refine .call' (h' := heapL (rows ++ new.map fun b => some (renB (upE ns rows.length) b))) false f g c zs _ _ _ h1 ex v0 hnf (at_list ho) hw (opOK_all hb) (.inr (by rw [heapL_next, List.length_append, List.length_map]; unfold VB; omega)) ⟨hq, _, hC, ?_⟩ d7 ?_ ?_
    · refine aheap_ext (fun m => ?_) ?_
      · rw [glueH_get, heapL_next, heapL_get, heapL_get]
        have hbk : ∀ E m, (backH (visH n0 born ((masksFrom ops.toList []).getD i 0) (heapL rows)) E ns l l' new).get m = if rows.length ≤ m then (new[m - rows.length]?).map (renB E) else (visH n0 born ((masksFrom ops.toList []).getD i 0) (heapL rows)).get m := fun E m => by
          unfold backH
          simp only [hbl m]
          rfl
        rw [hbk]
        have hbn : ∀ E, (backH (visH n0 born ((masksFrom ops.toList []).getD i 0) (heapL rows)) E ns l l' new).next = rows.length + new.length := fun E => rfl
        rw [hbn]
        split
        · rename_i hm
          rw [List.getElem?_append_right hm, List.getElem?_map]
          split
          · cases new[m - rows.length]? <;> simp
          · rw [List.getElem?_eq_none (by omega)]; simp
        · rename_i hm
          rw [List.getElem?_append_left (by omega)]
      · show (heapL (rows ++ _)).next = rows.length + new.length
        rw [heapL_next, List.length_append, List.length_map]
    · intro n b _ q1 q2
      rw [heapL_next] at q2
      rw [heapL_get, heapL_get, List.getElem?_append_left (by omega)]
    · rw [heapL_next, heapL_next, List.length_append, List.length_map]
      exact hK
theorem Gives.still {cnt : Nat} {l : List Blk} {h1 : AHeap} {v : Value} (hro : l.all (·.ro) = true) (hv : Clo (Kn l.length cnt) v) : Gives cnt l l [] [] id h1 v v where
  low := fun _ _ => rfl
  hand := fun _ _ => rfl
  more := fun j n hj => by simp at hj
  nodup := List.nodup_nil
  len := rfl
  len' := rfl
  told := (ren_id v).symm
  clo := fun F F' hs => hv F F' (hs.mono fun n hn => by
    rcases hn with hn | hn
    · exact .inl hn
    · exact .inr (.inr hn))
  rows := fun i b hb hr => by
    have := List.all_eq_true.1 hro b (List.mem_of_getElem? hb)
    rw [hr] at this; cases this
  news := fun j n hj => by simp at hj
theorem Goes.finX {v v0 : Value} {S' : σ} {l l' new : List Blk} {ex : List Nat} {R : Nat → Nat} (ht : retB todo = true) (hv : resA P fn tmps h = some v0) (hS : S = S') (hG : Gives (X.cnt S') l l' new ex R h v0 v) :
    Goes X fn (fun x => ∃ v0 h1 ex R, x = .done v0 h1 S' ∧ Gives (X.cnt S') l l' new ex R h1 v0 v) (.run todo tmps h S) :=
  .ret ht hv (.here ⟨v0, h, ex, R, by rw [hS], hG⟩)
theorem Goes.finS {v : Value} {S' : σ} {l : List Blk} (ht : retB todo = true) (hv : resA P fn tmps h = some v) (hS : S = S') (hro : l.all (·.ro) = true) (hc : Clo (Kn l.length (X.cnt S')) v) :
    Goes X fn (fun x => ∃ v0 h1 ex R, x = .done v0 h1 S' ∧ Gives (X.cnt S') l l [] ex R h1 v0 v) (.run todo tmps h S) :=
  Goes.finX ht hv hS (Gives.still hro hc)
theorem DoesX.mk {f : FuncId} {g : Func} {c : Code} {args : Array Value} {l l' new : List Blk} {S S' : σ} {v : Value} (hf : P.funcs[f]? = some g) (hg : goB g = true) (hb : g.body = some c) (hclo : ∀ u ∈ args.toList, Clo (Kn l.length (X.cnt S)) u) (hcl : ∀ b ∈ l, ∀ u ∈ b.cells, Clo (Kn l.length (X.cnt S)) u)
    (hrun : Goes X g (fun x => ∃ v0 h1 ex R, x = .done v0 h1 S' ∧ Gives (X.cnt S') l l' new ex R h1 v0 v) (.run [.code c] (args.toList ++ List.replicate (g.ntmps - args.size) undef) (heapL (l.map some)) S)) : DoesX X f args l S v l' new S' := by
  obtain ⟨c', ⟨v0, h1, ex, R, rfl, hG⟩, G⟩ := hrun.out
  exact ⟨g, c, h1, v0, ex, R, hf, hg, hb, hclo, hcl, hG, G⟩
theorem plain_rows {l : List Blk} {n c : Nat} (h : ∀ b ∈ l, ∀ u ∈ b.cells, plainB u = true) : ∀ b ∈ l, ∀ u ∈ b.cells, Clo (Kn n c) u := fun b hb u hu => Clo.plain (h b hb u hu)
theorem plain_map {cs : List Value} {E : Emb} (h : ∀ u ∈ cs, plainB u = true) : cs = cs.map (ren E) := by
  conv => lhs; rw [← List.map_id cs]
  exact List.map_congr_left fun u hu => (ren_plain E (h u hu)).symm
end
theorem Goes.wh {P : Program} {σ : Type} {X : Face P σ} {fn : Func} {A : Conf σ → Prop} {B : Code} {K : List Item} {tmps : List Value} {h : AHeap} {S : σ} (Inv : Nat → List Value → AHeap → σ → Prop) {m : Nat} (h0 : Inv m tmps h S)
    (step : ∀ m tmps h S, (∀ m' t' h' S', m' < m → Inv m' t' h' S' → Goes X fn A (.run (.inLoop B :: K) t' h' S')) → Inv m tmps h S → Goes X fn A (.run (.code B :: .inLoop B :: K) tmps h S)) : Goes X fn A (.run (.code (.loop B) :: K) tmps h S) := by
  refine .ctl rfl ?_
  have key : ∀ n, ∀ m tmps h S, m < n → Inv m tmps h S → Goes X fn A (.run (.code B :: .inLoop B :: K) tmps h S) := by
    intro n
    induction n with
    | zero => intro m _ _ _ hm; omega
    | succ n ih =>
      intro m tmps h S hm hI
      exact step m tmps h S (fun m' t' h' S' hm' hI' => .ctl rfl (ih m' t' h' S' (by omega) hI')) hI
  exact key (m + 1) m tmps h S (by omega) h0
theorem frame_lit {tmps : List Value} {n : Nat} (h : tmps.length = n) : ∃ V : Nat → Value, (∀ i, tmps.getD i undef = V i) ∧ tmps = (List.range n).map V := by
  refine ⟨fun i => tmps.getD i undef, fun _ => rfl, ?_⟩
  apply List.ext_getElem?
  intro j
  rw [List.getElem?_map]
  by_cases hj : j < n
  · rw [List.getElem?_range hj]
    simp [List.getD, List.getElem?_eq_getElem (show j < tmps.length by omega)]
  · rw [List.getElem?_eq_none (by omega), List.getElem?_eq_none (by simp; omega)]
    rfl
theorem clo_s0 {n c a m : Nat} (h : 0 < n) : Clo (Kn n c) (.slice (some ⟨0, 0, none⟩) a m) := fun F F' hs => by
  obtain ⟨h1, h2, h3⟩ := hs 0 (.inl h)
  simp [adr, h1, h2, h3]
def appV (P : Program) (h : AHeap) (nx : Nat) (t : TypeId) (x y : Value) : Option (Value × Option Blk) := match appendA P h t x y with
  | some (news, el, need, true) => some (.slice (some ⟨nx, 0, none⟩) need need, some ⟨news, el, false, tySize P el⟩)
  | _ => none
theorem n_append {P : Program} {e : Operand → Value} {h : AHeap} {nx : Nat} {t : TypeId} {x y : Operand} : newA P e h nx (.call { callee := .builtin .append, args := #[x, y], argTypes := #[t, t] }) = appV P h nx t (e x) (e y) := by
  unfold newA appV
  simp only [if_true]
  rcases appendA P h t (e x) (e y) with _ | ⟨news, el, need, b⟩
  · rfl
  · cases b <;> rfl
theorem appV_new {P : Program} {h : AHeap} {nx : Nat} {t el : TypeId} {s bs sl sc n c : Nat} {a b : Option Addr} {z : Value} {olds news : List Value} (h1 : tySlice P t = some el) (h2 : tySize P el = some (s + 1)) (h3 : tyBytes P el = some bs) (h4 : tyZero P el = some z)
    (h5 : (plainB z && decide (z.cells.size = s + 1) && decide (bs ≤ 1048576)) = true) (c1 : cellsA h (s + 1) (.slice a sl sc) = some olds) (c2 : cellsA h (s + 1) (.slice b n c) = some news) (h6 : sc < sl + n) (h7 : sl + n ≤ 16777216) (h8 : ∀ x, a = some x → ∃ bk, h.get x.block = some bk ∧ bk.grow = some 0) :
    appV P h nx t (.slice a sl sc) (.slice b n c) = some (.slice (some ⟨nx, 0, none⟩) (sl + n) (sl + n), some ⟨olds ++ news, el, false, some (s + 1)⟩) := by
  have h5' : plainB z = true ∧ z.cells.size = s + 1 ∧ bs ≤ 1048576 := by
    rw [Bool.and_eq_true, Bool.and_eq_true, decide_eq_true_eq, decide_eq_true_eq] at h5
    exact ⟨h5.1.1, h5.1.2, h5.2⟩
  have hc : plainB z = true ∧ z.cells.size = s + 1 ∧ bs ≤ 1048576 ∧ sc < sl + n ∧ sl + n ≤ 16777216 := ⟨h5'.1, h5'.2.1, h5'.2.2, h6, h7⟩
  have hap : appendA P h t (.slice a sl sc) (.slice b n c) = some (olds ++ news, el, sl + n, true) := by
    unfold appendA
    simp only [h1, h2, h3, h4, Option.getD_some, c1, c2]
    rw [if_pos hc]
    cases a with
    | none => rfl
    | some x =>
      obtain ⟨bk, g1, g2⟩ := h8 x rfl
      simp only [g1, g2, if_true]
  unfold appV
  rw [hap]
  simp only [h2]
theorem cellsA_zero {h : AHeap} {s c : Nat} {a : Addr} : cellsA h s (.slice (some a) 0 c) = some [] := by simp [cellsA]
theorem cellsA_row {h : AHeap} {s n c : Nat} {a : Addr} {b : Blk} (hn : n ≠ 0) (hg : h.get a.block = some b) (hs : a.spot = none) (hl : a.off + n * s ≤ b.cells.length) : cellsA h s (.slice (some a) n c) = some ((b.cells.drop a.off).take (n * s)) := by
  show (if n = 0 then some [] else if a.spot = none then (match h.get a.block with
    | some b => if a.off + n * s ≤ b.cells.length then some ((b.cells.drop a.off).take (n * s)) else none
    | none => none) else none) = _
  rw [if_neg hn, if_pos hs, hg]
  simp only [hl, if_true]
def numRow (k : IntKind) (ns : List Int) : List Value := ns.map fun n => .int k n
theorem numRow_plain {k : IntKind} {ns : List Int} : ∀ u ∈ numRow k ns, plainB u = true := fun u hu => by
  obtain ⟨n, _, rfl⟩ := List.mem_map.1 hu; rfl
theorem up_0 {a nx : Nat} {ns : List Nat} : (upE (a :: ns) nx).blk 0 = a := by simp [upE, nameE, upN]
theorem up_1 {a b nx : Nat} {ns : List Nat} : (upE (a :: b :: ns) nx).blk 1 = b := by simp [upE, nameE, upN]
theorem up_2 {a b c nx : Nat} {ns : List Nat} : (upE (a :: b :: c :: ns) nx).blk 2 = c := by simp [upE, nameE, upN]
theorem up_00 {nx : Nat} : (upE [] nx).blk 0 = nx := by simp [upE, nameE, upN, VB]
theorem up_base {nx n : Nat} {ns : List Nat} : (upE ns nx).base n = 0 := rfl
theorem up_slack {nx n : Nat} {ns : List Nat} : (upE ns nx).slack n = 0 := rfl
theorem up_hnd {nx k : Nat} {ns : List Nat} (h : ns.length < 1000000) : ren (upE ns nx) (hndV k) = hndV k := by
  have h1 : ¬ VB + k < ns.length := by unfold VB; omega
  have h2 : ¬ VB + k < VB := by omega
  simp only [hndV, ren_psome, adr, upE, nameE, upN, h1, h2, if_false, Nat.zero_add]
theorem up_prt {nx k : Nat} {ns : List Nat} (h : ns.length < 1000000) : ren (upE ns nx) (prtV k) = prtV k := by
  simp only [prtV, ren_iface, up_hnd h]
theorem map_geo {E : Emb} {N T : Nat} : (geoC N T).map (ren E) = geoC N T := by
  have := ren_plain E (geo_plain N T)
  rw [ren_agg] at this
  exact (Value.agg.inj this)
attribute [go_sem high] n_append
attribute [go_sem] map_geo CallX backR renB up_0 up_1 up_2 up_00 up_base up_slack up_hnd up_prt ren_bool ren_int ren_string ren_pnone ren_psome ren_snone ren_ssome ren_iface ren_nilIface ren_nilFunc ren_agg ren_tuple ren_func adr Nat.add_zero List.append_nil
end Go.Proofs.Ytjdbknnacaacaaa
namespace Go.Proofs.Ytjdbknnacaacaaa
open Go Go.RowKit
set_option linter.unusedSimpArgs false
set_option linter.unusedVariables false
def heapJ (l : List (Option Blk)) (q : Nat) (l2 : List (Option Blk)) : AHeap := ⟨fun n => if n < q then (l[n]?).join else (l2[n - q]?).join, q + l2.length⟩
theorem gap_lo {l : List (Option Blk)} {q : Nat} {l2 : List (Option Blk)} {n : Nat} (h : n < q) : (heapJ l q l2).get n = (l[n]?).join := if_pos h
theorem gap_hi0 {l : List (Option Blk)} {q : Nat} {l2 : List (Option Blk)} : (heapJ l q l2).get q = (l2[0]?).join := by
  show (if q < q then _ else _) = _
  rw [if_neg (Nat.lt_irrefl q), Nat.sub_self]
theorem gap_hi {l : List (Option Blk)} {q : Nat} {l2 : List (Option Blk)} {i : Nat} : (heapJ l q l2).get (q + i) = (l2[i]?).join := by
  show (if q + i < q then _ else _) = _
  rw [if_neg (by omega), Nat.add_sub_cancel_left]
theorem gap_next (l : List (Option Blk)) (q : Nat) (l2 : List (Option Blk)) : (heapJ l q l2).next = q + l2.length := rfl
theorem ah_ext {a b : AHeap} (h1 : ∀ n, a.get n = b.get n) (h2 : a.next = b.next) : a = b := by
  cases a; cases b
  simp only [AHeap.mk.injEq]
  exact ⟨funext h1, h2⟩
theorem gap_addO (l : List (Option Blk)) (q : Nat) (l2 : List (Option Blk)) (b : Option Blk) : (heapJ l q l2).addO b = heapJ l q (l2 ++ [b]) := by
  refine ah_ext (fun n => ?_) (by simp [AHeap.addO, heapJ]; omega)
  rw [AHeap.addO_get, gap_next]
  show _ = (if n < q then _ else _)
  by_cases hn : n < q
  · rw [if_neg (by omega), if_pos hn, gap_lo hn]
  · obtain ⟨i, rfl⟩ : ∃ i, n = q + i := ⟨n - q, by omega⟩
    rw [gap_hi, if_neg hn, Nat.add_sub_cancel_left]
    by_cases hi : i = l2.length
    · subst hi; rw [if_pos rfl]; simp
    · rw [if_neg (by omega), List.getElem?_append]
      by_cases h2 : i < l2.length
      · rw [if_pos h2]
      · rw [if_neg h2, List.getElem?_eq_none (by omega), List.getElem?_eq_none (by simp; omega)]
theorem gap_putO_lo {l : List (Option Blk)} {q : Nat} {l2 : List (Option Blk)} {n : Nat} {b : Option Blk} (h : n < q) (hl : n < l.length) : (heapJ l q l2).putO n b = heapJ (l.set n b) q l2 := by
  refine ah_ext (fun m => ?_) rfl
  rw [AHeap.putO_get]
  show _ = (if m < q then _ else _)
  by_cases hm : m = n
  · subst hm; rw [if_pos rfl, if_pos h]; simp [hl]
  · rw [if_neg hm]
    show (if m < q then _ else _) = _
    rw [List.getElem?_set_ne (fun e => hm e.symm)]
theorem gap_putO_hi {l : List (Option Blk)} {q : Nat} {l2 : List (Option Blk)} {i : Nat} {b : Option Blk} (hl : i < l2.length) : (heapJ l q l2).putO (q + i) b = heapJ l q (l2.set i b) := by
  refine ah_ext (fun m => ?_) (by simp [AHeap.putO, heapJ])
  rw [AHeap.putO_get]
  show _ = (if m < q then _ else _)
  by_cases hm : m < q
  · rw [if_neg (by omega), if_pos hm, gap_lo hm]
  · obtain ⟨j, rfl⟩ : ∃ j, m = q + j := ⟨m - q, by omega⟩
    rw [gap_hi, if_neg hm, Nat.add_sub_cancel_left]
    by_cases hj : j = i
    · subst hj; rw [if_pos rfl]; simp [hl]
    · rw [if_neg (by omega), List.getElem?_set_ne (fun e => hj e.symm)]
theorem gap_putO_hi0 {l : List (Option Blk)} {q : Nat} {l2 : List (Option Blk)} {b : Option Blk} (hl : 0 < l2.length) : (heapJ l q l2).putO q b = heapJ l q (l2.set 0 b) := gap_putO_hi (i := 0) hl
theorem gap_put_lo {l : List (Option Blk)} {q : Nat} {l2 : List (Option Blk)} {n : Nat} {b : Blk} (h : n < q) (hl : n < l.length) : (heapJ l q l2).put n b = heapJ (l.set n (some b)) q l2 := by rw [put_putO, gap_putO_lo h hl]
theorem gap_put_hi {l : List (Option Blk)} {q : Nat} {l2 : List (Option Blk)} {i : Nat} {b : Blk} (hl : i < l2.length) : (heapJ l q l2).put (q + i) b = heapJ l q (l2.set i (some b)) := by rw [put_putO, gap_putO_hi hl]
theorem gap_put_hi0 {l : List (Option Blk)} {q : Nat} {l2 : List (Option Blk)} {b : Blk} (hl : 0 < l2.length) : (heapJ l q l2).put q b = heapJ l q (l2.set 0 (some b)) := by rw [put_putO, gap_putO_hi0 hl]
theorem gap_lim {l : List (Option Blk)} {q : Nat} {l2 : List (Option Blk)} (h : q + l2.length < 1000000000) : (heapJ l q l2).next < VB := by rw [gap_next]; unfold VB; omega
theorem gap_low (l : List (Option Blk)) (q : Nat) (l2 : List (Option Blk)) : (heapJ l q l2).Low := by
  intro n b hb
  rw [gap_next]
  by_cases hn : n < q
  · omega
  · obtain ⟨i, rfl⟩ : ∃ i, n = q + i := ⟨n - q, by omega⟩
    rw [gap_hi] at hb
    have : i < l2.length := by
      apply Nat.lt_of_not_le; intro h; rw [List.getElem?_eq_none h] at hb; simp at hb
    omega
theorem gap_of (l : List (Option Blk)) : heapL l = heapJ l l.length [] := by
  refine ah_ext (fun n => ?_) (by simp [heapL, heapJ])
  rw [heapL_get]
  show _ = (if n < l.length then _ else _)
  split
  · rfl
  · rw [List.getElem?_eq_none (by omega)]; simp
theorem Goes.forget {P : Program} {σ : Type} {X : Face P σ} {fn : Func} {A : Conf σ → Prop} {todo : List Item} {tmps : List Value} {l l2 : List (Option Blk)} {q : Nat} {S : σ} (hk : Goes X fn A (.run todo tmps (heapJ l (q + l2.length) []) S)) (hl : l.length ≤ q) : Goes X fn A (.run todo tmps (heapJ l q l2) S) := by
  refine .weak (h0 := heapJ l (q + l2.length) []) (fun n b hb => ?_) rfl hk
  have hn : n < l.length := by
    apply Nat.lt_of_not_le; intro h
    by_cases h2 : n < q + l2.length
    · rw [gap_lo h2, List.getElem?_eq_none h] at hb; simp at hb
    · obtain ⟨i, rfl⟩ : ∃ i, n = q + l2.length + i := ⟨n - (q + l2.length), by omega⟩
      rw [gap_hi] at hb; simp at hb
  rw [gap_lo (by omega)] at hb
  exact ⟨b, by rw [gap_lo (by omega)]; exact hb, rfl, rfl, fun h => h, .inl rfl⟩
attribute [go_sem] gap_lo gap_hi0 gap_hi gap_next gap_addO gap_putO_lo gap_putO_hi gap_putO_hi0 gap_put_lo gap_put_hi gap_put_hi0
end Go.Proofs.Ytjdbknnacaacaaa
namespace Go.Proofs.Ytjdbknnacaacaaa
open Go Go.RowKit
set_option linter.unusedSimpArgs false
set_option linter.unusedVariables false
theorem wanted_n {o : Oper} {y : Nat → Option Bool} (hg : o.guard = none) : Region.wanted o y = true := by
  unfold Region.wanted; rw [hg]
theorem wanted_g {o : Oper} {ops : Array Oper} {tmps : List Value} {j d : Nat} {b b' : Bool} (hg : o.guard = some (j, b)) (hd : (ops[j]?).bind (·.dst) = some d) (hv : tmps[d]? = some (.bool b')) : Region.wanted o (yieldedL ops tmps) = (b' == b) := by
  unfold Region.wanted yieldedL
  rw [hg]
  simp only [hd, Option.bind_some, hv]
  cases b <;> cases b' <;> rfl
theorem wanted_u {o : Oper} {ops : Array Oper} {tmps : List Value} {j d : Nat} {b : Bool} (hg : o.guard = some (j, b)) (hd : (ops[j]?).bind (·.dst) = some d) (hv : tmps[d]? = some undef) : Region.wanted o (yieldedL ops tmps) = false := by
  unfold Region.wanted yieldedL
  rw [hg]
  simp only [hd, Option.bind_some, hv]
  cases b <;> rfl
section
variable {P : Program} {σ : Type} {X : Face P σ} {fn : Func} {A : Conf σ → Prop} {ops : Array Oper} {k : List Item} {i : Nat} {tmps : List Value} {h : AHeap} {S : σ} {o : Oper} {j d : Nat} {b b' : Bool}
theorem AtL.valn (ho : ops.toList[i]? = some o) (hg : o.guard = none) (hb : opOK o.op = true)
    (hk : ∀ K : List Value → AHeap → Prop, (∀ t h, At X fn A ops k (i + 1) t h S → K t h) → OpK K o tmps h (valA P (evA tmps) h o.op)) : At X fn A ops k i tmps h S := AtL.val ho (wanted_n hg) hb hk
theorem AtL.valg (ho : ops.toList[i]? = some o) (hg : o.guard = some (j, b)) (hd : (ops[j]?).bind (·.dst) = some d) (hv : tmps[d]? = some (.bool b')) (hw : (b' == b) = true) (hb : opOK o.op = true)
    (hk : ∀ K : List Value → AHeap → Prop, (∀ t h, At X fn A ops k (i + 1) t h S → K t h) → OpK K o tmps h (valA P (evA tmps) h o.op)) : At X fn A ops k i tmps h S := AtL.val ho ((wanted_g hg hd hv).trans hw) hb hk
theorem AtL.skipg (ho : ops.toList[i]? = some o) (hg : o.guard = some (j, b)) (hd : (ops[j]?).bind (·.dst) = some d) (hv : tmps[d]? = some (.bool b')) (hw : (b' == b) = false) (hk : At X fn A ops k (i + 1) (putL o.dst undef tmps) h S) : At X fn A ops k i tmps h S := AtL.skip ho ((wanted_g hg hd hv).trans hw) hk
theorem AtL.skipu (ho : ops.toList[i]? = some o) (hg : o.guard = some (j, b)) (hd : (ops[j]?).bind (·.dst) = some d) (hv : tmps[d]? = some undef) (hk : At X fn A ops k (i + 1) (putL o.dst undef tmps) h S) : At X fn A ops k i tmps h S := AtL.skip ho (wanted_u hg hd hv) hk
theorem AtL.newn (ho : ops.toList[i]? = some o) (hg : o.guard = none) (hb : opOK o.op = true) (hl : h.next < VB)
    (hk : ∀ K : List Value → AHeap → Prop, (∀ t h, At X fn A ops k (i + 1) t h S → K t h) → NewK K o tmps h (newA P (evA tmps) h h.next o.op)) : At X fn A ops k i tmps h S := AtL.new ho (wanted_n hg) hb hl hk
theorem AtL.storen (ho : ops.toList[i]? = some o) (hg : o.guard = none) (hb : opOK o.op = true)
    (hk : ∀ K : List Value → AHeap → Prop, (∀ t h, At X fn A ops k (i + 1) t h S → K t h) → StoreK K o tmps (storeOp P (evA tmps) h o.op)) : At X fn A ops k i tmps h S := AtL.store ho (wanted_n hg) hb hk
variable {W : List Nat} {n0 : Nat} {hf : AHeap} {Kf : List Value → AHeap → σ → Prop} {born : List (Nat × Nat)}
theorem RGL.valn (hl : h.Low) (ho : ops.toList[i]? = some o) (hg : o.guard = none) (hb : opOK o.op = true) (hq : wrB W i o = false)
    (hk : ∀ K : List Value → AHeap → Prop, (∀ t h, RGF X W ops n0 hf Kf (i + 1) t h S born → K t h) → OpK K o tmps h (valA P (evA tmps) (lowH n0 h) o.op)) (hnf : farB W i = false := by rfl) : RGF X W ops n0 hf Kf i tmps h S born := RGL.val hl ho (wanted_n hg) hb hq hk hnf
theorem RGL.valg (hl : h.Low) (ho : ops.toList[i]? = some o) (hg : o.guard = some (j, b)) (hd : (ops[j]?).bind (·.dst) = some d) (hv : tmps[d]? = some (.bool b')) (hw : (b' == b) = true) (hb : opOK o.op = true) (hq : wrB W i o = false)
    (hk : ∀ K : List Value → AHeap → Prop, (∀ t h, RGF X W ops n0 hf Kf (i + 1) t h S born → K t h) → OpK K o tmps h (valA P (evA tmps) (lowH n0 h) o.op)) (hnf : farB W i = false := by rfl) : RGF X W ops n0 hf Kf i tmps h S born := RGL.val hl ho ((wanted_g hg hd hv).trans hw) hb hq hk hnf
theorem RGL.skipg (ho : ops.toList[i]? = some o) (hg : o.guard = some (j, b)) (hd : (ops[j]?).bind (·.dst) = some d) (hv : tmps[d]? = some (.bool b')) (hw : (b' == b) = false) (hk : RGF X W ops n0 hf Kf (i + 1) (putL o.dst undef tmps) h S born) : RGF X W ops n0 hf Kf i tmps h S born := RGL.skip ho ((wanted_g hg hd hv).trans hw) hk
theorem RGL.skipu (ho : ops.toList[i]? = some o) (hg : o.guard = some (j, b)) (hd : (ops[j]?).bind (·.dst) = some d) (hv : tmps[d]? = some undef) (hk : RGF X W ops n0 hf Kf (i + 1) (putL o.dst undef tmps) h S born) : RGF X W ops n0 hf Kf i tmps h S born := RGL.skip ho (wanted_u hg hd hv) hk
theorem RGL.newn (hl : h.Low) (ho : ops.toList[i]? = some o) (hg : o.guard = none) (hb : opOK o.op = true) (hq : wrB W i o = false) (hn : h.next < VB) (hne : noEnd o.op = true)
    (hk : ∀ K : List Value → AHeap → Prop, (∀ t h', RGF X W ops n0 hf Kf (i + 1) t h' S ((i, h.next) :: born) → K t h') → NewK K o tmps h (newA P (evA tmps) (lowH n0 h) h.next o.op)) (hnf : farB W i = false := by rfl) : RGF X W ops n0 hf Kf i tmps h S born := RGL.new hl ho (wanted_n hg) hb hq hn hne hk hnf
theorem RGL.storen (ho : ops.toList[i]? = some o) (hg : o.guard = none) (hb : opOK o.op = true)
    (hk : ∀ K : List Value → AHeap → Prop, (∀ t h, RG X W ops n0 Kf (i + 1) t h S born → K t h) → StoreK K o tmps (storeOp P (evA tmps) h o.op)) (hnf : farB W i = false := by rfl) : RG X W ops n0 Kf i tmps h S born := RGL.store ho (wanted_n hg) hb hk hnf
end
theorem sz : (∀ l : List (Option Blk), (heapL l).next = l.length) ∧ (∀ (l : List (Option Blk)) (q : Nat) (l2 : List (Option Blk)), (heapJ l q l2).next = q + l2.length) ∧ (∀ (a : Option Blk) (l : List (Option Blk)), (a :: l).length = l.length + 1) ∧ ([] : List (Option Blk)).length = 0 ∧
    (∀ l l2 : List (Option Blk), (l ++ l2).length = l.length + l2.length) ∧ (∀ (a : Value) (l : List Value), (a :: l).length = l.length + 1) ∧ ([] : List Value).length = 0 ∧ (∀ l : List Value, l.toArray.size = l.length) ∧ (∀ N T : Nat, (geoC N T).toList.length = 22) :=
  ⟨heapL_next, gap_next, fun _ _ => rfl, rfl, fun _ _ => List.length_append, fun _ _ => rfl, rfl, fun _ => List.size_toArray, geo_len⟩
def vB : Op → Bool
  | .alloc _ | .box _ _ | .buildSlice _ _ _ | .makeSlice _ _ _ | .store _ _ _ => false
  | .call c => (match c.callee with | .builtin .append => false | .builtin _ => true | _ => false)
  | _ => true
def nB : Op → Bool
  | .alloc _ | .box _ _ | .buildSlice _ _ _ | .makeSlice _ _ _ => true
  | .call c => (match c.callee with | .builtin .append => true | _ => false)
  | _ => false
def tB : Op → Bool
  | .store _ _ _ => true
  | _ => false
section
variable {P : Program} {σ : Type} {X : Face P σ} {fn : Func} {A : Conf σ → Prop} {ops : Array Oper} {k : List Item} {i : Nat} {tmps : List Value} {h : AHeap} {S : σ} {o : Oper} {j d : Nat} {b b' : Bool}
theorem qv1 (ho : ops.toList[i]? = some o) (hg : o.guard = none) (_ : vB o.op = true) (hk : ∀ K : List Value → AHeap → Prop, (∀ t h, At X fn A ops k (i + 1) t h S → K t h) → OpK K o tmps h (valA P (evA tmps) h o.op)) (hb : opOK o.op = true := by rfl) : At X fn A ops k i tmps h S := AtL.valn ho hg hb hk
theorem qv2 (ho : ops.toList[i]? = some o) (hg : o.guard = some (j, b)) (hd : (ops[j]?).bind (·.dst) = some d) (hv : tmps[d]? = some (.bool b')) (hw : (b' == b) = true) (_ : vB o.op = true)
    (hk : ∀ K : List Value → AHeap → Prop, (∀ t h, At X fn A ops k (i + 1) t h S → K t h) → OpK K o tmps h (valA P (evA tmps) h o.op)) (hb : opOK o.op = true := by rfl) : At X fn A ops k i tmps h S := AtL.valg ho hg hd hv hw hb hk
theorem qn1 (ho : ops.toList[i]? = some o) (hg : o.guard = none) (_ : nB o.op = true)
    (hk : ∀ K : List Value → AHeap → Prop, (∀ t h, At X fn A ops k (i + 1) t h S → K t h) → NewK K o tmps h (newA P (evA tmps) h h.next o.op)) (hb : opOK o.op = true := by rfl) (hl : h.next < VB := by first | exact heapL_lim rfl | (exact gap_lim (by simp only [sz]; omega))) : At X fn A ops k i tmps h S := AtL.newn ho hg hb hl hk
theorem qt1 (ho : ops.toList[i]? = some o) (hg : o.guard = none) (_ : tB o.op = true)
    (hk : ∀ K : List Value → AHeap → Prop, (∀ t h, At X fn A ops k (i + 1) t h S → K t h) → StoreK K o tmps (storeOp P (evA tmps) h o.op)) (hb : opOK o.op = true := by rfl) : At X fn A ops k i tmps h S := AtL.storen ho hg hb hk
theorem qp1 (ho : ops.toList[i]? = some o) (hw : Region.wanted o (yieldedL ops tmps) = true)
    (hk : ∀ K : List Value → σ → Prop, (∀ t S', At X fn A ops k (i + 1) t h S' → K t S') → CallK (fun f args => fnOK P f = true ∧ ∃ v S', X.prim f args S v S' ∧ K (putL o.dst v tmps) S') (callA P (evA tmps) o.op)) (hb : opOK o.op = true := by rfl) : At X fn A ops k i tmps h S := At.prim2 ho hw hb hk
theorem qc1 (ho : ops.toList[i]? = some o) (hw : Region.wanted o (yieldedL ops tmps) = true)
    (hk : ∀ K : List Value → σ → Prop, (∀ t S', At X fn A ops k (i + 1) t h S' → K t S') → CallK (fun f args => ∃ v S', Does X f args [] S v S' ∧ K (putL o.dst v tmps) S') (callA P (evA tmps) o.op)) (hb : opOK o.op = true := by rfl) : At X fn A ops k i tmps h S := At.call2 ho hw hb hk
variable {W : List Nat} {n0 : Nat} {hf : AHeap} {Kf : List Value → AHeap → σ → Prop} {born : List (Nat × Nat)}
theorem qv3 (ho : ops.toList[i]? = some o) (hg : o.guard = none) (_ : vB o.op = true) (hk : ∀ K : List Value → AHeap → Prop, (∀ t h, RGF X W ops n0 hf Kf (i + 1) t h S born → K t h) → OpK K o tmps h (valA P (evA tmps) (lowH n0 h) o.op))
    (hb : opOK o.op = true := by rfl) (hq : wrB W i o = false := by rfl) (hl : h.Low := by first | exact heapL_low _ | exact gap_low _ _ _) (hnf : farB W i = false := by rfl) : RGF X W ops n0 hf Kf i tmps h S born := RGL.valn hl ho hg hb hq hk hnf
theorem qv4 (ho : ops.toList[i]? = some o) (hg : o.guard = some (j, b)) (hd : (ops[j]?).bind (·.dst) = some d) (hv : tmps[d]? = some (.bool b')) (hw : (b' == b) = true) (_ : vB o.op = true)
    (hk : ∀ K : List Value → AHeap → Prop, (∀ t h, RGF X W ops n0 hf Kf (i + 1) t h S born → K t h) → OpK K o tmps h (valA P (evA tmps) (lowH n0 h) o.op))
    (hb : opOK o.op = true := by rfl) (hq : wrB W i o = false := by rfl) (hl : h.Low := by first | exact heapL_low _ | exact gap_low _ _ _) (hnf : farB W i = false := by rfl) : RGF X W ops n0 hf Kf i tmps h S born := RGL.valg hl ho hg hd hv hw hb hq hk hnf
theorem qn3 (ho : ops.toList[i]? = some o) (hg : o.guard = none) (_ : nB o.op = true)
    (hk : ∀ K : List Value → AHeap → Prop, (∀ t h', RGF X W ops n0 hf Kf (i + 1) t h' S ((i, h.next) :: born) → K t h') → NewK K o tmps h (newA P (evA tmps) (lowH n0 h) h.next o.op))
    (hb : opOK o.op = true := by rfl) (hq : wrB W i o = false := by rfl) (hl : h.Low := by first | exact heapL_low _ | exact gap_low _ _ _) (hn : h.next < VB := by first | exact heapL_lim rfl | (exact gap_lim (by simp only [sz]; omega))) (hne : noEnd o.op = true := by rfl) (hnf : farB W i = false := by rfl) : RGF X W ops n0 hf Kf i tmps h S born := RGL.newn hl ho hg hb hq hn hne hk hnf
theorem qt3 (ho : ops.toList[i]? = some o) (hg : o.guard = none) (_ : tB o.op = true)
    (hk : ∀ K : List Value → AHeap → Prop, (∀ t h, RG X W ops n0 Kf (i + 1) t h S born → K t h) → StoreK K o tmps (storeOp P (evA tmps) h o.op)) (hb : opOK o.op = true := by rfl) (hnf : farB W i = false := by rfl) : RG X W ops n0 Kf i tmps h S born := RGL.storen ho hg hb hk hnf
theorem qp3 (ho : ops.toList[i]? = some o) (hw : Region.wanted o (yieldedL ops tmps) = true)
    (hk : ∀ K : List Value → σ → Prop, (∀ t S', RGF X W ops n0 hf Kf (i + 1) t h S' born → K t S') → CallK (fun f args => fnOK P f = true ∧ ∃ v S', X.prim f args S v S' ∧ K (putL o.dst v tmps) S') (callA P (evA tmps) o.op))
    (hb : opOK o.op = true := by rfl) (hq : wrB W i o = false := by rfl) (hl : h.Low := by first | exact heapL_low _ | exact gap_low _ _ _) (hnf : farB W i = false := by rfl) : RGF X W ops n0 hf Kf i tmps h S born := RG.prim2 hl ho hw hb hq hk hnf
theorem qc3 (ho : ops.toList[i]? = some o) (hw : Region.wanted o (yieldedL ops tmps) = true)
    (hk : ∀ K : List Value → σ → Prop, (∀ t S', RGF X W ops n0 hf Kf (i + 1) t h S' born → K t S') → CallK (fun f args => ∃ v S', Does X f args [] S v S' ∧ K (putL o.dst v tmps) S') (callA P (evA tmps) o.op))
    (hb : opOK o.op = true := by rfl) (hq : wrB W i o = false := by rfl) (hl : h.Low := by first | exact heapL_low _ | exact gap_low _ _ _) (hnf : farB W i = false := by rfl) : RGF X W ops n0 hf Kf i tmps h S born := RG.call2 hl ho hw hb hq hk hnf
end
theorem qpu {f : FuncId} {args : Array Value} {v : Value} {S : St} (h : ∀ w, Calls Try.prog f args w (Ret v (Ext [] w))) (ha : args.all plainB = true := by first | rfl | (simp [plainB]; done) | simp [plainB, geoC]) (hv : plainB v = true := by first | rfl | (simp [plainB]; done) | simp [plainB, geoC]) : Prim f args S v S := .pure h ha hv
structure Hold (p : Prop) : Prop where
  out : p
theorem via {G G' : Prop} (k : G') (h : Hold G' → G := by (intro hk0; (repeat (first | refine Goes.reg ?_ | refine Goes.ctl2 rfl ?_ | ((first | refine qv1 rfl rfl rfl fun K hK => ?_ | refine qv3 rfl rfl rfl fun K hK => ?_ | refine qv2 rfl rfl rfl rfl rfl rfl fun K hK => ?_ | refine qv4 rfl rfl rfl rfl rfl rfl fun K hK => ?_ | refine qn1 rfl rfl rfl fun K hK => ?_ | refine qn3 rfl rfl rfl fun K hK => ?_ | refine qt1 rfl rfl rfl fun K hK => ?_ | refine qt3 rfl rfl rfl fun K hK => ?_); simp (disch := (first | omega | (simp only [sz] <;> omega) | fail)) only [go_sem]; with_reducible refine hK _ _ ?_; clear hK K) | refine At.nil rfl ?_ | refine RG.nil rfl ?_ | ((first | refine AtL.skipg rfl rfl rfl rfl rfl ?_ | refine RGL.skipg rfl rfl rfl rfl rfl ?_ | refine AtL.skipu rfl rfl rfl rfl ?_ | refine RGL.skipu rfl rfl rfl rfl ?_); simp only [putL, List.set_cons_zero, List.set_cons_succ]) | refine Goes.yes rfl ?_ | refine Goes.no rfl ?_ | refine Goes.drawR [] (by kernel_rfl) ?_)); exact hk0.out)) : G := h ⟨k⟩
theorem viaF {F G G' : Prop} (f : F) (k : G') (h : F → Hold G' → G := by (intro hF0 hk0; (repeat (first | refine Goes.reg ?_ | refine Goes.ctl2 rfl ?_ | ((first | refine qv1 rfl rfl rfl fun K hK => ?_ | refine qv3 rfl rfl rfl fun K hK => ?_ | refine qv2 rfl rfl rfl rfl rfl rfl fun K hK => ?_ | refine qv4 rfl rfl rfl rfl rfl rfl fun K hK => ?_ | refine qn1 rfl rfl rfl fun K hK => ?_ | refine qn3 rfl rfl rfl fun K hK => ?_ | refine qt1 rfl rfl rfl fun K hK => ?_ | refine qt3 rfl rfl rfl fun K hK => ?_); simp (disch := (first | omega | (simp only [sz] <;> omega) | fail)) only [go_sem, hF0]; with_reducible refine hK _ _ ?_; clear hK K) | refine At.nil rfl ?_ | refine RG.nil rfl ?_ | ((first | refine AtL.skipg rfl rfl rfl rfl rfl ?_ | refine RGL.skipg rfl rfl rfl rfl rfl ?_ | refine AtL.skipu rfl rfl rfl rfl ?_ | refine RGL.skipu rfl rfl rfl rfl ?_); simp only [putL, List.set_cons_zero, List.set_cons_succ]) | refine Goes.yes rfl ?_ | refine Goes.no rfl ?_ | refine Goes.drawR [] (by kernel_rfl) ?_)); exact hk0.out)) : G := h f ⟨k⟩
theorem viaL {G G' : Prop} (k : G') (h : Hold G' → G := by (intro hk0; (repeat (first | refine Goes.loop ?_ | refine Goes.inLoop ?_ | refine Goes.reg ?_ | refine Goes.ctl2 rfl ?_ | ((first | refine qv1 rfl rfl rfl fun K hK => ?_ | refine qv3 rfl rfl rfl fun K hK => ?_ | refine qv2 rfl rfl rfl rfl rfl rfl fun K hK => ?_ | refine qv4 rfl rfl rfl rfl rfl rfl fun K hK => ?_ | refine qn1 rfl rfl rfl fun K hK => ?_ | refine qn3 rfl rfl rfl fun K hK => ?_ | refine qt1 rfl rfl rfl fun K hK => ?_ | refine qt3 rfl rfl rfl fun K hK => ?_); simp (disch := (first | omega | (simp only [sz] <;> omega) | fail)) only [go_sem]; with_reducible refine hK _ _ ?_; clear hK K) | refine At.nil rfl ?_ | refine RG.nil rfl ?_ | ((first | refine AtL.skipg rfl rfl rfl rfl rfl ?_ | refine RGL.skipg rfl rfl rfl rfl rfl ?_ | refine AtL.skipu rfl rfl rfl rfl ?_ | refine RGL.skipu rfl rfl rfl rfl ?_); simp only [putL, List.set_cons_zero, List.set_cons_succ]) | refine Goes.yes rfl ?_ | refine Goes.no rfl ?_ | refine Goes.drawR [] (by kernel_rfl) ?_)); exact hk0.out)) : G := h ⟨k⟩
theorem viaLF {F G G' : Prop} (f : F) (k : G') (h : F → Hold G' → G := by (intro hF0 hk0; (repeat (first | refine Goes.loop ?_ | refine Goes.inLoop ?_ | refine Goes.reg ?_ | refine Goes.ctl2 rfl ?_ | ((first | refine qv1 rfl rfl rfl fun K hK => ?_ | refine qv3 rfl rfl rfl fun K hK => ?_ | refine qv2 rfl rfl rfl rfl rfl rfl fun K hK => ?_ | refine qv4 rfl rfl rfl rfl rfl rfl fun K hK => ?_ | refine qn1 rfl rfl rfl fun K hK => ?_ | refine qn3 rfl rfl rfl fun K hK => ?_ | refine qt1 rfl rfl rfl fun K hK => ?_ | refine qt3 rfl rfl rfl fun K hK => ?_); simp (disch := (first | omega | (simp only [sz] <;> omega) | fail)) only [go_sem, hF0]; with_reducible refine hK _ _ ?_; clear hK K) | refine At.nil rfl ?_ | refine RG.nil rfl ?_ | ((first | refine AtL.skipg rfl rfl rfl rfl rfl ?_ | refine RGL.skipg rfl rfl rfl rfl rfl ?_ | refine AtL.skipu rfl rfl rfl rfl ?_ | refine RGL.skipu rfl rfl rfl rfl ?_); simp only [putL, List.set_cons_zero, List.set_cons_succ]) | refine Goes.yes rfl ?_ | refine Goes.no rfl ?_ | refine Goes.drawR [] (by kernel_rfl) ?_)); exact hk0.out)) : G := h f ⟨k⟩
theorem viaD {G G' : Prop} (k : G') (h : Hold G' → G := by (intro hk0; (repeat (first | refine Goes.reg ?_ | refine Goes.ctl2 rfl ?_ | ((first | refine qv1 rfl rfl rfl fun K hK => ?_ | refine qv3 rfl rfl rfl fun K hK => ?_ | refine qv2 rfl rfl rfl rfl rfl rfl fun K hK => ?_ | refine qv4 rfl rfl rfl rfl rfl rfl fun K hK => ?_ | refine qn1 rfl rfl rfl fun K hK => ?_ | refine qn3 rfl rfl rfl fun K hK => ?_ | refine qt1 rfl rfl rfl fun K hK => ?_ | refine qt3 rfl rfl rfl fun K hK => ?_); simp (disch := (first | omega | (simp only [sz] <;> omega) | fail)) only [go_sem]; with_reducible refine hK _ _ ?_; clear hK K) | refine At.nil rfl ?_ | refine RG.nil rfl ?_ | ((first | refine AtL.skipg rfl rfl rfl rfl rfl ?_ | refine RGL.skipg rfl rfl rfl rfl rfl ?_ | refine AtL.skipu rfl rfl rfl rfl ?_ | refine RGL.skipu rfl rfl rfl rfl ?_); simp only [putL, List.set_cons_zero, List.set_cons_succ]) | refine Goes.yes rfl ?_ | refine Goes.no rfl ?_)); exact hk0.out)) : G := h ⟨k⟩
theorem viaDF {F G G' : Prop} (f : F) (k : G') (h : F → Hold G' → G := by (intro hF0 hk0; (repeat (first | refine Goes.reg ?_ | refine Goes.ctl2 rfl ?_ | ((first | refine qv1 rfl rfl rfl fun K hK => ?_ | refine qv3 rfl rfl rfl fun K hK => ?_ | refine qv2 rfl rfl rfl rfl rfl rfl fun K hK => ?_ | refine qv4 rfl rfl rfl rfl rfl rfl fun K hK => ?_ | refine qn1 rfl rfl rfl fun K hK => ?_ | refine qn3 rfl rfl rfl fun K hK => ?_ | refine qt1 rfl rfl rfl fun K hK => ?_ | refine qt3 rfl rfl rfl fun K hK => ?_); simp (disch := (first | omega | (simp only [sz] <;> omega) | fail)) only [go_sem, hF0]; with_reducible refine hK _ _ ?_; clear hK K) | refine At.nil rfl ?_ | refine RG.nil rfl ?_ | ((first | refine AtL.skipg rfl rfl rfl rfl rfl ?_ | refine RGL.skipg rfl rfl rfl rfl rfl ?_ | refine AtL.skipu rfl rfl rfl rfl ?_ | refine RGL.skipu rfl rfl rfl rfl ?_); simp only [putL, List.set_cons_zero, List.set_cons_succ]) | refine Goes.yes rfl ?_ | refine Goes.no rfl ?_)); exact hk0.out)) : G := h f ⟨k⟩
end Go.Proofs.Ytjdbknnacaacaaa
