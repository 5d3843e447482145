/-
  Facts on the types and functions of this program, as the abstract machine asks them.
  No condition: closed facts.
-/
import Derived.Test.YtceddijolfpppaaAx13
namespace Go.Proofs.Ytceddijolfpppaa
open Go Go.RowKit
set_option linter.unusedSimpArgs false
set_option linter.unusedVariables false
theorem Try.eql7 (y : Operand) (a0 b0 : Int) (a1 b1 : Int) (a2 b2 : Bool) (a3 b3 : Int) : binOpA Try.prog .eql 7 y (.agg #[.int .i64 a0, .int .i64 a1, .bool a2, .int .u8 a3]) (.agg #[.int .i64 b0, .int .i64 b1, .bool b2, .int .u8 b3]) = some (.bool (a0 == b0 && (a1 == b1 && (a2 == b2 && (a3 == b3 && true))))) := by kernel_rfl
theorem Try.neq7 (y : Operand) (a0 b0 : Int) (a1 b1 : Int) (a2 b2 : Bool) (a3 b3 : Int) : binOpA Try.prog .neq 7 y (.agg #[.int .i64 a0, .int .i64 a1, .bool a2, .int .u8 a3]) (.agg #[.int .i64 b0, .int .i64 b1, .bool b2, .int .u8 b3]) = some (.bool !(a0 == b0 && (a1 == b1 && (a2 == b2 && (a3 == b3 && true))))) := by kernel_rfl
theorem Try.eql8 (y : Operand) (a0 b0 : Int) (a1 b1 : Int) (a2 b2 : Bool) (a3 b3 : Int) : binOpA Try.prog .eql 8 y (.agg #[.int .i64 a0, .int .i64 a1, .bool a2, .int .u8 a3]) (.agg #[.int .i64 b0, .int .i64 b1, .bool b2, .int .u8 b3]) = some (.bool (a0 == b0 && (a1 == b1 && (a2 == b2 && (a3 == b3 && true))))) := by kernel_rfl
theorem Try.neq8 (y : Operand) (a0 b0 : Int) (a1 b1 : Int) (a2 b2 : Bool) (a3 b3 : Int) : binOpA Try.prog .neq 8 y (.agg #[.int .i64 a0, .int .i64 a1, .bool a2, .int .u8 a3]) (.agg #[.int .i64 b0, .int .i64 b1, .bool b2, .int .u8 b3]) = some (.bool !(a0 == b0 && (a1 == b1 && (a2 == b2 && (a3 == b3 && true))))) := by kernel_rfl
theorem Try.eql37 (y : Operand) (a0 b0 : Int) (a1 b1 : Int) (a2 b2 : Int) (a3 b3 : Int) : binOpA Try.prog .eql 37 y (.agg #[.int .i64 a0, .int .i64 a1, .int .i64 a2, .int .u32 a3]) (.agg #[.int .i64 b0, .int .i64 b1, .int .i64 b2, .int .u32 b3]) = some (.bool (a0 == b0 && (a1 == b1 && (a2 == b2 && (a3 == b3 && true))))) := by kernel_rfl
theorem Try.neq37 (y : Operand) (a0 b0 : Int) (a1 b1 : Int) (a2 b2 : Int) (a3 b3 : Int) : binOpA Try.prog .neq 37 y (.agg #[.int .i64 a0, .int .i64 a1, .int .i64 a2, .int .u32 a3]) (.agg #[.int .i64 b0, .int .i64 b1, .int .i64 b2, .int .u32 b3]) = some (.bool !(a0 == b0 && (a1 == b1 && (a2 == b2 && (a3 == b3 && true))))) := by kernel_rfl
theorem Try.eql38 (y : Operand) (a0 b0 : Int) (a1 b1 : Int) (a2 b2 : Int) (a3 b3 : Int) : binOpA Try.prog .eql 38 y (.agg #[.int .i64 a0, .int .i64 a1, .int .i64 a2, .int .u32 a3]) (.agg #[.int .i64 b0, .int .i64 b1, .int .i64 b2, .int .u32 b3]) = some (.bool (a0 == b0 && (a1 == b1 && (a2 == b2 && (a3 == b3 && true))))) := by kernel_rfl
theorem Try.neq38 (y : Operand) (a0 b0 : Int) (a1 b1 : Int) (a2 b2 : Int) (a3 b3 : Int) : binOpA Try.prog .neq 38 y (.agg #[.int .i64 a0, .int .i64 a1, .int .i64 a2, .int .u32 a3]) (.agg #[.int .i64 b0, .int .i64 b1, .int .i64 b2, .int .u32 b3]) = some (.bool !(a0 == b0 && (a1 == b1 && (a2 == b2 && (a3 == b3 && true))))) := by kernel_rfl
theorem Try.eql57 (y : Operand) (a0 b0 : Int) (a1 b1 : Int) (a2 b2 : Int) : binOpA Try.prog .eql 57 y (.agg #[.int .u8 a0, .int .i16 a1, .int .i16 a2]) (.agg #[.int .u8 b0, .int .i16 b1, .int .i16 b2]) = some (.bool (a0 == b0 && (a1 == b1 && (a2 == b2 && true)))) := by kernel_rfl
theorem Try.neq57 (y : Operand) (a0 b0 : Int) (a1 b1 : Int) (a2 b2 : Int) : binOpA Try.prog .neq 57 y (.agg #[.int .u8 a0, .int .i16 a1, .int .i16 a2]) (.agg #[.int .u8 b0, .int .i16 b1, .int .i16 b2]) = some (.bool !(a0 == b0 && (a1 == b1 && (a2 == b2 && true)))) := by kernel_rfl
theorem Try.eql58 (y : Operand) (a0 b0 : Int) (a1 b1 : Int) (a2 b2 : Int) : binOpA Try.prog .eql 58 y (.agg #[.int .u8 a0, .int .i16 a1, .int .i16 a2]) (.agg #[.int .u8 b0, .int .i16 b1, .int .i16 b2]) = some (.bool (a0 == b0 && (a1 == b1 && (a2 == b2 && true)))) := by kernel_rfl
theorem Try.neq58 (y : Operand) (a0 b0 : Int) (a1 b1 : Int) (a2 b2 : Int) : binOpA Try.prog .neq 58 y (.agg #[.int .u8 a0, .int .i16 a1, .int .i16 a2]) (.agg #[.int .u8 b0, .int .i16 b1, .int .i16 b2]) = some (.bool !(a0 == b0 && (a1 == b1 && (a2 == b2 && true)))) := by kernel_rfl
theorem Try.eql62 (y : Operand) (a0 b0 : Int) (a1 b1 : Int) : binOpA Try.prog .eql 62 y (.agg #[.int .i64 a0, .int .i64 a1]) (.agg #[.int .i64 b0, .int .i64 b1]) = some (.bool (a0 == b0 && (a1 == b1 && true))) := by kernel_rfl
theorem Try.neq62 (y : Operand) (a0 b0 : Int) (a1 b1 : Int) : binOpA Try.prog .neq 62 y (.agg #[.int .i64 a0, .int .i64 a1]) (.agg #[.int .i64 b0, .int .i64 b1]) = some (.bool !(a0 == b0 && (a1 == b1 && true))) := by kernel_rfl
theorem Try.eql63 (y : Operand) (a0 b0 : Int) (a1 b1 : Int) : binOpA Try.prog .eql 63 y (.agg #[.int .i64 a0, .int .i64 a1]) (.agg #[.int .i64 b0, .int .i64 b1]) = some (.bool (a0 == b0 && (a1 == b1 && true))) := by kernel_rfl
theorem Try.neq63 (y : Operand) (a0 b0 : Int) (a1 b1 : Int) : binOpA Try.prog .neq 63 y (.agg #[.int .i64 a0, .int .i64 a1]) (.agg #[.int .i64 b0, .int .i64 b1]) = some (.bool !(a0 == b0 && (a1 == b1 && true))) := by kernel_rfl
theorem Try.eql75 (y : Operand) (a0 b0 : Int) (a1 b1 : Int) (a2 b2 : Int) (a3 b3 : Int) : binOpA Try.prog .eql 75 y (.agg #[.int .u8 a0, .int .u8 a1, .int .i64 a2, .int .i64 a3]) (.agg #[.int .u8 b0, .int .u8 b1, .int .i64 b2, .int .i64 b3]) = some (.bool (a0 == b0 && (a1 == b1 && (a2 == b2 && (a3 == b3 && true))))) := by kernel_rfl
theorem Try.neq75 (y : Operand) (a0 b0 : Int) (a1 b1 : Int) (a2 b2 : Int) (a3 b3 : Int) : binOpA Try.prog .neq 75 y (.agg #[.int .u8 a0, .int .u8 a1, .int .i64 a2, .int .i64 a3]) (.agg #[.int .u8 b0, .int .u8 b1, .int .i64 b2, .int .i64 b3]) = some (.bool !(a0 == b0 && (a1 == b1 && (a2 == b2 && (a3 == b3 && true))))) := by kernel_rfl
theorem Try.eql76 (y : Operand) (a0 b0 : Int) (a1 b1 : Int) (a2 b2 : Int) (a3 b3 : Int) : binOpA Try.prog .eql 76 y (.agg #[.int .u8 a0, .int .u8 a1, .int .i64 a2, .int .i64 a3]) (.agg #[.int .u8 b0, .int .u8 b1, .int .i64 b2, .int .i64 b3]) = some (.bool (a0 == b0 && (a1 == b1 && (a2 == b2 && (a3 == b3 && true))))) := by kernel_rfl
theorem Try.neq76 (y : Operand) (a0 b0 : Int) (a1 b1 : Int) (a2 b2 : Int) (a3 b3 : Int) : binOpA Try.prog .neq 76 y (.agg #[.int .u8 a0, .int .u8 a1, .int .i64 a2, .int .i64 a3]) (.agg #[.int .u8 b0, .int .u8 b1, .int .i64 b2, .int .i64 b3]) = some (.bool !(a0 == b0 && (a1 == b1 && (a2 == b2 && (a3 == b3 && true))))) := by kernel_rfl
theorem Try.eql77 (y : Operand) (a0 b0 : Int) (a1 b1 : Bool) (a2 b2 : Int) : binOpA Try.prog .eql 77 y (.agg #[.int .i64 a0, .bool a1, .int .u32 a2]) (.agg #[.int .i64 b0, .bool b1, .int .u32 b2]) = some (.bool (a0 == b0 && (a1 == b1 && (a2 == b2 && true)))) := by kernel_rfl
theorem Try.neq77 (y : Operand) (a0 b0 : Int) (a1 b1 : Bool) (a2 b2 : Int) : binOpA Try.prog .neq 77 y (.agg #[.int .i64 a0, .bool a1, .int .u32 a2]) (.agg #[.int .i64 b0, .bool b1, .int .u32 b2]) = some (.bool !(a0 == b0 && (a1 == b1 && (a2 == b2 && true)))) := by kernel_rfl
theorem Try.eql78 (y : Operand) (a0 b0 : Int) (a1 b1 : Bool) (a2 b2 : Int) : binOpA Try.prog .eql 78 y (.agg #[.int .i64 a0, .bool a1, .int .u32 a2]) (.agg #[.int .i64 b0, .bool b1, .int .u32 b2]) = some (.bool (a0 == b0 && (a1 == b1 && (a2 == b2 && true)))) := by kernel_rfl
theorem Try.neq78 (y : Operand) (a0 b0 : Int) (a1 b1 : Bool) (a2 b2 : Int) : binOpA Try.prog .neq 78 y (.agg #[.int .i64 a0, .bool a1, .int .u32 a2]) (.agg #[.int .i64 b0, .bool b1, .int .u32 b2]) = some (.bool !(a0 == b0 && (a1 == b1 && (a2 == b2 && true)))) := by kernel_rfl
theorem Try.eql93 (y : Operand) (a0 b0 : Int) (a1 b1 : Int) (a2 b2 : Int) (a3 b3 : Int) : binOpA Try.prog .eql 93 y (.agg #[.int .i64 a0, .int .i64 a1, .int .i64 a2, .int .i64 a3]) (.agg #[.int .i64 b0, .int .i64 b1, .int .i64 b2, .int .i64 b3]) = some (.bool (a0 == b0 && (a1 == b1 && (a2 == b2 && (a3 == b3 && true))))) := by kernel_rfl
theorem Try.neq93 (y : Operand) (a0 b0 : Int) (a1 b1 : Int) (a2 b2 : Int) (a3 b3 : Int) : binOpA Try.prog .neq 93 y (.agg #[.int .i64 a0, .int .i64 a1, .int .i64 a2, .int .i64 a3]) (.agg #[.int .i64 b0, .int .i64 b1, .int .i64 b2, .int .i64 b3]) = some (.bool !(a0 == b0 && (a1 == b1 && (a2 == b2 && (a3 == b3 && true))))) := by kernel_rfl
theorem Try.eql94 (y : Operand) (a0 b0 : Int) (a1 b1 : Int) (a2 b2 : Int) (a3 b3 : Int) : binOpA Try.prog .eql 94 y (.agg #[.int .i64 a0, .int .i64 a1, .int .i64 a2, .int .i64 a3]) (.agg #[.int .i64 b0, .int .i64 b1, .int .i64 b2, .int .i64 b3]) = some (.bool (a0 == b0 && (a1 == b1 && (a2 == b2 && (a3 == b3 && true))))) := by kernel_rfl
theorem Try.neq94 (y : Operand) (a0 b0 : Int) (a1 b1 : Int) (a2 b2 : Int) (a3 b3 : Int) : binOpA Try.prog .neq 94 y (.agg #[.int .i64 a0, .int .i64 a1, .int .i64 a2, .int .i64 a3]) (.agg #[.int .i64 b0, .int .i64 b1, .int .i64 b2, .int .i64 b3]) = some (.bool !(a0 == b0 && (a1 == b1 && (a2 == b2 && (a3 == b3 && true))))) := by kernel_rfl
theorem Try.eql105 (y : Operand) (a0 b0 : Int) (a1 b1 : Int) (a2 b2 : Int) : binOpA Try.prog .eql 105 y (.agg #[.int .i64 a0, .int .i64 a1, .int .i64 a2]) (.agg #[.int .i64 b0, .int .i64 b1, .int .i64 b2]) = some (.bool (a0 == b0 && (a1 == b1 && (a2 == b2 && true)))) := by kernel_rfl
theorem Try.neq105 (y : Operand) (a0 b0 : Int) (a1 b1 : Int) (a2 b2 : Int) : binOpA Try.prog .neq 105 y (.agg #[.int .i64 a0, .int .i64 a1, .int .i64 a2]) (.agg #[.int .i64 b0, .int .i64 b1, .int .i64 b2]) = some (.bool !(a0 == b0 && (a1 == b1 && (a2 == b2 && true)))) := by kernel_rfl
theorem Try.eql106 (y : Operand) (a0 b0 : Int) (a1 b1 : Int) (a2 b2 : Int) : binOpA Try.prog .eql 106 y (.agg #[.int .i64 a0, .int .i64 a1, .int .i64 a2]) (.agg #[.int .i64 b0, .int .i64 b1, .int .i64 b2]) = some (.bool (a0 == b0 && (a1 == b1 && (a2 == b2 && true)))) := by kernel_rfl
theorem Try.neq106 (y : Operand) (a0 b0 : Int) (a1 b1 : Int) (a2 b2 : Int) : binOpA Try.prog .neq 106 y (.agg #[.int .i64 a0, .int .i64 a1, .int .i64 a2]) (.agg #[.int .i64 b0, .int .i64 b1, .int .i64 b2]) = some (.bool !(a0 == b0 && (a1 == b1 && (a2 == b2 && true)))) := by kernel_rfl
theorem Try.eql109 (y : Operand) (a0 b0 : Int) (a1 b1 : Int) (a2 b2 : Int) (a3 b3 : Int) (a4 b4 : Int) : binOpA Try.prog .eql 109 y (.agg #[.int .u64 a0, .int .u64 a1, .int .u64 a2, .int .u64 a3, .int .u64 a4]) (.agg #[.int .u64 b0, .int .u64 b1, .int .u64 b2, .int .u64 b3, .int .u64 b4]) = some (.bool (a0 == b0 && (a1 == b1 && (a2 == b2 && (a3 == b3 && (a4 == b4 && true)))))) := by kernel_rfl
theorem Try.neq109 (y : Operand) (a0 b0 : Int) (a1 b1 : Int) (a2 b2 : Int) (a3 b3 : Int) (a4 b4 : Int) : binOpA Try.prog .neq 109 y (.agg #[.int .u64 a0, .int .u64 a1, .int .u64 a2, .int .u64 a3, .int .u64 a4]) (.agg #[.int .u64 b0, .int .u64 b1, .int .u64 b2, .int .u64 b3, .int .u64 b4]) = some (.bool !(a0 == b0 && (a1 == b1 && (a2 == b2 && (a3 == b3 && (a4 == b4 && true)))))) := by kernel_rfl
theorem Try.eql110 (y : Operand) (a0 b0 : Int) (a1 b1 : Int) (a2 b2 : Int) (a3 b3 : Int) (a4 b4 : Int) : binOpA Try.prog .eql 110 y (.agg #[.int .u64 a0, .int .u64 a1, .int .u64 a2, .int .u64 a3, .int .u64 a4]) (.agg #[.int .u64 b0, .int .u64 b1, .int .u64 b2, .int .u64 b3, .int .u64 b4]) = some (.bool (a0 == b0 && (a1 == b1 && (a2 == b2 && (a3 == b3 && (a4 == b4 && true)))))) := by kernel_rfl
theorem Try.neq110 (y : Operand) (a0 b0 : Int) (a1 b1 : Int) (a2 b2 : Int) (a3 b3 : Int) (a4 b4 : Int) : binOpA Try.prog .neq 110 y (.agg #[.int .u64 a0, .int .u64 a1, .int .u64 a2, .int .u64 a3, .int .u64 a4]) (.agg #[.int .u64 b0, .int .u64 b1, .int .u64 b2, .int .u64 b3, .int .u64 b4]) = some (.bool !(a0 == b0 && (a1 == b1 && (a2 == b2 && (a3 == b3 && (a4 == b4 && true)))))) := by kernel_rfl
theorem Try.eql124 (y : Operand) (a0 b0 : Int) (a1 b1 : Int) (a2 b2 : Int) (a3 b3 : Int) : binOpA Try.prog .eql 124 y (.agg #[.int .u8 a0, .int .i64 a1, .int .u64 a2, .int .u64 a3]) (.agg #[.int .u8 b0, .int .i64 b1, .int .u64 b2, .int .u64 b3]) = some (.bool (a0 == b0 && (a1 == b1 && (a2 == b2 && (a3 == b3 && true))))) := by kernel_rfl
theorem Try.neq124 (y : Operand) (a0 b0 : Int) (a1 b1 : Int) (a2 b2 : Int) (a3 b3 : Int) : binOpA Try.prog .neq 124 y (.agg #[.int .u8 a0, .int .i64 a1, .int .u64 a2, .int .u64 a3]) (.agg #[.int .u8 b0, .int .i64 b1, .int .u64 b2, .int .u64 b3]) = some (.bool !(a0 == b0 && (a1 == b1 && (a2 == b2 && (a3 == b3 && true))))) := by kernel_rfl
theorem Try.eql125 (y : Operand) (a0 b0 : Int) (a1 b1 : Int) (a2 b2 : Int) (a3 b3 : Int) : binOpA Try.prog .eql 125 y (.agg #[.int .u8 a0, .int .i64 a1, .int .u64 a2, .int .u64 a3]) (.agg #[.int .u8 b0, .int .i64 b1, .int .u64 b2, .int .u64 b3]) = some (.bool (a0 == b0 && (a1 == b1 && (a2 == b2 && (a3 == b3 && true))))) := by kernel_rfl
theorem Try.neq125 (y : Operand) (a0 b0 : Int) (a1 b1 : Int) (a2 b2 : Int) (a3 b3 : Int) : binOpA Try.prog .neq 125 y (.agg #[.int .u8 a0, .int .i64 a1, .int .u64 a2, .int .u64 a3]) (.agg #[.int .u8 b0, .int .i64 b1, .int .u64 b2, .int .u64 b3]) = some (.bool !(a0 == b0 && (a1 == b1 && (a2 == b2 && (a3 == b3 && true))))) := by kernel_rfl
theorem Try.eql153 (y : Operand) (a0 b0 : Int) (a1 b1 : Int) (a2 b2 : Int) : binOpA Try.prog .eql 153 y (.agg #[.int .i64 a0, .int .i64 a1, .int .i64 a2]) (.agg #[.int .i64 b0, .int .i64 b1, .int .i64 b2]) = some (.bool (a0 == b0 && (a1 == b1 && (a2 == b2 && true)))) := by kernel_rfl
theorem Try.neq153 (y : Operand) (a0 b0 : Int) (a1 b1 : Int) (a2 b2 : Int) : binOpA Try.prog .neq 153 y (.agg #[.int .i64 a0, .int .i64 a1, .int .i64 a2]) (.agg #[.int .i64 b0, .int .i64 b1, .int .i64 b2]) = some (.bool !(a0 == b0 && (a1 == b1 && (a2 == b2 && true)))) := by kernel_rfl
theorem Try.eql154 (y : Operand) (a0 b0 : Int) (a1 b1 : Int) (a2 b2 : Int) : binOpA Try.prog .eql 154 y (.agg #[.int .i64 a0, .int .i64 a1, .int .i64 a2]) (.agg #[.int .i64 b0, .int .i64 b1, .int .i64 b2]) = some (.bool (a0 == b0 && (a1 == b1 && (a2 == b2 && true)))) := by kernel_rfl
theorem Try.neq154 (y : Operand) (a0 b0 : Int) (a1 b1 : Int) (a2 b2 : Int) : binOpA Try.prog .neq 154 y (.agg #[.int .i64 a0, .int .i64 a1, .int .i64 a2]) (.agg #[.int .i64 b0, .int .i64 b1, .int .i64 b2]) = some (.bool !(a0 == b0 && (a1 == b1 && (a2 == b2 && true)))) := by kernel_rfl
theorem Try.eql196 (y : Operand) (a0 b0 : Int) (a1 b1 : Int) (a2 b2 : Int) : binOpA Try.prog .eql 196 y (.agg #[.int .i64 a0, .int .i64 a1, .int .i64 a2]) (.agg #[.int .i64 b0, .int .i64 b1, .int .i64 b2]) = some (.bool (a0 == b0 && (a1 == b1 && (a2 == b2 && true)))) := by kernel_rfl
theorem Try.neq196 (y : Operand) (a0 b0 : Int) (a1 b1 : Int) (a2 b2 : Int) : binOpA Try.prog .neq 196 y (.agg #[.int .i64 a0, .int .i64 a1, .int .i64 a2]) (.agg #[.int .i64 b0, .int .i64 b1, .int .i64 b2]) = some (.bool !(a0 == b0 && (a1 == b1 && (a2 == b2 && true)))) := by kernel_rfl
theorem Try.eql197 (y : Operand) (a0 b0 : Int) (a1 b1 : Int) (a2 b2 : Int) : binOpA Try.prog .eql 197 y (.agg #[.int .i64 a0, .int .i64 a1, .int .i64 a2]) (.agg #[.int .i64 b0, .int .i64 b1, .int .i64 b2]) = some (.bool (a0 == b0 && (a1 == b1 && (a2 == b2 && true)))) := by kernel_rfl
theorem Try.neq197 (y : Operand) (a0 b0 : Int) (a1 b1 : Int) (a2 b2 : Int) : binOpA Try.prog .neq 197 y (.agg #[.int .i64 a0, .int .i64 a1, .int .i64 a2]) (.agg #[.int .i64 b0, .int .i64 b1, .int .i64 b2]) = some (.bool !(a0 == b0 && (a1 == b1 && (a2 == b2 && true)))) := by kernel_rfl
theorem Try.eql200 (y : Operand) (a0 b0 : Int) (a1 b1 : Bool) (a2 b2 : Int) (a3 b3 : Int) : binOpA Try.prog .eql 200 y (.agg #[.int .u8 a0, .bool a1, .int .i64 a2, .int .u32 a3]) (.agg #[.int .u8 b0, .bool b1, .int .i64 b2, .int .u32 b3]) = some (.bool (a0 == b0 && (a1 == b1 && (a2 == b2 && (a3 == b3 && true))))) := by kernel_rfl
theorem Try.neq200 (y : Operand) (a0 b0 : Int) (a1 b1 : Bool) (a2 b2 : Int) (a3 b3 : Int) : binOpA Try.prog .neq 200 y (.agg #[.int .u8 a0, .bool a1, .int .i64 a2, .int .u32 a3]) (.agg #[.int .u8 b0, .bool b1, .int .i64 b2, .int .u32 b3]) = some (.bool !(a0 == b0 && (a1 == b1 && (a2 == b2 && (a3 == b3 && true))))) := by kernel_rfl
theorem Try.eql201 (y : Operand) (a0 b0 : Int) (a1 b1 : Bool) (a2 b2 : Int) (a3 b3 : Int) : binOpA Try.prog .eql 201 y (.agg #[.int .u8 a0, .bool a1, .int .i64 a2, .int .u32 a3]) (.agg #[.int .u8 b0, .bool b1, .int .i64 b2, .int .u32 b3]) = some (.bool (a0 == b0 && (a1 == b1 && (a2 == b2 && (a3 == b3 && true))))) := by kernel_rfl
theorem Try.neq201 (y : Operand) (a0 b0 : Int) (a1 b1 : Bool) (a2 b2 : Int) (a3 b3 : Int) : binOpA Try.prog .neq 201 y (.agg #[.int .u8 a0, .bool a1, .int .i64 a2, .int .u32 a3]) (.agg #[.int .u8 b0, .bool b1, .int .i64 b2, .int .u32 b3]) = some (.bool !(a0 == b0 && (a1 == b1 && (a2 == b2 && (a3 == b3 && true))))) := by kernel_rfl
theorem Try.ty0 :
  tyAgg Try.prog 2 = some false ∧
  tySize Try.prog 2 = some 1 ∧
  tyMk Try.prog 2 = true ∧
  tyBytes Try.prog 2 = some 8 ∧
  tyZero Try.prog 2 = some (.int .i64 0) ∧
  plainB (.int .i64 0) = true ∧
  tyAgg Try.prog 3 = some false ∧
  tySize Try.prog 3 = some 1 ∧
  tyMk Try.prog 3 = true ∧
  tyBytes Try.prog 3 = some 8 ∧
  tyZero Try.prog 3 = some (.int .i64 0) ∧
  tyAgg Try.prog 4 = some false ∧
  tySize Try.prog 4 = some 1 ∧
  tyMk Try.prog 4 = true ∧
  tyBool Try.prog 4 = true ∧
  tyBytes Try.prog 4 = some 1 ∧
  tyZero Try.prog 4 = some (.bool false) ∧
  plainB (.bool false) = true ∧
  tyAgg Try.prog 5 = some false ∧
  tySize Try.prog 5 = some 1 ∧
  tyMk Try.prog 5 = true ∧
  tyBytes Try.prog 5 = some 1 ∧
  tyZero Try.prog 5 = some (.int .u8 0) ∧
  plainB (.int .u8 0) = true := by (repeat' apply And.intro) <;> kernel_rfl
theorem Try.ty1 :
  tyAgg Try.prog 6 = some false ∧
  tySize Try.prog 6 = some 1 ∧
  tyMk Try.prog 6 = true ∧
  tyBytes Try.prog 6 = some 1 ∧
  tyZero Try.prog 6 = some (.int .u8 0) ∧
  tyAgg Try.prog 7 = some true ∧
  tySize Try.prog 7 = some 4 ∧
  tyField Try.prog 7 0 = some (0, 2) ∧
  tyField Try.prog 7 1 = some (1, 3) ∧
  tyField Try.prog 7 2 = some (2, 4) ∧
  tyField Try.prog 7 3 = some (3, 6) ∧
  (tyPlace Try.prog 7 = some fun i => ([(0, 1), (1, 1), (2, 1), (3, 1)] : List (Nat × Nat))[i]?) ∧
  tyMk Try.prog 7 = true ∧
  tyBytes Try.prog 7 = some 24 ∧
  tyZero Try.prog 7 = some (.agg #[.int .i64 0, .int .i64 0, .bool false, .int .u8 0]) ∧
  plainB (.agg #[.int .i64 0, .int .i64 0, .bool false, .int .u8 0]) = true ∧
  tyAgg Try.prog 8 = some true ∧
  tySize Try.prog 8 = some 4 ∧
  tyField Try.prog 8 0 = some (0, 2) ∧
  tyField Try.prog 8 1 = some (1, 3) ∧
  tyField Try.prog 8 2 = some (2, 4) ∧
  tyField Try.prog 8 3 = some (3, 6) ∧
  (tyPlace Try.prog 8 = some fun i => ([(0, 1), (1, 1), (2, 1), (3, 1)] : List (Nat × Nat))[i]?) ∧
  tyMk Try.prog 8 = true := by (repeat' apply And.intro) <;> kernel_rfl
theorem Try.ty2 :
  tyBytes Try.prog 8 = some 24 ∧
  tyZero Try.prog 8 = some (.agg #[.int .i64 0, .int .i64 0, .bool false, .int .u8 0]) ∧
  tyAgg Try.prog 9 = some false ∧
  tySize Try.prog 9 = some 1 ∧
  tyMk Try.prog 9 = true ∧
  tyBytes Try.prog 9 = some 16 ∧
  tyZero Try.prog 9 = some (.string ⟨#[]⟩) ∧
  plainB (.string ⟨#[]⟩) = true ∧
  tyAgg Try.prog 10 = some false ∧
  tySize Try.prog 10 = some 1 ∧
  tyBytes Try.prog 10 = some 16 ∧
  tyZero Try.prog 10 = some (.string ⟨#[]⟩) ∧
  tyAgg Try.prog 11 = some false ∧
  tySize Try.prog 11 = some 1 ∧
  tyBytes Try.prog 11 = some 16 ∧
  tyZero Try.prog 11 = some (.string ⟨#[]⟩) ∧
  tyAgg Try.prog 12 = some false ∧
  tySize Try.prog 12 = some 1 ∧
  tyMk Try.prog 12 = true ∧
  tyBytes Try.prog 12 = some 8 ∧
  tyZero Try.prog 12 = some (.int .u64 0) ∧
  plainB (.int .u64 0) = true ∧
  tyAgg Try.prog 13 = some true ∧
  tySize Try.prog 13 = some 2 := by (repeat' apply And.intro) <;> kernel_rfl
theorem Try.ty3 :
  tyField Try.prog 13 0 = some (0, 9) ∧
  tyField Try.prog 13 1 = some (1, 12) ∧
  (tyPlace Try.prog 13 = some fun i => ([(0, 1), (1, 1)] : List (Nat × Nat))[i]?) ∧
  tyMk Try.prog 13 = true ∧
  tyBytes Try.prog 13 = some 24 ∧
  tyZero Try.prog 13 = some (.agg #[.string ⟨#[]⟩, .int .u64 0]) ∧
  plainB (.agg #[.string ⟨#[]⟩, .int .u64 0]) = true ∧
  tyAgg Try.prog 14 = some true ∧
  tySize Try.prog 14 = some 2 ∧
  tyField Try.prog 14 0 = some (0, 9) ∧
  tyField Try.prog 14 1 = some (1, 12) ∧
  (tyPlace Try.prog 14 = some fun i => ([(0, 1), (1, 1)] : List (Nat × Nat))[i]?) ∧
  tyMk Try.prog 14 = true ∧
  tyBytes Try.prog 14 = some 24 ∧
  tyZero Try.prog 14 = some (.agg #[.string ⟨#[]⟩, .int .u64 0]) ∧
  tyAgg Try.prog 15 = some false ∧
  tySize Try.prog 15 = some 1 ∧
  tyMk Try.prog 15 = true ∧
  tyPtr Try.prog 15 = true ∧
  tyBytes Try.prog 15 = some 8 ∧
  tyZero Try.prog 15 = some (.pointer none) ∧
  plainB (.pointer none) = true ∧
  methA Try.prog 15 "Error" = some 166 ∧
  methA Try.prog 15 "RuntimeError" = some 167 := by (repeat' apply And.intro) <;> kernel_rfl
theorem Try.ty4 :
  tyAgg Try.prog 16 = some false ∧
  tySize Try.prog 16 = some 1 ∧
  tyMk Try.prog 16 = true ∧
  tyPtr Try.prog 16 = true ∧
  tyBytes Try.prog 16 = some 8 ∧
  tyZero Try.prog 16 = some (.pointer none) ∧
  methA Try.prog 16 "Error" = some 168 ∧
  methA Try.prog 16 "RuntimeError" = some 169 ∧
  tyAgg Try.prog 17 = some false ∧
  tySize Try.prog 17 = some 1 ∧
  tyMk Try.prog 17 = true ∧
  tyPtr Try.prog 17 = true ∧
  tyBytes Try.prog 17 = some 8 ∧
  tyZero Try.prog 17 = some (.pointer none) ∧
  methA Try.prog 17 "Align" = some 170 ∧
  tyAgg Try.prog 18 = some true ∧
  tySize Try.prog 18 = some 1 ∧
  tyField Try.prog 18 0 = some (0, 17) ∧
  (tyPlace Try.prog 18 = some fun i => ([(0, 1)] : List (Nat × Nat))[i]?) ∧
  tyMk Try.prog 18 = true ∧
  tyBytes Try.prog 18 = some 8 ∧
  tyZero Try.prog 18 = some (.agg #[.pointer none]) ∧
  plainB (.agg #[.pointer none]) = true ∧
  tyAgg Try.prog 19 = some true := by (repeat' apply And.intro) <;> kernel_rfl
theorem Try.ty5 :
  tySize Try.prog 19 = some 1 ∧
  tyField Try.prog 19 0 = some (0, 17) ∧
  (tyPlace Try.prog 19 = some fun i => ([(0, 1)] : List (Nat × Nat))[i]?) ∧
  tyMk Try.prog 19 = true ∧
  tyBytes Try.prog 19 = some 8 ∧
  tyZero Try.prog 19 = some (.agg #[.pointer none]) ∧
  tyAgg Try.prog 20 = some false ∧
  tySize Try.prog 20 = some 1 ∧
  tyIfc Try.prog 20 = true ∧
  tyBytes Try.prog 20 = some 16 ∧
  tyZero Try.prog 20 = some (.nilIface) ∧
  plainB (.nilIface) = true ∧
  tyAgg Try.prog 21 = some false ∧
  tySize Try.prog 21 = some 1 ∧
  tyMk Try.prog 21 = true ∧
  tyBytes Try.prog 21 = some 4 ∧
  tyZero Try.prog 21 = some (.int .i32 0) ∧
  plainB (.int .i32 0) = true ∧
  tyAgg Try.prog 22 = some false ∧
  tySize Try.prog 22 = some 1 ∧
  tySli Try.prog 22 = true ∧
  tyBytes Try.prog 22 = some 24 ∧
  tySlice Try.prog 22 = some 5 ∧
  tyZero Try.prog 22 = some (.slice none 0 0) := by (repeat' apply And.intro) <;> kernel_rfl
theorem Try.ty6 :
  plainB (.slice none 0 0) = true ∧
  tyAgg Try.prog 24 = some true ∧
  tySize Try.prog 24 = some 20 ∧
  (tyPlace Try.prog 24 = some fun i => some (i * 1, 1)) ∧
  tyBytes Try.prog 24 = some 160 ∧
  tyArray Try.prog 24 = some (20, 3) ∧
  tyZero Try.prog 24 = some (.agg #[.int .i64 0, .int .i64 0, .int .i64 0, .int .i64 0, .int .i64 0, .int .i64 0, .int .i64 0, .int .i64 0, .int .i64 0, .int .i64 0, .int .i64 0, .int .i64 0, .int .i64 0, .int .i64 0, .int .i64 0, .int .i64 0, .int .i64 0, .int .i64 0, .int .i64 0, .int .i64 0]) ∧
  plainB (.agg #[.int .i64 0, .int .i64 0, .int .i64 0, .int .i64 0, .int .i64 0, .int .i64 0, .int .i64 0, .int .i64 0, .int .i64 0, .int .i64 0, .int .i64 0, .int .i64 0, .int .i64 0, .int .i64 0, .int .i64 0, .int .i64 0, .int .i64 0, .int .i64 0, .int .i64 0, .int .i64 0]) = true ∧
  tyAgg Try.prog 25 = some true ∧
  tySize Try.prog 25 = some 22 ∧
  tyField Try.prog 25 0 = some (0, 3) ∧
  tyField Try.prog 25 1 = some (1, 3) ∧
  tyField Try.prog 25 2 = some (2, 24) ∧
  (tyPlace Try.prog 25 = some fun i => ([(0, 1), (1, 1), (2, 20)] : List (Nat × Nat))[i]?) ∧
  tyMk Try.prog 25 = true ∧
  tyBytes Try.prog 25 = some 176 ∧
  tyZero Try.prog 25 = some (.agg #[.int .i64 0, .int .i64 0, .int .i64 0, .int .i64 0, .int .i64 0, .int .i64 0, .int .i64 0, .int .i64 0, .int .i64 0, .int .i64 0, .int .i64 0, .int .i64 0, .int .i64 0, .int .i64 0, .int .i64 0, .int .i64 0, .int .i64 0, .int .i64 0, .int .i64 0, .int .i64 0, .int .i64 0, .int .i64 0]) ∧
  plainB (.agg #[.int .i64 0, .int .i64 0, .int .i64 0, .int .i64 0, .int .i64 0, .int .i64 0, .int .i64 0, .int .i64 0, .int .i64 0, .int .i64 0, .int .i64 0, .int .i64 0, .int .i64 0, .int .i64 0, .int .i64 0, .int .i64 0, .int .i64 0, .int .i64 0, .int .i64 0, .int .i64 0, .int .i64 0, .int .i64 0]) = true ∧
  tyAgg Try.prog 26 = some true ∧
  tySize Try.prog 26 = some 22 ∧
  tyField Try.prog 26 0 = some (0, 3) ∧
  tyField Try.prog 26 1 = some (1, 3) ∧
  tyField Try.prog 26 2 = some (2, 24) ∧
  (tyPlace Try.prog 26 = some fun i => ([(0, 1), (1, 1), (2, 20)] : List (Nat × Nat))[i]?) := by (repeat' apply And.intro) <;> kernel_rfl
theorem Try.ty7 :
  tyMk Try.prog 26 = true ∧
  tyBytes Try.prog 26 = some 176 ∧
  tyZero Try.prog 26 = some (.agg #[.int .i64 0, .int .i64 0, .int .i64 0, .int .i64 0, .int .i64 0, .int .i64 0, .int .i64 0, .int .i64 0, .int .i64 0, .int .i64 0, .int .i64 0, .int .i64 0, .int .i64 0, .int .i64 0, .int .i64 0, .int .i64 0, .int .i64 0, .int .i64 0, .int .i64 0, .int .i64 0, .int .i64 0, .int .i64 0]) ∧
  tyAgg Try.prog 29 = some false ∧
  tySize Try.prog 29 = some 1 ∧
  tyMk Try.prog 29 = true ∧
  tyPtr Try.prog 29 = true ∧
  tyBytes Try.prog 29 = some 8 ∧
  tyZero Try.prog 29 = some (.pointer none) ∧
  methA Try.prog 29 "Byte" = some 79 ∧
  methA Try.prog 29 "Bytes" = some 125 ∧
  methA Try.prog 29 "Copy" = some 70 ∧
  methA Try.prog 29 "Do" = some 85 ∧
  methA Try.prog 29 "Word" = some 30 ∧
  methA Try.prog 29 "Words" = some 124 ∧
  tyAgg Try.prog 32 = some false ∧
  tySize Try.prog 32 = some 1 ∧
  tyBytes Try.prog 32 = some 8 ∧
  tyAgg Try.prog 33 = some false ∧
  tySize Try.prog 33 = some 1 ∧
  tyMk Try.prog 33 = true ∧
  tyPtr Try.prog 33 = true ∧
  tyBytes Try.prog 33 = some 8 ∧
  tyZero Try.prog 33 = some (.pointer none) := by (repeat' apply And.intro) <;> kernel_rfl
theorem Try.ty8 :
  methA Try.prog 33 "Add" = some 173 ∧
  methA Try.prog 33 "CAS" = some 174 ∧
  methA Try.prog 33 "Fresh" = some 84 ∧
  methA Try.prog 33 "Get" = some 175 ∧
  methA Try.prog 33 "Load" = some 44 ∧
  methA Try.prog 33 "Put" = some 176 ∧
  methA Try.prog 33 "Self" = some 177 ∧
  methA Try.prog 33 "Steps" = some 29 ∧
  methA Try.prog 33 "Store" = some 52 ∧
  methA Try.prog 33 "Tell" = some 178 ∧
  methA Try.prog 33 "Told" = some 87 ∧
  tyAgg Try.prog 36 = some false ∧
  tySize Try.prog 36 = some 1 ∧
  tyMk Try.prog 36 = true ∧
  tyBytes Try.prog 36 = some 4 ∧
  tyZero Try.prog 36 = some (.int .u32 0) ∧
  plainB (.int .u32 0) = true ∧
  tyAgg Try.prog 37 = some true ∧
  tySize Try.prog 37 = some 4 ∧
  tyField Try.prog 37 0 = some (0, 3) ∧
  tyField Try.prog 37 1 = some (1, 3) ∧
  tyField Try.prog 37 2 = some (2, 3) ∧
  tyField Try.prog 37 3 = some (3, 36) ∧
  (tyPlace Try.prog 37 = some fun i => ([(0, 1), (1, 1), (2, 1), (3, 1)] : List (Nat × Nat))[i]?) := by (repeat' apply And.intro) <;> kernel_rfl
theorem Try.ty9 :
  tyMk Try.prog 37 = true ∧
  tyBytes Try.prog 37 = some 32 ∧
  tyZero Try.prog 37 = some (.agg #[.int .i64 0, .int .i64 0, .int .i64 0, .int .u32 0]) ∧
  plainB (.agg #[.int .i64 0, .int .i64 0, .int .i64 0, .int .u32 0]) = true ∧
  tyAgg Try.prog 38 = some true ∧
  tySize Try.prog 38 = some 4 ∧
  tyField Try.prog 38 0 = some (0, 3) ∧
  tyField Try.prog 38 1 = some (1, 3) ∧
  tyField Try.prog 38 2 = some (2, 3) ∧
  tyField Try.prog 38 3 = some (3, 36) ∧
  (tyPlace Try.prog 38 = some fun i => ([(0, 1), (1, 1), (2, 1), (3, 1)] : List (Nat × Nat))[i]?) ∧
  tyMk Try.prog 38 = true ∧
  tyBytes Try.prog 38 = some 32 ∧
  tyZero Try.prog 38 = some (.agg #[.int .i64 0, .int .i64 0, .int .i64 0, .int .u32 0]) ∧
  tyAgg Try.prog 39 = some true ∧
  tySize Try.prog 39 = some 6 ∧
  tyField Try.prog 39 0 = some (0, 38) ∧
  tyField Try.prog 39 1 = some (4, 4) ∧
  tyField Try.prog 39 2 = some (5, 3) ∧
  (tyPlace Try.prog 39 = some fun i => ([(0, 4), (4, 1), (5, 1)] : List (Nat × Nat))[i]?) ∧
  tyMk Try.prog 39 = true ∧
  tyBytes Try.prog 39 = some 48 ∧
  tyZero Try.prog 39 = some (.agg #[.int .i64 0, .int .i64 0, .int .i64 0, .int .u32 0, .bool false, .int .i64 0]) ∧
  plainB (.agg #[.int .i64 0, .int .i64 0, .int .i64 0, .int .u32 0, .bool false, .int .i64 0]) = true := by (repeat' apply And.intro) <;> kernel_rfl
theorem Try.ty10 :
  tyAgg Try.prog 40 = some true ∧
  tySize Try.prog 40 = some 6 ∧
  tyField Try.prog 40 0 = some (0, 38) ∧
  tyField Try.prog 40 1 = some (4, 4) ∧
  tyField Try.prog 40 2 = some (5, 3) ∧
  (tyPlace Try.prog 40 = some fun i => ([(0, 4), (4, 1), (5, 1)] : List (Nat × Nat))[i]?) ∧
  tyMk Try.prog 40 = true ∧
  tyBytes Try.prog 40 = some 48 ∧
  tyZero Try.prog 40 = some (.agg #[.int .i64 0, .int .i64 0, .int .i64 0, .int .u32 0, .bool false, .int .i64 0]) ∧
  tyAgg Try.prog 49 = some false ∧
  tySize Try.prog 49 = some 1 ∧
  tyMk Try.prog 49 = true ∧
  tyBytes Try.prog 49 = some 8 ∧
  tyZero Try.prog 49 = some (.int .u64 0) ∧
  tyAgg Try.prog 52 = some false ∧
  tySize Try.prog 52 = some 1 ∧
  tySli Try.prog 52 = true ∧
  tyBytes Try.prog 52 = some 24 ∧
  tySlice Try.prog 52 = some 58 ∧
  tyZero Try.prog 52 = some (.slice none 0 0) ∧
  tyAgg Try.prog 55 = some false ∧
  tySize Try.prog 55 = some 1 ∧
  tySli Try.prog 55 = true ∧
  tyBytes Try.prog 55 = some 24 := by (repeat' apply And.intro) <;> kernel_rfl
theorem Try.ty11 :
  tySlice Try.prog 55 = some 63 ∧
  tyZero Try.prog 55 = some (.slice none 0 0) ∧
  tyAgg Try.prog 56 = some false ∧
  tySize Try.prog 56 = some 1 ∧
  tyMk Try.prog 56 = true ∧
  tyBytes Try.prog 56 = some 2 ∧
  tyZero Try.prog 56 = some (.int .i16 0) ∧
  plainB (.int .i16 0) = true ∧
  tyAgg Try.prog 57 = some true ∧
  tySize Try.prog 57 = some 3 ∧
  tyField Try.prog 57 0 = some (0, 5) ∧
  tyField Try.prog 57 1 = some (1, 56) ∧
  tyField Try.prog 57 2 = some (2, 56) ∧
  (tyPlace Try.prog 57 = some fun i => ([(0, 1), (1, 1), (2, 1)] : List (Nat × Nat))[i]?) ∧
  tyMk Try.prog 57 = true ∧
  tyBytes Try.prog 57 = some 6 ∧
  tyZero Try.prog 57 = some (.agg #[.int .u8 0, .int .i16 0, .int .i16 0]) ∧
  plainB (.agg #[.int .u8 0, .int .i16 0, .int .i16 0]) = true ∧
  tyAgg Try.prog 58 = some true ∧
  tySize Try.prog 58 = some 3 ∧
  tyField Try.prog 58 0 = some (0, 5) ∧
  tyField Try.prog 58 1 = some (1, 56) ∧
  tyField Try.prog 58 2 = some (2, 56) ∧
  (tyPlace Try.prog 58 = some fun i => ([(0, 1), (1, 1), (2, 1)] : List (Nat × Nat))[i]?) := by (repeat' apply And.intro) <;> kernel_rfl
theorem Try.ty12 :
  tyMk Try.prog 58 = true ∧
  tyBytes Try.prog 58 = some 6 ∧
  tyZero Try.prog 58 = some (.agg #[.int .u8 0, .int .i16 0, .int .i16 0]) ∧
  tyAgg Try.prog 59 = some false ∧
  tySize Try.prog 59 = some 1 ∧
  tyMk Try.prog 59 = true ∧
  tyBytes Try.prog 59 = some 2 ∧
  tyZero Try.prog 59 = some (.int .u16 0) ∧
  plainB (.int .u16 0) = true ∧
  tyAgg Try.prog 62 = some true ∧
  tySize Try.prog 62 = some 2 ∧
  tyField Try.prog 62 0 = some (0, 3) ∧
  tyField Try.prog 62 1 = some (1, 3) ∧
  (tyPlace Try.prog 62 = some fun i => ([(0, 1), (1, 1)] : List (Nat × Nat))[i]?) ∧
  tyMk Try.prog 62 = true ∧
  tyBytes Try.prog 62 = some 16 ∧
  tyZero Try.prog 62 = some (.agg #[.int .i64 0, .int .i64 0]) ∧
  plainB (.agg #[.int .i64 0, .int .i64 0]) = true ∧
  tyAgg Try.prog 63 = some true ∧
  tySize Try.prog 63 = some 2 ∧
  tyField Try.prog 63 0 = some (0, 3) ∧
  tyField Try.prog 63 1 = some (1, 3) ∧
  (tyPlace Try.prog 63 = some fun i => ([(0, 1), (1, 1)] : List (Nat × Nat))[i]?) ∧
  tyMk Try.prog 63 = true := by (repeat' apply And.intro) <;> kernel_rfl
theorem Try.ty13 :
  tyBytes Try.prog 63 = some 16 ∧
  tyZero Try.prog 63 = some (.agg #[.int .i64 0, .int .i64 0]) ∧
  tyAgg Try.prog 67 = some false ∧
  tySize Try.prog 67 = some 1 ∧
  tySli Try.prog 67 = true ∧
  tyBytes Try.prog 67 = some 24 ∧
  tySlice Try.prog 67 = some 76 ∧
  tyZero Try.prog 67 = some (.slice none 0 0) ∧
  tyAgg Try.prog 70 = some false ∧
  tySize Try.prog 70 = some 1 ∧
  tySli Try.prog 70 = true ∧
  tyBytes Try.prog 70 = some 24 ∧
  tySlice Try.prog 70 = some 3 ∧
  tyZero Try.prog 70 = some (.slice none 0 0) ∧
  tyAgg Try.prog 71 = some false ∧
  tySize Try.prog 71 = some 1 ∧
  tySli Try.prog 71 = true ∧
  tyBytes Try.prog 71 = some 24 ∧
  tySlice Try.prog 71 = some 70 ∧
  tyZero Try.prog 71 = some (.slice none 0 0) ∧
  tyAgg Try.prog 72 = some true ∧
  tySize Try.prog 72 = some 4 ∧
  tyField Try.prog 72 0 = some (0, 70) ∧
  tyField Try.prog 72 1 = some (1, 71) := by (repeat' apply And.intro) <;> kernel_rfl
theorem Try.ty14 :
  tyField Try.prog 72 2 = some (2, 71) ∧
  tyField Try.prog 72 3 = some (3, 3) ∧
  (tyPlace Try.prog 72 = some fun i => ([(0, 1), (1, 1), (2, 1), (3, 1)] : List (Nat × Nat))[i]?) ∧
  tyMk Try.prog 72 = true ∧
  tyBytes Try.prog 72 = some 80 ∧
  tyZero Try.prog 72 = some (.agg #[.slice none 0 0, .slice none 0 0, .slice none 0 0, .int .i64 0]) ∧
  plainB (.agg #[.slice none 0 0, .slice none 0 0, .slice none 0 0, .int .i64 0]) = true ∧
  tyAgg Try.prog 73 = some true ∧
  tySize Try.prog 73 = some 4 ∧
  tyField Try.prog 73 0 = some (0, 70) ∧
  tyField Try.prog 73 1 = some (1, 71) ∧
  tyField Try.prog 73 2 = some (2, 71) ∧
  tyField Try.prog 73 3 = some (3, 3) ∧
  (tyPlace Try.prog 73 = some fun i => ([(0, 1), (1, 1), (2, 1), (3, 1)] : List (Nat × Nat))[i]?) ∧
  tyMk Try.prog 73 = true ∧
  tyBytes Try.prog 73 = some 80 ∧
  tyZero Try.prog 73 = some (.agg #[.slice none 0 0, .slice none 0 0, .slice none 0 0, .int .i64 0]) ∧
  tyAgg Try.prog 75 = some true ∧
  tySize Try.prog 75 = some 4 ∧
  tyField Try.prog 75 0 = some (0, 5) ∧
  tyField Try.prog 75 1 = some (1, 5) ∧
  tyField Try.prog 75 2 = some (2, 3) ∧
  tyField Try.prog 75 3 = some (3, 3) ∧
  (tyPlace Try.prog 75 = some fun i => ([(0, 1), (1, 1), (2, 1), (3, 1)] : List (Nat × Nat))[i]?) := by (repeat' apply And.intro) <;> kernel_rfl
theorem Try.ty15 :
  tyMk Try.prog 75 = true ∧
  tyBytes Try.prog 75 = some 24 ∧
  tyZero Try.prog 75 = some (.agg #[.int .u8 0, .int .u8 0, .int .i64 0, .int .i64 0]) ∧
  plainB (.agg #[.int .u8 0, .int .u8 0, .int .i64 0, .int .i64 0]) = true ∧
  tyAgg Try.prog 76 = some true ∧
  tySize Try.prog 76 = some 4 ∧
  tyField Try.prog 76 0 = some (0, 5) ∧
  tyField Try.prog 76 1 = some (1, 5) ∧
  tyField Try.prog 76 2 = some (2, 3) ∧
  tyField Try.prog 76 3 = some (3, 3) ∧
  (tyPlace Try.prog 76 = some fun i => ([(0, 1), (1, 1), (2, 1), (3, 1)] : List (Nat × Nat))[i]?) ∧
  tyMk Try.prog 76 = true ∧
  tyBytes Try.prog 76 = some 24 ∧
  tyZero Try.prog 76 = some (.agg #[.int .u8 0, .int .u8 0, .int .i64 0, .int .i64 0]) ∧
  tyAgg Try.prog 77 = some true ∧
  tySize Try.prog 77 = some 3 ∧
  tyField Try.prog 77 0 = some (0, 3) ∧
  tyField Try.prog 77 1 = some (1, 4) ∧
  tyField Try.prog 77 2 = some (2, 36) ∧
  (tyPlace Try.prog 77 = some fun i => ([(0, 1), (1, 1), (2, 1)] : List (Nat × Nat))[i]?) ∧
  tyMk Try.prog 77 = true ∧
  tyBytes Try.prog 77 = some 16 ∧
  tyZero Try.prog 77 = some (.agg #[.int .i64 0, .bool false, .int .u32 0]) ∧
  plainB (.agg #[.int .i64 0, .bool false, .int .u32 0]) = true := by (repeat' apply And.intro) <;> kernel_rfl
theorem Try.ty16 :
  tyAgg Try.prog 78 = some true ∧
  tySize Try.prog 78 = some 3 ∧
  tyField Try.prog 78 0 = some (0, 3) ∧
  tyField Try.prog 78 1 = some (1, 4) ∧
  tyField Try.prog 78 2 = some (2, 36) ∧
  (tyPlace Try.prog 78 = some fun i => ([(0, 1), (1, 1), (2, 1)] : List (Nat × Nat))[i]?) ∧
  tyMk Try.prog 78 = true ∧
  tyBytes Try.prog 78 = some 16 ∧
  tyZero Try.prog 78 = some (.agg #[.int .i64 0, .bool false, .int .u32 0]) ∧
  tyAgg Try.prog 93 = some true ∧
  tySize Try.prog 93 = some 4 ∧
  tyField Try.prog 93 0 = some (0, 3) ∧
  tyField Try.prog 93 1 = some (1, 3) ∧
  tyField Try.prog 93 2 = some (2, 3) ∧
  tyField Try.prog 93 3 = some (3, 3) ∧
  (tyPlace Try.prog 93 = some fun i => ([(0, 1), (1, 1), (2, 1), (3, 1)] : List (Nat × Nat))[i]?) ∧
  tyMk Try.prog 93 = true ∧
  tyBytes Try.prog 93 = some 32 ∧
  tyZero Try.prog 93 = some (.agg #[.int .i64 0, .int .i64 0, .int .i64 0, .int .i64 0]) ∧
  plainB (.agg #[.int .i64 0, .int .i64 0, .int .i64 0, .int .i64 0]) = true ∧
  tyAgg Try.prog 94 = some true ∧
  tySize Try.prog 94 = some 4 ∧
  tyField Try.prog 94 0 = some (0, 3) ∧
  tyField Try.prog 94 1 = some (1, 3) := by (repeat' apply And.intro) <;> kernel_rfl
theorem Try.ty17 :
  tyField Try.prog 94 2 = some (2, 3) ∧
  tyField Try.prog 94 3 = some (3, 3) ∧
  (tyPlace Try.prog 94 = some fun i => ([(0, 1), (1, 1), (2, 1), (3, 1)] : List (Nat × Nat))[i]?) ∧
  tyMk Try.prog 94 = true ∧
  tyBytes Try.prog 94 = some 32 ∧
  tyZero Try.prog 94 = some (.agg #[.int .i64 0, .int .i64 0, .int .i64 0, .int .i64 0]) ∧
  tyAgg Try.prog 104 = some false ∧
  tySize Try.prog 104 = some 1 ∧
  tySli Try.prog 104 = true ∧
  tyBytes Try.prog 104 = some 24 ∧
  tySlice Try.prog 104 = some 56 ∧
  tyZero Try.prog 104 = some (.slice none 0 0) ∧
  tyAgg Try.prog 105 = some true ∧
  tySize Try.prog 105 = some 3 ∧
  tyField Try.prog 105 0 = some (0, 3) ∧
  tyField Try.prog 105 1 = some (1, 3) ∧
  tyField Try.prog 105 2 = some (2, 3) ∧
  (tyPlace Try.prog 105 = some fun i => ([(0, 1), (1, 1), (2, 1)] : List (Nat × Nat))[i]?) ∧
  tyMk Try.prog 105 = true ∧
  tyBytes Try.prog 105 = some 24 ∧
  tyZero Try.prog 105 = some (.agg #[.int .i64 0, .int .i64 0, .int .i64 0]) ∧
  plainB (.agg #[.int .i64 0, .int .i64 0, .int .i64 0]) = true ∧
  tyAgg Try.prog 106 = some true ∧
  tySize Try.prog 106 = some 3 := by (repeat' apply And.intro) <;> kernel_rfl
theorem Try.ty18 :
  tyField Try.prog 106 0 = some (0, 3) ∧
  tyField Try.prog 106 1 = some (1, 3) ∧
  tyField Try.prog 106 2 = some (2, 3) ∧
  (tyPlace Try.prog 106 = some fun i => ([(0, 1), (1, 1), (2, 1)] : List (Nat × Nat))[i]?) ∧
  tyMk Try.prog 106 = true ∧
  tyBytes Try.prog 106 = some 24 ∧
  tyZero Try.prog 106 = some (.agg #[.int .i64 0, .int .i64 0, .int .i64 0]) ∧
  tyAgg Try.prog 109 = some true ∧
  tySize Try.prog 109 = some 5 ∧
  tyField Try.prog 109 0 = some (0, 49) ∧
  tyField Try.prog 109 1 = some (1, 49) ∧
  tyField Try.prog 109 2 = some (2, 49) ∧
  tyField Try.prog 109 3 = some (3, 49) ∧
  tyField Try.prog 109 4 = some (4, 49) ∧
  (tyPlace Try.prog 109 = some fun i => ([(0, 1), (1, 1), (2, 1), (3, 1), (4, 1)] : List (Nat × Nat))[i]?) ∧
  tyMk Try.prog 109 = true ∧
  tyBytes Try.prog 109 = some 40 ∧
  tyZero Try.prog 109 = some (.agg #[.int .u64 0, .int .u64 0, .int .u64 0, .int .u64 0, .int .u64 0]) ∧
  plainB (.agg #[.int .u64 0, .int .u64 0, .int .u64 0, .int .u64 0, .int .u64 0]) = true ∧
  tyAgg Try.prog 110 = some true ∧
  tySize Try.prog 110 = some 5 ∧
  tyField Try.prog 110 0 = some (0, 49) ∧
  tyField Try.prog 110 1 = some (1, 49) ∧
  tyField Try.prog 110 2 = some (2, 49) := by (repeat' apply And.intro) <;> kernel_rfl
theorem Try.ty19 :
  tyField Try.prog 110 3 = some (3, 49) ∧
  tyField Try.prog 110 4 = some (4, 49) ∧
  (tyPlace Try.prog 110 = some fun i => ([(0, 1), (1, 1), (2, 1), (3, 1), (4, 1)] : List (Nat × Nat))[i]?) ∧
  tyMk Try.prog 110 = true ∧
  tyBytes Try.prog 110 = some 40 ∧
  tyZero Try.prog 110 = some (.agg #[.int .u64 0, .int .u64 0, .int .u64 0, .int .u64 0, .int .u64 0]) ∧
  tyAgg Try.prog 111 = some false ∧
  tySize Try.prog 111 = some 1 ∧
  tyMk Try.prog 111 = true ∧
  tyBytes Try.prog 111 = some 8 ∧
  tyZero Try.prog 111 = some (.int .i64 0) ∧
  tyAgg Try.prog 112 = some true ∧
  tySize Try.prog 112 = some 11 ∧
  tyField Try.prog 112 0 = some (0, 3) ∧
  tyField Try.prog 112 1 = some (1, 3) ∧
  tyField Try.prog 112 2 = some (2, 5) ∧
  tyField Try.prog 112 3 = some (3, 110) ∧
  tyField Try.prog 112 4 = some (8, 111) ∧
  tyField Try.prog 112 5 = some (9, 3) ∧
  tyField Try.prog 112 6 = some (10, 3) ∧
  (tyPlace Try.prog 112 = some fun i => ([(0, 1), (1, 1), (2, 1), (3, 5), (8, 1), (9, 1), (10, 1)] : List (Nat × Nat))[i]?) ∧
  tyMk Try.prog 112 = true ∧
  tyBytes Try.prog 112 = some 88 ∧
  tyZero Try.prog 112 = some (.agg #[.int .i64 0, .int .i64 0, .int .u8 0, .int .u64 0, .int .u64 0, .int .u64 0, .int .u64 0, .int .u64 0, .int .i64 0, .int .i64 0, .int .i64 0]) := by (repeat' apply And.intro) <;> kernel_rfl
theorem Try.ty20 :
  plainB (.agg #[.int .i64 0, .int .i64 0, .int .u8 0, .int .u64 0, .int .u64 0, .int .u64 0, .int .u64 0, .int .u64 0, .int .i64 0, .int .i64 0, .int .i64 0]) = true ∧
  tyAgg Try.prog 113 = some true ∧
  tySize Try.prog 113 = some 11 ∧
  tyField Try.prog 113 0 = some (0, 3) ∧
  tyField Try.prog 113 1 = some (1, 3) ∧
  tyField Try.prog 113 2 = some (2, 5) ∧
  tyField Try.prog 113 3 = some (3, 110) ∧
  tyField Try.prog 113 4 = some (8, 111) ∧
  tyField Try.prog 113 5 = some (9, 3) ∧
  tyField Try.prog 113 6 = some (10, 3) ∧
  (tyPlace Try.prog 113 = some fun i => ([(0, 1), (1, 1), (2, 1), (3, 5), (8, 1), (9, 1), (10, 1)] : List (Nat × Nat))[i]?) ∧
  tyMk Try.prog 113 = true ∧
  tyBytes Try.prog 113 = some 88 ∧
  tyZero Try.prog 113 = some (.agg #[.int .i64 0, .int .i64 0, .int .u8 0, .int .u64 0, .int .u64 0, .int .u64 0, .int .u64 0, .int .u64 0, .int .i64 0, .int .i64 0, .int .i64 0]) ∧
  tyAgg Try.prog 124 = some true ∧
  tySize Try.prog 124 = some 4 ∧
  tyField Try.prog 124 0 = some (0, 5) ∧
  tyField Try.prog 124 1 = some (1, 3) ∧
  tyField Try.prog 124 2 = some (2, 49) ∧
  tyField Try.prog 124 3 = some (3, 49) ∧
  (tyPlace Try.prog 124 = some fun i => ([(0, 1), (1, 1), (2, 1), (3, 1)] : List (Nat × Nat))[i]?) ∧
  tyMk Try.prog 124 = true ∧
  tyBytes Try.prog 124 = some 32 ∧
  tyZero Try.prog 124 = some (.agg #[.int .u8 0, .int .i64 0, .int .u64 0, .int .u64 0]) := by (repeat' apply And.intro) <;> kernel_rfl
theorem Try.ty21 :
  plainB (.agg #[.int .u8 0, .int .i64 0, .int .u64 0, .int .u64 0]) = true ∧
  tyAgg Try.prog 125 = some true ∧
  tySize Try.prog 125 = some 4 ∧
  tyField Try.prog 125 0 = some (0, 5) ∧
  tyField Try.prog 125 1 = some (1, 3) ∧
  tyField Try.prog 125 2 = some (2, 49) ∧
  tyField Try.prog 125 3 = some (3, 49) ∧
  (tyPlace Try.prog 125 = some fun i => ([(0, 1), (1, 1), (2, 1), (3, 1)] : List (Nat × Nat))[i]?) ∧
  tyMk Try.prog 125 = true ∧
  tyBytes Try.prog 125 = some 32 ∧
  tyZero Try.prog 125 = some (.agg #[.int .u8 0, .int .i64 0, .int .u64 0, .int .u64 0]) ∧
  tyAgg Try.prog 130 = some true ∧
  tySize Try.prog 130 = some 19 ∧
  (tyPlace Try.prog 130 = some fun i => some (i * 1, 1)) ∧
  tyBytes Try.prog 130 = some 152 ∧
  tyArray Try.prog 130 = some (19, 3) ∧
  tyZero Try.prog 130 = some (.agg #[.int .i64 0, .int .i64 0, .int .i64 0, .int .i64 0, .int .i64 0, .int .i64 0, .int .i64 0, .int .i64 0, .int .i64 0, .int .i64 0, .int .i64 0, .int .i64 0, .int .i64 0, .int .i64 0, .int .i64 0, .int .i64 0, .int .i64 0, .int .i64 0, .int .i64 0]) ∧
  plainB (.agg #[.int .i64 0, .int .i64 0, .int .i64 0, .int .i64 0, .int .i64 0, .int .i64 0, .int .i64 0, .int .i64 0, .int .i64 0, .int .i64 0, .int .i64 0, .int .i64 0, .int .i64 0, .int .i64 0, .int .i64 0, .int .i64 0, .int .i64 0, .int .i64 0, .int .i64 0]) = true ∧
  tyAgg Try.prog 133 = some false ∧
  tySize Try.prog 133 = some 1 ∧
  tyMk Try.prog 133 = true ∧
  tyPtr Try.prog 133 = true ∧
  tyBytes Try.prog 133 = some 8 ∧
  tyZero Try.prog 133 = some (.pointer none) := by (repeat' apply And.intro) <;> kernel_rfl
theorem Try.ty22 :
  tyAgg Try.prog 134 = some true ∧
  tySize Try.prog 134 = some 2 ∧
  tyField Try.prog 134 0 = some (0, 29) ∧
  tyField Try.prog 134 1 = some (1, 3) ∧
  (tyPlace Try.prog 134 = some fun i => ([(0, 1), (1, 1)] : List (Nat × Nat))[i]?) ∧
  tyMk Try.prog 134 = true ∧
  tyBytes Try.prog 134 = some 16 ∧
  tyZero Try.prog 134 = some (.agg #[.pointer none, .int .i64 0]) ∧
  plainB (.agg #[.pointer none, .int .i64 0]) = true ∧
  tyAgg Try.prog 135 = some true ∧
  tySize Try.prog 135 = some 2 ∧
  tyField Try.prog 135 0 = some (0, 29) ∧
  tyField Try.prog 135 1 = some (1, 3) ∧
  (tyPlace Try.prog 135 = some fun i => ([(0, 1), (1, 1)] : List (Nat × Nat))[i]?) ∧
  tyMk Try.prog 135 = true ∧
  tyBytes Try.prog 135 = some 16 ∧
  tyZero Try.prog 135 = some (.agg #[.pointer none, .int .i64 0]) ∧
  tyAgg Try.prog 136 = some false ∧
  tySize Try.prog 136 = some 1 ∧
  tyMk Try.prog 136 = true ∧
  tyPtr Try.prog 136 = true ∧
  tyBytes Try.prog 136 = some 8 ∧
  tyZero Try.prog 136 = some (.pointer none) ∧
  tyAgg Try.prog 137 = some true := by (repeat' apply And.intro) <;> kernel_rfl
theorem Try.ty23 :
  tySize Try.prog 137 = some 3 ∧
  tyField Try.prog 137 0 = some (0, 133) ∧
  tyField Try.prog 137 1 = some (1, 3) ∧
  tyField Try.prog 137 2 = some (2, 136) ∧
  (tyPlace Try.prog 137 = some fun i => ([(0, 1), (1, 1), (2, 1)] : List (Nat × Nat))[i]?) ∧
  tyMk Try.prog 137 = true ∧
  tyBytes Try.prog 137 = some 24 ∧
  tyZero Try.prog 137 = some (.agg #[.pointer none, .int .i64 0, .pointer none]) ∧
  plainB (.agg #[.pointer none, .int .i64 0, .pointer none]) = true ∧
  tyAgg Try.prog 138 = some true ∧
  tySize Try.prog 138 = some 3 ∧
  tyField Try.prog 138 0 = some (0, 133) ∧
  tyField Try.prog 138 1 = some (1, 3) ∧
  tyField Try.prog 138 2 = some (2, 136) ∧
  (tyPlace Try.prog 138 = some fun i => ([(0, 1), (1, 1), (2, 1)] : List (Nat × Nat))[i]?) ∧
  tyMk Try.prog 138 = true ∧
  tyBytes Try.prog 138 = some 24 ∧
  tyZero Try.prog 138 = some (.agg #[.pointer none, .int .i64 0, .pointer none]) ∧
  tyAgg Try.prog 139 = some false ∧
  tySize Try.prog 139 = some 1 ∧
  tyIfc Try.prog 139 = true ∧
  tyBytes Try.prog 139 = some 16 ∧
  tyZero Try.prog 139 = some (.nilIface) ∧
  tyAgg Try.prog 140 = some false := by (repeat' apply And.intro) <;> kernel_rfl
theorem Try.ty24 :
  tySize Try.prog 140 = some 1 ∧
  tyIfc Try.prog 140 = true ∧
  tyBytes Try.prog 140 = some 16 ∧
  tyZero Try.prog 140 = some (.nilIface) ∧
  tyAgg Try.prog 151 = some true ∧
  tySize Try.prog 151 = some 23 ∧
  tyField Try.prog 151 0 = some (0, 140) ∧
  tyField Try.prog 151 1 = some (1, 26) ∧
  (tyPlace Try.prog 151 = some fun i => ([(0, 1), (1, 22)] : List (Nat × Nat))[i]?) ∧
  tyMk Try.prog 151 = true ∧
  tyBytes Try.prog 151 = some 192 ∧
  tyZero Try.prog 151 = some (.agg #[.nilIface, .int .i64 0, .int .i64 0, .int .i64 0, .int .i64 0, .int .i64 0, .int .i64 0, .int .i64 0, .int .i64 0, .int .i64 0, .int .i64 0, .int .i64 0, .int .i64 0, .int .i64 0, .int .i64 0, .int .i64 0, .int .i64 0, .int .i64 0, .int .i64 0, .int .i64 0, .int .i64 0, .int .i64 0, .int .i64 0]) ∧
  plainB (.agg #[.nilIface, .int .i64 0, .int .i64 0, .int .i64 0, .int .i64 0, .int .i64 0, .int .i64 0, .int .i64 0, .int .i64 0, .int .i64 0, .int .i64 0, .int .i64 0, .int .i64 0, .int .i64 0, .int .i64 0, .int .i64 0, .int .i64 0, .int .i64 0, .int .i64 0, .int .i64 0, .int .i64 0, .int .i64 0, .int .i64 0]) = true ∧
  tyAgg Try.prog 152 = some true ∧
  tySize Try.prog 152 = some 23 ∧
  tyField Try.prog 152 0 = some (0, 140) ∧
  tyField Try.prog 152 1 = some (1, 26) ∧
  (tyPlace Try.prog 152 = some fun i => ([(0, 1), (1, 22)] : List (Nat × Nat))[i]?) ∧
  tyMk Try.prog 152 = true ∧
  tyBytes Try.prog 152 = some 192 ∧
  tyZero Try.prog 152 = some (.agg #[.nilIface, .int .i64 0, .int .i64 0, .int .i64 0, .int .i64 0, .int .i64 0, .int .i64 0, .int .i64 0, .int .i64 0, .int .i64 0, .int .i64 0, .int .i64 0, .int .i64 0, .int .i64 0, .int .i64 0, .int .i64 0, .int .i64 0, .int .i64 0, .int .i64 0, .int .i64 0, .int .i64 0, .int .i64 0, .int .i64 0]) ∧
  tyAgg Try.prog 153 = some true ∧
  tySize Try.prog 153 = some 3 ∧
  tyField Try.prog 153 0 = some (0, 3) := by (repeat' apply And.intro) <;> kernel_rfl
theorem Try.ty25 :
  tyField Try.prog 153 1 = some (1, 3) ∧
  tyField Try.prog 153 2 = some (2, 3) ∧
  (tyPlace Try.prog 153 = some fun i => ([(0, 1), (1, 1), (2, 1)] : List (Nat × Nat))[i]?) ∧
  tyMk Try.prog 153 = true ∧
  tyBytes Try.prog 153 = some 24 ∧
  tyZero Try.prog 153 = some (.agg #[.int .i64 0, .int .i64 0, .int .i64 0]) ∧
  tyAgg Try.prog 154 = some true ∧
  tySize Try.prog 154 = some 3 ∧
  tyField Try.prog 154 0 = some (0, 3) ∧
  tyField Try.prog 154 1 = some (1, 3) ∧
  tyField Try.prog 154 2 = some (2, 3) ∧
  (tyPlace Try.prog 154 = some fun i => ([(0, 1), (1, 1), (2, 1)] : List (Nat × Nat))[i]?) ∧
  tyMk Try.prog 154 = true ∧
  tyBytes Try.prog 154 = some 24 ∧
  tyZero Try.prog 154 = some (.agg #[.int .i64 0, .int .i64 0, .int .i64 0]) ∧
  tyAgg Try.prog 170 = some false ∧
  tySize Try.prog 170 = some 1 ∧
  tySli Try.prog 170 = true ∧
  tyBytes Try.prog 170 = some 24 ∧
  tySlice Try.prog 170 = some 49 ∧
  tyZero Try.prog 170 = some (.slice none 0 0) ∧
  tyAgg Try.prog 172 = some true ∧
  tySize Try.prog 172 = some 2 ∧
  tyField Try.prog 172 0 = some (0, 170) := by (repeat' apply And.intro) <;> kernel_rfl
theorem Try.ty26 :
  tyField Try.prog 172 1 = some (1, 22) ∧
  (tyPlace Try.prog 172 = some fun i => ([(0, 1), (1, 1)] : List (Nat × Nat))[i]?) ∧
  tyMk Try.prog 172 = true ∧
  tyBytes Try.prog 172 = some 48 ∧
  tyZero Try.prog 172 = some (.agg #[.slice none 0 0, .slice none 0 0]) ∧
  plainB (.agg #[.slice none 0 0, .slice none 0 0]) = true ∧
  tyAgg Try.prog 173 = some true ∧
  tySize Try.prog 173 = some 2 ∧
  tyField Try.prog 173 0 = some (0, 170) ∧
  tyField Try.prog 173 1 = some (1, 22) ∧
  (tyPlace Try.prog 173 = some fun i => ([(0, 1), (1, 1)] : List (Nat × Nat))[i]?) ∧
  tyMk Try.prog 173 = true ∧
  tyBytes Try.prog 173 = some 48 ∧
  tyZero Try.prog 173 = some (.agg #[.slice none 0 0, .slice none 0 0]) ∧
  tyAgg Try.prog 187 = some true ∧
  tySize Try.prog 187 = some 5 ∧
  (tyPlace Try.prog 187 = some fun i => some (i * 1, 1)) ∧
  tyBytes Try.prog 187 = some 40 ∧
  tyArray Try.prog 187 = some (5, 186) ∧
  tyZero Try.prog 187 = some (.agg #[.nilFunc, .nilFunc, .nilFunc, .nilFunc, .nilFunc]) ∧
  plainB (.agg #[.nilFunc, .nilFunc, .nilFunc, .nilFunc, .nilFunc]) = true ∧
  tyAgg Try.prog 192 = some true ∧
  tySize Try.prog 192 = some 23 ∧
  tyField Try.prog 192 0 = some (0, 140) := by (repeat' apply And.intro) <;> kernel_rfl
theorem Try.ty27 :
  tyField Try.prog 192 1 = some (1, 26) ∧
  (tyPlace Try.prog 192 = some fun i => ([(0, 1), (1, 22)] : List (Nat × Nat))[i]?) ∧
  tyMk Try.prog 192 = true ∧
  tyBytes Try.prog 192 = some 192 ∧
  tyZero Try.prog 192 = some (.agg #[.nilIface, .int .i64 0, .int .i64 0, .int .i64 0, .int .i64 0, .int .i64 0, .int .i64 0, .int .i64 0, .int .i64 0, .int .i64 0, .int .i64 0, .int .i64 0, .int .i64 0, .int .i64 0, .int .i64 0, .int .i64 0, .int .i64 0, .int .i64 0, .int .i64 0, .int .i64 0, .int .i64 0, .int .i64 0, .int .i64 0]) ∧
  tyAgg Try.prog 193 = some true ∧
  tySize Try.prog 193 = some 23 ∧
  tyField Try.prog 193 0 = some (0, 140) ∧
  tyField Try.prog 193 1 = some (1, 26) ∧
  (tyPlace Try.prog 193 = some fun i => ([(0, 1), (1, 22)] : List (Nat × Nat))[i]?) ∧
  tyMk Try.prog 193 = true ∧
  tyBytes Try.prog 193 = some 192 ∧
  tyZero Try.prog 193 = some (.agg #[.nilIface, .int .i64 0, .int .i64 0, .int .i64 0, .int .i64 0, .int .i64 0, .int .i64 0, .int .i64 0, .int .i64 0, .int .i64 0, .int .i64 0, .int .i64 0, .int .i64 0, .int .i64 0, .int .i64 0, .int .i64 0, .int .i64 0, .int .i64 0, .int .i64 0, .int .i64 0, .int .i64 0, .int .i64 0, .int .i64 0]) ∧
  tyAgg Try.prog 194 = some true ∧
  tySize Try.prog 194 = some 24 ∧
  tyField Try.prog 194 0 = some (0, 193) ∧
  tyField Try.prog 194 1 = some (23, 3) ∧
  (tyPlace Try.prog 194 = some fun i => ([(0, 23), (23, 1)] : List (Nat × Nat))[i]?) ∧
  tyMk Try.prog 194 = true ∧
  tyBytes Try.prog 194 = some 200 ∧
  tyZero Try.prog 194 = some (.agg #[.nilIface, .int .i64 0, .int .i64 0, .int .i64 0, .int .i64 0, .int .i64 0, .int .i64 0, .int .i64 0, .int .i64 0, .int .i64 0, .int .i64 0, .int .i64 0, .int .i64 0, .int .i64 0, .int .i64 0, .int .i64 0, .int .i64 0, .int .i64 0, .int .i64 0, .int .i64 0, .int .i64 0, .int .i64 0, .int .i64 0, .int .i64 0]) ∧
  plainB (.agg #[.nilIface, .int .i64 0, .int .i64 0, .int .i64 0, .int .i64 0, .int .i64 0, .int .i64 0, .int .i64 0, .int .i64 0, .int .i64 0, .int .i64 0, .int .i64 0, .int .i64 0, .int .i64 0, .int .i64 0, .int .i64 0, .int .i64 0, .int .i64 0, .int .i64 0, .int .i64 0, .int .i64 0, .int .i64 0, .int .i64 0, .int .i64 0]) = true ∧
  tyAgg Try.prog 195 = some true ∧
  tySize Try.prog 195 = some 24 := by (repeat' apply And.intro) <;> kernel_rfl
theorem Try.ty28 :
  tyField Try.prog 195 0 = some (0, 193) ∧
  tyField Try.prog 195 1 = some (23, 3) ∧
  (tyPlace Try.prog 195 = some fun i => ([(0, 23), (23, 1)] : List (Nat × Nat))[i]?) ∧
  tyMk Try.prog 195 = true ∧
  tyBytes Try.prog 195 = some 200 ∧
  tyZero Try.prog 195 = some (.agg #[.nilIface, .int .i64 0, .int .i64 0, .int .i64 0, .int .i64 0, .int .i64 0, .int .i64 0, .int .i64 0, .int .i64 0, .int .i64 0, .int .i64 0, .int .i64 0, .int .i64 0, .int .i64 0, .int .i64 0, .int .i64 0, .int .i64 0, .int .i64 0, .int .i64 0, .int .i64 0, .int .i64 0, .int .i64 0, .int .i64 0, .int .i64 0]) ∧
  tyAgg Try.prog 196 = some true ∧
  tySize Try.prog 196 = some 3 ∧
  tyField Try.prog 196 0 = some (0, 3) ∧
  tyField Try.prog 196 1 = some (1, 3) ∧
  tyField Try.prog 196 2 = some (2, 3) ∧
  (tyPlace Try.prog 196 = some fun i => ([(0, 1), (1, 1), (2, 1)] : List (Nat × Nat))[i]?) ∧
  tyMk Try.prog 196 = true ∧
  tyBytes Try.prog 196 = some 24 ∧
  tyZero Try.prog 196 = some (.agg #[.int .i64 0, .int .i64 0, .int .i64 0]) ∧
  tyAgg Try.prog 197 = some true ∧
  tySize Try.prog 197 = some 3 ∧
  tyField Try.prog 197 0 = some (0, 3) ∧
  tyField Try.prog 197 1 = some (1, 3) ∧
  tyField Try.prog 197 2 = some (2, 3) ∧
  (tyPlace Try.prog 197 = some fun i => ([(0, 1), (1, 1), (2, 1)] : List (Nat × Nat))[i]?) ∧
  tyMk Try.prog 197 = true ∧
  tyBytes Try.prog 197 = some 24 ∧
  tyZero Try.prog 197 = some (.agg #[.int .i64 0, .int .i64 0, .int .i64 0]) := by (repeat' apply And.intro) <;> kernel_rfl
theorem Try.ty29 :
  tyAgg Try.prog 198 = some true ∧
  tySize Try.prog 198 = some 12 ∧
  (tyPlace Try.prog 198 = some fun i => some (i * 3, 3)) ∧
  tyBytes Try.prog 198 = some 96 ∧
  tyArray Try.prog 198 = some (4, 197) ∧
  tyZero Try.prog 198 = some (.agg #[.int .i64 0, .int .i64 0, .int .i64 0, .int .i64 0, .int .i64 0, .int .i64 0, .int .i64 0, .int .i64 0, .int .i64 0, .int .i64 0, .int .i64 0, .int .i64 0]) ∧
  plainB (.agg #[.int .i64 0, .int .i64 0, .int .i64 0, .int .i64 0, .int .i64 0, .int .i64 0, .int .i64 0, .int .i64 0, .int .i64 0, .int .i64 0, .int .i64 0, .int .i64 0]) = true ∧
  tyAgg Try.prog 200 = some true ∧
  tySize Try.prog 200 = some 4 ∧
  tyField Try.prog 200 0 = some (0, 5) ∧
  tyField Try.prog 200 1 = some (1, 4) ∧
  tyField Try.prog 200 2 = some (2, 3) ∧
  tyField Try.prog 200 3 = some (3, 36) ∧
  (tyPlace Try.prog 200 = some fun i => ([(0, 1), (1, 1), (2, 1), (3, 1)] : List (Nat × Nat))[i]?) ∧
  tyMk Try.prog 200 = true ∧
  tyBytes Try.prog 200 = some 24 ∧
  tyZero Try.prog 200 = some (.agg #[.int .u8 0, .bool false, .int .i64 0, .int .u32 0]) ∧
  plainB (.agg #[.int .u8 0, .bool false, .int .i64 0, .int .u32 0]) = true ∧
  tyAgg Try.prog 201 = some true ∧
  tySize Try.prog 201 = some 4 ∧
  tyField Try.prog 201 0 = some (0, 5) ∧
  tyField Try.prog 201 1 = some (1, 4) ∧
  tyField Try.prog 201 2 = some (2, 3) ∧
  tyField Try.prog 201 3 = some (3, 36) := by (repeat' apply And.intro) <;> kernel_rfl
theorem Try.ty30 :
  (tyPlace Try.prog 201 = some fun i => ([(0, 1), (1, 1), (2, 1), (3, 1)] : List (Nat × Nat))[i]?) ∧
  tyMk Try.prog 201 = true ∧
  tyBytes Try.prog 201 = some 24 ∧
  tyZero Try.prog 201 = some (.agg #[.int .u8 0, .bool false, .int .i64 0, .int .u32 0]) ∧
  tyAgg Try.prog 209 = some false ∧
  tySize Try.prog 209 = some 1 ∧
  tySli Try.prog 209 = true ∧
  tyBytes Try.prog 209 = some 24 ∧
  tySlice Try.prog 209 = some 197 ∧
  tyZero Try.prog 209 = some (.slice none 0 0) ∧
  tyAgg Try.prog 213 = some false ∧
  tySize Try.prog 213 = some 1 ∧
  tyMk Try.prog 213 = true ∧
  tyBytes Try.prog 213 = some 8 ∧
  tyZero Try.prog 213 = some (.int .u64 0) ∧
  tyAgg Try.prog 216 = some true ∧
  tySize Try.prog 216 = some 4 ∧
  tyField Try.prog 216 0 = some (0, 17) ∧
  tyField Try.prog 216 1 = some (1, 17) ∧
  tyField Try.prog 216 2 = some (2, 17) ∧
  tyField Try.prog 216 3 = some (3, 9) ∧
  (tyPlace Try.prog 216 = some fun i => ([(0, 1), (1, 1), (2, 1), (3, 1)] : List (Nat × Nat))[i]?) ∧
  tyMk Try.prog 216 = true ∧
  tyBytes Try.prog 216 = some 40 := by (repeat' apply And.intro) <;> kernel_rfl
theorem Try.ty31 :
  tyZero Try.prog 216 = some (.agg #[.pointer none, .pointer none, .pointer none, .string ⟨#[]⟩]) ∧
  plainB (.agg #[.pointer none, .pointer none, .pointer none, .string ⟨#[]⟩]) = true ∧
  tyAgg Try.prog 217 = some true ∧
  tySize Try.prog 217 = some 4 ∧
  tyField Try.prog 217 0 = some (0, 17) ∧
  tyField Try.prog 217 1 = some (1, 17) ∧
  tyField Try.prog 217 2 = some (2, 17) ∧
  tyField Try.prog 217 3 = some (3, 9) ∧
  (tyPlace Try.prog 217 = some fun i => ([(0, 1), (1, 1), (2, 1), (3, 1)] : List (Nat × Nat))[i]?) ∧
  tyMk Try.prog 217 = true ∧
  tyBytes Try.prog 217 = some 40 ∧
  tyZero Try.prog 217 = some (.agg #[.pointer none, .pointer none, .pointer none, .string ⟨#[]⟩]) ∧
  tyAgg Try.prog 218 = some true ∧
  tySize Try.prog 218 = some 0 ∧
  (tyPlace Try.prog 218 = some fun i => some (i * 1, 1)) ∧
  tyBytes Try.prog 218 = some 0 ∧
  tyArray Try.prog 218 = some (0, 16) ∧
  tyZero Try.prog 218 = some (.agg #[]) ∧
  plainB (.agg #[]) = true ∧
  tyAgg Try.prog 219 = some true ∧
  tySize Try.prog 219 = some 0 ∧
  tyField Try.prog 219 0 = some (0, 218) ∧
  (tyPlace Try.prog 219 = some fun i => ([(0, 0)] : List (Nat × Nat))[i]?) ∧
  tyMk Try.prog 219 = true := by (repeat' apply And.intro) <;> kernel_rfl
theorem Try.ty32 :
  tyBytes Try.prog 219 = some 0 ∧
  tyZero Try.prog 219 = some (.agg #[]) ∧
  tyAgg Try.prog 220 = some true ∧
  tySize Try.prog 220 = some 0 ∧
  tyField Try.prog 220 0 = some (0, 218) ∧
  (tyPlace Try.prog 220 = some fun i => ([(0, 0)] : List (Nat × Nat))[i]?) ∧
  tyMk Try.prog 220 = true ∧
  tyBytes Try.prog 220 = some 0 ∧
  tyZero Try.prog 220 = some (.agg #[]) ∧
  tyAgg Try.prog 221 = some false ∧
  tySize Try.prog 221 = some 1 ∧
  tyMk Try.prog 221 = true ∧
  tyBytes Try.prog 221 = some 1 ∧
  tyZero Try.prog 221 = some (.int .u8 0) ∧
  tyAgg Try.prog 222 = some false ∧
  tySize Try.prog 222 = some 1 ∧
  tyMk Try.prog 222 = true ∧
  tyBytes Try.prog 222 = some 1 ∧
  tyZero Try.prog 222 = some (.int .u8 0) ∧
  tyAgg Try.prog 224 = some false ∧
  tySize Try.prog 224 = some 1 ∧
  tyMk Try.prog 224 = true ∧
  tyPtr Try.prog 224 = true ∧
  tyBytes Try.prog 224 = some 8 := by (repeat' apply And.intro) <;> kernel_rfl
theorem Try.ty33 :
  tyZero Try.prog 224 = some (.pointer none) ∧
  tyAgg Try.prog 225 = some false ∧
  tySize Try.prog 225 = some 1 ∧
  tyMk Try.prog 225 = true ∧
  tyBytes Try.prog 225 = some 4 ∧
  tyZero Try.prog 225 = some (.int .i32 0) ∧
  tyAgg Try.prog 226 = some false ∧
  tySize Try.prog 226 = some 1 ∧
  tyMk Try.prog 226 = true ∧
  tyBytes Try.prog 226 = some 4 ∧
  tyZero Try.prog 226 = some (.int .i32 0) ∧
  tyAgg Try.prog 227 = some true ∧
  tySize Try.prog 227 = some 11 ∧
  tyField Try.prog 227 0 = some (0, 12) ∧
  tyField Try.prog 227 1 = some (1, 12) ∧
  tyField Try.prog 227 2 = some (2, 36) ∧
  tyField Try.prog 227 3 = some (3, 221) ∧
  tyField Try.prog 227 4 = some (4, 5) ∧
  tyField Try.prog 227 5 = some (5, 5) ∧
  tyField Try.prog 227 6 = some (6, 222) ∧
  tyField Try.prog 227 7 = some (7, 223) ∧
  tyField Try.prog 227 8 = some (8, 224) ∧
  tyField Try.prog 227 9 = some (9, 225) ∧
  tyField Try.prog 227 10 = some (10, 226) := by (repeat' apply And.intro) <;> kernel_rfl
theorem Try.ty34 :
  (tyPlace Try.prog 227 = some fun i => ([(0, 1), (1, 1), (2, 1), (3, 1), (4, 1), (5, 1), (6, 1), (7, 1), (8, 1), (9, 1), (10, 1)] : List (Nat × Nat))[i]?) ∧
  tyMk Try.prog 227 = true ∧
  tyBytes Try.prog 227 = some 48 ∧
  tyZero Try.prog 227 = some (.agg #[.int .u64 0, .int .u64 0, .int .u32 0, .int .u8 0, .int .u8 0, .int .u8 0, .int .u8 0, .nilFunc, .pointer none, .int .i32 0, .int .i32 0]) ∧
  plainB (.agg #[.int .u64 0, .int .u64 0, .int .u32 0, .int .u8 0, .int .u8 0, .int .u8 0, .int .u8 0, .nilFunc, .pointer none, .int .i32 0, .int .i32 0]) = true ∧
  tyAgg Try.prog 228 = some true ∧
  tySize Try.prog 228 = some 11 ∧
  tyField Try.prog 228 0 = some (0, 12) ∧
  tyField Try.prog 228 1 = some (1, 12) ∧
  tyField Try.prog 228 2 = some (2, 36) ∧
  tyField Try.prog 228 3 = some (3, 221) ∧
  tyField Try.prog 228 4 = some (4, 5) ∧
  tyField Try.prog 228 5 = some (5, 5) ∧
  tyField Try.prog 228 6 = some (6, 222) ∧
  tyField Try.prog 228 7 = some (7, 223) ∧
  tyField Try.prog 228 8 = some (8, 224) ∧
  tyField Try.prog 228 9 = some (9, 225) ∧
  tyField Try.prog 228 10 = some (10, 226) ∧
  (tyPlace Try.prog 228 = some fun i => ([(0, 1), (1, 1), (2, 1), (3, 1), (4, 1), (5, 1), (6, 1), (7, 1), (8, 1), (9, 1), (10, 1)] : List (Nat × Nat))[i]?) ∧
  tyMk Try.prog 228 = true ∧
  tyBytes Try.prog 228 = some 48 ∧
  tyZero Try.prog 228 = some (.agg #[.int .u64 0, .int .u64 0, .int .u32 0, .int .u8 0, .int .u8 0, .int .u8 0, .int .u8 0, .nilFunc, .pointer none, .int .i32 0, .int .i32 0]) ∧
  tyAgg Try.prog 229 = some false ∧
  tySize Try.prog 229 = some 1 := by (repeat' apply And.intro) <;> kernel_rfl
theorem Try.ty35 :
  tyBytes Try.prog 229 = some 8 ∧
  tyZero Try.prog 229 = some (.pointer none) ∧
  tyConv Try.prog 3 36 = some .u32 ∧
  tyConv Try.prog 3 49 = some .u64 ∧
  tyConv Try.prog 3 111 = some .i64 ∧
  tyConv Try.prog 5 3 = some .i64 ∧
  tyConv Try.prog 5 5 = some .u8 ∧
  tyConv Try.prog 5 49 = some .u64 ∧
  tyConv Try.prog 36 49 = some .u64 ∧
  tyConv Try.prog 49 3 = some .i64 ∧
  tyConv Try.prog 49 5 = some .u8 ∧
  tyConv Try.prog 49 36 = some .u32 ∧
  tyConv Try.prog 56 3 = some .i64 ∧
  tyConv Try.prog 56 59 = some .u16 ∧
  tyConv Try.prog 59 3 = some .i64 ∧
  fnOK Try.prog 2 = true ∧
  fnOK Try.prog 3 = true ∧
  fnOK Try.prog 4 = true ∧
  fnOK Try.prog 5 = true ∧
  fnOK Try.prog 6 = true ∧
  fnOK Try.prog 7 = true ∧
  fnOK Try.prog 8 = true ∧
  fnOK Try.prog 9 = true ∧
  fnOK Try.prog 10 = true := by (repeat' apply And.intro) <;> kernel_rfl
theorem Try.ty36 :
  fnOK Try.prog 11 = true ∧
  fnOK Try.prog 12 = true ∧
  fnOK Try.prog 13 = true ∧
  fnOK Try.prog 14 = true ∧
  fnOK Try.prog 15 = true ∧
  fnOK Try.prog 16 = true ∧
  fnOK Try.prog 17 = true ∧
  fnOK Try.prog 18 = true ∧
  fnOK Try.prog 19 = true ∧
  fnOK Try.prog 20 = true ∧
  fnOK Try.prog 21 = true ∧
  fnOK Try.prog 22 = true ∧
  fnOK Try.prog 23 = true ∧
  fnOK Try.prog 24 = true ∧
  fnOK Try.prog 25 = true ∧
  fnOK Try.prog 26 = true ∧
  fnOK Try.prog 27 = true ∧
  fnOK Try.prog 28 = true ∧
  fnOK Try.prog 29 = true ∧
  fnOK Try.prog 30 = true ∧
  fnOK Try.prog 31 = true ∧
  fnOK Try.prog 32 = true ∧
  fnOK Try.prog 33 = true ∧
  fnOK Try.prog 34 = true := by (repeat' apply And.intro) <;> kernel_rfl
theorem Try.ty37 :
  fnOK Try.prog 35 = true ∧
  fnOK Try.prog 36 = true ∧
  fnOK Try.prog 37 = true ∧
  fnOK Try.prog 38 = true ∧
  fnOK Try.prog 39 = true ∧
  fnOK Try.prog 40 = true ∧
  fnOK Try.prog 41 = true ∧
  fnOK Try.prog 42 = true ∧
  fnOK Try.prog 43 = true ∧
  fnOK Try.prog 44 = true ∧
  fnOK Try.prog 45 = true ∧
  fnOK Try.prog 46 = true ∧
  fnOK Try.prog 47 = true ∧
  fnOK Try.prog 48 = true ∧
  fnOK Try.prog 49 = true ∧
  fnOK Try.prog 50 = true ∧
  fnOK Try.prog 51 = true ∧
  fnOK Try.prog 52 = true ∧
  fnOK Try.prog 53 = true ∧
  fnOK Try.prog 54 = true ∧
  fnOK Try.prog 55 = true ∧
  fnOK Try.prog 56 = true ∧
  fnOK Try.prog 57 = true ∧
  fnOK Try.prog 58 = true := by (repeat' apply And.intro) <;> kernel_rfl
theorem Try.ty38 :
  fnOK Try.prog 59 = true ∧
  fnOK Try.prog 60 = true ∧
  fnOK Try.prog 61 = true ∧
  fnOK Try.prog 62 = true ∧
  fnOK Try.prog 63 = true ∧
  fnOK Try.prog 64 = true ∧
  fnOK Try.prog 65 = true ∧
  fnOK Try.prog 66 = true ∧
  fnOK Try.prog 67 = true ∧
  fnOK Try.prog 68 = true ∧
  fnOK Try.prog 69 = true ∧
  fnOK Try.prog 70 = true ∧
  fnOK Try.prog 71 = true ∧
  fnOK Try.prog 72 = true ∧
  fnOK Try.prog 73 = true ∧
  fnOK Try.prog 74 = true ∧
  fnOK Try.prog 75 = true ∧
  fnOK Try.prog 76 = true ∧
  fnOK Try.prog 77 = true ∧
  fnOK Try.prog 78 = true ∧
  fnOK Try.prog 79 = true ∧
  fnOK Try.prog 80 = true ∧
  fnOK Try.prog 81 = true ∧
  fnOK Try.prog 82 = true := by (repeat' apply And.intro) <;> kernel_rfl
theorem Try.ty39 :
  fnOK Try.prog 83 = true ∧
  fnOK Try.prog 84 = true ∧
  fnOK Try.prog 85 = true ∧
  fnOK Try.prog 86 = true ∧
  fnOK Try.prog 87 = true ∧
  fnOK Try.prog 88 = true ∧
  fnOK Try.prog 89 = true ∧
  fnOK Try.prog 90 = true ∧
  fnOK Try.prog 91 = true ∧
  fnOK Try.prog 92 = true ∧
  fnOK Try.prog 93 = true ∧
  fnOK Try.prog 94 = true ∧
  fnOK Try.prog 95 = true ∧
  fnOK Try.prog 96 = true ∧
  fnOK Try.prog 97 = true ∧
  fnOK Try.prog 98 = true ∧
  fnOK Try.prog 99 = true ∧
  fnOK Try.prog 100 = true ∧
  fnOK Try.prog 101 = true ∧
  fnOK Try.prog 102 = true ∧
  fnOK Try.prog 103 = true ∧
  fnOK Try.prog 104 = true ∧
  fnOK Try.prog 105 = true ∧
  fnOK Try.prog 106 = true := by (repeat' apply And.intro) <;> kernel_rfl
theorem Try.ty40 :
  fnOK Try.prog 107 = true ∧
  fnOK Try.prog 108 = true ∧
  fnOK Try.prog 109 = true ∧
  fnOK Try.prog 110 = true ∧
  fnOK Try.prog 111 = true ∧
  fnOK Try.prog 112 = true ∧
  fnOK Try.prog 113 = true ∧
  fnOK Try.prog 114 = true ∧
  fnOK Try.prog 115 = true ∧
  fnOK Try.prog 116 = true ∧
  fnOK Try.prog 117 = true ∧
  fnOK Try.prog 118 = true ∧
  fnOK Try.prog 119 = true ∧
  fnOK Try.prog 120 = true ∧
  fnOK Try.prog 121 = true ∧
  fnOK Try.prog 122 = true ∧
  fnOK Try.prog 123 = true ∧
  fnOK Try.prog 124 = true ∧
  fnOK Try.prog 125 = true ∧
  fnOK Try.prog 126 = true ∧
  fnOK Try.prog 127 = true ∧
  fnOK Try.prog 128 = true ∧
  fnOK Try.prog 129 = true ∧
  fnOK Try.prog 130 = true := by (repeat' apply And.intro) <;> kernel_rfl
theorem Try.ty41 :
  fnOK Try.prog 131 = true ∧
  fnOK Try.prog 132 = true ∧
  fnOK Try.prog 133 = true ∧
  fnOK Try.prog 134 = true ∧
  fnOK Try.prog 135 = true ∧
  fnOK Try.prog 136 = true ∧
  fnOK Try.prog 137 = true ∧
  fnOK Try.prog 138 = true ∧
  fnOK Try.prog 139 = true ∧
  fnOK Try.prog 140 = true ∧
  fnOK Try.prog 141 = true ∧
  fnOK Try.prog 142 = true ∧
  fnOK Try.prog 143 = true ∧
  fnOK Try.prog 144 = true ∧
  fnOK Try.prog 145 = true ∧
  fnOK Try.prog 146 = true ∧
  fnOK Try.prog 147 = true ∧
  fnOK Try.prog 148 = true ∧
  fnOK Try.prog 149 = true ∧
  fnOK Try.prog 150 = true ∧
  fnOK Try.prog 151 = true ∧
  fnOK Try.prog 152 = true ∧
  fnOK Try.prog 153 = true ∧
  fnOK Try.prog 154 = true := by (repeat' apply And.intro) <;> kernel_rfl
theorem Try.ty42 :
  fnOK Try.prog 155 = true ∧
  fnOK Try.prog 156 = true ∧
  fnOK Try.prog 157 = true ∧
  fnOK Try.prog 173 = true ∧
  fnOK Try.prog 174 = true ∧
  fnOK Try.prog 175 = true ∧
  fnOK Try.prog 176 = true ∧
  fnOK Try.prog 177 = true ∧
  fnOK Try.prog 178 = true := by (repeat' apply And.intro) <;> kernel_rfl
attribute [go_sem] Try.eql7 Try.neq7 Try.eql8 Try.neq8 Try.eql37 Try.neq37 Try.eql38 Try.neq38 Try.eql57 Try.neq57 Try.eql58 Try.neq58 Try.eql62 Try.neq62 Try.eql63 Try.neq63 Try.eql75 Try.neq75 Try.eql76 Try.neq76 Try.eql77 Try.neq77 Try.eql78 Try.neq78 Try.eql93 Try.neq93 Try.eql94 Try.neq94 Try.eql105 Try.neq105 Try.eql106 Try.neq106 Try.eql109 Try.neq109 Try.eql110 Try.neq110 Try.eql124 Try.neq124 Try.eql125 Try.neq125 Try.eql153 Try.neq153 Try.eql154 Try.neq154 Try.eql196 Try.neq196 Try.eql197 Try.neq197 Try.eql200 Try.neq200 Try.eql201 Try.neq201 Try.ty0 Try.ty1 Try.ty2 Try.ty3 Try.ty4 Try.ty5 Try.ty6 Try.ty7 Try.ty8 Try.ty9 Try.ty10 Try.ty11 Try.ty12 Try.ty13 Try.ty14 Try.ty15 Try.ty16 Try.ty17 Try.ty18 Try.ty19 Try.ty20 Try.ty21 Try.ty22 Try.ty23 Try.ty24 Try.ty25 Try.ty26 Try.ty27 Try.ty28 Try.ty29 Try.ty30 Try.ty31 Try.ty32 Try.ty33 Try.ty34 Try.ty35 Try.ty36 Try.ty37 Try.ty38 Try.ty39 Try.ty40 Try.ty41 Try.ty42
end Go.Proofs.Ytceddijolfpppaa
