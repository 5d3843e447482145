/-
  Facts on the types and functions of this program, as the abstract machine asks them.
  No condition: closed facts.
-/
import Derived.Test.YtjdbknnacaacaaaAx13
namespace Go.Proofs.Ytjdbknnacaacaaa
open Go Go.RowKit
set_option linter.unusedSimpArgs false
set_option linter.unusedVariables false
theorem Try.ag2 : tyAgg Try.prog 2 = some false := by kernel_rfl
theorem Try.sz2 : tySize Try.prog 2 = some 1 := by kernel_rfl
theorem Try.tmk2 : tyMk Try.prog 2 = true := by kernel_rfl
theorem Try.by2 : tyBytes Try.prog 2 = some 8 := by kernel_rfl
theorem Try.zr2 : tyZero Try.prog 2 = some (.int .i64 0) := by kernel_rfl
theorem Try.pz2 : plainB (.int .i64 0) = true := by kernel_rfl
theorem Try.ag3 : tyAgg Try.prog 3 = some false := by kernel_rfl
theorem Try.sz3 : tySize Try.prog 3 = some 1 := by kernel_rfl
theorem Try.tmk3 : tyMk Try.prog 3 = true := by kernel_rfl
theorem Try.by3 : tyBytes Try.prog 3 = some 8 := by kernel_rfl
theorem Try.zr3 : tyZero Try.prog 3 = some (.int .i64 0) := by kernel_rfl
theorem Try.ag4 : tyAgg Try.prog 4 = some false := by kernel_rfl
theorem Try.sz4 : tySize Try.prog 4 = some 1 := by kernel_rfl
theorem Try.tmk4 : tyMk Try.prog 4 = true := by kernel_rfl
theorem Try.tb4 : tyBool Try.prog 4 = true := by kernel_rfl
theorem Try.by4 : tyBytes Try.prog 4 = some 1 := by kernel_rfl
theorem Try.zr4 : tyZero Try.prog 4 = some (.bool false) := by kernel_rfl
theorem Try.pz4 : plainB (.bool false) = true := by kernel_rfl
theorem Try.ag5 : tyAgg Try.prog 5 = some false := by kernel_rfl
theorem Try.sz5 : tySize Try.prog 5 = some 1 := by kernel_rfl
theorem Try.tmk5 : tyMk Try.prog 5 = true := by kernel_rfl
theorem Try.by5 : tyBytes Try.prog 5 = some 1 := by kernel_rfl
theorem Try.zr5 : tyZero Try.prog 5 = some (.int .u8 0) := by kernel_rfl
theorem Try.pz5 : plainB (.int .u8 0) = true := by kernel_rfl
theorem Try.ag6 : tyAgg Try.prog 6 = some false := by kernel_rfl
theorem Try.sz6 : tySize Try.prog 6 = some 1 := by kernel_rfl
theorem Try.tmk6 : tyMk Try.prog 6 = true := by kernel_rfl
theorem Try.by6 : tyBytes Try.prog 6 = some 1 := by kernel_rfl
theorem Try.zr6 : tyZero Try.prog 6 = some (.int .u8 0) := by kernel_rfl
theorem Try.ag7 : tyAgg Try.prog 7 = some true := by kernel_rfl
theorem Try.sz7 : tySize Try.prog 7 = some 4 := by kernel_rfl
theorem Try.fd7_0 : tyField Try.prog 7 0 = some (0, 2) := by kernel_rfl
theorem Try.fd7_1 : tyField Try.prog 7 1 = some (1, 3) := by kernel_rfl
theorem Try.fd7_2 : tyField Try.prog 7 2 = some (2, 4) := by kernel_rfl
theorem Try.fd7_3 : tyField Try.prog 7 3 = some (3, 6) := by kernel_rfl
theorem Try.tp7 : tyPlace Try.prog 7 = some fun i => ([(0, 1), (1, 1), (2, 1), (3, 1)] : List (Nat × Nat))[i]? := by kernel_rfl
theorem Try.eql7 (y : Operand) (a0 b0 : Int) (a1 b1 : Int) (a2 b2 : Bool) (a3 b3 : Int) : binOpA Try.prog .eql 7 y (.agg #[.int .i64 a0, .int .i64 a1, .bool a2, .int .u8 a3]) (.agg #[.int .i64 b0, .int .i64 b1, .bool b2, .int .u8 b3]) = some (.bool (a0 == b0 && (a1 == b1 && (a2 == b2 && (a3 == b3 && true))))) := by kernel_rfl
theorem Try.neq7 (y : Operand) (a0 b0 : Int) (a1 b1 : Int) (a2 b2 : Bool) (a3 b3 : Int) : binOpA Try.prog .neq 7 y (.agg #[.int .i64 a0, .int .i64 a1, .bool a2, .int .u8 a3]) (.agg #[.int .i64 b0, .int .i64 b1, .bool b2, .int .u8 b3]) = some (.bool !(a0 == b0 && (a1 == b1 && (a2 == b2 && (a3 == b3 && true))))) := by kernel_rfl
theorem Try.tmk7 : tyMk Try.prog 7 = true := by kernel_rfl
theorem Try.by7 : tyBytes Try.prog 7 = some 24 := by kernel_rfl
theorem Try.zr7 : tyZero Try.prog 7 = some (.agg #[.int .i64 0, .int .i64 0, .bool false, .int .u8 0]) := by kernel_rfl
theorem Try.pz7 : plainB (.agg #[.int .i64 0, .int .i64 0, .bool false, .int .u8 0]) = true := by kernel_rfl
theorem Try.ag8 : tyAgg Try.prog 8 = some true := by kernel_rfl
theorem Try.sz8 : tySize Try.prog 8 = some 4 := by kernel_rfl
theorem Try.fd8_0 : tyField Try.prog 8 0 = some (0, 2) := by kernel_rfl
theorem Try.fd8_1 : tyField Try.prog 8 1 = some (1, 3) := by kernel_rfl
theorem Try.fd8_2 : tyField Try.prog 8 2 = some (2, 4) := by kernel_rfl
theorem Try.fd8_3 : tyField Try.prog 8 3 = some (3, 6) := by kernel_rfl
theorem Try.tp8 : tyPlace Try.prog 8 = some fun i => ([(0, 1), (1, 1), (2, 1), (3, 1)] : List (Nat × Nat))[i]? := by kernel_rfl
theorem Try.eql8 (y : Operand) (a0 b0 : Int) (a1 b1 : Int) (a2 b2 : Bool) (a3 b3 : Int) : binOpA Try.prog .eql 8 y (.agg #[.int .i64 a0, .int .i64 a1, .bool a2, .int .u8 a3]) (.agg #[.int .i64 b0, .int .i64 b1, .bool b2, .int .u8 b3]) = some (.bool (a0 == b0 && (a1 == b1 && (a2 == b2 && (a3 == b3 && true))))) := by kernel_rfl
theorem Try.neq8 (y : Operand) (a0 b0 : Int) (a1 b1 : Int) (a2 b2 : Bool) (a3 b3 : Int) : binOpA Try.prog .neq 8 y (.agg #[.int .i64 a0, .int .i64 a1, .bool a2, .int .u8 a3]) (.agg #[.int .i64 b0, .int .i64 b1, .bool b2, .int .u8 b3]) = some (.bool !(a0 == b0 && (a1 == b1 && (a2 == b2 && (a3 == b3 && true))))) := by kernel_rfl
theorem Try.tmk8 : tyMk Try.prog 8 = true := by kernel_rfl
theorem Try.by8 : tyBytes Try.prog 8 = some 24 := by kernel_rfl
theorem Try.zr8 : tyZero Try.prog 8 = some (.agg #[.int .i64 0, .int .i64 0, .bool false, .int .u8 0]) := by kernel_rfl
theorem Try.ag9 : tyAgg Try.prog 9 = some false := by kernel_rfl
theorem Try.sz9 : tySize Try.prog 9 = some 1 := by kernel_rfl
theorem Try.tmk9 : tyMk Try.prog 9 = true := by kernel_rfl
theorem Try.by9 : tyBytes Try.prog 9 = some 16 := by kernel_rfl
theorem Try.zr9 : tyZero Try.prog 9 = some (.string ⟨#[]⟩) := by kernel_rfl
theorem Try.pz9 : plainB (.string ⟨#[]⟩) = true := by kernel_rfl
theorem Try.ag10 : tyAgg Try.prog 10 = some false := by kernel_rfl
theorem Try.sz10 : tySize Try.prog 10 = some 1 := by kernel_rfl
theorem Try.by10 : tyBytes Try.prog 10 = some 16 := by kernel_rfl
theorem Try.zr10 : tyZero Try.prog 10 = some (.string ⟨#[]⟩) := by kernel_rfl
theorem Try.ag11 : tyAgg Try.prog 11 = some false := by kernel_rfl
theorem Try.sz11 : tySize Try.prog 11 = some 1 := by kernel_rfl
theorem Try.by11 : tyBytes Try.prog 11 = some 16 := by kernel_rfl
theorem Try.zr11 : tyZero Try.prog 11 = some (.string ⟨#[]⟩) := by kernel_rfl
theorem Try.ag12 : tyAgg Try.prog 12 = some false := by kernel_rfl
theorem Try.sz12 : tySize Try.prog 12 = some 1 := by kernel_rfl
theorem Try.tmk12 : tyMk Try.prog 12 = true := by kernel_rfl
theorem Try.by12 : tyBytes Try.prog 12 = some 8 := by kernel_rfl
theorem Try.zr12 : tyZero Try.prog 12 = some (.int .u64 0) := by kernel_rfl
theorem Try.pz12 : plainB (.int .u64 0) = true := by kernel_rfl
theorem Try.ag13 : tyAgg Try.prog 13 = some true := by kernel_rfl
theorem Try.sz13 : tySize Try.prog 13 = some 2 := by kernel_rfl
theorem Try.fd13_0 : tyField Try.prog 13 0 = some (0, 9) := by kernel_rfl
theorem Try.fd13_1 : tyField Try.prog 13 1 = some (1, 12) := by kernel_rfl
theorem Try.tp13 : tyPlace Try.prog 13 = some fun i => ([(0, 1), (1, 1)] : List (Nat × Nat))[i]? := by kernel_rfl
theorem Try.tmk13 : tyMk Try.prog 13 = true := by kernel_rfl
theorem Try.by13 : tyBytes Try.prog 13 = some 24 := by kernel_rfl
theorem Try.zr13 : tyZero Try.prog 13 = some (.agg #[.string ⟨#[]⟩, .int .u64 0]) := by kernel_rfl
theorem Try.pz13 : plainB (.agg #[.string ⟨#[]⟩, .int .u64 0]) = true := by kernel_rfl
theorem Try.ag14 : tyAgg Try.prog 14 = some true := by kernel_rfl
theorem Try.sz14 : tySize Try.prog 14 = some 2 := by kernel_rfl
theorem Try.fd14_0 : tyField Try.prog 14 0 = some (0, 9) := by kernel_rfl
theorem Try.fd14_1 : tyField Try.prog 14 1 = some (1, 12) := by kernel_rfl
theorem Try.tp14 : tyPlace Try.prog 14 = some fun i => ([(0, 1), (1, 1)] : List (Nat × Nat))[i]? := by kernel_rfl
theorem Try.tmk14 : tyMk Try.prog 14 = true := by kernel_rfl
theorem Try.by14 : tyBytes Try.prog 14 = some 24 := by kernel_rfl
theorem Try.zr14 : tyZero Try.prog 14 = some (.agg #[.string ⟨#[]⟩, .int .u64 0]) := by kernel_rfl
theorem Try.ag15 : tyAgg Try.prog 15 = some false := by kernel_rfl
theorem Try.sz15 : tySize Try.prog 15 = some 1 := by kernel_rfl
theorem Try.tmk15 : tyMk Try.prog 15 = true := by kernel_rfl
theorem Try.tptr15 : tyPtr Try.prog 15 = true := by kernel_rfl
theorem Try.by15 : tyBytes Try.prog 15 = some 8 := by kernel_rfl
theorem Try.zr15 : tyZero Try.prog 15 = some (.pointer none) := by kernel_rfl
theorem Try.pz15 : plainB (.pointer none) = true := by kernel_rfl
theorem Try.mt15_Error : methA Try.prog 15 "Error" = some 157 := by kernel_rfl
theorem Try.mt15_RuntimeError : methA Try.prog 15 "RuntimeError" = some 158 := by kernel_rfl
theorem Try.ag16 : tyAgg Try.prog 16 = some false := by kernel_rfl
theorem Try.sz16 : tySize Try.prog 16 = some 1 := by kernel_rfl
theorem Try.tmk16 : tyMk Try.prog 16 = true := by kernel_rfl
theorem Try.tptr16 : tyPtr Try.prog 16 = true := by kernel_rfl
theorem Try.by16 : tyBytes Try.prog 16 = some 8 := by kernel_rfl
theorem Try.zr16 : tyZero Try.prog 16 = some (.pointer none) := by kernel_rfl
theorem Try.mt16_Error : methA Try.prog 16 "Error" = some 159 := by kernel_rfl
theorem Try.mt16_RuntimeError : methA Try.prog 16 "RuntimeError" = some 160 := by kernel_rfl
theorem Try.ag17 : tyAgg Try.prog 17 = some false := by kernel_rfl
theorem Try.sz17 : tySize Try.prog 17 = some 1 := by kernel_rfl
theorem Try.tmk17 : tyMk Try.prog 17 = true := by kernel_rfl
theorem Try.tptr17 : tyPtr Try.prog 17 = true := by kernel_rfl
theorem Try.by17 : tyBytes Try.prog 17 = some 8 := by kernel_rfl
theorem Try.zr17 : tyZero Try.prog 17 = some (.pointer none) := by kernel_rfl
theorem Try.mt17_Align : methA Try.prog 17 "Align" = some 161 := by kernel_rfl
theorem Try.ag18 : tyAgg Try.prog 18 = some true := by kernel_rfl
theorem Try.sz18 : tySize Try.prog 18 = some 1 := by kernel_rfl
theorem Try.fd18_0 : tyField Try.prog 18 0 = some (0, 17) := by kernel_rfl
theorem Try.tp18 : tyPlace Try.prog 18 = some fun i => ([(0, 1)] : List (Nat × Nat))[i]? := by kernel_rfl
theorem Try.tmk18 : tyMk Try.prog 18 = true := by kernel_rfl
theorem Try.by18 : tyBytes Try.prog 18 = some 8 := by kernel_rfl
theorem Try.zr18 : tyZero Try.prog 18 = some (.agg #[.pointer none]) := by kernel_rfl
theorem Try.pz18 : plainB (.agg #[.pointer none]) = true := by kernel_rfl
theorem Try.ag19 : tyAgg Try.prog 19 = some true := by kernel_rfl
theorem Try.sz19 : tySize Try.prog 19 = some 1 := by kernel_rfl
theorem Try.fd19_0 : tyField Try.prog 19 0 = some (0, 17) := by kernel_rfl
theorem Try.tp19 : tyPlace Try.prog 19 = some fun i => ([(0, 1)] : List (Nat × Nat))[i]? := by kernel_rfl
theorem Try.tmk19 : tyMk Try.prog 19 = true := by kernel_rfl
theorem Try.by19 : tyBytes Try.prog 19 = some 8 := by kernel_rfl
theorem Try.zr19 : tyZero Try.prog 19 = some (.agg #[.pointer none]) := by kernel_rfl
theorem Try.ag20 : tyAgg Try.prog 20 = some false := by kernel_rfl
theorem Try.sz20 : tySize Try.prog 20 = some 1 := by kernel_rfl
theorem Try.tif20 : tyIfc Try.prog 20 = true := by kernel_rfl
theorem Try.by20 : tyBytes Try.prog 20 = some 16 := by kernel_rfl
theorem Try.zr20 : tyZero Try.prog 20 = some (.nilIface) := by kernel_rfl
theorem Try.pz20 : plainB (.nilIface) = true := by kernel_rfl
theorem Try.ag21 : tyAgg Try.prog 21 = some false := by kernel_rfl
theorem Try.sz21 : tySize Try.prog 21 = some 1 := by kernel_rfl
theorem Try.tmk21 : tyMk Try.prog 21 = true := by kernel_rfl
theorem Try.by21 : tyBytes Try.prog 21 = some 4 := by kernel_rfl
theorem Try.zr21 : tyZero Try.prog 21 = some (.int .i32 0) := by kernel_rfl
theorem Try.pz21 : plainB (.int .i32 0) = true := by kernel_rfl
theorem Try.ag22 : tyAgg Try.prog 22 = some true := by kernel_rfl
theorem Try.sz22 : tySize Try.prog 22 = some 20 := by kernel_rfl
theorem Try.tp22 : tyPlace Try.prog 22 = some fun i => some (i * 1, 1) := by kernel_rfl
theorem Try.by22 : tyBytes Try.prog 22 = some 160 := by kernel_rfl
theorem Try.ar22 : tyArray Try.prog 22 = some (20, 3) := by kernel_rfl
theorem Try.zr22 : tyZero Try.prog 22 = some (.agg #[.int .i64 0, .int .i64 0, .int .i64 0, .int .i64 0, .int .i64 0, .int .i64 0, .int .i64 0, .int .i64 0, .int .i64 0, .int .i64 0, .int .i64 0, .int .i64 0, .int .i64 0, .int .i64 0, .int .i64 0, .int .i64 0, .int .i64 0, .int .i64 0, .int .i64 0, .int .i64 0]) := by kernel_rfl
theorem Try.pz22 : plainB (.agg #[.int .i64 0, .int .i64 0, .int .i64 0, .int .i64 0, .int .i64 0, .int .i64 0, .int .i64 0, .int .i64 0, .int .i64 0, .int .i64 0, .int .i64 0, .int .i64 0, .int .i64 0, .int .i64 0, .int .i64 0, .int .i64 0, .int .i64 0, .int .i64 0, .int .i64 0, .int .i64 0]) = true := by kernel_rfl
theorem Try.ag23 : tyAgg Try.prog 23 = some true := by kernel_rfl
theorem Try.sz23 : tySize Try.prog 23 = some 22 := by kernel_rfl
theorem Try.fd23_0 : tyField Try.prog 23 0 = some (0, 3) := by kernel_rfl
theorem Try.fd23_1 : tyField Try.prog 23 1 = some (1, 3) := by kernel_rfl
theorem Try.fd23_2 : tyField Try.prog 23 2 = some (2, 22) := by kernel_rfl
theorem Try.tp23 : tyPlace Try.prog 23 = some fun i => ([(0, 1), (1, 1), (2, 20)] : List (Nat × Nat))[i]? := by kernel_rfl
theorem Try.tmk23 : tyMk Try.prog 23 = true := by kernel_rfl
theorem Try.by23 : tyBytes Try.prog 23 = some 176 := by kernel_rfl
theorem Try.zr23 : tyZero Try.prog 23 = some (.agg #[.int .i64 0, .int .i64 0, .int .i64 0, .int .i64 0, .int .i64 0, .int .i64 0, .int .i64 0, .int .i64 0, .int .i64 0, .int .i64 0, .int .i64 0, .int .i64 0, .int .i64 0, .int .i64 0, .int .i64 0, .int .i64 0, .int .i64 0, .int .i64 0, .int .i64 0, .int .i64 0, .int .i64 0, .int .i64 0]) := by kernel_rfl
theorem Try.pz23 : plainB (.agg #[.int .i64 0, .int .i64 0, .int .i64 0, .int .i64 0, .int .i64 0, .int .i64 0, .int .i64 0, .int .i64 0, .int .i64 0, .int .i64 0, .int .i64 0, .int .i64 0, .int .i64 0, .int .i64 0, .int .i64 0, .int .i64 0, .int .i64 0, .int .i64 0, .int .i64 0, .int .i64 0, .int .i64 0, .int .i64 0]) = true := by kernel_rfl
theorem Try.ag24 : tyAgg Try.prog 24 = some true := by kernel_rfl
theorem Try.sz24 : tySize Try.prog 24 = some 22 := by kernel_rfl
theorem Try.fd24_0 : tyField Try.prog 24 0 = some (0, 3) := by kernel_rfl
theorem Try.fd24_1 : tyField Try.prog 24 1 = some (1, 3) := by kernel_rfl
theorem Try.fd24_2 : tyField Try.prog 24 2 = some (2, 22) := by kernel_rfl
theorem Try.tp24 : tyPlace Try.prog 24 = some fun i => ([(0, 1), (1, 1), (2, 20)] : List (Nat × Nat))[i]? := by kernel_rfl
theorem Try.tmk24 : tyMk Try.prog 24 = true := by kernel_rfl
theorem Try.by24 : tyBytes Try.prog 24 = some 176 := by kernel_rfl
theorem Try.zr24 : tyZero Try.prog 24 = some (.agg #[.int .i64 0, .int .i64 0, .int .i64 0, .int .i64 0, .int .i64 0, .int .i64 0, .int .i64 0, .int .i64 0, .int .i64 0, .int .i64 0, .int .i64 0, .int .i64 0, .int .i64 0, .int .i64 0, .int .i64 0, .int .i64 0, .int .i64 0, .int .i64 0, .int .i64 0, .int .i64 0, .int .i64 0, .int .i64 0]) := by kernel_rfl
theorem Try.ag26 : tyAgg Try.prog 26 = some false := by kernel_rfl
theorem Try.sz26 : tySize Try.prog 26 = some 1 := by kernel_rfl
theorem Try.tmk26 : tyMk Try.prog 26 = true := by kernel_rfl
theorem Try.tptr26 : tyPtr Try.prog 26 = true := by kernel_rfl
theorem Try.by26 : tyBytes Try.prog 26 = some 8 := by kernel_rfl
theorem Try.zr26 : tyZero Try.prog 26 = some (.pointer none) := by kernel_rfl
theorem Try.mt26_Add : methA Try.prog 26 "Add" = some 165 := by kernel_rfl
theorem Try.mt26_CAS : methA Try.prog 26 "CAS" = some 166 := by kernel_rfl
theorem Try.mt26_Fresh : methA Try.prog 26 "Fresh" = some 167 := by kernel_rfl
theorem Try.mt26_Get : methA Try.prog 26 "Get" = some 173 := by kernel_rfl
theorem Try.mt26_Load : methA Try.prog 26 "Load" = some 168 := by kernel_rfl
theorem Try.mt26_Put : methA Try.prog 26 "Put" = some 174 := by kernel_rfl
theorem Try.mt26_Self : methA Try.prog 26 "Self" = some 169 := by kernel_rfl
theorem Try.mt26_Steps : methA Try.prog 26 "Steps" = some 29 := by kernel_rfl
theorem Try.mt26_Store : methA Try.prog 26 "Store" = some 170 := by kernel_rfl
theorem Try.mt26_Tell : methA Try.prog 26 "Tell" = some 175 := by kernel_rfl
theorem Try.ag28 : tyAgg Try.prog 28 = some false := by kernel_rfl
theorem Try.sz28 : tySize Try.prog 28 = some 1 := by kernel_rfl
theorem Try.tmk28 : tyMk Try.prog 28 = true := by kernel_rfl
theorem Try.tptr28 : tyPtr Try.prog 28 = true := by kernel_rfl
theorem Try.by28 : tyBytes Try.prog 28 = some 8 := by kernel_rfl
theorem Try.zr28 : tyZero Try.prog 28 = some (.pointer none) := by kernel_rfl
theorem Try.mt28_Bytes : methA Try.prog 28 "Bytes" = some 110 := by kernel_rfl
theorem Try.mt28_Copy : methA Try.prog 28 "Copy" = some 57 := by kernel_rfl
theorem Try.mt28_Do : methA Try.prog 28 "Do" = some 79 := by kernel_rfl
theorem Try.mt28_Word : methA Try.prog 28 "Word" = some 25 := by kernel_rfl
theorem Try.mt28_Words : methA Try.prog 28 "Words" = some 109 := by kernel_rfl
theorem Try.ag30 : tyAgg Try.prog 30 = some false := by kernel_rfl
theorem Try.sz30 : tySize Try.prog 30 = some 1 := by kernel_rfl
theorem Try.tmk30 : tyMk Try.prog 30 = true := by kernel_rfl
theorem Try.by30 : tyBytes Try.prog 30 = some 8 := by kernel_rfl
theorem Try.zr30 : tyZero Try.prog 30 = some (.int .u64 0) := by kernel_rfl
theorem Try.ag36 : tyAgg Try.prog 36 = some false := by kernel_rfl
theorem Try.sz36 : tySize Try.prog 36 = some 1 := by kernel_rfl
theorem Try.tsl36 : tySli Try.prog 36 = true := by kernel_rfl
theorem Try.by36 : tyBytes Try.prog 36 = some 24 := by kernel_rfl
theorem Try.sl36 : tySlice Try.prog 36 = some 44 := by kernel_rfl
theorem Try.zr36 : tyZero Try.prog 36 = some (.slice none 0 0) := by kernel_rfl
theorem Try.pz36 : plainB (.slice none 0 0) = true := by kernel_rfl
theorem Try.ag38 : tyAgg Try.prog 38 = some false := by kernel_rfl
theorem Try.sz38 : tySize Try.prog 38 = some 1 := by kernel_rfl
theorem Try.tsl38 : tySli Try.prog 38 = true := by kernel_rfl
theorem Try.by38 : tyBytes Try.prog 38 = some 24 := by kernel_rfl
theorem Try.sl38 : tySlice Try.prog 38 = some 50 := by kernel_rfl
theorem Try.zr38 : tyZero Try.prog 38 = some (.slice none 0 0) := by kernel_rfl
theorem Try.ag39 : tyAgg Try.prog 39 = some true := by kernel_rfl
theorem Try.sz39 : tySize Try.prog 39 = some 2 := by kernel_rfl
theorem Try.fd39_0 : tyField Try.prog 39 0 = some (0, 38) := by kernel_rfl
theorem Try.fd39_1 : tyField Try.prog 39 1 = some (1, 3) := by kernel_rfl
theorem Try.tp39 : tyPlace Try.prog 39 = some fun i => ([(0, 1), (1, 1)] : List (Nat × Nat))[i]? := by kernel_rfl
theorem Try.tmk39 : tyMk Try.prog 39 = true := by kernel_rfl
theorem Try.by39 : tyBytes Try.prog 39 = some 32 := by kernel_rfl
theorem Try.zr39 : tyZero Try.prog 39 = some (.agg #[.slice none 0 0, .int .i64 0]) := by kernel_rfl
theorem Try.pz39 : plainB (.agg #[.slice none 0 0, .int .i64 0]) = true := by kernel_rfl
theorem Try.ag40 : tyAgg Try.prog 40 = some true := by kernel_rfl
theorem Try.sz40 : tySize Try.prog 40 = some 2 := by kernel_rfl
theorem Try.fd40_0 : tyField Try.prog 40 0 = some (0, 38) := by kernel_rfl
theorem Try.fd40_1 : tyField Try.prog 40 1 = some (1, 3) := by kernel_rfl
theorem Try.tp40 : tyPlace Try.prog 40 = some fun i => ([(0, 1), (1, 1)] : List (Nat × Nat))[i]? := by kernel_rfl
theorem Try.tmk40 : tyMk Try.prog 40 = true := by kernel_rfl
theorem Try.by40 : tyBytes Try.prog 40 = some 32 := by kernel_rfl
theorem Try.zr40 : tyZero Try.prog 40 = some (.agg #[.slice none 0 0, .int .i64 0]) := by kernel_rfl
theorem Try.ag42 : tyAgg Try.prog 42 = some false := by kernel_rfl
theorem Try.sz42 : tySize Try.prog 42 = some 1 := by kernel_rfl
theorem Try.tsl42 : tySli Try.prog 42 = true := by kernel_rfl
theorem Try.by42 : tyBytes Try.prog 42 = some 24 := by kernel_rfl
theorem Try.sl42 : tySlice Try.prog 42 = some 40 := by kernel_rfl
theorem Try.zr42 : tyZero Try.prog 42 = some (.slice none 0 0) := by kernel_rfl
theorem Try.ag43 : tyAgg Try.prog 43 = some true := by kernel_rfl
theorem Try.sz43 : tySize Try.prog 43 = some 4 := by kernel_rfl
theorem Try.fd43_0 : tyField Try.prog 43 0 = some (0, 5) := by kernel_rfl
theorem Try.fd43_1 : tyField Try.prog 43 1 = some (1, 5) := by kernel_rfl
theorem Try.fd43_2 : tyField Try.prog 43 2 = some (2, 3) := by kernel_rfl
theorem Try.fd43_3 : tyField Try.prog 43 3 = some (3, 30) := by kernel_rfl
theorem Try.tp43 : tyPlace Try.prog 43 = some fun i => ([(0, 1), (1, 1), (2, 1), (3, 1)] : List (Nat × Nat))[i]? := by kernel_rfl
theorem Try.eql43 (y : Operand) (a0 b0 : Int) (a1 b1 : Int) (a2 b2 : Int) (a3 b3 : Int) : binOpA Try.prog .eql 43 y (.agg #[.int .u8 a0, .int .u8 a1, .int .i64 a2, .int .u64 a3]) (.agg #[.int .u8 b0, .int .u8 b1, .int .i64 b2, .int .u64 b3]) = some (.bool (a0 == b0 && (a1 == b1 && (a2 == b2 && (a3 == b3 && true))))) := by kernel_rfl
theorem Try.neq43 (y : Operand) (a0 b0 : Int) (a1 b1 : Int) (a2 b2 : Int) (a3 b3 : Int) : binOpA Try.prog .neq 43 y (.agg #[.int .u8 a0, .int .u8 a1, .int .i64 a2, .int .u64 a3]) (.agg #[.int .u8 b0, .int .u8 b1, .int .i64 b2, .int .u64 b3]) = some (.bool !(a0 == b0 && (a1 == b1 && (a2 == b2 && (a3 == b3 && true))))) := by kernel_rfl
theorem Try.tmk43 : tyMk Try.prog 43 = true := by kernel_rfl
theorem Try.by43 : tyBytes Try.prog 43 = some 24 := by kernel_rfl
theorem Try.zr43 : tyZero Try.prog 43 = some (.agg #[.int .u8 0, .int .u8 0, .int .i64 0, .int .u64 0]) := by kernel_rfl
theorem Try.pz43 : plainB (.agg #[.int .u8 0, .int .u8 0, .int .i64 0, .int .u64 0]) = true := by kernel_rfl
theorem Try.ag44 : tyAgg Try.prog 44 = some true := by kernel_rfl
theorem Try.sz44 : tySize Try.prog 44 = some 4 := by kernel_rfl
theorem Try.fd44_0 : tyField Try.prog 44 0 = some (0, 5) := by kernel_rfl
theorem Try.fd44_1 : tyField Try.prog 44 1 = some (1, 5) := by kernel_rfl
theorem Try.fd44_2 : tyField Try.prog 44 2 = some (2, 3) := by kernel_rfl
theorem Try.fd44_3 : tyField Try.prog 44 3 = some (3, 30) := by kernel_rfl
theorem Try.tp44 : tyPlace Try.prog 44 = some fun i => ([(0, 1), (1, 1), (2, 1), (3, 1)] : List (Nat × Nat))[i]? := by kernel_rfl
theorem Try.eql44 (y : Operand) (a0 b0 : Int) (a1 b1 : Int) (a2 b2 : Int) (a3 b3 : Int) : binOpA Try.prog .eql 44 y (.agg #[.int .u8 a0, .int .u8 a1, .int .i64 a2, .int .u64 a3]) (.agg #[.int .u8 b0, .int .u8 b1, .int .i64 b2, .int .u64 b3]) = some (.bool (a0 == b0 && (a1 == b1 && (a2 == b2 && (a3 == b3 && true))))) := by kernel_rfl
theorem Try.neq44 (y : Operand) (a0 b0 : Int) (a1 b1 : Int) (a2 b2 : Int) (a3 b3 : Int) : binOpA Try.prog .neq 44 y (.agg #[.int .u8 a0, .int .u8 a1, .int .i64 a2, .int .u64 a3]) (.agg #[.int .u8 b0, .int .u8 b1, .int .i64 b2, .int .u64 b3]) = some (.bool !(a0 == b0 && (a1 == b1 && (a2 == b2 && (a3 == b3 && true))))) := by kernel_rfl
theorem Try.tmk44 : tyMk Try.prog 44 = true := by kernel_rfl
theorem Try.by44 : tyBytes Try.prog 44 = some 24 := by kernel_rfl
theorem Try.zr44 : tyZero Try.prog 44 = some (.agg #[.int .u8 0, .int .u8 0, .int .i64 0, .int .u64 0]) := by kernel_rfl
theorem Try.ag50 : tyAgg Try.prog 50 = some false := by kernel_rfl
theorem Try.sz50 : tySize Try.prog 50 = some 1 := by kernel_rfl
theorem Try.tsl50 : tySli Try.prog 50 = true := by kernel_rfl
theorem Try.by50 : tyBytes Try.prog 50 = some 24 := by kernel_rfl
theorem Try.sl50 : tySlice Try.prog 50 = some 116 := by kernel_rfl
theorem Try.zr50 : tyZero Try.prog 50 = some (.slice none 0 0) := by kernel_rfl
theorem Try.ag62 : tyAgg Try.prog 62 = some false := by kernel_rfl
theorem Try.sz62 : tySize Try.prog 62 = some 1 := by kernel_rfl
theorem Try.tsl62 : tySli Try.prog 62 = true := by kernel_rfl
theorem Try.by62 : tyBytes Try.prog 62 = some 24 := by kernel_rfl
theorem Try.sl62 : tySlice Try.prog 62 = some 3 := by kernel_rfl
theorem Try.zr62 : tyZero Try.prog 62 = some (.slice none 0 0) := by kernel_rfl
theorem Try.ag65 : tyAgg Try.prog 65 = some false := by kernel_rfl
theorem Try.sz65 : tySize Try.prog 65 = some 1 := by kernel_rfl
theorem Try.tmk65 : tyMk Try.prog 65 = true := by kernel_rfl
theorem Try.by65 : tyBytes Try.prog 65 = some 4 := by kernel_rfl
theorem Try.zr65 : tyZero Try.prog 65 = some (.int .u32 0) := by kernel_rfl
theorem Try.pz65 : plainB (.int .u32 0) = true := by kernel_rfl
theorem Try.ag66 : tyAgg Try.prog 66 = some true := by kernel_rfl
theorem Try.sz66 : tySize Try.prog 66 = some 4 := by kernel_rfl
theorem Try.fd66_0 : tyField Try.prog 66 0 = some (0, 5) := by kernel_rfl
theorem Try.fd66_1 : tyField Try.prog 66 1 = some (1, 4) := by kernel_rfl
theorem Try.fd66_2 : tyField Try.prog 66 2 = some (2, 3) := by kernel_rfl
theorem Try.fd66_3 : tyField Try.prog 66 3 = some (3, 65) := by kernel_rfl
theorem Try.tp66 : tyPlace Try.prog 66 = some fun i => ([(0, 1), (1, 1), (2, 1), (3, 1)] : List (Nat × Nat))[i]? := by kernel_rfl
theorem Try.eql66 (y : Operand) (a0 b0 : Int) (a1 b1 : Bool) (a2 b2 : Int) (a3 b3 : Int) : binOpA Try.prog .eql 66 y (.agg #[.int .u8 a0, .bool a1, .int .i64 a2, .int .u32 a3]) (.agg #[.int .u8 b0, .bool b1, .int .i64 b2, .int .u32 b3]) = some (.bool (a0 == b0 && (a1 == b1 && (a2 == b2 && (a3 == b3 && true))))) := by kernel_rfl
theorem Try.neq66 (y : Operand) (a0 b0 : Int) (a1 b1 : Bool) (a2 b2 : Int) (a3 b3 : Int) : binOpA Try.prog .neq 66 y (.agg #[.int .u8 a0, .bool a1, .int .i64 a2, .int .u32 a3]) (.agg #[.int .u8 b0, .bool b1, .int .i64 b2, .int .u32 b3]) = some (.bool !(a0 == b0 && (a1 == b1 && (a2 == b2 && (a3 == b3 && true))))) := by kernel_rfl
theorem Try.tmk66 : tyMk Try.prog 66 = true := by kernel_rfl
theorem Try.by66 : tyBytes Try.prog 66 = some 24 := by kernel_rfl
theorem Try.zr66 : tyZero Try.prog 66 = some (.agg #[.int .u8 0, .bool false, .int .i64 0, .int .u32 0]) := by kernel_rfl
theorem Try.pz66 : plainB (.agg #[.int .u8 0, .bool false, .int .i64 0, .int .u32 0]) = true := by kernel_rfl
theorem Try.ag67 : tyAgg Try.prog 67 = some true := by kernel_rfl
theorem Try.sz67 : tySize Try.prog 67 = some 4 := by kernel_rfl
theorem Try.fd67_0 : tyField Try.prog 67 0 = some (0, 5) := by kernel_rfl
theorem Try.fd67_1 : tyField Try.prog 67 1 = some (1, 4) := by kernel_rfl
theorem Try.fd67_2 : tyField Try.prog 67 2 = some (2, 3) := by kernel_rfl
theorem Try.fd67_3 : tyField Try.prog 67 3 = some (3, 65) := by kernel_rfl
theorem Try.tp67 : tyPlace Try.prog 67 = some fun i => ([(0, 1), (1, 1), (2, 1), (3, 1)] : List (Nat × Nat))[i]? := by kernel_rfl
theorem Try.eql67 (y : Operand) (a0 b0 : Int) (a1 b1 : Bool) (a2 b2 : Int) (a3 b3 : Int) : binOpA Try.prog .eql 67 y (.agg #[.int .u8 a0, .bool a1, .int .i64 a2, .int .u32 a3]) (.agg #[.int .u8 b0, .bool b1, .int .i64 b2, .int .u32 b3]) = some (.bool (a0 == b0 && (a1 == b1 && (a2 == b2 && (a3 == b3 && true))))) := by kernel_rfl
theorem Try.neq67 (y : Operand) (a0 b0 : Int) (a1 b1 : Bool) (a2 b2 : Int) (a3 b3 : Int) : binOpA Try.prog .neq 67 y (.agg #[.int .u8 a0, .bool a1, .int .i64 a2, .int .u32 a3]) (.agg #[.int .u8 b0, .bool b1, .int .i64 b2, .int .u32 b3]) = some (.bool !(a0 == b0 && (a1 == b1 && (a2 == b2 && (a3 == b3 && true))))) := by kernel_rfl
theorem Try.tmk67 : tyMk Try.prog 67 = true := by kernel_rfl
theorem Try.by67 : tyBytes Try.prog 67 = some 24 := by kernel_rfl
theorem Try.zr67 : tyZero Try.prog 67 = some (.agg #[.int .u8 0, .bool false, .int .i64 0, .int .u32 0]) := by kernel_rfl
theorem Try.ag70 : tyAgg Try.prog 70 = some false := by kernel_rfl
theorem Try.sz70 : tySize Try.prog 70 = some 1 := by kernel_rfl
theorem Try.tsl70 : tySli Try.prog 70 = true := by kernel_rfl
theorem Try.by70 : tyBytes Try.prog 70 = some 24 := by kernel_rfl
theorem Try.sl70 : tySlice Try.prog 70 = some 77 := by kernel_rfl
theorem Try.zr70 : tyZero Try.prog 70 = some (.slice none 0 0) := by kernel_rfl
theorem Try.ag71 : tyAgg Try.prog 71 = some false := by kernel_rfl
theorem Try.sz71 : tySize Try.prog 71 = some 1 := by kernel_rfl
theorem Try.tsl71 : tySli Try.prog 71 = true := by kernel_rfl
theorem Try.by71 : tyBytes Try.prog 71 = some 24 := by kernel_rfl
theorem Try.sl71 : tySlice Try.prog 71 = some 4 := by kernel_rfl
theorem Try.zr71 : tyZero Try.prog 71 = some (.slice none 0 0) := by kernel_rfl
theorem Try.ag72 : tyAgg Try.prog 72 = some true := by kernel_rfl
theorem Try.sz72 : tySize Try.prog 72 = some 4 := by kernel_rfl
theorem Try.fd72_0 : tyField Try.prog 72 0 = some (0, 3) := by kernel_rfl
theorem Try.fd72_1 : tyField Try.prog 72 1 = some (1, 71) := by kernel_rfl
theorem Try.fd72_2 : tyField Try.prog 72 2 = some (2, 62) := by kernel_rfl
theorem Try.fd72_3 : tyField Try.prog 72 3 = some (3, 65) := by kernel_rfl
theorem Try.tp72 : tyPlace Try.prog 72 = some fun i => ([(0, 1), (1, 1), (2, 1), (3, 1)] : List (Nat × Nat))[i]? := by kernel_rfl
theorem Try.tmk72 : tyMk Try.prog 72 = true := by kernel_rfl
theorem Try.by72 : tyBytes Try.prog 72 = some 64 := by kernel_rfl
theorem Try.zr72 : tyZero Try.prog 72 = some (.agg #[.int .i64 0, .slice none 0 0, .slice none 0 0, .int .u32 0]) := by kernel_rfl
theorem Try.pz72 : plainB (.agg #[.int .i64 0, .slice none 0 0, .slice none 0 0, .int .u32 0]) = true := by kernel_rfl
theorem Try.ag73 : tyAgg Try.prog 73 = some true := by kernel_rfl
theorem Try.sz73 : tySize Try.prog 73 = some 4 := by kernel_rfl
theorem Try.fd73_0 : tyField Try.prog 73 0 = some (0, 3) := by kernel_rfl
theorem Try.fd73_1 : tyField Try.prog 73 1 = some (1, 71) := by kernel_rfl
theorem Try.fd73_2 : tyField Try.prog 73 2 = some (2, 62) := by kernel_rfl
theorem Try.fd73_3 : tyField Try.prog 73 3 = some (3, 65) := by kernel_rfl
theorem Try.tp73 : tyPlace Try.prog 73 = some fun i => ([(0, 1), (1, 1), (2, 1), (3, 1)] : List (Nat × Nat))[i]? := by kernel_rfl
theorem Try.tmk73 : tyMk Try.prog 73 = true := by kernel_rfl
theorem Try.by73 : tyBytes Try.prog 73 = some 64 := by kernel_rfl
theorem Try.zr73 : tyZero Try.prog 73 = some (.agg #[.int .i64 0, .slice none 0 0, .slice none 0 0, .int .u32 0]) := by kernel_rfl
theorem Try.ag76 : tyAgg Try.prog 76 = some true := by kernel_rfl
theorem Try.sz76 : tySize Try.prog 76 = some 2 := by kernel_rfl
theorem Try.fd76_0 : tyField Try.prog 76 0 = some (0, 5) := by kernel_rfl
theorem Try.fd76_1 : tyField Try.prog 76 1 = some (1, 5) := by kernel_rfl
theorem Try.tp76 : tyPlace Try.prog 76 = some fun i => ([(0, 1), (1, 1)] : List (Nat × Nat))[i]? := by kernel_rfl
theorem Try.eql76 (y : Operand) (a0 b0 : Int) (a1 b1 : Int) : binOpA Try.prog .eql 76 y (.agg #[.int .u8 a0, .int .u8 a1]) (.agg #[.int .u8 b0, .int .u8 b1]) = some (.bool (a0 == b0 && (a1 == b1 && true))) := by kernel_rfl
theorem Try.neq76 (y : Operand) (a0 b0 : Int) (a1 b1 : Int) : binOpA Try.prog .neq 76 y (.agg #[.int .u8 a0, .int .u8 a1]) (.agg #[.int .u8 b0, .int .u8 b1]) = some (.bool !(a0 == b0 && (a1 == b1 && true))) := by kernel_rfl
theorem Try.tmk76 : tyMk Try.prog 76 = true := by kernel_rfl
theorem Try.by76 : tyBytes Try.prog 76 = some 2 := by kernel_rfl
theorem Try.zr76 : tyZero Try.prog 76 = some (.agg #[.int .u8 0, .int .u8 0]) := by kernel_rfl
theorem Try.pz76 : plainB (.agg #[.int .u8 0, .int .u8 0]) = true := by kernel_rfl
theorem Try.ag77 : tyAgg Try.prog 77 = some true := by kernel_rfl
theorem Try.sz77 : tySize Try.prog 77 = some 2 := by kernel_rfl
theorem Try.fd77_0 : tyField Try.prog 77 0 = some (0, 5) := by kernel_rfl
theorem Try.fd77_1 : tyField Try.prog 77 1 = some (1, 5) := by kernel_rfl
theorem Try.tp77 : tyPlace Try.prog 77 = some fun i => ([(0, 1), (1, 1)] : List (Nat × Nat))[i]? := by kernel_rfl
theorem Try.eql77 (y : Operand) (a0 b0 : Int) (a1 b1 : Int) : binOpA Try.prog .eql 77 y (.agg #[.int .u8 a0, .int .u8 a1]) (.agg #[.int .u8 b0, .int .u8 b1]) = some (.bool (a0 == b0 && (a1 == b1 && true))) := by kernel_rfl
theorem Try.neq77 (y : Operand) (a0 b0 : Int) (a1 b1 : Int) : binOpA Try.prog .neq 77 y (.agg #[.int .u8 a0, .int .u8 a1]) (.agg #[.int .u8 b0, .int .u8 b1]) = some (.bool !(a0 == b0 && (a1 == b1 && true))) := by kernel_rfl
theorem Try.tmk77 : tyMk Try.prog 77 = true := by kernel_rfl
theorem Try.by77 : tyBytes Try.prog 77 = some 2 := by kernel_rfl
theorem Try.zr77 : tyZero Try.prog 77 = some (.agg #[.int .u8 0, .int .u8 0]) := by kernel_rfl
theorem Try.ag89 : tyAgg Try.prog 89 = some true := by kernel_rfl
theorem Try.sz89 : tySize Try.prog 89 = some 4 := by kernel_rfl
theorem Try.fd89_0 : tyField Try.prog 89 0 = some (0, 3) := by kernel_rfl
theorem Try.fd89_1 : tyField Try.prog 89 1 = some (1, 3) := by kernel_rfl
theorem Try.fd89_2 : tyField Try.prog 89 2 = some (2, 3) := by kernel_rfl
theorem Try.fd89_3 : tyField Try.prog 89 3 = some (3, 3) := by kernel_rfl
theorem Try.tp89 : tyPlace Try.prog 89 = some fun i => ([(0, 1), (1, 1), (2, 1), (3, 1)] : List (Nat × Nat))[i]? := by kernel_rfl
theorem Try.eql89 (y : Operand) (a0 b0 : Int) (a1 b1 : Int) (a2 b2 : Int) (a3 b3 : Int) : binOpA Try.prog .eql 89 y (.agg #[.int .i64 a0, .int .i64 a1, .int .i64 a2, .int .i64 a3]) (.agg #[.int .i64 b0, .int .i64 b1, .int .i64 b2, .int .i64 b3]) = some (.bool (a0 == b0 && (a1 == b1 && (a2 == b2 && (a3 == b3 && true))))) := by kernel_rfl
theorem Try.neq89 (y : Operand) (a0 b0 : Int) (a1 b1 : Int) (a2 b2 : Int) (a3 b3 : Int) : binOpA Try.prog .neq 89 y (.agg #[.int .i64 a0, .int .i64 a1, .int .i64 a2, .int .i64 a3]) (.agg #[.int .i64 b0, .int .i64 b1, .int .i64 b2, .int .i64 b3]) = some (.bool !(a0 == b0 && (a1 == b1 && (a2 == b2 && (a3 == b3 && true))))) := by kernel_rfl
theorem Try.tmk89 : tyMk Try.prog 89 = true := by kernel_rfl
theorem Try.by89 : tyBytes Try.prog 89 = some 32 := by kernel_rfl
theorem Try.zr89 : tyZero Try.prog 89 = some (.agg #[.int .i64 0, .int .i64 0, .int .i64 0, .int .i64 0]) := by kernel_rfl
theorem Try.pz89 : plainB (.agg #[.int .i64 0, .int .i64 0, .int .i64 0, .int .i64 0]) = true := by kernel_rfl
theorem Try.ag90 : tyAgg Try.prog 90 = some true := by kernel_rfl
theorem Try.sz90 : tySize Try.prog 90 = some 4 := by kernel_rfl
theorem Try.fd90_0 : tyField Try.prog 90 0 = some (0, 3) := by kernel_rfl
theorem Try.fd90_1 : tyField Try.prog 90 1 = some (1, 3) := by kernel_rfl
theorem Try.fd90_2 : tyField Try.prog 90 2 = some (2, 3) := by kernel_rfl
theorem Try.fd90_3 : tyField Try.prog 90 3 = some (3, 3) := by kernel_rfl
theorem Try.tp90 : tyPlace Try.prog 90 = some fun i => ([(0, 1), (1, 1), (2, 1), (3, 1)] : List (Nat × Nat))[i]? := by kernel_rfl
theorem Try.eql90 (y : Operand) (a0 b0 : Int) (a1 b1 : Int) (a2 b2 : Int) (a3 b3 : Int) : binOpA Try.prog .eql 90 y (.agg #[.int .i64 a0, .int .i64 a1, .int .i64 a2, .int .i64 a3]) (.agg #[.int .i64 b0, .int .i64 b1, .int .i64 b2, .int .i64 b3]) = some (.bool (a0 == b0 && (a1 == b1 && (a2 == b2 && (a3 == b3 && true))))) := by kernel_rfl
theorem Try.neq90 (y : Operand) (a0 b0 : Int) (a1 b1 : Int) (a2 b2 : Int) (a3 b3 : Int) : binOpA Try.prog .neq 90 y (.agg #[.int .i64 a0, .int .i64 a1, .int .i64 a2, .int .i64 a3]) (.agg #[.int .i64 b0, .int .i64 b1, .int .i64 b2, .int .i64 b3]) = some (.bool !(a0 == b0 && (a1 == b1 && (a2 == b2 && (a3 == b3 && true))))) := by kernel_rfl
theorem Try.tmk90 : tyMk Try.prog 90 = true := by kernel_rfl
theorem Try.by90 : tyBytes Try.prog 90 = some 32 := by kernel_rfl
theorem Try.zr90 : tyZero Try.prog 90 = some (.agg #[.int .i64 0, .int .i64 0, .int .i64 0, .int .i64 0]) := by kernel_rfl
theorem Try.ag100 : tyAgg Try.prog 100 = some false := by kernel_rfl
theorem Try.sz100 : tySize Try.prog 100 = some 1 := by kernel_rfl
theorem Try.tmk100 : tyMk Try.prog 100 = true := by kernel_rfl
theorem Try.tptr100 : tyPtr Try.prog 100 = true := by kernel_rfl
theorem Try.by100 : tyBytes Try.prog 100 = some 8 := by kernel_rfl
theorem Try.zr100 : tyZero Try.prog 100 = some (.pointer none) := by kernel_rfl
theorem Try.ag101 : tyAgg Try.prog 101 = some true := by kernel_rfl
theorem Try.sz101 : tySize Try.prog 101 = some 2 := by kernel_rfl
theorem Try.fd101_0 : tyField Try.prog 101 0 = some (0, 28) := by kernel_rfl
theorem Try.fd101_1 : tyField Try.prog 101 1 = some (1, 3) := by kernel_rfl
theorem Try.tp101 : tyPlace Try.prog 101 = some fun i => ([(0, 1), (1, 1)] : List (Nat × Nat))[i]? := by kernel_rfl
theorem Try.tmk101 : tyMk Try.prog 101 = true := by kernel_rfl
theorem Try.by101 : tyBytes Try.prog 101 = some 16 := by kernel_rfl
theorem Try.zr101 : tyZero Try.prog 101 = some (.agg #[.pointer none, .int .i64 0]) := by kernel_rfl
theorem Try.pz101 : plainB (.agg #[.pointer none, .int .i64 0]) = true := by kernel_rfl
theorem Try.ag102 : tyAgg Try.prog 102 = some true := by kernel_rfl
theorem Try.sz102 : tySize Try.prog 102 = some 2 := by kernel_rfl
theorem Try.fd102_0 : tyField Try.prog 102 0 = some (0, 28) := by kernel_rfl
theorem Try.fd102_1 : tyField Try.prog 102 1 = some (1, 3) := by kernel_rfl
theorem Try.tp102 : tyPlace Try.prog 102 = some fun i => ([(0, 1), (1, 1)] : List (Nat × Nat))[i]? := by kernel_rfl
theorem Try.tmk102 : tyMk Try.prog 102 = true := by kernel_rfl
theorem Try.by102 : tyBytes Try.prog 102 = some 16 := by kernel_rfl
theorem Try.zr102 : tyZero Try.prog 102 = some (.agg #[.pointer none, .int .i64 0]) := by kernel_rfl
theorem Try.ag103 : tyAgg Try.prog 103 = some false := by kernel_rfl
theorem Try.sz103 : tySize Try.prog 103 = some 1 := by kernel_rfl
theorem Try.tmk103 : tyMk Try.prog 103 = true := by kernel_rfl
theorem Try.tptr103 : tyPtr Try.prog 103 = true := by kernel_rfl
theorem Try.by103 : tyBytes Try.prog 103 = some 8 := by kernel_rfl
theorem Try.zr103 : tyZero Try.prog 103 = some (.pointer none) := by kernel_rfl
theorem Try.ag104 : tyAgg Try.prog 104 = some true := by kernel_rfl
theorem Try.sz104 : tySize Try.prog 104 = some 3 := by kernel_rfl
theorem Try.fd104_0 : tyField Try.prog 104 0 = some (0, 100) := by kernel_rfl
theorem Try.fd104_1 : tyField Try.prog 104 1 = some (1, 3) := by kernel_rfl
theorem Try.fd104_2 : tyField Try.prog 104 2 = some (2, 103) := by kernel_rfl
theorem Try.tp104 : tyPlace Try.prog 104 = some fun i => ([(0, 1), (1, 1), (2, 1)] : List (Nat × Nat))[i]? := by kernel_rfl
theorem Try.tmk104 : tyMk Try.prog 104 = true := by kernel_rfl
theorem Try.by104 : tyBytes Try.prog 104 = some 24 := by kernel_rfl
theorem Try.zr104 : tyZero Try.prog 104 = some (.agg #[.pointer none, .int .i64 0, .pointer none]) := by kernel_rfl
theorem Try.pz104 : plainB (.agg #[.pointer none, .int .i64 0, .pointer none]) = true := by kernel_rfl
theorem Try.ag105 : tyAgg Try.prog 105 = some true := by kernel_rfl
theorem Try.sz105 : tySize Try.prog 105 = some 3 := by kernel_rfl
theorem Try.fd105_0 : tyField Try.prog 105 0 = some (0, 100) := by kernel_rfl
theorem Try.fd105_1 : tyField Try.prog 105 1 = some (1, 3) := by kernel_rfl
theorem Try.fd105_2 : tyField Try.prog 105 2 = some (2, 103) := by kernel_rfl
theorem Try.tp105 : tyPlace Try.prog 105 = some fun i => ([(0, 1), (1, 1), (2, 1)] : List (Nat × Nat))[i]? := by kernel_rfl
theorem Try.tmk105 : tyMk Try.prog 105 = true := by kernel_rfl
theorem Try.by105 : tyBytes Try.prog 105 = some 24 := by kernel_rfl
theorem Try.zr105 : tyZero Try.prog 105 = some (.agg #[.pointer none, .int .i64 0, .pointer none]) := by kernel_rfl
theorem Try.ag108 : tyAgg Try.prog 108 = some false := by kernel_rfl
theorem Try.sz108 : tySize Try.prog 108 = some 1 := by kernel_rfl
theorem Try.tif108 : tyIfc Try.prog 108 = true := by kernel_rfl
theorem Try.by108 : tyBytes Try.prog 108 = some 16 := by kernel_rfl
theorem Try.zr108 : tyZero Try.prog 108 = some (.nilIface) := by kernel_rfl
theorem Try.ag109 : tyAgg Try.prog 109 = some false := by kernel_rfl
theorem Try.sz109 : tySize Try.prog 109 = some 1 := by kernel_rfl
theorem Try.tif109 : tyIfc Try.prog 109 = true := by kernel_rfl
theorem Try.by109 : tyBytes Try.prog 109 = some 16 := by kernel_rfl
theorem Try.zr109 : tyZero Try.prog 109 = some (.nilIface) := by kernel_rfl
theorem Try.ag112 : tyAgg Try.prog 112 = some true := by kernel_rfl
theorem Try.sz112 : tySize Try.prog 112 = some 3 := by kernel_rfl
theorem Try.fd112_0 : tyField Try.prog 112 0 = some (0, 3) := by kernel_rfl
theorem Try.fd112_1 : tyField Try.prog 112 1 = some (1, 4) := by kernel_rfl
theorem Try.fd112_2 : tyField Try.prog 112 2 = some (2, 65) := by kernel_rfl
theorem Try.tp112 : tyPlace Try.prog 112 = some fun i => ([(0, 1), (1, 1), (2, 1)] : List (Nat × Nat))[i]? := by kernel_rfl
theorem Try.eql112 (y : Operand) (a0 b0 : Int) (a1 b1 : Bool) (a2 b2 : Int) : binOpA Try.prog .eql 112 y (.agg #[.int .i64 a0, .bool a1, .int .u32 a2]) (.agg #[.int .i64 b0, .bool b1, .int .u32 b2]) = some (.bool (a0 == b0 && (a1 == b1 && (a2 == b2 && true)))) := by kernel_rfl
theorem Try.neq112 (y : Operand) (a0 b0 : Int) (a1 b1 : Bool) (a2 b2 : Int) : binOpA Try.prog .neq 112 y (.agg #[.int .i64 a0, .bool a1, .int .u32 a2]) (.agg #[.int .i64 b0, .bool b1, .int .u32 b2]) = some (.bool !(a0 == b0 && (a1 == b1 && (a2 == b2 && true)))) := by kernel_rfl
theorem Try.tmk112 : tyMk Try.prog 112 = true := by kernel_rfl
theorem Try.by112 : tyBytes Try.prog 112 = some 16 := by kernel_rfl
theorem Try.zr112 : tyZero Try.prog 112 = some (.agg #[.int .i64 0, .bool false, .int .u32 0]) := by kernel_rfl
theorem Try.pz112 : plainB (.agg #[.int .i64 0, .bool false, .int .u32 0]) = true := by kernel_rfl
theorem Try.ag113 : tyAgg Try.prog 113 = some true := by kernel_rfl
theorem Try.sz113 : tySize Try.prog 113 = some 3 := by kernel_rfl
theorem Try.fd113_0 : tyField Try.prog 113 0 = some (0, 3) := by kernel_rfl
theorem Try.fd113_1 : tyField Try.prog 113 1 = some (1, 4) := by kernel_rfl
theorem Try.fd113_2 : tyField Try.prog 113 2 = some (2, 65) := by kernel_rfl
theorem Try.tp113 : tyPlace Try.prog 113 = some fun i => ([(0, 1), (1, 1), (2, 1)] : List (Nat × Nat))[i]? := by kernel_rfl
theorem Try.eql113 (y : Operand) (a0 b0 : Int) (a1 b1 : Bool) (a2 b2 : Int) : binOpA Try.prog .eql 113 y (.agg #[.int .i64 a0, .bool a1, .int .u32 a2]) (.agg #[.int .i64 b0, .bool b1, .int .u32 b2]) = some (.bool (a0 == b0 && (a1 == b1 && (a2 == b2 && true)))) := by kernel_rfl
theorem Try.neq113 (y : Operand) (a0 b0 : Int) (a1 b1 : Bool) (a2 b2 : Int) : binOpA Try.prog .neq 113 y (.agg #[.int .i64 a0, .bool a1, .int .u32 a2]) (.agg #[.int .i64 b0, .bool b1, .int .u32 b2]) = some (.bool !(a0 == b0 && (a1 == b1 && (a2 == b2 && true)))) := by kernel_rfl
theorem Try.tmk113 : tyMk Try.prog 113 = true := by kernel_rfl
theorem Try.by113 : tyBytes Try.prog 113 = some 16 := by kernel_rfl
theorem Try.zr113 : tyZero Try.prog 113 = some (.agg #[.int .i64 0, .bool false, .int .u32 0]) := by kernel_rfl
theorem Try.ag116 : tyAgg Try.prog 116 = some false := by kernel_rfl
theorem Try.sz116 : tySize Try.prog 116 = some 1 := by kernel_rfl
theorem Try.tsl116 : tySli Try.prog 116 = true := by kernel_rfl
theorem Try.by116 : tyBytes Try.prog 116 = some 24 := by kernel_rfl
theorem Try.sl116 : tySlice Try.prog 116 = some 30 := by kernel_rfl
theorem Try.zr116 : tyZero Try.prog 116 = some (.slice none 0 0) := by kernel_rfl
theorem Try.ag119 : tyAgg Try.prog 119 = some true := by kernel_rfl
theorem Try.sz119 : tySize Try.prog 119 = some 4 := by kernel_rfl
theorem Try.fd119_0 : tyField Try.prog 119 0 = some (0, 5) := by kernel_rfl
theorem Try.fd119_1 : tyField Try.prog 119 1 = some (1, 3) := by kernel_rfl
theorem Try.fd119_2 : tyField Try.prog 119 2 = some (2, 30) := by kernel_rfl
theorem Try.fd119_3 : tyField Try.prog 119 3 = some (3, 30) := by kernel_rfl
theorem Try.tp119 : tyPlace Try.prog 119 = some fun i => ([(0, 1), (1, 1), (2, 1), (3, 1)] : List (Nat × Nat))[i]? := by kernel_rfl
theorem Try.eql119 (y : Operand) (a0 b0 : Int) (a1 b1 : Int) (a2 b2 : Int) (a3 b3 : Int) : binOpA Try.prog .eql 119 y (.agg #[.int .u8 a0, .int .i64 a1, .int .u64 a2, .int .u64 a3]) (.agg #[.int .u8 b0, .int .i64 b1, .int .u64 b2, .int .u64 b3]) = some (.bool (a0 == b0 && (a1 == b1 && (a2 == b2 && (a3 == b3 && true))))) := by kernel_rfl
theorem Try.neq119 (y : Operand) (a0 b0 : Int) (a1 b1 : Int) (a2 b2 : Int) (a3 b3 : Int) : binOpA Try.prog .neq 119 y (.agg #[.int .u8 a0, .int .i64 a1, .int .u64 a2, .int .u64 a3]) (.agg #[.int .u8 b0, .int .i64 b1, .int .u64 b2, .int .u64 b3]) = some (.bool !(a0 == b0 && (a1 == b1 && (a2 == b2 && (a3 == b3 && true))))) := by kernel_rfl
theorem Try.tmk119 : tyMk Try.prog 119 = true := by kernel_rfl
theorem Try.by119 : tyBytes Try.prog 119 = some 32 := by kernel_rfl
theorem Try.zr119 : tyZero Try.prog 119 = some (.agg #[.int .u8 0, .int .i64 0, .int .u64 0, .int .u64 0]) := by kernel_rfl
theorem Try.pz119 : plainB (.agg #[.int .u8 0, .int .i64 0, .int .u64 0, .int .u64 0]) = true := by kernel_rfl
theorem Try.ag120 : tyAgg Try.prog 120 = some true := by kernel_rfl
theorem Try.sz120 : tySize Try.prog 120 = some 4 := by kernel_rfl
theorem Try.fd120_0 : tyField Try.prog 120 0 = some (0, 5) := by kernel_rfl
theorem Try.fd120_1 : tyField Try.prog 120 1 = some (1, 3) := by kernel_rfl
theorem Try.fd120_2 : tyField Try.prog 120 2 = some (2, 30) := by kernel_rfl
theorem Try.fd120_3 : tyField Try.prog 120 3 = some (3, 30) := by kernel_rfl
theorem Try.tp120 : tyPlace Try.prog 120 = some fun i => ([(0, 1), (1, 1), (2, 1), (3, 1)] : List (Nat × Nat))[i]? := by kernel_rfl
theorem Try.eql120 (y : Operand) (a0 b0 : Int) (a1 b1 : Int) (a2 b2 : Int) (a3 b3 : Int) : binOpA Try.prog .eql 120 y (.agg #[.int .u8 a0, .int .i64 a1, .int .u64 a2, .int .u64 a3]) (.agg #[.int .u8 b0, .int .i64 b1, .int .u64 b2, .int .u64 b3]) = some (.bool (a0 == b0 && (a1 == b1 && (a2 == b2 && (a3 == b3 && true))))) := by kernel_rfl
theorem Try.neq120 (y : Operand) (a0 b0 : Int) (a1 b1 : Int) (a2 b2 : Int) (a3 b3 : Int) : binOpA Try.prog .neq 120 y (.agg #[.int .u8 a0, .int .i64 a1, .int .u64 a2, .int .u64 a3]) (.agg #[.int .u8 b0, .int .i64 b1, .int .u64 b2, .int .u64 b3]) = some (.bool !(a0 == b0 && (a1 == b1 && (a2 == b2 && (a3 == b3 && true))))) := by kernel_rfl
theorem Try.tmk120 : tyMk Try.prog 120 = true := by kernel_rfl
theorem Try.by120 : tyBytes Try.prog 120 = some 32 := by kernel_rfl
theorem Try.zr120 : tyZero Try.prog 120 = some (.agg #[.int .u8 0, .int .i64 0, .int .u64 0, .int .u64 0]) := by kernel_rfl
theorem Try.ag125 : tyAgg Try.prog 125 = some true := by kernel_rfl
theorem Try.sz125 : tySize Try.prog 125 = some 23 := by kernel_rfl
theorem Try.fd125_0 : tyField Try.prog 125 0 = some (0, 109) := by kernel_rfl
theorem Try.fd125_1 : tyField Try.prog 125 1 = some (1, 24) := by kernel_rfl
theorem Try.tp125 : tyPlace Try.prog 125 = some fun i => ([(0, 1), (1, 22)] : List (Nat × Nat))[i]? := by kernel_rfl
theorem Try.tmk125 : tyMk Try.prog 125 = true := by kernel_rfl
theorem Try.by125 : tyBytes Try.prog 125 = some 192 := by kernel_rfl
theorem Try.zr125 : tyZero Try.prog 125 = some (.agg #[.nilIface, .int .i64 0, .int .i64 0, .int .i64 0, .int .i64 0, .int .i64 0, .int .i64 0, .int .i64 0, .int .i64 0, .int .i64 0, .int .i64 0, .int .i64 0, .int .i64 0, .int .i64 0, .int .i64 0, .int .i64 0, .int .i64 0, .int .i64 0, .int .i64 0, .int .i64 0, .int .i64 0, .int .i64 0, .int .i64 0]) := by kernel_rfl
theorem Try.pz125 : plainB (.agg #[.nilIface, .int .i64 0, .int .i64 0, .int .i64 0, .int .i64 0, .int .i64 0, .int .i64 0, .int .i64 0, .int .i64 0, .int .i64 0, .int .i64 0, .int .i64 0, .int .i64 0, .int .i64 0, .int .i64 0, .int .i64 0, .int .i64 0, .int .i64 0, .int .i64 0, .int .i64 0, .int .i64 0, .int .i64 0, .int .i64 0]) = true := by kernel_rfl
theorem Try.ag126 : tyAgg Try.prog 126 = some true := by kernel_rfl
theorem Try.sz126 : tySize Try.prog 126 = some 23 := by kernel_rfl
theorem Try.fd126_0 : tyField Try.prog 126 0 = some (0, 109) := by kernel_rfl
theorem Try.fd126_1 : tyField Try.prog 126 1 = some (1, 24) := by kernel_rfl
theorem Try.tp126 : tyPlace Try.prog 126 = some fun i => ([(0, 1), (1, 22)] : List (Nat × Nat))[i]? := by kernel_rfl
theorem Try.tmk126 : tyMk Try.prog 126 = true := by kernel_rfl
theorem Try.by126 : tyBytes Try.prog 126 = some 192 := by kernel_rfl
theorem Try.zr126 : tyZero Try.prog 126 = some (.agg #[.nilIface, .int .i64 0, .int .i64 0, .int .i64 0, .int .i64 0, .int .i64 0, .int .i64 0, .int .i64 0, .int .i64 0, .int .i64 0, .int .i64 0, .int .i64 0, .int .i64 0, .int .i64 0, .int .i64 0, .int .i64 0, .int .i64 0, .int .i64 0, .int .i64 0, .int .i64 0, .int .i64 0, .int .i64 0, .int .i64 0]) := by kernel_rfl
theorem Try.ag127 : tyAgg Try.prog 127 = some true := by kernel_rfl
theorem Try.sz127 : tySize Try.prog 127 = some 24 := by kernel_rfl
theorem Try.fd127_0 : tyField Try.prog 127 0 = some (0, 126) := by kernel_rfl
theorem Try.fd127_1 : tyField Try.prog 127 1 = some (23, 3) := by kernel_rfl
theorem Try.tp127 : tyPlace Try.prog 127 = some fun i => ([(0, 23), (23, 1)] : List (Nat × Nat))[i]? := by kernel_rfl
theorem Try.tmk127 : tyMk Try.prog 127 = true := by kernel_rfl
theorem Try.by127 : tyBytes Try.prog 127 = some 200 := by kernel_rfl
theorem Try.zr127 : tyZero Try.prog 127 = some (.agg #[.nilIface, .int .i64 0, .int .i64 0, .int .i64 0, .int .i64 0, .int .i64 0, .int .i64 0, .int .i64 0, .int .i64 0, .int .i64 0, .int .i64 0, .int .i64 0, .int .i64 0, .int .i64 0, .int .i64 0, .int .i64 0, .int .i64 0, .int .i64 0, .int .i64 0, .int .i64 0, .int .i64 0, .int .i64 0, .int .i64 0, .int .i64 0]) := by kernel_rfl
theorem Try.pz127 : plainB (.agg #[.nilIface, .int .i64 0, .int .i64 0, .int .i64 0, .int .i64 0, .int .i64 0, .int .i64 0, .int .i64 0, .int .i64 0, .int .i64 0, .int .i64 0, .int .i64 0, .int .i64 0, .int .i64 0, .int .i64 0, .int .i64 0, .int .i64 0, .int .i64 0, .int .i64 0, .int .i64 0, .int .i64 0, .int .i64 0, .int .i64 0, .int .i64 0]) = true := by kernel_rfl
theorem Try.ag128 : tyAgg Try.prog 128 = some true := by kernel_rfl
theorem Try.sz128 : tySize Try.prog 128 = some 24 := by kernel_rfl
theorem Try.fd128_0 : tyField Try.prog 128 0 = some (0, 126) := by kernel_rfl
theorem Try.fd128_1 : tyField Try.prog 128 1 = some (23, 3) := by kernel_rfl
theorem Try.tp128 : tyPlace Try.prog 128 = some fun i => ([(0, 23), (23, 1)] : List (Nat × Nat))[i]? := by kernel_rfl
theorem Try.tmk128 : tyMk Try.prog 128 = true := by kernel_rfl
theorem Try.by128 : tyBytes Try.prog 128 = some 200 := by kernel_rfl
theorem Try.zr128 : tyZero Try.prog 128 = some (.agg #[.nilIface, .int .i64 0, .int .i64 0, .int .i64 0, .int .i64 0, .int .i64 0, .int .i64 0, .int .i64 0, .int .i64 0, .int .i64 0, .int .i64 0, .int .i64 0, .int .i64 0, .int .i64 0, .int .i64 0, .int .i64 0, .int .i64 0, .int .i64 0, .int .i64 0, .int .i64 0, .int .i64 0, .int .i64 0, .int .i64 0, .int .i64 0]) := by kernel_rfl
theorem Try.ag133 : tyAgg Try.prog 133 = some true := by kernel_rfl
theorem Try.sz133 : tySize Try.prog 133 = some 3 := by kernel_rfl
theorem Try.fd133_0 : tyField Try.prog 133 0 = some (0, 3) := by kernel_rfl
theorem Try.fd133_1 : tyField Try.prog 133 1 = some (1, 3) := by kernel_rfl
theorem Try.fd133_2 : tyField Try.prog 133 2 = some (2, 3) := by kernel_rfl
theorem Try.tp133 : tyPlace Try.prog 133 = some fun i => ([(0, 1), (1, 1), (2, 1)] : List (Nat × Nat))[i]? := by kernel_rfl
theorem Try.eql133 (y : Operand) (a0 b0 : Int) (a1 b1 : Int) (a2 b2 : Int) : binOpA Try.prog .eql 133 y (.agg #[.int .i64 a0, .int .i64 a1, .int .i64 a2]) (.agg #[.int .i64 b0, .int .i64 b1, .int .i64 b2]) = some (.bool (a0 == b0 && (a1 == b1 && (a2 == b2 && true)))) := by kernel_rfl
theorem Try.neq133 (y : Operand) (a0 b0 : Int) (a1 b1 : Int) (a2 b2 : Int) : binOpA Try.prog .neq 133 y (.agg #[.int .i64 a0, .int .i64 a1, .int .i64 a2]) (.agg #[.int .i64 b0, .int .i64 b1, .int .i64 b2]) = some (.bool !(a0 == b0 && (a1 == b1 && (a2 == b2 && true)))) := by kernel_rfl
theorem Try.tmk133 : tyMk Try.prog 133 = true := by kernel_rfl
theorem Try.by133 : tyBytes Try.prog 133 = some 24 := by kernel_rfl
theorem Try.zr133 : tyZero Try.prog 133 = some (.agg #[.int .i64 0, .int .i64 0, .int .i64 0]) := by kernel_rfl
theorem Try.pz133 : plainB (.agg #[.int .i64 0, .int .i64 0, .int .i64 0]) = true := by kernel_rfl
theorem Try.ag134 : tyAgg Try.prog 134 = some true := by kernel_rfl
theorem Try.sz134 : tySize Try.prog 134 = some 3 := by kernel_rfl
theorem Try.fd134_0 : tyField Try.prog 134 0 = some (0, 3) := by kernel_rfl
theorem Try.fd134_1 : tyField Try.prog 134 1 = some (1, 3) := by kernel_rfl
theorem Try.fd134_2 : tyField Try.prog 134 2 = some (2, 3) := by kernel_rfl
theorem Try.tp134 : tyPlace Try.prog 134 = some fun i => ([(0, 1), (1, 1), (2, 1)] : List (Nat × Nat))[i]? := by kernel_rfl
theorem Try.eql134 (y : Operand) (a0 b0 : Int) (a1 b1 : Int) (a2 b2 : Int) : binOpA Try.prog .eql 134 y (.agg #[.int .i64 a0, .int .i64 a1, .int .i64 a2]) (.agg #[.int .i64 b0, .int .i64 b1, .int .i64 b2]) = some (.bool (a0 == b0 && (a1 == b1 && (a2 == b2 && true)))) := by kernel_rfl
theorem Try.neq134 (y : Operand) (a0 b0 : Int) (a1 b1 : Int) (a2 b2 : Int) : binOpA Try.prog .neq 134 y (.agg #[.int .i64 a0, .int .i64 a1, .int .i64 a2]) (.agg #[.int .i64 b0, .int .i64 b1, .int .i64 b2]) = some (.bool !(a0 == b0 && (a1 == b1 && (a2 == b2 && true)))) := by kernel_rfl
theorem Try.tmk134 : tyMk Try.prog 134 = true := by kernel_rfl
theorem Try.by134 : tyBytes Try.prog 134 = some 24 := by kernel_rfl
theorem Try.zr134 : tyZero Try.prog 134 = some (.agg #[.int .i64 0, .int .i64 0, .int .i64 0]) := by kernel_rfl
theorem Try.ag135 : tyAgg Try.prog 135 = some true := by kernel_rfl
theorem Try.sz135 : tySize Try.prog 135 = some 12 := by kernel_rfl
theorem Try.tp135 : tyPlace Try.prog 135 = some fun i => some (i * 3, 3) := by kernel_rfl
theorem Try.by135 : tyBytes Try.prog 135 = some 96 := by kernel_rfl
theorem Try.ar135 : tyArray Try.prog 135 = some (4, 134) := by kernel_rfl
theorem Try.zr135 : tyZero Try.prog 135 = some (.agg #[.int .i64 0, .int .i64 0, .int .i64 0, .int .i64 0, .int .i64 0, .int .i64 0, .int .i64 0, .int .i64 0, .int .i64 0, .int .i64 0, .int .i64 0, .int .i64 0]) := by kernel_rfl
theorem Try.pz135 : plainB (.agg #[.int .i64 0, .int .i64 0, .int .i64 0, .int .i64 0, .int .i64 0, .int .i64 0, .int .i64 0, .int .i64 0, .int .i64 0, .int .i64 0, .int .i64 0, .int .i64 0]) = true := by kernel_rfl
theorem Try.ag151 : tyAgg Try.prog 151 = some false := by kernel_rfl
theorem Try.sz151 : tySize Try.prog 151 = some 1 := by kernel_rfl
theorem Try.tsl151 : tySli Try.prog 151 = true := by kernel_rfl
theorem Try.by151 : tyBytes Try.prog 151 = some 24 := by kernel_rfl
theorem Try.sl151 : tySlice Try.prog 151 = some 5 := by kernel_rfl
theorem Try.zr151 : tyZero Try.prog 151 = some (.slice none 0 0) := by kernel_rfl
theorem Try.ag152 : tyAgg Try.prog 152 = some true := by kernel_rfl
theorem Try.sz152 : tySize Try.prog 152 = some 2 := by kernel_rfl
theorem Try.fd152_0 : tyField Try.prog 152 0 = some (0, 116) := by kernel_rfl
theorem Try.fd152_1 : tyField Try.prog 152 1 = some (1, 151) := by kernel_rfl
theorem Try.tp152 : tyPlace Try.prog 152 = some fun i => ([(0, 1), (1, 1)] : List (Nat × Nat))[i]? := by kernel_rfl
theorem Try.tmk152 : tyMk Try.prog 152 = true := by kernel_rfl
theorem Try.by152 : tyBytes Try.prog 152 = some 48 := by kernel_rfl
theorem Try.zr152 : tyZero Try.prog 152 = some (.agg #[.slice none 0 0, .slice none 0 0]) := by kernel_rfl
theorem Try.pz152 : plainB (.agg #[.slice none 0 0, .slice none 0 0]) = true := by kernel_rfl
theorem Try.ag153 : tyAgg Try.prog 153 = some true := by kernel_rfl
theorem Try.sz153 : tySize Try.prog 153 = some 2 := by kernel_rfl
theorem Try.fd153_0 : tyField Try.prog 153 0 = some (0, 116) := by kernel_rfl
theorem Try.fd153_1 : tyField Try.prog 153 1 = some (1, 151) := by kernel_rfl
theorem Try.tp153 : tyPlace Try.prog 153 = some fun i => ([(0, 1), (1, 1)] : List (Nat × Nat))[i]? := by kernel_rfl
theorem Try.tmk153 : tyMk Try.prog 153 = true := by kernel_rfl
theorem Try.by153 : tyBytes Try.prog 153 = some 48 := by kernel_rfl
theorem Try.zr153 : tyZero Try.prog 153 = some (.agg #[.slice none 0 0, .slice none 0 0]) := by kernel_rfl
theorem Try.ag158 : tyAgg Try.prog 158 = some true := by kernel_rfl
theorem Try.sz158 : tySize Try.prog 158 = some 19 := by kernel_rfl
theorem Try.tp158 : tyPlace Try.prog 158 = some fun i => some (i * 1, 1) := by kernel_rfl
theorem Try.by158 : tyBytes Try.prog 158 = some 152 := by kernel_rfl
theorem Try.ar158 : tyArray Try.prog 158 = some (19, 3) := by kernel_rfl
theorem Try.zr158 : tyZero Try.prog 158 = some (.agg #[.int .i64 0, .int .i64 0, .int .i64 0, .int .i64 0, .int .i64 0, .int .i64 0, .int .i64 0, .int .i64 0, .int .i64 0, .int .i64 0, .int .i64 0, .int .i64 0, .int .i64 0, .int .i64 0, .int .i64 0, .int .i64 0, .int .i64 0, .int .i64 0, .int .i64 0]) := by kernel_rfl
theorem Try.pz158 : plainB (.agg #[.int .i64 0, .int .i64 0, .int .i64 0, .int .i64 0, .int .i64 0, .int .i64 0, .int .i64 0, .int .i64 0, .int .i64 0, .int .i64 0, .int .i64 0, .int .i64 0, .int .i64 0, .int .i64 0, .int .i64 0, .int .i64 0, .int .i64 0, .int .i64 0, .int .i64 0]) = true := by kernel_rfl
theorem Try.ag159 : tyAgg Try.prog 159 = some false := by kernel_rfl
theorem Try.sz159 : tySize Try.prog 159 = some 1 := by kernel_rfl
theorem Try.tmk159 : tyMk Try.prog 159 = true := by kernel_rfl
theorem Try.by159 : tyBytes Try.prog 159 = some 8 := by kernel_rfl
theorem Try.zr159 : tyZero Try.prog 159 = some (.int .i64 0) := by kernel_rfl
theorem Try.ag168 : tyAgg Try.prog 168 = some true := by kernel_rfl
theorem Try.sz168 : tySize Try.prog 168 = some 5 := by kernel_rfl
theorem Try.tp168 : tyPlace Try.prog 168 = some fun i => some (i * 1, 1) := by kernel_rfl
theorem Try.by168 : tyBytes Try.prog 168 = some 40 := by kernel_rfl
theorem Try.ar168 : tyArray Try.prog 168 = some (5, 167) := by kernel_rfl
theorem Try.zr168 : tyZero Try.prog 168 = some (.agg #[.nilFunc, .nilFunc, .nilFunc, .nilFunc, .nilFunc]) := by kernel_rfl
theorem Try.pz168 : plainB (.agg #[.nilFunc, .nilFunc, .nilFunc, .nilFunc, .nilFunc]) = true := by kernel_rfl
theorem Try.ag170 : tyAgg Try.prog 170 = some true := by kernel_rfl
theorem Try.sz170 : tySize Try.prog 170 = some 23 := by kernel_rfl
theorem Try.fd170_0 : tyField Try.prog 170 0 = some (0, 109) := by kernel_rfl
theorem Try.fd170_1 : tyField Try.prog 170 1 = some (1, 24) := by kernel_rfl
theorem Try.tp170 : tyPlace Try.prog 170 = some fun i => ([(0, 1), (1, 22)] : List (Nat × Nat))[i]? := by kernel_rfl
theorem Try.tmk170 : tyMk Try.prog 170 = true := by kernel_rfl
theorem Try.by170 : tyBytes Try.prog 170 = some 192 := by kernel_rfl
theorem Try.zr170 : tyZero Try.prog 170 = some (.agg #[.nilIface, .int .i64 0, .int .i64 0, .int .i64 0, .int .i64 0, .int .i64 0, .int .i64 0, .int .i64 0, .int .i64 0, .int .i64 0, .int .i64 0, .int .i64 0, .int .i64 0, .int .i64 0, .int .i64 0, .int .i64 0, .int .i64 0, .int .i64 0, .int .i64 0, .int .i64 0, .int .i64 0, .int .i64 0, .int .i64 0]) := by kernel_rfl
theorem Try.ag171 : tyAgg Try.prog 171 = some true := by kernel_rfl
theorem Try.sz171 : tySize Try.prog 171 = some 23 := by kernel_rfl
theorem Try.fd171_0 : tyField Try.prog 171 0 = some (0, 109) := by kernel_rfl
theorem Try.fd171_1 : tyField Try.prog 171 1 = some (1, 24) := by kernel_rfl
theorem Try.tp171 : tyPlace Try.prog 171 = some fun i => ([(0, 1), (1, 22)] : List (Nat × Nat))[i]? := by kernel_rfl
theorem Try.tmk171 : tyMk Try.prog 171 = true := by kernel_rfl
theorem Try.by171 : tyBytes Try.prog 171 = some 192 := by kernel_rfl
theorem Try.zr171 : tyZero Try.prog 171 = some (.agg #[.nilIface, .int .i64 0, .int .i64 0, .int .i64 0, .int .i64 0, .int .i64 0, .int .i64 0, .int .i64 0, .int .i64 0, .int .i64 0, .int .i64 0, .int .i64 0, .int .i64 0, .int .i64 0, .int .i64 0, .int .i64 0, .int .i64 0, .int .i64 0, .int .i64 0, .int .i64 0, .int .i64 0, .int .i64 0, .int .i64 0]) := by kernel_rfl
theorem Try.ag173 : tyAgg Try.prog 173 = some true := by kernel_rfl
theorem Try.sz173 : tySize Try.prog 173 = some 3 := by kernel_rfl
theorem Try.fd173_0 : tyField Try.prog 173 0 = some (0, 3) := by kernel_rfl
theorem Try.fd173_1 : tyField Try.prog 173 1 = some (1, 3) := by kernel_rfl
theorem Try.fd173_2 : tyField Try.prog 173 2 = some (2, 3) := by kernel_rfl
theorem Try.tp173 : tyPlace Try.prog 173 = some fun i => ([(0, 1), (1, 1), (2, 1)] : List (Nat × Nat))[i]? := by kernel_rfl
theorem Try.eql173 (y : Operand) (a0 b0 : Int) (a1 b1 : Int) (a2 b2 : Int) : binOpA Try.prog .eql 173 y (.agg #[.int .i64 a0, .int .i64 a1, .int .i64 a2]) (.agg #[.int .i64 b0, .int .i64 b1, .int .i64 b2]) = some (.bool (a0 == b0 && (a1 == b1 && (a2 == b2 && true)))) := by kernel_rfl
theorem Try.neq173 (y : Operand) (a0 b0 : Int) (a1 b1 : Int) (a2 b2 : Int) : binOpA Try.prog .neq 173 y (.agg #[.int .i64 a0, .int .i64 a1, .int .i64 a2]) (.agg #[.int .i64 b0, .int .i64 b1, .int .i64 b2]) = some (.bool !(a0 == b0 && (a1 == b1 && (a2 == b2 && true)))) := by kernel_rfl
theorem Try.tmk173 : tyMk Try.prog 173 = true := by kernel_rfl
theorem Try.by173 : tyBytes Try.prog 173 = some 24 := by kernel_rfl
theorem Try.zr173 : tyZero Try.prog 173 = some (.agg #[.int .i64 0, .int .i64 0, .int .i64 0]) := by kernel_rfl
theorem Try.ag174 : tyAgg Try.prog 174 = some true := by kernel_rfl
theorem Try.sz174 : tySize Try.prog 174 = some 3 := by kernel_rfl
theorem Try.fd174_0 : tyField Try.prog 174 0 = some (0, 3) := by kernel_rfl
theorem Try.fd174_1 : tyField Try.prog 174 1 = some (1, 3) := by kernel_rfl
theorem Try.fd174_2 : tyField Try.prog 174 2 = some (2, 3) := by kernel_rfl
theorem Try.tp174 : tyPlace Try.prog 174 = some fun i => ([(0, 1), (1, 1), (2, 1)] : List (Nat × Nat))[i]? := by kernel_rfl
theorem Try.eql174 (y : Operand) (a0 b0 : Int) (a1 b1 : Int) (a2 b2 : Int) : binOpA Try.prog .eql 174 y (.agg #[.int .i64 a0, .int .i64 a1, .int .i64 a2]) (.agg #[.int .i64 b0, .int .i64 b1, .int .i64 b2]) = some (.bool (a0 == b0 && (a1 == b1 && (a2 == b2 && true)))) := by kernel_rfl
theorem Try.neq174 (y : Operand) (a0 b0 : Int) (a1 b1 : Int) (a2 b2 : Int) : binOpA Try.prog .neq 174 y (.agg #[.int .i64 a0, .int .i64 a1, .int .i64 a2]) (.agg #[.int .i64 b0, .int .i64 b1, .int .i64 b2]) = some (.bool !(a0 == b0 && (a1 == b1 && (a2 == b2 && true)))) := by kernel_rfl
theorem Try.tmk174 : tyMk Try.prog 174 = true := by kernel_rfl
theorem Try.by174 : tyBytes Try.prog 174 = some 24 := by kernel_rfl
theorem Try.zr174 : tyZero Try.prog 174 = some (.agg #[.int .i64 0, .int .i64 0, .int .i64 0]) := by kernel_rfl
theorem Try.ag179 : tyAgg Try.prog 179 = some false := by kernel_rfl
theorem Try.sz179 : tySize Try.prog 179 = some 1 := by kernel_rfl
theorem Try.tsl179 : tySli Try.prog 179 = true := by kernel_rfl
theorem Try.by179 : tyBytes Try.prog 179 = some 24 := by kernel_rfl
theorem Try.sl179 : tySlice Try.prog 179 = some 134 := by kernel_rfl
theorem Try.zr179 : tyZero Try.prog 179 = some (.slice none 0 0) := by kernel_rfl
theorem Try.ag187 : tyAgg Try.prog 187 = some false := by kernel_rfl
theorem Try.sz187 : tySize Try.prog 187 = some 1 := by kernel_rfl
theorem Try.tmk187 : tyMk Try.prog 187 = true := by kernel_rfl
theorem Try.by187 : tyBytes Try.prog 187 = some 8 := by kernel_rfl
theorem Try.zr187 : tyZero Try.prog 187 = some (.int .u64 0) := by kernel_rfl
theorem Try.ag189 : tyAgg Try.prog 189 = some true := by kernel_rfl
theorem Try.sz189 : tySize Try.prog 189 = some 4 := by kernel_rfl
theorem Try.fd189_0 : tyField Try.prog 189 0 = some (0, 17) := by kernel_rfl
theorem Try.fd189_1 : tyField Try.prog 189 1 = some (1, 17) := by kernel_rfl
theorem Try.fd189_2 : tyField Try.prog 189 2 = some (2, 17) := by kernel_rfl
theorem Try.fd189_3 : tyField Try.prog 189 3 = some (3, 9) := by kernel_rfl
theorem Try.tp189 : tyPlace Try.prog 189 = some fun i => ([(0, 1), (1, 1), (2, 1), (3, 1)] : List (Nat × Nat))[i]? := by kernel_rfl
theorem Try.tmk189 : tyMk Try.prog 189 = true := by kernel_rfl
theorem Try.by189 : tyBytes Try.prog 189 = some 40 := by kernel_rfl
theorem Try.zr189 : tyZero Try.prog 189 = some (.agg #[.pointer none, .pointer none, .pointer none, .string ⟨#[]⟩]) := by kernel_rfl
theorem Try.pz189 : plainB (.agg #[.pointer none, .pointer none, .pointer none, .string ⟨#[]⟩]) = true := by kernel_rfl
theorem Try.ag190 : tyAgg Try.prog 190 = some true := by kernel_rfl
theorem Try.sz190 : tySize Try.prog 190 = some 4 := by kernel_rfl
theorem Try.fd190_0 : tyField Try.prog 190 0 = some (0, 17) := by kernel_rfl
theorem Try.fd190_1 : tyField Try.prog 190 1 = some (1, 17) := by kernel_rfl
theorem Try.fd190_2 : tyField Try.prog 190 2 = some (2, 17) := by kernel_rfl
theorem Try.fd190_3 : tyField Try.prog 190 3 = some (3, 9) := by kernel_rfl
theorem Try.tp190 : tyPlace Try.prog 190 = some fun i => ([(0, 1), (1, 1), (2, 1), (3, 1)] : List (Nat × Nat))[i]? := by kernel_rfl
theorem Try.tmk190 : tyMk Try.prog 190 = true := by kernel_rfl
theorem Try.by190 : tyBytes Try.prog 190 = some 40 := by kernel_rfl
theorem Try.zr190 : tyZero Try.prog 190 = some (.agg #[.pointer none, .pointer none, .pointer none, .string ⟨#[]⟩]) := by kernel_rfl
theorem Try.ag191 : tyAgg Try.prog 191 = some true := by kernel_rfl
theorem Try.sz191 : tySize Try.prog 191 = some 0 := by kernel_rfl
theorem Try.tp191 : tyPlace Try.prog 191 = some fun i => some (i * 1, 1) := by kernel_rfl
theorem Try.by191 : tyBytes Try.prog 191 = some 0 := by kernel_rfl
theorem Try.ar191 : tyArray Try.prog 191 = some (0, 16) := by kernel_rfl
theorem Try.zr191 : tyZero Try.prog 191 = some (.agg #[]) := by kernel_rfl
theorem Try.pz191 : plainB (.agg #[]) = true := by kernel_rfl
theorem Try.ag192 : tyAgg Try.prog 192 = some true := by kernel_rfl
theorem Try.sz192 : tySize Try.prog 192 = some 0 := by kernel_rfl
theorem Try.fd192_0 : tyField Try.prog 192 0 = some (0, 191) := by kernel_rfl
theorem Try.tp192 : tyPlace Try.prog 192 = some fun i => ([(0, 0)] : List (Nat × Nat))[i]? := by kernel_rfl
theorem Try.tmk192 : tyMk Try.prog 192 = true := by kernel_rfl
theorem Try.by192 : tyBytes Try.prog 192 = some 0 := by kernel_rfl
theorem Try.zr192 : tyZero Try.prog 192 = some (.agg #[]) := by kernel_rfl
theorem Try.ag193 : tyAgg Try.prog 193 = some true := by kernel_rfl
theorem Try.sz193 : tySize Try.prog 193 = some 0 := by kernel_rfl
theorem Try.fd193_0 : tyField Try.prog 193 0 = some (0, 191) := by kernel_rfl
theorem Try.tp193 : tyPlace Try.prog 193 = some fun i => ([(0, 0)] : List (Nat × Nat))[i]? := by kernel_rfl
theorem Try.tmk193 : tyMk Try.prog 193 = true := by kernel_rfl
theorem Try.by193 : tyBytes Try.prog 193 = some 0 := by kernel_rfl
theorem Try.zr193 : tyZero Try.prog 193 = some (.agg #[]) := by kernel_rfl
theorem Try.ag194 : tyAgg Try.prog 194 = some false := by kernel_rfl
theorem Try.sz194 : tySize Try.prog 194 = some 1 := by kernel_rfl
theorem Try.tmk194 : tyMk Try.prog 194 = true := by kernel_rfl
theorem Try.by194 : tyBytes Try.prog 194 = some 1 := by kernel_rfl
theorem Try.zr194 : tyZero Try.prog 194 = some (.int .u8 0) := by kernel_rfl
theorem Try.ag195 : tyAgg Try.prog 195 = some false := by kernel_rfl
theorem Try.sz195 : tySize Try.prog 195 = some 1 := by kernel_rfl
theorem Try.tmk195 : tyMk Try.prog 195 = true := by kernel_rfl
theorem Try.by195 : tyBytes Try.prog 195 = some 1 := by kernel_rfl
theorem Try.zr195 : tyZero Try.prog 195 = some (.int .u8 0) := by kernel_rfl
theorem Try.ag197 : tyAgg Try.prog 197 = some false := by kernel_rfl
theorem Try.sz197 : tySize Try.prog 197 = some 1 := by kernel_rfl
theorem Try.tmk197 : tyMk Try.prog 197 = true := by kernel_rfl
theorem Try.tptr197 : tyPtr Try.prog 197 = true := by kernel_rfl
theorem Try.by197 : tyBytes Try.prog 197 = some 8 := by kernel_rfl
theorem Try.zr197 : tyZero Try.prog 197 = some (.pointer none) := by kernel_rfl
theorem Try.ag198 : tyAgg Try.prog 198 = some false := by kernel_rfl
theorem Try.sz198 : tySize Try.prog 198 = some 1 := by kernel_rfl
theorem Try.tmk198 : tyMk Try.prog 198 = true := by kernel_rfl
theorem Try.by198 : tyBytes Try.prog 198 = some 4 := by kernel_rfl
theorem Try.zr198 : tyZero Try.prog 198 = some (.int .i32 0) := by kernel_rfl
theorem Try.ag199 : tyAgg Try.prog 199 = some false := by kernel_rfl
theorem Try.sz199 : tySize Try.prog 199 = some 1 := by kernel_rfl
theorem Try.tmk199 : tyMk Try.prog 199 = true := by kernel_rfl
theorem Try.by199 : tyBytes Try.prog 199 = some 4 := by kernel_rfl
theorem Try.zr199 : tyZero Try.prog 199 = some (.int .i32 0) := by kernel_rfl
theorem Try.ag200 : tyAgg Try.prog 200 = some true := by kernel_rfl
theorem Try.sz200 : tySize Try.prog 200 = some 11 := by kernel_rfl
theorem Try.fd200_0 : tyField Try.prog 200 0 = some (0, 12) := by kernel_rfl
theorem Try.fd200_1 : tyField Try.prog 200 1 = some (1, 12) := by kernel_rfl
theorem Try.fd200_2 : tyField Try.prog 200 2 = some (2, 65) := by kernel_rfl
theorem Try.fd200_3 : tyField Try.prog 200 3 = some (3, 194) := by kernel_rfl
theorem Try.fd200_4 : tyField Try.prog 200 4 = some (4, 5) := by kernel_rfl
theorem Try.fd200_5 : tyField Try.prog 200 5 = some (5, 5) := by kernel_rfl
theorem Try.fd200_6 : tyField Try.prog 200 6 = some (6, 195) := by kernel_rfl
theorem Try.fd200_7 : tyField Try.prog 200 7 = some (7, 196) := by kernel_rfl
theorem Try.fd200_8 : tyField Try.prog 200 8 = some (8, 197) := by kernel_rfl
theorem Try.fd200_9 : tyField Try.prog 200 9 = some (9, 198) := by kernel_rfl
theorem Try.fd200_10 : tyField Try.prog 200 10 = some (10, 199) := by kernel_rfl
theorem Try.tp200 : tyPlace Try.prog 200 = some fun i => ([(0, 1), (1, 1), (2, 1), (3, 1), (4, 1), (5, 1), (6, 1), (7, 1), (8, 1), (9, 1), (10, 1)] : List (Nat × Nat))[i]? := by kernel_rfl
theorem Try.tmk200 : tyMk Try.prog 200 = true := by kernel_rfl
theorem Try.by200 : tyBytes Try.prog 200 = some 48 := by kernel_rfl
theorem Try.zr200 : tyZero Try.prog 200 = some (.agg #[.int .u64 0, .int .u64 0, .int .u32 0, .int .u8 0, .int .u8 0, .int .u8 0, .int .u8 0, .nilFunc, .pointer none, .int .i32 0, .int .i32 0]) := by kernel_rfl
theorem Try.pz200 : plainB (.agg #[.int .u64 0, .int .u64 0, .int .u32 0, .int .u8 0, .int .u8 0, .int .u8 0, .int .u8 0, .nilFunc, .pointer none, .int .i32 0, .int .i32 0]) = true := by kernel_rfl
theorem Try.ag201 : tyAgg Try.prog 201 = some true := by kernel_rfl
theorem Try.sz201 : tySize Try.prog 201 = some 11 := by kernel_rfl
theorem Try.fd201_0 : tyField Try.prog 201 0 = some (0, 12) := by kernel_rfl
theorem Try.fd201_1 : tyField Try.prog 201 1 = some (1, 12) := by kernel_rfl
theorem Try.fd201_2 : tyField Try.prog 201 2 = some (2, 65) := by kernel_rfl
theorem Try.fd201_3 : tyField Try.prog 201 3 = some (3, 194) := by kernel_rfl
theorem Try.fd201_4 : tyField Try.prog 201 4 = some (4, 5) := by kernel_rfl
theorem Try.fd201_5 : tyField Try.prog 201 5 = some (5, 5) := by kernel_rfl
theorem Try.fd201_6 : tyField Try.prog 201 6 = some (6, 195) := by kernel_rfl
theorem Try.fd201_7 : tyField Try.prog 201 7 = some (7, 196) := by kernel_rfl
theorem Try.fd201_8 : tyField Try.prog 201 8 = some (8, 197) := by kernel_rfl
theorem Try.fd201_9 : tyField Try.prog 201 9 = some (9, 198) := by kernel_rfl
theorem Try.fd201_10 : tyField Try.prog 201 10 = some (10, 199) := by kernel_rfl
theorem Try.tp201 : tyPlace Try.prog 201 = some fun i => ([(0, 1), (1, 1), (2, 1), (3, 1), (4, 1), (5, 1), (6, 1), (7, 1), (8, 1), (9, 1), (10, 1)] : List (Nat × Nat))[i]? := by kernel_rfl
theorem Try.tmk201 : tyMk Try.prog 201 = true := by kernel_rfl
theorem Try.by201 : tyBytes Try.prog 201 = some 48 := by kernel_rfl
theorem Try.zr201 : tyZero Try.prog 201 = some (.agg #[.int .u64 0, .int .u64 0, .int .u32 0, .int .u8 0, .int .u8 0, .int .u8 0, .int .u8 0, .nilFunc, .pointer none, .int .i32 0, .int .i32 0]) := by kernel_rfl
theorem Try.ag203 : tyAgg Try.prog 203 = some true := by kernel_rfl
theorem Try.sz203 : tySize Try.prog 203 = some 5 := by kernel_rfl
theorem Try.fd203_0 : tyField Try.prog 203 0 = some (0, 30) := by kernel_rfl
theorem Try.fd203_1 : tyField Try.prog 203 1 = some (1, 30) := by kernel_rfl
theorem Try.fd203_2 : tyField Try.prog 203 2 = some (2, 30) := by kernel_rfl
theorem Try.fd203_3 : tyField Try.prog 203 3 = some (3, 30) := by kernel_rfl
theorem Try.fd203_4 : tyField Try.prog 203 4 = some (4, 30) := by kernel_rfl
theorem Try.tp203 : tyPlace Try.prog 203 = some fun i => ([(0, 1), (1, 1), (2, 1), (3, 1), (4, 1)] : List (Nat × Nat))[i]? := by kernel_rfl
theorem Try.eql203 (y : Operand) (a0 b0 : Int) (a1 b1 : Int) (a2 b2 : Int) (a3 b3 : Int) (a4 b4 : Int) : binOpA Try.prog .eql 203 y (.agg #[.int .u64 a0, .int .u64 a1, .int .u64 a2, .int .u64 a3, .int .u64 a4]) (.agg #[.int .u64 b0, .int .u64 b1, .int .u64 b2, .int .u64 b3, .int .u64 b4]) = some (.bool (a0 == b0 && (a1 == b1 && (a2 == b2 && (a3 == b3 && (a4 == b4 && true)))))) := by kernel_rfl
theorem Try.neq203 (y : Operand) (a0 b0 : Int) (a1 b1 : Int) (a2 b2 : Int) (a3 b3 : Int) (a4 b4 : Int) : binOpA Try.prog .neq 203 y (.agg #[.int .u64 a0, .int .u64 a1, .int .u64 a2, .int .u64 a3, .int .u64 a4]) (.agg #[.int .u64 b0, .int .u64 b1, .int .u64 b2, .int .u64 b3, .int .u64 b4]) = some (.bool !(a0 == b0 && (a1 == b1 && (a2 == b2 && (a3 == b3 && (a4 == b4 && true)))))) := by kernel_rfl
theorem Try.tmk203 : tyMk Try.prog 203 = true := by kernel_rfl
theorem Try.by203 : tyBytes Try.prog 203 = some 40 := by kernel_rfl
theorem Try.zr203 : tyZero Try.prog 203 = some (.agg #[.int .u64 0, .int .u64 0, .int .u64 0, .int .u64 0, .int .u64 0]) := by kernel_rfl
theorem Try.pz203 : plainB (.agg #[.int .u64 0, .int .u64 0, .int .u64 0, .int .u64 0, .int .u64 0]) = true := by kernel_rfl
theorem Try.ag204 : tyAgg Try.prog 204 = some true := by kernel_rfl
theorem Try.sz204 : tySize Try.prog 204 = some 5 := by kernel_rfl
theorem Try.fd204_0 : tyField Try.prog 204 0 = some (0, 30) := by kernel_rfl
theorem Try.fd204_1 : tyField Try.prog 204 1 = some (1, 30) := by kernel_rfl
theorem Try.fd204_2 : tyField Try.prog 204 2 = some (2, 30) := by kernel_rfl
theorem Try.fd204_3 : tyField Try.prog 204 3 = some (3, 30) := by kernel_rfl
theorem Try.fd204_4 : tyField Try.prog 204 4 = some (4, 30) := by kernel_rfl
theorem Try.tp204 : tyPlace Try.prog 204 = some fun i => ([(0, 1), (1, 1), (2, 1), (3, 1), (4, 1)] : List (Nat × Nat))[i]? := by kernel_rfl
theorem Try.eql204 (y : Operand) (a0 b0 : Int) (a1 b1 : Int) (a2 b2 : Int) (a3 b3 : Int) (a4 b4 : Int) : binOpA Try.prog .eql 204 y (.agg #[.int .u64 a0, .int .u64 a1, .int .u64 a2, .int .u64 a3, .int .u64 a4]) (.agg #[.int .u64 b0, .int .u64 b1, .int .u64 b2, .int .u64 b3, .int .u64 b4]) = some (.bool (a0 == b0 && (a1 == b1 && (a2 == b2 && (a3 == b3 && (a4 == b4 && true)))))) := by kernel_rfl
theorem Try.neq204 (y : Operand) (a0 b0 : Int) (a1 b1 : Int) (a2 b2 : Int) (a3 b3 : Int) (a4 b4 : Int) : binOpA Try.prog .neq 204 y (.agg #[.int .u64 a0, .int .u64 a1, .int .u64 a2, .int .u64 a3, .int .u64 a4]) (.agg #[.int .u64 b0, .int .u64 b1, .int .u64 b2, .int .u64 b3, .int .u64 b4]) = some (.bool !(a0 == b0 && (a1 == b1 && (a2 == b2 && (a3 == b3 && (a4 == b4 && true)))))) := by kernel_rfl
theorem Try.tmk204 : tyMk Try.prog 204 = true := by kernel_rfl
theorem Try.by204 : tyBytes Try.prog 204 = some 40 := by kernel_rfl
theorem Try.zr204 : tyZero Try.prog 204 = some (.agg #[.int .u64 0, .int .u64 0, .int .u64 0, .int .u64 0, .int .u64 0]) := by kernel_rfl
theorem Try.ag205 : tyAgg Try.prog 205 = some true := by kernel_rfl
theorem Try.sz205 : tySize Try.prog 205 = some 11 := by kernel_rfl
theorem Try.fd205_0 : tyField Try.prog 205 0 = some (0, 3) := by kernel_rfl
theorem Try.fd205_1 : tyField Try.prog 205 1 = some (1, 3) := by kernel_rfl
theorem Try.fd205_2 : tyField Try.prog 205 2 = some (2, 5) := by kernel_rfl
theorem Try.fd205_3 : tyField Try.prog 205 3 = some (3, 204) := by kernel_rfl
theorem Try.fd205_4 : tyField Try.prog 205 4 = some (8, 159) := by kernel_rfl
theorem Try.fd205_5 : tyField Try.prog 205 5 = some (9, 3) := by kernel_rfl
theorem Try.fd205_6 : tyField Try.prog 205 6 = some (10, 3) := by kernel_rfl
theorem Try.tp205 : tyPlace Try.prog 205 = some fun i => ([(0, 1), (1, 1), (2, 1), (3, 5), (8, 1), (9, 1), (10, 1)] : List (Nat × Nat))[i]? := by kernel_rfl
theorem Try.tmk205 : tyMk Try.prog 205 = true := by kernel_rfl
theorem Try.by205 : tyBytes Try.prog 205 = some 88 := by kernel_rfl
theorem Try.zr205 : tyZero Try.prog 205 = some (.agg #[.int .i64 0, .int .i64 0, .int .u8 0, .int .u64 0, .int .u64 0, .int .u64 0, .int .u64 0, .int .u64 0, .int .i64 0, .int .i64 0, .int .i64 0]) := by kernel_rfl
theorem Try.pz205 : plainB (.agg #[.int .i64 0, .int .i64 0, .int .u8 0, .int .u64 0, .int .u64 0, .int .u64 0, .int .u64 0, .int .u64 0, .int .i64 0, .int .i64 0, .int .i64 0]) = true := by kernel_rfl
theorem Try.ag206 : tyAgg Try.prog 206 = some true := by kernel_rfl
theorem Try.sz206 : tySize Try.prog 206 = some 11 := by kernel_rfl
theorem Try.fd206_0 : tyField Try.prog 206 0 = some (0, 3) := by kernel_rfl
theorem Try.fd206_1 : tyField Try.prog 206 1 = some (1, 3) := by kernel_rfl
theorem Try.fd206_2 : tyField Try.prog 206 2 = some (2, 5) := by kernel_rfl
theorem Try.fd206_3 : tyField Try.prog 206 3 = some (3, 204) := by kernel_rfl
theorem Try.fd206_4 : tyField Try.prog 206 4 = some (8, 159) := by kernel_rfl
theorem Try.fd206_5 : tyField Try.prog 206 5 = some (9, 3) := by kernel_rfl
theorem Try.fd206_6 : tyField Try.prog 206 6 = some (10, 3) := by kernel_rfl
theorem Try.tp206 : tyPlace Try.prog 206 = some fun i => ([(0, 1), (1, 1), (2, 1), (3, 5), (8, 1), (9, 1), (10, 1)] : List (Nat × Nat))[i]? := by kernel_rfl
theorem Try.tmk206 : tyMk Try.prog 206 = true := by kernel_rfl
theorem Try.by206 : tyBytes Try.prog 206 = some 88 := by kernel_rfl
theorem Try.zr206 : tyZero Try.prog 206 = some (.agg #[.int .i64 0, .int .i64 0, .int .u8 0, .int .u64 0, .int .u64 0, .int .u64 0, .int .u64 0, .int .u64 0, .int .i64 0, .int .i64 0, .int .i64 0]) := by kernel_rfl
theorem Try.ag210 : tyAgg Try.prog 210 = some false := by kernel_rfl
theorem Try.sz210 : tySize Try.prog 210 = some 1 := by kernel_rfl
theorem Try.by210 : tyBytes Try.prog 210 = some 8 := by kernel_rfl
theorem Try.zr210 : tyZero Try.prog 210 = some (.pointer none) := by kernel_rfl
theorem Try.cv2_2 : tyConv Try.prog 2 2 = some .i64 := by kernel_rfl
theorem Try.cv2_3 : tyConv Try.prog 2 3 = some .i64 := by kernel_rfl
theorem Try.cv2_5 : tyConv Try.prog 2 5 = some .u8 := by kernel_rfl
theorem Try.cv2_6 : tyConv Try.prog 2 6 = some .u8 := by kernel_rfl
theorem Try.cv2_12 : tyConv Try.prog 2 12 = some .u64 := by kernel_rfl
theorem Try.cv2_21 : tyConv Try.prog 2 21 = some .i32 := by kernel_rfl
theorem Try.cv2_30 : tyConv Try.prog 2 30 = some .u64 := by kernel_rfl
theorem Try.cv2_65 : tyConv Try.prog 2 65 = some .u32 := by kernel_rfl
theorem Try.cv2_159 : tyConv Try.prog 2 159 = some .i64 := by kernel_rfl
theorem Try.cv2_187 : tyConv Try.prog 2 187 = some .u64 := by kernel_rfl
theorem Try.cv2_194 : tyConv Try.prog 2 194 = some .u8 := by kernel_rfl
theorem Try.cv2_195 : tyConv Try.prog 2 195 = some .u8 := by kernel_rfl
theorem Try.cv2_198 : tyConv Try.prog 2 198 = some .i32 := by kernel_rfl
theorem Try.cv2_199 : tyConv Try.prog 2 199 = some .i32 := by kernel_rfl
theorem Try.cv3_2 : tyConv Try.prog 3 2 = some .i64 := by kernel_rfl
theorem Try.cv3_3 : tyConv Try.prog 3 3 = some .i64 := by kernel_rfl
theorem Try.cv3_5 : tyConv Try.prog 3 5 = some .u8 := by kernel_rfl
theorem Try.cv3_6 : tyConv Try.prog 3 6 = some .u8 := by kernel_rfl
theorem Try.cv3_12 : tyConv Try.prog 3 12 = some .u64 := by kernel_rfl
theorem Try.cv3_21 : tyConv Try.prog 3 21 = some .i32 := by kernel_rfl
theorem Try.cv3_30 : tyConv Try.prog 3 30 = some .u64 := by kernel_rfl
theorem Try.cv3_65 : tyConv Try.prog 3 65 = some .u32 := by kernel_rfl
theorem Try.cv3_159 : tyConv Try.prog 3 159 = some .i64 := by kernel_rfl
theorem Try.cv3_187 : tyConv Try.prog 3 187 = some .u64 := by kernel_rfl
theorem Try.cv3_194 : tyConv Try.prog 3 194 = some .u8 := by kernel_rfl
theorem Try.cv3_195 : tyConv Try.prog 3 195 = some .u8 := by kernel_rfl
theorem Try.cv3_198 : tyConv Try.prog 3 198 = some .i32 := by kernel_rfl
theorem Try.cv3_199 : tyConv Try.prog 3 199 = some .i32 := by kernel_rfl
theorem Try.cv5_2 : tyConv Try.prog 5 2 = some .i64 := by kernel_rfl
theorem Try.cv5_3 : tyConv Try.prog 5 3 = some .i64 := by kernel_rfl
theorem Try.cv5_5 : tyConv Try.prog 5 5 = some .u8 := by kernel_rfl
theorem Try.cv5_6 : tyConv Try.prog 5 6 = some .u8 := by kernel_rfl
theorem Try.cv5_12 : tyConv Try.prog 5 12 = some .u64 := by kernel_rfl
theorem Try.cv5_21 : tyConv Try.prog 5 21 = some .i32 := by kernel_rfl
theorem Try.cv5_30 : tyConv Try.prog 5 30 = some .u64 := by kernel_rfl
theorem Try.cv5_65 : tyConv Try.prog 5 65 = some .u32 := by kernel_rfl
theorem Try.cv5_159 : tyConv Try.prog 5 159 = some .i64 := by kernel_rfl
theorem Try.cv5_187 : tyConv Try.prog 5 187 = some .u64 := by kernel_rfl
theorem Try.cv5_194 : tyConv Try.prog 5 194 = some .u8 := by kernel_rfl
theorem Try.cv5_195 : tyConv Try.prog 5 195 = some .u8 := by kernel_rfl
theorem Try.cv5_198 : tyConv Try.prog 5 198 = some .i32 := by kernel_rfl
theorem Try.cv5_199 : tyConv Try.prog 5 199 = some .i32 := by kernel_rfl
theorem Try.cv6_2 : tyConv Try.prog 6 2 = some .i64 := by kernel_rfl
theorem Try.cv6_3 : tyConv Try.prog 6 3 = some .i64 := by kernel_rfl
theorem Try.cv6_5 : tyConv Try.prog 6 5 = some .u8 := by kernel_rfl
theorem Try.cv6_6 : tyConv Try.prog 6 6 = some .u8 := by kernel_rfl
theorem Try.cv6_12 : tyConv Try.prog 6 12 = some .u64 := by kernel_rfl
theorem Try.cv6_21 : tyConv Try.prog 6 21 = some .i32 := by kernel_rfl
theorem Try.cv6_30 : tyConv Try.prog 6 30 = some .u64 := by kernel_rfl
theorem Try.cv6_65 : tyConv Try.prog 6 65 = some .u32 := by kernel_rfl
theorem Try.cv6_159 : tyConv Try.prog 6 159 = some .i64 := by kernel_rfl
theorem Try.cv6_187 : tyConv Try.prog 6 187 = some .u64 := by kernel_rfl
theorem Try.cv6_194 : tyConv Try.prog 6 194 = some .u8 := by kernel_rfl
theorem Try.cv6_195 : tyConv Try.prog 6 195 = some .u8 := by kernel_rfl
theorem Try.cv6_198 : tyConv Try.prog 6 198 = some .i32 := by kernel_rfl
theorem Try.cv6_199 : tyConv Try.prog 6 199 = some .i32 := by kernel_rfl
theorem Try.cv12_2 : tyConv Try.prog 12 2 = some .i64 := by kernel_rfl
theorem Try.cv12_3 : tyConv Try.prog 12 3 = some .i64 := by kernel_rfl
theorem Try.cv12_5 : tyConv Try.prog 12 5 = some .u8 := by kernel_rfl
theorem Try.cv12_6 : tyConv Try.prog 12 6 = some .u8 := by kernel_rfl
theorem Try.cv12_12 : tyConv Try.prog 12 12 = some .u64 := by kernel_rfl
theorem Try.cv12_21 : tyConv Try.prog 12 21 = some .i32 := by kernel_rfl
theorem Try.cv12_30 : tyConv Try.prog 12 30 = some .u64 := by kernel_rfl
theorem Try.cv12_65 : tyConv Try.prog 12 65 = some .u32 := by kernel_rfl
theorem Try.cv12_159 : tyConv Try.prog 12 159 = some .i64 := by kernel_rfl
theorem Try.cv12_187 : tyConv Try.prog 12 187 = some .u64 := by kernel_rfl
theorem Try.cv12_194 : tyConv Try.prog 12 194 = some .u8 := by kernel_rfl
theorem Try.cv12_195 : tyConv Try.prog 12 195 = some .u8 := by kernel_rfl
theorem Try.cv12_198 : tyConv Try.prog 12 198 = some .i32 := by kernel_rfl
theorem Try.cv12_199 : tyConv Try.prog 12 199 = some .i32 := by kernel_rfl
theorem Try.cv21_2 : tyConv Try.prog 21 2 = some .i64 := by kernel_rfl
theorem Try.cv21_3 : tyConv Try.prog 21 3 = some .i64 := by kernel_rfl
theorem Try.cv21_5 : tyConv Try.prog 21 5 = some .u8 := by kernel_rfl
theorem Try.cv21_6 : tyConv Try.prog 21 6 = some .u8 := by kernel_rfl
theorem Try.cv21_12 : tyConv Try.prog 21 12 = some .u64 := by kernel_rfl
theorem Try.cv21_21 : tyConv Try.prog 21 21 = some .i32 := by kernel_rfl
theorem Try.cv21_30 : tyConv Try.prog 21 30 = some .u64 := by kernel_rfl
theorem Try.cv21_65 : tyConv Try.prog 21 65 = some .u32 := by kernel_rfl
theorem Try.cv21_159 : tyConv Try.prog 21 159 = some .i64 := by kernel_rfl
theorem Try.cv21_187 : tyConv Try.prog 21 187 = some .u64 := by kernel_rfl
theorem Try.cv21_194 : tyConv Try.prog 21 194 = some .u8 := by kernel_rfl
theorem Try.cv21_195 : tyConv Try.prog 21 195 = some .u8 := by kernel_rfl
theorem Try.cv21_198 : tyConv Try.prog 21 198 = some .i32 := by kernel_rfl
theorem Try.cv21_199 : tyConv Try.prog 21 199 = some .i32 := by kernel_rfl
theorem Try.cv30_2 : tyConv Try.prog 30 2 = some .i64 := by kernel_rfl
theorem Try.cv30_3 : tyConv Try.prog 30 3 = some .i64 := by kernel_rfl
theorem Try.cv30_5 : tyConv Try.prog 30 5 = some .u8 := by kernel_rfl
theorem Try.cv30_6 : tyConv Try.prog 30 6 = some .u8 := by kernel_rfl
theorem Try.cv30_12 : tyConv Try.prog 30 12 = some .u64 := by kernel_rfl
theorem Try.cv30_21 : tyConv Try.prog 30 21 = some .i32 := by kernel_rfl
theorem Try.cv30_30 : tyConv Try.prog 30 30 = some .u64 := by kernel_rfl
theorem Try.cv30_65 : tyConv Try.prog 30 65 = some .u32 := by kernel_rfl
theorem Try.cv30_159 : tyConv Try.prog 30 159 = some .i64 := by kernel_rfl
theorem Try.cv30_187 : tyConv Try.prog 30 187 = some .u64 := by kernel_rfl
theorem Try.cv30_194 : tyConv Try.prog 30 194 = some .u8 := by kernel_rfl
theorem Try.cv30_195 : tyConv Try.prog 30 195 = some .u8 := by kernel_rfl
theorem Try.cv30_198 : tyConv Try.prog 30 198 = some .i32 := by kernel_rfl
theorem Try.cv30_199 : tyConv Try.prog 30 199 = some .i32 := by kernel_rfl
theorem Try.cv65_2 : tyConv Try.prog 65 2 = some .i64 := by kernel_rfl
theorem Try.cv65_3 : tyConv Try.prog 65 3 = some .i64 := by kernel_rfl
theorem Try.cv65_5 : tyConv Try.prog 65 5 = some .u8 := by kernel_rfl
theorem Try.cv65_6 : tyConv Try.prog 65 6 = some .u8 := by kernel_rfl
theorem Try.cv65_12 : tyConv Try.prog 65 12 = some .u64 := by kernel_rfl
theorem Try.cv65_21 : tyConv Try.prog 65 21 = some .i32 := by kernel_rfl
theorem Try.cv65_30 : tyConv Try.prog 65 30 = some .u64 := by kernel_rfl
theorem Try.cv65_65 : tyConv Try.prog 65 65 = some .u32 := by kernel_rfl
theorem Try.cv65_159 : tyConv Try.prog 65 159 = some .i64 := by kernel_rfl
theorem Try.cv65_187 : tyConv Try.prog 65 187 = some .u64 := by kernel_rfl
theorem Try.cv65_194 : tyConv Try.prog 65 194 = some .u8 := by kernel_rfl
theorem Try.cv65_195 : tyConv Try.prog 65 195 = some .u8 := by kernel_rfl
theorem Try.cv65_198 : tyConv Try.prog 65 198 = some .i32 := by kernel_rfl
theorem Try.cv65_199 : tyConv Try.prog 65 199 = some .i32 := by kernel_rfl
theorem Try.cv159_2 : tyConv Try.prog 159 2 = some .i64 := by kernel_rfl
theorem Try.cv159_3 : tyConv Try.prog 159 3 = some .i64 := by kernel_rfl
theorem Try.cv159_5 : tyConv Try.prog 159 5 = some .u8 := by kernel_rfl
theorem Try.cv159_6 : tyConv Try.prog 159 6 = some .u8 := by kernel_rfl
theorem Try.cv159_12 : tyConv Try.prog 159 12 = some .u64 := by kernel_rfl
theorem Try.cv159_21 : tyConv Try.prog 159 21 = some .i32 := by kernel_rfl
theorem Try.cv159_30 : tyConv Try.prog 159 30 = some .u64 := by kernel_rfl
theorem Try.cv159_65 : tyConv Try.prog 159 65 = some .u32 := by kernel_rfl
theorem Try.cv159_159 : tyConv Try.prog 159 159 = some .i64 := by kernel_rfl
theorem Try.cv159_187 : tyConv Try.prog 159 187 = some .u64 := by kernel_rfl
theorem Try.cv159_194 : tyConv Try.prog 159 194 = some .u8 := by kernel_rfl
theorem Try.cv159_195 : tyConv Try.prog 159 195 = some .u8 := by kernel_rfl
theorem Try.cv159_198 : tyConv Try.prog 159 198 = some .i32 := by kernel_rfl
theorem Try.cv159_199 : tyConv Try.prog 159 199 = some .i32 := by kernel_rfl
theorem Try.cv187_2 : tyConv Try.prog 187 2 = some .i64 := by kernel_rfl
theorem Try.cv187_3 : tyConv Try.prog 187 3 = some .i64 := by kernel_rfl
theorem Try.cv187_5 : tyConv Try.prog 187 5 = some .u8 := by kernel_rfl
theorem Try.cv187_6 : tyConv Try.prog 187 6 = some .u8 := by kernel_rfl
theorem Try.cv187_12 : tyConv Try.prog 187 12 = some .u64 := by kernel_rfl
theorem Try.cv187_21 : tyConv Try.prog 187 21 = some .i32 := by kernel_rfl
theorem Try.cv187_30 : tyConv Try.prog 187 30 = some .u64 := by kernel_rfl
theorem Try.cv187_65 : tyConv Try.prog 187 65 = some .u32 := by kernel_rfl
theorem Try.cv187_159 : tyConv Try.prog 187 159 = some .i64 := by kernel_rfl
theorem Try.cv187_187 : tyConv Try.prog 187 187 = some .u64 := by kernel_rfl
theorem Try.cv187_194 : tyConv Try.prog 187 194 = some .u8 := by kernel_rfl
theorem Try.cv187_195 : tyConv Try.prog 187 195 = some .u8 := by kernel_rfl
theorem Try.cv187_198 : tyConv Try.prog 187 198 = some .i32 := by kernel_rfl
theorem Try.cv187_199 : tyConv Try.prog 187 199 = some .i32 := by kernel_rfl
theorem Try.cv194_2 : tyConv Try.prog 194 2 = some .i64 := by kernel_rfl
theorem Try.cv194_3 : tyConv Try.prog 194 3 = some .i64 := by kernel_rfl
theorem Try.cv194_5 : tyConv Try.prog 194 5 = some .u8 := by kernel_rfl
theorem Try.cv194_6 : tyConv Try.prog 194 6 = some .u8 := by kernel_rfl
theorem Try.cv194_12 : tyConv Try.prog 194 12 = some .u64 := by kernel_rfl
theorem Try.cv194_21 : tyConv Try.prog 194 21 = some .i32 := by kernel_rfl
theorem Try.cv194_30 : tyConv Try.prog 194 30 = some .u64 := by kernel_rfl
theorem Try.cv194_65 : tyConv Try.prog 194 65 = some .u32 := by kernel_rfl
theorem Try.cv194_159 : tyConv Try.prog 194 159 = some .i64 := by kernel_rfl
theorem Try.cv194_187 : tyConv Try.prog 194 187 = some .u64 := by kernel_rfl
theorem Try.cv194_194 : tyConv Try.prog 194 194 = some .u8 := by kernel_rfl
theorem Try.cv194_195 : tyConv Try.prog 194 195 = some .u8 := by kernel_rfl
theorem Try.cv194_198 : tyConv Try.prog 194 198 = some .i32 := by kernel_rfl
theorem Try.cv194_199 : tyConv Try.prog 194 199 = some .i32 := by kernel_rfl
theorem Try.cv195_2 : tyConv Try.prog 195 2 = some .i64 := by kernel_rfl
theorem Try.cv195_3 : tyConv Try.prog 195 3 = some .i64 := by kernel_rfl
theorem Try.cv195_5 : tyConv Try.prog 195 5 = some .u8 := by kernel_rfl
theorem Try.cv195_6 : tyConv Try.prog 195 6 = some .u8 := by kernel_rfl
theorem Try.cv195_12 : tyConv Try.prog 195 12 = some .u64 := by kernel_rfl
theorem Try.cv195_21 : tyConv Try.prog 195 21 = some .i32 := by kernel_rfl
theorem Try.cv195_30 : tyConv Try.prog 195 30 = some .u64 := by kernel_rfl
theorem Try.cv195_65 : tyConv Try.prog 195 65 = some .u32 := by kernel_rfl
theorem Try.cv195_159 : tyConv Try.prog 195 159 = some .i64 := by kernel_rfl
theorem Try.cv195_187 : tyConv Try.prog 195 187 = some .u64 := by kernel_rfl
theorem Try.cv195_194 : tyConv Try.prog 195 194 = some .u8 := by kernel_rfl
theorem Try.cv195_195 : tyConv Try.prog 195 195 = some .u8 := by kernel_rfl
theorem Try.cv195_198 : tyConv Try.prog 195 198 = some .i32 := by kernel_rfl
theorem Try.cv195_199 : tyConv Try.prog 195 199 = some .i32 := by kernel_rfl
theorem Try.cv198_2 : tyConv Try.prog 198 2 = some .i64 := by kernel_rfl
theorem Try.cv198_3 : tyConv Try.prog 198 3 = some .i64 := by kernel_rfl
theorem Try.cv198_5 : tyConv Try.prog 198 5 = some .u8 := by kernel_rfl
theorem Try.cv198_6 : tyConv Try.prog 198 6 = some .u8 := by kernel_rfl
theorem Try.cv198_12 : tyConv Try.prog 198 12 = some .u64 := by kernel_rfl
theorem Try.cv198_21 : tyConv Try.prog 198 21 = some .i32 := by kernel_rfl
theorem Try.cv198_30 : tyConv Try.prog 198 30 = some .u64 := by kernel_rfl
theorem Try.cv198_65 : tyConv Try.prog 198 65 = some .u32 := by kernel_rfl
theorem Try.cv198_159 : tyConv Try.prog 198 159 = some .i64 := by kernel_rfl
theorem Try.cv198_187 : tyConv Try.prog 198 187 = some .u64 := by kernel_rfl
theorem Try.cv198_194 : tyConv Try.prog 198 194 = some .u8 := by kernel_rfl
theorem Try.cv198_195 : tyConv Try.prog 198 195 = some .u8 := by kernel_rfl
theorem Try.cv198_198 : tyConv Try.prog 198 198 = some .i32 := by kernel_rfl
theorem Try.cv198_199 : tyConv Try.prog 198 199 = some .i32 := by kernel_rfl
theorem Try.cv199_2 : tyConv Try.prog 199 2 = some .i64 := by kernel_rfl
theorem Try.cv199_3 : tyConv Try.prog 199 3 = some .i64 := by kernel_rfl
theorem Try.cv199_5 : tyConv Try.prog 199 5 = some .u8 := by kernel_rfl
theorem Try.cv199_6 : tyConv Try.prog 199 6 = some .u8 := by kernel_rfl
theorem Try.cv199_12 : tyConv Try.prog 199 12 = some .u64 := by kernel_rfl
theorem Try.cv199_21 : tyConv Try.prog 199 21 = some .i32 := by kernel_rfl
theorem Try.cv199_30 : tyConv Try.prog 199 30 = some .u64 := by kernel_rfl
theorem Try.cv199_65 : tyConv Try.prog 199 65 = some .u32 := by kernel_rfl
theorem Try.cv199_159 : tyConv Try.prog 199 159 = some .i64 := by kernel_rfl
theorem Try.cv199_187 : tyConv Try.prog 199 187 = some .u64 := by kernel_rfl
theorem Try.cv199_194 : tyConv Try.prog 199 194 = some .u8 := by kernel_rfl
theorem Try.cv199_195 : tyConv Try.prog 199 195 = some .u8 := by kernel_rfl
theorem Try.cv199_198 : tyConv Try.prog 199 198 = some .i32 := by kernel_rfl
theorem Try.cv199_199 : tyConv Try.prog 199 199 = some .i32 := by kernel_rfl
theorem Try.ok2 : fnOK Try.prog 2 = true := by kernel_rfl
theorem Try.ok3 : fnOK Try.prog 3 = true := by kernel_rfl
theorem Try.ok4 : fnOK Try.prog 4 = true := by kernel_rfl
theorem Try.ok5 : fnOK Try.prog 5 = true := by kernel_rfl
theorem Try.ok6 : fnOK Try.prog 6 = true := by kernel_rfl
theorem Try.ok7 : fnOK Try.prog 7 = true := by kernel_rfl
theorem Try.ok8 : fnOK Try.prog 8 = true := by kernel_rfl
theorem Try.ok9 : fnOK Try.prog 9 = true := by kernel_rfl
theorem Try.ok10 : fnOK Try.prog 10 = true := by kernel_rfl
theorem Try.ok11 : fnOK Try.prog 11 = true := by kernel_rfl
theorem Try.ok12 : fnOK Try.prog 12 = true := by kernel_rfl
theorem Try.ok13 : fnOK Try.prog 13 = true := by kernel_rfl
theorem Try.ok14 : fnOK Try.prog 14 = true := by kernel_rfl
theorem Try.ok15 : fnOK Try.prog 15 = true := by kernel_rfl
theorem Try.ok16 : fnOK Try.prog 16 = true := by kernel_rfl
theorem Try.ok17 : fnOK Try.prog 17 = true := by kernel_rfl
theorem Try.ok18 : fnOK Try.prog 18 = true := by kernel_rfl
theorem Try.ok19 : fnOK Try.prog 19 = true := by kernel_rfl
theorem Try.ok20 : fnOK Try.prog 20 = true := by kernel_rfl
theorem Try.ok21 : fnOK Try.prog 21 = true := by kernel_rfl
theorem Try.ok22 : fnOK Try.prog 22 = true := by kernel_rfl
theorem Try.ok23 : fnOK Try.prog 23 = true := by kernel_rfl
theorem Try.ok24 : fnOK Try.prog 24 = true := by kernel_rfl
theorem Try.ok25 : fnOK Try.prog 25 = true := by kernel_rfl
theorem Try.ok26 : fnOK Try.prog 26 = true := by kernel_rfl
theorem Try.ok27 : fnOK Try.prog 27 = true := by kernel_rfl
theorem Try.ok28 : fnOK Try.prog 28 = true := by kernel_rfl
theorem Try.ok29 : fnOK Try.prog 29 = true := by kernel_rfl
theorem Try.ok30 : fnOK Try.prog 30 = true := by kernel_rfl
theorem Try.ok31 : fnOK Try.prog 31 = true := by kernel_rfl
theorem Try.ok32 : fnOK Try.prog 32 = true := by kernel_rfl
theorem Try.ok33 : fnOK Try.prog 33 = true := by kernel_rfl
theorem Try.ok34 : fnOK Try.prog 34 = true := by kernel_rfl
theorem Try.ok35 : fnOK Try.prog 35 = true := by kernel_rfl
theorem Try.ok36 : fnOK Try.prog 36 = true := by kernel_rfl
theorem Try.ok37 : fnOK Try.prog 37 = true := by kernel_rfl
theorem Try.ok38 : fnOK Try.prog 38 = true := by kernel_rfl
theorem Try.ok39 : fnOK Try.prog 39 = true := by kernel_rfl
theorem Try.ok40 : fnOK Try.prog 40 = true := by kernel_rfl
theorem Try.ok41 : fnOK Try.prog 41 = true := by kernel_rfl
theorem Try.ok42 : fnOK Try.prog 42 = true := by kernel_rfl
theorem Try.ok43 : fnOK Try.prog 43 = true := by kernel_rfl
theorem Try.ok44 : fnOK Try.prog 44 = true := by kernel_rfl
theorem Try.ok45 : fnOK Try.prog 45 = true := by kernel_rfl
theorem Try.ok46 : fnOK Try.prog 46 = true := by kernel_rfl
theorem Try.ok47 : fnOK Try.prog 47 = true := by kernel_rfl
theorem Try.ok48 : fnOK Try.prog 48 = true := by kernel_rfl
theorem Try.ok49 : fnOK Try.prog 49 = true := by kernel_rfl
theorem Try.ok50 : fnOK Try.prog 50 = true := by kernel_rfl
theorem Try.ok51 : fnOK Try.prog 51 = true := by kernel_rfl
theorem Try.ok52 : fnOK Try.prog 52 = true := by kernel_rfl
theorem Try.ok53 : fnOK Try.prog 53 = true := by kernel_rfl
theorem Try.ok54 : fnOK Try.prog 54 = true := by kernel_rfl
theorem Try.ok55 : fnOK Try.prog 55 = true := by kernel_rfl
theorem Try.ok56 : fnOK Try.prog 56 = true := by kernel_rfl
theorem Try.ok57 : fnOK Try.prog 57 = true := by kernel_rfl
theorem Try.ok58 : fnOK Try.prog 58 = true := by kernel_rfl
theorem Try.ok59 : fnOK Try.prog 59 = true := by kernel_rfl
theorem Try.ok60 : fnOK Try.prog 60 = true := by kernel_rfl
theorem Try.ok61 : fnOK Try.prog 61 = true := by kernel_rfl
theorem Try.ok62 : fnOK Try.prog 62 = true := by kernel_rfl
theorem Try.ok63 : fnOK Try.prog 63 = true := by kernel_rfl
theorem Try.ok64 : fnOK Try.prog 64 = true := by kernel_rfl
theorem Try.ok65 : fnOK Try.prog 65 = true := by kernel_rfl
theorem Try.ok66 : fnOK Try.prog 66 = true := by kernel_rfl
theorem Try.ok67 : fnOK Try.prog 67 = true := by kernel_rfl
theorem Try.ok68 : fnOK Try.prog 68 = true := by kernel_rfl
theorem Try.ok69 : fnOK Try.prog 69 = true := by kernel_rfl
theorem Try.ok70 : fnOK Try.prog 70 = true := by kernel_rfl
theorem Try.ok71 : fnOK Try.prog 71 = true := by kernel_rfl
theorem Try.ok72 : fnOK Try.prog 72 = true := by kernel_rfl
theorem Try.ok73 : fnOK Try.prog 73 = true := by kernel_rfl
theorem Try.ok74 : fnOK Try.prog 74 = true := by kernel_rfl
theorem Try.ok75 : fnOK Try.prog 75 = true := by kernel_rfl
theorem Try.ok76 : fnOK Try.prog 76 = true := by kernel_rfl
theorem Try.ok77 : fnOK Try.prog 77 = true := by kernel_rfl
theorem Try.ok78 : fnOK Try.prog 78 = true := by kernel_rfl
theorem Try.ok79 : fnOK Try.prog 79 = true := by kernel_rfl
theorem Try.ok80 : fnOK Try.prog 80 = true := by kernel_rfl
theorem Try.ok81 : fnOK Try.prog 81 = true := by kernel_rfl
theorem Try.ok82 : fnOK Try.prog 82 = true := by kernel_rfl
theorem Try.ok83 : fnOK Try.prog 83 = true := by kernel_rfl
theorem Try.ok84 : fnOK Try.prog 84 = true := by kernel_rfl
theorem Try.ok85 : fnOK Try.prog 85 = true := by kernel_rfl
theorem Try.ok86 : fnOK Try.prog 86 = true := by kernel_rfl
theorem Try.ok87 : fnOK Try.prog 87 = true := by kernel_rfl
theorem Try.ok88 : fnOK Try.prog 88 = true := by kernel_rfl
theorem Try.ok89 : fnOK Try.prog 89 = true := by kernel_rfl
theorem Try.ok90 : fnOK Try.prog 90 = true := by kernel_rfl
theorem Try.ok91 : fnOK Try.prog 91 = true := by kernel_rfl
theorem Try.ok92 : fnOK Try.prog 92 = true := by kernel_rfl
theorem Try.ok93 : fnOK Try.prog 93 = true := by kernel_rfl
theorem Try.ok94 : fnOK Try.prog 94 = true := by kernel_rfl
theorem Try.ok95 : fnOK Try.prog 95 = true := by kernel_rfl
theorem Try.ok96 : fnOK Try.prog 96 = true := by kernel_rfl
theorem Try.ok97 : fnOK Try.prog 97 = true := by kernel_rfl
theorem Try.ok98 : fnOK Try.prog 98 = true := by kernel_rfl
theorem Try.ok99 : fnOK Try.prog 99 = true := by kernel_rfl
theorem Try.ok100 : fnOK Try.prog 100 = true := by kernel_rfl
theorem Try.ok101 : fnOK Try.prog 101 = true := by kernel_rfl
theorem Try.ok102 : fnOK Try.prog 102 = true := by kernel_rfl
theorem Try.ok103 : fnOK Try.prog 103 = true := by kernel_rfl
theorem Try.ok104 : fnOK Try.prog 104 = true := by kernel_rfl
theorem Try.ok105 : fnOK Try.prog 105 = true := by kernel_rfl
theorem Try.ok106 : fnOK Try.prog 106 = true := by kernel_rfl
theorem Try.ok107 : fnOK Try.prog 107 = true := by kernel_rfl
theorem Try.ok108 : fnOK Try.prog 108 = true := by kernel_rfl
theorem Try.ok109 : fnOK Try.prog 109 = true := by kernel_rfl
theorem Try.ok110 : fnOK Try.prog 110 = true := by kernel_rfl
theorem Try.ok111 : fnOK Try.prog 111 = true := by kernel_rfl
theorem Try.ok112 : fnOK Try.prog 112 = true := by kernel_rfl
theorem Try.ok113 : fnOK Try.prog 113 = true := by kernel_rfl
theorem Try.ok114 : fnOK Try.prog 114 = true := by kernel_rfl
theorem Try.ok115 : fnOK Try.prog 115 = true := by kernel_rfl
theorem Try.ok116 : fnOK Try.prog 116 = true := by kernel_rfl
theorem Try.ok117 : fnOK Try.prog 117 = true := by kernel_rfl
theorem Try.ok118 : fnOK Try.prog 118 = true := by kernel_rfl
theorem Try.ok119 : fnOK Try.prog 119 = true := by kernel_rfl
theorem Try.ok120 : fnOK Try.prog 120 = true := by kernel_rfl
theorem Try.ok121 : fnOK Try.prog 121 = true := by kernel_rfl
theorem Try.ok122 : fnOK Try.prog 122 = true := by kernel_rfl
theorem Try.ok123 : fnOK Try.prog 123 = true := by kernel_rfl
theorem Try.ok124 : fnOK Try.prog 124 = true := by kernel_rfl
theorem Try.ok125 : fnOK Try.prog 125 = true := by kernel_rfl
theorem Try.ok126 : fnOK Try.prog 126 = true := by kernel_rfl
theorem Try.ok127 : fnOK Try.prog 127 = true := by kernel_rfl
theorem Try.ok128 : fnOK Try.prog 128 = true := by kernel_rfl
theorem Try.ok129 : fnOK Try.prog 129 = true := by kernel_rfl
theorem Try.ok130 : fnOK Try.prog 130 = true := by kernel_rfl
theorem Try.ok131 : fnOK Try.prog 131 = true := by kernel_rfl
theorem Try.ok132 : fnOK Try.prog 132 = true := by kernel_rfl
theorem Try.ok133 : fnOK Try.prog 133 = true := by kernel_rfl
theorem Try.ok134 : fnOK Try.prog 134 = true := by kernel_rfl
theorem Try.ok135 : fnOK Try.prog 135 = true := by kernel_rfl
theorem Try.ok136 : fnOK Try.prog 136 = true := by kernel_rfl
theorem Try.ok137 : fnOK Try.prog 137 = true := by kernel_rfl
theorem Try.ok138 : fnOK Try.prog 138 = true := by kernel_rfl
theorem Try.ok139 : fnOK Try.prog 139 = true := by kernel_rfl
theorem Try.ok140 : fnOK Try.prog 140 = true := by kernel_rfl
theorem Try.ok141 : fnOK Try.prog 141 = true := by kernel_rfl
theorem Try.ok142 : fnOK Try.prog 142 = true := by kernel_rfl
theorem Try.ok143 : fnOK Try.prog 143 = true := by kernel_rfl
theorem Try.ok144 : fnOK Try.prog 144 = true := by kernel_rfl
theorem Try.ok145 : fnOK Try.prog 145 = true := by kernel_rfl
theorem Try.ok146 : fnOK Try.prog 146 = true := by kernel_rfl
theorem Try.ok147 : fnOK Try.prog 147 = true := by kernel_rfl
theorem Try.ok148 : fnOK Try.prog 148 = true := by kernel_rfl
theorem Try.ok165 : fnOK Try.prog 165 = true := by kernel_rfl
theorem Try.ok166 : fnOK Try.prog 166 = true := by kernel_rfl
theorem Try.ok168 : fnOK Try.prog 168 = true := by kernel_rfl
theorem Try.ok169 : fnOK Try.prog 169 = true := by kernel_rfl
theorem Try.ok170 : fnOK Try.prog 170 = true := by kernel_rfl
theorem Try.ok171 : fnOK Try.prog 171 = true := by kernel_rfl
attribute [go_sem] Try.ag2 Try.sz2 Try.tmk2 Try.by2 Try.zr2 Try.pz2 Try.ag3 Try.sz3 Try.tmk3 Try.by3 Try.zr3 Try.ag4 Try.sz4 Try.tmk4 Try.tb4 Try.by4 Try.zr4 Try.pz4 Try.ag5 Try.sz5 Try.tmk5 Try.by5 Try.zr5 Try.pz5 Try.ag6 Try.sz6 Try.tmk6 Try.by6 Try.zr6 Try.ag7 Try.sz7 Try.fd7_0 Try.fd7_1 Try.fd7_2 Try.fd7_3 Try.tp7 Try.eql7 Try.neq7 Try.tmk7 Try.by7 Try.zr7 Try.pz7 Try.ag8 Try.sz8 Try.fd8_0 Try.fd8_1 Try.fd8_2 Try.fd8_3 Try.tp8 Try.eql8 Try.neq8 Try.tmk8 Try.by8 Try.zr8 Try.ag9 Try.sz9 Try.tmk9 Try.by9 Try.zr9 Try.pz9 Try.ag10 Try.sz10 Try.by10 Try.zr10 Try.ag11 Try.sz11 Try.by11 Try.zr11 Try.ag12 Try.sz12 Try.tmk12 Try.by12 Try.zr12 Try.pz12 Try.ag13 Try.sz13 Try.fd13_0 Try.fd13_1 Try.tp13 Try.tmk13 Try.by13 Try.zr13 Try.pz13 Try.ag14 Try.sz14 Try.fd14_0 Try.fd14_1 Try.tp14 Try.tmk14 Try.by14 Try.zr14 Try.ag15 Try.sz15 Try.tmk15 Try.tptr15 Try.by15 Try.zr15 Try.pz15 Try.mt15_Error Try.mt15_RuntimeError Try.ag16 Try.sz16 Try.tmk16 Try.tptr16 Try.by16 Try.zr16 Try.mt16_Error Try.mt16_RuntimeError Try.ag17 Try.sz17 Try.tmk17 Try.tptr17 Try.by17 Try.zr17 Try.mt17_Align Try.ag18 Try.sz18 Try.fd18_0 Try.tp18 Try.tmk18 Try.by18 Try.zr18 Try.pz18 Try.ag19 Try.sz19 Try.fd19_0 Try.tp19 Try.tmk19 Try.by19 Try.zr19 Try.ag20 Try.sz20 Try.tif20 Try.by20 Try.zr20 Try.pz20 Try.ag21 Try.sz21 Try.tmk21 Try.by21 Try.zr21 Try.pz21 Try.ag22 Try.sz22 Try.tp22 Try.by22 Try.ar22 Try.zr22 Try.pz22 Try.ag23 Try.sz23 Try.fd23_0 Try.fd23_1 Try.fd23_2 Try.tp23 Try.tmk23 Try.by23 Try.zr23 Try.pz23 Try.ag24 Try.sz24 Try.fd24_0 Try.fd24_1 Try.fd24_2 Try.tp24 Try.tmk24 Try.by24 Try.zr24 Try.ag26 Try.sz26 Try.tmk26 Try.tptr26 Try.by26 Try.zr26 Try.mt26_Add Try.mt26_CAS Try.mt26_Fresh Try.mt26_Get Try.mt26_Load Try.mt26_Put Try.mt26_Self Try.mt26_Steps Try.mt26_Store Try.mt26_Tell Try.ag28 Try.sz28 Try.tmk28 Try.tptr28 Try.by28 Try.zr28 Try.mt28_Bytes Try.mt28_Copy Try.mt28_Do Try.mt28_Word Try.mt28_Words Try.ag30 Try.sz30 Try.tmk30 Try.by30 Try.zr30 Try.ag36 Try.sz36 Try.tsl36 Try.by36 Try.sl36 Try.zr36 Try.pz36 Try.ag38 Try.sz38 Try.tsl38 Try.by38 Try.sl38 Try.zr38 Try.ag39 Try.sz39 Try.fd39_0 Try.fd39_1 Try.tp39 Try.tmk39 Try.by39 Try.zr39 Try.pz39 Try.ag40 Try.sz40 Try.fd40_0 Try.fd40_1 Try.tp40 Try.tmk40 Try.by40 Try.zr40 Try.ag42 Try.sz42 Try.tsl42 Try.by42 Try.sl42 Try.zr42 Try.ag43 Try.sz43 Try.fd43_0 Try.fd43_1 Try.fd43_2 Try.fd43_3 Try.tp43 Try.eql43 Try.neq43 Try.tmk43 Try.by43 Try.zr43 Try.pz43 Try.ag44 Try.sz44 Try.fd44_0 Try.fd44_1 Try.fd44_2 Try.fd44_3 Try.tp44 Try.eql44 Try.neq44 Try.tmk44 Try.by44 Try.zr44 Try.ag50 Try.sz50 Try.tsl50 Try.by50 Try.sl50 Try.zr50 Try.ag62 Try.sz62 Try.tsl62 Try.by62 Try.sl62 Try.zr62 Try.ag65 Try.sz65 Try.tmk65 Try.by65 Try.zr65 Try.pz65 Try.ag66 Try.sz66 Try.fd66_0 Try.fd66_1 Try.fd66_2 Try.fd66_3 Try.tp66 Try.eql66 Try.neq66 Try.tmk66 Try.by66 Try.zr66 Try.pz66 Try.ag67 Try.sz67 Try.fd67_0 Try.fd67_1 Try.fd67_2 Try.fd67_3 Try.tp67 Try.eql67 Try.neq67 Try.tmk67 Try.by67 Try.zr67 Try.ag70 Try.sz70 Try.tsl70 Try.by70 Try.sl70 Try.zr70 Try.ag71 Try.sz71 Try.tsl71 Try.by71 Try.sl71 Try.zr71 Try.ag72 Try.sz72 Try.fd72_0 Try.fd72_1 Try.fd72_2 Try.fd72_3 Try.tp72 Try.tmk72 Try.by72 Try.zr72 Try.pz72 Try.ag73 Try.sz73 Try.fd73_0 Try.fd73_1 Try.fd73_2 Try.fd73_3 Try.tp73 Try.tmk73 Try.by73 Try.zr73 Try.ag76 Try.sz76 Try.fd76_0 Try.fd76_1 Try.tp76 Try.eql76 Try.neq76 Try.tmk76 Try.by76 Try.zr76 Try.pz76 Try.ag77 Try.sz77 Try.fd77_0 Try.fd77_1 Try.tp77 Try.eql77 Try.neq77 Try.tmk77 Try.by77 Try.zr77 Try.ag89 Try.sz89 Try.fd89_0 Try.fd89_1 Try.fd89_2 Try.fd89_3 Try.tp89 Try.eql89 Try.neq89 Try.tmk89 Try.by89 Try.zr89 Try.pz89 Try.ag90 Try.sz90 Try.fd90_0 Try.fd90_1 Try.fd90_2 Try.fd90_3 Try.tp90 Try.eql90 Try.neq90 Try.tmk90 Try.by90 Try.zr90 Try.ag100 Try.sz100 Try.tmk100 Try.tptr100 Try.by100 Try.zr100 Try.ag101 Try.sz101 Try.fd101_0 Try.fd101_1 Try.tp101 Try.tmk101 Try.by101 Try.zr101 Try.pz101 Try.ag102 Try.sz102 Try.fd102_0 Try.fd102_1 Try.tp102 Try.tmk102 Try.by102 Try.zr102 Try.ag103 Try.sz103 Try.tmk103 Try.tptr103 Try.by103 Try.zr103 Try.ag104 Try.sz104 Try.fd104_0 Try.fd104_1 Try.fd104_2 Try.tp104 Try.tmk104 Try.by104 Try.zr104 Try.pz104 Try.ag105 Try.sz105 Try.fd105_0 Try.fd105_1 Try.fd105_2 Try.tp105 Try.tmk105 Try.by105 Try.zr105 Try.ag108 Try.sz108 Try.tif108 Try.by108 Try.zr108 Try.ag109 Try.sz109 Try.tif109 Try.by109 Try.zr109 Try.ag112 Try.sz112 Try.fd112_0 Try.fd112_1 Try.fd112_2 Try.tp112 Try.eql112 Try.neq112 Try.tmk112 Try.by112 Try.zr112 Try.pz112 Try.ag113 Try.sz113 Try.fd113_0 Try.fd113_1 Try.fd113_2 Try.tp113 Try.eql113 Try.neq113 Try.tmk113 Try.by113 Try.zr113 Try.ag116 Try.sz116 Try.tsl116 Try.by116 Try.sl116 Try.zr116 Try.ag119 Try.sz119 Try.fd119_0 Try.fd119_1 Try.fd119_2 Try.fd119_3 Try.tp119 Try.eql119 Try.neq119 Try.tmk119 Try.by119 Try.zr119 Try.pz119 Try.ag120 Try.sz120 Try.fd120_0 Try.fd120_1 Try.fd120_2 Try.fd120_3 Try.tp120 Try.eql120 Try.neq120 Try.tmk120 Try.by120 Try.zr120 Try.ag125 Try.sz125 Try.fd125_0 Try.fd125_1 Try.tp125 Try.tmk125 Try.by125 Try.zr125 Try.pz125 Try.ag126 Try.sz126 Try.fd126_0 Try.fd126_1 Try.tp126 Try.tmk126 Try.by126 Try.zr126 Try.ag127 Try.sz127 Try.fd127_0 Try.fd127_1 Try.tp127 Try.tmk127 Try.by127 Try.zr127 Try.pz127 Try.ag128 Try.sz128 Try.fd128_0 Try.fd128_1 Try.tp128 Try.tmk128 Try.by128 Try.zr128 Try.ag133 Try.sz133 Try.fd133_0 Try.fd133_1 Try.fd133_2 Try.tp133 Try.eql133 Try.neq133 Try.tmk133 Try.by133 Try.zr133 Try.pz133 Try.ag134 Try.sz134 Try.fd134_0 Try.fd134_1 Try.fd134_2 Try.tp134 Try.eql134 Try.neq134 Try.tmk134 Try.by134 Try.zr134 Try.ag135 Try.sz135 Try.tp135 Try.by135 Try.ar135 Try.zr135 Try.pz135 Try.ag151 Try.sz151 Try.tsl151 Try.by151 Try.sl151 Try.zr151 Try.ag152 Try.sz152 Try.fd152_0 Try.fd152_1 Try.tp152 Try.tmk152 Try.by152 Try.zr152 Try.pz152 Try.ag153 Try.sz153 Try.fd153_0 Try.fd153_1 Try.tp153 Try.tmk153 Try.by153 Try.zr153 Try.ag158 Try.sz158 Try.tp158 Try.by158 Try.ar158 Try.zr158 Try.pz158 Try.ag159 Try.sz159 Try.tmk159 Try.by159 Try.zr159 Try.ag168 Try.sz168 Try.tp168 Try.by168 Try.ar168 Try.zr168 Try.pz168 Try.ag170 Try.sz170 Try.fd170_0 Try.fd170_1 Try.tp170 Try.tmk170 Try.by170 Try.zr170 Try.ag171 Try.sz171 Try.fd171_0 Try.fd171_1 Try.tp171 Try.tmk171 Try.by171 Try.zr171 Try.ag173 Try.sz173 Try.fd173_0 Try.fd173_1 Try.fd173_2 Try.tp173 Try.eql173 Try.neq173 Try.tmk173 Try.by173 Try.zr173 Try.ag174 Try.sz174 Try.fd174_0 Try.fd174_1 Try.fd174_2 Try.tp174 Try.eql174 Try.neq174 Try.tmk174 Try.by174 Try.zr174 Try.ag179 Try.sz179 Try.tsl179 Try.by179 Try.sl179 Try.zr179 Try.ag187 Try.sz187 Try.tmk187 Try.by187 Try.zr187 Try.ag189 Try.sz189 Try.fd189_0 Try.fd189_1 Try.fd189_2 Try.fd189_3 Try.tp189 Try.tmk189 Try.by189 Try.zr189 Try.pz189 Try.ag190 Try.sz190 Try.fd190_0 Try.fd190_1 Try.fd190_2 Try.fd190_3 Try.tp190 Try.tmk190 Try.by190 Try.zr190 Try.ag191 Try.sz191 Try.tp191 Try.by191 Try.ar191 Try.zr191 Try.pz191 Try.ag192 Try.sz192 Try.fd192_0 Try.tp192 Try.tmk192 Try.by192 Try.zr192 Try.ag193 Try.sz193 Try.fd193_0 Try.tp193 Try.tmk193 Try.by193 Try.zr193 Try.ag194 Try.sz194 Try.tmk194 Try.by194 Try.zr194 Try.ag195 Try.sz195 Try.tmk195 Try.by195 Try.zr195 Try.ag197 Try.sz197 Try.tmk197 Try.tptr197 Try.by197 Try.zr197 Try.ag198 Try.sz198 Try.tmk198 Try.by198 Try.zr198 Try.ag199 Try.sz199 Try.tmk199 Try.by199 Try.zr199 Try.ag200 Try.sz200 Try.fd200_0 Try.fd200_1 Try.fd200_2 Try.fd200_3 Try.fd200_4 Try.fd200_5 Try.fd200_6 Try.fd200_7 Try.fd200_8 Try.fd200_9 Try.fd200_10 Try.tp200 Try.tmk200 Try.by200 Try.zr200 Try.pz200 Try.ag201 Try.sz201 Try.fd201_0 Try.fd201_1 Try.fd201_2 Try.fd201_3 Try.fd201_4 Try.fd201_5 Try.fd201_6 Try.fd201_7 Try.fd201_8 Try.fd201_9 Try.fd201_10 Try.tp201 Try.tmk201 Try.by201 Try.zr201 Try.ag203 Try.sz203 Try.fd203_0 Try.fd203_1 Try.fd203_2 Try.fd203_3 Try.fd203_4 Try.tp203 Try.eql203 Try.neq203 Try.tmk203 Try.by203 Try.zr203 Try.pz203 Try.ag204 Try.sz204 Try.fd204_0 Try.fd204_1 Try.fd204_2 Try.fd204_3 Try.fd204_4 Try.tp204 Try.eql204 Try.neq204 Try.tmk204 Try.by204 Try.zr204 Try.ag205 Try.sz205 Try.fd205_0 Try.fd205_1 Try.fd205_2 Try.fd205_3 Try.fd205_4 Try.fd205_5 Try.fd205_6 Try.tp205 Try.tmk205 Try.by205 Try.zr205 Try.pz205 Try.ag206 Try.sz206 Try.fd206_0 Try.fd206_1 Try.fd206_2 Try.fd206_3 Try.fd206_4 Try.fd206_5 Try.fd206_6 Try.tp206 Try.tmk206 Try.by206 Try.zr206 Try.ag210 Try.sz210 Try.by210 Try.zr210 Try.cv2_2 Try.cv2_3 Try.cv2_5 Try.cv2_6 Try.cv2_12 Try.cv2_21 Try.cv2_30 Try.cv2_65 Try.cv2_159 Try.cv2_187 Try.cv2_194 Try.cv2_195 Try.cv2_198 Try.cv2_199 Try.cv3_2 Try.cv3_3 Try.cv3_5 Try.cv3_6 Try.cv3_12 Try.cv3_21 Try.cv3_30 Try.cv3_65 Try.cv3_159 Try.cv3_187 Try.cv3_194 Try.cv3_195 Try.cv3_198 Try.cv3_199 Try.cv5_2 Try.cv5_3 Try.cv5_5 Try.cv5_6 Try.cv5_12 Try.cv5_21 Try.cv5_30 Try.cv5_65 Try.cv5_159 Try.cv5_187 Try.cv5_194 Try.cv5_195 Try.cv5_198 Try.cv5_199 Try.cv6_2 Try.cv6_3 Try.cv6_5 Try.cv6_6 Try.cv6_12 Try.cv6_21 Try.cv6_30 Try.cv6_65 Try.cv6_159 Try.cv6_187 Try.cv6_194 Try.cv6_195 Try.cv6_198 Try.cv6_199 Try.cv12_2 Try.cv12_3 Try.cv12_5 Try.cv12_6 Try.cv12_12 Try.cv12_21 Try.cv12_30 Try.cv12_65 Try.cv12_159 Try.cv12_187 Try.cv12_194 Try.cv12_195 Try.cv12_198 Try.cv12_199 Try.cv21_2 Try.cv21_3 Try.cv21_5 Try.cv21_6 Try.cv21_12 Try.cv21_21 Try.cv21_30 Try.cv21_65 Try.cv21_159 Try.cv21_187 Try.cv21_194 Try.cv21_195 Try.cv21_198 Try.cv21_199 Try.cv30_2 Try.cv30_3 Try.cv30_5 Try.cv30_6 Try.cv30_12 Try.cv30_21 Try.cv30_30 Try.cv30_65 Try.cv30_159 Try.cv30_187 Try.cv30_194 Try.cv30_195 Try.cv30_198 Try.cv30_199 Try.cv65_2 Try.cv65_3 Try.cv65_5 Try.cv65_6 Try.cv65_12 Try.cv65_21 Try.cv65_30 Try.cv65_65 Try.cv65_159 Try.cv65_187 Try.cv65_194 Try.cv65_195 Try.cv65_198 Try.cv65_199 Try.cv159_2 Try.cv159_3 Try.cv159_5 Try.cv159_6 Try.cv159_12 Try.cv159_21 Try.cv159_30 Try.cv159_65 Try.cv159_159 Try.cv159_187 Try.cv159_194 Try.cv159_195 Try.cv159_198 Try.cv159_199 Try.cv187_2 Try.cv187_3 Try.cv187_5 Try.cv187_6 Try.cv187_12 Try.cv187_21 Try.cv187_30 Try.cv187_65 Try.cv187_159 Try.cv187_187 Try.cv187_194 Try.cv187_195 Try.cv187_198 Try.cv187_199 Try.cv194_2 Try.cv194_3 Try.cv194_5 Try.cv194_6 Try.cv194_12 Try.cv194_21 Try.cv194_30 Try.cv194_65 Try.cv194_159 Try.cv194_187 Try.cv194_194 Try.cv194_195 Try.cv194_198 Try.cv194_199 Try.cv195_2 Try.cv195_3 Try.cv195_5 Try.cv195_6 Try.cv195_12 Try.cv195_21 Try.cv195_30 Try.cv195_65 Try.cv195_159 Try.cv195_187 Try.cv195_194 Try.cv195_195 Try.cv195_198 Try.cv195_199 Try.cv198_2 Try.cv198_3 Try.cv198_5 Try.cv198_6 Try.cv198_12 Try.cv198_21 Try.cv198_30 Try.cv198_65 Try.cv198_159 Try.cv198_187 Try.cv198_194 Try.cv198_195 Try.cv198_198 Try.cv198_199 Try.cv199_2 Try.cv199_3 Try.cv199_5 Try.cv199_6 Try.cv199_12 Try.cv199_21 Try.cv199_30 Try.cv199_65 Try.cv199_159 Try.cv199_187 Try.cv199_194 Try.cv199_195 Try.cv199_198 Try.cv199_199 Try.ok2 Try.ok3 Try.ok4 Try.ok5 Try.ok6 Try.ok7 Try.ok8 Try.ok9 Try.ok10 Try.ok11 Try.ok12 Try.ok13 Try.ok14 Try.ok15 Try.ok16 Try.ok17 Try.ok18 Try.ok19 Try.ok20 Try.ok21 Try.ok22 Try.ok23 Try.ok24 Try.ok25 Try.ok26 Try.ok27 Try.ok28 Try.ok29 Try.ok30 Try.ok31 Try.ok32 Try.ok33 Try.ok34 Try.ok35 Try.ok36 Try.ok37 Try.ok38 Try.ok39 Try.ok40 Try.ok41 Try.ok42 Try.ok43 Try.ok44 Try.ok45 Try.ok46 Try.ok47 Try.ok48 Try.ok49 Try.ok50 Try.ok51 Try.ok52 Try.ok53 Try.ok54 Try.ok55 Try.ok56 Try.ok57 Try.ok58 Try.ok59 Try.ok60 Try.ok61 Try.ok62 Try.ok63 Try.ok64 Try.ok65 Try.ok66 Try.ok67 Try.ok68 Try.ok69 Try.ok70 Try.ok71 Try.ok72 Try.ok73 Try.ok74 Try.ok75 Try.ok76 Try.ok77 Try.ok78 Try.ok79 Try.ok80 Try.ok81 Try.ok82 Try.ok83 Try.ok84 Try.ok85 Try.ok86 Try.ok87 Try.ok88 Try.ok89 Try.ok90 Try.ok91 Try.ok92 Try.ok93 Try.ok94 Try.ok95 Try.ok96 Try.ok97 Try.ok98 Try.ok99 Try.ok100 Try.ok101 Try.ok102 Try.ok103 Try.ok104 Try.ok105 Try.ok106 Try.ok107 Try.ok108 Try.ok109 Try.ok110 Try.ok111 Try.ok112 Try.ok113 Try.ok114 Try.ok115 Try.ok116 Try.ok117 Try.ok118 Try.ok119 Try.ok120 Try.ok121 Try.ok122 Try.ok123 Try.ok124 Try.ok125 Try.ok126 Try.ok127 Try.ok128 Try.ok129 Try.ok130 Try.ok131 Try.ok132 Try.ok133 Try.ok134 Try.ok135 Try.ok136 Try.ok137 Try.ok138 Try.ok139 Try.ok140 Try.ok141 Try.ok142 Try.ok143 Try.ok144 Try.ok145 Try.ok146 Try.ok147 Try.ok148 Try.ok165 Try.ok166 Try.ok168 Try.ok169 Try.ok170 Try.ok171
end Go.Proofs.Ytjdbknnacaacaaa
