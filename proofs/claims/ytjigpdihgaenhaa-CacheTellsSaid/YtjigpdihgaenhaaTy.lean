/-
  Facts on the types and functions of this program, as the abstract machine asks them.
  No condition: closed facts.
-/
import Derived.Test.YtjigpdihgaenhaaAx13
namespace Go.Proofs.Ytjigpdihgaenhaa
open Go Go.RowKit
set_option linter.unusedSimpArgs false
set_option linter.unusedVariables false
theorem Try.ag2 : tyAgg Try.prog 2 = some false := by kernel_rfl
theorem Try.sz2 : tySize Try.prog 2 = some 1 := by kernel_rfl
theorem Try.tmk2 : tyMk Try.prog 2 = true := by kernel_rfl
theorem Try.by2 : tyBytes Try.prog 2 = some 8 := by kernel_rfl
theorem Try.zr2 : tyZero Try.prog 2 = some (.int .i64 0) := by kernel_rfl
theorem Try.pz2 : plainB (.int .i64 0) = true := by kernel_rfl
theorem Try.ag3 : tyAgg Try.prog 3 = some false := by kernel_rfl
theorem Try.sz3 : tySize Try.prog 3 = some 1 := by kernel_rfl
theorem Try.tmk3 : tyMk Try.prog 3 = true := by kernel_rfl
theorem Try.by3 : tyBytes Try.prog 3 = some 8 := by kernel_rfl
theorem Try.zr3 : tyZero Try.prog 3 = some (.int .i64 0) := by kernel_rfl
theorem Try.ag4 : tyAgg Try.prog 4 = some false := by kernel_rfl
theorem Try.sz4 : tySize Try.prog 4 = some 1 := by kernel_rfl
theorem Try.tmk4 : tyMk Try.prog 4 = true := by kernel_rfl
theorem Try.tb4 : tyBool Try.prog 4 = true := by kernel_rfl
theorem Try.by4 : tyBytes Try.prog 4 = some 1 := by kernel_rfl
theorem Try.zr4 : tyZero Try.prog 4 = some (.bool false) := by kernel_rfl
theorem Try.pz4 : plainB (.bool false) = true := by kernel_rfl
theorem Try.ag5 : tyAgg Try.prog 5 = some false := by kernel_rfl
theorem Try.sz5 : tySize Try.prog 5 = some 1 := by kernel_rfl
theorem Try.tmk5 : tyMk Try.prog 5 = true := by kernel_rfl
theorem Try.by5 : tyBytes Try.prog 5 = some 1 := by kernel_rfl
theorem Try.zr5 : tyZero Try.prog 5 = some (.int .u8 0) := by kernel_rfl
theorem Try.pz5 : plainB (.int .u8 0) = true := by kernel_rfl
theorem Try.ag6 : tyAgg Try.prog 6 = some false := by kernel_rfl
theorem Try.sz6 : tySize Try.prog 6 = some 1 := by kernel_rfl
theorem Try.tmk6 : tyMk Try.prog 6 = true := by kernel_rfl
theorem Try.by6 : tyBytes Try.prog 6 = some 1 := by kernel_rfl
theorem Try.zr6 : tyZero Try.prog 6 = some (.int .u8 0) := by kernel_rfl
theorem Try.ag7 : tyAgg Try.prog 7 = some true := by kernel_rfl
theorem Try.sz7 : tySize Try.prog 7 = some 4 := by kernel_rfl
theorem Try.fd7_0 : tyField Try.prog 7 0 = some (0, 2) := by kernel_rfl
theorem Try.fd7_1 : tyField Try.prog 7 1 = some (1, 3) := by kernel_rfl
theorem Try.fd7_2 : tyField Try.prog 7 2 = some (2, 4) := by kernel_rfl
theorem Try.fd7_3 : tyField Try.prog 7 3 = some (3, 6) := by kernel_rfl
theorem Try.tp7 : tyPlace Try.prog 7 = some fun i => ([(0, 1), (1, 1), (2, 1), (3, 1)] : List (Nat × Nat))[i]? := by kernel_rfl
theorem Try.eql7 (y : Operand) (a0 b0 : Int) (a1 b1 : Int) (a2 b2 : Bool) (a3 b3 : Int) : binOpA Try.prog .eql 7 y (.agg #[.int .i64 a0, .int .i64 a1, .bool a2, .int .u8 a3]) (.agg #[.int .i64 b0, .int .i64 b1, .bool b2, .int .u8 b3]) = some (.bool (a0 == b0 && (a1 == b1 && (a2 == b2 && (a3 == b3 && true))))) := by kernel_rfl
theorem Try.neq7 (y : Operand) (a0 b0 : Int) (a1 b1 : Int) (a2 b2 : Bool) (a3 b3 : Int) : binOpA Try.prog .neq 7 y (.agg #[.int .i64 a0, .int .i64 a1, .bool a2, .int .u8 a3]) (.agg #[.int .i64 b0, .int .i64 b1, .bool b2, .int .u8 b3]) = some (.bool !(a0 == b0 && (a1 == b1 && (a2 == b2 && (a3 == b3 && true))))) := by kernel_rfl
theorem Try.tmk7 : tyMk Try.prog 7 = true := by kernel_rfl
theorem Try.by7 : tyBytes Try.prog 7 = some 24 := by kernel_rfl
theorem Try.zr7 : tyZero Try.prog 7 = some (.agg #[.int .i64 0, .int .i64 0, .bool false, .int .u8 0]) := by kernel_rfl
theorem Try.pz7 : plainB (.agg #[.int .i64 0, .int .i64 0, .bool false, .int .u8 0]) = true := by kernel_rfl
theorem Try.ag8 : tyAgg Try.prog 8 = some true := by kernel_rfl
theorem Try.sz8 : tySize Try.prog 8 = some 4 := by kernel_rfl
theorem Try.fd8_0 : tyField Try.prog 8 0 = some (0, 2) := by kernel_rfl
theorem Try.fd8_1 : tyField Try.prog 8 1 = some (1, 3) := by kernel_rfl
theorem Try.fd8_2 : tyField Try.prog 8 2 = some (2, 4) := by kernel_rfl
theorem Try.fd8_3 : tyField Try.prog 8 3 = some (3, 6) := by kernel_rfl
theorem Try.tp8 : tyPlace Try.prog 8 = some fun i => ([(0, 1), (1, 1), (2, 1), (3, 1)] : List (Nat × Nat))[i]? := by kernel_rfl
theorem Try.eql8 (y : Operand) (a0 b0 : Int) (a1 b1 : Int) (a2 b2 : Bool) (a3 b3 : Int) : binOpA Try.prog .eql 8 y (.agg #[.int .i64 a0, .int .i64 a1, .bool a2, .int .u8 a3]) (.agg #[.int .i64 b0, .int .i64 b1, .bool b2, .int .u8 b3]) = some (.bool (a0 == b0 && (a1 == b1 && (a2 == b2 && (a3 == b3 && true))))) := by kernel_rfl
theorem Try.neq8 (y : Operand) (a0 b0 : Int) (a1 b1 : Int) (a2 b2 : Bool) (a3 b3 : Int) : binOpA Try.prog .neq 8 y (.agg #[.int .i64 a0, .int .i64 a1, .bool a2, .int .u8 a3]) (.agg #[.int .i64 b0, .int .i64 b1, .bool b2, .int .u8 b3]) = some (.bool !(a0 == b0 && (a1 == b1 && (a2 == b2 && (a3 == b3 && true))))) := by kernel_rfl
theorem Try.tmk8 : tyMk Try.prog 8 = true := by kernel_rfl
theorem Try.by8 : tyBytes Try.prog 8 = some 24 := by kernel_rfl
theorem Try.zr8 : tyZero Try.prog 8 = some (.agg #[.int .i64 0, .int .i64 0, .bool false, .int .u8 0]) := by kernel_rfl
theorem Try.ag9 : tyAgg Try.prog 9 = some false := by kernel_rfl
theorem Try.sz9 : tySize Try.prog 9 = some 1 := by kernel_rfl
theorem Try.tmk9 : tyMk Try.prog 9 = true := by kernel_rfl
theorem Try.by9 : tyBytes Try.prog 9 = some 16 := by kernel_rfl
theorem Try.zr9 : tyZero Try.prog 9 = some (.string ⟨#[]⟩) := by kernel_rfl
theorem Try.pz9 : plainB (.string ⟨#[]⟩) = true := by kernel_rfl
theorem Try.ag10 : tyAgg Try.prog 10 = some false := by kernel_rfl
theorem Try.sz10 : tySize Try.prog 10 = some 1 := by kernel_rfl
theorem Try.by10 : tyBytes Try.prog 10 = some 16 := by kernel_rfl
theorem Try.zr10 : tyZero Try.prog 10 = some (.string ⟨#[]⟩) := by kernel_rfl
theorem Try.ag11 : tyAgg Try.prog 11 = some false := by kernel_rfl
theorem Try.sz11 : tySize Try.prog 11 = some 1 := by kernel_rfl
theorem Try.by11 : tyBytes Try.prog 11 = some 16 := by kernel_rfl
theorem Try.zr11 : tyZero Try.prog 11 = some (.string ⟨#[]⟩) := by kernel_rfl
theorem Try.ag12 : tyAgg Try.prog 12 = some false := by kernel_rfl
theorem Try.sz12 : tySize Try.prog 12 = some 1 := by kernel_rfl
theorem Try.tmk12 : tyMk Try.prog 12 = true := by kernel_rfl
theorem Try.by12 : tyBytes Try.prog 12 = some 8 := by kernel_rfl
theorem Try.zr12 : tyZero Try.prog 12 = some (.int .u64 0) := by kernel_rfl
theorem Try.pz12 : plainB (.int .u64 0) = true := by kernel_rfl
theorem Try.ag13 : tyAgg Try.prog 13 = some true := by kernel_rfl
theorem Try.sz13 : tySize Try.prog 13 = some 2 := by kernel_rfl
theorem Try.fd13_0 : tyField Try.prog 13 0 = some (0, 9) := by kernel_rfl
theorem Try.fd13_1 : tyField Try.prog 13 1 = some (1, 12) := by kernel_rfl
theorem Try.tp13 : tyPlace Try.prog 13 = some fun i => ([(0, 1), (1, 1)] : List (Nat × Nat))[i]? := by kernel_rfl
theorem Try.tmk13 : tyMk Try.prog 13 = true := by kernel_rfl
theorem Try.by13 : tyBytes Try.prog 13 = some 24 := by kernel_rfl
theorem Try.zr13 : tyZero Try.prog 13 = some (.agg #[.string ⟨#[]⟩, .int .u64 0]) := by kernel_rfl
theorem Try.pz13 : plainB (.agg #[.string ⟨#[]⟩, .int .u64 0]) = true := by kernel_rfl
theorem Try.ag14 : tyAgg Try.prog 14 = some true := by kernel_rfl
theorem Try.sz14 : tySize Try.prog 14 = some 2 := by kernel_rfl
theorem Try.fd14_0 : tyField Try.prog 14 0 = some (0, 9) := by kernel_rfl
theorem Try.fd14_1 : tyField Try.prog 14 1 = some (1, 12) := by kernel_rfl
theorem Try.tp14 : tyPlace Try.prog 14 = some fun i => ([(0, 1), (1, 1)] : List (Nat × Nat))[i]? := by kernel_rfl
theorem Try.tmk14 : tyMk Try.prog 14 = true := by kernel_rfl
theorem Try.by14 : tyBytes Try.prog 14 = some 24 := by kernel_rfl
theorem Try.zr14 : tyZero Try.prog 14 = some (.agg #[.string ⟨#[]⟩, .int .u64 0]) := by kernel_rfl
theorem Try.ag15 : tyAgg Try.prog 15 = some false := by kernel_rfl
theorem Try.sz15 : tySize Try.prog 15 = some 1 := by kernel_rfl
theorem Try.tmk15 : tyMk Try.prog 15 = true := by kernel_rfl
theorem Try.tptr15 : tyPtr Try.prog 15 = true := by kernel_rfl
theorem Try.by15 : tyBytes Try.prog 15 = some 8 := by kernel_rfl
theorem Try.zr15 : tyZero Try.prog 15 = some (.pointer none) := by kernel_rfl
theorem Try.pz15 : plainB (.pointer none) = true := by kernel_rfl
theorem Try.mt15_Error : methA Try.prog 15 "Error" = some 74 := by kernel_rfl
theorem Try.mt15_RuntimeError : methA Try.prog 15 "RuntimeError" = some 75 := by kernel_rfl
theorem Try.ag16 : tyAgg Try.prog 16 = some false := by kernel_rfl
theorem Try.sz16 : tySize Try.prog 16 = some 1 := by kernel_rfl
theorem Try.tmk16 : tyMk Try.prog 16 = true := by kernel_rfl
theorem Try.tptr16 : tyPtr Try.prog 16 = true := by kernel_rfl
theorem Try.by16 : tyBytes Try.prog 16 = some 8 := by kernel_rfl
theorem Try.zr16 : tyZero Try.prog 16 = some (.pointer none) := by kernel_rfl
theorem Try.mt16_Error : methA Try.prog 16 "Error" = some 76 := by kernel_rfl
theorem Try.mt16_RuntimeError : methA Try.prog 16 "RuntimeError" = some 77 := by kernel_rfl
theorem Try.ag17 : tyAgg Try.prog 17 = some false := by kernel_rfl
theorem Try.sz17 : tySize Try.prog 17 = some 1 := by kernel_rfl
theorem Try.tmk17 : tyMk Try.prog 17 = true := by kernel_rfl
theorem Try.tptr17 : tyPtr Try.prog 17 = true := by kernel_rfl
theorem Try.by17 : tyBytes Try.prog 17 = some 8 := by kernel_rfl
theorem Try.zr17 : tyZero Try.prog 17 = some (.pointer none) := by kernel_rfl
theorem Try.mt17_Align : methA Try.prog 17 "Align" = some 78 := by kernel_rfl
theorem Try.ag18 : tyAgg Try.prog 18 = some true := by kernel_rfl
theorem Try.sz18 : tySize Try.prog 18 = some 1 := by kernel_rfl
theorem Try.fd18_0 : tyField Try.prog 18 0 = some (0, 17) := by kernel_rfl
theorem Try.tp18 : tyPlace Try.prog 18 = some fun i => ([(0, 1)] : List (Nat × Nat))[i]? := by kernel_rfl
theorem Try.tmk18 : tyMk Try.prog 18 = true := by kernel_rfl
theorem Try.by18 : tyBytes Try.prog 18 = some 8 := by kernel_rfl
theorem Try.zr18 : tyZero Try.prog 18 = some (.agg #[.pointer none]) := by kernel_rfl
theorem Try.pz18 : plainB (.agg #[.pointer none]) = true := by kernel_rfl
theorem Try.ag19 : tyAgg Try.prog 19 = some true := by kernel_rfl
theorem Try.sz19 : tySize Try.prog 19 = some 1 := by kernel_rfl
theorem Try.fd19_0 : tyField Try.prog 19 0 = some (0, 17) := by kernel_rfl
theorem Try.tp19 : tyPlace Try.prog 19 = some fun i => ([(0, 1)] : List (Nat × Nat))[i]? := by kernel_rfl
theorem Try.tmk19 : tyMk Try.prog 19 = true := by kernel_rfl
theorem Try.by19 : tyBytes Try.prog 19 = some 8 := by kernel_rfl
theorem Try.zr19 : tyZero Try.prog 19 = some (.agg #[.pointer none]) := by kernel_rfl
theorem Try.ag20 : tyAgg Try.prog 20 = some false := by kernel_rfl
theorem Try.sz20 : tySize Try.prog 20 = some 1 := by kernel_rfl
theorem Try.tif20 : tyIfc Try.prog 20 = true := by kernel_rfl
theorem Try.by20 : tyBytes Try.prog 20 = some 16 := by kernel_rfl
theorem Try.zr20 : tyZero Try.prog 20 = some (.nilIface) := by kernel_rfl
theorem Try.pz20 : plainB (.nilIface) = true := by kernel_rfl
theorem Try.ag21 : tyAgg Try.prog 21 = some false := by kernel_rfl
theorem Try.sz21 : tySize Try.prog 21 = some 1 := by kernel_rfl
theorem Try.tmk21 : tyMk Try.prog 21 = true := by kernel_rfl
theorem Try.by21 : tyBytes Try.prog 21 = some 4 := by kernel_rfl
theorem Try.zr21 : tyZero Try.prog 21 = some (.int .i32 0) := by kernel_rfl
theorem Try.pz21 : plainB (.int .i32 0) = true := by kernel_rfl
theorem Try.ag22 : tyAgg Try.prog 22 = some false := by kernel_rfl
theorem Try.sz22 : tySize Try.prog 22 = some 1 := by kernel_rfl
theorem Try.tsl22 : tySli Try.prog 22 = true := by kernel_rfl
theorem Try.by22 : tyBytes Try.prog 22 = some 24 := by kernel_rfl
theorem Try.sl22 : tySlice Try.prog 22 = some 34 := by kernel_rfl
theorem Try.zr22 : tyZero Try.prog 22 = some (.slice none 0 0) := by kernel_rfl
theorem Try.pz22 : plainB (.slice none 0 0) = true := by kernel_rfl
theorem Try.ag24 : tyAgg Try.prog 24 = some true := by kernel_rfl
theorem Try.sz24 : tySize Try.prog 24 = some 20 := by kernel_rfl
theorem Try.tp24 : tyPlace Try.prog 24 = some fun i => some (i * 1, 1) := by kernel_rfl
theorem Try.by24 : tyBytes Try.prog 24 = some 160 := by kernel_rfl
theorem Try.ar24 : tyArray Try.prog 24 = some (20, 3) := by kernel_rfl
theorem Try.zr24 : tyZero Try.prog 24 = some (.agg #[.int .i64 0, .int .i64 0, .int .i64 0, .int .i64 0, .int .i64 0, .int .i64 0, .int .i64 0, .int .i64 0, .int .i64 0, .int .i64 0, .int .i64 0, .int .i64 0, .int .i64 0, .int .i64 0, .int .i64 0, .int .i64 0, .int .i64 0, .int .i64 0, .int .i64 0, .int .i64 0]) := by kernel_rfl
theorem Try.pz24 : plainB (.agg #[.int .i64 0, .int .i64 0, .int .i64 0, .int .i64 0, .int .i64 0, .int .i64 0, .int .i64 0, .int .i64 0, .int .i64 0, .int .i64 0, .int .i64 0, .int .i64 0, .int .i64 0, .int .i64 0, .int .i64 0, .int .i64 0, .int .i64 0, .int .i64 0, .int .i64 0, .int .i64 0]) = true := by kernel_rfl
theorem Try.ag25 : tyAgg Try.prog 25 = some true := by kernel_rfl
theorem Try.sz25 : tySize Try.prog 25 = some 22 := by kernel_rfl
theorem Try.fd25_0 : tyField Try.prog 25 0 = some (0, 3) := by kernel_rfl
theorem Try.fd25_1 : tyField Try.prog 25 1 = some (1, 3) := by kernel_rfl
theorem Try.fd25_2 : tyField Try.prog 25 2 = some (2, 24) := by kernel_rfl
theorem Try.tp25 : tyPlace Try.prog 25 = some fun i => ([(0, 1), (1, 1), (2, 20)] : List (Nat × Nat))[i]? := by kernel_rfl
theorem Try.tmk25 : tyMk Try.prog 25 = true := by kernel_rfl
theorem Try.by25 : tyBytes Try.prog 25 = some 176 := by kernel_rfl
theorem Try.zr25 : tyZero Try.prog 25 = some (.agg #[.int .i64 0, .int .i64 0, .int .i64 0, .int .i64 0, .int .i64 0, .int .i64 0, .int .i64 0, .int .i64 0, .int .i64 0, .int .i64 0, .int .i64 0, .int .i64 0, .int .i64 0, .int .i64 0, .int .i64 0, .int .i64 0, .int .i64 0, .int .i64 0, .int .i64 0, .int .i64 0, .int .i64 0, .int .i64 0]) := by kernel_rfl
theorem Try.pz25 : plainB (.agg #[.int .i64 0, .int .i64 0, .int .i64 0, .int .i64 0, .int .i64 0, .int .i64 0, .int .i64 0, .int .i64 0, .int .i64 0, .int .i64 0, .int .i64 0, .int .i64 0, .int .i64 0, .int .i64 0, .int .i64 0, .int .i64 0, .int .i64 0, .int .i64 0, .int .i64 0, .int .i64 0, .int .i64 0, .int .i64 0]) = true := by kernel_rfl
theorem Try.ag26 : tyAgg Try.prog 26 = some true := by kernel_rfl
theorem Try.sz26 : tySize Try.prog 26 = some 22 := by kernel_rfl
theorem Try.fd26_0 : tyField Try.prog 26 0 = some (0, 3) := by kernel_rfl
theorem Try.fd26_1 : tyField Try.prog 26 1 = some (1, 3) := by kernel_rfl
theorem Try.fd26_2 : tyField Try.prog 26 2 = some (2, 24) := by kernel_rfl
theorem Try.tp26 : tyPlace Try.prog 26 = some fun i => ([(0, 1), (1, 1), (2, 20)] : List (Nat × Nat))[i]? := by kernel_rfl
theorem Try.tmk26 : tyMk Try.prog 26 = true := by kernel_rfl
theorem Try.by26 : tyBytes Try.prog 26 = some 176 := by kernel_rfl
theorem Try.zr26 : tyZero Try.prog 26 = some (.agg #[.int .i64 0, .int .i64 0, .int .i64 0, .int .i64 0, .int .i64 0, .int .i64 0, .int .i64 0, .int .i64 0, .int .i64 0, .int .i64 0, .int .i64 0, .int .i64 0, .int .i64 0, .int .i64 0, .int .i64 0, .int .i64 0, .int .i64 0, .int .i64 0, .int .i64 0, .int .i64 0, .int .i64 0, .int .i64 0]) := by kernel_rfl
theorem Try.ag27 : tyAgg Try.prog 27 = some false := by kernel_rfl
theorem Try.sz27 : tySize Try.prog 27 = some 1 := by kernel_rfl
theorem Try.tmk27 : tyMk Try.prog 27 = true := by kernel_rfl
theorem Try.tptr27 : tyPtr Try.prog 27 = true := by kernel_rfl
theorem Try.by27 : tyBytes Try.prog 27 = some 8 := by kernel_rfl
theorem Try.zr27 : tyZero Try.prog 27 = some (.pointer none) := by kernel_rfl
theorem Try.mt27_Bytes : methA Try.prog 27 "Bytes" = some 57 := by kernel_rfl
theorem Try.mt27_Copy : methA Try.prog 27 "Copy" = some 36 := by kernel_rfl
theorem Try.mt27_Do : methA Try.prog 27 "Do" = some 39 := by kernel_rfl
theorem Try.mt27_Word : methA Try.prog 27 "Word" = some 24 := by kernel_rfl
theorem Try.mt27_Words : methA Try.prog 27 "Words" = some 55 := by kernel_rfl
theorem Try.ag30 : tyAgg Try.prog 30 = some false := by kernel_rfl
theorem Try.sz30 : tySize Try.prog 30 = some 1 := by kernel_rfl
theorem Try.tmk30 : tyMk Try.prog 30 = true := by kernel_rfl
theorem Try.tptr30 : tyPtr Try.prog 30 = true := by kernel_rfl
theorem Try.by30 : tyBytes Try.prog 30 = some 8 := by kernel_rfl
theorem Try.zr30 : tyZero Try.prog 30 = some (.pointer none) := by kernel_rfl
theorem Try.mt30_Add : methA Try.prog 30 "Add" = some 82 := by kernel_rfl
theorem Try.mt30_CAS : methA Try.prog 30 "CAS" = some 83 := by kernel_rfl
theorem Try.mt30_Fresh : methA Try.prog 30 "Fresh" = some 84 := by kernel_rfl
theorem Try.mt30_Get : methA Try.prog 30 "Get" = some 89 := by kernel_rfl
theorem Try.mt30_Load : methA Try.prog 30 "Load" = some 85 := by kernel_rfl
theorem Try.mt30_Put : methA Try.prog 30 "Put" = some 90 := by kernel_rfl
theorem Try.mt30_Self : methA Try.prog 30 "Self" = some 86 := by kernel_rfl
theorem Try.mt30_Steps : methA Try.prog 30 "Steps" = some 28 := by kernel_rfl
theorem Try.mt30_Store : methA Try.prog 30 "Store" = some 91 := by kernel_rfl
theorem Try.mt30_Tell : methA Try.prog 30 "Tell" = some 92 := by kernel_rfl
theorem Try.ag33 : tyAgg Try.prog 33 = some true := by kernel_rfl
theorem Try.sz33 : tySize Try.prog 33 = some 3 := by kernel_rfl
theorem Try.fd33_0 : tyField Try.prog 33 0 = some (0, 5) := by kernel_rfl
theorem Try.fd33_1 : tyField Try.prog 33 1 = some (1, 3) := by kernel_rfl
theorem Try.fd33_2 : tyField Try.prog 33 2 = some (2, 3) := by kernel_rfl
theorem Try.tp33 : tyPlace Try.prog 33 = some fun i => ([(0, 1), (1, 1), (2, 1)] : List (Nat × Nat))[i]? := by kernel_rfl
theorem Try.eql33 (y : Operand) (a0 b0 : Int) (a1 b1 : Int) (a2 b2 : Int) : binOpA Try.prog .eql 33 y (.agg #[.int .u8 a0, .int .i64 a1, .int .i64 a2]) (.agg #[.int .u8 b0, .int .i64 b1, .int .i64 b2]) = some (.bool (a0 == b0 && (a1 == b1 && (a2 == b2 && true)))) := by kernel_rfl
theorem Try.neq33 (y : Operand) (a0 b0 : Int) (a1 b1 : Int) (a2 b2 : Int) : binOpA Try.prog .neq 33 y (.agg #[.int .u8 a0, .int .i64 a1, .int .i64 a2]) (.agg #[.int .u8 b0, .int .i64 b1, .int .i64 b2]) = some (.bool !(a0 == b0 && (a1 == b1 && (a2 == b2 && true)))) := by kernel_rfl
theorem Try.tmk33 : tyMk Try.prog 33 = true := by kernel_rfl
theorem Try.by33 : tyBytes Try.prog 33 = some 24 := by kernel_rfl
theorem Try.zr33 : tyZero Try.prog 33 = some (.agg #[.int .u8 0, .int .i64 0, .int .i64 0]) := by kernel_rfl
theorem Try.pz33 : plainB (.agg #[.int .u8 0, .int .i64 0, .int .i64 0]) = true := by kernel_rfl
theorem Try.ag34 : tyAgg Try.prog 34 = some true := by kernel_rfl
theorem Try.sz34 : tySize Try.prog 34 = some 3 := by kernel_rfl
theorem Try.fd34_0 : tyField Try.prog 34 0 = some (0, 5) := by kernel_rfl
theorem Try.fd34_1 : tyField Try.prog 34 1 = some (1, 3) := by kernel_rfl
theorem Try.fd34_2 : tyField Try.prog 34 2 = some (2, 3) := by kernel_rfl
theorem Try.tp34 : tyPlace Try.prog 34 = some fun i => ([(0, 1), (1, 1), (2, 1)] : List (Nat × Nat))[i]? := by kernel_rfl
theorem Try.eql34 (y : Operand) (a0 b0 : Int) (a1 b1 : Int) (a2 b2 : Int) : binOpA Try.prog .eql 34 y (.agg #[.int .u8 a0, .int .i64 a1, .int .i64 a2]) (.agg #[.int .u8 b0, .int .i64 b1, .int .i64 b2]) = some (.bool (a0 == b0 && (a1 == b1 && (a2 == b2 && true)))) := by kernel_rfl
theorem Try.neq34 (y : Operand) (a0 b0 : Int) (a1 b1 : Int) (a2 b2 : Int) : binOpA Try.prog .neq 34 y (.agg #[.int .u8 a0, .int .i64 a1, .int .i64 a2]) (.agg #[.int .u8 b0, .int .i64 b1, .int .i64 b2]) = some (.bool !(a0 == b0 && (a1 == b1 && (a2 == b2 && true)))) := by kernel_rfl
theorem Try.tmk34 : tyMk Try.prog 34 = true := by kernel_rfl
theorem Try.by34 : tyBytes Try.prog 34 = some 24 := by kernel_rfl
theorem Try.zr34 : tyZero Try.prog 34 = some (.agg #[.int .u8 0, .int .i64 0, .int .i64 0]) := by kernel_rfl
theorem Try.ag35 : tyAgg Try.prog 35 = some false := by kernel_rfl
theorem Try.sz35 : tySize Try.prog 35 = some 1 := by kernel_rfl
theorem Try.tmk35 : tyMk Try.prog 35 = true := by kernel_rfl
theorem Try.by35 : tyBytes Try.prog 35 = some 8 := by kernel_rfl
theorem Try.zr35 : tyZero Try.prog 35 = some (.int .u64 0) := by kernel_rfl
theorem Try.ag36 : tyAgg Try.prog 36 = some true := by kernel_rfl
theorem Try.sz36 : tySize Try.prog 36 = some 5 := by kernel_rfl
theorem Try.fd36_0 : tyField Try.prog 36 0 = some (0, 35) := by kernel_rfl
theorem Try.fd36_1 : tyField Try.prog 36 1 = some (1, 35) := by kernel_rfl
theorem Try.fd36_2 : tyField Try.prog 36 2 = some (2, 35) := by kernel_rfl
theorem Try.fd36_3 : tyField Try.prog 36 3 = some (3, 35) := by kernel_rfl
theorem Try.fd36_4 : tyField Try.prog 36 4 = some (4, 35) := by kernel_rfl
theorem Try.tp36 : tyPlace Try.prog 36 = some fun i => ([(0, 1), (1, 1), (2, 1), (3, 1), (4, 1)] : List (Nat × Nat))[i]? := by kernel_rfl
theorem Try.eql36 (y : Operand) (a0 b0 : Int) (a1 b1 : Int) (a2 b2 : Int) (a3 b3 : Int) (a4 b4 : Int) : binOpA Try.prog .eql 36 y (.agg #[.int .u64 a0, .int .u64 a1, .int .u64 a2, .int .u64 a3, .int .u64 a4]) (.agg #[.int .u64 b0, .int .u64 b1, .int .u64 b2, .int .u64 b3, .int .u64 b4]) = some (.bool (a0 == b0 && (a1 == b1 && (a2 == b2 && (a3 == b3 && (a4 == b4 && true)))))) := by kernel_rfl
theorem Try.neq36 (y : Operand) (a0 b0 : Int) (a1 b1 : Int) (a2 b2 : Int) (a3 b3 : Int) (a4 b4 : Int) : binOpA Try.prog .neq 36 y (.agg #[.int .u64 a0, .int .u64 a1, .int .u64 a2, .int .u64 a3, .int .u64 a4]) (.agg #[.int .u64 b0, .int .u64 b1, .int .u64 b2, .int .u64 b3, .int .u64 b4]) = some (.bool !(a0 == b0 && (a1 == b1 && (a2 == b2 && (a3 == b3 && (a4 == b4 && true)))))) := by kernel_rfl
theorem Try.tmk36 : tyMk Try.prog 36 = true := by kernel_rfl
theorem Try.by36 : tyBytes Try.prog 36 = some 40 := by kernel_rfl
theorem Try.zr36 : tyZero Try.prog 36 = some (.agg #[.int .u64 0, .int .u64 0, .int .u64 0, .int .u64 0, .int .u64 0]) := by kernel_rfl
theorem Try.pz36 : plainB (.agg #[.int .u64 0, .int .u64 0, .int .u64 0, .int .u64 0, .int .u64 0]) = true := by kernel_rfl
theorem Try.ag37 : tyAgg Try.prog 37 = some true := by kernel_rfl
theorem Try.sz37 : tySize Try.prog 37 = some 5 := by kernel_rfl
theorem Try.fd37_0 : tyField Try.prog 37 0 = some (0, 35) := by kernel_rfl
theorem Try.fd37_1 : tyField Try.prog 37 1 = some (1, 35) := by kernel_rfl
theorem Try.fd37_2 : tyField Try.prog 37 2 = some (2, 35) := by kernel_rfl
theorem Try.fd37_3 : tyField Try.prog 37 3 = some (3, 35) := by kernel_rfl
theorem Try.fd37_4 : tyField Try.prog 37 4 = some (4, 35) := by kernel_rfl
theorem Try.tp37 : tyPlace Try.prog 37 = some fun i => ([(0, 1), (1, 1), (2, 1), (3, 1), (4, 1)] : List (Nat × Nat))[i]? := by kernel_rfl
theorem Try.eql37 (y : Operand) (a0 b0 : Int) (a1 b1 : Int) (a2 b2 : Int) (a3 b3 : Int) (a4 b4 : Int) : binOpA Try.prog .eql 37 y (.agg #[.int .u64 a0, .int .u64 a1, .int .u64 a2, .int .u64 a3, .int .u64 a4]) (.agg #[.int .u64 b0, .int .u64 b1, .int .u64 b2, .int .u64 b3, .int .u64 b4]) = some (.bool (a0 == b0 && (a1 == b1 && (a2 == b2 && (a3 == b3 && (a4 == b4 && true)))))) := by kernel_rfl
theorem Try.neq37 (y : Operand) (a0 b0 : Int) (a1 b1 : Int) (a2 b2 : Int) (a3 b3 : Int) (a4 b4 : Int) : binOpA Try.prog .neq 37 y (.agg #[.int .u64 a0, .int .u64 a1, .int .u64 a2, .int .u64 a3, .int .u64 a4]) (.agg #[.int .u64 b0, .int .u64 b1, .int .u64 b2, .int .u64 b3, .int .u64 b4]) = some (.bool !(a0 == b0 && (a1 == b1 && (a2 == b2 && (a3 == b3 && (a4 == b4 && true)))))) := by kernel_rfl
theorem Try.tmk37 : tyMk Try.prog 37 = true := by kernel_rfl
theorem Try.by37 : tyBytes Try.prog 37 = some 40 := by kernel_rfl
theorem Try.zr37 : tyZero Try.prog 37 = some (.agg #[.int .u64 0, .int .u64 0, .int .u64 0, .int .u64 0, .int .u64 0]) := by kernel_rfl
theorem Try.ag42 : tyAgg Try.prog 42 = some false := by kernel_rfl
theorem Try.sz42 : tySize Try.prog 42 = some 1 := by kernel_rfl
theorem Try.tsl42 : tySli Try.prog 42 = true := by kernel_rfl
theorem Try.by42 : tyBytes Try.prog 42 = some 24 := by kernel_rfl
theorem Try.sl42 : tySlice Try.prog 42 = some 5 := by kernel_rfl
theorem Try.zr42 : tyZero Try.prog 42 = some (.slice none 0 0) := by kernel_rfl
theorem Try.ag52 : tyAgg Try.prog 52 = some false := by kernel_rfl
theorem Try.sz52 : tySize Try.prog 52 = some 1 := by kernel_rfl
theorem Try.tsl52 : tySli Try.prog 52 = true := by kernel_rfl
theorem Try.by52 : tyBytes Try.prog 52 = some 24 := by kernel_rfl
theorem Try.sl52 : tySlice Try.prog 52 = some 55 := by kernel_rfl
theorem Try.zr52 : tyZero Try.prog 52 = some (.slice none 0 0) := by kernel_rfl
theorem Try.ag53 : tyAgg Try.prog 53 = some false := by kernel_rfl
theorem Try.sz53 : tySize Try.prog 53 = some 1 := by kernel_rfl
theorem Try.tsl53 : tySli Try.prog 53 = true := by kernel_rfl
theorem Try.by53 : tyBytes Try.prog 53 = some 24 := by kernel_rfl
theorem Try.sl53 : tySlice Try.prog 53 = some 57 := by kernel_rfl
theorem Try.zr53 : tyZero Try.prog 53 = some (.slice none 0 0) := by kernel_rfl
theorem Try.ag54 : tyAgg Try.prog 54 = some true := by kernel_rfl
theorem Try.sz54 : tySize Try.prog 54 = some 5 := by kernel_rfl
theorem Try.fd54_0 : tyField Try.prog 54 0 = some (0, 5) := by kernel_rfl
theorem Try.fd54_1 : tyField Try.prog 54 1 = some (1, 5) := by kernel_rfl
theorem Try.fd54_2 : tyField Try.prog 54 2 = some (2, 5) := by kernel_rfl
theorem Try.fd54_3 : tyField Try.prog 54 3 = some (3, 5) := by kernel_rfl
theorem Try.fd54_4 : tyField Try.prog 54 4 = some (4, 35) := by kernel_rfl
theorem Try.tp54 : tyPlace Try.prog 54 = some fun i => ([(0, 1), (1, 1), (2, 1), (3, 1), (4, 1)] : List (Nat × Nat))[i]? := by kernel_rfl
theorem Try.eql54 (y : Operand) (a0 b0 : Int) (a1 b1 : Int) (a2 b2 : Int) (a3 b3 : Int) (a4 b4 : Int) : binOpA Try.prog .eql 54 y (.agg #[.int .u8 a0, .int .u8 a1, .int .u8 a2, .int .u8 a3, .int .u64 a4]) (.agg #[.int .u8 b0, .int .u8 b1, .int .u8 b2, .int .u8 b3, .int .u64 b4]) = some (.bool (a0 == b0 && (a1 == b1 && (a2 == b2 && (a3 == b3 && (a4 == b4 && true)))))) := by kernel_rfl
theorem Try.neq54 (y : Operand) (a0 b0 : Int) (a1 b1 : Int) (a2 b2 : Int) (a3 b3 : Int) (a4 b4 : Int) : binOpA Try.prog .neq 54 y (.agg #[.int .u8 a0, .int .u8 a1, .int .u8 a2, .int .u8 a3, .int .u64 a4]) (.agg #[.int .u8 b0, .int .u8 b1, .int .u8 b2, .int .u8 b3, .int .u64 b4]) = some (.bool !(a0 == b0 && (a1 == b1 && (a2 == b2 && (a3 == b3 && (a4 == b4 && true)))))) := by kernel_rfl
theorem Try.tmk54 : tyMk Try.prog 54 = true := by kernel_rfl
theorem Try.by54 : tyBytes Try.prog 54 = some 16 := by kernel_rfl
theorem Try.zr54 : tyZero Try.prog 54 = some (.agg #[.int .u8 0, .int .u8 0, .int .u8 0, .int .u8 0, .int .u64 0]) := by kernel_rfl
theorem Try.pz54 : plainB (.agg #[.int .u8 0, .int .u8 0, .int .u8 0, .int .u8 0, .int .u64 0]) = true := by kernel_rfl
theorem Try.ag55 : tyAgg Try.prog 55 = some true := by kernel_rfl
theorem Try.sz55 : tySize Try.prog 55 = some 5 := by kernel_rfl
theorem Try.fd55_0 : tyField Try.prog 55 0 = some (0, 5) := by kernel_rfl
theorem Try.fd55_1 : tyField Try.prog 55 1 = some (1, 5) := by kernel_rfl
theorem Try.fd55_2 : tyField Try.prog 55 2 = some (2, 5) := by kernel_rfl
theorem Try.fd55_3 : tyField Try.prog 55 3 = some (3, 5) := by kernel_rfl
theorem Try.fd55_4 : tyField Try.prog 55 4 = some (4, 35) := by kernel_rfl
theorem Try.tp55 : tyPlace Try.prog 55 = some fun i => ([(0, 1), (1, 1), (2, 1), (3, 1), (4, 1)] : List (Nat × Nat))[i]? := by kernel_rfl
theorem Try.eql55 (y : Operand) (a0 b0 : Int) (a1 b1 : Int) (a2 b2 : Int) (a3 b3 : Int) (a4 b4 : Int) : binOpA Try.prog .eql 55 y (.agg #[.int .u8 a0, .int .u8 a1, .int .u8 a2, .int .u8 a3, .int .u64 a4]) (.agg #[.int .u8 b0, .int .u8 b1, .int .u8 b2, .int .u8 b3, .int .u64 b4]) = some (.bool (a0 == b0 && (a1 == b1 && (a2 == b2 && (a3 == b3 && (a4 == b4 && true)))))) := by kernel_rfl
theorem Try.neq55 (y : Operand) (a0 b0 : Int) (a1 b1 : Int) (a2 b2 : Int) (a3 b3 : Int) (a4 b4 : Int) : binOpA Try.prog .neq 55 y (.agg #[.int .u8 a0, .int .u8 a1, .int .u8 a2, .int .u8 a3, .int .u64 a4]) (.agg #[.int .u8 b0, .int .u8 b1, .int .u8 b2, .int .u8 b3, .int .u64 b4]) = some (.bool !(a0 == b0 && (a1 == b1 && (a2 == b2 && (a3 == b3 && (a4 == b4 && true)))))) := by kernel_rfl
theorem Try.tmk55 : tyMk Try.prog 55 = true := by kernel_rfl
theorem Try.by55 : tyBytes Try.prog 55 = some 16 := by kernel_rfl
theorem Try.zr55 : tyZero Try.prog 55 = some (.agg #[.int .u8 0, .int .u8 0, .int .u8 0, .int .u8 0, .int .u64 0]) := by kernel_rfl
theorem Try.ag57 : tyAgg Try.prog 57 = some true := by kernel_rfl
theorem Try.sz57 : tySize Try.prog 57 = some 2 := by kernel_rfl
theorem Try.tp57 : tyPlace Try.prog 57 = some fun i => some (i * 1, 1) := by kernel_rfl
theorem Try.by57 : tyBytes Try.prog 57 = some 16 := by kernel_rfl
theorem Try.ar57 : tyArray Try.prog 57 = some (2, 35) := by kernel_rfl
theorem Try.zr57 : tyZero Try.prog 57 = some (.agg #[.int .u64 0, .int .u64 0]) := by kernel_rfl
theorem Try.pz57 : plainB (.agg #[.int .u64 0, .int .u64 0]) = true := by kernel_rfl
theorem Try.ag69 : tyAgg Try.prog 69 = some false := by kernel_rfl
theorem Try.sz69 : tySize Try.prog 69 = some 1 := by kernel_rfl
theorem Try.tsl69 : tySli Try.prog 69 = true := by kernel_rfl
theorem Try.by69 : tyBytes Try.prog 69 = some 24 := by kernel_rfl
theorem Try.sl69 : tySlice Try.prog 69 = some 35 := by kernel_rfl
theorem Try.zr69 : tyZero Try.prog 69 = some (.slice none 0 0) := by kernel_rfl
theorem Try.ag72 : tyAgg Try.prog 72 = some true := by kernel_rfl
theorem Try.sz72 : tySize Try.prog 72 = some 4 := by kernel_rfl
theorem Try.fd72_0 : tyField Try.prog 72 0 = some (0, 5) := by kernel_rfl
theorem Try.fd72_1 : tyField Try.prog 72 1 = some (1, 3) := by kernel_rfl
theorem Try.fd72_2 : tyField Try.prog 72 2 = some (2, 35) := by kernel_rfl
theorem Try.fd72_3 : tyField Try.prog 72 3 = some (3, 35) := by kernel_rfl
theorem Try.tp72 : tyPlace Try.prog 72 = some fun i => ([(0, 1), (1, 1), (2, 1), (3, 1)] : List (Nat × Nat))[i]? := by kernel_rfl
theorem Try.eql72 (y : Operand) (a0 b0 : Int) (a1 b1 : Int) (a2 b2 : Int) (a3 b3 : Int) : binOpA Try.prog .eql 72 y (.agg #[.int .u8 a0, .int .i64 a1, .int .u64 a2, .int .u64 a3]) (.agg #[.int .u8 b0, .int .i64 b1, .int .u64 b2, .int .u64 b3]) = some (.bool (a0 == b0 && (a1 == b1 && (a2 == b2 && (a3 == b3 && true))))) := by kernel_rfl
theorem Try.neq72 (y : Operand) (a0 b0 : Int) (a1 b1 : Int) (a2 b2 : Int) (a3 b3 : Int) : binOpA Try.prog .neq 72 y (.agg #[.int .u8 a0, .int .i64 a1, .int .u64 a2, .int .u64 a3]) (.agg #[.int .u8 b0, .int .i64 b1, .int .u64 b2, .int .u64 b3]) = some (.bool !(a0 == b0 && (a1 == b1 && (a2 == b2 && (a3 == b3 && true))))) := by kernel_rfl
theorem Try.tmk72 : tyMk Try.prog 72 = true := by kernel_rfl
theorem Try.by72 : tyBytes Try.prog 72 = some 32 := by kernel_rfl
theorem Try.zr72 : tyZero Try.prog 72 = some (.agg #[.int .u8 0, .int .i64 0, .int .u64 0, .int .u64 0]) := by kernel_rfl
theorem Try.pz72 : plainB (.agg #[.int .u8 0, .int .i64 0, .int .u64 0, .int .u64 0]) = true := by kernel_rfl
theorem Try.ag73 : tyAgg Try.prog 73 = some true := by kernel_rfl
theorem Try.sz73 : tySize Try.prog 73 = some 4 := by kernel_rfl
theorem Try.fd73_0 : tyField Try.prog 73 0 = some (0, 5) := by kernel_rfl
theorem Try.fd73_1 : tyField Try.prog 73 1 = some (1, 3) := by kernel_rfl
theorem Try.fd73_2 : tyField Try.prog 73 2 = some (2, 35) := by kernel_rfl
theorem Try.fd73_3 : tyField Try.prog 73 3 = some (3, 35) := by kernel_rfl
theorem Try.tp73 : tyPlace Try.prog 73 = some fun i => ([(0, 1), (1, 1), (2, 1), (3, 1)] : List (Nat × Nat))[i]? := by kernel_rfl
theorem Try.eql73 (y : Operand) (a0 b0 : Int) (a1 b1 : Int) (a2 b2 : Int) (a3 b3 : Int) : binOpA Try.prog .eql 73 y (.agg #[.int .u8 a0, .int .i64 a1, .int .u64 a2, .int .u64 a3]) (.agg #[.int .u8 b0, .int .i64 b1, .int .u64 b2, .int .u64 b3]) = some (.bool (a0 == b0 && (a1 == b1 && (a2 == b2 && (a3 == b3 && true))))) := by kernel_rfl
theorem Try.neq73 (y : Operand) (a0 b0 : Int) (a1 b1 : Int) (a2 b2 : Int) (a3 b3 : Int) : binOpA Try.prog .neq 73 y (.agg #[.int .u8 a0, .int .i64 a1, .int .u64 a2, .int .u64 a3]) (.agg #[.int .u8 b0, .int .i64 b1, .int .u64 b2, .int .u64 b3]) = some (.bool !(a0 == b0 && (a1 == b1 && (a2 == b2 && (a3 == b3 && true))))) := by kernel_rfl
theorem Try.tmk73 : tyMk Try.prog 73 = true := by kernel_rfl
theorem Try.by73 : tyBytes Try.prog 73 = some 32 := by kernel_rfl
theorem Try.zr73 : tyZero Try.prog 73 = some (.agg #[.int .u8 0, .int .i64 0, .int .u64 0, .int .u64 0]) := by kernel_rfl
theorem Try.ag82 : tyAgg Try.prog 82 = some false := by kernel_rfl
theorem Try.sz82 : tySize Try.prog 82 = some 1 := by kernel_rfl
theorem Try.tmk82 : tyMk Try.prog 82 = true := by kernel_rfl
theorem Try.by82 : tyBytes Try.prog 82 = some 8 := by kernel_rfl
theorem Try.zr82 : tyZero Try.prog 82 = some (.int .i64 0) := by kernel_rfl
theorem Try.ag85 : tyAgg Try.prog 85 = some false := by kernel_rfl
theorem Try.sz85 : tySize Try.prog 85 = some 1 := by kernel_rfl
theorem Try.tmk85 : tyMk Try.prog 85 = true := by kernel_rfl
theorem Try.tptr85 : tyPtr Try.prog 85 = true := by kernel_rfl
theorem Try.by85 : tyBytes Try.prog 85 = some 8 := by kernel_rfl
theorem Try.zr85 : tyZero Try.prog 85 = some (.pointer none) := by kernel_rfl
theorem Try.ag86 : tyAgg Try.prog 86 = some true := by kernel_rfl
theorem Try.sz86 : tySize Try.prog 86 = some 2 := by kernel_rfl
theorem Try.fd86_0 : tyField Try.prog 86 0 = some (0, 27) := by kernel_rfl
theorem Try.fd86_1 : tyField Try.prog 86 1 = some (1, 3) := by kernel_rfl
theorem Try.tp86 : tyPlace Try.prog 86 = some fun i => ([(0, 1), (1, 1)] : List (Nat × Nat))[i]? := by kernel_rfl
theorem Try.tmk86 : tyMk Try.prog 86 = true := by kernel_rfl
theorem Try.by86 : tyBytes Try.prog 86 = some 16 := by kernel_rfl
theorem Try.zr86 : tyZero Try.prog 86 = some (.agg #[.pointer none, .int .i64 0]) := by kernel_rfl
theorem Try.pz86 : plainB (.agg #[.pointer none, .int .i64 0]) = true := by kernel_rfl
theorem Try.ag87 : tyAgg Try.prog 87 = some true := by kernel_rfl
theorem Try.sz87 : tySize Try.prog 87 = some 2 := by kernel_rfl
theorem Try.fd87_0 : tyField Try.prog 87 0 = some (0, 27) := by kernel_rfl
theorem Try.fd87_1 : tyField Try.prog 87 1 = some (1, 3) := by kernel_rfl
theorem Try.tp87 : tyPlace Try.prog 87 = some fun i => ([(0, 1), (1, 1)] : List (Nat × Nat))[i]? := by kernel_rfl
theorem Try.tmk87 : tyMk Try.prog 87 = true := by kernel_rfl
theorem Try.by87 : tyBytes Try.prog 87 = some 16 := by kernel_rfl
theorem Try.zr87 : tyZero Try.prog 87 = some (.agg #[.pointer none, .int .i64 0]) := by kernel_rfl
theorem Try.ag88 : tyAgg Try.prog 88 = some false := by kernel_rfl
theorem Try.sz88 : tySize Try.prog 88 = some 1 := by kernel_rfl
theorem Try.tmk88 : tyMk Try.prog 88 = true := by kernel_rfl
theorem Try.tptr88 : tyPtr Try.prog 88 = true := by kernel_rfl
theorem Try.by88 : tyBytes Try.prog 88 = some 8 := by kernel_rfl
theorem Try.zr88 : tyZero Try.prog 88 = some (.pointer none) := by kernel_rfl
theorem Try.ag89 : tyAgg Try.prog 89 = some true := by kernel_rfl
theorem Try.sz89 : tySize Try.prog 89 = some 3 := by kernel_rfl
theorem Try.fd89_0 : tyField Try.prog 89 0 = some (0, 85) := by kernel_rfl
theorem Try.fd89_1 : tyField Try.prog 89 1 = some (1, 3) := by kernel_rfl
theorem Try.fd89_2 : tyField Try.prog 89 2 = some (2, 88) := by kernel_rfl
theorem Try.tp89 : tyPlace Try.prog 89 = some fun i => ([(0, 1), (1, 1), (2, 1)] : List (Nat × Nat))[i]? := by kernel_rfl
theorem Try.tmk89 : tyMk Try.prog 89 = true := by kernel_rfl
theorem Try.by89 : tyBytes Try.prog 89 = some 24 := by kernel_rfl
theorem Try.zr89 : tyZero Try.prog 89 = some (.agg #[.pointer none, .int .i64 0, .pointer none]) := by kernel_rfl
theorem Try.pz89 : plainB (.agg #[.pointer none, .int .i64 0, .pointer none]) = true := by kernel_rfl
theorem Try.ag90 : tyAgg Try.prog 90 = some true := by kernel_rfl
theorem Try.sz90 : tySize Try.prog 90 = some 3 := by kernel_rfl
theorem Try.fd90_0 : tyField Try.prog 90 0 = some (0, 85) := by kernel_rfl
theorem Try.fd90_1 : tyField Try.prog 90 1 = some (1, 3) := by kernel_rfl
theorem Try.fd90_2 : tyField Try.prog 90 2 = some (2, 88) := by kernel_rfl
theorem Try.tp90 : tyPlace Try.prog 90 = some fun i => ([(0, 1), (1, 1), (2, 1)] : List (Nat × Nat))[i]? := by kernel_rfl
theorem Try.tmk90 : tyMk Try.prog 90 = true := by kernel_rfl
theorem Try.by90 : tyBytes Try.prog 90 = some 24 := by kernel_rfl
theorem Try.zr90 : tyZero Try.prog 90 = some (.agg #[.pointer none, .int .i64 0, .pointer none]) := by kernel_rfl
theorem Try.ag91 : tyAgg Try.prog 91 = some false := by kernel_rfl
theorem Try.sz91 : tySize Try.prog 91 = some 1 := by kernel_rfl
theorem Try.tif91 : tyIfc Try.prog 91 = true := by kernel_rfl
theorem Try.by91 : tyBytes Try.prog 91 = some 16 := by kernel_rfl
theorem Try.zr91 : tyZero Try.prog 91 = some (.nilIface) := by kernel_rfl
theorem Try.ag92 : tyAgg Try.prog 92 = some false := by kernel_rfl
theorem Try.sz92 : tySize Try.prog 92 = some 1 := by kernel_rfl
theorem Try.tif92 : tyIfc Try.prog 92 = true := by kernel_rfl
theorem Try.by92 : tyBytes Try.prog 92 = some 16 := by kernel_rfl
theorem Try.zr92 : tyZero Try.prog 92 = some (.nilIface) := by kernel_rfl
theorem Try.ag93 : tyAgg Try.prog 93 = some false := by kernel_rfl
theorem Try.sz93 : tySize Try.prog 93 = some 1 := by kernel_rfl
theorem Try.tmk93 : tyMk Try.prog 93 = true := by kernel_rfl
theorem Try.tptr93 : tyPtr Try.prog 93 = true := by kernel_rfl
theorem Try.by93 : tyBytes Try.prog 93 = some 8 := by kernel_rfl
theorem Try.zr93 : tyZero Try.prog 93 = some (.pointer none) := by kernel_rfl
theorem Try.ag94 : tyAgg Try.prog 94 = some false := by kernel_rfl
theorem Try.sz94 : tySize Try.prog 94 = some 1 := by kernel_rfl
theorem Try.tsl94 : tySli Try.prog 94 = true := by kernel_rfl
theorem Try.by94 : tyBytes Try.prog 94 = some 24 := by kernel_rfl
theorem Try.sl94 : tySlice Try.prog 94 = some 93 := by kernel_rfl
theorem Try.zr94 : tyZero Try.prog 94 = some (.slice none 0 0) := by kernel_rfl
theorem Try.ag96 : tyAgg Try.prog 96 = some true := by kernel_rfl
theorem Try.sz96 : tySize Try.prog 96 = some 2 := by kernel_rfl
theorem Try.fd96_0 : tyField Try.prog 96 0 = some (0, 3) := by kernel_rfl
theorem Try.fd96_1 : tyField Try.prog 96 1 = some (1, 3) := by kernel_rfl
theorem Try.tp96 : tyPlace Try.prog 96 = some fun i => ([(0, 1), (1, 1)] : List (Nat × Nat))[i]? := by kernel_rfl
theorem Try.eql96 (y : Operand) (a0 b0 : Int) (a1 b1 : Int) : binOpA Try.prog .eql 96 y (.agg #[.int .i64 a0, .int .i64 a1]) (.agg #[.int .i64 b0, .int .i64 b1]) = some (.bool (a0 == b0 && (a1 == b1 && true))) := by kernel_rfl
theorem Try.neq96 (y : Operand) (a0 b0 : Int) (a1 b1 : Int) : binOpA Try.prog .neq 96 y (.agg #[.int .i64 a0, .int .i64 a1]) (.agg #[.int .i64 b0, .int .i64 b1]) = some (.bool !(a0 == b0 && (a1 == b1 && true))) := by kernel_rfl
theorem Try.tmk96 : tyMk Try.prog 96 = true := by kernel_rfl
theorem Try.by96 : tyBytes Try.prog 96 = some 16 := by kernel_rfl
theorem Try.zr96 : tyZero Try.prog 96 = some (.agg #[.int .i64 0, .int .i64 0]) := by kernel_rfl
theorem Try.pz96 : plainB (.agg #[.int .i64 0, .int .i64 0]) = true := by kernel_rfl
theorem Try.ag97 : tyAgg Try.prog 97 = some true := by kernel_rfl
theorem Try.sz97 : tySize Try.prog 97 = some 2 := by kernel_rfl
theorem Try.fd97_0 : tyField Try.prog 97 0 = some (0, 3) := by kernel_rfl
theorem Try.fd97_1 : tyField Try.prog 97 1 = some (1, 3) := by kernel_rfl
theorem Try.tp97 : tyPlace Try.prog 97 = some fun i => ([(0, 1), (1, 1)] : List (Nat × Nat))[i]? := by kernel_rfl
theorem Try.eql97 (y : Operand) (a0 b0 : Int) (a1 b1 : Int) : binOpA Try.prog .eql 97 y (.agg #[.int .i64 a0, .int .i64 a1]) (.agg #[.int .i64 b0, .int .i64 b1]) = some (.bool (a0 == b0 && (a1 == b1 && true))) := by kernel_rfl
theorem Try.neq97 (y : Operand) (a0 b0 : Int) (a1 b1 : Int) : binOpA Try.prog .neq 97 y (.agg #[.int .i64 a0, .int .i64 a1]) (.agg #[.int .i64 b0, .int .i64 b1]) = some (.bool !(a0 == b0 && (a1 == b1 && true))) := by kernel_rfl
theorem Try.tmk97 : tyMk Try.prog 97 = true := by kernel_rfl
theorem Try.by97 : tyBytes Try.prog 97 = some 16 := by kernel_rfl
theorem Try.zr97 : tyZero Try.prog 97 = some (.agg #[.int .i64 0, .int .i64 0]) := by kernel_rfl
theorem Try.ag103 : tyAgg Try.prog 103 = some true := by kernel_rfl
theorem Try.sz103 : tySize Try.prog 103 = some 2 := by kernel_rfl
theorem Try.fd103_0 : tyField Try.prog 103 0 = some (0, 69) := by kernel_rfl
theorem Try.fd103_1 : tyField Try.prog 103 1 = some (1, 42) := by kernel_rfl
theorem Try.tp103 : tyPlace Try.prog 103 = some fun i => ([(0, 1), (1, 1)] : List (Nat × Nat))[i]? := by kernel_rfl
theorem Try.tmk103 : tyMk Try.prog 103 = true := by kernel_rfl
theorem Try.by103 : tyBytes Try.prog 103 = some 48 := by kernel_rfl
theorem Try.zr103 : tyZero Try.prog 103 = some (.agg #[.slice none 0 0, .slice none 0 0]) := by kernel_rfl
theorem Try.pz103 : plainB (.agg #[.slice none 0 0, .slice none 0 0]) = true := by kernel_rfl
theorem Try.ag104 : tyAgg Try.prog 104 = some true := by kernel_rfl
theorem Try.sz104 : tySize Try.prog 104 = some 2 := by kernel_rfl
theorem Try.fd104_0 : tyField Try.prog 104 0 = some (0, 69) := by kernel_rfl
theorem Try.fd104_1 : tyField Try.prog 104 1 = some (1, 42) := by kernel_rfl
theorem Try.tp104 : tyPlace Try.prog 104 = some fun i => ([(0, 1), (1, 1)] : List (Nat × Nat))[i]? := by kernel_rfl
theorem Try.tmk104 : tyMk Try.prog 104 = true := by kernel_rfl
theorem Try.by104 : tyBytes Try.prog 104 = some 48 := by kernel_rfl
theorem Try.zr104 : tyZero Try.prog 104 = some (.agg #[.slice none 0 0, .slice none 0 0]) := by kernel_rfl
theorem Try.ag106 : tyAgg Try.prog 106 = some false := by kernel_rfl
theorem Try.sz106 : tySize Try.prog 106 = some 1 := by kernel_rfl
theorem Try.tsl106 : tySli Try.prog 106 = true := by kernel_rfl
theorem Try.by106 : tyBytes Try.prog 106 = some 24 := by kernel_rfl
theorem Try.sl106 : tySlice Try.prog 106 = some 3 := by kernel_rfl
theorem Try.zr106 : tyZero Try.prog 106 = some (.slice none 0 0) := by kernel_rfl
theorem Try.ag110 : tyAgg Try.prog 110 = some true := by kernel_rfl
theorem Try.sz110 : tySize Try.prog 110 = some 5 := by kernel_rfl
theorem Try.tp110 : tyPlace Try.prog 110 = some fun i => some (i * 1, 1) := by kernel_rfl
theorem Try.by110 : tyBytes Try.prog 110 = some 40 := by kernel_rfl
theorem Try.ar110 : tyArray Try.prog 110 = some (5, 109) := by kernel_rfl
theorem Try.zr110 : tyZero Try.prog 110 = some (.agg #[.nilFunc, .nilFunc, .nilFunc, .nilFunc, .nilFunc]) := by kernel_rfl
theorem Try.pz110 : plainB (.agg #[.nilFunc, .nilFunc, .nilFunc, .nilFunc, .nilFunc]) = true := by kernel_rfl
theorem Try.ag114 : tyAgg Try.prog 114 = some true := by kernel_rfl
theorem Try.sz114 : tySize Try.prog 114 = some 19 := by kernel_rfl
theorem Try.tp114 : tyPlace Try.prog 114 = some fun i => some (i * 1, 1) := by kernel_rfl
theorem Try.by114 : tyBytes Try.prog 114 = some 152 := by kernel_rfl
theorem Try.ar114 : tyArray Try.prog 114 = some (19, 3) := by kernel_rfl
theorem Try.zr114 : tyZero Try.prog 114 = some (.agg #[.int .i64 0, .int .i64 0, .int .i64 0, .int .i64 0, .int .i64 0, .int .i64 0, .int .i64 0, .int .i64 0, .int .i64 0, .int .i64 0, .int .i64 0, .int .i64 0, .int .i64 0, .int .i64 0, .int .i64 0, .int .i64 0, .int .i64 0, .int .i64 0, .int .i64 0]) := by kernel_rfl
theorem Try.pz114 : plainB (.agg #[.int .i64 0, .int .i64 0, .int .i64 0, .int .i64 0, .int .i64 0, .int .i64 0, .int .i64 0, .int .i64 0, .int .i64 0, .int .i64 0, .int .i64 0, .int .i64 0, .int .i64 0, .int .i64 0, .int .i64 0, .int .i64 0, .int .i64 0, .int .i64 0, .int .i64 0]) = true := by kernel_rfl
theorem Try.ag115 : tyAgg Try.prog 115 = some false := by kernel_rfl
theorem Try.sz115 : tySize Try.prog 115 = some 1 := by kernel_rfl
theorem Try.tsl115 : tySli Try.prog 115 = true := by kernel_rfl
theorem Try.by115 : tyBytes Try.prog 115 = some 24 := by kernel_rfl
theorem Try.sl115 : tySlice Try.prog 115 = some 97 := by kernel_rfl
theorem Try.zr115 : tyZero Try.prog 115 = some (.slice none 0 0) := by kernel_rfl
theorem Try.ag118 : tyAgg Try.prog 118 = some true := by kernel_rfl
theorem Try.sz118 : tySize Try.prog 118 = some 4 := by kernel_rfl
theorem Try.fd118_0 : tyField Try.prog 118 0 = some (0, 17) := by kernel_rfl
theorem Try.fd118_1 : tyField Try.prog 118 1 = some (1, 17) := by kernel_rfl
theorem Try.fd118_2 : tyField Try.prog 118 2 = some (2, 17) := by kernel_rfl
theorem Try.fd118_3 : tyField Try.prog 118 3 = some (3, 9) := by kernel_rfl
theorem Try.tp118 : tyPlace Try.prog 118 = some fun i => ([(0, 1), (1, 1), (2, 1), (3, 1)] : List (Nat × Nat))[i]? := by kernel_rfl
theorem Try.tmk118 : tyMk Try.prog 118 = true := by kernel_rfl
theorem Try.by118 : tyBytes Try.prog 118 = some 40 := by kernel_rfl
theorem Try.zr118 : tyZero Try.prog 118 = some (.agg #[.pointer none, .pointer none, .pointer none, .string ⟨#[]⟩]) := by kernel_rfl
theorem Try.pz118 : plainB (.agg #[.pointer none, .pointer none, .pointer none, .string ⟨#[]⟩]) = true := by kernel_rfl
theorem Try.ag119 : tyAgg Try.prog 119 = some true := by kernel_rfl
theorem Try.sz119 : tySize Try.prog 119 = some 4 := by kernel_rfl
theorem Try.fd119_0 : tyField Try.prog 119 0 = some (0, 17) := by kernel_rfl
theorem Try.fd119_1 : tyField Try.prog 119 1 = some (1, 17) := by kernel_rfl
theorem Try.fd119_2 : tyField Try.prog 119 2 = some (2, 17) := by kernel_rfl
theorem Try.fd119_3 : tyField Try.prog 119 3 = some (3, 9) := by kernel_rfl
theorem Try.tp119 : tyPlace Try.prog 119 = some fun i => ([(0, 1), (1, 1), (2, 1), (3, 1)] : List (Nat × Nat))[i]? := by kernel_rfl
theorem Try.tmk119 : tyMk Try.prog 119 = true := by kernel_rfl
theorem Try.by119 : tyBytes Try.prog 119 = some 40 := by kernel_rfl
theorem Try.zr119 : tyZero Try.prog 119 = some (.agg #[.pointer none, .pointer none, .pointer none, .string ⟨#[]⟩]) := by kernel_rfl
theorem Try.ag120 : tyAgg Try.prog 120 = some true := by kernel_rfl
theorem Try.sz120 : tySize Try.prog 120 = some 0 := by kernel_rfl
theorem Try.tp120 : tyPlace Try.prog 120 = some fun i => some (i * 1, 1) := by kernel_rfl
theorem Try.by120 : tyBytes Try.prog 120 = some 0 := by kernel_rfl
theorem Try.ar120 : tyArray Try.prog 120 = some (0, 16) := by kernel_rfl
theorem Try.zr120 : tyZero Try.prog 120 = some (.agg #[]) := by kernel_rfl
theorem Try.pz120 : plainB (.agg #[]) = true := by kernel_rfl
theorem Try.ag121 : tyAgg Try.prog 121 = some true := by kernel_rfl
theorem Try.sz121 : tySize Try.prog 121 = some 0 := by kernel_rfl
theorem Try.fd121_0 : tyField Try.prog 121 0 = some (0, 120) := by kernel_rfl
theorem Try.tp121 : tyPlace Try.prog 121 = some fun i => ([(0, 0)] : List (Nat × Nat))[i]? := by kernel_rfl
theorem Try.tmk121 : tyMk Try.prog 121 = true := by kernel_rfl
theorem Try.by121 : tyBytes Try.prog 121 = some 0 := by kernel_rfl
theorem Try.zr121 : tyZero Try.prog 121 = some (.agg #[]) := by kernel_rfl
theorem Try.ag122 : tyAgg Try.prog 122 = some true := by kernel_rfl
theorem Try.sz122 : tySize Try.prog 122 = some 0 := by kernel_rfl
theorem Try.fd122_0 : tyField Try.prog 122 0 = some (0, 120) := by kernel_rfl
theorem Try.tp122 : tyPlace Try.prog 122 = some fun i => ([(0, 0)] : List (Nat × Nat))[i]? := by kernel_rfl
theorem Try.tmk122 : tyMk Try.prog 122 = true := by kernel_rfl
theorem Try.by122 : tyBytes Try.prog 122 = some 0 := by kernel_rfl
theorem Try.zr122 : tyZero Try.prog 122 = some (.agg #[]) := by kernel_rfl
theorem Try.ag123 : tyAgg Try.prog 123 = some false := by kernel_rfl
theorem Try.sz123 : tySize Try.prog 123 = some 1 := by kernel_rfl
theorem Try.tmk123 : tyMk Try.prog 123 = true := by kernel_rfl
theorem Try.by123 : tyBytes Try.prog 123 = some 4 := by kernel_rfl
theorem Try.zr123 : tyZero Try.prog 123 = some (.int .u32 0) := by kernel_rfl
theorem Try.pz123 : plainB (.int .u32 0) = true := by kernel_rfl
theorem Try.ag124 : tyAgg Try.prog 124 = some false := by kernel_rfl
theorem Try.sz124 : tySize Try.prog 124 = some 1 := by kernel_rfl
theorem Try.tmk124 : tyMk Try.prog 124 = true := by kernel_rfl
theorem Try.by124 : tyBytes Try.prog 124 = some 1 := by kernel_rfl
theorem Try.zr124 : tyZero Try.prog 124 = some (.int .u8 0) := by kernel_rfl
theorem Try.ag125 : tyAgg Try.prog 125 = some false := by kernel_rfl
theorem Try.sz125 : tySize Try.prog 125 = some 1 := by kernel_rfl
theorem Try.tmk125 : tyMk Try.prog 125 = true := by kernel_rfl
theorem Try.by125 : tyBytes Try.prog 125 = some 1 := by kernel_rfl
theorem Try.zr125 : tyZero Try.prog 125 = some (.int .u8 0) := by kernel_rfl
theorem Try.ag127 : tyAgg Try.prog 127 = some false := by kernel_rfl
theorem Try.sz127 : tySize Try.prog 127 = some 1 := by kernel_rfl
theorem Try.tmk127 : tyMk Try.prog 127 = true := by kernel_rfl
theorem Try.tptr127 : tyPtr Try.prog 127 = true := by kernel_rfl
theorem Try.by127 : tyBytes Try.prog 127 = some 8 := by kernel_rfl
theorem Try.zr127 : tyZero Try.prog 127 = some (.pointer none) := by kernel_rfl
theorem Try.ag128 : tyAgg Try.prog 128 = some false := by kernel_rfl
theorem Try.sz128 : tySize Try.prog 128 = some 1 := by kernel_rfl
theorem Try.tmk128 : tyMk Try.prog 128 = true := by kernel_rfl
theorem Try.by128 : tyBytes Try.prog 128 = some 4 := by kernel_rfl
theorem Try.zr128 : tyZero Try.prog 128 = some (.int .i32 0) := by kernel_rfl
theorem Try.ag129 : tyAgg Try.prog 129 = some false := by kernel_rfl
theorem Try.sz129 : tySize Try.prog 129 = some 1 := by kernel_rfl
theorem Try.tmk129 : tyMk Try.prog 129 = true := by kernel_rfl
theorem Try.by129 : tyBytes Try.prog 129 = some 4 := by kernel_rfl
theorem Try.zr129 : tyZero Try.prog 129 = some (.int .i32 0) := by kernel_rfl
theorem Try.ag130 : tyAgg Try.prog 130 = some true := by kernel_rfl
theorem Try.sz130 : tySize Try.prog 130 = some 11 := by kernel_rfl
theorem Try.fd130_0 : tyField Try.prog 130 0 = some (0, 12) := by kernel_rfl
theorem Try.fd130_1 : tyField Try.prog 130 1 = some (1, 12) := by kernel_rfl
theorem Try.fd130_2 : tyField Try.prog 130 2 = some (2, 123) := by kernel_rfl
theorem Try.fd130_3 : tyField Try.prog 130 3 = some (3, 124) := by kernel_rfl
theorem Try.fd130_4 : tyField Try.prog 130 4 = some (4, 5) := by kernel_rfl
theorem Try.fd130_5 : tyField Try.prog 130 5 = some (5, 5) := by kernel_rfl
theorem Try.fd130_6 : tyField Try.prog 130 6 = some (6, 125) := by kernel_rfl
theorem Try.fd130_7 : tyField Try.prog 130 7 = some (7, 126) := by kernel_rfl
theorem Try.fd130_8 : tyField Try.prog 130 8 = some (8, 127) := by kernel_rfl
theorem Try.fd130_9 : tyField Try.prog 130 9 = some (9, 128) := by kernel_rfl
theorem Try.fd130_10 : tyField Try.prog 130 10 = some (10, 129) := by kernel_rfl
theorem Try.tp130 : tyPlace Try.prog 130 = some fun i => ([(0, 1), (1, 1), (2, 1), (3, 1), (4, 1), (5, 1), (6, 1), (7, 1), (8, 1), (9, 1), (10, 1)] : List (Nat × Nat))[i]? := by kernel_rfl
theorem Try.tmk130 : tyMk Try.prog 130 = true := by kernel_rfl
theorem Try.by130 : tyBytes Try.prog 130 = some 48 := by kernel_rfl
theorem Try.zr130 : tyZero Try.prog 130 = some (.agg #[.int .u64 0, .int .u64 0, .int .u32 0, .int .u8 0, .int .u8 0, .int .u8 0, .int .u8 0, .nilFunc, .pointer none, .int .i32 0, .int .i32 0]) := by kernel_rfl
theorem Try.pz130 : plainB (.agg #[.int .u64 0, .int .u64 0, .int .u32 0, .int .u8 0, .int .u8 0, .int .u8 0, .int .u8 0, .nilFunc, .pointer none, .int .i32 0, .int .i32 0]) = true := by kernel_rfl
theorem Try.ag131 : tyAgg Try.prog 131 = some true := by kernel_rfl
theorem Try.sz131 : tySize Try.prog 131 = some 11 := by kernel_rfl
theorem Try.fd131_0 : tyField Try.prog 131 0 = some (0, 12) := by kernel_rfl
theorem Try.fd131_1 : tyField Try.prog 131 1 = some (1, 12) := by kernel_rfl
theorem Try.fd131_2 : tyField Try.prog 131 2 = some (2, 123) := by kernel_rfl
theorem Try.fd131_3 : tyField Try.prog 131 3 = some (3, 124) := by kernel_rfl
theorem Try.fd131_4 : tyField Try.prog 131 4 = some (4, 5) := by kernel_rfl
theorem Try.fd131_5 : tyField Try.prog 131 5 = some (5, 5) := by kernel_rfl
theorem Try.fd131_6 : tyField Try.prog 131 6 = some (6, 125) := by kernel_rfl
theorem Try.fd131_7 : tyField Try.prog 131 7 = some (7, 126) := by kernel_rfl
theorem Try.fd131_8 : tyField Try.prog 131 8 = some (8, 127) := by kernel_rfl
theorem Try.fd131_9 : tyField Try.prog 131 9 = some (9, 128) := by kernel_rfl
theorem Try.fd131_10 : tyField Try.prog 131 10 = some (10, 129) := by kernel_rfl
theorem Try.tp131 : tyPlace Try.prog 131 = some fun i => ([(0, 1), (1, 1), (2, 1), (3, 1), (4, 1), (5, 1), (6, 1), (7, 1), (8, 1), (9, 1), (10, 1)] : List (Nat × Nat))[i]? := by kernel_rfl
theorem Try.tmk131 : tyMk Try.prog 131 = true := by kernel_rfl
theorem Try.by131 : tyBytes Try.prog 131 = some 48 := by kernel_rfl
theorem Try.zr131 : tyZero Try.prog 131 = some (.agg #[.int .u64 0, .int .u64 0, .int .u32 0, .int .u8 0, .int .u8 0, .int .u8 0, .int .u8 0, .nilFunc, .pointer none, .int .i32 0, .int .i32 0]) := by kernel_rfl
theorem Try.ag133 : tyAgg Try.prog 133 = some true := by kernel_rfl
theorem Try.sz133 : tySize Try.prog 133 = some 11 := by kernel_rfl
theorem Try.fd133_0 : tyField Try.prog 133 0 = some (0, 3) := by kernel_rfl
theorem Try.fd133_1 : tyField Try.prog 133 1 = some (1, 3) := by kernel_rfl
theorem Try.fd133_2 : tyField Try.prog 133 2 = some (2, 5) := by kernel_rfl
theorem Try.fd133_3 : tyField Try.prog 133 3 = some (3, 37) := by kernel_rfl
theorem Try.fd133_4 : tyField Try.prog 133 4 = some (8, 82) := by kernel_rfl
theorem Try.fd133_5 : tyField Try.prog 133 5 = some (9, 3) := by kernel_rfl
theorem Try.fd133_6 : tyField Try.prog 133 6 = some (10, 3) := by kernel_rfl
theorem Try.tp133 : tyPlace Try.prog 133 = some fun i => ([(0, 1), (1, 1), (2, 1), (3, 5), (8, 1), (9, 1), (10, 1)] : List (Nat × Nat))[i]? := by kernel_rfl
theorem Try.tmk133 : tyMk Try.prog 133 = true := by kernel_rfl
theorem Try.by133 : tyBytes Try.prog 133 = some 88 := by kernel_rfl
theorem Try.zr133 : tyZero Try.prog 133 = some (.agg #[.int .i64 0, .int .i64 0, .int .u8 0, .int .u64 0, .int .u64 0, .int .u64 0, .int .u64 0, .int .u64 0, .int .i64 0, .int .i64 0, .int .i64 0]) := by kernel_rfl
theorem Try.pz133 : plainB (.agg #[.int .i64 0, .int .i64 0, .int .u8 0, .int .u64 0, .int .u64 0, .int .u64 0, .int .u64 0, .int .u64 0, .int .i64 0, .int .i64 0, .int .i64 0]) = true := by kernel_rfl
theorem Try.ag134 : tyAgg Try.prog 134 = some true := by kernel_rfl
theorem Try.sz134 : tySize Try.prog 134 = some 11 := by kernel_rfl
theorem Try.fd134_0 : tyField Try.prog 134 0 = some (0, 3) := by kernel_rfl
theorem Try.fd134_1 : tyField Try.prog 134 1 = some (1, 3) := by kernel_rfl
theorem Try.fd134_2 : tyField Try.prog 134 2 = some (2, 5) := by kernel_rfl
theorem Try.fd134_3 : tyField Try.prog 134 3 = some (3, 37) := by kernel_rfl
theorem Try.fd134_4 : tyField Try.prog 134 4 = some (8, 82) := by kernel_rfl
theorem Try.fd134_5 : tyField Try.prog 134 5 = some (9, 3) := by kernel_rfl
theorem Try.fd134_6 : tyField Try.prog 134 6 = some (10, 3) := by kernel_rfl
theorem Try.tp134 : tyPlace Try.prog 134 = some fun i => ([(0, 1), (1, 1), (2, 1), (3, 5), (8, 1), (9, 1), (10, 1)] : List (Nat × Nat))[i]? := by kernel_rfl
theorem Try.tmk134 : tyMk Try.prog 134 = true := by kernel_rfl
theorem Try.by134 : tyBytes Try.prog 134 = some 88 := by kernel_rfl
theorem Try.zr134 : tyZero Try.prog 134 = some (.agg #[.int .i64 0, .int .i64 0, .int .u8 0, .int .u64 0, .int .u64 0, .int .u64 0, .int .u64 0, .int .u64 0, .int .i64 0, .int .i64 0, .int .i64 0]) := by kernel_rfl
theorem Try.ag139 : tyAgg Try.prog 139 = some false := by kernel_rfl
theorem Try.sz139 : tySize Try.prog 139 = some 1 := by kernel_rfl
theorem Try.by139 : tyBytes Try.prog 139 = some 8 := by kernel_rfl
theorem Try.zr139 : tyZero Try.prog 139 = some (.pointer none) := by kernel_rfl
theorem Try.cv2_2 : tyConv Try.prog 2 2 = some .i64 := by kernel_rfl
theorem Try.cv2_3 : tyConv Try.prog 2 3 = some .i64 := by kernel_rfl
theorem Try.cv2_5 : tyConv Try.prog 2 5 = some .u8 := by kernel_rfl
theorem Try.cv2_6 : tyConv Try.prog 2 6 = some .u8 := by kernel_rfl
theorem Try.cv2_12 : tyConv Try.prog 2 12 = some .u64 := by kernel_rfl
theorem Try.cv2_21 : tyConv Try.prog 2 21 = some .i32 := by kernel_rfl
theorem Try.cv2_35 : tyConv Try.prog 2 35 = some .u64 := by kernel_rfl
theorem Try.cv2_82 : tyConv Try.prog 2 82 = some .i64 := by kernel_rfl
theorem Try.cv2_123 : tyConv Try.prog 2 123 = some .u32 := by kernel_rfl
theorem Try.cv2_124 : tyConv Try.prog 2 124 = some .u8 := by kernel_rfl
theorem Try.cv2_125 : tyConv Try.prog 2 125 = some .u8 := by kernel_rfl
theorem Try.cv2_128 : tyConv Try.prog 2 128 = some .i32 := by kernel_rfl
theorem Try.cv2_129 : tyConv Try.prog 2 129 = some .i32 := by kernel_rfl
theorem Try.cv3_2 : tyConv Try.prog 3 2 = some .i64 := by kernel_rfl
theorem Try.cv3_3 : tyConv Try.prog 3 3 = some .i64 := by kernel_rfl
theorem Try.cv3_5 : tyConv Try.prog 3 5 = some .u8 := by kernel_rfl
theorem Try.cv3_6 : tyConv Try.prog 3 6 = some .u8 := by kernel_rfl
theorem Try.cv3_12 : tyConv Try.prog 3 12 = some .u64 := by kernel_rfl
theorem Try.cv3_21 : tyConv Try.prog 3 21 = some .i32 := by kernel_rfl
theorem Try.cv3_35 : tyConv Try.prog 3 35 = some .u64 := by kernel_rfl
theorem Try.cv3_82 : tyConv Try.prog 3 82 = some .i64 := by kernel_rfl
theorem Try.cv3_123 : tyConv Try.prog 3 123 = some .u32 := by kernel_rfl
theorem Try.cv3_124 : tyConv Try.prog 3 124 = some .u8 := by kernel_rfl
theorem Try.cv3_125 : tyConv Try.prog 3 125 = some .u8 := by kernel_rfl
theorem Try.cv3_128 : tyConv Try.prog 3 128 = some .i32 := by kernel_rfl
theorem Try.cv3_129 : tyConv Try.prog 3 129 = some .i32 := by kernel_rfl
theorem Try.cv5_2 : tyConv Try.prog 5 2 = some .i64 := by kernel_rfl
theorem Try.cv5_3 : tyConv Try.prog 5 3 = some .i64 := by kernel_rfl
theorem Try.cv5_5 : tyConv Try.prog 5 5 = some .u8 := by kernel_rfl
theorem Try.cv5_6 : tyConv Try.prog 5 6 = some .u8 := by kernel_rfl
theorem Try.cv5_12 : tyConv Try.prog 5 12 = some .u64 := by kernel_rfl
theorem Try.cv5_21 : tyConv Try.prog 5 21 = some .i32 := by kernel_rfl
theorem Try.cv5_35 : tyConv Try.prog 5 35 = some .u64 := by kernel_rfl
theorem Try.cv5_82 : tyConv Try.prog 5 82 = some .i64 := by kernel_rfl
theorem Try.cv5_123 : tyConv Try.prog 5 123 = some .u32 := by kernel_rfl
theorem Try.cv5_124 : tyConv Try.prog 5 124 = some .u8 := by kernel_rfl
theorem Try.cv5_125 : tyConv Try.prog 5 125 = some .u8 := by kernel_rfl
theorem Try.cv5_128 : tyConv Try.prog 5 128 = some .i32 := by kernel_rfl
theorem Try.cv5_129 : tyConv Try.prog 5 129 = some .i32 := by kernel_rfl
theorem Try.cv6_2 : tyConv Try.prog 6 2 = some .i64 := by kernel_rfl
theorem Try.cv6_3 : tyConv Try.prog 6 3 = some .i64 := by kernel_rfl
theorem Try.cv6_5 : tyConv Try.prog 6 5 = some .u8 := by kernel_rfl
theorem Try.cv6_6 : tyConv Try.prog 6 6 = some .u8 := by kernel_rfl
theorem Try.cv6_12 : tyConv Try.prog 6 12 = some .u64 := by kernel_rfl
theorem Try.cv6_21 : tyConv Try.prog 6 21 = some .i32 := by kernel_rfl
theorem Try.cv6_35 : tyConv Try.prog 6 35 = some .u64 := by kernel_rfl
theorem Try.cv6_82 : tyConv Try.prog 6 82 = some .i64 := by kernel_rfl
theorem Try.cv6_123 : tyConv Try.prog 6 123 = some .u32 := by kernel_rfl
theorem Try.cv6_124 : tyConv Try.prog 6 124 = some .u8 := by kernel_rfl
theorem Try.cv6_125 : tyConv Try.prog 6 125 = some .u8 := by kernel_rfl
theorem Try.cv6_128 : tyConv Try.prog 6 128 = some .i32 := by kernel_rfl
theorem Try.cv6_129 : tyConv Try.prog 6 129 = some .i32 := by kernel_rfl
theorem Try.cv12_2 : tyConv Try.prog 12 2 = some .i64 := by kernel_rfl
theorem Try.cv12_3 : tyConv Try.prog 12 3 = some .i64 := by kernel_rfl
theorem Try.cv12_5 : tyConv Try.prog 12 5 = some .u8 := by kernel_rfl
theorem Try.cv12_6 : tyConv Try.prog 12 6 = some .u8 := by kernel_rfl
theorem Try.cv12_12 : tyConv Try.prog 12 12 = some .u64 := by kernel_rfl
theorem Try.cv12_21 : tyConv Try.prog 12 21 = some .i32 := by kernel_rfl
theorem Try.cv12_35 : tyConv Try.prog 12 35 = some .u64 := by kernel_rfl
theorem Try.cv12_82 : tyConv Try.prog 12 82 = some .i64 := by kernel_rfl
theorem Try.cv12_123 : tyConv Try.prog 12 123 = some .u32 := by kernel_rfl
theorem Try.cv12_124 : tyConv Try.prog 12 124 = some .u8 := by kernel_rfl
theorem Try.cv12_125 : tyConv Try.prog 12 125 = some .u8 := by kernel_rfl
theorem Try.cv12_128 : tyConv Try.prog 12 128 = some .i32 := by kernel_rfl
theorem Try.cv12_129 : tyConv Try.prog 12 129 = some .i32 := by kernel_rfl
theorem Try.cv21_2 : tyConv Try.prog 21 2 = some .i64 := by kernel_rfl
theorem Try.cv21_3 : tyConv Try.prog 21 3 = some .i64 := by kernel_rfl
theorem Try.cv21_5 : tyConv Try.prog 21 5 = some .u8 := by kernel_rfl
theorem Try.cv21_6 : tyConv Try.prog 21 6 = some .u8 := by kernel_rfl
theorem Try.cv21_12 : tyConv Try.prog 21 12 = some .u64 := by kernel_rfl
theorem Try.cv21_21 : tyConv Try.prog 21 21 = some .i32 := by kernel_rfl
theorem Try.cv21_35 : tyConv Try.prog 21 35 = some .u64 := by kernel_rfl
theorem Try.cv21_82 : tyConv Try.prog 21 82 = some .i64 := by kernel_rfl
theorem Try.cv21_123 : tyConv Try.prog 21 123 = some .u32 := by kernel_rfl
theorem Try.cv21_124 : tyConv Try.prog 21 124 = some .u8 := by kernel_rfl
theorem Try.cv21_125 : tyConv Try.prog 21 125 = some .u8 := by kernel_rfl
theorem Try.cv21_128 : tyConv Try.prog 21 128 = some .i32 := by kernel_rfl
theorem Try.cv21_129 : tyConv Try.prog 21 129 = some .i32 := by kernel_rfl
theorem Try.cv35_2 : tyConv Try.prog 35 2 = some .i64 := by kernel_rfl
theorem Try.cv35_3 : tyConv Try.prog 35 3 = some .i64 := by kernel_rfl
theorem Try.cv35_5 : tyConv Try.prog 35 5 = some .u8 := by kernel_rfl
theorem Try.cv35_6 : tyConv Try.prog 35 6 = some .u8 := by kernel_rfl
theorem Try.cv35_12 : tyConv Try.prog 35 12 = some .u64 := by kernel_rfl
theorem Try.cv35_21 : tyConv Try.prog 35 21 = some .i32 := by kernel_rfl
theorem Try.cv35_35 : tyConv Try.prog 35 35 = some .u64 := by kernel_rfl
theorem Try.cv35_82 : tyConv Try.prog 35 82 = some .i64 := by kernel_rfl
theorem Try.cv35_123 : tyConv Try.prog 35 123 = some .u32 := by kernel_rfl
theorem Try.cv35_124 : tyConv Try.prog 35 124 = some .u8 := by kernel_rfl
theorem Try.cv35_125 : tyConv Try.prog 35 125 = some .u8 := by kernel_rfl
theorem Try.cv35_128 : tyConv Try.prog 35 128 = some .i32 := by kernel_rfl
theorem Try.cv35_129 : tyConv Try.prog 35 129 = some .i32 := by kernel_rfl
theorem Try.cv82_2 : tyConv Try.prog 82 2 = some .i64 := by kernel_rfl
theorem Try.cv82_3 : tyConv Try.prog 82 3 = some .i64 := by kernel_rfl
theorem Try.cv82_5 : tyConv Try.prog 82 5 = some .u8 := by kernel_rfl
theorem Try.cv82_6 : tyConv Try.prog 82 6 = some .u8 := by kernel_rfl
theorem Try.cv82_12 : tyConv Try.prog 82 12 = some .u64 := by kernel_rfl
theorem Try.cv82_21 : tyConv Try.prog 82 21 = some .i32 := by kernel_rfl
theorem Try.cv82_35 : tyConv Try.prog 82 35 = some .u64 := by kernel_rfl
theorem Try.cv82_82 : tyConv Try.prog 82 82 = some .i64 := by kernel_rfl
theorem Try.cv82_123 : tyConv Try.prog 82 123 = some .u32 := by kernel_rfl
theorem Try.cv82_124 : tyConv Try.prog 82 124 = some .u8 := by kernel_rfl
theorem Try.cv82_125 : tyConv Try.prog 82 125 = some .u8 := by kernel_rfl
theorem Try.cv82_128 : tyConv Try.prog 82 128 = some .i32 := by kernel_rfl
theorem Try.cv82_129 : tyConv Try.prog 82 129 = some .i32 := by kernel_rfl
theorem Try.cv123_2 : tyConv Try.prog 123 2 = some .i64 := by kernel_rfl
theorem Try.cv123_3 : tyConv Try.prog 123 3 = some .i64 := by kernel_rfl
theorem Try.cv123_5 : tyConv Try.prog 123 5 = some .u8 := by kernel_rfl
theorem Try.cv123_6 : tyConv Try.prog 123 6 = some .u8 := by kernel_rfl
theorem Try.cv123_12 : tyConv Try.prog 123 12 = some .u64 := by kernel_rfl
theorem Try.cv123_21 : tyConv Try.prog 123 21 = some .i32 := by kernel_rfl
theorem Try.cv123_35 : tyConv Try.prog 123 35 = some .u64 := by kernel_rfl
theorem Try.cv123_82 : tyConv Try.prog 123 82 = some .i64 := by kernel_rfl
theorem Try.cv123_123 : tyConv Try.prog 123 123 = some .u32 := by kernel_rfl
theorem Try.cv123_124 : tyConv Try.prog 123 124 = some .u8 := by kernel_rfl
theorem Try.cv123_125 : tyConv Try.prog 123 125 = some .u8 := by kernel_rfl
theorem Try.cv123_128 : tyConv Try.prog 123 128 = some .i32 := by kernel_rfl
theorem Try.cv123_129 : tyConv Try.prog 123 129 = some .i32 := by kernel_rfl
theorem Try.cv124_2 : tyConv Try.prog 124 2 = some .i64 := by kernel_rfl
theorem Try.cv124_3 : tyConv Try.prog 124 3 = some .i64 := by kernel_rfl
theorem Try.cv124_5 : tyConv Try.prog 124 5 = some .u8 := by kernel_rfl
theorem Try.cv124_6 : tyConv Try.prog 124 6 = some .u8 := by kernel_rfl
theorem Try.cv124_12 : tyConv Try.prog 124 12 = some .u64 := by kernel_rfl
theorem Try.cv124_21 : tyConv Try.prog 124 21 = some .i32 := by kernel_rfl
theorem Try.cv124_35 : tyConv Try.prog 124 35 = some .u64 := by kernel_rfl
theorem Try.cv124_82 : tyConv Try.prog 124 82 = some .i64 := by kernel_rfl
theorem Try.cv124_123 : tyConv Try.prog 124 123 = some .u32 := by kernel_rfl
theorem Try.cv124_124 : tyConv Try.prog 124 124 = some .u8 := by kernel_rfl
theorem Try.cv124_125 : tyConv Try.prog 124 125 = some .u8 := by kernel_rfl
theorem Try.cv124_128 : tyConv Try.prog 124 128 = some .i32 := by kernel_rfl
theorem Try.cv124_129 : tyConv Try.prog 124 129 = some .i32 := by kernel_rfl
theorem Try.cv125_2 : tyConv Try.prog 125 2 = some .i64 := by kernel_rfl
theorem Try.cv125_3 : tyConv Try.prog 125 3 = some .i64 := by kernel_rfl
theorem Try.cv125_5 : tyConv Try.prog 125 5 = some .u8 := by kernel_rfl
theorem Try.cv125_6 : tyConv Try.prog 125 6 = some .u8 := by kernel_rfl
theorem Try.cv125_12 : tyConv Try.prog 125 12 = some .u64 := by kernel_rfl
theorem Try.cv125_21 : tyConv Try.prog 125 21 = some .i32 := by kernel_rfl
theorem Try.cv125_35 : tyConv Try.prog 125 35 = some .u64 := by kernel_rfl
theorem Try.cv125_82 : tyConv Try.prog 125 82 = some .i64 := by kernel_rfl
theorem Try.cv125_123 : tyConv Try.prog 125 123 = some .u32 := by kernel_rfl
theorem Try.cv125_124 : tyConv Try.prog 125 124 = some .u8 := by kernel_rfl
theorem Try.cv125_125 : tyConv Try.prog 125 125 = some .u8 := by kernel_rfl
theorem Try.cv125_128 : tyConv Try.prog 125 128 = some .i32 := by kernel_rfl
theorem Try.cv125_129 : tyConv Try.prog 125 129 = some .i32 := by kernel_rfl
theorem Try.cv128_2 : tyConv Try.prog 128 2 = some .i64 := by kernel_rfl
theorem Try.cv128_3 : tyConv Try.prog 128 3 = some .i64 := by kernel_rfl
theorem Try.cv128_5 : tyConv Try.prog 128 5 = some .u8 := by kernel_rfl
theorem Try.cv128_6 : tyConv Try.prog 128 6 = some .u8 := by kernel_rfl
theorem Try.cv128_12 : tyConv Try.prog 128 12 = some .u64 := by kernel_rfl
theorem Try.cv128_21 : tyConv Try.prog 128 21 = some .i32 := by kernel_rfl
theorem Try.cv128_35 : tyConv Try.prog 128 35 = some .u64 := by kernel_rfl
theorem Try.cv128_82 : tyConv Try.prog 128 82 = some .i64 := by kernel_rfl
theorem Try.cv128_123 : tyConv Try.prog 128 123 = some .u32 := by kernel_rfl
theorem Try.cv128_124 : tyConv Try.prog 128 124 = some .u8 := by kernel_rfl
theorem Try.cv128_125 : tyConv Try.prog 128 125 = some .u8 := by kernel_rfl
theorem Try.cv128_128 : tyConv Try.prog 128 128 = some .i32 := by kernel_rfl
theorem Try.cv128_129 : tyConv Try.prog 128 129 = some .i32 := by kernel_rfl
theorem Try.cv129_2 : tyConv Try.prog 129 2 = some .i64 := by kernel_rfl
theorem Try.cv129_3 : tyConv Try.prog 129 3 = some .i64 := by kernel_rfl
theorem Try.cv129_5 : tyConv Try.prog 129 5 = some .u8 := by kernel_rfl
theorem Try.cv129_6 : tyConv Try.prog 129 6 = some .u8 := by kernel_rfl
theorem Try.cv129_12 : tyConv Try.prog 129 12 = some .u64 := by kernel_rfl
theorem Try.cv129_21 : tyConv Try.prog 129 21 = some .i32 := by kernel_rfl
theorem Try.cv129_35 : tyConv Try.prog 129 35 = some .u64 := by kernel_rfl
theorem Try.cv129_82 : tyConv Try.prog 129 82 = some .i64 := by kernel_rfl
theorem Try.cv129_123 : tyConv Try.prog 129 123 = some .u32 := by kernel_rfl
theorem Try.cv129_124 : tyConv Try.prog 129 124 = some .u8 := by kernel_rfl
theorem Try.cv129_125 : tyConv Try.prog 129 125 = some .u8 := by kernel_rfl
theorem Try.cv129_128 : tyConv Try.prog 129 128 = some .i32 := by kernel_rfl
theorem Try.cv129_129 : tyConv Try.prog 129 129 = some .i32 := by kernel_rfl
theorem Try.ok2 : fnOK Try.prog 2 = true := by kernel_rfl
theorem Try.ok3 : fnOK Try.prog 3 = true := by kernel_rfl
theorem Try.ok4 : fnOK Try.prog 4 = true := by kernel_rfl
theorem Try.ok5 : fnOK Try.prog 5 = true := by kernel_rfl
theorem Try.ok6 : fnOK Try.prog 6 = true := by kernel_rfl
theorem Try.ok7 : fnOK Try.prog 7 = true := by kernel_rfl
theorem Try.ok8 : fnOK Try.prog 8 = true := by kernel_rfl
theorem Try.ok9 : fnOK Try.prog 9 = true := by kernel_rfl
theorem Try.ok10 : fnOK Try.prog 10 = true := by kernel_rfl
theorem Try.ok11 : fnOK Try.prog 11 = true := by kernel_rfl
theorem Try.ok12 : fnOK Try.prog 12 = true := by kernel_rfl
theorem Try.ok13 : fnOK Try.prog 13 = true := by kernel_rfl
theorem Try.ok14 : fnOK Try.prog 14 = true := by kernel_rfl
theorem Try.ok15 : fnOK Try.prog 15 = true := by kernel_rfl
theorem Try.ok16 : fnOK Try.prog 16 = true := by kernel_rfl
theorem Try.ok17 : fnOK Try.prog 17 = true := by kernel_rfl
theorem Try.ok18 : fnOK Try.prog 18 = true := by kernel_rfl
theorem Try.ok19 : fnOK Try.prog 19 = true := by kernel_rfl
theorem Try.ok20 : fnOK Try.prog 20 = true := by kernel_rfl
theorem Try.ok21 : fnOK Try.prog 21 = true := by kernel_rfl
theorem Try.ok22 : fnOK Try.prog 22 = true := by kernel_rfl
theorem Try.ok23 : fnOK Try.prog 23 = true := by kernel_rfl
theorem Try.ok24 : fnOK Try.prog 24 = true := by kernel_rfl
theorem Try.ok25 : fnOK Try.prog 25 = true := by kernel_rfl
theorem Try.ok26 : fnOK Try.prog 26 = true := by kernel_rfl
theorem Try.ok27 : fnOK Try.prog 27 = true := by kernel_rfl
theorem Try.ok28 : fnOK Try.prog 28 = true := by kernel_rfl
theorem Try.ok29 : fnOK Try.prog 29 = true := by kernel_rfl
theorem Try.ok30 : fnOK Try.prog 30 = true := by kernel_rfl
theorem Try.ok31 : fnOK Try.prog 31 = true := by kernel_rfl
theorem Try.ok32 : fnOK Try.prog 32 = true := by kernel_rfl
theorem Try.ok33 : fnOK Try.prog 33 = true := by kernel_rfl
theorem Try.ok34 : fnOK Try.prog 34 = true := by kernel_rfl
theorem Try.ok35 : fnOK Try.prog 35 = true := by kernel_rfl
theorem Try.ok36 : fnOK Try.prog 36 = true := by kernel_rfl
theorem Try.ok37 : fnOK Try.prog 37 = true := by kernel_rfl
theorem Try.ok38 : fnOK Try.prog 38 = true := by kernel_rfl
theorem Try.ok39 : fnOK Try.prog 39 = true := by kernel_rfl
theorem Try.ok40 : fnOK Try.prog 40 = true := by kernel_rfl
theorem Try.ok41 : fnOK Try.prog 41 = true := by kernel_rfl
theorem Try.ok42 : fnOK Try.prog 42 = true := by kernel_rfl
theorem Try.ok43 : fnOK Try.prog 43 = true := by kernel_rfl
theorem Try.ok44 : fnOK Try.prog 44 = true := by kernel_rfl
theorem Try.ok45 : fnOK Try.prog 45 = true := by kernel_rfl
theorem Try.ok46 : fnOK Try.prog 46 = true := by kernel_rfl
theorem Try.ok47 : fnOK Try.prog 47 = true := by kernel_rfl
theorem Try.ok48 : fnOK Try.prog 48 = true := by kernel_rfl
theorem Try.ok49 : fnOK Try.prog 49 = true := by kernel_rfl
theorem Try.ok50 : fnOK Try.prog 50 = true := by kernel_rfl
theorem Try.ok51 : fnOK Try.prog 51 = true := by kernel_rfl
theorem Try.ok52 : fnOK Try.prog 52 = true := by kernel_rfl
theorem Try.ok53 : fnOK Try.prog 53 = true := by kernel_rfl
theorem Try.ok54 : fnOK Try.prog 54 = true := by kernel_rfl
theorem Try.ok55 : fnOK Try.prog 55 = true := by kernel_rfl
theorem Try.ok56 : fnOK Try.prog 56 = true := by kernel_rfl
theorem Try.ok57 : fnOK Try.prog 57 = true := by kernel_rfl
theorem Try.ok58 : fnOK Try.prog 58 = true := by kernel_rfl
theorem Try.ok59 : fnOK Try.prog 59 = true := by kernel_rfl
theorem Try.ok60 : fnOK Try.prog 60 = true := by kernel_rfl
theorem Try.ok61 : fnOK Try.prog 61 = true := by kernel_rfl
theorem Try.ok62 : fnOK Try.prog 62 = true := by kernel_rfl
theorem Try.ok63 : fnOK Try.prog 63 = true := by kernel_rfl
theorem Try.ok64 : fnOK Try.prog 64 = true := by kernel_rfl
theorem Try.ok65 : fnOK Try.prog 65 = true := by kernel_rfl
theorem Try.ok82 : fnOK Try.prog 82 = true := by kernel_rfl
theorem Try.ok83 : fnOK Try.prog 83 = true := by kernel_rfl
theorem Try.ok85 : fnOK Try.prog 85 = true := by kernel_rfl
theorem Try.ok86 : fnOK Try.prog 86 = true := by kernel_rfl
theorem Try.ok87 : fnOK Try.prog 87 = true := by kernel_rfl
attribute [go_sem] Try.ag2 Try.sz2 Try.tmk2 Try.by2 Try.zr2 Try.pz2 Try.ag3 Try.sz3 Try.tmk3 Try.by3 Try.zr3 Try.ag4 Try.sz4 Try.tmk4 Try.tb4 Try.by4 Try.zr4 Try.pz4 Try.ag5 Try.sz5 Try.tmk5 Try.by5 Try.zr5 Try.pz5 Try.ag6 Try.sz6 Try.tmk6 Try.by6 Try.zr6 Try.ag7 Try.sz7 Try.fd7_0 Try.fd7_1 Try.fd7_2 Try.fd7_3 Try.tp7 Try.eql7 Try.neq7 Try.tmk7 Try.by7 Try.zr7 Try.pz7 Try.ag8 Try.sz8 Try.fd8_0 Try.fd8_1 Try.fd8_2 Try.fd8_3 Try.tp8 Try.eql8 Try.neq8 Try.tmk8 Try.by8 Try.zr8 Try.ag9 Try.sz9 Try.tmk9 Try.by9 Try.zr9 Try.pz9 Try.ag10 Try.sz10 Try.by10 Try.zr10 Try.ag11 Try.sz11 Try.by11 Try.zr11 Try.ag12 Try.sz12 Try.tmk12 Try.by12 Try.zr12 Try.pz12 Try.ag13 Try.sz13 Try.fd13_0 Try.fd13_1 Try.tp13 Try.tmk13 Try.by13 Try.zr13 Try.pz13 Try.ag14 Try.sz14 Try.fd14_0 Try.fd14_1 Try.tp14 Try.tmk14 Try.by14 Try.zr14 Try.ag15 Try.sz15 Try.tmk15 Try.tptr15 Try.by15 Try.zr15 Try.pz15 Try.mt15_Error Try.mt15_RuntimeError Try.ag16 Try.sz16 Try.tmk16 Try.tptr16 Try.by16 Try.zr16 Try.mt16_Error Try.mt16_RuntimeError Try.ag17 Try.sz17 Try.tmk17 Try.tptr17 Try.by17 Try.zr17 Try.mt17_Align Try.ag18 Try.sz18 Try.fd18_0 Try.tp18 Try.tmk18 Try.by18 Try.zr18 Try.pz18 Try.ag19 Try.sz19 Try.fd19_0 Try.tp19 Try.tmk19 Try.by19 Try.zr19 Try.ag20 Try.sz20 Try.tif20 Try.by20 Try.zr20 Try.pz20 Try.ag21 Try.sz21 Try.tmk21 Try.by21 Try.zr21 Try.pz21 Try.ag22 Try.sz22 Try.tsl22 Try.by22 Try.sl22 Try.zr22 Try.pz22 Try.ag24 Try.sz24 Try.tp24 Try.by24 Try.ar24 Try.zr24 Try.pz24 Try.ag25 Try.sz25 Try.fd25_0 Try.fd25_1 Try.fd25_2 Try.tp25 Try.tmk25 Try.by25 Try.zr25 Try.pz25 Try.ag26 Try.sz26 Try.fd26_0 Try.fd26_1 Try.fd26_2 Try.tp26 Try.tmk26 Try.by26 Try.zr26 Try.ag27 Try.sz27 Try.tmk27 Try.tptr27 Try.by27 Try.zr27 Try.mt27_Bytes Try.mt27_Copy Try.mt27_Do Try.mt27_Word Try.mt27_Words Try.ag30 Try.sz30 Try.tmk30 Try.tptr30 Try.by30 Try.zr30 Try.mt30_Add Try.mt30_CAS Try.mt30_Fresh Try.mt30_Get Try.mt30_Load Try.mt30_Put Try.mt30_Self Try.mt30_Steps Try.mt30_Store Try.mt30_Tell Try.ag33 Try.sz33 Try.fd33_0 Try.fd33_1 Try.fd33_2 Try.tp33 Try.eql33 Try.neq33 Try.tmk33 Try.by33 Try.zr33 Try.pz33 Try.ag34 Try.sz34 Try.fd34_0 Try.fd34_1 Try.fd34_2 Try.tp34 Try.eql34 Try.neq34 Try.tmk34 Try.by34 Try.zr34 Try.ag35 Try.sz35 Try.tmk35 Try.by35 Try.zr35 Try.ag36 Try.sz36 Try.fd36_0 Try.fd36_1 Try.fd36_2 Try.fd36_3 Try.fd36_4 Try.tp36 Try.eql36 Try.neq36 Try.tmk36 Try.by36 Try.zr36 Try.pz36 Try.ag37 Try.sz37 Try.fd37_0 Try.fd37_1 Try.fd37_2 Try.fd37_3 Try.fd37_4 Try.tp37 Try.eql37 Try.neq37 Try.tmk37 Try.by37 Try.zr37 Try.ag42 Try.sz42 Try.tsl42 Try.by42 Try.sl42 Try.zr42 Try.ag52 Try.sz52 Try.tsl52 Try.by52 Try.sl52 Try.zr52 Try.ag53 Try.sz53 Try.tsl53 Try.by53 Try.sl53 Try.zr53 Try.ag54 Try.sz54 Try.fd54_0 Try.fd54_1 Try.fd54_2 Try.fd54_3 Try.fd54_4 Try.tp54 Try.eql54 Try.neq54 Try.tmk54 Try.by54 Try.zr54 Try.pz54 Try.ag55 Try.sz55 Try.fd55_0 Try.fd55_1 Try.fd55_2 Try.fd55_3 Try.fd55_4 Try.tp55 Try.eql55 Try.neq55 Try.tmk55 Try.by55 Try.zr55 Try.ag57 Try.sz57 Try.tp57 Try.by57 Try.ar57 Try.zr57 Try.pz57 Try.ag69 Try.sz69 Try.tsl69 Try.by69 Try.sl69 Try.zr69 Try.ag72 Try.sz72 Try.fd72_0 Try.fd72_1 Try.fd72_2 Try.fd72_3 Try.tp72 Try.eql72 Try.neq72 Try.tmk72 Try.by72 Try.zr72 Try.pz72 Try.ag73 Try.sz73 Try.fd73_0 Try.fd73_1 Try.fd73_2 Try.fd73_3 Try.tp73 Try.eql73 Try.neq73 Try.tmk73 Try.by73 Try.zr73 Try.ag82 Try.sz82 Try.tmk82 Try.by82 Try.zr82 Try.ag85 Try.sz85 Try.tmk85 Try.tptr85 Try.by85 Try.zr85 Try.ag86 Try.sz86 Try.fd86_0 Try.fd86_1 Try.tp86 Try.tmk86 Try.by86 Try.zr86 Try.pz86 Try.ag87 Try.sz87 Try.fd87_0 Try.fd87_1 Try.tp87 Try.tmk87 Try.by87 Try.zr87 Try.ag88 Try.sz88 Try.tmk88 Try.tptr88 Try.by88 Try.zr88 Try.ag89 Try.sz89 Try.fd89_0 Try.fd89_1 Try.fd89_2 Try.tp89 Try.tmk89 Try.by89 Try.zr89 Try.pz89 Try.ag90 Try.sz90 Try.fd90_0 Try.fd90_1 Try.fd90_2 Try.tp90 Try.tmk90 Try.by90 Try.zr90 Try.ag91 Try.sz91 Try.tif91 Try.by91 Try.zr91 Try.ag92 Try.sz92 Try.tif92 Try.by92 Try.zr92 Try.ag93 Try.sz93 Try.tmk93 Try.tptr93 Try.by93 Try.zr93 Try.ag94 Try.sz94 Try.tsl94 Try.by94 Try.sl94 Try.zr94 Try.ag96 Try.sz96 Try.fd96_0 Try.fd96_1 Try.tp96 Try.eql96 Try.neq96 Try.tmk96 Try.by96 Try.zr96 Try.pz96 Try.ag97 Try.sz97 Try.fd97_0 Try.fd97_1 Try.tp97 Try.eql97 Try.neq97 Try.tmk97 Try.by97 Try.zr97 Try.ag103 Try.sz103 Try.fd103_0 Try.fd103_1 Try.tp103 Try.tmk103 Try.by103 Try.zr103 Try.pz103 Try.ag104 Try.sz104 Try.fd104_0 Try.fd104_1 Try.tp104 Try.tmk104 Try.by104 Try.zr104 Try.ag106 Try.sz106 Try.tsl106 Try.by106 Try.sl106 Try.zr106 Try.ag110 Try.sz110 Try.tp110 Try.by110 Try.ar110 Try.zr110 Try.pz110 Try.ag114 Try.sz114 Try.tp114 Try.by114 Try.ar114 Try.zr114 Try.pz114 Try.ag115 Try.sz115 Try.tsl115 Try.by115 Try.sl115 Try.zr115 Try.ag118 Try.sz118 Try.fd118_0 Try.fd118_1 Try.fd118_2 Try.fd118_3 Try.tp118 Try.tmk118 Try.by118 Try.zr118 Try.pz118 Try.ag119 Try.sz119 Try.fd119_0 Try.fd119_1 Try.fd119_2 Try.fd119_3 Try.tp119 Try.tmk119 Try.by119 Try.zr119 Try.ag120 Try.sz120 Try.tp120 Try.by120 Try.ar120 Try.zr120 Try.pz120 Try.ag121 Try.sz121 Try.fd121_0 Try.tp121 Try.tmk121 Try.by121 Try.zr121 Try.ag122 Try.sz122 Try.fd122_0 Try.tp122 Try.tmk122 Try.by122 Try.zr122 Try.ag123 Try.sz123 Try.tmk123 Try.by123 Try.zr123 Try.pz123 Try.ag124 Try.sz124 Try.tmk124 Try.by124 Try.zr124 Try.ag125 Try.sz125 Try.tmk125 Try.by125 Try.zr125 Try.ag127 Try.sz127 Try.tmk127 Try.tptr127 Try.by127 Try.zr127 Try.ag128 Try.sz128 Try.tmk128 Try.by128 Try.zr128 Try.ag129 Try.sz129 Try.tmk129 Try.by129 Try.zr129 Try.ag130 Try.sz130 Try.fd130_0 Try.fd130_1 Try.fd130_2 Try.fd130_3 Try.fd130_4 Try.fd130_5 Try.fd130_6 Try.fd130_7 Try.fd130_8 Try.fd130_9 Try.fd130_10 Try.tp130 Try.tmk130 Try.by130 Try.zr130 Try.pz130 Try.ag131 Try.sz131 Try.fd131_0 Try.fd131_1 Try.fd131_2 Try.fd131_3 Try.fd131_4 Try.fd131_5 Try.fd131_6 Try.fd131_7 Try.fd131_8 Try.fd131_9 Try.fd131_10 Try.tp131 Try.tmk131 Try.by131 Try.zr131 Try.ag133 Try.sz133 Try.fd133_0 Try.fd133_1 Try.fd133_2 Try.fd133_3 Try.fd133_4 Try.fd133_5 Try.fd133_6 Try.tp133 Try.tmk133 Try.by133 Try.zr133 Try.pz133 Try.ag134 Try.sz134 Try.fd134_0 Try.fd134_1 Try.fd134_2 Try.fd134_3 Try.fd134_4 Try.fd134_5 Try.fd134_6 Try.tp134 Try.tmk134 Try.by134 Try.zr134 Try.ag139 Try.sz139 Try.by139 Try.zr139 Try.cv2_2 Try.cv2_3 Try.cv2_5 Try.cv2_6 Try.cv2_12 Try.cv2_21 Try.cv2_35 Try.cv2_82 Try.cv2_123 Try.cv2_124 Try.cv2_125 Try.cv2_128 Try.cv2_129 Try.cv3_2 Try.cv3_3 Try.cv3_5 Try.cv3_6 Try.cv3_12 Try.cv3_21 Try.cv3_35 Try.cv3_82 Try.cv3_123 Try.cv3_124 Try.cv3_125 Try.cv3_128 Try.cv3_129 Try.cv5_2 Try.cv5_3 Try.cv5_5 Try.cv5_6 Try.cv5_12 Try.cv5_21 Try.cv5_35 Try.cv5_82 Try.cv5_123 Try.cv5_124 Try.cv5_125 Try.cv5_128 Try.cv5_129 Try.cv6_2 Try.cv6_3 Try.cv6_5 Try.cv6_6 Try.cv6_12 Try.cv6_21 Try.cv6_35 Try.cv6_82 Try.cv6_123 Try.cv6_124 Try.cv6_125 Try.cv6_128 Try.cv6_129 Try.cv12_2 Try.cv12_3 Try.cv12_5 Try.cv12_6 Try.cv12_12 Try.cv12_21 Try.cv12_35 Try.cv12_82 Try.cv12_123 Try.cv12_124 Try.cv12_125 Try.cv12_128 Try.cv12_129 Try.cv21_2 Try.cv21_3 Try.cv21_5 Try.cv21_6 Try.cv21_12 Try.cv21_21 Try.cv21_35 Try.cv21_82 Try.cv21_123 Try.cv21_124 Try.cv21_125 Try.cv21_128 Try.cv21_129 Try.cv35_2 Try.cv35_3 Try.cv35_5 Try.cv35_6 Try.cv35_12 Try.cv35_21 Try.cv35_35 Try.cv35_82 Try.cv35_123 Try.cv35_124 Try.cv35_125 Try.cv35_128 Try.cv35_129 Try.cv82_2 Try.cv82_3 Try.cv82_5 Try.cv82_6 Try.cv82_12 Try.cv82_21 Try.cv82_35 Try.cv82_82 Try.cv82_123 Try.cv82_124 Try.cv82_125 Try.cv82_128 Try.cv82_129 Try.cv123_2 Try.cv123_3 Try.cv123_5 Try.cv123_6 Try.cv123_12 Try.cv123_21 Try.cv123_35 Try.cv123_82 Try.cv123_123 Try.cv123_124 Try.cv123_125 Try.cv123_128 Try.cv123_129 Try.cv124_2 Try.cv124_3 Try.cv124_5 Try.cv124_6 Try.cv124_12 Try.cv124_21 Try.cv124_35 Try.cv124_82 Try.cv124_123 Try.cv124_124 Try.cv124_125 Try.cv124_128 Try.cv124_129 Try.cv125_2 Try.cv125_3 Try.cv125_5 Try.cv125_6 Try.cv125_12 Try.cv125_21 Try.cv125_35 Try.cv125_82 Try.cv125_123 Try.cv125_124 Try.cv125_125 Try.cv125_128 Try.cv125_129 Try.cv128_2 Try.cv128_3 Try.cv128_5 Try.cv128_6 Try.cv128_12 Try.cv128_21 Try.cv128_35 Try.cv128_82 Try.cv128_123 Try.cv128_124 Try.cv128_125 Try.cv128_128 Try.cv128_129 Try.cv129_2 Try.cv129_3 Try.cv129_5 Try.cv129_6 Try.cv129_12 Try.cv129_21 Try.cv129_35 Try.cv129_82 Try.cv129_123 Try.cv129_124 Try.cv129_125 Try.cv129_128 Try.cv129_129 Try.ok2 Try.ok3 Try.ok4 Try.ok5 Try.ok6 Try.ok7 Try.ok8 Try.ok9 Try.ok10 Try.ok11 Try.ok12 Try.ok13 Try.ok14 Try.ok15 Try.ok16 Try.ok17 Try.ok18 Try.ok19 Try.ok20 Try.ok21 Try.ok22 Try.ok23 Try.ok24 Try.ok25 Try.ok26 Try.ok27 Try.ok28 Try.ok29 Try.ok30 Try.ok31 Try.ok32 Try.ok33 Try.ok34 Try.ok35 Try.ok36 Try.ok37 Try.ok38 Try.ok39 Try.ok40 Try.ok41 Try.ok42 Try.ok43 Try.ok44 Try.ok45 Try.ok46 Try.ok47 Try.ok48 Try.ok49 Try.ok50 Try.ok51 Try.ok52 Try.ok53 Try.ok54 Try.ok55 Try.ok56 Try.ok57 Try.ok58 Try.ok59 Try.ok60 Try.ok61 Try.ok62 Try.ok63 Try.ok64 Try.ok65 Try.ok82 Try.ok83 Try.ok85 Try.ok86 Try.ok87
end Go.Proofs.Ytjigpdihgaenhaa
