/-
  Facts on the types and functions of this program, as the abstract machine asks them.
  No condition: closed facts.
-/
import Derived.Test.YtceddijolfpppaaAx13
namespace Go.Proofs.Ytceddijolfpppaa
open Go Go.RowKit
set_option linter.unusedSimpArgs false
set_option linter.unusedVariables false
theorem Try.ag2 : tyAgg Try.prog 2 = some false := by kernel_rfl
theorem Try.sz2 : tySize Try.prog 2 = some 1 := by kernel_rfl
theorem Try.tmk2 : tyMk Try.prog 2 = true := by kernel_rfl
theorem Try.by2 : tyBytes Try.prog 2 = some 8 := by kernel_rfl
theorem Try.zr2 : tyZero Try.prog 2 = some (.int .i64 0) := by kernel_rfl
theorem Try.pz2 : plainB (.int .i64 0) = true := by kernel_rfl
theorem Try.ag3 : tyAgg Try.prog 3 = some false := by kernel_rfl
theorem Try.sz3 : tySize Try.prog 3 = some 1 := by kernel_rfl
theorem Try.tmk3 : tyMk Try.prog 3 = true := by kernel_rfl
theorem Try.by3 : tyBytes Try.prog 3 = some 8 := by kernel_rfl
theorem Try.zr3 : tyZero Try.prog 3 = some (.int .i64 0) := by kernel_rfl
theorem Try.ag4 : tyAgg Try.prog 4 = some false := by kernel_rfl
theorem Try.sz4 : tySize Try.prog 4 = some 1 := by kernel_rfl
theorem Try.tmk4 : tyMk Try.prog 4 = true := by kernel_rfl
theorem Try.tb4 : tyBool Try.prog 4 = true := by kernel_rfl
theorem Try.by4 : tyBytes Try.prog 4 = some 1 := by kernel_rfl
theorem Try.zr4 : tyZero Try.prog 4 = some (.bool false) := by kernel_rfl
theorem Try.pz4 : plainB (.bool false) = true := by kernel_rfl
theorem Try.ag5 : tyAgg Try.prog 5 = some false := by kernel_rfl
theorem Try.sz5 : tySize Try.prog 5 = some 1 := by kernel_rfl
theorem Try.tmk5 : tyMk Try.prog 5 = true := by kernel_rfl
theorem Try.by5 : tyBytes Try.prog 5 = some 1 := by kernel_rfl
theorem Try.zr5 : tyZero Try.prog 5 = some (.int .u8 0) := by kernel_rfl
theorem Try.pz5 : plainB (.int .u8 0) = true := by kernel_rfl
theorem Try.ag6 : tyAgg Try.prog 6 = some false := by kernel_rfl
theorem Try.sz6 : tySize Try.prog 6 = some 1 := by kernel_rfl
theorem Try.tmk6 : tyMk Try.prog 6 = true := by kernel_rfl
theorem Try.by6 : tyBytes Try.prog 6 = some 1 := by kernel_rfl
theorem Try.zr6 : tyZero Try.prog 6 = some (.int .u8 0) := by kernel_rfl
theorem Try.ag7 : tyAgg Try.prog 7 = some true := by kernel_rfl
theorem Try.sz7 : tySize Try.prog 7 = some 4 := by kernel_rfl
theorem Try.fd7_0 : tyField Try.prog 7 0 = some (0, 2) := by kernel_rfl
theorem Try.fd7_1 : tyField Try.prog 7 1 = some (1, 3) := by kernel_rfl
theorem Try.fd7_2 : tyField Try.prog 7 2 = some (2, 4) := by kernel_rfl
theorem Try.fd7_3 : tyField Try.prog 7 3 = some (3, 6) := by kernel_rfl
theorem Try.tp7 : tyPlace Try.prog 7 = some fun i => ([(0, 1), (1, 1), (2, 1), (3, 1)] : List (Nat × Nat))[i]? := by kernel_rfl
theorem Try.eql7 (y : Operand) (a0 b0 : Int) (a1 b1 : Int) (a2 b2 : Bool) (a3 b3 : Int) : binOpA Try.prog .eql 7 y (.agg #[.int .i64 a0, .int .i64 a1, .bool a2, .int .u8 a3]) (.agg #[.int .i64 b0, .int .i64 b1, .bool b2, .int .u8 b3]) = some (.bool (a0 == b0 && (a1 == b1 && (a2 == b2 && (a3 == b3 && true))))) := by kernel_rfl
theorem Try.neq7 (y : Operand) (a0 b0 : Int) (a1 b1 : Int) (a2 b2 : Bool) (a3 b3 : Int) : binOpA Try.prog .neq 7 y (.agg #[.int .i64 a0, .int .i64 a1, .bool a2, .int .u8 a3]) (.agg #[.int .i64 b0, .int .i64 b1, .bool b2, .int .u8 b3]) = some (.bool !(a0 == b0 && (a1 == b1 && (a2 == b2 && (a3 == b3 && true))))) := by kernel_rfl
theorem Try.tmk7 : tyMk Try.prog 7 = true := by kernel_rfl
theorem Try.by7 : tyBytes Try.prog 7 = some 24 := by kernel_rfl
theorem Try.zr7 : tyZero Try.prog 7 = some (.agg #[.int .i64 0, .int .i64 0, .bool false, .int .u8 0]) := by kernel_rfl
theorem Try.pz7 : plainB (.agg #[.int .i64 0, .int .i64 0, .bool false, .int .u8 0]) = true := by kernel_rfl
theorem Try.ag8 : tyAgg Try.prog 8 = some true := by kernel_rfl
theorem Try.sz8 : tySize Try.prog 8 = some 4 := by kernel_rfl
theorem Try.fd8_0 : tyField Try.prog 8 0 = some (0, 2) := by kernel_rfl
theorem Try.fd8_1 : tyField Try.prog 8 1 = some (1, 3) := by kernel_rfl
theorem Try.fd8_2 : tyField Try.prog 8 2 = some (2, 4) := by kernel_rfl
theorem Try.fd8_3 : tyField Try.prog 8 3 = some (3, 6) := by kernel_rfl
theorem Try.tp8 : tyPlace Try.prog 8 = some fun i => ([(0, 1), (1, 1), (2, 1), (3, 1)] : List (Nat × Nat))[i]? := by kernel_rfl
theorem Try.eql8 (y : Operand) (a0 b0 : Int) (a1 b1 : Int) (a2 b2 : Bool) (a3 b3 : Int) : binOpA Try.prog .eql 8 y (.agg #[.int .i64 a0, .int .i64 a1, .bool a2, .int .u8 a3]) (.agg #[.int .i64 b0, .int .i64 b1, .bool b2, .int .u8 b3]) = some (.bool (a0 == b0 && (a1 == b1 && (a2 == b2 && (a3 == b3 && true))))) := by kernel_rfl
theorem Try.neq8 (y : Operand) (a0 b0 : Int) (a1 b1 : Int) (a2 b2 : Bool) (a3 b3 : Int) : binOpA Try.prog .neq 8 y (.agg #[.int .i64 a0, .int .i64 a1, .bool a2, .int .u8 a3]) (.agg #[.int .i64 b0, .int .i64 b1, .bool b2, .int .u8 b3]) = some (.bool !(a0 == b0 && (a1 == b1 && (a2 == b2 && (a3 == b3 && true))))) := by kernel_rfl
theorem Try.tmk8 : tyMk Try.prog 8 = true := by kernel_rfl
theorem Try.by8 : tyBytes Try.prog 8 = some 24 := by kernel_rfl
theorem Try.zr8 : tyZero Try.prog 8 = some (.agg #[.int .i64 0, .int .i64 0, .bool false, .int .u8 0]) := by kernel_rfl
theorem Try.ag9 : tyAgg Try.prog 9 = some false := by kernel_rfl
theorem Try.sz9 : tySize Try.prog 9 = some 1 := by kernel_rfl
theorem Try.tmk9 : tyMk Try.prog 9 = true := by kernel_rfl
theorem Try.by9 : tyBytes Try.prog 9 = some 16 := by kernel_rfl
theorem Try.zr9 : tyZero Try.prog 9 = some (.string ⟨#[]⟩) := by kernel_rfl
theorem Try.pz9 : plainB (.string ⟨#[]⟩) = true := by kernel_rfl
theorem Try.ag10 : tyAgg Try.prog 10 = some false := by kernel_rfl
theorem Try.sz10 : tySize Try.prog 10 = some 1 := by kernel_rfl
theorem Try.by10 : tyBytes Try.prog 10 = some 16 := by kernel_rfl
theorem Try.zr10 : tyZero Try.prog 10 = some (.string ⟨#[]⟩) := by kernel_rfl
theorem Try.ag11 : tyAgg Try.prog 11 = some false := by kernel_rfl
theorem Try.sz11 : tySize Try.prog 11 = some 1 := by kernel_rfl
theorem Try.by11 : tyBytes Try.prog 11 = some 16 := by kernel_rfl
theorem Try.zr11 : tyZero Try.prog 11 = some (.string ⟨#[]⟩) := by kernel_rfl
theorem Try.ag12 : tyAgg Try.prog 12 = some false := by kernel_rfl
theorem Try.sz12 : tySize Try.prog 12 = some 1 := by kernel_rfl
theorem Try.tmk12 : tyMk Try.prog 12 = true := by kernel_rfl
theorem Try.by12 : tyBytes Try.prog 12 = some 8 := by kernel_rfl
theorem Try.zr12 : tyZero Try.prog 12 = some (.int .u64 0) := by kernel_rfl
theorem Try.pz12 : plainB (.int .u64 0) = true := by kernel_rfl
theorem Try.ag13 : tyAgg Try.prog 13 = some true := by kernel_rfl
theorem Try.sz13 : tySize Try.prog 13 = some 2 := by kernel_rfl
theorem Try.fd13_0 : tyField Try.prog 13 0 = some (0, 9) := by kernel_rfl
theorem Try.fd13_1 : tyField Try.prog 13 1 = some (1, 12) := by kernel_rfl
theorem Try.tp13 : tyPlace Try.prog 13 = some fun i => ([(0, 1), (1, 1)] : List (Nat × Nat))[i]? := by kernel_rfl
theorem Try.tmk13 : tyMk Try.prog 13 = true := by kernel_rfl
theorem Try.by13 : tyBytes Try.prog 13 = some 24 := by kernel_rfl
theorem Try.zr13 : tyZero Try.prog 13 = some (.agg #[.string ⟨#[]⟩, .int .u64 0]) := by kernel_rfl
theorem Try.pz13 : plainB (.agg #[.string ⟨#[]⟩, .int .u64 0]) = true := by kernel_rfl
theorem Try.ag14 : tyAgg Try.prog 14 = some true := by kernel_rfl
theorem Try.sz14 : tySize Try.prog 14 = some 2 := by kernel_rfl
theorem Try.fd14_0 : tyField Try.prog 14 0 = some (0, 9) := by kernel_rfl
theorem Try.fd14_1 : tyField Try.prog 14 1 = some (1, 12) := by kernel_rfl
theorem Try.tp14 : tyPlace Try.prog 14 = some fun i => ([(0, 1), (1, 1)] : List (Nat × Nat))[i]? := by kernel_rfl
theorem Try.tmk14 : tyMk Try.prog 14 = true := by kernel_rfl
theorem Try.by14 : tyBytes Try.prog 14 = some 24 := by kernel_rfl
theorem Try.zr14 : tyZero Try.prog 14 = some (.agg #[.string ⟨#[]⟩, .int .u64 0]) := by kernel_rfl
theorem Try.ag15 : tyAgg Try.prog 15 = some false := by kernel_rfl
theorem Try.sz15 : tySize Try.prog 15 = some 1 := by kernel_rfl
theorem Try.tmk15 : tyMk Try.prog 15 = true := by kernel_rfl
theorem Try.tptr15 : tyPtr Try.prog 15 = true := by kernel_rfl
theorem Try.by15 : tyBytes Try.prog 15 = some 8 := by kernel_rfl
theorem Try.zr15 : tyZero Try.prog 15 = some (.pointer none) := by kernel_rfl
theorem Try.pz15 : plainB (.pointer none) = true := by kernel_rfl
theorem Try.mt15_Error : methA Try.prog 15 "Error" = some 166 := by kernel_rfl
theorem Try.mt15_RuntimeError : methA Try.prog 15 "RuntimeError" = some 167 := by kernel_rfl
theorem Try.ag16 : tyAgg Try.prog 16 = some false := by kernel_rfl
theorem Try.sz16 : tySize Try.prog 16 = some 1 := by kernel_rfl
theorem Try.tmk16 : tyMk Try.prog 16 = true := by kernel_rfl
theorem Try.tptr16 : tyPtr Try.prog 16 = true := by kernel_rfl
theorem Try.by16 : tyBytes Try.prog 16 = some 8 := by kernel_rfl
theorem Try.zr16 : tyZero Try.prog 16 = some (.pointer none) := by kernel_rfl
theorem Try.mt16_Error : methA Try.prog 16 "Error" = some 168 := by kernel_rfl
theorem Try.mt16_RuntimeError : methA Try.prog 16 "RuntimeError" = some 169 := by kernel_rfl
theorem Try.ag17 : tyAgg Try.prog 17 = some false := by kernel_rfl
theorem Try.sz17 : tySize Try.prog 17 = some 1 := by kernel_rfl
theorem Try.tmk17 : tyMk Try.prog 17 = true := by kernel_rfl
theorem Try.tptr17 : tyPtr Try.prog 17 = true := by kernel_rfl
theorem Try.by17 : tyBytes Try.prog 17 = some 8 := by kernel_rfl
theorem Try.zr17 : tyZero Try.prog 17 = some (.pointer none) := by kernel_rfl
theorem Try.mt17_Align : methA Try.prog 17 "Align" = some 170 := by kernel_rfl
theorem Try.ag18 : tyAgg Try.prog 18 = some true := by kernel_rfl
theorem Try.sz18 : tySize Try.prog 18 = some 1 := by kernel_rfl
theorem Try.fd18_0 : tyField Try.prog 18 0 = some (0, 17) := by kernel_rfl
theorem Try.tp18 : tyPlace Try.prog 18 = some fun i => ([(0, 1)] : List (Nat × Nat))[i]? := by kernel_rfl
theorem Try.tmk18 : tyMk Try.prog 18 = true := by kernel_rfl
theorem Try.by18 : tyBytes Try.prog 18 = some 8 := by kernel_rfl
theorem Try.zr18 : tyZero Try.prog 18 = some (.agg #[.pointer none]) := by kernel_rfl
theorem Try.pz18 : plainB (.agg #[.pointer none]) = true := by kernel_rfl
theorem Try.ag19 : tyAgg Try.prog 19 = some true := by kernel_rfl
theorem Try.sz19 : tySize Try.prog 19 = some 1 := by kernel_rfl
theorem Try.fd19_0 : tyField Try.prog 19 0 = some (0, 17) := by kernel_rfl
theorem Try.tp19 : tyPlace Try.prog 19 = some fun i => ([(0, 1)] : List (Nat × Nat))[i]? := by kernel_rfl
theorem Try.tmk19 : tyMk Try.prog 19 = true := by kernel_rfl
theorem Try.by19 : tyBytes Try.prog 19 = some 8 := by kernel_rfl
theorem Try.zr19 : tyZero Try.prog 19 = some (.agg #[.pointer none]) := by kernel_rfl
theorem Try.ag20 : tyAgg Try.prog 20 = some false := by kernel_rfl
theorem Try.sz20 : tySize Try.prog 20 = some 1 := by kernel_rfl
theorem Try.tif20 : tyIfc Try.prog 20 = true := by kernel_rfl
theorem Try.by20 : tyBytes Try.prog 20 = some 16 := by kernel_rfl
theorem Try.zr20 : tyZero Try.prog 20 = some (.nilIface) := by kernel_rfl
theorem Try.pz20 : plainB (.nilIface) = true := by kernel_rfl
theorem Try.ag21 : tyAgg Try.prog 21 = some false := by kernel_rfl
theorem Try.sz21 : tySize Try.prog 21 = some 1 := by kernel_rfl
theorem Try.tmk21 : tyMk Try.prog 21 = true := by kernel_rfl
theorem Try.by21 : tyBytes Try.prog 21 = some 4 := by kernel_rfl
theorem Try.zr21 : tyZero Try.prog 21 = some (.int .i32 0) := by kernel_rfl
theorem Try.pz21 : plainB (.int .i32 0) = true := by kernel_rfl
theorem Try.ag22 : tyAgg Try.prog 22 = some false := by kernel_rfl
theorem Try.sz22 : tySize Try.prog 22 = some 1 := by kernel_rfl
theorem Try.tsl22 : tySli Try.prog 22 = true := by kernel_rfl
theorem Try.by22 : tyBytes Try.prog 22 = some 24 := by kernel_rfl
theorem Try.sl22 : tySlice Try.prog 22 = some 5 := by kernel_rfl
theorem Try.zr22 : tyZero Try.prog 22 = some (.slice none 0 0) := by kernel_rfl
theorem Try.pz22 : plainB (.slice none 0 0) = true := by kernel_rfl
theorem Try.ag24 : tyAgg Try.prog 24 = some true := by kernel_rfl
theorem Try.sz24 : tySize Try.prog 24 = some 20 := by kernel_rfl
theorem Try.tp24 : tyPlace Try.prog 24 = some fun i => some (i * 1, 1) := by kernel_rfl
theorem Try.by24 : tyBytes Try.prog 24 = some 160 := by kernel_rfl
theorem Try.ar24 : tyArray Try.prog 24 = some (20, 3) := by kernel_rfl
theorem Try.zr24 : tyZero Try.prog 24 = some (.agg #[.int .i64 0, .int .i64 0, .int .i64 0, .int .i64 0, .int .i64 0, .int .i64 0, .int .i64 0, .int .i64 0, .int .i64 0, .int .i64 0, .int .i64 0, .int .i64 0, .int .i64 0, .int .i64 0, .int .i64 0, .int .i64 0, .int .i64 0, .int .i64 0, .int .i64 0, .int .i64 0]) := by kernel_rfl
theorem Try.pz24 : plainB (.agg #[.int .i64 0, .int .i64 0, .int .i64 0, .int .i64 0, .int .i64 0, .int .i64 0, .int .i64 0, .int .i64 0, .int .i64 0, .int .i64 0, .int .i64 0, .int .i64 0, .int .i64 0, .int .i64 0, .int .i64 0, .int .i64 0, .int .i64 0, .int .i64 0, .int .i64 0, .int .i64 0]) = true := by kernel_rfl
theorem Try.ag25 : tyAgg Try.prog 25 = some true := by kernel_rfl
theorem Try.sz25 : tySize Try.prog 25 = some 22 := by kernel_rfl
theorem Try.fd25_0 : tyField Try.prog 25 0 = some (0, 3) := by kernel_rfl
theorem Try.fd25_1 : tyField Try.prog 25 1 = some (1, 3) := by kernel_rfl
theorem Try.fd25_2 : tyField Try.prog 25 2 = some (2, 24) := by kernel_rfl
theorem Try.tp25 : tyPlace Try.prog 25 = some fun i => ([(0, 1), (1, 1), (2, 20)] : List (Nat × Nat))[i]? := by kernel_rfl
theorem Try.tmk25 : tyMk Try.prog 25 = true := by kernel_rfl
theorem Try.by25 : tyBytes Try.prog 25 = some 176 := by kernel_rfl
theorem Try.zr25 : tyZero Try.prog 25 = some (.agg #[.int .i64 0, .int .i64 0, .int .i64 0, .int .i64 0, .int .i64 0, .int .i64 0, .int .i64 0, .int .i64 0, .int .i64 0, .int .i64 0, .int .i64 0, .int .i64 0, .int .i64 0, .int .i64 0, .int .i64 0, .int .i64 0, .int .i64 0, .int .i64 0, .int .i64 0, .int .i64 0, .int .i64 0, .int .i64 0]) := by kernel_rfl
theorem Try.pz25 : plainB (.agg #[.int .i64 0, .int .i64 0, .int .i64 0, .int .i64 0, .int .i64 0, .int .i64 0, .int .i64 0, .int .i64 0, .int .i64 0, .int .i64 0, .int .i64 0, .int .i64 0, .int .i64 0, .int .i64 0, .int .i64 0, .int .i64 0, .int .i64 0, .int .i64 0, .int .i64 0, .int .i64 0, .int .i64 0, .int .i64 0]) = true := by kernel_rfl
theorem Try.ag26 : tyAgg Try.prog 26 = some true := by kernel_rfl
theorem Try.sz26 : tySize Try.prog 26 = some 22 := by kernel_rfl
theorem Try.fd26_0 : tyField Try.prog 26 0 = some (0, 3) := by kernel_rfl
theorem Try.fd26_1 : tyField Try.prog 26 1 = some (1, 3) := by kernel_rfl
theorem Try.fd26_2 : tyField Try.prog 26 2 = some (2, 24) := by kernel_rfl
theorem Try.tp26 : tyPlace Try.prog 26 = some fun i => ([(0, 1), (1, 1), (2, 20)] : List (Nat × Nat))[i]? := by kernel_rfl
theorem Try.tmk26 : tyMk Try.prog 26 = true := by kernel_rfl
theorem Try.by26 : tyBytes Try.prog 26 = some 176 := by kernel_rfl
theorem Try.zr26 : tyZero Try.prog 26 = some (.agg #[.int .i64 0, .int .i64 0, .int .i64 0, .int .i64 0, .int .i64 0, .int .i64 0, .int .i64 0, .int .i64 0, .int .i64 0, .int .i64 0, .int .i64 0, .int .i64 0, .int .i64 0, .int .i64 0, .int .i64 0, .int .i64 0, .int .i64 0, .int .i64 0, .int .i64 0, .int .i64 0, .int .i64 0, .int .i64 0]) := by kernel_rfl
theorem Try.ag29 : tyAgg Try.prog 29 = some false := by kernel_rfl
theorem Try.sz29 : tySize Try.prog 29 = some 1 := by kernel_rfl
theorem Try.tmk29 : tyMk Try.prog 29 = true := by kernel_rfl
theorem Try.tptr29 : tyPtr Try.prog 29 = true := by kernel_rfl
theorem Try.by29 : tyBytes Try.prog 29 = some 8 := by kernel_rfl
theorem Try.zr29 : tyZero Try.prog 29 = some (.pointer none) := by kernel_rfl
theorem Try.mt29_Byte : methA Try.prog 29 "Byte" = some 79 := by kernel_rfl
theorem Try.mt29_Bytes : methA Try.prog 29 "Bytes" = some 125 := by kernel_rfl
theorem Try.mt29_Copy : methA Try.prog 29 "Copy" = some 70 := by kernel_rfl
theorem Try.mt29_Do : methA Try.prog 29 "Do" = some 85 := by kernel_rfl
theorem Try.mt29_Word : methA Try.prog 29 "Word" = some 30 := by kernel_rfl
theorem Try.mt29_Words : methA Try.prog 29 "Words" = some 124 := by kernel_rfl
theorem Try.ag32 : tyAgg Try.prog 32 = some false := by kernel_rfl
theorem Try.sz32 : tySize Try.prog 32 = some 1 := by kernel_rfl
theorem Try.by32 : tyBytes Try.prog 32 = some 8 := by kernel_rfl
theorem Try.ag33 : tyAgg Try.prog 33 = some false := by kernel_rfl
theorem Try.sz33 : tySize Try.prog 33 = some 1 := by kernel_rfl
theorem Try.tmk33 : tyMk Try.prog 33 = true := by kernel_rfl
theorem Try.tptr33 : tyPtr Try.prog 33 = true := by kernel_rfl
theorem Try.by33 : tyBytes Try.prog 33 = some 8 := by kernel_rfl
theorem Try.zr33 : tyZero Try.prog 33 = some (.pointer none) := by kernel_rfl
theorem Try.mt33_Add : methA Try.prog 33 "Add" = some 173 := by kernel_rfl
theorem Try.mt33_CAS : methA Try.prog 33 "CAS" = some 174 := by kernel_rfl
theorem Try.mt33_Fresh : methA Try.prog 33 "Fresh" = some 84 := by kernel_rfl
theorem Try.mt33_Get : methA Try.prog 33 "Get" = some 175 := by kernel_rfl
theorem Try.mt33_Load : methA Try.prog 33 "Load" = some 44 := by kernel_rfl
theorem Try.mt33_Put : methA Try.prog 33 "Put" = some 176 := by kernel_rfl
theorem Try.mt33_Self : methA Try.prog 33 "Self" = some 177 := by kernel_rfl
theorem Try.mt33_Steps : methA Try.prog 33 "Steps" = some 29 := by kernel_rfl
theorem Try.mt33_Store : methA Try.prog 33 "Store" = some 52 := by kernel_rfl
theorem Try.mt33_Tell : methA Try.prog 33 "Tell" = some 178 := by kernel_rfl
theorem Try.mt33_Told : methA Try.prog 33 "Told" = some 87 := by kernel_rfl
theorem Try.ag36 : tyAgg Try.prog 36 = some false := by kernel_rfl
theorem Try.sz36 : tySize Try.prog 36 = some 1 := by kernel_rfl
theorem Try.tmk36 : tyMk Try.prog 36 = true := by kernel_rfl
theorem Try.by36 : tyBytes Try.prog 36 = some 4 := by kernel_rfl
theorem Try.zr36 : tyZero Try.prog 36 = some (.int .u32 0) := by kernel_rfl
theorem Try.pz36 : plainB (.int .u32 0) = true := by kernel_rfl
theorem Try.ag37 : tyAgg Try.prog 37 = some true := by kernel_rfl
theorem Try.sz37 : tySize Try.prog 37 = some 4 := by kernel_rfl
theorem Try.fd37_0 : tyField Try.prog 37 0 = some (0, 3) := by kernel_rfl
theorem Try.fd37_1 : tyField Try.prog 37 1 = some (1, 3) := by kernel_rfl
theorem Try.fd37_2 : tyField Try.prog 37 2 = some (2, 3) := by kernel_rfl
theorem Try.fd37_3 : tyField Try.prog 37 3 = some (3, 36) := by kernel_rfl
theorem Try.tp37 : tyPlace Try.prog 37 = some fun i => ([(0, 1), (1, 1), (2, 1), (3, 1)] : List (Nat × Nat))[i]? := by kernel_rfl
theorem Try.eql37 (y : Operand) (a0 b0 : Int) (a1 b1 : Int) (a2 b2 : Int) (a3 b3 : Int) : binOpA Try.prog .eql 37 y (.agg #[.int .i64 a0, .int .i64 a1, .int .i64 a2, .int .u32 a3]) (.agg #[.int .i64 b0, .int .i64 b1, .int .i64 b2, .int .u32 b3]) = some (.bool (a0 == b0 && (a1 == b1 && (a2 == b2 && (a3 == b3 && true))))) := by kernel_rfl
theorem Try.neq37 (y : Operand) (a0 b0 : Int) (a1 b1 : Int) (a2 b2 : Int) (a3 b3 : Int) : binOpA Try.prog .neq 37 y (.agg #[.int .i64 a0, .int .i64 a1, .int .i64 a2, .int .u32 a3]) (.agg #[.int .i64 b0, .int .i64 b1, .int .i64 b2, .int .u32 b3]) = some (.bool !(a0 == b0 && (a1 == b1 && (a2 == b2 && (a3 == b3 && true))))) := by kernel_rfl
theorem Try.tmk37 : tyMk Try.prog 37 = true := by kernel_rfl
theorem Try.by37 : tyBytes Try.prog 37 = some 32 := by kernel_rfl
theorem Try.zr37 : tyZero Try.prog 37 = some (.agg #[.int .i64 0, .int .i64 0, .int .i64 0, .int .u32 0]) := by kernel_rfl
theorem Try.pz37 : plainB (.agg #[.int .i64 0, .int .i64 0, .int .i64 0, .int .u32 0]) = true := by kernel_rfl
theorem Try.ag38 : tyAgg Try.prog 38 = some true := by kernel_rfl
theorem Try.sz38 : tySize Try.prog 38 = some 4 := by kernel_rfl
theorem Try.fd38_0 : tyField Try.prog 38 0 = some (0, 3) := by kernel_rfl
theorem Try.fd38_1 : tyField Try.prog 38 1 = some (1, 3) := by kernel_rfl
theorem Try.fd38_2 : tyField Try.prog 38 2 = some (2, 3) := by kernel_rfl
theorem Try.fd38_3 : tyField Try.prog 38 3 = some (3, 36) := by kernel_rfl
theorem Try.tp38 : tyPlace Try.prog 38 = some fun i => ([(0, 1), (1, 1), (2, 1), (3, 1)] : List (Nat × Nat))[i]? := by kernel_rfl
theorem Try.eql38 (y : Operand) (a0 b0 : Int) (a1 b1 : Int) (a2 b2 : Int) (a3 b3 : Int) : binOpA Try.prog .eql 38 y (.agg #[.int .i64 a0, .int .i64 a1, .int .i64 a2, .int .u32 a3]) (.agg #[.int .i64 b0, .int .i64 b1, .int .i64 b2, .int .u32 b3]) = some (.bool (a0 == b0 && (a1 == b1 && (a2 == b2 && (a3 == b3 && true))))) := by kernel_rfl
theorem Try.neq38 (y : Operand) (a0 b0 : Int) (a1 b1 : Int) (a2 b2 : Int) (a3 b3 : Int) : binOpA Try.prog .neq 38 y (.agg #[.int .i64 a0, .int .i64 a1, .int .i64 a2, .int .u32 a3]) (.agg #[.int .i64 b0, .int .i64 b1, .int .i64 b2, .int .u32 b3]) = some (.bool !(a0 == b0 && (a1 == b1 && (a2 == b2 && (a3 == b3 && true))))) := by kernel_rfl
theorem Try.tmk38 : tyMk Try.prog 38 = true := by kernel_rfl
theorem Try.by38 : tyBytes Try.prog 38 = some 32 := by kernel_rfl
theorem Try.zr38 : tyZero Try.prog 38 = some (.agg #[.int .i64 0, .int .i64 0, .int .i64 0, .int .u32 0]) := by kernel_rfl
theorem Try.ag39 : tyAgg Try.prog 39 = some true := by kernel_rfl
theorem Try.sz39 : tySize Try.prog 39 = some 6 := by kernel_rfl
theorem Try.fd39_0 : tyField Try.prog 39 0 = some (0, 38) := by kernel_rfl
theorem Try.fd39_1 : tyField Try.prog 39 1 = some (4, 4) := by kernel_rfl
theorem Try.fd39_2 : tyField Try.prog 39 2 = some (5, 3) := by kernel_rfl
theorem Try.tp39 : tyPlace Try.prog 39 = some fun i => ([(0, 4), (4, 1), (5, 1)] : List (Nat × Nat))[i]? := by kernel_rfl
theorem Try.tmk39 : tyMk Try.prog 39 = true := by kernel_rfl
theorem Try.by39 : tyBytes Try.prog 39 = some 48 := by kernel_rfl
theorem Try.zr39 : tyZero Try.prog 39 = some (.agg #[.int .i64 0, .int .i64 0, .int .i64 0, .int .u32 0, .bool false, .int .i64 0]) := by kernel_rfl
theorem Try.pz39 : plainB (.agg #[.int .i64 0, .int .i64 0, .int .i64 0, .int .u32 0, .bool false, .int .i64 0]) = true := by kernel_rfl
theorem Try.ag40 : tyAgg Try.prog 40 = some true := by kernel_rfl
theorem Try.sz40 : tySize Try.prog 40 = some 6 := by kernel_rfl
theorem Try.fd40_0 : tyField Try.prog 40 0 = some (0, 38) := by kernel_rfl
theorem Try.fd40_1 : tyField Try.prog 40 1 = some (4, 4) := by kernel_rfl
theorem Try.fd40_2 : tyField Try.prog 40 2 = some (5, 3) := by kernel_rfl
theorem Try.tp40 : tyPlace Try.prog 40 = some fun i => ([(0, 4), (4, 1), (5, 1)] : List (Nat × Nat))[i]? := by kernel_rfl
theorem Try.tmk40 : tyMk Try.prog 40 = true := by kernel_rfl
theorem Try.by40 : tyBytes Try.prog 40 = some 48 := by kernel_rfl
theorem Try.zr40 : tyZero Try.prog 40 = some (.agg #[.int .i64 0, .int .i64 0, .int .i64 0, .int .u32 0, .bool false, .int .i64 0]) := by kernel_rfl
theorem Try.ag49 : tyAgg Try.prog 49 = some false := by kernel_rfl
theorem Try.sz49 : tySize Try.prog 49 = some 1 := by kernel_rfl
theorem Try.tmk49 : tyMk Try.prog 49 = true := by kernel_rfl
theorem Try.by49 : tyBytes Try.prog 49 = some 8 := by kernel_rfl
theorem Try.zr49 : tyZero Try.prog 49 = some (.int .u64 0) := by kernel_rfl
theorem Try.ag52 : tyAgg Try.prog 52 = some false := by kernel_rfl
theorem Try.sz52 : tySize Try.prog 52 = some 1 := by kernel_rfl
theorem Try.tsl52 : tySli Try.prog 52 = true := by kernel_rfl
theorem Try.by52 : tyBytes Try.prog 52 = some 24 := by kernel_rfl
theorem Try.sl52 : tySlice Try.prog 52 = some 58 := by kernel_rfl
theorem Try.zr52 : tyZero Try.prog 52 = some (.slice none 0 0) := by kernel_rfl
theorem Try.ag55 : tyAgg Try.prog 55 = some false := by kernel_rfl
theorem Try.sz55 : tySize Try.prog 55 = some 1 := by kernel_rfl
theorem Try.tsl55 : tySli Try.prog 55 = true := by kernel_rfl
theorem Try.by55 : tyBytes Try.prog 55 = some 24 := by kernel_rfl
theorem Try.sl55 : tySlice Try.prog 55 = some 63 := by kernel_rfl
theorem Try.zr55 : tyZero Try.prog 55 = some (.slice none 0 0) := by kernel_rfl
theorem Try.ag56 : tyAgg Try.prog 56 = some false := by kernel_rfl
theorem Try.sz56 : tySize Try.prog 56 = some 1 := by kernel_rfl
theorem Try.tmk56 : tyMk Try.prog 56 = true := by kernel_rfl
theorem Try.by56 : tyBytes Try.prog 56 = some 2 := by kernel_rfl
theorem Try.zr56 : tyZero Try.prog 56 = some (.int .i16 0) := by kernel_rfl
theorem Try.pz56 : plainB (.int .i16 0) = true := by kernel_rfl
theorem Try.ag57 : tyAgg Try.prog 57 = some true := by kernel_rfl
theorem Try.sz57 : tySize Try.prog 57 = some 3 := by kernel_rfl
theorem Try.fd57_0 : tyField Try.prog 57 0 = some (0, 5) := by kernel_rfl
theorem Try.fd57_1 : tyField Try.prog 57 1 = some (1, 56) := by kernel_rfl
theorem Try.fd57_2 : tyField Try.prog 57 2 = some (2, 56) := by kernel_rfl
theorem Try.tp57 : tyPlace Try.prog 57 = some fun i => ([(0, 1), (1, 1), (2, 1)] : List (Nat × Nat))[i]? := by kernel_rfl
theorem Try.eql57 (y : Operand) (a0 b0 : Int) (a1 b1 : Int) (a2 b2 : Int) : binOpA Try.prog .eql 57 y (.agg #[.int .u8 a0, .int .i16 a1, .int .i16 a2]) (.agg #[.int .u8 b0, .int .i16 b1, .int .i16 b2]) = some (.bool (a0 == b0 && (a1 == b1 && (a2 == b2 && true)))) := by kernel_rfl
theorem Try.neq57 (y : Operand) (a0 b0 : Int) (a1 b1 : Int) (a2 b2 : Int) : binOpA Try.prog .neq 57 y (.agg #[.int .u8 a0, .int .i16 a1, .int .i16 a2]) (.agg #[.int .u8 b0, .int .i16 b1, .int .i16 b2]) = some (.bool !(a0 == b0 && (a1 == b1 && (a2 == b2 && true)))) := by kernel_rfl
theorem Try.tmk57 : tyMk Try.prog 57 = true := by kernel_rfl
theorem Try.by57 : tyBytes Try.prog 57 = some 6 := by kernel_rfl
theorem Try.zr57 : tyZero Try.prog 57 = some (.agg #[.int .u8 0, .int .i16 0, .int .i16 0]) := by kernel_rfl
theorem Try.pz57 : plainB (.agg #[.int .u8 0, .int .i16 0, .int .i16 0]) = true := by kernel_rfl
theorem Try.ag58 : tyAgg Try.prog 58 = some true := by kernel_rfl
theorem Try.sz58 : tySize Try.prog 58 = some 3 := by kernel_rfl
theorem Try.fd58_0 : tyField Try.prog 58 0 = some (0, 5) := by kernel_rfl
theorem Try.fd58_1 : tyField Try.prog 58 1 = some (1, 56) := by kernel_rfl
theorem Try.fd58_2 : tyField Try.prog 58 2 = some (2, 56) := by kernel_rfl
theorem Try.tp58 : tyPlace Try.prog 58 = some fun i => ([(0, 1), (1, 1), (2, 1)] : List (Nat × Nat))[i]? := by kernel_rfl
theorem Try.eql58 (y : Operand) (a0 b0 : Int) (a1 b1 : Int) (a2 b2 : Int) : binOpA Try.prog .eql 58 y (.agg #[.int .u8 a0, .int .i16 a1, .int .i16 a2]) (.agg #[.int .u8 b0, .int .i16 b1, .int .i16 b2]) = some (.bool (a0 == b0 && (a1 == b1 && (a2 == b2 && true)))) := by kernel_rfl
theorem Try.neq58 (y : Operand) (a0 b0 : Int) (a1 b1 : Int) (a2 b2 : Int) : binOpA Try.prog .neq 58 y (.agg #[.int .u8 a0, .int .i16 a1, .int .i16 a2]) (.agg #[.int .u8 b0, .int .i16 b1, .int .i16 b2]) = some (.bool !(a0 == b0 && (a1 == b1 && (a2 == b2 && true)))) := by kernel_rfl
theorem Try.tmk58 : tyMk Try.prog 58 = true := by kernel_rfl
theorem Try.by58 : tyBytes Try.prog 58 = some 6 := by kernel_rfl
theorem Try.zr58 : tyZero Try.prog 58 = some (.agg #[.int .u8 0, .int .i16 0, .int .i16 0]) := by kernel_rfl
theorem Try.ag59 : tyAgg Try.prog 59 = some false := by kernel_rfl
theorem Try.sz59 : tySize Try.prog 59 = some 1 := by kernel_rfl
theorem Try.tmk59 : tyMk Try.prog 59 = true := by kernel_rfl
theorem Try.by59 : tyBytes Try.prog 59 = some 2 := by kernel_rfl
theorem Try.zr59 : tyZero Try.prog 59 = some (.int .u16 0) := by kernel_rfl
theorem Try.pz59 : plainB (.int .u16 0) = true := by kernel_rfl
theorem Try.ag62 : tyAgg Try.prog 62 = some true := by kernel_rfl
theorem Try.sz62 : tySize Try.prog 62 = some 2 := by kernel_rfl
theorem Try.fd62_0 : tyField Try.prog 62 0 = some (0, 3) := by kernel_rfl
theorem Try.fd62_1 : tyField Try.prog 62 1 = some (1, 3) := by kernel_rfl
theorem Try.tp62 : tyPlace Try.prog 62 = some fun i => ([(0, 1), (1, 1)] : List (Nat × Nat))[i]? := by kernel_rfl
theorem Try.eql62 (y : Operand) (a0 b0 : Int) (a1 b1 : Int) : binOpA Try.prog .eql 62 y (.agg #[.int .i64 a0, .int .i64 a1]) (.agg #[.int .i64 b0, .int .i64 b1]) = some (.bool (a0 == b0 && (a1 == b1 && true))) := by kernel_rfl
theorem Try.neq62 (y : Operand) (a0 b0 : Int) (a1 b1 : Int) : binOpA Try.prog .neq 62 y (.agg #[.int .i64 a0, .int .i64 a1]) (.agg #[.int .i64 b0, .int .i64 b1]) = some (.bool !(a0 == b0 && (a1 == b1 && true))) := by kernel_rfl
theorem Try.tmk62 : tyMk Try.prog 62 = true := by kernel_rfl
theorem Try.by62 : tyBytes Try.prog 62 = some 16 := by kernel_rfl
theorem Try.zr62 : tyZero Try.prog 62 = some (.agg #[.int .i64 0, .int .i64 0]) := by kernel_rfl
theorem Try.pz62 : plainB (.agg #[.int .i64 0, .int .i64 0]) = true := by kernel_rfl
theorem Try.ag63 : tyAgg Try.prog 63 = some true := by kernel_rfl
theorem Try.sz63 : tySize Try.prog 63 = some 2 := by kernel_rfl
theorem Try.fd63_0 : tyField Try.prog 63 0 = some (0, 3) := by kernel_rfl
theorem Try.fd63_1 : tyField Try.prog 63 1 = some (1, 3) := by kernel_rfl
theorem Try.tp63 : tyPlace Try.prog 63 = some fun i => ([(0, 1), (1, 1)] : List (Nat × Nat))[i]? := by kernel_rfl
theorem Try.eql63 (y : Operand) (a0 b0 : Int) (a1 b1 : Int) : binOpA Try.prog .eql 63 y (.agg #[.int .i64 a0, .int .i64 a1]) (.agg #[.int .i64 b0, .int .i64 b1]) = some (.bool (a0 == b0 && (a1 == b1 && true))) := by kernel_rfl
theorem Try.neq63 (y : Operand) (a0 b0 : Int) (a1 b1 : Int) : binOpA Try.prog .neq 63 y (.agg #[.int .i64 a0, .int .i64 a1]) (.agg #[.int .i64 b0, .int .i64 b1]) = some (.bool !(a0 == b0 && (a1 == b1 && true))) := by kernel_rfl
theorem Try.tmk63 : tyMk Try.prog 63 = true := by kernel_rfl
theorem Try.by63 : tyBytes Try.prog 63 = some 16 := by kernel_rfl
theorem Try.zr63 : tyZero Try.prog 63 = some (.agg #[.int .i64 0, .int .i64 0]) := by kernel_rfl
theorem Try.ag67 : tyAgg Try.prog 67 = some false := by kernel_rfl
theorem Try.sz67 : tySize Try.prog 67 = some 1 := by kernel_rfl
theorem Try.tsl67 : tySli Try.prog 67 = true := by kernel_rfl
theorem Try.by67 : tyBytes Try.prog 67 = some 24 := by kernel_rfl
theorem Try.sl67 : tySlice Try.prog 67 = some 76 := by kernel_rfl
theorem Try.zr67 : tyZero Try.prog 67 = some (.slice none 0 0) := by kernel_rfl
theorem Try.ag70 : tyAgg Try.prog 70 = some false := by kernel_rfl
theorem Try.sz70 : tySize Try.prog 70 = some 1 := by kernel_rfl
theorem Try.tsl70 : tySli Try.prog 70 = true := by kernel_rfl
theorem Try.by70 : tyBytes Try.prog 70 = some 24 := by kernel_rfl
theorem Try.sl70 : tySlice Try.prog 70 = some 3 := by kernel_rfl
theorem Try.zr70 : tyZero Try.prog 70 = some (.slice none 0 0) := by kernel_rfl
theorem Try.ag71 : tyAgg Try.prog 71 = some false := by kernel_rfl
theorem Try.sz71 : tySize Try.prog 71 = some 1 := by kernel_rfl
theorem Try.tsl71 : tySli Try.prog 71 = true := by kernel_rfl
theorem Try.by71 : tyBytes Try.prog 71 = some 24 := by kernel_rfl
theorem Try.sl71 : tySlice Try.prog 71 = some 70 := by kernel_rfl
theorem Try.zr71 : tyZero Try.prog 71 = some (.slice none 0 0) := by kernel_rfl
theorem Try.ag72 : tyAgg Try.prog 72 = some true := by kernel_rfl
theorem Try.sz72 : tySize Try.prog 72 = some 4 := by kernel_rfl
theorem Try.fd72_0 : tyField Try.prog 72 0 = some (0, 70) := by kernel_rfl
theorem Try.fd72_1 : tyField Try.prog 72 1 = some (1, 71) := by kernel_rfl
theorem Try.fd72_2 : tyField Try.prog 72 2 = some (2, 71) := by kernel_rfl
theorem Try.fd72_3 : tyField Try.prog 72 3 = some (3, 3) := by kernel_rfl
theorem Try.tp72 : tyPlace Try.prog 72 = some fun i => ([(0, 1), (1, 1), (2, 1), (3, 1)] : List (Nat × Nat))[i]? := by kernel_rfl
theorem Try.tmk72 : tyMk Try.prog 72 = true := by kernel_rfl
theorem Try.by72 : tyBytes Try.prog 72 = some 80 := by kernel_rfl
theorem Try.zr72 : tyZero Try.prog 72 = some (.agg #[.slice none 0 0, .slice none 0 0, .slice none 0 0, .int .i64 0]) := by kernel_rfl
theorem Try.pz72 : plainB (.agg #[.slice none 0 0, .slice none 0 0, .slice none 0 0, .int .i64 0]) = true := by kernel_rfl
theorem Try.ag73 : tyAgg Try.prog 73 = some true := by kernel_rfl
theorem Try.sz73 : tySize Try.prog 73 = some 4 := by kernel_rfl
theorem Try.fd73_0 : tyField Try.prog 73 0 = some (0, 70) := by kernel_rfl
theorem Try.fd73_1 : tyField Try.prog 73 1 = some (1, 71) := by kernel_rfl
theorem Try.fd73_2 : tyField Try.prog 73 2 = some (2, 71) := by kernel_rfl
theorem Try.fd73_3 : tyField Try.prog 73 3 = some (3, 3) := by kernel_rfl
theorem Try.tp73 : tyPlace Try.prog 73 = some fun i => ([(0, 1), (1, 1), (2, 1), (3, 1)] : List (Nat × Nat))[i]? := by kernel_rfl
theorem Try.tmk73 : tyMk Try.prog 73 = true := by kernel_rfl
theorem Try.by73 : tyBytes Try.prog 73 = some 80 := by kernel_rfl
theorem Try.zr73 : tyZero Try.prog 73 = some (.agg #[.slice none 0 0, .slice none 0 0, .slice none 0 0, .int .i64 0]) := by kernel_rfl
theorem Try.ag75 : tyAgg Try.prog 75 = some true := by kernel_rfl
theorem Try.sz75 : tySize Try.prog 75 = some 4 := by kernel_rfl
theorem Try.fd75_0 : tyField Try.prog 75 0 = some (0, 5) := by kernel_rfl
theorem Try.fd75_1 : tyField Try.prog 75 1 = some (1, 5) := by kernel_rfl
theorem Try.fd75_2 : tyField Try.prog 75 2 = some (2, 3) := by kernel_rfl
theorem Try.fd75_3 : tyField Try.prog 75 3 = some (3, 3) := by kernel_rfl
theorem Try.tp75 : tyPlace Try.prog 75 = some fun i => ([(0, 1), (1, 1), (2, 1), (3, 1)] : List (Nat × Nat))[i]? := by kernel_rfl
theorem Try.eql75 (y : Operand) (a0 b0 : Int) (a1 b1 : Int) (a2 b2 : Int) (a3 b3 : Int) : binOpA Try.prog .eql 75 y (.agg #[.int .u8 a0, .int .u8 a1, .int .i64 a2, .int .i64 a3]) (.agg #[.int .u8 b0, .int .u8 b1, .int .i64 b2, .int .i64 b3]) = some (.bool (a0 == b0 && (a1 == b1 && (a2 == b2 && (a3 == b3 && true))))) := by kernel_rfl
theorem Try.neq75 (y : Operand) (a0 b0 : Int) (a1 b1 : Int) (a2 b2 : Int) (a3 b3 : Int) : binOpA Try.prog .neq 75 y (.agg #[.int .u8 a0, .int .u8 a1, .int .i64 a2, .int .i64 a3]) (.agg #[.int .u8 b0, .int .u8 b1, .int .i64 b2, .int .i64 b3]) = some (.bool !(a0 == b0 && (a1 == b1 && (a2 == b2 && (a3 == b3 && true))))) := by kernel_rfl
theorem Try.tmk75 : tyMk Try.prog 75 = true := by kernel_rfl
theorem Try.by75 : tyBytes Try.prog 75 = some 24 := by kernel_rfl
theorem Try.zr75 : tyZero Try.prog 75 = some (.agg #[.int .u8 0, .int .u8 0, .int .i64 0, .int .i64 0]) := by kernel_rfl
theorem Try.pz75 : plainB (.agg #[.int .u8 0, .int .u8 0, .int .i64 0, .int .i64 0]) = true := by kernel_rfl
theorem Try.ag76 : tyAgg Try.prog 76 = some true := by kernel_rfl
theorem Try.sz76 : tySize Try.prog 76 = some 4 := by kernel_rfl
theorem Try.fd76_0 : tyField Try.prog 76 0 = some (0, 5) := by kernel_rfl
theorem Try.fd76_1 : tyField Try.prog 76 1 = some (1, 5) := by kernel_rfl
theorem Try.fd76_2 : tyField Try.prog 76 2 = some (2, 3) := by kernel_rfl
theorem Try.fd76_3 : tyField Try.prog 76 3 = some (3, 3) := by kernel_rfl
theorem Try.tp76 : tyPlace Try.prog 76 = some fun i => ([(0, 1), (1, 1), (2, 1), (3, 1)] : List (Nat × Nat))[i]? := by kernel_rfl
theorem Try.eql76 (y : Operand) (a0 b0 : Int) (a1 b1 : Int) (a2 b2 : Int) (a3 b3 : Int) : binOpA Try.prog .eql 76 y (.agg #[.int .u8 a0, .int .u8 a1, .int .i64 a2, .int .i64 a3]) (.agg #[.int .u8 b0, .int .u8 b1, .int .i64 b2, .int .i64 b3]) = some (.bool (a0 == b0 && (a1 == b1 && (a2 == b2 && (a3 == b3 && true))))) := by kernel_rfl
theorem Try.neq76 (y : Operand) (a0 b0 : Int) (a1 b1 : Int) (a2 b2 : Int) (a3 b3 : Int) : binOpA Try.prog .neq 76 y (.agg #[.int .u8 a0, .int .u8 a1, .int .i64 a2, .int .i64 a3]) (.agg #[.int .u8 b0, .int .u8 b1, .int .i64 b2, .int .i64 b3]) = some (.bool !(a0 == b0 && (a1 == b1 && (a2 == b2 && (a3 == b3 && true))))) := by kernel_rfl
theorem Try.tmk76 : tyMk Try.prog 76 = true := by kernel_rfl
theorem Try.by76 : tyBytes Try.prog 76 = some 24 := by kernel_rfl
theorem Try.zr76 : tyZero Try.prog 76 = some (.agg #[.int .u8 0, .int .u8 0, .int .i64 0, .int .i64 0]) := by kernel_rfl
theorem Try.ag77 : tyAgg Try.prog 77 = some true := by kernel_rfl
theorem Try.sz77 : tySize Try.prog 77 = some 3 := by kernel_rfl
theorem Try.fd77_0 : tyField Try.prog 77 0 = some (0, 3) := by kernel_rfl
theorem Try.fd77_1 : tyField Try.prog 77 1 = some (1, 4) := by kernel_rfl
theorem Try.fd77_2 : tyField Try.prog 77 2 = some (2, 36) := by kernel_rfl
theorem Try.tp77 : tyPlace Try.prog 77 = some fun i => ([(0, 1), (1, 1), (2, 1)] : List (Nat × Nat))[i]? := by kernel_rfl
theorem Try.eql77 (y : Operand) (a0 b0 : Int) (a1 b1 : Bool) (a2 b2 : Int) : binOpA Try.prog .eql 77 y (.agg #[.int .i64 a0, .bool a1, .int .u32 a2]) (.agg #[.int .i64 b0, .bool b1, .int .u32 b2]) = some (.bool (a0 == b0 && (a1 == b1 && (a2 == b2 && true)))) := by kernel_rfl
theorem Try.neq77 (y : Operand) (a0 b0 : Int) (a1 b1 : Bool) (a2 b2 : Int) : binOpA Try.prog .neq 77 y (.agg #[.int .i64 a0, .bool a1, .int .u32 a2]) (.agg #[.int .i64 b0, .bool b1, .int .u32 b2]) = some (.bool !(a0 == b0 && (a1 == b1 && (a2 == b2 && true)))) := by kernel_rfl
theorem Try.tmk77 : tyMk Try.prog 77 = true := by kernel_rfl
theorem Try.by77 : tyBytes Try.prog 77 = some 16 := by kernel_rfl
theorem Try.zr77 : tyZero Try.prog 77 = some (.agg #[.int .i64 0, .bool false, .int .u32 0]) := by kernel_rfl
theorem Try.pz77 : plainB (.agg #[.int .i64 0, .bool false, .int .u32 0]) = true := by kernel_rfl
theorem Try.ag78 : tyAgg Try.prog 78 = some true := by kernel_rfl
theorem Try.sz78 : tySize Try.prog 78 = some 3 := by kernel_rfl
theorem Try.fd78_0 : tyField Try.prog 78 0 = some (0, 3) := by kernel_rfl
theorem Try.fd78_1 : tyField Try.prog 78 1 = some (1, 4) := by kernel_rfl
theorem Try.fd78_2 : tyField Try.prog 78 2 = some (2, 36) := by kernel_rfl
theorem Try.tp78 : tyPlace Try.prog 78 = some fun i => ([(0, 1), (1, 1), (2, 1)] : List (Nat × Nat))[i]? := by kernel_rfl
theorem Try.eql78 (y : Operand) (a0 b0 : Int) (a1 b1 : Bool) (a2 b2 : Int) : binOpA Try.prog .eql 78 y (.agg #[.int .i64 a0, .bool a1, .int .u32 a2]) (.agg #[.int .i64 b0, .bool b1, .int .u32 b2]) = some (.bool (a0 == b0 && (a1 == b1 && (a2 == b2 && true)))) := by kernel_rfl
theorem Try.neq78 (y : Operand) (a0 b0 : Int) (a1 b1 : Bool) (a2 b2 : Int) : binOpA Try.prog .neq 78 y (.agg #[.int .i64 a0, .bool a1, .int .u32 a2]) (.agg #[.int .i64 b0, .bool b1, .int .u32 b2]) = some (.bool !(a0 == b0 && (a1 == b1 && (a2 == b2 && true)))) := by kernel_rfl
theorem Try.tmk78 : tyMk Try.prog 78 = true := by kernel_rfl
theorem Try.by78 : tyBytes Try.prog 78 = some 16 := by kernel_rfl
theorem Try.zr78 : tyZero Try.prog 78 = some (.agg #[.int .i64 0, .bool false, .int .u32 0]) := by kernel_rfl
theorem Try.ag93 : tyAgg Try.prog 93 = some true := by kernel_rfl
theorem Try.sz93 : tySize Try.prog 93 = some 4 := by kernel_rfl
theorem Try.fd93_0 : tyField Try.prog 93 0 = some (0, 3) := by kernel_rfl
theorem Try.fd93_1 : tyField Try.prog 93 1 = some (1, 3) := by kernel_rfl
theorem Try.fd93_2 : tyField Try.prog 93 2 = some (2, 3) := by kernel_rfl
theorem Try.fd93_3 : tyField Try.prog 93 3 = some (3, 3) := by kernel_rfl
theorem Try.tp93 : tyPlace Try.prog 93 = some fun i => ([(0, 1), (1, 1), (2, 1), (3, 1)] : List (Nat × Nat))[i]? := by kernel_rfl
theorem Try.eql93 (y : Operand) (a0 b0 : Int) (a1 b1 : Int) (a2 b2 : Int) (a3 b3 : Int) : binOpA Try.prog .eql 93 y (.agg #[.int .i64 a0, .int .i64 a1, .int .i64 a2, .int .i64 a3]) (.agg #[.int .i64 b0, .int .i64 b1, .int .i64 b2, .int .i64 b3]) = some (.bool (a0 == b0 && (a1 == b1 && (a2 == b2 && (a3 == b3 && true))))) := by kernel_rfl
theorem Try.neq93 (y : Operand) (a0 b0 : Int) (a1 b1 : Int) (a2 b2 : Int) (a3 b3 : Int) : binOpA Try.prog .neq 93 y (.agg #[.int .i64 a0, .int .i64 a1, .int .i64 a2, .int .i64 a3]) (.agg #[.int .i64 b0, .int .i64 b1, .int .i64 b2, .int .i64 b3]) = some (.bool !(a0 == b0 && (a1 == b1 && (a2 == b2 && (a3 == b3 && true))))) := by kernel_rfl
theorem Try.tmk93 : tyMk Try.prog 93 = true := by kernel_rfl
theorem Try.by93 : tyBytes Try.prog 93 = some 32 := by kernel_rfl
theorem Try.zr93 : tyZero Try.prog 93 = some (.agg #[.int .i64 0, .int .i64 0, .int .i64 0, .int .i64 0]) := by kernel_rfl
theorem Try.pz93 : plainB (.agg #[.int .i64 0, .int .i64 0, .int .i64 0, .int .i64 0]) = true := by kernel_rfl
theorem Try.ag94 : tyAgg Try.prog 94 = some true := by kernel_rfl
theorem Try.sz94 : tySize Try.prog 94 = some 4 := by kernel_rfl
theorem Try.fd94_0 : tyField Try.prog 94 0 = some (0, 3) := by kernel_rfl
theorem Try.fd94_1 : tyField Try.prog 94 1 = some (1, 3) := by kernel_rfl
theorem Try.fd94_2 : tyField Try.prog 94 2 = some (2, 3) := by kernel_rfl
theorem Try.fd94_3 : tyField Try.prog 94 3 = some (3, 3) := by kernel_rfl
theorem Try.tp94 : tyPlace Try.prog 94 = some fun i => ([(0, 1), (1, 1), (2, 1), (3, 1)] : List (Nat × Nat))[i]? := by kernel_rfl
theorem Try.eql94 (y : Operand) (a0 b0 : Int) (a1 b1 : Int) (a2 b2 : Int) (a3 b3 : Int) : binOpA Try.prog .eql 94 y (.agg #[.int .i64 a0, .int .i64 a1, .int .i64 a2, .int .i64 a3]) (.agg #[.int .i64 b0, .int .i64 b1, .int .i64 b2, .int .i64 b3]) = some (.bool (a0 == b0 && (a1 == b1 && (a2 == b2 && (a3 == b3 && true))))) := by kernel_rfl
theorem Try.neq94 (y : Operand) (a0 b0 : Int) (a1 b1 : Int) (a2 b2 : Int) (a3 b3 : Int) : binOpA Try.prog .neq 94 y (.agg #[.int .i64 a0, .int .i64 a1, .int .i64 a2, .int .i64 a3]) (.agg #[.int .i64 b0, .int .i64 b1, .int .i64 b2, .int .i64 b3]) = some (.bool !(a0 == b0 && (a1 == b1 && (a2 == b2 && (a3 == b3 && true))))) := by kernel_rfl
theorem Try.tmk94 : tyMk Try.prog 94 = true := by kernel_rfl
theorem Try.by94 : tyBytes Try.prog 94 = some 32 := by kernel_rfl
theorem Try.zr94 : tyZero Try.prog 94 = some (.agg #[.int .i64 0, .int .i64 0, .int .i64 0, .int .i64 0]) := by kernel_rfl
theorem Try.ag104 : tyAgg Try.prog 104 = some false := by kernel_rfl
theorem Try.sz104 : tySize Try.prog 104 = some 1 := by kernel_rfl
theorem Try.tsl104 : tySli Try.prog 104 = true := by kernel_rfl
theorem Try.by104 : tyBytes Try.prog 104 = some 24 := by kernel_rfl
theorem Try.sl104 : tySlice Try.prog 104 = some 56 := by kernel_rfl
theorem Try.zr104 : tyZero Try.prog 104 = some (.slice none 0 0) := by kernel_rfl
theorem Try.ag105 : tyAgg Try.prog 105 = some true := by kernel_rfl
theorem Try.sz105 : tySize Try.prog 105 = some 3 := by kernel_rfl
theorem Try.fd105_0 : tyField Try.prog 105 0 = some (0, 3) := by kernel_rfl
theorem Try.fd105_1 : tyField Try.prog 105 1 = some (1, 3) := by kernel_rfl
theorem Try.fd105_2 : tyField Try.prog 105 2 = some (2, 3) := by kernel_rfl
theorem Try.tp105 : tyPlace Try.prog 105 = some fun i => ([(0, 1), (1, 1), (2, 1)] : List (Nat × Nat))[i]? := by kernel_rfl
theorem Try.eql105 (y : Operand) (a0 b0 : Int) (a1 b1 : Int) (a2 b2 : Int) : binOpA Try.prog .eql 105 y (.agg #[.int .i64 a0, .int .i64 a1, .int .i64 a2]) (.agg #[.int .i64 b0, .int .i64 b1, .int .i64 b2]) = some (.bool (a0 == b0 && (a1 == b1 && (a2 == b2 && true)))) := by kernel_rfl
theorem Try.neq105 (y : Operand) (a0 b0 : Int) (a1 b1 : Int) (a2 b2 : Int) : binOpA Try.prog .neq 105 y (.agg #[.int .i64 a0, .int .i64 a1, .int .i64 a2]) (.agg #[.int .i64 b0, .int .i64 b1, .int .i64 b2]) = some (.bool !(a0 == b0 && (a1 == b1 && (a2 == b2 && true)))) := by kernel_rfl
theorem Try.tmk105 : tyMk Try.prog 105 = true := by kernel_rfl
theorem Try.by105 : tyBytes Try.prog 105 = some 24 := by kernel_rfl
theorem Try.zr105 : tyZero Try.prog 105 = some (.agg #[.int .i64 0, .int .i64 0, .int .i64 0]) := by kernel_rfl
theorem Try.pz105 : plainB (.agg #[.int .i64 0, .int .i64 0, .int .i64 0]) = true := by kernel_rfl
theorem Try.ag106 : tyAgg Try.prog 106 = some true := by kernel_rfl
theorem Try.sz106 : tySize Try.prog 106 = some 3 := by kernel_rfl
theorem Try.fd106_0 : tyField Try.prog 106 0 = some (0, 3) := by kernel_rfl
theorem Try.fd106_1 : tyField Try.prog 106 1 = some (1, 3) := by kernel_rfl
theorem Try.fd106_2 : tyField Try.prog 106 2 = some (2, 3) := by kernel_rfl
theorem Try.tp106 : tyPlace Try.prog 106 = some fun i => ([(0, 1), (1, 1), (2, 1)] : List (Nat × Nat))[i]? := by kernel_rfl
theorem Try.eql106 (y : Operand) (a0 b0 : Int) (a1 b1 : Int) (a2 b2 : Int) : binOpA Try.prog .eql 106 y (.agg #[.int .i64 a0, .int .i64 a1, .int .i64 a2]) (.agg #[.int .i64 b0, .int .i64 b1, .int .i64 b2]) = some (.bool (a0 == b0 && (a1 == b1 && (a2 == b2 && true)))) := by kernel_rfl
theorem Try.neq106 (y : Operand) (a0 b0 : Int) (a1 b1 : Int) (a2 b2 : Int) : binOpA Try.prog .neq 106 y (.agg #[.int .i64 a0, .int .i64 a1, .int .i64 a2]) (.agg #[.int .i64 b0, .int .i64 b1, .int .i64 b2]) = some (.bool !(a0 == b0 && (a1 == b1 && (a2 == b2 && true)))) := by kernel_rfl
theorem Try.tmk106 : tyMk Try.prog 106 = true := by kernel_rfl
theorem Try.by106 : tyBytes Try.prog 106 = some 24 := by kernel_rfl
theorem Try.zr106 : tyZero Try.prog 106 = some (.agg #[.int .i64 0, .int .i64 0, .int .i64 0]) := by kernel_rfl
theorem Try.ag109 : tyAgg Try.prog 109 = some true := by kernel_rfl
theorem Try.sz109 : tySize Try.prog 109 = some 5 := by kernel_rfl
theorem Try.fd109_0 : tyField Try.prog 109 0 = some (0, 49) := by kernel_rfl
theorem Try.fd109_1 : tyField Try.prog 109 1 = some (1, 49) := by kernel_rfl
theorem Try.fd109_2 : tyField Try.prog 109 2 = some (2, 49) := by kernel_rfl
theorem Try.fd109_3 : tyField Try.prog 109 3 = some (3, 49) := by kernel_rfl
theorem Try.fd109_4 : tyField Try.prog 109 4 = some (4, 49) := by kernel_rfl
theorem Try.tp109 : tyPlace Try.prog 109 = some fun i => ([(0, 1), (1, 1), (2, 1), (3, 1), (4, 1)] : List (Nat × Nat))[i]? := by kernel_rfl
theorem Try.eql109 (y : Operand) (a0 b0 : Int) (a1 b1 : Int) (a2 b2 : Int) (a3 b3 : Int) (a4 b4 : Int) : binOpA Try.prog .eql 109 y (.agg #[.int .u64 a0, .int .u64 a1, .int .u64 a2, .int .u64 a3, .int .u64 a4]) (.agg #[.int .u64 b0, .int .u64 b1, .int .u64 b2, .int .u64 b3, .int .u64 b4]) = some (.bool (a0 == b0 && (a1 == b1 && (a2 == b2 && (a3 == b3 && (a4 == b4 && true)))))) := by kernel_rfl
theorem Try.neq109 (y : Operand) (a0 b0 : Int) (a1 b1 : Int) (a2 b2 : Int) (a3 b3 : Int) (a4 b4 : Int) : binOpA Try.prog .neq 109 y (.agg #[.int .u64 a0, .int .u64 a1, .int .u64 a2, .int .u64 a3, .int .u64 a4]) (.agg #[.int .u64 b0, .int .u64 b1, .int .u64 b2, .int .u64 b3, .int .u64 b4]) = some (.bool !(a0 == b0 && (a1 == b1 && (a2 == b2 && (a3 == b3 && (a4 == b4 && true)))))) := by kernel_rfl
theorem Try.tmk109 : tyMk Try.prog 109 = true := by kernel_rfl
theorem Try.by109 : tyBytes Try.prog 109 = some 40 := by kernel_rfl
theorem Try.zr109 : tyZero Try.prog 109 = some (.agg #[.int .u64 0, .int .u64 0, .int .u64 0, .int .u64 0, .int .u64 0]) := by kernel_rfl
theorem Try.pz109 : plainB (.agg #[.int .u64 0, .int .u64 0, .int .u64 0, .int .u64 0, .int .u64 0]) = true := by kernel_rfl
theorem Try.ag110 : tyAgg Try.prog 110 = some true := by kernel_rfl
theorem Try.sz110 : tySize Try.prog 110 = some 5 := by kernel_rfl
theorem Try.fd110_0 : tyField Try.prog 110 0 = some (0, 49) := by kernel_rfl
theorem Try.fd110_1 : tyField Try.prog 110 1 = some (1, 49) := by kernel_rfl
theorem Try.fd110_2 : tyField Try.prog 110 2 = some (2, 49) := by kernel_rfl
theorem Try.fd110_3 : tyField Try.prog 110 3 = some (3, 49) := by kernel_rfl
theorem Try.fd110_4 : tyField Try.prog 110 4 = some (4, 49) := by kernel_rfl
theorem Try.tp110 : tyPlace Try.prog 110 = some fun i => ([(0, 1), (1, 1), (2, 1), (3, 1), (4, 1)] : List (Nat × Nat))[i]? := by kernel_rfl
theorem Try.eql110 (y : Operand) (a0 b0 : Int) (a1 b1 : Int) (a2 b2 : Int) (a3 b3 : Int) (a4 b4 : Int) : binOpA Try.prog .eql 110 y (.agg #[.int .u64 a0, .int .u64 a1, .int .u64 a2, .int .u64 a3, .int .u64 a4]) (.agg #[.int .u64 b0, .int .u64 b1, .int .u64 b2, .int .u64 b3, .int .u64 b4]) = some (.bool (a0 == b0 && (a1 == b1 && (a2 == b2 && (a3 == b3 && (a4 == b4 && true)))))) := by kernel_rfl
theorem Try.neq110 (y : Operand) (a0 b0 : Int) (a1 b1 : Int) (a2 b2 : Int) (a3 b3 : Int) (a4 b4 : Int) : binOpA Try.prog .neq 110 y (.agg #[.int .u64 a0, .int .u64 a1, .int .u64 a2, .int .u64 a3, .int .u64 a4]) (.agg #[.int .u64 b0, .int .u64 b1, .int .u64 b2, .int .u64 b3, .int .u64 b4]) = some (.bool !(a0 == b0 && (a1 == b1 && (a2 == b2 && (a3 == b3 && (a4 == b4 && true)))))) := by kernel_rfl
theorem Try.tmk110 : tyMk Try.prog 110 = true := by kernel_rfl
theorem Try.by110 : tyBytes Try.prog 110 = some 40 := by kernel_rfl
theorem Try.zr110 : tyZero Try.prog 110 = some (.agg #[.int .u64 0, .int .u64 0, .int .u64 0, .int .u64 0, .int .u64 0]) := by kernel_rfl
theorem Try.ag111 : tyAgg Try.prog 111 = some false := by kernel_rfl
theorem Try.sz111 : tySize Try.prog 111 = some 1 := by kernel_rfl
theorem Try.tmk111 : tyMk Try.prog 111 = true := by kernel_rfl
theorem Try.by111 : tyBytes Try.prog 111 = some 8 := by kernel_rfl
theorem Try.zr111 : tyZero Try.prog 111 = some (.int .i64 0) := by kernel_rfl
theorem Try.ag112 : tyAgg Try.prog 112 = some true := by kernel_rfl
theorem Try.sz112 : tySize Try.prog 112 = some 11 := by kernel_rfl
theorem Try.fd112_0 : tyField Try.prog 112 0 = some (0, 3) := by kernel_rfl
theorem Try.fd112_1 : tyField Try.prog 112 1 = some (1, 3) := by kernel_rfl
theorem Try.fd112_2 : tyField Try.prog 112 2 = some (2, 5) := by kernel_rfl
theorem Try.fd112_3 : tyField Try.prog 112 3 = some (3, 110) := by kernel_rfl
theorem Try.fd112_4 : tyField Try.prog 112 4 = some (8, 111) := by kernel_rfl
theorem Try.fd112_5 : tyField Try.prog 112 5 = some (9, 3) := by kernel_rfl
theorem Try.fd112_6 : tyField Try.prog 112 6 = some (10, 3) := by kernel_rfl
theorem Try.tp112 : tyPlace Try.prog 112 = some fun i => ([(0, 1), (1, 1), (2, 1), (3, 5), (8, 1), (9, 1), (10, 1)] : List (Nat × Nat))[i]? := by kernel_rfl
theorem Try.tmk112 : tyMk Try.prog 112 = true := by kernel_rfl
theorem Try.by112 : tyBytes Try.prog 112 = some 88 := by kernel_rfl
theorem Try.zr112 : tyZero Try.prog 112 = some (.agg #[.int .i64 0, .int .i64 0, .int .u8 0, .int .u64 0, .int .u64 0, .int .u64 0, .int .u64 0, .int .u64 0, .int .i64 0, .int .i64 0, .int .i64 0]) := by kernel_rfl
theorem Try.pz112 : plainB (.agg #[.int .i64 0, .int .i64 0, .int .u8 0, .int .u64 0, .int .u64 0, .int .u64 0, .int .u64 0, .int .u64 0, .int .i64 0, .int .i64 0, .int .i64 0]) = true := by kernel_rfl
theorem Try.ag113 : tyAgg Try.prog 113 = some true := by kernel_rfl
theorem Try.sz113 : tySize Try.prog 113 = some 11 := by kernel_rfl
theorem Try.fd113_0 : tyField Try.prog 113 0 = some (0, 3) := by kernel_rfl
theorem Try.fd113_1 : tyField Try.prog 113 1 = some (1, 3) := by kernel_rfl
theorem Try.fd113_2 : tyField Try.prog 113 2 = some (2, 5) := by kernel_rfl
theorem Try.fd113_3 : tyField Try.prog 113 3 = some (3, 110) := by kernel_rfl
theorem Try.fd113_4 : tyField Try.prog 113 4 = some (8, 111) := by kernel_rfl
theorem Try.fd113_5 : tyField Try.prog 113 5 = some (9, 3) := by kernel_rfl
theorem Try.fd113_6 : tyField Try.prog 113 6 = some (10, 3) := by kernel_rfl
theorem Try.tp113 : tyPlace Try.prog 113 = some fun i => ([(0, 1), (1, 1), (2, 1), (3, 5), (8, 1), (9, 1), (10, 1)] : List (Nat × Nat))[i]? := by kernel_rfl
theorem Try.tmk113 : tyMk Try.prog 113 = true := by kernel_rfl
theorem Try.by113 : tyBytes Try.prog 113 = some 88 := by kernel_rfl
theorem Try.zr113 : tyZero Try.prog 113 = some (.agg #[.int .i64 0, .int .i64 0, .int .u8 0, .int .u64 0, .int .u64 0, .int .u64 0, .int .u64 0, .int .u64 0, .int .i64 0, .int .i64 0, .int .i64 0]) := by kernel_rfl
theorem Try.ag124 : tyAgg Try.prog 124 = some true := by kernel_rfl
theorem Try.sz124 : tySize Try.prog 124 = some 4 := by kernel_rfl
theorem Try.fd124_0 : tyField Try.prog 124 0 = some (0, 5) := by kernel_rfl
theorem Try.fd124_1 : tyField Try.prog 124 1 = some (1, 3) := by kernel_rfl
theorem Try.fd124_2 : tyField Try.prog 124 2 = some (2, 49) := by kernel_rfl
theorem Try.fd124_3 : tyField Try.prog 124 3 = some (3, 49) := by kernel_rfl
theorem Try.tp124 : tyPlace Try.prog 124 = some fun i => ([(0, 1), (1, 1), (2, 1), (3, 1)] : List (Nat × Nat))[i]? := by kernel_rfl
theorem Try.eql124 (y : Operand) (a0 b0 : Int) (a1 b1 : Int) (a2 b2 : Int) (a3 b3 : Int) : binOpA Try.prog .eql 124 y (.agg #[.int .u8 a0, .int .i64 a1, .int .u64 a2, .int .u64 a3]) (.agg #[.int .u8 b0, .int .i64 b1, .int .u64 b2, .int .u64 b3]) = some (.bool (a0 == b0 && (a1 == b1 && (a2 == b2 && (a3 == b3 && true))))) := by kernel_rfl
theorem Try.neq124 (y : Operand) (a0 b0 : Int) (a1 b1 : Int) (a2 b2 : Int) (a3 b3 : Int) : binOpA Try.prog .neq 124 y (.agg #[.int .u8 a0, .int .i64 a1, .int .u64 a2, .int .u64 a3]) (.agg #[.int .u8 b0, .int .i64 b1, .int .u64 b2, .int .u64 b3]) = some (.bool !(a0 == b0 && (a1 == b1 && (a2 == b2 && (a3 == b3 && true))))) := by kernel_rfl
theorem Try.tmk124 : tyMk Try.prog 124 = true := by kernel_rfl
theorem Try.by124 : tyBytes Try.prog 124 = some 32 := by kernel_rfl
theorem Try.zr124 : tyZero Try.prog 124 = some (.agg #[.int .u8 0, .int .i64 0, .int .u64 0, .int .u64 0]) := by kernel_rfl
theorem Try.pz124 : plainB (.agg #[.int .u8 0, .int .i64 0, .int .u64 0, .int .u64 0]) = true := by kernel_rfl
theorem Try.ag125 : tyAgg Try.prog 125 = some true := by kernel_rfl
theorem Try.sz125 : tySize Try.prog 125 = some 4 := by kernel_rfl
theorem Try.fd125_0 : tyField Try.prog 125 0 = some (0, 5) := by kernel_rfl
theorem Try.fd125_1 : tyField Try.prog 125 1 = some (1, 3) := by kernel_rfl
theorem Try.fd125_2 : tyField Try.prog 125 2 = some (2, 49) := by kernel_rfl
theorem Try.fd125_3 : tyField Try.prog 125 3 = some (3, 49) := by kernel_rfl
theorem Try.tp125 : tyPlace Try.prog 125 = some fun i => ([(0, 1), (1, 1), (2, 1), (3, 1)] : List (Nat × Nat))[i]? := by kernel_rfl
theorem Try.eql125 (y : Operand) (a0 b0 : Int) (a1 b1 : Int) (a2 b2 : Int) (a3 b3 : Int) : binOpA Try.prog .eql 125 y (.agg #[.int .u8 a0, .int .i64 a1, .int .u64 a2, .int .u64 a3]) (.agg #[.int .u8 b0, .int .i64 b1, .int .u64 b2, .int .u64 b3]) = some (.bool (a0 == b0 && (a1 == b1 && (a2 == b2 && (a3 == b3 && true))))) := by kernel_rfl
theorem Try.neq125 (y : Operand) (a0 b0 : Int) (a1 b1 : Int) (a2 b2 : Int) (a3 b3 : Int) : binOpA Try.prog .neq 125 y (.agg #[.int .u8 a0, .int .i64 a1, .int .u64 a2, .int .u64 a3]) (.agg #[.int .u8 b0, .int .i64 b1, .int .u64 b2, .int .u64 b3]) = some (.bool !(a0 == b0 && (a1 == b1 && (a2 == b2 && (a3 == b3 && true))))) := by kernel_rfl
theorem Try.tmk125 : tyMk Try.prog 125 = true := by kernel_rfl
theorem Try.by125 : tyBytes Try.prog 125 = some 32 := by kernel_rfl
theorem Try.zr125 : tyZero Try.prog 125 = some (.agg #[.int .u8 0, .int .i64 0, .int .u64 0, .int .u64 0]) := by kernel_rfl
theorem Try.ag130 : tyAgg Try.prog 130 = some true := by kernel_rfl
theorem Try.sz130 : tySize Try.prog 130 = some 19 := by kernel_rfl
theorem Try.tp130 : tyPlace Try.prog 130 = some fun i => some (i * 1, 1) := by kernel_rfl
theorem Try.by130 : tyBytes Try.prog 130 = some 152 := by kernel_rfl
theorem Try.ar130 : tyArray Try.prog 130 = some (19, 3) := by kernel_rfl
theorem Try.zr130 : tyZero Try.prog 130 = some (.agg #[.int .i64 0, .int .i64 0, .int .i64 0, .int .i64 0, .int .i64 0, .int .i64 0, .int .i64 0, .int .i64 0, .int .i64 0, .int .i64 0, .int .i64 0, .int .i64 0, .int .i64 0, .int .i64 0, .int .i64 0, .int .i64 0, .int .i64 0, .int .i64 0, .int .i64 0]) := by kernel_rfl
theorem Try.pz130 : plainB (.agg #[.int .i64 0, .int .i64 0, .int .i64 0, .int .i64 0, .int .i64 0, .int .i64 0, .int .i64 0, .int .i64 0, .int .i64 0, .int .i64 0, .int .i64 0, .int .i64 0, .int .i64 0, .int .i64 0, .int .i64 0, .int .i64 0, .int .i64 0, .int .i64 0, .int .i64 0]) = true := by kernel_rfl
theorem Try.ag133 : tyAgg Try.prog 133 = some false := by kernel_rfl
theorem Try.sz133 : tySize Try.prog 133 = some 1 := by kernel_rfl
theorem Try.tmk133 : tyMk Try.prog 133 = true := by kernel_rfl
theorem Try.tptr133 : tyPtr Try.prog 133 = true := by kernel_rfl
theorem Try.by133 : tyBytes Try.prog 133 = some 8 := by kernel_rfl
theorem Try.zr133 : tyZero Try.prog 133 = some (.pointer none) := by kernel_rfl
theorem Try.ag134 : tyAgg Try.prog 134 = some true := by kernel_rfl
theorem Try.sz134 : tySize Try.prog 134 = some 2 := by kernel_rfl
theorem Try.fd134_0 : tyField Try.prog 134 0 = some (0, 29) := by kernel_rfl
theorem Try.fd134_1 : tyField Try.prog 134 1 = some (1, 3) := by kernel_rfl
theorem Try.tp134 : tyPlace Try.prog 134 = some fun i => ([(0, 1), (1, 1)] : List (Nat × Nat))[i]? := by kernel_rfl
theorem Try.tmk134 : tyMk Try.prog 134 = true := by kernel_rfl
theorem Try.by134 : tyBytes Try.prog 134 = some 16 := by kernel_rfl
theorem Try.zr134 : tyZero Try.prog 134 = some (.agg #[.pointer none, .int .i64 0]) := by kernel_rfl
theorem Try.pz134 : plainB (.agg #[.pointer none, .int .i64 0]) = true := by kernel_rfl
theorem Try.ag135 : tyAgg Try.prog 135 = some true := by kernel_rfl
theorem Try.sz135 : tySize Try.prog 135 = some 2 := by kernel_rfl
theorem Try.fd135_0 : tyField Try.prog 135 0 = some (0, 29) := by kernel_rfl
theorem Try.fd135_1 : tyField Try.prog 135 1 = some (1, 3) := by kernel_rfl
theorem Try.tp135 : tyPlace Try.prog 135 = some fun i => ([(0, 1), (1, 1)] : List (Nat × Nat))[i]? := by kernel_rfl
theorem Try.tmk135 : tyMk Try.prog 135 = true := by kernel_rfl
theorem Try.by135 : tyBytes Try.prog 135 = some 16 := by kernel_rfl
theorem Try.zr135 : tyZero Try.prog 135 = some (.agg #[.pointer none, .int .i64 0]) := by kernel_rfl
theorem Try.ag136 : tyAgg Try.prog 136 = some false := by kernel_rfl
theorem Try.sz136 : tySize Try.prog 136 = some 1 := by kernel_rfl
theorem Try.tmk136 : tyMk Try.prog 136 = true := by kernel_rfl
theorem Try.tptr136 : tyPtr Try.prog 136 = true := by kernel_rfl
theorem Try.by136 : tyBytes Try.prog 136 = some 8 := by kernel_rfl
theorem Try.zr136 : tyZero Try.prog 136 = some (.pointer none) := by kernel_rfl
theorem Try.ag137 : tyAgg Try.prog 137 = some true := by kernel_rfl
theorem Try.sz137 : tySize Try.prog 137 = some 3 := by kernel_rfl
theorem Try.fd137_0 : tyField Try.prog 137 0 = some (0, 133) := by kernel_rfl
theorem Try.fd137_1 : tyField Try.prog 137 1 = some (1, 3) := by kernel_rfl
theorem Try.fd137_2 : tyField Try.prog 137 2 = some (2, 136) := by kernel_rfl
theorem Try.tp137 : tyPlace Try.prog 137 = some fun i => ([(0, 1), (1, 1), (2, 1)] : List (Nat × Nat))[i]? := by kernel_rfl
theorem Try.tmk137 : tyMk Try.prog 137 = true := by kernel_rfl
theorem Try.by137 : tyBytes Try.prog 137 = some 24 := by kernel_rfl
theorem Try.zr137 : tyZero Try.prog 137 = some (.agg #[.pointer none, .int .i64 0, .pointer none]) := by kernel_rfl
theorem Try.pz137 : plainB (.agg #[.pointer none, .int .i64 0, .pointer none]) = true := by kernel_rfl
theorem Try.ag138 : tyAgg Try.prog 138 = some true := by kernel_rfl
theorem Try.sz138 : tySize Try.prog 138 = some 3 := by kernel_rfl
theorem Try.fd138_0 : tyField Try.prog 138 0 = some (0, 133) := by kernel_rfl
theorem Try.fd138_1 : tyField Try.prog 138 1 = some (1, 3) := by kernel_rfl
theorem Try.fd138_2 : tyField Try.prog 138 2 = some (2, 136) := by kernel_rfl
theorem Try.tp138 : tyPlace Try.prog 138 = some fun i => ([(0, 1), (1, 1), (2, 1)] : List (Nat × Nat))[i]? := by kernel_rfl
theorem Try.tmk138 : tyMk Try.prog 138 = true := by kernel_rfl
theorem Try.by138 : tyBytes Try.prog 138 = some 24 := by kernel_rfl
theorem Try.zr138 : tyZero Try.prog 138 = some (.agg #[.pointer none, .int .i64 0, .pointer none]) := by kernel_rfl
theorem Try.ag139 : tyAgg Try.prog 139 = some false := by kernel_rfl
theorem Try.sz139 : tySize Try.prog 139 = some 1 := by kernel_rfl
theorem Try.tif139 : tyIfc Try.prog 139 = true := by kernel_rfl
theorem Try.by139 : tyBytes Try.prog 139 = some 16 := by kernel_rfl
theorem Try.zr139 : tyZero Try.prog 139 = some (.nilIface) := by kernel_rfl
theorem Try.ag140 : tyAgg Try.prog 140 = some false := by kernel_rfl
theorem Try.sz140 : tySize Try.prog 140 = some 1 := by kernel_rfl
theorem Try.tif140 : tyIfc Try.prog 140 = true := by kernel_rfl
theorem Try.by140 : tyBytes Try.prog 140 = some 16 := by kernel_rfl
theorem Try.zr140 : tyZero Try.prog 140 = some (.nilIface) := by kernel_rfl
theorem Try.ag151 : tyAgg Try.prog 151 = some true := by kernel_rfl
theorem Try.sz151 : tySize Try.prog 151 = some 23 := by kernel_rfl
theorem Try.fd151_0 : tyField Try.prog 151 0 = some (0, 140) := by kernel_rfl
theorem Try.fd151_1 : tyField Try.prog 151 1 = some (1, 26) := by kernel_rfl
theorem Try.tp151 : tyPlace Try.prog 151 = some fun i => ([(0, 1), (1, 22)] : List (Nat × Nat))[i]? := by kernel_rfl
theorem Try.tmk151 : tyMk Try.prog 151 = true := by kernel_rfl
theorem Try.by151 : tyBytes Try.prog 151 = some 192 := by kernel_rfl
theorem Try.zr151 : tyZero Try.prog 151 = some (.agg #[.nilIface, .int .i64 0, .int .i64 0, .int .i64 0, .int .i64 0, .int .i64 0, .int .i64 0, .int .i64 0, .int .i64 0, .int .i64 0, .int .i64 0, .int .i64 0, .int .i64 0, .int .i64 0, .int .i64 0, .int .i64 0, .int .i64 0, .int .i64 0, .int .i64 0, .int .i64 0, .int .i64 0, .int .i64 0, .int .i64 0]) := by kernel_rfl
theorem Try.pz151 : plainB (.agg #[.nilIface, .int .i64 0, .int .i64 0, .int .i64 0, .int .i64 0, .int .i64 0, .int .i64 0, .int .i64 0, .int .i64 0, .int .i64 0, .int .i64 0, .int .i64 0, .int .i64 0, .int .i64 0, .int .i64 0, .int .i64 0, .int .i64 0, .int .i64 0, .int .i64 0, .int .i64 0, .int .i64 0, .int .i64 0, .int .i64 0]) = true := by kernel_rfl
theorem Try.ag152 : tyAgg Try.prog 152 = some true := by kernel_rfl
theorem Try.sz152 : tySize Try.prog 152 = some 23 := by kernel_rfl
theorem Try.fd152_0 : tyField Try.prog 152 0 = some (0, 140) := by kernel_rfl
theorem Try.fd152_1 : tyField Try.prog 152 1 = some (1, 26) := by kernel_rfl
theorem Try.tp152 : tyPlace Try.prog 152 = some fun i => ([(0, 1), (1, 22)] : List (Nat × Nat))[i]? := by kernel_rfl
theorem Try.tmk152 : tyMk Try.prog 152 = true := by kernel_rfl
theorem Try.by152 : tyBytes Try.prog 152 = some 192 := by kernel_rfl
theorem Try.zr152 : tyZero Try.prog 152 = some (.agg #[.nilIface, .int .i64 0, .int .i64 0, .int .i64 0, .int .i64 0, .int .i64 0, .int .i64 0, .int .i64 0, .int .i64 0, .int .i64 0, .int .i64 0, .int .i64 0, .int .i64 0, .int .i64 0, .int .i64 0, .int .i64 0, .int .i64 0, .int .i64 0, .int .i64 0, .int .i64 0, .int .i64 0, .int .i64 0, .int .i64 0]) := by kernel_rfl
theorem Try.ag153 : tyAgg Try.prog 153 = some true := by kernel_rfl
theorem Try.sz153 : tySize Try.prog 153 = some 3 := by kernel_rfl
theorem Try.fd153_0 : tyField Try.prog 153 0 = some (0, 3) := by kernel_rfl
theorem Try.fd153_1 : tyField Try.prog 153 1 = some (1, 3) := by kernel_rfl
theorem Try.fd153_2 : tyField Try.prog 153 2 = some (2, 3) := by kernel_rfl
theorem Try.tp153 : tyPlace Try.prog 153 = some fun i => ([(0, 1), (1, 1), (2, 1)] : List (Nat × Nat))[i]? := by kernel_rfl
theorem Try.eql153 (y : Operand) (a0 b0 : Int) (a1 b1 : Int) (a2 b2 : Int) : binOpA Try.prog .eql 153 y (.agg #[.int .i64 a0, .int .i64 a1, .int .i64 a2]) (.agg #[.int .i64 b0, .int .i64 b1, .int .i64 b2]) = some (.bool (a0 == b0 && (a1 == b1 && (a2 == b2 && true)))) := by kernel_rfl
theorem Try.neq153 (y : Operand) (a0 b0 : Int) (a1 b1 : Int) (a2 b2 : Int) : binOpA Try.prog .neq 153 y (.agg #[.int .i64 a0, .int .i64 a1, .int .i64 a2]) (.agg #[.int .i64 b0, .int .i64 b1, .int .i64 b2]) = some (.bool !(a0 == b0 && (a1 == b1 && (a2 == b2 && true)))) := by kernel_rfl
theorem Try.tmk153 : tyMk Try.prog 153 = true := by kernel_rfl
theorem Try.by153 : tyBytes Try.prog 153 = some 24 := by kernel_rfl
theorem Try.zr153 : tyZero Try.prog 153 = some (.agg #[.int .i64 0, .int .i64 0, .int .i64 0]) := by kernel_rfl
theorem Try.ag154 : tyAgg Try.prog 154 = some true := by kernel_rfl
theorem Try.sz154 : tySize Try.prog 154 = some 3 := by kernel_rfl
theorem Try.fd154_0 : tyField Try.prog 154 0 = some (0, 3) := by kernel_rfl
theorem Try.fd154_1 : tyField Try.prog 154 1 = some (1, 3) := by kernel_rfl
theorem Try.fd154_2 : tyField Try.prog 154 2 = some (2, 3) := by kernel_rfl
theorem Try.tp154 : tyPlace Try.prog 154 = some fun i => ([(0, 1), (1, 1), (2, 1)] : List (Nat × Nat))[i]? := by kernel_rfl
theorem Try.eql154 (y : Operand) (a0 b0 : Int) (a1 b1 : Int) (a2 b2 : Int) : binOpA Try.prog .eql 154 y (.agg #[.int .i64 a0, .int .i64 a1, .int .i64 a2]) (.agg #[.int .i64 b0, .int .i64 b1, .int .i64 b2]) = some (.bool (a0 == b0 && (a1 == b1 && (a2 == b2 && true)))) := by kernel_rfl
theorem Try.neq154 (y : Operand) (a0 b0 : Int) (a1 b1 : Int) (a2 b2 : Int) : binOpA Try.prog .neq 154 y (.agg #[.int .i64 a0, .int .i64 a1, .int .i64 a2]) (.agg #[.int .i64 b0, .int .i64 b1, .int .i64 b2]) = some (.bool !(a0 == b0 && (a1 == b1 && (a2 == b2 && true)))) := by kernel_rfl
theorem Try.tmk154 : tyMk Try.prog 154 = true := by kernel_rfl
theorem Try.by154 : tyBytes Try.prog 154 = some 24 := by kernel_rfl
theorem Try.zr154 : tyZero Try.prog 154 = some (.agg #[.int .i64 0, .int .i64 0, .int .i64 0]) := by kernel_rfl
theorem Try.ag170 : tyAgg Try.prog 170 = some false := by kernel_rfl
theorem Try.sz170 : tySize Try.prog 170 = some 1 := by kernel_rfl
theorem Try.tsl170 : tySli Try.prog 170 = true := by kernel_rfl
theorem Try.by170 : tyBytes Try.prog 170 = some 24 := by kernel_rfl
theorem Try.sl170 : tySlice Try.prog 170 = some 49 := by kernel_rfl
theorem Try.zr170 : tyZero Try.prog 170 = some (.slice none 0 0) := by kernel_rfl
theorem Try.ag172 : tyAgg Try.prog 172 = some true := by kernel_rfl
theorem Try.sz172 : tySize Try.prog 172 = some 2 := by kernel_rfl
theorem Try.fd172_0 : tyField Try.prog 172 0 = some (0, 170) := by kernel_rfl
theorem Try.fd172_1 : tyField Try.prog 172 1 = some (1, 22) := by kernel_rfl
theorem Try.tp172 : tyPlace Try.prog 172 = some fun i => ([(0, 1), (1, 1)] : List (Nat × Nat))[i]? := by kernel_rfl
theorem Try.tmk172 : tyMk Try.prog 172 = true := by kernel_rfl
theorem Try.by172 : tyBytes Try.prog 172 = some 48 := by kernel_rfl
theorem Try.zr172 : tyZero Try.prog 172 = some (.agg #[.slice none 0 0, .slice none 0 0]) := by kernel_rfl
theorem Try.pz172 : plainB (.agg #[.slice none 0 0, .slice none 0 0]) = true := by kernel_rfl
theorem Try.ag173 : tyAgg Try.prog 173 = some true := by kernel_rfl
theorem Try.sz173 : tySize Try.prog 173 = some 2 := by kernel_rfl
theorem Try.fd173_0 : tyField Try.prog 173 0 = some (0, 170) := by kernel_rfl
theorem Try.fd173_1 : tyField Try.prog 173 1 = some (1, 22) := by kernel_rfl
theorem Try.tp173 : tyPlace Try.prog 173 = some fun i => ([(0, 1), (1, 1)] : List (Nat × Nat))[i]? := by kernel_rfl
theorem Try.tmk173 : tyMk Try.prog 173 = true := by kernel_rfl
theorem Try.by173 : tyBytes Try.prog 173 = some 48 := by kernel_rfl
theorem Try.zr173 : tyZero Try.prog 173 = some (.agg #[.slice none 0 0, .slice none 0 0]) := by kernel_rfl
theorem Try.ag187 : tyAgg Try.prog 187 = some true := by kernel_rfl
theorem Try.sz187 : tySize Try.prog 187 = some 5 := by kernel_rfl
theorem Try.tp187 : tyPlace Try.prog 187 = some fun i => some (i * 1, 1) := by kernel_rfl
theorem Try.by187 : tyBytes Try.prog 187 = some 40 := by kernel_rfl
theorem Try.ar187 : tyArray Try.prog 187 = some (5, 186) := by kernel_rfl
theorem Try.zr187 : tyZero Try.prog 187 = some (.agg #[.nilFunc, .nilFunc, .nilFunc, .nilFunc, .nilFunc]) := by kernel_rfl
theorem Try.pz187 : plainB (.agg #[.nilFunc, .nilFunc, .nilFunc, .nilFunc, .nilFunc]) = true := by kernel_rfl
theorem Try.ag192 : tyAgg Try.prog 192 = some true := by kernel_rfl
theorem Try.sz192 : tySize Try.prog 192 = some 23 := by kernel_rfl
theorem Try.fd192_0 : tyField Try.prog 192 0 = some (0, 140) := by kernel_rfl
theorem Try.fd192_1 : tyField Try.prog 192 1 = some (1, 26) := by kernel_rfl
theorem Try.tp192 : tyPlace Try.prog 192 = some fun i => ([(0, 1), (1, 22)] : List (Nat × Nat))[i]? := by kernel_rfl
theorem Try.tmk192 : tyMk Try.prog 192 = true := by kernel_rfl
theorem Try.by192 : tyBytes Try.prog 192 = some 192 := by kernel_rfl
theorem Try.zr192 : tyZero Try.prog 192 = some (.agg #[.nilIface, .int .i64 0, .int .i64 0, .int .i64 0, .int .i64 0, .int .i64 0, .int .i64 0, .int .i64 0, .int .i64 0, .int .i64 0, .int .i64 0, .int .i64 0, .int .i64 0, .int .i64 0, .int .i64 0, .int .i64 0, .int .i64 0, .int .i64 0, .int .i64 0, .int .i64 0, .int .i64 0, .int .i64 0, .int .i64 0]) := by kernel_rfl
theorem Try.ag193 : tyAgg Try.prog 193 = some true := by kernel_rfl
theorem Try.sz193 : tySize Try.prog 193 = some 23 := by kernel_rfl
theorem Try.fd193_0 : tyField Try.prog 193 0 = some (0, 140) := by kernel_rfl
theorem Try.fd193_1 : tyField Try.prog 193 1 = some (1, 26) := by kernel_rfl
theorem Try.tp193 : tyPlace Try.prog 193 = some fun i => ([(0, 1), (1, 22)] : List (Nat × Nat))[i]? := by kernel_rfl
theorem Try.tmk193 : tyMk Try.prog 193 = true := by kernel_rfl
theorem Try.by193 : tyBytes Try.prog 193 = some 192 := by kernel_rfl
theorem Try.zr193 : tyZero Try.prog 193 = some (.agg #[.nilIface, .int .i64 0, .int .i64 0, .int .i64 0, .int .i64 0, .int .i64 0, .int .i64 0, .int .i64 0, .int .i64 0, .int .i64 0, .int .i64 0, .int .i64 0, .int .i64 0, .int .i64 0, .int .i64 0, .int .i64 0, .int .i64 0, .int .i64 0, .int .i64 0, .int .i64 0, .int .i64 0, .int .i64 0, .int .i64 0]) := by kernel_rfl
theorem Try.ag194 : tyAgg Try.prog 194 = some true := by kernel_rfl
theorem Try.sz194 : tySize Try.prog 194 = some 24 := by kernel_rfl
theorem Try.fd194_0 : tyField Try.prog 194 0 = some (0, 193) := by kernel_rfl
theorem Try.fd194_1 : tyField Try.prog 194 1 = some (23, 3) := by kernel_rfl
theorem Try.tp194 : tyPlace Try.prog 194 = some fun i => ([(0, 23), (23, 1)] : List (Nat × Nat))[i]? := by kernel_rfl
theorem Try.tmk194 : tyMk Try.prog 194 = true := by kernel_rfl
theorem Try.by194 : tyBytes Try.prog 194 = some 200 := by kernel_rfl
theorem Try.zr194 : tyZero Try.prog 194 = some (.agg #[.nilIface, .int .i64 0, .int .i64 0, .int .i64 0, .int .i64 0, .int .i64 0, .int .i64 0, .int .i64 0, .int .i64 0, .int .i64 0, .int .i64 0, .int .i64 0, .int .i64 0, .int .i64 0, .int .i64 0, .int .i64 0, .int .i64 0, .int .i64 0, .int .i64 0, .int .i64 0, .int .i64 0, .int .i64 0, .int .i64 0, .int .i64 0]) := by kernel_rfl
theorem Try.pz194 : plainB (.agg #[.nilIface, .int .i64 0, .int .i64 0, .int .i64 0, .int .i64 0, .int .i64 0, .int .i64 0, .int .i64 0, .int .i64 0, .int .i64 0, .int .i64 0, .int .i64 0, .int .i64 0, .int .i64 0, .int .i64 0, .int .i64 0, .int .i64 0, .int .i64 0, .int .i64 0, .int .i64 0, .int .i64 0, .int .i64 0, .int .i64 0, .int .i64 0]) = true := by kernel_rfl
theorem Try.ag195 : tyAgg Try.prog 195 = some true := by kernel_rfl
theorem Try.sz195 : tySize Try.prog 195 = some 24 := by kernel_rfl
theorem Try.fd195_0 : tyField Try.prog 195 0 = some (0, 193) := by kernel_rfl
theorem Try.fd195_1 : tyField Try.prog 195 1 = some (23, 3) := by kernel_rfl
theorem Try.tp195 : tyPlace Try.prog 195 = some fun i => ([(0, 23), (23, 1)] : List (Nat × Nat))[i]? := by kernel_rfl
theorem Try.tmk195 : tyMk Try.prog 195 = true := by kernel_rfl
theorem Try.by195 : tyBytes Try.prog 195 = some 200 := by kernel_rfl
theorem Try.zr195 : tyZero Try.prog 195 = some (.agg #[.nilIface, .int .i64 0, .int .i64 0, .int .i64 0, .int .i64 0, .int .i64 0, .int .i64 0, .int .i64 0, .int .i64 0, .int .i64 0, .int .i64 0, .int .i64 0, .int .i64 0, .int .i64 0, .int .i64 0, .int .i64 0, .int .i64 0, .int .i64 0, .int .i64 0, .int .i64 0, .int .i64 0, .int .i64 0, .int .i64 0, .int .i64 0]) := by kernel_rfl
theorem Try.ag196 : tyAgg Try.prog 196 = some true := by kernel_rfl
theorem Try.sz196 : tySize Try.prog 196 = some 3 := by kernel_rfl
theorem Try.fd196_0 : tyField Try.prog 196 0 = some (0, 3) := by kernel_rfl
theorem Try.fd196_1 : tyField Try.prog 196 1 = some (1, 3) := by kernel_rfl
theorem Try.fd196_2 : tyField Try.prog 196 2 = some (2, 3) := by kernel_rfl
theorem Try.tp196 : tyPlace Try.prog 196 = some fun i => ([(0, 1), (1, 1), (2, 1)] : List (Nat × Nat))[i]? := by kernel_rfl
theorem Try.eql196 (y : Operand) (a0 b0 : Int) (a1 b1 : Int) (a2 b2 : Int) : binOpA Try.prog .eql 196 y (.agg #[.int .i64 a0, .int .i64 a1, .int .i64 a2]) (.agg #[.int .i64 b0, .int .i64 b1, .int .i64 b2]) = some (.bool (a0 == b0 && (a1 == b1 && (a2 == b2 && true)))) := by kernel_rfl
theorem Try.neq196 (y : Operand) (a0 b0 : Int) (a1 b1 : Int) (a2 b2 : Int) : binOpA Try.prog .neq 196 y (.agg #[.int .i64 a0, .int .i64 a1, .int .i64 a2]) (.agg #[.int .i64 b0, .int .i64 b1, .int .i64 b2]) = some (.bool !(a0 == b0 && (a1 == b1 && (a2 == b2 && true)))) := by kernel_rfl
theorem Try.tmk196 : tyMk Try.prog 196 = true := by kernel_rfl
theorem Try.by196 : tyBytes Try.prog 196 = some 24 := by kernel_rfl
theorem Try.zr196 : tyZero Try.prog 196 = some (.agg #[.int .i64 0, .int .i64 0, .int .i64 0]) := by kernel_rfl
theorem Try.ag197 : tyAgg Try.prog 197 = some true := by kernel_rfl
theorem Try.sz197 : tySize Try.prog 197 = some 3 := by kernel_rfl
theorem Try.fd197_0 : tyField Try.prog 197 0 = some (0, 3) := by kernel_rfl
theorem Try.fd197_1 : tyField Try.prog 197 1 = some (1, 3) := by kernel_rfl
theorem Try.fd197_2 : tyField Try.prog 197 2 = some (2, 3) := by kernel_rfl
theorem Try.tp197 : tyPlace Try.prog 197 = some fun i => ([(0, 1), (1, 1), (2, 1)] : List (Nat × Nat))[i]? := by kernel_rfl
theorem Try.eql197 (y : Operand) (a0 b0 : Int) (a1 b1 : Int) (a2 b2 : Int) : binOpA Try.prog .eql 197 y (.agg #[.int .i64 a0, .int .i64 a1, .int .i64 a2]) (.agg #[.int .i64 b0, .int .i64 b1, .int .i64 b2]) = some (.bool (a0 == b0 && (a1 == b1 && (a2 == b2 && true)))) := by kernel_rfl
theorem Try.neq197 (y : Operand) (a0 b0 : Int) (a1 b1 : Int) (a2 b2 : Int) : binOpA Try.prog .neq 197 y (.agg #[.int .i64 a0, .int .i64 a1, .int .i64 a2]) (.agg #[.int .i64 b0, .int .i64 b1, .int .i64 b2]) = some (.bool !(a0 == b0 && (a1 == b1 && (a2 == b2 && true)))) := by kernel_rfl
theorem Try.tmk197 : tyMk Try.prog 197 = true := by kernel_rfl
theorem Try.by197 : tyBytes Try.prog 197 = some 24 := by kernel_rfl
theorem Try.zr197 : tyZero Try.prog 197 = some (.agg #[.int .i64 0, .int .i64 0, .int .i64 0]) := by kernel_rfl
theorem Try.ag198 : tyAgg Try.prog 198 = some true := by kernel_rfl
theorem Try.sz198 : tySize Try.prog 198 = some 12 := by kernel_rfl
theorem Try.tp198 : tyPlace Try.prog 198 = some fun i => some (i * 3, 3) := by kernel_rfl
theorem Try.by198 : tyBytes Try.prog 198 = some 96 := by kernel_rfl
theorem Try.ar198 : tyArray Try.prog 198 = some (4, 197) := by kernel_rfl
theorem Try.zr198 : tyZero Try.prog 198 = some (.agg #[.int .i64 0, .int .i64 0, .int .i64 0, .int .i64 0, .int .i64 0, .int .i64 0, .int .i64 0, .int .i64 0, .int .i64 0, .int .i64 0, .int .i64 0, .int .i64 0]) := by kernel_rfl
theorem Try.pz198 : plainB (.agg #[.int .i64 0, .int .i64 0, .int .i64 0, .int .i64 0, .int .i64 0, .int .i64 0, .int .i64 0, .int .i64 0, .int .i64 0, .int .i64 0, .int .i64 0, .int .i64 0]) = true := by kernel_rfl
theorem Try.ag200 : tyAgg Try.prog 200 = some true := by kernel_rfl
theorem Try.sz200 : tySize Try.prog 200 = some 4 := by kernel_rfl
theorem Try.fd200_0 : tyField Try.prog 200 0 = some (0, 5) := by kernel_rfl
theorem Try.fd200_1 : tyField Try.prog 200 1 = some (1, 4) := by kernel_rfl
theorem Try.fd200_2 : tyField Try.prog 200 2 = some (2, 3) := by kernel_rfl
theorem Try.fd200_3 : tyField Try.prog 200 3 = some (3, 36) := by kernel_rfl
theorem Try.tp200 : tyPlace Try.prog 200 = some fun i => ([(0, 1), (1, 1), (2, 1), (3, 1)] : List (Nat × Nat))[i]? := by kernel_rfl
theorem Try.eql200 (y : Operand) (a0 b0 : Int) (a1 b1 : Bool) (a2 b2 : Int) (a3 b3 : Int) : binOpA Try.prog .eql 200 y (.agg #[.int .u8 a0, .bool a1, .int .i64 a2, .int .u32 a3]) (.agg #[.int .u8 b0, .bool b1, .int .i64 b2, .int .u32 b3]) = some (.bool (a0 == b0 && (a1 == b1 && (a2 == b2 && (a3 == b3 && true))))) := by kernel_rfl
theorem Try.neq200 (y : Operand) (a0 b0 : Int) (a1 b1 : Bool) (a2 b2 : Int) (a3 b3 : Int) : binOpA Try.prog .neq 200 y (.agg #[.int .u8 a0, .bool a1, .int .i64 a2, .int .u32 a3]) (.agg #[.int .u8 b0, .bool b1, .int .i64 b2, .int .u32 b3]) = some (.bool !(a0 == b0 && (a1 == b1 && (a2 == b2 && (a3 == b3 && true))))) := by kernel_rfl
theorem Try.tmk200 : tyMk Try.prog 200 = true := by kernel_rfl
theorem Try.by200 : tyBytes Try.prog 200 = some 24 := by kernel_rfl
theorem Try.zr200 : tyZero Try.prog 200 = some (.agg #[.int .u8 0, .bool false, .int .i64 0, .int .u32 0]) := by kernel_rfl
theorem Try.pz200 : plainB (.agg #[.int .u8 0, .bool false, .int .i64 0, .int .u32 0]) = true := by kernel_rfl
theorem Try.ag201 : tyAgg Try.prog 201 = some true := by kernel_rfl
theorem Try.sz201 : tySize Try.prog 201 = some 4 := by kernel_rfl
theorem Try.fd201_0 : tyField Try.prog 201 0 = some (0, 5) := by kernel_rfl
theorem Try.fd201_1 : tyField Try.prog 201 1 = some (1, 4) := by kernel_rfl
theorem Try.fd201_2 : tyField Try.prog 201 2 = some (2, 3) := by kernel_rfl
theorem Try.fd201_3 : tyField Try.prog 201 3 = some (3, 36) := by kernel_rfl
theorem Try.tp201 : tyPlace Try.prog 201 = some fun i => ([(0, 1), (1, 1), (2, 1), (3, 1)] : List (Nat × Nat))[i]? := by kernel_rfl
theorem Try.eql201 (y : Operand) (a0 b0 : Int) (a1 b1 : Bool) (a2 b2 : Int) (a3 b3 : Int) : binOpA Try.prog .eql 201 y (.agg #[.int .u8 a0, .bool a1, .int .i64 a2, .int .u32 a3]) (.agg #[.int .u8 b0, .bool b1, .int .i64 b2, .int .u32 b3]) = some (.bool (a0 == b0 && (a1 == b1 && (a2 == b2 && (a3 == b3 && true))))) := by kernel_rfl
theorem Try.neq201 (y : Operand) (a0 b0 : Int) (a1 b1 : Bool) (a2 b2 : Int) (a3 b3 : Int) : binOpA Try.prog .neq 201 y (.agg #[.int .u8 a0, .bool a1, .int .i64 a2, .int .u32 a3]) (.agg #[.int .u8 b0, .bool b1, .int .i64 b2, .int .u32 b3]) = some (.bool !(a0 == b0 && (a1 == b1 && (a2 == b2 && (a3 == b3 && true))))) := by kernel_rfl
theorem Try.tmk201 : tyMk Try.prog 201 = true := by kernel_rfl
theorem Try.by201 : tyBytes Try.prog 201 = some 24 := by kernel_rfl
theorem Try.zr201 : tyZero Try.prog 201 = some (.agg #[.int .u8 0, .bool false, .int .i64 0, .int .u32 0]) := by kernel_rfl
theorem Try.ag209 : tyAgg Try.prog 209 = some false := by kernel_rfl
theorem Try.sz209 : tySize Try.prog 209 = some 1 := by kernel_rfl
theorem Try.tsl209 : tySli Try.prog 209 = true := by kernel_rfl
theorem Try.by209 : tyBytes Try.prog 209 = some 24 := by kernel_rfl
theorem Try.sl209 : tySlice Try.prog 209 = some 197 := by kernel_rfl
theorem Try.zr209 : tyZero Try.prog 209 = some (.slice none 0 0) := by kernel_rfl
theorem Try.ag213 : tyAgg Try.prog 213 = some false := by kernel_rfl
theorem Try.sz213 : tySize Try.prog 213 = some 1 := by kernel_rfl
theorem Try.tmk213 : tyMk Try.prog 213 = true := by kernel_rfl
theorem Try.by213 : tyBytes Try.prog 213 = some 8 := by kernel_rfl
theorem Try.zr213 : tyZero Try.prog 213 = some (.int .u64 0) := by kernel_rfl
theorem Try.ag216 : tyAgg Try.prog 216 = some true := by kernel_rfl
theorem Try.sz216 : tySize Try.prog 216 = some 4 := by kernel_rfl
theorem Try.fd216_0 : tyField Try.prog 216 0 = some (0, 17) := by kernel_rfl
theorem Try.fd216_1 : tyField Try.prog 216 1 = some (1, 17) := by kernel_rfl
theorem Try.fd216_2 : tyField Try.prog 216 2 = some (2, 17) := by kernel_rfl
theorem Try.fd216_3 : tyField Try.prog 216 3 = some (3, 9) := by kernel_rfl
theorem Try.tp216 : tyPlace Try.prog 216 = some fun i => ([(0, 1), (1, 1), (2, 1), (3, 1)] : List (Nat × Nat))[i]? := by kernel_rfl
theorem Try.tmk216 : tyMk Try.prog 216 = true := by kernel_rfl
theorem Try.by216 : tyBytes Try.prog 216 = some 40 := by kernel_rfl
theorem Try.zr216 : tyZero Try.prog 216 = some (.agg #[.pointer none, .pointer none, .pointer none, .string ⟨#[]⟩]) := by kernel_rfl
theorem Try.pz216 : plainB (.agg #[.pointer none, .pointer none, .pointer none, .string ⟨#[]⟩]) = true := by kernel_rfl
theorem Try.ag217 : tyAgg Try.prog 217 = some true := by kernel_rfl
theorem Try.sz217 : tySize Try.prog 217 = some 4 := by kernel_rfl
theorem Try.fd217_0 : tyField Try.prog 217 0 = some (0, 17) := by kernel_rfl
theorem Try.fd217_1 : tyField Try.prog 217 1 = some (1, 17) := by kernel_rfl
theorem Try.fd217_2 : tyField Try.prog 217 2 = some (2, 17) := by kernel_rfl
theorem Try.fd217_3 : tyField Try.prog 217 3 = some (3, 9) := by kernel_rfl
theorem Try.tp217 : tyPlace Try.prog 217 = some fun i => ([(0, 1), (1, 1), (2, 1), (3, 1)] : List (Nat × Nat))[i]? := by kernel_rfl
theorem Try.tmk217 : tyMk Try.prog 217 = true := by kernel_rfl
theorem Try.by217 : tyBytes Try.prog 217 = some 40 := by kernel_rfl
theorem Try.zr217 : tyZero Try.prog 217 = some (.agg #[.pointer none, .pointer none, .pointer none, .string ⟨#[]⟩]) := by kernel_rfl
theorem Try.ag218 : tyAgg Try.prog 218 = some true := by kernel_rfl
theorem Try.sz218 : tySize Try.prog 218 = some 0 := by kernel_rfl
theorem Try.tp218 : tyPlace Try.prog 218 = some fun i => some (i * 1, 1) := by kernel_rfl
theorem Try.by218 : tyBytes Try.prog 218 = some 0 := by kernel_rfl
theorem Try.ar218 : tyArray Try.prog 218 = some (0, 16) := by kernel_rfl
theorem Try.zr218 : tyZero Try.prog 218 = some (.agg #[]) := by kernel_rfl
theorem Try.pz218 : plainB (.agg #[]) = true := by kernel_rfl
theorem Try.ag219 : tyAgg Try.prog 219 = some true := by kernel_rfl
theorem Try.sz219 : tySize Try.prog 219 = some 0 := by kernel_rfl
theorem Try.fd219_0 : tyField Try.prog 219 0 = some (0, 218) := by kernel_rfl
theorem Try.tp219 : tyPlace Try.prog 219 = some fun i => ([(0, 0)] : List (Nat × Nat))[i]? := by kernel_rfl
theorem Try.tmk219 : tyMk Try.prog 219 = true := by kernel_rfl
theorem Try.by219 : tyBytes Try.prog 219 = some 0 := by kernel_rfl
theorem Try.zr219 : tyZero Try.prog 219 = some (.agg #[]) := by kernel_rfl
theorem Try.ag220 : tyAgg Try.prog 220 = some true := by kernel_rfl
theorem Try.sz220 : tySize Try.prog 220 = some 0 := by kernel_rfl
theorem Try.fd220_0 : tyField Try.prog 220 0 = some (0, 218) := by kernel_rfl
theorem Try.tp220 : tyPlace Try.prog 220 = some fun i => ([(0, 0)] : List (Nat × Nat))[i]? := by kernel_rfl
theorem Try.tmk220 : tyMk Try.prog 220 = true := by kernel_rfl
theorem Try.by220 : tyBytes Try.prog 220 = some 0 := by kernel_rfl
theorem Try.zr220 : tyZero Try.prog 220 = some (.agg #[]) := by kernel_rfl
theorem Try.ag221 : tyAgg Try.prog 221 = some false := by kernel_rfl
theorem Try.sz221 : tySize Try.prog 221 = some 1 := by kernel_rfl
theorem Try.tmk221 : tyMk Try.prog 221 = true := by kernel_rfl
theorem Try.by221 : tyBytes Try.prog 221 = some 1 := by kernel_rfl
theorem Try.zr221 : tyZero Try.prog 221 = some (.int .u8 0) := by kernel_rfl
theorem Try.ag222 : tyAgg Try.prog 222 = some false := by kernel_rfl
theorem Try.sz222 : tySize Try.prog 222 = some 1 := by kernel_rfl
theorem Try.tmk222 : tyMk Try.prog 222 = true := by kernel_rfl
theorem Try.by222 : tyBytes Try.prog 222 = some 1 := by kernel_rfl
theorem Try.zr222 : tyZero Try.prog 222 = some (.int .u8 0) := by kernel_rfl
theorem Try.ag224 : tyAgg Try.prog 224 = some false := by kernel_rfl
theorem Try.sz224 : tySize Try.prog 224 = some 1 := by kernel_rfl
theorem Try.tmk224 : tyMk Try.prog 224 = true := by kernel_rfl
theorem Try.tptr224 : tyPtr Try.prog 224 = true := by kernel_rfl
theorem Try.by224 : tyBytes Try.prog 224 = some 8 := by kernel_rfl
theorem Try.zr224 : tyZero Try.prog 224 = some (.pointer none) := by kernel_rfl
theorem Try.ag225 : tyAgg Try.prog 225 = some false := by kernel_rfl
theorem Try.sz225 : tySize Try.prog 225 = some 1 := by kernel_rfl
theorem Try.tmk225 : tyMk Try.prog 225 = true := by kernel_rfl
theorem Try.by225 : tyBytes Try.prog 225 = some 4 := by kernel_rfl
theorem Try.zr225 : tyZero Try.prog 225 = some (.int .i32 0) := by kernel_rfl
theorem Try.ag226 : tyAgg Try.prog 226 = some false := by kernel_rfl
theorem Try.sz226 : tySize Try.prog 226 = some 1 := by kernel_rfl
theorem Try.tmk226 : tyMk Try.prog 226 = true := by kernel_rfl
theorem Try.by226 : tyBytes Try.prog 226 = some 4 := by kernel_rfl
theorem Try.zr226 : tyZero Try.prog 226 = some (.int .i32 0) := by kernel_rfl
theorem Try.ag227 : tyAgg Try.prog 227 = some true := by kernel_rfl
theorem Try.sz227 : tySize Try.prog 227 = some 11 := by kernel_rfl
theorem Try.fd227_0 : tyField Try.prog 227 0 = some (0, 12) := by kernel_rfl
theorem Try.fd227_1 : tyField Try.prog 227 1 = some (1, 12) := by kernel_rfl
theorem Try.fd227_2 : tyField Try.prog 227 2 = some (2, 36) := by kernel_rfl
theorem Try.fd227_3 : tyField Try.prog 227 3 = some (3, 221) := by kernel_rfl
theorem Try.fd227_4 : tyField Try.prog 227 4 = some (4, 5) := by kernel_rfl
theorem Try.fd227_5 : tyField Try.prog 227 5 = some (5, 5) := by kernel_rfl
theorem Try.fd227_6 : tyField Try.prog 227 6 = some (6, 222) := by kernel_rfl
theorem Try.fd227_7 : tyField Try.prog 227 7 = some (7, 223) := by kernel_rfl
theorem Try.fd227_8 : tyField Try.prog 227 8 = some (8, 224) := by kernel_rfl
theorem Try.fd227_9 : tyField Try.prog 227 9 = some (9, 225) := by kernel_rfl
theorem Try.fd227_10 : tyField Try.prog 227 10 = some (10, 226) := by kernel_rfl
theorem Try.tp227 : tyPlace Try.prog 227 = some fun i => ([(0, 1), (1, 1), (2, 1), (3, 1), (4, 1), (5, 1), (6, 1), (7, 1), (8, 1), (9, 1), (10, 1)] : List (Nat × Nat))[i]? := by kernel_rfl
theorem Try.tmk227 : tyMk Try.prog 227 = true := by kernel_rfl
theorem Try.by227 : tyBytes Try.prog 227 = some 48 := by kernel_rfl
theorem Try.zr227 : tyZero Try.prog 227 = some (.agg #[.int .u64 0, .int .u64 0, .int .u32 0, .int .u8 0, .int .u8 0, .int .u8 0, .int .u8 0, .nilFunc, .pointer none, .int .i32 0, .int .i32 0]) := by kernel_rfl
theorem Try.pz227 : plainB (.agg #[.int .u64 0, .int .u64 0, .int .u32 0, .int .u8 0, .int .u8 0, .int .u8 0, .int .u8 0, .nilFunc, .pointer none, .int .i32 0, .int .i32 0]) = true := by kernel_rfl
theorem Try.ag228 : tyAgg Try.prog 228 = some true := by kernel_rfl
theorem Try.sz228 : tySize Try.prog 228 = some 11 := by kernel_rfl
theorem Try.fd228_0 : tyField Try.prog 228 0 = some (0, 12) := by kernel_rfl
theorem Try.fd228_1 : tyField Try.prog 228 1 = some (1, 12) := by kernel_rfl
theorem Try.fd228_2 : tyField Try.prog 228 2 = some (2, 36) := by kernel_rfl
theorem Try.fd228_3 : tyField Try.prog 228 3 = some (3, 221) := by kernel_rfl
theorem Try.fd228_4 : tyField Try.prog 228 4 = some (4, 5) := by kernel_rfl
theorem Try.fd228_5 : tyField Try.prog 228 5 = some (5, 5) := by kernel_rfl
theorem Try.fd228_6 : tyField Try.prog 228 6 = some (6, 222) := by kernel_rfl
theorem Try.fd228_7 : tyField Try.prog 228 7 = some (7, 223) := by kernel_rfl
theorem Try.fd228_8 : tyField Try.prog 228 8 = some (8, 224) := by kernel_rfl
theorem Try.fd228_9 : tyField Try.prog 228 9 = some (9, 225) := by kernel_rfl
theorem Try.fd228_10 : tyField Try.prog 228 10 = some (10, 226) := by kernel_rfl
theorem Try.tp228 : tyPlace Try.prog 228 = some fun i => ([(0, 1), (1, 1), (2, 1), (3, 1), (4, 1), (5, 1), (6, 1), (7, 1), (8, 1), (9, 1), (10, 1)] : List (Nat × Nat))[i]? := by kernel_rfl
theorem Try.tmk228 : tyMk Try.prog 228 = true := by kernel_rfl
theorem Try.by228 : tyBytes Try.prog 228 = some 48 := by kernel_rfl
theorem Try.zr228 : tyZero Try.prog 228 = some (.agg #[.int .u64 0, .int .u64 0, .int .u32 0, .int .u8 0, .int .u8 0, .int .u8 0, .int .u8 0, .nilFunc, .pointer none, .int .i32 0, .int .i32 0]) := by kernel_rfl
theorem Try.ag229 : tyAgg Try.prog 229 = some false := by kernel_rfl
theorem Try.sz229 : tySize Try.prog 229 = some 1 := by kernel_rfl
theorem Try.by229 : tyBytes Try.prog 229 = some 8 := by kernel_rfl
theorem Try.zr229 : tyZero Try.prog 229 = some (.pointer none) := by kernel_rfl
theorem Try.cv2_2 : tyConv Try.prog 2 2 = some .i64 := by kernel_rfl
theorem Try.cv2_3 : tyConv Try.prog 2 3 = some .i64 := by kernel_rfl
theorem Try.cv2_5 : tyConv Try.prog 2 5 = some .u8 := by kernel_rfl
theorem Try.cv2_6 : tyConv Try.prog 2 6 = some .u8 := by kernel_rfl
theorem Try.cv2_12 : tyConv Try.prog 2 12 = some .u64 := by kernel_rfl
theorem Try.cv2_21 : tyConv Try.prog 2 21 = some .i32 := by kernel_rfl
theorem Try.cv2_36 : tyConv Try.prog 2 36 = some .u32 := by kernel_rfl
theorem Try.cv2_49 : tyConv Try.prog 2 49 = some .u64 := by kernel_rfl
theorem Try.cv2_56 : tyConv Try.prog 2 56 = some .i16 := by kernel_rfl
theorem Try.cv2_59 : tyConv Try.prog 2 59 = some .u16 := by kernel_rfl
theorem Try.cv2_111 : tyConv Try.prog 2 111 = some .i64 := by kernel_rfl
theorem Try.cv2_213 : tyConv Try.prog 2 213 = some .u64 := by kernel_rfl
theorem Try.cv2_221 : tyConv Try.prog 2 221 = some .u8 := by kernel_rfl
theorem Try.cv2_222 : tyConv Try.prog 2 222 = some .u8 := by kernel_rfl
theorem Try.cv2_225 : tyConv Try.prog 2 225 = some .i32 := by kernel_rfl
theorem Try.cv2_226 : tyConv Try.prog 2 226 = some .i32 := by kernel_rfl
theorem Try.cv3_2 : tyConv Try.prog 3 2 = some .i64 := by kernel_rfl
theorem Try.cv3_3 : tyConv Try.prog 3 3 = some .i64 := by kernel_rfl
theorem Try.cv3_5 : tyConv Try.prog 3 5 = some .u8 := by kernel_rfl
theorem Try.cv3_6 : tyConv Try.prog 3 6 = some .u8 := by kernel_rfl
theorem Try.cv3_12 : tyConv Try.prog 3 12 = some .u64 := by kernel_rfl
theorem Try.cv3_21 : tyConv Try.prog 3 21 = some .i32 := by kernel_rfl
theorem Try.cv3_36 : tyConv Try.prog 3 36 = some .u32 := by kernel_rfl
theorem Try.cv3_49 : tyConv Try.prog 3 49 = some .u64 := by kernel_rfl
theorem Try.cv3_56 : tyConv Try.prog 3 56 = some .i16 := by kernel_rfl
theorem Try.cv3_59 : tyConv Try.prog 3 59 = some .u16 := by kernel_rfl
theorem Try.cv3_111 : tyConv Try.prog 3 111 = some .i64 := by kernel_rfl
theorem Try.cv3_213 : tyConv Try.prog 3 213 = some .u64 := by kernel_rfl
theorem Try.cv3_221 : tyConv Try.prog 3 221 = some .u8 := by kernel_rfl
theorem Try.cv3_222 : tyConv Try.prog 3 222 = some .u8 := by kernel_rfl
theorem Try.cv3_225 : tyConv Try.prog 3 225 = some .i32 := by kernel_rfl
theorem Try.cv3_226 : tyConv Try.prog 3 226 = some .i32 := by kernel_rfl
theorem Try.cv5_2 : tyConv Try.prog 5 2 = some .i64 := by kernel_rfl
theorem Try.cv5_3 : tyConv Try.prog 5 3 = some .i64 := by kernel_rfl
theorem Try.cv5_5 : tyConv Try.prog 5 5 = some .u8 := by kernel_rfl
theorem Try.cv5_6 : tyConv Try.prog 5 6 = some .u8 := by kernel_rfl
theorem Try.cv5_12 : tyConv Try.prog 5 12 = some .u64 := by kernel_rfl
theorem Try.cv5_21 : tyConv Try.prog 5 21 = some .i32 := by kernel_rfl
theorem Try.cv5_36 : tyConv Try.prog 5 36 = some .u32 := by kernel_rfl
theorem Try.cv5_49 : tyConv Try.prog 5 49 = some .u64 := by kernel_rfl
theorem Try.cv5_56 : tyConv Try.prog 5 56 = some .i16 := by kernel_rfl
theorem Try.cv5_59 : tyConv Try.prog 5 59 = some .u16 := by kernel_rfl
theorem Try.cv5_111 : tyConv Try.prog 5 111 = some .i64 := by kernel_rfl
theorem Try.cv5_213 : tyConv Try.prog 5 213 = some .u64 := by kernel_rfl
theorem Try.cv5_221 : tyConv Try.prog 5 221 = some .u8 := by kernel_rfl
theorem Try.cv5_222 : tyConv Try.prog 5 222 = some .u8 := by kernel_rfl
theorem Try.cv5_225 : tyConv Try.prog 5 225 = some .i32 := by kernel_rfl
theorem Try.cv5_226 : tyConv Try.prog 5 226 = some .i32 := by kernel_rfl
theorem Try.cv6_2 : tyConv Try.prog 6 2 = some .i64 := by kernel_rfl
theorem Try.cv6_3 : tyConv Try.prog 6 3 = some .i64 := by kernel_rfl
theorem Try.cv6_5 : tyConv Try.prog 6 5 = some .u8 := by kernel_rfl
theorem Try.cv6_6 : tyConv Try.prog 6 6 = some .u8 := by kernel_rfl
theorem Try.cv6_12 : tyConv Try.prog 6 12 = some .u64 := by kernel_rfl
theorem Try.cv6_21 : tyConv Try.prog 6 21 = some .i32 := by kernel_rfl
theorem Try.cv6_36 : tyConv Try.prog 6 36 = some .u32 := by kernel_rfl
theorem Try.cv6_49 : tyConv Try.prog 6 49 = some .u64 := by kernel_rfl
theorem Try.cv6_56 : tyConv Try.prog 6 56 = some .i16 := by kernel_rfl
theorem Try.cv6_59 : tyConv Try.prog 6 59 = some .u16 := by kernel_rfl
theorem Try.cv6_111 : tyConv Try.prog 6 111 = some .i64 := by kernel_rfl
theorem Try.cv6_213 : tyConv Try.prog 6 213 = some .u64 := by kernel_rfl
theorem Try.cv6_221 : tyConv Try.prog 6 221 = some .u8 := by kernel_rfl
theorem Try.cv6_222 : tyConv Try.prog 6 222 = some .u8 := by kernel_rfl
theorem Try.cv6_225 : tyConv Try.prog 6 225 = some .i32 := by kernel_rfl
theorem Try.cv6_226 : tyConv Try.prog 6 226 = some .i32 := by kernel_rfl
theorem Try.cv12_2 : tyConv Try.prog 12 2 = some .i64 := by kernel_rfl
theorem Try.cv12_3 : tyConv Try.prog 12 3 = some .i64 := by kernel_rfl
theorem Try.cv12_5 : tyConv Try.prog 12 5 = some .u8 := by kernel_rfl
theorem Try.cv12_6 : tyConv Try.prog 12 6 = some .u8 := by kernel_rfl
theorem Try.cv12_12 : tyConv Try.prog 12 12 = some .u64 := by kernel_rfl
theorem Try.cv12_21 : tyConv Try.prog 12 21 = some .i32 := by kernel_rfl
theorem Try.cv12_36 : tyConv Try.prog 12 36 = some .u32 := by kernel_rfl
theorem Try.cv12_49 : tyConv Try.prog 12 49 = some .u64 := by kernel_rfl
theorem Try.cv12_56 : tyConv Try.prog 12 56 = some .i16 := by kernel_rfl
theorem Try.cv12_59 : tyConv Try.prog 12 59 = some .u16 := by kernel_rfl
theorem Try.cv12_111 : tyConv Try.prog 12 111 = some .i64 := by kernel_rfl
theorem Try.cv12_213 : tyConv Try.prog 12 213 = some .u64 := by kernel_rfl
theorem Try.cv12_221 : tyConv Try.prog 12 221 = some .u8 := by kernel_rfl
theorem Try.cv12_222 : tyConv Try.prog 12 222 = some .u8 := by kernel_rfl
theorem Try.cv12_225 : tyConv Try.prog 12 225 = some .i32 := by kernel_rfl
theorem Try.cv12_226 : tyConv Try.prog 12 226 = some .i32 := by kernel_rfl
theorem Try.cv21_2 : tyConv Try.prog 21 2 = some .i64 := by kernel_rfl
theorem Try.cv21_3 : tyConv Try.prog 21 3 = some .i64 := by kernel_rfl
theorem Try.cv21_5 : tyConv Try.prog 21 5 = some .u8 := by kernel_rfl
theorem Try.cv21_6 : tyConv Try.prog 21 6 = some .u8 := by kernel_rfl
theorem Try.cv21_12 : tyConv Try.prog 21 12 = some .u64 := by kernel_rfl
theorem Try.cv21_21 : tyConv Try.prog 21 21 = some .i32 := by kernel_rfl
theorem Try.cv21_36 : tyConv Try.prog 21 36 = some .u32 := by kernel_rfl
theorem Try.cv21_49 : tyConv Try.prog 21 49 = some .u64 := by kernel_rfl
theorem Try.cv21_56 : tyConv Try.prog 21 56 = some .i16 := by kernel_rfl
theorem Try.cv21_59 : tyConv Try.prog 21 59 = some .u16 := by kernel_rfl
theorem Try.cv21_111 : tyConv Try.prog 21 111 = some .i64 := by kernel_rfl
theorem Try.cv21_213 : tyConv Try.prog 21 213 = some .u64 := by kernel_rfl
theorem Try.cv21_221 : tyConv Try.prog 21 221 = some .u8 := by kernel_rfl
theorem Try.cv21_222 : tyConv Try.prog 21 222 = some .u8 := by kernel_rfl
theorem Try.cv21_225 : tyConv Try.prog 21 225 = some .i32 := by kernel_rfl
theorem Try.cv21_226 : tyConv Try.prog 21 226 = some .i32 := by kernel_rfl
theorem Try.cv36_2 : tyConv Try.prog 36 2 = some .i64 := by kernel_rfl
theorem Try.cv36_3 : tyConv Try.prog 36 3 = some .i64 := by kernel_rfl
theorem Try.cv36_5 : tyConv Try.prog 36 5 = some .u8 := by kernel_rfl
theorem Try.cv36_6 : tyConv Try.prog 36 6 = some .u8 := by kernel_rfl
theorem Try.cv36_12 : tyConv Try.prog 36 12 = some .u64 := by kernel_rfl
theorem Try.cv36_21 : tyConv Try.prog 36 21 = some .i32 := by kernel_rfl
theorem Try.cv36_36 : tyConv Try.prog 36 36 = some .u32 := by kernel_rfl
theorem Try.cv36_49 : tyConv Try.prog 36 49 = some .u64 := by kernel_rfl
theorem Try.cv36_56 : tyConv Try.prog 36 56 = some .i16 := by kernel_rfl
theorem Try.cv36_59 : tyConv Try.prog 36 59 = some .u16 := by kernel_rfl
theorem Try.cv36_111 : tyConv Try.prog 36 111 = some .i64 := by kernel_rfl
theorem Try.cv36_213 : tyConv Try.prog 36 213 = some .u64 := by kernel_rfl
theorem Try.cv36_221 : tyConv Try.prog 36 221 = some .u8 := by kernel_rfl
theorem Try.cv36_222 : tyConv Try.prog 36 222 = some .u8 := by kernel_rfl
theorem Try.cv36_225 : tyConv Try.prog 36 225 = some .i32 := by kernel_rfl
theorem Try.cv36_226 : tyConv Try.prog 36 226 = some .i32 := by kernel_rfl
theorem Try.cv49_2 : tyConv Try.prog 49 2 = some .i64 := by kernel_rfl
theorem Try.cv49_3 : tyConv Try.prog 49 3 = some .i64 := by kernel_rfl
theorem Try.cv49_5 : tyConv Try.prog 49 5 = some .u8 := by kernel_rfl
theorem Try.cv49_6 : tyConv Try.prog 49 6 = some .u8 := by kernel_rfl
theorem Try.cv49_12 : tyConv Try.prog 49 12 = some .u64 := by kernel_rfl
theorem Try.cv49_21 : tyConv Try.prog 49 21 = some .i32 := by kernel_rfl
theorem Try.cv49_36 : tyConv Try.prog 49 36 = some .u32 := by kernel_rfl
theorem Try.cv49_49 : tyConv Try.prog 49 49 = some .u64 := by kernel_rfl
theorem Try.cv49_56 : tyConv Try.prog 49 56 = some .i16 := by kernel_rfl
theorem Try.cv49_59 : tyConv Try.prog 49 59 = some .u16 := by kernel_rfl
theorem Try.cv49_111 : tyConv Try.prog 49 111 = some .i64 := by kernel_rfl
theorem Try.cv49_213 : tyConv Try.prog 49 213 = some .u64 := by kernel_rfl
theorem Try.cv49_221 : tyConv Try.prog 49 221 = some .u8 := by kernel_rfl
theorem Try.cv49_222 : tyConv Try.prog 49 222 = some .u8 := by kernel_rfl
theorem Try.cv49_225 : tyConv Try.prog 49 225 = some .i32 := by kernel_rfl
theorem Try.cv49_226 : tyConv Try.prog 49 226 = some .i32 := by kernel_rfl
theorem Try.cv56_2 : tyConv Try.prog 56 2 = some .i64 := by kernel_rfl
theorem Try.cv56_3 : tyConv Try.prog 56 3 = some .i64 := by kernel_rfl
theorem Try.cv56_5 : tyConv Try.prog 56 5 = some .u8 := by kernel_rfl
theorem Try.cv56_6 : tyConv Try.prog 56 6 = some .u8 := by kernel_rfl
theorem Try.cv56_12 : tyConv Try.prog 56 12 = some .u64 := by kernel_rfl
theorem Try.cv56_21 : tyConv Try.prog 56 21 = some .i32 := by kernel_rfl
theorem Try.cv56_36 : tyConv Try.prog 56 36 = some .u32 := by kernel_rfl
theorem Try.cv56_49 : tyConv Try.prog 56 49 = some .u64 := by kernel_rfl
theorem Try.cv56_56 : tyConv Try.prog 56 56 = some .i16 := by kernel_rfl
theorem Try.cv56_59 : tyConv Try.prog 56 59 = some .u16 := by kernel_rfl
theorem Try.cv56_111 : tyConv Try.prog 56 111 = some .i64 := by kernel_rfl
theorem Try.cv56_213 : tyConv Try.prog 56 213 = some .u64 := by kernel_rfl
theorem Try.cv56_221 : tyConv Try.prog 56 221 = some .u8 := by kernel_rfl
theorem Try.cv56_222 : tyConv Try.prog 56 222 = some .u8 := by kernel_rfl
theorem Try.cv56_225 : tyConv Try.prog 56 225 = some .i32 := by kernel_rfl
theorem Try.cv56_226 : tyConv Try.prog 56 226 = some .i32 := by kernel_rfl
theorem Try.cv59_2 : tyConv Try.prog 59 2 = some .i64 := by kernel_rfl
theorem Try.cv59_3 : tyConv Try.prog 59 3 = some .i64 := by kernel_rfl
theorem Try.cv59_5 : tyConv Try.prog 59 5 = some .u8 := by kernel_rfl
theorem Try.cv59_6 : tyConv Try.prog 59 6 = some .u8 := by kernel_rfl
theorem Try.cv59_12 : tyConv Try.prog 59 12 = some .u64 := by kernel_rfl
theorem Try.cv59_21 : tyConv Try.prog 59 21 = some .i32 := by kernel_rfl
theorem Try.cv59_36 : tyConv Try.prog 59 36 = some .u32 := by kernel_rfl
theorem Try.cv59_49 : tyConv Try.prog 59 49 = some .u64 := by kernel_rfl
theorem Try.cv59_56 : tyConv Try.prog 59 56 = some .i16 := by kernel_rfl
theorem Try.cv59_59 : tyConv Try.prog 59 59 = some .u16 := by kernel_rfl
theorem Try.cv59_111 : tyConv Try.prog 59 111 = some .i64 := by kernel_rfl
theorem Try.cv59_213 : tyConv Try.prog 59 213 = some .u64 := by kernel_rfl
theorem Try.cv59_221 : tyConv Try.prog 59 221 = some .u8 := by kernel_rfl
theorem Try.cv59_222 : tyConv Try.prog 59 222 = some .u8 := by kernel_rfl
theorem Try.cv59_225 : tyConv Try.prog 59 225 = some .i32 := by kernel_rfl
theorem Try.cv59_226 : tyConv Try.prog 59 226 = some .i32 := by kernel_rfl
theorem Try.cv111_2 : tyConv Try.prog 111 2 = some .i64 := by kernel_rfl
theorem Try.cv111_3 : tyConv Try.prog 111 3 = some .i64 := by kernel_rfl
theorem Try.cv111_5 : tyConv Try.prog 111 5 = some .u8 := by kernel_rfl
theorem Try.cv111_6 : tyConv Try.prog 111 6 = some .u8 := by kernel_rfl
theorem Try.cv111_12 : tyConv Try.prog 111 12 = some .u64 := by kernel_rfl
theorem Try.cv111_21 : tyConv Try.prog 111 21 = some .i32 := by kernel_rfl
theorem Try.cv111_36 : tyConv Try.prog 111 36 = some .u32 := by kernel_rfl
theorem Try.cv111_49 : tyConv Try.prog 111 49 = some .u64 := by kernel_rfl
theorem Try.cv111_56 : tyConv Try.prog 111 56 = some .i16 := by kernel_rfl
theorem Try.cv111_59 : tyConv Try.prog 111 59 = some .u16 := by kernel_rfl
theorem Try.cv111_111 : tyConv Try.prog 111 111 = some .i64 := by kernel_rfl
theorem Try.cv111_213 : tyConv Try.prog 111 213 = some .u64 := by kernel_rfl
theorem Try.cv111_221 : tyConv Try.prog 111 221 = some .u8 := by kernel_rfl
theorem Try.cv111_222 : tyConv Try.prog 111 222 = some .u8 := by kernel_rfl
theorem Try.cv111_225 : tyConv Try.prog 111 225 = some .i32 := by kernel_rfl
theorem Try.cv111_226 : tyConv Try.prog 111 226 = some .i32 := by kernel_rfl
theorem Try.cv213_2 : tyConv Try.prog 213 2 = some .i64 := by kernel_rfl
theorem Try.cv213_3 : tyConv Try.prog 213 3 = some .i64 := by kernel_rfl
theorem Try.cv213_5 : tyConv Try.prog 213 5 = some .u8 := by kernel_rfl
theorem Try.cv213_6 : tyConv Try.prog 213 6 = some .u8 := by kernel_rfl
theorem Try.cv213_12 : tyConv Try.prog 213 12 = some .u64 := by kernel_rfl
theorem Try.cv213_21 : tyConv Try.prog 213 21 = some .i32 := by kernel_rfl
theorem Try.cv213_36 : tyConv Try.prog 213 36 = some .u32 := by kernel_rfl
theorem Try.cv213_49 : tyConv Try.prog 213 49 = some .u64 := by kernel_rfl
theorem Try.cv213_56 : tyConv Try.prog 213 56 = some .i16 := by kernel_rfl
theorem Try.cv213_59 : tyConv Try.prog 213 59 = some .u16 := by kernel_rfl
theorem Try.cv213_111 : tyConv Try.prog 213 111 = some .i64 := by kernel_rfl
theorem Try.cv213_213 : tyConv Try.prog 213 213 = some .u64 := by kernel_rfl
theorem Try.cv213_221 : tyConv Try.prog 213 221 = some .u8 := by kernel_rfl
theorem Try.cv213_222 : tyConv Try.prog 213 222 = some .u8 := by kernel_rfl
theorem Try.cv213_225 : tyConv Try.prog 213 225 = some .i32 := by kernel_rfl
theorem Try.cv213_226 : tyConv Try.prog 213 226 = some .i32 := by kernel_rfl
theorem Try.cv221_2 : tyConv Try.prog 221 2 = some .i64 := by kernel_rfl
theorem Try.cv221_3 : tyConv Try.prog 221 3 = some .i64 := by kernel_rfl
theorem Try.cv221_5 : tyConv Try.prog 221 5 = some .u8 := by kernel_rfl
theorem Try.cv221_6 : tyConv Try.prog 221 6 = some .u8 := by kernel_rfl
theorem Try.cv221_12 : tyConv Try.prog 221 12 = some .u64 := by kernel_rfl
theorem Try.cv221_21 : tyConv Try.prog 221 21 = some .i32 := by kernel_rfl
theorem Try.cv221_36 : tyConv Try.prog 221 36 = some .u32 := by kernel_rfl
theorem Try.cv221_49 : tyConv Try.prog 221 49 = some .u64 := by kernel_rfl
theorem Try.cv221_56 : tyConv Try.prog 221 56 = some .i16 := by kernel_rfl
theorem Try.cv221_59 : tyConv Try.prog 221 59 = some .u16 := by kernel_rfl
theorem Try.cv221_111 : tyConv Try.prog 221 111 = some .i64 := by kernel_rfl
theorem Try.cv221_213 : tyConv Try.prog 221 213 = some .u64 := by kernel_rfl
theorem Try.cv221_221 : tyConv Try.prog 221 221 = some .u8 := by kernel_rfl
theorem Try.cv221_222 : tyConv Try.prog 221 222 = some .u8 := by kernel_rfl
theorem Try.cv221_225 : tyConv Try.prog 221 225 = some .i32 := by kernel_rfl
theorem Try.cv221_226 : tyConv Try.prog 221 226 = some .i32 := by kernel_rfl
theorem Try.cv222_2 : tyConv Try.prog 222 2 = some .i64 := by kernel_rfl
theorem Try.cv222_3 : tyConv Try.prog 222 3 = some .i64 := by kernel_rfl
theorem Try.cv222_5 : tyConv Try.prog 222 5 = some .u8 := by kernel_rfl
theorem Try.cv222_6 : tyConv Try.prog 222 6 = some .u8 := by kernel_rfl
theorem Try.cv222_12 : tyConv Try.prog 222 12 = some .u64 := by kernel_rfl
theorem Try.cv222_21 : tyConv Try.prog 222 21 = some .i32 := by kernel_rfl
theorem Try.cv222_36 : tyConv Try.prog 222 36 = some .u32 := by kernel_rfl
theorem Try.cv222_49 : tyConv Try.prog 222 49 = some .u64 := by kernel_rfl
theorem Try.cv222_56 : tyConv Try.prog 222 56 = some .i16 := by kernel_rfl
theorem Try.cv222_59 : tyConv Try.prog 222 59 = some .u16 := by kernel_rfl
theorem Try.cv222_111 : tyConv Try.prog 222 111 = some .i64 := by kernel_rfl
theorem Try.cv222_213 : tyConv Try.prog 222 213 = some .u64 := by kernel_rfl
theorem Try.cv222_221 : tyConv Try.prog 222 221 = some .u8 := by kernel_rfl
theorem Try.cv222_222 : tyConv Try.prog 222 222 = some .u8 := by kernel_rfl
theorem Try.cv222_225 : tyConv Try.prog 222 225 = some .i32 := by kernel_rfl
theorem Try.cv222_226 : tyConv Try.prog 222 226 = some .i32 := by kernel_rfl
theorem Try.cv225_2 : tyConv Try.prog 225 2 = some .i64 := by kernel_rfl
theorem Try.cv225_3 : tyConv Try.prog 225 3 = some .i64 := by kernel_rfl
theorem Try.cv225_5 : tyConv Try.prog 225 5 = some .u8 := by kernel_rfl
theorem Try.cv225_6 : tyConv Try.prog 225 6 = some .u8 := by kernel_rfl
theorem Try.cv225_12 : tyConv Try.prog 225 12 = some .u64 := by kernel_rfl
theorem Try.cv225_21 : tyConv Try.prog 225 21 = some .i32 := by kernel_rfl
theorem Try.cv225_36 : tyConv Try.prog 225 36 = some .u32 := by kernel_rfl
theorem Try.cv225_49 : tyConv Try.prog 225 49 = some .u64 := by kernel_rfl
theorem Try.cv225_56 : tyConv Try.prog 225 56 = some .i16 := by kernel_rfl
theorem Try.cv225_59 : tyConv Try.prog 225 59 = some .u16 := by kernel_rfl
theorem Try.cv225_111 : tyConv Try.prog 225 111 = some .i64 := by kernel_rfl
theorem Try.cv225_213 : tyConv Try.prog 225 213 = some .u64 := by kernel_rfl
theorem Try.cv225_221 : tyConv Try.prog 225 221 = some .u8 := by kernel_rfl
theorem Try.cv225_222 : tyConv Try.prog 225 222 = some .u8 := by kernel_rfl
theorem Try.cv225_225 : tyConv Try.prog 225 225 = some .i32 := by kernel_rfl
theorem Try.cv225_226 : tyConv Try.prog 225 226 = some .i32 := by kernel_rfl
theorem Try.cv226_2 : tyConv Try.prog 226 2 = some .i64 := by kernel_rfl
theorem Try.cv226_3 : tyConv Try.prog 226 3 = some .i64 := by kernel_rfl
theorem Try.cv226_5 : tyConv Try.prog 226 5 = some .u8 := by kernel_rfl
theorem Try.cv226_6 : tyConv Try.prog 226 6 = some .u8 := by kernel_rfl
theorem Try.cv226_12 : tyConv Try.prog 226 12 = some .u64 := by kernel_rfl
theorem Try.cv226_21 : tyConv Try.prog 226 21 = some .i32 := by kernel_rfl
theorem Try.cv226_36 : tyConv Try.prog 226 36 = some .u32 := by kernel_rfl
theorem Try.cv226_49 : tyConv Try.prog 226 49 = some .u64 := by kernel_rfl
theorem Try.cv226_56 : tyConv Try.prog 226 56 = some .i16 := by kernel_rfl
theorem Try.cv226_59 : tyConv Try.prog 226 59 = some .u16 := by kernel_rfl
theorem Try.cv226_111 : tyConv Try.prog 226 111 = some .i64 := by kernel_rfl
theorem Try.cv226_213 : tyConv Try.prog 226 213 = some .u64 := by kernel_rfl
theorem Try.cv226_221 : tyConv Try.prog 226 221 = some .u8 := by kernel_rfl
theorem Try.cv226_222 : tyConv Try.prog 226 222 = some .u8 := by kernel_rfl
theorem Try.cv226_225 : tyConv Try.prog 226 225 = some .i32 := by kernel_rfl
theorem Try.cv226_226 : tyConv Try.prog 226 226 = some .i32 := by kernel_rfl
theorem Try.ok2 : fnOK Try.prog 2 = true := by kernel_rfl
theorem Try.ok3 : fnOK Try.prog 3 = true := by kernel_rfl
theorem Try.ok4 : fnOK Try.prog 4 = true := by kernel_rfl
theorem Try.ok5 : fnOK Try.prog 5 = true := by kernel_rfl
theorem Try.ok6 : fnOK Try.prog 6 = true := by kernel_rfl
theorem Try.ok7 : fnOK Try.prog 7 = true := by kernel_rfl
theorem Try.ok8 : fnOK Try.prog 8 = true := by kernel_rfl
theorem Try.ok9 : fnOK Try.prog 9 = true := by kernel_rfl
theorem Try.ok10 : fnOK Try.prog 10 = true := by kernel_rfl
theorem Try.ok11 : fnOK Try.prog 11 = true := by kernel_rfl
theorem Try.ok12 : fnOK Try.prog 12 = true := by kernel_rfl
theorem Try.ok13 : fnOK Try.prog 13 = true := by kernel_rfl
theorem Try.ok14 : fnOK Try.prog 14 = true := by kernel_rfl
theorem Try.ok15 : fnOK Try.prog 15 = true := by kernel_rfl
theorem Try.ok16 : fnOK Try.prog 16 = true := by kernel_rfl
theorem Try.ok17 : fnOK Try.prog 17 = true := by kernel_rfl
theorem Try.ok18 : fnOK Try.prog 18 = true := by kernel_rfl
theorem Try.ok19 : fnOK Try.prog 19 = true := by kernel_rfl
theorem Try.ok20 : fnOK Try.prog 20 = true := by kernel_rfl
theorem Try.ok21 : fnOK Try.prog 21 = true := by kernel_rfl
theorem Try.ok22 : fnOK Try.prog 22 = true := by kernel_rfl
theorem Try.ok23 : fnOK Try.prog 23 = true := by kernel_rfl
theorem Try.ok24 : fnOK Try.prog 24 = true := by kernel_rfl
theorem Try.ok25 : fnOK Try.prog 25 = true := by kernel_rfl
theorem Try.ok26 : fnOK Try.prog 26 = true := by kernel_rfl
theorem Try.ok27 : fnOK Try.prog 27 = true := by kernel_rfl
theorem Try.ok28 : fnOK Try.prog 28 = true := by kernel_rfl
theorem Try.ok29 : fnOK Try.prog 29 = true := by kernel_rfl
theorem Try.ok30 : fnOK Try.prog 30 = true := by kernel_rfl
theorem Try.ok31 : fnOK Try.prog 31 = true := by kernel_rfl
theorem Try.ok32 : fnOK Try.prog 32 = true := by kernel_rfl
theorem Try.ok33 : fnOK Try.prog 33 = true := by kernel_rfl
theorem Try.ok34 : fnOK Try.prog 34 = true := by kernel_rfl
theorem Try.ok35 : fnOK Try.prog 35 = true := by kernel_rfl
theorem Try.ok36 : fnOK Try.prog 36 = true := by kernel_rfl
theorem Try.ok37 : fnOK Try.prog 37 = true := by kernel_rfl
theorem Try.ok38 : fnOK Try.prog 38 = true := by kernel_rfl
theorem Try.ok39 : fnOK Try.prog 39 = true := by kernel_rfl
theorem Try.ok40 : fnOK Try.prog 40 = true := by kernel_rfl
theorem Try.ok41 : fnOK Try.prog 41 = true := by kernel_rfl
theorem Try.ok42 : fnOK Try.prog 42 = true := by kernel_rfl
theorem Try.ok43 : fnOK Try.prog 43 = true := by kernel_rfl
theorem Try.ok44 : fnOK Try.prog 44 = true := by kernel_rfl
theorem Try.ok45 : fnOK Try.prog 45 = true := by kernel_rfl
theorem Try.ok46 : fnOK Try.prog 46 = true := by kernel_rfl
theorem Try.ok47 : fnOK Try.prog 47 = true := by kernel_rfl
theorem Try.ok48 : fnOK Try.prog 48 = true := by kernel_rfl
theorem Try.ok49 : fnOK Try.prog 49 = true := by kernel_rfl
theorem Try.ok50 : fnOK Try.prog 50 = true := by kernel_rfl
theorem Try.ok51 : fnOK Try.prog 51 = true := by kernel_rfl
theorem Try.ok52 : fnOK Try.prog 52 = true := by kernel_rfl
theorem Try.ok53 : fnOK Try.prog 53 = true := by kernel_rfl
theorem Try.ok54 : fnOK Try.prog 54 = true := by kernel_rfl
theorem Try.ok55 : fnOK Try.prog 55 = true := by kernel_rfl
theorem Try.ok56 : fnOK Try.prog 56 = true := by kernel_rfl
theorem Try.ok57 : fnOK Try.prog 57 = true := by kernel_rfl
theorem Try.ok58 : fnOK Try.prog 58 = true := by kernel_rfl
theorem Try.ok59 : fnOK Try.prog 59 = true := by kernel_rfl
theorem Try.ok60 : fnOK Try.prog 60 = true := by kernel_rfl
theorem Try.ok61 : fnOK Try.prog 61 = true := by kernel_rfl
theorem Try.ok62 : fnOK Try.prog 62 = true := by kernel_rfl
theorem Try.ok63 : fnOK Try.prog 63 = true := by kernel_rfl
theorem Try.ok64 : fnOK Try.prog 64 = true := by kernel_rfl
theorem Try.ok65 : fnOK Try.prog 65 = true := by kernel_rfl
theorem Try.ok66 : fnOK Try.prog 66 = true := by kernel_rfl
theorem Try.ok67 : fnOK Try.prog 67 = true := by kernel_rfl
theorem Try.ok68 : fnOK Try.prog 68 = true := by kernel_rfl
theorem Try.ok69 : fnOK Try.prog 69 = true := by kernel_rfl
theorem Try.ok70 : fnOK Try.prog 70 = true := by kernel_rfl
theorem Try.ok71 : fnOK Try.prog 71 = true := by kernel_rfl
theorem Try.ok72 : fnOK Try.prog 72 = true := by kernel_rfl
theorem Try.ok73 : fnOK Try.prog 73 = true := by kernel_rfl
theorem Try.ok74 : fnOK Try.prog 74 = true := by kernel_rfl
theorem Try.ok75 : fnOK Try.prog 75 = true := by kernel_rfl
theorem Try.ok76 : fnOK Try.prog 76 = true := by kernel_rfl
theorem Try.ok77 : fnOK Try.prog 77 = true := by kernel_rfl
theorem Try.ok78 : fnOK Try.prog 78 = true := by kernel_rfl
theorem Try.ok79 : fnOK Try.prog 79 = true := by kernel_rfl
theorem Try.ok80 : fnOK Try.prog 80 = true := by kernel_rfl
theorem Try.ok81 : fnOK Try.prog 81 = true := by kernel_rfl
theorem Try.ok82 : fnOK Try.prog 82 = true := by kernel_rfl
theorem Try.ok83 : fnOK Try.prog 83 = true := by kernel_rfl
theorem Try.ok84 : fnOK Try.prog 84 = true := by kernel_rfl
theorem Try.ok85 : fnOK Try.prog 85 = true := by kernel_rfl
theorem Try.ok86 : fnOK Try.prog 86 = true := by kernel_rfl
theorem Try.ok87 : fnOK Try.prog 87 = true := by kernel_rfl
theorem Try.ok88 : fnOK Try.prog 88 = true := by kernel_rfl
theorem Try.ok89 : fnOK Try.prog 89 = true := by kernel_rfl
theorem Try.ok90 : fnOK Try.prog 90 = true := by kernel_rfl
theorem Try.ok91 : fnOK Try.prog 91 = true := by kernel_rfl
theorem Try.ok92 : fnOK Try.prog 92 = true := by kernel_rfl
theorem Try.ok93 : fnOK Try.prog 93 = true := by kernel_rfl
theorem Try.ok94 : fnOK Try.prog 94 = true := by kernel_rfl
theorem Try.ok95 : fnOK Try.prog 95 = true := by kernel_rfl
theorem Try.ok96 : fnOK Try.prog 96 = true := by kernel_rfl
theorem Try.ok97 : fnOK Try.prog 97 = true := by kernel_rfl
theorem Try.ok98 : fnOK Try.prog 98 = true := by kernel_rfl
theorem Try.ok99 : fnOK Try.prog 99 = true := by kernel_rfl
theorem Try.ok100 : fnOK Try.prog 100 = true := by kernel_rfl
theorem Try.ok101 : fnOK Try.prog 101 = true := by kernel_rfl
theorem Try.ok102 : fnOK Try.prog 102 = true := by kernel_rfl
theorem Try.ok103 : fnOK Try.prog 103 = true := by kernel_rfl
theorem Try.ok104 : fnOK Try.prog 104 = true := by kernel_rfl
theorem Try.ok105 : fnOK Try.prog 105 = true := by kernel_rfl
theorem Try.ok106 : fnOK Try.prog 106 = true := by kernel_rfl
theorem Try.ok107 : fnOK Try.prog 107 = true := by kernel_rfl
theorem Try.ok108 : fnOK Try.prog 108 = true := by kernel_rfl
theorem Try.ok109 : fnOK Try.prog 109 = true := by kernel_rfl
theorem Try.ok110 : fnOK Try.prog 110 = true := by kernel_rfl
theorem Try.ok111 : fnOK Try.prog 111 = true := by kernel_rfl
theorem Try.ok112 : fnOK Try.prog 112 = true := by kernel_rfl
theorem Try.ok113 : fnOK Try.prog 113 = true := by kernel_rfl
theorem Try.ok114 : fnOK Try.prog 114 = true := by kernel_rfl
theorem Try.ok115 : fnOK Try.prog 115 = true := by kernel_rfl
theorem Try.ok116 : fnOK Try.prog 116 = true := by kernel_rfl
theorem Try.ok117 : fnOK Try.prog 117 = true := by kernel_rfl
theorem Try.ok118 : fnOK Try.prog 118 = true := by kernel_rfl
theorem Try.ok119 : fnOK Try.prog 119 = true := by kernel_rfl
theorem Try.ok120 : fnOK Try.prog 120 = true := by kernel_rfl
theorem Try.ok121 : fnOK Try.prog 121 = true := by kernel_rfl
theorem Try.ok122 : fnOK Try.prog 122 = true := by kernel_rfl
theorem Try.ok123 : fnOK Try.prog 123 = true := by kernel_rfl
theorem Try.ok124 : fnOK Try.prog 124 = true := by kernel_rfl
theorem Try.ok125 : fnOK Try.prog 125 = true := by kernel_rfl
theorem Try.ok126 : fnOK Try.prog 126 = true := by kernel_rfl
theorem Try.ok127 : fnOK Try.prog 127 = true := by kernel_rfl
theorem Try.ok128 : fnOK Try.prog 128 = true := by kernel_rfl
theorem Try.ok129 : fnOK Try.prog 129 = true := by kernel_rfl
theorem Try.ok130 : fnOK Try.prog 130 = true := by kernel_rfl
theorem Try.ok131 : fnOK Try.prog 131 = true := by kernel_rfl
theorem Try.ok132 : fnOK Try.prog 132 = true := by kernel_rfl
theorem Try.ok133 : fnOK Try.prog 133 = true := by kernel_rfl
theorem Try.ok134 : fnOK Try.prog 134 = true := by kernel_rfl
theorem Try.ok135 : fnOK Try.prog 135 = true := by kernel_rfl
theorem Try.ok136 : fnOK Try.prog 136 = true := by kernel_rfl
theorem Try.ok137 : fnOK Try.prog 137 = true := by kernel_rfl
theorem Try.ok138 : fnOK Try.prog 138 = true := by kernel_rfl
theorem Try.ok139 : fnOK Try.prog 139 = true := by kernel_rfl
theorem Try.ok140 : fnOK Try.prog 140 = true := by kernel_rfl
theorem Try.ok141 : fnOK Try.prog 141 = true := by kernel_rfl
theorem Try.ok142 : fnOK Try.prog 142 = true := by kernel_rfl
theorem Try.ok143 : fnOK Try.prog 143 = true := by kernel_rfl
theorem Try.ok144 : fnOK Try.prog 144 = true := by kernel_rfl
theorem Try.ok145 : fnOK Try.prog 145 = true := by kernel_rfl
theorem Try.ok146 : fnOK Try.prog 146 = true := by kernel_rfl
theorem Try.ok147 : fnOK Try.prog 147 = true := by kernel_rfl
theorem Try.ok148 : fnOK Try.prog 148 = true := by kernel_rfl
theorem Try.ok149 : fnOK Try.prog 149 = true := by kernel_rfl
theorem Try.ok150 : fnOK Try.prog 150 = true := by kernel_rfl
theorem Try.ok151 : fnOK Try.prog 151 = true := by kernel_rfl
theorem Try.ok152 : fnOK Try.prog 152 = true := by kernel_rfl
theorem Try.ok153 : fnOK Try.prog 153 = true := by kernel_rfl
theorem Try.ok154 : fnOK Try.prog 154 = true := by kernel_rfl
theorem Try.ok155 : fnOK Try.prog 155 = true := by kernel_rfl
theorem Try.ok156 : fnOK Try.prog 156 = true := by kernel_rfl
theorem Try.ok157 : fnOK Try.prog 157 = true := by kernel_rfl
theorem Try.ok173 : fnOK Try.prog 173 = true := by kernel_rfl
theorem Try.ok174 : fnOK Try.prog 174 = true := by kernel_rfl
theorem Try.ok175 : fnOK Try.prog 175 = true := by kernel_rfl
theorem Try.ok176 : fnOK Try.prog 176 = true := by kernel_rfl
theorem Try.ok177 : fnOK Try.prog 177 = true := by kernel_rfl
theorem Try.ok178 : fnOK Try.prog 178 = true := by kernel_rfl
attribute [go_sem] Try.ag2 Try.sz2 Try.tmk2 Try.by2 Try.zr2 Try.pz2 Try.ag3 Try.sz3 Try.tmk3 Try.by3 Try.zr3 Try.ag4 Try.sz4 Try.tmk4 Try.tb4 Try.by4 Try.zr4 Try.pz4 Try.ag5 Try.sz5 Try.tmk5 Try.by5 Try.zr5 Try.pz5 Try.ag6 Try.sz6 Try.tmk6 Try.by6 Try.zr6 Try.ag7 Try.sz7 Try.fd7_0 Try.fd7_1 Try.fd7_2 Try.fd7_3 Try.tp7 Try.eql7 Try.neq7 Try.tmk7 Try.by7 Try.zr7 Try.pz7 Try.ag8 Try.sz8 Try.fd8_0 Try.fd8_1 Try.fd8_2 Try.fd8_3 Try.tp8 Try.eql8 Try.neq8 Try.tmk8 Try.by8 Try.zr8 Try.ag9 Try.sz9 Try.tmk9 Try.by9 Try.zr9 Try.pz9 Try.ag10 Try.sz10 Try.by10 Try.zr10 Try.ag11 Try.sz11 Try.by11 Try.zr11 Try.ag12 Try.sz12 Try.tmk12 Try.by12 Try.zr12 Try.pz12 Try.ag13 Try.sz13 Try.fd13_0 Try.fd13_1 Try.tp13 Try.tmk13 Try.by13 Try.zr13 Try.pz13 Try.ag14 Try.sz14 Try.fd14_0 Try.fd14_1 Try.tp14 Try.tmk14 Try.by14 Try.zr14 Try.ag15 Try.sz15 Try.tmk15 Try.tptr15 Try.by15 Try.zr15 Try.pz15 Try.mt15_Error Try.mt15_RuntimeError Try.ag16 Try.sz16 Try.tmk16 Try.tptr16 Try.by16 Try.zr16 Try.mt16_Error Try.mt16_RuntimeError Try.ag17 Try.sz17 Try.tmk17 Try.tptr17 Try.by17 Try.zr17 Try.mt17_Align Try.ag18 Try.sz18 Try.fd18_0 Try.tp18 Try.tmk18 Try.by18 Try.zr18 Try.pz18 Try.ag19 Try.sz19 Try.fd19_0 Try.tp19 Try.tmk19 Try.by19 Try.zr19 Try.ag20 Try.sz20 Try.tif20 Try.by20 Try.zr20 Try.pz20 Try.ag21 Try.sz21 Try.tmk21 Try.by21 Try.zr21 Try.pz21 Try.ag22 Try.sz22 Try.tsl22 Try.by22 Try.sl22 Try.zr22 Try.pz22 Try.ag24 Try.sz24 Try.tp24 Try.by24 Try.ar24 Try.zr24 Try.pz24 Try.ag25 Try.sz25 Try.fd25_0 Try.fd25_1 Try.fd25_2 Try.tp25 Try.tmk25 Try.by25 Try.zr25 Try.pz25 Try.ag26 Try.sz26 Try.fd26_0 Try.fd26_1 Try.fd26_2 Try.tp26 Try.tmk26 Try.by26 Try.zr26 Try.ag29 Try.sz29 Try.tmk29 Try.tptr29 Try.by29 Try.zr29 Try.mt29_Byte Try.mt29_Bytes Try.mt29_Copy Try.mt29_Do Try.mt29_Word Try.mt29_Words Try.ag32 Try.sz32 Try.by32 Try.ag33 Try.sz33 Try.tmk33 Try.tptr33 Try.by33 Try.zr33 Try.mt33_Add Try.mt33_CAS Try.mt33_Fresh Try.mt33_Get Try.mt33_Load Try.mt33_Put Try.mt33_Self Try.mt33_Steps Try.mt33_Store Try.mt33_Tell Try.mt33_Told Try.ag36 Try.sz36 Try.tmk36 Try.by36 Try.zr36 Try.pz36 Try.ag37 Try.sz37 Try.fd37_0 Try.fd37_1 Try.fd37_2 Try.fd37_3 Try.tp37 Try.eql37 Try.neq37 Try.tmk37 Try.by37 Try.zr37 Try.pz37 Try.ag38 Try.sz38 Try.fd38_0 Try.fd38_1 Try.fd38_2 Try.fd38_3 Try.tp38 Try.eql38 Try.neq38 Try.tmk38 Try.by38 Try.zr38 Try.ag39 Try.sz39 Try.fd39_0 Try.fd39_1 Try.fd39_2 Try.tp39 Try.tmk39 Try.by39 Try.zr39 Try.pz39 Try.ag40 Try.sz40 Try.fd40_0 Try.fd40_1 Try.fd40_2 Try.tp40 Try.tmk40 Try.by40 Try.zr40 Try.ag49 Try.sz49 Try.tmk49 Try.by49 Try.zr49 Try.ag52 Try.sz52 Try.tsl52 Try.by52 Try.sl52 Try.zr52 Try.ag55 Try.sz55 Try.tsl55 Try.by55 Try.sl55 Try.zr55 Try.ag56 Try.sz56 Try.tmk56 Try.by56 Try.zr56 Try.pz56 Try.ag57 Try.sz57 Try.fd57_0 Try.fd57_1 Try.fd57_2 Try.tp57 Try.eql57 Try.neq57 Try.tmk57 Try.by57 Try.zr57 Try.pz57 Try.ag58 Try.sz58 Try.fd58_0 Try.fd58_1 Try.fd58_2 Try.tp58 Try.eql58 Try.neq58 Try.tmk58 Try.by58 Try.zr58 Try.ag59 Try.sz59 Try.tmk59 Try.by59 Try.zr59 Try.pz59 Try.ag62 Try.sz62 Try.fd62_0 Try.fd62_1 Try.tp62 Try.eql62 Try.neq62 Try.tmk62 Try.by62 Try.zr62 Try.pz62 Try.ag63 Try.sz63 Try.fd63_0 Try.fd63_1 Try.tp63 Try.eql63 Try.neq63 Try.tmk63 Try.by63 Try.zr63 Try.ag67 Try.sz67 Try.tsl67 Try.by67 Try.sl67 Try.zr67 Try.ag70 Try.sz70 Try.tsl70 Try.by70 Try.sl70 Try.zr70 Try.ag71 Try.sz71 Try.tsl71 Try.by71 Try.sl71 Try.zr71 Try.ag72 Try.sz72 Try.fd72_0 Try.fd72_1 Try.fd72_2 Try.fd72_3 Try.tp72 Try.tmk72 Try.by72 Try.zr72 Try.pz72 Try.ag73 Try.sz73 Try.fd73_0 Try.fd73_1 Try.fd73_2 Try.fd73_3 Try.tp73 Try.tmk73 Try.by73 Try.zr73 Try.ag75 Try.sz75 Try.fd75_0 Try.fd75_1 Try.fd75_2 Try.fd75_3 Try.tp75 Try.eql75 Try.neq75 Try.tmk75 Try.by75 Try.zr75 Try.pz75 Try.ag76 Try.sz76 Try.fd76_0 Try.fd76_1 Try.fd76_2 Try.fd76_3 Try.tp76 Try.eql76 Try.neq76 Try.tmk76 Try.by76 Try.zr76 Try.ag77 Try.sz77 Try.fd77_0 Try.fd77_1 Try.fd77_2 Try.tp77 Try.eql77 Try.neq77 Try.tmk77 Try.by77 Try.zr77 Try.pz77 Try.ag78 Try.sz78 Try.fd78_0 Try.fd78_1 Try.fd78_2 Try.tp78 Try.eql78 Try.neq78 Try.tmk78 Try.by78 Try.zr78 Try.ag93 Try.sz93 Try.fd93_0 Try.fd93_1 Try.fd93_2 Try.fd93_3 Try.tp93 Try.eql93 Try.neq93 Try.tmk93 Try.by93 Try.zr93 Try.pz93 Try.ag94 Try.sz94 Try.fd94_0 Try.fd94_1 Try.fd94_2 Try.fd94_3 Try.tp94 Try.eql94 Try.neq94 Try.tmk94 Try.by94 Try.zr94 Try.ag104 Try.sz104 Try.tsl104 Try.by104 Try.sl104 Try.zr104 Try.ag105 Try.sz105 Try.fd105_0 Try.fd105_1 Try.fd105_2 Try.tp105 Try.eql105 Try.neq105 Try.tmk105 Try.by105 Try.zr105 Try.pz105 Try.ag106 Try.sz106 Try.fd106_0 Try.fd106_1 Try.fd106_2 Try.tp106 Try.eql106 Try.neq106 Try.tmk106 Try.by106 Try.zr106 Try.ag109 Try.sz109 Try.fd109_0 Try.fd109_1 Try.fd109_2 Try.fd109_3 Try.fd109_4 Try.tp109 Try.eql109 Try.neq109 Try.tmk109 Try.by109 Try.zr109 Try.pz109 Try.ag110 Try.sz110 Try.fd110_0 Try.fd110_1 Try.fd110_2 Try.fd110_3 Try.fd110_4 Try.tp110 Try.eql110 Try.neq110 Try.tmk110 Try.by110 Try.zr110 Try.ag111 Try.sz111 Try.tmk111 Try.by111 Try.zr111 Try.ag112 Try.sz112 Try.fd112_0 Try.fd112_1 Try.fd112_2 Try.fd112_3 Try.fd112_4 Try.fd112_5 Try.fd112_6 Try.tp112 Try.tmk112 Try.by112 Try.zr112 Try.pz112 Try.ag113 Try.sz113 Try.fd113_0 Try.fd113_1 Try.fd113_2 Try.fd113_3 Try.fd113_4 Try.fd113_5 Try.fd113_6 Try.tp113 Try.tmk113 Try.by113 Try.zr113 Try.ag124 Try.sz124 Try.fd124_0 Try.fd124_1 Try.fd124_2 Try.fd124_3 Try.tp124 Try.eql124 Try.neq124 Try.tmk124 Try.by124 Try.zr124 Try.pz124 Try.ag125 Try.sz125 Try.fd125_0 Try.fd125_1 Try.fd125_2 Try.fd125_3 Try.tp125 Try.eql125 Try.neq125 Try.tmk125 Try.by125 Try.zr125 Try.ag130 Try.sz130 Try.tp130 Try.by130 Try.ar130 Try.zr130 Try.pz130 Try.ag133 Try.sz133 Try.tmk133 Try.tptr133 Try.by133 Try.zr133 Try.ag134 Try.sz134 Try.fd134_0 Try.fd134_1 Try.tp134 Try.tmk134 Try.by134 Try.zr134 Try.pz134 Try.ag135 Try.sz135 Try.fd135_0 Try.fd135_1 Try.tp135 Try.tmk135 Try.by135 Try.zr135 Try.ag136 Try.sz136 Try.tmk136 Try.tptr136 Try.by136 Try.zr136 Try.ag137 Try.sz137 Try.fd137_0 Try.fd137_1 Try.fd137_2 Try.tp137 Try.tmk137 Try.by137 Try.zr137 Try.pz137 Try.ag138 Try.sz138 Try.fd138_0 Try.fd138_1 Try.fd138_2 Try.tp138 Try.tmk138 Try.by138 Try.zr138 Try.ag139 Try.sz139 Try.tif139 Try.by139 Try.zr139 Try.ag140 Try.sz140 Try.tif140 Try.by140 Try.zr140 Try.ag151 Try.sz151 Try.fd151_0 Try.fd151_1 Try.tp151 Try.tmk151 Try.by151 Try.zr151 Try.pz151 Try.ag152 Try.sz152 Try.fd152_0 Try.fd152_1 Try.tp152 Try.tmk152 Try.by152 Try.zr152 Try.ag153 Try.sz153 Try.fd153_0 Try.fd153_1 Try.fd153_2 Try.tp153 Try.eql153 Try.neq153 Try.tmk153 Try.by153 Try.zr153 Try.ag154 Try.sz154 Try.fd154_0 Try.fd154_1 Try.fd154_2 Try.tp154 Try.eql154 Try.neq154 Try.tmk154 Try.by154 Try.zr154 Try.ag170 Try.sz170 Try.tsl170 Try.by170 Try.sl170 Try.zr170 Try.ag172 Try.sz172 Try.fd172_0 Try.fd172_1 Try.tp172 Try.tmk172 Try.by172 Try.zr172 Try.pz172 Try.ag173 Try.sz173 Try.fd173_0 Try.fd173_1 Try.tp173 Try.tmk173 Try.by173 Try.zr173 Try.ag187 Try.sz187 Try.tp187 Try.by187 Try.ar187 Try.zr187 Try.pz187 Try.ag192 Try.sz192 Try.fd192_0 Try.fd192_1 Try.tp192 Try.tmk192 Try.by192 Try.zr192 Try.ag193 Try.sz193 Try.fd193_0 Try.fd193_1 Try.tp193 Try.tmk193 Try.by193 Try.zr193 Try.ag194 Try.sz194 Try.fd194_0 Try.fd194_1 Try.tp194 Try.tmk194 Try.by194 Try.zr194 Try.pz194 Try.ag195 Try.sz195 Try.fd195_0 Try.fd195_1 Try.tp195 Try.tmk195 Try.by195 Try.zr195 Try.ag196 Try.sz196 Try.fd196_0 Try.fd196_1 Try.fd196_2 Try.tp196 Try.eql196 Try.neq196 Try.tmk196 Try.by196 Try.zr196 Try.ag197 Try.sz197 Try.fd197_0 Try.fd197_1 Try.fd197_2 Try.tp197 Try.eql197 Try.neq197 Try.tmk197 Try.by197 Try.zr197 Try.ag198 Try.sz198 Try.tp198 Try.by198 Try.ar198 Try.zr198 Try.pz198 Try.ag200 Try.sz200 Try.fd200_0 Try.fd200_1 Try.fd200_2 Try.fd200_3 Try.tp200 Try.eql200 Try.neq200 Try.tmk200 Try.by200 Try.zr200 Try.pz200 Try.ag201 Try.sz201 Try.fd201_0 Try.fd201_1 Try.fd201_2 Try.fd201_3 Try.tp201 Try.eql201 Try.neq201 Try.tmk201 Try.by201 Try.zr201 Try.ag209 Try.sz209 Try.tsl209 Try.by209 Try.sl209 Try.zr209 Try.ag213 Try.sz213 Try.tmk213 Try.by213 Try.zr213 Try.ag216 Try.sz216 Try.fd216_0 Try.fd216_1 Try.fd216_2 Try.fd216_3 Try.tp216 Try.tmk216 Try.by216 Try.zr216 Try.pz216 Try.ag217 Try.sz217 Try.fd217_0 Try.fd217_1 Try.fd217_2 Try.fd217_3 Try.tp217 Try.tmk217 Try.by217 Try.zr217 Try.ag218 Try.sz218 Try.tp218 Try.by218 Try.ar218 Try.zr218 Try.pz218 Try.ag219 Try.sz219 Try.fd219_0 Try.tp219 Try.tmk219 Try.by219 Try.zr219 Try.ag220 Try.sz220 Try.fd220_0 Try.tp220 Try.tmk220 Try.by220 Try.zr220 Try.ag221 Try.sz221 Try.tmk221 Try.by221 Try.zr221 Try.ag222 Try.sz222 Try.tmk222 Try.by222 Try.zr222 Try.ag224 Try.sz224 Try.tmk224 Try.tptr224 Try.by224 Try.zr224 Try.ag225 Try.sz225 Try.tmk225 Try.by225 Try.zr225 Try.ag226 Try.sz226 Try.tmk226 Try.by226 Try.zr226 Try.ag227 Try.sz227 Try.fd227_0 Try.fd227_1 Try.fd227_2 Try.fd227_3 Try.fd227_4 Try.fd227_5 Try.fd227_6 Try.fd227_7 Try.fd227_8 Try.fd227_9 Try.fd227_10 Try.tp227 Try.tmk227 Try.by227 Try.zr227 Try.pz227 Try.ag228 Try.sz228 Try.fd228_0 Try.fd228_1 Try.fd228_2 Try.fd228_3 Try.fd228_4 Try.fd228_5 Try.fd228_6 Try.fd228_7 Try.fd228_8 Try.fd228_9 Try.fd228_10 Try.tp228 Try.tmk228 Try.by228 Try.zr228 Try.ag229 Try.sz229 Try.by229 Try.zr229 Try.cv2_2 Try.cv2_3 Try.cv2_5 Try.cv2_6 Try.cv2_12 Try.cv2_21 Try.cv2_36 Try.cv2_49 Try.cv2_56 Try.cv2_59 Try.cv2_111 Try.cv2_213 Try.cv2_221 Try.cv2_222 Try.cv2_225 Try.cv2_226 Try.cv3_2 Try.cv3_3 Try.cv3_5 Try.cv3_6 Try.cv3_12 Try.cv3_21 Try.cv3_36 Try.cv3_49 Try.cv3_56 Try.cv3_59 Try.cv3_111 Try.cv3_213 Try.cv3_221 Try.cv3_222 Try.cv3_225 Try.cv3_226 Try.cv5_2 Try.cv5_3 Try.cv5_5 Try.cv5_6 Try.cv5_12 Try.cv5_21 Try.cv5_36 Try.cv5_49 Try.cv5_56 Try.cv5_59 Try.cv5_111 Try.cv5_213 Try.cv5_221 Try.cv5_222 Try.cv5_225 Try.cv5_226 Try.cv6_2 Try.cv6_3 Try.cv6_5 Try.cv6_6 Try.cv6_12 Try.cv6_21 Try.cv6_36 Try.cv6_49 Try.cv6_56 Try.cv6_59 Try.cv6_111 Try.cv6_213 Try.cv6_221 Try.cv6_222 Try.cv6_225 Try.cv6_226 Try.cv12_2 Try.cv12_3 Try.cv12_5 Try.cv12_6 Try.cv12_12 Try.cv12_21 Try.cv12_36 Try.cv12_49 Try.cv12_56 Try.cv12_59 Try.cv12_111 Try.cv12_213 Try.cv12_221 Try.cv12_222 Try.cv12_225 Try.cv12_226 Try.cv21_2 Try.cv21_3 Try.cv21_5 Try.cv21_6 Try.cv21_12 Try.cv21_21 Try.cv21_36 Try.cv21_49 Try.cv21_56 Try.cv21_59 Try.cv21_111 Try.cv21_213 Try.cv21_221 Try.cv21_222 Try.cv21_225 Try.cv21_226 Try.cv36_2 Try.cv36_3 Try.cv36_5 Try.cv36_6 Try.cv36_12 Try.cv36_21 Try.cv36_36 Try.cv36_49 Try.cv36_56 Try.cv36_59 Try.cv36_111 Try.cv36_213 Try.cv36_221 Try.cv36_222 Try.cv36_225 Try.cv36_226 Try.cv49_2 Try.cv49_3 Try.cv49_5 Try.cv49_6 Try.cv49_12 Try.cv49_21 Try.cv49_36 Try.cv49_49 Try.cv49_56 Try.cv49_59 Try.cv49_111 Try.cv49_213 Try.cv49_221 Try.cv49_222 Try.cv49_225 Try.cv49_226 Try.cv56_2 Try.cv56_3 Try.cv56_5 Try.cv56_6 Try.cv56_12 Try.cv56_21 Try.cv56_36 Try.cv56_49 Try.cv56_56 Try.cv56_59 Try.cv56_111 Try.cv56_213 Try.cv56_221 Try.cv56_222 Try.cv56_225 Try.cv56_226 Try.cv59_2 Try.cv59_3 Try.cv59_5 Try.cv59_6 Try.cv59_12 Try.cv59_21 Try.cv59_36 Try.cv59_49 Try.cv59_56 Try.cv59_59 Try.cv59_111 Try.cv59_213 Try.cv59_221 Try.cv59_222 Try.cv59_225 Try.cv59_226 Try.cv111_2 Try.cv111_3 Try.cv111_5 Try.cv111_6 Try.cv111_12 Try.cv111_21 Try.cv111_36 Try.cv111_49 Try.cv111_56 Try.cv111_59 Try.cv111_111 Try.cv111_213 Try.cv111_221 Try.cv111_222 Try.cv111_225 Try.cv111_226 Try.cv213_2 Try.cv213_3 Try.cv213_5 Try.cv213_6 Try.cv213_12 Try.cv213_21 Try.cv213_36 Try.cv213_49 Try.cv213_56 Try.cv213_59 Try.cv213_111 Try.cv213_213 Try.cv213_221 Try.cv213_222 Try.cv213_225 Try.cv213_226 Try.cv221_2 Try.cv221_3 Try.cv221_5 Try.cv221_6 Try.cv221_12 Try.cv221_21 Try.cv221_36 Try.cv221_49 Try.cv221_56 Try.cv221_59 Try.cv221_111 Try.cv221_213 Try.cv221_221 Try.cv221_222 Try.cv221_225 Try.cv221_226 Try.cv222_2 Try.cv222_3 Try.cv222_5 Try.cv222_6 Try.cv222_12 Try.cv222_21 Try.cv222_36 Try.cv222_49 Try.cv222_56 Try.cv222_59 Try.cv222_111 Try.cv222_213 Try.cv222_221 Try.cv222_222 Try.cv222_225 Try.cv222_226 Try.cv225_2 Try.cv225_3 Try.cv225_5 Try.cv225_6 Try.cv225_12 Try.cv225_21 Try.cv225_36 Try.cv225_49 Try.cv225_56 Try.cv225_59 Try.cv225_111 Try.cv225_213 Try.cv225_221 Try.cv225_222 Try.cv225_225 Try.cv225_226 Try.cv226_2 Try.cv226_3 Try.cv226_5 Try.cv226_6 Try.cv226_12 Try.cv226_21 Try.cv226_36 Try.cv226_49 Try.cv226_56 Try.cv226_59 Try.cv226_111 Try.cv226_213 Try.cv226_221 Try.cv226_222 Try.cv226_225 Try.cv226_226 Try.ok2 Try.ok3 Try.ok4 Try.ok5 Try.ok6 Try.ok7 Try.ok8 Try.ok9 Try.ok10 Try.ok11 Try.ok12 Try.ok13 Try.ok14 Try.ok15 Try.ok16 Try.ok17 Try.ok18 Try.ok19 Try.ok20 Try.ok21 Try.ok22 Try.ok23 Try.ok24 Try.ok25 Try.ok26 Try.ok27 Try.ok28 Try.ok29 Try.ok30 Try.ok31 Try.ok32 Try.ok33 Try.ok34 Try.ok35 Try.ok36 Try.ok37 Try.ok38 Try.ok39 Try.ok40 Try.ok41 Try.ok42 Try.ok43 Try.ok44 Try.ok45 Try.ok46 Try.ok47 Try.ok48 Try.ok49 Try.ok50 Try.ok51 Try.ok52 Try.ok53 Try.ok54 Try.ok55 Try.ok56 Try.ok57 Try.ok58 Try.ok59 Try.ok60 Try.ok61 Try.ok62 Try.ok63 Try.ok64 Try.ok65 Try.ok66 Try.ok67 Try.ok68 Try.ok69 Try.ok70 Try.ok71 Try.ok72 Try.ok73 Try.ok74 Try.ok75 Try.ok76 Try.ok77 Try.ok78 Try.ok79 Try.ok80 Try.ok81 Try.ok82 Try.ok83 Try.ok84 Try.ok85 Try.ok86 Try.ok87 Try.ok88 Try.ok89 Try.ok90 Try.ok91 Try.ok92 Try.ok93 Try.ok94 Try.ok95 Try.ok96 Try.ok97 Try.ok98 Try.ok99 Try.ok100 Try.ok101 Try.ok102 Try.ok103 Try.ok104 Try.ok105 Try.ok106 Try.ok107 Try.ok108 Try.ok109 Try.ok110 Try.ok111 Try.ok112 Try.ok113 Try.ok114 Try.ok115 Try.ok116 Try.ok117 Try.ok118 Try.ok119 Try.ok120 Try.ok121 Try.ok122 Try.ok123 Try.ok124 Try.ok125 Try.ok126 Try.ok127 Try.ok128 Try.ok129 Try.ok130 Try.ok131 Try.ok132 Try.ok133 Try.ok134 Try.ok135 Try.ok136 Try.ok137 Try.ok138 Try.ok139 Try.ok140 Try.ok141 Try.ok142 Try.ok143 Try.ok144 Try.ok145 Try.ok146 Try.ok147 Try.ok148 Try.ok149 Try.ok150 Try.ok151 Try.ok152 Try.ok153 Try.ok154 Try.ok155 Try.ok156 Try.ok157 Try.ok173 Try.ok174 Try.ok175 Try.ok176 Try.ok177 Try.ok178
end Go.Proofs.Ytceddijolfpppaa
