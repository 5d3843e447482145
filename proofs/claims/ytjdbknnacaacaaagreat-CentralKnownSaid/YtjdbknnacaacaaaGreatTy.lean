/-
  Facts on the types and functions of this program, as the abstract machine asks them.
  No condition: closed facts.
-/
import Derived.Test.YtjdbknnacaacaaaGreatAx13
namespace Go.Proofs.YtjdbknnacaacaaaGreat
open Go Go.RowKit
set_option linter.unusedSimpArgs false
set_option linter.unusedVariables false
theorem Tryz.ag2 : tyAgg Tryz.prog 2 = some false := by kernel_rfl
theorem Tryz.sz2 : tySize Tryz.prog 2 = some 1 := by kernel_rfl
theorem Tryz.tmk2 : tyMk Tryz.prog 2 = true := by kernel_rfl
theorem Tryz.by2 : tyBytes Tryz.prog 2 = some 8 := by kernel_rfl
theorem Tryz.zr2 : tyZero Tryz.prog 2 = some (.int .i64 0) := by kernel_rfl
theorem Tryz.pz2 : plainB (.int .i64 0) = true := by kernel_rfl
theorem Tryz.ag3 : tyAgg Tryz.prog 3 = some false := by kernel_rfl
theorem Tryz.sz3 : tySize Tryz.prog 3 = some 1 := by kernel_rfl
theorem Tryz.tmk3 : tyMk Tryz.prog 3 = true := by kernel_rfl
theorem Tryz.by3 : tyBytes Tryz.prog 3 = some 8 := by kernel_rfl
theorem Tryz.zr3 : tyZero Tryz.prog 3 = some (.int .i64 0) := by kernel_rfl
theorem Tryz.ag4 : tyAgg Tryz.prog 4 = some false := by kernel_rfl
theorem Tryz.sz4 : tySize Tryz.prog 4 = some 1 := by kernel_rfl
theorem Tryz.tmk4 : tyMk Tryz.prog 4 = true := by kernel_rfl
theorem Tryz.tb4 : tyBool Tryz.prog 4 = true := by kernel_rfl
theorem Tryz.by4 : tyBytes Tryz.prog 4 = some 1 := by kernel_rfl
theorem Tryz.zr4 : tyZero Tryz.prog 4 = some (.bool false) := by kernel_rfl
theorem Tryz.pz4 : plainB (.bool false) = true := by kernel_rfl
theorem Tryz.ag5 : tyAgg Tryz.prog 5 = some false := by kernel_rfl
theorem Tryz.sz5 : tySize Tryz.prog 5 = some 1 := by kernel_rfl
theorem Tryz.tmk5 : tyMk Tryz.prog 5 = true := by kernel_rfl
theorem Tryz.by5 : tyBytes Tryz.prog 5 = some 1 := by kernel_rfl
theorem Tryz.zr5 : tyZero Tryz.prog 5 = some (.int .u8 0) := by kernel_rfl
theorem Tryz.pz5 : plainB (.int .u8 0) = true := by kernel_rfl
theorem Tryz.ag6 : tyAgg Tryz.prog 6 = some false := by kernel_rfl
theorem Tryz.sz6 : tySize Tryz.prog 6 = some 1 := by kernel_rfl
theorem Tryz.tmk6 : tyMk Tryz.prog 6 = true := by kernel_rfl
theorem Tryz.by6 : tyBytes Tryz.prog 6 = some 1 := by kernel_rfl
theorem Tryz.zr6 : tyZero Tryz.prog 6 = some (.int .u8 0) := by kernel_rfl
theorem Tryz.ag7 : tyAgg Tryz.prog 7 = some true := by kernel_rfl
theorem Tryz.sz7 : tySize Tryz.prog 7 = some 4 := by kernel_rfl
theorem Tryz.fd7_0 : tyField Tryz.prog 7 0 = some (0, 2) := by kernel_rfl
theorem Tryz.fd7_1 : tyField Tryz.prog 7 1 = some (1, 3) := by kernel_rfl
theorem Tryz.fd7_2 : tyField Tryz.prog 7 2 = some (2, 4) := by kernel_rfl
theorem Tryz.fd7_3 : tyField Tryz.prog 7 3 = some (3, 6) := by kernel_rfl
theorem Tryz.tp7 : tyPlace Tryz.prog 7 = some fun i => ([(0, 1), (1, 1), (2, 1), (3, 1)] : List (Nat × Nat))[i]? := by kernel_rfl
theorem Tryz.eql7 (y : Operand) (a0 b0 : Int) (a1 b1 : Int) (a2 b2 : Bool) (a3 b3 : Int) : binOpA Tryz.prog .eql 7 y (.agg #[.int .i64 a0, .int .i64 a1, .bool a2, .int .u8 a3]) (.agg #[.int .i64 b0, .int .i64 b1, .bool b2, .int .u8 b3]) = some (.bool (a0 == b0 && (a1 == b1 && (a2 == b2 && (a3 == b3 && true))))) := by kernel_rfl
theorem Tryz.neq7 (y : Operand) (a0 b0 : Int) (a1 b1 : Int) (a2 b2 : Bool) (a3 b3 : Int) : binOpA Tryz.prog .neq 7 y (.agg #[.int .i64 a0, .int .i64 a1, .bool a2, .int .u8 a3]) (.agg #[.int .i64 b0, .int .i64 b1, .bool b2, .int .u8 b3]) = some (.bool !(a0 == b0 && (a1 == b1 && (a2 == b2 && (a3 == b3 && true))))) := by kernel_rfl
theorem Tryz.tmk7 : tyMk Tryz.prog 7 = true := by kernel_rfl
theorem Tryz.by7 : tyBytes Tryz.prog 7 = some 24 := by kernel_rfl
theorem Tryz.zr7 : tyZero Tryz.prog 7 = some (.agg #[.int .i64 0, .int .i64 0, .bool false, .int .u8 0]) := by kernel_rfl
theorem Tryz.pz7 : plainB (.agg #[.int .i64 0, .int .i64 0, .bool false, .int .u8 0]) = true := by kernel_rfl
theorem Tryz.ag8 : tyAgg Tryz.prog 8 = some true := by kernel_rfl
theorem Tryz.sz8 : tySize Tryz.prog 8 = some 4 := by kernel_rfl
theorem Tryz.fd8_0 : tyField Tryz.prog 8 0 = some (0, 2) := by kernel_rfl
theorem Tryz.fd8_1 : tyField Tryz.prog 8 1 = some (1, 3) := by kernel_rfl
theorem Tryz.fd8_2 : tyField Tryz.prog 8 2 = some (2, 4) := by kernel_rfl
theorem Tryz.fd8_3 : tyField Tryz.prog 8 3 = some (3, 6) := by kernel_rfl
theorem Tryz.tp8 : tyPlace Tryz.prog 8 = some fun i => ([(0, 1), (1, 1), (2, 1), (3, 1)] : List (Nat × Nat))[i]? := by kernel_rfl
theorem Tryz.eql8 (y : Operand) (a0 b0 : Int) (a1 b1 : Int) (a2 b2 : Bool) (a3 b3 : Int) : binOpA Tryz.prog .eql 8 y (.agg #[.int .i64 a0, .int .i64 a1, .bool a2, .int .u8 a3]) (.agg #[.int .i64 b0, .int .i64 b1, .bool b2, .int .u8 b3]) = some (.bool (a0 == b0 && (a1 == b1 && (a2 == b2 && (a3 == b3 && true))))) := by kernel_rfl
theorem Tryz.neq8 (y : Operand) (a0 b0 : Int) (a1 b1 : Int) (a2 b2 : Bool) (a3 b3 : Int) : binOpA Tryz.prog .neq 8 y (.agg #[.int .i64 a0, .int .i64 a1, .bool a2, .int .u8 a3]) (.agg #[.int .i64 b0, .int .i64 b1, .bool b2, .int .u8 b3]) = some (.bool !(a0 == b0 && (a1 == b1 && (a2 == b2 && (a3 == b3 && true))))) := by kernel_rfl
theorem Tryz.tmk8 : tyMk Tryz.prog 8 = true := by kernel_rfl
theorem Tryz.by8 : tyBytes Tryz.prog 8 = some 24 := by kernel_rfl
theorem Tryz.zr8 : tyZero Tryz.prog 8 = some (.agg #[.int .i64 0, .int .i64 0, .bool false, .int .u8 0]) := by kernel_rfl
theorem Tryz.ag9 : tyAgg Tryz.prog 9 = some false := by kernel_rfl
theorem Tryz.sz9 : tySize Tryz.prog 9 = some 1 := by kernel_rfl
theorem Tryz.tmk9 : tyMk Tryz.prog 9 = true := by kernel_rfl
theorem Tryz.by9 : tyBytes Tryz.prog 9 = some 16 := by kernel_rfl
theorem Tryz.zr9 : tyZero Tryz.prog 9 = some (.string ⟨#[]⟩) := by kernel_rfl
theorem Tryz.pz9 : plainB (.string ⟨#[]⟩) = true := by kernel_rfl
theorem Tryz.ag10 : tyAgg Tryz.prog 10 = some false := by kernel_rfl
theorem Tryz.sz10 : tySize Tryz.prog 10 = some 1 := by kernel_rfl
theorem Tryz.by10 : tyBytes Tryz.prog 10 = some 16 := by kernel_rfl
theorem Tryz.zr10 : tyZero Tryz.prog 10 = some (.string ⟨#[]⟩) := by kernel_rfl
theorem Tryz.ag11 : tyAgg Tryz.prog 11 = some false := by kernel_rfl
theorem Tryz.sz11 : tySize Tryz.prog 11 = some 1 := by kernel_rfl
theorem Tryz.by11 : tyBytes Tryz.prog 11 = some 16 := by kernel_rfl
theorem Tryz.zr11 : tyZero Tryz.prog 11 = some (.string ⟨#[]⟩) := by kernel_rfl
theorem Tryz.ag12 : tyAgg Tryz.prog 12 = some false := by kernel_rfl
theorem Tryz.sz12 : tySize Tryz.prog 12 = some 1 := by kernel_rfl
theorem Tryz.tmk12 : tyMk Tryz.prog 12 = true := by kernel_rfl
theorem Tryz.by12 : tyBytes Tryz.prog 12 = some 8 := by kernel_rfl
theorem Tryz.zr12 : tyZero Tryz.prog 12 = some (.int .u64 0) := by kernel_rfl
theorem Tryz.pz12 : plainB (.int .u64 0) = true := by kernel_rfl
theorem Tryz.ag13 : tyAgg Tryz.prog 13 = some true := by kernel_rfl
theorem Tryz.sz13 : tySize Tryz.prog 13 = some 2 := by kernel_rfl
theorem Tryz.fd13_0 : tyField Tryz.prog 13 0 = some (0, 9) := by kernel_rfl
theorem Tryz.fd13_1 : tyField Tryz.prog 13 1 = some (1, 12) := by kernel_rfl
theorem Tryz.tp13 : tyPlace Tryz.prog 13 = some fun i => ([(0, 1), (1, 1)] : List (Nat × Nat))[i]? := by kernel_rfl
theorem Tryz.tmk13 : tyMk Tryz.prog 13 = true := by kernel_rfl
theorem Tryz.by13 : tyBytes Tryz.prog 13 = some 24 := by kernel_rfl
theorem Tryz.zr13 : tyZero Tryz.prog 13 = some (.agg #[.string ⟨#[]⟩, .int .u64 0]) := by kernel_rfl
theorem Tryz.pz13 : plainB (.agg #[.string ⟨#[]⟩, .int .u64 0]) = true := by kernel_rfl
theorem Tryz.ag14 : tyAgg Tryz.prog 14 = some true := by kernel_rfl
theorem Tryz.sz14 : tySize Tryz.prog 14 = some 2 := by kernel_rfl
theorem Tryz.fd14_0 : tyField Tryz.prog 14 0 = some (0, 9) := by kernel_rfl
theorem Tryz.fd14_1 : tyField Tryz.prog 14 1 = some (1, 12) := by kernel_rfl
theorem Tryz.tp14 : tyPlace Tryz.prog 14 = some fun i => ([(0, 1), (1, 1)] : List (Nat × Nat))[i]? := by kernel_rfl
theorem Tryz.tmk14 : tyMk Tryz.prog 14 = true := by kernel_rfl
theorem Tryz.by14 : tyBytes Tryz.prog 14 = some 24 := by kernel_rfl
theorem Tryz.zr14 : tyZero Tryz.prog 14 = some (.agg #[.string ⟨#[]⟩, .int .u64 0]) := by kernel_rfl
theorem Tryz.ag15 : tyAgg Tryz.prog 15 = some false := by kernel_rfl
theorem Tryz.sz15 : tySize Tryz.prog 15 = some 1 := by kernel_rfl
theorem Tryz.tmk15 : tyMk Tryz.prog 15 = true := by kernel_rfl
theorem Tryz.tptr15 : tyPtr Tryz.prog 15 = true := by kernel_rfl
theorem Tryz.by15 : tyBytes Tryz.prog 15 = some 8 := by kernel_rfl
theorem Tryz.zr15 : tyZero Tryz.prog 15 = some (.pointer none) := by kernel_rfl
theorem Tryz.pz15 : plainB (.pointer none) = true := by kernel_rfl
theorem Tryz.mt15_Error : methA Tryz.prog 15 "Error" = some 158 := by kernel_rfl
theorem Tryz.mt15_RuntimeError : methA Tryz.prog 15 "RuntimeError" = some 159 := by kernel_rfl
theorem Tryz.ag16 : tyAgg Tryz.prog 16 = some false := by kernel_rfl
theorem Tryz.sz16 : tySize Tryz.prog 16 = some 1 := by kernel_rfl
theorem Tryz.tmk16 : tyMk Tryz.prog 16 = true := by kernel_rfl
theorem Tryz.tptr16 : tyPtr Tryz.prog 16 = true := by kernel_rfl
theorem Tryz.by16 : tyBytes Tryz.prog 16 = some 8 := by kernel_rfl
theorem Tryz.zr16 : tyZero Tryz.prog 16 = some (.pointer none) := by kernel_rfl
theorem Tryz.mt16_Error : methA Tryz.prog 16 "Error" = some 160 := by kernel_rfl
theorem Tryz.mt16_RuntimeError : methA Tryz.prog 16 "RuntimeError" = some 161 := by kernel_rfl
theorem Tryz.ag17 : tyAgg Tryz.prog 17 = some false := by kernel_rfl
theorem Tryz.sz17 : tySize Tryz.prog 17 = some 1 := by kernel_rfl
theorem Tryz.tmk17 : tyMk Tryz.prog 17 = true := by kernel_rfl
theorem Tryz.tptr17 : tyPtr Tryz.prog 17 = true := by kernel_rfl
theorem Tryz.by17 : tyBytes Tryz.prog 17 = some 8 := by kernel_rfl
theorem Tryz.zr17 : tyZero Tryz.prog 17 = some (.pointer none) := by kernel_rfl
theorem Tryz.mt17_Align : methA Tryz.prog 17 "Align" = some 162 := by kernel_rfl
theorem Tryz.ag18 : tyAgg Tryz.prog 18 = some true := by kernel_rfl
theorem Tryz.sz18 : tySize Tryz.prog 18 = some 1 := by kernel_rfl
theorem Tryz.fd18_0 : tyField Tryz.prog 18 0 = some (0, 17) := by kernel_rfl
theorem Tryz.tp18 : tyPlace Tryz.prog 18 = some fun i => ([(0, 1)] : List (Nat × Nat))[i]? := by kernel_rfl
theorem Tryz.tmk18 : tyMk Tryz.prog 18 = true := by kernel_rfl
theorem Tryz.by18 : tyBytes Tryz.prog 18 = some 8 := by kernel_rfl
theorem Tryz.zr18 : tyZero Tryz.prog 18 = some (.agg #[.pointer none]) := by kernel_rfl
theorem Tryz.pz18 : plainB (.agg #[.pointer none]) = true := by kernel_rfl
theorem Tryz.ag19 : tyAgg Tryz.prog 19 = some true := by kernel_rfl
theorem Tryz.sz19 : tySize Tryz.prog 19 = some 1 := by kernel_rfl
theorem Tryz.fd19_0 : tyField Tryz.prog 19 0 = some (0, 17) := by kernel_rfl
theorem Tryz.tp19 : tyPlace Tryz.prog 19 = some fun i => ([(0, 1)] : List (Nat × Nat))[i]? := by kernel_rfl
theorem Tryz.tmk19 : tyMk Tryz.prog 19 = true := by kernel_rfl
theorem Tryz.by19 : tyBytes Tryz.prog 19 = some 8 := by kernel_rfl
theorem Tryz.zr19 : tyZero Tryz.prog 19 = some (.agg #[.pointer none]) := by kernel_rfl
theorem Tryz.ag20 : tyAgg Tryz.prog 20 = some false := by kernel_rfl
theorem Tryz.sz20 : tySize Tryz.prog 20 = some 1 := by kernel_rfl
theorem Tryz.tif20 : tyIfc Tryz.prog 20 = true := by kernel_rfl
theorem Tryz.by20 : tyBytes Tryz.prog 20 = some 16 := by kernel_rfl
theorem Tryz.zr20 : tyZero Tryz.prog 20 = some (.nilIface) := by kernel_rfl
theorem Tryz.pz20 : plainB (.nilIface) = true := by kernel_rfl
theorem Tryz.ag21 : tyAgg Tryz.prog 21 = some false := by kernel_rfl
theorem Tryz.sz21 : tySize Tryz.prog 21 = some 1 := by kernel_rfl
theorem Tryz.tmk21 : tyMk Tryz.prog 21 = true := by kernel_rfl
theorem Tryz.by21 : tyBytes Tryz.prog 21 = some 4 := by kernel_rfl
theorem Tryz.zr21 : tyZero Tryz.prog 21 = some (.int .i32 0) := by kernel_rfl
theorem Tryz.pz21 : plainB (.int .i32 0) = true := by kernel_rfl
theorem Tryz.ag22 : tyAgg Tryz.prog 22 = some true := by kernel_rfl
theorem Tryz.sz22 : tySize Tryz.prog 22 = some 20 := by kernel_rfl
theorem Tryz.tp22 : tyPlace Tryz.prog 22 = some fun i => some (i * 1, 1) := by kernel_rfl
theorem Tryz.by22 : tyBytes Tryz.prog 22 = some 160 := by kernel_rfl
theorem Tryz.ar22 : tyArray Tryz.prog 22 = some (20, 3) := by kernel_rfl
theorem Tryz.zr22 : tyZero Tryz.prog 22 = some (.agg #[.int .i64 0, .int .i64 0, .int .i64 0, .int .i64 0, .int .i64 0, .int .i64 0, .int .i64 0, .int .i64 0, .int .i64 0, .int .i64 0, .int .i64 0, .int .i64 0, .int .i64 0, .int .i64 0, .int .i64 0, .int .i64 0, .int .i64 0, .int .i64 0, .int .i64 0, .int .i64 0]) := by kernel_rfl
theorem Tryz.pz22 : plainB (.agg #[.int .i64 0, .int .i64 0, .int .i64 0, .int .i64 0, .int .i64 0, .int .i64 0, .int .i64 0, .int .i64 0, .int .i64 0, .int .i64 0, .int .i64 0, .int .i64 0, .int .i64 0, .int .i64 0, .int .i64 0, .int .i64 0, .int .i64 0, .int .i64 0, .int .i64 0, .int .i64 0]) = true := by kernel_rfl
theorem Tryz.ag23 : tyAgg Tryz.prog 23 = some true := by kernel_rfl
theorem Tryz.sz23 : tySize Tryz.prog 23 = some 22 := by kernel_rfl
theorem Tryz.fd23_0 : tyField Tryz.prog 23 0 = some (0, 3) := by kernel_rfl
theorem Tryz.fd23_1 : tyField Tryz.prog 23 1 = some (1, 3) := by kernel_rfl
theorem Tryz.fd23_2 : tyField Tryz.prog 23 2 = some (2, 22) := by kernel_rfl
theorem Tryz.tp23 : tyPlace Tryz.prog 23 = some fun i => ([(0, 1), (1, 1), (2, 20)] : List (Nat × Nat))[i]? := by kernel_rfl
theorem Tryz.tmk23 : tyMk Tryz.prog 23 = true := by kernel_rfl
theorem Tryz.by23 : tyBytes Tryz.prog 23 = some 176 := by kernel_rfl
theorem Tryz.zr23 : tyZero Tryz.prog 23 = some (.agg #[.int .i64 0, .int .i64 0, .int .i64 0, .int .i64 0, .int .i64 0, .int .i64 0, .int .i64 0, .int .i64 0, .int .i64 0, .int .i64 0, .int .i64 0, .int .i64 0, .int .i64 0, .int .i64 0, .int .i64 0, .int .i64 0, .int .i64 0, .int .i64 0, .int .i64 0, .int .i64 0, .int .i64 0, .int .i64 0]) := by kernel_rfl
theorem Tryz.pz23 : plainB (.agg #[.int .i64 0, .int .i64 0, .int .i64 0, .int .i64 0, .int .i64 0, .int .i64 0, .int .i64 0, .int .i64 0, .int .i64 0, .int .i64 0, .int .i64 0, .int .i64 0, .int .i64 0, .int .i64 0, .int .i64 0, .int .i64 0, .int .i64 0, .int .i64 0, .int .i64 0, .int .i64 0, .int .i64 0, .int .i64 0]) = true := by kernel_rfl
theorem Tryz.ag24 : tyAgg Tryz.prog 24 = some true := by kernel_rfl
theorem Tryz.sz24 : tySize Tryz.prog 24 = some 22 := by kernel_rfl
theorem Tryz.fd24_0 : tyField Tryz.prog 24 0 = some (0, 3) := by kernel_rfl
theorem Tryz.fd24_1 : tyField Tryz.prog 24 1 = some (1, 3) := by kernel_rfl
theorem Tryz.fd24_2 : tyField Tryz.prog 24 2 = some (2, 22) := by kernel_rfl
theorem Tryz.tp24 : tyPlace Tryz.prog 24 = some fun i => ([(0, 1), (1, 1), (2, 20)] : List (Nat × Nat))[i]? := by kernel_rfl
theorem Tryz.tmk24 : tyMk Tryz.prog 24 = true := by kernel_rfl
theorem Tryz.by24 : tyBytes Tryz.prog 24 = some 176 := by kernel_rfl
theorem Tryz.zr24 : tyZero Tryz.prog 24 = some (.agg #[.int .i64 0, .int .i64 0, .int .i64 0, .int .i64 0, .int .i64 0, .int .i64 0, .int .i64 0, .int .i64 0, .int .i64 0, .int .i64 0, .int .i64 0, .int .i64 0, .int .i64 0, .int .i64 0, .int .i64 0, .int .i64 0, .int .i64 0, .int .i64 0, .int .i64 0, .int .i64 0, .int .i64 0, .int .i64 0]) := by kernel_rfl
theorem Tryz.ag27 : tyAgg Tryz.prog 27 = some false := by kernel_rfl
theorem Tryz.sz27 : tySize Tryz.prog 27 = some 1 := by kernel_rfl
theorem Tryz.tmk27 : tyMk Tryz.prog 27 = true := by kernel_rfl
theorem Tryz.tptr27 : tyPtr Tryz.prog 27 = true := by kernel_rfl
theorem Tryz.by27 : tyBytes Tryz.prog 27 = some 8 := by kernel_rfl
theorem Tryz.zr27 : tyZero Tryz.prog 27 = some (.pointer none) := by kernel_rfl
theorem Tryz.mt27_Bytes : methA Tryz.prog 27 "Bytes" = some 89 := by kernel_rfl
theorem Tryz.mt27_Do : methA Tryz.prog 27 "Do" = some 52 := by kernel_rfl
theorem Tryz.mt27_Word : methA Tryz.prog 27 "Word" = some 15 := by kernel_rfl
theorem Tryz.mt27_Words : methA Tryz.prog 27 "Words" = some 87 := by kernel_rfl
theorem Tryz.ag29 : tyAgg Tryz.prog 29 = some false := by kernel_rfl
theorem Tryz.sz29 : tySize Tryz.prog 29 = some 1 := by kernel_rfl
theorem Tryz.tmk29 : tyMk Tryz.prog 29 = true := by kernel_rfl
theorem Tryz.tptr29 : tyPtr Tryz.prog 29 = true := by kernel_rfl
theorem Tryz.by29 : tyBytes Tryz.prog 29 = some 8 := by kernel_rfl
theorem Tryz.zr29 : tyZero Tryz.prog 29 = some (.pointer none) := by kernel_rfl
theorem Tryz.mt29_Add : methA Tryz.prog 29 "Add" = some 165 := by kernel_rfl
theorem Tryz.mt29_CAS : methA Tryz.prog 29 "CAS" = some 166 := by kernel_rfl
theorem Tryz.mt29_Fresh : methA Tryz.prog 29 "Fresh" = some 167 := by kernel_rfl
theorem Tryz.mt29_Get : methA Tryz.prog 29 "Get" = some 173 := by kernel_rfl
theorem Tryz.mt29_Load : methA Tryz.prog 29 "Load" = some 168 := by kernel_rfl
theorem Tryz.mt29_Put : methA Tryz.prog 29 "Put" = some 174 := by kernel_rfl
theorem Tryz.mt29_Self : methA Tryz.prog 29 "Self" = some 169 := by kernel_rfl
theorem Tryz.mt29_Steps : methA Tryz.prog 29 "Steps" = some 18 := by kernel_rfl
theorem Tryz.mt29_Store : methA Tryz.prog 29 "Store" = some 170 := by kernel_rfl
theorem Tryz.mt29_Tell : methA Tryz.prog 29 "Tell" = some 175 := by kernel_rfl
theorem Tryz.ag31 : tyAgg Tryz.prog 31 = some false := by kernel_rfl
theorem Tryz.sz31 : tySize Tryz.prog 31 = some 1 := by kernel_rfl
theorem Tryz.tsl31 : tySli Tryz.prog 31 = true := by kernel_rfl
theorem Tryz.by31 : tyBytes Tryz.prog 31 = some 24 := by kernel_rfl
theorem Tryz.sl31 : tySlice Tryz.prog 31 = some 3 := by kernel_rfl
theorem Tryz.zr31 : tyZero Tryz.prog 31 = some (.slice none 0 0) := by kernel_rfl
theorem Tryz.pz31 : plainB (.slice none 0 0) = true := by kernel_rfl
theorem Tryz.ag32 : tyAgg Tryz.prog 32 = some false := by kernel_rfl
theorem Tryz.sz32 : tySize Tryz.prog 32 = some 1 := by kernel_rfl
theorem Tryz.tmk32 : tyMk Tryz.prog 32 = true := by kernel_rfl
theorem Tryz.by32 : tyBytes Tryz.prog 32 = some 8 := by kernel_rfl
theorem Tryz.zr32 : tyZero Tryz.prog 32 = some (.int .i64 0) := by kernel_rfl
theorem Tryz.ag39 : tyAgg Tryz.prog 39 = some false := by kernel_rfl
theorem Tryz.sz39 : tySize Tryz.prog 39 = some 1 := by kernel_rfl
theorem Tryz.tmk39 : tyMk Tryz.prog 39 = true := by kernel_rfl
theorem Tryz.by39 : tyBytes Tryz.prog 39 = some 4 := by kernel_rfl
theorem Tryz.zr39 : tyZero Tryz.prog 39 = some (.int .u32 0) := by kernel_rfl
theorem Tryz.pz39 : plainB (.int .u32 0) = true := by kernel_rfl
theorem Tryz.ag40 : tyAgg Tryz.prog 40 = some true := by kernel_rfl
theorem Tryz.sz40 : tySize Tryz.prog 40 = some 3 := by kernel_rfl
theorem Tryz.fd40_0 : tyField Tryz.prog 40 0 = some (0, 3) := by kernel_rfl
theorem Tryz.fd40_1 : tyField Tryz.prog 40 1 = some (1, 4) := by kernel_rfl
theorem Tryz.fd40_2 : tyField Tryz.prog 40 2 = some (2, 39) := by kernel_rfl
theorem Tryz.tp40 : tyPlace Tryz.prog 40 = some fun i => ([(0, 1), (1, 1), (2, 1)] : List (Nat × Nat))[i]? := by kernel_rfl
theorem Tryz.eql40 (y : Operand) (a0 b0 : Int) (a1 b1 : Bool) (a2 b2 : Int) : binOpA Tryz.prog .eql 40 y (.agg #[.int .i64 a0, .bool a1, .int .u32 a2]) (.agg #[.int .i64 b0, .bool b1, .int .u32 b2]) = some (.bool (a0 == b0 && (a1 == b1 && (a2 == b2 && true)))) := by kernel_rfl
theorem Tryz.neq40 (y : Operand) (a0 b0 : Int) (a1 b1 : Bool) (a2 b2 : Int) : binOpA Tryz.prog .neq 40 y (.agg #[.int .i64 a0, .bool a1, .int .u32 a2]) (.agg #[.int .i64 b0, .bool b1, .int .u32 b2]) = some (.bool !(a0 == b0 && (a1 == b1 && (a2 == b2 && true)))) := by kernel_rfl
theorem Tryz.tmk40 : tyMk Tryz.prog 40 = true := by kernel_rfl
theorem Tryz.by40 : tyBytes Tryz.prog 40 = some 16 := by kernel_rfl
theorem Tryz.zr40 : tyZero Tryz.prog 40 = some (.agg #[.int .i64 0, .bool false, .int .u32 0]) := by kernel_rfl
theorem Tryz.pz40 : plainB (.agg #[.int .i64 0, .bool false, .int .u32 0]) = true := by kernel_rfl
theorem Tryz.ag41 : tyAgg Tryz.prog 41 = some true := by kernel_rfl
theorem Tryz.sz41 : tySize Tryz.prog 41 = some 3 := by kernel_rfl
theorem Tryz.fd41_0 : tyField Tryz.prog 41 0 = some (0, 3) := by kernel_rfl
theorem Tryz.fd41_1 : tyField Tryz.prog 41 1 = some (1, 4) := by kernel_rfl
theorem Tryz.fd41_2 : tyField Tryz.prog 41 2 = some (2, 39) := by kernel_rfl
theorem Tryz.tp41 : tyPlace Tryz.prog 41 = some fun i => ([(0, 1), (1, 1), (2, 1)] : List (Nat × Nat))[i]? := by kernel_rfl
theorem Tryz.eql41 (y : Operand) (a0 b0 : Int) (a1 b1 : Bool) (a2 b2 : Int) : binOpA Tryz.prog .eql 41 y (.agg #[.int .i64 a0, .bool a1, .int .u32 a2]) (.agg #[.int .i64 b0, .bool b1, .int .u32 b2]) = some (.bool (a0 == b0 && (a1 == b1 && (a2 == b2 && true)))) := by kernel_rfl
theorem Tryz.neq41 (y : Operand) (a0 b0 : Int) (a1 b1 : Bool) (a2 b2 : Int) : binOpA Tryz.prog .neq 41 y (.agg #[.int .i64 a0, .bool a1, .int .u32 a2]) (.agg #[.int .i64 b0, .bool b1, .int .u32 b2]) = some (.bool !(a0 == b0 && (a1 == b1 && (a2 == b2 && true)))) := by kernel_rfl
theorem Tryz.tmk41 : tyMk Tryz.prog 41 = true := by kernel_rfl
theorem Tryz.by41 : tyBytes Tryz.prog 41 = some 16 := by kernel_rfl
theorem Tryz.zr41 : tyZero Tryz.prog 41 = some (.agg #[.int .i64 0, .bool false, .int .u32 0]) := by kernel_rfl
theorem Tryz.ag43 : tyAgg Tryz.prog 43 = some false := by kernel_rfl
theorem Tryz.sz43 : tySize Tryz.prog 43 = some 1 := by kernel_rfl
theorem Tryz.tmk43 : tyMk Tryz.prog 43 = true := by kernel_rfl
theorem Tryz.by43 : tyBytes Tryz.prog 43 = some 8 := by kernel_rfl
theorem Tryz.zr43 : tyZero Tryz.prog 43 = some (.int .u64 0) := by kernel_rfl
theorem Tryz.ag48 : tyAgg Tryz.prog 48 = some false := by kernel_rfl
theorem Tryz.sz48 : tySize Tryz.prog 48 = some 1 := by kernel_rfl
theorem Tryz.tsl48 : tySli Tryz.prog 48 = true := by kernel_rfl
theorem Tryz.by48 : tyBytes Tryz.prog 48 = some 24 := by kernel_rfl
theorem Tryz.sl48 : tySlice Tryz.prog 48 = some 50 := by kernel_rfl
theorem Tryz.zr48 : tyZero Tryz.prog 48 = some (.slice none 0 0) := by kernel_rfl
theorem Tryz.ag49 : tyAgg Tryz.prog 49 = some true := by kernel_rfl
theorem Tryz.sz49 : tySize Tryz.prog 49 = some 5 := by kernel_rfl
theorem Tryz.fd49_0 : tyField Tryz.prog 49 0 = some (0, 5) := by kernel_rfl
theorem Tryz.fd49_1 : tyField Tryz.prog 49 1 = some (1, 5) := by kernel_rfl
theorem Tryz.fd49_2 : tyField Tryz.prog 49 2 = some (2, 5) := by kernel_rfl
theorem Tryz.fd49_3 : tyField Tryz.prog 49 3 = some (3, 5) := by kernel_rfl
theorem Tryz.fd49_4 : tyField Tryz.prog 49 4 = some (4, 5) := by kernel_rfl
theorem Tryz.tp49 : tyPlace Tryz.prog 49 = some fun i => ([(0, 1), (1, 1), (2, 1), (3, 1), (4, 1)] : List (Nat × Nat))[i]? := by kernel_rfl
theorem Tryz.eql49 (y : Operand) (a0 b0 : Int) (a1 b1 : Int) (a2 b2 : Int) (a3 b3 : Int) (a4 b4 : Int) : binOpA Tryz.prog .eql 49 y (.agg #[.int .u8 a0, .int .u8 a1, .int .u8 a2, .int .u8 a3, .int .u8 a4]) (.agg #[.int .u8 b0, .int .u8 b1, .int .u8 b2, .int .u8 b3, .int .u8 b4]) = some (.bool (a0 == b0 && (a1 == b1 && (a2 == b2 && (a3 == b3 && (a4 == b4 && true)))))) := by kernel_rfl
theorem Tryz.neq49 (y : Operand) (a0 b0 : Int) (a1 b1 : Int) (a2 b2 : Int) (a3 b3 : Int) (a4 b4 : Int) : binOpA Tryz.prog .neq 49 y (.agg #[.int .u8 a0, .int .u8 a1, .int .u8 a2, .int .u8 a3, .int .u8 a4]) (.agg #[.int .u8 b0, .int .u8 b1, .int .u8 b2, .int .u8 b3, .int .u8 b4]) = some (.bool !(a0 == b0 && (a1 == b1 && (a2 == b2 && (a3 == b3 && (a4 == b4 && true)))))) := by kernel_rfl
theorem Tryz.tmk49 : tyMk Tryz.prog 49 = true := by kernel_rfl
theorem Tryz.by49 : tyBytes Tryz.prog 49 = some 5 := by kernel_rfl
theorem Tryz.zr49 : tyZero Tryz.prog 49 = some (.agg #[.int .u8 0, .int .u8 0, .int .u8 0, .int .u8 0, .int .u8 0]) := by kernel_rfl
theorem Tryz.pz49 : plainB (.agg #[.int .u8 0, .int .u8 0, .int .u8 0, .int .u8 0, .int .u8 0]) = true := by kernel_rfl
theorem Tryz.ag50 : tyAgg Tryz.prog 50 = some true := by kernel_rfl
theorem Tryz.sz50 : tySize Tryz.prog 50 = some 5 := by kernel_rfl
theorem Tryz.fd50_0 : tyField Tryz.prog 50 0 = some (0, 5) := by kernel_rfl
theorem Tryz.fd50_1 : tyField Tryz.prog 50 1 = some (1, 5) := by kernel_rfl
theorem Tryz.fd50_2 : tyField Tryz.prog 50 2 = some (2, 5) := by kernel_rfl
theorem Tryz.fd50_3 : tyField Tryz.prog 50 3 = some (3, 5) := by kernel_rfl
theorem Tryz.fd50_4 : tyField Tryz.prog 50 4 = some (4, 5) := by kernel_rfl
theorem Tryz.tp50 : tyPlace Tryz.prog 50 = some fun i => ([(0, 1), (1, 1), (2, 1), (3, 1), (4, 1)] : List (Nat × Nat))[i]? := by kernel_rfl
theorem Tryz.eql50 (y : Operand) (a0 b0 : Int) (a1 b1 : Int) (a2 b2 : Int) (a3 b3 : Int) (a4 b4 : Int) : binOpA Tryz.prog .eql 50 y (.agg #[.int .u8 a0, .int .u8 a1, .int .u8 a2, .int .u8 a3, .int .u8 a4]) (.agg #[.int .u8 b0, .int .u8 b1, .int .u8 b2, .int .u8 b3, .int .u8 b4]) = some (.bool (a0 == b0 && (a1 == b1 && (a2 == b2 && (a3 == b3 && (a4 == b4 && true)))))) := by kernel_rfl
theorem Tryz.neq50 (y : Operand) (a0 b0 : Int) (a1 b1 : Int) (a2 b2 : Int) (a3 b3 : Int) (a4 b4 : Int) : binOpA Tryz.prog .neq 50 y (.agg #[.int .u8 a0, .int .u8 a1, .int .u8 a2, .int .u8 a3, .int .u8 a4]) (.agg #[.int .u8 b0, .int .u8 b1, .int .u8 b2, .int .u8 b3, .int .u8 b4]) = some (.bool !(a0 == b0 && (a1 == b1 && (a2 == b2 && (a3 == b3 && (a4 == b4 && true)))))) := by kernel_rfl
theorem Tryz.tmk50 : tyMk Tryz.prog 50 = true := by kernel_rfl
theorem Tryz.by50 : tyBytes Tryz.prog 50 = some 5 := by kernel_rfl
theorem Tryz.zr50 : tyZero Tryz.prog 50 = some (.agg #[.int .u8 0, .int .u8 0, .int .u8 0, .int .u8 0, .int .u8 0]) := by kernel_rfl
theorem Tryz.ag54 : tyAgg Tryz.prog 54 = some false := by kernel_rfl
theorem Tryz.sz54 : tySize Tryz.prog 54 = some 1 := by kernel_rfl
theorem Tryz.tmk54 : tyMk Tryz.prog 54 = true := by kernel_rfl
theorem Tryz.tptr54 : tyPtr Tryz.prog 54 = true := by kernel_rfl
theorem Tryz.by54 : tyBytes Tryz.prog 54 = some 8 := by kernel_rfl
theorem Tryz.zr54 : tyZero Tryz.prog 54 = some (.pointer none) := by kernel_rfl
theorem Tryz.ag55 : tyAgg Tryz.prog 55 = some false := by kernel_rfl
theorem Tryz.sz55 : tySize Tryz.prog 55 = some 1 := by kernel_rfl
theorem Tryz.tsl55 : tySli Tryz.prog 55 = true := by kernel_rfl
theorem Tryz.by55 : tyBytes Tryz.prog 55 = some 24 := by kernel_rfl
theorem Tryz.sl55 : tySlice Tryz.prog 55 = some 4 := by kernel_rfl
theorem Tryz.zr55 : tyZero Tryz.prog 55 = some (.slice none 0 0) := by kernel_rfl
theorem Tryz.ag56 : tyAgg Tryz.prog 56 = some true := by kernel_rfl
theorem Tryz.sz56 : tySize Tryz.prog 56 = some 2 := by kernel_rfl
theorem Tryz.fd56_0 : tyField Tryz.prog 56 0 = some (0, 55) := by kernel_rfl
theorem Tryz.fd56_1 : tyField Tryz.prog 56 1 = some (1, 4) := by kernel_rfl
theorem Tryz.tp56 : tyPlace Tryz.prog 56 = some fun i => ([(0, 1), (1, 1)] : List (Nat × Nat))[i]? := by kernel_rfl
theorem Tryz.tmk56 : tyMk Tryz.prog 56 = true := by kernel_rfl
theorem Tryz.by56 : tyBytes Tryz.prog 56 = some 32 := by kernel_rfl
theorem Tryz.zr56 : tyZero Tryz.prog 56 = some (.agg #[.slice none 0 0, .bool false]) := by kernel_rfl
theorem Tryz.pz56 : plainB (.agg #[.slice none 0 0, .bool false]) = true := by kernel_rfl
theorem Tryz.ag57 : tyAgg Tryz.prog 57 = some true := by kernel_rfl
theorem Tryz.sz57 : tySize Tryz.prog 57 = some 2 := by kernel_rfl
theorem Tryz.fd57_0 : tyField Tryz.prog 57 0 = some (0, 55) := by kernel_rfl
theorem Tryz.fd57_1 : tyField Tryz.prog 57 1 = some (1, 4) := by kernel_rfl
theorem Tryz.tp57 : tyPlace Tryz.prog 57 = some fun i => ([(0, 1), (1, 1)] : List (Nat × Nat))[i]? := by kernel_rfl
theorem Tryz.tmk57 : tyMk Tryz.prog 57 = true := by kernel_rfl
theorem Tryz.by57 : tyBytes Tryz.prog 57 = some 32 := by kernel_rfl
theorem Tryz.zr57 : tyZero Tryz.prog 57 = some (.agg #[.slice none 0 0, .bool false]) := by kernel_rfl
theorem Tryz.ag61 : tyAgg Tryz.prog 61 = some true := by kernel_rfl
theorem Tryz.sz61 : tySize Tryz.prog 61 = some 19 := by kernel_rfl
theorem Tryz.tp61 : tyPlace Tryz.prog 61 = some fun i => some (i * 1, 1) := by kernel_rfl
theorem Tryz.by61 : tyBytes Tryz.prog 61 = some 152 := by kernel_rfl
theorem Tryz.ar61 : tyArray Tryz.prog 61 = some (19, 3) := by kernel_rfl
theorem Tryz.zr61 : tyZero Tryz.prog 61 = some (.agg #[.int .i64 0, .int .i64 0, .int .i64 0, .int .i64 0, .int .i64 0, .int .i64 0, .int .i64 0, .int .i64 0, .int .i64 0, .int .i64 0, .int .i64 0, .int .i64 0, .int .i64 0, .int .i64 0, .int .i64 0, .int .i64 0, .int .i64 0, .int .i64 0, .int .i64 0]) := by kernel_rfl
theorem Tryz.pz61 : plainB (.agg #[.int .i64 0, .int .i64 0, .int .i64 0, .int .i64 0, .int .i64 0, .int .i64 0, .int .i64 0, .int .i64 0, .int .i64 0, .int .i64 0, .int .i64 0, .int .i64 0, .int .i64 0, .int .i64 0, .int .i64 0, .int .i64 0, .int .i64 0, .int .i64 0, .int .i64 0]) = true := by kernel_rfl
theorem Tryz.ag63 : tyAgg Tryz.prog 63 = some false := by kernel_rfl
theorem Tryz.sz63 : tySize Tryz.prog 63 = some 1 := by kernel_rfl
theorem Tryz.tmk63 : tyMk Tryz.prog 63 = true := by kernel_rfl
theorem Tryz.tptr63 : tyPtr Tryz.prog 63 = true := by kernel_rfl
theorem Tryz.by63 : tyBytes Tryz.prog 63 = some 8 := by kernel_rfl
theorem Tryz.zr63 : tyZero Tryz.prog 63 = some (.pointer none) := by kernel_rfl
theorem Tryz.ag64 : tyAgg Tryz.prog 64 = some true := by kernel_rfl
theorem Tryz.sz64 : tySize Tryz.prog 64 = some 2 := by kernel_rfl
theorem Tryz.fd64_0 : tyField Tryz.prog 64 0 = some (0, 27) := by kernel_rfl
theorem Tryz.fd64_1 : tyField Tryz.prog 64 1 = some (1, 3) := by kernel_rfl
theorem Tryz.tp64 : tyPlace Tryz.prog 64 = some fun i => ([(0, 1), (1, 1)] : List (Nat × Nat))[i]? := by kernel_rfl
theorem Tryz.tmk64 : tyMk Tryz.prog 64 = true := by kernel_rfl
theorem Tryz.by64 : tyBytes Tryz.prog 64 = some 16 := by kernel_rfl
theorem Tryz.zr64 : tyZero Tryz.prog 64 = some (.agg #[.pointer none, .int .i64 0]) := by kernel_rfl
theorem Tryz.pz64 : plainB (.agg #[.pointer none, .int .i64 0]) = true := by kernel_rfl
theorem Tryz.ag65 : tyAgg Tryz.prog 65 = some true := by kernel_rfl
theorem Tryz.sz65 : tySize Tryz.prog 65 = some 2 := by kernel_rfl
theorem Tryz.fd65_0 : tyField Tryz.prog 65 0 = some (0, 27) := by kernel_rfl
theorem Tryz.fd65_1 : tyField Tryz.prog 65 1 = some (1, 3) := by kernel_rfl
theorem Tryz.tp65 : tyPlace Tryz.prog 65 = some fun i => ([(0, 1), (1, 1)] : List (Nat × Nat))[i]? := by kernel_rfl
theorem Tryz.tmk65 : tyMk Tryz.prog 65 = true := by kernel_rfl
theorem Tryz.by65 : tyBytes Tryz.prog 65 = some 16 := by kernel_rfl
theorem Tryz.zr65 : tyZero Tryz.prog 65 = some (.agg #[.pointer none, .int .i64 0]) := by kernel_rfl
theorem Tryz.ag66 : tyAgg Tryz.prog 66 = some false := by kernel_rfl
theorem Tryz.sz66 : tySize Tryz.prog 66 = some 1 := by kernel_rfl
theorem Tryz.tmk66 : tyMk Tryz.prog 66 = true := by kernel_rfl
theorem Tryz.tptr66 : tyPtr Tryz.prog 66 = true := by kernel_rfl
theorem Tryz.by66 : tyBytes Tryz.prog 66 = some 8 := by kernel_rfl
theorem Tryz.zr66 : tyZero Tryz.prog 66 = some (.pointer none) := by kernel_rfl
theorem Tryz.ag67 : tyAgg Tryz.prog 67 = some true := by kernel_rfl
theorem Tryz.sz67 : tySize Tryz.prog 67 = some 3 := by kernel_rfl
theorem Tryz.fd67_0 : tyField Tryz.prog 67 0 = some (0, 63) := by kernel_rfl
theorem Tryz.fd67_1 : tyField Tryz.prog 67 1 = some (1, 3) := by kernel_rfl
theorem Tryz.fd67_2 : tyField Tryz.prog 67 2 = some (2, 66) := by kernel_rfl
theorem Tryz.tp67 : tyPlace Tryz.prog 67 = some fun i => ([(0, 1), (1, 1), (2, 1)] : List (Nat × Nat))[i]? := by kernel_rfl
theorem Tryz.tmk67 : tyMk Tryz.prog 67 = true := by kernel_rfl
theorem Tryz.by67 : tyBytes Tryz.prog 67 = some 24 := by kernel_rfl
theorem Tryz.zr67 : tyZero Tryz.prog 67 = some (.agg #[.pointer none, .int .i64 0, .pointer none]) := by kernel_rfl
theorem Tryz.pz67 : plainB (.agg #[.pointer none, .int .i64 0, .pointer none]) = true := by kernel_rfl
theorem Tryz.ag68 : tyAgg Tryz.prog 68 = some true := by kernel_rfl
theorem Tryz.sz68 : tySize Tryz.prog 68 = some 3 := by kernel_rfl
theorem Tryz.fd68_0 : tyField Tryz.prog 68 0 = some (0, 63) := by kernel_rfl
theorem Tryz.fd68_1 : tyField Tryz.prog 68 1 = some (1, 3) := by kernel_rfl
theorem Tryz.fd68_2 : tyField Tryz.prog 68 2 = some (2, 66) := by kernel_rfl
theorem Tryz.tp68 : tyPlace Tryz.prog 68 = some fun i => ([(0, 1), (1, 1), (2, 1)] : List (Nat × Nat))[i]? := by kernel_rfl
theorem Tryz.tmk68 : tyMk Tryz.prog 68 = true := by kernel_rfl
theorem Tryz.by68 : tyBytes Tryz.prog 68 = some 24 := by kernel_rfl
theorem Tryz.zr68 : tyZero Tryz.prog 68 = some (.agg #[.pointer none, .int .i64 0, .pointer none]) := by kernel_rfl
theorem Tryz.ag69 : tyAgg Tryz.prog 69 = some false := by kernel_rfl
theorem Tryz.sz69 : tySize Tryz.prog 69 = some 1 := by kernel_rfl
theorem Tryz.tif69 : tyIfc Tryz.prog 69 = true := by kernel_rfl
theorem Tryz.by69 : tyBytes Tryz.prog 69 = some 16 := by kernel_rfl
theorem Tryz.zr69 : tyZero Tryz.prog 69 = some (.nilIface) := by kernel_rfl
theorem Tryz.ag70 : tyAgg Tryz.prog 70 = some false := by kernel_rfl
theorem Tryz.sz70 : tySize Tryz.prog 70 = some 1 := by kernel_rfl
theorem Tryz.tif70 : tyIfc Tryz.prog 70 = true := by kernel_rfl
theorem Tryz.by70 : tyBytes Tryz.prog 70 = some 16 := by kernel_rfl
theorem Tryz.zr70 : tyZero Tryz.prog 70 = some (.nilIface) := by kernel_rfl
theorem Tryz.ag72 : tyAgg Tryz.prog 72 = some false := by kernel_rfl
theorem Tryz.sz72 : tySize Tryz.prog 72 = some 1 := by kernel_rfl
theorem Tryz.tmk72 : tyMk Tryz.prog 72 = true := by kernel_rfl
theorem Tryz.tptr72 : tyPtr Tryz.prog 72 = true := by kernel_rfl
theorem Tryz.by72 : tyBytes Tryz.prog 72 = some 8 := by kernel_rfl
theorem Tryz.zr72 : tyZero Tryz.prog 72 = some (.pointer none) := by kernel_rfl
theorem Tryz.ag73 : tyAgg Tryz.prog 73 = some true := by kernel_rfl
theorem Tryz.sz73 : tySize Tryz.prog 73 = some 24 := by kernel_rfl
theorem Tryz.fd73_0 : tyField Tryz.prog 73 0 = some (0, 70) := by kernel_rfl
theorem Tryz.fd73_1 : tyField Tryz.prog 73 1 = some (1, 24) := by kernel_rfl
theorem Tryz.fd73_2 : tyField Tryz.prog 73 2 = some (23, 43) := by kernel_rfl
theorem Tryz.tp73 : tyPlace Tryz.prog 73 = some fun i => ([(0, 1), (1, 22), (23, 1)] : List (Nat × Nat))[i]? := by kernel_rfl
theorem Tryz.tmk73 : tyMk Tryz.prog 73 = true := by kernel_rfl
theorem Tryz.by73 : tyBytes Tryz.prog 73 = some 200 := by kernel_rfl
theorem Tryz.zr73 : tyZero Tryz.prog 73 = some (.agg #[.nilIface, .int .i64 0, .int .i64 0, .int .i64 0, .int .i64 0, .int .i64 0, .int .i64 0, .int .i64 0, .int .i64 0, .int .i64 0, .int .i64 0, .int .i64 0, .int .i64 0, .int .i64 0, .int .i64 0, .int .i64 0, .int .i64 0, .int .i64 0, .int .i64 0, .int .i64 0, .int .i64 0, .int .i64 0, .int .i64 0, .int .u64 0]) := by kernel_rfl
theorem Tryz.pz73 : plainB (.agg #[.nilIface, .int .i64 0, .int .i64 0, .int .i64 0, .int .i64 0, .int .i64 0, .int .i64 0, .int .i64 0, .int .i64 0, .int .i64 0, .int .i64 0, .int .i64 0, .int .i64 0, .int .i64 0, .int .i64 0, .int .i64 0, .int .i64 0, .int .i64 0, .int .i64 0, .int .i64 0, .int .i64 0, .int .i64 0, .int .i64 0, .int .u64 0]) = true := by kernel_rfl
theorem Tryz.ag74 : tyAgg Tryz.prog 74 = some true := by kernel_rfl
theorem Tryz.sz74 : tySize Tryz.prog 74 = some 24 := by kernel_rfl
theorem Tryz.fd74_0 : tyField Tryz.prog 74 0 = some (0, 70) := by kernel_rfl
theorem Tryz.fd74_1 : tyField Tryz.prog 74 1 = some (1, 24) := by kernel_rfl
theorem Tryz.fd74_2 : tyField Tryz.prog 74 2 = some (23, 43) := by kernel_rfl
theorem Tryz.tp74 : tyPlace Tryz.prog 74 = some fun i => ([(0, 1), (1, 22), (23, 1)] : List (Nat × Nat))[i]? := by kernel_rfl
theorem Tryz.tmk74 : tyMk Tryz.prog 74 = true := by kernel_rfl
theorem Tryz.by74 : tyBytes Tryz.prog 74 = some 200 := by kernel_rfl
theorem Tryz.zr74 : tyZero Tryz.prog 74 = some (.agg #[.nilIface, .int .i64 0, .int .i64 0, .int .i64 0, .int .i64 0, .int .i64 0, .int .i64 0, .int .i64 0, .int .i64 0, .int .i64 0, .int .i64 0, .int .i64 0, .int .i64 0, .int .i64 0, .int .i64 0, .int .i64 0, .int .i64 0, .int .i64 0, .int .i64 0, .int .i64 0, .int .i64 0, .int .i64 0, .int .i64 0, .int .u64 0]) := by kernel_rfl
theorem Tryz.ag76 : tyAgg Tryz.prog 76 = some true := by kernel_rfl
theorem Tryz.sz76 : tySize Tryz.prog 76 = some 5 := by kernel_rfl
theorem Tryz.tp76 : tyPlace Tryz.prog 76 = some fun i => some (i * 1, 1) := by kernel_rfl
theorem Tryz.by76 : tyBytes Tryz.prog 76 = some 40 := by kernel_rfl
theorem Tryz.ar76 : tyArray Tryz.prog 76 = some (5, 75) := by kernel_rfl
theorem Tryz.zr76 : tyZero Tryz.prog 76 = some (.agg #[.nilFunc, .nilFunc, .nilFunc, .nilFunc, .nilFunc]) := by kernel_rfl
theorem Tryz.pz76 : plainB (.agg #[.nilFunc, .nilFunc, .nilFunc, .nilFunc, .nilFunc]) = true := by kernel_rfl
theorem Tryz.ag78 : tyAgg Tryz.prog 78 = some true := by kernel_rfl
theorem Tryz.sz78 : tySize Tryz.prog 78 = some 2 := by kernel_rfl
theorem Tryz.tp78 : tyPlace Tryz.prog 78 = some fun i => some (i * 1, 1) := by kernel_rfl
theorem Tryz.by78 : tyBytes Tryz.prog 78 = some 16 := by kernel_rfl
theorem Tryz.ar78 : tyArray Tryz.prog 78 = some (2, 75) := by kernel_rfl
theorem Tryz.zr78 : tyZero Tryz.prog 78 = some (.agg #[.nilFunc, .nilFunc]) := by kernel_rfl
theorem Tryz.pz78 : plainB (.agg #[.nilFunc, .nilFunc]) = true := by kernel_rfl
theorem Tryz.ag81 : tyAgg Tryz.prog 81 = some true := by kernel_rfl
theorem Tryz.sz81 : tySize Tryz.prog 81 = some 3 := by kernel_rfl
theorem Tryz.fd81_0 : tyField Tryz.prog 81 0 = some (0, 3) := by kernel_rfl
theorem Tryz.fd81_1 : tyField Tryz.prog 81 1 = some (1, 4) := by kernel_rfl
theorem Tryz.fd81_2 : tyField Tryz.prog 81 2 = some (2, 32) := by kernel_rfl
theorem Tryz.tp81 : tyPlace Tryz.prog 81 = some fun i => ([(0, 1), (1, 1), (2, 1)] : List (Nat × Nat))[i]? := by kernel_rfl
theorem Tryz.eql81 (y : Operand) (a0 b0 : Int) (a1 b1 : Bool) (a2 b2 : Int) : binOpA Tryz.prog .eql 81 y (.agg #[.int .i64 a0, .bool a1, .int .i64 a2]) (.agg #[.int .i64 b0, .bool b1, .int .i64 b2]) = some (.bool (a0 == b0 && (a1 == b1 && (a2 == b2 && true)))) := by kernel_rfl
theorem Tryz.neq81 (y : Operand) (a0 b0 : Int) (a1 b1 : Bool) (a2 b2 : Int) : binOpA Tryz.prog .neq 81 y (.agg #[.int .i64 a0, .bool a1, .int .i64 a2]) (.agg #[.int .i64 b0, .bool b1, .int .i64 b2]) = some (.bool !(a0 == b0 && (a1 == b1 && (a2 == b2 && true)))) := by kernel_rfl
theorem Tryz.tmk81 : tyMk Tryz.prog 81 = true := by kernel_rfl
theorem Tryz.by81 : tyBytes Tryz.prog 81 = some 24 := by kernel_rfl
theorem Tryz.zr81 : tyZero Tryz.prog 81 = some (.agg #[.int .i64 0, .bool false, .int .i64 0]) := by kernel_rfl
theorem Tryz.pz81 : plainB (.agg #[.int .i64 0, .bool false, .int .i64 0]) = true := by kernel_rfl
theorem Tryz.ag82 : tyAgg Tryz.prog 82 = some true := by kernel_rfl
theorem Tryz.sz82 : tySize Tryz.prog 82 = some 3 := by kernel_rfl
theorem Tryz.fd82_0 : tyField Tryz.prog 82 0 = some (0, 3) := by kernel_rfl
theorem Tryz.fd82_1 : tyField Tryz.prog 82 1 = some (1, 4) := by kernel_rfl
theorem Tryz.fd82_2 : tyField Tryz.prog 82 2 = some (2, 32) := by kernel_rfl
theorem Tryz.tp82 : tyPlace Tryz.prog 82 = some fun i => ([(0, 1), (1, 1), (2, 1)] : List (Nat × Nat))[i]? := by kernel_rfl
theorem Tryz.eql82 (y : Operand) (a0 b0 : Int) (a1 b1 : Bool) (a2 b2 : Int) : binOpA Tryz.prog .eql 82 y (.agg #[.int .i64 a0, .bool a1, .int .i64 a2]) (.agg #[.int .i64 b0, .bool b1, .int .i64 b2]) = some (.bool (a0 == b0 && (a1 == b1 && (a2 == b2 && true)))) := by kernel_rfl
theorem Tryz.neq82 (y : Operand) (a0 b0 : Int) (a1 b1 : Bool) (a2 b2 : Int) : binOpA Tryz.prog .neq 82 y (.agg #[.int .i64 a0, .bool a1, .int .i64 a2]) (.agg #[.int .i64 b0, .bool b1, .int .i64 b2]) = some (.bool !(a0 == b0 && (a1 == b1 && (a2 == b2 && true)))) := by kernel_rfl
theorem Tryz.tmk82 : tyMk Tryz.prog 82 = true := by kernel_rfl
theorem Tryz.by82 : tyBytes Tryz.prog 82 = some 24 := by kernel_rfl
theorem Tryz.zr82 : tyZero Tryz.prog 82 = some (.agg #[.int .i64 0, .bool false, .int .i64 0]) := by kernel_rfl
theorem Tryz.ag84 : tyAgg Tryz.prog 84 = some false := by kernel_rfl
theorem Tryz.sz84 : tySize Tryz.prog 84 = some 1 := by kernel_rfl
theorem Tryz.tsl84 : tySli Tryz.prog 84 = true := by kernel_rfl
theorem Tryz.by84 : tyBytes Tryz.prog 84 = some 24 := by kernel_rfl
theorem Tryz.sl84 : tySlice Tryz.prog 84 = some 75 := by kernel_rfl
theorem Tryz.zr84 : tyZero Tryz.prog 84 = some (.slice none 0 0) := by kernel_rfl
theorem Tryz.ag86 : tyAgg Tryz.prog 86 = some true := by kernel_rfl
theorem Tryz.sz86 : tySize Tryz.prog 86 = some 4 := by kernel_rfl
theorem Tryz.fd86_0 : tyField Tryz.prog 86 0 = some (0, 3) := by kernel_rfl
theorem Tryz.fd86_1 : tyField Tryz.prog 86 1 = some (1, 3) := by kernel_rfl
theorem Tryz.fd86_2 : tyField Tryz.prog 86 2 = some (2, 3) := by kernel_rfl
theorem Tryz.fd86_3 : tyField Tryz.prog 86 3 = some (3, 3) := by kernel_rfl
theorem Tryz.tp86 : tyPlace Tryz.prog 86 = some fun i => ([(0, 1), (1, 1), (2, 1), (3, 1)] : List (Nat × Nat))[i]? := by kernel_rfl
theorem Tryz.eql86 (y : Operand) (a0 b0 : Int) (a1 b1 : Int) (a2 b2 : Int) (a3 b3 : Int) : binOpA Tryz.prog .eql 86 y (.agg #[.int .i64 a0, .int .i64 a1, .int .i64 a2, .int .i64 a3]) (.agg #[.int .i64 b0, .int .i64 b1, .int .i64 b2, .int .i64 b3]) = some (.bool (a0 == b0 && (a1 == b1 && (a2 == b2 && (a3 == b3 && true))))) := by kernel_rfl
theorem Tryz.neq86 (y : Operand) (a0 b0 : Int) (a1 b1 : Int) (a2 b2 : Int) (a3 b3 : Int) : binOpA Tryz.prog .neq 86 y (.agg #[.int .i64 a0, .int .i64 a1, .int .i64 a2, .int .i64 a3]) (.agg #[.int .i64 b0, .int .i64 b1, .int .i64 b2, .int .i64 b3]) = some (.bool !(a0 == b0 && (a1 == b1 && (a2 == b2 && (a3 == b3 && true))))) := by kernel_rfl
theorem Tryz.tmk86 : tyMk Tryz.prog 86 = true := by kernel_rfl
theorem Tryz.by86 : tyBytes Tryz.prog 86 = some 32 := by kernel_rfl
theorem Tryz.zr86 : tyZero Tryz.prog 86 = some (.agg #[.int .i64 0, .int .i64 0, .int .i64 0, .int .i64 0]) := by kernel_rfl
theorem Tryz.pz86 : plainB (.agg #[.int .i64 0, .int .i64 0, .int .i64 0, .int .i64 0]) = true := by kernel_rfl
theorem Tryz.ag87 : tyAgg Tryz.prog 87 = some true := by kernel_rfl
theorem Tryz.sz87 : tySize Tryz.prog 87 = some 4 := by kernel_rfl
theorem Tryz.fd87_0 : tyField Tryz.prog 87 0 = some (0, 3) := by kernel_rfl
theorem Tryz.fd87_1 : tyField Tryz.prog 87 1 = some (1, 3) := by kernel_rfl
theorem Tryz.fd87_2 : tyField Tryz.prog 87 2 = some (2, 3) := by kernel_rfl
theorem Tryz.fd87_3 : tyField Tryz.prog 87 3 = some (3, 3) := by kernel_rfl
theorem Tryz.tp87 : tyPlace Tryz.prog 87 = some fun i => ([(0, 1), (1, 1), (2, 1), (3, 1)] : List (Nat × Nat))[i]? := by kernel_rfl
theorem Tryz.eql87 (y : Operand) (a0 b0 : Int) (a1 b1 : Int) (a2 b2 : Int) (a3 b3 : Int) : binOpA Tryz.prog .eql 87 y (.agg #[.int .i64 a0, .int .i64 a1, .int .i64 a2, .int .i64 a3]) (.agg #[.int .i64 b0, .int .i64 b1, .int .i64 b2, .int .i64 b3]) = some (.bool (a0 == b0 && (a1 == b1 && (a2 == b2 && (a3 == b3 && true))))) := by kernel_rfl
theorem Tryz.neq87 (y : Operand) (a0 b0 : Int) (a1 b1 : Int) (a2 b2 : Int) (a3 b3 : Int) : binOpA Tryz.prog .neq 87 y (.agg #[.int .i64 a0, .int .i64 a1, .int .i64 a2, .int .i64 a3]) (.agg #[.int .i64 b0, .int .i64 b1, .int .i64 b2, .int .i64 b3]) = some (.bool !(a0 == b0 && (a1 == b1 && (a2 == b2 && (a3 == b3 && true))))) := by kernel_rfl
theorem Tryz.tmk87 : tyMk Tryz.prog 87 = true := by kernel_rfl
theorem Tryz.by87 : tyBytes Tryz.prog 87 = some 32 := by kernel_rfl
theorem Tryz.zr87 : tyZero Tryz.prog 87 = some (.agg #[.int .i64 0, .int .i64 0, .int .i64 0, .int .i64 0]) := by kernel_rfl
theorem Tryz.ag97 : tyAgg Tryz.prog 97 = some true := by kernel_rfl
theorem Tryz.sz97 : tySize Tryz.prog 97 = some 4 := by kernel_rfl
theorem Tryz.fd97_0 : tyField Tryz.prog 97 0 = some (0, 5) := by kernel_rfl
theorem Tryz.fd97_1 : tyField Tryz.prog 97 1 = some (1, 3) := by kernel_rfl
theorem Tryz.fd97_2 : tyField Tryz.prog 97 2 = some (2, 43) := by kernel_rfl
theorem Tryz.fd97_3 : tyField Tryz.prog 97 3 = some (3, 43) := by kernel_rfl
theorem Tryz.tp97 : tyPlace Tryz.prog 97 = some fun i => ([(0, 1), (1, 1), (2, 1), (3, 1)] : List (Nat × Nat))[i]? := by kernel_rfl
theorem Tryz.eql97 (y : Operand) (a0 b0 : Int) (a1 b1 : Int) (a2 b2 : Int) (a3 b3 : Int) : binOpA Tryz.prog .eql 97 y (.agg #[.int .u8 a0, .int .i64 a1, .int .u64 a2, .int .u64 a3]) (.agg #[.int .u8 b0, .int .i64 b1, .int .u64 b2, .int .u64 b3]) = some (.bool (a0 == b0 && (a1 == b1 && (a2 == b2 && (a3 == b3 && true))))) := by kernel_rfl
theorem Tryz.neq97 (y : Operand) (a0 b0 : Int) (a1 b1 : Int) (a2 b2 : Int) (a3 b3 : Int) : binOpA Tryz.prog .neq 97 y (.agg #[.int .u8 a0, .int .i64 a1, .int .u64 a2, .int .u64 a3]) (.agg #[.int .u8 b0, .int .i64 b1, .int .u64 b2, .int .u64 b3]) = some (.bool !(a0 == b0 && (a1 == b1 && (a2 == b2 && (a3 == b3 && true))))) := by kernel_rfl
theorem Tryz.tmk97 : tyMk Tryz.prog 97 = true := by kernel_rfl
theorem Tryz.by97 : tyBytes Tryz.prog 97 = some 32 := by kernel_rfl
theorem Tryz.zr97 : tyZero Tryz.prog 97 = some (.agg #[.int .u8 0, .int .i64 0, .int .u64 0, .int .u64 0]) := by kernel_rfl
theorem Tryz.pz97 : plainB (.agg #[.int .u8 0, .int .i64 0, .int .u64 0, .int .u64 0]) = true := by kernel_rfl
theorem Tryz.ag98 : tyAgg Tryz.prog 98 = some true := by kernel_rfl
theorem Tryz.sz98 : tySize Tryz.prog 98 = some 4 := by kernel_rfl
theorem Tryz.fd98_0 : tyField Tryz.prog 98 0 = some (0, 5) := by kernel_rfl
theorem Tryz.fd98_1 : tyField Tryz.prog 98 1 = some (1, 3) := by kernel_rfl
theorem Tryz.fd98_2 : tyField Tryz.prog 98 2 = some (2, 43) := by kernel_rfl
theorem Tryz.fd98_3 : tyField Tryz.prog 98 3 = some (3, 43) := by kernel_rfl
theorem Tryz.tp98 : tyPlace Tryz.prog 98 = some fun i => ([(0, 1), (1, 1), (2, 1), (3, 1)] : List (Nat × Nat))[i]? := by kernel_rfl
theorem Tryz.eql98 (y : Operand) (a0 b0 : Int) (a1 b1 : Int) (a2 b2 : Int) (a3 b3 : Int) : binOpA Tryz.prog .eql 98 y (.agg #[.int .u8 a0, .int .i64 a1, .int .u64 a2, .int .u64 a3]) (.agg #[.int .u8 b0, .int .i64 b1, .int .u64 b2, .int .u64 b3]) = some (.bool (a0 == b0 && (a1 == b1 && (a2 == b2 && (a3 == b3 && true))))) := by kernel_rfl
theorem Tryz.neq98 (y : Operand) (a0 b0 : Int) (a1 b1 : Int) (a2 b2 : Int) (a3 b3 : Int) : binOpA Tryz.prog .neq 98 y (.agg #[.int .u8 a0, .int .i64 a1, .int .u64 a2, .int .u64 a3]) (.agg #[.int .u8 b0, .int .i64 b1, .int .u64 b2, .int .u64 b3]) = some (.bool !(a0 == b0 && (a1 == b1 && (a2 == b2 && (a3 == b3 && true))))) := by kernel_rfl
theorem Tryz.tmk98 : tyMk Tryz.prog 98 = true := by kernel_rfl
theorem Tryz.by98 : tyBytes Tryz.prog 98 = some 32 := by kernel_rfl
theorem Tryz.zr98 : tyZero Tryz.prog 98 = some (.agg #[.int .u8 0, .int .i64 0, .int .u64 0, .int .u64 0]) := by kernel_rfl
theorem Tryz.ag102 : tyAgg Tryz.prog 102 = some true := by kernel_rfl
theorem Tryz.sz102 : tySize Tryz.prog 102 = some 4 := by kernel_rfl
theorem Tryz.fd102_0 : tyField Tryz.prog 102 0 = some (0, 5) := by kernel_rfl
theorem Tryz.fd102_1 : tyField Tryz.prog 102 1 = some (1, 4) := by kernel_rfl
theorem Tryz.fd102_2 : tyField Tryz.prog 102 2 = some (2, 3) := by kernel_rfl
theorem Tryz.fd102_3 : tyField Tryz.prog 102 3 = some (3, 39) := by kernel_rfl
theorem Tryz.tp102 : tyPlace Tryz.prog 102 = some fun i => ([(0, 1), (1, 1), (2, 1), (3, 1)] : List (Nat × Nat))[i]? := by kernel_rfl
theorem Tryz.eql102 (y : Operand) (a0 b0 : Int) (a1 b1 : Bool) (a2 b2 : Int) (a3 b3 : Int) : binOpA Tryz.prog .eql 102 y (.agg #[.int .u8 a0, .bool a1, .int .i64 a2, .int .u32 a3]) (.agg #[.int .u8 b0, .bool b1, .int .i64 b2, .int .u32 b3]) = some (.bool (a0 == b0 && (a1 == b1 && (a2 == b2 && (a3 == b3 && true))))) := by kernel_rfl
theorem Tryz.neq102 (y : Operand) (a0 b0 : Int) (a1 b1 : Bool) (a2 b2 : Int) (a3 b3 : Int) : binOpA Tryz.prog .neq 102 y (.agg #[.int .u8 a0, .bool a1, .int .i64 a2, .int .u32 a3]) (.agg #[.int .u8 b0, .bool b1, .int .i64 b2, .int .u32 b3]) = some (.bool !(a0 == b0 && (a1 == b1 && (a2 == b2 && (a3 == b3 && true))))) := by kernel_rfl
theorem Tryz.tmk102 : tyMk Tryz.prog 102 = true := by kernel_rfl
theorem Tryz.by102 : tyBytes Tryz.prog 102 = some 24 := by kernel_rfl
theorem Tryz.zr102 : tyZero Tryz.prog 102 = some (.agg #[.int .u8 0, .bool false, .int .i64 0, .int .u32 0]) := by kernel_rfl
theorem Tryz.pz102 : plainB (.agg #[.int .u8 0, .bool false, .int .i64 0, .int .u32 0]) = true := by kernel_rfl
theorem Tryz.ag103 : tyAgg Tryz.prog 103 = some true := by kernel_rfl
theorem Tryz.sz103 : tySize Tryz.prog 103 = some 4 := by kernel_rfl
theorem Tryz.fd103_0 : tyField Tryz.prog 103 0 = some (0, 5) := by kernel_rfl
theorem Tryz.fd103_1 : tyField Tryz.prog 103 1 = some (1, 4) := by kernel_rfl
theorem Tryz.fd103_2 : tyField Tryz.prog 103 2 = some (2, 3) := by kernel_rfl
theorem Tryz.fd103_3 : tyField Tryz.prog 103 3 = some (3, 39) := by kernel_rfl
theorem Tryz.tp103 : tyPlace Tryz.prog 103 = some fun i => ([(0, 1), (1, 1), (2, 1), (3, 1)] : List (Nat × Nat))[i]? := by kernel_rfl
theorem Tryz.eql103 (y : Operand) (a0 b0 : Int) (a1 b1 : Bool) (a2 b2 : Int) (a3 b3 : Int) : binOpA Tryz.prog .eql 103 y (.agg #[.int .u8 a0, .bool a1, .int .i64 a2, .int .u32 a3]) (.agg #[.int .u8 b0, .bool b1, .int .i64 b2, .int .u32 b3]) = some (.bool (a0 == b0 && (a1 == b1 && (a2 == b2 && (a3 == b3 && true))))) := by kernel_rfl
theorem Tryz.neq103 (y : Operand) (a0 b0 : Int) (a1 b1 : Bool) (a2 b2 : Int) (a3 b3 : Int) : binOpA Tryz.prog .neq 103 y (.agg #[.int .u8 a0, .bool a1, .int .i64 a2, .int .u32 a3]) (.agg #[.int .u8 b0, .bool b1, .int .i64 b2, .int .u32 b3]) = some (.bool !(a0 == b0 && (a1 == b1 && (a2 == b2 && (a3 == b3 && true))))) := by kernel_rfl
theorem Tryz.tmk103 : tyMk Tryz.prog 103 = true := by kernel_rfl
theorem Tryz.by103 : tyBytes Tryz.prog 103 = some 24 := by kernel_rfl
theorem Tryz.zr103 : tyZero Tryz.prog 103 = some (.agg #[.int .u8 0, .bool false, .int .i64 0, .int .u32 0]) := by kernel_rfl
theorem Tryz.ag106 : tyAgg Tryz.prog 106 = some true := by kernel_rfl
theorem Tryz.sz106 : tySize Tryz.prog 106 = some 23 := by kernel_rfl
theorem Tryz.fd106_0 : tyField Tryz.prog 106 0 = some (0, 70) := by kernel_rfl
theorem Tryz.fd106_1 : tyField Tryz.prog 106 1 = some (1, 24) := by kernel_rfl
theorem Tryz.tp106 : tyPlace Tryz.prog 106 = some fun i => ([(0, 1), (1, 22)] : List (Nat × Nat))[i]? := by kernel_rfl
theorem Tryz.tmk106 : tyMk Tryz.prog 106 = true := by kernel_rfl
theorem Tryz.by106 : tyBytes Tryz.prog 106 = some 192 := by kernel_rfl
theorem Tryz.zr106 : tyZero Tryz.prog 106 = some (.agg #[.nilIface, .int .i64 0, .int .i64 0, .int .i64 0, .int .i64 0, .int .i64 0, .int .i64 0, .int .i64 0, .int .i64 0, .int .i64 0, .int .i64 0, .int .i64 0, .int .i64 0, .int .i64 0, .int .i64 0, .int .i64 0, .int .i64 0, .int .i64 0, .int .i64 0, .int .i64 0, .int .i64 0, .int .i64 0, .int .i64 0]) := by kernel_rfl
theorem Tryz.pz106 : plainB (.agg #[.nilIface, .int .i64 0, .int .i64 0, .int .i64 0, .int .i64 0, .int .i64 0, .int .i64 0, .int .i64 0, .int .i64 0, .int .i64 0, .int .i64 0, .int .i64 0, .int .i64 0, .int .i64 0, .int .i64 0, .int .i64 0, .int .i64 0, .int .i64 0, .int .i64 0, .int .i64 0, .int .i64 0, .int .i64 0, .int .i64 0]) = true := by kernel_rfl
theorem Tryz.ag107 : tyAgg Tryz.prog 107 = some true := by kernel_rfl
theorem Tryz.sz107 : tySize Tryz.prog 107 = some 23 := by kernel_rfl
theorem Tryz.fd107_0 : tyField Tryz.prog 107 0 = some (0, 70) := by kernel_rfl
theorem Tryz.fd107_1 : tyField Tryz.prog 107 1 = some (1, 24) := by kernel_rfl
theorem Tryz.tp107 : tyPlace Tryz.prog 107 = some fun i => ([(0, 1), (1, 22)] : List (Nat × Nat))[i]? := by kernel_rfl
theorem Tryz.tmk107 : tyMk Tryz.prog 107 = true := by kernel_rfl
theorem Tryz.by107 : tyBytes Tryz.prog 107 = some 192 := by kernel_rfl
theorem Tryz.zr107 : tyZero Tryz.prog 107 = some (.agg #[.nilIface, .int .i64 0, .int .i64 0, .int .i64 0, .int .i64 0, .int .i64 0, .int .i64 0, .int .i64 0, .int .i64 0, .int .i64 0, .int .i64 0, .int .i64 0, .int .i64 0, .int .i64 0, .int .i64 0, .int .i64 0, .int .i64 0, .int .i64 0, .int .i64 0, .int .i64 0, .int .i64 0, .int .i64 0, .int .i64 0]) := by kernel_rfl
theorem Tryz.ag110 : tyAgg Tryz.prog 110 = some true := by kernel_rfl
theorem Tryz.sz110 : tySize Tryz.prog 110 = some 23 := by kernel_rfl
theorem Tryz.fd110_0 : tyField Tryz.prog 110 0 = some (0, 70) := by kernel_rfl
theorem Tryz.fd110_1 : tyField Tryz.prog 110 1 = some (1, 24) := by kernel_rfl
theorem Tryz.tp110 : tyPlace Tryz.prog 110 = some fun i => ([(0, 1), (1, 22)] : List (Nat × Nat))[i]? := by kernel_rfl
theorem Tryz.tmk110 : tyMk Tryz.prog 110 = true := by kernel_rfl
theorem Tryz.by110 : tyBytes Tryz.prog 110 = some 192 := by kernel_rfl
theorem Tryz.zr110 : tyZero Tryz.prog 110 = some (.agg #[.nilIface, .int .i64 0, .int .i64 0, .int .i64 0, .int .i64 0, .int .i64 0, .int .i64 0, .int .i64 0, .int .i64 0, .int .i64 0, .int .i64 0, .int .i64 0, .int .i64 0, .int .i64 0, .int .i64 0, .int .i64 0, .int .i64 0, .int .i64 0, .int .i64 0, .int .i64 0, .int .i64 0, .int .i64 0, .int .i64 0]) := by kernel_rfl
theorem Tryz.ag111 : tyAgg Tryz.prog 111 = some true := by kernel_rfl
theorem Tryz.sz111 : tySize Tryz.prog 111 = some 23 := by kernel_rfl
theorem Tryz.fd111_0 : tyField Tryz.prog 111 0 = some (0, 70) := by kernel_rfl
theorem Tryz.fd111_1 : tyField Tryz.prog 111 1 = some (1, 24) := by kernel_rfl
theorem Tryz.tp111 : tyPlace Tryz.prog 111 = some fun i => ([(0, 1), (1, 22)] : List (Nat × Nat))[i]? := by kernel_rfl
theorem Tryz.tmk111 : tyMk Tryz.prog 111 = true := by kernel_rfl
theorem Tryz.by111 : tyBytes Tryz.prog 111 = some 192 := by kernel_rfl
theorem Tryz.zr111 : tyZero Tryz.prog 111 = some (.agg #[.nilIface, .int .i64 0, .int .i64 0, .int .i64 0, .int .i64 0, .int .i64 0, .int .i64 0, .int .i64 0, .int .i64 0, .int .i64 0, .int .i64 0, .int .i64 0, .int .i64 0, .int .i64 0, .int .i64 0, .int .i64 0, .int .i64 0, .int .i64 0, .int .i64 0, .int .i64 0, .int .i64 0, .int .i64 0, .int .i64 0]) := by kernel_rfl
theorem Tryz.ag112 : tyAgg Tryz.prog 112 = some true := by kernel_rfl
theorem Tryz.sz112 : tySize Tryz.prog 112 = some 24 := by kernel_rfl
theorem Tryz.fd112_0 : tyField Tryz.prog 112 0 = some (0, 111) := by kernel_rfl
theorem Tryz.fd112_1 : tyField Tryz.prog 112 1 = some (23, 3) := by kernel_rfl
theorem Tryz.tp112 : tyPlace Tryz.prog 112 = some fun i => ([(0, 23), (23, 1)] : List (Nat × Nat))[i]? := by kernel_rfl
theorem Tryz.tmk112 : tyMk Tryz.prog 112 = true := by kernel_rfl
theorem Tryz.by112 : tyBytes Tryz.prog 112 = some 200 := by kernel_rfl
theorem Tryz.zr112 : tyZero Tryz.prog 112 = some (.agg #[.nilIface, .int .i64 0, .int .i64 0, .int .i64 0, .int .i64 0, .int .i64 0, .int .i64 0, .int .i64 0, .int .i64 0, .int .i64 0, .int .i64 0, .int .i64 0, .int .i64 0, .int .i64 0, .int .i64 0, .int .i64 0, .int .i64 0, .int .i64 0, .int .i64 0, .int .i64 0, .int .i64 0, .int .i64 0, .int .i64 0, .int .i64 0]) := by kernel_rfl
theorem Tryz.pz112 : plainB (.agg #[.nilIface, .int .i64 0, .int .i64 0, .int .i64 0, .int .i64 0, .int .i64 0, .int .i64 0, .int .i64 0, .int .i64 0, .int .i64 0, .int .i64 0, .int .i64 0, .int .i64 0, .int .i64 0, .int .i64 0, .int .i64 0, .int .i64 0, .int .i64 0, .int .i64 0, .int .i64 0, .int .i64 0, .int .i64 0, .int .i64 0, .int .i64 0]) = true := by kernel_rfl
theorem Tryz.ag113 : tyAgg Tryz.prog 113 = some true := by kernel_rfl
theorem Tryz.sz113 : tySize Tryz.prog 113 = some 24 := by kernel_rfl
theorem Tryz.fd113_0 : tyField Tryz.prog 113 0 = some (0, 111) := by kernel_rfl
theorem Tryz.fd113_1 : tyField Tryz.prog 113 1 = some (23, 3) := by kernel_rfl
theorem Tryz.tp113 : tyPlace Tryz.prog 113 = some fun i => ([(0, 23), (23, 1)] : List (Nat × Nat))[i]? := by kernel_rfl
theorem Tryz.tmk113 : tyMk Tryz.prog 113 = true := by kernel_rfl
theorem Tryz.by113 : tyBytes Tryz.prog 113 = some 200 := by kernel_rfl
theorem Tryz.zr113 : tyZero Tryz.prog 113 = some (.agg #[.nilIface, .int .i64 0, .int .i64 0, .int .i64 0, .int .i64 0, .int .i64 0, .int .i64 0, .int .i64 0, .int .i64 0, .int .i64 0, .int .i64 0, .int .i64 0, .int .i64 0, .int .i64 0, .int .i64 0, .int .i64 0, .int .i64 0, .int .i64 0, .int .i64 0, .int .i64 0, .int .i64 0, .int .i64 0, .int .i64 0, .int .i64 0]) := by kernel_rfl
theorem Tryz.ag129 : tyAgg Tryz.prog 129 = some true := by kernel_rfl
theorem Tryz.sz129 : tySize Tryz.prog 129 = some 5 := by kernel_rfl
theorem Tryz.tp129 : tyPlace Tryz.prog 129 = some fun i => some (i * 1, 1) := by kernel_rfl
theorem Tryz.by129 : tyBytes Tryz.prog 129 = some 40 := by kernel_rfl
theorem Tryz.ar129 : tyArray Tryz.prog 129 = some (5, 128) := by kernel_rfl
theorem Tryz.zr129 : tyZero Tryz.prog 129 = some (.agg #[.nilFunc, .nilFunc, .nilFunc, .nilFunc, .nilFunc]) := by kernel_rfl
theorem Tryz.ag131 : tyAgg Tryz.prog 131 = some false := by kernel_rfl
theorem Tryz.sz131 : tySize Tryz.prog 131 = some 1 := by kernel_rfl
theorem Tryz.tsl131 : tySli Tryz.prog 131 = true := by kernel_rfl
theorem Tryz.by131 : tyBytes Tryz.prog 131 = some 24 := by kernel_rfl
theorem Tryz.sl131 : tySlice Tryz.prog 131 = some 43 := by kernel_rfl
theorem Tryz.zr131 : tyZero Tryz.prog 131 = some (.slice none 0 0) := by kernel_rfl
theorem Tryz.ag132 : tyAgg Tryz.prog 132 = some false := by kernel_rfl
theorem Tryz.sz132 : tySize Tryz.prog 132 = some 1 := by kernel_rfl
theorem Tryz.tsl132 : tySli Tryz.prog 132 = true := by kernel_rfl
theorem Tryz.by132 : tyBytes Tryz.prog 132 = some 24 := by kernel_rfl
theorem Tryz.sl132 : tySlice Tryz.prog 132 = some 5 := by kernel_rfl
theorem Tryz.zr132 : tyZero Tryz.prog 132 = some (.slice none 0 0) := by kernel_rfl
theorem Tryz.ag133 : tyAgg Tryz.prog 133 = some true := by kernel_rfl
theorem Tryz.sz133 : tySize Tryz.prog 133 = some 2 := by kernel_rfl
theorem Tryz.fd133_0 : tyField Tryz.prog 133 0 = some (0, 131) := by kernel_rfl
theorem Tryz.fd133_1 : tyField Tryz.prog 133 1 = some (1, 132) := by kernel_rfl
theorem Tryz.tp133 : tyPlace Tryz.prog 133 = some fun i => ([(0, 1), (1, 1)] : List (Nat × Nat))[i]? := by kernel_rfl
theorem Tryz.tmk133 : tyMk Tryz.prog 133 = true := by kernel_rfl
theorem Tryz.by133 : tyBytes Tryz.prog 133 = some 48 := by kernel_rfl
theorem Tryz.zr133 : tyZero Tryz.prog 133 = some (.agg #[.slice none 0 0, .slice none 0 0]) := by kernel_rfl
theorem Tryz.pz133 : plainB (.agg #[.slice none 0 0, .slice none 0 0]) = true := by kernel_rfl
theorem Tryz.ag134 : tyAgg Tryz.prog 134 = some true := by kernel_rfl
theorem Tryz.sz134 : tySize Tryz.prog 134 = some 2 := by kernel_rfl
theorem Tryz.fd134_0 : tyField Tryz.prog 134 0 = some (0, 131) := by kernel_rfl
theorem Tryz.fd134_1 : tyField Tryz.prog 134 1 = some (1, 132) := by kernel_rfl
theorem Tryz.tp134 : tyPlace Tryz.prog 134 = some fun i => ([(0, 1), (1, 1)] : List (Nat × Nat))[i]? := by kernel_rfl
theorem Tryz.tmk134 : tyMk Tryz.prog 134 = true := by kernel_rfl
theorem Tryz.by134 : tyBytes Tryz.prog 134 = some 48 := by kernel_rfl
theorem Tryz.zr134 : tyZero Tryz.prog 134 = some (.agg #[.slice none 0 0, .slice none 0 0]) := by kernel_rfl
theorem Tryz.ag151 : tyAgg Tryz.prog 151 = some true := by kernel_rfl
theorem Tryz.sz151 : tySize Tryz.prog 151 = some 3 := by kernel_rfl
theorem Tryz.fd151_0 : tyField Tryz.prog 151 0 = some (0, 3) := by kernel_rfl
theorem Tryz.fd151_1 : tyField Tryz.prog 151 1 = some (1, 3) := by kernel_rfl
theorem Tryz.fd151_2 : tyField Tryz.prog 151 2 = some (2, 3) := by kernel_rfl
theorem Tryz.tp151 : tyPlace Tryz.prog 151 = some fun i => ([(0, 1), (1, 1), (2, 1)] : List (Nat × Nat))[i]? := by kernel_rfl
theorem Tryz.eql151 (y : Operand) (a0 b0 : Int) (a1 b1 : Int) (a2 b2 : Int) : binOpA Tryz.prog .eql 151 y (.agg #[.int .i64 a0, .int .i64 a1, .int .i64 a2]) (.agg #[.int .i64 b0, .int .i64 b1, .int .i64 b2]) = some (.bool (a0 == b0 && (a1 == b1 && (a2 == b2 && true)))) := by kernel_rfl
theorem Tryz.neq151 (y : Operand) (a0 b0 : Int) (a1 b1 : Int) (a2 b2 : Int) : binOpA Tryz.prog .neq 151 y (.agg #[.int .i64 a0, .int .i64 a1, .int .i64 a2]) (.agg #[.int .i64 b0, .int .i64 b1, .int .i64 b2]) = some (.bool !(a0 == b0 && (a1 == b1 && (a2 == b2 && true)))) := by kernel_rfl
theorem Tryz.tmk151 : tyMk Tryz.prog 151 = true := by kernel_rfl
theorem Tryz.by151 : tyBytes Tryz.prog 151 = some 24 := by kernel_rfl
theorem Tryz.zr151 : tyZero Tryz.prog 151 = some (.agg #[.int .i64 0, .int .i64 0, .int .i64 0]) := by kernel_rfl
theorem Tryz.pz151 : plainB (.agg #[.int .i64 0, .int .i64 0, .int .i64 0]) = true := by kernel_rfl
theorem Tryz.ag152 : tyAgg Tryz.prog 152 = some true := by kernel_rfl
theorem Tryz.sz152 : tySize Tryz.prog 152 = some 3 := by kernel_rfl
theorem Tryz.fd152_0 : tyField Tryz.prog 152 0 = some (0, 3) := by kernel_rfl
theorem Tryz.fd152_1 : tyField Tryz.prog 152 1 = some (1, 3) := by kernel_rfl
theorem Tryz.fd152_2 : tyField Tryz.prog 152 2 = some (2, 3) := by kernel_rfl
theorem Tryz.tp152 : tyPlace Tryz.prog 152 = some fun i => ([(0, 1), (1, 1), (2, 1)] : List (Nat × Nat))[i]? := by kernel_rfl
theorem Tryz.eql152 (y : Operand) (a0 b0 : Int) (a1 b1 : Int) (a2 b2 : Int) : binOpA Tryz.prog .eql 152 y (.agg #[.int .i64 a0, .int .i64 a1, .int .i64 a2]) (.agg #[.int .i64 b0, .int .i64 b1, .int .i64 b2]) = some (.bool (a0 == b0 && (a1 == b1 && (a2 == b2 && true)))) := by kernel_rfl
theorem Tryz.neq152 (y : Operand) (a0 b0 : Int) (a1 b1 : Int) (a2 b2 : Int) : binOpA Tryz.prog .neq 152 y (.agg #[.int .i64 a0, .int .i64 a1, .int .i64 a2]) (.agg #[.int .i64 b0, .int .i64 b1, .int .i64 b2]) = some (.bool !(a0 == b0 && (a1 == b1 && (a2 == b2 && true)))) := by kernel_rfl
theorem Tryz.tmk152 : tyMk Tryz.prog 152 = true := by kernel_rfl
theorem Tryz.by152 : tyBytes Tryz.prog 152 = some 24 := by kernel_rfl
theorem Tryz.zr152 : tyZero Tryz.prog 152 = some (.agg #[.int .i64 0, .int .i64 0, .int .i64 0]) := by kernel_rfl
theorem Tryz.ag153 : tyAgg Tryz.prog 153 = some true := by kernel_rfl
theorem Tryz.sz153 : tySize Tryz.prog 153 = some 12 := by kernel_rfl
theorem Tryz.tp153 : tyPlace Tryz.prog 153 = some fun i => some (i * 3, 3) := by kernel_rfl
theorem Tryz.by153 : tyBytes Tryz.prog 153 = some 96 := by kernel_rfl
theorem Tryz.ar153 : tyArray Tryz.prog 153 = some (4, 152) := by kernel_rfl
theorem Tryz.zr153 : tyZero Tryz.prog 153 = some (.agg #[.int .i64 0, .int .i64 0, .int .i64 0, .int .i64 0, .int .i64 0, .int .i64 0, .int .i64 0, .int .i64 0, .int .i64 0, .int .i64 0, .int .i64 0, .int .i64 0]) := by kernel_rfl
theorem Tryz.pz153 : plainB (.agg #[.int .i64 0, .int .i64 0, .int .i64 0, .int .i64 0, .int .i64 0, .int .i64 0, .int .i64 0, .int .i64 0, .int .i64 0, .int .i64 0, .int .i64 0, .int .i64 0]) = true := by kernel_rfl
theorem Tryz.ag155 : tyAgg Tryz.prog 155 = some true := by kernel_rfl
theorem Tryz.sz155 : tySize Tryz.prog 155 = some 3 := by kernel_rfl
theorem Tryz.fd155_0 : tyField Tryz.prog 155 0 = some (0, 3) := by kernel_rfl
theorem Tryz.fd155_1 : tyField Tryz.prog 155 1 = some (1, 3) := by kernel_rfl
theorem Tryz.fd155_2 : tyField Tryz.prog 155 2 = some (2, 3) := by kernel_rfl
theorem Tryz.tp155 : tyPlace Tryz.prog 155 = some fun i => ([(0, 1), (1, 1), (2, 1)] : List (Nat × Nat))[i]? := by kernel_rfl
theorem Tryz.eql155 (y : Operand) (a0 b0 : Int) (a1 b1 : Int) (a2 b2 : Int) : binOpA Tryz.prog .eql 155 y (.agg #[.int .i64 a0, .int .i64 a1, .int .i64 a2]) (.agg #[.int .i64 b0, .int .i64 b1, .int .i64 b2]) = some (.bool (a0 == b0 && (a1 == b1 && (a2 == b2 && true)))) := by kernel_rfl
theorem Tryz.neq155 (y : Operand) (a0 b0 : Int) (a1 b1 : Int) (a2 b2 : Int) : binOpA Tryz.prog .neq 155 y (.agg #[.int .i64 a0, .int .i64 a1, .int .i64 a2]) (.agg #[.int .i64 b0, .int .i64 b1, .int .i64 b2]) = some (.bool !(a0 == b0 && (a1 == b1 && (a2 == b2 && true)))) := by kernel_rfl
theorem Tryz.tmk155 : tyMk Tryz.prog 155 = true := by kernel_rfl
theorem Tryz.by155 : tyBytes Tryz.prog 155 = some 24 := by kernel_rfl
theorem Tryz.zr155 : tyZero Tryz.prog 155 = some (.agg #[.int .i64 0, .int .i64 0, .int .i64 0]) := by kernel_rfl
theorem Tryz.ag156 : tyAgg Tryz.prog 156 = some true := by kernel_rfl
theorem Tryz.sz156 : tySize Tryz.prog 156 = some 3 := by kernel_rfl
theorem Tryz.fd156_0 : tyField Tryz.prog 156 0 = some (0, 3) := by kernel_rfl
theorem Tryz.fd156_1 : tyField Tryz.prog 156 1 = some (1, 3) := by kernel_rfl
theorem Tryz.fd156_2 : tyField Tryz.prog 156 2 = some (2, 3) := by kernel_rfl
theorem Tryz.tp156 : tyPlace Tryz.prog 156 = some fun i => ([(0, 1), (1, 1), (2, 1)] : List (Nat × Nat))[i]? := by kernel_rfl
theorem Tryz.eql156 (y : Operand) (a0 b0 : Int) (a1 b1 : Int) (a2 b2 : Int) : binOpA Tryz.prog .eql 156 y (.agg #[.int .i64 a0, .int .i64 a1, .int .i64 a2]) (.agg #[.int .i64 b0, .int .i64 b1, .int .i64 b2]) = some (.bool (a0 == b0 && (a1 == b1 && (a2 == b2 && true)))) := by kernel_rfl
theorem Tryz.neq156 (y : Operand) (a0 b0 : Int) (a1 b1 : Int) (a2 b2 : Int) : binOpA Tryz.prog .neq 156 y (.agg #[.int .i64 a0, .int .i64 a1, .int .i64 a2]) (.agg #[.int .i64 b0, .int .i64 b1, .int .i64 b2]) = some (.bool !(a0 == b0 && (a1 == b1 && (a2 == b2 && true)))) := by kernel_rfl
theorem Tryz.tmk156 : tyMk Tryz.prog 156 = true := by kernel_rfl
theorem Tryz.by156 : tyBytes Tryz.prog 156 = some 24 := by kernel_rfl
theorem Tryz.zr156 : tyZero Tryz.prog 156 = some (.agg #[.int .i64 0, .int .i64 0, .int .i64 0]) := by kernel_rfl
theorem Tryz.ag165 : tyAgg Tryz.prog 165 = some false := by kernel_rfl
theorem Tryz.sz165 : tySize Tryz.prog 165 = some 1 := by kernel_rfl
theorem Tryz.tsl165 : tySli Tryz.prog 165 = true := by kernel_rfl
theorem Tryz.by165 : tyBytes Tryz.prog 165 = some 24 := by kernel_rfl
theorem Tryz.sl165 : tySlice Tryz.prog 165 = some 152 := by kernel_rfl
theorem Tryz.zr165 : tyZero Tryz.prog 165 = some (.slice none 0 0) := by kernel_rfl
theorem Tryz.ag171 : tyAgg Tryz.prog 171 = some false := by kernel_rfl
theorem Tryz.sz171 : tySize Tryz.prog 171 = some 1 := by kernel_rfl
theorem Tryz.tmk171 : tyMk Tryz.prog 171 = true := by kernel_rfl
theorem Tryz.by171 : tyBytes Tryz.prog 171 = some 8 := by kernel_rfl
theorem Tryz.zr171 : tyZero Tryz.prog 171 = some (.int .u64 0) := by kernel_rfl
theorem Tryz.ag173 : tyAgg Tryz.prog 173 = some true := by kernel_rfl
theorem Tryz.sz173 : tySize Tryz.prog 173 = some 4 := by kernel_rfl
theorem Tryz.fd173_0 : tyField Tryz.prog 173 0 = some (0, 17) := by kernel_rfl
theorem Tryz.fd173_1 : tyField Tryz.prog 173 1 = some (1, 17) := by kernel_rfl
theorem Tryz.fd173_2 : tyField Tryz.prog 173 2 = some (2, 17) := by kernel_rfl
theorem Tryz.fd173_3 : tyField Tryz.prog 173 3 = some (3, 9) := by kernel_rfl
theorem Tryz.tp173 : tyPlace Tryz.prog 173 = some fun i => ([(0, 1), (1, 1), (2, 1), (3, 1)] : List (Nat × Nat))[i]? := by kernel_rfl
theorem Tryz.tmk173 : tyMk Tryz.prog 173 = true := by kernel_rfl
theorem Tryz.by173 : tyBytes Tryz.prog 173 = some 40 := by kernel_rfl
theorem Tryz.zr173 : tyZero Tryz.prog 173 = some (.agg #[.pointer none, .pointer none, .pointer none, .string ⟨#[]⟩]) := by kernel_rfl
theorem Tryz.pz173 : plainB (.agg #[.pointer none, .pointer none, .pointer none, .string ⟨#[]⟩]) = true := by kernel_rfl
theorem Tryz.ag174 : tyAgg Tryz.prog 174 = some true := by kernel_rfl
theorem Tryz.sz174 : tySize Tryz.prog 174 = some 4 := by kernel_rfl
theorem Tryz.fd174_0 : tyField Tryz.prog 174 0 = some (0, 17) := by kernel_rfl
theorem Tryz.fd174_1 : tyField Tryz.prog 174 1 = some (1, 17) := by kernel_rfl
theorem Tryz.fd174_2 : tyField Tryz.prog 174 2 = some (2, 17) := by kernel_rfl
theorem Tryz.fd174_3 : tyField Tryz.prog 174 3 = some (3, 9) := by kernel_rfl
theorem Tryz.tp174 : tyPlace Tryz.prog 174 = some fun i => ([(0, 1), (1, 1), (2, 1), (3, 1)] : List (Nat × Nat))[i]? := by kernel_rfl
theorem Tryz.tmk174 : tyMk Tryz.prog 174 = true := by kernel_rfl
theorem Tryz.by174 : tyBytes Tryz.prog 174 = some 40 := by kernel_rfl
theorem Tryz.zr174 : tyZero Tryz.prog 174 = some (.agg #[.pointer none, .pointer none, .pointer none, .string ⟨#[]⟩]) := by kernel_rfl
theorem Tryz.ag175 : tyAgg Tryz.prog 175 = some true := by kernel_rfl
theorem Tryz.sz175 : tySize Tryz.prog 175 = some 0 := by kernel_rfl
theorem Tryz.tp175 : tyPlace Tryz.prog 175 = some fun i => some (i * 1, 1) := by kernel_rfl
theorem Tryz.by175 : tyBytes Tryz.prog 175 = some 0 := by kernel_rfl
theorem Tryz.ar175 : tyArray Tryz.prog 175 = some (0, 16) := by kernel_rfl
theorem Tryz.zr175 : tyZero Tryz.prog 175 = some (.agg #[]) := by kernel_rfl
theorem Tryz.pz175 : plainB (.agg #[]) = true := by kernel_rfl
theorem Tryz.ag176 : tyAgg Tryz.prog 176 = some true := by kernel_rfl
theorem Tryz.sz176 : tySize Tryz.prog 176 = some 0 := by kernel_rfl
theorem Tryz.fd176_0 : tyField Tryz.prog 176 0 = some (0, 175) := by kernel_rfl
theorem Tryz.tp176 : tyPlace Tryz.prog 176 = some fun i => ([(0, 0)] : List (Nat × Nat))[i]? := by kernel_rfl
theorem Tryz.tmk176 : tyMk Tryz.prog 176 = true := by kernel_rfl
theorem Tryz.by176 : tyBytes Tryz.prog 176 = some 0 := by kernel_rfl
theorem Tryz.zr176 : tyZero Tryz.prog 176 = some (.agg #[]) := by kernel_rfl
theorem Tryz.ag177 : tyAgg Tryz.prog 177 = some true := by kernel_rfl
theorem Tryz.sz177 : tySize Tryz.prog 177 = some 0 := by kernel_rfl
theorem Tryz.fd177_0 : tyField Tryz.prog 177 0 = some (0, 175) := by kernel_rfl
theorem Tryz.tp177 : tyPlace Tryz.prog 177 = some fun i => ([(0, 0)] : List (Nat × Nat))[i]? := by kernel_rfl
theorem Tryz.tmk177 : tyMk Tryz.prog 177 = true := by kernel_rfl
theorem Tryz.by177 : tyBytes Tryz.prog 177 = some 0 := by kernel_rfl
theorem Tryz.zr177 : tyZero Tryz.prog 177 = some (.agg #[]) := by kernel_rfl
theorem Tryz.ag178 : tyAgg Tryz.prog 178 = some false := by kernel_rfl
theorem Tryz.sz178 : tySize Tryz.prog 178 = some 1 := by kernel_rfl
theorem Tryz.tmk178 : tyMk Tryz.prog 178 = true := by kernel_rfl
theorem Tryz.by178 : tyBytes Tryz.prog 178 = some 1 := by kernel_rfl
theorem Tryz.zr178 : tyZero Tryz.prog 178 = some (.int .u8 0) := by kernel_rfl
theorem Tryz.ag179 : tyAgg Tryz.prog 179 = some false := by kernel_rfl
theorem Tryz.sz179 : tySize Tryz.prog 179 = some 1 := by kernel_rfl
theorem Tryz.tmk179 : tyMk Tryz.prog 179 = true := by kernel_rfl
theorem Tryz.by179 : tyBytes Tryz.prog 179 = some 1 := by kernel_rfl
theorem Tryz.zr179 : tyZero Tryz.prog 179 = some (.int .u8 0) := by kernel_rfl
theorem Tryz.ag181 : tyAgg Tryz.prog 181 = some false := by kernel_rfl
theorem Tryz.sz181 : tySize Tryz.prog 181 = some 1 := by kernel_rfl
theorem Tryz.tmk181 : tyMk Tryz.prog 181 = true := by kernel_rfl
theorem Tryz.tptr181 : tyPtr Tryz.prog 181 = true := by kernel_rfl
theorem Tryz.by181 : tyBytes Tryz.prog 181 = some 8 := by kernel_rfl
theorem Tryz.zr181 : tyZero Tryz.prog 181 = some (.pointer none) := by kernel_rfl
theorem Tryz.ag182 : tyAgg Tryz.prog 182 = some false := by kernel_rfl
theorem Tryz.sz182 : tySize Tryz.prog 182 = some 1 := by kernel_rfl
theorem Tryz.tmk182 : tyMk Tryz.prog 182 = true := by kernel_rfl
theorem Tryz.by182 : tyBytes Tryz.prog 182 = some 4 := by kernel_rfl
theorem Tryz.zr182 : tyZero Tryz.prog 182 = some (.int .i32 0) := by kernel_rfl
theorem Tryz.ag183 : tyAgg Tryz.prog 183 = some false := by kernel_rfl
theorem Tryz.sz183 : tySize Tryz.prog 183 = some 1 := by kernel_rfl
theorem Tryz.tmk183 : tyMk Tryz.prog 183 = true := by kernel_rfl
theorem Tryz.by183 : tyBytes Tryz.prog 183 = some 4 := by kernel_rfl
theorem Tryz.zr183 : tyZero Tryz.prog 183 = some (.int .i32 0) := by kernel_rfl
theorem Tryz.ag184 : tyAgg Tryz.prog 184 = some true := by kernel_rfl
theorem Tryz.sz184 : tySize Tryz.prog 184 = some 11 := by kernel_rfl
theorem Tryz.fd184_0 : tyField Tryz.prog 184 0 = some (0, 12) := by kernel_rfl
theorem Tryz.fd184_1 : tyField Tryz.prog 184 1 = some (1, 12) := by kernel_rfl
theorem Tryz.fd184_2 : tyField Tryz.prog 184 2 = some (2, 39) := by kernel_rfl
theorem Tryz.fd184_3 : tyField Tryz.prog 184 3 = some (3, 178) := by kernel_rfl
theorem Tryz.fd184_4 : tyField Tryz.prog 184 4 = some (4, 5) := by kernel_rfl
theorem Tryz.fd184_5 : tyField Tryz.prog 184 5 = some (5, 5) := by kernel_rfl
theorem Tryz.fd184_6 : tyField Tryz.prog 184 6 = some (6, 179) := by kernel_rfl
theorem Tryz.fd184_7 : tyField Tryz.prog 184 7 = some (7, 180) := by kernel_rfl
theorem Tryz.fd184_8 : tyField Tryz.prog 184 8 = some (8, 181) := by kernel_rfl
theorem Tryz.fd184_9 : tyField Tryz.prog 184 9 = some (9, 182) := by kernel_rfl
theorem Tryz.fd184_10 : tyField Tryz.prog 184 10 = some (10, 183) := by kernel_rfl
theorem Tryz.tp184 : tyPlace Tryz.prog 184 = some fun i => ([(0, 1), (1, 1), (2, 1), (3, 1), (4, 1), (5, 1), (6, 1), (7, 1), (8, 1), (9, 1), (10, 1)] : List (Nat × Nat))[i]? := by kernel_rfl
theorem Tryz.tmk184 : tyMk Tryz.prog 184 = true := by kernel_rfl
theorem Tryz.by184 : tyBytes Tryz.prog 184 = some 48 := by kernel_rfl
theorem Tryz.zr184 : tyZero Tryz.prog 184 = some (.agg #[.int .u64 0, .int .u64 0, .int .u32 0, .int .u8 0, .int .u8 0, .int .u8 0, .int .u8 0, .nilFunc, .pointer none, .int .i32 0, .int .i32 0]) := by kernel_rfl
theorem Tryz.pz184 : plainB (.agg #[.int .u64 0, .int .u64 0, .int .u32 0, .int .u8 0, .int .u8 0, .int .u8 0, .int .u8 0, .nilFunc, .pointer none, .int .i32 0, .int .i32 0]) = true := by kernel_rfl
theorem Tryz.ag185 : tyAgg Tryz.prog 185 = some true := by kernel_rfl
theorem Tryz.sz185 : tySize Tryz.prog 185 = some 11 := by kernel_rfl
theorem Tryz.fd185_0 : tyField Tryz.prog 185 0 = some (0, 12) := by kernel_rfl
theorem Tryz.fd185_1 : tyField Tryz.prog 185 1 = some (1, 12) := by kernel_rfl
theorem Tryz.fd185_2 : tyField Tryz.prog 185 2 = some (2, 39) := by kernel_rfl
theorem Tryz.fd185_3 : tyField Tryz.prog 185 3 = some (3, 178) := by kernel_rfl
theorem Tryz.fd185_4 : tyField Tryz.prog 185 4 = some (4, 5) := by kernel_rfl
theorem Tryz.fd185_5 : tyField Tryz.prog 185 5 = some (5, 5) := by kernel_rfl
theorem Tryz.fd185_6 : tyField Tryz.prog 185 6 = some (6, 179) := by kernel_rfl
theorem Tryz.fd185_7 : tyField Tryz.prog 185 7 = some (7, 180) := by kernel_rfl
theorem Tryz.fd185_8 : tyField Tryz.prog 185 8 = some (8, 181) := by kernel_rfl
theorem Tryz.fd185_9 : tyField Tryz.prog 185 9 = some (9, 182) := by kernel_rfl
theorem Tryz.fd185_10 : tyField Tryz.prog 185 10 = some (10, 183) := by kernel_rfl
theorem Tryz.tp185 : tyPlace Tryz.prog 185 = some fun i => ([(0, 1), (1, 1), (2, 1), (3, 1), (4, 1), (5, 1), (6, 1), (7, 1), (8, 1), (9, 1), (10, 1)] : List (Nat × Nat))[i]? := by kernel_rfl
theorem Tryz.tmk185 : tyMk Tryz.prog 185 = true := by kernel_rfl
theorem Tryz.by185 : tyBytes Tryz.prog 185 = some 48 := by kernel_rfl
theorem Tryz.zr185 : tyZero Tryz.prog 185 = some (.agg #[.int .u64 0, .int .u64 0, .int .u32 0, .int .u8 0, .int .u8 0, .int .u8 0, .int .u8 0, .nilFunc, .pointer none, .int .i32 0, .int .i32 0]) := by kernel_rfl
theorem Tryz.ag187 : tyAgg Tryz.prog 187 = some true := by kernel_rfl
theorem Tryz.sz187 : tySize Tryz.prog 187 = some 5 := by kernel_rfl
theorem Tryz.fd187_0 : tyField Tryz.prog 187 0 = some (0, 43) := by kernel_rfl
theorem Tryz.fd187_1 : tyField Tryz.prog 187 1 = some (1, 43) := by kernel_rfl
theorem Tryz.fd187_2 : tyField Tryz.prog 187 2 = some (2, 43) := by kernel_rfl
theorem Tryz.fd187_3 : tyField Tryz.prog 187 3 = some (3, 43) := by kernel_rfl
theorem Tryz.fd187_4 : tyField Tryz.prog 187 4 = some (4, 43) := by kernel_rfl
theorem Tryz.tp187 : tyPlace Tryz.prog 187 = some fun i => ([(0, 1), (1, 1), (2, 1), (3, 1), (4, 1)] : List (Nat × Nat))[i]? := by kernel_rfl
theorem Tryz.eql187 (y : Operand) (a0 b0 : Int) (a1 b1 : Int) (a2 b2 : Int) (a3 b3 : Int) (a4 b4 : Int) : binOpA Tryz.prog .eql 187 y (.agg #[.int .u64 a0, .int .u64 a1, .int .u64 a2, .int .u64 a3, .int .u64 a4]) (.agg #[.int .u64 b0, .int .u64 b1, .int .u64 b2, .int .u64 b3, .int .u64 b4]) = some (.bool (a0 == b0 && (a1 == b1 && (a2 == b2 && (a3 == b3 && (a4 == b4 && true)))))) := by kernel_rfl
theorem Tryz.neq187 (y : Operand) (a0 b0 : Int) (a1 b1 : Int) (a2 b2 : Int) (a3 b3 : Int) (a4 b4 : Int) : binOpA Tryz.prog .neq 187 y (.agg #[.int .u64 a0, .int .u64 a1, .int .u64 a2, .int .u64 a3, .int .u64 a4]) (.agg #[.int .u64 b0, .int .u64 b1, .int .u64 b2, .int .u64 b3, .int .u64 b4]) = some (.bool !(a0 == b0 && (a1 == b1 && (a2 == b2 && (a3 == b3 && (a4 == b4 && true)))))) := by kernel_rfl
theorem Tryz.tmk187 : tyMk Tryz.prog 187 = true := by kernel_rfl
theorem Tryz.by187 : tyBytes Tryz.prog 187 = some 40 := by kernel_rfl
theorem Tryz.zr187 : tyZero Tryz.prog 187 = some (.agg #[.int .u64 0, .int .u64 0, .int .u64 0, .int .u64 0, .int .u64 0]) := by kernel_rfl
theorem Tryz.pz187 : plainB (.agg #[.int .u64 0, .int .u64 0, .int .u64 0, .int .u64 0, .int .u64 0]) = true := by kernel_rfl
theorem Tryz.ag188 : tyAgg Tryz.prog 188 = some true := by kernel_rfl
theorem Tryz.sz188 : tySize Tryz.prog 188 = some 5 := by kernel_rfl
theorem Tryz.fd188_0 : tyField Tryz.prog 188 0 = some (0, 43) := by kernel_rfl
theorem Tryz.fd188_1 : tyField Tryz.prog 188 1 = some (1, 43) := by kernel_rfl
theorem Tryz.fd188_2 : tyField Tryz.prog 188 2 = some (2, 43) := by kernel_rfl
theorem Tryz.fd188_3 : tyField Tryz.prog 188 3 = some (3, 43) := by kernel_rfl
theorem Tryz.fd188_4 : tyField Tryz.prog 188 4 = some (4, 43) := by kernel_rfl
theorem Tryz.tp188 : tyPlace Tryz.prog 188 = some fun i => ([(0, 1), (1, 1), (2, 1), (3, 1), (4, 1)] : List (Nat × Nat))[i]? := by kernel_rfl
theorem Tryz.eql188 (y : Operand) (a0 b0 : Int) (a1 b1 : Int) (a2 b2 : Int) (a3 b3 : Int) (a4 b4 : Int) : binOpA Tryz.prog .eql 188 y (.agg #[.int .u64 a0, .int .u64 a1, .int .u64 a2, .int .u64 a3, .int .u64 a4]) (.agg #[.int .u64 b0, .int .u64 b1, .int .u64 b2, .int .u64 b3, .int .u64 b4]) = some (.bool (a0 == b0 && (a1 == b1 && (a2 == b2 && (a3 == b3 && (a4 == b4 && true)))))) := by kernel_rfl
theorem Tryz.neq188 (y : Operand) (a0 b0 : Int) (a1 b1 : Int) (a2 b2 : Int) (a3 b3 : Int) (a4 b4 : Int) : binOpA Tryz.prog .neq 188 y (.agg #[.int .u64 a0, .int .u64 a1, .int .u64 a2, .int .u64 a3, .int .u64 a4]) (.agg #[.int .u64 b0, .int .u64 b1, .int .u64 b2, .int .u64 b3, .int .u64 b4]) = some (.bool !(a0 == b0 && (a1 == b1 && (a2 == b2 && (a3 == b3 && (a4 == b4 && true)))))) := by kernel_rfl
theorem Tryz.tmk188 : tyMk Tryz.prog 188 = true := by kernel_rfl
theorem Tryz.by188 : tyBytes Tryz.prog 188 = some 40 := by kernel_rfl
theorem Tryz.zr188 : tyZero Tryz.prog 188 = some (.agg #[.int .u64 0, .int .u64 0, .int .u64 0, .int .u64 0, .int .u64 0]) := by kernel_rfl
theorem Tryz.ag189 : tyAgg Tryz.prog 189 = some true := by kernel_rfl
theorem Tryz.sz189 : tySize Tryz.prog 189 = some 11 := by kernel_rfl
theorem Tryz.fd189_0 : tyField Tryz.prog 189 0 = some (0, 3) := by kernel_rfl
theorem Tryz.fd189_1 : tyField Tryz.prog 189 1 = some (1, 3) := by kernel_rfl
theorem Tryz.fd189_2 : tyField Tryz.prog 189 2 = some (2, 5) := by kernel_rfl
theorem Tryz.fd189_3 : tyField Tryz.prog 189 3 = some (3, 188) := by kernel_rfl
theorem Tryz.fd189_4 : tyField Tryz.prog 189 4 = some (8, 32) := by kernel_rfl
theorem Tryz.fd189_5 : tyField Tryz.prog 189 5 = some (9, 3) := by kernel_rfl
theorem Tryz.fd189_6 : tyField Tryz.prog 189 6 = some (10, 3) := by kernel_rfl
theorem Tryz.tp189 : tyPlace Tryz.prog 189 = some fun i => ([(0, 1), (1, 1), (2, 1), (3, 5), (8, 1), (9, 1), (10, 1)] : List (Nat × Nat))[i]? := by kernel_rfl
theorem Tryz.tmk189 : tyMk Tryz.prog 189 = true := by kernel_rfl
theorem Tryz.by189 : tyBytes Tryz.prog 189 = some 88 := by kernel_rfl
theorem Tryz.zr189 : tyZero Tryz.prog 189 = some (.agg #[.int .i64 0, .int .i64 0, .int .u8 0, .int .u64 0, .int .u64 0, .int .u64 0, .int .u64 0, .int .u64 0, .int .i64 0, .int .i64 0, .int .i64 0]) := by kernel_rfl
theorem Tryz.pz189 : plainB (.agg #[.int .i64 0, .int .i64 0, .int .u8 0, .int .u64 0, .int .u64 0, .int .u64 0, .int .u64 0, .int .u64 0, .int .i64 0, .int .i64 0, .int .i64 0]) = true := by kernel_rfl
theorem Tryz.ag190 : tyAgg Tryz.prog 190 = some true := by kernel_rfl
theorem Tryz.sz190 : tySize Tryz.prog 190 = some 11 := by kernel_rfl
theorem Tryz.fd190_0 : tyField Tryz.prog 190 0 = some (0, 3) := by kernel_rfl
theorem Tryz.fd190_1 : tyField Tryz.prog 190 1 = some (1, 3) := by kernel_rfl
theorem Tryz.fd190_2 : tyField Tryz.prog 190 2 = some (2, 5) := by kernel_rfl
theorem Tryz.fd190_3 : tyField Tryz.prog 190 3 = some (3, 188) := by kernel_rfl
theorem Tryz.fd190_4 : tyField Tryz.prog 190 4 = some (8, 32) := by kernel_rfl
theorem Tryz.fd190_5 : tyField Tryz.prog 190 5 = some (9, 3) := by kernel_rfl
theorem Tryz.fd190_6 : tyField Tryz.prog 190 6 = some (10, 3) := by kernel_rfl
theorem Tryz.tp190 : tyPlace Tryz.prog 190 = some fun i => ([(0, 1), (1, 1), (2, 1), (3, 5), (8, 1), (9, 1), (10, 1)] : List (Nat × Nat))[i]? := by kernel_rfl
theorem Tryz.tmk190 : tyMk Tryz.prog 190 = true := by kernel_rfl
theorem Tryz.by190 : tyBytes Tryz.prog 190 = some 88 := by kernel_rfl
theorem Tryz.zr190 : tyZero Tryz.prog 190 = some (.agg #[.int .i64 0, .int .i64 0, .int .u8 0, .int .u64 0, .int .u64 0, .int .u64 0, .int .u64 0, .int .u64 0, .int .i64 0, .int .i64 0, .int .i64 0]) := by kernel_rfl
theorem Tryz.ag194 : tyAgg Tryz.prog 194 = some false := by kernel_rfl
theorem Tryz.sz194 : tySize Tryz.prog 194 = some 1 := by kernel_rfl
theorem Tryz.by194 : tyBytes Tryz.prog 194 = some 8 := by kernel_rfl
theorem Tryz.zr194 : tyZero Tryz.prog 194 = some (.pointer none) := by kernel_rfl
theorem Tryz.cv2_2 : tyConv Tryz.prog 2 2 = some .i64 := by kernel_rfl
theorem Tryz.cv2_3 : tyConv Tryz.prog 2 3 = some .i64 := by kernel_rfl
theorem Tryz.cv2_5 : tyConv Tryz.prog 2 5 = some .u8 := by kernel_rfl
theorem Tryz.cv2_6 : tyConv Tryz.prog 2 6 = some .u8 := by kernel_rfl
theorem Tryz.cv2_12 : tyConv Tryz.prog 2 12 = some .u64 := by kernel_rfl
theorem Tryz.cv2_21 : tyConv Tryz.prog 2 21 = some .i32 := by kernel_rfl
theorem Tryz.cv2_32 : tyConv Tryz.prog 2 32 = some .i64 := by kernel_rfl
theorem Tryz.cv2_39 : tyConv Tryz.prog 2 39 = some .u32 := by kernel_rfl
theorem Tryz.cv2_43 : tyConv Tryz.prog 2 43 = some .u64 := by kernel_rfl
theorem Tryz.cv2_171 : tyConv Tryz.prog 2 171 = some .u64 := by kernel_rfl
theorem Tryz.cv2_178 : tyConv Tryz.prog 2 178 = some .u8 := by kernel_rfl
theorem Tryz.cv2_179 : tyConv Tryz.prog 2 179 = some .u8 := by kernel_rfl
theorem Tryz.cv2_182 : tyConv Tryz.prog 2 182 = some .i32 := by kernel_rfl
theorem Tryz.cv2_183 : tyConv Tryz.prog 2 183 = some .i32 := by kernel_rfl
theorem Tryz.cv3_2 : tyConv Tryz.prog 3 2 = some .i64 := by kernel_rfl
theorem Tryz.cv3_3 : tyConv Tryz.prog 3 3 = some .i64 := by kernel_rfl
theorem Tryz.cv3_5 : tyConv Tryz.prog 3 5 = some .u8 := by kernel_rfl
theorem Tryz.cv3_6 : tyConv Tryz.prog 3 6 = some .u8 := by kernel_rfl
theorem Tryz.cv3_12 : tyConv Tryz.prog 3 12 = some .u64 := by kernel_rfl
theorem Tryz.cv3_21 : tyConv Tryz.prog 3 21 = some .i32 := by kernel_rfl
theorem Tryz.cv3_32 : tyConv Tryz.prog 3 32 = some .i64 := by kernel_rfl
theorem Tryz.cv3_39 : tyConv Tryz.prog 3 39 = some .u32 := by kernel_rfl
theorem Tryz.cv3_43 : tyConv Tryz.prog 3 43 = some .u64 := by kernel_rfl
theorem Tryz.cv3_171 : tyConv Tryz.prog 3 171 = some .u64 := by kernel_rfl
theorem Tryz.cv3_178 : tyConv Tryz.prog 3 178 = some .u8 := by kernel_rfl
theorem Tryz.cv3_179 : tyConv Tryz.prog 3 179 = some .u8 := by kernel_rfl
theorem Tryz.cv3_182 : tyConv Tryz.prog 3 182 = some .i32 := by kernel_rfl
theorem Tryz.cv3_183 : tyConv Tryz.prog 3 183 = some .i32 := by kernel_rfl
theorem Tryz.cv5_2 : tyConv Tryz.prog 5 2 = some .i64 := by kernel_rfl
theorem Tryz.cv5_3 : tyConv Tryz.prog 5 3 = some .i64 := by kernel_rfl
theorem Tryz.cv5_5 : tyConv Tryz.prog 5 5 = some .u8 := by kernel_rfl
theorem Tryz.cv5_6 : tyConv Tryz.prog 5 6 = some .u8 := by kernel_rfl
theorem Tryz.cv5_12 : tyConv Tryz.prog 5 12 = some .u64 := by kernel_rfl
theorem Tryz.cv5_21 : tyConv Tryz.prog 5 21 = some .i32 := by kernel_rfl
theorem Tryz.cv5_32 : tyConv Tryz.prog 5 32 = some .i64 := by kernel_rfl
theorem Tryz.cv5_39 : tyConv Tryz.prog 5 39 = some .u32 := by kernel_rfl
theorem Tryz.cv5_43 : tyConv Tryz.prog 5 43 = some .u64 := by kernel_rfl
theorem Tryz.cv5_171 : tyConv Tryz.prog 5 171 = some .u64 := by kernel_rfl
theorem Tryz.cv5_178 : tyConv Tryz.prog 5 178 = some .u8 := by kernel_rfl
theorem Tryz.cv5_179 : tyConv Tryz.prog 5 179 = some .u8 := by kernel_rfl
theorem Tryz.cv5_182 : tyConv Tryz.prog 5 182 = some .i32 := by kernel_rfl
theorem Tryz.cv5_183 : tyConv Tryz.prog 5 183 = some .i32 := by kernel_rfl
theorem Tryz.cv6_2 : tyConv Tryz.prog 6 2 = some .i64 := by kernel_rfl
theorem Tryz.cv6_3 : tyConv Tryz.prog 6 3 = some .i64 := by kernel_rfl
theorem Tryz.cv6_5 : tyConv Tryz.prog 6 5 = some .u8 := by kernel_rfl
theorem Tryz.cv6_6 : tyConv Tryz.prog 6 6 = some .u8 := by kernel_rfl
theorem Tryz.cv6_12 : tyConv Tryz.prog 6 12 = some .u64 := by kernel_rfl
theorem Tryz.cv6_21 : tyConv Tryz.prog 6 21 = some .i32 := by kernel_rfl
theorem Tryz.cv6_32 : tyConv Tryz.prog 6 32 = some .i64 := by kernel_rfl
theorem Tryz.cv6_39 : tyConv Tryz.prog 6 39 = some .u32 := by kernel_rfl
theorem Tryz.cv6_43 : tyConv Tryz.prog 6 43 = some .u64 := by kernel_rfl
theorem Tryz.cv6_171 : tyConv Tryz.prog 6 171 = some .u64 := by kernel_rfl
theorem Tryz.cv6_178 : tyConv Tryz.prog 6 178 = some .u8 := by kernel_rfl
theorem Tryz.cv6_179 : tyConv Tryz.prog 6 179 = some .u8 := by kernel_rfl
theorem Tryz.cv6_182 : tyConv Tryz.prog 6 182 = some .i32 := by kernel_rfl
theorem Tryz.cv6_183 : tyConv Tryz.prog 6 183 = some .i32 := by kernel_rfl
theorem Tryz.cv12_2 : tyConv Tryz.prog 12 2 = some .i64 := by kernel_rfl
theorem Tryz.cv12_3 : tyConv Tryz.prog 12 3 = some .i64 := by kernel_rfl
theorem Tryz.cv12_5 : tyConv Tryz.prog 12 5 = some .u8 := by kernel_rfl
theorem Tryz.cv12_6 : tyConv Tryz.prog 12 6 = some .u8 := by kernel_rfl
theorem Tryz.cv12_12 : tyConv Tryz.prog 12 12 = some .u64 := by kernel_rfl
theorem Tryz.cv12_21 : tyConv Tryz.prog 12 21 = some .i32 := by kernel_rfl
theorem Tryz.cv12_32 : tyConv Tryz.prog 12 32 = some .i64 := by kernel_rfl
theorem Tryz.cv12_39 : tyConv Tryz.prog 12 39 = some .u32 := by kernel_rfl
theorem Tryz.cv12_43 : tyConv Tryz.prog 12 43 = some .u64 := by kernel_rfl
theorem Tryz.cv12_171 : tyConv Tryz.prog 12 171 = some .u64 := by kernel_rfl
theorem Tryz.cv12_178 : tyConv Tryz.prog 12 178 = some .u8 := by kernel_rfl
theorem Tryz.cv12_179 : tyConv Tryz.prog 12 179 = some .u8 := by kernel_rfl
theorem Tryz.cv12_182 : tyConv Tryz.prog 12 182 = some .i32 := by kernel_rfl
theorem Tryz.cv12_183 : tyConv Tryz.prog 12 183 = some .i32 := by kernel_rfl
theorem Tryz.cv21_2 : tyConv Tryz.prog 21 2 = some .i64 := by kernel_rfl
theorem Tryz.cv21_3 : tyConv Tryz.prog 21 3 = some .i64 := by kernel_rfl
theorem Tryz.cv21_5 : tyConv Tryz.prog 21 5 = some .u8 := by kernel_rfl
theorem Tryz.cv21_6 : tyConv Tryz.prog 21 6 = some .u8 := by kernel_rfl
theorem Tryz.cv21_12 : tyConv Tryz.prog 21 12 = some .u64 := by kernel_rfl
theorem Tryz.cv21_21 : tyConv Tryz.prog 21 21 = some .i32 := by kernel_rfl
theorem Tryz.cv21_32 : tyConv Tryz.prog 21 32 = some .i64 := by kernel_rfl
theorem Tryz.cv21_39 : tyConv Tryz.prog 21 39 = some .u32 := by kernel_rfl
theorem Tryz.cv21_43 : tyConv Tryz.prog 21 43 = some .u64 := by kernel_rfl
theorem Tryz.cv21_171 : tyConv Tryz.prog 21 171 = some .u64 := by kernel_rfl
theorem Tryz.cv21_178 : tyConv Tryz.prog 21 178 = some .u8 := by kernel_rfl
theorem Tryz.cv21_179 : tyConv Tryz.prog 21 179 = some .u8 := by kernel_rfl
theorem Tryz.cv21_182 : tyConv Tryz.prog 21 182 = some .i32 := by kernel_rfl
theorem Tryz.cv21_183 : tyConv Tryz.prog 21 183 = some .i32 := by kernel_rfl
theorem Tryz.cv32_2 : tyConv Tryz.prog 32 2 = some .i64 := by kernel_rfl
theorem Tryz.cv32_3 : tyConv Tryz.prog 32 3 = some .i64 := by kernel_rfl
theorem Tryz.cv32_5 : tyConv Tryz.prog 32 5 = some .u8 := by kernel_rfl
theorem Tryz.cv32_6 : tyConv Tryz.prog 32 6 = some .u8 := by kernel_rfl
theorem Tryz.cv32_12 : tyConv Tryz.prog 32 12 = some .u64 := by kernel_rfl
theorem Tryz.cv32_21 : tyConv Tryz.prog 32 21 = some .i32 := by kernel_rfl
theorem Tryz.cv32_32 : tyConv Tryz.prog 32 32 = some .i64 := by kernel_rfl
theorem Tryz.cv32_39 : tyConv Tryz.prog 32 39 = some .u32 := by kernel_rfl
theorem Tryz.cv32_43 : tyConv Tryz.prog 32 43 = some .u64 := by kernel_rfl
theorem Tryz.cv32_171 : tyConv Tryz.prog 32 171 = some .u64 := by kernel_rfl
theorem Tryz.cv32_178 : tyConv Tryz.prog 32 178 = some .u8 := by kernel_rfl
theorem Tryz.cv32_179 : tyConv Tryz.prog 32 179 = some .u8 := by kernel_rfl
theorem Tryz.cv32_182 : tyConv Tryz.prog 32 182 = some .i32 := by kernel_rfl
theorem Tryz.cv32_183 : tyConv Tryz.prog 32 183 = some .i32 := by kernel_rfl
theorem Tryz.cv39_2 : tyConv Tryz.prog 39 2 = some .i64 := by kernel_rfl
theorem Tryz.cv39_3 : tyConv Tryz.prog 39 3 = some .i64 := by kernel_rfl
theorem Tryz.cv39_5 : tyConv Tryz.prog 39 5 = some .u8 := by kernel_rfl
theorem Tryz.cv39_6 : tyConv Tryz.prog 39 6 = some .u8 := by kernel_rfl
theorem Tryz.cv39_12 : tyConv Tryz.prog 39 12 = some .u64 := by kernel_rfl
theorem Tryz.cv39_21 : tyConv Tryz.prog 39 21 = some .i32 := by kernel_rfl
theorem Tryz.cv39_32 : tyConv Tryz.prog 39 32 = some .i64 := by kernel_rfl
theorem Tryz.cv39_39 : tyConv Tryz.prog 39 39 = some .u32 := by kernel_rfl
theorem Tryz.cv39_43 : tyConv Tryz.prog 39 43 = some .u64 := by kernel_rfl
theorem Tryz.cv39_171 : tyConv Tryz.prog 39 171 = some .u64 := by kernel_rfl
theorem Tryz.cv39_178 : tyConv Tryz.prog 39 178 = some .u8 := by kernel_rfl
theorem Tryz.cv39_179 : tyConv Tryz.prog 39 179 = some .u8 := by kernel_rfl
theorem Tryz.cv39_182 : tyConv Tryz.prog 39 182 = some .i32 := by kernel_rfl
theorem Tryz.cv39_183 : tyConv Tryz.prog 39 183 = some .i32 := by kernel_rfl
theorem Tryz.cv43_2 : tyConv Tryz.prog 43 2 = some .i64 := by kernel_rfl
theorem Tryz.cv43_3 : tyConv Tryz.prog 43 3 = some .i64 := by kernel_rfl
theorem Tryz.cv43_5 : tyConv Tryz.prog 43 5 = some .u8 := by kernel_rfl
theorem Tryz.cv43_6 : tyConv Tryz.prog 43 6 = some .u8 := by kernel_rfl
theorem Tryz.cv43_12 : tyConv Tryz.prog 43 12 = some .u64 := by kernel_rfl
theorem Tryz.cv43_21 : tyConv Tryz.prog 43 21 = some .i32 := by kernel_rfl
theorem Tryz.cv43_32 : tyConv Tryz.prog 43 32 = some .i64 := by kernel_rfl
theorem Tryz.cv43_39 : tyConv Tryz.prog 43 39 = some .u32 := by kernel_rfl
theorem Tryz.cv43_43 : tyConv Tryz.prog 43 43 = some .u64 := by kernel_rfl
theorem Tryz.cv43_171 : tyConv Tryz.prog 43 171 = some .u64 := by kernel_rfl
theorem Tryz.cv43_178 : tyConv Tryz.prog 43 178 = some .u8 := by kernel_rfl
theorem Tryz.cv43_179 : tyConv Tryz.prog 43 179 = some .u8 := by kernel_rfl
theorem Tryz.cv43_182 : tyConv Tryz.prog 43 182 = some .i32 := by kernel_rfl
theorem Tryz.cv43_183 : tyConv Tryz.prog 43 183 = some .i32 := by kernel_rfl
theorem Tryz.cv171_2 : tyConv Tryz.prog 171 2 = some .i64 := by kernel_rfl
theorem Tryz.cv171_3 : tyConv Tryz.prog 171 3 = some .i64 := by kernel_rfl
theorem Tryz.cv171_5 : tyConv Tryz.prog 171 5 = some .u8 := by kernel_rfl
theorem Tryz.cv171_6 : tyConv Tryz.prog 171 6 = some .u8 := by kernel_rfl
theorem Tryz.cv171_12 : tyConv Tryz.prog 171 12 = some .u64 := by kernel_rfl
theorem Tryz.cv171_21 : tyConv Tryz.prog 171 21 = some .i32 := by kernel_rfl
theorem Tryz.cv171_32 : tyConv Tryz.prog 171 32 = some .i64 := by kernel_rfl
theorem Tryz.cv171_39 : tyConv Tryz.prog 171 39 = some .u32 := by kernel_rfl
theorem Tryz.cv171_43 : tyConv Tryz.prog 171 43 = some .u64 := by kernel_rfl
theorem Tryz.cv171_171 : tyConv Tryz.prog 171 171 = some .u64 := by kernel_rfl
theorem Tryz.cv171_178 : tyConv Tryz.prog 171 178 = some .u8 := by kernel_rfl
theorem Tryz.cv171_179 : tyConv Tryz.prog 171 179 = some .u8 := by kernel_rfl
theorem Tryz.cv171_182 : tyConv Tryz.prog 171 182 = some .i32 := by kernel_rfl
theorem Tryz.cv171_183 : tyConv Tryz.prog 171 183 = some .i32 := by kernel_rfl
theorem Tryz.cv178_2 : tyConv Tryz.prog 178 2 = some .i64 := by kernel_rfl
theorem Tryz.cv178_3 : tyConv Tryz.prog 178 3 = some .i64 := by kernel_rfl
theorem Tryz.cv178_5 : tyConv Tryz.prog 178 5 = some .u8 := by kernel_rfl
theorem Tryz.cv178_6 : tyConv Tryz.prog 178 6 = some .u8 := by kernel_rfl
theorem Tryz.cv178_12 : tyConv Tryz.prog 178 12 = some .u64 := by kernel_rfl
theorem Tryz.cv178_21 : tyConv Tryz.prog 178 21 = some .i32 := by kernel_rfl
theorem Tryz.cv178_32 : tyConv Tryz.prog 178 32 = some .i64 := by kernel_rfl
theorem Tryz.cv178_39 : tyConv Tryz.prog 178 39 = some .u32 := by kernel_rfl
theorem Tryz.cv178_43 : tyConv Tryz.prog 178 43 = some .u64 := by kernel_rfl
theorem Tryz.cv178_171 : tyConv Tryz.prog 178 171 = some .u64 := by kernel_rfl
theorem Tryz.cv178_178 : tyConv Tryz.prog 178 178 = some .u8 := by kernel_rfl
theorem Tryz.cv178_179 : tyConv Tryz.prog 178 179 = some .u8 := by kernel_rfl
theorem Tryz.cv178_182 : tyConv Tryz.prog 178 182 = some .i32 := by kernel_rfl
theorem Tryz.cv178_183 : tyConv Tryz.prog 178 183 = some .i32 := by kernel_rfl
theorem Tryz.cv179_2 : tyConv Tryz.prog 179 2 = some .i64 := by kernel_rfl
theorem Tryz.cv179_3 : tyConv Tryz.prog 179 3 = some .i64 := by kernel_rfl
theorem Tryz.cv179_5 : tyConv Tryz.prog 179 5 = some .u8 := by kernel_rfl
theorem Tryz.cv179_6 : tyConv Tryz.prog 179 6 = some .u8 := by kernel_rfl
theorem Tryz.cv179_12 : tyConv Tryz.prog 179 12 = some .u64 := by kernel_rfl
theorem Tryz.cv179_21 : tyConv Tryz.prog 179 21 = some .i32 := by kernel_rfl
theorem Tryz.cv179_32 : tyConv Tryz.prog 179 32 = some .i64 := by kernel_rfl
theorem Tryz.cv179_39 : tyConv Tryz.prog 179 39 = some .u32 := by kernel_rfl
theorem Tryz.cv179_43 : tyConv Tryz.prog 179 43 = some .u64 := by kernel_rfl
theorem Tryz.cv179_171 : tyConv Tryz.prog 179 171 = some .u64 := by kernel_rfl
theorem Tryz.cv179_178 : tyConv Tryz.prog 179 178 = some .u8 := by kernel_rfl
theorem Tryz.cv179_179 : tyConv Tryz.prog 179 179 = some .u8 := by kernel_rfl
theorem Tryz.cv179_182 : tyConv Tryz.prog 179 182 = some .i32 := by kernel_rfl
theorem Tryz.cv179_183 : tyConv Tryz.prog 179 183 = some .i32 := by kernel_rfl
theorem Tryz.cv182_2 : tyConv Tryz.prog 182 2 = some .i64 := by kernel_rfl
theorem Tryz.cv182_3 : tyConv Tryz.prog 182 3 = some .i64 := by kernel_rfl
theorem Tryz.cv182_5 : tyConv Tryz.prog 182 5 = some .u8 := by kernel_rfl
theorem Tryz.cv182_6 : tyConv Tryz.prog 182 6 = some .u8 := by kernel_rfl
theorem Tryz.cv182_12 : tyConv Tryz.prog 182 12 = some .u64 := by kernel_rfl
theorem Tryz.cv182_21 : tyConv Tryz.prog 182 21 = some .i32 := by kernel_rfl
theorem Tryz.cv182_32 : tyConv Tryz.prog 182 32 = some .i64 := by kernel_rfl
theorem Tryz.cv182_39 : tyConv Tryz.prog 182 39 = some .u32 := by kernel_rfl
theorem Tryz.cv182_43 : tyConv Tryz.prog 182 43 = some .u64 := by kernel_rfl
theorem Tryz.cv182_171 : tyConv Tryz.prog 182 171 = some .u64 := by kernel_rfl
theorem Tryz.cv182_178 : tyConv Tryz.prog 182 178 = some .u8 := by kernel_rfl
theorem Tryz.cv182_179 : tyConv Tryz.prog 182 179 = some .u8 := by kernel_rfl
theorem Tryz.cv182_182 : tyConv Tryz.prog 182 182 = some .i32 := by kernel_rfl
theorem Tryz.cv182_183 : tyConv Tryz.prog 182 183 = some .i32 := by kernel_rfl
theorem Tryz.cv183_2 : tyConv Tryz.prog 183 2 = some .i64 := by kernel_rfl
theorem Tryz.cv183_3 : tyConv Tryz.prog 183 3 = some .i64 := by kernel_rfl
theorem Tryz.cv183_5 : tyConv Tryz.prog 183 5 = some .u8 := by kernel_rfl
theorem Tryz.cv183_6 : tyConv Tryz.prog 183 6 = some .u8 := by kernel_rfl
theorem Tryz.cv183_12 : tyConv Tryz.prog 183 12 = some .u64 := by kernel_rfl
theorem Tryz.cv183_21 : tyConv Tryz.prog 183 21 = some .i32 := by kernel_rfl
theorem Tryz.cv183_32 : tyConv Tryz.prog 183 32 = some .i64 := by kernel_rfl
theorem Tryz.cv183_39 : tyConv Tryz.prog 183 39 = some .u32 := by kernel_rfl
theorem Tryz.cv183_43 : tyConv Tryz.prog 183 43 = some .u64 := by kernel_rfl
theorem Tryz.cv183_171 : tyConv Tryz.prog 183 171 = some .u64 := by kernel_rfl
theorem Tryz.cv183_178 : tyConv Tryz.prog 183 178 = some .u8 := by kernel_rfl
theorem Tryz.cv183_179 : tyConv Tryz.prog 183 179 = some .u8 := by kernel_rfl
theorem Tryz.cv183_182 : tyConv Tryz.prog 183 182 = some .i32 := by kernel_rfl
theorem Tryz.cv183_183 : tyConv Tryz.prog 183 183 = some .i32 := by kernel_rfl
theorem Tryz.ok2 : fnOK Tryz.prog 2 = true := by kernel_rfl
theorem Tryz.ok3 : fnOK Tryz.prog 3 = true := by kernel_rfl
theorem Tryz.ok4 : fnOK Tryz.prog 4 = true := by kernel_rfl
theorem Tryz.ok5 : fnOK Tryz.prog 5 = true := by kernel_rfl
theorem Tryz.ok6 : fnOK Tryz.prog 6 = true := by kernel_rfl
theorem Tryz.ok7 : fnOK Tryz.prog 7 = true := by kernel_rfl
theorem Tryz.ok8 : fnOK Tryz.prog 8 = true := by kernel_rfl
theorem Tryz.ok9 : fnOK Tryz.prog 9 = true := by kernel_rfl
theorem Tryz.ok10 : fnOK Tryz.prog 10 = true := by kernel_rfl
theorem Tryz.ok11 : fnOK Tryz.prog 11 = true := by kernel_rfl
theorem Tryz.ok12 : fnOK Tryz.prog 12 = true := by kernel_rfl
theorem Tryz.ok13 : fnOK Tryz.prog 13 = true := by kernel_rfl
theorem Tryz.ok14 : fnOK Tryz.prog 14 = true := by kernel_rfl
theorem Tryz.ok15 : fnOK Tryz.prog 15 = true := by kernel_rfl
theorem Tryz.ok16 : fnOK Tryz.prog 16 = true := by kernel_rfl
theorem Tryz.ok17 : fnOK Tryz.prog 17 = true := by kernel_rfl
theorem Tryz.ok18 : fnOK Tryz.prog 18 = true := by kernel_rfl
theorem Tryz.ok19 : fnOK Tryz.prog 19 = true := by kernel_rfl
theorem Tryz.ok20 : fnOK Tryz.prog 20 = true := by kernel_rfl
theorem Tryz.ok21 : fnOK Tryz.prog 21 = true := by kernel_rfl
theorem Tryz.ok22 : fnOK Tryz.prog 22 = true := by kernel_rfl
theorem Tryz.ok23 : fnOK Tryz.prog 23 = true := by kernel_rfl
theorem Tryz.ok24 : fnOK Tryz.prog 24 = true := by kernel_rfl
theorem Tryz.ok25 : fnOK Tryz.prog 25 = true := by kernel_rfl
theorem Tryz.ok26 : fnOK Tryz.prog 26 = true := by kernel_rfl
theorem Tryz.ok27 : fnOK Tryz.prog 27 = true := by kernel_rfl
theorem Tryz.ok28 : fnOK Tryz.prog 28 = true := by kernel_rfl
theorem Tryz.ok29 : fnOK Tryz.prog 29 = true := by kernel_rfl
theorem Tryz.ok30 : fnOK Tryz.prog 30 = true := by kernel_rfl
theorem Tryz.ok31 : fnOK Tryz.prog 31 = true := by kernel_rfl
theorem Tryz.ok32 : fnOK Tryz.prog 32 = true := by kernel_rfl
theorem Tryz.ok33 : fnOK Tryz.prog 33 = true := by kernel_rfl
theorem Tryz.ok34 : fnOK Tryz.prog 34 = true := by kernel_rfl
theorem Tryz.ok35 : fnOK Tryz.prog 35 = true := by kernel_rfl
theorem Tryz.ok36 : fnOK Tryz.prog 36 = true := by kernel_rfl
theorem Tryz.ok37 : fnOK Tryz.prog 37 = true := by kernel_rfl
theorem Tryz.ok38 : fnOK Tryz.prog 38 = true := by kernel_rfl
theorem Tryz.ok39 : fnOK Tryz.prog 39 = true := by kernel_rfl
theorem Tryz.ok40 : fnOK Tryz.prog 40 = true := by kernel_rfl
theorem Tryz.ok41 : fnOK Tryz.prog 41 = true := by kernel_rfl
theorem Tryz.ok42 : fnOK Tryz.prog 42 = true := by kernel_rfl
theorem Tryz.ok43 : fnOK Tryz.prog 43 = true := by kernel_rfl
theorem Tryz.ok44 : fnOK Tryz.prog 44 = true := by kernel_rfl
theorem Tryz.ok45 : fnOK Tryz.prog 45 = true := by kernel_rfl
theorem Tryz.ok46 : fnOK Tryz.prog 46 = true := by kernel_rfl
theorem Tryz.ok47 : fnOK Tryz.prog 47 = true := by kernel_rfl
theorem Tryz.ok48 : fnOK Tryz.prog 48 = true := by kernel_rfl
theorem Tryz.ok49 : fnOK Tryz.prog 49 = true := by kernel_rfl
theorem Tryz.ok50 : fnOK Tryz.prog 50 = true := by kernel_rfl
theorem Tryz.ok51 : fnOK Tryz.prog 51 = true := by kernel_rfl
theorem Tryz.ok52 : fnOK Tryz.prog 52 = true := by kernel_rfl
theorem Tryz.ok53 : fnOK Tryz.prog 53 = true := by kernel_rfl
theorem Tryz.ok54 : fnOK Tryz.prog 54 = true := by kernel_rfl
theorem Tryz.ok55 : fnOK Tryz.prog 55 = true := by kernel_rfl
theorem Tryz.ok56 : fnOK Tryz.prog 56 = true := by kernel_rfl
theorem Tryz.ok57 : fnOK Tryz.prog 57 = true := by kernel_rfl
theorem Tryz.ok58 : fnOK Tryz.prog 58 = true := by kernel_rfl
theorem Tryz.ok59 : fnOK Tryz.prog 59 = true := by kernel_rfl
theorem Tryz.ok60 : fnOK Tryz.prog 60 = true := by kernel_rfl
theorem Tryz.ok61 : fnOK Tryz.prog 61 = true := by kernel_rfl
theorem Tryz.ok62 : fnOK Tryz.prog 62 = true := by kernel_rfl
theorem Tryz.ok63 : fnOK Tryz.prog 63 = true := by kernel_rfl
theorem Tryz.ok64 : fnOK Tryz.prog 64 = true := by kernel_rfl
theorem Tryz.ok65 : fnOK Tryz.prog 65 = true := by kernel_rfl
theorem Tryz.ok66 : fnOK Tryz.prog 66 = true := by kernel_rfl
theorem Tryz.ok67 : fnOK Tryz.prog 67 = true := by kernel_rfl
theorem Tryz.ok68 : fnOK Tryz.prog 68 = true := by kernel_rfl
theorem Tryz.ok69 : fnOK Tryz.prog 69 = true := by kernel_rfl
theorem Tryz.ok70 : fnOK Tryz.prog 70 = true := by kernel_rfl
theorem Tryz.ok71 : fnOK Tryz.prog 71 = true := by kernel_rfl
theorem Tryz.ok72 : fnOK Tryz.prog 72 = true := by kernel_rfl
theorem Tryz.ok73 : fnOK Tryz.prog 73 = true := by kernel_rfl
theorem Tryz.ok74 : fnOK Tryz.prog 74 = true := by kernel_rfl
theorem Tryz.ok75 : fnOK Tryz.prog 75 = true := by kernel_rfl
theorem Tryz.ok76 : fnOK Tryz.prog 76 = true := by kernel_rfl
theorem Tryz.ok77 : fnOK Tryz.prog 77 = true := by kernel_rfl
theorem Tryz.ok78 : fnOK Tryz.prog 78 = true := by kernel_rfl
theorem Tryz.ok79 : fnOK Tryz.prog 79 = true := by kernel_rfl
theorem Tryz.ok80 : fnOK Tryz.prog 80 = true := by kernel_rfl
theorem Tryz.ok81 : fnOK Tryz.prog 81 = true := by kernel_rfl
theorem Tryz.ok82 : fnOK Tryz.prog 82 = true := by kernel_rfl
theorem Tryz.ok83 : fnOK Tryz.prog 83 = true := by kernel_rfl
theorem Tryz.ok84 : fnOK Tryz.prog 84 = true := by kernel_rfl
theorem Tryz.ok85 : fnOK Tryz.prog 85 = true := by kernel_rfl
theorem Tryz.ok86 : fnOK Tryz.prog 86 = true := by kernel_rfl
theorem Tryz.ok87 : fnOK Tryz.prog 87 = true := by kernel_rfl
theorem Tryz.ok88 : fnOK Tryz.prog 88 = true := by kernel_rfl
theorem Tryz.ok89 : fnOK Tryz.prog 89 = true := by kernel_rfl
theorem Tryz.ok90 : fnOK Tryz.prog 90 = true := by kernel_rfl
theorem Tryz.ok91 : fnOK Tryz.prog 91 = true := by kernel_rfl
theorem Tryz.ok92 : fnOK Tryz.prog 92 = true := by kernel_rfl
theorem Tryz.ok93 : fnOK Tryz.prog 93 = true := by kernel_rfl
theorem Tryz.ok94 : fnOK Tryz.prog 94 = true := by kernel_rfl
theorem Tryz.ok95 : fnOK Tryz.prog 95 = true := by kernel_rfl
theorem Tryz.ok96 : fnOK Tryz.prog 96 = true := by kernel_rfl
theorem Tryz.ok97 : fnOK Tryz.prog 97 = true := by kernel_rfl
theorem Tryz.ok98 : fnOK Tryz.prog 98 = true := by kernel_rfl
theorem Tryz.ok99 : fnOK Tryz.prog 99 = true := by kernel_rfl
theorem Tryz.ok100 : fnOK Tryz.prog 100 = true := by kernel_rfl
theorem Tryz.ok101 : fnOK Tryz.prog 101 = true := by kernel_rfl
theorem Tryz.ok102 : fnOK Tryz.prog 102 = true := by kernel_rfl
theorem Tryz.ok103 : fnOK Tryz.prog 103 = true := by kernel_rfl
theorem Tryz.ok104 : fnOK Tryz.prog 104 = true := by kernel_rfl
theorem Tryz.ok105 : fnOK Tryz.prog 105 = true := by kernel_rfl
theorem Tryz.ok106 : fnOK Tryz.prog 106 = true := by kernel_rfl
theorem Tryz.ok107 : fnOK Tryz.prog 107 = true := by kernel_rfl
theorem Tryz.ok108 : fnOK Tryz.prog 108 = true := by kernel_rfl
theorem Tryz.ok109 : fnOK Tryz.prog 109 = true := by kernel_rfl
theorem Tryz.ok110 : fnOK Tryz.prog 110 = true := by kernel_rfl
theorem Tryz.ok111 : fnOK Tryz.prog 111 = true := by kernel_rfl
theorem Tryz.ok112 : fnOK Tryz.prog 112 = true := by kernel_rfl
theorem Tryz.ok113 : fnOK Tryz.prog 113 = true := by kernel_rfl
theorem Tryz.ok114 : fnOK Tryz.prog 114 = true := by kernel_rfl
theorem Tryz.ok115 : fnOK Tryz.prog 115 = true := by kernel_rfl
theorem Tryz.ok116 : fnOK Tryz.prog 116 = true := by kernel_rfl
theorem Tryz.ok117 : fnOK Tryz.prog 117 = true := by kernel_rfl
theorem Tryz.ok118 : fnOK Tryz.prog 118 = true := by kernel_rfl
theorem Tryz.ok119 : fnOK Tryz.prog 119 = true := by kernel_rfl
theorem Tryz.ok120 : fnOK Tryz.prog 120 = true := by kernel_rfl
theorem Tryz.ok121 : fnOK Tryz.prog 121 = true := by kernel_rfl
theorem Tryz.ok122 : fnOK Tryz.prog 122 = true := by kernel_rfl
theorem Tryz.ok123 : fnOK Tryz.prog 123 = true := by kernel_rfl
theorem Tryz.ok124 : fnOK Tryz.prog 124 = true := by kernel_rfl
theorem Tryz.ok125 : fnOK Tryz.prog 125 = true := by kernel_rfl
theorem Tryz.ok126 : fnOK Tryz.prog 126 = true := by kernel_rfl
theorem Tryz.ok127 : fnOK Tryz.prog 127 = true := by kernel_rfl
theorem Tryz.ok128 : fnOK Tryz.prog 128 = true := by kernel_rfl
theorem Tryz.ok129 : fnOK Tryz.prog 129 = true := by kernel_rfl
theorem Tryz.ok130 : fnOK Tryz.prog 130 = true := by kernel_rfl
theorem Tryz.ok131 : fnOK Tryz.prog 131 = true := by kernel_rfl
theorem Tryz.ok132 : fnOK Tryz.prog 132 = true := by kernel_rfl
theorem Tryz.ok133 : fnOK Tryz.prog 133 = true := by kernel_rfl
theorem Tryz.ok134 : fnOK Tryz.prog 134 = true := by kernel_rfl
theorem Tryz.ok135 : fnOK Tryz.prog 135 = true := by kernel_rfl
theorem Tryz.ok136 : fnOK Tryz.prog 136 = true := by kernel_rfl
theorem Tryz.ok137 : fnOK Tryz.prog 137 = true := by kernel_rfl
theorem Tryz.ok138 : fnOK Tryz.prog 138 = true := by kernel_rfl
theorem Tryz.ok139 : fnOK Tryz.prog 139 = true := by kernel_rfl
theorem Tryz.ok140 : fnOK Tryz.prog 140 = true := by kernel_rfl
theorem Tryz.ok141 : fnOK Tryz.prog 141 = true := by kernel_rfl
theorem Tryz.ok142 : fnOK Tryz.prog 142 = true := by kernel_rfl
theorem Tryz.ok143 : fnOK Tryz.prog 143 = true := by kernel_rfl
theorem Tryz.ok144 : fnOK Tryz.prog 144 = true := by kernel_rfl
theorem Tryz.ok145 : fnOK Tryz.prog 145 = true := by kernel_rfl
theorem Tryz.ok146 : fnOK Tryz.prog 146 = true := by kernel_rfl
theorem Tryz.ok147 : fnOK Tryz.prog 147 = true := by kernel_rfl
theorem Tryz.ok148 : fnOK Tryz.prog 148 = true := by kernel_rfl
theorem Tryz.ok149 : fnOK Tryz.prog 149 = true := by kernel_rfl
theorem Tryz.ok165 : fnOK Tryz.prog 165 = true := by kernel_rfl
theorem Tryz.ok166 : fnOK Tryz.prog 166 = true := by kernel_rfl
theorem Tryz.ok168 : fnOK Tryz.prog 168 = true := by kernel_rfl
theorem Tryz.ok169 : fnOK Tryz.prog 169 = true := by kernel_rfl
theorem Tryz.ok170 : fnOK Tryz.prog 170 = true := by kernel_rfl
theorem Tryz.ok171 : fnOK Tryz.prog 171 = true := by kernel_rfl
attribute [go_sem] Tryz.ag2 Tryz.sz2 Tryz.tmk2 Tryz.by2 Tryz.zr2 Tryz.pz2 Tryz.ag3 Tryz.sz3 Tryz.tmk3 Tryz.by3 Tryz.zr3 Tryz.ag4 Tryz.sz4 Tryz.tmk4 Tryz.tb4 Tryz.by4 Tryz.zr4 Tryz.pz4 Tryz.ag5 Tryz.sz5 Tryz.tmk5 Tryz.by5 Tryz.zr5 Tryz.pz5 Tryz.ag6 Tryz.sz6 Tryz.tmk6 Tryz.by6 Tryz.zr6 Tryz.ag7 Tryz.sz7 Tryz.fd7_0 Tryz.fd7_1 Tryz.fd7_2 Tryz.fd7_3 Tryz.tp7 Tryz.eql7 Tryz.neq7 Tryz.tmk7 Tryz.by7 Tryz.zr7 Tryz.pz7 Tryz.ag8 Tryz.sz8 Tryz.fd8_0 Tryz.fd8_1 Tryz.fd8_2 Tryz.fd8_3 Tryz.tp8 Tryz.eql8 Tryz.neq8 Tryz.tmk8 Tryz.by8 Tryz.zr8 Tryz.ag9 Tryz.sz9 Tryz.tmk9 Tryz.by9 Tryz.zr9 Tryz.pz9 Tryz.ag10 Tryz.sz10 Tryz.by10 Tryz.zr10 Tryz.ag11 Tryz.sz11 Tryz.by11 Tryz.zr11 Tryz.ag12 Tryz.sz12 Tryz.tmk12 Tryz.by12 Tryz.zr12 Tryz.pz12 Tryz.ag13 Tryz.sz13 Tryz.fd13_0 Tryz.fd13_1 Tryz.tp13 Tryz.tmk13 Tryz.by13 Tryz.zr13 Tryz.pz13 Tryz.ag14 Tryz.sz14 Tryz.fd14_0 Tryz.fd14_1 Tryz.tp14 Tryz.tmk14 Tryz.by14 Tryz.zr14 Tryz.ag15 Tryz.sz15 Tryz.tmk15 Tryz.tptr15 Tryz.by15 Tryz.zr15 Tryz.pz15 Tryz.mt15_Error Tryz.mt15_RuntimeError Tryz.ag16 Tryz.sz16 Tryz.tmk16 Tryz.tptr16 Tryz.by16 Tryz.zr16 Tryz.mt16_Error Tryz.mt16_RuntimeError Tryz.ag17 Tryz.sz17 Tryz.tmk17 Tryz.tptr17 Tryz.by17 Tryz.zr17 Tryz.mt17_Align Tryz.ag18 Tryz.sz18 Tryz.fd18_0 Tryz.tp18 Tryz.tmk18 Tryz.by18 Tryz.zr18 Tryz.pz18 Tryz.ag19 Tryz.sz19 Tryz.fd19_0 Tryz.tp19 Tryz.tmk19 Tryz.by19 Tryz.zr19 Tryz.ag20 Tryz.sz20 Tryz.tif20 Tryz.by20 Tryz.zr20 Tryz.pz20 Tryz.ag21 Tryz.sz21 Tryz.tmk21 Tryz.by21 Tryz.zr21 Tryz.pz21 Tryz.ag22 Tryz.sz22 Tryz.tp22 Tryz.by22 Tryz.ar22 Tryz.zr22 Tryz.pz22 Tryz.ag23 Tryz.sz23 Tryz.fd23_0 Tryz.fd23_1 Tryz.fd23_2 Tryz.tp23 Tryz.tmk23 Tryz.by23 Tryz.zr23 Tryz.pz23 Tryz.ag24 Tryz.sz24 Tryz.fd24_0 Tryz.fd24_1 Tryz.fd24_2 Tryz.tp24 Tryz.tmk24 Tryz.by24 Tryz.zr24 Tryz.ag27 Tryz.sz27 Tryz.tmk27 Tryz.tptr27 Tryz.by27 Tryz.zr27 Tryz.mt27_Bytes Tryz.mt27_Do Tryz.mt27_Word Tryz.mt27_Words Tryz.ag29 Tryz.sz29 Tryz.tmk29 Tryz.tptr29 Tryz.by29 Tryz.zr29 Tryz.mt29_Add Tryz.mt29_CAS Tryz.mt29_Fresh Tryz.mt29_Get Tryz.mt29_Load Tryz.mt29_Put Tryz.mt29_Self Tryz.mt29_Steps Tryz.mt29_Store Tryz.mt29_Tell Tryz.ag31 Tryz.sz31 Tryz.tsl31 Tryz.by31 Tryz.sl31 Tryz.zr31 Tryz.pz31 Tryz.ag32 Tryz.sz32 Tryz.tmk32 Tryz.by32 Tryz.zr32 Tryz.ag39 Tryz.sz39 Tryz.tmk39 Tryz.by39 Tryz.zr39 Tryz.pz39 Tryz.ag40 Tryz.sz40 Tryz.fd40_0 Tryz.fd40_1 Tryz.fd40_2 Tryz.tp40 Tryz.eql40 Tryz.neq40 Tryz.tmk40 Tryz.by40 Tryz.zr40 Tryz.pz40 Tryz.ag41 Tryz.sz41 Tryz.fd41_0 Tryz.fd41_1 Tryz.fd41_2 Tryz.tp41 Tryz.eql41 Tryz.neq41 Tryz.tmk41 Tryz.by41 Tryz.zr41 Tryz.ag43 Tryz.sz43 Tryz.tmk43 Tryz.by43 Tryz.zr43 Tryz.ag48 Tryz.sz48 Tryz.tsl48 Tryz.by48 Tryz.sl48 Tryz.zr48 Tryz.ag49 Tryz.sz49 Tryz.fd49_0 Tryz.fd49_1 Tryz.fd49_2 Tryz.fd49_3 Tryz.fd49_4 Tryz.tp49 Tryz.eql49 Tryz.neq49 Tryz.tmk49 Tryz.by49 Tryz.zr49 Tryz.pz49 Tryz.ag50 Tryz.sz50 Tryz.fd50_0 Tryz.fd50_1 Tryz.fd50_2 Tryz.fd50_3 Tryz.fd50_4 Tryz.tp50 Tryz.eql50 Tryz.neq50 Tryz.tmk50 Tryz.by50 Tryz.zr50 Tryz.ag54 Tryz.sz54 Tryz.tmk54 Tryz.tptr54 Tryz.by54 Tryz.zr54 Tryz.ag55 Tryz.sz55 Tryz.tsl55 Tryz.by55 Tryz.sl55 Tryz.zr55 Tryz.ag56 Tryz.sz56 Tryz.fd56_0 Tryz.fd56_1 Tryz.tp56 Tryz.tmk56 Tryz.by56 Tryz.zr56 Tryz.pz56 Tryz.ag57 Tryz.sz57 Tryz.fd57_0 Tryz.fd57_1 Tryz.tp57 Tryz.tmk57 Tryz.by57 Tryz.zr57 Tryz.ag61 Tryz.sz61 Tryz.tp61 Tryz.by61 Tryz.ar61 Tryz.zr61 Tryz.pz61 Tryz.ag63 Tryz.sz63 Tryz.tmk63 Tryz.tptr63 Tryz.by63 Tryz.zr63 Tryz.ag64 Tryz.sz64 Tryz.fd64_0 Tryz.fd64_1 Tryz.tp64 Tryz.tmk64 Tryz.by64 Tryz.zr64 Tryz.pz64 Tryz.ag65 Tryz.sz65 Tryz.fd65_0 Tryz.fd65_1 Tryz.tp65 Tryz.tmk65 Tryz.by65 Tryz.zr65 Tryz.ag66 Tryz.sz66 Tryz.tmk66 Tryz.tptr66 Tryz.by66 Tryz.zr66 Tryz.ag67 Tryz.sz67 Tryz.fd67_0 Tryz.fd67_1 Tryz.fd67_2 Tryz.tp67 Tryz.tmk67 Tryz.by67 Tryz.zr67 Tryz.pz67 Tryz.ag68 Tryz.sz68 Tryz.fd68_0 Tryz.fd68_1 Tryz.fd68_2 Tryz.tp68 Tryz.tmk68 Tryz.by68 Tryz.zr68 Tryz.ag69 Tryz.sz69 Tryz.tif69 Tryz.by69 Tryz.zr69 Tryz.ag70 Tryz.sz70 Tryz.tif70 Tryz.by70 Tryz.zr70 Tryz.ag72 Tryz.sz72 Tryz.tmk72 Tryz.tptr72 Tryz.by72 Tryz.zr72 Tryz.ag73 Tryz.sz73 Tryz.fd73_0 Tryz.fd73_1 Tryz.fd73_2 Tryz.tp73 Tryz.tmk73 Tryz.by73 Tryz.zr73 Tryz.pz73 Tryz.ag74 Tryz.sz74 Tryz.fd74_0 Tryz.fd74_1 Tryz.fd74_2 Tryz.tp74 Tryz.tmk74 Tryz.by74 Tryz.zr74 Tryz.ag76 Tryz.sz76 Tryz.tp76 Tryz.by76 Tryz.ar76 Tryz.zr76 Tryz.pz76 Tryz.ag78 Tryz.sz78 Tryz.tp78 Tryz.by78 Tryz.ar78 Tryz.zr78 Tryz.pz78 Tryz.ag81 Tryz.sz81 Tryz.fd81_0 Tryz.fd81_1 Tryz.fd81_2 Tryz.tp81 Tryz.eql81 Tryz.neq81 Tryz.tmk81 Tryz.by81 Tryz.zr81 Tryz.pz81 Tryz.ag82 Tryz.sz82 Tryz.fd82_0 Tryz.fd82_1 Tryz.fd82_2 Tryz.tp82 Tryz.eql82 Tryz.neq82 Tryz.tmk82 Tryz.by82 Tryz.zr82 Tryz.ag84 Tryz.sz84 Tryz.tsl84 Tryz.by84 Tryz.sl84 Tryz.zr84 Tryz.ag86 Tryz.sz86 Tryz.fd86_0 Tryz.fd86_1 Tryz.fd86_2 Tryz.fd86_3 Tryz.tp86 Tryz.eql86 Tryz.neq86 Tryz.tmk86 Tryz.by86 Tryz.zr86 Tryz.pz86 Tryz.ag87 Tryz.sz87 Tryz.fd87_0 Tryz.fd87_1 Tryz.fd87_2 Tryz.fd87_3 Tryz.tp87 Tryz.eql87 Tryz.neq87 Tryz.tmk87 Tryz.by87 Tryz.zr87 Tryz.ag97 Tryz.sz97 Tryz.fd97_0 Tryz.fd97_1 Tryz.fd97_2 Tryz.fd97_3 Tryz.tp97 Tryz.eql97 Tryz.neq97 Tryz.tmk97 Tryz.by97 Tryz.zr97 Tryz.pz97 Tryz.ag98 Tryz.sz98 Tryz.fd98_0 Tryz.fd98_1 Tryz.fd98_2 Tryz.fd98_3 Tryz.tp98 Tryz.eql98 Tryz.neq98 Tryz.tmk98 Tryz.by98 Tryz.zr98 Tryz.ag102 Tryz.sz102 Tryz.fd102_0 Tryz.fd102_1 Tryz.fd102_2 Tryz.fd102_3 Tryz.tp102 Tryz.eql102 Tryz.neq102 Tryz.tmk102 Tryz.by102 Tryz.zr102 Tryz.pz102 Tryz.ag103 Tryz.sz103 Tryz.fd103_0 Tryz.fd103_1 Tryz.fd103_2 Tryz.fd103_3 Tryz.tp103 Tryz.eql103 Tryz.neq103 Tryz.tmk103 Tryz.by103 Tryz.zr103 Tryz.ag106 Tryz.sz106 Tryz.fd106_0 Tryz.fd106_1 Tryz.tp106 Tryz.tmk106 Tryz.by106 Tryz.zr106 Tryz.pz106 Tryz.ag107 Tryz.sz107 Tryz.fd107_0 Tryz.fd107_1 Tryz.tp107 Tryz.tmk107 Tryz.by107 Tryz.zr107 Tryz.ag110 Tryz.sz110 Tryz.fd110_0 Tryz.fd110_1 Tryz.tp110 Tryz.tmk110 Tryz.by110 Tryz.zr110 Tryz.ag111 Tryz.sz111 Tryz.fd111_0 Tryz.fd111_1 Tryz.tp111 Tryz.tmk111 Tryz.by111 Tryz.zr111 Tryz.ag112 Tryz.sz112 Tryz.fd112_0 Tryz.fd112_1 Tryz.tp112 Tryz.tmk112 Tryz.by112 Tryz.zr112 Tryz.pz112 Tryz.ag113 Tryz.sz113 Tryz.fd113_0 Tryz.fd113_1 Tryz.tp113 Tryz.tmk113 Tryz.by113 Tryz.zr113 Tryz.ag129 Tryz.sz129 Tryz.tp129 Tryz.by129 Tryz.ar129 Tryz.zr129 Tryz.ag131 Tryz.sz131 Tryz.tsl131 Tryz.by131 Tryz.sl131 Tryz.zr131 Tryz.ag132 Tryz.sz132 Tryz.tsl132 Tryz.by132 Tryz.sl132 Tryz.zr132 Tryz.ag133 Tryz.sz133 Tryz.fd133_0 Tryz.fd133_1 Tryz.tp133 Tryz.tmk133 Tryz.by133 Tryz.zr133 Tryz.pz133 Tryz.ag134 Tryz.sz134 Tryz.fd134_0 Tryz.fd134_1 Tryz.tp134 Tryz.tmk134 Tryz.by134 Tryz.zr134 Tryz.ag151 Tryz.sz151 Tryz.fd151_0 Tryz.fd151_1 Tryz.fd151_2 Tryz.tp151 Tryz.eql151 Tryz.neq151 Tryz.tmk151 Tryz.by151 Tryz.zr151 Tryz.pz151 Tryz.ag152 Tryz.sz152 Tryz.fd152_0 Tryz.fd152_1 Tryz.fd152_2 Tryz.tp152 Tryz.eql152 Tryz.neq152 Tryz.tmk152 Tryz.by152 Tryz.zr152 Tryz.ag153 Tryz.sz153 Tryz.tp153 Tryz.by153 Tryz.ar153 Tryz.zr153 Tryz.pz153 Tryz.ag155 Tryz.sz155 Tryz.fd155_0 Tryz.fd155_1 Tryz.fd155_2 Tryz.tp155 Tryz.eql155 Tryz.neq155 Tryz.tmk155 Tryz.by155 Tryz.zr155 Tryz.ag156 Tryz.sz156 Tryz.fd156_0 Tryz.fd156_1 Tryz.fd156_2 Tryz.tp156 Tryz.eql156 Tryz.neq156 Tryz.tmk156 Tryz.by156 Tryz.zr156 Tryz.ag165 Tryz.sz165 Tryz.tsl165 Tryz.by165 Tryz.sl165 Tryz.zr165 Tryz.ag171 Tryz.sz171 Tryz.tmk171 Tryz.by171 Tryz.zr171 Tryz.ag173 Tryz.sz173 Tryz.fd173_0 Tryz.fd173_1 Tryz.fd173_2 Tryz.fd173_3 Tryz.tp173 Tryz.tmk173 Tryz.by173 Tryz.zr173 Tryz.pz173 Tryz.ag174 Tryz.sz174 Tryz.fd174_0 Tryz.fd174_1 Tryz.fd174_2 Tryz.fd174_3 Tryz.tp174 Tryz.tmk174 Tryz.by174 Tryz.zr174 Tryz.ag175 Tryz.sz175 Tryz.tp175 Tryz.by175 Tryz.ar175 Tryz.zr175 Tryz.pz175 Tryz.ag176 Tryz.sz176 Tryz.fd176_0 Tryz.tp176 Tryz.tmk176 Tryz.by176 Tryz.zr176 Tryz.ag177 Tryz.sz177 Tryz.fd177_0 Tryz.tp177 Tryz.tmk177 Tryz.by177 Tryz.zr177 Tryz.ag178 Tryz.sz178 Tryz.tmk178 Tryz.by178 Tryz.zr178 Tryz.ag179 Tryz.sz179 Tryz.tmk179 Tryz.by179 Tryz.zr179 Tryz.ag181 Tryz.sz181 Tryz.tmk181 Tryz.tptr181 Tryz.by181 Tryz.zr181 Tryz.ag182 Tryz.sz182 Tryz.tmk182 Tryz.by182 Tryz.zr182 Tryz.ag183 Tryz.sz183 Tryz.tmk183 Tryz.by183 Tryz.zr183 Tryz.ag184 Tryz.sz184 Tryz.fd184_0 Tryz.fd184_1 Tryz.fd184_2 Tryz.fd184_3 Tryz.fd184_4 Tryz.fd184_5 Tryz.fd184_6 Tryz.fd184_7 Tryz.fd184_8 Tryz.fd184_9 Tryz.fd184_10 Tryz.tp184 Tryz.tmk184 Tryz.by184 Tryz.zr184 Tryz.pz184 Tryz.ag185 Tryz.sz185 Tryz.fd185_0 Tryz.fd185_1 Tryz.fd185_2 Tryz.fd185_3 Tryz.fd185_4 Tryz.fd185_5 Tryz.fd185_6 Tryz.fd185_7 Tryz.fd185_8 Tryz.fd185_9 Tryz.fd185_10 Tryz.tp185 Tryz.tmk185 Tryz.by185 Tryz.zr185 Tryz.ag187 Tryz.sz187 Tryz.fd187_0 Tryz.fd187_1 Tryz.fd187_2 Tryz.fd187_3 Tryz.fd187_4 Tryz.tp187 Tryz.eql187 Tryz.neq187 Tryz.tmk187 Tryz.by187 Tryz.zr187 Tryz.pz187 Tryz.ag188 Tryz.sz188 Tryz.fd188_0 Tryz.fd188_1 Tryz.fd188_2 Tryz.fd188_3 Tryz.fd188_4 Tryz.tp188 Tryz.eql188 Tryz.neq188 Tryz.tmk188 Tryz.by188 Tryz.zr188 Tryz.ag189 Tryz.sz189 Tryz.fd189_0 Tryz.fd189_1 Tryz.fd189_2 Tryz.fd189_3 Tryz.fd189_4 Tryz.fd189_5 Tryz.fd189_6 Tryz.tp189 Tryz.tmk189 Tryz.by189 Tryz.zr189 Tryz.pz189 Tryz.ag190 Tryz.sz190 Tryz.fd190_0 Tryz.fd190_1 Tryz.fd190_2 Tryz.fd190_3 Tryz.fd190_4 Tryz.fd190_5 Tryz.fd190_6 Tryz.tp190 Tryz.tmk190 Tryz.by190 Tryz.zr190 Tryz.ag194 Tryz.sz194 Tryz.by194 Tryz.zr194 Tryz.cv2_2 Tryz.cv2_3 Tryz.cv2_5 Tryz.cv2_6 Tryz.cv2_12 Tryz.cv2_21 Tryz.cv2_32 Tryz.cv2_39 Tryz.cv2_43 Tryz.cv2_171 Tryz.cv2_178 Tryz.cv2_179 Tryz.cv2_182 Tryz.cv2_183 Tryz.cv3_2 Tryz.cv3_3 Tryz.cv3_5 Tryz.cv3_6 Tryz.cv3_12 Tryz.cv3_21 Tryz.cv3_32 Tryz.cv3_39 Tryz.cv3_43 Tryz.cv3_171 Tryz.cv3_178 Tryz.cv3_179 Tryz.cv3_182 Tryz.cv3_183 Tryz.cv5_2 Tryz.cv5_3 Tryz.cv5_5 Tryz.cv5_6 Tryz.cv5_12 Tryz.cv5_21 Tryz.cv5_32 Tryz.cv5_39 Tryz.cv5_43 Tryz.cv5_171 Tryz.cv5_178 Tryz.cv5_179 Tryz.cv5_182 Tryz.cv5_183 Tryz.cv6_2 Tryz.cv6_3 Tryz.cv6_5 Tryz.cv6_6 Tryz.cv6_12 Tryz.cv6_21 Tryz.cv6_32 Tryz.cv6_39 Tryz.cv6_43 Tryz.cv6_171 Tryz.cv6_178 Tryz.cv6_179 Tryz.cv6_182 Tryz.cv6_183 Tryz.cv12_2 Tryz.cv12_3 Tryz.cv12_5 Tryz.cv12_6 Tryz.cv12_12 Tryz.cv12_21 Tryz.cv12_32 Tryz.cv12_39 Tryz.cv12_43 Tryz.cv12_171 Tryz.cv12_178 Tryz.cv12_179 Tryz.cv12_182 Tryz.cv12_183 Tryz.cv21_2 Tryz.cv21_3 Tryz.cv21_5 Tryz.cv21_6 Tryz.cv21_12 Tryz.cv21_21 Tryz.cv21_32 Tryz.cv21_39 Tryz.cv21_43 Tryz.cv21_171 Tryz.cv21_178 Tryz.cv21_179 Tryz.cv21_182 Tryz.cv21_183 Tryz.cv32_2 Tryz.cv32_3 Tryz.cv32_5 Tryz.cv32_6 Tryz.cv32_12 Tryz.cv32_21 Tryz.cv32_32 Tryz.cv32_39 Tryz.cv32_43 Tryz.cv32_171 Tryz.cv32_178 Tryz.cv32_179 Tryz.cv32_182 Tryz.cv32_183 Tryz.cv39_2 Tryz.cv39_3 Tryz.cv39_5 Tryz.cv39_6 Tryz.cv39_12 Tryz.cv39_21 Tryz.cv39_32 Tryz.cv39_39 Tryz.cv39_43 Tryz.cv39_171 Tryz.cv39_178 Tryz.cv39_179 Tryz.cv39_182 Tryz.cv39_183 Tryz.cv43_2 Tryz.cv43_3 Tryz.cv43_5 Tryz.cv43_6 Tryz.cv43_12 Tryz.cv43_21 Tryz.cv43_32 Tryz.cv43_39 Tryz.cv43_43 Tryz.cv43_171 Tryz.cv43_178 Tryz.cv43_179 Tryz.cv43_182 Tryz.cv43_183 Tryz.cv171_2 Tryz.cv171_3 Tryz.cv171_5 Tryz.cv171_6 Tryz.cv171_12 Tryz.cv171_21 Tryz.cv171_32 Tryz.cv171_39 Tryz.cv171_43 Tryz.cv171_171 Tryz.cv171_178 Tryz.cv171_179 Tryz.cv171_182 Tryz.cv171_183 Tryz.cv178_2 Tryz.cv178_3 Tryz.cv178_5 Tryz.cv178_6 Tryz.cv178_12 Tryz.cv178_21 Tryz.cv178_32 Tryz.cv178_39 Tryz.cv178_43 Tryz.cv178_171 Tryz.cv178_178 Tryz.cv178_179 Tryz.cv178_182 Tryz.cv178_183 Tryz.cv179_2 Tryz.cv179_3 Tryz.cv179_5 Tryz.cv179_6 Tryz.cv179_12 Tryz.cv179_21 Tryz.cv179_32 Tryz.cv179_39 Tryz.cv179_43 Tryz.cv179_171 Tryz.cv179_178 Tryz.cv179_179 Tryz.cv179_182 Tryz.cv179_183 Tryz.cv182_2 Tryz.cv182_3 Tryz.cv182_5 Tryz.cv182_6 Tryz.cv182_12 Tryz.cv182_21 Tryz.cv182_32 Tryz.cv182_39 Tryz.cv182_43 Tryz.cv182_171 Tryz.cv182_178 Tryz.cv182_179 Tryz.cv182_182 Tryz.cv182_183 Tryz.cv183_2 Tryz.cv183_3 Tryz.cv183_5 Tryz.cv183_6 Tryz.cv183_12 Tryz.cv183_21 Tryz.cv183_32 Tryz.cv183_39 Tryz.cv183_43 Tryz.cv183_171 Tryz.cv183_178 Tryz.cv183_179 Tryz.cv183_182 Tryz.cv183_183 Tryz.ok2 Tryz.ok3 Tryz.ok4 Tryz.ok5 Tryz.ok6 Tryz.ok7 Tryz.ok8 Tryz.ok9 Tryz.ok10 Tryz.ok11 Tryz.ok12 Tryz.ok13 Tryz.ok14 Tryz.ok15 Tryz.ok16 Tryz.ok17 Tryz.ok18 Tryz.ok19 Tryz.ok20 Tryz.ok21 Tryz.ok22 Tryz.ok23 Tryz.ok24 Tryz.ok25 Tryz.ok26 Tryz.ok27 Tryz.ok28 Tryz.ok29 Tryz.ok30 Tryz.ok31 Tryz.ok32 Tryz.ok33 Tryz.ok34 Tryz.ok35 Tryz.ok36 Tryz.ok37 Tryz.ok38 Tryz.ok39 Tryz.ok40 Tryz.ok41 Tryz.ok42 Tryz.ok43 Tryz.ok44 Tryz.ok45 Tryz.ok46 Tryz.ok47 Tryz.ok48 Tryz.ok49 Tryz.ok50 Tryz.ok51 Tryz.ok52 Tryz.ok53 Tryz.ok54 Tryz.ok55 Tryz.ok56 Tryz.ok57 Tryz.ok58 Tryz.ok59 Tryz.ok60 Tryz.ok61 Tryz.ok62 Tryz.ok63 Tryz.ok64 Tryz.ok65 Tryz.ok66 Tryz.ok67 Tryz.ok68 Tryz.ok69 Tryz.ok70 Tryz.ok71 Tryz.ok72 Tryz.ok73 Tryz.ok74 Tryz.ok75 Tryz.ok76 Tryz.ok77 Tryz.ok78 Tryz.ok79 Tryz.ok80 Tryz.ok81 Tryz.ok82 Tryz.ok83 Tryz.ok84 Tryz.ok85 Tryz.ok86 Tryz.ok87 Tryz.ok88 Tryz.ok89 Tryz.ok90 Tryz.ok91 Tryz.ok92 Tryz.ok93 Tryz.ok94 Tryz.ok95 Tryz.ok96 Tryz.ok97 Tryz.ok98 Tryz.ok99 Tryz.ok100 Tryz.ok101 Tryz.ok102 Tryz.ok103 Tryz.ok104 Tryz.ok105 Tryz.ok106 Tryz.ok107 Tryz.ok108 Tryz.ok109 Tryz.ok110 Tryz.ok111 Tryz.ok112 Tryz.ok113 Tryz.ok114 Tryz.ok115 Tryz.ok116 Tryz.ok117 Tryz.ok118 Tryz.ok119 Tryz.ok120 Tryz.ok121 Tryz.ok122 Tryz.ok123 Tryz.ok124 Tryz.ok125 Tryz.ok126 Tryz.ok127 Tryz.ok128 Tryz.ok129 Tryz.ok130 Tryz.ok131 Tryz.ok132 Tryz.ok133 Tryz.ok134 Tryz.ok135 Tryz.ok136 Tryz.ok137 Tryz.ok138 Tryz.ok139 Tryz.ok140 Tryz.ok141 Tryz.ok142 Tryz.ok143 Tryz.ok144 Tryz.ok145 Tryz.ok146 Tryz.ok147 Tryz.ok148 Tryz.ok149 Tryz.ok165 Tryz.ok166 Tryz.ok168 Tryz.ok169 Tryz.ok170 Tryz.ok171
end Go.Proofs.YtjdbknnacaacaaaGreat
