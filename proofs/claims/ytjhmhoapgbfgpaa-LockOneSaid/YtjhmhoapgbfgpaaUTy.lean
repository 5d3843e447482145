/-
  Facts on the types and functions of this program, as the abstract machine asks them.
  No condition: closed facts.
-/
import Derived.Test.YtjhmhoapgbfgpaaUAx11
set_option maxHeartbeats 40000000
namespace Go.Proofs.Ytjhmhoapgbfgpaa
open Go Go.RowKit
theorem Try.eql7 (y:Operand) (a0 b0:Int) (a1 b1:Int) (a2 b2:Bool) (a3 b3:Int):zaT Try.prog .eql 7 y (.agg #[.int .i64 a0,.int .i64 a1,.bool a2,.int .u8 a3]) (.agg #[.int .i64 b0,.int .i64 b1,.bool b2,.int .u8 b3])=some (.bool (a0==b0 && (a1==b1 && (a2==b2 && (a3==b3 && true))))):=by kernel_rfl
theorem Try.neq7 (y:Operand) (a0 b0:Int) (a1 b1:Int) (a2 b2:Bool) (a3 b3:Int):zaT Try.prog .neq 7 y (.agg #[.int .i64 a0,.int .i64 a1,.bool a2,.int .u8 a3]) (.agg #[.int .i64 b0,.int .i64 b1,.bool b2,.int .u8 b3])=some (.bool !(a0==b0 && (a1==b1 && (a2==b2 && (a3==b3 && true))))):=by kernel_rfl
theorem Try.eql8 (y:Operand) (a0 b0:Int) (a1 b1:Int) (a2 b2:Bool) (a3 b3:Int):zaT Try.prog .eql 8 y (.agg #[.int .i64 a0,.int .i64 a1,.bool a2,.int .u8 a3]) (.agg #[.int .i64 b0,.int .i64 b1,.bool b2,.int .u8 b3])=some (.bool (a0==b0 && (a1==b1 && (a2==b2 && (a3==b3 && true))))):=by kernel_rfl
theorem Try.neq8 (y:Operand) (a0 b0:Int) (a1 b1:Int) (a2 b2:Bool) (a3 b3:Int):zaT Try.prog .neq 8 y (.agg #[.int .i64 a0,.int .i64 a1,.bool a2,.int .u8 a3]) (.agg #[.int .i64 b0,.int .i64 b1,.bool b2,.int .u8 b3])=some (.bool !(a0==b0 && (a1==b1 && (a2==b2 && (a3==b3 && true))))):=by kernel_rfl
theorem Try.eql60 (y:Operand) (a0 b0:Int) (a1 b1:Int) (a2 b2:Int) (a3 b3:Int):zaT Try.prog .eql 60 y (.agg #[.int .u8 a0,.int .i64 a1,.int .u64 a2,.int .u64 a3]) (.agg #[.int .u8 b0,.int .i64 b1,.int .u64 b2,.int .u64 b3])=some (.bool (a0==b0 && (a1==b1 && (a2==b2 && (a3==b3 && true))))):=by kernel_rfl
theorem Try.neq60 (y:Operand) (a0 b0:Int) (a1 b1:Int) (a2 b2:Int) (a3 b3:Int):zaT Try.prog .neq 60 y (.agg #[.int .u8 a0,.int .i64 a1,.int .u64 a2,.int .u64 a3]) (.agg #[.int .u8 b0,.int .i64 b1,.int .u64 b2,.int .u64 b3])=some (.bool !(a0==b0 && (a1==b1 && (a2==b2 && (a3==b3 && true))))):=by kernel_rfl
theorem Try.eql61 (y:Operand) (a0 b0:Int) (a1 b1:Int) (a2 b2:Int) (a3 b3:Int):zaT Try.prog .eql 61 y (.agg #[.int .u8 a0,.int .i64 a1,.int .u64 a2,.int .u64 a3]) (.agg #[.int .u8 b0,.int .i64 b1,.int .u64 b2,.int .u64 b3])=some (.bool (a0==b0 && (a1==b1 && (a2==b2 && (a3==b3 && true))))):=by kernel_rfl
theorem Try.neq61 (y:Operand) (a0 b0:Int) (a1 b1:Int) (a2 b2:Int) (a3 b3:Int):zaT Try.prog .neq 61 y (.agg #[.int .u8 a0,.int .i64 a1,.int .u64 a2,.int .u64 a3]) (.agg #[.int .u8 b0,.int .i64 b1,.int .u64 b2,.int .u64 b3])=some (.bool !(a0==b0 && (a1==b1 && (a2==b2 && (a3==b3 && true))))):=by kernel_rfl
theorem Try.eql116 (y:Operand) (a0 b0:Int) (a1 b1:Int) (a2 b2:Int) (a3 b3:Int) (a4 b4:Int):zaT Try.prog .eql 116 y (.agg #[.int .u64 a0,.int .u64 a1,.int .u64 a2,.int .u64 a3,.int .u64 a4]) (.agg #[.int .u64 b0,.int .u64 b1,.int .u64 b2,.int .u64 b3,.int .u64 b4])=some (.bool (a0==b0 && (a1==b1 && (a2==b2 && (a3==b3 && (a4==b4 && true)))))):=by kernel_rfl
theorem Try.neq116 (y:Operand) (a0 b0:Int) (a1 b1:Int) (a2 b2:Int) (a3 b3:Int) (a4 b4:Int):zaT Try.prog .neq 116 y (.agg #[.int .u64 a0,.int .u64 a1,.int .u64 a2,.int .u64 a3,.int .u64 a4]) (.agg #[.int .u64 b0,.int .u64 b1,.int .u64 b2,.int .u64 b3,.int .u64 b4])=some (.bool !(a0==b0 && (a1==b1 && (a2==b2 && (a3==b3 && (a4==b4 && true)))))):=by kernel_rfl
theorem Try.eql117 (y:Operand) (a0 b0:Int) (a1 b1:Int) (a2 b2:Int) (a3 b3:Int) (a4 b4:Int):zaT Try.prog .eql 117 y (.agg #[.int .u64 a0,.int .u64 a1,.int .u64 a2,.int .u64 a3,.int .u64 a4]) (.agg #[.int .u64 b0,.int .u64 b1,.int .u64 b2,.int .u64 b3,.int .u64 b4])=some (.bool (a0==b0 && (a1==b1 && (a2==b2 && (a3==b3 && (a4==b4 && true)))))):=by kernel_rfl
theorem Try.neq117 (y:Operand) (a0 b0:Int) (a1 b1:Int) (a2 b2:Int) (a3 b3:Int) (a4 b4:Int):zaT Try.prog .neq 117 y (.agg #[.int .u64 a0,.int .u64 a1,.int .u64 a2,.int .u64 a3,.int .u64 a4]) (.agg #[.int .u64 b0,.int .u64 b1,.int .u64 b2,.int .u64 b3,.int .u64 b4])=some (.bool !(a0==b0 && (a1==b1 && (a2==b2 && (a3==b3 && (a4==b4 && true)))))):=by kernel_rfl
theorem Try.ty0 :
  zaV Try.prog 2=some false ∧
  zaj Try.prog 2=some 1 ∧
  tyMk Try.prog 2=true ∧
  zaq Try.prog 2=some 8 ∧
  zax Try.prog 2=some (.int .i64 0) ∧
  zac (.int .i64 0)=true ∧
  zaV Try.prog 3=some false ∧
  zaj Try.prog 3=some 1 ∧
  tyMk Try.prog 3=true ∧
  zaq Try.prog 3=some 8 ∧
  zax Try.prog 3=some (.int .i64 0) ∧
  zaV Try.prog 4=some false ∧
  zaj Try.prog 4=some 1 ∧
  tyMk Try.prog 4=true ∧
  zlw Try.prog 4=true ∧
  zaq Try.prog 4=some 1 ∧
  zax Try.prog 4=some (.bool false) ∧
  zac (.bool false)=true ∧
  zaV Try.prog 5=some false ∧
  zaj Try.prog 5=some 1 ∧
  tyMk Try.prog 5=true ∧
  zaq Try.prog 5=some 1 ∧
  zax Try.prog 5=some (.int .u8 0) ∧
  zac (.int .u8 0)=true:=by (repeat' apply And.intro)<;>kernel_rfl
theorem Try.ty2 :
  zaq Try.prog 8=some 24 ∧
  zax Try.prog 8=some (.agg #[.int .i64 0,.int .i64 0,.bool false,.int .u8 0]) ∧
  zaV Try.prog 9=some false ∧
  zaj Try.prog 9=some 1 ∧
  tyMk Try.prog 9=true ∧
  zaq Try.prog 9=some 16 ∧
  zax Try.prog 9=some (.string ⟨#[]⟩) ∧
  zac (.string ⟨#[]⟩)=true ∧
  zaV Try.prog 10=some false ∧
  zaj Try.prog 10=some 1 ∧
  zaq Try.prog 10=some 16 ∧
  zax Try.prog 10=some (.string ⟨#[]⟩) ∧
  zaV Try.prog 11=some false ∧
  zaj Try.prog 11=some 1 ∧
  zaq Try.prog 11=some 16 ∧
  zax Try.prog 11=some (.string ⟨#[]⟩) ∧
  zaV Try.prog 12=some false ∧
  zaj Try.prog 12=some 1 ∧
  tyMk Try.prog 12=true ∧
  zaq Try.prog 12=some 8 ∧
  zax Try.prog 12=some (.int .u64 0) ∧
  zac (.int .u64 0)=true ∧
  zaV Try.prog 13=some true ∧
  zaj Try.prog 13=some 2:=by (repeat' apply And.intro)<;>kernel_rfl
theorem Try.ty3 :
  zap Try.prog 13 0=some (0,9) ∧
  zap Try.prog 13 1=some (1,12) ∧
  (za8 Try.prog 13=some fun i=>([(0,1),(1,1)]:List (Nat × Nat))[i]?) ∧
  tyMk Try.prog 13=true ∧
  zaq Try.prog 13=some 24 ∧
  zax Try.prog 13=some (.agg #[.string ⟨#[]⟩,.int .u64 0]) ∧
  zac (.agg #[.string ⟨#[]⟩,.int .u64 0])=true ∧
  zaV Try.prog 14=some true ∧
  zaj Try.prog 14=some 2 ∧
  zap Try.prog 14 0=some (0,9) ∧
  zap Try.prog 14 1=some (1,12) ∧
  (za8 Try.prog 14=some fun i=>([(0,1),(1,1)]:List (Nat × Nat))[i]?) ∧
  tyMk Try.prog 14=true ∧
  zaq Try.prog 14=some 24 ∧
  zax Try.prog 14=some (.agg #[.string ⟨#[]⟩,.int .u64 0]) ∧
  zaV Try.prog 15=some false ∧
  zaj Try.prog 15=some 1 ∧
  tyMk Try.prog 15=true ∧
  zgb Try.prog 15=true ∧
  zaq Try.prog 15=some 8 ∧
  zax Try.prog 15=some (.pointer none) ∧
  zac (.pointer none)=true ∧
  zbd Try.prog 15 "Error" = some 50 ∧
  zbd Try.prog 15 "RuntimeError" = some 51 := by (repeat' apply And.intro) <;> kernel_rfl
theorem Try.ty5 :
  zaj Try.prog 19=some 1 ∧
  zap Try.prog 19 0=some (0,17) ∧
  (za8 Try.prog 19=some fun i=>([(0,1)]:List (Nat × Nat))[i]?) ∧
  tyMk Try.prog 19=true ∧
  zaq Try.prog 19=some 8 ∧
  zax Try.prog 19=some (.agg #[.pointer none]) ∧
  zaV Try.prog 20=some false ∧
  zaj Try.prog 20=some 1 ∧
  zsu Try.prog 20=true ∧
  zaq Try.prog 20=some 16 ∧
  zax Try.prog 20=some (.nilIface) ∧
  zac (.nilIface)=true ∧
  zaV Try.prog 21=some false ∧
  zaj Try.prog 21=some 1 ∧
  tyMk Try.prog 21=true ∧
  zaq Try.prog 21=some 4 ∧
  zax Try.prog 21=some (.int .i32 0) ∧
  zac (.int .i32 0)=true ∧
  zaV Try.prog 22=some false ∧
  zaj Try.prog 22=some 1 ∧
  zp9 Try.prog 22=true ∧
  zaq Try.prog 22=some 24 ∧
  zbk Try.prog 22=some 5 ∧
  zax Try.prog 22=some (.slice none 0 0):=by (repeat' apply And.intro)<;>kernel_rfl
theorem Try.ty6 :
  zac (.slice none 0 0)=true ∧
  zaV Try.prog 24=some true ∧
  zaj Try.prog 24=some 20 ∧
  (za8 Try.prog 24=some fun i=>some (i * 1,1)) ∧
  zaq Try.prog 24=some 160 ∧
  zdX Try.prog 24=some (20,3) ∧
  zax Try.prog 24=some (.agg #[.int .i64 0,.int .i64 0,.int .i64 0,.int .i64 0,.int .i64 0,.int .i64 0,.int .i64 0,.int .i64 0,.int .i64 0,.int .i64 0,.int .i64 0,.int .i64 0,.int .i64 0,.int .i64 0,.int .i64 0,.int .i64 0,.int .i64 0,.int .i64 0,.int .i64 0,.int .i64 0]) ∧
  zac (.agg #[.int .i64 0,.int .i64 0,.int .i64 0,.int .i64 0,.int .i64 0,.int .i64 0,.int .i64 0,.int .i64 0,.int .i64 0,.int .i64 0,.int .i64 0,.int .i64 0,.int .i64 0,.int .i64 0,.int .i64 0,.int .i64 0,.int .i64 0,.int .i64 0,.int .i64 0,.int .i64 0])=true ∧
  zaV Try.prog 25=some true ∧
  zaj Try.prog 25=some 22 ∧
  zap Try.prog 25 0=some (0,3) ∧
  zap Try.prog 25 1=some (1,3) ∧
  zap Try.prog 25 2=some (2,24) ∧
  (za8 Try.prog 25=some fun i=>([(0,1),(1,1),(2,20)]:List (Nat × Nat))[i]?) ∧
  tyMk Try.prog 25=true ∧
  zaq Try.prog 25=some 176 ∧
  zax Try.prog 25=some (.agg #[.int .i64 0,.int .i64 0,.int .i64 0,.int .i64 0,.int .i64 0,.int .i64 0,.int .i64 0,.int .i64 0,.int .i64 0,.int .i64 0,.int .i64 0,.int .i64 0,.int .i64 0,.int .i64 0,.int .i64 0,.int .i64 0,.int .i64 0,.int .i64 0,.int .i64 0,.int .i64 0,.int .i64 0,.int .i64 0]) ∧
  zac (.agg #[.int .i64 0,.int .i64 0,.int .i64 0,.int .i64 0,.int .i64 0,.int .i64 0,.int .i64 0,.int .i64 0,.int .i64 0,.int .i64 0,.int .i64 0,.int .i64 0,.int .i64 0,.int .i64 0,.int .i64 0,.int .i64 0,.int .i64 0,.int .i64 0,.int .i64 0,.int .i64 0,.int .i64 0,.int .i64 0])=true ∧
  zaV Try.prog 26=some true ∧
  zaj Try.prog 26=some 22 ∧
  zap Try.prog 26 0=some (0,3) ∧
  zap Try.prog 26 1=some (1,3) ∧
  zap Try.prog 26 2=some (2,24) ∧
  (za8 Try.prog 26=some fun i=>([(0,1),(1,1),(2,20)]:List (Nat × Nat))[i]?):=by (repeat' apply And.intro)<;>kernel_rfl
theorem Try.ty7 :
  tyMk Try.prog 26=true ∧
  zaq Try.prog 26=some 176 ∧
  zax Try.prog 26=some (.agg #[.int .i64 0,.int .i64 0,.int .i64 0,.int .i64 0,.int .i64 0,.int .i64 0,.int .i64 0,.int .i64 0,.int .i64 0,.int .i64 0,.int .i64 0,.int .i64 0,.int .i64 0,.int .i64 0,.int .i64 0,.int .i64 0,.int .i64 0,.int .i64 0,.int .i64 0,.int .i64 0,.int .i64 0,.int .i64 0]) ∧
  zaV Try.prog 27=some false ∧
  zaj Try.prog 27=some 1 ∧
  tyMk Try.prog 27=true ∧
  zgb Try.prog 27=true ∧
  zaq Try.prog 27=some 8 ∧
  zax Try.prog 27=some (.pointer none) ∧
  zbd Try.prog 27 "Bytes" = some 36 ∧
  zbd Try.prog 27 "Do" = some 27 ∧
  zbd Try.prog 27 "Word" = some 12 ∧
  zbd Try.prog 27 "Words" = some 34 ∧
  zaV Try.prog 30=some false ∧
  zaj Try.prog 30=some 1 ∧
  zp9 Try.prog 30=true ∧
  zaq Try.prog 30=some 24 ∧
  zbk Try.prog 30=some 39 ∧
  zax Try.prog 30=some (.slice none 0 0) ∧
  zaV Try.prog 31=some false ∧
  zaj Try.prog 31=some 1 ∧
  zsu Try.prog 31=true ∧
  zaq Try.prog 31=some 16 ∧
  zax Try.prog 31=some (.nilIface):=by (repeat' apply And.intro)<;>kernel_rfl
theorem Try.ty8 :
  zaV Try.prog 32=some false ∧
  zaj Try.prog 32=some 1 ∧
  zsu Try.prog 32=true ∧
  zaq Try.prog 32=some 16 ∧
  zax Try.prog 32=some (.nilIface) ∧
  zaV Try.prog 34=some false ∧
  zaj Try.prog 34=some 1 ∧
  tyMk Try.prog 34=true ∧
  zaq Try.prog 34=some 8 ∧
  zax Try.prog 34=some (.int .u64 0) ∧
  zaV Try.prog 42=some false ∧
  zaj Try.prog 42=some 1 ∧
  tyMk Try.prog 42=true ∧
  zgb Try.prog 42=true ∧
  zaq Try.prog 42=some 8 ∧
  zax Try.prog 42=some (.pointer none) ∧
  zbd Try.prog 42 "Add" = some 57 ∧
  zbd Try.prog 42 "CAS" = some 58 ∧
  zbd Try.prog 42 "Fresh" = some 59 ∧
  zbd Try.prog 42 "Get" = some 60 ∧
  zbd Try.prog 42 "Load" = some 61 ∧
  zbd Try.prog 42 "Put" = some 62 ∧
  zbd Try.prog 42 "Self" = some 63 ∧
  zbd Try.prog 42 "Steps" = some 64 := by (repeat' apply And.intro) <;> kernel_rfl
theorem Try.ty9 :
  zbd Try.prog 42 "Store" = some 65 ∧
  zbd Try.prog 42 "Tell" = some 66 ∧
  zaV Try.prog 47=some false ∧
  zaj Try.prog 47=some 1 ∧
  tyMk Try.prog 47=true ∧
  zaq Try.prog 47=some 8 ∧
  zax Try.prog 47=some (.int .i64 0) ∧
  zaV Try.prog 53=some false ∧
  zaj Try.prog 53=some 1 ∧
  zp9 Try.prog 53=true ∧
  zaq Try.prog 53=some 24 ∧
  zbk Try.prog 53=some 54 ∧
  zax Try.prog 53=some (.slice none 0 0) ∧
  zaV Try.prog 54=some false ∧
  zaj Try.prog 54=some 1 ∧
  tyMk Try.prog 54=true ∧
  zgb Try.prog 54=true ∧
  zaq Try.prog 54=some 8 ∧
  zax Try.prog 54=some (.pointer none) ∧
  zbd Try.prog 54 "Busy" = some 25 ∧
  zbd Try.prog 54 "Close" = some 26 ∧
  zbd Try.prog 54 "Grant" = some 33 ∧
  zbd Try.prog 54 "Pending" = some 32 ∧
  zbd Try.prog 54 "Start" = some 23 := by (repeat' apply And.intro) <;> kernel_rfl
theorem Try.ty10 :
  zbd Try.prog 54 "Steps" = some 69 ∧
  zaV Try.prog 60=some true ∧
  zaj Try.prog 60=some 4 ∧
  zap Try.prog 60 0=some (0,5) ∧
  zap Try.prog 60 1=some (1,3) ∧
  zap Try.prog 60 2=some (2,34) ∧
  zap Try.prog 60 3=some (3,34) ∧
  (za8 Try.prog 60=some fun i=>([(0,1),(1,1),(2,1),(3,1)]:List (Nat × Nat))[i]?) ∧
  tyMk Try.prog 60=true ∧
  zaq Try.prog 60=some 32 ∧
  zax Try.prog 60=some (.agg #[.int .u8 0,.int .i64 0,.int .u64 0,.int .u64 0]) ∧
  zac (.agg #[.int .u8 0,.int .i64 0,.int .u64 0,.int .u64 0])=true ∧
  zaV Try.prog 61=some true ∧
  zaj Try.prog 61=some 4 ∧
  zap Try.prog 61 0=some (0,5) ∧
  zap Try.prog 61 1=some (1,3) ∧
  zap Try.prog 61 2=some (2,34) ∧
  zap Try.prog 61 3=some (3,34) ∧
  (za8 Try.prog 61=some fun i=>([(0,1),(1,1),(2,1),(3,1)]:List (Nat × Nat))[i]?) ∧
  tyMk Try.prog 61=true ∧
  zaq Try.prog 61=some 32 ∧
  zax Try.prog 61=some (.agg #[.int .u8 0,.int .i64 0,.int .u64 0,.int .u64 0]) ∧
  zaV Try.prog 62=some false ∧
  zaj Try.prog 62=some 1:=by (repeat' apply And.intro)<;>kernel_rfl
theorem Try.ty11 :
  tyMk Try.prog 62=true ∧
  zgb Try.prog 62=true ∧
  zaq Try.prog 62=some 8 ∧
  zax Try.prog 62=some (.pointer none) ∧
  zaV Try.prog 63=some true ∧
  zaj Try.prog 63=some 2 ∧
  zap Try.prog 63 0=some (0,27) ∧
  zap Try.prog 63 1=some (1,3) ∧
  (za8 Try.prog 63=some fun i=>([(0,1),(1,1)]:List (Nat × Nat))[i]?) ∧
  tyMk Try.prog 63=true ∧
  zaq Try.prog 63=some 16 ∧
  zax Try.prog 63=some (.agg #[.pointer none,.int .i64 0]) ∧
  zac (.agg #[.pointer none,.int .i64 0])=true ∧
  zaV Try.prog 64=some true ∧
  zaj Try.prog 64=some 2 ∧
  zap Try.prog 64 0=some (0,27) ∧
  zap Try.prog 64 1=some (1,3) ∧
  (za8 Try.prog 64=some fun i=>([(0,1),(1,1)]:List (Nat × Nat))[i]?) ∧
  tyMk Try.prog 64=true ∧
  zaq Try.prog 64=some 16 ∧
  zax Try.prog 64=some (.agg #[.pointer none,.int .i64 0]) ∧
  zaV Try.prog 65=some false ∧
  zaj Try.prog 65=some 1 ∧
  tyMk Try.prog 65=true:=by (repeat' apply And.intro)<;>kernel_rfl
theorem Try.ty12 :
  zgb Try.prog 65=true ∧
  zaq Try.prog 65=some 8 ∧
  zax Try.prog 65=some (.pointer none) ∧
  zaV Try.prog 66=some true ∧
  zaj Try.prog 66=some 3 ∧
  zap Try.prog 66 0=some (0,62) ∧
  zap Try.prog 66 1=some (1,3) ∧
  zap Try.prog 66 2=some (2,65) ∧
  (za8 Try.prog 66=some fun i=>([(0,1),(1,1),(2,1)]:List (Nat × Nat))[i]?) ∧
  tyMk Try.prog 66=true ∧
  zaq Try.prog 66=some 24 ∧
  zax Try.prog 66=some (.agg #[.pointer none,.int .i64 0,.pointer none]) ∧
  zac (.agg #[.pointer none,.int .i64 0,.pointer none])=true ∧
  zaV Try.prog 67=some true ∧
  zaj Try.prog 67=some 3 ∧
  zap Try.prog 67 0=some (0,62) ∧
  zap Try.prog 67 1=some (1,3) ∧
  zap Try.prog 67 2=some (2,65) ∧
  (za8 Try.prog 67=some fun i=>([(0,1),(1,1),(2,1)]:List (Nat × Nat))[i]?) ∧
  tyMk Try.prog 67=true ∧
  zaq Try.prog 67=some 24 ∧
  zax Try.prog 67=some (.agg #[.pointer none,.int .i64 0,.pointer none]) ∧
  zaV Try.prog 68=some true ∧
  zaj Try.prog 68=some 19:=by (repeat' apply And.intro)<;>kernel_rfl
theorem Try.ty13 :
  (za8 Try.prog 68=some fun i=>some (i * 1,1)) ∧
  zaq Try.prog 68=some 152 ∧
  zdX Try.prog 68=some (19,3) ∧
  zax Try.prog 68=some (.agg #[.int .i64 0,.int .i64 0,.int .i64 0,.int .i64 0,.int .i64 0,.int .i64 0,.int .i64 0,.int .i64 0,.int .i64 0,.int .i64 0,.int .i64 0,.int .i64 0,.int .i64 0,.int .i64 0,.int .i64 0,.int .i64 0,.int .i64 0,.int .i64 0,.int .i64 0]) ∧
  zac (.agg #[.int .i64 0,.int .i64 0,.int .i64 0,.int .i64 0,.int .i64 0,.int .i64 0,.int .i64 0,.int .i64 0,.int .i64 0,.int .i64 0,.int .i64 0,.int .i64 0,.int .i64 0,.int .i64 0,.int .i64 0,.int .i64 0,.int .i64 0,.int .i64 0,.int .i64 0])=true ∧
  zaV Try.prog 69=some false ∧
  zaj Try.prog 69=some 1 ∧
  zp9 Try.prog 69=true ∧
  zaq Try.prog 69=some 24 ∧
  zbk Try.prog 69=some 34 ∧
  zax Try.prog 69=some (.slice none 0 0) ∧
  zaV Try.prog 70=some true ∧
  zaj Try.prog 70=some 2 ∧
  zap Try.prog 70 0=some (0,69) ∧
  zap Try.prog 70 1=some (1,22) ∧
  (za8 Try.prog 70=some fun i=>([(0,1),(1,1)]:List (Nat × Nat))[i]?) ∧
  tyMk Try.prog 70=true ∧
  zaq Try.prog 70=some 48 ∧
  zax Try.prog 70=some (.agg #[.slice none 0 0,.slice none 0 0]) ∧
  zac (.agg #[.slice none 0 0,.slice none 0 0])=true ∧
  zaV Try.prog 71=some true ∧
  zaj Try.prog 71=some 2 ∧
  zap Try.prog 71 0=some (0,69) ∧
  zap Try.prog 71 1=some (1,22):=by (repeat' apply And.intro)<;>kernel_rfl
theorem Try.ty14 :
  (za8 Try.prog 71=some fun i=>([(0,1),(1,1)]:List (Nat × Nat))[i]?) ∧
  tyMk Try.prog 71=true ∧
  zaq Try.prog 71=some 48 ∧
  zax Try.prog 71=some (.agg #[.slice none 0 0,.slice none 0 0]) ∧
  zaV Try.prog 72=some false ∧
  zaj Try.prog 72=some 1 ∧
  zaq Try.prog 72=some 8 ∧
  zaV Try.prog 73=some false ∧
  zaj Try.prog 73=some 1 ∧
  tyMk Try.prog 73=true ∧
  zgb Try.prog 73=true ∧
  zaq Try.prog 73=some 8 ∧
  zax Try.prog 73=some (.pointer none) ∧
  zbd Try.prog 73 "Add" = some 70 ∧
  zbd Try.prog 73 "CAS" = some 71 ∧
  zbd Try.prog 73 "Get" = some 72 ∧
  zbd Try.prog 73 "Load" = some 73 ∧
  zbd Try.prog 73 "Put" = some 74 ∧
  zbd Try.prog 73 "Self" = some 75 ∧
  zbd Try.prog 73 "Steps" = some 76 ∧
  zbd Try.prog 73 "Store" = some 77 ∧
  zbd Try.prog 73 "Tell" = some 78 ∧
  zaV Try.prog 74=some false ∧
  zaj Try.prog 74=some 1:=by (repeat' apply And.intro)<;>kernel_rfl
theorem Try.ty15 :
  zaq Try.prog 74=some 8 ∧
  zaV Try.prog 75=some false ∧
  zaj Try.prog 75=some 1 ∧
  tyMk Try.prog 75=true ∧
  zgb Try.prog 75=true ∧
  zaq Try.prog 75=some 8 ∧
  zax Try.prog 75=some (.pointer none) ∧
  zaV Try.prog 76=some true ∧
  zaj Try.prog 76=some 7 ∧
  zap Try.prog 76 0=some (0,3) ∧
  zap Try.prog 76 1=some (1,73) ∧
  zap Try.prog 76 2=some (2,74) ∧
  zap Try.prog 76 3=some (3,75) ∧
  zap Try.prog 76 4=some (4,4) ∧
  zap Try.prog 76 5=some (5,4) ∧
  zap Try.prog 76 6=some (6,72) ∧
  (za8 Try.prog 76=some fun i=>([(0,1),(1,1),(2,1),(3,1),(4,1),(5,1),(6,1)]:List (Nat × Nat))[i]?) ∧
  tyMk Try.prog 76=true ∧
  zaq Try.prog 76=some 48 ∧
  zaV Try.prog 77=some true ∧
  zaj Try.prog 77=some 7 ∧
  zap Try.prog 77 0=some (0,3) ∧
  zap Try.prog 77 1=some (1,73) ∧
  zap Try.prog 77 2=some (2,74):=by (repeat' apply And.intro)<;>kernel_rfl
theorem Try.ty16 :
  zap Try.prog 77 3=some (3,75) ∧
  zap Try.prog 77 4=some (4,4) ∧
  zap Try.prog 77 5=some (5,4) ∧
  zap Try.prog 77 6=some (6,72) ∧
  (za8 Try.prog 77=some fun i=>([(0,1),(1,1),(2,1),(3,1),(4,1),(5,1),(6,1)]:List (Nat × Nat))[i]?) ∧
  tyMk Try.prog 77=true ∧
  zaq Try.prog 77=some 48 ∧
  zaV Try.prog 78=some false ∧
  zaj Try.prog 78=some 1 ∧
  zaq Try.prog 78=some 8 ∧
  zaV Try.prog 79=some false ∧
  zaj Try.prog 79=some 1 ∧
  zaq Try.prog 79=some 8 ∧
  zaV Try.prog 80=some true ∧
  zaj Try.prog 80=some 6 ∧
  zap Try.prog 80 0=some (0,3) ∧
  zap Try.prog 80 1=some (1,3) ∧
  zap Try.prog 80 2=some (2,65) ∧
  zap Try.prog 80 3=some (3,78) ∧
  zap Try.prog 80 4=some (4,79) ∧
  zap Try.prog 80 5=some (5,72) ∧
  (za8 Try.prog 80=some fun i=>([(0,1),(1,1),(2,1),(3,1),(4,1),(5,1)]:List (Nat × Nat))[i]?) ∧
  tyMk Try.prog 80=true ∧
  zaq Try.prog 80=some 48:=by (repeat' apply And.intro)<;>kernel_rfl
theorem Try.ty17 :
  zaV Try.prog 81=some true ∧
  zaj Try.prog 81=some 6 ∧
  zap Try.prog 81 0=some (0,3) ∧
  zap Try.prog 81 1=some (1,3) ∧
  zap Try.prog 81 2=some (2,65) ∧
  zap Try.prog 81 3=some (3,78) ∧
  zap Try.prog 81 4=some (4,79) ∧
  zap Try.prog 81 5=some (5,72) ∧
  (za8 Try.prog 81=some fun i=>([(0,1),(1,1),(2,1),(3,1),(4,1),(5,1)]:List (Nat × Nat))[i]?) ∧
  tyMk Try.prog 81=true ∧
  zaq Try.prog 81=some 48 ∧
  zaV Try.prog 89=some true ∧
  zaj Try.prog 89=some 5 ∧
  (za8 Try.prog 89=some fun i=>some (i * 1,1)) ∧
  zaq Try.prog 89=some 40 ∧
  zdX Try.prog 89=some (5,88) ∧
  zax Try.prog 89=some (.agg #[.nilFunc,.nilFunc,.nilFunc,.nilFunc,.nilFunc]) ∧
  zac (.agg #[.nilFunc,.nilFunc,.nilFunc,.nilFunc,.nilFunc])=true ∧
  zaV Try.prog 91=some false ∧
  zaj Try.prog 91=some 1 ∧
  zaq Try.prog 91=some 8 ∧
  zaV Try.prog 92=some true ∧
  zaj Try.prog 92=some 0 ∧
  (za8 Try.prog 92=some fun i=>([]:List (Nat × Nat))[i]?):=by (repeat' apply And.intro)<;>kernel_rfl
theorem Try.ty25 :
  zaV Try.prog 121=some false ∧
  zaj Try.prog 121=some 1 ∧
  zaq Try.prog 121=some 8 ∧
  zax Try.prog 121=some (.pointer none) ∧
  zgf Try.prog 3 34=some .u64 ∧
  zgf Try.prog 5 3=some .i64 ∧
  zgf Try.prog 5 34=some .u64 ∧
  zgf Try.prog 34 3=some .i64 ∧
  zgf Try.prog 34 5=some .u8 ∧
  fnOK Try.prog 2=true ∧
  fnOK Try.prog 3=true ∧
  fnOK Try.prog 4=true ∧
  fnOK Try.prog 5=true ∧
  fnOK Try.prog 6=true ∧
  fnOK Try.prog 7=true ∧
  fnOK Try.prog 8=true ∧
  fnOK Try.prog 9=true ∧
  fnOK Try.prog 10=true ∧
  fnOK Try.prog 11=true ∧
  fnOK Try.prog 12=true ∧
  fnOK Try.prog 13=true ∧
  fnOK Try.prog 14=true ∧
  fnOK Try.prog 15=true ∧
  fnOK Try.prog 16=true:=by (repeat' apply And.intro)<;>kernel_rfl
theorem Try.ty26 :
  fnOK Try.prog 17=true ∧
  fnOK Try.prog 18=true ∧
  fnOK Try.prog 19=true ∧
  fnOK Try.prog 20=true ∧
  fnOK Try.prog 21=true ∧
  fnOK Try.prog 22=true ∧
  fnOK Try.prog 23=true ∧
  fnOK Try.prog 24=true ∧
  fnOK Try.prog 25=true ∧
  fnOK Try.prog 26=true ∧
  fnOK Try.prog 27=true ∧
  fnOK Try.prog 28=true ∧
  fnOK Try.prog 29=true ∧
  fnOK Try.prog 30=true ∧
  fnOK Try.prog 31=true ∧
  fnOK Try.prog 32=true ∧
  fnOK Try.prog 33=true ∧
  fnOK Try.prog 34=true ∧
  fnOK Try.prog 35=true ∧
  fnOK Try.prog 36=true ∧
  fnOK Try.prog 37=true ∧
  fnOK Try.prog 38=true ∧
  fnOK Try.prog 39=true ∧
  fnOK Try.prog 40=true:=by (repeat' apply And.intro)<;>kernel_rfl
theorem Try.ty27 :
  fnOK Try.prog 41=true ∧
  fnOK Try.prog 57=true ∧
  fnOK Try.prog 58=true ∧
  fnOK Try.prog 61=true ∧
  fnOK Try.prog 63=true ∧
  fnOK Try.prog 67=true ∧
  fnOK Try.prog 68=true ∧
  fnOK Try.prog 70=true ∧
  fnOK Try.prog 71=true ∧
  fnOK Try.prog 73=true ∧
  fnOK Try.prog 75=true ∧
  fnOK Try.prog 79=true:=by (repeat' apply And.intro)<;>kernel_rfl
attribute [go_sem] Try.eql7 Try.neq7 Try.eql8 Try.neq8 Try.eql60 Try.neq60 Try.eql61 Try.neq61 Try.eql116 Try.neq116 Try.eql117 Try.neq117 Try.ty0 Try.ty2 Try.ty3 Try.ty5 Try.ty6 Try.ty7 Try.ty8 Try.ty9 Try.ty10 Try.ty11 Try.ty12 Try.ty13 Try.ty14 Try.ty15 Try.ty16 Try.ty17 Try.ty25 Try.ty26 Try.ty27
def upN (ns:List Nat) (nx:Nat) (n:Nat):Nat:=if n<ns.length then ns.getD n 0 else if n<VB then nx+(n - ns.length) else n
def upE (ns:List Nat) (nx:Nat):Emb:=zde (upN ns nx)
def renB (E:Emb) (b:Blk):Blk:={ b with cells:=b.cells.map (ren E) }
structure Gives (cnt:Nat) (l l' new:List Blk) (ex:List Nat) (R:Nat→Nat) (h1:AHeap) (v0 v:Value):Prop where
  low:∀ n,n<l.length→R n=n
  hand:∀ n,VB≤n→R n=n
  more:∀ (j n:Nat),ex[j]?=some n→l.length≤n∧n<VB∧R n=l.length+j
  nodup:ex.Nodup
  len:ex.length=new.length
  len':l'.length=l.length
  told:v=ren (zde R) v0
  clo:Clo (fun n=>n<l.length∨n∈ex∨(VB≤n∧n<VB+cnt)) v0
  rows:∀ (i:Nat) (b:Blk),l[i]?=some b→b.ro=false→∃ b1,h1.get i=some b1∧l'[i]?=some (renB (zde R) b1)∧b1.ro=false∧∀ u∈b1.cells,Clo (fun n=>n<l.length∨n∈ex∨(VB≤n∧n<VB+cnt)) u
  news:∀ (j n:Nat),ex[j]?=some n→∃ b1,h1.get n=some b1∧new[j]?=some (renB (zde R) b1)∧b1.ro=false∧∀ u∈b1.cells,Clo (fun n=>n<l.length∨n∈ex∨(VB≤n∧n<VB+cnt)) u
section
variable {P:Program} {σ:Type} {X:Face P σ}
def DoesX (X:Face P σ) (f:FuncId) (args:Array Value) (l:List Blk) (S:σ) (v:Value) (l' new:List Blk) (S':σ):Prop :=
  ∃ g c h1 v0 ex R,P.funcs[f]?=some g∧goB g=true∧g.body=some c∧(∀ u∈args.toList,Clo (Kn l.length (X.cnt S)) u)∧(∀ b∈l,∀ u∈b.cells,Clo (Kn l.length (X.cnt S)) u)∧Gives (X.cnt S') l l' new ex R h1 v0 v ∧
    Goes X g (fun x=>x=.done v0 h1 S') (.run (zah g c args).1 (zah g c args).2 (zar (l.map some)) S)
def LendL (h:AHeap) (E:Emb):List Nat→List Blk→Prop
  | [],[]=>True
  | n::ns,b::l=>(∃ b0,h.get n=some b0∧b0.elem=b.elem∧b0.cells=b.cells.map (ren E)∧(b.grow=b0.grow∨b.grow=none)∧(b.ro=false→b0.ro=false))∧LendL h E ns l
  | _,_=>False
theorem LendL.spec {h:AHeap} {E:Emb}:∀ {ns:List Nat} {l:List Blk},LendL h E ns l→ns.length=l.length∧∀ (i:Nat) (b:Blk),l[i]?=some b→∃ n b0,ns[i]?=some n∧h.get n=some b0∧b0.elem=b.elem∧b0.cells=b.cells.map (ren E)∧(b.grow=b0.grow∨b.grow=none)∧(b.ro=false→b0.ro=false)
  | [],[],_=>⟨rfl,fun i b hb=>by simp at hb⟩
  | n::ns,c::l,⟨⟨b0,h0⟩,hr⟩=>by
    obtain⟨h1,h2⟩:=LendL.spec hr
    refine⟨by simp [h1],fun i b hb=>?_⟩
    cases i with
    | zero=>simp at hb;subst hb;exact⟨n,b0,by simp,h0⟩
    | succ i=>simp at hb;simpa using h2 i b hb
  | [],_::_,h=>h.elim
  | _::_,[],h=>h.elim
def zd4:List Nat→List Blk→List Blk→Nat→Option Blk
  | n::ns,b::l,b'::l',m=>if n=m∧b.ro=false then some b' else zd4 ns l l' m
  | _,_,_,_=>none
theorem zdP:∀ {ns:List Nat} {l l':List Blk} {m:Nat} {b':Blk},zd4 ns l l' m=some b'→∃ (i:Nat) (b:Blk),ns[i]?=some m∧l[i]?=some b∧b.ro=false∧l'[i]?=some b'
  | [],_,_,_,_,h=>by simp [zd4] at h
  | _::_,[],_,_,_,h=>by simp [zd4] at h
  | _::_,_::_,[],_,_,h=>by simp [zd4] at h
  | n::ns,b::l,c::l',m,b',h=>by
    simp only [zd4] at h
    split at h
    · rename_i hc;cases h;exact⟨0,b,by simp [hc.1],by simp,hc.2,by simp⟩
    · obtain⟨i,b1,h1,h2,h3,h4⟩:=zdP h
      exact⟨i+1,b1,by simpa using h1,by simpa using h2,h3,by simpa using h4⟩
theorem zh9:∀ {ns:List Nat} {l l':List Blk} {m:Nat},zd4 ns l l' m=none→ns.length=l.length→l'.length=l.length→∀ (i:Nat) (b:Blk),l[i]?=some b→b.ro=false→ns[i]?≠some m
  | [],[],_,_,_,_,_,i,b,hb,_=>by simp at hb
  | [],_::_,_,_,_,hl,_,_,_,_,_=>by simp at hl
  | _::_,[],_,_,_,hl,_,_,_,_,_=>by simp at hl
  | _::_,_::_,[],_,_,_,hl,_,_,_,_=>by simp at hl
  | n::ns,c::l,c'::l',m,h,hl,hl',i,b,hb,hr=>by
    simp only [zd4] at h
    split at h
    · cases h
    · rename_i hc
      cases i with
      | zero =>
        simp at hb;subst hb
        simp only [List.getElem?_cons_zero,ne_eq,Option.some.injEq]
        exact fun h=>hc ⟨h,hr⟩
      | succ i =>
        simp at hb hl hl'
        simpa using zh9 h hl hl' i b hb hr
def zjl (h:AHeap) (E:Emb) (ns:List Nat) (l l' new:List Blk):AHeap :=
  ⟨fun m=>match zd4 ns l l' m with
    | some b=>some (renB E b)
    | none=>if h.next≤m then (new[m - h.next]?).map (renB E) else h.get m,h.next+new.length⟩
theorem zhJ {ns:List Nat} {nx i n:Nat} (h:ns[i]?=some n):(upE ns nx).blk i=n:=by
  have:=(List.getElem?_eq_some_iff.1 h).1
  simp only [upE,zde,upN,this,if_true]
  simp [List.getD,h]
theorem zke (F E:Emb) (b:Blk):renB F (renB E b)={ b with cells:=b.cells.map (ren (F.comp E)) }:=by
  unfold renB
  simp only [List.map_map]
  congr 1
  exact List.map_congr_left fun v _=>zcr F E v
theorem zp0 {l:List Nat} (h:l.Nodup) {i j:Nat} (hi:i<l.length) (hj:j<l.length) (hne:i≠j):l[i]≠l[j]:=by
  rcases Nat.lt_or_gt_of_ne hne with h1|h1
  · exact List.pairwise_iff_getElem.1 h i j hi hj h1
  · exact Ne.symm (List.pairwise_iff_getElem.1 h j i hj hi h1)
theorem zjp {o:Oper} {e:Operand→Value} {h:AHeap} {S S':σ} {f:FuncId} {g:Func} {c:Code} {args:Array Value} {l l' new:List Blk} {ex:List Nat} {R:Nat→Nat} {v v0:Value} {h1:AHeap} {ns:List Nat} (hca:zaN P e o.op=some (f,args.map (ren (upE ns h.next)))) (hf:P.funcs[f]?=some g) (hg:goB g=true) (hb:g.body=some c)
    (hclo:∀ u∈args.toList,Clo (Kn l.length (X.cnt S)) u) (hcl:∀ b∈l,∀ u∈b.cells,Clo (Kn l.length (X.cnt S)) u) (G:Gives (X.cnt S') l l' new ex R h1 v0 v) (hlow:h.Low) (hL:LendL h (upE ns h.next) ns l) (hnd:ns.Nodup) (hlim:l.length+new.length≤VB) :
    CallOK X o e h S (ren (upE ns h.next) v) (zjl h (upE ns h.next) ns l l' new) S' f g c args (upE ns h.next) ((upE ns h.next).comp (zde R)) (zar (l.map some)) h1 ex v0:=by
  obtain⟨hlen,hlend⟩:=hL.spec
  have hget:∀ n b,(zar (l.map some)).get n=some b↔l[n]?=some b:=fun n b=>by
    rw [zaM,List.getElem?_map]
    cases l[n]?<;>simp
  have zhQ:∀ n,VB≤n→(upE ns h.next).blk n=n:=fun n hn=>by
    have h1:¬ n<ns.length:=by omega
    have h2:¬ n<VB:=by omega
    simp only [upE,zde,upN,h1,h2,if_false]
  have hK:∀ n,(n<l.length∨n∈ex∨(VB≤n∧n<VB+X.cnt S'))→((∃ b,(zar (l.map some)).get n=some b)∨n∈ex∨(VB≤n∧n<VB+X.cnt S')):=fun n hn=>by
    rcases hn with hn|hn
    · exact .inl ⟨l[n],(hget _ _).2 (List.getElem?_eq_getElem hn)⟩
    · exact .inr hn
  have hex:∀ (j n:Nat),ex[j]?=some n→j<new.length:=fun j n hj=>by
    rw [←G.len];exact (List.getElem?_eq_some_iff.1 hj).1
  refine⟨hca,hf,hg,hb,⟨?_,?_,?_,?_,?_,?_⟩,?_,⟨by rw [G.len];rfl,?_,?_,?_,?_,?_,?_,?_,?_,?_,G.nodup⟩⟩
  · intro n b hb v hv
    rw [hget] at hb
    rw [zaa,List.length_map]
    exact hcl b (List.mem_of_getElem? hb) v hv
  · intro n b hb
    rw [hget] at hb
    rw [zaa,List.length_map]
    exact (List.getElem?_eq_some_iff.1 hb).1
  · intro n b hb
    rw [hget] at hb
    obtain⟨m,b0,k1,k2,k3,k4,k5,k6⟩:=hlend n b hb
    exact⟨b0,by rw [zhJ k1];exact k2,k3,.inl ⟨k4,rfl,rfl,k5,k6⟩⟩
  · intro n m b c hb hc hne _
    rw [hget] at hb hc
    obtain⟨x,_,k1,_⟩:=hlend n b hb
    obtain⟨y,_,k2,_⟩:=hlend m c hc
    rw [zhJ k1,zhJ k2]
    rintro rfl
    obtain⟨h1,h1'⟩:=List.getElem?_eq_some_iff.1 k1
    obtain⟨h2,h2'⟩:=List.getElem?_eq_some_iff.1 k2
    exact zp0 hnd h1 h2 hne (h1'.trans h2'.symm)
  · rw [zaa,List.length_map];omega
  · exact fun n hn=>⟨zhQ n hn,rfl,rfl⟩
  · rw [zaa,List.length_map];exact hclo
  · intro n hn
    rw [zaa,List.length_map] at hn
    simp only [Emb.comp,zde,G.low n hn,upE,Nat.add_zero,and_self]
  · intro j n hj
    obtain⟨k1,k2,k3⟩:=G.more j n hj
    have:=hex j n hj
    refine⟨by rw [zaa,List.length_map];exact k1,k2,?_,rfl,rfl⟩
    simp only [Emb.comp,zde,k3,upE,upN,hlen]
    have h1:¬ l.length+j<l.length:=by omega
    have h2:l.length+j<VB:=by omega
    simp only [h1,h2,if_false,if_true]
    omega
  · intro n hn
    refine⟨?_,rfl,rfl⟩
    simp only [Emb.comp]
    rw [show (zde R).blk n=n from G.hand n hn]
    exact zhQ n hn
  · rw [G.told,zcr]
  · exact fun F F' hs=>G.clo F F' (hs.mono hK)
  · rintro n b hb hn u hu
    rcases hn with ⟨b0,hb0,hr⟩|hn
    · rw [hget] at hb0
      obtain⟨b1,k1,_,_,k4⟩:=G.rows n b0 hb0 hr
      rw [hb] at k1;cases k1
      exact fun F F' hs=>k4 u hu F F' (hs.mono hK)
    · obtain⟨j,hj⟩:=List.getElem?_of_mem hn
      obtain⟨b1,k1,_,_,k4⟩:=G.news j n hj
      rw [hb] at k1;cases k1
      exact fun F F' hs=>k4 u hu F F' (hs.mono hK)
  · intro j n hj
    obtain⟨b1,k1,k2,_⟩:=G.news j n hj
    rw [k1]
    unfold zjl
    simp only
    have hbk:zd4 ns l l' (h.next+j)=none:=by
      cases hb':zd4 ns l l' (h.next+j) with
      | none=>rfl
      | some b' =>
        obtain⟨i,b,g1,g2,_⟩:=zdP hb'
        obtain⟨m,b0,p1,p2,_⟩:=hlend i b g2
        rw [g1] at p1;cases p1
        have:=hlow _ _ p2
        omega
    rw [hbk]
    simp only
    rw [if_pos (by omega),Nat.add_sub_cancel_left,k2,Option.map_some,zke]
    rfl
  · intro m hm
    unfold zjl
    simp only
    cases hb':zd4 ns l l' m with
    | some b' =>
      obtain⟨i,b,g1,g2,g3,g4⟩:=zdP hb'
      obtain⟨b1,k1,k2,k3,k4⟩:=G.rows i b g2 g3
      refine .inr ⟨i,b,(hget _ _).2 g2,g3,zhJ g1,?_⟩
      rw [g4] at k2;cases k2
      rw [k1,Option.map_some]
      simp only [zke]
    | none =>
      refine .inl ⟨?_,fun n b hb hr=>?_⟩
      · simp only
        split
        · rename_i hle
          rcases hm with hm|hm
          · omega
          · have hm:h.next+new.length≤m:=hm
            rw [List.getElem?_eq_none (by omega)]
            cases hg':h.get m with
            | none=>rfl
            | some b=>have:=hlow _ _ hg';omega
        · rfl
      · rw [hget] at hb
        obtain⟨x,_,p1,_⟩:=hlend n b hb
        have:=zh9 hb' hlen G.len' n b hb hr
        rw [zhJ p1]
        rintro rfl
        exact this p1
  · rintro n b hb (⟨b0,hb0,hr⟩|hn)
    · rw [hget] at hb0
      obtain⟨b1,k1,_,k3,_⟩:=G.rows n b0 hb0 hr
      rw [hb] at k1;cases k1;exact k3
    · obtain⟨j,hj⟩:=List.getElem?_of_mem hn
      obtain⟨b1,k1,_,k3,_⟩:=G.news j n hj
      rw [hb] at k1;cases k1;exact k3
def ziH (E:Emb) (rows:List (Option Blk)):List Nat→List Blk→List Blk→List (Option Blk)
  | n::ns,b::l,b'::l'=>if b.ro=false then (ziH E rows ns l l').set n (some (renB E b')) else ziH E rows ns l l'
  | _,_,_=>rows
theorem zcX {E:Emb} {rows:List (Option Blk)}:∀ {ns:List Nat} {l l':List Blk},(ziH E rows ns l l').length=rows.length
  | [],_,_=>rfl
  | _::_,[],_=>rfl
  | _::_,_::_,[]=>rfl
  | n::ns,b::l,b'::l'=>by
    simp only [ziH]
    split
    · rw [List.length_set,zcX]
    · rw [zcX]
theorem zjL {E:Emb} {rows:List (Option Blk)}:∀ {ns:List Nat} {l l':List Blk} {m:Nat},(∀ n∈ns,n<rows.length)→((ziH E rows ns l l')[m]?).join=match zd4 ns l l' m with|some b=>some (renB E b)|none=>(rows[m]?).join
  | [],_,_,_,_=>rfl
  | _::_,[],_,_,_=>rfl
  | _::_,_::_,[],_,_=>rfl
  | n::ns,b::l,b'::l',m,hlt=>by
    have ih:=@zjL E rows ns l l' m (fun x hx=>hlt x (by simp [hx]))
    simp only [ziH,zd4]
    have hn:n<rows.length:=hlt n (by simp)
    by_cases hr:b.ro=false
    · rw [if_pos hr,List.getElem?_set]
      by_cases hm:n=m
      · subst hm
        simp [hr,zcX,hn]
      · simp only [hm,false_and,if_false]
        exact ih
    · have hc:¬ (n=m∧b.ro=false):=fun h=>hr h.2
      rw [if_neg hr,if_neg hc]
      exact ih
theorem zsX {E:Emb} {rows:List (Option Blk)} {ns:List Nat} {l l' new:List Blk} (hlt:∀ n∈ns,n<rows.length):zjl (zar rows) E ns l l' new=zar (ziH E rows ns l l'++new.map fun b=>some (renB E b)):=by
  unfold zjl zar
  simp only [List.length_append,List.length_map,zcX]
  congr 1
  funext m
  by_cases hm:rows.length≤m
  · have hbk:zd4 ns l l' m=none:=by
      cases hb':zd4 ns l l' m with
      | none=>rfl
      | some b' =>
        obtain⟨i,b,g1,_⟩:=zdP hb'
        have:=hlt m (List.mem_of_getElem? g1)
        omega
    rw [hbk,List.getElem?_append_right (by rw [zcX];exact hm),zcX,List.getElem?_map]
    simp only [hm,if_true]
    cases new[m - rows.length]?<;>simp
  · rw [List.getElem?_append_left (by rw [zcX];omega),zjL hlt]
    cases zd4 ns l l' m with
    | some b=>rfl
    | none=>simp [hm]
variable {fn:Func} {A:Conf σ→Prop} {ops:Array Oper} {k:List Item} {i:Nat} {tmps:List Value} {h:AHeap} {S:σ} {o:Oper} {todo:List Item} {W:List Nat} {n0:Nat} {hf:AHeap} {Kf:List Value→AHeap→σ→Prop} {born:List (Nat × Nat)}
theorem znK {h h':AHeap} (hg:∀ m,h.get m=h'.get m) (hn:h.next=h'.next):h=h':=by
  cases h;cases h'
  simp only [AHeap.mk.injEq]
  exact⟨funext hg,hn⟩
theorem zo3 {h hv:AHeap} {m:Nat}:(zdT h hv).get m=if h.next≤m then (if m<hv.next then hv.get m else none) else h.get m:=rfl
def zsJ (X:Face P σ) (S:σ) (ns:List Nat) (nx:Nat) (h:AHeap) (K:Value→List Blk→List Blk→List Blk→σ→Prop) (f:FuncId) (args:Array Value):Prop :=
  ∃ zs l v l' new S',DoesX X f zs l S v l' new S'∧args=zs.map (ren (upE ns nx))∧LendL h (upE ns nx) ns l∧K v l l' new S'
theorem At.callX {rows:List (Option Blk)} (ns:List Nat) (ho:ops.toList[i]?=some o) (hw:Region.wanted o (zai ops tmps)=true) (hb:opOK o.op=true) (hnd:ns.Nodup) (hlt:(ns.all fun n=>decide (n<rows.length))=true)
    (hk:∀ K:List Value→List (Option Blk)→σ→Prop,(∀ t rs S',At X fn A ops k (i+1) t (zar rs) S'→K t rs S') →
      zdD (zsJ X S ns rows.length (zar rows) fun v l l' new S'=>decide (rows.length+l.length+new.length<1000000)=true∧K (putL o.dst (ren (upE ns rows.length) v) tmps) (ziH (upE ns rows.length) rows ns l l'++new.map fun b=>some (renB (upE ns rows.length) b)) S') (zaN P (evA tmps) o.op)):At X fn A ops k i tmps (zar rows) S:=by
  have hk:=hk _ fun _ _ _ h=>h
  have hlt:∀ n∈ns,n<rows.length:=fun n hn=>of_decide_eq_true (List.all_eq_true.1 hlt n hn)
  unfold At
  rw [zeQ (za2 ho)]
  cases hv:zaN P (evA tmps) o.op with
  | none=>rw [hv] at hk;exact hk.elim
  | some x =>
    obtain⟨f,args⟩:=x
    rw [hv] at hk
    obtain⟨zs,l,v,l',new,S',⟨g,c,h1,v0,ex,R,d1,d2,d3,d4,d5,d6,d7⟩,rfl,hL,hlim,hK⟩:=hk
    have hlim:=of_decide_eq_true hlim
    have hC:=zjp (ns:=ns) (h:=zar rows) (o:=o) (e:=evA tmps) (f:=f) (args:=zs) (by rw [zaa];exact hv) d1 d2 d3 d4 d5 d6 (zbv _) (by rw [zaa];exact hL) hnd (by unfold VB;omega)
    rw [zaa,zsX hlt] at hC
    exact .call f g c zs _ _ _ h1 ex v0 (za2 ho) hw (zaZ hb) hC (.inr (by rw [zaa,List.length_append,zcX,List.length_map];unfold VB;omega)) d7 hK
theorem RG.callX {rows:List (Option Blk)} (ns:List Nat) (ho:ops.toList[i]?=some o) (hw:Region.wanted o (zai ops tmps)=true) (hb:opOK o.op=true) (hq:wrB W i o=false) (hnd:ns.Nodup)
    (hk:∀ K:List Value→List (Option Blk)→σ→List (Nat × Nat)→Prop,(∀ t rs S' born',RGF X W ops n0 hf Kf (i+1) t (zar rs) S' born'→K t rs S' born') →
      zdD (zsJ X S ns rows.length (visH n0 born ((zas ops.toList []).getD i 0) (zar rows)) fun v l _ new S'=>(l.all (·.ro)=true∧decide (rows.length+l.length+new.length<1000000)=true)∧K (putL o.dst (ren (upE ns rows.length) v) tmps) (rows++new.map fun b=>some (renB (upE ns rows.length) b)) S' (zef i rows.length (rows.length+new.length)++born)) (zaN P (evA tmps) o.op)) (hnf:farB W i=false:=by rfl):RGF X W ops n0 hf Kf i tmps (zar rows) S born:=by
  have hk:=hk _ fun _ _ _ _ h=>h
  cases hv:zaN P (evA tmps) o.op with
  | none=>rw [hv] at hk;exact hk.elim
  | some x =>
    obtain⟨f,args⟩:=x
    rw [hv] at hk
    obtain⟨zs,l,v,l',new,S',⟨g,c,h1,v0,ex,R,d1,d2,d3,d4,d5,d6,d7⟩,rfl,hL,⟨hro,hlim⟩,hK⟩:=hk
    have hlim:=of_decide_eq_true hlim
    have hlowv:(visH n0 born ((zas ops.toList []).getD i 0) (zar rows)).Low:=by
      intro n b hb
      unfold visH at hb ⊢
      simp only at hb ⊢
      split at hb
      · cases hg:(zar rows).get n with
        | none=>rw [hg] at hb;cases hb
        | some b0=>exact zbv _ _ _ hg
      · cases hb
    have hnx:(visH n0 born ((zas ops.toList []).getD i 0) (zar rows)).next=rows.length:=rfl
    have hC:=zjp (ns:=ns) (h:=visH n0 born ((zas ops.toList []).getD i 0) (zar rows)) (o:=o) (e:=evA tmps) (f:=f) (args:=zs) (by rw [hnx];exact hv) d1 d2 d3 d4 d5 d6 hlowv (by rw [hnx];exact hL) hnd (by unfold VB;omega)
    rw [hnx] at hC
    have hbl:∀ m,zd4 ns l l' m=none:=fun m=>by
      cases hb':zd4 ns l l' m with
      | none=>rfl
      | some b' =>
        obtain⟨j,b,_,g2,g3,_⟩:=zdP hb'
        have:=List.all_eq_true.1 hro b (List.mem_of_getElem? g2)
        rw [g3] at this;cases this
    refine .call' (h':=zar (rows++new.map fun b=>some (renB (upE ns rows.length) b))) false f g c zs _ _ _ h1 ex v0 hnf (za2 ho) hw (zaZ hb) (.inr (by rw [zaa,List.length_append,List.length_map];unfold VB;omega)) ⟨hq,_,hC,?_⟩ d7 ?_ ?_
    · refine znK (fun m=>?_) ?_
      · rw [zo3,zaa,zaM,zaM]
        have hbk:∀ E m,(zjl (visH n0 born ((zas ops.toList []).getD i 0) (zar rows)) E ns l l' new).get m=if rows.length≤m then (new[m - rows.length]?).map (renB E) else (visH n0 born ((zas ops.toList []).getD i 0) (zar rows)).get m:=fun E m=>by
          unfold zjl
          simp only [hbl m]
          rfl
        rw [hbk]
        have hbn:∀ E,(zjl (visH n0 born ((zas ops.toList []).getD i 0) (zar rows)) E ns l l' new).next=rows.length+new.length:=fun E=>rfl
        rw [hbn]
        split
        · rename_i hm
          rw [List.getElem?_append_right hm,List.getElem?_map]
          split
          · cases new[m - rows.length]?<;>simp
          · rw [List.getElem?_eq_none (by omega)];simp
        · rename_i hm
          rw [List.getElem?_append_left (by omega)]
      · show (zar (rows++_)).next=rows.length+new.length
        rw [zaa,List.length_append,List.length_map]
    · intro n b _ q1 q2
      rw [zaa] at q2
      rw [zaM,zaM,List.getElem?_append_left (by omega)]
    · rw [zaa,zaa,List.length_append,List.length_map]
      exact hK
theorem Gives.still {cnt:Nat} {l:List Blk} {h1:AHeap} {v:Value} (hro:l.all (·.ro)=true) (hv:Clo (Kn l.length cnt) v):Gives cnt l l [] [] id h1 v v where
  low:=fun _ _=>rfl
  hand:=fun _ _=>rfl
  more:=fun j n hj=>by simp at hj
  nodup:=List.nodup_nil
  len:=rfl
  len':=rfl
  told:=(zeb v).symm
  clo:=fun F F' hs=>hv F F' (hs.mono fun n hn=>by
    rcases hn with hn|hn
    · exact .inl hn
    · exact .inr (.inr hn))
  rows:=fun i b hb hr=>by
    have:=List.all_eq_true.1 hro b (List.mem_of_getElem? hb)
    rw [hr] at this;cases this
  news:=fun j n hj=>by simp at hj
theorem Goes.finX {v v0:Value} {S':σ} {l l' new:List Blk} {ex:List Nat} {R:Nat→Nat} (ht:retB todo=true) (hv:resA P fn tmps h=some v0) (hS:S=S') (hG:Gives (X.cnt S') l l' new ex R h v0 v) :
    Goes X fn (fun x=>∃ v0 h1 ex R,x=.done v0 h1 S'∧Gives (X.cnt S') l l' new ex R h1 v0 v) (.run todo tmps h S) :=
  .ret ht hv (.here ⟨v0,h,ex,R,by rw [hS],hG⟩)
theorem Goes.finS {v:Value} {S':σ} {l:List Blk} (ht:retB todo=true) (hv:resA P fn tmps h=some v) (hS:S=S') (hro:l.all (·.ro)=true) (hc:Clo (Kn l.length (X.cnt S')) v) :
    Goes X fn (fun x=>∃ v0 h1 ex R,x=.done v0 h1 S'∧Gives (X.cnt S') l l [] ex R h1 v0 v) (.run todo tmps h S) :=
  Goes.finX ht hv hS (Gives.still hro hc)
theorem DoesX.mk {f:FuncId} {g:Func} {c:Code} {args:Array Value} {l l' new:List Blk} {S S':σ} {v:Value} (hf:P.funcs[f]?=some g) (hg:goB g=true) (hb:g.body=some c) (hclo:∀ u∈args.toList,Clo (Kn l.length (X.cnt S)) u) (hcl:∀ b∈l,∀ u∈b.cells,Clo (Kn l.length (X.cnt S)) u)
    (hrun:Goes X g (fun x=>∃ v0 h1 ex R,x=.done v0 h1 S'∧Gives (X.cnt S') l l' new ex R h1 v0 v) (.run [.code c] (args.toList++List.replicate (g.ntmps - args.size) undef) (zar (l.map some)) S)):DoesX X f args l S v l' new S':=by
  obtain⟨c',⟨v0,h1,ex,R,rfl,hG⟩,G⟩:=hrun.out
  exact⟨g,c,h1,v0,ex,R,hf,hg,hb,hclo,hcl,hG,G⟩
theorem zao {cs:List Value} {E:Emb} (h:∀ u∈cs,zac u=true):cs=cs.map (ren E):=by
  conv=>lhs;rw [←List.map_id cs]
  exact List.map_congr_left fun u hu=>(zaG E (h u hu)).symm
end
theorem Goes.wh {P:Program} {σ:Type} {X:Face P σ} {fn:Func} {A:Conf σ→Prop} {B:Code} {K:List Item} {tmps:List Value} {h:AHeap} {S:σ} (Inv:Nat→List Value→AHeap→σ→Prop) {m:Nat} (h0:Inv m tmps h S)
    (step:∀ m tmps h S,(∀ m' t' h' S',m'<m→Inv m' t' h' S'→Goes X fn A (.run (.inLoop B::K) t' h' S'))→Inv m tmps h S→Goes X fn A (.run (.code B::.inLoop B::K) tmps h S)):Goes X fn A (.run (.code (.loop B)::K) tmps h S):=by
  refine .ctl rfl ?_
  have key:∀ n,∀ m tmps h S,m<n→Inv m tmps h S→Goes X fn A (.run (.code B::.inLoop B::K) tmps h S):=by
    intro n
    induction n with
    | zero=>intro m _ _ _ hm;omega
    | succ n ih =>
      intro m tmps h S hm hI
      exact step m tmps h S (fun m' t' h' S' hm' hI'=>.ctl rfl (ih m' t' h' S' (by omega) hI')) hI
  exact key (m+1) m tmps h S (by omega) h0
theorem zcQ {tmps:List Value} {n:Nat} (h:tmps.length=n):∃ V:Nat→Value,(∀ i,tmps.getD i undef=V i)∧tmps=(List.range n).map V:=by
  refine⟨fun i=>tmps.getD i undef,fun _=>rfl,?_⟩
  apply List.ext_getElem?
  intro j
  rw [List.getElem?_map]
  by_cases hj:j<n
  · rw [List.getElem?_range hj]
    simp [List.getD,List.getElem?_eq_getElem (show j<tmps.length by omega)]
  · rw [List.getElem?_eq_none (by omega),List.getElem?_eq_none (by simp;omega)]
    rfl
def appV (P:Program) (h:AHeap) (nx:Nat) (t:TypeId) (x y:Value):Option (Value × Option Blk):=match zct P h t x y with
  | some (news,el,need,true)=>some (.slice (some ⟨nx,0,none⟩) need need,some ⟨news,el,false,zaj P el⟩)
  | _=>none
theorem zl0 {P:Program} {e:Operand→Value} {h:AHeap} {nx:Nat} {t:TypeId} {x y:Operand}:newA P e h nx (.call { callee:=.builtin .append,args:=#[x,y],argTypes:=#[t,t] })=appV P h nx t (e x) (e y):=by
  unfold newA appV
  simp only [if_true]
  rcases zct P h t (e x) (e y) with _|⟨news,el,need,b⟩
  · rfl
  · cases b<;>rfl
theorem zp4 {P:Program} {h:AHeap} {nx:Nat} {t el:TypeId} {s bs sl sc n c:Nat} {a b:Option Addr} {z:Value} {olds news:List Value} (h1:zbk P t=some el) (h2:zaj P el=some (s+1)) (h3:zaq P el=some bs) (h4:zax P el=some z)
    (h5:(zac z && decide (z.cells.size=s+1) && decide (bs≤1048576))=true) (c1:zbi h (s+1) (.slice a sl sc)=some olds) (c2:zbi h (s+1) (.slice b n c)=some news) (h6:sc<sl+n) (h7:sl+n≤16777216) (h8:∀ x,a=some x→∃ bk,h.get x.block=some bk∧bk.grow=some 0) :
    appV P h nx t (.slice a sl sc) (.slice b n c)=some (.slice (some ⟨nx,0,none⟩) (sl+n) (sl+n),some ⟨olds++news,el,false,some (s+1)⟩):=by
  have h5':zac z=true∧z.cells.size=s+1∧bs≤1048576:=by
    rw [Bool.and_eq_true,Bool.and_eq_true,decide_eq_true_eq,decide_eq_true_eq] at h5
    exact⟨h5.1.1,h5.1.2,h5.2⟩
  have hc:zac z=true∧z.cells.size=s+1∧bs≤1048576∧sc<sl+n∧sl+n≤16777216:=⟨h5'.1,h5'.2.1,h5'.2.2,h6,h7⟩
  have hap:zct P h t (.slice a sl sc) (.slice b n c)=some (olds++news,el,sl+n,true):=by
    unfold zct
    simp only [h1,h2,h3,h4,Option.getD_some,c1,c2]
    rw [if_pos hc]
    cases a with
    | none=>rfl
    | some x =>
      obtain⟨bk,g1,g2⟩:=h8 x rfl
      simp only [g1,g2,if_true]
  unfold appV
  rw [hap]
  simp only [h2]
theorem zkI {h:AHeap} {s c:Nat} {a:Addr}:zbi h s (.slice (some a) 0 c)=some []:=by simp [zbi]
theorem ziq {h:AHeap} {s n c:Nat} {a:Addr} {b:Blk} (hn:n≠0) (hg:h.get a.block=some b) (hs:a.spot=none) (hl:a.off+n * s≤b.cells.length):zbi h s (.slice (some a) n c)=some ((b.cells.drop a.off).take (n * s)):=by
  show (if n=0 then some [] else if a.spot=none then (match h.get a.block with
    | some b=>if a.off+n * s≤b.cells.length then some ((b.cells.drop a.off).take (n * s)) else none
    | none=>none) else none)=_
  rw [if_neg hn,if_pos hs,hg]
  simp only [hl,if_true]
def zdN (k:IntKind) (ns:List Int):List Value:=ns.map fun n=>.int k n
theorem zak {k:IntKind} {ns:List Int}:∀ u∈zdN k ns,zac u=true:=fun u hu=>by
  obtain⟨n,_,rfl⟩:=List.mem_map.1 hu;rfl
theorem up_0 {a nx:Nat} {ns:List Nat}:(upE (a::ns) nx).blk 0=a:=by simp [upE,zde,upN]
theorem up_1 {a b nx:Nat} {ns:List Nat}:(upE (a::b::ns) nx).blk 1=b:=by simp [upE,zde,upN]
theorem up_2 {a b c nx:Nat} {ns:List Nat}:(upE (a::b::c::ns) nx).blk 2=c:=by simp [upE,zde,upN]
theorem zdC {nx:Nat}:(upE [] nx).blk 0=nx:=by simp [upE,zde,upN,VB]
theorem zaC {nx n:Nat} {ns:List Nat}:(upE ns nx).base n=0:=rfl
theorem zat {nx n:Nat} {ns:List Nat}:(upE ns nx).slack n=0:=rfl
theorem zrk {nx k:Nat} {ns:List Nat} (h:ns.length<1000000):ren (upE ns nx) (hndV k)=hndV k:=by
  have h1:¬ VB+k<ns.length:=by unfold VB;omega
  have h2:¬ VB+k<VB:=by omega
  simp only [hndV,zbf,adr,upE,zde,upN,h1,h2,if_false,Nat.zero_add]
theorem zca {nx k:Nat} {ns:List Nat} (h:ns.length<1000000):ren (upE ns nx) (prtV k)=prtV k:=by
  simp only [prtV,zc9,zrk h]
attribute [go_sem high] zl0
attribute [go_sem] zsJ ziH renB up_0 up_1 up_2 zdC zaC zat zrk zca za9 zbq zb0 zdM zbf zcW zaB zc9 zbT zda zcK zcP zbN adr Nat.add_zero List.append_nil
def zaJ (l:List (Option Blk)) (q:Nat) (l2:List (Option Blk)):AHeap:=⟨fun n=>if n<q then (l[n]?).join else (l2[n - q]?).join,q+l2.length⟩
theorem zgi {l:List (Option Blk)} {q:Nat} {l2:List (Option Blk)} {n:Nat} (h:n<q):(zaJ l q l2).get n=(l[n]?).join:=if_pos h
theorem zsy {l:List (Option Blk)} {q:Nat} {l2:List (Option Blk)}:(zaJ l q l2).get q=(l2[0]?).join:=by
  show (if q<q then _ else _)=_
  rw [if_neg (Nat.lt_irrefl q),Nat.sub_self]
theorem zgP {l:List (Option Blk)} {q:Nat} {l2:List (Option Blk)} {i:Nat}:(zaJ l q l2).get (q+i)=(l2[i]?).join:=by
  show (if q+i<q then _ else _)=_
  rw [if_neg (by omega),Nat.add_sub_cancel_left]
theorem zeJ (l:List (Option Blk)) (q:Nat) (l2:List (Option Blk)):(zaJ l q l2).next=q+l2.length:=rfl
theorem zix {a b:AHeap} (h1:∀ n,a.get n=b.get n) (h2:a.next=b.next):a=b:=by
  cases a;cases b
  simp only [AHeap.mk.injEq]
  exact⟨funext h1,h2⟩
theorem zq2 (l:List (Option Blk)) (q:Nat) (l2:List (Option Blk)) (b:Option Blk):(zaJ l q l2).addO b=zaJ l q (l2++[b]):=by
  refine zix (fun n=>?_) (by simp [AHeap.addO,zaJ];omega)
  rw [AHeap.addO_get,zeJ]
  show _=(if n<q then _ else _)
  by_cases hn:n<q
  · rw [if_neg (by omega),if_pos hn,zgi hn]
  · obtain⟨i,rfl⟩:∃ i,n=q+i:=⟨n - q,by omega⟩
    rw [zgP,if_neg hn,Nat.add_sub_cancel_left]
    by_cases hi:i=l2.length
    · subst hi;rw [if_pos rfl];simp
    · rw [if_neg (by omega),List.getElem?_append]
      by_cases h2:i<l2.length
      · rw [if_pos h2]
      · rw [if_neg h2,List.getElem?_eq_none (by omega),List.getElem?_eq_none (by simp;omega)]
theorem zho {l:List (Option Blk)} {q:Nat} {l2:List (Option Blk)} {n:Nat} {b:Option Blk} (h:n<q) (hl:n<l.length):(zaJ l q l2).putO n b=zaJ (l.set n b) q l2:=by
  refine zix (fun m=>?_) rfl
  rw [AHeap.putO_get]
  show _=(if m<q then _ else _)
  by_cases hm:m=n
  · subst hm;rw [if_pos rfl,if_pos h];simp [hl]
  · rw [if_neg hm]
    show (if m<q then _ else _)=_
    rw [List.getElem?_set_ne (fun e=>hm e.symm)]
theorem zhl {l:List (Option Blk)} {q:Nat} {l2:List (Option Blk)} {i:Nat} {b:Option Blk} (hl:i<l2.length):(zaJ l q l2).putO (q+i) b=zaJ l q (l2.set i b):=by
  refine zix (fun m=>?_) (by simp [AHeap.putO,zaJ])
  rw [AHeap.putO_get]
  show _=(if m<q then _ else _)
  by_cases hm:m<q
  · rw [if_neg (by omega),if_pos hm,zgi hm]
  · obtain⟨j,rfl⟩:∃ j,m=q+j:=⟨m - q,by omega⟩
    rw [zgP,if_neg hm,Nat.add_sub_cancel_left]
    by_cases hj:j=i
    · subst hj;rw [if_pos rfl];simp [hl]
    · rw [if_neg (by omega),List.getElem?_set_ne (fun e=>hj e.symm)]
theorem zgo {l:List (Option Blk)} {q:Nat} {l2:List (Option Blk)} {b:Option Blk} (hl:0<l2.length):(zaJ l q l2).putO q b=zaJ l q (l2.set 0 b):=zhl (i:=0) hl
theorem znD {l:List (Option Blk)} {q:Nat} {l2:List (Option Blk)} {n:Nat} {b:Blk} (h:n<q) (hl:n<l.length):(zaJ l q l2).put n b=zaJ (l.set n (some b)) q l2:=by rw [ziQ,zho h hl]
theorem zkV {l:List (Option Blk)} {q:Nat} {l2:List (Option Blk)} {b:Blk} (hl:0<l2.length):(zaJ l q l2).put q b=zaJ l q (l2.set 0 (some b)):=by rw [ziQ,zgo hl]
theorem zpK {l:List (Option Blk)} {q:Nat} {l2:List (Option Blk)} (h:q+l2.length<1000000000):(zaJ l q l2).next<VB:=by rw [zeJ];unfold VB;omega
theorem zg8 (l:List (Option Blk)) (q:Nat) (l2:List (Option Blk)):(zaJ l q l2).Low:=by
  intro n b hb
  rw [zeJ]
  by_cases hn:n<q
  · omega
  · obtain⟨i,rfl⟩:∃ i,n=q+i:=⟨n - q,by omega⟩
    rw [zgP] at hb
    have:i<l2.length:=by
      apply Nat.lt_of_not_le;intro h;rw [List.getElem?_eq_none h] at hb;simp at hb
    omega
theorem zrn (l:List (Option Blk)):zar l=zaJ l l.length []:=by
  refine zix (fun n=>?_) (by simp [zar,zaJ])
  rw [zaM]
  show _=(if n<l.length then _ else _)
  split
  · rfl
  · rw [List.getElem?_eq_none (by omega)];simp
attribute [go_sem] zgi zsy zgP zeJ zq2 zho zhl zgo znD zkV
theorem zbX {o:Oper} {y:Nat→Option Bool} (hg:o.guard=none):Region.wanted o y=true:=by
  unfold Region.wanted;rw [hg]
theorem zgI {o:Oper} {ops:Array Oper} {tmps:List Value} {j d:Nat} {b b':Bool} (hg:o.guard=some (j,b)) (hd:(ops[j]?).bind (·.dst)=some d) (hv:tmps[d]?=some (.bool b')):Region.wanted o (zai ops tmps)=(b'==b):=by
  unfold Region.wanted zai
  rw [hg]
  simp only [hd,Option.bind_some,hv]
  cases b<;>cases b'<;>rfl
theorem zlY {o:Oper} {ops:Array Oper} {tmps:List Value} {j d:Nat} {b:Bool} (hg:o.guard=some (j,b)) (hd:(ops[j]?).bind (·.dst)=some d) (hv:tmps[d]?=some undef):Region.wanted o (zai ops tmps)=false:=by
  unfold Region.wanted zai
  rw [hg]
  simp only [hd,Option.bind_some,hv]
  cases b<;>rfl
section
variable {P:Program} {σ:Type} {X:Face P σ} {fn:Func} {A:Conf σ→Prop} {ops:Array Oper} {k:List Item} {i:Nat} {tmps:List Value} {h:AHeap} {S:σ} {o:Oper} {j d:Nat} {b b':Bool}
theorem AtL.valn (ho:ops.toList[i]?=some o) (hg:o.guard=none) (hb:opOK o.op=true)
    (hk:∀ K:List Value→AHeap→Prop,(∀ t h,At X fn A ops k (i+1) t h S→K t h)→OpK K o tmps h (valA P (evA tmps) h o.op)):At X fn A ops k i tmps h S:=AtL.val ho (zbX hg) hb hk
theorem AtL.valg (ho:ops.toList[i]?=some o) (hg:o.guard=some (j,b)) (hd:(ops[j]?).bind (·.dst)=some d) (hv:tmps[d]?=some (.bool b')) (hw:(b'==b)=true) (hb:opOK o.op=true)
    (hk:∀ K:List Value→AHeap→Prop,(∀ t h,At X fn A ops k (i+1) t h S→K t h)→OpK K o tmps h (valA P (evA tmps) h o.op)):At X fn A ops k i tmps h S:=AtL.val ho ((zgI hg hd hv).trans hw) hb hk
theorem AtL.skipg (ho:ops.toList[i]?=some o) (hg:o.guard=some (j,b)) (hd:(ops[j]?).bind (·.dst)=some d) (hv:tmps[d]?=some (.bool b')) (hw:(b'==b)=false) (hk:At X fn A ops k (i+1) (putL o.dst undef tmps) h S):At X fn A ops k i tmps h S:=AtL.skip ho ((zgI hg hd hv).trans hw) hk
theorem AtL.skipu (ho:ops.toList[i]?=some o) (hg:o.guard=some (j,b)) (hd:(ops[j]?).bind (·.dst)=some d) (hv:tmps[d]?=some undef) (hk:At X fn A ops k (i+1) (putL o.dst undef tmps) h S):At X fn A ops k i tmps h S:=AtL.skip ho (zlY hg hd hv) hk
theorem AtL.newn (ho:ops.toList[i]?=some o) (hg:o.guard=none) (hb:opOK o.op=true) (hl:h.next<VB)
    (hk:∀ K:List Value→AHeap→Prop,(∀ t h,At X fn A ops k (i+1) t h S→K t h)→NewK K o tmps h (newA P (evA tmps) h h.next o.op)):At X fn A ops k i tmps h S:=AtL.new ho (zbX hg) hb hl hk
theorem AtL.storen (ho:ops.toList[i]?=some o) (hg:o.guard=none) (hb:opOK o.op=true)
    (hk:∀ K:List Value→AHeap→Prop,(∀ t h,At X fn A ops k (i+1) t h S→K t h)→zgq K o tmps (zcs P (evA tmps) h o.op)):At X fn A ops k i tmps h S:=AtL.store ho (zbX hg) hb hk
variable {W:List Nat} {n0:Nat} {hf:AHeap} {Kf:List Value→AHeap→σ→Prop} {born:List (Nat × Nat)}
theorem RGL.valn (hl:h.Low) (ho:ops.toList[i]?=some o) (hg:o.guard=none) (hb:opOK o.op=true) (hq:wrB W i o=false)
    (hk:∀ K:List Value→AHeap→Prop,(∀ t h,RGF X W ops n0 hf Kf (i+1) t h S born→K t h)→OpK K o tmps h (valA P (evA tmps) (lowH n0 h) o.op)) (hnf:farB W i=false:=by rfl):RGF X W ops n0 hf Kf i tmps h S born:=RGL.val hl ho (zbX hg) hb hq hk hnf
theorem RGL.valg (hl:h.Low) (ho:ops.toList[i]?=some o) (hg:o.guard=some (j,b)) (hd:(ops[j]?).bind (·.dst)=some d) (hv:tmps[d]?=some (.bool b')) (hw:(b'==b)=true) (hb:opOK o.op=true) (hq:wrB W i o=false)
    (hk:∀ K:List Value→AHeap→Prop,(∀ t h,RGF X W ops n0 hf Kf (i+1) t h S born→K t h)→OpK K o tmps h (valA P (evA tmps) (lowH n0 h) o.op)) (hnf:farB W i=false:=by rfl):RGF X W ops n0 hf Kf i tmps h S born:=RGL.val hl ho ((zgI hg hd hv).trans hw) hb hq hk hnf
theorem RGL.skipg (ho:ops.toList[i]?=some o) (hg:o.guard=some (j,b)) (hd:(ops[j]?).bind (·.dst)=some d) (hv:tmps[d]?=some (.bool b')) (hw:(b'==b)=false) (hk:RGF X W ops n0 hf Kf (i+1) (putL o.dst undef tmps) h S born):RGF X W ops n0 hf Kf i tmps h S born:=RGL.skip ho ((zgI hg hd hv).trans hw) hk
theorem RGL.skipu (ho:ops.toList[i]?=some o) (hg:o.guard=some (j,b)) (hd:(ops[j]?).bind (·.dst)=some d) (hv:tmps[d]?=some undef) (hk:RGF X W ops n0 hf Kf (i+1) (putL o.dst undef tmps) h S born):RGF X W ops n0 hf Kf i tmps h S born:=RGL.skip ho (zlY hg hd hv) hk
theorem RGL.newn (hl:h.Low) (ho:ops.toList[i]?=some o) (hg:o.guard=none) (hb:opOK o.op=true) (hq:wrB W i o=false) (hn:h.next<VB) (hne:zrW o.op=true)
    (hk:∀ K:List Value→AHeap→Prop,(∀ t h',RGF X W ops n0 hf Kf (i+1) t h' S ((i,h.next)::born)→K t h')→NewK K o tmps h (newA P (evA tmps) (lowH n0 h) h.next o.op)) (hnf:farB W i=false:=by rfl):RGF X W ops n0 hf Kf i tmps h S born:=RGL.new hl ho (zbX hg) hb hq hn hne hk hnf
theorem RGL.storen (ho:ops.toList[i]?=some o) (hg:o.guard=none) (hb:opOK o.op=true)
    (hk:∀ K:List Value→AHeap→Prop,(∀ t h,RG X W ops n0 Kf (i+1) t h S born→K t h)→zgq K o tmps (zcs P (evA tmps) h o.op)) (hnf:farB W i=false:=by rfl):RG X W ops n0 Kf i tmps h S born:=RGL.store ho (zbX hg) hb hk hnf
end
theorem sz:(∀ l:List (Option Blk),(zar l).next=l.length)∧(∀ (l:List (Option Blk)) (q:Nat) (l2:List (Option Blk)),(zaJ l q l2).next=q+l2.length)∧(∀ (a:Option Blk) (l:List (Option Blk)),(a::l).length=l.length+1)∧([]:List (Option Blk)).length=0 ∧
    (∀ l l2:List (Option Blk),(l++l2).length=l.length+l2.length)∧(∀ (a:Value) (l:List Value),(a::l).length=l.length+1)∧([]:List Value).length=0∧(∀ l:List Value,l.toArray.size=l.length)∧(∀ N T:Nat,(geoC N T).toList.length=22) :=
  ⟨zaa,zeJ,fun _ _=>rfl,rfl,fun _ _=>List.length_append,fun _ _=>rfl,rfl,fun _=>List.size_toArray,zaf⟩
def vB:Op→Bool
  | .alloc _|.box _ _|.buildSlice _ _ _|.makeSlice _ _ _|.store _ _ _=>false
  | .call c=>(match c.callee with|.builtin .append=>false|.builtin _=>true|_=>false)
  | _=>true
def nB:Op→Bool
  | .alloc _|.box _ _|.buildSlice _ _ _|.makeSlice _ _ _=>true
  | .call c=>(match c.callee with|.builtin .append=>true|_=>false)
  | _=>false
def tB:Op→Bool
  | .store _ _ _=>true
  | _=>false
section
variable {P:Program} {σ:Type} {X:Face P σ} {fn:Func} {A:Conf σ→Prop} {ops:Array Oper} {k:List Item} {i:Nat} {tmps:List Value} {h:AHeap} {S:σ} {o:Oper} {j d:Nat} {b b':Bool}
theorem qv1 (ho:ops.toList[i]?=some o) (hg:o.guard=none) (_:vB o.op=true) (hk:∀ K:List Value→AHeap→Prop,(∀ t h,At X fn A ops k (i+1) t h S→K t h)→OpK K o tmps h (valA P (evA tmps) h o.op)) (hb:opOK o.op=true:=by rfl):At X fn A ops k i tmps h S:=AtL.valn ho hg hb hk
theorem qv2 (ho:ops.toList[i]?=some o) (hg:o.guard=some (j,b)) (hd:(ops[j]?).bind (·.dst)=some d) (hv:tmps[d]?=some (.bool b')) (hw:(b'==b)=true) (_:vB o.op=true)
    (hk:∀ K:List Value→AHeap→Prop,(∀ t h,At X fn A ops k (i+1) t h S→K t h)→OpK K o tmps h (valA P (evA tmps) h o.op)) (hb:opOK o.op=true:=by rfl):At X fn A ops k i tmps h S:=AtL.valg ho hg hd hv hw hb hk
theorem qn1 (ho:ops.toList[i]?=some o) (hg:o.guard=none) (_:nB o.op=true)
    (hk:∀ K:List Value→AHeap→Prop,(∀ t h,At X fn A ops k (i+1) t h S→K t h)→NewK K o tmps h (newA P (evA tmps) h h.next o.op)) (hb:opOK o.op=true:=by rfl) (hl:h.next<VB:=by first|exact zjG rfl|(exact zpK (by simp only [sz];omega))):At X fn A ops k i tmps h S:=AtL.newn ho hg hb hl hk
theorem qt1 (ho:ops.toList[i]?=some o) (hg:o.guard=none) (_:tB o.op=true)
    (hk:∀ K:List Value→AHeap→Prop,(∀ t h,At X fn A ops k (i+1) t h S→K t h)→zgq K o tmps (zcs P (evA tmps) h o.op)) (hb:opOK o.op=true:=by rfl):At X fn A ops k i tmps h S:=AtL.storen ho hg hb hk
theorem qp1 (ho:ops.toList[i]?=some o) (hw:Region.wanted o (zai ops tmps)=true)
    (hk:∀ K:List Value→σ→Prop,(∀ t S',At X fn A ops k (i+1) t h S'→K t S')→zdD (fun f args=>fnOK P f=true∧∃ v S',X.prim f args S v S'∧K (putL o.dst v tmps) S') (zaN P (evA tmps) o.op)) (hb:opOK o.op=true:=by rfl):At X fn A ops k i tmps h S:=At.prim2 ho hw hb hk
theorem qc1 (ho:ops.toList[i]?=some o) (hw:Region.wanted o (zai ops tmps)=true)
    (hk:∀ K:List Value→σ→Prop,(∀ t S',At X fn A ops k (i+1) t h S'→K t S')→zdD (fun f args=>∃ v S',Does X f args [] S v S'∧K (putL o.dst v tmps) S') (zaN P (evA tmps) o.op)) (hb:opOK o.op=true:=by rfl):At X fn A ops k i tmps h S:=At.call2 ho hw hb hk
variable {W:List Nat} {n0:Nat} {hf:AHeap} {Kf:List Value→AHeap→σ→Prop} {born:List (Nat × Nat)}
theorem qv3 (ho:ops.toList[i]?=some o) (hg:o.guard=none) (_:vB o.op=true) (hk:∀ K:List Value→AHeap→Prop,(∀ t h,RGF X W ops n0 hf Kf (i+1) t h S born→K t h)→OpK K o tmps h (valA P (evA tmps) (lowH n0 h) o.op))
    (hb:opOK o.op=true:=by rfl) (hq:wrB W i o=false:=by rfl) (hl:h.Low:=by first|exact zbv _|exact zg8 _ _ _) (hnf:farB W i=false:=by rfl):RGF X W ops n0 hf Kf i tmps h S born:=RGL.valn hl ho hg hb hq hk hnf
theorem qv4 (ho:ops.toList[i]?=some o) (hg:o.guard=some (j,b)) (hd:(ops[j]?).bind (·.dst)=some d) (hv:tmps[d]?=some (.bool b')) (hw:(b'==b)=true) (_:vB o.op=true)
    (hk:∀ K:List Value→AHeap→Prop,(∀ t h,RGF X W ops n0 hf Kf (i+1) t h S born→K t h)→OpK K o tmps h (valA P (evA tmps) (lowH n0 h) o.op))
    (hb:opOK o.op=true:=by rfl) (hq:wrB W i o=false:=by rfl) (hl:h.Low:=by first|exact zbv _|exact zg8 _ _ _) (hnf:farB W i=false:=by rfl):RGF X W ops n0 hf Kf i tmps h S born:=RGL.valg hl ho hg hd hv hw hb hq hk hnf
theorem qn3 (ho:ops.toList[i]?=some o) (hg:o.guard=none) (_:nB o.op=true)
    (hk:∀ K:List Value→AHeap→Prop,(∀ t h',RGF X W ops n0 hf Kf (i+1) t h' S ((i,h.next)::born)→K t h')→NewK K o tmps h (newA P (evA tmps) (lowH n0 h) h.next o.op))
    (hb:opOK o.op=true:=by rfl) (hq:wrB W i o=false:=by rfl) (hl:h.Low:=by first|exact zbv _|exact zg8 _ _ _) (hn:h.next<VB:=by first|exact zjG rfl|(exact zpK (by simp only [sz];omega))) (hne:zrW o.op=true:=by rfl) (hnf:farB W i=false:=by rfl):RGF X W ops n0 hf Kf i tmps h S born:=RGL.newn hl ho hg hb hq hn hne hk hnf
theorem qt3 (ho:ops.toList[i]?=some o) (hg:o.guard=none) (_:tB o.op=true)
    (hk:∀ K:List Value→AHeap→Prop,(∀ t h,RG X W ops n0 Kf (i+1) t h S born→K t h)→zgq K o tmps (zcs P (evA tmps) h o.op)) (hb:opOK o.op=true:=by rfl) (hnf:farB W i=false:=by rfl):RG X W ops n0 Kf i tmps h S born:=RGL.storen ho hg hb hk hnf
theorem qp3 (ho:ops.toList[i]?=some o) (hw:Region.wanted o (zai ops tmps)=true)
    (hk:∀ K:List Value→σ→Prop,(∀ t S',RGF X W ops n0 hf Kf (i+1) t h S' born→K t S')→zdD (fun f args=>fnOK P f=true∧∃ v S',X.prim f args S v S'∧K (putL o.dst v tmps) S') (zaN P (evA tmps) o.op))
    (hb:opOK o.op=true:=by rfl) (hq:wrB W i o=false:=by rfl) (hl:h.Low:=by first|exact zbv _|exact zg8 _ _ _) (hnf:farB W i=false:=by rfl):RGF X W ops n0 hf Kf i tmps h S born:=RG.prim2 hl ho hw hb hq hk hnf
theorem qc3 (ho:ops.toList[i]?=some o) (hw:Region.wanted o (zai ops tmps)=true)
    (hk:∀ K:List Value→σ→Prop,(∀ t S',RGF X W ops n0 hf Kf (i+1) t h S' born→K t S')→zdD (fun f args=>∃ v S',Does X f args [] S v S'∧K (putL o.dst v tmps) S') (zaN P (evA tmps) o.op))
    (hb:opOK o.op=true:=by rfl) (hq:wrB W i o=false:=by rfl) (hl:h.Low:=by first|exact zbv _|exact zg8 _ _ _) (hnf:farB W i=false:=by rfl):RGF X W ops n0 hf Kf i tmps h S born:=RG.call2 hl ho hw hb hq hk hnf
end
theorem zkc {σ:Type} {X:Face Try.prog σ} {f:FuncId} {args:Array Value} {v:Value} {S S1:σ} {F:Emb} {w:World} (D:Does X f args [] S v S1) (ha:args.all zac=true) (hv:zac v=true) (hc:X.cnt S=0) (hR:X.rep F S w) (hfp:∀ b,¬ X.fp F S b) :
    TCalls Try.prog f args w fun e w'=>e=.returned v∧Kept w (fun _=>False) w':=by
  intro cs
  obtain⟨g,c,h1,hf,hgo,hbd,_,_,G⟩:=D
  let b:Frame:={ (default:Frame) with fn:=f,kind:=.normal }
  have hpl:args.map (ren F)=args:=zcG F ha
  have henter0:Frame.enter Try.prog f (args.map (ren F)) .normal=b.at (actF F (zah g c args).2) (zah g c args).1:=by
    simp [Frame.enter,Frame.at,hf,hbd,b,actF,zah,zaY]
  have henter:Frame.enter Try.prog f args .normal=b.at (actF F (zah g c args).2) (zah g c args).1:=by
    rw [hpl] at henter0;exact henter0
  have hn:(zar (List.map some ([]:List Blk))).next=0:=rfl
  have hg0:∀ n bb,(zar (List.map some ([]:List Blk))).get n=some bb→False:=fun n bb hb=>by simp [zar] at hb
  have hI:InvC X F w (fun _=>False) (.run (zah g c args).1 (zah g c args).2 (zar (List.map some ([]:List Blk))) S) w:=by
    refine⟨⟨⟨fun n bb hb=>(hg0 n bb hb).elim,fun n m bb cc hb=>(hg0 n bb hb).elim⟩,hR,fun u hu=>?_,fun n bb hb u hu=>(hg0 n bb hb).elim,fun n bb hb=>(hg0 n bb hb).elim,fun n h1 h2=>.inr ⟨h1,h2⟩,fun n hn'=>?_,Kept.refl _ _,fun n bb hb=>(hg0 n bb hb).elim,fun x hx=>absurd hx (hfp x),fun n bb hb=>(hg0 n bb hb).elim⟩,by show (0:Nat)≤VB;unfold VB;omega⟩
    · have hu:u∈(zah g c args).2:=hu
      simp only [zah,List.mem_append] at hu
      rcases hu with hu|hu
      · refine Stab.plain ?_
        obtain⟨i,hi,rfl⟩:=Array.mem_iff_getElem.1 (Array.mem_toList_iff.1 hu)
        exact Array.all_eq_true.1 ha i hi
      · rw [List.eq_of_mem_replicate hu];exact Stab.undef
    · rcases hn' with hn'|⟨_,hn'⟩
      · have hn':n<0:=hn'
        omega
      · exact hn'
  obtain⟨c',F',w',m',hAc,hst',hS,hI',_,_,_⟩:=G.simul b cs F w w _ _ hf rfl rfl hI
  subst hAc
  obtain⟨fr,rfl,hfn,hleave⟩:=hS
  exact⟨.returned (ren F' v),w',fr,⟨by rw [zaG F' hv],hI'.1.kept⟩,by rw [henter];exact hst',hfn,hleave⟩
theorem PureD.t {f:FuncId} {args:Array Value} {v:Value} (h:PureD f args v) (ha:args.all zac=true) (hv:zac v=true):zm7 f args v:=fun w=>zkc (X:=BF Try.prog Try.mix) (F:=idE) (w:=w) h ha hv rfl trivial fun _ z=>z
theorem qpd {f:FuncId} {args:Array Value} {v:Value} {S:St} (h:∀ w:World,PureD f args v) (ha:args.all zac=true:=by first|rfl|(simp [zac];done)|simp [zac,geoC]) (hv:zac v=true:=by first|rfl|(simp [zac];done)|simp [zac,geoC]):Prim f args S v S:=.pure (fun w=>(h w).t ha hv) ha hv
theorem qpu {f:FuncId} {args:Array Value} {v:Value} {S:St} (h:∀ w:World,zm7 f args v) (ha:args.all zac=true:=by first|rfl|(simp [zac];done)|simp [zac,geoC]) (hv:zac v=true:=by first|rfl|(simp [zac];done)|simp [zac,geoC]):Prim f args S v S:=.pure h ha hv
structure Hold (p:Prop):Prop where
  out:p
theorem via {G G':Prop} (k:G') (h:Hold G'→G:=by (intro hk0;(repeat (first|refine Goes.reg ?_|refine Goes.ctl2 rfl ?_|((first|refine qv1 rfl rfl rfl fun K hK=>?_|refine qv3 rfl rfl rfl fun K hK=>?_|refine qv2 rfl rfl rfl rfl rfl rfl fun K hK=>?_|refine qv4 rfl rfl rfl rfl rfl rfl fun K hK=>?_|refine qn1 rfl rfl rfl fun K hK=>?_|refine qn3 rfl rfl rfl fun K hK=>?_|refine qt1 rfl rfl rfl fun K hK=>?_|refine qt3 rfl rfl rfl fun K hK=>?_);simp (disch:=(first|omega|(simp only [sz]<;>omega)|fail)) only [go_sem];with_reducible refine hK _ _ ?_;clear hK K)|refine At.nil rfl ?_|refine RG.nil rfl ?_|((first|refine AtL.skipg rfl rfl rfl rfl rfl ?_|refine RGL.skipg rfl rfl rfl rfl rfl ?_|refine AtL.skipu rfl rfl rfl rfl ?_|refine RGL.skipu rfl rfl rfl rfl ?_);simp only [putL,List.set_cons_zero,List.set_cons_succ])|refine Goes.yes rfl ?_|refine Goes.no rfl ?_|refine Goes.drawR [] (by kernel_rfl) ?_));exact hk0.out)):G:=h ⟨k⟩
theorem viaF {F G G':Prop} (f:F) (k:G') (h:F→Hold G'→G:=by (intro hF0 hk0;(repeat (first|refine Goes.reg ?_|refine Goes.ctl2 rfl ?_|((first|refine qv1 rfl rfl rfl fun K hK=>?_|refine qv3 rfl rfl rfl fun K hK=>?_|refine qv2 rfl rfl rfl rfl rfl rfl fun K hK=>?_|refine qv4 rfl rfl rfl rfl rfl rfl fun K hK=>?_|refine qn1 rfl rfl rfl fun K hK=>?_|refine qn3 rfl rfl rfl fun K hK=>?_|refine qt1 rfl rfl rfl fun K hK=>?_|refine qt3 rfl rfl rfl fun K hK=>?_);simp (disch:=(first|omega|(simp only [sz]<;>omega)|fail)) only [go_sem,hF0];with_reducible refine hK _ _ ?_;clear hK K)|refine At.nil rfl ?_|refine RG.nil rfl ?_|((first|refine AtL.skipg rfl rfl rfl rfl rfl ?_|refine RGL.skipg rfl rfl rfl rfl rfl ?_|refine AtL.skipu rfl rfl rfl rfl ?_|refine RGL.skipu rfl rfl rfl rfl ?_);simp only [putL,List.set_cons_zero,List.set_cons_succ])|refine Goes.yes rfl ?_|refine Goes.no rfl ?_|refine Goes.drawR [] (by kernel_rfl) ?_));exact hk0.out)):G:=h f ⟨k⟩
theorem viaL {G G':Prop} (k:G') (h:Hold G'→G:=by (intro hk0;(repeat (first|refine Goes.loop ?_|refine Goes.inLoop ?_|refine Goes.reg ?_|refine Goes.ctl2 rfl ?_|((first|refine qv1 rfl rfl rfl fun K hK=>?_|refine qv3 rfl rfl rfl fun K hK=>?_|refine qv2 rfl rfl rfl rfl rfl rfl fun K hK=>?_|refine qv4 rfl rfl rfl rfl rfl rfl fun K hK=>?_|refine qn1 rfl rfl rfl fun K hK=>?_|refine qn3 rfl rfl rfl fun K hK=>?_|refine qt1 rfl rfl rfl fun K hK=>?_|refine qt3 rfl rfl rfl fun K hK=>?_);simp (disch:=(first|omega|(simp only [sz]<;>omega)|fail)) only [go_sem];with_reducible refine hK _ _ ?_;clear hK K)|refine At.nil rfl ?_|refine RG.nil rfl ?_|((first|refine AtL.skipg rfl rfl rfl rfl rfl ?_|refine RGL.skipg rfl rfl rfl rfl rfl ?_|refine AtL.skipu rfl rfl rfl rfl ?_|refine RGL.skipu rfl rfl rfl rfl ?_);simp only [putL,List.set_cons_zero,List.set_cons_succ])|refine Goes.yes rfl ?_|refine Goes.no rfl ?_|refine Goes.drawR [] (by kernel_rfl) ?_));exact hk0.out)):G:=h ⟨k⟩
theorem zuD {F G G':Prop} (f:F) (k:G') (h:F→Hold G'→G:=by (intro hF0 hk0;(repeat (first|refine Goes.loop ?_|refine Goes.inLoop ?_|refine Goes.reg ?_|refine Goes.ctl2 rfl ?_|((first|refine qv1 rfl rfl rfl fun K hK=>?_|refine qv3 rfl rfl rfl fun K hK=>?_|refine qv2 rfl rfl rfl rfl rfl rfl fun K hK=>?_|refine qv4 rfl rfl rfl rfl rfl rfl fun K hK=>?_|refine qn1 rfl rfl rfl fun K hK=>?_|refine qn3 rfl rfl rfl fun K hK=>?_|refine qt1 rfl rfl rfl fun K hK=>?_|refine qt3 rfl rfl rfl fun K hK=>?_);simp (disch:=(first|omega|(simp only [sz]<;>omega)|fail)) only [go_sem,hF0];with_reducible refine hK _ _ ?_;clear hK K)|refine At.nil rfl ?_|refine RG.nil rfl ?_|((first|refine AtL.skipg rfl rfl rfl rfl rfl ?_|refine RGL.skipg rfl rfl rfl rfl rfl ?_|refine AtL.skipu rfl rfl rfl rfl ?_|refine RGL.skipu rfl rfl rfl rfl ?_);simp only [putL,List.set_cons_zero,List.set_cons_succ])|refine Goes.yes rfl ?_|refine Goes.no rfl ?_|refine Goes.drawR [] (by kernel_rfl) ?_));exact hk0.out)):G:=h f ⟨k⟩
theorem viaD {G G':Prop} (k:G') (h:Hold G'→G:=by (intro hk0;(repeat (first|refine Goes.reg ?_|refine Goes.ctl2 rfl ?_|((first|refine qv1 rfl rfl rfl fun K hK=>?_|refine qv3 rfl rfl rfl fun K hK=>?_|refine qv2 rfl rfl rfl rfl rfl rfl fun K hK=>?_|refine qv4 rfl rfl rfl rfl rfl rfl fun K hK=>?_|refine qn1 rfl rfl rfl fun K hK=>?_|refine qn3 rfl rfl rfl fun K hK=>?_|refine qt1 rfl rfl rfl fun K hK=>?_|refine qt3 rfl rfl rfl fun K hK=>?_);simp (disch:=(first|omega|(simp only [sz]<;>omega)|fail)) only [go_sem];with_reducible refine hK _ _ ?_;clear hK K)|refine At.nil rfl ?_|refine RG.nil rfl ?_|((first|refine AtL.skipg rfl rfl rfl rfl rfl ?_|refine RGL.skipg rfl rfl rfl rfl rfl ?_|refine AtL.skipu rfl rfl rfl rfl ?_|refine RGL.skipu rfl rfl rfl rfl ?_);simp only [putL,List.set_cons_zero,List.set_cons_succ])|refine Goes.yes rfl ?_|refine Goes.no rfl ?_));exact hk0.out)):G:=h ⟨k⟩
theorem zoC {F G G':Prop} (f:F) (k:G') (h:F→Hold G'→G:=by (intro hF0 hk0;(repeat (first|refine Goes.reg ?_|refine Goes.ctl2 rfl ?_|((first|refine qv1 rfl rfl rfl fun K hK=>?_|refine qv3 rfl rfl rfl fun K hK=>?_|refine qv2 rfl rfl rfl rfl rfl rfl fun K hK=>?_|refine qv4 rfl rfl rfl rfl rfl rfl fun K hK=>?_|refine qn1 rfl rfl rfl fun K hK=>?_|refine qn3 rfl rfl rfl fun K hK=>?_|refine qt1 rfl rfl rfl fun K hK=>?_|refine qt3 rfl rfl rfl fun K hK=>?_);simp (disch:=(first|omega|(simp only [sz]<;>omega)|fail)) only [go_sem,hF0];with_reducible refine hK _ _ ?_;clear hK K)|refine At.nil rfl ?_|refine RG.nil rfl ?_|((first|refine AtL.skipg rfl rfl rfl rfl rfl ?_|refine RGL.skipg rfl rfl rfl rfl rfl ?_|refine AtL.skipu rfl rfl rfl rfl ?_|refine RGL.skipu rfl rfl rfl rfl ?_);simp only [putL,List.set_cons_zero,List.set_cons_succ])|refine Goes.yes rfl ?_|refine Goes.no rfl ?_));exact hk0.out)):G:=h f ⟨k⟩
end Go.Proofs.Ytjhmhoapgbfgpaa
