/-
  Layer 7: LockOne, from every start.
  No condition.
-/
import Derived.Test.YtjhmhoapgbfgpaaUDrawD
set_option maxHeartbeats 40000000
namespace Go.Proofs.Ytjhmhoapgbfgpaa
open Go Go.Conc
open Go.RowKit
theorem zkm (a0 a1:Int) (a2:Option Addr) (len2 cap2:Nat) (z2:Nat→Nat→Int) (W:World) (w0:(Lit.int .u8 a0).wf=true) (w1:(Lit.int .u8 a1).wf=true) (w2:RowS [.u8] W a2 len2 cap2 z2) :
    ∃ M last o w' t',runNT Try.prog (M+1) (solo (Go.Conc.G (Frame.enter Try.prog 3 #[.int .u8 a0,.int .u8 a1,.slice a2 len2 cap2] .normal) []) W) #[]=(.ended o w',t')∧runN Try.prog M (solo (Go.Conc.G (Frame.enter Try.prog 3 #[.int .u8 a0,.int .u8 a1,.slice a2 len2 cap2] .normal) []) W)=.next last ∧
      step Try.prog last=.ended o w'∧Conc.Good Try.prog (fun v w'=>v=.bool true∧Go.RowKit.Below W.heap.size W w') last o w' t':=by
  have h0:0≤a0∧a0≤255:=by simpa [Lit.wf,IntKind.min,IntKind.max,IntKind.signed,IntKind.bits] using w0
  have h1:0≤a1∧a1≤255:=by simpa [Lit.wf,IntKind.min,IntKind.max,IntKind.signed,IntKind.bits] using w1
  obtain⟨x,rfl⟩:=Int.eq_ofNat_of_zero_le h0.1
  obtain⟨y,rfl⟩:=Int.eq_ofNat_of_zero_le h1.1
  obtain⟨l,rfl,g1,g2,g3⟩:=zqo w2
  obtain⟨s0,ob,bk0,bs0,hren,hat,hrow,hlies⟩:=zpw u8N (s:=1) (fun _=>rfl) (by decide) (fun x v hv=>by simp [u8N] at hv;subst hv;rfl) l a2 cap2 W 0 g3
  have L:=(ztu x y s0 cap2 l ob hat hrow (fun B hB=>(hlies B hB).1) g2 g1 (by omega) (by omega)).runs Try.func3 Try.results3 (by kernel_rfl) ⟨fun _=>bk0,fun _=>bs0,fun _=>0⟩ W (fun n b hb=>by
    match n,hb with
    | 0,hb=>exact hlies b (by simpa using hb)
    | n+1,hb=>simp at hb) (by simp)
  simp only [List.map_toArray,List.map_cons,List.map_nil,zbq] at L
  rw [hren _ rfl rfl rfl] at L
  exact L
end Go.Proofs.Ytjhmhoapgbfgpaa
