/-
  Contracts, over the abstract machine: tally.
  Conditions: the port and its memory are there; step counts are far from their end.
-/
import Derived.Test.YtkjmaapbeicmkaaUThr54
import Derived.Test.YtkjmaapbeicmkaaUCo22
import Derived.Test.YtkjmaapbeicmkaaUPlay3
import Derived.Below
import Derived.Deep.Slices
set_option maxHeartbeats 40000000
set_option linter.unusedVariables false
set_option linter.unusedSimpArgs false
namespace Go.Proofs.Ytkjmaapbeicmkaa
open Go Go.RowKit
theorem zcY (n:Int):IntKind.u64.wrap n=((UInt64.ofInt n).toNat:Int):=by
  rw [IntKind.wrap_u64];unfold UInt64.ofInt;simp [UInt64.toNat_ofNat'];omega
theorem zsy (n:Int):IntKind.u64.wrap (IntKind.i64.wrap n)=((UInt64.ofInt n).toNat:Int):=by
  rw [<-zcY];simp only [IntKind.wrap_u64,IntKind.wrap_i64];omega
def tAdd (N T:Nat) (l:List (Int × UInt64)) (ws:List UInt64):List UInt64:=l.foldl (fun ws x=>wS 4 (gat N T 2 x.1) x.2 0 ws) ws
def zjt (cs:List Value):Blk:={ cells:=cs,elem:=75,ro:=true,grow:=none }
theorem zrs (S:St) (p m me:Nat) (steps:Nat) (ws:List UInt64) (bs:List UInt8) (N T:Nat) (k1 n1:Int) (hp:S[p]?=some (.port m me steps)) (hm:S[m]?=some (.mem ws bs)) (hs:steps<=100000000000) (hN:N<=256) (hT:T<=64) :
    DoesX OF 32 #[prtV p,.agg (geoC N T),.slice (some ⟨0,0,none⟩) 1 1] [zjt [.int .i64 k1,.int .i64 n1]] S (.tuple #[]) [zjt [.int .i64 k1,.int .i64 n1]] [] (accS S p m me (steps+1) (tAdd N T [(k1,UInt64.ofInt n1)] ws) bs):=by
  refine DoesX.mk Try.func32 rfl rfl ?clo ?rows ?_
  case clo=>exact clo3 (pclo (zgf hp)) gclo (zro (by simp))
  case rows=>exact zil (by simp [zjt,zab])
  rw [Try.ntmps32];simp only [zSt,zLc,zLn,List.replicate,zCa,zNa];simp only [zjt,zMp,zMn];refine viaL ?_;((first|refine qp1 rfl rfl fun K hK=>?_|refine qp3 rfl rfl fun K hK=>?_);simp (disch:=(first|omega|(simp only [sz]<;>omega)|fail)) only [go_sem];(first|refine⟨_,_,(qpd fun w=>zak N T k1 w hN hT),?_⟩|refine⟨_,_,(qpu fun w=>zak N T k1 w hN hT),?_⟩|refine⟨_,_,.com (qpd fun w=>zak N T k1 w hN hT),?_⟩|refine⟨_,_,.com (qpu fun w=>zak N T k1 w hN hT),?_⟩);(try simp only [go_sem]);with_reducible refine hK _ _ ?_;clear hK K)
  repeat (first|refine Goes.loop ?_|refine Goes.inLoop ?_|refine Goes.reg ?_|refine Goes.ctl2 rfl ?_|((first|refine qv1 rfl rfl rfl fun K hK=>?_|refine qv3 rfl rfl rfl fun K hK=>?_|refine qv2 rfl rfl rfl rfl rfl rfl fun K hK=>?_|refine qv4 rfl rfl rfl rfl rfl rfl fun K hK=>?_|refine qn1 rfl rfl rfl fun K hK=>?_|refine qn3 rfl rfl rfl fun K hK=>?_|refine qt1 rfl rfl rfl fun K hK=>?_|refine qt3 rfl rfl rfl fun K hK=>?_);simp (disch:=(first|omega|(simp only [sz]<;>omega)|fail)) only [go_sem,zcY];with_reducible refine hK _ _ ?_;clear hK K)|refine At.nil rfl ?_|refine RG.nil rfl ?_|((first|refine AtL.skipg rfl rfl rfl rfl rfl ?_|refine RGL.skipg rfl rfl rfl rfl rfl ?_|refine AtL.skipu rfl rfl rfl rfl ?_|refine RGL.skipu rfl rfl rfl rfl ?_);simp only [putL,List.set_cons_zero,List.set_cons_succ])|refine Goes.yes rfl ?_|refine Goes.no rfl ?_|refine Goes.drawR [] (by kernel_rfl) ?_)
  ((first|refine qp1 rfl rfl fun K hK=>?_|refine qp3 rfl rfl fun K hK=>?_);simp (disch:=(first|omega|(simp only [sz]<;>omega)|fail)) only [go_sem];(first|refine⟨_,_,.add _ (UInt64.ofInt n1) hp hm (by omega),?_⟩|refine⟨_,_,.com (.add _ (UInt64.ofInt n1) hp hm (by omega)),?_⟩);(try simp only [go_sem]);with_reducible refine hK _ _ ?_;clear hK K)
  refine viaL ?_;refine Goes.finS rfl (by simp (disch:=(first|omega|(simp only [zaa,zLc,zLn,zSt,zad]<;>omega)|fail)) only [go_sem,resA,zaB,Try.results32]<;>rfl) ?_ rfl ?_
  . rfl
  . exact Clo.plain (by simp [zab])
theorem zrr (S:St) (p m me:Nat) (steps:Nat) (ws:List UInt64) (bs:List UInt8) (N T:Nat) (k1 n1 k2 n2 k3 n3:Int) (hp:S[p]?=some (.port m me steps)) (hm:S[m]?=some (.mem ws bs)) (hs:steps<=100000000000) (hN:N<=256) (hT:T<=64) :
    DoesX OF 32 #[prtV p,.agg (geoC N T),.slice (some ⟨0,0,none⟩) 3 3] [zjt [.int .i64 k1,.int .i64 n1,.int .i64 k2,.int .i64 n2,.int .i64 k3,.int .i64 n3]] S (.tuple #[]) [zjt [.int .i64 k1,.int .i64 n1,.int .i64 k2,.int .i64 n2,.int .i64 k3,.int .i64 n3]] []
      (accS S p m me (steps+3) (tAdd N T [(k1,UInt64.ofInt n1),(k2,UInt64.ofInt n2),(k3,UInt64.ofInt n3)] ws) bs):=by
  have hne:=zln hp hm;refine DoesX.mk Try.func32 rfl rfl ?clo ?rows ?_
  case clo=>exact clo3 (pclo (zgf hp)) gclo (zro (by simp))
  case rows=>exact zil (by simp [zjt,zab])
  rw [Try.ntmps32];simp only [zSt,zLc,zLn,List.replicate,zCa,zNa];simp only [zjt,zMp,zMn];refine viaL ?_;((first|refine qp1 rfl rfl fun K hK=>?_|refine qp3 rfl rfl fun K hK=>?_);simp (disch:=(first|omega|(simp only [sz]<;>omega)|fail)) only [go_sem];(first|refine⟨_,_,(qpd fun w=>zak N T k1 w hN hT),?_⟩|refine⟨_,_,(qpu fun w=>zak N T k1 w hN hT),?_⟩|refine⟨_,_,.com (qpd fun w=>zak N T k1 w hN hT),?_⟩|refine⟨_,_,.com (qpu fun w=>zak N T k1 w hN hT),?_⟩);(try simp only [go_sem]);with_reducible refine hK _ _ ?_;clear hK K)
  repeat (first|refine Goes.loop ?_|refine Goes.inLoop ?_|refine Goes.reg ?_|refine Goes.ctl2 rfl ?_|((first|refine qv1 rfl rfl rfl fun K hK=>?_|refine qv3 rfl rfl rfl fun K hK=>?_|refine qv2 rfl rfl rfl rfl rfl rfl fun K hK=>?_|refine qv4 rfl rfl rfl rfl rfl rfl fun K hK=>?_|refine qn1 rfl rfl rfl fun K hK=>?_|refine qn3 rfl rfl rfl fun K hK=>?_|refine qt1 rfl rfl rfl fun K hK=>?_|refine qt3 rfl rfl rfl fun K hK=>?_);simp (disch:=(first|omega|(simp only [sz]<;>omega)|fail)) only [go_sem,zcY];with_reducible refine hK _ _ ?_;clear hK K)|refine At.nil rfl ?_|refine RG.nil rfl ?_|((first|refine AtL.skipg rfl rfl rfl rfl rfl ?_|refine RGL.skipg rfl rfl rfl rfl rfl ?_|refine AtL.skipu rfl rfl rfl rfl ?_|refine RGL.skipu rfl rfl rfl rfl ?_);simp only [putL,List.set_cons_zero,List.set_cons_succ])|refine Goes.yes rfl ?_|refine Goes.no rfl ?_|refine Goes.drawR [] (by kernel_rfl) ?_)
  ((first|refine qp1 rfl rfl fun K hK=>?_|refine qp3 rfl rfl fun K hK=>?_);simp (disch:=(first|omega|(simp only [sz]<;>omega)|fail)) only [go_sem];(first|refine⟨_,_,.add _ (UInt64.ofInt n1) hp hm (by omega),?_⟩|refine⟨_,_,.com (.add _ (UInt64.ofInt n1) hp hm (by omega)),?_⟩);(try simp only [go_sem]);with_reducible refine hK _ _ ?_;clear hK K)
  refine viaL ?_;((first|refine qp1 rfl rfl fun K hK=>?_|refine qp3 rfl rfl fun K hK=>?_);simp (disch:=(first|omega|(simp only [sz]<;>omega)|fail)) only [go_sem];(first|refine⟨_,_,(qpd fun w=>zak N T k2 w hN hT),?_⟩|refine⟨_,_,(qpu fun w=>zak N T k2 w hN hT),?_⟩|refine⟨_,_,.com (qpd fun w=>zak N T k2 w hN hT),?_⟩|refine⟨_,_,.com (qpu fun w=>zak N T k2 w hN hT),?_⟩);(try simp only [go_sem]);with_reducible refine hK _ _ ?_;clear hK K)
  repeat (first|refine Goes.loop ?_|refine Goes.inLoop ?_|refine Goes.reg ?_|refine Goes.ctl2 rfl ?_|((first|refine qv1 rfl rfl rfl fun K hK=>?_|refine qv3 rfl rfl rfl fun K hK=>?_|refine qv2 rfl rfl rfl rfl rfl rfl fun K hK=>?_|refine qv4 rfl rfl rfl rfl rfl rfl fun K hK=>?_|refine qn1 rfl rfl rfl fun K hK=>?_|refine qn3 rfl rfl rfl fun K hK=>?_|refine qt1 rfl rfl rfl fun K hK=>?_|refine qt3 rfl rfl rfl fun K hK=>?_);simp (disch:=(first|omega|(simp only [sz]<;>omega)|fail)) only [go_sem,zcY];with_reducible refine hK _ _ ?_;clear hK K)|refine At.nil rfl ?_|refine RG.nil rfl ?_|((first|refine AtL.skipg rfl rfl rfl rfl rfl ?_|refine RGL.skipg rfl rfl rfl rfl rfl ?_|refine AtL.skipu rfl rfl rfl rfl ?_|refine RGL.skipu rfl rfl rfl rfl ?_);simp only [putL,List.set_cons_zero,List.set_cons_succ])|refine Goes.yes rfl ?_|refine Goes.no rfl ?_|refine Goes.drawR [] (by kernel_rfl) ?_)
  ((first|refine qp1 rfl rfl fun K hK=>?_|refine qp3 rfl rfl fun K hK=>?_);simp (disch:=(first|omega|(simp only [sz]<;>omega)|fail)) only [go_sem];(first|refine⟨_,_,.add _ (UInt64.ofInt n2) (zgk hp hm) (zgo hp hm) (by omega),?_⟩|refine⟨_,_,.com (.add _ (UInt64.ofInt n2) (zgk hp hm) (zgo hp hm) (by omega)),?_⟩);(try simp only [go_sem]);with_reducible refine hK _ _ ?_;clear hK K)
  rw [zfY hne];refine viaL ?_;((first|refine qp1 rfl rfl fun K hK=>?_|refine qp3 rfl rfl fun K hK=>?_);simp (disch:=(first|omega|(simp only [sz]<;>omega)|fail)) only [go_sem];(first|refine⟨_,_,(qpd fun w=>zak N T k3 w hN hT),?_⟩|refine⟨_,_,(qpu fun w=>zak N T k3 w hN hT),?_⟩|refine⟨_,_,.com (qpd fun w=>zak N T k3 w hN hT),?_⟩|refine⟨_,_,.com (qpu fun w=>zak N T k3 w hN hT),?_⟩);(try simp only [go_sem]);with_reducible refine hK _ _ ?_;clear hK K)
  repeat (first|refine Goes.loop ?_|refine Goes.inLoop ?_|refine Goes.reg ?_|refine Goes.ctl2 rfl ?_|((first|refine qv1 rfl rfl rfl fun K hK=>?_|refine qv3 rfl rfl rfl fun K hK=>?_|refine qv2 rfl rfl rfl rfl rfl rfl fun K hK=>?_|refine qv4 rfl rfl rfl rfl rfl rfl fun K hK=>?_|refine qn1 rfl rfl rfl fun K hK=>?_|refine qn3 rfl rfl rfl fun K hK=>?_|refine qt1 rfl rfl rfl fun K hK=>?_|refine qt3 rfl rfl rfl fun K hK=>?_);simp (disch:=(first|omega|(simp only [sz]<;>omega)|fail)) only [go_sem,zcY];with_reducible refine hK _ _ ?_;clear hK K)|refine At.nil rfl ?_|refine RG.nil rfl ?_|((first|refine AtL.skipg rfl rfl rfl rfl rfl ?_|refine RGL.skipg rfl rfl rfl rfl rfl ?_|refine AtL.skipu rfl rfl rfl rfl ?_|refine RGL.skipu rfl rfl rfl rfl ?_);simp only [putL,List.set_cons_zero,List.set_cons_succ])|refine Goes.yes rfl ?_|refine Goes.no rfl ?_|refine Goes.drawR [] (by kernel_rfl) ?_)
  ((first|refine qp1 rfl rfl fun K hK=>?_|refine qp3 rfl rfl fun K hK=>?_);simp (disch:=(first|omega|(simp only [sz]<;>omega)|fail)) only [go_sem];(first|refine⟨_,_,.add _ (UInt64.ofInt n3) (zgk hp hm) (zgo hp hm) (by omega),?_⟩|refine⟨_,_,.com (.add _ (UInt64.ofInt n3) (zgk hp hm) (zgo hp hm) (by omega)),?_⟩);(try simp only [go_sem]);with_reducible refine hK _ _ ?_;clear hK K)
  rw [zfY hne];refine viaL ?_;refine Goes.finS rfl (by simp (disch:=(first|omega|(simp only [zaa,zLc,zLn,zSt,zad]<;>omega)|fail)) only [go_sem,resA,zaB,Try.results32]<;>rfl) ?_ rfl ?_
  . rfl
  . exact Clo.plain (by simp [zab])
theorem zeF (n:Int):UInt64.ofInt (IntKind.i64.wrap n)=UInt64.ofInt n:=by
  apply UInt64.toNat_inj.1;have h1:=zcY n;have h2:=zsy n;rw [<-zcY] at h2;have h3:=zcY (IntKind.i64.wrap n);omega
theorem zc4 (S:St) (p m me:Nat) (steps:Nat) (ws:List UInt64) (bs:List UInt8) (N T:Nat) (A:Int) (hp:S[p]?=some (.port m me steps)) (hm:S[m]?=some (.mem ws bs)) (hs:steps<=100000000000) (hN:N<=256) (hT:T<=64) :
    Does OF 16 #[prtV p,.agg (geoC N T),.int .i64 A] [] S (.tuple #[]) (accS S p m me (steps+3) (tAdd N T [(0,1),(3,1),(4,UInt64.ofInt A)] ws) bs):=by
  refine Does.mk Try.func16 rfl rfl ?clo ?hand ?_
  case clo=>exact clo3 (pclo (zgf hp)) gclo iclo
  case hand=>exact Hand.plain (by simp [zab])
  rw [Try.ntmps16];simp only [zSt,zLc,zLn,List.replicate,zCa,zNa];refine via ?_;((first|refine At.callX [1] rfl rfl rfl (by decide) rfl (fun K hK=>?_)|refine RG.callX [1] rfl rfl rfl rfl (by decide) (fun K hK=>?_));simp (disch:=(first|omega|(simp only [zaa,zLc,zLn,zSt,zad]<;>omega)|fail)) only [go_sem];refine⟨_,_,_,_,_,_,zrr S p m me steps ws bs N T 0 1 3 1 4 A hp hm hs hN hT,by first|rfl|simp (disch:=(first|omega|(simp only [zaa,zLc,zLn,zSt,zad]<;>omega)|fail)) only [go_sem],by ((repeat (refine⟨⟨_,rfl,rfl,?_,(by first|exact .inr rfl|exact .inl rfl),(by first|exact fun h=>h|exact fun _=>rfl|(intro h;cases h))⟩,?_⟩;· first|exact zan zam|(simp [zbH];done)|exact zan (by simp [zab];done)|simp [up_0,up_1,up_2,zcX,zay,zas,adr]));exact trivial),by first|exact⟨rfl,rfl⟩|rfl,?_⟩;(try simp only [go_sem]);(first|refine hK _ _ _ ?_|refine hK _ _ _ _ ?_);clear hK K)
  refine via ?_;refine Goes.fin rfl (by simp (disch:=(first|omega|(simp only [zaa,zLc,zLn,zSt,zad]<;>omega)|fail)) only [go_sem,resA,zaB,Try.results16]<;>rfl) ?_
  rfl
theorem zlC (S:St) (p m me:Nat) (steps:Nat) (ws:List UInt64) (bs:List UInt8) (N T:Nat) (A:Int) (hp:S[p]?=some (.port m me steps)) (hm:S[m]?=some (.mem ws bs)) (hs:steps<=100000000000) (hN:N<=256) (hT:T<=64) :
    Does OF 17 #[prtV p,.agg (geoC N T),.int .i64 A] [] S (.tuple #[]) (accS S p m me (steps+3) (tAdd N T [(1,1),(3,UInt64.ofInt (-1)),(4,UInt64.ofInt (0 - A))] ws) bs):=by
  rw [<-zeF (0 - A)];refine Does.mk Try.func17 rfl rfl ?clo ?hand ?_
  case clo=>exact clo3 (pclo (zgf hp)) gclo iclo
  case hand=>exact Hand.plain (by simp [zab])
  rw [Try.ntmps17];simp only [zSt,zLc,zLn,List.replicate,zCa,zNa];refine via ?_;((first|refine At.callX [1] rfl rfl rfl (by decide) rfl (fun K hK=>?_)|refine RG.callX [1] rfl rfl rfl rfl (by decide) (fun K hK=>?_));simp (disch:=(first|omega|(simp only [zaa,zLc,zLn,zSt,zad]<;>omega)|fail)) only [go_sem];refine⟨_,_,_,_,_,_,zrr S p m me steps ws bs N T 1 1 3 (-1) 4 (IntKind.i64.wrap (0 - A)) hp hm hs hN hT,by first|rfl|simp (disch:=(first|omega|(simp only [zaa,zLc,zLn,zSt,zad]<;>omega)|fail)) only [go_sem],by ((repeat (refine⟨⟨_,rfl,rfl,?_,(by first|exact .inr rfl|exact .inl rfl),(by first|exact fun h=>h|exact fun _=>rfl|(intro h;cases h))⟩,?_⟩;· first|exact zan zam|(simp [zbH];done)|exact zan (by simp [zab];done)|simp [up_0,up_1,up_2,zcX,zay,zas,adr]));exact trivial),by first|exact⟨rfl,rfl⟩|rfl,?_⟩;(try simp only [go_sem]);(first|refine hK _ _ _ ?_|refine hK _ _ _ _ ?_);clear hK K)
  refine via ?_;refine Goes.fin rfl (by simp (disch:=(first|omega|(simp only [zaa,zLc,zLn,zSt,zad]<;>omega)|fail)) only [go_sem,resA,zaB,Try.results17]<;>rfl) ?_
  rfl
theorem ziF (S:St) (p m me:Nat) (steps:Nat) (ws:List UInt64) (bs:List UInt8) (N T:Nat) (hp:S[p]?=some (.port m me steps)) (hm:S[m]?=some (.mem ws bs)) (hs:steps<=100000000000) (hN:N<=256) (hT:T<=64) :
    Does OF 18 #[prtV p,.agg (geoC N T)] [] S (.tuple #[]) (accS S p m me (steps+1) (tAdd N T [(2,1)] ws) bs):=by
  refine Does.mk Try.func18 rfl rfl ?clo ?hand ?_
  case clo=>exact clo2 (pclo (zgf hp)) gclo
  case hand=>exact Hand.plain (by simp [zab])
  rw [Try.ntmps18];simp only [zSt,zLc,zLn,List.replicate,zCa,zNa];refine via ?_;((first|refine At.callX [1] rfl rfl rfl (by decide) rfl (fun K hK=>?_)|refine RG.callX [1] rfl rfl rfl rfl (by decide) (fun K hK=>?_));simp (disch:=(first|omega|(simp only [zaa,zLc,zLn,zSt,zad]<;>omega)|fail)) only [go_sem];refine⟨_,_,_,_,_,_,zrs S p m me steps ws bs N T 2 1 hp hm hs hN hT,by first|rfl|simp (disch:=(first|omega|(simp only [zaa,zLc,zLn,zSt,zad]<;>omega)|fail)) only [go_sem],by ((repeat (refine⟨⟨_,rfl,rfl,?_,(by first|exact .inr rfl|exact .inl rfl),(by first|exact fun h=>h|exact fun _=>rfl|(intro h;cases h))⟩,?_⟩;· first|exact zan zam|(simp [zbH];done)|exact zan (by simp [zab];done)|simp [up_0,up_1,up_2,zcX,zay,zas,adr]));exact trivial),by first|exact⟨rfl,rfl⟩|rfl,?_⟩;(try simp only [go_sem]);(first|refine hK _ _ _ ?_|refine hK _ _ _ _ ?_);clear hK K)
  refine via ?_;refine Goes.fin rfl (by simp (disch:=(first|omega|(simp only [zaa,zLc,zLn,zSt,zad]<;>omega)|fail)) only [go_sem,resA,zaB,Try.results18]<;>rfl) ?_
  rfl
theorem zgs (S:St) (p m me:Nat) (steps:Nat) (ws:List UInt64) (bs:List UInt8) (N T:Nat) (A B:Int) (hp:S[p]?=some (.port m me steps)) (hm:S[m]?=some (.mem ws bs)) (hs:steps<=100000000000) (hN:N<=256) (hT:T<=64) :
    Does OF 19 #[prtV p,.agg (geoC N T),.int .i64 A,.int .i64 B] [] S (.tuple #[]) (accS S p m me (steps+1) (tAdd N T [(4,UInt64.ofInt (B - A))] ws) bs):=by
  rw [<-zeF (B - A)];refine Does.mk Try.func19 rfl rfl ?clo ?hand ?_
  case clo=>exact clo4 (pclo (zgf hp)) gclo iclo iclo
  case hand=>exact Hand.plain (by simp [zab])
  rw [Try.ntmps19];simp only [zSt,zLc,zLn,List.replicate,zCa,zNa];refine via ?_;((first|refine At.callX [1] rfl rfl rfl (by decide) rfl (fun K hK=>?_)|refine RG.callX [1] rfl rfl rfl rfl (by decide) (fun K hK=>?_));simp (disch:=(first|omega|(simp only [zaa,zLc,zLn,zSt,zad]<;>omega)|fail)) only [go_sem];refine⟨_,_,_,_,_,_,zrs S p m me steps ws bs N T 4 (IntKind.i64.wrap (B - A)) hp hm hs hN hT,by first|rfl|simp (disch:=(first|omega|(simp only [zaa,zLc,zLn,zSt,zad]<;>omega)|fail)) only [go_sem],by ((repeat (refine⟨⟨_,rfl,rfl,?_,(by first|exact .inr rfl|exact .inl rfl),(by first|exact fun h=>h|exact fun _=>rfl|(intro h;cases h))⟩,?_⟩;· first|exact zan zam|(simp [zbH];done)|exact zan (by simp [zab];done)|simp [up_0,up_1,up_2,zcX,zay,zas,adr]));exact trivial),by first|exact⟨rfl,rfl⟩|rfl,?_⟩;(try simp only [go_sem]);(first|refine hK _ _ _ ?_|refine hK _ _ _ _ ?_);clear hK K)
  refine via ?_;refine Goes.fin rfl (by simp (disch:=(first|omega|(simp only [zaa,zLc,zLn,zSt,zad]<;>omega)|fail)) only [go_sem,resA,zaB,Try.results19]<;>rfl) ?_
  rfl
def zel (N T:Nat) (k:Int) (ws:List UInt64):UInt64:=wT 1 (gat N T 2 k) 0 ws
def zfd (N T:Nat) (ws:List UInt64):Value:=.agg #[.int .u64 ((zel N T 0 ws).toNat:Int),.int .u64 ((zel N T 1 ws).toNat:Int),.int .u64 ((zel N T 2 ws).toNat:Int),.int .u64 ((zel N T 3 ws).toNat:Int),.int .u64 ((zel N T 4 ws).toNat:Int)]
theorem zmx (S:St) (p m me:Nat) (steps:Nat) (ws:List UInt64) (bs:List UInt8) (N T:Nat) (hp:S[p]?=some (.port m me steps)) (hm:S[m]?=some (.mem ws bs)) (hs:steps<=100000000000) (hN:N<=256) (hT:T<=64) :
    Does OF 11 #[prtV p,.agg (geoC N T)] [] S (zfd N T ws) (accS S p m me (steps+5) ws bs):=by
  have hne:=zln hp hm;refine Does.mk Try.func11 rfl rfl ?clo ?hand ?_
  case clo=>exact clo2 (pclo (zgf hp)) gclo
  case hand=>exact Hand.plain (by simp [zab,zfd])
  rw [Try.ntmps11];simp only [zSt,zLc,zLn,List.replicate,zCa,zNa];refine viaL ?_;((first|refine qp1 rfl rfl fun K hK=>?_|refine qp3 rfl rfl fun K hK=>?_);simp (disch:=(first|omega|(simp only [sz]<;>omega)|fail)) only [go_sem];(first|refine⟨_,_,(qpd fun w=>zak N T 0 w hN hT),?_⟩|refine⟨_,_,(qpu fun w=>zak N T 0 w hN hT),?_⟩|refine⟨_,_,.com (qpd fun w=>zak N T 0 w hN hT),?_⟩|refine⟨_,_,.com (qpu fun w=>zak N T 0 w hN hT),?_⟩);(try simp only [go_sem]);with_reducible refine hK _ _ ?_;clear hK K)
  refine viaL ?_;((first|refine qp1 rfl rfl fun K hK=>?_|refine qp3 rfl rfl fun K hK=>?_);simp (disch:=(first|omega|(simp only [sz]<;>omega)|fail)) only [go_sem];(first|refine⟨_,_,.load _ hp hm (by omega),?_⟩|refine⟨_,_,.com (.load _ hp hm (by omega)),?_⟩);(try simp only [go_sem]);with_reducible refine hK _ _ ?_;clear hK K)
  rw [zei];refine viaL ?_;((first|refine qp1 rfl rfl fun K hK=>?_|refine qp3 rfl rfl fun K hK=>?_);simp (disch:=(first|omega|(simp only [sz]<;>omega)|fail)) only [go_sem];(first|refine⟨_,_,(qpd fun w=>zak N T 1 w hN hT),?_⟩|refine⟨_,_,(qpu fun w=>zak N T 1 w hN hT),?_⟩|refine⟨_,_,.com (qpd fun w=>zak N T 1 w hN hT),?_⟩|refine⟨_,_,.com (qpu fun w=>zak N T 1 w hN hT),?_⟩);(try simp only [go_sem]);with_reducible refine hK _ _ ?_;clear hK K)
  refine viaL ?_;((first|refine qp1 rfl rfl fun K hK=>?_|refine qp3 rfl rfl fun K hK=>?_);simp (disch:=(first|omega|(simp only [sz]<;>omega)|fail)) only [go_sem];(first|refine⟨_,_,.load _ (zgk hp hm) (zgo hp hm) (by omega),?_⟩|refine⟨_,_,.com (.load _ (zgk hp hm) (zgo hp hm) (by omega)),?_⟩);(try simp only [go_sem]);with_reducible refine hK _ _ ?_;clear hK K)
  rw [zei,zfY hne];refine viaL ?_;((first|refine qp1 rfl rfl fun K hK=>?_|refine qp3 rfl rfl fun K hK=>?_);simp (disch:=(first|omega|(simp only [sz]<;>omega)|fail)) only [go_sem];(first|refine⟨_,_,(qpd fun w=>zak N T 2 w hN hT),?_⟩|refine⟨_,_,(qpu fun w=>zak N T 2 w hN hT),?_⟩|refine⟨_,_,.com (qpd fun w=>zak N T 2 w hN hT),?_⟩|refine⟨_,_,.com (qpu fun w=>zak N T 2 w hN hT),?_⟩);(try simp only [go_sem]);with_reducible refine hK _ _ ?_;clear hK K)
  refine viaL ?_;((first|refine qp1 rfl rfl fun K hK=>?_|refine qp3 rfl rfl fun K hK=>?_);simp (disch:=(first|omega|(simp only [sz]<;>omega)|fail)) only [go_sem];(first|refine⟨_,_,.load _ (zgk hp hm) (zgo hp hm) (by omega),?_⟩|refine⟨_,_,.com (.load _ (zgk hp hm) (zgo hp hm) (by omega)),?_⟩);(try simp only [go_sem]);with_reducible refine hK _ _ ?_;clear hK K)
  rw [zei,zfY hne];refine viaL ?_;((first|refine qp1 rfl rfl fun K hK=>?_|refine qp3 rfl rfl fun K hK=>?_);simp (disch:=(first|omega|(simp only [sz]<;>omega)|fail)) only [go_sem];(first|refine⟨_,_,(qpd fun w=>zak N T 3 w hN hT),?_⟩|refine⟨_,_,(qpu fun w=>zak N T 3 w hN hT),?_⟩|refine⟨_,_,.com (qpd fun w=>zak N T 3 w hN hT),?_⟩|refine⟨_,_,.com (qpu fun w=>zak N T 3 w hN hT),?_⟩);(try simp only [go_sem]);with_reducible refine hK _ _ ?_;clear hK K)
  refine viaL ?_;((first|refine qp1 rfl rfl fun K hK=>?_|refine qp3 rfl rfl fun K hK=>?_);simp (disch:=(first|omega|(simp only [sz]<;>omega)|fail)) only [go_sem];(first|refine⟨_,_,.load _ (zgk hp hm) (zgo hp hm) (by omega),?_⟩|refine⟨_,_,.com (.load _ (zgk hp hm) (zgo hp hm) (by omega)),?_⟩);(try simp only [go_sem]);with_reducible refine hK _ _ ?_;clear hK K)
  rw [zei,zfY hne];refine viaL ?_;((first|refine qp1 rfl rfl fun K hK=>?_|refine qp3 rfl rfl fun K hK=>?_);simp (disch:=(first|omega|(simp only [sz]<;>omega)|fail)) only [go_sem];(first|refine⟨_,_,(qpd fun w=>zak N T 4 w hN hT),?_⟩|refine⟨_,_,(qpu fun w=>zak N T 4 w hN hT),?_⟩|refine⟨_,_,.com (qpd fun w=>zak N T 4 w hN hT),?_⟩|refine⟨_,_,.com (qpu fun w=>zak N T 4 w hN hT),?_⟩);(try simp only [go_sem]);with_reducible refine hK _ _ ?_;clear hK K)
  refine viaL ?_;((first|refine qp1 rfl rfl fun K hK=>?_|refine qp3 rfl rfl fun K hK=>?_);simp (disch:=(first|omega|(simp only [sz]<;>omega)|fail)) only [go_sem];(first|refine⟨_,_,.load _ (zgk hp hm) (zgo hp hm) (by omega),?_⟩|refine⟨_,_,.com (.load _ (zgk hp hm) (zgo hp hm) (by omega)),?_⟩);(try simp only [go_sem]);with_reducible refine hK _ _ ?_;clear hK K)
  rw [zei,zfY hne];refine viaL ?_;refine Goes.fin rfl (by simp (disch:=(first|omega|(simp only [zaa,zLc,zLn,zSt,zad]<;>omega)|fail)) only [go_sem,resA,zaB,Try.results11]<;>rfl) ?_
  rfl
theorem zuB {a b:Ob} {me:Int} {s:Nat} {ws:List UInt64} {bs:List UInt8}:accS [a,b] 1 0 me s ws bs=[.mem ws bs,.port 0 me s]:=rfl
attribute [go_sem] zuB
theorem zgn {S:St} {a b:Ob}:(S++[a,b])[S.length]?=some a:=by simp
theorem zeO {S:St} {a b:Ob}:(S++[a,b])[S.length+1]?=some b:=by simp
theorem zsn {S:St} {a b:Ob}:(S++[a])++[b]=S++[a,b]:=by simp
theorem zsg {S:St} {a:Ob}:(S++[a]).length=S.length+1:=by simp
theorem ztR {S:St} {a:Ob}:(S++[a])[S.length]?=some a:=by simp
theorem zfU {S:St} {a b:Ob} {me:Int} {s:Nat} {ws:List UInt64} {bs:List UInt8}:accS (S++[a,b]) (S.length+1) S.length me s ws bs=S++[.mem ws bs,.port S.length me s]:=by
  unfold accS;apply List.ext_getElem?;intro j;rw [List.getElem?_set,List.getElem?_set];by_cases h1:S.length=j
  . subst h1;simp
  . rw [if_neg h1];by_cases h2:S.length+1=j
    . subst h2;simp
    . rw [if_neg h2];by_cases h3:j<S.length
      . rw [List.getElem?_append_left h3,List.getElem?_append_left h3]
      . rw [List.getElem?_eq_none (by simp;omega),List.getElem?_eq_none (by simp;omega)]
def zku:List UInt64:=tAdd 1 1 [(4,UInt64.ofInt (24 - 8))] (tAdd 1 1 [(2,1)] (tAdd 1 1 [(1,1),(3,UInt64.ofInt (-1)),(4,UInt64.ofInt (0 - 20))] (tAdd 1 1 [(0,1),(3,1),(4,UInt64.ofInt 8)] (tAdd 1 1 [(0,1),(3,1),(4,UInt64.ofInt 20)] (List.replicate (gb 1 1 19) 0)))))
theorem zsc:((zel 1 1 0 zku).toNat:Int)=2:=by kernel_rfl
theorem zr4:((zel 1 1 1 zku).toNat:Int)=1:=by kernel_rfl
theorem zsa:((zel 1 1 2 zku).toNat:Int)=1:=by kernel_rfl
theorem zrZ:((zel 1 1 3 zku).toNat:Int)=1:=by kernel_rfl
theorem zrI:((zel 1 1 4 zku).toNat:Int)=24:=by kernel_rfl
theorem zsE (S:St):Does OF 5 #[] [] S (.bool true) (S++[.mem zku (List.replicate (64 * 1) 0),.port S.length 0 16]):=by
  refine Does.mk Try.func5 rfl rfl ?clo ?hand ?_
  case clo=>exact clo0
  case hand=>exact Hand.plain rfl
  rw [Try.ntmps5];simp only [zSt,zLc,zLn,List.replicate,zCa,zNa];refine via ?_;((first|refine qc1 rfl rfl fun K hK=>?_|refine qc3 rfl rfl fun K hK=>?_);simp (disch:=(first|omega|(simp only [sz]<;>omega)|fail)) only [go_sem];(first|refine⟨_,_,zc3 S 1 1 (by decide) (by decide) (by decide) (by decide) (by decide),?_⟩|refine⟨_,_,Does.com (zc3 S 1 1 (by decide) (by decide) (by decide) (by decide) (by decide)),?_⟩);(try simp only [go_sem]);with_reducible refine hK _ _ ?_;clear hK K)
  refine via ?_;((first|refine qp1 rfl rfl fun K hK=>?_|refine qp3 rfl rfl fun K hK=>?_);simp (disch:=(first|omega|(simp only [sz]<;>omega)|fail)) only [go_sem];(first|refine⟨_,_,.pnew ztR,?_⟩|refine⟨_,_,.com (.pnew ztR),?_⟩);(try simp only [go_sem]);with_reducible refine hK _ _ ?_;clear hK K)
  rw [zsg,zsn];refine via ?_;((first|refine qc1 rfl rfl fun K hK=>?_|refine qc3 rfl rfl fun K hK=>?_);simp (disch:=(first|omega|(simp only [sz]<;>omega)|fail)) only [go_sem];(first|refine⟨_,_,zc4 _ _ _ 0 _ _ _ 1 1 20 zeO zgn (by decide) (by decide) (by decide),?_⟩|refine⟨_,_,Does.com (zc4 _ _ _ 0 _ _ _ 1 1 20 zeO zgn (by decide) (by decide) (by decide)),?_⟩);(try simp only [go_sem]);with_reducible refine hK _ _ ?_;clear hK K)
  rw [zfU];refine via ?_;((first|refine qc1 rfl rfl fun K hK=>?_|refine qc3 rfl rfl fun K hK=>?_);simp (disch:=(first|omega|(simp only [sz]<;>omega)|fail)) only [go_sem];(first|refine⟨_,_,zc4 _ _ _ 0 _ _ _ 1 1 8 zeO zgn (by decide) (by decide) (by decide),?_⟩|refine⟨_,_,Does.com (zc4 _ _ _ 0 _ _ _ 1 1 8 zeO zgn (by decide) (by decide) (by decide)),?_⟩);(try simp only [go_sem]);with_reducible refine hK _ _ ?_;clear hK K)
  rw [zfU];refine via ?_;((first|refine qc1 rfl rfl fun K hK=>?_|refine qc3 rfl rfl fun K hK=>?_);simp (disch:=(first|omega|(simp only [sz]<;>omega)|fail)) only [go_sem];(first|refine⟨_,_,zlC _ _ _ 0 _ _ _ 1 1 20 zeO zgn (by decide) (by decide) (by decide),?_⟩|refine⟨_,_,Does.com (zlC _ _ _ 0 _ _ _ 1 1 20 zeO zgn (by decide) (by decide) (by decide)),?_⟩);(try simp only [go_sem]);with_reducible refine hK _ _ ?_;clear hK K)
  rw [zfU];refine via ?_;((first|refine qc1 rfl rfl fun K hK=>?_|refine qc3 rfl rfl fun K hK=>?_);simp (disch:=(first|omega|(simp only [sz]<;>omega)|fail)) only [go_sem];(first|refine⟨_,_,ziF _ _ _ 0 _ _ _ 1 1 zeO zgn (by decide) (by decide) (by decide),?_⟩|refine⟨_,_,Does.com (ziF _ _ _ 0 _ _ _ 1 1 zeO zgn (by decide) (by decide) (by decide)),?_⟩);(try simp only [go_sem]);with_reducible refine hK _ _ ?_;clear hK K)
  rw [zfU];refine via ?_;((first|refine qc1 rfl rfl fun K hK=>?_|refine qc3 rfl rfl fun K hK=>?_);simp (disch:=(first|omega|(simp only [sz]<;>omega)|fail)) only [go_sem];(first|refine⟨_,_,zgs _ _ _ 0 _ _ _ 1 1 8 24 zeO zgn (by decide) (by decide) (by decide),?_⟩|refine⟨_,_,Does.com (zgs _ _ _ 0 _ _ _ 1 1 8 24 zeO zgn (by decide) (by decide) (by decide)),?_⟩);(try simp only [go_sem]);with_reducible refine hK _ _ ?_;clear hK K)
  rw [zfU];change At OF _ _ _ _ _ _ _ (S++[.mem zku _,_]);refine via ?_;((first|refine qp1 rfl rfl fun K hK=>?_|refine qp3 rfl rfl fun K hK=>?_);simp (disch:=(first|omega|(simp only [sz]<;>omega)|fail)) only [go_sem];(first|refine⟨_,_,.steps zeO,?_⟩|refine⟨_,_,.com (.steps zeO),?_⟩);(try simp only [go_sem]);with_reducible refine hK _ _ ?_;clear hK K)
  refine via ?_;((first|refine qc1 rfl rfl fun K hK=>?_|refine qc3 rfl rfl fun K hK=>?_);simp (disch:=(first|omega|(simp only [sz]<;>omega)|fail)) only [go_sem];(first|refine⟨_,_,zmx _ _ _ 0 _ _ _ 1 1 zeO zgn (by decide) (by decide) (by decide),?_⟩|refine⟨_,_,Does.com (zmx _ _ _ 0 _ _ _ 1 1 zeO zgn (by decide) (by decide) (by decide)),?_⟩);(try simp only [go_sem]);with_reducible refine hK _ _ ?_;clear hK K)
  rw [zfU]
  repeat (first|refine Goes.reg ?_|refine Goes.ctl2 rfl ?_|((first|refine qv1 rfl rfl rfl fun K hK=>?_|refine qv3 rfl rfl rfl fun K hK=>?_|refine qv2 rfl rfl rfl rfl rfl rfl fun K hK=>?_|refine qv4 rfl rfl rfl rfl rfl rfl fun K hK=>?_|refine qn1 rfl rfl rfl fun K hK=>?_|refine qn3 rfl rfl rfl fun K hK=>?_|refine qt1 rfl rfl rfl fun K hK=>?_|refine qt3 rfl rfl rfl fun K hK=>?_);simp (disch:=(first|omega|(simp only [sz]<;>omega)|fail)) only [go_sem,zfd,zsc,zr4,zsa,zrZ,zrI,Bool.and_self];with_reducible refine hK _ _ ?_;clear hK K)|refine At.nil rfl ?_|refine RG.nil rfl ?_|((first|refine AtL.skipg rfl rfl rfl rfl rfl ?_|refine RGL.skipg rfl rfl rfl rfl rfl ?_|refine AtL.skipu rfl rfl rfl rfl ?_|refine RGL.skipu rfl rfl rfl rfl ?_);simp only [putL,List.set_cons_zero,List.set_cons_succ])|refine Goes.yes rfl ?_|refine Goes.no rfl ?_|refine Goes.drawR [] (by kernel_rfl) ?_)
  ((first|refine qp1 rfl rfl fun K hK=>?_|refine qp3 rfl rfl fun K hK=>?_);simp (disch:=(first|omega|(simp only [sz]<;>omega)|fail)) only [go_sem];(first|refine⟨_,_,.steps zeO,?_⟩|refine⟨_,_,.com (.steps zeO),?_⟩);(try simp only [go_sem]);with_reducible refine hK _ _ ?_;clear hK K)
  refine via ?_;refine Goes.fin rfl (by simp (disch:=(first|omega|(simp only [zaa,zLc,zLn,zSt,zad]<;>omega)|fail)) only [go_sem,resA,zaB,Try.results5]<;>rfl) ?_
  rfl
structure zc1 where
  d:Nat
  a:Int
  b:Int
def actT (x:zc1):List (Int × UInt64) :=
  if x.d % 4=0 then [(0,1),(3,1),(4,UInt64.ofInt x.a)] else if x.d % 4=1 then [(1,1),(3,UInt64.ofInt (-1)),(4,UInt64.ofInt (0 - x.a))] else if x.d % 4=2 then [(2,1)] else [(4,UInt64.ofInt (x.b - x.a))]
def actV (x:zc1):Value:=.agg #[.int .u8 x.d,.int .i64 x.a,.int .i64 x.b]
theorem zmh (x:zc1):zab (actV x)=true:=by simp [actV,zab]
theorem zjW (d k:Nat) (h:d % 4=k):(d:Int).tmod 4=(k:Int):=by
  rw [Int.tmod_eq_emod_of_nonneg (by omega)];omega
theorem znL (S:St) (p m me:Nat) (steps:Nat) (ws:List UInt64) (bs:List UInt8) (N T:Nat) (x:zc1) (hp:S[p]?=some (.port m me steps)) (hm:S[m]?=some (.mem ws bs)) (hs:steps<=100000000000) (hN:N<=256) (hT:T<=64) :
    Does OF 8 #[prtV p,.agg (geoC N T),actV x] [] S (.tuple #[]) (accS S p m me (steps+(actT x).length) (tAdd N T (actT x) ws) bs):=by
  refine Does.mk Try.func8 rfl rfl ?clo ?hand ?_
  case clo=>exact clo3 (pclo (zgf hp)) gclo (Clo.plain (zmh x))
  case hand=>exact Hand.plain (by simp [zab])
  rw [Try.ntmps8];simp only [zSt,zLc,zLn,List.replicate,zCa,zNa];have h4:x.d % 4<4:=Nat.mod_lt _ (by decide)
  have hc:x.d % 4=0\/x.d % 4=1\/x.d % 4=2\/x.d % 4=3:=by omega
  unfold actV;rcases hc with hd|hd|hd|hd
  . have ha:actT x=[(0,1),(3,1),(4,UInt64.ofInt x.a)]:=by simp [actT,hd]
    rw [ha];have e:=zjW x.d _ hd;refine viaF e ?_;((first|refine qc1 rfl rfl fun K hK=>?_|refine qc3 rfl rfl fun K hK=>?_);simp (disch:=(first|omega|(simp only [sz]<;>omega)|fail)) only [go_sem];(first|refine⟨_,_,zc4 S p m me steps ws bs N T x.a hp hm hs hN hT,?_⟩|refine⟨_,_,Does.com (zc4 S p m me steps ws bs N T x.a hp hm hs hN hT),?_⟩);(try simp only [go_sem]);with_reducible refine hK _ _ ?_;clear hK K)
    refine viaF e ?_;refine Goes.fin rfl (by simp (disch:=(first|omega|(simp only [zaa,zLc,zLn,zSt,zad]<;>omega)|fail)) only [go_sem,resA,zaB,Try.results8]<;>rfl) ?_
    rfl
  . have ha:actT x=[(1,1),(3,UInt64.ofInt (-1)),(4,UInt64.ofInt (0 - x.a))]:=by simp [actT,hd]
    rw [ha];have e:=zjW x.d _ hd;refine viaF e ?_;((first|refine qc1 rfl rfl fun K hK=>?_|refine qc3 rfl rfl fun K hK=>?_);simp (disch:=(first|omega|(simp only [sz]<;>omega)|fail)) only [go_sem];(first|refine⟨_,_,zlC S p m me steps ws bs N T x.a hp hm hs hN hT,?_⟩|refine⟨_,_,Does.com (zlC S p m me steps ws bs N T x.a hp hm hs hN hT),?_⟩);(try simp only [go_sem]);with_reducible refine hK _ _ ?_;clear hK K)
    refine viaF e ?_;refine Goes.fin rfl (by simp (disch:=(first|omega|(simp only [zaa,zLc,zLn,zSt,zad]<;>omega)|fail)) only [go_sem,resA,zaB,Try.results8]<;>rfl) ?_
    rfl
  . have ha:actT x=[(2,1)]:=by simp [actT,hd]
    rw [ha];have e:=zjW x.d _ hd;refine viaF e ?_;((first|refine qc1 rfl rfl fun K hK=>?_|refine qc3 rfl rfl fun K hK=>?_);simp (disch:=(first|omega|(simp only [sz]<;>omega)|fail)) only [go_sem];(first|refine⟨_,_,ziF S p m me steps ws bs N T hp hm hs hN hT,?_⟩|refine⟨_,_,Does.com (ziF S p m me steps ws bs N T hp hm hs hN hT),?_⟩);(try simp only [go_sem]);with_reducible refine hK _ _ ?_;clear hK K)
    refine viaF e ?_;refine Goes.fin rfl (by simp (disch:=(first|omega|(simp only [zaa,zLc,zLn,zSt,zad]<;>omega)|fail)) only [go_sem,resA,zaB,Try.results8]<;>rfl) ?_
    rfl
  . have ha:actT x=[(4,UInt64.ofInt (x.b - x.a))]:=by simp [actT,hd]
    rw [ha];have e:=zjW x.d _ hd;refine viaF e ?_;((first|refine qc1 rfl rfl fun K hK=>?_|refine qc3 rfl rfl fun K hK=>?_);simp (disch:=(first|omega|(simp only [sz]<;>omega)|fail)) only [go_sem];(first|refine⟨_,_,zgs S p m me steps ws bs N T x.a x.b hp hm hs hN hT,?_⟩|refine⟨_,_,Does.com (zgs S p m me steps ws bs N T x.a x.b hp hm hs hN hT),?_⟩);(try simp only [go_sem]);with_reducible refine hK _ _ ?_;clear hK K)
    refine viaF e ?_;refine Goes.fin rfl (by simp (disch:=(first|omega|(simp only [zaa,zLc,zLn,zSt,zad]<;>omega)|fail)) only [go_sem,resA,zaB,Try.results8]<;>rfl) ?_
    rfl
def actC (x:zc1):List Value:=[.int .u8 x.d,.int .i64 x.a,.int .i64 x.b]
theorem zmp (x:zc1):∀ v∈actC x,zab v=true:=by simp [actC,zab]
end Go.Proofs.Ytkjmaapbeicmkaa
namespace Go.Proofs.Ytkjmaapbeicmkaa
open Go Go.Conc
open Go.RowKit
def cntT (c:Nat):List (Int × UInt64)->UInt64
  | []=>0
  | x::l=>(if x.1=(c:Int) then x.2 else 0)+cntT c l
theorem ziP {c:Nat}:∀ {l l':List (Int × UInt64)},cntT c (l++l')=cntT c l+cntT c l'
  | [],l'=>by simp [cntT]
  | x::l,l'=>by simp only [zCa,cntT,ziP (l:=l),UInt64.add_assoc]
structure TP where
  i:Nat
  j:Nat
def jO (A:Nat->List (Int × UInt64)) (i:Nat):Option TP->Nat
  | none=>(A i).length
  | some p=>p.j
def totC (A:Nat->List (Int × UInt64)) (c:Nat):Nat->List (Option TP)->UInt64
  | _,[]=>0
  | i,y::ps=>cntT c ((A i).take (jO A i y))+totC A c (i+1) ps
theorem zlj {A:Nat->List (Int × UInt64)} {c:Nat} {d:UInt64} {y z:Option TP}:∀ {k i:Nat} {ps:List (Option TP)},ps[i]?=some y->cntT c ((A (k+i)).take (jO A (k+i) z))=cntT c ((A (k+i)).take (jO A (k+i) y))+d->totC A c k (ps.set i z)=totC A c k ps+d
  | k,i,[],h,_=>by simp at h
  | k,0,a::ps,h,hd=>by
    obtain rfl:a=y:=by simpa using h
    simp only [List.set_cons_zero,totC];rw [Nat.add_zero] at hd;rw [hd,UInt64.add_assoc,UInt64.add_comm d,<-UInt64.add_assoc]
  | k,i+1,a::ps,h,hd=>by
    have:=zlj (A:=A) (c:=c) (d:=d) (z:=z) (k:=k+1) (i:=i) (ps:=ps) (show ps[i]?=some y by simpa using h) (by rw [show k+1+i=k+(i+1) by omega];exact hd)
    simp only [List.set_cons_succ,totC];rw [this,UInt64.add_assoc]
theorem zlw {A:Nat->List (Int × UInt64)} {c:Nat} {z:Option TP}:∀ {k:Nat} {ps:List (Option TP)},totC A c k (ps++[z])=totC A c k ps+cntT c ((A (k+ps.length)).take (jO A (k+ps.length) z))
  | k,[]=>by simp [totC]
  | k,a::ps=>by
    simp only [zCa,totC,zlw (k:=k+1) (ps:=ps),zLc];rw [show k+1+ps.length=k+(ps.length+1) by omega,UInt64.add_assoc]
def tNx (A:Nat->List (Int × UInt64)) (i j:Nat):Option TP:=if j<(A i).length then some ⟨i,j⟩ else none
theorem ztY {A:Nat->List (Int × UInt64)} {i j:Nat} (h:j<=(A i).length):jO A i (tNx A i j)=j:=by
  unfold tNx;split
  . rfl
  . show (A i).length=j;omega
structure TI (A:Nat->List (Int × UInt64)) (W:Nat->Nat->UInt64) (ps:List (Option TP)):Prop where
  idx:∀ (i:Nat) p,ps[i]?=some (some p)->p.i=i/\p.j<(A i).length
  cnt:∀ c,c<5->W 2 c=totC A c 0 ps
theorem zqq {α:Type} {ps:List (Option α)} {i:Nat} (hi:i<ps.length) (z:Option α) (j:Nat):(ps.set i z)[j]?=if j=i then some z else ps[j]?:=by
  by_cases e:j=i
  . subst e;rw [if_pos rfl,List.getElem?_set_self hi]
  . rw [if_neg e,List.getElem?_set_ne fun h=>e h.symm]
theorem TI.step {A:Nat->List (Int × UInt64)} {W W':Nat->Nat->UInt64} {ps:List (Option TP)} (H:TI A W ps) {i:Nat} {p:TP} (hi:ps[i]?=some (some p)) {x:Int × UInt64} (hx:(A i)[p.j]?=some x) {n:Nat} (hn:x.1=(n:Int)) (hW:W' 2 n=W 2 n+x.2) (hW2:∀ c,c≠n->W' 2 c=W 2 c):TI A W' (ps.set i (tNx A i (p.j+1))):=by
  have hil:=(List.getElem?_eq_some_iff.1 hi).1;obtain⟨h1,h2⟩:=H.idx i p hi;refine⟨fun j q hj=>?_,fun c hc=>?_⟩
  . rw [zqq hil] at hj;split at hj
    . rename_i e;subst e;unfold tNx at hj;split at hj
      . cases hj;exact⟨rfl,by assumption⟩
      . cases hj
    . exact H.idx _ _ hj
  . have ht:(A i).take (p.j+1)=(A i).take p.j++[x]:=by
      rw [List.take_add_one,hx];rfl
    have hd:cntT c ((A (0+i)).take (jO A (0+i) (tNx A i (p.j+1))))=cntT c ((A (0+i)).take (jO A (0+i) (some p)))+(if x.1=(c:Int) then x.2 else 0):=by
      rw [Nat.zero_add,ztY (by omega),ht,ziP]
      simp [cntT,jO]
    rw [zlj hi hd,<-H.cnt c hc];by_cases e:c=n
    . subst e;rw [if_pos hn];exact hW
    . rw [if_neg fun h=>e (by omega),hW2 c e];simp
theorem TI.begin {A:Nat->List (Int × UInt64)} {W:Nat->Nat->UInt64} {ps:List (Option TP)} (H:TI A W ps):TI A W (ps++[tNx A ps.length 0]):=by
  refine⟨fun j q hj=>?_,fun c hc=>?_⟩
  . by_cases h:j<ps.length
    . rw [List.getElem?_append_left h] at hj;exact H.idx _ _ hj
    . have h0:j=ps.length:=by
        have:=(List.getElem?_eq_some_iff.1 hj).1;simp at this;omega
      subst h0;rw [List.getElem?_append_right (Nat.le_refl _),Nat.sub_self] at hj;have hj:tNx A ps.length 0=some q:=by simpa using hj
      unfold tNx at hj;split at hj
      . cases hj;exact⟨rfl,by assumption⟩
      . cases hj
  . rw [zlw,Nat.zero_add,ztY (Nat.zero_le _),<-H.cnt c hc];simp [cntT]
def zpa (A:Nat->List (Int × UInt64)) (p:TP):Nat:=(A p.i).length - p.j
def tAcc (A:Nat->List (Int × UInt64)) (p:TP):Acc4:=(4,gat 1 6 2 ((A p.i).getD p.j (0,0)).1,((A p.i).getD p.j (0,0)).2,0)
def zcx (A:Nat->List (Int × UInt64)) (RW:List Row):Sys Unit TP where
  acc:=tAcc A
  most:=100
  rank _ p:=zpa A p
  hot _:=false
  inv _ ws _ ps l:=Fr RW l/\∃ W,Wd 1 6 ws W/\TI A W ps
  born i _ ws _ ps l:=Fr RW l/\∃ ps0 W,ps=ps0++[none]/\ps0.length=i/\Wd 1 6 ws W/\TI A W ps0
  run i p _ R _ ws _ ps l:=R=zpa A p/\Fr RW l/\∃ W,Wd 1 6 ws W/\TI A W (ps.set i (tNx A i (p.j+1)))
theorem tlOk {A:Nat->List (Int × UInt64)} {RW:List Row} (hA:∀ i,∀ x∈A i,∃ n:Nat,n<5/\x.1=(n:Int)) (hl:∀ i,(A i).length<=100) (hR:∀ x∈RW,zd3 x.2=false):(zcx A RW).Ok where
  acc p:=⟨by show 1<=4;decide,by show 4<=6;decide⟩
  hot x hx:=by cases hx
  rank {g ws bs ps l i p} H hi:=by
    obtain⟨_,W,_,H⟩:=H;obtain⟨h1,h2⟩:=H.idx i p hi;have:=hl i;show 1<=zpa A p/\zpa A p<=100;unfold zpa;rw [h1];omega
  rows {g ws bs ps l l'} H h:=⟨fun x hx=>h _ _ (H.1 x hx) (hR x hx),H.2⟩
  birth {g ws bs ps l} H:=by
    obtain⟨h1,W,hW,H⟩:=H;exact⟨(),h1,ps,W,rfl,rfl,hW,H⟩
  grant {g ws bs ps l i p} H hi:=by
    obtain⟨h1,W,hW,H⟩:=H;obtain⟨hpi,hpj⟩:=H.idx i p hi;have hx:(A i)[p.j]?=some (A i)[p.j]:=List.getElem?_eq_getElem hpj;obtain⟨n,hn,hxn⟩:=hA i _ (List.getElem_mem hpj);refine⟨(),rfl,h1,?_⟩;have hg:(A p.i).getD p.j (0,0)=(A i)[p.j]:=by rw [hpi];simp [List.getD,hx]
    show ∃ W,Wd 1 6 (wdsQ (tAcc A p) ws) W/\_;unfold tAcc;rw [hg,hxn];refine⟨_,hW.put (Nat.le_refl 1) (r:=2) (n:=n) (by decide) (by simpa [gsz] using hn) 4 (A i)[p.j].2 0,H.step hi hx hxn (by rw [zpW];rfl) fun c hc=>zte hc⟩
abbrev tlG:Blk:={ cells:=(geoC 1 6).toList,elem:=28 }
def tnC (x:Int × Int):List Value:=[.int .i64 x.1,.int .i64 x.2]
def tnA (x:Int × Int):Int × UInt64:=(x.1,UInt64.ofInt x.2)
section
variable {A:Nat->List (Int × UInt64)} {RW:List Row}
set_option maxRecDepth 10000 in
theorem zdN {i kk hp st R:Nat} {γ:PG Unit TP × St} {l:List (Option Blk)} {q bb:Nat} {S:St} {ws:List UInt64} {bs:List UInt8} (H:BH (zcx A RW) 0 i kk hp (i:Int) st R γ l q bb S ws bs) (hb:100<=bb) {j:Nat} {W:Nat->Nat->UInt64} (hRW:Fr RW l) (hW:Wd 1 6 ws W) (hT:TI A W (γ.1.ps.set i (tNx A i j))) (ts:List (Int × Int)) (hts:0<ts.length/\ts.length<=3) {sr:Nat} {ro:Bool} {gw:Option Nat} (hs:l[sr]?=some (some ⟨rowC tnC ts,75,ro,gw⟩)) (hA:∀ m,m<ts.length->(A i)[j+m]?=(ts[m]?).map tnA) (hR:(A i).length - j<R) {Q:Value->AHeap->St->PG Unit TP × St->Prop}
    (hQ:∀ (st' R':Nat) (γ':PG Unit TP × St) (l':List (Option Blk)) (q':Nat) (S':St) (ws':List UInt64) (bs':List UInt8) (W':Nat->Nat->UInt64),BH (zcx A RW) 0 i kk hp (i:Int) st' R' γ' l' q' 900 S' ws' bs'->Fr RW l'->Wd 1 6 ws' W'->TI A W' (γ'.1.ps.set i (tNx A i (j+ts.length)))->(A i).length - (j+ts.length)<R'->Q (.tuple #[]) (zaE l' q' []) S' γ') :
    Runs OF (SpB ((zcx A RW).pr 0) kk hp) 32 #[.iface 82 (hndV hp),.agg (geoC 1 6),.slice (some ⟨sr,0,none⟩) ts.length ts.length] (zaE l q []) S γ Q:=by
  have hq:=H.qle;refine Runs.mk Try.func32 rfl rfl ?_;rw [Try.ntmps32];simp only [zSt,zLc,zLn,List.replicate,zCa,zNa];refine viaD ?_;refine Goes.folds H.ll fun lf hlen hge hrow=>?_;have hrow0:lf[q]?=some (some tlG):=hrow 0;simp only [zLc,zLn,Nat.zero_add] at hlen ⊢;have hs1:lf[sr]?=some (some ⟨rowC tnC ts,75,ro,gw⟩):=hge _ _ hs;have hsq:sr<q+1:=by
    have:=(List.getElem?_eq_some_iff.1 hs1).1;omega
  have hln:(rowC tnC ts).length=ts.length * 2:=zgv (fl:=tnC) (s:=2) (fun _=>rfl) ts;obtain⟨n,hnn⟩:∃ n,n=ts.length:=⟨_,rfl⟩;rw [<-hnn] at hts hA hQ hln ⊢;refine GE.wh (fun z tmps h S γ=>∃ (x st R:Nat) (l:List (Option Blk)) (q2:Nat) (ws:List UInt64) (bs:List UInt8) (W:Nat->Nat->UInt64),z=n - x/\x<=n/\h=zaE l q2 []/\BH (zcx A RW) 0 i kk hp (i:Int) st R γ l q2 (if x=0 then bb - 1 else 900) S ws bs/\Fr RW l/\Wd 1 6 ws W/\TI A W (γ.1.ps.set i (tNx A i (j+x)))/\(A i).length - (j+x)<R/\l[q]?=some (some tlG)/\l[sr]?=some (some ⟨rowC tnC ts,75,ro,gw⟩)/\tmps.length=27 /\
      tmps.getD 0 undef=.iface 82 (hndV hp)/\tmps.getD 4 undef=.pointer (some ⟨q,0,none⟩)/\tmps.getD 8 undef=.slice (some ⟨sr,0,none⟩) n n/\tmps.getD 9 undef=.int .i64 (n:Int)/\tmps.getD 10 undef=.int .i64 (x:Int)) (m:=n)
    ⟨0,st,R,lf,q+1,ws,bs,W,rfl,by omega,rfl,H.ge hge (Nat.le_of_eq hlen) (d:=1) (Nat.le_refl _) (by omega),hRW.ge hge,hW,hT,hR,hrow0,hs1,rfl,rfl,rfl,rfl,rfl,rfl⟩ ?_
  clear H hRW hW hT hR hrow0 hs1 hs hge hrow hlen;rintro z tmps h S γ ih ⟨x,st,R,l,q2,ws,bs,W,rfl,hx,rfl,H,hRW,hW,hT,hR,hg,hs,hl,f0,f4,f8,f9,f10⟩;have hq2:q2<=500000000:=by have:=H.qle;omega
  have hgq:q<q2:=Nat.lt_of_lt_of_le (List.getElem?_eq_some_iff.1 hg).1 H.ll;have hsq2:sr<q2:=Nat.lt_of_lt_of_le (List.getElem?_eq_some_iff.1 hs).1 H.ll;obtain⟨V,hV,hT⟩:=zbL hl;replace hT:_=([V 0,V 1,V 2,V 3,V 4,V 5,V 6,V 7,V 8,V 9,V 10,V 11,V 12,V 13,V 14,V 15,V 16,V 17,V 18,V 19,V 20,V 21,V 22,V 23,V 24,V 25,V 26]:List Value):=hT;rw [hV] at f0 f4 f8 f9 f10;subst hT;simp only [f0,f4,f8,f9,f10];clear hV hl;by_cases hxn:x<n
  case neg =>
    obtain rfl:x=n:=by omega
    refine viaD ?_;refine Goes.retG rfl (by simp (disch:=(first|omega|(simp only [zaa,zLc,zLn,zSt,zad]<;>omega)|fail)) only [go_sem,resA,zaB,Try.results32]<;>rfl) ?_
    exact hQ st R γ l q2 S ws bs W (by rw [if_neg (by omega)] at H;exact H) hRW hW hT hR
  obtain⟨t,ht⟩:∃ t,ts[x]?=some t:=⟨_,List.getElem?_eq_getElem (by omega)⟩
  have cl:(List.take 2 (List.drop (x * 2) (rowC tnC ts))).toArray=#[.int .i64 t.1,.int .i64 t.2]:=by rw [zjb (fl:=tnC) (s:=2) (fun _=>rfl) ht];rfl
  refine zu5 (And.intro hs cl) ?_;refine Goes.folds H.ll fun lf hlen hge hrow=>?_;have hrw:lf[q2]?=some (some { cells:=[.int .i64 t.1,.int .i64 t.2],elem:=75 }):=hrow 0;simp only [zLc,zLn,Nat.zero_add] at hlen ⊢;have hb1:1<=(if x=0 then bb - 1 else 900):=by split<;>omega
  have H1:=H.ge hge (Nat.le_of_eq hlen) (d:=1) (Nat.le_refl _) hb1;replace hg:=hge _ _ hg;replace hs:=hge _ _ hs;refine Goes.drawC 11 (by kernel_rfl) ?_
  repeat (refine qw1 rfl rfl rfl fun K hK=>?_;simp (disch:=(first|omega|(simp only [sz]<;>omega)|fail)) only [go_sem,hg,hrw];with_reducible refine hK _ _ ?_;clear hK K)
  (refine qwp rfl rfl fun K hK=>?_;simp (disch:=(first|omega|(simp only [sz]<;>omega)|fail)) only [go_sem];(first|refine⟨_,_,(qpd fun w=>zak 1 6 t.1 w (by decide) (by decide)),?_⟩|refine⟨_,_,(qpu fun w=>zak 1 6 t.1 w (by decide) (by decide)),?_⟩|refine⟨_,_,.com (qpd fun w=>zak 1 6 t.1 w (by decide) (by decide)),?_⟩|refine⟨_,_,.com (qpu fun w=>zak 1 6 t.1 w (by decide) (by decide)),?_⟩);(try simp only [go_sem]);with_reducible refine hK _ ?_;clear hK K)
  repeat (refine qw1 rfl rfl rfl fun K hK=>?_;simp (disch:=(first|omega|(simp only [sz]<;>omega)|fail)) only [go_sem,hg,hrw,zcY];with_reducible refine hK _ _ ?_;clear hK K)
  have hAx:(A i)[j+x]?=some (tnA t):=by rw [hA x hxn,ht];rfl
  have hjl:=(List.getElem?_eq_some_iff.1 hAx).1;rw [show tNx A i (j+x)=some ⟨i,j+x⟩ from if_pos hjl] at hT
  (refine qg2 rfl rfl fun K hK=>?_;simp (disch:=(first|omega|(simp only [sz]<;>omega)|fail)) only [go_sem]);refine ztK (H1.ask ⟨i,j+x⟩ [(q,tlG),(sr,⟨rowC tnC ts,75,ro,gw⟩)] () (by show tAcc A _=_;unfold tAcc;simp [List.getD,hAx,tnA]) (Fr.cons hg (Fr.cons hs Fr.nil)) (fun y hy=>by
    simp only [zMc,zNm,or_false] at hy;rcases hy with rfl|rfl<;>exact⟨rfl,rfl⟩) ⟨hRW.ge hge,W,hW,hT⟩ hR fun v γ2 l2 q3 S2 ws2 bs2 R2 H2 hfr hps hqq hrun=>?_)
  obtain⟨rfl,hRW2,W2,hW2,hT2⟩:=hrun
  ((try simp only [go_sem]);with_reducible refine hK _ _ _ _ ?_;clear hK K)
  refine viaD ?_;refine Goes.again (ih (n - (x+1)) _ _ _ _ (by omega) ⟨x+1,st+1,_,l2,q3,ws2,bs2,W2,rfl,by omega,rfl,by rw [if_neg (by omega)];exact H2.less (by decide),hRW2,hW2,hT2,by show (A i).length - (j+(x+1))<(A i).length - (j+x);omega,hfr (q,tlG) (by simp),hfr (sr,_) (List.mem_cons_of_mem _ List.mem_cons_self),rfl,rfl,rfl,rfl,rfl,by push_cast;rfl⟩)
end
section
variable {A:Nat->List (Int × UInt64)} {RW:List Row}
set_option maxRecDepth 10000 in
theorem zjI {i kk hp st R:Nat} {γ:PG Unit TP × St} {l:List (Option Blk)} {q bb:Nat} {S:St} {ws:List UInt64} {bs:List UInt8} (H:BH (zcx A RW) 0 i kk hp (i:Int) st R γ l q bb S ws bs) (hb:200<=bb) {j:Nat} {W:Nat->Nat->UInt64} (hRW:Fr RW l) (hW:Wd 1 6 ws W) (hT:TI A W (γ.1.ps.set i (tNx A i j))){a:Int} (hA:∀ m,m<3->(A i)[j+m]?=([(0,1),(3,1),(4,UInt64.ofInt a)]:List (Int × UInt64))[m]?) (hR:(A i).length - j<R) {Q:Value->AHeap->St->PG Unit TP × St->Prop}
    (hQ:∀ (st' R':Nat) (γ':PG Unit TP × St) (l':List (Option Blk)) (q':Nat) (S':St) (ws':List UInt64) (bs':List UInt8) (W':Nat->Nat->UInt64),BH (zcx A RW) 0 i kk hp (i:Int) st' R' γ' l' q' 900 S' ws' bs'->Fr RW l'->Wd 1 6 ws' W'->TI A W' (γ'.1.ps.set i (tNx A i (j+3)))->(A i).length - (j+3)<R'->Q (.tuple #[]) (zaE l' q' []) S' γ') :
    Runs OF (SpB ((zcx A RW).pr 0) kk hp) 16 #[.iface 82 (hndV hp),.agg (geoC 1 6),.int .i64 a] (zaE l q []) S γ Q:=by
  have hq:=H.qle;refine Runs.mk Try.func16 rfl rfl ?_;rw [Try.ntmps16];simp only [zSt,zLc,zLn,List.replicate,zCa,zNa];refine via ?_;refine At.folds H.ll fun lf hlen hge hrow=>?_;have hr:=hrow 1;simp only [zLc,zLn,Nat.zero_add,zGs,zGz] at hlen hr ⊢;have H1:=H.ge hge (Nat.le_of_eq hlen) (d:=2) (Nat.le_refl _) (by omega)
  (refine qg1 rfl rfl fun K hK=>?_;simp (disch:=(first|omega|(simp only [sz]<;>omega)|fail)) only [go_sem]);refine zdN H1 (by omega) (hRW.ge hge) hW hT [(0,1),(3,1),(4,a)] ⟨by simp,by simp⟩ (sr:=q+1) hr (fun m hm=>?_) hR fun st' R' γ' l' q' S' ws' bs' W' h1 h2 h3 h4 h5=>?_
  . rw [hA m hm]
    match m,hm with
    | 0,_=>rfl
    | 1,_=>rfl
    | 2,_=>rfl
  ((try simp only [go_sem]);with_reducible refine hK _ _ _ _ ?_;clear hK K)
  refine via ?_;refine Goes.retG rfl (by simp (disch:=(first|omega|(simp only [zaa,zLc,zLn,zSt,zad]<;>omega)|fail)) only [go_sem,resA,zaB,Try.results16]<;>rfl) ?_
  exact hQ st' R' γ' l' q' S' ws' bs' W' h1 h2 h3 h4 h5
set_option maxRecDepth 10000 in
theorem zjR {i kk hp st R:Nat} {γ:PG Unit TP × St} {l:List (Option Blk)} {q bb:Nat} {S:St} {ws:List UInt64} {bs:List UInt8} (H:BH (zcx A RW) 0 i kk hp (i:Int) st R γ l q bb S ws bs) (hb:200<=bb) {j:Nat} {W:Nat->Nat->UInt64} (hRW:Fr RW l) (hW:Wd 1 6 ws W) (hT:TI A W (γ.1.ps.set i (tNx A i j))){a:Int} (hA:∀ m,m<3->(A i)[j+m]?=([(1,1),(3,UInt64.ofInt (-1)),(4,UInt64.ofInt (0 - a))]:List (Int × UInt64))[m]?) (hR:(A i).length - j<R) {Q:Value->AHeap->St->PG Unit TP × St->Prop}
    (hQ:∀ (st' R':Nat) (γ':PG Unit TP × St) (l':List (Option Blk)) (q':Nat) (S':St) (ws':List UInt64) (bs':List UInt8) (W':Nat->Nat->UInt64),BH (zcx A RW) 0 i kk hp (i:Int) st' R' γ' l' q' 900 S' ws' bs'->Fr RW l'->Wd 1 6 ws' W'->TI A W' (γ'.1.ps.set i (tNx A i (j+3)))->(A i).length - (j+3)<R'->Q (.tuple #[]) (zaE l' q' []) S' γ') :
    Runs OF (SpB ((zcx A RW).pr 0) kk hp) 17 #[.iface 82 (hndV hp),.agg (geoC 1 6),.int .i64 a] (zaE l q []) S γ Q:=by
  have hq:=H.qle;refine Runs.mk Try.func17 rfl rfl ?_;rw [Try.ntmps17];simp only [zSt,zLc,zLn,List.replicate,zCa,zNa];refine via ?_;refine At.folds H.ll fun lf hlen hge hrow=>?_;have hr:=hrow 1;simp only [zLc,zLn,Nat.zero_add,zGs,zGz] at hlen hr ⊢;have H1:=H.ge hge (Nat.le_of_eq hlen) (d:=2) (Nat.le_refl _) (by omega)
  (refine qg1 rfl rfl fun K hK=>?_;simp (disch:=(first|omega|(simp only [sz]<;>omega)|fail)) only [go_sem]);refine zdN H1 (by omega) (hRW.ge hge) hW hT [(1,1),(3,-1),(4,IntKind.i64.wrap (0 - a))] ⟨by simp,by simp⟩ (sr:=q+1) hr (fun m hm=>?_) hR fun st' R' γ' l' q' S' ws' bs' W' h1 h2 h3 h4 h5=>?_
  . rw [hA m hm]
    match m,hm with
    | 0,_=>rfl
    | 1,_=>rfl
    | 2,_=>simp [tnA,zeF]
  ((try simp only [go_sem]);with_reducible refine hK _ _ _ _ ?_;clear hK K)
  refine via ?_;refine Goes.retG rfl (by simp (disch:=(first|omega|(simp only [zaa,zLc,zLn,zSt,zad]<;>omega)|fail)) only [go_sem,resA,zaB,Try.results17]<;>rfl) ?_
  exact hQ st' R' γ' l' q' S' ws' bs' W' h1 h2 h3 h4 h5
set_option maxRecDepth 10000 in
theorem ziw {i kk hp st R:Nat} {γ:PG Unit TP × St} {l:List (Option Blk)} {q bb:Nat} {S:St} {ws:List UInt64} {bs:List UInt8} (H:BH (zcx A RW) 0 i kk hp (i:Int) st R γ l q bb S ws bs) (hb:200<=bb) {j:Nat} {W:Nat->Nat->UInt64} (hRW:Fr RW l) (hW:Wd 1 6 ws W) (hT:TI A W (γ.1.ps.set i (tNx A i j))) (hA:∀ m,m<1->(A i)[j+m]?=([(2,1)]:List (Int × UInt64))[m]?) (hR:(A i).length - j<R) {Q:Value->AHeap->St->PG Unit TP × St->Prop}
    (hQ:∀ (st' R':Nat) (γ':PG Unit TP × St) (l':List (Option Blk)) (q':Nat) (S':St) (ws':List UInt64) (bs':List UInt8) (W':Nat->Nat->UInt64),BH (zcx A RW) 0 i kk hp (i:Int) st' R' γ' l' q' 900 S' ws' bs'->Fr RW l'->Wd 1 6 ws' W'->TI A W' (γ'.1.ps.set i (tNx A i (j+1)))->(A i).length - (j+1)<R'->Q (.tuple #[]) (zaE l' q' []) S' γ') :
    Runs OF (SpB ((zcx A RW).pr 0) kk hp) 18 #[.iface 82 (hndV hp),.agg (geoC 1 6)] (zaE l q []) S γ Q:=by
  have hq:=H.qle;refine Runs.mk Try.func18 rfl rfl ?_;rw [Try.ntmps18];simp only [zSt,zLc,zLn,List.replicate,zCa,zNa];refine via ?_;refine At.folds H.ll fun lf hlen hge hrow=>?_;have hr:=hrow 1;simp only [zLc,zLn,Nat.zero_add,zGs,zGz] at hlen hr ⊢;have H1:=H.ge hge (Nat.le_of_eq hlen) (d:=2) (Nat.le_refl _) (by omega)
  (refine qg1 rfl rfl fun K hK=>?_;simp (disch:=(first|omega|(simp only [sz]<;>omega)|fail)) only [go_sem]);refine zdN H1 (by omega) (hRW.ge hge) hW hT [(2,1)] ⟨by simp,by simp⟩ (sr:=q+1) hr (fun m hm=>?_) hR fun st' R' γ' l' q' S' ws' bs' W' h1 h2 h3 h4 h5=>?_
  . rw [hA m hm]
    match m,hm with
    | 0,_=>rfl
  ((try simp only [go_sem]);with_reducible refine hK _ _ _ _ ?_;clear hK K)
  refine via ?_;refine Goes.retG rfl (by simp (disch:=(first|omega|(simp only [zaa,zLc,zLn,zSt,zad]<;>omega)|fail)) only [go_sem,resA,zaB,Try.results18]<;>rfl) ?_
  exact hQ st' R' γ' l' q' S' ws' bs' W' h1 h2 h3 h4 h5
set_option maxRecDepth 10000 in
theorem zhP {i kk hp st R:Nat} {γ:PG Unit TP × St} {l:List (Option Blk)} {q bb:Nat} {S:St} {ws:List UInt64} {bs:List UInt8} (H:BH (zcx A RW) 0 i kk hp (i:Int) st R γ l q bb S ws bs) (hb:200<=bb) {j:Nat} {W:Nat->Nat->UInt64} (hRW:Fr RW l) (hW:Wd 1 6 ws W) (hT:TI A W (γ.1.ps.set i (tNx A i j))){a b:Int} (hA:∀ m,m<1->(A i)[j+m]?=([(4,UInt64.ofInt (b - a))]:List (Int × UInt64))[m]?) (hR:(A i).length - j<R) {Q:Value->AHeap->St->PG Unit TP × St->Prop}
    (hQ:∀ (st' R':Nat) (γ':PG Unit TP × St) (l':List (Option Blk)) (q':Nat) (S':St) (ws':List UInt64) (bs':List UInt8) (W':Nat->Nat->UInt64),BH (zcx A RW) 0 i kk hp (i:Int) st' R' γ' l' q' 900 S' ws' bs'->Fr RW l'->Wd 1 6 ws' W'->TI A W' (γ'.1.ps.set i (tNx A i (j+1)))->(A i).length - (j+1)<R'->Q (.tuple #[]) (zaE l' q' []) S' γ') :
    Runs OF (SpB ((zcx A RW).pr 0) kk hp) 19 #[.iface 82 (hndV hp),.agg (geoC 1 6),.int .i64 a,.int .i64 b] (zaE l q []) S γ Q:=by
  have hq:=H.qle;refine Runs.mk Try.func19 rfl rfl ?_;rw [Try.ntmps19];simp only [zSt,zLc,zLn,List.replicate,zCa,zNa];refine via ?_;refine At.folds H.ll fun lf hlen hge hrow=>?_;have hr:=hrow 1;simp only [zLc,zLn,Nat.zero_add,zGs,zGz] at hlen hr ⊢;have H1:=H.ge hge (Nat.le_of_eq hlen) (d:=2) (Nat.le_refl _) (by omega)
  (refine qg1 rfl rfl fun K hK=>?_;simp (disch:=(first|omega|(simp only [sz]<;>omega)|fail)) only [go_sem]);refine zdN H1 (by omega) (hRW.ge hge) hW hT [(4,IntKind.i64.wrap (b - a))] ⟨by simp,by simp⟩ (sr:=q+1) hr (fun m hm=>?_) hR fun st' R' γ' l' q' S' ws' bs' W' h1 h2 h3 h4 h5=>?_
  . rw [hA m hm]
    match m,hm with
    | 0,_=>simp [tnA,zeF]
  ((try simp only [go_sem]);with_reducible refine hK _ _ _ _ ?_;clear hK K)
  refine via ?_;refine Goes.retG rfl (by simp (disch:=(first|omega|(simp only [zaa,zLc,zLn,zSt,zad]<;>omega)|fail)) only [go_sem,resA,zaB,Try.results19]<;>rfl) ?_
  exact hQ st' R' γ' l' q' S' ws' bs' W' h1 h2 h3 h4 h5
end
def zaX (l:List zc1):List (Int × UInt64):=l.flatMap actT
section
variable {A:Nat->List (Int × UInt64)} {RW:List Row}
set_option maxRecDepth 10000 in
theorem zml {i kk hp st R:Nat} {γ:PG Unit TP × St} {l:List (Option Blk)} {q bb:Nat} {S:St} {ws:List UInt64} {bs:List UInt8} (H:BH (zcx A RW) 0 i kk hp (i:Int) st R γ l q bb S ws bs) (hb:400<=bb) {j:Nat} {W:Nat->Nat->UInt64} (hRW:Fr RW l) (hW:Wd 1 6 ws W) (hT:TI A W (γ.1.ps.set i (tNx A i j))) (x:zc1) (hA:∀ m,m<(actT x).length->(A i)[j+m]?=(actT x)[m]?) (hR:(A i).length - j<R) {Q:Value->AHeap->St->PG Unit TP × St->Prop}
    (hQ:∀ (st' R':Nat) (γ':PG Unit TP × St) (l':List (Option Blk)) (q':Nat) (S':St) (ws':List UInt64) (bs':List UInt8) (W':Nat->Nat->UInt64),BH (zcx A RW) 0 i kk hp (i:Int) st' R' γ' l' q' 900 S' ws' bs'->Fr RW l'->Wd 1 6 ws' W'->TI A W' (γ'.1.ps.set i (tNx A i (j+(actT x).length)))->(A i).length - (j+(actT x).length)<R'->Q (.tuple #[]) (zaE l' q' []) S' γ') :
    Runs OF (SpB ((zcx A RW).pr 0) kk hp) 8 #[.iface 82 (hndV hp),.agg (geoC 1 6),actV x] (zaE l q []) S γ Q:=by
  have hq:=H.qle;have hc:x.d % 4=0\/x.d % 4=1\/x.d % 4=2\/x.d % 4=3:=by omega
  unfold actV;refine Runs.mk Try.func8 rfl rfl ?_;rw [Try.ntmps8];simp only [zSt,zLc,zLn,List.replicate,zCa,zNa];rcases hc with hd|hd|hd|hd
  . have ha:actT x=[(0,1),(3,1),(4,UInt64.ofInt x.a)]:=by simp [actT,hd]
    rw [ha] at hA hQ;have e:=zjW x.d _ hd;refine viaF e ?_;refine At.folds H.ll fun lf hlen hge hrow=>?_;have hr:=hrow 1;simp only [zLc,zLn,Nat.zero_add,zGs,zGz] at hlen hr ⊢;(refine qg1 rfl rfl fun K hK=>?_;simp (disch:=(first|omega|(simp only [sz]<;>omega)|fail)) only [go_sem])
    refine zjI (H.ge hge (Nat.le_of_eq hlen) (d:=2) (Nat.le_refl _) (by omega)) (by omega) (hRW.ge hge) hW hT hA hR fun st' R' γ' l' q' S' ws' bs' W' h1 h2 h3 h4 h5=>?_
    ((try simp only [go_sem]);with_reducible refine hK _ _ _ _ ?_;clear hK K)
    refine viaF e ?_;refine Goes.retG rfl (by simp (disch:=(first|omega|(simp only [zaa,zLc,zLn,zSt,zad]<;>omega)|fail)) only [go_sem,resA,zaB,Try.results8]<;>rfl) ?_
    exact hQ st' R' γ' l' q' S' ws' bs' W' h1 h2 h3 h4 h5
  . have ha:actT x=[(1,1),(3,UInt64.ofInt (-1)),(4,UInt64.ofInt (0 - x.a))]:=by simp [actT,hd]
    rw [ha] at hA hQ;have e:=zjW x.d _ hd;refine viaF e ?_;refine At.folds H.ll fun lf hlen hge hrow=>?_;have hr:=hrow 1;simp only [zLc,zLn,Nat.zero_add,zGs,zGz] at hlen hr ⊢;(refine qg1 rfl rfl fun K hK=>?_;simp (disch:=(first|omega|(simp only [sz]<;>omega)|fail)) only [go_sem])
    refine zjR (H.ge hge (Nat.le_of_eq hlen) (d:=2) (Nat.le_refl _) (by omega)) (by omega) (hRW.ge hge) hW hT hA hR fun st' R' γ' l' q' S' ws' bs' W' h1 h2 h3 h4 h5=>?_
    ((try simp only [go_sem]);with_reducible refine hK _ _ _ _ ?_;clear hK K)
    refine viaF e ?_;refine Goes.retG rfl (by simp (disch:=(first|omega|(simp only [zaa,zLc,zLn,zSt,zad]<;>omega)|fail)) only [go_sem,resA,zaB,Try.results8]<;>rfl) ?_
    exact hQ st' R' γ' l' q' S' ws' bs' W' h1 h2 h3 h4 h5
  . have ha:actT x=[(2,1)]:=by simp [actT,hd]
    rw [ha] at hA hQ;have e:=zjW x.d _ hd;refine viaF e ?_;refine At.folds H.ll fun lf hlen hge hrow=>?_;have hr:=hrow 1;simp only [zLc,zLn,Nat.zero_add,zGs,zGz] at hlen hr ⊢;(refine qg1 rfl rfl fun K hK=>?_;simp (disch:=(first|omega|(simp only [sz]<;>omega)|fail)) only [go_sem])
    refine ziw (H.ge hge (Nat.le_of_eq hlen) (d:=2) (Nat.le_refl _) (by omega)) (by omega) (hRW.ge hge) hW hT hA hR fun st' R' γ' l' q' S' ws' bs' W' h1 h2 h3 h4 h5=>?_
    ((try simp only [go_sem]);with_reducible refine hK _ _ _ _ ?_;clear hK K)
    refine viaF e ?_;refine Goes.retG rfl (by simp (disch:=(first|omega|(simp only [zaa,zLc,zLn,zSt,zad]<;>omega)|fail)) only [go_sem,resA,zaB,Try.results8]<;>rfl) ?_
    exact hQ st' R' γ' l' q' S' ws' bs' W' h1 h2 h3 h4 h5
  . have ha:actT x=[(4,UInt64.ofInt (x.b - x.a))]:=by simp [actT,hd]
    rw [ha] at hA hQ;have e:=zjW x.d _ hd;refine viaF e ?_;refine At.folds H.ll fun lf hlen hge hrow=>?_;have hr:=hrow 1;simp only [zLc,zLn,Nat.zero_add,zGs,zGz] at hlen hr ⊢;(refine qg1 rfl rfl fun K hK=>?_;simp (disch:=(first|omega|(simp only [sz]<;>omega)|fail)) only [go_sem])
    refine zhP (H.ge hge (Nat.le_of_eq hlen) (d:=2) (Nat.le_refl _) (by omega)) (by omega) (hRW.ge hge) hW hT hA hR fun st' R' γ' l' q' S' ws' bs' W' h1 h2 h3 h4 h5=>?_
    ((try simp only [go_sem]);with_reducible refine hK _ _ _ _ ?_;clear hK K)
    refine viaF e ?_;refine Goes.retG rfl (by simp (disch:=(first|omega|(simp only [zaa,zLc,zLn,zSt,zad]<;>omega)|fail)) only [go_sem,resA,zaB,Try.results8]<;>rfl) ?_
    exact hQ st' R' γ' l' q' S' ws' bs' W' h1 h2 h3 h4 h5
theorem zlq {l:List zc1} {k:Nat} {x:zc1} (hx:l[k]?=some x):zaX (l.take (k+1))=zaX (l.take k)++actT x/\∀ m,m<(actT x).length->(zaX l)[(zaX (l.take k)).length+m]?=(actT x)[m]?:=by
  obtain⟨hk,rfl⟩:=List.getElem?_eq_some_iff.1 hx;have e1:l.take (k+1)=l.take k++[l[k]]:=by rw [List.take_add_one,hx];rfl
  have e2:zaX (l.take (k+1))=zaX (l.take k)++actT l[k]:=by unfold zaX;rw [e1,List.flatMap_append];simp
  refine⟨e2,fun m hm=>?_⟩;have e3:zaX l=zaX (l.take k)++(actT l[k]++zaX (l.drop (k+1))):=by
    conv=>lhs;rw [<-List.take_append_drop (k+1) l]
    unfold zaX at e2 ⊢;rw [List.flatMap_append,e2,List.append_assoc]
  rw [e3,List.getElem?_append_right (by omega),Nat.add_sub_cancel_left,List.getElem?_append_left hm]
theorem zql (x:zc1):0<(actT x).length/\(actT x).length<=3:=by
  unfold actT
  repeat' split
  all_goals simp
theorem zh3:∀ (l:List zc1),(zaX l).length<=3 * l.length
  | []=>by simp [zaX]
  | x::l=>by
    have h1:=zh3 l;have h2:=(zql x).2;have e:zaX (x::l)=actT x++zaX l:=by simp [zaX]
    rw [e,List.length_append,List.length_cons];omega
theorem zka (l:List zc1):∀ x∈zaX l,∃ n:Nat,n<5/\x.1=(n:Int):=fun x hx=>by
  obtain⟨y,_,hy⟩:=List.mem_flatMap.1 hx;unfold actT at hy;split at hy
  . simp at hy;rcases hy with rfl|rfl|rfl
    . exact⟨0,by decide,rfl⟩
    . exact⟨3,by decide,rfl⟩
    . exact⟨4,by decide,rfl⟩
  . split at hy
    . simp at hy;rcases hy with rfl|rfl|rfl
      . exact⟨1,by decide,rfl⟩
      . exact⟨3,by decide,rfl⟩
      . exact⟨4,by decide,rfl⟩
    . split at hy
      . simp at hy;subst hy;exact⟨2,by decide,rfl⟩
      . simp at hy;subst hy;exact⟨4,by decide,rfl⟩
set_option maxRecDepth 20000 in
theorem ztv {i kk hp:Nat} {γ:PG Unit TP × St} {l:List (Option Blk)} {q:Nat} {S:St} {ws:List UInt64} {bs:List UInt8} (H:BH (zcx A RW) 0 i kk hp (i:Int) 0 ((zcx A RW).most+1) γ l q 1000 S ws bs) (hborn:(zcx A RW).born i γ.1.g ws bs γ.1.ps l) (hmx:(A i).length<=100) (li:List zc1) (hAi:A i=zaX li) (hli:li.length<=10) {ab gb n cap:Nat} {OB:Blk} {s:Option Addr} {cp:Nat} (hin:i<n) (hbox:(ab,{ cells:=[.slice (some ⟨0,0,none⟩) n cap],elem:=22 })∈RW) (hg:(gb,tlG)∈RW) (hout:(0,OB)∈RW) (hcell:OB.cells[i]?=some (.slice s li.length cp)) (hinn:0<li.length->∃ nr IB,s=some ⟨nr,0,none⟩/\(nr,IB)∈RW/\IB.cells=rowC actC li) :
    zfp ((zcx A RW).pr 0) kk hp 7 #[] #[.pointer (some ⟨ab,0,none⟩),.pointer (some ⟨gb,0,none⟩)] (zaE l q []) S γ.1:=by
  refine⟨Try.f7,_,Try.func7,rfl,rfl,GE.go ?_⟩;show Goes OF _ _ (.run [.code _] ((#[Value.iface 82 (hndV hp),.pointer (some ⟨ab,0,none⟩),.pointer (some ⟨gb,0,none⟩)]:Array Value).toList++List.replicate (Try.f7.ntmps - (#[Value.iface 82 (hndV hp),.pointer (some ⟨ab,0,none⟩),.pointer (some ⟨gb,0,none⟩)]:Array Value).size) undef) _ _);obtain⟨hRW,ps0,W,hps0,hl0,hW,hT⟩:=hborn;have hT0:TI A W (γ.1.ps.set i (tNx A i 0)):=by
    have e:γ.1.ps.set i (tNx A i 0)=ps0++[tNx A ps0.length 0]:=by
      rw [hps0,<-hl0,List.set_append_right _ _ (Nat.le_refl _),Nat.sub_self];rfl
    rw [e];exact hT.begin
  have hγS:(γ.1,S)=γ:=by
    have:=H.hS;obtain⟨γ1,γ2⟩:=γ;cases this;rfl
  rw [hγS];clear hps0 hl0 hT;have hq:=H.qle;obtain⟨ask,gr,qt,hwp⟩:=H.hwp;have r1:=hRW _ hbox;have r2:=hRW _ hout;have q1:ab<q:=Nat.lt_of_lt_of_le (List.getElem?_eq_some_iff.1 r1).1 H.ll;have q2:0<q:=Nat.lt_of_lt_of_le (List.getElem?_eq_some_iff.1 r2).1 H.ll;have hcell1:OB.cells[i * 1]?=some (.slice s li.length cp):=by rw [Nat.mul_one];exact hcell
  rw [Try.ntmps7];simp only [zSt,zLc,zLn,List.replicate,zCa,zNa];refine viaF r1 ?_;((first|refine qp1 rfl rfl fun K hK=>?_|refine qp3 rfl rfl fun K hK=>?_);simp (disch:=(first|omega|(simp only [sz]<;>omega)|fail)) only [go_sem];(first|refine⟨_,_,.wself hwp,?_⟩|refine⟨_,_,.com (.wself hwp),?_⟩);(try simp only [go_sem]);with_reducible refine hK _ _ ?_;clear hK K)
  refine viaF (And.intro r1 (And.intro r2 hcell1)) ?_;clear r1 r2 q1 q2 hcell1 hwp;refine GE.wh (fun z tmps h S γ=>∃ (k st R:Nat) (l:List (Option Blk)) (q:Nat) (ws:List UInt64) (bs:List UInt8) (W:Nat->Nat->UInt64),z=li.length - k/\k<=li.length/\h=zaE l q []/\BH (zcx A RW) 0 i kk hp (i:Int) st R γ l q 900 S ws bs/\Fr RW l/\Wd 1 6 ws W/\TI A W (γ.1.ps.set i (tNx A i (zaX (li.take k)).length))/\(A i).length - (zaX (li.take k)).length<R/\tmps.length=24 /\
      tmps.getD 0 undef=.iface 82 (hndV hp)/\tmps.getD 2 undef=.pointer (some ⟨gb,0,none⟩)/\tmps.getD 4 undef=.slice s li.length cp/\tmps.getD 5 undef=.int .i64 (k:Int)) (m:=li.length)
    ⟨0,0,_,l,q,ws,bs,W,rfl,by omega,rfl,H.less (by decide),hRW,hW,hT0,by show (A i).length - _<100+1;omega,rfl,rfl,rfl,rfl,rfl⟩ ?_
  clear H hRW hW hT0 hq;rintro z tmps h S γ ih ⟨k,st,R,l,q,ws,bs,W,rfl,hk,rfl,H,hRW,hW,hT,hR,hl,f0,f2,f4,f5⟩;have hq:=H.qle;obtain⟨V,hV,hT⟩:=zbL hl;replace hT:_=([V 0,V 1,V 2,V 3,V 4,V 5,V 6,V 7,V 8,V 9,V 10,V 11,V 12,V 13,V 14,V 15,V 16,V 17,V 18,V 19,V 20,V 21,V 22,V 23]:List Value):=hT;rw [hV] at f0 f2 f4 f5;subst hT;simp only [f0,f2,f4,f5];clear hV hl;by_cases hkl:k<li.length
  case neg =>
    obtain rfl:k=li.length:=by omega
    refine viaD ?_;refine Goes.endG rfl (by simp (disch:=(first|omega|(simp only [zaa,zLc,zLn,zSt,zad]<;>omega)|fail)) only [go_sem,resA,zaB,Try.results7]<;>rfl) ?_
    refine⟨_,_,_,rfl,H.over () ⟨hRW,W,hW,?_⟩⟩;rw [List.take_length,<-hAi] at hT;rw [show (none:Option TP)=tNx A i (A i).length from (if_neg (Nat.lt_irrefl _)).symm]
    exact hT
  obtain⟨nr,IB,rfl,hIB,hcells⟩:=hinn (by omega)
  obtain⟨x,hx⟩:∃ x,li[k]?=some x:=⟨_,List.getElem?_eq_getElem hkl⟩;obtain⟨hx1,hx2⟩:=zlq hx;have r1:=hRW _ hIB;have r2:=hRW _ hg;have q1:nr<q:=Nat.lt_of_lt_of_le (List.getElem?_eq_some_iff.1 r1).1 H.ll;have q2:gb<q:=Nat.lt_of_lt_of_le (List.getElem?_eq_some_iff.1 r2).1 H.ll;have hlen:IB.cells.length=li.length * 3:=by rw [hcells];exact zgv (fl:=actC) (s:=3) (fun _=>rfl) li
  have cl:(List.take 3 (List.drop (k * 3) IB.cells)).toArray=#[.int .u8 x.d,.int .i64 x.a,.int .i64 x.b]:=by rw [hcells,zjb (fl:=actC) (s:=3) (fun _=>rfl) hx];rfl
  refine viaD ?_;refine Goes.drawC 6 (by kernel_rfl) ?_
  repeat (refine qw1 rfl rfl rfl fun K hK=>?_;simp (disch:=(first|omega|(simp only [sz]<;>omega)|fail)) only [go_sem,r1,r2,cl];with_reducible refine hK _ _ ?_;clear hK K)
  (refine qg2 rfl rfl fun K hK=>?_;simp (disch:=(first|omega|(simp only [sz]<;>omega)|fail)) only [go_sem]);refine zml H (by decide) hRW hW hT x (fun m hm=>by rw [hAi];exact hx2 m hm) hR fun st' R' γ' l' q' S' ws' bs' W' h1 h2 h3 h4 h5=>?_
  ((try simp only [go_sem]);with_reducible refine hK _ _ _ _ ?_;clear hK K)
  refine viaD ?_;have e1:(zaX (li.take k)).length+(actT x).length=(zaX (li.take (k+1))).length:=by rw [hx1,List.length_append]
  rw [e1] at h4 h5;refine Goes.again (ih (li.length - (k+1)) _ _ _ _ (by omega) ⟨k+1,st',R',l',q',ws',bs',W',rfl,by omega,rfl,h1,h2,h3,h4,h5,rfl,rfl,rfl,rfl,by push_cast;rfl⟩)
end
def LawRunsO {Γ:Type} (Pr:Proto Γ) (f:FuncId) (args:Array Value) (rows:List (Option Blk)) (γ:Γ):Prop :=
  ∃ g c,Try.prog.funcs[f]?=some g/\g.body=some c/\(∀ u∈args,Clo (Kn rows.length 0) u)/\GE MF (SpM Pr) g (fun c γ'=>∃ h1 S1,c=.done (.bool true) h1 S1/\KeepC γ'.2 S1/\Idle S1) (.run (zah g c args).1 (zah g c args).2 (zaq rows) []) (γ,[])
theorem LawRunsO.mk {Γ:Type} {Pr:Proto Γ} {f:FuncId} {g:Func} {c:Code} {args:Array Value} {rows:List (Option Blk)} {γ:Γ} (hf:Try.prog.funcs[f]?=some g) (hb:g.body=some c) (hcl:∀ u∈args,Clo (Kn rows.length 0) u)
    (hrun:Goes MF g (fun x=>GE MF (SpM Pr) g (fun c γ'=>∃ h1 S1,c=.done (.bool true) h1 S1/\KeepC γ'.2 S1/\Idle S1) x (γ,[])) (.run [.code c] (args.toList++List.replicate (g.ntmps - args.size) undef) (zaq rows) [])):LawRunsO Pr f args rows γ:=⟨g,c,hf,hb,hcl,GE.go hrun⟩
theorem LawRunsO.runs {Γ:Type} {Pr:Proto Γ} {f:FuncId} {fg:Func} {t:Tmp} {args:Array Value} {rows:List (Option Blk)} {γ:Γ} (L:LawRunsO Pr f args rows γ) (hf:Try.prog.funcs[f]?=some fg) (hr:fg.results=#[.tmp t]) (hi:Try.prog.inits.idxOf? f=none) (F:Emb) (W:World) (hrow:∀ (n:Nat) (b:Blk),rows[n]?=some (some b)->Lies W b (F.blk n) (F.base n)) (hlen:rows.length<1000000) :
    ∃ M last o w' t',runNT Try.prog (M+1) (solo (Go.Conc.G (Frame.enter Try.prog f (args.map (ren F)) .normal) []) W) #[]=(.ended o w',t')/\runN Try.prog M (solo (Go.Conc.G (Frame.enter Try.prog f (args.map (ren F)) .normal) []) W)=.next last /\
      step Try.prog last=.ended o w'/\Conc.Good Try.prog (fun v w'=>v=.bool true/\Go.RowKit.Below W.heap.size W w') last o w' t':=by
  obtain⟨g,c,h1,h2,hcl,G⟩:=L;rw [hf] at h1;cases h1;have hget:∀ (n:Nat) (b:Blk),(zaq rows).get n=some b->rows[n]?=some (some b):=fun n b h=>by
    rw [zaM] at h;cases hr:rows[n]? with
    | none=>rw [hr] at h;cases h
    | some o=>rw [hr] at h;rw [show o=some b from h]
  refine ziv (F:=F) (w00:=W) hf h2 hr hi ⟨fun n b hb=>?_,fun n m b c hb _ _ hro=>?_⟩ (zbn _) (by rw [zaa];unfold VB;omega) (fun n b hb=>(hrow n b (hget n b hb)).1) (fun u hu=>(hcl u hu).stab F) (fun n b hb v hv=>Stab.plain ((hrow n b (hget n b hb)).2.2.1 v hv)) G
  . obtain⟨r1,r2,r3,pre,post,fr,r4,r5⟩:=hrow n b (hget n b hb);refine⟨pre,post,fr,?_,r5,(fun h=>by rw [r1] at h;cases h),(fun h=>by rw [r2] at h;cases h),(fun s h=>by rw [r2] at h;cases h)⟩
    rw [<-zan r3];exact r4
  . have:=(hrow n b (hget n b hb)).1;rw [hro] at this;cases this
def u8N (x:Nat):List Value:=[.int .u8 (x:Int)]
theorem zq3 {len:Nat} {z:Nat->Nat->Int} {w:World} {a:Option Addr} {cap:Nat} (h:RowS [.u8] w a len cap z):∃ l:List Nat,l.length=len/\(∀ x∈l,x<=255)/\len<=9223372036854775807/\(0<l.length->∃ x,a=some x/\∀ (i:Nat) (y:Nat),l[i]?=some y->∀ (j:Nat) (v:Value),(u8N y)[j]?=some v->w.cell? (x.add (i * 1+j))=some v):=by
  refine⟨(List.range len).map fun i=>min (z i 0).toNat 255,by simp,fun x hx=>?_,?_,fun hl=>?_⟩
  . obtain⟨i,_,rfl⟩:=List.mem_map.1 hx;exact Nat.min_le_right _ _
  . rcases h with ⟨rfl,rfl,rfl⟩|⟨x,rfl,h1,h2,h3⟩
    . omega
    . have hm:maxLen<=9223372036854775807:=by decide
      omega
  . rcases h with ⟨rfl,rfl,rfl⟩|⟨x,rfl,h1,h2,h3⟩
    . simp at hl
    . refine⟨x,rfl,fun i y hy j v hv=>?_⟩;have hi:i<len:=by have:=(List.getElem?_eq_some_iff.1 hy).1;simpa using this
      simp [List.getElem?_range hi] at hy;subst hy
      match j,hv with
      | 0,hv =>
        simp only [u8N,zGz,Option.some.injEq] at hv;have h4:=h3 i hi 0 .u8 rfl;have h5:0<=z i 0/\z i 0<=255:=by simpa [Lit.wf,IntKind.min,IntKind.max,IntKind.signed,IntKind.bits] using h4.2
        rw [<-hv];have e:((min (z i 0).toNat 255:Nat):Int)=z i 0:=by omega
        rw [e];exact h4.1
      | j+1,hv=>simp [u8N] at hv
theorem bnil:zab .nilFunc=true/\Value.cells .nilFunc=#[.nilFunc]:=⟨rfl,rfl⟩
attribute [go_sem] bnil
theorem znS:AppT Try.prog 32 39 0:=AppT.of (bs:=8) (z:=.nilFunc) (by simp only [go_sem]) (by simp only [go_sem]) (by simp only [go_sem]) (by simp only [go_sem]) (by simp [zab,Value.cells])
abbrev bdV (b:Nat × Array Value):Value:=.func (.func b.1) #[] b.2
def bdB (bds:List (Nat × Array Value)):Blk:=⟨bds.map bdV,39,false,some 1⟩
def BdR (bds:List (Nat × Array Value)) (l:List (Option Blk)) (v:Value):Prop:=(bds=[]/\v=.slice none 0 0)\/(0<bds.length/\∃ nb,v=.slice (some ⟨nb,0,none⟩) bds.length bds.length/\l[nb]?=some (some (bdB bds)))
theorem BdR.nb {bds:List (Nat × Array Value)} {l:List (Option Blk)} {v:Value} (h:BdR bds l v) (h0:0<bds.length):∃ nb,v=.slice (some ⟨nb,0,none⟩) bds.length bds.length/\l[nb]?=some (some (bdB bds)):=by
  rcases h with ⟨rfl,_⟩|⟨_,h⟩
  . simp at h0
  . exact h
theorem zue {bds:List (Nat × Array Value)} (j:Nat) (b:Nat × Array Value) (h:bds[j]?=some b):(bdB bds).cells[j]?=some (.func (.func b.1) #[] b.2):=by simp [bdB,h]
theorem zl0 {l lf:List (Option Blk)} {nt:Nat} {B:Blk} (hnt:l[nt]?=some (some B)) (hge:Ge (l.set nt none) lf) {x:Nat} {y:Blk} (h:l[x]?=some (some y)) (hne:B≠y):lf[x]?=some (some y):=hge x y (by
  rw [List.getElem?_set_ne fun e=>?_]
  . exact h
  . subst e;rw [hnt] at h;cases h;exact hne rfl)
theorem zrl {bds:List (Nat × Array Value)} {y:Blk} (h:y.elem≠39\/y.ro=true):bdB bds≠y:=fun e=>by
  subst e;rcases h with h|h
  . exact h rfl
  . cases h
section
open Go.ChangeShapes Go.WideShapes Go.Deep
variable {H:Type} {enc:TypeId × Value->H} {P:Program} {w:World} {base:Nat} {spare:Nat->Bool} {held:Bool}
def zsl (ks:List IntKind) (w:World) (a:Option Addr) (len cap:Nat) (zs:Nat->(Option Addr × Nat × Nat) × (Nat->Nat->Int)):Prop :=
  (a=none/\len=0/\cap=0)\/∃ x,a=some x/\len<=cap/\cap<=maxLen/\∀ i,i<len->w.cell? (x.add i)=some (.slice (zs i).1.1 (zs i).1.2.1 (zs i).1.2.2)/\RowS ks w (zs i).1.1 (zs i).1.2.1 (zs i).1.2.2 (zs i).2
theorem zo9 {t e e2:TypeId} {ks:List IntKind} {fuel:Nat} {a:Option Addr} {len cap:Nat} {x:DataW H × List MemPlace} (ht:P.underlying t=some (.slice e)) (he:P.underlying e=some (.slice e2)) (hc:P.cellsOf e=1)
    (inner:∀ (fuel:Nat) (a:Option Addr) (len cap:Nat) (x:DataW H × List MemPlace),DataW.trod enc P w base spare held fuel e [.slice a len cap]=some x->∃ z,RowS ks w a len cap z)
    (h:DataW.trod enc P w base spare held fuel t [.slice a len cap]=some x):∃ zs,zsl ks w a len cap zs:=by
  rcases open_slice1 ht hc h with h0|⟨a',len',cap',m,n,V,D,Pl,hcs,hb,hl,hm,hmm,hx,hi⟩
  . have:=h0.1;simp only [List.cons.injEq,Value.slice.injEq,and_true] at this;obtain⟨rfl,rfl,rfl⟩:=this;exact⟨fun _=>((none,0,0),fun _ _=>0),.inl ⟨rfl,rfl,rfl⟩⟩
  . simp only [List.cons.injEq,Value.slice.injEq,and_true] at hcs;obtain⟨rfl,rfl,rfl⟩:=hcs;have each:∀ i,∃ y:(Option Addr × Nat × Nat) × (Nat->Nat->Int),i<len->w.cell? (a'.add i)=some (.slice y.1.1 y.1.2.1 y.1.2.2)/\RowS ks w y.1.1 y.1.2.1 y.1.2.2 y.2:=fun i=>by
      by_cases hil:i<len
      . obtain⟨h1,h2⟩:=hi i (by rw [hmm];split<;>omega)
        have h3:∃ s n c,V i=.slice s n c:=by
          rcases open_slice he h2 with h0|⟨a2,l2,c2,_,_,_,_,h4,_⟩
          . have:=h0.1;simp only [List.cons.injEq,and_true] at this;exact⟨_,_,_,this⟩
          . simp only [List.cons.injEq,and_true] at h4;exact⟨_,_,_,h4⟩
        obtain⟨s,n',c,h4⟩:=h3;rw [h4] at h1 h2;obtain⟨z,hz⟩:=inner _ _ _ _ _ h2;exact⟨((s,n',c),z),fun _=>⟨h1,hz⟩⟩
      . exact⟨((none,0,0),fun _ _=>0),fun h=>absurd h hil⟩
    exact⟨fun i=>Classical.choose (each i),.inr ⟨a',rfl,hl,hm,fun i hil=>Classical.choose_spec (each i) hil⟩⟩
end
def zr7 (w:World) (F:Emb) (k:Nat) (n:Nat) (b:Blk):Prop:=b.ro=true/\b.grow=none/\(∀ v∈b.cells,Stab (Kn k 0) F v)/\∃ (pre post:Array Value) (fr:Nat × Nat),w.heap[F.blk n]?=some (.cells (pre++(b.cells.map (ren F)).toArray++post) b.elem fr)/\pre.size=F.base n
theorem Lies.f {w:World} {F:Emb} {k n:Nat} {b:Blk} {bk bs:Nat} (h:Lies w b bk bs) (h1:F.blk n=bk) (h2:F.base n=bs):zr7 w F k n b:=by
  obtain⟨r1,r2,r3,pre,post,fr,r4,r5⟩:=h;exact⟨r1,r2,fun v hv=>Stab.plain (r3 v hv),pre,post,fr,by rw [h1,<-zan r3];exact r4,by rw [h2];exact r5⟩
theorem LawRunsO.runsF {Γ:Type} {Pr:Proto Γ} {f:FuncId} {fg:Func} {t:Tmp} {args:Array Value} {rows:List (Option Blk)} {γ:Γ} (L:LawRunsO Pr f args rows γ) (hf:Try.prog.funcs[f]?=some fg) (hr:fg.results=#[.tmp t]) (hi:Try.prog.inits.idxOf? f=none) (F:Emb) (W:World) (hrow:∀ (n:Nat) (b:Blk),rows[n]?=some (some b)->zr7 W F rows.length n b) (hlen:rows.length<1000000) :
    ∃ M last o w' t',runNT Try.prog (M+1) (solo (Go.Conc.G (Frame.enter Try.prog f (args.map (ren F)) .normal) []) W) #[]=(.ended o w',t')/\runN Try.prog M (solo (Go.Conc.G (Frame.enter Try.prog f (args.map (ren F)) .normal) []) W)=.next last /\
      step Try.prog last=.ended o w'/\Conc.Good Try.prog (fun v w'=>v=.bool true/\Go.RowKit.Below W.heap.size W w') last o w' t':=by
  obtain⟨g,c,h1,h2,hcl,G⟩:=L;rw [hf] at h1;cases h1;have hget:∀ (n:Nat) (b:Blk),(zaq rows).get n=some b->rows[n]?=some (some b):=fun n b h=>by
    rw [zaM] at h;cases hr:rows[n]? with
    | none=>rw [hr] at h;cases h
    | some o=>rw [hr] at h;rw [show o=some b from h]
  refine ziv (F:=F) (w00:=W) hf h2 hr hi ⟨fun n b hb=>?_,fun n m b c hb _ _ hro=>?_⟩ (zbn _) (by rw [zaa];unfold VB;omega) (fun n b hb=>(hrow n b (hget n b hb)).1) (fun u hu=>(hcl u hu).stab F) (fun n b hb v hv=>(hrow n b (hget n b hb)).2.2.1 v hv) G
  . obtain⟨r1,r2,r3,pre,post,fr,r4,r5⟩:=hrow n b (hget n b hb);exact⟨pre,post,fr,r4,r5,(fun h=>by rw [r1] at h;cases h),(fun h=>by rw [r2] at h;cases h),(fun s h=>by rw [r2] at h;cases h)⟩
  . have:=(hrow n b (hget n b hb)).1;rw [hro] at this;cases this
structure zrq {α:Type} (fl:α->List Value) (w:World) (ls:List (List α)) (a:Option Addr) (cap q p:Nat) (sl:Option Addr) (ps:List (Option Addr × Nat)) (ob:Option Blk) (obs:List (Option Blk)) (bk bs:Nat) (bks bss:List Nat):Prop where
  len:ps.length=ls.length/\obs.length=ls.length/\bks.length=ls.length/\bss.length=ls.length
  at0:SlAt q sl
  row0:0<ls.length->sl=some ⟨q,0,none⟩/\∃ el,ob=some ⟨(List.range ls.length).map (fun i=>Value.slice (ps.getD i (none,0)).1 (ls.getD i []).length (ps.getD i (none,0)).2),el,true,none⟩
  at':∀ i,i<ls.length->SlAt (p+i) (ps.getD i (none,0)).1
  row:∀ i,i<ls.length->znx fl (p+i) (ps.getD i (none,0)).1 (ls.getD i []) (obs.getD i none)
  ren:∀ F:Emb,F.blk q=bk->F.base q=bs->F.slack q=0->ren F (.slice sl ls.length cap)=.slice a ls.length cap
  lies:∀ i,i<ls.length->∀ b,obs.getD i none=some b->Lies w b (bks.getD i 0) (bss.getD i 0)
  lies0:∀ (F:Emb) (k:Nat),F.blk q=bk->F.base q=bs->(∀ i,i<ls.length->F.blk (p+i)=bks.getD i 0/\F.base (p+i)=bss.getD i 0/\F.slack (p+i)=0)->p+ls.length<=k->∀ b,ob=some b->zr7 w F k q b
theorem zqD {α:Type} (fl:α->List Value) {s:Nat} (hs:∀ x,(fl x).length=s) (hs0:0<s) (hp:∀ x,∀ v∈fl x,zab v=true) (ls:List (List α)) (a:Option Addr) (cap:Nat) (w:World) (q p:Nat) (za:Nat->Option Addr × Nat)
    (h0:0<ls.length->∃ x,a=some x/\∀ i,i<ls.length->w.cell? (x.add i)=some (.slice (za i).1 (ls.getD i []).length (za i).2))
    (h:∀ i,i<ls.length->0<(ls.getD i []).length->∃ x,(za i).1=some x/\∀ (j:Nat) (y:α),(ls.getD i [])[j]?=some y->∀ (m:Nat) (v:Value),(fl y)[m]?=some v->w.cell? (x.add (j * s+m))=some v) :
    ∃ sl ps ob obs bk bs bks bss,zrq fl w ls a cap q p sl ps ob obs bk bs bks bss:=by
  have each:∀ i,∃ y:Option Addr × Option Blk × Nat × Nat,i<ls.length->(∀ F:Emb,F.blk (p+i)=y.2.2.1->F.base (p+i)=y.2.2.2->F.slack (p+i)=0->ren F (.slice y.1 (ls.getD i []).length (za i).2)=.slice (za i).1 (ls.getD i []).length (za i).2)/\SlAt (p+i) y.1/\znx fl (p+i) y.1 (ls.getD i []) y.2.1/\∀ b,y.2.1=some b->Lies w b y.2.2.1 y.2.2.2:=fun i=>by
    by_cases hi:i<ls.length
    . obtain⟨sl,ob,bk,bs,r⟩:=zjj fl hs hs0 hp (ls.getD i []) (za i).1 (za i).2 w (p+i) (h i hi);exact⟨(sl,ob,bk,bs),fun _=>r⟩
    . exact⟨(none,none,0,0),fun h=>absurd h hi⟩
  obtain⟨Y,hY⟩:∃ Y:Nat->Option Addr × Option Blk × Nat × Nat,∀ i,i<ls.length->(∀ F:Emb,F.blk (p+i)=(Y i).2.2.1->F.base (p+i)=(Y i).2.2.2->F.slack (p+i)=0->ren F (.slice (Y i).1 (ls.getD i []).length (za i).2)=.slice (za i).1 (ls.getD i []).length (za i).2)/\SlAt (p+i) (Y i).1/\znx fl (p+i) (Y i).1 (ls.getD i []) (Y i).2.1/\∀ b,(Y i).2.1=some b->Lies w b (Y i).2.2.1 (Y i).2.2.2:=⟨fun i=>Classical.choose (each i),fun i hi=>Classical.choose_spec (each i) hi⟩;have gd:∀ {β:Type} (f:Nat->β) (d:β) (i:Nat),i<ls.length->((List.range ls.length).map f).getD i d=f i:=fun f d i hi=>by simp [List.getD,hi]
  have base:∀ (sl:Option Addr) (ob:Option Blk) (bk bs:Nat),SlAt q sl->(0<ls.length->sl=some ⟨q,0,none⟩/\∃ el,ob=some ⟨(List.range ls.length).map (fun i=>Value.slice (Y i).1 (ls.getD i []).length (za i).2),el,true,none⟩)->(∀ F:Emb,F.blk q=bk->F.base q=bs->F.slack q=0->ren F (.slice sl ls.length cap)=.slice a ls.length cap) ->
      (∀ b,ob=some b->0<ls.length/\∃ (el:TypeId) (pre post:Array Value) (fr:Nat × Nat),b=⟨(List.range ls.length).map (fun i=>Value.slice (Y i).1 (ls.getD i []).length (za i).2),el,true,none⟩/\w.heap[bk]?=some (.cells (pre++((List.range ls.length).map (fun i=>Value.slice (za i).1 (ls.getD i []).length (za i).2)).toArray++post) el fr)/\pre.size=bs) ->
      zrq fl w ls a cap q p sl ((List.range ls.length).map fun i=>((Y i).1,(za i).2)) ob ((List.range ls.length).map fun i=>(Y i).2.1) bk bs ((List.range ls.length).map fun i=>(Y i).2.2.1) ((List.range ls.length).map fun i=>(Y i).2.2.2):=fun sl ob bk bs c1 c2 c3 c4=>by
    refine⟨by simp,c1,fun hl=>?_,fun i hi=>?_,fun i hi=>?_,c3,fun i hi b hb=>?_,fun F k f1 f2 f3 hk b hb=>?_⟩
    . obtain⟨e1,el,e2⟩:=c2 hl;refine⟨e1,el,?_⟩;rw [e2];have:(List.range ls.length).map (fun i=>Value.slice (Y i).1 (ls.getD i []).length (za i).2)=(List.range ls.length).map (fun i=>Value.slice (((List.range ls.length).map fun i=>((Y i).1,(za i).2)).getD i (none,0)).1 (ls.getD i []).length (((List.range ls.length).map fun i=>((Y i).1,(za i).2)).getD i (none,0)).2):=List.map_congr_left fun i hi=>by
        rw [gd _ _ i (List.mem_range.1 hi)]
      rw [this]
    . rw [gd _ _ i hi];exact (hY i hi).2.1
    . rw [gd _ _ i hi,gd _ _ i hi];exact (hY i hi).2.2.1
    . rw [gd _ _ i hi] at hb;rw [gd _ _ i hi,gd _ _ i hi];exact (hY i hi).2.2.2 b hb
    . obtain⟨hl,el,pre,post,fr,rfl,r1,r2⟩:=c4 b hb;refine⟨rfl,rfl,fun v hv=>?_,pre,post,fr,?_,by rw [f2];exact r2⟩
      . obtain⟨i,hi,rfl⟩:=List.mem_map.1 hv;have hi:=List.mem_range.1 hi;exact ((hY i hi).2.1.clo (show p+i<k by omega)).stab F
      . rw [f1];have:((List.range ls.length).map (fun i=>Value.slice (Y i).1 (ls.getD i []).length (za i).2)).map (Go.Proofs.Ytkjmaapbeicmkaa.ren F)=(List.range ls.length).map (fun i=>Value.slice (za i).1 (ls.getD i []).length (za i).2):=by
          rw [List.map_map];refine List.map_congr_left fun i hi=>?_;have hi:=List.mem_range.1 hi;obtain⟨g1,g2,g3⟩:=f3 i hi;rw [gd _ _ i hi] at g1 g2;exact (hY i hi).1 F g1 g2 g3
        rw [this];exact r1
  by_cases hl:0<ls.length
  . obtain⟨x,rfl,hx⟩:=h0 hl;obtain⟨b,off,spot⟩:=x;have hpos:0<((List.range ls.length).map fun i=>Value.slice (za i).1 (ls.getD i []).length (za i).2).length:=by simpa using hl
    have hspot:spot=none:=by
      have:=hx 0 hl;simpa [Addr.add] using World.cell?_spot this
    subst hspot;obtain⟨el,pre,post,fr,r1,r2⟩:=zf5 (w:=w) (b:=b) (off:=off) hpos (fun i hi=>by
      have hi:i<ls.length:=by simpa using hi
      have:=hx i hi;unfold Addr.add at this;split at this
      . rename_i hz;simp only [hz] at this ⊢;simpa [hz,hl] using this
      . simpa [hi] using this)
    exact⟨_,_,_,_,_,_,_,_,base (some ⟨q,0,none⟩) (some ⟨(List.range ls.length).map (fun i=>Value.slice (Y i).1 (ls.getD i []).length (za i).2),el,true,none⟩) b off (fun y hy=>by cases hy;rfl) (fun _=>⟨rfl,el,rfl⟩) (fun F f1 f2 f3=>by simp [adr,f1,f2,f3]) fun c hc=>by
      cases hc;exact⟨hl,el,pre,post,fr,rfl,r1,r2⟩⟩
  . cases a with
    | none=>exact⟨_,_,_,_,_,_,_,_,base none none 0 0 (fun y hy=>by cases hy) (fun h=>absurd h hl) (fun F _ _ _=>by simp) fun b hb=>by cases hb⟩
    | some x =>
      obtain⟨b,off,spot⟩:=x;exact⟨_,_,_,_,_,_,_,_,base (some ⟨q,0,spot⟩) none b off (fun y hy=>by cases hy;rfl) (fun h=>absurd h hl) (fun F f1 f2 f3=>by simp [adr,f1,f2,f3]) fun b hb=>by cases hb⟩
end Go.Proofs.Ytkjmaapbeicmkaa
