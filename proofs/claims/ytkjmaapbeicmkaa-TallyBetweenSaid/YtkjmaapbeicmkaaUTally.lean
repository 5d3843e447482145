/-
  Contracts, over the abstract machine: tally.
  Conditions: the port and its memory are there; step counts are far from their end.
-/
import Derived.Test.YtkjmaapbeicmkaaUThr54
import Derived.Test.YtkjmaapbeicmkaaUCo22
import Derived.Test.YtkjmaapbeicmkaaUPlay3
set_option maxHeartbeats 40000000
set_option linter.unusedVariables false
set_option linter.unusedSimpArgs false
open List renaming getElem?_eq_some_iff->qa,replicate->qc,getElem?_set_ne->qd,getElem?_set_self->qh,set_cons_zero->qj,set_cons_succ->qk,getElem?_append_left->ql,getElem?_append_right->qr,getElem?_eq_getElem->qs,getElem?_eq_none->qy,mem_cons_of_mem->qz,getElem?_map->qK,map_set->qR,flatMap_append->qV,length_append->qY,take_add_one->q6,getElem?_set->q7,ext_getElem?->q8,length_map->q9
open UInt64 renaming ofInt->qb,le_iff_toNat_le->qo,add_assoc->qp,le_trans->qv,le_refl->qx,toNat_add->qI
open Nat renaming lt_of_lt_of_le->qe,zero_add->qf,le_refl->qg,le_of_eq->qi
open Go.IntKind renaming i64->qm,wrap_u64->qW
open Go.Proofs.Ytkjmaapbeicmkaa.Goes renaming retG->qn,fin->qu,ctl2->qB,drawR->qH,yes->qL,reg->qM,inLoop->qN,no->qO,loop->qQ,folds->qZ,drawC->q0,again->q4
open Go.Proofs.Ytkjmaapbeicmkaa.Hand renaming plain->qq
open Go.Proofs.Ytkjmaapbeicmkaa.At renaming folds->qw,nil->qU,callX->q5
open Go.Proofs.Ytkjmaapbeicmkaa.Does renaming com->qA,mk->qC
open Go.Proofs.Ytkjmaapbeicmkaa.RGL renaming skipu->qD,skipg->qE
open Go.Proofs.Ytkjmaapbeicmkaa.AtL renaming skipu->qF,skipg->qG
namespace Go.Proofs.Ytkjmaapbeicmkaa
open Go Go.RowKit
theorem zcY(n:Int):IntKind.u64.wrap n=((qb n).toNat:Int):=by
  rw[qW];unfold qb;simp[UInt64.toNat_ofNat'];omega
theorem zsv(n:Int):IntKind.u64.wrap (qm.wrap n)=((qb n).toNat:Int):=by
  rw[<-zcY];simp only[qW,IntKind.wrap_i64];omega
def tAdd(N T:Nat)(l:List (Int×UInt64))(ws:List UInt64):List UInt64:=l.foldl (fun ws x=>wS 4 (gat N T 2 x.1) x.2 0 ws) ws
def zjH(cs:List Value):Blk:={ cells:=cs,elem:=75,ro:=true,grow:=none }
theorem zrr(S:St)(p m me:Nat)(steps:Nat)(ws:List UInt64)(bs:List UInt8)(N T:Nat)(k1 n1:Int)(hp:S[p]?=some (.port m me steps))(hm:S[m]?=some (.mem ws bs))(hs:steps<=100000000000)(hN:N<=256)(hT:T<=64):
    DoesX OF 32 #[prtV p,.agg (geoC N T),.slice (some ⟨0,0,none⟩) 1 1] [zjH [.int .i64 k1,.int .i64 n1]] S (.tuple #[]) [zjH [.int .i64 k1,.int .i64 n1]] [] (accS S p m me (steps+1) (tAdd N T [(k1,qb n1)] ws) bs):=by
  refine DoesX.mk Try.func32 rfl rfl ?clo ?rows ?_
  case clo=>exact clo3 (pclo (zgb hp)) gclo (zrq (by simp))
  case rows=>exact zh5 (by simp[zjH,zab])
  rw[Try.ntmps32];simp only[zSt,zLc,zLn,qc,zCa,zNa];simp only[zjH,zMp,zMn];refine viaL ?_;((first|refine qp1 rfl rfl fun K hK=>?_|refine qp3 rfl rfl fun K hK=>?_);simp (disch:=(first|omega|(simp only[sz]<;>omega)|fail)) only [go_sem];(first|refine⟨_,_,(qpd fun w=>zae N T k1 w hN hT),?_⟩|refine⟨_,_,(qpu fun w=>zae N T k1 w hN hT),?_⟩|refine⟨_,_,.com (qpd fun w=>zae N T k1 w hN hT),?_⟩|refine⟨_,_,.com (qpu fun w=>zae N T k1 w hN hT),?_⟩);(try simp only[go_sem]);with_reducible refine hK _ _ ?_;clear hK K)
  repeat(first|refine qQ ?_|refine qN ?_|refine qM ?_|refine qB rfl ?_|((first|refine qv1 rfl rfl rfl fun K hK=>?_|refine qv3 rfl rfl rfl fun K hK=>?_|refine qv2 rfl rfl rfl rfl rfl rfl fun K hK=>?_|refine qv4 rfl rfl rfl rfl rfl rfl fun K hK=>?_|refine qn1 rfl rfl rfl fun K hK=>?_|refine qn3 rfl rfl rfl fun K hK=>?_|refine qt1 rfl rfl rfl fun K hK=>?_|refine qt3 rfl rfl rfl fun K hK=>?_);simp (disch:=(first|omega|(simp only[sz]<;>omega)|fail)) only [go_sem,zcY];with_reducible refine hK _ _ ?_;clear hK K)|refine qU rfl ?_|refine RG.nil rfl ?_|((first|refine qG rfl rfl rfl rfl rfl ?_|refine qE rfl rfl rfl rfl rfl ?_|refine qF rfl rfl rfl rfl ?_|refine qD rfl rfl rfl rfl ?_);simp only[putL,qj,qk])|refine qL rfl ?_|refine qO rfl ?_|refine qH [] (by kernel_rfl) ?_)
  ((first|refine qp1 rfl rfl fun K hK=>?_|refine qp3 rfl rfl fun K hK=>?_);simp (disch:=(first|omega|(simp only[sz]<;>omega)|fail)) only [go_sem];(first|refine⟨_,_,.add _ (qb n1) hp hm (by omega),?_⟩|refine⟨_,_,.com (.add _ (qb n1) hp hm (by omega)),?_⟩);(try simp only[go_sem]);with_reducible refine hK _ _ ?_;clear hK K)
  refine viaL ?_;refine Goes.finS rfl (by simp (disch:=(first|omega|(simp only[zaa,zLc,zLn,zSt,zad]<;>omega)|fail)) only [go_sem,resA,zaC,Try.results32]<;>rfl) ?_ rfl ?_
  . rfl
  . exact Clo.plain (by simp[zab])
theorem zrw(S:St)(p m me:Nat)(steps:Nat)(ws:List UInt64)(bs:List UInt8)(N T:Nat)(k1 n1 k2 n2 k3 n3:Int)(hp:S[p]?=some (.port m me steps))(hm:S[m]?=some (.mem ws bs))(hs:steps<=100000000000)(hN:N<=256)(hT:T<=64):
    DoesX OF 32 #[prtV p,.agg (geoC N T),.slice (some ⟨0,0,none⟩) 3 3] [zjH [.int .i64 k1,.int .i64 n1,.int .i64 k2,.int .i64 n2,.int .i64 k3,.int .i64 n3]] S (.tuple #[]) [zjH [.int .i64 k1,.int .i64 n1,.int .i64 k2,.int .i64 n2,.int .i64 k3,.int .i64 n3]] []
      (accS S p m me (steps+3) (tAdd N T [(k1,qb n1),(k2,qb n2),(k3,qb n3)] ws) bs):=by
  have hne:=zlq hp hm;refine DoesX.mk Try.func32 rfl rfl ?clo ?rows ?_
  case clo=>exact clo3 (pclo (zgb hp)) gclo (zrq (by simp))
  case rows=>exact zh5 (by simp[zjH,zab])
  rw[Try.ntmps32];simp only[zSt,zLc,zLn,qc,zCa,zNa];simp only[zjH,zMp,zMn];refine viaL ?_;((first|refine qp1 rfl rfl fun K hK=>?_|refine qp3 rfl rfl fun K hK=>?_);simp (disch:=(first|omega|(simp only[sz]<;>omega)|fail)) only [go_sem];(first|refine⟨_,_,(qpd fun w=>zae N T k1 w hN hT),?_⟩|refine⟨_,_,(qpu fun w=>zae N T k1 w hN hT),?_⟩|refine⟨_,_,.com (qpd fun w=>zae N T k1 w hN hT),?_⟩|refine⟨_,_,.com (qpu fun w=>zae N T k1 w hN hT),?_⟩);(try simp only[go_sem]);with_reducible refine hK _ _ ?_;clear hK K)
  repeat(first|refine qQ ?_|refine qN ?_|refine qM ?_|refine qB rfl ?_|((first|refine qv1 rfl rfl rfl fun K hK=>?_|refine qv3 rfl rfl rfl fun K hK=>?_|refine qv2 rfl rfl rfl rfl rfl rfl fun K hK=>?_|refine qv4 rfl rfl rfl rfl rfl rfl fun K hK=>?_|refine qn1 rfl rfl rfl fun K hK=>?_|refine qn3 rfl rfl rfl fun K hK=>?_|refine qt1 rfl rfl rfl fun K hK=>?_|refine qt3 rfl rfl rfl fun K hK=>?_);simp (disch:=(first|omega|(simp only[sz]<;>omega)|fail)) only [go_sem,zcY];with_reducible refine hK _ _ ?_;clear hK K)|refine qU rfl ?_|refine RG.nil rfl ?_|((first|refine qG rfl rfl rfl rfl rfl ?_|refine qE rfl rfl rfl rfl rfl ?_|refine qF rfl rfl rfl rfl ?_|refine qD rfl rfl rfl rfl ?_);simp only[putL,qj,qk])|refine qL rfl ?_|refine qO rfl ?_|refine qH [] (by kernel_rfl) ?_)
  ((first|refine qp1 rfl rfl fun K hK=>?_|refine qp3 rfl rfl fun K hK=>?_);simp (disch:=(first|omega|(simp only[sz]<;>omega)|fail)) only [go_sem];(first|refine⟨_,_,.add _ (qb n1) hp hm (by omega),?_⟩|refine⟨_,_,.com (.add _ (qb n1) hp hm (by omega)),?_⟩);(try simp only[go_sem]);with_reducible refine hK _ _ ?_;clear hK K)
  refine viaL ?_;((first|refine qp1 rfl rfl fun K hK=>?_|refine qp3 rfl rfl fun K hK=>?_);simp (disch:=(first|omega|(simp only[sz]<;>omega)|fail)) only [go_sem];(first|refine⟨_,_,(qpd fun w=>zae N T k2 w hN hT),?_⟩|refine⟨_,_,(qpu fun w=>zae N T k2 w hN hT),?_⟩|refine⟨_,_,.com (qpd fun w=>zae N T k2 w hN hT),?_⟩|refine⟨_,_,.com (qpu fun w=>zae N T k2 w hN hT),?_⟩);(try simp only[go_sem]);with_reducible refine hK _ _ ?_;clear hK K)
  repeat(first|refine qQ ?_|refine qN ?_|refine qM ?_|refine qB rfl ?_|((first|refine qv1 rfl rfl rfl fun K hK=>?_|refine qv3 rfl rfl rfl fun K hK=>?_|refine qv2 rfl rfl rfl rfl rfl rfl fun K hK=>?_|refine qv4 rfl rfl rfl rfl rfl rfl fun K hK=>?_|refine qn1 rfl rfl rfl fun K hK=>?_|refine qn3 rfl rfl rfl fun K hK=>?_|refine qt1 rfl rfl rfl fun K hK=>?_|refine qt3 rfl rfl rfl fun K hK=>?_);simp (disch:=(first|omega|(simp only[sz]<;>omega)|fail)) only [go_sem,zcY];with_reducible refine hK _ _ ?_;clear hK K)|refine qU rfl ?_|refine RG.nil rfl ?_|((first|refine qG rfl rfl rfl rfl rfl ?_|refine qE rfl rfl rfl rfl rfl ?_|refine qF rfl rfl rfl rfl ?_|refine qD rfl rfl rfl rfl ?_);simp only[putL,qj,qk])|refine qL rfl ?_|refine qO rfl ?_|refine qH [] (by kernel_rfl) ?_)
  ((first|refine qp1 rfl rfl fun K hK=>?_|refine qp3 rfl rfl fun K hK=>?_);simp (disch:=(first|omega|(simp only[sz]<;>omega)|fail)) only [go_sem];(first|refine⟨_,_,.add _ (qb n2) (zgq hp hm) (zgn hp hm) (by omega),?_⟩|refine⟨_,_,.com (.add _ (qb n2) (zgq hp hm) (zgn hp hm) (by omega)),?_⟩);(try simp only[go_sem]);with_reducible refine hK _ _ ?_;clear hK K)
  rw[zfW hne];refine viaL ?_;((first|refine qp1 rfl rfl fun K hK=>?_|refine qp3 rfl rfl fun K hK=>?_);simp (disch:=(first|omega|(simp only[sz]<;>omega)|fail)) only [go_sem];(first|refine⟨_,_,(qpd fun w=>zae N T k3 w hN hT),?_⟩|refine⟨_,_,(qpu fun w=>zae N T k3 w hN hT),?_⟩|refine⟨_,_,.com (qpd fun w=>zae N T k3 w hN hT),?_⟩|refine⟨_,_,.com (qpu fun w=>zae N T k3 w hN hT),?_⟩);(try simp only[go_sem]);with_reducible refine hK _ _ ?_;clear hK K)
  repeat(first|refine qQ ?_|refine qN ?_|refine qM ?_|refine qB rfl ?_|((first|refine qv1 rfl rfl rfl fun K hK=>?_|refine qv3 rfl rfl rfl fun K hK=>?_|refine qv2 rfl rfl rfl rfl rfl rfl fun K hK=>?_|refine qv4 rfl rfl rfl rfl rfl rfl fun K hK=>?_|refine qn1 rfl rfl rfl fun K hK=>?_|refine qn3 rfl rfl rfl fun K hK=>?_|refine qt1 rfl rfl rfl fun K hK=>?_|refine qt3 rfl rfl rfl fun K hK=>?_);simp (disch:=(first|omega|(simp only[sz]<;>omega)|fail)) only [go_sem,zcY];with_reducible refine hK _ _ ?_;clear hK K)|refine qU rfl ?_|refine RG.nil rfl ?_|((first|refine qG rfl rfl rfl rfl rfl ?_|refine qE rfl rfl rfl rfl rfl ?_|refine qF rfl rfl rfl rfl ?_|refine qD rfl rfl rfl rfl ?_);simp only[putL,qj,qk])|refine qL rfl ?_|refine qO rfl ?_|refine qH [] (by kernel_rfl) ?_)
  ((first|refine qp1 rfl rfl fun K hK=>?_|refine qp3 rfl rfl fun K hK=>?_);simp (disch:=(first|omega|(simp only[sz]<;>omega)|fail)) only [go_sem];(first|refine⟨_,_,.add _ (qb n3) (zgq hp hm) (zgn hp hm) (by omega),?_⟩|refine⟨_,_,.com (.add _ (qb n3) (zgq hp hm) (zgn hp hm) (by omega)),?_⟩);(try simp only[go_sem]);with_reducible refine hK _ _ ?_;clear hK K)
  rw[zfW hne];refine viaL ?_;refine Goes.finS rfl (by simp (disch:=(first|omega|(simp only[zaa,zLc,zLn,zSt,zad]<;>omega)|fail)) only [go_sem,resA,zaC,Try.results32]<;>rfl) ?_ rfl ?_
  . rfl
  . exact Clo.plain (by simp[zab])
theorem zeI(n:Int):qb (qm.wrap n)=qb n:=by
  apply UInt64.toNat_inj.1;have h1:=zcY n;have h2:=zsv n;rw[<-zcY]at h2;have h3:=zcY (qm.wrap n);omega
theorem zeH(S:St)(p m me:Nat)(steps:Nat)(ws:List UInt64)(bs:List UInt8)(N T:Nat)(A:Int)(hp:S[p]?=some (.port m me steps))(hm:S[m]?=some (.mem ws bs))(hs:steps<=100000000000)(hN:N<=256)(hT:T<=64):
    Does OF 16 #[prtV p,.agg (geoC N T),.int .i64 A] [] S (.tuple #[]) (accS S p m me (steps+3) (tAdd N T [(0,1),(3,1),(4,qb A)] ws) bs):=by
  refine qC Try.func16 rfl rfl ?clo ?hand ?_
  case clo=>exact clo3 (pclo (zgb hp)) gclo iclo
  case hand=>exact qq (by simp[zab])
  rw[Try.ntmps16];simp only[zSt,zLc,zLn,qc,zCa,zNa];refine via ?_;((first|refine q5 [1] rfl rfl rfl (by decide) rfl (fun K hK=>?_)|refine RG.callX [1] rfl rfl rfl rfl (by decide) (fun K hK=>?_));simp (disch:=(first|omega|(simp only[zaa,zLc,zLn,zSt,zad]<;>omega)|fail)) only [go_sem];refine⟨_,_,_,_,_,_,zrw S p m me steps ws bs N T 0 1 3 1 4 A hp hm hs hN hT,by first|rfl|simp (disch:=(first|omega|(simp only[zaa,zLc,zLn,zSt,zad]<;>omega)|fail)) only [go_sem],by((repeat(refine⟨⟨_,rfl,rfl,?_,(by first|exact .inr rfl|exact .inl rfl),(by first|exact fun h=>h|exact fun _=>rfl|(intro h;cases h))⟩,?_⟩;· first|exact zan zam|(simp[zbG];done)|exact zan (by simp[zab];done)|simp[up_0,up_1,up_2,zcX,zaz,zas,adr]));exact trivial),by first|exact⟨rfl,rfl⟩|rfl,?_⟩;(try simp only[go_sem]);(first|refine hK _ _ _ ?_|refine hK _ _ _ _ ?_);clear hK K)
  refine via ?_;refine qu rfl (by simp (disch:=(first|omega|(simp only[zaa,zLc,zLn,zSt,zad]<;>omega)|fail)) only [go_sem,resA,zaC,Try.results16]<;>rfl) ?_
  rfl
theorem zry(S:St)(p m me:Nat)(steps:Nat)(ws:List UInt64)(bs:List UInt8)(N T:Nat)(A:Int)(hp:S[p]?=some (.port m me steps))(hm:S[m]?=some (.mem ws bs))(hs:steps<=100000000000)(hN:N<=256)(hT:T<=64):
    Does OF 17 #[prtV p,.agg (geoC N T),.int .i64 A] [] S (.tuple #[]) (accS S p m me (steps+3) (tAdd N T [(1,1),(3,qb (-1)),(4,qb (0 - A))] ws) bs):=by
  rw[<-zeI (0 - A)];refine qC Try.func17 rfl rfl ?clo ?hand ?_
  case clo=>exact clo3 (pclo (zgb hp)) gclo iclo
  case hand=>exact qq (by simp[zab])
  rw[Try.ntmps17];simp only[zSt,zLc,zLn,qc,zCa,zNa];refine via ?_;((first|refine q5 [1] rfl rfl rfl (by decide) rfl (fun K hK=>?_)|refine RG.callX [1] rfl rfl rfl rfl (by decide) (fun K hK=>?_));simp (disch:=(first|omega|(simp only[zaa,zLc,zLn,zSt,zad]<;>omega)|fail)) only [go_sem];refine⟨_,_,_,_,_,_,zrw S p m me steps ws bs N T 1 1 3 (-1) 4 (qm.wrap (0 - A)) hp hm hs hN hT,by first|rfl|simp (disch:=(first|omega|(simp only[zaa,zLc,zLn,zSt,zad]<;>omega)|fail)) only [go_sem],by((repeat(refine⟨⟨_,rfl,rfl,?_,(by first|exact .inr rfl|exact .inl rfl),(by first|exact fun h=>h|exact fun _=>rfl|(intro h;cases h))⟩,?_⟩;· first|exact zan zam|(simp[zbG];done)|exact zan (by simp[zab];done)|simp[up_0,up_1,up_2,zcX,zaz,zas,adr]));exact trivial),by first|exact⟨rfl,rfl⟩|rfl,?_⟩;(try simp only[go_sem]);(first|refine hK _ _ _ ?_|refine hK _ _ _ _ ?_);clear hK K)
  refine via ?_;refine qu rfl (by simp (disch:=(first|omega|(simp only[zaa,zLc,zLn,zSt,zad]<;>omega)|fail)) only [go_sem,resA,zaC,Try.results17]<;>rfl) ?_
  rfl
theorem znH(S:St)(p m me:Nat)(steps:Nat)(ws:List UInt64)(bs:List UInt8)(N T:Nat)(hp:S[p]?=some (.port m me steps))(hm:S[m]?=some (.mem ws bs))(hs:steps<=100000000000)(hN:N<=256)(hT:T<=64):
    Does OF 18 #[prtV p,.agg (geoC N T)] [] S (.tuple #[]) (accS S p m me (steps+1) (tAdd N T [(2,1)] ws) bs):=by
  refine qC Try.func18 rfl rfl ?clo ?hand ?_
  case clo=>exact clo2 (pclo (zgb hp)) gclo
  case hand=>exact qq (by simp[zab])
  rw[Try.ntmps18];simp only[zSt,zLc,zLn,qc,zCa,zNa];refine via ?_;((first|refine q5 [1] rfl rfl rfl (by decide) rfl (fun K hK=>?_)|refine RG.callX [1] rfl rfl rfl rfl (by decide) (fun K hK=>?_));simp (disch:=(first|omega|(simp only[zaa,zLc,zLn,zSt,zad]<;>omega)|fail)) only [go_sem];refine⟨_,_,_,_,_,_,zrr S p m me steps ws bs N T 2 1 hp hm hs hN hT,by first|rfl|simp (disch:=(first|omega|(simp only[zaa,zLc,zLn,zSt,zad]<;>omega)|fail)) only [go_sem],by((repeat(refine⟨⟨_,rfl,rfl,?_,(by first|exact .inr rfl|exact .inl rfl),(by first|exact fun h=>h|exact fun _=>rfl|(intro h;cases h))⟩,?_⟩;· first|exact zan zam|(simp[zbG];done)|exact zan (by simp[zab];done)|simp[up_0,up_1,up_2,zcX,zaz,zas,adr]));exact trivial),by first|exact⟨rfl,rfl⟩|rfl,?_⟩;(try simp only[go_sem]);(first|refine hK _ _ _ ?_|refine hK _ _ _ _ ?_);clear hK K)
  refine via ?_;refine qu rfl (by simp (disch:=(first|omega|(simp only[zaa,zLc,zLn,zSt,zad]<;>omega)|fail)) only [go_sem,resA,zaC,Try.results18]<;>rfl) ?_
  rfl
theorem zlB(S:St)(p m me:Nat)(steps:Nat)(ws:List UInt64)(bs:List UInt8)(N T:Nat)(A B:Int)(hp:S[p]?=some (.port m me steps))(hm:S[m]?=some (.mem ws bs))(hs:steps<=100000000000)(hN:N<=256)(hT:T<=64):
    Does OF 19 #[prtV p,.agg (geoC N T),.int .i64 A,.int .i64 B] [] S (.tuple #[]) (accS S p m me (steps+1) (tAdd N T [(4,qb (B - A))] ws) bs):=by
  rw[<-zeI (B - A)];refine qC Try.func19 rfl rfl ?clo ?hand ?_
  case clo=>exact clo4 (pclo (zgb hp)) gclo iclo iclo
  case hand=>exact qq (by simp[zab])
  rw[Try.ntmps19];simp only[zSt,zLc,zLn,qc,zCa,zNa];refine via ?_;((first|refine q5 [1] rfl rfl rfl (by decide) rfl (fun K hK=>?_)|refine RG.callX [1] rfl rfl rfl rfl (by decide) (fun K hK=>?_));simp (disch:=(first|omega|(simp only[zaa,zLc,zLn,zSt,zad]<;>omega)|fail)) only [go_sem];refine⟨_,_,_,_,_,_,zrr S p m me steps ws bs N T 4 (qm.wrap (B - A)) hp hm hs hN hT,by first|rfl|simp (disch:=(first|omega|(simp only[zaa,zLc,zLn,zSt,zad]<;>omega)|fail)) only [go_sem],by((repeat(refine⟨⟨_,rfl,rfl,?_,(by first|exact .inr rfl|exact .inl rfl),(by first|exact fun h=>h|exact fun _=>rfl|(intro h;cases h))⟩,?_⟩;· first|exact zan zam|(simp[zbG];done)|exact zan (by simp[zab];done)|simp[up_0,up_1,up_2,zcX,zaz,zas,adr]));exact trivial),by first|exact⟨rfl,rfl⟩|rfl,?_⟩;(try simp only[go_sem]);(first|refine hK _ _ _ ?_|refine hK _ _ _ _ ?_);clear hK K)
  refine via ?_;refine qu rfl (by simp (disch:=(first|omega|(simp only[zaa,zLc,zLn,zSt,zad]<;>omega)|fail)) only [go_sem,resA,zaC,Try.results19]<;>rfl) ?_
  rfl
def zeQ(N T:Nat)(k:Int)(ws:List UInt64):UInt64:=wT 1 (gat N T 2 k) 0 ws
def zko(N T:Nat)(ws:List UInt64):Value:=.agg #[.int .u64 ((zeQ N T 0 ws).toNat:Int),.int .u64 ((zeQ N T 1 ws).toNat:Int),.int .u64 ((zeQ N T 2 ws).toNat:Int),.int .u64 ((zeQ N T 3 ws).toNat:Int),.int .u64 ((zeQ N T 4 ws).toNat:Int)]
theorem ztY(S:St)(p m me:Nat)(steps:Nat)(ws:List UInt64)(bs:List UInt8)(N T:Nat)(hp:S[p]?=some (.port m me steps))(hm:S[m]?=some (.mem ws bs))(hs:steps<=100000000000)(hN:N<=256)(hT:T<=64):
    Does OF 11 #[prtV p,.agg (geoC N T)] [] S (zko N T ws) (accS S p m me (steps+5) ws bs):=by
  have hne:=zlq hp hm;refine qC Try.func11 rfl rfl ?clo ?hand ?_
  case clo=>exact clo2 (pclo (zgb hp)) gclo
  case hand=>exact qq (by simp[zab,zko])
  rw[Try.ntmps11];simp only[zSt,zLc,zLn,qc,zCa,zNa];refine viaL ?_;((first|refine qp1 rfl rfl fun K hK=>?_|refine qp3 rfl rfl fun K hK=>?_);simp (disch:=(first|omega|(simp only[sz]<;>omega)|fail)) only [go_sem];(first|refine⟨_,_,(qpd fun w=>zae N T 0 w hN hT),?_⟩|refine⟨_,_,(qpu fun w=>zae N T 0 w hN hT),?_⟩|refine⟨_,_,.com (qpd fun w=>zae N T 0 w hN hT),?_⟩|refine⟨_,_,.com (qpu fun w=>zae N T 0 w hN hT),?_⟩);(try simp only[go_sem]);with_reducible refine hK _ _ ?_;clear hK K)
  refine viaL ?_;((first|refine qp1 rfl rfl fun K hK=>?_|refine qp3 rfl rfl fun K hK=>?_);simp (disch:=(first|omega|(simp only[sz]<;>omega)|fail)) only [go_sem];(first|refine⟨_,_,.load _ hp hm (by omega),?_⟩|refine⟨_,_,.com (.load _ hp hm (by omega)),?_⟩);(try simp only[go_sem]);with_reducible refine hK _ _ ?_;clear hK K)
  rw[zeh];refine viaL ?_;((first|refine qp1 rfl rfl fun K hK=>?_|refine qp3 rfl rfl fun K hK=>?_);simp (disch:=(first|omega|(simp only[sz]<;>omega)|fail)) only [go_sem];(first|refine⟨_,_,(qpd fun w=>zae N T 1 w hN hT),?_⟩|refine⟨_,_,(qpu fun w=>zae N T 1 w hN hT),?_⟩|refine⟨_,_,.com (qpd fun w=>zae N T 1 w hN hT),?_⟩|refine⟨_,_,.com (qpu fun w=>zae N T 1 w hN hT),?_⟩);(try simp only[go_sem]);with_reducible refine hK _ _ ?_;clear hK K)
  refine viaL ?_;((first|refine qp1 rfl rfl fun K hK=>?_|refine qp3 rfl rfl fun K hK=>?_);simp (disch:=(first|omega|(simp only[sz]<;>omega)|fail)) only [go_sem];(first|refine⟨_,_,.load _ (zgq hp hm) (zgn hp hm) (by omega),?_⟩|refine⟨_,_,.com (.load _ (zgq hp hm) (zgn hp hm) (by omega)),?_⟩);(try simp only[go_sem]);with_reducible refine hK _ _ ?_;clear hK K)
  rw[zeh,zfW hne];refine viaL ?_;((first|refine qp1 rfl rfl fun K hK=>?_|refine qp3 rfl rfl fun K hK=>?_);simp (disch:=(first|omega|(simp only[sz]<;>omega)|fail)) only [go_sem];(first|refine⟨_,_,(qpd fun w=>zae N T 2 w hN hT),?_⟩|refine⟨_,_,(qpu fun w=>zae N T 2 w hN hT),?_⟩|refine⟨_,_,.com (qpd fun w=>zae N T 2 w hN hT),?_⟩|refine⟨_,_,.com (qpu fun w=>zae N T 2 w hN hT),?_⟩);(try simp only[go_sem]);with_reducible refine hK _ _ ?_;clear hK K)
  refine viaL ?_;((first|refine qp1 rfl rfl fun K hK=>?_|refine qp3 rfl rfl fun K hK=>?_);simp (disch:=(first|omega|(simp only[sz]<;>omega)|fail)) only [go_sem];(first|refine⟨_,_,.load _ (zgq hp hm) (zgn hp hm) (by omega),?_⟩|refine⟨_,_,.com (.load _ (zgq hp hm) (zgn hp hm) (by omega)),?_⟩);(try simp only[go_sem]);with_reducible refine hK _ _ ?_;clear hK K)
  rw[zeh,zfW hne];refine viaL ?_;((first|refine qp1 rfl rfl fun K hK=>?_|refine qp3 rfl rfl fun K hK=>?_);simp (disch:=(first|omega|(simp only[sz]<;>omega)|fail)) only [go_sem];(first|refine⟨_,_,(qpd fun w=>zae N T 3 w hN hT),?_⟩|refine⟨_,_,(qpu fun w=>zae N T 3 w hN hT),?_⟩|refine⟨_,_,.com (qpd fun w=>zae N T 3 w hN hT),?_⟩|refine⟨_,_,.com (qpu fun w=>zae N T 3 w hN hT),?_⟩);(try simp only[go_sem]);with_reducible refine hK _ _ ?_;clear hK K)
  refine viaL ?_;((first|refine qp1 rfl rfl fun K hK=>?_|refine qp3 rfl rfl fun K hK=>?_);simp (disch:=(first|omega|(simp only[sz]<;>omega)|fail)) only [go_sem];(first|refine⟨_,_,.load _ (zgq hp hm) (zgn hp hm) (by omega),?_⟩|refine⟨_,_,.com (.load _ (zgq hp hm) (zgn hp hm) (by omega)),?_⟩);(try simp only[go_sem]);with_reducible refine hK _ _ ?_;clear hK K)
  rw[zeh,zfW hne];refine viaL ?_;((first|refine qp1 rfl rfl fun K hK=>?_|refine qp3 rfl rfl fun K hK=>?_);simp (disch:=(first|omega|(simp only[sz]<;>omega)|fail)) only [go_sem];(first|refine⟨_,_,(qpd fun w=>zae N T 4 w hN hT),?_⟩|refine⟨_,_,(qpu fun w=>zae N T 4 w hN hT),?_⟩|refine⟨_,_,.com (qpd fun w=>zae N T 4 w hN hT),?_⟩|refine⟨_,_,.com (qpu fun w=>zae N T 4 w hN hT),?_⟩);(try simp only[go_sem]);with_reducible refine hK _ _ ?_;clear hK K)
  refine viaL ?_;((first|refine qp1 rfl rfl fun K hK=>?_|refine qp3 rfl rfl fun K hK=>?_);simp (disch:=(first|omega|(simp only[sz]<;>omega)|fail)) only [go_sem];(first|refine⟨_,_,.load _ (zgq hp hm) (zgn hp hm) (by omega),?_⟩|refine⟨_,_,.com (.load _ (zgq hp hm) (zgn hp hm) (by omega)),?_⟩);(try simp only[go_sem]);with_reducible refine hK _ _ ?_;clear hK K)
  rw[zeh,zfW hne];refine viaL ?_;refine qu rfl (by simp (disch:=(first|omega|(simp only[zaa,zLc,zLn,zSt,zad]<;>omega)|fail)) only [go_sem,resA,zaC,Try.results11]<;>rfl) ?_
  rfl
theorem zuU{a b:Ob}{me:Int}{s:Nat}{ws:List UInt64}{bs:List UInt8}:accS [a,b] 1 0 me s ws bs=[.mem ws bs,.port 0 me s]:=rfl
attribute [go_sem] zuU
variable {S:St}
theorem zgo{a b:Ob}:(S++[a,b])[S.length]?=some a:=by simp
theorem zeO{a b:Ob}:(S++[a,b])[S.length+1]?=some b:=by simp
theorem zs5{a b:Ob}:(S++[a])++[b]=S++[a,b]:=by simp
theorem zr1{a:Ob}:(S++[a]).length=S.length+1:=by simp
theorem zuq{a:Ob}:(S++[a])[S.length]?=some a:=by simp
theorem zfL{a b:Ob}{me:Int}{s:Nat}{ws:List UInt64}{bs:List UInt8}:accS (S++[a,b]) (S.length+1) S.length me s ws bs=S++[.mem ws bs,.port S.length me s]:=by
  unfold accS;apply q8;intro j;rw[q7,q7];by_cases h1:S.length=j
  . subst h1;simp
  . rw[if_neg h1];by_cases h2:S.length+1=j
    . subst h2;simp
    . rw[if_neg h2];by_cases h3:j<S.length
      . rw[ql h3,ql h3]
      . rw[qy (by simp;omega),qy (by simp;omega)]
def zkr:List UInt64:=tAdd 1 1 [(4,qb (24 - 8))] (tAdd 1 1 [(2,1)] (tAdd 1 1 [(1,1),(3,qb (-1)),(4,qb (0 - 20))] (tAdd 1 1 [(0,1),(3,1),(4,qb 8)] (tAdd 1 1 [(0,1),(3,1),(4,qb 20)] (qc (gb 1 1 19) 0)))))
theorem zsd:((zeQ 1 1 0 zkr).toNat:Int)=2:=by kernel_rfl
theorem zs0:((zeQ 1 1 1 zkr).toNat:Int)=1:=by kernel_rfl
theorem zsr:((zeQ 1 1 2 zkr).toNat:Int)=1:=by kernel_rfl
theorem zsT:((zeQ 1 1 3 zkr).toNat:Int)=1:=by kernel_rfl
theorem zrW:((zeQ 1 1 4 zkr).toNat:Int)=24:=by kernel_rfl
theorem zsl(S:St):Does OF 5 #[] [] S (.bool true) (S++[.mem zkr (qc (64 * 1) 0),.port S.length 0 16]):=by
  refine qC Try.func5 rfl rfl ?clo ?hand ?_
  case clo=>exact clo0
  case hand=>exact qq rfl
  rw[Try.ntmps5];simp only[zSt,zLc,zLn,qc,zCa,zNa];refine via ?_;((first|refine qc1 rfl rfl fun K hK=>?_|refine qc3 rfl rfl fun K hK=>?_);simp (disch:=(first|omega|(simp only[sz]<;>omega)|fail)) only [go_sem];(first|refine⟨_,_,zeA S 1 1 (by decide) (by decide) (by decide) (by decide) (by decide),?_⟩|refine⟨_,_,qA (zeA S 1 1 (by decide) (by decide) (by decide) (by decide) (by decide)),?_⟩);(try simp only[go_sem]);with_reducible refine hK _ _ ?_;clear hK K)
  refine via ?_;((first|refine qp1 rfl rfl fun K hK=>?_|refine qp3 rfl rfl fun K hK=>?_);simp (disch:=(first|omega|(simp only[sz]<;>omega)|fail)) only [go_sem];(first|refine⟨_,_,.pnew zuq,?_⟩|refine⟨_,_,.com (.pnew zuq),?_⟩);(try simp only[go_sem]);with_reducible refine hK _ _ ?_;clear hK K)
  rw[zr1,zs5];refine via ?_;((first|refine qc1 rfl rfl fun K hK=>?_|refine qc3 rfl rfl fun K hK=>?_);simp (disch:=(first|omega|(simp only[sz]<;>omega)|fail)) only [go_sem];(first|refine⟨_,_,zeH _ _ _ 0 _ _ _ 1 1 20 zeO zgo (by decide) (by decide) (by decide),?_⟩|refine⟨_,_,qA (zeH _ _ _ 0 _ _ _ 1 1 20 zeO zgo (by decide) (by decide) (by decide)),?_⟩);(try simp only[go_sem]);with_reducible refine hK _ _ ?_;clear hK K)
  rw[zfL];refine via ?_;((first|refine qc1 rfl rfl fun K hK=>?_|refine qc3 rfl rfl fun K hK=>?_);simp (disch:=(first|omega|(simp only[sz]<;>omega)|fail)) only [go_sem];(first|refine⟨_,_,zeH _ _ _ 0 _ _ _ 1 1 8 zeO zgo (by decide) (by decide) (by decide),?_⟩|refine⟨_,_,qA (zeH _ _ _ 0 _ _ _ 1 1 8 zeO zgo (by decide) (by decide) (by decide)),?_⟩);(try simp only[go_sem]);with_reducible refine hK _ _ ?_;clear hK K)
  rw[zfL];refine via ?_;((first|refine qc1 rfl rfl fun K hK=>?_|refine qc3 rfl rfl fun K hK=>?_);simp (disch:=(first|omega|(simp only[sz]<;>omega)|fail)) only [go_sem];(first|refine⟨_,_,zry _ _ _ 0 _ _ _ 1 1 20 zeO zgo (by decide) (by decide) (by decide),?_⟩|refine⟨_,_,qA (zry _ _ _ 0 _ _ _ 1 1 20 zeO zgo (by decide) (by decide) (by decide)),?_⟩);(try simp only[go_sem]);with_reducible refine hK _ _ ?_;clear hK K)
  rw[zfL];refine via ?_;((first|refine qc1 rfl rfl fun K hK=>?_|refine qc3 rfl rfl fun K hK=>?_);simp (disch:=(first|omega|(simp only[sz]<;>omega)|fail)) only [go_sem];(first|refine⟨_,_,znH _ _ _ 0 _ _ _ 1 1 zeO zgo (by decide) (by decide) (by decide),?_⟩|refine⟨_,_,qA (znH _ _ _ 0 _ _ _ 1 1 zeO zgo (by decide) (by decide) (by decide)),?_⟩);(try simp only[go_sem]);with_reducible refine hK _ _ ?_;clear hK K)
  rw[zfL];refine via ?_;((first|refine qc1 rfl rfl fun K hK=>?_|refine qc3 rfl rfl fun K hK=>?_);simp (disch:=(first|omega|(simp only[sz]<;>omega)|fail)) only [go_sem];(first|refine⟨_,_,zlB _ _ _ 0 _ _ _ 1 1 8 24 zeO zgo (by decide) (by decide) (by decide),?_⟩|refine⟨_,_,qA (zlB _ _ _ 0 _ _ _ 1 1 8 24 zeO zgo (by decide) (by decide) (by decide)),?_⟩);(try simp only[go_sem]);with_reducible refine hK _ _ ?_;clear hK K)
  rw[zfL];change At OF _ _ _ _ _ _ _ (S++[.mem zkr _,_]);refine via ?_;((first|refine qp1 rfl rfl fun K hK=>?_|refine qp3 rfl rfl fun K hK=>?_);simp (disch:=(first|omega|(simp only[sz]<;>omega)|fail)) only [go_sem];(first|refine⟨_,_,.steps zeO,?_⟩|refine⟨_,_,.com (.steps zeO),?_⟩);(try simp only[go_sem]);with_reducible refine hK _ _ ?_;clear hK K)
  refine via ?_;((first|refine qc1 rfl rfl fun K hK=>?_|refine qc3 rfl rfl fun K hK=>?_);simp (disch:=(first|omega|(simp only[sz]<;>omega)|fail)) only [go_sem];(first|refine⟨_,_,ztY _ _ _ 0 _ _ _ 1 1 zeO zgo (by decide) (by decide) (by decide),?_⟩|refine⟨_,_,qA (ztY _ _ _ 0 _ _ _ 1 1 zeO zgo (by decide) (by decide) (by decide)),?_⟩);(try simp only[go_sem]);with_reducible refine hK _ _ ?_;clear hK K)
  rw[zfL]
  repeat(first|refine qM ?_|refine qB rfl ?_|((first|refine qv1 rfl rfl rfl fun K hK=>?_|refine qv3 rfl rfl rfl fun K hK=>?_|refine qv2 rfl rfl rfl rfl rfl rfl fun K hK=>?_|refine qv4 rfl rfl rfl rfl rfl rfl fun K hK=>?_|refine qn1 rfl rfl rfl fun K hK=>?_|refine qn3 rfl rfl rfl fun K hK=>?_|refine qt1 rfl rfl rfl fun K hK=>?_|refine qt3 rfl rfl rfl fun K hK=>?_);simp (disch:=(first|omega|(simp only[sz]<;>omega)|fail)) only [go_sem,zko,zsd,zs0,zsr,zsT,zrW,Bool.and_self];with_reducible refine hK _ _ ?_;clear hK K)|refine qU rfl ?_|refine RG.nil rfl ?_|((first|refine qG rfl rfl rfl rfl rfl ?_|refine qE rfl rfl rfl rfl rfl ?_|refine qF rfl rfl rfl rfl ?_|refine qD rfl rfl rfl rfl ?_);simp only[putL,qj,qk])|refine qL rfl ?_|refine qO rfl ?_|refine qH [] (by kernel_rfl) ?_)
  ((first|refine qp1 rfl rfl fun K hK=>?_|refine qp3 rfl rfl fun K hK=>?_);simp (disch:=(first|omega|(simp only[sz]<;>omega)|fail)) only [go_sem];(first|refine⟨_,_,.steps zeO,?_⟩|refine⟨_,_,.com (.steps zeO),?_⟩);(try simp only[go_sem]);with_reducible refine hK _ _ ?_;clear hK K)
  refine via ?_;refine qu rfl (by simp (disch:=(first|omega|(simp only[zaa,zLc,zLn,zSt,zad]<;>omega)|fail)) only [go_sem,resA,zaC,Try.results5]<;>rfl) ?_
  rfl
structure zcZ where
  d:Nat
  a:Int
  b:Int
def actT(x:zcZ):List (Int×UInt64) :=
  if x.d % 4=0 then [(0,1),(3,1),(4,qb x.a)] else if x.d % 4=1 then [(1,1),(3,qb (-1)),(4,qb (0 - x.a))] else if x.d % 4=2 then [(2,1)] else [(4,qb (x.b - x.a))]
def actV(x:zcZ):Value:=.agg #[.int .u8 x.d,.int .i64 x.a,.int .i64 x.b]
theorem zp3(d k:Nat)(h:d % 4=k):(d:Int).tmod 4=(k:Int):=by
  rw[Int.tmod_eq_emod_of_nonneg (by omega)];omega
def actC(x:zcZ):List Value:=[.int .u8 x.d,.int .i64 x.a,.int .i64 x.b]
theorem zme(x:zcZ):∀v∈actC x,zab v=true:=by simp[actC,zab]
end Go.Proofs.Ytkjmaapbeicmkaa
namespace Go.Proofs.Ytkjmaapbeicmkaa
open Go Go.Conc
open Go.RowKit
def cntT(c:Nat):List (Int×UInt64)->UInt64
  | []=>0
  | x::l=>(if x.1=(c:Int) then x.2 else 0)+cntT c l
theorem zl6{c:Nat}:∀{l l':List (Int×UInt64)},cntT c (l++l')=cntT c l+cntT c l'
  | [],l'=>by simp[cntT]
  | x::l,l'=>by simp only[zCa,cntT,zl6 (l:=l),qp]
structure TP where
  i:Nat
  j:Nat
def jO(A:Nat->List (Int×UInt64))(i:Nat):Option TP->Nat
  | none=>(A i).length
  | some p=>p.j
def totC(A:Nat->List (Int×UInt64))(c:Nat):Nat->List (Option TP)->UInt64
  | _,[]=>0
  | i,y::ps=>cntT c ((A i).take (jO A i y))+totC A c (i+1) ps
theorem zlQ{A:Nat->List (Int×UInt64)}{c:Nat}{d:UInt64}{y z:Option TP}:∀{k i:Nat} {ps:List (Option TP)},ps[i]?=some y->cntT c ((A (k+i)).take (jO A (k+i) z))=cntT c ((A (k+i)).take (jO A (k+i) y))+d->totC A c k (ps.set i z)=totC A c k ps+d
  | k,i,[],h,_=>by simp at h
  | k,0,a::ps,h,hd=>by
    obtain rfl:a=y:=by simpa using h
    simp only[qj,totC];rw[Nat.add_zero]at hd;rw[hd,qp,UInt64.add_comm d,<-qp]
  | k,i+1,a::ps,h,hd=>by
    have:=zlQ (A:=A) (c:=c) (d:=d) (z:=z) (k:=k+1) (i:=i) (ps:=ps) (show ps[i]?=some y by simpa using h) (by rw[show k+1+i=k+(i+1) by omega];exact hd)
    simp only[qk,totC];rw[this,qp]
theorem zma{A:Nat->List (Int×UInt64)}{c:Nat}{z:Option TP}:∀{k:Nat} {ps:List (Option TP)},totC A c k (ps++[z])=totC A c k ps+cntT c ((A (k+ps.length)).take (jO A (k+ps.length) z))
  | k,[]=>by simp[totC]
  | k,a::ps=>by
    simp only[zCa,totC,zma (k:=k+1) (ps:=ps),zLc];rw[show k+1+ps.length=k+(ps.length+1) by omega,qp]
def tNx(A:Nat->List (Int×UInt64))(i j:Nat):Option TP:=if j<(A i).length then some ⟨i,j⟩ else none
variable {A:Nat->List (Int × UInt64)}{GR n kk hp R q bb:Nat}
theorem ztv{i j:Nat}(h:j<=(A i).length):jO A i (tNx A i j)=j:=by
  unfold tNx;split
  . rfl
  . show(A i).length=j;omega
structure TI (A:Nat->List (Int×UInt64)) (W:Nat->Nat->UInt64) (ps:List (Option TP)):Prop where
  idx:∀(i:Nat) p,ps[i]?=some (some p)->p.i=i/\p.j<(A i).length
  cnt:∀c,c<5->W 2 c=totC A c 0 ps
theorem zqM{α:Type}{ps:List (Option α)}{i:Nat}(hi:i<ps.length)(z:Option α)(j:Nat):(ps.set i z)[j]?=if j=i then some z else ps[j]?:=by
  by_cases e:j=i
  . subst e;rw[if_pos rfl,qh hi]
  . rw[if_neg e,qd fun h=>e h.symm]
theorem TI.step{A:Nat->List (Int×UInt64)}{W W':Nat->Nat->UInt64}{ps:List (Option TP)}(H:TI A W ps){i:Nat}{p:TP}(hi:ps[i]?=some (some p)){x:Int×UInt64}(hx:(A i)[p.j]?=some x){n:Nat}(hn:x.1=(n:Int))(hW:W' 2 n=W 2 n+x.2)(hW2:∀c,c≠n->W' 2 c=W 2 c):TI A W' (ps.set i (tNx A i (p.j+1))):=by
  have hil:=(qa.1 hi).1;obtain⟨h1,h2⟩:=H.idx i p hi;refine⟨fun j q hj=>?_,fun c hc=>?_⟩
  . rw[zqM hil]at hj;split at hj
    . rename_i e;subst e;unfold tNx at hj;split at hj
      . cases hj;exact⟨rfl,by assumption⟩
      . cases hj
    . exact H.idx _ _ hj
  . have ht:(A i).take (p.j+1)=(A i).take p.j++[x]:=by
      rw[q6,hx];rfl
    have hd:cntT c ((A (0+i)).take (jO A (0+i) (tNx A i (p.j+1))))=cntT c ((A (0+i)).take (jO A (0+i) (some p)))+(if x.1=(c:Int) then x.2 else 0):=by
      rw[qf,ztv (by omega),ht,zl6]
      simp[cntT,jO]
    rw[zlQ hi hd,<-H.cnt c hc];by_cases e:c=n
    . subst e;rw[if_pos hn];exact hW
    . rw[if_neg fun h=>e (by omega),hW2 c e];simp
variable {W W':Nat->Nat->UInt64}
theorem TI.begin{ps:List (Option TP)}(H:TI A W ps):TI A W (ps++[tNx A ps.length 0]):=by
  refine⟨fun j q hj=>?_,fun c hc=>?_⟩
  . by_cases h:j<ps.length
    . rw[ql h]at hj;exact H.idx _ _ hj
    . have h0:j=ps.length:=by
        have:=(qa.1 hj).1;simp at this;omega
      subst h0;rw[qr (qg _),Nat.sub_self]at hj;have hj:tNx A ps.length 0=some q:=by simpa using hj
      unfold tNx at hj;split at hj
      . cases hj;exact⟨rfl,by assumption⟩
      . cases hj
  . rw[zma,qf,ztv (Nat.zero_le _),<-H.cnt c hc];simp[cntT]
def zqK(A:Nat->List (Int×UInt64))(p:TP):Nat:=(A p.i).length - p.j
def tAcc(A:Nat->List (Int×UInt64))(p:TP):Acc4:=(4,gat 1 6 2 ((A p.i).getD p.j (0,0)).1,((A p.i).getD p.j (0,0)).2,0)
structure RP where
  k:Nat
  left:Nat
  lo:Nat->UInt64
  rows:List Row
abbrev BP:=TP ⊕ RP
def prT:Option BP->Option TP
  | some (.inl p)=>some p
  | _=>none
abbrev tbT(ps:List (Option BP)):List (Option TP):=ps.map prT
abbrev znh:Blk:={ cells:=[.bool true],elem:=4 }
structure RH (GR:Nat) (W:Nat->Nat->UInt64) (ps:List (Option BP)) (l:List (Option Blk)):Prop where
  good:l[GR]?=some (some znh)
  rd:∀(i:Nat) r,ps[i]?=some (some (.inr r))->i=0/\r.k<5/\1<=r.left/\r.left<=15/\Fr r.rows l/\(∀x∈r.rows,zc0 x.2=false)/\∀c,c<3->r.lo c<=W 2 c
theorem RH.ge{ps:List (Option BP)}{l l':List (Option Blk)}(H:RH GR W ps l)(h:Ge l l'):RH GR W ps l':=⟨h _ _ H.good,fun i r hr=>by
  obtain⟨h1,h2,h3,h4,h5,h6,h7⟩:=H.rd i r hr;exact⟨h1,h2,h3,h4,h5.ge h,h6,h7⟩⟩
variable {y:Option BP}
theorem RH.tset{ps:List (Option BP)}{l:List (Option Blk)}(H:RH GR W ps l){i:Nat}(hy:∀r,y≠some (.inr r)):RH GR W (ps.set i y) l:=⟨H.good,fun j r hr=>by
  by_cases e:j=i
  . subst e;by_cases hl:j<ps.length
    . rw[qh hl]at hr;cases hr;exact absurd rfl (hy _)
    . rw[qy (by simp;omega)]at hr;cases hr
  . rw[qd fun h=>e h.symm]at hr;exact H.rd j r hr⟩
theorem RH.up{ps:List (Option BP)}{l:List (Option Blk)}(H:RH GR W ps l)(hW:∀c,c<3->W 2 c<=W' 2 c):RH GR W' ps l:=⟨H.good,fun j r hr=>by
  obtain⟨h1,h2,h3,h4,h5,h6,h7⟩:=H.rd j r hr;exact⟨h1,h2,h3,h4,h5,h6,fun c hc=>qv (h7 c hc) (hW c hc)⟩⟩
theorem RH.app{ps:List (Option BP)}{l:List (Option Blk)}(H:RH GR W ps l):RH GR W (ps++[none]) l:=⟨H.good,fun j r hr=>by
  by_cases h:j<ps.length
  . rw[ql h]at hr;exact H.rd j r hr
  . rw[qr (by omega)]at hr
    have:=List.mem_of_getElem? hr;simp at this⟩
theorem zol{c:Nat}:∀{l:List (Int×UInt64)},(∀x∈l,x.1=(c:Int)->x.2=1)->(cntT c l).toNat<=l.length
  | [],_=>by simp[cntT]
  | x::l,h=>by
    have ih:=zol (l:=l) fun y hy=>h y (by simp[hy])
    have h1:(if x.1=(c:Int) then x.2 else 0).toNat<=1:=by
      split
      . rename_i e;rw[h x (by simp) e];decide
      . decide
    simp only[cntT,qI,zLc];have:=Nat.mod_le ((if x.1=(c:Int) then x.2 else 0).toNat+(cntT c l).toNat) (2 ^ 64)
    omega
theorem zpx{A:Nat->List (Int×UInt64)}{c:Nat}(h1:∀i,∀x∈A i,x.1=(c:Int)->x.2=1)(hl:∀i,(A i).length<=100)(h5:∀i,5<=i->A i=[]):∀{k:Nat} {ps:List (Option TP)},(totC A c k ps).toNat<=100 * (5 - k)
  | k,[]=>by simp[totC]
  | k,y::ps=>by
    have ih:=zpx (c:=c) h1 hl h5 (k:=k+1) (ps:=ps);have h2:(cntT c ((A k).take (jO A k y))).toNat<=((A k).take (jO A k y)).length:=zol fun x hx=>h1 k x (List.mem_of_mem_take hx);have h3:=hl k;have h4:5<=k->(A k).length=0:=fun h=>by rw[h5 k h];rfl
    simp only[totC,qI];have:=Nat.mod_le ((cntT c ((A k).take (jO A k y))).toNat+(totC A c (k+1) ps).toNat) (2 ^ 64);rw[List.length_take]at h2;by_cases h:5<=k
    . have:=h4 h;omega
    . omega
structure TA (A:Nat->List (Int×UInt64)):Prop where
  c:∀i,∀x∈A i,∃n:Nat,n<5/\x.1=(n:Int)
  one:∀c:Nat,c<3->∀i,∀x∈A i,x.1=(c:Int)->x.2=1
  l:∀i,(A i).length<=100
  zero:A 0=[]
  five:∀i,5<=i->A i=[]
theorem TI.grow(hA:TA A){ps:List (Option TP)}(H:TI A W ps){i:Nat}{x:Int×UInt64}(hx:x∈A i)(hn:x.1=(n:Int))(hW:W' 2 n=W 2 n+x.2)(hW2:∀c,c≠n->W' 2 c=W 2 c):∀c,c<3->W 2 c<=W' 2 c:=fun c hc=>by
  by_cases e:c=n
  . subst e;have h1:(W 2 c).toNat<=500:=by
      rw[H.cnt c (by omega)]
      exact zpx (hA.one c hc) hA.l hA.five
    rw[hW,hA.one c hc i x hx hn,qo,qI];show _<=((W 2 c).toNat+1) % 2 ^ 64;omega
  . rw[hW2 c e];exact qx _
def rAcc(r:RP):Acc4:=(1,gat 1 6 2 (r.k:Int),0,0)
def zvj(A:Nat->List (Int×UInt64)):BP->Acc4
  | .inl p=>tAcc A p
  | .inr r=>rAcc r
def zru(A:Nat->List (Int×UInt64)):BP->Nat
  | .inl p=>zqK A p
  | .inr r=>r.left
structure TB (A:Nat->List (Int×UInt64)) (GR:Nat) (W:Nat->Nat->UInt64) (ps:List (Option BP)) (i j:Nat) (l:List (Option Blk)):Prop where
  ti:TI A W ((tbT ps).set i (tNx A i j))
  rh:RH GR W ps l
theorem TB.ge{ps:List (Option BP)}{i j:Nat}{l l':List (Option Blk)}(H:TB A GR W ps i j l)(h:Ge l l'):TB A GR W ps i j l':=⟨H.ti,H.rh.ge h⟩
structure RB (A:Nat->List (Int×UInt64)) (GR:Nat) (W:Nat->Nat->UInt64) (ps:List (Option BP)) (l:List (Option Blk)):Prop where
  ti:TI A W (tbT ps)
  rh:RH GR W ps l
theorem TB.wait{ps:List (Option BP)}{i j:Nat}{l:List (Option Blk)}(H:TB A GR W ps i j l)(hj:j<(A i).length):RB A GR W (ps.set i (some (.inl ⟨i,j⟩))) l:=by
  refine⟨?_,H.rh.tset fun r h=>by cases h⟩
  have h:=H.ti;rw[show tNx A i j=prT (some (.inl ⟨i,j⟩)) from if_pos hj]at h
  show TI A W ((ps.set i _).map prT);rw[qR];exact h
theorem TB.fin{ps:List (Option BP)}{i j:Nat}{l:List (Option Blk)}(H:TB A GR W ps i j l)(hj:j=(A i).length):RB A GR W (ps.set i none) l:=by
  refine⟨?_,H.rh.tset fun r h=>by cases h⟩
  have h:=H.ti;rw[show tNx A i j=prT none from if_neg (by omega)]at h
  show TI A W ((ps.set i _).map prT);rw[qR];exact h
theorem RB.rset(h0:A 0=[]){ps:List (Option BP)}{l:List (Option Blk)}(H:TI A W (tbT ps))(hg:l[GR]?=some (some znh))(hps:∀(i:Nat) r,ps[i]?=some (some (.inr r))->i=0)(hy:prT y=none)(hr:∀r,y=some (.inr r)->r.k<5/\1<=r.left/\r.left<=15/\Fr r.rows l/\(∀x∈r.rows,zc0 x.2=false)/\∀c,c<3->r.lo c<=W 2 c)(hq:(tbT ps)[0]?=some none):RB A GR W (ps.set 0 y) l:=by
  refine⟨?_,hg,fun i r hi=>?_⟩
  . show TI A W ((ps.set 0 y).map prT);rw[qR,hy];have e:(tbT ps).set 0 none=tbT ps:=by
      apply q8;intro j;by_cases e:j=0
      . subst e;rw[hq,qh (qa.1 hq).1]
      . rw[qd fun h=>e h.symm]
    rw[e];exact H
  . by_cases e:i=0
    . subst e;have hl:0<ps.length:=by have:=(qa.1 hq).1;simpa using this
      rw[qh hl]at hi;exact⟨rfl,hr r (by injection hi)⟩
    . rw[qd fun h=>e h.symm]at hi;exact absurd (hps i r hi) e
def zbK(A:Nat->List (Int×UInt64))(RW:List Row)(GR:Nat):Sys Unit BP where
  acc:=zvj A
  most:=100
  rank _ p:=zru A p
  hot b:=(b.elem==45 || b.elem==4) && !b.ro
  inv _ ws _ ps l:=Fr RW l/\∃W,Wd 1 6 ws W/\RB A GR W ps l
  born i _ ws _ ps l:=Fr RW l/\∃ps0 W,ps=ps0++[none]/\ps0.length=i/\Wd 1 6 ws W/\RB A GR W ps0 l
  run i p v R _ ws _ ps l:=R=zru A p/\Fr RW l/\∃W,Wd 1 6 ws W/\match p with
    | .inl t=>TB A GR W ps i (t.j+1) l
    | .inr r=>RB A GR W ps l/\Fr r.rows l/\(∀c,c<3->r.lo c<=W 2 c)/\v=W 2 r.k
theorem tbOk{RW:List Row}(hA:TA A)(hR:∀x∈RW,zc0 x.2=false):(zbK A RW GR).Ok where
  acc p:=by
    cases p with
    | inl p=>exact⟨by show 1<=4;decide,by show 4<=6;decide⟩
    | inr r=>exact⟨by show 1<=1;decide,by show 1<=6;decide⟩
  hot b h:=by
    have h:((b.elem==45 || b.elem==4) && !b.ro)=true:=h;replace h:=(Bool.and_eq_true_iff.1 h).1;unfold zc0;rw[Bool.or_eq_true,beq_iff_eq,beq_iff_eq]at h;rcases h with h|h<;>rw[h]<;>rfl
  rank {g ws bs ps l i p} H hi:=by
    obtain⟨_,W,_,H⟩:=H;cases p with
    | inl p =>
      obtain⟨h1,h2⟩:=H.ti.idx i p (by rw[qK,hi];rfl)
      have:=hA.l i;show 1<=zqK A p/\zqK A p<=100;unfold zqK;rw[h1];omega
    | inr r =>
      obtain⟨_,_,h3,h4,_⟩:=H.rh.rd i r hi;exact⟨h3,by show r.left<=100;omega⟩
  rows {g ws bs ps l l'} H h:=by
    obtain⟨h1,W,hW,H⟩:=H;refine⟨fun x hx=>h _ _ (h1 x hx) (hR x hx),W,hW,H.ti,h _ _ H.rh.good rfl,fun i r hi=>?_⟩;obtain⟨z1,z2,z3,z4,z5,z6,z7⟩:=H.rh.rd i r hi;exact⟨z1,z2,z3,z4,fun x hx=>h _ _ (z5 x hx) (z6 x hx),z6,z7⟩
  birth {g ws bs ps l} H:=by
    obtain⟨h1,W,hW,H⟩:=H;exact⟨(),h1,ps,W,rfl,rfl,hW,H⟩
  grant {g ws bs ps l i p} H hi:=by
    obtain⟨h1,W,hW,H⟩:=H;cases p with
    | inl p =>
      have hi':(tbT ps)[i]?=some (some p):=by rw[qK,hi];rfl
      obtain⟨hpi,hpj⟩:=H.ti.idx i p hi';have hx:(A i)[p.j]?=some (A i)[p.j]:=qs hpj;have hmem:(A i)[p.j]∈A i:=List.getElem_mem hpj;obtain⟨n,hn,hxn⟩:=hA.c i _ hmem;refine⟨(),rfl,h1,?_⟩;have hg:(A p.i).getD p.j (0,0)=(A i)[p.j]:=by rw[hpi];simp[List.getD,hx]
      show ∃W,Wd 1 6 (wdsQ (tAcc A p) ws) W/\_;unfold tAcc;rw[hg,hxn];have e1:up2 W 2 n (W 2 n+(A i)[p.j].2) 2 n=W 2 n+(A i)[p.j].2:=zrH;have e2:∀c,c≠n->up2 W 2 n (W 2 n+(A i)[p.j].2) 2 c=W 2 c:=fun c hc=>zvh hc;exact⟨_,hW.put (qg 1) (r:=2) (n:=n) (by decide) (by simpa[gsz] using hn) 4 (A i)[p.j].2 0,H.ti.step hi' hx hxn e1 e2,H.rh.up (H.ti.grow hA hmem hxn e1 e2)⟩
    | inr r =>
      obtain⟨z1,z2,z3,z4,z5,z6,z7⟩:=H.rh.rd i r hi;refine⟨(),rfl,h1,?_⟩;have hk:=hW.tells (r:=2) (by decide) (n:=r.k) (by simpa[gsz] using z2)
      show ∃W,Wd 1 6 (wdsQ (rAcc r) ws) W/\_;have e:wdsQ (rAcc r) ws=ws:=by
        unfold wdsQ rAcc;exact(if_pos (show 1<=4 by decide)).trans zgQ
      rw[e];exact⟨W,hW,H,z5,z7,(if_pos (show 1<=4 by decide)).trans hk⟩
abbrev tlG:Blk:={ cells:=(geoC 1 6).toList,elem:=28 }
def tnC(x:Int×Int):List Value:=[.int .i64 x.1,.int .i64 x.2]
def tnA(x:Int×Int):Int×UInt64:=(x.1,qb x.2)
section
variable {A:Nat->List (Int × UInt64)}{RW:List Row}
end
variable {γ:PG Unit BP × St}{S:St}{Q:Value->AHeap->St->PG Unit BP × St->Prop}
section
variable {A:Nat->List (Int × UInt64)}{RW:List Row}{GR:Nat}
set_option maxRecDepth 10000 in
theorem zdS{i st:Nat}{l:List (Option Blk)}{ws:List UInt64}{bs:List UInt8}(H:BH (zbK A RW GR) 0 i kk hp (i:Int) st R γ l q bb S ws bs)(hb:100<=bb){j:Nat}(hRW:Fr RW l)(hW:Wd 1 6 ws W)(hT:TB A GR W γ.1.ps i j l)(ts:List (Int×Int))(hts:0<ts.length/\ts.length<=3){sr:Nat}{ro:Bool}{gw:Option Nat}(hs:l[sr]?=some (some ⟨rowC tnC ts,75,ro,gw⟩))(hA:∀m,m<ts.length->(A i)[j+m]?=(ts[m]?).map tnA)(hR:(A i).length - j<R)(hQ:∀(st' R':Nat) (γ':PG Unit BP×St) (l':List (Option Blk)) (q':Nat) (S':St) (ws':List UInt64) (bs':List UInt8) (W':Nat->Nat->UInt64),BH (zbK A RW GR) 0 i kk hp (i:Int) st' R' γ' l' q' 900 S' ws' bs'->Fr RW l'->Wd 1 6 ws' W'->TB A GR W' γ'.1.ps i (j+ts.length) l'->(A i).length - (j+ts.length)<R'->Q (.tuple #[]) (zaw l' q' []) S' γ'):
    Runs OF (SpB ((zbK A RW GR).pr 0) kk hp) 32 #[.iface 82 (hndV hp),.agg (geoC 1 6),.slice (some ⟨sr,0,none⟩) ts.length ts.length] (zaw l q []) S γ Q:=by
  have hq:=H.qle;refine Runs.mk Try.func32 rfl rfl ?_;rw[Try.ntmps32];simp only[zSt,zLc,zLn,qc,zCa,zNa];refine viaD ?_;refine qZ H.ll fun lf hlen hge hrow=>?_;have hrow0:lf[q]?=some (some tlG):=hrow 0;simp only[zLc,zLn,qf]at hlen ⊢;have hs1:lf[sr]?=some (some ⟨rowC tnC ts,75,ro,gw⟩):=hge _ _ hs;have hsq:sr<q+1:=by
    have:=(qa.1 hs1).1;omega
  have hln:(rowC tnC ts).length=ts.length * 2:=ziT (fl:=tnC) (s:=2) (fun _=>rfl) ts;obtain⟨n,hnn⟩:∃n,n=ts.length:=⟨_,rfl⟩;rw[<-hnn]at hts hA hQ hln ⊢;refine GE.wh (fun z tmps h S γ=>∃(x st R:Nat) (l:List (Option Blk)) (q2:Nat) (ws:List UInt64) (bs:List UInt8) (W:Nat->Nat->UInt64),z=n - x/\x<=n/\h=zaw l q2 []/\BH (zbK A RW GR) 0 i kk hp (i:Int) st R γ l q2 (if x=0 then bb - 1 else 900) S ws bs/\Fr RW l/\Wd 1 6 ws W/\TB A GR W γ.1.ps i (j+x) l/\(A i).length - (j+x)<R/\l[q]?=some (some tlG)/\l[sr]?=some (some ⟨rowC tnC ts,75,ro,gw⟩)/\tmps.length=27 /\
      tmps.getD 0 undef=.iface 82 (hndV hp)/\tmps.getD 4 undef=.pointer (some ⟨q,0,none⟩)/\tmps.getD 8 undef=.slice (some ⟨sr,0,none⟩) n n/\tmps.getD 9 undef=.int .i64 (n:Int)/\tmps.getD 10 undef=.int .i64 (x:Int)) (m:=n)
    ⟨0,st,R,lf,q+1,ws,bs,W,rfl,by omega,rfl,H.ge hge (qi hlen) (d:=1) (qg _) (by omega),hRW.ge hge,hW,hT.ge hge,hR,hrow0,hs1,rfl,rfl,rfl,rfl,rfl,rfl⟩ ?_
  clear H hRW hW hT hR hrow0 hs1 hs hge hrow hlen;rintro z tmps h S γ ih ⟨x,st,R,l,q2,ws,bs,W,rfl,hx,rfl,H,hRW,hW,hT,hR,hg,hs,hl,f0,f4,f8,f9,f10⟩;have hq2:q2<=500000000:=by have:=H.qle;omega
  have hgq:q<q2:=qe (qa.1 hg).1 H.ll;have hsq2:sr<q2:=qe (qa.1 hs).1 H.ll;obtain⟨V,hV,hT⟩:=zbR hl;replace hT:_=([V 0,V 1,V 2,V 3,V 4,V 5,V 6,V 7,V 8,V 9,V 10,V 11,V 12,V 13,V 14,V 15,V 16,V 17,V 18,V 19,V 20,V 21,V 22,V 23,V 24,V 25,V 26]:List Value):=hT;rw[hV]at f0 f4 f8 f9 f10;subst hT;simp only[f0,f4,f8,f9,f10];clear hV hl;by_cases hxn:x<n
  case neg =>
    obtain rfl:x=n:=by omega
    refine viaD ?_;refine qn rfl (by simp (disch:=(first|omega|(simp only[zaa,zLc,zLn,zSt,zad]<;>omega)|fail)) only [go_sem,resA,zaC,Try.results32]<;>rfl) ?_
    exact hQ st R γ l q2 S ws bs W (by rw[if_neg (by omega)]at H;exact H) hRW hW hT hR
  obtain⟨t,ht⟩:∃t,ts[x]?=some t:=⟨_,qs (by omega)⟩
  have cl:(List.take 2 (List.drop (x * 2) (rowC tnC ts))).toArray=#[.int .i64 t.1,.int .i64 t.2]:=by rw[zki (fl:=tnC) (s:=2) (fun _=>rfl) ht];rfl
  refine zgt (And.intro hs cl) ?_;refine qZ H.ll fun lf hlen hge hrow=>?_;have hrw:lf[q2]?=some (some { cells:=[.int .i64 t.1,.int .i64 t.2],elem:=75 }):=hrow 0;simp only[zLc,zLn,qf]at hlen ⊢;have hb1:1<=(if x=0 then bb - 1 else 900):=by split<;>omega
  have H1:=H.ge hge (qi hlen) (d:=1) (qg _) hb1;replace hg:=hge _ _ hg;replace hs:=hge _ _ hs;refine q0 11 (by kernel_rfl) ?_
  repeat(refine qw1 rfl rfl rfl fun K hK=>?_;simp (disch:=(first|omega|(simp only[sz]<;>omega)|fail)) only [go_sem,hg,hrw];with_reducible refine hK _ _ ?_;clear hK K)
  (refine qwp rfl rfl fun K hK=>?_;simp (disch:=(first|omega|(simp only[sz]<;>omega)|fail)) only [go_sem];(first|refine⟨_,_,(qpd fun w=>zae 1 6 t.1 w (by decide) (by decide)),?_⟩|refine⟨_,_,(qpu fun w=>zae 1 6 t.1 w (by decide) (by decide)),?_⟩|refine⟨_,_,.com (qpd fun w=>zae 1 6 t.1 w (by decide) (by decide)),?_⟩|refine⟨_,_,.com (qpu fun w=>zae 1 6 t.1 w (by decide) (by decide)),?_⟩);(try simp only[go_sem]);with_reducible refine hK _ ?_;clear hK K)
  repeat(refine qw1 rfl rfl rfl fun K hK=>?_;simp (disch:=(first|omega|(simp only[sz]<;>omega)|fail)) only [go_sem,hg,hrw,zcY];with_reducible refine hK _ _ ?_;clear hK K)
  have hAx:(A i)[j+x]?=some (tnA t):=by rw[hA x hxn,ht];rfl
  have hjl:=(qa.1 hAx).1;(refine qg2 rfl rfl fun K hK=>?_;simp (disch:=(first|omega|(simp only[sz]<;>omega)|fail)) only [go_sem])
  refine zut (H1.ask (.inl ⟨i,j+x⟩) [(q,tlG),(sr,⟨rowC tnC ts,75,ro,gw⟩)] () (by show tAcc A _=_;unfold tAcc;simp[List.getD,hAx,tnA]) (Fr.cons hg (Fr.cons hs Fr.nil)) (fun y hy=>by
    simp only[zMc,zNm,or_false]at hy;rcases hy with rfl|rfl<;>exact⟨rfl,rfl⟩) ⟨hRW.ge hge,W,hW,(hT.ge hge).wait hjl⟩ hR fun v γ2 l2 q3 S2 ws2 bs2 R2 H2 hfr hps hqq hrun=>?_)
  obtain⟨rfl,hRW2,W2,hW2,hT2⟩:=hrun
  ((try simp only[go_sem]);with_reducible refine hK _ _ _ _ ?_;clear hK K)
  refine viaD ?_;refine q4 (ih (n - (x+1)) _ _ _ _ (by omega) ⟨x+1,st+1,_,l2,q3,ws2,bs2,W2,rfl,by omega,rfl,by rw[if_neg (by omega)];exact H2.less (by decide),hRW2,hW2,hT2,by show(A i).length - (j+(x+1))<(A i).length - (j+x);omega,hfr (q,tlG) (by simp),hfr (sr,_) (qz _ List.mem_cons_self),rfl,rfl,rfl,rfl,rfl,by push_cast;rfl⟩)
end
section
variable {A:Nat->List (Int × UInt64)}{RW:List Row}{GR:Nat}
set_option maxRecDepth 10000 in
theorem zjU{i st:Nat}{l:List (Option Blk)}{ws:List UInt64}{bs:List UInt8}(H:BH (zbK A RW GR) 0 i kk hp (i:Int) st R γ l q bb S ws bs)(hb:200<=bb){j:Nat}(hRW:Fr RW l)(hW:Wd 1 6 ws W)(hT:TB A GR W γ.1.ps i j l){a:Int}(hA:∀m,m<3->(A i)[j+m]?=([(0,1),(3,1),(4,qb a)]:List (Int×UInt64))[m]?)(hR:(A i).length - j<R)(hQ:∀(st' R':Nat) (γ':PG Unit BP×St) (l':List (Option Blk)) (q':Nat) (S':St) (ws':List UInt64) (bs':List UInt8) (W':Nat->Nat->UInt64),BH (zbK A RW GR) 0 i kk hp (i:Int) st' R' γ' l' q' 900 S' ws' bs'->Fr RW l'->Wd 1 6 ws' W'->TB A GR W' γ'.1.ps i (j+3) l'->(A i).length - (j+3)<R'->Q (.tuple #[]) (zaw l' q' []) S' γ'):
    Runs OF (SpB ((zbK A RW GR).pr 0) kk hp) 16 #[.iface 82 (hndV hp),.agg (geoC 1 6),.int .i64 a] (zaw l q []) S γ Q:=by
  have hq:=H.qle;refine Runs.mk Try.func16 rfl rfl ?_;rw[Try.ntmps16];simp only[zSt,zLc,zLn,qc,zCa,zNa];refine via ?_;refine qw H.ll fun lf hlen hge hrow=>?_;have hr:=hrow 1;simp only[zLc,zLn,qf,zGs,zGz]at hlen hr ⊢;have H1:=H.ge hge (qi hlen) (d:=2) (qg _) (by omega)
  (refine qg1 rfl rfl fun K hK=>?_;simp (disch:=(first|omega|(simp only[sz]<;>omega)|fail)) only [go_sem]);refine zdS H1 (by omega) (hRW.ge hge) hW (hT.ge hge) [(0,1),(3,1),(4,a)] ⟨by simp,by simp⟩ (sr:=q+1) hr (fun m hm=>?_) hR fun st' R' γ' l' q' S' ws' bs' W' h1 h2 h3 h4 h5=>?_
  . rw[hA m hm]
    match m,hm with
    | 0,_=>rfl
    | 1,_=>rfl
    | 2,_=>rfl
  ((try simp only[go_sem]);with_reducible refine hK _ _ _ _ ?_;clear hK K)
  refine via ?_;refine qn rfl (by simp (disch:=(first|omega|(simp only[zaa,zLc,zLn,zSt,zad]<;>omega)|fail)) only [go_sem,resA,zaC,Try.results16]<;>rfl) ?_
  exact hQ st' R' γ' l' q' S' ws' bs' W' h1 h2 h3 h4 h5
set_option maxRecDepth 10000 in
theorem zjs{i st:Nat}{l:List (Option Blk)}{ws:List UInt64}{bs:List UInt8}(H:BH (zbK A RW GR) 0 i kk hp (i:Int) st R γ l q bb S ws bs)(hb:200<=bb){j:Nat}(hRW:Fr RW l)(hW:Wd 1 6 ws W)(hT:TB A GR W γ.1.ps i j l){a:Int}(hA:∀m,m<3->(A i)[j+m]?=([(1,1),(3,qb (-1)),(4,qb (0 - a))]:List (Int×UInt64))[m]?)(hR:(A i).length - j<R)(hQ:∀(st' R':Nat) (γ':PG Unit BP×St) (l':List (Option Blk)) (q':Nat) (S':St) (ws':List UInt64) (bs':List UInt8) (W':Nat->Nat->UInt64),BH (zbK A RW GR) 0 i kk hp (i:Int) st' R' γ' l' q' 900 S' ws' bs'->Fr RW l'->Wd 1 6 ws' W'->TB A GR W' γ'.1.ps i (j+3) l'->(A i).length - (j+3)<R'->Q (.tuple #[]) (zaw l' q' []) S' γ'):
    Runs OF (SpB ((zbK A RW GR).pr 0) kk hp) 17 #[.iface 82 (hndV hp),.agg (geoC 1 6),.int .i64 a] (zaw l q []) S γ Q:=by
  have hq:=H.qle;refine Runs.mk Try.func17 rfl rfl ?_;rw[Try.ntmps17];simp only[zSt,zLc,zLn,qc,zCa,zNa];refine via ?_;refine qw H.ll fun lf hlen hge hrow=>?_;have hr:=hrow 1;simp only[zLc,zLn,qf,zGs,zGz]at hlen hr ⊢;have H1:=H.ge hge (qi hlen) (d:=2) (qg _) (by omega)
  (refine qg1 rfl rfl fun K hK=>?_;simp (disch:=(first|omega|(simp only[sz]<;>omega)|fail)) only [go_sem]);refine zdS H1 (by omega) (hRW.ge hge) hW (hT.ge hge) [(1,1),(3,-1),(4,qm.wrap (0 - a))] ⟨by simp,by simp⟩ (sr:=q+1) hr (fun m hm=>?_) hR fun st' R' γ' l' q' S' ws' bs' W' h1 h2 h3 h4 h5=>?_
  . rw[hA m hm]
    match m,hm with
    | 0,_=>rfl
    | 1,_=>rfl
    | 2,_=>simp[tnA,zeI]
  ((try simp only[go_sem]);with_reducible refine hK _ _ _ _ ?_;clear hK K)
  refine via ?_;refine qn rfl (by simp (disch:=(first|omega|(simp only[zaa,zLc,zLn,zSt,zad]<;>omega)|fail)) only [go_sem,resA,zaC,Try.results17]<;>rfl) ?_
  exact hQ st' R' γ' l' q' S' ws' bs' W' h1 h2 h3 h4 h5
set_option maxRecDepth 10000 in
theorem ziI{i st:Nat}{l:List (Option Blk)}{ws:List UInt64}{bs:List UInt8}(H:BH (zbK A RW GR) 0 i kk hp (i:Int) st R γ l q bb S ws bs)(hb:200<=bb){j:Nat}(hRW:Fr RW l)(hW:Wd 1 6 ws W)(hT:TB A GR W γ.1.ps i j l)(hA:∀m,m<1->(A i)[j+m]?=([(2,1)]:List (Int×UInt64))[m]?)(hR:(A i).length - j<R)(hQ:∀(st' R':Nat) (γ':PG Unit BP×St) (l':List (Option Blk)) (q':Nat) (S':St) (ws':List UInt64) (bs':List UInt8) (W':Nat->Nat->UInt64),BH (zbK A RW GR) 0 i kk hp (i:Int) st' R' γ' l' q' 900 S' ws' bs'->Fr RW l'->Wd 1 6 ws' W'->TB A GR W' γ'.1.ps i (j+1) l'->(A i).length - (j+1)<R'->Q (.tuple #[]) (zaw l' q' []) S' γ'):
    Runs OF (SpB ((zbK A RW GR).pr 0) kk hp) 18 #[.iface 82 (hndV hp),.agg (geoC 1 6)] (zaw l q []) S γ Q:=by
  have hq:=H.qle;refine Runs.mk Try.func18 rfl rfl ?_;rw[Try.ntmps18];simp only[zSt,zLc,zLn,qc,zCa,zNa];refine via ?_;refine qw H.ll fun lf hlen hge hrow=>?_;have hr:=hrow 1;simp only[zLc,zLn,qf,zGs,zGz]at hlen hr ⊢;have H1:=H.ge hge (qi hlen) (d:=2) (qg _) (by omega)
  (refine qg1 rfl rfl fun K hK=>?_;simp (disch:=(first|omega|(simp only[sz]<;>omega)|fail)) only [go_sem]);refine zdS H1 (by omega) (hRW.ge hge) hW (hT.ge hge) [(2,1)] ⟨by simp,by simp⟩ (sr:=q+1) hr (fun m hm=>?_) hR fun st' R' γ' l' q' S' ws' bs' W' h1 h2 h3 h4 h5=>?_
  . rw[hA m hm]
    match m,hm with
    | 0,_=>rfl
  ((try simp only[go_sem]);with_reducible refine hK _ _ _ _ ?_;clear hK K)
  refine via ?_;refine qn rfl (by simp (disch:=(first|omega|(simp only[zaa,zLc,zLn,zSt,zad]<;>omega)|fail)) only [go_sem,resA,zaC,Try.results18]<;>rfl) ?_
  exact hQ st' R' γ' l' q' S' ws' bs' W' h1 h2 h3 h4 h5
set_option maxRecDepth 10000 in
theorem zhK{i st:Nat}{l:List (Option Blk)}{ws:List UInt64}{bs:List UInt8}(H:BH (zbK A RW GR) 0 i kk hp (i:Int) st R γ l q bb S ws bs)(hb:200<=bb){j:Nat}(hRW:Fr RW l)(hW:Wd 1 6 ws W)(hT:TB A GR W γ.1.ps i j l){a b:Int}(hA:∀m,m<1->(A i)[j+m]?=([(4,qb (b - a))]:List (Int×UInt64))[m]?)(hR:(A i).length - j<R)(hQ:∀(st' R':Nat) (γ':PG Unit BP×St) (l':List (Option Blk)) (q':Nat) (S':St) (ws':List UInt64) (bs':List UInt8) (W':Nat->Nat->UInt64),BH (zbK A RW GR) 0 i kk hp (i:Int) st' R' γ' l' q' 900 S' ws' bs'->Fr RW l'->Wd 1 6 ws' W'->TB A GR W' γ'.1.ps i (j+1) l'->(A i).length - (j+1)<R'->Q (.tuple #[]) (zaw l' q' []) S' γ'):
    Runs OF (SpB ((zbK A RW GR).pr 0) kk hp) 19 #[.iface 82 (hndV hp),.agg (geoC 1 6),.int .i64 a,.int .i64 b] (zaw l q []) S γ Q:=by
  have hq:=H.qle;refine Runs.mk Try.func19 rfl rfl ?_;rw[Try.ntmps19];simp only[zSt,zLc,zLn,qc,zCa,zNa];refine via ?_;refine qw H.ll fun lf hlen hge hrow=>?_;have hr:=hrow 1;simp only[zLc,zLn,qf,zGs,zGz]at hlen hr ⊢;have H1:=H.ge hge (qi hlen) (d:=2) (qg _) (by omega)
  (refine qg1 rfl rfl fun K hK=>?_;simp (disch:=(first|omega|(simp only[sz]<;>omega)|fail)) only [go_sem]);refine zdS H1 (by omega) (hRW.ge hge) hW (hT.ge hge) [(4,qm.wrap (b - a))] ⟨by simp,by simp⟩ (sr:=q+1) hr (fun m hm=>?_) hR fun st' R' γ' l' q' S' ws' bs' W' h1 h2 h3 h4 h5=>?_
  . rw[hA m hm]
    match m,hm with
    | 0,_=>simp[tnA,zeI]
  ((try simp only[go_sem]);with_reducible refine hK _ _ _ _ ?_;clear hK K)
  refine via ?_;refine qn rfl (by simp (disch:=(first|omega|(simp only[zaa,zLc,zLn,zSt,zad]<;>omega)|fail)) only [go_sem,resA,zaC,Try.results19]<;>rfl) ?_
  exact hQ st' R' γ' l' q' S' ws' bs' W' h1 h2 h3 h4 h5
end
section
variable {A:Nat->List (Int × UInt64)}{RW:List Row}
end
def za8(l:List zcZ):List (Int×UInt64):=l.flatMap actT
section
variable {A:Nat->List (Int × UInt64)}{RW:List Row}
theorem zrn{l:List zcZ}{k:Nat}{x:zcZ}(hx:l[k]?=some x):za8 (l.take (k+1))=za8 (l.take k)++actT x/\∀m,m<(actT x).length->(za8 l)[(za8 (l.take k)).length+m]?=(actT x)[m]?:=by
  obtain⟨hk,rfl⟩:=qa.1 hx;have e1:l.take (k+1)=l.take k++[l[k]]:=by rw[q6,hx];rfl
  have e2:za8 (l.take (k+1))=za8 (l.take k)++actT l[k]:=by unfold za8;rw[e1,qV];simp
  refine⟨e2,fun m hm=>?_⟩;have e3:za8 l=za8 (l.take k)++(actT l[k]++za8 (l.drop (k+1))):=by
    conv=>lhs;rw[<-List.take_append_drop (k+1) l]
    unfold za8 at e2 ⊢;rw[qV,e2,List.append_assoc]
  rw[e3,qr (by omega),Nat.add_sub_cancel_left,ql hm]
theorem zqh(x:zcZ):0<(actT x).length/\(actT x).length<=3:=by
  unfold actT
  repeat' split
  all_goals simp
theorem zh8:∀(l:List zcZ),(za8 l).length<=3 * l.length
  | []=>by simp[za8]
  | x::l=>by
    have h1:=zh8 l;have h2:=(zqh x).2;have e:za8 (x::l)=actT x++za8 l:=by simp[za8]
    rw[e,qY,List.length_cons];omega
theorem zpN(l:List zcZ):∀x∈za8 l,∃n:Nat,n<5/\x.1=(n:Int):=fun x hx=>by
  obtain⟨y,_,hy⟩:=List.mem_flatMap.1 hx;unfold actT at hy;split at hy
  . simp at hy;rcases hy with rfl|rfl|rfl
    . exact⟨0,by decide,rfl⟩
    . exact⟨3,by decide,rfl⟩
    . exact⟨4,by decide,rfl⟩
  . split at hy
    . simp at hy;rcases hy with rfl|rfl|rfl
      . exact⟨1,by decide,rfl⟩
      . exact⟨3,by decide,rfl⟩
      . exact⟨4,by decide,rfl⟩
    . split at hy
      . simp at hy;subst hy;exact⟨2,by decide,rfl⟩
      . simp at hy;subst hy;exact⟨4,by decide,rfl⟩
end
section
variable {A:Nat->List (Int × UInt64)}{RW:List Row}{GR:Nat}
set_option maxRecDepth 10000 in
theorem zmi{i st:Nat}{l:List (Option Blk)}{ws:List UInt64}{bs:List UInt8}(H:BH (zbK A RW GR) 0 i kk hp (i:Int) st R γ l q bb S ws bs)(hb:400<=bb){j:Nat}(hRW:Fr RW l)(hW:Wd 1 6 ws W)(hT:TB A GR W γ.1.ps i j l)(x:zcZ)(hA:∀m,m<(actT x).length->(A i)[j+m]?=(actT x)[m]?)(hR:(A i).length - j<R)(hQ:∀(st' R':Nat) (γ':PG Unit BP×St) (l':List (Option Blk)) (q':Nat) (S':St) (ws':List UInt64) (bs':List UInt8) (W':Nat->Nat->UInt64),BH (zbK A RW GR) 0 i kk hp (i:Int) st' R' γ' l' q' 900 S' ws' bs'->Fr RW l'->Wd 1 6 ws' W'->TB A GR W' γ'.1.ps i (j+(actT x).length) l'->(A i).length - (j+(actT x).length)<R'->Q (.tuple #[]) (zaw l' q' []) S' γ'):
    Runs OF (SpB ((zbK A RW GR).pr 0) kk hp) 8 #[.iface 82 (hndV hp),.agg (geoC 1 6),actV x] (zaw l q []) S γ Q:=by
  have hq:=H.qle;have hc:x.d % 4=0\/x.d % 4=1\/x.d % 4=2\/x.d % 4=3:=by omega
  unfold actV;refine Runs.mk Try.func8 rfl rfl ?_;rw[Try.ntmps8];simp only[zSt,zLc,zLn,qc,zCa,zNa];rcases hc with hd|hd|hd|hd
  . have ha:actT x=[(0,1),(3,1),(4,qb x.a)]:=by simp[actT,hd]
    rw[ha]at hA hQ;have e:=zp3 x.d _ hd;refine viaF e ?_;refine qw H.ll fun lf hlen hge hrow=>?_;have hr:=hrow 1;simp only[zLc,zLn,qf,zGs,zGz]at hlen hr ⊢;(refine qg1 rfl rfl fun K hK=>?_;simp (disch:=(first|omega|(simp only[sz]<;>omega)|fail)) only [go_sem])
    refine zjU (H.ge hge (qi hlen) (d:=2) (qg _) (by omega)) (by omega) (hRW.ge hge) hW (hT.ge hge) hA hR fun st' R' γ' l' q' S' ws' bs' W' h1 h2 h3 h4 h5=>?_
    ((try simp only[go_sem]);with_reducible refine hK _ _ _ _ ?_;clear hK K)
    refine viaF e ?_;refine qn rfl (by simp (disch:=(first|omega|(simp only[zaa,zLc,zLn,zSt,zad]<;>omega)|fail)) only [go_sem,resA,zaC,Try.results8]<;>rfl) ?_
    exact hQ st' R' γ' l' q' S' ws' bs' W' h1 h2 h3 h4 h5
  . have ha:actT x=[(1,1),(3,qb (-1)),(4,qb (0 - x.a))]:=by simp[actT,hd]
    rw[ha]at hA hQ;have e:=zp3 x.d _ hd;refine viaF e ?_;refine qw H.ll fun lf hlen hge hrow=>?_;have hr:=hrow 1;simp only[zLc,zLn,qf,zGs,zGz]at hlen hr ⊢;(refine qg1 rfl rfl fun K hK=>?_;simp (disch:=(first|omega|(simp only[sz]<;>omega)|fail)) only [go_sem])
    refine zjs (H.ge hge (qi hlen) (d:=2) (qg _) (by omega)) (by omega) (hRW.ge hge) hW (hT.ge hge) hA hR fun st' R' γ' l' q' S' ws' bs' W' h1 h2 h3 h4 h5=>?_
    ((try simp only[go_sem]);with_reducible refine hK _ _ _ _ ?_;clear hK K)
    refine viaF e ?_;refine qn rfl (by simp (disch:=(first|omega|(simp only[zaa,zLc,zLn,zSt,zad]<;>omega)|fail)) only [go_sem,resA,zaC,Try.results8]<;>rfl) ?_
    exact hQ st' R' γ' l' q' S' ws' bs' W' h1 h2 h3 h4 h5
  . have ha:actT x=[(2,1)]:=by simp[actT,hd]
    rw[ha]at hA hQ;have e:=zp3 x.d _ hd;refine viaF e ?_;refine qw H.ll fun lf hlen hge hrow=>?_;have hr:=hrow 1;simp only[zLc,zLn,qf,zGs,zGz]at hlen hr ⊢;(refine qg1 rfl rfl fun K hK=>?_;simp (disch:=(first|omega|(simp only[sz]<;>omega)|fail)) only [go_sem])
    refine ziI (H.ge hge (qi hlen) (d:=2) (qg _) (by omega)) (by omega) (hRW.ge hge) hW (hT.ge hge) hA hR fun st' R' γ' l' q' S' ws' bs' W' h1 h2 h3 h4 h5=>?_
    ((try simp only[go_sem]);with_reducible refine hK _ _ _ _ ?_;clear hK K)
    refine viaF e ?_;refine qn rfl (by simp (disch:=(first|omega|(simp only[zaa,zLc,zLn,zSt,zad]<;>omega)|fail)) only [go_sem,resA,zaC,Try.results8]<;>rfl) ?_
    exact hQ st' R' γ' l' q' S' ws' bs' W' h1 h2 h3 h4 h5
  . have ha:actT x=[(4,qb (x.b - x.a))]:=by simp[actT,hd]
    rw[ha]at hA hQ;have e:=zp3 x.d _ hd;refine viaF e ?_;refine qw H.ll fun lf hlen hge hrow=>?_;have hr:=hrow 1;simp only[zLc,zLn,qf,zGs,zGz]at hlen hr ⊢;(refine qg1 rfl rfl fun K hK=>?_;simp (disch:=(first|omega|(simp only[sz]<;>omega)|fail)) only [go_sem])
    refine zhK (H.ge hge (qi hlen) (d:=2) (qg _) (by omega)) (by omega) (hRW.ge hge) hW (hT.ge hge) hA hR fun st' R' γ' l' q' S' ws' bs' W' h1 h2 h3 h4 h5=>?_
    ((try simp only[go_sem]);with_reducible refine hK _ _ _ _ ?_;clear hK K)
    refine viaF e ?_;refine qn rfl (by simp (disch:=(first|omega|(simp only[zaa,zLc,zLn,zSt,zad]<;>omega)|fail)) only [go_sem,resA,zaC,Try.results8]<;>rfl) ?_
    exact hQ st' R' γ' l' q' S' ws' bs' W' h1 h2 h3 h4 h5
set_option maxRecDepth 20000 in
theorem ztC{i:Nat}{l:List (Option Blk)}{ws:List UInt64}{bs:List UInt8}(H:BH (zbK A RW GR) 0 i kk hp (i:Int) 0 ((zbK A RW GR).most+1) γ l q 1000 S ws bs)(hborn:(zbK A RW GR).born i γ.1.g ws bs γ.1.ps l)(h1i:1<=i)(hmx:(A i).length<=100)(li:List zcZ)(hAi:A i=za8 li)(hli:li.length<=10){ab gb cap:Nat}{OB:Blk}{s:Option Addr}{cp:Nat}(hin:i<n+1)(hn5:n<5)(hbox:(ab,{ cells:=[.slice (some ⟨0,0,none⟩) n cap],elem:=22 })∈RW)(hg:(gb,tlG)∈RW)(hout:(0,OB)∈RW)(hcell:OB.cells[i - 1]?=some (.slice s li.length cp))(hinn:0<li.length->∃nr IB,s=some ⟨nr,0,none⟩/\(nr,IB)∈RW/\IB.cells=rowC actC li):
    zeC ((zbK A RW GR).pr 0) kk hp 15 #[] #[.pointer (some ⟨ab,0,none⟩),.pointer (some ⟨gb,0,none⟩)] (zaw l q []) S γ.1:=by
  refine⟨Try.f15,_,Try.func15,rfl,rfl,GE.go ?_⟩;show Goes OF _ _ (.run [.code _] ((#[Value.iface 82 (hndV hp),.pointer (some ⟨ab,0,none⟩),.pointer (some ⟨gb,0,none⟩)]:Array Value).toList++qc (Try.f15.ntmps - (#[Value.iface 82 (hndV hp),.pointer (some ⟨ab,0,none⟩),.pointer (some ⟨gb,0,none⟩)]:Array Value).size) undef) _ _);obtain⟨hRW,ps0,W,hps0,hl0,hW,hT⟩:=hborn;have hT0:TB A GR W γ.1.ps i 0 l:=by
    refine⟨?_,by rw[hps0];exact hT.rh.app⟩
    have e:(tbT γ.1.ps).set i (tNx A i 0)=tbT ps0++[tNx A (tbT ps0).length 0]:=by
      rw[hps0,<-hl0];simp only[tbT,List.map_append,zMp,zMn,q9];rw[List.set_append_right _ _ (by simp),q9,Nat.sub_self];rfl
    rw[e];exact hT.ti.begin
  have hγS:(γ.1,S)=γ:=by
    have:=H.hS;obtain⟨γ1,γ2⟩:=γ;cases this;rfl
  rw[hγS];clear hps0 hl0 hT;have hq:=H.qle;obtain⟨ask,gr,qt,hwp⟩:=H.hwp;have r1:=hRW _ hbox;have r2:=hRW _ hout;have q1:ab<q:=qe (qa.1 r1).1 H.ll;have q2:0<q:=qe (qa.1 r2).1 H.ll;have hcell1:OB.cells[(i - 1) * 1]?=some (.slice s li.length cp):=by rw[Nat.mul_one];exact hcell
  rw[Try.ntmps15];simp only[zSt,zLc,zLn,qc,zCa,zNa];refine viaF r1 ?_;((first|refine qp1 rfl rfl fun K hK=>?_|refine qp3 rfl rfl fun K hK=>?_);simp (disch:=(first|omega|(simp only[sz]<;>omega)|fail)) only [go_sem];(first|refine⟨_,_,.wself hwp,?_⟩|refine⟨_,_,.com (.wself hwp),?_⟩);(try simp only[go_sem]);with_reducible refine hK _ _ ?_;clear hK K)
  have hc64:=H.lt;have k1:qm.wrap ((i:Int) - 1)=((i - 1:Nat):Int):=by rw[wrap_i64 (by omega) (by omega)];omega
  refine viaF (And.intro r1 (And.intro r2 (And.intro hcell1 k1))) ?_;clear r1 r2 q1 q2 hcell1 hwp;refine GE.wh (fun z tmps h S γ=>∃(k st R:Nat) (l:List (Option Blk)) (q:Nat) (ws:List UInt64) (bs:List UInt8) (W:Nat->Nat->UInt64),z=li.length - k/\k<=li.length/\h=zaw l q []/\BH (zbK A RW GR) 0 i kk hp (i:Int) st R γ l q 900 S ws bs/\Fr RW l/\Wd 1 6 ws W/\TB A GR W γ.1.ps i (za8 (li.take k)).length l/\(A i).length - (za8 (li.take k)).length<R/\tmps.length=25 /\
      tmps.getD 0 undef=.iface 82 (hndV hp)/\tmps.getD 2 undef=.pointer (some ⟨gb,0,none⟩)/\tmps.getD 4 undef=.slice s li.length cp/\tmps.getD 5 undef=.int .i64 (k:Int)) (m:=li.length)
    ⟨0,0,_,l,q,ws,bs,W,rfl,by omega,rfl,H.less (by decide),hRW,hW,hT0,by show(A i).length - _<100+1;omega,rfl,rfl,rfl,rfl,rfl⟩ ?_
  clear H hRW hW hT0 hq;rintro z tmps h S γ ih ⟨k,st,R,l,q,ws,bs,W,rfl,hk,rfl,H,hRW,hW,hT,hR,hl,f0,f2,f4,f5⟩;have hq:=H.qle;obtain⟨V,hV,hT⟩:=zbR hl;replace hT:_=([V 0,V 1,V 2,V 3,V 4,V 5,V 6,V 7,V 8,V 9,V 10,V 11,V 12,V 13,V 14,V 15,V 16,V 17,V 18,V 19,V 20,V 21,V 22,V 23,V 24]:List Value):=hT;rw[hV]at f0 f2 f4 f5;subst hT;simp only[f0,f2,f4,f5];clear hV hl;by_cases hkl:k<li.length
  case neg =>
    obtain rfl:k=li.length:=by omega
    refine viaD ?_;refine Goes.endG rfl (by simp (disch:=(first|omega|(simp only[zaa,zLc,zLn,zSt,zad]<;>omega)|fail)) only [go_sem,resA,zaC,Try.results15]<;>rfl) ?_
    refine⟨_,_,_,rfl,H.over () ⟨hRW,W,hW,?_⟩⟩;rw[List.take_length,<-hAi]at hT;exact hT.fin rfl
  obtain⟨nr,IB,rfl,hIB,hcells⟩:=hinn (by omega)
  obtain⟨x,hx⟩:∃x,li[k]?=some x:=⟨_,qs hkl⟩;obtain⟨hx1,hx2⟩:=zrn hx;have r1:=hRW _ hIB;have r2:=hRW _ hg;have q1:nr<q:=qe (qa.1 r1).1 H.ll;have q2:gb<q:=qe (qa.1 r2).1 H.ll;have hlen:IB.cells.length=li.length * 3:=by rw[hcells];exact ziT (fl:=actC) (s:=3) (fun _=>rfl) li
  have cl:(List.take 3 (List.drop (k * 3) IB.cells)).toArray=#[.int .u8 x.d,.int .i64 x.a,.int .i64 x.b]:=by rw[hcells,zki (fl:=actC) (s:=3) (fun _=>rfl) hx];rfl
  refine viaD ?_;refine q0 6 (by kernel_rfl) ?_
  repeat(refine qw1 rfl rfl rfl fun K hK=>?_;simp (disch:=(first|omega|(simp only[sz]<;>omega)|fail)) only [go_sem,r1,r2,cl];with_reducible refine hK _ _ ?_;clear hK K)
  (refine qg2 rfl rfl fun K hK=>?_;simp (disch:=(first|omega|(simp only[sz]<;>omega)|fail)) only [go_sem]);refine zmi H (by decide) hRW hW hT x (fun m hm=>by rw[hAi];exact hx2 m hm) hR fun st' R' γ' l' q' S' ws' bs' W' h1 h2 h3 h4 h5=>?_
  ((try simp only[go_sem]);with_reducible refine hK _ _ _ _ ?_;clear hK K)
  refine viaD ?_;have e1:(za8 (li.take k)).length+(actT x).length=(za8 (li.take (k+1))).length:=by rw[hx1,qY]
  rw[e1]at h4 h5;refine q4 (ih (li.length - (k+1)) _ _ _ _ (by omega) ⟨k+1,st',R',l',q',ws',bs',W',rfl,by omega,rfl,h1,h2,h3,h4,h5,rfl,rfl,rfl,rfl,by push_cast;rfl⟩)
end
def ctsL(v:Nat->UInt64):List Value:=[.int .u64 ((v 0).toNat:Int),.int .u64 ((v 1).toNat:Int),.int .u64 ((v 2).toNat:Int),.int .u64 ((v 3).toNat:Int),.int .u64 ((v 4).toNat:Int)]
abbrev ctsV(v:Nat->UInt64):Value:=.agg (ctsL v).toArray
abbrev ctsB(v:Nat->UInt64):Blk:={ cells:=ctsL v,elem:=45 }
def zfm(v:Nat->UInt64)(c:Nat):UInt64:=if c<3 then v c else 0
theorem zf1(S:St)(a b:Nat->UInt64)(h:∀c,c<3->a c<=b c):Does OF 14 #[ctsV a,ctsV b] [] S (.bool true) S:=by
  have e0:=qo.1 (h 0 (by decide))
  have e1:=qo.1 (h 1 (by decide))
  have e2:=qo.1 (h 2 (by decide))
  unfold ctsV ctsL;refine qC Try.func14 rfl rfl ?clo ?hand ?_
  case clo=>exact clo2 (Clo.plain (by simp[zab])) (Clo.plain (by simp[zab]))
  case hand=>exact qq (by simp[zab])
  rw[Try.ntmps14];simp only[zSt,zLc,zLn,qc,zCa,zNa];refine via ?_;refine qu rfl (by simp (disch:=(first|omega|(simp only[zaa,zLc,zLn,zSt,zad]<;>omega)|fail)) only [go_sem,resA,zaC,Try.results14]<;>rfl) ?_
  rfl
theorem zlw(S:St)(m:Nat){ws:List UInt64}{bs:List UInt8}(hm:S[m]?=some (.mem ws bs))(hW:Wd 1 6 ws W):Does OF 13 #[hndV m,.agg (geoC 1 6)] [] S (ctsV (zfm (W 2))) S:=by
  have h:∀k:Nat,k<5->wT 1 (gat 1 6 2 k) 0 ws=W 2 k:=fun k hk=>hW.tells (r:=2) (by decide) (by simpa[gsz] using hk)
  have h0:wT 1 (gat 1 6 2 0) 0 ws=W 2 0:=h 0 (by decide)
  have h1:wT 1 (gat 1 6 2 1) 0 ws=W 2 1:=h 1 (by decide)
  have h2:wT 1 (gat 1 6 2 2) 0 ws=W 2 2:=h 2 (by decide)
  refine qC Try.func13 rfl rfl ?clo ?hand ?_
  case clo=>exact clo2 (hclo (zgb hm)) gclo
  case hand=>exact qq (by simp[zab,ctsL])
  rw[Try.ntmps13];simp only[zSt,zLc,zLn,qc,zCa,zNa];refine viaL ?_;((first|refine qp1 rfl rfl fun K hK=>?_|refine qp3 rfl rfl fun K hK=>?_);simp (disch:=(first|omega|(simp only[sz]<;>omega)|fail)) only [go_sem];(first|refine⟨_,_,(qpd fun w=>zae 1 6 0 w (by decide) (by decide)),?_⟩|refine⟨_,_,(qpu fun w=>zae 1 6 0 w (by decide) (by decide)),?_⟩|refine⟨_,_,.com (qpd fun w=>zae 1 6 0 w (by decide) (by decide)),?_⟩|refine⟨_,_,.com (qpu fun w=>zae 1 6 0 w (by decide) (by decide)),?_⟩);(try simp only[go_sem]);with_reducible refine hK _ _ ?_;clear hK K)
  refine viaL ?_;((first|refine qp1 rfl rfl fun K hK=>?_|refine qp3 rfl rfl fun K hK=>?_);simp (disch:=(first|omega|(simp only[sz]<;>omega)|fail)) only [go_sem];(first|refine⟨_,_,.word _ hm,?_⟩|refine⟨_,_,.com (.word _ hm),?_⟩);(try simp only[go_sem]);with_reducible refine hK _ _ ?_;clear hK K)
  refine viaL ?_;((first|refine qp1 rfl rfl fun K hK=>?_|refine qp3 rfl rfl fun K hK=>?_);simp (disch:=(first|omega|(simp only[sz]<;>omega)|fail)) only [go_sem];(first|refine⟨_,_,(qpd fun w=>zae 1 6 1 w (by decide) (by decide)),?_⟩|refine⟨_,_,(qpu fun w=>zae 1 6 1 w (by decide) (by decide)),?_⟩|refine⟨_,_,.com (qpd fun w=>zae 1 6 1 w (by decide) (by decide)),?_⟩|refine⟨_,_,.com (qpu fun w=>zae 1 6 1 w (by decide) (by decide)),?_⟩);(try simp only[go_sem]);with_reducible refine hK _ _ ?_;clear hK K)
  refine viaL ?_;((first|refine qp1 rfl rfl fun K hK=>?_|refine qp3 rfl rfl fun K hK=>?_);simp (disch:=(first|omega|(simp only[sz]<;>omega)|fail)) only [go_sem];(first|refine⟨_,_,.word _ hm,?_⟩|refine⟨_,_,.com (.word _ hm),?_⟩);(try simp only[go_sem]);with_reducible refine hK _ _ ?_;clear hK K)
  refine viaL ?_;((first|refine qp1 rfl rfl fun K hK=>?_|refine qp3 rfl rfl fun K hK=>?_);simp (disch:=(first|omega|(simp only[sz]<;>omega)|fail)) only [go_sem];(first|refine⟨_,_,(qpd fun w=>zae 1 6 2 w (by decide) (by decide)),?_⟩|refine⟨_,_,(qpu fun w=>zae 1 6 2 w (by decide) (by decide)),?_⟩|refine⟨_,_,.com (qpd fun w=>zae 1 6 2 w (by decide) (by decide)),?_⟩|refine⟨_,_,.com (qpu fun w=>zae 1 6 2 w (by decide) (by decide)),?_⟩);(try simp only[go_sem]);with_reducible refine hK _ _ ?_;clear hK K)
  refine viaL ?_;((first|refine qp1 rfl rfl fun K hK=>?_|refine qp3 rfl rfl fun K hK=>?_);simp (disch:=(first|omega|(simp only[sz]<;>omega)|fail)) only [go_sem];(first|refine⟨_,_,.word _ hm,?_⟩|refine⟨_,_,.com (.word _ hm),?_⟩);(try simp only[go_sem]);with_reducible refine hK _ _ ?_;clear hK K)
  refine viaL ?_;rw[h0,h1,h2];refine qu rfl (by simp (disch:=(first|omega|(simp only[zaa,zLc,zLn,zSt,zad]<;>omega)|fail)) only [go_sem,resA,zaC,Try.results13]<;>rfl) ?_
  rfl
abbrev ptrR(q:Nat):Blk:={ cells:=[.pointer (some ⟨q+2,0,none⟩),.pointer (some ⟨q+2,1,none⟩),.pointer (some ⟨q+2,2,none⟩),.pointer (some ⟨q+2,3,none⟩),.pointer (some ⟨q+2,4,none⟩)],elem:=69 }
theorem zrS :∀{x:Nat},x<5->(ptrR q).cells[x * 1]?=some (.pointer (some ⟨q+2,x,none⟩))
  | 0,_=>rfl
  | 1,_=>rfl
  | 2,_=>rfl
  | 3,_=>rfl
  | 4,_=>rfl
structure RQ (A:Nat->List (Int×UInt64)) (GR:Nat) (W:Nat->Nat->UInt64) (ps:List (Option BP)) (l:List (Option Blk)):Prop where
  ti:TI A W (tbT ps)
  good:l[GR]?=some (some znh)
  only:∀(i:Nat) r,ps[i]?=some (some (.inr r))->i=0
  z:(tbT ps)[0]?=some none
theorem RQ.ge{ps:List (Option BP)}{l l':List (Option Blk)}(H:RQ A GR W ps l)(h:Ge l l'):RQ A GR W ps l':=⟨H.ti,h _ _ H.good,H.only,H.z⟩
theorem RB.rq{ps:List (Option BP)}{l:List (Option Blk)}(H:RB A GR W ps l){r:RP}(h0:ps[0]?=some (some (.inr r))):RQ A GR W ps l:=⟨H.ti,H.rh.good,fun i r h=>(H.rh.rd i r h).1,by rw[qK,h0];rfl⟩
variable {v:Nat->UInt64}
theorem zrd :(ctsL v).length=5:=rfl
def tbUp(v:Nat->UInt64)(x:Nat)(y:UInt64)(c:Nat):UInt64:=if c=x then y else v c
theorem zq7{y:UInt64}:∀{x:Nat},x<5->(ctsL v).set x (.int .u64 (y.toNat:Int))=ctsL (tbUp v x y)
  | 0,_=>rfl
  | 1,_=>rfl
  | 2,_=>rfl
  | 3,_=>rfl
  | 4,_=>rfl
theorem Fr.row{fr:List Row}{l:List (Option Blk)}{b':Option Blk}(h:Fr fr l)(hn:∀x∈fr,x.1≠n):Fr fr (l.set n b'):=fun x hx=>by
  rw[qd fun e=>hn x hx e.symm];exact h x hx
section
variable {A:Nat->List (Int × UInt64)}{RW:List Row}{GR:Nat}
set_option maxRecDepth 10000 in
theorem zkk{st:Nat}{l:List (Option Blk)}{ws:List UInt64}{bs:List UInt8}(H:BH (zbK A RW GR) 0 0 kk hp 0 st R γ l q bb S ws bs)(hb:400<=bb)(h0:A 0=[])(hRW:Fr RW l)(hW:Wd 1 6 ws W)(hT:RQ A GR W γ.1.ps l)(XR:List Row)(hXR:Fr XR l)(hXm:∀x∈XR,zc0 x.2=false){D:Nat}(hD:5<=D/\D<=15)(hR:D<R)(hQ:∀(st' R':Nat) (γ':PG Unit BP×St) (l':List (Option Blk)) (q':Nat) (S':St) (ws':List UInt64) (bs':List UInt8) (W':Nat->Nat->UInt64) (v:Nat->UInt64),BH (zbK A RW GR) 0 0 kk hp 0 st' R' γ' l' q' 900 S' ws' bs'->Fr RW l'->Wd 1 6 ws' W'->RQ A GR W' γ'.1.ps l'->Fr XR l'->D - 5<R'->(∀c,c<3->W 2 c<=v c/\v c<=W' 2 c)->Q (ctsV v) (zaw l' q' []) S' γ'):
    Runs OF (SpB ((zbK A RW GR).pr 0) kk hp) 11 #[.iface 82 (hndV hp),.agg (geoC 1 6)] (zaw l q []) S γ Q:=by
  have hq:=H.qle;refine Runs.mk Try.func11 rfl rfl ?_;rw[Try.ntmps11];simp only[zSt,zLc,zLn,qc,zCa,zNa];refine viaD ?_;refine qZ H.ll fun lf hlen hge hrow=>?_;have g0:lf[q]?=some (some tlG):=hrow 0;have g1:lf[q+1]?=some (some (ctsB fun _=>0)):=hrow 1;have g2:lf[q+2]?=some (some (ctsB fun _=>0)):=hrow 2;have g3:lf[q+3]?=some (some (ptrR q)):=hrow 3;simp only[zLc,zLn,qf]at hlen ⊢;have hXq:∀x∈XR,x.1<q:=fun x hx=>qe (qa.1 (hXR x hx)).1 H.ll;have hRq:∀x∈RW,x.1<q:=fun x hx=>qe (qa.1 (hRW x hx)).1 H.ll;have hGq:GR<q:=qe (qa.1 hT.good).1 H.ll;refine GE.wh (fun z tmps h S γ=>∃(x st R:Nat) (l:List (Option Blk)) (q2:Nat) (ws:List UInt64) (bs:List UInt8) (W':Nat->Nat->UInt64) (v:Nat->UInt64),z=5 - x/\x<=5/\h=zaw l q2 []/\BH (zbK A RW GR) 0 0 kk hp 0 st R γ l q2 (if x=0 then bb - 4 else 1000) S ws bs/\Fr RW l/\Wd 1 6 ws W'/\RQ A GR W' γ.1.ps l/\Fr XR l/\D - x<R/\l[q]?=some (some tlG)/\l[q+1]?=some (some (ctsB fun _=>0))/\l[q+2]?=some (some (ctsB v))/\l[q+3]?=some (some (ptrR q))/\(∀c,c<3->W 2 c<=W' 2 c)/\(∀c,c<3->c<x->W 2 c<=v c/\v c<=W' 2 c)/\tmps.length=32 /\
      tmps.getD 0 undef=.iface 82 (hndV hp)/\tmps.getD 3 undef=.pointer (some ⟨q,0,none⟩)/\tmps.getD 4 undef=.pointer (some ⟨q+1,0,none⟩)/\tmps.getD 5 undef=.pointer (some ⟨q+2,0,none⟩)/\tmps.getD 13 undef=.slice (some ⟨q+3,0,none⟩) 5 5/\tmps.getD 14 undef=.int .i64 5/\tmps.getD 15 undef=.int .i64 (x:Int)) (m:=5)
    ⟨0,st,R,lf,q+4,ws,bs,W,fun _=>0,rfl,by omega,rfl,H.ge hge (qi hlen) (d:=4) (qg _) (by omega),hRW.ge hge,hW,hT.ge hge,hXR.ge hge,hR,g0,g1,g2,g3,fun c _=>qx _,fun c _ h=>absurd h (Nat.not_lt_zero _),rfl,rfl,rfl,rfl,rfl,rfl,rfl,rfl⟩ ?_
  clear H hRW hW hT hXR hR g0 g1 g2 g3 hge hrow hlen;rintro z tmps h S γ ih ⟨x,st,R,l,q2,ws,bs,W',v,rfl,hx,rfl,H,hRW,hW,hT,hXR,hR,g0,g1,g2,g3,hlo,hv,hl,f0,f3,f4,f5,f13,f14,f15⟩;have hq2:q2<=500000000:=by have:=H.qle;omega
  have l3:q+3<q2:=qe (qa.1 g3).1 H.ll;have l0:q<q2:=by omega
  have l1:q+1<q2:=by omega
  have l2:q+2<q2:=by omega
  obtain⟨V,hV,hT⟩:=zbR hl;replace hT:_=([V 0,V 1,V 2,V 3,V 4,V 5,V 6,V 7,V 8,V 9,V 10,V 11,V 12,V 13,V 14,V 15,V 16,V 17,V 18,V 19,V 20,V 21,V 22,V 23,V 24,V 25,V 26,V 27,V 28,V 29,V 30,V 31]:List Value):=hT;rw[hV]at f0 f3 f4 f5 f13 f14 f15;subst hT;simp only[f0,f3,f4,f5,f13,f14,f15];clear hV hl;by_cases hx5:x<5
  case neg =>
    obtain rfl:x=5:=by omega
    have m1:=(qa.1 g1).1;have e1:Fr RW (l.set (q+1) (some (ctsB v))):=hRW.row fun x hx=>by have:=hRq x hx;omega
    have e2:Fr XR (l.set (q+1) (some (ctsB v))):=hXR.row fun x hx=>by have:=hXq x hx;omega
    have e3:RQ A GR W' γ.1.ps (l.set (q+1) (some (ctsB v))):=⟨hT.ti,by rw[qd (by omega)];exact hT.good,hT.only,hT.z⟩
    have e4:=(H.set g1 (c':=some (ctsB v)) rfl).less (b':=900) (by rw[if_neg (by decide)];decide)
    simp only[ctsB,ctsL]at g1 g2 e1 e2 e3 e4;refine zgt (And.intro g2 g1) ?_;refine Goes.named fun l5 hl5=>?_;have g5:l5[q+1]?=some (some { cells:=[.int .u64 ((v 0).toNat:Int),.int .u64 ((v 1).toNat:Int),.int .u64 ((v 2).toNat:Int),.int .u64 ((v 3).toNat:Int),.int .u64 ((v 4).toNat:Int)],elem:=45 }):=by rw[hl5,qh m1]
    rw[<-hl5]at e1 e2 e3 e4;refine viaD ?_;refine qn rfl (by simp (disch:=(first|omega|(simp only[zaa,zLc,zLn,zSt,zad]<;>omega)|fail)) only [go_sem,resA,zaC,Try.results11,g5]<;>rfl) ?_
    exact hQ st R γ l5 q2 S ws bs W' v e4 e1 hW e3 e2 hR fun c hc=>hv c hc (by omega)
  have cl:=zrS (q:=q) hx5;refine zgt (And.intro g3 cl) ?_;refine q0 8 (by kernel_rfl) ?_
  repeat(refine qw1 rfl rfl rfl fun K hK=>?_;simp (disch:=(first|omega|(simp only[sz]<;>omega)|fail)) only [go_sem,g0];with_reducible refine hK _ _ ?_;clear hK K)
  (refine qwp rfl rfl fun K hK=>?_;simp (disch:=(first|omega|(simp only[sz]<;>omega)|fail)) only [go_sem];(first|refine⟨_,_,(qpd fun w=>zae 1 6 (x:Int) w (by decide) (by decide)),?_⟩|refine⟨_,_,(qpu fun w=>zae 1 6 (x:Int) w (by decide) (by decide)),?_⟩|refine⟨_,_,.com (qpd fun w=>zae 1 6 (x:Int) w (by decide) (by decide)),?_⟩|refine⟨_,_,.com (qpu fun w=>zae 1 6 (x:Int) w (by decide) (by decide)),?_⟩);(try simp only[go_sem]);with_reducible refine hK _ ?_;clear hK K)
  repeat(refine qw1 rfl rfl rfl fun K hK=>?_;simp (disch:=(first|omega|(simp only[sz]<;>omega)|fail)) only [go_sem,g0];with_reducible refine hK _ _ ?_;clear hK K)
  (refine qg2 rfl rfl fun K hK=>?_;simp (disch:=(first|omega|(simp only[sz]<;>omega)|fail)) only [go_sem]);refine zsN (H.ask (.inr ⟨x,D - x,W' 2,(q+1,ctsB fun _=>0)::(q+2,ctsB v)::XR⟩) [(q,tlG),(q+3,ptrR q)] () rfl (Fr.cons g0 (Fr.cons g3 Fr.nil)) (fun y hy=>by
    simp only[zMc,zNm,or_false]at hy;rcases hy with rfl|rfl<;>exact⟨rfl,rfl⟩) ⟨hRW,W',hW,RB.rset h0 hT.ti hT.good hT.only rfl (fun r hr=>?_) hT.z⟩ hR fun v2 γ2 l4 q3 S2 ws2 bs2 R2 H2 hfr hps hqq hrun=>?_)
  . cases hr;exact⟨hx5,by show 1<=D - x;omega,by show D - x<=15;omega,Fr.cons g1 (Fr.cons g2 hXR),fun y hy=>by
      rcases List.mem_cons.1 hy with rfl|hy
      . rfl
      rcases List.mem_cons.1 hy with rfl|hy
      . rfl
      exact hXm y hy,fun c hc=>qx _⟩
  obtain⟨rfl,hRW2,W2,hW2,hT2,hfr2,hlo2,rfl⟩:=hrun;replace hfr2:Fr ((q+1,ctsB fun _=>0)::(q+2,ctsB v)::XR) l4:=hfr2;replace g0:=hfr (q,tlG) (by simp)
  replace g3:=hfr (q+3,ptrR q) (by simp)
  replace g1:=hfr2 (q+1,ctsB fun _=>0) (by simp)
  replace g2:=hfr2 (q+2,ctsB v) (by simp)
  replace hXR:Fr XR l4:=fun y hy=>hfr2 y (qz _ (qz _ hy));have k2:q+2<q3:=by omega
  ((try simp only[go_sem]);with_reducible refine hK _ _ _ _ ?_;clear hK K)
  have m2:=(qa.1 g2).1
  repeat(first|refine qM ?_|refine qB rfl ?_|((first|refine qv1 rfl rfl rfl fun K hK=>?_|refine qv3 rfl rfl rfl fun K hK=>?_|refine qv2 rfl rfl rfl rfl rfl rfl fun K hK=>?_|refine qv4 rfl rfl rfl rfl rfl rfl fun K hK=>?_|refine qn1 rfl rfl rfl fun K hK=>?_|refine qn3 rfl rfl rfl fun K hK=>?_|refine qt1 rfl rfl rfl fun K hK=>?_|refine qt3 rfl rfl rfl fun K hK=>?_);simp (disch:=(first|omega|(simp only[sz]<;>omega)|fail)) only [go_sem,g2,zrd];with_reducible refine hK _ _ ?_;clear hK K)|refine qU rfl ?_|refine RG.nil rfl ?_|((first|refine qG rfl rfl rfl rfl rfl ?_|refine qE rfl rfl rfl rfl rfl ?_|refine qF rfl rfl rfl rfl ?_|refine qD rfl rfl rfl rfl ?_);simp only[putL,qj,qk])|refine qL rfl ?_|refine qO rfl ?_)
  rw[zq7 hx5];refine q4 (ih (5 - (x+1)) _ _ _ _ (by omega) ⟨x+1,st+1,_,_,q3,ws2,bs2,W2,tbUp v x (W2 2 x),rfl,by omega,rfl,by rw[if_neg (by omega)];exact H2.set g2 rfl,hRW2.row fun x hx=>by have:=hRq x hx;omega,hW2,?_,hXR.row fun x hx=>by have:=hXq x hx;omega,?_,?_,?_,?_,?_,fun c hc=>qv (hlo c hc) (hlo2 c hc),fun c hc hcx=>?_,rfl,rfl,rfl,rfl,rfl,rfl,rfl,by push_cast;rfl⟩)
  . have:=hT2.rq hps;exact⟨this.ti,by rw[qd (by omega)];exact this.good,this.only,this.z⟩
  . show D - (x+1)<D - x;omega
  . rw[qd (by omega)];exact g0
  . rw[qd (by omega)];exact g1
  . rw[qh m2]
  . rw[qd (by omega)];exact g3
  . unfold tbUp;split
    . rename_i e;subst e;exact⟨qv (hlo c hc) (hlo2 c hc),qx _⟩
    . obtain⟨h1,h2⟩:=hv c hc (by omega)
      exact⟨h1,qv h2 (hlo2 c hc)⟩
end
end Go.Proofs.Ytkjmaapbeicmkaa
