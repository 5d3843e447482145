/-
  Layer 7 over the abstract machine: contracts, awake, LockTells.
  No condition beyond those of each contract.
-/
import Derived.Test.YtpkkfkebnhgaiaaUFar
import Derived.Test.YtpkkfkebnhgaiaaUCo20
set_option maxHeartbeats 40000000
set_option linter.unusedVariables false
set_option linter.unusedSimpArgs false
open List renaming replicate->qa,getElem?_eq_some_iff->qd,getElem?_set_ne->qe,getElem?_set_self->qg,mem_of_getElem?->qh,getElem?_append_left->qj,set_append_right->qu,mem_singleton->qw
open Go.Proofs.Ytpkkfkebnhgaiaa.Does renaming com->qb,mk->qr
open Nat renaming le_refl->qf,lt_of_lt_of_le->qi,zero_add->qs
open Option.some renaming inj->qk
open Go.Proofs.Ytpkkfkebnhgaiaa.Goes renaming fin->qn,again->qo,endL->qp,drawC->qx
namespace Go.Proofs.Ytpkkfkebnhgaiaa
open Go Go.RowKit
variable {S:St}{a b c:Ob}
theorem zpi  :(S++[a,b]).length=S.length+2:=by simp
theorem zou  :(S++[a,b])++[c]=S++[a,b,c]:=by simp
theorem zco  :(S++[a,b,c])[S.length]?=some a:=by simp
theorem zf7  :(S++[a,b,c])[S.length+1]?=some b:=by simp
theorem zf3  :(S++[a,b,c])[S.length+2]?=some c:=by simp
variable {me:Int}{s N T:Nat}
theorem zoB{L:List Ob}{i:Nat}{ws:List UInt64}{bs:List UInt8}:accS (S++L) (S.length+i) S.length me s ws bs=S++(L.set i (.port S.length me s)).set 0 (.mem ws bs):=by
  unfold accS;rw[qu _ _ (by omega),qu _ _ (by omega),Nat.add_sub_cancel_left,Nat.sub_self]
theorem zfY{ws:List UInt64}{bs:List UInt8}:accS (S++[a,b,c]) (S.length+1) S.length me s ws bs=S++[.mem ws bs,.port S.length me s,c]:=zoB
theorem zfS{ws:List UInt64}{bs:List UInt8}:accS (S++[a,b,c]) (S.length+2) S.length me s ws bs=S++[.mem ws bs,b,.port S.length me s]:=zoB
theorem zqz(S:St)(p m me:Nat)(steps:Nat)(ws:List UInt64)(bs:List UInt8)(N T:Nat)(hp:S[p]?=some (.port m me steps))(hm:S[m]?=some (.mem ws bs))(hs:steps<=100000000000)(hN:N<=256)(hT:T<=64)(h:wAt ws (gat N T 0 0)=some 0):
    Does OF 8 #[prtV p,.agg (geoC N T)] [] S (.bool true) (accS S p m me (steps+1) (ws.set (gat N T 0 0).toNat (zaS me)) bs):=by
  refine qr Try.func8 rfl rfl ?clo ?hand ?_
  case clo=>exact clo2 (pclo (zjt hp)) gclo
  case hand=>exact Hand.plain rfl
  rw[Try.ntmps8];simp only[zSt,zLc,zLn,qa,zCa,zNa];refine viaL ?_;((first|refine qp1 rfl rfl fun K hK=>?_|refine qp3 rfl rfl fun K hK=>?_);simp (disch:=(first|omega|(simp only[sz]<;>omega)|fail)) only [go_sem];(first|refine⟨_,_,(qpd fun w=>zan N T w hN hT),?_⟩|refine⟨_,_,(qpu fun w=>zan N T w hN hT),?_⟩|refine⟨_,_,.com (qpd fun w=>zan N T w hN hT),?_⟩|refine⟨_,_,.com (qpu fun w=>zan N T w hN hT),?_⟩);(try simp only[go_sem]);with_reducible refine hK _ _ ?_;clear hK K)
  refine viaL ?_;((first|refine qc1 rfl rfl fun K hK=>?_|refine qc3 rfl rfl fun K hK=>?_);simp (disch:=(first|omega|(simp only[sz]<;>omega)|fail)) only [go_sem];(first|refine⟨_,_,zb7 S p m me steps hp,?_⟩|refine⟨_,_,qb (zb7 S p m me steps hp),?_⟩);(try simp only[go_sem]);with_reducible refine hK _ _ ?_;clear hK K)
  refine viaL ?_;((first|refine qp1 rfl rfl fun K hK=>?_|refine qp3 rfl rfl fun K hK=>?_);simp (disch:=(first|omega|(simp only[sz]<;>omega)|fail)) only [go_sem];(first|refine⟨_,_,.cas _ 0 (zaS me) hp hm (by omega),?_⟩|refine⟨_,_,.com (.cas _ 0 (zaS me) hp hm (by omega)),?_⟩);(try simp only[go_sem]);with_reducible refine hK _ _ ?_;clear hK K)
  rw[(zkq h (zaS me)).1,(zkq h (zaS me)).2];refine viaL ?_;refine qn rfl (by simp (disch:=(first|omega|(simp only[zaa,zLc,zLn,zSt,zaf]<;>omega)|fail)) only [go_sem,resA,zaK,Try.results8]<;>rfl) ?_
  rfl
theorem zpo(S:St)(p m me:Nat)(steps:Nat)(ws:List UInt64)(bs:List UInt8)(N T:Nat)(hp:S[p]?=some (.port m me steps))(hm:S[m]?=some (.mem ws bs))(hs:steps<=100000000000)(hN:N<=256)(hT:T<=64)(h:wAt ws (gat N T 0 0)≠some 0):
    Does OF 8 #[prtV p,.agg (geoC N T)] [] S (.bool false) (accS S p m me (steps+3) ws bs):=by
  have hne:=zoW hp hm;refine qr Try.func8 rfl rfl ?clo ?hand ?_
  case clo=>exact clo2 (pclo (zjt hp)) gclo
  case hand=>exact Hand.plain rfl
  rw[Try.ntmps8];simp only[zSt,zLc,zLn,qa,zCa,zNa];refine viaL ?_;((first|refine qp1 rfl rfl fun K hK=>?_|refine qp3 rfl rfl fun K hK=>?_);simp (disch:=(first|omega|(simp only[sz]<;>omega)|fail)) only [go_sem];(first|refine⟨_,_,(qpd fun w=>zan N T w hN hT),?_⟩|refine⟨_,_,(qpu fun w=>zan N T w hN hT),?_⟩|refine⟨_,_,.com (qpd fun w=>zan N T w hN hT),?_⟩|refine⟨_,_,.com (qpu fun w=>zan N T w hN hT),?_⟩);(try simp only[go_sem]);with_reducible refine hK _ _ ?_;clear hK K)
  refine viaL ?_;((first|refine qc1 rfl rfl fun K hK=>?_|refine qc3 rfl rfl fun K hK=>?_);simp (disch:=(first|omega|(simp only[sz]<;>omega)|fail)) only [go_sem];(first|refine⟨_,_,zb7 S p m me steps hp,?_⟩|refine⟨_,_,qb (zb7 S p m me steps hp),?_⟩);(try simp only[go_sem]);with_reducible refine hK _ _ ?_;clear hK K)
  refine viaL ?_;((first|refine qp1 rfl rfl fun K hK=>?_|refine qp3 rfl rfl fun K hK=>?_);simp (disch:=(first|omega|(simp only[sz]<;>omega)|fail)) only [go_sem];(first|refine⟨_,_,.cas _ 0 (zaS me) hp hm (by omega),?_⟩|refine⟨_,_,.com (.cas _ 0 (zaS me) hp hm (by omega)),?_⟩);(try simp only[go_sem]);with_reducible refine hK _ _ ?_;clear hK K)
  rw[(zdZ h (zaS me)).1,(zdZ h (zaS me)).2];refine viaL ?_;((first|refine qp1 rfl rfl fun K hK=>?_|refine qp3 rfl rfl fun K hK=>?_);simp (disch:=(first|omega|(simp only[sz]<;>omega)|fail)) only [go_sem];(first|refine⟨_,_,(qpd fun w=>zan N T w hN hT),?_⟩|refine⟨_,_,(qpu fun w=>zan N T w hN hT),?_⟩|refine⟨_,_,.com (qpd fun w=>zan N T w hN hT),?_⟩|refine⟨_,_,.com (qpu fun w=>zan N T w hN hT),?_⟩);(try simp only[go_sem]);with_reducible refine hK _ _ ?_;clear hK K)
  refine viaL ?_;((first|refine qc1 rfl rfl fun K hK=>?_|refine qc3 rfl rfl fun K hK=>?_);simp (disch:=(first|omega|(simp only[sz]<;>omega)|fail)) only [go_sem];(first|refine⟨_,_,zb7 _ p m me _ (zjX hp hm),?_⟩|refine⟨_,_,qb (zb7 _ p m me _ (zjX hp hm)),?_⟩);(try simp only[go_sem]);with_reducible refine hK _ _ ?_;clear hK K)
  refine viaL ?_;((first|refine qp1 rfl rfl fun K hK=>?_|refine qp3 rfl rfl fun K hK=>?_);simp (disch:=(first|omega|(simp only[sz]<;>omega)|fail)) only [go_sem];(first|refine⟨_,_,.cas _ 0 (zaS me) (zjX hp hm) (zqp hp hm) (by omega),?_⟩|refine⟨_,_,.com (.cas _ 0 (zaS me) (zjX hp hm) (zqp hp hm) (by omega)),?_⟩);(try simp only[go_sem]);with_reducible refine hK _ _ ?_;clear hK K)
  rw[(zdZ h (zaS me)).1,(zdZ h (zaS me)).2,znF hne];refine viaL ?_;((first|refine qp1 rfl rfl fun K hK=>?_|refine qp3 rfl rfl fun K hK=>?_);simp (disch:=(first|omega|(simp only[sz]<;>omega)|fail)) only [go_sem];(first|refine⟨_,_,(qpd fun w=>zan N T w hN hT),?_⟩|refine⟨_,_,(qpu fun w=>zan N T w hN hT),?_⟩|refine⟨_,_,.com (qpd fun w=>zan N T w hN hT),?_⟩|refine⟨_,_,.com (qpu fun w=>zan N T w hN hT),?_⟩);(try simp only[go_sem]);with_reducible refine hK _ _ ?_;clear hK K)
  refine viaL ?_;((first|refine qc1 rfl rfl fun K hK=>?_|refine qc3 rfl rfl fun K hK=>?_);simp (disch:=(first|omega|(simp only[sz]<;>omega)|fail)) only [go_sem];(first|refine⟨_,_,zb7 _ p m me _ (zjX hp hm),?_⟩|refine⟨_,_,qb (zb7 _ p m me _ (zjX hp hm)),?_⟩);(try simp only[go_sem]);with_reducible refine hK _ _ ?_;clear hK K)
  refine viaL ?_;((first|refine qp1 rfl rfl fun K hK=>?_|refine qp3 rfl rfl fun K hK=>?_);simp (disch:=(first|omega|(simp only[sz]<;>omega)|fail)) only [go_sem];(first|refine⟨_,_,.cas _ 0 (zaS me) (zjX hp hm) (zqp hp hm) (by omega),?_⟩|refine⟨_,_,.com (.cas _ 0 (zaS me) (zjX hp hm) (zqp hp hm) (by omega)),?_⟩);(try simp only[go_sem]);with_reducible refine hK _ _ ?_;clear hK K)
  rw[(zdZ h (zaS me)).1,(zdZ h (zaS me)).2,znF hne];refine viaL ?_;refine qn rfl (by simp (disch:=(first|omega|(simp only[zaa,zLc,zLn,zSt,zaf]<;>omega)|fail)) only [go_sem,resA,zaK,Try.results8]<;>rfl) ?_
  rfl
def hold(x:UInt64):Int:=if 64<x.toNat then -1 else(x.toNat:Int) - 1
theorem zhE(S:St)(x:UInt64):Does OF 30 #[.int .u64 (x.toNat:Int)] [] S (.int .i64 (hold x)) S:=by
  refine qr Try.func30 rfl rfl ?clo ?hand ?_
  case clo=>exact clo1 iclo
  case hand=>exact Hand.plain rfl
  rw[Try.ntmps30];simp only[zSt,zLc,zLn,qa,zCa,zNa];by_cases h:64<x.toNat
  . have hd:decide ((64:Int)<(x.toNat:Int))=true:=decide_eq_true (by omega)
    have hh:hold x=-1:=if_pos h;rw[hh];refine viaF hd ?_;refine qn rfl (by simp (disch:=(first|omega|(simp only[zaa,zLc,zLn,zSt,zaf]<;>omega)|fail)) only [go_sem,resA,zaK,Try.results30]<;>rfl) ?_
    rfl
  . have hd:decide ((64:Int)<(x.toNat:Int))=false:=decide_eq_false (by omega)
    have hh:hold x=(x.toNat:Int) - 1:=if_neg h;rw[hh];refine viaF hd ?_;refine qn rfl (by simp (disch:=(first|omega|(simp only[zaa,zLc,zLn,zSt,zaf]<;>omega)|fail)) only [go_sem,resA,zaK,Try.results30]<;>rfl) ?_
    rfl
def tS(x:UInt64):Nat:=if x=0 then 1 else 3
def tW(x:UInt64)(me:Nat):UInt64:=if x=0 then zaS me else x
def dW(x:UInt64)(me:Nat):UInt64:=if x=zaS me then 0 else x
theorem zgC(hN:1<=N):gat N T 0 0=((0:Nat):Int):=by
  have h0:gb N T 0=0:=by unfold gb;split<;>rfl
  have h1:gb N T 1=1:=by unfold gb;rw[if_neg (by omega)];rfl
  rw[zb6 N T 0 (by omega) (by rw[h0,h1];omega),h0];rfl
theorem zfl(hN:1<=N)(x:UInt64)(l:List UInt64):wAt (x::l) (gat N T 0 0)=some x:=by
  rw[zgC hN];rfl
theorem zee(S:St)(p m me:Nat)(steps:Nat)(x:UInt64)(l:List UInt64)(bs:List UInt8)(N T:Nat)(hp:S[p]?=some (.port m me steps))(hm:S[m]?=some (.mem (x::l) bs))(hs:steps<=100000000000)(hN1:1<=N)(hN:N<=256)(hT:T<=64):
    Does OF 8 #[prtV p,.agg (geoC N T)] [] S (.bool (x==0)) (accS S p m me (steps+tS x) (tW x me::l) bs):=by
  by_cases h:x=0
  . have h1:=zqz S p m me steps (x::l) bs N T hp hm hs hN hT (by rw[zfl hN1,h])
    rw[zgC hN1]at h1;have e1:(x==0)=true:=by rw[h];rfl
    have e2:tS x=1:=if_pos h;have e3:tW x me=zaS me:=if_pos h;rw[e1,e2,e3];exact h1
  . have h1:=zpo S p m me steps (x::l) bs N T hp hm hs hN hT (by rw[zfl hN1];simpa using h)
    have e1:(x==0)=false:=by simpa using h
    have e2:tS x=3:=if_neg h;have e3:tW x me=x:=if_neg h;rw[e1,e2,e3];exact h1
theorem zfQ(S:St)(p m me:Nat)(steps:Nat)(x:UInt64)(l:List UInt64)(bs:List UInt8)(N T:Nat)(hp:S[p]?=some (.port m me steps))(hm:S[m]?=some (.mem (x::l) bs))(hs:steps<=100000000000)(hN1:1<=N)(hN:N<=256)(hT:T<=64):
    Does OF 10 #[prtV p,.agg (geoC N T)] [] S (.bool (x==zaS me)) (accS S p m me (steps+1) (dW x me::l) bs):=by
  have h1:=zmR S p m me steps (x::l) bs N T hp hm hs hN hT;by_cases h:x=zaS me
  . have hc:=zkq (ws:=x::l) (n:=gat N T 0 0) (A:=zaS me) (by rw[zfl hN1,h]) 0
    rw[hc.1,hc.2,zgC hN1]at h1;have e1:(x==zaS me)=true:=by rw[h];simp
    have e3:dW x me=0:=if_pos h;rw[e1,e3];exact h1
  . have hc:=zdZ (ws:=x::l) (n:=gat N T 0 0) (A:=zaS me) (by rw[zfl hN1];simpa using h) 0
    rw[hc.1,hc.2]at h1;have e1:(x==zaS me)=false:=by simpa using h
    have e3:dW x me=x:=if_neg h;rw[e1,e3];exact h1
theorem znL(n:Nat):qa (n+1) (0:UInt64)=0::qa n 0:=rfl
theorem gb1(N T:Nat)(hN:1<=N):∃n,gb N T 19=n+1:=⟨gb N T 19 - 1,by have:=gb7 N T hN;omega⟩
theorem zrq(S:St):∃S',Does OF 17 #[] [] S (.bool true) S':=by
  obtain⟨n,hn⟩:=gb1 1 2 (by decide)
  refine⟨S++[.mem (zaS 1::qa n 0) (qa 64 0),.port S.length 0 5,.port S.length 1 5],?_⟩;refine qr Try.func17 rfl rfl ?clo ?hand ?_
  case clo=>exact clo0
  case hand=>exact Hand.plain rfl
  rw[Try.ntmps17];simp only[zSt,zLc,zLn,qa,zCa,zNa];refine via ?_;((first|refine qc1 rfl rfl fun K hK=>?_|refine qc3 rfl rfl fun K hK=>?_);simp (disch:=(first|omega|(simp only[sz]<;>omega)|fail)) only [go_sem];(first|refine⟨_,_,zeM S 1 2 (by decide) (by decide) (by decide) (by decide) (by decide),?_⟩|refine⟨_,_,qb (zeM S 1 2 (by decide) (by decide) (by decide) (by decide) (by decide)),?_⟩);(try simp only[go_sem]);with_reducible refine hK _ _ ?_;clear hK K)
  rw[hn,znL];refine via ?_;((first|refine qp1 rfl rfl fun K hK=>?_|refine qp3 rfl rfl fun K hK=>?_);simp (disch:=(first|omega|(simp only[sz]<;>omega)|fail)) only [go_sem];(first|refine⟨_,_,.pnew ztp,?_⟩|refine⟨_,_,.com (.pnew ztp),?_⟩);(try simp only[go_sem]);with_reducible refine hK _ _ ?_;clear hK K)
  rw[zsb,zsI];refine via ?_;((first|refine qp1 rfl rfl fun K hK=>?_|refine qp3 rfl rfl fun K hK=>?_);simp (disch:=(first|omega|(simp only[sz]<;>omega)|fail)) only [go_sem];(first|refine⟨_,_,.pnew zsT,?_⟩|refine⟨_,_,.com (.pnew zsT),?_⟩);(try simp only[go_sem]);with_reducible refine hK _ _ ?_;clear hK K)
  rw[zpi,zou];refine via ?_;((first|refine qp1 rfl rfl fun K hK=>?_|refine qp3 rfl rfl fun K hK=>?_);simp (disch:=(first|omega|(simp only[sz]<;>omega)|fail)) only [go_sem];(first|refine⟨_,_,(qpd fun w=>zbN 1 2 w),?_⟩|refine⟨_,_,(qpu fun w=>zbN 1 2 w),?_⟩|refine⟨_,_,.com (qpd fun w=>zbN 1 2 w),?_⟩|refine⟨_,_,.com (qpu fun w=>zbN 1 2 w),?_⟩);(try simp only[go_sem]);with_reducible refine hK _ _ ?_;clear hK K)
  refine via ?_;((first|refine qc1 rfl rfl fun K hK=>?_|refine qc3 rfl rfl fun K hK=>?_);simp (disch:=(first|omega|(simp only[sz]<;>omega)|fail)) only [go_sem];(first|refine⟨_,_,zee _ _ _ 0 _ _ _ _ 1 2 zf7 zco (by decide) (by decide) (by decide) (by decide),?_⟩|refine⟨_,_,qb (zee _ _ _ 0 _ _ _ _ 1 2 zf7 zco (by decide) (by decide) (by decide) (by decide)),?_⟩);(try simp only[go_sem]);with_reducible refine hK _ _ ?_;clear hK K)
  rw[zfY];simp only[show((0:UInt64)==0)=true from rfl,show tW 0 0=zaS 0 from rfl,show tS 0=1 from rfl]
  refine via ?_;((first|refine qc1 rfl rfl fun K hK=>?_|refine qc3 rfl rfl fun K hK=>?_);simp (disch:=(first|omega|(simp only[sz]<;>omega)|fail)) only [go_sem];(first|refine⟨_,_,zee _ _ _ 1 _ _ _ _ 1 2 zf3 zco (by decide) (by decide) (by decide) (by decide),?_⟩|refine⟨_,_,qb (zee _ _ _ 1 _ _ _ _ 1 2 zf3 zco (by decide) (by decide) (by decide) (by decide)),?_⟩);(try simp only[go_sem]);with_reducible refine hK _ _ ?_;clear hK K)
  rw[zfS];simp only[show(zaS 0==0)=false from rfl,show tW (zaS 0) 1=zaS 0 from rfl,show tS (zaS 0)=3 from rfl]
  refine via ?_;((first|refine qc1 rfl rfl fun K hK=>?_|refine qc3 rfl rfl fun K hK=>?_);simp (disch:=(first|omega|(simp only[sz]<;>omega)|fail)) only [go_sem];(first|refine⟨_,_,zee _ _ _ 0 _ _ _ _ 1 2 zf7 zco (by decide) (by decide) (by decide) (by decide),?_⟩|refine⟨_,_,qb (zee _ _ _ 0 _ _ _ _ 1 2 zf7 zco (by decide) (by decide) (by decide) (by decide)),?_⟩);(try simp only[go_sem]);with_reducible refine hK _ _ ?_;clear hK K)
  rw[zfY];simp only[show(zaS 0==0)=false from rfl,show tW (zaS 0) 0=zaS 0 from rfl,show tS (zaS 0)=3 from rfl]
  refine via ?_;((first|refine qc1 rfl rfl fun K hK=>?_|refine qc3 rfl rfl fun K hK=>?_);simp (disch:=(first|omega|(simp only[sz]<;>omega)|fail)) only [go_sem];(first|refine⟨_,_,zfQ _ _ _ 1 _ _ _ _ 1 2 zf3 zco (by decide) (by decide) (by decide) (by decide),?_⟩|refine⟨_,_,qb (zfQ _ _ _ 1 _ _ _ _ 1 2 zf3 zco (by decide) (by decide) (by decide) (by decide)),?_⟩);(try simp only[go_sem]);with_reducible refine hK _ _ ?_;clear hK K)
  rw[zfS];simp only[show(zaS 0==zaS 1)=false from rfl,show dW (zaS 0) 1=zaS 0 from rfl]
  refine via ?_;((first|refine qc1 rfl rfl fun K hK=>?_|refine qc3 rfl rfl fun K hK=>?_);simp (disch:=(first|omega|(simp only[sz]<;>omega)|fail)) only [go_sem];(first|refine⟨_,_,zfQ _ _ _ 0 _ _ _ _ 1 2 zf7 zco (by decide) (by decide) (by decide) (by decide),?_⟩|refine⟨_,_,qb (zfQ _ _ _ 0 _ _ _ _ 1 2 zf7 zco (by decide) (by decide) (by decide) (by decide)),?_⟩);(try simp only[go_sem]);with_reducible refine hK _ _ ?_;clear hK K)
  rw[zfY];simp only[show(zaS 0==zaS 0)=true from rfl,show dW (zaS 0) 0=0 from rfl]
  refine via ?_;((first|refine qc1 rfl rfl fun K hK=>?_|refine qc3 rfl rfl fun K hK=>?_);simp (disch:=(first|omega|(simp only[sz]<;>omega)|fail)) only [go_sem];(first|refine⟨_,_,zee _ _ _ 1 _ _ _ _ 1 2 zf3 zco (by decide) (by decide) (by decide) (by decide),?_⟩|refine⟨_,_,qb (zee _ _ _ 1 _ _ _ _ 1 2 zf3 zco (by decide) (by decide) (by decide) (by decide)),?_⟩);(try simp only[go_sem]);with_reducible refine hK _ _ ?_;clear hK K)
  rw[zfS];simp only[show((0:UInt64)==0)=true from rfl,show tW 0 1=zaS 1 from rfl,show tS 0=1 from rfl]
  refine via ?_;((first|refine qp1 rfl rfl fun K hK=>?_|refine qp3 rfl rfl fun K hK=>?_);simp (disch:=(first|omega|(simp only[sz]<;>omega)|fail)) only [go_sem];(first|refine⟨_,_,(qpd fun w=>zan 1 2 w (by decide) (by decide)),?_⟩|refine⟨_,_,(qpu fun w=>zan 1 2 w (by decide) (by decide)),?_⟩|refine⟨_,_,.com (qpd fun w=>zan 1 2 w (by decide) (by decide)),?_⟩|refine⟨_,_,.com (qpu fun w=>zan 1 2 w (by decide) (by decide)),?_⟩);(try simp only[go_sem]);with_reducible refine hK _ _ ?_;clear hK K)
  refine via ?_;((first|refine qp1 rfl rfl fun K hK=>?_|refine qp3 rfl rfl fun K hK=>?_);simp (disch:=(first|omega|(simp only[sz]<;>omega)|fail)) only [go_sem];(first|refine⟨_,_,.word _ zco,?_⟩|refine⟨_,_,.com (.word _ zco),?_⟩);(try simp only[go_sem]);with_reducible refine hK _ _ ?_;clear hK K)
  rw[show wT 1 (gat 1 2 0 0) 0 (zaS 1::qa n 0)=zaS 1 from by unfold wT;rw[zfl (by decide)];rfl]
  refine via ?_;((first|refine qc1 rfl rfl fun K hK=>?_|refine qc3 rfl rfl fun K hK=>?_);simp (disch:=(first|omega|(simp only[sz]<;>omega)|fail)) only [go_sem];(first|refine⟨_,_,zhE _ (zaS 1),?_⟩|refine⟨_,_,qb (zhE _ (zaS 1)),?_⟩);(try simp only[go_sem]);with_reducible refine hK _ _ ?_;clear hK K)
  rw[show hold (zaS 1)=1 from rfl]
  refine via ?_;refine qn rfl (by simp (disch:=(first|omega|(simp only[zaa,zLc,zLn,zSt,zaf]<;>omega)|fail)) only [go_sem,resA,zaK,Try.results17]<;>rfl) ?_
  rfl
end Go.Proofs.Ytpkkfkebnhgaiaa
namespace Go.Proofs.Ytpkkfkebnhgaiaa
open Go Go.Conc
open Go.RowKit
abbrev lsG(n:Nat):Blk:={ cells:=(geoC 1 n).toList,elem:=24 }
def lsW(j:Nat):UInt64:=if j % 3=0 then 0 else 1
def zeC(n j:Nat):Acc4:=if j % 3=0 then(3,gat 1 n 0 0,0,1) else if j % 3=1 then(1,gat 1 n 1 0,0,0) else(3,gat 1 n 0 0,1,0)
def lsI(W:Nat->Nat->UInt64)(ps:List (Option Nat)):Prop:=(ps=[]/\W 0 0=0)\/(ps=[none]/\W 0 0=0)\/∃j,j<9/\ps=[some j]/\W 0 0=lsW j
def zeU(n:Nat)(RW:List Row):Sys Unit Nat where
  acc:=zeC n
  most:=9
  rank _ j:=9 - j
  hot _:=false
  inv _ ws _ ps l:=Fr RW l/\∃W,Wd 1 n ws W/\lsI W ps
  born i _ ws _ ps l:=i=0->Fr RW l/\∃W,Wd 1 n ws W/\ps=[none]/\W 0 0=0
  run i j v R _ ws _ ps l:=i=0/\j<9/\R=9 - j/\Fr RW l/\∃W,Wd 1 n ws W/\ps=[some j]/\W 0 0=lsW (j+1)/\(j % 3≠1->v=1)
variable {n me:Int}{A B:UInt64}
theorem ztc{ws:List UInt64}{bs:List UInt8}:ziU (3,n,A,B) ws bs=wT 3 n A ws:=rfl
theorem zta{ws:List UInt64}:wdsQ (3,n,A,B) ws=wS 3 n A B ws:=rfl
theorem zuO{ws:List UInt64}:wdsQ (1,n,A,B) ws=wS 1 n A B ws:=rfl
variable {k j kk hp R q bb:Nat}
theorem lsOk{n:Nat}{RW:List Row}(hR:∀x∈RW,zi8 x.2=false):(zeU n RW).Ok where
  acc j:=by
    show 1<=(zeC n j).1/\(zeC n j).1<=6;unfold zeC;split
    . show 1<=3/\3<=6;decide
    split
    . show 1<=1/\1<=6;decide
    . show 1<=3/\3<=6;decide
  hot x hx:=by cases hx
  rank {g ws bs ps l i p} H hi:=by
    obtain⟨_,W,_,H⟩:=H;rcases H with⟨rfl,_⟩|⟨rfl,_⟩|⟨j,h1,rfl,_⟩
    . simp at hi
    . have:=qh hi;simp at this
    . have:=qh hi;simp at this;subst this;show 1<=9 - p/\9 - p<=9;omega
  rows {g ws bs ps l l'} H h:=⟨fun x hx=>h _ _ (H.1 x hx) (hR x hx),H.2⟩
  birth {g ws bs ps l} H:=by
    obtain⟨h1,W,hW,H⟩:=H;refine⟨(),fun h0=>⟨h1,W,hW,?_⟩⟩;rcases H with⟨rfl,h⟩|⟨rfl,_⟩|⟨j,_,rfl,_⟩
    . exact⟨rfl,h⟩
    . simp at h0
    . simp at h0
  grant {g ws bs ps l i p} H hi:=by
    obtain⟨h1,W,hW,H⟩:=H;rcases H with⟨rfl,_⟩|⟨rfl,_⟩|⟨j,hj,rfl,h0⟩
    . simp at hi
    . have:=qh hi;simp at this
    have hi0:i=0:=by have:=(qd.1 hi).1;simp at this;omega
    subst hi0;obtain rfl:j=p:=by simpa using hi
    have w0:wAt ws (gat 1 n 0 0)=some (W 0 0):=hW 0 0 (by decide) (by simp[gsz])
    refine⟨(),rfl,hj,rfl,h1,?_⟩;show ∃W,Wd 1 n (wdsQ (zeC n j) ws) W/\[some j]=[some j]/\W 0 0=lsW (j+1)/\(j % 3≠1->ziU (zeC n j) ws bs=1);have hm:j % 3=0\/j % 3=1\/j % 3=2:=by omega
    rcases hm with hm|hm|hm
    . have e:zeC n j=(3,gat 1 n 0 0,0,1):=if_pos hm;have e0:lsW j=0:=if_pos hm;have e1:lsW (j+1)=1:=if_neg (by omega)
      rw[e0]at h0;rw[e,e1,ztc,zta];refine⟨_,hW.put (qf 1) (r:=0) (n:=0) (by decide) (by simp[gsz]) 3 0 1,rfl,by rw[zps];simp[kNow,h0],fun _=>?_⟩
      unfold wT;rw[w0];simp[ziF,h0]
    . have e:zeC n j=(1,gat 1 n 1 0,0,0):=by unfold zeC;rw[if_neg (by omega),if_pos hm]
      have e0:lsW j=1:=if_neg (by omega)
      have e1:lsW (j+1)=1:=if_neg (by omega)
      rw[e0]at h0;rw[e,e1,zuO,zhK];exact⟨W,hW,rfl,h0,fun h=>absurd hm h⟩
    . have e:zeC n j=(3,gat 1 n 0 0,1,0):=by unfold zeC;rw[if_neg (by omega),if_neg (by omega)]
      have e0:lsW j=1:=if_neg (by omega)
      have e1:lsW (j+1)=0:=if_pos (by omega)
      rw[e0]at h0;rw[e,e1,ztc,zta];refine⟨_,hW.put (qf 1) (r:=0) (n:=0) (by decide) (by simp[gsz]) 3 1 0,rfl,by rw[zps];simp[kNow,h0],fun _=>?_⟩
      unfold wT;rw[w0];simp[ziF,h0]
variable {S:St}
theorem zms{n:Nat}(h:k<S.length):Clo (Kn n (OF.cnt S)) (.iface 49 (hndV k)):=by
  intro F F' hs;have:=hs (VB+k) (.inr ⟨by omega,by show VB+k<VB+S.length;omega⟩)
  simp[hndV,adr,this.1,this.2.1]
theorem zgI(S:St)(hp:Nat)(me st:Nat)(ask gr qt:Nat)(h:S[hp]?=some (.wp (me:Int) st ask gr qt)):
    Does OF 24 #[.iface 49 (hndV hp)] [] S (.int .u64 ((zaS me).toNat:Int)) S:=by
  rw[<-zic];refine qr Try.func24 rfl rfl ?clo ?hand ?_
  case clo=>exact clo1 (zms (zjt h))
  case hand=>exact Hand.plain rfl
  rw[Try.ntmps24];simp only[zSt,zLc,zLn,qa,zCa,zNa];refine via ?_;((first|refine qp1 rfl rfl fun K hK=>?_|refine qp3 rfl rfl fun K hK=>?_);simp (disch:=(first|omega|(simp only[sz]<;>omega)|fail)) only [go_sem];(first|refine⟨_,_,.wself h,?_⟩|refine⟨_,_,.com (.wself h),?_⟩);(try simp only[go_sem]);with_reducible refine hK _ _ ?_;clear hK K)
  refine via ?_;exact qn rfl rfl rfl
variable {W:Nat->Nat->UInt64}{γ:PG Unit Nat × St}{Q:Value->AHeap->St->PG Unit Nat × St->Prop}
section
variable {n:Nat}{RW:List Row}
structure LsG (W:Nat->Nat->UInt64) (ps:List (Option Nat)) (j:Nat):Prop where
  ps:∃y,ps=[y]
  w:W 0 0=lsW j
theorem LsG.set{ps:List (Option Nat)}(H:LsG W ps j)(hj:j<9):lsI W (ps.set 0 (some j)):=by
  obtain⟨⟨y,rfl⟩,h⟩:=H;exact .inr (.inr ⟨j,hj,rfl,h⟩)
set_option maxRecDepth 10000 in
theorem zmi(hn:n<=64){st:Nat}{l:List (Option Blk)}{ws:List UInt64}{bs:List UInt8}(H:BH (zeU n RW) 0 0 kk hp ((0:Nat):Int) st R γ l q bb S ws bs)(hb:10<=bb)(hj:j<9)(hj3:j % 3=0)(hRW:Fr RW l)(hW:Wd 1 n ws W)(hL:LsG W γ.1.ps j)(hR:9 - j<R)(hQ:∀(st':Nat) (γ':PG Unit Nat×St) (l':List (Option Blk)) (q':Nat) (S':St) (ws':List UInt64) (bs':List UInt8) (W':Nat->Nat->UInt64),BH (zeU n RW) 0 0 kk hp ((0:Nat):Int) st' (9 - j) γ' l' q' 1000 S' ws' bs'->Fr RW l'->Wd 1 n ws' W'->LsG W' γ'.1.ps (j+1)->Q (.bool true) (zaX l' q' []) S' γ'):
    Runs OF (SpB ((zeU n RW).pr 0) kk hp) 8 #[.iface 49 (hndV hp),.agg (geoC 1 n)] (zaX l q []) S γ Q:=by
  have hq:=H.qle;refine Runs.mk Try.func8 rfl rfl ?_;rw[Try.ntmps8];simp only[zSt,zLc,zLn,qa,zCa,zNa];refine viaD ?_;refine Goes.folds H.ll fun lf hlen hge hrow=>?_;have hg:lf[q]?=some (some (lsG n)):=hrow 0;simp only[zLc,zLn,qs]at hlen ⊢;replace H:=H.ge hge (Nat.le_of_eq hlen) (d:=1) (qf _) (by omega)
  replace hRW:=hRW.ge hge;refine Goes.loop ?_;refine viaD ?_;refine qx 8 (by kernel_rfl) ?_
  repeat(refine qw1 rfl rfl rfl fun K hK=>?_;simp (disch:=(first|omega|(simp only[sz]<;>omega)|fail)) only [go_sem,hg];with_reducible refine hK _ _ ?_;clear hK K)
  (refine qwp rfl rfl fun K hK=>?_;simp (disch:=(first|omega|(simp only[sz]<;>omega)|fail)) only [go_sem];(first|refine⟨_,_,(qpd fun w=>zan 1 n w (by decide) hn),?_⟩|refine⟨_,_,(qpu fun w=>zan 1 n w (by decide) hn),?_⟩|refine⟨_,_,.com (qpd fun w=>zan 1 n w (by decide) hn),?_⟩|refine⟨_,_,.com (qpu fun w=>zan 1 n w (by decide) hn),?_⟩);(try simp only[go_sem]);with_reducible refine hK _ ?_;clear hK K)
  repeat(refine qw1 rfl rfl rfl fun K hK=>?_;simp (disch:=(first|omega|(simp only[sz]<;>omega)|fail)) only [go_sem,hg];with_reducible refine hK _ _ ?_;clear hK K)
  obtain⟨ask,gr,qt,hwp⟩:=H.hwp;(refine qwc rfl rfl fun K hK=>?_;simp (disch:=(first|omega|(simp only[sz]<;>omega)|fail)) only [go_sem];(first|refine⟨_,_,zgI _ hp 0 st ask gr qt hwp,?_⟩|refine⟨_,_,qb (zgI _ hp 0 st ask gr qt hwp),?_⟩);(try simp only[go_sem]);with_reducible refine hK _ ?_;clear hK K)
  repeat(refine qw1 rfl rfl rfl fun K hK=>?_;simp (disch:=(first|omega|(simp only[sz]<;>omega)|fail)) only [go_sem];with_reducible refine hK _ _ ?_;clear hK K)
  (refine qg2 rfl rfl fun K hK=>?_;simp (disch:=(first|omega|(simp only[sz]<;>omega)|fail)) only [go_sem]);refine zq8 (H.ask j [] () (by show zeC n j=_;unfold zeC;rw[if_pos hj3])  Fr.nil (fun y hy=>by cases hy) ⟨hRW,W,hW,hL.set hj⟩ hR fun v γ2 l2 q3 S2 ws2 bs2 R2 H2 hfr hps hqq hrun=>?_);obtain⟨_,_,rfl,hRW2,W2,hW2,hps2,h02,hv⟩:=hrun
  obtain rfl:=hv (by omega)
  have e1:((1:UInt64) != 0)=true:=rfl;simp only[e1]
  ((try simp only[go_sem]);with_reducible refine hK _ _ _ _ ?_;clear hK K)
  refine viaD ?_;refine Goes.retG rfl (by simp (disch:=(first|omega|(simp only[zaa,zLc,zLn,zSt,zaf]<;>omega)|fail)) only [go_sem,resA,zaK,Try.results8]<;>rfl) ?_
  exact hQ _ γ2 l2 q3 S2 ws2 bs2 W2 H2 hRW2 hW2 ⟨⟨_,hps2⟩,h02⟩
set_option maxRecDepth 10000 in
theorem zkY(hn:n<=64){st:Nat}{l:List (Option Blk)}{ws:List UInt64}{bs:List UInt8}(H:BH (zeU n RW) 0 0 kk hp ((0:Nat):Int) st R γ l q bb S ws bs)(hb:10<=bb)(hj:j<9)(hj3:j % 3=2)(hRW:Fr RW l)(hW:Wd 1 n ws W)(hL:LsG W γ.1.ps j)(hR:9 - j<R)(hQ:∀(st':Nat) (γ':PG Unit Nat×St) (l':List (Option Blk)) (q':Nat) (S':St) (ws':List UInt64) (bs':List UInt8) (W':Nat->Nat->UInt64),BH (zeU n RW) 0 0 kk hp ((0:Nat):Int) st' (9 - j) γ' l' q' 1000 S' ws' bs'->Fr RW l'->Wd 1 n ws' W'->LsG W' γ'.1.ps (j+1)->Q (.bool true) (zaX l' q' []) S' γ'):
    Runs OF (SpB ((zeU n RW).pr 0) kk hp) 10 #[.iface 49 (hndV hp),.agg (geoC 1 n)] (zaX l q []) S γ Q:=by
  have hq:=H.qle;refine Runs.mk Try.func10 rfl rfl ?_;rw[Try.ntmps10];simp only[zSt,zLc,zLn,qa,zCa,zNa];refine viaD ?_;refine Goes.folds H.ll fun lf hlen hge hrow=>?_;have hg:lf[q]?=some (some (lsG n)):=hrow 0;simp only[zLc,zLn,qs]at hlen ⊢;replace H:=H.ge hge (Nat.le_of_eq hlen) (d:=1) (qf _) (by omega)
  replace hRW:=hRW.ge hge;refine qx 8 (by kernel_rfl) ?_
  repeat(refine qw1 rfl rfl rfl fun K hK=>?_;simp (disch:=(first|omega|(simp only[sz]<;>omega)|fail)) only [go_sem,hg];with_reducible refine hK _ _ ?_;clear hK K)
  (refine qwp rfl rfl fun K hK=>?_;simp (disch:=(first|omega|(simp only[sz]<;>omega)|fail)) only [go_sem];(first|refine⟨_,_,(qpd fun w=>zan 1 n w (by decide) hn),?_⟩|refine⟨_,_,(qpu fun w=>zan 1 n w (by decide) hn),?_⟩|refine⟨_,_,.com (qpd fun w=>zan 1 n w (by decide) hn),?_⟩|refine⟨_,_,.com (qpu fun w=>zan 1 n w (by decide) hn),?_⟩);(try simp only[go_sem]);with_reducible refine hK _ ?_;clear hK K)
  repeat(refine qw1 rfl rfl rfl fun K hK=>?_;simp (disch:=(first|omega|(simp only[sz]<;>omega)|fail)) only [go_sem,hg];with_reducible refine hK _ _ ?_;clear hK K)
  obtain⟨ask,gr,qt,hwp⟩:=H.hwp;(refine qwc rfl rfl fun K hK=>?_;simp (disch:=(first|omega|(simp only[sz]<;>omega)|fail)) only [go_sem];(first|refine⟨_,_,zgI _ hp 0 st ask gr qt hwp,?_⟩|refine⟨_,_,qb (zgI _ hp 0 st ask gr qt hwp),?_⟩);(try simp only[go_sem]);with_reducible refine hK _ ?_;clear hK K)
  repeat(refine qw1 rfl rfl rfl fun K hK=>?_;simp (disch:=(first|omega|(simp only[sz]<;>omega)|fail)) only [go_sem];with_reducible refine hK _ _ ?_;clear hK K)
  (refine qg2 rfl rfl fun K hK=>?_;simp (disch:=(first|omega|(simp only[sz]<;>omega)|fail)) only [go_sem]);refine zq8 (H.ask j [] () (by show zeC n j=_;unfold zeC;rw[if_neg (by omega),if_neg (by omega)]) Fr.nil (fun y hy=>by cases hy) ⟨hRW,W,hW,hL.set hj⟩ hR fun v γ2 l2 q3 S2 ws2 bs2 R2 H2 hfr hps hqq hrun=>?_);obtain⟨_,_,rfl,hRW2,W2,hW2,hps2,h02,hv⟩:=hrun
  obtain rfl:=hv (by omega)
  have e1:((1:UInt64) != 0)=true:=rfl;simp only[e1]
  ((try simp only[go_sem]);with_reducible refine hK _ _ _ _ ?_;clear hK K)
  refine viaD ?_;refine Goes.retG rfl (by simp (disch:=(first|omega|(simp only[zaa,zLc,zLn,zSt,zaf]<;>omega)|fail)) only [go_sem,resA,zaK,Try.results10]<;>rfl) ?_
  exact hQ _ γ2 l2 q3 S2 ws2 bs2 W2 H2 hRW2 hW2 ⟨⟨_,hps2⟩,h02⟩
set_option maxRecDepth 20000 in
theorem zsY(hn:n<=64){l:List (Option Blk)}{ws:List UInt64}{bs:List UInt8}(H:BH (zeU n RW) 0 0 kk hp ((0:Nat):Int) 0 ((zeU n RW).most+1) γ l q 1000 S ws bs)(hborn:(zeU n RW).born 0 γ.1.g ws bs γ.1.ps l){gb:Nat}(hgb:(gb,lsG n)∈RW):
    zgF ((zeU n RW).pr 0) kk hp 7 #[] #[.pointer (some ⟨gb,0,none⟩)] (zaX l q []) S γ.1:=by
  refine⟨Try.f7,_,Try.func7,rfl,rfl,GE.go ?_⟩;show Goes OF _ _ (.run [.code _] ((#[Value.iface 49 (hndV hp),.pointer (some ⟨gb,0,none⟩)]:Array Value).toList++qa (Try.f7.ntmps - (#[Value.iface 49 (hndV hp),.pointer (some ⟨gb,0,none⟩)]:Array Value).size) undef) _ _);obtain⟨hRW,W,hW,hps,h0⟩:=hborn rfl;have hL:LsG W γ.1.ps 0:=⟨⟨_,hps⟩,h0⟩;have hγS:(γ.1,S)=γ:=by
    have:=H.hS;obtain⟨γ1,γ2⟩:=γ;cases this;rfl
  rw[hγS];have hq:=H.qle;rw[Try.ntmps7];simp only[zSt,zLc,zLn,qa,zCa,zNa];refine viaD ?_;refine GE.wh (fun z tmps h S γ=>∃(x st R:Nat) (l:List (Option Blk)) (q:Nat) (ws:List UInt64) (bs:List UInt8) (W:Nat->Nat->UInt64),z=3 - x/\x<=3/\h=zaX l q []/\BH (zeU n RW) 0 0 kk hp ((0:Nat):Int) st R γ l q 900 S ws bs/\Fr RW l/\Wd 1 n ws W/\LsG W γ.1.ps (3 * x)/\9 - 3 * x<R/\tmps.length=21 /\
      tmps.getD 0 undef=.iface 49 (hndV hp)/\tmps.getD 1 undef=.pointer (some ⟨gb,0,none⟩)/\tmps.getD 3 undef=.int .i64 (x:Int)) (m:=3)
    ⟨0,0,_,l,q,ws,bs,W,rfl,by omega,rfl,H.less (by decide),hRW,hW,hL,by show 9<9+1;decide,rfl,rfl,rfl,rfl⟩ ?_
  clear H hRW hW hL;rintro z tmps h S γ ih ⟨x,st,R,l,q,ws,bs,W,rfl,hx,rfl,H,hRW,hW,hL,hR,hl,f0,f1,f3⟩;have hq:=H.qle;obtain⟨V,hV,hT⟩:=zfC hl;replace hT:_=([V 0,V 1,V 2,V 3,V 4,V 5,V 6,V 7,V 8,V 9,V 10,V 11,V 12,V 13,V 14,V 15,V 16,V 17,V 18,V 19,V 20]:List Value):=hT;rw[hV]at f0 f1 f3;subst hT;simp only[f0,f1,f3];clear hV hl;by_cases hx3:x<3
  case neg =>
    obtain rfl:x=3:=by omega
    refine viaD ?_;refine Goes.endG rfl (by simp (disch:=(first|omega|(simp only[zaa,zLc,zLn,zSt,zaf]<;>omega)|fail)) only [go_sem,resA,zaK,Try.results7]<;>rfl) ?_
    refine⟨_,_,_,rfl,H.over () ⟨hRW,W,hW,?_⟩⟩;obtain⟨⟨y,hy⟩,h0⟩:=hL;rw[hy];exact .inr (.inl ⟨rfl,h0⟩)
  have r1:=hRW _ hgb;have l1:gb<q:=qi (qd.1 r1).1 H.ll;refine ztm r1 ?_;(refine qg1 rfl rfl fun K hK=>?_;simp (disch:=(first|omega|(simp only[sz]<;>omega)|fail)) only [go_sem])
  refine zmi hn H (by decide) (j:=3 * x) (by omega) (by omega) hRW hW hL hR fun st2 γ2 l2 q2 S2 ws2 bs2 W2 H2 hRW2 hW2 hL2=>?_
  ((try simp only[go_sem]);with_reducible refine hK _ _ _ _ ?_;clear hK K)
  have r2:=hRW2 _ hgb;have l2':gb<q2:=qi (qd.1 r2).1 H2.ll;have hq2:=H2.qle;refine viaD ?_;refine qx 6 (by kernel_rfl) ?_
  repeat(refine qw1 rfl rfl rfl fun K hK=>?_;simp (disch:=(first|omega|(simp only[sz]<;>omega)|fail)) only [go_sem,r2];with_reducible refine hK _ _ ?_;clear hK K)
  (refine qwp rfl rfl fun K hK=>?_;simp (disch:=(first|omega|(simp only[sz]<;>omega)|fail)) only [go_sem];(first|refine⟨_,_,(qpd fun w=>zd6 1 n w (by decide) hn),?_⟩|refine⟨_,_,(qpu fun w=>zd6 1 n w (by decide) hn),?_⟩|refine⟨_,_,.com (qpd fun w=>zd6 1 n w (by decide) hn),?_⟩|refine⟨_,_,.com (qpu fun w=>zd6 1 n w (by decide) hn),?_⟩);(try simp only[go_sem]);with_reducible refine hK _ ?_;clear hK K)
  repeat(refine qw1 rfl rfl rfl fun K hK=>?_;simp (disch:=(first|omega|(simp only[sz]<;>omega)|fail)) only [go_sem];with_reducible refine hK _ _ ?_;clear hK K)
  (refine qg2 rfl rfl fun K hK=>?_;simp (disch:=(first|omega|(simp only[sz]<;>omega)|fail)) only [go_sem]);refine zrt (H2.ask (3 * x+1) [] () (by show zeC n (3 * x+1)=_;unfold zeC;rw[if_neg (by omega),if_pos (by omega)]) Fr.nil (fun y hy=>by cases hy) ⟨hRW2,W2,hW2,hL2.set (by omega)⟩ (by show 9 - (3 * x+1)<9 - 3 * x;omega) fun v γ3 l3 q3 S3 ws3 bs3 R3 H3 hfr hps hqq hrun=>?_);obtain⟨_,_,rfl,hRW3,W3,hW3,hps3,h03,hv⟩:=hrun
  have r3:=hRW3 _ hgb;have l3':gb<q3:=qi (qd.1 r3).1 H3.ll;have hq3:=H3.qle
  ((try simp only[go_sem]);with_reducible refine hK _ _ _ _ ?_;clear hK K)
  refine ztm r3 ?_;(refine qg1 rfl rfl fun K hK=>?_;simp (disch:=(first|omega|(simp only[sz]<;>omega)|fail)) only [go_sem])
  refine zkY hn H3 (by decide) (j:=3 * x+2) (by omega) (by omega) hRW3 hW3 ⟨⟨_,hps3⟩,h03⟩ (by show 9 - (3 * x+2)<9 - (3 * x+1);omega) fun st4 γ4 l4 q4 S4 ws4 bs4 W4 H4 hRW4 hW4 hL4=>?_
  ((try simp only[go_sem]);with_reducible refine hK _ _ _ _ ?_;clear hK K)
  refine viaD ?_;refine qo (ih (3 - (x+1)) _ _ _ _ (by omega) ⟨x+1,st4,_,l4,q4,ws4,bs4,W4,rfl,by omega,rfl,H4.less (by decide),hRW4,hW4,by rw[Nat.mul_add];exact hL4,by omega,rfl,rfl,rfl,by push_cast;rfl⟩)
end
theorem za6:zne 17 #[] (.bool true):=by
  obtain⟨S1,h⟩:=zrq [];exact h.pure (by simp) rfl
theorem zqZ{m:Nat}{st:Nat}:∀(k:Nat) a b c d e f,(S++[Ob.port m me st])[k]?=some (.thr a b c d e f)->S[k]?=some (.thr a b c d e f):=fun k a b c d e f z=>by
  by_cases h:k<S.length
  . rw[qj h]at z;exact z
  . rw[List.getElem?_append_right (by omega)]at z
    have:=qh z;simp at this
variable {o:Ob}
theorem zoM(ho:∀a b c d e f,o≠.thr a b c d e f):∀(k:Nat) a b c d e f,(S.set j o)[k]?=some (.thr a b c d e f)->S[k]?=some (.thr a b c d e f):=fun k a b c d e f z=>by
  by_cases h:j=k
  . subst h;by_cases hl:j<S.length
    . rw[qg hl]at z;cases z;exact absurd rfl (ho _ _ _ _ _ _)
    . rw[List.getElem?_eq_none (by simp;omega)]at z;cases z
  . rw[qe h]at z;exact z
structure LsS (γ:PG Unit Nat×St) (S:St) (ws:List UInt64) (bs:List UInt8) (o:Ob):Prop where
  keep:KeepC γ.2 S
  mem:S[0]?=some (.mem ws bs)
  thr:S[1]?=some o
  busy:∀(k:Nat) a b c e f,S[k]?=some (.thr a b c true e f)->k=1
theorem LsS.port{ws:List UInt64}{bs:List UInt8}(H:LsS γ S ws bs o)(me:Int)(st:Nat):LsS γ (S++[.port 0 me st]) ws bs o:=by
  have h0:=zaG H.mem;have h1:=zaG H.thr;exact⟨H.keep.trans (KeepC.push rfl),by rw[qj h0];exact H.mem,by rw[qj h1];exact H.thr,fun k a b c e f h=>H.busy k a b c e f (zqZ _ _ _ _ _ _ _ h)⟩
theorem LsS.acc{ws w2:List UInt64}{bs:List UInt8}(ho:∀a b c,o≠.port a b c)(H:LsS γ S ws bs o){p:Nat}{me2:Int}{st st2:Nat}(hp:S[p]?=some (.port 0 me st)):LsS γ (accS S p 0 me2 st2 w2 bs) w2 bs o/\(accS S p 0 me2 st2 w2 bs)[p]?=some (.port 0 me2 st2):=by
  have h0:=zaG H.mem;have hpl:=zaG hp;have hp0:p≠0:=fun e=>by rw[e,H.mem]at hp;cases hp
  have h2:(S.set p (.port 0 me2 st2))[0]?=some (.mem ws bs):=by rw[qe hp0];exact H.mem
  unfold accS;refine⟨⟨H.keep.trans ((KeepC.set hp rfl rfl).trans (KeepC.set h2 rfl rfl)),by rw[qg (by rw[List.length_set];exact h0)],?_,fun k a b c e f h=>H.busy k a b c e f (zoM (fun _ _ _ _ _ _ h=>by cases h) _ _ _ _ _ _ _ (zoM (fun _ _ _ _ _ _ h=>by cases h) _ _ _ _ _ _ _ h))⟩,?_⟩
  . have hp1:p≠1:=fun e=>by rw[e,H.thr]at hp;exact ho _ _ _ (qk hp)
    rw[qe (by decide),qe hp1];exact H.thr
  . rw[qe (Ne.symm hp0),qg hpl]
theorem zsv{U:Sys Unit Nat}{S0:St}{l:List (Option Blk)}{c:Nat}{ws:List UInt64}{bs:List UInt8}{fr:List Row}(H:PI U 0 1 S0 γ l q c S ws bs fr){i:Nat}(hi:γ.1.ks[i]?=some k):∃(qt:Nat) (cur:Option (Nat×Nat×Nat)) (pe:Option Nat),S[k]?=some (.thr (i:Int) qt false (γ.1.pk k).isSome cur pe):=by
  have:=H.thr i k hi;cases hp:γ.1.pk k with
  | none=>rw[hp]at this;obtain⟨_,qt,cur,h⟩:=this;exact⟨_,_,_,h⟩
  | some p=>rw[hp]at this;obtain⟨_,qt,hpp,gid,dn,pd,w,st,ask,gr,_,h,_⟩:=this;exact⟨_,_,_,h⟩
theorem zi9{a:Int}{b:Nat}{c d:Bool}{e:Option (Nat×Nat×Nat)}{f:Option Nat}{a':Int}{b':Nat}{c':Bool}{e':Option (Nat×Nat×Nat)}{f':Option Nat}(h1:S[1]?=some (.thr a b c d e f))(hb:∀(k:Nat) a b c e f,S[k]?=some (.thr a b c true e f)->k=1):Idle (S.set 1 (.thr a' b' c' false e' f')):=fun k a b c d e f h=>by
  by_cases z:k=1
  . subst z;rw[qg (zaG h1)]at h;cases h;rfl
  . rw[qe (Ne.symm z)]at h;cases d with
    | false=>rfl
    | true=>exact absurd (hb _ _ _ _ _ _ h) z
def lsPr(n:Nat)(RW:List Row):Proto (PG Unit Nat):=(zeU n RW).pr 0
def lsγ:PG Unit Nat:=⟨(),[],[],(0,0),0,fun _=>none,10000⟩
theorem zqH{n:Nat}{ws:List UInt64}(hW:Wd 1 n ws W):∃rest,ws=W 0 0::rest:=by
  have w0:wAt ws (gat 1 n 0 0)=some (W 0 0):=hW 0 0 (by decide) (by simp[gsz])
  rw[zgC (qf 1)]at w0;cases ws with
  | nil=>simp[wAt]at w0
  | cons x rest =>
    have:some x=some (W 0 0):=w0;exact⟨rest,by rw[qk this]⟩
set_option maxRecDepth 20000 in
theorem ztj(th ta:Nat)(hth:th<=255)(hta:ta<=255):LawRuns (lsPr (th % 5+2) [(0,lsG (th % 5+2))]) 3 #[.int .u8 th,.int .u8 ta] [] lsγ:=by
  refine LawRuns.mk Try.func3 rfl ?_;rw[Try.ntmps3];simp only[zSt,zLc,zLn,qa,zCa,zNa];have et:(th:Int).tmod 5=((th % 5:Nat):Int):=zq3 th 5;have ea:(ta:Int).tmod 10=((ta % 10:Nat):Int):=zq3 ta 10;refine viaF et ?_;obtain⟨n,hn⟩:∃n,n=th % 5+2:=⟨_,rfl⟩;have en:((th % 5:Nat):Int)+2=(n:Int):=by rw[hn];push_cast;rfl
  rw[<-hn];simp only[en];have hn2:2<=n:=by omega
  have hn6:n<=6:=by omega
  have hgb:gb 1 n 19<=2097152:=by
    have:n=2\/n=3\/n=4\/n=5\/n=6:=by omega
    rcases this with rfl|rfl|rfl|rfl|rfl<;>decide
  clear hn en et;((first|refine qc1 rfl rfl fun K hK=>?_|refine qc3 rfl rfl fun K hK=>?_);simp (disch:=(first|omega|(simp only[sz]<;>omega)|fail)) only [go_sem];(first|refine⟨_,_,zeM [] 1 n (by decide) (by decide) (by omega) (by omega) hgb,?_⟩|refine⟨_,_,qb (zeM [] 1 n (by decide) (by decide) (by omega) (by omega) hgb),?_⟩);(try simp only[go_sem]);with_reducible refine hK _ _ ?_;clear hK K)
  refine via ?_;refine At.list fun lf hlf hge=>?_;have r0:lf[0]?=some (some (lsG n)):=hge 0 _ rfl;simp only[zLc,zLn,qs]at hlf ⊢;have hRW:Fr [(0,lsG n)] lf:=Fr.cons r0 Fr.nil;have ok:(zeU n [(0,lsG n)]).Ok:=lsOk fun x hx=>by
    obtain rfl:=qw.1 hx;rfl
  have hWz:Wd 1 n (qa (gb 1 n 19) 0) (fun _ _=>0):=Wd.zero (qf 1) (qf _);have hPI:PI (zeU n [(0,lsG n)]) 0 1 [.mem (qa (gb 1 n 19) 0) (qa 64 0)] (lsγ,[]) lf 1 1000000 [.mem (qa (gb 1 n 19) 0) (qa 64 0)] (qa (gb 1 n 19) 0) (qa 64 0) []:=by
    refine⟨KeepC.more rfl (KeepC.refl _),rfl,⟨hRW,_,hWz,.inl ⟨rfl,rfl⟩⟩,by omega,?_,List.nodup_nil,Fr.nil,fun x hx=>(by cases hx),fun k hk=>(by cases hk),fun i k h=>by simp[lsγ]at h,fun k hk=>rfl,fun x a b c e f h=>?_,fun j hj hjp=>by omega,by decide,by simp⟩
    . show 1+1000 * 10000+1000000<=500000000;omega
    . match x,h with
      | 0,h=>cases h
      | x+1,h=>simp at h
  (refine qs1 rfl rfl fun K hK=>?_;simp (disch:=(first|omega|(simp only[sz]<;>omega)|fail)) only [go_sem]);refine .inl ⟨0,rfl,rfl,hPI.keep,fun qc=>?_⟩
  have H1:=hPI.new 0 qc
  ((try simp only[go_sem]);with_reducible refine hK _ _ _ _ ?_;clear hK K)
  refine via ?_;(refine qs1 rfl rfl fun K hK=>?_;simp (disch:=(first|omega|(simp only[sz]<;>omega)|fail)) only [go_sem])
  refine PI.start ok H1 (i:=0) (k:=1) (qt:=qc) (by simp) (by simp[lsγ]) (qf 1) rfl (by show 2<=10000;decide) (fun _ _ h _=>h) (by omega) (by omega) Fr.nil (fun x hx=>by cases hx) (fun hp γ' S' hB hl hn hb'=>zsY (by omega) hB hb' (qw.2 rfl)) fun γ' l' q' S' H2 hks2 hfu2 hqq=>?_
  have hks2:γ'.1.ks=[1]:=hks2;have hfu2:γ'.1.fuel=9998:=hfu2
  ((try simp only[go_sem]);with_reducible refine hK _ _ _ _ ?_;clear hK K)
  refine via ?_;obtain⟨a,hae⟩:∃a,a=ta % 10:=⟨_,rfl⟩;have ha:a<10:=by omega
  rw[<-hae]at ea;refine GE.wh (fun z tmps h S γ=>∃(x:Nat) (l:List (Option Blk)) (q:Nat) (ws:List UInt64) (bs:List UInt8),z=a - x/\x<=a/\h=zaX l q []/\γ.1.ks=[1]/\PI (zeU n [(0,lsG n)]) 0 1 [.mem (qa (gb 1 n 19) 0) (qa 64 0)] γ l q (1000+(a - x)) S ws bs []/\2 * (a - x)<=γ.1.fuel/\tmps.length=89 /\
      tmps.getD 1 undef=.int .u8 (ta:Int)/\tmps.getD 5 undef=.int .i64 (n:Int)/\tmps.getD 6 undef=.pointer (some ⟨0,0,none⟩)/\tmps.getD 7 undef=hndV 0/\tmps.getD 8 undef=hndV 1/\tmps.getD 9 undef=.int .i64 (x:Int)) (m:=a)
    ⟨0,l',q',_,_,rfl,by omega,rfl,hks2,H2.sub1 (by omega),by omega,rfl,rfl,rfl,rfl,rfl,rfl,rfl⟩ ?_
  clear H2 hks2 hfu2 hqq H1 hPI hRW r0 hge hlf hae;rintro z tmps h S γ ih ⟨x,l,q,ws,bs,rfl,hx,rfl,hks,H,hfu,hl,f1,f5,f6,f7,f8,f9⟩;obtain⟨V,hV,hT⟩:=zfC hl;replace hT:_=([V 0,V 1,V 2,V 3,V 4,V 5,V 6,V 7,V 8,V 9,V 10,V 11,V 12,V 13,V 14,V 15,V 16,V 17,V 18,V 19,V 20,V 21,V 22,V 23,V 24,V 25,V 26,V 27,V 28,V 29,V 30,V 31,V 32,V 33,V 34,V 35,V 36,V 37,V 38,V 39,V 40,V 41,V 42,V 43,V 44,V 45,V 46,V 47,V 48,V 49,V 50,V 51,V 52,V 53,V 54,V 55,V 56,V 57,V 58,V 59,V 60,V 61,V 62,V 63,V 64,V 65,V 66,V 67,V 68,V 69,V 70,V 71,V 72,V 73,V 74,V 75,V 76,V 77,V 78,V 79,V 80,V 81,V 82,V 83,V 84,V 85,V 86,V 87,V 88]:List Value):=hT;rw[hV]at f1 f5 f6 f7 f8 f9;subst hT;simp only[f1,f5,f6,f7,f8,f9];clear hV hl;have hql:q<=500000000:=by have:=H.bud;have:=zpj;omega
  by_cases hxa:x<a
  case pos =>
    refine viaF ea ?_;(refine qg1 rfl rfl fun K hK=>?_;simp (disch:=(first|omega|(simp only[sz]<;>omega)|fail)) only [go_sem])
    refine znA ok (c:=1000+(a - (x+1))) H (i:=0) (k:=1) (fun _=>by omega) (by omega) (by rw[hks];rfl) (by omega) 9 (fun p hp=>(ok.rank (i:=0) H.inv (by rw[zrN (k:=1) (by rw[hks];rfl),hp];rfl)).2) fun γ' l' q' S' ws' bs' k1 k2 k3 k4 k5=>?_
    ((try simp only[go_sem]);with_reducible refine hK _ _ _ _ ?_;clear hK K)
    refine via ?_;refine qo (ih (a - (x+1)) _ _ _ _ (by omega) ⟨x+1,l',q',ws',bs',rfl,by omega,rfl,by rw[k2];exact hks,k1,by omega,rfl,rfl,rfl,rfl,rfl,rfl,by push_cast;rfl⟩)
  obtain rfl:x=a:=by omega
  clear ih;obtain⟨hRW,W,hW,hI⟩:=H.inv;obtain⟨rest,hws⟩:=zqH hW;have r0:l[0]?=some (some (lsG n)):=hRW (0,lsG n) (by simp)
  have q0:0<q:=qi (qd.1 r0).1 H.ll;have h01:W 0 0=0\/W 0 0=1:=by
    rcases hI with⟨_,h⟩|⟨_,h⟩|⟨j,_,_,h⟩
    . exact .inl h
    . exact .inl h
    . rw[h];unfold lsW;split
      . exact .inl rfl
      . exact .inr rfl
  have t0:wT 1 (gat 1 n 0 0) 0 ws=W 0 0:=hW.tells (r:=0) (n:=0) (by decide) (by simp[gsz])
  obtain⟨qt,cur,pe,hS1⟩:=zsv H (i:=0) (k:=1) (by rw[hks];rfl)
  have HS:LsS γ S ws bs (.thr ((0:Nat):Int) qt false (γ.1.pk 1).isSome cur pe):=⟨H.keep,H.hm,hS1,fun k a b c e f h=>by
    have:=H.busy k a b c e f h;rw[hks]at this;simpa using this⟩
  have hcur:(γ.1.pk 1).isSome=true->∃hp gid dn,cur=some (hp,gid,dn):=fun hb=>by
    have hT:=H.thr 0 1 (by rw[hks];rfl)
    cases hp:γ.1.pk 1 with
    | none=>rw[hp]at hb;cases hb
    | some p =>
      rw[hp]at hT;obtain⟨_,qt2,hpp,gid,dn,pd,w,st,ask,gr,_,h1,_⟩:=hT;have e:=qk (hS1.symm.trans h1);injection e with _ _ _ _ e5 _
      exact⟨_,_,_,e5⟩
  generalize (γ.1.pk 1).isSome=bz at HS hcur hS1;have hm0:=HS.mem;refine viaF (And.intro ea r0) ?_;((first|refine qp1 rfl rfl fun K hK=>?_|refine qp3 rfl rfl fun K hK=>?_);simp (disch:=(first|omega|(simp only[sz]<;>omega)|fail)) only [go_sem];(first|refine⟨_,_,(qpd fun w=>zan 1 n w (by decide) (by omega)),?_⟩|refine⟨_,_,(qpu fun w=>zan 1 n w (by decide) (by omega)),?_⟩|refine⟨_,_,.com (qpd fun w=>zan 1 n w (by decide) (by omega)),?_⟩|refine⟨_,_,.com (qpu fun w=>zan 1 n w (by decide) (by omega)),?_⟩);(try simp only[go_sem]);with_reducible refine hK _ _ ?_;clear hK K)
  refine viaF r0 ?_;((first|refine qp1 rfl rfl fun K hK=>?_|refine qp3 rfl rfl fun K hK=>?_);simp (disch:=(first|omega|(simp only[sz]<;>omega)|fail)) only [go_sem];(first|refine⟨_,_,.word _ hm0,?_⟩|refine⟨_,_,.com (.word _ hm0),?_⟩);(try simp only[go_sem]);with_reducible refine hK _ _ ?_;clear hK K)
  rw[t0];refine viaF r0 ?_;rw[hws]at HS;clear hws hm0 t0 ea;rcases h01 with h0|h0
  . have e0:(((0:UInt64).toNat:Int)==1)=false:=rfl;have e1:((0:UInt64)==0)=true:=rfl;have e2:((tS 0:Nat):Int)=1:=rfl;rw[h0]at HS ⊢;simp only[e0];refine GE.wh (fun z tmps h S γ'=>∃(i:Nat),z=n - i/\1<=i/\i<=n/\h=zaX l q []/\γ'=γ/\LsS γ S (0::rest) bs (.thr ((0:Nat):Int) qt false bz cur pe)/\tmps.length=89 /\
        tmps.getD 5 undef=.int .i64 (n:Int)/\tmps.getD 6 undef=.pointer (some ⟨0,0,none⟩)/\tmps.getD 7 undef=hndV 0/\tmps.getD 8 undef=hndV 1/\tmps.getD 10 undef=.bool false/\tmps.getD 11 undef=.bool true/\tmps.getD 12 undef=.int .i64 (i:Int)) (m:=n - 1)
      ⟨1,rfl,by omega,by omega,rfl,rfl,HS,rfl,rfl,rfl,rfl,rfl,rfl,rfl,rfl⟩ ?_
    clear HS;rintro z tmps h S γ' ih ⟨i,rfl,hi1,hin,rfl,rfl,HS,hl,f5,f6,f7,f8,f10,f11,f12⟩;obtain⟨V,hV,hT⟩:=zfC hl;replace hT:_=([V 0,V 1,V 2,V 3,V 4,V 5,V 6,V 7,V 8,V 9,V 10,V 11,V 12,V 13,V 14,V 15,V 16,V 17,V 18,V 19,V 20,V 21,V 22,V 23,V 24,V 25,V 26,V 27,V 28,V 29,V 30,V 31,V 32,V 33,V 34,V 35,V 36,V 37,V 38,V 39,V 40,V 41,V 42,V 43,V 44,V 45,V 46,V 47,V 48,V 49,V 50,V 51,V 52,V 53,V 54,V 55,V 56,V 57,V 58,V 59,V 60,V 61,V 62,V 63,V 64,V 65,V 66,V 67,V 68,V 69,V 70,V 71,V 72,V 73,V 74,V 75,V 76,V 77,V 78,V 79,V 80,V 81,V 82,V 83,V 84,V 85,V 86,V 87,V 88]:List Value):=hT;rw[hV]at f5 f6 f7 f8 f10 f11 f12;subst hT;simp only[f5,f6,f7,f8,f10,f11,f12];clear hV hl;by_cases hi:i<n
    case pos =>
      have hm:=HS.mem;refine via ?_;((first|refine qp1 rfl rfl fun K hK=>?_|refine qp3 rfl rfl fun K hK=>?_);simp (disch:=(first|omega|(simp only[sz]<;>omega)|fail)) only [go_sem];(first|refine⟨_,_,.pnew hm,?_⟩|refine⟨_,_,.com (.pnew hm),?_⟩);(try simp only[go_sem]);with_reducible refine hK _ _ ?_;clear hK K)
      have HS1:=HS.port (i:Int) 0;have hp1:(S++[Ob.port 0 (i:Int) 0])[S.length]?=some (.port 0 (i:Int) 0):=by simp
      refine viaF r0 ?_;((first|refine qc1 rfl rfl fun K hK=>?_|refine qc3 rfl rfl fun K hK=>?_);simp (disch:=(first|omega|(simp only[sz]<;>omega)|fail)) only [go_sem];(first|refine⟨_,_,zee _ S.length 0 i 0 0 rest bs 1 n hp1 HS1.mem (by decide) (by decide) (by decide) (by omega),?_⟩|refine⟨_,_,qb (zee _ S.length 0 i 0 0 rest bs 1 n hp1 HS1.mem (by decide) (by decide) (by decide) (by omega)),?_⟩);(try simp only[go_sem]);with_reducible refine hK _ _ ?_;clear hK K)
      obtain⟨HS2,hp2⟩:=HS1.acc (me2:=(i:Int)) (st2:=tS 0) (w2:=tW 0 i::rest) (fun _ _ _ h=>by cases h) hp1
      refine viaF e1 ?_;((first|refine qp1 rfl rfl fun K hK=>?_|refine qp3 rfl rfl fun K hK=>?_);simp (disch:=(first|omega|(simp only[sz]<;>omega)|fail)) only [go_sem];(first|refine⟨_,_,.steps hp2,?_⟩|refine⟨_,_,.com (.steps hp2),?_⟩);(try simp only[go_sem]);with_reducible refine hK _ _ ?_;clear hK K)
      refine viaF (And.intro e1 (And.intro e2 r0)) ?_;have e3:tW 0 i=zaS i:=if_pos rfl;rw[e3]at HS2 ⊢;have e4:dW (zaS i) i=0:=if_pos rfl;have e5:(zaS i==zaS i)=true:=beq_self_eq_true _;have e6:wr (tS 0+1)=2:=rfl;((first|refine qc1 rfl rfl fun K hK=>?_|refine qc3 rfl rfl fun K hK=>?_);simp (disch:=(first|omega|(simp only[sz]<;>omega)|fail)) only [go_sem];(first|refine⟨_,_,zfQ _ S.length 0 i _ (zaS i) rest bs 1 n hp2 HS2.mem (by decide) (by decide) (by decide) (by omega),?_⟩|refine⟨_,_,qb (zfQ _ S.length 0 i _ (zaS i) rest bs 1 n hp2 HS2.mem (by decide) (by decide) (by decide) (by omega)),?_⟩);(try simp only[go_sem]);with_reducible refine hK _ _ ?_;clear hK K)
      obtain⟨HS3,hp3⟩:=HS2.acc (me2:=(i:Int)) (st2:=tS 0+1) (w2:=dW (zaS i) i::rest) (fun _ _ _ h=>by cases h) hp2
      rw[e4]at HS3 hp3 ⊢;refine viaF e5 ?_;((first|refine qp1 rfl rfl fun K hK=>?_|refine qp3 rfl rfl fun K hK=>?_);simp (disch:=(first|omega|(simp only[sz]<;>omega)|fail)) only [go_sem];(first|refine⟨_,_,.steps hp3,?_⟩|refine⟨_,_,.com (.steps hp3),?_⟩);(try simp only[go_sem]);with_reducible refine hK _ _ ?_;clear hK K)
      refine viaF (And.intro e5 e6) ?_;refine qo (ih (n - (i+1)) _ _ _ _ (by omega) ⟨i+1,rfl,by omega,by omega,rfl,rfl,HS3,rfl,rfl,rfl,rfl,rfl,rfl,rfl,by push_cast;rfl⟩)
    obtain rfl:i=n:=by omega
    clear ih;have hS1:=HS.thr;cases bz with
    | true =>
      obtain⟨hp,gid,dn,rfl⟩:=hcur rfl;refine via ?_;(refine qs1 rfl rfl fun K hK=>?_;simp (disch:=(first|omega|(simp only[sz]<;>omega)|fail)) only [go_sem])
      refine zlG ⟨1,qt,hp,gid,dn,_,pe,γ'.1,rfl,rfl,HS.keep,hS1,fun _ _=>rfl,qf _,?_⟩
      ((try simp only[go_sem]);with_reducible refine hK _ _ _ _ ?_;clear hK K)
      refine via ?_;((first|refine qp1 rfl rfl fun K hK=>?_|refine qp3 rfl rfl fun K hK=>?_);simp (disch:=(first|omega|(simp only[sz]<;>omega)|fail)) only [go_sem];(first|refine⟨_,_,(qpd fun w=>za6),?_⟩|refine⟨_,_,(qpu fun w=>za6),?_⟩|refine⟨_,_,.com (qpd fun w=>za6),?_⟩|refine⟨_,_,.com (qpu fun w=>za6),?_⟩);(try simp only[go_sem]);with_reducible refine hK _ _ ?_;clear hK K)
      refine via ?_;refine qp rfl (by simp (disch:=(first|omega|(simp only[zaa,zLc,zLn,zSt,zaf]<;>omega)|fail)) only [go_sem,resA,zaK,Try.results3]<;>rfl) ?_ ?_
      . exact KeepC.refl _
      . exact zi9 hS1 HS.busy
    | false =>
      refine via ?_;(refine qs1 rfl rfl fun K hK=>?_;simp (disch:=(first|omega|(simp only[sz]<;>omega)|fail)) only [go_sem])
      refine zlS ⟨1,qt,_,cur,pe,rfl,rfl,HS.keep,hS1,?_⟩
      ((try simp only[go_sem]);with_reducible refine hK _ _ _ _ ?_;clear hK K)
      refine via ?_;((first|refine qp1 rfl rfl fun K hK=>?_|refine qp3 rfl rfl fun K hK=>?_);simp (disch:=(first|omega|(simp only[sz]<;>omega)|fail)) only [go_sem];(first|refine⟨_,_,(qpd fun w=>za6),?_⟩|refine⟨_,_,(qpu fun w=>za6),?_⟩|refine⟨_,_,.com (qpd fun w=>za6),?_⟩|refine⟨_,_,.com (qpu fun w=>za6),?_⟩);(try simp only[go_sem]);with_reducible refine hK _ _ ?_;clear hK K)
      refine via ?_;refine qp rfl (by simp (disch:=(first|omega|(simp only[zaa,zLc,zLn,zSt,zaf]<;>omega)|fail)) only [go_sem,resA,zaK,Try.results3]<;>rfl) ?_ ?_
      . exact KeepC.refl _
      . exact zi9 hS1 HS.busy
  . have e0:(((1:UInt64).toNat:Int)==1)=true:=rfl;have e1:((1:UInt64)==0)=false:=rfl;have e2:((tS 1:Nat):Int)=3:=rfl;rw[h0]at HS ⊢;simp only[e0];refine GE.wh (fun z tmps h S γ'=>∃(i:Nat),z=n - i/\1<=i/\i<=n/\h=zaX l q []/\γ'=γ/\LsS γ S (1::rest) bs (.thr ((0:Nat):Int) qt false bz cur pe)/\tmps.length=89 /\
        tmps.getD 5 undef=.int .i64 (n:Int)/\tmps.getD 6 undef=.pointer (some ⟨0,0,none⟩)/\tmps.getD 7 undef=hndV 0/\tmps.getD 8 undef=hndV 1/\tmps.getD 10 undef=.bool true/\tmps.getD 11 undef=.bool true/\tmps.getD 12 undef=.int .i64 (i:Int)) (m:=n - 1)
      ⟨1,rfl,by omega,by omega,rfl,rfl,HS,rfl,rfl,rfl,rfl,rfl,rfl,rfl,rfl⟩ ?_
    clear HS;rintro z tmps h S γ' ih ⟨i,rfl,hi1,hin,rfl,rfl,HS,hl,f5,f6,f7,f8,f10,f11,f12⟩;obtain⟨V,hV,hT⟩:=zfC hl;replace hT:_=([V 0,V 1,V 2,V 3,V 4,V 5,V 6,V 7,V 8,V 9,V 10,V 11,V 12,V 13,V 14,V 15,V 16,V 17,V 18,V 19,V 20,V 21,V 22,V 23,V 24,V 25,V 26,V 27,V 28,V 29,V 30,V 31,V 32,V 33,V 34,V 35,V 36,V 37,V 38,V 39,V 40,V 41,V 42,V 43,V 44,V 45,V 46,V 47,V 48,V 49,V 50,V 51,V 52,V 53,V 54,V 55,V 56,V 57,V 58,V 59,V 60,V 61,V 62,V 63,V 64,V 65,V 66,V 67,V 68,V 69,V 70,V 71,V 72,V 73,V 74,V 75,V 76,V 77,V 78,V 79,V 80,V 81,V 82,V 83,V 84,V 85,V 86,V 87,V 88]:List Value):=hT;rw[hV]at f5 f6 f7 f8 f10 f11 f12;subst hT;simp only[f5,f6,f7,f8,f10,f11,f12];clear hV hl;by_cases hi:i<n
    case pos =>
      have hm:=HS.mem;refine via ?_;((first|refine qp1 rfl rfl fun K hK=>?_|refine qp3 rfl rfl fun K hK=>?_);simp (disch:=(first|omega|(simp only[sz]<;>omega)|fail)) only [go_sem];(first|refine⟨_,_,.pnew hm,?_⟩|refine⟨_,_,.com (.pnew hm),?_⟩);(try simp only[go_sem]);with_reducible refine hK _ _ ?_;clear hK K)
      have HS1:=HS.port (i:Int) 0;have hp1:(S++[Ob.port 0 (i:Int) 0])[S.length]?=some (.port 0 (i:Int) 0):=by simp
      refine viaF r0 ?_;((first|refine qc1 rfl rfl fun K hK=>?_|refine qc3 rfl rfl fun K hK=>?_);simp (disch:=(first|omega|(simp only[sz]<;>omega)|fail)) only [go_sem];(first|refine⟨_,_,zee _ S.length 0 i 0 1 rest bs 1 n hp1 HS1.mem (by decide) (by decide) (by decide) (by omega),?_⟩|refine⟨_,_,qb (zee _ S.length 0 i 0 1 rest bs 1 n hp1 HS1.mem (by decide) (by decide) (by decide) (by omega)),?_⟩);(try simp only[go_sem]);with_reducible refine hK _ _ ?_;clear hK K)
      obtain⟨HS2,hp2⟩:=HS1.acc (me2:=(i:Int)) (st2:=tS 1) (w2:=tW 1 i::rest) (fun _ _ _ h=>by cases h) hp1
      refine viaF e1 ?_;((first|refine qp1 rfl rfl fun K hK=>?_|refine qp3 rfl rfl fun K hK=>?_);simp (disch:=(first|omega|(simp only[sz]<;>omega)|fail)) only [go_sem];(first|refine⟨_,_,.steps hp2,?_⟩|refine⟨_,_,.com (.steps hp2),?_⟩);(try simp only[go_sem]);with_reducible refine hK _ _ ?_;clear hK K)
      refine viaF (And.intro e1 (And.intro e2 r0)) ?_;have e3:tW 1 i=1:=if_neg (by decide)
      rw[e3]at HS2 ⊢;refine qo (ih (n - (i+1)) _ _ _ _ (by omega) ⟨i+1,rfl,by omega,by omega,rfl,rfl,HS2,rfl,rfl,rfl,rfl,rfl,rfl,rfl,by push_cast;rfl⟩)
    obtain rfl:i=n:=by omega
    clear ih;have hS1:=HS.thr;cases bz with
    | true =>
      obtain⟨hp,gid,dn,rfl⟩:=hcur rfl;refine via ?_;(refine qs1 rfl rfl fun K hK=>?_;simp (disch:=(first|omega|(simp only[sz]<;>omega)|fail)) only [go_sem])
      refine zlG ⟨1,qt,hp,gid,dn,_,pe,γ'.1,rfl,rfl,HS.keep,hS1,fun _ _=>rfl,qf _,?_⟩
      ((try simp only[go_sem]);with_reducible refine hK _ _ _ _ ?_;clear hK K)
      refine via ?_;((first|refine qp1 rfl rfl fun K hK=>?_|refine qp3 rfl rfl fun K hK=>?_);simp (disch:=(first|omega|(simp only[sz]<;>omega)|fail)) only [go_sem];(first|refine⟨_,_,(qpd fun w=>za6),?_⟩|refine⟨_,_,(qpu fun w=>za6),?_⟩|refine⟨_,_,.com (qpd fun w=>za6),?_⟩|refine⟨_,_,.com (qpu fun w=>za6),?_⟩);(try simp only[go_sem]);with_reducible refine hK _ _ ?_;clear hK K)
      refine via ?_;refine qp rfl (by simp (disch:=(first|omega|(simp only[zaa,zLc,zLn,zSt,zaf]<;>omega)|fail)) only [go_sem,resA,zaK,Try.results3]<;>rfl) ?_ ?_
      . exact KeepC.refl _
      . exact zi9 hS1 HS.busy
    | false =>
      refine via ?_;(refine qs1 rfl rfl fun K hK=>?_;simp (disch:=(first|omega|(simp only[sz]<;>omega)|fail)) only [go_sem])
      refine zlS ⟨1,qt,_,cur,pe,rfl,rfl,HS.keep,hS1,?_⟩
      ((try simp only[go_sem]);with_reducible refine hK _ _ _ _ ?_;clear hK K)
      refine via ?_;((first|refine qp1 rfl rfl fun K hK=>?_|refine qp3 rfl rfl fun K hK=>?_);simp (disch:=(first|omega|(simp only[sz]<;>omega)|fail)) only [go_sem];(first|refine⟨_,_,(qpd fun w=>za6),?_⟩|refine⟨_,_,(qpu fun w=>za6),?_⟩|refine⟨_,_,.com (qpd fun w=>za6),?_⟩|refine⟨_,_,.com (qpu fun w=>za6),?_⟩);(try simp only[go_sem]);with_reducible refine hK _ _ ?_;clear hK K)
      refine via ?_;refine qp rfl (by simp (disch:=(first|omega|(simp only[zaa,zLc,zLn,zSt,zaf]<;>omega)|fail)) only [go_sem,resA,zaK,Try.results3]<;>rfl) ?_ ?_
      . exact KeepC.refl _
      . exact zi9 hS1 HS.busy
theorem zhM(a0 a1:Int)(W:World)(w0:(Lit.int .u8 a0).wf=true)(w1:(Lit.int .u8 a1).wf=true):
    ∃M last o w' t',runNT Try.prog (M+1) (solo (Go.Conc.G (Frame.enter Try.prog 3 #[.int .u8 a0,.int .u8 a1] .normal) []) W) #[]=(.ended o w',t')/\runN Try.prog M (solo (Go.Conc.G (Frame.enter Try.prog 3 #[.int .u8 a0,.int .u8 a1] .normal) []) W)=.next last /\
      step Try.prog last=.ended o w'/\Conc.Good Try.prog (fun v w'=>v=.bool true/\Go.RowKit.Below W.heap.size W w') last o w' t':=by
  have h0:0<=a0/\a0<=255:=by simpa[Lit.wf,IntKind.min,IntKind.max,IntKind.signed,IntKind.bits] using w0
  have h1:0<=a1/\a1<=255:=by simpa[Lit.wf,IntKind.min,IntKind.max,IntKind.signed,IntKind.bits] using w1
  obtain⟨x,rfl⟩:=Int.eq_ofNat_of_zero_le h0.1;obtain⟨y,rfl⟩:=Int.eq_ofNat_of_zero_le h1.1;exact(ztj x y (by omega) (by omega)).runs Try.func3 Try.results3 (by kernel_rfl) (by simp[zac]) W
end Go.Proofs.Ytpkkfkebnhgaiaa
