/-
  Contracts, over the abstract machine: lock, cache; what a law begins with.
  Conditions: the port and its memory are there; step counts are far from their end.
-/
import Derived.Test.YtkjnamhgemidkaaUQuick
import Derived.Test.YtkjnamhgemidkaaUThr47
import Derived.Test.YtkjnamhgemidkaaUThr20
import Derived.Test.YtkjnamhgemidkaaUCo21
namespace Go.Proofs.Ytkjnamhgemidkaa
open Go Go.RowKit
set_option linter.unusedSimpArgs false
set_option linter.unusedVariables false
theorem hlt_of {S:St} {p:Nat} {ob:Ob} (h:S[p]?=some ob):p<S.length:=(List.getElem?_eq_some_iff.1 h).1
theorem hne_of {S:St} {p m:Nat} {a:Nat} {me:Int} {s:Nat} {ws:List UInt64} {bs:List UInt8} (h:S[p]?=some (.port a me s)) (hm:S[m]?=some (.mem ws bs)):p≠m:=by
  rintro rfl;rw [h] at hm;cases hm
theorem acc_p {S:St} {p m a:Nat} {me me':Int} {s s':Nat} {ws ws':List UInt64} {bs bs':List UInt8} (h:S[p]?=some (.port a me s)) (hm:S[m]?=some (.mem ws bs)):(accS S p m me' s' ws' bs')[p]?=some (.port m me' s'):=(accS_get h hm (hne_of h hm)).1
theorem acc_m {S:St} {p m a:Nat} {me me':Int} {s s':Nat} {ws ws':List UInt64} {bs bs':List UInt8} (h:S[p]?=some (.port a me s)) (hm:S[m]?=some (.mem ws bs)):(accS S p m me' s' ws' bs')[m]?=some (.mem ws' bs'):=(accS_get h hm (hne_of h hm)).2
theorem acc_acc {S:St} {p m:Nat} (hne:p≠m) {me me':Int} {s s':Nat} {ws ws':List UInt64} {bs bs':List UInt8}:accS (accS S p m me s ws bs) p m me' s' ws' bs'=accS S p m me' s' ws' bs':=by
  unfold accS
  rw [List.set_comm _ _ (Ne.symm hne),List.set_set,List.set_set]
theorem acc_same {S:St} {p m:Nat} {me:Int} {s:Nat} {ws:List UInt64} {bs:List UInt8} (h:S[p]?=some (.port m me s)) (hm:S[m]?=some (.mem ws bs)):accS S p m me s ws bs=S:=by
  unfold accS
  apply List.ext_getElem?
  intro j
  have h1:=hlt_of h
  have h2:=hlt_of hm
  rw [List.getElem?_set,List.getElem?_set]
  by_cases e1:m=j
  · subst e1;rw [if_pos rfl,hm];simp [h2]
  · rw [if_neg e1]
    by_cases e2:p=j
    · subst e2;rw [if_pos rfl,h];simp [h1]
    · rw [if_neg e2]
def mineU (me:Nat):UInt64:=UInt64.ofNat (me+1)
theorem mineU_wrap (me:Nat):IntKind.u64.wrap (IntKind.u64.wrap (me:Int)+1)=((mineU me).toNat:Int):=by
  unfold mineU
  rw [IntKind.wrap_u64,IntKind.wrap_u64]
  simp
theorem mine_does (S:St) (p m:Nat) (me:Nat) (steps:Nat) (hp:S[p]?=some (.port m me steps)) :
    Does OF 91 #[prtV p] [] S (.int .u64 ((mineU me).toNat:Int)) S:=by
  rw [←mineU_wrap]
  refine Does.mk Try.func91 rfl rfl ?clo ?hand ?_
  case clo=>exact clo1 (pclo (hlt_of hp))
  case hand=>exact Hand.plain rfl
  rw [Try.ntmps91];simp only [List.size_toArray,List.length_cons,List.length_nil,List.replicate,List.cons_append,List.nil_append]
  refine via ?_
  ((first|refine qp1 rfl rfl fun K hK=>?_|refine qp3 rfl rfl fun K hK=>?_);simp (disch:=(first|omega|(simp only [sz]<;>omega)|fail)) only [go_sem];(first|refine⟨_,_,.self hp,?_⟩|refine⟨_,_,.com (.self hp),?_⟩);(try simp only [go_sem]);with_reducible refine hK _ _ ?_;clear hK K)
  refine via ?_
  exact Goes.fin rfl rfl rfl
theorem lDrop_does (S:St) (p m me:Nat) (steps:Nat) (ws:List UInt64) (bs:List UInt8) (N T:Nat) (hp:S[p]?=some (.port m me steps)) (hm:S[m]?=some (.mem ws bs)) (hs:steps≤100000000000) (hN:N≤256) (hT:T≤64) :
    Does OF 56 #[prtV p,.agg (geoC N T)] [] S (.bool (wT 3 (gat N T 0 0) (mineU me) ws==1)) (accS S p m me (steps+1) (wS 3 (gat N T 0 0) (mineU me) 0 ws) bs):=by
  refine Does.mk Try.func56 rfl rfl ?clo ?hand ?_
  case clo=>exact clo2 (pclo (hlt_of hp)) gclo
  case hand=>exact Hand.plain rfl
  rw [Try.ntmps56];simp only [List.size_toArray,List.length_cons,List.length_nil,List.replicate,List.cons_append,List.nil_append]
  refine via ?_
  ((first|refine qp1 rfl rfl fun K hK=>?_|refine qp3 rfl rfl fun K hK=>?_);simp (disch:=(first|omega|(simp only [sz]<;>omega)|fail)) only [go_sem];(first|refine⟨_,_,(qpd fun w=>gLock_pure N T w hN hT),?_⟩|refine⟨_,_,(qpu fun w=>gLock_pure N T w hN hT),?_⟩|refine⟨_,_,.com (qpd fun w=>gLock_pure N T w hN hT),?_⟩|refine⟨_,_,.com (qpu fun w=>gLock_pure N T w hN hT),?_⟩);(try simp only [go_sem]);with_reducible refine hK _ _ ?_;clear hK K)
  refine via ?_
  ((first|refine qc1 rfl rfl fun K hK=>?_|refine qc3 rfl rfl fun K hK=>?_);simp (disch:=(first|omega|(simp only [sz]<;>omega)|fail)) only [go_sem];(first|refine⟨_,_,mine_does S p m me steps hp,?_⟩|refine⟨_,_,Does.com (mine_does S p m me steps hp),?_⟩);(try simp only [go_sem]);with_reducible refine hK _ _ ?_;clear hK K)
  refine via ?_
  ((first|refine qp1 rfl rfl fun K hK=>?_|refine qp3 rfl rfl fun K hK=>?_);simp (disch:=(first|omega|(simp only [sz]<;>omega)|fail)) only [go_sem];(first|refine⟨_,_,.cas _ _ 0 hp hm (by omega),?_⟩|refine⟨_,_,.com (.cas _ _ 0 hp hm (by omega)),?_⟩);(try simp only [go_sem]);with_reducible refine hK _ _ ?_;clear hK K)
  refine via ?_
  exact Goes.fin rfl rfl rfl
def cPut (ws:List UInt64) (a b:Int) (item:UInt64):Bool × Nat × List UInt64 :=
  if item=0∨a<0 then (false,0,ws) else if wAt ws a=some 0 then (true,1,ws.set a.toNat item) else if b<0 then (false,1,ws) else if wAt ws b=some 0 then (true,2,ws.set b.toNat item) else (false,2,ws)
theorem item_eq {item:UInt64}:(((item.toNat:Int)==0)=true)↔item=0:=by
  rw [show (0:Int)=((0:UInt64).toNat:Int) from rfl,u64_eq,beq_iff_eq]
theorem cPut_does (S:St) (p m:Nat) (me:Int) (steps:Nat) (ws:List UInt64) (bs:List UInt8) (N T:Nat) (cl:Int) (item:UInt64) (hp:S[p]?=some (.port m me steps)) (hm:S[m]?=some (.mem ws bs)) (hs:steps≤100000000000) (hN:N≤256) (hT:T≤64) (hc:cl≤9223372036854775807) :
    Does OF 66 #[prtV p,.agg (geoC N T),.int .i64 cl,.int .u64 (item.toNat:Int)] [] S (.bool (cPut ws (gCache N T me cl 0) (gCache N T me cl 1) item).1)
      (accS S p m me (steps+(cPut ws (gCache N T me cl 0) (gCache N T me cl 1) item).2.1) (cPut ws (gCache N T me cl 0) (gCache N T me cl 1) item).2.2 bs):=by
  have hne:=hne_of hp hm
  refine Does.mk Try.func66 rfl rfl ?clo ?hand ?_
  case clo=>exact clo4 (pclo (hlt_of hp)) gclo iclo iclo
  case hand=>exact Hand.plain rfl
  rw [Try.ntmps66];simp only [List.size_toArray,List.length_cons,List.length_nil,List.replicate,List.cons_append,List.nil_append]
  refine viaL ?_
  ((first|refine qp1 rfl rfl fun K hK=>?_|refine qp3 rfl rfl fun K hK=>?_);simp (disch:=(first|omega|(simp only [sz]<;>omega)|fail)) only [go_sem];(first|refine⟨_,_,.self hp,?_⟩|refine⟨_,_,.com (.self hp),?_⟩);(try simp only [go_sem]);with_reducible refine hK _ _ ?_;clear hK K)
  refine viaL ?_
  ((first|refine qp1 rfl rfl fun K hK=>?_|refine qp3 rfl rfl fun K hK=>?_);simp (disch:=(first|omega|(simp only [sz]<;>omega)|fail)) only [go_sem];(first|refine⟨_,_,(qpd fun w=>gCache_pure N T me cl 0 w hN hT hc (by omega)),?_⟩|refine⟨_,_,(qpu fun w=>gCache_pure N T me cl 0 w hN hT hc (by omega)),?_⟩|refine⟨_,_,.com (qpd fun w=>gCache_pure N T me cl 0 w hN hT hc (by omega)),?_⟩|refine⟨_,_,.com (qpu fun w=>gCache_pure N T me cl 0 w hN hT hc (by omega)),?_⟩);(try simp only [go_sem]);with_reducible refine hK _ _ ?_;clear hK K)
  by_cases hi:item=0
  · have hc:cPut ws (gCache N T me cl 0) (gCache N T me cl 1) item=(false,0,ws):=if_pos (.inl hi)
    rw [hc]
    have hb:=item_eq.2 hi
    refine viaLF hb ?_
    exact Goes.fin rfl rfl (acc_same hp hm).symm
  have hb:((item.toNat:Int)==0)=false:=by rw [Bool.eq_false_iff];exact fun h=>hi (item_eq.1 h)
  by_cases h0:gCache N T me cl 0<0
  · have hc:cPut ws (gCache N T me cl 0) (gCache N T me cl 1) item=(false,0,ws):=if_pos (.inr h0)
    rw [hc]
    have hd:=decide_eq_true h0
    refine viaLF (And.intro hb hd) ?_
    exact Goes.fin rfl rfl (acc_same hp hm).symm
  have hd:=decide_eq_false h0
  refine viaLF (And.intro hb hd) ?_
  ((first|refine qp1 rfl rfl fun K hK=>?_|refine qp3 rfl rfl fun K hK=>?_);simp (disch:=(first|omega|(simp only [sz]<;>omega)|fail)) only [go_sem];(first|refine⟨_,_,.cas _ 0 item hp hm (by omega),?_⟩|refine⟨_,_,.com (.cas _ 0 item hp hm (by omega)),?_⟩);(try simp only [go_sem]);with_reducible refine hK _ _ ?_;clear hK K)
  by_cases h1:wAt ws (gCache N T me cl 0)=some 0
  · have hc:cPut ws (gCache N T me cl 0) (gCache N T me cl 1) item=(true,1,ws.set (gCache N T me cl 0).toNat item):=by unfold cPut;rw [if_neg (by simp [hi];omega),if_pos h1]
    rw [hc,(cas_hit h1 item).1,(cas_hit h1 item).2]
    refine viaL ?_
    exact Goes.fin rfl rfl rfl
  rw [(cas_miss h1 item).1,(cas_miss h1 item).2]
  refine viaL ?_
  ((first|refine qp1 rfl rfl fun K hK=>?_|refine qp3 rfl rfl fun K hK=>?_);simp (disch:=(first|omega|(simp only [sz]<;>omega)|fail)) only [go_sem];(first|refine⟨_,_,.self (acc_p hp hm),?_⟩|refine⟨_,_,.com (.self (acc_p hp hm)),?_⟩);(try simp only [go_sem]);with_reducible refine hK _ _ ?_;clear hK K)
  refine viaL ?_
  ((first|refine qp1 rfl rfl fun K hK=>?_|refine qp3 rfl rfl fun K hK=>?_);simp (disch:=(first|omega|(simp only [sz]<;>omega)|fail)) only [go_sem];(first|refine⟨_,_,(qpd fun w=>gCache_pure N T me cl 1 w hN hT hc (by omega)),?_⟩|refine⟨_,_,(qpu fun w=>gCache_pure N T me cl 1 w hN hT hc (by omega)),?_⟩|refine⟨_,_,.com (qpd fun w=>gCache_pure N T me cl 1 w hN hT hc (by omega)),?_⟩|refine⟨_,_,.com (qpu fun w=>gCache_pure N T me cl 1 w hN hT hc (by omega)),?_⟩);(try simp only [go_sem]);with_reducible refine hK _ _ ?_;clear hK K)
  by_cases h2:gCache N T me cl 1<0
  · have hc:cPut ws (gCache N T me cl 0) (gCache N T me cl 1) item=(false,1,ws):=by unfold cPut;rw [if_neg (by simp [hi];omega),if_neg h1,if_pos h2]
    rw [hc]
    have hd:=decide_eq_true h2
    refine viaLF (And.intro hb hd) ?_
    exact Goes.fin rfl rfl rfl
  have hd:=decide_eq_false h2
  refine viaLF (And.intro hb hd) ?_
  ((first|refine qp1 rfl rfl fun K hK=>?_|refine qp3 rfl rfl fun K hK=>?_);simp (disch:=(first|omega|(simp only [sz]<;>omega)|fail)) only [go_sem];(first|refine⟨_,_,.cas _ 0 item (acc_p hp hm) (acc_m hp hm) (by omega),?_⟩|refine⟨_,_,.com (.cas _ 0 item (acc_p hp hm) (acc_m hp hm) (by omega)),?_⟩);(try simp only [go_sem]);with_reducible refine hK _ _ ?_;clear hK K)
  rw [acc_acc hne]
  by_cases h3:wAt ws (gCache N T me cl 1)=some 0
  · have hc:cPut ws (gCache N T me cl 0) (gCache N T me cl 1) item=(true,2,ws.set (gCache N T me cl 1).toNat item):=by unfold cPut;rw [if_neg (by simp [hi];omega),if_neg h1,if_neg h2,if_pos h3]
    rw [hc,(cas_hit h3 item).1,(cas_hit h3 item).2]
    refine viaL ?_
    exact Goes.fin rfl rfl rfl
  have hc:cPut ws (gCache N T me cl 0) (gCache N T me cl 1) item=(false,2,ws):=by unfold cPut;rw [if_neg (by simp [hi];omega),if_neg h1,if_neg h2,if_neg h3]
  rw [hc,(cas_miss h3 item).1,(cas_miss h3 item).2]
  refine viaL ?_
  exact Goes.fin rfl rfl rfl
def cSteal (ws:List UInt64) (a b:Int):UInt64 × Bool × Nat × List UInt64 :=
  if a<0 then (0,false,0,ws) else if wT 1 a 0 ws≠0 then (wT 1 a 0 ws,true,2,ws.set a.toNat 0) else if b<0 then (0,false,1,ws) else if wT 1 b 0 ws≠0 then (wT 1 b 0 ws,true,3,ws.set b.toNat 0) else (0,false,2,ws)
theorem load_at {ws:List UInt64} {n:Int} (h:wT 1 n 0 ws≠0):wAt ws n=some (wT 1 n 0 ws):=by
  unfold wT at h ⊢
  cases hw:wAt ws n with
  | none=>simp [hw] at h
  | some x=>simp [kTold]
theorem ne_bool {x:UInt64}:(((x.toNat:Int) != 0)=true)↔x≠0:=by
  rw [show (0:Int)=((0:UInt64).toNat:Int) from rfl,u64_ne,bne_iff_ne]
theorem cSteal_does (S:St) (p m:Nat) (me:Int) (steps:Nat) (ws:List UInt64) (bs:List UInt8) (N T:Nat) (th cl:Int) (hp:S[p]?=some (.port m me steps)) (hm:S[m]?=some (.mem ws bs)) (hs:steps≤100000000000) (hN:N≤256) (hT:T≤64) (hc:cl≤9223372036854775807) :
    Does OF 68 #[prtV p,.agg (geoC N T),.int .i64 th,.int .i64 cl] [] S (.tuple #[.int .u64 ((cSteal ws (gCache N T th cl 0) (gCache N T th cl 1)).1.toNat:Int),.bool (cSteal ws (gCache N T th cl 0) (gCache N T th cl 1)).2.1])
      (accS S p m me (steps+(cSteal ws (gCache N T th cl 0) (gCache N T th cl 1)).2.2.1) (cSteal ws (gCache N T th cl 0) (gCache N T th cl 1)).2.2.2 bs):=by
  have hne:=hne_of hp hm
  refine Does.mk Try.func68 rfl rfl ?clo ?hand ?_
  case clo=>exact clo4 (pclo (hlt_of hp)) gclo iclo iclo
  case hand=>exact Hand.plain (by simp [plainB])
  rw [Try.ntmps68];simp only [List.size_toArray,List.length_cons,List.length_nil,List.replicate,List.cons_append,List.nil_append]
  refine viaL ?_
  ((first|refine qp1 rfl rfl fun K hK=>?_|refine qp3 rfl rfl fun K hK=>?_);simp (disch:=(first|omega|(simp only [sz]<;>omega)|fail)) only [go_sem];(first|refine⟨_,_,(qpd fun w=>gCache_pure N T th cl 0 w hN hT hc (by omega)),?_⟩|refine⟨_,_,(qpu fun w=>gCache_pure N T th cl 0 w hN hT hc (by omega)),?_⟩|refine⟨_,_,.com (qpd fun w=>gCache_pure N T th cl 0 w hN hT hc (by omega)),?_⟩|refine⟨_,_,.com (qpu fun w=>gCache_pure N T th cl 0 w hN hT hc (by omega)),?_⟩);(try simp only [go_sem]);with_reducible refine hK _ _ ?_;clear hK K)
  by_cases h0:gCache N T th cl 0<0
  · have hc:cSteal ws (gCache N T th cl 0) (gCache N T th cl 1)=(0,false,0,ws):=if_pos h0
    rw [hc]
    have hd:=decide_eq_true h0
    refine viaLF hd ?_
    exact Goes.fin rfl rfl (acc_same hp hm).symm
  have hd:=decide_eq_false h0
  refine viaLF hd ?_
  ((first|refine qp1 rfl rfl fun K hK=>?_|refine qp3 rfl rfl fun K hK=>?_);simp (disch:=(first|omega|(simp only [sz]<;>omega)|fail)) only [go_sem];(first|refine⟨_,_,.load _ hp hm (by omega),?_⟩|refine⟨_,_,.com (.load _ hp hm (by omega)),?_⟩);(try simp only [go_sem]);with_reducible refine hK _ _ ?_;clear hK K)
  rw [load_same]
  by_cases h1:wT 1 (gCache N T th cl 0) 0 ws≠0
  · have hc:cSteal ws (gCache N T th cl 0) (gCache N T th cl 1)=(wT 1 (gCache N T th cl 0) 0 ws,true,2,ws.set (gCache N T th cl 0).toNat 0):=by unfold cSteal;rw [if_neg h0,if_pos h1]
    rw [hc]
    have hb:=ne_bool.2 h1
    refine viaLF hb ?_
    ((first|refine qp1 rfl rfl fun K hK=>?_|refine qp3 rfl rfl fun K hK=>?_);simp (disch:=(first|omega|(simp only [sz]<;>omega)|fail)) only [go_sem];(first|refine⟨_,_,.cas _ (wT 1 (gCache N T th cl 0) 0 ws) 0 (acc_p hp hm) (acc_m hp hm) (by omega),?_⟩|refine⟨_,_,.com (.cas _ (wT 1 (gCache N T th cl 0) 0 ws) 0 (acc_p hp hm) (acc_m hp hm) (by omega)),?_⟩);(try simp only [go_sem]);with_reducible refine hK _ _ ?_;clear hK K)
    rw [acc_acc hne,(cas_hit (load_at h1) 0).1,(cas_hit (load_at h1) 0).2]
    refine viaL ?_
    exact Goes.fin rfl rfl rfl
  have hb:(((wT 1 (gCache N T th cl 0) 0 ws).toNat:Int) != 0)=false:=by rw [Bool.eq_false_iff];exact fun h=>h1 (ne_bool.1 h)
  refine viaLF hb ?_
  ((first|refine qp1 rfl rfl fun K hK=>?_|refine qp3 rfl rfl fun K hK=>?_);simp (disch:=(first|omega|(simp only [sz]<;>omega)|fail)) only [go_sem];(first|refine⟨_,_,(qpd fun w=>gCache_pure N T th cl 1 w hN hT hc (by omega)),?_⟩|refine⟨_,_,(qpu fun w=>gCache_pure N T th cl 1 w hN hT hc (by omega)),?_⟩|refine⟨_,_,.com (qpd fun w=>gCache_pure N T th cl 1 w hN hT hc (by omega)),?_⟩|refine⟨_,_,.com (qpu fun w=>gCache_pure N T th cl 1 w hN hT hc (by omega)),?_⟩);(try simp only [go_sem]);with_reducible refine hK _ _ ?_;clear hK K)
  by_cases h2:gCache N T th cl 1<0
  · have hc:cSteal ws (gCache N T th cl 0) (gCache N T th cl 1)=(0,false,1,ws):=by unfold cSteal;rw [if_neg h0,if_neg h1,if_pos h2]
    rw [hc]
    have hd:=decide_eq_true h2
    refine viaLF hd ?_
    exact Goes.fin rfl rfl rfl
  have hd:=decide_eq_false h2
  refine viaLF hd ?_
  ((first|refine qp1 rfl rfl fun K hK=>?_|refine qp3 rfl rfl fun K hK=>?_);simp (disch:=(first|omega|(simp only [sz]<;>omega)|fail)) only [go_sem];(first|refine⟨_,_,.load _ (acc_p hp hm) (acc_m hp hm) (by omega),?_⟩|refine⟨_,_,.com (.load _ (acc_p hp hm) (acc_m hp hm) (by omega)),?_⟩);(try simp only [go_sem]);with_reducible refine hK _ _ ?_;clear hK K)
  rw [load_same,acc_acc hne]
  by_cases h3:wT 1 (gCache N T th cl 1) 0 ws≠0
  · have hc:cSteal ws (gCache N T th cl 0) (gCache N T th cl 1)=(wT 1 (gCache N T th cl 1) 0 ws,true,3,ws.set (gCache N T th cl 1).toNat 0):=by unfold cSteal;rw [if_neg h0,if_neg h1,if_neg h2,if_pos h3]
    rw [hc]
    have hb:=ne_bool.2 h3
    refine viaLF hb ?_
    ((first|refine qp1 rfl rfl fun K hK=>?_|refine qp3 rfl rfl fun K hK=>?_);simp (disch:=(first|omega|(simp only [sz]<;>omega)|fail)) only [go_sem];(first|refine⟨_,_,.cas _ (wT 1 (gCache N T th cl 1) 0 ws) 0 (acc_p hp hm) (acc_m hp hm) (by omega),?_⟩|refine⟨_,_,.com (.cas _ (wT 1 (gCache N T th cl 1) 0 ws) 0 (acc_p hp hm) (acc_m hp hm) (by omega)),?_⟩);(try simp only [go_sem]);with_reducible refine hK _ _ ?_;clear hK K)
    rw [acc_acc hne,(cas_hit (load_at h3) 0).1,(cas_hit (load_at h3) 0).2]
    refine viaL ?_
    exact Goes.fin rfl rfl rfl
  have hc:cSteal ws (gCache N T th cl 0) (gCache N T th cl 1)=(0,false,2,ws):=by unfold cSteal;rw [if_neg h0,if_neg h1,if_neg h2,if_neg h3]
  rw [hc]
  have hb:(((wT 1 (gCache N T th cl 1) 0 ws).toNat:Int) != 0)=false:=by rw [Bool.eq_false_iff];exact fun h=>h3 (ne_bool.1 h)
  refine viaLF hb ?_
  exact Goes.fin rfl rfl rfl
theorem cTake_does (S:St) (p m:Nat) (me:Int) (steps:Nat) (ws:List UInt64) (bs:List UInt8) (N T:Nat) (cl:Int) (hp:S[p]?=some (.port m me steps)) (hm:S[m]?=some (.mem ws bs)) (hs:steps≤100000000000) (hN:N≤256) (hT:T≤64) (hc:cl≤9223372036854775807) :
    Does OF 93 #[prtV p,.agg (geoC N T),.int .i64 cl] [] S (.tuple #[.int .u64 ((cSteal ws (gCache N T me cl 0) (gCache N T me cl 1)).1.toNat:Int),.bool (cSteal ws (gCache N T me cl 0) (gCache N T me cl 1)).2.1])
      (accS S p m me (steps+(cSteal ws (gCache N T me cl 0) (gCache N T me cl 1)).2.2.1) (cSteal ws (gCache N T me cl 0) (gCache N T me cl 1)).2.2.2 bs):=by
  refine Does.mk Try.func93 rfl rfl ?clo ?hand ?_
  case clo=>exact clo3 (pclo (hlt_of hp)) gclo iclo
  case hand=>exact Hand.plain (by simp [plainB])
  rw [Try.ntmps93];simp only [List.size_toArray,List.length_cons,List.length_nil,List.replicate,List.cons_append,List.nil_append]
  refine via ?_
  ((first|refine qp1 rfl rfl fun K hK=>?_|refine qp3 rfl rfl fun K hK=>?_);simp (disch:=(first|omega|(simp only [sz]<;>omega)|fail)) only [go_sem];(first|refine⟨_,_,.self hp,?_⟩|refine⟨_,_,.com (.self hp),?_⟩);(try simp only [go_sem]);with_reducible refine hK _ _ ?_;clear hK K)
  refine via ?_
  ((first|refine qc1 rfl rfl fun K hK=>?_|refine qc3 rfl rfl fun K hK=>?_);simp (disch:=(first|omega|(simp only [sz]<;>omega)|fail)) only [go_sem];(first|refine⟨_,_,cSteal_does S p m me steps ws bs N T me cl hp hm hs hN hT hc,?_⟩|refine⟨_,_,Does.com (cSteal_does S p m me steps ws bs N T me cl hp hm hs hN hT hc),?_⟩);(try simp only [go_sem]);with_reducible refine hK _ _ ?_;clear hK K)
  refine via ?_
  exact Goes.fin rfl rfl rfl
theorem begun_does (S:St) (N T:Nat) (hN1:1≤N) (hN:N≤256) (hT1:1≤T) (hT:T≤64) (hw:gb N T 19≤2097152) :
    Does OF 46 #[.int .i64 N,.int .i64 T] [] S (.tuple #[.agg (geoC N T),hndV S.length]) (S++[.mem (List.replicate (gb N T 19) 0) (List.replicate (64 * N) 0)]):=by
  refine Does.mk Try.func46 rfl rfl ?clo ?hand ?_
  case clo=>exact clo2 iclo iclo
  case hand=>exact hand2 ghand (hhand (by simp [OF]))
  rw [Try.ntmps46];simp only [List.size_toArray,List.length_cons,List.length_nil,List.replicate,List.cons_append,List.nil_append]
  refine via ?_
  ((first|refine qp1 rfl rfl fun K hK=>?_|refine qp3 rfl rfl fun K hK=>?_);simp (disch:=(first|omega|(simp only [sz]<;>omega)|fail)) only [go_sem];(first|refine⟨_,_,(qpd fun w=>gNew_pure N T w hN1 hN hT1 hT),?_⟩|refine⟨_,_,(qpu fun w=>gNew_pure N T w hN1 hN hT1 hT),?_⟩|refine⟨_,_,.com (qpd fun w=>gNew_pure N T w hN1 hN hT1 hT),?_⟩|refine⟨_,_,.com (qpu fun w=>gNew_pure N T w hN1 hN hT1 hT),?_⟩);(try simp only [go_sem]);with_reducible refine hK _ _ ?_;clear hK K)
  refine via ?_
  ((first|refine qp1 rfl rfl fun K hK=>?_|refine qp3 rfl rfl fun K hK=>?_);simp (disch:=(first|omega|(simp only [sz]<;>omega)|fail)) only [go_sem];(first|refine⟨_,_,(qpd fun w=>gWords_pure N T w),?_⟩|refine⟨_,_,(qpu fun w=>gWords_pure N T w),?_⟩|refine⟨_,_,.com (qpd fun w=>gWords_pure N T w),?_⟩|refine⟨_,_,.com (qpu fun w=>gWords_pure N T w),?_⟩);(try simp only [go_sem]);with_reducible refine hK _ _ ?_;clear hK K)
  refine via ?_
  ((first|refine qp1 rfl rfl fun K hK=>?_|refine qp3 rfl rfl fun K hK=>?_);simp (disch:=(first|omega|(simp only [sz]<;>omega)|fail)) only [go_sem];(first|refine⟨_,_,(qpd fun w=>gPages_pure N T w),?_⟩|refine⟨_,_,(qpu fun w=>gPages_pure N T w),?_⟩|refine⟨_,_,.com (qpd fun w=>gPages_pure N T w),?_⟩|refine⟨_,_,.com (qpu fun w=>gPages_pure N T w),?_⟩);(try simp only [go_sem]);with_reducible refine hK _ _ ?_;clear hK K)
  refine via ?_
  have e:(64 * (N:Int))=((64 * N:Nat):Int):=by push_cast;rfl
  rw [e]
  ((first|refine qp1 rfl rfl fun K hK=>?_|refine qp3 rfl rfl fun K hK=>?_);simp (disch:=(first|omega|(simp only [sz]<;>omega)|fail)) only [go_sem];(first|refine⟨_,_,.mnew _ _ hw (by omega),?_⟩|refine⟨_,_,.com (.mnew _ _ hw (by omega)),?_⟩);(try simp only [go_sem]);with_reducible refine hK _ _ ?_;clear hK K)
  refine via ?_
  refine Goes.fin rfl (by simp (disch:=(first|omega|(simp only [heapL_next,List.length_cons,List.length_nil,List.size_toArray,geo_len]<;>omega)|fail)) only [go_sem,resA,res1A,Try.results46]<;>rfl) ?_
  rfl
end Go.Proofs.Ytkjnamhgemidkaa
namespace Go.Proofs.Ytkjnamhgemidkaa
open Go Go.Conc
set_option linter.unusedSimpArgs false
set_option linter.unusedVariables false
open Go.RowKit
def MF:Face Try.prog St where
  mix:=Try.mix
  cnt:=List.length
  rep:=fun _ _ _=>False
  fp:=fun _ _ _=>False
  prim:=PrimM
  rep_same:=fun _ _ _ _ _ h=>h.elim
  rep_kept:=fun _ _ _ _ h=>h.elim
  fp_low:=fun _ _ _ _ h=>h.elim
  prim_hand:=fun _ _ _ _ _ h=>⟨h.len,h.hand⟩
  prim_ok:=fun _ _ _ _ _ _ _ _ h=>h.elim
theorem Does.com {f:FuncId} {args:Array Value} {l:List Blk} {S S':St} {v:Value} (D:Does OF f args l S v S'):Does MF f args l S v S':=by
  obtain⟨g,c,h1,a1,a2,a3,a4,a5,G⟩:=D
  exact⟨g,c,h1,a1,a2,a3,a4,a5,Goes.face (X:=OF) (X':=MF) (fun _ _ _ _ _ h=>PrimM.com h) rfl G⟩
theorem Does.pure {f:FuncId} {args:Array Value} {v:Value} {S1:St} (D:Does OF f args [] [] v S1) (ha:args.all plainB=true) (hv:plainB v=true):PureT f args v:=fun w=>by
  have D':Does (XF false (fun _=>False) (fun _=>False) (primOK _ _ _)) f args [] [] v S1:=by
    obtain⟨g,c,h1,a1,a2,a3,a4,a5,G⟩:=D
    exact⟨g,c,h1,a1,a2,a3,a4,a5,Goes.face (X:=OF) (X':=XF false (fun _=>False) (fun _=>False) (primOK _ _ _)) (fun _ _ _ _ _ h=>h) rfl G⟩
  exact does_pure (F:=idE) D' ha hv rfl ⟨fun k ob h=>(nil_at h).elim,fun k ob h=>(nil_at h).elim,fun k k' ob ob' _ h=>(nil_at h).elim,fun k ob h=>(nil_at h).elim,fun b h=>h.elim⟩ fun b ⟨k,ob,h,_⟩=>(nil_at h).elim
section
variable {Γ:Type} (Pr:Proto Γ)
def SpM:SpT Γ:=fun f args hs S γ Q=>SpNew f args hs S γ Q∨SpStart Pr f args hs S γ Q∨SpGrant Pr f args hs S γ Q∨SpIdle f args hs S γ Q
variable {Pr}
theorem spM_ok {n00:Nat} {w00:World} {Fin:Unit→Machine→Trace→Prop} {Stk:List Frame→Prop}:SpOK primOK (ClM n00 w00) (SuM primOK Pr) Fin Stk (SpM Pr):=by
  intro f args hs S γ Q hsp
  rcases hsp with h|h|h|h
  · exact new_ok primOK f args hs S γ Q h
  · exact start_ok primOK f args hs S γ Q h
  · exact grant_ok primOK f args hs S γ Q h
  · exact close_ok primOK f args hs S γ Q h
end
section
variable {Γ:Type} {X:Face Try.prog St} {Sp:SpT Γ} {fn:Func} {A:Conf St→Γ × St→Prop} {ops:Array Oper} {k:List Item} {i:Nat} {tmps:List Value} {h:AHeap} {S:St} {o:Oper} {γ:Γ × St} {todo:List Item}
theorem GE.go {c:Conf St} (G:Goes X fn (fun c=>GE X Sp fn A c γ) c):GE X Sp fn A c γ:=.plain _ G fun _ h=>h
theorem qs1 (ho:ops.toList[i]?=some o) (hw:Region.wanted o (yieldedL ops tmps)=true)
    (hk:∀ K:List Value→AHeap→St→Γ × St→Prop,(∀ t h1 S1 γ',At X fn (fun c=>GE X Sp fn A c γ') ops k (i+1) t h1 S1→K t h1 S1 γ')→CallK (fun f args=>Sp f args h S γ (fun v h1 S1 γ'=>K (putL o.dst v tmps) h1 S1 γ')) (callA Try.prog (evA tmps) o.op)) (hb:opOK o.op=true:=by rfl) :
    At X fn (fun c=>GE X Sp fn A c γ) ops k i tmps h S:=by
  unfold At
  rw [range_at (at_list ho)]
  have:=hk _ fun _ _ _ _ h=>h
  cases hv:callA Try.prog (evA tmps) o.op with
  | none=>rw [hv] at this;exact this.elim
  | some x =>
    obtain⟨f,args⟩:=x
    rw [hv] at this
    exact .here (.spec f args _ (at_list ho) hw (opOK_all hb) hv this fun v h1 S1 γ' hq=>GE.go hq)
def Runs (X:Face Try.prog St) (Sp:SpT Γ) (f:FuncId) (args:Array Value) (h:AHeap) (S:St) (γ:Γ × St) (Q:Value→AHeap→St→Γ × St→Prop):Prop :=
  ∃ g c,Try.prog.funcs[f]?=some g∧goB g=true∧g.body=some c∧GE X Sp g (fun x γ'=>∃ v h1 S1,x=.done v h1 S1∧Q v h1 S1 γ') (.run (enterL g c args).1 (enterL g c args).2 h S) γ
theorem Runs.mono {f:FuncId} {args:Array Value} {Q Q':Value→AHeap→St→Γ × St→Prop} (R:Runs X Sp f args h S γ Q) (hq:∀ v h1 S1 γ',Q v h1 S1 γ'→Q' v h1 S1 γ'):Runs X Sp f args h S γ Q':=by
  obtain⟨g,c,a1,a2,a3,G⟩:=R
  exact⟨g,c,a1,a2,a3,G.mono fun x γ' ⟨v,h1,S1,e,q⟩=>⟨v,h1,S1,e,hq _ _ _ _ q⟩⟩
theorem Runs.mk {f:FuncId} {g:Func} {c:Code} {args:Array Value} {Q:Value→AHeap→St→Γ × St→Prop} (hf:Try.prog.funcs[f]?=some g) (hg:goB g=true) (hb:g.body=some c)
    (hrun:Goes X g (fun c=>GE X Sp g (fun x γ'=>∃ v h1 S1,x=.done v h1 S1∧Q v h1 S1 γ') c γ) (.run [.code c] (args.toList++List.replicate (g.ntmps - args.size) undef) h S)):Runs X Sp f args h S γ Q:=⟨g,c,hf,hg,hb,GE.go hrun⟩
theorem qg1 (ho:ops.toList[i]?=some o) (hw:Region.wanted o (yieldedL ops tmps)=true)
    (hk:∀ K:List Value→AHeap→St→Γ × St→Prop,(∀ t h1 S1 γ',At X fn (fun c=>GE X Sp fn A c γ') ops k (i+1) t h1 S1→K t h1 S1 γ')→CallK (fun f args=>Runs X Sp f args h S γ (fun v h1 S1 γ'=>K (putL o.dst v tmps) h1 S1 γ')) (callA Try.prog (evA tmps) o.op)) (hb:opOK o.op=true:=by rfl) :
    At X fn (fun c=>GE X Sp fn A c γ) ops k i tmps h S:=by
  unfold At
  rw [range_at (at_list ho)]
  have:=hk _ fun _ _ _ _ h=>h
  cases hv:callA Try.prog (evA tmps) o.op with
  | none=>rw [hv] at this;exact this.elim
  | some x =>
    obtain⟨f,args⟩:=x
    rw [hv] at this
    obtain⟨g,c,a1,a2,a3,G⟩:=this
    exact .here (.call f g c args _ (at_list ho) hw (opOK_all hb) hv a1 a2 a3 G fun v h1 S1 γ' hq=>GE.go hq)
theorem Goes.endG {v:Value} (ht:retB todo=true) (hv:resA Try.prog fn tmps h=some v) (hA:A (.done v h S) γ):Goes X fn (fun c=>GE X Sp fn A c γ) (.run todo tmps h S):=.ret ht hv (.here (.here hA))
theorem Goes.retG {v:Value} {Q:Value→AHeap→St→Γ × St→Prop} (ht:retB todo=true) (hv:resA Try.prog fn tmps h=some v) (hA:Q v h S γ):Goes X fn (fun c=>GE X Sp fn (fun x γ'=>∃ v h1 S1,x=.done v h1 S1∧Q v h1 S1 γ') c γ) (.run todo tmps h S):=Goes.endG ht hv ⟨v,h,S,rfl,hA⟩
end
def Idle (S:St):Prop:=∀ (k:Nat) a b c d e f,S[k]?=some (Ob.thr a b c d e f)→d=false
theorem law_runs {Γ:Type} {Pr:Proto Γ} {F:Emb} {f:FuncId} {fg:Func} {cd:Code} {t:Tmp} {args:Array Value} {hs:AHeap} {w00:World} {γ:Γ} (hf:Try.prog.funcs[f]?=some fg) (hbd:fg.body=some cd) (hr:fg.results=#[.tmp t]) (hi:Try.prog.inits.idxOf? f=none) (hH:Holds F hs w00) (hl:hs.Low) (hV:hs.next≤VB) (hro:∀ n r,hs.get n=some r→r.ro=true)
    (hst:∀ u∈args,Stab (Kn hs.next 0) F u) (hc:∀ n r,hs.get n=some r→∀ v∈r.cells,Stab (Kn hs.next 0) F v)
    (G:GE MF (SpM Pr) fg (fun c γ'=>∃ h1 S1,c=.done (.bool true) h1 S1∧KeepC γ'.2 S1∧Idle S1) (.run (enterL fg cd args).1 (enterL fg cd args).2 hs []) (γ,[])) :
    ∃ M last o w' t',runNT Try.prog (M+1) (solo (Go.Conc.G (Frame.enter Try.prog f (args.map (ren F)) .normal) []) w00) #[]=(.ended o w',t')∧runN Try.prog M (solo (Go.Conc.G (Frame.enter Try.prog f (args.map (ren F)) .normal) []) w00)=.next last ∧
      step Try.prog last=.ended o w'∧Conc.Good Try.prog (fun v w'=>v=.bool true∧Go.RowKit.Below w00.heap.size w00 w') last o w' t':=by
  have hS:=GE.safe (hok:=primOK) (Cl:=ClM w00.heap.size w00) (Su:=SuM primOK Pr) (Fin:=FinL w00 (.bool true)) (Stk:=fun _=>True) (fun _ _ _ _ _ _ _ _=>trivial) (fun d γ p _=>SuM.mono primOK Pr d γ.1) (fun d γ p hC f a S v S' h=>by
      have e:p.mn=true:=by simp [Par.mn,hC.1]
      rw [e];exact h) rfl spM_ok G (baseF f) [] F 0 0 hf rfl trivial (fun c' γ' ⟨h1,S1,hc,hk,hi'⟩=>by
      subst hc
      exact law_ends primOK Pr rfl (b:=baseF f) hf hr hi hk hi')
  exact reach_ended rfl (law_starts primOK Pr hf hbd hH hl hV hro hst hc (F0:=F) (Same.refl _ _) hS)
end Go.Proofs.Ytkjnamhgemidkaa
namespace Go.Proofs.Ytkjnamhgemidkaa
open Go Go.RowKit
set_option linter.unusedSimpArgs false
set_option linter.unusedVariables false
def farA (ns:List Nat) (h:AHeap):AHeap:=⟨fun n=>match ns.elem n with|true=>(h.get n).map (fun b=>{ b with ro:=true })|false=>none,h.next⟩
theorem farA_get {ns:List Nat} {h:AHeap} {n:Nat}:(farA ns h).get n=match ns.elem n with|true=>(h.get n).map (fun b=>{ b with ro:=true })|false=>none:=rfl
section
variable {P:Program} {σ:Type} {X:Face P σ} {fn:Func} {A:Conf σ→Prop} {ops:Array Oper} {k:List Item} {i:Nat} {tmps:List Value} {h:AHeap} {S:σ} {o:Oper}
variable {W:List Nat} {n0:Nat} {hf:AHeap} {Kf:List Value→AHeap→σ→Prop} {born:List (Nat × Nat)}
end
attribute [go_sem] farA_get List.elem_cons List.elem_nil Option.map_some
attribute [go_sem_proc] Nat.reduceBEq
theorem gap_fold {l ys:List (Option Blk)} {q:Nat} (h:l.length≤q):heapJ l q ys=heapJ (l++List.replicate (q - l.length) none++ys) (q+ys.length) []:=by
  refine ah_ext (fun n=>?_) (by simp [gap_next])
  have e:(l++List.replicate (q - l.length) none).length=q:=by simp;omega
  by_cases hn:n<q
  · rw [gap_lo hn,gap_lo (by omega),List.getElem?_append_left (by omega)]
    by_cases h2:n<l.length
    · rw [List.getElem?_append_left h2]
    · rw [List.getElem?_append_right (by omega),List.getElem?_eq_none (by omega),List.getElem?_replicate]
      split<;>rfl
  · obtain⟨i,rfl⟩:∃ i,n=q+i:=⟨n - q,by omega⟩
    rw [gap_hi]
    by_cases h3:i<ys.length
    · rw [gap_lo (by omega),List.getElem?_append_right (by omega),e,Nat.add_sub_cancel_left]
    · rw [List.getElem?_eq_none (by omega)]
      obtain⟨j,rfl⟩:∃ j,i=ys.length+j:=⟨i - ys.length,by omega⟩
      rw [←Nat.add_assoc,gap_hi];rfl
def Ge (l l':List (Option Blk)):Prop:=∀ (n:Nat) (b:Blk),l[n]?=some (some b)→l'[n]?=some (some b)
theorem Ge.refl (l:List (Option Blk)):Ge l l:=fun _ _ h=>h
theorem Ge.trans {l l' l'':List (Option Blk)} (h:Ge l l') (h':Ge l' l''):Ge l l'':=fun n b k=>h' n b (h n b k)
theorem Ge.fold (l ys:List (Option Blk)) (q:Nat):Ge l (l++List.replicate (q - l.length) none++ys):=by
  intro n b h
  have hn:n<l.length:=(List.getElem?_eq_some_iff.1 h).1
  rw [List.append_assoc,List.getElem?_append_left hn];exact h
theorem fold_at {l ys:List (Option Blk)} {q i:Nat} (h:l.length≤q):(l++List.replicate (q - l.length) none++ys)[q+i]?=ys[i]?:=by
  rw [List.getElem?_append_right (by simp;omega)]
  congr 1;simp;omega
theorem fold_len {l ys:List (Option Blk)} {q:Nat} (h:l.length≤q):(l++List.replicate (q - l.length) none++ys).length=q+ys.length:=by simp;omega
section
variable {P:Program} {σ:Type} {X:Face P σ} {fn:Func} {A:Conf σ→Prop} {ops:Array Oper} {k:List Item} {i:Nat} {tmps:List Value} {h:AHeap} {S:σ} {o:Oper} {todo:List Item}
def DoesD (X:Face P σ) (f:FuncId) (args:Array Value) (h:AHeap) (S:σ) (v:Value) (h1:AHeap) (S1:σ):Prop :=
  ∃ g c,P.funcs[f]?=some g∧goB g=true∧g.body=some c∧Goes X g (fun x=>x=.done v h1 S1) (.run [.code c] (args.toList++List.replicate (g.ntmps - args.size) undef) h S)
theorem DoesD.mk {f:FuncId} {g:Func} {c:Code} {args:Array Value} {Q:Value→AHeap→σ→Prop} (hf:P.funcs[f]?=some g) (hg:goB g=true) (hb:g.body=some c)
    (hrun:Goes X g (fun x=>∃ v h1 S1,Q v h1 S1∧x=.done v h1 S1) (.run [.code c] (args.toList++List.replicate (g.ntmps - args.size) undef) h S)):∃ v h1 S1,Q v h1 S1∧DoesD X f args h S v h1 S1:=by
  obtain⟨c',⟨v,h1,S1,hq,rfl⟩,G⟩:=hrun.out
  exact⟨v,h1,S1,hq,g,c,hf,hg,hb,G⟩
variable {W:List Nat} {n0:Nat} {Kf:List Value→AHeap→σ→Prop} {born:List (Nat × Nat)}
variable {hf:AHeap}
variable {l ys:List (Option Blk)} {q:Nat}
theorem At.folds (hl:l.length≤q) (hk:∀ lf:List (Option Blk),lf.length=q+ys.length→Ge l lf→(∀ i,lf[q+i]?=ys[i]?)→At X fn A ops k i tmps (heapJ lf (q+ys.length) []) S):At X fn A ops k i tmps (heapJ l q ys) S:=by
  rw [gap_fold hl]
  exact hk _ (fold_len hl) (Ge.fold l ys q) fun i=>fold_at hl
theorem Goes.folds (hl:l.length≤q) (hk:∀ lf:List (Option Blk),lf.length=q+ys.length→Ge l lf→(∀ i,lf[q+i]?=ys[i]?)→Goes X fn A (.run todo tmps (heapJ lf (q+ys.length) []) S)):Goes X fn A (.run todo tmps (heapJ l q ys) S):=by
  rw [gap_fold hl]
  exact hk _ (fold_len hl) (Ge.fold l ys q) fun i=>fold_at hl
theorem named_eq {l l2:List (Option Blk)} {q:Nat} {b:Option Blk} (h:l2=l.set q b) (hq:q<l.length):l2[q]?=some b:=by rw [h];exact List.getElem?_set_self hq
theorem named_ne {l l2:List (Option Blk)} {q n:Nat} {b:Option Blk} {c:Option (Option Blk)} (h:l2=l.set q b) (hc:l[n]?=c) (hn:q≠n):l2[n]?=c:=by rw [h,List.getElem?_set_ne hn];exact hc
theorem named_len {l l2:List (Option Blk)} {q:Nat} {b:Option Blk} (h:l2=l.set q b):l2.length=l.length:=by rw [h,List.length_set]
theorem At.named (hk:∀ lf:List (Option Blk),lf=l→At X fn A ops k i tmps (heapJ lf q ys) S):At X fn A ops k i tmps (heapJ l q ys) S:=hk l rfl
theorem Goes.named (hk:∀ lf:List (Option Blk),lf=l→Goes X fn A (.run todo tmps (heapJ lf q ys) S)):Goes X fn A (.run todo tmps (heapJ l q ys) S):=hk l rfl
end
end Go.Proofs.Ytkjnamhgemidkaa
namespace Go.Proofs.Ytkjnamhgemidkaa
open Go Go.Conc
set_option linter.unusedSimpArgs false
set_option linter.unusedVariables false
open Go.RowKit
section
variable {Γ:Type} (Pr:Proto Γ) (k hp:Nat)
def Ask (a:Nat × Int × UInt64 × UInt64) (h:AHeap) (S:St) (γ:Γ × St) (Q:UInt64→AHeap→St→Γ × St→Prop):Prop :=
  SpB Pr k hp 137 #[hndV hp,accQ a] h S γ (fun v h1 S1 γ'=>∃ x:UInt64,v=.int .u64 (x.toNat:Int)∧Q x h1 S1 γ')
variable {Pr k hp}
theorem SpB.mono {f:FuncId} {args:Array Value} {h:AHeap} {S:St} {γ:Γ × St} {Q Q':Value→AHeap→St→Γ × St→Prop} (H:SpB Pr k hp f args h S γ Q) (hq:∀ v h1 S1 γ',Q v h1 S1 γ'→Q' v h1 S1 γ'):SpB Pr k hp f args h S γ Q':=by
  obtain⟨γ1,q,wself,steps,ask,grant,quit,a1,a2,a3,a4,a5,a6,a7,a8,a9⟩:=H
  exact⟨γ1,q,wself,steps,ask,grant,quit,a1,a2,a3,a4,a5,a6,a7,a8,fun v h1 γ2 S1 b1 b2 b3 b4 b5=>hq _ _ _ _ (a9 v h1 γ2 S1 b1 b2 b3 b4 b5)⟩
theorem Ask.mono {a:Nat × Int × UInt64 × UInt64} {h:AHeap} {S:St} {γ:Γ × St} {Q Q':UInt64→AHeap→St→Γ × St→Prop} (H:Ask Pr k hp a h S γ Q) (hq:∀ v h1 S1 γ',Q v h1 S1 γ'→Q' v h1 S1 γ'):Ask Pr k hp a h S γ Q' :=
  SpB.mono H fun _ _ _ _ ⟨x,e,q⟩=>⟨x,e,hq _ _ _ _ q⟩
theorem Ask.mk {a:Nat × Int × UInt64 × UInt64} {h:AHeap} {S:St} {γ:Γ × St} {Q:UInt64→AHeap→St→Γ × St→Prop} (γ1:Γ) (q:Pr.Ph) {wself:Int} {steps ask grant quit:Nat} (hacc:Pr.acc q=a) (hS:S=γ.2) (hwp:S[hp]?=some (.wp wself steps ask grant quit)) (hI:Pr.Inv γ1 h S) (hph:Pr.ph γ1 k=some q) (ho:∀ i,i≠k→Pr.ph γ1 i=Pr.ph γ.1 i) (hf:Pr.fuel γ1=Pr.fuel γ.1)
    (hQ:∀ (v:UInt64) (h1:AHeap) (γ2:Γ) (S1:St),Pr.Run k q v γ2 h1 S1→Pr.fuel γ2<Pr.fuel γ1→h.next≤h1.next→S.length≤S1.length→S1[hp]?=some (.wp wself (steps+1) ask grant quit)→Q v h1 S1 (γ2,S1)):Ask Pr k hp a h S γ Q:=by
  subst hacc
  exact⟨γ1,q,wself,steps,ask,grant,quit,rfl,rfl,hS,hwp,hI,hph,ho,hf,fun v h1 γ2 S1 b1 b2 b3 b4 b5=>⟨v,rfl,hQ v h1 γ2 S1 b1 b2 b3 b4 b5⟩⟩
theorem wload_g {n:Int} {h:AHeap} {S:St} {γ:Γ × St} {Q:Value→AHeap→St→Γ × St→Prop} (H:Ask Pr k hp (1,n,0,0) h S γ fun x h1 S1 γ'=>Q (.int .u64 (x.toNat:Int)) h1 S1 γ'):Runs OF (SpB Pr k hp) 131 #[hndV hp,.int .i64 n] h S γ Q:=by
  refine Runs.mk Try.func131 rfl rfl ?_
  rw [Try.ntmps131];simp only [List.size_toArray,List.length_cons,List.length_nil,List.replicate,List.cons_append,List.nil_append]
  refine via ?_
  (refine qs1 rfl rfl fun K hK=>?_;simp (disch:=(first|omega|(simp only [sz]<;>omega)|fail)) only [go_sem])
  refine SpB.mono H fun v h1 S1 γ' ⟨x,e,hq⟩=>?_
  subst e
  ((try simp only [go_sem]);with_reducible refine hK _ _ _ _ ?_;clear hK K)
  refine via ?_
  refine Goes.retG rfl (by simp (disch:=(first|omega|(simp only [heapL_next,List.length_cons,List.length_nil,List.size_toArray,geo_len]<;>omega)|fail)) only [go_sem,resA,res1A,Try.results131]<;>rfl) ?_
  exact hq
theorem wcas_g {n:Int} {A B:UInt64} {h:AHeap} {S:St} {γ:Γ × St} {Q:Value→AHeap→St→Γ × St→Prop} (H:Ask Pr k hp (3,n,A,B) h S γ fun x h1 S1 γ'=>Q (.bool (x != 0)) h1 S1 γ'):Runs OF (SpB Pr k hp) 129 #[hndV hp,.int .i64 n,.int .u64 (A.toNat:Int),.int .u64 (B.toNat:Int)] h S γ Q:=by
  refine Runs.mk Try.func129 rfl rfl ?_
  rw [Try.ntmps129];simp only [List.size_toArray,List.length_cons,List.length_nil,List.replicate,List.cons_append,List.nil_append]
  refine via ?_
  (refine qs1 rfl rfl fun K hK=>?_;simp (disch:=(first|omega|(simp only [sz]<;>omega)|fail)) only [go_sem])
  refine SpB.mono H fun v h1 S1 γ' ⟨x,e,hq⟩=>?_
  subst e
  ((try simp only [go_sem]);with_reducible refine hK _ _ _ _ ?_;clear hK K)
  have hx:((x.toNat:Int) != 0)=(x != 0):=by
    by_cases e:x=0
    · subst e;rfl
    · have:(x.toNat:Int)≠0:=fun h=>e (UInt64.toNat_inj.1 (by simpa using h))
      exact (bne_iff_ne.2 this).trans (bne_iff_ne.2 e).symm
  refine viaF hx ?_
  refine Goes.retG rfl (by simp (disch:=(first|omega|(simp only [heapL_next,List.length_cons,List.length_nil,List.size_toArray,geo_len]<;>omega)|fail)) only [go_sem,resA,res1A,Try.results129]<;>rfl) ?_
  exact hq
end
end Go.Proofs.Ytkjnamhgemidkaa
namespace Go.Proofs.Ytkjnamhgemidkaa
open Go Go.RowKit
set_option linter.unusedSimpArgs false
set_option linter.unusedVariables false
theorem acc10 {a b:Ob} {me:Int} {s:Nat} {ws:List UInt64} {bs:List UInt8}:accS [a,b] 1 0 me s ws bs=[.mem ws bs,.port 0 me s]:=rfl
attribute [go_sem] acc10
theorem two_m {S:St} {a b:Ob}:(S++[a,b])[S.length]?=some a:=by simp
theorem two_app {S:St} {a b:Ob}:(S++[a])++[b]=S++[a,b]:=by simp
theorem two_len {S:St} {a:Ob}:(S++[a]).length=S.length+1:=by simp
theorem one_m {S:St} {a:Ob}:(S++[a])[S.length]?=some a:=by simp
theorem three_len {S:St} {a b:Ob}:(S++[a,b]).length=S.length+2:=by simp
theorem three_app {S:St} {a b c:Ob}:(S++[a,b])++[c]=S++[a,b,c]:=by simp
theorem three_m {S:St} {a b c:Ob}:(S++[a,b,c])[S.length]?=some a:=by simp
theorem three_p {S:St} {a b c:Ob}:(S++[a,b,c])[S.length+1]?=some b:=by simp
theorem three_q {S:St} {a b c:Ob}:(S++[a,b,c])[S.length+2]?=some c:=by simp
theorem acc_app {S:St} {L:List Ob} {i:Nat} {me:Int} {s:Nat} {ws:List UInt64} {bs:List UInt8}:accS (S++L) (S.length+i) S.length me s ws bs=S++(L.set i (.port S.length me s)).set 0 (.mem ws bs):=by
  unfold accS
  rw [List.set_append_right _ _ (by omega),List.set_append_right _ _ (by omega),Nat.add_sub_cancel_left,Nat.sub_self]
theorem three_acc1 {S:St} {a b c:Ob} {me:Int} {s:Nat} {ws:List UInt64} {bs:List UInt8}:accS (S++[a,b,c]) (S.length+1) S.length me s ws bs=S++[.mem ws bs,.port S.length me s,c]:=acc_app
theorem three_acc2 {S:St} {a b c:Ob} {me:Int} {s:Nat} {ws:List UInt64} {bs:List UInt8}:accS (S++[a,b,c]) (S.length+2) S.length me s ws bs=S++[.mem ws bs,b,.port S.length me s]:=acc_app
def hold (x:UInt64):Int:=if 64<x.toNat then -1 else (x.toNat:Int) - 1
def kW (u v:UInt64):List UInt64:=((List.replicate (gb 1 2 19) 0).set (gCache 1 2 0 1 0).toNat u).set (gCache 1 2 0 1 1).toNat v
theorem kW_zero:List.replicate (gb 1 2 19) 0=kW 0 0:=by kernel_rfl
theorem kp_0_0_5:cPut (kW 0 0) (gCache 1 2 0 1 0) (gCache 1 2 0 1 1) 5=(true,1,kW 5 0):=by kernel_rfl
theorem kp_5_0_7:cPut (kW 5 0) (gCache 1 2 0 1 0) (gCache 1 2 0 1 1) 7=(true,2,kW 5 7):=by kernel_rfl
theorem kp_5_7_9:cPut (kW 5 7) (gCache 1 2 0 1 0) (gCache 1 2 0 1 1) 9=(false,2,kW 5 7):=by kernel_rfl
theorem ks_5_7:cSteal (kW 5 7) (gCache 1 2 0 1 0) (gCache 1 2 0 1 1)=(5,true,2,kW 0 7):=by kernel_rfl
theorem ks_0_7:cSteal (kW 0 7) (gCache 1 2 0 1 0) (gCache 1 2 0 1 1)=(7,true,3,kW 0 0):=by kernel_rfl
theorem ks_0_0:cSteal (kW 0 0) (gCache 1 2 0 1 0) (gCache 1 2 0 1 1)=(0,false,2,kW 0 0):=by kernel_rfl
theorem u5:((5:UInt64).toNat:Int)=5:=rfl
theorem u7:((7:UInt64).toNat:Int)=7:=rfl
theorem u8:((8:UInt64).toNat:Int)=8:=rfl
theorem u0:((0:UInt64).toNat:Int)=0:=rfl
set_option maxHeartbeats 4000000 in
theorem awake12 (S:St):∃ S',Does OF 65 #[] [] S (.bool true) S':=by
  refine⟨S++[.mem (kW 0 0) (List.replicate 64 0),.port S.length 0 7,.port S.length 1 5],?_⟩
  refine Does.mk Try.func65 rfl rfl ?clo ?hand ?_
  case clo=>exact clo0
  case hand=>exact Hand.plain rfl
  rw [Try.ntmps65];simp only [List.size_toArray,List.length_cons,List.length_nil,List.replicate,List.cons_append,List.nil_append]
  refine via ?_
  ((first|refine qc1 rfl rfl fun K hK=>?_|refine qc3 rfl rfl fun K hK=>?_);simp (disch:=(first|omega|(simp only [sz]<;>omega)|fail)) only [go_sem];(first|refine⟨_,_,begun_does S 1 2 (by decide) (by decide) (by decide) (by decide) (by decide),?_⟩|refine⟨_,_,Does.com (begun_does S 1 2 (by decide) (by decide) (by decide) (by decide) (by decide)),?_⟩);(try simp only [go_sem]);with_reducible refine hK _ _ ?_;clear hK K)
  rw [kW_zero]
  refine via ?_
  ((first|refine qp1 rfl rfl fun K hK=>?_|refine qp3 rfl rfl fun K hK=>?_);simp (disch:=(first|omega|(simp only [sz]<;>omega)|fail)) only [go_sem];(first|refine⟨_,_,.pnew one_m,?_⟩|refine⟨_,_,.com (.pnew one_m),?_⟩);(try simp only [go_sem]);with_reducible refine hK _ _ ?_;clear hK K)
  rw [two_len,two_app]
  refine via ?_
  ((first|refine qp1 rfl rfl fun K hK=>?_|refine qp3 rfl rfl fun K hK=>?_);simp (disch:=(first|omega|(simp only [sz]<;>omega)|fail)) only [go_sem];(first|refine⟨_,_,.pnew two_m,?_⟩|refine⟨_,_,.com (.pnew two_m),?_⟩);(try simp only [go_sem]);with_reducible refine hK _ _ ?_;clear hK K)
  rw [three_len,three_app]
  refine via ?_
  ((first|refine qc1 rfl rfl fun K hK=>?_|refine qc3 rfl rfl fun K hK=>?_);simp (disch:=(first|omega|(simp only [sz]<;>omega)|fail)) only [go_sem];(first|refine⟨_,_,cPut_does _ _ _ 0 _ _ _ 1 2 1 5 three_p three_m (by decide) (by decide) (by decide) (by decide),?_⟩|refine⟨_,_,Does.com (cPut_does _ _ _ 0 _ _ _ 1 2 1 5 three_p three_m (by decide) (by decide) (by decide) (by decide)),?_⟩);(try simp only [go_sem]);with_reducible refine hK _ _ ?_;clear hK K)
  rw [three_acc1]
  simp only [kp_0_0_5]
  refine via ?_
  ((first|refine qc1 rfl rfl fun K hK=>?_|refine qc3 rfl rfl fun K hK=>?_);simp (disch:=(first|omega|(simp only [sz]<;>omega)|fail)) only [go_sem];(first|refine⟨_,_,cPut_does _ _ _ 0 _ _ _ 1 2 1 7 three_p three_m (by decide) (by decide) (by decide) (by decide),?_⟩|refine⟨_,_,Does.com (cPut_does _ _ _ 0 _ _ _ 1 2 1 7 three_p three_m (by decide) (by decide) (by decide) (by decide)),?_⟩);(try simp only [go_sem]);with_reducible refine hK _ _ ?_;clear hK K)
  rw [three_acc1]
  simp only [kp_5_0_7]
  refine via ?_
  ((first|refine qc1 rfl rfl fun K hK=>?_|refine qc3 rfl rfl fun K hK=>?_);simp (disch:=(first|omega|(simp only [sz]<;>omega)|fail)) only [go_sem];(first|refine⟨_,_,cPut_does _ _ _ 0 _ _ _ 1 2 1 9 three_p three_m (by decide) (by decide) (by decide) (by decide),?_⟩|refine⟨_,_,Does.com (cPut_does _ _ _ 0 _ _ _ 1 2 1 9 three_p three_m (by decide) (by decide) (by decide) (by decide)),?_⟩);(try simp only [go_sem]);with_reducible refine hK _ _ ?_;clear hK K)
  rw [three_acc1]
  simp only [kp_5_7_9]
  refine via ?_
  ((first|refine qc1 rfl rfl fun K hK=>?_|refine qc3 rfl rfl fun K hK=>?_);simp (disch:=(first|omega|(simp only [sz]<;>omega)|fail)) only [go_sem];(first|refine⟨_,_,cTake_does _ _ _ 0 _ _ _ 1 2 1 three_p three_m (by decide) (by decide) (by decide) (by decide),?_⟩|refine⟨_,_,Does.com (cTake_does _ _ _ 0 _ _ _ 1 2 1 three_p three_m (by decide) (by decide) (by decide) (by decide)),?_⟩);(try simp only [go_sem]);with_reducible refine hK _ _ ?_;clear hK K)
  rw [three_acc1]
  simp only [ks_5_7]
  repeat (first|refine Goes.reg ?_|refine Goes.ctl2 rfl ?_|((first|refine qv1 rfl rfl rfl fun K hK=>?_|refine qv3 rfl rfl rfl fun K hK=>?_|refine qv2 rfl rfl rfl rfl rfl rfl fun K hK=>?_|refine qv4 rfl rfl rfl rfl rfl rfl fun K hK=>?_|refine qn1 rfl rfl rfl fun K hK=>?_|refine qn3 rfl rfl rfl fun K hK=>?_|refine qt1 rfl rfl rfl fun K hK=>?_|refine qt3 rfl rfl rfl fun K hK=>?_);simp (disch:=(first|omega|(simp only [sz]<;>omega)|fail)) only [go_sem,u5];with_reducible refine hK _ _ ?_;clear hK K)|refine At.nil rfl ?_|refine RG.nil rfl ?_|((first|refine AtL.skipg rfl rfl rfl rfl rfl ?_|refine RGL.skipg rfl rfl rfl rfl rfl ?_|refine AtL.skipu rfl rfl rfl rfl ?_|refine RGL.skipu rfl rfl rfl rfl ?_);simp only [putL,List.set_cons_zero,List.set_cons_succ])|refine Goes.yes rfl ?_|refine Goes.no rfl ?_|refine Goes.drawR [] (by kernel_rfl) ?_)
  ((first|refine qc1 rfl rfl fun K hK=>?_|refine qc3 rfl rfl fun K hK=>?_);simp (disch:=(first|omega|(simp only [sz]<;>omega)|fail)) only [go_sem];(first|refine⟨_,_,cSteal_does _ _ _ 1 _ _ _ 1 2 0 1 three_q three_m (by decide) (by decide) (by decide) (by decide),?_⟩|refine⟨_,_,Does.com (cSteal_does _ _ _ 1 _ _ _ 1 2 0 1 three_q three_m (by decide) (by decide) (by decide) (by decide)),?_⟩);(try simp only [go_sem]);with_reducible refine hK _ _ ?_;clear hK K)
  rw [three_acc2]
  simp only [ks_0_7]
  repeat (first|refine Goes.reg ?_|refine Goes.ctl2 rfl ?_|((first|refine qv1 rfl rfl rfl fun K hK=>?_|refine qv3 rfl rfl rfl fun K hK=>?_|refine qv2 rfl rfl rfl rfl rfl rfl fun K hK=>?_|refine qv4 rfl rfl rfl rfl rfl rfl fun K hK=>?_|refine qn1 rfl rfl rfl fun K hK=>?_|refine qn3 rfl rfl rfl fun K hK=>?_|refine qt1 rfl rfl rfl fun K hK=>?_|refine qt3 rfl rfl rfl fun K hK=>?_);simp (disch:=(first|omega|(simp only [sz]<;>omega)|fail)) only [go_sem,u7];with_reducible refine hK _ _ ?_;clear hK K)|refine At.nil rfl ?_|refine RG.nil rfl ?_|((first|refine AtL.skipg rfl rfl rfl rfl rfl ?_|refine RGL.skipg rfl rfl rfl rfl rfl ?_|refine AtL.skipu rfl rfl rfl rfl ?_|refine RGL.skipu rfl rfl rfl rfl ?_);simp only [putL,List.set_cons_zero,List.set_cons_succ])|refine Goes.yes rfl ?_|refine Goes.no rfl ?_|refine Goes.drawR [] (by kernel_rfl) ?_)
  ((first|refine qc1 rfl rfl fun K hK=>?_|refine qc3 rfl rfl fun K hK=>?_);simp (disch:=(first|omega|(simp only [sz]<;>omega)|fail)) only [go_sem];(first|refine⟨_,_,cSteal_does _ _ _ 1 _ _ _ 1 2 0 1 three_q three_m (by decide) (by decide) (by decide) (by decide),?_⟩|refine⟨_,_,Does.com (cSteal_does _ _ _ 1 _ _ _ 1 2 0 1 three_q three_m (by decide) (by decide) (by decide) (by decide)),?_⟩);(try simp only [go_sem]);with_reducible refine hK _ _ ?_;clear hK K)
  rw [three_acc2]
  simp only [ks_0_0]
  repeat (first|refine Goes.reg ?_|refine Goes.ctl2 rfl ?_|((first|refine qv1 rfl rfl rfl fun K hK=>?_|refine qv3 rfl rfl rfl fun K hK=>?_|refine qv2 rfl rfl rfl rfl rfl rfl fun K hK=>?_|refine qv4 rfl rfl rfl rfl rfl rfl fun K hK=>?_|refine qn1 rfl rfl rfl fun K hK=>?_|refine qn3 rfl rfl rfl fun K hK=>?_|refine qt1 rfl rfl rfl fun K hK=>?_|refine qt3 rfl rfl rfl fun K hK=>?_);simp (disch:=(first|omega|(simp only [sz]<;>omega)|fail)) only [go_sem,u5,u7];with_reducible refine hK _ _ ?_;clear hK K)|refine At.nil rfl ?_|refine RG.nil rfl ?_|((first|refine AtL.skipg rfl rfl rfl rfl rfl ?_|refine RGL.skipg rfl rfl rfl rfl rfl ?_|refine AtL.skipu rfl rfl rfl rfl ?_|refine RGL.skipu rfl rfl rfl rfl ?_);simp only [putL,List.set_cons_zero,List.set_cons_succ])|refine Goes.yes rfl ?_|refine Goes.no rfl ?_|refine Goes.drawR [] (by kernel_rfl) ?_)
  refine Goes.fin rfl (by simp (disch:=(first|omega|(simp only [heapL_next,List.length_cons,List.length_nil,List.size_toArray,geo_len]<;>omega)|fail)) only [go_sem,resA,res1A,Try.results65]<;>rfl) ?_
  rfl
abbrev Sl:=UInt64 × UInt64
def flat (L:List Sl):List UInt64:=L.flatMap fun x=>[x.1,x.2]
theorem flat_len:∀ L:List Sl,(flat L).length=2 * L.length
  | []=>rfl
  | x::L=>by
    have:=flat_len L
    show (x.1::x.2::flat L).length=_
    simp only [List.length_cons,this]
    omega
theorem flat_get0:∀ {L:List Sl} {k:Nat} {x:Sl},L[k]?=some x→(flat L)[2 * k]?=some x.1
  | [],_,_,h=>by simp at h
  | y::L,0,x,h=>by simp at h;subst h;rfl
  | y::L,k+1,x,h=>by
    have:=flat_get0 (L:=L) (k:=k) (by simpa using h)
    exact this
theorem flat_get1:∀ {L:List Sl} {k:Nat} {x:Sl},L[k]?=some x→(flat L)[2 * k+1]?=some x.2
  | [],_,_,h=>by simp at h
  | y::L,0,x,h=>by simp at h;subst h;rfl
  | y::L,k+1,x,h=>by
    have:=flat_get1 (L:=L) (k:=k) (by simpa using h)
    exact this
theorem flat_set0:∀ {L:List Sl} {k:Nat} {x:Sl} (y:UInt64),L[k]?=some x→(flat L).set (2 * k) y=flat (L.set k (y,x.2))
  | [],_,_,_,h=>by simp at h
  | z::L,0,x,y,h=>by simp at h;subst h;rfl
  | z::L,k+1,x,y,h=>by
    have:=flat_set0 (L:=L) (k:=k) y (by simpa using h)
    show z.1::z.2::(flat L).set (2 * k) y=z.1::z.2::flat (L.set k (y,x.2))
    rw [this]
theorem flat_set1:∀ {L:List Sl} {k:Nat} {x:Sl} (y:UInt64),L[k]?=some x→(flat L).set (2 * k+1) y=flat (L.set k (x.1,y))
  | [],_,_,_,h=>by simp at h
  | z::L,0,x,y,h=>by simp at h;subst h;rfl
  | z::L,k+1,x,y,h=>by
    have:=flat_set1 (L:=L) (k:=k) y (by simpa using h)
    show z.1::z.2::(flat L).set (2 * k+1) y=z.1::z.2::flat (L.set k (x.1,y))
    rw [this]
def wC (a:Nat) (L:List Sl) (b:Nat):List UInt64:=List.replicate a 0++(flat L++List.replicate b 0)
theorem wC_at {a b:Nat} {L:List Sl} {i:Nat} {v:UInt64} (h:(flat L)[i]?=some v):wAt (wC a L b) ((a+i:Nat):Int)=some v:=by
  have hi:=(List.getElem?_eq_some_iff.1 h).1
  unfold wAt wC
  rw [if_neg (by omega),Int.toNat_natCast,List.getElem?_append_right (by simp),List.getElem?_append_left (by simp;exact hi)]
  simpa using h
theorem wC_set {a b:Nat} {L:List Sl} {i:Nat} {v:UInt64} (h:i<(flat L).length):(wC a L b).set (a+i) v=List.replicate a 0++((flat L).set i v++List.replicate b 0):=by
  unfold wC
  rw [List.set_append_right _ _ (by simp),List.length_replicate,Nat.add_sub_cancel_left,List.set_append_left _ _ h]
theorem wC_set0 {a b k:Nat} {L:List Sl} {x:Sl} (h:L[k]?=some x) (y:UInt64):(wC a L b).set (a+2 * k) y=wC a (L.set k (y,x.2)) b:=by
  have hk:=(List.getElem?_eq_some_iff.1 h).1
  rw [wC_set (by rw [flat_len];omega),flat_set0 y h];rfl
theorem wC_set1 {a b k:Nat} {L:List Sl} {x:Sl} (h:L[k]?=some x) (y:UInt64):(wC a L b).set (a+(2 * k+1)) y=wC a (L.set k (x.1,y)) b:=by
  have hk:=(List.getElem?_eq_some_iff.1 h).1
  rw [wC_set (by rw [flat_len];omega),flat_set1 y h];rfl
theorem set_at {L:List Sl} {k:Nat} {x:Sl} (h:L[k]?=some x):L.set k x=L:=by
  obtain⟨hk,rfl⟩:=List.getElem?_eq_some_iff.1 h
  exact List.set_getElem_self hk
def rPut (x:Sl) (item:UInt64):Sl × Bool × Nat :=
  if item=0 then (x,false,0) else if x.1=0 then ((item,x.2),true,1) else if x.2=0 then ((x.1,item),true,2) else (x,false,2)
def rTake (x:Sl):Sl × UInt64 × Nat:=if x.1≠0 then ((0,x.2),x.1,2) else if x.2≠0 then ((x.1,0),x.2,3) else (x,0,2)
theorem cPut_wC {a b k:Nat} {L:List Sl} {x:Sl} (h:L[k]?=some x) {A B:Int} (hA:A=((a+2 * k:Nat):Int)) (hB:B=((a+(2 * k+1):Nat):Int)) (item:UInt64) :
    cPut (wC a L b) A B item=((rPut x item).2.1,(rPut x item).2.2,wC a (L.set k (rPut x item).1) b):=by
  have h0:=wC_at (a:=a) (b:=b) (flat_get0 h)
  have h1:=wC_at (a:=a) (b:=b) (flat_get1 h)
  rw [←hA] at h0
  rw [←hB] at h1
  have tA:A.toNat=a+2 * k:=by rw [hA];rfl
  have tB:B.toNat=a+(2 * k+1):=by rw [hB];rfl
  have nA:¬ A<0:=by rw [hA];omega
  have nB:¬ B<0:=by rw [hB];omega
  unfold cPut rPut
  by_cases hi:item=0
  · rw [if_pos (.inl hi),if_pos hi,set_at h]
  · rw [if_neg (by simp [hi];omega),if_neg hi,h0,h1]
    by_cases c1:x.1=0
    · rw [if_pos (by rw [c1]),if_pos c1,tA,wC_set0 h]
    · rw [if_neg (by simpa using c1),if_neg c1,if_neg nB]
      by_cases c2:x.2=0
      · rw [if_pos (by rw [c2]),if_pos c2,tB,wC_set1 h]
      · rw [if_neg (by simpa using c2),if_neg c2,set_at h]
theorem cSteal_wC {a b k:Nat} {L:List Sl} {x:Sl} (h:L[k]?=some x) {A B:Int} (hA:A=((a+2 * k:Nat):Int)) (hB:B=((a+(2 * k+1):Nat):Int)) :
    cSteal (wC a L b) A B=((rTake x).2.1,(rTake x).2.1 != 0,(rTake x).2.2,wC a (L.set k (rTake x).1) b):=by
  have h0:=wC_at (a:=a) (b:=b) (flat_get0 h)
  have h1:=wC_at (a:=a) (b:=b) (flat_get1 h)
  rw [←hA] at h0
  rw [←hB] at h1
  have tA:A.toNat=a+2 * k:=by rw [hA];rfl
  have tB:B.toNat=a+(2 * k+1):=by rw [hB];rfl
  have nA:¬ A<0:=by rw [hA];omega
  have nB:¬ B<0:=by rw [hB];omega
  have w0:wT 1 A 0 (wC a L b)=x.1:=by unfold wT;rw [h0];rfl
  have w1:wT 1 B 0 (wC a L b)=x.2:=by unfold wT;rw [h1];rfl
  unfold cSteal rTake
  rw [if_neg nA,w0,w1]
  by_cases c1:x.1=0
  · have n1:¬ (x.1≠0):=by simp [c1]
    by_cases c2:x.2=0
    · have n2:¬ (x.2≠0):=by simp [c2]
      simp only [if_neg n1,if_neg nB,if_neg n2,set_at h]
      rfl
    · simp only [if_neg n1,if_neg nB,if_pos (show x.2≠0 from c2)]
      rw [tB,wC_set1 h]
      simp [c2]
  · simp only [if_pos (show x.1≠0 from c1)]
    rw [tA,wC_set0 h]
    simp [c1]
theorem zero_t {x:UInt64} (h:x=0):((x.toNat:Int)==0)=true:=item_eq.2 h
theorem zero_f {x:UInt64} (h:x≠0):((x.toNat:Int)==0)=false:=by rw [Bool.eq_false_iff];exact fun e=>h (item_eq.1 e)
theorem nz_t {x:UInt64} (h:x≠0):((x.toNat:Int) != 0)=true:=ne_bool.2 h
end Go.Proofs.Ytkjnamhgemidkaa
namespace Go.Proofs.Ytkjnamhgemidkaa
open Go Go.Conc
set_option linter.unusedSimpArgs false
set_option linter.unusedVariables false
open Go.RowKit
abbrev csG:Blk:={ cells:=(geoC 1 3).toList,elem:=77 }
abbrev csU (x:UInt64):Blk:={ cells:=[.int .u64 (x.toNat:Int)],elem:=26 }
abbrev csB (b:Bool):Blk:={ cells:=[.bool b],elem:=4 }
structure CsL (x:UInt64) (b:Bool) (l:List (Option Blk)):Prop where
  g:l[0]?=some (some csG)
  u:l[1]?=some (some (csU x))
  b:l[2]?=some (some (csB b))
theorem CsL.ge {x:UInt64} {b:Bool} {l l':List (Option Blk)} (h:CsL x b l) (hg:Ge l l'):CsL x b l':=⟨hg _ _ h.g,hg _ _ h.u,hg _ _ h.b⟩
def csP (a:UInt64):Proto (Option (Nat × Nat) × Nat) where
  Ph:=Nat × Nat
  ph γ i:=if i=2 then γ.1 else none
  acc q:=if q.1=1 then (1,49,0,0) else (3,49,a,0)
  fuel γ:=γ.2
  Inv γ h _:=∃ l q,h=heapJ l q []∧l.length≤q∧q+1000 * γ.2≤5000∧((γ.1=none∧γ.2=0∧CsL a true l)∨∃ w,γ.1=some w∧CsL 0 false l∧l[w.2]?=some (some csG)∧((w.1=1∧γ.2=2)∨(w.1=2∧γ.2=1)))
  Run _ p v γ h _:=∃ l q,h=heapJ l q []∧l.length≤q∧q+1000 * γ.2≤4500∧CsL 0 false l∧l[p.2]?=some (some csG)∧((p.1=1∧v=a∧γ.2=1)∨(p.1=2∧v=1∧γ.2=0))
theorem csP_oth {a:UInt64} {γ γ':Option (Nat × Nat) × Nat} {i:Nat} (hi:i≠2):(csP a).ph γ i=(csP a).ph γ' i:=by
  show (if i=2 then γ.1 else none)=(if i=2 then γ'.1 else none)
  rw [if_neg hi,if_neg hi]
theorem cs49:gCache 1 3 0 3 0=49:=by decide
theorem cs50:gCache 1 3 0 3 1=50:=by decide
abbrev CsΓ:=(Option (Nat × Nat) × Nat) × St
set_option maxRecDepth 100000 in
set_option maxHeartbeats 4000000 in
theorem csSteal {a:UInt64} (ha:a≠0) {l:List (Option Blk)} {q:Nat} {S:St} {γ:CsΓ} {me:Int} {st ask gr qt:Nat} (hS:S=γ.2) (hwp:S[3]?=some (.wp me st ask gr qt)) (hl:l.length≤q) (hq:q≤2900) (hc:CsL 0 false l) (hf:γ.1.2=2) :
    Runs OF (SpB (csP a) 2 3) 68 #[.iface 99 (hndV 3),.agg (geoC 1 3),.int .i64 0,.int .i64 3] (heapJ l q []) S γ fun v h1 S1 γ'=>v=.tuple #[.int .u64 (a.toNat:Int),.bool true]∧S1=γ'.2∧γ'.1.2=0∧∃ l1 q1,h1=heapJ l1 q1 []∧l1.length≤q1∧q1≤4600∧CsL 0 false l1:=by
  refine Runs.mk Try.func68 rfl rfl ?_
  rw [Try.ntmps68];simp only [List.size_toArray,List.length_cons,List.length_nil,List.replicate,List.cons_append,List.nil_append]
  refine viaL ?_
  ((first|refine qp1 rfl rfl fun K hK=>?_|refine qp3 rfl rfl fun K hK=>?_);simp (disch:=(first|omega|(simp only [sz]<;>omega)|fail)) only [go_sem];(first|refine⟨_,_,(qpd fun w=>gCache_pure 1 3 0 3 0 w (by decide) (by decide) (by decide) (by decide)),?_⟩|refine⟨_,_,(qpu fun w=>gCache_pure 1 3 0 3 0 w (by decide) (by decide) (by decide) (by decide)),?_⟩|refine⟨_,_,.com (qpd fun w=>gCache_pure 1 3 0 3 0 w (by decide) (by decide) (by decide) (by decide)),?_⟩|refine⟨_,_,.com (qpu fun w=>gCache_pure 1 3 0 3 0 w (by decide) (by decide) (by decide) (by decide)),?_⟩);(try simp only [go_sem]);with_reducible refine hK _ _ ?_;clear hK K)
  rw [cs49]
  refine viaL ?_
  refine At.folds hl fun lf hlen hge hrow=>?_
  have hc1:=hc.ge hge
  have hb1:lf[q]?=some (some csG):=hrow 0
  (refine qg1 rfl rfl fun K hK=>?_;simp (disch:=(first|omega|(simp only [sz]<;>omega)|fail)) only [go_sem])
  refine wload_g (Ask.mk (some (1,q),2) (1,q) rfl hS hwp ⟨lf,_,rfl,Nat.le_of_eq hlen,?_,.inr ⟨_,rfl,hc1,hb1,.inl ⟨rfl,rfl⟩⟩⟩ rfl (fun i hi=>csP_oth hi) hf.symm fun v h1 γ2 S1 hrun hfu hnx hlenS hwp1=>?_)
  · show q+1+1000 * 2≤5000
    omega
  obtain⟨l2,q2,rfl,hl2,hq2,hc2,hb2,hv⟩:=hrun
  obtain⟨_,rfl,hf2⟩:1=1∧v=a∧γ2.2=1:=by
    rcases hv with h|⟨h,_⟩
    · exact h
    · exact absurd (show (1:Nat)=2 from h) (by decide)
  have hb2:l2[q]?=some (some csG):=hb2
  ((try simp only [go_sem]);with_reducible refine hK _ _ _ _ ?_;clear hK K)
  have nz:((v.toNat:Int) != 0)=true:=nz_t ha
  refine viaLF nz ?_
  (refine qg1 rfl rfl fun K hK=>?_;simp (disch:=(first|omega|(simp only [sz]<;>omega)|fail)) only [go_sem])
  refine wcas_g (B:=0) (Ask.mk (some (2,q),1) (2,q) rfl rfl hwp1 ⟨l2,_,rfl,hl2,?_,.inr ⟨_,rfl,hc2,hb2,.inr ⟨rfl,rfl⟩⟩⟩ rfl (fun i hi=>csP_oth hi) hf2.symm fun x h3 γ3 S3 hrun3 hfu3 hnx3 hlenS3 hwp3=>?_)
  · show q2+1000 * 1≤5000
    omega
  obtain⟨l3,q3,rfl,hl3,hq3,hc3,hb3,hv3⟩:=hrun3
  obtain⟨_,rfl,hf3⟩:2=2∧x=1∧γ3.2=0:=by
    rcases hv3 with ⟨h,_⟩|h
    · exact absurd (show (2:Nat)=1 from h) (by decide)
    · exact h
  have e1:((1:UInt64) != 0)=true:=rfl
  simp only [e1]
  ((try simp only [go_sem]);with_reducible refine hK _ _ _ _ ?_;clear hK K)
  refine viaL ?_
  refine Goes.retG rfl (by simp (disch:=(first|omega|(simp only [heapL_next,List.length_cons,List.length_nil,List.size_toArray,geo_len]<;>omega)|fail)) only [go_sem,resA,res1A,Try.results68]<;>rfl) ?_
  exact⟨rfl,rfl,hf3,l3,q3,rfl,hl3,by omega,hc3⟩
theorem csBody {a:UInt64} (ha:a≠0) {l:List (Option Blk)} {q:Nat} {S:St} {γ:Option (Nat × Nat) × Nat} {me:Int} {st ask gr qt:Nat} (hwp:S[3]?=some (.wp me st ask gr qt)) (hl:l.length≤q) (hq:q≤2900) (hc:CsL 0 false l) (hf:γ.2=2) :
    BodyRuns (csP a) 2 3 67 #[] #[.pointer (some ⟨0,0,none⟩),.pointer (some ⟨1,0,none⟩),.pointer (some ⟨2,0,none⟩)] (heapJ l q []) S γ:=by
  refine⟨Try.f67,_,Try.func67,rfl,rfl,GE.go ?_⟩
  show Goes OF _ _ (.run [.code _] ((#[Value.iface 99 (hndV 3),.pointer (some ⟨0,0,none⟩),.pointer (some ⟨1,0,none⟩),.pointer (some ⟨2,0,none⟩)]:Array Value).toList++List.replicate (Try.f67.ntmps - (#[Value.iface 99 (hndV 3),.pointer (some ⟨0,0,none⟩),.pointer (some ⟨1,0,none⟩),.pointer (some ⟨2,0,none⟩)]:Array Value).size) undef) _ _)
  rw [Try.ntmps67];simp only [List.size_toArray,List.length_cons,List.length_nil,List.replicate,List.cons_append,List.nil_append]
  have h0:=hc.g
  have l0:0<q:=by have:=(List.getElem?_eq_some_iff.1 hc.g).1;omega
  refine viaF h0 ?_
  (refine qg1 rfl rfl fun K hK=>?_;simp (disch:=(first|omega|(simp only [sz]<;>omega)|fail)) only [go_sem])
  refine (csSteal (γ:=(γ,S)) ha rfl hwp hl hq hc hf).mono fun v h1 S1 γ1 ⟨e1,e2,e3,l1,q1,e4,e5,e6,e7⟩=>?_
  subst e1 e4
  ((try simp only [go_sem]);with_reducible refine hK _ _ _ _ ?_;clear hK K)
  have g1:=e7.u
  have g2:=e7.b
  have k2:=(List.getElem?_eq_some_iff.1 e7.b).1
  repeat ((first|refine qv1 rfl rfl rfl fun K hK=>?_|refine qv3 rfl rfl rfl fun K hK=>?_|refine qv2 rfl rfl rfl rfl rfl rfl fun K hK=>?_|refine qv4 rfl rfl rfl rfl rfl rfl fun K hK=>?_);simp (disch:=(first|omega|(simp only [sz]<;>omega)|fail)) only [go_sem];with_reducible refine hK _ _ ?_;clear hK K)
  ((first|refine qn1 rfl rfl rfl fun K hK=>?_|refine qn3 rfl rfl rfl fun K hK=>?_|refine qt1 rfl rfl rfl fun K hK=>?_|refine qt3 rfl rfl rfl fun K hK=>?_);simp (disch:=(first|omega|(simp only [sz]<;>omega)|fail)) only [go_sem,g1];with_reducible refine hK _ _ ?_;clear hK K)
  refine At.named fun l2 hl2=>?_
  have n0:=named_ne hl2 e7.g (by decide)
  have n1:=named_eq hl2 (by omega)
  have n2:=named_ne hl2 e7.b (by decide)
  have nl:=named_len hl2
  ((first|refine qn1 rfl rfl rfl fun K hK=>?_|refine qn3 rfl rfl rfl fun K hK=>?_|refine qt1 rfl rfl rfl fun K hK=>?_|refine qt3 rfl rfl rfl fun K hK=>?_);simp (disch:=(first|omega|(simp only [sz]<;>omega)|fail)) only [go_sem,n2];with_reducible refine hK _ _ ?_;clear hK K)
  refine At.named fun l3 hl3=>?_
  have m0:=named_ne hl3 n0 (by decide)
  have m1:=named_ne hl3 n1 (by decide)
  have m2:=named_eq hl3 (by omega)
  have ml:=named_len hl3
  refine via ?_
  refine Goes.endG rfl (by simp (disch:=(first|omega|(simp only [heapL_next,List.length_cons,List.length_nil,List.size_toArray,geo_len]<;>omega)|fail)) only [go_sem,resA,res1A,Try.results67]<;>rfl) ?_
  refine⟨_,_,_,rfl,e2,(none,0),⟨l3,q1,rfl,by omega,?_,.inl ⟨rfl,rfl,m0,m1,m2⟩⟩,rfl,fun i hi=>csP_oth hi,e3.symm⟩
  show q1+1000 * 0≤5000
  omega
inductive KP:Ob→Ob→Prop
  | same (o:Ob):KP o o
  | loose {o o':Ob} (h:looseB o=true) (h':looseB o'=true):KP o o'
  | pend {a b c d e f f'}:KP (.thr a b c d e f) (.thr a b c d e f')
theorem KeepC.cons {o o':Ob} {S S':St} (h:KP o o') (H:KeepC S S'):KeepC (o::S) (o'::S'):=by
  refine⟨fun i a b c d e f z=>?_,fun i a b c d e f z=>?_,fun i a b c d e=>?_,fun i c z=>?_⟩
  · cases i with
    | zero =>
      simp only [List.getElem?_cons_zero,Option.some.injEq] at z ⊢
      subst z
      cases h with
      | same=>exact⟨f,rfl⟩
      | loose h h'=>cases h'
      | pend=>exact⟨_,rfl⟩
    | succ i=>exact H.thr i a b c d e f z
  · cases i with
    | zero =>
      simp only [List.getElem?_cons_zero,Option.some.injEq] at z ⊢
      subst z
      cases h with
      | same=>exact⟨f,rfl⟩
      | loose h h'=>cases h
      | pend=>exact⟨_,rfl⟩
    | succ i=>exact H.thr' i a b c d e f z
  · cases i with
    | zero =>
      simp only [List.getElem?_cons_zero,Option.some.injEq]
      cases h with
      | same=>exact Iff.rfl
      | loose h h'=>constructor<;>(intro z;subst z;first|cases h'|cases h)
      | pend=>constructor<;>(intro z;cases z)
    | succ i=>exact H.wp i a b c d e
  · cases i with
    | zero =>
      simp only [List.getElem?_cons_zero,Option.some.injEq] at z ⊢
      subst z
      cases h with
      | same=>rfl
      | loose h h'=>cases h
    | succ i=>exact H.box i c z
theorem KeepC.more {o':Ob} {S':St} (h:looseB o'=true) (H:KeepC [] S'):KeepC [] (o'::S'):=by
  refine⟨fun i a b c d e f z=>?_,fun i a b c d e f z=>(nil_at z).elim,fun i a b c d e=>?_,fun i c z=>(nil_at z).elim⟩
  · cases i with
    | zero=>simp only [List.getElem?_cons_zero,Option.some.injEq] at z;subst z;cases h
    | succ i=>exact H.thr i a b c d e f z
  · cases i with
    | zero =>
      constructor
      · intro z;simp only [List.getElem?_cons_zero,Option.some.injEq] at z;subst z;cases h
      · intro z;exact (nil_at z).elim
    | succ i =>
      constructor
      · intro z;exact ((nil_at ((H.wp i a b c d e).1 z))).elim
      · intro z;exact (nil_at z).elim
theorem Idle.nil:Idle []:=fun _ _ _ _ _ _ _ h=>(nil_at h).elim
theorem Idle.cons {o:Ob} {S:St} (h:∀ a b c d e f,o=.thr a b c d e f→d=false) (H:Idle S):Idle (o::S):=fun k a b c d e f z=>by
  cases k with
  | zero=>simp only [List.getElem?_cons_zero,Option.some.injEq] at z;exact h _ _ _ _ _ _ z
  | succ i=>exact H i a b c d e f z
theorem uni_all {hs hs2:AHeap}:uniH hs hs hs2=hs2:=by
  refine ah_ext (fun n=>?_) rfl
  show (match hs2.get n with|some b=>some b|none=>if (hs.get n).isSome then none else hs.get n)=hs2.get n
  cases h2:hs2.get n with
  | some b=>rfl
  | none =>
    simp only
    cases h:hs.get n<;>simp
theorem LendH.all (hs:AHeap):LendH hs hs:=⟨fun _ _ h=>h,rfl,fun _ _ _ _ _ h2 h3=>by rw [h2] at h3;cases h3⟩
section
variable {P:Program} {σ:Type} {X:Face P σ} {fn:Func} {A:Conf σ→Prop} {ops:Array Oper} {k:List Item} {i:Nat} {tmps:List Value} {S:σ} {l:List (Option Blk)}
theorem At.list (hk:∀ lf:List (Option Blk),lf.length=l.length→Ge l lf→At X fn A ops k i tmps (heapJ lf l.length []) S):At X fn A ops k i tmps (heapL l) S:=by
  rw [gap_of];exact hk l rfl (Ge.refl l)
theorem Goes.list {todo:List Item} (hk:∀ lf:List (Option Blk),lf.length=l.length→Ge l lf→Goes X fn A (.run todo tmps (heapJ lf l.length []) S)):Goes X fn A (.run todo tmps (heapL l) S):=by
  rw [gap_of];exact hk l rfl (Ge.refl l)
end
def LawRuns {Γ:Type} (Pr:Proto Γ) (f:FuncId) (args:Array Value) (l:List Blk) (γ:Γ):Prop :=
  ∃ g c,Try.prog.funcs[f]?=some g∧g.body=some c∧GE MF (SpM Pr) g (fun c γ'=>∃ h1 S1,c=.done (.bool true) h1 S1∧KeepC γ'.2 S1∧Idle S1) (.run (enterL g c args).1 (enterL g c args).2 (heapL (l.map some)) []) (γ,[])
theorem LawRuns.mk {Γ:Type} {Pr:Proto Γ} {f:FuncId} {g:Func} {c:Code} {args:Array Value} {l:List Blk} {γ:Γ} (hf:Try.prog.funcs[f]?=some g) (hb:g.body=some c)
    (hrun:Goes MF g (fun x=>GE MF (SpM Pr) g (fun c γ'=>∃ h1 S1,c=.done (.bool true) h1 S1∧KeepC γ'.2 S1∧Idle S1) x (γ,[])) (.run [.code c] (args.toList++List.replicate (g.ntmps - args.size) undef) (heapL (l.map some)) [])):LawRuns Pr f args l γ:=⟨g,c,hf,hb,GE.go hrun⟩
theorem Goes.endL {Γ:Type} {Pr:Proto Γ} {fn:Func} {γ:Γ × St} {todo:List Item} {tmps:List Value} {h:AHeap} {S:St} (ht:retB todo=true) (hv:resA Try.prog fn tmps h=some (.bool true)) (hk:KeepC γ.2 S) (hi:Idle S) :
    Goes MF fn (fun x=>GE MF (SpM Pr) fn (fun c γ'=>∃ h1 S1,c=.done (.bool true) h1 S1∧KeepC γ'.2 S1∧Idle S1) x γ) (.run todo tmps h S):=Goes.endG ht hv ⟨h,S,rfl,hk,hi⟩
theorem LawRuns.runs {Γ:Type} {Pr:Proto Γ} {f:FuncId} {fg:Func} {t:Tmp} {args:Array Value} {γ:Γ} (L:LawRuns Pr f args [] γ) (hf:Try.prog.funcs[f]?=some fg) (hr:fg.results=#[.tmp t]) (hi:Try.prog.inits.idxOf? f=none) (ha:args.all plainB=true) (W:World) :
    ∃ M last o w' t',runNT Try.prog (M+1) (solo (Go.Conc.G (Frame.enter Try.prog f args .normal) []) W) #[]=(.ended o w',t')∧runN Try.prog M (solo (Go.Conc.G (Frame.enter Try.prog f args .normal) []) W)=.next last ∧
      step Try.prog last=.ended o w'∧Conc.Good Try.prog (fun v w'=>v=.bool true∧Go.RowKit.Below W.heap.size W w') last o w' t':=by
  obtain⟨g,c,h1,h2,G⟩:=L
  rw [hf] at h1
  cases h1
  have hg0:∀ n b,(heapL (([]:List Blk).map some)).get n=some b→False:=fun n b hb=>by simp [heapL] at hb
  have h:=law_runs (F:=idE) (w00:=W) hf h2 hr hi ⟨fun n b hb=>(hg0 n b hb).elim,fun n m b c hb=>(hg0 n b hb).elim⟩ (heapL_low _) (by simp [heapL]) (fun n b hb=>(hg0 n b hb).elim) (fun u hu=>Stab.plain (by
    obtain⟨i,hi,rfl⟩:=Array.mem_iff_getElem.1 hu
    exact Array.all_eq_true.1 ha i hi)) (fun n b hb=>(hg0 n b hb).elim) G
  rw [plain_args idE ha] at h
  exact h
def kX (u v:UInt64):List UInt64:=wC 43 ((List.replicate 12 (0,0)).set 3 (u,v)) 504
theorem kX_zero:List.replicate (gb 1 3 19) 0=kX 0 0:=by kernel_rfl
theorem kX_at (u v:UInt64):((List.replicate 12 ((0:UInt64),(0:UInt64))).set 3 (u,v))[3]?=some (u,v):=by simp
theorem kX_put (u v item:UInt64):cPut (kX u v) 49 50 item=((rPut (u,v) item).2.1,(rPut (u,v) item).2.2,kX (rPut (u,v) item).1.1 (rPut (u,v) item).1.2):=by
  unfold kX
  rw [cPut_wC (kX_at u v) (by decide) (by decide),List.set_set]
theorem kX_steal (u v:UInt64):cSteal (kX u v) 49 50=((rTake (u,v)).2.1,(rTake (u,v)).2.1 != 0,(rTake (u,v)).2.2,kX (rTake (u,v)).1.1 (rTake (u,v)).1.2):=by
  unfold kX
  rw [cSteal_wC (kX_at u v) (by decide) (by decide),List.set_set]
theorem kp1 {a:UInt64} (ha:a≠0):cPut (kX 0 0) 49 50 a=(true,1,kX a 0):=by rw [kX_put];simp [rPut,ha]
theorem kp2 {a b:UInt64} (ha:a≠0) (hb:b≠0):cPut (kX a 0) 49 50 b=(true,2,kX a b):=by rw [kX_put];simp [rPut,ha,hb]
theorem ks1 {a b:UInt64} (ha:a≠0):cSteal (kX a b) 49 50=(a,true,2,kX 0 b):=by rw [kX_steal];simp [rTake,ha]
theorem ks2 {b:UInt64} (hb:b≠0):cSteal (kX 0 b) 49 50=(b,true,3,kX 0 0):=by rw [kX_steal];simp [rTake,hb]
theorem ks3:cSteal (kX 0 0) 49 50=(0,false,2,kX 0 0):=by rw [kX_steal];simp [rTake]
theorem stn:(∀ S p m me st ws bs,accS S p m me st ws bs=(S.set p (.port m me st)).set m (.mem ws bs))∧(∀ (a:Ob) l,(a::l).length=l.length+1)∧([]:St).length=0∧(∀ (a:Ob) l l',a::l++l'=a::(l++l'))∧(∀ l:St,[]++l=l)∧(∀ (a b:Ob) l,(a::l).set 0 b=b::l)∧(∀ (a b:Ob) l n,(a::l).set (n+1) b=a::l.set n b)∧(∀ l l':St,(l++l').length=l.length+l'.length)∧(∀ (l:St) n b,(l.set n b).length=l.length) :=
  ⟨fun _ _ _ _ _ _ _=>rfl,fun _ _=>rfl,rfl,fun _ _ _=>rfl,fun _=>rfl,fun _ _ _=>rfl,fun _ _ _ _=>rfl,fun _ _=>List.length_append,fun _ _ _=>List.length_set⟩
theorem kX_w (u v:UInt64):wAt (kX u v) 49=some u:=by
  have:=wC_at (a:=43) (b:=504) (flat_get0 (kX_at u v))
  exact this
theorem kX_set (u v x:UInt64):(kX u v).set 49 x=kX x v:=by
  have:=wC_set0 (a:=43) (b:=504) (kX_at u v) x
  unfold kX
  rw [List.set_set] at this
  exact this
theorem kX_l (u v A:UInt64):wT 1 49 A (kX u v)=u:=by unfold wT;rw [kX_w];rfl
theorem kX_ls (u v A B:UInt64):wS 1 49 A B (kX u v)=kX u v:=wS_load
theorem kX_c (u v:UInt64):wT 3 49 u (kX u v)=1:=by unfold wT;rw [kX_w];simp [kTold]
theorem kX_cs (u v x:UInt64):wS 3 49 u x (kX u v)=kX x v:=by
  unfold wS;rw [kX_w]
  have:=kX_set u v x
  simp [kNow,this]
section
variable {a:UInt64} {Q:Value→AHeap→St→CsΓ→Prop} {r:Value} {hs:AHeap} {self:Int} {quit gid dn:Nat} {S:St} {γ1:Option (Nat × Nat) × Nat}
theorem cs_back2 (hf:γ1.2=2) (H:∀ l q w,l.length≤q→q≤3000→CsL 0 false l→l[w]?=some (some csG)→Q r (heapJ l q []) (S.set 2 (.thr self quit false true (some (3,gid,dn)) (some S.length))++[.acc 1 49 0 0]) ((some (1,w),2),S.set 2 (.thr self quit false true (some (3,gid,dn)) (some S.length))++[.acc 1 49 0 0])) :
    BackQ (csP a) Q r hs hs 2 self quit 3 gid dn S γ1:=by
  intro γ2 hs2 hI hfu _ _
  have hfu:γ2.2=γ1.2:=hfu
  rw [hf] at hfu
  rw [uni_all]
  obtain⟨l,q,rfl,h1,h2,h3⟩:=hI
  obtain⟨p,f⟩:=γ2
  have hfu:f=2:=hfu
  subst hfu
  rcases h3 with ⟨_,h,_⟩|⟨⟨w1,w⟩,h4,h5,h6,h7⟩
  · cases h
  · have h4:p=some (w1,w):=h4
    subst h4
    rcases h7 with ⟨h7,_⟩|⟨_,h7⟩
    · have h7:w1=1:=h7
      subst h7
      refine⟨fun q2 hq2=>?_,fun hq2=>by cases hq2⟩
      obtain rfl:(1,w)=q2:=Option.some.inj hq2
      exact H l q w h1 (by have h2:q+1000 * 2≤5000:=h2;omega) h5 h6
    · cases h7
theorem cs_back1 (hf:γ1.2=1) (H:∀ l q w,l.length≤q→q≤4000→CsL 0 false l→l[w]?=some (some csG)→Q r (heapJ l q []) (S.set 2 (.thr self quit false true (some (3,gid,dn)) (some S.length))++[.acc 3 49 a 0]) ((some (2,w),1),S.set 2 (.thr self quit false true (some (3,gid,dn)) (some S.length))++[.acc 3 49 a 0])) :
    BackQ (csP a) Q r hs hs 2 self quit 3 gid dn S γ1:=by
  intro γ2 hs2 hI hfu _ _
  have hfu:γ2.2=γ1.2:=hfu
  rw [hf] at hfu
  rw [uni_all]
  obtain⟨l,q,rfl,h1,h2,h3⟩:=hI
  obtain⟨p,f⟩:=γ2
  have hfu:f=1:=hfu
  subst hfu
  rcases h3 with ⟨_,h,_⟩|⟨⟨w1,w⟩,h4,h5,h6,h7⟩
  · cases h
  · have h4:p=some (w1,w):=h4
    subst h4
    rcases h7 with ⟨_,h7⟩|⟨h7,_⟩
    · cases h7
    · have h7:w1=2:=h7
      subst h7
      refine⟨fun q2 hq2=>?_,fun hq2=>by cases hq2⟩
      obtain rfl:(2,w)=q2:=Option.some.inj hq2
      exact H l q w h1 (by have h2:q+1000 * 1≤5000:=h2;omega) h5 h6
theorem cs_back0 (hf:γ1.2=0) (H:∀ l q,l.length≤q→q≤5000→CsL a true l→Q r (heapJ l q []) (S.set 2 (.thr self quit false false (some (3,gid,dn)) none)) ((none,0),S.set 2 (.thr self quit false false (some (3,gid,dn)) none))) :
    BackQ (csP a) Q r hs hs 2 self quit 3 gid dn S γ1:=by
  intro γ2 hs2 hI hfu _ _
  have hfu:γ2.2=γ1.2:=hfu
  rw [hf] at hfu
  rw [uni_all]
  obtain⟨l,q,rfl,h1,h2,h3⟩:=hI
  obtain⟨p,f⟩:=γ2
  have hfu:f=0:=hfu
  subst hfu
  rcases h3 with ⟨h,_,h5⟩|⟨⟨w1,w⟩,h4,h5,h6,h7⟩
  · have h:p=none:=h
    subst h
    refine⟨fun q2 hq2=>(by cases hq2),fun hq2=>?_⟩
    exact H l q h1 (by have h2:q+1000 * 0≤5000:=h2;omega) h5
  · rcases h7 with ⟨_,h7⟩|⟨_,h7⟩<;>cases h7
end
end Go.Proofs.Ytkjnamhgemidkaa
