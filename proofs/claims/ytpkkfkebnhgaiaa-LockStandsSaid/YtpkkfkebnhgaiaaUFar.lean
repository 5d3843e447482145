/-
  The abstract machine: regions that draw their order, with rows that stay: loads of those may stand anywhere.
  No condition: laws.
-/
import Derived.Test.YtpkkfkebnhgaiaaUCo20
import Derived.Test.YtpkkfkebnhgaiaaUThr54
set_option maxHeartbeats 40000000
set_option linter.unusedVariables false
set_option linter.unusedSimpArgs false
open List renaming getElem?_append_right->qa,replicate->qb,getElem?_eq_some_iff->qd,getElem?_append_left->qe,mem_of_getElem?->qf,getElem?_set_self->qh,getElem?_set_ne->ql,getElem?_eq_getElem->qm,all_eq_true->qn,map_congr_left->qp,range->qs,nodup_cons->qw,getElem?_eq_none->qx,mem_range->qz,length_set->qD,getElem?_replicate->qG,getD->qH,append_nil->qR
open Go.Region renaming ready->qg,schedule->qO
open Option.some renaming injEq->qi
open Go.Op renaming operands->qj
open Nat renaming le_refl->qk,le_of_not_lt->qo,sub_self->qq,lt_trichotomy->qB,le_antisymm->qE,le_of_eq->qJ,add_zero->qK,le_zero->qL,eq_or_lt_of_le->qP
open Array renaming getElem?_eq_some_iff->qr,map_congr_left->qy,replicate->qC,getElem?_eq_getElem->qF,mem_append->qQ
open Go.Region.linearise renaming go->qu
open Bool renaming and_eq_true->qv,or_eq_true->qS
open Go.Call renaming operands->qA
namespace Go.Proofs.Ytpkkfkebnhgaiaa
open Go Go.RowKit
def farA(ns:List Nat)(h:AHeap):AHeap:=⟨fun n=>match ns.elem n with|true=>(h.get n).map (fun b=>{ b with ro:=true })|false=>none,h.next⟩
theorem zpN{ns:List Nat}{h:AHeap}{n:Nat}:(farA ns h).get n=match ns.elem n with|true=>(h.get n).map (fun b=>{ b with ro:=true })|false=>none:=rfl
section
variable {P:Program}{σ:Type}{X:Face P σ}{fn:Func}{A:Conf σ->Prop}{ops:Array Oper}{k:List Item}{i:Nat}{tmps:List Value}{h:AHeap}{S:σ}{o:Oper}
variable {W:List Nat}{n0:Nat}{hf:AHeap}{Kf:List Value->AHeap->σ->Prop}{born:List (Nat × Nat)}
end
attribute [go_sem] zpN List.elem_cons List.elem_nil Option.map_some
attribute [go_sem_proc] Nat.reduceBEq
variable {l ys:List (Option Blk)}
theorem zlU{q:Nat}(h:l.length<=q):zaX l q ys=zaX (l++qb (q - l.length) none++ys) (q+ys.length) []:=by
  refine zkb (fun n=>?_) (by simp[zeS])
  have e:(l++qb (q - l.length) none).length=q:=by simp;omega
  by_cases hn:n<q
  . rw[zik hn,zik (by omega),qe (by omega)]
    by_cases h2:n<l.length
    . rw[qe h2]
    . rw[qa (by omega),qx (by omega),qG]
      split<;>rfl
  . obtain⟨i,rfl⟩:∃i,n=q+i:=⟨n - q,by omega⟩
    rw[ziA];by_cases h3:i<ys.length
    . rw[zik (by omega),qa (by omega),e,Nat.add_sub_cancel_left]
    . rw[qx (by omega)]
      obtain⟨j,rfl⟩:∃j,i=ys.length+j:=⟨i - ys.length,by omega⟩
      rw[<-Nat.add_assoc,ziA];rfl
def Ge(l l':List (Option Blk)):Prop:=∀(n:Nat) (b:Blk),l[n]?=some (some b)->l'[n]?=some (some b)
theorem Ge.refl(l:List (Option Blk)):Ge l l:=fun _ _ h=>h
theorem Ge.trans{l' l'':List (Option Blk)}(h:Ge l l')(h':Ge l' l''):Ge l l'':=fun n b k=>h' n b (h n b k)
theorem Ge.fold(l ys:List (Option Blk))(q:Nat):Ge l (l++qb (q - l.length) none++ys):=by
  intro n b h;have hn:n<l.length:=(qd.1 h).1;rw[List.append_assoc,qe hn];exact h
theorem zoX{q i:Nat}(h:l.length<=q):(l++qb (q - l.length) none++ys)[q+i]?=ys[i]?:=by
  rw[qa (by simp;omega)]
  congr 1;simp;omega
theorem zln{q:Nat}(h:l.length<=q):(l++qb (q - l.length) none++ys).length=q+ys.length:=by simp;omega
section
variable {P:Program}{σ:Type}{X:Face P σ}{fn:Func}{A:Conf σ->Prop}{ops:Array Oper}{k:List Item}{i:Nat}{tmps:List Value}{h:AHeap}{S:σ}{o:Oper}{todo:List Item}
def DoesD(X:Face P σ)(f:FuncId)(args:Array Value)(h:AHeap)(S:σ)(v:Value)(h1:AHeap)(S1:σ):Prop :=
  ∃g c,P.funcs[f]?=some g/\goB g=true/\g.body=some c/\Goes X g (fun x=>x=.done v h1 S1) (.run [.code c] (args.toList++qb (g.ntmps - args.size) undef) h S)
theorem DoesD.mk{f:FuncId}{g:Func}{c:Code}{args:Array Value}{Q:Value->AHeap->σ->Prop}(hf:P.funcs[f]?=some g)(hg:goB g=true)(hb:g.body=some c)(hrun:Goes X g (fun x=>∃v h1 S1,Q v h1 S1/\x=.done v h1 S1) (.run [.code c] (args.toList++qb (g.ntmps - args.size) undef) h S)):∃v h1 S1,Q v h1 S1/\DoesD X f args h S v h1 S1:=by
  obtain⟨c',⟨v,h1,S1,hq,rfl⟩,G⟩:=hrun.out;exact⟨v,h1,S1,hq,g,c,hf,hg,hb,G⟩
variable {W:List Nat}{n0:Nat}{Kf:List Value->AHeap->σ->Prop}{born:List (Nat × Nat)}
variable {hf:AHeap}
variable {l ys:List (Option Blk)}{q:Nat}
theorem At.folds(hl:l.length<=q)(hk:∀lf:List (Option Blk),lf.length=q+ys.length->Ge l lf->(∀i,lf[q+i]?=ys[i]?)->At X fn A ops k i tmps (zaX lf (q+ys.length) []) S):At X fn A ops k i tmps (zaX l q ys) S:=by
  rw[zlU hl];exact hk _ (zln hl) (Ge.fold l ys q) fun i=>zoX hl
theorem Goes.folds(hl:l.length<=q)(hk:∀lf:List (Option Blk),lf.length=q+ys.length->Ge l lf->(∀i,lf[q+i]?=ys[i]?)->Goes X fn A (.run todo tmps (zaX lf (q+ys.length) []) S)):Goes X fn A (.run todo tmps (zaX l q ys) S):=by
  rw[zlU hl];exact hk _ (zln hl) (Ge.fold l ys q) fun i=>zoX hl
end
end Go.Proofs.Ytpkkfkebnhgaiaa
namespace Go.Proofs.Ytpkkfkebnhgaiaa
open Go Go.Conc
open Go.RowKit
variable {h:AHeap}{S S':St}{n q q' j gr qt x2 q1:Nat}
section
variable {Γ:Type}(Pr:Proto Γ)(k hp:Nat)
def Ask(a:Nat×Int×UInt64×UInt64)(h:AHeap)(S:St)(γ:Γ×St)(Q:UInt64->AHeap->St->Γ×St->Prop):Prop :=
  SpB Pr k hp 75 #[hndV hp,accQ a] h S γ (fun v h1 S1 γ'=>∃x:UInt64,v=.int .u64 (x.toNat:Int)/\Q x h1 S1 γ')
variable {Pr k hp}
theorem SpB.mono{f:FuncId}{args:Array Value}{γ:Γ×St}{Q Q':Value->AHeap->St->Γ×St->Prop}(H:SpB Pr k hp f args h S γ Q)(hq:∀v h1 S1 γ',Q v h1 S1 γ'->Q' v h1 S1 γ'):SpB Pr k hp f args h S γ Q':=by
  obtain⟨γ1,q,wself,steps,ask,grant,quit,a1,a2,a3,a4,a5,a6,a7,a8,a9⟩:=H;exact⟨γ1,q,wself,steps,ask,grant,quit,a1,a2,a3,a4,a5,a6,a7,a8,fun v h1 γ2 S1 b1 b2 b3 b4 b5=>hq _ _ _ _ (a9 v h1 γ2 S1 b1 b2 b3 b4 b5)⟩
theorem Ask.mono{a:Nat×Int×UInt64×UInt64}{γ:Γ×St}{Q Q':UInt64->AHeap->St->Γ×St->Prop}(H:Ask Pr k hp a h S γ Q)(hq:∀v h1 S1 γ',Q v h1 S1 γ'->Q' v h1 S1 γ'):Ask Pr k hp a h S γ Q' :=
  SpB.mono H fun _ _ _ _ ⟨x,e,q⟩=>⟨x,e,hq _ _ _ _ q⟩
theorem Ask.mk{a:Nat×Int×UInt64×UInt64}{γ:Γ×St}{Q:UInt64->AHeap->St->Γ×St->Prop}(γ1:Γ)(q:Pr.Ph){wself:Int}{steps ask grant quit:Nat}(hacc:Pr.acc q=a)(hS:S=γ.2)(hwp:S[hp]?=some (.wp wself steps ask grant quit))(hI:Pr.Inv γ1 h S)(hph:Pr.ph γ1 k=some q)(ho:∀i,i≠k->Pr.ph γ1 i=Pr.ph γ.1 i)(hf:Pr.FC γ1 γ.1)(hQ:∀(v:UInt64) (h1:AHeap) (γ2:Γ) (S1:St),Pr.Run k q v γ2 h1 S1->Pr.fuel γ2<Pr.fuel γ1->h.next<=h1.next->S.length<=S1.length->S1[hp]?=some (.wp wself (steps+1) ask grant quit)->Q v h1 S1 (γ2,S1)):Ask Pr k hp a h S γ Q:=by
  subst hacc;exact⟨γ1,q,wself,steps,ask,grant,quit,rfl,rfl,hS,hwp,hI,hph,ho,hf,fun v h1 γ2 S1 b1 b2 b3 b4 b5=>⟨v,rfl,hQ v h1 γ2 S1 b1 b2 b3 b4 b5⟩⟩
theorem zrt{n:Int}{γ:Γ×St}{Q:Value->AHeap->St->Γ×St->Prop}(H:Ask Pr k hp (1,n,0,0) h S γ fun x h1 S1 γ'=>Q (.int .u64 (x.toNat:Int)) h1 S1 γ'):Runs OF (SpB Pr k hp) 69 #[hndV hp,.int .i64 n] h S γ Q:=by
  refine Runs.mk Try.func69 rfl rfl ?_;rw[Try.ntmps69];simp only[zSt,zLc,zLn,qb,zCa,zNa];refine via ?_;(refine qs1 rfl rfl fun K hK=>?_;simp (disch:=(first|omega|(simp only[sz]<;>omega)|fail)) only [go_sem])
  refine SpB.mono H fun v h1 S1 γ' ⟨x,e,hq⟩=>?_;subst e
  ((try simp only[go_sem]);with_reducible refine hK _ _ _ _ ?_;clear hK K)
  refine via ?_;refine Goes.retG rfl (by simp (disch:=(first|omega|(simp only[zaa,zLc,zLn,zSt,zaf]<;>omega)|fail)) only [go_sem,resA,zaK,Try.results69]<;>rfl) ?_
  exact hq
theorem zq8{n:Int}{A B:UInt64}{γ:Γ×St}{Q:Value->AHeap->St->Γ×St->Prop}(H:Ask Pr k hp (3,n,A,B) h S γ fun x h1 S1 γ'=>Q (.bool (x != 0)) h1 S1 γ'):Runs OF (SpB Pr k hp) 67 #[hndV hp,.int .i64 n,.int .u64 (A.toNat:Int),.int .u64 (B.toNat:Int)] h S γ Q:=by
  refine Runs.mk Try.func67 rfl rfl ?_;rw[Try.ntmps67];simp only[zSt,zLc,zLn,qb,zCa,zNa];refine via ?_;(refine qs1 rfl rfl fun K hK=>?_;simp (disch:=(first|omega|(simp only[sz]<;>omega)|fail)) only [go_sem])
  refine SpB.mono H fun v h1 S1 γ' ⟨x,e,hq⟩=>?_;subst e
  ((try simp only[go_sem]);with_reducible refine hK _ _ _ _ ?_;clear hK K)
  have hx:((x.toNat:Int) != 0)=(x != 0):=by
    by_cases e:x=0
    . subst e;rfl
    . have:(x.toNat:Int)≠0:=fun h=>e (UInt64.toNat_inj.1 (by simpa using h))
      exact(bne_iff_ne.2 this).trans (bne_iff_ne.2 e).symm
  refine viaF hx ?_;refine Goes.retG rfl (by simp (disch:=(first|omega|(simp only[zaa,zLc,zLn,zSt,zaf]<;>omega)|fail)) only [go_sem,resA,zaK,Try.results67]<;>rfl) ?_
  exact hq
end
inductive KP:Ob->Ob->Prop
  | same (o:Ob):KP o o
  | loose {o o':Ob} (h:zia o=true) (h':zia o'=true):KP o o'
  | pend {a b c d e f f'}:KP (.thr a b c d e f) (.thr a b c d e f')
variable {o' X:Ob}
theorem KeepC.cons{o:Ob}(h:KP o o')(H:KeepC S S'):KeepC (o::S) (o'::S'):=by
  refine⟨fun i a b c d e f z=>?_,fun i a b c d e f z=>?_,fun i a b c d e=>?_,fun i c z=>?_⟩
  . cases i with
    | zero =>
      simp only[zGz,qi]at z ⊢;subst z;cases h with
      | same=>exact⟨f,rfl⟩
      | loose h h'=>cases h'
      | pend=>exact⟨_,rfl⟩
    | succ i=>exact H.thr i a b c d e f z
  . cases i with
    | zero =>
      simp only[zGz,qi]at z ⊢;subst z;cases h with
      | same=>exact⟨f,rfl⟩
      | loose h h'=>cases h
      | pend=>exact⟨_,rfl⟩
    | succ i=>exact H.thr' i a b c d e f z
  . cases i with
    | zero =>
      simp only[zGz,qi];cases h with
      | same=>exact Iff.rfl
      | loose h h'=>constructor<;>(intro z;subst z;first|cases h'|cases h)
      | pend=>constructor<;>(intro z;cases z)
    | succ i=>exact H.wp i a b c d e
  . cases i with
    | zero =>
      simp only[zGz,qi]at z ⊢;subst z;cases h with
      | same=>rfl
      | loose h h'=>cases h
    | succ i=>exact H.box i c z
theorem KeepC.more(h:zia o'=true)(H:KeepC [] S'):KeepC [] (o'::S'):=by
  refine⟨fun i a b c d e f z=>?_,fun i a b c d e f z=>(zbt z).elim,fun i a b c d e=>?_,fun i c z=>(zbt z).elim⟩
  . cases i with
    | zero=>simp only[zGz,qi]at z;subst z;cases h
    | succ i=>exact H.thr i a b c d e f z
  . cases i with
    | zero =>
      constructor
      . intro z;simp only[zGz,qi]at z;subst z;cases h
      . intro z;exact(zbt z).elim
    | succ i =>
      constructor
      . intro z;exact((zbt ((H.wp i a b c d e).1 z))).elim
      . intro z;exact(zbt z).elim
theorem Idle.nil:Idle []:=fun _ _ _ _ _ _ _ h=>(zbt h).elim
theorem Idle.cons{o:Ob}(h:∀a b c d e f,o=.thr a b c d e f->d=false)(H:Idle S):Idle (o::S):=fun k a b c d e f z=>by
  cases k with
  | zero=>simp only[zGz,qi]at z;exact h _ _ _ _ _ _ z
  | succ i=>exact H i a b c d e f z
theorem znV{hs hs2:AHeap}:uniH hs hs hs2=hs2:=by
  refine zkb (fun n=>?_) rfl;show(match hs2.get n with|some b=>some b|none=>if(hs.get n).isSome then none else hs.get n)=hs2.get n
  cases h2:hs2.get n with
  | some b=>rfl
  | none =>
    simp only;cases h:hs.get n<;>simp
theorem LendH.all(hs:AHeap):LendH hs hs:=⟨fun _ _ h=>h,rfl,fun _ _ _ _ _ h2 h3=>by rw[h2]at h3;cases h3⟩
section
variable {P:Program}{σ:Type}{X:Face P σ}{fn:Func}{A:Conf σ->Prop}{ops:Array Oper}{k:List Item}{i:Nat}{tmps:List Value}{S:σ}{l:List (Option Blk)}
theorem At.list(hk:∀lf:List (Option Blk),lf.length=l.length->Ge l lf->At X fn A ops k i tmps (zaX lf l.length []) S):At X fn A ops k i tmps (zaq l) S:=by
  rw[zq6];exact hk l rfl (Ge.refl l)
theorem Goes.list{todo:List Item}(hk:∀lf:List (Option Blk),lf.length=l.length->Ge l lf->Goes X fn A (.run todo tmps (zaX lf l.length []) S)):Goes X fn A (.run todo tmps (zaq l) S):=by
  rw[zq6];exact hk l rfl (Ge.refl l)
end
def LawRuns{Γ:Type}(Pr:Proto Γ)(f:FuncId)(args:Array Value)(l:List Blk)(γ:Γ):Prop :=
  ∃g c,Try.prog.funcs[f]?=some g/\g.body=some c/\GE MF (SpM Pr) g (fun c γ'=>∃h1 S1,c=.done (.bool true) h1 S1/\KeepC γ'.2 S1/\Idle S1) (.run (zag g c args).1 (zag g c args).2 (zaq (l.map some)) []) (γ,[])
variable {fn:Func}
theorem LawRuns.mk{Γ:Type}{Pr:Proto Γ}{f:FuncId}{g:Func}{c:Code}{args:Array Value}{l:List Blk}{γ:Γ}(hf:Try.prog.funcs[f]?=some g)(hb:g.body=some c)(hrun:Goes MF g (fun x=>GE MF (SpM Pr) g (fun c γ'=>∃h1 S1,c=.done (.bool true) h1 S1/\KeepC γ'.2 S1/\Idle S1) x (γ,[])) (.run [.code c] (args.toList++qb (g.ntmps - args.size) undef) (zaq (l.map some)) [])):LawRuns Pr f args l γ:=⟨g,c,hf,hb,GE.go hrun⟩
theorem Goes.endL{Γ:Type}{Pr:Proto Γ}{γ:Γ×St}{todo:List Item}{tmps:List Value}(ht:retB todo=true)(hv:resA Try.prog fn tmps h=some (.bool true))(hk:KeepC γ.2 S)(hi:Idle S):
    Goes MF fn (fun x=>GE MF (SpM Pr) fn (fun c γ'=>∃h1 S1,c=.done (.bool true) h1 S1/\KeepC γ'.2 S1/\Idle S1) x γ) (.run todo tmps h S):=Goes.endG ht hv ⟨h,S,rfl,hk,hi⟩
theorem LawRuns.runs{Γ:Type}{Pr:Proto Γ}{f:FuncId}{fg:Func}{t:Tmp}{args:Array Value}{γ:Γ}(L:LawRuns Pr f args [] γ)(hf:Try.prog.funcs[f]?=some fg)(hr:fg.results=#[.tmp t])(hi:Try.prog.inits.idxOf? f=none)(ha:args.all zac=true)(W:World):
    ∃M last o w' t',runNT Try.prog (M+1) (solo (Go.Conc.G (Frame.enter Try.prog f args .normal) []) W) #[]=(.ended o w',t')/\runN Try.prog M (solo (Go.Conc.G (Frame.enter Try.prog f args .normal) []) W)=.next last /\
      step Try.prog last=.ended o w'/\Conc.Good Try.prog (fun v w'=>v=.bool true/\Go.RowKit.Below W.heap.size W w') last o w' t':=by
  obtain⟨g,c,h1,h2,G⟩:=L;rw[hf]at h1;cases h1;have hg0:∀n b,(zaq (([]:List Blk).map some)).get n=some b->False:=fun n b hb=>by simp[zaq]at hb
  have h:=zpY (F:=idE) (w00:=W) hf h2 hr hi ⟨fun n b hb=>(hg0 n b hb).elim,fun n m b c hb=>(hg0 n b hb).elim⟩ (zbA _) (by simp[zaq]) (fun n b hb=>(hg0 n b hb).elim) (fun u hu=>Stab.plain (by
    obtain⟨i,hi,rfl⟩:=Array.mem_iff_getElem.1 hu;exact Array.all_eq_true.1 ha i hi)) (fun n b hb=>(hg0 n b hb).elim) G
  rw[zcB idE ha]at h;exact h
variable {P:Program}
theorem zuF{k:Nat}{name:String}{args:Array Value}:zjj P (.iface 49 (hndV k)) name args=(match zbi P 49 name with|some f=>some (f,#[hndV k]++args)|none=>none):=rfl
theorem zuN{k:Nat}{name:String}:zcn P (.func (.method name) #[.iface 49 (hndV k)] #[])=(match zbi P 49 name with|some _=>some (.func (.method name) #[.iface 49 (hndV k)] #[])|none=>none):=rfl
attribute [go_sem] zuF zuN
abbrev Acc4:=Nat×Int×UInt64×UInt64
def ziU(a:Acc4)(ws:List UInt64)(bs:List UInt8):UInt64:=if a.1<=4 then wT a.1 a.2.1 a.2.2.1 ws else if a.1=5 then(bT a.2.1 bs).toUInt64 else 0
def wdsQ(a:Acc4)(ws:List UInt64):List UInt64:=if a.1<=4 then wS a.1 a.2.1 a.2.2.1 a.2.2.2 ws else ws
def bytQ(a:Acc4)(bs:List UInt8):List UInt8:=if a.1=6 then bS a.2.1 a.2.2.1.toUInt8 bs else bs
abbrev Row:=Nat×Blk
def Fr(fr:List Row)(l:List (Option Blk)):Prop:=∀x∈fr,l[x.1]?=some (some x.2)
variable {l l' l1:List (Option Blk)}
theorem Fr.ge{fr:List Row}(h:Fr fr l)(hg:Ge l l'):Fr fr l':=fun x hx=>hg _ _ (h x hx)
variable {b':Option Blk}
theorem Fr.set{fr:List Row}{b:Blk}(h:Fr fr l)(hn:l[n]?=some (some b)){pr:Blk->Bool}(hc:∀x∈fr,pr x.2=false)(hb:pr b=true):Fr fr (l.set n b'):=fun x hx=>by
  by_cases e:n=x.1
  . subst e;have:=h x hx;rw[hn]at this;cases this;rw[hc x hx]at hb;cases hb
  . rw[ql e];exact h x hx
theorem Fr.nil :Fr [] l:=fun _ h=>by cases h
theorem Fr.cons{fr:List Row}{b:Blk}(h:l[n]?=some (some b))(H:Fr fr l):Fr ((n,b)::fr) l:=fun x hx=>by
  rcases List.mem_cons.1 hx with rfl|hx
  . exact h
  . exact H x hx
def zi8(b:Blk):Bool:=b.elem==28 && !b.ro
structure Sys (G P:Type) where
  acc:P->Acc4
  most:Nat
  rank:List UInt64->P->Nat
  hot:Blk->Bool
  inv:G->List UInt64->List UInt8->List (Option P)->List (Option Blk)->Prop
  born:Nat->G->List UInt64->List UInt8->List (Option P)->List (Option Blk)->Prop
  run:Nat->P->UInt64->Nat->G->List UInt64->List UInt8->List (Option P)->List (Option Blk)->Prop
structure PG (G P:Type) where
  g:G
  ks:List Nat
  fr:List Row
  lim:Nat×Nat
  slack:Nat
  pk:Nat->Option (P×Nat×List Row)
  fuel:Nat
abbrev PG.ps{G P:Type}(γ:PG G P):List (Option P):=γ.ks.map fun k=>(γ.pk k).map Prod.fst
def upd1{α:Type}(f:Nat->α)(k:Nat)(y:α):Nat->α:=fun x=>if x=k then y else f x
theorem ze9{α:Type}{f:Nat->α}{k:Nat}{y:α}:upd1 f k y k=y:=if_pos rfl
theorem zfZ{α:Type}{f:Nat->α}{k x:Nat}{y:α}(h:x≠k):upd1 f k y x=f x:=if_neg h
theorem znv{α β:Type}{f:Nat->α}{h:α->β}{k:Nat}{y:α}:∀{ks:List Nat} {i:Nat},ks.Nodup->ks[i]?=some k->(ks.map fun x=>h (upd1 f k y x))=(ks.map fun x=>h (f x)).set i (h y)
  | [],i,_,hi=>by simp at hi
  | a::ks,0,hn,hi=>by
    obtain rfl:a=k:=by simpa using hi
    have hm:=(qw.1 hn).1;simp only[zMp,ze9,List.set_cons_zero,List.cons.injEq,true_and];exact qp fun x hx=>by rw[zfZ fun(e:x=a)=>hm (e▸hx)]
  | a::ks,i+1,hn,hi=>by
    have hi:ks[i]?=some k:=by simpa using hi
    have hne:a≠k:=fun e=>(qw.1 hn).1 (e▸qf hi);simp only[zMp,zfZ hne,List.set_cons_succ,znv (qw.1 hn).2 hi]
theorem zq5{G P:Type}{γ:PG G P}{k i:Nat}{y:Option (P×Nat×List Row)}(hn:γ.ks.Nodup)(hi:γ.ks[i]?=some k)(g:G)(fr:List Row)(lim:Nat×Nat)(sl fu:Nat):(PG.mk g γ.ks fr lim sl (upd1 γ.pk k y) fu).ps=γ.ps.set i (y.map Prod.fst):=znv hn hi
theorem zrN{G P:Type}{γ:PG G P}{k i:Nat}(hi:γ.ks[i]?=some k):γ.ps[i]?=some ((γ.pk k).map Prod.fst):=by simp[PG.ps,hi]
def LIM:Nat:=500000000
theorem zpj:LIM<=500000000:=Nat.le_refl _
section
variable {G P:Type}(U:Sys G P)(pm:Nat)
structure Hd (γ:PG G P) (l:List (Option Blk)) (q:Nat):Prop where
  ll:l.length<=q
  nd:γ.ks.Nodup
  fr:Fr γ.fr l
  cold:∀x∈γ.fr,U.hot x.2=false
  rows:∀k∈γ.ks,∀p,γ.pk k=some p->γ.ks[p.2.1]?=some k/\Fr p.2.2 l/\∀x∈p.2.2,U.hot x.2=false/\zi8 x.2=false
def Sys.pr:Proto (PG G P) where
  Ph:=P×Nat×List Row
  ph γ k:=γ.pk k
  acc q:=U.acc q.1
  fuel γ:=γ.fuel
  Con:=List Nat×List Row×(Nat×Nat)×Nat
  con γ:=(γ.ks,γ.fr,γ.lim,γ.slack)
  Inv γ hs S:=∃l q ws bs,hs=zaX l q []/\Hd U γ l q/\q+1000 * γ.fuel+γ.slack<=LIM/\S[pm]?=some (.mem ws bs)/\U.inv γ.g ws bs γ.ps l/\∀k p,γ.ks[γ.lim.1]?=some k->γ.pk k=some p->U.rank ws p.1<γ.lim.2
  Run k p v γ hs S:=∃l q ws bs R,hs=zaX l q []/\Hd U γ l q/\q+1000 * γ.fuel+γ.slack+1000<=LIM/\S[pm]?=some (.mem ws bs)/\γ.ks[p.2.1]?=some k/\γ.pk k=some p/\γ.lim.1=p.2.1/\R<=γ.lim.2/\U.run p.2.1 p.1 v R γ.g ws bs γ.ps l
structure Sys.Ok:Prop where
  acc:∀p,1<=(U.acc p).1/\(U.acc p).1<=6
  hot:∀b,U.hot b=true->zi8 b=false
  rank:∀{g:G} {ws:List UInt64} {bs:List UInt8} {ps:List (Option P)} {l:List (Option Blk)} {i:Nat} {p:P},U.inv g ws bs ps l->ps[i]?=some (some p)->1<=U.rank ws p/\U.rank ws p<=U.most
  rows:∀{g:G} {ws:List UInt64} {bs:List UInt8} {ps:List (Option P)} {l l':List (Option Blk)},U.inv g ws bs ps l->(∀(n:Nat) (b:Blk),l[n]?=some (some b)->zi8 b=false->l'[n]?=some (some b))->U.inv g ws bs ps l'
  grant:∀{g:G} {ws:List UInt64} {bs:List UInt8} {ps:List (Option P)} {l:List (Option Blk)} {i:Nat} {p:P},U.inv g ws bs ps l->ps[i]?=some (some p)->∃g',U.run i p (ziU (U.acc p) ws bs) (U.rank ws p) g' (wdsQ (U.acc p) ws) (bytQ (U.acc p) bs) ps l
  birth:∀{g:G} {ws:List UInt64} {bs:List UInt8} {ps:List (Option P)} {l:List (Option Blk)},U.inv g ws bs ps l->∃g',U.born ps.length g' ws bs (ps++[none]) l
structure BH (i k hp:Nat) (me:Int) (st R:Nat) (γ:PG G P×St) (l:List (Option Blk)) (q b:Nat) (S:St) (ws:List UInt64) (bs:List UInt8):Prop where
  hS:S=γ.2
  hwp:∃ask gr qt,S[hp]?=some (.wp me st ask gr qt)
  hm:S[pm]?=some (.mem ws bs)
  hk:γ.1.ks[i]?=some k
  hl:γ.1.lim.1=i/\R<=γ.1.lim.2
  hd:Hd U γ.1 l q
  bud:q+1000 * γ.1.fuel+γ.1.slack+b<=LIM
variable {U pm}
theorem Hd.ge{γ:PG G P}(H:Hd U γ l q)(hg:Ge l l')(hl:l'.length<=q'):Hd U γ l' q':=⟨hl,H.nd,H.fr.ge hg,H.cold,fun k hk p hp=>⟨(H.rows k hk p hp).1,(H.rows k hk p hp).2.1.ge hg,(H.rows k hk p hp).2.2⟩⟩
theorem Hd.set{γ:PG G P}{b:Blk}(H:Hd U γ l q)(hn:l[n]?=some (some b))(hb:U.hot b=true):Hd U γ (l.set n b') q :=
  ⟨by rw[qD];exact H.ll,H.nd,H.fr.set hn H.cold hb,H.cold,fun k hk p hp=>⟨(H.rows k hk p hp).1,(H.rows k hk p hp).2.1.set hn (fun x hx=>((H.rows k hk p hp).2.2 x hx).1) hb,(H.rows k hk p hp).2.2⟩⟩
section
variable {i k hp:Nat}{me:Int}{st R:Nat}{γ:PG G P × St}{l:List (Option Blk)}{q b:Nat}{S:St}{ws:List UInt64}{bs:List UInt8}
theorem BH.qle(H:BH U pm i k hp me st R γ l q b S ws bs):q+b<=500000000:=by have:=H.bud;have:=zpj;omega
theorem BH.ll(H:BH U pm i k hp me st R γ l q b S ws bs):l.length<=q:=H.hd.ll
theorem BH.ge(H:BH U pm i k hp me st R γ l q b S ws bs)(hg:Ge l l')(hl:l'.length<=q'){d:Nat}(hq:q'<=q+d)(hd:d<=b):BH U pm i k hp me st R γ l' q' (b - d) S ws bs :=
  ⟨H.hS,H.hwp,H.hm,H.hk,H.hl,H.hd.ge hg hl,by have:=H.bud;omega⟩
theorem BH.set(H:BH U pm i k hp me st R γ l q b S ws bs){c:Blk}{c':Option Blk}(hn:l[n]?=some (some c))(hb:U.hot c=true):BH U pm i k hp me st R γ (l.set n c') q b S ws bs :=
  ⟨H.hS,H.hwp,H.hm,H.hk,H.hl,H.hd.set hn hb,H.bud⟩
theorem BH.less(H:BH U pm i k hp me st R γ l q b S ws bs){b':Nat}(hb:b'<=b):BH U pm i k hp me st R γ l q b' S ws bs:=⟨H.hS,H.hwp,H.hm,H.hk,H.hl,H.hd,by have:=H.bud;omega⟩
theorem BH.lt(H:BH U pm i k hp me st R γ l q b S ws bs):i<γ.1.ps.length:=by
  have:=(qd.1 H.hk).1;simpa[PG.ps] using this
theorem BH.ask{a:Acc4}{Q:UInt64->AHeap->St->PG G P×St->Prop}(H:BH U pm i k hp me st R γ l q b S ws bs)(p:P)(rows:List Row)(g1:G)(hacc:U.acc p=a)(hrow:Fr rows l)(hcold:∀x∈rows,U.hot x.2=false/\zi8 x.2=false)(hinv:U.inv g1 ws bs (γ.1.ps.set i (some p)) l)(hr:U.rank ws p<R)(hQ:∀(v:UInt64) (γ2:PG G P×St) (l2:List (Option Blk)) (q2:Nat) (S2:St) (ws2:List UInt64) (bs2:List UInt8) (R2:Nat),BH U pm i k hp me (st+1) R2 γ2 l2 q2 1000 S2 ws2 bs2->Fr rows l2->γ2.1.ps[i]?=some (some p)->q<=q2->U.run i p v R2 γ2.1.g ws2 bs2 γ2.1.ps l2->Q v (zaX l2 q2 []) S2 γ2):
    Ask (U.pr pm) k hp a (zaX l q []) S γ Q:=by
  obtain⟨ask,gr,qt,hwp⟩:=H.hwp;have hps:=zq5 (y:=some (p,i,rows)) H.hd.nd H.hk g1 γ.1.fr γ.1.lim γ.1.slack γ.1.fuel;refine Ask.mk (Pr:=U.pr pm) (PG.mk g1 γ.1.ks γ.1.fr γ.1.lim γ.1.slack (upd1 γ.1.pk k (some (p,i,rows))) γ.1.fuel) (p,i,rows) hacc H.hS hwp ⟨l,q,ws,bs,rfl,⟨H.hd.ll,H.hd.nd,H.hd.fr,H.hd.cold,fun k' hk' p' hp'=>?_⟩,?_,H.hm,?_,fun k' p' hk' hp'=>?_⟩ ze9 (fun j hj=>zfZ hj) ⟨rfl,rfl⟩ fun v h1 γ2 S1 hrun hfu hnx hlen hwp1=>?_
  . by_cases e:k'=k
    . subst e;have hp':upd1 γ.1.pk k' (some (p,i,rows)) k'=some p':=hp';rw[ze9]at hp';cases hp';exact⟨H.hk,hrow,hcold⟩
    . exact H.hd.rows k' hk' p' ((zfZ e).symm.trans hp')
  . have:=H.bud;show q+1000 * γ.1.fuel+γ.1.slack<=LIM;omega
  . rw[hps];exact hinv
  . have hk':γ.1.ks[γ.1.lim.1]?=some k':=hk';rw[H.hl.1,H.hk]at hk';cases hk';have hp':upd1 γ.1.pk k (some (p,i,rows)) k=some p':=hp';rw[ze9]at hp';cases hp';exact Nat.lt_of_lt_of_le hr H.hl.2
  . obtain⟨l2,q2,ws2,bs2,R2,rfl,hd,hbud,hm,hks,hpk,hlim,hR,hrun⟩:=hrun;have hks:γ2.ks[i]?=some k:=hks;have hpk:γ2.pk k=some (p,i,rows):=hpk;have hq:(zaX l q []).next<=(zaX l2 q2 []).next:=hnx;simp only[sz,zLn,qK]at hq;refine hQ v (γ2,S1) l2 q2 S1 ws2 bs2 R2 ⟨rfl,⟨_,_,_,hwp1⟩,hm,hks,⟨hlim,hR⟩,hd,hbud⟩ (hd.rows k (qf hks) _ hpk).2.1 ?_ hq hrun;rw[zrN hks,hpk];rfl
theorem BH.over(H:BH U pm i k hp me st R γ l q b S ws bs)(g1:G)(hinv:U.inv g1 ws bs (γ.1.ps.set i none) l):EndB (U.pr pm) k (zaX l q []) S γ:=by
  have hps:=zq5 (y:=none) H.hd.nd H.hk g1 γ.1.fr γ.1.lim γ.1.slack γ.1.fuel;refine⟨H.hS,PG.mk g1 γ.1.ks γ.1.fr γ.1.lim γ.1.slack (upd1 γ.1.pk k none) γ.1.fuel,⟨l,q,ws,bs,rfl,⟨H.hd.ll,H.hd.nd,H.hd.fr,H.hd.cold,fun k' hk' p' hp'=>?_⟩,?_,H.hm,?_,fun k' p' hk' hp'=>?_⟩,ze9,fun j hj=>zfZ hj,rfl,rfl⟩
  . by_cases e:k'=k
    . subst e;have hp':upd1 γ.1.pk k' none k'=some p':=hp';rw[ze9]at hp';cases hp'
    . exact H.hd.rows k' hk' p' ((zfZ e).symm.trans hp')
  . have:=H.bud;show q+1000 * γ.1.fuel+γ.1.slack<=LIM;omega
  . rw[hps];exact hinv
  . have hk':γ.1.ks[γ.1.lim.1]?=some k':=hk';rw[H.hl.1,H.hk]at hk';cases hk';have hp':upd1 γ.1.pk k none k=some p':=hp';rw[ze9]at hp';cases hp'
end
end
variable {Y L:List Ob}{ws:List UInt64}{bs:List UInt8}{x3 x4:Bool}{x5:Option (Nat × Nat × Nat)}{x6:Option Nat}
section
variable {G P:Type}(U:Sys G P)(pm n0:Nat)(S0:St)
def TAt(S:St)(k:Nat)(me:Nat):Option (P×Nat×List Row)->Prop
  | some p=>n0<=k/\∃(qt hp gid dn pd:Nat) (w:Int) (st ask gr:Nat),n0<=hp/\S[k]?=some (.thr (me:Int) qt false true (some (hp,gid,dn)) (some pd))/\S[pd]?=some (.acc (U.acc p.1).1 (U.acc p.1).2.1 (U.acc p.1).2.2.1 (U.acc p.1).2.2.2)/\S[hp]?=some (.wp w st ask gr qt)
  | none=>n0<=k/\∃(qt:Nat) (cur:Option (Nat×Nat×Nat)),S[k]?=some (.thr (me:Int) qt false false cur none)
structure PI (γ:PG G P×St) (l:List (Option Blk)) (q c:Nat) (S:St) (ws:List UInt64) (bs:List UInt8) (fr:List Row):Prop where
  keep:KeepC γ.2 S
  hm:S[pm]?=some (.mem ws bs)
  inv:U.inv γ.1.g ws bs γ.1.ps l
  ll:l.length<=q
  bud:q+1000 * γ.1.fuel+c<=LIM
  nd:γ.1.ks.Nodup
  frl:Fr fr l
  cold:∀x∈fr,U.hot x.2=false
  rows:∀k∈γ.1.ks,∀p,γ.1.pk k=some p->γ.1.ks[p.2.1]?=some k/\Fr p.2.2 l/\∀x∈p.2.2,U.hot x.2=false/\zi8 x.2=false
  thr:∀(i k:Nat),γ.1.ks[i]?=some k->TAt U n0 S k i (γ.1.pk k)
  out:∀k,k ∉ γ.1.ks->γ.1.pk k=none
  busy:∀(k:Nat) a b c e f,S[k]?=some (.thr a b c true e f)->k∈γ.1.ks
  old:∀j,j<n0->j≠pm->S[j]?=S0[j]?
  pm0:pm<n0
  len:n0<=S.length
variable {U pm n0 S0}
theorem zsp{ks:List Nat}(h:ks.Nodup){i k:Nat}(hi:ks[i]?=some k)(hj:ks[j]?=some k):i=j:=by
  obtain⟨h1,e1⟩:=qd.1 hi;obtain⟨h2,e2⟩:=qd.1 hj;have hpw:=List.pairwise_iff_getElem.1 (List.nodup_iff_pairwise_ne.1 h);rcases qB i j with hlt|rfl|hlt
  . exact absurd (e1.trans e2.symm) (hpw i j h1 h2 hlt)
  . rfl
  . exact absurd (e2.trans e1.symm) (hpw j i h2 h1 hlt)
theorem set_at{k:Nat}{o:Ob}(h:S[j]?=some o)(hne:k≠j):(S.set k o')[j]?=some o:=by rw[ql hne];exact h
theorem zc0{o:Ob}(h:S[j]?=some o):(S++Y)[j]?=some o:=by rw[qe (zaG h)];exact h
theorem zkx(h:j<S.length):(S++Y)[j]?=S[j]?:=qe h
structure zpJ (S S':St) (a b:Nat):Prop where
  thr:∀(k:Nat) x1 x2 x3 x4 x5 x6,k≠a->k≠b->S[k]?=some (.thr x1 x2 x3 x4 x5 x6)->S'[k]?=some (.thr x1 x2 x3 x4 x5 x6)
  acc:∀(k:Nat) x1 x2 x3 x4,S[k]?=some (.acc x1 x2 x3 x4)->S'[k]?=some (.acc x1 x2 x3 x4)
  wp:∀(k:Nat) x1 x2 x3 x4 x5,S[k]?=some (.wp x1 x2 x3 x4 x5)->∃y1 y2 y3 y4,S'[k]?=some (.wp y1 y2 y3 y4 x5)
  thr':∀(k:Nat) x1 x2 x3 x5 x6,k≠a->k≠b->S'[k]?=some (.thr x1 x2 x3 true x5 x6)->S[k]?=some (.thr x1 x2 x3 true x5 x6)
theorem TAt.same{a b k me:Nat}{x:Option (P×Nat×List Row)}(H:TAt U n0 S k me x)(hs:zpJ S S' a b)(ha:k≠a)(hb:k≠b):TAt U n0 S' k me x:=by
  cases x with
  | some p =>
    obtain⟨h0,qt,hp,gid,dn,pd,w,st,ask,gr,h1,h2,h3,h4⟩:=H;obtain⟨y1,y2,y3,y4,h5⟩:=hs.wp _ _ _ _ _ _ h4;exact⟨h0,qt,hp,gid,dn,pd,y1,y2,y3,y4,h1,hs.thr _ _ _ _ _ _ _ ha hb h2,hs.acc _ _ _ _ _ h3,h5⟩
  | none =>
    obtain⟨h0,qt,cur,h2⟩:=H;exact⟨h0,qt,cur,hs.thr _ _ _ _ _ _ _ ha hb h2⟩
theorem zhD{pm hp k:Nat}{W:List UInt64}{Y:List UInt8}{wsf:Int}{st st' ask:Nat}{x1:Int}(hm:S[pm]?=some (.mem ws bs))(h3:S[hp]?=some (.wp wsf st ask gr qt))(h1:S[k]?=some (.thr x1 x2 x3 x4 x5 x6))(hL:∀y∈L,∀a b c d e f,y≠.thr a b c d e f):
    zpJ S ((cntS (S.set pm (.mem W Y)) hp wsf st' ask gr qt).set k X++L) k k/\(∀j o,S[j]?=some o->j≠pm->j≠hp->j≠k->((cntS (S.set pm (.mem W Y)) hp wsf st' ask gr qt).set k X++L)[j]?=some o)/\((cntS (S.set pm (.mem W Y)) hp wsf st' ask gr qt).set k X++L)[pm]?=some (.mem W Y)/\((cntS (S.set pm (.mem W Y)) hp wsf st' ask gr qt).set k X++L)[k]?=some X/\((cntS (S.set pm (.mem W Y)) hp wsf st' ask gr qt).set k X++L)[hp]?=some (.wp wsf st' ask gr qt):=by
  have hpmk:pm≠k:=fun e=>by subst e;rw[hm]at h1;cases h1
  have hpmh:pm≠hp:=fun e=>by subst e;rw[hm]at h3;cases h3
  have hkh:k≠hp:=fun e=>by subst e;rw[h1]at h3;cases h3
  have gen:∀j o,S[j]?=some o->j≠pm->j≠hp->j≠k->((cntS (S.set pm (.mem W Y)) hp wsf st' ask gr qt).set k X++L)[j]?=some o:=fun j o h z1 z2 z3=>zc0 (set_at (set_at (set_at h z1.symm) z2.symm) z3.symm);have lp:=zaG hm;have lk:=zaG h1;have lh:=zaG h3;have g1:((cntS (S.set pm (.mem W Y)) hp wsf st' ask gr qt).set k X++L)[pm]?=some (.mem W Y):=zc0 (set_at (set_at (qh lp) hpmh.symm) hpmk.symm);have g2:((cntS (S.set pm (.mem W Y)) hp wsf st' ask gr qt).set k X++L)[k]?=some X:=zc0 (qh (by simpa using lk))
  have g3:((cntS (S.set pm (.mem W Y)) hp wsf st' ask gr qt).set k X++L)[hp]?=some (.wp wsf st' ask gr qt):=zc0 (set_at (qh (by simpa using lh)) hkh)
  refine⟨⟨fun j _ _ _ _ _ _ z1 _ h=>gen j _ h (fun e=>by subst e;rw[hm]at h;cases h) (fun e=>by subst e;rw[h3]at h;cases h) z1,fun j _ _ _ _ h=>gen j _ h (fun e=>by subst e;rw[hm]at h;cases h) (fun e=>by subst e;rw[h3]at h;cases h) (fun e=>by subst e;rw[h1]at h;cases h),fun j y1 y2 y3 y4 y5 h=>?_,fun j _ _ _ _ _ z1 _ h=>?_⟩,gen,g1,g2,g3⟩
  . by_cases e:j=hp
    . subst e;rw[h3]at h;cases h;exact⟨_,_,_,_,g3⟩
    . exact⟨_,_,_,_,gen j _ h (fun e=>by subst e;rw[hm]at h;cases h) e (fun e=>by subst e;rw[h1]at h;cases h)⟩
  . by_cases hj:j<S.length
    . by_cases e:j=pm
      . subst e;rw[g1]at h;cases h
      by_cases e':j=hp
      . subst e';rw[g3]at h;cases h
      obtain⟨o,ho⟩:∃o,S[j]?=some o:=⟨_,qm hj⟩;rw[gen j o ho e e' z1]at h;rw[ho,h]
    . rw[qa (by simp;omega)]at h
      exact absurd rfl (hL _ (qf h) _ _ _ _ _ _)
theorem PI.grant(ok:U.Ok){γ:PG G P×St}{c:Nat}{fr fr1:List Row}(H:PI U pm n0 S0 γ l q c S ws bs fr){i k:Nat}(hi:γ.1.ks[i]?=some k){p:P×Nat×List Row}(hp:γ.1.pk k=some p)(hfu:2<=γ.1.fuel)(hg:∀(n:Nat) (b:Blk),l[n]?=some (some b)->zi8 b=false->l1[n]?=some (some b))(hl1:l1.length<=q1)(hq1:q1<=q+900)(hfr:Fr fr1 l1)(hcold:∀x∈fr1,U.hot x.2=false)(lim2:Nat)(hlim:U.rank ws p.1<=lim2){Q:Value->AHeap->St->PG G P×St->Prop}(hQ:∀(γ':PG G P×St) (l':List (Option Blk)) (q':Nat) (S':St),PI U pm n0 S0 γ' l' q' c S' (wdsQ (U.acc p.1) ws) (bytQ (U.acc p.1) bs) fr1->γ'.1.ks=γ.1.ks->γ'.1.fuel=γ.1.fuel - 2->(∀j,j≠k->γ'.1.pk j=γ.1.pk j)->(∀p',γ'.1.pk k=some p'->U.rank (wdsQ (U.acc p.1) ws) p'.1<lim2)->q1<=q'->Q (.bool true) (zaX l' q' []) S' γ'):
    SpM (U.pr pm) 28 #[hndV k,.int .u64 ((ziU (U.acc p.1) ws bs).toNat:Int)] (zaX l1 q1 []) (S.set pm (.mem (wdsQ (U.acc p.1) ws) (bytQ (U.acc p.1) bs))) γ Q:=by
  have hmem:=H.thr i k hi;rw[hp]at hmem;obtain⟨hk0,qt,hpp,gid,dn,pd,wsf,st,ask,gr,hhp,h1,h2,h3⟩:=hmem;obtain⟨e1,e2,e3⟩:=H.rows k (qf hi) p hp;have ei:p.2.1=i:=zsp H.nd e1 hi;have hps:γ.1.ps[i]?=some (some p.1):=by rw[zrN hi,hp];rfl
  obtain⟨g',hrun⟩:=ok.grant (ok.rows (l':=l1) H.inv hg) hps;have hpmk:pm≠k:=by have:=H.pm0;omega
  have hpmh:pm≠hpp:=by have:=H.pm0;omega
  have hpmd:pm≠pd:=fun e=>by subst e;rw[H.hm]at h2;cases h2
  have hkh:k≠hpp:=fun e=>by subst e;rw[h1]at h3;cases h3
  have hkd:k≠pd:=fun e=>by subst e;rw[h1]at h2;cases h2
  have hhd:hpp≠pd:=fun e=>by subst e;rw[h2]at h3;cases h3
  obtain⟨W,hW⟩:∃W,W=wdsQ (U.acc p.1) ws:=⟨_,rfl⟩;obtain⟨Y,hY⟩:∃Y,Y=bytQ (U.acc p.1) bs:=⟨_,rfl⟩;rw[<-hW,<-hY]at hrun hQ ⊢;have hlen:pm<S.length:=zaG H.hm;have hm1:(cntS (S.set pm (.mem W Y)) hpp wsf (st+1) ask gr qt)[pm]?=some (.mem W Y):=by
    rw[ql hpmh.symm,qh hlen]
  refine .inr (.inr (.inl ⟨k,hpp,gid,dn,pd,st,ask,gr,qt,(i:Int),wsf,ziU (U.acc p.1) ws bs,p,zaX l1 q1 [],PG.mk g' γ.1.ks fr1 (i,lim2) c γ.1.pk (γ.1.fuel - 2),rfl,rfl,H.keep.trans (KeepC.set H.hm rfl rfl),set_at h1 hpmk,set_at h3 hpmh,hp,LendH.all _,⟨l1,q1,W,Y,U.rank ws p.1,rfl,⟨hl1,H.nd,hfr,hcold,fun k' hk' p' hp'=>?_⟩,?_,hm1,e1,hp,ei.symm,hlim,?_⟩,?_,fun _ _=>rfl,?_⟩))
  . obtain⟨z1,z2,z3⟩:=H.rows k' hk' p' hp';exact⟨z1,fun x hx=>hg _ _ (z2 x hx) (z3 x hx).2,z3⟩
  . have:=H.bud;show q1+1000 * (γ.1.fuel - 2)+c+1000<=LIM;omega
  . rw[ei];exact hrun
  . show γ.1.fuel - 2<γ.1.fuel;omega
  . intro γ2 hs2 hInv hFC hph hnx;obtain⟨l2,q2,ws2,bs2,rfl,hd,hbud,hm2,hinv,hl2⟩:=hInv;obtain⟨hfu2,hcon⟩:=hFC;have hcon:(γ2.ks,γ2.fr,γ2.lim,γ2.slack)=(γ.1.ks,fr1,(i,lim2),c):=hcon;obtain⟨c1,c2,c3,c4⟩:γ2.ks=γ.1.ks/\γ2.fr=fr1/\γ2.lim=(i,lim2)/\γ2.slack=c:=by
      injection hcon with a b;injection b with b d;injection d with d e;exact⟨a,b,d,e⟩
    have hfu2:γ2.fuel=γ.1.fuel - 2:=hfu2;have hph:∀j,j≠k->γ2.pk j=γ.1.pk j:=hph;have hnx:(zaX l1 q1 []).next<=(zaX l2 q2 []).next:=hnx;simp only[sz,zLn,qK]at hnx;rw[hm1]at hm2;cases hm2;rw[znV];have hold:∀(X:Ob) (L:List Ob),(∀y∈L,∀a b c d e f,y≠.thr a b c d e f)->PI U pm n0 S0 (γ2,(cntS (S.set pm (.mem W Y)) hpp wsf (st+1) ask gr qt).set k X++L) l2 q2 c ((cntS (S.set pm (.mem W Y)) hpp wsf (st+1) ask gr qt).set k X++L) W Y fr1\/¬TAt U n0 ((cntS (S.set pm (.mem W Y)) hpp wsf (st+1) ask gr qt).set k X++L) k i (γ2.pk k):=fun X L hL=>by
      obtain⟨s1,s2,s3,s4,s5⟩:=zhD (W:=W) (Y:=Y) (st':=st+1) (X:=X) (L:=L) H.hm h3 h1 hL;by_cases hT:TAt U n0 ((cntS (S.set pm (.mem W Y)) hpp wsf (st+1) ask gr qt).set k X++L) k i (γ2.pk k)
      case neg=>exact .inr hT
      refine .inl ⟨KeepC.refl _,s3,hinv,hd.ll,c4▸hbud,hd.nd,c2▸hd.fr,c2▸hd.cold,hd.rows,fun j k' hk'=>?_,fun k' hk'=>?_,fun k' a b c e f hk'=>?_,fun j hj hjp=>?_,H.pm0,by have:=H.len;simp;omega⟩
      . have hk2:γ2.ks[j]?=some k':=hk';rw[c1]at hk2;clear hk';by_cases e:k'=k
        . subst e;have ej:i=j:=zsp H.nd hi hk2;subst ej;exact hT
        . show TAt U n0 _ k' j (γ2.pk k');rw[hph k' e];exact(H.thr j k' hk2).same s1 e e
      . have hk':k' ∉ γ2.ks:=hk';rw[c1]at hk';show γ2.pk k'=none;rw[hph k' fun e=>hk' (e▸qf hi)];exact H.out k' hk'
      . show k'∈γ2.ks;rw[c1];by_cases e:k'=k
        . subst e;exact qf hi
        . exact H.busy _ _ _ _ _ _ (s1.thr' _ _ _ _ _ _ e e hk')
      . have hjl:j<S.length:=by
          have:=zaG h1;omega
        obtain⟨o,ho⟩:∃o,S[j]?=some o:=⟨_,qm hjl⟩;rw[s2 j o ho hjp (by omega) (by omega),<-ho]
        exact H.old j hj hjp
    refine⟨fun p' hp'=>?_,fun hp'=>?_⟩
    . have hp':γ2.pk k=some p':=hp';obtain⟨s1,s2,s3,s4,s5⟩:=zhD (W:=W) (Y:=Y) (st':=st+1) (X:=.thr (i:Int) qt false true (some (hpp,gid,dn)) (some (cntS (S.set pm (.mem W Y)) hpp wsf (st+1) ask gr qt).length)) (L:=[.acc (U.acc p'.1).1 (U.acc p'.1).2.1 (U.acc p'.1).2.2.1 (U.acc p'.1).2.2.2]) H.hm h3 h1 (by intro y hy;simp at hy;subst hy;intro a b c d e f z;cases z)
      refine hQ _ l2 q2 _ ((hold _ _ (by intro y hy;simp at hy;subst hy;intro a b c d e f z;cases z)).resolve_right fun hn=>hn ?_) c1 hfu2 hph (fun p'' hp''=>?_) hnx
      . rw[hp'];refine⟨hk0,qt,hpp,gid,dn,_,wsf,st+1,ask,gr,hhp,s4,?_,s5⟩;rw[qa (by simp)]
        simp only[qD,qq,zGz];rfl
      . have hp'':γ2.pk k=some p'':=hp'';have:=hl2 k p'' (by rw[c3,c1];exact hi) hp''
        rw[c3]at this;exact this
    . have hp':γ2.pk k=none:=hp';obtain⟨s1,s2,s3,s4,s5⟩:=zhD (W:=W) (Y:=Y) (st':=st+1) (X:=.thr (i:Int) qt false false (some (hpp,gid,dn)) none) (L:=[]) H.hm h3 h1 (by intro y hy;cases hy)
      have hh:=hold (.thr (i:Int) qt false false (some (hpp,gid,dn)) none) [] (by intro y hy;cases hy)
      simp only[qR]at hh s4;refine hQ _ l2 q2 _ (hh.resolve_right fun hn=>hn ?_) c1 hfu2 hph (fun p'' hp''=>?_) hnx
      . rw[hp'];exact⟨hk0,qt,_,s4⟩
      . have hp'':γ2.pk k=some p'':=hp'';rw[hp']at hp'';cases hp''
end
section
variable {G P:Type}{U:Sys G P}{pm n0:Nat}{S0:St}
theorem PI.new{γ:PG G P×St}{c:Nat}{fr:List Row}(H:PI U pm n0 S0 γ l q c S ws bs fr)(me:Int)(qc:Nat):PI U pm n0 S0 (γ.1,S++[.thr me qc false false none none]) l q c (S++[.thr me qc false false none none]) ws bs fr:=by
  have hs:zpJ S (S++[.thr me qc false false none none]) S.length S.length:=by
    refine⟨fun j _ _ _ _ _ _ _ _ h=>zc0 h,fun j _ _ _ _ h=>zc0 h,fun j _ _ _ _ _ h=>⟨_,_,_,_,zc0 h⟩,fun j _ _ _ _ _ h1 _ h=>?_⟩;by_cases hj:j<S.length
    . rw[zkx hj]at h;exact h
    . have:=zaG h;simp at this;omega
  have hlt:∀i k,γ.1.ks[i]?=some k->k<S.length:=fun i k hk=>by
    have:=H.thr i k hk;cases hx:γ.1.pk k with
    | some p=>rw[hx]at this;obtain⟨_,qt,hp,gid,dn,pd,w,st,ask,gr,h1,h2,h3,h4⟩:=this;exact zaG h2
    | none=>rw[hx]at this;obtain⟨_,qt,cur,h2⟩:=this;exact zaG h2
  refine⟨KeepC.refl _,zc0 H.hm,H.inv,H.ll,H.bud,H.nd,H.frl,H.cold,H.rows,fun i k hk=>?_,H.out,fun k a b c e f h=>?_,fun j hj hjp=>?_,H.pm0,by have:=H.len;simp;omega⟩
  . have:=hlt i k hk;exact(H.thr i k hk).same hs (by omega) (by omega)
  . by_cases hj:k<S.length
    . rw[zkx hj]at h;exact H.busy _ _ _ _ _ _ h
    . have hl:=zaG h;rw[qa (by omega)]at h
      obtain e:k - S.length=0:=by simp at hl;omega
      rw[e]at h;cases h
  . rw[zkx (by have:=H.len;omega)];exact H.old j hj hjp
theorem zho{k:Nat}{self:Int}{quit ask gid dn:Nat}{x1:Int}(h1:S[k]?=some (.thr x1 x2 x3 x4 x5 x6))(hL:∀y∈L,∀a b c d e f,y≠.thr a b c d e f):
    zpJ S ((zcK S k self quit ask gr gid dn).set k X++L) k k/\(∀j o,S[j]?=some o->j≠k->((zcK S k self quit ask gr gid dn).set k X++L)[j]?=some o)/\((zcK S k self quit ask gr gid dn).set k X++L)[k]?=some X/\((zcK S k self quit ask gr gid dn).set k X++L)[S.length]?=some (.wp self 0 ask gr quit):=by
  have lk:=zaG h1;have gen:∀j o,S[j]?=some o->j≠k->((zcK S k self quit ask gr gid dn).set k X++L)[j]?=some o:=fun j o h z=>zc0 (set_at (zc0 (zc0 (set_at h z.symm))) z.symm);have g3:((zcK S k self quit ask gr gid dn).set k X++L)[S.length]?=some (.wp self 0 ask gr quit):=zc0 (set_at zfU (by omega))
  refine⟨⟨fun j _ _ _ _ _ _ z1 _ h=>gen j _ h z1,fun j _ _ _ _ h=>gen j _ h (fun e=>by subst e;rw[h1]at h;cases h),fun j y1 y2 y3 y4 y5 h=>⟨_,_,_,_,gen j _ h (fun e=>by subst e;rw[h1]at h;cases h)⟩,fun j _ _ _ _ _ z1 _ h=>?_⟩,gen,zc0 (qh (by simp;omega)),g3⟩
  by_cases hj:j<S.length
  . obtain⟨o,ho⟩:∃o,S[j]?=some o:=⟨_,qm hj⟩;rw[gen j o ho z1]at h;rw[ho,h]
  . by_cases e1:j=S.length
    . subst e1;rw[g3]at h;cases h
    by_cases e2:j=S.length+1
    . subst e2;rw[zc0 (set_at zji (by omega))]at h;cases h
    . rw[qa (by simp;omega)]at h
      exact absurd rfl (hL _ (qf h) _ _ _ _ _ _)
theorem PI.start(ok:U.Ok){γ:PG G P×St}{c:Nat}{fr fr1:List Row}(H:PI U pm n0 S0 γ l q c S ws bs fr){i k:Nat}(hk:S[k]?=some (.thr (i:Int) qt false false none none))(hkn:k ∉ γ.1.ks)(hk0:n0<=k)(hi:i=γ.1.ks.length)(hfu:2<=γ.1.fuel)(hg:∀(n:Nat) (b:Blk),l[n]?=some (some b)->zi8 b=false->l1[n]?=some (some b))(hl1:l1.length<=q1)(hq1:q1<=q+900)(hfr:Fr fr1 l1)(hcold:∀x∈fr1,U.hot x.2=false){fb:Nat}{xs ys:Array Value}{Q:Value->AHeap->St->PG G P×St->Prop}(hbody:∀(hp:Nat) (γ':PG G P×St) (S':St),BH U pm i k hp (i:Int) 0 (U.most+1) γ' l1 q1 1000 S' ws bs->γ'.1.ps.length=i+1->γ'.1.ps[i]?=some none->U.born i γ'.1.g ws bs γ'.1.ps l1->zgF (U.pr pm) k hp fb xs ys (zaX l1 q1 []) S' γ'.1)(hQ:∀(γ':PG G P×St) (l':List (Option Blk)) (q':Nat) (S':St),PI U pm n0 S0 γ' l' q' c S' ws bs fr1->γ'.1.ks=γ.1.ks++[k]->γ'.1.fuel=γ.1.fuel - 2->q1<=q'->Q (.bool true) (zaX l' q' []) S' γ'):
    SpM (U.pr pm) 6 #[hndV k,.func (.func fb) xs ys] (zaX l1 q1 []) S γ Q:=by
  have hpk:=H.out k hkn;have hinv:=ok.rows (l':=l1) H.inv hg;obtain⟨g',hb⟩:=ok.birth hinv;have hpsl:γ.1.ps.length=i:=by simp[PG.ps,hi]
  rw[hpsl]at hb;have hps:∀fr lim sl fu,(PG.mk g' (γ.1.ks++[k]) fr lim sl γ.1.pk fu).ps=γ.1.ps++[none]:=fun fr lim sl fu=>by simp[PG.ps,hpk]
  have hki:(γ.1.ks++[k])[i]?=some k:=by rw[hi,qa (qk _),qq];rfl
  have hnd:(γ.1.ks++[k]).Nodup:=List.nodup_append.2 ⟨H.nd,qw.2 ⟨by simp,List.nodup_nil⟩,fun a ha b hb=>by simp at hb;subst hb;exact fun e=>hkn (e▸ha)⟩
  have hrows:∀k'∈γ.1.ks++[k],∀p,γ.1.pk k'=some p->(γ.1.ks++[k])[p.2.1]?=some k'/\Fr p.2.2 l1/\∀x∈p.2.2,U.hot x.2=false/\zi8 x.2=false:=fun k' hk' p' hp'=>by
    rcases List.mem_append.1 hk' with hk'|hk'
    . obtain⟨z1,z2,z3⟩:=H.rows k' hk' p' hp';exact⟨by rw[qe (qd.1 z1).1];exact z1,fun x hx=>hg _ _ (z2 x hx) (z3 x hx).2,z3⟩
    . obtain rfl:k'=k:=by simpa using hk'
      rw[hpk]at hp';cases hp'
  have hpmk:pm≠k:=by have:=H.pm0;omega
  have hm:∀ask gr gid dn,(zcK S k (i:Int) qt ask gr gid dn)[pm]?=some (.mem ws bs):=fun ask gr gid dn=>zc0 (zc0 (set_at H.hm hpmk.symm));refine .inr (.inl ⟨k,fb,qt,(i:Int),xs,ys,none,zaX l1 q1 [],PG.mk g' (γ.1.ks++[k]) fr1 (i,U.most+1) c γ.1.pk (γ.1.fuel - 2),rfl,rfl,H.keep,hk,LendH.all _,?_,fun _ _=>rfl,fun ask gr gid dn=>?_,fun ask gr gid dn=>?_⟩)
  . show γ.1.fuel - 2<=γ.1.fuel;omega
  . refine hbody S.length (PG.mk g' (γ.1.ks++[k]) fr1 (i,U.most+1) c γ.1.pk (γ.1.fuel - 2),zcK S k (i:Int) qt ask gr gid dn) _ ⟨rfl,⟨_,_,_,zfU⟩,hm ask gr gid dn,hki,⟨rfl,qk _⟩,⟨hl1,hnd,hfr,hcold,hrows⟩,?_⟩ ?_ ?_ ?_
    . have:=H.bud;show q1+1000 * (γ.1.fuel - 2)+c+1000<=LIM;omega
    . show(PG.mk g' (γ.1.ks++[k]) fr1 (i,U.most+1) c γ.1.pk (γ.1.fuel - 2)).ps.length=i+1;rw[hps,List.length_append,hpsl];rfl
    . show(PG.mk g' (γ.1.ks++[k]) fr1 (i,U.most+1) c γ.1.pk (γ.1.fuel - 2)).ps[i]?=some none;rw[hps,qa (qJ hpsl),hpsl,qq];rfl
    . show U.born i g' ws bs (PG.mk g' (γ.1.ks++[k]) fr1 (i,U.most+1) c γ.1.pk (γ.1.fuel - 2)).ps l1;rw[hps];exact hb
  . intro γ2 hs2 hInv hFC hph hnx;obtain⟨l2,q2,ws2,bs2,rfl,hd,hbud,hm2,hinv2,hl2⟩:=hInv;obtain⟨hfu2,hcon⟩:=hFC;have hcon:(γ2.ks,γ2.fr,γ2.lim,γ2.slack)=(γ.1.ks++[k],fr1,(i,U.most+1),c):=hcon;obtain⟨c1,c2,c3,c4⟩:γ2.ks=γ.1.ks++[k]/\γ2.fr=fr1/\γ2.lim=(i,U.most+1)/\γ2.slack=c:=by
      injection hcon with a b;injection b with b d;injection d with d e;exact⟨a,b,d,e⟩
    have hfu2:γ2.fuel=γ.1.fuel - 2:=hfu2;have hph:∀j,j≠k->γ2.pk j=γ.1.pk j:=hph;have hnx:(zaX l1 q1 []).next<=(zaX l2 q2 []).next:=hnx;simp only[sz,zLn,qK]at hnx;rw[hm ask gr gid dn]at hm2;cases hm2;rw[znV];have hold:∀(X:Ob) (L:List Ob),(∀y∈L,∀a b c d e f,y≠.thr a b c d e f)->TAt U n0 ((zcK S k (i:Int) qt ask gr gid dn).set k X++L) k i (γ2.pk k)->PI U pm n0 S0 (γ2,(zcK S k (i:Int) qt ask gr gid dn).set k X++L) l2 q2 c ((zcK S k (i:Int) qt ask gr gid dn).set k X++L) ws bs fr1:=fun X L hL hT=>by
      obtain⟨s1,s2,s3,s4⟩:=zho (self:=(i:Int)) (quit:=qt) (ask:=ask) (gr:=gr) (gid:=gid) (dn:=dn) (X:=X) (L:=L) hk hL;refine⟨KeepC.refl _,s2 _ _ H.hm hpmk,hinv2,hd.ll,c4▸hbud,hd.nd,c2▸hd.fr,c2▸hd.cold,hd.rows,fun j k' hk'=>?_,fun k' hk'=>?_,fun k' a b c e f hk'=>?_,fun j hj hjp=>?_,H.pm0,by have:=H.len;simp;omega⟩
      . have hk2:γ2.ks[j]?=some k':=hk';rw[c1]at hk2;clear hk';by_cases e:k'=k
        . subst e;have ej:i=j:=zsp hnd hki hk2;subst ej;exact hT
        . show TAt U n0 _ k' j (γ2.pk k');rw[hph k' e];have hk3:γ.1.ks[j]?=some k':=by
            by_cases hj:j<γ.1.ks.length
            . rw[qe hj]at hk2;exact hk2
            . have:=(qd.1 hk2).1;simp at this;obtain rfl:j=i:=by omega
              rw[hki]at hk2;exact absurd (Option.some.inj hk2).symm e
          exact(H.thr j k' hk3).same s1 e e
      . have hk':k' ∉ γ2.ks:=hk';rw[c1]at hk';show γ2.pk k'=none;rw[hph k' fun e=>hk' (by simp[e])]
        exact H.out k' fun h=>hk' (by simp[h])
      . show k'∈γ2.ks;rw[c1];by_cases e:k'=k
        . subst e;simp
        . exact List.mem_append_left _ (H.busy _ _ _ _ _ _ (s1.thr' _ _ _ _ _ _ e e hk'))
      . have hjl:j<S.length:=by
          have:=zaG hk;omega
        obtain⟨o,ho⟩:∃o,S[j]?=some o:=⟨_,qm hjl⟩;rw[s2 j o ho (by omega),<-ho]
        exact H.old j hj hjp
    refine⟨fun p' hp'=>?_,fun hp'=>?_⟩
    . have hp':γ2.pk k=some p':=hp';obtain⟨s1,s2,s3,s4⟩:=zho (self:=(i:Int)) (quit:=qt) (ask:=ask) (gr:=gr) (gid:=gid) (dn:=dn) (X:=.thr (i:Int) qt false true (some (S.length,gid,dn)) (some (zcK S k (i:Int) qt ask gr gid dn).length)) (L:=[.acc (U.acc p'.1).1 (U.acc p'.1).2.1 (U.acc p'.1).2.2.1 (U.acc p'.1).2.2.2]) hk (by intro y hy;simp at hy;subst hy;intro a b c d e f z;cases z)
      refine hQ _ l2 q2 _ (hold _ _ (by intro y hy;simp at hy;subst hy;intro a b c d e f z;cases z) ?_) c1 hfu2 hnx
      rw[hp'];have:=zaG hk;refine⟨hk0,qt,S.length,gid,dn,_,(i:Int),0,ask,gr,by omega,s3,?_,s4⟩
      rw[qa (by simp)]
      simp only[qD,qq,zGz];rfl
    . have hp':γ2.pk k=none:=hp';obtain⟨s1,s2,s3,s4⟩:=zho (self:=(i:Int)) (quit:=qt) (ask:=ask) (gr:=gr) (gid:=gid) (dn:=dn) (X:=.thr (i:Int) qt false false (some (S.length,gid,dn)) none) (L:=[]) hk (by intro y hy;cases hy)
      have hh:=hold (.thr (i:Int) qt false false (some (S.length,gid,dn)) none) [] (by intro y hy;cases hy)
      simp only[qR]at hh s3;refine hQ _ l2 q2 _ (hh ?_) c1 hfu2 hnx;rw[hp'];exact⟨hk0,qt,_,s3⟩
end
theorem zqr(a:Acc4){k:Nat}(h:S[k]?=some (.mem ws bs))(h1:1<=a.1)(h6:a.1<=6):∃b,Prim 27 #[hndV k,accV a.1 a.2.1 a.2.2.1 a.2.2.2] S (.tuple #[.int .u64 ((ziU a ws bs).toNat:Int),.bool b]) (S.set k (.mem (wdsQ a ws) (bytQ a bs))):=by
  obtain⟨c,n,A,B⟩:=a;have h1:1<=c:=h1;have h6:c<=6:=h6;by_cases h4:c<=4
  . have e1:ziU (c,n,A,B) ws bs=wT c n A ws:=if_pos h4;have e2:wdsQ (c,n,A,B) ws=wS c n A B ws:=if_pos h4;have e3:bytQ (c,n,A,B) bs=bs:=if_neg (by show ¬c=6;omega)
    rw[e1,e2,e3];exact⟨_,Prim.do' c n A B h h1 h4⟩
  . have e5:c=5\/c=6:=by omega
    rcases e5 with rfl|rfl
    . have e1:((ziU (5,n,A,B) ws bs).toNat:Int)=((bT n bs).toNat:Int):=by
        show(((bT n bs).toUInt64).toNat:Int)=_;rw[UInt8.toNat_toUInt64]
      have e2:wdsQ (5,n,A,B) ws=ws:=rfl;have e3:bytQ (5,n,A,B) bs=bs:=rfl;rw[e1,e2,e3,zfi h];exact⟨_,Prim.dget n A B h⟩
    . have e1:ziU (6,n,A,B) ws bs=0:=rfl;have e2:wdsQ (6,n,A,B) ws=ws:=rfl;have e3:bytQ (6,n,A,B) bs=bS n A.toUInt8 bs:=rfl;rw[e1,e2,e3];exact⟨_,Prim.dput n A B h⟩
theorem GE.wh{Γ:Type}{X:Face Try.prog St}{Sp:SpT Γ}{A:Conf St->Γ×St->Prop}{B:Code}{K:List Item}{tmps:List Value}{γ:Γ×St}(Inv:Nat->List Value->AHeap->St->Γ×St->Prop){m:Nat}(h0:Inv m tmps h S γ)(step:∀m tmps h S γ,(∀m' t' h' S' γ',m'<m->Inv m' t' h' S' γ'->GE X Sp fn A (.run (.inLoop B::K) t' h' S') γ')->Inv m tmps h S γ->Goes X fn (fun c=>GE X Sp fn A c γ) (.run (.code B::.inLoop B::K) tmps h S)):Goes X fn (fun c=>GE X Sp fn A c γ) (.run (.code (.loop B)::K) tmps h S):=by
  refine .ctl rfl ?_;have key:∀n,∀m tmps h S γ,m<n->Inv m tmps h S γ->Goes X fn (fun c=>GE X Sp fn A c γ) (.run (.code B::.inLoop B::K) tmps h S):=by
    intro n
    induction n with
    | zero=>intro m _ _ _ _ hm;omega
    | succ n ih =>
      intro m tmps h S γ hm hI;exact step m tmps h S γ (fun m' t' h' S' γ' hm' hI'=>GE.go (.ctl rfl (ih m' t' h' S' γ' (by omega) hI'))) hI
  exact key (m+1) m tmps h S γ (by omega) h0
theorem Goes.again{Γ:Type}{X:Face Try.prog St}{Sp:SpT Γ}{A:Conf St->Γ×St->Prop}{c:Conf St}{γ:Γ×St}(h:GE X Sp fn A c γ):Goes X fn (fun c=>GE X Sp fn A c γ) c:=.here h
section
variable {G P:Type}{U:Sys G P}{pm n0:Nat}{S0:St}
theorem PI.sub1{γ:PG G P×St}{c d:Nat}{fr:List Row}(H:PI U pm n0 S0 γ l q c S ws bs fr)(hd:d<=c):PI U pm n0 S0 γ l q d S ws bs fr :=
  ⟨H.keep,H.hm,H.inv,H.ll,by have:=H.bud;omega,H.nd,H.frl,H.cold,H.rows,H.thr,H.out,H.busy,H.old,H.pm0,H.len⟩
set_option maxRecDepth 10000 in
theorem znA(ok:U.Ok){γ:PG G P×St}{c:Nat}{fr:List Row}{c0:Nat}(H:PI U pm n0 S0 γ l q c0 S ws bs fr){i k:Nat}(hc0:γ.1.pk k=none->c+1<=c0)(hc1:c<=c0)(hi:γ.1.ks[i]?=some k)(hfu:2<=γ.1.fuel)(lim2:Nat)(hlim:∀p,γ.1.pk k=some p->U.rank ws p.1<=lim2){Q:Value->AHeap->St->PG G P×St->Prop}(hQ:∀(γ':PG G P×St) (l':List (Option Blk)) (q':Nat) (S':St) (ws':List UInt64) (bs':List UInt8),PI U pm n0 S0 γ' l' q' c S' ws' bs' fr->γ'.1.ks=γ.1.ks->γ.1.fuel - 2<=γ'.1.fuel->(∀j,j≠k->γ'.1.pk j=γ.1.pk j)->(∀p',γ'.1.pk k=some p'->U.rank ws' p'.1<lim2)->Q (.tuple #[]) (zaX l' q' []) S' γ'):
    Runs MF (SpM (U.pr pm)) 11 #[hndV pm,hndV k] (zaX l q []) S γ Q:=by
  have hT:=H.thr i k hi;have hql:q<=500000000:=by have:=H.bud;have:=zpj;omega
  cases hp:γ.1.pk k with
  | none =>
    rw[hp]at hT;obtain⟨_,qt,cur,h1⟩:=hT;refine Runs.mk Try.func11 rfl rfl ?_;rw[Try.ntmps11];simp only[zSt,zLc,zLn,qb,zCa,zNa];refine via ?_;((first|refine qp1 rfl rfl fun K hK=>?_|refine qp3 rfl rfl fun K hK=>?_);simp (disch:=(first|omega|(simp only[sz]<;>omega)|fail)) only [go_sem];(first|refine⟨_,_,.idle h1,?_⟩|refine⟨_,_,.com (.idle h1),?_⟩);(try simp only[go_sem]);with_reducible refine hK _ _ ?_;clear hK K)
    refine via ?_;refine Goes.folds H.ll fun lf hlen hge hrow=>?_;refine Goes.retG rfl (by simp (disch:=(first|omega|(simp only[zaa,zLc,zLn,zSt,zaf]<;>omega)|fail)) only [go_sem,resA,zaK,Try.results11]<;>rfl) ?_
    refine hQ _ _ _ _ _ _ ⟨H.keep,H.hm,ok.rows H.inv fun n b h _=>hge n b h,qJ hlen,?_,H.nd,H.frl.ge hge,H.cold,fun k' hk' p' hp'=>⟨(H.rows k' hk' p' hp').1,(H.rows k' hk' p' hp').2.1.ge hge,(H.rows k' hk' p' hp').2.2⟩,H.thr,H.out,H.busy,H.old,H.pm0,H.len⟩ rfl (Nat.sub_le _ _) (fun _ _=>rfl) (fun p' hp'=>?_)
    . have:=H.bud;have:=hc0 hp;simp only[zLc,zLn];omega
    . rw[hp]at hp';cases hp'
  | some p =>
    rw[hp]at hT;obtain⟨_,qt,hpp,gid,dn,pd,wsf,st,ask,gr,hhp,h1,h2,h3⟩:=hT;obtain⟨b,hprim⟩:=zqr (U.acc p.1) H.hm (ok.acc p.1).1 (ok.acc p.1).2;refine Runs.mk Try.func11 rfl rfl ?_;rw[Try.ntmps11];simp only[zSt,zLc,zLn,qb,zCa,zNa];refine via ?_;((first|refine qp1 rfl rfl fun K hK=>?_|refine qp3 rfl rfl fun K hK=>?_);simp (disch:=(first|omega|(simp only[sz]<;>omega)|fail)) only [go_sem];(first|refine⟨_,_,.pend h1 h2,?_⟩|refine⟨_,_,.com (.pend h1 h2),?_⟩);(try simp only[go_sem]);with_reducible refine hK _ _ ?_;clear hK K)
    simp only[accV];refine via ?_;((first|refine qp1 rfl rfl fun K hK=>?_|refine qp3 rfl rfl fun K hK=>?_);simp (disch:=(first|omega|(simp only[sz]<;>omega)|fail)) only [go_sem];(first|refine⟨_,_,hprim,?_⟩|refine⟨_,_,.com (hprim),?_⟩);(try simp only[go_sem]);with_reducible refine hK _ _ ?_;clear hK K)
    refine via ?_;refine At.folds H.ll fun lf hlen hge hrow=>?_;(refine qs1 rfl rfl fun K hK=>?_;simp (disch:=(first|omega|(simp only[sz]<;>omega)|fail)) only [go_sem])
    refine PI.grant ok (H.sub1 hc1) hi hp hfu (fun n b h _=>hge n b h) (qJ hlen) (by simp only[zLc,zLn];omega) (H.frl.ge hge) H.cold lim2 (hlim p hp) fun γ' l' q' S' k1 k2 k3 k4 k5 k6=>?_
    ((try simp only[go_sem]);with_reducible refine hK _ _ _ _ ?_;clear hK K)
    refine via ?_;refine Goes.retG rfl (by simp (disch:=(first|omega|(simp only[zaa,zLc,zLn,zSt,zaf]<;>omega)|fail)) only [go_sem,resA,zaK,Try.results11]<;>rfl) ?_
    exact hQ _ _ _ _ _ _ k1 k2 (by omega) k4 k5
end
end Go.Proofs.Ytpkkfkebnhgaiaa
namespace Go.Proofs.Ytpkkfkebnhgaiaa
open Go Go.RowKit
variable {ws:List UInt64}
theorem ld_w{n:Int}{x:UInt64}(h:wAt ws n=some x):wT 1 n 0 ws=x:=by unfold wT;rw[h];rfl
variable {n N T r:Nat}
theorem ztG{c:Nat}{n:Int}{A B x:UInt64}(h:wAt ws n=some x)(m:Int):wAt (wS c n A B ws) m=if m=n then some (kNow c x A B) else wAt ws m:=by
  have hs:wS c n A B ws=ws.set n.toNat (kNow c x A B):=by unfold wS;rw[h]
  rw[hs];unfold wAt at h ⊢;by_cases hn:n<0
  . rw[if_pos hn]at h;cases h
  rw[if_neg hn]at h;have hlt:=(qd.1 h).1;by_cases e:m=n
  . subst e;rw[if_neg hn,if_pos rfl,qh hlt]
  . rw[if_neg e];by_cases hm:m<0
    . rw[if_pos hm,if_pos hm]
    . rw[if_neg hm,if_neg hm,ql (by omega)]
theorem zi1(hN:1<=N):gb N T (r+1)=gb N T r+gsz N T r:=by rw[zor,if_neg (by omega)]
theorem zop(hN:1<=N)(h:n<gsz N T r):gat N T r n=((gb N T r+n:Nat):Int):=by
  rw[zb6 N T r (by omega) (by rw[zi1 hN];omega)];push_cast;rfl
theorem zgK{N T:Nat}:∀{r r':Nat},r<=r'->gb N T r<=gb N T r'
  | r,0,h=>by
    obtain rfl:r=0:=by omega
    exact qk _
  | r,r'+1,h=>by
    by_cases e:r=r'+1
    . rw[e];exact qk _
    . exact Nat.le_trans (zgK (by omega)) (zss N T r')
theorem zr9{r' n':Nat}(hN:1<=N)(h:n<gsz N T r)(h':n'<gsz N T r')(e:gat N T r n=gat N T r' n'):r=r'/\n=n':=by
  rw[zop hN h,zop hN h']at e;have e1:=zi1 (r:=r) (T:=T) hN;have e2:=zi1 (r:=r') (T:=T) hN;rcases qB r r' with k|k|k
  . have:=zgK (N:=N) (T:=T) (show r+1<=r' from k);omega
  . subst k;exact⟨rfl,by omega⟩
  . have:=zgK (N:=N) (T:=T) (show r'+1<=r from k);omega
def Wd(N T:Nat)(ws:List UInt64)(W:Nat->Nat->UInt64):Prop:=∀r n:Nat,r<19->n<gsz N T r->wAt ws (gat N T r n)=some (W r n)
def up2(W:Nat->Nat->UInt64)(r n:Nat)(v:UInt64):Nat->Nat->UInt64:=fun r' n'=>if r'=r/\n'=n then v else W r' n'
variable {W:Nat->Nat->UInt64}
theorem zps{v:UInt64}:up2 W r n v r n=v:=if_pos ⟨rfl,rfl⟩
theorem Wd.put{N T:Nat}{ws:List UInt64}{W:Nat->Nat->UInt64}(h:Wd N T ws W)(hN:1<=N){r n:Nat}(hr:r<19)(hn:n<gsz N T r)(c:Nat)(A B:UInt64):Wd N T (wS c (gat N T r n) A B ws) (up2 W r n (kNow c (W r n) A B)):=by
  intro r' n' hr' hn';rw[ztG (h r n hr hn)];by_cases e:gat N T r' n'=gat N T r n
  . obtain⟨rfl,rfl⟩:=zr9 hN hn' hn e;rw[if_pos rfl,zps]
  . rw[if_neg e,h r' n' hr' hn'];refine congrArg some (if_neg ?_).symm;rintro⟨rfl,rfl⟩;exact e rfl
theorem Wd.store(h:Wd N T ws W)(hN:1<=N)(hr:r<19)(hn:n<gsz N T r)(A:UInt64):Wd N T (wS 2 (gat N T r n) A 0 ws) (up2 W r n A):=h.put hN hr hn 2 A 0
theorem Wd.cas{N T:Nat}{ws:List UInt64}{W:Nat->Nat->UInt64}(h:Wd N T ws W)(hN:1<=N){r n:Nat}(hr:r<19)(hn:n<gsz N T r){A:UInt64}(hA:W r n=A)(B:UInt64):Wd N T (wS 3 (gat N T r n) A B ws) (up2 W r n B):=by
  have:=h.put hN hr hn 3 A B;rw[hA]at this;simpa only[kNow,if_true] using this
theorem Wd.add(h:Wd N T ws W)(hN:1<=N)(hr:r<19)(hn:n<gsz N T r)(A:UInt64):Wd N T (wS 4 (gat N T r n) A 0 ws) (up2 W r n (W r n+A)):=h.put hN hr hn 4 A 0
theorem Wd.tells(h:Wd N T ws W)(hr:r<19)(hn:n<gsz N T r):wT 1 (gat N T r n) 0 ws=W r n:=ld_w (h r n hr hn)
theorem Wd.zero(hN:1<=N)(h:gb N T 19<=n):Wd N T (qb n 0) (fun _ _=>0):=by
  intro r k hr hk;rw[zop hN hk];have e1:=zi1 (r:=r) (T:=T) hN;have:=zgK (N:=N) (T:=T) (show r+1<=19 by omega)
  unfold wAt;rw[if_neg (by omega)]
  simp only[Int.toNat_natCast];rw[qG,if_pos (by omega)]
theorem Wd.congr{W':Nat->Nat->UInt64}(h:Wd N T ws W)(e:∀r n,r<19->n<gsz N T r->W r n=W' r n):Wd N T ws W':=fun r n hr hn=>by rw[h r n hr hn,e r n hr hn]
end Go.Proofs.Ytpkkfkebnhgaiaa
namespace Go.Proofs.Ytpkkfkebnhgaiaa
open Go Go.Conc
open Go.RowKit
variable {P:Program}{h:AHeap}
theorem ziw{e e':Operand->Value}{h0:AHeap}{op:Op}(h:∀x∈op.operands,e x=e' x):valA P e h0 op=valA P e' h0 op:=by
  cases op with
  | call c =>
    simp only[valA,zlp];have ha:∀x∈c.args.toList,e x=e' x:=fun x hx=>h x (by simp only[qj,qA];(try simp only[qQ]);first|exact .inr (by simpa using hx)|exact .inl (by simpa using hx)|(simpa using hx))
    cases c.callee with
    | builtin b =>
      cases b<;>try rfl
      . rcases hl:c.args.toList with _|⟨x,_|⟨y,l⟩⟩<;>simp only[]<;>rcases c.argTypes.toList with _|⟨t,_|⟨t',l'⟩⟩<;>simp only[]
        rw[ha x (by rw[hl];simp)]
      . rcases hl:c.args.toList with _|⟨x,l⟩<;>simp only[]
        rw[ha x (by rw[hl];simp),qp fun y hy=>ha y (by rw[hl];simp[hy])]
      . rcases hl:c.args.toList with _|⟨x,l⟩<;>simp only[]
        rw[ha x (by rw[hl];simp),qp fun y hy=>ha y (by rw[hl];simp[hy])]
    | _=>rfl
  | build t ps =>
    simp only[valA];have:ps.toList.map (fun p=>(p.1,e p.2))=ps.toList.map (fun p=>(p.1,e' p.2)):=qp fun p hp=>by rw[h p.2 (by simp only[qj];simp;exact⟨p.1,by simpa using hp⟩)]
    rw[this]
  | makeFunc fn xs ys =>
    simp only[valA];have e1:xs.map e=xs.map e':=qy fun x hx=>h x (by simp[qj,hx])
    have e2:ys.map e=ys.map e':=qy fun x hx=>h x (by simp[qj,hx])
    rw[e1,e2]
  | slice t x lo hi mx =>
    simp only[valA];have e1:e x=e' x:=h x (by simp[qj])
    have e2:lo.map e=lo.map e':=by cases lo with|none=>rfl|some a=>exact congrArg some (h a (by simp[qj]))
    have e3:hi.map e=hi.map e':=by cases hi with|none=>rfl|some a=>exact congrArg some (h a (by simp[qj]))
    have e4:mx.map e=mx.map e':=by cases mx with|none=>rfl|some a=>exact congrArg some (h a (by simp[qj]))
    rw[e1,e2,e3,e4]
  | _=>simp only[valA]<;>simp_all [qj]
theorem zff{e e':Operand->Value}{op:Op}(h:∀x∈op.operands,e x=e' x):zaJ P e op=zaJ P e' op:=by
  cases op with
  | call c =>
    have ha:∀x∈c.args,e x=e' x:=fun x hx=>h x (by simp only[qj,qA];(try simp only[qQ]);first|exact .inr hx|exact .inl hx|exact hx)
    obtain⟨callee,args,ats⟩:=c;have hm:args.map e=args.map e':=qy ha;cases callee with
    | value f =>
      have hf:e f=e' f:=h f (by simp[qj,qA])
      simp only[zaJ,hf,hm]
    | invoke r nm =>
      have hf:e r=e' r:=h r (by simp[qj,qA])
      simp only[zaJ,hf,hm]
    | _=>rfl
  | _=>rfl
variable {S:St}{t t0 tm tm':List Value}{vs:Nat->Value}
section
variable {Γ:Type}{X:Face Try.prog St}{Sp:SpT Γ}{fn:Func}{A:Conf St->Γ × St->Prop}{ops:Array Oper}{k:List Item}
inductive Quiet (X:Face Try.prog St) (o:Oper) (e:Operand->Value) (h:AHeap) (S:St) (v:Value):Prop
  | val (hv:valA Try.prog e h o.op=some v)
  | prim (f:FuncId) (g:Func) (args:Array Value) (hca:zaJ Try.prog e o.op=some (f,args)) (hf:Try.prog.funcs[f]?=some g) (hg:goB g=true) (hp:X.prim f args S v S)
  | call (f:FuncId) (args:Array Value) (hca:zaJ Try.prog e o.op=some (f,args)) (D:Does X f args [] S v S)
theorem Quiet.congr{o:Oper}{e e':Operand->Value}{v:Value}(H:Quiet X o e h S v)(he:∀x∈o.op.operands,e x=e' x):Quiet X o e' h S v:=by
  cases H with
  | val hv=>exact .val ((ziw he).symm.trans hv)
  | prim f g args hca hf hg hp=>exact .prim f g args ((zff he).symm.trans hca) hf hg hp
  | call f args hca D=>exact .call f args ((zff he).symm.trans hca) D
theorem Quiet.go{o:Oper}{i:Nat}{rest:List Nat}{tmps:List Value}{v:Value}{B:Conf St->Prop}(H:Quiet X o (evA tmps) h S v)(ho:ops[i]?=some o)(hg:o.guard=none)(hb:o.op.operands.all zaO=true)(hk:Goes X fn B (.run (.inRegion ops rest::k) (putL o.dst v tmps) h S)):Goes X fn B (.run (.inRegion ops (i::rest)::k) tmps h S):=by
  cases H with
  | val hv=>exact .op ho (zcp hg) hb (.inl ⟨hv,rfl,rfl⟩) (.inl rfl) hk
  | prim f g args hca hf hgo hp=>exact .op ho (zcp hg) hb (.inr (.inr (.inr ⟨f,g,args,hca,hf,hgo,hp,rfl⟩))) (.inl rfl) hk
  | call f args hca D =>
    obtain⟨g,c,h1,d1,d2,d3,d4,d5,d6⟩:=D;exact .call f g c args idE idE (zaq []) h1 [] v ho (zcp hg) hb (zhL h1 hca d1 d2 d3 d4 d5) (.inl rfl) d6 hk
inductive PreW (X:Face Try.prog St) (ops:Array Oper) (h:AHeap) (S:St) (Kf:List Value->Prop) (c:Nat):Nat->List Value->Prop
  | nil {tmps} (hk:Kf tmps):PreW X ops h S Kf c c tmps
  | op {i tmps o v} (hi:i<c) (ho:ops[i]?=some o) (hg:o.guard=none) (hb:o.op.operands.all zaO=true) (hq:Quiet X o (evA tmps) h S v) (hk:PreW X ops h S Kf c (i+1) (putL o.dst v tmps)):PreW X ops h S Kf c i tmps
structure WalkT (X:Face Try.prog St) (ops:Array Oper) (h:AHeap) (S:St) (c i:Nat) (vs:Nat->Value) (T:Nat->List Value):Prop where
  step:∀j,i<=j->j<c->∃o,ops[j]?=some o/\o.guard=none/\o.op.operands.all zaO=true/\Quiet X o (evA (T j)) h S (vs j)/\T (j+1)=putL o.dst (vs j) (T j)
theorem PreW.rows{Kf:List Value->Prop}{c i:Nat}{tmps:List Value}(H:PreW X ops h S Kf c i tmps):i<=c/\∃vs T,T i=tmps/\WalkT X ops h S c i vs T/\Kf (T c):=by
  induction H with
  | nil hk=>exact⟨qk _,fun _=>undef,fun _=>_,rfl,⟨fun j h1 h2=>by omega⟩,hk⟩
  | @op i tmps o v hi ho hg hb hq _ ih =>
    obtain⟨_,vs,T,h1,h2,h3⟩:=ih;refine⟨by omega,fun j=>if j=i then v else vs j,fun j=>if j=i then tmps else T j,if_pos rfl,⟨fun j h4 h5=>?_⟩,?_⟩
    . by_cases e:j=i
      . subst e;refine⟨o,ho,hg,hb,?_,?_⟩
        . simp only[if_true];exact hq
        . simp only[if_true];rw[if_neg (by omega)];exact h1
      . obtain⟨o',a1,a2,a3,a4,a5⟩:=h2.step j (by omega) h5
        refine⟨o',a1,a2,a3,?_,?_⟩
        . simp only[if_neg e];exact a4
        . simp only[if_neg e];rw[if_neg (by omega)];exact a5
    . simp only[];rw[if_neg (by omega)];exact h3
def zoJ:Op->Bool
  | .move _=>true
  | _=>false
def zbS(ops:Array Oper)(j:Nat):Option Nat:=(ops[j]?).bind (·.dst)
def zeo(ops:Array Oper)(i:Nat):Nat:=(zar ops.toList []).getD i 0
def tmpB(ops:Array Oper)(c i:Nat)(x:Operand):Bool:=match x with
  | .tmp t=>(qs (c+1)).all fun j=>!(zbS ops j==some t) || ((zeo ops i).testBit j && decide (j<i))
  | _=>true
def znN(ops:Array Oper)(c:Nat):Bool :=
  decide (c<ops.size) && zma ops && (qs ops.size).all fun i=>match ops[i]? with
    | none=>false
    | some o=>(zbX o).all (fun d=>decide (d<i)) && (if i<=c then
        o.op.operands.all (tmpB ops c i) && ((qs i).all fun j=>(zbS ops j).isNone || !(zbS ops j==zbS ops i)) && (i==c || (zeo ops c).testBit i || zoJ o.op)
      else(qs i).all fun j=>(zeo ops i).testBit j)
structure zjr (ops:Array Oper) (c:Nat):Prop where
  lt:c<ops.size
  back:zma ops=true
  dep:∀i o,ops[i]?=some o->∀d∈zbX o,d<i
  tmp:∀i o t,ops[i]?=some o->i<=c->.tmp t∈o.op.operands->∀j,j<=c->zbS ops j=some t->(zeo ops i).testBit j=true/\j<i
  dst:∀i j t,i<=c->j<=c->zbS ops i=some t->zbS ops j=some t->i=j
  anc:∀i o,ops[i]?=some o->i<c->(zeo ops c).testBit i=true\/zoJ o.op=true
  post:∀i o,ops[i]?=some o->c<i->∀j,j<i->(zeo ops i).testBit j=true
theorem zp7{c:Nat}(h:znN ops c=true):zjr ops c:=by
  simp only[znN,qv,decide_eq_true_eq]at h;obtain⟨⟨h0,hbk⟩,h⟩:=h;have key:∀i o,ops[i]?=some o->(zbX o).all (fun d=>decide (d<i))=true/\(if i<=c then
        o.op.operands.all (tmpB ops c i) && ((qs i).all fun j=>(zbS ops j).isNone || !(zbS ops j==zbS ops i)) && (i==c || (zeo ops c).testBit i || zoJ o.op)
      else(qs i).all fun j=>(zeo ops i).testBit j)=true:=fun i o ho=>by
    have:=qn.1 h i (qz.2 (qr.1 ho).1);rw[ho]at this;simpa only[qv] using this
  have kle:∀i o,ops[i]?=some o->i<=c->(o.op.operands.all (tmpB ops c i)=true/\((qs i).all fun j=>(zbS ops j).isNone || !(zbS ops j==zbS ops i))=true)/\(i==c || (zeo ops c).testBit i || zoJ o.op)=true:=fun i o ho hi=>by
    have:=(key i o ho).2;rw[if_pos hi,qv,qv]at this;exact this
  have dd:∀i j t,i<j->j<=c->zbS ops i=some t->zbS ops j=some t->False:=fun i j t hij hj hi hj'=>by
    obtain⟨o,ho⟩:∃o,ops[j]?=some o:=⟨_,qF (by omega)⟩
    have:=qn.1 (kle j o ho hj).1.2 i (qz.2 hij);rw[hi,hj']at this;simp at this
  refine⟨h0,hbk,fun i o ho d hd=>?_,fun i o t ho hi ht j hj hd=>?_,fun i j t hi hj h1 h2=>?_,fun i o ho hi=>?_,fun i o ho hi j hj=>?_⟩
  . simpa using qn.1 (key i o ho).1 d hd
  . have h1:=Array.all_eq_true_iff_forall_mem.1 (kle i o ho hi).1.1 _ ht;simp only[tmpB]at h1;have h2:=qn.1 h1 j (qz.2 (by omega))
    rw[hd]at h2;simpa using h2
  . rcases qB i j with h|h|h
    . exact(dd i j t h hj h1 h2).elim
    . exact h
    . exact(dd j i t h hi h2 h1).elim
  . have:=(kle i o ho (by omega)).2
    simp only[qS,beq_iff_eq]at this;rcases this with(h|h)|h
    . omega
    . exact .inl h
    . exact .inr h
  . have:=(key i o ho).2;rw[if_neg (by omega)]at this
    exact qn.1 this j (qz.2 hj)
structure Ag (ops:Array Oper) (c:Nat) (vs:Nat->Value) (t0:List Value) (l:Nat->Bool) (tm:List Value):Prop where
  len:tm.length=t0.length
  set:∀j x,j<c->l j=true->zbS ops j=some x->x<t0.length->tm.getD x undef=vs j
  old:∀x,(∀j,j<c->zbS ops j=some x->l j=false)->tm.getD x undef=t0.getD x undef
theorem put_len{d:Option Nat}{v:Value}:(putL d v t).length=t.length:=by cases d<;>simp[putL]
theorem ztt{x:Nat}{v:Value}(h:x<t.length):(putL (some x) v t).getD x undef=v:=by simp[putL,qH,h]
theorem zol{d:Option Nat}{x:Nat}{v:Value}(h:d≠some x):(putL d v t).getD x undef=t.getD x undef:=by
  cases d with
  | none=>rfl
  | some y =>
    have:y≠x:=fun e=>h (by rw[e])
    simp[putL,qH,ql this]
theorem Ag.put{c:Nat}{vs:Nat->Value}{t0 tm:List Value}{l:Nat->Bool}{i:Nat}(L:zjr ops c)(H:Ag ops c vs t0 l tm)(hi:i<c)(hl:l i=false):Ag ops c vs t0 (fun j=>l j || j==i) (putL (zbS ops i) (vs i) tm):=by
  refine⟨put_len.trans H.len,fun j x hj hlj hx hxl=>?_,fun x hx=>?_⟩
  . by_cases e:zbS ops i=some x
    . have:i=j:=L.dst i j x (by omega) (by omega) e hx
      subst this;rw[e];exact ztt (by rw[H.len];exact hxl)
    . rw[zol e];simp only[qS,beq_iff_eq]at hlj;rcases hlj with hlj|rfl
      . exact H.set j x hj hlj hx hxl
      . exact absurd hx e
  . by_cases e:zbS ops i=some x
    . have:=hx i hi e;simp at this
    . rw[zol e];refine H.old x fun j hj hd=>?_;have:=hx j hj hd;simp only[Bool.or_eq_false_iff]at this;exact this.1
theorem Ag.ext{c:Nat}{l l':Nat->Bool}(H:Ag ops c vs t0 l tm)(H':Ag ops c vs t0 l' tm')(hl:∀j,j<c->l j=l' j):tm=tm':=by
  refine List.ext_getElem (H.len.trans H'.len.symm) fun x h1 h2=>?_;have hg:∀(t:List Value) (h:x<t.length),t[x]=t.getD x undef:=fun t h=>by simp[qH,h]
  rw[hg tm h1,hg tm' h2];by_cases e:∃j,j<c/\zbS ops j=some x/\l j=true
  . obtain⟨j,a1,a2,a3⟩:=e;rw[H.set j x a1 a3 a2 (by rw[<-H.len];exact h1),H'.set j x a1 (by rw[<-hl j a1];exact a3) a2 (by rw[<-H.len];exact h1)]
  . have e:∀j,j<c->zbS ops j=some x->l j=false:=fun j a1 a2=>by
      cases hj:l j with
      | false=>rfl
      | true=>exact absurd ⟨j,a1,a2,hj⟩ e
    rw[H.old x e,H'.old x fun j a1 a2=>by rw[<-hl j a1];exact e j a1 a2]
theorem Ag.ev{c i:Nat}{l l':Nat->Bool}{o:Oper}(L:zjr ops c)(H:Ag ops c vs t0 l tm)(H':Ag ops c vs t0 l' tm')(ho:ops[i]?=some o)(hi:i<=c)(h1:∀j,(zeo ops i).testBit j=true->l j=true)(h2:∀j,j<i->(zeo ops i).testBit j=true->l' j=true):∀x∈o.op.operands,evA tm x=evA tm' x:=by
  intro x hx;cases x with
  | tmp t =>
    simp only[evA];by_cases hlen:t<t0.length
    . by_cases e:∃j,j<c/\zbS ops j=some t
      . obtain⟨j,a1,a2⟩:=e;obtain⟨b1,b2⟩:=L.tmp i o t ho hi hx j (by omega) a2
        rw[H.set j t a1 (h1 j b1) a2 hlen,H'.set j t a1 (h2 j b2 b1) a2 hlen]
      . rw[H.old t fun j a1 a2=>absurd ⟨j,a1,a2⟩ e,H'.old t fun j a1 a2=>absurd ⟨j,a1,a2⟩ e]
    . have g:∀u:List Value,u.length=t0.length->u.getD t undef=undef:=fun u hu=>by
        have hle:u.length<=t:=by rw[hu];exact qo hlen
        simp[qH,qx hle]
      rw[g tm H.len,g tm' H'.len]
  | _=>rfl
end
variable {l:Array Bool}
section
variable {Γ:Type}{X:Face Try.prog St}{Sp:SpT Γ}{fn:Func}{A:Conf St->Γ × St->Prop}{ops:Array Oper}{k:List Item}{c:Nat}
theorem zbF{i:Nat}(hi:i<l.size)(j:Nat)(b:Bool):(l.setIfInBounds i true).getD j b=if j=i then true else l.getD j b:=by
  by_cases e:j=i
  . subst e;rw[if_pos rfl];simp[hi]
  . rw[if_neg e,getD_set_ne b fun h=>e h.symm]
theorem zke{l:Array Bool}:∀n,zbs l n<=n
  | 0=>qk _
  | n+1=>by rw[zbs];have:=zke (l:=l) n;split<;>omega
theorem zn8{a b:Option Nat}{u v:Value}(h:∀x,a=some x->b=some x->False):putL a u (putL b v t)=putL b v (putL a u t):=by
  cases a with
  | none=>rfl
  | some x=>cases b with
    | none=>rfl
    | some y=>exact List.set_comm _ _ fun e=>h x rfl (by rw[e])
def ClosedD(ops:Array Oper)(l:Array Bool):Prop:=∀i o,ops[i]?=some o->l.getD i false=true->∀d∈zbX o,l.getD d false=true
theorem ClosedD.add{i:Nat}{o:Oper}(H:ClosedD ops l)(hi:i<l.size)(ho:ops[i]?=some o)(hd:∀d∈zbX o,l.getD d false=true):ClosedD ops (l.setIfInBounds i true):=fun j o' hj hl d hdm=>by
  rw[zbF hi]at hl ⊢;split
  . rfl
  . by_cases e:j=i
    . subst e;rw[ho]at hj;cases hj;exact hd d hdm
    . rw[if_neg e]at hl;exact H j o' hj hl d hdm
theorem ziZ(L:zjr ops c)(hl:l.size=ops.size)(fuel t:Nat):(zdl ops (fuel+1) t l=[]/\∀i,i<ops.size->l.getD i true=true)\/∃i o t',i<ops.size/\ops[i]?=some o/\l.getD i true=false/\(∀d∈zbX o,l.getD d false=true)/\zdl ops (fuel+1) t l=i::zdl ops fuel t' (l.setIfInBounds i true):=by
  unfold zdl;simp only[qu];change ((match (qg .any ops l)[t % (qg .any ops l).length]? with
        | some i=>qu .any ops fuel (t / (qg .any ops l).length) (l.setIfInBounds i true) [i]
        | none=>[].reverse)=[]/\_)\/∃i o t',_/\_/\_/\_/\(match (qg .any ops l)[t % (qg .any ops l).length]? with
        | some i=>qu .any ops fuel (t / (qg .any ops l).length) (l.setIfInBounds i true) [i]
        | none=>[].reverse)=_
  cases hi:(qg .any ops l)[t % (qg .any ops l).length]? with
  | none =>
    have hnil:qg .any ops l=[]:=by
      cases hr:qg .any ops l with
      | nil=>rfl
      | cons x xs =>
        rw[hr]at hi;have hlt:t % (x::xs).length<(x::xs).length:=Nat.mod_lt _ (by simp)
        simp at hi;simp at hlt;omega
    exact .inl ⟨rfl,zkc L.back hnil⟩
  | some i =>
    obtain⟨hun,o,ho,hdep⟩:=mem_ready.1 (qf hi);refine .inr ⟨i,o,t / (qg .any ops l).length,(qr.1 ho).1,ho,hun,fun d hd=>?_,?_⟩
    . obtain⟨e,he,hb,rfl⟩:=zli hd;exact hdep e he hb
    . simp only[];rw[linearise_go_acc,List.reverse_singleton,List.singleton_append]
theorem zgb(L:zjr ops c):∀(fuel t j:Nat) (l:Array Bool),l.size=ops.size->zbs l ops.size<=fuel->c<j->j<=ops.size->(∀i,i<ops.size->l.getD i true=decide (i<j))->zdl ops fuel t l=List.range' j (ops.size - j)
  | 0,t,j,l,hl,hu,hc,hj,hd=>by
    have:j=ops.size:=by
      apply qE hj;apply qo;intro h;have h1:=zcH ops.size (qL.1 hu) j h;rw[hd j h]at h1;simp at h1
    rw[this,qq];rfl
  | fuel+1,t,j,l,hl,hu,hc,hj,hd=>by
    have hff:∀i,i<ops.size->l.getD i false=decide (i<j):=fun i hi=>by rw[zc9 (by rw[hl];exact hi) false true];exact hd i hi
    have hdn:∀i o,ops[i]?=some o->l.getD i false=true->∀d∈zbX o,l.getD d false=true:=fun i o ho hi d hdm=>by
      have hi2:=(qr.1 ho).1;rw[hff i hi2]at hi;have:=L.dep i o ho d hdm;rw[hff d (by omega)]
      simp at hi ⊢;omega
    rcases ziZ L hl fuel t with⟨h1,h2⟩|⟨i,o,t',hi,ho,hun,hdep,heq⟩
    . have:j=ops.size:=by
        apply qE hj;apply qo;intro h;have h3:=h2 j h;rw[hd j h]at h3;simp at h3
      rw[h1,this,qq];rfl
    . have hij:j<=i:=by
        rw[hd i hi]at hun;simpa using hun
      have e:i=j:=by
        apply qE _ hij;apply qo;intro h;have h3:=zcL (D:=fun x=>l.getD x false=true) hdn i o ho hdep j (L.post i o ho (by omega) j h)
        rw[hff j (by omega)]at h3
        simp at h3
      subst e;have hund:=zbR hun ops.size hi (by rw[hl];exact hi)
      rw[heq,zgb L fuel t' (i+1) _ (by simpa using hl) (by omega) (by omega) (by omega) fun x hx=>?_]
      . rw[show ops.size - i=(ops.size - (i+1))+1 from by omega,List.range'_succ]
      . rw[zbF (by rw[hl];exact hi),hd x hx]
        by_cases e:x=i
        . subst e;simp
        . rw[if_neg e];simp;omega
def zso(X:Face Try.prog St)(Sp:SpT Γ)(fn:Func)(A:Conf St->Γ×St->Prop)(ops:Array Oper)(k:List Item)(c:Nat)(h:AHeap)(S:St)(γ:Γ×St)(t:List Value):Prop :=
  ∃(o:Oper) (f:FuncId) (args:Array Value) (Q:Value->AHeap->St->Γ×St->Prop),ops[c]?=some o/\o.guard=none/\o.op.operands.all zaO=true/\zaJ Try.prog (evA t) o.op=some (f,args)/\(Runs X Sp f args h S γ Q\/Sp f args h S γ Q) /\
    ∀v h1 S1 γ',Q v h1 S1 γ'->At X fn (fun cf=>GE X Sp fn A cf γ') ops k (c+1) (putL o.dst v t) h1 S1
variable {h:AHeap}{S:St}{γ:Γ × St}{vs:Nat->Value}{T:Nat->List Value}
theorem WalkT.ag(L:zjr ops c)(W:WalkT X ops h S c 0 vs T):∀i,i<=c->Ag ops c vs (T 0) (fun j=>decide (j<i)) (T i)
  | 0,_=>⟨rfl,fun j x _ hj=>by simp at hj,fun _ _=>rfl⟩
  | i+1,hi=>by
    obtain⟨o,a1,a2,a3,a4,a5⟩:=W.step i (by omega) (by omega)
    have:=(W.ag L i (by omega)).put L (i:=i) (by omega) (by simp)
    rw[a5,show o.dst=zbS ops i from by simp[zbS,a1]]
    have e:(fun j=>decide (j<i) || j==i)=fun j=>decide (j<i+1):=by
      funext j;by_cases h1:j<i
      . have h3:j<i+1:=by omega
        simp[h1,h3]
      . by_cases h2:j=i
        . subst h2;simp
        . have h3:¬j<i+1:=by omega
          simp[h1,h2,h3]
    rw[<-e];exact this
theorem ztE(L:zjr ops c)(W:WalkT X ops h S c 0 vs T){v:Value}{h1:AHeap}{S1:St}{γ1:Γ×St}(hpost:At X fn (fun cf=>GE X Sp fn A cf γ1) ops k (c+1) (putL (zbS ops c) v (T c)) h1 S1):
    ∀(fuel t:Nat) (l:Array Bool) (tm:List Value),l.size=ops.size->zbs l ops.size<=fuel->ClosedD ops l->l.getD c false=true->(∀i,c<i->i<ops.size->l.getD i true=false)->Ag ops c vs (T 0) (fun j=>l.getD j false) tm->GE X Sp fn A (.run (.inRegion ops (zdl ops fuel t l)::k) (putL (zbS ops c) v tm) h1 S1) γ1:=by
  intro fuel
  induction fuel with
  | zero =>
    intro t l tm hl hu hcl hc hnp hag;refine GE.go ?_;have hall:=zcH ops.size (qL.1 hu);have e:tm=T c:=hag.ext (W.ag L c (qk _)) fun j hj=>by
      have:=hall j (by have:=L.lt;omega)
      rw[zc9 (by rw[hl];have:=L.lt;omega) true false]at this
      simp[this,hj]
    rw[e,zgb L 0 t (c+1) l hl hu (by omega) (by have:=L.lt;omega) fun i hi=>?_]
    . exact hpost
    . rw[hall i hi];by_cases hic:c<i
      . have:=hnp i hic hi;rw[hall i hi]at this;cases this
      . simp;omega
  | succ fuel ih =>
    intro t l tm hl hu hcl hc hnp hag;have hlt:=L.lt;by_cases hall:∀j,j<c->l.getD j false=true
    . refine GE.go ?_;have e:tm=T c:=hag.ext (W.ag L c (qk _)) fun j hj=>by simp[hall j hj,hj]
      rw[e,zgb L (fuel+1) t (c+1) l hl hu (by omega) (by omega) fun i hi=>?_]
      . exact hpost
      . by_cases hic:c<i
        . rw[hnp i hic hi];simp;omega
        . have:l.getD i true=true:=by
            rw[zc9 (by rw[hl];exact hi) true false]
            by_cases e:i=c
            . rw[e];exact hc
            . exact hall i (by omega)
          rw[this];simp;omega
    . rcases ziZ L hl fuel t with⟨_,h2⟩|⟨i,o,t',hi,ho,hun,hdep,heq⟩
      . exact absurd (fun j hj=>by rw[zc9 (by rw[hl];omega) false true];exact h2 j (by omega)) hall
      . have hunf:l.getD i false=false:=by rw[zc9 (by rw[hl];exact hi) false true];exact hun
        have hic:i<c:=by
          apply Nat.lt_of_not_le;intro hle;rcases qP hle with e|hlt2
          . rw[<-e,hc]at hunf;cases hunf
          . refine hall fun j hj=>zcL (D:=fun x=>l.getD x false=true) hcl i o ho hdep j (L.post i o ho hlt2 j (by omega))
        have hmove:zoJ o.op=true:=by
          rcases L.anc i o ho hic with hb|hb
          . obtain⟨oc,hoc⟩:∃oc,ops[c]?=some oc:=⟨_,qF hlt⟩;have:=zcL (D:=fun x=>l.getD x false=true) hcl c oc hoc (hcl c oc hoc hc) i hb;rw[hunf]at this;cases this
          . exact hb
        obtain⟨o',a1,a2,a3,a4,a5⟩:=W.step i (Nat.zero_le _) hic;rw[ho]at a1;cases a1;have hd:o.dst=zbS ops i:=by simp[zbS,ho]
        have hev:∀x∈o.op.operands,evA tm x=evA (T i) x:=hag.ev L (W.ag L i (by omega)) ho (by omega) (fun j hj=>zcL (D:=fun x=>l.getD x false=true) hcl i o ho hdep j hj) fun j hj _=>by simp[hj]
        have hev2:∀x∈o.op.operands,evA (T i) x=evA (putL (zbS ops c) v tm) x:=fun x hx=>by
          rw[<-hev x hx];cases x with
          | tmp tt =>
            simp only[evA];rw[zol fun e=>?_];have:=(L.tmp i o tt ho (by omega) hx c (qk _) e).2
            omega
          | _=>rfl
        have hval:valA Try.prog (evA (T i)) h o.op=some (vs i):=by
          cases a4 with
          | val hv=>exact hv
          | prim f g args hca=>cases ho':o.op<;>rw[ho']at hca hmove<;>first|(cases hmove;done)|(simp[zaJ]at hca)
          | call f args hca=>cases ho':o.op<;>rw[ho']at hca hmove<;>first|(cases hmove;done)|(simp[zaJ]at hca)
        have hval1:valA Try.prog (evA (putL (zbS ops c) v tm)) h1 o.op=some (vs i):=by
          rw[<-ziw (h0:=h1) hev2];cases ho':o.op<;>rw[ho']at hval hmove<;>first|(cases hmove;done)|exact hval
        rw[heq];refine .plain (fun c'=>c'=.run (.inRegion ops (zdl ops fuel t' (l.setIfInBounds i true))::k) (putL o.dst (vs i) (putL (zbS ops c) v tm)) h1 S1) (Quiet.go (.val hval1) ho a2 a3 (.here rfl)) fun c' hc'=>?_;subst hc';rw[hd,zn8 fun x e1 e2=>by have:=L.dst i c x (by omega) (qk _) e1 e2;omega]
        have hsz:i<l.size:=by rw[hl];exact hi
        have hund:=zbR hun ops.size hi hsz;refine ih t' _ _ (by simpa using hl) (by omega) (hcl.add hsz ho hdep) ?_ (fun j hj hj2=>?_) ?_
        . rw[zbF hsz,hc];split<;>rfl
        . rw[zbF hsz,if_neg (by omega)];exact hnp j hj hj2
        . have:=hag.put L hic hunf;refine⟨this.len,fun j x hj hlj=>this.set j x hj ?_,fun x hx=>this.old x fun j hj hdj=>?_⟩
          . rw[zbF hsz]at hlj;by_cases e:j=i
            . simp[e]
            . rw[if_neg e]at hlj;simp[hlj]
          . have h3:=hx j hj hdj;rw[zbF hsz]at h3;by_cases e:j=i
            . rw[if_pos e]at h3;cases h3
            . rw[if_neg e]at h3;simp[h3,e]
theorem zsM(L:zjr ops c)(W:WalkT X ops h S c 0 vs T)(HC:zso X Sp fn A ops k c h S γ (T c)):
    ∀(fuel t:Nat) (l:Array Bool) (tm:List Value),l.size=ops.size->zbs l ops.size<=fuel->ClosedD ops l->l.getD c false=false->(∀i,c<i->i<ops.size->l.getD i true=false)->Ag ops c vs (T 0) (fun j=>l.getD j false) tm->GE X Sp fn A (.run (.inRegion ops (zdl ops fuel t l)::k) tm h S) γ:=by
  intro fuel;have hlt:=L.lt
  induction fuel with
  | zero =>
    intro t l tm hl hu hcl hc hnp hag;have hall:=zcH ops.size (qL.1 hu) c hlt;rw[zc9 (by rw[hl];exact hlt) true false,hc]at hall
    cases hall
  | succ fuel ih =>
    intro t l tm hl hu hcl hc hnp hag;rcases ziZ L hl fuel t with⟨_,h2⟩|⟨i,o,t',hi,ho,hun,hdep,heq⟩
    . have:=h2 c hlt;rw[zc9 (by rw[hl];exact hlt) true false,hc]at this
      cases this
    . have hunf:l.getD i false=false:=by rw[zc9 (by rw[hl];exact hi) false true];exact hun
      have hmask:=zcL (D:=fun x=>l.getD x false=true) hcl i o ho hdep;have hic:i<=c:=by
        apply qo;intro hlt2;have:=hmask c (L.post i o ho hlt2 c hlt2);rw[hc]at this;cases this
      have hd:o.dst=zbS ops i:=by simp[zbS,ho]
      have hsz:i<l.size:=by rw[hl];exact hi
      have hund:=zbR hun ops.size hi hsz;have hev:∀x∈o.op.operands,evA (T i) x=evA tm x:=fun x hx=>(hag.ev L (W.ag L i (by omega)) ho hic hmask (fun j hj _=>by simp[hj]) x hx).symm
      rw[heq];rcases qP hic with e|hic
      . subst e;obtain⟨o',f,args,Q,b1,b2,b3,b4,b5,b6⟩:=HC;rw[ho]at b1;cases b1;have hca:zaJ Try.prog (evA tm) o.op=some (f,args):=(zff hev).symm.trans b4;have hk:∀v h1 S1 γ',Q v h1 S1 γ'->GE X Sp fn A (.run (.inRegion ops (zdl ops fuel t' (l.setIfInBounds i true))::k) (putL o.dst v tm) h1 S1) γ':=fun v h1 S1 γ' hq=>by
          rw[hd];refine ztE L W (by rw[<-hd];exact b6 v h1 S1 γ' hq) fuel t' _ tm (by simpa using hl) (by omega) (hcl.add hsz ho hdep) ?_ (fun j hj hj2=>?_) ⟨hag.len,fun j x hj hlj=>hag.set j x hj ?_,fun x hx=>hag.old x fun j hj hdj=>?_⟩
          . rw[zbF hsz,if_pos rfl]
          . rw[zbF hsz,if_neg (by omega)];exact hnp j hj hj2
          . rw[zbF hsz,if_neg (by omega)]at hlj;exact hlj
          . have h3:=hx j hj hdj;rw[zbF hsz,if_neg (by omega)]at h3;exact h3
        rcases b5 with⟨g,cd,c1,c2,c3,c4⟩|b5
        . exact .call f g cd args Q ho (zcp b2) b3 hca c1 c2 c3 c4 hk
        . exact .spec f args Q ho (zcp b2) b3 hca b5 hk
      . obtain⟨o',a1,a2,a3,a4,a5⟩:=W.step i (Nat.zero_le _) hic;rw[ho]at a1;cases a1;refine .plain (fun c'=>c'=.run (.inRegion ops (zdl ops fuel t' (l.setIfInBounds i true))::k) (putL o.dst (vs i) tm) h S) (Quiet.go (a4.congr hev) ho a2 a3 (.here rfl)) fun c' hc'=>?_;subst hc';rw[hd];refine ih t' _ _ (by simpa using hl) (by omega) (hcl.add hsz ho hdep) ?_ (fun j hj hj2=>?_) ?_
        . rw[zbF hsz,if_neg (by omega)];exact hc
        . rw[zbF hsz,if_neg (by omega)];exact hnp j hj hj2
        . have:=hag.put L hic hunf;refine⟨this.len,fun j x hj hlj=>this.set j x hj ?_,fun x hx=>this.old x fun j hj hdj=>?_⟩
          . rw[zbF hsz]at hlj;by_cases e:j=i
            . simp[e]
            . rw[if_neg e]at hlj;simp[hlj]
          . have h3:=hx j hj hdj;rw[zbF hsz]at h3;by_cases e:j=i
            . rw[if_pos e]at h3;cases h3
            . rw[if_neg e]at h3;simp[h3,e]
theorem Goes.drawC{id:Nat}{tmps:List Value}(c:Nat)(hB:znN ops c=true)(hk:PreW X ops h S (zso X Sp fn A ops k c h S γ) c 0 tmps):Goes X fn (fun cf=>GE X Sp fn A cf γ) (.run (.code (.region id ops true)::k) tmps h S):=by
  have L:=zp7 hB;obtain⟨_,vs,T,h0,W,HC⟩:=hk.rows;refine .here (GE.draws fun t=>?_);have e:qO (Try.prog.follows .mixedOrders) ops t=zdl ops ops.size t (qC ops.size false):=by
    simp only[qO,Try.mix,Bool.true_or,if_true];rfl
  have hrep:∀i b,i<ops.size->(qC ops.size false).getD i b=false:=fun i b hi=>by simp[hi]
  have hrf:∀i,(qC ops.size false).getD i false=false:=fun i=>by
    by_cases hi:i<ops.size
    . exact hrep i false hi
    . simp[hi]
  rw[e];refine zsM L W HC ops.size t _ tmps (by simp) (zke _) (fun i o ho hi=>by(rw[hrf i]at hi;cases hi)) (hrf c) (fun i _ hi=>hrep i true hi) ?_
  rw[<-h0];exact⟨rfl,fun j x _ hj=>by(rw[hrf j]at hj;cases hj),fun _ _=>rfl⟩
variable {i:Nat}{tmps:List Value}{o:Oper}{Kf:List Value->Prop}
theorem qw1(ho:ops.toList[i]?=some o)(hg:o.guard=none)(_:vB o.op=true)(hk:∀K:List Value->AHeap->Prop,(∀t h',PreW X ops h S Kf c (i+1) t->K t h')->OpK K o tmps h (valA Try.prog (evA tmps) h o.op))(hb:opOK o.op=true:=by rfl)(hi:i<c:=by decide):PreW X ops h S Kf c i tmps:=by
  have:=hk (fun t _=>PreW X ops h S Kf c (i+1) t) fun _ _ h=>h;cases hv:valA Try.prog (evA tmps) h o.op with
  | none=>rw[hv]at this;exact this.elim
  | some v=>rw[hv]at this;exact .op hi (za2 ho) hg (za0 hb) (.val hv) this
theorem qwp(ho:ops.toList[i]?=some o)(hg:o.guard=none)(hk:∀K:List Value->St->Prop,(∀t,PreW X ops h S Kf c (i+1) t->K t S)->zdI (fun f args=>fnOK Try.prog f=true/\∃v S',X.prim f args S v S'/\K (putL o.dst v tmps) S') (zaJ Try.prog (evA tmps) o.op))(hb:opOK o.op=true:=by rfl)(hi:i<c:=by decide):PreW X ops h S Kf c i tmps:=by
  have:=hk (fun t S'=>S'=S/\PreW X ops h S Kf c (i+1) t) fun _ h=>⟨rfl,h⟩;cases hv:zaJ Try.prog (evA tmps) o.op with
  | none=>rw[hv]at this;exact this.elim
  | some x =>
    obtain⟨f,args⟩:=x;rw[hv]at this;obtain⟨hf,v,S',h1,rfl,h3⟩:=this;obtain⟨g,g1,g2⟩:=zhb hf;exact .op hi (za2 ho) hg (za0 hb) (.prim f g args hv g1 g2 h1) h3
theorem qwc(ho:ops.toList[i]?=some o)(hg:o.guard=none)(hk:∀K:List Value->St->Prop,(∀t,PreW X ops h S Kf c (i+1) t->K t S)->zdI (fun f args=>∃v S',Does X f args [] S v S'/\K (putL o.dst v tmps) S') (zaJ Try.prog (evA tmps) o.op))(hb:opOK o.op=true:=by rfl)(hi:i<c:=by decide):PreW X ops h S Kf c i tmps:=by
  have:=hk (fun t S'=>S'=S/\PreW X ops h S Kf c (i+1) t) fun _ h=>⟨rfl,h⟩;cases hv:zaJ Try.prog (evA tmps) o.op with
  | none=>rw[hv]at this;exact this.elim
  | some x =>
    obtain⟨f,args⟩:=x;rw[hv]at this;obtain⟨v,S',h1,rfl,h3⟩:=this;exact .op hi (za2 ho) hg (za0 hb) (.call f args hv h1) h3
theorem qg2(ho:ops.toList[c]?=some o)(hg:o.guard=none)(hk:∀K:List Value->AHeap->St->Γ×St->Prop,(∀t h1 S1 γ',At X fn (fun cf=>GE X Sp fn A cf γ') ops k (c+1) t h1 S1->K t h1 S1 γ')->zdI (fun f args=>Runs X Sp f args h S γ (fun v h1 S1 γ'=>K (putL o.dst v tmps) h1 S1 γ')) (zaJ Try.prog (evA tmps) o.op))(hb:opOK o.op=true:=by rfl):
    PreW X ops h S (zso X Sp fn A ops k c h S γ) c c tmps:=by
  refine .nil ?_;have:=hk _ fun _ _ _ _ h=>h;cases hv:zaJ Try.prog (evA tmps) o.op with
  | none=>rw[hv]at this;exact this.elim
  | some x =>
    obtain⟨f,args⟩:=x;rw[hv]at this;exact⟨o,f,args,_,za2 ho,hg,za0 hb,hv,.inl this,fun _ _ _ _ hq=>hq⟩
end
end Go.Proofs.Ytpkkfkebnhgaiaa
namespace Go.Proofs.Ytpkkfkebnhgaiaa
open Go Go.RowKit
theorem zuG{a b:Ob}{me:Int}{s:Nat}{ws:List UInt64}{bs:List UInt8}:accS [a,b] 1 0 me s ws bs=[.mem ws bs,.port 0 me s]:=rfl
attribute [go_sem] zuG
variable {S:St}
theorem zsT{a b:Ob}:(S++[a,b])[S.length]?=some a:=by simp
theorem zsI{a b:Ob}:(S++[a])++[b]=S++[a,b]:=by simp
theorem zsb{a:Ob}:(S++[a]).length=S.length+1:=by simp
theorem ztp{a:Ob}:(S++[a])[S.length]?=some a:=by simp
end Go.Proofs.Ytpkkfkebnhgaiaa
