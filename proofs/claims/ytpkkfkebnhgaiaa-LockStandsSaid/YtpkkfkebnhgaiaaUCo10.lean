/- Laws. -/
import Derived.Test.YtpkkfkebnhgaiaaUQuick
set_option maxHeartbeats 40000000
set_option linter.unusedVariables false
set_option linter.unusedSimpArgs false
open Option.some renaming inj->qa,injEq->qh
open Array renaming getElem?_setIfInBounds_ne->qb,getElem?_setIfInBounds_self_of_lt->qc,getElem?_eq_getElem->qe,getElem?_eq_some_iff->qg,size_setIfInBounds->qm,mem_of_getElem?->qr,empty_append->qu,mem_iff_getElem->qv,getD_eq_getD_getElem?->qL,getElem?_push->qQ,getElem?_map->qS
open Go.MemOp renaming ofEvents->qd
open Go.Conc renaming offersAt_of_not_blocked->qf,again_of_running->qj,getElem?_stand->ql,heap_setChan_ne->qn,offersAt_ph->qs,partners_nil->qt,crowd_pick->qA,Deaf_other->qB,heap_setChan_self->qD,stand_get->qE,Goes->qG,ways_recv_none->qH,mem_ofEvents->qI,offersAt_parked_off->qJ,goes_go->qN,closeOps->qO,Deaf_quiet->qP,partners_one->qU
open List renaming mem_toArray->qi
open Go.Value.chan renaming injEq->qk
open Go.World renaming setChan->qo
open Nat renaming strongRecOn->qp,le_refl->qz,pos_of_ne_zero->qV,lt_of_lt_of_le->qW
open Go.Proofs.Ytpkkfkebnhgaiaa.CoF renaming by_step->qw,noSend->qy
open Go.Proofs.Ytpkkfkebnhgaiaa.SitsO renaming status->qx,rely->qC
open Go.MemAct renaming touch?->qF,ofEvent->qX
namespace Go.Proofs.Ytpkkfkebnhgaiaa
open Go Go.Conc
open Go.ConcN (sumTo upd sumTo_upd upd_ne upd_same)
theorem zkh{P:Program}{main:Bool}{R:World->World->Prop}{D D':World->World->Array Event->Prop}{Stop:Goroutine->World->Prop}(hD:∀w w' es,D w w' es->D' w w' es):∀{n:Nat} {g:Goroutine} {w:World},qG P main R D Stop n g w->qG P main R D' Stop n g w
  | 0,_,_,h=>h
  | n+1,g,w,h=>by
    rcases h with h|⟨hs,h⟩
    . exact .inl h
    . refine .inr ⟨hs,fun w₁ h₁=>?_⟩;have:=h w₁ h₁;cases hgo:stepG P main g w₁ with
      | go g' w' es =>
        rw[hgo,qN]at this;rw[qN];exact⟨hD _ _ _ this.1,zkh hD this.2⟩
      | _=>rw[hgo]at this;exact this.elim
variable {B' i n:Nat}{es:Array Event}
section
variable {P:Program}{OB WB:Nat->Prop}{B:Nat}{Iv:Nat->World->Prop}{K:Trace->Nat->Prop}{Mem Lo:Nat->Prop}{Inb:Nat->Option Seat}{Sp Dead:Nat->Prop}{T:Trace}{gs:Array Goroutine}{w:World}{q:Nat->Nat}
theorem EvW.mono(hB:B<=B'){e:Event}(h:EvW OB WB B i e):EvW OB WB B' i e:=by
  obtain⟨a,h1,h2⟩:=h;exact⟨a,by omega,h2⟩
theorem SitsO.mono{s:Seat}{g:Goroutine}(hB:B<=B')(h:SitsO P OB WB B Iv i s n g w):SitsO P OB WB B' Iv i s n g w:=by
  rcases h with⟨k,h1,h2⟩|h
  . exact .inl ⟨k,h1,zkh (fun _ _ _ d=>⟨d.only,d.size,d.rest,fun e he=>(d.evs e he).mono hB⟩) h2⟩
  . exact .inr h
theorem CoF.idleB(hB:B<=B')(C:CoF P OB WB B Iv K Mem Lo Inb Sp Dead T gs w q)(i:Nat)(g:Goroutine)(h1:¬Sp i)(h2:gs[i]?=some g):zg2 P OB WB B' Iv T i (q i) g w (Inb i):=by
  have h:=C.idle i g h1 h2;cases e:Inb i with
  | none=>rw[e]at h;exact h
  | some s=>rw[e]at h;exact SitsO.mono hB h
theorem CoF.memB(hB:B<=B')(C:CoF P OB WB B Iv K Mem Lo Inb Sp Dead T gs w q)(i:Nat)(s:Seat)(e:Inb i=some s):Mem i/\∀c,s.has c->c<B':=⟨(C.mem i s e).1,fun c hc=>qW ((C.mem i s e).2 c hc) hB⟩
theorem CoF.mono(hB:B<=B')(hB':B'<=w.heap.size)(C:CoF P OB WB B Iv K Mem Lo Inb Sp Dead T gs w q):CoF P OB WB B' Iv K Mem Lo Inb Sp Dead T gs w q:=by
  refine⟨fun i g h1 h2=>?_,C.chans,C.far,C.wf,C.live,C.inj,C.above,fun i s e=>⟨(C.mem i s e).1,fun c hc=>by have:=(C.mem i s e).2 c hc;omega⟩,C.nomem,C.lo,C.past.mono hB,C.apart,C.ivst,hB'⟩
  have h:=C.idle i g h1 h2;cases e:Inb i with
  | none=>rw[e]at h;exact h
  | some s=>rw[e]at h;exact SitsO.mono hB h
theorem CoF.awake(C:CoF P OB WB B Iv K Mem Lo Inb Sp Dead T gs w q)(hs:∀x g,Sp x->gs[x]?=some g->g.status=.running\/g.status=.blocked):∀g∈gs,awake g:=by
  intro g hg;obtain⟨i,hi,rfl⟩:=qv.1 hg;have hgi:gs[i]?=some gs[i]:=qe hi;by_cases e:Sp i
  . exact awake_of ((hs i _ e hgi).elim .inl fun x=>.inr (.inl x))
  . have hid:=C.idle i _ e hgi;cases es:Inb i with
    | none=>rw[es]at hid;exact awake_of (hid.2.status.elim .inl fun x=>.inr (.inr x))
    | some s=>rw[es]at hid;exact awake_of ((qx hid).elim (fun x=>.inl x.1) fun x=>.inr (.inl x.1))
def RingO(P:Program)(OB WB:Nat->Prop)(B:Nat)(Iv:Nat->World->Prop)(Mem:Nat->Prop)(Inb:Nat->Option Seat)(h:Nat)(T:Trace)(gs:Array Goroutine)(w:World)(q:Nat->Nat):Prop :=
  CoF P OB WB B Iv (fun t=>Knows t h) Mem (fun g=>g≠h/\(Inb g).isSome) Inb (·=h) (fun _=>False) T gs w q
structure zgR (OB WB:Nat->Prop) (Inb:Nat->Option Seat) (h:Nat) (BB RR:Nat->Prop):Prop where
  own:∀b,OB b->h≠0->BB b
  waits:∀b,WB b->BB b\/RR b
  chans:∀i s c,Inb i=some s->s.has c->BB c
theorem zqb{BB RR:Nat->Prop}{h:Nat}{fn:FuncId}{pos:String}(F:zgR OB WB Inb h BB RR)(hB:n<=B)(he:∀e∈es,Own1 BB RR n e):
    (∀op∈qd h fn pos es,op.g=h)/\(∀op∈qd h fn pos es,∀b,op.act.touch?=some b->(zcr WB b.loc->b.write=false)/\(ownL OB b.loc->h=0))/\(∀op∈qd h fn pos es,op.act.low B)/\∀t:Trace,Deaf (t++qd h fn pos es) h=Deaf t h:=by
  refine⟨fun op hop=>by obtain⟨e,_,rfl⟩:=qI hop;rfl,fun op hop b hb=>?_,fun op hop=>?_,fun t=>?_⟩
  . obtain⟨e,he',rfl⟩:=qI hop;rcases he e he' with rfl|⟨hsy,a,hloc,h1,h2,h3⟩
    . simp[qX,qF]at hb
    . obtain⟨l,wr,sy⟩:=e;simp only at hsy hloc h2;subst hsy hloc;have hbl:b.loc=.cell a/\b.write=wr:=by
        cases wr<;>(simp[qX,qF]at hb;subst hb;exact⟨rfl,rfl⟩)
      rw[hbl.1,hbl.2];refine⟨fun⟨a',e,ha,_⟩=>?_,fun⟨a',e,ha⟩=>?_⟩
      . simp only[Loc.cell.injEq]at e;subst e;rcases F.waits _ ha with hx|hx
        . exact absurd hx h1
        . cases wr
          . rfl
          . exact absurd hx (h2 rfl)
      . simp only[Loc.cell.injEq]at e;subst e;by_cases h0:h=0
        . exact h0
        . exact absurd (F.own _ ha h0) h1
  . obtain⟨e,he',rfl⟩:=qI hop;rcases he e he' with rfl|⟨hsy,a,hloc,h1,h2,h3⟩
    . exact trivial
    . obtain⟨l,wr,sy⟩:=e;simp only at hsy hloc;subst hsy hloc;cases wr<;>exact qW h3 hB
  . rw[Deaf_own];exact deafBehind_still (fun e he'=>by
      rcases he e he' with rfl|⟨hsy,a,hloc,_⟩
      . exact⟨by simp,by simp⟩
      . exact⟨by rw[hloc];simp,by rw[hloc];simp⟩) _
end
variable {w' w0 b:World}{m:Machine}{t:Trace}{Q:Machine->Trace->Prop}
section
variable {P:Program}{OB WB:Nat->Prop}{B:Nat}{Iv:Nat->World->Prop}{K:Trace->Nat->Prop}{Mem Lo:Nat->Prop}{Inb:Nat->Option Seat}{Sp Dead:Nat->Prop}{T:Trace}{gs:Array Goroutine}{w:World}{q:Nat->Nat}{h:Nat}{BB RR:Nat->Prop}
theorem CoF.fixed'(C:CoF P OB WB B Iv K Mem Lo Inb Sp Dead T gs w q){w1:World}(hS:∀i s c,Inb i=some s->s.has c->w1.heap[c]?=w.heap[c]?){x:Nat}{y:Goroutine}(hx:¬Sp x)(hy:gs[x]?=some y):y.again w1=y:=by
  have h:=C.idle x y hx hy;cases e:Inb x with
  | none=>rw[e]at h;exact qj h.2.status w1
  | some s =>
    rw[e]at h;by_cases hD:Dead x
    . exact qj (.inl (C.live x y hD hy)) w1
    . exact SitsO.again h (C.wf x s e) fun c hc=>by
        obtain⟨cap,k,hk⟩:=C.chans x s c hD e hc;exact⟨_,_,_,_,_,by rw[hS x s c e hc];exact hk⟩
theorem RingO.own(C:RingO P OB WB B Iv Mem Inb h T gs w q)(F:zgR OB WB Inb h BB RR){a a':Goroutine}(ha:gs[h]?=some a)(hfr:∀b,BB b\/RR b->w'.heap[b]?=w.heap[b]?)(he:∀e∈es,Own1 BB RR w'.heap.size e)(hwz:w.heap.size<=w'.heap.size):
    RingO P OB WB (max B w'.heap.size) Iv Mem Inb h (T++qd h a.frame.fn a.frame.place es) ((gs.map (woken P a a' w')).setIfInBounds h a') w' q/\((gs.map (woken P a a' w')).setIfInBounds h a')[h]?=some a':=by
  have hlt:h<gs.size:=(qg.1 ha).1;have hBm:B<=max B w'.heap.size:=Nat.le_max_left _ _;obtain⟨hops,hs,hl,hdf⟩:=zqb (B:=max B w'.heap.size) (h:=h) (fn:=a.frame.fn) (pos:=a.frame.place) F (Nat.le_max_right _ _) he;have hch:∀i s c,Inb i=some s->s.has c->w'.heap[c]?=w.heap[c]?:=fun i s c hi hc=>hfr c (.inl (F.chans i s c hi hc));have hrl:∀x,x≠h->Rl OB WB x w w':=fun x hx=>⟨fun ad had _=>zdU (hfr _ (F.waits _ had)),fun e b hb=>hfr b (.inl (F.own b hb (by omega)))⟩
  refine⟨⟨fun x y hx hy=>?_,fun i s c _ hi hc=>?_,C.far,C.wf,fun _ _ hx=>hx.elim,C.inj,fun j hj=>?_,CoF.memB hBm C,C.nomem,C.lo,PastO.appH (C.past.mono hBm) hops hs (hdf T) hl,C.apart,C.ivst,Nat.max_le.2 ⟨Nat.le_trans C.lowB hwz,qz _⟩⟩,qc (by simpa using hlt)⟩
  . rw[qb (fun e=>hx e.symm),qS]at hy;obtain⟨yq,hyq,rfl⟩:=Option.map_eq_some_iff.1 hy;rw[woken_of_again (CoF.fixed' C hch hx hyq)];have hi:=CoF.idleB hBm C x yq hx hyq;cases es':Inb x with
    | none=>rw[es']at hi;exact⟨hi.1,by rw[qB T (fun z=>hx z.symm) _ hops];exact hi.2⟩
    | some s=>rw[es']at hi;exact qC C.ivst hi (hrl x hx)
  . obtain⟨cap,k,hk⟩:=C.chans i s c (fun z=>z) hi hc;exact⟨cap,k,by rw[hch i s c hi hc];exact hk⟩
  . simp only[qm,Array.size_map]at hj;rw[qB T (g':=h) (by omega) _ hops]
    exact C.above j hj
theorem zqN{w:World}(S:Shade BB RR w0 w)(t:Tape):Shade BB RR (WT w0 t) w:=⟨S.size,S.low,S.same,S.dead,S.cold,S.novw⟩
theorem zqs{w:World}(S:Shade BB RR w0 w)(d:Nat):Shade BB RR w0 (w.at d):=⟨S.size,S.low,S.same,S.dead,S.cold,S.novw⟩
theorem ziB{w:World}(S:Shade BB RR w0 w)(hs:w'.heap.size=w.heap.size)(ho:∀b,¬BB b->w'.heap[b]?=w.heap[b]?):Shade BB RR w0 w' :=
  ⟨by rw[hs];exact S.size,fun b hb=>by rw[hs];exact S.low b hb,fun b h1 h2=>(S.same b h1 h2).trans (ho b h1).symm,S.dead,fun b h1 h2=>by rw[ho b h2];exact S.cold b h1 h2,S.novw⟩
structure Step2 (OB BB RR:Nat->Prop) (h:Nat) (w w':World):Prop where
  keep:∀b,BB b\/RR b->¬ (OB b/\h≠0)->w'.heap[b]?=w.heap[b]?
  size:w.heap.size<=w'.heap.size
  os:w'.os=w.os
  tape:w'.tape=w.tape
  output:w'.output=w.output
theorem Step2.refl(w:World):Step2 OB BB RR h w w:=⟨fun _ _ _=>rfl,qz _,rfl,rfl,rfl⟩
theorem Step2.trans{a c:World}(x:Step2 OB BB RR h a b)(y:Step2 OB BB RR h b c):Step2 OB BB RR h a c :=
  ⟨fun b h1 h2=>(y.keep b h1 h2).trans (x.keep b h1 h2),Nat.le_trans x.size y.size,y.os.trans x.os,y.tape.trans x.tape,y.output.trans x.output⟩
structure SOs (w w':World):Prop where
  os:w'.os=w.os
  tape:w'.tape=w.tape
  output:w'.output=w.output
theorem SOs.refl(w:World):SOs w w:=⟨rfl,rfl,rfl⟩
theorem SOs.trans{a c:World}(x:SOs a b)(y:SOs b c):SOs a c:=⟨y.os.trans x.os,y.tape.trans x.tape,y.output.trans x.output⟩
theorem SOs.side{w:World}{d:Nat}(h:w'={ w.at d with heap:=w'.heap }):SOs w w':=⟨(congrArg World.os h).trans rfl,(congrArg World.tape h).trans rfl,(congrArg World.output h).trans rfl⟩
theorem SOs.of{w:World}{d:Nat}(h:w'={ w.at d with heap:=w'.heap,drawn:=w'.drawn }):SOs w w':=⟨(congrArg World.os h).trans rfl,(congrArg World.tape h).trans rfl,(congrArg World.output h).trans rfl⟩
def Reach(P:Program)(m:Machine)(t:Trace)(Q:Machine->Trace->Prop):Prop:=∃N m' t',runNT P N m t=(.next m',t')/\SOs m.world m'.world/\Q m' t'
theorem Reach.here(h:Q m t):Reach P m t Q:=⟨0,m,t,rfl,.refl _,h⟩
theorem Reach.head{m':Machine}{ops:Trace}(hs:stepT P m=(.next m',ops))(h:Reach P m' (t++ops) Q)(ho:SOs m.world m'.world:=by exact⟨rfl,rfl,rfl⟩):Reach P m t Q:=by
  obtain⟨N,m2,t2,hr,ho2,hq⟩:=h;exact⟨N+1,m2,t2,by simp only[runNT,hs];exact hr,ho.trans ho2,hq⟩
theorem Reach.bind{Q':Machine->Trace->Prop}(h:Reach P m t Q)(hq:∀m' t',Q m' t'->Reach P m' t' Q'):Reach P m t Q':=by
  obtain⟨N,m1,t1,h1,ho1,h2⟩:=h;obtain⟨N',m2,t2,h3,ho2,h4⟩:=hq m1 t1 h2;exact⟨N+N',m2,t2,runNT_then h1 h3,ho1.trans ho2,h4⟩
theorem zkk{End:Goroutine->World->Prop}(hrunE:∀g w,End g w->g.status=.running){a:Goroutine}(hT:Tree P End a w0):∀(n:Nat) {B:Nat} {T:Trace} {gs:Array Goroutine} {w:World} {q:Nat->Nat} {sl:Option (Nat×Nat)},sumTo gs.size q=n->gs[h]?=some a->Shade BB RR w0 w->zgR OB WB Inb h BB RR->RingO P OB WB B Iv Mem Inb h T gs w q ->
    Reach P (crowd gs w sl) T fun m' T'=>∃gs' a' w0' w' sl' q' B',m'=crowd gs' w' sl'/\gs'.size=gs.size/\gs'[h]?=some a'/\End a' w0'/\Shade BB RR w0' w'/\Step2 OB BB RR h w w'/\RingO P OB WB B' Iv Mem Inb h T' gs' w' q':=by
  induction hT with
  | here he=>intro n B T gs w q sl _ ha S F C;exact .here ⟨gs,_,_,w,sl,q,B,rfl,rfl,ha,he,S,Step2.refl w,C⟩
  | @step c w0 nx hx ht ih =>
    intro n
    induction n using qp with
    | _ n ihn =>
      intro B T gs w q sl hn ha S F C;have hrun:c.status=.running:=(hx w.tape).1;obtain⟨i,g,d,sl',hi,hg,hst⟩:=qA (P:=P) (w:=w) (sl:=sl) (CoF.awake C fun x g hx hgx=>by subst hx;rw[ha]at hgx;obtain rfl:=qa hgx;exact .inl hrun) ⟨h,c,ha,hrun⟩
      have Cd:RingO P OB WB B Iv Mem Inb h T gs (w.at d) q:=CoF.at C d;have Sd:=zqs S d;by_cases e:i=h
      . subst e;obtain rfl:g=c:=by rw[ha]at hi;exact(qa hi).symm
        let t:Tape:=fun k qq=>w.tape (d+(k - w0.drawn)) qq
        obtain⟨_,es,x⟩:=(hx t).2 (show NoV (WT w0 t) from S.nov)
        obtain⟨w',h1,h2,h3,h4,h5,_,h7⟩:=x.move BB RR (i==0) (w.at d) (zqN Sd t) fun k qq _=>by
          show w.tape (d+(w0.drawn+k - w0.drawn)) qq=w.tape (d+k) qq;rw[Nat.add_sub_cancel_left]
        obtain⟨C',ha'⟩:=RingO.own (a':=(nx t).1) Cd F ha h4 h7 h3;refine .head (ho:=by exact⟨by show w'.os=_;rw[h5];rfl,by show w'.tape=_;rw[h5];rfl,by show w'.output=_;rw[h5];rfl⟩) (by rw[hst];exact runT_crowd_go (sl:=sl') ha h1) ?_
        refine(ih t _ rfl ha' h2 F C').bind fun m' T'=>?_;rintro⟨gs',a',w0',w2,sl2,q',B',rfl,k1,k2,k3,k4,k5,k6⟩;have k0:Step2 OB BB RR i w w':=⟨fun b hb _=>h4 b hb,h3,by rw[h5];rfl,by rw[h5];rfl,by rw[h5];rfl⟩
        exact .here ⟨gs',a',w0',w2,sl2,q',B',rfl,by simpa using k1,k2,k3,k4,k0.trans k5,k6⟩
      . obtain⟨gs',ops,q',w',hrt,hsz',hsp,hS,hw0,_,_,C',hlt⟩:=qw (sl:=sl') (fun t u i=>Knows.app u) Cd hi e hg
          (fun x gx w' hx hgx _=>by subst hx;rw[ha]at hgx;obtain rfl:=qa hgx;exact qj (.inl hrun) _) (fun hD=>hD.elim)
          (fun s gq _ _=>⟨fun hD=>hD,fun x gx c hx hgx _=>by subst hx;rw[ha]at hgx;obtain rfl:=qa hgx;exact qf (by rw[hrun];simp) _ _⟩)
        refine .head (ho:=by exact .side hS.rest) (by rw[hst];exact hrt) ?_
        have hOB:∀b,¬BB b->w'.heap[b]?=(w.at d).heap[b]?:=fun b hb=>by
          by_cases h0:i=0
          . exact hS.only b fun ho=>hb (F.own b ho (by omega))
          . rw[hw0 h0]
        refine(ihn (sumTo gs'.size q') (by rw[hsz',<-hn];exact hlt) rfl (by rw[hsp h rfl];exact ha) (ziB Sd hS.size hOB) F C').bind fun m' T'=>?_
        rintro⟨gs2,a',w0',w2,sl2,q2,B',rfl,k1,k2,k3,k4,k5,k6⟩;have k0:Step2 OB BB RR h w w':=⟨fun b _ ho=>(by
          by_cases h0:i=0
          . exact hS.only b fun z=>ho ⟨z,by omega⟩
          . rw[hw0 h0];rfl),Nat.le_of_eq hS.size.symm,by rw[hS.rest];rfl,by rw[hS.rest];rfl,by rw[hS.rest];rfl⟩
        exact .here ⟨gs2,a',w0',w2,sl2,q2,B',rfl,by omega,k2,k3,k4,k0.trans k5,k6⟩
end
end Go.Proofs.Ytpkkfkebnhgaiaa
namespace Go.Proofs.Ytpkkfkebnhgaiaa
open Go Go.Conc
section
variable {P:Program}{gs:Array Goroutine}{w w₁:World}{sl:Option (Nat × Nat)}{i j k kj:Nat}{g gq gj:Goroutine}{es:Array Event}{cases cs:Array CommCase}{shape shj:CommShape}{blocking:Bool}
  {c cap s r:Nat} {buf:Array Value} {closed tm:Bool} {v z zj:Value}
theorem zeX(hi:gs[i]?=some g)(h:stepG P (i==0) g w=.comm gq cases blocking shape w₁ es)(hk:cases[k]?=some (scase c v z))(ho:∀(m:Nat) (c':CommCase),m≠k->cases[m]?=some c'->NoWays w₁ (gs.setIfInBounds i ph) c')(hc:w₁.heap[c]?=some (.chan cap buf false s s tm))(hij:j≠i)(hj:gs[j]?=some (parked gj cs shj))(hkj:cs[kj]?=some (rcase c zj))(hp:partners (gs.setIfInBounds i ph) c false=[(j,kj)]):
    runT P (crowd gs w sl) i=(.next (crowd ((gs.setIfInBounds j (gj.finishComm P cs shj kj v true)).setIfInBounds i (gq.finishComm P cases shape k undef false)) (w₁.setChan c cap buf false (s+1) (s+1) tm) sl),
      qd i g.frame.fn g.frame.place es++met i j gq.frame.fn gq.frame.place gj.frame.fn gj.frame.place c s cap):=by
  have hw:ways w₁ (gs.setIfInBounds i ph) (scase c v z)=[.partner j kj]:=by simp[ways,scase,hc,hp]
  have hj':=qE (i:=i) hij hj;have hfp:=finishPartner_at P (gs.setIfInBounds i ph) hj' (cs:=cs) (sh:=shj) rfl kj v;have hgd:(gs.setIfInBounds i ph).getD j default=parked gj cs shj:=by rw[qL,hj'];rfl
  rw[runT_crowd_comm hi h];unfold communicate;simp only[ready_one hk (by rw[hw];simp) ho,hw]
  rw[if_neg]
  . simp[choose,Sem.run,Question.forced,bind,Sem.bind,pure,scase,crowd,hc,hfp,hgd,set_stand2,finishComm_parked,rcase,parked,hkj,qo,met];rfl
  . rw[Bool.not_eq_true];exact any_ill (made_of_one hk (made_send v z hc) ho)
theorem zh1(hi:gs[i]?=some g)(h:stepG P (i==0) g w=.comm gq cases blocking shape w₁ es)(hk:cases[k]?=some (rcase c z))(ho:∀(m:Nat) (c':CommCase),m≠k->cases[m]?=some c'->NoWays w₁ (gs.setIfInBounds i ph) c')(hc:w₁.heap[c]?=some (.chan cap #[] closed s s tm))(hij:j≠i)(hj:gs[j]?=some (parked gj cs shj))(hkj:cs[kj]?=some (scase c v zj))(hp:partners (gs.setIfInBounds i ph) c true=[(j,kj)]):
    runT P (crowd gs w sl) i=(.next (crowd ((gs.setIfInBounds j (gj.finishComm P cs shj kj undef false)).setIfInBounds i (gq.finishComm P cases shape k v true)) (w₁.setChan c cap #[] closed (s+1) (s+1) tm) sl),
      qd i g.frame.fn g.frame.place es++met j i gj.frame.fn gj.frame.place gq.frame.fn gq.frame.place c s cap):=by
  have hw:ways w₁ (gs.setIfInBounds i ph) (rcase c z)=[.partner j kj]:=by simp[ways,rcase,hc,hp]
  have hj':=qE (i:=i) hij hj;have hfp:=finishPartner_at P (gs.setIfInBounds i ph) hj' (cs:=cs) (sh:=shj) rfl kj undef;have hgd:(gs.setIfInBounds i ph).getD j default=parked gj cs shj:=by rw[qL,hj'];rfl
  have hov:offeredValue (gs.setIfInBounds i ph) j kj=v:=by simp[offeredValue,hj',parked,hkj,scase]
  rw[runT_crowd_comm hi h];unfold communicate;simp only[ready_one hk (by rw[hw];simp) ho,hw]
  rw[if_neg]
  . simp[choose,Sem.run,Question.forced,bind,Sem.bind,pure,rcase,crowd,hc,hfp,hgd,hov,set_stand2,finishComm_parked,scase,parked,hkj,qo,met];rfl
  . rw[Bool.not_eq_true];exact any_ill (made_of_one hk (made_recv z hc) ho)
theorem zeg{g:Goroutine}{sh:CommShape}(hk:cs[k]?=some (scase c v z))(hu:∀(m:Nat) (cc:CommCase),m≠k->cs[m]?=some cc->cc.chan≠.chan (some c)):offersAt (parked g cs sh) c true=[k]:=by
  simp only[offersAt,parked];have hz:∀m:Nat,cs.zipIdx.toList[m]?=(cs[m]?).map fun x=>(x,m):=by intro m;simp
  have:=filter_map_one (id:CommCase×Nat->CommCase×Nat) (fun(x:CommCase×Nat)=>x.1.send.isSome==true && (match x.1.chan with|.chan (some r')=>r'==c|_=>false)) cs.zipIdx.toList k (scase c v z,k) (by rw[hz,hk];rfl) (by simp[scase])
    (fun m x hm hx=>by
      rw[hz]at hx;cases e:cs[m]? with
      | none=>rw[e]at hx;cases hx
      | some y =>
        rw[e]at hx;simp only[Option.map_some,qh]at hx;subst hx;have hne:=hu m y hm e;simp only[id,Bool.and_eq_false_iff];right;split
        . rename_i r' e';simp only[beq_eq_false_iff_ne];intro er;exact hne (er▸e')
        . rfl)
  simp only[List.map_id,id]at this;exact(congrArg (List.map fun x=>x.snd) this).trans rfl
end
end Go.Proofs.Ytpkkfkebnhgaiaa
namespace Go.Proofs.Ytpkkfkebnhgaiaa
open Go Go.Conc
open Go.ConcN (sumTo upd sumTo_upd upd_ne upd_same)
variable {a b w':World}{i x n cap k nh m:Nat}{s:Seat}{g gq aq a':Goroutine}{v z z':Value}
section
variable {P:Program}{OB WB:Nat->Prop}{B:Nat}{Iv:Nat->World->Prop}{K:Trace->Nat->Prop}{Mem Lo:Nat->Prop}{Inb:Nat->Option Seat}{Sp Dead:Nat->Prop}{T:Trace}{gs:Array Goroutine}{w:World}{q:Nat->Nat}{h j c kk kh:Nat}
theorem Side.trans{c:World}(h:Side OB a b)(h':Side OB b c):Side OB a c :=
  ⟨fun x hx=>(h'.only x hx).trans (h.only x hx),h'.size.trans h.size,by rw[h'.rest,h.rest]⟩
structure SideD (OB:Nat->Prop) (w w':World):Prop where
  only:∀b,¬OB b->w'.heap[b]?=w.heap[b]?
  size:w'.heap.size=w.heap.size
  rest:w'={ w with heap:=w'.heap,drawn:=w'.drawn }
theorem SideD.refl(w:World):SideD OB w w:=⟨fun _ _=>rfl,rfl,rfl⟩
theorem SideD.trans{c:World}(h:SideD OB a b)(h':SideD OB b c):SideD OB a c :=
  ⟨fun x hx=>(h'.only x hx).trans (h.only x hx),h'.size.trans h.size,by rw[h'.rest,h.rest]⟩
theorem SideD.at(w:World)(d:Nat):SideD OB w (w.at d):=⟨fun _ _=>rfl,rfl,rfl⟩
theorem Side.d(h:Side OB a b):SideD OB a b:=⟨h.only,h.size,by have:=h.rest;rw[this]⟩
theorem Side.by'{h:Nat}(hs:Side OB a b)(h0:i≠0->b=a)(hi:i≠h):SideD (fun x=>OB x/\h≠0) a b:=by
  by_cases e:i=0
  . exact⟨fun x hx=>hs.only x fun hb=>hx ⟨hb,by omega⟩,hs.size,hs.d.rest⟩
  . rw[h0 e];exact SideD.refl a
theorem CoF.noRecvAt(C:CoF P OB WB B Iv K Mem Lo Inb Sp Dead T gs w q){y:Goroutine}(hx:¬Sp x)(hy:gs[x]?=some y){c:Nat}(hc:∀s,Inb x=some s->¬s.has c):offersAt y c false=[]:=by
  have h:=C.idle x y hx hy;cases e:Inb x with
  | none =>
    rw[e]at h;exact qf (fun hb=>by rcases h.2.status with z|z<;>rw[z]at hb<;>cases hb) c false
  | some s =>
    rw[e]at h;rcases h with h|⟨_,⟨_,gq,rfl,_⟩,_⟩
    . have:=(qx (.inl h)).elim (·.1) (fun z=>by obtain⟨k,hk,_⟩:=h;omega)
      exact qf (fun hb=>by rw[this]at hb;cases hb) c false
    . refine qJ (fun cc hcc ec=>?_) _;obtain⟨c',z',rfl⟩:=(C.wf x s e).recvs cc hcc;simp only[rcase,qk,qh]at ec;subst ec;exact hc s e (Seat.has_of_mem hcc)
theorem SitsO.at_iv{s':Seat}(h:SitsO P OB WB B Iv i s n g w)(hat:AtS P s' g gq):Iv i w:=by
  rcases h with⟨k,rfl,hg⟩|⟨_,_,h⟩
  . cases k with
    | zero=>exact(hg w (Rl.refl w)).2
    | succ k =>
      rcases hg with hg|⟨_,hg⟩
      . exact(hg w (Rl.refl w)).2
      . have:=hg w (Rl.refl w);rw[hat.2.2.2.2.2 (i==0) w]at this;exact this.elim
  . exact h
theorem zgx{cs:Array CommCase}{sh:CommShape}{w:World}(h:∀(m:Nat) (cc:CommCase),cs[m]?=some cc->∃c cap buf s r tm,cc.chan=.chan (some c)/\w.heap[c]?=some (.chan cap buf false s r tm)):(parked g cs sh).again w=parked g cs sh:=by
  simp[Goroutine.again,parked];intro x hx;obtain⟨c,cap,buf,s,r,tm,e,hc⟩:=h x cs[x] (qe hx);rw[e];simp[hc]
theorem zeK{c:Nat}{w:World}(hO:¬OB c)(hW:¬WB c)(cap:Nat)(buf:Array Value)(cl:Bool)(a b:Nat)(tm:Bool):Rl OB WB x w (w.setChan c cap buf cl a b tm) :=
  ⟨fun ad had _=>zdU (qn w cap buf cl a b tm fun e=>hW (e▸had)),fun _ y hy=>qn w cap buf cl a b tm fun e=>hO (e▸hy)⟩
theorem RingO.pass(C:RingO P OB WB B Iv Mem Inb h T gs w q)(hj:Inb j=some s)(hsc:s.has c)(hWc:¬WB c){o:Obj}(hc:w.heap[c]?=some o){gs':Array Goroutine}{T':Trace}{H':Goroutine}(hsz:gs'.size=gs.size)(hoth:∀x,x≠h->x≠j->gs'[x]?=gs[x]?)(hH:gs'[h]?=some H')(hDeaf:∀x,Deaf T' x=Deaf T x){Inb':Nat->Option Seat}(hI:∀x,x≠h->Inb' x=Inb x)(hIh:Inb' h=Inb h\/Inb' h=none)(hafter:zg2 P OB WB B Iv T' h nh H' (w.setChan c cap #[] false (k+1) (k+1) false) (Inb' h))(hpast:PastO (ownL OB) (zcr WB) Mem (fun g=>(g≠h/\(Inb g).isSome)/\g≠j) B (Knows T' j) T'):
    RingO P OB WB B Iv (fun g=>Mem g/\(Inb' g≠none\/g=j)) Inb' j T' gs' (w.setChan c cap #[] false (k+1) (k+1) false) (upd q h nh):=by
  have hsub:∀i s',Inb' i=some s'->Inb i=some s':=by
    intro i s' e;by_cases hi:i=h
    . subst hi;rcases hIh with z|z
      . rw[<-z];exact e
      . rw[z]at e;cases e
    . rw[<-hI i hi];exact e
  refine⟨fun x y hx hy=>?_,fun i s' c' _ e hc'=>?_,fun i s' c' e=>C.far i s' c' (hsub _ _ e),fun i s' e=>C.wf i s' (hsub _ _ e),fun _ _ hx=>hx.elim,fun i i' sx sv c' eq ez=>C.inj i i' sx sv c' (hsub _ _ eq) (hsub _ _ ez),fun x hx=>by rw[hDeaf];exact C.above x (by omega),
    fun i s' e=>⟨⟨(C.mem i s' (hsub _ _ e)).1,.inl (by rw[e];simp)⟩,(C.mem i s' (hsub _ _ e)).2⟩,fun i hM=>hM.2,fun i s' hi e=>⟨hi,by rw[e];rfl⟩,?_,C.apart,C.ivst,by simpa[qo] using C.lowB⟩
  . by_cases e:x=h
    . subst e;rw[hH]at hy;obtain rfl:=qa hy;rw[upd_same];exact hafter
    . rw[hoth x e hx]at hy;rw[upd_ne q nh e,hI x e];have hi:=C.idle x y e hy;cases es:Inb x with
      | none=>rw[es]at hi;exact⟨hi.1,by rw[hDeaf];exact hi.2⟩
      | some s'=>rw[es]at hi;exact qC C.ivst hi (zeK (C.far j s c hj hsc) hWc _ _ _ _ _ _)
  . by_cases ec:c=c'
    . exact⟨cap,k+1,by rw[<-ec];exact qD w hc _ _ _ _ _ _⟩
    . obtain⟨cap',k',hk'⟩:=C.chans i s' c' (fun z=>z) (hsub _ _ e) hc';exact⟨cap',k',by rw[qn w _ _ _ _ _ _ ec];exact hk'⟩
  . exact hpast.fewer (fun g hg=>hg.1) fun g ⟨⟨hgh,hs⟩,hgj⟩=>⟨hgj,by rw[hI g hgh];exact hs⟩
def zq2(P:Program)(OB WB:Nat->Prop)(B:Nat)(Iv:Nat->World->Prop)(Mem:Nat->Prop)(Inb':Nat->Option Seat)(h j:Nat)(s:Seat)(c kk n:Nat)(w:World)(v:Value)(m:Machine)(t:Trace):Prop :=
  ∃(gs':Array Goroutine) (gq:Goroutine) (w1:World) (k:Nat) (sl':Option (Nat×Nat)) (q':Nat->Nat),m=crowd gs' (w1.setChan c 0 #[] false (k+1) (k+1) false) sl'/\gs'.size=n/\gs'[j]?=some (gq.finishComm P s.cases s.shape kk v true)/\s.home gq/\SideD (fun b=>OB b/\h≠0) w w1/\Iv j w1 /\
    w1.heap[c]?=some (.chan 0 #[] false k k false)/\RingO P OB WB B Iv (fun g=>Mem g/\(Inb' g≠none\/g=j)) Inb' j t gs' (w1.setChan c 0 #[] false (k+1) (k+1) false) q'
theorem zte{a:Goroutine}{cases:Array CommCase}{shape:CommShape}(hjh:j≠h)(hj:Inb j=some s)(hk:s.cases[kk]?=some (rcase c z))(hMh:Mem h)(hrun:a.status=.running)(hWc:¬WB c)(hcomm:∀main w,stepG P main a w=.comm aq cases true shape w)(hkh:cases[kh]?=some (scase c v z'))(hoth:∀(m:Nat) (c':CommCase),m≠kh->cases[m]?=some c'->∃s' c2 z2,c'=rcase c2 z2/\Inb h=some s'/\s'.has c2){Inb':Nat->Option Seat}(hI:∀x,x≠h->Inb' x=Inb x)(hIh:Inb' h=Inb h\/Inb' h=none)(w0:World)(hafter:∀T' w1 k,Deaf T' h=0->SideD (fun b=>OB b/\h≠0) w0 w1->Iv j w1->zg2 P OB WB B Iv T' h nh (aq.finishComm P cases shape kh undef false) (w1.setChan c 0 #[] false (k+1) (k+1) false) (Inb' h)):
    ∀(n:Nat) {T:Trace} {gs:Array Goroutine} {w:World} {q:Nat->Nat} {sl:Option (Nat×Nat)} {k:Nat} (pk:Bool),n=sumTo gs.size q+(if pk then 0 else 1)->j<gs.size->SideD (fun b=>OB b/\h≠0) w0 w->w.heap[c]?=some (.chan 0 #[] false k k false)->gs[h]?=some (if pk then parked aq cases shape else a) ->
      (pk=true->0<q j)->RingO P OB WB B Iv Mem Inb h T gs w q->Reach P (crowd gs w sl) T (zq2 P OB WB B Iv Mem Inb' h j s c kk gs.size w0 v):=by
  intro n
  induction n using qp with
  | _ n ih =>
    intro T gs w q sl k pk hn hjlt hw0 hc ha hpk C;have hsc:s.has c:=⟨kk,z,hk⟩;have hwf:=C.wf j s hj;obtain⟨hMj,hcB'⟩:=C.mem j s hj;have hcB:=hcB' c hsc;have hu:∀(m:Nat) (cc:CommCase),m≠kk->s.cases[m]?=some cc->cc.chan≠.chan (some c):=by
      intro m cc hm hcc ec;obtain⟨cq,zq,rfl⟩:=hwf.recvs cc (qr hcc);simp only[rcase,qk,qh]at ec;subst ec;exact hm (hwf.apart m kk _ _ _ hcc hk)
    have huh:∀(m:Nat) (cc:CommCase),m≠kh->cases[m]?=some cc->cc.chan≠.chan (some c):=by
      intro m cc hm hcc ec;obtain⟨s',c2,z2,rfl,h1,h2⟩:=hoth m cc hm hcc;simp only[rcase,qk,qh]at ec;subst ec;exact hjh (C.inj j h s s' _ hj h1 hsc h2)
    obtain⟨gj,hgj⟩:∃gj,gs[j]?=some gj:=⟨gs[j]'(by omega),qe (by omega)⟩
    have hlth:h<gs.size:=(qg.1 ha).1;have hSj:SitsO P OB WB B Iv j s (q j) gj w:=by have:=C.idle j gj hjh hgj;rwa [hj]at this
    have hsome:∃(i:Nat) (g:Goroutine),gs[i]?=some g/\g.status=.running:=by
      cases pk with
      | false=>exact⟨h,a,ha,hrun⟩
      | true=>exact⟨j,gj,hgj,(qx hSj).elim (·.1) (fun z=>by have:=hpk rfl;omega)⟩
    obtain⟨i,g,d,sl',hi,hg,hst⟩:=qA (P:=P) (w:=w) (sl:=sl) (CoF.awake C fun x g hx hgx=>by
      subst hx;rw[ha]at hgx;obtain rfl:=qa hgx;cases pk
      . exact .inl hrun
      . exact .inr rfl) hsome
    have Cd:RingO P OB WB B Iv Mem Inb h T gs (w.at d) q:=CoF.at C d;have hcd:(w.at d).heap[c]?=some (.chan 0 #[] false k k false):=hc;have hwd:SideD (fun b=>OB b/\h≠0) w0 (w.at d):=hw0.trans (SideD.at w d);have hfar:=C.far j s c hj hsc
    -- the further cases have no way
    have hno:∀(m:Nat) (c':CommCase),m≠kh->cases[m]?=some c'->NoWays (w.at d) (gs.setIfInBounds h ph) c':=by
      intro m c' hm hc';obtain⟨s',c2,z2,rfl,h1,h2⟩:=hoth m c' hm hc';obtain⟨capq,kx,hcq⟩:=Cd.chans h s' c2 (fun z=>z) h1 h2;refine qH hcq (qt fun x y hy=>?_);rcases ql gs h x y hy with⟨_,rfl⟩|⟨hx,hy'⟩
      . exact qs _ _
      . exact qy Cd hx hy' _
    -- behind either meeting
    have fin:∀(gs':Array Goroutine) (opsq:Array MemOp) (gq:Goroutine),gs'.size=gs.size->(∀x,x≠h->x≠j->gs'[x]?=gs[x]?)->gs'[h]?=some (aq.finishComm P cases shape kh undef false)->gs'[j]?=some (gq.finishComm P s.cases s.shape kk v true)->s.home gq->Iv j w->opsq=#[] ->
        zq2 P OB WB B Iv Mem Inb' h j s c kk gs.size w0 v (crowd gs' ((w.at d).setChan c 0 #[] false (k+1) (k+1) false) sl') (T++(opsq++met h j aq.frame.fn aq.frame.place gq.frame.fn gq.frame.place c k 0)):=by
      intro gs' opsq gq hsz' hoth' hH hJ hhome hivj e0;subst e0;rw[qu];have hDeaf:∀x,Deaf (T++met h j aq.frame.fn aq.frame.place gq.frame.fn gq.frame.place c k 0) x=Deaf T x:=fun x=>qP (met_quiet _ _ _ _ _ _ _ _ _ x);have p2:=PastO.give C.past hMh hMj aq.frame.fn aq.frame.place gq.frame.fn gq.frame.place k 0 hcB;have hivj':Iv j (w.at d):=C.ivst j w (w.at d) ⟨fun _ _ _=>rfl,fun _ _ _=>rfl⟩ hivj;exact⟨gs',gq,w.at d,k,sl',upd q h nh,rfl,hsz',hJ,hhome,hwd,hivj',hc,RingO.pass Cd hj hsc hWc hcd hsz' hoth' hH hDeaf hI hIh (hafter _ _ _ (by rw[hDeaf];exact C.past.hears h hMh) hwd hivj') p2⟩
    by_cases e:i=h
    . subst e;cases pk with
      | true=>rw[ha]at hi;obtain rfl:=qa hi;cases hg
      | false =>
        obtain rfl:g=a:=by rw[ha]at hi;exact(qa hi).symm
        have hoff:∀(x:Nat) (y:Goroutine),x≠j->(gs.setIfInBounds i ph)[x]?=some y->offersAt y c false=[]:=by
          intro x y hxj hy;rcases ql gs i x y hy with⟨_,rfl⟩|⟨hx,hy'⟩
          . exact qs _ _
          . exact CoF.noRecvAt Cd hx hy' fun s' hs' hc'=>hxj (C.inj x j s' s c hs' hj hc' hsc)
        rcases hSj with⟨kq,hq,hG⟩|⟨hq0,⟨gy,gq,rfl,hat⟩,hivj⟩
        . -- j is on its way: the holder is parked
          have hjr:gj.status=.running:=(qx (.inl ⟨kq,hq,hG⟩:SitsO P OB WB B Iv j s (q j) gj w)).elim (·.1) (fun z=>by omega)
          have hp:partners (gs.setIfInBounds i ph) c false=[]:=qt fun x y hy=>by
            by_cases hxj:x=j
            . subst hxj;rw[qE hjh hgj]at hy;obtain rfl:=qa hy;exact qf (by rw[hjr];simp) _ _
            . exact hoff x y hxj hy
          have hw:∀cc∈cases,NoWays (w.at d) (gs.setIfInBounds i ph) cc:=by
            intro cc hcc;obtain⟨m,hm,rfl⟩:=qv.1 hcc;by_cases hmk:m=kh
            . subst hmk;have:cases[m]=scase c v z':=by simpa[hm] using hkh
              rw[this];exact ways_send_none hcd (qz _) hp
            . exact hno m _ hmk (qe hm)
          have hsetH:=crowd_waits (sl:=sl') hi (hcomm (i==0) (w.at d)) hw;rw[show qd i g.frame.fn g.frame.place #[]=#[] from rfl]at hsetH
          refine .head (by rw[hst];exact hsetH) ?_
          have C':RingO P OB WB B Iv Mem Inb i (T++#[]) (gs.setIfInBounds i (parked aq cases shape)) (w.at d) q:=by
            rw[Array.append_empty];refine⟨fun y gg hy hgg=>Cd.idle y gg hy (by rw[qb (fun e=>hy e.symm)]at hgg;exact hgg),Cd.chans,Cd.far,Cd.wf,fun _ _ z=>z.elim,Cd.inj,fun j hj=>Cd.above j (by simpa using hj),Cd.mem,Cd.nomem,Cd.lo,Cd.past,Cd.apart,Cd.ivst,Cd.lowB⟩
          have:=ih (sumTo (gs.setIfInBounds i (parked aq cases shape)).size q+0) (by simp at hn ⊢;omega) (sl:=sl') (k:=k) true (by simp) (by simpa using hjlt) hwd hcd (qc hlth) (fun _=>by omega) C'
          simpa using this
        . -- j is parked: the meeting
          have hp:partners (gs.setIfInBounds i ph) c false=[(j,kk)]:=by
            rw[qU (qE hjh hgj) fun x y hxj hy=>hoff x y hxj hy,offersAt_parked_at hk hu];rfl
          refine .head (by rw[hst];exact zeX (sl:=sl') hi (hcomm (i==0) (w.at d)) hkh hno hcd hjh hgj hk hp) (.here ?_)
          exact fin _ _ gq (by simp) (fun x hx hxj=>by rw[qb (fun z=>hx z.symm),qb (fun z=>hxj z.symm)]) (qc (by simpa using hlth))
            (by rw[qb (fun z=>hjh z.symm),qc (by omega)]) hat.2.2.2.2.1 hivj rfl
    . by_cases ej:i=j/\pk=true/\∃gq,AtS P s g gq
      . -- j comes to its receive and meets the parked holder
        obtain⟨rfl,rfl,gq,hat⟩:=ej;obtain rfl:g=gj:=by rw[hgj]at hi;exact(qa hi).symm
        have hivj:=hSj.at_iv hat;obtain⟨_,_,_,_,hhome,hstp⟩:=hat;have hp:partners (gs.setIfInBounds i ph) c true=[(h,kh)]:=by
          rw[qU (qE (Ne.symm hjh) ha) fun x y hxh hy=>by
            rcases ql gs i x y hy with⟨_,rfl⟩|⟨_,hy'⟩
            . exact qs _ _
            . exact qy Cd hxh hy' _]
          simp only[if_true];rw[zeg hkh huh];rfl
        have ho:∀(m:Nat) (c':CommCase),m≠kk->s.cases[m]?=some c'->NoWays (w.at d) (gs.setIfInBounds i ph) c':=by
          intro m c' hm hc';obtain⟨cq,zq,rfl⟩:=hwf.recvs c' (qr hc');have hne:c≠cq:=fun ec=>hu m _ hm hc' (by rw[ec];rfl)
          obtain⟨capq,kx,hcq⟩:=Cd.chans i s cq (fun z=>z) hj ⟨m,zq,hc'⟩;refine qH hcq (qt fun x y hy=>?_);rcases ql gs i x y hy with⟨_,rfl⟩|⟨_,hy'⟩
          . exact qs _ _
          . by_cases hxh:x=h
            . subst hxh;rw[ha]at hy';obtain rfl:=qa hy';simp only[if_true];refine qJ (fun cc hcc ec=>?_) _;obtain⟨mm,hmm,rfl⟩:=qv.1 hcc;by_cases hmk:mm=kh
              . subst hmk;have:cases[mm]=scase c v z':=by simpa[hmm] using hkh
                rw[this]at ec;simp only[scase,qk,qh]at ec;exact hne ec
              . obtain⟨s',c3,z3,h0,h1,h2⟩:=hoth mm _ hmk (qe hmm);rw[h0]at ec;simp only[rcase,qk,qh]at ec;subst ec;exact hjh (C.inj i x s s' _ hj h1 ⟨m,zq,hc'⟩ h2)
            . exact qy Cd hxh hy' _
        have hmeet:=zh1 (sl:=sl') hi (hstp (i==0) (w.at d)) hk ho hcd (Ne.symm hjh) ha hkh hp;rw[show qd i g.frame.fn g.frame.place #[]=#[] from rfl]at hmeet
        refine .head (by rw[hst];exact hmeet) (.here ?_)
        exact fin _ #[] gq (by simp) (fun x hx hxj=>by rw[qb (fun z=>hxj z.symm),qb (fun z=>hx z.symm)])
          (by rw[qb hjh,qc hlth]) (by rw[qc (by simp;omega)]) hhome hivj rfl
      . have hopen:∀w',Side OB (w.at d) w'->∀(m:Nat) (cc:CommCase),cases[m]?=some cc->∃c cap buf s r tm,cc.chan=.chan (some c)/\w'.heap[c]?=some (.chan cap buf false s r tm):=by
          intro w' hS m cc hcc;by_cases hmk:m=kh
          . subst hmk;rw[hkh]at hcc;obtain rfl:=qa hcc;exact⟨c,_,_,_,_,_,rfl,by rw[hS.only c hfar];exact hcd⟩
          . obtain⟨s',c3,z3,rfl,h1,h2⟩:=hoth m _ hmk hcc;obtain⟨capq,kx,hcq⟩:=Cd.chans h s' c3 (fun z=>z) h1 h2;exact⟨c3,_,_,_,_,_,rfl,by rw[hS.only c3 (C.far h s' c3 h1 h2)];exact hcq⟩
        have hsA:∀x gx w',x=h->gs[x]?=some gx->Side OB (w.at d) w'->gx.again w'=gx:=by
          intro x gx w' hx hgx hS;subst hx;rw[ha]at hgx;obtain rfl:=qa hgx;cases pk with
          | false=>exact qj (.inl hrun) _
          | true=>exact zgx (hopen w' hS)
        have hsO:∀s' gq,Inb i=some s'->AtS P s' g gq->¬False/\∀x gx c',x=h->gs[x]?=some gx->s'.has c'->offersAt gx c' true=[]:=by
          intro s' gq hs' hat;refine⟨fun hD=>hD,?_⟩;intro x gx c' hx hgx hc';subst hx;rw[ha]at hgx;obtain rfl:=qa hgx;cases pk with
          | false=>exact qf (by simp[hrun]) _ _
          | true =>
            simp only[if_true];refine qJ (fun cc hcc ec=>?_) _;obtain⟨mm,hmm,rfl⟩:=qv.1 hcc;by_cases hmk:mm=kh
            . subst hmk;have:cases[mm]=scase c v z':=by simpa[hmm] using hkh
              rw[this]at ec;simp only[scase,qk,qh]at ec;have hij:i=j:=C.inj i j s' s c hs' hj (ec▸hc') hsc;subst hij;rw[hj]at hs';obtain rfl:=qa hs';exact ej ⟨rfl,rfl,gq,hat⟩
            . obtain⟨s3,c3,z3,h0,h1,h2⟩:=hoth mm _ hmk (qe hmm);rw[h0]at ec;simp only[rcase,qk,qh]at ec;subst ec;exact e (C.inj i x s' s3 _ hs' h1 hc' h2)
        obtain⟨gs',ops,q',w',hrt,hsz',hsp,hS,hw0',hqo,hq0,C',hlt⟩:=qw (sl:=sl') (fun t u i=>Knows.app u) Cd hi e hg hsA (fun hD=>hD.elim) hsO;refine .head (ho:=by exact .side hS.rest) (by rw[hst];exact hrt) ?_
        have:=ih (sumTo gs'.size q'+(if pk then 0 else 1)) (by rw[hsz',hn];omega) (sl:=sl') (k:=k) pk rfl (by omega) (hwd.trans (hS.by' hw0' e)) (by rw[hS.only c hfar];exact hcd) (by rw[hsp h rfl];exact ha) (fun hp=>?_) C'
        . rw[hsz']at this;exact this
        . subst hp;by_cases hij:j=i
          . subst hij;rcases Nat.eq_zero_or_pos (q' j) with h0|h0
            . obtain⟨gq,hat⟩:=hq0 s hj h0;exact absurd ⟨rfl,rfl,gq,hat⟩ ej
            . exact h0
          . rw[hqo j hij];exact hpk rfl
end
section
variable {P:Program}{OB WB:Nat->Prop}{B:Nat}{Iv:Nat->World->Prop}{K:Trace->Nat->Prop}{Mem Lo:Nat->Prop}{Inb:Nat->Option Seat}{Sp Dead:Nat->Prop}{T:Trace}{gs:Array Goroutine}{w:World}{q:Nat->Nat}{h j c kk kh:Nat}
theorem RingO.reseat(C:RingO P OB WB B Iv Mem Inb h T gs w q)(hMh:Mem h)(s:Seat)(hwf:s.Wf)(hopen:∀c,s.has c->∃cap k,w.heap[c]?=some (.chan cap #[] false k k false))(hfar:∀c,s.has c->¬OB c)(hlow:∀c,s.has c->c<B)(hfresh:∀i s' c,i≠h->Inb i=some s'->s'.has c->¬s.has c):RingO P OB WB B Iv Mem (fun i=>if i=h then some s else Inb i) h T gs w q:=by
  have hne:∀i s',i≠h->(if i=h then some s else Inb i)=some s'->Inb i=some s':=fun i s' hi e=>by rwa [if_neg hi]at e
  have hself:∀s',(if h=h then some s else Inb h)=some s'->s'=s:=fun s' e=>by rw[if_pos rfl]at e;exact(qa e).symm
  refine⟨fun x y hx hy=>?_,fun i s' c _ e hc=>?_,fun i s' c e hc=>?_,fun i s' e=>?_,fun _ _ hx=>hx.elim,fun i i' sx sv c eq ez h1 h2=>?_,C.above,fun i s' e=>?_,fun i hM=>?_,fun i s' hi e=>⟨hi,by show(if i=h then some s else Inb i).isSome=true;rw[e];rfl⟩,?_,C.apart,C.ivst,C.lowB⟩
  . show zg2 P OB WB B Iv T x (q x) y w (if x=h then some s else Inb x)
    rw[if_neg hx];exact C.idle x y hx hy
  . by_cases hi:i=h
    . subst hi;obtain rfl:=hself s' e;exact hopen c hc
    . exact C.chans i s' c (fun z=>z) (hne i s' hi e) hc
  . by_cases hi:i=h
    . subst hi;obtain rfl:=hself s' e;exact hfar c hc
    . exact C.far i s' c (hne i s' hi e) hc
  . by_cases hi:i=h
    . subst hi;obtain rfl:=hself s' e;exact hwf
    . exact C.wf i s' (hne i s' hi e)
  . by_cases hi:i=h
    . by_cases hi':i'=h
      . rw[hi,hi']
      . subst hi;obtain rfl:=hself sx eq;exact absurd h1 (hfresh i' sv c hi' (hne i' sv hi' ez) h2)
    . by_cases hi':i'=h
      . subst hi';obtain rfl:=hself sv ez;exact absurd h2 (hfresh i sx c hi (hne i sx hi eq) h1)
      . exact C.inj i i' sx sv c (hne i sx hi eq) (hne i' sv hi' ez) h1 h2
  . by_cases hi:i=h
    . subst hi;obtain rfl:=hself s' e;exact⟨hMh,hlow⟩
    . exact C.mem i s' (hne i s' hi e)
  . by_cases hi:i=h
    . exact .inr hi
    . rcases C.nomem i hM with z|z
      . exact .inl (by show(if i=h then some s else Inb i)≠none;rw[if_neg hi];exact z)
      . exact .inr z
  . refine C.past.fewer (fun g hg=>hg) fun g ⟨h1,h2⟩=>⟨h1,?_⟩;show(if g=h then some s else Inb g).isSome=true
    rw[if_neg h1];exact h2
theorem zun{a child:Goroutine}(hMh:Mem h)(hrun:a.status=.running)(hspawn:∀main w,stepG P main a w=.spawn a' child w)(hnone:∀i,gs.size<=i->Inb i=none)(hIh:Inb h≠none)(w0:World)(hafter:∀T' w1,Deaf T' h=0->SideD (fun b=>OB b/\h≠0) w0 w1->zg2 P OB WB B Iv T' h nh a' w1 (Inb h)):
    ∀(n:Nat) {T:Trace} {gs':Array Goroutine} {w:World} {q:Nat->Nat} {sl:Option (Nat×Nat)},n=sumTo gs'.size q->gs'.size=gs.size->SideD (fun b=>OB b/\h≠0) w0 w->gs'[h]?=some a->RingO P OB WB B Iv Mem Inb h T gs' w q ->
      Reach P (crowd gs' w sl) T fun m' T'=>∃gs2 w1 sl' q',m'=crowd gs2 w1 sl'/\gs2.size=gs.size+1/\gs2[gs.size]?=some child/\SideD (fun b=>OB b/\h≠0) w0 w1/\RingO P OB WB B Iv (fun g=>Mem g\/g=gs.size) Inb gs.size T' gs2 w1 q':=by
  intro n
  induction n using qp with
  | _ n ih =>
    intro T gs' w q sl hn hsz hw0 ha C;have hlth:h<gs'.size:=(qg.1 ha).1;obtain⟨i,g,d,sl',hi,hg,hst⟩:=qA (P:=P) (w:=w) (sl:=sl) (CoF.awake C fun x g hx hgx=>by subst hx;rw[ha]at hgx;obtain rfl:=qa hgx;exact .inl hrun) ⟨h,a,ha,hrun⟩
    have Cd:RingO P OB WB B Iv Mem Inb h T gs' (w.at d) q:=CoF.at C d;have hwd:SideD (fun b=>OB b/\h≠0) w0 (w.at d):=hw0.trans (SideD.at w d);by_cases e:i=h
    . subst e;obtain rfl:g=a:=by rw[ha]at hi;exact(qa hi).symm
      have hops:=runT_crowd_spawn (sl:=sl') hi (hspawn (i==0) (w.at d));have hDn:∀x,Deaf (T++#[{ g:=i,fn:=g.frame.fn,pos:=g.frame.place,act:=.go gs'.size },{ g:=gs'.size,fn:=child.frame.fn,pos:=g.frame.place,act:=.start }]) x=Deaf T x:=fun x=>qP fun op hop dd=>by
        simp only[qi,zMc,zNm,or_false]at hop;rcases hop with rfl|rfl<;>rfl
      have p2:=PastO.hireGive C.past hMh (C.above gs'.size (qz _)) g.frame.fn g.frame.place child.frame.fn;refine .head (by rw[hst];exact hops) (.here ⟨_,w.at d,sl',upd q i nh,rfl,by simp[hsz],by rw[qQ,if_pos (by simp[hsz])],hwd,?_⟩)
      have hT:(((qd i g.frame.fn g.frame.place #[]).push { g:=i,fn:=g.frame.fn,pos:=g.frame.place,act:=.go gs'.size }).push { g:=gs'.size,fn:=child.frame.fn,pos:=g.frame.place,act:=.start }:Trace)=#[{ g:=i,fn:=g.frame.fn,pos:=g.frame.place,act:=.go gs'.size },{ g:=gs'.size,fn:=child.frame.fn,pos:=g.frame.place,act:=.start }]:=rfl;rw[hT];rw[<-hsz];refine⟨fun x y hx hy=>?_,Cd.chans,Cd.far,Cd.wf,fun _ _ z=>z.elim,Cd.inj,fun x hx=>?_,fun i s e=>⟨.inl (Cd.mem i s e).1,(Cd.mem i s e).2⟩,fun x hM=>?_,fun x s hx e=>⟨hx,by rw[e];rfl⟩,?_,Cd.apart,Cd.ivst,Cd.lowB⟩
      . rw[qQ]at hy;simp only[qm]at hy;rw[if_neg hx]at hy;by_cases ex:x=i
        . subst ex;rw[qc hlth]at hy;obtain rfl:=qa hy;rw[upd_same];exact hafter _ _ (by rw[hDn];exact C.past.hears x hMh) hwd
        . rw[qb (fun z=>ex z.symm)]at hy;rw[upd_ne q nh ex];have hid:=Cd.idle x y ex hy;cases es:Inb x with
          | none=>rw[es]at hid;exact⟨hid.1,by rw[hDn];exact hid.2⟩
          | some s=>rw[es]at hid;exact hid
      . rw[hDn];simp only[Array.size_push,qm]at hx;exact Cd.above x (by omega)
      . rcases hM with hM|hM
        . rcases Cd.nomem x hM with z|z
          . exact .inl z
          . exact .inl (by rw[z];exact hIh)
        . exact .inr hM
      . exact p2.fewer (fun g hg=>hg) fun g hg=>⟨fun e=>by
          have:=hnone g (by omega)
          rw[this]at hg;exact absurd hg.2 (by simp),hg.2⟩
    . obtain⟨gs2,ops,q',w',hrt,hsz',hsp,hS,hw0',_,_,C',hlt⟩:=qw (sl:=sl') (fun t u i=>Knows.app u) Cd hi e hg
        (fun x gx w' hx hgx _=>by subst hx;rw[ha]at hgx;obtain rfl:=qa hgx;exact qj (.inl hrun) _) (fun hD=>hD.elim)
        (fun s gq _ _=>⟨fun hD=>hD,fun x gx c hx hgx _=>by subst hx;rw[ha]at hgx;obtain rfl:=qa hgx;exact qf (by rw[hrun];simp) _ _⟩)
      exact .head (ho:=by exact .side hS.rest) (by rw[hst];exact hrt) (ih (sumTo gs2.size q') (by rw[hsz',hn];exact hlt) rfl (by omega) (hwd.trans (hS.by' hw0' e)) (by rw[hsp h rfl];exact ha) C')
end
section
variable {P:Program}{OB WB:Nat->Prop}{B:Nat}{Iv:Nat->World->Prop}{K:Trace->Nat->Prop}{Mem Lo:Nat->Prop}{Inb:Nat->Option Seat}{Sp Dead:Nat->Prop}{T:Trace}{gs:Array Goroutine}{w:World}{q:Nat->Nat}{h j c kk kh:Nat}
def zo0(P:Program)(OB WB:Nat->Prop)(B:Nat)(Iv:Nat->World->Prop)(Mem:Nat->Prop)(Inb:Nat->Option Seat)(j c k m:Nat)(T:Trace)(gs:Array Goroutine)(w:World)(q:Nat->Nat):Prop :=
  CoF P OB WB B Iv (fun t i=>Before t i m) Mem (fun g=>(Inb g).isSome) Inb (fun _=>False) (·=j) T gs w q/\SentAt c k m T
def ztF(P:Program)(OB WB:Nat->Prop)(B:Nat)(Iv:Nat->World->Prop)(Mem:Nat->Prop)(Inb:Nat->Option Seat)(j:Nat)(s:Seat)(c cap kk n:Nat)(w0:World)(v:Value)(mm:Machine)(t:Trace):Prop :=
  ∃(gs':Array Goroutine) (gq:Goroutine) (w1:World) (k:Nat) (sl':Option (Nat×Nat)) (q':Nat->Nat),mm=crowd gs' (w1.setChan c cap #[] false (k+1) (k+1) false) sl'/\gs'.size=n/\gs'[j]?=some (gq.finishComm P s.cases s.shape kk v true)/\s.home gq/\SideD OB w0 w1/\Iv j w1/\c<w1.heap.size /\
    RingO P OB WB B Iv Mem Inb j t gs' (w1.setChan c cap #[] false (k+1) (k+1) false) q'
theorem zsf(hj:Inb j=some s)(hk:s.cases[kk]?=some (rcase c z))(hWc:¬WB c)(w0:World)(hoth:∀c',s.has c'->c'≠c->∃cap' k',w0.heap[c']?=some (.chan cap' #[] false k' k' false)):
    ∀(n:Nat) {T:Trace} {gs:Array Goroutine} {w:World} {q:Nat->Nat} {sl:Option (Nat×Nat)},n=sumTo gs.size q->j<gs.size->SideD OB w0 w->w.heap[c]?=some (.chan cap #[v] false (k+1) k false)->zo0 P OB WB B Iv Mem Inb j c k m T gs w q ->
      Reach P (crowd gs w sl) T (ztF P OB WB B Iv Mem Inb j s c cap kk gs.size w0 v):=by
  intro n
  induction n using qp with
  | _ n ih =>
    intro T gs w q sl hn hjlt hw0 hbuf Fl;obtain⟨C,sa⟩:=Fl;have hsc:s.has c:=⟨kk,z,hk⟩;have hwf:=C.wf j s hj;obtain⟨hMj,hcB'⟩:=C.mem j s hj;have hcB:=hcB' c hsc;have hfar:=C.far j s c hj hsc;obtain⟨gj,hgj⟩:∃gj,gs[j]?=some gj:=⟨gs[j]'(by omega),qe (by omega)⟩
    have hjr:=C.live j gj rfl hgj;obtain⟨i,g,d,sl',hi,hg,hst⟩:=qA (P:=P) (w:=w) (sl:=sl) (CoF.awake C fun x g hx _=>hx.elim) ⟨j,gj,hgj,hjr⟩;have Cd:=CoF.at C d;have hwd:SideD OB w0 (w.at d):=hw0.trans (SideD.at w d);have hbufd:(w.at d).heap[c]?=some (.chan cap #[v] false (k+1) k false):=hbuf;by_cases ej:i=j/\∃gq,AtS P s g gq
    . obtain⟨rfl,gq,hat⟩:=ej;have hSj:SitsO P OB WB B Iv i s (q i) g (w.at d):=by have:=Cd.idle i g (fun z=>z) hi;rwa [hj]at this
      have hivj:=hSj.at_iv hat;obtain⟨_,_,_,_,hhome,hstp⟩:=hat;have hp:partners (gs.setIfInBounds i ph) c true=[]:=qt fun x y hy=>by
        rcases ql gs i x y hy with⟨_,rfl⟩|⟨_,hy'⟩
        . exact qs _ _
        . exact qy Cd (fun z=>z) hy' _
      have hopen:∀c',s.has c'->c'≠c->∃cap' k',(w.at d).heap[c']?=some (.chan cap' #[] false k' k' false):=fun c' h1 h2=>by
        obtain⟨cap',k',h3⟩:=hoth c' h1 h2;exact⟨cap',k',by rw[hwd.only c' (C.far i s c' hj h1)];exact h3⟩
      have ho:∀(m':Nat) (c':CommCase),m'≠kk->s.cases[m']?=some c'->NoWays (w.at d) (gs.setIfInBounds i ph) c':=by
        intro m' c' hm hc';obtain⟨cq,zq,rfl⟩:=hwf.recvs c' (qr hc');have hne:cq≠c:=fun ec=>hm (hwf.apart m' kk c zq z (ec▸hc') hk);obtain⟨capq,kx,hcq⟩:=hopen cq ⟨m',zq,hc'⟩ hne;refine qH (w₁:=w.at d) hcq (qt fun x y hy=>?_);rcases ql gs i x y hy with⟨_,rfl⟩|⟨_,hy'⟩
        . exact qs _ _
        . exact qy Cd (fun z=>z) hy' _
      have hstep:=crowd_sel_recv_buf (sl:=sl') hi (hstp (i==0) (w.at d)) hk ho hbufd (by simp) hp
      rw[show(#[v]:Array Value).extract 1 (#[v]:Array Value).size=#[] by simp,show qd i g.frame.fn g.frame.place #[]=#[] from rfl,qu]at hstep
      have p2:=PastO.takeSent C.past sa.1 sa.2 hMj gq.frame.fn gq.frame.place cap hcB;have hall:∀op∈(#[{ g:=i,fn:=gq.frame.fn,pos:=gq.frame.place,act:=.recv c k cap },{ g:=i,fn:=gq.frame.fn,pos:=gq.frame.place,act:=.recvDone c k }]:Trace),op.g=i:=by
        intro op hop;simp only[qi,zMc,zNm,or_false]at hop;rcases hop with rfl|rfl<;>rfl
      refine .head (by rw[hst];exact hstep) (.here ⟨_,gq,w.at d,k,sl',q,rfl,by simp,by rw[qc (by omega)];rfl,hhome,hwd,hivj,(qg.1 hbuf).1,?_⟩)
      refine⟨fun x y hx hy=>?_,fun x s' c' _ e hc'=>?_,Cd.far,Cd.wf,fun _ _ z=>z.elim,Cd.inj,fun x hx=>?_,Cd.mem,fun x hM=>(Cd.nomem x hM).imp id fun z=>z.elim,fun x s' hx e=>⟨hx,by rw[e];rfl⟩,p2.fewer (fun g hg=>hg) fun g ⟨hs,hg⟩=>⟨hg,hs⟩,Cd.apart,Cd.ivst,by simpa[qo] using Cd.lowB⟩
      . rw[qb (fun z=>hx z.symm)]at hy;have hid:=Cd.idle x y (fun z=>z) hy;cases e:Inb x with
        | none=>rw[e]at hid;exact⟨hid.1,by rw[qB T (fun z=>hx z.symm) _ hall];exact hid.2⟩
        | some s'=>rw[e]at hid;exact qC C.ivst hid (zeK hfar hWc _ _ _ _ _ _)
      . by_cases ec:c=c'
        . exact⟨cap,k+1,by rw[<-ec];exact qD (w.at d) hbufd _ _ _ _ _ _⟩
        . rw[qn _ _ _ _ _ _ _ ec];by_cases ex:x=i
          . subst ex;rw[hj]at e;obtain rfl:=qa e;exact hopen c' hc' (fun z=>ec z.symm)
          . exact Cd.chans x s' c' ex e hc'
      . simp only[qm]at hx;rw[qB T (g':=i) (by omega) _ hall]
        exact Cd.above x hx
    . obtain⟨gs',ops,q',w',hrt,hsz',_,hS,hw0',_,_,C',hlt⟩:=qw (sl:=sl') (fun t u i=>Before.app u) Cd hi (fun z=>z) hg (fun _ _ _ z=>z.elim) (fun hD=>by subst hD;rw[hj];simp)
        (fun s' gq hs' hat=>⟨fun hD=>by subst hD;rw[hj]at hs';obtain rfl:=qa hs';exact ej ⟨rfl,gq,hat⟩,fun _ _ _ z=>z.elim⟩)
      have:=ih (sumTo gs'.size q') (by rw[hsz',hn];exact hlt) (sl:=sl') rfl (by omega) (hwd.trans hS.d) (by rw[hS.only c hfar];exact hbuf) ⟨C',sa.app ops⟩
      rw[hsz']at this;exact .head (ho:=by exact .side hS.rest) (by rw[hst];exact hrt) this
end
structure ztK (OB:Nat->Prop) (c:Nat) (w w':World):Prop where
  only:∀b,¬OB b->b≠c->w'.heap[b]?=w.heap[b]?
  size:w'.heap.size=w.heap.size
  rest:w'={ w with heap:=w'.heap,drawn:=w'.drawn }
theorem SideD.c{OB:Nat->Prop}{w w':World}(h:SideD OB w w')(c:Nat):ztK OB c w w':=⟨fun b h1 _=>h.only b h1,h.size,h.rest⟩
section
variable {P:Program}{OB WB:Nat->Prop}{B:Nat}{Iv:Nat->World->Prop}{K:Trace->Nat->Prop}{Mem Lo:Nat->Prop}{Inb:Nat->Option Seat}{Sp Dead:Nat->Prop}{T:Trace}{gs:Array Goroutine}{w:World}{q:Nat->Nat}{h j c kk kh:Nat}
def ztA(P:Program)(OB WB:Nat->Prop)(B:Nat)(Iv:Nat->World->Prop)(Mem:Nat->Prop)(Inb:Nat->Option Seat)(j:Nat)(s:Seat)(c cap kk n:Nat)(w0:World)(v:Value)(mm:Machine)(t:Trace):Prop :=
  ∃(gs':Array Goroutine) (gq:Goroutine) (w1:World) (k:Nat) (sl':Option (Nat×Nat)) (q':Nat->Nat),mm=crowd gs' (w1.setChan c cap #[] false (k+1) (k+1) false) sl'/\gs'.size=n/\gs'[j]?=some (gq.finishComm P s.cases s.shape kk v true)/\s.home gq/\ztK OB c w0 w1/\Iv j w1/\c<w1.heap.size /\
    RingO P OB WB B Iv Mem Inb j t gs' (w1.setChan c cap #[] false (k+1) (k+1) false) q'
theorem zs5{a:Goroutine}(hcap:0<cap)(hjh:j≠h)(hj:Inb j=some s)(hk:s.cases[kk]?=some (rcase c z))(hMh:Mem h)(hrun:a.status=.running)(hWc:¬WB c)(hcomm:∀main w,stepG P main a w=.comm aq #[scase c v z'] true .send w)(h0:0<h)(hafter:QuitsD P nh 0 (aq.finishComm P #[scase c v z'] .send 0 undef false))(w0:World):
    ∀(n:Nat) {T:Trace} {gs:Array Goroutine} {w:World} {q:Nat->Nat} {sl:Option (Nat×Nat)} {k:Nat},n=sumTo gs.size q->j<gs.size->SideD OB w0 w->w.heap[c]?=some (.chan cap #[] false k k false)->gs[h]?=some a->RingO P OB WB B Iv Mem Inb h T gs w q ->
      Reach P (crowd gs w sl) T (ztA P OB WB B Iv (fun g=>Mem g/\g≠h/\Inb g≠none) (fun i=>if i=h then none else Inb i) j s c cap kk gs.size w0 v):=by
  intro n
  induction n using qp with
  | _ n ih =>
    intro T gs w q sl k hn hjlt hw0 hc ha C;have hsc:s.has c:=⟨kk,z,hk⟩;have hwf:=C.wf j s hj;obtain⟨hMj,hcB'⟩:=C.mem j s hj;have hcB:=hcB' c hsc;have hfar:=C.far j s c hj hsc;have hu:∀(m:Nat) (cc:CommCase),m≠kk->s.cases[m]?=some cc->cc.chan≠.chan (some c):=by
      intro m cc hm hcc ec;obtain⟨cq,zq,rfl⟩:=hwf.recvs cc (qr hcc);simp only[rcase,qk,qh]at ec;subst ec;exact hm (hwf.apart m kk _ _ _ hcc hk)
    obtain⟨gj,hgj⟩:∃gj,gs[j]?=some gj:=⟨gs[j]'(by omega),qe (by omega)⟩
    have hlth:h<gs.size:=(qg.1 ha).1;have hSj:SitsO P OB WB B Iv j s (q j) gj w:=by have:=C.idle j gj hjh hgj;rwa [hj]at this
    obtain⟨i,g,d,sl',hi,hg,hst⟩:=qA (P:=P) (w:=w) (sl:=sl) (CoF.awake C fun x g hx hgx=>by subst hx;rw[ha]at hgx;obtain rfl:=qa hgx;exact .inl hrun) ⟨h,a,ha,hrun⟩
    have Cd:RingO P OB WB B Iv Mem Inb h T gs (w.at d) q:=CoF.at C d;have hcd:(w.at d).heap[c]?=some (.chan cap #[] false k k false):=hc;have hwd:SideD OB w0 (w.at d):=hw0.trans (SideD.at w d);by_cases e:i=h
    . subst e;obtain rfl:g=a:=by rw[ha]at hi;exact(qa hi).symm
      have hI:∀x,x≠i->(fun y=>if y=i then none else Inb y) x=Inb x:=fun x hx=>if_neg hx
      have hIi:(fun y=>if y=i then none else Inb y) i=none:=if_pos rfl
      have hoff:∀(x:Nat) (y:Goroutine),x≠j->(gs.setIfInBounds i ph)[x]?=some y->offersAt y c false=[]:=by
        intro x y hxj hy;rcases ql gs i x y hy with⟨_,rfl⟩|⟨hx,hy'⟩
        . exact qs _ _
        . exact CoF.noRecvAt Cd hx hy' fun s' hs' hc'=>hxj (C.inj x j s' s c hs' hj hc' hsc)
      rcases hSj with⟨kq,hq,hG⟩|⟨hq0,⟨gy,gq,rfl,hat⟩,hivj⟩
      . -- j is on its way: into the buffer
        have hSj':SitsO P OB WB B Iv j s (q j) gj w:=.inl ⟨kq,hq,hG⟩;have hjr:gj.status=.running:=(qx hSj').elim (·.1) (fun z=>by omega)
        have hp:partners (gs.setIfInBounds i ph) c false=[]:=qt fun x y hy=>by
          by_cases hxj:x=j
          . subst hxj;rw[qE hjh hgj]at hy;obtain rfl:=qa hy;exact qf (by rw[hjr];simp) _ _
          . exact hoff x y hxj hy
        have hsend:=crowd_send_room (sl:=sl') hi (hcomm (i==0) (w.at d)) hcd (by simpa using hcap) hp
        rw[show qd i g.frame.fn g.frame.place #[]=#[] from rfl,qu,show(#[]:Array Value).push v=#[v] from rfl]at hsend
        refine .head (by rw[hst];exact hsend) ?_
        have hops:∀op∈(#[{ g:=i,fn:=aq.frame.fn,pos:=aq.frame.place,act:=.send c k },{ g:=i,fn:=aq.frame.fn,pos:=aq.frame.place,act:=.sendDone c k }]:Trace),op.g=i:=by
          intro op hop;simp only[qi,zMc,zNm,or_false]at hop;rcases hop with rfl|rfl<;>rfl
        have hq0:∀x,Deaf (T++#[{ g:=i,fn:=aq.frame.fn,pos:=aq.frame.place,act:=.send c k },{ g:=i,fn:=aq.frame.fn,pos:=aq.frame.place,act:=.sendDone c k }]) x=Deaf T x:=fun x=>qP fun op hop dd=>by
          simp only[qi,zMc,zNm,or_false]at hop;rcases hop with rfl|rfl<;>rfl
        generalize hu2:(#[{ g:=i,fn:=aq.frame.fn,pos:=aq.frame.place,act:=.send c k },{ g:=i,fn:=aq.frame.fn,pos:=aq.frame.place,act:=.sendDone c k }]:Trace)=u at hops hq0 ⊢;have e0:(T++u)[T.size]?=some { g:=i,fn:=aq.frame.fn,pos:=aq.frame.place,act:=.send c k }:=by subst hu2;simp
        have p1:PastO (ownL OB) (zcr WB) (fun g=>Mem g/\g≠i/\Inb g≠none) (fun g=>((fun y=>if y=i then none else Inb y) g).isSome) B (fun x=>Before (T++u) x T.size) (T++u):=by
          refine C.past.mute (fun x hx=>.inr (hx.hb_new (qz _) e0 rfl)) (fun x gg hg hl=>.inr ?_) (fun op hop=>?_) (fun gg hgg x hx=>(hx gg hgg.1).app _) (fun gg hgg=>by rw[hq0];exact C.past.hears gg hgg.1) (fun op hop=>?_)
          . show(if gg=i then none else Inb gg).isSome=true
            rw[if_neg hl.1];exact hl.2
          . subst hu2;simp only[qi,zMc,zNm,or_false]at hop;rcases hop with rfl|rfl<;>rfl
          . subst hu2;simp only[qi,zMc,zNm,or_false]at hop;rcases hop with rfl|rfl<;>exact hcB
        have sa:SentAt c k T.size (T++u):=⟨by simp[Trace.act?,e0],i,g?_of e0,by rw[deaf_old (qz _)];exact C.past.hears i hMh⟩
        have hI':∀x s',(if x=i then none else Inb x)=some s'->x≠i/\Inb x=some s':=fun x s' e=>by
          by_cases hx:x=i
          . rw[if_pos hx]at e;cases e
          . rw[if_neg hx]at e;exact⟨hx,e⟩
        have Fl:zo0 P OB WB B Iv (fun g=>Mem g/\g≠i/\Inb g≠none) (fun y=>if y=i then none else Inb y) j c k T.size (T++u) (gs.setIfInBounds i (aq.finishComm P #[scase c v z'] .send 0 undef false)) ((w.at d).setChan c cap #[v] false (k+1) k false) (upd q i nh):=by
          refine⟨⟨fun x y _ hy=>?_,fun x s' c' hD ee hc'=>?_,fun x s' c' ee=>Cd.far x s' c' (hI' x s' ee).2,fun x s' ee=>Cd.wf x s' (hI' x s' ee).2,fun x y hx hy=>?_,fun x x' sx sv c' eq ez=>Cd.inj x x' sx sv c' (hI' x sx eq).2 (hI' x' sv ez).2,fun x hx=>?_,
            fun x s' ee=>⟨⟨(Cd.mem x s' (hI' x s' ee).2).1,(hI' x s' ee).1,by rw[(hI' x s' ee).2];simp⟩,(Cd.mem x s' (hI' x s' ee).2).2⟩,fun x hM=>.inl ?_,fun x s' _ ee=>?_,p1,Cd.apart,Cd.ivst,by simpa[qo] using Cd.lowB⟩,sa⟩
          . show zg2 P OB WB B Iv (T++u) x (upd q i nh x) y _ (if x=i then none else Inb x)
            by_cases ex:x=i
            . subst ex;rw[qc hlth]at hy;obtain rfl:=qa hy;rw[upd_same,if_pos rfl];exact⟨h0,by rw[hq0,C.past.hears x hMh];exact hafter⟩
            . rw[qb (fun z=>ex z.symm)]at hy;rw[upd_ne q nh ex,if_neg ex];have hid:=Cd.idle x y ex hy;cases es:Inb x with
              | none=>rw[es]at hid;exact⟨hid.1,by rw[hq0];exact hid.2⟩
              | some s'=>rw[es]at hid;exact qC Cd.ivst hid (zeK hfar hWc _ _ _ _ _ _)
          . obtain⟨h1,h2⟩:=hI' x s' ee;have hne:c≠c':=fun ec=>hD (C.inj x j s' s c h2 hj (ec▸hc') hsc);obtain⟨cap',k',hk'⟩:=Cd.chans x s' c' (fun z=>z) h2 hc';exact⟨cap',k',by rw[qn _ _ _ _ _ _ _ hne];exact hk'⟩
          . subst hx;rw[qb (fun z=>hjh z.symm),hgj]at hy;obtain rfl:=qa hy;exact hjr
          . rw[hq0];exact Cd.above x (by simpa using hx)
          . show(if x=i then none else Inb x)≠none
            rw[if_neg hM.2.1];exact hM.2.2
          . show(if x=i then none else Inb x).isSome=true
            rw[ee];rfl
        have hsz1:((w.at d).setChan c cap #[v] false (k+1) k false).heap.size=w.heap.size:=by simp[qo];rfl
        have hfl:=zsf (P:=P) (OB:=OB) (WB:=WB) (B:=B) (Iv:=Iv) (Inb:=fun y=>if y=i then none else Inb y) (Mem:=fun g=>Mem g/\g≠i/\Inb g≠none) (m:=T.size) (s:=s) (by show(if j=i then none else Inb j)=some s;rw[if_neg hjh];exact hj) hk hWc ((w.at d).setChan c cap #[v] false (k+1) k false)
          (fun c' h1 h2=>by
            obtain⟨cap',k',hk'⟩:=Cd.chans j s c' (fun z=>z) hj h1;exact⟨cap',k',by rw[qn _ _ _ _ _ _ _ (fun e=>h2 e.symm)];exact hk'⟩) _ (sl:=sl') rfl (by simpa using hjlt) (SideD.refl _) (qD (w.at d) hcd _ _ _ _ _ _) Fl
        refine hfl.bind fun m' T'=>?_;rintro⟨gs',gq,w1,k2,sl2,q',rfl,h1,h2,h3,h4,h5,h6,h7⟩;refine .here ⟨gs',gq,w1,k2,sl2,q',rfl,by simpa using h1,h2,h3,⟨fun b hb hne=>?_,?_,?_⟩,h5,h6,h7⟩
        . rw[h4.only b hb,qn _ _ _ _ _ _ _ (fun e=>hne e.symm)];exact hwd.only b hb
        . rw[h4.size,hsz1];exact hwd.size
        . rw[h4.rest];have:=hwd.rest;simp only[qo];rw[this]
      . -- j is parked: the meeting
        have hp:partners (gs.setIfInBounds i ph) c false=[(j,kk)]:=by
          rw[qU (qE hjh hgj) fun x y hxj hy=>hoff x y hxj hy,offersAt_parked_at hk hu];rfl
        have hmeet:=zeX (sl:=sl') (k:=0) hi (hcomm (i==0) (w.at d)) rfl (fun m c' hm hc'=>by
          cases m with
          | zero=>exact absurd rfl hm
          | succ m=>simp at hc') hcd hjh hgj hk hp
        rw[show qd i g.frame.fn g.frame.place #[]=#[] from rfl,qu]at hmeet
        refine .head (by rw[hst];exact hmeet) (.here ?_)
        have hDeaf:∀x,Deaf (T++met i j aq.frame.fn aq.frame.place gq.frame.fn gq.frame.place c k cap) x=Deaf T x:=fun x=>qP (met_quiet _ _ _ _ _ _ _ _ _ x);have p2:=PastO.give C.past hMh hMj aq.frame.fn aq.frame.place gq.frame.fn gq.frame.place k cap hcB;have hivj':Iv j (w.at d):=C.ivst j w (w.at d) ⟨fun _ _ _=>rfl,fun _ _ _=>rfl⟩ hivj;have R:=RingO.pass (cap:=cap) (k:=k) Cd hj hsc hWc hcd (gs':=(gs.setIfInBounds j (gq.finishComm P s.cases s.shape kk v true)).setIfInBounds i (aq.finishComm P #[scase c v z'] .send 0 undef false)) (by simp) (fun x hx hxj=>by rw[qb (fun z=>hx z.symm),qb (fun z=>hxj z.symm)])
          (qc (by simpa using hlth)) hDeaf (Inb':=fun y=>if y=i then none else Inb y) hI (.inr hIi) (nh:=nh) (by rw[if_pos rfl];exact⟨h0,by rw[hDeaf,C.past.hears i hMh];exact hafter⟩) p2
        have hMM:(fun g=>Mem g/\((fun y=>if y=i then none else Inb y) g≠none\/g=j))=(fun g=>Mem g/\g≠i/\Inb g≠none):=by
          funext x;apply propext;constructor
          . rintro⟨h1,h2|rfl⟩
            . by_cases hx:x=i
              . subst hx;exact absurd hIi h2
              . exact⟨h1,hx,by rw[<-hI x hx];exact h2⟩
            . exact⟨h1,hjh,by rw[hj];simp⟩
          . rintro⟨h1,h2,h3⟩;exact⟨h1,.inl (by rw[hI x h2];exact h3)⟩
        rw[hMM]at R;exact⟨_,gq,w.at d,k,sl',_,rfl,by simp,by rw[qb (fun z=>hjh z.symm),qc (by omega)],hat.2.2.2.2.1,hwd.c c,hivj',(qg.1 hc).1,R⟩
    . obtain⟨gs',ops,q',w',hrt,hsz',hsp,hS,hw0',_,_,C',hlt⟩:=qw (sl:=sl') (fun t u i=>Knows.app u) Cd hi e hg
        (fun x gx w' hx hgx _=>by subst hx;rw[ha]at hgx;obtain rfl:=qa hgx;exact qj (.inl hrun) _) (fun hD=>hD.elim)
        (fun s gq _ _=>⟨fun hD=>hD,fun x gx c hx hgx _=>by subst hx;rw[ha]at hgx;obtain rfl:=qa hgx;exact qf (by rw[hrun];simp) _ _⟩)
      have:=ih (sumTo gs'.size q') (by rw[hsz',hn];exact hlt) (sl:=sl') rfl (by omega) (hwd.trans hS.d) (by rw[hS.only c hfar];exact hc) (by rw[hsp h rfl];exact ha) C'
      rw[hsz']at this;exact .head (ho:=by exact .side hS.rest) (by rw[hst];exact hrt) this
end
section
variable {P:Program}{OB WB:Nat->Prop}{B:Nat}{Iv:Nat->World->Prop}{K:Trace->Nat->Prop}{Mem Lo:Nat->Prop}{Inb:Nat->Option Seat}{Sp Dead:Nat->Prop}{T:Trace}{gs:Array Goroutine}{w:World}{q:Nat->Nat}{h j c kk kh:Nat}
theorem AtS.tries{gy:Goroutine}(h:AtS P s gy gq)(cs:Array CommCase)(sh:CommShape):AtS P s { parked gq cs sh with status:=.running } gq:=by
  obtain⟨_,h1,h2,h3,hh,hst⟩:=h;exact⟨rfl,rfl,rfl,rfl,hh,fun main w=>by rw[<-hst main w];exact stepG_same h1.symm h2.symm h3.symm w⟩
def zl5(P:Program)(OB WB:Nat->Prop)(B:Nat)(Iv:Nat->World->Prop)(Mem:Nat->Prop)(Inb:Nat->Option Seat)(j c m:Nat)(T:Trace)(gs:Array Goroutine)(w:World)(q:Nat->Nat):Prop :=
  CoF P OB WB B Iv (fun t i=>Before t i m) Mem (fun g=>(Inb g).isSome) Inb (fun _=>False) (·=j) T gs w q/\ClosedAt c m T
def zra(P:Program)(OB WB:Nat->Prop)(B:Nat)(Iv:Nat->World->Prop)(Mem:Nat->Prop)(Inb:Nat->Option Seat)(j:Nat)(s:Seat)(kk n:Nat)(z:Value)(w0:World)(mm:Machine)(t:Trace):Prop :=
  ∃(gs':Array Goroutine) (gq:Goroutine) (w1:World) (sl':Option (Nat×Nat)) (q':Nat->Nat),mm=crowd gs' w1 sl'/\gs'.size=n/\gs'[j]?=some (gq.finishComm P s.cases s.shape kk z false)/\s.home gq/\SideD OB w0 w1/\Iv j w1 /\
    RingO P OB WB B Iv Mem (fun i=>if i=j then none else Inb i) j t gs' w1 q'
theorem zpW(hj:Inb j=some s)(hk:s.cases[kk]?=some (rcase c z))(w0:World)(hoth:∀c',s.has c'->c'≠c->∃cap' k',w0.heap[c']?=some (.chan cap' #[] false k' k' false)):
    ∀(n:Nat) {T:Trace} {gs:Array Goroutine} {w:World} {q:Nat->Nat} {sl:Option (Nat×Nat)},n=sumTo gs.size q->j<gs.size->SideD OB w0 w->w.heap[c]?=some (.chan cap #[] true k k false)->zl5 P OB WB B Iv Mem Inb j c m T gs w q ->
      Reach P (crowd gs w sl) T (zra P OB WB B Iv Mem Inb j s kk gs.size z w0):=by
  intro n
  induction n using qp with
  | _ n ih =>
    intro T gs w q sl hn hjlt hw0 hbuf Fl;obtain⟨C,sa⟩:=Fl;have hsc:s.has c:=⟨kk,z,hk⟩;have hwf:=C.wf j s hj;obtain⟨hMj,hcB'⟩:=C.mem j s hj;have hcB:=hcB' c hsc;have hfar:=C.far j s c hj hsc;obtain⟨gj,hgj⟩:∃gj,gs[j]?=some gj:=⟨gs[j]'(by omega),qe (by omega)⟩
    have hjr:=C.live j gj rfl hgj;obtain⟨i,g,d,sl',hi,hg,hst⟩:=qA (P:=P) (w:=w) (sl:=sl) (CoF.awake C fun x g hx _=>hx.elim) ⟨j,gj,hgj,hjr⟩;have Cd:=CoF.at C d;have hwd:SideD OB w0 (w.at d):=hw0.trans (SideD.at w d);have hbufd:(w.at d).heap[c]?=some (.chan cap #[] true k k false):=hbuf;by_cases ej:i=j/\∃gq,AtS P s g gq
    . obtain⟨rfl,gq,hat⟩:=ej;have hSj:SitsO P OB WB B Iv i s (q i) g (w.at d):=by have:=Cd.idle i g (fun z=>z) hi;rwa [hj]at this
      have hivj:=hSj.at_iv hat;obtain⟨_,_,_,_,hhome,hstp⟩:=hat;have hp:partners (gs.setIfInBounds i ph) c true=[]:=qt fun x y hy=>by
        rcases ql gs i x y hy with⟨_,rfl⟩|⟨_,hy'⟩
        . exact qs _ _
        . exact qy Cd (fun z=>z) hy' _
      have hopen:∀c',s.has c'->c'≠c->∃cap' k',(w.at d).heap[c']?=some (.chan cap' #[] false k' k' false):=fun c' h1 h2=>by
        obtain⟨cap',k',h3⟩:=hoth c' h1 h2;exact⟨cap',k',by rw[hwd.only c' (C.far i s c' hj h1)];exact h3⟩
      have ho:∀(m':Nat) (c':CommCase),m'≠kk->s.cases[m']?=some c'->NoWays (w.at d) (gs.setIfInBounds i ph) c':=by
        intro m' c' hm hc';obtain⟨cq,zq,rfl⟩:=hwf.recvs c' (qr hc');have hne:cq≠c:=fun ec=>hm (hwf.apart m' kk c zq z (ec▸hc') hk);obtain⟨capq,kx,hcq⟩:=hopen cq ⟨m',zq,hc'⟩ hne;refine qH (w₁:=w.at d) hcq (qt fun x y hy=>?_);rcases ql gs i x y hy with⟨_,rfl⟩|⟨_,hy'⟩
        . exact qs _ _
        . exact qy Cd (fun z=>z) hy' _
      have hstep:=crowd_sel_recv_closed (sl:=sl') hi (hstp (i==0) (w.at d)) hk ho hbufd hp;rw[show qd i g.frame.fn g.frame.place #[]=#[] from rfl,qu]at hstep
      have p2:=PastO.takeClosed C.past sa.1 sa.2 hMj gq.frame.fn gq.frame.place hcB;have hall:∀op∈(#[{ g:=i,fn:=gq.frame.fn,pos:=gq.frame.place,act:=.recvClosed c }]:Trace),op.g=i:=by
        intro op hop;simp only[qi,zMc,zNm,or_false]at hop;subst hop;rfl
      have hI':∀x s',(if x=i then none else Inb x)=some s'->x≠i/\Inb x=some s':=fun x s' e=>by
        by_cases hx:x=i
        . rw[if_pos hx]at e;cases e
        . rw[if_neg hx]at e;exact⟨hx,e⟩
      refine .head (by rw[hst];exact hstep) (.here ⟨_,gq,w.at d,sl',q,rfl,by simp,by rw[qc (by omega)],hhome,hwd,hivj,?_⟩)
      refine⟨fun x y hx hy=>?_,fun x s' c' _ e hc'=>?_,fun x s' c' e=>Cd.far x s' c' (hI' x s' e).2,fun x s' e=>Cd.wf x s' (hI' x s' e).2,fun _ _ z=>z.elim,fun x x' sx sv c' eq ez=>Cd.inj x x' sx sv c' (hI' x sx eq).2 (hI' x' sv ez).2,fun x hx=>?_,
        fun x s' e=>Cd.mem x s' (hI' x s' e).2,fun x hM=>?_,fun x s' hx e=>⟨hx,?_⟩,p2.fewer (fun g hg=>hg) fun g ⟨hs,hg⟩=>⟨hg,?_⟩,Cd.apart,Cd.ivst,Cd.lowB⟩
      . show zg2 P OB WB B Iv _ x (q x) y _ (if x=i then none else Inb x)
        rw[if_neg hx];rw[qb (fun z=>hx z.symm)]at hy;have hid:=Cd.idle x y (fun z=>z) hy;cases e:Inb x with
        | none=>rw[e]at hid;exact⟨hid.1,by rw[qB T (fun z=>hx z.symm) _ hall];exact hid.2⟩
        | some s'=>rw[e]at hid;exact hid
      . obtain⟨h1,h2⟩:=hI' x s' e;exact Cd.chans x s' c' h1 h2 hc'
      . simp only[qm]at hx;rw[qB T (g':=i) (by omega) _ hall]
        exact Cd.above x hx
      . by_cases hx:x=i
        . exact .inr hx
        . exact .inl (by show(if x=i then none else Inb x)≠none;rw[if_neg hx];exact(Cd.nomem x hM).elim id fun z=>z.elim)
      . show(if x=i then none else Inb x).isSome=true
        rw[e];rfl
      . show(if g=i then none else Inb g).isSome=true
        rw[if_neg hg];exact hs
    . obtain⟨gs',ops,q',w',hrt,hsz',_,hS,hw0',_,_,C',hlt⟩:=qw (sl:=sl') (fun t u i=>Before.app u) Cd hi (fun z=>z) hg (fun _ _ _ z=>z.elim) (fun hD=>by subst hD;rw[hj];simp)
        (fun s' gq hs' hat=>⟨fun hD=>by subst hD;rw[hj]at hs';obtain rfl:=qa hs';exact ej ⟨rfl,gq,hat⟩,fun _ _ _ z=>z.elim⟩)
      have:=ih (sumTo gs'.size q') (by rw[hsz',hn];exact hlt) (sl:=sl') rfl (by omega) (hwd.trans hS.d) (by rw[hS.only c hfar];exact hbuf) ⟨C',sa.app ops⟩
      rw[hsz']at this;exact .head (ho:=by exact .side hS.rest) (by rw[hst];exact hrt) this
end
section
variable {P:Program}{OB WB:Nat->Prop}{B:Nat}{Iv:Nat->World->Prop}{K:Trace->Nat->Prop}{Mem Lo:Nat->Prop}{Inb:Nat->Option Seat}{Sp Dead:Nat->Prop}{T:Trace}{gs:Array Goroutine}{w:World}{q:Nat->Nat}{h j c kk kh:Nat}
theorem ztk{a:Goroutine}(hjh:j≠h)(hj:Inb j=some s)(hk:s.cases[kk]?=some (rcase c z))(hMh:Mem h)(hrun:a.status=.running)(hWc:¬WB c)(hwake:mayWake P a=true)(ha':a'.status=.running)(hclose:∀main w k,w.heap[c]?=some (.chan cap #[] false k k false)->stepG P main a w=.go a' (w.setChan c cap #[] true k k false) (closeEvents c)){Inb1:Nat->Option Seat}(hI:∀x,x≠h->Inb1 x=Inb x)(hIh:Inb1 h=Inb h\/Inb1 h=none)(w0:World)(hafter:∀T' w1 k,Deaf T' h=0->SideD (fun b=>OB b/\h≠0) w0 w1->zg2 P OB WB B Iv T' h nh a' (w1.setChan c cap #[] true k k false) (Inb1 h)):
    ∀(n:Nat) {T:Trace} {gs:Array Goroutine} {w:World} {q:Nat->Nat} {sl:Option (Nat×Nat)} {k:Nat},n=sumTo gs.size q->j<gs.size->SideD (fun b=>OB b/\h≠0) w0 w->w.heap[c]?=some (.chan cap #[] false k k false)->gs[h]?=some a->RingO P OB WB B Iv Mem Inb h T gs w q ->
      Reach P (crowd gs w sl) T fun m' T'=>∃w1 k,SideD (fun b=>OB b/\h≠0) w0 w1/\zra P OB WB B Iv (fun g=>Mem g/\Inb1 g≠none) Inb1 j s kk gs.size z (w1.setChan c cap #[] true k k false) m' T':=by
  intro n
  induction n using qp with
  | _ n ih =>
    intro T gs w q sl k hn hjlt hw0 hc ha C;have hsc:s.has c:=⟨kk,z,hk⟩;have hwf:=C.wf j s hj;obtain⟨hMj,hcB'⟩:=C.mem j s hj;have hcB:=hcB' c hsc;have hfar:=C.far j s c hj hsc;obtain⟨gj,hgj⟩:∃gj,gs[j]?=some gj:=⟨gs[j]'(by omega),qe (by omega)⟩
    have hlth:h<gs.size:=(qg.1 ha).1;obtain⟨i,g,d,sl',hi,hg,hst⟩:=qA (P:=P) (w:=w) (sl:=sl) (CoF.awake C fun x g hx hgx=>by subst hx;rw[ha]at hgx;obtain rfl:=qa hgx;exact .inl hrun) ⟨h,a,ha,hrun⟩
    have Cd:RingO P OB WB B Iv Mem Inb h T gs (w.at d) q:=CoF.at C d;have hcd:(w.at d).heap[c]?=some (.chan cap #[] false k k false):=hc;have hwd:SideD (fun b=>OB b/\h≠0) w0 (w.at d):=hw0.trans (SideD.at w d);by_cases e:i=h
    . subst e;obtain rfl:g=a:=by rw[ha]at hi;exact(qa hi).symm
      generalize hW:(w.at d).setChan c cap #[] true k k false=W;have hrt:=runT_crowd_go (P:=P) (sl:=sl') hi (hclose (i==0) (w.at d) k hcd);rw[hW]at hrt;have hcW:W.heap[c]?=some (.chan cap #[] true k k false):=hW▸qD (w.at d) hcd _ _ _ _ _ _;have hrlW:∀x,Rl OB WB x (w.at d) W:=fun x=>hW▸zeK hfar hWc _ _ _ _ _ _;have hopen:∀x s' c',c'≠c->Inb x=some s'->s'.has c'->∃cap' k',W.heap[c']?=some (.chan cap' #[] false k' k' false):=by
        intro x s' c' hne e hc';obtain⟨cap',k',hk'⟩:=Cd.chans x s' c' (fun z=>z) e hc';exact⟨cap',k',by rw[<-hW,qn _ _ _ _ _ _ _ (fun ec=>hne ec.symm)];exact hk'⟩
      have hnot:∀x s' c',x≠j->Inb x=some s'->s'.has c'->c'≠c:=fun x s' c' hx e hc' ec=>hx (C.inj x j s' s c e hj (ec▸hc') hsc);have hwk:∀y,woken P g a' W y=y.again W:=by intro y;simp[woken,hwake,ha']
      have hSj:SitsO P OB WB B Iv j s (q j) gj (w.at d):=by have:=Cd.idle j gj hjh hgj;rwa [hj]at this
      obtain⟨gj',nj,hgj',hSj',hjr⟩:∃gj' nj,woken P g a' W gj=gj'/\SitsO P OB WB B Iv j s nj gj' W/\gj'.status=.running:=by
        rcases hSj with⟨kq,hq,hG⟩|⟨_,⟨gy,gq,rfl,hat⟩,hiv⟩
        . have hjr:gj.status=.running:=(qx (.inl ⟨kq,hq,hG⟩:SitsO P OB WB B Iv j s (q j) gj (w.at d))).elim (·.1) (fun z=>by omega)
          exact⟨gj,q j,by rw[hwk];exact qj (.inl hjr) W,qC C.ivst (.inl ⟨kq,hq,hG⟩) (hrlW j),hjr⟩
        . refine⟨_,1,by rw[hwk,again_some_closed hk hcW],.inl ⟨0,rfl,fun w1 h1=>⟨⟨gq,hat.tries _ _⟩,?_⟩⟩,rfl⟩
          exact C.ivst j _ _ h1 (C.ivst j _ _ (hrlW j) hiv)
      have hEv:∀e∈closeEvents c,EvHd (zcr WB) B e:=closeEvents_ok hcB;obtain⟨hops,hs,hl,hdf⟩:=evHd_ops (Still:=zcr WB) (B:=B) (i:=i) (fn:=g.frame.fn) (pos:=g.frame.place) hEv;have hown:∀op∈qd i g.frame.fn g.frame.place (closeEvents c),∀b,op.act.touch?=some b->(zcr WB b.loc->b.write=false)/\(ownL OB b.loc->i=0):=fun op hop b hb=>⟨hs op hop b hb,fun⟨a,e,_⟩=>by
        rw[qO]at hop;simp only[qi,zMc,zNm,or_false]at hop;rcases hop with rfl|rfl
        . simp only[qF,qh]at hb;subst hb;cases e
        . simp[qF]at hb⟩
      have hDeaf:∀x,Deaf (T++qd i g.frame.fn g.frame.place (closeEvents c)) x=Deaf T x:=fun x=>by
        by_cases ex:x=i
        . subst ex;exact hdf T
        . exact qB T (fun z=>ex z.symm) _ hops
      have p1:=PastO.appH C.past hops hown (hdf T) hl;have hm:(T++qd i g.frame.fn g.frame.place (closeEvents c))[T.size+1]?=some { g:=i,fn:=g.frame.fn,pos:=g.frame.place,act:=.close c }:=by rw[at_new,qO];rfl
      have hsz2:(T++qd i g.frame.fn g.frame.place (closeEvents c)).size=T.size+2:=by rw[Array.size_append,qO];rfl
      have p2:=p1.away hm rfl fun q' z' h1 _ h3=>by have:=lt_size_of_getElem? h1;omega
      have sa:ClosedAt c (T.size+1) (T++qd i g.frame.fn g.frame.place (closeEvents c)):=⟨by simp[Trace.act?,hm],i,g?_of hm,by
        have h1:(T++qd i g.frame.fn g.frame.place (closeEvents c)).deaf i (T.size+1)=Deaf T i:=deaf_quiet (t:=T) (u:=qd i g.frame.fn g.frame.place (closeEvents c)) (g:=i) (fun op hop dd=>by
          rw[qO]at hop;simp only[qi,zMc,zNm,or_false]at hop;rcases hop with rfl|rfl<;>rfl) 1 (by rw[qO];simp)
        rw[h1];exact C.past.hears i hMh⟩
      have hI1:∀x s',Inb1 x=some s'->Inb x=some s':=fun x s' e=>by
        by_cases hx:x=i
        . subst hx;rcases hIh with z|z
          . rw[<-z];exact e
          . rw[z]at e;cases e
        . rw[<-hI x hx];exact e
      have harr:∀x,((gs.map (woken P g a' W)).setIfInBounds i a')[x]?=if x=i then some a' else if x=j then some gj' else gs[x]?:=by
        intro x;by_cases hx:x=i
        . subst hx;rw[if_pos rfl];exact qc (by simpa using hlth)
        . rw[if_neg hx,qb (fun e=>hx e.symm),qS];by_cases hxj:x=j
          . subst hxj;rw[if_pos rfl,hgj];simp[hgj']
          . rw[if_neg hxj];cases ey:gs[x]? with
            | none=>rfl
            | some y =>
              have hid:=Cd.idle x y hx ey;have:woken P g a' W y=y:=by
                rw[hwk];cases es:Inb x with
                | none=>rw[es]at hid;exact qj hid.2.status W
                | some s' =>
                  rw[es]at hid;refine SitsO.again hid (C.wf x s' es) fun c' hc'=>?_;obtain⟨cap',k',hk'⟩:=hopen x s' c' (hnot x s' c' hxj es hc') es hc';exact⟨_,_,_,_,_,hk'⟩
              simp[this]
      have Fl:zl5 P OB WB B Iv (fun g=>Mem g/\Inb1 g≠none) Inb1 j c (T.size+1) (T++qd i g.frame.fn g.frame.place (closeEvents c)) ((gs.map (woken P g a' W)).setIfInBounds i a') W (upd (upd q j nj) i nh):=by
        refine⟨⟨fun x y _ hy=>?_,fun x s' c' hD ee hc'=>?_,fun x s' c' ee=>Cd.far x s' c' (hI1 x s' ee),fun x s' ee=>Cd.wf x s' (hI1 x s' ee),fun x y hx hy=>?_,fun x x' sx sv c' eq ez=>Cd.inj x x' sx sv c' (hI1 x sx eq) (hI1 x' sv ez),fun x hx=>?_,
          fun x s' ee=>⟨⟨(Cd.mem x s' (hI1 x s' ee)).1,by rw[ee];simp⟩,(Cd.mem x s' (hI1 x s' ee)).2⟩,fun x hM=>.inl hM.2,fun x s' _ ee=>by rw[ee];rfl,p2.fewer (fun g hg=>hg.1) (fun g hg=>by rw[hI g hg.1];exact hg.2),Cd.apart,Cd.ivst,by rw[<-hW];simpa[qo] using Cd.lowB⟩,sa⟩
        . rw[harr x]at hy;by_cases ex:x=i
          . subst ex;rw[if_pos rfl]at hy;obtain rfl:=qa hy;rw[upd_same];have:=hafter (T++qd x g.frame.fn g.frame.place (closeEvents c)) (w.at d) k (by rw[hDeaf];exact C.past.hears x hMh) hwd
            rw[hW]at this;exact this
          . rw[if_neg ex]at hy;rw[upd_ne _ nh ex,hI x ex];by_cases exj:x=j
            . subst exj;rw[if_pos rfl]at hy;obtain rfl:=qa hy;rw[upd_same,hj];exact hSj'
            . rw[if_neg exj]at hy;rw[upd_ne q nj exj];have hid:=Cd.idle x y ex hy;cases es:Inb x with
              | none=>rw[es]at hid;exact⟨hid.1,by rw[hDeaf];exact hid.2⟩
              | some s'=>rw[es]at hid;exact qC Cd.ivst hid (hrlW x)
        . exact hopen x s' c' (hnot x s' c' hD (hI1 x s' ee) hc') (hI1 x s' ee) hc'
        . subst hx;rw[harr x,if_neg hjh,if_pos rfl]at hy;obtain rfl:=qa hy;exact hjr
        . rw[hDeaf];exact Cd.above x (by simpa using hx)
      refine .head (ho:=by exact⟨by show W.os=_;rw[<-hW];rfl,by show W.tape=_;rw[<-hW];rfl,by show W.output=_;rw[<-hW];rfl⟩) (by rw[hst];exact hrt) ?_
      have hfl:=zpW (P:=P) (OB:=OB) (WB:=WB) (B:=B) (Iv:=Iv) (Inb:=Inb1) (Mem:=fun g=>Mem g/\Inb1 g≠none) (m:=T.size+1) (s:=s) (c:=c) (k:=k) (cap:=cap) (by rw[hI j hjh];exact hj) hk W (fun c' h1 h2=>hopen j s c' h2 hj h1) _ (sl:=sl') rfl (by simpa using hjlt) (SideD.refl _) hcW Fl
      refine hfl.bind fun m' T' hF=>.here ⟨w.at d,k,hwd,?_⟩;rw[hW];simpa using hF
    . obtain⟨gs',ops,q',w',hrt,hsz',hsp,hS,hw0',_,_,C',hlt⟩:=qw (sl:=sl') (fun t u i=>Knows.app u) Cd hi e hg
        (fun x gx w' hx hgx _=>by subst hx;rw[ha]at hgx;obtain rfl:=qa hgx;exact qj (.inl hrun) _) (fun hD=>hD.elim)
        (fun s gq _ _=>⟨fun hD=>hD,fun x gx c hx hgx _=>by subst hx;rw[ha]at hgx;obtain rfl:=qa hgx;exact qf (by rw[hrun];simp) _ _⟩)
      have:=ih (sumTo gs'.size q') (by rw[hsz',hn];exact hlt) (sl:=sl') rfl (by omega) (hwd.trans (hS.by' hw0' e)) (by rw[hS.only c hfar];exact hc) (by rw[hsp h rfl];exact ha) C'
      rw[hsz']at this;exact .head (ho:=by exact .side hS.rest) (by rw[hst];exact hrt) this
end
theorem zkj{P:Program}{main:Bool}{R R':World->World->Prop}{D D':World->World->Array Event->Prop}{Stop:Goroutine->World->Prop}(hR:∀w w',R' w w'->R w w')(hD:∀w w' es,D w w' es->D' w w' es):
    ∀{n:Nat} {g:Goroutine} {w:World},qG P main R D Stop n g w->qG P main R' D' Stop n g w
  | 0,_,_,h=>fun w₁ h₁=>h w₁ (hR _ _ h₁)
  | n+1,g,w,h=>by
    rcases h with h|⟨hs,h⟩
    . exact .inl fun w₁ h₁=>h w₁ (hR _ _ h₁)
    . refine .inr ⟨hs,fun w₁ h₁=>?_⟩;have:=h w₁ (hR _ _ h₁);cases hgo:stepG P main g w₁ with
      | go g' w' es =>
        rw[hgo,qN]at this;rw[qN];exact⟨hD _ _ _ this.1,zkj hR hD this.2⟩
      | _=>rw[hgo]at this;exact this.elim
section
variable {P:Program}{OB WB OB' WB':Nat->Prop}{B:Nat}{Iv:Nat->World->Prop}{K:Trace->Nat->Prop}{Mem Lo:Nat->Prop}{Inb:Nat->Option Seat}{Sp Dead:Nat->Prop}{T:Trace}{gs:Array Goroutine}{w:World}{q:Nat->Nat}{h:Nat}
theorem Rl.less(hO:∀b,OB b->OB' b)(hW:∀b,WB b->WB' b){w:World}(h:Rl OB' WB' i w w'):Rl OB WB i w w':=⟨fun a ha h3=>h.1 a (hW _ ha) h3,fun e b hb=>h.2 e b (hO b hb)⟩
theorem Dw.more(hO:∀b,OB b->OB' b)(hW:∀b,WB b->WB' b){w:World}{es:Array Event}(h:Dw OB WB B i w w' es):Dw OB' WB' B i w w' es :=
  ⟨fun b hb=>h.only b fun hx=>hb ⟨hx.1,hO b hx.2⟩,h.size,h.rest,fun e he=>by
    obtain⟨a,h1,⟨h2,h3,h4⟩|⟨h2,h3,h4⟩⟩:=h.evs e he
    . exact⟨a,h1,.inl ⟨h2,hW _ h3,h4⟩⟩
    . exact⟨a,h1,.inr ⟨h2,hO _ h3,h4⟩⟩⟩
theorem SitsO.more(hO:∀b,OB b->OB' b)(hW:∀b,WB b->WB' b)(h:SitsO P OB WB B Iv i s n g w):SitsO P OB' WB' B Iv i s n g w:=by
  rcases h with⟨k,h1,h2⟩|h
  . exact .inl ⟨k,h1,zkj (fun _ _ x=>x.less hO hW) (fun _ _ _ x=>x.more hO hW) h2⟩
  . exact .inr h
theorem CoF.grow(C:CoF P OB WB B Iv K Mem Lo Inb Sp Dead T gs w q)(hO:∀b,OB b->OB' b)(hW:∀b,WB b->WB' b)(hap:∀b,OB' b->¬WB' b)(hfar:∀i s c,Inb i=some s->s.has c->¬OB' c)(hown:∀i a,touchAt T i=some a->ownL OB' a.loc->T.g? i=some 0)(hst:∀i a,touchAt T i=some a->a.write=true->zcr WB' a.loc->zcr WB a.loc):CoF P OB' WB' B Iv K Mem Lo Inb Sp Dead T gs w q:=by
  refine⟨fun i g h1 h2=>?_,C.chans,hfar,C.wf,C.live,C.inj,C.above,C.mem,C.nomem,C.lo,?_,hap,fun i w w1 hr=>C.ivst i w w1 (hr.less hO hW),C.lowB⟩
  . have h:=C.idle i g h1 h2;cases e:Inb i with
    | none=>rw[e]at h;exact h
    | some s=>rw[e]at h;exact SitsO.more hO hW h
  . have H:=C.past;have hSt:∀l,zcr WB l->zcr WB' l:=fun l ⟨a,h1,h2,h3⟩=>⟨a,h1,hW _ h2,h3⟩;have hOw:∀l,ownL OB l->ownL OB' l:=fun l ⟨a,h1,h2⟩=>⟨a,h1,hO _ h2⟩;exact⟨H.clean,fun i a ha hm=>(H.known i a ha hm).imp id (Or.imp (hOw _) fun⟨x,y,z⟩=>⟨x,hSt _ y,z⟩),fun i a ha hw hS=>H.wrote i a ha hw (hst i a ha hw hS),hown,H.hears,H.seen⟩
theorem CoF.iv{Iv':Nat->World->Prop}(C:CoF P OB WB B Iv K Mem Lo Inb Sp Dead T gs w q)(hst:∀i w w1,Rl OB WB i w w1->Iv' i w->Iv' i w1)(hI:∀i s w',¬Sp i->Inb i=some s->Iv i w'->Iv' i w'):CoF P OB WB B Iv' K Mem Lo Inb Sp Dead T gs w q:=by
  have goes_stop:∀{main:Bool} {R:World->World->Prop} {D:World->World->Array Event->Prop} {S S':Goroutine->World->Prop} (hS:∀g w,S g w->S' g w) {n:Nat} {g:Goroutine} {w:World},qG P main R D S n g w->qG P main R D S' n g w:=by
    intro main R D S S' hS n
    induction n with
    | zero=>exact fun h w1 h1=>hS _ _ (h w1 h1)
    | succ n ih =>
      intro g w h;rcases h with h|⟨hs,h⟩
      . exact .inl fun w1 h1=>hS _ _ (h w1 h1)
      . refine .inr ⟨hs,fun w1 h1=>?_⟩;have:=h w1 h1;cases hgo:stepG P main g w1 with
        | go g' w' es =>
          rw[hgo,qN]at this;rw[qN];exact⟨this.1,ih this.2⟩
        | _=>rw[hgo]at this;exact this.elim
  refine⟨fun i g h1 h2=>?_,C.chans,C.far,C.wf,C.live,C.inj,C.above,C.mem,C.nomem,C.lo,C.past,C.apart,hst,C.lowB⟩;have h:=C.idle i g h1 h2;cases e:Inb i with
  | none=>rw[e]at h;exact h
  | some s =>
    rw[e]at h;rcases h with⟨k,h3,h4⟩|⟨h3,h4,h5⟩
    . exact .inl ⟨k,h3,goes_stop (fun g w hx=>⟨hx.1,hI i s w h1 e hx.2⟩) h4⟩
    . exact .inr ⟨h3,h4,hI i s _ h1 e h5⟩
theorem zkM(hL:Leavers P T gs q)(hP:Past (fun _=>False) B T)(Iv:Nat->World->Prop)(hIv:∀i w w1,Rl (fun _=>False) (fun _=>False) i w w1->Iv i w->Iv i w1)(hBw:B<=w.heap.size):RingO P (fun _=>False) (fun _=>False) B Iv (fun g=>g=0) (fun _=>none) 0 T gs w q:=by
  refine⟨fun i g hi hg=>⟨qV hi,hL.old i g (qV hi) hg⟩,fun _ _ _ _ e=>(by cases e),fun _ _ _ e=>(by cases e),fun _ _ e=>(by cases e),fun _ _ z=>z.elim,fun _ _ _ _ _ e=>(by cases e),hL.above,fun _ _ e=>(by cases e),fun _ hM=>.inr hM,fun _ _ _ e=>(by cases e),?_,fun _ z=>z.elim,hIv,hBw⟩
  exact⟨hP.clean,fun i a ha hm=>.inl ((hP.known i a ha hm).elim id fun x=>x.1.elim),fun i a _ _ ⟨_,_,h,_⟩=>h.elim,fun i a _ ⟨_,_,h⟩=>h.elim,fun g hg=>by subst hg;exact hP.hears,hP.seen⟩
theorem zpD(C:RingO P OB WB B Iv Mem Inb 0 T gs w q)(h0:Mem 0)(hI:∀i,i≠0->Inb i=none):Leavers P T gs q/\Past (fun _=>False) B T:=by
  have H:=C.past;have hk:∀i a,touchAt T i=some a->a.loc.isMemory=true->Knows T 0 i:=fun i a ha hm=>by
    rcases H.known i a ha hm with hk|hO|⟨_,_,g,_,hg,hs⟩
    . exact hk
    . obtain⟨x,hx,hxg⟩:=Option.map_eq_some_iff.1 (H.own i a ha hO);have:=knows_own hx;rw[hxg]at this;exact this
    . rw[hI g hg]at hs;cases hs
  refine⟨⟨fun i g hi hg=>by have:=C.idle i g (by omega) hg;rw[hI i (by omega)]at this;exact this.2,C.above⟩,H.clean,fun i a ha hm=>.inl (hk i a ha hm),fun i g hg hne ⟨x,hx,hm,_⟩=>?_,H.hears 0 h0,H.seen⟩
  obtain⟨q',z,hq,hz,hb⟩:=hk i x hx hm;rcases hb with rfl|hb
  . rw[g?_of hq,hz]at hg;exact absurd (qa hg).symm hne
  . exact⟨q',by rw[g?_of hq,hz],hb⟩
end
end Go.Proofs.Ytpkkfkebnhgaiaa
