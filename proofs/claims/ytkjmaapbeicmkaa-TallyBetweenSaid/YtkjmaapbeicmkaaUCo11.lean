/- Laws. -/
import Derived.Test.YtkjmaapbeicmkaaUQuick
set_option maxHeartbeats 40000000
set_option linter.unusedVariables false
set_option linter.unusedSimpArgs false
open Option.some renaming inj->qa,injEq->qh
open Array renaming getElem?_setIfInBounds_ne->qb,getElem?_setIfInBounds_self_of_lt->qc,getElem?_eq_getElem->qe,getElem?_eq_some_iff->qg,size_setIfInBounds->qj,mem_of_getElem?->qt,empty_append->qw,mem_iff_getElem->qz,ext_getElem?->qG,getD_eq_getD_getElem?->qM,getElem?_push->qT,getElem?_map->qV,size_map->q3
open Go.Conc renaming offersAt_of_not_blocked->qd,again_of_running->qk,heap_setChan_ne->ql,getElem?_stand->qo,offersAt_ph->qv,partners_nil->qx,stand_get->qA,crowd_pick->qB,Deaf_other->qC,Goes->qD,mem_ofEvents->qJ,offersAt_parked_off->qK,heap_setChan_self->qN,G->qP,ways_recv_none->qQ,Deaf_quiet->qS,partners_one->qX,goes_go->qY
open Go.MemOp renaming ofEvents->qf
open Go.Value.chan renaming injEq->qi
open Nat renaming le_refl->qm,strongRecOn->qr,le_trans->qR,pos_of_ne_zero->qZ
open List renaming mem_toArray->qn
open Go.World renaming setChan->qp
open Option renaming map_eq_some_iff->qs
open Classical renaming byContradiction->qu
open Go.Proofs.Ytkjmaapbeicmkaa.CoF renaming by_step->qy,awake->qE,noSend->qI
open Go.Proofs.Ytkjmaapbeicmkaa.SitsO renaming rely->qF,status->qH
namespace Go.Proofs.Ytkjmaapbeicmkaa
open Go Go.Conc
open Go.ConcN (sumTo upd sumTo_upd upd_ne upd_same)
variable {w' w0 b:World}{m:Machine}{t:Trace}{Q:Machine->Trace->Prop}
section
variable {P:Program}{OB WB:Nat->Prop}{B:Nat}{Iv:Nat->World->Prop}{K:Trace->Nat->Prop}{Mem Lo:Nat->Prop}{Inb:Nat->Option Seat}{Sp Dead:Nat->Prop}{T:Trace}{gs:Array Goroutine}{w:World}{q:Nat->Nat}{h:Nat}{BB RR:Nat->Prop}
theorem CoF.fixed'(C:CoF P OB WB B Iv K Mem Lo Inb Sp Dead T gs w q){w1:World}(hS:∀i s c,Inb i=some s->s.has c->w1.heap[c]?=w.heap[c]?){x:Nat}{y:Goroutine}(hx:¬Sp x)(hy:gs[x]?=some y):y.again w1=y:=by
  have h:=C.idle x y hx hy;cases e:Inb x with
  | none=>rw[e]at h;exact qk h.2.status w1
  | some s =>
    rw[e]at h;by_cases hD:Dead x
    . exact qk (.inl (C.live x y hD hy)) w1
    . exact SitsO.again h (C.wf x s e) fun c hc=>by
        obtain⟨cap,k,hk⟩:=C.chans x s c hD e hc;exact⟨_,_,_,_,_,by rw[hS x s c e hc];exact hk⟩
theorem RingO.own(C:RingO P OB WB B Iv Mem Inb h T gs w q)(F:zhH OB WB Inb h BB RR){a a':Goroutine}{es:Array Event}(ha:gs[h]?=some a)(hfr:∀b,BB b\/RR b->w'.heap[b]?=w.heap[b]?)(he:∀e∈es,Own1 BB RR w'.heap.size e)(hwz:w.heap.size<=w'.heap.size):
    RingO P OB WB (max B w'.heap.size) Iv Mem Inb h (T++qf h a.frame.fn a.frame.place es) ((gs.map (woken P a a' w')).setIfInBounds h a') w' q/\((gs.map (woken P a a' w')).setIfInBounds h a')[h]?=some a':=by
  have hlt:h<gs.size:=(qg.1 ha).1;have hBm:B<=max B w'.heap.size:=Nat.le_max_left _ _;obtain⟨hops,hs,hl,hdf⟩:=zrm (B:=max B w'.heap.size) (h:=h) (fn:=a.frame.fn) (pos:=a.frame.place) F (Nat.le_max_right _ _) he;have hch:∀i s c,Inb i=some s->s.has c->w'.heap[c]?=w.heap[c]?:=fun i s c hi hc=>hfr c (.inl (F.chans i s c hi hc));have hrl:∀x,x≠h->Rl OB WB x w w':=fun x hx=>⟨fun ad had _=>zdQ (hfr _ (F.waits _ had)),fun e b hb=>hfr b (.inl (F.own b hb (by omega)))⟩
  refine⟨⟨fun x y hx hy=>?_,fun i s c _ hi hc=>?_,C.far,C.wf,fun _ _ hx=>hx.elim,C.inj,fun j hj=>?_,CoF.memB hBm C,C.nomem,C.lo,PastO.appH (C.past.mono hBm) hops hs (hdf T) hl,C.apart,C.ivst,Nat.max_le.2 ⟨qR C.lowB hwz,qm _⟩⟩,qc (by simpa using hlt)⟩
  . rw[qb (fun e=>hx e.symm),qV]at hy;obtain⟨yq,hyq,rfl⟩:=qs.1 hy;rw[woken_of_again (CoF.fixed' C hch hx hyq)];have hi:=CoF.idleB hBm C x yq hx hyq;cases es':Inb x with
    | none=>rw[es']at hi;exact⟨hi.1,by rw[qC T (fun z=>hx z.symm) _ hops];exact hi.2⟩
    | some s=>rw[es']at hi;exact qF C.ivst hi (hrl x hx)
  . obtain⟨cap,k,hk⟩:=C.chans i s c (fun z=>z) hi hc;exact⟨cap,k,by rw[hch i s c hi hc];exact hk⟩
  . simp only[qj,q3]at hj;rw[qC T (g':=h) (by omega) _ hops]
    exact C.above j hj
theorem zri{w:World}(S:Shade BB RR w0 w)(t:Tape):Shade BB RR (WT w0 t) w:=⟨S.size,S.low,S.same,S.dead,S.cold,S.novw⟩
theorem zqf{w:World}(S:Shade BB RR w0 w)(d:Nat):Shade BB RR w0 (w.at d):=⟨S.size,S.low,S.same,S.dead,S.cold,S.novw⟩
theorem zh0{w:World}(S:Shade BB RR w0 w)(hs:w'.heap.size=w.heap.size)(ho:∀b,¬BB b->w'.heap[b]?=w.heap[b]?):Shade BB RR w0 w' :=
  ⟨by rw[hs];exact S.size,fun b hb=>by rw[hs];exact S.low b hb,fun b h1 h2=>(S.same b h1 h2).trans (ho b h1).symm,S.dead,fun b h1 h2=>by rw[ho b h2];exact S.cold b h1 h2,S.novw⟩
structure Step2 (OB BB RR:Nat->Prop) (h:Nat) (w w':World):Prop where
  keep:∀b,BB b\/RR b->¬ (OB b/\h≠0)->w'.heap[b]?=w.heap[b]?
  size:w.heap.size<=w'.heap.size
  os:w'.os=w.os
  tape:w'.tape=w.tape
  output:w'.output=w.output
theorem Step2.refl(w:World):Step2 OB BB RR h w w:=⟨fun _ _ _=>rfl,qm _,rfl,rfl,rfl⟩
theorem Step2.trans{a c:World}(x:Step2 OB BB RR h a b)(y:Step2 OB BB RR h b c):Step2 OB BB RR h a c :=
  ⟨fun b h1 h2=>(y.keep b h1 h2).trans (x.keep b h1 h2),qR x.size y.size,y.os.trans x.os,y.tape.trans x.tape,y.output.trans x.output⟩
structure SOs (w w':World):Prop where
  os:w'.os=w.os
  tape:w'.tape=w.tape
  output:w'.output=w.output
theorem SOs.refl(w:World):SOs w w:=⟨rfl,rfl,rfl⟩
theorem SOs.trans{a c:World}(x:SOs a b)(y:SOs b c):SOs a c:=⟨y.os.trans x.os,y.tape.trans x.tape,y.output.trans x.output⟩
theorem SOs.side{w:World}{d:Nat}(h:w'={ w.at d with heap:=w'.heap }):SOs w w':=⟨(congrArg World.os h).trans rfl,(congrArg World.tape h).trans rfl,(congrArg World.output h).trans rfl⟩
theorem SOs.of{w:World}{d:Nat}(h:w'={ w.at d with heap:=w'.heap,drawn:=w'.drawn }):SOs w w':=⟨(congrArg World.os h).trans rfl,(congrArg World.tape h).trans rfl,(congrArg World.output h).trans rfl⟩
def Reach(P:Program)(m:Machine)(t:Trace)(Q:Machine->Trace->Prop):Prop:=∃N m' t',runNT P N m t=(.next m',t')/\SOs m.world m'.world/\Q m' t'
theorem Reach.here(h:Q m t):Reach P m t Q:=⟨0,m,t,rfl,.refl _,h⟩
theorem Reach.head{m':Machine}{ops:Trace}(hs:stepT P m=(.next m',ops))(h:Reach P m' (t++ops) Q)(ho:SOs m.world m'.world:=by exact⟨rfl,rfl,rfl⟩):Reach P m t Q:=by
  obtain⟨N,m2,t2,hr,ho2,hq⟩:=h;exact⟨N+1,m2,t2,by simp only[runNT,hs];exact hr,ho.trans ho2,hq⟩
theorem Reach.bind{Q':Machine->Trace->Prop}(h:Reach P m t Q)(hq:∀m' t',Q m' t'->Reach P m' t' Q'):Reach P m t Q':=by
  obtain⟨N,m1,t1,h1,ho1,h2⟩:=h;obtain⟨N',m2,t2,h3,ho2,h4⟩:=hq m1 t1 h2;exact⟨N+N',m2,t2,runNT_then h1 h3,ho1.trans ho2,h4⟩
theorem zjr{End:Goroutine->World->Prop}(hrunE:∀g w,End g w->g.status=.running){a:Goroutine}(hT:Tree P End a w0):∀(n:Nat) {B:Nat} {T:Trace} {gs:Array Goroutine} {w:World} {q:Nat->Nat} {sl:Option (Nat×Nat)},sumTo gs.size q=n->gs[h]?=some a->Shade BB RR w0 w->zhH OB WB Inb h BB RR->RingO P OB WB B Iv Mem Inb h T gs w q ->
    Reach P (crowd gs w sl) T fun m' T'=>∃gs' a' w0' w' sl' q' B',m'=crowd gs' w' sl'/\gs'.size=gs.size/\gs'[h]?=some a'/\End a' w0'/\Shade BB RR w0' w'/\Step2 OB BB RR h w w'/\RingO P OB WB B' Iv Mem Inb h T' gs' w' q':=by
  induction hT with
  | here he=>intro n B T gs w q sl _ ha S F C;exact .here ⟨gs,_,_,w,sl,q,B,rfl,rfl,ha,he,S,Step2.refl w,C⟩
  | @step c w0 nx hx ht ih =>
    intro n
    induction n using qr with
    | _ n ihn =>
      intro B T gs w q sl hn ha S F C;have hrun:c.status=.running:=(hx w.tape).1;obtain⟨i,g,d,sl',hi,hg,hst⟩:=qB (P:=P) (w:=w) (sl:=sl) (qE C fun x g hx hgx=>by subst hx;rw[ha]at hgx;obtain rfl:=qa hgx;exact .inl hrun) ⟨h,c,ha,hrun⟩
      have Cd:RingO P OB WB B Iv Mem Inb h T gs (w.at d) q:=CoF.at C d;have Sd:=zqf S d;by_cases e:i=h
      . subst e;obtain rfl:g=c:=by rw[ha]at hi;exact(qa hi).symm
        let t:Tape:=fun k qq=>w.tape (d+(k - w0.drawn)) qq
        obtain⟨_,es,x⟩:=(hx t).2 (show NoV (WT w0 t) from S.nov)
        obtain⟨w',h1,h2,h3,h4,h5,_,h7⟩:=x.move BB RR (i==0) (w.at d) (zri Sd t) fun k qq _=>by
          show w.tape (d+(w0.drawn+k - w0.drawn)) qq=w.tape (d+k) qq;rw[Nat.add_sub_cancel_left]
        obtain⟨C',ha'⟩:=RingO.own (a':=(nx t).1) Cd F ha h4 h7 h3;refine .head (ho:=by exact⟨by show w'.os=_;rw[h5];rfl,by show w'.tape=_;rw[h5];rfl,by show w'.output=_;rw[h5];rfl⟩) (by rw[hst];exact runT_crowd_go (sl:=sl') ha h1) ?_
        refine(ih t _ rfl ha' h2 F C').bind fun m' T'=>?_;rintro⟨gs',a',w0',w2,sl2,q',B',rfl,k1,k2,k3,k4,k5,k6⟩;have k0:Step2 OB BB RR i w w':=⟨fun b hb _=>h4 b hb,h3,by rw[h5];rfl,by rw[h5];rfl,by rw[h5];rfl⟩
        exact .here ⟨gs',a',w0',w2,sl2,q',B',rfl,by simpa using k1,k2,k3,k4,k0.trans k5,k6⟩
      . obtain⟨gs',ops,q',w',hrt,hsz',hsp,hS,hw0,_,_,C',hlt⟩:=qy (sl:=sl') (fun t u i=>Knows.app u) Cd hi e hg
          (fun x gx w' hx hgx _=>by subst hx;rw[ha]at hgx;obtain rfl:=qa hgx;exact qk (.inl hrun) _) (fun hD=>hD.elim)
          (fun s gq _ _=>⟨fun hD=>hD,fun x gx c hx hgx _=>by subst hx;rw[ha]at hgx;obtain rfl:=qa hgx;exact qd (by rw[hrun];simp) _ _⟩)
        refine .head (ho:=by exact .side hS.rest) (by rw[hst];exact hrt) ?_
        have hOB:∀b,¬BB b->w'.heap[b]?=(w.at d).heap[b]?:=fun b hb=>by
          by_cases h0:i=0
          . exact hS.only b fun ho=>hb (F.own b ho (by omega))
          . rw[hw0 h0]
        refine(ihn (sumTo gs'.size q') (by rw[hsz',<-hn];exact hlt) rfl (by rw[hsp h rfl];exact ha) (zh0 Sd hS.size hOB) F C').bind fun m' T'=>?_
        rintro⟨gs2,a',w0',w2,sl2,q2,B',rfl,k1,k2,k3,k4,k5,k6⟩;have k0:Step2 OB BB RR h w w':=⟨fun b _ ho=>(by
          by_cases h0:i=0
          . exact hS.only b fun z=>ho ⟨z,by omega⟩
          . rw[hw0 h0];rfl),Nat.le_of_eq hS.size.symm,by rw[hS.rest];rfl,by rw[hS.rest];rfl,by rw[hS.rest];rfl⟩
        exact .here ⟨gs2,a',w0',w2,sl2,q2,B',rfl,by omega,k2,k3,k4,k0.trans k5,k6⟩
end
end Go.Proofs.Ytkjmaapbeicmkaa
namespace Go.Proofs.Ytkjmaapbeicmkaa
open Go Go.Conc
section
variable {P:Program}{gs:Array Goroutine}{w w₁:World}{sl:Option (Nat × Nat)}{i j k kj:Nat}{g gq gj:Goroutine}{es:Array Event}{cases cs:Array CommCase}{shape shj:CommShape}{blocking:Bool}
  {c cap s r:Nat} {buf:Array Value} {closed tm:Bool} {v z zj:Value}
theorem zeW(hi:gs[i]?=some g)(h:stepG P (i==0) g w=.comm gq cases blocking shape w₁ es)(hk:cases[k]?=some (scase c v z))(ho:∀(m:Nat) (c':CommCase),m≠k->cases[m]?=some c'->NoWays w₁ (gs.setIfInBounds i ph) c')(hc:w₁.heap[c]?=some (.chan cap buf false s s tm))(hij:j≠i)(hj:gs[j]?=some (parked gj cs shj))(hkj:cs[kj]?=some (rcase c zj))(hp:partners (gs.setIfInBounds i ph) c false=[(j,kj)]):
    runT P (crowd gs w sl) i=(.next (crowd ((gs.setIfInBounds j (gj.finishComm P cs shj kj v true)).setIfInBounds i (gq.finishComm P cases shape k undef false)) (w₁.setChan c cap buf false (s+1) (s+1) tm) sl),
      qf i g.frame.fn g.frame.place es++met i j gq.frame.fn gq.frame.place gj.frame.fn gj.frame.place c s cap):=by
  have hw:ways w₁ (gs.setIfInBounds i ph) (scase c v z)=[.partner j kj]:=by simp[ways,scase,hc,hp]
  have hj':=qA (i:=i) hij hj;have hfp:=finishPartner_at P (gs.setIfInBounds i ph) hj' (cs:=cs) (sh:=shj) rfl kj v;have hgd:(gs.setIfInBounds i ph).getD j default=parked gj cs shj:=by rw[qM,hj'];rfl
  rw[runT_crowd_comm hi h];unfold communicate;simp only[ready_one hk (by rw[hw];simp) ho,hw]
  rw[if_neg]
  . simp[choose,Sem.run,Question.forced,bind,Sem.bind,pure,scase,crowd,hc,hfp,hgd,set_stand2,finishComm_parked,rcase,parked,hkj,qp,met];rfl
  . rw[Bool.not_eq_true];exact any_ill (made_of_one hk (made_send v z hc) ho)
theorem zhU(hi:gs[i]?=some g)(h:stepG P (i==0) g w=.comm gq cases blocking shape w₁ es)(hk:cases[k]?=some (rcase c z))(ho:∀(m:Nat) (c':CommCase),m≠k->cases[m]?=some c'->NoWays w₁ (gs.setIfInBounds i ph) c')(hc:w₁.heap[c]?=some (.chan cap #[] closed s s tm))(hij:j≠i)(hj:gs[j]?=some (parked gj cs shj))(hkj:cs[kj]?=some (scase c v zj))(hp:partners (gs.setIfInBounds i ph) c true=[(j,kj)]):
    runT P (crowd gs w sl) i=(.next (crowd ((gs.setIfInBounds j (gj.finishComm P cs shj kj undef false)).setIfInBounds i (gq.finishComm P cases shape k v true)) (w₁.setChan c cap #[] closed (s+1) (s+1) tm) sl),
      qf i g.frame.fn g.frame.place es++met j i gj.frame.fn gj.frame.place gq.frame.fn gq.frame.place c s cap):=by
  have hw:ways w₁ (gs.setIfInBounds i ph) (rcase c z)=[.partner j kj]:=by simp[ways,rcase,hc,hp]
  have hj':=qA (i:=i) hij hj;have hfp:=finishPartner_at P (gs.setIfInBounds i ph) hj' (cs:=cs) (sh:=shj) rfl kj undef;have hgd:(gs.setIfInBounds i ph).getD j default=parked gj cs shj:=by rw[qM,hj'];rfl
  have hov:offeredValue (gs.setIfInBounds i ph) j kj=v:=by simp[offeredValue,hj',parked,hkj,scase]
  rw[runT_crowd_comm hi h];unfold communicate;simp only[ready_one hk (by rw[hw];simp) ho,hw]
  rw[if_neg]
  . simp[choose,Sem.run,Question.forced,bind,Sem.bind,pure,rcase,crowd,hc,hfp,hgd,hov,set_stand2,finishComm_parked,scase,parked,hkj,qp,met];rfl
  . rw[Bool.not_eq_true];exact any_ill (made_of_one hk (made_recv z hc) ho)
theorem zd8{g:Goroutine}{sh:CommShape}(hk:cs[k]?=some (scase c v z))(hu:∀(m:Nat) (cc:CommCase),m≠k->cs[m]?=some cc->cc.chan≠.chan (some c)):offersAt (parked g cs sh) c true=[k]:=by
  simp only[offersAt,parked];have hz:∀m:Nat,cs.zipIdx.toList[m]?=(cs[m]?).map fun x=>(x,m):=by intro m;simp
  have:=filter_map_one (id:CommCase×Nat->CommCase×Nat) (fun(x:CommCase×Nat)=>x.1.send.isSome==true && (match x.1.chan with|.chan (some r')=>r'==c|_=>false)) cs.zipIdx.toList k (scase c v z,k) (by rw[hz,hk];rfl) (by simp[scase])
    (fun m x hm hx=>by
      rw[hz]at hx;cases e:cs[m]? with
      | none=>rw[e]at hx;cases hx
      | some y =>
        rw[e]at hx;simp only[Option.map_some,qh]at hx;subst hx;have hne:=hu m y hm e;simp only[id,Bool.and_eq_false_iff];right;split
        . rename_i r' e';simp only[beq_eq_false_iff_ne];intro er;exact hne (er▸e')
        . rfl)
  simp only[List.map_id,id]at this;exact(congrArg (List.map fun x=>x.snd) this).trans rfl
end
end Go.Proofs.Ytkjmaapbeicmkaa
namespace Go.Proofs.Ytkjmaapbeicmkaa
open Go Go.Conc
open Go.ConcN (sumTo upd sumTo_upd upd_ne upd_same)
variable {b w' w1:World}{i x n cap k nh:Nat}{s:Seat}{g aq a':Goroutine}{v z z':Value}
section
variable {P:Program}{OB WB:Nat->Prop}{B:Nat}{Iv:Nat->World->Prop}{K:Trace->Nat->Prop}{Mem Lo:Nat->Prop}{Inb:Nat->Option Seat}{Sp Dead:Nat->Prop}{T:Trace}{gs:Array Goroutine}{w:World}{q:Nat->Nat}{h j c kk kh:Nat}
theorem Side.trans{a c:World}(h:Side OB a b)(h':Side OB b c):Side OB a c :=
  ⟨fun x hx=>(h'.only x hx).trans (h.only x hx),h'.size.trans h.size,by rw[h'.rest,h.rest]⟩
structure SideD (OB:Nat->Prop) (w w':World):Prop where
  only:∀b,¬OB b->w'.heap[b]?=w.heap[b]?
  size:w'.heap.size=w.heap.size
  rest:w'={ w with heap:=w'.heap,drawn:=w'.drawn }
theorem SideD.refl(w:World):SideD OB w w:=⟨fun _ _=>rfl,rfl,rfl⟩
theorem SideD.trans{a c:World}(h:SideD OB a b)(h':SideD OB b c):SideD OB a c :=
  ⟨fun x hx=>(h'.only x hx).trans (h.only x hx),h'.size.trans h.size,by rw[h'.rest,h.rest]⟩
theorem SideD.at(w:World)(d:Nat):SideD OB w (w.at d):=⟨fun _ _=>rfl,rfl,rfl⟩
theorem Side.d{a:World}(h:Side OB a b):SideD OB a b:=⟨h.only,h.size,by have:=h.rest;rw[this]⟩
theorem Side.by'{a:World}{h:Nat}(hs:Side OB a b)(h0:i≠0->b=a)(hi:i≠h):SideD (fun x=>OB x/\h≠0) a b:=by
  by_cases e:i=0
  . exact⟨fun x hx=>hs.only x fun hb=>hx ⟨hb,by omega⟩,hs.size,hs.d.rest⟩
  . rw[h0 e];exact SideD.refl a
theorem CoF.noRecvAt(C:CoF P OB WB B Iv K Mem Lo Inb Sp Dead T gs w q){y:Goroutine}(hx:¬Sp x)(hy:gs[x]?=some y){c:Nat}(hc:∀s,Inb x=some s->¬s.has c):offersAt y c false=[]:=by
  have h:=C.idle x y hx hy;cases e:Inb x with
  | none =>
    rw[e]at h;exact qd (fun hb=>by rcases h.2.status with z|z<;>rw[z]at hb<;>cases hb) c false
  | some s =>
    rw[e]at h;rcases h with h|⟨_,⟨_,gq,rfl,_⟩,_⟩
    . have:=(qH (.inl h)).elim (·.1) (fun z=>by obtain⟨k,hk,_⟩:=h;omega)
      exact qd (fun hb=>by rw[this]at hb;cases hb) c false
    . refine qK (fun cc hcc ec=>?_) _;obtain⟨c',z',rfl⟩:=(C.wf x s e).recvs cc hcc;simp only[rcase,qi,qh]at ec;subst ec;exact hc s e (Seat.has_of_mem hcc)
theorem SitsO.at_iv{s':Seat}{gq:Goroutine}(h:SitsO P OB WB B Iv i s n g w)(hat:AtS P s' g gq):Iv i w:=by
  rcases h with⟨k,rfl,hg⟩|⟨_,_,h⟩
  . cases k with
    | zero=>exact(hg w (Rl.refl w)).2
    | succ k =>
      rcases hg with hg|⟨_,hg⟩
      . exact(hg w (Rl.refl w)).2
      . have:=hg w (Rl.refl w);rw[hat.2.2.2.2.2 (i==0) w]at this;exact this.elim
  . exact h
theorem zgs{cs:Array CommCase}{sh:CommShape}{w:World}(h:∀(m:Nat) (cc:CommCase),cs[m]?=some cc->∃c cap buf s r tm,cc.chan=.chan (some c)/\w.heap[c]?=some (.chan cap buf false s r tm)):(parked g cs sh).again w=parked g cs sh:=by
  simp[Goroutine.again,parked];intro x hx;obtain⟨c,cap,buf,s,r,tm,e,hc⟩:=h x cs[x] (qe hx);rw[e];simp[hc]
theorem zfX{c:Nat}{w:World}(hO:¬OB c)(hW:¬WB c)(cap:Nat)(buf:Array Value)(cl:Bool)(a b:Nat)(tm:Bool):Rl OB WB x w (w.setChan c cap buf cl a b tm) :=
  ⟨fun ad had _=>zdQ (ql w cap buf cl a b tm fun e=>hW (e▸had)),fun _ y hy=>ql w cap buf cl a b tm fun e=>hO (e▸hy)⟩
theorem RingO.pass(C:RingO P OB WB B Iv Mem Inb h T gs w q)(hj:Inb j=some s)(hsc:s.has c)(hWc:¬WB c){o:Obj}(hc:w.heap[c]?=some o){gs':Array Goroutine}{T':Trace}{H':Goroutine}(hsz:gs'.size=gs.size)(hoth:∀x,x≠h->x≠j->gs'[x]?=gs[x]?)(hH:gs'[h]?=some H')(hDeaf:∀x,Deaf T' x=Deaf T x){Inb':Nat->Option Seat}(hI:∀x,x≠h->Inb' x=Inb x)(hIh:Inb' h=Inb h\/Inb' h=none)(hafter:ziX P OB WB B Iv T' h nh H' (w.setChan c cap #[] false (k+1) (k+1) false) (Inb' h))(hpast:PastO (ownL OB) (zcW WB) Mem (fun g=>(g≠h/\(Inb g).isSome)/\g≠j) B (Knows T' j) T'):
    RingO P OB WB B Iv (fun g=>Mem g/\(Inb' g≠none\/g=j)) Inb' j T' gs' (w.setChan c cap #[] false (k+1) (k+1) false) (upd q h nh):=by
  have hsub:∀i s',Inb' i=some s'->Inb i=some s':=by
    intro i s' e;by_cases hi:i=h
    . subst hi;rcases hIh with z|z
      . rw[<-z];exact e
      . rw[z]at e;cases e
    . rw[<-hI i hi];exact e
  refine⟨fun x y hx hy=>?_,fun i s' c' _ e hc'=>?_,fun i s' c' e=>C.far i s' c' (hsub _ _ e),fun i s' e=>C.wf i s' (hsub _ _ e),fun _ _ hx=>hx.elim,fun i i' sx sv c' eq ey=>C.inj i i' sx sv c' (hsub _ _ eq) (hsub _ _ ey),fun x hx=>by rw[hDeaf];exact C.above x (by omega),
    fun i s' e=>⟨⟨(C.mem i s' (hsub _ _ e)).1,.inl (by rw[e];simp)⟩,(C.mem i s' (hsub _ _ e)).2⟩,fun i hM=>hM.2,fun i s' hi e=>⟨hi,by rw[e];rfl⟩,?_,C.apart,C.ivst,by simpa[qp] using C.lowB⟩
  . by_cases e:x=h
    . subst e;rw[hH]at hy;obtain rfl:=qa hy;rw[upd_same];exact hafter
    . rw[hoth x e hx]at hy;rw[upd_ne q nh e,hI x e];have hi:=C.idle x y e hy;cases es:Inb x with
      | none=>rw[es]at hi;exact⟨hi.1,by rw[hDeaf];exact hi.2⟩
      | some s'=>rw[es]at hi;exact qF C.ivst hi (zfX (C.far j s c hj hsc) hWc _ _ _ _ _ _)
  . by_cases ec:c=c'
    . exact⟨cap,k+1,by rw[<-ec];exact qN w hc _ _ _ _ _ _⟩
    . obtain⟨cap',k',hk'⟩:=C.chans i s' c' (fun z=>z) (hsub _ _ e) hc';exact⟨cap',k',by rw[ql w _ _ _ _ _ _ ec];exact hk'⟩
  . exact hpast.fewer (fun g hg=>hg.1) fun g ⟨⟨hgh,hs⟩,hgj⟩=>⟨hgj,by rw[hI g hgh];exact hs⟩
def zrF(P:Program)(OB WB:Nat->Prop)(B:Nat)(Iv:Nat->World->Prop)(Mem:Nat->Prop)(Inb':Nat->Option Seat)(h j:Nat)(s:Seat)(c kk n:Nat)(w:World)(v:Value)(m:Machine)(t:Trace):Prop :=
  ∃(gs':Array Goroutine) (gq:Goroutine) (w1:World) (k:Nat) (sl':Option (Nat×Nat)) (q':Nat->Nat),m=crowd gs' (w1.setChan c 0 #[] false (k+1) (k+1) false) sl'/\gs'.size=n/\gs'[j]?=some (gq.finishComm P s.cases s.shape kk v true)/\s.home gq/\SideD (fun b=>OB b/\h≠0) w w1/\Iv j w1 /\
    w1.heap[c]?=some (.chan 0 #[] false k k false)/\RingO P OB WB B Iv (fun g=>Mem g/\(Inb' g≠none\/g=j)) Inb' j t gs' (w1.setChan c 0 #[] false (k+1) (k+1) false) q'
theorem ztJ{a:Goroutine}{cases:Array CommCase}{shape:CommShape}(hjh:j≠h)(hj:Inb j=some s)(hk:s.cases[kk]?=some (rcase c z))(hMh:Mem h)(hrun:a.status=.running)(hWc:¬WB c)(hcomm:∀main w,stepG P main a w=.comm aq cases true shape w)(hkh:cases[kh]?=some (scase c v z'))(hoth:∀(m:Nat) (c':CommCase),m≠kh->cases[m]?=some c'->∃s' c2 z2,c'=rcase c2 z2/\Inb h=some s'/\s'.has c2){Inb':Nat->Option Seat}(hI:∀x,x≠h->Inb' x=Inb x)(hIh:Inb' h=Inb h\/Inb' h=none)(w0:World)(hafter:∀T' w1 k,Deaf T' h=0->SideD (fun b=>OB b/\h≠0) w0 w1->Iv j w1->ziX P OB WB B Iv T' h nh (aq.finishComm P cases shape kh undef false) (w1.setChan c 0 #[] false (k+1) (k+1) false) (Inb' h)):
    ∀(n:Nat) {T:Trace} {gs:Array Goroutine} {w:World} {q:Nat->Nat} {sl:Option (Nat×Nat)} {k:Nat} (pk:Bool),n=sumTo gs.size q+(if pk then 0 else 1)->j<gs.size->SideD (fun b=>OB b/\h≠0) w0 w->w.heap[c]?=some (.chan 0 #[] false k k false)->gs[h]?=some (if pk then parked aq cases shape else a) ->
      (pk=true->0<q j)->RingO P OB WB B Iv Mem Inb h T gs w q->Reach P (crowd gs w sl) T (zrF P OB WB B Iv Mem Inb' h j s c kk gs.size w0 v):=by
  intro n
  induction n using qr with
  | _ n ih =>
    intro T gs w q sl k pk hn hjlt hw0 hc ha hpk C;have hsc:s.has c:=⟨kk,z,hk⟩;have hwf:=C.wf j s hj;obtain⟨hMj,hcB'⟩:=C.mem j s hj;have hcB:=hcB' c hsc;have hu:∀(m:Nat) (cc:CommCase),m≠kk->s.cases[m]?=some cc->cc.chan≠.chan (some c):=by
      intro m cc hm hcc ec;obtain⟨cq,zq,rfl⟩:=hwf.recvs cc (qt hcc);simp only[rcase,qi,qh]at ec;subst ec;exact hm (hwf.apart m kk _ _ _ hcc hk)
    have huh:∀(m:Nat) (cc:CommCase),m≠kh->cases[m]?=some cc->cc.chan≠.chan (some c):=by
      intro m cc hm hcc ec;obtain⟨s',c2,z2,rfl,h1,h2⟩:=hoth m cc hm hcc;simp only[rcase,qi,qh]at ec;subst ec;exact hjh (C.inj j h s s' _ hj h1 hsc h2)
    obtain⟨gj,hgj⟩:∃gj,gs[j]?=some gj:=⟨gs[j]'(by omega),qe (by omega)⟩
    have hlth:h<gs.size:=(qg.1 ha).1;have hSj:SitsO P OB WB B Iv j s (q j) gj w:=by have:=C.idle j gj hjh hgj;rwa [hj]at this
    have hsome:∃(i:Nat) (g:Goroutine),gs[i]?=some g/\g.status=.running:=by
      cases pk with
      | false=>exact⟨h,a,ha,hrun⟩
      | true=>exact⟨j,gj,hgj,(qH hSj).elim (·.1) (fun z=>by have:=hpk rfl;omega)⟩
    obtain⟨i,g,d,sl',hi,hg,hst⟩:=qB (P:=P) (w:=w) (sl:=sl) (qE C fun x g hx hgx=>by
      subst hx;rw[ha]at hgx;obtain rfl:=qa hgx;cases pk
      . exact .inl hrun
      . exact .inr rfl) hsome
    have Cd:RingO P OB WB B Iv Mem Inb h T gs (w.at d) q:=CoF.at C d;have hcd:(w.at d).heap[c]?=some (.chan 0 #[] false k k false):=hc;have hwd:SideD (fun b=>OB b/\h≠0) w0 (w.at d):=hw0.trans (SideD.at w d);have hfar:=C.far j s c hj hsc
    -- the further cases have no way
    have hno:∀(m:Nat) (c':CommCase),m≠kh->cases[m]?=some c'->NoWays (w.at d) (gs.setIfInBounds h ph) c':=by
      intro m c' hm hc';obtain⟨s',c2,z2,rfl,h1,h2⟩:=hoth m c' hm hc';obtain⟨capq,kx,hcq⟩:=Cd.chans h s' c2 (fun z=>z) h1 h2;refine qQ hcq (qx fun x y hy=>?_);rcases qo gs h x y hy with⟨_,rfl⟩|⟨hx,hy'⟩
      . exact qv _ _
      . exact qI Cd hx hy' _
    -- behind either meeting
    have fin:∀(gs':Array Goroutine) (opsq:Array MemOp) (gq:Goroutine),gs'.size=gs.size->(∀x,x≠h->x≠j->gs'[x]?=gs[x]?)->gs'[h]?=some (aq.finishComm P cases shape kh undef false)->gs'[j]?=some (gq.finishComm P s.cases s.shape kk v true)->s.home gq->Iv j w->opsq=#[] ->
        zrF P OB WB B Iv Mem Inb' h j s c kk gs.size w0 v (crowd gs' ((w.at d).setChan c 0 #[] false (k+1) (k+1) false) sl') (T++(opsq++met h j aq.frame.fn aq.frame.place gq.frame.fn gq.frame.place c k 0)):=by
      intro gs' opsq gq hsz' hoth' hH hJ hhome hivj e0;subst e0;rw[qw];have hDeaf:∀x,Deaf (T++met h j aq.frame.fn aq.frame.place gq.frame.fn gq.frame.place c k 0) x=Deaf T x:=fun x=>qS (met_quiet _ _ _ _ _ _ _ _ _ x);have p2:=PastO.give C.past hMh hMj aq.frame.fn aq.frame.place gq.frame.fn gq.frame.place k 0 hcB;have hivj':Iv j (w.at d):=C.ivst j w (w.at d) ⟨fun _ _ _=>rfl,fun _ _ _=>rfl⟩ hivj;exact⟨gs',gq,w.at d,k,sl',upd q h nh,rfl,hsz',hJ,hhome,hwd,hivj',hc,RingO.pass Cd hj hsc hWc hcd hsz' hoth' hH hDeaf hI hIh (hafter _ _ _ (by rw[hDeaf];exact C.past.hears h hMh) hwd hivj') p2⟩
    by_cases e:i=h
    . subst e;cases pk with
      | true=>rw[ha]at hi;obtain rfl:=qa hi;cases hg
      | false =>
        obtain rfl:g=a:=by rw[ha]at hi;exact(qa hi).symm
        have hoff:∀(x:Nat) (y:Goroutine),x≠j->(gs.setIfInBounds i ph)[x]?=some y->offersAt y c false=[]:=by
          intro x y hxj hy;rcases qo gs i x y hy with⟨_,rfl⟩|⟨hx,hy'⟩
          . exact qv _ _
          . exact CoF.noRecvAt Cd hx hy' fun s' hs' hc'=>hxj (C.inj x j s' s c hs' hj hc' hsc)
        rcases hSj with⟨kq,hq,hG⟩|⟨hq0,⟨gy,gq,rfl,hat⟩,hivj⟩
        . -- j is on its way: the holder is parked
          have hjr:gj.status=.running:=(qH (.inl ⟨kq,hq,hG⟩:SitsO P OB WB B Iv j s (q j) gj w)).elim (·.1) (fun z=>by omega)
          have hp:partners (gs.setIfInBounds i ph) c false=[]:=qx fun x y hy=>by
            by_cases hxj:x=j
            . subst hxj;rw[qA hjh hgj]at hy;obtain rfl:=qa hy;exact qd (by rw[hjr];simp) _ _
            . exact hoff x y hxj hy
          have hw:∀cc∈cases,NoWays (w.at d) (gs.setIfInBounds i ph) cc:=by
            intro cc hcc;obtain⟨m,hm,rfl⟩:=qz.1 hcc;by_cases hmk:m=kh
            . subst hmk;have:cases[m]=scase c v z':=by simpa[hm] using hkh
              rw[this];exact ways_send_none hcd (qm _) hp
            . exact hno m _ hmk (qe hm)
          have hsetH:=crowd_waits (sl:=sl') hi (hcomm (i==0) (w.at d)) hw;rw[show qf i g.frame.fn g.frame.place #[]=#[] from rfl]at hsetH
          refine .head (by rw[hst];exact hsetH) ?_
          have C':RingO P OB WB B Iv Mem Inb i (T++#[]) (gs.setIfInBounds i (parked aq cases shape)) (w.at d) q:=by
            rw[Array.append_empty];refine⟨fun y gg hy hgg=>Cd.idle y gg hy (by rw[qb (fun e=>hy e.symm)]at hgg;exact hgg),Cd.chans,Cd.far,Cd.wf,fun _ _ z=>z.elim,Cd.inj,fun j hj=>Cd.above j (by simpa using hj),Cd.mem,Cd.nomem,Cd.lo,Cd.past,Cd.apart,Cd.ivst,Cd.lowB⟩
          have:=ih (sumTo (gs.setIfInBounds i (parked aq cases shape)).size q+0) (by simp at hn ⊢;omega) (sl:=sl') (k:=k) true (by simp) (by simpa using hjlt) hwd hcd (qc hlth) (fun _=>by omega) C'
          simpa using this
        . -- j is parked: the meeting
          have hp:partners (gs.setIfInBounds i ph) c false=[(j,kk)]:=by
            rw[qX (qA hjh hgj) fun x y hxj hy=>hoff x y hxj hy,offersAt_parked_at hk hu];rfl
          refine .head (by rw[hst];exact zeW (sl:=sl') hi (hcomm (i==0) (w.at d)) hkh hno hcd hjh hgj hk hp) (.here ?_)
          exact fin _ _ gq (by simp) (fun x hx hxj=>by rw[qb (fun z=>hx z.symm),qb (fun z=>hxj z.symm)]) (qc (by simpa using hlth))
            (by rw[qb (fun z=>hjh z.symm),qc (by omega)]) hat.2.2.2.2.1 hivj rfl
    . by_cases ej:i=j/\pk=true/\∃gq,AtS P s g gq
      . -- j comes to its receive and meets the parked holder
        obtain⟨rfl,rfl,gq,hat⟩:=ej;obtain rfl:g=gj:=by rw[hgj]at hi;exact(qa hi).symm
        have hivj:=hSj.at_iv hat;obtain⟨_,_,_,_,hhome,hstp⟩:=hat;have hp:partners (gs.setIfInBounds i ph) c true=[(h,kh)]:=by
          rw[qX (qA (Ne.symm hjh) ha) fun x y hxh hy=>by
            rcases qo gs i x y hy with⟨_,rfl⟩|⟨_,hy'⟩
            . exact qv _ _
            . exact qI Cd hxh hy' _]
          simp only[if_true];rw[zd8 hkh huh];rfl
        have ho:∀(m:Nat) (c':CommCase),m≠kk->s.cases[m]?=some c'->NoWays (w.at d) (gs.setIfInBounds i ph) c':=by
          intro m c' hm hc';obtain⟨cq,zq,rfl⟩:=hwf.recvs c' (qt hc');have hne:c≠cq:=fun ec=>hu m _ hm hc' (by rw[ec];rfl)
          obtain⟨capq,kx,hcq⟩:=Cd.chans i s cq (fun z=>z) hj ⟨m,zq,hc'⟩;refine qQ hcq (qx fun x y hy=>?_);rcases qo gs i x y hy with⟨_,rfl⟩|⟨_,hy'⟩
          . exact qv _ _
          . by_cases hxh:x=h
            . subst hxh;rw[ha]at hy';obtain rfl:=qa hy';simp only[if_true];refine qK (fun cc hcc ec=>?_) _;obtain⟨mm,hmm,rfl⟩:=qz.1 hcc;by_cases hmk:mm=kh
              . subst hmk;have:cases[mm]=scase c v z':=by simpa[hmm] using hkh
                rw[this]at ec;simp only[scase,qi,qh]at ec;exact hne ec
              . obtain⟨s',c3,z3,h0,h1,h2⟩:=hoth mm _ hmk (qe hmm);rw[h0]at ec;simp only[rcase,qi,qh]at ec;subst ec;exact hjh (C.inj i x s s' _ hj h1 ⟨m,zq,hc'⟩ h2)
            . exact qI Cd hxh hy' _
        have hmeet:=zhU (sl:=sl') hi (hstp (i==0) (w.at d)) hk ho hcd (Ne.symm hjh) ha hkh hp;rw[show qf i g.frame.fn g.frame.place #[]=#[] from rfl]at hmeet
        refine .head (by rw[hst];exact hmeet) (.here ?_)
        exact fin _ #[] gq (by simp) (fun x hx hxj=>by rw[qb (fun z=>hxj z.symm),qb (fun z=>hx z.symm)])
          (by rw[qb hjh,qc hlth]) (by rw[qc (by simp;omega)]) hhome hivj rfl
      . have hopen:∀w',Side OB (w.at d) w'->∀(m:Nat) (cc:CommCase),cases[m]?=some cc->∃c cap buf s r tm,cc.chan=.chan (some c)/\w'.heap[c]?=some (.chan cap buf false s r tm):=by
          intro w' hS m cc hcc;by_cases hmk:m=kh
          . subst hmk;rw[hkh]at hcc;obtain rfl:=qa hcc;exact⟨c,_,_,_,_,_,rfl,by rw[hS.only c hfar];exact hcd⟩
          . obtain⟨s',c3,z3,rfl,h1,h2⟩:=hoth m _ hmk hcc;obtain⟨capq,kx,hcq⟩:=Cd.chans h s' c3 (fun z=>z) h1 h2;exact⟨c3,_,_,_,_,_,rfl,by rw[hS.only c3 (C.far h s' c3 h1 h2)];exact hcq⟩
        have hsA:∀x gx w',x=h->gs[x]?=some gx->Side OB (w.at d) w'->gx.again w'=gx:=by
          intro x gx w' hx hgx hS;subst hx;rw[ha]at hgx;obtain rfl:=qa hgx;cases pk with
          | false=>exact qk (.inl hrun) _
          | true=>exact zgs (hopen w' hS)
        have hsO:∀s' gq,Inb i=some s'->AtS P s' g gq->¬False/\∀x gx c',x=h->gs[x]?=some gx->s'.has c'->offersAt gx c' true=[]:=by
          intro s' gq hs' hat;refine⟨fun hD=>hD,?_⟩;intro x gx c' hx hgx hc';subst hx;rw[ha]at hgx;obtain rfl:=qa hgx;cases pk with
          | false=>exact qd (by simp[hrun]) _ _
          | true =>
            simp only[if_true];refine qK (fun cc hcc ec=>?_) _;obtain⟨mm,hmm,rfl⟩:=qz.1 hcc;by_cases hmk:mm=kh
            . subst hmk;have:cases[mm]=scase c v z':=by simpa[hmm] using hkh
              rw[this]at ec;simp only[scase,qi,qh]at ec;have hij:i=j:=C.inj i j s' s c hs' hj (ec▸hc') hsc;subst hij;rw[hj]at hs';obtain rfl:=qa hs';exact ej ⟨rfl,rfl,gq,hat⟩
            . obtain⟨s3,c3,z3,h0,h1,h2⟩:=hoth mm _ hmk (qe hmm);rw[h0]at ec;simp only[rcase,qi,qh]at ec;subst ec;exact e (C.inj i x s' s3 _ hs' h1 hc' h2)
        obtain⟨gs',ops,q',w',hrt,hsz',hsp,hS,hw0',hqo,hq0,C',hlt⟩:=qy (sl:=sl') (fun t u i=>Knows.app u) Cd hi e hg hsA (fun hD=>hD.elim) hsO;refine .head (ho:=by exact .side hS.rest) (by rw[hst];exact hrt) ?_
        have:=ih (sumTo gs'.size q'+(if pk then 0 else 1)) (by rw[hsz',hn];omega) (sl:=sl') (k:=k) pk rfl (by omega) (hwd.trans (hS.by' hw0' e)) (by rw[hS.only c hfar];exact hcd) (by rw[hsp h rfl];exact ha) (fun hp=>?_) C'
        . rw[hsz']at this;exact this
        . subst hp;by_cases hij:j=i
          . subst hij;rcases Nat.eq_zero_or_pos (q' j) with h0|h0
            . obtain⟨gq,hat⟩:=hq0 s hj h0;exact absurd ⟨rfl,rfl,gq,hat⟩ ej
            . exact h0
          . rw[hqo j hij];exact hpk rfl
end
section
variable {P:Program}{OB WB:Nat->Prop}{B:Nat}{Iv:Nat->World->Prop}{K:Trace->Nat->Prop}{Mem Lo:Nat->Prop}{Inb:Nat->Option Seat}{Sp Dead:Nat->Prop}{T:Trace}{gs:Array Goroutine}{w:World}{q:Nat->Nat}{h j c kk kh:Nat}
theorem RingO.reseat(C:RingO P OB WB B Iv Mem Inb h T gs w q)(hMh:Mem h)(s:Seat)(hwf:s.Wf)(hopen:∀c,s.has c->∃cap k,w.heap[c]?=some (.chan cap #[] false k k false))(hfar:∀c,s.has c->¬OB c)(hlow:∀c,s.has c->c<B)(hfresh:∀i s' c,i≠h->Inb i=some s'->s'.has c->¬s.has c):RingO P OB WB B Iv Mem (fun i=>if i=h then some s else Inb i) h T gs w q:=by
  have hne:∀i s',i≠h->(if i=h then some s else Inb i)=some s'->Inb i=some s':=fun i s' hi e=>by rwa [if_neg hi]at e
  have hself:∀s',(if h=h then some s else Inb h)=some s'->s'=s:=fun s' e=>by rw[if_pos rfl]at e;exact(qa e).symm
  refine⟨fun x y hx hy=>?_,fun i s' c _ e hc=>?_,fun i s' c e hc=>?_,fun i s' e=>?_,fun _ _ hx=>hx.elim,fun i i' sx sv c eq ey h1 h2=>?_,C.above,fun i s' e=>?_,fun i hM=>?_,fun i s' hi e=>⟨hi,by show(if i=h then some s else Inb i).isSome=true;rw[e];rfl⟩,?_,C.apart,C.ivst,C.lowB⟩
  . show ziX P OB WB B Iv T x (q x) y w (if x=h then some s else Inb x)
    rw[if_neg hx];exact C.idle x y hx hy
  . by_cases hi:i=h
    . subst hi;obtain rfl:=hself s' e;exact hopen c hc
    . exact C.chans i s' c (fun z=>z) (hne i s' hi e) hc
  . by_cases hi:i=h
    . subst hi;obtain rfl:=hself s' e;exact hfar c hc
    . exact C.far i s' c (hne i s' hi e) hc
  . by_cases hi:i=h
    . subst hi;obtain rfl:=hself s' e;exact hwf
    . exact C.wf i s' (hne i s' hi e)
  . by_cases hi:i=h
    . by_cases hi':i'=h
      . rw[hi,hi']
      . subst hi;obtain rfl:=hself sx eq;exact absurd h1 (hfresh i' sv c hi' (hne i' sv hi' ey) h2)
    . by_cases hi':i'=h
      . subst hi';obtain rfl:=hself sv ey;exact absurd h2 (hfresh i sx c hi (hne i sx hi eq) h1)
      . exact C.inj i i' sx sv c (hne i sx hi eq) (hne i' sv hi' ey) h1 h2
  . by_cases hi:i=h
    . subst hi;obtain rfl:=hself s' e;exact⟨hMh,hlow⟩
    . exact C.mem i s' (hne i s' hi e)
  . by_cases hi:i=h
    . exact .inr hi
    . rcases C.nomem i hM with z|z
      . exact .inl (by show(if i=h then some s else Inb i)≠none;rw[if_neg hi];exact z)
      . exact .inr z
  . refine C.past.fewer (fun g hg=>hg) fun g ⟨h1,h2⟩=>⟨h1,?_⟩;show(if g=h then some s else Inb g).isSome=true
    rw[if_neg h1];exact h2
theorem zve{a child:Goroutine}(hMh:Mem h)(hrun:a.status=.running)(hspawn:∀main w,stepG P main a w=.spawn a' child w)(hnone:∀i,gs.size<=i->Inb i=none)(hIh:Inb h≠none)(w0:World)(hafter:∀T' w1,Deaf T' h=0->SideD (fun b=>OB b/\h≠0) w0 w1->ziX P OB WB B Iv T' h nh a' w1 (Inb h)):
    ∀(n:Nat) {T:Trace} {gs':Array Goroutine} {w:World} {q:Nat->Nat} {sl:Option (Nat×Nat)},n=sumTo gs'.size q->gs'.size=gs.size->SideD (fun b=>OB b/\h≠0) w0 w->gs'[h]?=some a->RingO P OB WB B Iv Mem Inb h T gs' w q ->
      Reach P (crowd gs' w sl) T fun m' T'=>∃gs2 w1 sl' q',m'=crowd gs2 w1 sl'/\gs2.size=gs.size+1/\gs2[gs.size]?=some child/\SideD (fun b=>OB b/\h≠0) w0 w1/\RingO P OB WB B Iv (fun g=>Mem g\/g=gs.size) Inb gs.size T' gs2 w1 q':=by
  intro n
  induction n using qr with
  | _ n ih =>
    intro T gs' w q sl hn hsz hw0 ha C;have hlth:h<gs'.size:=(qg.1 ha).1;obtain⟨i,g,d,sl',hi,hg,hst⟩:=qB (P:=P) (w:=w) (sl:=sl) (qE C fun x g hx hgx=>by subst hx;rw[ha]at hgx;obtain rfl:=qa hgx;exact .inl hrun) ⟨h,a,ha,hrun⟩
    have Cd:RingO P OB WB B Iv Mem Inb h T gs' (w.at d) q:=CoF.at C d;have hwd:SideD (fun b=>OB b/\h≠0) w0 (w.at d):=hw0.trans (SideD.at w d);by_cases e:i=h
    . subst e;obtain rfl:g=a:=by rw[ha]at hi;exact(qa hi).symm
      have hops:=runT_crowd_spawn (sl:=sl') hi (hspawn (i==0) (w.at d));have hDn:∀x,Deaf (T++#[{ g:=i,fn:=g.frame.fn,pos:=g.frame.place,act:=.go gs'.size },{ g:=gs'.size,fn:=child.frame.fn,pos:=g.frame.place,act:=.start }]) x=Deaf T x:=fun x=>qS fun op hop dd=>by
        simp only[qn,zMc,zNm,or_false]at hop;rcases hop with rfl|rfl<;>rfl
      have p2:=PastO.hireGive C.past hMh (C.above gs'.size (qm _)) g.frame.fn g.frame.place child.frame.fn;refine .head (by rw[hst];exact hops) (.here ⟨_,w.at d,sl',upd q i nh,rfl,by simp[hsz],by rw[qT,if_pos (by simp[hsz])],hwd,?_⟩)
      have hT:(((qf i g.frame.fn g.frame.place #[]).push { g:=i,fn:=g.frame.fn,pos:=g.frame.place,act:=.go gs'.size }).push { g:=gs'.size,fn:=child.frame.fn,pos:=g.frame.place,act:=.start }:Trace)=#[{ g:=i,fn:=g.frame.fn,pos:=g.frame.place,act:=.go gs'.size },{ g:=gs'.size,fn:=child.frame.fn,pos:=g.frame.place,act:=.start }]:=rfl;rw[hT];rw[<-hsz];refine⟨fun x y hx hy=>?_,Cd.chans,Cd.far,Cd.wf,fun _ _ z=>z.elim,Cd.inj,fun x hx=>?_,fun i s e=>⟨.inl (Cd.mem i s e).1,(Cd.mem i s e).2⟩,fun x hM=>?_,fun x s hx e=>⟨hx,by rw[e];rfl⟩,?_,Cd.apart,Cd.ivst,Cd.lowB⟩
      . rw[qT]at hy;simp only[qj]at hy;rw[if_neg hx]at hy;by_cases ex:x=i
        . subst ex;rw[qc hlth]at hy;obtain rfl:=qa hy;rw[upd_same];exact hafter _ _ (by rw[hDn];exact C.past.hears x hMh) hwd
        . rw[qb (fun z=>ex z.symm)]at hy;rw[upd_ne q nh ex];have hid:=Cd.idle x y ex hy;cases es:Inb x with
          | none=>rw[es]at hid;exact⟨hid.1,by rw[hDn];exact hid.2⟩
          | some s=>rw[es]at hid;exact hid
      . rw[hDn];simp only[Array.size_push,qj]at hx;exact Cd.above x (by omega)
      . rcases hM with hM|hM
        . rcases Cd.nomem x hM with z|z
          . exact .inl z
          . exact .inl (by rw[z];exact hIh)
        . exact .inr hM
      . exact p2.fewer (fun g hg=>hg) fun g hg=>⟨fun e=>by
          have:=hnone g (by omega)
          rw[this]at hg;exact absurd hg.2 (by simp),hg.2⟩
    . obtain⟨gs2,ops,q',w',hrt,hsz',hsp,hS,hw0',_,_,C',hlt⟩:=qy (sl:=sl') (fun t u i=>Knows.app u) Cd hi e hg
        (fun x gx w' hx hgx _=>by subst hx;rw[ha]at hgx;obtain rfl:=qa hgx;exact qk (.inl hrun) _) (fun hD=>hD.elim)
        (fun s gq _ _=>⟨fun hD=>hD,fun x gx c hx hgx _=>by subst hx;rw[ha]at hgx;obtain rfl:=qa hgx;exact qd (by rw[hrun];simp) _ _⟩)
      exact .head (ho:=by exact .side hS.rest) (by rw[hst];exact hrt) (ih (sumTo gs2.size q') (by rw[hsz',hn];exact hlt) rfl (by omega) (hwd.trans (hS.by' hw0' e)) (by rw[hsp h rfl];exact ha) C')
end
section
variable {P:Program}{OB WB:Nat->Prop}{B:Nat}{Iv:Nat->World->Prop}{K:Trace->Nat->Prop}{Mem Lo:Nat->Prop}{Inb:Nat->Option Seat}{Sp Dead:Nat->Prop}{T:Trace}{gs:Array Goroutine}{w:World}{q:Nat->Nat}{h j c kk kh:Nat}
def zoL(P:Program)(OB WB:Nat->Prop)(B:Nat)(Iv:Nat->World->Prop)(Mem:Nat->Prop)(Inb:Nat->Option Seat)(j c k m:Nat)(T:Trace)(gs:Array Goroutine)(w:World)(q:Nat->Nat):Prop :=
  CoF P OB WB B Iv (fun t i=>Before t i m) Mem (fun g=>(Inb g).isSome) Inb (fun _=>False) (·=j) T gs w q/\SentAt c k m T
def ztp(P:Program)(OB WB:Nat->Prop)(B:Nat)(Iv:Nat->World->Prop)(Mem:Nat->Prop)(Inb:Nat->Option Seat)(j:Nat)(s:Seat)(c cap kk n:Nat)(w0:World)(v:Value)(mm:Machine)(t:Trace):Prop :=
  ∃(gs':Array Goroutine) (gq:Goroutine) (w1:World) (k:Nat) (sl':Option (Nat×Nat)) (q':Nat->Nat),mm=crowd gs' (w1.setChan c cap #[] false (k+1) (k+1) false) sl'/\gs'.size=n/\gs'[j]?=some (gq.finishComm P s.cases s.shape kk v true)/\s.home gq/\SideD OB w0 w1/\Iv j w1/\c<w1.heap.size /\
    RingO P OB WB B Iv Mem Inb j t gs' (w1.setChan c cap #[] false (k+1) (k+1) false) q'
theorem zsu{m:Nat}(hj:Inb j=some s)(hk:s.cases[kk]?=some (rcase c z))(hWc:¬WB c)(w0:World)(hoth:∀c',s.has c'->c'≠c->∃cap' k',w0.heap[c']?=some (.chan cap' #[] false k' k' false)):
    ∀(n:Nat) {T:Trace} {gs:Array Goroutine} {w:World} {q:Nat->Nat} {sl:Option (Nat×Nat)},n=sumTo gs.size q->j<gs.size->SideD OB w0 w->w.heap[c]?=some (.chan cap #[v] false (k+1) k false)->zoL P OB WB B Iv Mem Inb j c k m T gs w q ->
      Reach P (crowd gs w sl) T (ztp P OB WB B Iv Mem Inb j s c cap kk gs.size w0 v):=by
  intro n
  induction n using qr with
  | _ n ih =>
    intro T gs w q sl hn hjlt hw0 hbuf Fl;obtain⟨C,sa⟩:=Fl;have hsc:s.has c:=⟨kk,z,hk⟩;have hwf:=C.wf j s hj;obtain⟨hMj,hcB'⟩:=C.mem j s hj;have hcB:=hcB' c hsc;have hfar:=C.far j s c hj hsc;obtain⟨gj,hgj⟩:∃gj,gs[j]?=some gj:=⟨gs[j]'(by omega),qe (by omega)⟩
    have hjr:=C.live j gj rfl hgj;obtain⟨i,g,d,sl',hi,hg,hst⟩:=qB (P:=P) (w:=w) (sl:=sl) (qE C fun x g hx _=>hx.elim) ⟨j,gj,hgj,hjr⟩;have Cd:=CoF.at C d;have hwd:SideD OB w0 (w.at d):=hw0.trans (SideD.at w d);have hbufd:(w.at d).heap[c]?=some (.chan cap #[v] false (k+1) k false):=hbuf;by_cases ej:i=j/\∃gq,AtS P s g gq
    . obtain⟨rfl,gq,hat⟩:=ej;have hSj:SitsO P OB WB B Iv i s (q i) g (w.at d):=by have:=Cd.idle i g (fun z=>z) hi;rwa [hj]at this
      have hivj:=hSj.at_iv hat;obtain⟨_,_,_,_,hhome,hstp⟩:=hat;have hp:partners (gs.setIfInBounds i ph) c true=[]:=qx fun x y hy=>by
        rcases qo gs i x y hy with⟨_,rfl⟩|⟨_,hy'⟩
        . exact qv _ _
        . exact qI Cd (fun z=>z) hy' _
      have hopen:∀c',s.has c'->c'≠c->∃cap' k',(w.at d).heap[c']?=some (.chan cap' #[] false k' k' false):=fun c' h1 h2=>by
        obtain⟨cap',k',h3⟩:=hoth c' h1 h2;exact⟨cap',k',by rw[hwd.only c' (C.far i s c' hj h1)];exact h3⟩
      have ho:∀(m':Nat) (c':CommCase),m'≠kk->s.cases[m']?=some c'->NoWays (w.at d) (gs.setIfInBounds i ph) c':=by
        intro m' c' hm hc';obtain⟨cq,zq,rfl⟩:=hwf.recvs c' (qt hc');have hne:cq≠c:=fun ec=>hm (hwf.apart m' kk c zq z (ec▸hc') hk);obtain⟨capq,kx,hcq⟩:=hopen cq ⟨m',zq,hc'⟩ hne;refine qQ (w₁:=w.at d) hcq (qx fun x y hy=>?_);rcases qo gs i x y hy with⟨_,rfl⟩|⟨_,hy'⟩
        . exact qv _ _
        . exact qI Cd (fun z=>z) hy' _
      have hstep:=crowd_sel_recv_buf (sl:=sl') hi (hstp (i==0) (w.at d)) hk ho hbufd (by simp) hp
      rw[show(#[v]:Array Value).extract 1 (#[v]:Array Value).size=#[] by simp,show qf i g.frame.fn g.frame.place #[]=#[] from rfl,qw]at hstep
      have p2:=PastO.takeSent C.past sa.1 sa.2 hMj gq.frame.fn gq.frame.place cap hcB;have hall:∀op∈(#[{ g:=i,fn:=gq.frame.fn,pos:=gq.frame.place,act:=.recv c k cap },{ g:=i,fn:=gq.frame.fn,pos:=gq.frame.place,act:=.recvDone c k }]:Trace),op.g=i:=by
        intro op hop;simp only[qn,zMc,zNm,or_false]at hop;rcases hop with rfl|rfl<;>rfl
      refine .head (by rw[hst];exact hstep) (.here ⟨_,gq,w.at d,k,sl',q,rfl,by simp,by rw[qc (by omega)];rfl,hhome,hwd,hivj,(qg.1 hbuf).1,?_⟩)
      refine⟨fun x y hx hy=>?_,fun x s' c' _ e hc'=>?_,Cd.far,Cd.wf,fun _ _ z=>z.elim,Cd.inj,fun x hx=>?_,Cd.mem,fun x hM=>(Cd.nomem x hM).imp id fun z=>z.elim,fun x s' hx e=>⟨hx,by rw[e];rfl⟩,p2.fewer (fun g hg=>hg) fun g ⟨hs,hg⟩=>⟨hg,hs⟩,Cd.apart,Cd.ivst,by simpa[qp] using Cd.lowB⟩
      . rw[qb (fun z=>hx z.symm)]at hy;have hid:=Cd.idle x y (fun z=>z) hy;cases e:Inb x with
        | none=>rw[e]at hid;exact⟨hid.1,by rw[qC T (fun z=>hx z.symm) _ hall];exact hid.2⟩
        | some s'=>rw[e]at hid;exact qF C.ivst hid (zfX hfar hWc _ _ _ _ _ _)
      . by_cases ec:c=c'
        . exact⟨cap,k+1,by rw[<-ec];exact qN (w.at d) hbufd _ _ _ _ _ _⟩
        . rw[ql _ _ _ _ _ _ _ ec];by_cases ex:x=i
          . subst ex;rw[hj]at e;obtain rfl:=qa e;exact hopen c' hc' (fun z=>ec z.symm)
          . exact Cd.chans x s' c' ex e hc'
      . simp only[qj]at hx;rw[qC T (g':=i) (by omega) _ hall]
        exact Cd.above x hx
    . obtain⟨gs',ops,q',w',hrt,hsz',_,hS,hw0',_,_,C',hlt⟩:=qy (sl:=sl') (fun t u i=>Before.app u) Cd hi (fun z=>z) hg (fun _ _ _ z=>z.elim) (fun hD=>by subst hD;rw[hj];simp)
        (fun s' gq hs' hat=>⟨fun hD=>by subst hD;rw[hj]at hs';obtain rfl:=qa hs';exact ej ⟨rfl,gq,hat⟩,fun _ _ _ z=>z.elim⟩)
      have:=ih (sumTo gs'.size q') (by rw[hsz',hn];exact hlt) (sl:=sl') rfl (by omega) (hwd.trans hS.d) (by rw[hS.only c hfar];exact hbuf) ⟨C',sa.app ops⟩
      rw[hsz']at this;exact .head (ho:=by exact .side hS.rest) (by rw[hst];exact hrt) this
end
structure zua (OB:Nat->Prop) (c:Nat) (w w':World):Prop where
  only:∀b,¬OB b->b≠c->w'.heap[b]?=w.heap[b]?
  size:w'.heap.size=w.heap.size
  rest:w'={ w with heap:=w'.heap,drawn:=w'.drawn }
theorem SideD.c{OB:Nat->Prop}{w w':World}(h:SideD OB w w')(c:Nat):zua OB c w w':=⟨fun b h1 _=>h.only b h1,h.size,h.rest⟩
section
variable {P:Program}{OB WB:Nat->Prop}{B:Nat}{Iv:Nat->World->Prop}{K:Trace->Nat->Prop}{Mem Lo:Nat->Prop}{Inb:Nat->Option Seat}{Sp Dead:Nat->Prop}{T:Trace}{gs:Array Goroutine}{w:World}{q:Nat->Nat}{h j c kk kh:Nat}
def ztN(P:Program)(OB WB:Nat->Prop)(B:Nat)(Iv:Nat->World->Prop)(Mem:Nat->Prop)(Inb:Nat->Option Seat)(j:Nat)(s:Seat)(c cap kk n:Nat)(w0:World)(v:Value)(mm:Machine)(t:Trace):Prop :=
  ∃(gs':Array Goroutine) (gq:Goroutine) (w1:World) (k:Nat) (sl':Option (Nat×Nat)) (q':Nat->Nat),mm=crowd gs' (w1.setChan c cap #[] false (k+1) (k+1) false) sl'/\gs'.size=n/\gs'[j]?=some (gq.finishComm P s.cases s.shape kk v true)/\s.home gq/\zua OB c w0 w1/\Iv j w1/\c<w1.heap.size /\
    RingO P OB WB B Iv Mem Inb j t gs' (w1.setChan c cap #[] false (k+1) (k+1) false) q'
theorem zuA{a:Goroutine}(hcap:0<cap)(hjh:j≠h)(hj:Inb j=some s)(hk:s.cases[kk]?=some (rcase c z))(hMh:Mem h)(hrun:a.status=.running)(hWc:¬WB c)(hcomm:∀main w,stepG P main a w=.comm aq #[scase c v z'] true .send w)(h0:0<h)(hafter:QuitsD P nh 0 (aq.finishComm P #[scase c v z'] .send 0 undef false))(w0:World):
    ∀(n:Nat) {T:Trace} {gs:Array Goroutine} {w:World} {q:Nat->Nat} {sl:Option (Nat×Nat)} {k:Nat},n=sumTo gs.size q->j<gs.size->SideD OB w0 w->w.heap[c]?=some (.chan cap #[] false k k false)->gs[h]?=some a->RingO P OB WB B Iv Mem Inb h T gs w q ->
      Reach P (crowd gs w sl) T (ztN P OB WB B Iv (fun g=>Mem g/\g≠h/\Inb g≠none) (fun i=>if i=h then none else Inb i) j s c cap kk gs.size w0 v):=by
  intro n
  induction n using qr with
  | _ n ih =>
    intro T gs w q sl k hn hjlt hw0 hc ha C;have hsc:s.has c:=⟨kk,z,hk⟩;have hwf:=C.wf j s hj;obtain⟨hMj,hcB'⟩:=C.mem j s hj;have hcB:=hcB' c hsc;have hfar:=C.far j s c hj hsc;have hu:∀(m:Nat) (cc:CommCase),m≠kk->s.cases[m]?=some cc->cc.chan≠.chan (some c):=by
      intro m cc hm hcc ec;obtain⟨cq,zq,rfl⟩:=hwf.recvs cc (qt hcc);simp only[rcase,qi,qh]at ec;subst ec;exact hm (hwf.apart m kk _ _ _ hcc hk)
    obtain⟨gj,hgj⟩:∃gj,gs[j]?=some gj:=⟨gs[j]'(by omega),qe (by omega)⟩
    have hlth:h<gs.size:=(qg.1 ha).1;have hSj:SitsO P OB WB B Iv j s (q j) gj w:=by have:=C.idle j gj hjh hgj;rwa [hj]at this
    obtain⟨i,g,d,sl',hi,hg,hst⟩:=qB (P:=P) (w:=w) (sl:=sl) (qE C fun x g hx hgx=>by subst hx;rw[ha]at hgx;obtain rfl:=qa hgx;exact .inl hrun) ⟨h,a,ha,hrun⟩
    have Cd:RingO P OB WB B Iv Mem Inb h T gs (w.at d) q:=CoF.at C d;have hcd:(w.at d).heap[c]?=some (.chan cap #[] false k k false):=hc;have hwd:SideD OB w0 (w.at d):=hw0.trans (SideD.at w d);by_cases e:i=h
    . subst e;obtain rfl:g=a:=by rw[ha]at hi;exact(qa hi).symm
      have hI:∀x,x≠i->(fun y=>if y=i then none else Inb y) x=Inb x:=fun x hx=>if_neg hx
      have hIi:(fun y=>if y=i then none else Inb y) i=none:=if_pos rfl
      have hoff:∀(x:Nat) (y:Goroutine),x≠j->(gs.setIfInBounds i ph)[x]?=some y->offersAt y c false=[]:=by
        intro x y hxj hy;rcases qo gs i x y hy with⟨_,rfl⟩|⟨hx,hy'⟩
        . exact qv _ _
        . exact CoF.noRecvAt Cd hx hy' fun s' hs' hc'=>hxj (C.inj x j s' s c hs' hj hc' hsc)
      rcases hSj with⟨kq,hq,hG⟩|⟨hq0,⟨gy,gq,rfl,hat⟩,hivj⟩
      . -- j is on its way: into the buffer
        have hSj':SitsO P OB WB B Iv j s (q j) gj w:=.inl ⟨kq,hq,hG⟩;have hjr:gj.status=.running:=(qH hSj').elim (·.1) (fun z=>by omega)
        have hp:partners (gs.setIfInBounds i ph) c false=[]:=qx fun x y hy=>by
          by_cases hxj:x=j
          . subst hxj;rw[qA hjh hgj]at hy;obtain rfl:=qa hy;exact qd (by rw[hjr];simp) _ _
          . exact hoff x y hxj hy
        have hsend:=crowd_send_room (sl:=sl') hi (hcomm (i==0) (w.at d)) hcd (by simpa using hcap) hp
        rw[show qf i g.frame.fn g.frame.place #[]=#[] from rfl,qw,show(#[]:Array Value).push v=#[v] from rfl]at hsend
        refine .head (by rw[hst];exact hsend) ?_
        have hops:∀op∈(#[{ g:=i,fn:=aq.frame.fn,pos:=aq.frame.place,act:=.send c k },{ g:=i,fn:=aq.frame.fn,pos:=aq.frame.place,act:=.sendDone c k }]:Trace),op.g=i:=by
          intro op hop;simp only[qn,zMc,zNm,or_false]at hop;rcases hop with rfl|rfl<;>rfl
        have hq0:∀x,Deaf (T++#[{ g:=i,fn:=aq.frame.fn,pos:=aq.frame.place,act:=.send c k },{ g:=i,fn:=aq.frame.fn,pos:=aq.frame.place,act:=.sendDone c k }]) x=Deaf T x:=fun x=>qS fun op hop dd=>by
          simp only[qn,zMc,zNm,or_false]at hop;rcases hop with rfl|rfl<;>rfl
        generalize hu2:(#[{ g:=i,fn:=aq.frame.fn,pos:=aq.frame.place,act:=.send c k },{ g:=i,fn:=aq.frame.fn,pos:=aq.frame.place,act:=.sendDone c k }]:Trace)=u at hops hq0 ⊢;have e0:(T++u)[T.size]?=some { g:=i,fn:=aq.frame.fn,pos:=aq.frame.place,act:=.send c k }:=by subst hu2;simp
        have p1:PastO (ownL OB) (zcW WB) (fun g=>Mem g/\g≠i/\Inb g≠none) (fun g=>((fun y=>if y=i then none else Inb y) g).isSome) B (fun x=>Before (T++u) x T.size) (T++u):=by
          refine C.past.mute (fun x hx=>.inr (hx.hb_new (qm _) e0 rfl)) (fun x gg hg hl=>.inr ?_) (fun op hop=>?_) (fun gg hgg x hx=>(hx gg hgg.1).app _) (fun gg hgg=>by rw[hq0];exact C.past.hears gg hgg.1) (fun op hop=>?_)
          . show(if gg=i then none else Inb gg).isSome=true
            rw[if_neg hl.1];exact hl.2
          . subst hu2;simp only[qn,zMc,zNm,or_false]at hop;rcases hop with rfl|rfl<;>rfl
          . subst hu2;simp only[qn,zMc,zNm,or_false]at hop;rcases hop with rfl|rfl<;>exact hcB
        have sa:SentAt c k T.size (T++u):=⟨by simp[Trace.act?,e0],i,g?_of e0,by rw[deaf_old (qm _)];exact C.past.hears i hMh⟩
        have hI':∀x s',(if x=i then none else Inb x)=some s'->x≠i/\Inb x=some s':=fun x s' e=>by
          by_cases hx:x=i
          . rw[if_pos hx]at e;cases e
          . rw[if_neg hx]at e;exact⟨hx,e⟩
        have Fl:zoL P OB WB B Iv (fun g=>Mem g/\g≠i/\Inb g≠none) (fun y=>if y=i then none else Inb y) j c k T.size (T++u) (gs.setIfInBounds i (aq.finishComm P #[scase c v z'] .send 0 undef false)) ((w.at d).setChan c cap #[v] false (k+1) k false) (upd q i nh):=by
          refine⟨⟨fun x y _ hy=>?_,fun x s' c' hD ee hc'=>?_,fun x s' c' ee=>Cd.far x s' c' (hI' x s' ee).2,fun x s' ee=>Cd.wf x s' (hI' x s' ee).2,fun x y hx hy=>?_,fun x x' sx sv c' eq ey=>Cd.inj x x' sx sv c' (hI' x sx eq).2 (hI' x' sv ey).2,fun x hx=>?_,
            fun x s' ee=>⟨⟨(Cd.mem x s' (hI' x s' ee).2).1,(hI' x s' ee).1,by rw[(hI' x s' ee).2];simp⟩,(Cd.mem x s' (hI' x s' ee).2).2⟩,fun x hM=>.inl ?_,fun x s' _ ee=>?_,p1,Cd.apart,Cd.ivst,by simpa[qp] using Cd.lowB⟩,sa⟩
          . show ziX P OB WB B Iv (T++u) x (upd q i nh x) y _ (if x=i then none else Inb x)
            by_cases ex:x=i
            . subst ex;rw[qc hlth]at hy;obtain rfl:=qa hy;rw[upd_same,if_pos rfl];exact⟨h0,by rw[hq0,C.past.hears x hMh];exact hafter⟩
            . rw[qb (fun z=>ex z.symm)]at hy;rw[upd_ne q nh ex,if_neg ex];have hid:=Cd.idle x y ex hy;cases es:Inb x with
              | none=>rw[es]at hid;exact⟨hid.1,by rw[hq0];exact hid.2⟩
              | some s'=>rw[es]at hid;exact qF Cd.ivst hid (zfX hfar hWc _ _ _ _ _ _)
          . obtain⟨h1,h2⟩:=hI' x s' ee;have hne:c≠c':=fun ec=>hD (C.inj x j s' s c h2 hj (ec▸hc') hsc);obtain⟨cap',k',hk'⟩:=Cd.chans x s' c' (fun z=>z) h2 hc';exact⟨cap',k',by rw[ql _ _ _ _ _ _ _ hne];exact hk'⟩
          . subst hx;rw[qb (fun z=>hjh z.symm),hgj]at hy;obtain rfl:=qa hy;exact hjr
          . rw[hq0];exact Cd.above x (by simpa using hx)
          . show(if x=i then none else Inb x)≠none
            rw[if_neg hM.2.1];exact hM.2.2
          . show(if x=i then none else Inb x).isSome=true
            rw[ee];rfl
        have hsz1:((w.at d).setChan c cap #[v] false (k+1) k false).heap.size=w.heap.size:=by simp[qp];rfl
        have hfl:=zsu (P:=P) (OB:=OB) (WB:=WB) (B:=B) (Iv:=Iv) (Inb:=fun y=>if y=i then none else Inb y) (Mem:=fun g=>Mem g/\g≠i/\Inb g≠none) (m:=T.size) (s:=s) (by show(if j=i then none else Inb j)=some s;rw[if_neg hjh];exact hj) hk hWc ((w.at d).setChan c cap #[v] false (k+1) k false)
          (fun c' h1 h2=>by
            obtain⟨cap',k',hk'⟩:=Cd.chans j s c' (fun z=>z) hj h1;exact⟨cap',k',by rw[ql _ _ _ _ _ _ _ (fun e=>h2 e.symm)];exact hk'⟩) _ (sl:=sl') rfl (by simpa using hjlt) (SideD.refl _) (qN (w.at d) hcd _ _ _ _ _ _) Fl
        refine hfl.bind fun m' T'=>?_;rintro⟨gs',gq,w1,k2,sl2,q',rfl,h1,h2,h3,h4,h5,h6,h7⟩;refine .here ⟨gs',gq,w1,k2,sl2,q',rfl,by simpa using h1,h2,h3,⟨fun b hb hne=>?_,?_,?_⟩,h5,h6,h7⟩
        . rw[h4.only b hb,ql _ _ _ _ _ _ _ (fun e=>hne e.symm)];exact hwd.only b hb
        . rw[h4.size,hsz1];exact hwd.size
        . rw[h4.rest];have:=hwd.rest;simp only[qp];rw[this]
      . -- j is parked: the meeting
        have hp:partners (gs.setIfInBounds i ph) c false=[(j,kk)]:=by
          rw[qX (qA hjh hgj) fun x y hxj hy=>hoff x y hxj hy,offersAt_parked_at hk hu];rfl
        have hmeet:=zeW (sl:=sl') (k:=0) hi (hcomm (i==0) (w.at d)) rfl (fun m c' hm hc'=>by
          cases m with
          | zero=>exact absurd rfl hm
          | succ m=>simp at hc') hcd hjh hgj hk hp
        rw[show qf i g.frame.fn g.frame.place #[]=#[] from rfl,qw]at hmeet
        refine .head (by rw[hst];exact hmeet) (.here ?_)
        have hDeaf:∀x,Deaf (T++met i j aq.frame.fn aq.frame.place gq.frame.fn gq.frame.place c k cap) x=Deaf T x:=fun x=>qS (met_quiet _ _ _ _ _ _ _ _ _ x);have p2:=PastO.give C.past hMh hMj aq.frame.fn aq.frame.place gq.frame.fn gq.frame.place k cap hcB;have hivj':Iv j (w.at d):=C.ivst j w (w.at d) ⟨fun _ _ _=>rfl,fun _ _ _=>rfl⟩ hivj;have R:=RingO.pass (cap:=cap) (k:=k) Cd hj hsc hWc hcd (gs':=(gs.setIfInBounds j (gq.finishComm P s.cases s.shape kk v true)).setIfInBounds i (aq.finishComm P #[scase c v z'] .send 0 undef false)) (by simp) (fun x hx hxj=>by rw[qb (fun z=>hx z.symm),qb (fun z=>hxj z.symm)])
          (qc (by simpa using hlth)) hDeaf (Inb':=fun y=>if y=i then none else Inb y) hI (.inr hIi) (nh:=nh) (by rw[if_pos rfl];exact⟨h0,by rw[hDeaf,C.past.hears i hMh];exact hafter⟩) p2
        have hMM:(fun g=>Mem g/\((fun y=>if y=i then none else Inb y) g≠none\/g=j))=(fun g=>Mem g/\g≠i/\Inb g≠none):=by
          funext x;apply propext;constructor
          . rintro⟨h1,h2|rfl⟩
            . by_cases hx:x=i
              . subst hx;exact absurd hIi h2
              . exact⟨h1,hx,by rw[<-hI x hx];exact h2⟩
            . exact⟨h1,hjh,by rw[hj];simp⟩
          . rintro⟨h1,h2,h3⟩;exact⟨h1,.inl (by rw[hI x h2];exact h3)⟩
        rw[hMM]at R;exact⟨_,gq,w.at d,k,sl',_,rfl,by simp,by rw[qb (fun z=>hjh z.symm),qc (by omega)],hat.2.2.2.2.1,hwd.c c,hivj',(qg.1 hc).1,R⟩
    . obtain⟨gs',ops,q',w',hrt,hsz',hsp,hS,hw0',_,_,C',hlt⟩:=qy (sl:=sl') (fun t u i=>Knows.app u) Cd hi e hg
        (fun x gx w' hx hgx _=>by subst hx;rw[ha]at hgx;obtain rfl:=qa hgx;exact qk (.inl hrun) _) (fun hD=>hD.elim)
        (fun s gq _ _=>⟨fun hD=>hD,fun x gx c hx hgx _=>by subst hx;rw[ha]at hgx;obtain rfl:=qa hgx;exact qd (by rw[hrun];simp) _ _⟩)
      have:=ih (sumTo gs'.size q') (by rw[hsz',hn];exact hlt) (sl:=sl') rfl (by omega) (hwd.trans hS.d) (by rw[hS.only c hfar];exact hc) (by rw[hsp h rfl];exact ha) C'
      rw[hsz']at this;exact .head (ho:=by exact .side hS.rest) (by rw[hst];exact hrt) this
end
section
variable {P:Program}{OB WB:Nat->Prop}{B:Nat}{Iv:Nat->World->Prop}{K:Trace->Nat->Prop}{Mem Lo:Nat->Prop}{Inb:Nat->Option Seat}{Sp Dead:Nat->Prop}{T:Trace}{gs:Array Goroutine}{w:World}{q:Nat->Nat}{h j c kk kh:Nat}
end
section
variable {P:Program}{OB WB:Nat->Prop}{B:Nat}{Iv:Nat->World->Prop}{K:Trace->Nat->Prop}{Mem Lo:Nat->Prop}{Inb:Nat->Option Seat}{Sp Dead:Nat->Prop}{T:Trace}{gs:Array Goroutine}{w:World}{q:Nat->Nat}{h j c kk kh:Nat}
end
theorem zj4{P:Program}{main:Bool}{R R':World->World->Prop}{D D':World->World->Array Event->Prop}{Stop:Goroutine->World->Prop}(hR:∀w w',R' w w'->R w w')(hD:∀w w' es,D w w' es->D' w w' es):
    ∀{n:Nat} {g:Goroutine} {w:World},qD P main R D Stop n g w->qD P main R' D' Stop n g w
  | 0,_,_,h=>fun w₁ h₁=>h w₁ (hR _ _ h₁)
  | n+1,g,w,h=>by
    rcases h with h|⟨hs,h⟩
    . exact .inl fun w₁ h₁=>h w₁ (hR _ _ h₁)
    . refine .inr ⟨hs,fun w₁ h₁=>?_⟩;have:=h w₁ (hR _ _ h₁);cases hgo:stepG P main g w₁ with
      | go g' w' es =>
        rw[hgo,qY]at this;rw[qY];exact⟨hD _ _ _ this.1,zj4 hR hD this.2⟩
      | _=>rw[hgo]at this;exact this.elim
variable {es:Array Event}
section
variable {P:Program}{OB WB OB' WB':Nat->Prop}{B:Nat}{Iv:Nat->World->Prop}{K:Trace->Nat->Prop}{Mem Lo:Nat->Prop}{Inb:Nat->Option Seat}{Sp Dead:Nat->Prop}{T:Trace}{gs:Array Goroutine}{w:World}{q:Nat->Nat}{h:Nat}
theorem Rl.less(hO:∀b,OB b->OB' b)(hW:∀b,WB b->WB' b){w:World}(h:Rl OB' WB' i w w'):Rl OB WB i w w':=⟨fun a ha h3=>h.1 a (hW _ ha) h3,fun e b hb=>h.2 e b (hO b hb)⟩
theorem Dw.more(hO:∀b,OB b->OB' b)(hW:∀b,WB b->WB' b){w:World}(h:Dw OB WB B i w w' es):Dw OB' WB' B i w w' es :=
  ⟨fun b hb=>h.only b fun hx=>hb ⟨hx.1,hO b hx.2⟩,h.size,h.rest,fun e he=>by
    obtain⟨a,h1,⟨h2,h3,h4⟩|⟨h2,h3,h4⟩⟩:=h.evs e he
    . exact⟨a,h1,.inl ⟨h2,hW _ h3,h4⟩⟩
    . exact⟨a,h1,.inr ⟨h2,hO _ h3,h4⟩⟩⟩
theorem SitsO.more(hO:∀b,OB b->OB' b)(hW:∀b,WB b->WB' b)(h:SitsO P OB WB B Iv i s n g w):SitsO P OB' WB' B Iv i s n g w:=by
  rcases h with⟨k,h1,h2⟩|h
  . exact .inl ⟨k,h1,zj4 (fun _ _ x=>x.less hO hW) (fun _ _ _ x=>x.more hO hW) h2⟩
  . exact .inr h
theorem CoF.grow(C:CoF P OB WB B Iv K Mem Lo Inb Sp Dead T gs w q)(hO:∀b,OB b->OB' b)(hW:∀b,WB b->WB' b)(hap:∀b,OB' b->¬WB' b)(hfar:∀i s c,Inb i=some s->s.has c->¬OB' c)(hown:∀i a,touchAt T i=some a->ownL OB' a.loc->T.g? i=some 0)(hst:∀i a,touchAt T i=some a->a.write=true->zcW WB' a.loc->zcW WB a.loc):CoF P OB' WB' B Iv K Mem Lo Inb Sp Dead T gs w q:=by
  refine⟨fun i g h1 h2=>?_,C.chans,hfar,C.wf,C.live,C.inj,C.above,C.mem,C.nomem,C.lo,?_,hap,fun i w w1 hr=>C.ivst i w w1 (hr.less hO hW),C.lowB⟩
  . have h:=C.idle i g h1 h2;cases e:Inb i with
    | none=>rw[e]at h;exact h
    | some s=>rw[e]at h;exact SitsO.more hO hW h
  . have H:=C.past;have hSt:∀l,zcW WB l->zcW WB' l:=fun l ⟨a,h1,h2,h3⟩=>⟨a,h1,hW _ h2,h3⟩;have hOw:∀l,ownL OB l->ownL OB' l:=fun l ⟨a,h1,h2⟩=>⟨a,h1,hO _ h2⟩;exact⟨H.clean,fun i a ha hm=>(H.known i a ha hm).imp id (Or.imp (hOw _) fun⟨x,y,z⟩=>⟨x,hSt _ y,z⟩),fun i a ha hw hS=>H.wrote i a ha hw (hst i a ha hw hS),hown,H.hears,H.seen⟩
theorem CoF.iv{Iv':Nat->World->Prop}(C:CoF P OB WB B Iv K Mem Lo Inb Sp Dead T gs w q)(hst:∀i w w1,Rl OB WB i w w1->Iv' i w->Iv' i w1)(hI:∀i s w',¬Sp i->Inb i=some s->Iv i w'->Iv' i w'):CoF P OB WB B Iv' K Mem Lo Inb Sp Dead T gs w q:=by
  have goes_stop:∀{main:Bool} {R:World->World->Prop} {D:World->World->Array Event->Prop} {S S':Goroutine->World->Prop} (hS:∀g w,S g w->S' g w) {n:Nat} {g:Goroutine} {w:World},qD P main R D S n g w->qD P main R D S' n g w:=by
    intro main R D S S' hS n
    induction n with
    | zero=>exact fun h w1 h1=>hS _ _ (h w1 h1)
    | succ n ih =>
      intro g w h;rcases h with h|⟨hs,h⟩
      . exact .inl fun w1 h1=>hS _ _ (h w1 h1)
      . refine .inr ⟨hs,fun w1 h1=>?_⟩;have:=h w1 h1;cases hgo:stepG P main g w1 with
        | go g' w' es =>
          rw[hgo,qY]at this;rw[qY];exact⟨this.1,ih this.2⟩
        | _=>rw[hgo]at this;exact this.elim
  refine⟨fun i g h1 h2=>?_,C.chans,C.far,C.wf,C.live,C.inj,C.above,C.mem,C.nomem,C.lo,C.past,C.apart,hst,C.lowB⟩;have h:=C.idle i g h1 h2;cases e:Inb i with
  | none=>rw[e]at h;exact h
  | some s =>
    rw[e]at h;rcases h with⟨k,h3,h4⟩|⟨h3,h4,h5⟩
    . exact .inl ⟨k,h3,goes_stop (fun g w hx=>⟨hx.1,hI i s w h1 e hx.2⟩) h4⟩
    . exact .inr ⟨h3,h4,hI i s _ h1 e h5⟩
theorem zkh(hL:Leavers P T gs q)(hP:Past (fun _=>False) B T)(Iv:Nat->World->Prop)(hIv:∀i w w1,Rl (fun _=>False) (fun _=>False) i w w1->Iv i w->Iv i w1)(hBw:B<=w.heap.size):RingO P (fun _=>False) (fun _=>False) B Iv (fun g=>g=0) (fun _=>none) 0 T gs w q:=by
  refine⟨fun i g hi hg=>⟨qZ hi,hL.old i g (qZ hi) hg⟩,fun _ _ _ _ e=>(by cases e),fun _ _ _ e=>(by cases e),fun _ _ e=>(by cases e),fun _ _ z=>z.elim,fun _ _ _ _ _ e=>(by cases e),hL.above,fun _ _ e=>(by cases e),fun _ hM=>.inr hM,fun _ _ _ e=>(by cases e),?_,fun _ z=>z.elim,hIv,hBw⟩
  exact⟨hP.clean,fun i a ha hm=>.inl ((hP.known i a ha hm).elim id fun x=>x.1.elim),fun i a _ _ ⟨_,_,h,_⟩=>h.elim,fun i a _ ⟨_,_,h⟩=>h.elim,fun g hg=>by subst hg;exact hP.hears,hP.seen⟩
theorem zoa(C:RingO P OB WB B Iv Mem Inb 0 T gs w q)(h0:Mem 0)(hI:∀i,i≠0->Inb i=none):Leavers P T gs q/\Past (fun _=>False) B T:=by
  have H:=C.past;have hk:∀i a,touchAt T i=some a->a.loc.isMemory=true->Knows T 0 i:=fun i a ha hm=>by
    rcases H.known i a ha hm with hk|hO|⟨_,_,g,_,hg,hs⟩
    . exact hk
    . obtain⟨x,hx,hxg⟩:=qs.1 (H.own i a ha hO);have:=knows_own hx;rw[hxg]at this;exact this
    . rw[hI g hg]at hs;cases hs
  refine⟨⟨fun i g hi hg=>by have:=C.idle i g (by omega) hg;rw[hI i (by omega)]at this;exact this.2,C.above⟩,H.clean,fun i a ha hm=>.inl (hk i a ha hm),fun i g hg hne ⟨x,hx,hm,_⟩=>?_,H.hears 0 h0,H.seen⟩
  obtain⟨q',z,hq,hz,hb⟩:=hk i x hx hm;rcases hb with rfl|hb
  . rw[g?_of hq,hz]at hg;exact absurd (qa hg).symm hne
  . exact⟨q',by rw[g?_of hq,hz],hb⟩
end
section
variable {P:Program}{OB WB:Nat->Prop}{B:Nat}{Iv:Nat->World->Prop}{K:Trace->Nat->Prop}{Mem Lo:Nat->Prop}{Inb:Nat->Option Seat}{Sp Dead:Nat->Prop}{T:Trace}{gs:Array Goroutine}{w:World}{q:Nat->Nat}{h:Nat}
structure DO (OB WB:Nat->Prop) (Inb:Nat->Option Seat) (h:Nat) (w w':World) (es:Array Event):Prop where
  seats:∀i s c,Inb i=some s->s.has c->w'.heap[c]?=w.heap[c]?
  still:∀a:Addr,WB a.block->3<=a.off->w'.cell? a=w.cell? a
  own:h≠0->∀b,OB b->w'.heap[b]?=w.heap[b]?
  size:w.heap.size<=w'.heap.size
  rest:w'={ w with heap:=w'.heap,drawn:=w'.drawn }
  evs:∀e∈es,e=⟨.mark .noRoom,false,true⟩\/(e.sync=false/\∃a:Addr,e.loc=.cell a/\a.block<w'.heap.size/\(e.write=true->¬ (WB a.block/\3<=a.off))/\(OB a.block->h=0))
theorem DO.none(w:World):DO OB WB Inb h w w #[]:=⟨fun _ _ _ _ _=>rfl,fun _ _ _=>rfl,fun _ _ _=>rfl,qm _,rfl,fun e he=>by simp at he⟩
theorem ztW{fn:FuncId}{pos:String}{w:World}(D:DO OB WB Inb h w w' es)(hB:w'.heap.size<=n):
    (∀op∈qf h fn pos es,op.g=h)/\(∀op∈qf h fn pos es,∀b,op.act.touch?=some b->(zcW WB b.loc->b.write=false)/\(ownL OB b.loc->h=0))/\(∀op∈qf h fn pos es,op.act.low n)/\∀t:Trace,Deaf (t++qf h fn pos es) h=Deaf t h:=by
  refine⟨fun op hop=>by obtain⟨e,_,rfl⟩:=qJ hop;rfl,fun op hop b hb=>?_,fun op hop=>?_,fun t=>?_⟩
  . obtain⟨e,he',rfl⟩:=qJ hop;rcases D.evs e he' with rfl|⟨hsy,a,hloc,h3,h1,h2⟩
    . simp[MemAct.ofEvent,MemAct.touch?]at hb
    . obtain⟨l,wr,sy⟩:=e;simp only at hsy hloc h1;subst hsy hloc;have hbl:b.loc=.cell a/\b.write=wr:=by
        cases wr<;>(simp[MemAct.ofEvent,MemAct.touch?]at hb;subst hb;exact⟨rfl,rfl⟩)
      rw[hbl.1,hbl.2];refine⟨fun⟨a',e,ha,h4⟩=>?_,fun⟨a',e,ha⟩=>?_⟩
      . simp only[Loc.cell.injEq]at e;subst e;cases wr
        . rfl
        . exact absurd ⟨ha,h4⟩ (h1 rfl)
      . simp only[Loc.cell.injEq]at e;subst e;exact h2 ha
  . obtain⟨e,he',rfl⟩:=qJ hop;rcases D.evs e he' with rfl|⟨hsy,a,hloc,h3,h1,h2⟩
    . exact trivial
    . obtain⟨l,wr,sy⟩:=e;simp only at hsy hloc;subst hsy hloc;cases wr<;>exact Nat.lt_of_lt_of_le h3 hB
  . rw[Deaf_own];exact deafBehind_still (fun e he'=>by
      rcases D.evs e he' with rfl|⟨hsy,a,hloc,_⟩
      . exact⟨by simp,by simp⟩
      . exact⟨by rw[hloc];simp,by rw[hloc];simp⟩) _
theorem RingO.ownC(C:RingO P OB WB B Iv Mem Inb h T gs w q){a:Goroutine}(ha:gs[h]?=some a)(D:DO OB WB Inb h w w' es):
    RingO P OB WB (max B w'.heap.size) Iv Mem Inb h (T++qf h a.frame.fn a.frame.place es) ((gs.map (woken P a a' w')).setIfInBounds h a') w' q/\((gs.map (woken P a a' w')).setIfInBounds h a')[h]?=some a':=by
  have hlt:h<gs.size:=(qg.1 ha).1;have hBm:B<=max B w'.heap.size:=Nat.le_max_left _ _;obtain⟨hops,hs,hl,hdf⟩:=ztW (fn:=a.frame.fn) (pos:=a.frame.place) D (Nat.le_max_right B _);have hrl:∀x,x≠h->Rl OB WB x w w':=fun x hx=>⟨fun ad had h3=>D.still ad had h3,fun e b hb=>D.own (by omega) b hb⟩
  refine⟨⟨fun x y hx hy=>?_,fun i s c _ hi hc=>?_,C.far,C.wf,fun _ _ hx=>hx.elim,C.inj,fun j hj=>?_,CoF.memB hBm C,C.nomem,C.lo,PastO.appH (C.past.mono hBm) hops hs (hdf T) hl,C.apart,C.ivst,Nat.max_le.2 ⟨qR C.lowB D.size,qm _⟩⟩,qc (by simpa using hlt)⟩
  . rw[qb (fun e=>hx e.symm),qV]at hy;obtain⟨yq,hyq,rfl⟩:=qs.1 hy;rw[woken_of_again (CoF.fixed' C D.seats hx hyq)];have hi:=CoF.idleB hBm C x yq hx hyq;cases es':Inb x with
    | none=>rw[es']at hi;exact⟨hi.1,by rw[qC T (fun z=>hx z.symm) _ hops];exact hi.2⟩
    | some s=>rw[es']at hi;exact qF C.ivst hi (hrl x hx)
  . obtain⟨cap,k,hk⟩:=C.chans i s c (fun z=>z) hi hc;exact⟨cap,k,by rw[D.seats i s c hi hc];exact hk⟩
  . simp only[qj,q3]at hj;rw[qC T (g':=h) (by omega) _ hops]
    exact C.above j hj
def Ro(OB:Nat->Prop)(h:Nat)(w w1:World):Prop:=SideD (fun b=>OB b/\h≠0) w w1
theorem Ro.refl(w:World):Ro OB h w w:=SideD.refl w
theorem Ro.trans(a b c:World)(x:Ro OB h a b)(y:Ro OB h b c):Ro OB h a c:=SideD.trans x y
theorem Ro.heap{w:World}(x:Ro OB h w w1){b:Nat}(hb:¬OB b):w1.heap[b]?=w.heap[b]?:=x.only b fun z=>hb z.1
theorem Ro.heap0{w:World}(x:Ro OB 0 w w1):w1={ w with drawn:=w1.drawn }:=by
  have hh:w1.heap=w.heap:=qG fun b=>x.only b fun z=>z.2 rfl;have:=x.rest;rw[hh]at this;exact this
theorem zaX{Stop:Goroutine->World->Prop}:∀(n:Nat) {B:Nat} {T:Trace} {gs:Array Goroutine} {w:World} {q:Nat->Nat} {sl:Option (Nat×Nat)} {a:Goroutine},gs[h]?=some a->qD P (h==0) (Ro OB h) (DO OB WB Inb h) Stop n a w->RingO P OB WB B Iv Mem Inb h T gs w q ->
    Reach P (crowd gs w sl) T fun m' T'=>∃gs' a' w' sl' q' B',m'=crowd gs' w' sl'/\gs'.size=gs.size/\gs'[h]?=some a'/\Stop a' w'/\RingO P OB WB B' Iv Mem Inb h T' gs' w' q':=by
  have stop:∀{n:Nat} {B:Nat} {T:Trace} {gs:Array Goroutine} {w:World} {q:Nat->Nat} {sl:Option (Nat×Nat)} {a:Goroutine},gs[h]?=some a->(∀w₁,Ro OB h w w₁->Stop a w₁)->RingO P OB WB B Iv Mem Inb h T gs w q ->
    Reach P (crowd gs w sl) T fun m' T'=>∃gs' a' w' sl' q' B',m'=crowd gs' w' sl'/\gs'.size=gs.size/\gs'[h]?=some a'/\Stop a' w'/\RingO P OB WB B' Iv Mem Inb h T' gs' w' q' :=
    fun {_ B T gs w q sl a} ha hst C=>.here ⟨gs,a,w,sl,q,B,rfl,rfl,ha,hst w (Ro.refl w),C⟩
  intro n
  induction n with
  | zero=>intro B T gs w q sl a ha hG C;exact stop (n:=0) ha hG C
  | succ n ih =>
    have key:∀(m:Nat) {B:Nat} {T:Trace} {gs:Array Goroutine} {w:World} {q:Nat->Nat} {sl:Option (Nat×Nat)} {a:Goroutine},sumTo gs.size q=m->gs[h]?=some a->qD P (h==0) (Ro OB h) (DO OB WB Inb h) Stop (n+1) a w->RingO P OB WB B Iv Mem Inb h T gs w q ->
        Reach P (crowd gs w sl) T fun m' T'=>∃gs' a' w' sl' q' B',m'=crowd gs' w' sl'/\gs'.size=gs.size/\gs'[h]?=some a'/\Stop a' w'/\RingO P OB WB B' Iv Mem Inb h T' gs' w' q':=by
      intro m
      induction m using qr with
      | _ m ihm =>
        intro B T gs w q sl a hm ha hG C;rcases id hG with hG1|⟨hrun,hG1⟩
        . exact stop (n:=0) ha hG1 C
        obtain⟨i,g,d,sl',hi,hg,hst⟩:=qB (P:=P) (w:=w) (sl:=sl) (qE C fun x g hx hgx=>by subst hx;rw[ha]at hgx;obtain rfl:=qa hgx;exact .inl hrun) ⟨h,a,ha,hrun⟩
        have Cd:RingO P OB WB B Iv Mem Inb h T gs (w.at d) q:=CoF.at C d;have hRd:Ro OB h w (w.at d):=⟨fun _ _=>rfl,rfl,rfl⟩;by_cases e:i=h
        . subst e;obtain rfl:g=a:=by rw[ha]at hi;exact(qa hi).symm
          have h1:=hG1 (w.at d) hRd;cases hgo:stepG P (i==0) g (w.at d) with
          | go g' w' es =>
            rw[hgo,qY]at h1;obtain⟨C',ha'⟩:=RingO.ownC (a':=g') Cd ha h1.1;refine .head (ho:=by exact .of h1.1.rest) (by rw[hst];exact runT_crowd_go (sl:=sl') ha hgo) ?_
            refine(ih ha' h1.2 C').bind fun m' T'=>?_;rintro⟨gs',a',w2,sl2,q',B',rfl,k1,k2,k3,k4⟩;exact .here ⟨gs',a',w2,sl2,q',B',rfl,by simpa using k1,k2,k3,k4⟩
          | _=>rw[hgo]at h1;exact h1.elim
        . obtain⟨gs',ops,q',w',hrt,hsz',hsp,hS,hw0,_,_,C',hlt⟩:=qy (sl:=sl') (fun t u i=>Knows.app u) Cd hi e hg
            (fun x gx w' hx hgx _=>by subst hx;rw[ha]at hgx;obtain rfl:=qa hgx;exact qk (.inl hrun) _) (fun hD=>hD.elim)
            (fun s gq _ _=>⟨fun hD=>hD,fun x gx c hx hgx _=>by subst hx;rw[ha]at hgx;obtain rfl:=qa hgx;exact qd (by rw[hrun];simp) _ _⟩)
          have hR:Ro OB h w w':=by
            by_cases h0:i=0
            . refine hRd.trans _ _ _ ⟨fun b hb=>hS.only b fun ho=>hb ⟨ho,by omega⟩,hS.size,hS.d.rest⟩
            . rw[hw0 h0];exact hRd
          refine .head (ho:=by exact .side hS.rest) (by rw[hst];exact hrt) ?_
          refine(ihm (sumTo gs'.size q') (by rw[hsz',<-hm];exact hlt) rfl (by rw[hsp h rfl];exact ha) (hG.rely Ro.trans hR) C').bind fun m' T'=>?_
          rintro⟨gs2,a',w2,sl2,q2,B',rfl,k1,k2,k3,k4⟩;exact .here ⟨gs2,a',w2,sl2,q2,B',rfl,by omega,k2,k3,k4⟩
    intro B T gs w q sl a ha hG C;exact key _ rfl ha hG C
theorem RingO.unseat(C:RingO P OB WB B Iv Mem Inb h T gs w q):RingO P OB WB B Iv Mem (fun i=>if i=h then none else Inb i) h T gs w q:=by
  have hne:∀i s',(if i=h then none else Inb i)=some s'->i≠h/\Inb i=some s':=fun i s' e=>by
    by_cases hi:i=h
    . rw[if_pos hi]at e;cases e
    . rw[if_neg hi]at e;exact⟨hi,e⟩
  refine⟨fun x y hx hy=>?_,fun i s' c z e hc=>C.chans i s' c z (hne i s' e).2 hc,fun i s' c e hc=>C.far i s' c (hne i s' e).2 hc,fun i s' e=>C.wf i s' (hne i s' e).2,fun _ _ hx=>hx.elim,fun i i' sx sv c eq ey h1 h2=>C.inj i i' sx sv c (hne _ _ eq).2 (hne _ _ ey).2 h1 h2,C.above,fun i s' e=>C.mem i s' (hne i s' e).2,fun i hM=>?_,fun i s' hi e=>⟨hi,by show(if i=h then none else Inb i).isSome=true;rw[e];rfl⟩,?_,C.apart,C.ivst,C.lowB⟩
  . show ziX P OB WB B Iv T x (q x) y w (if x=h then none else Inb x)
    rw[if_neg hx];exact C.idle x y hx hy
  . by_cases hi:i=h
    . exact .inr hi
    . rcases C.nomem i hM with z|z
      . exact .inl (by show(if i=h then none else Inb i)≠none;rw[if_neg hi];exact z)
      . exact .inr z
  . refine C.past.fewer (fun g hg=>hg) fun g ⟨h1,h2⟩=>⟨h1,?_⟩;show(if g=h then none else Inb g).isSome=true
    rw[if_neg h1];exact h2
end
variable {BB RR:Nat->Prop}
section
variable {P:Program}{σ:Type}{X:Face P σ}{OB WB:Nat->Prop}{B:Nat}{Iv:Nat->World->Prop}{Mem:Nat->Prop}{Inb:Nat->Option Seat}{T:Trace}{gs:Array Goroutine}{w:World}{q:Nat->Nat}{h:Nat}
structure zp4 (X:Face P σ) (WB:Nat->Prop):Prop where
  cell:∀F S w b,X.rep F S w->X.fp F S b->∃c el fr,w.heap[b]?=some (.cells c el fr)
  soft:∀F S w w',X.rep F S w->w.heap.size<=w'.heap.size->(∀b,X.fp F S b->∃c el fr fr',w.heap[b]?=some (.cells c el fr)/\w'.heap[b]?=some (.cells c el fr')/\(WB b\/fr'=fr))->X.rep F S w'
def Vis(X:Face P σ)(F:Emb)(c:Conf σ)(b:Nat):Prop:=(∃n r,(heap c).get n=some r/\F.blk n=b)\/X.fp F (st c) b
def zhN(X:Face P σ)(F:Emb)(c:Conf σ)(b:Nat):Prop:=(∃n r,(heap c).get n=some r/\r.ro=false/\F.blk n=b)\/X.fp F (st c) b
def RInv(X:Face P σ)(F:Emb)(c:Conf σ)(w:World):Prop:=InvC X F w (fun _=>True) c w
open Classical in
noncomputable def zeS (BB RR:Nat->Prop) (w:World):World:={ w with heap:=w.heap.mapIdx fun b o=>if BB b then ztk else if RR b then(match o with|.cells c el _=>.cells c el (0,c.size)|o=>o) else o }
theorem zfE(w:World)(b:Nat):(zeS BB RR w).heap[b]?=(w.heap[b]?).map fun o=>open Classical in if BB b then ztk else if RR b then(match o with|.cells c el _=>.cells c el (0,c.size)|o=>o) else o:=by
  simp[zeS,Array.getElem?_mapIdx]
theorem zlp{w:World}(hlow:∀b,BB b\/RR b->b<w.heap.size)(hv:∀b o,¬BB b->w.heap[b]?=some o->zh1 o=false)(hR:∀b,RR b->¬BB b->∃c el fr,w.heap[b]?=some (.cells c el fr)):Shade BB RR (zeS BB RR w) w:=by
  have hsz:(zeS BB RR w).heap.size=w.heap.size:=by simp[zeS]
  refine⟨hsz,hlow,fun b h1 h2=>?_,fun b h1=>?_,fun b h1 h2=>?_,fun b o h1 h2=>?_⟩
  . rw[zfE];simp[h1,h2]
  . rw[zfE,qe (hlow b (.inl h1))];simp[h1]
  . obtain⟨c,el,fr,hc⟩:=hR b h1 h2;exact⟨c,el,fr,hc,by rw[zfE,hc];simp[h1,h2]⟩
  . rw[zfE]at h2;obtain⟨o',ho',rfl⟩:=qs.1 h2;have:=hv b o' h1 ho';simp only[h1,if_false];split
    . cases o'<;>first|rfl|exact this
    . exact this
theorem zi1{w0 w:World}(S:Shade BB RR w0 w){fr:Frame}(hl:fr.leaving P w0 (.returned v)):fr.leaving P w (.returned v):=by
  obtain⟨h1,h2,h3,fn,h4,h5⟩:=hl;refine⟨h1,h2,h3,fn,h4,?_⟩;have T:=zeo (P:=P) fn fr.tmps;have h6:(results fn fr.tmps).runT P w0 #[]=(.ok v w0,(results fn fr.tmps).events P w0 #[]):=by rw[Sem.runT_eq,h5]
  obtain⟨w',h7,S',hsz,hfr,hws,hdr,_⟩:=zll P _ T S h6 (fun i q hi=>by omega)
  have hh:w'.heap=w.heap:=qG fun b=>by
    by_cases hb:BB b\/RR b
    . exact hfr b hb
    . rw[<-S.same b (fun z=>hb (.inl z)) (fun z=>hb (.inr z)),<-S'.same b (fun z=>hb (.inl z)) (fun z=>hb (.inr z))]
  have hw:w'=w:=by
    rw[hws,hh,show w'.drawn=w.drawn by omega]
  have h8:=h7;rw[Sem.runT_eq,Prod.mk.injEq]at h8;rw[h8.1,hw]
def EvO(OB WB:Nat->Prop)(h:Nat)(w:World)(e:Event):Prop:=e=⟨.mark .noRoom,false,true⟩\/(e.sync=false/\∃a:Addr,e.loc=.cell a/\a.block<w.heap.size/\(e.write=true->¬ (WB a.block/\3<=a.off))/\(OB a.block->h=0))
def zgT(P:Program)(OB WB:Nat->Prop)(h:Nat)(F:Emb)(b:Frame)(cs:List Frame):Conf σ->World->Goroutine->Prop
  | .run todo tmps _ _,_,g=>g=qP (b.at (actF F tmps) todo) cs
  | .done v _ _,w,g=>∃fr,g=qP fr cs/\fr.fn=b.fn/\(∀w1,Ro OB h w w1->fr.leaving P w1 (.returned (ren F v))) /\
      ∀c0 cs0,cs=c0::cs0->∀w1,Ro OB h w w1->∃es,stepG P (h==0) g w1=.go (qP (c0.finish (ren F v)) cs0) w1 es/\∀e∈es,EvO OB WB h w1 e
theorem DO.quiet{Inb:Nat->Option Seat}{w:World}(h':∀e∈es,EvO OB WB h w e):DO OB WB Inb h w w es:=⟨fun _ _ _ _ _=>rfl,fun _ _ _=>rfl,fun _ _ _=>rfl,qm _,rfl,h'⟩
structure zvb (X:Face P σ) (OB WB:Nat->Prop) (h:Nat) (A:Conf σ->Prop) (b:Frame) (cs:List Frame) (c:Conf σ) (F:Emb) (w:World) (c':Conf σ) (F':Emb) (w':World) (g':Goroutine):Prop where
  done:A c'
  stands:zgT P OB WB h F' b cs c' w' g'
  inv:RInv X F' c' w'
  same:Same (Kn (heap c).next (X.cnt (st c))) F F'
  cnt:X.cnt (st c)<=X.cnt (st c')
  next:(heap c).next<=(heap c').next
  keep:∀x,x<w.heap.size->¬zhN X F c x->¬ (OB x/\h≠0)->w'.heap[x]?=w.heap[x]?
  size:w.heap.size<=w'.heap.size
  os:w'.os=w.os
  tape:w'.tape=w.tape
  output:w'.output=w.output
  vis:∀x,Vis X F' c' x->x<w.heap.size->Vis X F c x
  keepW:∀x,WB x->w'.heap[x]?=w.heap[x]?
  wro:∀n r,(heap c').get n=some r->WB (F'.blk n)->r.ro=true
  turns:∀x,zhN X F' c' x->x<w.heap.size->zhN X F c x
theorem zdr{F:Emb}{c:Conf σ}(hX:zp4 X WB)(I:RInv X F c w){b:Nat}(hv:Vis X F c b):∃cc el fr,w.heap[b]?=some (.cells cc el fr):=by
  rcases hv with⟨n,r,hr,rfl⟩|hf
  . obtain⟨pre,post,fr,h1,_⟩:=I.1.holds.row n r hr;exact⟨_,_,_,h1⟩
  . exact hX.cell _ _ _ _ I.1.rep hf
theorem zin(hX:zp4 X WB){fn:Func}{A:Conf σ->Prop}{todo:List Item}{tmps:List Value}{hh:AHeap}{S0:σ}(G:Goes X fn A (.run todo tmps hh S0)){b:Frame}{cs:List Frame}{F:Emb}{sl:Option (Nat×Nat)}(hb:P.funcs[b.fn]?=some fn)(hk:b.kind=.normal)(C:RingO P OB WB B Iv Mem Inb h T gs w q)(hg:gs[h]?=some g)(hS:g=qP (b.at (actF F tmps) todo) cs)(I:RInv X F (.run todo tmps hh S0) w)(hown:∀x,OB x->h≠0->¬Vis X F (.run todo tmps hh S0) x)(hWB:∀x,WB x->Vis X F (.run todo tmps hh S0) x->∃cc el fr,w.heap[x]?=some (.cells cc el fr)/\cc.size≠0)(hro:∀n r,hh.get n=some r->WB (F.blk n)->r.ro=true)(hOlow:∀x,OB x->x<w.heap.size)(hWlow:∀x,WB x->x<w.heap.size):
    Reach P (crowd gs w sl) T fun m' T'=>∃gs' g' w' sl' q' B' c' F',m'=crowd gs' w' sl'/\gs'.size=gs.size/\gs'[h]?=some g'/\zvb X OB WB h A b cs (.run todo tmps hh S0) F w c' F' w' g'/\RingO P OB WB B' Iv Mem Inb h T' gs' w' q':=by
  generalize hc0:(Conf.run todo tmps hh S0:Conf σ)=c at *
  let BB:Nat->Prop:=fun x=>x<w.heap.size/\¬Vis X F c x
  let RR:Nat->Prop:=fun x=>x<w.heap.size/\WB x/\Vis X F c x
  have hvr:∀x,Vis X F c x->∃cc el fr,w.heap[x]?=some (.cells cc el fr):=fun x hv=>zdr hX I hv;have hvlow:∀x,Vis X F c x->x<w.heap.size:=fun x hv=>by
    obtain⟨cc,el,fr,h1⟩:=hvr x hv;exact zac h1
  have S:Shade BB RR (zeS BB RR w) w:=zlp (fun x hx=>hx.elim (·.1) (·.1)) (fun x o h1 h2=>by
      have hlt:=zac h2;have hv:Vis X F c x:=qu fun z=>h1 ⟨hlt,z⟩;obtain⟨cc,el,fr,h3⟩:=hvr x hv;rw[h3]at h2;cases h2;rfl) (fun x h1 _=>hvr x h1.2.2)
  generalize hws:zeS BB RR w=ws at S;have hsz:ws.heap.size=w.heap.size:=S.size
  -- the invariant in the shade
  have hat:∀x,Vis X F c x->∃cc el fr fr',w.heap[x]?=some (.cells cc el fr)/\ws.heap[x]?=some (.cells cc el fr')/\(WB x\/fr'=fr):=fun x hv=>by
    obtain⟨cc,el,fr,h1⟩:=hvr x hv;have hnB:¬BB x:=fun z=>z.2 hv;by_cases hW:WB x
    . have hR:RR x:=⟨hvlow x hv,hW,hv⟩;obtain⟨c',el',fr',h3,h4⟩:=S.cold x hR hnB;rw[h1]at h3;cases h3;exact⟨cc,el,fr,_,h1,h4,.inl hW⟩
    . exact⟨cc,el,fr,fr,h1,by rw[S.same x hnB (fun z=>hW z.2.1)];exact h1,.inr rfl⟩
  have hH:Holds F (heap c) ws:=by
    refine⟨fun n r hr=>?_,I.1.holds.apart⟩;obtain⟨pre,post,fr,h1,h2,h3,h4,h5⟩:=I.1.holds.row n r hr;obtain⟨cc,el,fr0,fr',h6,h7,h8⟩:=hat _ (.inl ⟨n,r,hr,rfl⟩);rw[h1]at h6;cases h6;refine⟨pre,post,fr',h7,h2,fun hro'=>?_,h4,h5⟩;rcases h8 with hW|rfl
    . subst hc0;have:=hro n r hr hW;rw[hro']at this;cases this
    . exact h3 hro'
  have hrep:X.rep F (st c) ws:=hX.soft _ _ _ _ I.1.rep (by omega) fun x hf=>hat x (.inr hf)
  have hI:InvC X F ws (zhN X F c) c ws :=
    ⟨⟨hH,hrep,I.1.vst,I.1.hst,I.1.hk,I.1.hand,I.1.klim,Kept.refl _ _,fun n r hr hro' _=>.inl ⟨n,r,hr,hro',rfl⟩,fun x hf _=>.inr hf,I.1.sep⟩,I.2⟩
  have hFo:zhH OB WB Inb h BB RR:=⟨fun x hO h0=>⟨hOlow x hO,hown x hO h0⟩,fun x hW=>by
      by_cases hv:Vis X F c x
      . exact .inr ⟨hWlow x hW,hW,hv⟩
      . exact .inl ⟨hWlow x hW,hv⟩,fun i s x hi hs=>by
      obtain⟨cap,k,hx⟩:=C.chans i s x (fun z=>z) hi hs;refine⟨zac hx,fun hv=>?_⟩;obtain⟨cc,el,fr,h1⟩:=hvr x hv;rw[h1]at hx;cases hx⟩
  have hT:=G.tree (b:=b) (cs:=cs) (g:=g) hb hk (by subst hc0;exact hS) hI S.nov
  refine(zjr (fun g' w' hE=>?_) hT _ rfl hg S hFo C).bind fun m' T'=>?_
  . obtain⟨_,c',F',_,hst,_⟩:=hE;cases c' with
    | run=>rw[show g'=_ from hst];rfl
    | done=>obtain⟨fr,rfl,_⟩:=hst;rfl
  rintro⟨gs',g',w0',w',sl',q',B',rfl,k1,k2,⟨hN,c',F',k3,k4,k5,k6,k7,k8⟩,S',k9,C'⟩;have hne:∀x,RR x->∃cc el fr,w'.heap[x]?=some (.cells cc el fr)/\cc.size≠0:=fun x hR=>by
    obtain⟨cc,el,fr,h1,h2⟩:=hWB x hR.2.1 hR.2.2;exact⟨cc,el,fr,by rw[k9.keep x (.inr hR) fun z=>C.apart x z.1 hR.2.1];exact h1,h2⟩
  have hnB:∀x cc el fr,w0'.heap[x]?=some (.cells cc el fr)->¬BB x:=fun x cc el fr h1 hB=>by
    rw[S'.dead x hB]at h1;cases h1
  have hback:∀x cc el fr,w0'.heap[x]?=some (.cells cc el fr)->∃fr',w'.heap[x]?=some (.cells cc el fr')/\((RR x/\cc.size≠0/\fr=(0,cc.size))\/fr'=fr):=fun x cc el fr h1=>by
    have hB:=hnB x cc el fr h1;by_cases hR:RR x
    . obtain⟨c1,e1,f1,h2,h3⟩:=S'.cold x hR hB;rw[h1]at h3;cases h3;obtain⟨c2,e2,f2,h4,h5⟩:=hne x hR;rw[h2]at h4;cases h4;exact⟨_,h2,.inl ⟨hR,h5,rfl⟩⟩
    . exact⟨fr,by rw[<-S'.same x hB hR];exact h1,.inr rfl⟩
  have hH':Holds F' (heap c') w':=by
    refine⟨fun n r hr=>?_,k5.1.holds.apart⟩;obtain⟨pre,post,fr,h1,h2,h3,h4,h5⟩:=k5.1.holds.row n r hr;obtain⟨fr',h6,h7⟩:=hback _ _ _ _ h1;refine⟨pre,post,fr',h6,h2,fun hro'=>?_,h4,h5⟩;have h8:=h3 hro';rcases h7 with⟨_,h9,h10⟩|rfl
    . rw[h8]at h10;simp only[Prod.mk.injEq]at h10;exact absurd h10.2.symm h9
    . exact h8
  have hrep':X.rep F' (st c') w':=hX.soft _ _ _ _ k5.1.rep (by have:=S'.size;omega) fun x hf=>by
    obtain⟨cc,el,fr,h1⟩:=hX.cell _ _ _ _ k5.1.rep hf;obtain⟨fr',h6,h7⟩:=hback _ _ _ _ h1;exact⟨cc,el,fr,fr',h1,h6,h7.imp (·.1.2.1) id⟩
  have hvis:∀x,Vis X F' c' x->x<w.heap.size->Vis X F c x:=fun x hv hlt=>by
    have:∃cc el fr,w0'.heap[x]?=some (.cells cc el fr):=by
      rcases hv with⟨n,r,hr,rfl⟩|hf
      . obtain⟨pre,post,fr,h1,_⟩:=k5.1.holds.row n r hr;exact⟨_,_,_,h1⟩
      . exact hX.cell _ _ _ _ k5.1.rep hf
    obtain⟨cc,el,fr,h1⟩:=this;exact qu fun z=>hnB _ _ _ _ h1 ⟨hlt,z⟩
  refine .here ⟨gs',g',w',sl',q',B',c',F',rfl,k1,k2,⟨k3,?_,⟨⟨hH',hrep',k5.1.vst,k5.1.hst,k5.1.hk,k5.1.hand,k5.1.klim,Kept.refl _ _,fun _ _ _ _ _=>trivial,fun _ _ _=>trivial,k5.1.sep⟩,k5.2⟩,k6,k7,k8,fun x hlt hM hO=>?_,k9.size,k9.os,k9.tape,k9.output,hvis,fun x hW=>?_,fun n r hr hW=>?_,fun x hx hl=>?_⟩,C'⟩
  . cases c' with
    | run=>exact k4
    | done v hh S =>
      obtain⟨fr,h1,h2,h3⟩:=k4;have hsh:∀w1,Ro OB h w' w1->Shade BB RR w0' w1:=fun w1 hw1=>zh0 S' hw1.size fun b hb=>hw1.only b fun hO=>hb ⟨hOlow b hO.1,hown b hO.1 hO.2⟩;refine⟨fr,h1,h2,fun w1 hw1=>zi1 (hsh w1 hw1) h3,fun c0 cs0 hcs w1 hw1=>?_⟩;subst hcs;obtain⟨_,es,x⟩:=(zoA (c:=c0) (cs:=cs0) h3).2 hN;obtain⟨w2,g1,g2,g3,g4,g5,g6,g7⟩:=x.move BB RR (h==0) w1 (hsh w1 hw1) (fun i q hi=>by omega)
      have hh:w2.heap=w1.heap:=qG fun b=>by
        by_cases hb:BB b\/RR b
        . exact g4 b hb
        . rw[<-g2.same b (fun z=>hb (.inl z)) (fun z=>hb (.inr z)),<-(hsh w1 hw1).same b (fun z=>hb (.inl z)) (fun z=>hb (.inr z))]
      have hw2:w2=w1:=by
        rw[g5,hh,show w2.drawn=w1.drawn by omega]
      rw[hw2]at g1 g7;refine⟨es,by rw[h1];exact g1,fun e he=>?_⟩
      rcases g7 e he with h8|⟨h8,a,h9,h10,h11,h12⟩
      . exact .inl h8
      . refine .inr ⟨h8,a,h9,h12,fun hwr hW=>?_,fun hO=>qu fun h0=>h10 (hFo.own _ hO h0)⟩;rcases hFo.waits _ hW.1 with z|z
        . exact h10 z
        . exact h11 hwr z
  . by_cases hB:BB x
    . exact k9.keep x (.inl hB) hO
    by_cases hR:RR x
    . exact k9.keep x (.inr hR) hO
    rw[<-S'.same x hB hR,<-S.same x hB hR];exact k5.1.kept.block x (by rw[<-hsz]at hlt;exact hlt) hM
  . exact k9.keep x ((hFo.waits x hW).imp id id) fun z=>C.apart x z.1 hW
  . obtain⟨pre,post,fr,h1,h2,h3,h4,h5⟩:=k5.1.holds.row n r hr;have hR:RR (F'.blk n):=(hFo.waits _ hW).resolve_left (hnB _ _ _ _ h1);obtain⟨fr',h6,h7⟩:=hback _ _ _ _ h1;cases hro':r.ro with
    | true=>rfl
    | false =>
      have h8:=h3 hro';obtain⟨c1,e1,f1,g1,g2⟩:=S'.cold _ hR (hnB _ _ _ _ h1);rw[h1]at g2;injection g2 with g2
      injection g2 with g3 g4 g5
      obtain⟨c2,e2,f2,g6,g7⟩:=hne _ hR;rw[g1]at g6;injection g6 with g6
      injection g6 with g6 _ _
      rw[h8]at g5;simp only[Prod.mk.injEq]at g5;exact absurd (g6▸g5.2.symm) g7
  . rw[<-hsz]at hl;rcases hx with⟨n,r,h1,h2,rfl⟩|hx
    . exact k5.1.own n r h1 h2 hl
    . exact k5.1.fown x hx hl
end
end Go.Proofs.Ytkjmaapbeicmkaa
