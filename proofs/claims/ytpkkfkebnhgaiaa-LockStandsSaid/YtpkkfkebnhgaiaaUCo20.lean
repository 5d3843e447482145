/-
  Memories, ports and threads in a world: the faces of goroutine 0 (mn = true), and of a body.
  Condition: each call that is known does what is said of it (zat).
-/
import Derived.Test.YtpkkfkebnhgaiaaUCo10
import Derived.Test.YtpkkfkebnhgaiaaUAx1
import Derived.Conc.TokenWords
import Derived.Test.YtpkkfkebnhgaiaaUQuick
import Derived.Deep.Slices
import Derived.Deep.Fields
import Derived.ChangeSame
set_option maxHeartbeats 40000000
set_option linter.unusedVariables false
set_option linter.unusedSimpArgs false
set_option maxRecDepth 100000
open Go.Instr renaming makeInterface->qa,makeFunc->qb
open Go.Conc renaming goes_oper_k->qc,mem_listed->qd,goes_go->qe,stepG_region_end->qh,stepG_region->ql,stepG_seq->qo,Goes->qv,mem_ofEvents->qA,G->qG
open Go.Proofs.Ytpkkfkebnhgaiaa.Clo renaming plain->qf
open List.range renaming loop->qg
open Nat renaming reduceAdd->qi,zero_add->qk,le_refl->qs,lt_of_lt_of_le->qy
open List renaming replicate->qj,range->qn
open Option renaming getD_some->qm,map_eq_some_iff->qu
open Classical renaming byContradiction->qp
open Go.MemOp renaming ofEvents->qq
open Option.some renaming inj->qr
open Array renaming ext_getElem?->qw,getElem?_setIfInBounds_ne->qB,getElem?_eq_some_iff->qF
open Go.Conc.Goes renaming stop->qC,step->qJ
open Go.Act renaming eval->qD
open Bool renaming false_eq_true->qL,and_eq_true->qN
namespace Go.Proofs.Ytpkkfkebnhgaiaa
open Go Go.Conc
open Go.ConcN (sumTo upd sumTo_upd upd_ne upd_same)
variable {P:Program}{n b tb wb dn ak gr qt j:Nat}{g:Goroutine}{w' w1 w0:World}
theorem qstp{main:Bool}{R:World->World->Prop}{D:World->World->Array Event->Prop}{Stop:Goroutine->World->Prop}{w:World}{K:World->Prop}(hK:∀w1,R w w1->K w1)(hs:g.status=.running)(h:∀w1,K w1->(stepG P main g w1).goes fun g1 w2 es=>D w1 w2 es/\qv P main R D Stop n g1 w2):qv P main R D Stop (n+1) g w:=qJ hs fun w1 hw=>h w1 (hK w1 hw)
variable {es:Array Event}
section
variable {P:Program}{OB WB:Nat->Prop}{B:Nat}{Iv:Nat->World->Prop}{K:Trace->Nat->Prop}{Mem Lo:Nat->Prop}{Inb:Nat->Option Seat}{Sp Dead:Nat->Prop}{T:Trace}{gs:Array Goroutine}{w:World}{q:Nat->Nat}{h:Nat}
structure DO (OB WB:Nat->Prop) (Inb:Nat->Option Seat) (h:Nat) (w w':World) (es:Array Event):Prop where
  seats:∀i s c,Inb i=some s->s.has c->w'.heap[c]?=w.heap[c]?
  still:∀a:Addr,WB a.block->3<=a.off->w'.cell? a=w.cell? a
  own:h≠0->∀b,OB b->w'.heap[b]?=w.heap[b]?
  size:w.heap.size<=w'.heap.size
  rest:w'={ w with heap:=w'.heap,drawn:=w'.drawn }
  evs:∀e∈es,e=⟨.mark .noRoom,false,true⟩\/(e.sync=false/\∃a:Addr,e.loc=.cell a/\a.block<w'.heap.size/\(e.write=true->¬ (WB a.block/\3<=a.off))/\(OB a.block->h=0))
theorem DO.none(w:World):DO OB WB Inb h w w #[]:=⟨fun _ _ _ _ _=>rfl,fun _ _ _=>rfl,fun _ _ _=>rfl,qs _,rfl,fun e he=>by simp at he⟩
theorem zsQ{fn:FuncId}{pos:String}{w:World}(D:DO OB WB Inb h w w' es)(hB:w'.heap.size<=n):
    (∀op∈qq h fn pos es,op.g=h)/\(∀op∈qq h fn pos es,∀b,op.act.touch?=some b->(zcr WB b.loc->b.write=false)/\(ownL OB b.loc->h=0))/\(∀op∈qq h fn pos es,op.act.low n)/\∀t:Trace,Deaf (t++qq h fn pos es) h=Deaf t h:=by
  refine⟨fun op hop=>by obtain⟨e,_,rfl⟩:=qA hop;rfl,fun op hop b hb=>?_,fun op hop=>?_,fun t=>?_⟩
  . obtain⟨e,he',rfl⟩:=qA hop;rcases D.evs e he' with rfl|⟨hsy,a,hloc,h3,h1,h2⟩
    . simp[MemAct.ofEvent,MemAct.touch?]at hb
    . obtain⟨l,wr,sy⟩:=e;simp only at hsy hloc h1;subst hsy hloc;have hbl:b.loc=.cell a/\b.write=wr:=by
        cases wr<;>(simp[MemAct.ofEvent,MemAct.touch?]at hb;subst hb;exact⟨rfl,rfl⟩)
      rw[hbl.1,hbl.2];refine⟨fun⟨a',e,ha,h4⟩=>?_,fun⟨a',e,ha⟩=>?_⟩
      . simp only[Loc.cell.injEq]at e;subst e;cases wr
        . rfl
        . exact absurd ⟨ha,h4⟩ (h1 rfl)
      . simp only[Loc.cell.injEq]at e;subst e;exact h2 ha
  . obtain⟨e,he',rfl⟩:=qA hop;rcases D.evs e he' with rfl|⟨hsy,a,hloc,h3,h1,h2⟩
    . exact trivial
    . obtain⟨l,wr,sy⟩:=e;simp only at hsy hloc;subst hsy hloc;cases wr<;>exact qy h3 hB
  . rw[Deaf_own];exact deafBehind_still (fun e he'=>by
      rcases D.evs e he' with rfl|⟨hsy,a,hloc,_⟩
      . exact⟨by simp,by simp⟩
      . exact⟨by rw[hloc];simp,by rw[hloc];simp⟩) _
theorem RingO.ownC(C:RingO P OB WB B Iv Mem Inb h T gs w q){a a':Goroutine}(ha:gs[h]?=some a)(D:DO OB WB Inb h w w' es):
    RingO P OB WB (max B w'.heap.size) Iv Mem Inb h (T++qq h a.frame.fn a.frame.place es) ((gs.map (woken P a a' w')).setIfInBounds h a') w' q/\((gs.map (woken P a a' w')).setIfInBounds h a')[h]?=some a':=by
  have hlt:h<gs.size:=(qF.1 ha).1;have hBm:B<=max B w'.heap.size:=Nat.le_max_left _ _;obtain⟨hops,hs,hl,hdf⟩:=zsQ (fn:=a.frame.fn) (pos:=a.frame.place) D (Nat.le_max_right B _);have hrl:∀x,x≠h->Rl OB WB x w w':=fun x hx=>⟨fun ad had h3=>D.still ad had h3,fun e b hb=>D.own (by omega) b hb⟩
  refine⟨⟨fun x y hx hy=>?_,fun i s c _ hi hc=>?_,C.far,C.wf,fun _ _ hx=>hx.elim,C.inj,fun j hj=>?_,CoF.memB hBm C,C.nomem,C.lo,PastO.appH (C.past.mono hBm) hops hs (hdf T) hl,C.apart,C.ivst,Nat.max_le.2 ⟨Nat.le_trans C.lowB D.size,qs _⟩⟩,Array.getElem?_setIfInBounds_self_of_lt (by simpa using hlt)⟩
  . rw[qB (fun e=>hx e.symm),Array.getElem?_map]at hy;obtain⟨yq,hyq,rfl⟩:=qu.1 hy;rw[woken_of_again (CoF.fixed' C D.seats hx hyq)];have hi:=CoF.idleB hBm C x yq hx hyq;cases es':Inb x with
    | none=>rw[es']at hi;exact⟨hi.1,by rw[Deaf_other T (fun z=>hx z.symm) _ hops];exact hi.2⟩
    | some s=>rw[es']at hi;exact SitsO.rely C.ivst hi (hrl x hx)
  . obtain⟨cap,k,hk⟩:=C.chans i s c (fun z=>z) hi hc;exact⟨cap,k,by rw[D.seats i s c hi hc];exact hk⟩
  . simp only[Array.size_setIfInBounds,Array.size_map]at hj;rw[Deaf_other T (g':=h) (by omega) _ hops]
    exact C.above j hj
def Ro(OB:Nat->Prop)(h:Nat)(w w1:World):Prop:=SideD (fun b=>OB b/\h≠0) w w1
theorem Ro.refl(w:World):Ro OB h w w:=SideD.refl w
theorem Ro.trans(a b c:World)(x:Ro OB h a b)(y:Ro OB h b c):Ro OB h a c:=SideD.trans x y
theorem Ro.heap{w:World}(x:Ro OB h w w1)(hb:¬OB b):w1.heap[b]?=w.heap[b]?:=x.only b fun z=>hb z.1
theorem Ro.heap0{w:World}(x:Ro OB 0 w w1):w1={ w with drawn:=w1.drawn }:=by
  have hh:w1.heap=w.heap:=qw fun b=>x.only b fun z=>z.2 rfl;have:=x.rest;rw[hh]at this;exact this
theorem zaR{Stop:Goroutine->World->Prop}:∀(n:Nat) {B:Nat} {T:Trace} {gs:Array Goroutine} {w:World} {q:Nat->Nat} {sl:Option (Nat×Nat)} {a:Goroutine},gs[h]?=some a->qv P (h==0) (Ro OB h) (DO OB WB Inb h) Stop n a w->RingO P OB WB B Iv Mem Inb h T gs w q ->
    Reach P (crowd gs w sl) T fun m' T'=>∃gs' a' w' sl' q' B',m'=crowd gs' w' sl'/\gs'.size=gs.size/\gs'[h]?=some a'/\Stop a' w'/\RingO P OB WB B' Iv Mem Inb h T' gs' w' q':=by
  have stop:∀{n:Nat} {B:Nat} {T:Trace} {gs:Array Goroutine} {w:World} {q:Nat->Nat} {sl:Option (Nat×Nat)} {a:Goroutine},gs[h]?=some a->(∀w₁,Ro OB h w w₁->Stop a w₁)->RingO P OB WB B Iv Mem Inb h T gs w q ->
    Reach P (crowd gs w sl) T fun m' T'=>∃gs' a' w' sl' q' B',m'=crowd gs' w' sl'/\gs'.size=gs.size/\gs'[h]?=some a'/\Stop a' w'/\RingO P OB WB B' Iv Mem Inb h T' gs' w' q' :=
    fun {_ B T gs w q sl a} ha hst C=>.here ⟨gs,a,w,sl,q,B,rfl,rfl,ha,hst w (Ro.refl w),C⟩
  intro n
  induction n with
  | zero=>intro B T gs w q sl a ha hG C;exact stop (n:=0) ha hG C
  | succ n ih =>
    have key:∀(m:Nat) {B:Nat} {T:Trace} {gs:Array Goroutine} {w:World} {q:Nat->Nat} {sl:Option (Nat×Nat)} {a:Goroutine},sumTo gs.size q=m->gs[h]?=some a->qv P (h==0) (Ro OB h) (DO OB WB Inb h) Stop (n+1) a w->RingO P OB WB B Iv Mem Inb h T gs w q ->
        Reach P (crowd gs w sl) T fun m' T'=>∃gs' a' w' sl' q' B',m'=crowd gs' w' sl'/\gs'.size=gs.size/\gs'[h]?=some a'/\Stop a' w'/\RingO P OB WB B' Iv Mem Inb h T' gs' w' q':=by
      intro m
      induction m using Nat.strongRecOn with
      | _ m ihm =>
        intro B T gs w q sl a hm ha hG C;rcases id hG with hG1|⟨hrun,hG1⟩
        . exact stop (n:=0) ha hG1 C
        obtain⟨i,g,d,sl',hi,hg,hst⟩:=crowd_pick (P:=P) (w:=w) (sl:=sl) (CoF.awake C fun x g hx hgx=>by subst hx;rw[ha]at hgx;obtain rfl:=qr hgx;exact .inl hrun) ⟨h,a,ha,hrun⟩
        have Cd:RingO P OB WB B Iv Mem Inb h T gs (w.at d) q:=CoF.at C d;have hRd:Ro OB h w (w.at d):=⟨fun _ _=>rfl,rfl,rfl⟩;by_cases e:i=h
        . subst e;obtain rfl:g=a:=by rw[ha]at hi;exact(qr hi).symm
          have h1:=hG1 (w.at d) hRd;cases hgo:stepG P (i==0) g (w.at d) with
          | go g' w' es =>
            rw[hgo,qe]at h1;obtain⟨C',ha'⟩:=RingO.ownC (a':=g') Cd ha h1.1;refine .head (ho:=by exact .of h1.1.rest) (by rw[hst];exact runT_crowd_go (sl:=sl') ha hgo) ?_
            refine(ih ha' h1.2 C').bind fun m' T'=>?_;rintro⟨gs',a',w2,sl2,q',B',rfl,k1,k2,k3,k4⟩;exact .here ⟨gs',a',w2,sl2,q',B',rfl,by simpa using k1,k2,k3,k4⟩
          | _=>rw[hgo]at h1;exact h1.elim
        . obtain⟨gs',ops,q',w',hrt,hsz',hsp,hS,hw0,_,_,C',hlt⟩:=CoF.by_step (sl:=sl') (fun t u i=>Knows.app u) Cd hi e hg
            (fun x gx w' hx hgx _=>by subst hx;rw[ha]at hgx;obtain rfl:=qr hgx;exact again_of_running (.inl hrun) _) (fun hD=>hD.elim)
            (fun s gq _ _=>⟨fun hD=>hD,fun x gx c hx hgx _=>by subst hx;rw[ha]at hgx;obtain rfl:=qr hgx;exact offersAt_of_not_blocked (by rw[hrun];simp) _ _⟩)
          have hR:Ro OB h w w':=by
            by_cases h0:i=0
            . refine hRd.trans _ _ _ ⟨fun b hb=>hS.only b fun ho=>hb ⟨ho,by omega⟩,hS.size,hS.d.rest⟩
            . rw[hw0 h0];exact hRd
          refine .head (ho:=by exact .side hS.rest) (by rw[hst];exact hrt) ?_
          refine(ihm (sumTo gs'.size q') (by rw[hsz',<-hm];exact hlt) rfl (by rw[hsp h rfl];exact ha) (hG.rely Ro.trans hR) C').bind fun m' T'=>?_
          rintro⟨gs2,a',w2,sl2,q2,B',rfl,k1,k2,k3,k4⟩;exact .here ⟨gs2,a',w2,sl2,q2,B',rfl,by omega,k2,k3,k4⟩
    intro B T gs w q sl a ha hG C;exact key _ rfl ha hG C
theorem RingO.unseat(C:RingO P OB WB B Iv Mem Inb h T gs w q):RingO P OB WB B Iv Mem (fun i=>if i=h then none else Inb i) h T gs w q:=by
  have hne:∀i s',(if i=h then none else Inb i)=some s'->i≠h/\Inb i=some s':=fun i s' e=>by
    by_cases hi:i=h
    . rw[if_pos hi]at e;cases e
    . rw[if_neg hi]at e;exact⟨hi,e⟩
  refine⟨fun x y hx hy=>?_,fun i s' c z e hc=>C.chans i s' c z (hne i s' e).2 hc,fun i s' c e hc=>C.far i s' c (hne i s' e).2 hc,fun i s' e=>C.wf i s' (hne i s' e).2,fun _ _ hx=>hx.elim,fun i i' sx sv c eq ez h1 h2=>C.inj i i' sx sv c (hne _ _ eq).2 (hne _ _ ez).2 h1 h2,C.above,fun i s' e=>C.mem i s' (hne i s' e).2,fun i hM=>?_,fun i s' hi e=>⟨hi,by show(if i=h then none else Inb i).isSome=true;rw[e];rfl⟩,?_,C.apart,C.ivst,C.lowB⟩
  . show zg2 P OB WB B Iv T x (q x) y w (if x=h then none else Inb x)
    rw[if_neg hx];exact C.idle x y hx hy
  . by_cases hi:i=h
    . exact .inr hi
    . rcases C.nomem i hM with z|z
      . exact .inl (by show(if i=h then none else Inb i)≠none;rw[if_neg hi];exact z)
      . exact .inr z
  . refine C.past.fewer (fun g hg=>hg) fun g ⟨h1,h2⟩=>⟨h1,?_⟩;show(if g=h then none else Inb g).isSome=true
    rw[if_neg h1];exact h2
end
variable {BB RR:Nat->Prop}{cs:List Frame}
section
variable {P:Program}{σ:Type}{X:Face P σ}{OB WB:Nat->Prop}{B:Nat}{Iv:Nat->World->Prop}{Mem:Nat->Prop}{Inb:Nat->Option Seat}{T:Trace}{gs:Array Goroutine}{w:World}{q:Nat->Nat}{h:Nat}
structure zqQ (X:Face P σ) (WB:Nat->Prop):Prop where
  cell:∀F S w b,X.rep F S w->X.fp F S b->∃c el fr,w.heap[b]?=some (.cells c el fr)
  soft:∀F S w w',X.rep F S w->w.heap.size<=w'.heap.size->(∀b,X.fp F S b->∃c el fr fr',w.heap[b]?=some (.cells c el fr)/\w'.heap[b]?=some (.cells c el fr')/\(WB b\/fr'=fr))->X.rep F S w'
def Vis(X:Face P σ)(F:Emb)(c:Conf σ)(b:Nat):Prop:=(∃n r,(heap c).get n=some r/\F.blk n=b)\/X.fp F (st c) b
def zh0(X:Face P σ)(F:Emb)(c:Conf σ)(b:Nat):Prop:=(∃n r,(heap c).get n=some r/\r.ro=false/\F.blk n=b)\/X.fp F (st c) b
def RInv(X:Face P σ)(F:Emb)(c:Conf σ)(w:World):Prop:=InvC X F w (fun _=>True) c w
open Classical in
noncomputable def ze0 (BB RR:Nat->Prop) (w:World):World:={ w with heap:=w.heap.mapIdx fun b o=>if BB b then zrZ else if RR b then(match o with|.cells c el _=>.cells c el (0,c.size)|o=>o) else o }
theorem zfq(w:World)(b:Nat):(ze0 BB RR w).heap[b]?=(w.heap[b]?).map fun o=>open Classical in if BB b then zrZ else if RR b then(match o with|.cells c el _=>.cells c el (0,c.size)|o=>o) else o:=by
  simp[ze0,Array.getElem?_mapIdx]
theorem zlj{w:World}(hlow:∀b,BB b\/RR b->b<w.heap.size)(hv:∀b o,¬BB b->w.heap[b]?=some o->zir o=false)(hR:∀b,RR b->¬BB b->∃c el fr,w.heap[b]?=some (.cells c el fr)):Shade BB RR (ze0 BB RR w) w:=by
  have hsz:(ze0 BB RR w).heap.size=w.heap.size:=by simp[ze0]
  refine⟨hsz,hlow,fun b h1 h2=>?_,fun b h1=>?_,fun b h1 h2=>?_,fun b o h1 h2=>?_⟩
  . rw[zfq];simp[h1,h2]
  . rw[zfq,Array.getElem?_eq_getElem (hlow b (.inl h1))];simp[h1]
  . obtain⟨c,el,fr,hc⟩:=hR b h1 h2;exact⟨c,el,fr,hc,by rw[zfq,hc];simp[h1,h2]⟩
  . rw[zfq]at h2;obtain⟨o',ho',rfl⟩:=qu.1 h2;have:=hv b o' h1 ho';simp only[h1,if_false];split
    . cases o'<;>first|rfl|exact this
    . exact this
theorem zi6{w:World}(S:Shade BB RR w0 w){fr:Frame}{v:Value}(hl:fr.leaving P w0 (.returned v)):fr.leaving P w (.returned v):=by
  obtain⟨h1,h2,h3,fn,h4,h5⟩:=hl;refine⟨h1,h2,h3,fn,h4,?_⟩;have T:=zew (P:=P) fn fr.tmps;have h6:(results fn fr.tmps).runT P w0 #[]=(.ok v w0,(results fn fr.tmps).events P w0 #[]):=by rw[Sem.runT_eq,h5]
  obtain⟨w',h7,S',hsz,hfr,hws,hdr,_⟩:=zlC P _ T S h6 (fun i q hi=>by omega)
  have hh:w'.heap=w.heap:=qw fun b=>by
    by_cases hb:BB b\/RR b
    . exact hfr b hb
    . rw[<-S.same b (fun z=>hb (.inl z)) (fun z=>hb (.inr z)),<-S'.same b (fun z=>hb (.inl z)) (fun z=>hb (.inr z))]
  have hw:w'=w:=by
    rw[hws,hh,show w'.drawn=w.drawn by omega]
  have h8:=h7;rw[Sem.runT_eq,Prod.mk.injEq]at h8;rw[h8.1,hw]
def EvO(OB WB:Nat->Prop)(h:Nat)(w:World)(e:Event):Prop:=e=⟨.mark .noRoom,false,true⟩\/(e.sync=false/\∃a:Addr,e.loc=.cell a/\a.block<w.heap.size/\(e.write=true->¬ (WB a.block/\3<=a.off))/\(OB a.block->h=0))
def zhm(P:Program)(OB WB:Nat->Prop)(h:Nat)(F:Emb)(b:Frame)(cs:List Frame):Conf σ->World->Goroutine->Prop
  | .run todo tmps _ _,_,g=>g=qG (b.at (actF F tmps) todo) cs
  | .done v _ _,w,g=>∃fr,g=qG fr cs/\fr.fn=b.fn/\(∀w1,Ro OB h w w1->fr.leaving P w1 (.returned (ren F v))) /\
      ∀c0 cs0,cs=c0::cs0->∀w1,Ro OB h w w1->∃es,stepG P (h==0) g w1=.go (qG (c0.finish (ren F v)) cs0) w1 es/\∀e∈es,EvO OB WB h w1 e
theorem DO.quiet{Inb:Nat->Option Seat}{w:World}(h':∀e∈es,EvO OB WB h w e):DO OB WB Inb h w w es:=⟨fun _ _ _ _ _=>rfl,fun _ _ _=>rfl,fun _ _ _=>rfl,qs _,rfl,h'⟩
structure zuq (X:Face P σ) (OB WB:Nat->Prop) (h:Nat) (A:Conf σ->Prop) (b:Frame) (cs:List Frame) (c:Conf σ) (F:Emb) (w:World) (c':Conf σ) (F':Emb) (w':World) (g':Goroutine):Prop where
  done:A c'
  stands:zhm P OB WB h F' b cs c' w' g'
  inv:RInv X F' c' w'
  same:Same (Kn (heap c).next (X.cnt (st c))) F F'
  cnt:X.cnt (st c)<=X.cnt (st c')
  next:(heap c).next<=(heap c').next
  keep:∀x,x<w.heap.size->¬zh0 X F c x->¬ (OB x/\h≠0)->w'.heap[x]?=w.heap[x]?
  size:w.heap.size<=w'.heap.size
  os:w'.os=w.os
  tape:w'.tape=w.tape
  output:w'.output=w.output
  vis:∀x,Vis X F' c' x->x<w.heap.size->Vis X F c x
  keepW:∀x,WB x->w'.heap[x]?=w.heap[x]?
  wro:∀n r,(heap c').get n=some r->WB (F'.blk n)->r.ro=true
  turns:∀x,zh0 X F' c' x->x<w.heap.size->zh0 X F c x
theorem zde{F:Emb}{c:Conf σ}(hX:zqQ X WB)(I:RInv X F c w)(hv:Vis X F c b):∃cc el fr,w.heap[b]?=some (.cells cc el fr):=by
  rcases hv with⟨n,r,hr,rfl⟩|hf
  . obtain⟨pre,post,fr,h1,_⟩:=I.1.holds.row n r hr;exact⟨_,_,_,h1⟩
  . exact hX.cell _ _ _ _ I.1.rep hf
theorem ziq(hX:zqQ X WB){fn:Func}{A:Conf σ->Prop}{todo:List Item}{tmps:List Value}{hh:AHeap}{S0:σ}(G:Goes X fn A (.run todo tmps hh S0)){b:Frame}{F:Emb}{sl:Option (Nat×Nat)}(hb:P.funcs[b.fn]?=some fn)(hk:b.kind=.normal)(C:RingO P OB WB B Iv Mem Inb h T gs w q)(hg:gs[h]?=some g)(hS:g=qG (b.at (actF F tmps) todo) cs)(I:RInv X F (.run todo tmps hh S0) w)(hown:∀x,OB x->h≠0->¬Vis X F (.run todo tmps hh S0) x)(hWB:∀x,WB x->Vis X F (.run todo tmps hh S0) x->∃cc el fr,w.heap[x]?=some (.cells cc el fr)/\cc.size≠0)(hro:∀n r,hh.get n=some r->WB (F.blk n)->r.ro=true)(hOlow:∀x,OB x->x<w.heap.size)(hWlow:∀x,WB x->x<w.heap.size):
    Reach P (crowd gs w sl) T fun m' T'=>∃gs' g' w' sl' q' B' c' F',m'=crowd gs' w' sl'/\gs'.size=gs.size/\gs'[h]?=some g'/\zuq X OB WB h A b cs (.run todo tmps hh S0) F w c' F' w' g'/\RingO P OB WB B' Iv Mem Inb h T' gs' w' q':=by
  generalize hc0:(Conf.run todo tmps hh S0:Conf σ)=c at *
  let BB:Nat->Prop:=fun x=>x<w.heap.size/\¬Vis X F c x
  let RR:Nat->Prop:=fun x=>x<w.heap.size/\WB x/\Vis X F c x
  have hvr:∀x,Vis X F c x->∃cc el fr,w.heap[x]?=some (.cells cc el fr):=fun x hv=>zde hX I hv;have hvlow:∀x,Vis X F c x->x<w.heap.size:=fun x hv=>by
    obtain⟨cc,el,fr,h1⟩:=hvr x hv;exact zab h1
  have S:Shade BB RR (ze0 BB RR w) w:=zlj (fun x hx=>hx.elim (·.1) (·.1)) (fun x o h1 h2=>by
      have hlt:=zab h2;have hv:Vis X F c x:=qp fun z=>h1 ⟨hlt,z⟩;obtain⟨cc,el,fr,h3⟩:=hvr x hv;rw[h3]at h2;cases h2;rfl) (fun x h1 _=>hvr x h1.2.2)
  generalize hws:ze0 BB RR w=ws at S;have hsz:ws.heap.size=w.heap.size:=S.size
  -- the invariant in the shade
  have hat:∀x,Vis X F c x->∃cc el fr fr',w.heap[x]?=some (.cells cc el fr)/\ws.heap[x]?=some (.cells cc el fr')/\(WB x\/fr'=fr):=fun x hv=>by
    obtain⟨cc,el,fr,h1⟩:=hvr x hv;have hnB:¬BB x:=fun z=>z.2 hv;by_cases hW:WB x
    . have hR:RR x:=⟨hvlow x hv,hW,hv⟩;obtain⟨c',el',fr',h3,h4⟩:=S.cold x hR hnB;rw[h1]at h3;cases h3;exact⟨cc,el,fr,_,h1,h4,.inl hW⟩
    . exact⟨cc,el,fr,fr,h1,by rw[S.same x hnB (fun z=>hW z.2.1)];exact h1,.inr rfl⟩
  have hH:Holds F (heap c) ws:=by
    refine⟨fun n r hr=>?_,I.1.holds.apart⟩;obtain⟨pre,post,fr,h1,h2,h3,h4,h5⟩:=I.1.holds.row n r hr;obtain⟨cc,el,fr0,fr',h6,h7,h8⟩:=hat _ (.inl ⟨n,r,hr,rfl⟩);rw[h1]at h6;cases h6;refine⟨pre,post,fr',h7,h2,fun hro'=>?_,h4,h5⟩;rcases h8 with hW|rfl
    . subst hc0;have:=hro n r hr hW;rw[hro']at this;cases this
    . exact h3 hro'
  have hrep:X.rep F (st c) ws:=hX.soft _ _ _ _ I.1.rep (by omega) fun x hf=>hat x (.inr hf)
  have hI:InvC X F ws (zh0 X F c) c ws :=
    ⟨⟨hH,hrep,I.1.vst,I.1.hst,I.1.hk,I.1.hand,I.1.klim,Kept.refl _ _,fun n r hr hro' _=>.inl ⟨n,r,hr,hro',rfl⟩,fun x hf _=>.inr hf,I.1.sep⟩,I.2⟩
  have hFo:zgR OB WB Inb h BB RR:=⟨fun x hO h0=>⟨hOlow x hO,hown x hO h0⟩,fun x hW=>by
      by_cases hv:Vis X F c x
      . exact .inr ⟨hWlow x hW,hW,hv⟩
      . exact .inl ⟨hWlow x hW,hv⟩,fun i s x hi hs=>by
      obtain⟨cap,k,hx⟩:=C.chans i s x (fun z=>z) hi hs;refine⟨zab hx,fun hv=>?_⟩;obtain⟨cc,el,fr,h1⟩:=hvr x hv;rw[h1]at hx;cases hx⟩
  have hT:=G.tree (b:=b) (cs:=cs) (g:=g) hb hk (by subst hc0;exact hS) hI S.nov
  refine(zkk (fun g' w' hE=>?_) hT _ rfl hg S hFo C).bind fun m' T'=>?_
  . obtain⟨_,c',F',_,hst,_⟩:=hE;cases c' with
    | run=>rw[show g'=_ from hst];rfl
    | done=>obtain⟨fr,rfl,_⟩:=hst;rfl
  rintro⟨gs',g',w0',w',sl',q',B',rfl,k1,k2,⟨hN,c',F',k3,k4,k5,k6,k7,k8⟩,S',k9,C'⟩;have hne:∀x,RR x->∃cc el fr,w'.heap[x]?=some (.cells cc el fr)/\cc.size≠0:=fun x hR=>by
    obtain⟨cc,el,fr,h1,h2⟩:=hWB x hR.2.1 hR.2.2;exact⟨cc,el,fr,by rw[k9.keep x (.inr hR) fun z=>C.apart x z.1 hR.2.1];exact h1,h2⟩
  have hnB:∀x cc el fr,w0'.heap[x]?=some (.cells cc el fr)->¬BB x:=fun x cc el fr h1 hB=>by
    rw[S'.dead x hB]at h1;cases h1
  have hback:∀x cc el fr,w0'.heap[x]?=some (.cells cc el fr)->∃fr',w'.heap[x]?=some (.cells cc el fr')/\((RR x/\cc.size≠0/\fr=(0,cc.size))\/fr'=fr):=fun x cc el fr h1=>by
    have hB:=hnB x cc el fr h1;by_cases hR:RR x
    . obtain⟨c1,e1,f1,h2,h3⟩:=S'.cold x hR hB;rw[h1]at h3;cases h3;obtain⟨c2,e2,f2,h4,h5⟩:=hne x hR;rw[h2]at h4;cases h4;exact⟨_,h2,.inl ⟨hR,h5,rfl⟩⟩
    . exact⟨fr,by rw[<-S'.same x hB hR];exact h1,.inr rfl⟩
  have hH':Holds F' (heap c') w':=by
    refine⟨fun n r hr=>?_,k5.1.holds.apart⟩;obtain⟨pre,post,fr,h1,h2,h3,h4,h5⟩:=k5.1.holds.row n r hr;obtain⟨fr',h6,h7⟩:=hback _ _ _ _ h1;refine⟨pre,post,fr',h6,h2,fun hro'=>?_,h4,h5⟩;have h8:=h3 hro';rcases h7 with⟨_,h9,h10⟩|rfl
    . rw[h8]at h10;simp only[Prod.mk.injEq]at h10;exact absurd h10.2.symm h9
    . exact h8
  have hrep':X.rep F' (st c') w':=hX.soft _ _ _ _ k5.1.rep (by have:=S'.size;omega) fun x hf=>by
    obtain⟨cc,el,fr,h1⟩:=hX.cell _ _ _ _ k5.1.rep hf;obtain⟨fr',h6,h7⟩:=hback _ _ _ _ h1;exact⟨cc,el,fr,fr',h1,h6,h7.imp (·.1.2.1) id⟩
  have hvis:∀x,Vis X F' c' x->x<w.heap.size->Vis X F c x:=fun x hv hlt=>by
    have:∃cc el fr,w0'.heap[x]?=some (.cells cc el fr):=by
      rcases hv with⟨n,r,hr,rfl⟩|hf
      . obtain⟨pre,post,fr,h1,_⟩:=k5.1.holds.row n r hr;exact⟨_,_,_,h1⟩
      . exact hX.cell _ _ _ _ k5.1.rep hf
    obtain⟨cc,el,fr,h1⟩:=this;exact qp fun z=>hnB _ _ _ _ h1 ⟨hlt,z⟩
  refine .here ⟨gs',g',w',sl',q',B',c',F',rfl,k1,k2,⟨k3,?_,⟨⟨hH',hrep',k5.1.vst,k5.1.hst,k5.1.hk,k5.1.hand,k5.1.klim,Kept.refl _ _,fun _ _ _ _ _=>trivial,fun _ _ _=>trivial,k5.1.sep⟩,k5.2⟩,k6,k7,k8,fun x hlt hM hO=>?_,k9.size,k9.os,k9.tape,k9.output,hvis,fun x hW=>?_,fun n r hr hW=>?_,fun x hx hl=>?_⟩,C'⟩
  . cases c' with
    | run=>exact k4
    | done v hh S =>
      obtain⟨fr,h1,h2,h3⟩:=k4;have hsh:∀w1,Ro OB h w' w1->Shade BB RR w0' w1:=fun w1 hw1=>ziB S' hw1.size fun b hb=>hw1.only b fun hO=>hb ⟨hOlow b hO.1,hown b hO.1 hO.2⟩;refine⟨fr,h1,h2,fun w1 hw1=>zi6 (hsh w1 hw1) h3,fun c0 cs0 hcs w1 hw1=>?_⟩;subst hcs;obtain⟨_,es,x⟩:=(zpB (c:=c0) (cs:=cs0) h3).2 hN;obtain⟨w2,g1,g2,g3,g4,g5,g6,g7⟩:=x.move BB RR (h==0) w1 (hsh w1 hw1) (fun i q hi=>by omega)
      have hh:w2.heap=w1.heap:=qw fun b=>by
        by_cases hb:BB b\/RR b
        . exact g4 b hb
        . rw[<-g2.same b (fun z=>hb (.inl z)) (fun z=>hb (.inr z)),<-(hsh w1 hw1).same b (fun z=>hb (.inl z)) (fun z=>hb (.inr z))]
      have hw2:w2=w1:=by
        rw[g5,hh,show w2.drawn=w1.drawn by omega]
      rw[hw2]at g1 g7;refine⟨es,by rw[h1];exact g1,fun e he=>?_⟩
      rcases g7 e he with h8|⟨h8,a,h9,h10,h11,h12⟩
      . exact .inl h8
      . refine .inr ⟨h8,a,h9,h12,fun hwr hW=>?_,fun hO=>qp fun h0=>h10 (hFo.own _ hO h0)⟩;rcases hFo.waits _ hW.1 with z|z
        . exact h10 z
        . exact h11 hwr z
  . by_cases hB:BB x
    . exact k9.keep x (.inl hB) hO
    by_cases hR:RR x
    . exact k9.keep x (.inr hR) hO
    rw[<-S'.same x hB hR,<-S.same x hB hR];exact k5.1.kept.block x (by rw[<-hsz]at hlt;exact hlt) hM
  . exact k9.keep x ((hFo.waits x hW).imp id id) fun z=>C.apart x z.1 hW
  . obtain⟨pre,post,fr,h1,h2,h3,h4,h5⟩:=k5.1.holds.row n r hr;have hR:RR (F'.blk n):=(hFo.waits _ hW).resolve_left (hnB _ _ _ _ h1);obtain⟨fr',h6,h7⟩:=hback _ _ _ _ h1;cases hro':r.ro with
    | true=>rfl
    | false =>
      have h8:=h3 hro';obtain⟨c1,e1,f1,g1,g2⟩:=S'.cold _ hR (hnB _ _ _ _ h1);rw[h1]at g2;injection g2 with g2
      injection g2 with g3 g4 g5
      obtain⟨c2,e2,f2,g6,g7⟩:=hne _ hR;rw[g1]at g6;injection g6 with g6
      injection g6 with g6 _ _
      rw[h8]at g5;simp only[Prod.mk.injEq]at g5;exact absurd (g6▸g5.2.symm) g7
  . rw[<-hsz]at hl;rcases hx with⟨n,r,h1,h2,rfl⟩|hx
    . exact k5.1.own n r h1 h2 hl
    . exact k5.1.fown x hx hl
end
section
variable {OB WB:Nat->Prop}{B i h:Nat}
theorem Dw.none(w:World):Dw OB WB B i w w #[]:=⟨fun _ _=>rfl,rfl,rfl,fun e he=>by simp at he⟩
theorem Dw.quiet{w:World}(h:∀e∈es,EvW OB WB B i e):Dw OB WB B i w w es:=⟨fun _ _=>rfl,rfl,rfl,h⟩
theorem zg6{a:Addr}{wr:Bool}(h0:i=0)(hO:OB a.block)(hB:a.block<B):EvW OB WB B i ⟨.cell a,wr,false⟩:=⟨a,hB,.inr ⟨h0,hO,wr,rfl⟩⟩
theorem zhN{a:Addr}(hW:WB a.block)(h3:3<=a.off)(hB:a.block<B):EvW OB WB B i ⟨.cell a,false,false⟩:=⟨a,hB,.inl ⟨rfl,hW,h3⟩⟩
structure KG (OB WB:Nat->Prop) (w0:World) (tb wb dn ak:Nat) (w:World):Prop where
  own:∀b,OB b->w.heap[b]?=w0.heap[b]?
  hO:OB tb
  hW:WB wb
  port:w0.cell? ⟨tb,1,none⟩=some (.pointer (some ⟨wb,0,none⟩))
  done:w0.cell? ⟨tb,2,none⟩=some (.chan (some dn))
  has3:∃v,w0.cell? ⟨tb,3,none⟩=some v
  free:w0.frozen? ⟨tb,3,none⟩=false
  ask:w.cell? ⟨wb,3,none⟩=some (.chan (some ak))
theorem KG.rely{w:World}(K:KG OB WB w0 tb wb dn ak w)(h:Rl OB WB 0 w w1):KG OB WB w0 tb wb dn ak w1 :=
  ⟨fun b hb=>(h.2 rfl b hb).trans (K.own b hb),K.hO,K.hW,K.port,K.done,K.has3,K.free,(h.1 _ K.hW (qs 3)).trans K.ask⟩
theorem zb8(P:Program)(w:World)(es:Array Event)(a:Addr)(m:Mode)(x:Option Addr):(store a (.pointer x) m).events P w es=storedEv P w es a (.pointer x) m:=events_store P w es a _ m rfl
abbrev pt(b:Nat)(o:Nat:=0):Value:=.pointer (some ⟨b,o,none⟩)
def cL:Code->Code|.seq a _=>a|c=>c
def cR:Code->Code|.seq _ b=>b|c=>c
def cOps:Code->Array Oper|.region _ ops _=>ops|_=>#[]
noncomputable def zhV:Code:=(Try.f23.body).getD .skip
theorem heap_setCell(w:World)(a:Addr)(u:Value)(b:Nat):(w.setCell a u).heap[b]?=if a.block=b then(w.heap[b]?).map (fun|.cells c elem frozen=>.cells (if a.spot.isSome then c else c.setIfInBounds a.off u) elem frozen|o=>o) else w.heap[b]?:=by
  unfold World.setCell;simp only[Array.getElem?_modify];split<;>rfl
theorem za5(w w':World)(a:Addr)(h:w'.heap[a.block]?=w.heap[a.block]?):w'.cell? a=w.cell? a:=by
  unfold World.cell?;rw[h]
theorem zbL(w w':World)(a:Addr)(h:w'.heap[a.block]?=w.heap[a.block]?):w'.frozen? a=w.frozen? a:=by
  unfold World.frozen?;rw[h]
theorem za1(w:World)(b o o':Nat)(u:Value)(h:o≠o'):(w.setCell ⟨b,o,none⟩ u).cell? ⟨b,o',none⟩=w.cell? ⟨b,o',none⟩:=by
  unfold World.cell?;rw[heap_setCell,if_pos rfl];cases w.heap[b]? with
  | none=>rfl
  | some x=>cases x<;>simp[qB h]
theorem KG.port'{w:World}(K:KG OB WB w0 tb wb dn ak w):w.cell? ⟨tb,1,none⟩=some (.pointer (some ⟨wb,0,none⟩)):=(za5 w0 w _ (K.own tb K.hO)).trans K.port
theorem KG.done'{w:World}(K:KG OB WB w0 tb wb dn ak w):w.cell? ⟨tb,2,none⟩=some (.chan (some dn)):=(za5 w0 w _ (K.own tb K.hO)).trans K.done
theorem KG.free'{w:World}(K:KG OB WB w0 tb wb dn ak w):w.frozen? ⟨tb,3,none⟩=false:=(zbL w0 w _ (K.own tb K.hO)).trans K.free
theorem KG.has'{w:World}(K:KG OB WB w0 tb wb dn ak w):∃v,w.cell? ⟨tb,3,none⟩=some v:=by
  obtain⟨v,hv⟩:=K.has3;exact⟨v,(za5 w0 w _ (K.own tb K.hO)).trans hv⟩
theorem KG.store{w:World}(K:KG OB WB w0 tb wb dn ak w)(hne:wb≠tb):KG OB WB (w0.setCell ⟨tb,3,none⟩ (.pointer none)) tb wb dn ak (w.setCell ⟨tb,3,none⟩ (.pointer none)):=by
  refine⟨fun b hb=>?_,K.hO,K.hW,?_,?_,?_,?_,?_⟩
  . rw[heap_setCell,heap_setCell,K.own b hb]
  . rw[za1 _ _ _ _ _ (by decide)];exact K.port
  . rw[za1 _ _ _ _ _ (by decide)];exact K.done
  . obtain⟨v,hv⟩:=K.has3;obtain⟨c,el,fr,hb,hs,hc⟩:=zaQ hv;refine⟨.pointer none,?_⟩;unfold World.cell?;rw[heap_setCell,if_pos rfl,hb];have:=(qF.1 hc).1;simp[this]
  . rw[<-K.free];unfold World.frozen?;rw[heap_setCell,if_pos rfl];cases w0.heap[tb]? with
    | none=>rfl
    | some x=>cases x<;>simp
  . rw[za5 w _ _ (by rw[heap_setCell,if_neg (fun e=>hne e.symm)])];exact K.ask
abbrev zuv(tb wb dn ak:Nat):Array Value:=#[pt tb,undef,undef,undef,pt tb,pt tb,pt tb 3,pt tb,pt tb,pt tb 1,pt wb,pt wb,pt wb 3,.chan (some ak),pt tb,pt tb,pt tb 2,.chan (some dn),undef,undef,undef,undef,undef,undef,undef,undef,undef,undef,undef,undef,undef,undef,undef]
theorem Dw.set{w:World}{a:Addr}{u:Value}(h0:i=0)(hO:OB a.block)(hs:∀e∈es,EvW OB WB B i e):Dw OB WB B i w (w.setCell a u) es:=by
  refine⟨fun b hb=>?_,by simp[World.setCell],rfl,hs⟩
  rw[heap_setCell,if_neg (fun(e:a.block=b)=>hb ⟨h0,e▸hO⟩)]
theorem zn7{b:Frame}{a:Act}{ops:Array Oper}{i:Nat}{rest:List Nat}{kk:List Item}{o:Oper}{s:Seat}(ho:ops[i]?=some o)(hw:Region.wanted o (yielded ops a.tmps)=true)(hk:b.kind≠.early)(hr:∀w,(execOp a.eval o).run P w=.ok (.comm s.cases true s.shape) w)(he:∀w,(execOp a.eval o).events P w #[]=#[])(h:s.home (G (b.at a (.inRegion ops (i::rest)::kk)) cs)):AtS P s (G (b.at a (.inRegion ops (i::rest)::kk)) cs) (G (b.at a (.inRegion ops (i::rest)::kk)) cs) :=
  ⟨rfl,rfl,rfl,rfl,h,fun main w=>by rw[stepG_comm ho hw hk (hr _),listed_none (he _)]⟩
abbrev accZ:Value:=.agg #[.int .u8 0,.int .i64 0,.int .u64 0,.int .u64 0]
noncomputable def ze8:Array Oper:=cOps (cL (cR (cR zhV)))
noncomputable def zfJ:Code:=cR (cR (cR zhV))
noncomputable def zje (tb wb dn ak:Nat) (cs:List Frame):Goroutine:=G ((base 23).at ⟨zuv tb wb dn ak,[]⟩ [.inRegion ze8 [0,1,2,3],.code zfJ]) cs
noncomputable def zb1 (tb wb dn ak:Nat) (cs:List Frame):Seat:={ cases:=#[rcase ak accZ,rcase dn .nilIface],shape:=.select,home:=fun g=>g=zje tb wb dn ak cs }
theorem zlY{w:World}(hK:KG OB WB w0 tb wb dn ak w)(hne:wb≠tb)(htB:tb<B)(hwB:wb<B)(cs:List Frame):
    qv Try.prog true (Rl OB WB 0) (Dw OB WB B 0) (fun g w=>(∃gq,AtS Try.prog (zb1 tb wb dn ak cs) g gq)/\KG OB WB (w0.setCell ⟨tb,3,none⟩ (.pointer none)) tb wb dn ak w) 40 (G ((base 23).at ⟨#[pt tb,undef,undef,undef,undef,undef,undef,undef,undef,undef,undef,undef,undef,undef,undef,undef,undef,undef,undef,undef,undef,undef,undef,undef,undef,undef,undef,undef,undef,undef,undef,undef,undef],[]⟩ [.code zhV]) cs) w:=by
  simp only[zhV,Try.f23,qm];(refine qstp (fun _=>hK.rely) rfl fun w₁ hK=>?_;rw[qo];simp only[qe];refine⟨Dw.none _,?_⟩);(refine qstp (fun _=>hK.rely) rfl fun w₁ hK=>?_;rw[ql];simp only[qe,zSt,zLc,zLn,qi,qk,qn,qg];refine⟨Dw.none _,?_⟩);(refine qstp (fun _=>hK.rely) rfl fun w₁ hK=>?_;refine qc rfl rfl (by decide) (fun K hK'=>?_);go_simp;refine hK' _ _ ⟨Dw.quiet (fun e he=>(by have hm:=qd he;simp[go_sem,qa,qb]at hm)),?_⟩;clear hK' K)
  (refine qstp (fun _=>hK.rely) rfl fun w₁ hK=>?_;refine qc rfl rfl (by decide) (fun K hK'=>?_);go_simp;refine hK' _ _ ⟨Dw.quiet (fun e he=>(by have hm:=qd he;simp[go_sem,qa,qb]at hm)),?_⟩;clear hK' K);(refine qstp (fun _=>hK.rely) rfl fun w₁ hK=>?_;refine qc rfl rfl (by decide) (fun K hK'=>?_);go_simp;refine hK' _ _ ⟨Dw.quiet (fun e he=>(by have hm:=qd he;simp[go_sem,qa,qb]at hm)),?_⟩;clear hK' K);refine qJ rfl (fun w₁ h₁=>?_);replace hK:=hK.rely h₁
  clear h₁;obtain⟨v3,hv3⟩:=hK.has';have hz:=hK.free';refine qc rfl rfl (by decide) (fun K hK'=>?_)
  go_simp
  refine hK' _ _ ⟨Dw.set rfl hK.hO (fun e he=>(by have hm:=qd he;simp[go_sem,zb8,storedEv,hv3,hz]at hm;subst hm;exact zg6 rfl hK.hO htB)),?_⟩
  clear hK' K hv3 hz;replace hK:=hK.store hne;(refine qstp (fun _=>hK.rely) rfl fun w₁ hK=>?_;rw[qh];simp only[qe];refine⟨Dw.none _,?_⟩);(refine qstp (fun _=>hK.rely) rfl fun w₁ hK=>?_;rw[qo];simp only[qe];refine⟨Dw.none _,?_⟩);(refine qstp (fun _=>hK.rely) rfl fun w₁ hK=>?_;rw[qo];simp only[qe];refine⟨Dw.none _,?_⟩);(refine qstp (fun _=>hK.rely) rfl fun w₁ hK=>?_;rw[ql];simp only[qe,zSt,zLc,zLn,qi,qk,qn,qg];refine⟨Dw.none _,?_⟩);(refine qstp (fun _=>hK.rely) rfl fun w₁ hK=>?_;refine qc rfl rfl (by decide) (fun K hK'=>?_);go_simp;refine hK' _ _ ⟨Dw.quiet (fun e he=>(by have hm:=qd he;simp[go_sem,qa,qb]at hm)),?_⟩;clear hK' K)
  (refine qstp (fun _=>hK.rely) rfl fun w₁ hK=>?_;refine qc rfl rfl (by decide) (fun K hK'=>?_);go_simp;refine hK' _ _ ⟨Dw.quiet (fun e he=>(by have hm:=qd he;simp[go_sem,qa,qb]at hm)),?_⟩;clear hK' K);(refine qstp (fun _=>hK.rely) rfl fun w₁ hK=>?_;refine qc rfl rfl (by decide) (fun K hK'=>?_);go_simp;refine hK' _ _ ⟨Dw.quiet (fun e he=>(by have hm:=qd he;simp[go_sem,qa,qb]at hm)),?_⟩;clear hK' K);(refine qstp (fun _=>hK.rely) rfl fun w₁ hK=>?_;have hF:=hK.port';refine qc rfl rfl (by decide) (fun K hK'=>?_);go_simp;refine hK' _ _ ⟨Dw.quiet (fun e he=>(by have hm:=qd he;simp[go_sem,hF]at hm;subst hm;exact zg6 rfl hK.hO htB)),?_⟩;clear hK' K hF);(refine qstp (fun _=>hK.rely) rfl fun w₁ hK=>?_;refine qc rfl rfl (by decide) (fun K hK'=>?_);go_simp;refine hK' _ _ ⟨Dw.quiet (fun e he=>(by have hm:=qd he;simp[go_sem,qa,qb]at hm)),?_⟩;clear hK' K);(refine qstp (fun _=>hK.rely) rfl fun w₁ hK=>?_;refine qc rfl rfl (by decide) (fun K hK'=>?_);go_simp;refine hK' _ _ ⟨Dw.quiet (fun e he=>(by have hm:=qd he;simp[go_sem,qa,qb]at hm)),?_⟩;clear hK' K);(refine qstp (fun _=>hK.rely) rfl fun w₁ hK=>?_;have hF:=hK.ask;refine qc rfl rfl (by decide) (fun K hK'=>?_);go_simp;refine hK' _ _ ⟨Dw.quiet (fun e he=>(by have hm:=qd he;simp[go_sem,hF]at hm;subst hm;exact zhN hK.hW (qs 3) hwB)),?_⟩;clear hK' K hF);(refine qstp (fun _=>hK.rely) rfl fun w₁ hK=>?_;rw[qh];simp only[qe];refine⟨Dw.none _,?_⟩);(refine qstp (fun _=>hK.rely) rfl fun w₁ hK=>?_;rw[ql];simp only[qe,zSt,zLc,zLn,qi,qk,qn,qg];refine⟨Dw.none _,?_⟩);(refine qstp (fun _=>hK.rely) rfl fun w₁ hK=>?_;refine qc rfl rfl (by decide) (fun K hK'=>?_);go_simp;refine hK' _ _ ⟨Dw.quiet (fun e he=>(by have hm:=qd he;simp[go_sem,qa,qb]at hm)),?_⟩;clear hK' K);(refine qstp (fun _=>hK.rely) rfl fun w₁ hK=>?_;refine qc rfl rfl (by decide) (fun K hK'=>?_);go_simp;refine hK' _ _ ⟨Dw.quiet (fun e he=>(by have hm:=qd he;simp[go_sem,qa,qb]at hm)),?_⟩;clear hK' K);(refine qstp (fun _=>hK.rely) rfl fun w₁ hK=>?_;refine qc rfl rfl (by decide) (fun K hK'=>?_);go_simp;refine hK' _ _ ⟨Dw.quiet (fun e he=>(by have hm:=qd he;simp[go_sem,qa,qb]at hm)),?_⟩;clear hK' K);(refine qstp (fun _=>hK.rely) rfl fun w₁ hK=>?_;have hF:=hK.done';refine qc rfl rfl (by decide) (fun K hK'=>?_);go_simp;refine hK' _ _ ⟨Dw.quiet (fun e he=>(by have hm:=qd he;simp[go_sem,hF]at hm;subst hm;exact zg6 rfl hK.hO htB)),?_⟩;clear hK' K hF);(refine qstp (fun _=>hK.rely) rfl fun w₁ hK=>?_;rw[qh];simp only[qe];refine⟨Dw.none _,?_⟩);(refine qstp (fun _=>hK.rely) rfl fun w₁ hK=>?_;rw[qo];simp only[qe];refine⟨Dw.none _,?_⟩);(refine qstp (fun _=>hK.rely) rfl fun w₁ hK=>?_;rw[ql];simp only[qe,zSt,zLc,zLn,qi,qk,qn,qg];refine⟨Dw.none _,?_⟩);refine qC (fun w₁ h₁=>⟨⟨_,zn7 rfl rfl (by decide) (fun w=>by simp[go_sem,execOp,rcase,qD,zb1]) (fun w=>by simp[go_sem,execOp,qD]) (by simp only[zb1,zje,ze8,zfJ,zhV,cOps,cL,cR,Try.f23,qm])⟩,hK.rely h₁⟩)
end
section
variable {OB WB:Nat->Prop}{B i h:Nat}
noncomputable def doC:Code:=(Try.f75.body).getD .skip
noncomputable def zdG:Array Oper:=cOps (cL (cR (cL (cR doC))))
noncomputable def zel:Code:=cR (cR (cL (cR doC)))
noncomputable def doY:Code:=cR (cR doC)
noncomputable def zfH:Array Oper:=cOps (cL (cR (cR (cR doC))))
noncomputable def zef:Code:=cR (cR (cR (cR doC)))
structure KDo (WB:Nat->Prop) (wb gr qt:Nat) (w:World):Prop where
  hW:WB wb
  grant:w.cell? ⟨wb,4,none⟩=some (.chan (some gr))
  quit:w.cell? ⟨wb,5,none⟩=some (.chan (some qt))
theorem KDo.rely{w:World}(K:KDo WB wb gr qt w)(h:Rl OB WB j w w1):KDo WB wb gr qt w1 :=
  ⟨K.hW,(h.1 _ K.hW (by show 3<=4;omega)).trans K.grant,(h.1 _ K.hW (by show 3<=5;omega)).trans K.quit⟩
abbrev doT1(wb:Nat)(ab:Nat×Nat)(ak qt:Nat)(x y:Value):Array Value:=#[pt wb,x,undef,pt ab.1 ab.2,.int .u64 0,undef,pt wb,pt wb,pt wb 3,.chan (some ak),y,pt wb,pt wb,pt wb 5,.chan (some qt),undef,undef,undef,undef,undef,undef,undef,undef,undef,undef,undef,undef,undef,undef,undef,undef,undef,undef,undef,undef,undef,undef,undef,undef,undef,undef,undef,undef,undef]
abbrev ztH(wb:Nat)(ab:Nat×Nat)(ak qt:Nat)(x y:Value):Array Value:=#[pt wb,x,undef,pt ab.1 ab.2,.int .u64 0,undef,pt wb,pt wb,pt wb 3,.chan (some ak),y,pt wb,pt wb,pt wb 5,.chan (some qt),.tuple #[.int .i64 0,.bool false,.agg #[]],undef,undef,undef,undef,undef,undef,undef,undef,undef,undef,undef,undef,undef,undef,undef,undef,undef,undef,undef,undef,undef,undef,undef,undef,undef,undef,undef,undef]
abbrev doT2(wb:Nat)(ab:Nat×Nat)(ak qt gr:Nat)(x y:Value):Array Value:=#[pt wb,x,undef,pt ab.1 ab.2,.int .u64 0,undef,pt wb,pt wb,pt wb 3,.chan (some ak),y,pt wb,pt wb,pt wb 5,.chan (some qt),.tuple #[.int .i64 0,.bool false,.agg #[]],.int .i64 0,.bool true,.bool false,undef,undef,pt wb,pt wb,pt wb 4,.chan (some gr),pt wb,pt wb,pt wb 5,.chan (some qt),undef,undef,undef,undef,undef,undef,undef,undef,undef,undef,undef,undef,undef,undef,undef]
noncomputable def doG (wb:Nat) (ab:Nat×Nat) (ak qt gr:Nat) (x y:Value) (cs:List Frame):Goroutine:=G ((base 75).at ⟨doT2 wb ab ak qt gr x y,[]⟩ [.inRegion zfH [0,1,2,3],.code zef]) cs
noncomputable def zc5 (wb:Nat) (ab:Nat×Nat) (ak qt gr:Nat) (x y:Value) (cs:List Frame):Seat:={ cases:=#[rcase gr (.int .u64 0),rcase qt (.agg #[])],shape:=.select,home:=fun g=>g=doG wb ab ak qt gr x y cs }
theorem zs6{w:World}{ab:Nat×Nat}{x y:Value}(hK:KDo WB wb gr qt w)(hwB:wb<B)(cs:List Frame):
    qv Try.prog false (Rl OB WB j) (Dw OB WB B j) (fun g w=>∃gq,AtS Try.prog (zc5 wb ab ak qt gr x y cs) g gq) 60 (G ((base 75).at ⟨ztH wb ab ak qt x y,[]⟩ [.inRegion zdG [1,2,3],.code zel,.code doY]) cs) w:=by
  simp only[zdG,zel,doY,doC,cOps,cL,cR,Try.f75,qm];(refine qstp (fun _=>hK.rely) rfl fun w₁ hK=>?_;refine qc rfl rfl (by decide) (fun K hK'=>?_);go_simp;refine hK' _ _ ⟨Dw.quiet (fun e he=>(by have hm:=qd he;simp[go_sem,qa,qb]at hm)),?_⟩;clear hK' K)
  (refine qstp (fun _=>hK.rely) rfl fun w₁ hK=>?_;refine qc rfl rfl (by decide) (fun K hK'=>?_);go_simp;refine hK' _ _ ⟨Dw.quiet (fun e he=>(by have hm:=qd he;simp[go_sem,qa,qb]at hm)),?_⟩;clear hK' K);(refine qstp (fun _=>hK.rely) rfl fun w₁ hK=>?_;refine qc rfl rfl (by decide) (fun K hK'=>?_);go_simp;refine hK' _ _ ⟨Dw.quiet (fun e he=>(by have hm:=qd he;simp[go_sem,qa,qb]at hm)),?_⟩;clear hK' K);(refine qstp (fun _=>hK.rely) rfl fun w₁ hK=>?_;rw[qh];simp only[qe];refine⟨Dw.none _,?_⟩);(refine qstp (fun _=>hK.rely) rfl fun w₁ hK=>?_;rw[stepG_block];simp only[qe];refine⟨Dw.none _,?_⟩);(refine qstp (fun _=>hK.rely) rfl fun w₁ hK=>?_;rw[stepG_cond (t:=true) rfl];simp only[qe,if_true,if_false,qL,↓reduceIte];refine⟨Dw.none _,?_⟩);(refine qstp (fun _=>hK.rely) rfl fun w₁ hK=>?_;rw[stepG_skip];simp only[qe];refine⟨Dw.none _,?_⟩);(refine qstp (fun _=>hK.rely) rfl fun w₁ hK=>?_;rw[stepG_inBlock];simp only[qe];refine⟨Dw.none _,?_⟩);(refine qstp (fun _=>hK.rely) rfl fun w₁ hK=>?_;rw[qo];simp only[qe];refine⟨Dw.none _,?_⟩);(refine qstp (fun _=>hK.rely) rfl fun w₁ hK=>?_;rw[qo];simp only[qe];refine⟨Dw.none _,?_⟩);(refine qstp (fun _=>hK.rely) rfl fun w₁ hK=>?_;rw[ql];simp only[qe,zSt,zLc,zLn,qi,qk,qn,qg];refine⟨Dw.none _,?_⟩);(refine qstp (fun _=>hK.rely) rfl fun w₁ hK=>?_;refine qc rfl rfl (by decide) (fun K hK'=>?_);go_simp;refine hK' _ _ ⟨Dw.quiet (fun e he=>(by have hm:=qd he;simp[go_sem,qa,qb]at hm)),?_⟩;clear hK' K);(refine qstp (fun _=>hK.rely) rfl fun w₁ hK=>?_;refine qc rfl rfl (by decide) (fun K hK'=>?_);go_simp;refine hK' _ _ ⟨Dw.quiet (fun e he=>(by have hm:=qd he;simp[go_sem,qa,qb]at hm)),?_⟩;clear hK' K);(refine qstp (fun _=>hK.rely) rfl fun w₁ hK=>?_;refine qc rfl rfl (by decide) (fun K hK'=>?_);go_simp;refine hK' _ _ ⟨Dw.quiet (fun e he=>(by have hm:=qd he;simp[go_sem,qa,qb]at hm)),?_⟩;clear hK' K);(refine qstp (fun _=>hK.rely) rfl fun w₁ hK=>?_;have hF:=hK.grant;refine qc rfl rfl (by decide) (fun K hK'=>?_);go_simp;refine hK' _ _ ⟨Dw.quiet (fun e he=>(by have hm:=qd he;simp[go_sem,hF]at hm;subst hm;exact zhN hK.hW (by show 3<=4;omega) hwB)),?_⟩;clear hK' K hF);(refine qstp (fun _=>hK.rely) rfl fun w₁ hK=>?_;rw[qh];simp only[qe];refine⟨Dw.none _,?_⟩);(refine qstp (fun _=>hK.rely) rfl fun w₁ hK=>?_;rw[ql];simp only[qe,zSt,zLc,zLn,qi,qk,qn,qg];refine⟨Dw.none _,?_⟩);(refine qstp (fun _=>hK.rely) rfl fun w₁ hK=>?_;refine qc rfl rfl (by decide) (fun K hK'=>?_);go_simp;refine hK' _ _ ⟨Dw.quiet (fun e he=>(by have hm:=qd he;simp[go_sem,qa,qb]at hm)),?_⟩;clear hK' K);(refine qstp (fun _=>hK.rely) rfl fun w₁ hK=>?_;refine qc rfl rfl (by decide) (fun K hK'=>?_);go_simp;refine hK' _ _ ⟨Dw.quiet (fun e he=>(by have hm:=qd he;simp[go_sem,qa,qb]at hm)),?_⟩;clear hK' K)
  (refine qstp (fun _=>hK.rely) rfl fun w₁ hK=>?_;refine qc rfl rfl (by decide) (fun K hK'=>?_);go_simp;refine hK' _ _ ⟨Dw.quiet (fun e he=>(by have hm:=qd he;simp[go_sem,qa,qb]at hm)),?_⟩;clear hK' K);(refine qstp (fun _=>hK.rely) rfl fun w₁ hK=>?_;have hF:=hK.quit;refine qc rfl rfl (by decide) (fun K hK'=>?_);go_simp;refine hK' _ _ ⟨Dw.quiet (fun e he=>(by have hm:=qd he;simp[go_sem,hF]at hm;subst hm;exact zhN hK.hW (by show 3<=5;omega) hwB)),?_⟩;clear hK' K hF);(refine qstp (fun _=>hK.rely) rfl fun w₁ hK=>?_;rw[qh];simp only[qe];refine⟨Dw.none _,?_⟩);(refine qstp (fun _=>hK.rely) rfl fun w₁ hK=>?_;rw[qo];simp only[qe];refine⟨Dw.none _,?_⟩);(refine qstp (fun _=>hK.rely) rfl fun w₁ hK=>?_;rw[ql];simp only[qe,zSt,zLc,zLn,qi,qk,qn,qg];refine⟨Dw.none _,?_⟩);refine qC (fun w₁ h₁=>⟨_,zn7 rfl rfl (by decide) (fun w=>by simp[go_sem,execOp,rcase,qD,zc5]) (fun w=>by simp[go_sem,execOp,qD]) (by simp only[zc5,doG,zfH,zef,doC,cOps,cL,cR,Try.f75,qm])⟩)
noncomputable def zdd:Code:=(Try.f16.body).getD .skip
noncomputable def closeOps2:Array Oper:=cOps (cL (cR (cR zdd)))
noncomputable def zgY:Code:=cR (cR (cR zdd))
noncomputable def zhk:Code:=cR (cR (cR (cR zdd)))
def zhS:Code->Code|.cond _ x _=>x|c=>c
noncomputable def zdH:Array Oper:=cOps (cL (zhS zhk))
noncomputable def zhA:Code:=cR (zhS zhk)
structure KCl (OB:Nat->Prop) (w0:World) (tb dn:Nat) (w:World):Prop where
  own:∀b,OB b->w.heap[b]?=w0.heap[b]?
  hO:OB tb
  done:w0.cell? ⟨tb,2,none⟩=some (.chan (some dn))
  busy:w0.cell? ⟨tb,4,none⟩=some (.bool true)
theorem KCl.rely{w:World}(K:KCl OB w0 tb dn w)(h:Rl OB WB 0 w w1):KCl OB w0 tb dn w1 :=
  ⟨fun b hb=>(h.2 rfl b hb).trans (K.own b hb),K.hO,K.done,K.busy⟩
theorem KCl.done'{w:World}(K:KCl OB w0 tb dn w):w.cell? ⟨tb,2,none⟩=some (.chan (some dn)):=(za5 w0 w _ (K.own tb K.hO)).trans K.done
theorem KCl.busy'{w:World}(K:KCl OB w0 tb dn w):w.cell? ⟨tb,4,none⟩=some (.bool true):=(za5 w0 w _ (K.own tb K.hO)).trans K.busy
abbrev zpC(tb qt:Nat)(z2 z3 z4 z5 z6 z7 z8 z9 z10 z11 z12 z13 z14 z15:Value):Array Value:=#[pt tb,undef,z2,z3,z4,z5,z6,z7,z8,z9,z10,z11,z12,z13,z14,z15,pt tb,pt tb,pt tb 6,.chan (some qt),undef,undef,undef,undef,undef,undef,undef,undef,undef,undef,undef,undef]
abbrev zsJ(tb qt dn:Nat)(z2 z3 z4 z5 z6 z7 z8 z9 z10 z11 z12 z13 z14 z15:Value):Array Value:=#[pt tb,undef,z2,z3,z4,z5,z6,z7,z8,z9,z10,z11,z12,z13,z14,z15,pt tb,pt tb,pt tb 6,.chan (some qt),pt tb,pt tb,pt tb 4,.bool true,pt tb,pt tb,pt tb 2,.chan (some dn),undef,undef,undef,undef]
noncomputable def zlf (tb qt dn:Nat) (z2 z3 z4 z5 z6 z7 z8 z9 z10 z11 z12 z13 z14 z15:Value) (cs:List Frame):Goroutine:=G ((base 16).at ⟨zsJ tb qt dn z2 z3 z4 z5 z6 z7 z8 z9 z10 z11 z12 z13 z14 z15,[]⟩ [.inRegion zdH [4],.code zhA]) cs
noncomputable def zjZ (tb qt dn:Nat) (z2 z3 z4 z5 z6 z7 z8 z9 z10 z11 z12 z13 z14 z15:Value) (cs:List Frame):Seat:={ cases:=#[rcase dn .nilIface],shape:=.recv false,home:=fun g=>g=zlf tb qt dn z2 z3 z4 z5 z6 z7 z8 z9 z10 z11 z12 z13 z14 z15 cs }
theorem znD{w:World}{z2 z3 z4 z5 z6 z7 z8 z9 z10 z11 z12 z13 z14 z15:Value}(hK:KCl OB w0 tb dn w)(htB:tb<B)(cs:List Frame):
    qv Try.prog true (Rl OB WB 0) (Dw OB WB B 0) (fun g w=>(∃gq,AtS Try.prog (zjZ tb qt dn z2 z3 z4 z5 z6 z7 z8 z9 z10 z11 z12 z13 z14 z15 cs) g gq)/\KCl OB w0 tb dn w) 40 (G ((base 16).at ⟨zpC tb qt z2 z3 z4 z5 z6 z7 z8 z9 z10 z11 z12 z13 z14 z15,[]⟩ [.inRegion closeOps2 [],.code zgY]) cs) w:=by
  simp only[closeOps2,zgY,zdd,cOps,cL,cR,Try.f16,qm];(refine qstp (fun _=>hK.rely) rfl fun w₁ hK=>?_;rw[qh];simp only[qe];refine⟨Dw.none _,?_⟩);(refine qstp (fun _=>hK.rely) rfl fun w₁ hK=>?_;rw[qo];simp only[qe];refine⟨Dw.none _,?_⟩);(refine qstp (fun _=>hK.rely) rfl fun w₁ hK=>?_;rw[ql];simp only[qe,zSt,zLc,zLn,qi,qk,qn,qg];refine⟨Dw.none _,?_⟩);(refine qstp (fun _=>hK.rely) rfl fun w₁ hK=>?_;refine qc rfl rfl (by decide) (fun K hK'=>?_);go_simp;refine hK' _ _ ⟨Dw.quiet (fun e he=>(by have hm:=qd he;simp[go_sem,qa,qb]at hm)),?_⟩;clear hK' K)
  (refine qstp (fun _=>hK.rely) rfl fun w₁ hK=>?_;refine qc rfl rfl (by decide) (fun K hK'=>?_);go_simp;refine hK' _ _ ⟨Dw.quiet (fun e he=>(by have hm:=qd he;simp[go_sem,qa,qb]at hm)),?_⟩;clear hK' K);(refine qstp (fun _=>hK.rely) rfl fun w₁ hK=>?_;refine qc rfl rfl (by decide) (fun K hK'=>?_);go_simp;refine hK' _ _ ⟨Dw.quiet (fun e he=>(by have hm:=qd he;simp[go_sem,qa,qb]at hm)),?_⟩;clear hK' K);(refine qstp (fun _=>hK.rely) rfl fun w₁ hK=>?_;have hF:=hK.busy';refine qc rfl rfl (by decide) (fun K hK'=>?_);go_simp;refine hK' _ _ ⟨Dw.quiet (fun e he=>(by have hm:=qd he;simp[go_sem,hF]at hm;subst hm;exact zg6 rfl hK.hO htB)),?_⟩;clear hK' K hF);(refine qstp (fun _=>hK.rely) rfl fun w₁ hK=>?_;rw[qh];simp only[qe];refine⟨Dw.none _,?_⟩);(refine qstp (fun _=>hK.rely) rfl fun w₁ hK=>?_;rw[stepG_cond (t:=true) rfl];simp only[qe,if_true,if_false,qL,↓reduceIte];refine⟨Dw.none _,?_⟩);(refine qstp (fun _=>hK.rely) rfl fun w₁ hK=>?_;rw[qo];simp only[qe];refine⟨Dw.none _,?_⟩);(refine qstp (fun _=>hK.rely) rfl fun w₁ hK=>?_;rw[ql];simp only[qe,zSt,zLc,zLn,qi,qk,qn,qg];refine⟨Dw.none _,?_⟩);(refine qstp (fun _=>hK.rely) rfl fun w₁ hK=>?_;refine qc rfl rfl (by decide) (fun K hK'=>?_);go_simp;refine hK' _ _ ⟨Dw.quiet (fun e he=>(by have hm:=qd he;simp[go_sem,qa,qb]at hm)),?_⟩;clear hK' K);(refine qstp (fun _=>hK.rely) rfl fun w₁ hK=>?_;refine qc rfl rfl (by decide) (fun K hK'=>?_);go_simp;refine hK' _ _ ⟨Dw.quiet (fun e he=>(by have hm:=qd he;simp[go_sem,qa,qb]at hm)),?_⟩;clear hK' K);(refine qstp (fun _=>hK.rely) rfl fun w₁ hK=>?_;refine qc rfl rfl (by decide) (fun K hK'=>?_);go_simp;refine hK' _ _ ⟨Dw.quiet (fun e he=>(by have hm:=qd he;simp[go_sem,qa,qb]at hm)),?_⟩;clear hK' K);(refine qstp (fun _=>hK.rely) rfl fun w₁ hK=>?_;have hF:=hK.done';refine qc rfl rfl (by decide) (fun K hK'=>?_);go_simp;refine hK' _ _ ⟨Dw.quiet (fun e he=>(by have hm:=qd he;simp[go_sem,hF]at hm;subst hm;exact zg6 rfl hK.hO htB)),?_⟩;clear hK' K hF);refine qC (fun w₁ h₁=>⟨⟨_,zn7 rfl rfl (by decide) (fun w=>by simp[go_sem,execOp,rcase,qD,zjZ]) (fun w=>by simp[go_sem,execOp,qD]) (by simp only[zjZ,zlf,zdH,zhA,zhk,zhS,zdd,cOps,cL,cR,Try.f16,qm])⟩,hK.rely h₁⟩)
end
end Go.Proofs.Ytpkkfkebnhgaiaa
namespace Go.Proofs.Ytpkkfkebnhgaiaa
open Go Go.RowKit
def chV(c:Nat):Value:=.chan (some c)
def ptrO(F:Emb):Option Nat->Value
  | none=>.pointer none
  | some k=>.pointer (some ⟨F.blk (VB+k),0,none⟩)
def zaT(F:Emb)(self:Int)(quit:Nat)(closed busy:Bool)(cur:Option (Nat×Nat×Nat))(pend:Option Nat):Array Value :=
  #[.int .i64 self,ptrO F (cur.map (·.1)),.chan (cur.map (·.2.2)),ptrO F pend,.bool busy,.bool closed,chV quit]
def zdB(self:Int)(steps:Nat)(told:Value)(ask grant quit:Nat):Array Value:=#[.int .i64 self,.int .i64 (wr steps),told,chV ask,chV grant,chV quit]
def zgp(c:Nat)(n:Int)(A B:UInt64):Array Value:=#[.int .u8 (c:Int),.int .i64 n,.int .u64 (A.toNat:Int),.int .u64 (B.toNat:Int)]
structure MemP (n:Nat) where
  pre:Array Value
  post:Array Value
  wpre:Array Value
  wpost:Array Value
  wcap:Nat
  bpre:Array Value
  bpost:Array Value
  bcap:Nat
  hn:pre.size=n
structure MemO (w:World) (m bw bb:Nat) {n:Nat} (X:MemP n) (ws:List UInt64) (bs:List UInt8):Prop where
  hm:w.heap[m]?=some (.cells (X.pre++#[.slice (some ⟨bw,X.wpre.size,none⟩) ws.length X.wcap,.slice (some ⟨bb,X.bpre.size,none⟩) bs.length X.bcap]++X.post) 81 (0,0))
  hw:w.heap[bw]?=some (.cells (X.wpre++zlq ws++X.wpost) 34 (0,0))
  hb:w.heap[bb]?=some (.cells (X.bpre++zlJ bs++X.bpost) 5 (0,0))
  wl:ws.length<=2097152
  bl:bs.length<=1048576
structure DirP (n:Nat) where
  pre:Array Value
  post:Array Value
  vpre:Array Value
  vpost:Array Value
  hn:pre.size=n
structure DirO (w:World) (D:zjw) (mb mo:Nat) (me:Int) {n:Nat} (Y:DirP n) (steps:Nat):Prop where
  hd:w.heap[D.d]?=some (.cells (Y.pre++#[.pointer (some ⟨D.v,Y.vpre.size,none⟩),.int .i64 me]++Y.post) 74 (0,0))
  hv:w.heap[D.v]?=some (.cells (Y.vpre++#[.pointer (some ⟨mb,mo,none⟩),.int .i64 (steps:Int)]++Y.vpost) 72 (0,0))
def rowB:Ob->Bool
  | .mem _ _|.port _ _ _=>false
  | _=>true
def zax(mn:Bool)(F:Emb)(k:Nat):Ob->List Nat
  | .mem _ _=>[F.blk (VB+k),aux (F.slack (VB+k)) 1,aux (F.slack (VB+k)) 2]
  | .port _ _ _=>[F.blk (VB+k),aux (F.slack (VB+k)) 1]
  | .thr _ _ _ _ _ _=>if mn then [F.blk (VB+k)] else []
  | .wp _ _ _ _ _=>[F.blk (VB+k)]
  | .acc _ _ _ _=>[F.blk (VB+k)]
  | .box _=>[F.blk (VB+k)]
def obAt(mn:Bool)(OB WB:Nat->Prop)(F:Emb)(S:St)(w:World)(k:Nat):Ob->Prop
  | .mem ws bs=>∃X:MemP (F.base (VB+k)),MemO w (F.blk (VB+k)) (aux (F.slack (VB+k)) 1) (aux (F.slack (VB+k)) 2) X ws bs
  | .port m me steps=>(∃Y:DirP (F.base (VB+k)),DirO w ⟨F.blk (VB+k),aux (F.slack (VB+k)) 1⟩ (F.blk (VB+m)) (F.base (VB+m)) me Y steps)/\∃ws bs,S[m]?=some (Ob.mem ws bs)
  | .thr self quit closed busy cur pend=>mn=true->(OB (F.blk (VB+k))/\(∀c,cur=some c->c.1<S.length)/\(∀p,pend=some p->p<S.length)/\w.heap[F.blk (VB+k)]?=some (.cells (zaT F self quit closed busy cur pend) 53 (0,0)))
  | .wp self steps ask grant quit=>WB (F.blk (VB+k))/\∃(told:Option Addr) (fr:Nat×Nat),w.heap[F.blk (VB+k)]?=some (.cells (zdB self steps (.pointer told) ask grant quit) 58 fr)
  | .acc c n A B=>w.heap[F.blk (VB+k)]?=some (.cells (zgp c n A B) 64 (0,0))
  | .box c=>w.heap[F.blk (VB+k)]?=some (.cells #[chV c] 82 (0,0))
structure Rep (mn:Bool) (OB WB:Nat->Prop) (F:Emb) (S:St) (w:World):Prop where
  base:∀k ob,S[k]?=some ob->rowB ob=true->F.base (VB+k)=0
  at':∀k ob,S[k]?=some ob->obAt mn OB WB F S w k ob
  apart:∀k k' ob ob',k≠k'->S[k]?=some ob->S[k']?=some ob'->∀b∈zax mn F k ob,b ∉ zax mn F k' ob'
  waits:∀k ob,S[k]?=some ob->∀b∈zax mn F k ob,WB b->∃a s x y z,ob=Ob.wp a s x y z
  wlow:∀b,WB b->b<w.heap.size
def fpS(mn:Bool)(F:Emb)(S:St)(b:Nat):Prop:=∃k ob,S[k]?=some ob/\b∈zax mn F k ob
variable {n c k d nx m:Nat}
section
variable {mn:Bool}{OB WB:Nat->Prop}{F F':Emb}{S S':St}{w w':World}{k:Nat}{ob:Ob}
theorem zfF(h:obAt mn OB WB F S w k ob):∀b∈zax mn F k ob,∃c el fr,w.heap[b]?=some (.cells c el fr):=by
  intro b hb;cases ob with
  | mem ws bs =>
    obtain⟨X,h⟩:=h;simp only[zax,zMc,zNm,or_false]at hb;rcases hb with rfl|rfl|rfl
    . exact⟨_,_,_,h.hm⟩
    . exact⟨_,_,_,h.hw⟩
    . exact⟨_,_,_,h.hb⟩
  | port m me steps =>
    obtain⟨⟨td,h⟩,_⟩:=h;simp only[zax,zMc,zNm,or_false]at hb;rcases hb with rfl|rfl
    . exact⟨_,_,_,h.hd⟩
    . exact⟨_,_,_,h.hv⟩
  | thr =>
    cases mn with
    | false=>simp[zax]at hb
    | true =>
      simp only[zax,if_true,zMc,zNm,or_false]at hb;subst hb;exact⟨_,_,_,(h rfl).2.2.2⟩
  | wp =>
    simp only[zax,zMc,zNm,or_false]at hb;subst hb;obtain⟨_,told,fr,h⟩:=h;exact⟨_,_,_,h⟩
  | acc =>
    simp only[zax,zMc,zNm,or_false]at hb;subst hb;exact⟨_,_,_,h⟩
  | box =>
    simp only[zax,zMc,zNm,or_false]at hb;subst hb;exact⟨_,_,_,h⟩
theorem zo3(h:obAt mn OB WB F S w k ob)(hw:∀b∈zax mn F k ob,WB b->∃a s x y z,ob=Ob.wp a s x y z)(hk:∀b∈zax mn F k ob,∃c el fr fr',w.heap[b]?=some (.cells c el fr)/\w'.heap[b]?=some (.cells c el fr')/\(WB b\/fr'=fr)):obAt mn OB WB F S w' k ob:=by
  have key:(∀a s x y z,ob≠Ob.wp a s x y z)->∀b∈zax mn F k ob,w'.heap[b]?=w.heap[b]?:=fun hn b hb=>by
    obtain⟨c,el,fr,fr',h1,h2,h3⟩:=hk b hb;rcases h3 with h3|rfl
    . obtain⟨a,s,x,y,z,rfl⟩:=hw b hb h3;exact absurd rfl (hn a s x y z)
    . rw[h1,h2]
  cases ob with
  | mem ws bs =>
    have key:=key (fun _ _ _ _ _ h=>by cases h)
    obtain⟨X,h⟩:=h;exact⟨X,⟨(key _ (by simp[zax])).trans h.hm,(key _ (by simp[zax])).trans h.hw,(key _ (by simp[zax])).trans h.hb,h.wl,h.bl⟩⟩
  | port m me steps =>
    have key:=key (fun _ _ _ _ _ h=>by cases h)
    obtain⟨⟨td,h⟩,h2⟩:=h;exact⟨⟨td,(key _ (by simp[zax])).trans h.hd,(key _ (by simp[zax])).trans h.hv⟩,h2⟩
  | thr =>
    have key:=key (fun _ _ _ _ _ h=>by cases h)
    intro hm;obtain⟨h1,h2,h3,h4⟩:=h hm;exact⟨h1,h2,h3,(key _ (by simp[zax,hm])).trans h4⟩
  | wp self steps ask grant quit =>
    obtain⟨h1,told,fr,h2⟩:=h;obtain⟨c,el,fr0,fr',h3,h4,_⟩:=hk (F.blk (VB+k)) (by simp[zax])
    rw[h2]at h3;cases h3;exact⟨h1,told,fr',h4⟩
  | acc =>
    have key:=key (fun _ _ _ _ _ h=>by cases h)
    exact(key _ (by simp[zax])).trans h
  | box =>
    have key:=key (fun _ _ _ _ _ h=>by cases h)
    exact(key _ (by simp[zax])).trans h
theorem zdL(h:obAt mn OB WB F S w k ob)(hk:∀b∈zax mn F k ob,w'.heap[b]?=w.heap[b]?):obAt mn OB WB F S w' k ob:=by
  cases ob with
  | mem ws bs =>
    obtain⟨X,h⟩:=h;exact⟨X,⟨(hk _ (by simp[zax])).trans h.hm,(hk _ (by simp[zax])).trans h.hw,(hk _ (by simp[zax])).trans h.hb,h.wl,h.bl⟩⟩
  | port m me steps =>
    obtain⟨⟨td,h⟩,h2⟩:=h;exact⟨⟨td,(hk _ (by simp[zax])).trans h.hd,(hk _ (by simp[zax])).trans h.hv⟩,h2⟩
  | thr =>
    intro hm;obtain⟨h1,h2,h3,h4⟩:=h hm;exact⟨h1,h2,h3,(hk _ (by simp[zax,hm])).trans h4⟩
  | wp self steps ask grant quit =>
    obtain⟨h1,told,fr,h2⟩:=h;exact⟨h1,told,fr,(hk _ (by simp[zax])).trans h2⟩
  | acc=>exact(hk _ (by simp[zax])).trans h
  | box=>exact(hk _ (by simp[zax])).trans h
theorem Same.hnd(hs:Same (fun n=>VB<=n/\n<VB+S.length) F F')(hk:k<S.length):F.blk (VB+k)=F'.blk (VB+k)/\F.base (VB+k)=F'.base (VB+k)/\F.slack (VB+k)=F'.slack (VB+k) :=
  hs (VB+k) ⟨by omega,by omega⟩
theorem zaG(hk:S[k]?=some ob):k<S.length:=(List.getElem?_eq_some_iff.1 hk).1
theorem zdD(hs:Same (fun n=>VB<=n/\n<VB+S.length) F F')(hk:k<S.length):zax mn F' k ob=zax mn F k ob:=by
  obtain⟨h1,h2,h3⟩:=hs.hnd hk;cases ob<;>simp[zax,h1,h3]
theorem zjS(hs:Same (fun n=>VB<=n/\n<VB+S.length) F F'){o:Option Nat}(h:∀p,o=some p->p<S.length):ptrO F' o=ptrO F o:=by
  cases o with
  | none=>rfl
  | some p=>simp only[ptrO];rw[(hs.hnd (h p rfl)).1]
theorem zgQ(hs:Same (fun n=>VB<=n/\n<VB+S.length) F F'){self:Int}{quit:Nat}{closed busy:Bool}{cur:Option (Nat×Nat×Nat)}{pend:Option Nat}(h1:∀c,cur=some c->c.1<S.length)(h2:∀p,pend=some p->p<S.length):
    zaT F' self quit closed busy cur pend=zaT F self quit closed busy cur pend:=by
  unfold zaT;rw[zjS hs h2,zjS hs (o:=cur.map (·.1)) (fun p hp=>by
    obtain⟨c,hc,rfl⟩:=qu.1 hp;exact h1 c hc)]
theorem zn3(hs:Same (fun n=>VB<=n/\n<VB+S.length) F F')(hk:k<S.length)(h:obAt mn OB WB F S w k ob):obAt mn OB WB F' S w k ob:=by
  obtain⟨h1,h2,h3⟩:=hs.hnd hk;cases ob with
  | mem ws bs=>unfold obAt at h ⊢;rw[<-h1,<-h2,<-h3];exact h
  | port m me steps =>
    obtain⟨hd,ws,bs,hm⟩:=h;obtain⟨k1,k2,_⟩:=hs.hnd (zaG hm);show(∃Y:DirP (F'.base (VB+k)),DirO w ⟨F'.blk (VB+k),aux (F'.slack (VB+k)) 1⟩ (F'.blk (VB+m)) (F'.base (VB+m)) me Y steps)/\_;rw[<-h1,<-h2,<-h3,<-k1,<-k2];exact⟨hd,ws,bs,hm⟩
  | thr self quit closed busy cur pend =>
    intro hm;obtain⟨a1,a2,a3,a4⟩:=h hm;refine⟨h1▸a1,a2,a3,?_⟩;rw[<-h1,zgQ hs a2 a3];exact a4
  | wp=>unfold obAt at h ⊢;rw[<-h1];exact h
  | acc=>unfold obAt at h ⊢;rw[<-h1];exact h
  | box=>unfold obAt at h ⊢;rw[<-h1];exact h
theorem Rep.same(hs:Same (fun n=>VB<=n/\n<VB+S.length) F F')(h:Rep mn OB WB F S w):Rep mn OB WB F' S w/\∀b,fpS mn F' S b->fpS mn F S b :=
  ⟨⟨fun k ob hk hr=>by rw[<-(hs.hnd (zaG hk)).2.1];exact h.base k ob hk hr,fun k ob hk=>zn3 hs (zaG hk) (h.at' k ob hk),fun k k' ob ob' hne hk hk' b hb=>by
    rw[zdD hs (zaG hk)]at hb;rw[zdD hs (zaG hk')];exact h.apart k k' ob ob' hne hk hk' b hb,fun k ob hk b hb=>by
    rw[zdD hs (zaG hk)]at hb;exact h.waits k ob hk b hb,h.wlow⟩,fun b ⟨k,ob,hk,hb⟩=>⟨k,ob,hk,by rw[zdD hs (zaG hk)]at hb;exact hb⟩⟩
theorem Rep.kept(h:Rep mn OB WB F S w)(hsz:w.heap.size<=w'.heap.size)(hk:∀b,fpS mn F S b->w'.heap[b]?=w.heap[b]?):Rep mn OB WB F S w' :=
  ⟨h.base,fun k ob hob=>zdL (h.at' k ob hob) (fun b hb=>hk b ⟨k,ob,hob,hb⟩),h.apart,h.waits,fun b hb=>qy (h.wlow b hb) hsz⟩
end
inductive PrimM:FuncId->Array Value->St->Value->St->Prop
  | com {f args S v S'} (h:Prim f args S v S'):PrimM f args S v S'
  | idle {k:Nat} {self:Int} {quit:Nat} {closed b:Bool} {cur:Option (Nat×Nat×Nat)} {S:St} (h:S[k]?=some (Ob.thr self quit closed b cur none)):PrimM 26 #[hndV k] S (.tuple #[accZ,.bool false]) S
  | pend {k p:Nat} {self:Int} {quit:Nat} {closed b:Bool} {cur:Option (Nat×Nat×Nat)} {S:St} {c:Nat} {n:Int} {A B:UInt64} (h:S[k]?=some (Ob.thr self quit closed b cur (some p))) (hp:S[p]?=some (Ob.acc c n A B)):PrimM 26 #[hndV k] S (.tuple #[accV c n A B,.bool true]) S
theorem PrimM.len{f:FuncId}{args:Array Value}{S S':St}{v:Value}(h:PrimM f args S v S'):S.length<=S'.length:=by
  cases h with
  | com h=>exact h.len
  | _=>exact qs _
theorem PrimM.hand{f:FuncId}{args:Array Value}{S S':St}{v:Value}(h:PrimM f args S v S'):Hand S'.length v:=by
  cases h with
  | com h=>exact h.hand
  | _=>exact Hand.plain (by first|rfl|simp[zac,accV])
def PrimV:Bool->FuncId->Array Value->St->Value->St->Prop
  | true=>PrimM
  | false=>Prim
theorem PrimV.len{mn:Bool}{f:FuncId}{args:Array Value}{S S':St}{v:Value}(h:PrimV mn f args S v S'):S.length<=S'.length:=by
  cases mn with
  | true=>exact PrimM.len h
  | false=>exact Prim.len h
theorem PrimV.hand{mn:Bool}{f:FuncId}{args:Array Value}{S S':St}{v:Value}(h:PrimV mn f args S v S'):Hand S'.length v:=by
  cases mn with
  | true=>exact PrimM.hand h
  | false=>exact Prim.hand h
def zat(mn:Bool)(OB WB:Nat->Prop):Prop:=∀f args S v S' F w,PrimV mn f args S v S'->Rep mn OB WB F S w->TCalls Try.prog f (args.map (ren F)) w fun e w'=>∃F',Same (fun n=>n<VB+S.length) F F'/\e=.returned (ren F' v)/\Rep mn OB WB F' S' w'/\Kept w (fpS mn F S) w'/\∀b,fpS mn F' S' b->fpS mn F S b\/w.heap.size<=b
def XF(mn:Bool)(OB WB:Nat->Prop)(hok:zat mn OB WB):Face Try.prog St where
  mix:=Try.mix
  cnt:=List.length
  rep:=Rep mn OB WB
  fp:=fpS mn
  prim:=PrimV mn
  rep_same:=fun _ _ _ _ hs h=>h.same hs
  rep_kept:=fun F S w w' R hsz hk=>R.kept hsz hk
  fp_low:=fun F S w b R ⟨k,ob,hk,hb⟩=>by
    obtain⟨c,el,fr,ho⟩:=zfF (R.at' k ob hk) b hb;exact zab ho
  prim_hand:=fun _ _ _ _ _ h=>⟨h.len,h.hand⟩
  prim_ok:=fun f args S v S' F w h R=>hok f args S v S' F w h R
theorem XF.soft{mn:Bool}{OB WB:Nat->Prop}(hok:zat mn OB WB):zqQ (XF mn OB WB hok) WB where
  cell:=fun F S w b R ⟨k,ob,hk,hb⟩=>zfF (R.at' k ob hk) b hb
  soft:=fun F S w w' R hsz hk=>⟨R.base,fun k ob hob=>zo3 (R.at' k ob hob) (R.waits k ob hob) (fun b hb=>hk b ⟨k,ob,hob,hb⟩),R.apart,R.waits,fun b hb=>qy (R.wlow b hb) hsz⟩
theorem zt3{a b:Int}(h:b<=a):decide (a<b)=false:=decide_eq_false (by omega)
theorem zuI{a b:Int}(h:a=b):(a==b)=true:=by rw[h];exact beq_self_eq_true _
theorem zuE{a b:Int}(h:a<b\/b<a):(a==b)=false:=by rw[beq_eq_false_iff_ne];omega
theorem zuS{a b:Int}(h:a<=b):(a<=b)=True:=eq_true h
theorem zuB{a b:Int}(h:a<b):(a<b)=True:=eq_true h
theorem zup{a b:Nat}(h:a<=b):(a<=b)=True:=eq_true h
theorem zuR{a b:Nat}(h:a<b):(a<b)=True:=eq_true h
theorem zuT(a n:Nat):(a:Int).tdiv (n:Int)=((a / n:Nat):Int):=by
  rw[Int.tdiv_eq_ediv_of_nonneg (by omega)];exact(Int.natCast_ediv a n).symm
theorem zq3(a n:Nat):(a:Int).tmod (n:Int)=((a % n:Nat):Int):=by
  rw[Int.tmod_eq_emod_of_nonneg (by omega)];exact(Int.natCast_emod a n).symm
attribute [go_sem] zt3 zuI zuE zuS zuB zup zuR
theorem bnn1:(!(false==false))=false/\(!(true==true))=false/\(!(true==false))=true/\(!(false==true))=true/\(true==true)=true/\(false==false)=true/\(true==false)=false/\(false==true)=false:=by decide
attribute [go_sem] bnn1
section
variable {P:Program}{σ:Type}{X:Face P σ}{fn:Func}{A:Conf σ->Prop}{ops:Array Oper}{k:List Item}{i:Nat}{tmps:List Value}{h:AHeap}{S:σ}{o:Oper}
end
def SlAt(q:Nat)(sl:Option Addr):Prop:=∀a,sl=some a->a.block=q
theorem SlAt.clo{q:Nat}{sl:Option Addr}(h:SlAt q sl)(hq:q<k):Clo (Kn k 0) (.slice sl n c):=by
  cases sl with
  | none=>exact qf rfl
  | some a =>
    intro F F' hs;have:=h a rfl;obtain⟨h1,h2,h3⟩:=hs q (.inl hq);simp[adr,this,h1,h2,h3]
section
open Go.ChangeShapes Go.WideShapes Go.Deep
variable {H:Type}{enc:TypeId × Value->H}{P:Program}{w:World}{base:Nat}{spare:Nat->Bool}{held:Bool}
end
def zsA(P:Program)(h:AHeap)(t:TypeId)(X Y:Value):Option (Value×AHeap):=match X,zby P t,Y with
  | .slice none 0 0,some el,.slice _ 0 _=>(match zai P el with|some _=>some (.slice none 0 0,h)|none=>none)
  | .slice (some a) sl sc,some el,.slice b n c=>(match zai P el with
    | some s=>if sl+n<=sc then(match n,zcQ h s (.slice b n c),h.get a.block with
        | 0,_,_=>some (.slice (some a) sl sc,h)
        | _,some news,some bk=>if bk.ro=false/\a.spot=none/\a.off+sl * s+news.length<=bk.cells.length/\news.length=n * s/\news.all zdu=true then
            some (.slice (some a) (sl+n) sc,h.put a.block { bk with cells:=zaP bk.cells (a.off+sl * s) news }) else none
        | _,_,_=>none)
      else(match zds P h t X Y with
        | some (cs,el,need,false)=>some (.slice (some ⟨h.next,0,none⟩) need need,(h.putO a.block none).addO (some ⟨cs,el,false,zai P el⟩))
        | _=>none)
    | none=>none)
  | _,_,_=>none
def AppTo(P:Program)(h:AHeap)(t:TypeId)(X Y:Value)(v:Value)(h':AHeap):Prop:=zsA P h t X Y=some (v,h')\/∃ob,appV P h h.next t X Y=some (v,ob)/\h'=h.addO ob
structure AppT (P:Program) (t el:TypeId) (s:Nat):Prop where
  sl:zby P t=some el
  sz:zai P el=some (s+1)
  bs:∃bs,zap P el=some bs/\bs<=1048576
  z:∃z,zaz P el=some z/\zac z=true/\z.cells.size=s+1
theorem AppT.of{P:Program}{t el:TypeId}{s bs:Nat}{z:Value}(h1:zby P t=some el)(h2:zai P el=some (s+1))(h3:zap P el=some bs)(h4:zaz P el=some z)(h5:(zac z && decide (z.cells.size=s+1) && decide (bs<=1048576))=true):AppT P t el s:=by
  rw[qN,qN,decide_eq_true_eq,decide_eq_true_eq]at h5;exact⟨h1,h2,⟨bs,h3,h5.2⟩,⟨z,h4,h5.1.1,h5.1.2⟩⟩
section
variable {P:Program}{h:AHeap}{t el:TypeId}{s:Nat}
attribute [go_sem] Int.toNat_zero Int.toNat_one Option.map_some Option.map_none
end
section
variable {P:Program}{σ:Type}{X:Face P σ}{fn:Func}{A:Conf σ->Prop}{ops:Array Oper}{k:List Item}{i:Nat}{tmps:List Value}{h h':AHeap}{S:σ}{o:Oper}{x y:Operand}{t:TypeId}{v:Value}
theorem zoc{e:Operand->Value}:wrA P e h (.call { callee:=.builtin .append,args:=#[x,y],argTypes:=#[t,t] })=zsA P h t (e x) (e y):=by
  unfold wrA zsA;simp only[if_true];rfl
theorem AppTo.op(e:AppTo P h t (evA tmps x) (evA tmps y) v h')(hop:o.op=.call { callee:=.builtin .append,args:=#[x,y],argTypes:=#[t,t] }):Op0 X o (evA tmps) h S v h' S:=by
  rcases e with e|⟨ob,e,rfl⟩
  . exact .inr (.inr (.inl ⟨by rw[hop,zoc];exact e,rfl⟩))
  . exact .inr (.inl ⟨ob,by rw[hop,zlM];exact e,rfl,rfl⟩)
variable {W:List Nat}{n0:Nat}{hf:AHeap}{Kf:List Value->AHeap->σ->Prop}{born:List (Nat × Nat)}
end
section
variable {P:Program}{σ:Type}{X:Face P σ}{fn:Func}{A:Conf σ->Prop}{ops:Array Oper}{k:List Item}{i:Nat}{tmps:List Value}{S:σ}{o:Oper}{l ys:List (Option Blk)}{q:Nat}
variable {W:List Nat}{n0:Nat}{Kf:List Value->AHeap->σ->Prop}{born:List (Nat × Nat)}{hf:AHeap}
end
abbrev wL(ws:List UInt64):List Value:=zdJ .u64 (ws.map fun x=>(x.toNat:Int))
abbrev bL(bs:List UInt8):List Value:=zdJ .u8 (bs.map fun x=>(x.toNat:Int))
theorem zly(ws:List UInt64):(wL ws).length=ws.length:=by simp[zdJ]
theorem zre(bs:List UInt8):(bL bs).length=bs.length:=by simp[zdJ]
abbrev mB(wn wc bn bc:Nat):Blk:=⟨[.slice (some ⟨1,0,none⟩) wn wc,.slice (some ⟨2,0,none⟩) bn bc],81,true,none⟩
abbrev wB(ws:List UInt64):Blk:=⟨wL ws,34,false,none⟩
abbrev bB(bs:List UInt8):Blk:=⟨bL bs,5,false,none⟩
abbrev zaI(ws:List UInt64)(bs:List UInt8)(wc bc:Nat):List Blk:=[mB ws.length wc bs.length bc,wB ws,bB bs]
theorem zfg{q o:Nat}(h:q<n):Clo (Kn n c) (.pointer (some ⟨q,o,none⟩)):=fun F F' hs=>by
  obtain⟨h1,h2,h3⟩:=hs q (.inl h);simp[adr,h1,h2,h3]
theorem zka{q a b:Nat}(h:q<n):Clo (Kn n c) (.slice (some ⟨q,0,none⟩) a b):=fun F F' hs=>by
  obtain⟨h1,h2,h3⟩:=hs q (.inl h);simp[adr,h1,h2,h3]
theorem zaV(ws:List UInt64)(bs:List UInt8)(wc bc:Nat):∀b∈zaI ws bs wc bc,∀u∈b.cells,Clo (Kn (zaI ws bs wc bc).length 0) u:=by
  intro b hb u hu;simp only[zMc,zNm,or_false]at hb;rcases hb with rfl|rfl|rfl
  . simp only[zMc,zNm,or_false]at hu;rcases hu with rfl|rfl
    . exact zka (by simp)
    . exact zka (by simp)
  . exact qf (zaj u hu)
  . exact qf (zaj u hu)
variable {ns:List Nat}
theorem up_3{a b:Nat}:(upE (a::b::c::d::ns) nx).blk 3=d:=by simp[upE,zdi,upN]
theorem up_4{a b e:Nat}:(upE (a::b::c::d::e::ns) nx).blk 4=e:=by simp[upE,zdi,upN]
variable {l l':List Blk}
theorem Gives.turn{cnt:Nat}{h1:AHeap}{v:Value}(hlen:l'.length=l.length)(hv:Clo (Kn l.length cnt) v)(hr:∀(i:Nat) b,l[i]?=some b->b.ro=false->∃b1,h1.get i=some b1/\l'[i]?=some b1/\b1.ro=false/\∀u∈b1.cells,Clo (Kn l.length cnt) u):Gives cnt l l' [] [] id h1 v v where
  low:=fun _ _=>rfl
  hand:=fun _ _=>rfl
  more:=fun j n hj=>by simp at hj
  nodup:=List.nodup_nil
  len:=rfl
  len':=hlen
  told:=(zd8 v).symm
  clo:=fun F F' hs=>hv F F' fun n hn=>hs n (by rcases hn with hn|hn;exact .inl hn;exact .inr (.inr hn))
  rows:=fun i b hb hro=>by
    obtain⟨b1,h1,h2,h3,h4⟩:=hr i b hb hro;refine⟨b1,h1,?_,h3,fun u hu F F' hs=>h4 u hu F F' fun n hn=>hs n (by rcases hn with hn|hn;exact .inl hn;exact .inr (.inr hn))⟩
    rw[h2];congr 1;obtain⟨cs,el,ro,gr⟩:=b1;simp only[renB,Blk.mk.injEq,and_true];have h5:cs.map (ren (zdi id))=cs.map id:=List.map_congr_left fun u hu=>zd8 u;rw[h5,List.map_id]
  news:=fun j n hj=>by simp at hj
def zm4(m:Nat)(l l':List Blk)(h1:AHeap):Prop:=∀(i:Nat) b,l[i]?=some b->b.ro=false->∃b1,h1.get i=some b1/\l'[i]?=some b1/\b1.ro=false/\∀u∈b1.cells,Clo (Kn m 0) u
def DoesI(f:FuncId)(args:Array Value)(l:List Blk)(v:Value)(l':List Blk):Prop :=
  ∃g c h1,Try.prog.funcs[f]?=some g/\goB g=true/\g.body=some c/\(∀u∈args.toList,Clo (Kn l.length 0) u)/\(∀b∈l,∀u∈b.cells,Clo (Kn l.length 0) u)/\l'.length=l.length/\Clo (Kn l.length 0) v/\zm4 l.length l l' h1 /\
    Goes BT g (fun x=>x=.done v h1 ()) (.run (zag g c args).1 (zag g c args).2 (zaq (l.map some)) ())
theorem DoesI.x{f:FuncId}{args:Array Value}{v:Value}(h:DoesI f args l v l'):DoesX BT f args l () v l' [] ():=by
  obtain⟨g,c,h1,a1,a2,a3,a4,a5,a6,a7,a8,G⟩:=h;exact⟨g,c,h1,v,[],id,a1,a2,a3,a4,a5,Gives.turn a6 a7 a8,G⟩
def EndI(l l':List Blk)(v:Value)(x:Conf Unit):Prop:=∃h1,x=.done v h1 ()/\l'.length=l.length/\Clo (Kn l.length 0) v/\zm4 l.length l l' h1
theorem DoesI.mk{f:FuncId}{g:Func}{c:Code}{args:Array Value}{v:Value}(hf:Try.prog.funcs[f]?=some g)(hg:goB g=true)(hb:g.body=some c)(hclo:∀u∈args.toList,Clo (Kn l.length 0) u)(hcl:∀b∈l,∀u∈b.cells,Clo (Kn l.length 0) u)(hrun:Goes BT g (EndI l l' v) (.run [.code c] (args.toList++qj (g.ntmps - args.size) undef) (zaq (l.map some)) ())):DoesI f args l v l':=by
  obtain⟨c',⟨h1,rfl,b1,b2,b3⟩,G⟩:=hrun.out;exact⟨g,c,h1,hf,hg,hb,hclo,hcl,b1,b2,b3,G⟩
theorem Goes.finI{fn:Func}{todo:List Item}{tmps:List Value}{h:AHeap}{v:Value}(ht:retB todo=true)(hv:resA Try.prog fn tmps h=some v)(hS:(():Unit)=())(hlen:l'.length=l.length)(hc:Clo (Kn l.length 0) v)(hr:zm4 l.length l l' h):
    Goes BT fn (EndI l l' v) (.run todo tmps h ()):=.ret ht hv (.here ⟨h,rfl,hlen,hc,hr⟩)
theorem zoF{h1:AHeap}(h:l.all (·.ro)=true):zm4 m l l' h1:=fun i b hb hro=>by
  have:=List.all_eq_true.1 h b (List.mem_of_getElem? hb);rw[hro]at this;cases this
theorem ziH(ws:List UInt64):∀u∈wL ws,zac u=true:=zaj
theorem ziG(bs:List UInt8):∀u∈bL bs,zac u=true:=zaj
variable {ws:List UInt64}
theorem zcx{ws':List UInt64}{bs bs':List UInt8}{wn wc bn bc:Nat}{l:List (Option Blk)}:∀(i:Nat) b,[mB wn wc bn bc,wB ws,bB bs][i]?=some b->b.ro=false->∃b1,(zaq (some (mB wn wc bn bc)::some (wB ws')::some (bB bs')::l)).get i=some b1/\[mB wn wc bn bc,wB ws',bB bs'][i]?=some b1/\b1.ro=false/\∀u∈b1.cells,Clo (Kn m 0) u
  | 0,b,hb,hro=>by simp at hb;subst hb;cases hro
  | 1,b,_,_=>⟨wB ws',rfl,rfl,rfl,fun u hu=>qf (ziH ws' u hu)⟩
  | 2,b,_,_=>⟨bB bs',rfl,rfl,rfl,fun u hu=>qf (ziG bs' u hu)⟩
  | i+3,b,hb,_=>by simp at hb
abbrev wBr(ws:List UInt64):Blk:=⟨wL ws,34,true,none⟩
abbrev bBr(bs:List UInt8):Blk:=⟨bL bs,5,true,none⟩
abbrev mRo(ws:List UInt64)(bs:List UInt8)(wc bc:Nat):List Blk:=[mB ws.length wc bs.length bc,wBr ws,bBr bs]
theorem zoP(ws:List UInt64)(bs:List UInt8)(wc bc:Nat):∀b∈mRo ws bs wc bc,∀u∈b.cells,Clo (Kn (mRo ws bs wc bc).length 0) u:=by
  intro b hb u hu;simp only[zMc,zNm,or_false]at hb;rcases hb with rfl|rfl|rfl
  . simp only[zMc,zNm,or_false]at hu;rcases hu with rfl|rfl
    . exact zka (by simp)
    . exact zka (by simp)
  . exact qf (zaj u hu)
  . exact qf (zaj u hu)
theorem zeu(ws:List UInt64)(bs:List UInt8)(wc bc:Nat):DoesX BT 34 #[.pointer (some ⟨0,0,none⟩)] (mRo ws bs wc bc) () (.int .i64 (ws.length:Int)) (mRo ws bs wc bc) [] ():=by
  refine DoesX.mk Try.func34 rfl rfl ?clo ?rows ?_
  case clo=>exact fun u hu=>(by simp only[zMc,zNm,or_false]at hu;subst hu;exact zfg (by simp))
  case rows=>exact zoP ws bs wc bc
  rw[Try.ntmps34];simp only[zSt,zLc,zLn,qj,zCa,zNa];simp only[mRo,zMp,zMn];refine via ?_;refine Goes.finS rfl (by simp (disch:=(first|omega|(simp only[zaa,zLc,zLn,zSt,zaf]<;>omega)|fail)) only [go_sem,resA,zaK,Try.results34]<;>rfl) ?_ rfl ?_
  . rfl
  . exact qf rfl
theorem ziE(ws:List UInt64)(bs:List UInt8)(wc bc:Nat):DoesX BT 36 #[.pointer (some ⟨0,0,none⟩)] (mRo ws bs wc bc) () (.int .i64 (bs.length:Int)) (mRo ws bs wc bc) [] ():=by
  refine DoesX.mk Try.func36 rfl rfl ?clo ?rows ?_
  case clo=>exact fun u hu=>(by simp only[zMc,zNm,or_false]at hu;subst hu;exact zfg (by simp))
  case rows=>exact zoP ws bs wc bc
  rw[Try.ntmps36];simp only[zSt,zLc,zLn,qj,zCa,zNa];simp only[mRo,zMp,zMn];refine via ?_;refine Goes.finS rfl (by simp (disch:=(first|omega|(simp only[zaa,zLc,zLn,zSt,zaf]<;>omega)|fail)) only [go_sem,resA,zaK,Try.results36]<;>rfl) ?_ rfl ?_
  . rfl
  . exact qf rfl
abbrev zie:Value:=.agg #[.nilFunc,.func (.func 37) #[] #[],.func (.func 38) #[] #[],.func (.func 39) #[] #[],.func (.func 40) #[] #[]]
theorem zgG:zai Try.prog 88=some 1:=by kernel_rfl
theorem ziQ:zaU Try.prog 88=some false:=by kernel_rfl
theorem zem:Does BT 35 #[] [] () zie ():=by
  refine Does.mk Try.func35 rfl rfl ?clo ?hand ?_
  case clo=>exact fun u hu=>by simp at hu
  case hand=>exact fun F F' _=>(by simp[zie])
  rw[Try.ntmps35];simp only[zSt,zLc,zLn,qj,zCa,zNa];simp only[zMn];refine via ?_;refine Goes.fin rfl (by simp (disch:=(first|omega|(simp only[zaa,zLc,zLn,zSt,zaf]<;>omega)|fail)) only [go_sem,resA,zaK,Try.results35]<;>rfl) ?_
  rfl
theorem zlX(x:UInt64)(c:Nat)(n:Int)(A B:UInt64):Does BT 37 #[.int .u64 (x.toNat:Int),accV c n A B] [] () (.tuple #[.int .u64 (x.toNat:Int),.int .u64 (x.toNat:Int)]) ():=by
  refine Does.mk Try.func37 rfl rfl ?clo ?hand ?_
  case clo=>exact fun u hu=>(by simp only[zMc,zNm,or_false]at hu;rcases hu with rfl|rfl;exact qf rfl;exact qf (by simp[zac,accV]))
  case hand=>exact Hand.plain (by simp[zac])
  rw[Try.ntmps37];simp only[zSt,zLc,zLn,qj,zCa,zNa];simp only[zMn,accV];refine via ?_;refine Goes.fin rfl (by simp (disch:=(first|omega|(simp only[zaa,zLc,zLn,zSt,zaf]<;>omega)|fail)) only [go_sem,resA,zaK,Try.results37]<;>rfl) ?_
  rfl
theorem zlB(x:UInt64)(c:Nat)(n:Int)(A B:UInt64):Does BT 38 #[.int .u64 (x.toNat:Int),accV c n A B] [] () (.tuple #[.int .u64 (A.toNat:Int),.int .u64 0]) ():=by
  refine Does.mk Try.func38 rfl rfl ?clo ?hand ?_
  case clo=>exact fun u hu=>(by simp only[zMc,zNm,or_false]at hu;rcases hu with rfl|rfl;exact qf rfl;exact qf (by simp[zac,accV]))
  case hand=>exact Hand.plain (by simp[zac])
  rw[Try.ntmps38];simp only[zSt,zLc,zLn,qj,zCa,zNa];simp only[zMn,accV];refine via ?_;refine Goes.fin rfl (by simp (disch:=(first|omega|(simp only[zaa,zLc,zLn,zSt,zaf]<;>omega)|fail)) only [go_sem,resA,zaK,Try.results38]<;>rfl) ?_
  rfl
theorem zlQ(x:UInt64)(c:Nat)(n:Int)(A B:UInt64):Does BT 39 #[.int .u64 (x.toNat:Int),accV c n A B] [] () (.tuple #[.int .u64 ((kNow 3 x A B).toNat:Int),.int .u64 ((ziF 3 x A).toNat:Int)]) ():=by
  refine Does.mk Try.func39 rfl rfl ?clo ?hand ?_
  case clo=>exact fun u hu=>(by simp only[zMc,zNm,or_false]at hu;rcases hu with rfl|rfl;exact qf rfl;exact qf (by simp[zac,accV]))
  case hand=>exact Hand.plain (by simp[zac])
  rw[Try.ntmps39];simp only[zSt,zLc,zLn,qj,zCa,zNa];simp only[zMn,accV];by_cases h:x=A
  . have h2:((x.toNat:Int) != (A.toNat:Int))=false:=by simp[h]
    refine viaF h2 ?_;simp only[kNow,ziF,h,if_true];refine Goes.fin rfl (by simp (disch:=(first|omega|(simp only[zaa,zLc,zLn,zSt,zaf]<;>omega)|fail)) only [go_sem,resA,zaK,Try.results39]<;>rfl) ?_
    rfl
  . have h2:((x.toNat:Int) != (A.toNat:Int))=true:=by
      simp only[bne_iff_ne,ne_eq];intro z;exact h (UInt64.toNat_inj.1 (by omega))
    refine viaF h2 ?_;simp only[kNow,ziF,h,if_false];refine Goes.fin rfl (by simp (disch:=(first|omega|(simp only[zaa,zLc,zLn,zSt,zaf]<;>omega)|fail)) only [go_sem,resA,zaK,Try.results39]<;>rfl) ?_
    rfl
theorem zlW(x:UInt64)(c:Nat)(n:Int)(A B:UInt64):Does BT 40 #[.int .u64 (x.toNat:Int),accV c n A B] [] () (.tuple #[.int .u64 ((x+A).toNat:Int),.int .u64 (x.toNat:Int)]) ():=by
  refine Does.mk Try.func40 rfl rfl ?clo ?hand ?_
  case clo=>exact fun u hu=>(by simp only[zMc,zNm,or_false]at hu;rcases hu with rfl|rfl;exact qf rfl;exact qf (by simp[zac,accV]))
  case hand=>exact Hand.plain (by simp[zac])
  rw[Try.ntmps40];simp only[zSt,zLc,zLn,qj,zCa,zNa];simp only[zMn,accV];have h2:IntKind.u64.wrap ((x.toNat:Int)+(A.toNat:Int))=((x+A).toNat:Int):=zsy x A;refine viaF h2 ?_;refine Goes.fin rfl (by simp (disch:=(first|omega|(simp only[zaa,zLc,zLn,zSt,zaf]<;>omega)|fail)) only [go_sem,resA,zaK,Try.results40]<;>rfl) ?_
  rfl
theorem zpS(h:k<ws.length):(wL ws)[k]?=some (.int .u64 (ws[k].toNat:Int)):=by simp[zdJ,h]
theorem zlg{x:UInt64}:(wL ws).set k (.int .u64 (x.toNat:Int))=wL (ws.set k x):=by simp[zdJ,List.map_set]
theorem zru{k:Int}{A B:UInt64}:Clo (Kn n m) (accV c k A B):=qf (by simp[zac,accV])
theorem zbf{k:Int}{A B:UInt64}(h:0<n):∀u∈(#[.pointer (some ⟨0,0,none⟩),accV c k A B]:Array Value).toList,Clo (Kn n 0) u:=fun u hu=>by
  simp only[zMc,zNm,or_false]at hu;rcases hu with rfl|rfl
  . exact zfg h
  . exact zru
end Go.Proofs.Ytpkkfkebnhgaiaa
