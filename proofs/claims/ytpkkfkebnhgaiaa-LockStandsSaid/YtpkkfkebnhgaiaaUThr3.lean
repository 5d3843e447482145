/-
  The company, as it stands while one goroutine goes on: what is said of it; a piece, a call, a return keep it.
  Condition: each call that is known does what is said of it (zat).
-/
import Derived.Test.YtpkkfkebnhgaiaaUPm2
set_option maxHeartbeats 40000000
set_option linter.unusedVariables false
set_option linter.unusedSimpArgs false
set_option maxRecDepth 100000
open Go.Conc renaming G->qa,heap_setChan_ne->qq,Goes->qv
open Option renaming getD_some->qb
open Nat renaming le_refl->qc,lt_of_lt_of_le->qd,le_trans->qe,le_of_eq->qf
open Go.Frame renaming finish_at->qg,enter->qs
open Go.IntKind renaming wrap_i64->qi
open Go.World renaming cell?->qk,setCell->qo
namespace Go.Proofs.Ytpkkfkebnhgaiaa
open Go Go.Conc
open Go.ConcN (sumTo upd sumTo_upd upd_ne upd_same)
def ChanO(w:World)(c cap:Nat):Prop:=∃m,w.heap[c]?=some (.chan cap #[] false m m false)
def zbg(w:World)(c:Nat):Prop:=∃cap buf cl a b tm,w.heap[c]?=some (.chan cap buf cl a b tm)
theorem ChanO.is{w:World}{c cap:Nat}(h:ChanO w c cap):zbg w c:=⟨_,_,_,_,_,_,h.choose_spec⟩
inductive ChS (S:St):Nat->Nat->Nat->Prop
  | quit {k self c cl bz cur pe} (h:S[k]?=some (Ob.thr self c cl bz cur pe)):ChS S k 0 c
  | done {k self q cl bz hp gid c pe} (h:S[k]?=some (Ob.thr self q cl bz (some (hp,gid,c)) pe)):ChS S k 3 c
  | ask {k a s c y z} (h:S[k]?=some (Ob.wp a s c y z)):ChS S k 1 c
  | grant {k a s x c z} (h:S[k]?=some (Ob.wp a s x c z)):ChS S k 2 c
structure Tab (OB WB:Nat->Prop) (S:St) (F:Emb) (n:Nat) (w:World):Prop where
  obs:∀b,OB b↔∃k self quit closed busy cur pend,S[k]?=some (Ob.thr self quit closed busy cur pend)/\b=F.blk (VB+k)
  wbs:∀b,WB b↔∃k a s x y z,S[k]?=some (Ob.wp a s x y z)/\b=F.blk (VB+k)
  dist:∀k s c k' s',ChS S k s c->ChS S k' s' c->k=k'/\s=s'
  far:∀k s c,ChS S k s c->zbg w c/\¬OB c/\¬WB c
  olow:∀b,OB b->b<w.heap.size
  quit:∀(k:Nat) self quit busy cur pend,S[k]?=some (Ob.thr self quit false busy cur pend)->ChanO w quit 0
  busy:∀(k:Nat) self quit closed cur pend,S[k]?=some (Ob.thr self quit closed true cur pend)->closed=false/\∃(hp gid dn:Nat) (wself:Int) (steps ask grant:Nat),cur=some (hp,gid,dn)/\S[hp]?=some (Ob.wp wself steps ask grant quit)/\ChanO w ask 0/\ChanO w grant 0/\ChanO w dn 1/\0<gid/\gid<n/\S[hp+1]?=some (Ob.box dn)
structure Par where
  h:Nat
  run:Option Nat
  OB:Nat->Prop
  WB:Nat->Prop
  Iv:Nat->World->Prop
  seat0:Option Seat
  PX:Nat->Prop
  wR:World
  FR:Emb
  NR:Nat
  CR:Nat
  n0:Nat
  w0:World
abbrev Par.mn(p:Par):Bool:=p.h==0
abbrev SuT:=Emb->Nat->Nat->Nat->Nat->Ob->Goroutine->Prop
structure Com (p:Par) (Su:SuT) (S0:St) (F:Emb) (N C:Nat) (Inb:Nat->Option Seat) (gs:Array Goroutine) (w:World) (T:Trace):Prop where
  ring:∃B Mem q,RingO Try.prog p.OB p.WB B p.Iv Mem Inb p.h T gs w q/\Mem 0/\Mem p.h
  tab:Tab p.OB p.WB S0 F gs.size w
  main:Inb 0=p.seat0
  seats:∀i s,Inb i=some s->i≠p.h/\i<gs.size/\(i≠0->∃(k:Nat) (self:Int) (quit:Nat) (closed:Bool) (hp dn:Nat) (pend:Option Nat),p.run≠some k/\S0[k]?=some (Ob.thr self quit closed true (some (hp,i,dn)) pend))
  waits:∀(k:Nat) self quit closed (hp gid:Nat) dn pend,S0[k]?=some (Ob.thr self quit closed true (some (hp,gid,dn)) pend)->(p.run=some k->gid=p.h) /\
    (p.run≠some k->∃wself steps ask grant ab x y cs,S0[hp]?=some (Ob.wp wself steps ask grant quit)/\Inb gid=some (zc5 (F.blk (VB+hp)) ab ask quit grant x y cs)/\Su F N C k hp (.wp wself steps ask grant quit) (doG (F.blk (VB+hp)) ab ask quit grant x y cs))
  n0:N<=VB
  c0:S0.length<=C
def zcR(Su:SuT):Prop:=∀F N C F' N' C' k hp ob g,Su F N C k hp ob g->Same (Kn N C) F F'->N<=N'->C<=C'->Su F' N' C' k hp ob g
theorem Kn.mono{N C N' C' n:Nat}(h:Kn N C n)(hN:N<=N')(hC:C<=C'):Kn N' C' n:=by
  rcases h with h|h
  . exact .inl (by omega)
  . exact .inr ⟨h.1,by omega⟩
variable {sl:Option (Nat × Nat)}
section
variable {p:Par}{Su:SuT}{S0:St}{F F':Emb}{c:Conf St}{N C N' C' n:Nat}{Inb:Nat->Option Seat}{gs gs':Array Goroutine}{w w':World}{T T':Trace}
theorem Tab.turn(h:Tab p.OB p.WB S0 F n w)(hC:S0.length<=C)(hF:Same (Kn N C) F F')(hs:w.heap.size<=w'.heap.size)(hk:∀c,¬p.OB c->(zbg w c->zbg w' c)/\∀cap,ChanO w c cap->ChanO w' c cap):Tab p.OB p.WB S0 F' n w':=by
  have hb:∀k ob,S0[k]?=some ob->F'.blk (VB+k)=F.blk (VB+k):=fun k ob hk=>((hF (VB+k) (.inr ⟨by omega,by have:=zaG hk;omega⟩)).1).symm
  have hch:∀k s c cap,ChS S0 k s c->ChanO w c cap->ChanO w' c cap:=fun k s c cap hc hm=>(hk c (h.far _ _ _ hc).2.1).2 cap hm;refine⟨fun b=>?_,fun b=>?_,h.dist,fun k s c hc=>?_,fun b hO=>qd (h.olow b hO) hs,fun k self quit busy cur pend hq=>hch _ _ _ _ (.quit hq) (h.quit _ _ _ _ _ _ hq),fun k self quit closed cur pend hq=>?_⟩
  . rw[h.obs b];constructor
    . rintro⟨k,a1,a2,a3,a4,a5,a6,a7,a8⟩;exact⟨k,a1,a2,a3,a4,a5,a6,a7,by rw[hb k _ a7];exact a8⟩
    . rintro⟨k,a1,a2,a3,a4,a5,a6,a7,a8⟩;exact⟨k,a1,a2,a3,a4,a5,a6,a7,by rw[<-hb k _ a7];exact a8⟩
  . rw[h.wbs b];constructor
    . rintro⟨k,a1,a2,a3,a4,a5,a7,a8⟩;exact⟨k,a1,a2,a3,a4,a5,a7,by rw[hb k _ a7];exact a8⟩
    . rintro⟨k,a1,a2,a3,a4,a5,a7,a8⟩;exact⟨k,a1,a2,a3,a4,a5,a7,by rw[<-hb k _ a7];exact a8⟩
  . obtain⟨h1,h2,h3⟩:=h.far k s c hc;exact⟨(hk c h2).1 h1,h2,h3⟩
  . obtain⟨h1,hp,gid,dn,wself,steps,ask,grant,h2,h3,h4,h5,h6,h7⟩:=h.busy k self quit closed cur pend hq;subst h2;exact⟨h1,hp,gid,dn,wself,steps,ask,grant,rfl,h3,hch _ _ _ _ (.ask h3) h4,hch _ _ _ _ (.grant h3) h5,hch _ _ _ _ (.done hq) h6,h7⟩
theorem zei{OB:Nat->Prop}(hk:∀c,zbg w c->¬OB c->w'.heap[c]?=w.heap[c]?):∀c,¬OB c->(zbg w c->zbg w' c)/\∀cap,ChanO w c cap->ChanO w' c cap:=fun c hO =>
  ⟨fun h=>by have e:=hk c h hO;obtain⟨cap,buf,cl,a,b,tm,h1⟩:=h;exact⟨cap,buf,cl,a,b,tm,e.trans h1⟩,fun cap h=>by have e:=hk c h.is hO;obtain⟨m,h1⟩:=h;exact⟨m,e.trans h1⟩⟩
theorem Com.turn(h:Com p Su S0 F N C Inb gs w T)(hSu:zcR Su)(hF:Same (Kn N C) F F')(hN:N<=N')(hC:C<=C')(hV:N'<=VB)(hs:w.heap.size<=w'.heap.size)(hk:∀c,¬p.OB c->(zbg w c->zbg w' c)/\∀cap,ChanO w c cap->ChanO w' c cap)(hsz:gs'.size=gs.size)(hr:∃B Mem q,RingO Try.prog p.OB p.WB B p.Iv Mem Inb p.h T' gs' w' q/\Mem 0/\Mem p.h):Com p Su S0 F' N' C' Inb gs' w' T':=by
  refine⟨hr,by rw[hsz];exact h.tab.turn h.c0 hF hs hk,h.main,fun i s hi=>by rw[hsz];exact h.seats i s hi,fun k self quit closed hp gid dn pend hq=>?_,hV,qe h.c0 hC⟩
  obtain⟨h1,h2⟩:=h.waits k self quit closed hp gid dn pend hq;refine⟨h1,fun hne=>?_⟩;obtain⟨wself,steps,ask,grant,ab,x,y,cs,h3,h4,h5⟩:=h2 hne;have e:F'.blk (VB+hp)=F.blk (VB+hp):=((hF (VB+hp) (.inr ⟨by omega,by have:=zaG h3;have:=h.c0;omega⟩)).1).symm
  exact⟨wself,steps,ask,grant,ab,x,y,cs,h3,by rw[e];exact h4,by rw[e];exact hSu _ _ _ _ _ _ _ _ _ _ h5 hF hN hC⟩
variable (hok:∀ mn OB WB,zat mn OB WB)
def Par.X(p:Par)(hok:∀mn OB WB,zat mn OB WB):Face Try.prog St:=XF p.mn p.OB p.WB (hok _ _ _)
structure BaseP (n0:Nat) (w0:World) (Tu OB:Nat->Prop) (S0:St) (w:World):Prop where
  low:∀x,x<n0->x<w.heap.size/\¬Tu x/\¬OB x/\w.heap[x]?=w0.heap[x]?
  ch:∀k s c,ChS S0 k s c->n0<=c
theorem BaseP.size{n0:Nat}{w0:World}{Tu OB:Nat->Prop}{S0:St}{w:World}(H:BaseP n0 w0 Tu OB S0 w):n0<=w.heap.size:=Nat.le_of_not_lt fun h=>by have:=(H.low _ h).1;omega
theorem BaseP.move{n0:Nat}{w0:World}{Tu Tu' OB OB':Nat->Prop}{S0 S':St}{w w':World}(H:BaseP n0 w0 Tu OB S0 w)(hs:w.heap.size<=w'.heap.size)(hT:∀x,x<n0->Tu' x->Tu x)(hO:∀x,x<n0->OB' x->OB x)(hw:∀x,x<n0->¬Tu x->¬OB x->(∀k s c,ChS S0 k s c->x≠c)->w'.heap[x]?=w.heap[x]?)(hc:∀k s c,ChS S' k s c->ChS S0 k s c\/n0<=c):BaseP n0 w0 Tu' OB' S' w' :=
  ⟨fun x hx=>by
    obtain⟨h1,h2,h3,h4⟩:=H.low x hx;exact⟨qd h1 hs,fun z=>h2 (hT x hx z),fun z=>h3 (hO x hx z),(hw x hx h2 h3 fun k s c h e=>by have:=H.ch k s c h;omega).trans h4⟩,fun k s c h=>(hc k s c h).elim (H.ch k s c) id⟩
structure Standing (p:Par) (hok:∀mn OB WB,zat mn OB WB) (Su:SuT) (S0:St) (F:Emb) (c:Conf St) (Inb:Nat->Option Seat) (gs:Array Goroutine) (w:World) (T:Trace):Prop where
  com:Com p Su S0 F (heap c).next (st c).length Inb gs w T
  inv:RInv (p.X hok) F c w
  ov:p.h≠0->∀x,p.OB x->¬Vis (p.X hok) F c x
  prot:∀x,p.PX x->x<w.heap.size/\¬Vis (p.X hok) F c x/\¬p.OB x/\w.heap[x]?=p.wR.heap[x]?
  wrow:∀x,p.WB x->∃cc el,w.heap[x]?=some (.cells cc el (0,0))/\cc.size≠0
  wro:∀n r,(heap c).get n=some r->p.WB (F.blk n)->r.ro=true
  base:BaseP p.n0 p.w0 (zh0 (p.X hok) F c) p.OB S0 w
  same:Same (Kn p.NR p.CR) p.FR F/\p.NR<=(heap c).next/\p.CR<=(st c).length
theorem Standing.chan_out(H:Standing p hok Su S0 F c Inb gs w T){x:Nat}(hx:zbg w x):¬Vis (p.X hok) F c x:=fun hv=>by
  obtain⟨cc,el,fr,h1⟩:=zde (XF.soft (hok _ _ _)) H.inv hv;obtain⟨_,_,_,_,_,_,h2⟩:=hx;rw[h1]at h2;cases h2
theorem zjP{X:Face Try.prog St}{x:Nat}(h:zh0 X F c x):Vis X F c x:=h.imp (fun⟨n,r,h1,_,h2⟩=>⟨n,r,h1,h2⟩) id
theorem zkZ(hSu:zcR Su){fn:Func}{A:Conf St->Prop}{todo:List Item}{tmps:List Value}{hh:AHeap}{S:St}{b:Frame}{cs:List Frame}{g:Goroutine}(G:Goes (p.X hok) fn A (.run todo tmps hh S))(hb:Try.prog.funcs[b.fn]?=some fn)(hk:b.kind=.normal)(H:Standing p hok Su S0 F (.run todo tmps hh S) Inb gs w T)(hg:gs[p.h]?=some g)(hS:g=qa (b.at (actF F tmps) todo) cs):
    Reach Try.prog (crowd gs w sl) T fun m' T'=>∃gs' g' w' sl' c' F',m'=crowd gs' w' sl'/\gs'[p.h]?=some g'/\A c'/\zhm Try.prog p.OB p.WB p.h F' b cs c' w' g'/\Standing p hok Su S0 F' c' Inb gs' w' T'/\Same (Kn hh.next S.length) F F'/\hh.next<=(heap c').next/\S.length<=(st c').length:=by
  have hc:=H.com;obtain⟨B,Mem,q,R,hM0,hMh⟩:=hc.ring;refine(ziq (XF.soft (hok _ _ _)) G hb hk R hg hS H.inv (fun x hx h0=>H.ov h0 x hx) (fun x hx _=>by obtain⟨cc,el,h1,h2⟩:=H.wrow x hx;exact⟨cc,el,_,h1,h2⟩) H.wro hc.tab.olow (fun x hx=>by obtain⟨_,_,h1,_⟩:=H.wrow x hx;exact zab h1)).bind fun m' T'=>?_
  rintro⟨gs',g',w',sl',q',B',c',F',rfl,k1,k2,k3,R'⟩;have hkeep:∀x,zbg w x->¬p.OB x->w'.heap[x]?=w.heap[x]?:=fun x hx hO=>by
    obtain⟨_,_,_,_,_,_,h2⟩:=id hx;exact k3.keep x (zab h2) (fun z=>H.chan_out hok hx (zjP z)) fun z=>hO z.1
  refine .here ⟨gs',g',w',sl',c',F',rfl,k2,k3.done,k3.stands,⟨hc.turn hSu k3.same k3.next k3.cnt k3.inv.2 k3.size (zei hkeep) k1 ⟨B',Mem,q',R',hM0,hMh⟩,k3.inv,fun h0 x hx hv=>H.ov h0 x hx (k3.vis x hv (hc.tab.olow x hx)),fun x hx=>?_,fun x hx=>?_,k3.wro,?_,⟨H.same.1.trans (k3.same.mono fun n hn=>hn.mono H.same.2.1 H.same.2.2),qe H.same.2.1 k3.next,qe H.same.2.2 k3.cnt⟩⟩,k3.same,k3.next,k3.cnt⟩
  . obtain⟨h1,h2,h3,h4⟩:=H.prot x hx;exact⟨qd h1 k3.size,fun hv=>h2 (k3.vis x hv h1),h3,(k3.keep x h1 (fun z=>h2 (zjP z)) fun z=>h3 z.1).trans h4⟩
  . obtain⟨cc,el,h1,h2⟩:=H.wrow x hx;exact⟨cc,el,(k3.keepW x hx).trans h1,h2⟩
  . exact H.base.move k3.size (fun x hx hv=>k3.turns x hv (qd hx H.base.size)) (fun _ _ h=>h) (fun x hx h1 h2 _=>k3.keep x (qd hx H.base.size) h1 fun z=>h2 z.1) (fun _ _ _ h=>.inl h)
end
variable {c':Conf St}
section
variable {p:Par}{Su:SuT}{S0:St}{F F':Emb}{c:Conf St}{Inb:Nat->Option Seat}{gs gs':Array Goroutine}{w w':World}{T T':Trace}
variable (hok:∀ mn OB WB,zat mn OB WB)
theorem zo4{P:Program}{OB WB:Nat->Prop}{B:Nat}{Iv:Nat->World->Prop}{Mem:Nat->Prop}{h:Nat}{q:Nat->Nat}{a a':Goroutine}(C:RingO P OB WB B Iv Mem Inb h T gs w q)(hg:gs[h]?=some a)(hx:∀w0,XS P a w0 a' w0)(hr':a'.status=.running)(hO:∀x,OB x->x<w.heap.size)(hW:∀x,WB x->x<w.heap.size):
    Reach P (crowd gs w sl) T fun m' T'=>∃gs' w' sl' q' B',m'=crowd gs' w' sl'/\gs'.size=gs.size/\gs'[h]?=some a'/\Ro OB h w w'/\RingO P OB WB B' Iv Mem Inb h T' gs' w' q':=by
  let BB:Nat->Prop:=fun x=>x<w.heap.size
  let RR:Nat->Prop:=fun _=>False
  have S:Shade BB RR (ze0 BB RR w) w:=zlj (fun x hx=>hx.elim id False.elim) (fun x o h1 h2=>absurd (zab h2) h1) (fun x h1=>h1.elim);have hFo:zgR OB WB Inb h BB RR:=⟨fun x hx _=>hO x hx,fun x hx=>.inl (hW x hx),fun i s x hi hs=>by
    obtain⟨cap,k,hc⟩:=C.chans i s x (fun z=>z) hi hs;exact zab hc⟩
  have hT:Tree P (fun g w0=>g=a'/\w0.heap.size=w.heap.size) a (ze0 BB RR w):=.step (fun t=>(a',WT (ze0 BB RR w) t)) (fun t=>hx _) (fun t=>.here ⟨rfl,S.size⟩);refine(zkk (fun g w0 hE=>by rw[hE.1];exact hr') hT _ rfl hg S hFo C).bind fun m' T'=>?_
  rintro⟨gs',g',w0',w',sl',q',B',rfl,k1,k2,⟨rfl,k3⟩,S',k4,C'⟩;have hsz:w'.heap.size=w.heap.size:=by rw[<-S'.size,k3]
  refine .here ⟨gs',w',sl',q',B',rfl,k1,k2,⟨fun b hb=>?_,hsz,?_⟩,C'⟩
  . by_cases hlt:b<w.heap.size
    . exact k4.keep b (.inl hlt) hb
    . rw[Array.getElem?_eq_none (by omega),Array.getElem?_eq_none (by omega)]
  . have h1:=k4.os;have h2:=k4.tape;have h3:=k4.output;cases w;cases w';simp_all
theorem Standing.grown(H:Standing p hok Su S0 F c Inb gs w T)(hSu:zcR Su)(hro:∀x,x<w.heap.size->¬ (p.OB x/\p.h≠0)->w'.heap[x]?=w.heap[x]?)(hs:w.heap.size<=w'.heap.size)(hsz:gs'.size=gs.size)(hr:∃B Mem q,RingO Try.prog p.OB p.WB B p.Iv Mem Inb p.h T' gs' w' q/\Mem 0/\Mem p.h):Standing p hok Su S0 F c Inb gs' w' T':=by
  have hc:=H.com;have hv:∀x,Vis (p.X hok) F c x->w'.heap[x]?=w.heap[x]?:=fun x hx=>by
    obtain⟨_,_,_,h1⟩:=zde (XF.soft (hok _ _ _)) H.inv hx;exact hro x (zab h1) fun z=>H.ov z.2 x z.1 hx
  have hap:∀x,p.OB x->¬p.WB x:=by obtain⟨_,_,_,R,_⟩:=hc.ring;exact R.apart
  refine⟨hc.turn hSu (Same.refl _ _) (qc _) (qc _) H.inv.2 hs (zei fun x hx hO=>hro x (by obtain⟨_,_,_,_,_,_,h1⟩:=hx;exact zab h1) fun z=>hO z.1) hsz hr,?_,H.ov,fun x hx=>?_,fun x hx=>?_,H.wro,?_,H.same⟩
  . obtain⟨I,hl⟩:=H.inv;exact⟨⟨I.holds.kept fun n r hr=>hv _ (.inl ⟨n,r,hr,rfl⟩),(p.X hok).rep_kept _ _ _ _ I.rep hs fun b hb=>hv b (.inr hb),I.vst,I.hst,I.hk,I.hand,I.klim,Kept.refl _ _,fun _ _ _ _ _=>trivial,fun _ _ _=>trivial,I.sep⟩,hl⟩
  . obtain⟨h1,h2,h3,h4⟩:=H.prot x hx;exact⟨qd h1 hs,h2,h3,(hro x h1 fun z=>h3 z.1).trans h4⟩
  . obtain⟨cc,el,h1,h2⟩:=H.wrow x hx;exact⟨cc,el,(hro x (zab h1) fun z=>hap x z.1 hx).trans h1,h2⟩
  . exact H.base.move hs (fun _ _ h=>h) (fun _ _ h=>h) (fun x hx _ h2 _=>hro x (qd hx H.base.size) fun z=>h2 z.1) (fun _ _ _ h=>.inl h)
theorem Standing.moved(H:Standing p hok Su S0 F c Inb gs w T)(hSu:zcR Su)(hro:Ro p.OB p.h w w')(hsz:gs'.size=gs.size)(hr:∃B Mem q,RingO Try.prog p.OB p.WB B p.Iv Mem Inb p.h T' gs' w' q/\Mem 0/\Mem p.h):Standing p hok Su S0 F c Inb gs' w' T' :=
  H.grown hok hSu (fun x _ hx=>hro.only x hx) (qf hro.size.symm) hsz hr
theorem Standing.conf(H:Standing p hok Su S0 F c Inb gs w T)(hh:heap c'=heap c)(hs:st c'=st c)(hv:∀v∈vals c',Stab (Kn (heap c).next (st c).length) F v):Standing p hok Su S0 F c' Inb gs w T:=by
  have hc:=H.com;have hvis:∀x,Vis (p.X hok) F c' x↔Vis (p.X hok) F c x:=fun x=>by unfold Vis;rw[hh,hs]
  have hturns:∀x,zh0 (p.X hok) F c' x↔zh0 (p.X hok) F c x:=fun x=>by unfold zh0;rw[hh,hs]
  refine⟨by rw[hh,hs];exact hc,?_,fun h0 x hx=>by rw[hvis];exact H.ov h0 x hx,fun x hx=>by rw[hvis];exact H.prot x hx,H.wrow,by rw[hh];exact H.wro,H.base.move (qc _) (fun x _ h=>(hturns x).1 h) (fun _ _ h=>h) (fun _ _ _ _ _=>rfl) (fun _ _ _ h=>.inl h),by rw[hh,hs];exact H.same⟩
  obtain⟨I,hl⟩:=H.inv;refine⟨?_,by rw[hh];exact hl⟩
  rw[hh,hs];exact⟨I.holds,I.rep,hv,I.hst,I.hk,I.hand,I.klim,Kept.refl _ _,fun _ _ _ _ _=>trivial,fun _ _ _=>trivial,I.sep⟩
theorem Standing.stab(H:Standing p hok Su S0 F c Inb gs w T):∀v∈vals c,Stab (Kn (heap c).next (st c).length) F v:=fun v hv=>H.inv.1.vst v hv
def zhX(f:FuncId):Frame:={ (default:Frame) with fn:=f,kind:=.normal }
theorem zfW{f:FuncId}{g:Func}{cd:Code}{args:Array Value}(hf:Try.prog.funcs[f]?=some g)(hbd:g.body=some cd):qs Try.prog f (args.map (ren F)) .normal=(zhX f).at (actF F (zag g cd args).2) (zag g cd args).1:=by
  simp[qs,Frame.at,hf,hbd,zhX,actF,zag,zaW]
section
variable {ops:Array Oper}{i:Nat}{rest:List Nat}{k:List Item}{tmps:List Value}{h:AHeap}{S:St}{o:Oper}{f:FuncId}{args:Array Value}{b:Frame}{cs:List Frame}{g:Goroutine}{sl:Option (Nat × Nat)}
theorem zb9(hSu:zcR Su){fg:Func}{cd:Code}(ho:ops[i]?=some o)(hw:Region.wanted o (zah ops tmps)=true)(hb':o.op.operands.all zaO=true)(hca:zaJ Try.prog (evA tmps) o.op=some (f,args))(hf:Try.prog.funcs[f]?=some fg)(hgB:goB fg=true)(hbd:fg.body=some cd)(hk:b.kind=.normal)(H:Standing p hok Su S0 F (.run (.inRegion ops (i::rest)::k) tmps h S) Inb gs w T)(hg:gs[p.h]?=some g)(hS:g=qa (b.at (actF F tmps) (.inRegion ops (i::rest)::k)) cs):
    Reach Try.prog (crowd gs w sl) T fun m' T'=>∃gs' w' sl',m'=crowd gs' w' sl'/\gs'[p.h]?=some (qa ((zhX f).at (actF F (zag fg cd args).2) (zag fg cd args).1) (b.at (actF F tmps) (.inRegion ops (i::rest)::k)::cs))/\Standing p hok Su S0 F (.run (zag fg cd args).1 (zag fg cd args).2 h S) Inb gs' w' T':=by
  subst hS;have hop:∀x∈o.op.operands,zaO x=true:=fun x hx=>by simpa using (Array.all_eq_true_iff_forall_mem.1 hb') x hx
  have hst:∀x∈o.op.operands,Stab (Kn h.next S.length) F (evA tmps x):=fun x hx=>zfX H.stab x (hop x hx);have hgo:=hgB;unfold goB at hgo;rw[Bool.and_eq_true]at hgo;have hc:=H.com;obtain⟨B,Mem,q,R,hM0,hMh⟩:=hc.ring;have hρ:∀x∈o.op.operands,(actF F tmps).eval x=ren F (evA tmps x):=fun x hx=>zb2 F tmps x (hop x hx);refine(zo4 (a':=qa (qs Try.prog f (args.map (ren F)) .normal) (b.at (actF F tmps) (.inRegion ops (i::rest)::k)::cs)) R hg (fun w0=>zlN ho (by rw[zdh];exact hw) (by rw[hk];decide) (zce (zdE hρ hca hf hgo.1 (by simpa using hgo.2))) (zeq hρ hca hf hgo.1 (by simpa using hgo.2))) rfl hc.tab.olow (fun x hx=>by obtain⟨_,_,h1,_⟩:=H.wrow x hx;exact zab h1)).bind fun m' T'=>?_
  rintro⟨gs',w',sl',q',B',rfl,k1,k2,k3,R'⟩;refine .here ⟨gs',w',sl',rfl,by rw[<-zfW hf hbd];exact k2,Standing.conf hok (Standing.moved hok H hSu k3 k1 ⟨B',Mem,q',R',hM0,hMh⟩) rfl rfl fun u hu=>?_⟩
  have hu:u∈(zag fg cd args).2:=hu;simp only[zag,List.mem_append]at hu;rcases hu with hu|hu
  . exact zf4 hst hca u (by simpa using hu)
  . rw[List.eq_of_mem_replicate hu];exact Stab.undef
end
end
section
variable {p:Par}{Su:SuT}{S0:St}{F F':Emb}{c:Conf St}{Inb:Nat->Option Seat}{gs gs':Array Goroutine}{w w':World}{T T':Trace}
variable (hok:∀ mn OB WB,zat mn OB WB)
variable {ops:Array Oper}{i:Nat}{rest:List Nat}{k:List Item}{tmps:List Value}{h:AHeap}{S:St}{o:Oper}{f:FuncId}{args:Array Value}{b:Frame}{cs:List Frame}{g:Goroutine}{sl:Option (Nat × Nat)}
theorem zeT(hSu:zcR Su){g':Goroutine}(H:Standing p hok Su S0 F c Inb gs w T)(hg:gs[p.h]?=some g)(hrun:g.status=.running)(hstep:∀w1,Ro p.OB p.h w w1->∃es,stepG Try.prog (p.h==0) g w1=.go g' w1 es/\∀e∈es,EvO p.OB p.WB p.h w1 e)(hh:heap c'=heap c)(hs:st c'=st c)(hv:∀v∈vals c',Stab (Kn (heap c).next (st c).length) F v):
    Reach Try.prog (crowd gs w sl) T fun m' T'=>∃gs' w' sl',m'=crowd gs' w' sl'/\gs'[p.h]?=some g'/\Ro p.OB p.h w w'/\Standing p hok Su S0 F c' Inb gs' w' T':=by
  obtain⟨B,Mem,q,R,hM0,hMh⟩:=H.com.ring;refine(zaR (Stop:=fun g1 w1=>g1=g'/\Ro p.OB p.h w w1) 1 hg (Conc.Goes.step hrun fun w1 hw1=>?_) R).bind fun m' T'=>?_
  . obtain⟨es,e1,e2⟩:=hstep w1 hw1;rw[e1,goes_go];exact⟨DO.quiet e2,fun w2 hw2=>⟨rfl,Ro.trans _ _ _ hw1 hw2⟩⟩
  . rintro⟨gs',a',w',sl',q',B',rfl,k1,k2,⟨rfl,k3⟩,R'⟩;exact .here ⟨gs',w',sl',rfl,k2,k3,Standing.conf hok (Standing.moved hok H hSu k3 k1 ⟨B',Mem,q',R',hM0,hMh⟩) hh hs hv⟩
theorem zk1(hSu:zcR Su){F0:Emb}{N0 C0:Nat}{v:Value}{h1:AHeap}{S1:St}{b':Frame}(ho:ops[i]?=some o)(hst:∀u∈tmps,Stab (Kn N0 C0) F0 u)(hF:Same (Kn N0 C0) F0 F)(hN:N0<=h1.next)(hC:C0<=S1.length)(H:Standing p hok Su S0 F (.done v h1 S1) Inb gs w T)(hg:gs[p.h]?=some g)(hS:zhm Try.prog p.OB p.WB p.h F b' (b.at (actF F0 tmps) (.inRegion ops (i::rest)::k)::cs) (.done v h1 S1) w g):
    Reach Try.prog (crowd gs w sl) T fun m' T'=>∃gs' w' sl',m'=crowd gs' w' sl'/\gs'[p.h]?=some (qa (b.at (actF F (putL o.dst v tmps)) (.inRegion ops rest::k)) cs)/\Standing p hok Su S0 F (.run (.inRegion ops rest::k) (putL o.dst v tmps) h1 S1) Inb gs' w' T':=by
  obtain⟨fr,rfl,_,_,hl⟩:=hS;have hfin:(b.at (actF F0 tmps) (.inRegion ops (i::rest)::k)).finish (ren F v)=b.at (actF F (putL o.dst v tmps)) (.inRegion ops rest::k):=by
    rw[qg,ho];show b.at ((actF F0 tmps).put o.dst (ren F v)) (.inRegion ops rest::k)=_;rw[<-zbp hst hF,zc1]
  have hl:=hl _ _ rfl;rw[hfin]at hl;have hKK:∀x,Kn N0 C0 x->Kn h1.next S1.length x:=fun x hx=>hx.mono hN hC;refine(zeT hok hSu (c':=.run (.inRegion ops rest::k) (putL o.dst v tmps) h1 S1) H hg rfl hl rfl rfl (zcs (fun u hu=>(hst u hu).move hF hKK) (H.inv.1.vst v (List.mem_singleton.2 rfl)) o.dst)).bind fun m' T'=>?_;rintro⟨gs',w',sl',rfl,k1,_,k2⟩;exact .here ⟨gs',w',sl',rfl,k1,k2⟩
end
section
variable (hok:∀ mn OB WB,zat mn OB WB)
variable {Γ D:Type}(Cl:D->Γ × St->Par->Prop)(Su:D->Γ->SuT)(Fin:D->Machine->Trace->Prop)
def Safe(b:Frame)(cs:List Frame)(F0:Emb)(N0 C0:Nat)(c:Conf St)(γ:Γ×St):Prop :=
  ∀d p Inb F gs w sl T g,Cl d γ p->Standing p hok (Su d γ.1) γ.2 F c Inb gs w T->gs[p.h]?=some g->zhm Try.prog p.OB p.WB p.h F b cs c w g->Same (Kn N0 C0) F0 F->N0<=(heap c).next->C0<=(st c).length->Reach Try.prog (crowd gs w sl) T (Fin d)
abbrev SpT(Γ:Type):=FuncId->Array Value->AHeap->St->Γ×St->(Value->AHeap->St->Γ×St->Prop)->Prop
def SpOK(Stk:List Frame->Prop)(Sp:SpT Γ):Prop:=∀(f:FuncId) (args:Array Value) (h:AHeap) (S:St) (γ:Γ×St) (Q:Value->AHeap->St->Γ×St->Prop),Sp f args h S γ Q ->
  ∀(b:Frame) (cs:List Frame) (F0:Emb) (N0 C0:Nat) (fn:Func) (ops:Array Oper) (i:Nat) (rest:List Nat) (k:List Item) (tmps:List Value) (o:Oper),Try.prog.funcs[b.fn]?=some fn->b.kind=.normal->Stk cs->ops[i]?=some o->Region.wanted o (zah ops tmps)=true->o.op.operands.all zaO=true->zaJ Try.prog (evA tmps) o.op=some (f,args) ->
    (∀v h1 S1 γ',Q v h1 S1 γ'->Safe hok Cl Su Fin b cs F0 N0 C0 (.run (.inRegion ops rest::k) (putL o.dst v tmps) h1 S1) γ')->Safe hok Cl Su Fin b cs F0 N0 C0 (.run (.inRegion ops (i::rest)::k) tmps h S) γ
theorem GE.safe{X:Face Try.prog St}{Sp:SpT Γ}{Stk:List Frame->Prop}(hStk:∀(b:Frame) (fn:Func) (t:Array Value) (todo:List Item) (cs:List Frame),Try.prog.funcs[b.fn]?=some fn->b.kind=.normal->Stk cs->Stk (b.at ⟨t,[]⟩ todo::cs))(hSu:∀d (γ:Γ×St) p,Cl d γ p->zcR (Su d γ.1))(hX:∀d γ p,Cl d γ p->∀f a S v S',X.prim f a S v S'->PrimV p.mn f a S v S')(hcnt:X.cnt=List.length)(hSp:SpOK hok Cl Su Fin Stk Sp){fn:Func}{A:Conf St->Γ×St->Prop}{c:Conf St}{γ:Γ×St}(G:GE X Sp fn A c γ):
    ∀(b:Frame) (cs:List Frame) (F0:Emb) (N0 C0:Nat),Try.prog.funcs[b.fn]?=some fn->b.kind=.normal->Stk cs->(∀c' γ',A c' γ'->Safe hok Cl Su Fin b cs F0 N0 C0 c' γ')->Safe hok Cl Su Fin b cs F0 N0 C0 c γ:=by
  induction G with
  | here h=>exact fun b cs F0 N0 C0 _ _ _ K=>K _ _ h
  | @plain fn A c γ A' G hk ih =>
    intro b cs F0 N0 C0 hb hkd hsk K;cases c with
    | done v hh S =>
      cases G with
      | here h=>exact ih _ h b cs F0 N0 C0 hb hkd hsk K
    | run todo tmps hh S =>
      intro d p Inb F gs w sl T g hC H hg hS hF hN0 hC0;have G':Goes (p.X hok) fn A' (.run todo tmps hh S):=G.face (X':=p.X hok) (hX d _ p hC) (by rw[hcnt];rfl)
      refine(zkZ hok (hSu _ _ _ hC) G' hb hkd H hg hS).bind fun m' T'=>?_;rintro⟨gs',g',w',sl',c',F',rfl,k1,k2,k3,k4,k5,k6,k7⟩;exact ih c' k2 b cs F0 N0 C0 hb hkd hsk K d p Inb F' gs' w' sl' T' g' hC k4 k1 k3 (hF.trans (k5.mono fun n hn=>hn.mono hN0 hC0)) (qe hN0 k6) (qe hC0 k7)
  | @call fn A ops i rest k tmps h S o γ f g c args Q ho hw hb' hca hf hg hbd _ _ ih1 ih2 =>
    intro b cs F0 N0 C0 hb hkd hsk K d p Inb F gs w sl T gr hC H hgr hS hF hN0 hC0;refine(zb9 hok (hSu _ _ _ hC) ho hw hb' hca hf hg hbd hkd H hgr hS).bind fun m' T'=>?_;rintro⟨gs',w',sl',rfl,k1,k2⟩;refine ih1 (zhX f) (b.at (actF F tmps) (.inRegion ops (i::rest)::k)::cs) F h.next S.length hf rfl (hStk _ _ _ _ _ hb hkd hsk) ?_ d p Inb F gs' w' sl' T' _ hC k2 k1 rfl (Same.refl _ _) (qc _) (qc _);rintro c' γ' ⟨v,h1,S1,rfl,hq⟩ d1 p1 Inb1 F1 gs1 w1 sl1 T1 g1 hC1 H1 hg1 hS1 hF1 hN1 hl1;have hN1:h.next<=h1.next:=hN1;have hl1:S.length<=S1.length:=hl1;refine(zk1 hok (hSu _ _ _ hC1) ho (fun u hu=>H.inv.1.vst u hu) hF1 hN1 hl1 H1 hg1 hS1).bind fun m2 T2=>?_;rintro⟨gs2,w2,sl2,rfl,j1,j2⟩;exact ih2 v h1 S1 γ' hq b cs F0 N0 C0 hb hkd hsk K d1 p1 Inb1 F1 gs2 w2 sl2 T2 _ hC1 j2 j1 rfl (hF.trans (hF1.mono fun n hn=>hn.mono hN0 hC0)) (qe hN0 hN1) (qe hC0 hl1)
  | spec f args Q ho hw hb' hca hsp _ ih =>
    intro b cs F0 N0 C0 hb hkd hsk K;exact hSp _ _ _ _ _ _ hsp b cs F0 N0 C0 _ _ _ _ _ _ _ hb hkd hsk ho hw hb' hca fun v h1 S1 γ' hq=>ih v h1 S1 γ' hq b cs F0 N0 C0 hb hkd hsk K
  | @draws fn A id ops k tmps h S γ _ ih =>
    intro b cs F0 N0 C0 hb hkd hsk K d p Inb F gs w sl T g hC H hg hS hF hN0 hC0;subst hS;obtain⟨B,Mem,q,R,hM0,hMh⟩:=H.com.ring;refine(zaR (Stop:=fun g1 w1=>(∃t,g1=qa (b.at (actF F tmps) (.inRegion ops (Region.schedule (Try.prog.follows .mixedOrders) ops t)::k)) cs)/\Ro p.OB p.h w w1) 1 hg (Conc.Goes.step rfl fun w1 hw1=>?_) R).bind fun m' T'=>?_
    . rw[stepG_region_draw,goes_go];exact⟨⟨fun _ _ _ _ _=>rfl,fun _ _ _=>rfl,fun _ _ _=>rfl,qc _,rfl,fun e he=>by simp at he⟩,fun w2 hw2=>⟨⟨_,rfl⟩,Ro.trans w w1 w2 hw1 (show SideD (fun b=>p.OB b/\p.h≠0) w1 w2 from⟨hw2.only,hw2.size,hw2.rest⟩)⟩⟩
    . rintro⟨gs',a',w',sl',q',B',rfl,k1,k2,⟨⟨t,rfl⟩,k3⟩,R'⟩;exact ih t b cs F0 N0 C0 hb hkd hsk K d p Inb F gs' w' sl' T' _ hC (Standing.conf hok (Standing.moved hok H (hSu _ _ _ hC) k3 k1 ⟨B',Mem,q',R',hM0,hMh⟩) rfl rfl (fun u hu=>H.inv.1.vst u hu)) k2 rfl hF hN0 hC0
end
end Go.Proofs.Ytpkkfkebnhgaiaa
namespace Go.Proofs.Ytpkkfkebnhgaiaa
open Go Go.RowKit
abbrev wpB(wself:Int)(steps:Nat)(told:Value)(ak gr qt:Nat):Blk:=⟨[.int .i64 wself,.int .i64 (wr steps),told,.chan (some ak),.chan (some gr),.chan (some qt)],58,true,none⟩
abbrev doL1(c:Nat)(n:Int)(A B:UInt64)(ak qt:Nat):List Value:=[.pointer (some ⟨0,0,none⟩),accV c n A B,undef,.pointer (some ⟨2,0,none⟩),.int .u64 0,undef,.pointer (some ⟨0,0,none⟩),.pointer (some ⟨0,0,none⟩),.pointer (some ⟨0,3,none⟩),.chan (some ak),accV c n A B,.pointer (some ⟨0,0,none⟩),.pointer (some ⟨0,0,none⟩),.pointer (some ⟨0,5,none⟩),.chan (some qt),undef,undef,undef,undef,undef,undef,undef,undef,undef,undef,undef,undef,undef,undef,undef,undef,undef,undef,undef,undef,undef,undef,undef,undef,undef,undef,undef,undef,undef]
theorem zpM(wself:Int)(steps:Nat)(told:Value)(ak gr qt c:Nat)(n:Int)(A B:UInt64):
    Goes BT Try.f75 (fun x=>x=.run [.inRegion zdG [0,1,2,3],.code zel,.code doY] (doL1 c n A B ak qt) (zaq [some (wpB wself steps told ak gr qt),none,some ⟨[.int .u8 (c:Int),.int .i64 n,.int .u64 (A.toNat:Int),.int .u64 (B.toNat:Int)],64,false,some 0⟩]) ()) (.run [.code doC] [.pointer (some ⟨0,0,none⟩),accV c n A B,undef,undef,undef,undef,undef,undef,undef,undef,undef,undef,undef,undef,undef,undef,undef,undef,undef,undef,undef,undef,undef,undef,undef,undef,undef,undef,undef,undef,undef,undef,undef,undef,undef,undef,undef,undef,undef,undef,undef,undef,undef,undef] (zaq [some (wpB wself steps told ak gr qt),none]) ()):=by
  generalize Try.f75=fnX;simp only[doC,Try.f75,qb,accV];refine via ?_;exact Goes.here (by simp only[doL1,zdG,zel,doY,doC,cOps,cL,cR,Try.f75,qb,accV];rfl)
def cIn:Code->Code|.block _ b=>b|c=>c
noncomputable def zen:Array Oper:=cOps (cL (cR (zhS (cIn zef))))
noncomputable def zki:Code:=cR (cR (zhS (cIn zef)))
theorem zro(n:Nat):IntKind.i64.wrap (wr n+1)=wr (n+1):=by
  unfold wr;rw[qi,qi,qi];omega
abbrev zrm(c:Nat)(n:Int)(A B v:UInt64)(ak gr qt:Nat):List Value:=[.pointer (some ⟨0,0,none⟩),accV c n A B,undef,.pointer (some ⟨2,0,none⟩),.int .u64 0,undef,.pointer (some ⟨0,0,none⟩),.pointer (some ⟨0,0,none⟩),.pointer (some ⟨0,3,none⟩),.chan (some ak),accV c n A B,.pointer (some ⟨0,0,none⟩),.pointer (some ⟨0,0,none⟩),.pointer (some ⟨0,5,none⟩),.chan (some qt),.tuple #[.int .i64 0,.bool false,.agg #[]],.int .i64 0,.bool true,.bool false,undef,undef,.pointer (some ⟨0,0,none⟩),.pointer (some ⟨0,0,none⟩),.pointer (some ⟨0,4,none⟩),.chan (some gr),.pointer (some ⟨0,0,none⟩),.pointer (some ⟨0,0,none⟩),.pointer (some ⟨0,5,none⟩),.chan (some qt),.tuple #[.int .i64 0,.bool true,.int .u64 (v.toNat:Int),.agg #[]],undef,undef,undef,undef,undef,undef,undef,undef,undef,undef,undef,undef,undef,undef]
abbrev doL2(c:Nat)(n:Int)(A B v:UInt64)(steps ak gr qt:Nat):List Value:=[.pointer (some ⟨0,0,none⟩),accV c n A B,undef,.pointer (some ⟨2,0,none⟩),.int .u64 0,.int .u64 (v.toNat:Int),.pointer (some ⟨0,0,none⟩),.pointer (some ⟨0,0,none⟩),.pointer (some ⟨0,3,none⟩),.chan (some ak),accV c n A B,.pointer (some ⟨0,0,none⟩),.pointer (some ⟨0,0,none⟩),.pointer (some ⟨0,5,none⟩),.chan (some qt),.tuple #[.int .i64 0,.bool false,.agg #[]],.int .i64 0,.bool true,.bool false,undef,undef,.pointer (some ⟨0,0,none⟩),.pointer (some ⟨0,0,none⟩),.pointer (some ⟨0,4,none⟩),.chan (some gr),.pointer (some ⟨0,0,none⟩),.pointer (some ⟨0,0,none⟩),.pointer (some ⟨0,5,none⟩),.chan (some qt),.tuple #[.int .i64 0,.bool true,.int .u64 (v.toNat:Int),.agg #[]],.int .i64 0,.bool true,.bool false,.int .u64 (v.toNat:Int),.pointer (some ⟨0,0,none⟩),.pointer (some ⟨0,0,none⟩),.pointer (some ⟨0,1,none⟩),.int .i64 (wr steps),.int .i64 (wr (steps+1)),.pointer (some ⟨0,0,none⟩),.pointer (some ⟨0,1,none⟩),undef,undef,undef]
theorem zqM(wself:Int)(steps:Nat)(told:Value)(ak gr qt c:Nat)(n:Int)(A B v:UInt64):
    Goes BT Try.f75 (fun x=>x=.run [.inRegion zen [7],.code zki,.inBlock 1] (doL2 c n A B v steps ak gr qt) (zaq [some (wpB wself steps told ak gr qt),none,none]) ()) (.run [.inRegion zfH [1,2,3],.code zef] (zrm c n A B v ak gr qt) (zaq [some (wpB wself steps told ak gr qt),none,none]) ()):=by
  generalize Try.f75=fnX;simp only[zfH,zef,doC,cOps,cL,cR,Try.f75,qb,accV];show At BT fnX _ _ _ 1 _ _ _;have e:=zro steps;refine viaF e ?_;exact Goes.here (by simp only[doL2,zen,zki,zef,cIn,zhS,doC,cOps,cL,cR,Try.f75,qb,accV];rfl)
theorem zp3(wself:Int)(steps s2:Nat)(told:Value)(ak gr qt c:Nat)(n:Int)(A B v:UInt64):
    Goes BT Try.f75 (fun x=>∃h1,x=.done (.int .u64 (v.toNat:Int)) h1 ()) (.run [.inRegion zen [],.code zki,.inBlock 1] (doL2 c n A B v steps ak gr qt) (zaq [some (wpB wself s2 told ak gr qt),none,none]) ()):=by
  generalize hfn:Try.f75=fnX;simp only[zen,zki,zef,cIn,zhS,doC,cOps,cL,cR,Try.f75,qb,accV];show At BT fnX _ _ _ 8 _ _ _;refine via ?_;subst hfn;exact Goes.fin rfl rfl rfl
end Go.Proofs.Ytpkkfkebnhgaiaa
namespace Go.Proofs.Ytpkkfkebnhgaiaa
open Go Go.Conc
open Go.ConcN (sumTo upd sumTo_upd upd_ne upd_same)
noncomputable def zjn:Code:=(Try.f22.body).getD .skip
noncomputable def rootOps2:Array Oper:=cOps (cR (cR zjn))
noncomputable def botF:Frame:={ (default:Frame) with fn:=Try.prog.funcs.size,defers:=[],mode:=.panicking [goexitEntry] }
abbrev zhz(f:FuncId)(ys:Array Value):Deferred:={ target:=.fn (.func f) ys,args:=#[] }
abbrev zot(fv:Value)(wb dn bx:Nat)(z:Value):Array Value:=#[fv,pt wb,.chan (some dn),undef,undef,pt bx,.func (.func 33) #[] #[pt bx],fv,pt wb,.iface 49 (pt wb),z]
noncomputable def zcm (fv:Value) (wb dn bx:Nat) (rest:List Nat):Frame:=(baseD 22).at ⟨zot fv wb dn bx undef,[zhz 33 #[pt bx]]⟩ [.inRegion rootOps2 rest]
inductive zjY (r:Frame):List Frame->Prop
  | root:zjY r [r,botF]
  | frame {c:Frame} {fn:Func} {cs:List Frame} (hf:Try.prog.funcs[c.fn]?=some fn) (hd:c.defers=[]) (hm:c.mode=.run) (h:zjY r cs):zjY r (c::cs)
def zp2(F0:Emb)(c0 hp:Nat)(g:Goroutine):Prop:=hp+1<c0/\∃(wb:Nat) (ab:Nat×Nat) (ak qt gr:Nat) (x y:Value) (cs:List Frame) (fv:Value) (wbr dn0:Nat),g=doG wb ab ak qt gr x y cs/\zjY (zcm fv wbr dn0 (F0.blk (VB+(hp+1))) [3]) cs
structure Proto (Γ:Type) where
  Ph:Type
  ph:Γ->Nat->Option Ph
  acc:Ph->Nat×Int×UInt64×UInt64
  fuel:Γ->Nat
  Con:Type
  con:Γ->Con
  Inv:Γ->AHeap->St->Prop
  Run:Nat->Ph->UInt64->Γ->AHeap->St->Prop
abbrev Proto.FC{Γ:Type}(Pr:Proto Γ)(a b:Γ):Prop:=Pr.fuel a=Pr.fuel b/\Pr.con a=Pr.con b
def accQ(a:Nat×Int×UInt64×UInt64):Value:=accV a.1 a.2.1 a.2.2.1 a.2.2.2
def IvN(OB:Nat->Prop)(wN:World)(i:Nat)(w:World):Prop:=i=0->∀b,OB b->w.heap[b]?=wN.heap[b]?
structure BD (Γ:Type) where
  p:Par
  Su:SuT
  k:Nat
  hp:Nat
  self:Int
  quit:Nat
  dn:Nat
  pend:Option Nat
  wself:Int
  steps:Nat
  ask:Nat
  grant:Nat
  γ:Γ
  S:St
  wN:World
  tb:Nat
  cs0:List Frame
structure BD.Ok {Γ:Type} (d:BD Γ):Prop where
  mono:zcR d.Su
  run:d.p.run=some d.k
  h0:d.p.h≠0
  iv:d.p.Iv=IvN d.p.OB d.wN
  seat:d.p.seat0=some (zb1 d.tb (d.p.FR.blk (VB+d.hp)) d.dn d.ask d.cs0)
  thr:d.S[d.k]?=some (.thr d.self d.quit false true (some (d.hp,d.p.h,d.dn)) d.pend)
  wp:d.S[d.hp]?=some (.wp d.wself d.steps d.ask d.grant d.quit)
  cr:d.p.CR=d.S.length
  px:∀x,d.p.PX x->∃cc el fr,d.p.wR.heap[x]?=some (.cells cc el fr)
abbrev cntS(S:St)(hp:Nat)(wself:Int)(s2 ask grant quit:Nat):St:=S.set hp (.wp wself s2 ask grant quit)
variable (hok:∀ mn OB WB,zat mn OB WB)
def XB(hok:∀mn OB WB,zat mn OB WB)(OB WB:Nat->Prop):Face Try.prog St:=XF false OB WB (hok _ _ _)
variable {m:Machine}{F0:Emb}{ob:Ob}{g:Goroutine}{N C wb k0 dn0 ak qt gr cc:Nat}
section
variable {Γ:Type}(Pr:Proto Γ)
abbrev QT:=Emb->Nat->Nat->Nat->Nat->Nat->Ob->Pr.Ph->Goroutine->Prop
def Came(Q:QT Pr)(d:BD Γ)(m:Machine)(T:Trace):Prop :=
  ∃(gs:Array Goroutine) (w:World) (sl:Option (Nat×Nat)) (F:Emb) (hs:AHeap) (γ:Γ) (kk:Nat) (val:Value) (Inb:Nat->Option Seat) (S':St) (Su':SuT) (Iv':Nat->World->Prop),m=crowd gs w sl /\
    gs[0]?=some ((zje d.tb (d.p.FR.blk (VB+d.hp)) d.dn d.ask d.cs0).finishComm Try.prog (zb1 d.tb (d.p.FR.blk (VB+d.hp)) d.dn d.ask d.cs0).cases (zb1 d.tb (d.p.FR.blk (VB+d.hp)) d.dn d.ask d.cs0).shape kk val true) /\
    (∀i,i≠d.k->Pr.ph γ i=Pr.ph d.γ i)/\Pr.FC γ d.γ/\Pr.Inv γ hs d.S/\Same (Kn d.p.NR d.p.CR) d.p.FR F/\d.p.NR<=hs.next /\
    (∀b,d.p.OB b->w.heap[b]?=d.wN.heap[b]?)/\RInv (XB hok d.p.OB d.p.WB) F (.run [] [] hs d.S) w/\(∀x,d.p.OB x->¬Vis (XB hok d.p.OB d.p.WB) F (.run [] [] hs d.S) x) /\
    (∀x,d.p.PX x->x<w.heap.size/\¬Vis (XB hok d.p.OB d.p.WB) F (.run [] [] hs d.S) x/\¬d.p.OB x/\w.heap[x]?=d.p.wR.heap[x]?) /\
    (∀x,d.p.WB x->∃cc el,w.heap[x]?=some (.cells cc el (0,0))/\cc.size≠0)/\(∀n r,hs.get n=some r->d.p.WB (F.blk n)->r.ro=true) /\
    BaseP d.p.n0 d.p.w0 (zh0 (XB hok d.p.OB d.p.WB) F (.run [] [] hs d.S)) d.p.OB d.S w /\
    Com ⟨0,none,d.p.OB,d.p.WB,Iv',none,fun _=>False,w,F,0,0,d.p.n0,d.p.w0⟩ Su' S' F hs.next d.S.length Inb gs w T /\
    ((kk=0/\∃q,Pr.ph γ d.k=some q/\val=accQ (Pr.acc q)/\S'=d.S/\∀F1 N1 C1 i hp ob g,Su' F1 N1 C1 i hp ob g->if i=d.k then ∃F0 n0 c0,Same (Kn n0 c0) F0 F1/\n0<=N1/\c0<=C1/\Q F0 n0 c0 (Pr.fuel γ) d.k hp ob q g else d.Su F1 N1 C1 i hp ob g) \/
      (kk=1/\Pr.ph γ d.k=none/\val=.nilIface/\S'=d.S.set d.k (.thr d.self d.quit false false (some (d.hp,d.p.h,d.dn)) none)/\Su'=d.Su))
def Resum(Q:QT Pr)(F0:Emb)(n0 c0 n k hp:Nat)(ob:Ob)(q:Pr.Ph)(gq:Goroutine):Prop :=
  ∀(d:BD Γ) (s:Nat) (S:St) (F:Emb) (hs:AHeap) (Inb:Nat->Option Seat) (gs:Array Goroutine) (w:World) (sl:Option (Nat×Nat)) (T:Trace) (v:UInt64),d.Ok->d.k=k->d.hp=hp->d.steps=s+1->ob=.wp d.wself s d.ask d.grant d.quit->S[hp]?=some ob->d.S=cntS S hp d.wself d.steps d.ask d.grant d.quit ->
    Standing d.p hok d.Su S F (.run [] [] hs S) Inb gs w T->gs[d.p.h]?=some (gq.finishComm Try.prog #[rcase d.grant (.int .u64 0),rcase d.quit (.agg #[])] .select 0 (.int .u64 (v.toNat:Int)) true) ->
    Same (Kn n0 c0) F0 F->n0<=hs.next->c0<=S.length->Pr.Run k q v d.γ hs d.S->Pr.fuel d.γ<n->Reach Try.prog (crowd gs w sl) T (Came hok Pr Q d)
def BSusp:QT Pr:=fun F0 n0 c0 n k hp ob q g=>∃Q:QT Pr,Q F0 n0 c0 n k hp ob q g/\∀F0 n0 c0 n k hp ob q g,Q F0 n0 c0 n k hp ob q g->Resum hok Pr Q F0 n0 c0 n k hp ob q g/\zp2 F0 c0 hp g
variable {Pr}
theorem Came.mono{Q Q':QT Pr}(h:∀F0 n0 c0 n k hp ob q g,Q F0 n0 c0 n k hp ob q g->Q' F0 n0 c0 n k hp ob q g){d:BD Γ}{T:Trace}(H:Came hok Pr Q d m T):Came hok Pr Q' d m T:=by
  obtain⟨gs,w,sl,F,hs,γ,kk,val,Inb,S',Su',Iv',a1,a2,a3,a4,a5,a6,a7,a8,a9,a10,a11,a12,a13,a13b,a14,a15⟩:=H;refine⟨gs,w,sl,F,hs,γ,kk,val,Inb,S',Su',Iv',a1,a2,a3,a4,a5,a6,a7,a8,a9,a10,a11,a12,a13,a13b,a14,?_⟩;rcases a15 with⟨b1,q,b2,b3,b4,b5⟩|b
  . refine .inl ⟨b1,q,b2,b3,b4,fun F1 N1 C1 i hp ob g hs=>?_⟩;have:=b5 F1 N1 C1 i hp ob g hs;split at this
    . rename_i e;rw[if_pos e];obtain⟨F0,n0,c0,c1,c2,c3,c4⟩:=this;exact⟨F0,n0,c0,c1,c2,c3,h _ _ _ _ _ _ _ _ _ c4⟩
    . rename_i e;rw[if_neg e];exact this
  . exact .inr b
theorem Reach.mono{P:Program}{t:Trace}{Q Q':Machine->Trace->Prop}(h:Reach P m t Q)(hq:∀m t,Q m t->Q' m t):Reach P m t Q':=h.bind fun m' t' h'=>.here (hq _ _ h')
theorem Resum.mono{Q Q':QT Pr}(h:∀F0 n0 c0 n k hp ob q g,Q F0 n0 c0 n k hp ob q g->Q' F0 n0 c0 n k hp ob q g){n0 c0 n k hp:Nat}{q:Pr.Ph}(H:Resum hok Pr Q F0 n0 c0 n k hp ob q g):Resum hok Pr Q' F0 n0 c0 n k hp ob q g :=
  fun d s S F hs Inb gs w sl T v h1 h2 h3 h4 h5 h6 h7 h8 h9 h10 h11 h12 h13 h14=>(H d s S F hs Inb gs w sl T v h1 h2 h3 h4 h5 h6 h7 h8 h9 h10 h11 h12 h13 h14).mono fun _ _=>Came.mono hok h
theorem BSusp.unfold{n0 c0 n k hp:Nat}{q:Pr.Ph}(H:BSusp hok Pr F0 n0 c0 n k hp ob q g):Resum hok Pr (BSusp hok Pr) F0 n0 c0 n k hp ob q g/\zp2 F0 c0 hp g:=by
  obtain⟨Q,h1,h2⟩:=H;exact⟨Resum.mono hok (fun F0 n0 c0 n k hp ob q g hq=>⟨Q,hq,h2⟩) (h2 _ _ _ _ _ _ _ _ _ h1).1,(h2 _ _ _ _ _ _ _ _ _ h1).2⟩
theorem BSusp.fold{n0 c0 n k hp:Nat}{q:Pr.Ph}(H:Resum hok Pr (BSusp hok Pr) F0 n0 c0 n k hp ob q g)(hG:zp2 F0 c0 hp g):BSusp hok Pr F0 n0 c0 n k hp ob q g :=
  ⟨fun F0 n0 c0 n k hp ob q g=>Resum hok Pr (BSusp hok Pr) F0 n0 c0 n k hp ob q g/\zp2 F0 c0 hp g,⟨H,hG⟩,fun F0 n0 c0 n k hp ob q g hq=>⟨Resum.mono hok (fun F0 n0 c0 n k hp ob q g hb=>BSusp.unfold hok hb) hq.1,hq.2⟩⟩
end
theorem BT.soft{WB:Nat->Prop}:zqQ BT WB:=⟨fun _ _ _ _ _ h=>h.elim,fun _ _ _ _ _ _ _=>trivial⟩
variable {hs:AHeap}
theorem zpE{Ft:Emb}{todo:List Item}{tmps:List Value}{h:AHeap}{w:World}(hH:Holds Ft h w)(hv:∀v∈tmps,Stab (Kn h.next 0) Ft v)(hc:∀n b,h.get n=some b->∀v∈b.cells,Stab (Kn h.next 0) Ft v)(hl:h.Low)(hV:h.next<=VB):RInv BT Ft (.run todo tmps h ()) w:=by
  refine⟨⟨hH,trivial,hv,hc,fun n b hb=>?_,fun n h1 h2=>?_,fun n hn=>?_,Kept.refl _ _,fun _ _ _ _ _=>trivial,fun _ _ _=>trivial,fun _ _ _ z=>z⟩,hV⟩
  . have:=hl n b hb;have hV:h.next<=VB:=hV;exact⟨.inl this,by omega⟩
  . have h2:n<VB+0:=h2;omega
  . have hV:h.next<=VB:=hV;rcases hn with hn|⟨_,hn⟩
    . have hn:n<h.next:=hn;show n<VB+0;omega
    . exact hn
variable {n:Int}{cs:List Frame}{sl:Option (Nat × Nat)}{ab:Nat × Nat}
section
variable {p:Par}{Su:SuT}{S0:St}{F F' Ft:Emb}{c:Conf St}{Inb:Nat->Option Seat}{gs gs':Array Goroutine}{w w':World}{T T':Trace}
variable (hok:∀ mn OB WB,zat mn OB WB)
theorem zkC(hSu:zcR Su){fn:Func}{A:Conf Unit->Prop}{todo:List Item}{tmps:List Value}{ht:AHeap}{b:Frame}(G:Goes BT fn A (.run todo tmps ht ()))(hb:Try.prog.funcs[b.fn]?=some fn)(hk:b.kind=.normal)(H:Standing p hok Su S0 F c Inb gs w T)(hg:gs[p.h]?=some g)(hS:g=qa (b.at (actF Ft tmps) todo) cs)(hH:Holds Ft ht w)(hv:∀v∈tmps,Stab (Kn ht.next 0) Ft v)(hc:∀n b,ht.get n=some b->∀v∈b.cells,Stab (Kn ht.next 0) Ft v)(hl:ht.Low)(hV:ht.next<=VB)(hro:∀n r,ht.get n=some r->r.ro=true)(hov:∀n r,ht.get n=some r->p.h≠0->¬p.OB (Ft.blk n)):
    Reach Try.prog (crowd gs w sl) T fun m' T'=>∃gs' g' w' sl' c' Ft',m'=crowd gs' w' sl'/\gs'[p.h]?=some g'/\A c'/\zhm Try.prog p.OB p.WB p.h Ft' b cs c' w' g'/\Standing p hok Su S0 F c Inb gs' w' T'/\Same (Kn ht.next 0) Ft Ft'/\Holds Ft' (heap c') w'/\(∀x,x<w.heap.size->¬ (p.OB x/\p.h≠0)->w'.heap[x]?=w.heap[x]?)/\w.heap.size<=w'.heap.size:=by
  have hcm:=H.com;obtain⟨B,Mem,q,R,hM0,hMh⟩:=hcm.ring;refine(ziq BT.soft G hb hk R hg hS (zpE hH hv hc hl hV) (fun x hx h0 hvx=>?_) (fun x hx _=>by obtain⟨cc,el,h1,h2⟩:=H.wrow x hx;exact⟨cc,el,_,h1,h2⟩) (fun n r hr _=>hro n r hr) hcm.tab.olow (fun x hx=>by obtain⟨_,_,h1,_⟩:=H.wrow x hx;exact zab h1)).bind fun m' T'=>?_
  . rcases hvx with⟨n,r,hr,rfl⟩|hf
    . exact hov n r hr h0 hx
    . exact hf
  rintro⟨gs',g',w',sl',q',B',c',Ft',rfl,k1,k2,k3,R'⟩;have hkeep:∀x,x<w.heap.size->¬ (p.OB x/\p.h≠0)->w'.heap[x]?=w.heap[x]?:=fun x hx hO=>k3.keep x hx (fun z=>by
    rcases z with⟨n,r,hr,hz,_⟩|hf
    . have:=hro n r hr;rw[hz]at this;cases this
    . exact hf) hO
  exact .here ⟨gs',g',w',sl',c',Ft',rfl,k2,k3.done,k3.stands,H.grown hok hSu hkeep k3.size k1 ⟨B',Mem,q',R',hM0,hMh⟩,k3.same,k3.inv.1.holds,hkeep,k3.size⟩
def embW(wb:Nat)(told:Option Addr)(ab:Nat×Nat):Emb:=⟨fun n=>if n=0 then wb else if n=1 then(told.map (·.block)).getD 0 else ab.1,fun n=>if n=2 then ab.2 else 0,fun _=>0⟩
def zhO:Option Addr->Value
  | none=>.pointer none
  | some a=>.pointer (some ⟨1,a.off,a.spot⟩)
theorem zoZ(wb:Nat)(ab:Nat×Nat)(told:Option Addr):ren (embW wb told ab) (zhO told)=.pointer told:=by
  cases told with
  | none=>simp[zhO]
  | some a=>simp[zhO,adr,embW]
theorem zlR{Ft:Emb}{n:Nat}{o:Nat}{sp}(h:n<N):Stab (Kn N C) Ft (.pointer (some ⟨n,o,sp⟩)):=fun F' hs=>by
  obtain⟨h1,h2,_⟩:=hs n (.inl h);simp[adr,h1,h2]
theorem zfp{K:Nat->Prop}{Ft:Emb}{c:Option Nat}:Stab K Ft (.chan c):=fun F' _=>by simp[ren]
theorem znu{Ft:Emb}{told:Option Addr}(h:1<N):Stab (Kn N C) Ft (zhO told):=by
  cases told with
  | none=>exact Stab.plain rfl
  | some a=>exact zlR h
theorem zd1(F:Emb)(c:Option Nat):ren F (.chan c)=.chan c:=by simp[ren]
theorem zjk{ask grant quit steps:Nat}{self:Int}{told:Option Addr}{fr:Nat×Nat}{w:World}(l:List (Option Blk))(hl:∀(i:Nat) (b:Option Blk),l[i]?=some b->b=none)(h:w.heap[wb]?=some (.cells (zdB self steps (.pointer told) ask grant quit) 58 fr)):
    Holds (embW wb told ab) (zaq (some (wpB self steps (zhO told) ask grant quit)::l)) w:=by
  have hget:∀n b,(zaq (some (wpB self steps (zhO told) ask grant quit)::l)).get n=some b->n=0/\b=wpB self steps (zhO told) ask grant quit:=fun n b hb=>by
    rw[zaN]at hb;cases n with
    | zero=>simp at hb;exact⟨rfl,hb.symm⟩
    | succ n =>
      simp only[zGs]at hb;cases hx:l[n]? with
      | none=>rw[hx]at hb;cases hb
      | some y=>rw[hx,hl n y hx]at hb;cases hb
  refine⟨fun n b hb=>?_,fun n m b c hb hc hne=>?_⟩
  . obtain⟨rfl,rfl⟩:=hget n b hb;refine⟨#[],#[],fr,?_,rfl,(fun z=>by cases z),(fun z=>by cases z),(fun s z=>by cases z)⟩
    show w.heap[wb]?=_;rw[h];simp[zdB,wpB,zoZ,chV,zd1]
  . exact absurd ((hget n b hb).1.trans (hget m c hc).1.symm) hne
theorem zpv{mn:Bool}{OB WB:Nat->Prop}{S S2:St}{k:Nat}(hm:∀(m:Nat) ws bs,S[m]?=some (Ob.mem ws bs)->S2[m]?=some (Ob.mem ws bs))(hl:S2.length=S.length)(h:obAt mn OB WB F S w k ob):obAt mn OB WB F S2 w k ob:=by
  cases ob with
  | mem=>exact h
  | port m me steps=>obtain⟨h1,ws,bs,h2⟩:=h;exact⟨h1,ws,bs,hm m ws bs h2⟩
  | thr=>intro z;obtain⟨a1,a2,a3,a4⟩:=h z;exact⟨a1,fun c hc=>by rw[hl];exact a2 c hc,fun c hc=>by rw[hl];exact a3 c hc,a4⟩
  | wp=>exact h
  | acc=>exact h
  | box=>exact h
section
variable {S:St}{hp:Nat}{wself:Int}{s s2 ask grant quit:Nat}
theorem zgV(hS:S[hp]?=some (.wp wself s ask grant quit)):(cntS S hp wself s2 ask grant quit)[hp]?=some (.wp wself s2 ask grant quit):=List.getElem?_set_self (zaG hS)
theorem zeY{k:Nat}(hk:k≠hp):(cntS S hp wself s2 ask grant quit)[k]?=S[k]?:=List.getElem?_set_ne (Ne.symm hk)
theorem zcF(hS:S[hp]?=some (.wp wself s ask grant quit)){k:Nat}{a b c d e f}:(cntS S hp wself s2 ask grant quit)[k]?=some (Ob.thr a b c d e f)↔S[k]?=some (Ob.thr a b c d e f):=by
  by_cases hk:k=hp
  . subst hk;rw[zgV hS,hS];simp
  . rw[zeY hk]
theorem zog(hS:S[hp]?=some (.wp wself s ask grant quit)){k:Nat}{a b x y z}(h:(cntS S hp wself s2 ask grant quit)[k]?=some (Ob.wp a b x y z)):∃b',S[k]?=some (Ob.wp a b' x y z):=by
  by_cases hk:k=hp
  . subst hk;rw[zgV hS]at h;cases h;exact⟨_,hS⟩
  . rw[zeY hk]at h;exact⟨_,h⟩
theorem zq4(hS:S[hp]?=some (.wp wself s ask grant quit)){k:Nat}{a b x y z}(h:S[k]?=some (Ob.wp a b x y z)):∃b',(cntS S hp wself s2 ask grant quit)[k]?=some (Ob.wp a b' x y z):=by
  by_cases hk:k=hp
  . subst hk;rw[hS]at h;cases h;exact⟨_,zgV hS⟩
  . exact⟨_,by rw[zeY hk];exact h⟩
theorem zlP(hS:S[hp]?=some (.wp wself s ask grant quit)){k sl c:Nat}(h:ChS (cntS S hp wself s2 ask grant quit) k sl c):ChS S k sl c:=by
  cases h with
  | quit h=>exact .quit ((zcF hS).1 h)
  | done h=>exact .done ((zcF hS).1 h)
  | ask h=>obtain⟨b',h⟩:=zog hS h;exact .ask h
  | grant h=>obtain⟨b',h⟩:=zog hS h;exact .grant h
theorem Com.count{gid0:Nat}{self0:Int}{closed0:Bool}{pend0:Option Nat}(hrun:p.run=some k0)(hthr:S[k0]?=some (.thr self0 quit closed0 true (some (hp,gid0,dn0)) pend0))(hS:S[hp]?=some (.wp wself s ask grant quit))(H:Com p Su S F N C Inb gs w T):Com p Su (cntS S hp wself s2 ask grant quit) F N C Inb gs w T:=by
  have t:=H.tab;refine⟨H.ring,⟨fun b=>?_,fun b=>?_,fun k s c k' s' h1 h2=>t.dist k s c k' s' (zlP hS h1) (zlP hS h2),fun k s c h=>t.far k s c (zlP hS h),t.olow,fun k a b c d e h=>t.quit k a b c d e ((zcF hS).1 h),fun k a b c d e h=>?_⟩,H.main,fun i se hi=>?_,fun k a b c d e f g h=>?_,H.n0,by simpa using H.c0⟩
  . rw[t.obs b];constructor
    . rintro⟨k,a1,a2,a3,a4,a5,a6,a7,a8⟩;exact⟨k,a1,a2,a3,a4,a5,a6,(zcF hS).2 a7,a8⟩
    . rintro⟨k,a1,a2,a3,a4,a5,a6,a7,a8⟩;exact⟨k,a1,a2,a3,a4,a5,a6,(zcF hS).1 a7,a8⟩
  . rw[t.wbs b];constructor
    . rintro⟨k,a1,a2,a3,a4,a5,a7,a8⟩;obtain⟨b',h⟩:=zq4 hS (s2:=s2) a7;exact⟨k,a1,b',a3,a4,a5,h,a8⟩
    . rintro⟨k,a1,a2,a3,a4,a5,a7,a8⟩;obtain⟨b',h⟩:=zog hS a7;exact⟨k,a1,b',a3,a4,a5,h,a8⟩
  . obtain⟨h1,hp',gid,dn,ws,st,ak,gr,h2,h3,h4,h5,h6,h7,h8,h9⟩:=t.busy k a b c d e ((zcF hS).1 h);obtain⟨b',h10⟩:=zq4 hS (s2:=s2) h3;refine⟨h1,hp',gid,dn,ws,b',ak,gr,h2,h10,h4,h5,h6,h7,h8,?_⟩;rw[zeY]
    . exact h9
    intro e;rw[e,hS]at h9;cases h9
  . obtain⟨h1,h2,h3⟩:=H.seats i se hi;refine⟨h1,h2,fun h0=>?_⟩;obtain⟨k,a1,a2,a3,a4,a5,a6,a7,a8⟩:=h3 h0;exact⟨k,a1,a2,a3,a4,a5,a6,a7,(zcF hS).2 a8⟩
  . obtain⟨h1,h2⟩:=H.waits k a b c d e f g ((zcF hS).1 h);refine⟨h1,fun hne=>?_⟩;obtain⟨ws,st,ak,gr,ab,x,y,cs,h3,h4,h5⟩:=h2 hne;refine⟨ws,st,ak,gr,ab,x,y,cs,?_,h4,h5⟩;rw[zeY]
    . exact h3
    rintro rfl;rw[hS]at h3;cases h3;have:=(t.dist _ _ _ _ _ (.quit ((zcF hS).1 h)) (.quit hthr)).1;subst this;exact hne hrun
theorem Standing.wp(H:Standing p hok Su S0 F (.run [] [] hs S) Inb gs w T)(hS:S[hp]?=some (.wp wself s ask grant quit)):p.WB (F.blk (VB+hp))/\∃told,w.heap[F.blk (VB+hp)]?=some (.cells (zdB wself s (.pointer told) ask grant quit) 58 (0,0)):=by
  have R:Rep p.mn p.OB p.WB F S w:=H.inv.1.rep;obtain⟨h1,told,fr,h2⟩:=R.at' _ _ hS;obtain⟨cc,el,h3,_⟩:=H.wrow _ h1;rw[h2]at h3;cases h3;exact⟨h1,told,h2⟩
theorem Standing.count{told:Option Addr}{gid0:Nat}{self0:Int}{closed0:Bool}{pend0:Option Nat}(hrun:p.run=some k0)(hthr:S[k0]?=some (.thr self0 quit closed0 true (some (hp,gid0,dn0)) pend0))(hSu:zcR Su)(h0:p.h≠0)(hS:S[hp]?=some (.wp wself s ask grant quit))(H:Standing p hok Su S F (.run [] [] hs S) Inb gs w T)(hw:∀x,x≠F.blk (VB+hp)->¬p.OB x->w'.heap[x]?=w.heap[x]?)(hb:w'.heap[F.blk (VB+hp)]?=some (.cells (zdB wself s2 (.pointer told) ask grant quit) 58 (0,0)))(hsz:gs'.size=gs.size)(hws:w'.heap.size=w.heap.size)(hr:∃B Mem q,RingO Try.prog p.OB p.WB B p.Iv Mem Inb p.h T' gs' w' q/\Mem 0/\Mem p.h):Standing p hok Su (cntS S hp wself s2 ask grant quit) F (.run [] [] hs (cntS S hp wself s2 ask grant quit)) Inb gs' w' T':=by
  have hlen:(cntS S hp wself s2 ask grant quit).length=S.length:=by simp
  have R:Rep p.mn p.OB p.WB F S w:=H.inv.1.rep;obtain⟨hWb,told0,hrow⟩:=H.wp hok hS;have hmn:p.mn=false:=by simp[Par.mn,h0]
  have hfp:(p.X hok).fp F S (F.blk (VB+hp)):=⟨hp,_,hS,by simp[zax]⟩
  have hblk:∀(k:Nat) ob2,(cntS S hp wself s2 ask grant quit)[k]?=some ob2->∃ob,S[k]?=some ob/\zax p.mn F k ob2=zax p.mn F k ob:=fun k ob2 hk=>by
    by_cases e:k=hp
    . subst e;rw[zgV hS]at hk;cases hk;exact⟨_,hS,rfl⟩
    . rw[zeY e]at hk;exact⟨_,hk,rfl⟩
  have hfps:∀x,fpS p.mn F (cntS S hp wself s2 ask grant quit) x->fpS p.mn F S x:=fun x ⟨k,ob2,hk,hx⟩=>by
    obtain⟨ob,h1,h2⟩:=hblk k ob2 hk;exact⟨k,ob,h1,h2▸hx⟩
  have hvis:∀x,Vis (p.X hok) F (.run [] [] hs (cntS S hp wself s2 ask grant quit)) x->Vis (p.X hok) F (.run [] [] hs S) x:=fun x hx=>hx.imp id (hfps x);have hvk:∀x,Vis (p.X hok) F (.run [] [] hs S) x->x≠F.blk (VB+hp)->w'.heap[x]?=w.heap[x]?:=fun x hx hne=>hw x hne fun z=>H.ov h0 x z hx;have hap:∀x,p.OB x->¬p.WB x:=by obtain⟨_,_,_,R,_⟩:=H.com.ring;exact R.apart
  have hch:∀c,¬p.OB c->(zbg w c->zbg w' c)/\∀cap,ChanO w c cap->ChanO w' c cap:=zei fun c hc hO=>hw c (fun e=>by obtain⟨_,_,_,_,_,_,h2⟩:=hc;rw[e,hrow]at h2;cases h2) hO
  refine⟨?_,?_,fun h0 x hx hv=>H.ov h0 x hx (hvis x hv),fun x hx=>?_,fun x hx=>?_,H.wro,H.base.move (qf hws.symm) (fun x _ hx=>hx.imp id (hfps x)) (fun _ _ h=>h) (fun x _ h1 h2 _=>hw x (fun e=>h1 (.inr (e▸hfp))) h2) (fun k s c h=>.inl (zlP hS h)),H.same.1,H.same.2.1,?_⟩
  . have h1:=(H.com.count (s2:=s2) hrun hthr hS).turn (w':=w') (gs':=gs') (T':=T') hSu (Same.refl _ _) (qc _) (qc _) H.inv.2 (qf hws.symm) hch hsz hr;show Com p Su (cntS S hp wself s2 ask grant quit) F hs.next (cntS S hp wself s2 ask grant quit).length Inb gs' w' T';rw[hlen];exact h1
  . obtain⟨I,hl⟩:=H.inv;have I:AInv (p.X hok) F w (fun _=>True) (Kn hs.next S.length) (fun v=>v∈([]:List Value)) hs S w:=I;refine⟨⟨I.holds.kept fun n r hr=>hvk _ (.inl ⟨n,r,hr,rfl⟩) fun e=>I.sep n r hr (e▸hfp),⟨fun k ob2 hk hr=>?_,fun k ob2 hk=>?_,fun k k' ob ob' hne hk hk' b hb hb'=>?_,fun k ob2 hk b hb hW=>?_,fun b hb=>by rw[hws];exact R.wlow b hb⟩,fun v hv=>(by cases hv),fun n r hr v hv=>by
      show Stab (Kn hs.next (cntS S hp wself s2 ask grant quit).length) F v;rw[hlen];exact I.hst n r hr v hv,fun n r hr=>by
      have:=I.hk n r hr;show Kn hs.next (cntS S hp wself s2 ask grant quit).length n/\_;rw[hlen];exact this,fun n h1 h2=>by
      have h2:n<VB+(cntS S hp wself s2 ask grant quit).length:=h2;exact .inr ⟨h1,h2⟩,fun n hn=>by
      have hn:Kn hs.next (cntS S hp wself s2 ask grant quit).length n:=hn;show n<VB+(cntS S hp wself s2 ask grant quit).length;rw[hlen]at hn ⊢;exact I.klim n hn,Kept.refl _ _,fun _ _ _ _ _=>trivial,fun _ _ _=>trivial,fun n r hr hf=>I.sep n r hr (hfps _ hf)⟩,hl⟩
    . by_cases e:k=hp
      . subst e;exact R.base k _ hS rfl
      . have hk:(cntS S hp wself s2 ask grant quit)[k]?=some ob2:=hk;rw[zeY e]at hk;exact R.base k _ hk hr
    . have hk:(cntS S hp wself s2 ask grant quit)[k]?=some ob2:=hk;show obAt p.mn p.OB p.WB F (cntS S hp wself s2 ask grant quit) w' k ob2;by_cases e:k=hp
      . subst e;rw[zgV hS]at hk;cases hk;exact⟨hWb,told,_,hb⟩
      . rw[zeY e]at hk;refine zpv (S:=S) (fun m ws bs hm=>?_) hlen (zdL (R.at' k _ hk) fun b hb=>hvk b (.inr ⟨k,_,hk,hb⟩) fun z=>R.apart k hp _ _ e hk hS b hb (by rw[z];simp[zax]))
        by_cases e2:m=hp
        . subst e2;rw[hS]at hm;cases hm
        . rw[zeY e2];exact hm
    . obtain⟨o1,g1,g2⟩:=hblk k ob hk;obtain⟨o2,g3,g4⟩:=hblk k' ob' hk';exact R.apart k k' o1 o2 hne g1 g3 b (g2▸hb) (g4▸hb')
    . have hk:(cntS S hp wself s2 ask grant quit)[k]?=some ob2:=hk;by_cases e:k=hp
      . subst e;rw[zgV hS]at hk;cases hk;exact⟨_,_,_,_,_,rfl⟩
      . rw[zeY e]at hk;exact R.waits k _ hk b hb hW
  . obtain⟨h1,h2,h3,h4⟩:=H.prot x hx;exact⟨by rw[hws];exact h1,fun hv=>h2 (hvis x hv),h3,(hw x (fun e=>h2 (.inr (e▸hfp))) h3).trans h4⟩
  . by_cases e:x=F.blk (VB+hp)
    . exact⟨_,_,by rw[e];exact hb,by simp[zdB]⟩
    . obtain⟨cc,el,h1,h2⟩:=H.wrow x hx;exact⟨cc,el,(hw x e fun z=>hap x z hx).trans h1,h2⟩
  . show p.CR<=(cntS S hp wself s2 ask grant quit).length;rw[hlen];exact H.same.2.2
end
end
variable {A B v:UInt64}
section
variable {p:Par}{Su:SuT}{S0:St}{F F' Ft:Emb}{c:Conf St}{Inb:Nat->Option Seat}{gs gs':Array Goroutine}{w w':World}{T T':Trace}
variable (hok:∀ mn OB WB,zat mn OB WB)
theorem zid:(zfH[0]?).bind (·.dst)=some 29:=by
  simp only[zfH,doC,cOps,cL,cR,Try.f75,qb];rfl
theorem zrs(wb:Nat)(ab:Nat×Nat)(ak qt gr:Nat)(x y v:Value)(cs:List Frame):commResult (zc5 wb ab ak qt gr x y cs).cases (zc5 wb ab ak qt gr x y cs).shape ((0:Nat):Int) v true=.tuple #[.int .i64 0,.bool true,v,.agg #[]]:=by
  simp[zc5,commResult,rcase,List.zipIdx_cons,goInt]
theorem zgD(F:Emb)(c:Nat)(n:Int)(A B:UInt64):ren F (accV c n A B)=accV c n A B:=by simp[accV]
theorem zmS(wb:Nat)(ab:Nat×Nat)(ak qt gr c:Nat)(n:Int)(A B v:UInt64)(told:Option Addr)(cs:List Frame):
    (doG wb ab ak qt gr (accV c n A B) (accV c n A B) cs).finishComm Try.prog (zc5 wb ab ak qt gr (accV c n A B) (accV c n A B) cs).cases (zc5 wb ab ak qt gr (accV c n A B) (accV c n A B) cs).shape 0 (.int .u64 (v.toNat:Int)) true =
      qa ((base 75).at (actF (embW wb told ab) (zrm c n A B v ak gr qt)) [.inRegion zfH [1,2,3],.code zef]) cs:=by
  have h2:=zrs wb ab ak qt gr (accV c n A B) (accV c n A B) (.int .u64 (v.toNat:Int)) cs;simp only[Goroutine.finishComm]at h2 ⊢;rw[show(0:Int)=((0:Nat):Int) from rfl,h2]
  simp only[doG,qa,qg,zid];congr 1;simp[actF,Act.put,zrm,embW,adr,zgD,zd1,zaW]
theorem zhG(wb:Nat)(ab:Nat×Nat)(ak qt gr c steps:Nat)(n:Int)(A B v:UInt64)(told:Option Addr):actF (embW wb told ab) (doL2 c n A B v steps ak gr qt) =
    ⟨#[pt wb,accV c n A B,undef,pt ab.1 ab.2,.int .u64 0,.int .u64 (v.toNat:Int),pt wb,pt wb,pt wb 3,.chan (some ak),accV c n A B,pt wb,pt wb,pt wb 5,.chan (some qt),.tuple #[.int .i64 0,.bool false,.agg #[]],.int .i64 0,.bool true,.bool false,undef,undef,pt wb,pt wb,pt wb 4,.chan (some gr),pt wb,pt wb,pt wb 5,.chan (some qt),.tuple #[.int .i64 0,.bool true,.int .u64 (v.toNat:Int),.agg #[]],.int .i64 0,.bool true,.bool false,.int .u64 (v.toNat:Int),pt wb,pt wb,pt wb 1,.int .i64 (wr steps),.int .i64 (wr (steps+1)),pt wb,pt wb 1,undef,undef,undef],[]⟩:=by
  simp[actF,doL2,embW,adr,zgD,zd1,zaW]
theorem zoC{OB WB:Nat->Prop}{h:Nat}{c steps:Nat}{told:Option Addr}{wself:Int}{tl:Value}(cs:List Frame)(w:World)(hW:WB wb)(hO:¬OB wb)(hr:w.heap[wb]?=some (.cells (zdB wself steps tl ak gr qt) 58 (0,0)))(hseat:∀i s,Inb i=some s->¬s.has wb):
    qv Try.prog (h==0) (Ro OB h) (DO OB WB Inb h) (fun g w'=>g=qa ((base 75).at (actF (embW wb told ab) (doL2 c n A B v steps ak gr qt)) [.inRegion zen [],.code zki,.inBlock 1]) cs/\(∀x,x≠wb->¬OB x->w'.heap[x]?=w.heap[x]?)/\w'.heap[wb]?=some (.cells (zdB wself (steps+1) tl ak gr qt) 58 (0,0))/\w'.heap.size=w.heap.size) 1
      (qa ((base 75).at (actF (embW wb told ab) (doL2 c n A B v steps ak gr qt)) [.inRegion zen [7],.code zki,.inBlock 1]) cs) w:=by
  rw[zhG];simp only[zen,zki,zef,cIn,zhS,doC,cOps,cL,cR,Try.f75,qb];refine Conc.Goes.step rfl (fun w₁ h₁=>?_);have hr1:w₁.heap[wb]?=some (.cells (zdB wself steps tl ak gr qt) 58 (0,0)):=(h₁.heap hO).trans hr;have hv3:w₁.cell? ⟨wb,1,none⟩=some (.int .i64 (wr steps)):=by simp[qk,hr1,zdB]
  have hz:w₁.frozen? ⟨wb,1,none⟩=false:=by simp[World.frozen?,hr1]
  refine goes_oper_k rfl rfl (by decide) (fun K hK'=>?_)
  go_simp
  have hset:∀x,(w₁.setCell ⟨wb,1,none⟩ (.int .i64 (wr (steps+1)))).heap[x]?=if x=wb then some (.cells (zdB wself (steps+1) tl ak gr qt) 58 (0,0)) else w₁.heap[x]?:=fun x=>by
    rw[heap_setCell];by_cases e:wb=x
    . subst e;simp[hr1,zdB]
    . rw[if_neg e,if_neg (fun z=>e z.symm)]
  refine hK' _ _ ⟨⟨fun i s x hi hs=>?_,fun a ha h3=>?_,fun h0 b hb=>?_,by simp[qo],rfl,fun e he=>?_⟩,?_⟩
  . rw[hset,if_neg];rintro rfl;exact hseat _ _ hi hs
  . obtain⟨ab',ao,asp⟩:=a;simp only at h3;by_cases e:ab'=wb
    . subst e;unfold qk;simp only[hset,if_true,hr1];split
      . rfl
      . rcases ao with _|_|ao
        . omega
        . omega
        . simp[zdB]
    . exact za5 _ _ _ (by rw[hset,if_neg e])
  . rw[hset,if_neg (fun(e:b=wb)=>hO (e▸hb))]
  . have hm:=mem_listed he;simp[go_sem,storedEv,hv3,hz]at hm;subst hm;refine .inr ⟨rfl,_,rfl,?_,fun _ z=>?_,fun z=>absurd z hO⟩
    . have:=zab hr1;simpa[qo] using this
    . have h3:3<=1:=z.2;omega
  . refine fun w2 hw2=>⟨rfl,fun x hx hOx=>?_,?_,?_⟩
    . rw[hw2.heap hOx,hset,if_neg hx];exact h₁.heap hOx
    . rw[hw2.heap hO,hset,if_pos rfl]
    . rw[hw2.size,<-h₁.size];simp[qo]
def stB(N:Nat):Value->Bool
  | .pointer (some a)=>decide (a.block<N)
  | .chan _=>true
  | v=>zac v
theorem zq1{v:Value}(h:stB N v=true):Stab (Kn N C) Ft v:=by
  unfold stB at h;split at h
  . rename_i a;obtain⟨b,o,sp⟩:=a;exact zlR (by simpa using h)
  . exact zfp
  . exact Stab.plain h
theorem ziO{l:List Value}(h:l.all (stB N)=true):∀v∈l,Stab (Kn N C) Ft v:=fun v hv=>zq1 (List.all_eq_true.1 h v hv)
theorem zc3{self:Int}{steps:Nat}{told:Option Addr}{l:List (Option Blk)}(hl:∀(i:Nat) (b:Option Blk),l[i]?=some b->b=none)(hN:1<N):∀n b,(zaq (some (wpB self steps (zhO told) ak gr qt)::l)).get n=some b->(b.ro=true/\n=0)/\∀v∈b.cells,Stab (Kn N 0) Ft v:=fun n b hb=>by
  rw[zaN]at hb;cases n with
  | zero =>
    simp at hb;subst hb;refine⟨⟨rfl,rfl⟩,fun v hv=>?_⟩;simp only[zMc,zNm,or_false]at hv;rcases hv with rfl|rfl|rfl|rfl|rfl|rfl
    . exact Stab.plain rfl
    . exact Stab.plain rfl
    . exact znu hN
    . exact zfp
    . exact zfp
    . exact zfp
  | succ n =>
    simp only[zGs]at hb;cases hx:l[n]? with
    | none=>rw[hx]at hb;cases hb
    | some y=>rw[hx,hl n y hx]at hb;cases hb
theorem zk3(hSu:zcR Su)(h0:p.h≠0){S:St}{hp:Nat}{wself:Int}{s ask grant quit:Nat}{gid0:Nat}{self0:Int}{closed0:Bool}{pend0:Option Nat}(hrun:p.run=some k0)(hthr:S[k0]?=some (.thr self0 quit closed0 true (some (hp,gid0,dn0)) pend0))(hS:S[hp]?=some (.wp wself s ask grant quit)){c0:Frame}{cs0:List Frame}(H:Standing p hok Su S F (.run [] [] hs S) Inb gs w T)(hg:gs[p.h]?=some ((doG (F.blk (VB+hp)) ab ask quit grant (accV cc n A B) (accV cc n A B) (c0::cs0)).finishComm Try.prog (zc5 (F.blk (VB+hp)) ab ask quit grant (accV cc n A B) (accV cc n A B) (c0::cs0)).cases (zc5 (F.blk (VB+hp)) ab ask quit grant (accV cc n A B) (accV cc n A B) (c0::cs0)).shape 0 (.int .u64 (v.toNat:Int)) true)):
    Reach Try.prog (crowd gs w sl) T fun m' T'=>∃gs' w' sl',m'=crowd gs' w' sl'/\gs'[p.h]?=some (qa (c0.finish (.int .u64 (v.toNat:Int))) cs0)/\Standing p hok Su (cntS S hp wself (s+1) ask grant quit) F (.run [] [] hs (cntS S hp wself (s+1) ask grant quit)) Inb gs' w' T':=by
  obtain⟨hW,told,hrow⟩:=H.wp hok hS;have hap:¬p.OB (F.blk (VB+hp)):=fun z=>by obtain⟨_,_,_,R,_⟩:=H.com.ring;exact R.apart _ z hW
  generalize hwb:F.blk (VB+hp)=wb at *;rw[zmS wb ab ask quit grant cc n A B v told]at hg;have hn2:∀(i:Nat) (b:Option Blk),([none,none]:List (Option Blk))[i]?=some b->b=none:=fun i b hb=>by
    match i,hb with
    | 0,hb=>simpa using hb.symm
    | 1,hb=>simpa using hb.symm
    | i+2,hb=>simp at hb
  have hVB:(3:Nat)<=VB:=by unfold VB;omega
  refine(zkC hok hSu (Ft:=embW wb told ab) (zqM wself s (zhO told) ask grant quit cc n A B v) (b:=base 75) Try.func75 rfl H hg rfl (zjk [none,none] hn2 hrow) (ziO (by simp[stB,zac,accV,zaa,undef])) (fun n b hb=>(zc3 hn2 (by show 1<3;omega) n b hb).2) (zbA _) hVB (fun n r hr=>(zc3 (Ft:=embW wb told ab) hn2 (N:=3) (by omega) n r hr).1.1) (fun n r hr _=>by
    obtain⟨⟨_,rfl⟩,_⟩:=zc3 (Ft:=embW wb told ab) hn2 (N:=3) (by omega) n r hr
    exact hap)).bind fun m1 T1=>?_
  rintro⟨gs1,g1,w1,sl1,c1,Ft1,rfl,k1,rfl,k2,H1,k3,_⟩;have hg1:g1=qa ((base 75).at (actF (embW wb told ab) (doL2 cc n A B v s ask grant quit)) [.inRegion zen [7],.code zki,.inBlock 1]) (c0::cs0):=by
    rw[show g1=_ from k2,zbp (K:=Kn 3 0) (F:=embW wb told ab) (ziO (by simp[stB,zac,accV,undef])) k3]
  subst hg1
  -- the count
  obtain⟨_,told1,hrow1⟩:=H1.wp hok hS;rw[hwb]at hrow1;obtain⟨B1,Mem1,q1,R1,hM01,hMh1⟩:=H1.com.ring;have hseat:∀i se,Inb i=some se->¬se.has wb:=fun i se hi hs=>by
    obtain⟨cap,k,hx⟩:=R1.chans i se wb (fun z=>z) hi hs;rw[hrow1]at hx;cases hx
  refine(zaR (sl:=sl1) 1 k1 (zoC (h:=p.h) (Inb:=Inb) (told:=told) (c0::cs0) w1 hW hap hrow1 hseat) R1).bind fun m2 T2=>?_;rintro⟨gs2,g2,w2,sl2,q2,B2,rfl,j1,j2,⟨rfl,j3,j4,j5⟩,R2⟩;have H2:Standing p hok Su (cntS S hp wself (s+1) ask grant quit) F (.run [] [] hs (cntS S hp wself (s+1) ask grant quit)) Inb gs2 w2 T2:=H1.count hok hrun hthr hSu h0 hS (by rw[hwb];exact j3) (by rw[hwb];exact j4) j1 j5 ⟨B2,Mem1,q2,R2,hM01,hMh1⟩
  -- to the return
  rw[show actF (embW wb told ab) (doL2 cc n A B v s ask grant quit)=actF (embW wb told1 ab) (doL2 cc n A B v s ask grant quit) by rw[zhG,zhG]]at j2
  refine(zkC hok hSu (sl:=sl2) (Ft:=embW wb told1 ab) (zp3 wself s (s+1) (zhO told1) ask grant quit cc n A B v) (b:=base 75) Try.func75 rfl H2 j2 rfl (zjk [none,none] hn2 j4) (ziO (by simp[stB,zac,accV,zaa,undef])) (fun n b hb=>(zc3 hn2 (by show 1<3;omega) n b hb).2) (zbA _) hVB (fun n r hr=>(zc3 (Ft:=embW wb told1 ab) hn2 (N:=3) (by omega) n r hr).1.1) (fun n r hr _=>by
    obtain⟨⟨_,rfl⟩,_⟩:=zc3 (Ft:=embW wb told1 ab) hn2 (N:=3) (by omega) n r hr
    exact hap)).bind fun m3 T3=>?_
  rintro⟨gs3,g3,w3,sl3,c3,Ft3,rfl,i1,⟨h3,rfl⟩,i2,H3,_⟩;obtain⟨fr,rfl,_,_,hl⟩:=i2;refine(zeT hok hSu (sl:=sl3) (c':=.run [] [] hs (cntS S hp wself (s+1) ask grant quit)) H3 i1 rfl (hl c0 cs0 rfl) rfl rfl (fun v hv=>by cases hv)).bind fun m4 T4=>?_
  rintro⟨gs4,w4,sl4,rfl,l1,_,H4⟩;exact .here ⟨gs4,w4,sl4,rfl,by rw[zbr]at l1;exact l1,H4⟩
end
theorem zeF{P:Program}{main:Bool}{R:World->World->Prop}{D:World->World->Array Event->Prop}{S S':Goroutine->World->Prop}(hS:∀g w,S g w->S' g w):∀{n:Nat} {g:Goroutine} {w:World},qv P main R D S n g w->qv P main R D S' n g w
  | 0,_,_,h=>fun w1 h1=>hS _ _ (h w1 h1)
  | n+1,g,w,h=>by
    rcases h with h|⟨hs,h⟩
    . exact .inl fun w1 h1=>hS _ _ (h w1 h1)
    . refine .inr ⟨hs,fun w1 h1=>?_⟩;have:=h w1 h1;cases hgo:stepG P main g w1 with
      | go g' w' es =>
        rw[hgo,goes_go]at this;rw[goes_go];exact⟨this.1,zeF hS this.2⟩
      | _=>rw[hgo]at this;exact this.elim
theorem zsr(wb:Nat)(ab:Nat×Nat)(ak qt:Nat)(x y:Value)(cs:List Frame)(main:Bool)(w:World):
    stepG Try.prog main (qa ((base 75).at ⟨doT1 wb ab ak qt x y,[]⟩ [.inRegion zdG [0,1,2,3],.code zel,.code doY]) cs) w =
      .comm (qa ((base 75).at ⟨doT1 wb ab ak qt x y,[]⟩ [.inRegion zdG [0,1,2,3],.code zel,.code doY]) cs) #[scase ak y accZ,rcase qt (.agg #[])] true .select w:=by
  simp only[zdG,zel,doY,doC,cOps,cL,cR,Try.f75,qb];rw[stepG_comm (w':=w) (cases:=#[scase ak y accZ,rcase qt (.agg #[])]) (blocking:=true) (shape:=.select) rfl rfl (by decide) (by simp[go_sem,execOp,rcase,scase,Act.eval]),listed_none (by simp[go_sem,execOp,Act.eval])]
theorem zmN:(zdG[0]?).bind (·.dst)=some 15:=by
  simp only[zdG,doC,cOps,cL,cR,Try.f75,qb];rfl
theorem zrp(wb:Nat)(ab:Nat×Nat)(ak qt:Nat)(x y:Value)(cs:List Frame):
    (qa ((base 75).at ⟨doT1 wb ab ak qt x y,[]⟩ [.inRegion zdG [0,1,2,3],.code zel,.code doY]) cs).finishComm Try.prog #[scase ak y accZ,rcase qt (.agg #[])] .select ((0:Nat):Int) undef false =
      qa ((base 75).at ⟨ztH wb ab ak qt x y,[]⟩ [.inRegion zdG [1,2,3],.code zel,.code doY]) cs:=by
  have h2:commResult #[scase ak y accZ,rcase qt (.agg #[])] .select ((0:Nat):Int) undef false=.tuple #[.int .i64 0,.bool false,.agg #[]]:=by
    simp[commResult,rcase,scase,List.zipIdx_cons,goInt]
  simp only[Goroutine.finishComm];rw[h2];simp only[qa,qg,zmN];congr 1
theorem zpU(wb:Nat)(ab:Nat×Nat)(ak qt gr:Nat)(x y:Value)(cs:List Frame)(h:gr≠qt):(zc5 wb ab ak qt gr x y cs).Wf:=by
  refine⟨fun cc h=>?_,fun k m c z z' h1 h2=>?_⟩
  . simp only[zc5,List.mem_toArray,zMc,zNm,or_false]at h;rcases h with rfl|rfl
    . exact⟨_,_,rfl⟩
    . exact⟨_,_,rfl⟩
  . rcases k with _|_|k<;>rcases m with _|_|m<;>simp[zc5,rcase]at h1 h2 ⊢<;>omega
theorem zdc{x y:Value}{c:Nat}(h:(zc5 wb ab ak qt gr x y cs).has c):c=gr\/c=qt:=by
  obtain⟨k,z,hk⟩:=h;rcases k with _|_|k<;>simp[zc5,rcase]at hk<;>omega
theorem zb4{tb dn:Nat}{c:Nat}(h:(zb1 tb wb dn ak cs).has c):c=ak\/c=dn:=by
  obtain⟨k,z,hk⟩:=h;rcases k with _|_|k<;>simp[zb1,rcase]at hk<;>omega
section
variable {p:Par}{Su:SuT}{S0:St}{F F' Ft:Emb}{c:Conf St}{Inb:Nat->Option Seat}{gs gs':Array Goroutine}{w w':World}{T T':Trace}
variable (hok:∀ mn OB WB,zat mn OB WB)
theorem zl4(h0:p.h≠0):p.X hok=XB hok p.OB p.WB:=by
  have e:p.mn=false:=by simp[Par.mn,h0]
  have h:∀(m:Bool) (hm:zat m p.OB p.WB),m=false->XF m p.OB p.WB hm=XB hok p.OB p.WB:=by
    rintro _ _ rfl;rfl
  exact h _ _ e
theorem Tab.dist'{OB WB:Nat->Prop}{n:Nat}(t:Tab OB WB S0 F n w){k s c k' s' c':Nat}(h1:ChS S0 k s c)(h2:ChS S0 k' s' c')(e:c=c'):k=k'/\s=s':=by
  subst e;exact t.dist _ _ _ _ _ h1 h2
theorem zeJ{X:Face Try.prog St}(hs:w.heap.size<=w'.heap.size)(hv:∀x,Vis X F c x->w'.heap[x]?=w.heap[x]?)(H:RInv X F c w):RInv X F c w':=by
  obtain⟨I,hl⟩:=H;exact⟨⟨I.holds.kept fun n r hr=>hv _ (.inl ⟨n,r,hr,rfl⟩),X.rep_kept _ _ _ _ I.rep hs fun b hb=>hv b (.inr hb),I.vst,I.hst,I.hk,I.hand,I.klim,Kept.refl _ _,fun _ _ _ _ _=>trivial,fun _ _ _=>trivial,I.sep⟩,hl⟩
theorem Com.apartD(H:Com p Su S0 F N C Inb gs w T){k hp dn:Nat}{self wself:Int}{quit steps ask grant:Nat}{closed:Bool}{pend:Option Nat}(hr:p.run=some k)(hthr:S0[k]?=some (.thr self quit closed true (some (hp,p.h,dn)) pend))(hwp:S0[hp]?=some (.wp wself steps ask grant quit)){tb:Nat}{cs0:List Frame}(hs0:p.seat0=some (zb1 tb wb dn ask cs0)):
    ∀i s' c,i≠p.h->Inb i=some s'->s'.has c->c≠grant/\c≠quit:=by
  intro i s' c hi hs hc;have t:=H.tab;by_cases h0:i=0
  . subst h0;rw[H.main,hs0]at hs;cases hs;rcases zb4 hc with rfl|rfl
    . exact⟨fun e=>absurd (t.dist' (.ask hwp) (.grant hwp) e).2 (by decide),fun e=>absurd (t.dist' (.ask hwp) (.quit hthr) e).2 (by decide)⟩
    . exact⟨fun e=>absurd (t.dist' (.done hthr) (.grant hwp) e).2 (by decide),fun e=>absurd (t.dist' (.done hthr) (.quit hthr) e).2 (by decide)⟩
  . obtain⟨_,_,h3⟩:=H.seats i s' hs;obtain⟨k2,a1,a2,a3,hp2,dn2,pe2,b1,b2⟩:=h3 h0;obtain⟨_,h4⟩:=H.waits k2 _ _ _ _ _ _ _ b2;obtain⟨ws2,st2,ak2,gr2,ab2,x2,y2,cs2,c1,c2,_⟩:=h4 b1;rw[c2]at hs;cases hs;have hk2:k2≠k:=fun e=>b1 (by rw[e];exact hr)
    rcases zdc hc with rfl|rfl
    . refine⟨fun e=>?_,fun e=>absurd (t.dist' (.grant c1) (.quit hthr) e).2 (by decide)⟩
      have e1:=(t.dist' (.grant c1) (.grant hwp) e).1;subst e1;rw[c1]at hwp;cases hwp;exact hk2 (t.dist _ _ _ _ _ (.quit b2) (.quit hthr)).1
    . exact⟨fun e=>absurd (t.dist' (.quit b2) (.grant hwp) e).2 (by decide),fun e=>hk2 (t.dist' (.quit b2) (.quit hthr) e).1⟩
end
section
variable {p:Par}{Su:SuT}{S0:St}{F F' Ft:Emb}{c:Conf St}{Inb:Nat->Option Seat}{gs gs':Array Goroutine}{w w':World}{T T':Trace}
variable (hok:∀ mn OB WB,zat mn OB WB)
abbrev doL0(c:Nat)(n:Int)(A B:UInt64):List Value:=[.pointer (some ⟨0,0,none⟩),accV c n A B,undef,undef,undef,undef,undef,undef,undef,undef,undef,undef,undef,undef,undef,undef,undef,undef,undef,undef,undef,undef,undef,undef,undef,undef,undef,undef,undef,undef,undef,undef,undef,undef,undef,undef,undef,undef,undef,undef,undef,undef,undef,undef]
theorem zqS{hp c:Nat}{told:Option Addr}(hb:F.base (VB+hp)=0):
    actF F (zag Try.f75 doC #[hndV hp,accV c n A B]).2=actF (embW (F.blk (VB+hp)) told ab) (doL0 c n A B):=by
  simp only[zag,Try.ntmps75];simp[actF,doL0,embW,adr,hndV,zgD,zaW,hb,List.replicate]
theorem zpp{Ft:Emb}{c:Nat}(h0:Ft.blk 0=wb)(hb:Ft.base 0=0):actF Ft (doL1 c n A B ak qt)=⟨doT1 wb (Ft.blk 2,Ft.base 2) ak qt (accV c n A B) (accV c n A B),[]⟩:=by
  simp[actF,doL1,adr,zgD,zd1,zaW,h0,hb]
theorem zsl:Try.f75.body=some doC:=rfl
variable {ops:Array Oper}{i:Nat}{rest:List Nat}{k:List Item}{tmps:List Value}{hs:AHeap}{S:St}{o:Oper}{b:Frame}{cs:List Frame}{g:Goroutine}{sl:Option (Nat × Nat)}
theorem zsF(hSu:zcR Su){hp:Nat}{wself:Int}{steps ask grant quit:Nat}(hS:S[hp]?=some (.wp wself steps ask grant quit))(ho:ops[i]?=some o)(hw:Region.wanted o (zah ops tmps)=true)(hb':o.op.operands.all zaO=true)(hca:zaJ Try.prog (evA tmps) o.op=some (75,#[hndV hp,accV cc n A B]))(hk:b.kind=.normal)(H:Standing p hok Su S0 F (.run (.inRegion ops (i::rest)::k) tmps hs S) Inb gs w T)(hg:gs[p.h]?=some g)(hgS:g=qa (b.at (actF F tmps) (.inRegion ops (i::rest)::k)) cs):
    Reach Try.prog (crowd gs w sl) T fun m' T'=>∃gs' w' sl' ab,m'=crowd gs' w' sl'/\gs'[p.h]?=some (qa ((base 75).at ⟨doT1 (F.blk (VB+hp)) ab ask quit (accV cc n A B) (accV cc n A B),[]⟩ [.inRegion zdG [0,1,2,3],.code zel,.code doY]) (b.at (actF F tmps) (.inRegion ops (i::rest)::k)::cs)) /\
      Standing p hok Su S0 F (.run [] [] hs S) Inb gs' w' T':=by
  refine(zb9 hok hSu ho hw hb' hca Try.func75 rfl zsl hk H hg hgS).bind fun m1 T1=>?_;rintro⟨gs1,w1,sl1,rfl,k1,H1⟩;have H1:Standing p hok Su S0 F (.run [] [] hs S) Inb gs1 w1 T1:=Standing.conf hok H1 rfl rfl (fun v hv=>by cases hv)
  obtain⟨hW,told,hrow⟩:=H1.wp hok hS;have R:Rep p.mn p.OB p.WB F S w1:=H1.inv.1.rep;have hap:¬p.OB (F.blk (VB+hp)):=fun z=>by obtain⟨_,_,_,R,_⟩:=H1.com.ring;exact R.apart _ z hW
  rw[zqS (told:=told) (ab:=(0,0)) (R.base _ _ hS rfl)]at k1;have hn2:∀(i:Nat) (b:Option Blk),([none]:List (Option Blk))[i]?=some b->b=none:=fun i b hb=>by
    match i,hb with
    | 0,hb=>simpa using hb.symm
    | i+1,hb=>simp at hb
  have hVB:(2:Nat)<=VB:=by unfold VB;omega
  refine(zkC hok hSu (sl:=sl1) (Ft:=embW (F.blk (VB+hp)) told (0,0)) (zpM wself steps (zhO told) ask grant quit cc n A B) (b:=base 75) Try.func75 rfl H1 k1 rfl (zjk [none] hn2 hrow) (ziO (by simp[stB,zac,accV,zaa,undef])) (fun n b hb=>(zc3 hn2 (by show 1<2;omega) n b hb).2) (zbA _) hVB (fun n r hr=>(zc3 (Ft:=embW (F.blk (VB+hp)) told (0,0)) hn2 (N:=2) (by omega) n r hr).1.1) (fun n r hr _=>by
    obtain⟨⟨_,rfl⟩,_⟩:=zc3 (Ft:=embW (F.blk (VB+hp)) told (0,0)) hn2 (N:=2) (by omega) n r hr
    exact hap)).bind fun m2 T2=>?_
  rintro⟨gs2,g2,w2,sl2,c2,Ft2,rfl,j1,rfl,j2,H2,j3,_⟩;obtain⟨e1,e2,_⟩:=j3 0 (.inl (by show 0<2;omega))
  refine .here ⟨gs2,w2,sl2,(Ft2.blk 2,Ft2.base 2),rfl,?_,H2⟩;rw[j1,show g2=_ from j2,zpp (wb:=F.blk (VB+hp)) (by rw[<-e1];rfl) (by rw[<-e2];rfl)]
end
section
variable {F:Emb}{Inb:Nat->Option Seat}{gs gs':Array Goroutine}{w w':World}{T T':Trace}
variable (hok:∀ mn OB WB,zat mn OB WB)
variable {Γ:Type}{Pr:Proto Γ}
theorem gave(d:BD Γ)(hd:d.Ok){γ:Γ}{q:Pr.Ph}(H:Standing d.p hok d.Su d.S F (.run [] [] hs d.S) Inb gs w T)(hg:gs[d.p.h]?=some (qa ((base 75).at ⟨doT1 (F.blk (VB+d.hp)) ab d.ask d.quit (accV cc n A B) (accV cc n A B),[]⟩ [.inRegion zdG [0,1,2,3],.code zel,.code doY]) cs))(hInv:Pr.Inv γ hs d.S)(hph:Pr.ph γ d.k=some q)(hacc:Pr.acc q=(cc,n,A,B))(hoth:∀i,i≠d.k->Pr.ph γ i=Pr.ph d.γ i)(hfuel:Pr.FC γ d.γ)(hQ:BSusp hok Pr F hs.next d.S.length (Pr.fuel γ) d.k d.hp (.wp d.wself d.steps d.ask d.grant d.quit) q (doG (F.blk (VB+d.hp)) ab d.ask d.quit d.grant (accV cc n A B) (accV cc n A B) cs)):
    Reach Try.prog (crowd gs w sl) T (Came hok Pr (BSusp hok Pr) d):=by
  have hc:=H.com;have t:=hc.tab;obtain⟨B0,Mem,q0,R0,hM0,hMh⟩:=hc.ring;have hthr:=hd.thr;have hwp:=hd.wp;obtain⟨_,hp',gid',dn',ws',st',ak',gr',e1,e2,cask,cgr,cdn,hgid,hgsz,hbox⟩:=t.busy _ _ _ _ _ _ hthr;cases e1;rw[hwp]at e2;cases e2;have cqt:=t.quit _ _ _ _ _ _ hthr;obtain⟨hW,told,hrow⟩:=H.wp hok hwp
  -- the embedding at the beginning
  have hFR:F.blk (VB+d.hp)=d.p.FR.blk (VB+d.hp):=((H.same.1 (VB+d.hp) (.inr ⟨by omega,by rw[hd.cr];have:=zaG hwp;omega⟩)).1).symm
  generalize hwb:F.blk (VB+d.hp)=wb at *
  -- its seat
  have fask:=t.far _ _ _ (.ask hwp);have fgr:=t.far _ _ _ (.grant hwp);have fqt:=t.far _ _ _ (.quit hthr);have hne:d.grant≠d.quit:=fun e=>absurd (t.dist' (.grant hwp) (.quit hthr) e).2 (by decide)
  have hlow:∀{x},zbg w x->x<w.heap.size:=fun {x} hx=>by obtain⟨_,_,_,_,_,_,h1⟩:=hx;exact zab h1
  have R1:RingO Try.prog d.p.OB d.p.WB (max B0 w.heap.size) d.p.Iv Mem Inb d.p.h T gs w q0:=CoF.mono (Nat.le_max_left _ _) (Nat.max_le.2 ⟨R0.lowB,qc _⟩) R0
  let sD:=zc5 wb ab d.ask d.quit d.grant (accV cc n A B) (accV cc n A B) cs
  let Inb1:Nat->Option Seat:=fun i=>if i=d.p.h then some sD else Inb i
  have R2:RingO Try.prog d.p.OB d.p.WB (max B0 w.heap.size) d.p.Iv Mem Inb1 d.p.h T gs w q0:=R1.reseat hMh sD (zpU _ _ _ _ _ _ _ _ hne)
    (fun c hcc=>by rcases zdc hcc with rfl|rfl;exact⟨_,cgr⟩;exact⟨_,cqt⟩)
    (fun c hcc=>by rcases zdc hcc with rfl|rfl;exact fgr.2.1;exact fqt.2.1)
    (fun c hcc=>by
      have:c<w.heap.size:=by rcases zdc hcc with rfl|rfl;exact hlow fgr.1;exact hlow fqt.1
      omega)
    (fun i s' c hi hs hx hcc=>by
      obtain⟨h1,h2⟩:=hc.apartD hd.run hthr hwp hd.seat i s' c hi hs hx;rcases zdc hcc with z|z
      . exact h1 z
      . exact h2 z)
  have hI0:Inb1 0=some (zb1 d.tb (d.p.FR.blk (VB+d.hp)) d.dn d.ask d.cs0):=by
    show(if 0=d.p.h then some sD else Inb 0)=_
    rw[if_neg (fun e=>hd.h0 e.symm),hc.main,hd.seat]
  have hIh:Inb1 d.p.h=some sD:=if_pos rfl;obtain⟨ka,hka⟩:=cask;have hsz0:0<gs.size:=by omega
  refine(zte (P:=Try.prog) (kh:=0) (kk:=0) (c:=d.ask) (v:=accV cc n A B) (z:=accZ) (z':=accZ) (cases:=#[scase d.ask (accV cc n A B) accZ,rcase d.quit (.agg #[])]) (shape:=.select) (fun e=>hd.h0 e.symm) hI0 rfl hMh rfl fask.2.2 (fun main w=>zsr wb ab d.ask d.quit (accV cc n A B) (accV cc n A B) cs main w) rfl (fun m c' hm hc'=>?_) (Inb':=Inb1) (fun _ _=>rfl) (.inl rfl) (nh:=61) w (fun T' w1 k1 _ hw1 _=>?_) _ (sl:=sl) false rfl hsz0 (SideD.refl w) hka hg (fun z=>by cases z) R2).mono fun m T'=>?_
  . rcases m with _|_|m
    . exact absurd rfl hm
    . simp at hc';exact⟨sD,d.quit,.agg #[],hc'.symm,hIh,⟨1,.agg #[],by simp[sD,zc5]⟩⟩
    . simp at hc'
  . rw[zrp,hIh];have hOwb:¬d.p.OB wb:=fun z=>R0.apart _ z hW;have hne2:wb≠d.ask:=fun e=>by
      rw[<-e,hrow]at hka;cases hka
    have hrow1:(w1.setChan d.ask 0 #[] false (k1+1) (k1+1) false).heap[wb]?=some (.cells (zdB d.wself d.steps (.pointer told) d.ask d.grant d.quit) 58 (0,0)):=by
      rw[qq _ _ _ _ _ _ _ (fun e=>hne2 e.symm),hw1.only wb (fun z=>hOwb z.1)];exact hrow
    refine .inl ⟨60,rfl,?_⟩;have hb0:(d.p.h==0)=false:=by simp[hd.h0]
    rw[hb0];exact zeF (fun g w h=>⟨h,by rw[hd.iv];exact fun e=>absurd e hd.h0⟩) (zs6 (x:=accV cc n A B) (y:=accV cc n A B) ⟨hW,by simp[qk,hrow1,zdB,chV],by simp[qk,hrow1,zdB,chV]⟩ (by have:=zab hrow;omega) cs)
  rintro⟨gs',gq,w1,k1,sl',q',rfl,b1,b2,b3,b4,b5,b6,R3⟩;have b3:gq=zje d.tb (d.p.FR.blk (VB+d.hp)) d.dn d.ask d.cs0:=b3;subst b3;have hX:=zl4 hok (p:=d.p) hd.h0;have b5:IvN d.p.OB d.wN 0 w1:=hd.iv▸b5;have hsz2:(w1.setChan d.ask 0 #[] false (k1+1) (k1+1) false).heap.size=w.heap.size:=by rw[<-b4.size];simp[World.setChan]
  have hset:∀x,x≠d.ask->¬d.p.OB x->(w1.setChan d.ask 0 #[] false (k1+1) (k1+1) false).heap[x]?=w.heap[x]?:=fun x hx hO=>by
    rw[qq _ _ _ _ _ _ _ (fun e=>hx e.symm),b4.only x (fun z=>hO z.1)]
  have hask:(w1.setChan d.ask 0 #[] false (k1+1) (k1+1) false).heap[d.ask]?=some (.chan 0 #[] false (k1+1) (k1+1) false):=heap_setChan_self w1 b6 _ _ _ _ _ _;have hvne:∀x,Vis (d.p.X hok) F (.run [] [] hs d.S) x->x≠d.ask:=fun x hx e=>H.chan_out hok fask.1 (e▸hx);have hvis:∀x,Vis (d.p.X hok) F (.run [] [] hs d.S) x->(w1.setChan d.ask 0 #[] false (k1+1) (k1+1) false).heap[x]?=w.heap[x]?:=fun x hx=>hset x (hvne x hx) fun z=>H.ov hd.h0 x z hx;generalize hw2:w1.setChan d.ask 0 #[] false (k1+1) (k1+1) false=w2 at *;have hap:∀x,d.p.OB x->¬d.p.WB x:=R0.apart;have hch:∀c,¬d.p.OB c->(zbg w c->zbg w2 c)/\∀cap,ChanO w c cap->ChanO w2 c cap:=fun c hO=>by
    by_cases e:c=d.ask
    . subst e;refine⟨fun _=>⟨_,_,_,_,_,_,hask⟩,fun cap h=>?_⟩;obtain⟨m,hm⟩:=h;rw[hka]at hm;cases hm;exact⟨_,hask⟩
    . refine⟨fun h=>?_,fun cap h=>?_⟩
      . obtain⟨a1,a2,a3,a4,a5,a6,a7⟩:=h;exact⟨a1,a2,a3,a4,a5,a6,by rw[hset c e hO];exact a7⟩
      . obtain⟨m,hm⟩:=h;exact⟨m,by rw[hset c e hO];exact hm⟩
  refine⟨gs',w2,sl',F,hs,γ,0,accV cc n A B,fun i=>if i=0 then none else Inb1 i,d.S,fun F1 N1 C1 i hp ob g=>if i=d.k then ∃F0 n0 c0,Same (Kn n0 c0) F0 F1/\n0<=N1/\c0<=C1/\BSusp hok Pr F0 n0 c0 (Pr.fuel γ) d.k hp ob q g else d.Su F1 N1 C1 i hp ob g,d.p.Iv,rfl,b2,hoth,hfuel,hInv,H.same.1,H.same.2.1,fun b hb=>?_,hX▸zeJ (qf hsz2.symm) hvis H.inv,fun x hx=>hX▸H.ov hd.h0 x hx,fun x hx=>?_,fun x hx=>?_,H.wro,H.base.move (qf hsz2.symm) (fun x _ hx=>hX.symm▸hx) (fun _ _ h=>h) (fun x _ _ h2 h3=>hset x (h3 _ _ _ (.ask hwp)) h2) (fun _ _ _ h=>.inl h),⟨⟨_,_,_,R3.unseat,⟨hM0,.inr rfl⟩,⟨hM0,.inr rfl⟩⟩,?_,if_pos rfl,fun i s hi=>?_,fun k self quit closed hp gid dn pend hq=>?_,hc.n0,qc _⟩,.inl ⟨rfl,q,hph,?_,rfl,fun F1 N1 C1 i hp ob g hg=>?_⟩⟩
  . have hne3:b≠d.ask:=fun e=>fask.2.1 (e▸hb);rw[<-hw2,qq _ _ _ _ _ _ _ (fun e=>hne3 e.symm)];exact b5 rfl b hb
  . obtain⟨h1,h2,h3,h4⟩:=H.prot x hx;obtain⟨cc',el,fr,h5⟩:=hd.px x hx;rw[hsz2];refine⟨h1,hX▸h2,h3,(hset x (fun e=>?_) h3).trans h4⟩;rw[e]at h4 h5;rw[h5,hka]at h4;cases h4
  . obtain⟨cc',el,h1,h2⟩:=H.wrow x hx;exact⟨cc',el,(hset x (fun e=>by rw[e,hka]at h1;cases h1) fun z=>hap x z hx).trans h1,h2⟩
  . rw[b1];exact t.turn (p:=d.p) (qc _) (Same.refl (Kn 0 d.S.length) F) (qf hsz2.symm) hch
  . show i≠0/\i<gs'.size/\_;by_cases h0:i=0
    . simp[h0]at hi
    rw[if_neg h0]at hi;refine⟨h0,?_,fun _=>?_⟩
    . rw[b1];by_cases e:i=d.p.h
      . rw[e];exact hgsz
      . rw[show Inb1 i=Inb i from if_neg e]at hi
        exact(hc.seats i s hi).2.1
    . by_cases e:i=d.p.h
      . exact⟨d.k,_,_,_,_,_,_,by simp,by rw[e];exact hthr⟩
      . rw[show Inb1 i=Inb i from if_neg e]at hi
        obtain⟨k,c1,c2,c3,c4,c5,c6,_,c8⟩:=(hc.seats i s hi).2.2 h0;exact⟨k,c1,c2,c3,c4,c5,c6,by simp,c8⟩
  . refine⟨fun e=>(by cases e),fun _=>?_⟩
    by_cases e:k=d.k
    . subst e;rw[hthr]at hq;cases hq;refine⟨d.wself,d.steps,d.ask,d.grant,ab,accV cc n A B,accV cc n A B,cs,hwp,?_,?_⟩
      . show(if d.p.h=0 then none else Inb1 d.p.h)=_
        rw[if_neg hd.h0,hIh,hwb]
      . show if d.k=d.k then _ else _
        rw[if_pos rfl,hwb];exact⟨F,hs.next,d.S.length,Same.refl _ _,qc _,qc _,hQ⟩
    . obtain⟨ws,st,ak,gr,ab',x,y,cs',h3,h4,h5⟩:=(hc.waits k self quit closed hp gid dn pend hq).2 (by rw[hd.run];simpa using fun z=>e z.symm)
      obtain⟨h6,h7,h8⟩:=hc.seats gid _ h4;obtain⟨hp3,gid3,dn3,_,_,_,_,z1,_,_,_,_,z2,_⟩:=(t.busy _ _ _ _ _ _ hq).2;cases z1;refine⟨ws,st,ak,gr,ab',x,y,cs',h3,?_,?_⟩
      . show(if gid=0 then none else Inb1 gid)=_
        rw[if_neg (by omega),show Inb1 gid=Inb gid from if_neg h6,h4]
      . show if k=d.k then _ else _
        rw[if_neg e];exact h5
  . simp[accQ,hacc]
  . exact hg
end
section
variable (hok:∀ mn OB WB,zat mn OB WB)
variable {Γ:Type}(Pr:Proto Γ)
def ClB(k hp bx:Nat)(d:BD Γ)(γ:Γ×St)(p:Par):Prop:=p=d.p/\γ=(d.γ,d.S)/\d.Ok/\d.k=k/\d.hp=hp/\d.p.FR.blk (VB+(hp+1))=bx
def SuB(d:BD Γ)(_:Γ):SuT:=d.Su
def FinB(d:BD Γ):Machine->Trace->Prop:=Came hok Pr (BSusp hok Pr) d
def SpB(k hp:Nat):SpT Γ:=fun f args hs S γ Q=>∃(γ1:Γ) (q:Pr.Ph) (wself:Int) (steps ask grant quit:Nat),f=75/\args=#[hndV hp,accQ (Pr.acc q)]/\S=γ.2/\S[hp]?=some (.wp wself steps ask grant quit)/\Pr.Inv γ1 hs S/\Pr.ph γ1 k=some q/\(∀i,i≠k->Pr.ph γ1 i=Pr.ph γ.1 i)/\Pr.FC γ1 γ.1 /\
  ∀(v:UInt64) (h1:AHeap) (γ2:Γ) (S1:St),Pr.Run k q v γ2 h1 S1->Pr.fuel γ2<Pr.fuel γ1->hs.next<=h1.next->S.length<=S1.length->S1[hp]?=some (.wp wself (steps+1) ask grant quit)->Q (.int .u64 (v.toNat:Int)) h1 S1 (γ2,S1)
theorem cnt_len{S:St}{hp:Nat}{wself:Int}{s2 ask grant quit:Nat}:(cntS S hp wself s2 ask grant quit).length=S.length:=by simp
theorem zsN(k hp bx:Nat){fv:Value}{wbr:Nat}:SpOK hok (ClB k hp bx) SuB (FinB hok Pr) (zjY (zcm fv wbr dn0 bx [3])) (SpB Pr k hp):=by
  intro f args hs S γ Q hsp b cs F0 N0 C0 fn ops i rest kk tmps o hfn hkd hsk ho hw hb' hca K d p Inb F gs w sl T g hC H hg hgS hF hN hC0;obtain⟨γ1,q,wself,steps,ask,grant,quit,rfl,rfl,hSγ,hwp,hInv,hph,hoth,hfuel,hQ⟩:=hsp;obtain⟨rfl,hγ,hd,rfl,rfl,hbx⟩:=hC;subst hγ;have hSγ:S=d.S:=hSγ;subst hSγ;have hwp':=hd.wp;rw[hwp]at hwp';cases hwp';have H:Standing d.p hok d.Su d.S F (.run (.inRegion ops (i::rest)::kk) tmps hs d.S) Inb gs w T:=H;rcases hacc:Pr.acc q with⟨c,n,A,B⟩
  have hca:zaJ Try.prog (evA tmps) o.op=some (75,#[hndV d.hp,accV c n A B]):=by rw[hca,hacc];rfl
  refine(zsF hok hd.mono hwp ho hw hb' hca hkd H hg hgS).bind fun m1 T1=>?_;rintro⟨gs1,w1,sl1,ab,rfl,k1,H1⟩;have hbl:d.hp+1<d.S.length:=by
    obtain⟨_,hp',gid',dn',_,_,_,_,e1,_,_,_,_,_,_,hbox⟩:=H.com.tab.busy _ _ _ _ _ _ hd.thr;cases e1;exact zaG hbox
  have hbxF:F.blk (VB+(d.hp+1))=bx:=by
    rw[<-hbx];exact((H.same.1 (VB+(d.hp+1)) (.inr ⟨by omega,by rw[hd.cr];omega⟩)).1).symm
  refine gave hok d hd H1 k1 hInv hph hacc hoth hfuel (BSusp.fold hok ?_ ?_)
  rotate_left
  . exact⟨hbl,_,_,_,_,_,_,_,_,fv,wbr,dn0,rfl,.frame hfn rfl rfl (hbxF▸hsk)⟩
  intro d2 s2 S2 F2 hs2 Inb2 gs2 w2 sl2 T2 v hd2 hk2 hhp2 hst2 hob hS2 hdS H2 hg2 hsame hn hc hRun hfu;injection hob with e1 e2 e3 e4 e5
  have hstab:∀u∈tmps,Stab (Kn hs.next d.S.length) F u:=fun u hu=>H.inv.1.vst u hu;have hthr2:S2[d2.k]?=some (.thr d2.self d2.quit false true (some (d2.hp,d2.p.h,d2.dn)) d2.pend):=by
    have:=hd2.thr;rw[hdS]at this;exact(zcF (s:=s2) (by rw[hS2,e1,e2,e3,e4,e5])).1 this
  have hblk:F2.blk (VB+d.hp)=F.blk (VB+d.hp):=((hsame (VB+d.hp) (.inr ⟨by omega,by have:=zaG hwp;omega⟩)).1).symm
  refine(zk3 hok (sl:=sl2) (c0:=b.at (actF F tmps) (.inRegion ops (i::rest)::kk)) (cs0:=cs) (cc:=c) (ab:=ab) (n:=n) (A:=A) (B:=B) (v:=v) (hp:=d.hp) (wself:=d2.wself) (s:=s2) (ask:=d2.ask) (grant:=d2.grant) (quit:=d2.quit) hd2.mono hd2.h0 hd2.run (by rw[<-hhp2];exact hthr2) (by rw[hS2,e1,e2,e3,e4,e5]) H2 ?_).bind fun m3 T3=>?_
  . rw[hblk,<-e3,<-e4,<-e5];rw[<-e4,<-e5]at hg2;exact hg2
  rintro⟨gs3,w3,sl3,rfl,k3,H3⟩;rw[<-hst2,<-hdS]at H3;have hlen:S2.length=d2.S.length:=by rw[hdS,cnt_len]
  have hfin:(b.at (actF F tmps) (.inRegion ops (i::rest)::kk)).finish (.int .u64 (v.toNat:Int))=b.at (actF F2 (putL o.dst (.int .u64 (v.toNat:Int)) tmps)) (.inRegion ops rest::kk):=by
    rw[qg,ho];show b.at ((actF F tmps).put o.dst (.int .u64 (v.toNat:Int))) (.inRegion ops rest::kk)=_;rw[<-zbp hstab hsame,<-zc1,zbr]
  rw[hfin]at k3;have hwp2:d2.S[d.hp]?=some (.wp d.wself (d.steps+1) d.ask d.grant d.quit):=by
    have:=hd2.wp;rw[hhp2,hst2,<-e1,<-e2,<-e3,<-e4,<-e5]at this;exact this
  have hbx2:d2.p.FR.blk (VB+(d.hp+1))=bx:=by
    rw[<-hbxF,((hsame (VB+(d.hp+1)) (.inr ⟨by omega,by omega⟩)).1)]
    exact(H2.same.1 (VB+(d.hp+1)) (.inr ⟨by omega,by rw[hd2.cr,<-hlen];omega⟩)).1
  have hKK:∀x,Kn hs.next d.S.length x->Kn hs2.next d2.S.length x:=fun x hx=>hx.mono hn (by rw[<-hlen];exact hc)
  refine K _ hs2 d2.S (d2.γ,d2.S) (hQ v hs2 d2.γ d2.S hRun hfu hn (by rw[<-hlen];exact hc) hwp2) d2 d2.p Inb2 F2 gs3 w3 sl3 T3 _ ⟨rfl,rfl,hd2,hk2,hhp2,hbx2⟩ (Standing.conf hok H3 rfl rfl (zcs (fun u hu=>(hstab u hu).move hsame hKK) (Stab.plain rfl) o.dst)) k3 rfl (hF.trans (hsame.mono fun x hx=>hx.mono hN hC0)) (qe hN hn) (qe hC0 (by show d.S.length<=d2.S.length;rw[<-hlen];exact hc))
end
end Go.Proofs.Ytpkkfkebnhgaiaa
