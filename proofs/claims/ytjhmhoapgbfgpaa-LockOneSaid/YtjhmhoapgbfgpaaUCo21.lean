/-
  Memories, ports and threads in a world: the faces of goroutine 0 (mn = true), and of a body.
  Condition: each call that is known does what is said of it (zau).
-/
import Derived.Test.YtjhmhoapgbfgpaaUCo10
import Derived.Test.YtjhmhoapgbfgpaaUAx1
import Derived.Conc.TokenWords
import Derived.Test.YtjhmhoapgbfgpaaUQuick
import Derived.Deep.Slices
import Derived.Deep.Fields
import Derived.ChangeSame
set_option maxHeartbeats 40000000
set_option linter.unusedVariables false
set_option linter.unusedSimpArgs false
namespace Go.Proofs.Ytjhmhoapgbfgpaa
open Go Go.Conc
open Go.ConcN (sumTo upd sumTo_upd upd_ne upd_same)
section
variable {P:Program} {σ:Type} {X:Face P σ} {OB WB:Nat->Prop} {B:Nat} {Iv:Nat->World->Prop} {Mem:Nat->Prop} {Inb:Nat->Option Seat} {T:Trace} {gs:Array Goroutine} {w:World} {q:Nat->Nat} {h:Nat}
structure zqF (X:Face P σ) (WB:Nat->Prop):Prop where
  cell:∀ F S w b,X.rep F S w->X.fp F S b->∃ c el fr,w.heap[b]?=some (.cells c el fr)
  soft:∀ F S w w',X.rep F S w->w.heap.size<=w'.heap.size->(∀ b,X.fp F S b->∃ c el fr fr',w.heap[b]?=some (.cells c el fr)/\w'.heap[b]?=some (.cells c el fr')/\(WB b\/fr'=fr))->X.rep F S w'
def Vis (X:Face P σ) (F:Emb) (c:Conf σ) (b:Nat):Prop:=(∃ n r,(heap c).get n=some r/\F.blk n=b)\/X.fp F (st c) b
def zhJ (X:Face P σ) (F:Emb) (c:Conf σ) (b:Nat):Prop:=(∃ n r,(heap c).get n=some r/\r.ro=false/\F.blk n=b)\/X.fp F (st c) b
def RInv (X:Face P σ) (F:Emb) (c:Conf σ) (w:World):Prop:=InvC X F w (fun _=>True) c w
open Classical in
noncomputable def zeQ (BB RR:Nat->Prop) (w:World):World:={ w with heap:=w.heap.mapIdx fun b o=>if BB b then zrl else if RR b then (match o with|.cells c el _=>.cells c el (0,c.size)|o=>o) else o }
theorem zfi {BB RR:Nat->Prop} (w:World) (b:Nat):(zeQ BB RR w).heap[b]?=(w.heap[b]?).map fun o=>open Classical in if BB b then zrl else if RR b then (match o with|.cells c el _=>.cells c el (0,c.size)|o=>o) else o:=by
  simp [zeQ,Array.getElem?_mapIdx]
theorem zlN {BB RR:Nat->Prop} {w:World} (hlow:∀ b,BB b\/RR b->b<w.heap.size) (hv:∀ b o,¬ BB b->w.heap[b]?=some o->zil o=false) (hR:∀ b,RR b->¬ BB b->∃ c el fr,w.heap[b]?=some (.cells c el fr)):Shade BB RR (zeQ BB RR w) w:=by
  have hsz:(zeQ BB RR w).heap.size=w.heap.size:=by simp [zeQ]
  refine⟨hsz,hlow,fun b h1 h2=>?_,fun b h1=>?_,fun b h1 h2=>?_,fun b o h1 h2=>?_⟩
  . rw [zfi];simp [h1,h2]
  . rw [zfi,Array.getElem?_eq_getElem (hlow b (.inl h1))];simp [h1]
  . obtain⟨c,el,fr,hc⟩:=hR b h1 h2;exact⟨c,el,fr,hc,by rw [zfi,hc];simp [h1,h2]⟩
  . rw [zfi] at h2;obtain⟨o',ho',rfl⟩:=Option.map_eq_some_iff.1 h2;have:=hv b o' h1 ho';simp only [h1,if_false];split
    . cases o'<;>first|rfl|exact this
    . exact this
theorem ziR {BB RR:Nat->Prop} {w0 w:World} (S:Shade BB RR w0 w) {fr:Frame} {v:Value} (hl:fr.leaving P w0 (.returned v)):fr.leaving P w (.returned v):=by
  obtain⟨h1,h2,h3,fn,h4,h5⟩:=hl;refine⟨h1,h2,h3,fn,h4,?_⟩;have T:=zez (P:=P) fn fr.tmps;have h6:(results fn fr.tmps).runT P w0 #[]=(.ok v w0,(results fn fr.tmps).events P w0 #[]):=by rw [Sem.runT_eq,h5]
  obtain⟨w',h7,S',hsz,hfr,hws,hdr,_⟩:=zlp P _ T S h6 (fun i q hi=>by omega)
  have hh:w'.heap=w.heap:=Array.ext_getElem? fun b=>by
    by_cases hb:BB b\/RR b
    . exact hfr b hb
    . rw [<-S.same b (fun z=>hb (.inl z)) (fun z=>hb (.inr z)),<-S'.same b (fun z=>hb (.inl z)) (fun z=>hb (.inr z))]
  have hw:w'=w:=by
    rw [hws,hh,show w'.drawn=w.drawn by omega]
  have h8:=h7;rw [Sem.runT_eq,Prod.mk.injEq] at h8;rw [h8.1,hw]
def EvO (OB WB:Nat->Prop) (h:Nat) (w:World) (e:Event):Prop:=e=⟨.mark .noRoom,false,true⟩\/(e.sync=false/\∃ a:Addr,e.loc=.cell a/\a.block<w.heap.size/\(e.write=true->¬ (WB a.block/\3<=a.off))/\(OB a.block->h=0))
def zgN (P:Program) (OB WB:Nat->Prop) (h:Nat) (F:Emb) (b:Frame) (cs:List Frame):Conf σ->World->Goroutine->Prop
  | .run todo tmps _ _,_,g=>g=Go.Conc.G (b.at (actF F tmps) todo) cs
  | .done v _ _,w,g=>∃ fr,g=Go.Conc.G fr cs/\fr.fn=b.fn/\(∀ w1,Ro OB h w w1->fr.leaving P w1 (.returned (ren F v))) /\
      ∀ c0 cs0,cs=c0::cs0->∀ w1,Ro OB h w w1->∃ es,stepG P (h==0) g w1=.go (Go.Conc.G (c0.finish (ren F v)) cs0) w1 es/\∀ e∈es,EvO OB WB h w1 e
theorem DO.quiet {Inb:Nat->Option Seat} {w:World} {es:Array Event} (h':∀ e∈es,EvO OB WB h w e):DO OB WB Inb h w w es:=⟨fun _ _ _ _ _=>rfl,fun _ _ _=>rfl,fun _ _ _=>rfl,Nat.le_refl _,rfl,h'⟩
structure zuH (X:Face P σ) (OB WB:Nat->Prop) (h:Nat) (A:Conf σ->Prop) (b:Frame) (cs:List Frame) (c:Conf σ) (F:Emb) (w:World) (c':Conf σ) (F':Emb) (w':World) (g':Goroutine):Prop where
  done:A c'
  stands:zgN P OB WB h F' b cs c' w' g'
  inv:RInv X F' c' w'
  same:Same (Kn (heap c).next (X.cnt (st c))) F F'
  cnt:X.cnt (st c)<=X.cnt (st c')
  next:(heap c).next<=(heap c').next
  keep:∀ x,x<w.heap.size->¬ zhJ X F c x->¬ (OB x/\h≠0)->w'.heap[x]?=w.heap[x]?
  size:w.heap.size<=w'.heap.size
  os:w'.os=w.os
  tape:w'.tape=w.tape
  output:w'.output=w.output
  vis:∀ x,Vis X F' c' x->x<w.heap.size->Vis X F c x
  keepW:∀ x,WB x->w'.heap[x]?=w.heap[x]?
  wro:∀ n r,(heap c').get n=some r->WB (F'.blk n)->r.ro=true
  turns:∀ x,zhJ X F' c' x->x<w.heap.size->zhJ X F c x
theorem zds {F:Emb} {c:Conf σ} (hX:zqF X WB) (I:RInv X F c w) {b:Nat} (hv:Vis X F c b):∃ cc el fr,w.heap[b]?=some (.cells cc el fr):=by
  rcases hv with ⟨n,r,hr,rfl⟩|hf
  . obtain⟨pre,post,fr,h1,_⟩:=I.1.holds.row n r hr;exact⟨_,_,_,h1⟩
  . exact hX.cell _ _ _ _ I.1.rep hf
theorem zh0 (hX:zqF X WB) {fn:Func} {A:Conf σ->Prop} {todo:List Item} {tmps:List Value} {hh:AHeap} {S0:σ} (G:Goes X fn A (.run todo tmps hh S0)) {b:Frame} {cs:List Frame} {F:Emb} {g:Goroutine} {sl:Option (Nat × Nat)} (hb:P.funcs[b.fn]?=some fn) (hk:b.kind=.normal) (C:RingO P OB WB B Iv Mem Inb h T gs w q) (hg:gs[h]?=some g) (hS:g=Go.Conc.G (b.at (actF F tmps) todo) cs) (I:RInv X F (.run todo tmps hh S0) w)
    (hown:∀ x,OB x->h≠0->¬ Vis X F (.run todo tmps hh S0) x) (hWB:∀ x,WB x->Vis X F (.run todo tmps hh S0) x->∃ cc el fr,w.heap[x]?=some (.cells cc el fr)/\cc.size≠0) (hro:∀ n r,hh.get n=some r->WB (F.blk n)->r.ro=true) (hOlow:∀ x,OB x->x<w.heap.size) (hWlow:∀ x,WB x->x<w.heap.size) :
    Reach P (crowd gs w sl) T fun m' T'=>∃ gs' g' w' sl' q' B' c' F',m'=crowd gs' w' sl'/\gs'.size=gs.size/\gs'[h]?=some g'/\zuH X OB WB h A b cs (.run todo tmps hh S0) F w c' F' w' g'/\RingO P OB WB B' Iv Mem Inb h T' gs' w' q':=by
  generalize hc0:(Conf.run todo tmps hh S0:Conf σ)=c at *
  let BB:Nat->Prop:=fun x=>x<w.heap.size/\¬ Vis X F c x
  let RR:Nat->Prop:=fun x=>x<w.heap.size/\WB x/\Vis X F c x
  have hvr:∀ x,Vis X F c x->∃ cc el fr,w.heap[x]?=some (.cells cc el fr):=fun x hv=>zds hX I hv;have hvlow:∀ x,Vis X F c x->x<w.heap.size:=fun x hv=>by
    obtain⟨cc,el,fr,h1⟩:=hvr x hv;exact zab h1
  have S:Shade BB RR (zeQ BB RR w) w:=zlN (fun x hx=>hx.elim (·.1) (·.1)) (fun x o h1 h2=>by
      have hlt:=zab h2;have hv:Vis X F c x:=Classical.byContradiction fun z=>h1 ⟨hlt,z⟩;obtain⟨cc,el,fr,h3⟩:=hvr x hv;rw [h3] at h2;cases h2;rfl) (fun x h1 _=>hvr x h1.2.2)
  generalize hws:zeQ BB RR w=ws at S;have hsz:ws.heap.size=w.heap.size:=S.size
  -- the invariant in the shade
  have hat:∀ x,Vis X F c x->∃ cc el fr fr',w.heap[x]?=some (.cells cc el fr)/\ws.heap[x]?=some (.cells cc el fr')/\(WB x\/fr'=fr):=fun x hv=>by
    obtain⟨cc,el,fr,h1⟩:=hvr x hv;have hnB:¬ BB x:=fun z=>z.2 hv;by_cases hW:WB x
    . have hR:RR x:=⟨hvlow x hv,hW,hv⟩;obtain⟨c',el',fr',h3,h4⟩:=S.cold x hR hnB;rw [h1] at h3;cases h3;exact⟨cc,el,fr,_,h1,h4,.inl hW⟩
    . exact⟨cc,el,fr,fr,h1,by rw [S.same x hnB (fun z=>hW z.2.1)];exact h1,.inr rfl⟩
  have hH:Holds F (heap c) ws:=by
    refine⟨fun n r hr=>?_,I.1.holds.apart⟩;obtain⟨pre,post,fr,h1,h2,h3,h4,h5⟩:=I.1.holds.row n r hr;obtain⟨cc,el,fr0,fr',h6,h7,h8⟩:=hat _ (.inl ⟨n,r,hr,rfl⟩);rw [h1] at h6;cases h6;refine⟨pre,post,fr',h7,h2,fun hro'=>?_,h4,h5⟩;rcases h8 with hW|rfl
    . subst hc0;have:=hro n r hr hW;rw [hro'] at this;cases this
    . exact h3 hro'
  have hrep:X.rep F (st c) ws:=hX.soft _ _ _ _ I.1.rep (by omega) fun x hf=>hat x (.inr hf)
  have hI:InvC X F ws (zhJ X F c) c ws :=
    ⟨⟨hH,hrep,I.1.vst,I.1.hst,I.1.hk,I.1.hand,I.1.klim,Kept.refl _ _,fun n r hr hro' _=>.inl ⟨n,r,hr,hro',rfl⟩,fun x hf _=>.inr hf,I.1.sep⟩,I.2⟩
  have hFo:zgR OB WB Inb h BB RR:=⟨fun x hO h0=>⟨hOlow x hO,hown x hO h0⟩,fun x hW=>by
      by_cases hv:Vis X F c x
      . exact .inr ⟨hWlow x hW,hW,hv⟩
      . exact .inl ⟨hWlow x hW,hv⟩,fun i s x hi hs=>by
      obtain⟨cap,k,hx⟩:=C.chans i s x (fun z=>z) hi hs;refine⟨zab hx,fun hv=>?_⟩;obtain⟨cc,el,fr,h1⟩:=hvr x hv;rw [h1] at hx;cases hx⟩
  have hT:=G.tree (b:=b) (cs:=cs) (g:=g) hb hk (by subst hc0;exact hS) hI S.nov
  refine (zje (fun g' w' hE=>?_) hT _ rfl hg S hFo C).bind fun m' T'=>?_
  . obtain⟨_,c',F',_,hst,_⟩:=hE;cases c' with
    | run=>rw [show g'=_ from hst];rfl
    | done=>obtain⟨fr,rfl,_⟩:=hst;rfl
  rintro ⟨gs',g',w0',w',sl',q',B',rfl,k1,k2,⟨hN,c',F',k3,k4,k5,k6,k7,k8⟩,S',k9,C'⟩;have hne:∀ x,RR x->∃ cc el fr,w'.heap[x]?=some (.cells cc el fr)/\cc.size≠0:=fun x hR=>by
    obtain⟨cc,el,fr,h1,h2⟩:=hWB x hR.2.1 hR.2.2;exact⟨cc,el,fr,by rw [k9.keep x (.inr hR) fun z=>C.apart x z.1 hR.2.1];exact h1,h2⟩
  have hnB:∀ x cc el fr,w0'.heap[x]?=some (.cells cc el fr)->¬ BB x:=fun x cc el fr h1 hB=>by
    rw [S'.dead x hB] at h1;cases h1
  have hback:∀ x cc el fr,w0'.heap[x]?=some (.cells cc el fr)->∃ fr',w'.heap[x]?=some (.cells cc el fr')/\((RR x/\cc.size≠0/\fr=(0,cc.size))\/fr'=fr):=fun x cc el fr h1=>by
    have hB:=hnB x cc el fr h1;by_cases hR:RR x
    . obtain⟨c1,e1,f1,h2,h3⟩:=S'.cold x hR hB;rw [h1] at h3;cases h3;obtain⟨c2,e2,f2,h4,h5⟩:=hne x hR;rw [h2] at h4;cases h4;exact⟨_,h2,.inl ⟨hR,h5,rfl⟩⟩
    . exact⟨fr,by rw [<-S'.same x hB hR];exact h1,.inr rfl⟩
  have hH':Holds F' (heap c') w':=by
    refine⟨fun n r hr=>?_,k5.1.holds.apart⟩;obtain⟨pre,post,fr,h1,h2,h3,h4,h5⟩:=k5.1.holds.row n r hr;obtain⟨fr',h6,h7⟩:=hback _ _ _ _ h1;refine⟨pre,post,fr',h6,h2,fun hro'=>?_,h4,h5⟩;have h8:=h3 hro';rcases h7 with ⟨_,h9,h10⟩|rfl
    . rw [h8] at h10;simp only [Prod.mk.injEq] at h10;exact absurd h10.2.symm h9
    . exact h8
  have hrep':X.rep F' (st c') w':=hX.soft _ _ _ _ k5.1.rep (by have:=S'.size;omega) fun x hf=>by
    obtain⟨cc,el,fr,h1⟩:=hX.cell _ _ _ _ k5.1.rep hf;obtain⟨fr',h6,h7⟩:=hback _ _ _ _ h1;exact⟨cc,el,fr,fr',h1,h6,h7.imp (·.1.2.1) id⟩
  have hvis:∀ x,Vis X F' c' x->x<w.heap.size->Vis X F c x:=fun x hv hlt=>by
    have:∃ cc el fr,w0'.heap[x]?=some (.cells cc el fr):=by
      rcases hv with ⟨n,r,hr,rfl⟩|hf
      . obtain⟨pre,post,fr,h1,_⟩:=k5.1.holds.row n r hr;exact⟨_,_,_,h1⟩
      . exact hX.cell _ _ _ _ k5.1.rep hf
    obtain⟨cc,el,fr,h1⟩:=this;exact Classical.byContradiction fun z=>hnB _ _ _ _ h1 ⟨hlt,z⟩
  refine .here ⟨gs',g',w',sl',q',B',c',F',rfl,k1,k2,⟨k3,?_,⟨⟨hH',hrep',k5.1.vst,k5.1.hst,k5.1.hk,k5.1.hand,k5.1.klim,Kept.refl _ _,fun _ _ _ _ _=>trivial,fun _ _ _=>trivial,k5.1.sep⟩,k5.2⟩,k6,k7,k8,fun x hlt hM hO=>?_,k9.size,k9.os,k9.tape,k9.output,hvis,fun x hW=>?_,fun n r hr hW=>?_,fun x hx hl=>?_⟩,C'⟩
  . cases c' with
    | run=>exact k4
    | done v hh S =>
      obtain⟨fr,h1,h2,h3⟩:=k4;have hsh:∀ w1,Ro OB h w' w1->Shade BB RR w0' w1:=fun w1 hw1=>zhS S' hw1.size fun b hb=>hw1.only b fun hO=>hb ⟨hOlow b hO.1,hown b hO.1 hO.2⟩;refine⟨fr,h1,h2,fun w1 hw1=>ziR (hsh w1 hw1) h3,fun c0 cs0 hcs w1 hw1=>?_⟩;subst hcs;obtain⟨_,es,x⟩:=(zoz (c:=c0) (cs:=cs0) h3).2 hN;obtain⟨w2,g1,g2,g3,g4,g5,g6,g7⟩:=x.move BB RR (h==0) w1 (hsh w1 hw1) (fun i q hi=>by omega)
      have hh:w2.heap=w1.heap:=Array.ext_getElem? fun b=>by
        by_cases hb:BB b\/RR b
        . exact g4 b hb
        . rw [<-g2.same b (fun z=>hb (.inl z)) (fun z=>hb (.inr z)),<-(hsh w1 hw1).same b (fun z=>hb (.inl z)) (fun z=>hb (.inr z))]
      have hw2:w2=w1:=by
        rw [g5,hh,show w2.drawn=w1.drawn by omega]
      rw [hw2] at g1 g7;refine⟨es,by rw [h1];exact g1,fun e he=>?_⟩
      rcases g7 e he with h8|⟨h8,a,h9,h10,h11,h12⟩
      . exact .inl h8
      . refine .inr ⟨h8,a,h9,h12,fun hwr hW=>?_,fun hO=>Classical.byContradiction fun h0=>h10 (hFo.own _ hO h0)⟩;rcases hFo.waits _ hW.1 with z|z
        . exact h10 z
        . exact h11 hwr z
  . by_cases hB:BB x
    . exact k9.keep x (.inl hB) hO
    by_cases hR:RR x
    . exact k9.keep x (.inr hR) hO
    rw [<-S'.same x hB hR,<-S.same x hB hR];exact k5.1.kept.block x (by rw [<-hsz] at hlt;exact hlt) hM
  . exact k9.keep x ((hFo.waits x hW).imp id id) fun z=>C.apart x z.1 hW
  . obtain⟨pre,post,fr,h1,h2,h3,h4,h5⟩:=k5.1.holds.row n r hr;have hR:RR (F'.blk n):=(hFo.waits _ hW).resolve_left (hnB _ _ _ _ h1);obtain⟨fr',h6,h7⟩:=hback _ _ _ _ h1;cases hro':r.ro with
    | true=>rfl
    | false =>
      have h8:=h3 hro';obtain⟨c1,e1,f1,g1,g2⟩:=S'.cold _ hR (hnB _ _ _ _ h1);rw [h1] at g2;injection g2 with g2
      injection g2 with g3 g4 g5
      obtain⟨c2,e2,f2,g6,g7⟩:=hne _ hR;rw [g1] at g6;injection g6 with g6
      injection g6 with g6 _ _
      rw [h8] at g5;simp only [Prod.mk.injEq] at g5;exact absurd (g6 ▸ g5.2.symm) g7
  . rw [<-hsz] at hl;rcases hx with ⟨n,r,h1,h2,rfl⟩|hx
    . exact k5.1.own n r h1 h2 hl
    . exact k5.1.fown x hx hl
end
section
variable {OB WB:Nat->Prop} {B i h:Nat}
theorem Dw.none (w:World):Dw OB WB B i w w #[]:=⟨fun _ _=>rfl,rfl,rfl,fun e he=>by simp at he⟩
theorem Dw.quiet {w:World} {es:Array Event} (h:∀ e∈es,EvW OB WB B i e):Dw OB WB B i w w es:=⟨fun _ _=>rfl,rfl,rfl,h⟩
theorem zkW {a:Addr} {wr:Bool} (h0:i=0) (hO:OB a.block) (hB:a.block<B):EvW OB WB B i ⟨.cell a,wr,false⟩:=⟨a,hB,.inr ⟨h0,hO,wr,rfl⟩⟩
theorem zg0 {a:Addr} (hW:WB a.block) (h3:3<=a.off) (hB:a.block<B):EvW OB WB B i ⟨.cell a,false,false⟩:=⟨a,hB,.inl ⟨rfl,hW,h3⟩⟩
structure KG (OB WB:Nat->Prop) (w0:World) (tb wb dn ak:Nat) (w:World):Prop where
  own:∀ b,OB b->w.heap[b]?=w0.heap[b]?
  hO:OB tb
  hW:WB wb
  port:w0.cell? ⟨tb,1,none⟩=some (.pointer (some ⟨wb,0,none⟩))
  done:w0.cell? ⟨tb,2,none⟩=some (.chan (some dn))
  has3:∃ v,w0.cell? ⟨tb,3,none⟩=some v
  free:w0.frozen? ⟨tb,3,none⟩=false
  ask:w.cell? ⟨wb,3,none⟩=some (.chan (some ak))
theorem KG.rely {w0 w w1:World} {tb wb dn ak:Nat} (K:KG OB WB w0 tb wb dn ak w) (h:Rl OB WB 0 w w1):KG OB WB w0 tb wb dn ak w1 :=
  ⟨fun b hb=>(h.2 rfl b hb).trans (K.own b hb),K.hO,K.hW,K.port,K.done,K.has3,K.free,(h.1 _ K.hW (Nat.le_refl 3)).trans K.ask⟩
theorem zcd (P:Program) (w:World) (es:Array Event) (a:Addr) (m:Mode) (x:Option Addr):(store a (.pointer x) m).events P w es=storedEv P w es a (.pointer x) m:=events_store P w es a _ m rfl
abbrev pt (b:Nat) (o:Nat:=0):Value:=.pointer (some ⟨b,o,none⟩)
def cL:Code->Code|.seq a _=>a|c=>c
def cR:Code->Code|.seq _ b=>b|c=>c
def cOps:Code->Array Oper|.region _ ops _=>ops|_=>#[]
noncomputable def zhL:Code:=(Try.f31.body).getD .skip
theorem heap_setCell (w:World) (a:Addr) (u:Value) (b:Nat):(w.setCell a u).heap[b]?=if a.block=b then (w.heap[b]?).map (fun|.cells c elem frozen=>.cells (if a.spot.isSome then c else c.setIfInBounds a.off u) elem frozen|o=>o) else w.heap[b]?:=by
  unfold World.setCell;simp only [Array.getElem?_modify];split<;>rfl
theorem za3 (w w':World) (a:Addr) (h:w'.heap[a.block]?=w.heap[a.block]?):w'.cell? a=w.cell? a:=by
  unfold World.cell?;rw [h]
theorem zb9 (w w':World) (a:Addr) (h:w'.heap[a.block]?=w.heap[a.block]?):w'.frozen? a=w.frozen? a:=by
  unfold World.frozen?;rw [h]
theorem za2 (w:World) (b o o':Nat) (u:Value) (h:o≠o'):(w.setCell ⟨b,o,none⟩ u).cell? ⟨b,o',none⟩=w.cell? ⟨b,o',none⟩:=by
  unfold World.cell?;rw [heap_setCell,if_pos rfl];cases w.heap[b]? with
  | none=>rfl
  | some x=>cases x<;>simp [Array.getElem?_setIfInBounds_ne h]
theorem KG.port' {w0 w:World} {tb wb dn ak:Nat} (K:KG OB WB w0 tb wb dn ak w):w.cell? ⟨tb,1,none⟩=some (.pointer (some ⟨wb,0,none⟩)):=(za3 w0 w _ (K.own tb K.hO)).trans K.port
theorem KG.done' {w0 w:World} {tb wb dn ak:Nat} (K:KG OB WB w0 tb wb dn ak w):w.cell? ⟨tb,2,none⟩=some (.chan (some dn)):=(za3 w0 w _ (K.own tb K.hO)).trans K.done
theorem KG.free' {w0 w:World} {tb wb dn ak:Nat} (K:KG OB WB w0 tb wb dn ak w):w.frozen? ⟨tb,3,none⟩=false:=(zb9 w0 w _ (K.own tb K.hO)).trans K.free
theorem KG.has' {w0 w:World} {tb wb dn ak:Nat} (K:KG OB WB w0 tb wb dn ak w):∃ v,w.cell? ⟨tb,3,none⟩=some v:=by
  obtain⟨v,hv⟩:=K.has3;exact⟨v,(za3 w0 w _ (K.own tb K.hO)).trans hv⟩
theorem KG.store {w0 w:World} {tb wb dn ak:Nat} (K:KG OB WB w0 tb wb dn ak w) (hne:wb≠tb):KG OB WB (w0.setCell ⟨tb,3,none⟩ (.pointer none)) tb wb dn ak (w.setCell ⟨tb,3,none⟩ (.pointer none)):=by
  refine⟨fun b hb=>?_,K.hO,K.hW,?_,?_,?_,?_,?_⟩
  . rw [heap_setCell,heap_setCell,K.own b hb]
  . rw [za2 _ _ _ _ _ (by decide)];exact K.port
  . rw [za2 _ _ _ _ _ (by decide)];exact K.done
  . obtain⟨v,hv⟩:=K.has3;obtain⟨c,el,fr,hb,hs,hc⟩:=zaU hv;refine⟨.pointer none,?_⟩;unfold World.cell?;rw [heap_setCell,if_pos rfl,hb];have:=(Array.getElem?_eq_some_iff.1 hc).1;simp [this]
  . rw [<-K.free];unfold World.frozen?;rw [heap_setCell,if_pos rfl];cases w0.heap[tb]? with
    | none=>rfl
    | some x=>cases x<;>simp
  . rw [za3 w _ _ (by rw [heap_setCell,if_neg (fun e=>hne e.symm)])];exact K.ask
abbrev zux (tb wb dn ak:Nat):Array Value:=#[pt tb,undef,undef,undef,pt tb,pt tb,pt tb 3,pt tb,pt tb,pt tb 1,pt wb,pt wb,pt wb 3,.chan (some ak),pt tb,pt tb,pt tb 2,.chan (some dn),undef,undef,undef,undef,undef,undef,undef,undef,undef,undef,undef,undef,undef,undef,undef]
theorem Dw.set {w:World} {a:Addr} {u:Value} {es:Array Event} (h0:i=0) (hO:OB a.block) (hs:∀ e∈es,EvW OB WB B i e):Dw OB WB B i w (w.setCell a u) es:=by
  refine⟨fun b hb=>?_,by simp [World.setCell],rfl,hs⟩
  rw [heap_setCell,if_neg (fun (e:a.block=b)=>hb ⟨h0,e ▸ hO⟩)]
theorem zq7 {P:Program} {b:Frame} {a:Act} {ops:Array Oper} {i:Nat} {rest:List Nat} {kk:List Item} {cs:List Frame} {o:Oper} {s:Seat} (ho:ops[i]?=some o) (hw:Region.wanted o (yielded ops a.tmps)=true) (hk:b.kind≠.early)
    (hr:∀ w,(execOp a.eval o).run P w=.ok (.comm s.cases true s.shape) w) (he:∀ w,(execOp a.eval o).events P w #[]=#[])
    (h:s.home (G (b.at a (.inRegion ops (i::rest)::kk)) cs)):AtS P s (G (b.at a (.inRegion ops (i::rest)::kk)) cs) (G (b.at a (.inRegion ops (i::rest)::kk)) cs) :=
  ⟨rfl,rfl,rfl,rfl,h,fun main w=>by rw [stepG_comm ho hw hk (hr _),listed_none (he _)]⟩
abbrev accZ:Value:=.agg #[.int .u8 0,.int .i64 0,.int .u64 0,.int .u64 0]
noncomputable def zeX:Array Oper:=cOps (cL (cR (cR zhL)))
noncomputable def zfF:Code:=cR (cR (cR zhL))
noncomputable def ziA (tb wb dn ak:Nat) (cs:List Frame):Goroutine:=G ((base 31).at ⟨zux tb wb dn ak,[]⟩ [.inRegion zeX [0,1,2,3],.code zfF]) cs
noncomputable def zb3 (tb wb dn ak:Nat) (cs:List Frame):Seat:={ cases:=#[rcase ak accZ,rcase dn .nilIface],shape:=.select,home:=fun g=>g=ziA tb wb dn ak cs }
set_option maxRecDepth 100000 in
theorem zl4 {w0 w:World} {tb wb dn ak:Nat} (hK:KG OB WB w0 tb wb dn ak w) (hne:wb≠tb) (htB:tb<B) (hwB:wb<B) (cs:List Frame) :
    Conc.Goes Try.prog true (Rl OB WB 0) (Dw OB WB B 0) (fun g w=>(∃ gq,AtS Try.prog (zb3 tb wb dn ak cs) g gq)/\KG OB WB (w0.setCell ⟨tb,3,none⟩ (.pointer none)) tb wb dn ak w) 40 (G ((base 31).at ⟨#[pt tb,undef,undef,undef,undef,undef,undef,undef,undef,undef,undef,undef,undef,undef,undef,undef,undef,undef,undef,undef,undef,undef,undef,undef,undef,undef,undef,undef,undef,undef,undef,undef,undef],[]⟩ [.code zhL]) cs) w:=by
  simp only [zhL,Try.f31,Option.getD_some];(refine Conc.Goes.step rfl (fun w₁ h₁=>?_);replace hK:=hK.rely h₁;clear h₁;rw [stepG_seq];simp only [goes_go];refine⟨Dw.none _,?_⟩);(refine Conc.Goes.step rfl (fun w₁ h₁=>?_);replace hK:=hK.rely h₁;clear h₁;rw [stepG_region];simp only [goes_go,List.size_toArray,List.length_cons,List.length_nil,Nat.reduceAdd,Nat.zero_add,List.range,List.range.loop];refine⟨Dw.none _,?_⟩);(refine Conc.Goes.step rfl (fun w₁ h₁=>?_);replace hK:=hK.rely h₁;clear h₁;refine goes_oper_k rfl rfl (by decide) (fun K hK'=>?_);go_simp;refine hK' _ _ ⟨Dw.quiet (fun e he=>(by have hm:=mem_listed he;simp [go_sem,Instr.makeInterface,Instr.makeFunc] at hm)),?_⟩;clear hK' K)
  (refine Conc.Goes.step rfl (fun w₁ h₁=>?_);replace hK:=hK.rely h₁;clear h₁;refine goes_oper_k rfl rfl (by decide) (fun K hK'=>?_);go_simp;refine hK' _ _ ⟨Dw.quiet (fun e he=>(by have hm:=mem_listed he;simp [go_sem,Instr.makeInterface,Instr.makeFunc] at hm)),?_⟩;clear hK' K);(refine Conc.Goes.step rfl (fun w₁ h₁=>?_);replace hK:=hK.rely h₁;clear h₁;refine goes_oper_k rfl rfl (by decide) (fun K hK'=>?_);go_simp;refine hK' _ _ ⟨Dw.quiet (fun e he=>(by have hm:=mem_listed he;simp [go_sem,Instr.makeInterface,Instr.makeFunc] at hm)),?_⟩;clear hK' K);refine Conc.Goes.step rfl (fun w₁ h₁=>?_);replace hK:=hK.rely h₁
  clear h₁;obtain⟨v3,hv3⟩:=hK.has';have hz:=hK.free';refine goes_oper_k rfl rfl (by decide) (fun K hK'=>?_)
  go_simp
  refine hK' _ _ ⟨Dw.set rfl hK.hO (fun e he=>(by have hm:=mem_listed he;simp [go_sem,zcd,storedEv,hv3,hz] at hm;subst hm;exact zkW rfl hK.hO htB)),?_⟩
  clear hK' K hv3 hz;replace hK:=hK.store hne;(refine Conc.Goes.step rfl (fun w₁ h₁=>?_);replace hK:=hK.rely h₁;clear h₁;rw [stepG_region_end];simp only [goes_go];refine⟨Dw.none _,?_⟩);(refine Conc.Goes.step rfl (fun w₁ h₁=>?_);replace hK:=hK.rely h₁;clear h₁;rw [stepG_seq];simp only [goes_go];refine⟨Dw.none _,?_⟩);(refine Conc.Goes.step rfl (fun w₁ h₁=>?_);replace hK:=hK.rely h₁;clear h₁;rw [stepG_seq];simp only [goes_go];refine⟨Dw.none _,?_⟩);(refine Conc.Goes.step rfl (fun w₁ h₁=>?_);replace hK:=hK.rely h₁;clear h₁;rw [stepG_region];simp only [goes_go,List.size_toArray,List.length_cons,List.length_nil,Nat.reduceAdd,Nat.zero_add,List.range,List.range.loop];refine⟨Dw.none _,?_⟩);(refine Conc.Goes.step rfl (fun w₁ h₁=>?_);replace hK:=hK.rely h₁;clear h₁;refine goes_oper_k rfl rfl (by decide) (fun K hK'=>?_);go_simp;refine hK' _ _ ⟨Dw.quiet (fun e he=>(by have hm:=mem_listed he;simp [go_sem,Instr.makeInterface,Instr.makeFunc] at hm)),?_⟩;clear hK' K)
  (refine Conc.Goes.step rfl (fun w₁ h₁=>?_);replace hK:=hK.rely h₁;clear h₁;refine goes_oper_k rfl rfl (by decide) (fun K hK'=>?_);go_simp;refine hK' _ _ ⟨Dw.quiet (fun e he=>(by have hm:=mem_listed he;simp [go_sem,Instr.makeInterface,Instr.makeFunc] at hm)),?_⟩;clear hK' K);(refine Conc.Goes.step rfl (fun w₁ h₁=>?_);replace hK:=hK.rely h₁;clear h₁;refine goes_oper_k rfl rfl (by decide) (fun K hK'=>?_);go_simp;refine hK' _ _ ⟨Dw.quiet (fun e he=>(by have hm:=mem_listed he;simp [go_sem,Instr.makeInterface,Instr.makeFunc] at hm)),?_⟩;clear hK' K);(refine Conc.Goes.step rfl (fun w₁ h₁=>?_);replace hK:=hK.rely h₁;clear h₁;have hF:=hK.port';refine goes_oper_k rfl rfl (by decide) (fun K hK'=>?_);go_simp;refine hK' _ _ ⟨Dw.quiet (fun e he=>(by have hm:=mem_listed he;simp [go_sem,hF] at hm;subst hm;exact zkW rfl hK.hO htB)),?_⟩;clear hK' K hF);(refine Conc.Goes.step rfl (fun w₁ h₁=>?_);replace hK:=hK.rely h₁;clear h₁;refine goes_oper_k rfl rfl (by decide) (fun K hK'=>?_);go_simp;refine hK' _ _ ⟨Dw.quiet (fun e he=>(by have hm:=mem_listed he;simp [go_sem,Instr.makeInterface,Instr.makeFunc] at hm)),?_⟩;clear hK' K);(refine Conc.Goes.step rfl (fun w₁ h₁=>?_);replace hK:=hK.rely h₁;clear h₁;refine goes_oper_k rfl rfl (by decide) (fun K hK'=>?_);go_simp;refine hK' _ _ ⟨Dw.quiet (fun e he=>(by have hm:=mem_listed he;simp [go_sem,Instr.makeInterface,Instr.makeFunc] at hm)),?_⟩;clear hK' K);(refine Conc.Goes.step rfl (fun w₁ h₁=>?_);replace hK:=hK.rely h₁;clear h₁;have hF:=hK.ask;refine goes_oper_k rfl rfl (by decide) (fun K hK'=>?_);go_simp;refine hK' _ _ ⟨Dw.quiet (fun e he=>(by have hm:=mem_listed he;simp [go_sem,hF] at hm;subst hm;exact zg0 hK.hW (Nat.le_refl 3) hwB)),?_⟩;clear hK' K hF);(refine Conc.Goes.step rfl (fun w₁ h₁=>?_);replace hK:=hK.rely h₁;clear h₁;rw [stepG_region_end];simp only [goes_go];refine⟨Dw.none _,?_⟩);(refine Conc.Goes.step rfl (fun w₁ h₁=>?_);replace hK:=hK.rely h₁;clear h₁;rw [stepG_region];simp only [goes_go,List.size_toArray,List.length_cons,List.length_nil,Nat.reduceAdd,Nat.zero_add,List.range,List.range.loop];refine⟨Dw.none _,?_⟩);(refine Conc.Goes.step rfl (fun w₁ h₁=>?_);replace hK:=hK.rely h₁;clear h₁;refine goes_oper_k rfl rfl (by decide) (fun K hK'=>?_);go_simp;refine hK' _ _ ⟨Dw.quiet (fun e he=>(by have hm:=mem_listed he;simp [go_sem,Instr.makeInterface,Instr.makeFunc] at hm)),?_⟩;clear hK' K);(refine Conc.Goes.step rfl (fun w₁ h₁=>?_);replace hK:=hK.rely h₁;clear h₁;refine goes_oper_k rfl rfl (by decide) (fun K hK'=>?_);go_simp;refine hK' _ _ ⟨Dw.quiet (fun e he=>(by have hm:=mem_listed he;simp [go_sem,Instr.makeInterface,Instr.makeFunc] at hm)),?_⟩;clear hK' K);(refine Conc.Goes.step rfl (fun w₁ h₁=>?_);replace hK:=hK.rely h₁;clear h₁;refine goes_oper_k rfl rfl (by decide) (fun K hK'=>?_);go_simp;refine hK' _ _ ⟨Dw.quiet (fun e he=>(by have hm:=mem_listed he;simp [go_sem,Instr.makeInterface,Instr.makeFunc] at hm)),?_⟩;clear hK' K);(refine Conc.Goes.step rfl (fun w₁ h₁=>?_);replace hK:=hK.rely h₁;clear h₁;have hF:=hK.done';refine goes_oper_k rfl rfl (by decide) (fun K hK'=>?_);go_simp;refine hK' _ _ ⟨Dw.quiet (fun e he=>(by have hm:=mem_listed he;simp [go_sem,hF] at hm;subst hm;exact zkW rfl hK.hO htB)),?_⟩;clear hK' K hF);(refine Conc.Goes.step rfl (fun w₁ h₁=>?_);replace hK:=hK.rely h₁;clear h₁;rw [stepG_region_end];simp only [goes_go];refine⟨Dw.none _,?_⟩);(refine Conc.Goes.step rfl (fun w₁ h₁=>?_);replace hK:=hK.rely h₁;clear h₁;rw [stepG_seq];simp only [goes_go];refine⟨Dw.none _,?_⟩);(refine Conc.Goes.step rfl (fun w₁ h₁=>?_);replace hK:=hK.rely h₁;clear h₁;rw [stepG_region];simp only [goes_go,List.size_toArray,List.length_cons,List.length_nil,Nat.reduceAdd,Nat.zero_add,List.range,List.range.loop];refine⟨Dw.none _,?_⟩);refine Conc.Goes.stop (fun w₁ h₁=>⟨⟨_,zq7 rfl rfl (by decide) (fun w=>by simp [go_sem,execOp,rcase,Act.eval,zb3]) (fun w=>by simp [go_sem,execOp,Act.eval]) (by simp only [zb3,ziA,zeX,zfF,zhL,cOps,cL,cR,Try.f31,Option.getD_some])⟩,hK.rely h₁⟩)
end
section
variable {OB WB:Nat->Prop} {B i h:Nat}
noncomputable def doC:Code:=(Try.f79.body).getD .skip
noncomputable def zdC:Array Oper:=cOps (cL (cR (cL (cR doC))))
noncomputable def zeg:Code:=cR (cR (cL (cR doC)))
noncomputable def doY:Code:=cR (cR doC)
noncomputable def zhd:Array Oper:=cOps (cL (cR (cR (cR doC))))
noncomputable def zeV:Code:=cR (cR (cR (cR doC)))
structure KDo (WB:Nat->Prop) (wb gr qt:Nat) (w:World):Prop where
  hW:WB wb
  grant:w.cell? ⟨wb,4,none⟩=some (.chan (some gr))
  quit:w.cell? ⟨wb,5,none⟩=some (.chan (some qt))
theorem KDo.rely {w w1:World} {wb gr qt j:Nat} (K:KDo WB wb gr qt w) (h:Rl OB WB j w w1):KDo WB wb gr qt w1 :=
  ⟨K.hW,(h.1 _ K.hW (by show 3<=4;omega)).trans K.grant,(h.1 _ K.hW (by show 3<=5;omega)).trans K.quit⟩
abbrev doT1 (wb:Nat) (ab:Nat × Nat) (ak qt:Nat) (x y:Value):Array Value:=#[pt wb,x,undef,pt ab.1 ab.2,.int .u64 0,undef,pt wb,pt wb,pt wb 3,.chan (some ak),y,pt wb,pt wb,pt wb 5,.chan (some qt),undef,undef,undef,undef,undef,undef,undef,undef,undef,undef,undef,undef,undef,undef,undef,undef,undef,undef,undef,undef,undef,undef,undef,undef,undef,undef,undef,undef,undef]
abbrev ztK (wb:Nat) (ab:Nat × Nat) (ak qt:Nat) (x y:Value):Array Value:=#[pt wb,x,undef,pt ab.1 ab.2,.int .u64 0,undef,pt wb,pt wb,pt wb 3,.chan (some ak),y,pt wb,pt wb,pt wb 5,.chan (some qt),.tuple #[.int .i64 0,.bool false,.agg #[]],undef,undef,undef,undef,undef,undef,undef,undef,undef,undef,undef,undef,undef,undef,undef,undef,undef,undef,undef,undef,undef,undef,undef,undef,undef,undef,undef,undef]
abbrev doT2 (wb:Nat) (ab:Nat × Nat) (ak qt gr:Nat) (x y:Value):Array Value:=#[pt wb,x,undef,pt ab.1 ab.2,.int .u64 0,undef,pt wb,pt wb,pt wb 3,.chan (some ak),y,pt wb,pt wb,pt wb 5,.chan (some qt),.tuple #[.int .i64 0,.bool false,.agg #[]],.int .i64 0,.bool true,.bool false,undef,undef,pt wb,pt wb,pt wb 4,.chan (some gr),pt wb,pt wb,pt wb 5,.chan (some qt),undef,undef,undef,undef,undef,undef,undef,undef,undef,undef,undef,undef,undef,undef,undef]
noncomputable def doG (wb:Nat) (ab:Nat × Nat) (ak qt gr:Nat) (x y:Value) (cs:List Frame):Goroutine:=G ((base 79).at ⟨doT2 wb ab ak qt gr x y,[]⟩ [.inRegion zhd [0,1,2,3],.code zeV]) cs
noncomputable def zdi (wb:Nat) (ab:Nat × Nat) (ak qt gr:Nat) (x y:Value) (cs:List Frame):Seat:={ cases:=#[rcase gr (.int .u64 0),rcase qt (.agg #[])],shape:=.select,home:=fun g=>g=doG wb ab ak qt gr x y cs }
set_option maxRecDepth 100000 in
theorem ztV {w:World} {wb ak qt gr j:Nat} {ab:Nat × Nat} {x y:Value} (hK:KDo WB wb gr qt w) (hwB:wb<B) (cs:List Frame) :
    Conc.Goes Try.prog false (Rl OB WB j) (Dw OB WB B j) (fun g w=>∃ gq,AtS Try.prog (zdi wb ab ak qt gr x y cs) g gq) 60 (G ((base 79).at ⟨ztK wb ab ak qt x y,[]⟩ [.inRegion zdC [1,2,3],.code zeg,.code doY]) cs) w:=by
  simp only [zdC,zeg,doY,doC,cOps,cL,cR,Try.f79,Option.getD_some];(refine Conc.Goes.step rfl (fun w₁ h₁=>?_);replace hK:=hK.rely h₁;clear h₁;refine goes_oper_k rfl rfl (by decide) (fun K hK'=>?_);go_simp;refine hK' _ _ ⟨Dw.quiet (fun e he=>(by have hm:=mem_listed he;simp [go_sem,Instr.makeInterface,Instr.makeFunc] at hm)),?_⟩;clear hK' K)
  (refine Conc.Goes.step rfl (fun w₁ h₁=>?_);replace hK:=hK.rely h₁;clear h₁;refine goes_oper_k rfl rfl (by decide) (fun K hK'=>?_);go_simp;refine hK' _ _ ⟨Dw.quiet (fun e he=>(by have hm:=mem_listed he;simp [go_sem,Instr.makeInterface,Instr.makeFunc] at hm)),?_⟩;clear hK' K);(refine Conc.Goes.step rfl (fun w₁ h₁=>?_);replace hK:=hK.rely h₁;clear h₁;refine goes_oper_k rfl rfl (by decide) (fun K hK'=>?_);go_simp;refine hK' _ _ ⟨Dw.quiet (fun e he=>(by have hm:=mem_listed he;simp [go_sem,Instr.makeInterface,Instr.makeFunc] at hm)),?_⟩;clear hK' K);(refine Conc.Goes.step rfl (fun w₁ h₁=>?_);replace hK:=hK.rely h₁;clear h₁;rw [stepG_region_end];simp only [goes_go];refine⟨Dw.none _,?_⟩);(refine Conc.Goes.step rfl (fun w₁ h₁=>?_);replace hK:=hK.rely h₁;clear h₁;rw [stepG_block];simp only [goes_go];refine⟨Dw.none _,?_⟩);(refine Conc.Goes.step rfl (fun w₁ h₁=>?_);replace hK:=hK.rely h₁;clear h₁;rw [stepG_cond (t:=true) rfl];simp only [goes_go,if_true,if_false,Bool.false_eq_true,↓reduceIte];refine⟨Dw.none _,?_⟩);(refine Conc.Goes.step rfl (fun w₁ h₁=>?_);replace hK:=hK.rely h₁;clear h₁;rw [stepG_skip];simp only [goes_go];refine⟨Dw.none _,?_⟩);(refine Conc.Goes.step rfl (fun w₁ h₁=>?_);replace hK:=hK.rely h₁;clear h₁;rw [stepG_inBlock];simp only [goes_go];refine⟨Dw.none _,?_⟩);(refine Conc.Goes.step rfl (fun w₁ h₁=>?_);replace hK:=hK.rely h₁;clear h₁;rw [stepG_seq];simp only [goes_go];refine⟨Dw.none _,?_⟩);(refine Conc.Goes.step rfl (fun w₁ h₁=>?_);replace hK:=hK.rely h₁;clear h₁;rw [stepG_seq];simp only [goes_go];refine⟨Dw.none _,?_⟩);(refine Conc.Goes.step rfl (fun w₁ h₁=>?_);replace hK:=hK.rely h₁;clear h₁;rw [stepG_region];simp only [goes_go,List.size_toArray,List.length_cons,List.length_nil,Nat.reduceAdd,Nat.zero_add,List.range,List.range.loop];refine⟨Dw.none _,?_⟩);(refine Conc.Goes.step rfl (fun w₁ h₁=>?_);replace hK:=hK.rely h₁;clear h₁;refine goes_oper_k rfl rfl (by decide) (fun K hK'=>?_);go_simp;refine hK' _ _ ⟨Dw.quiet (fun e he=>(by have hm:=mem_listed he;simp [go_sem,Instr.makeInterface,Instr.makeFunc] at hm)),?_⟩;clear hK' K);(refine Conc.Goes.step rfl (fun w₁ h₁=>?_);replace hK:=hK.rely h₁;clear h₁;refine goes_oper_k rfl rfl (by decide) (fun K hK'=>?_);go_simp;refine hK' _ _ ⟨Dw.quiet (fun e he=>(by have hm:=mem_listed he;simp [go_sem,Instr.makeInterface,Instr.makeFunc] at hm)),?_⟩;clear hK' K);(refine Conc.Goes.step rfl (fun w₁ h₁=>?_);replace hK:=hK.rely h₁;clear h₁;refine goes_oper_k rfl rfl (by decide) (fun K hK'=>?_);go_simp;refine hK' _ _ ⟨Dw.quiet (fun e he=>(by have hm:=mem_listed he;simp [go_sem,Instr.makeInterface,Instr.makeFunc] at hm)),?_⟩;clear hK' K);(refine Conc.Goes.step rfl (fun w₁ h₁=>?_);replace hK:=hK.rely h₁;clear h₁;have hF:=hK.grant;refine goes_oper_k rfl rfl (by decide) (fun K hK'=>?_);go_simp;refine hK' _ _ ⟨Dw.quiet (fun e he=>(by have hm:=mem_listed he;simp [go_sem,hF] at hm;subst hm;exact zg0 hK.hW (by show 3<=4;omega) hwB)),?_⟩;clear hK' K hF);(refine Conc.Goes.step rfl (fun w₁ h₁=>?_);replace hK:=hK.rely h₁;clear h₁;rw [stepG_region_end];simp only [goes_go];refine⟨Dw.none _,?_⟩);(refine Conc.Goes.step rfl (fun w₁ h₁=>?_);replace hK:=hK.rely h₁;clear h₁;rw [stepG_region];simp only [goes_go,List.size_toArray,List.length_cons,List.length_nil,Nat.reduceAdd,Nat.zero_add,List.range,List.range.loop];refine⟨Dw.none _,?_⟩);(refine Conc.Goes.step rfl (fun w₁ h₁=>?_);replace hK:=hK.rely h₁;clear h₁;refine goes_oper_k rfl rfl (by decide) (fun K hK'=>?_);go_simp;refine hK' _ _ ⟨Dw.quiet (fun e he=>(by have hm:=mem_listed he;simp [go_sem,Instr.makeInterface,Instr.makeFunc] at hm)),?_⟩;clear hK' K);(refine Conc.Goes.step rfl (fun w₁ h₁=>?_);replace hK:=hK.rely h₁;clear h₁;refine goes_oper_k rfl rfl (by decide) (fun K hK'=>?_);go_simp;refine hK' _ _ ⟨Dw.quiet (fun e he=>(by have hm:=mem_listed he;simp [go_sem,Instr.makeInterface,Instr.makeFunc] at hm)),?_⟩;clear hK' K)
  (refine Conc.Goes.step rfl (fun w₁ h₁=>?_);replace hK:=hK.rely h₁;clear h₁;refine goes_oper_k rfl rfl (by decide) (fun K hK'=>?_);go_simp;refine hK' _ _ ⟨Dw.quiet (fun e he=>(by have hm:=mem_listed he;simp [go_sem,Instr.makeInterface,Instr.makeFunc] at hm)),?_⟩;clear hK' K);(refine Conc.Goes.step rfl (fun w₁ h₁=>?_);replace hK:=hK.rely h₁;clear h₁;have hF:=hK.quit;refine goes_oper_k rfl rfl (by decide) (fun K hK'=>?_);go_simp;refine hK' _ _ ⟨Dw.quiet (fun e he=>(by have hm:=mem_listed he;simp [go_sem,hF] at hm;subst hm;exact zg0 hK.hW (by show 3<=5;omega) hwB)),?_⟩;clear hK' K hF);(refine Conc.Goes.step rfl (fun w₁ h₁=>?_);replace hK:=hK.rely h₁;clear h₁;rw [stepG_region_end];simp only [goes_go];refine⟨Dw.none _,?_⟩);(refine Conc.Goes.step rfl (fun w₁ h₁=>?_);replace hK:=hK.rely h₁;clear h₁;rw [stepG_seq];simp only [goes_go];refine⟨Dw.none _,?_⟩);(refine Conc.Goes.step rfl (fun w₁ h₁=>?_);replace hK:=hK.rely h₁;clear h₁;rw [stepG_region];simp only [goes_go,List.size_toArray,List.length_cons,List.length_nil,Nat.reduceAdd,Nat.zero_add,List.range,List.range.loop];refine⟨Dw.none _,?_⟩);refine Conc.Goes.stop (fun w₁ h₁=>⟨_,zq7 rfl rfl (by decide) (fun w=>by simp [go_sem,execOp,rcase,Act.eval,zdi]) (fun w=>by simp [go_sem,execOp,Act.eval]) (by simp only [zdi,doG,zhd,zeV,doC,cOps,cL,cR,Try.f79,Option.getD_some])⟩)
noncomputable def zfE:Code:=(Try.f26.body).getD .skip
noncomputable def closeOps2:Array Oper:=cOps (cL (cR (cR zfE)))
noncomputable def zpe:Code:=cR (cR (cR zfE))
def zph:Code->Code|.cond _ x _=>x|c=>c
structure KCl (OB:Nat->Prop) (w0:World) (tb dn:Nat) (w:World):Prop where
  own:∀ b,OB b->w.heap[b]?=w0.heap[b]?
  hO:OB tb
  done:w0.cell? ⟨tb,2,none⟩=some (.chan (some dn))
  busy:w0.cell? ⟨tb,4,none⟩=some (.bool true)
theorem KCl.rely {w0 w w1:World} {tb dn:Nat} (K:KCl OB w0 tb dn w) (h:Rl OB WB 0 w w1):KCl OB w0 tb dn w1 :=
  ⟨fun b hb=>(h.2 rfl b hb).trans (K.own b hb),K.hO,K.done,K.busy⟩
theorem KCl.done' {w0 w:World} {tb dn:Nat} (K:KCl OB w0 tb dn w):w.cell? ⟨tb,2,none⟩=some (.chan (some dn)):=(za3 w0 w _ (K.own tb K.hO)).trans K.done
theorem KCl.busy' {w0 w:World} {tb dn:Nat} (K:KCl OB w0 tb dn w):w.cell? ⟨tb,4,none⟩=some (.bool true):=(za3 w0 w _ (K.own tb K.hO)).trans K.busy
abbrev zse (tb qt:Nat) (z2 z3 z4 z5 z6 z7 z8 z9 z10 z11 z12 z13 z14 z15:Value):Array Value:=#[pt tb,undef,z2,z3,z4,z5,z6,z7,z8,z9,z10,z11,z12,z13,z14,z15,pt tb,pt tb,pt tb 6,.chan (some qt),undef,undef,undef,undef,undef,undef,undef,undef,undef,undef,undef,undef]
end
end Go.Proofs.Ytjhmhoapgbfgpaa
namespace Go.Proofs.Ytjhmhoapgbfgpaa
open Go Go.RowKit
def chV (c:Nat):Value:=.chan (some c)
def ptrO (F:Emb):Option Nat->Value
  | none=>.pointer none
  | some k=>.pointer (some ⟨F.blk (VB+k),0,none⟩)
def zbh (F:Emb) (self:Int) (quit:Nat) (closed busy:Bool) (cur:Option (Nat × Nat × Nat)) (pend:Option Nat):Array Value :=
  #[.int .i64 self,ptrO F (cur.map (·.1)),.chan (cur.map (·.2.2)),ptrO F pend,.bool busy,.bool closed,chV quit]
def zdJ (self:Int) (steps:Nat) (told:Value) (ask grant quit:Nat):Array Value:=#[.int .i64 self,.int .i64 (wr steps),told,chV ask,chV grant,chV quit]
def zgk (c:Nat) (n:Int) (A B:UInt64):Array Value:=#[.int .u8 (c:Int),.int .i64 n,.int .u64 (A.toNat:Int),.int .u64 (B.toNat:Int)]
structure MemP (n:Nat) where
  pre:Array Value
  post:Array Value
  wpre:Array Value
  wpost:Array Value
  wcap:Nat
  bpre:Array Value
  bpost:Array Value
  bcap:Nat
  hn:pre.size=n
structure MemO (w:World) (m bw bb:Nat) {n:Nat} (X:MemP n) (ws:List UInt64) (bs:List UInt8):Prop where
  hm:w.heap[m]?=some (.cells (X.pre++#[.slice (some ⟨bw,X.wpre.size,none⟩) ws.length X.wcap,.slice (some ⟨bb,X.bpre.size,none⟩) bs.length X.bcap]++X.post) 71 (0,0))
  hw:w.heap[bw]?=some (.cells (X.wpre++zlZ ws++X.wpost) 34 (0,0))
  hb:w.heap[bb]?=some (.cells (X.bpre++zl1 bs++X.bpost) 5 (0,0))
  wl:ws.length<=2097152
  bl:bs.length<=1048576
structure DirP (n:Nat) where
  pre:Array Value
  post:Array Value
  vpre:Array Value
  vpost:Array Value
  hn:pre.size=n
structure DirO (w:World) (D:zkc) (mb mo:Nat) (me:Int) {n:Nat} (Y:DirP n) (steps:Nat):Prop where
  hd:w.heap[D.d]?=some (.cells (Y.pre++#[.pointer (some ⟨D.v,Y.vpre.size,none⟩),.int .i64 me]++Y.post) 67 (0,0))
  hv:w.heap[D.v]?=some (.cells (Y.vpre++#[.pointer (some ⟨mb,mo,none⟩),.int .i64 (steps:Int)]++Y.vpost) 64 (0,0))
def rowB:Ob->Bool
  | .mem _ _|.port _ _ _=>false
  | _=>true
def zax (mn:Bool) (F:Emb) (k:Nat):Ob->List Nat
  | .mem _ _=>[F.blk (VB+k),aux (F.slack (VB+k)) 1,aux (F.slack (VB+k)) 2]
  | .port _ _ _=>[F.blk (VB+k),aux (F.slack (VB+k)) 1]
  | .thr _ _ _ _ _ _=>if mn then [F.blk (VB+k)] else []
  | .wp _ _ _ _ _=>[F.blk (VB+k)]
  | .acc _ _ _ _=>[F.blk (VB+k)]
  | .box _=>[F.blk (VB+k)]
def obAt (mn:Bool) (OB WB:Nat->Prop) (F:Emb) (S:St) (w:World) (k:Nat):Ob->Prop
  | .mem ws bs=>∃ X:MemP (F.base (VB+k)),MemO w (F.blk (VB+k)) (aux (F.slack (VB+k)) 1) (aux (F.slack (VB+k)) 2) X ws bs
  | .port m me steps=>(∃ Y:DirP (F.base (VB+k)),DirO w ⟨F.blk (VB+k),aux (F.slack (VB+k)) 1⟩ (F.blk (VB+m)) (F.base (VB+m)) me Y steps)/\∃ ws bs,S[m]?=some (Ob.mem ws bs)
  | .thr self quit closed busy cur pend=>mn=true->(OB (F.blk (VB+k))/\(∀ c,cur=some c->c.1<S.length)/\(∀ p,pend=some p->p<S.length)/\w.heap[F.blk (VB+k)]?=some (.cells (zbh F self quit closed busy cur pend) 77 (0,0)))
  | .wp self steps ask grant quit=>WB (F.blk (VB+k))/\∃ (told:Option Addr) (fr:Nat × Nat),w.heap[F.blk (VB+k)]?=some (.cells (zdJ self steps (.pointer told) ask grant quit) 81 fr)
  | .acc c n A B=>w.heap[F.blk (VB+k)]?=some (.cells (zgk c n A B) 61 (0,0))
  | .box c=>w.heap[F.blk (VB+k)]?=some (.cells #[chV c] 91 (0,0))
structure Rep (mn:Bool) (OB WB:Nat->Prop) (F:Emb) (S:St) (w:World):Prop where
  base:∀ k ob,S[k]?=some ob->rowB ob=true->F.base (VB+k)=0
  at':∀ k ob,S[k]?=some ob->obAt mn OB WB F S w k ob
  apart:∀ k k' ob ob',k≠k'->S[k]?=some ob->S[k']?=some ob'->∀ b∈zax mn F k ob,b ∉ zax mn F k' ob'
  waits:∀ k ob,S[k]?=some ob->∀ b∈zax mn F k ob,WB b->∃ a s x y z,ob=Ob.wp a s x y z
  wlow:∀ b,WB b->b<w.heap.size
def fpS (mn:Bool) (F:Emb) (S:St) (b:Nat):Prop:=∃ k ob,S[k]?=some ob/\b∈zax mn F k ob
section
variable {mn:Bool} {OB WB:Nat->Prop} {F F':Emb} {S S':St} {w w':World} {k:Nat} {ob:Ob}
theorem zfl (h:obAt mn OB WB F S w k ob):∀ b∈zax mn F k ob,∃ c el fr,w.heap[b]?=some (.cells c el fr):=by
  intro b hb;cases ob with
  | mem ws bs =>
    obtain⟨X,h⟩:=h;simp only [zax,List.mem_cons,List.not_mem_nil,or_false] at hb;rcases hb with rfl|rfl|rfl
    . exact⟨_,_,_,h.hm⟩
    . exact⟨_,_,_,h.hw⟩
    . exact⟨_,_,_,h.hb⟩
  | port m me steps =>
    obtain⟨⟨td,h⟩,_⟩:=h;simp only [zax,List.mem_cons,List.not_mem_nil,or_false] at hb;rcases hb with rfl|rfl
    . exact⟨_,_,_,h.hd⟩
    . exact⟨_,_,_,h.hv⟩
  | thr =>
    cases mn with
    | false=>simp [zax] at hb
    | true =>
      simp only [zax,if_true,List.mem_cons,List.not_mem_nil,or_false] at hb;subst hb;exact⟨_,_,_,(h rfl).2.2.2⟩
  | wp =>
    simp only [zax,List.mem_cons,List.not_mem_nil,or_false] at hb;subst hb;obtain⟨_,told,fr,h⟩:=h;exact⟨_,_,_,h⟩
  | acc =>
    simp only [zax,List.mem_cons,List.not_mem_nil,or_false] at hb;subst hb;exact⟨_,_,_,h⟩
  | box =>
    simp only [zax,List.mem_cons,List.not_mem_nil,or_false] at hb;subst hb;exact⟨_,_,_,h⟩
theorem zou (h:obAt mn OB WB F S w k ob) (hw:∀ b∈zax mn F k ob,WB b->∃ a s x y z,ob=Ob.wp a s x y z)
    (hk:∀ b∈zax mn F k ob,∃ c el fr fr',w.heap[b]?=some (.cells c el fr)/\w'.heap[b]?=some (.cells c el fr')/\(WB b\/fr'=fr)):obAt mn OB WB F S w' k ob:=by
  have key:(∀ a s x y z,ob≠Ob.wp a s x y z)->∀ b∈zax mn F k ob,w'.heap[b]?=w.heap[b]?:=fun hn b hb=>by
    obtain⟨c,el,fr,fr',h1,h2,h3⟩:=hk b hb;rcases h3 with h3|rfl
    . obtain⟨a,s,x,y,z,rfl⟩:=hw b hb h3;exact absurd rfl (hn a s x y z)
    . rw [h1,h2]
  cases ob with
  | mem ws bs =>
    have key:=key (fun _ _ _ _ _ h=>by cases h)
    obtain⟨X,h⟩:=h;exact⟨X,⟨(key _ (by simp [zax])).trans h.hm,(key _ (by simp [zax])).trans h.hw,(key _ (by simp [zax])).trans h.hb,h.wl,h.bl⟩⟩
  | port m me steps =>
    have key:=key (fun _ _ _ _ _ h=>by cases h)
    obtain⟨⟨td,h⟩,h2⟩:=h;exact⟨⟨td,(key _ (by simp [zax])).trans h.hd,(key _ (by simp [zax])).trans h.hv⟩,h2⟩
  | thr =>
    have key:=key (fun _ _ _ _ _ h=>by cases h)
    intro hm;obtain⟨h1,h2,h3,h4⟩:=h hm;exact⟨h1,h2,h3,(key _ (by simp [zax,hm])).trans h4⟩
  | wp self steps ask grant quit =>
    obtain⟨h1,told,fr,h2⟩:=h;obtain⟨c,el,fr0,fr',h3,h4,_⟩:=hk (F.blk (VB+k)) (by simp [zax])
    rw [h2] at h3;cases h3;exact⟨h1,told,fr',h4⟩
  | acc =>
    have key:=key (fun _ _ _ _ _ h=>by cases h)
    exact (key _ (by simp [zax])).trans h
  | box =>
    have key:=key (fun _ _ _ _ _ h=>by cases h)
    exact (key _ (by simp [zax])).trans h
theorem zdE (h:obAt mn OB WB F S w k ob) (hk:∀ b∈zax mn F k ob,w'.heap[b]?=w.heap[b]?):obAt mn OB WB F S w' k ob:=by
  cases ob with
  | mem ws bs =>
    obtain⟨X,h⟩:=h;exact⟨X,⟨(hk _ (by simp [zax])).trans h.hm,(hk _ (by simp [zax])).trans h.hw,(hk _ (by simp [zax])).trans h.hb,h.wl,h.bl⟩⟩
  | port m me steps =>
    obtain⟨⟨td,h⟩,h2⟩:=h;exact⟨⟨td,(hk _ (by simp [zax])).trans h.hd,(hk _ (by simp [zax])).trans h.hv⟩,h2⟩
  | thr =>
    intro hm;obtain⟨h1,h2,h3,h4⟩:=h hm;exact⟨h1,h2,h3,(hk _ (by simp [zax,hm])).trans h4⟩
  | wp self steps ask grant quit =>
    obtain⟨h1,told,fr,h2⟩:=h;exact⟨h1,told,fr,(hk _ (by simp [zax])).trans h2⟩
  | acc=>exact (hk _ (by simp [zax])).trans h
  | box=>exact (hk _ (by simp [zax])).trans h
theorem Same.hnd (hs:Same (fun n=>VB<=n/\n<VB+S.length) F F') (hk:k<S.length):F.blk (VB+k)=F'.blk (VB+k)/\F.base (VB+k)=F'.base (VB+k)/\F.slack (VB+k)=F'.slack (VB+k) :=
  hs (VB+k) ⟨by omega,by omega⟩
theorem zaG (hk:S[k]?=some ob):k<S.length:=(List.getElem?_eq_some_iff.1 hk).1
theorem zdK (hs:Same (fun n=>VB<=n/\n<VB+S.length) F F') (hk:k<S.length):zax mn F' k ob=zax mn F k ob:=by
  obtain⟨h1,h2,h3⟩:=hs.hnd hk;cases ob<;>simp [zax,h1,h3]
theorem zjX (hs:Same (fun n=>VB<=n/\n<VB+S.length) F F') {o:Option Nat} (h:∀ p,o=some p->p<S.length):ptrO F' o=ptrO F o:=by
  cases o with
  | none=>rfl
  | some p=>simp only [ptrO];rw [(hs.hnd (h p rfl)).1]
theorem zhB (hs:Same (fun n=>VB<=n/\n<VB+S.length) F F') {self:Int} {quit:Nat} {closed busy:Bool} {cur:Option (Nat × Nat × Nat)} {pend:Option Nat} (h1:∀ c,cur=some c->c.1<S.length) (h2:∀ p,pend=some p->p<S.length) :
    zbh F' self quit closed busy cur pend=zbh F self quit closed busy cur pend:=by
  unfold zbh;rw [zjX hs h2,zjX hs (o:=cur.map (·.1)) (fun p hp=>by
    obtain⟨c,hc,rfl⟩:=Option.map_eq_some_iff.1 hp;exact h1 c hc)]
theorem zoX (hs:Same (fun n=>VB<=n/\n<VB+S.length) F F') (hk:k<S.length) (h:obAt mn OB WB F S w k ob):obAt mn OB WB F' S w k ob:=by
  obtain⟨h1,h2,h3⟩:=hs.hnd hk;cases ob with
  | mem ws bs=>unfold obAt at h ⊢;rw [<-h1,<-h2,<-h3];exact h
  | port m me steps =>
    obtain⟨hd,ws,bs,hm⟩:=h;obtain⟨k1,k2,_⟩:=hs.hnd (zaG hm);show (∃ Y:DirP (F'.base (VB+k)),DirO w ⟨F'.blk (VB+k),aux (F'.slack (VB+k)) 1⟩ (F'.blk (VB+m)) (F'.base (VB+m)) me Y steps)/\_;rw [<-h1,<-h2,<-h3,<-k1,<-k2];exact⟨hd,ws,bs,hm⟩
  | thr self quit closed busy cur pend =>
    intro hm;obtain⟨a1,a2,a3,a4⟩:=h hm;refine⟨h1 ▸ a1,a2,a3,?_⟩;rw [<-h1,zhB hs a2 a3];exact a4
  | wp=>unfold obAt at h ⊢;rw [<-h1];exact h
  | acc=>unfold obAt at h ⊢;rw [<-h1];exact h
  | box=>unfold obAt at h ⊢;rw [<-h1];exact h
theorem Rep.same (hs:Same (fun n=>VB<=n/\n<VB+S.length) F F') (h:Rep mn OB WB F S w):Rep mn OB WB F' S w/\∀ b,fpS mn F' S b->fpS mn F S b :=
  ⟨⟨fun k ob hk hr=>by rw [<-(hs.hnd (zaG hk)).2.1];exact h.base k ob hk hr,fun k ob hk=>zoX hs (zaG hk) (h.at' k ob hk),fun k k' ob ob' hne hk hk' b hb=>by
    rw [zdK hs (zaG hk)] at hb;rw [zdK hs (zaG hk')];exact h.apart k k' ob ob' hne hk hk' b hb,fun k ob hk b hb=>by
    rw [zdK hs (zaG hk)] at hb;exact h.waits k ob hk b hb,h.wlow⟩,fun b ⟨k,ob,hk,hb⟩=>⟨k,ob,hk,by rw [zdK hs (zaG hk)] at hb;exact hb⟩⟩
theorem Rep.kept (h:Rep mn OB WB F S w) (hsz:w.heap.size<=w'.heap.size) (hk:∀ b,fpS mn F S b->w'.heap[b]?=w.heap[b]?):Rep mn OB WB F S w' :=
  ⟨h.base,fun k ob hob=>zdE (h.at' k ob hob) (fun b hb=>hk b ⟨k,ob,hob,hb⟩),h.apart,h.waits,fun b hb=>Nat.lt_of_lt_of_le (h.wlow b hb) hsz⟩
end
inductive PrimM:FuncId->Array Value->St->Value->St->Prop
  | com {f args S v S'} (h:Prim f args S v S'):PrimM f args S v S'
  | busy {k:Nat} {self:Int} {quit:Nat} {closed b:Bool} {cur:Option (Nat × Nat × Nat)} {pend:Option Nat} {S:St} (h:S[k]?=some (Ob.thr self quit closed b cur pend)):PrimM 25 #[hndV k] S (.bool b) S
  | idle {k:Nat} {self:Int} {quit:Nat} {closed b:Bool} {cur:Option (Nat × Nat × Nat)} {S:St} (h:S[k]?=some (Ob.thr self quit closed b cur none)):PrimM 32 #[hndV k] S (.tuple #[accZ,.bool false]) S
  | pend {k p:Nat} {self:Int} {quit:Nat} {closed b:Bool} {cur:Option (Nat × Nat × Nat)} {S:St} {c:Nat} {n:Int} {A B:UInt64} (h:S[k]?=some (Ob.thr self quit closed b cur (some p))) (hp:S[p]?=some (Ob.acc c n A B)):PrimM 32 #[hndV k] S (.tuple #[accV c n A B,.bool true]) S
theorem PrimM.len {f:FuncId} {args:Array Value} {S S':St} {v:Value} (h:PrimM f args S v S'):S.length<=S'.length:=by
  cases h with
  | com h=>exact h.len
  | _=>exact Nat.le_refl _
theorem PrimM.hand {f:FuncId} {args:Array Value} {S S':St} {v:Value} (h:PrimM f args S v S'):Hand S'.length v:=by
  cases h with
  | com h=>exact h.hand
  | _=>exact Hand.plain (by first|rfl|simp [zac,accV])
def PrimV:Bool->FuncId->Array Value->St->Value->St->Prop
  | true=>PrimM
  | false=>Prim
theorem PrimV.len {mn:Bool} {f:FuncId} {args:Array Value} {S S':St} {v:Value} (h:PrimV mn f args S v S'):S.length<=S'.length:=by
  cases mn with
  | true=>exact PrimM.len h
  | false=>exact Prim.len h
theorem PrimV.hand {mn:Bool} {f:FuncId} {args:Array Value} {S S':St} {v:Value} (h:PrimV mn f args S v S'):Hand S'.length v:=by
  cases mn with
  | true=>exact PrimM.hand h
  | false=>exact Prim.hand h
def zau (mn:Bool) (OB WB:Nat->Prop):Prop:=∀ f args S v S' F w,PrimV mn f args S v S'->Rep mn OB WB F S w->TCalls Try.prog f (args.map (ren F)) w fun e w'=>∃ F',Same (fun n=>n<VB+S.length) F F'/\e=.returned (ren F' v)/\Rep mn OB WB F' S' w'/\Kept w (fpS mn F S) w'/\∀ b,fpS mn F' S' b->fpS mn F S b\/w.heap.size<=b
def XF (mn:Bool) (OB WB:Nat->Prop) (hok:zau mn OB WB):Face Try.prog St where
  mix:=Try.mix
  cnt:=List.length
  rep:=Rep mn OB WB
  fp:=fpS mn
  prim:=PrimV mn
  rep_same:=fun _ _ _ _ hs h=>h.same hs
  rep_kept:=fun F S w w' R hsz hk=>R.kept hsz hk
  fp_low:=fun F S w b R ⟨k,ob,hk,hb⟩=>by
    obtain⟨c,el,fr,ho⟩:=zfl (R.at' k ob hk) b hb;exact zab ho
  prim_hand:=fun _ _ _ _ _ h=>⟨h.len,h.hand⟩
  prim_ok:=fun f args S v S' F w h R=>hok f args S v S' F w h R
theorem XF.soft {mn:Bool} {OB WB:Nat->Prop} (hok:zau mn OB WB):zqF (XF mn OB WB hok) WB where
  cell:=fun F S w b R ⟨k,ob,hk,hb⟩=>zfl (R.at' k ob hk) b hb
  soft:=fun F S w w' R hsz hk=>⟨R.base,fun k ob hob=>zou (R.at' k ob hob) (R.waits k ob hob) (fun b hb=>hk b ⟨k,ob,hob,hb⟩),R.apart,R.waits,fun b hb=>Nat.lt_of_lt_of_le (R.wlow b hb) hsz⟩
theorem zuy {a b:Int} (h:b<=a):decide (a<b)=false:=decide_eq_false (by omega)
theorem zt8 {a b:Int} (h:a=b):(a==b)=true:=by rw [h];exact beq_self_eq_true _
theorem zuC {a b:Int} (h:a<b\/b<a):(a==b)=false:=by rw [beq_eq_false_iff_ne];omega
theorem zt6 {a b:Int} (h:a<=b):(a<=b)=True:=eq_true h
theorem zup {a b:Int} (h:a<b):(a<b)=True:=eq_true h
theorem zun {a b:Nat} (h:a<=b):(a<=b)=True:=eq_true h
theorem zuf {a b:Nat} (h:a<b):(a<b)=True:=eq_true h
theorem zuV (a n:Nat):(a:Int).tdiv (n:Int)=((a / n:Nat):Int):=by
  rw [Int.tdiv_eq_ediv_of_nonneg (by omega)];exact (Int.natCast_ediv a n).symm
theorem zoB (a n:Nat):(a:Int).tmod (n:Int)=((a % n:Nat):Int):=by
  rw [Int.tmod_eq_emod_of_nonneg (by omega)];exact (Int.natCast_emod a n).symm
attribute [go_sem] zuy zt8 zuC zt6 zup zun zuf
section
variable {P:Program} {σ:Type} {X:Face P σ} {fn:Func} {A:Conf σ->Prop} {ops:Array Oper} {k:List Item} {i:Nat} {tmps:List Value} {h:AHeap} {S:σ} {o:Oper}
end
def Lies (w:World) (b:Blk) (k off:Nat):Prop:=b.ro=true/\b.grow=none/\(∀ v∈b.cells,zac v=true)/\∃ (pre post:Array Value) (fr:Nat × Nat),w.heap[k]?=some (.cells (pre++b.cells.toArray++post) b.elem fr)/\pre.size=off
theorem zjp {w:World} {b off:Nat} {l:List Value} (hpos:0<l.length) (h:∀ i,i<l.length->w.cell? ⟨b,off+i,none⟩=l[i]?):∃ (el:TypeId) (pre post:Array Value) (fr:Nat × Nat),w.heap[b]?=some (.cells (pre++l.toArray++post) el fr)/\pre.size=off:=by
  have h0:=h 0 hpos;rw [List.getElem?_eq_getElem hpos] at h0;cases hb:w.heap[b]? with
  | none=>simp [World.cell?,hb] at h0
  | some ob =>
    cases ob with
    | cells cs el fr =>
      have hc:∀ i,i<l.length->cs[off+i]?=l[i]?:=fun i hi=>by
        have:=h i hi;simpa [World.cell?,hb] using this
      have hsz:∀ i,i<l.length->off+i<cs.size:=fun i hi=>by
        have h1:=hc i hi;rw [List.getElem?_eq_getElem hi] at h1;exact (Array.getElem?_eq_some_iff.1 h1).1
      have hlast:=hsz (l.length - 1) (by omega)
      refine⟨el,cs.extract 0 off,cs.extract (off+l.length) cs.size,fr,?_,by simp;omega⟩
      have he:cs=cs.extract 0 off++l.toArray++cs.extract (off+l.length) cs.size:=by
        apply Array.ext';apply List.ext_getElem?;intro j;have hpre:(cs.extract 0 off).size=off:=by simp;omega
        rw [Array.getElem?_toList,Array.getElem?_toList];by_cases h1:j<off
        . rw [Array.append_assoc,Array.getElem?_append_left (by omega)]
          rw [Array.getElem?_extract];simp;omega
        . by_cases h2:j<off+l.length
          . rw [Array.append_assoc,Array.getElem?_append_right (by omega),hpre,Array.getElem?_append_left (by simp;omega)]
            have:=hc (j - off) (by omega)
            rw [show off+(j - off)=j by omega] at this
            rw [this];simp
          . rw [Array.getElem?_append_right (by simp;omega)]
            simp only [Array.size_append,hpre,List.size_toArray];rw [Array.getElem?_extract];by_cases h3:j<cs.size
            . rw [if_pos (by omega)]
              congr 1;omega
            . rw [if_neg (by omega),Array.getElem?_eq_none (by omega)]
      rw [<-he]
    | _=>simp [World.cell?,hb] at h0
def rowC {α:Type} (fl:α->List Value) (l:List α):List Value:=l.flatMap fl
theorem zqK {α:Type} {fl:α->List Value} {s:Nat} (hs:∀ x,(fl x).length=s) (l:List α):(rowC fl l).length=l.length * s:=by
  induction l with
  | nil=>simp [rowC]
  | cons x l ih =>
    unfold rowC at ih ⊢;rw [List.flatMap_cons,List.length_append,ih,hs,List.length_cons,Nat.add_mul];omega
theorem zj3 {α:Type} {fl:α->List Value} {s:Nat} (hs:∀ x,(fl x).length=s):∀ (l:List α) (i:Nat),(rowC fl l).drop (i * s)=rowC fl (l.drop i)
  | [],i=>by simp [rowC]
  | x::l,0=>by simp
  | x::l,i+1=>by
    have:=zj3 hs l i;unfold rowC at this ⊢;rw [List.flatMap_cons,show (i+1) * s=(fl x).length+i * s by rw [hs,Nat.add_mul];omega,List.drop_append,List.drop_eq_nil_of_le (by omega),Nat.add_sub_cancel_left,List.nil_append,List.drop_succ_cons,this]
theorem zso {α:Type} {fl:α->List Value} {s:Nat} (hs:∀ x,(fl x).length=s) {l:List α} {i:Nat} {x:α} (h:l[i]?=some x):((rowC fl l).drop (i * s)).take s=fl x:=by
  rw [zj3 hs];obtain⟨hi,rfl⟩:=List.getElem?_eq_some_iff.1 h;rw [List.drop_eq_getElem_cons hi];unfold rowC;rw [List.flatMap_cons,<-hs l[i],List.take_left]
theorem zlH {α:Type} {fl:α->List Value} {s:Nat} (hs:∀ x,(fl x).length=s) {l:List α} {i j:Nat} {x:α} (h:l[i]?=some x) (hj:j<s):(rowC fl l)[i * s+j]?=(fl x)[j]?:=by
  have:=zso hs h;rw [<-this,List.getElem?_take,if_pos hj,List.getElem?_drop]
theorem zm9 {α:Type} {fl:α->List Value} (hp:∀ x,∀ v∈fl x,zac v=true) (l:List α):∀ v∈rowC fl l,zac v=true:=fun v hv=>by
  obtain⟨x,_,hx⟩:=List.mem_flatMap.1 hv;exact hp x v hx
def zti {α:Type} (fl:α->List Value) (q:Nat) (sl:Option Addr) (l:List α) (ob:Option Blk):Prop:=0<l.length->sl=some ⟨q,0,none⟩/\∃ el,ob=some ⟨rowC fl l,el,true,none⟩
def SlAt (q:Nat) (sl:Option Addr):Prop:=∀ a,sl=some a->a.block=q
theorem SlAt.clo {q:Nat} {sl:Option Addr} (h:SlAt q sl) {n c k:Nat} (hq:q<k):Clo (Kn k 0) (.slice sl n c):=by
  cases sl with
  | none=>exact Clo.plain rfl
  | some a =>
    intro F F' hs;have:=h a rfl;obtain⟨h1,h2,h3⟩:=hs q (.inl hq);simp [adr,this,h1,h2,h3]
theorem zob {α:Type} (fl:α->List Value) {s:Nat} (hs:∀ x,(fl x).length=s) (hs0:0<s) (hp:∀ x,∀ v∈fl x,zac v=true) (l:List α) (a:Option Addr) (cap:Nat) (w:World) (q:Nat)
    (h:0<l.length->∃ x,a=some x/\∀ (i:Nat) (y:α),l[i]?=some y->∀ (j:Nat) (v:Value),(fl y)[j]?=some v->w.cell? (x.add (i * s+j))=some v) :
    ∃ (sl:Option Addr) (ob:Option Blk) (bk bs:Nat),(∀ F:Emb,F.blk q=bk->F.base q=bs->F.slack q=0->ren F (.slice sl l.length cap)=.slice a l.length cap)/\SlAt q sl/\zti fl q sl l ob/\∀ b,ob=some b->Lies w b bk bs:=by
  by_cases h0:0<l.length
  . obtain⟨x,rfl,hx⟩:=h h0;obtain⟨b,off,spot⟩:=x;have hlen:(rowC fl l).length=l.length * s:=zqK hs l;have hpos:0<(rowC fl l).length:=by rw [hlen];exact Nat.mul_pos h0 hs0
    have hcell:∀ i,i<(rowC fl l).length->w.cell? (Addr.add ⟨b,off,spot⟩ i)=(rowC fl l)[i]?:=fun i hi=>by
      have hi1:i / s<l.length:=Nat.div_lt_of_lt_mul (by rw [hlen] at hi;rw [Nat.mul_comm];exact hi)
      have hi2:i % s<s:=Nat.mod_lt _ hs0;have e:i / s * s+i % s=i:=by rw [Nat.mul_comm];exact Nat.div_add_mod i s
      have hy:=List.getElem?_eq_getElem hi1;have hv:(fl l[i / s])[i % s]?=some ((fl l[i / s])[i % s]'(by rw [hs];exact hi2)):=List.getElem?_eq_getElem (by rw [hs];exact hi2)
      have h1:=hx _ _ hy _ _ hv;have h2:=zlH hs hy hi2;rw [e] at h1 h2;rw [h1,h2,hv]
    have hspot:spot=none:=by
      have:=hcell 0 hpos;rw [List.getElem?_eq_getElem hpos] at this;simpa [Addr.add] using World.cell?_spot this
    subst hspot;obtain⟨el,pre,post,fr,r1,r2⟩:=zjp (w:=w) (b:=b) (off:=off) hpos (fun i hi=>by
      rw [<-hcell i hi];unfold Addr.add;split
      . rename_i hz;simp [hz]
      . rfl)
    refine⟨some ⟨q,0,none⟩,some ⟨rowC fl l,el,true,none⟩,b,off,fun F h1 h2 h3=>by simp [adr,h1,h2,h3],fun y hy=>by cases hy;rfl,fun _=>⟨rfl,el,rfl⟩,fun c hc=>?_⟩
    cases hc;exact⟨rfl,rfl,zm9 hp l,pre,post,fr,r1,r2⟩
  . cases a with
    | none=>exact⟨none,none,0,0,fun F _ _ _=>by simp,fun y hy=>(by cases hy),fun hc=>absurd hc h0,fun b hb=>(by cases hb)⟩
    | some x =>
      obtain⟨b,off,spot⟩:=x;exact⟨some ⟨q,0,spot⟩,none,b,off,fun F h1 h2 h3=>by simp [adr,h1,h2,h3],fun y hy=>by cases hy;rfl,fun hc=>absurd hc h0,fun b hb=>(by cases hb)⟩
section
open Go.ChangeShapes Go.WideShapes Go.Deep
variable {H:Type} {enc:TypeId × Value->H} {P:Program} {w:World} {base:Nat} {spare:Nat->Bool} {held:Bool}
def RowS (ks:List IntKind) (w:World) (a:Option Addr) (len cap:Nat) (z:Nat->Nat->Int):Prop :=
  (a=none/\len=0/\cap=0)\/∃ x,a=some x/\len<=cap/\cap<=maxLen/\∀ i,i<len->∀ (j:Nat) (k:IntKind),ks[j]?=some k->w.cell? (x.add (i * ks.length+j))=some (.int k (z i j))/\(Lit.int k (z i j)).wf=true
theorem zjH {t e:TypeId} {k:IntKind} {fuel:Nat} {a:Option Addr} {len cap:Nat} {x:DataW H × List MemPlace} (ht:P.underlying t=some (.slice e)) (he:P.underlying e=some (.int k)) (hc:P.cellsOf e=1)
    (h:DataW.trod enc P w base (fun _=>true) held fuel t [.slice a len cap]=some x):∃ z,RowS [k] w a len cap z:=by
  rcases open_ints ht he hc h with ⟨hcs,_⟩|⟨x,l,c,zs,hcs,_,hl,hm,hz,_,hcell,hwz⟩
  . simp only [List.cons.injEq,Value.slice.injEq,and_true] at hcs;obtain⟨rfl,rfl,rfl⟩:=hcs;exact⟨fun _ _=>0,.inl ⟨rfl,rfl,rfl⟩⟩
  . simp only [List.cons.injEq,Value.slice.injEq,and_true] at hcs;obtain⟨rfl,rfl,rfl⟩:=hcs;rw [if_pos rfl] at hz;refine⟨fun i _=>zs.getD i 0,.inr ⟨x,rfl,hl,hm,fun i hi j k' hk=>?_⟩⟩
    match j,hk with
    | 0,hk =>
      cases hk;have h1:=hcell i (by omega)
      refine⟨by simpa using h1,hwz _ ?_⟩
      have:i<zs.length:=by omega
      simp [List.getD,this]
    | j+1,hk=>simp at hk
end
def zqt (P:Program) (h:AHeap) (t:TypeId) (X Y:Value):Option (Value × AHeap):=match X,zbi P t,Y with
  | .slice none 0 0,some el,.slice _ 0 _=>(match zai P el with|some _=>some (.slice none 0 0,h)|none=>none)
  | .slice (some a) sl sc,some el,.slice b n c=>(match zai P el with
    | some s=>if sl+n<=sc then (match n,zbg h s (.slice b n c),h.get a.block with
        | 0,_,_=>some (.slice (some a) sl sc,h)
        | _,some news,some bk=>if bk.ro=false/\a.spot=none/\a.off+sl * s+news.length<=bk.cells.length/\news.length=n * s/\news.all zdh=true then
            some (.slice (some a) (sl+n) sc,h.put a.block { bk with cells:=zaP bk.cells (a.off+sl * s) news }) else none
        | _,_,_=>none)
      else (match zcq P h t X Y with
        | some (cs,el,need,false)=>some (.slice (some ⟨h.next,0,none⟩) need need,(h.putO a.block none).addO (some ⟨cs,el,false,zai P el⟩))
        | _=>none)
    | none=>none)
  | _,_,_=>none
def AppTo (P:Program) (h:AHeap) (t:TypeId) (X Y:Value) (v:Value) (h':AHeap):Prop:=zqt P h t X Y=some (v,h')\/∃ ob,appV P h h.next t X Y=some (v,ob)/\h'=h.addO ob
structure AppT (P:Program) (t el:TypeId) (s:Nat):Prop where
  sl:zbi P t=some el
  sz:zai P el=some (s+1)
  bs:∃ bs,zap P el=some bs/\bs<=1048576
  z:∃ z,zav P el=some z/\zac z=true/\z.cells.size=s+1
theorem AppT.of {P:Program} {t el:TypeId} {s bs:Nat} {z:Value} (h1:zbi P t=some el) (h2:zai P el=some (s+1)) (h3:zap P el=some bs) (h4:zav P el=some z) (h5:(zac z && decide (z.cells.size=s+1) && decide (bs<=1048576))=true):AppT P t el s:=by
  rw [Bool.and_eq_true,Bool.and_eq_true,decide_eq_true_eq,decide_eq_true_eq] at h5;exact⟨h1,h2,⟨bs,h3,h5.2⟩,⟨z,h4,h5.1.1,h5.1.2⟩⟩
section
variable {P:Program} {h:AHeap} {t el:TypeId} {s:Nat}
theorem zqP (T:AppT P t el s) {nx:Nat} {a b:Option Addr} {sl n c:Nat} {olds news:List Value} (c1:zbg h (s+1) (.slice a sl sl)=some olds) (c2:zbg h (s+1) (.slice b n c)=some news) (hn:0<n) (hl:sl+n<=16777216) (ha:∀ x,a=some x->∃ bk,h.get x.block=some bk/\bk.grow=some 0) :
    appV P h nx t (.slice a sl sl) (.slice b n c)=some (.slice (some ⟨nx,0,none⟩) (sl+n) (sl+n),some ⟨olds++news,el,false,some (s+1)⟩):=by
  obtain⟨h1,h2,⟨bs,h3,h4⟩,⟨z,h5,h6,h7⟩⟩:=T;refine zp8 h1 h2 h3 h5 ?_ c1 c2 (by omega) hl ha
  rw [Bool.and_eq_true,Bool.and_eq_true,decide_eq_true_eq,decide_eq_true_eq];exact⟨⟨h6,h7⟩,h4⟩
theorem zsF (T:AppT P t el s) {a b:Option Addr} {sl n c:Nat} {olds news:List Value} (c1:zbg h (s+1) (.slice a sl sl)=some olds) (c2:zbg h (s+1) (.slice b n c)=some news) (hn:0<n) (hl:sl+n<=16777216) (ha:∀ x,a=some x->∃ bk,h.get x.block=some bk/\bk.grow=some 0) :
    AppTo P h t (.slice a sl sl) (.slice b n c) (.slice (some ⟨h.next,0,none⟩) (sl+n) (sl+n)) (h.addO (some ⟨olds++news,el,false,some (s+1)⟩)):=by
  exact .inr ⟨_,zqP T c1 c2 hn hl ha,rfl⟩
theorem zg1 (T:AppT P t el s) {b:Option Addr} {n c:Nat} {news:List Value} (c2:zbg h (s+1) (.slice b n c)=some news) (hn:0<n) (hl:n<=16777216) :
    AppTo P h t (.slice none 0 0) (.slice b n c) (.slice (some ⟨h.next,0,none⟩) n n) (h.addO (some ⟨news,el,false,some (s+1)⟩)):=by
  have:=zsF T (a:=none) (sl:=0) (olds:=[]) (h:=h) rfl c2 hn (by omega) (fun x hx=>by cases hx)
  rw [Nat.zero_add] at this;exact this
theorem zli (T:AppT P t el s) {a:Addr} {b:Option Addr} {sl n c:Nat} {olds news:List Value} (hg:h.get a.block=some ⟨olds,el,false,some (s+1)⟩) (hsp:a.spot=none) (ho:a.off=0) (hlen:olds.length=sl * (s+1)) (c2:zbg h (s+1) (.slice b n c)=some news) (hc:news.all zdh=true) (hn:0<n) (hl:sl+n<=16777216) :
    AppTo P h t (.slice (some a) sl sl) (.slice b n c) (.slice (some ⟨h.next,0,none⟩) (sl+n) (sl+n)) ((h.putO a.block none).addO (some ⟨olds++news,el,false,some (s+1)⟩)):=by
  obtain⟨h1,h2,⟨bs,h3,h4⟩,⟨z,h5,h6,h7⟩⟩:=T;refine .inl ?_;have c1:zbg h (s+1) (.slice (some a) sl sl)=some olds:=by
    by_cases h0:sl=0
    . subst h0;rw [Nat.zero_mul] at hlen;rw [List.eq_nil_of_length_eq_zero hlen];exact zkv
    . rw [zig h0 hg hsp (by rw [ho,hlen];omega),ho,List.drop_zero,<-hlen,List.take_length]
  have hap:zcq P h t (.slice (some a) sl sl) (.slice b n c)=some (olds++news,el,sl+n,false):=by
    unfold zcq;simp only [h1,h2,h3,h5,Option.getD_some,c1,c2,hg];rw [if_pos ⟨h6,h7,h4,by omega,hl⟩]
    have hne:¬ (some (s+1)=some 0):=by simp
    simp only [hne,if_false];rw [if_pos ⟨trivial,trivial,trivial,hsp,by rw [ho,hlen];omega,Nat.le_refl _,hc⟩]
  unfold zqt;have hn':¬ sl+n<=sl:=by omega
  simp only [h1,h2,hn',if_false,hap]
theorem zfq {l:List (Option Blk)} {q:Nat} {ys:List (Option Blk)} {s n c:Nat} {b:Blk} (j:Nat) (hj:ys[j]?=some (some b)) (hn:n * s=b.cells.length) (h0:n≠0):zbg (zaH l q ys) s (.slice (some ⟨q+j,0,none⟩) n c)=some b.cells:=by
  rw [zig h0 (b:=b) (by simp only;rw [zg4,hj];rfl) rfl (by simp only;omega),List.drop_zero,hn,List.take_length]
attribute [go_sem] Int.toNat_zero Int.toNat_one Option.map_some Option.map_none
end
section
variable {P:Program} {σ:Type} {X:Face P σ} {fn:Func} {A:Conf σ->Prop} {ops:Array Oper} {k:List Item} {i:Nat} {tmps:List Value} {h h':AHeap} {S:σ} {o:Oper} {x y:Operand} {t:TypeId} {v:Value}
theorem zpv {e:Operand->Value}:wrA P e h (.call { callee:=.builtin .append,args:=#[x,y],argTypes:=#[t,t] })=zqt P h t (e x) (e y):=by
  unfold wrA zqt;simp only [if_true];rfl
theorem AppTo.op (e:AppTo P h t (evA tmps x) (evA tmps y) v h') (hop:o.op=.call { callee:=.builtin .append,args:=#[x,y],argTypes:=#[t,t] }):Op0 X o (evA tmps) h S v h' S:=by
  rcases e with e|⟨ob,e,rfl⟩
  . exact .inr (.inr (.inl ⟨by rw [hop,zpv];exact e,rfl⟩))
  . exact .inr (.inl ⟨ob,by rw [hop,zlC];exact e,rfl,rfl⟩)
theorem At.appE (ho:ops.toList[i]?=some o) (hop:o.op=.call { callee:=.builtin .append,args:=#[x,y],argTypes:=#[t,t] }) (hg:o.guard=none) (hb:opOK o.op=true) (e:AppTo P h t (evA tmps x) (evA tmps y) v h') (hl:h'.next<=VB) (hk:∀ K:List Value->AHeap->Prop,(∀ t h,At X fn A ops k (i+1) t h S->K t h)->K (putL o.dst v tmps) h'):At X fn A ops k i tmps h S :=
  At.op (zaZ ho) (zbU hg) (zaX hb) (e.op hop) (.inr hl) (hk _ fun _ _ h=>h)
variable {W:List Nat} {n0:Nat} {hf:AHeap} {Kf:List Value->AHeap->σ->Prop} {born:List (Nat × Nat)}
theorem RG.appE (ho:ops.toList[i]?=some o) (hop:o.op=.call { callee:=.builtin .append,args:=#[x,y],argTypes:=#[t,t] }) (hg:o.guard=none) (hb:opOK o.op=true) (hq:wrB W i o=true) (e:AppTo P h t (evA tmps x) (evA tmps y) v h') (hl:h'.next<=VB) (hk:∀ K:List Value->AHeap->Prop,(∀ t h1,RG X W ops n0 Kf (i+1) t h1 S (zea i h.next h'.next++born)->K t h1)->K (putL o.dst v tmps) h') (hnf:farB W i=false:=by rfl):RG X W ops n0 Kf i tmps h S born :=
  RGF.op' true hnf (zaZ ho) (zbU hg) (zaX hb) (.inr hl) ⟨hq,e.op hop⟩ (fun n b hb=>by cases hb) (hk (fun t h1=>RG X W ops n0 Kf (i+1) t h1 S (zea i h.next h'.next++born)) fun _ _ h=>h)
end
section
variable {P:Program} {σ:Type} {X:Face P σ} {fn:Func} {A:Conf σ->Prop} {ops:Array Oper} {k:List Item} {i:Nat} {tmps:List Value} {S:σ} {o:Oper} {l ys:List (Option Blk)} {q:Nat}
variable {W:List Nat} {n0:Nat} {Kf:List Value->AHeap->σ->Prop} {born:List (Nat × Nat)} {hf:AHeap}
end
abbrev wL (ws:List UInt64):List Value:=zdH .u64 (ws.map fun x=>(x.toNat:Int))
abbrev bL (bs:List UInt8):List Value:=zdH .u8 (bs.map fun x=>(x.toNat:Int))
theorem zle (ws:List UInt64):(wL ws).length=ws.length:=by simp [zdH]
theorem zri (bs:List UInt8):(bL bs).length=bs.length:=by simp [zdH]
abbrev mB (wn wc bn bc:Nat):Blk:=⟨[.slice (some ⟨1,0,none⟩) wn wc,.slice (some ⟨2,0,none⟩) bn bc],71,true,none⟩
abbrev wB (ws:List UInt64):Blk:=⟨wL ws,34,false,none⟩
abbrev bB (bs:List UInt8):Blk:=⟨bL bs,5,false,none⟩
abbrev zaI (ws:List UInt64) (bs:List UInt8) (wc bc:Nat):List Blk:=[mB ws.length wc bs.length bc,wB ws,bB bs]
theorem ze5 {n c q o:Nat} (h:q<n):Clo (Kn n c) (.pointer (some ⟨q,o,none⟩)):=fun F F' hs=>by
  obtain⟨h1,h2,h3⟩:=hs q (.inl h);simp [adr,h1,h2,h3]
theorem zjz {n c q a b:Nat} (h:q<n):Clo (Kn n c) (.slice (some ⟨q,0,none⟩) a b):=fun F F' hs=>by
  obtain⟨h1,h2,h3⟩:=hs q (.inl h);simp [adr,h1,h2,h3]
theorem zaW (ws:List UInt64) (bs:List UInt8) (wc bc:Nat):∀ b∈zaI ws bs wc bc,∀ u∈b.cells,Clo (Kn (zaI ws bs wc bc).length 0) u:=by
  intro b hb u hu;simp only [List.mem_cons,List.not_mem_nil,or_false] at hb;rcases hb with rfl|rfl|rfl
  . simp only [List.mem_cons,List.not_mem_nil,or_false] at hu;rcases hu with rfl|rfl
    . exact zjz (by simp)
    . exact zjz (by simp)
  . exact Clo.plain (zaj u hu)
  . exact Clo.plain (zaj u hu)
theorem up_3 {a b c d nx:Nat} {ns:List Nat}:(upE (a::b::c::d::ns) nx).blk 3=d:=by simp [upE,zdd,upN]
theorem up_4 {a b c d e nx:Nat} {ns:List Nat}:(upE (a::b::c::d::e::ns) nx).blk 4=e:=by simp [upE,zdd,upN]
theorem Gives.turn {cnt:Nat} {l l':List Blk} {h1:AHeap} {v:Value} (hlen:l'.length=l.length) (hv:Clo (Kn l.length cnt) v) (hr:∀ (i:Nat) b,l[i]?=some b->b.ro=false->∃ b1,h1.get i=some b1/\l'[i]?=some b1/\b1.ro=false/\∀ u∈b1.cells,Clo (Kn l.length cnt) u):Gives cnt l l' [] [] id h1 v v where
  low:=fun _ _=>rfl
  hand:=fun _ _=>rfl
  more:=fun j n hj=>by simp at hj
  nodup:=List.nodup_nil
  len:=rfl
  len':=hlen
  told:=(zd5 v).symm
  clo:=fun F F' hs=>hv F F' fun n hn=>hs n (by rcases hn with hn|hn;exact .inl hn;exact .inr (.inr hn))
  rows:=fun i b hb hro=>by
    obtain⟨b1,h1,h2,h3,h4⟩:=hr i b hb hro;refine⟨b1,h1,?_,h3,fun u hu F F' hs=>h4 u hu F F' fun n hn=>hs n (by rcases hn with hn|hn;exact .inl hn;exact .inr (.inr hn))⟩
    rw [h2];congr 1;obtain⟨cs,el,ro,gr⟩:=b1;simp only [renB,Blk.mk.injEq,and_true];have h5:cs.map (ren (zdd id))=cs.map id:=List.map_congr_left fun u hu=>zd5 u;rw [h5,List.map_id]
  news:=fun j n hj=>by simp at hj
def zmU (m:Nat) (l l':List Blk) (h1:AHeap):Prop:=∀ (i:Nat) b,l[i]?=some b->b.ro=false->∃ b1,h1.get i=some b1/\l'[i]?=some b1/\b1.ro=false/\∀ u∈b1.cells,Clo (Kn m 0) u
def DoesI (f:FuncId) (args:Array Value) (l:List Blk) (v:Value) (l':List Blk):Prop :=
  ∃ g c h1,Try.prog.funcs[f]?=some g/\goB g=true/\g.body=some c/\(∀ u∈args.toList,Clo (Kn l.length 0) u)/\(∀ b∈l,∀ u∈b.cells,Clo (Kn l.length 0) u)/\l'.length=l.length/\Clo (Kn l.length 0) v/\zmU l.length l l' h1 /\
    Goes BT g (fun x=>x=.done v h1 ()) (.run (zag g c args).1 (zag g c args).2 (zaq (l.map some)) ())
theorem DoesI.x {f:FuncId} {args:Array Value} {l l':List Blk} {v:Value} (h:DoesI f args l v l'):DoesX BT f args l () v l' [] ():=by
  obtain⟨g,c,h1,a1,a2,a3,a4,a5,a6,a7,a8,G⟩:=h;exact⟨g,c,h1,v,[],id,a1,a2,a3,a4,a5,Gives.turn a6 a7 a8,G⟩
def EndI (l l':List Blk) (v:Value) (x:Conf Unit):Prop:=∃ h1,x=.done v h1 ()/\l'.length=l.length/\Clo (Kn l.length 0) v/\zmU l.length l l' h1
theorem DoesI.mk {f:FuncId} {g:Func} {c:Code} {args:Array Value} {l l':List Blk} {v:Value} (hf:Try.prog.funcs[f]?=some g) (hg:goB g=true) (hb:g.body=some c) (hclo:∀ u∈args.toList,Clo (Kn l.length 0) u) (hcl:∀ b∈l,∀ u∈b.cells,Clo (Kn l.length 0) u)
    (hrun:Goes BT g (EndI l l' v) (.run [.code c] (args.toList++List.replicate (g.ntmps - args.size) undef) (zaq (l.map some)) ())):DoesI f args l v l':=by
  obtain⟨c',⟨h1,rfl,b1,b2,b3⟩,G⟩:=hrun.out;exact⟨g,c,h1,hf,hg,hb,hclo,hcl,b1,b2,b3,G⟩
theorem Goes.finI {fn:Func} {todo:List Item} {tmps:List Value} {h:AHeap} {v:Value} {l l':List Blk} (ht:retB todo=true) (hv:resA Try.prog fn tmps h=some v) (hS:(():Unit)=()) (hlen:l'.length=l.length) (hc:Clo (Kn l.length 0) v) (hr:zmU l.length l l' h) :
    Goes BT fn (EndI l l' v) (.run todo tmps h ()):=.ret ht hv (.here ⟨h,rfl,hlen,hc,hr⟩)
theorem zrL {m:Nat} {l l':List Blk} {h1:AHeap} (h:l.all (·.ro)=true):zmU m l l' h1:=fun i b hb hro=>by
  have:=List.all_eq_true.1 h b (List.mem_of_getElem? hb);rw [hro] at this;cases this
theorem ziJ (ws:List UInt64):∀ u∈wL ws,zac u=true:=zaj
theorem zi0 (bs:List UInt8):∀ u∈bL bs,zac u=true:=zaj
theorem zct {ws ws':List UInt64} {bs bs':List UInt8} {wn wc bn bc m:Nat} {l:List (Option Blk)}:∀ (i:Nat) b,[mB wn wc bn bc,wB ws,bB bs][i]?=some b->b.ro=false->∃ b1,(zaq (some (mB wn wc bn bc)::some (wB ws')::some (bB bs')::l)).get i=some b1/\[mB wn wc bn bc,wB ws',bB bs'][i]?=some b1/\b1.ro=false/\∀ u∈b1.cells,Clo (Kn m 0) u
  | 0,b,hb,hro=>by simp at hb;subst hb;cases hro
  | 1,b,_,_=>⟨wB ws',rfl,rfl,rfl,fun u hu=>Clo.plain (ziJ ws' u hu)⟩
  | 2,b,_,_=>⟨bB bs',rfl,rfl,rfl,fun u hu=>Clo.plain (zi0 bs' u hu)⟩
  | i+3,b,hb,_=>by simp at hb
abbrev wBr (ws:List UInt64):Blk:=⟨wL ws,34,true,none⟩
abbrev bBr (bs:List UInt8):Blk:=⟨bL bs,5,true,none⟩
abbrev mRo (ws:List UInt64) (bs:List UInt8) (wc bc:Nat):List Blk:=[mB ws.length wc bs.length bc,wBr ws,bBr bs]
theorem zpr (ws:List UInt64) (bs:List UInt8) (wc bc:Nat):∀ b∈mRo ws bs wc bc,∀ u∈b.cells,Clo (Kn (mRo ws bs wc bc).length 0) u:=by
  intro b hb u hu;simp only [List.mem_cons,List.not_mem_nil,or_false] at hb;rcases hb with rfl|rfl|rfl
  . simp only [List.mem_cons,List.not_mem_nil,or_false] at hu;rcases hu with rfl|rfl
    . exact zjz (by simp)
    . exact zjz (by simp)
  . exact Clo.plain (zaj u hu)
  . exact Clo.plain (zaj u hu)
theorem zef (ws:List UInt64) (bs:List UInt8) (wc bc:Nat):DoesX BT 34 #[.pointer (some ⟨0,0,none⟩)] (mRo ws bs wc bc) () (.int .i64 (ws.length:Int)) (mRo ws bs wc bc) [] ():=by
  refine DoesX.mk Try.func34 rfl rfl ?clo ?rows ?_
  case clo=>exact fun u hu=>(by simp only [List.mem_cons,List.not_mem_nil,or_false] at hu;subst hu;exact ze5 (by simp))
  case rows=>exact zpr ws bs wc bc
  rw [Try.ntmps34];simp only [List.size_toArray,List.length_cons,List.length_nil,List.replicate,List.cons_append,List.nil_append];simp only [mRo,List.map_cons,List.map_nil];refine via ?_;refine Goes.finS rfl (by simp (disch:=(first|omega|(simp only [zaa,List.length_cons,List.length_nil,List.size_toArray,zae]<;>omega)|fail)) only [go_sem,resA,zaJ,Try.results34]<;>rfl) ?_ rfl ?_
  . rfl
  . exact Clo.plain rfl
theorem ziG (ws:List UInt64) (bs:List UInt8) (wc bc:Nat):DoesX BT 36 #[.pointer (some ⟨0,0,none⟩)] (mRo ws bs wc bc) () (.int .i64 (bs.length:Int)) (mRo ws bs wc bc) [] ():=by
  refine DoesX.mk Try.func36 rfl rfl ?clo ?rows ?_
  case clo=>exact fun u hu=>(by simp only [List.mem_cons,List.not_mem_nil,or_false] at hu;subst hu;exact ze5 (by simp))
  case rows=>exact zpr ws bs wc bc
  rw [Try.ntmps36];simp only [List.size_toArray,List.length_cons,List.length_nil,List.replicate,List.cons_append,List.nil_append];simp only [mRo,List.map_cons,List.map_nil];refine via ?_;refine Goes.finS rfl (by simp (disch:=(first|omega|(simp only [zaa,List.length_cons,List.length_nil,List.size_toArray,zae]<;>omega)|fail)) only [go_sem,resA,zaJ,Try.results36]<;>rfl) ?_ rfl ?_
  . rfl
  . exact Clo.plain rfl
abbrev zhW:Value:=.agg #[.nilFunc,.func (.func 38) #[] #[],.func (.func 39) #[] #[],.func (.func 40) #[] #[],.func (.func 41) #[] #[]]
theorem zgy:zai Try.prog 88=some 1:=by kernel_rfl
theorem ziC:zaT Try.prog 88=some false:=by kernel_rfl
theorem zed:Does BT 35 #[] [] () zhW ():=by
  refine Does.mk Try.func35 rfl rfl ?clo ?hand ?_
  case clo=>exact fun u hu=>by simp at hu
  case hand=>exact fun F F' _=>(by simp [zhW])
  rw [Try.ntmps35];simp only [List.size_toArray,List.length_cons,List.length_nil,List.replicate,List.cons_append,List.nil_append];simp only [List.map_nil];refine via ?_;refine Goes.fin rfl (by simp (disch:=(first|omega|(simp only [zaa,List.length_cons,List.length_nil,List.size_toArray,zae]<;>omega)|fail)) only [go_sem,resA,zaJ,Try.results35]<;>rfl) ?_
  rfl
theorem zlK (x:UInt64) (c:Nat) (n:Int) (A B:UInt64):Does BT 38 #[.int .u64 (x.toNat:Int),accV c n A B] [] () (.tuple #[.int .u64 (x.toNat:Int),.int .u64 (x.toNat:Int)]) ():=by
  refine Does.mk Try.func38 rfl rfl ?clo ?hand ?_
  case clo=>exact fun u hu=>(by simp only [List.mem_cons,List.not_mem_nil,or_false] at hu;rcases hu with rfl|rfl;exact Clo.plain rfl;exact Clo.plain (by simp [zac,accV]))
  case hand=>exact Hand.plain (by simp [zac])
  rw [Try.ntmps38];simp only [List.size_toArray,List.length_cons,List.length_nil,List.replicate,List.cons_append,List.nil_append];simp only [List.map_nil,accV];refine via ?_;refine Goes.fin rfl (by simp (disch:=(first|omega|(simp only [zaa,List.length_cons,List.length_nil,List.size_toArray,zae]<;>omega)|fail)) only [go_sem,resA,zaJ,Try.results38]<;>rfl) ?_
  rfl
theorem zlD (x:UInt64) (c:Nat) (n:Int) (A B:UInt64):Does BT 39 #[.int .u64 (x.toNat:Int),accV c n A B] [] () (.tuple #[.int .u64 (A.toNat:Int),.int .u64 0]) ():=by
  refine Does.mk Try.func39 rfl rfl ?clo ?hand ?_
  case clo=>exact fun u hu=>(by simp only [List.mem_cons,List.not_mem_nil,or_false] at hu;rcases hu with rfl|rfl;exact Clo.plain rfl;exact Clo.plain (by simp [zac,accV]))
  case hand=>exact Hand.plain (by simp [zac])
  rw [Try.ntmps39];simp only [List.size_toArray,List.length_cons,List.length_nil,List.replicate,List.cons_append,List.nil_append];simp only [List.map_nil,accV];refine via ?_;refine Goes.fin rfl (by simp (disch:=(first|omega|(simp only [zaa,List.length_cons,List.length_nil,List.size_toArray,zae]<;>omega)|fail)) only [go_sem,resA,zaJ,Try.results39]<;>rfl) ?_
  rfl
theorem zlx (x:UInt64) (c:Nat) (n:Int) (A B:UInt64):Does BT 40 #[.int .u64 (x.toNat:Int),accV c n A B] [] () (.tuple #[.int .u64 ((kNow 3 x A B).toNat:Int),.int .u64 ((zgo 3 x A).toNat:Int)]) ():=by
  refine Does.mk Try.func40 rfl rfl ?clo ?hand ?_
  case clo=>exact fun u hu=>(by simp only [List.mem_cons,List.not_mem_nil,or_false] at hu;rcases hu with rfl|rfl;exact Clo.plain rfl;exact Clo.plain (by simp [zac,accV]))
  case hand=>exact Hand.plain (by simp [zac])
  rw [Try.ntmps40];simp only [List.size_toArray,List.length_cons,List.length_nil,List.replicate,List.cons_append,List.nil_append];simp only [List.map_nil,accV];by_cases h:x=A
  . have h2:((x.toNat:Int) != (A.toNat:Int))=false:=by simp [h]
    refine viaF h2 ?_;simp only [kNow,zgo,h,if_true];refine Goes.fin rfl (by simp (disch:=(first|omega|(simp only [zaa,List.length_cons,List.length_nil,List.size_toArray,zae]<;>omega)|fail)) only [go_sem,resA,zaJ,Try.results40]<;>rfl) ?_
    rfl
  . have h2:((x.toNat:Int) != (A.toNat:Int))=true:=by
      simp only [bne_iff_ne,ne_eq];intro z;exact h (UInt64.toNat_inj.1 (by omega))
    refine viaF h2 ?_;simp only [kNow,zgo,h,if_false];refine Goes.fin rfl (by simp (disch:=(first|omega|(simp only [zaa,List.length_cons,List.length_nil,List.size_toArray,zae]<;>omega)|fail)) only [go_sem,resA,zaJ,Try.results40]<;>rfl) ?_
    rfl
theorem zlY (x:UInt64) (c:Nat) (n:Int) (A B:UInt64):Does BT 41 #[.int .u64 (x.toNat:Int),accV c n A B] [] () (.tuple #[.int .u64 ((x+A).toNat:Int),.int .u64 (x.toNat:Int)]) ():=by
  refine Does.mk Try.func41 rfl rfl ?clo ?hand ?_
  case clo=>exact fun u hu=>(by simp only [List.mem_cons,List.not_mem_nil,or_false] at hu;rcases hu with rfl|rfl;exact Clo.plain rfl;exact Clo.plain (by simp [zac,accV]))
  case hand=>exact Hand.plain (by simp [zac])
  rw [Try.ntmps41];simp only [List.size_toArray,List.length_cons,List.length_nil,List.replicate,List.cons_append,List.nil_append];simp only [List.map_nil,accV];have h2:IntKind.u64.wrap ((x.toNat:Int)+(A.toNat:Int))=((x+A).toNat:Int):=zsK x A;refine viaF h2 ?_;refine Goes.fin rfl (by simp (disch:=(first|omega|(simp only [zaa,List.length_cons,List.length_nil,List.size_toArray,zae]<;>omega)|fail)) only [go_sem,resA,zaJ,Try.results41]<;>rfl) ?_
  rfl
theorem zqQ {ws:List UInt64} {k:Nat} (h:k<ws.length):(wL ws)[k]?=some (.int .u64 (ws[k].toNat:Int)):=by simp [zdH,h]
theorem zll {ws:List UInt64} {k:Nat} {x:UInt64}:(wL ws).set k (.int .u64 (x.toNat:Int))=wL (ws.set k x):=by simp [zdH,List.map_set]
theorem zrQ {n m c:Nat} {k:Int} {A B:UInt64}:Clo (Kn n m) (accV c k A B):=Clo.plain (by simp [zac,accV])
theorem zbe {c:Nat} {k:Int} {A B:UInt64} {n:Nat} (h:0<n):∀ u∈(#[.pointer (some ⟨0,0,none⟩),accV c k A B]:Array Value).toList,Clo (Kn n 0) u:=fun u hu=>by
  simp only [List.mem_cons,List.not_mem_nil,or_false] at hu;rcases hu with rfl|rfl
  . exact ze5 h
  . exact zrQ
end Go.Proofs.Ytjhmhoapgbfgpaa
