/-
  Close of a thread whose body does not wait, as a call that hands over.
  Condition: each call that is known does what is said of it (zav).
-/
import Derived.Test.YtkjmaapbeicmkaaUThr43
import Derived.Below
import Derived.Test.YtkjmaapbeicmkaaUQuick
import Derived.Test.YtkjmaapbeicmkaaUCo22
import Derived.Test.YtkjmaapbeicmkaaUThr24
set_option maxHeartbeats 40000000
set_option linter.unusedVariables false
set_option linter.unusedSimpArgs false
set_option maxRecDepth 100000
open Go.IntKind renaming i64->qa
open List renaming getElem?_append_right->qb,replicate->qd,getElem?_eq_some_iff->qe,getElem?_append_left->qf,getElem?_set_self->qg,mem_of_getElem?->qh,getElem?_set_ne->qj,getElem?_eq_getElem->qk,nodup_cons->qq,length_set->qr,getElem?_eq_none->qC,mem_append->qO,append_nil->qP
open Option.some renaming injEq->qi,inj->qn
open Go.Conc renaming G->ql,heap_setChan_ne->qA,Good->qL
open Nat renaming zero_le->qm,le_refl->qo,sub_self->qu,le_of_eq->qv,add_zero->qB,lt_of_lt_of_le->qI
open Go.RowKit renaming Below->qp
open Go.Frame renaming enter->qs
open Go.World renaming cell?->qw,setChan->qx
open Int renaming mul_nonneg->qy,mul_le_mul->qz
namespace Go.Proofs.Ytkjmaapbeicmkaa
open Go Go.Conc
open Go.ConcN (sumTo upd sumTo_upd upd_ne upd_same)
variable {cur:Option (Nat × Nat × Nat)}
theorem zse{S:St}{k:Nat}{self:Int}{quit:Nat}{closed:Bool}{pend pend':Option Nat}(hthr:S[k]?=some (.thr self quit closed false cur pend)){i s c:Nat}(h:ChS (S.set k (.thr self quit true false cur pend')) i s c):ChS S i s c:=by
  have hcase:∀(i:Nat) ob,(S.set k (Ob.thr self quit true false cur pend'))[i]?=some ob->(i=k/\ob=.thr self quit true false cur pend')\/S[i]?=some ob:=fun i ob hi=>by
    by_cases z:i=k
    . subst z;rw[qg (zaM hthr)]at hi;exact .inl ⟨rfl,(qn hi).symm⟩
    . rw[qj (Ne.symm z)]at hi;exact .inr hi
  cases h with
  | quit h =>
    rcases hcase _ _ h with⟨rfl,z⟩|z
    . cases z;exact .quit hthr
    . exact .quit z
  | done h =>
    rcases hcase _ _ h with⟨rfl,z⟩|z
    . cases z;exact .done hthr
    . exact .done z
  | ask h =>
    rcases hcase _ _ h with⟨_,z⟩|z
    . cases z
    . exact .ask z
  | grant h =>
    rcases hcase _ _ h with⟨_,z⟩|z
    . cases z
    . exact .grant z
section
variable {p:Par}{Su:SuT}{S:St}{F:Emb}{N C:Nat}{Inb:Nat->Option Seat}{gs gs':Array Goroutine}{w w':World}{T T':Trace}
theorem Com.quitFree(H:Com p Su S F N C Inb gs w T)(hs0:p.seat0=none)(hr:p.run=none){k:Nat}{self:Int}{quit:Nat}{closed:Bool}{pend:Option Nat}(hthr:S[k]?=some (.thr self quit closed false cur pend)):∀i s,Inb i=some s->¬s.has quit:=by
  intro i s hi hc;have t:=H.tab;by_cases z:i=0
  . have:=H.main;rw[z,this,hs0]at hi;cases hi
  . obtain⟨_,_,h3⟩:=H.seats i s hi;obtain⟨k2,a1,a2,a3,hp2,dn2,pe2,b1,b2⟩:=h3 z;obtain⟨_,h4⟩:=H.waits k2 _ _ _ _ _ _ _ b2;obtain⟨ws2,st2,ak2,gr2,ab2,x2,y2,cs2,c1,c2,_⟩:=h4 b1;rw[c2]at hi;cases hi;rcases zc5 hc with e|e
    . exact absurd (t.dist' (.grant c1) (.quit hthr) e.symm).2 (by decide)
    . have:=(t.dist' (.quit b2) (.quit hthr) e.symm).1;rw[this,hthr]at b2;cases b2
theorem Com.shut(H:Com p Su S F N C Inb gs w T){k:Nat}{self:Int}{quit:Nat}{closed:Bool}{pend pend':Option Nat}(hthr:S[k]?=some (.thr self quit closed false cur pend))(hs:w.heap.size<=w'.heap.size)(hsz:gs'.size=gs.size)(hk:∀x,x<w.heap.size->¬p.OB x->x≠quit->w'.heap[x]?=w.heap[x]?)(hq:zbx w' quit)(hring:∃B Mem q,RingO Try.prog p.OB p.WB B p.Iv Mem Inb p.h T' gs' w' q/\Mem 0/\Mem p.h):
    Com p Su (S.set k (.thr self quit true false cur pend')) F N C Inb gs' w' T':=by
  have t:=H.tab;have hkl:=zaM hthr;have hself:(S.set k (Ob.thr self quit true false cur pend'))[k]?=some (.thr self quit true false cur pend'):=qg hkl;have hne:∀i,i≠k->(S.set k (Ob.thr self quit true false cur pend'))[i]?=S[i]?:=fun i hi=>qj (Ne.symm hi);have hcase:∀(i:Nat) ob,(S.set k (Ob.thr self quit true false cur pend'))[i]?=some ob->(i=k/\ob=.thr self quit true false cur pend')\/(i≠k/\S[i]?=some ob):=fun i ob hi=>by
    by_cases z:i=k
    . subst z;rw[hself]at hi;exact .inl ⟨rfl,(qn hi).symm⟩
    . rw[hne i z]at hi;exact .inr ⟨z,hi⟩
  have hold:∀{i:Nat} {ob},S[i]?=some ob->(∀a b c d e f,ob≠.thr a b c d e f)->(S.set k (Ob.thr self quit true false cur pend'))[i]?=some ob:=fun {i ob} hi hn=>by
    rw[hne i (fun e=>by rw[e,hthr]at hi;exact hn _ _ _ _ _ _ (qn hi).symm)];exact hi
  have hch:∀i s c,ChS (S.set k (Ob.thr self quit true false cur pend')) i s c->ChS S i s c:=fun i s c h=>by
    cases h with
    | quit h =>
      rcases hcase _ _ h with⟨rfl,z⟩|⟨_,z⟩
      . cases z;exact .quit hthr
      . exact .quit z
    | done h =>
      rcases hcase _ _ h with⟨rfl,z⟩|⟨_,z⟩
      . cases z;exact .done hthr
      . exact .done z
    | ask h =>
      rcases hcase _ _ h with⟨_,z⟩|⟨_,z⟩
      . cases z
      . exact .ask z
    | grant h =>
      rcases hcase _ _ h with⟨_,z⟩|⟨_,z⟩
      . cases z
      . exact .grant z
  have hkc:∀{i s c cap},ChS S i s c->c≠quit->ChanO w c cap->ChanO w' c cap:=fun {i s c cap} hc hn ⟨m,hm⟩=>⟨m,(hk c (zac hm) (t.far _ _ _ hc).2.1 hn).trans hm⟩;refine⟨hring,⟨fun b=>?_,fun b=>?_,fun k s c k' s' h1 h2=>t.dist _ _ _ _ _ (hch _ _ _ h1) (hch _ _ _ h2),fun k s c h=>?_,fun b hO=>qI (t.olow b hO) hs,fun i a b c d e h=>?_,fun i a b c d e h=>?_⟩,H.main,fun i se hi=>?_,fun i a b c d e f g h=>?_,H.n0,by rw[qr];exact H.c0⟩
  . rw[t.obs b];constructor
    . rintro⟨i,a1,a2,a3,a4,a5,a6,a7,a8⟩;by_cases z:i=k
      . subst z;exact⟨i,_,_,_,_,_,_,hself,a8⟩
      . exact⟨i,_,_,_,_,_,_,(hne i z).trans a7,a8⟩
    . rintro⟨i,a1,a2,a3,a4,a5,a6,a7,a8⟩;rcases hcase _ _ a7 with⟨rfl,_⟩|⟨_,z⟩
      . exact⟨i,_,_,_,_,_,_,hthr,a8⟩
      . exact⟨i,_,_,_,_,_,_,z,a8⟩
  . rw[t.wbs b];constructor
    . rintro⟨i,a1,a2,a3,a4,a5,a7,a8⟩;exact⟨i,_,_,_,_,_,hold a7 (fun _ _ _ _ _ _ z=>by cases z),a8⟩
    . rintro⟨i,a1,a2,a3,a4,a5,a7,a8⟩;rcases hcase _ _ a7 with⟨_,z⟩|⟨_,z⟩
      . cases z
      . exact⟨i,_,_,_,_,_,z,a8⟩
  . obtain⟨h1,h2,h3⟩:=t.far _ _ _ (hch _ _ _ h);refine⟨?_,h2,h3⟩;by_cases e:c=quit
    . rw[e];exact hq
    . obtain⟨b1,b2,b3,b4,b5,b6,b7⟩:=h1;exact⟨b1,b2,b3,b4,b5,b6,(hk c (zac b7) h2 e).trans b7⟩
  . rcases hcase _ _ h with⟨_,z⟩|⟨hn,z⟩
    . cases z
    . exact hkc (.quit z) (fun e=>hn (t.dist' (.quit z) (.quit hthr) e).1) (t.quit _ _ _ _ _ _ z)
  . rcases hcase _ _ h with⟨_,z⟩|⟨hn,z⟩
    . cases z
    . obtain⟨h1,hp,gid,dn,ws,st,ak,gr,rfl,h3,h4,h5,h6,h7,h8,h9⟩:=t.busy _ _ _ _ _ _ z;exact⟨h1,hp,gid,dn,ws,st,ak,gr,rfl,hold h3 (fun _ _ _ _ _ _ z=>by cases z),hkc (.ask h3) (fun e=>absurd (t.dist' (.ask h3) (.quit hthr) e).2 (by decide)) h4,hkc (.grant h3) (fun e=>absurd (t.dist' (.grant h3) (.quit hthr) e).2 (by decide)) h5,hkc (.done z) (fun e=>absurd (t.dist' (.done z) (.quit hthr) e).2 (by decide)) h6,h7,by omega,hold h9 (fun _ _ _ _ _ _ z=>by cases z)⟩
  . obtain⟨h1,h2,h3⟩:=H.seats i se hi;refine⟨h1,by omega,fun h0=>?_⟩
    obtain⟨j,a1,a2,a3,a4,a5,a6,a7,a8⟩:=h3 h0;have hjk:j≠k:=fun e=>by rw[e,hthr]at a8;cases a8
    exact⟨j,a1,a2,a3,a4,a5,a6,a7,(hne j hjk).trans a8⟩
  . rcases hcase _ _ h with⟨_,z⟩|⟨hn,z⟩
    . cases z
    . obtain⟨h1,h2⟩:=H.waits _ _ _ _ _ _ _ _ z;refine⟨h1,fun hne=>?_⟩;obtain⟨ws,st,ak,gr,ab,x,y,cs,h3,h4,h5⟩:=h2 hne;exact⟨ws,st,ak,gr,ab,x,y,cs,hold h3 (fun _ _ _ _ _ _ z=>by cases z),h4,h5⟩
end
variable {F F0:Emb}{w00:World}
section
variable (hok:∀ mn OB WB,zav mn OB WB)
variable {Γ:Type}(Pr:Proto Γ)
def zrC:SpT Γ:=fun f args hs S γ Q=>∃(k quit:Nat) (self:Int) (cur:Option (Nat×Nat×Nat)) (pend:Option Nat),f=29/\args=#[hndV k]/\KeepC γ.2 S/\S[k]?=some (.thr self quit false false cur pend)/\Q (.tuple #[]) hs (S.set k (.thr self quit true false cur none)) (γ.1,S.set k (.thr self quit true false cur none))
variable {Pr}
theorem znx:Try.f29.body=some zfo:=rfl
theorem zle{k:Nat}(hb:F.base (VB+k)=0):actF F (zai Try.f29 zfo #[hndV k]).2=⟨#[pt (F.blk (VB+k)),undef,undef,undef,undef,undef,undef,undef,undef,undef,undef,undef,undef,undef,undef,undef,undef,undef,undef,undef,undef,undef,undef,undef,undef,undef,undef,undef,undef,undef,undef,undef],[]⟩:=by
  simp only[zai,Try.ntmps29];simp[actF,adr,hndV,zaW,hb,qd]
theorem zqo{n00:Nat}{Fin:Unit->Machine->Trace->Prop}{Stk:List Frame->Prop}:SpOK hok (ClM n00 w00) (SuM hok Pr) Fin Stk (zrC (Γ:=Γ)):=by
  intro f args hs S γ Q hsp b cs F0 N0 C0 fn ops i rest kk tmps o hfn hkd hsk ho hw hb' hca K d p Inb F gs w sl T g hC H hg hgS hF hN hC0;obtain⟨k,quit,self,cur,pend,rfl,rfl,hkeep,hthr,hQ⟩:=hsp;obtain⟨h0,hrun,hseat,hPX,hn00,hw00⟩:=id hC;have hst:∀u∈tmps,Stab (Kn hs.next S.length) F u:=fun u hu=>H.inv.1.vst u hu;refine(zcF hok (SuM.mono hok Pr d γ.1) ho hw hb' hca Try.func29 rfl znx hkd H hg hgS).bind fun m1 T1=>?_;rintro⟨gs1,w1,sl1,rfl,k1,H1⟩;have H1:Standing p hok (SuM hok Pr d γ.1) S F (.run [] [] hs S) Inb gs1 w1 T1:=Standing.keep (c:=.run [] [] hs S) hok hkeep (Standing.conf hok H1 rfl rfl (fun v hv=>by cases hv))
  have hX:=zeR hok h0;have hinv:RInv (XM hok p.OB p.WB) F (.run [] [] hs S) w1:=hX▸H1.inv;have Rp:Rep true p.OB p.WB F S w1:=hinv.1.rep;obtain⟨hOtb,hcur,_,hrtb⟩:=Rp.at' _ _ hthr rfl;rw[zle (Rp.base _ _ hthr rfl),h0]at k1;obtain⟨B0,Mem0,q0,R0,hM0,_⟩:=H1.com.ring;rw[h0]at R0;have hlow:=zgP H1.com H1.wrow;have t:=H1.com.tab;have htb:=zl9 H1.com hOtb;have hqf:=H1.com.quitFree hseat hrun hthr;obtain⟨m,hm⟩:=t.quit _ _ _ _ _ _ hthr;obtain⟨_,hqO,hqW⟩:=t.far _ _ _ (.quit hthr);generalize htbE:F.blk (VB+k)=tb at *;have hqt:quit≠tb:=fun e=>hqO (e▸hOtb);refine(zaX (sl:=sl1) (h:=0) 60 k1 (zpM (n0:=w1.heap.size) (w0:=w1) (qt:=quit) ⟨rfl,hlow,qo _⟩ htb (by simp[qw,hrtb,zbi];rfl) (by simp[qw,hrtb,zbi]) (by simp[qw,hrtb,zbi,chV]) (fun o=>by simp[World.frozen?,hrtb]) _) R0).bind fun m2 T2=>?_
  rintro⟨gs2,g2,w2,sl2,q2,B2,rfl,s2,k2,⟨rfl,K2⟩,R2⟩;have hsz2:w2.heap.size=w1.heap.size:=by rw[K2.heap,zaS,zaS]
  have hold2:∀x,x≠tb->w2.heap[x]?=w1.heap[x]?:=fun x hx=>by
    rw[K2.heap,heap_setCell,if_neg (fun(e:tb=x)=>hx e.symm),heap_setCell,if_neg (fun(e:tb=x)=>hx e.symm)]
  have hrtb2:w2.heap[tb]?=some (.cells (zbi F self quit true false cur none) 86 (0,0)):=by
    rw[K2.heap,heap_setCell,if_pos rfl,heap_setCell,if_pos rfl,hrtb];simp[zbi,ptrO]
  have hm2:w2.heap[quit]?=some (.chan 0 #[] false m m false):=(hold2 _ hqt).trans hm;have R2':RingO Try.prog p.OB p.WB w2.heap.size p.Iv Mem0 Inb 0 T2 gs2 w2 q2:=CoF.mono R2.lowB (qo _) R2;refine(zmt (c:=quit) (B:=w2.heap.size) (OB:=p.OB) (WB:=p.WB) (Iv:=p.Iv) (Mem:=Mem0) (Inb:=Inb) (h:=0) (a':=ql (zeq tb quit []) (b.at (actF F tmps) (.inRegion ops (i::rest)::kk)::cs)) (w0:=w2) (St:=fun w'=>w'.heap=(w2.setChan quit 0 #[] true m m false).heap) (sl:=sl2) (zac hm2) rfl (fun w3 hw3=>?_) _ rfl (Ro.refl _) k2 R2').bind fun m3 T3=>?_
  . have hh:w3.heap=w2.heap:=by rw[hw3.heap0]
    refine⟨w3.setChan quit 0 #[] true m m false,znw tb quit _ (by rw[hh];exact hm2) _,⟨fun i s c hi hc=>qA _ _ _ _ _ _ _ (fun e=>hqf i s hi (e▸hc)),fun a ha _=>za3 _ _ _ (qA _ _ _ _ _ _ _ (fun e=>hqW (e▸ha))),fun z=>absurd rfl z,by simp[qx],rfl,fun e he=>by simp at he⟩,by simp[qx,hh]⟩
  rintro⟨gs3,w3,sl3,q3,rfl,s3,k3,hh3,R3⟩;have hsz3:w3.heap.size=w2.heap.size:=by rw[hh3];simp[qx]
  have hold3:∀x,x≠quit->w3.heap[x]?=w2.heap[x]?:=fun x hx=>by rw[hh3];exact qA _ _ _ _ _ _ _ (fun e=>hx e.symm)
  have hrtb3:w3.heap[tb]?=some (.cells (zbi F self quit true false cur none) 86 (0,0)):=(hold3 _ (Ne.symm hqt)).trans hrtb2;have hq3:w3.heap[quit]?=some (.chan 0 #[] true m m false):=by rw[hh3];exact heap_setChan_self w2 hm2 _ _ _ _ _ _
  refine(zaX (sl:=sl3) (h:=0) 30 k3 (zmx (n0:=w3.heap.size) (w0:=w3) ⟨rfl,fun b hb=>by rw[hsz3,hsz2];exact hlow b hb,qo _⟩ (by simp[qw,hrtb3,zbi]) _ _) R3).bind fun m4 T4=>?_
  rintro⟨gs4,g4,w4,sl4,q4,B4,rfl,s4,k4,⟨rfl,K4⟩,R4⟩;have hold4:∀x,x≠quit->x≠tb->w4.heap[x]?=w1.heap[x]?:=fun x h1 h2=>by rw[K4.heap,hold3 x h1,hold2 x h2]
  have hsz4:w4.heap.size=w1.heap.size:=by rw[K4.heap,hsz3,hsz2]
  have hinv4:RInv (XM hok p.OB p.WB) F (.run [] [] hs (S.set k (.thr self quit true false cur none))) w4:=by
    refine zgw hok hthr hcur (fun p hp=>by cases hp) hinv (fun x hx hne=>?_) (by rw[htbE,K4.heap];exact hrtb3) (qv hsz4.symm)
    rw[htbE]at hne;refine hold4 x (fun e=>?_) hne;obtain⟨_,_,_,h1⟩:=zdr (XF.soft (hok _ _ _)) hinv hx;rw[e,hm]at h1;cases h1
  have hlen:(S.set k (Ob.thr self quit true false cur none)).length=S.length:=by simp
  let p':Par:=⟨p.h,p.run,p.OB,p.WB,p.Iv,p.seat0,p.PX,w4,F,0,0,p.n0,p.w0⟩
  have hcomP:Com p' (SuM hok Pr d γ.1) S F hs.next S.length Inb gs1 w1 T1:=⟨H1.com.ring,H1.com.tab,H1.com.main,H1.com.seats,H1.com.waits,H1.com.n0,H1.com.c0⟩;have hcom4:Com p' (SuM hok Pr d γ.1) (S.set k (.thr self quit true false cur none)) F hs.next S.length Inb gs4 w4 T4 :=
    hcomP.shut hthr (qv hsz4.symm) (by omega) (fun x hx hO hn=>hold4 x hn (fun e=>hO (e▸hOtb))) ⟨_,_,_,_,_,_,by rw[K4.heap];exact hq3⟩ ⟨B4,Mem0,q4,by show RingO _ _ _ _ _ _ _ p.h _ _ _ _;rw[h0];exact R4,hM0,by show Mem0 p.h;rw[h0];exact hM0⟩
  have hstand:Standing p' hok (SuM hok Pr d γ.1) (S.set k (.thr self quit true false cur none)) F (.run [] [] hs (S.set k (.thr self quit true false cur none))) Inb gs4 w4 T4:=by
    refine⟨?_,(zeR hok (p:=p') h0)▸hinv4,fun z=>absurd h0 z,fun x hx=>absurd hx (hPX x),fun x hx=>?_,H1.wro,H1.base.move (qv hsz4.symm) (fun x _ hT=>?_) (fun _ _ h=>h) (fun x _ _ h2 h3=>hold4 x (h3 _ _ _ (.quit hthr)) (fun e=>h2 (e▸hOtb))) (fun i s c h=>.inl (zse hthr h)),Same.refl _ _,qm _,qm _⟩
    . show Com p' _ _ F hs.next (S.set k (Ob.thr self quit true false cur none)).length Inb gs4 w4 T4;rw[hlen];exact hcom4
    . obtain⟨cc,el,y1,y2⟩:=H1.wrow x hx;exact⟨cc,el,(hold4 x (fun e=>hqW (e▸hx)) (fun e=>htb.2 (e▸hx))).trans y1,y2⟩
    . rw[zeR hok (p:=p') h0]at hT;rw[hX];exact hT.imp id (fun z=>ziG hthr z)
  have hfin:(b.at (actF F tmps) (.inRegion ops (i::rest)::kk)).finish (.tuple #[])=b.at (actF F (putL o.dst (.tuple #[]) tmps)) (.inRegion ops rest::kk):=by
    rw[Frame.finish_at,ho];show b.at ((actF F tmps).put o.dst (.tuple #[])) (.inRegion ops rest::kk)=_;rw[<-zdm];simp
  rw[hfin]at k4;exact K _ hs _ _ hQ d p' Inb F gs4 w4 sl4 T4 _ ⟨h0,hrun,hseat,hPX,hn00,hw00⟩ (Standing.conf hok hstand rfl rfl (by
    show ∀v∈_,Stab (Kn hs.next (S.set k (Ob.thr self quit true false cur none)).length) F v;rw[hlen];exact zcK hst (fun F2 _=>by simp) o.dst)) (by rw[show p'.h=0 from h0];exact k4) rfl hF hN (by show C0<=(S.set k (Ob.thr self quit true false cur none)).length;rw[hlen];exact hC0)
end
def zou(w00:World)(v:Value)(m:Machine)(T:Trace):Prop :=
  ∃N last o w' t',runNT Try.prog (N+1) m T=(.ended o w',t')/\runN Try.prog N m=.next last/\step Try.prog last=.ended o w'/\qL Try.prog (fun r w'=>r=v/\qp w00.heap.size w00 w') last o w' t'
def FinL(w00:World)(v:Value)(_:Unit)(m:Machine)(T:Trace):Prop:=SOs w00 m.world->zou w00 v m T
variable {v:Value}
theorem zks{m:Machine}{T:Trace}(hm:m.world=w00)(h:Reach Try.prog m T (FinL w00 v ())):zou w00 v m T:=by
  obtain⟨N0,m',t0,hr,hso,hF⟩:=h;rw[hm]at hso;obtain⟨M,last,o,w',t',e1,e2,e3,e4⟩:=hF hso;refine⟨N0+M,last,o,w',t',?_,?_,e3,e4⟩
  . rw[Nat.add_assoc,runNT_add,hr];exact e1
  . rw[runN_add,<-runNT_fst Try.prog _ _ T,hr];exact e2
section
variable (hok:∀ mn OB WB,zav mn OB WB)
variable {Γ:Type}(Pr:Proto Γ)
theorem zbu{k:Nat}{ob:Ob}(h:([]:St)[k]?=some ob):False:=by simp at h
theorem znu{P:Program}{fr:Frame}{w:World}{fn:Func}{t:Tmp}(hl:fr.leaving P w (.returned v))(hf:P.funcs[fr.fn]?=some fn)(hr:fn.results=#[.tmp t])(hi:P.inits.idxOf? fr.fn=none):stepG P true (ql fr []) w=.ended (.done v) w #[]:=by
  obtain⟨h1,h2,h3,fn',h4,h5⟩:=hl;rw[hf]at h4;cases h4;have he:=events_results_tmp (P:=P) (w:=w) hr fr.tmps #[];obtain⟨fnI,tmps,todo,defers,mode,kind,_⟩:=fr;simp only at h1 h2 h3 hf h5 he hi;subst h1 h2 h3;simp[ql,stepG,unwind,doReturn,hf,h5,he,hi,seen,GStep.after]
theorem zqp(hv:zab v=true){b:Frame}{fn:Func}{t:Tmp}(hf:Try.prog.funcs[b.fn]?=some fn)(hr:fn.results=#[.tmp t])(hi:Try.prog.inits.idxOf? b.fn=none){N0 C0:Nat}{hs:AHeap}{S:St}{γ:Γ×St}(hkeep:KeepC γ.2 S)(hidle:∀(k:Nat) a b c d e f,S[k]?=some (Ob.thr a b c d e f)->d=false):Safe hok (ClM w00.heap.size w00) (SuM hok Pr) (FinL w00 v) b [] F0 N0 C0 (.done v hs S) γ:=by
  intro d p Inb F gs w sl T g hC H hg hS _ _ _;refine .here fun hso=>?_;obtain⟨h0,hrun,hseat,hPX,hn00,hw00⟩:=id hC;have H:Standing p hok (SuM hok Pr d γ.1) S F (.done v hs S) Inb gs w T:=Standing.keep (c:=.done v hs S) hok hkeep H;obtain⟨fr,rfl,hfn,hl,_⟩:=hS;rw[zaG F hv]at hl;obtain⟨B,Mem,q,R,hM0,_⟩:=H.com.ring;rw[h0]at R hg hl;have hnone:∀i,i≠0->Inb i=none:=fun i hi=>by
    cases e:Inb i with
    | none=>rfl
    | some s =>
      obtain⟨k,a1,a2,a3,a4,a5,a6,_,a8⟩:=(H.com.seats i s e).2.2 hi;have:=hidle _ _ _ _ _ _ _ a8;cases this
  obtain⟨L,Pp⟩:=zoa R hM0 hnone;refine beside_ends (P:=Try.prog) (Shun:=fun _=>False) (B:=B) (D:=fun _ _ _=>False) (Post:=fun r w'=>r=v/\qp w00.heap.size w00 w') (n:=0) (fun _ _ _ h=>h.elim) hg L Pp ?_;intro w1 hw1;obtain⟨dd,rfl⟩:=hw1;refine⟨rfl,v,#[],znu (hl _ ⟨fun _ _=>rfl,rfl,rfl⟩) (by rw[hfn];exact hf) hr (by rw[hfn];exact hi),fun e he=>by simp at he,rfl,?_⟩
  have hb:=H.base;rw[hn00,hw00]at hb;exact⟨hso.os,hso.tape,hso.output,hb.size,fun x hx=>(hb.low x hx).2.2.2⟩
theorem zmT{Fin:Unit->Machine->Trace->Prop}{f:FuncId}{fg:Func}{cd:Code}{args:Array Value}{hs:AHeap}{γ:Γ}(hf:Try.prog.funcs[f]?=some fg)(hbd:fg.body=some cd)(hH:Holds F hs w00)(hl:hs.Low)(hV:hs.next<=VB)(hro:∀n r,hs.get n=some r->r.ro=true)(hst:∀u∈args,Stab (Kn hs.next 0) F u)(hc:∀n r,hs.get n=some r->∀v∈r.cells,Stab (Kn hs.next 0) F v)(hF0:Same (Kn 0 0) F0 F)(h:Safe hok (ClM w00.heap.size w00) (SuM hok Pr) Fin (zhT f) [] F0 0 0 (.run (zai fg cd args).1 (zai fg cd args).2 hs []) (γ,[])):
    Reach Try.prog (solo (ql (qs Try.prog f (args.map (ren F)) .normal) []) w00) #[] (Fin ()):=by
  rw[zf5 hf hbd,solo_eq_crowd]
  let p:Par:=⟨0,none,fun _=>False,fun _=>False,fun _ _=>True,none,fun _=>False,w00,F,0,0,w00.heap.size,w00⟩
  have hp:p.mn=true:=rfl;have R0:RingO Try.prog (fun _=>False) (fun _=>False) 0 (fun _ _=>True) (fun g=>g=0) (fun _=>none) 0 #[] #[ql ((zhT f).at (actF F (zai fg cd args).2) (zai fg cd args).1) []] w00 (fun _=>0):=zkh (leavers_one _ _) past_nil _ (fun _ _ _ _ _=>trivial) (qm _);have hV':hs.next<=VB:=hV;have hI:RInv (p.X hok) F (.run (zai fg cd args).1 (zai fg cd args).2 hs []) w00:=by
    refine⟨⟨hH,⟨fun k ob hk _=>(zbu hk).elim,fun k ob hk=>(zbu hk).elim,fun k k' ob ob' _ hk=>(zbu hk).elim,fun k ob hk=>(zbu hk).elim,fun b hb=>hb.elim⟩,fun u hu=>?_,hc,fun n r hr=>⟨.inl (hl n r hr),by have:=hl n r hr;omega⟩,fun n h1 h2=>?_,fun n hn=>?_,Kept.refl _ _,fun _ _ _ _ _=>trivial,fun _ _ _=>trivial,fun n r hr hf=>?_⟩,hV⟩
    . have hu:u∈(zai fg cd args).2:=hu;simp only[zai,qO]at hu;rcases hu with hu|hu
      . exact hst u (by simpa using hu)
      . rw[List.eq_of_mem_replicate hu];exact Stab.undef
    . have h2:n<VB+0:=h2;omega
    . rcases hn with hn|⟨h1,hn⟩
      . have hn:n<hs.next:=hn;show n<VB+0;omega
      . have hn:n<VB+0:=hn;omega
    . obtain⟨k,ob,hk,_⟩:=hf;exact zbu hk
  have hno:∀{k s c},¬ChS ([]:St) k s c:=fun {k s c} h=>by
    cases h with
    | quit h=>exact zbu h
    | done h=>exact zbu h
    | ask h=>exact zbu h
    | grant h=>exact zbu h
  have H:Standing p hok (SuM hok Pr () γ) [] F (.run (zai fg cd args).1 (zai fg cd args).2 hs []) (fun _=>none) #[ql ((zhT f).at (actF F (zai fg cd args).2) (zai fg cd args).1) []] w00 #[]:=by
    refine⟨⟨⟨0,(fun g=>g=0),(fun _=>0),R0,rfl,rfl⟩,⟨fun b=>⟨fun z=>z.elim,fun⟨k,_,_,_,_,_,_,hk,_⟩=>(zbu hk).elim⟩,fun b=>⟨fun z=>z.elim,fun⟨k,_,_,_,_,_,hk,_⟩=>(zbu hk).elim⟩,fun _ _ _ _ _ h=>absurd h hno,fun _ _ _ h=>absurd h hno,fun _ z=>z.elim,fun _ _ _ _ _ _ h=>(zbu h).elim,fun _ _ _ _ _ _ h=>(zbu h).elim⟩,rfl,fun _ _ h=>(by cases h),fun _ _ _ _ _ _ _ _ h=>(zbu h).elim,hV,qo _⟩,hI,fun z=>absurd rfl z,fun _ z=>z.elim,fun _ z=>z.elim,fun _ _ _ z=>z.elim,⟨fun x hx=>⟨hx,fun hT=>?_,fun z=>z,rfl⟩,fun _ _ _ h=>absurd h hno⟩,Same.refl _ _,qm _,qm _⟩
    rcases hT with⟨n,r,h1,h2,_⟩|⟨k,ob,hk,_⟩
    . have:=hro n r h1;rw[h2]at this;cases this
    . exact zbu hk
  exact h () p _ F _ w00 none #[] _ ⟨rfl,rfl,rfl,fun _ z=>z,rfl,rfl⟩ H rfl rfl hF0 (qm _) (qm _)
end
end Go.Proofs.Ytkjmaapbeicmkaa
namespace Go.Proofs.Ytkjmaapbeicmkaa
open Go Go.RowKit
abbrev geo0(N T:Nat):Array Value:=#[.int .i64 N,.int .i64 T,.int .i64 0,.int .i64 0,.int .i64 0,.int .i64 0,.int .i64 0,.int .i64 0,.int .i64 0,.int .i64 0,.int .i64 0,.int .i64 0,.int .i64 0,.int .i64 0,.int .i64 0,.int .i64 0,.int .i64 0,.int .i64 0,.int .i64 0,.int .i64 0,.int .i64 0,.int .i64 0]
theorem zh2(N T:Nat)(w:World)(hT:T<=64):PureD 34 #[.agg (geo0 N T)] (.int .i64 (2 * (T:Int)+2)):=by
  unfold PureD;refine Does.mk Try.func34 rfl rfl ?clo ?hand ?_
  case clo=>exact clo1 (Clo.plain (by simp[zab]))
  case hand=>exact Hand.plain rfl
  rw[Try.ntmps34];simp only[zSt,zLc,zLn,qd,zCa,zNa];have w4:qa.wrap (2 * (T:Int))=2 * (T:Int):=wrap_i64 (by omega) (by omega)
  have w5:qa.wrap (2 * (T:Int)+2)=2 * (T:Int)+2:=wrap_i64 (by omega) (by omega)
  refine viaF (And.intro w4 w5) ?_;exact Goes.fin rfl rfl rfl
theorem zdV(N T:Nat)(w:World)(h:1<=N)(hN:N<=256)(hT:T<=64):PureD 35 #[.agg (geo0 N T)] (.int .i64 (gM N T:Int)):=by
  unfold PureD;refine Does.mk Try.func35 rfl rfl ?clo ?hand ?_
  case clo=>exact clo1 (Clo.plain (by simp[zab]))
  case hand=>exact Hand.plain rfl
  rw[Try.ntmps35];simp only[zSt,zLc,zLn,qd,zCa,zNa];have h0:((N:Int)==0)=false:=by simp;omega
  have e1:(T:Int) * 4<=256:=by omega
  have e2:(T:Int) * 4 * (N+1)<=256 * 257:=qz e1 (by omega) (by omega) (by omega)
  have e3:(T:Int) * (2 * T+3)<=64 * 131:=qz (by omega) (by omega) (by omega) (by omega)
  have e4:(0:Int)<=(T:Int) * 4 * (N+1):=qy (by omega) (by omega)
  have e5:(0:Int)<=(T:Int) * (2 * T+3):=qy (by omega) (by omega)
  have w1:qa.wrap ((T:Int) * 4)=(T:Int) * 4:=wrap_i64 (by omega) (by omega)
  have w2:qa.wrap ((N:Int)+1)=(N:Int)+1:=wrap_i64 (by omega) (by omega)
  have w3:qa.wrap ((T:Int) * 4 * (N+1))=(T:Int) * 4 * (N+1):=wrap_i64 (by omega) (by omega)
  have w4:qa.wrap (2 * (T:Int))=2 * (T:Int):=wrap_i64 (by omega) (by omega)
  have w5:qa.wrap (2 * (T:Int)+3)=2 * (T:Int)+3:=wrap_i64 (by omega) (by omega)
  have w6:qa.wrap ((T:Int) * (2 * T+3))=(T:Int) * (2 * T+3):=wrap_i64 (by omega) (by omega)
  have w7:qa.wrap ((T:Int) * 4 * (N+1)+(T:Int) * (2 * T+3))=(T:Int) * 4 * (N+1)+(T:Int) * (2 * T+3):=wrap_i64 (by omega) (by omega)
  rw[zti];refine viaF (And.intro h0 (And.intro w1 (And.intro w2 (And.intro w3 (And.intro w4 (And.intro w5 (And.intro w6 w7))))))) ?_;exact Goes.fin rfl rfl rfl
theorem zfH(N T:Nat)(w:World)(hN1:1<=N)(hN:N<=256)(hT1:1<=T)(hT:T<=64):PureD 21 #[.int .i64 N,.int .i64 T] (.tuple #[.agg (geoC N T),.bool true]):=by
  unfold PureD;refine Does.mk Try.func21 rfl rfl ?clo ?hand ?_
  case clo=>exact clo2 iclo iclo
  case hand=>exact Hand.plain (by simp[zab,geoC])
  rw[Try.ntmps21];simp only[zSt,zLc,zLn,qd,zCa,zNa];have m3:(T:Int) * (2 * T+2)<=64 * 130:=qz (by omega) (by omega) (by omega) (by omega)
  have m4:(0:Int)<=(T:Int) * (2 * T+2):=qy (by omega) (by omega)
  have m5:(gM N T:Int)<=74176:=by
    have h1:T * 4 * (N+1)<=64 * 4 * 257:=Nat.mul_le_mul (by omega) (by omega)
    have h2:T * (2 * T+3)<=64 * 131:=Nat.mul_le_mul hT (by omega)
    unfold gM;omega
  have w1:qa.wrap ((N:Int) * 8)=(N:Int) * 8:=wrap_i64 (by omega) (by omega)
  have w2:qa.wrap ((T:Int) * 4)=(T:Int) * 4:=wrap_i64 (by omega) (by omega)
  have w3:qa.wrap ((T:Int) * 4 * 2)=(T:Int) * 4 * 2:=wrap_i64 (by omega) (by omega)
  have w4:qa.wrap ((T:Int) * 2)=(T:Int) * 2:=wrap_i64 (by omega) (by omega)
  have w5:qa.wrap ((T:Int) * (2 * T+2))=(T:Int) * (2 * T+2):=wrap_i64 (by omega) (by omega)
  have w6:qa.wrap ((gM N T:Int) * 8)=(gM N T:Int) * 8:=wrap_i64 (by omega) (by omega)
  have gl:∀i,i<=19->(gsum N T i:Int)<=11400000:=fun i hi=>by have:=zkX N T hN hT i;omega
  have g0:∀{i:Nat} {x:Int},i<19->x=(gsz N T i:Int)->qa.wrap ((gsum N T i:Int)+x)=(gsum N T (i+1):Int):=fun {i x} hi hx=>by
    have h1:=gl (i+1) (by omega)
    rw[hx,show((gsum N T i:Int)+(gsz N T i:Int))=((gsum N T (i+1):Nat):Int) from by rw[gsum];push_cast;rfl]
    exact wrap_i64 (by omega) (by omega)
  have s6:qa.wrap ((gsum N T 6:Int)+(T:Int))=(gsum N T 7:Int):=g0 (by omega) (by simp[gsz])
  have s7:qa.wrap ((gsum N T 7:Int)+(N:Int))=(gsum N T 8:Int):=g0 (by omega) (by simp[gsz])
  have s8:qa.wrap ((gsum N T 8:Int)+(N:Int))=(gsum N T 9:Int):=g0 (by omega) (by simp[gsz])
  have s9:qa.wrap ((gsum N T 9:Int)+(N:Int))=(gsum N T 10:Int):=g0 (by omega) (by simp[gsz])
  have s10:qa.wrap ((gsum N T 10:Int)+(N:Int) * 8)=(gsum N T 11:Int):=g0 (by omega) (by simp[gsz])
  have s11:qa.wrap ((gsum N T 11:Int)+(N:Int) * 8)=(gsum N T 12:Int):=g0 (by omega) (by simp[gsz])
  have s12:qa.wrap ((gsum N T 12:Int)+(T:Int) * 4 * 2)=(gsum N T 13:Int):=g0 (by omega) (by simp[gsz])
  have s13:qa.wrap ((gsum N T 13:Int)+(T:Int) * 4)=(gsum N T 14:Int):=g0 (by omega) (by simp[gsz])
  have s14:qa.wrap ((gsum N T 14:Int)+(T:Int) * 2)=(gsum N T 15:Int):=g0 (by omega) (by simp[gsz])
  have s15:qa.wrap ((gsum N T 15:Int)+(T:Int))=(gsum N T 16:Int):=g0 (by omega) (by simp[gsz])
  have s16:qa.wrap ((gsum N T 16:Int)+(T:Int) * (2 * T+2))=(gsum N T 17:Int):=g0 (by omega) (by simp[gsz])
  have s17:qa.wrap ((gsum N T 17:Int)+(gM N T:Int))=(gsum N T 18:Int):=g0 (by omega) (by simp[gsz])
  have s18:qa.wrap ((gsum N T 18:Int)+(gM N T:Int) * 8)=(gsum N T 19:Int):=g0 (by omega) (by simp[gsz])
  have e6:(21:Int)=(gsum N T 6:Int):=by simp[gsum,gsz]
  rw[<-e6]at s6;refine viaF (And.intro w1 (And.intro w2 (And.intro w3 (And.intro w4 (And.intro w5 w6))))) ?_;((first|refine qc1 rfl rfl fun K hK=>?_|refine qc3 rfl rfl fun K hK=>?_);simp (disch:=(first|omega|(simp only[sz]<;>omega)|fail)) only [go_sem];(first|refine⟨_,_,zh2 N T w hT,?_⟩|refine⟨_,_,Does.com (zh2 N T w hT),?_⟩);(try simp only[go_sem]);with_reducible refine hK _ _ ?_;clear hK K)
  refine viaF (And.intro w1 (And.intro w2 (And.intro w3 (And.intro w4 (And.intro w5 w6))))) ?_;((first|refine qc1 rfl rfl fun K hK=>?_|refine qc3 rfl rfl fun K hK=>?_);simp (disch:=(first|omega|(simp only[sz]<;>omega)|fail)) only [go_sem];(first|refine⟨_,_,zdV N T w hN1 hN hT,?_⟩|refine⟨_,_,Does.com (zdV N T w hN1 hN hT),?_⟩);(try simp only[go_sem]);with_reducible refine hK _ _ ?_;clear hK K)
  refine viaF (And.intro w1 (And.intro w2 (And.intro w3 (And.intro w4 (And.intro w5 w6))))) ?_;((first|refine qc1 rfl rfl fun K hK=>?_|refine qc3 rfl rfl fun K hK=>?_);simp (disch:=(first|omega|(simp only[sz]<;>omega)|fail)) only [go_sem];(first|refine⟨_,_,zdV N T w hN1 hN hT,?_⟩|refine⟨_,_,Does.com (zdV N T w hN1 hN hT),?_⟩);(try simp only[go_sem]);with_reducible refine hK _ _ ?_;clear hK K)
  refine zuD (And.intro w1 (And.intro w2 (And.intro w3 (And.intro w4 (And.intro w5 (And.intro w6 (And.intro s6 (And.intro s7 (And.intro s8 (And.intro s9 (And.intro s10 (And.intro s11 (And.intro s12 (And.intro s13 (And.intro s14 (And.intro s15 (And.intro s16 (And.intro s17 s18)))))))))))))))))) ?_;have hb:∀i,gb N T i=gsum N T i:=fun i=>if_neg (by omega)
  have b0:(gb N T 0:Int)=0:=by rw[hb];simp[gsum]
  have b1:(gb N T 1:Int)=1:=by rw[hb];simp[gsum,gsz]
  have b2:(gb N T 2:Int)=2:=by rw[hb];simp[gsum,gsz]
  have b3:(gb N T 3:Int)=7:=by rw[hb];simp[gsum,gsz]
  have b4:(gb N T 4:Int)=16:=by rw[hb];simp[gsum,gsz]
  have b5:(gb N T 5:Int)=17:=by rw[hb];simp[gsum,gsz]
  have b6:(gb N T 6:Int)=21:=by rw[hb];simp[gsum,gsz]
  rw[zbj,b0,b1,b2,b3,b4,b5,b6,hb 7,hb 8,hb 9,hb 10,hb 11,hb 12,hb 13,hb 14,hb 15,hb 16,hb 17,hb 18,hb 19];refine Goes.fin rfl (by simp (disch:=(first|omega|(simp only[zaa,zLc,zLn,zSt,zad]<;>omega)|fail)) only [go_sem,resA,zaC,Try.results21]<;>rfl) ?_
  rfl
variable {S:St}{p m s':Nat}
theorem zgb{ob:Ob}(h:S[p]?=some ob):p<S.length:=(qe.1 h).1
variable {me me':Int}{ws ws':List UInt64}{bs bs':List UInt8}
theorem zlq{a:Nat}{s:Nat}(h:S[p]?=some (.port a me s))(hm:S[m]?=some (.mem ws bs)):p≠m:=by
  rintro rfl;rw[h]at hm;cases hm
theorem zgq{a:Nat}{s:Nat}(h:S[p]?=some (.port a me s))(hm:S[m]?=some (.mem ws bs)):(accS S p m me' s' ws' bs')[p]?=some (.port m me' s'):=(zl1 h hm (zlq h hm)).1
theorem zgn{a:Nat}{s:Nat}(h:S[p]?=some (.port a me s))(hm:S[m]?=some (.mem ws bs)):(accS S p m me' s' ws' bs')[m]?=some (.mem ws' bs'):=(zl1 h hm (zlq h hm)).2
theorem zfW(hne:p≠m){s:Nat}:accS (accS S p m me s ws bs) p m me' s' ws' bs'=accS S p m me' s' ws' bs':=by
  unfold accS;rw[List.set_comm _ _ (Ne.symm hne),List.set_set,List.set_set]
theorem zeA(S:St)(N T:Nat)(hN1:1<=N)(hN:N<=256)(hT1:1<=T)(hT:T<=64)(hw:gb N T 19<=2097152):
    Does OF 6 #[.int .i64 N,.int .i64 T] [] S (.tuple #[.agg (geoC N T),hndV S.length]) (S++[.mem (qd (gb N T 19) 0) (qd (64 * N) 0)]):=by
  refine Does.mk Try.func6 rfl rfl ?clo ?hand ?_
  case clo=>exact clo2 iclo iclo
  case hand=>exact zu9 zuC (zhM (by simp[OF]))
  rw[Try.ntmps6];simp only[zSt,zLc,zLn,qd,zCa,zNa];refine via ?_;((first|refine qp1 rfl rfl fun K hK=>?_|refine qp3 rfl rfl fun K hK=>?_);simp (disch:=(first|omega|(simp only[sz]<;>omega)|fail)) only [go_sem];(first|refine⟨_,_,(qpd fun w=>zfH N T w hN1 hN hT1 hT),?_⟩|refine⟨_,_,(qpu fun w=>zfH N T w hN1 hN hT1 hT),?_⟩|refine⟨_,_,.com (qpd fun w=>zfH N T w hN1 hN hT1 hT),?_⟩|refine⟨_,_,.com (qpu fun w=>zfH N T w hN1 hN hT1 hT),?_⟩);(try simp only[go_sem]);with_reducible refine hK _ _ ?_;clear hK K)
  refine via ?_;((first|refine qp1 rfl rfl fun K hK=>?_|refine qp3 rfl rfl fun K hK=>?_);simp (disch:=(first|omega|(simp only[sz]<;>omega)|fail)) only [go_sem];(first|refine⟨_,_,(qpd fun w=>zdR N T w),?_⟩|refine⟨_,_,(qpu fun w=>zdR N T w),?_⟩|refine⟨_,_,.com (qpd fun w=>zdR N T w),?_⟩|refine⟨_,_,.com (qpu fun w=>zdR N T w),?_⟩);(try simp only[go_sem]);with_reducible refine hK _ _ ?_;clear hK K)
  refine via ?_;((first|refine qp1 rfl rfl fun K hK=>?_|refine qp3 rfl rfl fun K hK=>?_);simp (disch:=(first|omega|(simp only[sz]<;>omega)|fail)) only [go_sem];(first|refine⟨_,_,(qpd fun w=>zdW N T w),?_⟩|refine⟨_,_,(qpu fun w=>zdW N T w),?_⟩|refine⟨_,_,.com (qpd fun w=>zdW N T w),?_⟩|refine⟨_,_,.com (qpu fun w=>zdW N T w),?_⟩);(try simp only[go_sem]);with_reducible refine hK _ _ ?_;clear hK K)
  refine via ?_;have e:(64 * (N:Int))=((64 * N:Nat):Int):=by push_cast;rfl
  rw[e];((first|refine qp1 rfl rfl fun K hK=>?_|refine qp3 rfl rfl fun K hK=>?_);simp (disch:=(first|omega|(simp only[sz]<;>omega)|fail)) only [go_sem];(first|refine⟨_,_,.mnew _ _ hw (by omega),?_⟩|refine⟨_,_,.com (.mnew _ _ hw (by omega)),?_⟩);(try simp only[go_sem]);with_reducible refine hK _ _ ?_;clear hK K)
  refine via ?_;refine Goes.fin rfl (by simp (disch:=(first|omega|(simp only[zaa,zLc,zLn,zSt,zad]<;>omega)|fail)) only [go_sem,resA,zaC,Try.results6]<;>rfl) ?_
  rfl
end Go.Proofs.Ytkjmaapbeicmkaa
namespace Go.Proofs.Ytkjmaapbeicmkaa
open Go Go.Conc
open Go.RowKit
def MF:Face Try.prog St where
  mix:=Try.mix
  cnt:=List.length
  rep:=fun _ _ _=>False
  fp:=fun _ _ _=>False
  prim:=PrimM
  rep_same:=fun _ _ _ _ _ h=>h.elim
  rep_kept:=fun _ _ _ _ h=>h.elim
  fp_low:=fun _ _ _ _ h=>h.elim
  prim_hand:=fun _ _ _ _ _ h=>⟨h.len,h.hand⟩
  prim_ok:=fun _ _ _ _ _ _ _ _ h=>h.elim
variable {v:Value}
theorem Does.com{f:FuncId}{args:Array Value}{l:List Blk}{S S':St}(D:Does OF f args l S v S'):Does MF f args l S v S':=by
  obtain⟨g,c,h1,a1,a2,a3,a4,a5,G⟩:=D;exact⟨g,c,h1,a1,a2,a3,a4,a5,Goes.face (X:=OF) (X':=MF) (fun _ _ _ _ _ h=>PrimM.com h) rfl G⟩
theorem Does.pure{f:FuncId}{args:Array Value}{S1:St}(D:Does OF f args [] [] v S1)(ha:args.all zab=true)(hv:zab v=true):zmG f args v:=fun w=>by
  have D':Does (XF false (fun _=>False) (fun _=>False) (zdy _ _ _)) f args [] [] v S1:=by
    obtain⟨g,c,h1,a1,a2,a3,a4,a5,G⟩:=D;exact⟨g,c,h1,a1,a2,a3,a4,a5,Goes.face (X:=OF) (X':=XF false (fun _=>False) (fun _=>False) (zdy _ _ _)) (fun _ _ _ _ _ h=>h) rfl G⟩
  exact zjP (F:=idE) D' ha hv rfl ⟨fun k ob h=>(zbu h).elim,fun k ob h=>(zbu h).elim,fun k k' ob ob' _ h=>(zbu h).elim,fun k ob h=>(zbu h).elim,fun b h=>h.elim⟩ fun b ⟨k,ob,h,_⟩=>(zbu h).elim
variable {w00:World}
section
variable {Γ:Type}(Pr:Proto Γ)
def SpM:SpT Γ:=fun f args hs S γ Q=>ztt f args hs S γ Q\/zoV Pr f args hs S γ Q\/zoR Pr f args hs S γ Q\/zrC f args hs S γ Q
variable {Pr}
theorem ztO{n00:Nat}{Fin:Unit->Machine->Trace->Prop}{Stk:List Frame->Prop}:SpOK zdy (ClM n00 w00) (SuM zdy Pr) Fin Stk (SpM Pr):=by
  intro f args hs S γ Q hsp;rcases hsp with h|h|h|h
  . exact ztr zdy f args hs S γ Q h
  . exact zqD zdy f args hs S γ Q h
  . exact zqA zdy f args hs S γ Q h
  . exact zqo zdy f args hs S γ Q h
end
section
variable {Γ:Type}{X:Face Try.prog St}{Sp:SpT Γ}{fn:Func}{A:Conf St->Γ × St->Prop}{ops:Array Oper}{k:List Item}{i:Nat}{tmps:List Value}{h:AHeap}{S:St}{o:Oper}{γ:Γ × St}{todo:List Item}
theorem GE.go{c:Conf St}(G:Goes X fn (fun c=>GE X Sp fn A c γ) c):GE X Sp fn A c γ:=.plain _ G fun _ h=>h
theorem qs1(ho:ops.toList[i]?=some o)(hw:Region.wanted o (zak ops tmps)=true)(hk:∀K:List Value->AHeap->St->Γ×St->Prop,(∀t h1 S1 γ',At X fn (fun c=>GE X Sp fn A c γ') ops k (i+1) t h1 S1->K t h1 S1 γ')->zdT (fun f args=>Sp f args h S γ (fun v h1 S1 γ'=>K (putL o.dst v tmps) h1 S1 γ')) (zaQ Try.prog (evA tmps) o.op))(hb:opOK o.op=true:=by rfl):
    At X fn (fun c=>GE X Sp fn A c γ) ops k i tmps h S:=by
  unfold At;rw[zeF (za1 ho)];have:=hk _ fun _ _ _ _ h=>h;cases hv:zaQ Try.prog (evA tmps) o.op with
  | none=>rw[hv]at this;exact this.elim
  | some x =>
    obtain⟨f,args⟩:=x;rw[hv]at this;exact .here (.spec f args _ (za1 ho) hw (zaZ hb) hv this fun v h1 S1 γ' hq=>GE.go hq)
def Runs(X:Face Try.prog St)(Sp:SpT Γ)(f:FuncId)(args:Array Value)(h:AHeap)(S:St)(γ:Γ×St)(Q:Value->AHeap->St->Γ×St->Prop):Prop :=
  ∃g c,Try.prog.funcs[f]?=some g/\goB g=true/\g.body=some c/\GE X Sp g (fun x γ'=>∃v h1 S1,x=.done v h1 S1/\Q v h1 S1 γ') (.run (zai g c args).1 (zai g c args).2 h S) γ
theorem Runs.mono{f:FuncId}{args:Array Value}{Q Q':Value->AHeap->St->Γ×St->Prop}(R:Runs X Sp f args h S γ Q)(hq:∀v h1 S1 γ',Q v h1 S1 γ'->Q' v h1 S1 γ'):Runs X Sp f args h S γ Q':=by
  obtain⟨g,c,a1,a2,a3,G⟩:=R;exact⟨g,c,a1,a2,a3,G.mono fun x γ' ⟨v,h1,S1,e,q⟩=>⟨v,h1,S1,e,hq _ _ _ _ q⟩⟩
theorem Runs.mk{f:FuncId}{g:Func}{c:Code}{args:Array Value}{Q:Value->AHeap->St->Γ×St->Prop}(hf:Try.prog.funcs[f]?=some g)(hg:goB g=true)(hb:g.body=some c)(hrun:Goes X g (fun c=>GE X Sp g (fun x γ'=>∃v h1 S1,x=.done v h1 S1/\Q v h1 S1 γ') c γ) (.run [.code c] (args.toList++qd (g.ntmps - args.size) undef) h S)):Runs X Sp f args h S γ Q:=⟨g,c,hf,hg,hb,GE.go hrun⟩
theorem qg1(ho:ops.toList[i]?=some o)(hw:Region.wanted o (zak ops tmps)=true)(hk:∀K:List Value->AHeap->St->Γ×St->Prop,(∀t h1 S1 γ',At X fn (fun c=>GE X Sp fn A c γ') ops k (i+1) t h1 S1->K t h1 S1 γ')->zdT (fun f args=>Runs X Sp f args h S γ (fun v h1 S1 γ'=>K (putL o.dst v tmps) h1 S1 γ')) (zaQ Try.prog (evA tmps) o.op))(hb:opOK o.op=true:=by rfl):
    At X fn (fun c=>GE X Sp fn A c γ) ops k i tmps h S:=by
  unfold At;rw[zeF (za1 ho)];have:=hk _ fun _ _ _ _ h=>h;cases hv:zaQ Try.prog (evA tmps) o.op with
  | none=>rw[hv]at this;exact this.elim
  | some x =>
    obtain⟨f,args⟩:=x;rw[hv]at this;obtain⟨g,c,a1,a2,a3,G⟩:=this;exact .here (.call f g c args _ (za1 ho) hw (zaZ hb) hv a1 a2 a3 G fun v h1 S1 γ' hq=>GE.go hq)
theorem Goes.endG(ht:retB todo=true)(hv:resA Try.prog fn tmps h=some v)(hA:A (.done v h S) γ):Goes X fn (fun c=>GE X Sp fn A c γ) (.run todo tmps h S):=.ret ht hv (.here (.here hA))
theorem Goes.retG{Q:Value->AHeap->St->Γ×St->Prop}(ht:retB todo=true)(hv:resA Try.prog fn tmps h=some v)(hA:Q v h S γ):Goes X fn (fun c=>GE X Sp fn (fun x γ'=>∃v h1 S1,x=.done v h1 S1/\Q v h1 S1 γ') c γ) (.run todo tmps h S):=Goes.endG ht hv ⟨v,h,S,rfl,hA⟩
end
def Idle(S:St):Prop:=∀(k:Nat) a b c d e f,S[k]?=some (Ob.thr a b c d e f)->d=false
theorem ziU{Γ:Type}{Pr:Proto Γ}{F:Emb}{f:FuncId}{fg:Func}{cd:Code}{t:Tmp}{args:Array Value}{hs:AHeap}{γ:Γ}(hf:Try.prog.funcs[f]?=some fg)(hbd:fg.body=some cd)(hr:fg.results=#[.tmp t])(hi:Try.prog.inits.idxOf? f=none)(hH:Holds F hs w00)(hl:hs.Low)(hV:hs.next<=VB)(hro:∀n r,hs.get n=some r->r.ro=true)(hst:∀u∈args,Stab (Kn hs.next 0) F u)(hc:∀n r,hs.get n=some r->∀v∈r.cells,Stab (Kn hs.next 0) F v)(G:GE MF (SpM Pr) fg (fun c γ'=>∃h1 S1,c=.done (.bool true) h1 S1/\KeepC γ'.2 S1/\Idle S1) (.run (zai fg cd args).1 (zai fg cd args).2 hs []) (γ,[])):
    ∃M last o w' t',runNT Try.prog (M+1) (solo (ql (qs Try.prog f (args.map (ren F)) .normal) []) w00) #[]=(.ended o w',t')/\runN Try.prog M (solo (ql (qs Try.prog f (args.map (ren F)) .normal) []) w00)=.next last /\
      step Try.prog last=.ended o w'/\qL Try.prog (fun v w'=>v=.bool true/\qp w00.heap.size w00 w') last o w' t':=by
  have hS:=GE.safe (hok:=zdy) (Cl:=ClM w00.heap.size w00) (Su:=SuM zdy Pr) (Fin:=FinL w00 (.bool true)) (Stk:=fun _=>True) (fun _ _ _ _ _ _ _ _=>trivial) (fun d γ p _=>SuM.mono zdy Pr d γ.1) (fun d γ p hC f a S v S' h=>by
      have e:p.mn=true:=by simp[Par.mn,hC.1]
      rw[e];exact h) rfl ztO G (zhT f) [] F 0 0 hf rfl trivial (fun c' γ' ⟨h1,S1,hc,hk,hi'⟩=>by
      subst hc;exact zqp zdy Pr rfl (b:=zhT f) hf hr hi hk hi')
  exact zks rfl (zmT zdy Pr hf hbd hH hl hV hro hst hc (F0:=F) (Same.refl _ _) hS)
end Go.Proofs.Ytkjmaapbeicmkaa
namespace Go.Proofs.Ytkjmaapbeicmkaa
open Go Go.RowKit
def farA(ns:List Nat)(h:AHeap):AHeap:=⟨fun n=>match ns.elem n with|true=>(h.get n).map (fun b=>{ b with ro:=true })|false=>none,h.next⟩
theorem zp2{ns:List Nat}{h:AHeap}{n:Nat}:(farA ns h).get n=match ns.elem n with|true=>(h.get n).map (fun b=>{ b with ro:=true })|false=>none:=rfl
section
variable {P:Program}{σ:Type}{X:Face P σ}{fn:Func}{A:Conf σ->Prop}{ops:Array Oper}{k:List Item}{i:Nat}{tmps:List Value}{h:AHeap}{S:σ}{o:Oper}
variable {W:List Nat}{n0:Nat}{hf:AHeap}{Kf:List Value->AHeap->σ->Prop}{born:List (Nat × Nat)}
end
attribute [go_sem] zp2 List.elem_cons List.elem_nil Option.map_some
attribute [go_sem_proc] Nat.reduceBEq
variable {l ys:List (Option Blk)}
theorem zlZ{q:Nat}(h:l.length<=q):zaw l q ys=zaw (l++qd (q - l.length) none++ys) (q+ys.length) []:=by
  refine zic (fun n=>?_) (by simp[zeB])
  have e:(l++qd (q - l.length) none).length=q:=by simp;omega
  by_cases hn:n<q
  . rw[zeU hn,zeU (by omega),qf (by omega)]
    by_cases h2:n<l.length
    . rw[qf h2]
    . rw[qb (by omega),qC (by omega),List.getElem?_replicate]
      split<;>rfl
  . obtain⟨i,rfl⟩:∃i,n=q+i:=⟨n - q,by omega⟩
    rw[zgV];by_cases h3:i<ys.length
    . rw[zeU (by omega),qb (by omega),e,Nat.add_sub_cancel_left]
    . rw[qC (by omega)]
      obtain⟨j,rfl⟩:∃j,i=ys.length+j:=⟨i - ys.length,by omega⟩
      rw[<-Nat.add_assoc,zgV];rfl
def Ge(l l':List (Option Blk)):Prop:=∀(n:Nat) (b:Blk),l[n]?=some (some b)->l'[n]?=some (some b)
theorem Ge.refl(l:List (Option Blk)):Ge l l:=fun _ _ h=>h
theorem Ge.trans{l' l'':List (Option Blk)}(h:Ge l l')(h':Ge l' l''):Ge l l'':=fun n b k=>h' n b (h n b k)
theorem Ge.fold(l ys:List (Option Blk))(q:Nat):Ge l (l++qd (q - l.length) none++ys):=by
  intro n b h;have hn:n<l.length:=(qe.1 h).1;rw[List.append_assoc,qf hn];exact h
theorem znX{q i:Nat}(h:l.length<=q):(l++qd (q - l.length) none++ys)[q+i]?=ys[i]?:=by
  rw[qb (by simp;omega)]
  congr 1;simp;omega
theorem zl7{q:Nat}(h:l.length<=q):(l++qd (q - l.length) none++ys).length=q+ys.length:=by simp;omega
section
variable {P:Program}{σ:Type}{X:Face P σ}{fn:Func}{A:Conf σ->Prop}{ops:Array Oper}{k:List Item}{i:Nat}{tmps:List Value}{h:AHeap}{S:σ}{o:Oper}{todo:List Item}
def DoesD(X:Face P σ)(f:FuncId)(args:Array Value)(h:AHeap)(S:σ)(v:Value)(h1:AHeap)(S1:σ):Prop :=
  ∃g c,P.funcs[f]?=some g/\goB g=true/\g.body=some c/\Goes X g (fun x=>x=.done v h1 S1) (.run [.code c] (args.toList++qd (g.ntmps - args.size) undef) h S)
theorem DoesD.mk{f:FuncId}{g:Func}{c:Code}{args:Array Value}{Q:Value->AHeap->σ->Prop}(hf:P.funcs[f]?=some g)(hg:goB g=true)(hb:g.body=some c)(hrun:Goes X g (fun x=>∃v h1 S1,Q v h1 S1/\x=.done v h1 S1) (.run [.code c] (args.toList++qd (g.ntmps - args.size) undef) h S)):∃v h1 S1,Q v h1 S1/\DoesD X f args h S v h1 S1:=by
  obtain⟨c',⟨v,h1,S1,hq,rfl⟩,G⟩:=hrun.out;exact⟨v,h1,S1,hq,g,c,hf,hg,hb,G⟩
variable {W:List Nat}{n0:Nat}{Kf:List Value->AHeap->σ->Prop}{born:List (Nat × Nat)}
variable {hf:AHeap}
variable {l ys:List (Option Blk)}{q:Nat}
theorem At.folds(hl:l.length<=q)(hk:∀lf:List (Option Blk),lf.length=q+ys.length->Ge l lf->(∀i,lf[q+i]?=ys[i]?)->At X fn A ops k i tmps (zaw lf (q+ys.length) []) S):At X fn A ops k i tmps (zaw l q ys) S:=by
  rw[zlZ hl];exact hk _ (zl7 hl) (Ge.fold l ys q) fun i=>znX hl
theorem Goes.folds(hl:l.length<=q)(hk:∀lf:List (Option Blk),lf.length=q+ys.length->Ge l lf->(∀i,lf[q+i]?=ys[i]?)->Goes X fn A (.run todo tmps (zaw lf (q+ys.length) []) S)):Goes X fn A (.run todo tmps (zaw l q ys) S):=by
  rw[zlZ hl];exact hk _ (zl7 hl) (Ge.fold l ys q) fun i=>znX hl
theorem At.named(hk:∀lf:List (Option Blk),lf=l->At X fn A ops k i tmps (zaw lf q ys) S):At X fn A ops k i tmps (zaw l q ys) S:=hk l rfl
theorem Goes.named(hk:∀lf:List (Option Blk),lf=l->Goes X fn A (.run todo tmps (zaw lf q ys) S)):Goes X fn A (.run todo tmps (zaw l q ys) S):=hk l rfl
end
end Go.Proofs.Ytkjmaapbeicmkaa
namespace Go.Proofs.Ytkjmaapbeicmkaa
open Go Go.Conc
open Go.RowKit
variable {h:AHeap}{S S':St}{n q q' j gr qt x2 q1:Nat}
section
variable {Γ:Type}(Pr:Proto Γ)(k hp:Nat)
def Ask(a:Nat×Int×UInt64×UInt64)(h:AHeap)(S:St)(γ:Γ×St)(Q:UInt64->AHeap->St->Γ×St->Prop):Prop :=
  SpB Pr k hp 86 #[hndV hp,accQ a] h S γ (fun v h1 S1 γ'=>∃x:UInt64,v=.int .u64 (x.toNat:Int)/\Q x h1 S1 γ')
variable {Pr k hp}
theorem SpB.mono{f:FuncId}{args:Array Value}{γ:Γ×St}{Q Q':Value->AHeap->St->Γ×St->Prop}(H:SpB Pr k hp f args h S γ Q)(hq:∀v h1 S1 γ',Q v h1 S1 γ'->Q' v h1 S1 γ'):SpB Pr k hp f args h S γ Q':=by
  obtain⟨γ1,q,wself,steps,ask,grant,quit,a1,a2,a3,a4,a5,a6,a7,a8,a9⟩:=H;exact⟨γ1,q,wself,steps,ask,grant,quit,a1,a2,a3,a4,a5,a6,a7,a8,fun v h1 γ2 S1 b1 b2 b3 b4 b5=>hq _ _ _ _ (a9 v h1 γ2 S1 b1 b2 b3 b4 b5)⟩
theorem Ask.mono{a:Nat×Int×UInt64×UInt64}{γ:Γ×St}{Q Q':UInt64->AHeap->St->Γ×St->Prop}(H:Ask Pr k hp a h S γ Q)(hq:∀v h1 S1 γ',Q v h1 S1 γ'->Q' v h1 S1 γ'):Ask Pr k hp a h S γ Q' :=
  SpB.mono H fun _ _ _ _ ⟨x,e,q⟩=>⟨x,e,hq _ _ _ _ q⟩
theorem Ask.mk{a:Nat×Int×UInt64×UInt64}{γ:Γ×St}{Q:UInt64->AHeap->St->Γ×St->Prop}(γ1:Γ)(q:Pr.Ph){wself:Int}{steps ask grant quit:Nat}(hacc:Pr.acc q=a)(hS:S=γ.2)(hwp:S[hp]?=some (.wp wself steps ask grant quit))(hI:Pr.Inv γ1 h S)(hph:Pr.ph γ1 k=some q)(ho:∀i,i≠k->Pr.ph γ1 i=Pr.ph γ.1 i)(hf:Pr.FC γ1 γ.1)(hQ:∀(v:UInt64) (h1:AHeap) (γ2:Γ) (S1:St),Pr.Run k q v γ2 h1 S1->Pr.fuel γ2<Pr.fuel γ1->h.next<=h1.next->S.length<=S1.length->S1[hp]?=some (.wp wself (steps+1) ask grant quit)->Q v h1 S1 (γ2,S1)):Ask Pr k hp a h S γ Q:=by
  subst hacc;exact⟨γ1,q,wself,steps,ask,grant,quit,rfl,rfl,hS,hwp,hI,hph,ho,hf,fun v h1 γ2 S1 b1 b2 b3 b4 b5=>⟨v,rfl,hQ v h1 γ2 S1 b1 b2 b3 b4 b5⟩⟩
theorem zsN{n:Int}{γ:Γ×St}{Q:Value->AHeap->St->Γ×St->Prop}(H:Ask Pr k hp (1,n,0,0) h S γ fun x h1 S1 γ'=>Q (.int .u64 (x.toNat:Int)) h1 S1 γ'):Runs OF (SpB Pr k hp) 80 #[hndV hp,.int .i64 n] h S γ Q:=by
  refine Runs.mk Try.func80 rfl rfl ?_;rw[Try.ntmps80];simp only[zSt,zLc,zLn,qd,zCa,zNa];refine via ?_;(refine qs1 rfl rfl fun K hK=>?_;simp (disch:=(first|omega|(simp only[sz]<;>omega)|fail)) only [go_sem])
  refine SpB.mono H fun v h1 S1 γ' ⟨x,e,hq⟩=>?_;subst e
  ((try simp only[go_sem]);with_reducible refine hK _ _ _ _ ?_;clear hK K)
  refine via ?_;refine Goes.retG rfl (by simp (disch:=(first|omega|(simp only[zaa,zLc,zLn,zSt,zad]<;>omega)|fail)) only [go_sem,resA,zaC,Try.results80]<;>rfl) ?_
  exact hq
theorem zut{n:Int}{A:UInt64}{γ:Γ×St}{Q:Value->AHeap->St->Γ×St->Prop}(H:Ask Pr k hp (4,n,A,0) h S γ fun x h1 S1 γ'=>Q (.int .u64 (x.toNat:Int)) h1 S1 γ'):Runs OF (SpB Pr k hp) 77 #[hndV hp,.int .i64 n,.int .u64 (A.toNat:Int)] h S γ Q:=by
  refine Runs.mk Try.func77 rfl rfl ?_;rw[Try.ntmps77];simp only[zSt,zLc,zLn,qd,zCa,zNa];refine via ?_;(refine qs1 rfl rfl fun K hK=>?_;simp (disch:=(first|omega|(simp only[sz]<;>omega)|fail)) only [go_sem])
  refine SpB.mono H fun v h1 S1 γ' ⟨x,e,hq⟩=>?_;subst e
  ((try simp only[go_sem]);with_reducible refine hK _ _ _ _ ?_;clear hK K)
  refine via ?_;refine Goes.retG rfl (by simp (disch:=(first|omega|(simp only[zaa,zLc,zLn,zSt,zad]<;>omega)|fail)) only [go_sem,resA,zaC,Try.results77]<;>rfl) ?_
  exact hq
end
inductive KP:Ob->Ob->Prop
  | same (o:Ob):KP o o
  | loose {o o':Ob} (h:zia o=true) (h':zia o'=true):KP o o'
  | pend {a b c d e f f'}:KP (.thr a b c d e f) (.thr a b c d e f')
variable {o o' X:Ob}
theorem KeepC.cons(h:KP o o')(H:KeepC S S'):KeepC (o::S) (o'::S'):=by
  refine⟨fun i a b c d e f z=>?_,fun i a b c d e f z=>?_,fun i a b c d e=>?_,fun i c z=>?_⟩
  . cases i with
    | zero =>
      simp only[zGz,qi]at z ⊢;subst z;cases h with
      | same=>exact⟨f,rfl⟩
      | loose h h'=>cases h'
      | pend=>exact⟨_,rfl⟩
    | succ i=>exact H.thr i a b c d e f z
  . cases i with
    | zero =>
      simp only[zGz,qi]at z ⊢;subst z;cases h with
      | same=>exact⟨f,rfl⟩
      | loose h h'=>cases h
      | pend=>exact⟨_,rfl⟩
    | succ i=>exact H.thr' i a b c d e f z
  . cases i with
    | zero =>
      simp only[zGz,qi];cases h with
      | same=>exact Iff.rfl
      | loose h h'=>constructor<;>(intro z;subst z;first|cases h'|cases h)
      | pend=>constructor<;>(intro z;cases z)
    | succ i=>exact H.wp i a b c d e
  . cases i with
    | zero =>
      simp only[zGz,qi]at z ⊢;subst z;cases h with
      | same=>rfl
      | loose h h'=>cases h
    | succ i=>exact H.box i c z
theorem KeepC.more(h:zia o'=true)(H:KeepC [] S'):KeepC [] (o'::S'):=by
  refine⟨fun i a b c d e f z=>?_,fun i a b c d e f z=>(zbu z).elim,fun i a b c d e=>?_,fun i c z=>(zbu z).elim⟩
  . cases i with
    | zero=>simp only[zGz,qi]at z;subst z;cases h
    | succ i=>exact H.thr i a b c d e f z
  . cases i with
    | zero =>
      constructor
      . intro z;simp only[zGz,qi]at z;subst z;cases h
      . intro z;exact(zbu z).elim
    | succ i =>
      constructor
      . intro z;exact((zbu ((H.wp i a b c d e).1 z))).elim
      . intro z;exact(zbu z).elim
theorem Idle.nil:Idle []:=fun _ _ _ _ _ _ _ h=>(zbu h).elim
theorem Idle.cons(h:∀a b c d e f,o=.thr a b c d e f->d=false)(H:Idle S):Idle (o::S):=fun k a b c d e f z=>by
  cases k with
  | zero=>simp only[zGz,qi]at z;exact h _ _ _ _ _ _ z
  | succ i=>exact H i a b c d e f z
theorem zpk{hs hs2:AHeap}:uniH hs hs hs2=hs2:=by
  refine zic (fun n=>?_) rfl;show(match hs2.get n with|some b=>some b|none=>if(hs.get n).isSome then none else hs.get n)=hs2.get n
  cases h2:hs2.get n with
  | some b=>rfl
  | none =>
    simp only;cases h:hs.get n<;>simp
theorem LendH.all(hs:AHeap):LendH hs hs:=⟨fun _ _ h=>h,rfl,fun _ _ _ _ _ h2 h3=>by rw[h2]at h3;cases h3⟩
section
variable {P:Program}{σ:Type}{X:Face P σ}{fn:Func}{A:Conf σ->Prop}{ops:Array Oper}{k:List Item}{i:Nat}{tmps:List Value}{S:σ}{l:List (Option Blk)}
theorem At.list(hk:∀lf:List (Option Blk),lf.length=l.length->Ge l lf->At X fn A ops k i tmps (zaw lf l.length []) S):At X fn A ops k i tmps (zaq l) S:=by
  rw[zrz];exact hk l rfl (Ge.refl l)
theorem Goes.list{todo:List Item}(hk:∀lf:List (Option Blk),lf.length=l.length->Ge l lf->Goes X fn A (.run todo tmps (zaw lf l.length []) S)):Goes X fn A (.run todo tmps (zaq l) S):=by
  rw[zrz];exact hk l rfl (Ge.refl l)
end
def LawRuns{Γ:Type}(Pr:Proto Γ)(f:FuncId)(args:Array Value)(l:List Blk)(γ:Γ):Prop :=
  ∃g c,Try.prog.funcs[f]?=some g/\g.body=some c/\GE MF (SpM Pr) g (fun c γ'=>∃h1 S1,c=.done (.bool true) h1 S1/\KeepC γ'.2 S1/\Idle S1) (.run (zai g c args).1 (zai g c args).2 (zaq (l.map some)) []) (γ,[])
theorem LawRuns.mk{Γ:Type}{Pr:Proto Γ}{f:FuncId}{g:Func}{c:Code}{args:Array Value}{l:List Blk}{γ:Γ}(hf:Try.prog.funcs[f]?=some g)(hb:g.body=some c)(hrun:Goes MF g (fun x=>GE MF (SpM Pr) g (fun c γ'=>∃h1 S1,c=.done (.bool true) h1 S1/\KeepC γ'.2 S1/\Idle S1) x (γ,[])) (.run [.code c] (args.toList++qd (g.ntmps - args.size) undef) (zaq (l.map some)) [])):LawRuns Pr f args l γ:=⟨g,c,hf,hb,GE.go hrun⟩
theorem Goes.endL{Γ:Type}{Pr:Proto Γ}{fn:Func}{γ:Γ×St}{todo:List Item}{tmps:List Value}(ht:retB todo=true)(hv:resA Try.prog fn tmps h=some (.bool true))(hk:KeepC γ.2 S)(hi:Idle S):
    Goes MF fn (fun x=>GE MF (SpM Pr) fn (fun c γ'=>∃h1 S1,c=.done (.bool true) h1 S1/\KeepC γ'.2 S1/\Idle S1) x γ) (.run todo tmps h S):=Goes.endG ht hv ⟨h,S,rfl,hk,hi⟩
theorem LawRuns.runs{Γ:Type}{Pr:Proto Γ}{f:FuncId}{fg:Func}{t:Tmp}{args:Array Value}{γ:Γ}(L:LawRuns Pr f args [] γ)(hf:Try.prog.funcs[f]?=some fg)(hr:fg.results=#[.tmp t])(hi:Try.prog.inits.idxOf? f=none)(ha:args.all zab=true)(W:World):
    ∃M last o w' t',runNT Try.prog (M+1) (solo (ql (qs Try.prog f args .normal) []) W) #[]=(.ended o w',t')/\runN Try.prog M (solo (ql (qs Try.prog f args .normal) []) W)=.next last /\
      step Try.prog last=.ended o w'/\qL Try.prog (fun v w'=>v=.bool true/\qp W.heap.size W w') last o w' t':=by
  obtain⟨g,c,h1,h2,G⟩:=L;rw[hf]at h1;cases h1;have hg0:∀n b,(zaq (([]:List Blk).map some)).get n=some b->False:=fun n b hb=>by simp[zaq]at hb
  have h:=ziU (F:=idE) (w00:=W) hf h2 hr hi ⟨fun n b hb=>(hg0 n b hb).elim,fun n m b c hb=>(hg0 n b hb).elim⟩ (zbm _) (by simp[zaq]) (fun n b hb=>(hg0 n b hb).elim) (fun u hu=>Stab.plain (by
    obtain⟨i,hi,rfl⟩:=Array.mem_iff_getElem.1 hu;exact Array.all_eq_true.1 ha i hi)) (fun n b hb=>(hg0 n b hb).elim) G
  rw[zcC idE ha]at h;exact h
variable {P:Program}
theorem zuL{k:Nat}{name:String}{args:Array Value}:zir P (.iface 82 (hndV k)) name args=(match zbd P 82 name with|some f=>some (f,#[hndV k]++args)|none=>none):=rfl
theorem zuJ{k:Nat}{name:String}:zct P (.func (.method name) #[.iface 82 (hndV k)] #[])=(match zbd P 82 name with|some _=>some (.func (.method name) #[.iface 82 (hndV k)] #[])|none=>none):=rfl
attribute [go_sem] zuL zuJ
abbrev Acc4:=Nat×Int×UInt64×UInt64
def zkJ(a:Acc4)(ws:List UInt64)(bs:List UInt8):UInt64:=if a.1<=4 then wT a.1 a.2.1 a.2.2.1 ws else if a.1=5 then(bT a.2.1 bs).toUInt64 else 0
def wdsQ(a:Acc4)(ws:List UInt64):List UInt64:=if a.1<=4 then wS a.1 a.2.1 a.2.2.1 a.2.2.2 ws else ws
def bytQ(a:Acc4)(bs:List UInt8):List UInt8:=if a.1=6 then bS a.2.1 a.2.2.1.toUInt8 bs else bs
abbrev Row:=Nat×Blk
def Fr(fr:List Row)(l:List (Option Blk)):Prop:=∀x∈fr,l[x.1]?=some (some x.2)
variable {l l' l1:List (Option Blk)}
theorem Fr.ge{fr:List Row}(h:Fr fr l)(hg:Ge l l'):Fr fr l':=fun x hx=>hg _ _ (h x hx)
variable {b':Option Blk}
theorem Fr.set{fr:List Row}{b:Blk}(h:Fr fr l)(hn:l[n]?=some (some b)){pr:Blk->Bool}(hc:∀x∈fr,pr x.2=false)(hb:pr b=true):Fr fr (l.set n b'):=fun x hx=>by
  by_cases e:n=x.1
  . subst e;have:=h x hx;rw[hn]at this;cases this;rw[hc x hx]at hb;cases hb
  . rw[qj e];exact h x hx
theorem Fr.nil :Fr [] l:=fun _ h=>by cases h
theorem Fr.cons{fr:List Row}{b:Blk}(h:l[n]?=some (some b))(H:Fr fr l):Fr ((n,b)::fr) l:=fun x hx=>by
  rcases List.mem_cons.1 hx with rfl|hx
  . exact h
  . exact H x hx
def zc0(b:Blk):Bool:=b.elem==59 && !b.ro
structure Sys (G P:Type) where
  acc:P->Acc4
  most:Nat
  rank:List UInt64->P->Nat
  hot:Blk->Bool
  inv:G->List UInt64->List UInt8->List (Option P)->List (Option Blk)->Prop
  born:Nat->G->List UInt64->List UInt8->List (Option P)->List (Option Blk)->Prop
  run:Nat->P->UInt64->Nat->G->List UInt64->List UInt8->List (Option P)->List (Option Blk)->Prop
structure PG (G P:Type) where
  g:G
  ks:List Nat
  fr:List Row
  lim:Nat×Nat
  slack:Nat
  pk:Nat->Option (P×Nat×List Row)
  fuel:Nat
abbrev PG.ps{G P:Type}(γ:PG G P):List (Option P):=γ.ks.map fun k=>(γ.pk k).map Prod.fst
def upd1{α:Type}(f:Nat->α)(k:Nat)(y:α):Nat->α:=fun x=>if x=k then y else f x
theorem ze7{α:Type}{f:Nat->α}{k:Nat}{y:α}:upd1 f k y k=y:=if_pos rfl
theorem zfO{α:Type}{f:Nat->α}{k x:Nat}{y:α}(h:x≠k):upd1 f k y x=f x:=if_neg h
theorem zoS{α β:Type}{f:Nat->α}{h:α->β}{k:Nat}{y:α}:∀{ks:List Nat} {i:Nat},ks.Nodup->ks[i]?=some k->(ks.map fun x=>h (upd1 f k y x))=(ks.map fun x=>h (f x)).set i (h y)
  | [],i,_,hi=>by simp at hi
  | a::ks,0,hn,hi=>by
    obtain rfl:a=k:=by simpa using hi
    have hm:=(qq.1 hn).1;simp only[zMp,ze7,List.set_cons_zero,List.cons.injEq,true_and];exact List.map_congr_left fun x hx=>by rw[zfO fun(e:x=a)=>hm (e▸hx)]
  | a::ks,i+1,hn,hi=>by
    have hi:ks[i]?=some k:=by simpa using hi
    have hne:a≠k:=fun e=>(qq.1 hn).1 (e▸qh hi);simp only[zMp,zfO hne,List.set_cons_succ,zoS (qq.1 hn).2 hi]
theorem zrB{G P:Type}{γ:PG G P}{k i:Nat}{y:Option (P×Nat×List Row)}(hn:γ.ks.Nodup)(hi:γ.ks[i]?=some k)(g:G)(fr:List Row)(lim:Nat×Nat)(sl fu:Nat):(PG.mk g γ.ks fr lim sl (upd1 γ.pk k y) fu).ps=γ.ps.set i (y.map Prod.fst):=zoS hn hi
theorem zq4{G P:Type}{γ:PG G P}{k i:Nat}(hi:γ.ks[i]?=some k):γ.ps[i]?=some ((γ.pk k).map Prod.fst):=by simp[PG.ps,hi]
def LIM:Nat:=500000000
theorem zhc:LIM<=500000000:=Nat.le_refl _
section
variable {G P:Type}(U:Sys G P)(pm:Nat)
structure Hd (γ:PG G P) (l:List (Option Blk)) (q:Nat):Prop where
  ll:l.length<=q
  nd:γ.ks.Nodup
  fr:Fr γ.fr l
  cold:∀x∈γ.fr,U.hot x.2=false
  rows:∀k∈γ.ks,∀p,γ.pk k=some p->γ.ks[p.2.1]?=some k/\Fr p.2.2 l/\∀x∈p.2.2,U.hot x.2=false/\zc0 x.2=false
def Sys.pr:Proto (PG G P) where
  Ph:=P×Nat×List Row
  ph γ k:=γ.pk k
  acc q:=U.acc q.1
  fuel γ:=γ.fuel
  Con:=List Nat×List Row×(Nat×Nat)×Nat
  con γ:=(γ.ks,γ.fr,γ.lim,γ.slack)
  Inv γ hs S:=∃l q ws bs,hs=zaw l q []/\Hd U γ l q/\q+1000 * γ.fuel+γ.slack<=LIM/\S[pm]?=some (.mem ws bs)/\U.inv γ.g ws bs γ.ps l/\∀k p,γ.ks[γ.lim.1]?=some k->γ.pk k=some p->U.rank ws p.1<γ.lim.2
  Run k p v γ hs S:=∃l q ws bs R,hs=zaw l q []/\Hd U γ l q/\q+1000 * γ.fuel+γ.slack+1000<=LIM/\S[pm]?=some (.mem ws bs)/\γ.ks[p.2.1]?=some k/\γ.pk k=some p/\γ.lim.1=p.2.1/\R<=γ.lim.2/\U.run p.2.1 p.1 v R γ.g ws bs γ.ps l
structure Sys.Ok:Prop where
  acc:∀p,1<=(U.acc p).1/\(U.acc p).1<=6
  hot:∀b,U.hot b=true->zc0 b=false
  rank:∀{g:G} {ws:List UInt64} {bs:List UInt8} {ps:List (Option P)} {l:List (Option Blk)} {i:Nat} {p:P},U.inv g ws bs ps l->ps[i]?=some (some p)->1<=U.rank ws p/\U.rank ws p<=U.most
  rows:∀{g:G} {ws:List UInt64} {bs:List UInt8} {ps:List (Option P)} {l l':List (Option Blk)},U.inv g ws bs ps l->(∀(n:Nat) (b:Blk),l[n]?=some (some b)->zc0 b=false->l'[n]?=some (some b))->U.inv g ws bs ps l'
  grant:∀{g:G} {ws:List UInt64} {bs:List UInt8} {ps:List (Option P)} {l:List (Option Blk)} {i:Nat} {p:P},U.inv g ws bs ps l->ps[i]?=some (some p)->∃g',U.run i p (zkJ (U.acc p) ws bs) (U.rank ws p) g' (wdsQ (U.acc p) ws) (bytQ (U.acc p) bs) ps l
  birth:∀{g:G} {ws:List UInt64} {bs:List UInt8} {ps:List (Option P)} {l:List (Option Blk)},U.inv g ws bs ps l->∃g',U.born ps.length g' ws bs (ps++[none]) l
structure BH (i k hp:Nat) (me:Int) (st R:Nat) (γ:PG G P×St) (l:List (Option Blk)) (q b:Nat) (S:St) (ws:List UInt64) (bs:List UInt8):Prop where
  hS:S=γ.2
  hwp:∃ask gr qt,S[hp]?=some (.wp me st ask gr qt)
  hm:S[pm]?=some (.mem ws bs)
  hk:γ.1.ks[i]?=some k
  hl:γ.1.lim.1=i/\R<=γ.1.lim.2
  hd:Hd U γ.1 l q
  bud:q+1000 * γ.1.fuel+γ.1.slack+b<=LIM
variable {U pm}
theorem Hd.ge{γ:PG G P}(H:Hd U γ l q)(hg:Ge l l')(hl:l'.length<=q'):Hd U γ l' q':=⟨hl,H.nd,H.fr.ge hg,H.cold,fun k hk p hp=>⟨(H.rows k hk p hp).1,(H.rows k hk p hp).2.1.ge hg,(H.rows k hk p hp).2.2⟩⟩
theorem Hd.set{γ:PG G P}{b:Blk}(H:Hd U γ l q)(hn:l[n]?=some (some b))(hb:U.hot b=true):Hd U γ (l.set n b') q :=
  ⟨by rw[qr];exact H.ll,H.nd,H.fr.set hn H.cold hb,H.cold,fun k hk p hp=>⟨(H.rows k hk p hp).1,(H.rows k hk p hp).2.1.set hn (fun x hx=>((H.rows k hk p hp).2.2 x hx).1) hb,(H.rows k hk p hp).2.2⟩⟩
section
variable {i k hp:Nat}{me:Int}{st R:Nat}{γ:PG G P × St}{l:List (Option Blk)}{q b:Nat}{S:St}{ws:List UInt64}{bs:List UInt8}
theorem BH.qle(H:BH U pm i k hp me st R γ l q b S ws bs):q+b<=500000000:=by have:=H.bud;have:=zhc;omega
theorem BH.ll(H:BH U pm i k hp me st R γ l q b S ws bs):l.length<=q:=H.hd.ll
theorem BH.ge(H:BH U pm i k hp me st R γ l q b S ws bs)(hg:Ge l l')(hl:l'.length<=q'){d:Nat}(hq:q'<=q+d)(hd:d<=b):BH U pm i k hp me st R γ l' q' (b - d) S ws bs :=
  ⟨H.hS,H.hwp,H.hm,H.hk,H.hl,H.hd.ge hg hl,by have:=H.bud;omega⟩
theorem BH.set(H:BH U pm i k hp me st R γ l q b S ws bs){c:Blk}{c':Option Blk}(hn:l[n]?=some (some c))(hb:U.hot c=true):BH U pm i k hp me st R γ (l.set n c') q b S ws bs :=
  ⟨H.hS,H.hwp,H.hm,H.hk,H.hl,H.hd.set hn hb,H.bud⟩
theorem BH.less(H:BH U pm i k hp me st R γ l q b S ws bs){b':Nat}(hb:b'<=b):BH U pm i k hp me st R γ l q b' S ws bs:=⟨H.hS,H.hwp,H.hm,H.hk,H.hl,H.hd,by have:=H.bud;omega⟩
theorem BH.lt(H:BH U pm i k hp me st R γ l q b S ws bs):i<γ.1.ps.length:=by
  have:=(qe.1 H.hk).1;simpa[PG.ps] using this
theorem BH.ask{a:Acc4}{Q:UInt64->AHeap->St->PG G P×St->Prop}(H:BH U pm i k hp me st R γ l q b S ws bs)(p:P)(rows:List Row)(g1:G)(hacc:U.acc p=a)(hrow:Fr rows l)(hcold:∀x∈rows,U.hot x.2=false/\zc0 x.2=false)(hinv:U.inv g1 ws bs (γ.1.ps.set i (some p)) l)(hr:U.rank ws p<R)(hQ:∀(v:UInt64) (γ2:PG G P×St) (l2:List (Option Blk)) (q2:Nat) (S2:St) (ws2:List UInt64) (bs2:List UInt8) (R2:Nat),BH U pm i k hp me (st+1) R2 γ2 l2 q2 1000 S2 ws2 bs2->Fr rows l2->γ2.1.ps[i]?=some (some p)->q<=q2->U.run i p v R2 γ2.1.g ws2 bs2 γ2.1.ps l2->Q v (zaw l2 q2 []) S2 γ2):
    Ask (U.pr pm) k hp a (zaw l q []) S γ Q:=by
  obtain⟨ask,gr,qt,hwp⟩:=H.hwp;have hps:=zrB (y:=some (p,i,rows)) H.hd.nd H.hk g1 γ.1.fr γ.1.lim γ.1.slack γ.1.fuel;refine Ask.mk (Pr:=U.pr pm) (PG.mk g1 γ.1.ks γ.1.fr γ.1.lim γ.1.slack (upd1 γ.1.pk k (some (p,i,rows))) γ.1.fuel) (p,i,rows) hacc H.hS hwp ⟨l,q,ws,bs,rfl,⟨H.hd.ll,H.hd.nd,H.hd.fr,H.hd.cold,fun k' hk' p' hp'=>?_⟩,?_,H.hm,?_,fun k' p' hk' hp'=>?_⟩ ze7 (fun j hj=>zfO hj) ⟨rfl,rfl⟩ fun v h1 γ2 S1 hrun hfu hnx hlen hwp1=>?_
  . by_cases e:k'=k
    . subst e;have hp':upd1 γ.1.pk k' (some (p,i,rows)) k'=some p':=hp';rw[ze7]at hp';cases hp';exact⟨H.hk,hrow,hcold⟩
    . exact H.hd.rows k' hk' p' ((zfO e).symm.trans hp')
  . have:=H.bud;show q+1000 * γ.1.fuel+γ.1.slack<=LIM;omega
  . rw[hps];exact hinv
  . have hk':γ.1.ks[γ.1.lim.1]?=some k':=hk';rw[H.hl.1,H.hk]at hk';cases hk';have hp':upd1 γ.1.pk k (some (p,i,rows)) k=some p':=hp';rw[ze7]at hp';cases hp';exact qI hr H.hl.2
  . obtain⟨l2,q2,ws2,bs2,R2,rfl,hd,hbud,hm,hks,hpk,hlim,hR,hrun⟩:=hrun;have hks:γ2.ks[i]?=some k:=hks;have hpk:γ2.pk k=some (p,i,rows):=hpk;have hq:(zaw l q []).next<=(zaw l2 q2 []).next:=hnx;simp only[sz,zLn,qB]at hq;refine hQ v (γ2,S1) l2 q2 S1 ws2 bs2 R2 ⟨rfl,⟨_,_,_,hwp1⟩,hm,hks,⟨hlim,hR⟩,hd,hbud⟩ (hd.rows k (qh hks) _ hpk).2.1 ?_ hq hrun;rw[zq4 hks,hpk];rfl
theorem BH.over(H:BH U pm i k hp me st R γ l q b S ws bs)(g1:G)(hinv:U.inv g1 ws bs (γ.1.ps.set i none) l):EndB (U.pr pm) k (zaw l q []) S γ:=by
  have hps:=zrB (y:=none) H.hd.nd H.hk g1 γ.1.fr γ.1.lim γ.1.slack γ.1.fuel;refine⟨H.hS,PG.mk g1 γ.1.ks γ.1.fr γ.1.lim γ.1.slack (upd1 γ.1.pk k none) γ.1.fuel,⟨l,q,ws,bs,rfl,⟨H.hd.ll,H.hd.nd,H.hd.fr,H.hd.cold,fun k' hk' p' hp'=>?_⟩,?_,H.hm,?_,fun k' p' hk' hp'=>?_⟩,ze7,fun j hj=>zfO hj,rfl,rfl⟩
  . by_cases e:k'=k
    . subst e;have hp':upd1 γ.1.pk k' none k'=some p':=hp';rw[ze7]at hp';cases hp'
    . exact H.hd.rows k' hk' p' ((zfO e).symm.trans hp')
  . have:=H.bud;show q+1000 * γ.1.fuel+γ.1.slack<=LIM;omega
  . rw[hps];exact hinv
  . have hk':γ.1.ks[γ.1.lim.1]?=some k':=hk';rw[H.hl.1,H.hk]at hk';cases hk';have hp':upd1 γ.1.pk k none k=some p':=hp';rw[ze7]at hp';cases hp'
end
end
variable {Y L:List Ob}{ws:List UInt64}{bs:List UInt8}{x3 x4:Bool}{x5:Option (Nat × Nat × Nat)}{x6:Option Nat}
section
variable {G P:Type}(U:Sys G P)(pm n0:Nat)(S0:St)
def TAt(S:St)(k:Nat)(me:Nat):Option (P×Nat×List Row)->Prop
  | some p=>n0<=k/\∃(qt hp gid dn pd:Nat) (w:Int) (st ask gr:Nat),n0<=hp/\S[k]?=some (.thr (me:Int) qt false true (some (hp,gid,dn)) (some pd))/\S[pd]?=some (.acc (U.acc p.1).1 (U.acc p.1).2.1 (U.acc p.1).2.2.1 (U.acc p.1).2.2.2)/\S[hp]?=some (.wp w st ask gr qt)
  | none=>n0<=k/\∃(qt:Nat) (cur:Option (Nat×Nat×Nat)),S[k]?=some (.thr (me:Int) qt false false cur none)
structure PI (γ:PG G P×St) (l:List (Option Blk)) (q c:Nat) (S:St) (ws:List UInt64) (bs:List UInt8) (fr:List Row):Prop where
  keep:KeepC γ.2 S
  hm:S[pm]?=some (.mem ws bs)
  inv:U.inv γ.1.g ws bs γ.1.ps l
  ll:l.length<=q
  bud:q+1000 * γ.1.fuel+c<=LIM
  nd:γ.1.ks.Nodup
  frl:Fr fr l
  cold:∀x∈fr,U.hot x.2=false
  rows:∀k∈γ.1.ks,∀p,γ.1.pk k=some p->γ.1.ks[p.2.1]?=some k/\Fr p.2.2 l/\∀x∈p.2.2,U.hot x.2=false/\zc0 x.2=false
  thr:∀(i k:Nat),γ.1.ks[i]?=some k->TAt U n0 S k i (γ.1.pk k)
  out:∀k,k ∉ γ.1.ks->γ.1.pk k=none
  busy:∀(k:Nat) a b c e f,S[k]?=some (.thr a b c true e f)->k∈γ.1.ks
  old:∀j,j<n0->j≠pm->S[j]?=S0[j]?
  pm0:pm<n0
  len:n0<=S.length
variable {U pm n0 S0}
theorem znJ{ks:List Nat}(h:ks.Nodup){i k:Nat}(hi:ks[i]?=some k)(hj:ks[j]?=some k):i=j:=by
  obtain⟨h1,e1⟩:=qe.1 hi;obtain⟨h2,e2⟩:=qe.1 hj;have hpw:=List.pairwise_iff_getElem.1 (List.nodup_iff_pairwise_ne.1 h);rcases Nat.lt_trichotomy i j with hlt|rfl|hlt
  . exact absurd (e1.trans e2.symm) (hpw i j h1 h2 hlt)
  . rfl
  . exact absurd (e2.trans e1.symm) (hpw j i h2 h1 hlt)
theorem set_at{k:Nat}(h:S[j]?=some o)(hne:k≠j):(S.set k o')[j]?=some o:=by rw[qj hne];exact h
theorem zcV(h:S[j]?=some o):(S++Y)[j]?=some o:=by rw[qf (zaM h)];exact h
theorem zkF(h:j<S.length):(S++Y)[j]?=S[j]?:=qf h
structure zqq (S S':St) (a b:Nat):Prop where
  thr:∀(k:Nat) x1 x2 x3 x4 x5 x6,k≠a->k≠b->S[k]?=some (.thr x1 x2 x3 x4 x5 x6)->S'[k]?=some (.thr x1 x2 x3 x4 x5 x6)
  acc:∀(k:Nat) x1 x2 x3 x4,S[k]?=some (.acc x1 x2 x3 x4)->S'[k]?=some (.acc x1 x2 x3 x4)
  wp:∀(k:Nat) x1 x2 x3 x4 x5,S[k]?=some (.wp x1 x2 x3 x4 x5)->∃y1 y2 y3 y4,S'[k]?=some (.wp y1 y2 y3 y4 x5)
  thr':∀(k:Nat) x1 x2 x3 x5 x6,k≠a->k≠b->S'[k]?=some (.thr x1 x2 x3 true x5 x6)->S[k]?=some (.thr x1 x2 x3 true x5 x6)
theorem TAt.same{a b k me:Nat}{x:Option (P×Nat×List Row)}(H:TAt U n0 S k me x)(hs:zqq S S' a b)(ha:k≠a)(hb:k≠b):TAt U n0 S' k me x:=by
  cases x with
  | some p =>
    obtain⟨h0,qt,hp,gid,dn,pd,w,st,ask,gr,h1,h2,h3,h4⟩:=H;obtain⟨y1,y2,y3,y4,h5⟩:=hs.wp _ _ _ _ _ _ h4;exact⟨h0,qt,hp,gid,dn,pd,y1,y2,y3,y4,h1,hs.thr _ _ _ _ _ _ _ ha hb h2,hs.acc _ _ _ _ _ h3,h5⟩
  | none =>
    obtain⟨h0,qt,cur,h2⟩:=H;exact⟨h0,qt,cur,hs.thr _ _ _ _ _ _ _ ha hb h2⟩
theorem zgX{pm hp k:Nat}{W:List UInt64}{Y:List UInt8}{wsf:Int}{st st' ask:Nat}{x1:Int}(hm:S[pm]?=some (.mem ws bs))(h3:S[hp]?=some (.wp wsf st ask gr qt))(h1:S[k]?=some (.thr x1 x2 x3 x4 x5 x6))(hL:∀y∈L,∀a b c d e f,y≠.thr a b c d e f):
    zqq S ((cntS (S.set pm (.mem W Y)) hp wsf st' ask gr qt).set k X++L) k k/\(∀j o,S[j]?=some o->j≠pm->j≠hp->j≠k->((cntS (S.set pm (.mem W Y)) hp wsf st' ask gr qt).set k X++L)[j]?=some o)/\((cntS (S.set pm (.mem W Y)) hp wsf st' ask gr qt).set k X++L)[pm]?=some (.mem W Y)/\((cntS (S.set pm (.mem W Y)) hp wsf st' ask gr qt).set k X++L)[k]?=some X/\((cntS (S.set pm (.mem W Y)) hp wsf st' ask gr qt).set k X++L)[hp]?=some (.wp wsf st' ask gr qt):=by
  have hpmk:pm≠k:=fun e=>by subst e;rw[hm]at h1;cases h1
  have hpmh:pm≠hp:=fun e=>by subst e;rw[hm]at h3;cases h3
  have hkh:k≠hp:=fun e=>by subst e;rw[h1]at h3;cases h3
  have gen:∀j o,S[j]?=some o->j≠pm->j≠hp->j≠k->((cntS (S.set pm (.mem W Y)) hp wsf st' ask gr qt).set k X++L)[j]?=some o:=fun j o h z1 z2 z3=>zcV (set_at (set_at (set_at h z1.symm) z2.symm) z3.symm);have lp:=zaM hm;have lk:=zaM h1;have lh:=zaM h3;have g1:((cntS (S.set pm (.mem W Y)) hp wsf st' ask gr qt).set k X++L)[pm]?=some (.mem W Y):=zcV (set_at (set_at (qg lp) hpmh.symm) hpmk.symm);have g2:((cntS (S.set pm (.mem W Y)) hp wsf st' ask gr qt).set k X++L)[k]?=some X:=zcV (qg (by simpa using lk))
  have g3:((cntS (S.set pm (.mem W Y)) hp wsf st' ask gr qt).set k X++L)[hp]?=some (.wp wsf st' ask gr qt):=zcV (set_at (qg (by simpa using lh)) hkh)
  refine⟨⟨fun j _ _ _ _ _ _ z1 _ h=>gen j _ h (fun e=>by subst e;rw[hm]at h;cases h) (fun e=>by subst e;rw[h3]at h;cases h) z1,fun j _ _ _ _ h=>gen j _ h (fun e=>by subst e;rw[hm]at h;cases h) (fun e=>by subst e;rw[h3]at h;cases h) (fun e=>by subst e;rw[h1]at h;cases h),fun j y1 y2 y3 y4 y5 h=>?_,fun j _ _ _ _ _ z1 _ h=>?_⟩,gen,g1,g2,g3⟩
  . by_cases e:j=hp
    . subst e;rw[h3]at h;cases h;exact⟨_,_,_,_,g3⟩
    . exact⟨_,_,_,_,gen j _ h (fun e=>by subst e;rw[hm]at h;cases h) e (fun e=>by subst e;rw[h1]at h;cases h)⟩
  . by_cases hj:j<S.length
    . by_cases e:j=pm
      . subst e;rw[g1]at h;cases h
      by_cases e':j=hp
      . subst e';rw[g3]at h;cases h
      obtain⟨o,ho⟩:∃o,S[j]?=some o:=⟨_,qk hj⟩;rw[gen j o ho e e' z1]at h;rw[ho,h]
    . rw[qb (by simp;omega)]at h
      exact absurd rfl (hL _ (qh h) _ _ _ _ _ _)
theorem PI.grant(ok:U.Ok){γ:PG G P×St}{c:Nat}{fr fr1:List Row}(H:PI U pm n0 S0 γ l q c S ws bs fr){i k:Nat}(hi:γ.1.ks[i]?=some k){p:P×Nat×List Row}(hp:γ.1.pk k=some p)(hfu:2<=γ.1.fuel)(hg:∀(n:Nat) (b:Blk),l[n]?=some (some b)->zc0 b=false->l1[n]?=some (some b))(hl1:l1.length<=q1)(hq1:q1<=q+900)(hfr:Fr fr1 l1)(hcold:∀x∈fr1,U.hot x.2=false)(lim2:Nat)(hlim:U.rank ws p.1<=lim2){Q:Value->AHeap->St->PG G P×St->Prop}(hQ:∀(γ':PG G P×St) (l':List (Option Blk)) (q':Nat) (S':St),PI U pm n0 S0 γ' l' q' c S' (wdsQ (U.acc p.1) ws) (bytQ (U.acc p.1) bs) fr1->γ'.1.ks=γ.1.ks->γ'.1.fuel=γ.1.fuel - 2->(∀j,j≠k->γ'.1.pk j=γ.1.pk j)->(∀p',γ'.1.pk k=some p'->U.rank (wdsQ (U.acc p.1) ws) p'.1<lim2)->q1<=q'->Q (.bool true) (zaw l' q' []) S' γ'):
    SpM (U.pr pm) 40 #[hndV k,.int .u64 ((zkJ (U.acc p.1) ws bs).toNat:Int)] (zaw l1 q1 []) (S.set pm (.mem (wdsQ (U.acc p.1) ws) (bytQ (U.acc p.1) bs))) γ Q:=by
  have hmem:=H.thr i k hi;rw[hp]at hmem;obtain⟨hk0,qt,hpp,gid,dn,pd,wsf,st,ask,gr,hhp,h1,h2,h3⟩:=hmem;obtain⟨e1,e2,e3⟩:=H.rows k (qh hi) p hp;have ei:p.2.1=i:=znJ H.nd e1 hi;have hps:γ.1.ps[i]?=some (some p.1):=by rw[zq4 hi,hp];rfl
  obtain⟨g',hrun⟩:=ok.grant (ok.rows (l':=l1) H.inv hg) hps;have hpmk:pm≠k:=by have:=H.pm0;omega
  have hpmh:pm≠hpp:=by have:=H.pm0;omega
  have hpmd:pm≠pd:=fun e=>by subst e;rw[H.hm]at h2;cases h2
  have hkh:k≠hpp:=fun e=>by subst e;rw[h1]at h3;cases h3
  have hkd:k≠pd:=fun e=>by subst e;rw[h1]at h2;cases h2
  have hhd:hpp≠pd:=fun e=>by subst e;rw[h2]at h3;cases h3
  obtain⟨W,hW⟩:∃W,W=wdsQ (U.acc p.1) ws:=⟨_,rfl⟩;obtain⟨Y,hY⟩:∃Y,Y=bytQ (U.acc p.1) bs:=⟨_,rfl⟩;rw[<-hW,<-hY]at hrun hQ ⊢;have hlen:pm<S.length:=zaM H.hm;have hm1:(cntS (S.set pm (.mem W Y)) hpp wsf (st+1) ask gr qt)[pm]?=some (.mem W Y):=by
    rw[qj hpmh.symm,qg hlen]
  refine .inr (.inr (.inl ⟨k,hpp,gid,dn,pd,st,ask,gr,qt,(i:Int),wsf,zkJ (U.acc p.1) ws bs,p,zaw l1 q1 [],PG.mk g' γ.1.ks fr1 (i,lim2) c γ.1.pk (γ.1.fuel - 2),rfl,rfl,H.keep.trans (KeepC.set H.hm rfl rfl),set_at h1 hpmk,set_at h3 hpmh,hp,LendH.all _,⟨l1,q1,W,Y,U.rank ws p.1,rfl,⟨hl1,H.nd,hfr,hcold,fun k' hk' p' hp'=>?_⟩,?_,hm1,e1,hp,ei.symm,hlim,?_⟩,?_,fun _ _=>rfl,?_⟩))
  . obtain⟨z1,z2,z3⟩:=H.rows k' hk' p' hp';exact⟨z1,fun x hx=>hg _ _ (z2 x hx) (z3 x hx).2,z3⟩
  . have:=H.bud;show q1+1000 * (γ.1.fuel - 2)+c+1000<=LIM;omega
  . rw[ei];exact hrun
  . show γ.1.fuel - 2<γ.1.fuel;omega
  . intro γ2 hs2 hInv hFC hph hnx;obtain⟨l2,q2,ws2,bs2,rfl,hd,hbud,hm2,hinv,hl2⟩:=hInv;obtain⟨hfu2,hcon⟩:=hFC;have hcon:(γ2.ks,γ2.fr,γ2.lim,γ2.slack)=(γ.1.ks,fr1,(i,lim2),c):=hcon;obtain⟨c1,c2,c3,c4⟩:γ2.ks=γ.1.ks/\γ2.fr=fr1/\γ2.lim=(i,lim2)/\γ2.slack=c:=by
      injection hcon with a b;injection b with b d;injection d with d e;exact⟨a,b,d,e⟩
    have hfu2:γ2.fuel=γ.1.fuel - 2:=hfu2;have hph:∀j,j≠k->γ2.pk j=γ.1.pk j:=hph;have hnx:(zaw l1 q1 []).next<=(zaw l2 q2 []).next:=hnx;simp only[sz,zLn,qB]at hnx;rw[hm1]at hm2;cases hm2;rw[zpk];have hold:∀(X:Ob) (L:List Ob),(∀y∈L,∀a b c d e f,y≠.thr a b c d e f)->PI U pm n0 S0 (γ2,(cntS (S.set pm (.mem W Y)) hpp wsf (st+1) ask gr qt).set k X++L) l2 q2 c ((cntS (S.set pm (.mem W Y)) hpp wsf (st+1) ask gr qt).set k X++L) W Y fr1\/¬TAt U n0 ((cntS (S.set pm (.mem W Y)) hpp wsf (st+1) ask gr qt).set k X++L) k i (γ2.pk k):=fun X L hL=>by
      obtain⟨s1,s2,s3,s4,s5⟩:=zgX (W:=W) (Y:=Y) (st':=st+1) (X:=X) (L:=L) H.hm h3 h1 hL;by_cases hT:TAt U n0 ((cntS (S.set pm (.mem W Y)) hpp wsf (st+1) ask gr qt).set k X++L) k i (γ2.pk k)
      case neg=>exact .inr hT
      refine .inl ⟨KeepC.refl _,s3,hinv,hd.ll,c4▸hbud,hd.nd,c2▸hd.fr,c2▸hd.cold,hd.rows,fun j k' hk'=>?_,fun k' hk'=>?_,fun k' a b c e f hk'=>?_,fun j hj hjp=>?_,H.pm0,by have:=H.len;simp;omega⟩
      . have hk2:γ2.ks[j]?=some k':=hk';rw[c1]at hk2;clear hk';by_cases e:k'=k
        . subst e;have ej:i=j:=znJ H.nd hi hk2;subst ej;exact hT
        . show TAt U n0 _ k' j (γ2.pk k');rw[hph k' e];exact(H.thr j k' hk2).same s1 e e
      . have hk':k' ∉ γ2.ks:=hk';rw[c1]at hk';show γ2.pk k'=none;rw[hph k' fun e=>hk' (e▸qh hi)];exact H.out k' hk'
      . show k'∈γ2.ks;rw[c1];by_cases e:k'=k
        . subst e;exact qh hi
        . exact H.busy _ _ _ _ _ _ (s1.thr' _ _ _ _ _ _ e e hk')
      . have hjl:j<S.length:=by
          have:=zaM h1;omega
        obtain⟨o,ho⟩:∃o,S[j]?=some o:=⟨_,qk hjl⟩;rw[s2 j o ho hjp (by omega) (by omega),<-ho]
        exact H.old j hj hjp
    refine⟨fun p' hp'=>?_,fun hp'=>?_⟩
    . have hp':γ2.pk k=some p':=hp';obtain⟨s1,s2,s3,s4,s5⟩:=zgX (W:=W) (Y:=Y) (st':=st+1) (X:=.thr (i:Int) qt false true (some (hpp,gid,dn)) (some (cntS (S.set pm (.mem W Y)) hpp wsf (st+1) ask gr qt).length)) (L:=[.acc (U.acc p'.1).1 (U.acc p'.1).2.1 (U.acc p'.1).2.2.1 (U.acc p'.1).2.2.2]) H.hm h3 h1 (by intro y hy;simp at hy;subst hy;intro a b c d e f z;cases z)
      refine hQ _ l2 q2 _ ((hold _ _ (by intro y hy;simp at hy;subst hy;intro a b c d e f z;cases z)).resolve_right fun hn=>hn ?_) c1 hfu2 hph (fun p'' hp''=>?_) hnx
      . rw[hp'];refine⟨hk0,qt,hpp,gid,dn,_,wsf,st+1,ask,gr,hhp,s4,?_,s5⟩;rw[qb (by simp)]
        simp only[qr,qu,zGz];rfl
      . have hp'':γ2.pk k=some p'':=hp'';have:=hl2 k p'' (by rw[c3,c1];exact hi) hp''
        rw[c3]at this;exact this
    . have hp':γ2.pk k=none:=hp';obtain⟨s1,s2,s3,s4,s5⟩:=zgX (W:=W) (Y:=Y) (st':=st+1) (X:=.thr (i:Int) qt false false (some (hpp,gid,dn)) none) (L:=[]) H.hm h3 h1 (by intro y hy;cases hy)
      have hh:=hold (.thr (i:Int) qt false false (some (hpp,gid,dn)) none) [] (by intro y hy;cases hy)
      simp only[qP]at hh s4;refine hQ _ l2 q2 _ (hh.resolve_right fun hn=>hn ?_) c1 hfu2 hph (fun p'' hp''=>?_) hnx
      . rw[hp'];exact⟨hk0,qt,_,s4⟩
      . have hp'':γ2.pk k=some p'':=hp'';rw[hp']at hp'';cases hp''
end
section
variable {G P:Type}{U:Sys G P}{pm n0:Nat}{S0:St}
theorem PI.new{γ:PG G P×St}{c:Nat}{fr:List Row}(H:PI U pm n0 S0 γ l q c S ws bs fr)(me:Int)(qc:Nat):PI U pm n0 S0 (γ.1,S++[.thr me qc false false none none]) l q c (S++[.thr me qc false false none none]) ws bs fr:=by
  have hs:zqq S (S++[.thr me qc false false none none]) S.length S.length:=by
    refine⟨fun j _ _ _ _ _ _ _ _ h=>zcV h,fun j _ _ _ _ h=>zcV h,fun j _ _ _ _ _ h=>⟨_,_,_,_,zcV h⟩,fun j _ _ _ _ _ h1 _ h=>?_⟩;by_cases hj:j<S.length
    . rw[zkF hj]at h;exact h
    . have:=zaM h;simp at this;omega
  have hlt:∀i k,γ.1.ks[i]?=some k->k<S.length:=fun i k hk=>by
    have:=H.thr i k hk;cases hx:γ.1.pk k with
    | some p=>rw[hx]at this;obtain⟨_,qt,hp,gid,dn,pd,w,st,ask,gr,h1,h2,h3,h4⟩:=this;exact zaM h2
    | none=>rw[hx]at this;obtain⟨_,qt,cur,h2⟩:=this;exact zaM h2
  refine⟨KeepC.refl _,zcV H.hm,H.inv,H.ll,H.bud,H.nd,H.frl,H.cold,H.rows,fun i k hk=>?_,H.out,fun k a b c e f h=>?_,fun j hj hjp=>?_,H.pm0,by have:=H.len;simp;omega⟩
  . have:=hlt i k hk;exact(H.thr i k hk).same hs (by omega) (by omega)
  . by_cases hj:k<S.length
    . rw[zkF hj]at h;exact H.busy _ _ _ _ _ _ h
    . have hl:=zaM h;rw[qb (by omega)]at h
      obtain e:k - S.length=0:=by simp at hl;omega
      rw[e]at h;cases h
  . rw[zkF (by have:=H.len;omega)];exact H.old j hj hjp
theorem zhb{k:Nat}{self:Int}{quit ask gid dn:Nat}{x1:Int}(h1:S[k]?=some (.thr x1 x2 x3 x4 x5 x6))(hL:∀y∈L,∀a b c d e f,y≠.thr a b c d e f):
    zqq S ((zcO S k self quit ask gr gid dn).set k X++L) k k/\(∀j o,S[j]?=some o->j≠k->((zcO S k self quit ask gr gid dn).set k X++L)[j]?=some o)/\((zcO S k self quit ask gr gid dn).set k X++L)[k]?=some X/\((zcO S k self quit ask gr gid dn).set k X++L)[S.length]?=some (.wp self 0 ask gr quit):=by
  have lk:=zaM h1;have gen:∀j o,S[j]?=some o->j≠k->((zcO S k self quit ask gr gid dn).set k X++L)[j]?=some o:=fun j o h z=>zcV (set_at (zcV (zcV (set_at h z.symm))) z.symm);have g3:((zcO S k self quit ask gr gid dn).set k X++L)[S.length]?=some (.wp self 0 ask gr quit):=zcV (set_at zf6 (by omega))
  refine⟨⟨fun j _ _ _ _ _ _ z1 _ h=>gen j _ h z1,fun j _ _ _ _ h=>gen j _ h (fun e=>by subst e;rw[h1]at h;cases h),fun j y1 y2 y3 y4 y5 h=>⟨_,_,_,_,gen j _ h (fun e=>by subst e;rw[h1]at h;cases h)⟩,fun j _ _ _ _ _ z1 _ h=>?_⟩,gen,zcV (qg (by simp;omega)),g3⟩
  by_cases hj:j<S.length
  . obtain⟨o,ho⟩:∃o,S[j]?=some o:=⟨_,qk hj⟩;rw[gen j o ho z1]at h;rw[ho,h]
  . by_cases e1:j=S.length
    . subst e1;rw[g3]at h;cases h
    by_cases e2:j=S.length+1
    . subst e2;rw[zcV (set_at zi8 (by omega))]at h;cases h
    . rw[qb (by simp;omega)]at h
      exact absurd rfl (hL _ (qh h) _ _ _ _ _ _)
theorem PI.start(ok:U.Ok){γ:PG G P×St}{c:Nat}{fr fr1:List Row}(H:PI U pm n0 S0 γ l q c S ws bs fr){i k:Nat}(hk:S[k]?=some (.thr (i:Int) qt false false none none))(hkn:k ∉ γ.1.ks)(hk0:n0<=k)(hi:i=γ.1.ks.length)(hfu:2<=γ.1.fuel)(hg:∀(n:Nat) (b:Blk),l[n]?=some (some b)->zc0 b=false->l1[n]?=some (some b))(hl1:l1.length<=q1)(hq1:q1<=q+900)(hfr:Fr fr1 l1)(hcold:∀x∈fr1,U.hot x.2=false){fb:Nat}{xs ys:Array Value}{Q:Value->AHeap->St->PG G P×St->Prop}(hbody:∀(hp:Nat) (γ':PG G P×St) (S':St),BH U pm i k hp (i:Int) 0 (U.most+1) γ' l1 q1 1000 S' ws bs->γ'.1.ps.length=i+1->γ'.1.ps[i]?=some none->U.born i γ'.1.g ws bs γ'.1.ps l1->zeC (U.pr pm) k hp fb xs ys (zaw l1 q1 []) S' γ'.1)(hQ:∀(γ':PG G P×St) (l':List (Option Blk)) (q':Nat) (S':St),PI U pm n0 S0 γ' l' q' c S' ws bs fr1->γ'.1.ks=γ.1.ks++[k]->γ'.1.fuel=γ.1.fuel - 2->q1<=q'->Q (.bool true) (zaw l' q' []) S' γ'):
    SpM (U.pr pm) 26 #[hndV k,.func (.func fb) xs ys] (zaw l1 q1 []) S γ Q:=by
  have hpk:=H.out k hkn;have hinv:=ok.rows (l':=l1) H.inv hg;obtain⟨g',hb⟩:=ok.birth hinv;have hpsl:γ.1.ps.length=i:=by simp[PG.ps,hi]
  rw[hpsl]at hb;have hps:∀fr lim sl fu,(PG.mk g' (γ.1.ks++[k]) fr lim sl γ.1.pk fu).ps=γ.1.ps++[none]:=fun fr lim sl fu=>by simp[PG.ps,hpk]
  have hki:(γ.1.ks++[k])[i]?=some k:=by rw[hi,qb (qo _),qu];rfl
  have hnd:(γ.1.ks++[k]).Nodup:=List.nodup_append.2 ⟨H.nd,qq.2 ⟨by simp,List.nodup_nil⟩,fun a ha b hb=>by simp at hb;subst hb;exact fun e=>hkn (e▸ha)⟩
  have hrows:∀k'∈γ.1.ks++[k],∀p,γ.1.pk k'=some p->(γ.1.ks++[k])[p.2.1]?=some k'/\Fr p.2.2 l1/\∀x∈p.2.2,U.hot x.2=false/\zc0 x.2=false:=fun k' hk' p' hp'=>by
    rcases qO.1 hk' with hk'|hk'
    . obtain⟨z1,z2,z3⟩:=H.rows k' hk' p' hp';exact⟨by rw[qf (qe.1 z1).1];exact z1,fun x hx=>hg _ _ (z2 x hx) (z3 x hx).2,z3⟩
    . obtain rfl:k'=k:=by simpa using hk'
      rw[hpk]at hp';cases hp'
  have hpmk:pm≠k:=by have:=H.pm0;omega
  have hm:∀ask gr gid dn,(zcO S k (i:Int) qt ask gr gid dn)[pm]?=some (.mem ws bs):=fun ask gr gid dn=>zcV (zcV (set_at H.hm hpmk.symm));refine .inr (.inl ⟨k,fb,qt,(i:Int),xs,ys,none,zaw l1 q1 [],PG.mk g' (γ.1.ks++[k]) fr1 (i,U.most+1) c γ.1.pk (γ.1.fuel - 2),rfl,rfl,H.keep,hk,LendH.all _,?_,fun _ _=>rfl,fun ask gr gid dn=>?_,fun ask gr gid dn=>?_⟩)
  . show γ.1.fuel - 2<=γ.1.fuel;omega
  . refine hbody S.length (PG.mk g' (γ.1.ks++[k]) fr1 (i,U.most+1) c γ.1.pk (γ.1.fuel - 2),zcO S k (i:Int) qt ask gr gid dn) _ ⟨rfl,⟨_,_,_,zf6⟩,hm ask gr gid dn,hki,⟨rfl,qo _⟩,⟨hl1,hnd,hfr,hcold,hrows⟩,?_⟩ ?_ ?_ ?_
    . have:=H.bud;show q1+1000 * (γ.1.fuel - 2)+c+1000<=LIM;omega
    . show(PG.mk g' (γ.1.ks++[k]) fr1 (i,U.most+1) c γ.1.pk (γ.1.fuel - 2)).ps.length=i+1;rw[hps,List.length_append,hpsl];rfl
    . show(PG.mk g' (γ.1.ks++[k]) fr1 (i,U.most+1) c γ.1.pk (γ.1.fuel - 2)).ps[i]?=some none;rw[hps,qb (qv hpsl),hpsl,qu];rfl
    . show U.born i g' ws bs (PG.mk g' (γ.1.ks++[k]) fr1 (i,U.most+1) c γ.1.pk (γ.1.fuel - 2)).ps l1;rw[hps];exact hb
  . intro γ2 hs2 hInv hFC hph hnx;obtain⟨l2,q2,ws2,bs2,rfl,hd,hbud,hm2,hinv2,hl2⟩:=hInv;obtain⟨hfu2,hcon⟩:=hFC;have hcon:(γ2.ks,γ2.fr,γ2.lim,γ2.slack)=(γ.1.ks++[k],fr1,(i,U.most+1),c):=hcon;obtain⟨c1,c2,c3,c4⟩:γ2.ks=γ.1.ks++[k]/\γ2.fr=fr1/\γ2.lim=(i,U.most+1)/\γ2.slack=c:=by
      injection hcon with a b;injection b with b d;injection d with d e;exact⟨a,b,d,e⟩
    have hfu2:γ2.fuel=γ.1.fuel - 2:=hfu2;have hph:∀j,j≠k->γ2.pk j=γ.1.pk j:=hph;have hnx:(zaw l1 q1 []).next<=(zaw l2 q2 []).next:=hnx;simp only[sz,zLn,qB]at hnx;rw[hm ask gr gid dn]at hm2;cases hm2;rw[zpk];have hold:∀(X:Ob) (L:List Ob),(∀y∈L,∀a b c d e f,y≠.thr a b c d e f)->TAt U n0 ((zcO S k (i:Int) qt ask gr gid dn).set k X++L) k i (γ2.pk k)->PI U pm n0 S0 (γ2,(zcO S k (i:Int) qt ask gr gid dn).set k X++L) l2 q2 c ((zcO S k (i:Int) qt ask gr gid dn).set k X++L) ws bs fr1:=fun X L hL hT=>by
      obtain⟨s1,s2,s3,s4⟩:=zhb (self:=(i:Int)) (quit:=qt) (ask:=ask) (gr:=gr) (gid:=gid) (dn:=dn) (X:=X) (L:=L) hk hL;refine⟨KeepC.refl _,s2 _ _ H.hm hpmk,hinv2,hd.ll,c4▸hbud,hd.nd,c2▸hd.fr,c2▸hd.cold,hd.rows,fun j k' hk'=>?_,fun k' hk'=>?_,fun k' a b c e f hk'=>?_,fun j hj hjp=>?_,H.pm0,by have:=H.len;simp;omega⟩
      . have hk2:γ2.ks[j]?=some k':=hk';rw[c1]at hk2;clear hk';by_cases e:k'=k
        . subst e;have ej:i=j:=znJ hnd hki hk2;subst ej;exact hT
        . show TAt U n0 _ k' j (γ2.pk k');rw[hph k' e];have hk3:γ.1.ks[j]?=some k':=by
            by_cases hj:j<γ.1.ks.length
            . rw[qf hj]at hk2;exact hk2
            . have:=(qe.1 hk2).1;simp at this;obtain rfl:j=i:=by omega
              rw[hki]at hk2;exact absurd (qn hk2).symm e
          exact(H.thr j k' hk3).same s1 e e
      . have hk':k' ∉ γ2.ks:=hk';rw[c1]at hk';show γ2.pk k'=none;rw[hph k' fun e=>hk' (by simp[e])]
        exact H.out k' fun h=>hk' (by simp[h])
      . show k'∈γ2.ks;rw[c1];by_cases e:k'=k
        . subst e;simp
        . exact List.mem_append_left _ (H.busy _ _ _ _ _ _ (s1.thr' _ _ _ _ _ _ e e hk'))
      . have hjl:j<S.length:=by
          have:=zaM hk;omega
        obtain⟨o,ho⟩:∃o,S[j]?=some o:=⟨_,qk hjl⟩;rw[s2 j o ho (by omega),<-ho]
        exact H.old j hj hjp
    refine⟨fun p' hp'=>?_,fun hp'=>?_⟩
    . have hp':γ2.pk k=some p':=hp';obtain⟨s1,s2,s3,s4⟩:=zhb (self:=(i:Int)) (quit:=qt) (ask:=ask) (gr:=gr) (gid:=gid) (dn:=dn) (X:=.thr (i:Int) qt false true (some (S.length,gid,dn)) (some (zcO S k (i:Int) qt ask gr gid dn).length)) (L:=[.acc (U.acc p'.1).1 (U.acc p'.1).2.1 (U.acc p'.1).2.2.1 (U.acc p'.1).2.2.2]) hk (by intro y hy;simp at hy;subst hy;intro a b c d e f z;cases z)
      refine hQ _ l2 q2 _ (hold _ _ (by intro y hy;simp at hy;subst hy;intro a b c d e f z;cases z) ?_) c1 hfu2 hnx
      rw[hp'];have:=zaM hk;refine⟨hk0,qt,S.length,gid,dn,_,(i:Int),0,ask,gr,by omega,s3,?_,s4⟩
      rw[qb (by simp)]
      simp only[qr,qu,zGz];rfl
    . have hp':γ2.pk k=none:=hp';obtain⟨s1,s2,s3,s4⟩:=zhb (self:=(i:Int)) (quit:=qt) (ask:=ask) (gr:=gr) (gid:=gid) (dn:=dn) (X:=.thr (i:Int) qt false false (some (S.length,gid,dn)) none) (L:=[]) hk (by intro y hy;cases hy)
      have hh:=hold (.thr (i:Int) qt false false (some (S.length,gid,dn)) none) [] (by intro y hy;cases hy)
      simp only[qP]at hh s3;refine hQ _ l2 q2 _ (hh ?_) c1 hfu2 hnx;rw[hp'];exact⟨hk0,qt,_,s3⟩
end
end Go.Proofs.Ytkjmaapbeicmkaa
