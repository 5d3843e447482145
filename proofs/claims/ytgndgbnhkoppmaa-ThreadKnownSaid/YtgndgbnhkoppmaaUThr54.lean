/-
  Close of a thread whose body does not wait, as a call that hands over.
  Condition: each call that is known does what is said of it (zau).
-/
import Derived.Test.YtgndgbnhkoppmaaUThr43
import Derived.Below
import Derived.Test.YtgndgbnhkoppmaaUAx12
import Derived.Test.YtgndgbnhkoppmaaUCo23
import Derived.Test.YtgndgbnhkoppmaaUPm8
set_option maxHeartbeats 40000000
set_option linter.unusedVariables false
set_option linter.unusedSimpArgs false
namespace Go.Proofs.Ytgndgbnhkoppmaa
open Go Go.Conc
open Go.ConcN (sumTo upd sumTo_upd upd_ne upd_same)
theorem zkf {S:St} {k:Nat} {self:Int} {quit:Nat} {closed bz:Bool} {cur:Option (Nat × Nat × Nat)} {pend pend':Option Nat} (hthr:S[k]?=some (.thr self quit closed bz cur pend)) {i s c:Nat} (h:ChS (S.set k (.thr self quit true false cur pend')) i s c):ChS S i s c:=by
  have hcase:∀ (i:Nat) ob,(S.set k (Ob.thr self quit true false cur pend'))[i]?=some ob->(i=k/\ob=.thr self quit true false cur pend')\/S[i]?=some ob:=fun i ob hi=>by
    by_cases z:i=k
    . subst z;rw [List.getElem?_set_self (zaL hthr)] at hi;exact .inl ⟨rfl,(Option.some.inj hi).symm⟩
    . rw [List.getElem?_set_ne (Ne.symm z)] at hi;exact .inr hi
  cases h with
  | quit h =>
    rcases hcase _ _ h with ⟨rfl,z⟩|z
    . cases z;exact .quit hthr
    . exact .quit z
  | done h =>
    rcases hcase _ _ h with ⟨rfl,z⟩|z
    . cases z;exact .done hthr
    . exact .done z
  | ask h =>
    rcases hcase _ _ h with ⟨_,z⟩|z
    . cases z
    . exact .ask z
  | grant h =>
    rcases hcase _ _ h with ⟨_,z⟩|z
    . cases z
    . exact .grant z
section
variable {p:Par} {Su:SuT} {S:St} {F:Emb} {N C:Nat} {Inb:Nat->Option Seat} {gs gs':Array Goroutine} {w w':World} {T T':Trace}
theorem Com.quitFree (H:Com p Su S F N C Inb gs w T) (hs0:p.seat0=none) (hr:p.run=none) {k:Nat} {self:Int} {quit:Nat} {closed:Bool} {cur:Option (Nat × Nat × Nat)} {pend:Option Nat} (hthr:S[k]?=some (.thr self quit closed false cur pend)):∀ i s,Inb i=some s->¬ s.has quit:=by
  intro i s hi hc;have t:=H.tab;by_cases z:i=0
  . have:=H.main;rw [z,this,hs0] at hi;cases hi
  . obtain⟨_,_,h3⟩:=H.seats i s hi;obtain⟨k2,a1,a2,a3,hp2,dn2,pe2,b1,b2⟩:=h3 z;obtain⟨_,h4⟩:=H.waits k2 _ _ _ _ _ _ _ b2;obtain⟨ws2,st2,ak2,gr2,ab2,x2,y2,cs2,c1,c2,_⟩:=h4 b1;rw [c2] at hi;cases hi;rcases zcU hc with e|e
    . exact absurd (t.dist' (.grant c1) (.quit hthr) e.symm).2 (by decide)
    . have:=(t.dist' (.quit b2) (.quit hthr) e.symm).1;rw [this,hthr] at b2;cases b2
theorem Com.shut (H:Com p Su S F N C Inb gs w T) {k:Nat} {self:Int} {quit:Nat} {closed:Bool} {cur:Option (Nat × Nat × Nat)} {pend pend':Option Nat} (hthr:S[k]?=some (.thr self quit closed false cur pend))
    (hs:w.heap.size<=w'.heap.size) (hsz:gs'.size=gs.size) (hk:∀ x,x<w.heap.size->¬ p.OB x->x≠quit->w'.heap[x]?=w.heap[x]?) (hq:zbd w' quit) (hring:∃ B Mem q,RingO Try.prog p.OB p.WB B p.Iv Mem Inb p.h T' gs' w' q/\Mem 0/\Mem p.h) :
    Com p Su (S.set k (.thr self quit true false cur pend')) F N C Inb gs' w' T':=by
  have t:=H.tab;have hkl:=zaL hthr;have hself:(S.set k (Ob.thr self quit true false cur pend'))[k]?=some (.thr self quit true false cur pend'):=List.getElem?_set_self hkl;have hne:∀ i,i≠k->(S.set k (Ob.thr self quit true false cur pend'))[i]?=S[i]?:=fun i hi=>List.getElem?_set_ne (Ne.symm hi);have hcase:∀ (i:Nat) ob,(S.set k (Ob.thr self quit true false cur pend'))[i]?=some ob->(i=k/\ob=.thr self quit true false cur pend')\/(i≠k/\S[i]?=some ob):=fun i ob hi=>by
    by_cases z:i=k
    . subst z;rw [hself] at hi;exact .inl ⟨rfl,(Option.some.inj hi).symm⟩
    . rw [hne i z] at hi;exact .inr ⟨z,hi⟩
  have hold:∀ {i:Nat} {ob},S[i]?=some ob->(∀ a b c d e f,ob≠.thr a b c d e f)->(S.set k (Ob.thr self quit true false cur pend'))[i]?=some ob:=fun {i ob} hi hn=>by
    rw [hne i (fun e=>by rw [e,hthr] at hi;exact hn _ _ _ _ _ _ (Option.some.inj hi).symm)];exact hi
  have hch:∀ i s c,ChS (S.set k (Ob.thr self quit true false cur pend')) i s c->ChS S i s c:=fun i s c h=>by
    cases h with
    | quit h =>
      rcases hcase _ _ h with ⟨rfl,z⟩|⟨_,z⟩
      . cases z;exact .quit hthr
      . exact .quit z
    | done h =>
      rcases hcase _ _ h with ⟨rfl,z⟩|⟨_,z⟩
      . cases z;exact .done hthr
      . exact .done z
    | ask h =>
      rcases hcase _ _ h with ⟨_,z⟩|⟨_,z⟩
      . cases z
      . exact .ask z
    | grant h =>
      rcases hcase _ _ h with ⟨_,z⟩|⟨_,z⟩
      . cases z
      . exact .grant z
  have hkc:∀ {i s c cap},ChS S i s c->c≠quit->ChanO w c cap->ChanO w' c cap:=fun {i s c cap} hc hn ⟨m,hm⟩=>⟨m,(hk c (zab hm) (t.far _ _ _ hc).2.1 hn).trans hm⟩;refine⟨hring,⟨fun b=>?_,fun b=>?_,fun k s c k' s' h1 h2=>t.dist _ _ _ _ _ (hch _ _ _ h1) (hch _ _ _ h2),fun k s c h=>?_,fun b hO=>Nat.lt_of_lt_of_le (t.olow b hO) hs,fun i a b c d e h=>?_,fun i a b c d e h=>?_⟩,H.main,fun i se hi=>?_,fun i a b c d e f g h=>?_,H.n0,by rw [List.length_set];exact H.c0⟩
  . rw [t.obs b];constructor
    . rintro ⟨i,a1,a2,a3,a4,a5,a6,a7,a8⟩;by_cases z:i=k
      . subst z;exact⟨i,_,_,_,_,_,_,hself,a8⟩
      . exact⟨i,_,_,_,_,_,_,(hne i z).trans a7,a8⟩
    . rintro ⟨i,a1,a2,a3,a4,a5,a6,a7,a8⟩;rcases hcase _ _ a7 with ⟨rfl,_⟩|⟨_,z⟩
      . exact⟨i,_,_,_,_,_,_,hthr,a8⟩
      . exact⟨i,_,_,_,_,_,_,z,a8⟩
  . rw [t.wbs b];constructor
    . rintro ⟨i,a1,a2,a3,a4,a5,a7,a8⟩;exact⟨i,_,_,_,_,_,hold a7 (fun _ _ _ _ _ _ z=>by cases z),a8⟩
    . rintro ⟨i,a1,a2,a3,a4,a5,a7,a8⟩;rcases hcase _ _ a7 with ⟨_,z⟩|⟨_,z⟩
      . cases z
      . exact⟨i,_,_,_,_,_,z,a8⟩
  . obtain⟨h1,h2,h3⟩:=t.far _ _ _ (hch _ _ _ h);refine⟨?_,h2,h3⟩;by_cases e:c=quit
    . rw [e];exact hq
    . obtain⟨b1,b2,b3,b4,b5,b6,b7⟩:=h1;exact⟨b1,b2,b3,b4,b5,b6,(hk c (zab b7) h2 e).trans b7⟩
  . rcases hcase _ _ h with ⟨_,z⟩|⟨hn,z⟩
    . cases z
    . exact hkc (.quit z) (fun e=>hn (t.dist' (.quit z) (.quit hthr) e).1) (t.quit _ _ _ _ _ _ z)
  . rcases hcase _ _ h with ⟨_,z⟩|⟨hn,z⟩
    . cases z
    . obtain⟨h1,hp,gid,dn,ws,st,ak,gr,rfl,h3,h4,h5,h6,h7,h8,h9⟩:=t.busy _ _ _ _ _ _ z;exact⟨h1,hp,gid,dn,ws,st,ak,gr,rfl,hold h3 (fun _ _ _ _ _ _ z=>by cases z),hkc (.ask h3) (fun e=>absurd (t.dist' (.ask h3) (.quit hthr) e).2 (by decide)) h4,hkc (.grant h3) (fun e=>absurd (t.dist' (.grant h3) (.quit hthr) e).2 (by decide)) h5,hkc (.done z) (fun e=>absurd (t.dist' (.done z) (.quit hthr) e).2 (by decide)) h6,h7,by omega,hold h9 (fun _ _ _ _ _ _ z=>by cases z)⟩
  . obtain⟨h1,h2,h3⟩:=H.seats i se hi;refine⟨h1,by omega,fun h0=>?_⟩
    obtain⟨j,a1,a2,a3,a4,a5,a6,a7,a8⟩:=h3 h0;have hjk:j≠k:=fun e=>by rw [e,hthr] at a8;cases a8
    exact⟨j,a1,a2,a3,a4,a5,a6,a7,(hne j hjk).trans a8⟩
  . rcases hcase _ _ h with ⟨_,z⟩|⟨hn,z⟩
    . cases z
    . obtain⟨h1,h2⟩:=H.waits _ _ _ _ _ _ _ _ z;refine⟨h1,fun hne=>?_⟩;obtain⟨ws,st,ak,gr,ab,x,y,cs,h3,h4,h5⟩:=h2 hne;exact⟨ws,st,ak,gr,ab,x,y,cs,hold h3 (fun _ _ _ _ _ _ z=>by cases z),h4,h5⟩
end
section
variable (hok:∀ mn OB WB,zau mn OB WB)
variable {Γ:Type} (Pr:Proto Γ)
def znl:SpT Γ:=fun f args hs S γ Q=>∃ (k quit:Nat) (self:Int) (cur:Option (Nat × Nat × Nat)) (pend:Option Nat),f=14/\args=#[hndV k]/\KeepC γ.2 S/\S[k]?=some (.thr self quit false false cur pend)/\Q (.tuple #[]) hs (S.set k (.thr self quit true false cur none)) (γ.1,S.set k (.thr self quit true false cur none))
variable {Pr}
theorem zhT:Try.f14.body=some zcT:=rfl
set_option maxRecDepth 100000 in
theorem zgL {F:Emb} {k:Nat} (hb:F.base (VB+k)=0):actF F (zag Try.f14 zcT #[hndV k]).2=⟨#[pt (F.blk (VB+k)),undef,undef,undef,undef,undef,undef,undef,undef,undef,undef,undef,undef,undef,undef,undef,undef,undef,undef,undef,undef,undef,undef,undef,undef,undef,undef,undef,undef,undef,undef,undef],[]⟩:=by
  simp only [zag,Try.ntmps14];simp [actF,adr,hndV,zaS,hb,List.replicate]
theorem zpF {n00:Nat} {w00:World} {Fin:Unit->Machine->Trace->Prop} {Stk:List Frame->Prop}:SpOK hok (ClM n00 w00) (SuM hok Pr) Fin Stk (znl (Γ:=Γ)):=by
  intro f args hs S γ Q hsp b cs F0 N0 C0 fn ops i rest kk tmps o hfn hkd hsk ho hw hb' hca K d p Inb F gs w sl T g hC H hg hgS hF hN hC0;obtain⟨k,quit,self,cur,pend,rfl,rfl,hkeep,hthr,hQ⟩:=hsp;obtain⟨h0,hrun,hseat,hPX,hn00,hw00⟩:=id hC;have hst:∀ u∈tmps,Stab (Kn hs.next S.length) F u:=fun u hu=>H.inv.1.vst u hu;refine (zbY hok (SuM.mono hok Pr d γ.1) ho hw hb' hca Try.func14 rfl zhT hkd H hg hgS).bind fun m1 T1=>?_;rintro ⟨gs1,w1,sl1,rfl,k1,H1⟩;have H1:Standing p hok (SuM hok Pr d γ.1) S F (.run [] [] hs S) Inb gs1 w1 T1:=Standing.keep (c:=.run [] [] hs S) hok hkeep (Standing.conf hok H1 rfl rfl (fun v hv=>by cases hv))
  have hX:=zdh hok h0;have hinv:RInv (XM hok p.OB p.WB) F (.run [] [] hs S) w1:=hX ▸ H1.inv;have Rp:Rep true p.OB p.WB F S w1:=hinv.1.rep;obtain⟨hOtb,hcur,_,hrtb⟩:=Rp.at' _ _ hthr rfl;rw [zgL (Rp.base _ _ hthr rfl),h0] at k1;obtain⟨B0,Mem0,q0,R0,hM0,_⟩:=H1.com.ring;rw [h0] at R0;have hlow:=zfE H1.com H1.wrow;have t:=H1.com.tab;have htb:=zik H1.com hOtb;have hqf:=H1.com.quitFree hseat hrun hthr;obtain⟨m,hm⟩:=t.quit _ _ _ _ _ _ hthr;obtain⟨_,hqO,hqW⟩:=t.far _ _ _ (.quit hthr);generalize htbE:F.blk (VB+k)=tb at *;have hqt:quit≠tb:=fun e=>hqO (e ▸ hOtb);refine (zaM (sl:=sl1) (h:=0) 60 k1 (zi3 (n0:=w1.heap.size) (w0:=w1) (qt:=quit) ⟨rfl,hlow,Nat.le_refl _⟩ htb (by simp [World.cell?,hrtb,zaO];rfl) (by simp [World.cell?,hrtb,zaO]) (by simp [World.cell?,hrtb,zaO,chV]) (fun o=>by simp [World.frozen?,hrtb]) _) R0).bind fun m2 T2=>?_
  rintro ⟨gs2,g2,w2,sl2,q2,B2,rfl,s2,k2,⟨rfl,K2⟩,R2⟩;have hsz2:w2.heap.size=w1.heap.size:=by rw [K2.heap,zaE,zaE]
  have hold2:∀ x,x≠tb->w2.heap[x]?=w1.heap[x]?:=fun x hx=>by
    rw [K2.heap,heap_setCell,if_neg (fun (e:tb=x)=>hx e.symm),heap_setCell,if_neg (fun (e:tb=x)=>hx e.symm)]
  have hrtb2:w2.heap[tb]?=some (.cells (zaO F self quit true false cur none) 72 (0,0)):=by
    rw [K2.heap,heap_setCell,if_pos rfl,heap_setCell,if_pos rfl,hrtb];simp [zaO,ptrO]
  have hm2:w2.heap[quit]?=some (.chan 0 #[] false m m false):=(hold2 _ hqt).trans hm;have R2':RingO Try.prog p.OB p.WB w2.heap.size p.Iv Mem0 Inb 0 T2 gs2 w2 q2:=CoF.mono R2.lowB (Nat.le_refl _) R2;refine (zmf (c:=quit) (B:=w2.heap.size) (OB:=p.OB) (WB:=p.WB) (Iv:=p.Iv) (Mem:=Mem0) (Inb:=Inb) (h:=0) (a':=Go.Conc.G (zcE tb quit []) (b.at (actF F tmps) (.inRegion ops (i::rest)::kk)::cs)) (w0:=w2) (St:=fun w'=>w'.heap=(w2.setChan quit 0 #[] true m m false).heap) (sl:=sl2) (zab hm2) rfl (fun w3 hw3=>?_) _ rfl (Ro.refl _) k2 R2').bind fun m3 T3=>?_
  . have hh:w3.heap=w2.heap:=by rw [hw3.heap0]
    refine⟨w3.setChan quit 0 #[] true m m false,zhP tb quit _ (by rw [hh];exact hm2) _,⟨fun i s c hi hc=>heap_setChan_ne _ _ _ _ _ _ _ (fun e=>hqf i s hi (e ▸ hc)),fun a ha _=>zaZ _ _ _ (heap_setChan_ne _ _ _ _ _ _ _ (fun e=>hqW (e ▸ ha))),fun z=>absurd rfl z,by simp [World.setChan],rfl,fun e he=>by simp at he⟩,by simp [World.setChan,hh]⟩
  rintro ⟨gs3,w3,sl3,q3,rfl,s3,k3,hh3,R3⟩;have hsz3:w3.heap.size=w2.heap.size:=by rw [hh3];simp [World.setChan]
  have hold3:∀ x,x≠quit->w3.heap[x]?=w2.heap[x]?:=fun x hx=>by rw [hh3];exact heap_setChan_ne _ _ _ _ _ _ _ (fun e=>hx e.symm)
  have hrtb3:w3.heap[tb]?=some (.cells (zaO F self quit true false cur none) 72 (0,0)):=(hold3 _ (Ne.symm hqt)).trans hrtb2;have hq3:w3.heap[quit]?=some (.chan 0 #[] true m m false):=by rw [hh3];exact heap_setChan_self w2 hm2 _ _ _ _ _ _
  refine (zaM (sl:=sl3) (h:=0) 30 k3 (zlK (n0:=w3.heap.size) (w0:=w3) ⟨rfl,fun b hb=>by rw [hsz3,hsz2];exact hlow b hb,Nat.le_refl _⟩ (by simp [World.cell?,hrtb3,zaO]) _ _) R3).bind fun m4 T4=>?_
  rintro ⟨gs4,g4,w4,sl4,q4,B4,rfl,s4,k4,⟨rfl,K4⟩,R4⟩;have hold4:∀ x,x≠quit->x≠tb->w4.heap[x]?=w1.heap[x]?:=fun x h1 h2=>by rw [K4.heap,hold3 x h1,hold2 x h2]
  have hsz4:w4.heap.size=w1.heap.size:=by rw [K4.heap,hsz3,hsz2]
  have hinv4:RInv (XM hok p.OB p.WB) F (.run [] [] hs (S.set k (.thr self quit true false cur none))) w4:=by
    refine ze9 hok hthr hcur (fun p hp=>by cases hp) hinv (fun x hx hne=>?_) (by rw [htbE,K4.heap];exact hrtb3) (Nat.le_of_eq hsz4.symm)
    rw [htbE] at hne;refine hold4 x (fun e=>?_) hne;obtain⟨_,_,_,h1⟩:=zcX (XF.soft (hok _ _ _)) hinv hx;rw [e,hm] at h1;cases h1
  have hlen:(S.set k (Ob.thr self quit true false cur none)).length=S.length:=by simp
  let p':Par:=⟨p.h,p.run,p.OB,p.WB,p.Iv,p.seat0,p.PX,w4,F,0,0,p.n0,p.w0⟩
  have hcomP:Com p' (SuM hok Pr d γ.1) S F hs.next S.length Inb gs1 w1 T1:=⟨H1.com.ring,H1.com.tab,H1.com.main,H1.com.seats,H1.com.waits,H1.com.n0,H1.com.c0⟩;have hcom4:Com p' (SuM hok Pr d γ.1) (S.set k (.thr self quit true false cur none)) F hs.next S.length Inb gs4 w4 T4 :=
    hcomP.shut hthr (Nat.le_of_eq hsz4.symm) (by omega) (fun x hx hO hn=>hold4 x hn (fun e=>hO (e ▸ hOtb))) ⟨_,_,_,_,_,_,by rw [K4.heap];exact hq3⟩ ⟨B4,Mem0,q4,by show RingO _ _ _ _ _ _ _ p.h _ _ _ _;rw [h0];exact R4,hM0,by show Mem0 p.h;rw [h0];exact hM0⟩
  have hstand:Standing p' hok (SuM hok Pr d γ.1) (S.set k (.thr self quit true false cur none)) F (.run [] [] hs (S.set k (.thr self quit true false cur none))) Inb gs4 w4 T4:=by
    refine⟨?_,(zdh hok (p:=p') h0) ▸ hinv4,fun z=>absurd h0 z,fun x hx=>absurd hx (hPX x),fun x hx=>?_,H1.wro,H1.base.move (Nat.le_of_eq hsz4.symm) (fun x _ hT=>?_) (fun _ _ h=>h) (fun x _ _ h2 h3=>hold4 x (h3 _ _ _ (.quit hthr)) (fun e=>h2 (e ▸ hOtb))) (fun i s c h=>.inl (zkf hthr h)),Same.refl _ _,Nat.zero_le _,Nat.zero_le _⟩
    . show Com p' _ _ F hs.next (S.set k (Ob.thr self quit true false cur none)).length Inb gs4 w4 T4;rw [hlen];exact hcom4
    . obtain⟨cc,el,y1,y2⟩:=H1.wrow x hx;exact⟨cc,el,(hold4 x (fun e=>hqW (e ▸ hx)) (fun e=>htb.2 (e ▸ hx))).trans y1,y2⟩
    . rw [zdh hok (p:=p') h0] at hT;rw [hX];exact hT.imp id (fun z=>zgJ hthr z)
  have hfin:(b.at (actF F tmps) (.inRegion ops (i::rest)::kk)).finish (.tuple #[])=b.at (actF F (putL o.dst (.tuple #[]) tmps)) (.inRegion ops rest::kk):=by
    rw [Frame.finish_at,ho];show b.at ((actF F tmps).put o.dst (.tuple #[])) (.inRegion ops rest::kk)=_;rw [<-zcI];simp
  rw [hfin] at k4;exact K _ hs _ _ hQ d p' Inb F gs4 w4 sl4 T4 _ ⟨h0,hrun,hseat,hPX,hn00,hw00⟩ (Standing.conf hok hstand rfl rfl (by
    show ∀ v∈_,Stab (Kn hs.next (S.set k (Ob.thr self quit true false cur none)).length) F v;rw [hlen];exact zb9 hst (fun F2 _=>by simp) o.dst)) (by rw [show p'.h=0 from h0];exact k4) rfl hF hN (by show C0<=(S.set k (Ob.thr self quit true false cur none)).length;rw [hlen];exact hC0)
end
def zm2 (w00:World) (v:Value) (m:Machine) (T:Trace):Prop :=
  ∃ N last o w' t',runNT Try.prog (N+1) m T=(.ended o w',t')/\runN Try.prog N m=.next last/\step Try.prog last=.ended o w'/\Conc.Good Try.prog (fun r w'=>r=v/\Go.RowKit.Below w00.heap.size w00 w') last o w' t'
def FinL (w00:World) (v:Value) (_:Unit) (m:Machine) (T:Trace):Prop:=SOs w00 m.world->zm2 w00 v m T
theorem zkc {w00:World} {v:Value} {m:Machine} {T:Trace} (hm:m.world=w00) (h:Reach Try.prog m T (FinL w00 v ())):zm2 w00 v m T:=by
  obtain⟨N0,m',t0,hr,hso,hF⟩:=h;rw [hm] at hso;obtain⟨M,last,o,w',t',e1,e2,e3,e4⟩:=hF hso;refine⟨N0+M,last,o,w',t',?_,?_,e3,e4⟩
  . rw [Nat.add_assoc,runNT_add,hr];exact e1
  . rw [runN_add,<-runNT_fst Try.prog _ _ T,hr];exact e2
section
variable (hok:∀ mn OB WB,zau mn OB WB)
variable {Γ:Type} (Pr:Proto Γ)
theorem zbs {k:Nat} {ob:Ob} (h:([]:St)[k]?=some ob):False:=by simp at h
theorem zmJ {P:Program} {fr:Frame} {v:Value} {w:World} {fn:Func} {t:Tmp} (hl:fr.leaving P w (.returned v)) (hf:P.funcs[fr.fn]?=some fn) (hr:fn.results=#[.tmp t]) (hi:P.inits.idxOf? fr.fn=none):stepG P true (Go.Conc.G fr []) w=.ended (.done v) w #[]:=by
  obtain⟨h1,h2,h3,fn',h4,h5⟩:=hl;rw [hf] at h4;cases h4;have he:=events_results_tmp (P:=P) (w:=w) hr fr.tmps #[];obtain⟨fnI,tmps,todo,defers,mode,kind,_⟩:=fr;simp only at h1 h2 h3 hf h5 he hi;subst h1 h2 h3;simp [Go.Conc.G,stepG,unwind,doReturn,hf,h5,he,hi,seen,GStep.after]
theorem zpc {w00:World} {v:Value} (hv:zac v=true) {b:Frame} {fn:Func} {t:Tmp} (hf:Try.prog.funcs[b.fn]?=some fn) (hr:fn.results=#[.tmp t]) (hi:Try.prog.inits.idxOf? b.fn=none) {F0:Emb} {N0 C0:Nat} {hs:AHeap} {S:St} {γ:Γ × St} (hkeep:KeepC γ.2 S)
    (hidle:∀ (k:Nat) a b c d e f,S[k]?=some (Ob.thr a b c d e f)->d=false):Safe hok (ClM w00.heap.size w00) (SuM hok Pr) (FinL w00 v) b [] F0 N0 C0 (.done v hs S) γ:=by
  intro d p Inb F gs w sl T g hC H hg hS _ _ _;refine .here fun hso=>?_;obtain⟨h0,hrun,hseat,hPX,hn00,hw00⟩:=id hC;have H:Standing p hok (SuM hok Pr d γ.1) S F (.done v hs S) Inb gs w T:=Standing.keep (c:=.done v hs S) hok hkeep H;obtain⟨fr,rfl,hfn,hl,_⟩:=hS;rw [zaC F hv] at hl;obtain⟨B,Mem,q,R,hM0,_⟩:=H.com.ring;rw [h0] at R hg hl;have hnone:∀ i,i≠0->Inb i=none:=fun i hi=>by
    cases e:Inb i with
    | none=>rfl
    | some s =>
      obtain⟨k,a1,a2,a3,a4,a5,a6,_,a8⟩:=(H.com.seats i s e).2.2 hi;have:=hidle _ _ _ _ _ _ _ a8;cases this
  obtain⟨L,Pp⟩:=zop R hM0 hnone;refine beside_ends (P:=Try.prog) (Shun:=fun _=>False) (B:=B) (D:=fun _ _ _=>False) (Post:=fun r w'=>r=v/\Go.RowKit.Below w00.heap.size w00 w') (n:=0) (fun _ _ _ h=>h.elim) hg L Pp ?_;intro w1 hw1;obtain⟨dd,rfl⟩:=hw1;refine⟨rfl,v,#[],zmJ (hl _ ⟨fun _ _=>rfl,rfl,rfl⟩) (by rw [hfn];exact hf) hr (by rw [hfn];exact hi),fun e he=>by simp at he,rfl,?_⟩
  have hb:=H.base;rw [hn00,hw00] at hb;exact⟨hso.os,hso.tape,hso.output,hb.size,fun x hx=>(hb.low x hx).2.2.2⟩
theorem zlH {Fin:Unit->Machine->Trace->Prop} {F:Emb} {f:FuncId} {fg:Func} {cd:Code} {args:Array Value} {hs:AHeap} {w00:World} {γ:Γ} (hf:Try.prog.funcs[f]?=some fg) (hbd:fg.body=some cd) (hH:Holds F hs w00) (hl:hs.Low) (hV:hs.next<=VB) (hro:∀ n r,hs.get n=some r->r.ro=true)
    (hst:∀ u∈args,Stab (Kn hs.next 0) F u) (hc:∀ n r,hs.get n=some r->∀ v∈r.cells,Stab (Kn hs.next 0) F v) {F0:Emb} (hF0:Same (Kn 0 0) F0 F) (h:Safe hok (ClM w00.heap.size w00) (SuM hok Pr) Fin (zhm f) [] F0 0 0 (.run (zag fg cd args).1 (zag fg cd args).2 hs []) (γ,[])) :
    Reach Try.prog (solo (Go.Conc.G (Frame.enter Try.prog f (args.map (ren F)) .normal) []) w00) #[] (Fin ()):=by
  rw [zfL hf hbd,solo_eq_crowd]
  let p:Par:=⟨0,none,fun _=>False,fun _=>False,fun _ _=>True,none,fun _=>False,w00,F,0,0,w00.heap.size,w00⟩
  have hp:p.mn=true:=rfl;have R0:RingO Try.prog (fun _=>False) (fun _=>False) 0 (fun _ _=>True) (fun g=>g=0) (fun _=>none) 0 #[] #[Go.Conc.G ((zhm f).at (actF F (zag fg cd args).2) (zag fg cd args).1) []] w00 (fun _=>0):=zjN (leavers_one _ _) past_nil _ (fun _ _ _ _ _=>trivial) (Nat.zero_le _);have hV':hs.next<=VB:=hV;have hI:RInv (p.X hok) F (.run (zag fg cd args).1 (zag fg cd args).2 hs []) w00:=by
    refine⟨⟨hH,⟨fun k ob hk _=>(zbs hk).elim,fun k ob hk=>(zbs hk).elim,fun k k' ob ob' _ hk=>(zbs hk).elim,fun k ob hk=>(zbs hk).elim,fun b hb=>hb.elim⟩,fun u hu=>?_,hc,fun n r hr=>⟨.inl (hl n r hr),by have:=hl n r hr;omega⟩,fun n h1 h2=>?_,fun n hn=>?_,Kept.refl _ _,fun _ _ _ _ _=>trivial,fun _ _ _=>trivial,fun n r hr hf=>?_⟩,hV⟩
    . have hu:u∈(zag fg cd args).2:=hu;simp only [zag,List.mem_append] at hu;rcases hu with hu|hu
      . exact hst u (by simpa using hu)
      . rw [List.eq_of_mem_replicate hu];exact Stab.undef
    . have h2:n<VB+0:=h2;omega
    . rcases hn with hn|⟨h1,hn⟩
      . have hn:n<hs.next:=hn;show n<VB+0;omega
      . have hn:n<VB+0:=hn;omega
    . obtain⟨k,ob,hk,_⟩:=hf;exact zbs hk
  have hno:∀ {k s c},¬ ChS ([]:St) k s c:=fun {k s c} h=>by
    cases h with
    | quit h=>exact zbs h
    | done h=>exact zbs h
    | ask h=>exact zbs h
    | grant h=>exact zbs h
  have H:Standing p hok (SuM hok Pr () γ) [] F (.run (zag fg cd args).1 (zag fg cd args).2 hs []) (fun _=>none) #[Go.Conc.G ((zhm f).at (actF F (zag fg cd args).2) (zag fg cd args).1) []] w00 #[]:=by
    refine⟨⟨⟨0,(fun g=>g=0),(fun _=>0),R0,rfl,rfl⟩,⟨fun b=>⟨fun z=>z.elim,fun⟨k,_,_,_,_,_,_,hk,_⟩=>(zbs hk).elim⟩,fun b=>⟨fun z=>z.elim,fun⟨k,_,_,_,_,_,hk,_⟩=>(zbs hk).elim⟩,fun _ _ _ _ _ h=>absurd h hno,fun _ _ _ h=>absurd h hno,fun _ z=>z.elim,fun _ _ _ _ _ _ h=>(zbs h).elim,fun _ _ _ _ _ _ h=>(zbs h).elim⟩,rfl,fun _ _ h=>(by cases h),fun _ _ _ _ _ _ _ _ h=>(zbs h).elim,hV,Nat.le_refl _⟩,hI,fun z=>absurd rfl z,fun _ z=>z.elim,fun _ z=>z.elim,fun _ _ _ z=>z.elim,⟨fun x hx=>⟨hx,fun hT=>?_,fun z=>z,rfl⟩,fun _ _ _ h=>absurd h hno⟩,Same.refl _ _,Nat.zero_le _,Nat.zero_le _⟩
    rcases hT with ⟨n,r,h1,h2,_⟩|⟨k,ob,hk,_⟩
    . have:=hro n r h1;rw [h2] at this;cases this
    . exact zbs hk
  exact h () p _ F _ w00 none #[] _ ⟨rfl,rfl,rfl,fun _ z=>z,rfl,rfl⟩ H rfl rfl hF0 (Nat.zero_le _) (Nat.zero_le _)
end
section
variable {P:Program} {main:Bool} {b:Frame} {a:Act} {k:List Item} {cs:List Frame} {w:World}
theorem zj6 {ops:Array Oper} {i:Nat} {rest:List Nat} {o:Oper} {x:Operand} {t:TypeId} {v:Value} (ho:ops[i]?=some o) (hw:Region.wanted o (yielded ops a.tmps)=true) (hm:b.mode=.run) (hop:o.op=.panic x) (ef:a.eval x=.iface t v) :
    stepG P main (Go.Conc.G (b.at a (.inRegion ops (i::rest)::k)) cs) w=.go (Go.Conc.G { b.at a (.inRegion ops (i::rest)::k) with mode:=.panicking [{ v:=.iface t v,recovered:=false }] } cs) w #[]:=by
  have hr:(execOp a.eval o).run P w=.halt (.panic (.iface t v)) w:=by
    unfold execOp;simp [hop,ef,Instr.panic,goPanic]
  have he:(execOp a.eval o).events P w #[]=#[]:=by
    unfold execOp;simp [hop,ef,Instr.panic,goPanic]
  rw [stepG_oper ho hw];simp [stepG.apply,hr,he,Go.Conc.G,Frame.at,Frame.raise,hm,GStep.after,seen_none]
theorem zdL {c fr:Frame} {fn:Func} {e:List PanicEntry} (hd:fr.defers=[]) (hf:P.funcs[fr.fn]?=some fn) (hm:fr.mode=.panicking e) (hc:c.mode=.run):stepG P main (Go.Conc.G fr (c::cs)) w=.go (Go.Conc.G { c with mode:=.panicking e } cs) w #[]:=by
  obtain⟨fnI,tmps,todo,defers,mode,kind,_⟩:=fr;simp only at hd hf hm;subst hd hm;simp [Go.Conc.G,stepG,unwind,Frame.catches,hf,Frame.raise,hc]
theorem zeH {todo : List Item} {ds : List Deferred} {f : FuncId} {fn : Func} {ys : Array Value} {c : Code} {e : List PanicEntry} (hd : a.defers = zgV f ys :: ds) (hf : P.funcs[f]? = some fn) (hname : (fn.name == "runtime.NumGoroutine") = false) (hb : fn.body = some c) :
    stepG P main (Go.Conc.G { b.at a todo with mode:=.panicking e } cs) w =
      .go (Go.Conc.G ((baseD f).at { tmps:=ys++Array.replicate (fn.ntmps - ys.size) undef,defers:=[] } [.code c]) ({ b.at ⟨a.tmps,ds⟩ todo with mode:=.panicking e }::cs)) w #[]:=by
  have h1 : ¬ fn.name = "runtime.NumGoroutine" := by simpa using hname
  rw [<-enter_atD ys hf hb];simp [Go.Conc.G,stepG,unwind,callDeferred,Frame.at,hd,zgV,invoke,callFunc,hf,h1,hb,GStep.after,seen_none]
theorem zeZ {ops:Array Oper} {i:Nat} {rest:List Nat} {o:Oper} {c0:Frame} {ats:Array TypeId} {v:Value} {older:List PanicEntry} (ho:ops[i]?=some o) (hw:Region.wanted o (yielded ops a.tmps)=true) (hk:b.kind=.deferred) (hro:b.roundOf=none) (hc:c0.mode=.panicking ({ v:=v,recovered:=false }::older))
    (hop:o.op=.call { callee:=.builtin .recover,args:=#[],argTypes:=ats }) :
    stepG P main (Go.Conc.G (b.at a (.inRegion ops (i::rest)::k)) (c0::cs)) w=.go (Go.Conc.G (b.at (a.put o.dst v) (.inRegion ops rest::k)) ({ c0 with mode:=.panicking ({ v:=v,recovered:=true }::older) }::cs)) w #[]:=by
  have hr:(execOp a.eval o).run P w=.ok .recover w:=by
    unfold execOp;simp [hop,resolve,invoke,builtin]
  have he:(execOp a.eval o).events P w #[]=#[]:=by
    unfold execOp;simp [hop,resolve,invoke,builtin]
  have hfin:(b.at a (.inRegion ops (i::rest)::k)).finish v=b.at (a.put o.dst v) (.inRegion ops rest::k):=by rw [Frame.finish_at,ho];rfl
  have ht:tryRecover (b.at a (.inRegion ops (i::rest)::k)) (c0::cs)=some (v,{ c0 with mode:=.panicking ({ v:=v,recovered:=true }::older) }::cs):=by
    simp [tryRecover,Frame.at,hk,hc]
  rw [stepG_oper ho hw,<-hfin];have ht':=ht;simp only [Frame.at,hk] at ht';simp [stepG.apply,hr,he,Go.Conc.G,Frame.at,hk,hro,ht',GStep.after,seen_none]
end
abbrev zpH:Value:=.iface 103 (.agg #[])
theorem zey {P:Program} {x t:TypeId} {fs:Array Field} {v:Value} (hu:P.underlying t=some (.struct fs)):calm P (Instr.typeAssert (.iface t v) x t true)=some (.tuple #[v,.bool true]):=by
  unfold Instr.typeAssert;simp only [zae,zaf hu,Option.bind_some,if_true,zaB]
abbrev zq1:PanicEntry:={ v:=zpH,recovered:=false }
abbrev doT3 (wb:Nat) (ab:Nat × Nat) (ak qt gr:Nat) (x y:Value):Array Value:=#[pt wb,x,undef,pt ab.1 ab.2,.int .u64 0,undef,pt wb,pt wb,pt wb 3,.chan (some ak),y,pt wb,pt wb,pt wb 5,.chan (some qt),.tuple #[.int .i64 0,.bool false,.agg #[]],.int .i64 0,.bool true,.bool false,undef,undef,pt wb,pt wb,pt wb 4,.chan (some gr),pt wb,pt wb,pt wb 5,.chan (some qt),.tuple #[.int .i64 1,.bool false,.int .u64 0,.agg #[]],undef,undef,undef,undef,undef,undef,undef,undef,undef,undef,undef,undef,undef,undef]
theorem zqn (gr qt:Nat):commResult #[rcase gr (.int .u64 0),rcase qt (.agg #[])] .select ((1:Nat):Int) (.agg #[]) false=.tuple #[.int .i64 1,.bool false,.int .u64 0,.agg #[]]:=by
  simp [commResult,rcase,List.zipIdx_cons,goInt]
set_option maxRecDepth 100000 in
theorem zlN (wb:Nat) (ab:Nat × Nat) (ak qt gr:Nat) (x y:Value) (cs:List Frame):(doG wb ab ak qt gr x y cs).finishComm Try.prog #[rcase gr (.int .u64 0),rcase qt (.agg #[])] .select ((1:Nat):Int) (.agg #[]) false =
    Go.Conc.G ((base 82).at ⟨doT3 wb ab ak qt gr x y,[]⟩ [.inRegion zfq [1,2,3],.code zdQ]) cs:=by
  simp only [Goroutine.finishComm,zqn,doG,Go.Conc.G,Frame.finish_at,zhA];rfl
def PanF (c:Frame):Frame:={ c with mode:=.panicking [zq1] }
section
variable {OB WB:Nat->Prop} {Inb:Nat->Option Seat} {h:Nat}
noncomputable def zdb (fv:Value) (wb dn bx:Nat) (rc:Bool):Frame:={ (baseD 30).at ⟨zoH fv wb dn bx undef,[]⟩ [.inRegion rootOps2 [3]] with mode:=.panicking [{ v:=zpH,recovered:=rc }] }
noncomputable def zcD (bx dn n:Nat) (rest:List Nat):Frame:=(baseD 43).at ⟨#[pt bx,.nilIface,pt n,.bool true,zpH,.tuple #[.agg #[],.bool true],zpH,.tuple #[.agg #[],.bool true],.agg #[],.bool true,.bool true,.chan (some dn),.nilIface],[]⟩ [.inRegion zcy rest]
set_option maxRecDepth 100000 in
theorem zpk {fv:Value} {wb dn0 dn bx:Nat} (w0 w:World) (hK:KE OB WB Inb w0 bx dn w) :
    Conc.Goes Try.prog false (Ro OB h) (DO OB WB Inb h) (fun g w'=>(∃ n,g=Go.Conc.G (zcD bx dn n [2]) [zdb fv wb dn0 bx true,botF])/\KE OB WB Inb w0 bx dn w') 60 (Go.Conc.G (PanF (zcd fv wb dn0 bx [3])) [botF]) w:=by
  unfold zcd PanF;refine Conc.Goes.step rfl (fun w₁ h₁=>?_);replace hK:=hK.rely h₁;clear h₁;rw [zeH (fn:=Try.f43) (c:=zdX) rfl Try.func43 rfl rfl];simp only [goes_go];refine⟨DO.none _,?_⟩;rw [Try.ntmps43,show (#[pt bx]++Array.replicate (13 - (#[pt bx]:Array Value).size) undef:Array Value)=#[pt bx,undef,undef,undef,undef,undef,undef,undef,undef,undef,undef,undef,undef] from rfl]
  simp only [zdX,Try.f43,Option.getD_some];(refine Conc.Goes.step rfl (fun w₁ h₁=>?_);replace hK:=hK.rely h₁;clear h₁;rw [stepG_seq];simp only [goes_go];refine⟨DO.none _,?_⟩);(refine Conc.Goes.step rfl (fun w₁ h₁=>?_);replace hK:=hK.rely h₁;clear h₁;rw [stepG_region];simp only [goes_go,List.size_toArray,List.length_cons,List.length_nil,Nat.reduceAdd,Nat.zero_add,List.range,List.range.loop];refine⟨DO.none _,?_⟩);refine Conc.Goes.step rfl (fun w₁ h₁=>?_);replace hK:=hK.rely h₁;clear h₁;rw [zeZ rfl rfl rfl rfl rfl rfl];simp only [goes_go];refine⟨DO.none _,?_⟩
  walk_nrm
  (refine Conc.Goes.step rfl (fun w₁ h₁=>?_);replace hK:=hK.rely h₁;clear h₁;refine goes_oper_k rfl rfl (by decide) (fun K hK'=>?_);go_simp;refine hK' _ _ ⟨DO.quiet (fun e he=>(by have hm:=mem_listed he;simp [go_sem,Instr.makeInterface,Instr.makeFunc] at hm)),?_⟩;clear hK' K);(refine Conc.Goes.step rfl (fun w₁ h₁=>?_);replace hK:=hK.rely h₁;clear h₁;rw [stepG_region_end];simp only [goes_go];refine⟨DO.none _,?_⟩);(refine Conc.Goes.step rfl (fun w₁ h₁=>?_);replace hK:=hK.rely h₁;clear h₁;rw [stepG_seq];simp only [goes_go];refine⟨DO.none _,?_⟩);(refine Conc.Goes.step rfl (fun w₁ h₁=>?_);replace hK:=hK.rely h₁;clear h₁;rw [stepG_seq];simp only [goes_go];refine⟨DO.none _,?_⟩);(refine Conc.Goes.step rfl (fun w₁ h₁=>?_);replace hK:=hK.rely h₁;clear h₁;rw [stepG_region];simp only [goes_go,List.size_toArray,List.length_cons,List.length_nil,Nat.reduceAdd,Nat.zero_add,List.range,List.range.loop];refine⟨DO.none _,?_⟩);(refine Conc.Goes.step rfl (fun w₁ h₁=>?_);replace hK:=hK.rely h₁;clear h₁;refine goes_oper_k rfl rfl (by decide) (fun K hK'=>?_);go_simp;refine hK' _ _ ⟨DO.quiet (fun e he=>(by have hm:=mem_listed he;simp [go_sem,Instr.makeInterface,Instr.makeFunc] at hm)),?_⟩;clear hK' K);refine Conc.Goes.step rfl (fun w₁ h₁=>?_);replace hK:=hK.rely h₁;clear h₁
  refine goes_oper_k rfl rfl (by decide) (fun K hK'=>?_)
  go_simp
  rw [(ze2 (zey (P:=Try.prog) (x:=20) (t:=103) (v:=.agg #[]) rfl) _ #[]).2];refine hK' _ _ ⟨?_,?_⟩
  . rw [show listed Try.prog (baseD 43).fn _ _ w₁=#[] from zfh (x:=.tmp 6) (t:=20) (t':=103) rfl (zey (P:=Try.prog) (v:=.agg #[]) rfl)]
    exact DO.none _
  clear hK' K
  go_simp
  (refine Conc.Goes.step rfl (fun w₁ h₁=>?_);replace hK:=hK.rely h₁;clear h₁;refine goes_oper_k rfl rfl (by decide) (fun K hK'=>?_);go_simp;refine hK' _ _ ⟨DO.quiet (fun e he=>(by have hm:=mem_listed he;simp [go_sem,Instr.makeInterface,Instr.makeFunc] at hm)),?_⟩;clear hK' K);(refine Conc.Goes.step rfl (fun w₁ h₁=>?_);replace hK:=hK.rely h₁;clear h₁;refine goes_oper_k rfl rfl (by decide) (fun K hK'=>?_);go_simp;refine hK' _ _ ⟨DO.quiet (fun e he=>(by have hm:=mem_listed he;simp [go_sem,Instr.makeInterface,Instr.makeFunc] at hm)),?_⟩;clear hK' K);(refine Conc.Goes.step rfl (fun w₁ h₁=>?_);replace hK:=hK.rely h₁;clear h₁;refine goes_oper_k rfl rfl (by decide) (fun K hK'=>?_);go_simp;refine hK' _ _ ⟨DO.quiet (fun e he=>(by have hm:=mem_listed he;simp [go_sem,Instr.makeInterface,Instr.makeFunc] at hm)),?_⟩;clear hK' K);refine Conc.Goes.step rfl (fun w₁ h₁=>?_);replace hK:=hK.rely h₁;clear h₁
  refine goes_oper_k rfl rfl (by decide) (fun K hK'=>?_)
  go_simp
  refine hK' _ _ ⟨DO.alloc hK.low (fun e he=>(by have hm:=mem_listed he;simp [go_sem] at hm)),?_⟩
  clear hK' K;replace hK:=KE.alloc (o:=.cells #[] 103) hK;refine Conc.Goes.step rfl (fun w₁ h₁=>?_);replace hK:=hK.rely h₁;clear h₁;refine goes_oper_k rfl rfl (by decide) (fun K hK'=>?_)
  go_simp
  refine hK' _ _ ⟨DO.quiet (fun e he=>(by have hm:=mem_listed he;simp [go_sem] at hm)),?_⟩
  clear hK' K;(refine Conc.Goes.step rfl (fun w₁ h₁=>?_);replace hK:=hK.rely h₁;clear h₁;refine goes_oper_k rfl rfl (by decide) (fun K hK'=>?_);go_simp;refine hK' _ _ ⟨DO.quiet (fun e he=>(by have hm:=mem_listed he;simp [go_sem,Instr.makeInterface,Instr.makeFunc] at hm)),?_⟩;clear hK' K)
  (refine Conc.Goes.step rfl (fun w₁ h₁=>?_);replace hK:=hK.rely h₁;clear h₁;rw [stepG_region_end];simp only [goes_go];refine⟨DO.none _,?_⟩);(refine Conc.Goes.step rfl (fun w₁ h₁=>?_);replace hK:=hK.rely h₁;clear h₁;rw [stepG_seq];simp only [goes_go];refine⟨DO.none _,?_⟩);(refine Conc.Goes.step rfl (fun w₁ h₁=>?_);replace hK:=hK.rely h₁;clear h₁;rw [stepG_region];simp only [goes_go,List.size_toArray,List.length_cons,List.length_nil,Nat.reduceAdd,Nat.zero_add,List.range,List.range.loop];refine⟨DO.none _,?_⟩);(refine Conc.Goes.step rfl (fun w₁ h₁=>?_);replace hK:=hK.rely h₁;clear h₁;refine goes_oper_k rfl rfl (by decide) (fun K hK'=>?_);go_simp;refine hK' _ _ ⟨DO.quiet (fun e he=>(by have hm:=mem_listed he;simp [go_sem,Instr.makeInterface,Instr.makeFunc] at hm)),?_⟩;clear hK' K);(refine Conc.Goes.step rfl (fun w₁ h₁=>?_);replace hK:=hK.rely h₁;clear h₁;rw [stepG_region_end];simp only [goes_go];refine⟨DO.none _,?_⟩);(refine Conc.Goes.step rfl (fun w₁ h₁=>?_);replace hK:=hK.rely h₁;clear h₁;rw [stepG_cond (t:=true) rfl];simp only [goes_go,if_true,if_false,Bool.false_eq_true,↓reduceIte];refine⟨DO.none _,?_⟩);(refine Conc.Goes.step rfl (fun w₁ h₁=>?_);replace hK:=hK.rely h₁;clear h₁;rw [stepG_region];simp only [goes_go,List.size_toArray,List.length_cons,List.length_nil,Nat.reduceAdd,Nat.zero_add,List.range,List.range.loop];refine⟨DO.none _,?_⟩);(refine Conc.Goes.step rfl (fun w₁ h₁=>?_);replace hK:=hK.rely h₁;clear h₁;refine goes_oper_k rfl rfl (by decide) (fun K hK'=>?_);go_simp;refine hK' _ _ ⟨DO.quiet (fun e he=>(by have hm:=mem_listed he;simp [go_sem,Instr.makeInterface,Instr.makeFunc] at hm)),?_⟩;clear hK' K);(refine Conc.Goes.step rfl (fun w₁ h₁=>?_);replace hK:=hK.rely h₁;clear h₁;rw [stepG_region_end];simp only [goes_go];refine⟨DO.none _,?_⟩);(refine Conc.Goes.step rfl (fun w₁ h₁=>?_);replace hK:=hK.rely h₁;clear h₁;rw [stepG_region];simp only [goes_go,List.size_toArray,List.length_cons,List.length_nil,Nat.reduceAdd,Nat.zero_add,List.range,List.range.loop];refine⟨DO.none _,?_⟩);(refine Conc.Goes.step rfl (fun w₁ h₁=>?_);replace hK:=hK.rely h₁;clear h₁;have hF:=(show _=_ from zg6 hK.box);refine goes_oper_k rfl rfl (by decide) (fun K hK'=>?_);go_simp;refine hK' _ _ ⟨DO.quiet (fun e he=>(by have hm:=mem_listed he;simp [go_sem,hF] at hm;subst hm;exact .inr ⟨rfl,_,rfl,zab hK.box,nofun,fun z=>absurd z hK.bO⟩)),?_⟩;clear hK' K hF);(refine Conc.Goes.step rfl (fun w₁ h₁=>?_);replace hK:=hK.rely h₁;clear h₁;refine goes_oper_k rfl rfl (by decide) (fun K hK'=>?_);go_simp;refine hK' _ _ ⟨DO.quiet (fun e he=>(by have hm:=mem_listed he;simp [go_sem,Instr.makeInterface,Instr.makeFunc] at hm)),?_⟩;clear hK' K);exact Conc.Goes.stop (fun w₁ h₁=>⟨⟨_,by simp only [zcD,zdb,zcy,zdX,cOps,cL,cR,Try.f43,Option.getD_some];rfl⟩,hK.rely h₁⟩)
theorem zlI {fv:Value} {wb dn0 dn bx:Nat} (w0:World) {cs:List Frame} (hD:zi5 (zcd fv wb dn0 bx [3]) cs):∃ n,∀ (c:Frame) (fn:Func),Try.prog.funcs[c.fn]?=some fn->c.defers=[]->∀ w,KE OB WB Inb w0 bx dn w ->
    Conc.Goes Try.prog false (Ro OB h) (DO OB WB Inb h) (fun g w'=>(∃ n,g=Go.Conc.G (zcD bx dn n [2]) [zdb fv wb dn0 bx true,botF])/\KE OB WB Inb w0 bx dn w') n (Go.Conc.G (PanF c) cs) w:=by
  induction hD with
  | root =>
    refine⟨61,fun c fn hf hd w hK=>?_⟩;refine Conc.Goes.step rfl (fun w₁ h₁=>?_);replace hK:=hK.rely h₁;clear h₁;rw [zdL (fr:=PanF c) (c:=zcd fv wb dn0 bx [3]) (e:=[zq1]) hd hf rfl rfl];simp only [goes_go];exact⟨DO.none _,zpk w0 _ hK⟩
  | frame hf1 hd1 hm1 _ ih =>
    obtain⟨n,hn⟩:=ih;refine⟨n+1,fun c fn hf hd w hK=>?_⟩;refine Conc.Goes.step rfl (fun w₁ h₁=>?_);replace hK:=hK.rely h₁;clear h₁;rw [zdL (fr:=PanF c) (e:=[zq1]) hd hf rfl hm1];simp only [goes_go];exact⟨DO.none _,hn _ _ hf1 hd1 _ hK⟩
set_option maxRecDepth 100000 in
theorem zqj {fv:Value} {wbr dn0 dn bx:Nat} {wb ak qt gr:Nat} {ab:Nat × Nat} {x y:Value} (w0:World) {cs:List Frame} (hD:zi5 (zcd fv wbr dn0 bx [3]) cs):∃ n,∀ w,KE OB WB Inb w0 bx dn w ->
    Conc.Goes Try.prog false (Ro OB h) (DO OB WB Inb h) (fun g w'=>(∃ n,g=Go.Conc.G (zcD bx dn n [2]) [zdb fv wbr dn0 bx true,botF])/\KE OB WB Inb w0 bx dn w') n ((doG wb ab ak qt gr x y cs).finishComm Try.prog #[rcase gr (.int .u64 0),rcase qt (.agg #[])] .select ((1:Nat):Int) (.agg #[]) false) w:=by
  obtain⟨n,hn⟩:=zlI (OB:=OB) (WB:=WB) (Inb:=Inb) (h:=h) (dn:=dn) w0 hD;refine⟨n+11,fun w hK=>?_⟩;rw [zlN];simp only [zfq,zdQ,doC,cOps,cL,cR,Try.f82,Option.getD_some];(refine Conc.Goes.step rfl (fun w₁ h₁=>?_);replace hK:=hK.rely h₁;clear h₁;refine goes_oper_k rfl rfl (by decide) (fun K hK'=>?_);go_simp;refine hK' _ _ ⟨DO.quiet (fun e he=>(by have hm:=mem_listed he;simp [go_sem,Instr.makeInterface,Instr.makeFunc] at hm)),?_⟩;clear hK' K)
  (refine Conc.Goes.step rfl (fun w₁ h₁=>?_);replace hK:=hK.rely h₁;clear h₁;refine goes_oper_k rfl rfl (by decide) (fun K hK'=>?_);go_simp;refine hK' _ _ ⟨DO.quiet (fun e he=>(by have hm:=mem_listed he;simp [go_sem,Instr.makeInterface,Instr.makeFunc] at hm)),?_⟩;clear hK' K);(refine Conc.Goes.step rfl (fun w₁ h₁=>?_);replace hK:=hK.rely h₁;clear h₁;refine goes_oper_k rfl rfl (by decide) (fun K hK'=>?_);go_simp;refine hK' _ _ ⟨DO.quiet (fun e he=>(by have hm:=mem_listed he;simp [go_sem,Instr.makeInterface,Instr.makeFunc] at hm)),?_⟩;clear hK' K);(refine Conc.Goes.step rfl (fun w₁ h₁=>?_);replace hK:=hK.rely h₁;clear h₁;rw [stepG_region_end];simp only [goes_go];refine⟨DO.none _,?_⟩);(refine Conc.Goes.step rfl (fun w₁ h₁=>?_);replace hK:=hK.rely h₁;clear h₁;rw [stepG_block];simp only [goes_go];refine⟨DO.none _,?_⟩);(refine Conc.Goes.step rfl (fun w₁ h₁=>?_);replace hK:=hK.rely h₁;clear h₁;rw [stepG_cond (t:=false) rfl];simp only [goes_go,if_true,if_false,Bool.false_eq_true,↓reduceIte];refine⟨DO.none _,?_⟩);(refine Conc.Goes.step rfl (fun w₁ h₁=>?_);replace hK:=hK.rely h₁;clear h₁;rw [stepG_cond (t:=true) rfl];simp only [goes_go,if_true,if_false,Bool.false_eq_true,↓reduceIte];refine⟨DO.none _,?_⟩);(refine Conc.Goes.step rfl (fun w₁ h₁=>?_);replace hK:=hK.rely h₁;clear h₁;rw [stepG_region];simp only [goes_go,List.size_toArray,List.length_cons,List.length_nil,Nat.reduceAdd,Nat.zero_add,List.range,List.range.loop];refine⟨DO.none _,?_⟩);(refine Conc.Goes.step rfl (fun w₁ h₁=>?_);replace hK:=hK.rely h₁;clear h₁;refine goes_oper_k rfl rfl (by decide) (fun K hK'=>?_);go_simp;refine hK' _ _ ⟨DO.quiet (fun e he=>(by have hm:=mem_listed he;simp [go_sem,Instr.makeInterface,Instr.makeFunc] at hm)),?_⟩;clear hK' K);(refine Conc.Goes.step rfl (fun w₁ h₁=>?_);replace hK:=hK.rely h₁;clear h₁;refine goes_oper_k rfl rfl (by decide) (fun K hK'=>?_);go_simp;refine hK' _ _ ⟨DO.quiet (fun e he=>(by have hm:=mem_listed he;simp [go_sem,Instr.makeInterface,Instr.makeFunc] at hm)),?_⟩;clear hK' K);refine Conc.Goes.step rfl (fun w₁ h₁=>?_);replace hK:=hK.rely h₁;clear h₁
  rw [zj6 rfl rfl rfl rfl rfl];simp only [goes_go];refine⟨DO.none _,?_⟩;exact hn ((base 82).at _ _) _ Try.func82 rfl _ hK
end
end Go.Proofs.Ytgndgbnhkoppmaa
namespace Go.Proofs.Ytgndgbnhkoppmaa
open Go Go.Conc
open Go.ConcN (sumTo upd sumTo_upd upd_ne upd_same)
set_option maxRecDepth 100000 in
theorem zmC (bx dn n:Nat) (cs:List Frame) (main:Bool) (w:World) :
    stepG Try.prog main (Go.Conc.G (zcD bx dn n [2]) cs) w=.comm (Go.Conc.G (zcD bx dn n [2]) cs) #[scase dn .nilIface (.tuple #[])] true .send w:=by
  simp only [zcD,zcy,zdX,cOps,cL,cR,Try.f43,Option.getD_some];rw [stepG_comm (w':=w) (cases:=#[scase dn .nilIface (.tuple #[])]) (blocking:=true) (shape:=.send) rfl rfl (by decide) (by simp [go_sem,execOp,scase,Act.eval]),listed_none (by simp [go_sem,execOp,Act.eval])]
set_option maxRecDepth 100000 in
theorem zj3 (bx dn dn0 n wb:Nat) (fv:Value):QuitsD Try.prog 5 0 ((Go.Conc.G (zcD bx dn n [2]) [zdb fv wb dn0 bx true,botF]).finishComm Try.prog #[scase dn .nilIface (.tuple #[])] .send 0 undef false):=by
  have h:(Go.Conc.G (zcD bx dn n [2]) [zdb fv wb dn0 bx true,botF]).finishComm Try.prog #[scase dn .nilIface (.tuple #[])] .send 0 undef false=Go.Conc.G (zcD bx dn n []) [zdb fv wb dn0 bx true,botF]:=by
    simp only [Goroutine.finishComm,zcD,zcy,zdX,cOps,cL,cR,Try.f43,Option.getD_some,Go.Conc.G,Frame.finish_at];rfl
  rw [h];refine QuitsD.ctl rfl (fun _=>stepG_region_end) ?_;refine QuitsD.ctl rfl (fun _=>stepG_end) ?_;refine QuitsD.ctl (g':=Go.Conc.G { zdb fv wb dn0 bx true with mode:=.returning } [botF]) rfl (fun w=>?_) ?_
  . simp [Go.Conc.G,zcD,zdb,stepG,unwind,doReturn,results,Frame.at,baseD,Try.func43,Try.results43,seen,GStep.after]
  refine QuitsD.ctl (g':=Go.Conc.G botF []) rfl (fun w=>?_) ?_
  . simp [Go.Conc.G,zdb,stepG,unwind,doReturn,results,Frame.at,baseD,botF,Try.func30,Try.results30,seen,GStep.after,goexitEntry]
  refine QuitsD.ctl (g':={ Go.Conc.G botF [] with status:=.finished }) rfl (fun w=>?_) ⟨rfl,rfl⟩
  simp [Go.Conc.G,stepG,unwind,botF,goexitEntry,Frame.catches];rfl
section
variable {OB WB:Nat->Prop} {Inb:Nat->Option Seat}
noncomputable abbrev zf7 (tb qt dn:Nat) (cs:List Frame):Seat:=zjx tb qt dn (pt tb) (.bool false) (.bool false) (pt tb) (pt tb) (pt tb 5) (.bool false) (.bool false) (pt tb) (pt tb) (pt tb) (pt tb 5) (pt tb) (pt tb 3) cs
theorem zia:(zds[4]?).bind (·.dst)=some 28:=by
  simp only [zds,zgF,zgC,zhi,zgw,zcT,cOps,cL,cR,Try.f14,Option.getD_some];rfl
set_option maxRecDepth 100000 in
theorem zlA {c0:Frame} {cs:List Frame} {n0:Nat} {w0 w:World} {tb qt dn:Nat} {g:Goroutine} (hg:(zf7 tb qt dn (c0::cs)).home g) (hK:KA OB WB Inb n0 w0 w) (ht:(∀ i s,Inb i=some s->¬ s.has tb)/\¬ WB tb) (h4:w0.cell? ⟨tb,4,none⟩=some (.bool true)) (hz:∀ o,w0.frozen? ⟨tb,o,none⟩=false) :
    Conc.Goes Try.prog true (Ro OB 0) (DO OB WB Inb 0) (fun g w'=>g=Go.Conc.G (c0.finish (.tuple #[])) cs/\KA OB WB Inb n0 (w0.setCell ⟨tb,4,none⟩ (.bool false)) w') 30 (g.finishComm Try.prog (zf7 tb qt dn (c0::cs)).cases (zf7 tb qt dn (c0::cs)).shape ((0:Nat):Int) .nilIface true) w:=by
  have hg:g=zlm tb qt dn (pt tb) (.bool false) (.bool false) (pt tb) (pt tb) (pt tb 5) (.bool false) (.bool false) (pt tb) (pt tb) (pt tb) (pt tb 5) (pt tb) (pt tb 3) (c0::cs):=hg;subst hg;have hr:commResult (zf7 tb qt dn (c0::cs)).cases (zf7 tb qt dn (c0::cs)).shape ((0:Nat):Int) .nilIface true=.nilIface:=by
    simp [zf7,zjx,commResult,rcase]
  simp only [Goroutine.finishComm,hr,zlm,Go.Conc.G,Frame.finish_at,zia];show Conc.Goes _ _ _ _ _ 30 (Go.Conc.G ((base 14).at ⟨#[pt tb,undef,pt tb,.bool false,.bool false,pt tb,pt tb,pt tb 5,.bool false,.bool false,pt tb,pt tb,pt tb,pt tb 5,pt tb,pt tb 3,pt tb,pt tb,pt tb 6,.chan (some qt),pt tb,pt tb,pt tb 4,.bool true,pt tb,pt tb,pt tb 2,.chan (some dn),.nilIface,undef,undef,undef],[]⟩ [.inRegion zds [],.code zgF]) (c0::cs)) w;simp only [zds,zgF,zgC,zhi,zgw,zcT,cOps,cL,cR,Try.f14,Option.getD_some];(refine Conc.Goes.step rfl (fun w₁ h₁=>?_);replace hK:=hK.rely h₁;clear h₁;rw [stepG_region_end];simp only [goes_go];refine⟨DO.none _,?_⟩);(refine Conc.Goes.step rfl (fun w₁ h₁=>?_);replace hK:=hK.rely h₁;clear h₁;rw [stepG_region];simp only [goes_go,List.size_toArray,List.length_cons,List.length_nil,Nat.reduceAdd,Nat.zero_add,List.range,List.range.loop];refine⟨DO.none _,?_⟩);(refine Conc.Goes.step rfl (fun w₁ h₁=>?_);replace hK:=hK.rely h₁;clear h₁;refine goes_oper_k rfl rfl (by decide) (fun K hK'=>?_);go_simp;refine hK' _ _ ⟨DO.quiet (fun e he=>(by have hm:=mem_listed he;simp [go_sem,Instr.makeInterface,Instr.makeFunc] at hm)),?_⟩;clear hK' K)
  (refine Conc.Goes.step rfl (fun w₁ h₁=>?_);replace hK:=hK.rely h₁;clear h₁;refine goes_oper_k rfl rfl (by decide) (fun K hK'=>?_);go_simp;refine hK' _ _ ⟨DO.quiet (fun e he=>(by have hm:=mem_listed he;simp [go_sem,Instr.makeInterface,Instr.makeFunc] at hm)),?_⟩;clear hK' K);(refine Conc.Goes.step rfl (fun w₁ h₁=>?_);replace hK:=hK.rely h₁;clear h₁;refine goes_oper_k rfl rfl (by decide) (fun K hK'=>?_);go_simp;refine hK' _ _ ⟨DO.quiet (fun e he=>(by have hm:=mem_listed he;simp [go_sem,Instr.makeInterface,Instr.makeFunc] at hm)),?_⟩;clear hK' K);refine Conc.Goes.step rfl (fun w₁ h₁=>?_);replace hK:=hK.rely h₁;clear h₁
  have hc4:=hK.cell h4;have hz4:w₁.frozen? ⟨tb,4,none⟩=false:=(zbB _ _ _ (by rw [hK.heap])).trans (hz 4)
  refine goes_oper_k rfl rfl (by decide) (fun K hK'=>?_)
  go_simp
  refine hK' _ _ ⟨hK.set_do (.inr ht) (fun e he=>(by have hm:=mem_listed he;simp [go_sem,zbK,storedEv,hc4,hz4] at hm;subst hm;exact zfZ ht.2 (by obtain⟨_,_,_,hb,_⟩:=zaK hc4;exact zab hb))),?_⟩
  clear hK' K hc4 hz4;replace hK:=hK.set (a:=⟨tb,4,none⟩) (v:=.bool false);(refine Conc.Goes.step rfl (fun w₁ h₁=>?_);replace hK:=hK.rely h₁;clear h₁;rw [stepG_region_end];simp only [goes_go];refine⟨DO.none _,?_⟩);(refine Conc.Goes.step rfl (fun w₁ h₁=>?_);replace hK:=hK.rely h₁;clear h₁;rw [stepG_end];simp only [goes_go];refine⟨DO.none _,?_⟩);refine Conc.Goes.step rfl (fun w₁ h₁=>?_);replace hK:=hK.rely h₁;clear h₁;rw [stepG_leave rfl rfl Try.func14 (results_none Try.results14 _ _ _) (events_results_none Try.results14 _ _)];simp only [goes_go];refine⟨DO.none _,?_⟩;exact Conc.Goes.stop (fun w₁ h₁=>⟨rfl,hK.rely h₁⟩)
end
end Go.Proofs.Ytgndgbnhkoppmaa
namespace Go.Proofs.Ytgndgbnhkoppmaa
open Go Go.Conc
open Go.ConcN (sumTo upd sumTo_upd upd_ne upd_same)
section
variable {p:Par} {Su Su':SuT} {S:St} {F:Emb} {N C:Nat} {Inb:Nat->Option Seat} {gs gs':Array Goroutine} {w w':World} {T T':Trace}
theorem Com.shutB {Iv':Nat->World->Prop} {PX':Nat->Prop} {wR':World} {FR':Emb} {NR' CR':Nat} (H:Com p Su S F N C Inb gs w T) {k hp gid dn:Nat} {self:Int} {quit:Nat} {closed:Bool} {pend pend':Option Nat} (hr:p.run=none) (hthr:S[k]?=some (.thr self quit closed true (some (hp,gid,dn)) pend))
    (hSu:∀ F N C i hp ob g,i≠k->Su F N C i hp ob g->Su' F N C i hp ob g)
    (hs:w.heap.size<=w'.heap.size) (hsz:gs'.size=gs.size) (hk:∀ x,x<w.heap.size->¬ p.OB x->x≠quit->x≠dn->w'.heap[x]?=w.heap[x]?) (hq:zbd w' quit) (hd:zbd w' dn) (hring:∃ B Mem q,RingO Try.prog p.OB p.WB B Iv' Mem (fun i=>if i=gid then none else Inb i) p.h T' gs' w' q/\Mem 0/\Mem p.h) (hmain:(if 0=gid then none else Inb 0)=p.seat0) :
    Com ⟨p.h,p.run,p.OB,p.WB,Iv',p.seat0,PX',wR',FR',NR',CR',p.n0,p.w0⟩ Su' (S.set k (.thr self quit true false (some (hp,gid,dn)) pend')) F N C (fun i=>if i=gid then none else Inb i) gs' w' T':=by
  have t:=H.tab;have hkl:=zaL hthr;have hself:(S.set k (Ob.thr self quit true false (some (hp,gid,dn)) pend'))[k]?=some (.thr self quit true false (some (hp,gid,dn)) pend'):=List.getElem?_set_self hkl;have hne:∀ i,i≠k->(S.set k (Ob.thr self quit true false (some (hp,gid,dn)) pend'))[i]?=S[i]?:=fun i hi=>List.getElem?_set_ne (Ne.symm hi);have hcase:∀ (i:Nat) ob,(S.set k (Ob.thr self quit true false (some (hp,gid,dn)) pend'))[i]?=some ob->(i=k/\ob=.thr self quit true false (some (hp,gid,dn)) pend')\/(i≠k/\S[i]?=some ob):=fun i ob hi=>by
    by_cases z:i=k
    . subst z;rw [hself] at hi;exact .inl ⟨rfl,(Option.some.inj hi).symm⟩
    . rw [hne i z] at hi;exact .inr ⟨z,hi⟩
  have hold:∀ {i:Nat} {ob},S[i]?=some ob->(∀ a b c d e f,ob≠.thr a b c d e f)->(S.set k (Ob.thr self quit true false (some (hp,gid,dn)) pend'))[i]?=some ob:=fun {i ob} hi hn=>by
    rw [hne i (fun e=>by rw [e,hthr] at hi;exact hn _ _ _ _ _ _ (Option.some.inj hi).symm)];exact hi
  have hch:∀ i s c,ChS (S.set k (Ob.thr self quit true false (some (hp,gid,dn)) pend')) i s c->ChS S i s c:=fun i s c h=>zkf hthr h;have hkc:∀ {i s c cap},ChS S i s c->c≠quit->c≠dn->ChanO w c cap->ChanO w' c cap:=fun {i s c cap} hc hn hn2 ⟨m,hm⟩=>⟨m,(hk c (zab hm) (t.far _ _ _ hc).2.1 hn hn2).trans hm⟩;refine⟨hring,⟨fun b=>?_,fun b=>?_,fun k s c k' s' h1 h2=>t.dist _ _ _ _ _ (hch _ _ _ h1) (hch _ _ _ h2),fun k s c h=>?_,fun b hO=>Nat.lt_of_lt_of_le (t.olow b hO) hs,fun i a b c d e h=>?_,fun i a b c d e h=>?_⟩,hmain,fun i se hi=>?_,fun i a b c d e f g h=>?_,H.n0,by rw [List.length_set];exact H.c0⟩
  . rw [t.obs b];constructor
    . rintro ⟨i,a1,a2,a3,a4,a5,a6,a7,a8⟩;by_cases z:i=k
      . subst z;exact⟨i,_,_,_,_,_,_,hself,a8⟩
      . exact⟨i,_,_,_,_,_,_,(hne i z).trans a7,a8⟩
    . rintro ⟨i,a1,a2,a3,a4,a5,a6,a7,a8⟩;rcases hcase _ _ a7 with ⟨rfl,_⟩|⟨_,z⟩
      . exact⟨i,_,_,_,_,_,_,hthr,a8⟩
      . exact⟨i,_,_,_,_,_,_,z,a8⟩
  . rw [t.wbs b];constructor
    . rintro ⟨i,a1,a2,a3,a4,a5,a7,a8⟩;exact⟨i,_,_,_,_,_,hold a7 (fun _ _ _ _ _ _ z=>by cases z),a8⟩
    . rintro ⟨i,a1,a2,a3,a4,a5,a7,a8⟩;rcases hcase _ _ a7 with ⟨_,z⟩|⟨_,z⟩
      . cases z
      . exact⟨i,_,_,_,_,_,z,a8⟩
  . obtain⟨h1,h2,h3⟩:=t.far _ _ _ (hch _ _ _ h);refine⟨?_,h2,h3⟩;by_cases e:c=quit
    . rw [e];exact hq
    by_cases e2:c=dn
    . rw [e2];exact hd
    . obtain⟨b1,b2,b3,b4,b5,b6,b7⟩:=h1;exact⟨b1,b2,b3,b4,b5,b6,(hk c (zab b7) h2 e e2).trans b7⟩
  . rcases hcase _ _ h with ⟨_,z⟩|⟨hn,z⟩
    . cases z
    . exact hkc (.quit z) (fun e=>hn (t.dist' (.quit z) (.quit hthr) e).1) (fun e=>absurd (t.dist' (.quit z) (.done hthr) e).2 (by decide)) (t.quit _ _ _ _ _ _ z)
  . rcases hcase _ _ h with ⟨_,z⟩|⟨hn,z⟩
    . cases z
    . obtain⟨h1,hp,gid,dn,ws,st,ak,gr,rfl,h3,h4,h5,h6,h7,h8,h9⟩:=t.busy _ _ _ _ _ _ z;exact⟨h1,hp,gid,dn,ws,st,ak,gr,rfl,hold h3 (fun _ _ _ _ _ _ z=>by cases z),hkc (.ask h3) (fun e=>absurd (t.dist' (.ask h3) (.quit hthr) e).2 (by decide)) (fun e=>absurd (t.dist' (.ask h3) (.done hthr) e).2 (by decide)) h4,hkc (.grant h3) (fun e=>absurd (t.dist' (.grant h3) (.quit hthr) e).2 (by decide)) (fun e=>absurd (t.dist' (.grant h3) (.done hthr) e).2 (by decide)) h5,hkc (.done z) (fun e=>absurd (t.dist' (.done z) (.quit hthr) e).2 (by decide)) (fun e=>hn (t.dist' (.done z) (.done hthr) e).1) h6,h7,by omega,hold h9 (fun _ _ _ _ _ _ z=>by cases z)⟩
  . by_cases hig:i=gid
    . rw [if_pos hig] at hi;cases hi
    rw [if_neg hig] at hi;obtain⟨h1,h2,h3⟩:=H.seats i se hi;refine⟨h1,by omega,fun h0=>?_⟩
    obtain⟨j,a1,a2,a3,a4,a5,a6,a7,a8⟩:=h3 h0;have hjk:j≠k:=fun e=>by rw [e,hthr] at a8;cases a8;exact hig rfl
    exact⟨j,a1,a2,a3,a4,a5,a6,a7,(hne j hjk).trans a8⟩
  . rcases hcase _ _ h with ⟨_,z⟩|⟨hn,z⟩
    . cases z
    . obtain⟨h1,h2⟩:=H.waits _ _ _ _ _ _ _ _ z;refine⟨h1,fun hne'=>?_⟩;obtain⟨ws,st,ak,gr,ab,x,y,cs,h3,h4,h5⟩:=h2 hne';refine⟨ws,st,ak,gr,ab,x,y,cs,hold h3 (fun _ _ _ _ _ _ z=>by cases z),?_,hSu _ _ _ _ _ _ _ hn h5⟩
      -- its goroutine is another one: its seat has another grant channel
      have hgk:=(H.waits _ _ _ _ _ _ _ _ hthr).2 (by rw [hr];simp)
      obtain⟨ws',st',ak',gr',ab',x',y',cs',g3,g4,_⟩:=hgk;show (if e=gid then none else Inb e)=_
      rw [if_neg]
      . exact h4
      intro eg;rw [eg,g4] at h4;have hcs:=congrArg Seat.cases (Option.some.inj h4);simp only [zcH] at hcs;have e1:quit=b:=by
        have:=congrArg (fun a=>a[1]?) hcs;simp [rcase] at this;exact this
      exact hn (t.dist' (.quit z) (.quit hthr) e1.symm).1
end
theorem zed {tb qt dn:Nat} {cs:List Frame} {c:Nat} (h:(zf7 tb qt dn cs).has c):c=dn:=by
  obtain⟨k,z,hk⟩:=h;rcases k with _|k<;>simp [zf7,zjx,rcase] at hk
  exact hk.1.symm
theorem zqo (tb qt dn:Nat) (cs:List Frame):(zf7 tb qt dn cs).Wf:=by
  refine⟨fun cc h=>?_,fun k m c z z' h1 h2=>?_⟩
  . simp only [zf7,zjx,List.mem_toArray,List.mem_cons,List.not_mem_nil,or_false] at h;exact⟨_,_,h⟩
  . rcases k with _|k<;>rcases m with _|m<;>simp [zf7,zjx,rcase] at h1 h2<;>omega
section
variable (hok:∀ mn OB WB,zau mn OB WB)
variable {Γ:Type} (Pr:Proto Γ)
def zn4:SpT Γ:=fun f args hs S γ Q=>∃ (k quit hp gid dn:Nat) (self:Int) (pend:Option Nat) (γ1:Γ),f=14/\args=#[hndV k]/\KeepC γ.2 S/\S[k]?=some (.thr self quit false true (some (hp,gid,dn)) pend)/\(∀ i,i≠k->Pr.ph γ1 i=Pr.ph γ.1 i)/\Pr.fuel γ1<=Pr.fuel γ.1 /\
  Q (.tuple #[]) hs (S.set k (.thr self quit true false (some (hp,gid,dn)) none)) (γ1,S.set k (.thr self quit true false (some (hp,gid,dn)) none))
variable {Pr}
theorem zse {wb wb' ak ak' qt qt' gr gr':Nat} {ab ab':Nat × Nat} {x x' y y':Value} {cs cs':List Frame} (h:doG wb ab ak qt gr x y cs=doG wb' ab' ak' qt' gr' x' y' cs'):cs=cs':=congrArg Goroutine.callers h
theorem zqN {n00:Nat} {w00:World} {Fin:Unit->Machine->Trace->Prop} {Stk:List Frame->Prop}:SpOK hok (ClM n00 w00) (SuM hok Pr) Fin Stk (zn4 Pr):=by
  intro f args hs S γ Q hsp b cs F0 N0 C0 fn ops i rest kk tmps o hfn hkd hsk ho hw hb' hca K d p Inb F gs w sl T g hC H hg hgS hF hN hC0;obtain⟨k,quit,hp,gid,dn,self,pend,γ1,rfl,rfl,hkeep,hthr,hph1,hfu1,hQ⟩:=hsp;obtain⟨h0,hrun,hseat,hPX,hn00,hw00⟩:=id hC;have hst:∀ u∈tmps,Stab (Kn hs.next S.length) F u:=fun u hu=>H.inv.1.vst u hu;refine (zbY hok (SuM.mono hok Pr d γ.1) ho hw hb' hca Try.func14 rfl zhT hkd H hg hgS).bind fun m1 T1=>?_;rintro ⟨gs1,w1,sl1,rfl,k1,H1⟩;have H1:Standing p hok (SuM hok Pr d γ.1) S F (.run [] [] hs S) Inb gs1 w1 T1:=Standing.keep (c:=.run [] [] hs S) hok hkeep (Standing.conf hok H1 rfl rfl (fun v hv=>by cases hv))
  have hX:=zdh hok h0;have hinv:RInv (XM hok p.OB p.WB) F (.run [] [] hs S) w1:=hX ▸ H1.inv;have Rp:Rep true p.OB p.WB F S w1:=hinv.1.rep;obtain⟨hOtb,hcur,_,hrtb⟩:=Rp.at' _ _ hthr rfl;rw [zgL (Rp.base _ _ hthr rfl),h0] at k1;obtain⟨B0,Mem0,q0,R0,hM0,_⟩:=H1.com.ring;rw [h0] at R0;have hlow:=zfE H1.com H1.wrow;have t:=H1.com.tab;have htb:=zik H1.com hOtb;obtain⟨_,hp',gid',dn',ws,st,ak,gr,e1,hwp,cask,cgr,cdn,hgid,hgsz,hbox⟩:=t.busy _ _ _ _ _ _ hthr;cases e1;obtain⟨_,hwaits⟩:=H1.com.waits _ _ _ _ _ _ _ _ hthr;obtain⟨ws',st',ak',gr',ab,x,y,csb,hwp',hIg,hSuk⟩:=hwaits (by rw [hrun];simp)
  rw [hwp] at hwp';cases hwp';obtain⟨m,hm⟩:=t.quit _ _ _ _ _ _ hthr;obtain⟨kd,hkd'⟩:=cdn;obtain⟨_,hqO,hqW⟩:=t.far _ _ _ (.quit hthr);obtain⟨hdC,hdO,hdW⟩:=t.far _ _ _ (.done hthr);have hqd:quit≠dn:=fun e=>absurd (t.dist' (.quit hthr) (.done hthr) e).2 (by decide)
  have hdist:=H1.com.apartG hrun hthr hwp;have hrow:w1.heap[F.blk (VB+(hp+1))]?=some (.cells #[.chan (some dn)] 101 (0,0)):=Rp.at' _ _ hbox;have hap:∀ x,p.OB x->¬ p.WB x:=R0.apart;obtain⟨q',F0',n0',c0',n',z1,z2,z3,z4,z5,z6⟩:=hSuk;obtain⟨hc0',_,_,_,_,_,_,_,csb',fv,wbr,dn0,hdoG,hDowns⟩:=(BSusp.unfold hok z6).2;obtain rfl:=zse hdoG;have hbx0:F0'.blk (VB+(hp+1))=F.blk (VB+(hp+1)):=(z2 (VB+(hp+1)) (.inr ⟨by omega,by omega⟩)).1
  rw [hbx0] at hDowns;generalize htbE:F.blk (VB+k)=tb at *;have hqt:quit≠tb:=fun e=>hqO (e ▸ hOtb);have hdt:dn≠tb:=fun e=>hdO (e ▸ hOtb);refine (zaM (sl:=sl1) (h:=0) 60 k1 (zi3 (n0:=w1.heap.size) (w0:=w1) (qt:=quit) ⟨rfl,hlow,Nat.le_refl _⟩ htb (by simp [World.cell?,hrtb,zaO];rfl) (by simp [World.cell?,hrtb,zaO]) (by simp [World.cell?,hrtb,zaO,chV]) (fun o=>by simp [World.frozen?,hrtb]) _) R0).bind fun m2 T2=>?_
  rintro ⟨gs2,g2,w2,sl2,q2,B2,rfl,s2,k2,⟨rfl,K2⟩,R2⟩;have hsz2:w2.heap.size=w1.heap.size:=by rw [K2.heap,zaE,zaE]
  have hold2:∀ x,x≠tb->w2.heap[x]?=w1.heap[x]?:=fun x hx=>by
    rw [K2.heap,heap_setCell,if_neg (fun (e:tb=x)=>hx e.symm),heap_setCell,if_neg (fun (e:tb=x)=>hx e.symm)]
  have hrtb2:w2.heap[tb]?=some (.cells (zaO F self quit true true (some (hp,gid,dn)) none) 72 (0,0)):=by
    rw [K2.heap,heap_setCell,if_pos rfl,heap_setCell,if_pos rfl,hrtb];simp [zaO,ptrO]
  have hm2:w2.heap[quit]?=some (.chan 0 #[] false m m false):=(hold2 _ hqt).trans hm;have hd2:w2.heap[dn]?=some (.chan 1 #[] false kd kd false):=(hold2 _ hdt).trans hkd'
  -- goroutine 0 takes its seat
  let cs0:List Frame:=b.at (actF F tmps) (.inRegion ops (i::rest)::kk)::cs
  let sC:Seat:=zf7 tb quit dn cs0
  let Inb1:Nat->Option Seat:=fun i=>if i=0 then some sC else Inb i
  have R3:RingO Try.prog p.OB p.WB (max B2 w2.heap.size) (IvN p.OB w2) Mem0 Inb 0 T2 gs2 w2 q2:=(CoF.mono (Nat.le_max_left _ _) (Nat.max_le.2 ⟨R2.lowB,Nat.le_refl _⟩) R2).iv (fun i w w1 hr hi h b hb=>(hr.2 h b hb).trans (hi h b hb)) (fun i s w' hi _ _ h=>absurd h hi);have R4:RingO Try.prog p.OB p.WB (max B2 w2.heap.size) (IvN p.OB w2) Mem0 Inb1 0 T2 gs2 w2 q2:=R3.reseat hM0 sC (zqo _ _ _ _)
    (fun c hcc=>by rw [zed hcc];exact⟨_,_,hd2⟩)
    (fun c hcc=>by rw [zed hcc];exact hdO)
    (fun c hcc=>by rw [zed hcc];have:=zab hd2;omega)
    (fun i s' c hi hs hx hcc=>absurd (zed hcc) (hdist i s' c hi hs hx).2)
  have hIg1:Inb1 gid=some (zcH (F.blk (VB+hp)) ab ak quit gr x y csb):=by
    show (if gid=0 then _ else Inb gid)=_
    rw [if_neg (by omega)];exact hIg
  refine (zsc (P:=Try.prog) (OB:=p.OB) (WB:=p.WB) (B:=max B2 w2.heap.size) (Iv:=IvN p.OB w2) (Mem:=Mem0) (Inb:=Inb1) (h:=0) (j:=gid) (c:=quit) (kk:=1) (cap:=0) (z:=.agg #[]) (a:=Go.Conc.G (zcE tb quit [4]) cs0) (a':=Go.Conc.G (zcE tb quit []) cs0) (by omega) hIg1 rfl hM0 rfl hqW ?_ rfl
    (fun main w3 k3 hw3=>zhP tb quit cs0 hw3 main) (Inb1:=Inb1) (fun _ _=>rfl) (.inl rfl) (nh:=41) w2 (fun T' w3 k3 hdf hw3=>?_) _ (sl:=sl2) rfl (by omega) (SideD.refl _) hm2 k2 R4).bind fun m3 T3=>?_
  . simp only [zcE,closeOps2,zcT,cOps,cL,cR,Try.f14,Option.getD_some];rfl
  . have hKCl:KCl p.OB w2 tb dn (w3.setChan quit 0 #[] true k3 k3 false):=⟨fun b hb=>by
      rw [heap_setChan_ne _ _ _ _ _ _ _ (fun (e:quit=b)=>hqO (by rw [e];exact hb))]
      exact hw3.only b fun z=>z.2 rfl,hOtb,by simp [World.cell?,hrtb2,zaO,chV],by simp [World.cell?,hrtb2,zaO]⟩
    refine .inl ⟨40,rfl,?_⟩;unfold zcE;exact zd2 (fun g w h=>⟨h.1,fun _ b hb=>h.2.own b hb⟩) (zox hKCl (by have:=zab hrtb2;omega) cs0)
  rintro ⟨w3,k3,hw3,gs4,gq,w4,sl4,q4,rfl,c1,c2,c3,c4,c5,R5⟩;have c3:gq=doG (F.blk (VB+hp)) ab ak quit gr x y csb:=c3;subst c3;have hh3:w3.heap=w2.heap:=Array.ext_getElem? fun b=>hw3.only b fun z=>z.2 rfl;have hold3:∀ x,x≠quit->(w3.setChan quit 0 #[] true k3 k3 false).heap[x]?=w2.heap[x]?:=fun x hx=>by rw [heap_setChan_ne _ _ _ _ _ _ _ (fun e=>hx e.symm),hh3]
  have hsz3:(w3.setChan quit 0 #[] true k3 k3 false).heap.size=w2.heap.size:=by rw [<-hh3];simp [World.setChan]
  have hq3:(w3.setChan quit 0 #[] true k3 k3 false).heap[quit]?=some (.chan 0 #[] true k3 k3 false):=heap_setChan_self w3 (by rw [hh3];exact hm2) _ _ _ _ _ _
  generalize w3.setChan quit 0 #[] true k3 k3 false=w3c at *;have hold4:∀ x,x≠quit->¬ p.OB x->w4.heap[x]?=w2.heap[x]?:=fun x hx hO=>(c4.only x hO).trans (hold3 x hx);have hsz4:w4.heap.size=w1.heap.size:=by rw [c4.size,hsz3,hsz2]
  have hq4:w4.heap[quit]?=some (.chan 0 #[] true k3 k3 false):=(c4.only quit hqO).trans hq3
  let Inb2:Nat->Option Seat:=fun i=>if i=gid then none else Inb1 i
  have hI2:∀ i s,Inb2 i=some s->i≠gid/\((i=0/\s=sC)\/Inb i=some s):=fun i s hi=>by
    have hi:(if i=gid then none else if i=0 then some sC else Inb i)=some s:=hi
    by_cases e:i=gid
    . rw [if_pos e] at hi;cases hi
    . rw [if_neg e] at hi;by_cases e0:i=0
      . rw [if_pos e0] at hi;cases hi;exact⟨e,.inl ⟨e0,rfl⟩⟩
      . rw [if_neg e0] at hi;exact⟨e,.inr hi⟩
  have hlow4:∀ b,zfv p.OB p.WB Inb2 b->b<w4.heap.size:=fun b hb=>by
    rw [hsz4];rcases hb with hb|hb|⟨i,s,hi,hs'⟩
    . exact hlow b (.inl hb)
    . exact hlow b (.inr (.inl hb))
    . rcases (hI2 i s hi).2 with ⟨_,rfl⟩|h
      . rw [zed hs'];exact zab hkd'
      . exact hlow b (.inr (.inr ⟨i,s,h,hs'⟩))
  generalize hbxE:F.blk (VB+(hp+1))=bx at *;have hOb:¬ p.OB bx:=fun z=>by
    obtain⟨k5,a1,a2,a3,a4,a5,a6,h7,h8⟩:=(t.obs _).1 z;have:=(Rp.at' _ _ h7 rfl).2.2.2;rw [<-h8,hrow] at this;cases this
  have hbq:bx≠quit:=fun e=>by rw [e,hm] at hrow;cases hrow
  have hrow4:w4.heap[bx]?=some (.cells #[.chan (some dn)] 101 (0,0)):=by
    rw [hold4 bx hbq hOb,hold2 bx (fun e=>hOb (e ▸ hOtb))];exact hrow
  obtain⟨ng,hgo⟩:=zqj (OB:=p.OB) (WB:=p.WB) (Inb:=Inb2) (h:=gid) (dn:=dn) (wb:=F.blk (VB+hp)) (ab:=ab) (ak:=ak) (qt:=quit) (gr:=gr) (x:=x) (y:=y) w4 hDowns;have hgo:=hgo w4 ⟨hlow4,fun _ _ _=>rfl,Nat.le_refl _,hrow4,hOb⟩;have hb0:(gid==0)=false:=by simp;omega
  refine (zaM (sl:=sl4) (h:=gid) ng c2 (by rw [hb0];exact hgo) R5).bind fun m5 T5=>?_
  rintro ⟨gs5,g5,w5,sl5,q5,B5,rfl,s5,k5,⟨⟨nn,rfl⟩,K5⟩,R6⟩;have hd5:w5.heap[dn]?=some (.chan 1 #[] false kd kd false):=by
    rw [K5.old dn hdO (by rw [hsz4];exact zab hkd'),hold4 dn (Ne.symm hqd) hdO];exact hd2
  have hMg:Mem0 gid/\Inb1 gid≠none:=⟨(R4.mem gid _ hIg1).1,by rw [hIg1];simp⟩
  refine (zr8 (P:=Try.prog) (h:=gid) (j:=0) (kk:=0) (cap:=1) (c:=dn) (v:=.nilIface) (z:=.nilIface) (z':=.tuple #[]) (s:=sC) (by omega) (by omega) (by show (if 0=gid then none else if 0=0 then some sC else Inb 0)=some sC;rw [if_neg (by omega),if_pos rfl]) rfl hMg rfl hdW (fun main w=>zmC bx dn nn _ main w) (nh:=5) (by omega) (zj3 bx dn dn0 nn wbr fv) w5 _ (sl:=sl5) rfl (by omega) (SideD.refl w5) hd5 k5 R6).bind fun m6 T6=>?_
  rintro ⟨gs6,gz,w6,k6,sl6,q6,rfl,d1,d2,d3,d4,d5,d6,R7⟩;have d5:IvN p.OB w2 0 w6:=d5;have hsz7:(w6.setChan dn 1 #[] false (k6+1) (k6+1) false).heap.size=w5.heap.size:=by rw [<-d4.size];simp [World.setChan]
  obtain⟨odn,hodn⟩:∃ a,w6.heap[dn]?=some a:=⟨_,Array.getElem?_eq_getElem d6⟩;have hdn7:(w6.setChan dn 1 #[] false (k6+1) (k6+1) false).heap[dn]?=some (.chan 1 #[] false (k6+1) (k6+1) false):=heap_setChan_self w6 hodn _ _ _ _ _ _;have hset7:∀ x,x≠dn->(w6.setChan dn 1 #[] false (k6+1) (k6+1) false).heap[x]?=w6.heap[x]?:=fun x hx=>heap_setChan_ne _ _ _ _ _ _ _ (fun e=>hx e.symm);generalize w6.setChan dn 1 #[] false (k6+1) (k6+1) false=w7 at *;have hold7:∀ x,x<w1.heap.size->¬ p.OB x->x≠quit->x≠dn->w7.heap[x]?=w1.heap[x]?:=fun x hx hO hq hd=>by
    rw [hset7 x hd,d4.only x hO hd,K5.old x hO (by rw [hsz4];exact hx),hold4 x hq hO,hold2 x (fun e=>hO (e ▸ hOtb))]
  have hown7:∀ x,p.OB x->w7.heap[x]?=w2.heap[x]?:=fun x hO=>by rw [hset7 x (fun e=>hdO (e ▸ hO))];exact d5 rfl x hO
  have hrtb7:w7.heap[tb]?=some (.cells (zaO F self quit true true (some (hp,gid,dn)) none) 72 (0,0)):=(hown7 tb hOtb).trans hrtb2;have hq7:w7.heap[quit]?=some (.chan 0 #[] true k3 k3 false):=by
    rw [hset7 quit hqd,d4.only quit hqO hqd,K5.old quit hqO (zab hq4)];exact hq4
  have hsz71:w1.heap.size<=w7.heap.size:=by rw [hsz7,<-hsz4];exact K5.size
  let InbF:Nat->Option Seat:=fun i=>if i=gid then none else Inb i
  have hInb0:Inb 0=none:=by rw [H1.com.main,hseat]
  have hIF:(fun i=>if i=0 then none else if i=gid then none else Inb2 i)=InbF:=by
    funext i;show (if i=0 then none else if i=gid then none else if i=gid then none else if i=0 then some sC else Inb i)=if i=gid then none else Inb i
    by_cases e0:i=0
    . rw [if_pos e0,e0,if_neg (by omega),hInb0]
    . by_cases e:i=gid
      . rw [if_neg e0,if_pos e,if_pos e]
      . rw [if_neg e0,if_neg e,if_neg e,if_neg e0,if_neg e]
  have R8:=R7.unseat;rw [show (fun i=>if i=0 then none else (fun i=>if i=gid then none else Inb2 i) i)=InbF from hIF] at R8
  have hIFs:∀ i s,InbF i=some s->Inb i=some s:=fun i s hi=>by
    have hi:(if i=gid then none else Inb i)=some s:=hi
    by_cases e:i=gid
    . rw [if_pos e] at hi;cases hi
    . rw [if_neg e] at hi;exact hi
  have hlow7:∀ b,zfv p.OB p.WB InbF b->b<w7.heap.size:=fun b hb=>Nat.lt_of_lt_of_le (hlow b (by
    rcases hb with hb|hb|⟨i,s,hi,hs'⟩
    . exact .inl hb
    . exact .inr (.inl hb)
    . exact .inr (.inr ⟨i,s,hIFs i s hi,hs'⟩))) hsz71
  refine (zaM (sl:=sl6) (h:=0) 30 d2 (zlA (n0:=w7.heap.size) (w0:=w7) d3 ⟨rfl,hlow7,Nat.le_refl _⟩ ⟨fun i s hi=>htb.1 i s (hIFs i s hi),htb.2⟩ (by simp [World.cell?,hrtb7,zaO]) (fun o=>by simp [World.frozen?,hrtb7])) R8).bind fun m8 T8=>?_
  rintro ⟨gs8,g8,w8,sl8,q8,B8,rfl,s8,k8,⟨rfl,K8⟩,R9⟩;have hsz8:w8.heap.size=w7.heap.size:=by rw [K8.heap,zaE]
  have hset8:∀ x,x≠tb->w8.heap[x]?=w7.heap[x]?:=fun x hx=>by rw [K8.heap,heap_setCell,if_neg (fun (e:tb=x)=>hx e.symm)]
  have hrtb8:w8.heap[tb]?=some (.cells (zaO F self quit true false (some (hp,gid,dn)) none) 72 (0,0)):=by
    rw [K8.heap,heap_setCell,if_pos rfl,hrtb7];simp [zaO,ptrO]
  have hold8:∀ x,x<w1.heap.size->x≠quit->x≠dn->x≠tb->w8.heap[x]?=w1.heap[x]?:=fun x hx hq hd ht=>by
    rw [hset8 x ht];by_cases hO:p.OB x
    . rw [hown7 x hO,hold2 x ht]
    . exact hold7 x hx hO hq hd
  have hsz81:w1.heap.size<=w8.heap.size:=by rw [hsz8];exact hsz71
  have hinv8:RInv (XM hok p.OB p.WB) F (.run [] [] hs (S.set k (.thr self quit true false (some (hp,gid,dn)) none))) w8:=by
    refine ze9 hok hthr hcur (fun p hp=>by cases hp) hinv (fun x hx hne=>?_) (by rw [htbE];exact hrtb8) hsz81
    rw [htbE] at hne;obtain⟨_,_,_,h1⟩:=zcX (XF.soft (hok _ _ _)) hinv hx;exact hold8 x (zab h1) (fun e=>by rw [e,hm] at h1;cases h1) (fun e=>by rw [e,hkd'] at h1;cases h1) hne
  have hlen:(S.set k (Ob.thr self quit true false (some (hp,gid,dn)) none)).length=S.length:=by simp
  let p':Par:=⟨p.h,p.run,p.OB,p.WB,IvN p.OB w2,p.seat0,p.PX,w8,F,0,0,p.n0,p.w0⟩
  have hcomP:Com p (SuM hok Pr d γ.1) S F hs.next S.length Inb gs1 w1 T1:=H1.com;have hq8:zbd w8 quit:=⟨_,_,_,_,_,_,(hset8 quit hqt).trans hq7⟩;have hd8:zbd w8 dn:=⟨_,_,_,_,_,_,(hset8 dn hdt).trans hdn7⟩;have hM8:(Mem0 0/\Inb1 0≠none)/\0≠gid/\Inb2 0≠none:=⟨⟨hM0,by show (if 0=0 then some sC else Inb 0)≠none;simp⟩,by omega,by show (if 0=gid then none else if 0=0 then some sC else Inb 0)≠none;rw [if_neg (by omega),if_pos rfl];simp⟩
  have hring8:∃ B Mem q,RingO Try.prog p.OB p.WB B (IvN p.OB w2) Mem (fun i=>if i=gid then none else Inb i) p.h T8 gs8 w8 q/\Mem 0/\Mem p.h:=⟨B8,fun g=>(Mem0 g/\Inb1 g≠none)/\g≠gid/\Inb2 g≠none,q8,by rw [h0];exact R9,hM8,by rw [h0];exact hM8⟩
  have hcom8:Com p' (SuM hok Pr d γ1) (S.set k (.thr self quit true false (some (hp,gid,dn)) none)) F hs.next S.length InbF gs8 w8 T8:=by
    refine hcomP.shutB (w':=w8) (gs':=gs8) (T':=T8) (Iv':=IvN p.OB w2) (pend':=none) hrun hthr (fun F N C i hp ob g hi hx=>?_) hsz81 (by omega) (fun x hx hO hq hd=>hold8 x hx hq hd fun e=>hO (e ▸ hOtb)) hq8 hd8 hring8 (by rw [if_neg (by omega),H1.com.main])
    obtain⟨q,F0,n0,c0,n,y1,y2,y3,y4,y5,y6⟩:=hx;exact⟨q,F0,n0,c0,n,(hph1 i hi).trans y1,y2,y3,y4,Nat.le_trans hfu1 y5,y6⟩
  have hstand:Standing p' hok (SuM hok Pr d γ1) (S.set k (.thr self quit true false (some (hp,gid,dn)) none)) F (.run [] [] hs (S.set k (.thr self quit true false (some (hp,gid,dn)) none))) InbF gs8 w8 T8:=by
    refine⟨?_,(zdh hok (p:=p') h0) ▸ hinv8,fun z=>absurd h0 z,fun x hx=>absurd hx (hPX x),fun x hx=>?_,H1.wro,H1.base.move hsz81 (fun x _ hT=>?_) (fun _ _ h=>h) (fun x hx _ h2 h3=>?_) (fun i s c h=>.inl (zkf hthr h)),Same.refl _ _,Nat.zero_le _,Nat.zero_le _⟩
    . show Com p' _ _ F hs.next (S.set k (Ob.thr self quit true false (some (hp,gid,dn)) none)).length InbF gs8 w8 T8;rw [hlen];exact hcom8
    . obtain⟨cc,el,y1,y2⟩:=H1.wrow x hx;exact⟨cc,el,(hold8 x (zab y1) (fun e=>hqW (e ▸ hx)) (fun e=>hdW (e ▸ hx)) (fun e=>htb.2 (e ▸ hx))).trans y1,y2⟩
    . rw [zdh hok (p:=p') h0] at hT;rw [hX];exact hT.imp id (fun z=>zgJ hthr z)
    . exact hold8 x (H1.base.low x hx).1 (h3 _ _ _ (.quit hthr)) (h3 _ _ _ (.done hthr)) (fun e=>h2 (e ▸ hOtb))
  have hfin:(b.at (actF F tmps) (.inRegion ops (i::rest)::kk)).finish (.tuple #[])=b.at (actF F (putL o.dst (.tuple #[]) tmps)) (.inRegion ops rest::kk):=by
    rw [Frame.finish_at,ho];show b.at ((actF F tmps).put o.dst (.tuple #[])) (.inRegion ops rest::kk)=_;rw [<-zcI];simp
  rw [hfin] at k8;exact K _ hs _ _ hQ d p' InbF F gs8 w8 sl8 T8 _ ⟨h0,hrun,hseat,hPX,hn00,hw00⟩ (Standing.conf hok hstand rfl rfl (by
    show ∀ v∈_,Stab (Kn hs.next (S.set k (Ob.thr self quit true false (some (hp,gid,dn)) none)).length) F v;rw [hlen];exact zb9 hst (fun F2 _=>by simp) o.dst)) (by rw [show p'.h=0 from h0];exact k8) rfl hF hN (by show C0<=(S.set k (Ob.thr self quit true false (some (hp,gid,dn)) none)).length;rw [hlen];exact hC0)
end
end Go.Proofs.Ytgndgbnhkoppmaa
namespace Go.Proofs.Ytgndgbnhkoppmaa
open Go Go.RowKit
end Go.Proofs.Ytgndgbnhkoppmaa
namespace Go.Proofs.Ytgndgbnhkoppmaa
open Go Go.Conc
open Go.RowKit
def MF:Face Try.prog St where
  mix:=Try.mix
  cnt:=List.length
  rep:=fun _ _ _=>False
  fp:=fun _ _ _=>False
  prim:=PrimM
  rep_same:=fun _ _ _ _ _ h=>h.elim
  rep_kept:=fun _ _ _ _ h=>h.elim
  fp_low:=fun _ _ _ _ h=>h.elim
  prim_hand:=fun _ _ _ _ _ h=>⟨h.len,h.hand⟩
  prim_ok:=fun _ _ _ _ _ _ _ _ h=>h.elim
theorem Does.com {f:FuncId} {args:Array Value} {l:List Blk} {S S':St} {v:Value} (D:Does OF f args l S v S'):Does MF f args l S v S':=by
  obtain⟨g,c,h1,a1,a2,a3,a4,a5,G⟩:=D;exact⟨g,c,h1,a1,a2,a3,a4,a5,Goes.face (X:=OF) (X':=MF) (fun _ _ _ _ _ h=>PrimM.com h) rfl G⟩
theorem Does.pure {f:FuncId} {args:Array Value} {v:Value} {S1:St} (D:Does OF f args [] [] v S1) (ha:args.all zac=true) (hv:zac v=true):zpB f args v:=fun w=>by
  have D':Does (XF false (fun _=>False) (fun _=>False) (zc4 _ _ _)) f args [] [] v S1:=by
    obtain⟨g,c,h1,a1,a2,a3,a4,a5,G⟩:=D;exact⟨g,c,h1,a1,a2,a3,a4,a5,Goes.face (X:=OF) (X':=XF false (fun _=>False) (fun _=>False) (zc4 _ _ _)) (fun _ _ _ _ _ h=>h) rfl G⟩
  exact zjo (F:=idE) D' ha hv rfl ⟨fun k ob h=>(zbs h).elim,fun k ob h=>(zbs h).elim,fun k k' ob ob' _ h=>(zbs h).elim,fun k ob h=>(zbs h).elim,fun b h=>h.elim⟩ fun b ⟨k,ob,h,_⟩=>(zbs h).elim
section
variable {Γ:Type} (Pr:Proto Γ)
def SpM:SpT Γ:=fun f args hs S γ Q=>zr1 f args hs S γ Q\/zmV Pr f args hs S γ Q\/znE Pr f args hs S γ Q\/znl f args hs S γ Q\/zn4 Pr f args hs S γ Q
variable {Pr}
theorem zsj {n00:Nat} {w00:World} {Fin:Unit->Machine->Trace->Prop} {Stk:List Frame->Prop}:SpOK zc4 (ClM n00 w00) (SuM zc4 Pr) Fin Stk (SpM Pr):=by
  intro f args hs S γ Q hsp;rcases hsp with h|h|h|h|h
  . exact zr9 zc4 f args hs S γ Q h
  . exact zqu zc4 f args hs S γ Q h
  . exact zp8 zc4 f args hs S γ Q h
  . exact zpF zc4 f args hs S γ Q h
  . exact zqN zc4 f args hs S γ Q h
theorem zp7 {f:FuncId} {args:Array Value} {hs:AHeap} {S:St} {γ:Γ × St} {Q:Value->AHeap->St->Γ × St->Prop} (h:znl f args hs S γ Q):SpM Pr f args hs S γ Q:=.inr (.inr (.inr (.inl h)))
theorem zpT {f:FuncId} {args:Array Value} {hs:AHeap} {S:St} {γ:Γ × St} {Q:Value->AHeap->St->Γ × St->Prop} (h:zn4 Pr f args hs S γ Q):SpM Pr f args hs S γ Q:=.inr (.inr (.inr (.inr h)))
end
section
variable {Γ:Type} {X:Face Try.prog St} {Sp:SpT Γ} {fn:Func} {A:Conf St->Γ × St->Prop} {ops:Array Oper} {k:List Item} {i:Nat} {tmps:List Value} {h:AHeap} {S:St} {o:Oper} {γ:Γ × St} {todo:List Item}
theorem GE.go {c:Conf St} (G:Goes X fn (fun c=>GE X Sp fn A c γ) c):GE X Sp fn A c γ:=.plain _ G fun _ h=>h
theorem qs1 (ho:ops.toList[i]?=some o) (hw:Region.wanted o (zaj ops tmps)=true)
    (hk:∀ K:List Value->AHeap->St->Γ × St->Prop,(∀ t h1 S1 γ',At X fn (fun c=>GE X Sp fn A c γ') ops k (i+1) t h1 S1->K t h1 S1 γ')->zd3 (fun f args=>Sp f args h S γ (fun v h1 S1 γ'=>K (putL o.dst v tmps) h1 S1 γ')) (zaW Try.prog (evA tmps) o.op)) (hb:opOK o.op=true:=by rfl) :
    At X fn (fun c=>GE X Sp fn A c γ) ops k i tmps h S:=by
  unfold At;rw [zev (zbl ho)];have:=hk _ fun _ _ _ _ h=>h;cases hv:zaW Try.prog (evA tmps) o.op with
  | none=>rw [hv] at this;exact this.elim
  | some x =>
    obtain⟨f,args⟩:=x;rw [hv] at this;exact .here (.spec f args _ (zbl ho) hw (zbn hb) hv this fun v h1 S1 γ' hq=>GE.go hq)
def Runs (X:Face Try.prog St) (Sp:SpT Γ) (f:FuncId) (args:Array Value) (h:AHeap) (S:St) (γ:Γ × St) (Q:Value->AHeap->St->Γ × St->Prop):Prop :=
  ∃ g c,Try.prog.funcs[f]?=some g/\goB g=true/\g.body=some c/\GE X Sp g (fun x γ'=>∃ v h1 S1,x=.done v h1 S1/\Q v h1 S1 γ') (.run (zag g c args).1 (zag g c args).2 h S) γ
theorem Runs.mono {f:FuncId} {args:Array Value} {Q Q':Value->AHeap->St->Γ × St->Prop} (R:Runs X Sp f args h S γ Q) (hq:∀ v h1 S1 γ',Q v h1 S1 γ'->Q' v h1 S1 γ'):Runs X Sp f args h S γ Q':=by
  obtain⟨g,c,a1,a2,a3,G⟩:=R;exact⟨g,c,a1,a2,a3,G.mono fun x γ' ⟨v,h1,S1,e,q⟩=>⟨v,h1,S1,e,hq _ _ _ _ q⟩⟩
theorem Runs.mk {f:FuncId} {g:Func} {c:Code} {args:Array Value} {Q:Value->AHeap->St->Γ × St->Prop} (hf:Try.prog.funcs[f]?=some g) (hg:goB g=true) (hb:g.body=some c)
    (hrun:Goes X g (fun c=>GE X Sp g (fun x γ'=>∃ v h1 S1,x=.done v h1 S1/\Q v h1 S1 γ') c γ) (.run [.code c] (args.toList++List.replicate (g.ntmps - args.size) undef) h S)):Runs X Sp f args h S γ Q:=⟨g,c,hf,hg,hb,GE.go hrun⟩
theorem qg1 (ho:ops.toList[i]?=some o) (hw:Region.wanted o (zaj ops tmps)=true)
    (hk:∀ K:List Value->AHeap->St->Γ × St->Prop,(∀ t h1 S1 γ',At X fn (fun c=>GE X Sp fn A c γ') ops k (i+1) t h1 S1->K t h1 S1 γ')->zd3 (fun f args=>Runs X Sp f args h S γ (fun v h1 S1 γ'=>K (putL o.dst v tmps) h1 S1 γ')) (zaW Try.prog (evA tmps) o.op)) (hb:opOK o.op=true:=by rfl) :
    At X fn (fun c=>GE X Sp fn A c γ) ops k i tmps h S:=by
  unfold At;rw [zev (zbl ho)];have:=hk _ fun _ _ _ _ h=>h;cases hv:zaW Try.prog (evA tmps) o.op with
  | none=>rw [hv] at this;exact this.elim
  | some x =>
    obtain⟨f,args⟩:=x;rw [hv] at this;obtain⟨g,c,a1,a2,a3,G⟩:=this;exact .here (.call f g c args _ (zbl ho) hw (zbn hb) hv a1 a2 a3 G fun v h1 S1 γ' hq=>GE.go hq)
theorem Goes.endG {v:Value} (ht:retB todo=true) (hv:resA Try.prog fn tmps h=some v) (hA:A (.done v h S) γ):Goes X fn (fun c=>GE X Sp fn A c γ) (.run todo tmps h S):=.ret ht hv (.here (.here hA))
theorem Goes.retG {v:Value} {Q:Value->AHeap->St->Γ × St->Prop} (ht:retB todo=true) (hv:resA Try.prog fn tmps h=some v) (hA:Q v h S γ):Goes X fn (fun c=>GE X Sp fn (fun x γ'=>∃ v h1 S1,x=.done v h1 S1/\Q v h1 S1 γ') c γ) (.run todo tmps h S):=Goes.endG ht hv ⟨v,h,S,rfl,hA⟩
end
def Idle (S:St):Prop:=∀ (k:Nat) a b c d e f,S[k]?=some (Ob.thr a b c d e f)->d=false
theorem zqx {Γ:Type} {Pr:Proto Γ} {F:Emb} {f:FuncId} {fg:Func} {cd:Code} {t:Tmp} {args:Array Value} {hs:AHeap} {w00:World} {γ:Γ} (hf:Try.prog.funcs[f]?=some fg) (hbd:fg.body=some cd) (hr:fg.results=#[.tmp t]) (hi:Try.prog.inits.idxOf? f=none) (hH:Holds F hs w00) (hl:hs.Low) (hV:hs.next<=VB) (hro:∀ n r,hs.get n=some r->r.ro=true)
    (hst:∀ u∈args,Stab (Kn hs.next 0) F u) (hc:∀ n r,hs.get n=some r->∀ v∈r.cells,Stab (Kn hs.next 0) F v)
    (G:GE MF (SpM Pr) fg (fun c γ'=>∃ h1 S1,c=.done (.bool true) h1 S1/\KeepC γ'.2 S1/\Idle S1) (.run (zag fg cd args).1 (zag fg cd args).2 hs []) (γ,[])) :
    ∃ M last o w' t',runNT Try.prog (M+1) (solo (Go.Conc.G (Frame.enter Try.prog f (args.map (ren F)) .normal) []) w00) #[]=(.ended o w',t')/\runN Try.prog M (solo (Go.Conc.G (Frame.enter Try.prog f (args.map (ren F)) .normal) []) w00)=.next last /\
      step Try.prog last=.ended o w'/\Conc.Good Try.prog (fun v w'=>v=.bool true/\Go.RowKit.Below w00.heap.size w00 w') last o w' t':=by
  have hS:=GE.safe (hok:=zc4) (Cl:=ClM w00.heap.size w00) (Su:=SuM zc4 Pr) (Fin:=FinL w00 (.bool true)) (Stk:=fun _=>True) (fun _ _ _ _ _ _ _ _=>trivial) (fun d γ p _=>SuM.mono zc4 Pr d γ.1) (fun d γ p hC f a S v S' h=>by
      have e:p.mn=true:=by simp [Par.mn,hC.1]
      rw [e];exact h) rfl zsj G (zhm f) [] F 0 0 hf rfl trivial (fun c' γ' ⟨h1,S1,hc,hk,hi'⟩=>by
      subst hc;exact zpc zc4 Pr rfl (b:=zhm f) hf hr hi hk hi')
  exact zkc rfl (zlH zc4 Pr hf hbd hH hl hV hro hst hc (F0:=F) (Same.refl _ _) hS)
end Go.Proofs.Ytgndgbnhkoppmaa
namespace Go.Proofs.Ytgndgbnhkoppmaa
open Go Go.RowKit
def farA (ns:List Nat) (h:AHeap):AHeap:=⟨fun n=>match ns.elem n with|true=>(h.get n).map (fun b=>{ b with ro:=true })|false=>none,h.next⟩
theorem zo3 {ns:List Nat} {h:AHeap} {n:Nat}:(farA ns h).get n=match ns.elem n with|true=>(h.get n).map (fun b=>{ b with ro:=true })|false=>none:=rfl
section
variable {P:Program} {σ:Type} {X:Face P σ} {fn:Func} {A:Conf σ->Prop} {ops:Array Oper} {k:List Item} {i:Nat} {tmps:List Value} {h:AHeap} {S:σ} {o:Oper}
variable {W:List Nat} {n0:Nat} {hf:AHeap} {Kf:List Value->AHeap->σ->Prop} {born:List (Nat × Nat)}
end
attribute [go_sem] zo3 List.elem_cons List.elem_nil Option.map_some
attribute [go_sem_proc] Nat.reduceBEq
theorem zid {l ys:List (Option Blk)} {q:Nat} (h:l.length<=q):zaT l q ys=zaT (l++List.replicate (q - l.length) none++ys) (q+ys.length) []:=by
  refine zhI (fun n=>?_) (by simp [zeq])
  have e:(l++List.replicate (q - l.length) none).length=q:=by simp;omega
  by_cases hn:n<q
  . rw [zhu hn,zhu (by omega),List.getElem?_append_left (by omega)]
    by_cases h2:n<l.length
    . rw [List.getElem?_append_left h2]
    . rw [List.getElem?_append_right (by omega),List.getElem?_eq_none (by omega),List.getElem?_replicate]
      split<;>rfl
  . obtain⟨i,rfl⟩:∃ i,n=q+i:=⟨n - q,by omega⟩
    rw [zhR];by_cases h3:i<ys.length
    . rw [zhu (by omega),List.getElem?_append_right (by omega),e,Nat.add_sub_cancel_left]
    . rw [List.getElem?_eq_none (by omega)]
      obtain⟨j,rfl⟩:∃ j,i=ys.length+j:=⟨i - ys.length,by omega⟩
      rw [<-Nat.add_assoc,zhR];rfl
def Ge (l l':List (Option Blk)):Prop:=∀ (n:Nat) (b:Blk),l[n]?=some (some b)->l'[n]?=some (some b)
theorem Ge.refl (l:List (Option Blk)):Ge l l:=fun _ _ h=>h
theorem Ge.trans {l l' l'':List (Option Blk)} (h:Ge l l') (h':Ge l' l''):Ge l l'':=fun n b k=>h' n b (h n b k)
theorem Ge.fold (l ys:List (Option Blk)) (q:Nat):Ge l (l++List.replicate (q - l.length) none++ys):=by
  intro n b h;have hn:n<l.length:=(List.getElem?_eq_some_iff.1 h).1;rw [List.append_assoc,List.getElem?_append_left hn];exact h
theorem zn3 {l ys:List (Option Blk)} {q i:Nat} (h:l.length<=q):(l++List.replicate (q - l.length) none++ys)[q+i]?=ys[i]?:=by
  rw [List.getElem?_append_right (by simp;omega)]
  congr 1;simp;omega
theorem zkS {l ys:List (Option Blk)} {q:Nat} (h:l.length<=q):(l++List.replicate (q - l.length) none++ys).length=q+ys.length:=by simp;omega
section
variable {P:Program} {σ:Type} {X:Face P σ} {fn:Func} {A:Conf σ->Prop} {ops:Array Oper} {k:List Item} {i:Nat} {tmps:List Value} {h:AHeap} {S:σ} {o:Oper} {todo:List Item}
def DoesD (X:Face P σ) (f:FuncId) (args:Array Value) (h:AHeap) (S:σ) (v:Value) (h1:AHeap) (S1:σ):Prop :=
  ∃ g c,P.funcs[f]?=some g/\goB g=true/\g.body=some c/\Goes X g (fun x=>x=.done v h1 S1) (.run [.code c] (args.toList++List.replicate (g.ntmps - args.size) undef) h S)
theorem DoesD.mk {f:FuncId} {g:Func} {c:Code} {args:Array Value} {Q:Value->AHeap->σ->Prop} (hf:P.funcs[f]?=some g) (hg:goB g=true) (hb:g.body=some c)
    (hrun:Goes X g (fun x=>∃ v h1 S1,Q v h1 S1/\x=.done v h1 S1) (.run [.code c] (args.toList++List.replicate (g.ntmps - args.size) undef) h S)):∃ v h1 S1,Q v h1 S1/\DoesD X f args h S v h1 S1:=by
  obtain⟨c',⟨v,h1,S1,hq,rfl⟩,G⟩:=hrun.out;exact⟨v,h1,S1,hq,g,c,hf,hg,hb,G⟩
variable {W:List Nat} {n0:Nat} {Kf:List Value->AHeap->σ->Prop} {born:List (Nat × Nat)}
variable {hf:AHeap}
variable {l ys:List (Option Blk)} {q:Nat}
theorem At.folds (hl:l.length<=q) (hk:∀ lf:List (Option Blk),lf.length=q+ys.length->Ge l lf->(∀ i,lf[q+i]?=ys[i]?)->At X fn A ops k i tmps (zaT lf (q+ys.length) []) S):At X fn A ops k i tmps (zaT l q ys) S:=by
  rw [zid hl];exact hk _ (zkS hl) (Ge.fold l ys q) fun i=>zn3 hl
theorem Goes.folds (hl:l.length<=q) (hk:∀ lf:List (Option Blk),lf.length=q+ys.length->Ge l lf->(∀ i,lf[q+i]?=ys[i]?)->Goes X fn A (.run todo tmps (zaT lf (q+ys.length) []) S)):Goes X fn A (.run todo tmps (zaT l q ys) S):=by
  rw [zid hl];exact hk _ (zkS hl) (Ge.fold l ys q) fun i=>zn3 hl
theorem At.named (hk:∀ lf:List (Option Blk),lf=l->At X fn A ops k i tmps (zaT lf q ys) S):At X fn A ops k i tmps (zaT l q ys) S:=hk l rfl
theorem Goes.named (hk:∀ lf:List (Option Blk),lf=l->Goes X fn A (.run todo tmps (zaT lf q ys) S)):Goes X fn A (.run todo tmps (zaT l q ys) S):=hk l rfl
end
end Go.Proofs.Ytgndgbnhkoppmaa
namespace Go.Proofs.Ytgndgbnhkoppmaa
open Go Go.Conc
open Go.RowKit
section
variable {Γ:Type} (Pr:Proto Γ) (k hp:Nat)
def Ask (a:Nat × Int × UInt64 × UInt64) (h:AHeap) (S:St) (γ:Γ × St) (Q:UInt64->AHeap->St->Γ × St->Prop):Prop :=
  SpB Pr k hp 82 #[hndV hp,accQ a] h S γ (fun v h1 S1 γ'=>∃ x:UInt64,v=.int .u64 (x.toNat:Int)/\Q x h1 S1 γ')
variable {Pr k hp}
theorem SpB.mono {f:FuncId} {args:Array Value} {h:AHeap} {S:St} {γ:Γ × St} {Q Q':Value->AHeap->St->Γ × St->Prop} (H:SpB Pr k hp f args h S γ Q) (hq:∀ v h1 S1 γ',Q v h1 S1 γ'->Q' v h1 S1 γ'):SpB Pr k hp f args h S γ Q':=by
  obtain⟨γ1,q,wself,steps,ask,grant,quit,a1,a2,a3,a4,a5,a6,a7,a8,a9⟩:=H;exact⟨γ1,q,wself,steps,ask,grant,quit,a1,a2,a3,a4,a5,a6,a7,a8,fun v h1 γ2 S1 b1 b2 b3 b4 b5=>hq _ _ _ _ (a9 v h1 γ2 S1 b1 b2 b3 b4 b5)⟩
theorem Ask.mono {a:Nat × Int × UInt64 × UInt64} {h:AHeap} {S:St} {γ:Γ × St} {Q Q':UInt64->AHeap->St->Γ × St->Prop} (H:Ask Pr k hp a h S γ Q) (hq:∀ v h1 S1 γ',Q v h1 S1 γ'->Q' v h1 S1 γ'):Ask Pr k hp a h S γ Q' :=
  SpB.mono H fun _ _ _ _ ⟨x,e,q⟩=>⟨x,e,hq _ _ _ _ q⟩
theorem Ask.mk {a:Nat × Int × UInt64 × UInt64} {h:AHeap} {S:St} {γ:Γ × St} {Q:UInt64->AHeap->St->Γ × St->Prop} (γ1:Γ) (q:Pr.Ph) {wself:Int} {steps ask grant quit:Nat} (hacc:Pr.acc q=a) (hS:S=γ.2) (hwp:S[hp]?=some (.wp wself steps ask grant quit)) (hI:Pr.Inv γ1 h S) (hph:Pr.ph γ1 k=some q) (ho:∀ i,i≠k->Pr.ph γ1 i=Pr.ph γ.1 i) (hf:Pr.FC γ1 γ.1)
    (hQ:∀ (v:UInt64) (h1:AHeap) (γ2:Γ) (S1:St),Pr.Run k q v γ2 h1 S1->Pr.fuel γ2<Pr.fuel γ1->h.next<=h1.next->S.length<=S1.length->S1[hp]?=some (.wp wself (steps+1) ask grant quit)->Q v h1 S1 (γ2,S1)):Ask Pr k hp a h S γ Q:=by
  subst hacc;exact⟨γ1,q,wself,steps,ask,grant,quit,rfl,rfl,hS,hwp,hI,hph,ho,hf,fun v h1 γ2 S1 b1 b2 b3 b4 b5=>⟨v,rfl,hQ v h1 γ2 S1 b1 b2 b3 b4 b5⟩⟩
theorem zqS {n:Int} {h:AHeap} {S:St} {γ:Γ × St} {Q:Value->AHeap->St->Γ × St->Prop} (H:Ask Pr k hp (1,n,0,0) h S γ fun x h1 S1 γ'=>Q (.int .u64 (x.toNat:Int)) h1 S1 γ'):Runs OF (SpB Pr k hp) 76 #[hndV hp,.int .i64 n] h S γ Q:=by
  refine Runs.mk Try.func76 rfl rfl ?_;rw [Try.ntmps76];simp only [List.size_toArray,List.length_cons,List.length_nil,List.replicate,List.cons_append,List.nil_append];refine via ?_;(refine qs1 rfl rfl fun K hK=>?_;simp (disch:=(first|omega|(simp only [sz]<;>omega)|fail)) only [go_sem])
  refine SpB.mono H fun v h1 S1 γ' ⟨x,e,hq⟩=>?_;subst e
  ((try simp only [go_sem]);with_reducible refine hK _ _ _ _ ?_;clear hK K)
  refine via ?_;refine Goes.retG rfl (by simp (disch:=(first|omega|(simp only [zaa,List.length_cons,List.length_nil,List.size_toArray,zad]<;>omega)|fail)) only [go_sem,resA,zaF,Try.results76]<;>rfl) ?_
  exact hq
theorem ztB {n:Int} {A B:UInt64} {h:AHeap} {S:St} {γ:Γ × St} {Q:Value->AHeap->St->Γ × St->Prop} (H:Ask Pr k hp (3,n,A,B) h S γ fun x h1 S1 γ'=>Q (.bool (x != 0)) h1 S1 γ'):Runs OF (SpB Pr k hp) 74 #[hndV hp,.int .i64 n,.int .u64 (A.toNat:Int),.int .u64 (B.toNat:Int)] h S γ Q:=by
  refine Runs.mk Try.func74 rfl rfl ?_;rw [Try.ntmps74];simp only [List.size_toArray,List.length_cons,List.length_nil,List.replicate,List.cons_append,List.nil_append];refine via ?_;(refine qs1 rfl rfl fun K hK=>?_;simp (disch:=(first|omega|(simp only [sz]<;>omega)|fail)) only [go_sem])
  refine SpB.mono H fun v h1 S1 γ' ⟨x,e,hq⟩=>?_;subst e
  ((try simp only [go_sem]);with_reducible refine hK _ _ _ _ ?_;clear hK K)
  have hx:((x.toNat:Int) != 0)=(x != 0):=by
    by_cases e:x=0
    . subst e;rfl
    . have:(x.toNat:Int)≠0:=fun h=>e (UInt64.toNat_inj.1 (by simpa using h))
      exact (bne_iff_ne.2 this).trans (bne_iff_ne.2 e).symm
  refine viaF hx ?_;refine Goes.retG rfl (by simp (disch:=(first|omega|(simp only [zaa,List.length_cons,List.length_nil,List.size_toArray,zad]<;>omega)|fail)) only [go_sem,resA,zaF,Try.results74]<;>rfl) ?_
  exact hq
theorem zpP {n:Int} {A:UInt64} {h:AHeap} {S:St} {γ:Γ × St} {Q:Value->AHeap->St->Γ × St->Prop} (H:Ask Pr k hp (2,n,A,0) h S γ fun _ h1 S1 γ'=>Q (.tuple #[]) h1 S1 γ'):Runs OF (SpB Pr k hp) 80 #[hndV hp,.int .i64 n,.int .u64 (A.toNat:Int)] h S γ Q:=by
  refine Runs.mk Try.func80 rfl rfl ?_;rw [Try.ntmps80];simp only [List.size_toArray,List.length_cons,List.length_nil,List.replicate,List.cons_append,List.nil_append];refine via ?_;(refine qs1 rfl rfl fun K hK=>?_;simp (disch:=(first|omega|(simp only [sz]<;>omega)|fail)) only [go_sem])
  refine SpB.mono H fun v h1 S1 γ' ⟨x,e,hq⟩=>?_;subst e
  ((try simp only [go_sem]);with_reducible refine hK _ _ _ _ ?_;clear hK K)
  refine via ?_;refine Goes.retG rfl (by simp (disch:=(first|omega|(simp only [zaa,List.length_cons,List.length_nil,List.size_toArray,zad]<;>omega)|fail)) only [go_sem,resA,zaF,Try.results80]<;>rfl) ?_
  exact hq
end
end Go.Proofs.Ytgndgbnhkoppmaa
