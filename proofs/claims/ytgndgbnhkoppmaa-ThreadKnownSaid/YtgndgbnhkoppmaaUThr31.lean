/-
  New, as a call that hands over.
  Condition: each call that is known does what is said of it (zau).
-/
import Derived.Test.YtgndgbnhkoppmaaUPm8
set_option maxHeartbeats 40000000
set_option linter.unusedVariables false
set_option linter.unusedSimpArgs false
namespace Go.Proofs.Ytgndgbnhkoppmaa
open Go Go.Conc
open Go.ConcN (sumTo upd sumTo_upd upd_ne upd_same)
theorem ziM {t:Trace} {B i:Nat} {a:Touch} {x:Addr} (hs:∀ op∈t,op.act.low B) (h:touchAt t i=some a) (hl:a.loc=.cell x):x.block<B:=by
  unfold touchAt Trace.act? at h;cases hop:t[i]? with
  | none=>rw [hop] at h;cases h
  | some op =>
    rw [hop] at h;have h:op.act.touch?=some a:=h;have hlow:=hs op (Array.mem_of_getElem? hop);cases hact:op.act with
    | access e =>
      rw [hact] at h hlow;simp only [MemAct.touch?,Option.some.injEq] at h;subst h;have hl:e.loc=.cell x:=hl;simp only [MemAct.low,hl] at hlow;exact hlow
    | mark m =>
      rw [hact] at h hlow;cases m<;>simp only [MemAct.touch?,Option.some.injEq] at h<;>try cases h
      all_goals
        simp only [Loc.cell.injEq] at hl;subst hl;exact hlow
    | _=>rw [hact] at h;cases h
theorem znU {S:St} {self:Int} {qc i s c:Nat} (h:ChS (S++[.thr self qc false false none none]) i s c):ChS S i s c\/(i=S.length/\s=0/\c=qc):=by
  have hcase:∀ (i:Nat) ob,(S++[Ob.thr self qc false false none none])[i]?=some ob->S[i]?=some ob\/(i=S.length/\ob=.thr self qc false false none none):=fun i ob hi=>by
    have:=zaL hi;by_cases z:i<S.length
    . rw [List.getElem?_append_left z] at hi;exact .inl hi
    . have z:i=S.length:=by simp at this;omega
      subst z;rw [List.getElem?_append_right (Nat.le_refl _),Nat.sub_self] at hi;exact .inr ⟨rfl,(Option.some.inj hi).symm⟩
  cases h with
  | quit h =>
      rcases hcase _ _ h with h|⟨h1,h2⟩
      . exact .inl (.quit h)
      . cases h2;exact .inr ⟨h1,rfl,rfl⟩
  | done h =>
      rcases hcase _ _ h with h|⟨h1,h2⟩
      . exact .inl (.done h)
      . cases h2
  | ask h =>
      rcases hcase _ _ h with h|⟨h1,h2⟩
      . exact .inl (.ask h)
      . cases h2
  | grant h =>
      rcases hcase _ _ h with h|⟨h1,h2⟩
      . exact .inl (.grant h)
      . cases h2
section
variable {p:Par} {Su:SuT} {S:St} {F F':Emb} {N C:Nat} {Inb:Nat->Option Seat} {gs gs':Array Goroutine} {w w':World} {T T':Trace}
theorem Com.addThr (H:Com p Su S F N C Inb gs w T) (hSu:zcu Su) (hC:S.length=C) {self:Int} {nb qc:Nat} (hF:Same (Kn N C) F F') (hb:F'.blk (VB+S.length)=nb) (hs:w.heap.size<=w'.heap.size) (hsz:gs'.size=gs.size) (hW:∀ b,p.WB b->b<w.heap.size)
    (hk:∀ x,x<w.heap.size->w'.heap[x]?=w.heap[x]?) (hqn:w.heap.size<=qc) (hnn:w.heap.size<=nb) (hnl:nb<w'.heap.size) (hne:qc≠nb) (hq:ChanO w' qc 0)
    (hring:∃ B Mem q,RingO Try.prog (fun b=>p.OB b\/b=nb) p.WB B p.Iv Mem Inb p.h T' gs' w' q/\Mem 0/\Mem p.h) {wR:World} {FR:Emb} {NR CR n0':Nat} {w0':World} :
    Com ⟨p.h,p.run,fun b=>p.OB b\/b=nb,p.WB,p.Iv,p.seat0,p.PX,wR,FR,NR,CR,n0',w0'⟩ Su (S++[.thr self qc false false none none]) F' N (C+1) Inb gs' w' T':=by
  have t:=H.tab;have hold:∀ i,i<S.length->(S++[Ob.thr self qc false false none none])[i]?=S[i]?:=fun i hi=>List.getElem?_append_left hi;have hnew:(S++[Ob.thr self qc false false none none])[S.length]?=some (.thr self qc false false none none):=by simp
  have hcase:∀ (i:Nat) ob,(S++[Ob.thr self qc false false none none])[i]?=some ob->S[i]?=some ob\/(i=S.length/\ob=.thr self qc false false none none):=fun i ob hi=>by
    have:=zaL hi;by_cases z:i<S.length
    . rw [hold i z] at hi;exact .inl hi
    . have z:i=S.length:=by simp at this;omega
      subst z;rw [hnew] at hi;exact .inr ⟨rfl,(Option.some.inj hi).symm⟩
  have hup:∀ (i:Nat) ob,S[i]?=some ob->(S++[Ob.thr self qc false false none none])[i]?=some ob:=fun i ob hi=>(hold i (zaL hi)).trans hi;have hbl:∀ i,i<S.length->F'.blk (VB+i)=F.blk (VB+i):=fun i hi=>((hF (VB+i) (.inr ⟨by omega,by omega⟩)).1).symm
  have hch:∀ i s c,ChS (S++[Ob.thr self qc false false none none]) i s c->ChS S i s c\/(i=S.length/\s=0/\c=qc):=fun i s c h=>by
    cases h with
    | quit h =>
        rcases hcase _ _ h with h|⟨h1,h2⟩
        . exact .inl (.quit h)
        . cases h2;exact .inr ⟨h1,rfl,rfl⟩
    | done h =>
        rcases hcase _ _ h with h|⟨h1,h2⟩
        . exact .inl (.done h)
        . cases h2
    | ask h =>
        rcases hcase _ _ h with h|⟨h1,h2⟩
        . exact .inl (.ask h)
        . cases h2
    | grant h =>
        rcases hcase _ _ h with h|⟨h1,h2⟩
        . exact .inl (.grant h)
        . cases h2
  have hclow:∀ i s c,ChS S i s c->c<w.heap.size:=fun i s c h=>by
    obtain⟨⟨_,_,_,_,_,_,h1⟩,_⟩:=t.far _ _ _ h;exact zab h1
  have hkc:∀ c cap,c<w.heap.size->ChanO w c cap->ChanO w' c cap:=fun c cap hc ⟨m,hm⟩=>⟨m,(hk c hc).trans hm⟩;refine⟨hring,⟨fun b=>?_,fun b=>?_,fun k s c k' s' h1 h2=>?_,fun k s c h=>?_,fun b hO=>?_,fun k a b c d e h=>?_,fun k a b c d e h=>?_⟩,H.main,fun i se hi=>?_,fun k a b c d e f g h=>?_,H.n0,by simp;omega⟩
  . constructor
    . rintro (h|rfl)
      . obtain⟨k,a1,a2,a3,a4,a5,a6,a7,a8⟩:=(t.obs b).1 h;exact⟨k,a1,a2,a3,a4,a5,a6,hup _ _ a7,by rw [hbl k (zaL a7)];exact a8⟩
      . exact⟨S.length,_,_,_,_,_,_,hnew,hb.symm⟩
    . rintro ⟨k,a1,a2,a3,a4,a5,a6,a7,a8⟩;rcases hcase _ _ a7 with h|⟨rfl,_⟩
      . exact .inl ((t.obs b).2 ⟨k,a1,a2,a3,a4,a5,a6,h,by rw [<-hbl k (zaL h)];exact a8⟩)
      . exact .inr (a8.trans hb)
  . constructor
    . intro h;obtain⟨k,a1,a2,a3,a4,a5,a7,a8⟩:=(t.wbs b).1 h;exact⟨k,a1,a2,a3,a4,a5,hup _ _ a7,by rw [hbl k (zaL a7)];exact a8⟩
    . rintro ⟨k,a1,a2,a3,a4,a5,a7,a8⟩;rcases hcase _ _ a7 with h|⟨_,h⟩
      . exact (t.wbs b).2 ⟨k,a1,a2,a3,a4,a5,h,by rw [<-hbl k (zaL h)];exact a8⟩
      . cases h
  . rcases hch _ _ _ h1 with h1|⟨rfl,rfl,rfl⟩<;>rcases hch _ _ _ h2 with h2|⟨rfl,rfl,h2⟩
    . exact t.dist _ _ _ _ _ h1 h2
    . have:=hclow _ _ _ h1;omega
    . have:=hclow _ _ _ h2;omega
    . exact⟨rfl,rfl⟩
  . rcases hch _ _ _ h with h|⟨_,_,rfl⟩
    . obtain⟨h1,h2,h3⟩:=t.far _ _ _ h;have:=hclow _ _ _ h;refine⟨?_,fun z=>z.elim h2 fun z=>by omega,h3⟩
      obtain⟨b1,b2,b3,b4,b5,b6,b7⟩:=h1;exact⟨b1,b2,b3,b4,b5,b6,(hk c this).trans b7⟩
    . refine⟨hq.is,fun z=>?_,fun z=>?_⟩
      . rcases z with z|z
        . have:=t.olow _ z;omega
        . exact hne z
      . have:=hW _ z;omega
  . rcases hO with h|rfl
    . exact Nat.lt_of_lt_of_le (t.olow b h) hs
    . exact hnl
  . rcases hcase _ _ h with h|⟨_,h2⟩
    . exact hkc _ _ (hclow _ _ _ (.quit h)) (t.quit _ _ _ _ _ _ h)
    . cases h2;exact hq
  . rcases hcase _ _ h with h|⟨_,h2⟩
    . obtain⟨h1,hp,gid,dn,ws,st,ak,gr,rfl,h3,h4,h5,h6,h7,h8,h9⟩:=t.busy _ _ _ _ _ _ h;exact⟨h1,hp,gid,dn,ws,st,ak,gr,rfl,hup _ _ h3,hkc _ _ (hclow _ _ _ (.ask h3)) h4,hkc _ _ (hclow _ _ _ (.grant h3)) h5,hkc _ _ (hclow _ _ _ (.done h)) h6,h7,by rw [hsz];exact h8,hup _ _ h9⟩
    . cases h2
  . obtain⟨h1,h2,h3⟩:=H.seats i se hi;refine⟨h1,by rw [hsz];exact h2,fun h0=>?_⟩
    obtain⟨j,a1,a2,a3,a4,a5,a6,a7,a8⟩:=h3 h0;exact⟨j,a1,a2,a3,a4,a5,a6,a7,hup _ _ a8⟩
  . rcases hcase _ _ h with h|⟨_,h2⟩
    . obtain⟨h1,h2⟩:=H.waits _ _ _ _ _ _ _ _ h;refine⟨h1,fun hne=>?_⟩;obtain⟨ws,st,ak,gr,ab,x,y,cs,h3,h4,h5⟩:=h2 hne;exact⟨ws,st,ak,gr,ab,x,y,cs,hup _ _ h3,by rw [hbl d (zaL h3)];exact h4,by rw [hbl d (zaL h3)];exact hSu _ _ _ _ _ _ _ _ _ _ h5 hF (Nat.le_refl _) (Nat.le_succ _)⟩
    . cases h2
end
section
variable (hok:∀ mn OB WB,zau mn OB WB)
variable {Γ:Type} (Pr:Proto Γ)
def zr1:SpT Γ:=fun f args hs S γ Q=>∃ self:Int,f=6/\args=#[.int .i64 self]/\KeepC γ.2 S/\∀ qc,Q (hndV S.length) hs (S++[.thr self qc false false none none]) (γ.1,S++[.thr self qc false false none none])
theorem zqt:Try.f6.body=some newC:=rfl
set_option maxRecDepth 100000 in
theorem znB {F:Emb} {v:Int}:actF F (zag Try.f6 newC #[.int .i64 v]).2=⟨#[.int .i64 v,undef,undef,undef,undef,undef,undef],[]⟩:=by
  simp only [zag,Try.ntmps6];simp [actF,zaS,List.replicate]
variable {Pr}
theorem zi2 {F:Emb} {N n k:Nat} (h:k<n):Stab (Kn N n) F (hndV k):=fun F' hs=>by
  obtain⟨h1,h2,_⟩:=hs (VB+k) (.inr ⟨by omega,by omega⟩)
  simp [hndV,adr,h1,h2]
theorem zr9 {n00:Nat} {w00:World} {Fin:Unit->Machine->Trace->Prop} {Stk:List Frame->Prop}:SpOK hok (ClM n00 w00) (SuM hok Pr) Fin Stk (zr1 (Γ:=Γ)):=by
  intro f args hs S γ Q hsp b cs F0 N0 C0 fn ops i rest kk tmps o hfn hkd hsk ho hw hb' hca K d p Inb F gs w sl T g hC H hg hgS hF hN hC0;obtain⟨self,rfl,rfl,hkeep,hQ⟩:=hsp;obtain⟨h0,hrun,hseat,hPX,hn00,hw00⟩:=id hC;have hst:∀ u∈tmps,Stab (Kn hs.next S.length) F u:=fun u hu=>H.inv.1.vst u hu;refine (zbY hok (SuM.mono hok Pr d γ.1) ho hw hb' hca Try.func6 rfl zqt hkd H hg hgS).bind fun m1 T1=>?_;rintro ⟨gs1,w1,sl1,rfl,k1,H1⟩;have H1:Standing p hok (SuM hok Pr d γ.1) S F (.run [] [] hs S) Inb gs1 w1 T1:=Standing.keep (c:=.run [] [] hs S) hok hkeep (Standing.conf hok H1 rfl rfl (fun v hv=>by cases hv))
  rw [znB,h0] at k1;obtain⟨B0,Mem0,q0,R0,hM0,_⟩:=H1.com.ring;rw [h0] at R0;have hlow:=zfE H1.com H1.wrow;refine (zaM (sl:=sl1) (h:=0) 60 k1 (zpp (w0:=w1) ⟨rfl,hlow,Nat.le_refl _⟩ _) R0).bind fun m2 T2=>?_;rintro ⟨gs2,g2,w2,sl2,q2,B2,rfl,j1,j2,⟨rfl,hK2⟩,R2⟩;have hsz2:w2.heap.size=w1.heap.size+1:=by rw [hK2.heap,zaH]
  generalize hnb:w2.heap.size=nb at *;have hWl:∀ b,p.WB b->b<w1.heap.size:=fun b hb=>hlow b (.inr (.inl hb));have hSl:∀ i s c,Inb i=some s->s.has c->c<w1.heap.size:=fun i s c hi hc=>hlow c (.inr (.inr ⟨i,s,hi,hc⟩));have R3:RingO Try.prog (fun b=>p.OB b\/b=nb) p.WB B2 p.Iv Mem0 Inb 0 T2 gs2 w2 q2:=by
    refine CoF.grow R2 (fun b h=>.inl h) (fun b h=>h) (fun b hb hW=>?_) (fun i s c hi hc hb=>?_) (fun i a ha hO=>?_) (fun i a _ _ h=>h)
    . rcases hb with hb|rfl
      . exact R2.apart b hb hW
      . have:=hWl _ hW;omega
    . rcases hb with hb|rfl
      . exact R2.far i s c hi hc hb
      . have:=hSl _ _ _ hi hc;omega
    . obtain⟨x,hx,hx2⟩:=hO;rcases hx2 with hx2|hx2
      . exact R2.past.own i a ha ⟨x,hx,hx2⟩
      . have h1:=ziM R2.past.seen ha hx;have h2:=R2.lowB;omega
  refine (zaM (sl:=sl2) (h:=0) 60 j2 (zp4 (self:=self) (w0:=w2) ⟨rfl⟩ (fun b hb=>by have:=hWl b hb;omega) (fun i s c hi hc=>by have:=hSl i s c hi hc;omega) _ cs) R3).bind fun m3 T3=>?_
  rintro ⟨gs3,g3,w3,sl3,q3,B3,rfl,l1,l2,⟨rfl,hK3⟩,R4⟩;rw [hnb] at l2;have hold:∀ x,x<w1.heap.size->w3.heap[x]?=w1.heap[x]?:=fun x hx=>by
    rw [hK3.heap,zaD _ _ _ (by omega),hK2.heap,zaD _ _ _ hx]
  have hqc:w3.heap[w1.heap.size]?=some (.chan 0 #[] false 0 0 false):=by
    rw [hK3.heap,zaD _ _ _ (by omega),hK2.heap];exact zbw _ _
  have hrow:w3.heap[nb]?=some (.cells #[.int .i64 self,.pointer none,.chan none,.pointer none,.bool false,.bool false,.chan (some w1.heap.size)] 72 (0,0)):=by
    rw [hK3.heap,<-hnb];exact zbw _ _
  have hsz3:w3.heap.size=w1.heap.size+2:=by rw [hK3.heap,zaH];omega
  let F3:Emb:=⟨fun n=>if n=VB+S.length then nb else F.blk n,fun n=>if n=VB+S.length then 0 else F.base n,F.slack⟩
  have hV:hs.next<=VB:=H1.inv.2;have hFF:Same (Kn hs.next S.length) F F3:=fun n hn=>by
    have:n≠VB+S.length:=by
      rcases hn with hn|⟨_,hn⟩
      . omega
      . omega
    simp [F3,this]
  have hb3:F3.blk (VB+S.length)=nb:=if_pos rfl;have hX:=zdh hok h0;have hinv1:RInv (XM hok p.OB p.WB) F (.run [] [] hs S) w1:=hX ▸ H1.inv;have hvk:∀ x,Vis (XM hok p.OB p.WB) F (.run [] [] hs S) x->x<w1.heap.size:=fun x hx=>by
    obtain⟨_,_,_,h1⟩:=zcX (XF.soft (hok _ _ _)) hinv1 hx;exact zab h1
  have hinv3:RInv (XM hok (fun b=>p.OB b\/b=nb) p.WB) F3 (.run [] [] hs (S++[.thr self w1.heap.size false false none none])) w3:=by
    refine zgc hok rfl (fun b h=>.inl h) (fun b h=>h) hFF (if_pos rfl) hinv1 (fun hv=>?_) (fun b hb=>.inl hb) (fun x hx=>hold x (hvk x hx)) ?_ (fun z=>?_) (by omega)
    . have:=hvk _ hv;rw [hb3] at this;omega
    . intro _;refine⟨.inr hb3,fun c hc=>(by cases hc),fun c hc=>(by cases hc),?_⟩
      rw [hb3,hrow];rfl
    . rw [hb3] at z;have:=hWl _ z;omega
  let p':Par:=⟨p.h,p.run,fun b=>p.OB b\/b=nb,p.WB,p.Iv,p.seat0,p.PX,w3,F3,0,0,p.n0,p.w0⟩
  have hcom3:Com p' (SuM hok Pr d γ.1) (S++[.thr self w1.heap.size false false none none]) F3 hs.next (S.length+1) Inb gs3 w3 T3 :=
    H1.com.addThr (SuM.mono hok Pr d γ.1) rfl hFF hb3 (by omega) (by omega) hWl hold (Nat.le_refl _) (by omega) (by omega) (by omega) ⟨_,hqc⟩ ⟨B3,Mem0,q3,by rw [h0];exact R4,hM0,by rw [h0];exact hM0⟩
  have hlen:(S++[Ob.thr self w1.heap.size false false none none]).length=S.length+1:=by simp
  have hstand:Standing p' hok (SuM hok Pr d γ.1) (S++[.thr self w1.heap.size false false none none]) F3 (.run [] [] hs (S++[.thr self w1.heap.size false false none none])) Inb gs3 w3 T3:=by
    refine⟨?_,(zdh hok (p:=p') h0) ▸ hinv3,fun z=>absurd h0 z,fun x hx=>absurd hx (hPX x),fun x hx=>?_,fun n r hr hW=>?_,⟨fun x hx=>?_,fun k s c h=>?_⟩,Same.refl _ _,Nat.zero_le _,Nat.zero_le _⟩
    . show Com p' _ _ F3 hs.next (S++[Ob.thr self w1.heap.size false false none none]).length Inb gs3 w3 T3;rw [hlen];exact hcom3
    . obtain⟨cc,el,h1,h2⟩:=H1.wrow x hx;exact⟨cc,el,(hold x (zab h1)).trans h1,h2⟩
    . refine H1.wro n r hr ?_;rw [(hFF n (hinv1.1.hk n r hr).1).1];exact hW
    . obtain⟨y1,y2,y3,y4⟩:=H1.base.low x hx;refine⟨by omega,fun hT=>?_,fun z=>z.elim y3 fun z=>by omega,(hold x y1).trans y4⟩
      rw [zdh hok (p:=p') h0] at hT;rw [hX] at y2;rcases hT with ⟨n,r,z1,z2,rfl⟩|z
      . exact y2 (.inl ⟨n,r,z1,z2,(hFF n (hinv1.1.hk n r z1).1).1⟩)
      . rcases zgf rfl (hFF.mono fun n hn=>.inr hn) z with z|z
        . exact y2 (.inr z)
        . rw [hb3] at z;omega
    . have hb:=H1.base.size;rcases znU h with h|⟨_,_,rfl⟩
      . exact H1.base.ch k s c h
      . exact hb
  have hfin:(b.at (actF F tmps) (.inRegion ops (i::rest)::kk)).finish (pt nb)=b.at (actF F3 (putL o.dst (hndV S.length) tmps)) (.inRegion ops rest::kk):=by
    rw [Frame.finish_at,ho];show b.at ((actF F tmps).put o.dst (pt nb)) (.inRegion ops rest::kk)=_;rw [<-zbo hst hFF,<-zcI];simp [hndV,adr,F3]
  rw [hfin] at l2;have hKK:∀ x,Kn hs.next S.length x->Kn hs.next (S++[Ob.thr self w1.heap.size false false none none]).length x:=fun x hx=>hx.mono (Nat.le_refl _) (by omega)
  exact K _ hs _ _ (hQ w1.heap.size) d p' Inb F3 gs3 w3 sl3 T3 _ ⟨h0,hrun,hseat,hPX,hn00,hw00⟩ (Standing.conf hok hstand rfl rfl (zb9 (fun u hu=>(hst u hu).move hFF hKK) (zi2 (by rw [hlen];omega)) o.dst)) (by rw [show p'.h=0 from h0];exact l2) rfl (hF.trans (hFF.mono fun x hx=>hx.mono hN hC0)) hN (by show C0<=(S++[Ob.thr self w1.heap.size false false none none]).length;rw [hlen];have:C0<=S.length:=hC0;omega)
end
section
variable {P:Program} {main:Bool} {R:World->World->Prop} {D:World->World->Array Event->Prop} {Stop:Goroutine->World->Prop}
theorem zgA:∀ {n m:Nat} {g:Goroutine} {w:World},Conc.Goes P main R D Stop n g w->n<=m->Conc.Goes P main R D Stop m g w
  | 0,0,_,_,h,_=>h
  | 0,m+1,_,_,h,_=>.inl h
  | n+1,0,_,_,_,hm=>absurd hm (by omega)
  | n+1,m+1,g,w,h,hm=>by
    rcases h with h|⟨hs,h⟩
    . exact .inl h
    . refine .inr ⟨hs,fun w1 h1=>?_⟩;have:=h w1 h1;cases hgo:stepG P main g w1 with
      | go g' w' es =>
        rw [hgo,goes_go] at this;rw [goes_go];exact⟨this.1,zgA this.2 (by omega)⟩
      | _=>rw [hgo] at this;exact this.elim
variable {ops:Array Oper} {b:Frame} {k:List Item} {cs:List Frame}
def zpK (ops:Array Oper):Bool:=(List.range ops.size).all fun i=>((ops[i]?).map fun o=>o.after.all fun e=>!Region.binds .any e || decide (e.on<i)).getD true
theorem znj (hb:zpK ops=true) {l:Array Bool} (hnil:Region.ready .any ops l=[]):∀ i,i<ops.size->l.getD i true=true:=by
  intro i
  induction i using Nat.strongRecOn with
  | _ i ih =>
    intro hlt;cases hl:l.getD i true
    . exfalso;have:i∈Region.ready .any ops l:=mem_ready.2 ⟨hl,_,Array.getElem?_eq_getElem hlt,fun e he hbd=>by
        have h1:=List.all_eq_true.1 hb i (List.mem_range.2 hlt);rw [Array.getElem?_eq_getElem hlt] at h1;have h2:=(Array.all_eq_true_iff_forall_mem.1 h1) e he;simp only [hbd,Bool.not_true,Bool.false_or,decide_eq_true_eq] at h2;have h3:=ih e.on h2 (by omega)
        have hsz:e.on<l.size:=by
          apply Nat.lt_of_not_le;intro h;have:i<l.size:=by
            apply Nat.lt_of_not_le;intro h4;rw [Array.getD_eq_getD_getElem?,Array.getElem?_eq_none h4] at hl;cases hl
          omega
        rw [Array.getD_eq_getD_getElem?,Array.getElem?_eq_getElem hsz] at h3 ⊢;exact h3⟩
      rw [hnil] at this;cases this
    . rfl
def zhf (ops:Array Oper) (fuel t:Nat) (l:Array Bool):List Nat:=Region.linearise.go .any ops fuel t l []
theorem zfF {Inv:Array Bool->Act->World->Prop} (hb:zpK ops=true) (hR:∀ l a w w1,Inv l a w->R w w1->Inv l a w1)
    {Z:Nat->Bool} (hstop:∀ l a w i o fuel t,l.size=ops.size->ops[i]?=some o->l.getD i true=false->(∀ e∈o.after,Region.binds .any e=true->l.getD e.on false=true)->Z i=true->Inv l a w->zbS (l.setIfInBounds i true) ops.size<=fuel->Stop (Go.Conc.G (b.at a (.inRegion ops (i::zhf ops fuel t (l.setIfInBounds i true))::k)) cs) w)
    (hstep:∀ l a w i o,l.size=ops.size->ops[i]?=some o->l.getD i true=false->(∀ e∈o.after,Region.binds .any e=true->l.getD e.on false=true)->Z i=false->Inv l a w ->
      ∃ a' w' es,(∀ rest,stepG P main (Go.Conc.G (b.at a (.inRegion ops (i::rest)::k)) cs) w=.go (Go.Conc.G (b.at a' (.inRegion ops rest::k)) cs) w' es)/\D w w' es/\Inv (l.setIfInBounds i true) a' w')
    {n:Nat} (hend:∀ l a w,l.size=ops.size->(∀ i,i<ops.size->l.getD i true=true)->Inv l a w->Conc.Goes P main R D Stop n (Go.Conc.G (b.at a (.inRegion ops []::k)) cs) w) :
    ∀ (fuel t:Nat) (l:Array Bool) (a:Act) (w:World),l.size=ops.size->zbS l ops.size<=fuel->Inv l a w->Conc.Goes P main R D Stop (n+fuel) (Go.Conc.G (b.at a (.inRegion ops (zhf ops fuel t l)::k)) cs) w:=by
  intro fuel
  induction fuel with
  | zero =>
    intro t l a w hl hf hI;exact hend l a w hl (zeU ops.size (Nat.le_zero.1 hf)) hI
  | succ fuel ih =>
    intro t l a w hl hf hI;unfold zhf;simp only [Region.linearise.go];change Conc.Goes P main R D Stop (n+(fuel+1)) (Go.Conc.G (b.at a (.inRegion ops (match (Region.ready .any ops l)[t % (Region.ready .any ops l).length]? with
        | some i=>Region.linearise.go .any ops fuel (t / (Region.ready .any ops l).length) (l.setIfInBounds i true) [i]
        | none=>[].reverse)::k)) cs) w
    cases hi:(Region.ready .any ops l)[t % (Region.ready .any ops l).length]? with
    | none =>
      have hnil:Region.ready .any ops l=[]:=by
        cases hr:Region.ready .any ops l with
        | nil=>rfl
        | cons x xs =>
          rw [hr] at hi;have hlt:t % (x::xs).length<(x::xs).length:=Nat.mod_lt _ (by simp)
          simp at hi;simp at hlt;omega
      exact zgA (hend l a w hl (znj hb hnil) hI) (by omega)
    | some i =>
      simp only [];rw [linearise_go_acc,List.reverse_singleton,List.singleton_append];have hir:i∈Region.ready .any ops l:=List.mem_of_getElem? hi;obtain⟨hun,o,ho,hdep⟩:=mem_ready.1 hir;have hlt:=(Array.getElem?_eq_some_iff.1 ho).1;have hund:=zdE hun ops.size hlt (by rw [hl];exact hlt)
      cases hz:Z i with
      | true=>exact .inl fun w1 h1=>hstop l a w1 i o fuel _ hl ho hun hdep hz (hR _ _ _ _ hI h1) (by omega)
      | false =>
        refine .inr ⟨rfl,fun w1 h1=>?_⟩;obtain⟨a',w',es,h2,h3,h4⟩:=hstep l a w1 i o hl ho hun hdep hz (hR _ _ _ _ hI h1);rw [h2,goes_go];exact⟨h3,ih _ _ a' w' (by simpa using hl) (by omega) h4⟩
end
section
variable {P:Program} {OB WB:Nat->Prop} {B:Nat} {Iv:Nat->World->Prop} {Mem:Nat->Prop} {Inb:Nat->Option Seat} {T:Trace} {gs:Array Goroutine} {w:World} {q:Nat->Nat} {h:Nat}
theorem RingO.ownQ (C:RingO P OB WB B Iv Mem Inb h T gs w q) {a a':Goroutine} {w':World} (ha:gs[h]?=some a) (D:DO OB WB Inb h w w' #[]) :
    RingO P OB WB B Iv Mem Inb h (T++MemOp.ofEvents h a.frame.fn a.frame.place #[]) ((gs.map (woken P a a' w')).setIfInBounds h a') w' q/\((gs.map (woken P a a' w')).setIfInBounds h a')[h]?=some a':=by
  have hlt:h<gs.size:=(Array.getElem?_eq_some_iff.1 ha).1;have hrl:∀ x,x≠h->Rl OB WB x w w':=fun x hx=>⟨fun ad had h3=>D.still ad had h3,fun e b hb=>D.own (by omega) b hb⟩
  rw [show MemOp.ofEvents h a.frame.fn a.frame.place #[]=#[] from rfl,Array.append_empty]
  refine⟨⟨fun x y hx hy=>?_,fun i s c _ hi hc=>?_,C.far,C.wf,fun _ _ hx=>hx.elim,C.inj,fun j hj=>?_,C.mem,C.nomem,C.lo,C.past,C.apart,C.ivst,Nat.le_trans C.lowB D.size⟩,Array.getElem?_setIfInBounds_self_of_lt (by simpa using hlt)⟩
  . rw [Array.getElem?_setIfInBounds_ne (fun e=>hx e.symm),Array.getElem?_map] at hy;obtain⟨yq,hyq,rfl⟩:=Option.map_eq_some_iff.1 hy;rw [woken_of_again (CoF.fixed' C D.seats hx hyq)];have hi:=C.idle x yq hx hyq;cases es':Inb x with
    | none=>rw [es'] at hi;exact hi
    | some s=>rw [es'] at hi;exact SitsO.rely C.ivst hi (hrl x hx)
  . obtain⟨cap,k,hk⟩:=C.chans i s c (fun z=>z) hi hc;exact⟨cap,k,by rw [D.seats i s c hi hc];exact hk⟩
  . simp only [Array.size_setIfInBounds,Array.size_map] at hj;exact C.above j hj
theorem zmw {a a':Goroutine} {St:World->Prop} (hrun:a.status=.running) {w0:World} (hstep:∀ w1,Ro OB h w0 w1->∃ w',stepG P (h==0) a w1=.go a' w' #[]/\DO OB WB Inb h w1 w' #[]/\St w') :
    ∀ (n:Nat) {T:Trace} {gs:Array Goroutine} {w:World} {q:Nat->Nat} {sl:Option (Nat × Nat)},sumTo gs.size q=n->Ro OB h w0 w->gs[h]?=some a->RingO P OB WB B Iv Mem Inb h T gs w q ->
      Reach P (crowd gs w sl) T fun m' T'=>∃ gs' w' sl' q',m'=crowd gs' w' sl'/\gs'.size=gs.size/\gs'[h]?=some a'/\St w'/\RingO P OB WB B Iv Mem Inb h T' gs' w' q':=by
  intro n
  induction n using Nat.strongRecOn with
  | _ m ihm =>
    intro T gs w q sl hm hw ha C;obtain⟨i,g,d,sl',hi,hg,hst⟩:=crowd_pick (P:=P) (w:=w) (sl:=sl) (CoF.awake C fun x g hx hgx=>by subst hx;rw [ha] at hgx;obtain rfl:=Option.some.inj hgx;exact .inl hrun) ⟨h,a,ha,hrun⟩
    have Cd:RingO P OB WB B Iv Mem Inb h T gs (w.at d) q:=CoF.at C d;have hRd:Ro OB h w (w.at d):=⟨fun _ _=>rfl,rfl,rfl⟩;by_cases e:i=h
    . subst e;obtain rfl:g=a:=by rw [ha] at hi;exact (Option.some.inj hi).symm
      obtain⟨w',h1,h2,h3⟩:=hstep (w.at d) (hw.trans _ _ _ hRd);obtain⟨C',ha'⟩:=RingO.ownQ (a':=a') Cd ha h2;refine .head (ho:=by exact .of h2.rest) (by rw [hst];exact runT_crowd_go (sl:=sl') ha h1) (.here ⟨_,w',sl',q,rfl,by simp,ha',h3,C'⟩)
    . obtain⟨gs',ops,q',w',hrt,hsz',hsp,hS,hw0,_,_,C',hlt⟩:=CoF.by_step (sl:=sl') (fun t u i=>Knows.app u) Cd hi e hg
        (fun x gx w' hx hgx _=>by subst hx;rw [ha] at hgx;obtain rfl:=Option.some.inj hgx;exact again_of_running (.inl hrun) _) (fun hD=>hD.elim)
        (fun s gq _ _=>⟨fun hD=>hD,fun x gx c hx hgx _=>by subst hx;rw [ha] at hgx;obtain rfl:=Option.some.inj hgx;exact offersAt_of_not_blocked (by rw [hrun];simp) _ _⟩)
      have hR:Ro OB h w w':=hRd.trans _ _ _ (hS.by' hw0 e);refine .head (ho:=by exact .side hS.rest) (by rw [hst];exact hrt) ?_
      refine (ihm (sumTo gs'.size q') (by rw [hsz',<-hm];exact hlt) rfl (hw.trans _ _ _ hR) (by rw [hsp h rfl];exact ha) C').bind fun m' T'=>?_
      rintro ⟨gs2,w2,sl2,q2,rfl,k1,k2,k3,k4⟩;exact .here ⟨gs2,w2,sl2,q2,rfl,by omega,k2,k3,k4⟩
end
noncomputable def zbD:Code:=(Try.f7.body).getD .skip
noncomputable def zdc:Code:=cL (cR (cR zbD))
noncomputable def startOps3:Array Oper:=cOps zdc
noncomputable def zbN:Code:=cR (cR (cR zbD))
abbrev zat (tb:Nat) (fv:Value) (v:Nat->Value):Array Value:=#[pt tb,fv,undef,undef,.bool false,pt tb,.bool false,.bool false,pt tb,pt tb,pt tb 5,.bool false,.bool false,.bool false,pt tb,pt tb,pt tb 4,.bool false,.bool false,.bool false,fv,.bool false,.bool false,v 0,v 1,v 2,v 3,v 4,v 5,v 6,v 7,v 8,v 9,v 10,v 11,v 12,v 13,v 14,undef,undef,undef,undef,undef,undef,undef,undef,undef,undef,undef,undef,undef,undef,undef,undef,undef,undef]
section
variable {OB WB:Nat->Prop} {Inb:Nat->Option Seat}
set_option maxRecDepth 100000 in
theorem zmn {w0 w:World} {tb:Nat} {fn:Fn} {xs ys:Array Value} (hc:w0.cell? ⟨tb,5,none⟩=some (.bool false)) (hb:w0.cell? ⟨tb,4,none⟩=some (.bool false)) (hK:KM w0 w) (cs:List Frame) :
    Conc.Goes Try.prog true (Ro OB 0) (DO OB WB Inb 0) (fun g w'=>g=Go.Conc.G ((base 7).at ⟨zat tb (.func fn xs ys) (fun _=>undef),[]⟩ [.code zdc,.code zbN]) cs/\KM w0 w') 60 (Go.Conc.G ((base 7).at ⟨#[pt tb,.func fn xs ys,undef,undef,undef,undef,undef,undef,undef,undef,undef,undef,undef,undef,undef,undef,undef,undef,undef,undef,undef,undef,undef,undef,undef,undef,undef,undef,undef,undef,undef,undef,undef,undef,undef,undef,undef,undef,undef,undef,undef,undef,undef,undef,undef,undef,undef,undef,undef,undef,undef,undef,undef,undef,undef,undef],[]⟩ [.code zbD]) cs) w:=by
  simp only [zbD,Try.f7,Option.getD_some];(refine Conc.Goes.step rfl (fun w₁ h₁=>?_);replace hK:=hK.rely h₁;clear h₁;rw [stepG_seq];simp only [goes_go];refine⟨DO.none _,?_⟩);(refine Conc.Goes.step rfl (fun w₁ h₁=>?_);replace hK:=hK.rely h₁;clear h₁;rw [stepG_region];simp only [goes_go,List.size_toArray,List.length_cons,List.length_nil,Nat.reduceAdd,Nat.zero_add,List.range,List.range.loop];refine⟨DO.none _,?_⟩);(refine Conc.Goes.step rfl (fun w₁ h₁=>?_);replace hK:=hK.rely h₁;clear h₁;refine goes_oper_k rfl rfl (by decide) (fun K hK'=>?_);go_simp;refine hK' _ _ ⟨DO.quiet (fun e he=>(by have hm:=mem_listed he;simp [go_sem,Instr.makeInterface,Instr.makeFunc] at hm)),?_⟩;clear hK' K)
  (refine Conc.Goes.step rfl (fun w₁ h₁=>?_);replace hK:=hK.rely h₁;clear h₁;rw [stepG_region_end];simp only [goes_go];refine⟨DO.none _,?_⟩);(refine Conc.Goes.step rfl (fun w₁ h₁=>?_);replace hK:=hK.rely h₁;clear h₁;rw [stepG_seq];simp only [goes_go];refine⟨DO.none _,?_⟩);(refine Conc.Goes.step rfl (fun w₁ h₁=>?_);replace hK:=hK.rely h₁;clear h₁;rw [stepG_seq];simp only [goes_go];refine⟨DO.none _,?_⟩);(refine Conc.Goes.step rfl (fun w₁ h₁=>?_);replace hK:=hK.rely h₁;clear h₁;rw [stepG_region];simp only [goes_go,List.size_toArray,List.length_cons,List.length_nil,Nat.reduceAdd,Nat.zero_add,List.range,List.range.loop];refine⟨DO.none _,?_⟩);(refine Conc.Goes.step rfl (fun w₁ h₁=>?_);replace hK:=hK.rely h₁;clear h₁;refine goes_oper_k rfl rfl (by decide) (fun K hK'=>?_);go_simp;refine hK' _ _ ⟨DO.quiet (fun e he=>(by have hm:=mem_listed he;simp [go_sem,Instr.makeInterface,Instr.makeFunc] at hm)),?_⟩;clear hK' K);refine Conc.Goes.step rfl (fun w₁ h₁=>?_);replace hK:=hK.rely h₁;clear h₁
  refine goes_oper_k rfl rfl (by decide) (fun K hK'=>?_)
  go_simp
  refine hK' _ _ ⟨DO.quiet (fun e he=>(by rw [zdB rfl rfl rfl rfl] at he;simp at he)),?_⟩
  clear hK' K;(refine Conc.Goes.step rfl (fun w₁ h₁=>?_);replace hK:=hK.rely h₁;clear h₁;refine goes_oper_k rfl rfl (by decide) (fun K hK'=>?_);go_simp;refine hK' _ _ ⟨DO.quiet (fun e he=>(by have hm:=mem_listed he;simp [go_sem,Instr.makeInterface,Instr.makeFunc] at hm)),?_⟩;clear hK' K)
  (refine Conc.Goes.step rfl (fun w₁ h₁=>?_);replace hK:=hK.rely h₁;clear h₁;refine goes_oper_k rfl rfl (by decide) (fun K hK'=>?_);go_simp;refine hK' _ _ ⟨DO.quiet (fun e he=>(by have hm:=mem_listed he;simp [go_sem,Instr.makeInterface,Instr.makeFunc] at hm)),?_⟩;clear hK' K);(refine Conc.Goes.step rfl (fun w₁ h₁=>?_);replace hK:=hK.rely h₁;clear h₁;refine goes_oper_k rfl rfl (by decide) (fun K hK'=>?_);go_simp;refine hK' _ _ ⟨DO.quiet (fun e he=>(by have hm:=mem_listed he;simp [go_sem,Instr.makeInterface,Instr.makeFunc] at hm)),?_⟩;clear hK' K);(refine Conc.Goes.step rfl (fun w₁ h₁=>?_);replace hK:=hK.rely h₁;clear h₁;refine goes_oper_k rfl rfl (by decide) (fun K hK'=>?_);go_simp;refine hK' _ _ ⟨DO.quiet (fun e he=>(by have hm:=mem_listed he;simp [go_sem,Instr.makeInterface,Instr.makeFunc] at hm)),?_⟩;clear hK' K);(refine Conc.Goes.step rfl (fun w₁ h₁=>?_);replace hK:=hK.rely h₁;clear h₁;have hF:=(hK.cell hc);refine goes_oper_k rfl rfl (by decide) (fun K hK'=>?_);go_simp;refine hK' _ _ ⟨DO.quiet (fun e he=>(by have hm:=mem_listed he;simp [go_sem,hF] at hm;subst hm;exact zby (hK.cell hc))),?_⟩;clear hK' K hF);(refine Conc.Goes.step rfl (fun w₁ h₁=>?_);replace hK:=hK.rely h₁;clear h₁;refine goes_oper_k rfl rfl (by decide) (fun K hK'=>?_);go_simp;refine hK' _ _ ⟨DO.quiet (fun e he=>(by have hm:=mem_listed he;simp [go_sem,Instr.makeInterface,Instr.makeFunc] at hm)),?_⟩;clear hK' K);(refine Conc.Goes.step rfl (fun w₁ h₁=>?_);replace hK:=hK.rely h₁;clear h₁;refine goes_oper_k rfl rfl (by decide) (fun K hK'=>?_);go_simp;refine hK' _ _ ⟨DO.quiet (fun e he=>(by have hm:=mem_listed he;simp [go_sem,Instr.makeInterface,Instr.makeFunc] at hm)),?_⟩;clear hK' K);(refine Conc.Goes.step rfl (fun w₁ h₁=>?_);replace hK:=hK.rely h₁;clear h₁;refine goes_oper_k rfl rfl (by decide) (fun K hK'=>?_);go_simp;refine hK' _ _ ⟨DO.quiet (fun e he=>(by have hm:=mem_listed he;simp [go_sem,Instr.makeInterface,Instr.makeFunc] at hm)),?_⟩;clear hK' K);(refine Conc.Goes.step rfl (fun w₁ h₁=>?_);replace hK:=hK.rely h₁;clear h₁;refine goes_oper_k rfl rfl (by decide) (fun K hK'=>?_);go_simp;refine hK' _ _ ⟨DO.quiet (fun e he=>(by have hm:=mem_listed he;simp [go_sem,Instr.makeInterface,Instr.makeFunc] at hm)),?_⟩;clear hK' K);(refine Conc.Goes.step rfl (fun w₁ h₁=>?_);replace hK:=hK.rely h₁;clear h₁;refine goes_oper_k rfl rfl (by decide) (fun K hK'=>?_);go_simp;refine hK' _ _ ⟨DO.quiet (fun e he=>(by have hm:=mem_listed he;simp [go_sem,Instr.makeInterface,Instr.makeFunc] at hm)),?_⟩;clear hK' K);(refine Conc.Goes.step rfl (fun w₁ h₁=>?_);replace hK:=hK.rely h₁;clear h₁;have hF:=(hK.cell hb);refine goes_oper_k rfl rfl (by decide) (fun K hK'=>?_);go_simp;refine hK' _ _ ⟨DO.quiet (fun e he=>(by have hm:=mem_listed he;simp [go_sem,hF] at hm;subst hm;exact zby (hK.cell hb))),?_⟩;clear hK' K hF);(refine Conc.Goes.step rfl (fun w₁ h₁=>?_);replace hK:=hK.rely h₁;clear h₁;refine goes_oper_k rfl rfl (by decide) (fun K hK'=>?_);go_simp;refine hK' _ _ ⟨DO.quiet (fun e he=>(by have hm:=mem_listed he;simp [go_sem,Instr.makeInterface,Instr.makeFunc] at hm)),?_⟩;clear hK' K);(refine Conc.Goes.step rfl (fun w₁ h₁=>?_);replace hK:=hK.rely h₁;clear h₁;refine goes_oper_k rfl rfl (by decide) (fun K hK'=>?_);go_simp;refine hK' _ _ ⟨DO.quiet (fun e he=>(by have hm:=mem_listed he;simp [go_sem,Instr.makeInterface,Instr.makeFunc] at hm)),?_⟩;clear hK' K);(refine Conc.Goes.step rfl (fun w₁ h₁=>?_);replace hK:=hK.rely h₁;clear h₁;refine goes_oper_k rfl rfl (by decide) (fun K hK'=>?_);go_simp;refine hK' _ _ ⟨DO.quiet (fun e he=>(by have hm:=mem_listed he;simp [go_sem,Instr.makeInterface,Instr.makeFunc] at hm)),?_⟩;clear hK' K);refine Conc.Goes.step rfl (fun w₁ h₁=>?_);replace hK:=hK.rely h₁;clear h₁
  refine goes_oper_k rfl rfl (by decide) (fun K hK'=>?_)
  go_simp
  refine hK' _ _ ⟨DO.quiet (fun e he=>(by rw [zhy (u:=.func fn xs ys) (v:=.nilFunc) rfl rfl rfl (zdN _) (zdN _) rfl] at he;simp at he)),?_⟩
  clear hK' K;(refine Conc.Goes.step rfl (fun w₁ h₁=>?_);replace hK:=hK.rely h₁;clear h₁;refine goes_oper_k rfl rfl (by decide) (fun K hK'=>?_);go_simp;refine hK' _ _ ⟨DO.quiet (fun e he=>(by have hm:=mem_listed he;simp [go_sem,Instr.makeInterface,Instr.makeFunc] at hm)),?_⟩;clear hK' K)
  (refine Conc.Goes.step rfl (fun w₁ h₁=>?_);replace hK:=hK.rely h₁;clear h₁;rw [stepG_region_end];simp only [goes_go];refine⟨DO.none _,?_⟩);(refine Conc.Goes.step rfl (fun w₁ h₁=>?_);replace hK:=hK.rely h₁;clear h₁;rw [stepG_cond (t:=false) rfl];simp only [goes_go,if_true,if_false,Bool.false_eq_true,↓reduceIte];refine⟨DO.none _,?_⟩);(refine Conc.Goes.step rfl (fun w₁ h₁=>?_);replace hK:=hK.rely h₁;clear h₁;rw [stepG_skip];simp only [goes_go];refine⟨DO.none _,?_⟩);(refine Conc.Goes.step rfl (fun w₁ h₁=>?_);replace hK:=hK.rely h₁;clear h₁;rw [stepG_seq];simp only [goes_go];refine⟨DO.none _,?_⟩);exact Conc.Goes.stop (fun w₁ h₁=>⟨by simp only [zdc,zbN,zbD,cOps,cL,cR,Try.f7,Option.getD_some],hK.rely h₁⟩)
end
def valS (tb:Nat) (me:Int) (quit ask gr wb:Nat):Nat->Value
  | 0|1|2|7|8|13=>pt tb
  | 3=>pt tb 0
  | 4=>.int .i64 me
  | 5=>.chan (some ask)
  | 6=>.chan (some gr)
  | 9=>pt tb 6
  | 10=>.chan (some quit)
  | 11=>.agg #[.int .i64 me,.int .i64 0,.pointer none,.chan (some ask),.chan (some gr),.chan (some quit)]
  | 12=>pt wb
  | 14=>pt tb 1
  | _=>undef
def vS (l:Array Bool) (tb:Nat) (me:Int) (quit ask gr wb:Nat) (j:Nat):Value:=if l.getD j false=true then valS tb me quit ask gr wb j else undef
structure InvA (w0:World) (tb:Nat) (fv:Value) (me:Int) (quit:Nat) (l:Array Bool) (a:Act) (w:World):Prop where
  ex:∃ ask gr,a=⟨zat tb fv (vS l tb me quit ask gr 0),[]⟩/\(l.getD 5 false=true->w0.heap.size<=ask/\w.heap[ask]?=some (.chan 0 #[] false 0 0 false))/\(l.getD 6 false=true->w0.heap.size<=gr/\w.heap[gr]?=some (.chan 0 #[] false 0 0 false))/\(l.getD 5 false=true->l.getD 6 false=true->ask≠gr)
  size:w.heap.size=w0.heap.size+(if l.getD 5 false=true then 1 else 0)+(if l.getD 6 false=true then 1 else 0)
  old:∀ x,x<w0.heap.size->w.heap[x]?=w0.heap[x]?
  no12:l.getD 12 false=false
  no15:l.getD 15 false=false
  d11:l.getD 11 false=true->l.getD 5 false=true/\l.getD 6 false=true
theorem zjn:zpK startOps3=true:=by kernel_rfl
theorem zbi:startOps3.size=16:=by kernel_rfl
theorem zav {tb:Nat} {fv x:Value} {v:Nat->Value}:∀ {j:Nat},j<15->(⟨zat tb fv v,[]⟩:Act).put (some (23+j)) x=⟨zat tb fv (fun i=>if i=j then x else v i),[]⟩
  | 0,_|1,_|2,_|3,_|4,_|5,_|6,_|7,_|8,_|9,_|10,_|11,_|12,_|13,_|14,_=>by simp [Act.put,zat]
  | j+15,h=>absurd h (by omega)
theorem zan {l:Array Bool} {j i:Nat} (h:i≠j):(l.setIfInBounds j true).getD i false=l.getD i false:=by
  rw [Array.getD_eq_getD_getElem?,Array.getElem?_setIfInBounds_ne (fun z=>h z.symm),Array.getD_eq_getD_getElem?]
theorem zhw {l:Array Bool} {tb:Nat} {me:Int} {quit ask gr wb j:Nat} (hj:j<l.size):vS (l.setIfInBounds j true) tb me quit ask gr wb=fun i=>if i=j then valS tb me quit ask gr wb j else vS l tb me quit ask gr wb i:=by
  funext i;unfold vS;by_cases e:i=j
  . subst e;rw [if_pos rfl,if_pos];rw [Array.getD_eq_getD_getElem?,Array.getElem?_setIfInBounds_self_of_lt hj];rfl
  . rw [zan e,if_neg e]
theorem za1 {l:Array Bool} {tb:Nat} {me:Int} {quit ask gr wb j:Nat} (h:l.getD j false=true):vS l tb me quit ask gr wb j=valS tb me quit ask gr wb j:=if_pos h
section
variable {OB WB:Nat->Prop} {Inb:Nat->Option Seat}
theorem zbM {ops:Array Oper} {b:Frame} {k:List Item} {cs:List Frame} {a a':Act} {w w':World} {i:Nat} {o:Oper} {v:Value} {Q:Act->World->Prop} (ho:ops[i]?=some o) (hg:o.guard=none) (hk:b.kind≠.early) (hr:(execOp a.eval o).run Try.prog w=.ok (.value v) w') (ha:a.put o.dst v=a') (D:DO OB WB Inb 0 w w' (listed Try.prog b.fn a o w)) (hI:Q a' w') :
    ∃ a' w' es,(∀ rest,stepG Try.prog true (Go.Conc.G (b.at a (.inRegion ops (i::rest)::k)) cs) w=.go (Go.Conc.G (b.at a' (.inRegion ops rest::k)) cs) w' es)/\DO OB WB Inb 0 w w' es/\Q a' w':=by
  subst ha;exact⟨_,_,_,fun rest=>stepG_value ho (by simp [Region.wanted,hg]) hk hr,D,hI⟩
theorem InvA.pure {w0:World} {tb:Nat} {fv:Value} {me:Int} {quit:Nat} {l:Array Bool} {w:World} {ask gr j:Nat} (I:InvA w0 tb fv me quit l ⟨zat tb fv (vS l tb me quit ask gr 0),[]⟩ w) (I5:l.getD 5 false=true->w0.heap.size<=ask/\w.heap[ask]?=some (.chan 0 #[] false 0 0 false)) (I6:l.getD 6 false=true->w0.heap.size<=gr/\w.heap[gr]?=some (.chan 0 #[] false 0 0 false)) (I56:l.getD 5 false=true->l.getD 6 false=true->ask≠gr) (hj:j<15) (h5:j≠5) (h6:j≠6) (h12:j≠12) (hl:l.size=16) (h11:j=11->l.getD 5 false=true/\l.getD 6 false=true) :
    InvA w0 tb fv me quit (l.setIfInBounds j true) ⟨zat tb fv (fun i=>if i=j then valS tb me quit ask gr 0 j else vS l tb me quit ask gr 0 i),[]⟩ w:=by
  refine⟨⟨ask,gr,by rw [zhw (by omega)],?_,?_,?_⟩,?_,I.old,?_,?_,?_⟩
  . rw [zan (by omega)];exact I5
  . rw [zan (by omega)];exact I6
  . rw [zan (by omega),zan (by omega)];exact I56
  . rw [zan (by omega),zan (by omega)];exact I.size
  . rw [zan (by omega)];exact I.no12
  . rw [zan (l:=l) (i:=15) (by omega)];exact I.no15
  . rw [zan (l:=l) (i:=5) (by omega),zan (l:=l) (i:=6) (by omega)]
    by_cases e:j=11
    . exact fun _=>h11 e
    . rw [zan (by omega)];exact I.d11
theorem zp6 {tb:Nat} {me:Int} {quit ask ask' gr wb:Nat}:∀ {i:Nat},i≠5->i≠11->valS tb me quit ask gr wb i=valS tb me quit ask' gr wb i
  | 0,_,_|1,_,_|2,_,_|3,_,_|4,_,_|6,_,_|7,_,_|8,_,_|9,_,_|10,_,_|12,_,_|13,_,_|14,_,_=>rfl
  | 5,h,_=>absurd rfl h
  | 11,_,h=>absurd rfl h
  | i+15,_,_=>rfl
theorem zrz {tb:Nat} {me:Int} {quit ask gr gr' wb:Nat}:∀ {i:Nat},i≠6->i≠11->valS tb me quit ask gr wb i=valS tb me quit ask gr' wb i
  | 0,_,_|1,_,_|2,_,_|3,_,_|4,_,_|5,_,_|7,_,_|8,_,_|9,_,_|10,_,_|12,_,_|13,_,_|14,_,_=>rfl
  | 6,h,_=>absurd rfl h
  | 11,_,h=>absurd rfl h
  | i+15,_,_=>rfl
theorem InvA.chan5 {w0:World} {tb:Nat} {fv:Value} {me:Int} {quit:Nat} {l:Array Bool} {w:World} {ask gr:Nat} (I:InvA w0 tb fv me quit l ⟨zat tb fv (vS l tb me quit ask gr 0),[]⟩ w) (I5:l.getD 5 false=true->w0.heap.size<=ask/\w.heap[ask]?=some (.chan 0 #[] false 0 0 false)) (I6:l.getD 6 false=true->w0.heap.size<=gr/\w.heap[gr]?=some (.chan 0 #[] false 0 0 false)) (I56:l.getD 5 false=true->l.getD 6 false=true->ask≠gr) (hu:l.getD 5 true=false) (hl:l.size=16)
    :
    InvA w0 tb fv me quit (l.setIfInBounds 5 true) ⟨zat tb fv (fun i=>if i=5 then .chan (some w.heap.size) else vS l tb me quit ask gr 0 i),[]⟩ (w.alloc (.chan 0 #[] false 0 0 false)):=by
  have hu':l.getD 5 false=false:=by
    rw [Array.getD_eq_getD_getElem?,Array.getElem?_eq_getElem (by omega)] at hu ⊢;exact hu
  have hs:(l.setIfInBounds 5 true).getD 5 false=true:=by
    rw [Array.getD_eq_getD_getElem?,Array.getElem?_setIfInBounds_self_of_lt (by omega)];rfl
  have hno:∀ i,i≠5->vS l tb me quit ask gr 0 i=vS l tb me quit w.heap.size gr 0 i:=fun i hi=>by
    unfold vS;by_cases h:l.getD i false=true
    . rw [if_pos h,if_pos h];refine zp6 hi fun e=>?_;subst e;have:=(I.d11 h).1;rw [hu'] at this;cases this
    . rw [if_neg h,if_neg h]
  have hsz:=I.size;simp only [hu',Bool.false_eq_true,if_false,Nat.add_zero] at hsz;refine⟨⟨w.heap.size,gr,?_,?_,?_,?_⟩,?_,fun x hx=>?_,?_,?_,?_⟩
  . rw [zhw (by omega)]
    congr 2;funext i;by_cases e:i=5
    . subst e;rw [if_pos rfl,if_pos rfl];rfl
    . rw [if_neg e,if_neg e,hno i e]
  . intro _;exact⟨by omega,zbw _ _⟩
  . rw [zan (l:=l) (i:=6) (by omega)]
    intro h;obtain⟨h1,h2⟩:=I6 h;exact⟨h1,(zaD _ _ _ (zab h2)).trans h2⟩
  . rw [zan (l:=l) (i:=6) (by omega)]
    intro _ h;have:=zab (I6 h).2;omega
  . rw [zaH,hs,zan (l:=l) (i:=6) (by omega),hsz];simp;omega
  . rw [zaD _ _ _ (by omega)];exact I.old x hx
  . rw [zan (l:=l) (i:=12) (by omega)];exact I.no12
  . rw [zan (l:=l) (i:=15) (by omega)];exact I.no15
  . rw [zan (l:=l) (i:=11) (by omega)]
    intro h;have:=(I.d11 h).1;rw [hu'] at this;cases this
theorem InvA.chan6 {w0:World} {tb:Nat} {fv:Value} {me:Int} {quit:Nat} {l:Array Bool} {w:World} {ask gr:Nat} (I:InvA w0 tb fv me quit l ⟨zat tb fv (vS l tb me quit ask gr 0),[]⟩ w) (I5:l.getD 5 false=true->w0.heap.size<=ask/\w.heap[ask]?=some (.chan 0 #[] false 0 0 false)) (I6:l.getD 6 false=true->w0.heap.size<=gr/\w.heap[gr]?=some (.chan 0 #[] false 0 0 false)) (I56:l.getD 5 false=true->l.getD 6 false=true->ask≠gr) (hu:l.getD 6 true=false) (hl:l.size=16)
    :
    InvA w0 tb fv me quit (l.setIfInBounds 6 true) ⟨zat tb fv (fun i=>if i=6 then .chan (some w.heap.size) else vS l tb me quit ask gr 0 i),[]⟩ (w.alloc (.chan 0 #[] false 0 0 false)):=by
  have hu':l.getD 6 false=false:=by
    rw [Array.getD_eq_getD_getElem?,Array.getElem?_eq_getElem (by omega)] at hu ⊢;exact hu
  have hs:(l.setIfInBounds 6 true).getD 6 false=true:=by
    rw [Array.getD_eq_getD_getElem?,Array.getElem?_setIfInBounds_self_of_lt (by omega)];rfl
  have hno:∀ i,i≠6->vS l tb me quit ask gr 0 i=vS l tb me quit ask w.heap.size 0 i:=fun i hi=>by
    unfold vS;by_cases h:l.getD i false=true
    . rw [if_pos h,if_pos h];refine zrz hi fun e=>?_;subst e;have:=(I.d11 h).2;rw [hu'] at this;cases this
    . rw [if_neg h,if_neg h]
  have hsz:=I.size;simp only [hu',Bool.false_eq_true,if_false,Nat.add_zero] at hsz;refine⟨⟨ask,w.heap.size,?_,?_,?_,?_⟩,?_,fun x hx=>?_,?_,?_,?_⟩
  . rw [zhw (by omega)]
    congr 2;funext i;by_cases e:i=6
    . subst e;rw [if_pos rfl,if_pos rfl];rfl
    . rw [if_neg e,if_neg e,hno i e]
  . rw [zan (l:=l) (i:=5) (by omega)]
    intro h;obtain⟨h1,h2⟩:=I5 h;exact⟨h1,(zaD _ _ _ (zab h2)).trans h2⟩
  . intro _;exact⟨by omega,zbw _ _⟩
  . rw [zan (l:=l) (i:=5) (by omega)]
    intro h _;have:=zab (I5 h).2;omega
  . rw [zaH,hs,zan (l:=l) (i:=5) (by omega),hsz];simp
  . rw [zaD _ _ _ (by omega)];exact I.old x hx
  . rw [zan (l:=l) (i:=12) (by omega)];exact I.no12
  . rw [zan (l:=l) (i:=15) (by omega)];exact I.no15
  . rw [zan (l:=l) (i:=11) (by omega)]
    intro h;have:=(I.d11 h).2;rw [hu'] at this;cases this
set_option maxRecDepth 100000 in
theorem zti {w0:World} {tb:Nat} {fv:Value} {me:Int} {quit:Nat} (h0:w0.cell? ⟨tb,0,none⟩=some (.int .i64 me)) (h6:w0.cell? ⟨tb,6,none⟩=some (.chan (some quit))) (hW:∀ b,WB b->b<w0.heap.size) (hS:∀ i s c,Inb i=some s->s.has c->c<w0.heap.size) {k:List Item} {cs:List Frame}
    {l:Array Bool} {a:Act} {w:World} {i:Nat} {o:Oper} (hl:l.size=startOps3.size) (ho:startOps3[i]?=some o) (hu:l.getD i true=false) (hd:∀ e∈o.after,Region.binds .any e=true->l.getD e.on false=true) (hz:(i==12)=false) (I:InvA w0 tb fv me quit l a w) :
    ∃ a' w' es,(∀ rest,stepG Try.prog true (Go.Conc.G ((base 7).at a (.inRegion startOps3 (i::rest)::k)) cs) w=.go (Go.Conc.G ((base 7).at a' (.inRegion startOps3 rest::k)) cs) w' es)/\DO OB WB Inb 0 w w' es/\InvA w0 tb fv me quit (l.setIfInBounds i true) a' w':=by
  have hlt:i<16:=by rw [<-zbi];exact (Array.getElem?_eq_some_iff.1 ho).1
  have hl':l.size=16:=by rw [hl,zbi]
  obtain⟨ask,gr,rfl,I5,I6,I56⟩:=I.ex;have ho':=ho;simp only [startOps3,zdc,zbD,cOps,cL,cR,Try.f7,Option.getD_some] at ho';have hcell:∀ (x:Addr) {v:Value},w0.cell? x=some v->w.cell? x=some v:=fun x v h=>by
    obtain⟨_,_,_,hb,_⟩:=zaK h;exact (zaZ w0 w x (I.old _ (zab hb))).trans h
  match i,hlt,ho' with
  | 0,_,ho' =>
    simp only [List.getElem?_toArray,List.getElem?_cons_succ,List.getElem?_cons_zero,Option.some.injEq] at ho';subst ho';exact zbM ho rfl (by decide) (v:=pt tb) (w':=w) (by simp [go_sem,execOp,Act.eval,zat]) (zav (j:=0) (by omega)) (DO.quiet fun e he=>by have hm:=mem_listed he;simp [go_sem,execOp,Act.eval,zat] at hm) (I.pure I5 I6 I56 (by omega) (by omega) (by omega) (by omega) hl' (fun e=>absurd e (by omega)))
  | 1,_,ho' =>
    simp only [List.getElem?_toArray,List.getElem?_cons_succ,List.getElem?_cons_zero,Option.some.injEq] at ho';subst ho';exact zbM ho rfl (by decide) (v:=pt tb) (w':=w) (by simp [go_sem,execOp,Act.eval,zat]) (zav (j:=1) (by omega)) (DO.quiet fun e he=>by have hm:=mem_listed he;simp [go_sem,execOp,Act.eval,zat] at hm) (I.pure I5 I6 I56 (by omega) (by omega) (by omega) (by omega) hl' (fun e=>absurd e (by omega)))
  | 2,_,ho' =>
    simp only [List.getElem?_toArray,List.getElem?_cons_succ,List.getElem?_cons_zero,Option.some.injEq] at ho';subst ho';have hv1:vS l tb me quit ask gr 0 1=pt tb:=za1 (hd ⟨1,.data⟩ (by simp) rfl)
    exact zbM ho rfl (by decide) (v:=pt tb) (w':=w) (by simp [go_sem,execOp,Act.eval,zat,hv1]) (zav (j:=2) (by omega)) (DO.quiet fun e he=>by have hm:=mem_listed he;simp [go_sem,execOp,Act.eval,zat,hv1] at hm) (I.pure I5 I6 I56 (by omega) (by omega) (by omega) (by omega) hl' (fun e=>absurd e (by omega)))
  | 3,_,ho' =>
    simp only [List.getElem?_toArray,List.getElem?_cons_succ,List.getElem?_cons_zero,Option.some.injEq] at ho';subst ho';have hv2:vS l tb me quit ask gr 0 2=pt tb:=za1 (hd ⟨2,.data⟩ (by simp) rfl)
    exact zbM ho rfl (by decide) (v:=pt tb 0) (w':=w) (by simp [go_sem,execOp,Act.eval,zat,hv2]) (zav (j:=3) (by omega)) (DO.quiet fun e he=>by have hm:=mem_listed he;simp [go_sem,execOp,Act.eval,zat,hv2] at hm) (I.pure I5 I6 I56 (by omega) (by omega) (by omega) (by omega) hl' (fun e=>absurd e (by omega)))
  | 4,_,ho' =>
    simp only [List.getElem?_toArray,List.getElem?_cons_succ,List.getElem?_cons_zero,Option.some.injEq] at ho';subst ho';have hv3:vS l tb me quit ask gr 0 3=pt tb 0:=za1 (hd ⟨3,.data⟩ (by simp) rfl)
    have hF:=hcell _ h0;exact zbM ho rfl (by decide) (v:=.int .i64 me) (w':=w) (by simp [go_sem,execOp,Act.eval,zat,hv3,hF]) (zav (j:=4) (by omega)) (DO.quiet fun e he=>by have hm:=mem_listed he;simp [go_sem,execOp,Act.eval,zat,hv3,hF] at hm;subst hm;exact zby hF) (I.pure I5 I6 I56 (by omega) (by omega) (by omega) (by omega) hl' (fun e=>absurd e (by omega)))
  | 7,_,ho' =>
    simp only [List.getElem?_toArray,List.getElem?_cons_succ,List.getElem?_cons_zero,Option.some.injEq] at ho';subst ho';exact zbM ho rfl (by decide) (v:=pt tb) (w':=w) (by simp [go_sem,execOp,Act.eval,zat]) (zav (j:=7) (by omega)) (DO.quiet fun e he=>by have hm:=mem_listed he;simp [go_sem,execOp,Act.eval,zat] at hm) (I.pure I5 I6 I56 (by omega) (by omega) (by omega) (by omega) hl' (fun e=>absurd e (by omega)))
  | 8,_,ho' =>
    simp only [List.getElem?_toArray,List.getElem?_cons_succ,List.getElem?_cons_zero,Option.some.injEq] at ho';subst ho';have hv7:vS l tb me quit ask gr 0 7=pt tb:=za1 (hd ⟨7,.data⟩ (by simp) rfl)
    exact zbM ho rfl (by decide) (v:=pt tb) (w':=w) (by simp [go_sem,execOp,Act.eval,zat,hv7]) (zav (j:=8) (by omega)) (DO.quiet fun e he=>by have hm:=mem_listed he;simp [go_sem,execOp,Act.eval,zat,hv7] at hm) (I.pure I5 I6 I56 (by omega) (by omega) (by omega) (by omega) hl' (fun e=>absurd e (by omega)))
  | 9,_,ho' =>
    simp only [List.getElem?_toArray,List.getElem?_cons_succ,List.getElem?_cons_zero,Option.some.injEq] at ho';subst ho';have hv8:vS l tb me quit ask gr 0 8=pt tb:=za1 (hd ⟨8,.data⟩ (by simp) rfl)
    exact zbM ho rfl (by decide) (v:=pt tb 6) (w':=w) (by simp [go_sem,execOp,Act.eval,zat,hv8]) (zav (j:=9) (by omega)) (DO.quiet fun e he=>by have hm:=mem_listed he;simp [go_sem,execOp,Act.eval,zat,hv8] at hm) (I.pure I5 I6 I56 (by omega) (by omega) (by omega) (by omega) hl' (fun e=>absurd e (by omega)))
  | 10,_,ho' =>
    simp only [List.getElem?_toArray,List.getElem?_cons_succ,List.getElem?_cons_zero,Option.some.injEq] at ho';subst ho';have hv9:vS l tb me quit ask gr 0 9=pt tb 6:=za1 (hd ⟨9,.data⟩ (by simp) rfl)
    have hF:=hcell _ h6;exact zbM ho rfl (by decide) (v:=.chan (some quit)) (w':=w) (by simp [go_sem,execOp,Act.eval,zat,hv9,hF]) (zav (j:=10) (by omega)) (DO.quiet fun e he=>by have hm:=mem_listed he;simp [go_sem,execOp,Act.eval,zat,hv9,hF] at hm;subst hm;exact zby hF) (I.pure I5 I6 I56 (by omega) (by omega) (by omega) (by omega) hl' (fun e=>absurd e (by omega)))
  | 11,_,ho' =>
    simp only [List.getElem?_toArray,List.getElem?_cons_succ,List.getElem?_cons_zero,Option.some.injEq] at ho';subst ho';have hv4:vS l tb me quit ask gr 0 4=.int .i64 me:=za1 (hd ⟨4,.data⟩ (by simp) rfl)
    have hv5:vS l tb me quit ask gr 0 5=.chan (some ask):=za1 (hd ⟨5,.data⟩ (by simp) rfl)
    have hv6:vS l tb me quit ask gr 0 6=.chan (some gr):=za1 (hd ⟨6,.data⟩ (by simp) rfl)
    have hv10:vS l tb me quit ask gr 0 10=.chan (some quit):=za1 (hd ⟨10,.data⟩ (by simp) rfl)
    exact zbM ho rfl (by decide) (v:=.agg #[.int .i64 me,.int .i64 0,.pointer none,.chan (some ask),.chan (some gr),.chan (some quit)]) (w':=w) (by simp [go_sem,execOp,Act.eval,zat,hv4,hv5,hv6,hv10]) (zav (j:=11) (by omega)) (DO.quiet fun e he=>by have hm:=mem_listed he;simp [go_sem,execOp,Act.eval,zat,hv4,hv5,hv6,hv10] at hm) (I.pure I5 I6 I56 (by omega) (by omega) (by omega) (by omega) hl' (fun _=>⟨hd ⟨5,.data⟩ (by simp) rfl,hd ⟨6,.data⟩ (by simp) rfl⟩))
  | 5,_,ho' =>
    simp only [List.getElem?_toArray,List.getElem?_cons_succ,List.getElem?_cons_zero,Option.some.injEq] at ho';subst ho';have hr:∀ w:World,(Instr.makeChan _ (.int .i64 0)).run Try.prog w=.ok (.chan (some w.heap.size)) (w.alloc (.chan 0 #[] false 0 0 false)):=fun w=>zli (n:=0) (t:=73) rfl rfl (by omega) (by decide) w
    exact zbM ho rfl (by decide) (v:=.chan (some w.heap.size)) (w':=w.alloc (.chan 0 #[] false 0 0 false)) (by simp [go_sem,execOp,Act.eval,hr]) (zav (j:=5) (by omega)) (DO.alloc0 (fun b hb=>by have:=hW b hb;have:=I.size;omega) (fun i s c hi hc=>by have:=hS i s c hi hc;have:=I.size;omega) (fun e he=>by rw [zfn (n:=0) rfl rfl rfl rfl (by omega) (by decide)] at he;simp at he)) (I.chan5 I5 I6 I56 hu hl')
  | 6,_,ho' =>
    simp only [List.getElem?_toArray,List.getElem?_cons_succ,List.getElem?_cons_zero,Option.some.injEq] at ho';subst ho';have hr:∀ w:World,(Instr.makeChan _ (.int .i64 0)).run Try.prog w=.ok (.chan (some w.heap.size)) (w.alloc (.chan 0 #[] false 0 0 false)):=fun w=>zli (n:=0) (t:=74) rfl rfl (by omega) (by decide) w
    exact zbM ho rfl (by decide) (v:=.chan (some w.heap.size)) (w':=w.alloc (.chan 0 #[] false 0 0 false)) (by simp [go_sem,execOp,Act.eval,hr]) (zav (j:=6) (by omega)) (DO.alloc0 (fun b hb=>by have:=hW b hb;have:=I.size;omega) (fun i s c hi hc=>by have:=hS i s c hi hc;have:=I.size;omega) (fun e he=>by rw [zfn (n:=0) rfl rfl rfl rfl (by omega) (by decide)] at he;simp at he)) (I.chan6 I5 I6 I56 hu hl')
  | 12,_,_=>exact absurd hz (by decide)
  | 13,_,ho' =>
    simp only [List.getElem?_toArray,List.getElem?_cons_succ,List.getElem?_cons_zero,Option.some.injEq] at ho';subst ho';have:=hd ⟨12,.phase⟩ (by simp) rfl
    rw [I.no12] at this;cases this
  | 14,_,ho' =>
    simp only [List.getElem?_toArray,List.getElem?_cons_succ,List.getElem?_cons_zero,Option.some.injEq] at ho';subst ho';have:=hd ⟨12,.phase⟩ (by simp) rfl
    rw [I.no12] at this;cases this
  | 15,_,ho' =>
    simp only [List.getElem?_toArray,List.getElem?_cons_succ,List.getElem?_cons_zero,Option.some.injEq] at ho';subst ho';have:=hd ⟨12,.phase⟩ (by simp) rfl
    rw [I.no12] at this;cases this
end
end Go.Proofs.Ytgndgbnhkoppmaa
namespace Go.Proofs.Ytgndgbnhkoppmaa
open Go Go.Conc
open Go.ConcN (sumTo upd sumTo_upd upd_ne upd_same)
set_option maxRecDepth 100000 in
theorem zmz:zdc=.region 3 startOps3 true:=by
  simp only [startOps3,zdc,zbD,cOps,cL,cR,Try.f7,Option.getD_some]
theorem InvA.same {w0:World} {tb:Nat} {fv:Value} {me:Int} {quit:Nat} {l:Array Bool} {a:Act} {w w1:World} (I:InvA w0 tb fv me quit l a w) (h:w1.heap=w.heap):InvA w0 tb fv me quit l a w1:=by
  obtain⟨⟨ask,gr,h1,h2,h3,h4⟩,h5,h6,h7,h9,h8⟩:=I;exact⟨⟨ask,gr,h1,by rw [h];exact h2,by rw [h];exact h3,h4⟩,by rw [h];exact h5,fun x hx=>by rw [h];exact h6 x hx,h7,h9,h8⟩
theorem zlT (t:Nat):Region.schedule (Try.prog.follows .mixedOrders) startOps3 t=zhf startOps3 startOps3.size t (Array.replicate startOps3.size false):=by
  simp only [Region.schedule,Try.mix,Bool.true_or,if_true];rfl
theorem zq5 (n:Nat) (tb:Nat) (me:Int) (quit ask gr wb:Nat):vS (Array.replicate n false) tb me quit ask gr wb=fun _=>undef:=by
  funext j;unfold vS;rw [if_neg];rcases Nat.lt_or_ge j n with h|h<;>simp [h]
theorem zcb (n i:Nat):(Array.replicate n false).getD i false=false:=by
  rcases Nat.lt_or_ge i n with h|h<;>simp [h]
section
variable {OB WB:Nat->Prop} {Inb:Nat->Option Seat}
def zty (w0:World) (tb:Nat) (fv:Value) (me:Int) (quit:Nat) (k:List Item) (cs:List Frame) (g:Goroutine) (w:World):Prop :=
  ∃ (l:Array Bool) (a:Act) (fuel t:Nat),g=Go.Conc.G ((base 7).at a (.inRegion startOps3 (12::zhf startOps3 fuel t (l.setIfInBounds 12 true))::k)) cs/\l.size=16/\InvA w0 tb fv me quit l a w/\l.getD 11 false=true/\zbS (l.setIfInBounds 12 true) 16<=fuel
set_option maxRecDepth 100000 in
theorem zlM {w0 w:World} {tb:Nat} {fv:Value} {me:Int} {quit:Nat} (h0:w0.cell? ⟨tb,0,none⟩=some (.int .i64 me)) (h6:w0.cell? ⟨tb,6,none⟩=some (.chan (some quit))) (hW:∀ b,WB b->b<w0.heap.size) (hS:∀ i s c,Inb i=some s->s.has c->c<w0.heap.size) (hK:KM w0 w) (k:List Item) (cs:List Frame) :
    Conc.Goes Try.prog true (Ro OB 0) (DO OB WB Inb 0) (zty w0 tb fv me quit k cs) 20 (Go.Conc.G ((base 7).at ⟨zat tb fv (fun _=>undef),[]⟩ (.code zdc::k)) cs) w:=by
  rw [zmz];refine Conc.Goes.step rfl (fun w₁ h₁=>?_);replace hK:=hK.rely h₁;clear h₁;rw [stepG_region_draw,goes_go,zlT];refine⟨⟨fun _ _ _ _ _=>rfl,fun _ _ _=>rfl,fun _ _ _=>rfl,Nat.le_refl _,rfl,fun e he=>by simp at he⟩,?_⟩
  refine zfF (n:=3) (Inv:=InvA w0 tb fv me quit) (Z:=fun i=>i==12) zjn (fun l a w w1 I h=>I.same (by rw [h.heap0])) (fun l a w i o fuel t hl ho hu hd hz I hf=>?_) (fun l a w i o hl ho hu hd hz I=>zti h0 h6 hW hS hl ho hu hd hz I) (fun l a w hl hall I=>?_) 16 _ _ _ _ (by simp) (by rw [zbi];exact zcF _ _) ?_
  . obtain rfl:i=12:=by simpa using hz
    have hl':l.size=16:=by rw [hl,zbi]
    have h11:l.getD 11 false=true:=by
      have ho':=ho;simp only [startOps3,zdc,zbD,cOps,cL,cR,Try.f7,Option.getD_some] at ho';simp only [List.getElem?_toArray,List.getElem?_cons_succ,List.getElem?_cons_zero,Option.some.injEq] at ho';subst ho';exact hd ⟨11,.data⟩ (by simp) rfl
    exact⟨l,a,fuel,t,rfl,hl',I,h11,by rw [<-zbi];exact hf⟩
  . have h:=hall 12 (by rw [zbi];omega)
    have h2:=I.no12;rw [zbi] at hl;rw [Array.getD_eq_getD_getElem?,Array.getElem?_eq_getElem (by omega)] at h h2
    have h:l[12]'(by omega)=true:=h
    have h2:l[12]'(by omega)=false:=h2
    rw [h] at h2;cases h2
  . refine⟨⟨0,0,by rw [zq5],fun h=>?_,fun h=>?_,fun h=>?_⟩,?_,fun x _=>by show w₁.heap[x]?=_;rw [hK.heap],zcb _ _,zcb _ _,fun h=>?_⟩
    . rw [zcb] at h;cases h
    . rw [zcb] at h;cases h
    . rw [zcb] at h;cases h
    . rw [zcb,zcb];show w₁.heap.size=_;rw [hK.heap];simp
    . rw [zcb] at h;cases h
end
end Go.Proofs.Ytgndgbnhkoppmaa
namespace Go.Proofs.Ytgndgbnhkoppmaa
open Go Go.Conc
open Go.ConcN (sumTo upd sumTo_upd upd_ne upd_same)
abbrev zhr (me:Int) (ask gr quit:Nat):Array Value:=#[.int .i64 me,.int .i64 0,.pointer none,.chan (some ask),.chan (some gr),.chan (some quit)]
structure InvB (w0:World) (tb:Nat) (fv:Value) (me:Int) (quit ask gr:Nat) (l:Array Bool) (a:Act) (w:World):Prop where
  act:a=⟨zat tb fv (vS l tb me quit ask gr (w0.heap.size+2)),[]⟩
  hask:w0.heap.size<=ask/\w.heap[ask]?=some (.chan 0 #[] false 0 0 false)
  hgr:w0.heap.size<=gr/\w.heap[gr]?=some (.chan 0 #[] false 0 0 false)
  hne:ask≠gr
  size:w.heap.size=w0.heap.size+3
  old:∀ x,x<w0.heap.size->x≠tb->w.heap[x]?=w0.heap[x]?
  row:w.heap[w0.heap.size+2]?=some (.cells (zhr me ask gr quit) 77 (0,0))
  thr:w.heap[tb]?=if l.getD 15 false=true then (w0.setCell ⟨tb,1,none⟩ (pt (w0.heap.size+2))).heap[tb]? else w0.heap[tb]?
  d5:l.getD 5 false=true
  d6:l.getD 6 false=true
  d12:l.getD 12 false=true
theorem zrm {tb:Nat} {me:Int} {quit ask gr wb wb':Nat}:∀ {i:Nat},i≠12->valS tb me quit ask gr wb i=valS tb me quit ask gr wb' i
  | 0,_|1,_|2,_|3,_|4,_|5,_|6,_|7,_|8,_|9,_|10,_|11,_|13,_|14,_=>rfl
  | 12,h=>absurd rfl h
  | i+15,_=>rfl
set_option maxRecDepth 100000 in
theorem zpf {w0:World} {tb:Nat} {fv:Value} {me:Int} {quit:Nat} {l:Array Bool} {a:Act} {w:World} {k:List Item} {cs:List Frame} (hl:l.size=16) (I:InvA w0 tb fv me quit l a w) (h11:l.getD 11 false=true) (htb:tb<w0.heap.size) :
    ∃ ask gr,∀ w1:World,w1.heap=w.heap->∃ a',(∀ main rest,stepG Try.prog main (Go.Conc.G ((base 7).at a (.inRegion startOps3 (12::rest)::k)) cs) w1=.go (Go.Conc.G ((base 7).at a' (.inRegion startOps3 rest::k)) cs) (w1.alloc (.cells (zhr me ask gr quit) 77)) #[]) /\
      InvB w0 tb fv me quit ask gr (l.setIfInBounds 12 true) a' (w1.alloc (.cells (zhr me ask gr quit) 77)):=by
  obtain⟨ask,gr,rfl,I5,I6,I56⟩:=I.ex;obtain⟨d5,d6⟩:=I.d11 h11;have hsz:w.heap.size=w0.heap.size+2:=by have:=I.size;simp only [d5,d6,if_true] at this;omega
  have hv:vS l tb me quit ask gr 0 11=.agg (zhr me ask gr quit):=za1 h11;have hfun:(fun i=>if i=12 then pt (w0.heap.size+2) else vS l tb me quit ask gr 0 i)=vS (l.setIfInBounds 12 true) tb me quit ask gr (w0.heap.size+2):=by
    rw [zhw (by omega)]
    funext i;by_cases e:i=12
    . rw [if_pos e,if_pos e];rfl
    . rw [if_neg e,if_neg e];unfold vS;rw [zrm e]
  obtain⟨o,ho⟩:∃ o,startOps3[12]?=some o:=⟨_,Array.getElem?_eq_getElem (by rw [zbi];omega)⟩
  refine⟨ask,gr,fun w1 hw1=>⟨⟨zat tb fv (vS (l.setIfInBounds 12 true) tb me quit ask gr (w0.heap.size+2)),[]⟩,fun main rest=>?_,?_⟩⟩
  . have ho':=ho;simp only [startOps3,zdc,zbD,cOps,cL,cR,Try.f7,Option.getD_some] at ho';simp only [List.getElem?_toArray,List.getElem?_cons_succ,List.getElem?_cons_zero,Option.some.injEq] at ho';subst ho';have hs1:w1.heap.size=w0.heap.size+2:=by rw [hw1,hsz]
    rw [stepG_value ho (v:=pt (w0.heap.size+2)) (w':=w1.alloc (.cells (zhr me ask gr quit) 77)) (by simp [Region.wanted]) (by decide) (by simp [go_sem,execOp,Act.eval,zat,hv,hs1]),listed_none (by simp [go_sem,execOp,Act.eval,zat,hv])]
    rw [show (some 35:Option Tmp)=some (23+12) from rfl,zav (j:=12) (by omega),hfun]
  . refine⟨rfl,⟨(I5 d5).1,(zaD _ _ _ ?_).trans ?_⟩,⟨(I6 d6).1,(zaD _ _ _ ?_).trans ?_⟩,I56 d5 d6,?_,fun x hx _=>?_,?_,?_,?_,?_,?_⟩
    . rw [hw1];exact zab (I5 d5).2
    . rw [hw1];exact (I5 d5).2
    . rw [hw1];exact zab (I6 d6).2
    . rw [hw1];exact (I6 d6).2
    . rw [zaH,hw1];omega
    . rw [zaD _ _ _ (by rw [hw1];omega),hw1];exact I.old x hx
    . rw [show w0.heap.size+2=w1.heap.size by rw [hw1];omega];exact zbw _ _
    . rw [zan (by omega),I.no15,if_neg (by simp),zaD _ _ _ (by rw [hw1];omega),hw1];exact I.old tb htb
    . rw [zan (by omega)];exact d5
    . rw [zan (by omega)];exact d6
    . rw [Array.getD_eq_getD_getElem?,Array.getElem?_setIfInBounds_self_of_lt (by omega)];rfl
theorem InvB.pure {w0:World} {tb:Nat} {fv:Value} {me:Int} {quit ask gr:Nat} {l:Array Bool} {w:World} {j:Nat} (I:InvB w0 tb fv me quit ask gr l ⟨zat tb fv (vS l tb me quit ask gr (w0.heap.size+2)),[]⟩ w) (hj:j<15) (hl:l.size=16) (h5:j≠5) (h6:j≠6) (h12:j≠12) :
    InvB w0 tb fv me quit ask gr (l.setIfInBounds j true) ⟨zat tb fv (fun i=>if i=j then valS tb me quit ask gr (w0.heap.size+2) j else vS l tb me quit ask gr (w0.heap.size+2) i),[]⟩ w :=
  ⟨by rw [zhw (by omega)],I.hask,I.hgr,I.hne,I.size,I.old,I.row,by rw [zan (by omega)];exact I.thr,by rw [zan (by omega)];exact I.d5,by rw [zan (by omega)];exact I.d6,by rw [zan (by omega)];exact I.d12⟩
section
variable {OB WB:Nat->Prop} {Inb:Nat->Option Seat}
set_option maxRecDepth 100000 in
theorem zts {w0:World} {tb:Nat} {fv:Value} {me:Int} {quit ask gr:Nat} (h0:w0.cell? ⟨tb,0,none⟩=some (.int .i64 me)) (h6:w0.cell? ⟨tb,6,none⟩=some (.chan (some quit))) (hW:∀ b,WB b->b<w0.heap.size+3) (hS:∀ i s c,Inb i=some s->s.has c->c<w0.heap.size) (ht:(∀ i s,Inb i=some s->¬ s.has tb)/\¬ WB tb) {z1:Value} (h1:w0.cell? ⟨tb,1,none⟩=some z1) (hz1:w0.frozen? ⟨tb,1,none⟩=false) {k:List Item} {cs:List Frame}
    {l:Array Bool} {a:Act} {w:World} {i:Nat} {o:Oper} (hl:l.size=startOps3.size) (ho:startOps3[i]?=some o) (hu:l.getD i true=false) (hd:∀ e∈o.after,Region.binds .any e=true->l.getD e.on false=true) (I:InvB w0 tb fv me quit ask gr l a w) :
    ∃ a' w' es,(∀ rest,stepG Try.prog true (Go.Conc.G ((base 7).at a (.inRegion startOps3 (i::rest)::k)) cs) w=.go (Go.Conc.G ((base 7).at a' (.inRegion startOps3 rest::k)) cs) w' es)/\DO OB WB Inb 0 w w' es/\InvB w0 tb fv me quit ask gr (l.setIfInBounds i true) a' w':=by
  have hlt:i<16:=by rw [<-zbi];exact (Array.getElem?_eq_some_iff.1 ho).1
  have hl':l.size=16:=by rw [hl,zbi]
  obtain rfl:=I.act;have ho':=ho;simp only [startOps3,zdc,zbD,cOps,cL,cR,Try.f7,Option.getD_some] at ho';have hcell:∀ (o:Nat) {v:Value},1≠o->w0.cell? ⟨tb,o,none⟩=some v->w.cell? ⟨tb,o,none⟩=some v:=fun o v h1 h=>by
    have ht:=I.thr;split at ht
    . rw [zaZ (w0.setCell ⟨tb,1,none⟩ (pt (w0.heap.size+2))) w _ ht,za0 _ _ _ _ _ h1];exact h
    . exact (zaZ w0 w _ ht).trans h
  match i,hlt,ho' with
  | 0,_,ho' =>
    simp only [List.getElem?_toArray,List.getElem?_cons_succ,List.getElem?_cons_zero,Option.some.injEq] at ho';subst ho';exact zbM ho rfl (by decide) (v:=pt tb) (w':=w) (by simp [go_sem,execOp,Act.eval,zat]) (zav (j:=0) (by omega)) (DO.quiet fun e he=>by have hm:=mem_listed he;simp [go_sem,execOp,Act.eval,zat] at hm) (I.pure (by omega) hl' (by omega) (by omega) (by omega))
  | 1,_,ho' =>
    simp only [List.getElem?_toArray,List.getElem?_cons_succ,List.getElem?_cons_zero,Option.some.injEq] at ho';subst ho';exact zbM ho rfl (by decide) (v:=pt tb) (w':=w) (by simp [go_sem,execOp,Act.eval,zat]) (zav (j:=1) (by omega)) (DO.quiet fun e he=>by have hm:=mem_listed he;simp [go_sem,execOp,Act.eval,zat] at hm) (I.pure (by omega) hl' (by omega) (by omega) (by omega))
  | 2,_,ho' =>
    simp only [List.getElem?_toArray,List.getElem?_cons_succ,List.getElem?_cons_zero,Option.some.injEq] at ho';subst ho';have hv1:vS l tb me quit ask gr (w0.heap.size+2) 1=pt tb:=za1 (hd ⟨1,.data⟩ (by simp) rfl)
    exact zbM ho rfl (by decide) (v:=pt tb) (w':=w) (by simp [go_sem,execOp,Act.eval,zat,hv1]) (zav (j:=2) (by omega)) (DO.quiet fun e he=>by have hm:=mem_listed he;simp [go_sem,execOp,Act.eval,zat,hv1] at hm) (I.pure (by omega) hl' (by omega) (by omega) (by omega))
  | 3,_,ho' =>
    simp only [List.getElem?_toArray,List.getElem?_cons_succ,List.getElem?_cons_zero,Option.some.injEq] at ho';subst ho';have hv2:vS l tb me quit ask gr (w0.heap.size+2) 2=pt tb:=za1 (hd ⟨2,.data⟩ (by simp) rfl)
    exact zbM ho rfl (by decide) (v:=pt tb 0) (w':=w) (by simp [go_sem,execOp,Act.eval,zat,hv2]) (zav (j:=3) (by omega)) (DO.quiet fun e he=>by have hm:=mem_listed he;simp [go_sem,execOp,Act.eval,zat,hv2] at hm) (I.pure (by omega) hl' (by omega) (by omega) (by omega))
  | 4,_,ho' =>
    simp only [List.getElem?_toArray,List.getElem?_cons_succ,List.getElem?_cons_zero,Option.some.injEq] at ho';subst ho';have hv3:vS l tb me quit ask gr (w0.heap.size+2) 3=pt tb 0:=za1 (hd ⟨3,.data⟩ (by simp) rfl)
    have hF:=hcell 0 (by omega) h0
    exact zbM ho rfl (by decide) (v:=.int .i64 me) (w':=w) (by simp [go_sem,execOp,Act.eval,zat,hv3,hF]) (zav (j:=4) (by omega)) (DO.quiet fun e he=>by have hm:=mem_listed he;simp [go_sem,execOp,Act.eval,zat,hv3,hF] at hm;subst hm;exact zby hF) (I.pure (by omega) hl' (by omega) (by omega) (by omega))
  | 7,_,ho' =>
    simp only [List.getElem?_toArray,List.getElem?_cons_succ,List.getElem?_cons_zero,Option.some.injEq] at ho';subst ho';exact zbM ho rfl (by decide) (v:=pt tb) (w':=w) (by simp [go_sem,execOp,Act.eval,zat]) (zav (j:=7) (by omega)) (DO.quiet fun e he=>by have hm:=mem_listed he;simp [go_sem,execOp,Act.eval,zat] at hm) (I.pure (by omega) hl' (by omega) (by omega) (by omega))
  | 8,_,ho' =>
    simp only [List.getElem?_toArray,List.getElem?_cons_succ,List.getElem?_cons_zero,Option.some.injEq] at ho';subst ho';have hv7:vS l tb me quit ask gr (w0.heap.size+2) 7=pt tb:=za1 (hd ⟨7,.data⟩ (by simp) rfl)
    exact zbM ho rfl (by decide) (v:=pt tb) (w':=w) (by simp [go_sem,execOp,Act.eval,zat,hv7]) (zav (j:=8) (by omega)) (DO.quiet fun e he=>by have hm:=mem_listed he;simp [go_sem,execOp,Act.eval,zat,hv7] at hm) (I.pure (by omega) hl' (by omega) (by omega) (by omega))
  | 9,_,ho' =>
    simp only [List.getElem?_toArray,List.getElem?_cons_succ,List.getElem?_cons_zero,Option.some.injEq] at ho';subst ho';have hv8:vS l tb me quit ask gr (w0.heap.size+2) 8=pt tb:=za1 (hd ⟨8,.data⟩ (by simp) rfl)
    exact zbM ho rfl (by decide) (v:=pt tb 6) (w':=w) (by simp [go_sem,execOp,Act.eval,zat,hv8]) (zav (j:=9) (by omega)) (DO.quiet fun e he=>by have hm:=mem_listed he;simp [go_sem,execOp,Act.eval,zat,hv8] at hm) (I.pure (by omega) hl' (by omega) (by omega) (by omega))
  | 10,_,ho' =>
    simp only [List.getElem?_toArray,List.getElem?_cons_succ,List.getElem?_cons_zero,Option.some.injEq] at ho';subst ho';have hv9:vS l tb me quit ask gr (w0.heap.size+2) 9=pt tb 6:=za1 (hd ⟨9,.data⟩ (by simp) rfl)
    have hF:=hcell 6 (by omega) h6
    exact zbM ho rfl (by decide) (v:=.chan (some quit)) (w':=w) (by simp [go_sem,execOp,Act.eval,zat,hv9,hF]) (zav (j:=10) (by omega)) (DO.quiet fun e he=>by have hm:=mem_listed he;simp [go_sem,execOp,Act.eval,zat,hv9,hF] at hm;subst hm;exact zby hF) (I.pure (by omega) hl' (by omega) (by omega) (by omega))
  | 11,_,ho' =>
    simp only [List.getElem?_toArray,List.getElem?_cons_succ,List.getElem?_cons_zero,Option.some.injEq] at ho';subst ho';have hv4:vS l tb me quit ask gr (w0.heap.size+2) 4=.int .i64 me:=za1 (hd ⟨4,.data⟩ (by simp) rfl)
    have hv5:vS l tb me quit ask gr (w0.heap.size+2) 5=.chan (some ask):=za1 (hd ⟨5,.data⟩ (by simp) rfl)
    have hv6:vS l tb me quit ask gr (w0.heap.size+2) 6=.chan (some gr):=za1 (hd ⟨6,.data⟩ (by simp) rfl)
    have hv10:vS l tb me quit ask gr (w0.heap.size+2) 10=.chan (some quit):=za1 (hd ⟨10,.data⟩ (by simp) rfl)
    exact zbM ho rfl (by decide) (v:=.agg #[.int .i64 me,.int .i64 0,.pointer none,.chan (some ask),.chan (some gr),.chan (some quit)]) (w':=w) (by simp [go_sem,execOp,Act.eval,zat,hv4,hv5,hv6,hv10]) (zav (j:=11) (by omega)) (DO.quiet fun e he=>by have hm:=mem_listed he;simp [go_sem,execOp,Act.eval,zat,hv4,hv5,hv6,hv10] at hm) (I.pure (by omega) hl' (by omega) (by omega) (by omega))
  | 5,_,_=>rw [Array.getD_eq_getD_getElem?,Array.getElem?_eq_getElem (by omega)] at hu;have:=I.d5;rw [Array.getD_eq_getD_getElem?,Array.getElem?_eq_getElem (by omega)] at this;exact absurd (hu.symm.trans this) (by decide)
  | 6,_,_=>rw [Array.getD_eq_getD_getElem?,Array.getElem?_eq_getElem (by omega)] at hu;have:=I.d6;rw [Array.getD_eq_getD_getElem?,Array.getElem?_eq_getElem (by omega)] at this;exact absurd (hu.symm.trans this) (by decide)
  | 12,_,_=>rw [Array.getD_eq_getD_getElem?,Array.getElem?_eq_getElem (by omega)] at hu;have:=I.d12;rw [Array.getD_eq_getD_getElem?,Array.getElem?_eq_getElem (by omega)] at this;exact absurd (hu.symm.trans this) (by decide)
  | 13,_,ho' =>
    simp only [List.getElem?_toArray,List.getElem?_cons_succ,List.getElem?_cons_zero,Option.some.injEq] at ho';subst ho';have hv0:vS l tb me quit ask gr (w0.heap.size+2) 0=pt tb:=za1 (hd ⟨0,.data⟩ (by simp) rfl)
    exact zbM ho rfl (by decide) (v:=pt tb) (w':=w) (by simp [go_sem,execOp,Act.eval,zat,hv0]) (zav (j:=13) (by omega)) (DO.quiet fun e he=>by have hm:=mem_listed he;simp [go_sem,execOp,Act.eval,zat,hv0] at hm) (I.pure (by omega) hl' (by omega) (by omega) (by omega))
  | 14,_,ho' =>
    simp only [List.getElem?_toArray,List.getElem?_cons_succ,List.getElem?_cons_zero,Option.some.injEq] at ho';subst ho';have hv13:vS l tb me quit ask gr (w0.heap.size+2) 13=pt tb:=za1 (hd ⟨13,.data⟩ (by simp) rfl)
    exact zbM ho rfl (by decide) (v:=pt tb 1) (w':=w) (by simp [go_sem,execOp,Act.eval,zat,hv13]) (zav (j:=14) (by omega)) (DO.quiet fun e he=>by have hm:=mem_listed he;simp [go_sem,execOp,Act.eval,zat,hv13] at hm) (I.pure (by omega) hl' (by omega) (by omega) (by omega))
  | 15,_,ho' =>
    simp only [List.getElem?_toArray,List.getElem?_cons_succ,List.getElem?_cons_zero,Option.some.injEq] at ho';subst ho';have hv12:vS l tb me quit ask gr (w0.heap.size+2) 12=pt (w0.heap.size+2):=za1 I.d12;have hv14:vS l tb me quit ask gr (w0.heap.size+2) 14=pt tb 1:=za1 (hd ⟨14,.data⟩ (by simp) rfl)
    have h15:l.getD 15 false=false:=by
      rw [Array.getD_eq_getD_getElem?,Array.getElem?_eq_getElem (by omega)] at hu ⊢;exact hu
    have hth:=I.thr;rw [h15,if_neg (by simp)] at hth
    have hF:w.cell? ⟨tb,1,none⟩=some z1:=(zaZ w0 w _ hth).trans h1;have hz:w.frozen? ⟨tb,1,none⟩=false:=(zbB w0 w _ hth).trans hz1;have htl:tb<w0.heap.size:=by obtain⟨_,_,_,hb,_⟩:=zaK h1;exact zab hb
    refine⟨_,w.setCell ⟨tb,1,none⟩ (pt (w0.heap.size+2)),_,fun rest=>stepG_none ho (by simp [Region.wanted]) (by decide) (by simp [go_sem,execOp,Act.eval,zat,hv12,hv14,hF,hz]),⟨fun i s c hi hc=>?_,fun b hb h3=>?_,fun h=>absurd rfl h,by rw [zaE];exact Nat.le_refl _,rfl,fun e he=>?_⟩,?_⟩
    . rw [heap_setCell,if_neg (fun (e:tb=c)=>ht.1 i s hi (e ▸ hc))]
    . exact zaZ _ _ _ (by rw [heap_setCell,if_neg (fun (e:tb=b.block)=>ht.2 (e ▸ hb))])
    . have hm:=mem_listed he;simp [go_sem,execOp,Act.eval,zat,hv12,hv14,zbW,storedEv,hF,hz] at hm;subst hm;exact zfZ ht.2 (by obtain⟨_,_,_,hb,_⟩:=zaK hF;exact zab hb)
    . have hne:∀ x,x≠tb->(w.setCell ⟨tb,1,none⟩ (pt (w0.heap.size+2))).heap[x]?=w.heap[x]?:=fun x hx=>by rw [heap_setCell,if_neg (fun (e:tb=x)=>hx e.symm)]
      have hs15:(l.setIfInBounds 15 true).getD 15 false=true:=by
        rw [Array.getD_eq_getD_getElem?,Array.getElem?_setIfInBounds_self_of_lt (by omega)];rfl
      refine⟨by rw [zhw (by omega)];simp [zat,Act.put],⟨I.hask.1,(hne _ (by have:=I.hask.1;omega)).trans I.hask.2⟩,⟨I.hgr.1,(hne _ (by have:=I.hgr.1;omega)).trans I.hgr.2⟩,I.hne,by rw [zaE];exact I.size,fun x hx hx2=>(hne x hx2).trans (I.old x hx hx2),(hne _ (by omega)).trans I.row,?_,?_,?_,?_⟩
      . rw [hs15,if_pos rfl,heap_setCell,heap_setCell,if_pos rfl,if_pos rfl,hth]
      . rw [zan (by omega)];exact I.d5
      . rw [zan (by omega)];exact I.d6
      . rw [zan (by omega)];exact I.d12
end
theorem InvB.same {w0:World} {tb:Nat} {fv:Value} {me:Int} {quit ask gr:Nat} {l:Array Bool} {a:Act} {w w1:World} (I:InvB w0 tb fv me quit ask gr l a w) (h:w1.heap=w.heap):InvB w0 tb fv me quit ask gr l a w1 :=
  ⟨I.act,by rw [h];exact I.hask,by rw [h];exact I.hgr,I.hne,by rw [h];exact I.size,fun x h1 h2=>by rw [h];exact I.old x h1 h2,by rw [h];exact I.row,by rw [h];exact I.thr,I.d5,I.d6,I.d12⟩
section
variable {OB WB:Nat->Prop} {Inb:Nat->Option Seat}
theorem zlE {w0 w:World} {tb:Nat} {fv:Value} {me:Int} {quit ask gr:Nat} (h0:w0.cell? ⟨tb,0,none⟩=some (.int .i64 me)) (h6:w0.cell? ⟨tb,6,none⟩=some (.chan (some quit))) (hW:∀ b,WB b->b<w0.heap.size+3) (hS:∀ i s c,Inb i=some s->s.has c->c<w0.heap.size) (ht:(∀ i s,Inb i=some s->¬ s.has tb)/\¬ WB tb) {z1:Value} (h1:w0.cell? ⟨tb,1,none⟩=some z1) (hz1:w0.frozen? ⟨tb,1,none⟩=false)
    {l:Array Bool} {a:Act} (hl:l.size=16) (I:InvB w0 tb fv me quit ask gr l a w) {fuel t:Nat} (hf:zbS l 16<=fuel) (k:List Item) (cs:List Frame) :
    Conc.Goes Try.prog true (Ro OB 0) (DO OB WB Inb 0) (fun g w'=>∃ l a,g=Go.Conc.G ((base 7).at a (.inRegion startOps3 []::k)) cs/\InvB w0 tb fv me quit ask gr l a w'/\∀ i,i<16->l.getD i false=true) (0+fuel) (Go.Conc.G ((base 7).at a (.inRegion startOps3 (zhf startOps3 fuel t l)::k)) cs) w:=by
  refine zfF (n:=0) (Inv:=InvB w0 tb fv me quit ask gr) (Z:=fun _=>false) zjn (fun l a w w1 I h=>I.same (by rw [h.heap0])) (fun l a w i o fuel t hl ho hu hd hz I hf=>by cases hz) (fun l a w i o hl ho hu hd hz I=>zts h0 h6 hW hS ht h1 hz1 hl ho hu hd I) (fun l a w hl hall I w1 hw1=>?_) fuel t l a w (by rw [zbi];exact hl) (by rw [zbi];exact hf) I
  refine⟨l,a,rfl,I.same (by rw [hw1.heap0]),fun i hi=>?_⟩
  have h:=hall i (by rw [zbi];exact hi)
  rw [zbi] at hl;rw [Array.getD_eq_getD_getElem?,Array.getElem?_eq_getElem (by omega)] at h ⊢
  exact h
end
theorem zfs (P:Program) (w:World) (es:Array Event) (a:Addr) (m:Mode) (x:Option Nat):(store a (.chan x) m).events P w es=storedEv P w es a (.chan x) m:=events_store P w es a _ m rfl
noncomputable def zdG:Code:=cL (cR (cR zbN))
noncomputable def zcG:Code:=cR (cR (cR zbN))
abbrev zaV (tb:Nat) (fv:Value) (dn:Nat) (v u:Nat->Value):Array Value:=#[pt tb,fv,undef,undef,.bool false,pt tb,.bool false,.bool false,pt tb,pt tb,pt tb 5,.bool false,.bool false,.bool false,pt tb,pt tb,pt tb 4,.bool false,.bool false,.bool false,fv,.bool false,.bool false,v 0,v 1,v 2,v 3,v 4,v 5,v 6,v 7,v 8,v 9,v 10,v 11,v 12,v 13,v 14,pt tb,.chan (some dn),pt tb,pt tb 2,pt tb,pt tb,pt tb 4,u 0,u 1,u 2,u 3,u 4,u 5,u 6,u 7,u 8,undef,undef]
section
variable {OB WB:Nat->Prop} {Inb:Nat->Option Seat}
set_option maxRecDepth 100000 in
theorem zl3 {n0:Nat} {w0 w:World} {tb:Nat} {fv:Value} {v:Nat->Value} (hK:KA OB WB Inb n0 w0 w) (ht:(∀ i s,Inb i=some s->¬ s.has tb)/\¬ WB tb) {z2 z4:Value} (h2:w0.cell? ⟨tb,2,none⟩=some z2) (h4:w0.cell? ⟨tb,4,none⟩=some z4) (hz:∀ o,w0.frozen? ⟨tb,o,none⟩=false) (cs:List Frame) :
    Conc.Goes Try.prog true (Ro OB 0) (DO OB WB Inb 0) (fun g w'=>g=Go.Conc.G ((base 7).at ⟨zaV tb fv w0.heap.size v (fun _=>undef),[]⟩ [.code zdG,.code zcG]) cs/\KA OB WB Inb n0 (((w0.alloc (.chan 1 #[] false 0 0 false)).setCell ⟨tb,2,none⟩ (.chan (some w0.heap.size))).setCell ⟨tb,4,none⟩ (.bool true)) w') 60 (Go.Conc.G ((base 7).at ⟨zat tb fv v,[]⟩ [.inRegion startOps3 [],.code zbN]) cs) w:=by
  simp only [zbN,zbD,cOps,cL,cR,Try.f7,Option.getD_some];(refine Conc.Goes.step rfl (fun w₁ h₁=>?_);replace hK:=hK.rely h₁;clear h₁;rw [stepG_region_end];simp only [goes_go];refine⟨DO.none _,?_⟩);(refine Conc.Goes.step rfl (fun w₁ h₁=>?_);replace hK:=hK.rely h₁;clear h₁;rw [stepG_seq];simp only [goes_go];refine⟨DO.none _,?_⟩);(refine Conc.Goes.step rfl (fun w₁ h₁=>?_);replace hK:=hK.rely h₁;clear h₁;rw [stepG_region];simp only [goes_go,List.size_toArray,List.length_cons,List.length_nil,Nat.reduceAdd,Nat.zero_add,List.range,List.range.loop];refine⟨DO.none _,?_⟩);(refine Conc.Goes.step rfl (fun w₁ h₁=>?_);replace hK:=hK.rely h₁;clear h₁;refine goes_oper_k rfl rfl (by decide) (fun K hK'=>?_);go_simp;refine hK' _ _ ⟨DO.quiet (fun e he=>(by have hm:=mem_listed he;simp [go_sem,Instr.makeInterface,Instr.makeFunc] at hm)),?_⟩;clear hK' K)
  have htl:tb<w0.heap.size:=by obtain⟨_,_,_,hb,_⟩:=zaK h2;exact zab hb
  refine Conc.Goes.step rfl (fun w₁ h₁=>?_);replace hK:=hK.rely h₁;clear h₁;refine goes_oper_k rfl rfl (by decide) (fun K hK'=>?_)
  go_simp
  rw [show (Value.int IntKind.i64 1)=.int .i64 ((1:Nat):Int) from rfl,zli rfl rfl (by omega) (by decide)]
  refine hK' _ _ ⟨DO.alloc (fun b hb=>by have:=hK.low b hb;have:=hK.size;rw [hK.heap];omega) (fun e he=>(by rw [zfn (n:=1) rfl rfl rfl rfl (by omega) (by decide)] at he;simp at he)),?_⟩
  clear hK' K;rw [show w₁.heap.size=w0.heap.size by rw [hK.heap]]
  replace hK:=hK.alloc (o:=.chan 1 #[] false 0 0 false);have h2':(w0.alloc (.chan 1 #[] false 0 0 false)).cell? ⟨tb,2,none⟩=some z2:=(zaZ _ _ _ (zaD _ _ _ htl)).trans h2;have h4':(w0.alloc (.chan 1 #[] false 0 0 false)).cell? ⟨tb,4,none⟩=some z4:=(zaZ _ _ _ (zaD _ _ _ htl)).trans h4;have hz':∀ o,(w0.alloc (.chan 1 #[] false 0 0 false)).frozen? ⟨tb,o,none⟩=false:=fun o=>(zbB _ _ _ (zaD _ _ _ htl)).trans (hz o);(refine Conc.Goes.step rfl (fun w₁ h₁=>?_);replace hK:=hK.rely h₁;clear h₁;refine goes_oper_k rfl rfl (by decide) (fun K hK'=>?_);go_simp;refine hK' _ _ ⟨DO.quiet (fun e he=>(by have hm:=mem_listed he;simp [go_sem,Instr.makeInterface,Instr.makeFunc] at hm)),?_⟩;clear hK' K)
  (refine Conc.Goes.step rfl (fun w₁ h₁=>?_);replace hK:=hK.rely h₁;clear h₁;refine goes_oper_k rfl rfl (by decide) (fun K hK'=>?_);go_simp;refine hK' _ _ ⟨DO.quiet (fun e he=>(by have hm:=mem_listed he;simp [go_sem,Instr.makeInterface,Instr.makeFunc] at hm)),?_⟩;clear hK' K);refine Conc.Goes.step rfl (fun w₁ h₁=>?_);replace hK:=hK.rely h₁;clear h₁
  have hc3:=hK.cell h2';have hz3:w₁.frozen? ⟨tb,2,none⟩=false:=(zbB _ _ _ (by rw [hK.heap])).trans (hz' 2)
  refine goes_oper_k rfl rfl (by decide) (fun K hK'=>?_)
  go_simp
  refine hK' _ _ ⟨hK.set_do (.inr ht) (fun e he=>(by have hm:=mem_listed he;simp [go_sem,zfs,storedEv,hc3,hz3] at hm;subst hm;exact zfZ ht.2 (by obtain⟨_,_,_,hb,_⟩:=zaK hc3;exact zab hb))),?_⟩
  clear hK' K hc3 hz3;replace hK:=hK.set (a:=⟨tb,2,none⟩) (v:=.chan (some w0.heap.size));have h4'':((w0.alloc (.chan 1 #[] false 0 0 false)).setCell ⟨tb,2,none⟩ (.chan (some w0.heap.size))).cell? ⟨tb,4,none⟩=some z4:=by rw [za0 _ _ _ _ _ (by decide)];exact h4'
  have hz'':((w0.alloc (.chan 1 #[] false 0 0 false)).setCell ⟨tb,2,none⟩ (.chan (some w0.heap.size))).frozen? ⟨tb,4,none⟩=false:=by
    obtain⟨c,el,fr,hb,_⟩:=zaK h2';have h:=hz' 4;unfold World.frozen? at h ⊢;rw [heap_setCell,if_pos rfl];simp only [hb,Option.map_some] at h ⊢;exact h
  (refine Conc.Goes.step rfl (fun w₁ h₁=>?_);replace hK:=hK.rely h₁;clear h₁;rw [stepG_region_end];simp only [goes_go];refine⟨DO.none _,?_⟩);(refine Conc.Goes.step rfl (fun w₁ h₁=>?_);replace hK:=hK.rely h₁;clear h₁;rw [stepG_seq];simp only [goes_go];refine⟨DO.none _,?_⟩);(refine Conc.Goes.step rfl (fun w₁ h₁=>?_);replace hK:=hK.rely h₁;clear h₁;rw [stepG_region];simp only [goes_go,List.size_toArray,List.length_cons,List.length_nil,Nat.reduceAdd,Nat.zero_add,List.range,List.range.loop];refine⟨DO.none _,?_⟩);(refine Conc.Goes.step rfl (fun w₁ h₁=>?_);replace hK:=hK.rely h₁;clear h₁;refine goes_oper_k rfl rfl (by decide) (fun K hK'=>?_);go_simp;refine hK' _ _ ⟨DO.quiet (fun e he=>(by have hm:=mem_listed he;simp [go_sem,Instr.makeInterface,Instr.makeFunc] at hm)),?_⟩;clear hK' K);(refine Conc.Goes.step rfl (fun w₁ h₁=>?_);replace hK:=hK.rely h₁;clear h₁;refine goes_oper_k rfl rfl (by decide) (fun K hK'=>?_);go_simp;refine hK' _ _ ⟨DO.quiet (fun e he=>(by have hm:=mem_listed he;simp [go_sem,Instr.makeInterface,Instr.makeFunc] at hm)),?_⟩;clear hK' K);(refine Conc.Goes.step rfl (fun w₁ h₁=>?_);replace hK:=hK.rely h₁;clear h₁;refine goes_oper_k rfl rfl (by decide) (fun K hK'=>?_);go_simp;refine hK' _ _ ⟨DO.quiet (fun e he=>(by have hm:=mem_listed he;simp [go_sem,Instr.makeInterface,Instr.makeFunc] at hm)),?_⟩;clear hK' K);refine Conc.Goes.step rfl (fun w₁ h₁=>?_);replace hK:=hK.rely h₁;clear h₁
  have hc3:=hK.cell h4'';have hz3:w₁.frozen? ⟨tb,4,none⟩=false:=(zbB _ _ _ (by rw [hK.heap])).trans hz''
  refine goes_oper_k rfl rfl (by decide) (fun K hK'=>?_)
  go_simp
  refine hK' _ _ ⟨hK.set_do (.inr ht) (fun e he=>(by have hm:=mem_listed he;simp [go_sem,zbK,storedEv,hc3,hz3] at hm;subst hm;exact zfZ ht.2 (by obtain⟨_,_,_,hb,_⟩:=zaK hc3;exact zab hb))),?_⟩
  clear hK' K hc3 hz3;replace hK:=hK.set (a:=⟨tb,4,none⟩) (v:=.bool true);(refine Conc.Goes.step rfl (fun w₁ h₁=>?_);replace hK:=hK.rely h₁;clear h₁;rw [stepG_region_end];simp only [goes_go];refine⟨DO.none _,?_⟩);(refine Conc.Goes.step rfl (fun w₁ h₁=>?_);replace hK:=hK.rely h₁;clear h₁;rw [stepG_seq];simp only [goes_go];refine⟨DO.none _,?_⟩);exact Conc.Goes.stop (fun w₁ h₁=>⟨by simp only [zdG,zcG,zbN,zbD,cOps,cL,cR,Try.f7,Option.getD_some],hK.rely h₁⟩)
end
def Closed (ops:Array Oper) (l:Array Bool):Prop:=∀ i o,ops[i]?=some o->l.getD i false=true->∀ e∈o.after,Region.binds .any e=true->l.getD e.on false=true
theorem Closed.set {ops:Array Oper} {l:Array Bool} (h:Closed ops l) {i:Nat} {o:Oper} (ho:ops[i]?=some o) (hd:∀ e∈o.after,Region.binds .any e=true->l.getD e.on false=true):Closed ops (l.setIfInBounds i true):=fun j oj hj hl e he hb=>by
  have key:l.getD e.on false=true:=by
    by_cases z:j=i
    . subst z;rw [ho] at hj;cases hj;exact hd e he hb
    . rw [zan z] at hl;exact h j oj hj hl e he hb
  by_cases z:e.on=i
  . rw [z,Array.getD_eq_getD_getElem?];have hlt:i<l.size:=by
      apply Nat.lt_of_not_le;intro hn;rw [z,Array.getD_eq_getD_getElem?,Array.getElem?_eq_none hn] at key;cases key
    rw [Array.getElem?_setIfInBounds_self_of_lt hlt];rfl
  . rw [zan z];exact key
theorem zna {ops:Array Oper} {l:Array Bool} (h:∀ i,i<ops.size->l.getD i true=true):∀ fuel t,zhf ops fuel t l=[]
  | 0,t=>rfl
  | fuel+1,t=>by
    have hr:Region.ready .any ops l=[]:=by
      rw [List.eq_nil_iff_forall_not_mem];intro i hi;obtain⟨hu,o,ho,_⟩:=mem_ready.1 hi;rw [h i (Array.getElem?_eq_some_iff.1 ho).1] at hu;cases hu
    unfold zhf;simp only [Region.linearise.go];change (match (Region.ready .any ops l)[t % (Region.ready .any ops l).length]? with
        | some i=>Region.linearise.go .any ops fuel (t / (Region.ready .any ops l).length) (l.setIfInBounds i true) [i]
        | none=>[].reverse)=[]
    rw [hr];rfl
noncomputable def startOps6:Array Oper:=cOps zdG
set_option maxRecDepth 100000 in
theorem zmh:zdG=.region 6 startOps6 true:=by
  simp only [startOps6,zdG,zbN,zbD,cOps,cL,cR,Try.f7,Option.getD_some]
theorem znL:zpK startOps6=true:=by kernel_rfl
theorem zbO:startOps6.size=10:=by kernel_rfl
def valC (tb:Nat) (fv:Value) (wb dn:Nat):Nat->Value
  | 0=>fv
  | 1|2|5|6=>pt tb
  | 3=>pt tb 1
  | 4=>pt wb
  | 7=>pt tb 2
  | 8=>.chan (some dn)
  | _=>undef
def uS (l:Array Bool) (tb:Nat) (fv:Value) (wb dn:Nat) (j:Nat):Value:=if l.getD j false=true then valC tb fv wb dn j else undef
theorem zeP {l:Array Bool} {tb:Nat} {fv:Value} {wb dn j:Nat} (h:l.getD j false=true):uS l tb fv wb dn j=valC tb fv wb dn j:=if_pos h
theorem zfi {l:Array Bool} {tb:Nat} {fv:Value} {wb dn j:Nat} (hj:j<l.size):uS (l.setIfInBounds j true) tb fv wb dn=fun i=>if i=j then valC tb fv wb dn j else uS l tb fv wb dn i:=by
  funext i;unfold uS;by_cases e:i=j
  . subst e;rw [if_pos rfl,if_pos];rw [Array.getD_eq_getD_getElem?,Array.getElem?_setIfInBounds_self_of_lt hj];rfl
  . rw [zan e,if_neg e]
theorem zbt {tb dn:Nat} {fv x:Value} {v u:Nat->Value}:∀ {j:Nat},j<9->(⟨zaV tb fv dn v u,[]⟩:Act).put (some (45+j)) x=⟨zaV tb fv dn v (fun i=>if i=j then x else u i),[]⟩
  | 0,_|1,_|2,_|3,_|4,_|5,_|6,_|7,_|8,_=>by simp [Act.put,zaV]
  | j+9,h=>absurd h (by omega)
structure InvG (w0:World) (tb:Nat) (fv:Value) (wb dn:Nat) (v:Nat->Value) (l:Array Bool) (a:Act) (w:World):Prop where
  act:a=⟨zaV tb fv dn v (uS l tb fv wb dn),[]⟩
  heap:w.heap=w0.heap
  closed:Closed startOps6 l
theorem InvG.cell {w0:World} {tb:Nat} {fv:Value} {wb dn:Nat} {v:Nat->Value} {l:Array Bool} {a:Act} {w:World} (I:InvG w0 tb fv wb dn v l a w) {x:Addr} {y:Value} (h:w0.cell? x=some y):w.cell? x=some y:=(zaZ w0 w x (by rw [I.heap])).trans h
section
variable {OB WB:Nat->Prop} {Inb:Nat->Option Seat}
set_option maxRecDepth 100000 in
theorem ztx {w0:World} {tb:Nat} {fv:Value} {wb dn:Nat} {v:Nat->Value} (h1:w0.cell? ⟨tb,1,none⟩=some (pt wb)) (h2:w0.cell? ⟨tb,2,none⟩=some (.chan (some dn))) {k:List Item} {cs:List Frame}
    {l:Array Bool} {a:Act} {w:World} {i:Nat} {o:Oper} (hl:l.size=startOps6.size) (ho:startOps6[i]?=some o) (hd:∀ e∈o.after,Region.binds .any e=true->l.getD e.on false=true) (hz:(i==9)=false) (I:InvG w0 tb fv wb dn v l a w) :
    ∃ a' w' es,(∀ rest,stepG Try.prog true (Go.Conc.G ((base 7).at a (.inRegion startOps6 (i::rest)::k)) cs) w=.go (Go.Conc.G ((base 7).at a' (.inRegion startOps6 rest::k)) cs) w' es)/\DO OB WB Inb 0 w w' es/\InvG w0 tb fv wb dn v (l.setIfInBounds i true) a' w':=by
  have hlt:i<10:=by rw [<-zbO];exact (Array.getElem?_eq_some_iff.1 ho).1
  have hl':l.size=10:=by rw [hl,zbO]
  have hcl:Closed startOps6 (l.setIfInBounds i true):=I.closed.set ho hd;obtain rfl:=I.act;have ho':=ho;simp only [startOps6,zdG,zbN,zbD,cOps,cL,cR,Try.f7,Option.getD_some] at ho'
  match i,hlt,ho' with
  | 0,_,ho' =>
    simp only [List.getElem?_toArray,List.getElem?_cons_succ,List.getElem?_cons_zero,Option.some.injEq] at ho';subst ho';exact zbM ho rfl (by decide) (v:=fv) (w':=w) (by simp [go_sem,execOp,Act.eval,zaV]) (zbt (j:=0) (by omega)) (DO.quiet fun e he=>by have hm:=mem_listed he;simp [go_sem,execOp,Act.eval,zaV] at hm) ⟨by rw [zfi (by omega)];rfl,I.heap,hcl⟩
  | 1,_,ho' =>
    simp only [List.getElem?_toArray,List.getElem?_cons_succ,List.getElem?_cons_zero,Option.some.injEq] at ho';subst ho';exact zbM ho rfl (by decide) (v:=pt tb) (w':=w) (by simp [go_sem,execOp,Act.eval,zaV]) (zbt (j:=1) (by omega)) (DO.quiet fun e he=>by have hm:=mem_listed he;simp [go_sem,execOp,Act.eval,zaV] at hm) ⟨by rw [zfi (by omega)];rfl,I.heap,hcl⟩
  | 2,_,ho' =>
    simp only [List.getElem?_toArray,List.getElem?_cons_succ,List.getElem?_cons_zero,Option.some.injEq] at ho';subst ho';have hv1:uS l tb fv wb dn 1=pt tb:=zeP (hd ⟨1,.data⟩ (by simp) rfl)
    exact zbM ho rfl (by decide) (v:=pt tb) (w':=w) (by simp [go_sem,execOp,Act.eval,zaV,hv1]) (zbt (j:=2) (by omega)) (DO.quiet fun e he=>by have hm:=mem_listed he;simp [go_sem,execOp,Act.eval,zaV,hv1] at hm) ⟨by rw [zfi (by omega)];rfl,I.heap,hcl⟩
  | 3,_,ho' =>
    simp only [List.getElem?_toArray,List.getElem?_cons_succ,List.getElem?_cons_zero,Option.some.injEq] at ho';subst ho';have hv2:uS l tb fv wb dn 2=pt tb:=zeP (hd ⟨2,.data⟩ (by simp) rfl)
    exact zbM ho rfl (by decide) (v:=pt tb 1) (w':=w) (by simp [go_sem,execOp,Act.eval,zaV,hv2]) (zbt (j:=3) (by omega)) (DO.quiet fun e he=>by have hm:=mem_listed he;simp [go_sem,execOp,Act.eval,zaV,hv2] at hm) ⟨by rw [zfi (by omega)];rfl,I.heap,hcl⟩
  | 4,_,ho' =>
    simp only [List.getElem?_toArray,List.getElem?_cons_succ,List.getElem?_cons_zero,Option.some.injEq] at ho';subst ho';have hv3:uS l tb fv wb dn 3=pt tb 1:=zeP (hd ⟨3,.data⟩ (by simp) rfl)
    have hF:=I.cell h1;exact zbM ho rfl (by decide) (v:=pt wb) (w':=w) (by simp [go_sem,execOp,Act.eval,zaV,hv3,hF]) (zbt (j:=4) (by omega)) (DO.quiet fun e he=>by have hm:=mem_listed he;simp [go_sem,execOp,Act.eval,zaV,hv3,hF] at hm;subst hm;exact zby hF) ⟨by rw [zfi (by omega)];rfl,I.heap,hcl⟩
  | 5,_,ho' =>
    simp only [List.getElem?_toArray,List.getElem?_cons_succ,List.getElem?_cons_zero,Option.some.injEq] at ho';subst ho';exact zbM ho rfl (by decide) (v:=pt tb) (w':=w) (by simp [go_sem,execOp,Act.eval,zaV]) (zbt (j:=5) (by omega)) (DO.quiet fun e he=>by have hm:=mem_listed he;simp [go_sem,execOp,Act.eval,zaV] at hm) ⟨by rw [zfi (by omega)];rfl,I.heap,hcl⟩
  | 6,_,ho' =>
    simp only [List.getElem?_toArray,List.getElem?_cons_succ,List.getElem?_cons_zero,Option.some.injEq] at ho';subst ho';have hv5:uS l tb fv wb dn 5=pt tb:=zeP (hd ⟨5,.data⟩ (by simp) rfl)
    exact zbM ho rfl (by decide) (v:=pt tb) (w':=w) (by simp [go_sem,execOp,Act.eval,zaV,hv5]) (zbt (j:=6) (by omega)) (DO.quiet fun e he=>by have hm:=mem_listed he;simp [go_sem,execOp,Act.eval,zaV,hv5] at hm) ⟨by rw [zfi (by omega)];rfl,I.heap,hcl⟩
  | 7,_,ho' =>
    simp only [List.getElem?_toArray,List.getElem?_cons_succ,List.getElem?_cons_zero,Option.some.injEq] at ho';subst ho';have hv6:uS l tb fv wb dn 6=pt tb:=zeP (hd ⟨6,.data⟩ (by simp) rfl)
    exact zbM ho rfl (by decide) (v:=pt tb 2) (w':=w) (by simp [go_sem,execOp,Act.eval,zaV,hv6]) (zbt (j:=7) (by omega)) (DO.quiet fun e he=>by have hm:=mem_listed he;simp [go_sem,execOp,Act.eval,zaV,hv6] at hm) ⟨by rw [zfi (by omega)];rfl,I.heap,hcl⟩
  | 8,_,ho' =>
    simp only [List.getElem?_toArray,List.getElem?_cons_succ,List.getElem?_cons_zero,Option.some.injEq] at ho';subst ho';have hv7:uS l tb fv wb dn 7=pt tb 2:=zeP (hd ⟨7,.data⟩ (by simp) rfl)
    have hF:=I.cell h2;exact zbM ho rfl (by decide) (v:=.chan (some dn)) (w':=w) (by simp [go_sem,execOp,Act.eval,zaV,hv7,hF]) (zbt (j:=8) (by omega)) (DO.quiet fun e he=>by have hm:=mem_listed he;simp [go_sem,execOp,Act.eval,zaV,hv7,hF] at hm;subst hm;exact zby hF) ⟨by rw [zfi (by omega)];rfl,I.heap,hcl⟩
  | 9,_,_=>exact absurd hz (by decide)
end
end Go.Proofs.Ytgndgbnhkoppmaa
