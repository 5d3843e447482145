/- Laws. -/
import Derived.Test.YtgndgbnhkoppmaaUCo6
import Derived.Test.YtgndgbnhkoppmaaUAx1
import Derived.Conc.TokenWords
set_option maxHeartbeats 40000000
set_option linter.unusedVariables false
set_option linter.unusedSimpArgs false
namespace Go.Proofs.Ytgndgbnhkoppmaa
open Go Go.Conc
open Go.ConcN (sumTo upd sumTo_upd upd_ne upd_same)
section
variable {P:Program} {OB WB:Nat->Prop} {B:Nat} {Iv:Nat->World->Prop} {K:Trace->Nat->Prop} {Mem Lo:Nat->Prop} {Inb:Nat->Option Seat} {Sp Dead:Nat->Prop} {T:Trace} {gs:Array Goroutine} {w:World} {q:Nat->Nat} {h j c kk kh:Nat}
def znh (P:Program) (OB WB:Nat->Prop) (B:Nat) (Iv:Nat->World->Prop) (Mem:Nat->Prop) (Inb:Nat->Option Seat) (j c k m:Nat) (T:Trace) (gs:Array Goroutine) (w:World) (q:Nat->Nat):Prop :=
  CoF P OB WB B Iv (fun t i=>Before t i m) Mem (fun g=>(Inb g).isSome) Inb (fun _=>False) (·=j) T gs w q/\SentAt c k m T
def zss (P:Program) (OB WB:Nat->Prop) (B:Nat) (Iv:Nat->World->Prop) (Mem:Nat->Prop) (Inb:Nat->Option Seat) (j:Nat) (s:Seat) (c cap kk n:Nat) (w0:World) (v:Value) (mm:Machine) (t:Trace):Prop :=
  ∃ (gs':Array Goroutine) (gq:Goroutine) (w1:World) (k:Nat) (sl':Option (Nat × Nat)) (q':Nat->Nat),mm=crowd gs' (w1.setChan c cap #[] false (k+1) (k+1) false) sl'/\gs'.size=n/\gs'[j]?=some (gq.finishComm P s.cases s.shape kk v true)/\s.home gq/\SideD OB w0 w1/\Iv j w1/\c<w1.heap.size /\
    RingO P OB WB B Iv Mem Inb j t gs' (w1.setChan c cap #[] false (k+1) (k+1) false) q'
theorem zrs {m k cap:Nat} {z v:Value} {s:Seat} (hj:Inb j=some s) (hk:s.cases[kk]?=some (rcase c z)) (hWc:¬ WB c) (w0:World) (hoth:∀ c',s.has c'->c'≠c->∃ cap' k',w0.heap[c']?=some (.chan cap' #[] false k' k' false)) :
    ∀ (n:Nat) {T:Trace} {gs:Array Goroutine} {w:World} {q:Nat->Nat} {sl:Option (Nat × Nat)},n=sumTo gs.size q->j<gs.size->SideD OB w0 w->w.heap[c]?=some (.chan cap #[v] false (k+1) k false)->znh P OB WB B Iv Mem Inb j c k m T gs w q ->
      Reach P (crowd gs w sl) T (zss P OB WB B Iv Mem Inb j s c cap kk gs.size w0 v):=by
  intro n
  induction n using Nat.strongRecOn with
  | _ n ih =>
    intro T gs w q sl hn hjlt hw0 hbuf Fl;obtain⟨C,sa⟩:=Fl;have hsc:s.has c:=⟨kk,z,hk⟩;have hwf:=C.wf j s hj;obtain⟨hMj,hcB'⟩:=C.mem j s hj;have hcB:=hcB' c hsc;have hfar:=C.far j s c hj hsc;obtain⟨gj,hgj⟩:∃ gj,gs[j]?=some gj:=⟨gs[j]'(by omega),Array.getElem?_eq_getElem (by omega)⟩
    have hjr:=C.live j gj rfl hgj;obtain⟨i,g,d,sl',hi,hg,hst⟩:=crowd_pick (P:=P) (w:=w) (sl:=sl) (CoF.awake C fun x g hx _=>hx.elim) ⟨j,gj,hgj,hjr⟩;have Cd:=CoF.at C d;have hwd:SideD OB w0 (w.at d):=hw0.trans (SideD.at w d);have hbufd:(w.at d).heap[c]?=some (.chan cap #[v] false (k+1) k false):=hbuf;by_cases ej:i=j/\∃ gq,AtS P s g gq
    . obtain⟨rfl,gq,hat⟩:=ej;have hSj:SitsO P OB WB B Iv i s (q i) g (w.at d):=by have:=Cd.idle i g (fun z=>z) hi;rwa [hj] at this
      have hivj:=hSj.at_iv hat;obtain⟨_,_,_,_,hhome,hstp⟩:=hat;have hp:partners (gs.setIfInBounds i ph) c true=[]:=partners_nil fun x y hy=>by
        rcases getElem?_stand gs i x y hy with ⟨_,rfl⟩|⟨_,hy'⟩
        . exact offersAt_ph _ _
        . exact CoF.noSend Cd (fun z=>z) hy' _
      have hopen:∀ c',s.has c'->c'≠c->∃ cap' k',(w.at d).heap[c']?=some (.chan cap' #[] false k' k' false):=fun c' h1 h2=>by
        obtain⟨cap',k',h3⟩:=hoth c' h1 h2;exact⟨cap',k',by rw [hwd.only c' (C.far i s c' hj h1)];exact h3⟩
      have ho:∀ (m':Nat) (c':CommCase),m'≠kk->s.cases[m']?=some c'->NoWays (w.at d) (gs.setIfInBounds i ph) c':=by
        intro m' c' hm hc';obtain⟨cq,zq,rfl⟩:=hwf.recvs c' (Array.mem_of_getElem? hc');have hne:cq≠c:=fun ec=>hm (hwf.apart m' kk c zq z (ec ▸ hc') hk);obtain⟨capq,kx,hcq⟩:=hopen cq ⟨m',zq,hc'⟩ hne;refine ways_recv_none (w₁:=w.at d) hcq (partners_nil fun x y hy=>?_);rcases getElem?_stand gs i x y hy with ⟨_,rfl⟩|⟨_,hy'⟩
        . exact offersAt_ph _ _
        . exact CoF.noSend Cd (fun z=>z) hy' _
      have hstep:=crowd_sel_recv_buf (sl:=sl') hi (hstp (i==0) (w.at d)) hk ho hbufd (by simp) hp
      rw [show (#[v]:Array Value).extract 1 (#[v]:Array Value).size=#[] by simp,show MemOp.ofEvents i g.frame.fn g.frame.place #[]=#[] from rfl,Array.empty_append] at hstep
      have p2:=PastO.takeSent C.past sa.1 sa.2 hMj gq.frame.fn gq.frame.place cap hcB;have hall:∀ op∈(#[{ g:=i,fn:=gq.frame.fn,pos:=gq.frame.place,act:=.recv c k cap },{ g:=i,fn:=gq.frame.fn,pos:=gq.frame.place,act:=.recvDone c k }]:Trace),op.g=i:=by
        intro op hop;simp only [List.mem_toArray,List.mem_cons,List.not_mem_nil,or_false] at hop;rcases hop with rfl|rfl<;>rfl
      refine .head (by rw [hst];exact hstep) (.here ⟨_,gq,w.at d,k,sl',q,rfl,by simp,by rw [Array.getElem?_setIfInBounds_self_of_lt (by omega)];rfl,hhome,hwd,hivj,(Array.getElem?_eq_some_iff.1 hbuf).1,?_⟩)
      refine⟨fun x y hx hy=>?_,fun x s' c' _ e hc'=>?_,Cd.far,Cd.wf,fun _ _ z=>z.elim,Cd.inj,fun x hx=>?_,Cd.mem,fun x hM=>(Cd.nomem x hM).imp id fun z=>z.elim,fun x s' hx e=>⟨hx,by rw [e];rfl⟩,p2.fewer (fun g hg=>hg) fun g ⟨hs,hg⟩=>⟨hg,hs⟩,Cd.apart,Cd.ivst,by simpa [World.setChan] using Cd.lowB⟩
      . rw [Array.getElem?_setIfInBounds_ne (fun z=>hx z.symm)] at hy;have hid:=Cd.idle x y (fun z=>z) hy;cases e:Inb x with
        | none=>rw [e] at hid;exact⟨hid.1,by rw [Deaf_other T (fun z=>hx z.symm) _ hall];exact hid.2⟩
        | some s'=>rw [e] at hid;exact SitsO.rely C.ivst hid (zes hfar hWc _ _ _ _ _ _)
      . by_cases ec:c=c'
        . exact⟨cap,k+1,by rw [<-ec];exact heap_setChan_self (w.at d) hbufd _ _ _ _ _ _⟩
        . rw [heap_setChan_ne _ _ _ _ _ _ _ ec];by_cases ex:x=i
          . subst ex;rw [hj] at e;obtain rfl:=Option.some.inj e;exact hopen c' hc' (fun z=>ec z.symm)
          . exact Cd.chans x s' c' ex e hc'
      . simp only [Array.size_setIfInBounds] at hx;rw [Deaf_other T (g':=i) (by omega) _ hall]
        exact Cd.above x hx
    . obtain⟨gs',ops,q',w',hrt,hsz',_,hS,hw0',_,_,C',hlt⟩:=CoF.by_step (sl:=sl') (fun t u i=>Before.app u) Cd hi (fun z=>z) hg (fun _ _ _ z=>z.elim) (fun hD=>by subst hD;rw [hj];simp)
        (fun s' gq hs' hat=>⟨fun hD=>by subst hD;rw [hj] at hs';obtain rfl:=Option.some.inj hs';exact ej ⟨rfl,gq,hat⟩,fun _ _ _ z=>z.elim⟩)
      have:=ih (sumTo gs'.size q') (by rw [hsz',hn];exact hlt) (sl:=sl') rfl (by omega) (hwd.trans hS.d) (by rw [hS.only c hfar];exact hbuf) ⟨C',sa.app ops⟩
      rw [hsz'] at this;exact .head (ho:=by exact .side hS.rest) (by rw [hst];exact hrt) this
end
structure zsN (OB:Nat->Prop) (c:Nat) (w w':World):Prop where
  only:∀ b,¬ OB b->b≠c->w'.heap[b]?=w.heap[b]?
  size:w'.heap.size=w.heap.size
  rest:w'={ w with heap:=w'.heap,drawn:=w'.drawn }
theorem SideD.c {OB:Nat->Prop} {w w':World} (h:SideD OB w w') (c:Nat):zsN OB c w w':=⟨fun b h1 _=>h.only b h1,h.size,h.rest⟩
section
variable {P:Program} {OB WB:Nat->Prop} {B:Nat} {Iv:Nat->World->Prop} {K:Trace->Nat->Prop} {Mem Lo:Nat->Prop} {Inb:Nat->Option Seat} {Sp Dead:Nat->Prop} {T:Trace} {gs:Array Goroutine} {w:World} {q:Nat->Nat} {h j c kk kh:Nat}
def zsv (P:Program) (OB WB:Nat->Prop) (B:Nat) (Iv:Nat->World->Prop) (Mem:Nat->Prop) (Inb:Nat->Option Seat) (j:Nat) (s:Seat) (c cap kk n:Nat) (w0:World) (v:Value) (mm:Machine) (t:Trace):Prop :=
  ∃ (gs':Array Goroutine) (gq:Goroutine) (w1:World) (k:Nat) (sl':Option (Nat × Nat)) (q':Nat->Nat),mm=crowd gs' (w1.setChan c cap #[] false (k+1) (k+1) false) sl'/\gs'.size=n/\gs'[j]?=some (gq.finishComm P s.cases s.shape kk v true)/\s.home gq/\zsN OB c w0 w1/\Iv j w1/\c<w1.heap.size /\
    RingO P OB WB B Iv Mem Inb j t gs' (w1.setChan c cap #[] false (k+1) (k+1) false) q'
theorem zr8 {a aq:Goroutine} {cap:Nat} {s:Seat} {v z z':Value} (hcap:0<cap) (hjh:j≠h) (hj:Inb j=some s) (hk:s.cases[kk]?=some (rcase c z)) (hMh:Mem h) (hrun:a.status=.running) (hWc:¬ WB c)
    (hcomm:∀ main w,stepG P main a w=.comm aq #[scase c v z'] true .send w) {nh:Nat} (h0:0<h) (hafter:QuitsD P nh 0 (aq.finishComm P #[scase c v z'] .send 0 undef false)) (w0:World) :
    ∀ (n:Nat) {T:Trace} {gs:Array Goroutine} {w:World} {q:Nat->Nat} {sl:Option (Nat × Nat)} {k:Nat},n=sumTo gs.size q->j<gs.size->SideD OB w0 w->w.heap[c]?=some (.chan cap #[] false k k false)->gs[h]?=some a->RingO P OB WB B Iv Mem Inb h T gs w q ->
      Reach P (crowd gs w sl) T (zsv P OB WB B Iv (fun g=>Mem g/\g≠h/\Inb g≠none) (fun i=>if i=h then none else Inb i) j s c cap kk gs.size w0 v):=by
  intro n
  induction n using Nat.strongRecOn with
  | _ n ih =>
    intro T gs w q sl k hn hjlt hw0 hc ha C;have hsc:s.has c:=⟨kk,z,hk⟩;have hwf:=C.wf j s hj;obtain⟨hMj,hcB'⟩:=C.mem j s hj;have hcB:=hcB' c hsc;have hfar:=C.far j s c hj hsc;have hu:∀ (m:Nat) (cc:CommCase),m≠kk->s.cases[m]?=some cc->cc.chan≠.chan (some c):=by
      intro m cc hm hcc ec;obtain⟨cq,zq,rfl⟩:=hwf.recvs cc (Array.mem_of_getElem? hcc);simp only [rcase,Value.chan.injEq,Option.some.injEq] at ec;subst ec;exact hm (hwf.apart m kk _ _ _ hcc hk)
    obtain⟨gj,hgj⟩:∃ gj,gs[j]?=some gj:=⟨gs[j]'(by omega),Array.getElem?_eq_getElem (by omega)⟩
    have hlth:h<gs.size:=(Array.getElem?_eq_some_iff.1 ha).1;have hSj:SitsO P OB WB B Iv j s (q j) gj w:=by have:=C.idle j gj hjh hgj;rwa [hj] at this
    obtain⟨i,g,d,sl',hi,hg,hst⟩:=crowd_pick (P:=P) (w:=w) (sl:=sl) (CoF.awake C fun x g hx hgx=>by subst hx;rw [ha] at hgx;obtain rfl:=Option.some.inj hgx;exact .inl hrun) ⟨h,a,ha,hrun⟩
    have Cd:RingO P OB WB B Iv Mem Inb h T gs (w.at d) q:=CoF.at C d;have hcd:(w.at d).heap[c]?=some (.chan cap #[] false k k false):=hc;have hwd:SideD OB w0 (w.at d):=hw0.trans (SideD.at w d);by_cases e:i=h
    . subst e;obtain rfl:g=a:=by rw [ha] at hi;exact (Option.some.inj hi).symm
      have hI:∀ x,x≠i->(fun y=>if y=i then none else Inb y) x=Inb x:=fun x hx=>if_neg hx
      have hIi:(fun y=>if y=i then none else Inb y) i=none:=if_pos rfl
      have hoff:∀ (x:Nat) (y:Goroutine),x≠j->(gs.setIfInBounds i ph)[x]?=some y->offersAt y c false=[]:=by
        intro x y hxj hy;rcases getElem?_stand gs i x y hy with ⟨_,rfl⟩|⟨hx,hy'⟩
        . exact offersAt_ph _ _
        . exact CoF.noRecvAt Cd hx hy' fun s' hs' hc'=>hxj (C.inj x j s' s c hs' hj hc' hsc)
      rcases hSj with ⟨kq,hq,hG⟩|⟨hq0,⟨gy,gq,rfl,hat⟩,hivj⟩
      . -- j is on its way: into the buffer
        have hSj':SitsO P OB WB B Iv j s (q j) gj w:=.inl ⟨kq,hq,hG⟩;have hjr:gj.status=.running:=(SitsO.status hSj').elim (·.1) (fun z=>by omega)
        have hp:partners (gs.setIfInBounds i ph) c false=[]:=partners_nil fun x y hy=>by
          by_cases hxj:x=j
          . subst hxj;rw [stand_get hjh hgj] at hy;obtain rfl:=Option.some.inj hy;exact offersAt_of_not_blocked (by rw [hjr];simp) _ _
          . exact hoff x y hxj hy
        have hsend:=crowd_send_room (sl:=sl') hi (hcomm (i==0) (w.at d)) hcd (by simpa using hcap) hp
        rw [show MemOp.ofEvents i g.frame.fn g.frame.place #[]=#[] from rfl,Array.empty_append,show (#[]:Array Value).push v=#[v] from rfl] at hsend
        refine .head (by rw [hst];exact hsend) ?_
        have hops:∀ op∈(#[{ g:=i,fn:=aq.frame.fn,pos:=aq.frame.place,act:=.send c k },{ g:=i,fn:=aq.frame.fn,pos:=aq.frame.place,act:=.sendDone c k }]:Trace),op.g=i:=by
          intro op hop;simp only [List.mem_toArray,List.mem_cons,List.not_mem_nil,or_false] at hop;rcases hop with rfl|rfl<;>rfl
        have hq0:∀ x,Deaf (T++#[{ g:=i,fn:=aq.frame.fn,pos:=aq.frame.place,act:=.send c k },{ g:=i,fn:=aq.frame.fn,pos:=aq.frame.place,act:=.sendDone c k }]) x=Deaf T x:=fun x=>Deaf_quiet fun op hop dd=>by
          simp only [List.mem_toArray,List.mem_cons,List.not_mem_nil,or_false] at hop;rcases hop with rfl|rfl<;>rfl
        generalize hu2:(#[{ g:=i,fn:=aq.frame.fn,pos:=aq.frame.place,act:=.send c k },{ g:=i,fn:=aq.frame.fn,pos:=aq.frame.place,act:=.sendDone c k }]:Trace)=u at hops hq0 ⊢;have e0:(T++u)[T.size]?=some { g:=i,fn:=aq.frame.fn,pos:=aq.frame.place,act:=.send c k }:=by subst hu2;simp
        have p1:PastO (ownL OB) (zcf WB) (fun g=>Mem g/\g≠i/\Inb g≠none) (fun g=>((fun y=>if y=i then none else Inb y) g).isSome) B (fun x=>Before (T++u) x T.size) (T++u):=by
          refine C.past.mute (fun x hx=>.inr (hx.hb_new (Nat.le_refl _) e0 rfl)) (fun x gg hg hl=>.inr ?_) (fun op hop=>?_) (fun gg hgg x hx=>(hx gg hgg.1).app _) (fun gg hgg=>by rw [hq0];exact C.past.hears gg hgg.1) (fun op hop=>?_)
          . show (if gg=i then none else Inb gg).isSome=true
            rw [if_neg hl.1];exact hl.2
          . subst hu2;simp only [List.mem_toArray,List.mem_cons,List.not_mem_nil,or_false] at hop;rcases hop with rfl|rfl<;>rfl
          . subst hu2;simp only [List.mem_toArray,List.mem_cons,List.not_mem_nil,or_false] at hop;rcases hop with rfl|rfl<;>exact hcB
        have sa:SentAt c k T.size (T++u):=⟨by simp [Trace.act?,e0],i,g?_of e0,by rw [deaf_old (Nat.le_refl _)];exact C.past.hears i hMh⟩
        have hI':∀ x s',(if x=i then none else Inb x)=some s'->x≠i/\Inb x=some s':=fun x s' e=>by
          by_cases hx:x=i
          . rw [if_pos hx] at e;cases e
          . rw [if_neg hx] at e;exact⟨hx,e⟩
        have Fl:znh P OB WB B Iv (fun g=>Mem g/\g≠i/\Inb g≠none) (fun y=>if y=i then none else Inb y) j c k T.size (T++u) (gs.setIfInBounds i (aq.finishComm P #[scase c v z'] .send 0 undef false)) ((w.at d).setChan c cap #[v] false (k+1) k false) (upd q i nh):=by
          refine⟨⟨fun x y _ hy=>?_,fun x s' c' hD ee hc'=>?_,fun x s' c' ee=>Cd.far x s' c' (hI' x s' ee).2,fun x s' ee=>Cd.wf x s' (hI' x s' ee).2,fun x y hx hy=>?_,fun x x' sx sv c' eq ez=>Cd.inj x x' sx sv c' (hI' x sx eq).2 (hI' x' sv ez).2,fun x hx=>?_,
            fun x s' ee=>⟨⟨(Cd.mem x s' (hI' x s' ee).2).1,(hI' x s' ee).1,by rw [(hI' x s' ee).2];simp⟩,(Cd.mem x s' (hI' x s' ee).2).2⟩,fun x hM=>.inl ?_,fun x s' _ ee=>?_,p1,Cd.apart,Cd.ivst,by simpa [World.setChan] using Cd.lowB⟩,sa⟩
          . show zgZ P OB WB B Iv (T++u) x (upd q i nh x) y _ (if x=i then none else Inb x)
            by_cases ex:x=i
            . subst ex;rw [Array.getElem?_setIfInBounds_self_of_lt hlth] at hy;obtain rfl:=Option.some.inj hy;rw [upd_same,if_pos rfl];exact⟨h0,by rw [hq0,C.past.hears x hMh];exact hafter⟩
            . rw [Array.getElem?_setIfInBounds_ne (fun z=>ex z.symm)] at hy;rw [upd_ne q nh ex,if_neg ex];have hid:=Cd.idle x y ex hy;cases es:Inb x with
              | none=>rw [es] at hid;exact⟨hid.1,by rw [hq0];exact hid.2⟩
              | some s'=>rw [es] at hid;exact SitsO.rely Cd.ivst hid (zes hfar hWc _ _ _ _ _ _)
          . obtain⟨h1,h2⟩:=hI' x s' ee;have hne:c≠c':=fun ec=>hD (C.inj x j s' s c h2 hj (ec ▸ hc') hsc);obtain⟨cap',k',hk'⟩:=Cd.chans x s' c' (fun z=>z) h2 hc';exact⟨cap',k',by rw [heap_setChan_ne _ _ _ _ _ _ _ hne];exact hk'⟩
          . subst hx;rw [Array.getElem?_setIfInBounds_ne (fun z=>hjh z.symm),hgj] at hy;obtain rfl:=Option.some.inj hy;exact hjr
          . rw [hq0];exact Cd.above x (by simpa using hx)
          . show (if x=i then none else Inb x)≠none
            rw [if_neg hM.2.1];exact hM.2.2
          . show (if x=i then none else Inb x).isSome=true
            rw [ee];rfl
        have hsz1:((w.at d).setChan c cap #[v] false (k+1) k false).heap.size=w.heap.size:=by simp [World.setChan];rfl
        have hfl:=zrs (P:=P) (OB:=OB) (WB:=WB) (B:=B) (Iv:=Iv) (Inb:=fun y=>if y=i then none else Inb y) (Mem:=fun g=>Mem g/\g≠i/\Inb g≠none) (m:=T.size) (s:=s) (by show (if j=i then none else Inb j)=some s;rw [if_neg hjh];exact hj) hk hWc ((w.at d).setChan c cap #[v] false (k+1) k false)
          (fun c' h1 h2=>by
            obtain⟨cap',k',hk'⟩:=Cd.chans j s c' (fun z=>z) hj h1;exact⟨cap',k',by rw [heap_setChan_ne _ _ _ _ _ _ _ (fun e=>h2 e.symm)];exact hk'⟩) _ (sl:=sl') rfl (by simpa using hjlt) (SideD.refl _) (heap_setChan_self (w.at d) hcd _ _ _ _ _ _) Fl
        refine hfl.bind fun m' T'=>?_;rintro ⟨gs',gq,w1,k2,sl2,q',rfl,h1,h2,h3,h4,h5,h6,h7⟩;refine .here ⟨gs',gq,w1,k2,sl2,q',rfl,by simpa using h1,h2,h3,⟨fun b hb hne=>?_,?_,?_⟩,h5,h6,h7⟩
        . rw [h4.only b hb,heap_setChan_ne _ _ _ _ _ _ _ (fun e=>hne e.symm)];exact hwd.only b hb
        . rw [h4.size,hsz1];exact hwd.size
        . rw [h4.rest];have:=hwd.rest;simp only [World.setChan];rw [this]
      . -- j is parked: the meeting
        have hp:partners (gs.setIfInBounds i ph) c false=[(j,kk)]:=by
          rw [partners_one (stand_get hjh hgj) fun x y hxj hy=>hoff x y hxj hy,offersAt_parked_at hk hu];rfl
        have hmeet:=zez (sl:=sl') (k:=0) hi (hcomm (i==0) (w.at d)) rfl (fun m c' hm hc'=>by
          cases m with
          | zero=>exact absurd rfl hm
          | succ m=>simp at hc') hcd hjh hgj hk hp
        rw [show MemOp.ofEvents i g.frame.fn g.frame.place #[]=#[] from rfl,Array.empty_append] at hmeet
        refine .head (by rw [hst];exact hmeet) (.here ?_)
        have hDeaf:∀ x,Deaf (T++met i j aq.frame.fn aq.frame.place gq.frame.fn gq.frame.place c k cap) x=Deaf T x:=fun x=>Deaf_quiet (met_quiet _ _ _ _ _ _ _ _ _ x);have p2:=PastO.give C.past hMh hMj aq.frame.fn aq.frame.place gq.frame.fn gq.frame.place k cap hcB;have hivj':Iv j (w.at d):=C.ivst j w (w.at d) ⟨fun _ _ _=>rfl,fun _ _ _=>rfl⟩ hivj;have R:=RingO.pass (cap:=cap) (k:=k) Cd hj hsc hWc hcd (gs':=(gs.setIfInBounds j (gq.finishComm P s.cases s.shape kk v true)).setIfInBounds i (aq.finishComm P #[scase c v z'] .send 0 undef false)) (by simp) (fun x hx hxj=>by rw [Array.getElem?_setIfInBounds_ne (fun z=>hx z.symm),Array.getElem?_setIfInBounds_ne (fun z=>hxj z.symm)])
          (Array.getElem?_setIfInBounds_self_of_lt (by simpa using hlth)) hDeaf (Inb':=fun y=>if y=i then none else Inb y) hI (.inr hIi) (nh:=nh) (by rw [if_pos rfl];exact⟨h0,by rw [hDeaf,C.past.hears i hMh];exact hafter⟩) p2
        have hMM:(fun g=>Mem g/\((fun y=>if y=i then none else Inb y) g≠none\/g=j))=(fun g=>Mem g/\g≠i/\Inb g≠none):=by
          funext x;apply propext;constructor
          . rintro ⟨h1,h2|rfl⟩
            . by_cases hx:x=i
              . subst hx;exact absurd hIi h2
              . exact⟨h1,hx,by rw [<-hI x hx];exact h2⟩
            . exact⟨h1,hjh,by rw [hj];simp⟩
          . rintro ⟨h1,h2,h3⟩;exact⟨h1,.inl (by rw [hI x h2];exact h3)⟩
        rw [hMM] at R;exact⟨_,gq,w.at d,k,sl',_,rfl,by simp,by rw [Array.getElem?_setIfInBounds_ne (fun z=>hjh z.symm),Array.getElem?_setIfInBounds_self_of_lt (by omega)],hat.2.2.2.2.1,hwd.c c,hivj',(Array.getElem?_eq_some_iff.1 hc).1,R⟩
    . obtain⟨gs',ops,q',w',hrt,hsz',hsp,hS,hw0',_,_,C',hlt⟩:=CoF.by_step (sl:=sl') (fun t u i=>Knows.app u) Cd hi e hg
        (fun x gx w' hx hgx _=>by subst hx;rw [ha] at hgx;obtain rfl:=Option.some.inj hgx;exact again_of_running (.inl hrun) _) (fun hD=>hD.elim)
        (fun s gq _ _=>⟨fun hD=>hD,fun x gx c hx hgx _=>by subst hx;rw [ha] at hgx;obtain rfl:=Option.some.inj hgx;exact offersAt_of_not_blocked (by rw [hrun];simp) _ _⟩)
      have:=ih (sumTo gs'.size q') (by rw [hsz',hn];exact hlt) (sl:=sl') rfl (by omega) (hwd.trans hS.d) (by rw [hS.only c hfar];exact hc) (by rw [hsp h rfl];exact ha) C'
      rw [hsz'] at this;exact .head (ho:=by exact .side hS.rest) (by rw [hst];exact hrt) this
end
section
variable {P:Program} {OB WB:Nat->Prop} {B:Nat} {Iv:Nat->World->Prop} {K:Trace->Nat->Prop} {Mem Lo:Nat->Prop} {Inb:Nat->Option Seat} {Sp Dead:Nat->Prop} {T:Trace} {gs:Array Goroutine} {w:World} {q:Nat->Nat} {h j c kk kh:Nat}
theorem AtS.tries {s:Seat} {gy gq:Goroutine} (h:AtS P s gy gq) (cs:Array CommCase) (sh:CommShape):AtS P s { parked gq cs sh with status:=.running } gq:=by
  obtain⟨_,h1,h2,h3,hh,hst⟩:=h;exact⟨rfl,rfl,rfl,rfl,hh,fun main w=>by rw [<-hst main w];exact stepG_same h1.symm h2.symm h3.symm w⟩
def zkV (P:Program) (OB WB:Nat->Prop) (B:Nat) (Iv:Nat->World->Prop) (Mem:Nat->Prop) (Inb:Nat->Option Seat) (j c m:Nat) (T:Trace) (gs:Array Goroutine) (w:World) (q:Nat->Nat):Prop :=
  CoF P OB WB B Iv (fun t i=>Before t i m) Mem (fun g=>(Inb g).isSome) Inb (fun _=>False) (·=j) T gs w q/\ClosedAt c m T
def zqK (P:Program) (OB WB:Nat->Prop) (B:Nat) (Iv:Nat->World->Prop) (Mem:Nat->Prop) (Inb:Nat->Option Seat) (j:Nat) (s:Seat) (kk n:Nat) (z:Value) (w0:World) (mm:Machine) (t:Trace):Prop :=
  ∃ (gs':Array Goroutine) (gq:Goroutine) (w1:World) (sl':Option (Nat × Nat)) (q':Nat->Nat),mm=crowd gs' w1 sl'/\gs'.size=n/\gs'[j]?=some (gq.finishComm P s.cases s.shape kk z false)/\s.home gq/\SideD OB w0 w1/\Iv j w1 /\
    RingO P OB WB B Iv Mem (fun i=>if i=j then none else Inb i) j t gs' w1 q'
theorem zpL {m k cap:Nat} {z:Value} {s:Seat} (hj:Inb j=some s) (hk:s.cases[kk]?=some (rcase c z)) (w0:World) (hoth:∀ c',s.has c'->c'≠c->∃ cap' k',w0.heap[c']?=some (.chan cap' #[] false k' k' false)) :
    ∀ (n:Nat) {T:Trace} {gs:Array Goroutine} {w:World} {q:Nat->Nat} {sl:Option (Nat × Nat)},n=sumTo gs.size q->j<gs.size->SideD OB w0 w->w.heap[c]?=some (.chan cap #[] true k k false)->zkV P OB WB B Iv Mem Inb j c m T gs w q ->
      Reach P (crowd gs w sl) T (zqK P OB WB B Iv Mem Inb j s kk gs.size z w0):=by
  intro n
  induction n using Nat.strongRecOn with
  | _ n ih =>
    intro T gs w q sl hn hjlt hw0 hbuf Fl;obtain⟨C,sa⟩:=Fl;have hsc:s.has c:=⟨kk,z,hk⟩;have hwf:=C.wf j s hj;obtain⟨hMj,hcB'⟩:=C.mem j s hj;have hcB:=hcB' c hsc;have hfar:=C.far j s c hj hsc;obtain⟨gj,hgj⟩:∃ gj,gs[j]?=some gj:=⟨gs[j]'(by omega),Array.getElem?_eq_getElem (by omega)⟩
    have hjr:=C.live j gj rfl hgj;obtain⟨i,g,d,sl',hi,hg,hst⟩:=crowd_pick (P:=P) (w:=w) (sl:=sl) (CoF.awake C fun x g hx _=>hx.elim) ⟨j,gj,hgj,hjr⟩;have Cd:=CoF.at C d;have hwd:SideD OB w0 (w.at d):=hw0.trans (SideD.at w d);have hbufd:(w.at d).heap[c]?=some (.chan cap #[] true k k false):=hbuf;by_cases ej:i=j/\∃ gq,AtS P s g gq
    . obtain⟨rfl,gq,hat⟩:=ej;have hSj:SitsO P OB WB B Iv i s (q i) g (w.at d):=by have:=Cd.idle i g (fun z=>z) hi;rwa [hj] at this
      have hivj:=hSj.at_iv hat;obtain⟨_,_,_,_,hhome,hstp⟩:=hat;have hp:partners (gs.setIfInBounds i ph) c true=[]:=partners_nil fun x y hy=>by
        rcases getElem?_stand gs i x y hy with ⟨_,rfl⟩|⟨_,hy'⟩
        . exact offersAt_ph _ _
        . exact CoF.noSend Cd (fun z=>z) hy' _
      have hopen:∀ c',s.has c'->c'≠c->∃ cap' k',(w.at d).heap[c']?=some (.chan cap' #[] false k' k' false):=fun c' h1 h2=>by
        obtain⟨cap',k',h3⟩:=hoth c' h1 h2;exact⟨cap',k',by rw [hwd.only c' (C.far i s c' hj h1)];exact h3⟩
      have ho:∀ (m':Nat) (c':CommCase),m'≠kk->s.cases[m']?=some c'->NoWays (w.at d) (gs.setIfInBounds i ph) c':=by
        intro m' c' hm hc';obtain⟨cq,zq,rfl⟩:=hwf.recvs c' (Array.mem_of_getElem? hc');have hne:cq≠c:=fun ec=>hm (hwf.apart m' kk c zq z (ec ▸ hc') hk);obtain⟨capq,kx,hcq⟩:=hopen cq ⟨m',zq,hc'⟩ hne;refine ways_recv_none (w₁:=w.at d) hcq (partners_nil fun x y hy=>?_);rcases getElem?_stand gs i x y hy with ⟨_,rfl⟩|⟨_,hy'⟩
        . exact offersAt_ph _ _
        . exact CoF.noSend Cd (fun z=>z) hy' _
      have hstep:=crowd_sel_recv_closed (sl:=sl') hi (hstp (i==0) (w.at d)) hk ho hbufd hp;rw [show MemOp.ofEvents i g.frame.fn g.frame.place #[]=#[] from rfl,Array.empty_append] at hstep
      have p2:=PastO.takeClosed C.past sa.1 sa.2 hMj gq.frame.fn gq.frame.place hcB;have hall:∀ op∈(#[{ g:=i,fn:=gq.frame.fn,pos:=gq.frame.place,act:=.recvClosed c }]:Trace),op.g=i:=by
        intro op hop;simp only [List.mem_toArray,List.mem_cons,List.not_mem_nil,or_false] at hop;subst hop;rfl
      have hI':∀ x s',(if x=i then none else Inb x)=some s'->x≠i/\Inb x=some s':=fun x s' e=>by
        by_cases hx:x=i
        . rw [if_pos hx] at e;cases e
        . rw [if_neg hx] at e;exact⟨hx,e⟩
      refine .head (by rw [hst];exact hstep) (.here ⟨_,gq,w.at d,sl',q,rfl,by simp,by rw [Array.getElem?_setIfInBounds_self_of_lt (by omega)],hhome,hwd,hivj,?_⟩)
      refine⟨fun x y hx hy=>?_,fun x s' c' _ e hc'=>?_,fun x s' c' e=>Cd.far x s' c' (hI' x s' e).2,fun x s' e=>Cd.wf x s' (hI' x s' e).2,fun _ _ z=>z.elim,fun x x' sx sv c' eq ez=>Cd.inj x x' sx sv c' (hI' x sx eq).2 (hI' x' sv ez).2,fun x hx=>?_,
        fun x s' e=>Cd.mem x s' (hI' x s' e).2,fun x hM=>?_,fun x s' hx e=>⟨hx,?_⟩,p2.fewer (fun g hg=>hg) fun g ⟨hs,hg⟩=>⟨hg,?_⟩,Cd.apart,Cd.ivst,Cd.lowB⟩
      . show zgZ P OB WB B Iv _ x (q x) y _ (if x=i then none else Inb x)
        rw [if_neg hx];rw [Array.getElem?_setIfInBounds_ne (fun z=>hx z.symm)] at hy;have hid:=Cd.idle x y (fun z=>z) hy;cases e:Inb x with
        | none=>rw [e] at hid;exact⟨hid.1,by rw [Deaf_other T (fun z=>hx z.symm) _ hall];exact hid.2⟩
        | some s'=>rw [e] at hid;exact hid
      . obtain⟨h1,h2⟩:=hI' x s' e;exact Cd.chans x s' c' h1 h2 hc'
      . simp only [Array.size_setIfInBounds] at hx;rw [Deaf_other T (g':=i) (by omega) _ hall]
        exact Cd.above x hx
      . by_cases hx:x=i
        . exact .inr hx
        . exact .inl (by show (if x=i then none else Inb x)≠none;rw [if_neg hx];exact (Cd.nomem x hM).elim id fun z=>z.elim)
      . show (if x=i then none else Inb x).isSome=true
        rw [e];rfl
      . show (if g=i then none else Inb g).isSome=true
        rw [if_neg hg];exact hs
    . obtain⟨gs',ops,q',w',hrt,hsz',_,hS,hw0',_,_,C',hlt⟩:=CoF.by_step (sl:=sl') (fun t u i=>Before.app u) Cd hi (fun z=>z) hg (fun _ _ _ z=>z.elim) (fun hD=>by subst hD;rw [hj];simp)
        (fun s' gq hs' hat=>⟨fun hD=>by subst hD;rw [hj] at hs';obtain rfl:=Option.some.inj hs';exact ej ⟨rfl,gq,hat⟩,fun _ _ _ z=>z.elim⟩)
      have:=ih (sumTo gs'.size q') (by rw [hsz',hn];exact hlt) (sl:=sl') rfl (by omega) (hwd.trans hS.d) (by rw [hS.only c hfar];exact hbuf) ⟨C',sa.app ops⟩
      rw [hsz'] at this;exact .head (ho:=by exact .side hS.rest) (by rw [hst];exact hrt) this
end
section
variable {P:Program} {OB WB:Nat->Prop} {B:Nat} {Iv:Nat->World->Prop} {K:Trace->Nat->Prop} {Mem Lo:Nat->Prop} {Inb:Nat->Option Seat} {Sp Dead:Nat->Prop} {T:Trace} {gs:Array Goroutine} {w:World} {q:Nat->Nat} {h j c kk kh:Nat}
theorem zsc {a a':Goroutine} {cap:Nat} {s:Seat} {z:Value} (hjh:j≠h) (hj:Inb j=some s) (hk:s.cases[kk]?=some (rcase c z)) (hMh:Mem h) (hrun:a.status=.running) (hWc:¬ WB c) (hwake:mayWake P a=true) (ha':a'.status=.running)
    (hclose:∀ main w k,w.heap[c]?=some (.chan cap #[] false k k false)->stepG P main a w=.go a' (w.setChan c cap #[] true k k false) (closeEvents c)) {Inb1:Nat->Option Seat} (hI:∀ x,x≠h->Inb1 x=Inb x) (hIh:Inb1 h=Inb h\/Inb1 h=none) {nh:Nat} (w0:World)
    (hafter:∀ T' w1 k,Deaf T' h=0->SideD (fun b=>OB b/\h≠0) w0 w1->zgZ P OB WB B Iv T' h nh a' (w1.setChan c cap #[] true k k false) (Inb1 h)) :
    ∀ (n:Nat) {T:Trace} {gs:Array Goroutine} {w:World} {q:Nat->Nat} {sl:Option (Nat × Nat)} {k:Nat},n=sumTo gs.size q->j<gs.size->SideD (fun b=>OB b/\h≠0) w0 w->w.heap[c]?=some (.chan cap #[] false k k false)->gs[h]?=some a->RingO P OB WB B Iv Mem Inb h T gs w q ->
      Reach P (crowd gs w sl) T fun m' T'=>∃ w1 k,SideD (fun b=>OB b/\h≠0) w0 w1/\zqK P OB WB B Iv (fun g=>Mem g/\Inb1 g≠none) Inb1 j s kk gs.size z (w1.setChan c cap #[] true k k false) m' T':=by
  intro n
  induction n using Nat.strongRecOn with
  | _ n ih =>
    intro T gs w q sl k hn hjlt hw0 hc ha C;have hsc:s.has c:=⟨kk,z,hk⟩;have hwf:=C.wf j s hj;obtain⟨hMj,hcB'⟩:=C.mem j s hj;have hcB:=hcB' c hsc;have hfar:=C.far j s c hj hsc;obtain⟨gj,hgj⟩:∃ gj,gs[j]?=some gj:=⟨gs[j]'(by omega),Array.getElem?_eq_getElem (by omega)⟩
    have hlth:h<gs.size:=(Array.getElem?_eq_some_iff.1 ha).1;obtain⟨i,g,d,sl',hi,hg,hst⟩:=crowd_pick (P:=P) (w:=w) (sl:=sl) (CoF.awake C fun x g hx hgx=>by subst hx;rw [ha] at hgx;obtain rfl:=Option.some.inj hgx;exact .inl hrun) ⟨h,a,ha,hrun⟩
    have Cd:RingO P OB WB B Iv Mem Inb h T gs (w.at d) q:=CoF.at C d;have hcd:(w.at d).heap[c]?=some (.chan cap #[] false k k false):=hc;have hwd:SideD (fun b=>OB b/\h≠0) w0 (w.at d):=hw0.trans (SideD.at w d);by_cases e:i=h
    . subst e;obtain rfl:g=a:=by rw [ha] at hi;exact (Option.some.inj hi).symm
      generalize hW:(w.at d).setChan c cap #[] true k k false=W;have hrt:=runT_crowd_go (P:=P) (sl:=sl') hi (hclose (i==0) (w.at d) k hcd);rw [hW] at hrt;have hcW:W.heap[c]?=some (.chan cap #[] true k k false):=hW ▸ heap_setChan_self (w.at d) hcd _ _ _ _ _ _;have hrlW:∀ x,Rl OB WB x (w.at d) W:=fun x=>hW ▸ zes hfar hWc _ _ _ _ _ _;have hopen:∀ x s' c',c'≠c->Inb x=some s'->s'.has c'->∃ cap' k',W.heap[c']?=some (.chan cap' #[] false k' k' false):=by
        intro x s' c' hne e hc';obtain⟨cap',k',hk'⟩:=Cd.chans x s' c' (fun z=>z) e hc';exact⟨cap',k',by rw [<-hW,heap_setChan_ne _ _ _ _ _ _ _ (fun ec=>hne ec.symm)];exact hk'⟩
      have hnot:∀ x s' c',x≠j->Inb x=some s'->s'.has c'->c'≠c:=fun x s' c' hx e hc' ec=>hx (C.inj x j s' s c e hj (ec ▸ hc') hsc);have hwk:∀ y,woken P g a' W y=y.again W:=by intro y;simp [woken,hwake,ha']
      have hSj:SitsO P OB WB B Iv j s (q j) gj (w.at d):=by have:=Cd.idle j gj hjh hgj;rwa [hj] at this
      obtain⟨gj',nj,hgj',hSj',hjr⟩:∃ gj' nj,woken P g a' W gj=gj'/\SitsO P OB WB B Iv j s nj gj' W/\gj'.status=.running:=by
        rcases hSj with ⟨kq,hq,hG⟩|⟨_,⟨gy,gq,rfl,hat⟩,hiv⟩
        . have hjr:gj.status=.running:=(SitsO.status (.inl ⟨kq,hq,hG⟩:SitsO P OB WB B Iv j s (q j) gj (w.at d))).elim (·.1) (fun z=>by omega)
          exact⟨gj,q j,by rw [hwk];exact again_of_running (.inl hjr) W,SitsO.rely C.ivst (.inl ⟨kq,hq,hG⟩) (hrlW j),hjr⟩
        . refine⟨_,1,by rw [hwk,again_some_closed hk hcW],.inl ⟨0,rfl,fun w1 h1=>⟨⟨gq,hat.tries _ _⟩,?_⟩⟩,rfl⟩
          exact C.ivst j _ _ h1 (C.ivst j _ _ (hrlW j) hiv)
      have hEv:∀ e∈closeEvents c,EvHd (zcf WB) B e:=closeEvents_ok hcB;obtain⟨hops,hs,hl,hdf⟩:=evHd_ops (Still:=zcf WB) (B:=B) (i:=i) (fn:=g.frame.fn) (pos:=g.frame.place) hEv;have hown:∀ op∈MemOp.ofEvents i g.frame.fn g.frame.place (closeEvents c),∀ b,op.act.touch?=some b->(zcf WB b.loc->b.write=false)/\(ownL OB b.loc->i=0):=fun op hop b hb=>⟨hs op hop b hb,fun⟨a,e,_⟩=>by
        rw [closeOps] at hop;simp only [List.mem_toArray,List.mem_cons,List.not_mem_nil,or_false] at hop;rcases hop with rfl|rfl
        . simp only [MemAct.touch?,Option.some.injEq] at hb;subst hb;cases e
        . simp [MemAct.touch?] at hb⟩
      have hDeaf:∀ x,Deaf (T++MemOp.ofEvents i g.frame.fn g.frame.place (closeEvents c)) x=Deaf T x:=fun x=>by
        by_cases ex:x=i
        . subst ex;exact hdf T
        . exact Deaf_other T (fun z=>ex z.symm) _ hops
      have p1:=PastO.appH C.past hops hown (hdf T) hl;have hm:(T++MemOp.ofEvents i g.frame.fn g.frame.place (closeEvents c))[T.size+1]?=some { g:=i,fn:=g.frame.fn,pos:=g.frame.place,act:=.close c }:=by rw [at_new,closeOps];rfl
      have hsz2:(T++MemOp.ofEvents i g.frame.fn g.frame.place (closeEvents c)).size=T.size+2:=by rw [Array.size_append,closeOps];rfl
      have p2:=p1.away hm rfl fun q' z' h1 _ h3=>by have:=lt_size_of_getElem? h1;omega
      have sa:ClosedAt c (T.size+1) (T++MemOp.ofEvents i g.frame.fn g.frame.place (closeEvents c)):=⟨by simp [Trace.act?,hm],i,g?_of hm,by
        have h1:(T++MemOp.ofEvents i g.frame.fn g.frame.place (closeEvents c)).deaf i (T.size+1)=Deaf T i:=deaf_quiet (t:=T) (u:=MemOp.ofEvents i g.frame.fn g.frame.place (closeEvents c)) (g:=i) (fun op hop dd=>by
          rw [closeOps] at hop;simp only [List.mem_toArray,List.mem_cons,List.not_mem_nil,or_false] at hop;rcases hop with rfl|rfl<;>rfl) 1 (by rw [closeOps];simp)
        rw [h1];exact C.past.hears i hMh⟩
      have hI1:∀ x s',Inb1 x=some s'->Inb x=some s':=fun x s' e=>by
        by_cases hx:x=i
        . subst hx;rcases hIh with z|z
          . rw [<-z];exact e
          . rw [z] at e;cases e
        . rw [<-hI x hx];exact e
      have harr:∀ x,((gs.map (woken P g a' W)).setIfInBounds i a')[x]?=if x=i then some a' else if x=j then some gj' else gs[x]?:=by
        intro x;by_cases hx:x=i
        . subst hx;rw [if_pos rfl];exact Array.getElem?_setIfInBounds_self_of_lt (by simpa using hlth)
        . rw [if_neg hx,Array.getElem?_setIfInBounds_ne (fun e=>hx e.symm),Array.getElem?_map];by_cases hxj:x=j
          . subst hxj;rw [if_pos rfl,hgj];simp [hgj']
          . rw [if_neg hxj];cases ey:gs[x]? with
            | none=>rfl
            | some y =>
              have hid:=Cd.idle x y hx ey;have:woken P g a' W y=y:=by
                rw [hwk];cases es:Inb x with
                | none=>rw [es] at hid;exact again_of_running hid.2.status W
                | some s' =>
                  rw [es] at hid;refine SitsO.again hid (C.wf x s' es) fun c' hc'=>?_;obtain⟨cap',k',hk'⟩:=hopen x s' c' (hnot x s' c' hxj es hc') es hc';exact⟨_,_,_,_,_,hk'⟩
              simp [this]
      have Fl:zkV P OB WB B Iv (fun g=>Mem g/\Inb1 g≠none) Inb1 j c (T.size+1) (T++MemOp.ofEvents i g.frame.fn g.frame.place (closeEvents c)) ((gs.map (woken P g a' W)).setIfInBounds i a') W (upd (upd q j nj) i nh):=by
        refine⟨⟨fun x y _ hy=>?_,fun x s' c' hD ee hc'=>?_,fun x s' c' ee=>Cd.far x s' c' (hI1 x s' ee),fun x s' ee=>Cd.wf x s' (hI1 x s' ee),fun x y hx hy=>?_,fun x x' sx sv c' eq ez=>Cd.inj x x' sx sv c' (hI1 x sx eq) (hI1 x' sv ez),fun x hx=>?_,
          fun x s' ee=>⟨⟨(Cd.mem x s' (hI1 x s' ee)).1,by rw [ee];simp⟩,(Cd.mem x s' (hI1 x s' ee)).2⟩,fun x hM=>.inl hM.2,fun x s' _ ee=>by rw [ee];rfl,p2.fewer (fun g hg=>hg.1) (fun g hg=>by rw [hI g hg.1];exact hg.2),Cd.apart,Cd.ivst,by rw [<-hW];simpa [World.setChan] using Cd.lowB⟩,sa⟩
        . rw [harr x] at hy;by_cases ex:x=i
          . subst ex;rw [if_pos rfl] at hy;obtain rfl:=Option.some.inj hy;rw [upd_same];have:=hafter (T++MemOp.ofEvents x g.frame.fn g.frame.place (closeEvents c)) (w.at d) k (by rw [hDeaf];exact C.past.hears x hMh) hwd
            rw [hW] at this;exact this
          . rw [if_neg ex] at hy;rw [upd_ne _ nh ex,hI x ex];by_cases exj:x=j
            . subst exj;rw [if_pos rfl] at hy;obtain rfl:=Option.some.inj hy;rw [upd_same,hj];exact hSj'
            . rw [if_neg exj] at hy;rw [upd_ne q nj exj];have hid:=Cd.idle x y ex hy;cases es:Inb x with
              | none=>rw [es] at hid;exact⟨hid.1,by rw [hDeaf];exact hid.2⟩
              | some s'=>rw [es] at hid;exact SitsO.rely Cd.ivst hid (hrlW x)
        . exact hopen x s' c' (hnot x s' c' hD (hI1 x s' ee) hc') (hI1 x s' ee) hc'
        . subst hx;rw [harr x,if_neg hjh,if_pos rfl] at hy;obtain rfl:=Option.some.inj hy;exact hjr
        . rw [hDeaf];exact Cd.above x (by simpa using hx)
      refine .head (ho:=by exact⟨by show W.os=_;rw [<-hW];rfl,by show W.tape=_;rw [<-hW];rfl,by show W.output=_;rw [<-hW];rfl⟩) (by rw [hst];exact hrt) ?_
      have hfl:=zpL (P:=P) (OB:=OB) (WB:=WB) (B:=B) (Iv:=Iv) (Inb:=Inb1) (Mem:=fun g=>Mem g/\Inb1 g≠none) (m:=T.size+1) (s:=s) (c:=c) (k:=k) (cap:=cap) (by rw [hI j hjh];exact hj) hk W (fun c' h1 h2=>hopen j s c' h2 hj h1) _ (sl:=sl') rfl (by simpa using hjlt) (SideD.refl _) hcW Fl
      refine hfl.bind fun m' T' hF=>.here ⟨w.at d,k,hwd,?_⟩;rw [hW];simpa using hF
    . obtain⟨gs',ops,q',w',hrt,hsz',hsp,hS,hw0',_,_,C',hlt⟩:=CoF.by_step (sl:=sl') (fun t u i=>Knows.app u) Cd hi e hg
        (fun x gx w' hx hgx _=>by subst hx;rw [ha] at hgx;obtain rfl:=Option.some.inj hgx;exact again_of_running (.inl hrun) _) (fun hD=>hD.elim)
        (fun s gq _ _=>⟨fun hD=>hD,fun x gx c hx hgx _=>by subst hx;rw [ha] at hgx;obtain rfl:=Option.some.inj hgx;exact offersAt_of_not_blocked (by rw [hrun];simp) _ _⟩)
      have:=ih (sumTo gs'.size q') (by rw [hsz',hn];exact hlt) (sl:=sl') rfl (by omega) (hwd.trans (hS.by' hw0' e)) (by rw [hS.only c hfar];exact hc) (by rw [hsp h rfl];exact ha) C'
      rw [hsz'] at this;exact .head (ho:=by exact .side hS.rest) (by rw [hst];exact hrt) this
end
theorem zjh {P:Program} {main:Bool} {R R':World->World->Prop} {D D':World->World->Array Event->Prop} {Stop:Goroutine->World->Prop} (hR:∀ w w',R' w w'->R w w') (hD:∀ w w' es,D w w' es->D' w w' es) :
    ∀ {n:Nat} {g:Goroutine} {w:World},Conc.Goes P main R D Stop n g w->Conc.Goes P main R' D' Stop n g w
  | 0,_,_,h=>fun w₁ h₁=>h w₁ (hR _ _ h₁)
  | n+1,g,w,h=>by
    rcases h with h|⟨hs,h⟩
    . exact .inl fun w₁ h₁=>h w₁ (hR _ _ h₁)
    . refine .inr ⟨hs,fun w₁ h₁=>?_⟩;have:=h w₁ (hR _ _ h₁);cases hgo:stepG P main g w₁ with
      | go g' w' es =>
        rw [hgo,goes_go] at this;rw [goes_go];exact⟨hD _ _ _ this.1,zjh hR hD this.2⟩
      | _=>rw [hgo] at this;exact this.elim
section
variable {P:Program} {OB WB OB' WB':Nat->Prop} {B:Nat} {Iv:Nat->World->Prop} {K:Trace->Nat->Prop} {Mem Lo:Nat->Prop} {Inb:Nat->Option Seat} {Sp Dead:Nat->Prop} {T:Trace} {gs:Array Goroutine} {w:World} {q:Nat->Nat} {h:Nat}
theorem Rl.less (hO:∀ b,OB b->OB' b) (hW:∀ b,WB b->WB' b) {i:Nat} {w w':World} (h:Rl OB' WB' i w w'):Rl OB WB i w w':=⟨fun a ha h3=>h.1 a (hW _ ha) h3,fun e b hb=>h.2 e b (hO b hb)⟩
theorem Dw.more (hO:∀ b,OB b->OB' b) (hW:∀ b,WB b->WB' b) {i:Nat} {w w':World} {es:Array Event} (h:Dw OB WB B i w w' es):Dw OB' WB' B i w w' es :=
  ⟨fun b hb=>h.only b fun hx=>hb ⟨hx.1,hO b hx.2⟩,h.size,h.rest,fun e he=>by
    obtain⟨a,h1,⟨h2,h3,h4⟩|⟨h2,h3,h4⟩⟩:=h.evs e he
    . exact⟨a,h1,.inl ⟨h2,hW _ h3,h4⟩⟩
    . exact⟨a,h1,.inr ⟨h2,hO _ h3,h4⟩⟩⟩
theorem SitsO.more (hO:∀ b,OB b->OB' b) (hW:∀ b,WB b->WB' b) {i:Nat} {s:Seat} {n:Nat} {g:Goroutine} (h:SitsO P OB WB B Iv i s n g w):SitsO P OB' WB' B Iv i s n g w:=by
  rcases h with ⟨k,h1,h2⟩|h
  . exact .inl ⟨k,h1,zjh (fun _ _ x=>x.less hO hW) (fun _ _ _ x=>x.more hO hW) h2⟩
  . exact .inr h
theorem CoF.grow (C:CoF P OB WB B Iv K Mem Lo Inb Sp Dead T gs w q) (hO:∀ b,OB b->OB' b) (hW:∀ b,WB b->WB' b) (hap:∀ b,OB' b->¬ WB' b) (hfar:∀ i s c,Inb i=some s->s.has c->¬ OB' c)
    (hown:∀ i a,touchAt T i=some a->ownL OB' a.loc->T.g? i=some 0) (hst:∀ i a,touchAt T i=some a->a.write=true->zcf WB' a.loc->zcf WB a.loc):CoF P OB' WB' B Iv K Mem Lo Inb Sp Dead T gs w q:=by
  refine⟨fun i g h1 h2=>?_,C.chans,hfar,C.wf,C.live,C.inj,C.above,C.mem,C.nomem,C.lo,?_,hap,fun i w w1 hr=>C.ivst i w w1 (hr.less hO hW),C.lowB⟩
  . have h:=C.idle i g h1 h2;cases e:Inb i with
    | none=>rw [e] at h;exact h
    | some s=>rw [e] at h;exact SitsO.more hO hW h
  . have H:=C.past;have hSt:∀ l,zcf WB l->zcf WB' l:=fun l ⟨a,h1,h2,h3⟩=>⟨a,h1,hW _ h2,h3⟩;have hOw:∀ l,ownL OB l->ownL OB' l:=fun l ⟨a,h1,h2⟩=>⟨a,h1,hO _ h2⟩;exact⟨H.clean,fun i a ha hm=>(H.known i a ha hm).imp id (Or.imp (hOw _) fun⟨x,y,z⟩=>⟨x,hSt _ y,z⟩),fun i a ha hw hS=>H.wrote i a ha hw (hst i a ha hw hS),hown,H.hears,H.seen⟩
theorem CoF.iv {Iv':Nat->World->Prop} (C:CoF P OB WB B Iv K Mem Lo Inb Sp Dead T gs w q) (hst:∀ i w w1,Rl OB WB i w w1->Iv' i w->Iv' i w1) (hI:∀ i s w',¬ Sp i->Inb i=some s->Iv i w'->Iv' i w'):CoF P OB WB B Iv' K Mem Lo Inb Sp Dead T gs w q:=by
  have goes_stop:∀ {main:Bool} {R:World->World->Prop} {D:World->World->Array Event->Prop} {S S':Goroutine->World->Prop} (hS:∀ g w,S g w->S' g w) {n:Nat} {g:Goroutine} {w:World},Conc.Goes P main R D S n g w->Conc.Goes P main R D S' n g w:=by
    intro main R D S S' hS n
    induction n with
    | zero=>exact fun h w1 h1=>hS _ _ (h w1 h1)
    | succ n ih =>
      intro g w h;rcases h with h|⟨hs,h⟩
      . exact .inl fun w1 h1=>hS _ _ (h w1 h1)
      . refine .inr ⟨hs,fun w1 h1=>?_⟩;have:=h w1 h1;cases hgo:stepG P main g w1 with
        | go g' w' es =>
          rw [hgo,goes_go] at this;rw [goes_go];exact⟨this.1,ih this.2⟩
        | _=>rw [hgo] at this;exact this.elim
  refine⟨fun i g h1 h2=>?_,C.chans,C.far,C.wf,C.live,C.inj,C.above,C.mem,C.nomem,C.lo,C.past,C.apart,hst,C.lowB⟩;have h:=C.idle i g h1 h2;cases e:Inb i with
  | none=>rw [e] at h;exact h
  | some s =>
    rw [e] at h;rcases h with ⟨k,h3,h4⟩|⟨h3,h4,h5⟩
    . exact .inl ⟨k,h3,goes_stop (fun g w hx=>⟨hx.1,hI i s w h1 e hx.2⟩) h4⟩
    . exact .inr ⟨h3,h4,hI i s _ h1 e h5⟩
theorem zjN (hL:Leavers P T gs q) (hP:Past (fun _=>False) B T) (Iv:Nat->World->Prop) (hIv:∀ i w w1,Rl (fun _=>False) (fun _=>False) i w w1->Iv i w->Iv i w1) (hBw:B<=w.heap.size):RingO P (fun _=>False) (fun _=>False) B Iv (fun g=>g=0) (fun _=>none) 0 T gs w q:=by
  refine⟨fun i g hi hg=>⟨Nat.pos_of_ne_zero hi,hL.old i g (Nat.pos_of_ne_zero hi) hg⟩,fun _ _ _ _ e=>(by cases e),fun _ _ _ e=>(by cases e),fun _ _ e=>(by cases e),fun _ _ z=>z.elim,fun _ _ _ _ _ e=>(by cases e),hL.above,fun _ _ e=>(by cases e),fun _ hM=>.inr hM,fun _ _ _ e=>(by cases e),?_,fun _ z=>z.elim,hIv,hBw⟩
  exact⟨hP.clean,fun i a ha hm=>.inl ((hP.known i a ha hm).elim id fun x=>x.1.elim),fun i a _ _ ⟨_,_,h,_⟩=>h.elim,fun i a _ ⟨_,_,h⟩=>h.elim,fun g hg=>by subst hg;exact hP.hears,hP.seen⟩
theorem zop (C:RingO P OB WB B Iv Mem Inb 0 T gs w q) (h0:Mem 0) (hI:∀ i,i≠0->Inb i=none):Leavers P T gs q/\Past (fun _=>False) B T:=by
  have H:=C.past;have hk:∀ i a,touchAt T i=some a->a.loc.isMemory=true->Knows T 0 i:=fun i a ha hm=>by
    rcases H.known i a ha hm with hk|hO|⟨_,_,g,_,hg,hs⟩
    . exact hk
    . obtain⟨x,hx,hxg⟩:=Option.map_eq_some_iff.1 (H.own i a ha hO);have:=knows_own hx;rw [hxg] at this;exact this
    . rw [hI g hg] at hs;cases hs
  refine⟨⟨fun i g hi hg=>by have:=C.idle i g (by omega) hg;rw [hI i (by omega)] at this;exact this.2,C.above⟩,H.clean,fun i a ha hm=>.inl (hk i a ha hm),fun i g hg hne ⟨x,hx,hm,_⟩=>?_,H.hears 0 h0,H.seen⟩
  obtain⟨q',z,hq,hz,hb⟩:=hk i x hx hm;rcases hb with rfl|hb
  . rw [g?_of hq,hz] at hg;exact absurd (Option.some.inj hg).symm hne
  . exact⟨q',by rw [g?_of hq,hz],hb⟩
end
section
variable {P:Program} {OB WB:Nat->Prop} {B:Nat} {Iv:Nat->World->Prop} {K:Trace->Nat->Prop} {Mem Lo:Nat->Prop} {Inb:Nat->Option Seat} {Sp Dead:Nat->Prop} {T:Trace} {gs:Array Goroutine} {w:World} {q:Nat->Nat} {h:Nat}
structure DO (OB WB:Nat->Prop) (Inb:Nat->Option Seat) (h:Nat) (w w':World) (es:Array Event):Prop where
  seats:∀ i s c,Inb i=some s->s.has c->w'.heap[c]?=w.heap[c]?
  still:∀ a:Addr,WB a.block->3<=a.off->w'.cell? a=w.cell? a
  own:h≠0->∀ b,OB b->w'.heap[b]?=w.heap[b]?
  size:w.heap.size<=w'.heap.size
  rest:w'={ w with heap:=w'.heap,drawn:=w'.drawn }
  evs:∀ e∈es,e=⟨.mark .noRoom,false,true⟩\/(e.sync=false/\∃ a:Addr,e.loc=.cell a/\a.block<w'.heap.size/\(e.write=true->¬ (WB a.block/\3<=a.off))/\(OB a.block->h=0))
theorem DO.none (w:World):DO OB WB Inb h w w #[]:=⟨fun _ _ _ _ _=>rfl,fun _ _ _=>rfl,fun _ _ _=>rfl,Nat.le_refl _,rfl,fun e he=>by simp at he⟩
theorem zsP {n:Nat} {fn:FuncId} {pos:String} {es:Array Event} {w w':World} (D:DO OB WB Inb h w w' es) (hB:w'.heap.size<=n) :
    (∀ op∈MemOp.ofEvents h fn pos es,op.g=h)/\(∀ op∈MemOp.ofEvents h fn pos es,∀ b,op.act.touch?=some b->(zcf WB b.loc->b.write=false)/\(ownL OB b.loc->h=0))/\(∀ op∈MemOp.ofEvents h fn pos es,op.act.low n)/\∀ t:Trace,Deaf (t++MemOp.ofEvents h fn pos es) h=Deaf t h:=by
  refine⟨fun op hop=>by obtain⟨e,_,rfl⟩:=Conc.mem_ofEvents hop;rfl,fun op hop b hb=>?_,fun op hop=>?_,fun t=>?_⟩
  . obtain⟨e,he',rfl⟩:=Conc.mem_ofEvents hop;rcases D.evs e he' with rfl|⟨hsy,a,hloc,h3,h1,h2⟩
    . simp [MemAct.ofEvent,MemAct.touch?] at hb
    . obtain⟨l,wr,sy⟩:=e;simp only at hsy hloc h1;subst hsy hloc;have hbl:b.loc=.cell a/\b.write=wr:=by
        cases wr<;>(simp [MemAct.ofEvent,MemAct.touch?] at hb;subst hb;exact⟨rfl,rfl⟩)
      rw [hbl.1,hbl.2];refine⟨fun⟨a',e,ha,h4⟩=>?_,fun⟨a',e,ha⟩=>?_⟩
      . simp only [Loc.cell.injEq] at e;subst e;cases wr
        . rfl
        . exact absurd ⟨ha,h4⟩ (h1 rfl)
      . simp only [Loc.cell.injEq] at e;subst e;exact h2 ha
  . obtain⟨e,he',rfl⟩:=Conc.mem_ofEvents hop;rcases D.evs e he' with rfl|⟨hsy,a,hloc,h3,h1,h2⟩
    . exact trivial
    . obtain⟨l,wr,sy⟩:=e;simp only at hsy hloc;subst hsy hloc;cases wr<;>exact Nat.lt_of_lt_of_le h3 hB
  . rw [Deaf_own];exact deafBehind_still (fun e he'=>by
      rcases D.evs e he' with rfl|⟨hsy,a,hloc,_⟩
      . exact⟨by simp,by simp⟩
      . exact⟨by rw [hloc];simp,by rw [hloc];simp⟩) _
theorem RingO.ownC (C:RingO P OB WB B Iv Mem Inb h T gs w q) {a a':Goroutine} {w':World} {es:Array Event} (ha:gs[h]?=some a) (D:DO OB WB Inb h w w' es) :
    RingO P OB WB (max B w'.heap.size) Iv Mem Inb h (T++MemOp.ofEvents h a.frame.fn a.frame.place es) ((gs.map (woken P a a' w')).setIfInBounds h a') w' q/\((gs.map (woken P a a' w')).setIfInBounds h a')[h]?=some a':=by
  have hlt:h<gs.size:=(Array.getElem?_eq_some_iff.1 ha).1;have hBm:B<=max B w'.heap.size:=Nat.le_max_left _ _;obtain⟨hops,hs,hl,hdf⟩:=zsP (fn:=a.frame.fn) (pos:=a.frame.place) D (Nat.le_max_right B _);have hrl:∀ x,x≠h->Rl OB WB x w w':=fun x hx=>⟨fun ad had h3=>D.still ad had h3,fun e b hb=>D.own (by omega) b hb⟩
  refine⟨⟨fun x y hx hy=>?_,fun i s c _ hi hc=>?_,C.far,C.wf,fun _ _ hx=>hx.elim,C.inj,fun j hj=>?_,CoF.memB hBm C,C.nomem,C.lo,PastO.appH (C.past.mono hBm) hops hs (hdf T) hl,C.apart,C.ivst,Nat.max_le.2 ⟨Nat.le_trans C.lowB D.size,Nat.le_refl _⟩⟩,Array.getElem?_setIfInBounds_self_of_lt (by simpa using hlt)⟩
  . rw [Array.getElem?_setIfInBounds_ne (fun e=>hx e.symm),Array.getElem?_map] at hy;obtain⟨yq,hyq,rfl⟩:=Option.map_eq_some_iff.1 hy;rw [woken_of_again (CoF.fixed' C D.seats hx hyq)];have hi:=CoF.idleB hBm C x yq hx hyq;cases es':Inb x with
    | none=>rw [es'] at hi;exact⟨hi.1,by rw [Deaf_other T (fun z=>hx z.symm) _ hops];exact hi.2⟩
    | some s=>rw [es'] at hi;exact SitsO.rely C.ivst hi (hrl x hx)
  . obtain⟨cap,k,hk⟩:=C.chans i s c (fun z=>z) hi hc;exact⟨cap,k,by rw [D.seats i s c hi hc];exact hk⟩
  . simp only [Array.size_setIfInBounds,Array.size_map] at hj;rw [Deaf_other T (g':=h) (by omega) _ hops]
    exact C.above j hj
def Ro (OB:Nat->Prop) (h:Nat) (w w1:World):Prop:=SideD (fun b=>OB b/\h≠0) w w1
theorem Ro.refl (w:World):Ro OB h w w:=SideD.refl w
theorem Ro.trans (a b c:World) (x:Ro OB h a b) (y:Ro OB h b c):Ro OB h a c:=SideD.trans x y
theorem Ro.heap {w w1:World} (x:Ro OB h w w1) {b:Nat} (hb:¬ OB b):w1.heap[b]?=w.heap[b]?:=x.only b fun z=>hb z.1
theorem Ro.heap0 {w w1:World} (x:Ro OB 0 w w1):w1={ w with drawn:=w1.drawn }:=by
  have hh:w1.heap=w.heap:=Array.ext_getElem? fun b=>x.only b fun z=>z.2 rfl;have:=x.rest;rw [hh] at this;exact this
theorem zaM {Stop:Goroutine->World->Prop}:∀ (n:Nat) {B:Nat} {T:Trace} {gs:Array Goroutine} {w:World} {q:Nat->Nat} {sl:Option (Nat × Nat)} {a:Goroutine},gs[h]?=some a->Conc.Goes P (h==0) (Ro OB h) (DO OB WB Inb h) Stop n a w->RingO P OB WB B Iv Mem Inb h T gs w q ->
    Reach P (crowd gs w sl) T fun m' T'=>∃ gs' a' w' sl' q' B',m'=crowd gs' w' sl'/\gs'.size=gs.size/\gs'[h]?=some a'/\Stop a' w'/\RingO P OB WB B' Iv Mem Inb h T' gs' w' q':=by
  have stop:∀ {n:Nat} {B:Nat} {T:Trace} {gs:Array Goroutine} {w:World} {q:Nat->Nat} {sl:Option (Nat × Nat)} {a:Goroutine},gs[h]?=some a->(∀ w₁,Ro OB h w w₁->Stop a w₁)->RingO P OB WB B Iv Mem Inb h T gs w q ->
    Reach P (crowd gs w sl) T fun m' T'=>∃ gs' a' w' sl' q' B',m'=crowd gs' w' sl'/\gs'.size=gs.size/\gs'[h]?=some a'/\Stop a' w'/\RingO P OB WB B' Iv Mem Inb h T' gs' w' q' :=
    fun {_ B T gs w q sl a} ha hst C=>.here ⟨gs,a,w,sl,q,B,rfl,rfl,ha,hst w (Ro.refl w),C⟩
  intro n
  induction n with
  | zero=>intro B T gs w q sl a ha hG C;exact stop (n:=0) ha hG C
  | succ n ih =>
    have key:∀ (m:Nat) {B:Nat} {T:Trace} {gs:Array Goroutine} {w:World} {q:Nat->Nat} {sl:Option (Nat × Nat)} {a:Goroutine},sumTo gs.size q=m->gs[h]?=some a->Conc.Goes P (h==0) (Ro OB h) (DO OB WB Inb h) Stop (n+1) a w->RingO P OB WB B Iv Mem Inb h T gs w q ->
        Reach P (crowd gs w sl) T fun m' T'=>∃ gs' a' w' sl' q' B',m'=crowd gs' w' sl'/\gs'.size=gs.size/\gs'[h]?=some a'/\Stop a' w'/\RingO P OB WB B' Iv Mem Inb h T' gs' w' q':=by
      intro m
      induction m using Nat.strongRecOn with
      | _ m ihm =>
        intro B T gs w q sl a hm ha hG C;rcases id hG with hG1|⟨hrun,hG1⟩
        . exact stop (n:=0) ha hG1 C
        obtain⟨i,g,d,sl',hi,hg,hst⟩:=crowd_pick (P:=P) (w:=w) (sl:=sl) (CoF.awake C fun x g hx hgx=>by subst hx;rw [ha] at hgx;obtain rfl:=Option.some.inj hgx;exact .inl hrun) ⟨h,a,ha,hrun⟩
        have Cd:RingO P OB WB B Iv Mem Inb h T gs (w.at d) q:=CoF.at C d;have hRd:Ro OB h w (w.at d):=⟨fun _ _=>rfl,rfl,rfl⟩;by_cases e:i=h
        . subst e;obtain rfl:g=a:=by rw [ha] at hi;exact (Option.some.inj hi).symm
          have h1:=hG1 (w.at d) hRd;cases hgo:stepG P (i==0) g (w.at d) with
          | go g' w' es =>
            rw [hgo,goes_go] at h1;obtain⟨C',ha'⟩:=RingO.ownC (a':=g') Cd ha h1.1;refine .head (ho:=by exact .of h1.1.rest) (by rw [hst];exact runT_crowd_go (sl:=sl') ha hgo) ?_
            refine (ih ha' h1.2 C').bind fun m' T'=>?_;rintro ⟨gs',a',w2,sl2,q',B',rfl,k1,k2,k3,k4⟩;exact .here ⟨gs',a',w2,sl2,q',B',rfl,by simpa using k1,k2,k3,k4⟩
          | _=>rw [hgo] at h1;exact h1.elim
        . obtain⟨gs',ops,q',w',hrt,hsz',hsp,hS,hw0,_,_,C',hlt⟩:=CoF.by_step (sl:=sl') (fun t u i=>Knows.app u) Cd hi e hg
            (fun x gx w' hx hgx _=>by subst hx;rw [ha] at hgx;obtain rfl:=Option.some.inj hgx;exact again_of_running (.inl hrun) _) (fun hD=>hD.elim)
            (fun s gq _ _=>⟨fun hD=>hD,fun x gx c hx hgx _=>by subst hx;rw [ha] at hgx;obtain rfl:=Option.some.inj hgx;exact offersAt_of_not_blocked (by rw [hrun];simp) _ _⟩)
          have hR:Ro OB h w w':=by
            by_cases h0:i=0
            . refine hRd.trans _ _ _ ⟨fun b hb=>hS.only b fun ho=>hb ⟨ho,by omega⟩,hS.size,hS.d.rest⟩
            . rw [hw0 h0];exact hRd
          refine .head (ho:=by exact .side hS.rest) (by rw [hst];exact hrt) ?_
          refine (ihm (sumTo gs'.size q') (by rw [hsz',<-hm];exact hlt) rfl (by rw [hsp h rfl];exact ha) (hG.rely Ro.trans hR) C').bind fun m' T'=>?_
          rintro ⟨gs2,a',w2,sl2,q2,B',rfl,k1,k2,k3,k4⟩;exact .here ⟨gs2,a',w2,sl2,q2,B',rfl,by omega,k2,k3,k4⟩
    intro B T gs w q sl a ha hG C;exact key _ rfl ha hG C
theorem RingO.unseat (C:RingO P OB WB B Iv Mem Inb h T gs w q):RingO P OB WB B Iv Mem (fun i=>if i=h then none else Inb i) h T gs w q:=by
  have hne:∀ i s',(if i=h then none else Inb i)=some s'->i≠h/\Inb i=some s':=fun i s' e=>by
    by_cases hi:i=h
    . rw [if_pos hi] at e;cases e
    . rw [if_neg hi] at e;exact⟨hi,e⟩
  refine⟨fun x y hx hy=>?_,fun i s' c z e hc=>C.chans i s' c z (hne i s' e).2 hc,fun i s' c e hc=>C.far i s' c (hne i s' e).2 hc,fun i s' e=>C.wf i s' (hne i s' e).2,fun _ _ hx=>hx.elim,fun i i' sx sv c eq ez h1 h2=>C.inj i i' sx sv c (hne _ _ eq).2 (hne _ _ ez).2 h1 h2,C.above,fun i s' e=>C.mem i s' (hne i s' e).2,fun i hM=>?_,fun i s' hi e=>⟨hi,by show (if i=h then none else Inb i).isSome=true;rw [e];rfl⟩,?_,C.apart,C.ivst,C.lowB⟩
  . show zgZ P OB WB B Iv T x (q x) y w (if x=h then none else Inb x)
    rw [if_neg hx];exact C.idle x y hx hy
  . by_cases hi:i=h
    . exact .inr hi
    . rcases C.nomem i hM with z|z
      . exact .inl (by show (if i=h then none else Inb i)≠none;rw [if_neg hi];exact z)
      . exact .inr z
  . refine C.past.fewer (fun g hg=>hg) fun g ⟨h1,h2⟩=>⟨h1,?_⟩;show (if g=h then none else Inb g).isSome=true
    rw [if_neg h1];exact h2
end
section
variable {P:Program} {σ:Type} {X:Face P σ} {OB WB:Nat->Prop} {B:Nat} {Iv:Nat->World->Prop} {Mem:Nat->Prop} {Inb:Nat->Option Seat} {T:Trace} {gs:Array Goroutine} {w:World} {q:Nat->Nat} {h:Nat}
structure zpr (X:Face P σ) (WB:Nat->Prop):Prop where
  cell:∀ F S w b,X.rep F S w->X.fp F S b->∃ c el fr,w.heap[b]?=some (.cells c el fr)
  soft:∀ F S w w',X.rep F S w->w.heap.size<=w'.heap.size->(∀ b,X.fp F S b->∃ c el fr fr',w.heap[b]?=some (.cells c el fr)/\w'.heap[b]?=some (.cells c el fr')/\(WB b\/fr'=fr))->X.rep F S w'
def Vis (X:Face P σ) (F:Emb) (c:Conf σ) (b:Nat):Prop:=(∃ n r,(heap c).get n=some r/\F.blk n=b)\/X.fp F (st c) b
def zht (X:Face P σ) (F:Emb) (c:Conf σ) (b:Nat):Prop:=(∃ n r,(heap c).get n=some r/\r.ro=false/\F.blk n=b)\/X.fp F (st c) b
def RInv (X:Face P σ) (F:Emb) (c:Conf σ) (w:World):Prop:=InvC X F w (fun _=>True) c w
open Classical in
noncomputable def zeD (BB RR:Nat->Prop) (w:World):World:={ w with heap:=w.heap.mapIdx fun b o=>if BB b then zrc else if RR b then (match o with|.cells c el _=>.cells c el (0,c.size)|o=>o) else o }
theorem zfk {BB RR:Nat->Prop} (w:World) (b:Nat):(zeD BB RR w).heap[b]?=(w.heap[b]?).map fun o=>open Classical in if BB b then zrc else if RR b then (match o with|.cells c el _=>.cells c el (0,c.size)|o=>o) else o:=by
  simp [zeD,Array.getElem?_mapIdx]
theorem zkU {BB RR:Nat->Prop} {w:World} (hlow:∀ b,BB b\/RR b->b<w.heap.size) (hv:∀ b o,¬ BB b->w.heap[b]?=some o->zhV o=false) (hR:∀ b,RR b->¬ BB b->∃ c el fr,w.heap[b]?=some (.cells c el fr)):Shade BB RR (zeD BB RR w) w:=by
  have hsz:(zeD BB RR w).heap.size=w.heap.size:=by simp [zeD]
  refine⟨hsz,hlow,fun b h1 h2=>?_,fun b h1=>?_,fun b h1 h2=>?_,fun b o h1 h2=>?_⟩
  . rw [zfk];simp [h1,h2]
  . rw [zfk,Array.getElem?_eq_getElem (hlow b (.inl h1))];simp [h1]
  . obtain⟨c,el,fr,hc⟩:=hR b h1 h2;exact⟨c,el,fr,hc,by rw [zfk,hc];simp [h1,h2]⟩
  . rw [zfk] at h2;obtain⟨o',ho',rfl⟩:=Option.map_eq_some_iff.1 h2;have:=hv b o' h1 ho';simp only [h1,if_false];split
    . cases o'<;>first|rfl|exact this
    . exact this
theorem ziG {BB RR:Nat->Prop} {w0 w:World} (S:Shade BB RR w0 w) {fr:Frame} {v:Value} (hl:fr.leaving P w0 (.returned v)):fr.leaving P w (.returned v):=by
  obtain⟨h1,h2,h3,fn,h4,h5⟩:=hl;refine⟨h1,h2,h3,fn,h4,?_⟩;have T:=zdZ (P:=P) fn fr.tmps;have h6:(results fn fr.tmps).runT P w0 #[]=(.ok v w0,(results fn fr.tmps).events P w0 #[]):=by rw [Sem.runT_eq,h5]
  obtain⟨w',h7,S',hsz,hfr,hws,hdr,_⟩:=zkJ P _ T S h6 (fun i q hi=>by omega)
  have hh:w'.heap=w.heap:=Array.ext_getElem? fun b=>by
    by_cases hb:BB b\/RR b
    . exact hfr b hb
    . rw [<-S.same b (fun z=>hb (.inl z)) (fun z=>hb (.inr z)),<-S'.same b (fun z=>hb (.inl z)) (fun z=>hb (.inr z))]
  have hw:w'=w:=by
    rw [hws,hh,show w'.drawn=w.drawn by omega]
  have h8:=h7;rw [Sem.runT_eq,Prod.mk.injEq] at h8;rw [h8.1,hw]
def EvO (OB WB:Nat->Prop) (h:Nat) (w:World) (e:Event):Prop:=e=⟨.mark .noRoom,false,true⟩\/(e.sync=false/\∃ a:Addr,e.loc=.cell a/\a.block<w.heap.size/\(e.write=true->¬ (WB a.block/\3<=a.off))/\(OB a.block->h=0))
def zgp (P:Program) (OB WB:Nat->Prop) (h:Nat) (F:Emb) (b:Frame) (cs:List Frame):Conf σ->World->Goroutine->Prop
  | .run todo tmps _ _,_,g=>g=Go.Conc.G (b.at (actF F tmps) todo) cs
  | .done v _ _,w,g=>∃ fr,g=Go.Conc.G fr cs/\fr.fn=b.fn/\(∀ w1,Ro OB h w w1->fr.leaving P w1 (.returned (ren F v))) /\
      ∀ c0 cs0,cs=c0::cs0->∀ w1,Ro OB h w w1->∃ es,stepG P (h==0) g w1=.go (Go.Conc.G (c0.finish (ren F v)) cs0) w1 es/\∀ e∈es,EvO OB WB h w1 e
theorem DO.quiet {Inb:Nat->Option Seat} {w:World} {es:Array Event} (h':∀ e∈es,EvO OB WB h w e):DO OB WB Inb h w w es:=⟨fun _ _ _ _ _=>rfl,fun _ _ _=>rfl,fun _ _ _=>rfl,Nat.le_refl _,rfl,h'⟩
structure zto (X:Face P σ) (OB WB:Nat->Prop) (h:Nat) (A:Conf σ->Prop) (b:Frame) (cs:List Frame) (c:Conf σ) (F:Emb) (w:World) (c':Conf σ) (F':Emb) (w':World) (g':Goroutine):Prop where
  done:A c'
  stands:zgp P OB WB h F' b cs c' w' g'
  inv:RInv X F' c' w'
  same:Same (Kn (heap c).next (X.cnt (st c))) F F'
  cnt:X.cnt (st c)<=X.cnt (st c')
  next:(heap c).next<=(heap c').next
  keep:∀ x,x<w.heap.size->¬ zht X F c x->¬ (OB x/\h≠0)->w'.heap[x]?=w.heap[x]?
  size:w.heap.size<=w'.heap.size
  os:w'.os=w.os
  tape:w'.tape=w.tape
  output:w'.output=w.output
  vis:∀ x,Vis X F' c' x->x<w.heap.size->Vis X F c x
  keepW:∀ x,WB x->w'.heap[x]?=w.heap[x]?
  wro:∀ n r,(heap c').get n=some r->WB (F'.blk n)->r.ro=true
  turns:∀ x,zht X F' c' x->x<w.heap.size->zht X F c x
theorem zcX {F:Emb} {c:Conf σ} (hX:zpr X WB) (I:RInv X F c w) {b:Nat} (hv:Vis X F c b):∃ cc el fr,w.heap[b]?=some (.cells cc el fr):=by
  rcases hv with ⟨n,r,hr,rfl⟩|hf
  . obtain⟨pre,post,fr,h1,_⟩:=I.1.holds.row n r hr;exact⟨_,_,_,h1⟩
  . exact hX.cell _ _ _ _ I.1.rep hf
theorem zhG (hX:zpr X WB) {fn:Func} {A:Conf σ->Prop} {todo:List Item} {tmps:List Value} {hh:AHeap} {S0:σ} (G:Goes X fn A (.run todo tmps hh S0)) {b:Frame} {cs:List Frame} {F:Emb} {g:Goroutine} {sl:Option (Nat × Nat)} (hb:P.funcs[b.fn]?=some fn) (hk:b.kind=.normal) (C:RingO P OB WB B Iv Mem Inb h T gs w q) (hg:gs[h]?=some g) (hS:g=Go.Conc.G (b.at (actF F tmps) todo) cs) (I:RInv X F (.run todo tmps hh S0) w)
    (hown:∀ x,OB x->h≠0->¬ Vis X F (.run todo tmps hh S0) x) (hWB:∀ x,WB x->Vis X F (.run todo tmps hh S0) x->∃ cc el fr,w.heap[x]?=some (.cells cc el fr)/\cc.size≠0) (hro:∀ n r,hh.get n=some r->WB (F.blk n)->r.ro=true) (hOlow:∀ x,OB x->x<w.heap.size) (hWlow:∀ x,WB x->x<w.heap.size) :
    Reach P (crowd gs w sl) T fun m' T'=>∃ gs' g' w' sl' q' B' c' F',m'=crowd gs' w' sl'/\gs'.size=gs.size/\gs'[h]?=some g'/\zto X OB WB h A b cs (.run todo tmps hh S0) F w c' F' w' g'/\RingO P OB WB B' Iv Mem Inb h T' gs' w' q':=by
  generalize hc0:(Conf.run todo tmps hh S0:Conf σ)=c at *
  let BB:Nat->Prop:=fun x=>x<w.heap.size/\¬ Vis X F c x
  let RR:Nat->Prop:=fun x=>x<w.heap.size/\WB x/\Vis X F c x
  have hvr:∀ x,Vis X F c x->∃ cc el fr,w.heap[x]?=some (.cells cc el fr):=fun x hv=>zcX hX I hv;have hvlow:∀ x,Vis X F c x->x<w.heap.size:=fun x hv=>by
    obtain⟨cc,el,fr,h1⟩:=hvr x hv;exact zab h1
  have S:Shade BB RR (zeD BB RR w) w:=zkU (fun x hx=>hx.elim (·.1) (·.1)) (fun x o h1 h2=>by
      have hlt:=zab h2;have hv:Vis X F c x:=Classical.byContradiction fun z=>h1 ⟨hlt,z⟩;obtain⟨cc,el,fr,h3⟩:=hvr x hv;rw [h3] at h2;cases h2;rfl) (fun x h1 _=>hvr x h1.2.2)
  generalize hws:zeD BB RR w=ws at S;have hsz:ws.heap.size=w.heap.size:=S.size
  -- the invariant in the shade
  have hat:∀ x,Vis X F c x->∃ cc el fr fr',w.heap[x]?=some (.cells cc el fr)/\ws.heap[x]?=some (.cells cc el fr')/\(WB x\/fr'=fr):=fun x hv=>by
    obtain⟨cc,el,fr,h1⟩:=hvr x hv;have hnB:¬ BB x:=fun z=>z.2 hv;by_cases hW:WB x
    . have hR:RR x:=⟨hvlow x hv,hW,hv⟩;obtain⟨c',el',fr',h3,h4⟩:=S.cold x hR hnB;rw [h1] at h3;cases h3;exact⟨cc,el,fr,_,h1,h4,.inl hW⟩
    . exact⟨cc,el,fr,fr,h1,by rw [S.same x hnB (fun z=>hW z.2.1)];exact h1,.inr rfl⟩
  have hH:Holds F (heap c) ws:=by
    refine⟨fun n r hr=>?_,I.1.holds.apart⟩;obtain⟨pre,post,fr,h1,h2,h3,h4,h5⟩:=I.1.holds.row n r hr;obtain⟨cc,el,fr0,fr',h6,h7,h8⟩:=hat _ (.inl ⟨n,r,hr,rfl⟩);rw [h1] at h6;cases h6;refine⟨pre,post,fr',h7,h2,fun hro'=>?_,h4,h5⟩;rcases h8 with hW|rfl
    . subst hc0;have:=hro n r hr hW;rw [hro'] at this;cases this
    . exact h3 hro'
  have hrep:X.rep F (st c) ws:=hX.soft _ _ _ _ I.1.rep (by omega) fun x hf=>hat x (.inr hf)
  have hI:InvC X F ws (zht X F c) c ws :=
    ⟨⟨hH,hrep,I.1.vst,I.1.hst,I.1.hk,I.1.hand,I.1.klim,Kept.refl _ _,fun n r hr hro' _=>.inl ⟨n,r,hr,hro',rfl⟩,fun x hf _=>.inr hf,I.1.sep⟩,I.2⟩
  have hFo:zgG OB WB Inb h BB RR:=⟨fun x hO h0=>⟨hOlow x hO,hown x hO h0⟩,fun x hW=>by
      by_cases hv:Vis X F c x
      . exact .inr ⟨hWlow x hW,hW,hv⟩
      . exact .inl ⟨hWlow x hW,hv⟩,fun i s x hi hs=>by
      obtain⟨cap,k,hx⟩:=C.chans i s x (fun z=>z) hi hs;refine⟨zab hx,fun hv=>?_⟩;obtain⟨cc,el,fr,h1⟩:=hvr x hv;rw [h1] at hx;cases hx⟩
  have hT:=G.tree (b:=b) (cs:=cs) (g:=g) hb hk (by subst hc0;exact hS) hI S.nov
  refine (ziN (fun g' w' hE=>?_) hT _ rfl hg S hFo C).bind fun m' T'=>?_
  . obtain⟨_,c',F',_,hst,_⟩:=hE;cases c' with
    | run=>rw [show g'=_ from hst];rfl
    | done=>obtain⟨fr,rfl,_⟩:=hst;rfl
  rintro ⟨gs',g',w0',w',sl',q',B',rfl,k1,k2,⟨hN,c',F',k3,k4,k5,k6,k7,k8⟩,S',k9,C'⟩;have hne:∀ x,RR x->∃ cc el fr,w'.heap[x]?=some (.cells cc el fr)/\cc.size≠0:=fun x hR=>by
    obtain⟨cc,el,fr,h1,h2⟩:=hWB x hR.2.1 hR.2.2;exact⟨cc,el,fr,by rw [k9.keep x (.inr hR) fun z=>C.apart x z.1 hR.2.1];exact h1,h2⟩
  have hnB:∀ x cc el fr,w0'.heap[x]?=some (.cells cc el fr)->¬ BB x:=fun x cc el fr h1 hB=>by
    rw [S'.dead x hB] at h1;cases h1
  have hback:∀ x cc el fr,w0'.heap[x]?=some (.cells cc el fr)->∃ fr',w'.heap[x]?=some (.cells cc el fr')/\((RR x/\cc.size≠0/\fr=(0,cc.size))\/fr'=fr):=fun x cc el fr h1=>by
    have hB:=hnB x cc el fr h1;by_cases hR:RR x
    . obtain⟨c1,e1,f1,h2,h3⟩:=S'.cold x hR hB;rw [h1] at h3;cases h3;obtain⟨c2,e2,f2,h4,h5⟩:=hne x hR;rw [h2] at h4;cases h4;exact⟨_,h2,.inl ⟨hR,h5,rfl⟩⟩
    . exact⟨fr,by rw [<-S'.same x hB hR];exact h1,.inr rfl⟩
  have hH':Holds F' (heap c') w':=by
    refine⟨fun n r hr=>?_,k5.1.holds.apart⟩;obtain⟨pre,post,fr,h1,h2,h3,h4,h5⟩:=k5.1.holds.row n r hr;obtain⟨fr',h6,h7⟩:=hback _ _ _ _ h1;refine⟨pre,post,fr',h6,h2,fun hro'=>?_,h4,h5⟩;have h8:=h3 hro';rcases h7 with ⟨_,h9,h10⟩|rfl
    . rw [h8] at h10;simp only [Prod.mk.injEq] at h10;exact absurd h10.2.symm h9
    . exact h8
  have hrep':X.rep F' (st c') w':=hX.soft _ _ _ _ k5.1.rep (by have:=S'.size;omega) fun x hf=>by
    obtain⟨cc,el,fr,h1⟩:=hX.cell _ _ _ _ k5.1.rep hf;obtain⟨fr',h6,h7⟩:=hback _ _ _ _ h1;exact⟨cc,el,fr,fr',h1,h6,h7.imp (·.1.2.1) id⟩
  have hvis:∀ x,Vis X F' c' x->x<w.heap.size->Vis X F c x:=fun x hv hlt=>by
    have:∃ cc el fr,w0'.heap[x]?=some (.cells cc el fr):=by
      rcases hv with ⟨n,r,hr,rfl⟩|hf
      . obtain⟨pre,post,fr,h1,_⟩:=k5.1.holds.row n r hr;exact⟨_,_,_,h1⟩
      . exact hX.cell _ _ _ _ k5.1.rep hf
    obtain⟨cc,el,fr,h1⟩:=this;exact Classical.byContradiction fun z=>hnB _ _ _ _ h1 ⟨hlt,z⟩
  refine .here ⟨gs',g',w',sl',q',B',c',F',rfl,k1,k2,⟨k3,?_,⟨⟨hH',hrep',k5.1.vst,k5.1.hst,k5.1.hk,k5.1.hand,k5.1.klim,Kept.refl _ _,fun _ _ _ _ _=>trivial,fun _ _ _=>trivial,k5.1.sep⟩,k5.2⟩,k6,k7,k8,fun x hlt hM hO=>?_,k9.size,k9.os,k9.tape,k9.output,hvis,fun x hW=>?_,fun n r hr hW=>?_,fun x hx hl=>?_⟩,C'⟩
  . cases c' with
    | run=>exact k4
    | done v hh S =>
      obtain⟨fr,h1,h2,h3⟩:=k4;have hsh:∀ w1,Ro OB h w' w1->Shade BB RR w0' w1:=fun w1 hw1=>zhU S' hw1.size fun b hb=>hw1.only b fun hO=>hb ⟨hOlow b hO.1,hown b hO.1 hO.2⟩;refine⟨fr,h1,h2,fun w1 hw1=>ziG (hsh w1 hw1) h3,fun c0 cs0 hcs w1 hw1=>?_⟩;subst hcs;obtain⟨_,es,x⟩:=(znv (c:=c0) (cs:=cs0) h3).2 hN;obtain⟨w2,g1,g2,g3,g4,g5,g6,g7⟩:=x.move BB RR (h==0) w1 (hsh w1 hw1) (fun i q hi=>by omega)
      have hh:w2.heap=w1.heap:=Array.ext_getElem? fun b=>by
        by_cases hb:BB b\/RR b
        . exact g4 b hb
        . rw [<-g2.same b (fun z=>hb (.inl z)) (fun z=>hb (.inr z)),<-(hsh w1 hw1).same b (fun z=>hb (.inl z)) (fun z=>hb (.inr z))]
      have hw2:w2=w1:=by
        rw [g5,hh,show w2.drawn=w1.drawn by omega]
      rw [hw2] at g1 g7;refine⟨es,by rw [h1];exact g1,fun e he=>?_⟩
      rcases g7 e he with h8|⟨h8,a,h9,h10,h11,h12⟩
      . exact .inl h8
      . refine .inr ⟨h8,a,h9,h12,fun hwr hW=>?_,fun hO=>Classical.byContradiction fun h0=>h10 (hFo.own _ hO h0)⟩;rcases hFo.waits _ hW.1 with z|z
        . exact h10 z
        . exact h11 hwr z
  . by_cases hB:BB x
    . exact k9.keep x (.inl hB) hO
    by_cases hR:RR x
    . exact k9.keep x (.inr hR) hO
    rw [<-S'.same x hB hR,<-S.same x hB hR];exact k5.1.kept.block x (by rw [<-hsz] at hlt;exact hlt) hM
  . exact k9.keep x ((hFo.waits x hW).imp id id) fun z=>C.apart x z.1 hW
  . obtain⟨pre,post,fr,h1,h2,h3,h4,h5⟩:=k5.1.holds.row n r hr;have hR:RR (F'.blk n):=(hFo.waits _ hW).resolve_left (hnB _ _ _ _ h1);obtain⟨fr',h6,h7⟩:=hback _ _ _ _ h1;cases hro':r.ro with
    | true=>rfl
    | false =>
      have h8:=h3 hro';obtain⟨c1,e1,f1,g1,g2⟩:=S'.cold _ hR (hnB _ _ _ _ h1);rw [h1] at g2;injection g2 with g2
      injection g2 with g3 g4 g5
      obtain⟨c2,e2,f2,g6,g7⟩:=hne _ hR;rw [g1] at g6;injection g6 with g6
      injection g6 with g6 _ _
      rw [h8] at g5;simp only [Prod.mk.injEq] at g5;exact absurd (g6 ▸ g5.2.symm) g7
  . rw [<-hsz] at hl;rcases hx with ⟨n,r,h1,h2,rfl⟩|hx
    . exact k5.1.own n r h1 h2 hl
    . exact k5.1.fown x hx hl
end
section
variable {OB WB:Nat->Prop} {B i h:Nat}
theorem Dw.none (w:World):Dw OB WB B i w w #[]:=⟨fun _ _=>rfl,rfl,rfl,fun e he=>by simp at he⟩
theorem Dw.quiet {w:World} {es:Array Event} (h:∀ e∈es,EvW OB WB B i e):Dw OB WB B i w w es:=⟨fun _ _=>rfl,rfl,rfl,h⟩
theorem zgt {a:Addr} {wr:Bool} (h0:i=0) (hO:OB a.block) (hB:a.block<B):EvW OB WB B i ⟨.cell a,wr,false⟩:=⟨a,hB,.inr ⟨h0,hO,wr,rfl⟩⟩
theorem zgU {a:Addr} (hW:WB a.block) (h3:3<=a.off) (hB:a.block<B):EvW OB WB B i ⟨.cell a,false,false⟩:=⟨a,hB,.inl ⟨rfl,hW,h3⟩⟩
structure KG (OB WB:Nat->Prop) (w0:World) (tb wb dn ak:Nat) (w:World):Prop where
  own:∀ b,OB b->w.heap[b]?=w0.heap[b]?
  hO:OB tb
  hW:WB wb
  port:w0.cell? ⟨tb,1,none⟩=some (.pointer (some ⟨wb,0,none⟩))
  done:w0.cell? ⟨tb,2,none⟩=some (.chan (some dn))
  has3:∃ v,w0.cell? ⟨tb,3,none⟩=some v
  free:w0.frozen? ⟨tb,3,none⟩=false
  ask:w.cell? ⟨wb,3,none⟩=some (.chan (some ak))
theorem KG.rely {w0 w w1:World} {tb wb dn ak:Nat} (K:KG OB WB w0 tb wb dn ak w) (h:Rl OB WB 0 w w1):KG OB WB w0 tb wb dn ak w1 :=
  ⟨fun b hb=>(h.2 rfl b hb).trans (K.own b hb),K.hO,K.hW,K.port,K.done,K.has3,K.free,(h.1 _ K.hW (Nat.le_refl 3)).trans K.ask⟩
theorem zbW (P:Program) (w:World) (es:Array Event) (a:Addr) (m:Mode) (x:Option Addr):(store a (.pointer x) m).events P w es=storedEv P w es a (.pointer x) m:=events_store P w es a _ m rfl
abbrev pt (b:Nat) (o:Nat:=0):Value:=.pointer (some ⟨b,o,none⟩)
def cL:Code->Code|.seq a _=>a|c=>c
def cR:Code->Code|.seq _ b=>b|c=>c
def cOps:Code->Array Oper|.region _ ops _=>ops|_=>#[]
noncomputable def zhj:Code:=(Try.f31.body).getD .skip
theorem heap_setCell (w:World) (a:Addr) (u:Value) (b:Nat):(w.setCell a u).heap[b]?=if a.block=b then (w.heap[b]?).map (fun|.cells c elem frozen=>.cells (if a.spot.isSome then c else c.setIfInBounds a.off u) elem frozen|o=>o) else w.heap[b]?:=by
  unfold World.setCell;simp only [Array.getElem?_modify];split<;>rfl
theorem zaZ (w w':World) (a:Addr) (h:w'.heap[a.block]?=w.heap[a.block]?):w'.cell? a=w.cell? a:=by
  unfold World.cell?;rw [h]
theorem zbB (w w':World) (a:Addr) (h:w'.heap[a.block]?=w.heap[a.block]?):w'.frozen? a=w.frozen? a:=by
  unfold World.frozen?;rw [h]
theorem za0 (w:World) (b o o':Nat) (u:Value) (h:o≠o'):(w.setCell ⟨b,o,none⟩ u).cell? ⟨b,o',none⟩=w.cell? ⟨b,o',none⟩:=by
  unfold World.cell?;rw [heap_setCell,if_pos rfl];cases w.heap[b]? with
  | none=>rfl
  | some x=>cases x<;>simp [Array.getElem?_setIfInBounds_ne h]
theorem KG.port' {w0 w:World} {tb wb dn ak:Nat} (K:KG OB WB w0 tb wb dn ak w):w.cell? ⟨tb,1,none⟩=some (.pointer (some ⟨wb,0,none⟩)):=(zaZ w0 w _ (K.own tb K.hO)).trans K.port
theorem KG.done' {w0 w:World} {tb wb dn ak:Nat} (K:KG OB WB w0 tb wb dn ak w):w.cell? ⟨tb,2,none⟩=some (.chan (some dn)):=(zaZ w0 w _ (K.own tb K.hO)).trans K.done
theorem KG.free' {w0 w:World} {tb wb dn ak:Nat} (K:KG OB WB w0 tb wb dn ak w):w.frozen? ⟨tb,3,none⟩=false:=(zbB w0 w _ (K.own tb K.hO)).trans K.free
theorem KG.has' {w0 w:World} {tb wb dn ak:Nat} (K:KG OB WB w0 tb wb dn ak w):∃ v,w.cell? ⟨tb,3,none⟩=some v:=by
  obtain⟨v,hv⟩:=K.has3;exact⟨v,(zaZ w0 w _ (K.own tb K.hO)).trans hv⟩
theorem KG.store {w0 w:World} {tb wb dn ak:Nat} (K:KG OB WB w0 tb wb dn ak w) (hne:wb≠tb):KG OB WB (w0.setCell ⟨tb,3,none⟩ (.pointer none)) tb wb dn ak (w.setCell ⟨tb,3,none⟩ (.pointer none)):=by
  refine⟨fun b hb=>?_,K.hO,K.hW,?_,?_,?_,?_,?_⟩
  . rw [heap_setCell,heap_setCell,K.own b hb]
  . rw [za0 _ _ _ _ _ (by decide)];exact K.port
  . rw [za0 _ _ _ _ _ (by decide)];exact K.done
  . obtain⟨v,hv⟩:=K.has3;obtain⟨c,el,fr,hb,hs,hc⟩:=zaK hv;refine⟨.pointer none,?_⟩;unfold World.cell?;rw [heap_setCell,if_pos rfl,hb];have:=(Array.getElem?_eq_some_iff.1 hc).1;simp [this]
  . rw [<-K.free];unfold World.frozen?;rw [heap_setCell,if_pos rfl];cases w0.heap[tb]? with
    | none=>rfl
    | some x=>cases x<;>simp
  . rw [zaZ w _ _ (by rw [heap_setCell,if_neg (fun e=>hne e.symm)])];exact K.ask
abbrev ztj (tb wb dn ak:Nat):Array Value:=#[pt tb,undef,undef,undef,pt tb,pt tb,pt tb 3,pt tb,pt tb,pt tb 1,pt wb,pt wb,pt wb 3,.chan (some ak),pt tb,pt tb,pt tb 2,.chan (some dn),undef,undef,undef,undef,undef,undef,undef,undef,undef,undef,undef,undef,undef,undef,undef]
theorem Dw.set {w:World} {a:Addr} {u:Value} {es:Array Event} (h0:i=0) (hO:OB a.block) (hs:∀ e∈es,EvW OB WB B i e):Dw OB WB B i w (w.setCell a u) es:=by
  refine⟨fun b hb=>?_,by simp [World.setCell],rfl,hs⟩
  rw [heap_setCell,if_neg (fun (e:a.block=b)=>hb ⟨h0,e ▸ hO⟩)]
theorem zoT {P:Program} {b:Frame} {a:Act} {ops:Array Oper} {i:Nat} {rest:List Nat} {kk:List Item} {cs:List Frame} {o:Oper} {s:Seat} (ho:ops[i]?=some o) (hw:Region.wanted o (yielded ops a.tmps)=true) (hk:b.kind≠.early)
    (hr:∀ w,(execOp a.eval o).run P w=.ok (.comm s.cases true s.shape) w) (he:∀ w,(execOp a.eval o).events P w #[]=#[])
    (h:s.home (G (b.at a (.inRegion ops (i::rest)::kk)) cs)):AtS P s (G (b.at a (.inRegion ops (i::rest)::kk)) cs) (G (b.at a (.inRegion ops (i::rest)::kk)) cs) :=
  ⟨rfl,rfl,rfl,rfl,h,fun main w=>by rw [stepG_comm ho hw hk (hr _),listed_none (he _)]⟩
abbrev accZ:Value:=.agg #[.int .u8 0,.int .i64 0,.int .u64 0,.int .u64 0]
noncomputable def zeS:Array Oper:=cOps (cL (cR (cR zhj)))
noncomputable def ze7:Code:=cR (cR (cR zhj))
noncomputable def zh7 (tb wb dn ak:Nat) (cs:List Frame):Goroutine:=G ((base 31).at ⟨ztj tb wb dn ak,[]⟩ [.inRegion zeS [0,1,2,3],.code ze7]) cs
noncomputable def zbR (tb wb dn ak:Nat) (cs:List Frame):Seat:={ cases:=#[rcase ak accZ,rcase dn .nilIface],shape:=.select,home:=fun g=>g=zh7 tb wb dn ak cs }
set_option maxRecDepth 100000 in
theorem zk4 {w0 w:World} {tb wb dn ak:Nat} (hK:KG OB WB w0 tb wb dn ak w) (hne:wb≠tb) (htB:tb<B) (hwB:wb<B) (cs:List Frame) :
    Conc.Goes Try.prog true (Rl OB WB 0) (Dw OB WB B 0) (fun g w=>(∃ gq,AtS Try.prog (zbR tb wb dn ak cs) g gq)/\KG OB WB (w0.setCell ⟨tb,3,none⟩ (.pointer none)) tb wb dn ak w) 40 (G ((base 31).at ⟨#[pt tb,undef,undef,undef,undef,undef,undef,undef,undef,undef,undef,undef,undef,undef,undef,undef,undef,undef,undef,undef,undef,undef,undef,undef,undef,undef,undef,undef,undef,undef,undef,undef,undef],[]⟩ [.code zhj]) cs) w:=by
  simp only [zhj,Try.f31,Option.getD_some];(refine Conc.Goes.step rfl (fun w₁ h₁=>?_);replace hK:=hK.rely h₁;clear h₁;rw [stepG_seq];simp only [goes_go];refine⟨Dw.none _,?_⟩);(refine Conc.Goes.step rfl (fun w₁ h₁=>?_);replace hK:=hK.rely h₁;clear h₁;rw [stepG_region];simp only [goes_go,List.size_toArray,List.length_cons,List.length_nil,Nat.reduceAdd,Nat.zero_add,List.range,List.range.loop];refine⟨Dw.none _,?_⟩);(refine Conc.Goes.step rfl (fun w₁ h₁=>?_);replace hK:=hK.rely h₁;clear h₁;refine goes_oper_k rfl rfl (by decide) (fun K hK'=>?_);go_simp;refine hK' _ _ ⟨Dw.quiet (fun e he=>(by have hm:=mem_listed he;simp [go_sem,Instr.makeInterface,Instr.makeFunc] at hm)),?_⟩;clear hK' K)
  (refine Conc.Goes.step rfl (fun w₁ h₁=>?_);replace hK:=hK.rely h₁;clear h₁;refine goes_oper_k rfl rfl (by decide) (fun K hK'=>?_);go_simp;refine hK' _ _ ⟨Dw.quiet (fun e he=>(by have hm:=mem_listed he;simp [go_sem,Instr.makeInterface,Instr.makeFunc] at hm)),?_⟩;clear hK' K);(refine Conc.Goes.step rfl (fun w₁ h₁=>?_);replace hK:=hK.rely h₁;clear h₁;refine goes_oper_k rfl rfl (by decide) (fun K hK'=>?_);go_simp;refine hK' _ _ ⟨Dw.quiet (fun e he=>(by have hm:=mem_listed he;simp [go_sem,Instr.makeInterface,Instr.makeFunc] at hm)),?_⟩;clear hK' K);refine Conc.Goes.step rfl (fun w₁ h₁=>?_);replace hK:=hK.rely h₁
  clear h₁;obtain⟨v3,hv3⟩:=hK.has';have hz:=hK.free';refine goes_oper_k rfl rfl (by decide) (fun K hK'=>?_)
  go_simp
  refine hK' _ _ ⟨Dw.set rfl hK.hO (fun e he=>(by have hm:=mem_listed he;simp [go_sem,zbW,storedEv,hv3,hz] at hm;subst hm;exact zgt rfl hK.hO htB)),?_⟩
  clear hK' K hv3 hz;replace hK:=hK.store hne;(refine Conc.Goes.step rfl (fun w₁ h₁=>?_);replace hK:=hK.rely h₁;clear h₁;rw [stepG_region_end];simp only [goes_go];refine⟨Dw.none _,?_⟩);(refine Conc.Goes.step rfl (fun w₁ h₁=>?_);replace hK:=hK.rely h₁;clear h₁;rw [stepG_seq];simp only [goes_go];refine⟨Dw.none _,?_⟩);(refine Conc.Goes.step rfl (fun w₁ h₁=>?_);replace hK:=hK.rely h₁;clear h₁;rw [stepG_seq];simp only [goes_go];refine⟨Dw.none _,?_⟩);(refine Conc.Goes.step rfl (fun w₁ h₁=>?_);replace hK:=hK.rely h₁;clear h₁;rw [stepG_region];simp only [goes_go,List.size_toArray,List.length_cons,List.length_nil,Nat.reduceAdd,Nat.zero_add,List.range,List.range.loop];refine⟨Dw.none _,?_⟩);(refine Conc.Goes.step rfl (fun w₁ h₁=>?_);replace hK:=hK.rely h₁;clear h₁;refine goes_oper_k rfl rfl (by decide) (fun K hK'=>?_);go_simp;refine hK' _ _ ⟨Dw.quiet (fun e he=>(by have hm:=mem_listed he;simp [go_sem,Instr.makeInterface,Instr.makeFunc] at hm)),?_⟩;clear hK' K)
  (refine Conc.Goes.step rfl (fun w₁ h₁=>?_);replace hK:=hK.rely h₁;clear h₁;refine goes_oper_k rfl rfl (by decide) (fun K hK'=>?_);go_simp;refine hK' _ _ ⟨Dw.quiet (fun e he=>(by have hm:=mem_listed he;simp [go_sem,Instr.makeInterface,Instr.makeFunc] at hm)),?_⟩;clear hK' K);(refine Conc.Goes.step rfl (fun w₁ h₁=>?_);replace hK:=hK.rely h₁;clear h₁;refine goes_oper_k rfl rfl (by decide) (fun K hK'=>?_);go_simp;refine hK' _ _ ⟨Dw.quiet (fun e he=>(by have hm:=mem_listed he;simp [go_sem,Instr.makeInterface,Instr.makeFunc] at hm)),?_⟩;clear hK' K);(refine Conc.Goes.step rfl (fun w₁ h₁=>?_);replace hK:=hK.rely h₁;clear h₁;have hF:=hK.port';refine goes_oper_k rfl rfl (by decide) (fun K hK'=>?_);go_simp;refine hK' _ _ ⟨Dw.quiet (fun e he=>(by have hm:=mem_listed he;simp [go_sem,hF] at hm;subst hm;exact zgt rfl hK.hO htB)),?_⟩;clear hK' K hF);(refine Conc.Goes.step rfl (fun w₁ h₁=>?_);replace hK:=hK.rely h₁;clear h₁;refine goes_oper_k rfl rfl (by decide) (fun K hK'=>?_);go_simp;refine hK' _ _ ⟨Dw.quiet (fun e he=>(by have hm:=mem_listed he;simp [go_sem,Instr.makeInterface,Instr.makeFunc] at hm)),?_⟩;clear hK' K);(refine Conc.Goes.step rfl (fun w₁ h₁=>?_);replace hK:=hK.rely h₁;clear h₁;refine goes_oper_k rfl rfl (by decide) (fun K hK'=>?_);go_simp;refine hK' _ _ ⟨Dw.quiet (fun e he=>(by have hm:=mem_listed he;simp [go_sem,Instr.makeInterface,Instr.makeFunc] at hm)),?_⟩;clear hK' K);(refine Conc.Goes.step rfl (fun w₁ h₁=>?_);replace hK:=hK.rely h₁;clear h₁;have hF:=hK.ask;refine goes_oper_k rfl rfl (by decide) (fun K hK'=>?_);go_simp;refine hK' _ _ ⟨Dw.quiet (fun e he=>(by have hm:=mem_listed he;simp [go_sem,hF] at hm;subst hm;exact zgU hK.hW (Nat.le_refl 3) hwB)),?_⟩;clear hK' K hF);(refine Conc.Goes.step rfl (fun w₁ h₁=>?_);replace hK:=hK.rely h₁;clear h₁;rw [stepG_region_end];simp only [goes_go];refine⟨Dw.none _,?_⟩);(refine Conc.Goes.step rfl (fun w₁ h₁=>?_);replace hK:=hK.rely h₁;clear h₁;rw [stepG_region];simp only [goes_go,List.size_toArray,List.length_cons,List.length_nil,Nat.reduceAdd,Nat.zero_add,List.range,List.range.loop];refine⟨Dw.none _,?_⟩);(refine Conc.Goes.step rfl (fun w₁ h₁=>?_);replace hK:=hK.rely h₁;clear h₁;refine goes_oper_k rfl rfl (by decide) (fun K hK'=>?_);go_simp;refine hK' _ _ ⟨Dw.quiet (fun e he=>(by have hm:=mem_listed he;simp [go_sem,Instr.makeInterface,Instr.makeFunc] at hm)),?_⟩;clear hK' K);(refine Conc.Goes.step rfl (fun w₁ h₁=>?_);replace hK:=hK.rely h₁;clear h₁;refine goes_oper_k rfl rfl (by decide) (fun K hK'=>?_);go_simp;refine hK' _ _ ⟨Dw.quiet (fun e he=>(by have hm:=mem_listed he;simp [go_sem,Instr.makeInterface,Instr.makeFunc] at hm)),?_⟩;clear hK' K);(refine Conc.Goes.step rfl (fun w₁ h₁=>?_);replace hK:=hK.rely h₁;clear h₁;refine goes_oper_k rfl rfl (by decide) (fun K hK'=>?_);go_simp;refine hK' _ _ ⟨Dw.quiet (fun e he=>(by have hm:=mem_listed he;simp [go_sem,Instr.makeInterface,Instr.makeFunc] at hm)),?_⟩;clear hK' K);(refine Conc.Goes.step rfl (fun w₁ h₁=>?_);replace hK:=hK.rely h₁;clear h₁;have hF:=hK.done';refine goes_oper_k rfl rfl (by decide) (fun K hK'=>?_);go_simp;refine hK' _ _ ⟨Dw.quiet (fun e he=>(by have hm:=mem_listed he;simp [go_sem,hF] at hm;subst hm;exact zgt rfl hK.hO htB)),?_⟩;clear hK' K hF);(refine Conc.Goes.step rfl (fun w₁ h₁=>?_);replace hK:=hK.rely h₁;clear h₁;rw [stepG_region_end];simp only [goes_go];refine⟨Dw.none _,?_⟩);(refine Conc.Goes.step rfl (fun w₁ h₁=>?_);replace hK:=hK.rely h₁;clear h₁;rw [stepG_seq];simp only [goes_go];refine⟨Dw.none _,?_⟩);(refine Conc.Goes.step rfl (fun w₁ h₁=>?_);replace hK:=hK.rely h₁;clear h₁;rw [stepG_region];simp only [goes_go,List.size_toArray,List.length_cons,List.length_nil,Nat.reduceAdd,Nat.zero_add,List.range,List.range.loop];refine⟨Dw.none _,?_⟩);refine Conc.Goes.stop (fun w₁ h₁=>⟨⟨_,zoT rfl rfl (by decide) (fun w=>by simp [go_sem,execOp,rcase,Act.eval,zbR]) (fun w=>by simp [go_sem,execOp,Act.eval]) (by simp only [zbR,zh7,zeS,ze7,zhj,cOps,cL,cR,Try.f31,Option.getD_some])⟩,hK.rely h₁⟩)
end
end Go.Proofs.Ytgndgbnhkoppmaa
