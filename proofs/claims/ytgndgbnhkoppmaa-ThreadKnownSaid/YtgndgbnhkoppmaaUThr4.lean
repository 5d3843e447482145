/-
  What a run with calls that hand over comes to, in company: by what each such call comes to.
  Condition: each call that is known does what is said of it (zau).
-/
import Derived.Test.YtgndgbnhkoppmaaUPm3
set_option maxHeartbeats 40000000
set_option linter.unusedVariables false
set_option linter.unusedSimpArgs false
namespace Go.Proofs.Ytgndgbnhkoppmaa
open Go Go.Conc
open Go.ConcN (sumTo upd sumTo_upd upd_ne upd_same)
section
variable {p:Par} {Su:SuT} {S0:St} {F F':Emb} {c:Conf St} {Inb:Nat->Option Seat} {gs gs':Array Goroutine} {w w':World} {T T':Trace}
variable (hok:∀ mn OB WB,zau mn OB WB)
theorem znO {P:Program} {OB WB:Nat->Prop} {B:Nat} {Iv:Nat->World->Prop} {Mem:Nat->Prop} {h:Nat} {q:Nat->Nat} {sl:Option (Nat × Nat)} {a a':Goroutine} (C:RingO P OB WB B Iv Mem Inb h T gs w q) (hg:gs[h]?=some a) (hx:∀ w0,XS P a w0 a' w0) (hr':a'.status=.running)
    (hO:∀ x,OB x->x<w.heap.size) (hW:∀ x,WB x->x<w.heap.size) :
    Reach P (crowd gs w sl) T fun m' T'=>∃ gs' w' sl' q' B',m'=crowd gs' w' sl'/\gs'.size=gs.size/\gs'[h]?=some a'/\Ro OB h w w'/\RingO P OB WB B' Iv Mem Inb h T' gs' w' q':=by
  let BB:Nat->Prop:=fun x=>x<w.heap.size
  let RR:Nat->Prop:=fun _=>False
  have S:Shade BB RR (zeD BB RR w) w:=zkU (fun x hx=>hx.elim id False.elim) (fun x o h1 h2=>absurd (zab h2) h1) (fun x h1=>h1.elim);have hFo:zgG OB WB Inb h BB RR:=⟨fun x hx _=>hO x hx,fun x hx=>.inl (hW x hx),fun i s x hi hs=>by
    obtain⟨cap,k,hc⟩:=C.chans i s x (fun z=>z) hi hs;exact zab hc⟩
  have hT:Tree P (fun g w0=>g=a'/\w0.heap.size=w.heap.size) a (zeD BB RR w):=.step (fun t=>(a',WT (zeD BB RR w) t)) (fun t=>hx _) (fun t=>.here ⟨rfl,S.size⟩);refine (ziN (fun g w0 hE=>by rw [hE.1];exact hr') hT _ rfl hg S hFo C).bind fun m' T'=>?_
  rintro ⟨gs',g',w0',w',sl',q',B',rfl,k1,k2,⟨rfl,k3⟩,S',k4,C'⟩;have hsz:w'.heap.size=w.heap.size:=by rw [<-S'.size,k3]
  refine .here ⟨gs',w',sl',q',B',rfl,k1,k2,⟨fun b hb=>?_,hsz,?_⟩,C'⟩
  . by_cases hlt:b<w.heap.size
    . exact k4.keep b (.inl hlt) hb
    . rw [Array.getElem?_eq_none (by omega),Array.getElem?_eq_none (by omega)]
  . have h1:=k4.os;have h2:=k4.tape;have h3:=k4.output;cases w;cases w';simp_all
theorem Standing.grown (H:Standing p hok Su S0 F c Inb gs w T) (hSu:zcu Su) (hro:∀ x,x<w.heap.size->¬ (p.OB x/\p.h≠0)->w'.heap[x]?=w.heap[x]?) (hs:w.heap.size<=w'.heap.size) (hsz:gs'.size=gs.size) (hr:∃ B Mem q,RingO Try.prog p.OB p.WB B p.Iv Mem Inb p.h T' gs' w' q/\Mem 0/\Mem p.h):Standing p hok Su S0 F c Inb gs' w' T':=by
  have hc:=H.com;have hv:∀ x,Vis (p.X hok) F c x->w'.heap[x]?=w.heap[x]?:=fun x hx=>by
    obtain⟨_,_,_,h1⟩:=zcX (XF.soft (hok _ _ _)) H.inv hx;exact hro x (zab h1) fun z=>H.ov z.2 x z.1 hx
  have hap:∀ x,p.OB x->¬ p.WB x:=by obtain⟨_,_,_,R,_⟩:=hc.ring;exact R.apart
  refine⟨hc.turn hSu (Same.refl _ _) (Nat.le_refl _) (Nat.le_refl _) H.inv.2 hs (zd9 fun x hx hO=>hro x (by obtain⟨_,_,_,_,_,_,h1⟩:=hx;exact zab h1) fun z=>hO z.1) hsz hr,?_,H.ov,fun x hx=>?_,fun x hx=>?_,H.wro,?_,H.same⟩
  . obtain⟨I,hl⟩:=H.inv;exact⟨⟨I.holds.kept fun n r hr=>hv _ (.inl ⟨n,r,hr,rfl⟩),(p.X hok).rep_kept _ _ _ _ I.rep hs fun b hb=>hv b (.inr hb),I.vst,I.hst,I.hk,I.hand,I.klim,Kept.refl _ _,fun _ _ _ _ _=>trivial,fun _ _ _=>trivial,I.sep⟩,hl⟩
  . obtain⟨h1,h2,h3,h4⟩:=H.prot x hx;exact⟨Nat.lt_of_lt_of_le h1 hs,h2,h3,(hro x h1 fun z=>h3 z.1).trans h4⟩
  . obtain⟨cc,el,h1,h2⟩:=H.wrow x hx;exact⟨cc,el,(hro x (zab h1) fun z=>hap x z.1 hx).trans h1,h2⟩
  . exact H.base.move hs (fun _ _ h=>h) (fun _ _ h=>h) (fun x hx _ h2 _=>hro x (Nat.lt_of_lt_of_le hx H.base.size) fun z=>h2 z.1) (fun _ _ _ h=>.inl h)
theorem Standing.moved (H:Standing p hok Su S0 F c Inb gs w T) (hSu:zcu Su) (hro:Ro p.OB p.h w w') (hsz:gs'.size=gs.size) (hr:∃ B Mem q,RingO Try.prog p.OB p.WB B p.Iv Mem Inb p.h T' gs' w' q/\Mem 0/\Mem p.h):Standing p hok Su S0 F c Inb gs' w' T' :=
  H.grown hok hSu (fun x _ hx=>hro.only x hx) (Nat.le_of_eq hro.size.symm) hsz hr
theorem Standing.conf {c':Conf St} (H:Standing p hok Su S0 F c Inb gs w T) (hh:heap c'=heap c) (hs:st c'=st c) (hv:∀ v∈vals c',Stab (Kn (heap c).next (st c).length) F v):Standing p hok Su S0 F c' Inb gs w T:=by
  have hc:=H.com;have hvis:∀ x,Vis (p.X hok) F c' x↔Vis (p.X hok) F c x:=fun x=>by unfold Vis;rw [hh,hs]
  have hturns:∀ x,zht (p.X hok) F c' x↔zht (p.X hok) F c x:=fun x=>by unfold zht;rw [hh,hs]
  refine⟨by rw [hh,hs];exact hc,?_,fun h0 x hx=>by rw [hvis];exact H.ov h0 x hx,fun x hx=>by rw [hvis];exact H.prot x hx,H.wrow,by rw [hh];exact H.wro,H.base.move (Nat.le_refl _) (fun x _ h=>(hturns x).1 h) (fun _ _ h=>h) (fun _ _ _ _ _=>rfl) (fun _ _ _ h=>.inl h),by rw [hh,hs];exact H.same⟩
  obtain⟨I,hl⟩:=H.inv;refine⟨?_,by rw [hh];exact hl⟩
  rw [hh,hs];exact⟨I.holds,I.rep,hv,I.hst,I.hk,I.hand,I.klim,Kept.refl _ _,fun _ _ _ _ _=>trivial,fun _ _ _=>trivial,I.sep⟩
theorem Standing.stab (H:Standing p hok Su S0 F c Inb gs w T):∀ v∈vals c,Stab (Kn (heap c).next (st c).length) F v:=fun v hv=>H.inv.1.vst v hv
def zhm (f:FuncId):Frame:={ (default:Frame) with fn:=f,kind:=.normal }
theorem zfL {f:FuncId} {g:Func} {cd:Code} {args:Array Value} (hf:Try.prog.funcs[f]?=some g) (hbd:g.body=some cd):Frame.enter Try.prog f (args.map (ren F)) .normal=(zhm f).at (actF F (zag g cd args).2) (zag g cd args).1:=by
  simp [Frame.enter,Frame.at,hf,hbd,zhm,actF,zag,zaS]
section
variable {ops:Array Oper} {i:Nat} {rest:List Nat} {k:List Item} {tmps:List Value} {h:AHeap} {S:St} {o:Oper} {f:FuncId} {args:Array Value} {b:Frame} {cs:List Frame} {g:Goroutine} {sl:Option (Nat × Nat)}
theorem zbY (hSu:zcu Su) {fg:Func} {cd:Code} (ho:ops[i]?=some o) (hw:Region.wanted o (zaj ops tmps)=true) (hb':o.op.operands.all zaN=true) (hca:zaW Try.prog (evA tmps) o.op=some (f,args)) (hf:Try.prog.funcs[f]?=some fg) (hgB:goB fg=true) (hbd:fg.body=some cd) (hk:b.kind=.normal)
    (H:Standing p hok Su S0 F (.run (.inRegion ops (i::rest)::k) tmps h S) Inb gs w T) (hg:gs[p.h]?=some g) (hS:g=Go.Conc.G (b.at (actF F tmps) (.inRegion ops (i::rest)::k)) cs) :
    Reach Try.prog (crowd gs w sl) T fun m' T'=>∃ gs' w' sl',m'=crowd gs' w' sl'/\gs'[p.h]?=some (Go.Conc.G ((zhm f).at (actF F (zag fg cd args).2) (zag fg cd args).1) (b.at (actF F tmps) (.inRegion ops (i::rest)::k)::cs))/\Standing p hok Su S0 F (.run (zag fg cd args).1 (zag fg cd args).2 h S) Inb gs' w' T':=by
  subst hS;have hop:∀ x∈o.op.operands,zaN x=true:=fun x hx=>by simpa using (Array.all_eq_true_iff_forall_mem.1 hb') x hx
  have hst:∀ x∈o.op.operands,Stab (Kn h.next S.length) F (evA tmps x):=fun x hx=>zfw H.stab x (hop x hx);have hgo:=hgB;unfold goB at hgo;rw [Bool.and_eq_true] at hgo;have hc:=H.com;obtain⟨B,Mem,q,R,hM0,hMh⟩:=hc.ring;have hρ:∀ x∈o.op.operands,(actF F tmps).eval x=ren F (evA tmps x):=fun x hx=>zbU F tmps x (hop x hx);refine (znO (a':=Go.Conc.G (Frame.enter Try.prog f (args.map (ren F)) .normal) (b.at (actF F tmps) (.inRegion ops (i::rest)::k)::cs)) R hg (fun w0=>zld ho (by rw [zc0];exact hw) (by rw [hk];decide) (zb8 (zdl hρ hca hf hgo.1 (by simpa using hgo.2))) (zd1 hρ hca hf hgo.1 (by simpa using hgo.2))) rfl hc.tab.olow (fun x hx=>by obtain⟨_,_,h1,_⟩:=H.wrow x hx;exact zab h1)).bind fun m' T'=>?_
  rintro ⟨gs',w',sl',q',B',rfl,k1,k2,k3,R'⟩;refine .here ⟨gs',w',sl',rfl,by rw [<-zfL hf hbd];exact k2,Standing.conf hok (Standing.moved hok H hSu k3 k1 ⟨B',Mem,q',R',hM0,hMh⟩) rfl rfl fun u hu=>?_⟩
  have hu:u∈(zag fg cd args).2:=hu;simp only [zag,List.mem_append] at hu;rcases hu with hu|hu
  . exact zfy hst hca u (by simpa using hu)
  . rw [List.eq_of_mem_replicate hu];exact Stab.undef
end
end
section
variable {p:Par} {Su:SuT} {S0:St} {F F':Emb} {c:Conf St} {Inb:Nat->Option Seat} {gs gs':Array Goroutine} {w w':World} {T T':Trace}
variable (hok:∀ mn OB WB,zau mn OB WB)
variable {ops:Array Oper} {i:Nat} {rest:List Nat} {k:List Item} {tmps:List Value} {h:AHeap} {S:St} {o:Oper} {f:FuncId} {args:Array Value} {b:Frame} {cs:List Frame} {g:Goroutine} {sl:Option (Nat × Nat)}
theorem zet (hSu:zcu Su) {g':Goroutine} {c':Conf St} (H:Standing p hok Su S0 F c Inb gs w T) (hg:gs[p.h]?=some g) (hrun:g.status=.running) (hstep:∀ w1,Ro p.OB p.h w w1->∃ es,stepG Try.prog (p.h==0) g w1=.go g' w1 es/\∀ e∈es,EvO p.OB p.WB p.h w1 e)
    (hh:heap c'=heap c) (hs:st c'=st c) (hv:∀ v∈vals c',Stab (Kn (heap c).next (st c).length) F v) :
    Reach Try.prog (crowd gs w sl) T fun m' T'=>∃ gs' w' sl',m'=crowd gs' w' sl'/\gs'[p.h]?=some g'/\Ro p.OB p.h w w'/\Standing p hok Su S0 F c' Inb gs' w' T':=by
  obtain⟨B,Mem,q,R,hM0,hMh⟩:=H.com.ring;refine (zaM (Stop:=fun g1 w1=>g1=g'/\Ro p.OB p.h w w1) 1 hg (Conc.Goes.step hrun fun w1 hw1=>?_) R).bind fun m' T'=>?_
  . obtain⟨es,e1,e2⟩:=hstep w1 hw1;rw [e1,goes_go];exact⟨DO.quiet e2,fun w2 hw2=>⟨rfl,Ro.trans _ _ _ hw1 hw2⟩⟩
  . rintro ⟨gs',a',w',sl',q',B',rfl,k1,k2,⟨rfl,k3⟩,R'⟩;exact .here ⟨gs',w',sl',rfl,k2,k3,Standing.conf hok (Standing.moved hok H hSu k3 k1 ⟨B',Mem,q',R',hM0,hMh⟩) hh hs hv⟩
theorem zkg (hSu:zcu Su) {F0:Emb} {N0 C0:Nat} {v:Value} {h1:AHeap} {S1:St} {b':Frame} (ho:ops[i]?=some o) (hst:∀ u∈tmps,Stab (Kn N0 C0) F0 u) (hF:Same (Kn N0 C0) F0 F) (hN:N0<=h1.next) (hC:C0<=S1.length)
    (H:Standing p hok Su S0 F (.done v h1 S1) Inb gs w T) (hg:gs[p.h]?=some g) (hS:zgp Try.prog p.OB p.WB p.h F b' (b.at (actF F0 tmps) (.inRegion ops (i::rest)::k)::cs) (.done v h1 S1) w g) :
    Reach Try.prog (crowd gs w sl) T fun m' T'=>∃ gs' w' sl',m'=crowd gs' w' sl'/\gs'[p.h]?=some (Go.Conc.G (b.at (actF F (putL o.dst v tmps)) (.inRegion ops rest::k)) cs)/\Standing p hok Su S0 F (.run (.inRegion ops rest::k) (putL o.dst v tmps) h1 S1) Inb gs' w' T':=by
  obtain⟨fr,rfl,_,_,hl⟩:=hS;have hfin:(b.at (actF F0 tmps) (.inRegion ops (i::rest)::k)).finish (ren F v)=b.at (actF F (putL o.dst v tmps)) (.inRegion ops rest::k):=by
    rw [Frame.finish_at,ho];show b.at ((actF F0 tmps).put o.dst (ren F v)) (.inRegion ops rest::k)=_;rw [<-zbo hst hF,zcI]
  have hl:=hl _ _ rfl;rw [hfin] at hl;have hKK:∀ x,Kn N0 C0 x->Kn h1.next S1.length x:=fun x hx=>hx.mono hN hC;refine (zet hok hSu (c':=.run (.inRegion ops rest::k) (putL o.dst v tmps) h1 S1) H hg rfl hl rfl rfl (zb9 (fun u hu=>(hst u hu).move hF hKK) (H.inv.1.vst v (List.mem_singleton.2 rfl)) o.dst)).bind fun m' T'=>?_;rintro ⟨gs',w',sl',rfl,k1,_,k2⟩;exact .here ⟨gs',w',sl',rfl,k1,k2⟩
end
section
variable (hok:∀ mn OB WB,zau mn OB WB)
variable {Γ D:Type} (Cl:D->Γ × St->Par->Prop) (Su:D->Γ->SuT) (Fin:D->Machine->Trace->Prop)
def Safe (b:Frame) (cs:List Frame) (F0:Emb) (N0 C0:Nat) (c:Conf St) (γ:Γ × St):Prop :=
  ∀ d p Inb F gs w sl T g,Cl d γ p->Standing p hok (Su d γ.1) γ.2 F c Inb gs w T->gs[p.h]?=some g->zgp Try.prog p.OB p.WB p.h F b cs c w g->Same (Kn N0 C0) F0 F->N0<=(heap c).next->C0<=(st c).length->Reach Try.prog (crowd gs w sl) T (Fin d)
abbrev SpT (Γ:Type):=FuncId->Array Value->AHeap->St->Γ × St->(Value->AHeap->St->Γ × St->Prop)->Prop
def SpOK (Stk:List Frame->Prop) (Sp:SpT Γ):Prop:=∀ (f:FuncId) (args:Array Value) (h:AHeap) (S:St) (γ:Γ × St) (Q:Value->AHeap->St->Γ × St->Prop),Sp f args h S γ Q ->
  ∀ (b:Frame) (cs:List Frame) (F0:Emb) (N0 C0:Nat) (fn:Func) (ops:Array Oper) (i:Nat) (rest:List Nat) (k:List Item) (tmps:List Value) (o:Oper),Try.prog.funcs[b.fn]?=some fn->b.kind=.normal->Stk cs->ops[i]?=some o->Region.wanted o (zaj ops tmps)=true->o.op.operands.all zaN=true->zaW Try.prog (evA tmps) o.op=some (f,args) ->
    (∀ v h1 S1 γ',Q v h1 S1 γ'->Safe hok Cl Su Fin b cs F0 N0 C0 (.run (.inRegion ops rest::k) (putL o.dst v tmps) h1 S1) γ')->Safe hok Cl Su Fin b cs F0 N0 C0 (.run (.inRegion ops (i::rest)::k) tmps h S) γ
theorem GE.safe {X:Face Try.prog St} {Sp:SpT Γ} {Stk:List Frame->Prop} (hStk:∀ (b:Frame) (fn:Func) (t:Array Value) (todo:List Item) (cs:List Frame),Try.prog.funcs[b.fn]?=some fn->b.kind=.normal->Stk cs->Stk (b.at ⟨t,[]⟩ todo::cs)) (hSu:∀ d (γ:Γ × St) p,Cl d γ p->zcu (Su d γ.1)) (hX:∀ d γ p,Cl d γ p->∀ f a S v S',X.prim f a S v S'->PrimV p.mn f a S v S') (hcnt:X.cnt=List.length) (hSp:SpOK hok Cl Su Fin Stk Sp) {fn:Func} {A:Conf St->Γ × St->Prop} {c:Conf St} {γ:Γ × St} (G:GE X Sp fn A c γ) :
    ∀ (b:Frame) (cs:List Frame) (F0:Emb) (N0 C0:Nat),Try.prog.funcs[b.fn]?=some fn->b.kind=.normal->Stk cs->(∀ c' γ',A c' γ'->Safe hok Cl Su Fin b cs F0 N0 C0 c' γ')->Safe hok Cl Su Fin b cs F0 N0 C0 c γ:=by
  induction G with
  | here h=>exact fun b cs F0 N0 C0 _ _ _ K=>K _ _ h
  | @plain fn A c γ A' G hk ih =>
    intro b cs F0 N0 C0 hb hkd hsk K;cases c with
    | done v hh S =>
      cases G with
      | here h=>exact ih _ h b cs F0 N0 C0 hb hkd hsk K
    | run todo tmps hh S =>
      intro d p Inb F gs w sl T g hC H hg hS hF hN0 hC0;have G':Goes (p.X hok) fn A' (.run todo tmps hh S):=G.face (X':=p.X hok) (hX d _ p hC) (by rw [hcnt];rfl)
      refine (zkx hok (hSu _ _ _ hC) G' hb hkd H hg hS).bind fun m' T'=>?_;rintro ⟨gs',g',w',sl',c',F',rfl,k1,k2,k3,k4,k5,k6,k7⟩;exact ih c' k2 b cs F0 N0 C0 hb hkd hsk K d p Inb F' gs' w' sl' T' g' hC k4 k1 k3 (hF.trans (k5.mono fun n hn=>hn.mono hN0 hC0)) (Nat.le_trans hN0 k6) (Nat.le_trans hC0 k7)
  | @call fn A ops i rest k tmps h S o γ f g c args Q ho hw hb' hca hf hg hbd _ _ ih1 ih2 =>
    intro b cs F0 N0 C0 hb hkd hsk K d p Inb F gs w sl T gr hC H hgr hS hF hN0 hC0;refine (zbY hok (hSu _ _ _ hC) ho hw hb' hca hf hg hbd hkd H hgr hS).bind fun m' T'=>?_;rintro ⟨gs',w',sl',rfl,k1,k2⟩;refine ih1 (zhm f) (b.at (actF F tmps) (.inRegion ops (i::rest)::k)::cs) F h.next S.length hf rfl (hStk _ _ _ _ _ hb hkd hsk) ?_ d p Inb F gs' w' sl' T' _ hC k2 k1 rfl (Same.refl _ _) (Nat.le_refl _) (Nat.le_refl _);rintro c' γ' ⟨v,h1,S1,rfl,hq⟩ d1 p1 Inb1 F1 gs1 w1 sl1 T1 g1 hC1 H1 hg1 hS1 hF1 hN1 hl1;have hN1:h.next<=h1.next:=hN1;have hl1:S.length<=S1.length:=hl1;refine (zkg hok (hSu _ _ _ hC1) ho (fun u hu=>H.inv.1.vst u hu) hF1 hN1 hl1 H1 hg1 hS1).bind fun m2 T2=>?_;rintro ⟨gs2,w2,sl2,rfl,j1,j2⟩;exact ih2 v h1 S1 γ' hq b cs F0 N0 C0 hb hkd hsk K d1 p1 Inb1 F1 gs2 w2 sl2 T2 _ hC1 j2 j1 rfl (hF.trans (hF1.mono fun n hn=>hn.mono hN0 hC0)) (Nat.le_trans hN0 hN1) (Nat.le_trans hC0 hl1)
  | spec f args Q ho hw hb' hca hsp _ ih =>
    intro b cs F0 N0 C0 hb hkd hsk K;exact hSp _ _ _ _ _ _ hsp b cs F0 N0 C0 _ _ _ _ _ _ _ hb hkd hsk ho hw hb' hca fun v h1 S1 γ' hq=>ih v h1 S1 γ' hq b cs F0 N0 C0 hb hkd hsk K
  | @draws fn A id ops k tmps h S γ _ ih =>
    intro b cs F0 N0 C0 hb hkd hsk K d p Inb F gs w sl T g hC H hg hS hF hN0 hC0;subst hS;obtain⟨B,Mem,q,R,hM0,hMh⟩:=H.com.ring;refine (zaM (Stop:=fun g1 w1=>(∃ t,g1=Go.Conc.G (b.at (actF F tmps) (.inRegion ops (Region.schedule (Try.prog.follows .mixedOrders) ops t)::k)) cs)/\Ro p.OB p.h w w1) 1 hg (Conc.Goes.step rfl fun w1 hw1=>?_) R).bind fun m' T'=>?_
    . rw [stepG_region_draw,goes_go];exact⟨⟨fun _ _ _ _ _=>rfl,fun _ _ _=>rfl,fun _ _ _=>rfl,Nat.le_refl _,rfl,fun e he=>by simp at he⟩,fun w2 hw2=>⟨⟨_,rfl⟩,Ro.trans w w1 w2 hw1 (show SideD (fun b=>p.OB b/\p.h≠0) w1 w2 from ⟨hw2.only,hw2.size,hw2.rest⟩)⟩⟩
    . rintro ⟨gs',a',w',sl',q',B',rfl,k1,k2,⟨⟨t,rfl⟩,k3⟩,R'⟩;exact ih t b cs F0 N0 C0 hb hkd hsk K d p Inb F gs' w' sl' T' _ hC (Standing.conf hok (Standing.moved hok H (hSu _ _ _ hC) k3 k1 ⟨B',Mem,q',R',hM0,hMh⟩) rfl rfl (fun u hu=>H.inv.1.vst u hu)) k2 rfl hF hN0 hC0
end
end Go.Proofs.Ytgndgbnhkoppmaa
namespace Go.Proofs.Ytgndgbnhkoppmaa
open Go Go.RowKit
abbrev wpB (wself:Int) (steps:Nat) (told:Value) (ak gr qt:Nat):Blk:=⟨[.int .i64 wself,.int .i64 (wr steps),told,.chan (some ak),.chan (some gr),.chan (some qt)],77,true,none⟩
abbrev doL1 (c:Nat) (n:Int) (A B:UInt64) (ak qt:Nat):List Value:=[.pointer (some ⟨0,0,none⟩),accV c n A B,undef,.pointer (some ⟨2,0,none⟩),.int .u64 0,undef,.pointer (some ⟨0,0,none⟩),.pointer (some ⟨0,0,none⟩),.pointer (some ⟨0,3,none⟩),.chan (some ak),accV c n A B,.pointer (some ⟨0,0,none⟩),.pointer (some ⟨0,0,none⟩),.pointer (some ⟨0,5,none⟩),.chan (some qt),undef,undef,undef,undef,undef,undef,undef,undef,undef,undef,undef,undef,undef,undef,undef,undef,undef,undef,undef,undef,undef,undef,undef,undef,undef,undef,undef,undef,undef]
set_option maxRecDepth 100000 in
theorem zqe (wself:Int) (steps:Nat) (told:Value) (ak gr qt c:Nat) (n:Int) (A B:UInt64) :
    Goes BT Try.f82 (fun x=>x=.run [.inRegion zdn [0,1,2,3],.code zdU,.code doY] (doL1 c n A B ak qt) (zar [some (wpB wself steps told ak gr qt),none,some ⟨[.int .u8 (c:Int),.int .i64 n,.int .u64 (A.toNat:Int),.int .u64 (B.toNat:Int)],31,false,some 0⟩]) ()) (.run [.code doC] [.pointer (some ⟨0,0,none⟩),accV c n A B,undef,undef,undef,undef,undef,undef,undef,undef,undef,undef,undef,undef,undef,undef,undef,undef,undef,undef,undef,undef,undef,undef,undef,undef,undef,undef,undef,undef,undef,undef,undef,undef,undef,undef,undef,undef,undef,undef,undef,undef,undef,undef] (zar [some (wpB wself steps told ak gr qt),none]) ()):=by
  generalize Try.f82=fnX;simp only [doC,Try.f82,Option.getD_some,accV];refine via ?_;exact Goes.here (by simp only [doL1,zdn,zdU,doY,doC,cOps,cL,cR,Try.f82,Option.getD_some,accV];rfl)
def cIn:Code->Code|.block _ b=>b|c=>c
noncomputable def zd7:Array Oper:=cOps (cL (cR (zhi (cIn zdQ))))
noncomputable def ziW:Code:=cR (cR (zhi (cIn zdQ)))
theorem zqU (n:Nat):IntKind.i64.wrap (wr n+1)=wr (n+1):=by
  unfold wr;rw [IntKind.wrap_i64,IntKind.wrap_i64,IntKind.wrap_i64];omega
abbrev zrp (c:Nat) (n:Int) (A B v:UInt64) (ak gr qt:Nat):List Value:=[.pointer (some ⟨0,0,none⟩),accV c n A B,undef,.pointer (some ⟨2,0,none⟩),.int .u64 0,undef,.pointer (some ⟨0,0,none⟩),.pointer (some ⟨0,0,none⟩),.pointer (some ⟨0,3,none⟩),.chan (some ak),accV c n A B,.pointer (some ⟨0,0,none⟩),.pointer (some ⟨0,0,none⟩),.pointer (some ⟨0,5,none⟩),.chan (some qt),.tuple #[.int .i64 0,.bool false,.agg #[]],.int .i64 0,.bool true,.bool false,undef,undef,.pointer (some ⟨0,0,none⟩),.pointer (some ⟨0,0,none⟩),.pointer (some ⟨0,4,none⟩),.chan (some gr),.pointer (some ⟨0,0,none⟩),.pointer (some ⟨0,0,none⟩),.pointer (some ⟨0,5,none⟩),.chan (some qt),.tuple #[.int .i64 0,.bool true,.int .u64 (v.toNat:Int),.agg #[]],undef,undef,undef,undef,undef,undef,undef,undef,undef,undef,undef,undef,undef,undef]
abbrev doL2 (c:Nat) (n:Int) (A B v:UInt64) (steps ak gr qt:Nat):List Value:=[.pointer (some ⟨0,0,none⟩),accV c n A B,undef,.pointer (some ⟨2,0,none⟩),.int .u64 0,.int .u64 (v.toNat:Int),.pointer (some ⟨0,0,none⟩),.pointer (some ⟨0,0,none⟩),.pointer (some ⟨0,3,none⟩),.chan (some ak),accV c n A B,.pointer (some ⟨0,0,none⟩),.pointer (some ⟨0,0,none⟩),.pointer (some ⟨0,5,none⟩),.chan (some qt),.tuple #[.int .i64 0,.bool false,.agg #[]],.int .i64 0,.bool true,.bool false,undef,undef,.pointer (some ⟨0,0,none⟩),.pointer (some ⟨0,0,none⟩),.pointer (some ⟨0,4,none⟩),.chan (some gr),.pointer (some ⟨0,0,none⟩),.pointer (some ⟨0,0,none⟩),.pointer (some ⟨0,5,none⟩),.chan (some qt),.tuple #[.int .i64 0,.bool true,.int .u64 (v.toNat:Int),.agg #[]],.int .i64 0,.bool true,.bool false,.int .u64 (v.toNat:Int),.pointer (some ⟨0,0,none⟩),.pointer (some ⟨0,0,none⟩),.pointer (some ⟨0,1,none⟩),.int .i64 (wr steps),.int .i64 (wr (steps+1)),.pointer (some ⟨0,0,none⟩),.pointer (some ⟨0,1,none⟩),undef,undef,undef]
set_option maxRecDepth 100000 in
theorem zqh (wself:Int) (steps:Nat) (told:Value) (ak gr qt c:Nat) (n:Int) (A B v:UInt64) :
    Goes BT Try.f82 (fun x=>x=.run [.inRegion zd7 [7],.code ziW,.inBlock 1] (doL2 c n A B v steps ak gr qt) (zar [some (wpB wself steps told ak gr qt),none,none]) ()) (.run [.inRegion zfq [1,2,3],.code zdQ] (zrp c n A B v ak gr qt) (zar [some (wpB wself steps told ak gr qt),none,none]) ()):=by
  generalize Try.f82=fnX;simp only [zfq,zdQ,doC,cOps,cL,cR,Try.f82,Option.getD_some,accV];show At BT fnX _ _ _ 1 _ _ _;have e:=zqU steps;refine viaF e ?_;exact Goes.here (by simp only [doL2,zd7,ziW,zdQ,cIn,zhi,doC,cOps,cL,cR,Try.f82,Option.getD_some,accV];rfl)
set_option maxRecDepth 100000 in
theorem zpG (wself:Int) (steps s2:Nat) (told:Value) (ak gr qt c:Nat) (n:Int) (A B v:UInt64) :
    Goes BT Try.f82 (fun x=>∃ h1,x=.done (.int .u64 (v.toNat:Int)) h1 ()) (.run [.inRegion zd7 [],.code ziW,.inBlock 1] (doL2 c n A B v steps ak gr qt) (zar [some (wpB wself s2 told ak gr qt),none,none]) ()):=by
  generalize hfn:Try.f82=fnX;simp only [zd7,ziW,zdQ,cIn,zhi,doC,cOps,cL,cR,Try.f82,Option.getD_some,accV];show At BT fnX _ _ _ 8 _ _ _;refine via ?_;subst hfn;exact Goes.fin rfl rfl rfl
end Go.Proofs.Ytgndgbnhkoppmaa
namespace Go.Proofs.Ytgndgbnhkoppmaa
open Go Go.Conc
open Go.ConcN (sumTo upd sumTo_upd upd_ne upd_same)
noncomputable def ziJ:Code:=(Try.f30.body).getD .skip
noncomputable def rootOps2:Array Oper:=cOps (cR (cR ziJ))
noncomputable def botF:Frame:={ (default:Frame) with fn:=Try.prog.funcs.size,defers:=[],mode:=.panicking [goexitEntry] }
abbrev zgV (f:FuncId) (ys:Array Value):Deferred:={ target:=.fn (.func f) ys,args:=#[] }
abbrev zoH (fv:Value) (wb dn bx:Nat) (z:Value):Array Value:=#[fv,pt wb,.chan (some dn),undef,undef,pt bx,.func (.func 43) #[] #[pt bx],fv,pt wb,.iface 68 (pt wb),z]
noncomputable def zcd (fv:Value) (wb dn bx:Nat) (rest:List Nat):Frame:=(baseD 30).at ⟨zoH fv wb dn bx undef,[zgV 43 #[pt bx]]⟩ [.inRegion rootOps2 rest]
inductive zi5 (r:Frame):List Frame->Prop
  | root:zi5 r [r,botF]
  | frame {c:Frame} {fn:Func} {cs:List Frame} (hf:Try.prog.funcs[c.fn]?=some fn) (hd:c.defers=[]) (hm:c.mode=.run) (h:zi5 r cs):zi5 r (c::cs)
def zph (F0:Emb) (c0 hp:Nat) (g:Goroutine):Prop:=hp+1<c0/\∃ (wb:Nat) (ab:Nat × Nat) (ak qt gr:Nat) (x y:Value) (cs:List Frame) (fv:Value) (wbr dn0:Nat),g=doG wb ab ak qt gr x y cs/\zi5 (zcd fv wbr dn0 (F0.blk (VB+(hp+1))) [3]) cs
structure Proto (Γ:Type) where
  Ph:Type
  ph:Γ->Nat->Option Ph
  acc:Ph->Nat × Int × UInt64 × UInt64
  fuel:Γ->Nat
  Con:Type
  con:Γ->Con
  Inv:Γ->AHeap->St->Prop
  Run:Nat->Ph->UInt64->Γ->AHeap->St->Prop
abbrev Proto.FC {Γ:Type} (Pr:Proto Γ) (a b:Γ):Prop:=Pr.fuel a=Pr.fuel b/\Pr.con a=Pr.con b
def accQ (a:Nat × Int × UInt64 × UInt64):Value:=accV a.1 a.2.1 a.2.2.1 a.2.2.2
def IvN (OB:Nat->Prop) (wN:World) (i:Nat) (w:World):Prop:=i=0->∀ b,OB b->w.heap[b]?=wN.heap[b]?
structure BD (Γ:Type) where
  p:Par
  Su:SuT
  k:Nat
  hp:Nat
  self:Int
  quit:Nat
  dn:Nat
  pend:Option Nat
  wself:Int
  steps:Nat
  ask:Nat
  grant:Nat
  γ:Γ
  S:St
  wN:World
  tb:Nat
  cs0:List Frame
structure BD.Ok {Γ:Type} (d:BD Γ):Prop where
  mono:zcu d.Su
  run:d.p.run=some d.k
  h0:d.p.h≠0
  iv:d.p.Iv=IvN d.p.OB d.wN
  seat:d.p.seat0=some (zbR d.tb (d.p.FR.blk (VB+d.hp)) d.dn d.ask d.cs0)
  thr:d.S[d.k]?=some (.thr d.self d.quit false true (some (d.hp,d.p.h,d.dn)) d.pend)
  wp:d.S[d.hp]?=some (.wp d.wself d.steps d.ask d.grant d.quit)
  cr:d.p.CR=d.S.length
  px:∀ x,d.p.PX x->∃ cc el fr,d.p.wR.heap[x]?=some (.cells cc el fr)
abbrev cntS (S:St) (hp:Nat) (wself:Int) (s2 ask grant quit:Nat):St:=S.set hp (.wp wself s2 ask grant quit)
variable (hok:∀ mn OB WB,zau mn OB WB)
def XB (hok:∀ mn OB WB,zau mn OB WB) (OB WB:Nat->Prop):Face Try.prog St:=XF false OB WB (hok _ _ _)
section
variable {Γ:Type} (Pr:Proto Γ)
abbrev QT:=Emb->Nat->Nat->Nat->Nat->Nat->Ob->Pr.Ph->Goroutine->Prop
def Came (Q:QT Pr) (d:BD Γ) (m:Machine) (T:Trace):Prop :=
  ∃ (gs:Array Goroutine) (w:World) (sl:Option (Nat × Nat)) (F:Emb) (hs:AHeap) (γ:Γ) (kk:Nat) (val:Value) (Inb:Nat->Option Seat) (S':St) (Su':SuT) (Iv':Nat->World->Prop),m=crowd gs w sl /\
    gs[0]?=some ((zh7 d.tb (d.p.FR.blk (VB+d.hp)) d.dn d.ask d.cs0).finishComm Try.prog (zbR d.tb (d.p.FR.blk (VB+d.hp)) d.dn d.ask d.cs0).cases (zbR d.tb (d.p.FR.blk (VB+d.hp)) d.dn d.ask d.cs0).shape kk val true) /\
    (∀ i,i≠d.k->Pr.ph γ i=Pr.ph d.γ i)/\Pr.FC γ d.γ/\Pr.Inv γ hs d.S/\Same (Kn d.p.NR d.p.CR) d.p.FR F/\d.p.NR<=hs.next /\
    (∀ b,d.p.OB b->w.heap[b]?=d.wN.heap[b]?)/\RInv (XB hok d.p.OB d.p.WB) F (.run [] [] hs d.S) w/\(∀ x,d.p.OB x->¬ Vis (XB hok d.p.OB d.p.WB) F (.run [] [] hs d.S) x) /\
    (∀ x,d.p.PX x->x<w.heap.size/\¬ Vis (XB hok d.p.OB d.p.WB) F (.run [] [] hs d.S) x/\¬ d.p.OB x/\w.heap[x]?=d.p.wR.heap[x]?) /\
    (∀ x,d.p.WB x->∃ cc el,w.heap[x]?=some (.cells cc el (0,0))/\cc.size≠0)/\(∀ n r,hs.get n=some r->d.p.WB (F.blk n)->r.ro=true) /\
    BaseP d.p.n0 d.p.w0 (zht (XB hok d.p.OB d.p.WB) F (.run [] [] hs d.S)) d.p.OB d.S w /\
    Com ⟨0,none,d.p.OB,d.p.WB,Iv',none,fun _=>False,w,F,0,0,d.p.n0,d.p.w0⟩ Su' S' F hs.next d.S.length Inb gs w T /\
    ((kk=0/\∃ q,Pr.ph γ d.k=some q/\val=accQ (Pr.acc q)/\S'=d.S/\∀ F1 N1 C1 i hp ob g,Su' F1 N1 C1 i hp ob g->if i=d.k then ∃ F0 n0 c0,Same (Kn n0 c0) F0 F1/\n0<=N1/\c0<=C1/\Q F0 n0 c0 (Pr.fuel γ) d.k hp ob q g else d.Su F1 N1 C1 i hp ob g) \/
      (kk=1/\Pr.ph γ d.k=none/\val=.nilIface/\S'=d.S.set d.k (.thr d.self d.quit false false (some (d.hp,d.p.h,d.dn)) none)/\Su'=d.Su))
def Resum (Q:QT Pr) (F0:Emb) (n0 c0 n k hp:Nat) (ob:Ob) (q:Pr.Ph) (gq:Goroutine):Prop :=
  ∀ (d:BD Γ) (s:Nat) (S:St) (F:Emb) (hs:AHeap) (Inb:Nat->Option Seat) (gs:Array Goroutine) (w:World) (sl:Option (Nat × Nat)) (T:Trace) (v:UInt64),d.Ok->d.k=k->d.hp=hp->d.steps=s+1->ob=.wp d.wself s d.ask d.grant d.quit->S[hp]?=some ob->d.S=cntS S hp d.wself d.steps d.ask d.grant d.quit ->
    Standing d.p hok d.Su S F (.run [] [] hs S) Inb gs w T->gs[d.p.h]?=some (gq.finishComm Try.prog #[rcase d.grant (.int .u64 0),rcase d.quit (.agg #[])] .select 0 (.int .u64 (v.toNat:Int)) true) ->
    Same (Kn n0 c0) F0 F->n0<=hs.next->c0<=S.length->Pr.Run k q v d.γ hs d.S->Pr.fuel d.γ<n->Reach Try.prog (crowd gs w sl) T (Came hok Pr Q d)
def BSusp:QT Pr:=fun F0 n0 c0 n k hp ob q g=>∃ Q:QT Pr,Q F0 n0 c0 n k hp ob q g/\∀ F0 n0 c0 n k hp ob q g,Q F0 n0 c0 n k hp ob q g->Resum hok Pr Q F0 n0 c0 n k hp ob q g/\zph F0 c0 hp g
variable {Pr}
theorem Came.mono {Q Q':QT Pr} (h:∀ F0 n0 c0 n k hp ob q g,Q F0 n0 c0 n k hp ob q g->Q' F0 n0 c0 n k hp ob q g) {d:BD Γ} {m:Machine} {T:Trace} (H:Came hok Pr Q d m T):Came hok Pr Q' d m T:=by
  obtain⟨gs,w,sl,F,hs,γ,kk,val,Inb,S',Su',Iv',a1,a2,a3,a4,a5,a6,a7,a8,a9,a10,a11,a12,a13,a13b,a14,a15⟩:=H;refine⟨gs,w,sl,F,hs,γ,kk,val,Inb,S',Su',Iv',a1,a2,a3,a4,a5,a6,a7,a8,a9,a10,a11,a12,a13,a13b,a14,?_⟩;rcases a15 with ⟨b1,q,b2,b3,b4,b5⟩|b
  . refine .inl ⟨b1,q,b2,b3,b4,fun F1 N1 C1 i hp ob g hs=>?_⟩;have:=b5 F1 N1 C1 i hp ob g hs;split at this
    . rename_i e;rw [if_pos e];obtain⟨F0,n0,c0,c1,c2,c3,c4⟩:=this;exact⟨F0,n0,c0,c1,c2,c3,h _ _ _ _ _ _ _ _ _ c4⟩
    . rename_i e;rw [if_neg e];exact this
  . exact .inr b
theorem Reach.mono {P:Program} {m:Machine} {t:Trace} {Q Q':Machine->Trace->Prop} (h:Reach P m t Q) (hq:∀ m t,Q m t->Q' m t):Reach P m t Q':=h.bind fun m' t' h'=>.here (hq _ _ h')
theorem Resum.mono {Q Q':QT Pr} (h:∀ F0 n0 c0 n k hp ob q g,Q F0 n0 c0 n k hp ob q g->Q' F0 n0 c0 n k hp ob q g) {F0:Emb} {n0 c0 n k hp:Nat} {ob:Ob} {q:Pr.Ph} {g:Goroutine} (H:Resum hok Pr Q F0 n0 c0 n k hp ob q g):Resum hok Pr Q' F0 n0 c0 n k hp ob q g :=
  fun d s S F hs Inb gs w sl T v h1 h2 h3 h4 h5 h6 h7 h8 h9 h10 h11 h12 h13 h14=>(H d s S F hs Inb gs w sl T v h1 h2 h3 h4 h5 h6 h7 h8 h9 h10 h11 h12 h13 h14).mono fun _ _=>Came.mono hok h
theorem BSusp.unfold {F0:Emb} {n0 c0 n k hp:Nat} {ob:Ob} {q:Pr.Ph} {g:Goroutine} (H:BSusp hok Pr F0 n0 c0 n k hp ob q g):Resum hok Pr (BSusp hok Pr) F0 n0 c0 n k hp ob q g/\zph F0 c0 hp g:=by
  obtain⟨Q,h1,h2⟩:=H;exact⟨Resum.mono hok (fun F0 n0 c0 n k hp ob q g hq=>⟨Q,hq,h2⟩) (h2 _ _ _ _ _ _ _ _ _ h1).1,(h2 _ _ _ _ _ _ _ _ _ h1).2⟩
theorem BSusp.fold {F0:Emb} {n0 c0 n k hp:Nat} {ob:Ob} {q:Pr.Ph} {g:Goroutine} (H:Resum hok Pr (BSusp hok Pr) F0 n0 c0 n k hp ob q g) (hG:zph F0 c0 hp g):BSusp hok Pr F0 n0 c0 n k hp ob q g :=
  ⟨fun F0 n0 c0 n k hp ob q g=>Resum hok Pr (BSusp hok Pr) F0 n0 c0 n k hp ob q g/\zph F0 c0 hp g,⟨H,hG⟩,fun F0 n0 c0 n k hp ob q g hq=>⟨Resum.mono hok (fun F0 n0 c0 n k hp ob q g hb=>BSusp.unfold hok hb) hq.1,hq.2⟩⟩
end
theorem BT.soft {WB:Nat->Prop}:zpr BT WB:=⟨fun _ _ _ _ _ h=>h.elim,fun _ _ _ _ _ _ _=>trivial⟩
theorem znw {Ft:Emb} {todo:List Item} {tmps:List Value} {h:AHeap} {w:World} (hH:Holds Ft h w) (hv:∀ v∈tmps,Stab (Kn h.next 0) Ft v) (hc:∀ n b,h.get n=some b->∀ v∈b.cells,Stab (Kn h.next 0) Ft v) (hl:h.Low) (hV:h.next<=VB):RInv BT Ft (.run todo tmps h ()) w:=by
  refine⟨⟨hH,trivial,hv,hc,fun n b hb=>?_,fun n h1 h2=>?_,fun n hn=>?_,Kept.refl _ _,fun _ _ _ _ _=>trivial,fun _ _ _=>trivial,fun _ _ _ z=>z⟩,hV⟩
  . have:=hl n b hb;have hV:h.next<=VB:=hV;exact⟨.inl this,by omega⟩
  . have h2:n<VB+0:=h2;omega
  . have hV:h.next<=VB:=hV;rcases hn with hn|⟨_,hn⟩
    . have hn:n<h.next:=hn;show n<VB+0;omega
    . exact hn
section
variable {p:Par} {Su:SuT} {S0:St} {F F' Ft:Emb} {c:Conf St} {Inb:Nat->Option Seat} {gs gs':Array Goroutine} {w w':World} {T T':Trace}
variable (hok:∀ mn OB WB,zau mn OB WB)
theorem zkq (hSu:zcu Su) {fn:Func} {A:Conf Unit->Prop} {todo:List Item} {tmps:List Value} {ht:AHeap} {b:Frame} {cs:List Frame} {g:Goroutine} {sl:Option (Nat × Nat)} (G:Goes BT fn A (.run todo tmps ht ())) (hb:Try.prog.funcs[b.fn]?=some fn) (hk:b.kind=.normal)
    (H:Standing p hok Su S0 F c Inb gs w T) (hg:gs[p.h]?=some g) (hS:g=Go.Conc.G (b.at (actF Ft tmps) todo) cs) (hH:Holds Ft ht w) (hv:∀ v∈tmps,Stab (Kn ht.next 0) Ft v) (hc:∀ n b,ht.get n=some b->∀ v∈b.cells,Stab (Kn ht.next 0) Ft v) (hl:ht.Low) (hV:ht.next<=VB)
    (hro:∀ n r,ht.get n=some r->r.ro=true) (hov:∀ n r,ht.get n=some r->p.h≠0->¬ p.OB (Ft.blk n)) :
    Reach Try.prog (crowd gs w sl) T fun m' T'=>∃ gs' g' w' sl' c' Ft',m'=crowd gs' w' sl'/\gs'[p.h]?=some g'/\A c'/\zgp Try.prog p.OB p.WB p.h Ft' b cs c' w' g'/\Standing p hok Su S0 F c Inb gs' w' T'/\Same (Kn ht.next 0) Ft Ft'/\Holds Ft' (heap c') w'/\(∀ x,x<w.heap.size->¬ (p.OB x/\p.h≠0)->w'.heap[x]?=w.heap[x]?)/\w.heap.size<=w'.heap.size:=by
  have hcm:=H.com;obtain⟨B,Mem,q,R,hM0,hMh⟩:=hcm.ring;refine (zhG BT.soft G hb hk R hg hS (znw hH hv hc hl hV) (fun x hx h0 hvx=>?_) (fun x hx _=>by obtain⟨cc,el,h1,h2⟩:=H.wrow x hx;exact⟨cc,el,_,h1,h2⟩) (fun n r hr _=>hro n r hr) hcm.tab.olow (fun x hx=>by obtain⟨_,_,h1,_⟩:=H.wrow x hx;exact zab h1)).bind fun m' T'=>?_
  . rcases hvx with ⟨n,r,hr,rfl⟩|hf
    . exact hov n r hr h0 hx
    . exact hf
  rintro ⟨gs',g',w',sl',q',B',c',Ft',rfl,k1,k2,k3,R'⟩;have hkeep:∀ x,x<w.heap.size->¬ (p.OB x/\p.h≠0)->w'.heap[x]?=w.heap[x]?:=fun x hx hO=>k3.keep x hx (fun z=>by
    rcases z with ⟨n,r,hr,hz,_⟩|hf
    . have:=hro n r hr;rw [hz] at this;cases this
    . exact hf) hO
  exact .here ⟨gs',g',w',sl',c',Ft',rfl,k2,k3.done,k3.stands,H.grown hok hSu hkeep k3.size k1 ⟨B',Mem,q',R',hM0,hMh⟩,k3.same,k3.inv.1.holds,hkeep,k3.size⟩
def embW (wb:Nat) (told:Option Addr) (ab:Nat × Nat):Emb:=⟨fun n=>if n=0 then wb else if n=1 then (told.map (·.block)).getD 0 else ab.1,fun n=>if n=2 then ab.2 else 0,fun _=>0⟩
def zhh:Option Addr->Value
  | none=>.pointer none
  | some a=>.pointer (some ⟨1,a.off,a.spot⟩)
theorem zn5 (wb:Nat) (ab:Nat × Nat) (told:Option Addr):ren (embW wb told ab) (zhh told)=.pointer told:=by
  cases told with
  | none=>simp [zhh]
  | some a=>simp [zhh,adr,embW]
theorem zkY {Ft:Emb} {N C n:Nat} {o:Nat} {sp} (h:n<N):Stab (Kn N C) Ft (.pointer (some ⟨n,o,sp⟩)):=fun F' hs=>by
  obtain⟨h1,h2,_⟩:=hs n (.inl h);simp [adr,h1,h2]
theorem ze8 {K:Nat->Prop} {Ft:Emb} {c:Option Nat}:Stab K Ft (.chan c):=fun F' _=>by simp [ren]
theorem zmG {Ft:Emb} {N C:Nat} {told:Option Addr} (h:1<N):Stab (Kn N C) Ft (zhh told):=by
  cases told with
  | none=>exact Stab.plain rfl
  | some a=>exact zkY h
theorem zdy (F:Emb) (c:Option Nat):ren F (.chan c)=.chan c:=by simp [ren]
theorem zh4 {wb ask grant quit steps:Nat} {ab:Nat × Nat} {self:Int} {told:Option Addr} {fr:Nat × Nat} {w:World} (l:List (Option Blk)) (hl:∀ (i:Nat) (b:Option Blk),l[i]?=some b->b=none) (h:w.heap[wb]?=some (.cells (zdp self steps (.pointer told) ask grant quit) 77 fr)) :
    Holds (embW wb told ab) (zar (some (wpB self steps (zhh told) ask grant quit)::l)) w:=by
  have hget:∀ n b,(zar (some (wpB self steps (zhh told) ask grant quit)::l)).get n=some b->n=0/\b=wpB self steps (zhh told) ask grant quit:=fun n b hb=>by
    rw [zaJ] at hb;cases n with
    | zero=>simp at hb;exact⟨rfl,hb.symm⟩
    | succ n =>
      simp only [List.getElem?_cons_succ] at hb;cases hx:l[n]? with
      | none=>rw [hx] at hb;cases hb
      | some y=>rw [hx,hl n y hx] at hb;cases hb
  refine⟨fun n b hb=>?_,fun n m b c hb hc hne=>?_⟩
  . obtain⟨rfl,rfl⟩:=hget n b hb;refine⟨#[],#[],fr,?_,rfl,(fun z=>by cases z),(fun z=>by cases z),(fun s z=>by cases z)⟩
    show w.heap[wb]?=_;rw [h];simp [zdp,wpB,zn5,chV,zdy]
  . exact absurd ((hget n b hb).1.trans (hget m c hc).1.symm) hne
theorem znT {mn:Bool} {OB WB:Nat->Prop} {S S2:St} {k:Nat} {ob:Ob} (hm:∀ (m:Nat) ws bs,S[m]?=some (Ob.mem ws bs)->S2[m]?=some (Ob.mem ws bs)) (hl:S2.length=S.length) (h:obAt mn OB WB F S w k ob):obAt mn OB WB F S2 w k ob:=by
  cases ob with
  | mem=>exact h
  | port m me steps=>obtain⟨h1,ws,bs,h2⟩:=h;exact⟨h1,ws,bs,hm m ws bs h2⟩
  | thr=>intro z;obtain⟨a1,a2,a3,a4⟩:=h z;exact⟨a1,fun c hc=>by rw [hl];exact a2 c hc,fun c hc=>by rw [hl];exact a3 c hc,a4⟩
  | wp=>exact h
  | acc=>exact h
  | box=>exact h
section
variable {S:St} {hp:Nat} {wself:Int} {s s2 ask grant quit:Nat}
theorem zfp (hS:S[hp]?=some (.wp wself s ask grant quit)):(cntS S hp wself s2 ask grant quit)[hp]?=some (.wp wself s2 ask grant quit):=List.getElem?_set_self (zaL hS)
theorem zeE {k:Nat} (hk:k≠hp):(cntS S hp wself s2 ask grant quit)[k]?=S[k]?:=List.getElem?_set_ne (Ne.symm hk)
theorem zbZ (hS:S[hp]?=some (.wp wself s ask grant quit)) {k:Nat} {a b c d e f}:(cntS S hp wself s2 ask grant quit)[k]?=some (Ob.thr a b c d e f)↔S[k]?=some (Ob.thr a b c d e f):=by
  by_cases hk:k=hp
  . subst hk;rw [zfp hS,hS];simp
  . rw [zeE hk]
theorem zoI (hS:S[hp]?=some (.wp wself s ask grant quit)) {k:Nat} {a b x y z} (h:(cntS S hp wself s2 ask grant quit)[k]?=some (Ob.wp a b x y z)):∃ b',S[k]?=some (Ob.wp a b' x y z):=by
  by_cases hk:k=hp
  . subst hk;rw [zfp hS] at h;cases h;exact⟨_,hS⟩
  . rw [zeE hk] at h;exact⟨_,h⟩
theorem zqE (hS:S[hp]?=some (.wp wself s ask grant quit)) {k:Nat} {a b x y z} (h:S[k]?=some (Ob.wp a b x y z)):∃ b',(cntS S hp wself s2 ask grant quit)[k]?=some (Ob.wp a b' x y z):=by
  by_cases hk:k=hp
  . subst hk;rw [hS] at h;cases h;exact⟨_,zfp hS⟩
  . exact⟨_,by rw [zeE hk];exact h⟩
theorem zk8 (hS:S[hp]?=some (.wp wself s ask grant quit)) {k sl c:Nat} (h:ChS (cntS S hp wself s2 ask grant quit) k sl c):ChS S k sl c:=by
  cases h with
  | quit h=>exact .quit ((zbZ hS).1 h)
  | done h=>exact .done ((zbZ hS).1 h)
  | ask h=>obtain⟨b',h⟩:=zoI hS h;exact .ask h
  | grant h=>obtain⟨b',h⟩:=zoI hS h;exact .grant h
theorem Com.count {N C k0 gid0 dn0:Nat} {self0:Int} {closed0:Bool} {pend0:Option Nat} (hrun:p.run=some k0) (hthr:S[k0]?=some (.thr self0 quit closed0 true (some (hp,gid0,dn0)) pend0)) (hS:S[hp]?=some (.wp wself s ask grant quit)) (H:Com p Su S F N C Inb gs w T):Com p Su (cntS S hp wself s2 ask grant quit) F N C Inb gs w T:=by
  have t:=H.tab;refine⟨H.ring,⟨fun b=>?_,fun b=>?_,fun k s c k' s' h1 h2=>t.dist k s c k' s' (zk8 hS h1) (zk8 hS h2),fun k s c h=>t.far k s c (zk8 hS h),t.olow,fun k a b c d e h=>t.quit k a b c d e ((zbZ hS).1 h),fun k a b c d e h=>?_⟩,H.main,fun i se hi=>?_,fun k a b c d e f g h=>?_,H.n0,by simpa using H.c0⟩
  . rw [t.obs b];constructor
    . rintro ⟨k,a1,a2,a3,a4,a5,a6,a7,a8⟩;exact⟨k,a1,a2,a3,a4,a5,a6,(zbZ hS).2 a7,a8⟩
    . rintro ⟨k,a1,a2,a3,a4,a5,a6,a7,a8⟩;exact⟨k,a1,a2,a3,a4,a5,a6,(zbZ hS).1 a7,a8⟩
  . rw [t.wbs b];constructor
    . rintro ⟨k,a1,a2,a3,a4,a5,a7,a8⟩;obtain⟨b',h⟩:=zqE hS (s2:=s2) a7;exact⟨k,a1,b',a3,a4,a5,h,a8⟩
    . rintro ⟨k,a1,a2,a3,a4,a5,a7,a8⟩;obtain⟨b',h⟩:=zoI hS a7;exact⟨k,a1,b',a3,a4,a5,h,a8⟩
  . obtain⟨h1,hp',gid,dn,ws,st,ak,gr,h2,h3,h4,h5,h6,h7,h8,h9⟩:=t.busy k a b c d e ((zbZ hS).1 h);obtain⟨b',h10⟩:=zqE hS (s2:=s2) h3;refine⟨h1,hp',gid,dn,ws,b',ak,gr,h2,h10,h4,h5,h6,h7,h8,?_⟩;rw [zeE]
    . exact h9
    intro e;rw [e,hS] at h9;cases h9
  . obtain⟨h1,h2,h3⟩:=H.seats i se hi;refine⟨h1,h2,fun h0=>?_⟩;obtain⟨k,a1,a2,a3,a4,a5,a6,a7,a8⟩:=h3 h0;exact⟨k,a1,a2,a3,a4,a5,a6,a7,(zbZ hS).2 a8⟩
  . obtain⟨h1,h2⟩:=H.waits k a b c d e f g ((zbZ hS).1 h);refine⟨h1,fun hne=>?_⟩;obtain⟨ws,st,ak,gr,ab,x,y,cs,h3,h4,h5⟩:=h2 hne;refine⟨ws,st,ak,gr,ab,x,y,cs,?_,h4,h5⟩;rw [zeE]
    . exact h3
    rintro rfl;rw [hS] at h3;cases h3;have:=(t.dist _ _ _ _ _ (.quit ((zbZ hS).1 h)) (.quit hthr)).1;subst this;exact hne hrun
theorem Standing.wp {hs:AHeap} (H:Standing p hok Su S0 F (.run [] [] hs S) Inb gs w T) (hS:S[hp]?=some (.wp wself s ask grant quit)):p.WB (F.blk (VB+hp))/\∃ told,w.heap[F.blk (VB+hp)]?=some (.cells (zdp wself s (.pointer told) ask grant quit) 77 (0,0)):=by
  have R:Rep p.mn p.OB p.WB F S w:=H.inv.1.rep;obtain⟨h1,told,fr,h2⟩:=R.at' _ _ hS;obtain⟨cc,el,h3,_⟩:=H.wrow _ h1;rw [h2] at h3;cases h3;exact⟨h1,told,h2⟩
theorem Standing.count {hs:AHeap} {told:Option Addr} {k0 gid0 dn0:Nat} {self0:Int} {closed0:Bool} {pend0:Option Nat} (hrun:p.run=some k0) (hthr:S[k0]?=some (.thr self0 quit closed0 true (some (hp,gid0,dn0)) pend0)) (hSu:zcu Su) (h0:p.h≠0) (hS:S[hp]?=some (.wp wself s ask grant quit)) (H:Standing p hok Su S F (.run [] [] hs S) Inb gs w T) (hw:∀ x,x≠F.blk (VB+hp)->¬ p.OB x->w'.heap[x]?=w.heap[x]?) (hb:w'.heap[F.blk (VB+hp)]?=some (.cells (zdp wself s2 (.pointer told) ask grant quit) 77 (0,0)))
    (hsz:gs'.size=gs.size) (hws:w'.heap.size=w.heap.size) (hr:∃ B Mem q,RingO Try.prog p.OB p.WB B p.Iv Mem Inb p.h T' gs' w' q/\Mem 0/\Mem p.h):Standing p hok Su (cntS S hp wself s2 ask grant quit) F (.run [] [] hs (cntS S hp wself s2 ask grant quit)) Inb gs' w' T':=by
  have hlen:(cntS S hp wself s2 ask grant quit).length=S.length:=by simp
  have R:Rep p.mn p.OB p.WB F S w:=H.inv.1.rep;obtain⟨hWb,told0,hrow⟩:=H.wp hok hS;have hmn:p.mn=false:=by simp [Par.mn,h0]
  have hfp:(p.X hok).fp F S (F.blk (VB+hp)):=⟨hp,_,hS,by simp [zay]⟩
  have hblk:∀ (k:Nat) ob2,(cntS S hp wself s2 ask grant quit)[k]?=some ob2->∃ ob,S[k]?=some ob/\zay p.mn F k ob2=zay p.mn F k ob:=fun k ob2 hk=>by
    by_cases e:k=hp
    . subst e;rw [zfp hS] at hk;cases hk;exact⟨_,hS,rfl⟩
    . rw [zeE e] at hk;exact⟨_,hk,rfl⟩
  have hfps:∀ x,fpS p.mn F (cntS S hp wself s2 ask grant quit) x->fpS p.mn F S x:=fun x ⟨k,ob2,hk,hx⟩=>by
    obtain⟨ob,h1,h2⟩:=hblk k ob2 hk;exact⟨k,ob,h1,h2 ▸ hx⟩
  have hvis:∀ x,Vis (p.X hok) F (.run [] [] hs (cntS S hp wself s2 ask grant quit)) x->Vis (p.X hok) F (.run [] [] hs S) x:=fun x hx=>hx.imp id (hfps x);have hvk:∀ x,Vis (p.X hok) F (.run [] [] hs S) x->x≠F.blk (VB+hp)->w'.heap[x]?=w.heap[x]?:=fun x hx hne=>hw x hne fun z=>H.ov h0 x z hx;have hap:∀ x,p.OB x->¬ p.WB x:=by obtain⟨_,_,_,R,_⟩:=H.com.ring;exact R.apart
  have hch:∀ c,¬ p.OB c->(zbd w c->zbd w' c)/\∀ cap,ChanO w c cap->ChanO w' c cap:=zd9 fun c hc hO=>hw c (fun e=>by obtain⟨_,_,_,_,_,_,h2⟩:=hc;rw [e,hrow] at h2;cases h2) hO
  refine⟨?_,?_,fun h0 x hx hv=>H.ov h0 x hx (hvis x hv),fun x hx=>?_,fun x hx=>?_,H.wro,H.base.move (Nat.le_of_eq hws.symm) (fun x _ hx=>hx.imp id (hfps x)) (fun _ _ h=>h) (fun x _ h1 h2 _=>hw x (fun e=>h1 (.inr (e ▸ hfp))) h2) (fun k s c h=>.inl (zk8 hS h)),H.same.1,H.same.2.1,?_⟩
  . have h1:=(H.com.count (s2:=s2) hrun hthr hS).turn (w':=w') (gs':=gs') (T':=T') hSu (Same.refl _ _) (Nat.le_refl _) (Nat.le_refl _) H.inv.2 (Nat.le_of_eq hws.symm) hch hsz hr;show Com p Su (cntS S hp wself s2 ask grant quit) F hs.next (cntS S hp wself s2 ask grant quit).length Inb gs' w' T';rw [hlen];exact h1
  . obtain⟨I,hl⟩:=H.inv;have I:AInv (p.X hok) F w (fun _=>True) (Kn hs.next S.length) (fun v=>v∈([]:List Value)) hs S w:=I;refine⟨⟨I.holds.kept fun n r hr=>hvk _ (.inl ⟨n,r,hr,rfl⟩) fun e=>I.sep n r hr (e ▸ hfp),⟨fun k ob2 hk hr=>?_,fun k ob2 hk=>?_,fun k k' ob ob' hne hk hk' b hb hb'=>?_,fun k ob2 hk b hb hW=>?_,fun b hb=>by rw [hws];exact R.wlow b hb⟩,fun v hv=>(by cases hv),fun n r hr v hv=>by
      show Stab (Kn hs.next (cntS S hp wself s2 ask grant quit).length) F v;rw [hlen];exact I.hst n r hr v hv,fun n r hr=>by
      have:=I.hk n r hr;show Kn hs.next (cntS S hp wself s2 ask grant quit).length n/\_;rw [hlen];exact this,fun n h1 h2=>by
      have h2:n<VB+(cntS S hp wself s2 ask grant quit).length:=h2;exact .inr ⟨h1,h2⟩,fun n hn=>by
      have hn:Kn hs.next (cntS S hp wself s2 ask grant quit).length n:=hn;show n<VB+(cntS S hp wself s2 ask grant quit).length;rw [hlen] at hn ⊢;exact I.klim n hn,Kept.refl _ _,fun _ _ _ _ _=>trivial,fun _ _ _=>trivial,fun n r hr hf=>I.sep n r hr (hfps _ hf)⟩,hl⟩
    . by_cases e:k=hp
      . subst e;exact R.base k _ hS rfl
      . have hk:(cntS S hp wself s2 ask grant quit)[k]?=some ob2:=hk;rw [zeE e] at hk;exact R.base k _ hk hr
    . have hk:(cntS S hp wself s2 ask grant quit)[k]?=some ob2:=hk;show obAt p.mn p.OB p.WB F (cntS S hp wself s2 ask grant quit) w' k ob2;by_cases e:k=hp
      . subst e;rw [zfp hS] at hk;cases hk;exact⟨hWb,told,_,hb⟩
      . rw [zeE e] at hk;refine znT (S:=S) (fun m ws bs hm=>?_) hlen (zdj (R.at' k _ hk) fun b hb=>hvk b (.inr ⟨k,_,hk,hb⟩) fun z=>R.apart k hp _ _ e hk hS b hb (by rw [z];simp [zay]))
        by_cases e2:m=hp
        . subst e2;rw [hS] at hm;cases hm
        . rw [zeE e2];exact hm
    . obtain⟨o1,g1,g2⟩:=hblk k ob hk;obtain⟨o2,g3,g4⟩:=hblk k' ob' hk';exact R.apart k k' o1 o2 hne g1 g3 b (g2 ▸ hb) (g4 ▸ hb')
    . have hk:(cntS S hp wself s2 ask grant quit)[k]?=some ob2:=hk;by_cases e:k=hp
      . subst e;rw [zfp hS] at hk;cases hk;exact⟨_,_,_,_,_,rfl⟩
      . rw [zeE e] at hk;exact R.waits k _ hk b hb hW
  . obtain⟨h1,h2,h3,h4⟩:=H.prot x hx;exact⟨by rw [hws];exact h1,fun hv=>h2 (hvis x hv),h3,(hw x (fun e=>h2 (.inr (e ▸ hfp))) h3).trans h4⟩
  . by_cases e:x=F.blk (VB+hp)
    . exact⟨_,_,by rw [e];exact hb,by simp [zdp]⟩
    . obtain⟨cc,el,h1,h2⟩:=H.wrow x hx;exact⟨cc,el,(hw x e fun z=>hap x z hx).trans h1,h2⟩
  . show p.CR<=(cntS S hp wself s2 ask grant quit).length;rw [hlen];exact H.same.2.2
end
end
section
variable {p:Par} {Su:SuT} {S0:St} {F F' Ft:Emb} {c:Conf St} {Inb:Nat->Option Seat} {gs gs':Array Goroutine} {w w':World} {T T':Trace}
variable (hok:∀ mn OB WB,zau mn OB WB)
set_option maxRecDepth 100000 in
theorem zhA:(zfq[0]?).bind (·.dst)=some 29:=by
  simp only [zfq,doC,cOps,cL,cR,Try.f82,Option.getD_some];rfl
theorem zrZ (wb:Nat) (ab:Nat × Nat) (ak qt gr:Nat) (x y v:Value) (cs:List Frame):commResult (zcH wb ab ak qt gr x y cs).cases (zcH wb ab ak qt gr x y cs).shape ((0:Nat):Int) v true=.tuple #[.int .i64 0,.bool true,v,.agg #[]]:=by
  simp [zcH,commResult,rcase,List.zipIdx_cons,goInt]
theorem zge (F:Emb) (c:Nat) (n:Int) (A B:UInt64):ren F (accV c n A B)=accV c n A B:=by simp [accV]
set_option maxRecDepth 100000 in
theorem zlL (wb:Nat) (ab:Nat × Nat) (ak qt gr c:Nat) (n:Int) (A B v:UInt64) (told:Option Addr) (cs:List Frame) :
    (doG wb ab ak qt gr (accV c n A B) (accV c n A B) cs).finishComm Try.prog (zcH wb ab ak qt gr (accV c n A B) (accV c n A B) cs).cases (zcH wb ab ak qt gr (accV c n A B) (accV c n A B) cs).shape 0 (.int .u64 (v.toNat:Int)) true =
      Go.Conc.G ((base 82).at (actF (embW wb told ab) (zrp c n A B v ak gr qt)) [.inRegion zfq [1,2,3],.code zdQ]) cs:=by
  have h2:=zrZ wb ab ak qt gr (accV c n A B) (accV c n A B) (.int .u64 (v.toNat:Int)) cs;simp only [Goroutine.finishComm] at h2 ⊢;rw [show (0:Int)=((0:Nat):Int) from rfl,h2]
  simp only [doG,Go.Conc.G,Frame.finish_at,zhA];congr 1;simp [actF,Act.put,zrp,embW,adr,zge,zdy,zaS]
set_option maxRecDepth 100000 in
theorem zgS (wb:Nat) (ab:Nat × Nat) (ak qt gr c steps:Nat) (n:Int) (A B v:UInt64) (told:Option Addr):actF (embW wb told ab) (doL2 c n A B v steps ak gr qt) =
    ⟨#[pt wb,accV c n A B,undef,pt ab.1 ab.2,.int .u64 0,.int .u64 (v.toNat:Int),pt wb,pt wb,pt wb 3,.chan (some ak),accV c n A B,pt wb,pt wb,pt wb 5,.chan (some qt),.tuple #[.int .i64 0,.bool false,.agg #[]],.int .i64 0,.bool true,.bool false,undef,undef,pt wb,pt wb,pt wb 4,.chan (some gr),pt wb,pt wb,pt wb 5,.chan (some qt),.tuple #[.int .i64 0,.bool true,.int .u64 (v.toNat:Int),.agg #[]],.int .i64 0,.bool true,.bool false,.int .u64 (v.toNat:Int),pt wb,pt wb,pt wb 1,.int .i64 (wr steps),.int .i64 (wr (steps+1)),pt wb,pt wb 1,undef,undef,undef],[]⟩:=by
  simp [actF,doL2,embW,adr,zge,zdy,zaS]
set_option maxRecDepth 100000 in
theorem znF {OB WB:Nat->Prop} {h:Nat} {wb ak qt gr c steps:Nat} {ab:Nat × Nat} {n:Int} {A B v:UInt64} {told:Option Addr} {wself:Int} {tl:Value} (cs:List Frame) (w:World) (hW:WB wb) (hO:¬ OB wb) (hr:w.heap[wb]?=some (.cells (zdp wself steps tl ak gr qt) 77 (0,0))) (hseat:∀ i s,Inb i=some s->¬ s.has wb) :
    Conc.Goes Try.prog (h==0) (Ro OB h) (DO OB WB Inb h) (fun g w'=>g=Go.Conc.G ((base 82).at (actF (embW wb told ab) (doL2 c n A B v steps ak gr qt)) [.inRegion zd7 [],.code ziW,.inBlock 1]) cs/\(∀ x,x≠wb->¬ OB x->w'.heap[x]?=w.heap[x]?)/\w'.heap[wb]?=some (.cells (zdp wself (steps+1) tl ak gr qt) 77 (0,0))/\w'.heap.size=w.heap.size) 1
      (Go.Conc.G ((base 82).at (actF (embW wb told ab) (doL2 c n A B v steps ak gr qt)) [.inRegion zd7 [7],.code ziW,.inBlock 1]) cs) w:=by
  rw [zgS];simp only [zd7,ziW,zdQ,cIn,zhi,doC,cOps,cL,cR,Try.f82,Option.getD_some];refine Conc.Goes.step rfl (fun w₁ h₁=>?_);have hr1:w₁.heap[wb]?=some (.cells (zdp wself steps tl ak gr qt) 77 (0,0)):=(h₁.heap hO).trans hr;have hv3:w₁.cell? ⟨wb,1,none⟩=some (.int .i64 (wr steps)):=by simp [World.cell?,hr1,zdp]
  have hz:w₁.frozen? ⟨wb,1,none⟩=false:=by simp [World.frozen?,hr1]
  refine goes_oper_k rfl rfl (by decide) (fun K hK'=>?_)
  go_simp
  have hset:∀ x,(w₁.setCell ⟨wb,1,none⟩ (.int .i64 (wr (steps+1)))).heap[x]?=if x=wb then some (.cells (zdp wself (steps+1) tl ak gr qt) 77 (0,0)) else w₁.heap[x]?:=fun x=>by
    rw [heap_setCell];by_cases e:wb=x
    . subst e;simp [hr1,zdp]
    . rw [if_neg e,if_neg (fun z=>e z.symm)]
  refine hK' _ _ ⟨⟨fun i s x hi hs=>?_,fun a ha h3=>?_,fun h0 b hb=>?_,by simp [World.setCell],rfl,fun e he=>?_⟩,?_⟩
  . rw [hset,if_neg];rintro rfl;exact hseat _ _ hi hs
  . obtain⟨ab',ao,asp⟩:=a;simp only at h3;by_cases e:ab'=wb
    . subst e;unfold World.cell?;simp only [hset,if_true,hr1];split
      . rfl
      . rcases ao with _|_|ao
        . omega
        . omega
        . simp [zdp]
    . exact zaZ _ _ _ (by rw [hset,if_neg e])
  . rw [hset,if_neg (fun (e:b=wb)=>hO (e ▸ hb))]
  . have hm:=mem_listed he;simp [go_sem,storedEv,hv3,hz] at hm;subst hm;refine .inr ⟨rfl,_,rfl,?_,fun _ z=>?_,fun z=>absurd z hO⟩
    . have:=zab hr1;simpa [World.setCell] using this
    . have h3:3<=1:=z.2;omega
  . refine fun w2 hw2=>⟨rfl,fun x hx hOx=>?_,?_,?_⟩
    . rw [hw2.heap hOx,hset,if_neg hx];exact h₁.heap hOx
    . rw [hw2.heap hO,hset,if_pos rfl]
    . rw [hw2.size,<-h₁.size];simp [World.setCell]
def stB (N:Nat):Value->Bool
  | .pointer (some a)=>decide (a.block<N)
  | .chan _=>true
  | v=>zac v
theorem zo8 {N C:Nat} {v:Value} (h:stB N v=true):Stab (Kn N C) Ft v:=by
  unfold stB at h;split at h
  . rename_i a;obtain⟨b,o,sp⟩:=a;exact zkY (by simpa using h)
  . exact ze8
  . exact Stab.plain h
theorem ziy {N C:Nat} {l:List Value} (h:l.all (stB N)=true):∀ v∈l,Stab (Kn N C) Ft v:=fun v hv=>zo8 (List.all_eq_true.1 h v hv)
theorem zcL {self:Int} {steps ak gr qt:Nat} {told:Option Addr} {l:List (Option Blk)} (hl:∀ (i:Nat) (b:Option Blk),l[i]?=some b->b=none) {N:Nat} (hN:1<N):∀ n b,(zar (some (wpB self steps (zhh told) ak gr qt)::l)).get n=some b->(b.ro=true/\n=0)/\∀ v∈b.cells,Stab (Kn N 0) Ft v:=fun n b hb=>by
  rw [zaJ] at hb;cases n with
  | zero =>
    simp at hb;subst hb;refine⟨⟨rfl,rfl⟩,fun v hv=>?_⟩;simp only [List.mem_cons,List.not_mem_nil,or_false] at hv;rcases hv with rfl|rfl|rfl|rfl|rfl|rfl
    . exact Stab.plain rfl
    . exact Stab.plain rfl
    . exact zmG hN
    . exact ze8
    . exact ze8
    . exact ze8
  | succ n =>
    simp only [List.getElem?_cons_succ] at hb;cases hx:l[n]? with
    | none=>rw [hx] at hb;cases hb
    | some y=>rw [hx,hl n y hx] at hb;cases hb
theorem zkC (hSu:zcu Su) (h0:p.h≠0) {S:St} {hs:AHeap} {hp:Nat} {wself:Int} {s ask grant quit:Nat} {k0 gid0 dn0:Nat} {self0:Int} {closed0:Bool} {pend0:Option Nat} (hrun:p.run=some k0) (hthr:S[k0]?=some (.thr self0 quit closed0 true (some (hp,gid0,dn0)) pend0)) (hS:S[hp]?=some (.wp wself s ask grant quit)) {cc:Nat} {ab:Nat × Nat} {n:Int} {A B v:UInt64} {c0:Frame} {cs0:List Frame} {sl:Option (Nat × Nat)} (H:Standing p hok Su S F (.run [] [] hs S) Inb gs w T)
    (hg:gs[p.h]?=some ((doG (F.blk (VB+hp)) ab ask quit grant (accV cc n A B) (accV cc n A B) (c0::cs0)).finishComm Try.prog (zcH (F.blk (VB+hp)) ab ask quit grant (accV cc n A B) (accV cc n A B) (c0::cs0)).cases (zcH (F.blk (VB+hp)) ab ask quit grant (accV cc n A B) (accV cc n A B) (c0::cs0)).shape 0 (.int .u64 (v.toNat:Int)) true)) :
    Reach Try.prog (crowd gs w sl) T fun m' T'=>∃ gs' w' sl',m'=crowd gs' w' sl'/\gs'[p.h]?=some (Go.Conc.G (c0.finish (.int .u64 (v.toNat:Int))) cs0)/\Standing p hok Su (cntS S hp wself (s+1) ask grant quit) F (.run [] [] hs (cntS S hp wself (s+1) ask grant quit)) Inb gs' w' T':=by
  obtain⟨hW,told,hrow⟩:=H.wp hok hS;have hap:¬ p.OB (F.blk (VB+hp)):=fun z=>by obtain⟨_,_,_,R,_⟩:=H.com.ring;exact R.apart _ z hW
  generalize hwb:F.blk (VB+hp)=wb at *;rw [zlL wb ab ask quit grant cc n A B v told] at hg;have hn2:∀ (i:Nat) (b:Option Blk),([none,none]:List (Option Blk))[i]?=some b->b=none:=fun i b hb=>by
    match i,hb with
    | 0,hb=>simpa using hb.symm
    | 1,hb=>simpa using hb.symm
    | i+2,hb=>simp at hb
  have hVB:(3:Nat)<=VB:=by unfold VB;omega
  refine (zkq hok hSu (Ft:=embW wb told ab) (zqh wself s (zhh told) ask grant quit cc n A B v) (b:=base 82) Try.func82 rfl H hg rfl (zh4 [none,none] hn2 hrow) (ziy (by simp [stB,zac,accV,zaa,undef])) (fun n b hb=>(zcL hn2 (by show 1<3;omega) n b hb).2) (zbu _) hVB (fun n r hr=>(zcL (Ft:=embW wb told ab) hn2 (N:=3) (by omega) n r hr).1.1) (fun n r hr _=>by
    obtain⟨⟨_,rfl⟩,_⟩:=zcL (Ft:=embW wb told ab) hn2 (N:=3) (by omega) n r hr
    exact hap)).bind fun m1 T1=>?_
  rintro ⟨gs1,g1,w1,sl1,c1,Ft1,rfl,k1,rfl,k2,H1,k3,_⟩;have hg1:g1=Go.Conc.G ((base 82).at (actF (embW wb told ab) (doL2 cc n A B v s ask grant quit)) [.inRegion zd7 [7],.code ziW,.inBlock 1]) (c0::cs0):=by
    rw [show g1=_ from k2,zbo (K:=Kn 3 0) (F:=embW wb told ab) (ziy (by simp [stB,zac,accV,undef])) k3]
  subst hg1
  -- the count
  obtain⟨_,told1,hrow1⟩:=H1.wp hok hS;rw [hwb] at hrow1;obtain⟨B1,Mem1,q1,R1,hM01,hMh1⟩:=H1.com.ring;have hseat:∀ i se,Inb i=some se->¬ se.has wb:=fun i se hi hs=>by
    obtain⟨cap,k,hx⟩:=R1.chans i se wb (fun z=>z) hi hs;rw [hrow1] at hx;cases hx
  refine (zaM (sl:=sl1) 1 k1 (znF (h:=p.h) (Inb:=Inb) (told:=told) (c0::cs0) w1 hW hap hrow1 hseat) R1).bind fun m2 T2=>?_;rintro ⟨gs2,g2,w2,sl2,q2,B2,rfl,j1,j2,⟨rfl,j3,j4,j5⟩,R2⟩;have H2:Standing p hok Su (cntS S hp wself (s+1) ask grant quit) F (.run [] [] hs (cntS S hp wself (s+1) ask grant quit)) Inb gs2 w2 T2:=H1.count hok hrun hthr hSu h0 hS (by rw [hwb];exact j3) (by rw [hwb];exact j4) j1 j5 ⟨B2,Mem1,q2,R2,hM01,hMh1⟩
  -- to the return
  rw [show actF (embW wb told ab) (doL2 cc n A B v s ask grant quit)=actF (embW wb told1 ab) (doL2 cc n A B v s ask grant quit) by rw [zgS,zgS]] at j2
  refine (zkq hok hSu (sl:=sl2) (Ft:=embW wb told1 ab) (zpG wself s (s+1) (zhh told1) ask grant quit cc n A B v) (b:=base 82) Try.func82 rfl H2 j2 rfl (zh4 [none,none] hn2 j4) (ziy (by simp [stB,zac,accV,zaa,undef])) (fun n b hb=>(zcL hn2 (by show 1<3;omega) n b hb).2) (zbu _) hVB (fun n r hr=>(zcL (Ft:=embW wb told1 ab) hn2 (N:=3) (by omega) n r hr).1.1) (fun n r hr _=>by
    obtain⟨⟨_,rfl⟩,_⟩:=zcL (Ft:=embW wb told1 ab) hn2 (N:=3) (by omega) n r hr
    exact hap)).bind fun m3 T3=>?_
  rintro ⟨gs3,g3,w3,sl3,c3,Ft3,rfl,i1,⟨h3,rfl⟩,i2,H3,_⟩;obtain⟨fr,rfl,_,_,hl⟩:=i2;refine (zet hok hSu (sl:=sl3) (c':=.run [] [] hs (cntS S hp wself (s+1) ask grant quit)) H3 i1 rfl (hl c0 cs0 rfl) rfl rfl (fun v hv=>by cases hv)).bind fun m4 T4=>?_
  rintro ⟨gs4,w4,sl4,rfl,l1,_,H4⟩;exact .here ⟨gs4,w4,sl4,rfl,by rw [zbp] at l1;exact l1,H4⟩
end
theorem zd2 {P:Program} {main:Bool} {R:World->World->Prop} {D:World->World->Array Event->Prop} {S S':Goroutine->World->Prop} (hS:∀ g w,S g w->S' g w):∀ {n:Nat} {g:Goroutine} {w:World},Conc.Goes P main R D S n g w->Conc.Goes P main R D S' n g w
  | 0,_,_,h=>fun w1 h1=>hS _ _ (h w1 h1)
  | n+1,g,w,h=>by
    rcases h with h|⟨hs,h⟩
    . exact .inl fun w1 h1=>hS _ _ (h w1 h1)
    . refine .inr ⟨hs,fun w1 h1=>?_⟩;have:=h w1 h1;cases hgo:stepG P main g w1 with
      | go g' w' es =>
        rw [hgo,goes_go] at this;rw [goes_go];exact⟨this.1,zd2 hS this.2⟩
      | _=>rw [hgo] at this;exact this.elim
set_option maxRecDepth 100000 in
theorem zrr (wb:Nat) (ab:Nat × Nat) (ak qt:Nat) (x y:Value) (cs:List Frame) (main:Bool) (w:World) :
    stepG Try.prog main (Go.Conc.G ((base 82).at ⟨doT1 wb ab ak qt x y,[]⟩ [.inRegion zdn [0,1,2,3],.code zdU,.code doY]) cs) w =
      .comm (Go.Conc.G ((base 82).at ⟨doT1 wb ab ak qt x y,[]⟩ [.inRegion zdn [0,1,2,3],.code zdU,.code doY]) cs) #[scase ak y accZ,rcase qt (.agg #[])] true .select w:=by
  simp only [zdn,zdU,doY,doC,cOps,cL,cR,Try.f82,Option.getD_some];rw [stepG_comm (w':=w) (cases:=#[scase ak y accZ,rcase qt (.agg #[])]) (blocking:=true) (shape:=.select) rfl rfl (by decide) (by simp [go_sem,execOp,rcase,scase,Act.eval]),listed_none (by simp [go_sem,execOp,Act.eval])]
set_option maxRecDepth 100000 in
theorem zlz:(zdn[0]?).bind (·.dst)=some 15:=by
  simp only [zdn,doC,cOps,cL,cR,Try.f82,Option.getD_some];rfl
theorem zrW (wb:Nat) (ab:Nat × Nat) (ak qt:Nat) (x y:Value) (cs:List Frame) :
    (Go.Conc.G ((base 82).at ⟨doT1 wb ab ak qt x y,[]⟩ [.inRegion zdn [0,1,2,3],.code zdU,.code doY]) cs).finishComm Try.prog #[scase ak y accZ,rcase qt (.agg #[])] .select ((0:Nat):Int) undef false =
      Go.Conc.G ((base 82).at ⟨zsE wb ab ak qt x y,[]⟩ [.inRegion zdn [1,2,3],.code zdU,.code doY]) cs:=by
  have h2:commResult #[scase ak y accZ,rcase qt (.agg #[])] .select ((0:Nat):Int) undef false=.tuple #[.int .i64 0,.bool false,.agg #[]]:=by
    simp [commResult,rcase,scase,List.zipIdx_cons,goInt]
  simp only [Goroutine.finishComm];rw [h2];simp only [Go.Conc.G,Frame.finish_at,zlz];congr 1
theorem zpz (wb:Nat) (ab:Nat × Nat) (ak qt gr:Nat) (x y:Value) (cs:List Frame) (h:gr≠qt):(zcH wb ab ak qt gr x y cs).Wf:=by
  refine⟨fun cc h=>?_,fun k m c z z' h1 h2=>?_⟩
  . simp only [zcH,List.mem_toArray,List.mem_cons,List.not_mem_nil,or_false] at h;rcases h with rfl|rfl
    . exact⟨_,_,rfl⟩
    . exact⟨_,_,rfl⟩
  . rcases k with _|_|k<;>rcases m with _|_|m<;>simp [zcH,rcase] at h1 h2 ⊢<;>omega
theorem zcU {wb:Nat} {ab:Nat × Nat} {ak qt gr:Nat} {x y:Value} {cs:List Frame} {c:Nat} (h:(zcH wb ab ak qt gr x y cs).has c):c=gr\/c=qt:=by
  obtain⟨k,z,hk⟩:=h;rcases k with _|_|k<;>simp [zcH,rcase] at hk<;>omega
theorem zbT {tb wb dn ak:Nat} {cs:List Frame} {c:Nat} (h:(zbR tb wb dn ak cs).has c):c=ak\/c=dn:=by
  obtain⟨k,z,hk⟩:=h;rcases k with _|_|k<;>simp [zbR,rcase] at hk<;>omega
section
variable {p:Par} {Su:SuT} {S0:St} {F F' Ft:Emb} {c:Conf St} {Inb:Nat->Option Seat} {gs gs':Array Goroutine} {w w':World} {T T':Trace}
variable (hok:∀ mn OB WB,zau mn OB WB)
theorem zkD (h0:p.h≠0):p.X hok=XB hok p.OB p.WB:=by
  have e:p.mn=false:=by simp [Par.mn,h0]
  have h:∀ (m:Bool) (hm:zau m p.OB p.WB),m=false->XF m p.OB p.WB hm=XB hok p.OB p.WB:=by
    rintro _ _ rfl;rfl
  exact h _ _ e
theorem Tab.dist' {OB WB:Nat->Prop} {n:Nat} (t:Tab OB WB S0 F n w) {k s c k' s' c':Nat} (h1:ChS S0 k s c) (h2:ChS S0 k' s' c') (e:c=c'):k=k'/\s=s':=by
  subst e;exact t.dist _ _ _ _ _ h1 h2
theorem zeo {X:Face Try.prog St} (hs:w.heap.size<=w'.heap.size) (hv:∀ x,Vis X F c x->w'.heap[x]?=w.heap[x]?) (H:RInv X F c w):RInv X F c w':=by
  obtain⟨I,hl⟩:=H;exact⟨⟨I.holds.kept fun n r hr=>hv _ (.inl ⟨n,r,hr,rfl⟩),X.rep_kept _ _ _ _ I.rep hs fun b hb=>hv b (.inr hb),I.vst,I.hst,I.hk,I.hand,I.klim,Kept.refl _ _,fun _ _ _ _ _=>trivial,fun _ _ _=>trivial,I.sep⟩,hl⟩
theorem Com.apartD {N C:Nat} (H:Com p Su S0 F N C Inb gs w T) {k hp dn:Nat} {self wself:Int} {quit steps ask grant:Nat} {closed:Bool} {pend:Option Nat} (hr:p.run=some k) (hthr:S0[k]?=some (.thr self quit closed true (some (hp,p.h,dn)) pend)) (hwp:S0[hp]?=some (.wp wself steps ask grant quit)) {tb wb:Nat} {cs0:List Frame} (hs0:p.seat0=some (zbR tb wb dn ask cs0)) :
    ∀ i s' c,i≠p.h->Inb i=some s'->s'.has c->c≠grant/\c≠quit:=by
  intro i s' c hi hs hc;have t:=H.tab;by_cases h0:i=0
  . subst h0;rw [H.main,hs0] at hs;cases hs;rcases zbT hc with rfl|rfl
    . exact⟨fun e=>absurd (t.dist' (.ask hwp) (.grant hwp) e).2 (by decide),fun e=>absurd (t.dist' (.ask hwp) (.quit hthr) e).2 (by decide)⟩
    . exact⟨fun e=>absurd (t.dist' (.done hthr) (.grant hwp) e).2 (by decide),fun e=>absurd (t.dist' (.done hthr) (.quit hthr) e).2 (by decide)⟩
  . obtain⟨_,_,h3⟩:=H.seats i s' hs;obtain⟨k2,a1,a2,a3,hp2,dn2,pe2,b1,b2⟩:=h3 h0;obtain⟨_,h4⟩:=H.waits k2 _ _ _ _ _ _ _ b2;obtain⟨ws2,st2,ak2,gr2,ab2,x2,y2,cs2,c1,c2,_⟩:=h4 b1;rw [c2] at hs;cases hs;have hk2:k2≠k:=fun e=>b1 (by rw [e];exact hr)
    rcases zcU hc with rfl|rfl
    . refine⟨fun e=>?_,fun e=>absurd (t.dist' (.grant c1) (.quit hthr) e).2 (by decide)⟩
      have e1:=(t.dist' (.grant c1) (.grant hwp) e).1;subst e1;rw [c1] at hwp;cases hwp;exact hk2 (t.dist _ _ _ _ _ (.quit b2) (.quit hthr)).1
    . exact⟨fun e=>absurd (t.dist' (.quit b2) (.grant hwp) e).2 (by decide),fun e=>hk2 (t.dist' (.quit b2) (.quit hthr) e).1⟩
end
section
variable {p:Par} {Su:SuT} {S0:St} {F F' Ft:Emb} {c:Conf St} {Inb:Nat->Option Seat} {gs gs':Array Goroutine} {w w':World} {T T':Trace}
variable (hok:∀ mn OB WB,zau mn OB WB)
abbrev doL0 (c:Nat) (n:Int) (A B:UInt64):List Value:=[.pointer (some ⟨0,0,none⟩),accV c n A B,undef,undef,undef,undef,undef,undef,undef,undef,undef,undef,undef,undef,undef,undef,undef,undef,undef,undef,undef,undef,undef,undef,undef,undef,undef,undef,undef,undef,undef,undef,undef,undef,undef,undef,undef,undef,undef,undef,undef,undef,undef,undef]
set_option maxRecDepth 100000 in
theorem zp5 {hp c:Nat} {n:Int} {A B:UInt64} {told:Option Addr} {ab:Nat × Nat} (hb:F.base (VB+hp)=0) :
    actF F (zag Try.f82 doC #[hndV hp,accV c n A B]).2=actF (embW (F.blk (VB+hp)) told ab) (doL0 c n A B):=by
  simp only [zag,Try.ntmps82];simp [actF,doL0,embW,adr,hndV,zge,zaS,hb,List.replicate]
set_option maxRecDepth 100000 in
theorem zm4 {Ft:Emb} {wb c ak qt:Nat} {n:Int} {A B:UInt64} (h0:Ft.blk 0=wb) (hb:Ft.base 0=0):actF Ft (doL1 c n A B ak qt)=⟨doT1 wb (Ft.blk 2,Ft.base 2) ak qt (accV c n A B) (accV c n A B),[]⟩:=by
  simp [actF,doL1,adr,zge,zdy,zaS,h0,hb]
theorem zrH:Try.f82.body=some doC:=rfl
variable {ops:Array Oper} {i:Nat} {rest:List Nat} {k:List Item} {tmps:List Value} {hs:AHeap} {S:St} {o:Oper} {b:Frame} {cs:List Frame} {g:Goroutine} {sl:Option (Nat × Nat)}
theorem zry (hSu:zcu Su) {hp cc:Nat} {n:Int} {A B:UInt64} {wself:Int} {steps ask grant quit:Nat} (hS:S[hp]?=some (.wp wself steps ask grant quit)) (ho:ops[i]?=some o) (hw:Region.wanted o (zaj ops tmps)=true) (hb':o.op.operands.all zaN=true) (hca:zaW Try.prog (evA tmps) o.op=some (82,#[hndV hp,accV cc n A B])) (hk:b.kind=.normal)
    (H:Standing p hok Su S0 F (.run (.inRegion ops (i::rest)::k) tmps hs S) Inb gs w T) (hg:gs[p.h]?=some g) (hgS:g=Go.Conc.G (b.at (actF F tmps) (.inRegion ops (i::rest)::k)) cs) :
    Reach Try.prog (crowd gs w sl) T fun m' T'=>∃ gs' w' sl' ab,m'=crowd gs' w' sl'/\gs'[p.h]?=some (Go.Conc.G ((base 82).at ⟨doT1 (F.blk (VB+hp)) ab ask quit (accV cc n A B) (accV cc n A B),[]⟩ [.inRegion zdn [0,1,2,3],.code zdU,.code doY]) (b.at (actF F tmps) (.inRegion ops (i::rest)::k)::cs)) /\
      Standing p hok Su S0 F (.run [] [] hs S) Inb gs' w' T':=by
  refine (zbY hok hSu ho hw hb' hca Try.func82 rfl zrH hk H hg hgS).bind fun m1 T1=>?_;rintro ⟨gs1,w1,sl1,rfl,k1,H1⟩;have H1:Standing p hok Su S0 F (.run [] [] hs S) Inb gs1 w1 T1:=Standing.conf hok H1 rfl rfl (fun v hv=>by cases hv)
  obtain⟨hW,told,hrow⟩:=H1.wp hok hS;have R:Rep p.mn p.OB p.WB F S w1:=H1.inv.1.rep;have hap:¬ p.OB (F.blk (VB+hp)):=fun z=>by obtain⟨_,_,_,R,_⟩:=H1.com.ring;exact R.apart _ z hW
  rw [zp5 (told:=told) (ab:=(0,0)) (R.base _ _ hS rfl)] at k1;have hn2:∀ (i:Nat) (b:Option Blk),([none]:List (Option Blk))[i]?=some b->b=none:=fun i b hb=>by
    match i,hb with
    | 0,hb=>simpa using hb.symm
    | i+1,hb=>simp at hb
  have hVB:(2:Nat)<=VB:=by unfold VB;omega
  refine (zkq hok hSu (sl:=sl1) (Ft:=embW (F.blk (VB+hp)) told (0,0)) (zqe wself steps (zhh told) ask grant quit cc n A B) (b:=base 82) Try.func82 rfl H1 k1 rfl (zh4 [none] hn2 hrow) (ziy (by simp [stB,zac,accV,zaa,undef])) (fun n b hb=>(zcL hn2 (by show 1<2;omega) n b hb).2) (zbu _) hVB (fun n r hr=>(zcL (Ft:=embW (F.blk (VB+hp)) told (0,0)) hn2 (N:=2) (by omega) n r hr).1.1) (fun n r hr _=>by
    obtain⟨⟨_,rfl⟩,_⟩:=zcL (Ft:=embW (F.blk (VB+hp)) told (0,0)) hn2 (N:=2) (by omega) n r hr
    exact hap)).bind fun m2 T2=>?_
  rintro ⟨gs2,g2,w2,sl2,c2,Ft2,rfl,j1,rfl,j2,H2,j3,_⟩;obtain⟨e1,e2,_⟩:=j3 0 (.inl (by show 0<2;omega))
  refine .here ⟨gs2,w2,sl2,(Ft2.blk 2,Ft2.base 2),rfl,?_,H2⟩;rw [j1,show g2=_ from j2,zm4 (wb:=F.blk (VB+hp)) (by rw [<-e1];rfl) (by rw [<-e2];rfl)]
end
section
variable {F:Emb} {Inb:Nat->Option Seat} {gs gs':Array Goroutine} {w w':World} {T T':Trace}
variable (hok:∀ mn OB WB,zau mn OB WB)
variable {Γ:Type} {Pr:Proto Γ}
theorem gave (d:BD Γ) (hd:d.Ok) {cc:Nat} {n:Int} {A B:UInt64} {hs:AHeap} {ab:Nat × Nat} {cs:List Frame} {sl:Option (Nat × Nat)} {γ:Γ} {q:Pr.Ph}
    (H:Standing d.p hok d.Su d.S F (.run [] [] hs d.S) Inb gs w T)
    (hg:gs[d.p.h]?=some (Go.Conc.G ((base 82).at ⟨doT1 (F.blk (VB+d.hp)) ab d.ask d.quit (accV cc n A B) (accV cc n A B),[]⟩ [.inRegion zdn [0,1,2,3],.code zdU,.code doY]) cs))
    (hInv:Pr.Inv γ hs d.S) (hph:Pr.ph γ d.k=some q) (hacc:Pr.acc q=(cc,n,A,B)) (hoth:∀ i,i≠d.k->Pr.ph γ i=Pr.ph d.γ i) (hfuel:Pr.FC γ d.γ)
    (hQ:BSusp hok Pr F hs.next d.S.length (Pr.fuel γ) d.k d.hp (.wp d.wself d.steps d.ask d.grant d.quit) q (doG (F.blk (VB+d.hp)) ab d.ask d.quit d.grant (accV cc n A B) (accV cc n A B) cs)) :
    Reach Try.prog (crowd gs w sl) T (Came hok Pr (BSusp hok Pr) d):=by
  have hc:=H.com;have t:=hc.tab;obtain⟨B0,Mem,q0,R0,hM0,hMh⟩:=hc.ring;have hthr:=hd.thr;have hwp:=hd.wp;obtain⟨_,hp',gid',dn',ws',st',ak',gr',e1,e2,cask,cgr,cdn,hgid,hgsz,hbox⟩:=t.busy _ _ _ _ _ _ hthr;cases e1;rw [hwp] at e2;cases e2;have cqt:=t.quit _ _ _ _ _ _ hthr;obtain⟨hW,told,hrow⟩:=H.wp hok hwp
  -- the embedding at the beginning
  have hFR:F.blk (VB+d.hp)=d.p.FR.blk (VB+d.hp):=((H.same.1 (VB+d.hp) (.inr ⟨by omega,by rw [hd.cr];have:=zaL hwp;omega⟩)).1).symm
  generalize hwb:F.blk (VB+d.hp)=wb at *
  -- its seat
  have fask:=t.far _ _ _ (.ask hwp);have fgr:=t.far _ _ _ (.grant hwp);have fqt:=t.far _ _ _ (.quit hthr);have hne:d.grant≠d.quit:=fun e=>absurd (t.dist' (.grant hwp) (.quit hthr) e).2 (by decide)
  have hlow:∀ {x},zbd w x->x<w.heap.size:=fun {x} hx=>by obtain⟨_,_,_,_,_,_,h1⟩:=hx;exact zab h1
  have R1:RingO Try.prog d.p.OB d.p.WB (max B0 w.heap.size) d.p.Iv Mem Inb d.p.h T gs w q0:=CoF.mono (Nat.le_max_left _ _) (Nat.max_le.2 ⟨R0.lowB,Nat.le_refl _⟩) R0
  let sD:=zcH wb ab d.ask d.quit d.grant (accV cc n A B) (accV cc n A B) cs
  let Inb1:Nat->Option Seat:=fun i=>if i=d.p.h then some sD else Inb i
  have R2:RingO Try.prog d.p.OB d.p.WB (max B0 w.heap.size) d.p.Iv Mem Inb1 d.p.h T gs w q0:=R1.reseat hMh sD (zpz _ _ _ _ _ _ _ _ hne)
    (fun c hcc=>by rcases zcU hcc with rfl|rfl;exact⟨_,cgr⟩;exact⟨_,cqt⟩)
    (fun c hcc=>by rcases zcU hcc with rfl|rfl;exact fgr.2.1;exact fqt.2.1)
    (fun c hcc=>by
      have:c<w.heap.size:=by rcases zcU hcc with rfl|rfl;exact hlow fgr.1;exact hlow fqt.1
      omega)
    (fun i s' c hi hs hx hcc=>by
      obtain⟨h1,h2⟩:=hc.apartD hd.run hthr hwp hd.seat i s' c hi hs hx;rcases zcU hcc with z|z
      . exact h1 z
      . exact h2 z)
  have hI0:Inb1 0=some (zbR d.tb (d.p.FR.blk (VB+d.hp)) d.dn d.ask d.cs0):=by
    show (if 0=d.p.h then some sD else Inb 0)=_
    rw [if_neg (fun e=>hd.h0 e.symm),hc.main,hd.seat]
  have hIh:Inb1 d.p.h=some sD:=if_pos rfl;obtain⟨ka,hka⟩:=cask;have hsz0:0<gs.size:=by omega
  refine (zsM (P:=Try.prog) (kh:=0) (kk:=0) (c:=d.ask) (v:=accV cc n A B) (z:=accZ) (z':=accZ) (cases:=#[scase d.ask (accV cc n A B) accZ,rcase d.quit (.agg #[])]) (shape:=.select) (fun e=>hd.h0 e.symm) hI0 rfl hMh rfl fask.2.2 (fun main w=>zrr wb ab d.ask d.quit (accV cc n A B) (accV cc n A B) cs main w) rfl (fun m c' hm hc'=>?_) (Inb':=Inb1) (fun _ _=>rfl) (.inl rfl) (nh:=61) w (fun T' w1 k1 _ hw1 _=>?_) _ (sl:=sl) false rfl hsz0 (SideD.refl w) hka hg (fun z=>by cases z) R2).mono fun m T'=>?_
  . rcases m with _|_|m
    . exact absurd rfl hm
    . simp at hc';exact⟨sD,d.quit,.agg #[],hc'.symm,hIh,⟨1,.agg #[],by simp [sD,zcH]⟩⟩
    . simp at hc'
  . rw [zrW,hIh];have hOwb:¬ d.p.OB wb:=fun z=>R0.apart _ z hW;have hne2:wb≠d.ask:=fun e=>by
      rw [<-e,hrow] at hka;cases hka
    have hrow1:(w1.setChan d.ask 0 #[] false (k1+1) (k1+1) false).heap[wb]?=some (.cells (zdp d.wself d.steps (.pointer told) d.ask d.grant d.quit) 77 (0,0)):=by
      rw [heap_setChan_ne _ _ _ _ _ _ _ (fun e=>hne2 e.symm),hw1.only wb (fun z=>hOwb z.1)];exact hrow
    refine .inl ⟨60,rfl,?_⟩;have hb0:(d.p.h==0)=false:=by simp [hd.h0]
    rw [hb0];exact zd2 (fun g w h=>⟨h,by rw [hd.iv];exact fun e=>absurd e hd.h0⟩) (zr6 (x:=accV cc n A B) (y:=accV cc n A B) ⟨hW,by simp [World.cell?,hrow1,zdp,chV],by simp [World.cell?,hrow1,zdp,chV]⟩ (by have:=zab hrow;omega) cs)
  rintro ⟨gs',gq,w1,k1,sl',q',rfl,b1,b2,b3,b4,b5,b6,R3⟩;have b3:gq=zh7 d.tb (d.p.FR.blk (VB+d.hp)) d.dn d.ask d.cs0:=b3;subst b3;have hX:=zkD hok (p:=d.p) hd.h0;have b5:IvN d.p.OB d.wN 0 w1:=hd.iv ▸ b5;have hsz2:(w1.setChan d.ask 0 #[] false (k1+1) (k1+1) false).heap.size=w.heap.size:=by rw [<-b4.size];simp [World.setChan]
  have hset:∀ x,x≠d.ask->¬ d.p.OB x->(w1.setChan d.ask 0 #[] false (k1+1) (k1+1) false).heap[x]?=w.heap[x]?:=fun x hx hO=>by
    rw [heap_setChan_ne _ _ _ _ _ _ _ (fun e=>hx e.symm),b4.only x (fun z=>hO z.1)]
  have hask:(w1.setChan d.ask 0 #[] false (k1+1) (k1+1) false).heap[d.ask]?=some (.chan 0 #[] false (k1+1) (k1+1) false):=heap_setChan_self w1 b6 _ _ _ _ _ _;have hvne:∀ x,Vis (d.p.X hok) F (.run [] [] hs d.S) x->x≠d.ask:=fun x hx e=>H.chan_out hok fask.1 (e ▸ hx);have hvis:∀ x,Vis (d.p.X hok) F (.run [] [] hs d.S) x->(w1.setChan d.ask 0 #[] false (k1+1) (k1+1) false).heap[x]?=w.heap[x]?:=fun x hx=>hset x (hvne x hx) fun z=>H.ov hd.h0 x z hx;generalize hw2:w1.setChan d.ask 0 #[] false (k1+1) (k1+1) false=w2 at *;have hap:∀ x,d.p.OB x->¬ d.p.WB x:=R0.apart;have hch:∀ c,¬ d.p.OB c->(zbd w c->zbd w2 c)/\∀ cap,ChanO w c cap->ChanO w2 c cap:=fun c hO=>by
    by_cases e:c=d.ask
    . subst e;refine⟨fun _=>⟨_,_,_,_,_,_,hask⟩,fun cap h=>?_⟩;obtain⟨m,hm⟩:=h;rw [hka] at hm;cases hm;exact⟨_,hask⟩
    . refine⟨fun h=>?_,fun cap h=>?_⟩
      . obtain⟨a1,a2,a3,a4,a5,a6,a7⟩:=h;exact⟨a1,a2,a3,a4,a5,a6,by rw [hset c e hO];exact a7⟩
      . obtain⟨m,hm⟩:=h;exact⟨m,by rw [hset c e hO];exact hm⟩
  refine⟨gs',w2,sl',F,hs,γ,0,accV cc n A B,fun i=>if i=0 then none else Inb1 i,d.S,fun F1 N1 C1 i hp ob g=>if i=d.k then ∃ F0 n0 c0,Same (Kn n0 c0) F0 F1/\n0<=N1/\c0<=C1/\BSusp hok Pr F0 n0 c0 (Pr.fuel γ) d.k hp ob q g else d.Su F1 N1 C1 i hp ob g,d.p.Iv,rfl,b2,hoth,hfuel,hInv,H.same.1,H.same.2.1,fun b hb=>?_,hX ▸ zeo (Nat.le_of_eq hsz2.symm) hvis H.inv,fun x hx=>hX ▸ H.ov hd.h0 x hx,fun x hx=>?_,fun x hx=>?_,H.wro,H.base.move (Nat.le_of_eq hsz2.symm) (fun x _ hx=>hX.symm ▸ hx) (fun _ _ h=>h) (fun x _ _ h2 h3=>hset x (h3 _ _ _ (.ask hwp)) h2) (fun _ _ _ h=>.inl h),⟨⟨_,_,_,R3.unseat,⟨hM0,.inr rfl⟩,⟨hM0,.inr rfl⟩⟩,?_,if_pos rfl,fun i s hi=>?_,fun k self quit closed hp gid dn pend hq=>?_,hc.n0,Nat.le_refl _⟩,.inl ⟨rfl,q,hph,?_,rfl,fun F1 N1 C1 i hp ob g hg=>?_⟩⟩
  . have hne3:b≠d.ask:=fun e=>fask.2.1 (e ▸ hb);rw [<-hw2,heap_setChan_ne _ _ _ _ _ _ _ (fun e=>hne3 e.symm)];exact b5 rfl b hb
  . obtain⟨h1,h2,h3,h4⟩:=H.prot x hx;obtain⟨cc',el,fr,h5⟩:=hd.px x hx;rw [hsz2];refine⟨h1,hX ▸ h2,h3,(hset x (fun e=>?_) h3).trans h4⟩;rw [e] at h4 h5;rw [h5,hka] at h4;cases h4
  . obtain⟨cc',el,h1,h2⟩:=H.wrow x hx;exact⟨cc',el,(hset x (fun e=>by rw [e,hka] at h1;cases h1) fun z=>hap x z hx).trans h1,h2⟩
  . rw [b1];exact t.turn (p:=d.p) (Nat.le_refl _) (Same.refl (Kn 0 d.S.length) F) (Nat.le_of_eq hsz2.symm) hch
  . show i≠0/\i<gs'.size/\_;by_cases h0:i=0
    . simp [h0] at hi
    rw [if_neg h0] at hi;refine⟨h0,?_,fun _=>?_⟩
    . rw [b1];by_cases e:i=d.p.h
      . rw [e];exact hgsz
      . rw [show Inb1 i=Inb i from if_neg e] at hi
        exact (hc.seats i s hi).2.1
    . by_cases e:i=d.p.h
      . exact⟨d.k,_,_,_,_,_,_,by simp,by rw [e];exact hthr⟩
      . rw [show Inb1 i=Inb i from if_neg e] at hi
        obtain⟨k,c1,c2,c3,c4,c5,c6,_,c8⟩:=(hc.seats i s hi).2.2 h0;exact⟨k,c1,c2,c3,c4,c5,c6,by simp,c8⟩
  . refine⟨fun e=>(by cases e),fun _=>?_⟩
    by_cases e:k=d.k
    . subst e;rw [hthr] at hq;cases hq;refine⟨d.wself,d.steps,d.ask,d.grant,ab,accV cc n A B,accV cc n A B,cs,hwp,?_,?_⟩
      . show (if d.p.h=0 then none else Inb1 d.p.h)=_
        rw [if_neg hd.h0,hIh,hwb]
      . show if d.k=d.k then _ else _
        rw [if_pos rfl,hwb];exact⟨F,hs.next,d.S.length,Same.refl _ _,Nat.le_refl _,Nat.le_refl _,hQ⟩
    . obtain⟨ws,st,ak,gr,ab',x,y,cs',h3,h4,h5⟩:=(hc.waits k self quit closed hp gid dn pend hq).2 (by rw [hd.run];simpa using fun z=>e z.symm)
      obtain⟨h6,h7,h8⟩:=hc.seats gid _ h4;obtain⟨hp3,gid3,dn3,_,_,_,_,z1,_,_,_,_,z2,_⟩:=(t.busy _ _ _ _ _ _ hq).2;cases z1;refine⟨ws,st,ak,gr,ab',x,y,cs',h3,?_,?_⟩
      . show (if gid=0 then none else Inb1 gid)=_
        rw [if_neg (by omega),show Inb1 gid=Inb gid from if_neg h6,h4]
      . show if k=d.k then _ else _
        rw [if_neg e];exact h5
  . simp [accQ,hacc]
  . exact hg
end
section
variable (hok:∀ mn OB WB,zau mn OB WB)
variable {Γ:Type} (Pr:Proto Γ)
def ClB (k hp bx:Nat) (d:BD Γ) (γ:Γ × St) (p:Par):Prop:=p=d.p/\γ=(d.γ,d.S)/\d.Ok/\d.k=k/\d.hp=hp/\d.p.FR.blk (VB+(hp+1))=bx
def SuB (d:BD Γ) (_:Γ):SuT:=d.Su
def FinB (d:BD Γ):Machine->Trace->Prop:=Came hok Pr (BSusp hok Pr) d
def SpB (k hp:Nat):SpT Γ:=fun f args hs S γ Q=>∃ (γ1:Γ) (q:Pr.Ph) (wself:Int) (steps ask grant quit:Nat),f=82/\args=#[hndV hp,accQ (Pr.acc q)]/\S=γ.2/\S[hp]?=some (.wp wself steps ask grant quit)/\Pr.Inv γ1 hs S/\Pr.ph γ1 k=some q/\(∀ i,i≠k->Pr.ph γ1 i=Pr.ph γ.1 i)/\Pr.FC γ1 γ.1 /\
  ∀ (v:UInt64) (h1:AHeap) (γ2:Γ) (S1:St),Pr.Run k q v γ2 h1 S1->Pr.fuel γ2<Pr.fuel γ1->hs.next<=h1.next->S.length<=S1.length->S1[hp]?=some (.wp wself (steps+1) ask grant quit)->Q (.int .u64 (v.toNat:Int)) h1 S1 (γ2,S1)
theorem cnt_len {S:St} {hp:Nat} {wself:Int} {s2 ask grant quit:Nat}:(cntS S hp wself s2 ask grant quit).length=S.length:=by simp
theorem zr4 (k hp bx:Nat) {fv:Value} {wbr dn0:Nat}:SpOK hok (ClB k hp bx) SuB (FinB hok Pr) (zi5 (zcd fv wbr dn0 bx [3])) (SpB Pr k hp):=by
  intro f args hs S γ Q hsp b cs F0 N0 C0 fn ops i rest kk tmps o hfn hkd hsk ho hw hb' hca K d p Inb F gs w sl T g hC H hg hgS hF hN hC0;obtain⟨γ1,q,wself,steps,ask,grant,quit,rfl,rfl,hSγ,hwp,hInv,hph,hoth,hfuel,hQ⟩:=hsp;obtain⟨rfl,hγ,hd,rfl,rfl,hbx⟩:=hC;subst hγ;have hSγ:S=d.S:=hSγ;subst hSγ;have hwp':=hd.wp;rw [hwp] at hwp';cases hwp';have H:Standing d.p hok d.Su d.S F (.run (.inRegion ops (i::rest)::kk) tmps hs d.S) Inb gs w T:=H;rcases hacc:Pr.acc q with ⟨c,n,A,B⟩
  have hca:zaW Try.prog (evA tmps) o.op=some (82,#[hndV d.hp,accV c n A B]):=by rw [hca,hacc];rfl
  refine (zry hok hd.mono hwp ho hw hb' hca hkd H hg hgS).bind fun m1 T1=>?_;rintro ⟨gs1,w1,sl1,ab,rfl,k1,H1⟩;have hbl:d.hp+1<d.S.length:=by
    obtain⟨_,hp',gid',dn',_,_,_,_,e1,_,_,_,_,_,_,hbox⟩:=H.com.tab.busy _ _ _ _ _ _ hd.thr;cases e1;exact zaL hbox
  have hbxF:F.blk (VB+(d.hp+1))=bx:=by
    rw [<-hbx];exact ((H.same.1 (VB+(d.hp+1)) (.inr ⟨by omega,by rw [hd.cr];omega⟩)).1).symm
  refine gave hok d hd H1 k1 hInv hph hacc hoth hfuel (BSusp.fold hok ?_ ?_)
  rotate_left
  . exact⟨hbl,_,_,_,_,_,_,_,_,fv,wbr,dn0,rfl,.frame hfn rfl rfl (hbxF ▸ hsk)⟩
  intro d2 s2 S2 F2 hs2 Inb2 gs2 w2 sl2 T2 v hd2 hk2 hhp2 hst2 hob hS2 hdS H2 hg2 hsame hn hc hRun hfu;injection hob with e1 e2 e3 e4 e5
  have hstab:∀ u∈tmps,Stab (Kn hs.next d.S.length) F u:=fun u hu=>H.inv.1.vst u hu;have hthr2:S2[d2.k]?=some (.thr d2.self d2.quit false true (some (d2.hp,d2.p.h,d2.dn)) d2.pend):=by
    have:=hd2.thr;rw [hdS] at this;exact (zbZ (s:=s2) (by rw [hS2,e1,e2,e3,e4,e5])).1 this
  have hblk:F2.blk (VB+d.hp)=F.blk (VB+d.hp):=((hsame (VB+d.hp) (.inr ⟨by omega,by have:=zaL hwp;omega⟩)).1).symm
  refine (zkC hok (sl:=sl2) (c0:=b.at (actF F tmps) (.inRegion ops (i::rest)::kk)) (cs0:=cs) (cc:=c) (ab:=ab) (n:=n) (A:=A) (B:=B) (v:=v) (hp:=d.hp) (wself:=d2.wself) (s:=s2) (ask:=d2.ask) (grant:=d2.grant) (quit:=d2.quit) hd2.mono hd2.h0 hd2.run (by rw [<-hhp2];exact hthr2) (by rw [hS2,e1,e2,e3,e4,e5]) H2 ?_).bind fun m3 T3=>?_
  . rw [hblk,<-e3,<-e4,<-e5];rw [<-e4,<-e5] at hg2;exact hg2
  rintro ⟨gs3,w3,sl3,rfl,k3,H3⟩;rw [<-hst2,<-hdS] at H3;have hlen:S2.length=d2.S.length:=by rw [hdS,cnt_len]
  have hfin:(b.at (actF F tmps) (.inRegion ops (i::rest)::kk)).finish (.int .u64 (v.toNat:Int))=b.at (actF F2 (putL o.dst (.int .u64 (v.toNat:Int)) tmps)) (.inRegion ops rest::kk):=by
    rw [Frame.finish_at,ho];show b.at ((actF F tmps).put o.dst (.int .u64 (v.toNat:Int))) (.inRegion ops rest::kk)=_;rw [<-zbo hstab hsame,<-zcI,zbp]
  rw [hfin] at k3;have hwp2:d2.S[d.hp]?=some (.wp d.wself (d.steps+1) d.ask d.grant d.quit):=by
    have:=hd2.wp;rw [hhp2,hst2,<-e1,<-e2,<-e3,<-e4,<-e5] at this;exact this
  have hbx2:d2.p.FR.blk (VB+(d.hp+1))=bx:=by
    rw [<-hbxF,((hsame (VB+(d.hp+1)) (.inr ⟨by omega,by omega⟩)).1)]
    exact (H2.same.1 (VB+(d.hp+1)) (.inr ⟨by omega,by rw [hd2.cr,<-hlen];omega⟩)).1
  have hKK:∀ x,Kn hs.next d.S.length x->Kn hs2.next d2.S.length x:=fun x hx=>hx.mono hn (by rw [<-hlen];exact hc)
  refine K _ hs2 d2.S (d2.γ,d2.S) (hQ v hs2 d2.γ d2.S hRun hfu hn (by rw [<-hlen];exact hc) hwp2) d2 d2.p Inb2 F2 gs3 w3 sl3 T3 _ ⟨rfl,rfl,hd2,hk2,hhp2,hbx2⟩ (Standing.conf hok H3 rfl rfl (zb9 (fun u hu=>(hstab u hu).move hsame hKK) (Stab.plain rfl) o.dst)) k3 rfl (hF.trans (hsame.mono fun x hx=>hx.mono hN hC0)) (Nat.le_trans hN hn) (Nat.le_trans hC0 (by show d.S.length<=d2.S.length;rw [<-hlen];exact hc))
end
abbrev zlR (fv pw cd:Value):Deferred:=dcall 30 #[fv,pw,cd]
theorem zmY (fv pw cd:Value) (w:World):stepG Try.prog false (born Try.prog (zlR fv pw cd)) w =
    .go (Go.Conc.G ((baseD 30).at ⟨#[fv,pw,cd,undef,undef,undef,undef,undef,undef,undef,undef],[]⟩ [.code ziJ]) [botF]) w #[]:=by
  have hb:Try.f30.body=some ziJ:=rfl;have hn : ¬ Try.f30.name = "runtime.NumGoroutine" := by
    have h : (Try.f30.name == "runtime.NumGoroutine") = false := rfl;simpa using h
  simp [born,zlR,dcall,stepG,unwind,callDeferred,invoke,callFunc,Try.func30,hb,seen_none,GStep.after,Go.Conc.G,Frame.enter,Frame.at,baseD,botF,Try.ntmps30,hn]
section
variable {P:Program} {main:Bool} {b:Frame} {a:Act} {k:List Item} {cs:List Frame} {w:World}
theorem zjy {ops:Array Oper} {i:Nat} {rest:List Nat} {o:Oper} {f:FuncId} {x:Operand} {ats:Array TypeId} {ys:Array Value} (ho:ops[i]?=some o) (hw:Region.wanted o (yielded ops a.tmps)=true) (hk:b.kind≠.early)
    (hop:o.op=.defer { callee:=.value x,args:=#[],argTypes:=ats }) (ef:a.eval x=.func (.func f) #[] ys) :
    stepG P main (Go.Conc.G (b.at a (.inRegion ops (i::rest)::k)) cs) w=.go (Go.Conc.G (b.at (Act.put ⟨a.tmps,zgV f ys::a.defers⟩ o.dst undef) (.inRegion ops rest::k)) cs) w #[]:=by
  have hr:(execOp a.eval o).run P w=.ok (.defer (zgV f ys)) w:=by
    unfold execOp;simp [hop,resolve,Deferred.ofValue,ef]
  have he:(execOp a.eval o).events P w #[]=#[]:=by
    unfold execOp;simp [hop,resolve,Deferred.ofValue,ef]
  have hfin:(b.at ⟨a.tmps,zgV f ys::a.defers⟩ (.inRegion ops (i::rest)::k)).finish undef=b.at (Act.put ⟨a.tmps,zgV f ys::a.defers⟩ o.dst undef) (.inRegion ops rest::k):=by rw [Frame.finish_at,ho];rfl
  have hk':(b.kind==CallKind.early)=false:=by simpa using hk
  rw [stepG_oper ho hw,<-hfin];simp [stepG.apply,hr,he,Go.Conc.G,Frame.at,hk',GStep.after,seen_none]
theorem zeV {todo : List Item} {ds : List Deferred} {f : FuncId} {fn : Func} {ys : Array Value} {c : Code} (hd : a.defers = zgV f ys :: ds) (hf : P.funcs[f]? = some fn) (hname : (fn.name == "runtime.NumGoroutine") = false) (hb : fn.body = some c) :
    stepG P main (Go.Conc.G { b.at a todo with mode:=.returning } cs) w =
      .go (Go.Conc.G ((baseD f).at { tmps:=ys++Array.replicate (fn.ntmps - ys.size) undef,defers:=[] } [.code c]) ({ b.at ⟨a.tmps,ds⟩ todo with mode:=.returning }::cs)) w #[]:=by
  have h1 : ¬ fn.name = "runtime.NumGoroutine" := by simpa using hname
  rw [<-enter_atD ys hf hb];simp [Go.Conc.G,stepG,unwind,callDeferred,Frame.at,hd,zgV,invoke,callFunc,hf,h1,hb,GStep.after,seen_none]
end
section
variable {OB WB:Nat->Prop} {Inb:Nat->Option Seat} {h:Nat}
def zfv (OB WB:Nat->Prop) (Inb:Nat->Option Seat) (b:Nat):Prop:=OB b\/WB b\/∃ i s,Inb i=some s/\s.has b
theorem zbH (w:World) (o:Obj):(w.alloc o).heap=w.heap.push o:=rfl
theorem zaD (w:World) (o:Obj) (b:Nat) (hb:b<w.heap.size):(w.alloc o).heap[b]?=w.heap[b]?:=by
  rw [zbH,Array.getElem?_push,if_neg (by omega)]
theorem zaH (w:World) (o:Obj):(w.alloc o).heap.size=w.heap.size+1:=by rw [zbH,Array.size_push]
theorem zbw (w:World) (o:Obj):(w.alloc o).heap[w.heap.size]?=some o:=by rw [zbH,Array.getElem?_push,if_pos rfl]
theorem DO.alloc {w:World} {o:Obj} {es:Array Event} (hl:∀ b,zfv OB WB Inb b->b<w.heap.size) (hs:∀ e∈es,EvO OB WB h (w.alloc o) e):DO OB WB Inb h w (w.alloc o) es :=
  ⟨fun i s c hi hc=>zaD w o c (hl c (.inr (.inr ⟨i,s,hi,hc⟩))),fun a ha _=>zaZ _ _ _ (zaD w o _ (hl _ (.inr (.inl ha)))),fun _ b hb=>zaD w o b (hl b (.inl hb)),by rw [zaH];omega,rfl,hs⟩
structure KR0 (OB WB:Nat->Prop) (Inb:Nat->Option Seat) (w0 w:World):Prop where
  low:∀ b,zfv OB WB Inb b->b<w.heap.size
  old:∀ b,¬ OB b->w.heap[b]?=w0.heap[b]?
  size:w.heap.size=w0.heap.size
theorem KR0.rely {w0 w w1:World} (K:KR0 OB WB Inb w0 w) (r:Ro OB h w w1):KR0 OB WB Inb w0 w1:=⟨fun b hb=>by rw [r.size];exact K.low b hb,fun b hb=>(r.heap hb).trans (K.old b hb),r.size.trans K.size⟩
structure KR1 (OB WB:Nat->Prop) (Inb:Nat->Option Seat) (w0:World) (dn:Nat) (w:World):Prop where
  low:∀ b,zfv OB WB Inb b->b<w.heap.size
  old:∀ b,¬ OB b->b<w0.heap.size->w.heap[b]?=w0.heap[b]?
  size:w.heap.size=w0.heap.size+1
  box:w.heap[w0.heap.size]?=some (.cells #[.chan (some dn)] 101 (0,0))
  bO:¬ OB w0.heap.size
theorem KR1.rely {w0 w w1:World} {dn:Nat} (K:KR1 OB WB Inb w0 dn w) (r:Ro OB h w w1):KR1 OB WB Inb w0 dn w1:=⟨fun b hb=>by rw [r.size];exact K.low b hb,fun b hb hl=>(r.heap hb).trans (K.old b hb hl),r.size.trans K.size,(r.heap K.bO).trans K.box,K.bO⟩
theorem KR0.alloc {w0 w:World} {dn:Nat} (K:KR0 OB WB Inb w0 w):KR1 OB WB Inb w0 dn (w.alloc (.cells #[.chan (some dn)] 101)):=by
  refine⟨fun b hb=>?_,fun b hb hl=>?_,?_,?_,fun z=>?_⟩
  . have:=K.low b hb;rw [zaH];omega
  . rw [zaD _ _ _ (by rw [K.size];exact hl)];exact K.old b hb
  . rw [zaH,K.size]
  . rw [<-K.size];exact zbw _ _
  . have:=K.low _ (.inl z);rw [K.size] at this;omega
set_option maxRecDepth 100000 in
theorem zmA {fb:FuncId} {xs ys:Array Value} {wb dn:Nat} (w0 w:World) (hK:KR0 OB WB Inb w0 w) :
    Conc.Goes Try.prog false (Ro OB h) (DO OB WB Inb h) (fun g w'=>g=Go.Conc.G (zcd (.func (.func fb) xs ys) wb dn w0.heap.size [3]) [botF]/\KR1 OB WB Inb w0 dn w') 40 (Go.Conc.G ((baseD 30).at ⟨#[.func (.func fb) xs ys,pt wb,.chan (some dn),undef,undef,undef,undef,undef,undef,undef,undef],[]⟩ [.code ziJ]) [botF]) w:=by
  simp only [ziJ,Try.f30,Option.getD_some];(refine Conc.Goes.step rfl (fun w₁ h₁=>?_);replace hK:=hK.rely h₁;clear h₁;rw [stepG_seq];simp only [goes_go];refine⟨DO.none _,?_⟩);(refine Conc.Goes.step rfl (fun w₁ h₁=>?_);replace hK:=hK.rely h₁;clear h₁;rw [stepG_region];simp only [goes_go,List.size_toArray,List.length_cons,List.length_nil,Nat.reduceAdd,Nat.zero_add,List.range,List.range.loop];refine⟨DO.none _,?_⟩);refine Conc.Goes.step rfl (fun w₁ h₁=>?_);replace hK:=hK.rely h₁;clear h₁;refine goes_oper_k rfl rfl (by decide) (fun K hK'=>?_)
  go_simp
  refine hK' _ _ ⟨DO.alloc hK.low (fun e he=>(by have hm:=mem_listed he;simp [go_sem] at hm)),?_⟩
  clear hK' K;rw [hK.size];replace hK:=KR0.alloc (dn:=dn) hK;(refine Conc.Goes.step rfl (fun w₁ h₁=>?_);replace hK:=hK.rely h₁;clear h₁;rw [stepG_region_end];simp only [goes_go];refine⟨DO.none _,?_⟩);(refine Conc.Goes.step rfl (fun w₁ h₁=>?_);replace hK:=hK.rely h₁;clear h₁;rw [stepG_seq];simp only [goes_go];refine⟨DO.none _,?_⟩);(refine Conc.Goes.step rfl (fun w₁ h₁=>?_);replace hK:=hK.rely h₁;clear h₁;rw [stepG_region];simp only [goes_go,List.size_toArray,List.length_cons,List.length_nil,Nat.reduceAdd,Nat.zero_add,List.range,List.range.loop];refine⟨DO.none _,?_⟩);(refine Conc.Goes.step rfl (fun w₁ h₁=>?_);replace hK:=hK.rely h₁;clear h₁;refine goes_oper_k rfl rfl (by decide) (fun K hK'=>?_);go_simp;refine hK' _ _ ⟨DO.quiet (fun e he=>(by have hm:=mem_listed he;simp [go_sem,Instr.makeInterface,Instr.makeFunc] at hm)),?_⟩;clear hK' K)
  refine Conc.Goes.step rfl (fun w₁ h₁=>?_);replace hK:=hK.rely h₁;clear h₁;rw [zjy (ys:=#[pt w0.heap.size]) rfl rfl (by decide) rfl rfl]
  simp only [goes_go];refine⟨DO.none _,?_⟩
  walk_nrm
  (refine Conc.Goes.step rfl (fun w₁ h₁=>?_);replace hK:=hK.rely h₁;clear h₁;rw [stepG_region_end];simp only [goes_go];refine⟨DO.none _,?_⟩);(refine Conc.Goes.step rfl (fun w₁ h₁=>?_);replace hK:=hK.rely h₁;clear h₁;rw [stepG_region];simp only [goes_go,List.size_toArray,List.length_cons,List.length_nil,Nat.reduceAdd,Nat.zero_add,List.range,List.range.loop];refine⟨DO.none _,?_⟩);(refine Conc.Goes.step rfl (fun w₁ h₁=>?_);replace hK:=hK.rely h₁;clear h₁;refine goes_oper_k rfl rfl (by decide) (fun K hK'=>?_);go_simp;refine hK' _ _ ⟨DO.quiet (fun e he=>(by have hm:=mem_listed he;simp [go_sem,Instr.makeInterface,Instr.makeFunc] at hm)),?_⟩;clear hK' K);(refine Conc.Goes.step rfl (fun w₁ h₁=>?_);replace hK:=hK.rely h₁;clear h₁;refine goes_oper_k rfl rfl (by decide) (fun K hK'=>?_);go_simp;refine hK' _ _ ⟨DO.quiet (fun e he=>(by have hm:=mem_listed he;simp [go_sem,Instr.makeInterface,Instr.makeFunc] at hm)),?_⟩;clear hK' K);(refine Conc.Goes.step rfl (fun w₁ h₁=>?_);replace hK:=hK.rely h₁;clear h₁;refine goes_oper_k rfl rfl (by decide) (fun K hK'=>?_);go_simp;refine hK' _ _ ⟨DO.quiet (fun e he=>(by have hm:=mem_listed he;simp [go_sem,Instr.makeInterface,Instr.makeFunc] at hm)),?_⟩;clear hK' K);exact Conc.Goes.stop (fun w₁ h₁=>⟨by simp only [zcd,rootOps2,ziJ,cOps,cL,cR,Try.f30,Option.getD_some],hK.rely h₁⟩)
end
end Go.Proofs.Ytgndgbnhkoppmaa
