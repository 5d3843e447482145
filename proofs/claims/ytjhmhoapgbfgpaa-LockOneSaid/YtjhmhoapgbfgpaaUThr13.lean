/-
  A body's run with its asks, in company.
  Condition: each call that is known does what is said of it (zau).
-/
import Derived.Test.YtjhmhoapgbfgpaaUThr2
set_option maxHeartbeats 40000000
set_option linter.unusedVariables false
set_option linter.unusedSimpArgs false
namespace Go.Proofs.Ytjhmhoapgbfgpaa
open Go Go.Conc
open Go.ConcN (sumTo upd sumTo_upd upd_ne upd_same)
section
variable (hok:∀ mn OB WB,zau mn OB WB)
variable {Γ:Type} (Pr:Proto Γ)
def ClB (k hp bx:Nat) (d:BD Γ) (γ:Γ × St) (p:Par):Prop:=p=d.p/\γ=(d.γ,d.S)/\d.Ok/\d.k=k/\d.hp=hp/\d.p.FR.blk (VB+(hp+1))=bx
def SuB (d:BD Γ) (_:Γ):SuT:=d.Su
def FinB (d:BD Γ):Machine->Trace->Prop:=Came hok Pr (BSusp hok Pr) d
def SpB (k hp:Nat):SpT Γ:=fun f args hs S γ Q=>∃ (γ1:Γ) (q:Pr.Ph) (wself:Int) (steps ask grant quit:Nat),f=79/\args=#[hndV hp,accQ (Pr.acc q)]/\S=γ.2/\S[hp]?=some (.wp wself steps ask grant quit)/\Pr.Inv γ1 hs S/\Pr.ph γ1 k=some q/\(∀ i,i≠k->Pr.ph γ1 i=Pr.ph γ.1 i)/\Pr.FC γ1 γ.1 /\
  ∀ (v:UInt64) (h1:AHeap) (γ2:Γ) (S1:St),Pr.Run k q v γ2 h1 S1->Pr.fuel γ2<Pr.fuel γ1->hs.next<=h1.next->S.length<=S1.length->S1[hp]?=some (.wp wself (steps+1) ask grant quit)->Q (.int .u64 (v.toNat:Int)) h1 S1 (γ2,S1)
theorem cnt_len {S:St} {hp:Nat} {wself:Int} {s2 ask grant quit:Nat}:(cntS S hp wself s2 ask grant quit).length=S.length:=by simp
theorem ztC (k hp bx:Nat) {fv:Value} {wbr dn0:Nat}:SpOK hok (ClB k hp bx) SuB (FinB hok Pr) (zmK (zdo fv wbr dn0 bx [3])) (SpB Pr k hp):=by
  intro f args hs S γ Q hsp b cs F0 N0 C0 fn ops i rest kk tmps o hfn hkd hsk ho hw hb' hca K d p Inb F gs w sl T g hC H hg hgS hF hN hC0;obtain⟨γ1,q,wself,steps,ask,grant,quit,rfl,rfl,hSγ,hwp,hInv,hph,hoth,hfuel,hQ⟩:=hsp;obtain⟨rfl,hγ,hd,rfl,rfl,hbx⟩:=hC;subst hγ;have hSγ:S=d.S:=hSγ;subst hSγ;have hwp':=hd.wp;rw [hwp] at hwp';cases hwp';have H:Standing d.p hok d.Su d.S F (.run (.inRegion ops (i::rest)::kk) tmps hs d.S) Inb gs w T:=H;rcases hacc:Pr.acc q with ⟨c,n,A,B⟩
  have hca:zaL Try.prog (evA tmps) o.op=some (79,#[hndV d.hp,accV c n A B]):=by rw [hca,hacc];rfl
  refine (zrw hok hd.mono hwp ho hw hb' hca hkd H hg hgS).bind fun m1 T1=>?_;rintro ⟨gs1,w1,sl1,ab,rfl,k1,H1⟩;have hbl:d.hp+1<d.S.length:=by
    obtain⟨_,hp',gid',dn',_,_,_,_,e1,_,_,_,_,_,_,hbox⟩:=H.com.tab.busy _ _ _ _ _ _ hd.thr;cases e1;exact zaG hbox
  have hbxF:F.blk (VB+(d.hp+1))=bx:=by
    rw [<-hbx];exact ((H.same.1 (VB+(d.hp+1)) (.inr ⟨by omega,by rw [hd.cr];omega⟩)).1).symm
  refine gave hok d hd H1 k1 hInv hph hacc hoth hfuel (BSusp.fold hok ?_ ?_)
  rotate_left
  . exact⟨_,_,_,_,_,_,_,_,fv,wbr,dn0,rfl,.frame hfn rfl rfl (hbxF ▸ hsk)⟩
  intro d2 s2 S2 F2 hs2 Inb2 gs2 w2 sl2 T2 v hd2 hk2 hhp2 hst2 hob hS2 hdS H2 hg2 hsame hn hc hRun hfu;injection hob with e1 e2 e3 e4 e5
  have hstab:∀ u∈tmps,Stab (Kn hs.next d.S.length) F u:=fun u hu=>H.inv.1.vst u hu;have hthr2:S2[d2.k]?=some (.thr d2.self d2.quit false true (some (d2.hp,d2.p.h,d2.dn)) d2.pend):=by
    have:=hd2.thr;rw [hdS] at this;exact (zcD (s:=s2) (by rw [hS2,e1,e2,e3,e4,e5])).1 this
  have hblk:F2.blk (VB+d.hp)=F.blk (VB+d.hp):=((hsame (VB+d.hp) (.inr ⟨by omega,by have:=zaG hwp;omega⟩)).1).symm
  refine (zkP hok (sl:=sl2) (c0:=b.at (actF F tmps) (.inRegion ops (i::rest)::kk)) (cs0:=cs) (cc:=c) (ab:=ab) (n:=n) (A:=A) (B:=B) (v:=v) (hp:=d.hp) (wself:=d2.wself) (s:=s2) (ask:=d2.ask) (grant:=d2.grant) (quit:=d2.quit) hd2.mono hd2.h0 hd2.run (by rw [<-hhp2];exact hthr2) (by rw [hS2,e1,e2,e3,e4,e5]) H2 ?_).bind fun m3 T3=>?_
  . rw [hblk,<-e3,<-e4,<-e5];rw [<-e4,<-e5] at hg2;exact hg2
  rintro ⟨gs3,w3,sl3,rfl,k3,H3⟩;rw [<-hst2,<-hdS] at H3;have hlen:S2.length=d2.S.length:=by rw [hdS,cnt_len]
  have hfin:(b.at (actF F tmps) (.inRegion ops (i::rest)::kk)).finish (.int .u64 (v.toNat:Int))=b.at (actF F2 (putL o.dst (.int .u64 (v.toNat:Int)) tmps)) (.inRegion ops rest::kk):=by
    rw [Frame.finish_at,ho];show b.at ((actF F tmps).put o.dst (.int .u64 (v.toNat:Int))) (.inRegion ops rest::kk)=_;rw [<-zbt hstab hsame,<-zdm,zbo]
  rw [hfin] at k3;have hwp2:d2.S[d.hp]?=some (.wp d.wself (d.steps+1) d.ask d.grant d.quit):=by
    have:=hd2.wp;rw [hhp2,hst2,<-e1,<-e2,<-e3,<-e4,<-e5] at this;exact this
  have hbx2:d2.p.FR.blk (VB+(d.hp+1))=bx:=by
    rw [<-hbxF,((hsame (VB+(d.hp+1)) (.inr ⟨by omega,by omega⟩)).1)]
    exact (H2.same.1 (VB+(d.hp+1)) (.inr ⟨by omega,by rw [hd2.cr,<-hlen];omega⟩)).1
  have hKK:∀ x,Kn hs.next d.S.length x->Kn hs2.next d2.S.length x:=fun x hx=>hx.mono hn (by rw [<-hlen];exact hc)
  refine K _ hs2 d2.S (d2.γ,d2.S) (hQ v hs2 d2.γ d2.S hRun hfu hn (by rw [<-hlen];exact hc) hwp2) d2 d2.p Inb2 F2 gs3 w3 sl3 T3 _ ⟨rfl,rfl,hd2,hk2,hhp2,hbx2⟩ (Standing.conf hok H3 rfl rfl (zcS (fun u hu=>(hstab u hu).move hsame hKK) (Stab.plain rfl) o.dst)) k3 rfl (hF.trans (hsame.mono fun x hx=>hx.mono hN hC0)) (Nat.le_trans hN hn) (Nat.le_trans hC0 (by show d.S.length<=d2.S.length;rw [<-hlen];exact hc))
end
abbrev zme (fv pw cd:Value):Deferred:=dcall 30 #[fv,pw,cd]
theorem zo5 (fv pw cd:Value) (w:World):stepG Try.prog false (born Try.prog (zme fv pw cd)) w =
    .go (Go.Conc.G ((baseD 30).at ⟨#[fv,pw,cd,undef,undef,undef,undef,undef,undef,undef,undef],[]⟩ [.code zjQ]) [botF]) w #[]:=by
  have hb:Try.f30.body=some zjQ:=rfl;have hn : ¬ Try.f30.name = "runtime.NumGoroutine" := by
    have h : (Try.f30.name == "runtime.NumGoroutine") = false := rfl;simpa using h
  simp [born,zme,dcall,stepG,unwind,callDeferred,invoke,callFunc,Try.func30,hb,seen_none,GStep.after,Go.Conc.G,Frame.enter,Frame.at,baseD,botF,Try.ntmps30,hn]
section
variable {P:Program} {main:Bool} {b:Frame} {a:Act} {k:List Item} {cs:List Frame} {w:World}
theorem zjO {ops:Array Oper} {i:Nat} {rest:List Nat} {o:Oper} {f:FuncId} {x:Operand} {ats:Array TypeId} {ys:Array Value} (ho:ops[i]?=some o) (hw:Region.wanted o (yielded ops a.tmps)=true) (hk:b.kind≠.early)
    (hop:o.op=.defer { callee:=.value x,args:=#[],argTypes:=ats }) (ef:a.eval x=.func (.func f) #[] ys) :
    stepG P main (Go.Conc.G (b.at a (.inRegion ops (i::rest)::k)) cs) w=.go (Go.Conc.G (b.at (Act.put ⟨a.tmps,ziS f ys::a.defers⟩ o.dst undef) (.inRegion ops rest::k)) cs) w #[]:=by
  have hr:(execOp a.eval o).run P w=.ok (.defer (ziS f ys)) w:=by
    unfold execOp;simp [hop,resolve,Deferred.ofValue,ef]
  have he:(execOp a.eval o).events P w #[]=#[]:=by
    unfold execOp;simp [hop,resolve,Deferred.ofValue,ef]
  have hfin:(b.at ⟨a.tmps,ziS f ys::a.defers⟩ (.inRegion ops (i::rest)::k)).finish undef=b.at (Act.put ⟨a.tmps,ziS f ys::a.defers⟩ o.dst undef) (.inRegion ops rest::k):=by rw [Frame.finish_at,ho];rfl
  have hk':(b.kind==CallKind.early)=false:=by simpa using hk
  rw [stepG_oper ho hw,<-hfin];simp [stepG.apply,hr,he,Go.Conc.G,Frame.at,hk',GStep.after,seen_none]
theorem ze6 {todo : List Item} {ds : List Deferred} {f : FuncId} {fn : Func} {ys : Array Value} {c : Code} (hd : a.defers = ziS f ys :: ds) (hf : P.funcs[f]? = some fn) (hname : (fn.name == "runtime.NumGoroutine") = false) (hb : fn.body = some c) :
    stepG P main (Go.Conc.G { b.at a todo with mode:=.returning } cs) w =
      .go (Go.Conc.G ((baseD f).at { tmps:=ys++Array.replicate (fn.ntmps - ys.size) undef,defers:=[] } [.code c]) ({ b.at ⟨a.tmps,ds⟩ todo with mode:=.returning }::cs)) w #[]:=by
  have h1 : ¬ fn.name = "runtime.NumGoroutine" := by simpa using hname
  rw [<-enter_atD ys hf hb];simp [Go.Conc.G,stepG,unwind,callDeferred,Frame.at,hd,ziS,invoke,callFunc,hf,h1,hb,GStep.after,seen_none]
end
section
variable {OB WB:Nat->Prop} {Inb:Nat->Option Seat} {h:Nat}
def zhm (OB WB:Nat->Prop) (Inb:Nat->Option Seat) (b:Nat):Prop:=OB b\/WB b\/∃ i s,Inb i=some s/\s.has b
theorem zbT (w:World) (o:Obj):(w.alloc o).heap=w.heap.push o:=rfl
theorem zaC (w:World) (o:Obj) (b:Nat) (hb:b<w.heap.size):(w.alloc o).heap[b]?=w.heap[b]?:=by
  rw [zbT,Array.getElem?_push,if_neg (by omega)]
theorem zaM (w:World) (o:Obj):(w.alloc o).heap.size=w.heap.size+1:=by rw [zbT,Array.size_push]
theorem zbD (w:World) (o:Obj):(w.alloc o).heap[w.heap.size]?=some o:=by rw [zbT,Array.getElem?_push,if_pos rfl]
theorem DO.alloc {w:World} {o:Obj} {es:Array Event} (hl:∀ b,zhm OB WB Inb b->b<w.heap.size) (hs:∀ e∈es,EvO OB WB h (w.alloc o) e):DO OB WB Inb h w (w.alloc o) es :=
  ⟨fun i s c hi hc=>zaC w o c (hl c (.inr (.inr ⟨i,s,hi,hc⟩))),fun a ha _=>za3 _ _ _ (zaC w o _ (hl _ (.inr (.inl ha)))),fun _ b hb=>zaC w o b (hl b (.inl hb)),by rw [zaM];omega,rfl,hs⟩
structure KR0 (OB WB:Nat->Prop) (Inb:Nat->Option Seat) (w0 w:World):Prop where
  low:∀ b,zhm OB WB Inb b->b<w.heap.size
  old:∀ b,¬ OB b->w.heap[b]?=w0.heap[b]?
  size:w.heap.size=w0.heap.size
theorem KR0.rely {w0 w w1:World} (K:KR0 OB WB Inb w0 w) (r:Ro OB h w w1):KR0 OB WB Inb w0 w1:=⟨fun b hb=>by rw [r.size];exact K.low b hb,fun b hb=>(r.heap hb).trans (K.old b hb),r.size.trans K.size⟩
structure KR1 (OB WB:Nat->Prop) (Inb:Nat->Option Seat) (w0:World) (dn:Nat) (w:World):Prop where
  low:∀ b,zhm OB WB Inb b->b<w.heap.size
  old:∀ b,¬ OB b->b<w0.heap.size->w.heap[b]?=w0.heap[b]?
  size:w.heap.size=w0.heap.size+1
  box:w.heap[w0.heap.size]?=some (.cells #[.chan (some dn)] 91 (0,0))
  bO:¬ OB w0.heap.size
theorem KR1.rely {w0 w w1:World} {dn:Nat} (K:KR1 OB WB Inb w0 dn w) (r:Ro OB h w w1):KR1 OB WB Inb w0 dn w1:=⟨fun b hb=>by rw [r.size];exact K.low b hb,fun b hb hl=>(r.heap hb).trans (K.old b hb hl),r.size.trans K.size,(r.heap K.bO).trans K.box,K.bO⟩
theorem KR0.alloc {w0 w:World} {dn:Nat} (K:KR0 OB WB Inb w0 w):KR1 OB WB Inb w0 dn (w.alloc (.cells #[.chan (some dn)] 91)):=by
  refine⟨fun b hb=>?_,fun b hb hl=>?_,?_,?_,fun z=>?_⟩
  . have:=K.low b hb;rw [zaM];omega
  . rw [zaC _ _ _ (by rw [K.size];exact hl)];exact K.old b hb
  . rw [zaM,K.size]
  . rw [<-K.size];exact zbD _ _
  . have:=K.low _ (.inl z);rw [K.size] at this;omega
set_option maxRecDepth 100000 in
theorem znf {fb:FuncId} {xs ys:Array Value} {wb dn:Nat} (w0 w:World) (hK:KR0 OB WB Inb w0 w) :
    Conc.Goes Try.prog false (Ro OB h) (DO OB WB Inb h) (fun g w'=>g=Go.Conc.G (zdo (.func (.func fb) xs ys) wb dn w0.heap.size [3]) [botF]/\KR1 OB WB Inb w0 dn w') 40 (Go.Conc.G ((baseD 30).at ⟨#[.func (.func fb) xs ys,pt wb,.chan (some dn),undef,undef,undef,undef,undef,undef,undef,undef],[]⟩ [.code zjQ]) [botF]) w:=by
  simp only [zjQ,Try.f30,Option.getD_some];(refine Conc.Goes.step rfl (fun w₁ h₁=>?_);replace hK:=hK.rely h₁;clear h₁;rw [stepG_seq];simp only [goes_go];refine⟨DO.none _,?_⟩);(refine Conc.Goes.step rfl (fun w₁ h₁=>?_);replace hK:=hK.rely h₁;clear h₁;rw [stepG_region];simp only [goes_go,List.size_toArray,List.length_cons,List.length_nil,Nat.reduceAdd,Nat.zero_add,List.range,List.range.loop];refine⟨DO.none _,?_⟩);refine Conc.Goes.step rfl (fun w₁ h₁=>?_);replace hK:=hK.rely h₁;clear h₁;refine goes_oper_k rfl rfl (by decide) (fun K hK'=>?_)
  go_simp
  refine hK' _ _ ⟨DO.alloc hK.low (fun e he=>(by have hm:=mem_listed he;simp [go_sem] at hm)),?_⟩
  clear hK' K;rw [hK.size];replace hK:=KR0.alloc (dn:=dn) hK;(refine Conc.Goes.step rfl (fun w₁ h₁=>?_);replace hK:=hK.rely h₁;clear h₁;rw [stepG_region_end];simp only [goes_go];refine⟨DO.none _,?_⟩);(refine Conc.Goes.step rfl (fun w₁ h₁=>?_);replace hK:=hK.rely h₁;clear h₁;rw [stepG_seq];simp only [goes_go];refine⟨DO.none _,?_⟩);(refine Conc.Goes.step rfl (fun w₁ h₁=>?_);replace hK:=hK.rely h₁;clear h₁;rw [stepG_region];simp only [goes_go,List.size_toArray,List.length_cons,List.length_nil,Nat.reduceAdd,Nat.zero_add,List.range,List.range.loop];refine⟨DO.none _,?_⟩);(refine Conc.Goes.step rfl (fun w₁ h₁=>?_);replace hK:=hK.rely h₁;clear h₁;refine goes_oper_k rfl rfl (by decide) (fun K hK'=>?_);go_simp;refine hK' _ _ ⟨DO.quiet (fun e he=>(by have hm:=mem_listed he;simp [go_sem,Instr.makeInterface,Instr.makeFunc] at hm)),?_⟩;clear hK' K)
  refine Conc.Goes.step rfl (fun w₁ h₁=>?_);replace hK:=hK.rely h₁;clear h₁;rw [zjO (ys:=#[pt w0.heap.size]) rfl rfl (by decide) rfl rfl]
  simp only [goes_go];refine⟨DO.none _,?_⟩
  walk_nrm
  (refine Conc.Goes.step rfl (fun w₁ h₁=>?_);replace hK:=hK.rely h₁;clear h₁;rw [stepG_region_end];simp only [goes_go];refine⟨DO.none _,?_⟩);(refine Conc.Goes.step rfl (fun w₁ h₁=>?_);replace hK:=hK.rely h₁;clear h₁;rw [stepG_region];simp only [goes_go,List.size_toArray,List.length_cons,List.length_nil,Nat.reduceAdd,Nat.zero_add,List.range,List.range.loop];refine⟨DO.none _,?_⟩);(refine Conc.Goes.step rfl (fun w₁ h₁=>?_);replace hK:=hK.rely h₁;clear h₁;refine goes_oper_k rfl rfl (by decide) (fun K hK'=>?_);go_simp;refine hK' _ _ ⟨DO.quiet (fun e he=>(by have hm:=mem_listed he;simp [go_sem,Instr.makeInterface,Instr.makeFunc] at hm)),?_⟩;clear hK' K);(refine Conc.Goes.step rfl (fun w₁ h₁=>?_);replace hK:=hK.rely h₁;clear h₁;refine goes_oper_k rfl rfl (by decide) (fun K hK'=>?_);go_simp;refine hK' _ _ ⟨DO.quiet (fun e he=>(by have hm:=mem_listed he;simp [go_sem,Instr.makeInterface,Instr.makeFunc] at hm)),?_⟩;clear hK' K);(refine Conc.Goes.step rfl (fun w₁ h₁=>?_);replace hK:=hK.rely h₁;clear h₁;refine goes_oper_k rfl rfl (by decide) (fun K hK'=>?_);go_simp;refine hK' _ _ ⟨DO.quiet (fun e he=>(by have hm:=mem_listed he;simp [go_sem,Instr.makeInterface,Instr.makeFunc] at hm)),?_⟩;clear hK' K);exact Conc.Goes.stop (fun w₁ h₁=>⟨by simp only [zdo,rootOps2,zjQ,cOps,cL,cR,Try.f30,Option.getD_some],hK.rely h₁⟩)
end
section
variable {P:Program} {main:Bool} {b:Frame} {a:Act} {k:List Item} {cs:List Frame} {w:World}
theorem zfe {ops:Array Oper} {i:Nat} {rest:List Nat} {o:Oper} {c0:Frame} {ats:Array TypeId} (ho:ops[i]?=some o) (hw:Region.wanted o (yielded ops a.tmps)=true) (hk:b.kind=.deferred) (hro:b.roundOf=none) (hc:c0.mode=.returning)
    (hop:o.op=.call { callee:=.builtin .recover,args:=#[],argTypes:=ats }) :
    stepG P main (Go.Conc.G (b.at a (.inRegion ops (i::rest)::k)) (c0::cs)) w=.go (Go.Conc.G (b.at (a.put o.dst .nilIface) (.inRegion ops rest::k)) (c0::cs)) w #[]:=by
  have hr:(execOp a.eval o).run P w=.ok .recover w:=by
    unfold execOp;simp [hop,resolve,invoke,builtin]
  have he:(execOp a.eval o).events P w #[]=#[]:=by
    unfold execOp;simp [hop,resolve,invoke,builtin]
  have hfin:(b.at a (.inRegion ops (i::rest)::k)).finish .nilIface=b.at (a.put o.dst .nilIface) (.inRegion ops rest::k):=by rw [Frame.finish_at,ho];rfl
  have ht:tryRecover (b.at a (.inRegion ops (i::rest)::k)) (c0::cs)=none:=by
    simp [tryRecover,Frame.at,hk,hc]
  rw [stepG_oper ho hw,<-hfin];have ht':=ht;simp only [Frame.at,hk] at ht';simp [stepG.apply,hr,he,Go.Conc.G,Frame.at,hk,hro,ht',GStep.after,seen_none]
end
section
variable {P:Program} {α:Type}
theorem zgJ {s:Sem α} {a:α} (h:calm P s=some a) (w:World) (es:Array Event):s.runT P w es=(.ok a w,es)/\s.run P w=.ok a w:=by
  induction s with
  | pure b=>simp only [calm,Option.some.injEq] at h;subst h;exact⟨rfl,rfl⟩
  | program k ih=>exact ih P h
  | _=>simp [calm] at h
theorem zej {x t:TypeId} {fs:Array Field} {z:Value} (hu:P.underlying t=some (.struct fs)) (hz:zav P t=some z):calm P (Instr.typeAssert .nilIface x t true)=some (.tuple #[z,.bool false]):=by
  unfold Instr.typeAssert;simp only [zad,zaf hu,Option.bind_some,ze1 hz,if_true,zaD]
end
section
variable {P:Program}
theorem zir {fn:FuncId} {a:Act} {o:Oper} {x:Operand} {t t':TypeId} {v r:Value} {w:World} {c:Bool} (ho:o.op=.typeAssert x t t' c) (hc:calm P (Instr.typeAssert v t t' c)=some r) (hv:a.eval x=v:=by rfl):listed P fn a o w=#[]:=by
  have hx:calm P (execOp a.eval o)=some (.value r):=by
    unfold execOp;simp only [ho,hv,zad,hc,Option.bind_some,zaD,zln,Option.map_some]
  show seen P fn ((execOp a.eval o).events P w #[])=#[];rw [show (execOp a.eval o).events P w #[]=#[] from by show ((execOp a.eval o).runT P w #[]).2=#[];rw [(zgJ hx w #[]).1],seen_none]
end
theorem zk6 {w:World} {b n:Nat} {v:Value} {t:TypeId} (h:w.heap[b]?=some (.cells #[v] t (0,n))):w.cell? { block:=b,off:=0 }=some v:=by
  simp [World.cell?,h]
noncomputable def zh3:Code:=(Try.f37.body).getD .skip
noncomputable def zfx:Array Oper:=cOps (cR (cR zh3))
section
variable {OB WB:Nat->Prop} {Inb:Nat->Option Seat} {h:Nat}
structure KE (OB WB:Nat->Prop) (Inb:Nat->Option Seat) (w0:World) (bx dn:Nat) (w:World):Prop where
  low:∀ b,zhm OB WB Inb b->b<w.heap.size
  old:∀ b,¬ OB b->b<w0.heap.size->w.heap[b]?=w0.heap[b]?
  size:w0.heap.size<=w.heap.size
  box:w.heap[bx]?=some (.cells #[.chan (some dn)] 91 (0,0))
  bO:¬ OB bx
theorem KE.rely {w0 w w1:World} {bx dn:Nat} (K:KE OB WB Inb w0 bx dn w) (r:Ro OB h w w1):KE OB WB Inb w0 bx dn w1:=⟨fun b hb=>by rw [r.size];exact K.low b hb,fun b hb hl=>(r.heap hb).trans (K.old b hb hl),by rw [r.size];exact K.size,(r.heap K.bO).trans K.box,K.bO⟩
theorem KE.alloc {w0 w:World} {bx dn:Nat} {o:Obj} (K:KE OB WB Inb w0 bx dn w):KE OB WB Inb w0 bx dn (w.alloc o) :=
  ⟨fun b hb=>by have:=K.low b hb;rw [zaM];omega,fun b hb hl=>by rw [zaC _ _ _ (Nat.lt_of_lt_of_le hl K.size)];exact K.old b hb hl,by rw [zaM];have:=K.size;omega,by rw [zaC _ _ _ (zab K.box)];exact K.box,K.bO⟩
noncomputable def ze4 (fv z:Value) (wb dn bx:Nat):Frame:={ (baseD 30).at ⟨zqu fv wb dn bx z,[]⟩ [] with mode:=.returning }
noncomputable def zdy (bx dn n:Nat) (rest:List Nat):Frame:=(baseD 37).at ⟨#[pt bx,.nilIface,pt n,.bool false,.nilIface,.tuple #[.agg #[],.bool false],.nilIface,.tuple #[.agg #[],.bool false],.agg #[],.bool false,.bool false,.chan (some dn),.nilIface],[]⟩ [.inRegion zfx rest]
set_option maxRecDepth 100000 in
theorem zp9 {fv z:Value} {wb dn0 dn bx:Nat} (w0 w:World) (hK:KE OB WB Inb w0 bx dn w) :
    Conc.Goes Try.prog false (Ro OB h) (DO OB WB Inb h) (fun g w'=>(∃ n,g=Go.Conc.G (zdy bx dn n [2]) [ze4 fv z wb dn0 bx,botF])/\KE OB WB Inb w0 bx dn w') 60 (Go.Conc.G ((baseD 30).at ⟨zqu fv wb dn0 bx z,[ziS 37 #[pt bx]]⟩ [.inRegion rootOps2 []]) [botF]) w:=by
  (refine Conc.Goes.step rfl (fun w₁ h₁=>?_);replace hK:=hK.rely h₁;clear h₁;rw [stepG_region_end];simp only [goes_go];refine⟨DO.none _,?_⟩);(refine Conc.Goes.step rfl (fun w₁ h₁=>?_);replace hK:=hK.rely h₁;clear h₁;rw [stepG_end];simp only [goes_go];refine⟨DO.none _,?_⟩);refine Conc.Goes.step rfl (fun w₁ h₁=>?_);replace hK:=hK.rely h₁;clear h₁
  rw [ze6 (fn:=Try.f37) (c:=zh3) rfl Try.func37 rfl rfl];simp only [goes_go];refine⟨DO.none _,?_⟩;rw [Try.ntmps37,show (#[pt bx]++Array.replicate (13 - (#[pt bx]:Array Value).size) undef:Array Value)=#[pt bx,undef,undef,undef,undef,undef,undef,undef,undef,undef,undef,undef,undef] from rfl]
  simp only [zh3,Try.f37,Option.getD_some];(refine Conc.Goes.step rfl (fun w₁ h₁=>?_);replace hK:=hK.rely h₁;clear h₁;rw [stepG_seq];simp only [goes_go];refine⟨DO.none _,?_⟩);(refine Conc.Goes.step rfl (fun w₁ h₁=>?_);replace hK:=hK.rely h₁;clear h₁;rw [stepG_region];simp only [goes_go,List.size_toArray,List.length_cons,List.length_nil,Nat.reduceAdd,Nat.zero_add,List.range,List.range.loop];refine⟨DO.none _,?_⟩);refine Conc.Goes.step rfl (fun w₁ h₁=>?_);replace hK:=hK.rely h₁;clear h₁;rw [zfe rfl rfl rfl rfl rfl rfl];simp only [goes_go];refine⟨DO.none _,?_⟩
  walk_nrm
  (refine Conc.Goes.step rfl (fun w₁ h₁=>?_);replace hK:=hK.rely h₁;clear h₁;refine goes_oper_k rfl rfl (by decide) (fun K hK'=>?_);go_simp;refine hK' _ _ ⟨DO.quiet (fun e he=>(by have hm:=mem_listed he;simp [go_sem,Instr.makeInterface,Instr.makeFunc] at hm)),?_⟩;clear hK' K);(refine Conc.Goes.step rfl (fun w₁ h₁=>?_);replace hK:=hK.rely h₁;clear h₁;rw [stepG_region_end];simp only [goes_go];refine⟨DO.none _,?_⟩);(refine Conc.Goes.step rfl (fun w₁ h₁=>?_);replace hK:=hK.rely h₁;clear h₁;rw [stepG_seq];simp only [goes_go];refine⟨DO.none _,?_⟩);(refine Conc.Goes.step rfl (fun w₁ h₁=>?_);replace hK:=hK.rely h₁;clear h₁;rw [stepG_seq];simp only [goes_go];refine⟨DO.none _,?_⟩);(refine Conc.Goes.step rfl (fun w₁ h₁=>?_);replace hK:=hK.rely h₁;clear h₁;rw [stepG_region];simp only [goes_go,List.size_toArray,List.length_cons,List.length_nil,Nat.reduceAdd,Nat.zero_add,List.range,List.range.loop];refine⟨DO.none _,?_⟩);(refine Conc.Goes.step rfl (fun w₁ h₁=>?_);replace hK:=hK.rely h₁;clear h₁;refine goes_oper_k rfl rfl (by decide) (fun K hK'=>?_);go_simp;refine hK' _ _ ⟨DO.quiet (fun e he=>(by have hm:=mem_listed he;simp [go_sem,Instr.makeInterface,Instr.makeFunc] at hm)),?_⟩;clear hK' K);refine Conc.Goes.step rfl (fun w₁ h₁=>?_);replace hK:=hK.rely h₁;clear h₁
  refine goes_oper_k rfl rfl (by decide) (fun K hK'=>?_)
  go_simp
  rw [(zgJ (zej (P:=Try.prog) (x:=20) (t:=93) (z:=.agg #[]) rfl rfl) _ #[]).2];refine hK' _ _ ⟨?_,?_⟩
  . rw [show listed Try.prog (baseD 37).fn _ _ w₁=#[] from zir (x:=.tmp 6) (t:=20) (t':=93) rfl (zej (P:=Try.prog) (z:=.agg #[]) rfl rfl)]
    exact DO.none _
  clear hK' K
  go_simp
  (refine Conc.Goes.step rfl (fun w₁ h₁=>?_);replace hK:=hK.rely h₁;clear h₁;refine goes_oper_k rfl rfl (by decide) (fun K hK'=>?_);go_simp;refine hK' _ _ ⟨DO.quiet (fun e he=>(by have hm:=mem_listed he;simp [go_sem,Instr.makeInterface,Instr.makeFunc] at hm)),?_⟩;clear hK' K);(refine Conc.Goes.step rfl (fun w₁ h₁=>?_);replace hK:=hK.rely h₁;clear h₁;refine goes_oper_k rfl rfl (by decide) (fun K hK'=>?_);go_simp;refine hK' _ _ ⟨DO.quiet (fun e he=>(by have hm:=mem_listed he;simp [go_sem,Instr.makeInterface,Instr.makeFunc] at hm)),?_⟩;clear hK' K);(refine Conc.Goes.step rfl (fun w₁ h₁=>?_);replace hK:=hK.rely h₁;clear h₁;refine goes_oper_k rfl rfl (by decide) (fun K hK'=>?_);go_simp;refine hK' _ _ ⟨DO.quiet (fun e he=>(by have hm:=mem_listed he;simp [go_sem,Instr.makeInterface,Instr.makeFunc] at hm)),?_⟩;clear hK' K);refine Conc.Goes.step rfl (fun w₁ h₁=>?_);replace hK:=hK.rely h₁;clear h₁
  refine goes_oper_k rfl rfl (by decide) (fun K hK'=>?_)
  go_simp
  refine hK' _ _ ⟨DO.alloc hK.low (fun e he=>(by have hm:=mem_listed he;simp [go_sem] at hm)),?_⟩
  clear hK' K;replace hK:=KE.alloc (o:=.cells #[] 93) hK;refine Conc.Goes.step rfl (fun w₁ h₁=>?_);replace hK:=hK.rely h₁;clear h₁;refine goes_oper_k rfl rfl (by decide) (fun K hK'=>?_)
  go_simp
  refine hK' _ _ ⟨DO.quiet (fun e he=>(by have hm:=mem_listed he;simp [go_sem] at hm)),?_⟩
  clear hK' K;(refine Conc.Goes.step rfl (fun w₁ h₁=>?_);replace hK:=hK.rely h₁;clear h₁;refine goes_oper_k rfl rfl (by decide) (fun K hK'=>?_);go_simp;refine hK' _ _ ⟨DO.quiet (fun e he=>(by have hm:=mem_listed he;simp [go_sem,Instr.makeInterface,Instr.makeFunc] at hm)),?_⟩;clear hK' K)
  (refine Conc.Goes.step rfl (fun w₁ h₁=>?_);replace hK:=hK.rely h₁;clear h₁;rw [stepG_region_end];simp only [goes_go];refine⟨DO.none _,?_⟩);(refine Conc.Goes.step rfl (fun w₁ h₁=>?_);replace hK:=hK.rely h₁;clear h₁;rw [stepG_seq];simp only [goes_go];refine⟨DO.none _,?_⟩);(refine Conc.Goes.step rfl (fun w₁ h₁=>?_);replace hK:=hK.rely h₁;clear h₁;rw [stepG_region];simp only [goes_go,List.size_toArray,List.length_cons,List.length_nil,Nat.reduceAdd,Nat.zero_add,List.range,List.range.loop];refine⟨DO.none _,?_⟩);(refine Conc.Goes.step rfl (fun w₁ h₁=>?_);replace hK:=hK.rely h₁;clear h₁;refine goes_oper_k rfl rfl (by decide) (fun K hK'=>?_);go_simp;refine hK' _ _ ⟨DO.quiet (fun e he=>(by have hm:=mem_listed he;simp [go_sem,Instr.makeInterface,Instr.makeFunc] at hm)),?_⟩;clear hK' K);(refine Conc.Goes.step rfl (fun w₁ h₁=>?_);replace hK:=hK.rely h₁;clear h₁;rw [stepG_region_end];simp only [goes_go];refine⟨DO.none _,?_⟩);(refine Conc.Goes.step rfl (fun w₁ h₁=>?_);replace hK:=hK.rely h₁;clear h₁;rw [stepG_cond (t:=false) rfl];simp only [goes_go,if_true,if_false,Bool.false_eq_true,↓reduceIte];refine⟨DO.none _,?_⟩);(refine Conc.Goes.step rfl (fun w₁ h₁=>?_);replace hK:=hK.rely h₁;clear h₁;rw [stepG_skip];simp only [goes_go];refine⟨DO.none _,?_⟩);(refine Conc.Goes.step rfl (fun w₁ h₁=>?_);replace hK:=hK.rely h₁;clear h₁;rw [stepG_region];simp only [goes_go,List.size_toArray,List.length_cons,List.length_nil,Nat.reduceAdd,Nat.zero_add,List.range,List.range.loop];refine⟨DO.none _,?_⟩);(refine Conc.Goes.step rfl (fun w₁ h₁=>?_);replace hK:=hK.rely h₁;clear h₁;have hF:=(show _=_ from zk6 hK.box);refine goes_oper_k rfl rfl (by decide) (fun K hK'=>?_);go_simp;refine hK' _ _ ⟨DO.quiet (fun e he=>(by have hm:=mem_listed he;simp [go_sem,hF] at hm;subst hm;exact .inr ⟨rfl,_,rfl,zab hK.box,nofun,fun z=>absurd z hK.bO⟩)),?_⟩;clear hK' K hF);(refine Conc.Goes.step rfl (fun w₁ h₁=>?_);replace hK:=hK.rely h₁;clear h₁;refine goes_oper_k rfl rfl (by decide) (fun K hK'=>?_);go_simp;refine hK' _ _ ⟨DO.quiet (fun e he=>(by have hm:=mem_listed he;simp [go_sem,Instr.makeInterface,Instr.makeFunc] at hm)),?_⟩;clear hK' K);exact Conc.Goes.stop (fun w₁ h₁=>⟨⟨_,by simp only [zdy,ze4,zfx,zh3,cOps,cL,cR,Try.f37,Option.getD_some];rfl⟩,hK.rely h₁⟩)
end
end Go.Proofs.Ytjhmhoapgbfgpaa
namespace Go.Proofs.Ytjhmhoapgbfgpaa
open Go Go.Conc
open Go.ConcN (sumTo upd sumTo_upd upd_ne upd_same)
set_option maxRecDepth 100000 in
theorem znV (bx dn n:Nat) (cs:List Frame) (main:Bool) (w:World) :
    stepG Try.prog main (Go.Conc.G (zdy bx dn n [2]) cs) w=.comm (Go.Conc.G (zdy bx dn n [2]) cs) #[scase dn .nilIface (.tuple #[])] true .send w:=by
  simp only [zdy,zfx,zh3,cOps,cL,cR,Try.f37,Option.getD_some];rw [stepG_comm (w':=w) (cases:=#[scase dn .nilIface (.tuple #[])]) (blocking:=true) (shape:=.send) rfl rfl (by decide) (by simp [go_sem,execOp,scase,Act.eval]),listed_none (by simp [go_sem,execOp,Act.eval])]
set_option maxRecDepth 100000 in
theorem zl8 (bx dn dn0 n wb:Nat) (fv z:Value):QuitsD Try.prog 5 0 ((Go.Conc.G (zdy bx dn n [2]) [ze4 fv z wb dn0 bx,botF]).finishComm Try.prog #[scase dn .nilIface (.tuple #[])] .send 0 undef false):=by
  have h:(Go.Conc.G (zdy bx dn n [2]) [ze4 fv z wb dn0 bx,botF]).finishComm Try.prog #[scase dn .nilIface (.tuple #[])] .send 0 undef false=Go.Conc.G (zdy bx dn n []) [ze4 fv z wb dn0 bx,botF]:=by
    simp only [Goroutine.finishComm,zdy,zfx,zh3,cOps,cL,cR,Try.f37,Option.getD_some,Go.Conc.G,Frame.finish_at];rfl
  rw [h];refine QuitsD.ctl rfl (fun _=>stepG_region_end) ?_;refine QuitsD.ctl rfl (fun _=>stepG_end) ?_;refine QuitsD.leaveD rfl rfl Try.func37 rfl rfl ?_;refine QuitsD.ctl (g':=Go.Conc.G botF []) rfl (fun w=>?_) ?_
  . simp [Go.Conc.G,ze4,stepG,unwind,doReturn,results,Frame.at,baseD,botF,Try.func30,Try.results30,seen,GStep.after,goexitEntry]
  refine QuitsD.ctl (g':={ Go.Conc.G botF [] with status:=.finished }) rfl (fun w=>?_) ⟨rfl,rfl⟩
  simp [Go.Conc.G,stepG,unwind,botF,goexitEntry,Frame.catches];rfl
end Go.Proofs.Ytjhmhoapgbfgpaa
namespace Go.Proofs.Ytjhmhoapgbfgpaa
open Go Go.Conc
open Go.ConcN (sumTo upd sumTo_upd upd_ne upd_same)
section
variable {S:St} {k:Nat} {self:Int} {quit:Nat} {closed closed' busy busy':Bool} {hp gid dn:Nat} {pend pend':Option Nat}
abbrev endS (S:St) (k:Nat) (self:Int) (quit:Nat) (closed busy:Bool) (c:Nat × Nat × Nat) (pend:Option Nat):St:=S.set k (.thr self quit closed busy (some c) pend)
theorem zfv (hS:S[k]?=some (.thr self quit closed busy (some (hp,gid,dn)) pend)):(endS S k self quit closed' busy' (hp,gid,dn) pend')[k]?=some (.thr self quit closed' busy' (some (hp,gid,dn)) pend'):=List.getElem?_set_self (zaG hS)
theorem zeO {i:Nat} (hi:i≠k):(endS S k self quit closed' busy' (hp,gid,dn) pend')[i]?=S[i]?:=List.getElem?_set_ne (Ne.symm hi)
theorem zkw (hS:S[k]?=some (.thr self quit closed busy (some (hp,gid,dn)) pend)) {i:Nat} {ob:Ob} (ho:∀ a b c d e f,ob≠.thr a b c d e f):(endS S k self quit closed' busy' (hp,gid,dn) pend')[i]?=some ob↔S[i]?=some ob:=by
  by_cases hi:i=k
  . subst hi;rw [zfv hS,hS];exact⟨fun h=>absurd (Option.some.inj h).symm (ho _ _ _ _ _ _),fun h=>absurd (Option.some.inj h).symm (ho _ _ _ _ _ _)⟩
  . rw [zeO hi]
theorem zlq (hS:S[k]?=some (.thr self quit closed busy (some (hp,gid,dn)) pend)) {i s c:Nat} (h:ChS (endS S k self quit closed' busy' (hp,gid,dn) pend') i s c):ChS S i s c:=by
  cases h with
  | quit h =>
    by_cases hi:i=k
    . subst hi;rw [zfv hS] at h;cases h;exact .quit hS
    . rw [zeO hi] at h;exact .quit h
  | done h =>
    by_cases hi:i=k
    . subst hi;rw [zfv hS] at h;cases h;exact .done hS
    . rw [zeO hi] at h;exact .done h
  | ask h=>exact .ask ((zkw hS (fun _ _ _ _ _ _ e=>by cases e)).1 h)
  | grant h=>exact .grant ((zkw hS (fun _ _ _ _ _ _ e=>by cases e)).1 h)
end
section
variable {F:Emb} {Inb:Nat->Option Seat} {gs gs':Array Goroutine} {w w':World} {T T':Trace}
variable (hok:∀ mn OB WB,zau mn OB WB)
variable {Γ:Type} {Pr:Proto Γ}
theorem ended (d:BD Γ) (hd:d.Ok) {hs:AHeap} {sl:Option (Nat × Nat)} {γ:Γ} {bx wb dn0 n:Nat} {fv z:Value}
    (H:Standing d.p hok d.Su d.S F (.run [] [] hs d.S) Inb gs w T)
    (hg:gs[d.p.h]?=some (Go.Conc.G (zdy bx d.dn n [2]) [ze4 fv z wb dn0 bx,botF]))
    (hInv:Pr.Inv γ hs d.S) (hph:Pr.ph γ d.k=none) (hoth:∀ i,i≠d.k->Pr.ph γ i=Pr.ph d.γ i) (hfuel:Pr.FC γ d.γ) :
    Reach Try.prog (crowd gs w sl) T (Came hok Pr (BSusp hok Pr) d):=by
  have hc:=H.com;have t:=hc.tab;obtain⟨B0,Mem,q0,R0,hM0,hMh⟩:=hc.ring;have hthr:=hd.thr;have hwp:=hd.wp;obtain⟨_,hp',gid',dn',ws',st',ak',gr',e1,e2,cask,cgr,cdn,hgid,hgsz,hbox⟩:=t.busy _ _ _ _ _ _ hthr;cases e1;rw [hwp] at e2;cases e2;have fdn:=t.far _ _ _ (.done hthr);have hI0:Inb 0=some (zb3 d.tb (d.p.FR.blk (VB+d.hp)) d.dn d.ask d.cs0):=by rw [hc.main,hd.seat]
  obtain⟨kd,hkd⟩:=cdn;have hsz0:0<gs.size:=by omega
  refine (zuQ (P:=Try.prog) (kk:=1) (cap:=1) (c:=d.dn) (v:=.nilIface) (z:=.nilIface) (z':=.tuple #[]) (by omega) (fun e=>hd.h0 e.symm) hI0 rfl hMh rfl fdn.2.2 (fun main w=>znV bx d.dn n _ main w) (nh:=5) (by have:=hd.h0;omega) (zl8 bx d.dn dn0 n wb fv z) w _ (sl:=sl) rfl hsz0 (SideD.refl w) hkd hg R0).mono fun m T'=>?_
  rintro ⟨gs',gq,w1,k1,sl',q',rfl,b1,b2,b3,b4,b5,b6,R3⟩;have b3:gq=ziA d.tb (d.p.FR.blk (VB+d.hp)) d.dn d.ask d.cs0:=b3;subst b3;have hX:=zlv hok (p:=d.p) hd.h0;have b5:IvN d.p.OB d.wN 0 w1:=hd.iv ▸ b5;have hsz2:(w1.setChan d.dn 1 #[] false (k1+1) (k1+1) false).heap.size=w.heap.size:=by rw [<-b4.size];simp [World.setChan]
  have hset:∀ x,x≠d.dn->¬ d.p.OB x->(w1.setChan d.dn 1 #[] false (k1+1) (k1+1) false).heap[x]?=w.heap[x]?:=fun x hx hO=>by
    rw [heap_setChan_ne _ _ _ _ _ _ _ (fun e=>hx e.symm),b4.only x hO hx]
  have hdn:∃ a,w1.heap[d.dn]?=some a:=⟨_,Array.getElem?_eq_getElem b6⟩;obtain⟨odn,hodn⟩:=hdn;have hset1:(w1.setChan d.dn 1 #[] false (k1+1) (k1+1) false).heap[d.dn]?=some (.chan 1 #[] false (k1+1) (k1+1) false):=heap_setChan_self w1 hodn _ _ _ _ _ _;have hvne:∀ x,Vis (d.p.X hok) F (.run [] [] hs d.S) x->x≠d.dn:=fun x hx e=>H.chan_out hok fdn.1 (e ▸ hx);have hvis:∀ x,Vis (d.p.X hok) F (.run [] [] hs d.S) x->(w1.setChan d.dn 1 #[] false (k1+1) (k1+1) false).heap[x]?=w.heap[x]?:=fun x hx=>hset x (hvne x hx) fun z=>H.ov hd.h0 x z hx;generalize hw2:w1.setChan d.dn 1 #[] false (k1+1) (k1+1) false=w2 at *;have hap:∀ x,d.p.OB x->¬ d.p.WB x:=R0.apart;have hch:∀ c,¬ d.p.OB c->(zbv w c->zbv w2 c)/\∀ cap,ChanO w c cap->ChanO w2 c cap:=fun c hO=>by
    by_cases e:c=d.dn
    . subst e;refine⟨fun _=>⟨_,_,_,_,_,_,hset1⟩,fun cap h=>?_⟩;obtain⟨m,hm⟩:=h;rw [hkd] at hm;cases hm;exact⟨_,hset1⟩
    . refine⟨fun h=>?_,fun cap h=>?_⟩
      . obtain⟨a1,a2,a3,a4,a5,a6,a7⟩:=h;exact⟨a1,a2,a3,a4,a5,a6,by rw [hset c e hO];exact a7⟩
      . obtain⟨m,hm⟩:=h;exact⟨m,by rw [hset c e hO];exact hm⟩
  have t2:Tab d.p.OB d.p.WB d.S F gs'.size w2:=by rw [b1];exact t.turn (p:=d.p) (Nat.le_refl _) (Same.refl (Kn 0 d.S.length) F) (Nat.le_of_eq hsz2.symm) hch
  have hlen:(endS d.S d.k d.self d.quit false false (d.hp,d.p.h,d.dn) none).length=d.S.length:=by simp
  have hoth':∀ {i:Nat} {ob:Ob},(∀ a b c d e f,ob≠.thr a b c d e f)->((endS d.S d.k d.self d.quit false false (d.hp,d.p.h,d.dn) none)[i]?=some ob↔d.S[i]?=some ob):=fun ho=>zkw hthr ho;refine⟨gs',w2,sl',F,hs,γ,1,.nilIface,fun i=>if i=0 then none else (if i=d.p.h then none else Inb i),endS d.S d.k d.self d.quit false false (d.hp,d.p.h,d.dn) none,d.Su,d.p.Iv,rfl,b2,hoth,hfuel,hInv,H.same.1,H.same.2.1,fun b hb=>?_,hX ▸ zeI (Nat.le_of_eq hsz2.symm) hvis H.inv,fun x hx=>hX ▸ H.ov hd.h0 x hx,fun x hx=>?_,fun x hx=>?_,H.wro,H.base.move (Nat.le_of_eq hsz2.symm) (fun x _ hx=>hX.symm ▸ hx) (fun _ _ h=>h) (fun x _ _ h2 h3=>hset x (h3 _ _ _ (.done hthr)) h2) (fun _ _ _ h=>.inl h),⟨⟨_,_,_,R3.unseat,⟨hM0,fun e=>hd.h0 e.symm,by rw [hI0];simp⟩,⟨hM0,fun e=>hd.h0 e.symm,by rw [hI0];simp⟩⟩,?_,if_pos rfl,fun i s hi=>?_,fun k self quit closed hp gid dn pend hq=>?_,hc.n0,Nat.le_of_eq hlen⟩,.inr ⟨rfl,hph,rfl,rfl,rfl⟩⟩
  . have hne3:b≠d.dn:=fun e=>fdn.2.1 (e ▸ hb);rw [<-hw2,heap_setChan_ne _ _ _ _ _ _ _ (fun e=>hne3 e.symm)];exact b5 rfl b hb
  . obtain⟨h1,h2,h3,h4⟩:=H.prot x hx;obtain⟨cc',el,fr,h5⟩:=hd.px x hx;rw [hsz2];refine⟨h1,hX ▸ h2,h3,(hset x (fun e=>?_) h3).trans h4⟩;rw [e] at h4 h5;rw [h5,hkd] at h4;cases h4
  . obtain⟨cc',el,h1,h2⟩:=H.wrow x hx;exact⟨cc',el,(hset x (fun e=>by rw [e,hkd] at h1;cases h1) fun z=>hap x z hx).trans h1,h2⟩
  . refine⟨fun b=>?_,fun b=>?_,fun k s c k' s' h1 h2=>t2.dist k s c k' s' (zlq hthr h1) (zlq hthr h2),fun k s c h=>t2.far k s c (zlq hthr h),t2.olow,fun k a b c d' e h=>?_,fun k a b c d' e h=>?_⟩
    . refine (t2.obs b).trans ⟨?_,?_⟩
      . rintro ⟨k,a1,a2,a3,a4,a5,a6,a7,a8⟩;by_cases e:k=d.k
        . subst e;exact⟨d.k,_,_,_,_,_,_,zfv hthr,a8⟩
        . exact⟨k,a1,a2,a3,a4,a5,a6,(zeO e).trans a7,a8⟩
      . rintro ⟨k,a1,a2,a3,a4,a5,a6,a7,a8⟩;by_cases e:k=d.k
        . subst e;exact⟨d.k,_,_,_,_,_,_,hthr,a8⟩
        . exact⟨k,a1,a2,a3,a4,a5,a6,(zeO e).symm.trans a7,a8⟩
    . refine (t2.wbs b).trans ⟨?_,?_⟩
      . rintro ⟨k,a1,a2,a3,a4,a5,a7,a8⟩;exact⟨k,a1,a2,a3,a4,a5,(hoth' (fun _ _ _ _ _ _ e=>by cases e)).2 a7,a8⟩
      . rintro ⟨k,a1,a2,a3,a4,a5,a7,a8⟩;exact⟨k,a1,a2,a3,a4,a5,(hoth' (fun _ _ _ _ _ _ e=>by cases e)).1 a7,a8⟩
    . by_cases e':k=d.k
      . subst e';rw [zfv hthr] at h;cases h;exact t2.quit _ _ _ _ _ _ hthr
      . rw [zeO e'] at h;exact t2.quit _ _ _ _ _ _ h
    . by_cases e':k=d.k
      . subst e';rw [zfv hthr] at h;cases h
      . rw [zeO e'] at h;obtain⟨h1,hp',gid,dn,ws,st,ak,gr,h2,h3,h4,h5,h6,h7,h8,h9⟩:=t2.busy _ _ _ _ _ _ h;exact⟨h1,hp',gid,dn,ws,st,ak,gr,h2,(hoth' (fun _ _ _ _ _ _ e=>by cases e)).2 h3,h4,h5,h6,h7,h8,(hoth' (fun _ _ _ _ _ _ e=>by cases e)).2 h9⟩
  . show i≠0/\i<gs'.size/\_;by_cases h0:i=0
    . simp [h0] at hi
    rw [if_neg h0] at hi;by_cases e:i=d.p.h
    . rw [if_pos e] at hi;cases hi
    rw [if_neg e] at hi;refine⟨h0,by rw [b1];exact (hc.seats i s hi).2.1,fun _=>?_⟩
    obtain⟨k,c1,c2,c3,c4,c5,c6,c7,c8⟩:=(hc.seats i s hi).2.2 h0;refine⟨k,c1,c2,c3,c4,c5,c6,by simp,?_⟩
    rw [zeO]
    . exact c8
    rintro rfl;exact c7 hd.run
  . refine⟨fun e=>(by cases e),fun _=>?_⟩
    by_cases e:k=d.k
    . subst e;rw [zfv hthr] at hq;cases hq
    . rw [zeO e] at hq;obtain⟨ws,st,ak,gr,ab',x,y,cs',h3,h4,h5⟩:=(hc.waits k self quit closed hp gid dn pend hq).2 (by rw [hd.run];simpa using fun z=>e z.symm)
      obtain⟨h6,h7,h8⟩:=hc.seats gid _ h4;obtain⟨hp3,gid3,dn3,_,_,_,_,z1,_,_,_,_,z2,_⟩:=(t.busy _ _ _ _ _ _ hq).2;cases z1;refine⟨ws,st,ak,gr,ab',x,y,cs',(hoth' (fun _ _ _ _ _ _ e=>by cases e)).2 h3,?_,h5⟩
      show (if gid=0 then none else if gid=d.p.h then none else Inb gid)=_
      rw [if_neg (by omega),if_neg h6,h4]
end
section
variable (hok:∀ mn OB WB,zau mn OB WB)
variable {Γ:Type} (Pr:Proto Γ)
def EndB (k:Nat) (hs:AHeap) (S:St) (γ:Γ × St):Prop:=S=γ.2/\∃ γ1,Pr.Inv γ1 hs S/\Pr.ph γ1 k=none/\(∀ i,i≠k->Pr.ph γ1 i=Pr.ph γ.1 i)/\Pr.FC γ1 γ.1
set_option maxRecDepth 100000 in
theorem zjF:(rootOps2[3]?).bind (·.dst)=some 10:=by
  simp only [rootOps2,zjQ,cOps,cL,cR,Try.f30,Option.getD_some];rfl
theorem znH (fv v:Value) (wb dn bx:Nat):(zdo fv wb dn bx [3]).finish v=(baseD 30).at ⟨zqu fv wb dn bx v,[ziS 37 #[pt bx]]⟩ [.inRegion rootOps2 []]:=by
  simp only [zdo,Frame.finish_at,zjF];rfl
theorem zo9 {k hp bx:Nat} {fv:Value} {wbr dn0:Nat} {b:Frame} {F0:Emb} {N0 C0:Nat} {v:Value} {hs:AHeap} {S:St} {γ:Γ × St} (hE:EndB Pr k hs S γ):Safe hok (ClB k hp bx) SuB (FinB hok Pr) b [zdo fv wbr dn0 bx [3],botF] F0 N0 C0 (.done v hs S) γ:=by
  intro d p Inb F gs w sl T g hC H hg hS _ _ _;obtain⟨rfl,hγ,hd,rfl,rfl,hbx⟩:=hC;subst hγ;obtain⟨hSγ,γ1,hInv,hph,hoth,hfuel⟩:=hE;have hSγ:S=d.S:=hSγ;subst hSγ;have H:Standing d.p hok d.Su d.S F (.done v hs d.S) Inb gs w T:=H;obtain⟨fr,rfl,_,_,hl⟩:=hS;have hl:=hl _ _ rfl;rw [znH] at hl;refine (zeD hok hd.mono (c':=.run [] [] hs d.S) (sl:=sl) H hg rfl hl rfl rfl (fun v hv=>by cases hv)).bind fun m1 T1=>?_
  rintro ⟨gs1,w1,sl1,rfl,k1,_,H1⟩;obtain⟨B,Mem,q,R,hM0,hMh⟩:=H1.com.ring;have t:=H1.com.tab;obtain⟨_,hp',gid',dn',ws',st',ak',gr',e1,e2,cask,cgr,cdn,hgid,hgsz,hbox⟩:=t.busy _ _ _ _ _ _ hd.thr;cases e1;have hbF:F.blk (VB+(d.hp+1))=bx:=by
    rw [<-hbx];exact ((H1.same.1 (VB+(d.hp+1)) (.inr ⟨by omega,by rw [hd.cr];have:=zaG hbox;omega⟩)).1).symm
  have Rp:Rep d.p.mn d.p.OB d.p.WB F d.S w1:=H1.inv.1.rep;have hrow:w1.heap[bx]?=some (.cells #[.chan (some d.dn)] 91 (0,0)):=by
    have:=Rp.at' _ _ hbox;rw [<-hbF];exact this
  have hOb:¬ d.p.OB bx:=fun z=>H1.ov hd.h0 bx z (.inr ⟨d.hp+1,_,hbox,by rw [<-hbF];simp [zax]⟩)
  have hb0:(d.p.h==0)=false:=by simp [hd.h0]
  have hlow:∀ b,zhm d.p.OB d.p.WB Inb b->b<w1.heap.size:=fun b hb=>by
    rcases hb with hb|hb|⟨i,s,hi,hs⟩
    . exact t.olow b hb
    . obtain⟨_,_,h1,_⟩:=H1.wrow b hb;exact zab h1
    . obtain⟨cap,k,hx⟩:=R.chans i s b (fun z=>z) hi hs;exact zab hx
  have hgo:=zp9 (OB:=d.p.OB) (WB:=d.p.WB) (Inb:=Inb) (h:=d.p.h) (fv:=fv) (z:=ren F v) (wb:=wbr) (dn0:=dn0) (dn:=d.dn) (bx:=bx) w1 w1 ⟨hlow,fun _ _ _=>rfl,Nat.le_refl _,hrow,hOb⟩;rw [<-hb0] at hgo;refine (zaY (sl:=sl1) 60 k1 hgo R).bind fun m2 T2=>?_;rintro ⟨gs2,g2,w2,sl2,q2,B2,rfl,j1,j2,⟨⟨n,rfl⟩,hK⟩,R2⟩;have H2:Standing d.p hok d.Su d.S F (.run [] [] hs d.S) Inb gs2 w2 T2:=H1.grown hok hd.mono (fun x hx hO=>hK.old x (fun z=>hO ⟨z,hd.h0⟩) hx) hK.size j1 ⟨B2,Mem,q2,R2,hM0,hMh⟩;exact ended hok d hd H2 j2 hInv hph hoth hfuel
end
section
variable {P:Program}
theorem zhD {fn:FuncId} {a:Act} {o:Oper} {w:World} {r:Next} (h:calm P (execOp a.eval o)=some r):listed P fn a o w=#[]:=by
  show seen P fn ((execOp a.eval o).events P w #[])=#[];rw [show (execOp a.eval o).events P w #[]=#[] from by show ((execOp a.eval o).runT P w #[]).2=#[];rw [(zgJ h w #[]).1],seen_none]
theorem zid {fn:FuncId} {a:Act} {o:Oper} {w:World} {t yt:TypeId} {op:BinOp} {x y:Operand} {u v r:Value} (ho:o.op=.binOp op t x y yt) (hx:a.eval x=u) (hy:a.eval y=v) (hu:ren ⟨id,fun _=>0,fun _=>0⟩ u=u) (hv:ren ⟨id,fun _=>0,fun _=>0⟩ v=v) (h:zaR P op t y u v=some r):listed P fn a o w=#[]:=by
  have hc:=ze2 (P:=P) (F:=⟨id,fun _=>0,fun _=>0⟩) (x:=x) h;rw [hu,hv] at hc;refine zhD (r:=.value (ren ⟨id,fun _=>0,fun _=>0⟩ r)) ?_;simp only [execOp,ho,hx,hy];rw [zad,hc];rfl
theorem zdV {fn:FuncId} {a:Act} {o:Oper} {w:World} {t yt:TypeId} {x y:Operand} {p:Option Addr} {r:Value} (ho:o.op=.binOp .eql t x y yt) (hx:a.eval x=.pointer p) (hy:a.eval y=.pointer none) (h:zaR P .eql t y (.pointer p) (.pointer none)=some r):listed P fn a o w=#[]:=by
  have hr:ren ⟨id,fun _=>0,fun _=>0⟩ (.pointer p)=.pointer p:=by
    cases p with
    | none=>simp
    | some a=>simp [adr]
  have hc:=ze2 (P:=P) (F:=⟨id,fun _=>0,fun _=>0⟩) (x:=x) h;rw [hr,zdD] at hc;refine zhD (r:=.value (ren ⟨id,fun _=>0,fun _=>0⟩ r)) ?_;simp only [execOp,ho,hx,hy];rw [zad,hc];rfl
end
section
variable {OB WB:Nat->Prop} {Inb:Nat->Option Seat}
structure KM (w0 w:World):Prop where
  heap:w.heap=w0.heap
theorem KM.rely {w0 w w1:World} (K:KM w0 w) (r:Ro OB 0 w w1):KM w0 w1:=⟨by rw [r.heap0];exact K.heap⟩
theorem KM.cell {w0 w:World} (K:KM w0 w) {a:Addr} {v:Value} (h:w0.cell? a=some v):w.cell? a=some v:=(za3 w0 w a (by rw [K.heap])).trans h
theorem zbJ {w:World} {a:Addr} {v:Value} (h:w.cell? a=some v):EvO OB WB 0 w ⟨.cell a,false,false⟩:=by
  obtain⟨c,el,fr,hb,_⟩:=zaU h;exact .inr ⟨rfl,a,rfl,zab hb,nofun,fun _=>rfl⟩
noncomputable def zdn:Code:=(Try.f33.body).getD .skip
noncomputable def zex:Array Oper:=cOps (cL (cR (cR zdn)))
noncomputable def zeU:Code:=cR (cR (cR zdn))
noncomputable def zeA:Array Oper:=cOps (cL zeU)
noncomputable def zhE:Code:=cR zeU
abbrev zoF (tb wb gr:Nat) (pb:Addr) (v z:Value):Array Value:=#[pt tb,v,undef,undef,.bool false,pt tb,.bool false,.bool false,pt tb,pt tb,pt tb 3,.pointer (some pb),.bool false,.bool false,pt tb,pt tb,pt tb 1,pt wb,pt wb,pt wb 4,.chan (some gr),v,z,undef]
noncomputable def zdw (tb wb gr:Nat) (pb:Addr) (v:Value) (rest:List Nat):Frame:=(base 33).at ⟨zoF tb wb gr pb v undef,[]⟩ [.inRegion zex rest,.code zeU]
noncomputable def zdl (tb wb gr:Nat) (pb:Addr) (v:Value) (rest:List Nat):Frame:=(base 33).at ⟨zoF tb wb gr pb v (pt tb),[]⟩ [.inRegion zeA rest,.code zhE]
structure KGr (w:World) (tb wb dn ak gr:Nat) (pb:Addr):Prop where
  port:w.cell? ⟨tb,1,none⟩=some (.pointer (some ⟨wb,0,none⟩))
  pend:w.cell? ⟨tb,3,none⟩=some (.pointer (some pb))
  grant:w.cell? ⟨wb,4,none⟩=some (.chan (some gr))
set_option maxRecDepth 100000 in
theorem zoZ {w0 w:World} {tb wb dn ak gr:Nat} {pb:Addr} {v:Value} (hG:KGr w0 tb wb dn ak gr pb) (hK:KM w0 w) (cs:List Frame) :
    Conc.Goes Try.prog true (Ro OB 0) (DO OB WB Inb 0) (fun g w'=>g=Go.Conc.G (zdw tb wb gr pb v [8]) cs/\KM w0 w') 60 (Go.Conc.G ((base 33).at ⟨#[pt tb,v,undef,undef,undef,undef,undef,undef,undef,undef,undef,undef,undef,undef,undef,undef,undef,undef,undef,undef,undef,undef,undef,undef],[]⟩ [.code zdn]) cs) w:=by
  simp only [zdn,Try.f33,Option.getD_some];(refine Conc.Goes.step rfl (fun w₁ h₁=>?_);replace hK:=hK.rely h₁;clear h₁;rw [stepG_seq];simp only [goes_go];refine⟨DO.none _,?_⟩);(refine Conc.Goes.step rfl (fun w₁ h₁=>?_);replace hK:=hK.rely h₁;clear h₁;rw [stepG_region];simp only [goes_go,List.size_toArray,List.length_cons,List.length_nil,Nat.reduceAdd,Nat.zero_add,List.range,List.range.loop];refine⟨DO.none _,?_⟩);(refine Conc.Goes.step rfl (fun w₁ h₁=>?_);replace hK:=hK.rely h₁;clear h₁;refine goes_oper_k rfl rfl (by decide) (fun K hK'=>?_);go_simp;refine hK' _ _ ⟨DO.quiet (fun e he=>(by have hm:=mem_listed he;simp [go_sem,Instr.makeInterface,Instr.makeFunc] at hm)),?_⟩;clear hK' K)
  (refine Conc.Goes.step rfl (fun w₁ h₁=>?_);replace hK:=hK.rely h₁;clear h₁;rw [stepG_region_end];simp only [goes_go];refine⟨DO.none _,?_⟩);(refine Conc.Goes.step rfl (fun w₁ h₁=>?_);replace hK:=hK.rely h₁;clear h₁;rw [stepG_seq];simp only [goes_go];refine⟨DO.none _,?_⟩);(refine Conc.Goes.step rfl (fun w₁ h₁=>?_);replace hK:=hK.rely h₁;clear h₁;rw [stepG_seq];simp only [goes_go];refine⟨DO.none _,?_⟩);(refine Conc.Goes.step rfl (fun w₁ h₁=>?_);replace hK:=hK.rely h₁;clear h₁;rw [stepG_region];simp only [goes_go,List.size_toArray,List.length_cons,List.length_nil,Nat.reduceAdd,Nat.zero_add,List.range,List.range.loop];refine⟨DO.none _,?_⟩);(refine Conc.Goes.step rfl (fun w₁ h₁=>?_);replace hK:=hK.rely h₁;clear h₁;refine goes_oper_k rfl rfl (by decide) (fun K hK'=>?_);go_simp;refine hK' _ _ ⟨DO.quiet (fun e he=>(by have hm:=mem_listed he;simp [go_sem,Instr.makeInterface,Instr.makeFunc] at hm)),?_⟩;clear hK' K);refine Conc.Goes.step rfl (fun w₁ h₁=>?_);replace hK:=hK.rely h₁;clear h₁
  refine goes_oper_k rfl rfl (by decide) (fun K hK'=>?_)
  go_simp
  refine hK' _ _ ⟨DO.quiet (fun e he=>(by rw [zdV rfl rfl rfl rfl] at he;simp at he)),?_⟩
  clear hK' K;(refine Conc.Goes.step rfl (fun w₁ h₁=>?_);replace hK:=hK.rely h₁;clear h₁;refine goes_oper_k rfl rfl (by decide) (fun K hK'=>?_);go_simp;refine hK' _ _ ⟨DO.quiet (fun e he=>(by have hm:=mem_listed he;simp [go_sem,Instr.makeInterface,Instr.makeFunc] at hm)),?_⟩;clear hK' K)
  (refine Conc.Goes.step rfl (fun w₁ h₁=>?_);replace hK:=hK.rely h₁;clear h₁;refine goes_oper_k rfl rfl (by decide) (fun K hK'=>?_);go_simp;refine hK' _ _ ⟨DO.quiet (fun e he=>(by have hm:=mem_listed he;simp [go_sem,Instr.makeInterface,Instr.makeFunc] at hm)),?_⟩;clear hK' K);(refine Conc.Goes.step rfl (fun w₁ h₁=>?_);replace hK:=hK.rely h₁;clear h₁;refine goes_oper_k rfl rfl (by decide) (fun K hK'=>?_);go_simp;refine hK' _ _ ⟨DO.quiet (fun e he=>(by have hm:=mem_listed he;simp [go_sem,Instr.makeInterface,Instr.makeFunc] at hm)),?_⟩;clear hK' K);(refine Conc.Goes.step rfl (fun w₁ h₁=>?_);replace hK:=hK.rely h₁;clear h₁;refine goes_oper_k rfl rfl (by decide) (fun K hK'=>?_);go_simp;refine hK' _ _ ⟨DO.quiet (fun e he=>(by have hm:=mem_listed he;simp [go_sem,Instr.makeInterface,Instr.makeFunc] at hm)),?_⟩;clear hK' K);(refine Conc.Goes.step rfl (fun w₁ h₁=>?_);replace hK:=hK.rely h₁;clear h₁;have hF:=(hK.cell hG.pend);refine goes_oper_k rfl rfl (by decide) (fun K hK'=>?_);go_simp;refine hK' _ _ ⟨DO.quiet (fun e he=>(by have hm:=mem_listed he;simp [go_sem,hF] at hm;subst hm;exact zbJ (hK.cell hG.pend))),?_⟩;clear hK' K hF);refine Conc.Goes.step rfl (fun w₁ h₁=>?_);replace hK:=hK.rely h₁;clear h₁
  refine goes_oper_k rfl rfl (by decide) (fun K hK'=>?_)
  go_simp
  refine hK' _ _ ⟨DO.quiet (fun e he=>(by rw [zdV rfl rfl rfl rfl] at he;simp at he)),?_⟩
  clear hK' K;(refine Conc.Goes.step rfl (fun w₁ h₁=>?_);replace hK:=hK.rely h₁;clear h₁;refine goes_oper_k rfl rfl (by decide) (fun K hK'=>?_);go_simp;refine hK' _ _ ⟨DO.quiet (fun e he=>(by have hm:=mem_listed he;simp [go_sem,Instr.makeInterface,Instr.makeFunc] at hm)),?_⟩;clear hK' K)
  (refine Conc.Goes.step rfl (fun w₁ h₁=>?_);replace hK:=hK.rely h₁;clear h₁;rw [stepG_region_end];simp only [goes_go];refine⟨DO.none _,?_⟩);(refine Conc.Goes.step rfl (fun w₁ h₁=>?_);replace hK:=hK.rely h₁;clear h₁;rw [stepG_cond (t:=false) rfl];simp only [goes_go,if_true,if_false,Bool.false_eq_true,↓reduceIte];refine⟨DO.none _,?_⟩);(refine Conc.Goes.step rfl (fun w₁ h₁=>?_);replace hK:=hK.rely h₁;clear h₁;rw [stepG_skip];simp only [goes_go];refine⟨DO.none _,?_⟩);(refine Conc.Goes.step rfl (fun w₁ h₁=>?_);replace hK:=hK.rely h₁;clear h₁;rw [stepG_seq];simp only [goes_go];refine⟨DO.none _,?_⟩);(refine Conc.Goes.step rfl (fun w₁ h₁=>?_);replace hK:=hK.rely h₁;clear h₁;rw [stepG_region];simp only [goes_go,List.size_toArray,List.length_cons,List.length_nil,Nat.reduceAdd,Nat.zero_add,List.range,List.range.loop];refine⟨DO.none _,?_⟩);(refine Conc.Goes.step rfl (fun w₁ h₁=>?_);replace hK:=hK.rely h₁;clear h₁;refine goes_oper_k rfl rfl (by decide) (fun K hK'=>?_);go_simp;refine hK' _ _ ⟨DO.quiet (fun e he=>(by have hm:=mem_listed he;simp [go_sem,Instr.makeInterface,Instr.makeFunc] at hm)),?_⟩;clear hK' K);(refine Conc.Goes.step rfl (fun w₁ h₁=>?_);replace hK:=hK.rely h₁;clear h₁;refine goes_oper_k rfl rfl (by decide) (fun K hK'=>?_);go_simp;refine hK' _ _ ⟨DO.quiet (fun e he=>(by have hm:=mem_listed he;simp [go_sem,Instr.makeInterface,Instr.makeFunc] at hm)),?_⟩;clear hK' K);(refine Conc.Goes.step rfl (fun w₁ h₁=>?_);replace hK:=hK.rely h₁;clear h₁;refine goes_oper_k rfl rfl (by decide) (fun K hK'=>?_);go_simp;refine hK' _ _ ⟨DO.quiet (fun e he=>(by have hm:=mem_listed he;simp [go_sem,Instr.makeInterface,Instr.makeFunc] at hm)),?_⟩;clear hK' K);(refine Conc.Goes.step rfl (fun w₁ h₁=>?_);replace hK:=hK.rely h₁;clear h₁;have hF:=(hK.cell hG.port);refine goes_oper_k rfl rfl (by decide) (fun K hK'=>?_);go_simp;refine hK' _ _ ⟨DO.quiet (fun e he=>(by have hm:=mem_listed he;simp [go_sem,hF] at hm;subst hm;exact zbJ (hK.cell hG.port))),?_⟩;clear hK' K hF);(refine Conc.Goes.step rfl (fun w₁ h₁=>?_);replace hK:=hK.rely h₁;clear h₁;refine goes_oper_k rfl rfl (by decide) (fun K hK'=>?_);go_simp;refine hK' _ _ ⟨DO.quiet (fun e he=>(by have hm:=mem_listed he;simp [go_sem,Instr.makeInterface,Instr.makeFunc] at hm)),?_⟩;clear hK' K);(refine Conc.Goes.step rfl (fun w₁ h₁=>?_);replace hK:=hK.rely h₁;clear h₁;refine goes_oper_k rfl rfl (by decide) (fun K hK'=>?_);go_simp;refine hK' _ _ ⟨DO.quiet (fun e he=>(by have hm:=mem_listed he;simp [go_sem,Instr.makeInterface,Instr.makeFunc] at hm)),?_⟩;clear hK' K);(refine Conc.Goes.step rfl (fun w₁ h₁=>?_);replace hK:=hK.rely h₁;clear h₁;have hF:=(hK.cell hG.grant);refine goes_oper_k rfl rfl (by decide) (fun K hK'=>?_);go_simp;refine hK' _ _ ⟨DO.quiet (fun e he=>(by have hm:=mem_listed he;simp [go_sem,hF] at hm;subst hm;exact zbJ (hK.cell hG.grant))),?_⟩;clear hK' K hF);(refine Conc.Goes.step rfl (fun w₁ h₁=>?_);replace hK:=hK.rely h₁;clear h₁;refine goes_oper_k rfl rfl (by decide) (fun K hK'=>?_);go_simp;refine hK' _ _ ⟨DO.quiet (fun e he=>(by have hm:=mem_listed he;simp [go_sem,Instr.makeInterface,Instr.makeFunc] at hm)),?_⟩;clear hK' K);exact Conc.Goes.stop (fun w₁ h₁=>⟨by simp only [zdw,zex,zeU,zdn,cOps,cL,cR,Try.f33,Option.getD_some],hK.rely h₁⟩)
set_option maxRecDepth 100000 in
theorem znc (tb wb gr:Nat) (pb:Addr) (v:Value) (cs:List Frame) (main:Bool) (w:World) :
    stepG Try.prog main (Go.Conc.G (zdw tb wb gr pb v [8]) cs) w=.comm (Go.Conc.G (zdw tb wb gr pb v [8]) cs) #[scase gr v (.tuple #[])] true .send w:=by
  simp only [zdw,zex,zeU,zdn,cOps,cL,cR,Try.f33,Option.getD_some];rw [stepG_comm (w':=w) (cases:=#[scase gr v (.tuple #[])]) (blocking:=true) (shape:=.send) rfl rfl (by decide) (by simp [go_sem,execOp,scase,Act.eval]),listed_none (by simp [go_sem,execOp,Act.eval])]
theorem zni (tb wb gr:Nat) (pb:Addr) (v:Value) (cs:List Frame):(Go.Conc.G (zdw tb wb gr pb v [8]) cs).finishComm Try.prog #[scase gr v (.tuple #[])] .send ((0:Nat):Int) undef false=Go.Conc.G (zdw tb wb gr pb v []) cs:=by
  simp only [Goroutine.finishComm,zdw,zex,zeU,zdn,cOps,cL,cR,Try.f33,Option.getD_some,Go.Conc.G,Frame.finish_at];rfl
variable {B:Nat}
set_option maxRecDepth 100000 in
theorem zmL {w0 w:World} {tb wb dn ak gr:Nat} {pb:Addr} {v:Value} (hK:KG OB WB w0 tb wb dn ak w) (hne:wb≠tb) (htB:tb<B) (hwB:wb<B) (cs:List Frame) :
    Conc.Goes Try.prog true (Rl OB WB 0) (Dw OB WB B 0) (fun g w=>(∃ gq,AtS Try.prog (zb3 tb wb dn ak (zdl tb wb gr pb v [1]::cs)) g gq)/\KG OB WB (w0.setCell ⟨tb,3,none⟩ (.pointer none)) tb wb dn ak w) 45 (Go.Conc.G (zdw tb wb gr pb v []) cs) w:=by
  simp only [zdw,zex,zeU,zdn,cOps,cL,cR,Try.f33,Option.getD_some];(refine Conc.Goes.step rfl (fun w₁ h₁=>?_);replace hK:=hK.rely h₁;clear h₁;rw [stepG_region_end];simp only [goes_go];refine⟨Dw.none _,?_⟩);(refine Conc.Goes.step rfl (fun w₁ h₁=>?_);replace hK:=hK.rely h₁;clear h₁;rw [stepG_seq];simp only [goes_go];refine⟨Dw.none _,?_⟩);(refine Conc.Goes.step rfl (fun w₁ h₁=>?_);replace hK:=hK.rely h₁;clear h₁;rw [stepG_region];simp only [goes_go,List.size_toArray,List.length_cons,List.length_nil,Nat.reduceAdd,Nat.zero_add,List.range,List.range.loop];refine⟨Dw.none _,?_⟩);(refine Conc.Goes.step rfl (fun w₁ h₁=>?_);replace hK:=hK.rely h₁;clear h₁;refine goes_oper_k rfl rfl (by decide) (fun K hK'=>?_);go_simp;refine hK' _ _ ⟨Dw.quiet (fun e he=>(by have hm:=mem_listed he;simp [go_sem,Instr.makeInterface,Instr.makeFunc] at hm)),?_⟩;clear hK' K)
  refine Conc.Goes.step rfl (fun w₁ h₁=>?_);replace hK:=hK.rely h₁;clear h₁;refine goes_call (c:=zhL) rfl rfl (by decide) rfl Try.func31 rfl rfl ⟨Dw.none _,?_⟩
  rw [Try.ntmps31]
  walk_nrm
  have hgo:=zl4 (OB:=OB) (WB:=WB) (B:=B) hK hne htB hwB (zdl tb wb gr pb v [1]::cs);simp only [zdl,zeA,zhE,zeU,zdn,cOps,cL,cR,Try.f33,Option.getD_some] at hgo ⊢;exact hgo
end
section
variable {OB WB:Nat->Prop} {Inb:Nat->Option Seat}
set_option maxRecDepth 100000 in
theorem zgV:(zeX[0]?).bind (·.dst)=some 18:=by
  simp only [zeX,zhL,cOps,cL,cR,Try.f31,Option.getD_some];rfl
abbrev zs6 (tb wb dn ak:Nat) (z:Value):Array Value:=#[pt tb,undef,undef,undef,pt tb,pt tb,pt tb 3,pt tb,pt tb,pt tb 1,pt wb,pt wb,pt wb 3,.chan (some ak),pt tb,pt tb,pt tb 2,.chan (some dn),z,undef,undef,undef,undef,undef,undef,undef,undef,undef,undef,undef,undef,undef,undef]
noncomputable def zgg (tb wb dn ak:Nat) (z:Value) (cs:List Frame):Goroutine:=Go.Conc.G ((base 31).at ⟨zs6 tb wb dn ak z,[]⟩ [.inRegion zeX [1,2,3],.code zfF]) cs
theorem znb (tb wb dn ak:Nat) (v:Value) (cs:List Frame):(ziA tb wb dn ak cs).finishComm Try.prog (zb3 tb wb dn ak cs).cases (zb3 tb wb dn ak cs).shape ((0:Nat):Int) v true=zgg tb wb dn ak (.tuple #[.int .i64 0,.bool true,v,.nilIface]) cs:=by
  have h2:commResult (zb3 tb wb dn ak cs).cases (zb3 tb wb dn ak cs).shape ((0:Nat):Int) v true=.tuple #[.int .i64 0,.bool true,v,.nilIface]:=by
    simp [zb3,commResult,rcase,List.zipIdx_cons,goInt]
  simp only [Goroutine.finishComm];rw [h2];simp only [ziA,zgg,Go.Conc.G,Frame.finish_at,zgV];rfl
theorem zoM (tb wb dn ak:Nat) (v:Value) (cs:List Frame):(ziA tb wb dn ak cs).finishComm Try.prog (zb3 tb wb dn ak cs).cases (zb3 tb wb dn ak cs).shape ((1:Nat):Int) v true=zgg tb wb dn ak (.tuple #[.int .i64 1,.bool true,accZ,v]) cs:=by
  have h2:commResult (zb3 tb wb dn ak cs).cases (zb3 tb wb dn ak cs).shape ((1:Nat):Int) v true=.tuple #[.int .i64 1,.bool true,accZ,v]:=by
    simp [zb3,commResult,rcase,List.zipIdx_cons,goInt]
  simp only [Goroutine.finishComm];rw [h2];simp only [ziA,zgg,Go.Conc.G,Frame.finish_at,zgV];rfl
structure KA (OB WB:Nat->Prop) (Inb:Nat->Option Seat) (n0:Nat) (w0 w:World):Prop where
  heap:w.heap=w0.heap
  low:∀ b,zhm OB WB Inb b->b<n0
  size:n0<=w0.heap.size
theorem KA.rely {n0:Nat} {w0 w w1:World} (K:KA OB WB Inb n0 w0 w) (r:Ro OB 0 w w1):KA OB WB Inb n0 w0 w1:=⟨by rw [r.heap0];exact K.heap,K.low,K.size⟩
theorem KA.cell {n0:Nat} {w0 w:World} (K:KA OB WB Inb n0 w0 w) {a:Addr} {v:Value} (h:w0.cell? a=some v):w.cell? a=some v:=(za3 w0 w a (by rw [K.heap])).trans h
theorem KA.alloc {n0:Nat} {w0 w:World} (K:KA OB WB Inb n0 w0 w) {o:Obj}:KA OB WB Inb n0 (w0.alloc o) (w.alloc o):=⟨by rw [zbT,zbT,K.heap],K.low,by rw [zaM];have:=K.size;omega⟩
theorem zaQ (w:World) (a:Addr) (v:Value):(w.setCell a v).heap.size=w.heap.size:=by simp [World.setCell]
theorem zjI {w w0:World} (h:w.heap=w0.heap) (a:Addr) (v:Value):(w.setCell a v).heap=(w0.setCell a v).heap:=by
  refine Array.ext_getElem? fun b=>?_;rw [heap_setCell,heap_setCell,h]
theorem KA.set {n0:Nat} {w0 w:World} (K:KA OB WB Inb n0 w0 w) {a:Addr} {v:Value}:KA OB WB Inb n0 (w0.setCell a v) (w.setCell a v):=⟨zjI K.heap a v,K.low,by rw [zaQ];exact K.size⟩
theorem KA.set_do {n0:Nat} {w0 w:World} (K:KA OB WB Inb n0 w0 w) {a:Addr} {v:Value} {es:Array Event} (ha:n0<=a.block\/((∀ i s,Inb i=some s->¬ s.has a.block)/\¬ WB a.block)) (hs:∀ e∈es,EvO OB WB 0 (w.setCell a v) e):DO OB WB Inb 0 w (w.setCell a v) es:=by
  refine⟨fun i s c hi hc=>?_,fun b hb h3=>?_,fun h=>absurd rfl h,by rw [zaQ];exact Nat.le_refl _,rfl,hs⟩
  . rw [heap_setCell,if_neg];rintro rfl;rcases ha with ha|ha
    . have:=K.low _ (.inr (.inr ⟨i,s,hi,hc⟩));omega
    . exact ha.1 i s hi hc
  . refine za3 _ _ _ ?_;rw [heap_setCell,if_neg];intro e;rcases ha with ha|ha
    . have:=K.low _ (.inr (.inl hb));omega
    . exact ha.2 (e ▸ hb)
theorem zg2 {w:World} {a:Addr} {v:Value} (hW:¬ WB a.block) (hb:a.block<w.heap.size):EvO OB WB 0 (w.setCell a v) ⟨.cell a,true,false⟩:=.inr ⟨rfl,a,rfl,by rw [zaQ];exact hb,fun _ z=>hW z.1,fun _=>rfl⟩
theorem ze3 {w:World} {nb o:Nat} {cur:Array Value} {el:TypeId} (h:w.heap[nb]?=some (.cells cur el (0,0))) (v:Value):(w.setCell ⟨nb,o,none⟩ v).heap[nb]?=some (.cells (cur.setIfInBounds o v) el (0,0)):=by
  rw [heap_setCell,if_pos rfl,h];rfl
theorem zfu {P:Program} {α:Type} {w:World} {nb o:Nat} {cur:Array Value} {el:TypeId} {es:Array Event} {k:IntKind} {n:Int} {f:Unit->Sem α} (h:w.heap[nb]?=some (.cells cur el (0,0))) (ho:o<cur.size):(Sem.bind (store ⟨nb,o,none⟩ (.int k n)) f).runT P w es=(f ()).runT P (w.setCell ⟨nb,o,none⟩ (.int k n)) (es.push ⟨.cell ⟨nb,o,none⟩,true,false⟩):=by
  have hc:w.cell? ⟨nb,o,none⟩=some (cur[o]'ho):=by simp [World.cell?,h,ho]
  have hf:w.frozen? ⟨nb,o,none⟩=false:=by simp [World.frozen?,h]
  show (Sem.store .plain ⟨nb,o,none⟩ (.int k n) (f ())).runT P w es=_;simp only [Sem.runT,hc,hf];rfl
theorem zoW {P:Program} {w:World} {nb:Nat} {x0 x1 x2 x3:Value} {el:TypeId} {es:Array Event} (h:w.heap[nb]?=some (.cells #[x0,x1,x2,x3] el (0,0))) (c n A B:Int) :
    (storeCells ⟨nb,0,none⟩ [.int .u8 c,.int .i64 n,.int .u64 A,.int .u64 B]).runT P w es=(.ok () ((((w.setCell ⟨nb,0,none⟩ (.int .u8 c)).setCell ⟨nb,1,none⟩ (.int .i64 n)).setCell ⟨nb,2,none⟩ (.int .u64 A)).setCell ⟨nb,3,none⟩ (.int .u64 B)),(((es.push ⟨.cell ⟨nb,0,none⟩,true,false⟩).push ⟨.cell ⟨nb,1,none⟩,true,false⟩).push ⟨.cell ⟨nb,2,none⟩,true,false⟩).push ⟨.cell ⟨nb,3,none⟩,true,false⟩):=by
  have h0:=h;show (Sem.bind (store ⟨nb,0,none⟩ (.int .u8 c)) fun _=>Sem.bind (store ⟨nb,1,none⟩ (.int .i64 n)) fun _=>Sem.bind (store ⟨nb,2,none⟩ (.int .u64 A)) fun _=>Sem.bind (store ⟨nb,3,none⟩ (.int .u64 B)) fun _=>.pure ()).runT P w es=_;have h1:=ze3 (o:=0) h0 (.int .u8 c);have h2:=ze3 (o:=1) h1 (.int .i64 n);have h3:=ze3 (o:=2) h2 (.int .u64 A);rw [zfu h0 (by simp),zfu h1 (by simp),zfu h2 (by simp),zfu h3 (by simp)]
  rfl
set_option maxRecDepth 100000 in
theorem zqk {n0:Nat} {w0 w:World} {tb wb dn ak cc:Nat} {n:Int} {A B:UInt64} (hK:KA OB WB Inb n0 w0 w) (ht:(∀ i s,Inb i=some s->¬ s.has tb)/\¬ WB tb) {z3:Value} (h3:w0.cell? ⟨tb,3,none⟩=some z3) (hz:w0.frozen? ⟨tb,3,none⟩=false) (c0:Frame) (cs:List Frame) :
    Conc.Goes Try.prog true (Ro OB 0) (DO OB WB Inb 0) (fun g w'=>g=Go.Conc.G (c0.finish (.tuple #[])) cs/\KA OB WB Inb n0 ((w0.alloc (.cells (zgk cc n A B) 61)).setCell ⟨tb,3,none⟩ (.pointer (some ⟨w0.heap.size,0,none⟩))) w') 60 (zgg tb wb dn ak (.tuple #[.int .i64 0,.bool true,accV cc n A B,.nilIface]) (c0::cs)) w:=by
  simp only [zgg,zeX,zfF,zhL,cOps,cL,cR,Try.f31,Option.getD_some];(refine Conc.Goes.step rfl (fun w₁ h₁=>?_);replace hK:=hK.rely h₁;clear h₁;refine goes_oper_k rfl rfl (by decide) (fun K hK'=>?_);go_simp;refine hK' _ _ ⟨DO.quiet (fun e he=>(by have hm:=mem_listed he;simp [go_sem,Instr.makeInterface,Instr.makeFunc] at hm)),?_⟩;clear hK' K)
  (refine Conc.Goes.step rfl (fun w₁ h₁=>?_);replace hK:=hK.rely h₁;clear h₁;refine goes_oper_k rfl rfl (by decide) (fun K hK'=>?_);go_simp;refine hK' _ _ ⟨DO.quiet (fun e he=>(by have hm:=mem_listed he;simp [go_sem,Instr.makeInterface,Instr.makeFunc] at hm)),?_⟩;clear hK' K);(refine Conc.Goes.step rfl (fun w₁ h₁=>?_);replace hK:=hK.rely h₁;clear h₁;refine goes_oper_k rfl rfl (by decide) (fun K hK'=>?_);go_simp;refine hK' _ _ ⟨DO.quiet (fun e he=>(by have hm:=mem_listed he;simp [go_sem,Instr.makeInterface,Instr.makeFunc] at hm)),?_⟩;clear hK' K);(refine Conc.Goes.step rfl (fun w₁ h₁=>?_);replace hK:=hK.rely h₁;clear h₁;rw [stepG_region_end];simp only [goes_go];refine⟨DO.none _,?_⟩);(refine Conc.Goes.step rfl (fun w₁ h₁=>?_);replace hK:=hK.rely h₁;clear h₁;rw [stepG_block];simp only [goes_go];refine⟨DO.none _,?_⟩);(refine Conc.Goes.step rfl (fun w₁ h₁=>?_);replace hK:=hK.rely h₁;clear h₁;rw [stepG_cond (t:=true) rfl];simp only [goes_go,if_true,if_false,Bool.false_eq_true,↓reduceIte];refine⟨DO.none _,?_⟩);(refine Conc.Goes.step rfl (fun w₁ h₁=>?_);replace hK:=hK.rely h₁;clear h₁;rw [stepG_seq];simp only [goes_go];refine⟨DO.none _,?_⟩);(refine Conc.Goes.step rfl (fun w₁ h₁=>?_);replace hK:=hK.rely h₁;clear h₁;rw [stepG_region];simp only [goes_go,List.size_toArray,List.length_cons,List.length_nil,Nat.reduceAdd,Nat.zero_add,List.range,List.range.loop];refine⟨DO.none _,?_⟩);(refine Conc.Goes.step rfl (fun w₁ h₁=>?_);replace hK:=hK.rely h₁;clear h₁;refine goes_oper_k rfl rfl (by decide) (fun K hK'=>?_);go_simp;refine hK' _ _ ⟨DO.quiet (fun e he=>(by have hm:=mem_listed he;simp [go_sem,Instr.makeInterface,Instr.makeFunc] at hm)),?_⟩;clear hK' K);refine Conc.Goes.step rfl (fun w₁ h₁=>?_);replace hK:=hK.rely h₁;clear h₁
  refine goes_oper_k rfl rfl (by decide) (fun K hK'=>?_)
  go_simp
  refine hK' _ _ ⟨DO.alloc (fun b hb=>by have:=hK.low b hb;have:=hK.size;rw [hK.heap];omega) (fun e he=>(by have hm:=mem_listed he;simp [go_sem] at hm)),?_⟩
  clear hK' K;rw [show w₁.heap.size=w0.heap.size by rw [hK.heap]]
  have hn0:=hK.size;replace hK:=hK.alloc (o:=.cells #[.int .u8 0,.int .i64 0,.int .u64 0,.int .u64 0] 61);refine Conc.Goes.step rfl (fun w₁ h₁=>?_);replace hK:=hK.rely h₁;clear h₁;refine goes_oper_k rfl rfl (by decide) (fun K hK'=>?_)
  go_simp
  have hnew:w₁.heap[w0.heap.size]?=some (.cells #[.int .u8 0,.int .i64 0,.int .u64 0,.int .u64 0] 61 (0,0)):=by rw [hK.heap];exact zbD _ _
  have hst:=zoW (P:=Try.prog) (es:=#[]) hnew (cc:Int) n (A.toNat:Int) (B.toNat:Int);simp only [accV,List.size_toArray,List.length_cons,List.length_nil,Nat.reduceAdd,if_true];have hrun:=congrArg Prod.fst hst;rw [Sem.runT_eq] at hrun;simp only at hrun;rw [hrun];have hev:=congrArg Prod.snd hst;have e1:=ze3 (o:=0) hnew (.int .u8 (cc:Int));have e2:=ze3 (o:=1) e1 (.int .i64 n);have e3:=ze3 (o:=2) e2 (.int .u64 (A.toNat:Int));have e4:=ze3 (o:=3) e3 (.int .u64 (B.toNat:Int));have hoth:∀ b,b≠w0.heap.size->((((w₁.setCell ⟨w0.heap.size,0,none⟩ (.int .u8 cc)).setCell ⟨w0.heap.size,1,none⟩ (.int .i64 n)).setCell ⟨w0.heap.size,2,none⟩ (.int .u64 A.toNat)).setCell ⟨w0.heap.size,3,none⟩ (.int .u64 B.toNat)).heap[b]?=w₁.heap[b]?:=fun b hb=>by
    rw [heap_setCell,if_neg (fun e=>hb e.symm),heap_setCell,if_neg (fun e=>hb e.symm),heap_setCell,if_neg (fun e=>hb e.symm),heap_setCell,if_neg (fun e=>hb e.symm)]
  have hsz:((((w₁.setCell ⟨w0.heap.size,0,none⟩ (.int .u8 cc)).setCell ⟨w0.heap.size,1,none⟩ (.int .i64 n)).setCell ⟨w0.heap.size,2,none⟩ (.int .u64 A.toNat)).setCell ⟨w0.heap.size,3,none⟩ (.int .u64 B.toNat)).heap.size=w₁.heap.size:=by simp only [zaQ]
  have hrest:∃ H,((((w₁.setCell ⟨w0.heap.size,0,none⟩ (.int .u8 cc)).setCell ⟨w0.heap.size,1,none⟩ (.int .i64 n)).setCell ⟨w0.heap.size,2,none⟩ (.int .u64 A.toNat)).setCell ⟨w0.heap.size,3,none⟩ (.int .u64 B.toNat))={ w₁ with heap:=H }:=⟨_,rfl⟩
  generalize hW:((((w₁.setCell ⟨w0.heap.size,0,none⟩ (.int .u8 cc)).setCell ⟨w0.heap.size,1,none⟩ (.int .i64 n)).setCell ⟨w0.heap.size,2,none⟩ (.int .u64 A.toNat)).setCell ⟨w0.heap.size,3,none⟩ (.int .u64 B.toNat))=W at *;have hKW:KA OB WB Inb n0 (w0.alloc (.cells (zgk cc n A B) 61)) W:=by
    refine⟨Array.ext_getElem? fun b=>?_,hK.low,by rw [zaM];omega⟩
    by_cases hb:b=w0.heap.size
    . rw [hb,e4,zbD];rfl
    . rw [hoth b hb,hK.heap,zbT,zbT,Array.getElem?_push,Array.getElem?_push,if_neg hb,if_neg hb]
  go_simp
  refine hK' _ _ ⟨⟨fun i s c hi hc=>hoth c fun e=>?_,fun a ha _=>za3 _ _ _ (hoth _ fun e=>?_),fun h=>absurd rfl h,Nat.le_of_eq hsz.symm,?_,fun e he=>?_⟩,?_⟩
  . have:=hK.low _ (.inr (.inr ⟨i,s,hi,hc⟩));omega
  . have:=hK.low _ (.inr (.inl ha));omega
  . obtain⟨H,rfl⟩:=hrest;rfl
  . have hm:=mem_listed he;simp [go_sem] at hm;have hm2:e∈((storeCells ⟨w0.heap.size,0,none⟩ [.int .u8 (cc:Int),.int .i64 n,.int .u64 (A.toNat:Int),.int .u64 (B.toNat:Int)]).runT Try.prog w₁ #[]).2:=hm.2;rw [hev] at hm2;have hb:w0.heap.size<W.heap.size:=by rw [hsz,hK.heap,zaM];omega
    have hw:¬ WB w0.heap.size:=fun z=>by have:=hK.low _ (.inr (.inl z));omega
    simp at hm2;rcases hm2 with rfl|rfl|rfl|rfl
    . exact .inr ⟨rfl,_,rfl,hb,fun _ z=>hw z.1,fun _=>rfl⟩
    . exact .inr ⟨rfl,_,rfl,hb,fun _ z=>hw z.1,fun _=>rfl⟩
    . exact .inr ⟨rfl,_,rfl,hb,fun _ z=>hw z.1,fun _=>rfl⟩
    . exact .inr ⟨rfl,_,rfl,hb,fun _ z=>hw z.1,fun _=>rfl⟩
  clear hK' K hev e1 e2 e3 e4 hst hrun hnew hoth hsz hrest hW;replace hK:=hKW;clear hKW;have htl:tb<w0.heap.size:=by obtain⟨_,_,_,hb,_⟩:=zaU h3;exact zab hb
  have h3':(w0.alloc (.cells (zgk cc n A B) 61)).cell? ⟨tb,3,none⟩=some z3:=(za3 _ _ _ (zaC _ _ _ htl)).trans h3;have hz':(w0.alloc (.cells (zgk cc n A B) 61)).frozen? ⟨tb,3,none⟩=false:=(zb9 _ _ _ (zaC _ _ _ htl)).trans hz;(refine Conc.Goes.step rfl (fun w₁ h₁=>?_);replace hK:=hK.rely h₁;clear h₁;rw [stepG_region_end];simp only [goes_go];refine⟨DO.none _,?_⟩);(refine Conc.Goes.step rfl (fun w₁ h₁=>?_);replace hK:=hK.rely h₁;clear h₁;rw [stepG_region];simp only [goes_go,List.size_toArray,List.length_cons,List.length_nil,Nat.reduceAdd,Nat.zero_add,List.range,List.range.loop];refine⟨DO.none _,?_⟩);(refine Conc.Goes.step rfl (fun w₁ h₁=>?_);replace hK:=hK.rely h₁;clear h₁;refine goes_oper_k rfl rfl (by decide) (fun K hK'=>?_);go_simp;refine hK' _ _ ⟨DO.quiet (fun e he=>(by have hm:=mem_listed he;simp [go_sem,Instr.makeInterface,Instr.makeFunc] at hm)),?_⟩;clear hK' K)
  (refine Conc.Goes.step rfl (fun w₁ h₁=>?_);replace hK:=hK.rely h₁;clear h₁;refine goes_oper_k rfl rfl (by decide) (fun K hK'=>?_);go_simp;refine hK' _ _ ⟨DO.quiet (fun e he=>(by have hm:=mem_listed he;simp [go_sem,Instr.makeInterface,Instr.makeFunc] at hm)),?_⟩;clear hK' K);(refine Conc.Goes.step rfl (fun w₁ h₁=>?_);replace hK:=hK.rely h₁;clear h₁;refine goes_oper_k rfl rfl (by decide) (fun K hK'=>?_);go_simp;refine hK' _ _ ⟨DO.quiet (fun e he=>(by have hm:=mem_listed he;simp [go_sem,Instr.makeInterface,Instr.makeFunc] at hm)),?_⟩;clear hK' K);refine Conc.Goes.step rfl (fun w₁ h₁=>?_);replace hK:=hK.rely h₁;clear h₁
  have hc3:=hK.cell h3';have hz3:w₁.frozen? ⟨tb,3,none⟩=false:=(zb9 _ _ _ (by rw [hK.heap])).trans hz'
  refine goes_oper_k rfl rfl (by decide) (fun K hK'=>?_)
  go_simp
  refine hK' _ _ ⟨hK.set_do (.inr ht) (fun e he=>(by have hm:=mem_listed he;simp [go_sem,zcd,storedEv,hc3,hz3] at hm;subst hm;exact zg2 ht.2 (by obtain⟨_,_,_,hb,_⟩:=zaU hc3;exact zab hb))),?_⟩
  clear hK' K hc3 hz3;replace hK:=hK.set (a:=⟨tb,3,none⟩) (v:=.pointer (some ⟨w0.heap.size,0,none⟩));(refine Conc.Goes.step rfl (fun w₁ h₁=>?_);replace hK:=hK.rely h₁;clear h₁;rw [stepG_region_end];simp only [goes_go];refine⟨DO.none _,?_⟩);(refine Conc.Goes.step rfl (fun w₁ h₁=>?_);replace hK:=hK.rely h₁;clear h₁;rw [stepG_inBlock];simp only [goes_go];refine⟨DO.none _,?_⟩);(refine Conc.Goes.step rfl (fun w₁ h₁=>?_);replace hK:=hK.rely h₁;clear h₁;rw [stepG_end];simp only [goes_go];refine⟨DO.none _,?_⟩);refine Conc.Goes.step rfl (fun w₁ h₁=>?_);replace hK:=hK.rely h₁;clear h₁;rw [stepG_leave rfl rfl Try.func31 (results_none Try.results31 _ _ _) (events_results_none Try.results31 _ _)];simp only [goes_go];refine⟨DO.none _,?_⟩;exact Conc.Goes.stop (fun w₁ h₁=>⟨rfl,hK.rely h₁⟩)
end
theorem zcF (P:Program) (w:World) (es:Array Event) (a:Addr) (m:Mode) (x:Bool):(store a (.bool x) m).events P w es=storedEv P w es a (.bool x) m:=events_store P w es a _ m rfl
section
variable {OB WB:Nat->Prop} {Inb:Nat->Option Seat}
set_option maxRecDepth 100000 in
theorem zq1 {n0:Nat} {w0 w:World} {tb wb dn ak:Nat} (hK:KA OB WB Inb n0 w0 w) (ht:(∀ i s,Inb i=some s->¬ s.has tb)/\¬ WB tb) {z4:Value} (h4:w0.cell? ⟨tb,4,none⟩=some z4) (hz:w0.frozen? ⟨tb,4,none⟩=false) (c0:Frame) (cs:List Frame) :
    Conc.Goes Try.prog true (Ro OB 0) (DO OB WB Inb 0) (fun g w'=>g=Go.Conc.G (c0.finish (.tuple #[])) cs/\KA OB WB Inb n0 (w0.setCell ⟨tb,4,none⟩ (.bool false)) w') 60 (zgg tb wb dn ak (.tuple #[.int .i64 1,.bool true,accZ,.nilIface]) (c0::cs)) w:=by
  simp only [zgg,zeX,zfF,zhL,cOps,cL,cR,Try.f31,Option.getD_some];(refine Conc.Goes.step rfl (fun w₁ h₁=>?_);replace hK:=hK.rely h₁;clear h₁;refine goes_oper_k rfl rfl (by decide) (fun K hK'=>?_);go_simp;refine hK' _ _ ⟨DO.quiet (fun e he=>(by have hm:=mem_listed he;simp [go_sem,Instr.makeInterface,Instr.makeFunc] at hm)),?_⟩;clear hK' K)
  (refine Conc.Goes.step rfl (fun w₁ h₁=>?_);replace hK:=hK.rely h₁;clear h₁;refine goes_oper_k rfl rfl (by decide) (fun K hK'=>?_);go_simp;refine hK' _ _ ⟨DO.quiet (fun e he=>(by have hm:=mem_listed he;simp [go_sem,Instr.makeInterface,Instr.makeFunc] at hm)),?_⟩;clear hK' K);(refine Conc.Goes.step rfl (fun w₁ h₁=>?_);replace hK:=hK.rely h₁;clear h₁;refine goes_oper_k rfl rfl (by decide) (fun K hK'=>?_);go_simp;refine hK' _ _ ⟨DO.quiet (fun e he=>(by have hm:=mem_listed he;simp [go_sem,Instr.makeInterface,Instr.makeFunc] at hm)),?_⟩;clear hK' K);(refine Conc.Goes.step rfl (fun w₁ h₁=>?_);replace hK:=hK.rely h₁;clear h₁;rw [stepG_region_end];simp only [goes_go];refine⟨DO.none _,?_⟩);(refine Conc.Goes.step rfl (fun w₁ h₁=>?_);replace hK:=hK.rely h₁;clear h₁;rw [stepG_block];simp only [goes_go];refine⟨DO.none _,?_⟩);(refine Conc.Goes.step rfl (fun w₁ h₁=>?_);replace hK:=hK.rely h₁;clear h₁;rw [stepG_cond (t:=false) rfl];simp only [goes_go,if_true,if_false,Bool.false_eq_true,↓reduceIte];refine⟨DO.none _,?_⟩);(refine Conc.Goes.step rfl (fun w₁ h₁=>?_);replace hK:=hK.rely h₁;clear h₁;rw [stepG_cond (t:=true) rfl];simp only [goes_go,if_true,if_false,Bool.false_eq_true,↓reduceIte];refine⟨DO.none _,?_⟩);(refine Conc.Goes.step rfl (fun w₁ h₁=>?_);replace hK:=hK.rely h₁;clear h₁;rw [stepG_seq];simp only [goes_go];refine⟨DO.none _,?_⟩);(refine Conc.Goes.step rfl (fun w₁ h₁=>?_);replace hK:=hK.rely h₁;clear h₁;rw [stepG_region];simp only [goes_go,List.size_toArray,List.length_cons,List.length_nil,Nat.reduceAdd,Nat.zero_add,List.range,List.range.loop];refine⟨DO.none _,?_⟩);(refine Conc.Goes.step rfl (fun w₁ h₁=>?_);replace hK:=hK.rely h₁;clear h₁;refine goes_oper_k rfl rfl (by decide) (fun K hK'=>?_);go_simp;refine hK' _ _ ⟨DO.quiet (fun e he=>(by have hm:=mem_listed he;simp [go_sem,Instr.makeInterface,Instr.makeFunc] at hm)),?_⟩;clear hK' K);(refine Conc.Goes.step rfl (fun w₁ h₁=>?_);replace hK:=hK.rely h₁;clear h₁;refine goes_oper_k rfl rfl (by decide) (fun K hK'=>?_);go_simp;refine hK' _ _ ⟨DO.quiet (fun e he=>(by have hm:=mem_listed he;simp [go_sem,Instr.makeInterface,Instr.makeFunc] at hm)),?_⟩;clear hK' K);(refine Conc.Goes.step rfl (fun w₁ h₁=>?_);replace hK:=hK.rely h₁;clear h₁;rw [stepG_region_end];simp only [goes_go];refine⟨DO.none _,?_⟩);(refine Conc.Goes.step rfl (fun w₁ h₁=>?_);replace hK:=hK.rely h₁;clear h₁;rw [stepG_seq];simp only [goes_go];refine⟨DO.none _,?_⟩);(refine Conc.Goes.step rfl (fun w₁ h₁=>?_);replace hK:=hK.rely h₁;clear h₁;rw [stepG_region];simp only [goes_go,List.size_toArray,List.length_cons,List.length_nil,Nat.reduceAdd,Nat.zero_add,List.range,List.range.loop];refine⟨DO.none _,?_⟩);(refine Conc.Goes.step rfl (fun w₁ h₁=>?_);replace hK:=hK.rely h₁;clear h₁;refine goes_oper_k rfl rfl (by decide) (fun K hK'=>?_);go_simp;refine hK' _ _ ⟨DO.quiet (fun e he=>(by have hm:=mem_listed he;simp [go_sem,Instr.makeInterface,Instr.makeFunc] at hm)),?_⟩;clear hK' K);(refine Conc.Goes.step rfl (fun w₁ h₁=>?_);replace hK:=hK.rely h₁;clear h₁;refine goes_oper_k rfl rfl (by decide) (fun K hK'=>?_);go_simp;refine hK' _ _ ⟨DO.quiet (fun e he=>(by have hm:=mem_listed he;simp [go_sem,Instr.makeInterface,Instr.makeFunc] at hm)),?_⟩;clear hK' K);(refine Conc.Goes.step rfl (fun w₁ h₁=>?_);replace hK:=hK.rely h₁;clear h₁;refine goes_oper_k rfl rfl (by decide) (fun K hK'=>?_);go_simp;refine hK' _ _ ⟨DO.quiet (fun e he=>(by have hm:=mem_listed he;simp [go_sem,Instr.makeInterface,Instr.makeFunc] at hm)),?_⟩;clear hK' K);refine Conc.Goes.step rfl (fun w₁ h₁=>?_);replace hK:=hK.rely h₁;clear h₁
  have hc3:=hK.cell h4;have hz3:w₁.frozen? ⟨tb,4,none⟩=false:=(zb9 _ _ _ (by rw [hK.heap])).trans hz
  refine goes_oper_k rfl rfl (by decide) (fun K hK'=>?_)
  go_simp
  refine hK' _ _ ⟨hK.set_do (.inr ht) (fun e he=>(by have hm:=mem_listed he;simp [go_sem,zcF,storedEv,hc3,hz3] at hm;subst hm;exact zg2 ht.2 (by obtain⟨_,_,_,hb,_⟩:=zaU hc3;exact zab hb))),?_⟩
  clear hK' K hc3 hz3;replace hK:=hK.set (a:=⟨tb,4,none⟩) (v:=.bool false);(refine Conc.Goes.step rfl (fun w₁ h₁=>?_);replace hK:=hK.rely h₁;clear h₁;rw [stepG_region_end];simp only [goes_go];refine⟨DO.none _,?_⟩);(refine Conc.Goes.step rfl (fun w₁ h₁=>?_);replace hK:=hK.rely h₁;clear h₁;rw [stepG_seq];simp only [goes_go];refine⟨DO.none _,?_⟩);(refine Conc.Goes.step rfl (fun w₁ h₁=>?_);replace hK:=hK.rely h₁;clear h₁;rw [stepG_region];simp only [goes_go,List.size_toArray,List.length_cons,List.length_nil,Nat.reduceAdd,Nat.zero_add,List.range,List.range.loop];refine⟨DO.none _,?_⟩);(refine Conc.Goes.step rfl (fun w₁ h₁=>?_);replace hK:=hK.rely h₁;clear h₁;refine goes_oper_k rfl rfl (by decide) (fun K hK'=>?_);go_simp;refine hK' _ _ ⟨DO.quiet (fun e he=>(by have hm:=mem_listed he;simp [go_sem,Instr.makeInterface,Instr.makeFunc] at hm)),?_⟩;clear hK' K)
  refine Conc.Goes.step rfl (fun w₁ h₁=>?_);replace hK:=hK.rely h₁;clear h₁;refine goes_oper_k rfl rfl (by decide) (fun K hK'=>?_)
  go_simp
  refine hK' _ _ ⟨DO.quiet (fun e he=>(by rw [zid (u:=.nilIface) (v:=.nilIface) rfl rfl rfl (zbS _) (zbS _) rfl] at he;simp at he)),?_⟩
  clear hK' K;(refine Conc.Goes.step rfl (fun w₁ h₁=>?_);replace hK:=hK.rely h₁;clear h₁;rw [stepG_region_end];simp only [goes_go];refine⟨DO.none _,?_⟩);(refine Conc.Goes.step rfl (fun w₁ h₁=>?_);replace hK:=hK.rely h₁;clear h₁;rw [stepG_cond (t:=false) rfl];simp only [goes_go,if_true,if_false,Bool.false_eq_true,↓reduceIte];refine⟨DO.none _,?_⟩);(refine Conc.Goes.step rfl (fun w₁ h₁=>?_);replace hK:=hK.rely h₁;clear h₁;rw [stepG_skip];simp only [goes_go];refine⟨DO.none _,?_⟩);(refine Conc.Goes.step rfl (fun w₁ h₁=>?_);replace hK:=hK.rely h₁;clear h₁;rw [stepG_inBlock];simp only [goes_go];refine⟨DO.none _,?_⟩);(refine Conc.Goes.step rfl (fun w₁ h₁=>?_);replace hK:=hK.rely h₁;clear h₁;rw [stepG_end];simp only [goes_go];refine⟨DO.none _,?_⟩);refine Conc.Goes.step rfl (fun w₁ h₁=>?_);replace hK:=hK.rely h₁;clear h₁;rw [stepG_leave rfl rfl Try.func31 (results_none Try.results31 _ _ _) (events_results_none Try.results31 _ _)];simp only [goes_go];refine⟨DO.none _,?_⟩;exact Conc.Goes.stop (fun w₁ h₁=>⟨rfl,hK.rely h₁⟩)
theorem znh (tb wb gr:Nat) (pb:Addr) (v:Value):(zdl tb wb gr pb v [1]).finish (.tuple #[])=(base 33).at ⟨(zoF tb wb gr pb v (pt tb)).set 23 (.tuple #[]),[]⟩ [.inRegion zeA [],.code zhE]:=by
  simp only [zdl,Frame.finish_at,zeA,zhE,zeU,zdn,cOps,cL,cR,Try.f33,Option.getD_some];rfl
set_option maxRecDepth 100000 in
theorem zoH {n0:Nat} {w0 w:World} {tb wb gr:Nat} {pb:Addr} {v:Value} (hK:KA OB WB Inb n0 w0 w) (c0:Frame) (cs:List Frame) :
    Conc.Goes Try.prog true (Ro OB 0) (DO OB WB Inb 0) (fun g w'=>g=Go.Conc.G (c0.finish (.bool true)) cs/\KA OB WB Inb n0 w0 w') 20 (Go.Conc.G ((zdl tb wb gr pb v [1]).finish (.tuple #[])) (c0::cs)) w:=by
  rw [znh];simp only [zeA,zhE,zeU,zdn,cOps,cL,cR,Try.f33,Option.getD_some];(refine Conc.Goes.step rfl (fun w₁ h₁=>?_);replace hK:=hK.rely h₁;clear h₁;rw [stepG_region_end];simp only [goes_go];refine⟨DO.none _,?_⟩);(refine Conc.Goes.step rfl (fun w₁ h₁=>?_);replace hK:=hK.rely h₁;clear h₁;rw [stepG_seq];simp only [goes_go];refine⟨DO.none _,?_⟩);(refine Conc.Goes.step rfl (fun w₁ h₁=>?_);replace hK:=hK.rely h₁;clear h₁;rw [stepG_region];simp only [goes_go,List.size_toArray,List.length_cons,List.length_nil,Nat.reduceAdd,Nat.zero_add,List.range,List.range.loop];refine⟨DO.none _,?_⟩);(refine Conc.Goes.step rfl (fun w₁ h₁=>?_);replace hK:=hK.rely h₁;clear h₁;refine goes_oper_k rfl rfl (by decide) (fun K hK'=>?_);go_simp;refine hK' _ _ ⟨DO.quiet (fun e he=>(by have hm:=mem_listed he;simp [go_sem,Instr.makeInterface,Instr.makeFunc] at hm)),?_⟩;clear hK' K)
  (refine Conc.Goes.step rfl (fun w₁ h₁=>?_);replace hK:=hK.rely h₁;clear h₁;rw [stepG_region_end];simp only [goes_go];refine⟨DO.none _,?_⟩);(refine Conc.Goes.step rfl (fun w₁ h₁=>?_);replace hK:=hK.rely h₁;clear h₁;rw [stepG_ret'];simp only [goes_go];refine⟨DO.none _,?_⟩);refine Conc.Goes.step rfl (fun w₁ h₁=>?_);replace hK:=hK.rely h₁;clear h₁
  rw [stepG_leave rfl rfl Try.func33 (results_tmp Try.results33 _ _ _) (events_results_tmp Try.results33 _ _)];simp only [goes_go];refine⟨DO.none _,?_⟩;exact Conc.Goes.stop (fun w₁ h₁=>⟨rfl,hK.rely h₁⟩)
end
structure KeepC (S S':St):Prop where
  thr:∀ (k:Nat) a b c d e f,S'[k]?=some (Ob.thr a b c d e f)->∃ f',S[k]?=some (Ob.thr a b c d e f')
  thr':∀ (k:Nat) a b c d e f,S[k]?=some (Ob.thr a b c d e f)->∃ f',S'[k]?=some (Ob.thr a b c d e f')
  wp:∀ (k:Nat) a b c d e,S'[k]?=some (Ob.wp a b c d e)↔S[k]?=some (Ob.wp a b c d e)
  box:∀ (k:Nat) c,S[k]?=some (Ob.box c)->S'[k]?=some (Ob.box c)
theorem KeepC.refl (S:St):KeepC S S:=⟨fun _ _ _ _ _ _ f h=>⟨f,h⟩,fun _ _ _ _ _ _ f h=>⟨f,h⟩,fun _ _ _ _ _ _=>Iff.rfl,fun _ _ h=>h⟩
theorem KeepC.trans {A B C:St} (h:KeepC A B) (h':KeepC B C):KeepC A C :=
  ⟨fun k a b c d e f x=>by obtain⟨f',y⟩:=h'.thr _ _ _ _ _ _ _ x;exact h.thr _ _ _ _ _ _ _ y,fun k a b c d e f x=>by obtain⟨f',y⟩:=h.thr' _ _ _ _ _ _ _ x;exact h'.thr' _ _ _ _ _ _ _ y,fun k a b c d e=>(h'.wp k a b c d e).trans (h.wp k a b c d e),fun k c x=>h'.box k c (h.box k c x)⟩
def zio:Ob->Bool
  | .mem _ _|.port _ _ _|.acc _ _ _ _=>true
  | _=>false
theorem KeepC.set {S:St} {k:Nat} {o o':Ob} (h:S[k]?=some o) (ho:zio o=true) (ho':zio o'=true):KeepC S (S.set k o'):=by
  have hk:=zaG h;have e:∀ i,(S.set k o')[i]?=if k=i then some o' else S[i]?:=fun i=>by
    rw [List.getElem?_set];split
    . rename_i e;subst e;simp [hk]
    . rfl
  refine⟨fun i a b c d x f z=>?_,fun i a b c d x f z=>?_,fun i a b c d x=>?_,fun i c z=>?_⟩
  . rw [e] at z;split at z
    . cases z;cases ho'
    . exact⟨f,z⟩
  . rw [e];split
    . rename_i w;subst w;rw [h] at z;cases z;cases ho
    . exact⟨f,z⟩
  . rw [e];split
    . rename_i w;subst w;rw [h];constructor<;>intro z<;>cases z
      . cases ho'
      . cases ho
    . exact Iff.rfl
  . rw [e];split
    . rename_i w;subst w;rw [h] at z;cases z;cases ho
    . exact z
theorem KeepC.push {S:St} {o:Ob} (ho:zio o=true):KeepC S (S++[o]):=by
  have e:∀ i,(S++[o])[i]?=if i<S.length then S[i]? else if i=S.length then some o else none:=fun i=>by
    rw [List.getElem?_append];split
    . rfl
    . split
      . rename_i e;subst e;simp
      . rw [List.getElem?_eq_none];simp;omega
  refine⟨fun i a b c d x f z=>?_,fun i a b c d x f z=>?_,fun i a b c d x=>?_,fun i c z=>?_⟩
  . rw [e] at z;split at z
    . exact⟨f,z⟩
    . split at z
      . cases z;cases ho
      . cases z
  . rw [e,if_pos (zaG z)];exact⟨f,z⟩
  . rw [e];split
    . exact Iff.rfl
    . rename_i hn;split
      . rw [List.getElem?_eq_none (by omega)];constructor<;>intro z<;>cases z
        cases ho
      . rw [List.getElem?_eq_none (by omega)]
  . rw [e,if_pos (zaG z)];exact z
theorem KeepC.pend {S:St} {k:Nat} {a b c d e f} (h:S[k]?=some (Ob.thr a b c d e f)) (f':Option Nat):KeepC S (S.set k (.thr a b c d e f')):=by
  have hk:=zaG h;have e:∀ i,(S.set k (.thr a b c d e f'))[i]?=if k=i then some (.thr a b c d e f') else S[i]?:=fun i=>by
    rw [List.getElem?_set];split
    . rename_i e;subst e;simp [hk]
    . rfl
  refine⟨fun i a b c d x f z=>?_,fun i a b c d x f z=>?_,fun i a b c d x=>?_,fun i c z=>?_⟩
  . rw [e] at z;split at z
    . rename_i w;subst w;cases z;exact⟨_,h⟩
    . exact⟨f,z⟩
  . rw [e];split
    . rename_i w;subst w;rw [h] at z;cases z;exact⟨_,rfl⟩
    . exact⟨f,z⟩
  . rw [e];split
    . rename_i w;subst w;rw [h];constructor<;>intro z<;>cases z
    . exact Iff.rfl
  . rw [e];split
    . rename_i w;subst w;rw [h] at z;cases z
    . exact z
section
variable {p:Par} {Su:SuT} {S S':St} {F:Emb} {N C:Nat} {Inb:Nat->Option Seat} {gs:Array Goroutine} {w:World} {T:Trace}
theorem KeepC.ch (h:KeepC S S') {k s c:Nat} (z:ChS S' k s c):ChS S k s c:=by
  cases z with
  | quit z=>obtain⟨_,z⟩:=h.thr _ _ _ _ _ _ _ z;exact .quit z
  | done z=>obtain⟨_,z⟩:=h.thr _ _ _ _ _ _ _ z;exact .done z
  | ask z=>exact .ask ((h.wp _ _ _ _ _ _).1 z)
  | grant z=>exact .grant ((h.wp _ _ _ _ _ _).1 z)
theorem Com.keep (k:KeepC S S') (hC:S'.length<=C) (H:Com p Su S F N C Inb gs w T):Com p Su S' F N C Inb gs w T:=by
  have t:=H.tab;refine⟨H.ring,⟨fun b=>?_,fun b=>?_,fun a s c a' s' h1 h2=>t.dist _ _ _ _ _ (k.ch h1) (k.ch h2),fun a s c h=>t.far _ _ _ (k.ch h),t.olow,fun i a b c d e h=>?_,fun i a b c d e h=>?_⟩,H.main,fun i se hi=>?_,fun i a b c d e f g h=>?_,H.n0,hC⟩
  . rw [t.obs b];constructor
    . rintro ⟨i,a1,a2,a3,a4,a5,a6,a7,a8⟩;obtain⟨f,z⟩:=k.thr' _ _ _ _ _ _ _ a7;exact⟨i,a1,a2,a3,a4,a5,f,z,a8⟩
    . rintro ⟨i,a1,a2,a3,a4,a5,a6,a7,a8⟩;obtain⟨f,z⟩:=k.thr _ _ _ _ _ _ _ a7;exact⟨i,a1,a2,a3,a4,a5,f,z,a8⟩
  . rw [t.wbs b];constructor
    . rintro ⟨i,a1,a2,a3,a4,a5,a7,a8⟩;exact⟨i,a1,a2,a3,a4,a5,(k.wp _ _ _ _ _ _).2 a7,a8⟩
    . rintro ⟨i,a1,a2,a3,a4,a5,a7,a8⟩;exact⟨i,a1,a2,a3,a4,a5,(k.wp _ _ _ _ _ _).1 a7,a8⟩
  . obtain⟨_,z⟩:=k.thr _ _ _ _ _ _ _ h;exact t.quit _ _ _ _ _ _ z
  . obtain⟨_,z⟩:=k.thr _ _ _ _ _ _ _ h;obtain⟨h1,hp,gid,dn,ws,st,ak,gr,h2,h3,h4,h5,h6,h7,h8,h9⟩:=t.busy _ _ _ _ _ _ z;exact⟨h1,hp,gid,dn,ws,st,ak,gr,h2,(k.wp _ _ _ _ _ _).2 h3,h4,h5,h6,h7,h8,k.box _ _ h9⟩
  . obtain⟨h1,h2,h3⟩:=H.seats i se hi;refine⟨h1,h2,fun h0=>?_⟩;obtain⟨j,a1,a2,a3,a4,a5,a6,a7,a8⟩:=h3 h0;obtain⟨f,z⟩:=k.thr' _ _ _ _ _ _ _ a8;exact⟨j,a1,a2,a3,a4,a5,f,a7,z⟩
  . obtain⟨_,z⟩:=k.thr _ _ _ _ _ _ _ h;obtain⟨h1,h2⟩:=H.waits _ _ _ _ _ _ _ _ z;refine⟨h1,fun hne=>?_⟩;obtain⟨ws,st,ak,gr,ab,x,y,cs,h3,h4,h5⟩:=h2 hne;exact⟨ws,st,ak,gr,ab,x,y,cs,(k.wp _ _ _ _ _ _).2 h3,h4,h5⟩
theorem Com.su {Su':SuT} (H:Com p Su S F N C Inb gs w T) (h:∀ (k:Nat) self quit closed hp gid dn pend ob g,S[k]?=some (Ob.thr self quit closed true (some (hp,gid,dn)) pend)->p.run≠some k->Su F N C k hp ob g->Su' F N C k hp ob g):Com p Su' S F N C Inb gs w T:=by
  refine⟨H.ring,H.tab,H.main,H.seats,fun i a b c d e f g z=>?_,H.n0,H.c0⟩;obtain⟨h1,h2⟩:=H.waits i a b c d e f g z;refine⟨h1,fun hne=>?_⟩;obtain⟨ws,st,ak,gr,ab,x,y,cs,h3,h4,h5⟩:=h2 hne;exact⟨ws,st,ak,gr,ab,x,y,cs,h3,h4,h _ _ _ _ _ _ _ _ _ _ z hne h5⟩
end
section
variable (hok:∀ mn OB WB,zau mn OB WB)
variable {Γ:Type} (Pr:Proto Γ)
def ClM (n00:Nat) (w00:World) (_:Unit) (_:Γ × St) (p:Par):Prop:=p.h=0/\p.run=none/\p.seat0=none/\(∀ x,¬ p.PX x)/\p.n0=n00/\p.w0=w00
def SuM (_:Unit) (γ:Γ):SuT:=fun F1 N1 C1 i hp ob g=>∃ (q:Pr.Ph) (F0:Emb) (n0 c0 n:Nat),Pr.ph γ i=some q/\Same (Kn n0 c0) F0 F1/\n0<=N1/\c0<=C1/\Pr.fuel γ<=n/\BSusp hok Pr F0 n0 c0 n i hp ob q g
theorem SuM.mono (u:Unit) (γ:Γ):zcN (SuM hok Pr u γ):=by
  rintro F N C F' N' C' k hp ob g ⟨q,F0,n0,c0,n,h1,h2,h3,h4,h5,h6⟩ hF hN hC;exact⟨q,F0,n0,c0,n,h1,h2.trans (hF.mono fun x hx=>hx.mono h3 h4),by omega,by omega,h5,h6⟩
variable {Pr}
theorem SuM.step {u:Unit} {γ γ':Γ} {k:Nat} (hph:∀ i,i≠k->Pr.ph γ' i=Pr.ph γ i) (hf:Pr.fuel γ'<=Pr.fuel γ) {F:Emb} {N C i hp:Nat} {ob:Ob} {g:Goroutine} (hi:i≠k) (h:SuM hok Pr u γ F N C i hp ob g):SuM hok Pr u γ' F N C i hp ob g:=by
  obtain⟨q,F0,n0,c0,n,h1,h2,h3,h4,h5,h6⟩:=h;exact⟨q,F0,n0,c0,n,by rw [hph i hi];exact h1,h2,h3,h4,by omega,h6⟩
end
end Go.Proofs.Ytjhmhoapgbfgpaa
