/-
  The abstract machine, part 6: what an operation does, in whatever world it comes.
  No condition: laws.
-/
import Derived.Test.YtgndgbnhkoppmaaUCo2
set_option maxHeartbeats 40000000
set_option linter.unusedVariables false
set_option linter.unusedSimpArgs false
namespace Go.Proofs.Ytgndgbnhkoppmaa
open Go Go.RowKit Go.Conc
def Emb.comp (F E:Emb):Emb:=⟨fun n=>F.blk (E.blk n),fun n=>F.base (E.blk n)+E.base n,fun n=>E.slack n+F.slack (E.blk n)⟩
theorem zch (F E:Emb):∀ v:Value,ren F (ren E v)=ren (F.comp E) v
  | .pointer (some a)=>by simp [adr,Emb.comp,Nat.add_assoc]
  | .pointer none=>by simp
  | .slice (some a) n c=>by simp [adr,Emb.comp,Nat.add_assoc]
  | .slice none n c=>by simp
  | .iface t v=>by simp [zch F E v]
  | .agg cs=>by
    simp only [zco,Array.map_map];congr 1;exact Array.map_congr_left fun x hx=>zch F E x
  | .tuple cs=>by
    simp only [zcQ,Array.map_map];congr 1;exact Array.map_congr_left fun x hx=>zch F E x
  | .func fn xs ys=>by
    simp only [zbx,Array.map_map];congr 1
    . exact Array.map_congr_left fun x hx=>zch F E x
    . exact Array.map_congr_left fun x hx=>zch F E x
  | .bool b=>by simp
  | .int k n=>by simp
  | .float k n=>by simp [ren]
  | .complex k n m=>by simp [ren]
  | .string s=>by simp
  | .map r=>by simp [ren]
  | .chan r=>by simp [ren]
  | .nilFunc=>by simp
  | .nilIface=>by simp
termination_by v=>SizeOf.sizeOf v
decreasing_by all_goals (simp_wf;first|omega|(have:=Array.sizeOf_lt_of_mem hx;omega))
section
variable {P:Program} {σ:Type} {X:Face P σ}
theorem zlJ {b:Frame} {a:Act} {ops:Array Oper} {i:Nat} {rest:List Nat} {k:List Item} {cs:List Frame} {w w1:World} {o:Oper} {f:FuncId} {args:Array Value} {R:Ending->World->Prop} {Q:Value->World->Prop} (hk:b.kind=.normal) (ho:ops[i]?=some o) (hw:Region.wanted o (yielded ops a.tmps)=true)
    (ht:Tame P (execOp a.eval o)) (hr:(execOp a.eval o).run P w=.ok (.enter f args) w1) (hc:TCalls P f args w1 R) (hR:∀ e w',R e w'->∃ v,e=.returned v/\Q v w') :
    ∃ v w',Q v w'/\XSt P (G (b.at a (.inRegion ops (i::rest)::k)) cs) w (G (b.at (a.put o.dst v) (.inRegion ops rest::k)) cs) w':=by
  obtain⟨e,w'',fr,hq,hsteps,_,hleave⟩:=hc (b.at a (.inRegion ops (i::rest)::k)::cs);obtain⟨v,rfl,hq2⟩:=hR _ _ hq;have hfin:(b.at a (.inRegion ops (i::rest)::k)).finish v=b.at (a.put o.dst v) (.inRegion ops rest::k):=by
    rw [Frame.finish_at,ho];rfl
  refine⟨v,w'',hq2,.head (zld ho hw (by rw [hk];decide) ht hr) (XSt.trans hsteps (.one ?_))⟩
  rw [<-hfin];exact znv hleave
def OpWp (P:Program) (o:Oper) (ρ:Operand->Value) (w:World) (Q:Value->World->Prop):Prop:=Tame P (execOp ρ o)/\(
  (∃ u w',((execOp ρ o).run P w=.ok (.value u) w'\/((execOp ρ o).run P w=.ok .skip w'/\u=undef))/\Q u w') \/
  (∃ f args w1,(execOp ρ o).run P w=.ok (.enter f args) w1/\TCalls P f args w1 fun en w'=>∃ u,en=.returned u/\Q u w'))
theorem OpWp.mono {o:Oper} {ρ:Operand->Value} {w:World} {Q Q':Value->World->Prop} (h:OpWp P o ρ w Q) (hq:∀ u w',Q u w'->Q' u w'):OpWp P o ρ w Q':=by
  rcases h with ⟨ht,⟨u,w',hr,h'⟩|⟨f,args,w1,hr,h'⟩⟩
  . exact⟨ht,.inl ⟨u,w',hr,hq _ _ h'⟩⟩
  . exact⟨ht,.inr ⟨f,args,w1,hr,h'.mono (by rintro en w' ⟨u,rfl,h2⟩;exact⟨u,rfl,hq _ _ h2⟩)⟩⟩
theorem OpWp.congr {o:Oper} {ρ ρ':Operand->Value} {w:World} {Q:Value->World->Prop} (h:OpWp P o ρ w Q) (he:execOp ρ' o=execOp ρ o):OpWp P o ρ' w Q:=by
  unfold OpWp at h ⊢;rw [he];exact h
theorem OpWp.steps {b:Frame} {a:Act} {ops:Array Oper} {i:Nat} {rest:List Nat} {k:List Item} {cs:List Frame} {w:World} {o:Oper} {Q:Value->World->Prop} (hk:b.kind=.normal) (ho:ops[i]?=some o) (hw:Region.wanted o (yielded ops a.tmps)=true) (h:OpWp P o a.eval w Q) :
    ∃ v w',Q v w'/\XSt P (G (b.at a (.inRegion ops (i::rest)::k)) cs) w (G (b.at (a.put o.dst v) (.inRegion ops rest::k)) cs) w':=by
  rcases h with ⟨ht,⟨u,w',hr,h'⟩|⟨f,args,w1,hr,h'⟩⟩
  . rcases hr with hr|⟨hr,rfl⟩
    . exact⟨u,w',h',.one (zlB hk ho hw ht hr)⟩
    . exact⟨undef,w',h',.one (zmD hk ho hw ht hr)⟩
  . exact zlJ hk ho hw ht hr h' (fun en w' h=>h)
def KAdd (K:Nat->Prop) (n m c c':Nat) (x:Nat):Prop:=K x\/(n<=x/\x<m)\/(VB+c<=x/\x<VB+c')
def OpSem (X:Face P σ) (o:Oper) (e:Operand->Value) (h:AHeap) (S:σ) (v:Value) (h':AHeap) (S':σ):Prop :=
  h.next<=h'.next/\X.cnt S<=X.cnt S'/\(∀ n b,h.next<=n->h'.get n=some b->(∀ m c,h.get m=some c->m<h.next)->b.ro=false)/\∀ (K:Nat->Prop) (F:Emb) (w0 w:World) (M:Nat->Prop) (ρ:Operand->Value),(∀ x,h.next<=x->x<h'.next->¬ K x/\x<VB)->(∀ x∈o.op.operands,ρ x=ren F (e x)) ->
    AInv X F w0 M K (fun v=>∃ x∈o.op.operands,v=e x) h S w->OpWp P o ρ w fun u w'=>∃ F',u=ren F' v/\Same K F F'/\AInv X F' w0 M (KAdd K h.next h'.next (X.cnt S) (X.cnt S')) (fun x=>x=v) h' S' w'
theorem zng {K:Nat->Prop} {n c:Nat} {x:Nat} (h:KAdd K n n c c x):K x:=by
  rcases h with h|h|h
  . exact h
  . omega
  . omega
theorem zrP {e:Operand->Value} {h:AHeap} {n:Nat} {o:Op} {v:Value} {ob:Option Blk} (hv:newA P e h n o=some (v,ob)):∀ b,ob=some b->b.ro=false:=by
  intro b hb;subst hb;unfold newA endA at hv
  repeat' split at hv
  all_goals first
    | (cases hv;done)
    | (cases hv;rfl)
    | (cases hf:zfJ _ _ _ with
        | none=>rw [hf] at hv;cases hv
        | some cs=>rw [hf] at hv;cases hv;rfl)
theorem zsi {e:Operand->Value} {h h':AHeap} {o:Op} {v:Value} (hv:wrA P e h o=some (v,h')) (hl:∀ m c,h.get m=some c->m<h.next):∀ n b,h.next<=n->h'.get n=some b->b.ro=false:=by
  intro n b hn hb;unfold wrA at hv
  repeat' split at hv
  all_goals first
    | (cases hv;done)
    | (cases hv;have:=hl n b hb;omega)
    | (cases hv;rw [AHeap.addO_get] at hb;split at hb;(cases hb;rfl);rw [AHeap.putO_get] at hb;split at hb;cases hb;have:=hl n b hb;omega)
    | (cases hv;rw [AHeap.put_get] at hb;split at hb;(rename_i he;have:=hl _ _ ‹h.get _=some _›;omega);have:=hl n b hb;omega)
    | (rename_i a _;cases hs':zdV P h _ a _ with
        | none=>rw [hs'] at hv;cases hv
        | some h1 =>
          rw [hs'] at hv;cases hv;obtain⟨b0,s,hb0,_,_,_,_,_,_,rfl⟩:=zb0 hs';rw [AHeap.put_get] at hb;split at hb
          . rename_i he;have:=hl _ _ hb0;omega
          . have:=hl n b hb;omega)
theorem zgI {o:Oper} {e:Operand->Value} {h h':AHeap} {S S':σ} {v:Value} (H:Op0 X o e h S v h' S'):OpSem X o e h S v h' S':=by
  rcases H with ⟨hv,rfl,rfl⟩|⟨ob,hv,rfl,rfl⟩|⟨hv,rfl⟩|⟨f,g,args,hca,hf,hg,hp,rfl⟩
  . refine⟨Nat.le_refl _,Nat.le_refl _,fun n b hn hb hl=>(by have:=hl n b hb;omega),fun K F w0 w M ρ hn hρ I=>⟨zoF I.holds hρ hv,.inl ⟨ren F v,w,.inl (zin I.holds hρ hv),F,rfl,Same.refl _ _,(I.vals' ?_).kmono (fun x hx=>.inl hx) (fun x hx=>I.klim x (zng hx))⟩⟩⟩
    rintro _ rfl F' hs;have h1:=zin (P:=P) I.holds hρ hv;have h2:=zin (P:=P) (ρ:=ρ) (I.holds.same (fun n b hb=>(I.hk n b hb).1) I.hst hs) (fun x hx=>by rw [hρ x hx,I.vst _ ⟨x,hx,rfl⟩ F' hs]) hv
    rw [h1] at h2;simpa using h2.symm
  . refine⟨Nat.le_succ _,Nat.le_refl _,fun n b hn hb hl=>?_,fun K F w0 w M ρ hn hρ I=>?_⟩
    . rw [AHeap.addO_get] at hb;split at hb
      . exact zrP hv b hb
      . have:=hl n b hb;omega
    have hnew:=hn h.next (Nat.le_refl _) (Nat.lt_succ_self _);obtain⟨u,w',bk,bs,sl,hr,hu,hw⟩:=zk5 (P:=P) (ρ:=ρ) I.holds hρ hv;have hcells:∀ b,ob=some b->∀ c∈b.cells,Stab K F c:=by
      rintro b rfl c hc;intro F' hs;obtain⟨u',w'',bk',bs',sl',hr',hu',hw'⟩:=zk5 (P:=P) (ρ:=ρ) (I.holds.same (fun n b hb=>(I.hk n b hb).1) I.hst hs) (fun x hx=>by rw [hρ x hx,I.vst _ ⟨x,hx,rfl⟩ F' hs]) hv
      rw [hr] at hr';simp only [Result.ok.injEq,Next.value.injEq] at hr';rcases hw with ⟨h0,_⟩|⟨b1,post,h0,_,_,_,hg,_⟩
      . cases h0
      . cases h0;rcases hw' with ⟨h0,_⟩|⟨b1,post',h0,_,_,_,hg',_⟩
        . cases h0
        . cases h0;rw [<-hr'.2] at hg';have h3:=hg.heap.symm.trans hg'.heap;have h4:(b.cells.map (ren F)).toArray++post=(b.cells.map (ren F')).toArray++post':=by
            have:=congrArg (fun A:Array Obj=>A[w.heap.size]?) h3;simpa using this
          obtain⟨i,hi,rfl⟩:=List.mem_iff_getElem.1 hc;have h5:=congrArg (fun A:Array Value=>A[i]?) h4;simp only [Array.getElem?_append,List.size_toArray,List.length_map,hi,if_true,List.getElem?_toArray,List.getElem?_map,List.getElem?_eq_getElem hi,Option.map_some,Option.some.injEq] at h5;exact h5.symm
    have I':=I.add (n:=h.next) hnew.1 hnew.2 (h':=h.addO ob) (ob:=ob) (bk:=bk) (bs:=bs) (sl:=sl) (fun m=>rfl) hcells hw;obtain⟨e1,e2,e3⟩:=F.set_at h.next bk bs sl;refine⟨zno hv,.inl ⟨u,w',.inl hr,F.set h.next bk bs sl,(hu _ e1 e2 e3).symm,F.set_same hnew.1,(I'.kmono (fun x hx=>?_) (fun x hx=>?_)).vals' ?_⟩⟩
    . rcases hx with hx|rfl
      . exact .inl hx
      . exact .inr (.inl ⟨Nat.le_refl _,Nat.lt_succ_self _⟩)
    . rcases hx with hx|hx|hx
      . exact I.klim x hx
      . have:x<h.next+1:=hx.2;have:=hnew.2;omega
      . omega
    . rintro _ rfl F' hs;have:=hs h.next (.inr (.inl ⟨Nat.le_refl _,Nat.lt_succ_self _⟩));rw [hu _ e1 e2 e3];exact hu F' (by rw [<-this.1,e1]) (by rw [<-this.2.1,e2]) (by rw [<-this.2.2,e3])
  . have hle:h.next<=h'.next:=zqk hv;refine⟨hle,Nat.le_refl _,fun n b hn hb hl=>zsi hv hl n b hn hb,fun K F w0 w M ρ hn hρ I=>?_⟩;obtain⟨u,w',hr,hW⟩:=zrO (P:=P) (ρ:=ρ) I.holds hρ hv;obtain⟨_,F',hu,hs,I'⟩:=I.wrote' (fun x hx=>I.vst _ ⟨x,hx,rfl⟩) hW hn;refine⟨zo0 hv,.inl ⟨u,w',hr,F',hu,hs,I'.kmono (fun x hx=>?_) (fun x hx=>?_)⟩⟩
    . rcases hx with hx|hx
      . exact .inl hx
      . exact .inr (.inl hx)
    . rcases hx with hx|hx|hx
      . exact I.klim x hx
      . have:=(hn x hx.1 hx.2).2;omega
      . omega
  . obtain⟨hcn,zim⟩:=X.prim_hand f args S v S' hp;refine⟨Nat.le_refl _,hcn,fun n b hn hb hl=>(by have:=hl n b hb;omega),fun K F w0 w M ρ hn hρ I=>?_⟩
    unfold goB at hg;rw [Bool.and_eq_true] at hg;have hrun:=zd1 (P:=P) (ρ:=ρ) (F:=F) (w:=w) hρ hca hf hg.1 (by simpa using hg.2)
    refine⟨zb8 (zdl hρ hca hf hg.1 (by simpa using hg.2)),.inr ⟨f,_,w,hrun,(X.prim_ok f args S v S' F w hp I.rep).mono ?_⟩⟩
    rintro en w' ⟨F',hs0,rfl,hrep,hkept,hfp⟩;have hs:Same K F F':=hs0.mono (fun x hx=>I.klim x hx);have I1:=I.same hs;have he:∀ n b,h'.get n=some b->F'.blk n=F.blk n:=fun n b hb=>(hs n (I.hk n b hb).1).1.symm;have hK:∀ x,K x->KAdd K h'.next h'.next (X.cnt S) (X.cnt S') x:=fun x hx=>.inl hx;refine⟨_,rfl,F',rfl,hs,I1.holds.kept (fun n b hb=>by rw [he n b hb];exact hkept.block _ (I.holds.blk_lt hb) (I.sep n b hb)),hrep,?_,fun n b hb v hv=>(I1.hst n b hb v hv).move (Same.refl _ _) hK,fun n b hb=>⟨.inl (I.hk n b hb).1,(I.hk n b hb).2⟩,fun n h1 h2=>?_,fun x hx=>?_,I.kept.trans hkept (fun b hb hf=>I.fown b hf hb),I1.own,fun b hb hx=>?_,fun n b hb hx=>?_⟩
    . rintro _ rfl;exact Clo.stab (fun G G' hG=>zim G G' (hG.mono (fun n hn=>by
        by_cases h:n<VB+X.cnt S
        . exact .inl (I.hand n hn.1 h)
        . exact .inr (.inr ⟨by omega,hn.2⟩)))) F'
    . by_cases h:n<VB+X.cnt S
      . exact .inl (I.hand n h1 h)
      . exact .inr (.inr ⟨by omega,h2⟩)
    . rcases hx with hx|hx|hx
      . have:=I.klim x hx;omega
      . omega
      . omega
    . rcases hfp b hb with hb|hb
      . exact I.fown b hb hx
      . have:=I.kept.size;omega
    . rw [he n b hb] at hx;rcases hfp _ hx with hx|hx
      . exact I.sep n b hb hx
      . have:=I.holds.blk_lt hb;omega
def Simul (X:Face P σ) (fn:Func) (A:Conf σ->Prop) (c:Conf σ):Prop :=
  ∀ (b:Frame) (cs:List Frame) (F:Emb) (w0 w:World) (M:Nat->Prop) (m:Goroutine),P.funcs[b.fn]?=some fn->b.kind=.normal->zc5 P F b cs c w m->InvC X F w0 M c w ->
    ∃ c' F' w' m',A c'/\XSt P m w m' w'/\zc5 P F' b cs c' w' m'/\InvC X F' w0 M c' w'/\Same (Kn (heap c).next (X.cnt (st c))) F F'/\X.cnt (st c)<=X.cnt (st c')/\(heap c).next<=(heap c').next
theorem zhk {f:FuncId} {g:Func} {c:Code} {zs:Array Value} {hc h1:AHeap} {S S':σ} {v:Value} {F:Emb} {w:World} {M:Nat->Prop} (hf:P.funcs[f]?=some g) (hbody:g.body=some c)
    (hrun:Simul X g (fun x=>x=.done v h1 S') (.run (zag g c zs).1 (zag g c zs).2 hc S)) (I:AInv X F w M (Kn hc.next (X.cnt S)) (fun u=>u∈(zag g c zs).2) hc S w) (hl:hc.next<=VB) :
    TCalls P f (zs.map (ren F)) w fun e w'=>∃ F',e=.returned (ren F' v)/\AInv X F' w M (Kn h1.next (X.cnt S')) (fun u=>u∈[v]) h1 S' w'/\Same (Kn hc.next (X.cnt S)) F F'/\X.cnt S<=X.cnt S'/\hc.next<=h1.next:=by
  intro cs
  let b:Frame:={ (default:Frame) with fn:=f,kind:=.normal }
  have henter:Frame.enter P f (zs.map (ren F)) .normal=b.at (actF F (zag g c zs).2) (zag g c zs).1:=by
    simp [Frame.enter,Frame.at,hf,hbody,b,actF,zag,zaS]
  obtain⟨c',F',w',m',hA,hst,hS,hI,hs,hcn,hnx⟩:=hrun b cs F w w M _ hf rfl rfl ⟨I,hl⟩;subst hA;obtain⟨fr,rfl,hfn,hleave⟩:=hS;exact⟨.returned (ren F' v),w',fr,⟨F',rfl,hI.1,hs,hcn,hnx⟩,by rw [henter];exact hst,hfn,hleave⟩
theorem zpx {E F:Emb} {h hc:AHeap} {S:σ} {w0 w:World} {M K:Nat->Prop} {vs vs':Value->Prop} (I:AInv X F w0 M K vs h S w) (L:zsx (X.cnt S) E h hc) (hv:∀ v,vs' v->Clo (Kn hc.next (X.cnt S)) v) :
    AInv X (F.comp E) w (fun b=>X.fp F S b\/∃ n b0,hc.get n=some b0/\b0.ro=false/\(F.comp E).blk n=b) (Kn hc.next (X.cnt S)) vs' hc S w:=by
  have hsr:Same (fun n=>VB<=n/\n<VB+X.cnt S) F (F.comp E):=fun n hn=>by
    obtain⟨e1,e2,e3⟩:=L.hand n hn.1;simp [Emb.comp,e1,e2,e3]
  have hrs:=X.rep_same F (F.comp E) S w hsr I.rep;have hro:∀ n b,hc.get n=some b->b.ro=false->∃ b0,h.get (E.blk n)=some b0/\b0.ro=false:=fun n b hb hr=>by
    obtain⟨b0,h0,_,h2|h2⟩:=L.row n b hb
    . exact⟨b0,h0,h2.2.2.2.2 hr⟩
    . rw [h2.1] at hr;cases hr
  refine⟨⟨?_,?_⟩,hrs.1,fun v h=>(hv v h).stab _,fun n b hb u hu=>(L.clo n b hb u hu).stab _,fun n b hb=>⟨.inl (L.low n b hb),by have:=L.low n b hb;have:=L.lim;omega⟩,fun n h1 h2=>.inr ⟨h1,h2⟩,fun n hn=>?_,Kept.refl _ _,fun n b hb hr _=>.inr ⟨n,b,hb,hr,rfl⟩,fun b hb _=>.inl (hrs.2 b hb),?_⟩
  . intro n b hb;obtain⟨b0,h0,he,hcase⟩:=L.row n b hb;obtain⟨pre,post,fr,r1,r2,r3,r4,r5⟩:=I.holds.row _ _ h0;rcases hcase with ⟨hcs,hbs,hsl,hgr,hrw⟩|⟨hr,hgr,l,r,hcs,hl⟩
    . refine⟨pre,post,fr,?_,by simp only [Emb.comp,hbs,Nat.add_zero];exact r2,fun h=>r3 (hrw h),fun h=>?_,fun s h=>?_⟩
      . show w.heap[F.blk (E.blk n)]?=_;rw [r1,he,hcs,List.map_map];congr 5;exact List.map_congr_left fun u _=>zch F E u
      . rcases hgr with hgr|hgr
        . simp only [Emb.comp,hsl,Nat.zero_add];exact r4 (hgr ▸ h)
        . rw [hgr] at h;cases h
      . rcases hgr with hgr|hgr
        . simp only [Emb.comp,hsl,Nat.zero_add];exact r5 s (hgr ▸ h)
        . rw [hgr] at h;cases h
    . refine⟨pre++(l.map (ren F)).toArray,(r.map (ren F)).toArray++post,fr,?_,?_,fun h=>(by rw [hr] at h;cases h),fun h=>(by rw [hgr] at h;cases h),fun s h=>(by rw [hgr] at h;cases h)⟩
      . show w.heap[F.blk (E.blk n)]?=_;rw [r1,he,hcs];congr 2;have:(b.cells.map (ren E)).map (ren F)=b.cells.map (ren (F.comp E)):=by
          rw [List.map_map];exact List.map_congr_left fun u _=>zch F E u
        rw [List.map_append,List.map_append,this];apply Array.ext';simp [List.append_assoc]
      . simp [Emb.comp,r2,hl]
  . intro n m b c hb hc' hne hr;obtain⟨b0,h0,hr0⟩:=hro n b hb hr;obtain⟨c0,h1,_⟩:=L.row m c hc';exact I.holds.apart _ _ b0 c0 h0 h1 (L.apart n m b c hb hc' hne hr) hr0
  . rcases hn with hn|hn
    . have:=L.lim;omega
    . exact hn.2
  . intro n b hb hx;obtain⟨b0,h0,_⟩:=L.row n b hb;exact I.sep _ _ h0 (hrs.2 _ hx)
theorem zgi {o:Oper} {e:Operand->Value} {h h':AHeap} {S S':σ} {v:Value} {f:FuncId} {g:Func} {c:Code} {zs:Array Value} {E Q:Emb} {hc h1:AHeap} {ex:List Nat} {v0:Value}
    (C:CallOK X o e h S v h' S' f g c zs E Q hc h1 ex v0) (hcn:X.cnt S<=X.cnt S') (hrun:Simul X g (fun x=>x=.done v0 h1 S') (.run (zag g c zs).1 (zag g c zs).2 hc S)):OpSem X o e h S v h' S':=by
  obtain⟨hca,hf,hg,hbody,L,hclo,B⟩:=C;have hnx:h.next<=h'.next:=by rw [B.next];omega
  refine⟨hnx,hcn,fun n b hn hb hl=>?_,fun K F w0 w M ρ hn hρ I=>?_⟩
  . have hm:n<h'.next:=by
      rcases Nat.lt_or_ge n h'.next with hm|hm
      . exact hm
      . exfalso;rcases B.old n (.inr hm) with ⟨h2,_⟩|⟨n',b0,h2,_,h4,_⟩
        . rw [h2] at hb;have:=hl n b hb;omega
        . obtain⟨b1,e1,_⟩:=L.row n' b0 h2;rw [h4] at e1;have:=hl n b1 e1;omega
    rw [B.next] at hm;obtain⟨j,rfl⟩:=Nat.exists_eq_add_of_le hn;have hj:ex[j]?=some ex[j]:=List.getElem?_eq_getElem (by omega)
    rw [B.fresh j _ hj] at hb;cases h6:h1.get ex[j] with
    | none=>rw [h6] at hb;cases hb
    | some b1 =>
      rw [h6] at hb;cases hb;exact B.own _ b1 h6 (.inr (List.mem_of_getElem? hj))
  unfold goB at hg;rw [Bool.and_eq_true] at hg;have hop:=zd1 (P:=P) (ρ:=ρ) (F:=F) (w:=w) hρ hca hf hg.1 (by simpa using hg.2)
  have hzs:(zs.map (ren E)).map (ren F)=zs.map (ren (F.comp E)):=by
    rw [Array.map_map];exact Array.map_congr_left fun u _=>zch F E u
  have Ic:=zpx I L (vs':=fun u=>u∈(zag g c zs).2) (fun u hu=>by
    simp only [zag,List.mem_append] at hu;rcases hu with hu|hu
    . exact hclo u hu
    . rw [List.eq_of_mem_replicate hu];exact Clo.plain (by simp [undef,zac]))
  have hcalls:=zhk hf hbody hrun Ic L.lim;refine⟨zb8 (zdl hρ hca hf hg.1 (by simpa using hg.2)),.inr ⟨f,_,w,hop,?_⟩⟩
  rw [hzs];refine hcalls.mono ?_;rintro en w' ⟨F1,rfl,I1,hs1,_,hnx1⟩
  -- the embedding then
  let F2:Emb:=⟨fun x=>if h.next<=x/\x<h'.next then F1.blk (ex.getD (x - h.next) 0) else if VB<=x then F1.blk x else F.blk x,
    fun x=>if h.next<=x/\x<h'.next then F1.base (ex.getD (x - h.next) 0) else if VB<=x then F1.base x else F.base x,
    fun x=>if h.next<=x/\x<h'.next then F1.slack (ex.getD (x - h.next) 0) else if VB<=x then F1.slack x else F.slack x⟩
  have zim:∀ x,VB<=x->F2.blk x=F1.blk x/\F2.base x=F1.base x/\F2.slack x=F1.slack x:=fun x hx=>by
    have:¬ (h.next<=x/\x<h'.next):=fun hc=>by have:=(hn x hc.1 hc.2).2;omega
    simp [F2,this,hx]
  have hold2:∀ x,x<VB->K x->F2.blk x=F.blk x/\F2.base x=F.base x/\F2.slack x=F.slack x:=fun x hx hk=>by
    have:¬ (h.next<=x/\x<h'.next):=fun hc=>(hn x hc.1 hc.2).1 hk;have h2:¬ VB<=x:=by omega
    simp [F2,this,h2]
  have hnew2:∀ j n,ex[j]?=some n->F2.blk (h.next+j)=F1.blk n/\F2.base (h.next+j)=F1.base n/\F2.slack (h.next+j)=F1.slack n:=fun j n hj=>by
    have hj':=(List.getElem?_eq_some_iff.1 hj).1;have:h.next<=h.next+j/\h.next+j<h'.next:=by rw [B.next];omega
    simp [F2,this,List.getD,hj]
  have hs1h:∀ x,VB<=x->x<VB+X.cnt S->F1.blk x=F.blk x/\F1.base x=F.base x/\F1.slack x=F.slack x:=fun x h1 h2=>by
    obtain⟨e1,e2,e3⟩:=hs1 x (.inr ⟨h1,h2⟩);obtain⟨a1,a2,a3⟩:=L.hand x h1;simp only [Emb.comp,a1,a2,a3,Nat.add_zero,Nat.zero_add] at e1 e2 e3;exact⟨e1.symm,e2.symm,e3.symm⟩
  have hs:Same K F F2:=fun x hx=>by
    by_cases hlt:x<VB
    . obtain⟨a1,a2,a3⟩:=hold2 x hlt hx;exact⟨a1.symm,a2.symm,a3.symm⟩
    . obtain⟨a1,a2,a3⟩:=zim x (by omega)
      obtain⟨b1,b2,b3⟩:=hs1h x (by omega) (I.klim x hx)
      exact⟨(a1.trans b1).symm,(a2.trans b2).symm,(a3.trans b3).symm⟩
  -- what is lent
  have hlentK:∀ n b,hc.get n=some b->K (E.blk n)/\E.blk n<VB:=fun n b hb=>by
    obtain⟨b0,h0,_⟩:=L.row n b hb;exact I.hk _ _ h0
  have hKK:∀ x,K x->KAdd K h.next h'.next (X.cnt S) (X.cnt S') x:=fun x hx=>.inl hx;have hD:∀ G:Emb,Same (KAdd K h.next h'.next (X.cnt S) (X.cnt S')) F2 G->Same (fun n=>(∃ b,hc.get n=some b)\/n∈ex\/(VB<=n/\n<VB+X.cnt S')) F1 (G.comp Q):=by
    intro G hG n hn';rcases hn' with ⟨b,hb⟩|hn'|hn'
    . obtain⟨q1,q2,q3⟩:=B.lent n (L.low n b hb);obtain⟨k1,k2⟩:=hlentK n b hb;obtain⟨a1,a2,a3⟩:=hold2 _ k2 k1;obtain⟨g1,g2,g3⟩:=hG _ (hKK _ k1);obtain⟨e1,e2,e3⟩:=hs1 n (.inl (L.low n b hb));simp only [Emb.comp,q1,q2,q3] at *;exact⟨by rw [<-g1,a1,e1],by rw [<-g2,a2,e2],by rw [<-g3,a3,e3]⟩
    . obtain⟨j,hj⟩:=List.mem_iff_getElem?.1 hn';obtain⟨_,_,q1,q2,q3⟩:=B.more j n hj;obtain⟨a1,a2,a3⟩:=hnew2 j n hj;have hj':=(List.getElem?_eq_some_iff.1 hj).1;obtain⟨g1,g2,g3⟩:=hG (h.next+j) (.inr (.inl ⟨by omega,by rw [B.next];omega⟩))
      simp only [Emb.comp,q1,q2,q3,Nat.add_zero,Nat.zero_add];exact⟨by rw [<-g1,a1],by rw [<-g2,a2],by rw [<-g3,a3]⟩
    . obtain⟨q1,q2,q3⟩:=B.hand n hn'.1;obtain⟨a1,a2,a3⟩:=zim n hn'.1;have hk:KAdd K h.next h'.next (X.cnt S) (X.cnt S') n:=by
        by_cases hlt:n<VB+X.cnt S
        . exact .inl (I.hand n hn'.1 hlt)
        . exact .inr (.inr ⟨by omega,hn'.2⟩)
      obtain⟨g1,g2,g3⟩:=hG n hk;simp only [Emb.comp,q1,q2,q3,Nat.add_zero,Nat.zero_add];exact⟨by rw [<-g1,a1],by rw [<-g2,a2],by rw [<-g3,a3]⟩
  have hval:∀ (G:Emb),Same (KAdd K h.next h'.next (X.cnt S) (X.cnt S')) F2 G->∀ u,Clo (fun n=>(∃ b,hc.get n=some b)\/n∈ex\/(VB<=n/\n<VB+X.cnt S')) u->ren G (ren Q u)=ren F1 u:=fun G hG u hu=>by
    rw [zch];exact (hu F1 (G.comp Q) (hD G hG)).symm
  have hstab:∀ u,Clo (fun n=>(∃ b,hc.get n=some b)\/n∈ex\/(VB<=n/\n<VB+X.cnt S')) u->Stab (KAdd K h.next h'.next (X.cnt S) (X.cnt S')) F2 (ren Q u):=fun u hu G hG =>
    (hval G hG u hu).trans (hval F2 (Same.refl _ _) u hu).symm
  have I2:=I.same hs;have hMc:∀ b,b<w0.heap.size->(X.fp F S b\/∃ n b0,hc.get n=some b0/\b0.ro=false/\(F.comp E).blk n=b)->M b:=fun b hb hm=>by
    rcases hm with hm|⟨n,b0,h0,hr,rfl⟩
    . exact I.fown b hm hb
    . obtain⟨b1,e1,_,h2|h2⟩:=L.row n b0 h0
      . exact I.own _ _ e1 (h2.2.2.2.2 hr) hb
      . rw [h2.1] at hr;cases hr
  have hrep2:=X.rep_same F1 F2 S' w' (fun n hn'=>by obtain⟨a1,a2,a3⟩:=zim n hn'.1;exact⟨a1.symm,a2.symm,a3.symm⟩) I1.rep
  -- where each row comes from
  have hsrc:∀ m b,h'.get m=some b->((m<h.next\/h'.next<=m)/\h.get m=some b/\¬ (X.fp F S (F.blk m)\/∃ n b0,hc.get n=some b0/\b0.ro=false/\(F.comp E).blk n=F.blk m)) \/
      ∃ n b1,h1.get n=some b1/\((∃ b0,hc.get n=some b0/\b0.ro=false)\/n∈ex)/\b={ b1 with cells:=b1.cells.map (ren Q) }/\F2.blk m=F1.blk n/\F2.base m=F1.base n/\F2.slack m=F1.slack n/\KAdd K h.next h'.next (X.cnt S) (X.cnt S') m/\m<VB/\((E.blk n=m/\n<hc.next)\/∃ j,ex[j]?=some n/\m=h.next+j):=by
    intro m b hb;by_cases hlt:m<h.next\/h'.next<=m
    . rcases B.old m hlt with ⟨h2,h3⟩|⟨n,b0,h2,h3,h4,h5⟩
      . refine .inl ⟨hlt,by rw [<-h2];exact hb,?_⟩
        rw [h2] at hb;rintro (h4|⟨n,b0,h4,h5,h6⟩)
        . exact I.sep m b hb h4
        . obtain⟨b1,e1,_,h7|h7⟩:=L.row n b0 h4
          . exact I.holds.apart _ _ b1 b e1 hb (h3 n b0 h4 h5) (h7.2.2.2.2 h5) h6
          . rw [h7.1] at h5;cases h5
      . rw [h5] at hb;cases h6:h1.get n with
        | none=>rw [h6] at hb;cases hb
        | some b1 =>
          rw [h6] at hb;cases hb;obtain⟨k1,k2⟩:=hlentK n b0 h2;obtain⟨a1,a2,a3⟩:=hold2 _ k2 k1;obtain⟨e1,e2,e3⟩:=hs1 n (.inl (L.low n b0 h2));obtain⟨b2,g1,_,g2|g2⟩:=L.row n b0 h2
          . rw [<-h4];refine .inr ⟨n,b1,h6,.inl ⟨b0,h2,h3⟩,rfl,?_,?_,?_,hKK _ k1,k2,.inl ⟨rfl,L.low n b0 h2⟩⟩
            . rw [a1,<-e1];rfl
            . rw [a2,<-e2];simp [Emb.comp,g2.2.1]
            . rw [a3,<-e3];simp [Emb.comp,g2.2.2.1]
          . rw [g2.1] at h3;cases h3
    . rw [not_or] at hlt;have hm:=Nat.lt_of_not_le hlt.2;rw [B.next] at hm;obtain⟨j,rfl⟩:=Nat.exists_eq_add_of_le (Nat.le_of_not_lt hlt.1);have hj:ex[j]?=some ex[j]:=List.getElem?_eq_getElem (by omega)
      have h2:=B.fresh j _ hj;rw [h2] at hb;cases h6:h1.get ex[j] with
      | none=>rw [h6] at hb;cases hb
      | some b1 =>
        rw [h6] at hb;cases hb;obtain⟨a1,a2,a3⟩:=hnew2 j _ hj;have hx:=hn (h.next+j) (by omega) (by rw [B.next];omega)
        exact .inr ⟨_,b1,h6,.inr (List.mem_of_getElem? hj),rfl,a1,a2,a3,.inr (.inl ⟨by omega,by rw [B.next];omega⟩),hx.2,.inr ⟨j,hj,rfl⟩⟩
  have hlow:∀ m b,h.get m=some b->F.blk m<w.heap.size:=fun m b hb=>I.holds.blk_lt hb;refine⟨_,rfl,F2,?_,hs,⟨?_,?_⟩,hrep2.1,?_,?_,?_,?_,?_,I.kept.trans I1.kept hMc,?_,?_,?_⟩
  . rw [B.told];exact (hval F2 (Same.refl _ _) v0 B.clo).symm
  . intro m b hb;rcases hsrc m b hb with ⟨hlt,hm,hno⟩|⟨n,b1,hn1,hor,rfl,e1,e2,e3,_⟩
    . obtain⟨pre,post,fr,r1,r2⟩:=I2.holds.row m b hm;refine⟨pre,post,fr,?_,r2⟩;have hb2:F2.blk m=F.blk m:=(hs m (I.hk m b hm).1).1.symm;rw [hb2] at r1 ⊢;rw [I1.kept.block _ (hlow m b hm) hno];exact r1
    . obtain⟨pre,post,fr,r1,r2,r3,r4,r5⟩:=I1.holds.row n b1 hn1;refine⟨pre,post,fr,?_,by rw [e2];exact r2,r3,fun h=>by rw [e3];exact r4 h,fun s h=>by rw [e3];exact r5 s h⟩
      rw [e1,r1,List.map_map];congr 5;exact List.map_congr_left fun u hu=>(hval F2 (Same.refl _ _) u (B.rows n b1 hn1 hor u hu)).symm
  . intro m k b d hb hd hmk hr;rcases hsrc m b hb with ⟨hlt,hm,hno⟩|⟨n,b1,hn1,hor,rfl,e1,_,_,_,_,ho1⟩<;>rcases hsrc k d hd with ⟨hlt',hk,hno'⟩|⟨n',b1',hn1',hor',rfl,e1',_,_,_,_,ho1'⟩
    . exact I2.holds.apart m k b d hm hk hmk hr
    . have hb2:F2.blk m=F.blk m:=(hs m (I.hk m b hm).1).1.symm;rw [hb2,e1'];intro he;exact hno (by rw [he];exact I1.own n' b1' hn1' (B.own n' b1' hn1' hor') (by rw [<-he];exact hlow m b hm))
    . have hb2:F2.blk k=F.blk k:=(hs k (I.hk k d hk).1).1.symm;rw [hb2,e1];intro he;exact hno' (by rw [<-he];exact I1.own n b1 hn1 (B.own n b1 hn1 hor) (by rw [he];exact hlow k d hk))
    . rw [e1,e1'];refine I1.holds.apart n n' b1 b1' hn1 hn1' (fun he=>hmk ?_) hr;subst he;rcases ho1 with ⟨h2,h3⟩|⟨j,h1,h2⟩<;>rcases ho1' with ⟨h2',h3'⟩|⟨j',h1',h2'⟩
      . rw [<-h2,<-h2']
      . have:=(B.more j' n h1').1;omega
      . have:=(B.more j n h1).1;omega
      . have:j=j':=(List.getElem?_inj (List.getElem?_eq_some_iff.1 h1).1 B.nodup).1 (h1.trans h1'.symm);rw [h2,h2',this]
  . rintro _ rfl;rw [B.told];exact hstab v0 B.clo
  . intro m b hb u hu;rcases hsrc m b hb with ⟨hlt,hm,hno⟩|⟨n,b1,hn1,hor,rfl,_⟩
    . exact (I2.hst m b hm u hu).move (Same.refl _ _) hKK
    . obtain⟨y,hy,rfl⟩:=List.mem_map.1 hu;exact hstab y (B.rows n b1 hn1 hor y hy)
  . intro m b hb;rcases hsrc m b hb with ⟨hlt,hm,hno⟩|⟨n,b1,hn1,hor,rfl,_,_,_,h4,h5,_⟩
    . exact⟨hKK _ (I.hk m b hm).1,(I.hk m b hm).2⟩
    . exact⟨h4,h5⟩
  . intro x h1 h2;by_cases hlt:x<VB+X.cnt S
    . exact .inl (I.hand x h1 hlt)
    . exact .inr (.inr ⟨by omega,h2⟩)
  . intro x hx;rcases hx with hx|hx|hx
    . have:=I.klim x hx;omega
    . have:=(hn x hx.1 hx.2).2;omega
    . omega
  . intro m b hb hr hx;rcases hsrc m b hb with ⟨hlt,hm,hno⟩|⟨n,b1,hn1,hor,rfl,e1,_⟩
    . exact I2.own m b hm hr hx
    . rw [e1] at hx ⊢;exact hMc _ hx (I1.own n b1 hn1 hr (Nat.lt_of_lt_of_le hx I.kept.size))
  . intro b hb hx;exact hMc _ hx (I1.fown b (hrep2.2 b hb) (Nat.lt_of_lt_of_le hx I.kept.size))
  . intro m b hb hx;have hx:=hrep2.2 _ hx;rcases hsrc m b hb with ⟨hlt,hm,hno⟩|⟨n,b1,hn1,hor,rfl,e1,_⟩
    . have hb2:F2.blk m=F.blk m:=(hs m (I.hk m b hm).1).1.symm;rw [hb2] at hx;exact hno (I1.fown _ hx (hlow m b hm))
    . rw [e1] at hx;exact I1.sep n b1 hn1 hx
def zg8 (X:Face P σ) (o:Oper) (e:Operand->Value) (h:AHeap) (S:σ) (v:Value) (h':AHeap) (S':σ):Prop :=
  h.next<=h'.next/\X.cnt S<=X.cnt S'/\∀ (F:Emb) (w0 w:World) (M:Nat->Prop) (ρ:Operand->Value),h.next<=VB->(∀ x∈o.op.operands,ρ x=ren F (e x)) ->
    AInv X F w0 M (Kn h.next (X.cnt S)) (fun v=>∃ x∈o.op.operands,v=e x) h S w->OpWp P o ρ w fun u w'=>∃ F',u=ren F' v/\Same (Kn h.next (X.cnt S)) F F'/\AInv X F' w0 M (KAdd (Kn h.next (X.cnt S)) h.next h'.next (X.cnt S) (X.cnt S')) (fun x=>x=v) h' S' w'
theorem OpSem.w {o:Oper} {e:Operand->Value} {h h':AHeap} {S S':σ} {v:Value} (H:OpSem X o e h S v h' S') (hl:h'.next=h.next\/h'.next<=VB):zg8 X o e h S v h' S' :=
  ⟨H.1,H.2.1,fun F w0 w M ρ hv hρ I=>H.2.2.2 _ F w0 w M ρ (fun x h1 h2=>⟨fun hk=>by rcases hk with hk|hk;omega;omega,by omega⟩) hρ I⟩
theorem zrA {n m c c':Nat} (h1:n<=m) (h2:c<=c'):KAdd (Kn n c) n m c c'=Kn m c':=by
  funext x;apply propext;unfold KAdd Kn;omega
theorem Simul.step {fn:Func} {A:Conf σ->Prop} {c c1:Conf σ} (hk:Simul X fn A c1)
    (h:∀ (b:Frame) (cs:List Frame) (F:Emb) (w0 w:World) (M:Nat->Prop) (m:Goroutine),P.funcs[b.fn]?=some fn->b.kind=.normal->zc5 P F b cs c w m->InvC X F w0 M c w ->
      ∃ F' w' m',XSt P m w m' w'/\zc5 P F' b cs c1 w' m'/\InvC X F' w0 M c1 w'/\Same (Kn (heap c).next (X.cnt (st c))) F F'/\X.cnt (st c)<=X.cnt (st c1)/\(heap c).next<=(heap c1).next):Simul X fn A c:=by
  intro b cs F w0 w M m hb hkd hS hI;obtain⟨F1,w1,m1,s1,S1,I1,e1,n1,l1⟩:=h b cs F w0 w M m hb hkd hS hI;obtain⟨c',F',w',m',hA,s2,S2,I2,e2,n2,l2⟩:=hk b cs F1 w0 w1 M m1 hb hkd S1 I1;exact⟨c',F',w',m',hA,s1.trans s2,S2,I2,e1.trans (e2.mono (zs8 l1 n1)),Nat.le_trans n1 n2,Nat.le_trans l1 l2⟩
end
structure zkt (W:List Nat) (ops:Array Oper):Prop where
  sel:Region.noSelect ops=true
  deps:∀ j oj,ops[j]?=some oj->∀ d∈zcY oj,d<j
  loud:∀ j oj,ops[j]?=some oj->wrB W j oj=true->zbA W j oj=true
  meet:∀ (i j:Nat) oi oj,i<j->ops[i]?=some oi->ops[j]?=some oj ->
    ((∃ d,oi.dst=some d/\d∈zcp ops oj)\/(∃ d,oj.dst=some d/\d∈zcp ops oi)\/(wrB W i oi=true/\zbA W j oj=true)\/(zbA W i oi=true/\wrB W j oj=true)\/(zax oi=true/\zax oj=true))->((zas ops.toList []).getD j 0).testBit i=true
  far:∀ j,j<ops.size->farB W j=true->j<farU W ops.size
  behind:∀ (i j:Nat) oi oj,i<j->ops[i]?=some oi->ops[j]?=some oj->farB W i=true->wrB W j oj=true->farU W ops.size<=j->((zas ops.toList []).getD j 0).testBit i=true
theorem zmy {W:List Nat} {ops:Array Oper} (h:zlQ W ops=true):zkt W ops:=by
  simp only [zlQ,Bool.and_eq_true,List.all_eq_true,List.mem_range] at h;obtain⟨h1,h2⟩:=h;refine⟨h1,fun j oj hj=>?_,fun j oj hj hw=>?_,fun i j oi oj hij hi hj hm=>?_,fun j hj hf=>?_,fun i j oi oj hij hi hj hf hw hu=>?_⟩
  . have:=(h2 j (Array.getElem?_eq_some_iff.1 hj).1).1.1;rw [hj] at this;simp only [Bool.and_eq_true,List.all_eq_true,decide_eq_true_eq] at this;exact this.1
  . have:=(h2 j (Array.getElem?_eq_some_iff.1 hj).1).1.1;rw [hj] at this;simp only [Bool.and_eq_true,hw,Bool.not_true,Bool.false_or] at this;exact this.2
  . have:=(h2 j (Array.getElem?_eq_some_iff.1 hj).1).2 i hij;unfold zq0 at this;simp only [hi,hj] at this;rw [Bool.or_eq_true] at this;rcases this with h|h
    . exfalso;simp only [Bool.not_eq_true',Bool.or_eq_false_iff,Bool.and_eq_false_iff] at h;obtain⟨⟨⟨⟨⟨ha,hb⟩,hc⟩,hd⟩,he⟩,_⟩:=h;rcases hm with ⟨d,hd',hin⟩|⟨d,hd',hin⟩|⟨k1,k2⟩|⟨k1,k2⟩|⟨k1,k2⟩
      . simp [hd'] at ha;exact ha hin
      . simp [hd'] at hb;exact hb hin
      . simp [k1,k2] at hc
      . simp [k1,k2] at hd
      . simp [k1,k2] at he
    . exact h
  . have:=(h2 j hj).1.2;rw [hf] at this;simpa [Nat.blt_eq] using this
  . have:=(h2 j (Array.getElem?_eq_some_iff.1 hj).1).2 i hij;unfold zq0 at this;simp only [hi,hj] at this;rw [Bool.or_eq_true] at this;rcases this with h|h
    . exfalso;simp only [Bool.not_eq_true',Bool.or_eq_false_iff,Bool.and_eq_false_iff] at h;obtain⟨_,(h|h)|h⟩:=h
      . rw [hf] at h;cases h
      . rw [hw] at h;cases h
      . rw [Nat.ble_eq_true_of_le hu] at h;cases h
    . exact h
theorem znH {P:Program} {e:Operand->Value} {h:AHeap} {n:Nat} {o:Op}:valA P e (atN h n) o=valA P e h o:=by
  unfold valA zf4 zeC;cases o<;>rfl
theorem znf {P:Program} {e:Operand->Value} {h:AHeap} {n:Nat} {o:Oper} {x:Value × Option Blk} (hv:newA P e h n o.op=some x):zfX o=true:=by
  unfold newA at hv;unfold zfX;split at hv<;>simp_all
theorem zbf {P:Program} {e:Operand->Value} {o:Oper} {x:FuncId × Array Value} (h:zaW P e o.op=some x):zax o=true:=by
  unfold zaW at h;unfold zax;split at h<;>simp_all
theorem zp3 {P:Program} {e:Operand->Value} {h:AHeap} {o:Oper} {x:Value × AHeap} (hv:wrA P e h o.op=some x):zax o=false/\(zc8 o=true\/zfX o=true):=by
  unfold wrA at hv;unfold zfX zc8 zax;split at hv<;>simp_all
theorem zib {o:Oper} (h:zc8 o=true):zeQ o=true:=by simp [zeQ,h]
theorem zkh {o:Oper} (h:zfX o=true):zeQ o=true:=by simp [zeQ,h]
theorem zcv {o:Oper} (h:zax o=true):zeQ o=true:=by simp [zeQ,h]
theorem zi9 {o:Oper} (h:zea o=true):zeQ o=true:=by simp [zeQ,h]
theorem zju {P:Program} {e:Operand->Value} {h h':AHeap} {o:Oper} (hl:zea o=false):valA P e h o.op=valA P e h' o.op:=by
  unfold zea at hl;unfold valA;split<;>first|rfl|(simp_all;done)
def zj0 (n:Nat):AHeap:=⟨fun _=>none,n⟩
section
variable {P:Program} {σ:Type} {X:Face P σ} {W:List Nat} {ops:Array Oper} {n0:Nat} {hf:AHeap} {rec:Nat->DRec σ}
theorem zeb {o:Oper} {e:Operand->Value} {h h':AHeap} {S S':σ} {v:Value} (H:Op0 X o e h S v h' S') :
    h.next<=h'.next/\(zax o=false->S'=S)/\((∀ n b,h.get n=some b->n<h.next)->∀ n b,h'.get n=some b->n<h'.next)/\(zeQ o=false->h'=h/\S'=S/\∀ (h2:AHeap) (S2:σ),Op0 X o e h2 S2 v h2 S2)/\(zax o=false->∀ S2:σ,Op0 X o e h S2 v h' S2):=by
  have hs:=zgI H;refine⟨hs.1,?_,?_,?_,?_⟩
  . intro hc;rcases H with ⟨_,_,h3⟩|⟨ob,_,_,h3⟩|⟨_,h3⟩|⟨f,g,args,hca,_⟩
    . exact h3
    . exact h3
    . exact h3
    . rw [zbf hca] at hc;cases hc
  . intro hlow;rcases H with ⟨_,h2,_⟩|⟨ob,_,h2,_⟩|⟨hv,_⟩|⟨f,g,args,_,_,_,_,h2⟩
    . rw [h2];exact hlow
    . rw [h2];intro n b hb;rw [AHeap.addO_get] at hb;show n<h.next+1;split at hb
      . omega
      . have:=hlow n b hb;omega
    . unfold wrA at hv
      repeat' split at hv
      all_goals first
        | (cases hv;done)
        | (cases hv;exact hlow)
        | (rename_i bk _ _ hbk _;cases hv;intro n b hb;rw [AHeap.put_get] at hb;show n<h.next;split at hb;(rename_i he;rw [he];exact hlow _ _ ‹h.get _=some _›);exact hlow n b hb)
        | (cases hv;intro n b hb;rw [AHeap.addO_get] at hb;show n<h.next+1;split at hb;(rename_i he;rw [he];exact Nat.lt_succ_self _);rw [AHeap.putO_get] at hb;split at hb;cases hb;have:=hlow n b hb;omega)
        | (rename_i a _;cases hs':zdV P h _ a _ with
            | none=>rw [hs'] at hv;cases hv
            | some h1 =>
              rw [hs'] at hv;cases hv;obtain⟨b0,s,hb0,_,_,_,_,_,_,rfl⟩:=zb0 hs';intro n b hb;rw [AHeap.put_get] at hb;show n<h.next;split at hb
              . rename_i he;rw [he];exact hlow _ _ hb0
              . exact hlow n b hb)
    . rw [h2];exact hlow
  . intro hl;have hn1:zfX o=false:=by cases h:zfX o with|false=>rfl|true=>rw [zkh h] at hl;cases hl
    have hn2:zc8 o=false:=by cases h:zc8 o with|false=>rfl|true=>rw [zib h] at hl;cases hl
    have hn3:zax o=false:=by cases h:zax o with|false=>rfl|true=>rw [zcv h] at hl;cases hl
    have hn4:zea o=false:=by cases h:zea o with|false=>rfl|true=>rw [zi9 h] at hl;cases hl
    rcases H with ⟨hv,h2,h3⟩|⟨ob,hv,_⟩|⟨hv,_⟩|⟨f,g,args,hca,_⟩
    . exact⟨h2,h3,fun h2 S2=>.inl ⟨by rw [zju (h':=h) hn4];exact hv,rfl,rfl⟩⟩
    . rw [znf hv] at hn1;cases hn1
    . rcases (zp3 hv).2 with h|h
      . rw [h] at hn2;cases hn2
      . rw [h] at hn1;cases hn1
    . rw [zbf hca] at hn3;cases hn3
  . intro hc S2;rcases H with ⟨h1,h2,_⟩|⟨ob,h1,h2,_⟩|⟨h1,_⟩|⟨f,g,args,hca,_⟩
    . exact .inl ⟨h1,h2,rfl⟩
    . exact .inr (.inl ⟨ob,h1,h2,rfl⟩)
    . exact .inr (.inr (.inl ⟨h1,rfl⟩))
    . rw [zbf hca] at hc;cases hc
def OpSems (X:Face P σ) (o:Oper) (e:Operand->Value) (h:AHeap) (S:σ) (v:Value) (h':AHeap) (S':σ):Prop :=
  (zax o=true->OpSem X o e h S v h' S')/\(zax o=false->∀ S2,OpSem X o e h S2 v h' S2)
theorem zgb {o:Oper} {e:Operand->Value} {h h':AHeap} {S S':σ} {v:Value} (H:Op0 X o e h S v h' S'):OpSems X o e h S v h' S' :=
  ⟨fun _=>zgI H,fun hc S2=>zgI ((zeb H).2.2.2.2 hc S2)⟩
theorem zjB {o:Oper} {e:Operand->Value} {h h':AHeap} {S S':σ} {v:Value} {f:FuncId} {g:Func} {c:Code} {zs:Array Value} {E Q:Emb} {hc h1:AHeap} {ex:List Nat} {v0:Value}
    (C:CallOK X o e h S v h' S' f g c zs E Q hc h1 ex v0) (hcn:X.cnt S<=X.cnt S') (hrun:Simul X g (fun x=>x=.done v0 h1 S') (.run (zag g c zs).1 (zag g c zs).2 hc S)):OpSems X o e h S v h' S' :=
  ⟨fun _=>zgi C hcn hrun,fun h=>by rw [zbf C.call] at h;cases h⟩
def zih (X:Face P σ) (o:Oper) (e:Operand->Value) (h:AHeap) (S:σ) (v:Value) (h':AHeap) (S':σ):Prop :=
  (zax o=true->zg8 X o e h S v h' S')/\(zax o=false->∀ S2,zg8 X o e h S2 v h' S2)
theorem OpSems.w {o:Oper} {e:Operand->Value} {h h':AHeap} {S S':σ} {v:Value} (H:OpSems X o e h S v h' S') (hl:h'.next=h.next\/h'.next<=VB):zih X o e h S v h' S' :=
  ⟨fun hc=>(H.1 hc).w hl,fun hc S2=>(H.2 hc S2).w hl⟩
structure zsa (X:Face P σ) (W:List Nat) (i:Nat) (o:Oper) (p q:DRec σ):Prop where
  tmps:q.tmps=putL o.dst p.v p.tmps
  next:p.h.next<=q.h.next
  born:q.born=zex i p.h.next q.h.next++p.born
  stay:wrB W i o=false->∀ n,n<p.h.next->q.h.get n=p.h.get n
  low:(∀ n b,p.h.get n=some b->n<p.h.next)->∀ n b,q.h.get n=some b->n<q.h.next
  loud:zbA W i o=false->q.h.next=p.h.next
  lim:q.h.next=p.h.next\/q.h.next<=VB
  state:zax o=false->q.S=p.S
def Sem1 (X:Face P σ) (W:List Nat) (ops:Array Oper) (n0:Nat) (hf:AHeap) (i:Nat) (o:Oper) (p q:DRec σ):Prop :=
  (Region.wanted o (zaj ops p.tmps)=false/\p.v=undef/\q.h=p.h/\q.S=p.S) \/
  (Region.wanted o (zaj ops p.tmps)=true/\o.op.operands.all zaN=true/\wrB W i o=true/\zih X o (evA p.tmps) p.h p.S p.v q.h q.S) \/
  (Region.wanted o (zaj ops p.tmps)=true/\o.op.operands.all zaN=true/\wrB W i o=false/\∃ hv,OpSems X o (evA p.tmps) (if zbA W i o=true then visH n0 p.born ((zas ops.toList []).getD i 0) p.h else if farB W i=true then atN hf p.h.next else zj0 p.h.next) p.S p.v hv q.S/\q.h=zdC p.h hv)
structure Chain (X:Face P σ) (W:List Nat) (ops:Array Oper) (n0:Nat) (hf:AHeap) (rec:Nat->DRec σ):Prop where
  still:∀ n b,hf.get n=some b->n<n0/\∃ b0,b={ b0 with ro:=true }/\∀ j,j<=ops.size->j<=farU W ops.size->(rec j).h.get n=some b0
  step:∀ i o,ops[i]?=some o->zsa X W i o (rec i) (rec (i+1))
  sem:∀ i o,ops[i]?=some o->Sem1 X W ops n0 hf i o (rec i) (rec (i+1))
  born0:(rec 0).born=[]
  next0:(rec 0).h.next=n0
  low0:∀ n b,(rec 0).h.get n=some b->n<n0
theorem zkE {h hv:AHeap} (hn:h.next<=hv.next) (hl:∀ n b,h.get n=some b->n<h.next):∀ n b,(zdC h hv).get n=some b->n<(zdC h hv).next:=by
  intro n b hb;show n<hv.next;unfold zdC at hb;simp only at hb;split at hb
  . split at hb
    . assumption
    . cases hb
  . have:=hl n b hb;omega
theorem zjj {h hv:AHeap} {n:Nat} (hn:n<h.next):(zdC h hv).get n=h.get n:=by
  unfold zdC;simp only;rw [if_neg (by omega)]
theorem zej (i a:Nat):zex i a a=[]:=by simp [zex]
theorem zgj {i a b j n:Nat}:(j,n)∈zex i a b↔j=i/\a<=n/\n<b:=by
  unfold zex;simp only [List.mem_map,List.mem_range'_1,Prod.mk.injEq];constructor
  . rintro ⟨x,hx,rfl,rfl⟩;exact⟨rfl,by omega,by omega⟩
  . rintro ⟨rfl,h1,h2⟩;exact⟨n,⟨h1,by omega⟩,rfl,rfl⟩
theorem zpn {o:Oper} {e:Operand->Value} {h h':AHeap} {S S':σ} {v:Value} {f:FuncId} {g:Func} {c:Code} {zs:Array Value} {E Q:Emb} {hc h1:AHeap} {ex:List Nat} {v0:Value}
    (C:CallOK X o e h S v h' S' f g c zs E Q hc h1 ex v0) (hl:∀ n b,h.get n=some b->n<h.next):∀ n b,h'.get n=some b->n<h'.next:=by
  intro n b hb;rcases Nat.lt_or_ge n h'.next with hm|hm
  . exact hm
  . exfalso;have hnx:=C.back.next;rcases C.back.old n (.inr hm) with ⟨h2,_⟩|⟨n',b0,h2,_,h4,_⟩
    . rw [h2] at hb;have:=hl n b hb;omega
    . obtain⟨b1,e1,_⟩:=C.lends.row n' b0 h2;rw [h4] at e1;have:=hl n b1 e1;omega
theorem zpJ (hst:∀ n b,hf.get n=some b->n<n0/\∃ b0,b={ b0 with ro:=true }/\∀ j,j<=ops.size->j<=farU W ops.size->(rec j).h.get n=some b0) (hgood:∀ i o,ops[i]?=some o->GoodK X W ops n0 hf i o (rec i) (rec (i+1))) (hb:(rec 0).born=[]) (hn:(rec 0).h.next=n0) (hl:∀ n b,(rec 0).h.get n=some b->n<n0)
    (hcs:∀ i wr f g c zs E Q hc h1 ex v0,i<ops.size->(rec i).kind=.call wr f g c zs E Q hc h1 ex v0->X.cnt (rec i).S<=X.cnt (rec (i+1)).S/\Simul X g (fun x=>x=.done v0 h1 (rec (i+1)).S) (.run (zag g c zs).1 (zag g c zs).2 hc (rec i).S))
    (hcsD:∀ i f g c args o,ops[i]?=some o->(rec i).kind=.callD f g c args->zg8 X o (evA (rec i).tmps) (rec i).h (rec i).S (rec i).v (rec (i+1)).h (rec (i+1)).S):Chain X W ops n0 hf rec:=by
  have hl0:=hl;have hsteps:∀ i o,ops[i]?=some o->zsa X W i o (rec i) (rec (i+1)):=by
    intro i o ho;have hlt:=(Array.getElem?_eq_some_iff.1 ho).1;obtain⟨g0,hg⟩:=hgood i o ho;split at hg
    . obtain⟨_,_,g3,g4,g5⟩:=hg;exact⟨g0,by rw [g3];exact Nat.le_refl _,by rw [g5,g3,zej];rfl,fun _ n _=>by rw [g3],fun h=>by rw [g3];exact h,fun _=>by rw [g3],.inl (by rw [g3]),fun _=>g4⟩
    . obtain⟨_,_,_,_,_,g3,g4,g5⟩:=hg;exact⟨g0,by rw [g3];exact Nat.le_refl _,by rw [g5,g3,zej];rfl,fun _ n _=>by rw [g3],fun h=>by rw [g3];exact h,fun _=>by rw [g3],.inl (by rw [g3]),fun _=>g4⟩
    . obtain⟨gf,g1,g2,g3,g4,g5⟩:=hg;have hloud:zbA W i o=zeQ o:=by unfold zbA;rw [gf];simp
      split at g5
      . obtain⟨g6,g7⟩:=g5;obtain⟨f1,f2,f3,f4,_⟩:=zeb g7;exact⟨g0,f1,g4,fun h=>(by rw [g6] at h;cases h),f3,fun h=>by rw [hloud] at h;rw [(f4 h).1],g3,f2⟩
      . obtain⟨g6,hv,g7,g8⟩:=g5;obtain⟨f1,f2,f3,f4,_⟩:=zeb g7;have hnx:(rec (i+1)).h.next=hv.next:=by rw [g8];rfl
        exact⟨g0,by rw [hnx];exact f1,g4,fun _ n hn=>by rw [g8];exact zjj hn,fun h=>by rw [g8];exact zkE f1 h,fun h=>by rw [hloud] at h;rw [hnx,(f4 h).1];rfl,g3,f2⟩
    . rename_i hkind;obtain⟨gf,g1,g2,g3,g4,g5⟩:=hg;have hloud:zbA W i o=zeQ o:=by unfold zbA;rw [gf];simp
      obtain⟨c1,c2⟩:=hcs i _ _ _ _ _ _ _ _ _ _ _ hlt hkind;split at g5
      . obtain⟨g6,g7⟩:=g5;have:=zgi g7 c1 c2;exact⟨g0,this.1,g4,fun h=>(by rw [g6] at h;cases h),zpn g7,fun h=>(by rw [hloud,zcv (zbf g7.call)] at h;cases h),g3,fun h=>(by rw [zbf g7.call] at h;cases h)⟩
      . obtain⟨g6,hv,g7,g8⟩:=g5;have:=zgi g7 c1 c2;have hnx:(rec (i+1)).h.next=hv.next:=by rw [g8];rfl
        exact⟨g0,by rw [hnx];exact this.1,g4,fun _ n hn=>by rw [g8];exact zjj hn,fun h=>by rw [g8];exact zkE this.1 h,fun h=>(by rw [hloud,zcv (zbf g7.call)] at h;cases h),g3,fun h=>(by rw [zbf g7.call] at h;cases h)⟩
    . obtain⟨gf,g1,g2,g3,g4,g6,g7,g8,g9,_⟩:=hg;have hloud:zbA W i o=zeQ o:=by unfold zbA;rw [gf];simp
      exact⟨g0,g7,g4,fun h=>(by rw [g6] at h;cases h),fun _=>g8,fun h=>(by rw [hloud,zcv (zbf g9)] at h;cases h),g3,fun h=>(by rw [zbf g9] at h;cases h)⟩
  refine⟨hst,hsteps,fun i o ho=>?_,hb,hn,hl⟩
  . have hlt:=(Array.getElem?_eq_some_iff.1 ho).1;obtain⟨g0,hg⟩:=hgood i o ho;split at hg
    . obtain⟨g1,g2,g3,g4,g5⟩:=hg;exact .inl ⟨g1,g2,g3,g4⟩
    . obtain⟨g1,g2,g6,gf,g7,g3,g4,g5⟩:=hg;have hl:¬ zbA W i o=true:=by unfold zbA;rw [gf];simp
      have hz:Op0 X o (evA (rec i).tmps) (atN hf (rec i).h.next) (rec i).S (rec i).v (atN hf (rec i).h.next) (rec (i+1)).S:=.inl ⟨by
        rw [<-g7];exact znH,rfl,g4⟩
      refine .inr (.inr ⟨g1,g2,g6,atN hf (rec i).h.next,by rw [if_neg hl,if_pos gf];exact zgb hz,?_⟩)
      rw [g3];unfold zdC atN;cases hh:(rec i).h with
      | mk get next =>
        congr 1;funext n;simp only;split
        . rename_i hle;rw [if_neg (by omega)]
          cases hg:get n with
          | none=>rfl
          | some b =>
            exfalso;have hlow:∀ (j:Nat),j<=i->∀ n b,(rec j).h.get n=some b->n<(rec j).h.next:=by
              intro j
              induction j with
              | zero=>intro _ n b hb;rw [hn];exact hl0 n b hb
              | succ j ih =>
                intro hj;have hjs:j<ops.size:=by omega
                exact (hsteps j _ (Array.getElem?_eq_getElem hjs)).low (ih (by omega))
            have:=hlow i (Nat.le_refl _) n b (by rw [hh];exact hg)
            rw [hh] at this;simp only at this;omega
        . rfl
    . obtain⟨gf,g1,g2,g3,g4,g5⟩:=hg;have hloud:zbA W i o=zeQ o:=by unfold zbA;rw [gf];simp
      split at g5
      . exact .inr (.inl ⟨g1,g2,g5.1,(zgb g5.2).w g3⟩)
      . obtain⟨g6,hv,g7,g8⟩:=g5;by_cases hl:zbA W i o=true
        . exact .inr (.inr ⟨g1,g2,g6,hv,by rw [if_pos hl];exact zgb g7,g8⟩)
        . obtain⟨_,_,_,f4,_⟩:=zeb g7;obtain⟨f5,f6,f7⟩:=f4 (by rw [<-hloud];simpa using hl)
          refine .inr (.inr ⟨g1,g2,g6,zj0 (rec i).h.next,by rw [if_neg hl,if_neg (by rw [gf];decide),f6];exact zgb (f7 _ _),?_⟩)
          rw [g8,f5];unfold zdC zj0 visH;congr 1;funext n;simp only;split
          . rw [if_neg (by omega),if_neg (by omega)]
          . rfl
    . rename_i hkind;obtain⟨gf,g1,g2,g3,g4,g5⟩:=hg;have hloud:zbA W i o=zeQ o:=by unfold zbA;rw [gf];simp
      obtain⟨c1,c2⟩:=hcs i _ _ _ _ _ _ _ _ _ _ _ hlt hkind;split at g5
      . exact .inr (.inl ⟨g1,g2,g5.1,(zjB g5.2 c1 c2).w g3⟩)
      . obtain⟨g6,hv,g7,g8⟩:=g5;exact .inr (.inr ⟨g1,g2,g6,hv,by rw [hloud,if_pos (zcv (zbf g7.call))];exact zjB g7 c1 c2,g8⟩)
    . rename_i hkind;obtain⟨gf,g1,g2,g3,g4,g6,g7,g8,g9,_⟩:=hg;exact .inr (.inl ⟨g1,g2,g6,fun _=>hcsD i _ _ _ _ o ho hkind,fun h=>by rw [zbf g9] at h;cases h⟩)
theorem Chain.next_le (C:Chain X W ops n0 hf rec):∀ (d i:Nat),i+d<=ops.size->(rec i).h.next<=(rec (i+d)).h.next
  | 0,_,_=>Nat.le_refl _
  | d+1,i,h=>by
    have ih:=C.next_le d i (by omega)
    have ho:ops[i+d]?=some ops[i+d]:=Array.getElem?_eq_getElem (by omega)
    exact Nat.le_trans ih (C.step _ _ ho).next
theorem Chain.next_le' (C:Chain X W ops n0 hf rec) {i j:Nat} (h:i<=j) (hj:j<=ops.size):(rec i).h.next<=(rec j).h.next:=by
  obtain⟨d,rfl⟩:=Nat.exists_eq_add_of_le h;exact C.next_le d i hj
theorem Chain.low (C:Chain X W ops n0 hf rec):∀ (i:Nat),i<=ops.size->∀ n b,(rec i).h.get n=some b->n<(rec i).h.next
  | 0,_,n,b,h=>by rw [C.next0];exact C.low0 n b h
  | i+1,hi,n,b,h=>by
    have ho:ops[i]?=some ops[i]:=Array.getElem?_eq_getElem (by omega)
    exact (C.step _ _ ho).low (C.low i (by omega)) n b h
theorem Chain.born (C:Chain X W ops n0 hf rec):∀ (i:Nat),i<=ops.size->∀ j n,(j,n)∈(rec i).born->j<i/\(rec j).h.next<=n/\n<(rec (j+1)).h.next/\n<(rec i).h.next/\n<VB/\∃ o,ops[j]?=some o/\zbA W j o=true
  | 0,_,j,n,h=>by rw [C.born0] at h;cases h
  | i+1,hi,j,n,h=>by
    have ih:=C.born i (by omega)
    have ho:ops[i]?=some ops[i]:=Array.getElem?_eq_getElem (by omega)
    have st:=C.step _ _ ho;rw [st.born,List.mem_append,zgj] at h;rcases h with ⟨rfl,h1,h2⟩|h
    . refine⟨by omega,h1,h2,h2,?_,_,ho,?_⟩
      . rcases st.lim with h3|h3
        . omega
        . omega
      . cases hl:zbA W j ops[j] with
        | true=>rfl
        | false=>have:=st.loud hl;omega
    . obtain⟨k1,k2,k3,k4,k5⟩:=ih j n h;exact⟨by omega,k2,k3,by have:=st.next;omega,k5⟩
theorem Chain.born_mono (C:Chain X W ops n0 hf rec):∀ (d i:Nat),i+d<=ops.size->∀ x∈(rec i).born,x∈(rec (i+d)).born
  | 0,_,_,_,h=>h
  | d+1,i,hi,x,h=>by
    have ih:=C.born_mono d i (by omega) x h
    have ho:ops[i+d]?=some ops[i+d]:=Array.getElem?_eq_getElem (by omega)
    rw [show i+(d+1)=i+d+1 by omega,(C.step _ _ ho).born]
    exact List.mem_append_right _ ih
theorem Chain.born_le (C:Chain X W ops n0 hf rec) {i j:Nat} (h:i<=j) (hj:j<=ops.size) {x:Nat × Nat} (hx:x∈(rec i).born):x∈(rec j).born:=by
  obtain⟨d,rfl⟩:=Nat.exists_eq_add_of_le h;exact C.born_mono d i hj x hx
theorem Chain.all_born (C:Chain X W ops n0 hf rec):∀ (i:Nat),i<=ops.size->∀ n,n0<=n->n<(rec i).h.next->∃ j,(j,n)∈(rec i).born
  | 0,_,n,h1,h2=>by rw [C.next0] at h2;omega
  | i+1,hi,n,h1,h2=>by
    have ih:=C.all_born i (by omega) n h1
    have ho:ops[i]?=some ops[i]:=Array.getElem?_eq_getElem (by omega)
    have st:=C.step _ _ ho;by_cases hn:n<(rec i).h.next
    . obtain⟨j,hj⟩:=ih hn;exact⟨j,by rw [st.born];exact List.mem_append_right _ hj⟩
    . exact⟨i,by rw [st.born,List.mem_append,zgj];exact .inl ⟨rfl,by omega,h2⟩⟩
theorem Chain.stays (C:Chain X W ops n0 hf rec):∀ (d i:Nat),i+d<=ops.size->(∀ j o,i<=j->j<i+d->ops[j]?=some o->wrB W j o=false)->∀ n,n<(rec i).h.next->(rec (i+d)).h.get n=(rec i).h.get n
  | 0,_,_,_,_,_=>rfl
  | d+1,i,hi,hno,n,hn=>by
    have ih:=C.stays d i (by omega) (fun j o h1 h2=>hno j o h1 (by omega)) n hn
    have ho:ops[i+d]?=some ops[i+d]:=Array.getElem?_eq_getElem (by omega)
    rw [show i+(d+1)=i+d+1 by omega,<-ih]
    exact (C.step _ _ ho).stay (hno _ _ (by omega) (by omega) ho) n (by have:=C.next_le d i (by omega);omega)
theorem Chain.stays' (C:Chain X W ops n0 hf rec) {i e:Nat} (h:i<=e) (he:e<=ops.size) (hno:∀ j o,i<=j->j<e->ops[j]?=some o->wrB W j o=false) {n:Nat} (hn:n<(rec i).h.next):(rec e).h.get n=(rec i).h.get n:=by
  obtain⟨d,rfl⟩:=Nat.exists_eq_add_of_le h;exact C.stays d i he hno n hn
theorem Chain.states (C:Chain X W ops n0 hf rec):∀ (d i:Nat),i+d<=ops.size->(∀ j o,i<=j->j<i+d->ops[j]?=some o->zax o=false)->(rec (i+d)).S=(rec i).S
  | 0,_,_,_=>rfl
  | d+1,i,hi,hno=>by
    have ih:=C.states d i (by omega) (fun j o h1 h2=>hno j o h1 (by omega))
    have ho:ops[i+d]?=some ops[i+d]:=Array.getElem?_eq_getElem (by omega)
    rw [show i+(d+1)=i+d+1 by omega,(C.step _ _ ho).state (hno (i+d) _ (by omega) (by omega) ho),ih]
theorem Chain.states' (C:Chain X W ops n0 hf rec) {i e:Nat} (h:i<=e) (he:e<=ops.size) (hno:∀ j o,i<=j->j<e->ops[j]?=some o->zax o=false):(rec e).S=(rec i).S:=by
  obtain⟨d,rfl⟩:=Nat.exists_eq_add_of_le h;exact C.states d i he hno
theorem zkp (p:Nat->Oper->Bool) (ops:Array Oper):∀ (d i:Nat),i+d=ops.size->∃ e,i<=e/\e<=ops.size/\(∀ j o,i<=j->j<e->ops[j]?=some o->p j o=false)/\(e=ops.size\/∃ o,ops[e]?=some o/\p e o=true)
  | 0,i,h=>⟨i,Nat.le_refl _,by omega,fun j o h1 h2=>by omega,.inl (by omega)⟩
  | d+1,i,h=>by
    have ho:ops[i]?=some ops[i]:=Array.getElem?_eq_getElem (by omega)
    cases hp:p i ops[i] with
    | true=>exact⟨i,Nat.le_refl _,by omega,fun j o h1 h2=>by omega,.inr ⟨_,ho,hp⟩⟩
    | false =>
      obtain⟨e,h1,h2,h3,h4⟩:=zkp p ops d (i+1) (by omega)
      refine⟨e,by omega,h2,fun j o k1 k2 hj=>?_,h4⟩
      by_cases hji:j=i
      . subst hji;rw [ho] at hj;cases hj;exact hp
      . exact h3 j o (by omega) k2 hj
variable (rec) in
def zd6 (ops:Array Oper) (listed:Array Bool) (n:Nat):Bool:=(rec ops.size).born.any fun p=>p.2==n && listed.getD p.1 false
variable (X rec) in
def KD (ops:Array Oper) (n0:Nat) (listed:Array Bool) (c:Nat) (n:Nat):Prop:=n<n0\/zd6 rec ops listed n=true\/(VB<=n/\n<VB+X.cnt (rec c).S)
variable (rec) in
def hD (ops:Array Oper) (n0:Nat) (listed:Array Bool) (e:Nat):AHeap:=⟨fun n=>if n<n0\/zd6 rec ops listed n=true then (rec e).h.get n else none,(rec ops.size).h.next⟩
def dstD (ops:Array Oper) (p:Nat):Option Tmp:=(ops[p]?).bind (·.dst)
variable (rec) in
def ziE (ops:Array Oper) (listed:Array Bool) (t:Nat):Value:=zbz (dstD ops) (fun j=>(rec j).v) (fun j=>listed.getD j false) ⟨(rec 0).tmps.toArray,[]⟩ t ops.size
structure DInv (X:Face P σ) (W:List Nat) (ops:Array Oper) (n0:Nat) (rec:Nat->DRec σ) (F0:Emb) (w0:World) (M:Nat->Prop) (listed:Array Bool) (a:Act) (w:World) (F:Emb) (e c:Nat):Prop where
  size:listed.size=ops.size
  down:∀ i o,ops[i]?=some o->listed.getD i false=true->∀ d∈zcY o,listed.getD d false=true
  tmps:a.tmps.size=(rec 0).tmps.length
  defers:a.defers=[]
  slots:∀ t,t<(rec 0).tmps.length->a.tmps.getD t undef=ren F (ziE rec ops listed t)
  vst:∀ j,listed.getD j false=true->Stab (KD X rec ops n0 listed c) F (rec j).v
  tst:∀ v∈(rec 0).tmps,Stab (KD X rec ops n0 listed c) F v
  ele:e<=ops.size
  edone:∀ i o,i<e->ops[i]?=some o->wrB W i o=true->listed.getD i false=true
  eopen:∀ i o,e<=i->ops[i]?=some o->wrB W i o=true->listed.getD i false=false
  eat:e=ops.size\/∃ o,ops[e]?=some o/\wrB W e o=true
  cle:c<=ops.size
  cdone:∀ i o,i<c->ops[i]?=some o->zax o=true->listed.getD i false=true
  copen:∀ i o,c<=i->ops[i]?=some o->zax o=true->listed.getD i false=false
  holds:Holds F (hD rec ops n0 listed e) w
  nVB:n0<=VB
  hst:∀ n b,(hD rec ops n0 listed e).get n=some b->∀ v∈b.cells,Stab (KD X rec ops n0 listed c) F v
  rep:X.rep F (rec c).S w
  kept:Kept w0 M w
  own:∀ n b,(hD rec ops n0 listed e).get n=some b->b.ro=false->F.blk n<w0.heap.size->M (F.blk n)
  fown:∀ b,X.fp F (rec c).S b->b<w0.heap.size->M b
  sep:∀ n b,(hD rec ops n0 listed e).get n=some b->¬ X.fp F (rec c).S (F.blk n)
  same:Same (Kn n0 (X.cnt (rec 0).S)) F0 F
  cnt:X.cnt (rec 0).S<=X.cnt (rec c).S
theorem zjl {listed:Array Bool} {e n:Nat} {b:Blk} (h:(hD rec ops n0 listed e).get n=some b):(n<n0\/zd6 rec ops listed n=true)/\(rec e).h.get n=some b:=by
  unfold hD at h;simp only at h;split at h
  . rename_i hc;exact⟨hc,h⟩
  . cases h
theorem zof {listed:Array Bool} {e n:Nat} {b:Blk} (hc:n<n0\/zd6 rec ops listed n=true) (h:(rec e).h.get n=some b):(hD rec ops n0 listed e).get n=some b:=by
  unfold hD;simp only [if_pos hc,h]
theorem zbQ {listed:Array Bool} {n:Nat}:zd6 rec ops listed n=true↔∃ j,(j,n)∈(rec ops.size).born/\listed.getD j false=true:=by
  unfold zd6;rw [List.any_eq_true];constructor
  . rintro ⟨⟨j,m⟩,h1,h2⟩;simp only [Bool.and_eq_true,beq_iff_eq] at h2;exact⟨j,by rw [<-h2.1];exact h1,h2.2⟩
  . rintro ⟨j,h1,h2⟩;exact⟨(j,n),h1,by simpa using h2⟩
end
section
variable {P:Program} {σ:Type} {X:Face P σ} {W:List Nat} {ops:Array Oper} {n0:Nat} {hf:AHeap} {rec:Nat->DRec σ} {F0:Emb} {w0:World} {M:Nat->Prop}
theorem Holds.sub {F:Emb} {h h1:AHeap} {w:World} (H:Holds F h w) (hs:∀ n b,h1.get n=some b->h.get n=some b):Holds F h1 w :=
  ⟨fun n b hb=>H.row n b (hs n b hb),fun n m b c hb hc hne hro=>H.apart n m b c (hs n b hb) (hs m c hc) hne hro⟩
theorem zgM {K:Nat->Prop} {F:Emb} {dst:Nat->Option Tmp} {val:Nat->Value} {D:Nat->Bool} {a0:Act} {t:Nat} (h0:Stab K F (a0.tmps.getD t undef)):∀ n,(∀ j,j<n->D j=true->Stab K F (val j))->Stab K F (zbz dst val D a0 t n)
  | 0,_=>h0
  | n+1,h=>by
    rw [zbz];split
    . rename_i hc;exact h n (Nat.lt_succ_self n) hc.1
    . exact zgM h0 n (fun j hj=>h j (Nat.lt_succ_of_lt hj))
def MeetD (W:List Nat) (ops:Array Oper) (i:Nat) (x:Oper) (j:Nat) (y:Oper):Prop :=
  (∃ d,x.dst=some d/\d∈zcp ops y)\/(∃ d,y.dst=some d/\d∈zcp ops x)\/(wrB W i x=true/\zbA W j y=true)\/(zbA W i x=true/\wrB W j y=true)\/(zax x=true/\zax y=true)
theorem MeetD.symm {i j:Nat} {x y:Oper} (h:MeetD W ops i x j y):MeetD W ops j y i x:=by
  rcases h with h|h|h|h|h
  . exact .inr (.inl h)
  . exact .inl h
  . exact .inr (.inr (.inr (.inl ⟨h.2,h.1⟩)))
  . exact .inr (.inr (.inl ⟨h.2,h.1⟩))
  . exact .inr (.inr (.inr (.inr ⟨h.2,h.1⟩)))
structure zc2 (W:List Nat) (ops:Array Oper) (listed:Array Bool) (i:Nat) (o:Oper):Prop where
  at':ops[i]?=some o
  lt:i<ops.size
  un:listed.getD i false=false
  deps:∀ d∈zcY o,listed.getD d false=true
  mask:∀ k,((zas ops.toList []).getD i 0).testBit k=true->listed.getD k false=true
  meet:∀ j oj,j≠i->ops[j]?=some oj->MeetD W ops j oj i o->listed.getD j false=decide (j<i)
  loud:wrB W i o=true->zbA W i o=true
theorem zpA (L:zkt W ops) {listed:Array Bool} (hsize:listed.size=ops.size) (hdown:∀ i o,ops[i]?=some o->listed.getD i false=true->∀ d∈zcY o,listed.getD d false=true) {i:Nat} (hi:i∈Region.ready .any ops listed):∃ o,zc2 W ops listed i o:=by
  obtain⟨hun,o,ho,hall⟩:=mem_ready.1 hi;have hlt:i<ops.size:=(Array.getElem?_eq_some_iff.1 ho).1;have hunf:listed.getD i false=false:=by rw [zjZ (by rw [hsize];exact hlt) false true];exact hun
  have hdeps:∀ d∈zcY o,listed.getD d false=true:=fun d hd=>by
    obtain⟨e,he,hb,rfl⟩:=zpX hd;exact hall e he hb
  have hmask:=zgO (D:=fun x=>listed.getD x false=true) hdown i o ho hdeps;refine⟨o,ho,hlt,hunf,hdeps,hmask,fun j oj hne hj hm=>?_,L.loud i o ho⟩;rcases Nat.lt_or_gt_of_ne hne with h|h
  . have:=hmask j (L.meet j i oj o h hj ho hm);simpa [h] using this
  . have hb:=L.meet i j o oj h ho hj hm.symm;have hnd:¬ listed.getD j false=true:=fun hl=>by
      have:=zgO (D:=fun x=>listed.getD x false=true) hdown j oj hj (hdown j oj hj hl) i hb;rw [hunf] at this;exact Bool.noConfusion this
    have:¬ j<i:=by omega
    simpa [this] using hnd
theorem zgg {listed:Array Bool} {i:Nat} (hi:i<listed.size) (j:Nat):(listed.setIfInBounds i true).getD j false=(listed.getD j false || j==i):=by
  by_cases hji:j=i
  . subst hji;simp [hi]
  . rw [getD_set_ne false (Ne.symm hji)];have:(j==i)=false:=by simpa using hji
    rw [this];simp
theorem Chain.rows (C:Chain X W ops n0 hf rec):∀ p,p<ops.size->(⟨(rec (p+1)).tmps.toArray,[]⟩:Act)=(⟨(rec p).tmps.toArray,[]⟩:Act).put (dstD ops p) (rec p).v:=by
  intro p hp;have ho:ops[p]?=some ops[p]:=Array.getElem?_eq_getElem hp;have h:=(C.step p _ ho).tmps;unfold dstD;rw [ho];simp only [Option.bind_some];rw [h];cases ops[p].dst<;>simp [Act.put,putL]
theorem zoc (C:Chain X W ops n0 hf rec) {listed:Array Bool} {i:Nat} {o:Oper} (R:zc2 W ops listed i o) {t:Nat} (ht:t∈zcp ops o) :
    (rec i).tmps.length=(rec 0).tmps.length/\(t<(rec 0).tmps.length->(rec i).tmps.getD t undef=ziE rec ops listed t):=by
  have hw:=zfD (dst:=dstD ops) (r:=fun p=>⟨true,(rec p).v,⟨(rec p).tmps.toArray,[]⟩⟩) (a0:=⟨(rec 0).tmps.toArray,[]⟩) (n:=ops.size) rfl (fun p hp=>C.rows p hp) i (Nat.le_of_lt R.lt);obtain⟨h1,_,h3⟩:=hw;simp only [List.size_toArray] at h1 h3;refine⟨h1,fun htl=>?_⟩;have:=h3 t htl;have e1:((rec i).tmps.toArray).getD t undef=(rec i).tmps.getD t undef:=by simp [List.getD]
  rw [e1] at this;rw [this];unfold ziE;rw [zhZ (m:=i) ops.size (Nat.le_of_lt R.lt)]
  . refine zcB i fun j hj hd=>⟨?_,rfl⟩;unfold dstD at hd;cases hoj:ops[j]? with
    | none=>rw [hoj] at hd;cases hd
    | some oj =>
      rw [hoj] at hd;have:=R.meet j oj (by omega) hoj (.inl ⟨t,hd,ht⟩)
      simpa [hj] using this.symm
  . intro j h1 h2 hd;by_cases hji:j=i
    . subst hji;exact R.un
    . unfold dstD at hd;cases hoj:ops[j]? with
      | none=>rw [hoj] at hd;cases hd
      | some oj =>
        rw [hoj] at hd;have h0:¬ j<i:=by omega
        have:=R.meet j oj hji hoj (.inl ⟨t,hd,ht⟩);simpa [h0] using this
theorem DInv.slot_stab {listed:Array Bool} {a:Act} {w:World} {F:Emb} {e c:Nat} (I:DInv X W ops n0 rec F0 w0 M listed a w F e c) (t:Nat):Stab (KD X rec ops n0 listed c) F (ziE rec ops listed t):=by
  unfold ziE;refine zgM ?_ _ fun j _ hj=>I.vst j hj;simp only [Array.getD_eq_getD_getElem?,List.getElem?_toArray];cases h:(rec 0).tmps[t]? with
  | none=>exact Stab.undef
  | some v=>exact I.tst v (List.mem_of_getElem? h)
theorem DInv.same_at {listed:Array Bool} {a:Act} {w:World} {F:Emb} {e c:Nat} (I:DInv X W ops n0 rec F0 w0 M listed a w F e c) (C:Chain X W ops n0 hf rec) (L:zkt W ops) {i:Nat} {o:Oper} (R:zc2 W ops listed i o) {F':Emb} (hs:Same (KD X rec ops n0 listed c) F F') :
    execOp a.eval o=execOp (actF F' (rec i).tmps).eval o/\Region.wanted o (yielded ops a.tmps)=Region.wanted o (zaj ops (rec i).tmps):=by
  have key:∀ t,t∈o.looksAt ops->a.tmps.getD t undef=(actF F' (rec i).tmps).tmps.getD t undef:=by
    intro t ht;obtain⟨h1,h2⟩:=zoc C R (t:=t) (List.mem_append_left _ ht);have e1:(actF F' (rec i).tmps).tmps.getD t undef=ren F' ((rec i).tmps.getD t undef):=zbU F' (rec i).tmps (.tmp t) rfl;by_cases htl:t<(rec 0).tmps.length
    . rw [e1,h2 htl,I.slots t htl,I.slot_stab t F' hs]
    . have g1:(rec 0).tmps.length<=t:=Nat.le_of_not_lt htl;have g2:(rec i).tmps.length<=t:=by rw [h1];exact g1
      have g3:a.tmps.size<=t:=by rw [I.tmps];exact g1
      rw [e1,show (rec i).tmps.getD t undef=undef by simp [List.getD,List.getElem?_eq_none g2],zaS]
      simp [Array.getElem?_eq_none g3]
  obtain⟨h1,h2⟩:=zrE L.sel R.at' key;exact⟨h1,h2.trans (zc0 _ _ _ _)⟩
theorem DInv.mk' {listed:Array Bool} {a:Act} {w w':World} {F F':Emb} {e c e' c':Nat} (I:DInv X W ops n0 rec F0 w0 M listed a w F e c) {i:Nat} {o:Oper} (R:zc2 W ops listed i o)
    (hF:Same (KD X rec ops n0 listed c) F F') (hK:∀ n,KD X rec ops n0 listed c n->KD X rec ops n0 (listed.setIfInBounds i true) c' n) (hv:Stab (KD X rec ops n0 (listed.setIfInBounds i true) c') F' (rec i).v)
    (he:e'<=ops.size/\(∀ j o,j<e'->ops[j]?=some o->wrB W j o=true->(listed.setIfInBounds i true).getD j false=true)/\(∀ j o,e'<=j->ops[j]?=some o->wrB W j o=true->(listed.setIfInBounds i true).getD j false=false)/\(e'=ops.size\/∃ o,ops[e']?=some o/\wrB W e' o=true))
    (hc:c'<=ops.size/\(∀ j o,j<c'->ops[j]?=some o->zax o=true->(listed.setIfInBounds i true).getD j false=true)/\(∀ j o,c'<=j->ops[j]?=some o->zax o=true->(listed.setIfInBounds i true).getD j false=false))
    (hholds:Holds F' (hD rec ops n0 (listed.setIfInBounds i true) e') w') (hhst:∀ n b,(hD rec ops n0 (listed.setIfInBounds i true) e').get n=some b->∀ v∈b.cells,Stab (KD X rec ops n0 (listed.setIfInBounds i true) c') F' v)
    (hrep:X.rep F' (rec c').S w') (hkept:Kept w0 M w') (hown:∀ n b,(hD rec ops n0 (listed.setIfInBounds i true) e').get n=some b->b.ro=false->F'.blk n<w0.heap.size->M (F'.blk n)) (hfown:∀ b,X.fp F' (rec c').S b->b<w0.heap.size->M b)
    (hsep:∀ n b,(hD rec ops n0 (listed.setIfInBounds i true) e').get n=some b->¬ X.fp F' (rec c').S (F'.blk n)) (hcnt:X.cnt (rec c).S<=X.cnt (rec c').S) :
    DInv X W ops n0 rec F0 w0 M (listed.setIfInBounds i true) (a.put o.dst (ren F' (rec i).v)) w' F' e' c':=by
  have hset:=zgg (listed:=listed) (i:=i) (by rw [I.size];exact R.lt)
  refine⟨by simp [I.size],?_,by rw [zlg,I.tmps],by rw [zg1,I.defers],?_,?_,fun v hv=>(I.tst v hv).move hF hK,he.1,he.2.1,he.2.2.1,he.2.2.2,hc.1,hc.2.1,hc.2.2,hholds,I.nVB,hhst,hrep,hkept,hown,hfown,hsep,I.same.trans (hF.mono ?_),Nat.le_trans I.cnt hcnt⟩
  . intro j oj hj hl d hd;rw [hset] at hl ⊢;simp only [Bool.or_eq_true,beq_iff_eq] at hl ⊢;rcases hl with hl|rfl
    . exact .inl (I.down j oj hj hl d hd)
    . rw [R.at'] at hj;injection hj with hj;subst hj;exact .inl (R.deps d hd)
  . intro t htl;rw [zk6 _ _ _ _ (by rw [I.tmps];exact htl),I.slots t htl]
    unfold ziE;have h1:=zhz (dst:=dstD ops) (val:=fun j=>(rec j).v) (D:=fun j=>listed.getD j false) (a0:=⟨(rec 0).tmps.toArray,[]⟩) (i:=i) (t:=t) (fun j hij hd hdi=>by
      unfold dstD at hd hdi;cases hoj:ops[j]? with
      | none=>rw [hoj] at hd;cases hd
      | some oj =>
        rw [hoj] at hd;rw [R.at'] at hdi;have h0:¬ j<i:=by omega
        have:=R.meet j oj (by omega) hoj (.inl ⟨t,hd,List.mem_append_right _ (by simpa using hdi)⟩)
        simpa [h0] using this) ops.size R.lt
    rw [zcB (D:=fun j=>(listed.setIfInBounds i true).getD j false) (D':=fun j=>listed.getD j false || j==i) (val':=fun j=>(rec j).v) ops.size (fun j _ _=>⟨hset j,rfl⟩),h1];have hdst:dstD ops i=o.dst:=by unfold dstD;rw [R.at'];rfl
    rw [hdst];by_cases hd:o.dst=some t
    . rw [if_pos hd,if_pos hd]
    . rw [if_neg hd,if_neg hd];exact (I.slot_stab t F' hF).symm
  . intro j hj;rw [hset] at hj;by_cases hji:j=i
    . rw [hji];exact hv
    . have h0:(j==i)=false:=by simpa using hji
      rw [h0,Bool.or_false] at hj;exact (I.vst j hj).move hF hK
  . intro n hn;rcases hn with hn|hn
    . exact .inl hn
    . exact .inr (.inr ⟨hn.1,by have:=I.cnt;omega⟩)
end
section
variable {P:Program} {σ:Type} {X:Face P σ} {W:List Nat} {ops:Array Oper} {n0:Nat} {hf:AHeap} {rec:Nat->DRec σ} {F0 F:Emb} {w0 w:World} {M:Nat->Prop} {listed:Array Bool} {a:Act} {e c i:Nat} {o:Oper}
theorem Chain.lim (C:Chain X W ops n0 hf rec) (hn0:n0<=VB):∀ i,i<=ops.size->(rec i).h.next<=VB
  | 0,_=>by rw [C.next0];exact hn0
  | i+1,hi=>by
    have ih:=C.lim hn0 i (by omega)
    have ho:ops[i]?=some ops[i]:=Array.getElem?_eq_getElem (by omega)
    rcases (C.step i _ ho).lim with h|h
    . rw [h];exact ih
    . exact h
theorem DInv.ge (I:DInv X W ops n0 rec F0 w0 M listed a w F e c) (R:zc2 W ops listed i o) (hl:zbA W i o=true):i<=e:=by
  rcases Nat.lt_or_ge e i with h|h
  . exfalso;rcases I.eat with he|⟨oe,hoe,hse⟩
    . have:=R.lt;omega
    . have h1:=R.meet e oe (by omega) hoe (.inr (.inr (.inl ⟨hse,hl⟩)))
      rw [I.eopen e oe (Nat.le_refl _) hoe hse] at h1;simp [h] at h1
  . exact h
theorem DInv.wr_at (I:DInv X W ops n0 rec F0 w0 M listed a w F e c) (R:zc2 W ops listed i o) (hs:wrB W i o=true):i=e:=by
  have h:=I.ge R (R.loud hs);rcases Nat.lt_or_ge i e with h1|h1
  . have:=I.edone i o h1 R.at' hs;rw [R.un] at this;cases this
  . omega
theorem DInv.free (I:DInv X W ops n0 rec F0 w0 M listed a w F e c) (R:zc2 W ops listed i o) (hl:zbA W i o=true) (hs:wrB W i o=false):∀ j oj,i<=j->j<e->ops[j]?=some oj->wrB W j oj=false:=by
  intro j oj h1 h2 hj;cases hst:wrB W j oj with
  | false=>rfl
  | true =>
    exfalso;have h3:=I.edone j oj h2 hj hst;have hji:j≠i:=by rintro rfl;rw [R.at'] at hj;cases hj;rw [hs] at hst;cases hst
    have h4:=R.meet j oj hji hj (.inr (.inr (.inl ⟨hst,hl⟩)));rw [h3] at h4;have:¬ j<i:=by omega
    simp [this] at h4
theorem DInv.lt_e (I:DInv X W ops n0 rec F0 w0 M listed a w F e c) (R:zc2 W ops listed i o) (hl:zbA W i o=true) (hs:wrB W i o=false):i+1<=e:=by
  have h3:=I.ge R hl;rcases Nat.lt_or_ge i e with h4|h4
  . exact h4
  . exfalso;rcases I.eat with h5|⟨oe,h5,h6⟩
    . have:=R.lt;omega
    . obtain rfl:i=e:=by omega
      rw [R.at'] at h5;cases h5;rw [hs] at h6;cases h6
theorem DInv.call_at (I:DInv X W ops n0 rec F0 w0 M listed a w F e c) (R:zc2 W ops listed i o) (hc:zax o=true):c<=i/\∀ j oj,c<=j->j<i->ops[j]?=some oj->zax oj=false:=by
  constructor
  . rcases Nat.lt_or_ge i c with h1|h1
    . have:=I.cdone i o h1 R.at' hc;rw [R.un] at this;cases this
    . exact h1
  . intro j oj h1 h2 hj;cases hst:zax oj with
    | false=>rfl
    | true =>
      exfalso;have h3:=R.meet j oj (by omega) hj (.inr (.inr (.inr (.inr ⟨hst,hc⟩))))
      rw [I.copen j oj h1 hj hst] at h3;simp [h2] at h3
theorem DInv.turn_e (I:DInv X W ops n0 rec F0 w0 M listed a w F e c) (R:zc2 W ops listed i o):∃ e',(wrB W i o=false->e'=e)/\(wrB W i o=true->i+1<=e'/\∀ j oj,i+1<=j->j<e'->ops[j]?=some oj->wrB W j oj=false) /\
    (e'<=ops.size/\(∀ j o,j<e'->ops[j]?=some o->wrB W j o=true->(listed.setIfInBounds i true).getD j false=true)/\(∀ j o,e'<=j->ops[j]?=some o->wrB W j o=true->(listed.setIfInBounds i true).getD j false=false)/\(e'=ops.size\/∃ o,ops[e']?=some o/\wrB W e' o=true)):=by
  have hset:=zgg (listed:=listed) (i:=i) (by rw [I.size];exact R.lt)
  cases hs:wrB W i o with
  | false =>
    refine⟨e,fun _=>rfl,fun h=>(by cases h),I.ele,fun j oj h1 hj hst=>by rw [hset,I.edone j oj h1 hj hst];rfl,fun j oj h1 hj hst=>?_,I.eat⟩
    rw [hset,I.eopen j oj h1 hj hst];have:j≠i:=by rintro rfl;rw [R.at'] at hj;cases hj;rw [hs] at hst;cases hst
    simpa using this
  | true =>
    have hie:=I.wr_at R hs;obtain⟨e',h1,h2,h3,h4⟩:=zkp (wrB W) ops (ops.size - (i+1)) (i+1) (by have:=R.lt;omega)
    refine⟨e',fun h=>(by cases h),fun _=>⟨h1,h3⟩,h2,fun j oj k1 hj hst=>?_,fun j oj k1 hj hst=>?_,h4⟩
    . rw [hset];by_cases hji:j=i
      . simp [hji]
      . by_cases hlt:j<i
        . rw [I.edone j oj (by omega) hj hst];rfl
        . rw [h3 j oj (by omega) k1 hj] at hst;cases hst
    . rw [hset,I.eopen j oj (by omega) hj hst]
      have:j≠i:=by omega
      simpa using this
theorem DInv.turn_c (I:DInv X W ops n0 rec F0 w0 M listed a w F e c) (R:zc2 W ops listed i o):∃ c',(zax o=false->c'=c)/\(zax o=true->c'=i+1) /\
    (c'<=ops.size/\(∀ j o,j<c'->ops[j]?=some o->zax o=true->(listed.setIfInBounds i true).getD j false=true)/\(∀ j o,c'<=j->ops[j]?=some o->zax o=true->(listed.setIfInBounds i true).getD j false=false)):=by
  have hset:=zgg (listed:=listed) (i:=i) (by rw [I.size];exact R.lt)
  cases hs:zax o with
  | false =>
    refine⟨c,fun _=>rfl,fun h=>(by cases h),I.cle,fun j oj h1 hj hst=>by rw [hset,I.cdone j oj h1 hj hst];rfl,fun j oj h1 hj hst=>?_⟩
    rw [hset,I.copen j oj h1 hj hst];have:j≠i:=by rintro rfl;rw [R.at'] at hj;cases hj;rw [hs] at hst;cases hst
    simpa using this
  | true =>
    obtain⟨h1,h2⟩:=I.call_at R hs;refine⟨i+1,fun h=>(by cases h),fun _=>rfl,by have:=R.lt;omega,fun j oj k1 hj hst=>?_,fun j oj k1 hj hst=>?_⟩
    . rw [hset];by_cases hji:j=i
      . simp [hji]
      . by_cases hlt:j<c
        . rw [I.cdone j oj hlt hj hst];rfl
        . rw [h2 j oj (by omega) (by omega) hj] at hst;cases hst
    . rw [hset,I.copen j oj (by omega) hj hst]
      have:j≠i:=by omega
      simpa using this
theorem zcP (hsize:listed.size=ops.size) (R:zc2 W ops listed i o) (n:Nat):zd6 rec ops (listed.setIfInBounds i true) n=true↔zd6 rec ops listed n=true\/(i,n)∈(rec ops.size).born:=by
  have hset:=zgg (listed:=listed) (i:=i) (by rw [hsize];exact R.lt)
  rw [zbQ,zbQ];constructor
  . rintro ⟨j,h1,h2⟩;rw [hset] at h2;by_cases hji:j=i
    . exact .inr (hji ▸ h1)
    . have h0:(j==i)=false:=by simpa using hji
      rw [h0,Bool.or_false] at h2;exact .inl ⟨j,h1,h2⟩
  . rintro (⟨j,h1,h2⟩|h)
    . exact⟨j,h1,by rw [hset,h2];rfl⟩
    . exact⟨i,h,by rw [hset];simp⟩
theorem zfz (C:Chain X W ops n0 hf rec) {n:Nat} (h:zd6 rec ops listed n=true):n<(rec ops.size).h.next/\n<VB:=by
  obtain⟨j,h1,_⟩:=zbQ.1 h;have:=C.born ops.size (Nat.le_refl _) j n h1;exact⟨this.2.2.2.1,this.2.2.2.2.1⟩
theorem zfK (C:Chain X W ops n0 hf rec) (hi:i<ops.size) (n:Nat):(i,n)∈(rec ops.size).born↔(rec i).h.next<=n/\n<(rec (i+1)).h.next:=by
  constructor
  . intro h;obtain⟨_,h1,h2,_⟩:=C.born ops.size (Nat.le_refl _) i n h;exact⟨h1,h2⟩
  . rintro ⟨h1,h2⟩;have ho:ops[i]?=some ops[i]:=Array.getElem?_eq_getElem hi;refine C.born_le (i:=i+1) hi (Nat.le_refl _) ?_;rw [(C.step i _ ho).born];exact List.mem_append_left _ (zgj.2 ⟨rfl,h1,h2⟩)
theorem DInv.fresh (_:DInv X W ops n0 rec F0 w0 M listed a w F e c) (C:Chain X W ops n0 hf rec) (R:zc2 W ops listed i o) {n:Nat} (h1:(rec i).h.next<=n) (h2:n<(rec (i+1)).h.next):¬ KD X rec ops n0 listed c n/\n<VB:=by
  have hb:=(zfK C R.lt n).2 ⟨h1,h2⟩;have hV:=(C.born ops.size (Nat.le_refl _) i n hb).2.2.2.2.1;refine⟨fun hk=>?_,hV⟩;have hge:n0<=n:=by have:=C.next_le' (Nat.zero_le i) (Nat.le_of_lt R.lt);rw [C.next0] at this;omega
  rcases hk with hk|hk|hk
  . omega
  . obtain⟨j,k1,k2⟩:=zbQ.1 hk;obtain⟨k3,k4,k5,_⟩:=C.born ops.size (Nat.le_refl _) j n k1;have hji:j=i:=by
      rcases Nat.lt_trichotomy j i with h|h|h
      . have:=C.next_le' (i:=j+1) (j:=i) (by omega) (Nat.le_of_lt R.lt);omega
      . exact h
      . have:=C.next_le' (i:=i+1) (j:=j) (by omega) (Nat.le_of_lt k3);omega
    rw [hji,R.un] at k2;cases k2
  . omega
theorem DInv.born_ahead (_:DInv X W ops n0 rec F0 w0 M listed a w F e c) (C:Chain X W ops n0 hf rec) (R:zc2 W ops listed i o) (hs:wrB W i o=true) {n:Nat} (h:n<n0\/zd6 rec ops listed n=true):n<(rec i).h.next:=by
  rcases h with h|h
  . have:=C.next_le' (Nat.zero_le i) (Nat.le_of_lt R.lt);rw [C.next0] at this;omega
  . obtain⟨j,h1,h2⟩:=zbQ.1 h;obtain⟨k1,k2,k3,_,_,oj,k4,k5⟩:=C.born ops.size (Nat.le_refl _) j n h1;have hji:j≠i:=by rintro rfl;rw [R.un] at h2;cases h2
    have:=R.meet j oj hji k4 (.inr (.inr (.inr (.inl ⟨k5,hs⟩))));rw [h2] at this;have hlt:j<i:=by simpa using this
    have h3:=C.next_le' (i:=j+1) (j:=i) (by omega) (Nat.le_of_lt R.lt)
    omega
theorem DInv.still (I:DInv X W ops n0 rec F0 w0 M listed a w F e c) (C:Chain X W ops n0 hf rec) (R:zc2 W ops listed i o) (hh:(rec (i+1)).h=(rec i).h) (hS:(rec (i+1)).S=(rec i).S) (hv:Stab (KD X rec ops n0 listed c) F (rec i).v) :
    ∃ e' c',DInv X W ops n0 rec F0 w0 M (listed.setIfInBounds i true) (a.put o.dst (ren F (rec i).v)) w F e' c':=by
  obtain⟨e',he1,he2,he⟩:=I.turn_e R;obtain⟨c',hc1,hc2,hc⟩:=I.turn_c R;have hnb:∀ n,(i,n) ∉ (rec ops.size).born:=fun n h=>by
    have:=(zfK C R.lt n).1 h;rw [hh] at this;omega
  have hborn:∀ n,zd6 rec ops (listed.setIfInBounds i true) n=zd6 rec ops listed n:=fun n=>by
    rw [Bool.eq_iff_iff,zcP I.size R];exact⟨fun h=>h.resolve_right (hnb n),.inl⟩
  have hcS:(rec c').S=(rec c).S:=by
    cases hs:zax o with
    | false=>rw [hc1 hs]
    | true =>
      obtain⟨k1,k2⟩:=I.call_at R hs;rw [hc2 hs,hS,C.states' k1 (Nat.le_of_lt R.lt) k2]
  have hK:∀ n,KD X rec ops n0 listed c n->KD X rec ops n0 (listed.setIfInBounds i true) c' n:=fun n hn=>by
    unfold KD at hn ⊢;rw [hborn,hcS];exact hn
  have hget:∀ n,(hD rec ops n0 (listed.setIfInBounds i true) e').get n=(hD rec ops n0 listed e).get n:=fun n=>by
    unfold hD;simp only [hborn];split
    . rename_i hn;cases hs:wrB W i o with
      | false=>rw [he1 hs]
      | true =>
        have hie:=I.wr_at R hs;have hlt:=I.born_ahead C R hs hn;obtain⟨k1,k2⟩:=he2 hs;rw [C.stays' k1 he.1 k2 (by rw [hh];exact hlt),hh,hie]
    . rfl
  have hD':hD rec ops n0 (listed.setIfInBounds i true) e'=hD rec ops n0 listed e:=by
    have h1:(hD rec ops n0 (listed.setIfInBounds i true) e').get=(hD rec ops n0 listed e).get:=funext hget;have h2:(hD rec ops n0 (listed.setIfInBounds i true) e').next=(hD rec ops n0 listed e).next:=rfl;cases h3:hD rec ops n0 (listed.setIfInBounds i true) e';cases h4:hD rec ops n0 listed e;rw [h3,h4] at h1 h2;simp only at h1 h2;rw [h1,h2]
  refine⟨e',c',I.mk' R (Same.refl _ _) hK (hv.move (Same.refl _ _) hK) he hc ?_ ?_ ?_ I.kept ?_ ?_ ?_ (by rw [hcS];exact Nat.le_refl _)⟩
  . rw [hD'];exact I.holds
  . rw [hD'];exact fun n b hb v hv=>(I.hst n b hb v hv).move (Same.refl _ _) hK
  . rw [hcS];exact I.rep
  . rw [hD'];exact I.own
  . rw [hcS];exact I.fown
  . rw [hD',hcS];exact I.sep
theorem hD_K:∀ n b,(hD rec ops n0 listed e).get n=some b->KD X rec ops n0 listed c n:=by
  intro n b hb;rcases (zjl hb).1 with h|h
  . exact .inl h
  . exact .inr (.inl h)
theorem zqD (C:Chain X W ops n0 hf rec) (hn0:n0<=VB) {n:Nat} (h:KD X rec ops n0 listed c n):n<VB+X.cnt (rec c).S:=by
  rcases h with h|h|h
  . omega
  . have:=(zfz C h).2;omega
  . exact h.2
theorem zrS (C:Chain X W ops n0 hf rec) (hn0:n0<=VB) {n:Nat} {b:Blk} (h:(hD rec ops n0 listed e).get n=some b):n<VB:=by
  rcases (zjl h).1 with h|h
  . omega
  . exact (zfz C h).2
theorem DInv.oper_stab (I:DInv X W ops n0 rec F0 w0 M listed a w F e c) (C:Chain X W ops n0 hf rec) (R:zc2 W ops listed i o) {x:Operand} (hx:x∈o.op.operands) (hb:zaN x=true):Stab (KD X rec ops n0 listed c) F (evA (rec i).tmps x):=by
  cases x with
  | tmp t =>
    have ht:t∈zcp ops o:=by
      unfold zcp Oper.looksAt;exact List.mem_append_left _ (List.mem_append_left _ (List.mem_filterMap.2 ⟨.tmp t,by simpa using hx,rfl⟩))
    obtain⟨h1,h2⟩:=zoc C R ht;simp only [evA];by_cases htl:t<(rec 0).tmps.length
    . rw [h2 htl];exact I.slot_stab t
    . have g2:(rec i).tmps.length<=t:=by rw [h1];exact Nat.le_of_not_lt htl
      rw [show (rec i).tmps.getD t undef=undef by simp [List.getD,List.getElem?_eq_none g2]]
      exact Stab.undef
  | const v=>exact Stab.plain hb
  | global g=>cases hb
  | func f=>intro F' _;simp [evA]
theorem zkW {tmps:List Value} {o:Oper} (hb:o.op.operands.all zaN=true) (F':Emb):∀ x∈o.op.operands,(actF F' tmps).eval x=ren F' (evA tmps x) :=
  fun x hx=>zbU F' tmps x (by simpa using (Array.all_eq_true_iff_forall_mem.1 hb) x hx)
theorem zhL (I:DInv X W ops n0 rec F0 w0 M listed a w F e c) (C:Chain X W ops n0 hf rec) (R:zc2 W ops listed i o) (hb:o.op.operands.all zaN=true):∀ v,(∃ x∈o.op.operands,v=evA (rec i).tmps x)->Stab (KD X rec ops n0 listed c) F v:=by
  rintro v ⟨x,hx,rfl⟩;exact I.oper_stab C R hx (by simpa using (Array.all_eq_true_iff_forall_mem.1 hb) x hx)
theorem DInv.view (I:DInv X W ops n0 rec F0 w0 M listed a w F e c) (C:Chain X W ops n0 hf rec) {vs:Value->Prop} (hv:∀ v,vs v->Stab (KD X rec ops n0 listed c) F v) {h:AHeap} (hs:∀ n b,h.get n=some b->∃ b0,(hD rec ops n0 listed e).get n=some b0/\b={ b0 with ro:=true }) :
    AInv X F w (fun b=>X.fp F (rec c).S b) (KD X rec ops n0 listed c) vs h (rec c).S w:=by
  refine⟨⟨?_,?_⟩,I.rep,hv,?_,?_,fun n h1 h2=>.inr (.inr ⟨h1,h2⟩),fun n hn=>zqD C I.nVB hn,Kept.refl _ _,?_,fun b hb _=>hb,?_⟩
  . intro n b hb;obtain⟨b0,h0,rfl⟩:=hs n b hb;obtain⟨pre,post,fr,r1,r2,r3,r4⟩:=I.holds.row n b0 h0;exact⟨pre,post,fr,r1,r2,fun h=>(by cases h),r4⟩
  . intro n m b c' hb hc hne hr;obtain⟨b0,h0,rfl⟩:=hs n b hb;cases hr
  . intro n b hb v hv;obtain⟨b0,h0,rfl⟩:=hs n b hb;exact I.hst n b0 h0 v hv
  . intro n b hb;obtain⟨b0,h0,rfl⟩:=hs n b hb;exact⟨hD_K n b0 h0,zrS C I.nVB h0⟩
  . intro n b hb hr;obtain⟨b0,h0,rfl⟩:=hs n b hb;cases hr
  . intro n b hb;obtain⟨b0,h0,rfl⟩:=hs n b hb;exact I.sep n b0 h0
theorem DInv.vis (I:DInv X W ops n0 rec F0 w0 M listed a w F e c) (C:Chain X W ops n0 hf rec) (R:zc2 W ops listed i o) (hl:zbA W i o=true) (hs:wrB W i o=false) :
    ∀ n b,(visH n0 (rec i).born ((zas ops.toList []).getD i 0) (rec i).h).get n=some b->∃ b0,(hD rec ops n0 listed e).get n=some b0/\b={ b0 with ro:=true }:=by
  intro n b hb;unfold visH at hb;simp only at hb;split at hb
  . rename_i hc;cases hg:(rec i).h.get n with
    | none=>rw [hg] at hb;cases hb
    | some b0 =>
      rw [hg] at hb;cases hb;have hlow:=C.low i (Nat.le_of_lt R.lt) n b0 hg;refine⟨b0,zof ?_ ?_,rfl⟩
      . rcases hc with hc|hc
        . exact .inl hc
        . rw [List.any_eq_true] at hc;obtain⟨⟨j,m⟩,h1,h2⟩:=hc;simp only [Bool.and_eq_true,beq_iff_eq] at h2;refine .inr (zbQ.2 ⟨j,?_,R.mask j h2.2⟩);rw [<-h2.1];exact C.born_le (Nat.le_of_lt R.lt) (Nat.le_refl _) h1
      . rw [C.stays' (I.ge R hl) I.ele (I.free R hl hs) hlow];exact hg
  . cases hb
theorem DInv.sems (I:DInv X W ops n0 rec F0 w0 M listed a w F e c) (C:Chain X W ops n0 hf rec) (R:zc2 W ops listed i o) {c':Nat} (hc1:zax o=false->c'=c) (hc2:zax o=true->c'=i+1) {ev:Operand->Value} {h h':AHeap} {v:Value} (hS:OpSems X o ev h (rec i).S v h' (rec (i+1)).S) :
    OpSem X o ev h (rec c).S v h' (rec c').S:=by
  cases hs:zax o with
  | false=>rw [hc1 hs];exact hS.2 hs _
  | true =>
    obtain⟨k1,k2⟩:=I.call_at R hs;rw [hc2 hs,<-C.states' k1 (Nat.le_of_lt R.lt) k2];exact hS.1 hs
theorem DInv.semsW (I:DInv X W ops n0 rec F0 w0 M listed a w F e c) (C:Chain X W ops n0 hf rec) (R:zc2 W ops listed i o) {c':Nat} (hc1:zax o=false->c'=c) (hc2:zax o=true->c'=i+1) {ev:Operand->Value} {h h':AHeap} {v:Value} (hS:zih X o ev h (rec i).S v h' (rec (i+1)).S) :
    zg8 X o ev h (rec c).S v h' (rec c').S:=by
  cases hs:zax o with
  | false=>rw [hc1 hs];exact hS.2 hs _
  | true =>
    obtain⟨k1,k2⟩:=I.call_at R hs;rw [hc2 hs,<-C.states' k1 (Nat.le_of_lt R.lt) k2];exact hS.1 hs
theorem DInv.quiet (I:DInv X W ops n0 rec F0 w0 M listed a w F e c) (C:Chain X W ops n0 hf rec) (L:zkt W ops) (R:zc2 W ops listed i o) (hb:o.op.operands.all zaN=true) (hs:wrB W i o=false) {hv:AHeap}
    (hS:OpSems X o (evA (rec i).tmps) (if zbA W i o=true then visH n0 (rec i).born ((zas ops.toList []).getD i 0) (rec i).h else if farB W i=true then atN hf (rec i).h.next else zj0 (rec i).h.next) (rec i).S (rec i).v hv (rec (i+1)).S) (hh:(rec (i+1)).h=zdC (rec i).h hv) :
    OpWp P o a.eval w fun u w'=>∃ F' e' c',DInv X W ops n0 rec F0 w0 M (listed.setIfInBounds i true) (a.put o.dst u) w' F' e' c':=by
  obtain⟨e',he1,_,he⟩:=I.turn_e R;obtain⟨c',hc1,hc2,hc⟩:=I.turn_c R;obtain rfl:=he1 hs;have hsem:=I.sems C R hc1 hc2 hS;have hnx:(rec (i+1)).h.next=hv.next:=by rw [hh];rfl
  have hqn:(if zbA W i o=true then visH n0 (rec i).born ((zas ops.toList []).getD i 0) (rec i).h else if farB W i=true then atN hf (rec i).h.next else zj0 (rec i).h.next).next=(rec i).h.next:=by (repeat' split)<;>rfl
  obtain⟨hn1,hcn,hro,hsem⟩:=hsem;rw [hqn] at hn1 hro;have hview:∀ n b,(if zbA W i o=true then visH n0 (rec i).born ((zas ops.toList []).getD i 0) (rec i).h else if farB W i=true then atN hf (rec i).h.next else zj0 (rec i).h.next).get n=some b->∃ b0,(hD rec ops n0 listed e').get n=some b0/\b={ b0 with ro:=true }:=by
    intro n b hb;split at hb
    . rename_i hl;exact I.vis C R hl hs n b hb
    . split at hb
      . rename_i hfar;obtain⟨k1,b0,rfl,k2⟩:=C.still n b hb;refine⟨b0,zof (.inl k1) ?_,rfl⟩;by_cases hU:e'<=farU W ops.size
        . exact k2 _ I.ele hU
        . have hiU:=L.far i R.lt hfar;have hno:∀ j oj,farU W ops.size<=j->j<e'->ops[j]?=some oj->wrB W j oj=false:=fun j oj h1 h2 hj=>by
            cases hw:wrB W j oj with
            | false=>rfl
            | true =>
              exfalso;have hl:=I.edone j oj h2 hj hw;have hb:=L.behind i j o oj (by omega) R.at' hj hfar hw h1
              have:=zgO (D:=fun x=>listed.getD x false=true) I.down j oj hj (I.down j oj hj hl) i hb;rw [R.un] at this;exact Bool.noConfusion this
          have hle:farU W ops.size<=ops.size:=by have:=I.ele;omega
          rw [C.stays' (show farU W ops.size<=e' by omega) I.ele hno (by have:=C.next_le' (Nat.zero_le _) hle;rw [C.next0] at this;omega)]
          exact k2 _ hle (Nat.le_refl _)
      . cases hb
  have hvlow:∀ m c,(if zbA W i o=true then visH n0 (rec i).born ((zas ops.toList []).getD i 0) (rec i).h else if farB W i=true then atN hf (rec i).h.next else zj0 (rec i).h.next).get m=some c->m<(rec i).h.next:=by
    intro m c hm;split at hm
    . unfold visH at hm;simp only at hm;split at hm
      . cases hg:(rec i).h.get m with
        | none=>rw [hg] at hm;cases hm
        | some b0=>exact C.low i (Nat.le_of_lt R.lt) m b0 hg
      . cases hm
    . split at hm
      . obtain⟨k1,b0,_,k2⟩:=C.still m c hm;exact C.low i (Nat.le_of_lt R.lt) m b0 (k2 i (Nat.le_of_lt R.lt) (Nat.le_of_lt (L.far i R.lt (by assumption))))
      . cases hm
  have IV:=I.view C (zhL I C R hb) hview;have hfr:∀ x,(rec i).h.next<=x->x<hv.next->¬ KD X rec ops n0 listed c x/\x<VB:=fun x h1 h2=>I.fresh C R h1 (by rw [hnx];exact h2)
  have hmain:=hsem (KD X rec ops n0 listed c) F w w (fun b=>X.fp F (rec c).S b) (actF F (rec i).tmps).eval (by rw [hqn];exact hfr) (zkW hb F) IV
  rw [hqn] at hmain;have hrun:=(I.same_at C L R (Same.refl _ F)).1;refine (hmain.congr hrun).mono ?_;rintro u w' ⟨F',rfl,hF,J⟩;have hKK:∀ n,KAdd (KD X rec ops n0 listed c) (rec i).h.next hv.next (X.cnt (rec c).S) (X.cnt (rec c').S) n->KD X rec ops n0 (listed.setIfInBounds i true) c' n:=by
    intro n hn;rcases hn with (hn|hn|hn)|hn|hn
    . exact .inl hn
    . exact .inr (.inl ((zcP I.size R n).2 (.inl hn)))
    . exact .inr (.inr ⟨hn.1,by omega⟩)
    . exact .inr (.inl ((zcP I.size R n).2 (.inr ((zfK C R.lt n).2 ⟨hn.1,by rw [hnx];exact hn.2⟩))))
    . exact .inr (.inr ⟨by omega,hn.2⟩)
  have hK:∀ n,KD X rec ops n0 listed c n->KD X rec ops n0 (listed.setIfInBounds i true) c' n:=fun n hn=>hKK n (.inl hn);have hget:∀ n b,(hD rec ops n0 (listed.setIfInBounds i true) e').get n=some b->((rec i).h.next<=n/\hv.get n=some b/\b.ro=false)\/(hD rec ops n0 listed e').get n=some b:=by
    intro n b hb;obtain⟨h1,h2⟩:=zjl hb;rw [zcP I.size R n] at h1;by_cases hin:(i,n)∈(rec ops.size).born
    . obtain⟨k1,k2⟩:=(zfK C R.lt n).1 hin;have hl:zbA W i o=true:=by
        cases hl:zbA W i o with
        | true=>rfl
        | false=>have:=(C.step i o R.at').loud hl;omega
      rw [C.stays' (I.lt_e R hl hs) I.ele (fun j oj q1 q2=>I.free R hl hs j oj (by omega) q2) k2,hh] at h2
      unfold zdC at h2;simp only at h2;rw [if_pos k1,if_pos (by rw [<-hnx];exact k2)] at h2
      exact .inl ⟨k1,h2,hro n b k1 h2 hvlow⟩
    . exact .inr (zof (by rcases h1 with h1|h1;exact .inl h1;exact .inr (h1.resolve_right hin)) h2)
  have hsame:=I.holds.same (fun n b hb=>hD_K n b hb) I.hst hF;have hblk:∀ n b,(hD rec ops n0 listed e').get n=some b->F'.blk n=F.blk n/\F.blk n<w.heap.size:=fun n b hb=>⟨(hF n (hD_K n b hb)).1.symm,I.holds.blk_lt hb⟩;have hnewB:∀ n b,hv.get n=some b->b.ro=false->F'.blk n<w.heap.size->X.fp F (rec c).S (F'.blk n):=fun n b hb hr hx=>J.own n b hb hr hx;refine⟨F',e',c',I.mk' R hF hK ((J.vst _ rfl).move (Same.refl _ _) hKK) he hc ⟨?_,?_⟩ ?_ J.rep (I.kept.trans J.kept (fun b hb hf=>I.fown b hf hb)) ?_ ?_ ?_ hcn⟩
  . intro n b hb;rcases hget n b hb with ⟨k1,k2,k3⟩|hb
    . exact J.holds.row n b k2
    . obtain⟨pre,post,fr,r1,r2⟩:=hsame.row n b hb;refine⟨pre,post,fr,?_,r2⟩;obtain⟨q1,q2⟩:=hblk n b hb;rw [q1] at r1 ⊢;rw [J.kept.block _ q2 (I.sep n b hb)];exact r1
  . intro n m b d hb hd hnm hr;rcases hget n b hb with ⟨k1,k2,k3⟩|hb<;>rcases hget m d hd with ⟨k1',k2',k3'⟩|hd
    . exact J.holds.apart n m b d k2 k2' hnm hr
    . obtain⟨q1,q2⟩:=hblk m d hd;intro he;rw [q1] at he;have:=hnewB n b k2 k3 (by rw [he];exact q2)
      rw [he] at this;exact I.sep m d hd this
    . obtain⟨q1,q2⟩:=hblk n b hb;intro he;rw [q1] at he;have:=hnewB m d k2' k3' (by rw [<-he];exact q2)
      rw [<-he] at this;exact I.sep n b hb this
    . exact hsame.apart n m b d hb hd hnm hr
  . intro n b hb v hv';rcases hget n b hb with ⟨k1,k2,k3⟩|hb
    . exact (J.hst n b k2 v hv').move (Same.refl _ _) hKK
    . exact (I.hst n b hb v hv').move hF hK
  . intro n b hb hr hx;rcases hget n b hb with ⟨k1,k2,k3⟩|hb
    . exact I.fown _ (hnewB n b k2 k3 (Nat.lt_of_lt_of_le hx I.kept.size)) hx
    . obtain⟨q1,q2⟩:=hblk n b hb;rw [q1] at hx ⊢;exact I.own n b hb hr hx
  . intro b hb hx;exact I.fown b (J.fown b hb (Nat.lt_of_lt_of_le hx I.kept.size)) hx
  . intro n b hb hx;rcases hget n b hb with ⟨k1,k2,k3⟩|hb
    . exact J.sep n b k2 hx
    . obtain⟨q1,q2⟩:=hblk n b hb;rw [q1] at hx;exact I.sep n b hb (J.fown _ hx q2)
theorem DInv.writes (I:DInv X W ops n0 rec F0 w0 M listed a w F e c) (C:Chain X W ops n0 hf rec) (L:zkt W ops) (R:zc2 W ops listed i o) (hb:o.op.operands.all zaN=true) (hs:wrB W i o=true)
    (hS:zih X o (evA (rec i).tmps) (rec i).h (rec i).S (rec i).v (rec (i+1)).h (rec (i+1)).S) :
    OpWp P o a.eval w fun u w'=>∃ F' e' c',DInv X W ops n0 rec F0 w0 M (listed.setIfInBounds i true) (a.put o.dst u) w' F' e' c':=by
  obtain⟨e',_,he2,he⟩:=I.turn_e R;obtain⟨c',hc1,hc2,hc⟩:=I.turn_c R;obtain⟨he3,he4⟩:=he2 hs;have hie:=I.wr_at R hs;have hsem:=I.semsW C R hc1 hc2 hS;obtain⟨hn1,hcn,hsem⟩:=hsem;have hlisted:∀ n,n<(rec i).h.next->n<n0\/zd6 rec ops listed n=true:=by
    intro n hlt;by_cases hn:n<n0
    . exact .inl hn
    . obtain⟨j,hj⟩:=C.all_born i (Nat.le_of_lt R.lt) n (Nat.le_of_not_lt hn) hlt;obtain⟨k1,_,_,_,_,oj,k4,k5⟩:=C.born i (Nat.le_of_lt R.lt) j n hj;refine .inr (zbQ.2 ⟨j,C.born_le (Nat.le_of_lt R.lt) (Nat.le_refl _) hj,?_⟩);have:=R.meet j oj (by omega) k4 (.inr (.inr (.inr (.inl ⟨k5,hs⟩))))
      simpa [k1] using this
  have hKD:KD X rec ops n0 listed c=Kn (rec i).h.next (X.cnt (rec c).S):=by
    funext n;apply propext;constructor
    . rintro (h|h|h)
      . exact .inl (I.born_ahead C R hs (.inl h))
      . exact .inl (I.born_ahead C R hs (.inr h))
      . exact .inr h
    . rintro (h|h)
      . rcases hlisted n h with h|h
        . exact .inl h
        . exact .inr (.inl h)
      . exact .inr (.inr h)
  have hvisb:∀ n z,(rec i).h.get n=some z->n<n0\/zd6 rec ops listed n=true:=by
    intro n z hz;by_cases hn:n<n0
    . exact .inl hn
    . obtain⟨j,hj⟩:=C.all_born i (Nat.le_of_lt R.lt) n (Nat.le_of_not_lt hn) (C.low i (Nat.le_of_lt R.lt) n z hz);obtain⟨k1,_,_,_,_,oj,k4,k5⟩:=C.born i (Nat.le_of_lt R.lt) j n hj;refine .inr (zbQ.2 ⟨j,C.born_le (Nat.le_of_lt R.lt) (Nat.le_refl _) hj,?_⟩);have:=R.meet j oj (by omega) k4 (.inr (.inr (.inr (.inl ⟨k5,hs⟩))))
      simpa [k1] using this
  have hDb:∀ n z,(rec i).h.get n=some z->(hD rec ops n0 listed e).get n=some z:=fun n z hz=>zof (hvisb n z hz) (by rw [<-hie];exact hz)
  have IV:AInv X F w0 M (KD X rec ops n0 listed c) (fun v=>∃ x∈o.op.operands,v=evA (rec i).tmps x) (rec i).h (rec c).S w :=
    ⟨I.holds.sub hDb,I.rep,zhL I C R hb,fun n b hb=>I.hst n b (hDb n b hb),fun n b hb=>⟨hD_K n b (hDb n b hb),zrS C I.nVB (hDb n b hb)⟩,fun n h1 h2=>.inr (.inr ⟨h1,h2⟩),fun n hn=>zqD C I.nVB hn,I.kept,fun n b hb=>I.own n b (hDb n b hb),I.fown,fun n b hb=>I.sep n b (hDb n b hb)⟩
  have hmain:=hsem F w0 w M (actF F (rec i).tmps).eval (C.lim I.nVB i (Nat.le_of_lt R.lt)) (zkW hb F) (hKD ▸ IV);rw [<-hKD] at hmain;have hrun:=(I.same_at C L R (Same.refl _ F)).1;refine (hmain.congr hrun).mono ?_;rintro u w' ⟨F',rfl,hF,J⟩;have hKK:∀ n,KAdd (KD X rec ops n0 listed c) (rec i).h.next (rec (i+1)).h.next (X.cnt (rec c).S) (X.cnt (rec c').S) n->KD X rec ops n0 (listed.setIfInBounds i true) c' n:=by
    intro n hn;rcases hn with (hn|hn|hn)|hn|hn
    . exact .inl hn
    . exact .inr (.inl ((zcP I.size R n).2 (.inl hn)))
    . exact .inr (.inr ⟨hn.1,by omega⟩)
    . exact .inr (.inl ((zcP I.size R n).2 (.inr ((zfK C R.lt n).2 hn))))
    . exact .inr (.inr ⟨by omega,hn.2⟩)
  have hget:∀ n b,(hD rec ops n0 (listed.setIfInBounds i true) e').get n=some b->(rec (i+1)).h.get n=some b:=by
    intro n b hb;obtain⟨h1,h2⟩:=zjl hb;rw [zcP I.size R n] at h1;have hlt:n<(rec (i+1)).h.next:=by
      rcases h1 with h1|h1|h1
      . have:=I.born_ahead C R hs (.inl h1);omega
      . have:=I.born_ahead C R hs (.inr h1);omega
      . exact ((zfK C R.lt n).1 h1).2
    rw [C.stays' he3 he.1 he4 hlt] at h2;exact h2
  exact⟨F',e',c',I.mk' R hF (fun n hn=>hKK n (.inl hn)) ((J.vst _ rfl).move (Same.refl _ _) hKK) he hc (J.holds.sub hget) (fun n b hb v hv=>(J.hst n b (hget n b hb) v hv).move (Same.refl _ _) hKK) J.rep J.kept (fun n b hb=>J.own n b (hget n b hb)) J.fown (fun n b hb=>J.sep n b (hget n b hb)) hcn⟩
end
end Go.Proofs.Ytgndgbnhkoppmaa
