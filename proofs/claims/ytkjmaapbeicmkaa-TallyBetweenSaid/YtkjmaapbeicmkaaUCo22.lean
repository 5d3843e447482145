/-
  Memories, ports and threads in a world: the faces of goroutine 0 (mn = true), and of a body.
  Condition: each call that is known does what is said of it (zav).
-/
import Derived.Test.YtkjmaapbeicmkaaUCo11
import Derived.Test.YtkjmaapbeicmkaaUAx1
import Derived.Conc.TokenWords
import Derived.Test.YtkjmaapbeicmkaaUQuick
import Derived.Deep.Slices
import Derived.Deep.Fields
import Derived.ChangeSame
set_option maxHeartbeats 40000000
set_option linter.unusedVariables false
set_option linter.unusedSimpArgs false
set_option maxRecDepth 100000
open Go.Instr renaming makeInterface->qa,makeFunc->qb
open Go.Conc renaming goes_oper_k->qc,mem_listed->qd,goes_go->qg,stepG_region_end->qk,stepG_region->qq,stepG_seq->qv,Goes->qE
open List renaming getElem?_eq_getElem->qe,replicate->qh,range->qo,getElem?_eq_some_iff->qu,flatMap_cons->qx,drop_eq_getElem_cons->qD,take_length->qN,all_eq_true->qO
open Go.Proofs.Ytkjmaapbeicmkaa.Clo renaming plain->qf
open List.range renaming loop->qi
open Nat renaming zero_add->qj,reduceAdd->ql,le_refl->qz,lt_of_lt_of_le->qM
open Option renaming getD_some->qm
open List.cons renaming injEq->qn
open Bool renaming and_eq_true->qp
open Go.Value.slice renaming injEq->qr
open Go.World renaming cell?->qs
open Array renaming getElem?_append_right->qA,getElem?_eq_some_iff->qB,getElem?_append_left->qC,getElem?_extract->qF,getElem?_toList->qH,append_assoc->qK
namespace Go.Proofs.Ytkjmaapbeicmkaa
open Go Go.Conc
open Go.ConcN (sumTo upd sumTo_upd upd_ne upd_same)
variable {P:Program}{w w0 w1:World}{tb wb dn ak gr qt j:Nat}
theorem qstp{main:Bool}{R:World->World->Prop}{D:World->World->Array Event->Prop}{Stop:Goroutine->World->Prop}{n:Nat}{g:Goroutine}{K:World->Prop}(hK:∀w1,R w w1->K w1)(hs:g.status=.running)(h:∀w1,K w1->(stepG P main g w1).goes fun g1 w2 es=>D w1 w2 es/\qE P main R D Stop n g1 w2):qE P main R D Stop (n+1) g w:=Conc.Goes.step hs fun w1 hw=>h w1 (hK w1 hw)
variable {es:Array Event}{a:Addr}
section
variable {OB WB:Nat->Prop}{B i h:Nat}
theorem Dw.none(w:World):Dw OB WB B i w w #[]:=⟨fun _ _=>rfl,rfl,rfl,fun e he=>by simp at he⟩
theorem Dw.quiet(h:∀e∈es,EvW OB WB B i e):Dw OB WB B i w w es:=⟨fun _ _=>rfl,rfl,rfl,h⟩
theorem zkg{wr:Bool}(h0:i=0)(hO:OB a.block)(hB:a.block<B):EvW OB WB B i ⟨.cell a,wr,false⟩:=⟨a,hB,.inr ⟨h0,hO,wr,rfl⟩⟩
theorem zhp(hW:WB a.block)(h3:3<=a.off)(hB:a.block<B):EvW OB WB B i ⟨.cell a,false,false⟩:=⟨a,hB,.inl ⟨rfl,hW,h3⟩⟩
structure KG (OB WB:Nat->Prop) (w0:World) (tb wb dn ak:Nat) (w:World):Prop where
  own:∀b,OB b->w.heap[b]?=w0.heap[b]?
  hO:OB tb
  hW:WB wb
  port:w0.cell? ⟨tb,1,none⟩=some (.pointer (some ⟨wb,0,none⟩))
  done:w0.cell? ⟨tb,2,none⟩=some (.chan (some dn))
  has3:∃v,w0.cell? ⟨tb,3,none⟩=some v
  free:w0.frozen? ⟨tb,3,none⟩=false
  ask:w.cell? ⟨wb,3,none⟩=some (.chan (some ak))
theorem KG.rely(K:KG OB WB w0 tb wb dn ak w)(h:Rl OB WB 0 w w1):KG OB WB w0 tb wb dn ak w1 :=
  ⟨fun b hb=>(h.2 rfl b hb).trans (K.own b hb),K.hO,K.hW,K.port,K.done,K.has3,K.free,(h.1 _ K.hW (qz 3)).trans K.ask⟩
theorem zb9(P:Program)(w:World)(es:Array Event)(a:Addr)(m:Mode)(x:Option Addr):(store a (.pointer x) m).events P w es=storedEv P w es a (.pointer x) m:=events_store P w es a _ m rfl
abbrev pt(b:Nat)(o:Nat:=0):Value:=.pointer (some ⟨b,o,none⟩)
def cL:Code->Code|.seq a _=>a|c=>c
def cR:Code->Code|.seq _ b=>b|c=>c
def cOps:Code->Array Oper|.region _ ops _=>ops|_=>#[]
noncomputable def zhP:Code:=(Try.f37.body).getD .skip
theorem heap_setCell(w:World)(a:Addr)(u:Value)(b:Nat):(w.setCell a u).heap[b]?=if a.block=b then(w.heap[b]?).map (fun|.cells c elem frozen=>.cells (if a.spot.isSome then c else c.setIfInBounds a.off u) elem frozen|o=>o) else w.heap[b]?:=by
  unfold World.setCell;simp only[Array.getElem?_modify];split<;>rfl
theorem za3(w w':World)(a:Addr)(h:w'.heap[a.block]?=w.heap[a.block]?):w'.cell? a=w.cell? a:=by
  unfold qs;rw[h]
theorem zb3(w w':World)(a:Addr)(h:w'.heap[a.block]?=w.heap[a.block]?):w'.frozen? a=w.frozen? a:=by
  unfold World.frozen?;rw[h]
theorem za6(w:World)(b o o':Nat)(u:Value)(h:o≠o'):(w.setCell ⟨b,o,none⟩ u).cell? ⟨b,o',none⟩=w.cell? ⟨b,o',none⟩:=by
  unfold qs;rw[heap_setCell,if_pos rfl];cases w.heap[b]? with
  | none=>rfl
  | some x=>cases x<;>simp[Array.getElem?_setIfInBounds_ne h]
theorem KG.port'(K:KG OB WB w0 tb wb dn ak w):w.cell? ⟨tb,1,none⟩=some (.pointer (some ⟨wb,0,none⟩)):=(za3 w0 w _ (K.own tb K.hO)).trans K.port
theorem KG.done'(K:KG OB WB w0 tb wb dn ak w):w.cell? ⟨tb,2,none⟩=some (.chan (some dn)):=(za3 w0 w _ (K.own tb K.hO)).trans K.done
theorem KG.free'(K:KG OB WB w0 tb wb dn ak w):w.frozen? ⟨tb,3,none⟩=false:=(zb3 w0 w _ (K.own tb K.hO)).trans K.free
theorem KG.has'(K:KG OB WB w0 tb wb dn ak w):∃v,w.cell? ⟨tb,3,none⟩=some v:=by
  obtain⟨v,hv⟩:=K.has3;exact⟨v,(za3 w0 w _ (K.own tb K.hO)).trans hv⟩
theorem KG.store(K:KG OB WB w0 tb wb dn ak w)(hne:wb≠tb):KG OB WB (w0.setCell ⟨tb,3,none⟩ (.pointer none)) tb wb dn ak (w.setCell ⟨tb,3,none⟩ (.pointer none)):=by
  refine⟨fun b hb=>?_,K.hO,K.hW,?_,?_,?_,?_,?_⟩
  . rw[heap_setCell,heap_setCell,K.own b hb]
  . rw[za6 _ _ _ _ _ (by decide)];exact K.port
  . rw[za6 _ _ _ _ _ (by decide)];exact K.done
  . obtain⟨v,hv⟩:=K.has3;obtain⟨c,el,fr,hb,hs,hc⟩:=zaU hv;refine⟨.pointer none,?_⟩;unfold qs;rw[heap_setCell,if_pos rfl,hb];have:=(qB.1 hc).1;simp[this]
  . rw[<-K.free];unfold World.frozen?;rw[heap_setCell,if_pos rfl];cases w0.heap[tb]? with
    | none=>rfl
    | some x=>cases x<;>simp
  . rw[za3 w _ _ (by rw[heap_setCell,if_neg (fun e=>hne e.symm)])];exact K.ask
abbrev zuW(tb wb dn ak:Nat):Array Value:=#[pt tb,undef,undef,undef,pt tb,pt tb,pt tb 3,pt tb,pt tb,pt tb 1,pt wb,pt wb,pt wb 3,.chan (some ak),pt tb,pt tb,pt tb 2,.chan (some dn),undef,undef,undef,undef,undef,undef,undef,undef,undef,undef,undef,undef,undef,undef,undef]
theorem Dw.set{u:Value}(h0:i=0)(hO:OB a.block)(hs:∀e∈es,EvW OB WB B i e):Dw OB WB B i w (w.setCell a u) es:=by
  refine⟨fun b hb=>?_,by simp[World.setCell],rfl,hs⟩
  rw[heap_setCell,if_neg (fun(e:a.block=b)=>hb ⟨h0,e▸hO⟩)]
theorem zrD{b:Frame}{a:Act}{ops:Array Oper}{i:Nat}{rest:List Nat}{kk:List Item}{cs:List Frame}{o:Oper}{s:Seat}(ho:ops[i]?=some o)(hw:Region.wanted o (yielded ops a.tmps)=true)(hk:b.kind≠.early)(hr:∀w,(execOp a.eval o).run P w=.ok (.comm s.cases true s.shape) w)(he:∀w,(execOp a.eval o).events P w #[]=#[])(h:s.home (G (b.at a (.inRegion ops (i::rest)::kk)) cs)):AtS P s (G (b.at a (.inRegion ops (i::rest)::kk)) cs) (G (b.at a (.inRegion ops (i::rest)::kk)) cs) :=
  ⟨rfl,rfl,rfl,rfl,h,fun main w=>by rw[stepG_comm ho hw hk (hr _),listed_none (he _)]⟩
abbrev accZ:Value:=.agg #[.int .u8 0,.int .i64 0,.int .u64 0,.int .u64 0]
noncomputable def ze2:Array Oper:=cOps (cL (cR (cR zhP)))
noncomputable def zfg:Code:=cR (cR (cR zhP))
noncomputable def ziA (tb wb dn ak:Nat) (cs:List Frame):Goroutine:=G ((base 37).at ⟨zuW tb wb dn ak,[]⟩ [.inRegion ze2 [0,1,2,3],.code zfg]) cs
noncomputable def zb6 (tb wb dn ak:Nat) (cs:List Frame):Seat:={ cases:=#[rcase ak accZ,rcase dn .nilIface],shape:=.select,home:=fun g=>g=ziA tb wb dn ak cs }
theorem zlo(hK:KG OB WB w0 tb wb dn ak w)(hne:wb≠tb)(htB:tb<B)(hwB:wb<B)(cs:List Frame):
    qE Try.prog true (Rl OB WB 0) (Dw OB WB B 0) (fun g w=>(∃gq,AtS Try.prog (zb6 tb wb dn ak cs) g gq)/\KG OB WB (w0.setCell ⟨tb,3,none⟩ (.pointer none)) tb wb dn ak w) 40 (G ((base 37).at ⟨#[pt tb,undef,undef,undef,undef,undef,undef,undef,undef,undef,undef,undef,undef,undef,undef,undef,undef,undef,undef,undef,undef,undef,undef,undef,undef,undef,undef,undef,undef,undef,undef,undef,undef],[]⟩ [.code zhP]) cs) w:=by
  simp only[zhP,Try.f37,qm];(refine qstp (fun _=>hK.rely) rfl fun w₁ hK=>?_;rw[qv];simp only[qg];refine⟨Dw.none _,?_⟩);(refine qstp (fun _=>hK.rely) rfl fun w₁ hK=>?_;rw[qq];simp only[qg,zSt,zLc,zLn,ql,qj,qo,qi];refine⟨Dw.none _,?_⟩);(refine qstp (fun _=>hK.rely) rfl fun w₁ hK=>?_;refine qc rfl rfl (by decide) (fun K hK'=>?_);go_simp;refine hK' _ _ ⟨Dw.quiet (fun e he=>(by have hm:=qd he;simp[go_sem,qa,qb]at hm)),?_⟩;clear hK' K)
  (refine qstp (fun _=>hK.rely) rfl fun w₁ hK=>?_;refine qc rfl rfl (by decide) (fun K hK'=>?_);go_simp;refine hK' _ _ ⟨Dw.quiet (fun e he=>(by have hm:=qd he;simp[go_sem,qa,qb]at hm)),?_⟩;clear hK' K);(refine qstp (fun _=>hK.rely) rfl fun w₁ hK=>?_;refine qc rfl rfl (by decide) (fun K hK'=>?_);go_simp;refine hK' _ _ ⟨Dw.quiet (fun e he=>(by have hm:=qd he;simp[go_sem,qa,qb]at hm)),?_⟩;clear hK' K);refine Conc.Goes.step rfl (fun w₁ h₁=>?_);replace hK:=hK.rely h₁
  clear h₁;obtain⟨v3,hv3⟩:=hK.has';have hz:=hK.free';refine qc rfl rfl (by decide) (fun K hK'=>?_)
  go_simp
  refine hK' _ _ ⟨Dw.set rfl hK.hO (fun e he=>(by have hm:=qd he;simp[go_sem,zb9,storedEv,hv3,hz]at hm;subst hm;exact zkg rfl hK.hO htB)),?_⟩
  clear hK' K hv3 hz;replace hK:=hK.store hne;(refine qstp (fun _=>hK.rely) rfl fun w₁ hK=>?_;rw[qk];simp only[qg];refine⟨Dw.none _,?_⟩);(refine qstp (fun _=>hK.rely) rfl fun w₁ hK=>?_;rw[qv];simp only[qg];refine⟨Dw.none _,?_⟩);(refine qstp (fun _=>hK.rely) rfl fun w₁ hK=>?_;rw[qv];simp only[qg];refine⟨Dw.none _,?_⟩);(refine qstp (fun _=>hK.rely) rfl fun w₁ hK=>?_;rw[qq];simp only[qg,zSt,zLc,zLn,ql,qj,qo,qi];refine⟨Dw.none _,?_⟩);(refine qstp (fun _=>hK.rely) rfl fun w₁ hK=>?_;refine qc rfl rfl (by decide) (fun K hK'=>?_);go_simp;refine hK' _ _ ⟨Dw.quiet (fun e he=>(by have hm:=qd he;simp[go_sem,qa,qb]at hm)),?_⟩;clear hK' K)
  (refine qstp (fun _=>hK.rely) rfl fun w₁ hK=>?_;refine qc rfl rfl (by decide) (fun K hK'=>?_);go_simp;refine hK' _ _ ⟨Dw.quiet (fun e he=>(by have hm:=qd he;simp[go_sem,qa,qb]at hm)),?_⟩;clear hK' K);(refine qstp (fun _=>hK.rely) rfl fun w₁ hK=>?_;refine qc rfl rfl (by decide) (fun K hK'=>?_);go_simp;refine hK' _ _ ⟨Dw.quiet (fun e he=>(by have hm:=qd he;simp[go_sem,qa,qb]at hm)),?_⟩;clear hK' K);(refine qstp (fun _=>hK.rely) rfl fun w₁ hK=>?_;have hF:=hK.port';refine qc rfl rfl (by decide) (fun K hK'=>?_);go_simp;refine hK' _ _ ⟨Dw.quiet (fun e he=>(by have hm:=qd he;simp[go_sem,hF]at hm;subst hm;exact zkg rfl hK.hO htB)),?_⟩;clear hK' K hF);(refine qstp (fun _=>hK.rely) rfl fun w₁ hK=>?_;refine qc rfl rfl (by decide) (fun K hK'=>?_);go_simp;refine hK' _ _ ⟨Dw.quiet (fun e he=>(by have hm:=qd he;simp[go_sem,qa,qb]at hm)),?_⟩;clear hK' K);(refine qstp (fun _=>hK.rely) rfl fun w₁ hK=>?_;refine qc rfl rfl (by decide) (fun K hK'=>?_);go_simp;refine hK' _ _ ⟨Dw.quiet (fun e he=>(by have hm:=qd he;simp[go_sem,qa,qb]at hm)),?_⟩;clear hK' K);(refine qstp (fun _=>hK.rely) rfl fun w₁ hK=>?_;have hF:=hK.ask;refine qc rfl rfl (by decide) (fun K hK'=>?_);go_simp;refine hK' _ _ ⟨Dw.quiet (fun e he=>(by have hm:=qd he;simp[go_sem,hF]at hm;subst hm;exact zhp hK.hW (qz 3) hwB)),?_⟩;clear hK' K hF);(refine qstp (fun _=>hK.rely) rfl fun w₁ hK=>?_;rw[qk];simp only[qg];refine⟨Dw.none _,?_⟩);(refine qstp (fun _=>hK.rely) rfl fun w₁ hK=>?_;rw[qq];simp only[qg,zSt,zLc,zLn,ql,qj,qo,qi];refine⟨Dw.none _,?_⟩);(refine qstp (fun _=>hK.rely) rfl fun w₁ hK=>?_;refine qc rfl rfl (by decide) (fun K hK'=>?_);go_simp;refine hK' _ _ ⟨Dw.quiet (fun e he=>(by have hm:=qd he;simp[go_sem,qa,qb]at hm)),?_⟩;clear hK' K);(refine qstp (fun _=>hK.rely) rfl fun w₁ hK=>?_;refine qc rfl rfl (by decide) (fun K hK'=>?_);go_simp;refine hK' _ _ ⟨Dw.quiet (fun e he=>(by have hm:=qd he;simp[go_sem,qa,qb]at hm)),?_⟩;clear hK' K);(refine qstp (fun _=>hK.rely) rfl fun w₁ hK=>?_;refine qc rfl rfl (by decide) (fun K hK'=>?_);go_simp;refine hK' _ _ ⟨Dw.quiet (fun e he=>(by have hm:=qd he;simp[go_sem,qa,qb]at hm)),?_⟩;clear hK' K);(refine qstp (fun _=>hK.rely) rfl fun w₁ hK=>?_;have hF:=hK.done';refine qc rfl rfl (by decide) (fun K hK'=>?_);go_simp;refine hK' _ _ ⟨Dw.quiet (fun e he=>(by have hm:=qd he;simp[go_sem,hF]at hm;subst hm;exact zkg rfl hK.hO htB)),?_⟩;clear hK' K hF);(refine qstp (fun _=>hK.rely) rfl fun w₁ hK=>?_;rw[qk];simp only[qg];refine⟨Dw.none _,?_⟩);(refine qstp (fun _=>hK.rely) rfl fun w₁ hK=>?_;rw[qv];simp only[qg];refine⟨Dw.none _,?_⟩);(refine qstp (fun _=>hK.rely) rfl fun w₁ hK=>?_;rw[qq];simp only[qg,zSt,zLc,zLn,ql,qj,qo,qi];refine⟨Dw.none _,?_⟩);refine Conc.Goes.stop (fun w₁ h₁=>⟨⟨_,zrD rfl rfl (by decide) (fun w=>by simp[go_sem,execOp,rcase,Act.eval,zb6]) (fun w=>by simp[go_sem,execOp,Act.eval]) (by simp only[zb6,ziA,ze2,zfg,zhP,cOps,cL,cR,Try.f37,qm])⟩,hK.rely h₁⟩)
end
section
variable {OB WB:Nat->Prop}{B i h:Nat}
noncomputable def doC:Code:=(Try.f86.body).getD .skip
noncomputable def zdA:Array Oper:=cOps (cL (cR (cL (cR doC))))
noncomputable def zey:Code:=cR (cR (cL (cR doC)))
noncomputable def doY:Code:=cR (cR doC)
noncomputable def zhz:Array Oper:=cOps (cL (cR (cR (cR doC))))
noncomputable def zeY:Code:=cR (cR (cR (cR doC)))
structure KDo (WB:Nat->Prop) (wb gr qt:Nat) (w:World):Prop where
  hW:WB wb
  grant:w.cell? ⟨wb,4,none⟩=some (.chan (some gr))
  quit:w.cell? ⟨wb,5,none⟩=some (.chan (some qt))
theorem KDo.rely(K:KDo WB wb gr qt w)(h:Rl OB WB j w w1):KDo WB wb gr qt w1 :=
  ⟨K.hW,(h.1 _ K.hW (by show 3<=4;omega)).trans K.grant,(h.1 _ K.hW (by show 3<=5;omega)).trans K.quit⟩
abbrev doT1(wb:Nat)(ab:Nat×Nat)(ak qt:Nat)(x y:Value):Array Value:=#[pt wb,x,undef,pt ab.1 ab.2,.int .u64 0,undef,pt wb,pt wb,pt wb 3,.chan (some ak),y,pt wb,pt wb,pt wb 5,.chan (some qt),undef,undef,undef,undef,undef,undef,undef,undef,undef,undef,undef,undef,undef,undef,undef,undef,undef,undef,undef,undef,undef,undef,undef,undef,undef,undef,undef,undef,undef]
abbrev zun(wb:Nat)(ab:Nat×Nat)(ak qt:Nat)(x y:Value):Array Value:=#[pt wb,x,undef,pt ab.1 ab.2,.int .u64 0,undef,pt wb,pt wb,pt wb 3,.chan (some ak),y,pt wb,pt wb,pt wb 5,.chan (some qt),.tuple #[.int .i64 0,.bool false,.agg #[]],undef,undef,undef,undef,undef,undef,undef,undef,undef,undef,undef,undef,undef,undef,undef,undef,undef,undef,undef,undef,undef,undef,undef,undef,undef,undef,undef,undef]
abbrev doT2(wb:Nat)(ab:Nat×Nat)(ak qt gr:Nat)(x y:Value):Array Value:=#[pt wb,x,undef,pt ab.1 ab.2,.int .u64 0,undef,pt wb,pt wb,pt wb 3,.chan (some ak),y,pt wb,pt wb,pt wb 5,.chan (some qt),.tuple #[.int .i64 0,.bool false,.agg #[]],.int .i64 0,.bool true,.bool false,undef,undef,pt wb,pt wb,pt wb 4,.chan (some gr),pt wb,pt wb,pt wb 5,.chan (some qt),undef,undef,undef,undef,undef,undef,undef,undef,undef,undef,undef,undef,undef,undef,undef]
noncomputable def doG (wb:Nat) (ab:Nat×Nat) (ak qt gr:Nat) (x y:Value) (cs:List Frame):Goroutine:=G ((base 86).at ⟨doT2 wb ab ak qt gr x y,[]⟩ [.inRegion zhz [0,1,2,3],.code zeY]) cs
noncomputable def zdg (wb:Nat) (ab:Nat×Nat) (ak qt gr:Nat) (x y:Value) (cs:List Frame):Seat:={ cases:=#[rcase gr (.int .u64 0),rcase qt (.agg #[])],shape:=.select,home:=fun g=>g=doG wb ab ak qt gr x y cs }
theorem zur{ab:Nat×Nat}{x y:Value}(hK:KDo WB wb gr qt w)(hwB:wb<B)(cs:List Frame):
    qE Try.prog false (Rl OB WB j) (Dw OB WB B j) (fun g w=>∃gq,AtS Try.prog (zdg wb ab ak qt gr x y cs) g gq) 60 (G ((base 86).at ⟨zun wb ab ak qt x y,[]⟩ [.inRegion zdA [1,2,3],.code zey,.code doY]) cs) w:=by
  simp only[zdA,zey,doY,doC,cOps,cL,cR,Try.f86,qm];(refine qstp (fun _=>hK.rely) rfl fun w₁ hK=>?_;refine qc rfl rfl (by decide) (fun K hK'=>?_);go_simp;refine hK' _ _ ⟨Dw.quiet (fun e he=>(by have hm:=qd he;simp[go_sem,qa,qb]at hm)),?_⟩;clear hK' K)
  (refine qstp (fun _=>hK.rely) rfl fun w₁ hK=>?_;refine qc rfl rfl (by decide) (fun K hK'=>?_);go_simp;refine hK' _ _ ⟨Dw.quiet (fun e he=>(by have hm:=qd he;simp[go_sem,qa,qb]at hm)),?_⟩;clear hK' K);(refine qstp (fun _=>hK.rely) rfl fun w₁ hK=>?_;refine qc rfl rfl (by decide) (fun K hK'=>?_);go_simp;refine hK' _ _ ⟨Dw.quiet (fun e he=>(by have hm:=qd he;simp[go_sem,qa,qb]at hm)),?_⟩;clear hK' K);(refine qstp (fun _=>hK.rely) rfl fun w₁ hK=>?_;rw[qk];simp only[qg];refine⟨Dw.none _,?_⟩);(refine qstp (fun _=>hK.rely) rfl fun w₁ hK=>?_;rw[stepG_block];simp only[qg];refine⟨Dw.none _,?_⟩);(refine qstp (fun _=>hK.rely) rfl fun w₁ hK=>?_;rw[stepG_cond (t:=true) rfl];simp only[qg,if_true,if_false,Bool.false_eq_true,↓reduceIte];refine⟨Dw.none _,?_⟩);(refine qstp (fun _=>hK.rely) rfl fun w₁ hK=>?_;rw[stepG_skip];simp only[qg];refine⟨Dw.none _,?_⟩);(refine qstp (fun _=>hK.rely) rfl fun w₁ hK=>?_;rw[stepG_inBlock];simp only[qg];refine⟨Dw.none _,?_⟩);(refine qstp (fun _=>hK.rely) rfl fun w₁ hK=>?_;rw[qv];simp only[qg];refine⟨Dw.none _,?_⟩);(refine qstp (fun _=>hK.rely) rfl fun w₁ hK=>?_;rw[qv];simp only[qg];refine⟨Dw.none _,?_⟩);(refine qstp (fun _=>hK.rely) rfl fun w₁ hK=>?_;rw[qq];simp only[qg,zSt,zLc,zLn,ql,qj,qo,qi];refine⟨Dw.none _,?_⟩);(refine qstp (fun _=>hK.rely) rfl fun w₁ hK=>?_;refine qc rfl rfl (by decide) (fun K hK'=>?_);go_simp;refine hK' _ _ ⟨Dw.quiet (fun e he=>(by have hm:=qd he;simp[go_sem,qa,qb]at hm)),?_⟩;clear hK' K);(refine qstp (fun _=>hK.rely) rfl fun w₁ hK=>?_;refine qc rfl rfl (by decide) (fun K hK'=>?_);go_simp;refine hK' _ _ ⟨Dw.quiet (fun e he=>(by have hm:=qd he;simp[go_sem,qa,qb]at hm)),?_⟩;clear hK' K);(refine qstp (fun _=>hK.rely) rfl fun w₁ hK=>?_;refine qc rfl rfl (by decide) (fun K hK'=>?_);go_simp;refine hK' _ _ ⟨Dw.quiet (fun e he=>(by have hm:=qd he;simp[go_sem,qa,qb]at hm)),?_⟩;clear hK' K);(refine qstp (fun _=>hK.rely) rfl fun w₁ hK=>?_;have hF:=hK.grant;refine qc rfl rfl (by decide) (fun K hK'=>?_);go_simp;refine hK' _ _ ⟨Dw.quiet (fun e he=>(by have hm:=qd he;simp[go_sem,hF]at hm;subst hm;exact zhp hK.hW (by show 3<=4;omega) hwB)),?_⟩;clear hK' K hF);(refine qstp (fun _=>hK.rely) rfl fun w₁ hK=>?_;rw[qk];simp only[qg];refine⟨Dw.none _,?_⟩);(refine qstp (fun _=>hK.rely) rfl fun w₁ hK=>?_;rw[qq];simp only[qg,zSt,zLc,zLn,ql,qj,qo,qi];refine⟨Dw.none _,?_⟩);(refine qstp (fun _=>hK.rely) rfl fun w₁ hK=>?_;refine qc rfl rfl (by decide) (fun K hK'=>?_);go_simp;refine hK' _ _ ⟨Dw.quiet (fun e he=>(by have hm:=qd he;simp[go_sem,qa,qb]at hm)),?_⟩;clear hK' K);(refine qstp (fun _=>hK.rely) rfl fun w₁ hK=>?_;refine qc rfl rfl (by decide) (fun K hK'=>?_);go_simp;refine hK' _ _ ⟨Dw.quiet (fun e he=>(by have hm:=qd he;simp[go_sem,qa,qb]at hm)),?_⟩;clear hK' K)
  (refine qstp (fun _=>hK.rely) rfl fun w₁ hK=>?_;refine qc rfl rfl (by decide) (fun K hK'=>?_);go_simp;refine hK' _ _ ⟨Dw.quiet (fun e he=>(by have hm:=qd he;simp[go_sem,qa,qb]at hm)),?_⟩;clear hK' K);(refine qstp (fun _=>hK.rely) rfl fun w₁ hK=>?_;have hF:=hK.quit;refine qc rfl rfl (by decide) (fun K hK'=>?_);go_simp;refine hK' _ _ ⟨Dw.quiet (fun e he=>(by have hm:=qd he;simp[go_sem,hF]at hm;subst hm;exact zhp hK.hW (by show 3<=5;omega) hwB)),?_⟩;clear hK' K hF);(refine qstp (fun _=>hK.rely) rfl fun w₁ hK=>?_;rw[qk];simp only[qg];refine⟨Dw.none _,?_⟩);(refine qstp (fun _=>hK.rely) rfl fun w₁ hK=>?_;rw[qv];simp only[qg];refine⟨Dw.none _,?_⟩);(refine qstp (fun _=>hK.rely) rfl fun w₁ hK=>?_;rw[qq];simp only[qg,zSt,zLc,zLn,ql,qj,qo,qi];refine⟨Dw.none _,?_⟩);refine Conc.Goes.stop (fun w₁ h₁=>⟨_,zrD rfl rfl (by decide) (fun w=>by simp[go_sem,execOp,rcase,Act.eval,zdg]) (fun w=>by simp[go_sem,execOp,Act.eval]) (by simp only[zdg,doG,zhz,zeY,doC,cOps,cL,cR,Try.f86,qm])⟩)
noncomputable def zfo:Code:=(Try.f29.body).getD .skip
noncomputable def closeOps2:Array Oper:=cOps (cL (cR (cR zfo)))
noncomputable def zpP:Code:=cR (cR (cR zfo))
def zn9:Code->Code|.cond _ x _=>x|c=>c
structure KCl (OB:Nat->Prop) (w0:World) (tb dn:Nat) (w:World):Prop where
  own:∀b,OB b->w.heap[b]?=w0.heap[b]?
  hO:OB tb
  done:w0.cell? ⟨tb,2,none⟩=some (.chan (some dn))
  busy:w0.cell? ⟨tb,4,none⟩=some (.bool true)
theorem KCl.rely(K:KCl OB w0 tb dn w)(h:Rl OB WB 0 w w1):KCl OB w0 tb dn w1 :=
  ⟨fun b hb=>(h.2 rfl b hb).trans (K.own b hb),K.hO,K.done,K.busy⟩
theorem KCl.done'(K:KCl OB w0 tb dn w):w.cell? ⟨tb,2,none⟩=some (.chan (some dn)):=(za3 w0 w _ (K.own tb K.hO)).trans K.done
theorem KCl.busy'(K:KCl OB w0 tb dn w):w.cell? ⟨tb,4,none⟩=some (.bool true):=(za3 w0 w _ (K.own tb K.hO)).trans K.busy
abbrev zsO(tb qt:Nat)(z2 z3 z4 z5 z6 z7 z8 z9 z10 z11 z12 z13 z14 z15:Value):Array Value:=#[pt tb,undef,z2,z3,z4,z5,z6,z7,z8,z9,z10,z11,z12,z13,z14,z15,pt tb,pt tb,pt tb 6,.chan (some qt),undef,undef,undef,undef,undef,undef,undef,undef,undef,undef,undef,undef]
end
end Go.Proofs.Ytkjmaapbeicmkaa
namespace Go.Proofs.Ytkjmaapbeicmkaa
open Go Go.RowKit
def chV(c:Nat):Value:=.chan (some c)
def ptrO(F:Emb):Option Nat->Value
  | none=>.pointer none
  | some k=>.pointer (some ⟨F.blk (VB+k),0,none⟩)
def zbi(F:Emb)(self:Int)(quit:Nat)(closed busy:Bool)(cur:Option (Nat×Nat×Nat))(pend:Option Nat):Array Value :=
  #[.int .i64 self,ptrO F (cur.map (·.1)),.chan (cur.map (·.2.2)),ptrO F pend,.bool busy,.bool closed,chV quit]
def zdI(self:Int)(steps:Nat)(told:Value)(ask grant quit:Nat):Array Value:=#[.int .i64 self,.int .i64 (wr steps),told,chV ask,chV grant,chV quit]
def zgg(c:Nat)(n:Int)(A B:UInt64):Array Value:=#[.int .u8 (c:Int),.int .i64 n,.int .u64 (A.toNat:Int),.int .u64 (B.toNat:Int)]
structure MemP (n:Nat) where
  pre:Array Value
  post:Array Value
  wpre:Array Value
  wpost:Array Value
  wcap:Nat
  bpre:Array Value
  bpost:Array Value
  bcap:Nat
  hn:pre.size=n
structure MemO (w:World) (m bw bb:Nat) {n:Nat} (X:MemP n) (ws:List UInt64) (bs:List UInt8):Prop where
  hm:w.heap[m]?=some (.cells (X.pre++#[.slice (some ⟨bw,X.wpre.size,none⟩) ws.length X.wcap,.slice (some ⟨bb,X.bpre.size,none⟩) bs.length X.bcap]++X.post) 80 (0,0))
  hw:w.heap[bw]?=some (.cells (X.wpre++zl2 ws++X.wpost) 43 (0,0))
  hb:w.heap[bb]?=some (.cells (X.bpre++zlE bs++X.bpost) 5 (0,0))
  wl:ws.length<=2097152
  bl:bs.length<=1048576
structure DirP (n:Nat) where
  pre:Array Value
  post:Array Value
  vpre:Array Value
  vpost:Array Value
  hn:pre.size=n
structure DirO (w:World) (D:zkd) (mb mo:Nat) (me:Int) {n:Nat} (Y:DirP n) (steps:Nat):Prop where
  hd:w.heap[D.d]?=some (.cells (Y.pre++#[.pointer (some ⟨D.v,Y.vpre.size,none⟩),.int .i64 me]++Y.post) 68 (0,0))
  hv:w.heap[D.v]?=some (.cells (Y.vpre++#[.pointer (some ⟨mb,mo,none⟩),.int .i64 (steps:Int)]++Y.vpost) 65 (0,0))
def rowB:Ob->Bool
  | .mem _ _|.port _ _ _=>false
  | _=>true
def zay(mn:Bool)(F:Emb)(k:Nat):Ob->List Nat
  | .mem _ _=>[F.blk (VB+k),aux (F.slack (VB+k)) 1,aux (F.slack (VB+k)) 2]
  | .port _ _ _=>[F.blk (VB+k),aux (F.slack (VB+k)) 1]
  | .thr _ _ _ _ _ _=>if mn then [F.blk (VB+k)] else []
  | .wp _ _ _ _ _=>[F.blk (VB+k)]
  | .acc _ _ _ _=>[F.blk (VB+k)]
  | .box _=>[F.blk (VB+k)]
def obAt(mn:Bool)(OB WB:Nat->Prop)(F:Emb)(S:St)(w:World)(k:Nat):Ob->Prop
  | .mem ws bs=>∃X:MemP (F.base (VB+k)),MemO w (F.blk (VB+k)) (aux (F.slack (VB+k)) 1) (aux (F.slack (VB+k)) 2) X ws bs
  | .port m me steps=>(∃Y:DirP (F.base (VB+k)),DirO w ⟨F.blk (VB+k),aux (F.slack (VB+k)) 1⟩ (F.blk (VB+m)) (F.base (VB+m)) me Y steps)/\∃ws bs,S[m]?=some (Ob.mem ws bs)
  | .thr self quit closed busy cur pend=>mn=true->(OB (F.blk (VB+k))/\(∀c,cur=some c->c.1<S.length)/\(∀p,pend=some p->p<S.length)/\w.heap[F.blk (VB+k)]?=some (.cells (zbi F self quit closed busy cur pend) 86 (0,0)))
  | .wp self steps ask grant quit=>WB (F.blk (VB+k))/\∃(told:Option Addr) (fr:Nat×Nat),w.heap[F.blk (VB+k)]?=some (.cells (zdI self steps (.pointer told) ask grant quit) 90 fr)
  | .acc c n A B=>w.heap[F.blk (VB+k)]?=some (.cells (zgg c n A B) 93 (0,0))
  | .box c=>w.heap[F.blk (VB+k)]?=some (.cells #[chV c] 102 (0,0))
structure Rep (mn:Bool) (OB WB:Nat->Prop) (F:Emb) (S:St) (w:World):Prop where
  base:∀k ob,S[k]?=some ob->rowB ob=true->F.base (VB+k)=0
  at':∀k ob,S[k]?=some ob->obAt mn OB WB F S w k ob
  apart:∀k k' ob ob',k≠k'->S[k]?=some ob->S[k']?=some ob'->∀b∈zay mn F k ob,b ∉ zay mn F k' ob'
  waits:∀k ob,S[k]?=some ob->∀b∈zay mn F k ob,WB b->∃a s x y z,ob=Ob.wp a s x y z
  wlow:∀b,WB b->b<w.heap.size
def fpS(mn:Bool)(F:Emb)(S:St)(b:Nat):Prop:=∃k ob,S[k]?=some ob/\b∈zay mn F k ob
variable {b s i q n c k cap nx d m:Nat}
section
variable {mn:Bool}{OB WB:Nat->Prop}{F F':Emb}{S S':St}{w w':World}{k:Nat}{ob:Ob}
theorem zfG(h:obAt mn OB WB F S w k ob):∀b∈zay mn F k ob,∃c el fr,w.heap[b]?=some (.cells c el fr):=by
  intro b hb;cases ob with
  | mem ws bs =>
    obtain⟨X,h⟩:=h;simp only[zay,zMc,zNm,or_false]at hb;rcases hb with rfl|rfl|rfl
    . exact⟨_,_,_,h.hm⟩
    . exact⟨_,_,_,h.hw⟩
    . exact⟨_,_,_,h.hb⟩
  | port m me steps =>
    obtain⟨⟨td,h⟩,_⟩:=h;simp only[zay,zMc,zNm,or_false]at hb;rcases hb with rfl|rfl
    . exact⟨_,_,_,h.hd⟩
    . exact⟨_,_,_,h.hv⟩
  | thr =>
    cases mn with
    | false=>simp[zay]at hb
    | true =>
      simp only[zay,if_true,zMc,zNm,or_false]at hb;subst hb;exact⟨_,_,_,(h rfl).2.2.2⟩
  | wp =>
    simp only[zay,zMc,zNm,or_false]at hb;subst hb;obtain⟨_,told,fr,h⟩:=h;exact⟨_,_,_,h⟩
  | acc =>
    simp only[zay,zMc,zNm,or_false]at hb;subst hb;exact⟨_,_,_,h⟩
  | box =>
    simp only[zay,zMc,zNm,or_false]at hb;subst hb;exact⟨_,_,_,h⟩
theorem zoC(h:obAt mn OB WB F S w k ob)(hw:∀b∈zay mn F k ob,WB b->∃a s x y z,ob=Ob.wp a s x y z)(hk:∀b∈zay mn F k ob,∃c el fr fr',w.heap[b]?=some (.cells c el fr)/\w'.heap[b]?=some (.cells c el fr')/\(WB b\/fr'=fr)):obAt mn OB WB F S w' k ob:=by
  have key:(∀a s x y z,ob≠Ob.wp a s x y z)->∀b∈zay mn F k ob,w'.heap[b]?=w.heap[b]?:=fun hn b hb=>by
    obtain⟨c,el,fr,fr',h1,h2,h3⟩:=hk b hb;rcases h3 with h3|rfl
    . obtain⟨a,s,x,y,z,rfl⟩:=hw b hb h3;exact absurd rfl (hn a s x y z)
    . rw[h1,h2]
  cases ob with
  | mem ws bs =>
    have key:=key (fun _ _ _ _ _ h=>by cases h)
    obtain⟨X,h⟩:=h;exact⟨X,⟨(key _ (by simp[zay])).trans h.hm,(key _ (by simp[zay])).trans h.hw,(key _ (by simp[zay])).trans h.hb,h.wl,h.bl⟩⟩
  | port m me steps =>
    have key:=key (fun _ _ _ _ _ h=>by cases h)
    obtain⟨⟨td,h⟩,h2⟩:=h;exact⟨⟨td,(key _ (by simp[zay])).trans h.hd,(key _ (by simp[zay])).trans h.hv⟩,h2⟩
  | thr =>
    have key:=key (fun _ _ _ _ _ h=>by cases h)
    intro hm;obtain⟨h1,h2,h3,h4⟩:=h hm;exact⟨h1,h2,h3,(key _ (by simp[zay,hm])).trans h4⟩
  | wp self steps ask grant quit =>
    obtain⟨h1,told,fr,h2⟩:=h;obtain⟨c,el,fr0,fr',h3,h4,_⟩:=hk (F.blk (VB+k)) (by simp[zay])
    rw[h2]at h3;cases h3;exact⟨h1,told,fr',h4⟩
  | acc =>
    have key:=key (fun _ _ _ _ _ h=>by cases h)
    exact(key _ (by simp[zay])).trans h
  | box =>
    have key:=key (fun _ _ _ _ _ h=>by cases h)
    exact(key _ (by simp[zay])).trans h
theorem zdG(h:obAt mn OB WB F S w k ob)(hk:∀b∈zay mn F k ob,w'.heap[b]?=w.heap[b]?):obAt mn OB WB F S w' k ob:=by
  cases ob with
  | mem ws bs =>
    obtain⟨X,h⟩:=h;exact⟨X,⟨(hk _ (by simp[zay])).trans h.hm,(hk _ (by simp[zay])).trans h.hw,(hk _ (by simp[zay])).trans h.hb,h.wl,h.bl⟩⟩
  | port m me steps =>
    obtain⟨⟨td,h⟩,h2⟩:=h;exact⟨⟨td,(hk _ (by simp[zay])).trans h.hd,(hk _ (by simp[zay])).trans h.hv⟩,h2⟩
  | thr =>
    intro hm;obtain⟨h1,h2,h3,h4⟩:=h hm;exact⟨h1,h2,h3,(hk _ (by simp[zay,hm])).trans h4⟩
  | wp self steps ask grant quit =>
    obtain⟨h1,told,fr,h2⟩:=h;exact⟨h1,told,fr,(hk _ (by simp[zay])).trans h2⟩
  | acc=>exact(hk _ (by simp[zay])).trans h
  | box=>exact(hk _ (by simp[zay])).trans h
theorem Same.hnd(hs:Same (fun n=>VB<=n/\n<VB+S.length) F F')(hk:k<S.length):F.blk (VB+k)=F'.blk (VB+k)/\F.base (VB+k)=F'.base (VB+k)/\F.slack (VB+k)=F'.slack (VB+k) :=
  hs (VB+k) ⟨by omega,by omega⟩
theorem zaM(hk:S[k]?=some ob):k<S.length:=(qu.1 hk).1
theorem zdB(hs:Same (fun n=>VB<=n/\n<VB+S.length) F F')(hk:k<S.length):zay mn F' k ob=zay mn F k ob:=by
  obtain⟨h1,h2,h3⟩:=hs.hnd hk;cases ob<;>simp[zay,h1,h3]
theorem zjY(hs:Same (fun n=>VB<=n/\n<VB+S.length) F F'){o:Option Nat}(h:∀p,o=some p->p<S.length):ptrO F' o=ptrO F o:=by
  cases o with
  | none=>rfl
  | some p=>simp only[ptrO];rw[(hs.hnd (h p rfl)).1]
theorem zg5(hs:Same (fun n=>VB<=n/\n<VB+S.length) F F'){self:Int}{quit:Nat}{closed busy:Bool}{cur:Option (Nat×Nat×Nat)}{pend:Option Nat}(h1:∀c,cur=some c->c.1<S.length)(h2:∀p,pend=some p->p<S.length):
    zbi F' self quit closed busy cur pend=zbi F self quit closed busy cur pend:=by
  unfold zbi;rw[zjY hs h2,zjY hs (o:=cur.map (·.1)) (fun p hp=>by
    obtain⟨c,hc,rfl⟩:=Option.map_eq_some_iff.1 hp;exact h1 c hc)]
theorem zpu(hs:Same (fun n=>VB<=n/\n<VB+S.length) F F')(hk:k<S.length)(h:obAt mn OB WB F S w k ob):obAt mn OB WB F' S w k ob:=by
  obtain⟨h1,h2,h3⟩:=hs.hnd hk;cases ob with
  | mem ws bs=>unfold obAt at h ⊢;rw[<-h1,<-h2,<-h3];exact h
  | port m me steps =>
    obtain⟨hd,ws,bs,hm⟩:=h;obtain⟨k1,k2,_⟩:=hs.hnd (zaM hm);show(∃Y:DirP (F'.base (VB+k)),DirO w ⟨F'.blk (VB+k),aux (F'.slack (VB+k)) 1⟩ (F'.blk (VB+m)) (F'.base (VB+m)) me Y steps)/\_;rw[<-h1,<-h2,<-h3,<-k1,<-k2];exact⟨hd,ws,bs,hm⟩
  | thr self quit closed busy cur pend =>
    intro hm;obtain⟨a1,a2,a3,a4⟩:=h hm;refine⟨h1▸a1,a2,a3,?_⟩;rw[<-h1,zg5 hs a2 a3];exact a4
  | wp=>unfold obAt at h ⊢;rw[<-h1];exact h
  | acc=>unfold obAt at h ⊢;rw[<-h1];exact h
  | box=>unfold obAt at h ⊢;rw[<-h1];exact h
theorem Rep.same(hs:Same (fun n=>VB<=n/\n<VB+S.length) F F')(h:Rep mn OB WB F S w):Rep mn OB WB F' S w/\∀b,fpS mn F' S b->fpS mn F S b :=
  ⟨⟨fun k ob hk hr=>by rw[<-(hs.hnd (zaM hk)).2.1];exact h.base k ob hk hr,fun k ob hk=>zpu hs (zaM hk) (h.at' k ob hk),fun k k' ob ob' hne hk hk' b hb=>by
    rw[zdB hs (zaM hk)]at hb;rw[zdB hs (zaM hk')];exact h.apart k k' ob ob' hne hk hk' b hb,fun k ob hk b hb=>by
    rw[zdB hs (zaM hk)]at hb;exact h.waits k ob hk b hb,h.wlow⟩,fun b ⟨k,ob,hk,hb⟩=>⟨k,ob,hk,by rw[zdB hs (zaM hk)]at hb;exact hb⟩⟩
theorem Rep.kept(h:Rep mn OB WB F S w)(hsz:w.heap.size<=w'.heap.size)(hk:∀b,fpS mn F S b->w'.heap[b]?=w.heap[b]?):Rep mn OB WB F S w' :=
  ⟨h.base,fun k ob hob=>zdG (h.at' k ob hob) (fun b hb=>hk b ⟨k,ob,hob,hb⟩),h.apart,h.waits,fun b hb=>qM (h.wlow b hb) hsz⟩
end
inductive PrimM:FuncId->Array Value->St->Value->St->Prop
  | com {f args S v S'} (h:Prim f args S v S'):PrimM f args S v S'
  | busy {k:Nat} {self:Int} {quit:Nat} {closed b:Bool} {cur:Option (Nat×Nat×Nat)} {pend:Option Nat} {S:St} (h:S[k]?=some (Ob.thr self quit closed b cur pend)):PrimM 28 #[hndV k] S (.bool b) S
  | idle {k:Nat} {self:Int} {quit:Nat} {closed b:Bool} {cur:Option (Nat×Nat×Nat)} {S:St} (h:S[k]?=some (Ob.thr self quit closed b cur none)):PrimM 38 #[hndV k] S (.tuple #[accZ,.bool false]) S
  | pend {k p:Nat} {self:Int} {quit:Nat} {closed b:Bool} {cur:Option (Nat×Nat×Nat)} {S:St} {c:Nat} {n:Int} {A B:UInt64} (h:S[k]?=some (Ob.thr self quit closed b cur (some p))) (hp:S[p]?=some (Ob.acc c n A B)):PrimM 38 #[hndV k] S (.tuple #[accV c n A B,.bool true]) S
theorem PrimM.len{f:FuncId}{args:Array Value}{S S':St}{v:Value}(h:PrimM f args S v S'):S.length<=S'.length:=by
  cases h with
  | com h=>exact h.len
  | _=>exact qz _
theorem PrimM.hand{f:FuncId}{args:Array Value}{S S':St}{v:Value}(h:PrimM f args S v S'):Hand S'.length v:=by
  cases h with
  | com h=>exact h.hand
  | _=>exact Hand.plain (by first|rfl|simp[zab,accV])
def PrimV:Bool->FuncId->Array Value->St->Value->St->Prop
  | true=>PrimM
  | false=>Prim
theorem PrimV.len{mn:Bool}{f:FuncId}{args:Array Value}{S S':St}{v:Value}(h:PrimV mn f args S v S'):S.length<=S'.length:=by
  cases mn with
  | true=>exact PrimM.len h
  | false=>exact Prim.len h
theorem PrimV.hand{mn:Bool}{f:FuncId}{args:Array Value}{S S':St}{v:Value}(h:PrimV mn f args S v S'):Hand S'.length v:=by
  cases mn with
  | true=>exact PrimM.hand h
  | false=>exact Prim.hand h
def zav(mn:Bool)(OB WB:Nat->Prop):Prop:=∀f args S v S' F w,PrimV mn f args S v S'->Rep mn OB WB F S w->TCalls Try.prog f (args.map (ren F)) w fun e w'=>∃F',Same (fun n=>n<VB+S.length) F F'/\e=.returned (ren F' v)/\Rep mn OB WB F' S' w'/\Kept w (fpS mn F S) w'/\∀b,fpS mn F' S' b->fpS mn F S b\/w.heap.size<=b
def XF(mn:Bool)(OB WB:Nat->Prop)(hok:zav mn OB WB):Face Try.prog St where
  mix:=Try.mix
  cnt:=List.length
  rep:=Rep mn OB WB
  fp:=fpS mn
  prim:=PrimV mn
  rep_same:=fun _ _ _ _ hs h=>h.same hs
  rep_kept:=fun F S w w' R hsz hk=>R.kept hsz hk
  fp_low:=fun F S w b R ⟨k,ob,hk,hb⟩=>by
    obtain⟨c,el,fr,ho⟩:=zfG (R.at' k ob hk) b hb;exact zac ho
  prim_hand:=fun _ _ _ _ _ h=>⟨h.len,h.hand⟩
  prim_ok:=fun f args S v S' F w h R=>hok f args S v S' F w h R
theorem XF.soft{mn:Bool}{OB WB:Nat->Prop}(hok:zav mn OB WB):zp4 (XF mn OB WB hok) WB where
  cell:=fun F S w b R ⟨k,ob,hk,hb⟩=>zfG (R.at' k ob hk) b hb
  soft:=fun F S w w' R hsz hk=>⟨R.base,fun k ob hob=>zoC (R.at' k ob hob) (R.waits k ob hob) (fun b hb=>hk b ⟨k,ob,hob,hb⟩),R.apart,R.waits,fun b hb=>qM (R.wlow b hb) hsz⟩
theorem zvd{a b:Int}(h:b<=a):decide (a<b)=false:=decide_eq_false (by omega)
theorem zuS{a b:Int}(h:a=b):(a==b)=true:=by rw[h];exact beq_self_eq_true _
theorem zuV{a b:Int}(h:a<b\/b<a):(a==b)=false:=by rw[beq_eq_false_iff_ne];omega
theorem zuG{a b:Int}(h:a<=b):(a<=b)=True:=eq_true h
theorem zvg{a b:Int}(h:a<b):(a<b)=True:=eq_true h
theorem zuB{a:Nat}(h:a<=b):(a<=b)=True:=eq_true h
theorem zvs{a:Nat}(h:a<b):(a<b)=True:=eq_true h
theorem zvv(a n:Nat):(a:Int).tdiv (n:Int)=((a / n:Nat):Int):=by
  rw[Int.tdiv_eq_ediv_of_nonneg (by omega)];exact(Int.natCast_ediv a n).symm
theorem ztn(a n:Nat):(a:Int).tmod (n:Int)=((a % n:Nat):Int):=by
  rw[Int.tmod_eq_emod_of_nonneg (by omega)];exact(Int.natCast_emod a n).symm
attribute [go_sem] zvd zuS zuV zuG zvg zuB zvs
section
variable {P:Program}{σ:Type}{X:Face P σ}{fn:Func}{A:Conf σ->Prop}{ops:Array Oper}{k:List Item}{i:Nat}{tmps:List Value}{h:AHeap}{S:σ}{o:Oper}
end
def Lies(w:World)(b:Blk)(k off:Nat):Prop:=b.ro=true/\b.grow=none/\(∀v∈b.cells,zab v=true)/\∃(pre post:Array Value) (fr:Nat×Nat),w.heap[k]?=some (.cells (pre++b.cells.toArray++post) b.elem fr)/\pre.size=off
theorem zge{w:World}{off:Nat}{l:List Value}(hpos:0<l.length)(h:∀i,i<l.length->w.cell? ⟨b,off+i,none⟩=l[i]?):∃(el:TypeId) (pre post:Array Value) (fr:Nat×Nat),w.heap[b]?=some (.cells (pre++l.toArray++post) el fr)/\pre.size=off:=by
  have h0:=h 0 hpos;rw[qe hpos]at h0;cases hb:w.heap[b]? with
  | none=>simp[qs,hb]at h0
  | some ob =>
    cases ob with
    | cells cs el fr =>
      have hc:∀i,i<l.length->cs[off+i]?=l[i]?:=fun i hi=>by
        have:=h i hi;simpa[qs,hb] using this
      have hsz:∀i,i<l.length->off+i<cs.size:=fun i hi=>by
        have h1:=hc i hi;rw[qe hi]at h1;exact(qB.1 h1).1
      have hlast:=hsz (l.length - 1) (by omega)
      refine⟨el,cs.extract 0 off,cs.extract (off+l.length) cs.size,fr,?_,by simp;omega⟩
      have he:cs=cs.extract 0 off++l.toArray++cs.extract (off+l.length) cs.size:=by
        apply Array.ext';apply List.ext_getElem?;intro j;have hpre:(cs.extract 0 off).size=off:=by simp;omega
        rw[qH,qH];by_cases h1:j<off
        . rw[qK,qC (by omega)]
          rw[qF];simp;omega
        . by_cases h2:j<off+l.length
          . rw[qK,qA (by omega),hpre,qC (by simp;omega)]
            have:=hc (j - off) (by omega)
            rw[show off+(j - off)=j by omega]at this
            rw[this];simp
          . rw[qA (by simp;omega)]
            simp only[Array.size_append,hpre,zSt];rw[qF];by_cases h3:j<cs.size
            . rw[if_pos (by omega)]
              congr 1;omega
            . rw[if_neg (by omega),Array.getElem?_eq_none (by omega)]
      rw[<-he]
    | _=>simp[qs,hb]at h0
def rowC{α:Type}(fl:α->List Value)(l:List α):List Value:=l.flatMap fl
theorem ziT{α:Type}{fl:α->List Value}(hs:∀x,(fl x).length=s)(l:List α):(rowC fl l).length=l.length * s:=by
  induction l with
  | nil=>simp[rowC]
  | cons x l ih =>
    unfold rowC at ih ⊢;rw[qx,List.length_append,ih,hs,List.length_cons,Nat.add_mul];omega
theorem zjx{α:Type}{fl:α->List Value}{s:Nat}(hs:∀x,(fl x).length=s):∀(l:List α) (i:Nat),(rowC fl l).drop (i * s)=rowC fl (l.drop i)
  | [],i=>by simp[rowC]
  | x::l,0=>by simp
  | x::l,i+1=>by
    have:=zjx hs l i;unfold rowC at this ⊢;rw[qx,show(i+1) * s=(fl x).length+i * s by rw[hs,Nat.add_mul];omega,List.drop_append,List.drop_eq_nil_of_le (by omega),Nat.add_sub_cancel_left,List.nil_append,List.drop_succ_cons,this]
theorem zki{α:Type}{fl:α->List Value}(hs:∀x,(fl x).length=s){l:List α}{x:α}(h:l[i]?=some x):((rowC fl l).drop (i * s)).take s=fl x:=by
  rw[zjx hs];obtain⟨hi,rfl⟩:=qu.1 h;rw[qD hi];unfold rowC;rw[qx,<-hs l[i],List.take_left]
theorem zlO{α:Type}{fl:α->List Value}(hs:∀x,(fl x).length=s){l:List α}{j:Nat}{x:α}(h:l[i]?=some x)(hj:j<s):(rowC fl l)[i * s+j]?=(fl x)[j]?:=by
  have:=zki hs h;rw[<-this,List.getElem?_take,if_pos hj,List.getElem?_drop]
theorem zna{α:Type}{fl:α->List Value}(hp:∀x,∀v∈fl x,zab v=true)(l:List α):∀v∈rowC fl l,zab v=true:=fun v hv=>by
  obtain⟨x,_,hx⟩:=List.mem_flatMap.1 hv;exact hp x v hx
def znb{α:Type}(fl:α->List Value)(q:Nat)(sl:Option Addr)(l:List α)(ob:Option Blk):Prop:=0<l.length->sl=some ⟨q,0,none⟩/\∃el,ob=some ⟨rowC fl l,el,true,none⟩
def SlAt(q:Nat)(sl:Option Addr):Prop:=∀a,sl=some a->a.block=q
theorem SlAt.clo{sl:Option Addr}(h:SlAt q sl)(hq:q<k):Clo (Kn k 0) (.slice sl n c):=by
  cases sl with
  | none=>exact qf rfl
  | some a =>
    intro F F' hs;have:=h a rfl;obtain⟨h1,h2,h3⟩:=hs q (.inl hq);simp[adr,this,h1,h2,h3]
theorem zjl{α:Type}(fl:α->List Value)(hs:∀x,(fl x).length=s)(hs0:0<s)(hp:∀x,∀v∈fl x,zab v=true)(l:List α)(a:Option Addr)(cap:Nat)(w:World)(q:Nat)(h:0<l.length->∃x,a=some x/\∀(i:Nat) (y:α),l[i]?=some y->∀(j:Nat) (v:Value),(fl y)[j]?=some v->w.cell? (x.add (i * s+j))=some v):
    ∃(sl:Option Addr) (ob:Option Blk) (bk bs:Nat),(∀F:Emb,F.blk q=bk->F.base q=bs->F.slack q=0->ren F (.slice sl l.length cap)=.slice a l.length cap)/\SlAt q sl/\znb fl q sl l ob/\∀b,ob=some b->Lies w b bk bs:=by
  by_cases h0:0<l.length
  . obtain⟨x,rfl,hx⟩:=h h0;obtain⟨b,off,spot⟩:=x;have hlen:(rowC fl l).length=l.length * s:=ziT hs l;have hpos:0<(rowC fl l).length:=by rw[hlen];exact Nat.mul_pos h0 hs0
    have hcell:∀i,i<(rowC fl l).length->w.cell? (Addr.add ⟨b,off,spot⟩ i)=(rowC fl l)[i]?:=fun i hi=>by
      have hi1:i / s<l.length:=Nat.div_lt_of_lt_mul (by rw[hlen]at hi;rw[Nat.mul_comm];exact hi)
      have hi2:i % s<s:=Nat.mod_lt _ hs0;have e:i / s * s+i % s=i:=by rw[Nat.mul_comm];exact Nat.div_add_mod i s
      have hy:=qe hi1;have hv:(fl l[i / s])[i % s]?=some ((fl l[i / s])[i % s]'(by rw[hs];exact hi2)):=qe (by rw[hs];exact hi2)
      have h1:=hx _ _ hy _ _ hv;have h2:=zlO hs hy hi2;rw[e]at h1 h2;rw[h1,h2,hv]
    have hspot:spot=none:=by
      have:=hcell 0 hpos;rw[qe hpos]at this;simpa[Addr.add] using World.cell?_spot this
    subst hspot;obtain⟨el,pre,post,fr,r1,r2⟩:=zge (w:=w) (b:=b) (off:=off) hpos (fun i hi=>by
      rw[<-hcell i hi];unfold Addr.add;split
      . rename_i hz;simp[hz]
      . rfl)
    refine⟨some ⟨q,0,none⟩,some ⟨rowC fl l,el,true,none⟩,b,off,fun F h1 h2 h3=>by simp[adr,h1,h2,h3],fun y hy=>by cases hy;rfl,fun _=>⟨rfl,el,rfl⟩,fun c hc=>?_⟩
    cases hc;exact⟨rfl,rfl,zna hp l,pre,post,fr,r1,r2⟩
  . cases a with
    | none=>exact⟨none,none,0,0,fun F _ _ _=>by simp,fun y hy=>(by cases hy),fun hc=>absurd hc h0,fun b hb=>(by cases hb)⟩
    | some x =>
      obtain⟨b,off,spot⟩:=x;exact⟨some ⟨q,0,spot⟩,none,b,off,fun F h1 h2 h3=>by simp[adr,h1,h2,h3],fun y hy=>by cases hy;rfl,fun hc=>absurd hc h0,fun b hb=>(by cases hb)⟩
section
open Go.ChangeShapes Go.WideShapes Go.Deep
variable {H:Type}{enc:TypeId × Value->H}{P:Program}{w:World}{base:Nat}{spare:Nat->Bool}{held:Bool}
def zox(P:Program)(fs:Array Field)(ks:List IntKind):Bool:=ks.length==fs.size && (qo ks.length).all fun j=>match ks[j]?,fs[j]? with
  | some k,some f=>(match P.underlying f.type with|some (.int k')=>decide (k'=k)|_=>false)
  | _,_=>false
def RowS(ks:List IntKind)(w:World)(a:Option Addr)(len cap:Nat)(z:Nat->Nat->Int):Prop :=
  (a=none/\len=0/\cap=0)\/∃x,a=some x/\len<=cap/\cap<=maxLen/\∀i,i<len->∀(j:Nat) (k:IntKind),ks[j]?=some k->w.cell? (x.add (i * ks.length+j))=some (.int k (z i j))/\(Lit.int k (z i j)).wf=true
theorem zjv{t e:TypeId}{fs:Array Field}{ks:List IntKind}{fuel:Nat}{a:Option Addr}{len:Nat}{x:DataW H×List MemPlace}(ht:P.underlying t=some (.slice e))(he:P.underlying e=some (.struct fs))(hone:oneCellFields P fs=true)(hC:P.cellsOf e=fs.size)(hk:zox P fs ks=true)(h:DataW.trod enc P w base spare held fuel t [.slice a len cap]=some x):∃z,RowS ks w a len cap z:=by
  unfold zox at hk;rw[qp,beq_iff_eq,qO]at hk;obtain⟨hkl,hk⟩:=hk;rcases open_slice ht h with h0|⟨a',len',cap',m,n,D,Pl,hcs,hb,hl,hm,hmm,hx,hi⟩
  . have:=h0.1;simp only[qn,qr,and_true]at this;obtain⟨rfl,rfl,rfl⟩:=this;exact⟨fun _ _=>0,.inl ⟨rfl,rfl,rfl⟩⟩
  . simp only[qn,qr,and_true]at hcs;obtain⟨rfl,rfl,rfl⟩:=hcs;have each:∀i j,∃y:Int,i<len->∀k,ks[j]?=some k->w.cell? (a'.add (i * ks.length+j))=some (.int k y)/\(Lit.int k y).wf=true:=by
      intro i j;by_cases hil:i<len
      . cases hkj:ks[j]? with
        | none=>exact⟨0,fun _ k hk'=>by cases hk'⟩
        | some k =>
          have hj:j<ks.length:=(qu.1 hkj).1;have h1:=hk j (List.mem_range.2 hj);rw[hkj]at h1;have hf:fs[j]?=some fs[j]:=Array.getElem?_eq_getElem (by omega)
          rw[hf]at h1;simp only at h1;have hu:P.underlying fs[j].type=some (.int k):=by
            split at h1
            . rename_i k' hk';rw[hk',of_decide_eq_true h1]
            . cases h1
          obtain⟨cs',hc,ht'⟩:=hi i (by rw[hmm];split<;>omega)
          rw[hC]at hc;obtain⟨ys,n',_,_,hclen,hyl,hat⟩:=DataW.trod_struct he ht';obtain⟨_,_,hcell⟩:=World.cells?_some hc;obtain⟨ho,hcf⟩:=hone_of hone j _ hf;have h2:=hat j _ hf;rw[ho,hcf]at h2;have hjl:j<cs'.length:=by omega
          have hone1:(cs'.drop j).take 1=[cs'[j]]:=by
            rw[qD hjl];rfl
          rw[hone1,qe (by omega)]at h2
          obtain⟨y,hy,_,hw⟩:=DataW.trod_int hu h2;refine⟨y,fun _ k' hk'=>?_⟩;cases hk';refine⟨?_,hw⟩;have h3:=hcell j (by omega)
          rw[add_add,qe hjl]at h3;rw[hkl,h3];simp only[qn,and_true]at hy;rw[hy]
      . exact⟨0,fun h=>absurd h hil⟩
    exact⟨fun i j=>Classical.choose (each i j),.inr ⟨a',rfl,hl,hm,fun i hil j k hkj=>Classical.choose_spec (each i j) hil k hkj⟩⟩
theorem zjI{t e:TypeId}{k:IntKind}{fuel:Nat}{a:Option Addr}{len:Nat}{x:DataW H×List MemPlace}(ht:P.underlying t=some (.slice e))(he:P.underlying e=some (.int k))(hc:P.cellsOf e=1)(h:DataW.trod enc P w base (fun _=>true) held fuel t [.slice a len cap]=some x):∃z,RowS [k] w a len cap z:=by
  rcases open_ints ht he hc h with⟨hcs,_⟩|⟨x,l,c,zs,hcs,_,hl,hm,hz,_,hcell,hwz⟩
  . simp only[qn,qr,and_true]at hcs;obtain⟨rfl,rfl,rfl⟩:=hcs;exact⟨fun _ _=>0,.inl ⟨rfl,rfl,rfl⟩⟩
  . simp only[qn,qr,and_true]at hcs;obtain⟨rfl,rfl,rfl⟩:=hcs;rw[if_pos rfl]at hz;refine⟨fun i _=>zs.getD i 0,.inr ⟨x,rfl,hl,hm,fun i hi j k' hk=>?_⟩⟩
    match j,hk with
    | 0,hk =>
      cases hk;have h1:=hcell i (by omega)
      refine⟨by simpa using h1,hwz _ ?_⟩
      have:i<zs.length:=by omega
      simp[List.getD,this]
    | j+1,hk=>simp at hk
end
def zqt(P:Program)(h:AHeap)(t:TypeId)(X Y:Value):Option (Value×AHeap):=match X,za2 P t,Y with
  | .slice none 0 0,some el,.slice _ 0 _=>(match zaj P el with|some _=>some (.slice none 0 0,h)|none=>none)
  | .slice (some a) sl sc,some el,.slice b n c=>(match zaj P el with
    | some s=>if sl+n<=sc then(match n,zbe h s (.slice b n c),h.get a.block with
        | 0,_,_=>some (.slice (some a) sl sc,h)
        | _,some news,some bk=>if bk.ro=false/\a.spot=none/\a.off+sl * s+news.length<=bk.cells.length/\news.length=n * s/\news.all zdi=true then
            some (.slice (some a) (sl+n) sc,h.put a.block { bk with cells:=zaK bk.cells (a.off+sl * s) news }) else none
        | _,_,_=>none)
      else(match zcq P h t X Y with
        | some (cs,el,need,false)=>some (.slice (some ⟨h.next,0,none⟩) need need,(h.putO a.block none).addO (some ⟨cs,el,false,zaj P el⟩))
        | _=>none)
    | none=>none)
  | _,_,_=>none
def AppTo(P:Program)(h:AHeap)(t:TypeId)(X Y:Value)(v:Value)(h':AHeap):Prop:=zqt P h t X Y=some (v,h')\/∃ob,appV P h h.next t X Y=some (v,ob)/\h'=h.addO ob
structure AppT (P:Program) (t el:TypeId) (s:Nat):Prop where
  sl:za2 P t=some el
  sz:zaj P el=some (s+1)
  bs:∃bs,zal P el=some bs/\bs<=1048576
  z:∃z,zar P el=some z/\zab z=true/\z.cells.size=s+1
theorem AppT.of{P:Program}{t el:TypeId}{bs:Nat}{z:Value}(h1:za2 P t=some el)(h2:zaj P el=some (s+1))(h3:zal P el=some bs)(h4:zar P el=some z)(h5:(zab z && decide (z.cells.size=s+1) && decide (bs<=1048576))=true):AppT P t el s:=by
  rw[qp,qp,decide_eq_true_eq,decide_eq_true_eq]at h5;exact⟨h1,h2,⟨bs,h3,h5.2⟩,⟨z,h4,h5.1.1,h5.1.2⟩⟩
section
variable {P:Program}{h:AHeap}{t el:TypeId}{s:Nat}
theorem zrk(T:AppT P t el s){a b:Option Addr}{sl:Nat}{olds news:List Value}(c1:zbe h (s+1) (.slice a sl sl)=some olds)(c2:zbe h (s+1) (.slice b n c)=some news)(hn:0<n)(hl:sl+n<=16777216)(ha:∀x,a=some x->∃bk,h.get x.block=some bk/\bk.grow=some 0):
    appV P h nx t (.slice a sl sl) (.slice b n c)=some (.slice (some ⟨nx,0,none⟩) (sl+n) (sl+n),some ⟨olds++news,el,false,some (s+1)⟩):=by
  obtain⟨h1,h2,⟨bs,h3,h4⟩,⟨z,h5,h6,h7⟩⟩:=T;refine zq5 h1 h2 h3 h5 ?_ c1 c2 (by omega) hl ha
  rw[qp,qp,decide_eq_true_eq,decide_eq_true_eq];exact⟨⟨h6,h7⟩,h4⟩
theorem zoI(T:AppT P t el s){a b:Option Addr}{sl:Nat}{olds news:List Value}(c1:zbe h (s+1) (.slice a sl sl)=some olds)(c2:zbe h (s+1) (.slice b n c)=some news)(hn:0<n)(hl:sl+n<=16777216)(ha:∀x,a=some x->∃bk,h.get x.block=some bk/\bk.grow=some 0):
    AppTo P h t (.slice a sl sl) (.slice b n c) (.slice (some ⟨h.next,0,none⟩) (sl+n) (sl+n)) (h.addO (some ⟨olds++news,el,false,some (s+1)⟩)):=by
  exact .inr ⟨_,zrk T c1 c2 hn hl ha,rfl⟩
theorem zkA(T:AppT P t el s){b:Option Addr}{news:List Value}(c2:zbe h (s+1) (.slice b n c)=some news)(hn:0<n)(hl:n<=16777216):
    AppTo P h t (.slice none 0 0) (.slice b n c) (.slice (some ⟨h.next,0,none⟩) n n) (h.addO (some ⟨news,el,false,some (s+1)⟩)):=by
  have:=zoI T (a:=none) (sl:=0) (olds:=[]) (h:=h) rfl c2 hn (by omega) (fun x hx=>by cases hx)
  rw[qj]at this;exact this
theorem zmc(T:AppT P t el s){a:Addr}{b:Option Addr}{sl:Nat}{olds news:List Value}(hg:h.get a.block=some ⟨olds,el,false,some (s+1)⟩)(hsp:a.spot=none)(ho:a.off=0)(hlen:olds.length=sl * (s+1))(c2:zbe h (s+1) (.slice b n c)=some news)(hc:news.all zdi=true)(hn:0<n)(hl:sl+n<=16777216):
    AppTo P h t (.slice (some a) sl sl) (.slice b n c) (.slice (some ⟨h.next,0,none⟩) (sl+n) (sl+n)) ((h.putO a.block none).addO (some ⟨olds++news,el,false,some (s+1)⟩)):=by
  obtain⟨h1,h2,⟨bs,h3,h4⟩,⟨z,h5,h6,h7⟩⟩:=T;refine .inl ?_;have c1:zbe h (s+1) (.slice (some a) sl sl)=some olds:=by
    by_cases h0:sl=0
    . subst h0;rw[Nat.zero_mul]at hlen;rw[List.eq_nil_of_length_eq_zero hlen];exact zkn
    . rw[zfS h0 hg hsp (by rw[ho,hlen];omega),ho,List.drop_zero,<-hlen,qN]
  have hap:zcq P h t (.slice (some a) sl sl) (.slice b n c)=some (olds++news,el,sl+n,false):=by
    unfold zcq;simp only[h1,h2,h3,h5,qm,c1,c2,hg];rw[if_pos ⟨h6,h7,h4,by omega,hl⟩]
    have hne:¬ (some (s+1)=some 0):=by simp
    simp only[hne,if_false];rw[if_pos ⟨trivial,trivial,trivial,hsp,by rw[ho,hlen];omega,qz _,hc⟩]
  unfold zqt;have hn':¬sl+n<=sl:=by omega
  simp only[h1,h2,hn',if_false,hap]
theorem zfv{l:List (Option Blk)}{ys:List (Option Blk)}{s:Nat}{b:Blk}(j:Nat)(hj:ys[j]?=some (some b))(hn:n * s=b.cells.length)(h0:n≠0):zbe (zaw l q ys) s (.slice (some ⟨q+j,0,none⟩) n c)=some b.cells:=by
  rw[zfS h0 (b:=b) (by simp only;rw[zgV,hj];rfl) rfl (by simp only;omega),List.drop_zero,hn,qN]
attribute [go_sem] Int.toNat_zero Int.toNat_one Option.map_some Option.map_none
end
section
variable {P:Program}{σ:Type}{X:Face P σ}{fn:Func}{A:Conf σ->Prop}{ops:Array Oper}{k:List Item}{i:Nat}{tmps:List Value}{h h':AHeap}{S:σ}{o:Oper}{x y:Operand}{t:TypeId}{v:Value}
theorem zoZ{e:Operand->Value}:wrA P e h (.call { callee:=.builtin .append,args:=#[x,y],argTypes:=#[t,t] })=zqt P h t (e x) (e y):=by
  unfold wrA zqt;simp only[if_true];rfl
theorem AppTo.op(e:AppTo P h t (evA tmps x) (evA tmps y) v h')(hop:o.op=.call { callee:=.builtin .append,args:=#[x,y],argTypes:=#[t,t] }):Op0 X o (evA tmps) h S v h' S:=by
  rcases e with e|⟨ob,e,rfl⟩
  . exact .inr (.inr (.inl ⟨by rw[hop,zoZ];exact e,rfl⟩))
  . exact .inr (.inl ⟨ob,by rw[hop,zlF];exact e,rfl,rfl⟩)
theorem At.appE(ho:ops.toList[i]?=some o)(hop:o.op=.call { callee:=.builtin .append,args:=#[x,y],argTypes:=#[t,t] })(hg:o.guard=none)(hb:opOK o.op=true)(e:AppTo P h t (evA tmps x) (evA tmps y) v h')(hl:h'.next<=VB)(hk:∀K:List Value->AHeap->Prop,(∀t h,At X fn A ops k (i+1) t h S->K t h)->K (putL o.dst v tmps) h'):At X fn A ops k i tmps h S :=
  At.op (za1 ho) (zbX hg) (zaZ hb) (e.op hop) (.inr hl) (hk _ fun _ _ h=>h)
variable {W:List Nat}{n0:Nat}{hf:AHeap}{Kf:List Value->AHeap->σ->Prop}{born:List (Nat × Nat)}
theorem RG.appE(ho:ops.toList[i]?=some o)(hop:o.op=.call { callee:=.builtin .append,args:=#[x,y],argTypes:=#[t,t] })(hg:o.guard=none)(hb:opOK o.op=true)(hq:wrB W i o=true)(e:AppTo P h t (evA tmps x) (evA tmps y) v h')(hl:h'.next<=VB)(hk:∀K:List Value->AHeap->Prop,(∀t h1,RG X W ops n0 Kf (i+1) t h1 S (zd9 i h.next h'.next++born)->K t h1)->K (putL o.dst v tmps) h')(hnf:farB W i=false:=by rfl):RG X W ops n0 Kf i tmps h S born :=
  RGF.op' true hnf (za1 ho) (zbX hg) (zaZ hb) (.inr hl) ⟨hq,e.op hop⟩ (fun n b hb=>by cases hb) (hk (fun t h1=>RG X W ops n0 Kf (i+1) t h1 S (zd9 i h.next h'.next++born)) fun _ _ h=>h)
end
section
variable {P:Program}{σ:Type}{X:Face P σ}{fn:Func}{A:Conf σ->Prop}{ops:Array Oper}{k:List Item}{i:Nat}{tmps:List Value}{S:σ}{o:Oper}{l ys:List (Option Blk)}{q:Nat}
variable {W:List Nat}{n0:Nat}{Kf:List Value->AHeap->σ->Prop}{born:List (Nat × Nat)}{hf:AHeap}
end
abbrev wL(ws:List UInt64):List Value:=zdF .u64 (ws.map fun x=>(x.toNat:Int))
abbrev bL(bs:List UInt8):List Value:=zdF .u8 (bs.map fun x=>(x.toNat:Int))
theorem zlk(ws:List UInt64):(wL ws).length=ws.length:=by simp[zdF]
theorem zrx(bs:List UInt8):(bL bs).length=bs.length:=by simp[zdF]
abbrev mB(wn wc bn bc:Nat):Blk:=⟨[.slice (some ⟨1,0,none⟩) wn wc,.slice (some ⟨2,0,none⟩) bn bc],80,true,none⟩
abbrev wB(ws:List UInt64):Blk:=⟨wL ws,43,false,none⟩
abbrev bB(bs:List UInt8):Blk:=⟨bL bs,5,false,none⟩
abbrev zaN(ws:List UInt64)(bs:List UInt8)(wc bc:Nat):List Blk:=[mB ws.length wc bs.length bc,wB ws,bB bs]
theorem zfa{o:Nat}(h:q<n):Clo (Kn n c) (.pointer (some ⟨q,o,none⟩)):=fun F F' hs=>by
  obtain⟨h1,h2,h3⟩:=hs q (.inl h);simp[adr,h1,h2,h3]
theorem zjf{a:Nat}(h:q<n):Clo (Kn n c) (.slice (some ⟨q,0,none⟩) a b):=fun F F' hs=>by
  obtain⟨h1,h2,h3⟩:=hs q (.inl h);simp[adr,h1,h2,h3]
theorem zaV(ws:List UInt64)(bs:List UInt8)(wc bc:Nat):∀b∈zaN ws bs wc bc,∀u∈b.cells,Clo (Kn (zaN ws bs wc bc).length 0) u:=by
  intro b hb u hu;simp only[zMc,zNm,or_false]at hb;rcases hb with rfl|rfl|rfl
  . simp only[zMc,zNm,or_false]at hu;rcases hu with rfl|rfl
    . exact zjf (by simp)
    . exact zjf (by simp)
  . exact qf (zam u hu)
  . exact qf (zam u hu)
variable {ns:List Nat}
theorem up_3{a:Nat}:(upE (a::b::c::d::ns) nx).blk 3=d:=by simp[upE,zdf,upN]
theorem up_4{a e:Nat}:(upE (a::b::c::d::e::ns) nx).blk 4=e:=by simp[upE,zdf,upN]
variable {l l':List Blk}
theorem Gives.turn{cnt:Nat}{h1:AHeap}{v:Value}(hlen:l'.length=l.length)(hv:Clo (Kn l.length cnt) v)(hr:∀(i:Nat) b,l[i]?=some b->b.ro=false->∃b1,h1.get i=some b1/\l'[i]?=some b1/\b1.ro=false/\∀u∈b1.cells,Clo (Kn l.length cnt) u):Gives cnt l l' [] [] id h1 v v where
  low:=fun _ _=>rfl
  hand:=fun _ _=>rfl
  more:=fun j n hj=>by simp at hj
  nodup:=List.nodup_nil
  len:=rfl
  len':=hlen
  told:=(zd6 v).symm
  clo:=fun F F' hs=>hv F F' fun n hn=>hs n (by rcases hn with hn|hn;exact .inl hn;exact .inr (.inr hn))
  rows:=fun i b hb hro=>by
    obtain⟨b1,h1,h2,h3,h4⟩:=hr i b hb hro;refine⟨b1,h1,?_,h3,fun u hu F F' hs=>h4 u hu F F' fun n hn=>hs n (by rcases hn with hn|hn;exact .inl hn;exact .inr (.inr hn))⟩
    rw[h2];congr 1;obtain⟨cs,el,ro,gr⟩:=b1;simp only[renB,Blk.mk.injEq,and_true];have h5:cs.map (ren (zdf id))=cs.map id:=List.map_congr_left fun u hu=>zd6 u;rw[h5,List.map_id]
  news:=fun j n hj=>by simp at hj
def zm3(m:Nat)(l l':List Blk)(h1:AHeap):Prop:=∀(i:Nat) b,l[i]?=some b->b.ro=false->∃b1,h1.get i=some b1/\l'[i]?=some b1/\b1.ro=false/\∀u∈b1.cells,Clo (Kn m 0) u
def DoesI(f:FuncId)(args:Array Value)(l:List Blk)(v:Value)(l':List Blk):Prop :=
  ∃g c h1,Try.prog.funcs[f]?=some g/\goB g=true/\g.body=some c/\(∀u∈args.toList,Clo (Kn l.length 0) u)/\(∀b∈l,∀u∈b.cells,Clo (Kn l.length 0) u)/\l'.length=l.length/\Clo (Kn l.length 0) v/\zm3 l.length l l' h1 /\
    Goes BT g (fun x=>x=.done v h1 ()) (.run (zai g c args).1 (zai g c args).2 (zaq (l.map some)) ())
theorem DoesI.x{f:FuncId}{args:Array Value}{v:Value}(h:DoesI f args l v l'):DoesX BT f args l () v l' [] ():=by
  obtain⟨g,c,h1,a1,a2,a3,a4,a5,a6,a7,a8,G⟩:=h;exact⟨g,c,h1,v,[],id,a1,a2,a3,a4,a5,Gives.turn a6 a7 a8,G⟩
def EndI(l l':List Blk)(v:Value)(x:Conf Unit):Prop:=∃h1,x=.done v h1 ()/\l'.length=l.length/\Clo (Kn l.length 0) v/\zm3 l.length l l' h1
theorem DoesI.mk{f:FuncId}{g:Func}{c:Code}{args:Array Value}{v:Value}(hf:Try.prog.funcs[f]?=some g)(hg:goB g=true)(hb:g.body=some c)(hclo:∀u∈args.toList,Clo (Kn l.length 0) u)(hcl:∀b∈l,∀u∈b.cells,Clo (Kn l.length 0) u)(hrun:Goes BT g (EndI l l' v) (.run [.code c] (args.toList++qh (g.ntmps - args.size) undef) (zaq (l.map some)) ())):DoesI f args l v l':=by
  obtain⟨c',⟨h1,rfl,b1,b2,b3⟩,G⟩:=hrun.out;exact⟨g,c,h1,hf,hg,hb,hclo,hcl,b1,b2,b3,G⟩
theorem Goes.finI{fn:Func}{todo:List Item}{tmps:List Value}{h:AHeap}{v:Value}(ht:retB todo=true)(hv:resA Try.prog fn tmps h=some v)(hS:(():Unit)=())(hlen:l'.length=l.length)(hc:Clo (Kn l.length 0) v)(hr:zm3 l.length l l' h):
    Goes BT fn (EndI l l' v) (.run todo tmps h ()):=.ret ht hv (.here ⟨h,rfl,hlen,hc,hr⟩)
theorem znT{h1:AHeap}(h:l.all (·.ro)=true):zm3 m l l' h1:=fun i b hb hro=>by
  have:=qO.1 h b (List.mem_of_getElem? hb);rw[hro]at this;cases this
theorem ziP(ws:List UInt64):∀u∈wL ws,zab u=true:=zam
theorem ziw(bs:List UInt8):∀u∈bL bs,zab u=true:=zam
variable {ws:List UInt64}
theorem zcm{ws':List UInt64}{bs bs':List UInt8}{wn wc bn bc:Nat}{l:List (Option Blk)}:∀(i:Nat) b,[mB wn wc bn bc,wB ws,bB bs][i]?=some b->b.ro=false->∃b1,(zaq (some (mB wn wc bn bc)::some (wB ws')::some (bB bs')::l)).get i=some b1/\[mB wn wc bn bc,wB ws',bB bs'][i]?=some b1/\b1.ro=false/\∀u∈b1.cells,Clo (Kn m 0) u
  | 0,b,hb,hro=>by simp at hb;subst hb;cases hro
  | 1,b,_,_=>⟨wB ws',rfl,rfl,rfl,fun u hu=>qf (ziP ws' u hu)⟩
  | 2,b,_,_=>⟨bB bs',rfl,rfl,rfl,fun u hu=>qf (ziw bs' u hu)⟩
  | i+3,b,hb,_=>by simp at hb
abbrev wBr(ws:List UInt64):Blk:=⟨wL ws,43,true,none⟩
abbrev bBr(bs:List UInt8):Blk:=⟨bL bs,5,true,none⟩
abbrev mRo(ws:List UInt64)(bs:List UInt8)(wc bc:Nat):List Blk:=[mB ws.length wc bs.length bc,wBr ws,bBr bs]
theorem zoG(ws:List UInt64)(bs:List UInt8)(wc bc:Nat):∀b∈mRo ws bs wc bc,∀u∈b.cells,Clo (Kn (mRo ws bs wc bc).length 0) u:=by
  intro b hb u hu;simp only[zMc,zNm,or_false]at hb;rcases hb with rfl|rfl|rfl
  . simp only[zMc,zNm,or_false]at hu;rcases hu with rfl|rfl
    . exact zjf (by simp)
    . exact zjf (by simp)
  . exact qf (zam u hu)
  . exact qf (zam u hu)
theorem zef(ws:List UInt64)(bs:List UInt8)(wc bc:Nat):DoesX BT 43 #[.pointer (some ⟨0,0,none⟩)] (mRo ws bs wc bc) () (.int .i64 (ws.length:Int)) (mRo ws bs wc bc) [] ():=by
  refine DoesX.mk Try.func43 rfl rfl ?clo ?rows ?_
  case clo=>exact fun u hu=>(by simp only[zMc,zNm,or_false]at hu;subst hu;exact zfa (by simp))
  case rows=>exact zoG ws bs wc bc
  rw[Try.ntmps43];simp only[zSt,zLc,zLn,qh,zCa,zNa];simp only[mRo,zMp,zMn];refine via ?_;refine Goes.finS rfl (by simp (disch:=(first|omega|(simp only[zaa,zLc,zLn,zSt,zad]<;>omega)|fail)) only [go_sem,resA,zaC,Try.results43]<;>rfl) ?_ rfl ?_
  . rfl
  . exact qf rfl
theorem ziL(ws:List UInt64)(bs:List UInt8)(wc bc:Nat):DoesX BT 45 #[.pointer (some ⟨0,0,none⟩)] (mRo ws bs wc bc) () (.int .i64 (bs.length:Int)) (mRo ws bs wc bc) [] ():=by
  refine DoesX.mk Try.func45 rfl rfl ?clo ?rows ?_
  case clo=>exact fun u hu=>(by simp only[zMc,zNm,or_false]at hu;subst hu;exact zfa (by simp))
  case rows=>exact zoG ws bs wc bc
  rw[Try.ntmps45];simp only[zSt,zLc,zLn,qh,zCa,zNa];simp only[mRo,zMp,zMn];refine via ?_;refine Goes.finS rfl (by simp (disch:=(first|omega|(simp only[zaa,zLc,zLn,zSt,zad]<;>omega)|fail)) only [go_sem,resA,zaC,Try.results45]<;>rfl) ?_ rfl ?_
  . rfl
  . exact qf rfl
abbrev zh3:Value:=.agg #[.nilFunc,.func (.func 46) #[] #[],.func (.func 47) #[] #[],.func (.func 48) #[] #[],.func (.func 49) #[] #[]]
theorem zgG:zaj Try.prog 108=some 1:=by kernel_rfl
theorem ziR:zaI Try.prog 108=some false:=by kernel_rfl
theorem zes:Does BT 44 #[] [] () zh3 ():=by
  refine Does.mk Try.func44 rfl rfl ?clo ?hand ?_
  case clo=>exact fun u hu=>by simp at hu
  case hand=>exact fun F F' _=>(by simp[zh3])
  rw[Try.ntmps44];simp only[zSt,zLc,zLn,qh,zCa,zNa];simp only[zMn];refine via ?_;refine Goes.fin rfl (by simp (disch:=(first|omega|(simp only[zaa,zLc,zLn,zSt,zad]<;>omega)|fail)) only [go_sem,resA,zaC,Try.results44]<;>rfl) ?_
  rfl
theorem zlt(x:UInt64)(c:Nat)(n:Int)(A B:UInt64):Does BT 46 #[.int .u64 (x.toNat:Int),accV c n A B] [] () (.tuple #[.int .u64 (x.toNat:Int),.int .u64 (x.toNat:Int)]) ():=by
  refine Does.mk Try.func46 rfl rfl ?clo ?hand ?_
  case clo=>exact fun u hu=>(by simp only[zMc,zNm,or_false]at hu;rcases hu with rfl|rfl;exact qf rfl;exact qf (by simp[zab,accV]))
  case hand=>exact Hand.plain (by simp[zab])
  rw[Try.ntmps46];simp only[zSt,zLc,zLn,qh,zCa,zNa];simp only[zMn,accV];refine via ?_;refine Goes.fin rfl (by simp (disch:=(first|omega|(simp only[zaa,zLc,zLn,zSt,zad]<;>omega)|fail)) only [go_sem,resA,zaC,Try.results46]<;>rfl) ?_
  rfl
theorem zlY(x:UInt64)(c:Nat)(n:Int)(A B:UInt64):Does BT 47 #[.int .u64 (x.toNat:Int),accV c n A B] [] () (.tuple #[.int .u64 (A.toNat:Int),.int .u64 0]) ():=by
  refine Does.mk Try.func47 rfl rfl ?clo ?hand ?_
  case clo=>exact fun u hu=>(by simp only[zMc,zNm,or_false]at hu;rcases hu with rfl|rfl;exact qf rfl;exact qf (by simp[zab,accV]))
  case hand=>exact Hand.plain (by simp[zab])
  rw[Try.ntmps47];simp only[zSt,zLc,zLn,qh,zCa,zNa];simp only[zMn,accV];refine via ?_;refine Goes.fin rfl (by simp (disch:=(first|omega|(simp only[zaa,zLc,zLn,zSt,zad]<;>omega)|fail)) only [go_sem,resA,zaC,Try.results47]<;>rfl) ?_
  rfl
theorem zlI(x:UInt64)(c:Nat)(n:Int)(A B:UInt64):Does BT 48 #[.int .u64 (x.toNat:Int),accV c n A B] [] () (.tuple #[.int .u64 ((kNow 3 x A B).toNat:Int),.int .u64 ((zpl 3 x A).toNat:Int)]) ():=by
  refine Does.mk Try.func48 rfl rfl ?clo ?hand ?_
  case clo=>exact fun u hu=>(by simp only[zMc,zNm,or_false]at hu;rcases hu with rfl|rfl;exact qf rfl;exact qf (by simp[zab,accV]))
  case hand=>exact Hand.plain (by simp[zab])
  rw[Try.ntmps48];simp only[zSt,zLc,zLn,qh,zCa,zNa];simp only[zMn,accV];by_cases h:x=A
  . have h2:((x.toNat:Int) != (A.toNat:Int))=false:=by simp[h]
    refine viaF h2 ?_;simp only[kNow,zpl,h,if_true];refine Goes.fin rfl (by simp (disch:=(first|omega|(simp only[zaa,zLc,zLn,zSt,zad]<;>omega)|fail)) only [go_sem,resA,zaC,Try.results48]<;>rfl) ?_
    rfl
  . have h2:((x.toNat:Int) != (A.toNat:Int))=true:=by
      simp only[bne_iff_ne,ne_eq];intro z;exact h (UInt64.toNat_inj.1 (by omega))
    refine viaF h2 ?_;simp only[kNow,zpl,h,if_false];refine Goes.fin rfl (by simp (disch:=(first|omega|(simp only[zaa,zLc,zLn,zSt,zad]<;>omega)|fail)) only [go_sem,resA,zaC,Try.results48]<;>rfl) ?_
    rfl
theorem zlN(x:UInt64)(c:Nat)(n:Int)(A B:UInt64):Does BT 49 #[.int .u64 (x.toNat:Int),accV c n A B] [] () (.tuple #[.int .u64 ((x+A).toNat:Int),.int .u64 (x.toNat:Int)]) ():=by
  refine Does.mk Try.func49 rfl rfl ?clo ?hand ?_
  case clo=>exact fun u hu=>(by simp only[zMc,zNm,or_false]at hu;rcases hu with rfl|rfl;exact qf rfl;exact qf (by simp[zab,accV]))
  case hand=>exact Hand.plain (by simp[zab])
  rw[Try.ntmps49];simp only[zSt,zLc,zLn,qh,zCa,zNa];simp only[zMn,accV];have h2:IntKind.u64.wrap ((x.toNat:Int)+(A.toNat:Int))=((x+A).toNat:Int):=zrX x A;refine viaF h2 ?_;refine Goes.fin rfl (by simp (disch:=(first|omega|(simp only[zaa,zLc,zLn,zSt,zad]<;>omega)|fail)) only [go_sem,resA,zaC,Try.results49]<;>rfl) ?_
  rfl
theorem zqx(h:k<ws.length):(wL ws)[k]?=some (.int .u64 (ws[k].toNat:Int)):=by simp[zdF,h]
variable {A B:UInt64}
theorem zlR{x:UInt64}:(wL ws).set k (.int .u64 (x.toNat:Int))=wL (ws.set k x):=by simp[zdF,List.map_set]
theorem zs3{k:Int}:Clo (Kn n m) (accV c k A B):=qf (by simp[zab,accV])
theorem zbg{k:Int}(h:0<n):∀u∈(#[.pointer (some ⟨0,0,none⟩),accV c k A B]:Array Value).toList,Clo (Kn n 0) u:=fun u hu=>by
  simp only[zMc,zNm,or_false]at hu;rcases hu with rfl|rfl
  . exact zfa h
  . exact zs3
end Go.Proofs.Ytkjmaapbeicmkaa
