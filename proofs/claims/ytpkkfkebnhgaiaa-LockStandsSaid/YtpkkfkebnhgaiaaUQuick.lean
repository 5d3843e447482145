/-
  The abstract machine's steps, by what an operation's guard says.
  No condition: laws.
-/
import Derived.Test.YtpkkfkebnhgaiaaUAx12
import Derived.Conc.TokenTrace
import Derived.Conc.TokenFlight
import Derived.Conc.CrowdComm
import Derived.Conc.CrowdSel
import Derived.Conc.Token
import Derived.Test.YtpkkfkebnhgaiaaUCo2
import Derived.Test.YtpkkfkebnhgaiaaUAx10
set_option maxHeartbeats 40000000
set_option linter.unusedVariables false
set_option linter.unusedSimpArgs false
open Go.Proofs.Ytpkkfkebnhgaiaa.Goes renaming fin->qa
open List renaming replicate->qb,mem_toArray->qe
open Go.Proofs.Ytpkkfkebnhgaiaa.Hand renaming plain->qc
open Go.IntKind renaming i64->qd
open Go.Proofs.Ytpkkfkebnhgaiaa.Does renaming mk->qf
open Go.Conc renaming getElem?_append_cases->qg,mem_ofEvents->qi,touchAt_of->qp,touch_of->qs,g?_old->qt,again_of_running->qu,act?_of->qv,deaf_old->qw,Deaf_quiet->qy,Deaf_other->qz,offersAt_of_not_blocked->qA,knows_own->qB,Goes->qF
open Go.Region renaming wanted->qh
open Option renaming map_eq_some_iff->qj,bind_some->qC
open Relation.TransGen renaming single->qk
open Go.MemOp renaming ofEvents->ql
open Nat renaming le_refl->qm,lt_trichotomy->qE
open Array renaming getElem?_setIfInBounds_ne->qn,getElem?_setIfInBounds_self_of_lt->qq
open Classical renaming byContradiction->qo
open Option.some renaming inj->qr
namespace Go.Proofs.Ytpkkfkebnhgaiaa
open Go Go.RowKit
variable {o:Oper}
theorem zcp{y:Nat->Option Bool}(hg:o.guard=none):qh o y=true:=by
  unfold qh;rw[hg]
variable {ops:Array Oper}{j d k:Nat}
theorem zgA{tmps:List Value}{b b':Bool}(hg:o.guard=some (j,b))(hd:(ops[j]?).bind (·.dst)=some d)(hv:tmps[d]?=some (.bool b')):qh o (zah ops tmps)=(b'==b):=by
  unfold qh zah;rw[hg];simp only[hd,qC,hv];cases b<;>cases b'<;>rfl
theorem zlE{tmps:List Value}{b:Bool}(hg:o.guard=some (j,b))(hd:(ops[j]?).bind (·.dst)=some d)(hv:tmps[d]?=some undef):qh o (zah ops tmps)=false:=by
  unfold qh zah;rw[hg];simp only[hd,qC,hv];cases b<;>rfl
section
variable {P:Program}{σ:Type}{X:Face P σ}{fn:Func}{A:Conf σ->Prop}{ops:Array Oper}{k:List Item}{i:Nat}{tmps:List Value}{h:AHeap}{S:σ}{o:Oper}{j d:Nat}{b b':Bool}
theorem AtL.valn(ho:ops.toList[i]?=some o)(hg:o.guard=none)(hb:opOK o.op=true)(hk:∀K:List Value->AHeap->Prop,(∀t h,At X fn A ops k (i+1) t h S->K t h)->OpK K o tmps h (valA P (evA tmps) h o.op)):At X fn A ops k i tmps h S:=AtL.val ho (zcp hg) hb hk
theorem AtL.valg(ho:ops.toList[i]?=some o)(hg:o.guard=some (j,b))(hd:(ops[j]?).bind (·.dst)=some d)(hv:tmps[d]?=some (.bool b'))(hw:(b'==b)=true)(hb:opOK o.op=true)(hk:∀K:List Value->AHeap->Prop,(∀t h,At X fn A ops k (i+1) t h S->K t h)->OpK K o tmps h (valA P (evA tmps) h o.op)):At X fn A ops k i tmps h S:=AtL.val ho ((zgA hg hd hv).trans hw) hb hk
theorem AtL.skipg(ho:ops.toList[i]?=some o)(hg:o.guard=some (j,b))(hd:(ops[j]?).bind (·.dst)=some d)(hv:tmps[d]?=some (.bool b'))(hw:(b'==b)=false)(hk:At X fn A ops k (i+1) (putL o.dst undef tmps) h S):At X fn A ops k i tmps h S:=AtL.skip ho ((zgA hg hd hv).trans hw) hk
theorem AtL.skipu(ho:ops.toList[i]?=some o)(hg:o.guard=some (j,b))(hd:(ops[j]?).bind (·.dst)=some d)(hv:tmps[d]?=some undef)(hk:At X fn A ops k (i+1) (putL o.dst undef tmps) h S):At X fn A ops k i tmps h S:=AtL.skip ho (zlE hg hd hv) hk
theorem AtL.newn(ho:ops.toList[i]?=some o)(hg:o.guard=none)(hb:opOK o.op=true)(hl:h.next<VB)(hk:∀K:List Value->AHeap->Prop,(∀t h,At X fn A ops k (i+1) t h S->K t h)->NewK K o tmps h (newA P (evA tmps) h h.next o.op)):At X fn A ops k i tmps h S:=AtL.new ho (zcp hg) hb hl hk
theorem AtL.storen(ho:ops.toList[i]?=some o)(hg:o.guard=none)(hb:opOK o.op=true)(hk:∀K:List Value->AHeap->Prop,(∀t h,At X fn A ops k (i+1) t h S->K t h)->zgh K o tmps (zcq P (evA tmps) h o.op)):At X fn A ops k i tmps h S:=AtL.store ho (zcp hg) hb hk
variable {W:List Nat}{n0:Nat}{hf:AHeap}{Kf:List Value->AHeap->σ->Prop}{born:List (Nat × Nat)}
theorem RGL.valn(hl:h.Low)(ho:ops.toList[i]?=some o)(hg:o.guard=none)(hb:opOK o.op=true)(hq:wrB W i o=false)(hk:∀K:List Value->AHeap->Prop,(∀t h,RGF X W ops n0 hf Kf (i+1) t h S born->K t h)->OpK K o tmps h (valA P (evA tmps) (lowH n0 h) o.op))(hnf:farB W i=false:=by rfl):RGF X W ops n0 hf Kf i tmps h S born:=RGL.val hl ho (zcp hg) hb hq hk hnf
theorem RGL.valg(hl:h.Low)(ho:ops.toList[i]?=some o)(hg:o.guard=some (j,b))(hd:(ops[j]?).bind (·.dst)=some d)(hv:tmps[d]?=some (.bool b'))(hw:(b'==b)=true)(hb:opOK o.op=true)(hq:wrB W i o=false)(hk:∀K:List Value->AHeap->Prop,(∀t h,RGF X W ops n0 hf Kf (i+1) t h S born->K t h)->OpK K o tmps h (valA P (evA tmps) (lowH n0 h) o.op))(hnf:farB W i=false:=by rfl):RGF X W ops n0 hf Kf i tmps h S born:=RGL.val hl ho ((zgA hg hd hv).trans hw) hb hq hk hnf
theorem RGL.skipg(ho:ops.toList[i]?=some o)(hg:o.guard=some (j,b))(hd:(ops[j]?).bind (·.dst)=some d)(hv:tmps[d]?=some (.bool b'))(hw:(b'==b)=false)(hk:RGF X W ops n0 hf Kf (i+1) (putL o.dst undef tmps) h S born):RGF X W ops n0 hf Kf i tmps h S born:=RGL.skip ho ((zgA hg hd hv).trans hw) hk
theorem RGL.skipu(ho:ops.toList[i]?=some o)(hg:o.guard=some (j,b))(hd:(ops[j]?).bind (·.dst)=some d)(hv:tmps[d]?=some undef)(hk:RGF X W ops n0 hf Kf (i+1) (putL o.dst undef tmps) h S born):RGF X W ops n0 hf Kf i tmps h S born:=RGL.skip ho (zlE hg hd hv) hk
theorem RGL.newn(hl:h.Low)(ho:ops.toList[i]?=some o)(hg:o.guard=none)(hb:opOK o.op=true)(hq:wrB W i o=false)(hn:h.next<VB)(hne:zrP o.op=true)(hk:∀K:List Value->AHeap->Prop,(∀t h',RGF X W ops n0 hf Kf (i+1) t h' S ((i,h.next)::born)->K t h')->NewK K o tmps h (newA P (evA tmps) (lowH n0 h) h.next o.op))(hnf:farB W i=false:=by rfl):RGF X W ops n0 hf Kf i tmps h S born:=RGL.new hl ho (zcp hg) hb hq hn hne hk hnf
theorem RGL.storen(ho:ops.toList[i]?=some o)(hg:o.guard=none)(hb:opOK o.op=true)(hk:∀K:List Value->AHeap->Prop,(∀t h,RG X W ops n0 Kf (i+1) t h S born->K t h)->zgh K o tmps (zcq P (evA tmps) h o.op))(hnf:farB W i=false:=by rfl):RG X W ops n0 Kf i tmps h S born:=RGL.store ho (zcp hg) hb hk hnf
end
theorem sz:(∀l:List (Option Blk),(zaq l).next=l.length)/\(∀(l:List (Option Blk)) (q:Nat) (l2:List (Option Blk)),(zaX l q l2).next=q+l2.length)/\(∀(a:Option Blk) (l:List (Option Blk)),(a::l).length=l.length+1)/\([]:List (Option Blk)).length=0 /\
    (∀l l2:List (Option Blk),(l++l2).length=l.length+l2.length)/\(∀(a:Value) (l:List Value),(a::l).length=l.length+1)/\([]:List Value).length=0/\(∀l:List Value,l.toArray.size=l.length)/\(∀N T:Nat,(geoC N T).toList.length=22) :=
  ⟨zaa,zeS,fun _ _=>rfl,rfl,fun _ _=>List.length_append,fun _ _=>rfl,rfl,fun _=>List.size_toArray,zaf⟩
def vB:Op->Bool
  | .alloc _|.box _ _|.buildSlice _ _ _|.makeSlice _ _ _|.store _ _ _=>false
  | .call c=>(match c.callee with|.builtin .append=>false|.builtin _=>true|_=>false)
  | _=>true
def nB:Op->Bool
  | .alloc _|.box _ _|.buildSlice _ _ _|.makeSlice _ _ _=>true
  | .call c=>(match c.callee with|.builtin .append=>true|_=>false)
  | _=>false
def tB:Op->Bool
  | .store _ _ _=>true
  | _=>false
section
variable {P:Program}{σ:Type}{X:Face P σ}{fn:Func}{A:Conf σ->Prop}{ops:Array Oper}{k:List Item}{i:Nat}{tmps:List Value}{h:AHeap}{S:σ}{o:Oper}{j d:Nat}{b b':Bool}
theorem qv1(ho:ops.toList[i]?=some o)(hg:o.guard=none)(_:vB o.op=true)(hk:∀K:List Value->AHeap->Prop,(∀t h,At X fn A ops k (i+1) t h S->K t h)->OpK K o tmps h (valA P (evA tmps) h o.op))(hb:opOK o.op=true:=by rfl):At X fn A ops k i tmps h S:=AtL.valn ho hg hb hk
theorem qv2(ho:ops.toList[i]?=some o)(hg:o.guard=some (j,b))(hd:(ops[j]?).bind (·.dst)=some d)(hv:tmps[d]?=some (.bool b'))(hw:(b'==b)=true)(_:vB o.op=true)(hk:∀K:List Value->AHeap->Prop,(∀t h,At X fn A ops k (i+1) t h S->K t h)->OpK K o tmps h (valA P (evA tmps) h o.op))(hb:opOK o.op=true:=by rfl):At X fn A ops k i tmps h S:=AtL.valg ho hg hd hv hw hb hk
theorem qn1(ho:ops.toList[i]?=some o)(hg:o.guard=none)(_:nB o.op=true)(hk:∀K:List Value->AHeap->Prop,(∀t h,At X fn A ops k (i+1) t h S->K t h)->NewK K o tmps h (newA P (evA tmps) h h.next o.op))(hb:opOK o.op=true:=by rfl)(hl:h.next<VB:=by first|exact zkl rfl|(exact zoi (by simp only[sz];omega))):At X fn A ops k i tmps h S:=AtL.newn ho hg hb hl hk
theorem qt1(ho:ops.toList[i]?=some o)(hg:o.guard=none)(_:tB o.op=true)(hk:∀K:List Value->AHeap->Prop,(∀t h,At X fn A ops k (i+1) t h S->K t h)->zgh K o tmps (zcq P (evA tmps) h o.op))(hb:opOK o.op=true:=by rfl):At X fn A ops k i tmps h S:=AtL.storen ho hg hb hk
theorem qp1(ho:ops.toList[i]?=some o)(hw:qh o (zah ops tmps)=true)(hk:∀K:List Value->σ->Prop,(∀t S',At X fn A ops k (i+1) t h S'->K t S')->zdI (fun f args=>fnOK P f=true/\∃v S',X.prim f args S v S'/\K (putL o.dst v tmps) S') (zaJ P (evA tmps) o.op))(hb:opOK o.op=true:=by rfl):At X fn A ops k i tmps h S:=At.prim2 ho hw hb hk
theorem qc1(ho:ops.toList[i]?=some o)(hw:qh o (zah ops tmps)=true)(hk:∀K:List Value->σ->Prop,(∀t S',At X fn A ops k (i+1) t h S'->K t S')->zdI (fun f args=>∃v S',Does X f args [] S v S'/\K (putL o.dst v tmps) S') (zaJ P (evA tmps) o.op))(hb:opOK o.op=true:=by rfl):At X fn A ops k i tmps h S:=At.call2 ho hw hb hk
variable {W:List Nat}{n0:Nat}{hf:AHeap}{Kf:List Value->AHeap->σ->Prop}{born:List (Nat × Nat)}
theorem qv3(ho:ops.toList[i]?=some o)(hg:o.guard=none)(_:vB o.op=true)(hk:∀K:List Value->AHeap->Prop,(∀t h,RGF X W ops n0 hf Kf (i+1) t h S born->K t h)->OpK K o tmps h (valA P (evA tmps) (lowH n0 h) o.op))(hb:opOK o.op=true:=by rfl)(hq:wrB W i o=false:=by rfl)(hl:h.Low:=by first|exact zbA _|exact zhf _ _ _)(hnf:farB W i=false:=by rfl):RGF X W ops n0 hf Kf i tmps h S born:=RGL.valn hl ho hg hb hq hk hnf
theorem qv4(ho:ops.toList[i]?=some o)(hg:o.guard=some (j,b))(hd:(ops[j]?).bind (·.dst)=some d)(hv:tmps[d]?=some (.bool b'))(hw:(b'==b)=true)(_:vB o.op=true)(hk:∀K:List Value->AHeap->Prop,(∀t h,RGF X W ops n0 hf Kf (i+1) t h S born->K t h)->OpK K o tmps h (valA P (evA tmps) (lowH n0 h) o.op))(hb:opOK o.op=true:=by rfl)(hq:wrB W i o=false:=by rfl)(hl:h.Low:=by first|exact zbA _|exact zhf _ _ _)(hnf:farB W i=false:=by rfl):RGF X W ops n0 hf Kf i tmps h S born:=RGL.valg hl ho hg hd hv hw hb hq hk hnf
theorem qn3(ho:ops.toList[i]?=some o)(hg:o.guard=none)(_:nB o.op=true)(hk:∀K:List Value->AHeap->Prop,(∀t h',RGF X W ops n0 hf Kf (i+1) t h' S ((i,h.next)::born)->K t h')->NewK K o tmps h (newA P (evA tmps) (lowH n0 h) h.next o.op))(hb:opOK o.op=true:=by rfl)(hq:wrB W i o=false:=by rfl)(hl:h.Low:=by first|exact zbA _|exact zhf _ _ _)(hn:h.next<VB:=by first|exact zkl rfl|(exact zoi (by simp only[sz];omega)))(hne:zrP o.op=true:=by rfl)(hnf:farB W i=false:=by rfl):RGF X W ops n0 hf Kf i tmps h S born:=RGL.newn hl ho hg hb hq hn hne hk hnf
theorem qt3(ho:ops.toList[i]?=some o)(hg:o.guard=none)(_:tB o.op=true)(hk:∀K:List Value->AHeap->Prop,(∀t h,RG X W ops n0 Kf (i+1) t h S born->K t h)->zgh K o tmps (zcq P (evA tmps) h o.op))(hb:opOK o.op=true:=by rfl)(hnf:farB W i=false:=by rfl):RG X W ops n0 Kf i tmps h S born:=RGL.storen ho hg hb hk hnf
theorem qp3(ho:ops.toList[i]?=some o)(hw:qh o (zah ops tmps)=true)(hk:∀K:List Value->σ->Prop,(∀t S',RGF X W ops n0 hf Kf (i+1) t h S' born->K t S')->zdI (fun f args=>fnOK P f=true/\∃v S',X.prim f args S v S'/\K (putL o.dst v tmps) S') (zaJ P (evA tmps) o.op))(hb:opOK o.op=true:=by rfl)(hq:wrB W i o=false:=by rfl)(hl:h.Low:=by first|exact zbA _|exact zhf _ _ _)(hnf:farB W i=false:=by rfl):RGF X W ops n0 hf Kf i tmps h S born:=RG.prim2 hl ho hw hb hq hk hnf
theorem qc3(ho:ops.toList[i]?=some o)(hw:qh o (zah ops tmps)=true)(hk:∀K:List Value->σ->Prop,(∀t S',RGF X W ops n0 hf Kf (i+1) t h S' born->K t S')->zdI (fun f args=>∃v S',Does X f args [] S v S'/\K (putL o.dst v tmps) S') (zaJ P (evA tmps) o.op))(hb:opOK o.op=true:=by rfl)(hq:wrB W i o=false:=by rfl)(hl:h.Low:=by first|exact zbA _|exact zhf _ _ _)(hnf:farB W i=false:=by rfl):RGF X W ops n0 hf Kf i tmps h S born:=RG.call2 hl ho hw hb hq hk hnf
end
variable {f:FuncId}{v:Value}
theorem zjU{σ:Type}{X:Face Try.prog σ}{args:Array Value}{S S1:σ}{F:Emb}{w:World}(D:Does X f args [] S v S1)(ha:args.all zac=true)(hv:zac v=true)(hc:X.cnt S=0)(hR:X.rep F S w)(hfp:∀b,¬X.fp F S b):
    TCalls Try.prog f args w fun e w'=>e=.returned v/\Kept w (fun _=>False) w':=by
  intro cs;obtain⟨g,c,h1,hf,hgo,hbd,_,_,G⟩:=D
  let b:Frame:={ (default:Frame) with fn:=f,kind:=.normal }
  have hpl:args.map (ren F)=args:=zcB F ha;have henter0:Frame.enter Try.prog f (args.map (ren F)) .normal=b.at (actF F (zag g c args).2) (zag g c args).1:=by
    simp[Frame.enter,Frame.at,hf,hbd,b,actF,zag,zaW]
  have henter:Frame.enter Try.prog f args .normal=b.at (actF F (zag g c args).2) (zag g c args).1:=by
    rw[hpl]at henter0;exact henter0
  have hn:(zaq (List.map some ([]:List Blk))).next=0:=rfl;have hg0:∀n bb,(zaq (List.map some ([]:List Blk))).get n=some bb->False:=fun n bb hb=>by simp[zaq]at hb
  have hI:InvC X F w (fun _=>False) (.run (zag g c args).1 (zag g c args).2 (zaq (List.map some ([]:List Blk))) S) w:=by
    refine⟨⟨⟨fun n bb hb=>(hg0 n bb hb).elim,fun n m bb cc hb=>(hg0 n bb hb).elim⟩,hR,fun u hu=>?_,fun n bb hb u hu=>(hg0 n bb hb).elim,fun n bb hb=>(hg0 n bb hb).elim,fun n h1 h2=>.inr ⟨h1,h2⟩,fun n hn'=>?_,Kept.refl _ _,fun n bb hb=>(hg0 n bb hb).elim,fun x hx=>absurd hx (hfp x),fun n bb hb=>(hg0 n bb hb).elim⟩,by show(0:Nat)<=VB;unfold VB;omega⟩
    . have hu:u∈(zag g c args).2:=hu;simp only[zag,List.mem_append]at hu;rcases hu with hu|hu
      . refine Stab.plain ?_;obtain⟨i,hi,rfl⟩:=Array.mem_iff_getElem.1 (Array.mem_toList_iff.1 hu);exact Array.all_eq_true.1 ha i hi
      . rw[List.eq_of_mem_replicate hu];exact Stab.undef
    . rcases hn' with hn'|⟨_,hn'⟩
      . have hn':n<0:=hn';omega
      . exact hn'
  obtain⟨c',F',w',m',hAc,hst',hS,hI',_,_,_⟩:=G.simul b cs F w w _ _ hf rfl rfl hI;subst hAc;obtain⟨fr,rfl,hfn,hleave⟩:=hS;exact⟨.returned (ren F' v),w',fr,⟨by rw[zaA F' hv],hI'.1.kept⟩,by rw[henter];exact hst',hfn,hleave⟩
theorem PureD.t{args:Array Value}(h:PureD f args v)(ha:args.all zac=true)(hv:zac v=true):zne f args v:=fun w=>zjU (X:=BF Try.prog Try.mix) (F:=idE) (w:=w) h ha hv rfl trivial fun _ z=>z
variable {S:St}
theorem qpd{args:Array Value}(h:∀w:World,PureD f args v)(ha:args.all zac=true:=by first|rfl|(simp[zac];done)|simp[zac,geoC])(hv:zac v=true:=by first|rfl|(simp[zac];done)|simp[zac,geoC]):Prim f args S v S:=.pure (fun w=>(h w).t ha hv) ha hv
theorem qpu{args:Array Value}(h:∀w:World,zne f args v)(ha:args.all zac=true:=by first|rfl|(simp[zac];done)|simp[zac,geoC])(hv:zac v=true:=by first|rfl|(simp[zac];done)|simp[zac,geoC]):Prim f args S v S:=.pure h ha hv
structure Hold (p:Prop):Prop where
  out:p
variable {F G':Prop}
theorem via{G:Prop}(k:G')(h:Hold G'->G:=by(intro hk0;(repeat(first|refine Goes.reg ?_|refine Goes.ctl2 rfl ?_|((first|refine qv1 rfl rfl rfl fun K hK=>?_|refine qv3 rfl rfl rfl fun K hK=>?_|refine qv2 rfl rfl rfl rfl rfl rfl fun K hK=>?_|refine qv4 rfl rfl rfl rfl rfl rfl fun K hK=>?_|refine qn1 rfl rfl rfl fun K hK=>?_|refine qn3 rfl rfl rfl fun K hK=>?_|refine qt1 rfl rfl rfl fun K hK=>?_|refine qt3 rfl rfl rfl fun K hK=>?_);simp (disch:=(first|omega|(simp only[sz]<;>omega)|fail)) only [go_sem];with_reducible refine hK _ _ ?_;clear hK K)|refine At.nil rfl ?_|refine RG.nil rfl ?_|((first|refine AtL.skipg rfl rfl rfl rfl rfl ?_|refine RGL.skipg rfl rfl rfl rfl rfl ?_|refine AtL.skipu rfl rfl rfl rfl ?_|refine RGL.skipu rfl rfl rfl rfl ?_);simp only[putL,List.set_cons_zero,List.set_cons_succ])|refine Goes.yes rfl ?_|refine Goes.no rfl ?_|refine Goes.drawR [] (by kernel_rfl) ?_));exact hk0.out)):G:=h ⟨k⟩
theorem viaF{G:Prop}(f:F)(k:G')(h:F->Hold G'->G:=by(intro hF0 hk0;(repeat(first|refine Goes.reg ?_|refine Goes.ctl2 rfl ?_|((first|refine qv1 rfl rfl rfl fun K hK=>?_|refine qv3 rfl rfl rfl fun K hK=>?_|refine qv2 rfl rfl rfl rfl rfl rfl fun K hK=>?_|refine qv4 rfl rfl rfl rfl rfl rfl fun K hK=>?_|refine qn1 rfl rfl rfl fun K hK=>?_|refine qn3 rfl rfl rfl fun K hK=>?_|refine qt1 rfl rfl rfl fun K hK=>?_|refine qt3 rfl rfl rfl fun K hK=>?_);simp (disch:=(first|omega|(simp only[sz]<;>omega)|fail)) only [go_sem,hF0];with_reducible refine hK _ _ ?_;clear hK K)|refine At.nil rfl ?_|refine RG.nil rfl ?_|((first|refine AtL.skipg rfl rfl rfl rfl rfl ?_|refine RGL.skipg rfl rfl rfl rfl rfl ?_|refine AtL.skipu rfl rfl rfl rfl ?_|refine RGL.skipu rfl rfl rfl rfl ?_);simp only[putL,List.set_cons_zero,List.set_cons_succ])|refine Goes.yes rfl ?_|refine Goes.no rfl ?_|refine Goes.drawR [] (by kernel_rfl) ?_));exact hk0.out)):G:=h f ⟨k⟩
theorem viaL{G:Prop}(k:G')(h:Hold G'->G:=by(intro hk0;(repeat(first|refine Goes.loop ?_|refine Goes.inLoop ?_|refine Goes.reg ?_|refine Goes.ctl2 rfl ?_|((first|refine qv1 rfl rfl rfl fun K hK=>?_|refine qv3 rfl rfl rfl fun K hK=>?_|refine qv2 rfl rfl rfl rfl rfl rfl fun K hK=>?_|refine qv4 rfl rfl rfl rfl rfl rfl fun K hK=>?_|refine qn1 rfl rfl rfl fun K hK=>?_|refine qn3 rfl rfl rfl fun K hK=>?_|refine qt1 rfl rfl rfl fun K hK=>?_|refine qt3 rfl rfl rfl fun K hK=>?_);simp (disch:=(first|omega|(simp only[sz]<;>omega)|fail)) only [go_sem];with_reducible refine hK _ _ ?_;clear hK K)|refine At.nil rfl ?_|refine RG.nil rfl ?_|((first|refine AtL.skipg rfl rfl rfl rfl rfl ?_|refine RGL.skipg rfl rfl rfl rfl rfl ?_|refine AtL.skipu rfl rfl rfl rfl ?_|refine RGL.skipu rfl rfl rfl rfl ?_);simp only[putL,List.set_cons_zero,List.set_cons_succ])|refine Goes.yes rfl ?_|refine Goes.no rfl ?_|refine Goes.drawR [] (by kernel_rfl) ?_));exact hk0.out)):G:=h ⟨k⟩
theorem zuA{G:Prop}(f:F)(k:G')(h:F->Hold G'->G:=by(intro hF0 hk0;(repeat(first|refine Goes.loop ?_|refine Goes.inLoop ?_|refine Goes.reg ?_|refine Goes.ctl2 rfl ?_|((first|refine qv1 rfl rfl rfl fun K hK=>?_|refine qv3 rfl rfl rfl fun K hK=>?_|refine qv2 rfl rfl rfl rfl rfl rfl fun K hK=>?_|refine qv4 rfl rfl rfl rfl rfl rfl fun K hK=>?_|refine qn1 rfl rfl rfl fun K hK=>?_|refine qn3 rfl rfl rfl fun K hK=>?_|refine qt1 rfl rfl rfl fun K hK=>?_|refine qt3 rfl rfl rfl fun K hK=>?_);simp (disch:=(first|omega|(simp only[sz]<;>omega)|fail)) only [go_sem,hF0];with_reducible refine hK _ _ ?_;clear hK K)|refine At.nil rfl ?_|refine RG.nil rfl ?_|((first|refine AtL.skipg rfl rfl rfl rfl rfl ?_|refine RGL.skipg rfl rfl rfl rfl rfl ?_|refine AtL.skipu rfl rfl rfl rfl ?_|refine RGL.skipu rfl rfl rfl rfl ?_);simp only[putL,List.set_cons_zero,List.set_cons_succ])|refine Goes.yes rfl ?_|refine Goes.no rfl ?_|refine Goes.drawR [] (by kernel_rfl) ?_));exact hk0.out)):G:=h f ⟨k⟩
theorem viaD{G:Prop}(k:G')(h:Hold G'->G:=by(intro hk0;(repeat(first|refine Goes.reg ?_|refine Goes.ctl2 rfl ?_|((first|refine qv1 rfl rfl rfl fun K hK=>?_|refine qv3 rfl rfl rfl fun K hK=>?_|refine qv2 rfl rfl rfl rfl rfl rfl fun K hK=>?_|refine qv4 rfl rfl rfl rfl rfl rfl fun K hK=>?_|refine qn1 rfl rfl rfl fun K hK=>?_|refine qn3 rfl rfl rfl fun K hK=>?_|refine qt1 rfl rfl rfl fun K hK=>?_|refine qt3 rfl rfl rfl fun K hK=>?_);simp (disch:=(first|omega|(simp only[sz]<;>omega)|fail)) only [go_sem];with_reducible refine hK _ _ ?_;clear hK K)|refine At.nil rfl ?_|refine RG.nil rfl ?_|((first|refine AtL.skipg rfl rfl rfl rfl rfl ?_|refine RGL.skipg rfl rfl rfl rfl rfl ?_|refine AtL.skipu rfl rfl rfl rfl ?_|refine RGL.skipu rfl rfl rfl rfl ?_);simp only[putL,List.set_cons_zero,List.set_cons_succ])|refine Goes.yes rfl ?_|refine Goes.no rfl ?_));exact hk0.out)):G:=h ⟨k⟩
theorem ztm{G:Prop}(f:F)(k:G')(h:F->Hold G'->G:=by(intro hF0 hk0;(repeat(first|refine Goes.reg ?_|refine Goes.ctl2 rfl ?_|((first|refine qv1 rfl rfl rfl fun K hK=>?_|refine qv3 rfl rfl rfl fun K hK=>?_|refine qv2 rfl rfl rfl rfl rfl rfl fun K hK=>?_|refine qv4 rfl rfl rfl rfl rfl rfl fun K hK=>?_|refine qn1 rfl rfl rfl fun K hK=>?_|refine qn3 rfl rfl rfl fun K hK=>?_|refine qt1 rfl rfl rfl fun K hK=>?_|refine qt3 rfl rfl rfl fun K hK=>?_);simp (disch:=(first|omega|(simp only[sz]<;>omega)|fail)) only [go_sem,hF0];with_reducible refine hK _ _ ?_;clear hK K)|refine At.nil rfl ?_|refine RG.nil rfl ?_|((first|refine AtL.skipg rfl rfl rfl rfl rfl ?_|refine RGL.skipg rfl rfl rfl rfl rfl ?_|refine AtL.skipu rfl rfl rfl rfl ?_|refine RGL.skipu rfl rfl rfl rfl ?_);simp only[putL,List.set_cons_zero,List.set_cons_succ])|refine Goes.yes rfl ?_|refine Goes.no rfl ?_));exact hk0.out)):G:=h f ⟨k⟩
abbrev BT:Face Try.prog Unit:=BF Try.prog Try.mix
theorem zbh(N T:Nat):geoC N T=#[.int .i64 N,.int .i64 T,.int .i64 (gb N T 0:Nat),.int .i64 (gb N T 1:Nat),.int .i64 (gb N T 2:Nat),.int .i64 (gb N T 3:Nat),.int .i64 (gb N T 4:Nat),.int .i64 (gb N T 5:Nat),.int .i64 (gb N T 6:Nat),.int .i64 (gb N T 7:Nat),.int .i64 (gb N T 8:Nat),.int .i64 (gb N T 9:Nat),.int .i64 (gb N T 10:Nat),.int .i64 (gb N T 11:Nat),.int .i64 (gb N T 12:Nat),.int .i64 (gb N T 13:Nat),.int .i64 (gb N T 14:Nat),.int .i64 (gb N T 15:Nat),.int .i64 (gb N T 16:Nat),.int .i64 (gb N T 17:Nat),.int .i64 (gb N T 18:Nat),.int .i64 (gb N T 19:Nat)]:=by
  simp[geoC,List.range,List.range.loop]
theorem zuC(N T:Nat)(n:Int)(hN:N<=256)(hT:T<=64):PureD 25 #[.agg (geoC N T),.int .i64 0,.int .i64 n] (.int .i64 (gat N T 0 n)):=by
  unfold PureD;refine qf Try.func25 rfl rfl ?clo ?hand ?_
  case clo=>exact clo3 gclo iclo iclo
  case hand=>exact qc rfl
  rw[Try.ntmps25];simp only[zSt,zLc,zLn,qb,zCa,zNa];have g1:=zbz N T 0 hN hT (by omega)
  have g2:=zbz N T 1 hN hT (by omega)
  rw[zbh];by_cases h0:n<0
  . rw[zbw _ _ _ h0];have d0:=decide_eq_true h0;refine viaF d0 ?_;exact qa rfl rfl rfl
  have d0:=decide_eq_false h0;have w1:qd.wrap ((gb N T 1:Int) - gb N T 0)=(gb N T 1:Int) - gb N T 0:=wrap_i64 (by omega) (by omega)
  by_cases h1:(gb N T 1:Int) - gb N T 0<=n
  . rw[zbv _ _ _ h1];have d1:=decide_eq_true h1;refine viaF (And.intro d0 (And.intro w1 d1)) ?_;exact qa rfl rfl rfl
  have d1:=decide_eq_false h1;rw[zb6 (n:=n) N T 0 (by omega) (by show n<(gb N T 1:Int) - gb N T 0;omega)]
  refine viaF (And.intro d0 (And.intro w1 d1)) ?_;exact qa rfl rfl rfl
theorem zuk(N T:Nat)(n:Int)(hN:N<=256)(hT:T<=64):PureD 25 #[.agg (geoC N T),.int .i64 1,.int .i64 n] (.int .i64 (gat N T 1 n)):=by
  unfold PureD;refine qf Try.func25 rfl rfl ?clo ?hand ?_
  case clo=>exact clo3 gclo iclo iclo
  case hand=>exact qc rfl
  rw[Try.ntmps25];simp only[zSt,zLc,zLn,qb,zCa,zNa];have g1:=zbz N T 1 hN hT (by omega)
  have g2:=zbz N T 2 hN hT (by omega)
  rw[zbh];by_cases h0:n<0
  . rw[zbw _ _ _ h0];have d0:=decide_eq_true h0;refine viaF d0 ?_;exact qa rfl rfl rfl
  have d0:=decide_eq_false h0;have w1:qd.wrap ((gb N T 2:Int) - gb N T 1)=(gb N T 2:Int) - gb N T 1:=wrap_i64 (by omega) (by omega)
  by_cases h1:(gb N T 2:Int) - gb N T 1<=n
  . rw[zbv _ _ _ h1];have d1:=decide_eq_true h1;refine viaF (And.intro d0 (And.intro w1 d1)) ?_;exact qa rfl rfl rfl
  have d1:=decide_eq_false h1;rw[zb6 (n:=n) N T 1 (by omega) (by show n<(gb N T 2:Int) - gb N T 1;omega)]
  refine viaF (And.intro d0 (And.intro w1 d1)) ?_;exact qa rfl rfl rfl
theorem zt2(N T:Nat)(n:Int)(hN:N<=256)(hT:T<=64):PureD 25 #[.agg (geoC N T),.int .i64 2,.int .i64 n] (.int .i64 (gat N T 2 n)):=by
  unfold PureD;refine qf Try.func25 rfl rfl ?clo ?hand ?_
  case clo=>exact clo3 gclo iclo iclo
  case hand=>exact qc rfl
  rw[Try.ntmps25];simp only[zSt,zLc,zLn,qb,zCa,zNa];have g1:=zbz N T 2 hN hT (by omega)
  have g2:=zbz N T 3 hN hT (by omega)
  rw[zbh];by_cases h0:n<0
  . rw[zbw _ _ _ h0];have d0:=decide_eq_true h0;refine viaF d0 ?_;exact qa rfl rfl rfl
  have d0:=decide_eq_false h0;have w1:qd.wrap ((gb N T 3:Int) - gb N T 2)=(gb N T 3:Int) - gb N T 2:=wrap_i64 (by omega) (by omega)
  by_cases h1:(gb N T 3:Int) - gb N T 2<=n
  . rw[zbv _ _ _ h1];have d1:=decide_eq_true h1;refine viaF (And.intro d0 (And.intro w1 d1)) ?_;exact qa rfl rfl rfl
  have d1:=decide_eq_false h1;rw[zb6 (n:=n) N T 2 (by omega) (by show n<(gb N T 3:Int) - gb N T 2;omega)]
  refine viaF (And.intro d0 (And.intro w1 d1)) ?_;exact qa rfl rfl rfl
theorem zue(N T:Nat)(n:Int)(hN:N<=256)(hT:T<=64):PureD 25 #[.agg (geoC N T),.int .i64 3,.int .i64 n] (.int .i64 (gat N T 3 n)):=by
  unfold PureD;refine qf Try.func25 rfl rfl ?clo ?hand ?_
  case clo=>exact clo3 gclo iclo iclo
  case hand=>exact qc rfl
  rw[Try.ntmps25];simp only[zSt,zLc,zLn,qb,zCa,zNa];have g1:=zbz N T 3 hN hT (by omega)
  have g2:=zbz N T 4 hN hT (by omega)
  rw[zbh];by_cases h0:n<0
  . rw[zbw _ _ _ h0];have d0:=decide_eq_true h0;refine viaF d0 ?_;exact qa rfl rfl rfl
  have d0:=decide_eq_false h0;have w1:qd.wrap ((gb N T 4:Int) - gb N T 3)=(gb N T 4:Int) - gb N T 3:=wrap_i64 (by omega) (by omega)
  by_cases h1:(gb N T 4:Int) - gb N T 3<=n
  . rw[zbv _ _ _ h1];have d1:=decide_eq_true h1;refine viaF (And.intro d0 (And.intro w1 d1)) ?_;exact qa rfl rfl rfl
  have d1:=decide_eq_false h1;rw[zb6 (n:=n) N T 3 (by omega) (by show n<(gb N T 4:Int) - gb N T 3;omega)]
  refine viaF (And.intro d0 (And.intro w1 d1)) ?_;exact qa rfl rfl rfl
theorem zub(N T:Nat)(n:Int)(hN:N<=256)(hT:T<=64):PureD 25 #[.agg (geoC N T),.int .i64 4,.int .i64 n] (.int .i64 (gat N T 4 n)):=by
  unfold PureD;refine qf Try.func25 rfl rfl ?clo ?hand ?_
  case clo=>exact clo3 gclo iclo iclo
  case hand=>exact qc rfl
  rw[Try.ntmps25];simp only[zSt,zLc,zLn,qb,zCa,zNa];have g1:=zbz N T 4 hN hT (by omega)
  have g2:=zbz N T 5 hN hT (by omega)
  rw[zbh];by_cases h0:n<0
  . rw[zbw _ _ _ h0];have d0:=decide_eq_true h0;refine viaF d0 ?_;exact qa rfl rfl rfl
  have d0:=decide_eq_false h0;have w1:qd.wrap ((gb N T 5:Int) - gb N T 4)=(gb N T 5:Int) - gb N T 4:=wrap_i64 (by omega) (by omega)
  by_cases h1:(gb N T 5:Int) - gb N T 4<=n
  . rw[zbv _ _ _ h1];have d1:=decide_eq_true h1;refine viaF (And.intro d0 (And.intro w1 d1)) ?_;exact qa rfl rfl rfl
  have d1:=decide_eq_false h1;rw[zb6 (n:=n) N T 4 (by omega) (by show n<(gb N T 5:Int) - gb N T 4;omega)]
  refine viaF (And.intro d0 (And.intro w1 d1)) ?_;exact qa rfl rfl rfl
theorem zuj(N T:Nat)(n:Int)(hN:N<=256)(hT:T<=64):PureD 25 #[.agg (geoC N T),.int .i64 5,.int .i64 n] (.int .i64 (gat N T 5 n)):=by
  unfold PureD;refine qf Try.func25 rfl rfl ?clo ?hand ?_
  case clo=>exact clo3 gclo iclo iclo
  case hand=>exact qc rfl
  rw[Try.ntmps25];simp only[zSt,zLc,zLn,qb,zCa,zNa];have g1:=zbz N T 5 hN hT (by omega)
  have g2:=zbz N T 6 hN hT (by omega)
  rw[zbh];by_cases h0:n<0
  . rw[zbw _ _ _ h0];have d0:=decide_eq_true h0;refine viaF d0 ?_;exact qa rfl rfl rfl
  have d0:=decide_eq_false h0;have w1:qd.wrap ((gb N T 6:Int) - gb N T 5)=(gb N T 6:Int) - gb N T 5:=wrap_i64 (by omega) (by omega)
  by_cases h1:(gb N T 6:Int) - gb N T 5<=n
  . rw[zbv _ _ _ h1];have d1:=decide_eq_true h1;refine viaF (And.intro d0 (And.intro w1 d1)) ?_;exact qa rfl rfl rfl
  have d1:=decide_eq_false h1;rw[zb6 (n:=n) N T 5 (by omega) (by show n<(gb N T 6:Int) - gb N T 5;omega)]
  refine viaF (And.intro d0 (And.intro w1 d1)) ?_;exact qa rfl rfl rfl
theorem zuK(N T:Nat)(n:Int)(hN:N<=256)(hT:T<=64):PureD 25 #[.agg (geoC N T),.int .i64 6,.int .i64 n] (.int .i64 (gat N T 6 n)):=by
  unfold PureD;refine qf Try.func25 rfl rfl ?clo ?hand ?_
  case clo=>exact clo3 gclo iclo iclo
  case hand=>exact qc rfl
  rw[Try.ntmps25];simp only[zSt,zLc,zLn,qb,zCa,zNa];have g1:=zbz N T 6 hN hT (by omega)
  have g2:=zbz N T 7 hN hT (by omega)
  rw[zbh];by_cases h0:n<0
  . rw[zbw _ _ _ h0];have d0:=decide_eq_true h0;refine viaF d0 ?_;exact qa rfl rfl rfl
  have d0:=decide_eq_false h0;have w1:qd.wrap ((gb N T 7:Int) - gb N T 6)=(gb N T 7:Int) - gb N T 6:=wrap_i64 (by omega) (by omega)
  by_cases h1:(gb N T 7:Int) - gb N T 6<=n
  . rw[zbv _ _ _ h1];have d1:=decide_eq_true h1;refine viaF (And.intro d0 (And.intro w1 d1)) ?_;exact qa rfl rfl rfl
  have d1:=decide_eq_false h1;rw[zb6 (n:=n) N T 6 (by omega) (by show n<(gb N T 7:Int) - gb N T 6;omega)]
  refine viaF (And.intro d0 (And.intro w1 d1)) ?_;exact qa rfl rfl rfl
theorem zuL(N T:Nat)(n:Int)(hN:N<=256)(hT:T<=64):PureD 25 #[.agg (geoC N T),.int .i64 7,.int .i64 n] (.int .i64 (gat N T 7 n)):=by
  unfold PureD;refine qf Try.func25 rfl rfl ?clo ?hand ?_
  case clo=>exact clo3 gclo iclo iclo
  case hand=>exact qc rfl
  rw[Try.ntmps25];simp only[zSt,zLc,zLn,qb,zCa,zNa];have g1:=zbz N T 7 hN hT (by omega)
  have g2:=zbz N T 8 hN hT (by omega)
  rw[zbh];by_cases h0:n<0
  . rw[zbw _ _ _ h0];have d0:=decide_eq_true h0;refine viaF d0 ?_;exact qa rfl rfl rfl
  have d0:=decide_eq_false h0;have w1:qd.wrap ((gb N T 8:Int) - gb N T 7)=(gb N T 8:Int) - gb N T 7:=wrap_i64 (by omega) (by omega)
  by_cases h1:(gb N T 8:Int) - gb N T 7<=n
  . rw[zbv _ _ _ h1];have d1:=decide_eq_true h1;refine viaF (And.intro d0 (And.intro w1 d1)) ?_;exact qa rfl rfl rfl
  have d1:=decide_eq_false h1;rw[zb6 (n:=n) N T 7 (by omega) (by show n<(gb N T 8:Int) - gb N T 7;omega)]
  refine viaF (And.intro d0 (And.intro w1 d1)) ?_;exact qa rfl rfl rfl
theorem ztZ(N T:Nat)(n:Int)(hN:N<=256)(hT:T<=64):PureD 25 #[.agg (geoC N T),.int .i64 8,.int .i64 n] (.int .i64 (gat N T 8 n)):=by
  unfold PureD;refine qf Try.func25 rfl rfl ?clo ?hand ?_
  case clo=>exact clo3 gclo iclo iclo
  case hand=>exact qc rfl
  rw[Try.ntmps25];simp only[zSt,zLc,zLn,qb,zCa,zNa];have g1:=zbz N T 8 hN hT (by omega)
  have g2:=zbz N T 9 hN hT (by omega)
  rw[zbh];by_cases h0:n<0
  . rw[zbw _ _ _ h0];have d0:=decide_eq_true h0;refine viaF d0 ?_;exact qa rfl rfl rfl
  have d0:=decide_eq_false h0;have w1:qd.wrap ((gb N T 9:Int) - gb N T 8)=(gb N T 9:Int) - gb N T 8:=wrap_i64 (by omega) (by omega)
  by_cases h1:(gb N T 9:Int) - gb N T 8<=n
  . rw[zbv _ _ _ h1];have d1:=decide_eq_true h1;refine viaF (And.intro d0 (And.intro w1 d1)) ?_;exact qa rfl rfl rfl
  have d1:=decide_eq_false h1;rw[zb6 (n:=n) N T 8 (by omega) (by show n<(gb N T 9:Int) - gb N T 8;omega)]
  refine viaF (And.intro d0 (And.intro w1 d1)) ?_;exact qa rfl rfl rfl
theorem zug(N T:Nat)(n:Int)(hN:N<=256)(hT:T<=64):PureD 25 #[.agg (geoC N T),.int .i64 9,.int .i64 n] (.int .i64 (gat N T 9 n)):=by
  unfold PureD;refine qf Try.func25 rfl rfl ?clo ?hand ?_
  case clo=>exact clo3 gclo iclo iclo
  case hand=>exact qc rfl
  rw[Try.ntmps25];simp only[zSt,zLc,zLn,qb,zCa,zNa];have g1:=zbz N T 9 hN hT (by omega)
  have g2:=zbz N T 10 hN hT (by omega)
  rw[zbh];by_cases h0:n<0
  . rw[zbw _ _ _ h0];have d0:=decide_eq_true h0;refine viaF d0 ?_;exact qa rfl rfl rfl
  have d0:=decide_eq_false h0;have w1:qd.wrap ((gb N T 10:Int) - gb N T 9)=(gb N T 10:Int) - gb N T 9:=wrap_i64 (by omega) (by omega)
  by_cases h1:(gb N T 10:Int) - gb N T 9<=n
  . rw[zbv _ _ _ h1];have d1:=decide_eq_true h1;refine viaF (And.intro d0 (And.intro w1 d1)) ?_;exact qa rfl rfl rfl
  have d1:=decide_eq_false h1;rw[zb6 (n:=n) N T 9 (by omega) (by show n<(gb N T 10:Int) - gb N T 9;omega)]
  refine viaF (And.intro d0 (And.intro w1 d1)) ?_;exact qa rfl rfl rfl
theorem ztJ(N T:Nat)(n:Int)(hN:N<=256)(hT:T<=64):PureD 25 #[.agg (geoC N T),.int .i64 10,.int .i64 n] (.int .i64 (gat N T 10 n)):=by
  unfold PureD;refine qf Try.func25 rfl rfl ?clo ?hand ?_
  case clo=>exact clo3 gclo iclo iclo
  case hand=>exact qc rfl
  rw[Try.ntmps25];simp only[zSt,zLc,zLn,qb,zCa,zNa];have g1:=zbz N T 10 hN hT (by omega)
  have g2:=zbz N T 11 hN hT (by omega)
  rw[zbh];by_cases h0:n<0
  . rw[zbw _ _ _ h0];have d0:=decide_eq_true h0;refine viaF d0 ?_;exact qa rfl rfl rfl
  have d0:=decide_eq_false h0;have w1:qd.wrap ((gb N T 11:Int) - gb N T 10)=(gb N T 11:Int) - gb N T 10:=wrap_i64 (by omega) (by omega)
  by_cases h1:(gb N T 11:Int) - gb N T 10<=n
  . rw[zbv _ _ _ h1];have d1:=decide_eq_true h1;refine viaF (And.intro d0 (And.intro w1 d1)) ?_;exact qa rfl rfl rfl
  have d1:=decide_eq_false h1;rw[zb6 (n:=n) N T 10 (by omega) (by show n<(gb N T 11:Int) - gb N T 10;omega)]
  refine viaF (And.intro d0 (And.intro w1 d1)) ?_;exact qa rfl rfl rfl
theorem zs9(N T:Nat)(n:Int)(hN:N<=256)(hT:T<=64):PureD 25 #[.agg (geoC N T),.int .i64 11,.int .i64 n] (.int .i64 (gat N T 11 n)):=by
  unfold PureD;refine qf Try.func25 rfl rfl ?clo ?hand ?_
  case clo=>exact clo3 gclo iclo iclo
  case hand=>exact qc rfl
  rw[Try.ntmps25];simp only[zSt,zLc,zLn,qb,zCa,zNa];have g1:=zbz N T 11 hN hT (by omega)
  have g2:=zbz N T 12 hN hT (by omega)
  rw[zbh];by_cases h0:n<0
  . rw[zbw _ _ _ h0];have d0:=decide_eq_true h0;refine viaF d0 ?_;exact qa rfl rfl rfl
  have d0:=decide_eq_false h0;have w1:qd.wrap ((gb N T 12:Int) - gb N T 11)=(gb N T 12:Int) - gb N T 11:=wrap_i64 (by omega) (by omega)
  by_cases h1:(gb N T 12:Int) - gb N T 11<=n
  . rw[zbv _ _ _ h1];have d1:=decide_eq_true h1;refine viaF (And.intro d0 (And.intro w1 d1)) ?_;exact qa rfl rfl rfl
  have d1:=decide_eq_false h1;rw[zb6 (n:=n) N T 11 (by omega) (by show n<(gb N T 12:Int) - gb N T 11;omega)]
  refine viaF (And.intro d0 (And.intro w1 d1)) ?_;exact qa rfl rfl rfl
theorem ztR(N T:Nat)(n:Int)(hN:N<=256)(hT:T<=64):PureD 25 #[.agg (geoC N T),.int .i64 12,.int .i64 n] (.int .i64 (gat N T 12 n)):=by
  unfold PureD;refine qf Try.func25 rfl rfl ?clo ?hand ?_
  case clo=>exact clo3 gclo iclo iclo
  case hand=>exact qc rfl
  rw[Try.ntmps25];simp only[zSt,zLc,zLn,qb,zCa,zNa];have g1:=zbz N T 12 hN hT (by omega)
  have g2:=zbz N T 13 hN hT (by omega)
  rw[zbh];by_cases h0:n<0
  . rw[zbw _ _ _ h0];have d0:=decide_eq_true h0;refine viaF d0 ?_;exact qa rfl rfl rfl
  have d0:=decide_eq_false h0;have w1:qd.wrap ((gb N T 13:Int) - gb N T 12)=(gb N T 13:Int) - gb N T 12:=wrap_i64 (by omega) (by omega)
  by_cases h1:(gb N T 13:Int) - gb N T 12<=n
  . rw[zbv _ _ _ h1];have d1:=decide_eq_true h1;refine viaF (And.intro d0 (And.intro w1 d1)) ?_;exact qa rfl rfl rfl
  have d1:=decide_eq_false h1;rw[zb6 (n:=n) N T 12 (by omega) (by show n<(gb N T 13:Int) - gb N T 12;omega)]
  refine viaF (And.intro d0 (And.intro w1 d1)) ?_;exact qa rfl rfl rfl
theorem ztv(N T:Nat)(n:Int)(hN:N<=256)(hT:T<=64):PureD 25 #[.agg (geoC N T),.int .i64 13,.int .i64 n] (.int .i64 (gat N T 13 n)):=by
  unfold PureD;refine qf Try.func25 rfl rfl ?clo ?hand ?_
  case clo=>exact clo3 gclo iclo iclo
  case hand=>exact qc rfl
  rw[Try.ntmps25];simp only[zSt,zLc,zLn,qb,zCa,zNa];have g1:=zbz N T 13 hN hT (by omega)
  have g2:=zbz N T 14 hN hT (by omega)
  rw[zbh];by_cases h0:n<0
  . rw[zbw _ _ _ h0];have d0:=decide_eq_true h0;refine viaF d0 ?_;exact qa rfl rfl rfl
  have d0:=decide_eq_false h0;have w1:qd.wrap ((gb N T 14:Int) - gb N T 13)=(gb N T 14:Int) - gb N T 13:=wrap_i64 (by omega) (by omega)
  by_cases h1:(gb N T 14:Int) - gb N T 13<=n
  . rw[zbv _ _ _ h1];have d1:=decide_eq_true h1;refine viaF (And.intro d0 (And.intro w1 d1)) ?_;exact qa rfl rfl rfl
  have d1:=decide_eq_false h1;rw[zb6 (n:=n) N T 13 (by omega) (by show n<(gb N T 14:Int) - gb N T 13;omega)]
  refine viaF (And.intro d0 (And.intro w1 d1)) ?_;exact qa rfl rfl rfl
theorem zsU(N T:Nat)(n:Int)(hN:N<=256)(hT:T<=64):PureD 25 #[.agg (geoC N T),.int .i64 14,.int .i64 n] (.int .i64 (gat N T 14 n)):=by
  unfold PureD;refine qf Try.func25 rfl rfl ?clo ?hand ?_
  case clo=>exact clo3 gclo iclo iclo
  case hand=>exact qc rfl
  rw[Try.ntmps25];simp only[zSt,zLc,zLn,qb,zCa,zNa];have g1:=zbz N T 14 hN hT (by omega)
  have g2:=zbz N T 15 hN hT (by omega)
  rw[zbh];by_cases h0:n<0
  . rw[zbw _ _ _ h0];have d0:=decide_eq_true h0;refine viaF d0 ?_;exact qa rfl rfl rfl
  have d0:=decide_eq_false h0;have w1:qd.wrap ((gb N T 15:Int) - gb N T 14)=(gb N T 15:Int) - gb N T 14:=wrap_i64 (by omega) (by omega)
  by_cases h1:(gb N T 15:Int) - gb N T 14<=n
  . rw[zbv _ _ _ h1];have d1:=decide_eq_true h1;refine viaF (And.intro d0 (And.intro w1 d1)) ?_;exact qa rfl rfl rfl
  have d1:=decide_eq_false h1;rw[zb6 (n:=n) N T 14 (by omega) (by show n<(gb N T 15:Int) - gb N T 14;omega)]
  refine viaF (And.intro d0 (And.intro w1 d1)) ?_;exact qa rfl rfl rfl
theorem zs3(N T:Nat)(n:Int)(hN:N<=256)(hT:T<=64):PureD 25 #[.agg (geoC N T),.int .i64 15,.int .i64 n] (.int .i64 (gat N T 15 n)):=by
  unfold PureD;refine qf Try.func25 rfl rfl ?clo ?hand ?_
  case clo=>exact clo3 gclo iclo iclo
  case hand=>exact qc rfl
  rw[Try.ntmps25];simp only[zSt,zLc,zLn,qb,zCa,zNa];have g1:=zbz N T 15 hN hT (by omega)
  have g2:=zbz N T 16 hN hT (by omega)
  rw[zbh];by_cases h0:n<0
  . rw[zbw _ _ _ h0];have d0:=decide_eq_true h0;refine viaF d0 ?_;exact qa rfl rfl rfl
  have d0:=decide_eq_false h0;have w1:qd.wrap ((gb N T 16:Int) - gb N T 15)=(gb N T 16:Int) - gb N T 15:=wrap_i64 (by omega) (by omega)
  by_cases h1:(gb N T 16:Int) - gb N T 15<=n
  . rw[zbv _ _ _ h1];have d1:=decide_eq_true h1;refine viaF (And.intro d0 (And.intro w1 d1)) ?_;exact qa rfl rfl rfl
  have d1:=decide_eq_false h1;rw[zb6 (n:=n) N T 15 (by omega) (by show n<(gb N T 16:Int) - gb N T 15;omega)]
  refine viaF (And.intro d0 (And.intro w1 d1)) ?_;exact qa rfl rfl rfl
theorem ztn(N T:Nat)(n:Int)(hN:N<=256)(hT:T<=64):PureD 25 #[.agg (geoC N T),.int .i64 16,.int .i64 n] (.int .i64 (gat N T 16 n)):=by
  unfold PureD;refine qf Try.func25 rfl rfl ?clo ?hand ?_
  case clo=>exact clo3 gclo iclo iclo
  case hand=>exact qc rfl
  rw[Try.ntmps25];simp only[zSt,zLc,zLn,qb,zCa,zNa];have g1:=zbz N T 16 hN hT (by omega)
  have g2:=zbz N T 17 hN hT (by omega)
  rw[zbh];by_cases h0:n<0
  . rw[zbw _ _ _ h0];have d0:=decide_eq_true h0;refine viaF d0 ?_;exact qa rfl rfl rfl
  have d0:=decide_eq_false h0;have w1:qd.wrap ((gb N T 17:Int) - gb N T 16)=(gb N T 17:Int) - gb N T 16:=wrap_i64 (by omega) (by omega)
  by_cases h1:(gb N T 17:Int) - gb N T 16<=n
  . rw[zbv _ _ _ h1];have d1:=decide_eq_true h1;refine viaF (And.intro d0 (And.intro w1 d1)) ?_;exact qa rfl rfl rfl
  have d1:=decide_eq_false h1;rw[zb6 (n:=n) N T 16 (by omega) (by show n<(gb N T 17:Int) - gb N T 16;omega)]
  refine viaF (And.intro d0 (And.intro w1 d1)) ?_;exact qa rfl rfl rfl
theorem ztM(N T:Nat)(n:Int)(hN:N<=256)(hT:T<=64):PureD 25 #[.agg (geoC N T),.int .i64 17,.int .i64 n] (.int .i64 (gat N T 17 n)):=by
  unfold PureD;refine qf Try.func25 rfl rfl ?clo ?hand ?_
  case clo=>exact clo3 gclo iclo iclo
  case hand=>exact qc rfl
  rw[Try.ntmps25];simp only[zSt,zLc,zLn,qb,zCa,zNa];have g1:=zbz N T 17 hN hT (by omega)
  have g2:=zbz N T 18 hN hT (by omega)
  rw[zbh];by_cases h0:n<0
  . rw[zbw _ _ _ h0];have d0:=decide_eq_true h0;refine viaF d0 ?_;exact qa rfl rfl rfl
  have d0:=decide_eq_false h0;have w1:qd.wrap ((gb N T 18:Int) - gb N T 17)=(gb N T 18:Int) - gb N T 17:=wrap_i64 (by omega) (by omega)
  by_cases h1:(gb N T 18:Int) - gb N T 17<=n
  . rw[zbv _ _ _ h1];have d1:=decide_eq_true h1;refine viaF (And.intro d0 (And.intro w1 d1)) ?_;exact qa rfl rfl rfl
  have d1:=decide_eq_false h1;rw[zb6 (n:=n) N T 17 (by omega) (by show n<(gb N T 18:Int) - gb N T 17;omega)]
  refine viaF (And.intro d0 (And.intro w1 d1)) ?_;exact qa rfl rfl rfl
theorem ztr(N T:Nat)(n:Int)(hN:N<=256)(hT:T<=64):PureD 25 #[.agg (geoC N T),.int .i64 18,.int .i64 n] (.int .i64 (gat N T 18 n)):=by
  unfold PureD;refine qf Try.func25 rfl rfl ?clo ?hand ?_
  case clo=>exact clo3 gclo iclo iclo
  case hand=>exact qc rfl
  rw[Try.ntmps25];simp only[zSt,zLc,zLn,qb,zCa,zNa];have g1:=zbz N T 18 hN hT (by omega)
  have g2:=zbz N T 19 hN hT (by omega)
  rw[zbh];by_cases h0:n<0
  . rw[zbw _ _ _ h0];have d0:=decide_eq_true h0;refine viaF d0 ?_;exact qa rfl rfl rfl
  have d0:=decide_eq_false h0;have w1:qd.wrap ((gb N T 19:Int) - gb N T 18)=(gb N T 19:Int) - gb N T 18:=wrap_i64 (by omega) (by omega)
  by_cases h1:(gb N T 19:Int) - gb N T 18<=n
  . rw[zbv _ _ _ h1];have d1:=decide_eq_true h1;refine viaF (And.intro d0 (And.intro w1 d1)) ?_;exact qa rfl rfl rfl
  have d1:=decide_eq_false h1;rw[zb6 (n:=n) N T 18 (by omega) (by show n<(gb N T 19:Int) - gb N T 18;omega)]
  refine viaF (And.intro d0 (And.intro w1 d1)) ?_;exact qa rfl rfl rfl
theorem zi5(N T r:Nat)(ri n:Int)(w:World)(hri:ri=r)(hr:r<19)(hN:N<=256)(hT:T<=64):PureD 25 #[.agg (geoC N T),.int .i64 ri,.int .i64 n] (.int .i64 (gat N T r n)):=by
  subst hri
  match r,hr with
  | 0,_=>exact zuC N T n hN hT
  | 1,_=>exact zuk N T n hN hT
  | 2,_=>exact zt2 N T n hN hT
  | 3,_=>exact zue N T n hN hT
  | 4,_=>exact zub N T n hN hT
  | 5,_=>exact zuj N T n hN hT
  | 6,_=>exact zuK N T n hN hT
  | 7,_=>exact zuL N T n hN hT
  | 8,_=>exact ztZ N T n hN hT
  | 9,_=>exact zug N T n hN hT
  | 10,_=>exact ztJ N T n hN hT
  | 11,_=>exact zs9 N T n hN hT
  | 12,_=>exact ztR N T n hN hT
  | 13,_=>exact ztv N T n hN hT
  | 14,_=>exact zsU N T n hN hT
  | 15,_=>exact zs3 N T n hN hT
  | 16,_=>exact ztn N T n hN hT
  | 17,_=>exact ztM N T n hN hT
  | 18,_=>exact ztr N T n hN hT
  | r+19,h=>exact absurd h (by omega)
theorem zan(N T:Nat)(w:World)(hN:N<=256)(hT:T<=64):PureD 13 #[.agg (geoC N T)] (.int .i64 (gat N T 0 0)):=by
  unfold PureD;refine qf Try.func13 rfl rfl ?clo ?hand ?_
  case clo=>exact clo1 gclo
  case hand=>exact qc rfl
  rw[Try.ntmps13];simp only[zSt,zLc,zLn,qb,zCa,zNa];refine via ?_;((first|refine qc1 rfl rfl fun K hK=>?_|refine qc3 rfl rfl fun K hK=>?_);simp (disch:=(first|omega|(simp only[sz]<;>omega)|fail)) only [go_sem];(first|refine⟨_,_,zi5 N T 0 0 0 w rfl (by omega) hN hT,?_⟩|refine⟨_,_,Does.com (zi5 N T 0 0 0 w rfl (by omega) hN hT),?_⟩);(try simp only[go_sem]);with_reducible refine hK _ _ ?_;clear hK K)
  refine via ?_;exact qa rfl rfl rfl
theorem zd6(N T:Nat)(w:World)(hN:N<=256)(hT:T<=64):PureD 9 #[.agg (geoC N T)] (.int .i64 (gat N T 1 0)):=by
  unfold PureD;refine qf Try.func9 rfl rfl ?clo ?hand ?_
  case clo=>exact clo1 gclo
  case hand=>exact qc rfl
  rw[Try.ntmps9];simp only[zSt,zLc,zLn,qb,zCa,zNa];refine via ?_;((first|refine qc1 rfl rfl fun K hK=>?_|refine qc3 rfl rfl fun K hK=>?_);simp (disch:=(first|omega|(simp only[sz]<;>omega)|fail)) only [go_sem];(first|refine⟨_,_,zi5 N T 1 1 0 w rfl (by omega) hN hT,?_⟩|refine⟨_,_,Does.com (zi5 N T 1 1 0 w rfl (by omega) hN hT),?_⟩);(try simp only[go_sem]);with_reducible refine hK _ _ ?_;clear hK K)
  refine via ?_;exact qa rfl rfl rfl
theorem zbN(N T:Nat)(w:World):PureD 21 #[.agg (geoC N T)] (.int .i64 N):=by
  unfold PureD;refine qf Try.func21 rfl rfl ?clo ?hand ?_
  case clo=>exact clo1 gclo
  case hand=>exact qc rfl
  rw[Try.ntmps21];simp only[zSt,zLc,zLn,qb,zCa,zNa];rw[zbh];refine via ?_;exact qa rfl rfl rfl
theorem zdW(N T:Nat)(w:World):PureD 20 #[.agg (geoC N T)] (.int .i64 (gb N T 19:Nat)):=by
  unfold PureD;refine qf Try.func20 rfl rfl ?clo ?hand ?_
  case clo=>exact clo1 gclo
  case hand=>exact qc rfl
  rw[Try.ntmps20];simp only[zSt,zLc,zLn,qb,zCa,zNa];rw[zbh];refine via ?_;exact qa rfl rfl rfl
theorem Gives.one{cnt:Nat}{l:List Blk}{h1:AHeap}{v0:Value}{n0:Nat}{b0:Blk}(hro:l.all (·.ro)=true)(hn:l.length<=n0)(hn':n0<VB)(hl:l.length<VB)(hg:h1.get n0=some b0)(hb:b0.ro=false)(hp:∀u∈b0.cells,zac u=true)(hv:v=ren (zdi fun n=>if n=n0 then l.length else n) v0)(hc:Clo (fun n=>n<l.length\/n∈[n0]\/(VB<=n/\n<VB+cnt)) v0):Gives cnt l l [b0] [n0] (fun n=>if n=n0 then l.length else n) h1 v0 v where
  low:=fun n hn2=>if_neg (by omega)
  hand:=fun n hn2=>if_neg (by omega)
  more:=fun j n hj=>by
    match j,hj with
    | 0,hj=>simp at hj;subst hj;exact⟨hn,hn',by simp⟩
    | j+1,hj=>simp at hj
  nodup:=by simp
  len:=rfl
  len':=rfl
  told:=hv
  clo:=hc
  rows:=fun i b hb hr=>by
    have:=List.all_eq_true.1 hro b (List.mem_of_getElem? hb);rw[hr]at this;cases this
  news:=fun j n hj=>by
    match j,hj with
    | 0,hj =>
      simp at hj;subst hj;refine⟨b0,hg,?_,hb,fun u hu=>Clo.plain (hp u hu)⟩;unfold renB;rw[<-zao hp];rfl
    | j+1,hj=>simp at hj
def OF:Face Try.prog St where
  mix:=Try.mix
  cnt:=List.length
  rep:=fun _ _ _=>False
  fp:=fun _ _ _=>False
  prim:=Prim
  rep_same:=fun _ _ _ _ _ h=>h.elim
  rep_kept:=fun _ _ _ _ h=>h.elim
  fp_low:=fun _ _ _ _ h=>h.elim
  prim_hand:=fun _ _ _ _ _ h=>⟨h.len,h.hand⟩
  prim_ok:=fun _ _ _ _ _ _ _ _ h=>h.elim
theorem pclo{n:Nat}(h:k<S.length):Clo (Kn n (OF.cnt S)) (prtV k):=zsz n S.length k h
theorem hclo{n:Nat}(h:k<S.length):Clo (Kn n (OF.cnt S)) (hndV k):=zr4 n S.length k h
end Go.Proofs.Ytpkkfkebnhgaiaa
namespace Go.Proofs.Ytpkkfkebnhgaiaa
open Go Go.Conc
structure PastO (Own Still:Loc->Prop) (Mem Loose:Nat->Prop) (B:Nat) (K:Nat->Prop) (t:Trace):Prop where
  clean:∀said,¬Race said t
  known:∀i a,touchAt t i=some a->a.loc.isMemory=true->K i\/Own a.loc\/(a.write=false/\Still a.loc/\∃g,t.g? i=some g/\Loose g)
  wrote:∀i a,touchAt t i=some a->a.write=true->Still a.loc->∀g,Mem g->Knows t g i
  own:∀i a,touchAt t i=some a->Own a.loc->t.g? i=some 0
  hears:∀g,Mem g->Deaf t g=0
  seen:∀op∈t,op.act.low B
variable {g r i m:Nat}
section
variable {Own Still:Loc->Prop}{Mem Loose Mem' Loose':Nat->Prop}{B h:Nat}{K K':Nat->Prop}{t u:Trace}
theorem PastO.fewer(H:PastO Own Still Mem Loose B K t)(hM:∀g,Mem' g->Mem g)(hL:∀g,Loose g->Loose' g):PastO Own Still Mem' Loose' B K t :=
  ⟨H.clean,fun i a ha hm=>(H.known i a ha hm).imp id (Or.imp id fun⟨x,y,g,hg,hl⟩=>⟨x,y,g,hg,hL g hl⟩),fun i a ha hw hS g hg=>H.wrote i a ha hw hS g (hM g hg),H.own,fun g hg=>H.hears g (hM g hg),H.seen⟩
theorem PastO.mono{B':Nat}(H:PastO Own Still Mem Loose B K t)(hB:B<=B'):PastO Own Still Mem Loose B' K t:=⟨H.clean,H.known,H.wrote,H.own,H.hears,fun op hop=>MemAct.low_mono hB (H.seen op hop)⟩
theorem PastO.more{Own':Loc->Prop}(H:PastO Own Still Mem Loose B K t)(hO:∀l,Own l->Own' l)(hn:∀i a,touchAt t i=some a->Own' a.loc->t.g? i=some 0):PastO Own' Still Mem Loose B K t :=
  ⟨H.clean,fun i a ha hm=>(H.known i a ha hm).imp id (Or.imp (hO _) id),H.wrote,hn,H.hears,H.seen⟩
theorem PastO.mute(H:PastO Own Still Mem Loose B K t)(hK:∀i,K i->K' i)(hL:∀i g,t.g? i=some g->Loose g->K' i\/Loose' g)(hn:∀op∈u,op.act.touch?=none)(hM:∀g,Mem' g->∀i,(∀g0,Mem g0->Knows t g0 i)->Knows (t++u) g i)(hd:∀g,Mem' g->Deaf (t++u) g=0)(hl:∀op∈u,op.act.low B):PastO Own Still Mem' Loose' B K' (t++u):=by
  have hold:∀i a,touchAt (t++u) i=some a->i<t.size/\touchAt t i=some a:=fun i a ha=>by
    obtain⟨x,hx,hxa⟩:=qs ha;rcases qg hx with⟨hi,hx'⟩|⟨_,hxu⟩
    . exact⟨hi,by rw[qp hx'];exact hxa⟩
    . rw[hn x hxu]at hxa;cases hxa
  refine⟨fun said=>noRace_appendMute (H.clean said) hn,fun i a ha hm=>?_,fun i a ha hw hS g hg=>?_,fun i a ha hO=>?_,hd,seen_app H.seen hl⟩
  . obtain⟨hi,ha'⟩:=hold i a ha;rcases H.known i a ha' hm with hk|hk|⟨p,q,g,hg,hl⟩
    . exact .inl (hK i hk)
    . exact .inr (.inl hk)
    . rcases hL i g hg hl with hk|hk
      . exact .inl hk
      . exact .inr (.inr ⟨p,q,g,by rw[qt hi];exact hg,hk⟩)
  . obtain⟨hi,ha'⟩:=hold i a ha;exact hM g hg i fun g0 hg0=>H.wrote i a ha' hw hS g0 hg0
  . obtain⟨hi,ha'⟩:=hold i a ha;rw[qt hi];exact H.own i a ha' hO
theorem PastO.hears_app(H:PastO Own Still Mem Loose B K t)(hu:∀op∈u,op.g=g)(hd:Deaf (t++u) g=Deaf t g):∀g',Mem g'->Deaf (t++u) g'=0:=fun g' hg'=>by
  by_cases e:g'=g
  . subst e;exact hd.trans (H.hears g' hg')
  . exact(qz t (fun x=>e x.symm) u hu).trans (H.hears g' hg')
theorem PastO.appH(H:PastO Own Still Mem Loose B (Knows t h) t)(hu:∀op∈u,op.g=h)(hs:∀op∈u,∀b,op.act.touch?=some b->(Still b.loc->b.write=false)/\(Own b.loc->h=0))(hd:Deaf (t++u) h=Deaf t h)(hl:∀op∈u,op.act.low B):
    PastO Own Still Mem Loose B (Knows (t++u) h) (t++u):=by
  refine⟨fun said=>noRace_append (H.clean said) hu fun i a ha op hop b hb hc=>?_,fun i a ha hm=>?_,fun i a ha hw hS g hg=>?_,fun i a ha hO=>?_,H.hears_app hu hd,seen_app H.seen hl⟩
  . rcases H.known i a ha hc.2.1 with hk|hO|⟨hw,hS,_⟩
    . exact hk
    . have h0:=(hs op hop b hb).2 (hc.1▸hO);have hg:=H.own i a ha hO;obtain⟨x,hx,hxg⟩:=qj.1 hg;have:=qB hx;rw[hxg,<-h0]at this;exact this
    . have hb0:=(hs op hop b hb).1 (hc.1▸hS);rcases hc.2.2.1 with x|x
      . rw[hw]at x;cases x
      . rw[hb0]at x;cases x
  . obtain⟨x,hx,hxa⟩:=qs ha;rcases qg hx with⟨hi,hx'⟩|⟨_,hxu⟩
    . rcases H.known i a (by rw[qp hx'];exact hxa) hm with hk|hk|⟨p,q,g,hg,hl⟩
      . exact .inl (hk.app u)
      . exact .inr (.inl hk)
      . exact .inr (.inr ⟨p,q,g,by rw[qt hi];exact hg,hl⟩)
    . have:=qB hx;rw[hu x hxu]at this;exact .inl this
  . obtain⟨x,hx,hxa⟩:=qs ha;rcases qg hx with⟨_,hx'⟩|⟨_,hxu⟩
    . exact(H.wrote i a (by rw[qp hx'];exact hxa) hw hS g hg).app u
    . rw[(hs x hxu a hxa).1 hS]at hw;cases hw
  . obtain⟨x,hx,hxa⟩:=qs ha;rcases qg hx with⟨hi,hx'⟩|⟨_,hxu⟩
    . rw[qt hi];exact H.own i a (by rw[qp hx'];exact hxa) hO
    . rw[g?_of hx,hu x hxu,(hs x hxu a hxa).2 hO]
theorem PastO.appL(H:PastO Own Still Mem Loose B K t)(hK:∀i,K i->K' i)(hg:Mem g)(hL:Loose g)(hu:∀op∈u,op.g=g)(hr:∀op∈u,∀b,op.act.touch?=some b->(Own b.loc/\g=0/\¬Still b.loc)\/(b.write=false/\Still b.loc/\¬Own b.loc))(hd:Deaf (t++u) g=Deaf t g)(hl:∀op∈u,op.act.low B):PastO Own Still Mem Loose B K' (t++u):=by
  refine⟨fun said=>noRace_append (H.clean said) hu fun i a ha op hop b hb hc=>?_,fun i a ha hm=>?_,fun i a ha hw hS g' hg'=>?_,fun i a ha hO=>?_,H.hears_app hu hd,seen_app H.seen hl⟩
  . rcases hr op hop b hb with⟨hO,h0,_⟩|⟨hb0,hbS,_⟩
    . have hg:=H.own i a ha (hc.1▸hO);obtain⟨x,hx,hxg⟩:=qj.1 hg;have:=qB hx;rw[hxg,<-h0]at this;exact this
    . rcases hc.2.2.1 with x|x
      . exact H.wrote i a ha x (hc.1▸hbS) g hg
      . rw[hb0]at x;cases x
  . obtain⟨x,hx,hxa⟩:=qs ha;rcases qg hx with⟨hi,hx'⟩|⟨_,hxu⟩
    . rcases H.known i a (by rw[qp hx'];exact hxa) hm with hk|hk|⟨p,q,g,hg,hl⟩
      . exact .inl (hK i hk)
      . exact .inr (.inl hk)
      . exact .inr (.inr ⟨p,q,g,by rw[qt hi];exact hg,hl⟩)
    . rcases hr x hxu a hxa with⟨hO,_⟩|⟨h1,h2,_⟩
      . exact .inr (.inl hO)
      . exact .inr (.inr ⟨h1,h2,g,by rw[g?_of hx,hu x hxu],hL⟩)
  . obtain⟨x,hx,hxa⟩:=qs ha;rcases qg hx with⟨_,hx'⟩|⟨_,hxu⟩
    . exact(H.wrote i a (by rw[qp hx'];exact hxa) hw hS g' hg').app u
    . rcases hr x hxu a hxa with⟨_,_,h3⟩|⟨h1,_⟩
      . exact absurd hS h3
      . rw[h1]at hw;cases hw
  . obtain⟨x,hx,hxa⟩:=qs ha;rcases qg hx with⟨hi,hx'⟩|⟨_,hxu⟩
    . rw[qt hi];exact H.own i a (by rw[qp hx'];exact hxa) hO
    . rcases hr x hxu a hxa with⟨_,h2,_⟩|⟨_,_,h3⟩
      . rw[g?_of hx,hu x hxu,h2]
      . exact absurd hO h3
end
section
variable {Own Still:Loc->Prop}{Mem Loose:Nat->Prop}{B h j c:Nat}{t u:Trace}
theorem zgd{q:Nat}{y z:MemOp}(hq:t.size<=q)(hy:(t++u)[q]?=some y)(hz:(t++u)[r]?=some z)(edge:HappensBefore (t++u) q r)(hk:Knows t y.g i):Knows (t++u) z.g i :=
  ⟨r,z,hz,rfl,.inr ((hk.hb_new hq hy rfl).trans edge)⟩
theorem zht{z:MemOp}(hz:(t++u)[r]?=some z)(edge:HappensBefore (t++u) m r)(hk:Before t i m):Knows (t++u) z.g i :=
  ⟨r,z,hz,rfl,.inr ((hk.app u).hb edge)⟩
theorem zjf(j:Nat)(hg:t.g? i=some g)(hl:Loose g):Knows (t++u) j i\/(Loose g/\g≠j):=by
  by_cases e:g=j
  . subst e;obtain⟨x,hx,hxg⟩:=qj.1 hg;have:=(qB hx).app u;rw[hxg]at this;exact .inl this
  . exact .inr ⟨hl,e⟩
theorem PastO.give(H:PastO Own Still Mem Loose B (Knows t h) t)(hh:Mem h)(hj:Mem j)(fh:FuncId)(ph:String)(fj:FuncId)(pj:String)(k cap:Nat)(hc:c<B):
    PastO Own Still Mem (fun g=>Loose g/\g≠j) B (Knows (t++met h j fh ph fj pj c k cap) j) (t++met h j fh ph fj pj c k cap):=by
  have hq:=met_quiet h j fh ph fj pj c k cap;have e0:(t++met h j fh ph fj pj c k cap)[t.size]?=some { g:=h,fn:=fh,pos:=ph,act:=.send c k }:=by simp[met]
  have e3:(t++met h j fh ph fj pj c k cap)[t.size+3]?=some { g:=j,fn:=fj,pos:=pj,act:=.recvDone c k }:=by simp[met]
  have edge:HappensBefore (t++met h j fh ph fj pj c k cap) t.size (t.size+3) :=
    qk (.inr ⟨.handOver (qv e0) (qv e3),⟨h,g?_of e0,by rw[qw (qm _)];exact H.hears h hh⟩,⟨j,g?_of e3,by rw[deaf_quiet (hq j) 3 (by simp[met])];exact H.hears j hj⟩⟩)
  refine H.mute (fun i hk=>zgd (qm _) e0 e3 edge hk) (fun i g hg hl=>zjf j hg hl) (met_mute _ _ _ _ _ _ _ _ _) (fun g hg i hk=>(hk g hg).app _) (fun g hg=>(qy (hq g)).trans (H.hears g hg)) fun op hop=>?_;simp only[met,qe,zMc,zNm,or_false]at hop;rcases hop with rfl|rfl|rfl|rfl<;>exact hc
theorem PastO.hireGive(H:PastO Own Still Mem Loose B (Knows t h) t)(hh:Mem h)(hc0:Deaf t c=0)(fh:FuncId)(ph:String)(fc:FuncId):
    PastO Own Still (fun g=>Mem g\/g=c) Loose B (Knows (t++#[{ g:=h,fn:=fh,pos:=ph,act:=.go c },{ g:=c,fn:=fc,pos:=ph,act:=.start }]) c) (t++#[{ g:=h,fn:=fh,pos:=ph,act:=.go c },{ g:=c,fn:=fc,pos:=ph,act:=.start }]):=by
  generalize hu:(#[{ g:=h,fn:=fh,pos:=ph,act:=.go c },{ g:=c,fn:=fc,pos:=ph,act:=.start }]:Trace)=u;have hn:∀op∈u,op.act.touch?=none:=by
    intro op hop;subst hu;simp only[qe,zMc,zNm,or_false]at hop;rcases hop with rfl|rfl<;>rfl
  have hq:∀g,∀op∈u,∀d,deafStep g d op=d:=by
    intro g op hop d;subst hu;simp only[qe,zMc,zNm,or_false]at hop;rcases hop with rfl|rfl<;>rfl
  have e0:(t++u)[t.size]?=some { g:=h,fn:=fh,pos:=ph,act:=.go c }:=by subst hu;simp
  have e1:(t++u)[t.size+1]?=some { g:=c,fn:=fc,pos:=ph,act:=.start }:=by subst hu;simp
  have edge:HappensBefore (t++u) t.size (t.size+1) :=
    qk (.inr ⟨.spawn (qv e0) (qv e1) (g?_of e1),⟨h,g?_of e0,by rw[qw (qm _)];exact H.hears h hh⟩,⟨c,g?_of e1,by rw[deaf_quiet (hq c) 1 (by subst hu;simp)];exact hc0⟩⟩)
  refine H.mute (fun i hk=>zgd (qm _) e0 e1 edge hk) (fun i g hg hl=>.inr hl) hn (fun g hg i hk=>?_) (fun g hg=>(qy (hq g)).trans (hg.elim (H.hears g) fun e=>e▸hc0)) fun op hop=>?_
  . rcases hg with hg|rfl
    . exact(hk g hg).app _
    . exact zgd (qm _) e0 e1 edge (hk h hh)
  . subst hu;simp only[qe,zMc,zNm,or_false]at hop;rcases hop with rfl|rfl<;>trivial
theorem PastO.away{op:MemOp}(H:PastO Own Still Mem Loose B (Knows t h) t)(hm:t[m]?=some op)(hg:op.g=h)(hlast:∀q z,t[q]?=some z->z.g=h->m<q->Before t q m):PastO Own Still Mem Loose B (fun i=>Before t i m) t:=by
  refine⟨H.clean,fun i a hi hmem=>(H.known i a hi hmem).imp (fun hk=>?_) id,H.wrote,H.own,H.hears,H.seen⟩;obtain⟨q,z,hq,hz,hb⟩:=hk;rcases qE q m with hlt|rfl|hgt
  . exact hb.trans (.inr (hb_po hlt hq hm (hz.trans hg.symm)))
  . exact hb
  . exact hb.trans (hlast q z hq hz hgt)
theorem PastO.takeClosed(H:PastO Own Still Mem Loose B (fun i=>Before t i m) t)(ha:t.act? m=some (.close c))(hhm:t.heard m)(hj:Mem j)(fj:FuncId)(pj:String)(hc:c<B):
    PastO Own Still Mem (fun g=>Loose g/\g≠j) B (Knows (t++#[{ g:=j,fn:=fj,pos:=pj,act:=.recvClosed c }]) j) (t++#[{ g:=j,fn:=fj,pos:=pj,act:=.recvClosed c }]):=by
  generalize hu:(#[{ g:=j,fn:=fj,pos:=pj,act:=.recvClosed c }]:Trace)=u;obtain⟨z,hz,_⟩:=qj.1 (show(t[m]?).map (·.act)=some (.close c) from ha)
  have hlt:=lt_size_of_getElem? hz;have hn:∀op∈u,op.act.touch?=none:=by
    intro op hop;subst hu;simp only[qe,zMc,zNm,or_false]at hop;subst hop;rfl
  have hq:∀g,∀op∈u,∀d,deafStep g d op=d:=by
    intro g op hop d;subst hu;simp only[qe,zMc,zNm,or_false]at hop;subst hop;rfl
  have e0:(t++u)[t.size]?=some { g:=j,fn:=fj,pos:=pj,act:=.recvClosed c }:=by subst hu;simp
  have hhm':(t++u).heard m:=by
    obtain⟨g',hg',hd'⟩:=hhm;exact⟨g',by rw[qt hlt];exact hg',by rw[qw (Nat.le_of_lt hlt)];exact hd'⟩
  have edge:HappensBefore (t++u) m t.size :=
    qk (.inr ⟨.closed (by simpa[Trace.act?,getElem?_append_old hlt] using ha) (qv e0),hhm',⟨j,g?_of e0,by rw[qw (qm _)];exact H.hears j hj⟩⟩)
  refine H.mute (fun i hk=>zht e0 edge hk) (fun i g hg hl=>zjf j hg hl) hn (fun g hg i hk=>(hk g hg).app _) (fun g hg=>(qy (hq g)).trans (H.hears g hg)) fun op hop=>?_;subst hu;simp only[qe,zMc,zNm,or_false]at hop;subst hop;exact hc
theorem PastO.takeSent{k:Nat}(H:PastO Own Still Mem Loose B (fun i=>Before t i m) t)(ha:t.act? m=some (.send c k))(hhm:t.heard m)(hj:Mem j)(fj:FuncId)(pj:String)(cap:Nat)(hc:c<B):
    PastO Own Still Mem (fun g=>Loose g/\g≠j) B (Knows (t++#[{ g:=j,fn:=fj,pos:=pj,act:=.recv c k cap },{ g:=j,fn:=fj,pos:=pj,act:=.recvDone c k }]) j) (t++#[{ g:=j,fn:=fj,pos:=pj,act:=.recv c k cap },{ g:=j,fn:=fj,pos:=pj,act:=.recvDone c k }]):=by
  generalize hu:(#[{ g:=j,fn:=fj,pos:=pj,act:=.recv c k cap },{ g:=j,fn:=fj,pos:=pj,act:=.recvDone c k }]:Trace)=u;obtain⟨z,hz,_⟩:=qj.1 (show(t[m]?).map (·.act)=some (.send c k) from ha)
  have hlt:=lt_size_of_getElem? hz;have hn:∀op∈u,op.act.touch?=none:=by
    intro op hop;subst hu;simp only[qe,zMc,zNm,or_false]at hop;rcases hop with rfl|rfl<;>rfl
  have hq:∀g,∀op∈u,∀d,deafStep g d op=d:=by
    intro g op hop d;subst hu;simp only[qe,zMc,zNm,or_false]at hop;rcases hop with rfl|rfl<;>rfl
  have e1:(t++u)[t.size+1]?=some { g:=j,fn:=fj,pos:=pj,act:=.recvDone c k }:=by subst hu;simp
  have hhm':(t++u).heard m:=by
    obtain⟨g',hg',hd'⟩:=hhm;exact⟨g',by rw[qt hlt];exact hg',by rw[qw (Nat.le_of_lt hlt)];exact hd'⟩
  have edge:HappensBefore (t++u) m (t.size+1) :=
    qk (.inr ⟨.handOver (by simpa[Trace.act?,getElem?_append_old hlt] using ha) (qv e1),hhm',⟨j,g?_of e1,by rw[deaf_quiet (hq j) 1 (by subst hu;simp)];exact H.hears j hj⟩⟩)
  refine H.mute (fun i hk=>zht e1 edge hk) (fun i g hg hl=>zjf j hg hl) hn (fun g hg i hk=>(hk g hg).app _) (fun g hg=>(qy (hq g)).trans (H.hears g hg)) fun op hop=>?_;subst hu;simp only[qe,zMc,zNm,or_false]at hop;rcases hop with rfl|rfl<;>exact hc
end
end Go.Proofs.Ytpkkfkebnhgaiaa
namespace Go.Proofs.Ytpkkfkebnhgaiaa
open Go Go.Conc
open Go.ConcN (sumTo upd sumTo_upd upd_ne upd_same)
def ownL(OB:Nat->Prop)(l:Loc):Prop:=∃a,l=.cell a/\OB a.block
def zcr(WB:Nat->Prop)(l:Loc):Prop:=∃a,l=.cell a/\WB a.block/\3<=a.off
def Rl(OB WB:Nat->Prop)(i:Nat)(w w1:World):Prop:=(∀a:Addr,WB a.block->3<=a.off->w1.cell? a=w.cell? a)/\(i=0->∀b,OB b->w1.heap[b]?=w.heap[b]?)
variable {OB WB:Nat->Prop}{i x:Nat}
theorem Rl.refl(w:World):Rl OB WB i w w:=⟨fun _ _ _=>rfl,fun _ _ _=>rfl⟩
theorem Rl.trans(a b c:World)(h:Rl OB WB i a b)(h':Rl OB WB i b c):Rl OB WB i a c :=
  ⟨fun x h1 h2=>(h'.1 x h1 h2).trans (h.1 x h1 h2),fun e b hb=>(h'.2 e b hb).trans (h.2 e b hb)⟩
def EvW(OB WB:Nat->Prop)(B i:Nat)(e:Event):Prop:=∃a:Addr,a.block<B/\((e=⟨.cell a,false,false⟩/\WB a.block/\3<=a.off)\/(i=0/\OB a.block/\∃wr,e=⟨.cell a,wr,false⟩))
structure Dw (OB WB:Nat->Prop) (B i:Nat) (w w':World) (es:Array Event):Prop where
  only:∀b,¬ (i=0/\OB b)->w'.heap[b]?=w.heap[b]?
  size:w'.heap.size=w.heap.size
  rest:w'={ w with heap:=w'.heap }
  evs:∀e∈es,EvW OB WB B i e
def AtS(P:Program)(s:Seat)(g gq:Goroutine):Prop :=
  g.status=.running/\g.frame=gq.frame/\g.callers=gq.callers/\g.dying=gq.dying/\s.home gq/\∀main w,stepG P main g w=.comm gq s.cases true s.shape w
def SitsO(P:Program)(OB WB:Nat->Prop)(B:Nat)(Iv:Nat->World->Prop)(i:Nat)(s:Seat)(n:Nat)(g:Goroutine)(w:World):Prop :=
  (∃k,n=k+1/\qF P (i==0) (Rl OB WB i) (Dw OB WB B i) (fun g w=>(∃gq,AtS P s g gq)/\Iv i w) k g w)\/(n=0/\(∃gy gq,g=parked gq s.cases s.shape/\AtS P s gy gq)/\Iv i w)
def zg2(P:Program)(OB WB:Nat->Prop)(B:Nat)(Iv:Nat->World->Prop)(T:Trace)(i n:Nat)(g:Goroutine)(w:World):Option Seat->Prop
  | none=>0<i/\QuitsD P n (Deaf T i) g
  | some s=>SitsO P OB WB B Iv i s n g w
variable {s:Seat}{g y:Goroutine}
section
variable {P:Program}{OB WB:Nat->Prop}{B:Nat}{Iv:Nat->World->Prop}
theorem SitsO.rely(hIv:∀i w w1,Rl OB WB i w w1->Iv i w->Iv i w1){n:Nat}{w w1:World}(h:SitsO P OB WB B Iv i s n g w)(hr:Rl OB WB i w w1):SitsO P OB WB B Iv i s n g w1:=by
  rcases h with⟨k,rfl,h⟩|h
  . exact .inl ⟨k,rfl,h.rely Rl.trans hr⟩
  . exact .inr ⟨h.1,h.2.1,hIv _ _ _ hr h.2.2⟩
theorem SitsO.status{n:Nat}{w:World}(h:SitsO P OB WB B Iv i s n g w):(g.status=.running/\0<n)\/(g.status=.blocked/\n=0):=by
  rcases h with⟨k,rfl,hg⟩|⟨rfl,⟨_,gq,rfl,_⟩,_⟩
  . refine .inl ⟨?_,by omega⟩
    cases k with
    | zero=>exact(hg w (Rl.refl w)).1.choose_spec.1
    | succ k=>exact hg.elim (fun x=>(x w (Rl.refl w)).1.choose_spec.1) (·.1)
  . exact .inr ⟨rfl,rfl⟩
theorem SitsO.again{n:Nat}{w w1:World}(h:SitsO P OB WB B Iv i s n g w)(hwf:s.Wf)(hc:∀c,s.has c->∃cap buf a b tm,w1.heap[c]?=some (.chan cap buf false a b tm)):g.again w1=g:=by
  rcases h with h|⟨rfl,⟨_,gq,rfl,_⟩,_⟩
  . exact qu (.inl ((SitsO.status (.inl h)).elim (·.1) (fun x=>by obtain⟨k,rfl,_⟩:=h;omega))) w1
  . refine again_all_open fun cc hcc=>?_;obtain⟨c,z,rfl⟩:=hwf.recvs cc hcc;obtain⟨cap,buf,a,b,tm,h⟩:=hc c (Seat.has_of_mem hcc);exact⟨c,z,cap,buf,a,b,tm,rfl,h⟩
end
structure CoF (P:Program) (OB WB:Nat->Prop) (B:Nat) (Iv:Nat->World->Prop) (K:Trace->Nat->Prop) (Mem Lo:Nat->Prop) (Inb:Nat->Option Seat) (Sp Dead:Nat->Prop) (T:Trace) (gs:Array Goroutine) (w:World) (q:Nat->Nat):Prop where
  idle:∀i g,¬Sp i->gs[i]?=some g->zg2 P OB WB B Iv T i (q i) g w (Inb i)
  chans:∀i s c,¬Dead i->Inb i=some s->s.has c->∃cap k,w.heap[c]?=some (.chan cap #[] false k k false)
  far:∀i s c,Inb i=some s->s.has c->¬OB c
  wf:∀i s,Inb i=some s->s.Wf
  live:∀i g,Dead i->gs[i]?=some g->g.status=.running
  inj:∀i i' s s' c,Inb i=some s->Inb i'=some s'->s.has c->s'.has c->i=i'
  above:∀j,gs.size<=j->Deaf T j=0
  mem:∀i s,Inb i=some s->Mem i/\∀c,s.has c->c<B
  nomem:∀i,Mem i->Inb i≠none\/Sp i
  lo:∀i s,¬Sp i->Inb i=some s->Lo i
  past:PastO (ownL OB) (zcr WB) Mem Lo B (K T) T
  apart:∀b,OB b->¬WB b
  ivst:∀i w w1,Rl OB WB i w w1->Iv i w->Iv i w1
  lowB:B<=w.heap.size
section
variable {P:Program}{OB WB:Nat->Prop}{B:Nat}{Iv:Nat->World->Prop}{K:Trace->Nat->Prop}{Mem Lo:Nat->Prop}{Inb:Nat->Option Seat}{Sp Dead:Nat->Prop}{T:Trace}{gs:Array Goroutine}{w:World}{q:Nat->Nat}
structure Side (OB:Nat->Prop) (w w':World):Prop where
  only:∀b,¬OB b->w'.heap[b]?=w.heap[b]?
  size:w'.heap.size=w.heap.size
  rest:w'={ w with heap:=w'.heap }
theorem Side.refl(w:World):Side OB w w:=⟨fun _ _=>rfl,rfl,rfl⟩
theorem CoF.fixed(C:CoF P OB WB B Iv K Mem Lo Inb Sp Dead T gs w q){w1:World}(hS:Side OB w w1)(hx:¬Sp x)(hy:gs[x]?=some y):y.again w1=y:=by
  have h:=C.idle x y hx hy;cases e:Inb x with
  | none=>rw[e]at h;exact qu h.2.status w1
  | some s =>
    rw[e]at h;by_cases hD:Dead x
    . exact qu (.inl (C.live x y hD hy)) w1
    . exact SitsO.again h (C.wf x s e) fun c hc=>by
        obtain⟨cap,k,hk⟩:=C.chans x s c hD e hc;exact⟨_,_,_,_,_,by rw[hS.only c (C.far x s c e hc)];exact hk⟩
theorem CoF.noSend(C:CoF P OB WB B Iv K Mem Lo Inb Sp Dead T gs w q)(hx:¬Sp x)(hy:gs[x]?=some y)(c:Nat):offersAt y c true=[]:=by
  have h:=C.idle x y hx hy;cases e:Inb x with
  | none =>
    rw[e]at h;exact qA (fun hb=>by rcases h.2.status with z|z<;>rw[z]at hb<;>cases hb) c true
  | some s =>
    rw[e]at h;rcases h with h|⟨_,⟨_,gq,rfl,_⟩,_⟩
    . have:=(SitsO.status (.inl h)).elim (·.1) (fun z=>by obtain⟨k,hk,_⟩:=h;omega)
      exact qA (fun hb=>by rw[this]at hb;cases hb) c true
    . exact offersAt_parked_sends (fun cc hcc=>by obtain⟨c',z',rfl⟩:=(C.wf x s e).recvs cc hcc;rfl) _
theorem CoF.at(C:CoF P OB WB B Iv K Mem Lo Inb Sp Dead T gs w q)(d:Nat):CoF P OB WB B Iv K Mem Lo Inb Sp Dead T gs (w.at d) q:=by
  refine⟨fun i g h1 h2=>?_,C.chans,C.far,C.wf,C.live,C.inj,C.above,C.mem,C.nomem,C.lo,C.past,C.apart,C.ivst,C.lowB⟩;have h:=C.idle i g h1 h2;cases e:Inb i with
  | none=>rw[e]at h;exact h
  | some s=>rw[e]at h;exact SitsO.rely C.ivst h ⟨fun _ _ _=>rfl,fun _ _ _=>rfl⟩
theorem zrO{fn:FuncId}{pos:String}{es:Array Event}(hap:∀b,OB b->¬WB b)(h:∀e∈es,EvW OB WB B i e):
    (∀op∈ql i fn pos es,op.g=i)/\(∀op∈ql i fn pos es,∀b,op.act.touch?=some b->(ownL OB b.loc/\i=0/\¬zcr WB b.loc)\/(b.write=false/\zcr WB b.loc/\¬ownL OB b.loc))/\(∀op∈ql i fn pos es,op.act.low B)/\∀t:Trace,Deaf (t++ql i fn pos es) i=Deaf t i:=by
  have hno:∀a:Addr,OB a.block->¬zcr WB (.cell a):=fun a ha ⟨b,e,hb,_⟩=>by
    simp only[Loc.cell.injEq]at e;subst e;exact hap _ ha hb
  have hno2:∀a:Addr,WB a.block->¬ownL OB (.cell a):=fun a ha ⟨b,e,hb⟩=>by
    simp only[Loc.cell.injEq]at e;subst e;exact hap _ hb ha
  refine⟨fun op hop=>by obtain⟨e,_,rfl⟩:=qi hop;rfl,fun op hop b hb=>?_,fun op hop=>?_,fun t=>?_⟩
  . obtain⟨e,he,rfl⟩:=qi hop;obtain⟨a,_,⟨rfl,h1,h2⟩|⟨h1,h2,wr,rfl⟩⟩:=h e he
    . simp only[ofEvent_cell0,MemAct.touch?,Option.some.injEq]at hb;subst hb;exact .inr ⟨rfl,⟨a,rfl,h1,h2⟩,hno2 a h1⟩
    . cases wr<;>(simp[MemAct.ofEvent,MemAct.touch?]at hb;subst hb;exact .inl ⟨⟨a,rfl,h2⟩,h1,hno a h2⟩)
  . obtain⟨e,he,rfl⟩:=qi hop;obtain⟨a,hB,⟨rfl,h1,h2⟩|⟨h1,h2,wr,rfl⟩⟩:=h e he
    . rw[ofEvent_cell0];exact hB
    . cases wr<;>exact hB
  . rw[Deaf_own];exact deafBehind_still (fun e he=>by
      obtain⟨a,_,⟨rfl,_⟩|⟨_,_,wr,rfl⟩⟩:=h e he
      . exact⟨by simp,by simp⟩
      . exact⟨by simp,by simp⟩) _
end
theorem zdU{w w':World}{a:Addr}(h:w'.heap[a.block]?=w.heap[a.block]?):w'.cell? a=w.cell? a:=by
  unfold World.cell?;rw[h]
section
variable {P:Program}{OB WB:Nat->Prop}{B:Nat}{Iv:Nat->World->Prop}{K:Trace->Nat->Prop}{Mem Lo:Nat->Prop}{Inb:Nat->Option Seat}{Sp Dead:Nat->Prop}{T:Trace}{gs:Array Goroutine}{w:World}{q:Nat->Nat}
theorem Side.rl{w':World}(hS:Side OB w w')(hap:∀b,OB b->¬WB b)(hw0:i≠0->w'=w)(hx:x≠i):Rl OB WB x w w' :=
  ⟨fun a ha _=>zdU (hS.only _ fun hb=>hap _ hb ha),fun e b _=>by rw[hw0 (by omega)]⟩
theorem CoF.put(C:CoF P OB WB B Iv K Mem Lo Inb Sp Dead T gs w q){i n':Nat}{g':Goroutine}{ops:Array MemOp}{gs':Array Goroutine}{w':World}(hsz:gs'.size=gs.size)(hother:∀x,x≠i->gs'[x]?=gs[x]?)(hself:gs'[i]?=some g')(hops:∀op∈ops,op.g=i)(hlt:i<gs.size)(hS:Side OB w w')(hw0:i≠0->w'=w)(hlive:Dead i->g'.status=.running)(hidle:zg2 P OB WB B Iv (T++ops) i n' g' w' (Inb i))(hpast:PastO (ownL OB) (zcr WB) Mem Lo B (K (T++ops)) (T++ops)):
    CoF P OB WB B Iv K Mem Lo Inb Sp Dead (T++ops) gs' w' (upd q i n'):=by
  refine⟨fun x y hx hy=>?_,fun x s c hD e hc=>?_,C.far,C.wf,fun x y hx hy=>?_,C.inj,fun j hj=>?_,C.mem,C.nomem,C.lo,hpast,C.apart,C.ivst,by rw[hS.size];exact C.lowB⟩
  . by_cases e:x=i
    . subst e;rw[hself]at hy;obtain rfl:=qr hy;rw[upd_same];exact hidle
    . rw[hother x e]at hy;rw[upd_ne q n' e];have h:=C.idle x y hx hy;cases es:Inb x with
      | none=>rw[es]at h;exact⟨h.1,by rw[qz T (fun z=>e z.symm) ops hops];exact h.2⟩
      | some s=>rw[es]at h;exact SitsO.rely C.ivst h (hS.rl C.apart hw0 e)
  . obtain⟨cap,k,hk⟩:=C.chans x s c hD e hc;exact⟨cap,k,by rw[hS.only c (C.far x s c e hc)];exact hk⟩
  . by_cases e:x=i
    . subst e;rw[hself]at hy;obtain rfl:=qr hy;exact hlive hx
    . rw[hother x e]at hy;exact C.live x y hx hy
  . rw[qz T (g':=i) (by omega) ops hops]
    exact C.above j (by omega)
theorem CoF.by_step(hKT:∀t u i,K t i->K (t++u) i)(C:CoF P OB WB B Iv K Mem Lo Inb Sp Dead T gs w q){sl:Option (Nat×Nat)}(hi:gs[i]?=some g)(hsp:¬Sp i)(hrun:g.status=.running)(hsA:∀x gx w',Sp x->gs[x]?=some gx->Side OB w w'->gx.again w'=gx)(hDs:Dead i->Inb i≠none)(hsO:∀s gq,Inb i=some s->AtS P s g gq->¬Dead i/\∀x gx c,Sp x->gs[x]?=some gx->s.has c->offersAt gx c true=[]):
    ∃(gs':Array Goroutine) (ops:Array MemOp) (q':Nat->Nat) (w':World),runT P (crowd gs w sl) i=(.next (crowd gs' w' sl),ops)/\gs'.size=gs.size/\(∀x,Sp x->gs'[x]?=gs[x]?)/\Side OB w w'/\(i≠0->w'=w)/\(∀x,x≠i->q' x=q x) /\
      (∀s,Inb i=some s->q' i=0->∃gq,AtS P s g gq)/\CoF P OB WB B Iv K Mem Lo Inb Sp Dead (T++ops) gs' w' q'/\sumTo gs.size q'<sumTo gs.size q:=by
  have hlt:i<gs.size:=(Array.getElem?_eq_some_iff.1 hi).1;have hne:∀x,Sp x->x≠i:=fun x hx e=>hsp (e▸hx);have hfix:∀(a a':Goroutine) (w':World),Side OB w w'->∀(x:Nat) (y:Goroutine),gs[x]?=some y->woken P a a' w' y=y:=fun a a' w' hS x y hy=>woken_of_again (by
    by_cases hx:Sp x
    . exact hsA x y w' hx hy hS
    . exact C.fixed hS hx hy)
  have harr:∀(a' g':Goroutine) (w':World),Side OB w w'->∀x:Nat,x≠i->((gs.map (woken P g a' w')).setIfInBounds i g')[x]?=gs[x]?:=by
    intro a' g' w' hS x hx;rw[qn (fun e=>hx e.symm),Array.getElem?_map];cases e:gs[x]? with
    | none=>rfl
    | some y=>simp[hfix g a' w' hS x y e]
  have hself:∀(a' g':Goroutine) (w':World),((gs.map (woken P g a' w')).setIfInBounds i g')[i]?=some g':=fun a' g' w'=>qq (by simpa using hlt)
  have hsum:∀m k,q i=m->k<m->sumTo gs.size (upd q i k)<sumTo gs.size q:=by
    intro m k hqi hkm;have h2:sumTo gs.size (upd q i k)+m=sumTo gs.size q+k:=by
      have:=sumTo_upd q k id hlt;simpa[hqi] using this
    omega
  have hid:=C.idle i g hsp hi;cases e:Inb i with
  | none =>
    rw[e]at hid;obtain⟨hpos,hq⟩:=hid;have hi0:(i==0)=false:=by simp;omega
    cases hqi:q i with
    | zero=>rw[hqi]at hq;rw[hq.1]at hrun;cases hrun
    | succ k =>
      rw[hqi]at hq;rcases hq with⟨hf,_⟩|⟨_,g',es,hm,hstp,hq'⟩
      . rw[hf]at hrun;cases hrun
      have hops:∀op∈ql i g.frame.fn g.frame.place es,op.g=i:=fun op hop=>by obtain⟨e,_,rfl⟩:=qi hop;rfl
      refine⟨_,_,upd q i k,w,runT_crowd_go (sl:=sl) hi (by rw[hi0];exact hstp w),by simp,fun x hx=>harr _ _ w (Side.refl w) x (hne x hx),Side.refl w,fun _=>rfl,fun x hx=>upd_ne q k hx,fun s hs _=>(by cases hs),?_,hsum _ _ hqi (Nat.lt_succ_self _)⟩
      refine C.put (by simp) (harr _ _ w (Side.refl w)) (hself _ _ _) hops hlt (Side.refl w) (fun _=>rfl) (fun hD=>absurd e (hDs hD)) (by rw[e];exact⟨hpos,by rw[Deaf_own];exact hq'⟩) ?_
      have hnM:¬Mem i:=fun hM=>(C.nomem i hM).elim (fun z=>absurd e z) (fun z=>absurd z hsp);exact C.past.mute (hKT T _) (fun _ _ _ hl=>.inr hl) (fun op hop=>by obtain⟨e,he,rfl⟩:=qi hop;exact touch_mute (hm e he)) (fun x hx i hk=>(hk x hx).app _)
        (fun x hx=>by rw[qz T (g':=i) (fun z=>hnM (z▸hx)) _ hops];exact C.past.hears x hx) (fun op hop=>by obtain⟨e,he,rfl⟩:=qi hop;exact low_mute (hm e he) B)
  | some s =>
    rw[e]at hid;obtain⟨hM,_⟩:=C.mem i s e;obtain⟨k,hqi,hg⟩:∃k,q i=k+1/\qF P (i==0) (Rl OB WB i) (Dw OB WB B i) (fun g w=>(∃gq,AtS P s g gq)/\Iv i w) k g w:=by
      rcases hid with h|⟨_,⟨_,gq,rfl,_⟩,_⟩
      . exact h
      . cases hrun
    have hcase:((∃gq,AtS P s g gq)/\Iv i w)\/∃k' g' w' es,k=k'+1/\stepG P (i==0) g w=.go g' w' es/\Dw OB WB B i w w' es/\qF P (i==0) (Rl OB WB i) (Dw OB WB B i) (fun g w=>(∃gq,AtS P s g gq)/\Iv i w) k' g' w':=by
      cases k with
      | zero=>exact .inl (hg w (Rl.refl w))
      | succ k' =>
        rcases hg with hstop|⟨_,hstep⟩
        . exact .inl (hstop w (Rl.refl w))
        . have hs:=hstep w (Rl.refl w);cases hgo:stepG P (i==0) g w with
          | go g' w' es =>
            rw[hgo,goes_go]at hs;exact .inr ⟨k',g',w',es,rfl,rfl,hs.1,hs.2⟩
          | _=>rw[hgo]at hs;exact hs.elim
    rcases hcase with⟨⟨gq,hat⟩,hiv⟩|⟨k',g',w',es,rfl,hgo,hD,hG'⟩
    . obtain⟨hnD,hsO'⟩:=hsO s gq e hat;obtain⟨_,_,_,_,_,hstp⟩:=id hat;have hw:∀cc∈s.cases,NoWays w (gs.setIfInBounds i ph) cc:=by
        intro cc hcc;obtain⟨c,z,rfl⟩:=(C.wf i s e).recvs cc hcc;have hsc:=Seat.has_of_mem hcc;obtain⟨cap,kk,hc⟩:=C.chans i s c hnD e hsc;refine ways_recv_none hc (partners_nil fun x y hy=>?_);rcases getElem?_stand gs i x y hy with⟨_,rfl⟩|⟨hx,hy'⟩
        . exact offersAt_ph _ _
        . by_cases hSx:Sp x
          . exact hsO' x y c hSx hy' hsc
          . exact C.noSend hSx hy' _
      have hops:∀op∈ql i g.frame.fn g.frame.place #[],op.g=i:=fun op hop=>by obtain⟨e,he,_⟩:=qi hop;simp at he
      refine⟨_,_,upd q i 0,w,crowd_waits (sl:=sl) hi (hstp (i==0) w) hw,by simp,fun x hx=>qn (fun z=>hne x hx z.symm),Side.refl w,fun _=>rfl,fun x hx=>upd_ne q 0 hx,fun s' hs' _=>(by obtain rfl:=qr hs';exact⟨gq,hat⟩),?_,hsum _ _ hqi (Nat.succ_pos _)⟩
      refine C.put (by simp) (fun x hx=>qn (fun z=>hx z.symm)) (qq hlt) hops hlt (Side.refl w) (fun _=>rfl) (fun hD=>absurd hD hnD) (by rw[e];exact .inr ⟨rfl,⟨g,gq,rfl,hat⟩,hiv⟩) ?_
      rw[show ql i g.frame.fn g.frame.place #[]=#[] from rfl]
      rw[Array.append_empty];exact C.past
    . obtain⟨hops,hr,hl,hd⟩:=zrO (i:=i) (fn:=g.frame.fn) (pos:=g.frame.place) C.apart hD.evs;have hS:Side OB w w':=⟨fun b hb=>hD.only b fun h=>hb h.2,hD.size,hD.rest⟩;have hw0:i≠0->w'=w:=fun h0=>by
        rw[hD.rest];have:w'.heap=w.heap:=Array.ext_getElem? fun b=>hD.only b fun h=>h0 h.1;rw[this]
      refine⟨_,_,upd q i (k'+1),w',runT_crowd_go (sl:=sl) hi hgo,by simp,fun x hx=>harr _ _ w' hS x (hne x hx),hS,hw0,fun x hx=>upd_ne q _ hx,fun s' _ h0=>(by rw[upd_same]at h0;omega),?_,hsum _ _ hqi (by omega)⟩
      refine C.put (by simp) (harr _ _ w' hS) (hself _ _ _) hops hlt hS hw0 (fun _=>(SitsO.status (.inl ⟨k',rfl,hG'⟩)).elim (·.1) (fun z=>by omega)) (by rw[e];exact .inl ⟨k',rfl,hG'⟩) ?_
      exact C.past.appL (hKT T _) hM (C.lo i s hsp e) hops hr (hd T) hl
end
end Go.Proofs.Ytpkkfkebnhgaiaa
namespace Go.Proofs.Ytpkkfkebnhgaiaa
open Go Go.Conc
def WT(w:World)(t:Tape):World:={ w with tape:=t }
inductive XN (P:Program):Nat->Goroutine->World->Goroutine->World->Prop
  | zero {c w}:XN P 0 c w c w
  | succ {n c w c' w' c'' w''} (h:XS P c w c' w') (ht:XN P n c' w' c'' w''):XN P (n+1) c w c'' w''
variable {P:Program}{c1 g:Goroutine}
theorem XSt.count{c c':Goroutine}{w w':World}(h:XSt P c w c' w'):∃n,XN P n c w c' w':=by
  induction h with
  | refl=>exact⟨0,.zero⟩
  | head x _ ih=>obtain⟨n,hn⟩:=ih;exact⟨n+1,.succ x hn⟩
inductive Tree (P:Program) (End:Goroutine->World->Prop):Goroutine->World->Prop
  | here {c w} (h:End c w):Tree P End c w
  | step {c w} (nx:Tape->Goroutine×World) (h:∀t,XS P c (WT w t) (nx t).1 (nx t).2) (ht:∀t,Tree P End (nx t).1 (nx t).2):Tree P End c w
section
variable {P:Program}{End:Goroutine->World->Prop}
theorem zrb{c c2:Goroutine}{w w1 w2:World}(N:NoV w)(h1:XS P c w c1 w1)(h2:XS P c w c2 w2):c1=c2/\w1=w2:=by
  obtain⟨_,_,e1⟩:=h1.2 N;obtain⟨_,_,e2⟩:=h2.2 N;have:=(e1.go true).symm.trans (e2.go true);simp only[GStep.go.injEq]at this;exact⟨this.1,this.2.1⟩
theorem zls{c c':Goroutine}{w w':World}(N:NoV w)(h:XS P c w c' w'):NoV w':=(h.2 N).1
theorem zqT{c c':Goroutine}{w w':World}(N:NoV w)(h:XS P c w c' w'):w.drawn<=w'.drawn:=(h.2 N).2.choose_spec.drawn
theorem zlc{c c':Goroutine}{w w':World}(N:NoV w)(h:XS P c w c' w')(t:Tape)(ht:∀i q,w.drawn<=i->i<w'.drawn->w.tape i q=t i q):XS P c (WT w t) c' (WT w' t):=by
  obtain⟨hr,h⟩:=h;refine⟨hr,fun _=>?_⟩;obtain⟨N',es,x⟩:=h N;refine⟨N',es,x.drawn,?_,fun main=>x.tape t ht main,fun t' ht' main=>x.tape t' (fun i q h1 h2=>(ht i q h1 h2).trans (ht' i q h1 h2)) main,fun B R main w2 S hd=>?_⟩
  . have:=x.keep;unfold WT;rw[this]
  . obtain⟨w',h1,h2,h3⟩:=x.move B R main w2 ⟨S.size,S.low,S.same,S.dead,S.cold,S.novw⟩ fun i q hi=>by
      rw[ht _ _ (by omega) hi]
      exact hd i q hi
    exact⟨w',h1,⟨h2.size,h2.low,h2.same,h2.dead,h2.cold,h2.novw⟩,h3⟩
theorem zsg{n:Nat}{c c':Goroutine}{w w':World}(h:XN P n c w c' w'):NoV w->∀t:Tape,(∀i q,w.drawn<=i->w.tape i q=t i q)->XN P n c (WT w t) c' (WT w' t):=by
  induction h with
  | zero=>intro _ t _;exact .zero
  | succ x _ ih =>
    intro N t ht;refine .succ (zlc N x t fun i q h1 _=>ht i q h1) (ih (zls N x) t fun i q h1=>?_);obtain⟨_,_,e⟩:=x.2 N;rw[e.keep];exact ht i q (Nat.le_trans e.drawn h1)
theorem ztg{n:Nat}{c:Goroutine}{w w1:World}(h1:XN P n c w c1 w1):∀{c2 w2},NoV w->XN P n c w c2 w2->c1=c2/\w1=w2:=by
  induction h1 with
  | zero=>intro c2 w2 _ h;cases h;exact⟨rfl,rfl⟩
  | succ x _ ih =>
    intro c2 w2 N h;cases h with
    | succ y h =>
      obtain⟨rfl,rfl⟩:=zrb N x y;exact ih (zls N x) h
def All(P:Program)(End:Goroutine->World->Prop)(c:Goroutine)(w:World):Prop:=∀t,∃n c' w',XN P n c (WT w t) c' w'/\End c' w'
theorem zqo(hE:∀c w t,End c w->End c (WT w t)){c:Goroutine}{w:World}(N:NoV w)(hA:All P End c w)(hT:¬Tree P End c w):
    ∃t c' w',XS P c (WT w t) c' w'/\NoV w'/\All P End c' w'/\¬Tree P End c' w':=by
  have hne:¬End c w:=fun h=>hT (.here h);have hfirst:∀t,∃p:Goroutine×World,XS P c (WT w t) p.1 p.2:=fun t=>by
    obtain⟨n,c',w',hn,he⟩:=hA t;cases hn with
    | zero=>exact absurd (hE _ _ w.tape he) hne
    | succ x _=>exact⟨(_,_),x⟩
  have hex:∃t,¬Tree P End (hfirst t).choose.1 (hfirst t).choose.2:=qo fun hno=>hT (.step (fun t=>(hfirst t).choose) (fun t=>(hfirst t).choose_spec) fun t=>qo fun h=>hno ⟨t,h⟩);obtain⟨t,ht⟩:=hex;have hx:=(hfirst t).choose_spec;generalize (hfirst t).choose=p at ht hx;obtain⟨c',w'⟩:=p;have N':NoV w':=zls (show NoV (WT w t) from N) hx
  refine⟨t,c',w',hx,N',fun t'=>?_,ht⟩
  let t2:Tape:=fun i q=>if i<w'.drawn then t i q else t' i q
  have hx2:XS P c (WT w t2) c' (WT w' t2):=zlc (show NoV (WT w t) from N) hx t2 fun i q _ h2=>by simp[t2,h2,WT]
  obtain⟨n,e,we,hn,he⟩:=hA t2;cases hn with
  | zero=>exact absurd (hE _ _ w.tape he) hne
  | succ y hm =>
    obtain⟨rfl,rfl⟩:=zrb (show NoV (WT w t2) from N) y hx2
    exact⟨_,e,WT we t',zsg hm N' t' fun i q h1=>by
      have h1:w'.drawn<=i:=h1;simp[t2,WT,Nat.not_lt.2 h1],hE _ _ t' he⟩
theorem zk0(hE:∀c w t,End c w->End c (WT w t)){c:Goroutine}{w:World}(N:NoV w)(hA:All P End c w):Tree P End c w:=by
  refine qo fun hT=>?_
  let S:={ s:Goroutine×World // NoV s.2/\All P End s.1 s.2/\¬Tree P End s.1 s.2 }
  have hstep:∀s:S,∃q:Tape×S,XS P s.1.1 (WT s.1.2 q.1) q.2.1.1 q.2.1.2:=fun s=>by
    obtain⟨t,c',w',h1,h2⟩:=zqo hE s.2.1 s.2.2.1 s.2.2.2;exact⟨(t,⟨(c',w'),h2⟩),h1⟩
  let sq:Nat->S:=fun n=>Nat.rec ⟨(c,w),N,hA,hT⟩ (fun _ s=>(hstep s).choose.2) n
  let tp:Nat->Tape:=fun n=>(hstep (sq n)).choose.1
  have hs:∀n,XS P (sq n).1.1 (WT (sq n).1.2 (tp n)) (sq (n+1)).1.1 (sq (n+1)).1.2:=fun n=>(hstep (sq n)).choose_spec;have hd1:∀n,(sq n).1.2.drawn<=(sq (n+1)).1.2.drawn:=fun n=>show(WT (sq n).1.2 (tp n)).drawn<=_ from zqT (show NoV (WT (sq n).1.2 (tp n)) from(sq n).2.1) (hs n)
  have hd:∀n m,n<=m->(sq n).1.2.drawn<=(sq m).1.2.drawn:=fun n m h=>by
    induction h with
    | refl=>exact qm _
    | step _ ih=>exact Nat.le_trans ih (hd1 _)
  let T:Tape:=fun i q=>open Classical in if h:∃k,(sq k).1.2.drawn<=i/\i<(sq (k+1)).1.2.drawn then tp h.choose i q else 0
  have hTk:∀k i q,(sq k).1.2.drawn<=i->i<(sq (k+1)).1.2.drawn->tp k i q=T i q:=fun k i q h1 h2=>by
    have hex:∃k,(sq k).1.2.drawn<=i/\i<(sq (k+1)).1.2.drawn:=⟨k,h1,h2⟩;have hk:hex.choose=k:=by
      obtain⟨h3,h4⟩:=hex.choose_spec;rcases qE hex.choose k with h|h|h
      . have:=hd (hex.choose+1) k h;omega
      . exact h
      . have:=hd (k+1) hex.choose h;omega
    have:T i q=tp hex.choose i q:=dif_pos hex;rw[this,hk]
  have hsT:∀n,XS P (sq n).1.1 (WT (sq n).1.2 T) (sq (n+1)).1.1 (WT (sq (n+1)).1.2 T):=fun n=>zlc (show NoV (WT (sq n).1.2 (tp n)) from(sq n).2.1) (hs n) T fun i q h1 h2=>hTk n i q h1 h2
  have hn:∀n k m,m=k+n->XN P n (sq k).1.1 (WT (sq k).1.2 T) (sq m).1.1 (WT (sq m).1.2 T):=fun n=>by
    induction n with
    | zero=>intro k m h;subst h;exact .zero
    | succ n ih=>intro k m h;exact .succ (hsT k) (ih (k+1) m (by omega))
  obtain⟨n,e,we,h1,h2⟩:=hA T;obtain⟨rfl,rfl⟩:=ztg (h1:XN P n (sq 0).1.1 (WT (sq 0).1.2 T) e we) (show NoV (WT (sq 0).1.2 T) from N) (hn n 0 n (by omega))
  exact(sq n).2.2.2 (.here (hE _ (WT (sq n).1.2 T) (sq n).1.2.tape h2))
end
theorem zrE{c c':Goroutine}{w w':World}(h:XSt P c w c' w'):NoV w->NoV w':=by
  induction h with
  | refl=>exact id
  | head x _ ih=>exact fun N=>ih (zls N x)
variable {F:Emb}{cs:List Frame}{M:Nat->Prop}
section
variable {P:Program}{σ:Type}{X:Face P σ}
theorem zj5{fr:Frame}{w:World}{v:Value}(N:NoV w)(h:fr.leaving P w (.returned v))(t:Tape):fr.leaving P (WT w t) (.returned v):=by
  obtain⟨h1,h2,h3,fn,h4,h5⟩:=h;refine⟨h1,h2,h3,fn,h4,?_⟩;have h6:(results fn fr.tmps).runT P w #[]=(.ok v w,(results fn fr.tmps).events P w #[]):=by rw[Sem.runT_eq,h5]
  have h7:=zj0 (zew fn fr.tmps) N h6 t (fun i q h1 h2=>absurd h2 (by omega))
  rw[Sem.runT_eq,Prod.mk.injEq]at h7;exact h7.1
theorem zhn{b:Frame}{c:Conf σ}{w:World}(N:NoV w)(h:zdq P F b cs c w g)(t:Tape):zdq P F b cs c (WT w t) g:=by
  cases c with
  | run todo tmps hh S=>exact h
  | done v hh S =>
    obtain⟨fr,h1,h2,h3⟩:=h;exact⟨fr,h1,h2,zj5 N h3 t⟩
theorem zjH{w0 w:World}{c:Conf σ}(h:InvC X F w0 M c w)(t:Tape):InvC X F (WT w0 t) M c (WT w t):=by
  obtain⟨I,hl⟩:=h;exact⟨⟨⟨I.holds.row,I.holds.apart⟩,X.rep_kept _ _ _ _ I.rep (qm _) (fun _ _=>rfl),I.vst,I.hst,I.hk,I.hand,I.klim,⟨I.kept.os,rfl,I.kept.output,I.kept.size,I.kept.block⟩,I.own,I.fown,I.sep⟩,hl⟩
theorem Goes.tree{fn:Func}{A:Conf σ->Prop}{c:Conf σ}(G:Goes X fn A c){b:Frame}{w0 w:World}(hb:P.funcs[b.fn]?=some fn)(hk:b.kind=.normal)(hS:zdq P F b cs c w g)(hI:InvC X F w0 M c w)(N:NoV w):
    Tree P (fun g' w'=>NoV w'/\∃c' F',A c'/\zdq P F' b cs c' w' g'/\InvC X F' (WT w0 w'.tape) M c' w'/\Same (Kn (heap c).next (X.cnt (st c))) F F'/\X.cnt (st c)<=X.cnt (st c')/\(heap c).next<=(heap c').next) g w:=by
  refine zk0 (fun g' w' t h=>?_) N fun t=>?_
  . obtain⟨N',c',F',h1,h2,h3,h4⟩:=h;exact⟨N',c',F',h1,zhn N' h2 t,zjH h3 t,h4⟩
  . obtain⟨c',F',w',g',h1,h2,h3,h4,h5⟩:=G.simul b cs F (WT w0 t) (WT w t) M g hb hk (zhn N hS t) (zjH hI t);obtain⟨n,hn⟩:=h2.count;refine⟨n,g',w',hn,zrE h2 N,c',F',h1,h3,?_,h5⟩;have ht:w'.tape=t:=h4.1.kept.tape;rw[ht];exact h4
end
end Go.Proofs.Ytpkkfkebnhgaiaa
