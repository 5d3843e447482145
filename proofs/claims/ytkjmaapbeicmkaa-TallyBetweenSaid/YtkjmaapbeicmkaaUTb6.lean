/-
  Layer 18: the body of TallyBetween that reads.
  No condition beyond those of each law.
-/
import Derived.Test.YtkjmaapbeicmkaaUTally
import Derived.Test.YtkjmaapbeicmkaaUPlay3
import Derived.Test.YtkjmaapbeicmkaaUCo22
import Derived.Below
import Derived.Deep.Slices
set_option maxHeartbeats 40000000
set_option linter.unusedVariables false
set_option linter.unusedSimpArgs false
open List renaming getElem?_eq_some_iff->qa,replicate->qb,range->qc,mem_cons_of_mem->qf,mem_singleton->qg,getElem?_eq_none->qi,mem_cons->qj,getD->qm,mem_range->qn,getElem?_set_ne->qt,getElem?_set_self->qE,map_congr_left->qH,getElem?_range->qI,mem_filterMap->qJ,mem_toArray->qL,map_toArray->qN,length_set->qP
open Nat renaming lt_of_lt_of_le->qd,zero_add->qh,le_refl->qk,add_sub_cancel_left->qD,le_of_eq->qF
open Go.Value renaming slice->qe
open Option.some renaming injEq->ql
open Go.Frame renaming enter->qo
open List.cons renaming injEq->qp
open Classical renaming choose_spec->qq,choose->qw
open Go.Proofs.Ytkjmaapbeicmkaa.Goes renaming folds->qr,endL->qz,again->qA
open Go.Conc renaming G->qs,Good->qO
open Go.RowKit renaming Below->qx
namespace Go.Proofs.Ytkjmaapbeicmkaa
open Go Go.Conc
open Go.RowKit
abbrev mrB:Blk:={ cells:=[hndV 0],elem:=29 }
variable {l lf obs:List (Option Blk)}{q cap k n:Nat}
section
variable {A:Nat->List (Int × UInt64)}{RW:List Row}{GR:Nat}
set_option maxRecDepth 20000 in
theorem zqB{kk hp:Nat}{γ:PG Unit BP×St}{S:St}{ws:List UInt64}{bs:List UInt8}(H:BH (zbK A RW GR) 0 0 kk hp 0 0 ((zbK A RW GR).most+1) γ l q 1000 S ws bs)(hborn:(zbK A RW GR).born 0 γ.1.g ws bs γ.1.ps l)(h0:A 0=[]){mb gb:Nat}(hmb:(mb,mrB)∈RW)(hgb:(gb,tlG)∈RW):
    zeC ((zbK A RW GR).pr 0) kk hp 12 #[] #[.pointer (some ⟨mb,0,none⟩),.pointer (some ⟨gb,0,none⟩),.pointer (some ⟨GR,0,none⟩)] (zaw l q []) S γ.1:=by
  refine⟨Try.f12,_,Try.func12,rfl,rfl,GE.go ?_⟩;show Goes OF _ _ (.run [.code _] ((#[Value.iface 82 (hndV hp),.pointer (some ⟨mb,0,none⟩),.pointer (some ⟨gb,0,none⟩),.pointer (some ⟨GR,0,none⟩)]:Array Value).toList++qb (Try.f12.ntmps - (#[Value.iface 82 (hndV hp),.pointer (some ⟨mb,0,none⟩),.pointer (some ⟨gb,0,none⟩),.pointer (some ⟨GR,0,none⟩)]:Array Value).size) undef) _ _);obtain⟨hRW,ps0,W,hps0,hl0,hW,hT⟩:=hborn;have hT0:RQ A GR W γ.1.ps l:=by
    obtain rfl:ps0=[]:=List.eq_nil_of_length_eq_zero hl0;rw[hps0];refine⟨?_,hT.rh.good,fun i r h=>?_,rfl⟩
    . have:=hT.ti.begin;rw[show tNx A (tbT ([]:List (Option BP))).length 0=none from if_neg (by show ¬0<(A 0).length;rw[h0];decide)]at this
      exact this
    . have:=List.mem_of_getElem? h;simp at this
  have hγS:(γ.1,S)=γ:=by
    have:=H.hS;obtain⟨γ1,γ2⟩:=γ;cases this;rfl
  rw[hγS];clear hps0 hl0 hT;have hq:=H.qle;rw[Try.ntmps12];simp only[zSt,zLc,zLn,qb,zCa,zNa];refine via ?_;refine qr H.ll fun lf hlen hge hrow=>?_;have g5:lf[q]?=some (some (ctsB fun _=>0)):=hrow 0;simp only[zLc,zLn,qh]at hlen ⊢;have hRq:∀x∈RW,x.1<q:=fun x hx=>qd (qa.1 (hRW x hx)).1 H.ll;have hGq:GR<q:=qd (qa.1 hT0.good).1 H.ll;refine GE.wh (fun z tmps h S γ=>∃(x st R:Nat) (l:List (Option Blk)) (q2:Nat) (ws:List UInt64) (bs:List UInt8) (W:Nat->Nat->UInt64) (vl:Nat->UInt64),z=3 - x/\x<=3/\h=zaw l q2 []/\BH (zbK A RW GR) 0 0 kk hp 0 st R γ l q2 800 S ws bs/\Fr RW l/\Wd 1 6 ws W/\RQ A GR W γ.1.ps l/\15 - 5 * x<R/\l[q]?=some (some (ctsB vl))/\(∀c,c<3->vl c<=W 2 c)/\tmps.length=40 /\
      tmps.getD 0 undef=.iface 82 (hndV hp)/\tmps.getD 1 undef=.pointer (some ⟨mb,0,none⟩)/\tmps.getD 2 undef=.pointer (some ⟨gb,0,none⟩)/\tmps.getD 3 undef=.pointer (some ⟨GR,0,none⟩)/\tmps.getD 5 undef=.pointer (some ⟨q,0,none⟩)/\tmps.getD 6 undef=.int .i64 (x:Int)) (m:=3)
    ⟨0,0,_,lf,q+1,ws,bs,W,fun _=>0,rfl,by omega,rfl,(H.ge hge (qF hlen) (d:=1) (qk _) (by omega)).less (by decide),hRW.ge hge,hW,hT0.ge hge,by show 15<100+1;decide,g5,fun c _=>by show(0:UInt64)<=_;exact UInt64.le_iff_toNat_le.2 (Nat.zero_le _),rfl,rfl,rfl,rfl,rfl,rfl,rfl⟩ ?_
  clear H hRW hW hT0 hq g5 hge hrow hlen;rintro z tmps h S γ ih ⟨x,st,R,l,q2,ws,bs,W,vl,rfl,hx,rfl,H,hRW,hW,hT,hR,g5,hvl,hl,f0,f1,f2,f3,f5,f6⟩;have hq:=H.qle;have l5:q<q2:=qd (qa.1 g5).1 H.ll;obtain⟨V,hV,hT⟩:=zbR hl;replace hT:_=([V 0,V 1,V 2,V 3,V 4,V 5,V 6,V 7,V 8,V 9,V 10,V 11,V 12,V 13,V 14,V 15,V 16,V 17,V 18,V 19,V 20,V 21,V 22,V 23,V 24,V 25,V 26,V 27,V 28,V 29,V 30,V 31,V 32,V 33,V 34,V 35,V 36,V 37,V 38,V 39]:List Value):=hT;rw[hV]at f0 f1 f2 f3 f5 f6;subst hT;simp only[f0,f1,f2,f3,f5,f6];clear hV hl;by_cases hx3:x<3
  case neg =>
    obtain rfl:x=3:=by omega
    refine viaD ?_;refine Goes.endG rfl (by simp (disch:=(first|omega|(simp only[zaa,zLc,zLn,zSt,zad]<;>omega)|fail)) only [go_sem,resA,zaC,Try.results12]<;>rfl) ?_
    refine⟨_,_,_,rfl,H.over () ⟨hRW,W,hW,RB.rset h0 hT.ti hT.good hT.only rfl (fun r hr=>by cases hr) hT.z⟩⟩
  have r1:=hRW _ hmb;have r2:=hRW _ hgb;have l1:mb<q2:=by have:=hRq _ hmb;simp only at this;omega
  have l2:gb<q2:=by have:=hRq _ hgb;simp only at this;omega
  refine zgt (And.intro r1 r2) ?_;((first|refine qc1 rfl rfl fun K hK=>?_|refine qc3 rfl rfl fun K hK=>?_);simp (disch:=(first|omega|(simp only[sz]<;>omega)|fail)) only [go_sem];(first|refine⟨_,_,zlw _ 0 H.hm hW,?_⟩|refine⟨_,_,Does.com (zlw _ 0 H.hm hW),?_⟩);(try simp only[go_sem]);with_reducible refine hK _ _ ?_;clear hK K)
  simp only[ctsV,ctsL];refine zgt (And.intro r1 r2) ?_;refine At.folds H.ll fun lf hlen hge hrow=>?_;have g7:lf[q2]?=some (some (ctsB (zfm (W 2)))):=hrow 0;simp only[zLc,zLn,qh]at hlen ⊢;(refine qg1 rfl rfl fun K hK=>?_;simp (disch:=(first|omega|(simp only[sz]<;>omega)|fail)) only [go_sem])
  refine zkk (H.ge hge (qF hlen) (d:=1) (qk _) (by decide)) (by decide) h0 (hRW.ge hge) hW (hT.ge hge) [(q,ctsB vl),(q2,ctsB (zfm (W 2)))] (Fr.cons (hge _ _ g5) (Fr.cons g7 Fr.nil)) (fun y hy=>by
    simp only[zMc,zNm,or_false]at hy;rcases hy with rfl|rfl<;>rfl) (D:=15 - 5 * x) (by omega) hR fun st2 R2 γ2 l3 q3 S3 ws3 bs3 W3 v H3 hRW3 hW3 hT3 hX3 hR3 hv=>?_
  clear g5 g7 hge hlen hrow hRW r1 r2 l1 l2 l5 hT;have g5:=hX3 (q,ctsB vl) (by simp)
  have g7:=hX3 (q2,ctsB (zfm (W 2))) (by simp)
  have r1:=hRW3 _ hmb;have r2:=hRW3 _ hgb;have l7:q2<q3:=qd (qa.1 g7).1 H3.ll;have l1:mb<q3:=qd (qa.1 r1).1 H3.ll;have l2:gb<q3:=qd (qa.1 r2).1 H3.ll;have hq3:=H3.qle
  ((try simp only[go_sem]);with_reducible refine hK _ _ _ _ ?_;clear hK K)
  simp only[ctsV,ctsL];refine zgt (And.intro r1 r2) ?_;((first|refine qc1 rfl rfl fun K hK=>?_|refine qc3 rfl rfl fun K hK=>?_);simp (disch:=(first|omega|(simp only[sz]<;>omega)|fail)) only [go_sem];(first|refine⟨_,_,zlw _ 0 H3.hm hW3,?_⟩|refine⟨_,_,Does.com (zlw _ 0 H3.hm hW3),?_⟩);(try simp only[go_sem]);with_reducible refine hK _ _ ?_;clear hK K)
  simp only[ctsV,ctsL];refine zgt (And.intro r1 r2) ?_;have r3:=hT3.good;have m3:=(qa.1 r3).1;have m5:=(qa.1 g5).1;have l3':GR<q3:=qd m3 H3.ll;have l5:q<q3:=qd m5 H3.ll;have k5:l3[q]?=some (some { cells:=[.int .u64 ((vl 0).toNat:Int),.int .u64 ((vl 1).toNat:Int),.int .u64 ((vl 2).toNat:Int),.int .u64 ((vl 3).toNat:Int),.int .u64 ((vl 4).toNat:Int)],elem:=45 }):=g5;have k7:l3[q2]?=some (some { cells:=[.int .u64 ((zfm (W 2) 0).toNat:Int),.int .u64 ((zfm (W 2) 1).toNat:Int),.int .u64 ((zfm (W 2) 2).toNat:Int),.int .u64 ((zfm (W 2) 3).toNat:Int),.int .u64 ((zfm (W 2) 4).toNat:Int)],elem:=45 }):=g7;have eo:∀(u:Nat->UInt64) c,c<3->zfm u c=u c:=fun u c hc=>if_pos hc;refine zgt (And.intro r3 (And.intro k5 k7)) ?_;((first|refine qc1 rfl rfl fun K hK=>?_|refine qc3 rfl rfl fun K hK=>?_);simp (disch:=(first|omega|(simp only[sz]<;>omega)|fail)) only [go_sem];(first|refine⟨_,_,zf1 _ (zfm (W 2)) v fun c hc=>by rw[eo _ c hc];exact(hv c hc).1,?_⟩|refine⟨_,_,Does.com (zf1 _ (zfm (W 2)) v fun c hc=>by rw[eo _ c hc];exact(hv c hc).1),?_⟩);(try simp only[go_sem]);with_reducible refine hK _ _ ?_;clear hK K)
  refine zgt (And.intro r3 (And.intro k5 k7)) ?_;((first|refine qc1 rfl rfl fun K hK=>?_|refine qc3 rfl rfl fun K hK=>?_);simp (disch:=(first|omega|(simp only[sz]<;>omega)|fail)) only [go_sem];(first|refine⟨_,_,zf1 _ v (zfm (W3 2)) fun c hc=>by rw[eo _ c hc];exact(hv c hc).2,?_⟩|refine⟨_,_,Does.com (zf1 _ v (zfm (W3 2)) fun c hc=>by rw[eo _ c hc];exact(hv c hc).2),?_⟩);(try simp only[go_sem]);with_reducible refine hK _ _ ?_;clear hK K)
  refine zgt (And.intro r3 (And.intro k5 k7)) ?_;((first|refine qc1 rfl rfl fun K hK=>?_|refine qc3 rfl rfl fun K hK=>?_);simp (disch:=(first|omega|(simp only[sz]<;>omega)|fail)) only [go_sem];(first|refine⟨_,_,zf1 _ vl v fun c hc=>UInt64.le_trans (hvl c hc) (hv c hc).1,?_⟩|refine⟨_,_,Does.com (zf1 _ vl v fun c hc=>UInt64.le_trans (hvl c hc) (hv c hc).1),?_⟩);(try simp only[go_sem]);with_reducible refine hK _ _ ?_;clear hK K)
  refine zgt (And.intro r3 (And.intro k5 k7)) ?_;have eg:l3.set GR (some { cells:=[.bool true],elem:=4 })=l3:=by
    apply List.ext_getElem?;intro j;by_cases e:j=GR
    . subst e;rw[qE m3];exact r3.symm
    . rw[qt fun h=>e h.symm]
  rw[eg];refine zgt k5 ?_;have H4:=H3.set g5 (c':=some (ctsB v)) rfl;refine qr (show(l3.set q _).length<=q3 by rw[qP];exact H3.ll) fun l4 hlen hge hrow=>?_
  simp only[zLc,zLn,qh]at hlen ⊢;refine qA (ih (3 - (x+1)) _ _ _ _ (by omega) ⟨x+1,st2,R2,l4,_,ws3,bs3,W3,v,rfl,by omega,rfl,(H4.ge hge (qF hlen) (d:=2) (qk _) (by decide)).less (by decide),(hRW3.row fun y hy=>by have:=hRq y hy;omega).ge hge,hW3,RQ.ge ⟨hT3.ti,by rw[qt (by omega)];exact hT3.good,hT3.only,hT3.z⟩ hge,by omega,hge _ _ (qE m5),fun c hc=>(hv c hc).2,rfl,rfl,rfl,rfl,rfl,rfl,by push_cast;rfl⟩)
end
def LawRunsO{Γ:Type}(Pr:Proto Γ)(f:FuncId)(args:Array Value)(rows:List (Option Blk))(γ:Γ):Prop :=
  ∃g c,Try.prog.funcs[f]?=some g/\g.body=some c/\(∀u∈args,Clo (Kn rows.length 0) u)/\GE MF (SpM Pr) g (fun c γ'=>∃h1 S1,c=.done (.bool true) h1 S1/\KeepC γ'.2 S1/\Idle S1) (.run (zai g c args).1 (zai g c args).2 (zaq rows) []) (γ,[])
theorem LawRunsO.mk{Γ:Type}{Pr:Proto Γ}{f:FuncId}{g:Func}{c:Code}{args:Array Value}{rows:List (Option Blk)}{γ:Γ}(hf:Try.prog.funcs[f]?=some g)(hb:g.body=some c)(hcl:∀u∈args,Clo (Kn rows.length 0) u)(hrun:Goes MF g (fun x=>GE MF (SpM Pr) g (fun c γ'=>∃h1 S1,c=.done (.bool true) h1 S1/\KeepC γ'.2 S1/\Idle S1) x (γ,[])) (.run [.code c] (args.toList++qb (g.ntmps - args.size) undef) (zaq rows) [])):LawRunsO Pr f args rows γ:=⟨g,c,hf,hb,hcl,GE.go hrun⟩
theorem LawRunsO.runs{Γ:Type}{Pr:Proto Γ}{f:FuncId}{fg:Func}{t:Tmp}{args:Array Value}{rows:List (Option Blk)}{γ:Γ}(L:LawRunsO Pr f args rows γ)(hf:Try.prog.funcs[f]?=some fg)(hr:fg.results=#[.tmp t])(hi:Try.prog.inits.idxOf? f=none)(F:Emb)(W:World)(hrow:∀(n:Nat) (b:Blk),rows[n]?=some (some b)->Lies W b (F.blk n) (F.base n))(hlen:rows.length<1000000):
    ∃M last o w' t',runNT Try.prog (M+1) (solo (qs (qo Try.prog f (args.map (ren F)) .normal) []) W) #[]=(.ended o w',t')/\runN Try.prog M (solo (qs (qo Try.prog f (args.map (ren F)) .normal) []) W)=.next last /\
      step Try.prog last=.ended o w'/\qO Try.prog (fun v w'=>v=.bool true/\qx W.heap.size W w') last o w' t':=by
  obtain⟨g,c,h1,h2,hcl,G⟩:=L;rw[hf]at h1;cases h1;have hget:∀(n:Nat) (b:Blk),(zaq rows).get n=some b->rows[n]?=some (some b):=fun n b h=>by
    rw[zaL]at h;cases hr:rows[n]? with
    | none=>rw[hr]at h;cases h
    | some o=>rw[hr]at h;rw[show o=some b from h]
  refine ziU (F:=F) (w00:=W) hf h2 hr hi ⟨fun n b hb=>?_,fun n m b c hb _ _ hro=>?_⟩ (zbm _) (by rw[zaa];unfold VB;omega) (fun n b hb=>(hrow n b (hget n b hb)).1) (fun u hu=>(hcl u hu).stab F) (fun n b hb v hv=>Stab.plain ((hrow n b (hget n b hb)).2.2.1 v hv)) G
  . obtain⟨r1,r2,r3,pre,post,fr,r4,r5⟩:=hrow n b (hget n b hb);refine⟨pre,post,fr,?_,r5,(fun h=>by rw[r1]at h;cases h),(fun h=>by rw[r2]at h;cases h),(fun s h=>by rw[r2]at h;cases h)⟩
    rw[<-zan r3];exact r4
  . have:=(hrow n b (hget n b hb)).1;rw[hro]at this;cases this
def u8N(x:Nat):List Value:=[.int .u8 (x:Int)]
variable {z:Nat->Nat->Int}{w:World}{a:Option Addr}
theorem zqe{len:Nat}(h:RowS [.u8] w a len cap z):∃l:List Nat,l.length=len/\(∀x∈l,x<=255)/\len<=9223372036854775807/\(0<l.length->∃x,a=some x/\∀(i:Nat) (y:Nat),l[i]?=some y->∀(j:Nat) (v:Value),(u8N y)[j]?=some v->w.cell? (x.add (i * 1+j))=some v):=by
  refine⟨(qc len).map fun i=>min (z i 0).toNat 255,by simp,fun x hx=>?_,?_,fun hl=>?_⟩
  . obtain⟨i,_,rfl⟩:=List.mem_map.1 hx;exact Nat.min_le_right _ _
  . rcases h with⟨rfl,rfl,rfl⟩|⟨x,rfl,h1,h2,h3⟩
    . omega
    . have hm:maxLen<=9223372036854775807:=by decide
      omega
  . rcases h with⟨rfl,rfl,rfl⟩|⟨x,rfl,h1,h2,h3⟩
    . simp at hl
    . refine⟨x,rfl,fun i y hy j v hv=>?_⟩;have hi:i<len:=by have:=(qa.1 hy).1;simpa using this
      simp[qI hi]at hy;subst hy
      match j,hv with
      | 0,hv =>
        simp only[u8N,zGz,ql]at hv;have h4:=h3 i hi 0 .u8 rfl;have h5:0<=z i 0/\z i 0<=255:=by simpa[Lit.wf,IntKind.min,IntKind.max,IntKind.signed,IntKind.bits] using h4.2
        rw[<-hv];have e:((min (z i 0).toNat 255:Nat):Int)=z i 0:=by omega
        rw[e];exact h4.1
      | j+1,hv=>simp[u8N]at hv
theorem bnil:zab .nilFunc=true/\Value.cells .nilFunc=#[.nilFunc]:=⟨rfl,rfl⟩
attribute [go_sem] bnil
theorem zo1:AppT Try.prog 32 39 0:=AppT.of (bs:=8) (z:=.nilFunc) (by simp only[go_sem]) (by simp only[go_sem]) (by simp only[go_sem]) (by simp only[go_sem]) (by simp[zab,Value.cells])
abbrev bdV(b:Nat×Array Value):Value:=.func (.func b.1) #[] b.2
def bdB(bds:List (Nat×Array Value)):Blk:=⟨bds.map bdV,39,false,some 1⟩
def BdR(bds:List (Nat×Array Value))(l:List (Option Blk))(v:Value):Prop:=(bds=[]/\v=.slice none 0 0)\/(0<bds.length/\∃nb,v=.slice (some ⟨nb,0,none⟩) bds.length bds.length/\l[nb]?=some (some (bdB bds)))
theorem BdR.nb{bds:List (Nat×Array Value)}{l:List (Option Blk)}{v:Value}(h:BdR bds l v)(h0:0<bds.length):∃nb,v=.slice (some ⟨nb,0,none⟩) bds.length bds.length/\l[nb]?=some (some (bdB bds)):=by
  rcases h with⟨rfl,_⟩|⟨_,h⟩
  . simp at h0
  . exact h
variable {bds:List (Nat × Array Value)}
theorem zt8(j:Nat)(b:Nat×Array Value)(h:bds[j]?=some b):(bdB bds).cells[j]?=some (.func (.func b.1) #[] b.2):=by simp[bdB,h]
variable {y b OB:Blk}
theorem zit{nt:Nat}{B:Blk}(hnt:l[nt]?=some (some B))(hge:Ge (l.set nt none) lf){x:Nat}(h:l[x]?=some (some y))(hne:B≠y):lf[x]?=some (some y):=hge x y (by
  rw[qt fun e=>?_]
  . exact h
  . subst e;rw[hnt]at h;cases h;exact hne rfl)
theorem zpV(h:y.elem≠39\/y.ro=true):bdB bds≠y:=fun e=>by
  subst e;rcases h with h|h
  . exact h rfl
  . cases h
variable {ks:List IntKind}
section
open Go.ChangeShapes Go.WideShapes Go.Deep
variable {H:Type}{enc:TypeId × Value->H}{P:Program}{w:World}{base:Nat}{spare:Nat->Bool}{held:Bool}
def zs4(ks:List IntKind)(w:World)(a:Option Addr)(len cap:Nat)(zs:Nat->(Option Addr×Nat×Nat)×(Nat->Nat->Int)):Prop :=
  (a=none/\len=0/\cap=0)\/∃x,a=some x/\len<=cap/\cap<=maxLen/\∀i,i<len->w.cell? (x.add i)=some (.slice (zs i).1.1 (zs i).1.2.1 (zs i).1.2.2)/\RowS ks w (zs i).1.1 (zs i).1.2.1 (zs i).1.2.2 (zs i).2
theorem zn1{t e e2:TypeId}{fuel:Nat}{len:Nat}{x:DataW H×List MemPlace}(ht:P.underlying t=some (.slice e))(he:P.underlying e=some (.slice e2))(hc:P.cellsOf e=1)(inner:∀(fuel:Nat) (a:Option Addr) (len cap:Nat) (x:DataW H×List MemPlace),DataW.trod enc P w base spare held fuel e [.slice a len cap]=some x->∃z,RowS ks w a len cap z)(h:DataW.trod enc P w base spare held fuel t [.slice a len cap]=some x):∃zs,zs4 ks w a len cap zs:=by
  rcases open_slice1 ht hc h with h0|⟨a',len',cap',m,n,V,D,Pl,hcs,hb,hl,hm,hmm,hx,hi⟩
  . have:=h0.1;simp only[qp,Value.slice.injEq,and_true]at this;obtain⟨rfl,rfl,rfl⟩:=this;exact⟨fun _=>((none,0,0),fun _ _=>0),.inl ⟨rfl,rfl,rfl⟩⟩
  . simp only[qp,Value.slice.injEq,and_true]at hcs;obtain⟨rfl,rfl,rfl⟩:=hcs;have each:∀i,∃y:(Option Addr×Nat×Nat)×(Nat->Nat->Int),i<len->w.cell? (a'.add i)=some (.slice y.1.1 y.1.2.1 y.1.2.2)/\RowS ks w y.1.1 y.1.2.1 y.1.2.2 y.2:=fun i=>by
      by_cases hil:i<len
      . obtain⟨h1,h2⟩:=hi i (by rw[hmm];split<;>omega)
        have h3:∃s n c,V i=.slice s n c:=by
          rcases open_slice he h2 with h0|⟨a2,l2,c2,_,_,_,_,h4,_⟩
          . have:=h0.1;simp only[qp,and_true]at this;exact⟨_,_,_,this⟩
          . simp only[qp,and_true]at h4;exact⟨_,_,_,h4⟩
        obtain⟨s,n',c,h4⟩:=h3;rw[h4]at h1 h2;obtain⟨z,hz⟩:=inner _ _ _ _ _ h2;exact⟨((s,n',c),z),fun _=>⟨h1,hz⟩⟩
      . exact⟨((none,0,0),fun _ _=>0),fun h=>absurd h hil⟩
    exact⟨fun i=>qw (each i),.inr ⟨a',rfl,hl,hm,fun i hil=>qq (each i) hil⟩⟩
end
def zs1(w:World)(F:Emb)(k:Nat)(n:Nat)(b:Blk):Prop:=b.ro=true/\b.grow=none/\(∀v∈b.cells,Stab (Kn k 0) F v)/\∃(pre post:Array Value) (fr:Nat×Nat),w.heap[F.blk n]?=some (.cells (pre++(b.cells.map (ren F)).toArray++post) b.elem fr)/\pre.size=F.base n
theorem Lies.f{F:Emb}{bk bs:Nat}(h:Lies w b bk bs)(h1:F.blk n=bk)(h2:F.base n=bs):zs1 w F k n b:=by
  obtain⟨r1,r2,r3,pre,post,fr,r4,r5⟩:=h;exact⟨r1,r2,fun v hv=>Stab.plain (r3 v hv),pre,post,fr,by rw[h1,<-zan r3];exact r4,by rw[h2];exact r5⟩
theorem LawRunsO.runsF{Γ:Type}{Pr:Proto Γ}{f:FuncId}{fg:Func}{t:Tmp}{args:Array Value}{rows:List (Option Blk)}{γ:Γ}(L:LawRunsO Pr f args rows γ)(hf:Try.prog.funcs[f]?=some fg)(hr:fg.results=#[.tmp t])(hi:Try.prog.inits.idxOf? f=none)(F:Emb)(W:World)(hrow:∀(n:Nat) (b:Blk),rows[n]?=some (some b)->zs1 W F rows.length n b)(hlen:rows.length<1000000):
    ∃M last o w' t',runNT Try.prog (M+1) (solo (qs (qo Try.prog f (args.map (ren F)) .normal) []) W) #[]=(.ended o w',t')/\runN Try.prog M (solo (qs (qo Try.prog f (args.map (ren F)) .normal) []) W)=.next last /\
      step Try.prog last=.ended o w'/\qO Try.prog (fun v w'=>v=.bool true/\qx W.heap.size W w') last o w' t':=by
  obtain⟨g,c,h1,h2,hcl,G⟩:=L;rw[hf]at h1;cases h1;have hget:∀(n:Nat) (b:Blk),(zaq rows).get n=some b->rows[n]?=some (some b):=fun n b h=>by
    rw[zaL]at h;cases hr:rows[n]? with
    | none=>rw[hr]at h;cases h
    | some o=>rw[hr]at h;rw[show o=some b from h]
  refine ziU (F:=F) (w00:=W) hf h2 hr hi ⟨fun n b hb=>?_,fun n m b c hb _ _ hro=>?_⟩ (zbm _) (by rw[zaa];unfold VB;omega) (fun n b hb=>(hrow n b (hget n b hb)).1) (fun u hu=>(hcl u hu).stab F) (fun n b hb v hv=>(hrow n b (hget n b hb)).2.2.1 v hv) G
  . obtain⟨r1,r2,r3,pre,post,fr,r4,r5⟩:=hrow n b (hget n b hb);exact⟨pre,post,fr,r4,r5,(fun h=>by rw[r1]at h;cases h),(fun h=>by rw[r2]at h;cases h),(fun s h=>by rw[r2]at h;cases h)⟩
  . have:=(hrow n b (hget n b hb)).1;rw[hro]at this;cases this
structure zrE {α:Type} (fl:α->List Value) (w:World) (ls:List (List α)) (a:Option Addr) (cap q p:Nat) (sl:Option Addr) (ps:List (Option Addr×Nat)) (ob:Option Blk) (obs:List (Option Blk)) (bk bs:Nat) (bks bss:List Nat):Prop where
  len:ps.length=ls.length/\obs.length=ls.length/\bks.length=ls.length/\bss.length=ls.length
  at0:SlAt q sl
  row0:0<ls.length->sl=some ⟨q,0,none⟩/\∃el,ob=some ⟨(qc ls.length).map (fun i=>qe (ps.getD i (none,0)).1 (ls.getD i []).length (ps.getD i (none,0)).2),el,true,none⟩
  at':∀i,i<ls.length->SlAt (p+i) (ps.getD i (none,0)).1
  row:∀i,i<ls.length->znb fl (p+i) (ps.getD i (none,0)).1 (ls.getD i []) (obs.getD i none)
  ren:∀F:Emb,F.blk q=bk->F.base q=bs->F.slack q=0->ren F (.slice sl ls.length cap)=.slice a ls.length cap
  lies:∀i,i<ls.length->∀b,obs.getD i none=some b->Lies w b (bks.getD i 0) (bss.getD i 0)
  lies0:∀(F:Emb) (k:Nat),F.blk q=bk->F.base q=bs->(∀i,i<ls.length->F.blk (p+i)=bks.getD i 0/\F.base (p+i)=bss.getD i 0/\F.slack (p+i)=0)->p+ls.length<=k->∀b,ob=some b->zs1 w F k q b
theorem zqP{α:Type}(fl:α->List Value){s:Nat}(hs:∀x,(fl x).length=s)(hs0:0<s)(hp:∀x,∀v∈fl x,zab v=true)(ls:List (List α))(a:Option Addr)(cap:Nat)(w:World)(q p:Nat)(za:Nat->Option Addr×Nat)(h0:0<ls.length->∃x,a=some x/\∀i,i<ls.length->w.cell? (x.add i)=some (.slice (za i).1 (ls.getD i []).length (za i).2))(h:∀i,i<ls.length->0<(ls.getD i []).length->∃x,(za i).1=some x/\∀(j:Nat) (y:α),(ls.getD i [])[j]?=some y->∀(m:Nat) (v:Value),(fl y)[m]?=some v->w.cell? (x.add (j * s+m))=some v):
    ∃sl ps ob obs bk bs bks bss,zrE fl w ls a cap q p sl ps ob obs bk bs bks bss:=by
  have each:∀i,∃y:Option Addr×Option Blk×Nat×Nat,i<ls.length->(∀F:Emb,F.blk (p+i)=y.2.2.1->F.base (p+i)=y.2.2.2->F.slack (p+i)=0->ren F (.slice y.1 (ls.getD i []).length (za i).2)=.slice (za i).1 (ls.getD i []).length (za i).2)/\SlAt (p+i) y.1/\znb fl (p+i) y.1 (ls.getD i []) y.2.1/\∀b,y.2.1=some b->Lies w b y.2.2.1 y.2.2.2:=fun i=>by
    by_cases hi:i<ls.length
    . obtain⟨sl,ob,bk,bs,r⟩:=zjl fl hs hs0 hp (ls.getD i []) (za i).1 (za i).2 w (p+i) (h i hi);exact⟨(sl,ob,bk,bs),fun _=>r⟩
    . exact⟨(none,none,0,0),fun h=>absurd h hi⟩
  obtain⟨Y,hY⟩:∃Y:Nat->Option Addr×Option Blk×Nat×Nat,∀i,i<ls.length->(∀F:Emb,F.blk (p+i)=(Y i).2.2.1->F.base (p+i)=(Y i).2.2.2->F.slack (p+i)=0->ren F (.slice (Y i).1 (ls.getD i []).length (za i).2)=.slice (za i).1 (ls.getD i []).length (za i).2)/\SlAt (p+i) (Y i).1/\znb fl (p+i) (Y i).1 (ls.getD i []) (Y i).2.1/\∀b,(Y i).2.1=some b->Lies w b (Y i).2.2.1 (Y i).2.2.2:=⟨fun i=>qw (each i),fun i hi=>qq (each i) hi⟩;have gd:∀{β:Type} (f:Nat->β) (d:β) (i:Nat),i<ls.length->((qc ls.length).map f).getD i d=f i:=fun f d i hi=>by simp[qm,hi]
  have base:∀(sl:Option Addr) (ob:Option Blk) (bk bs:Nat),SlAt q sl->(0<ls.length->sl=some ⟨q,0,none⟩/\∃el,ob=some ⟨(qc ls.length).map (fun i=>qe (Y i).1 (ls.getD i []).length (za i).2),el,true,none⟩)->(∀F:Emb,F.blk q=bk->F.base q=bs->F.slack q=0->ren F (.slice sl ls.length cap)=.slice a ls.length cap) ->
      (∀b,ob=some b->0<ls.length/\∃(el:TypeId) (pre post:Array Value) (fr:Nat×Nat),b=⟨(qc ls.length).map (fun i=>qe (Y i).1 (ls.getD i []).length (za i).2),el,true,none⟩/\w.heap[bk]?=some (.cells (pre++((qc ls.length).map (fun i=>qe (za i).1 (ls.getD i []).length (za i).2)).toArray++post) el fr)/\pre.size=bs) ->
      zrE fl w ls a cap q p sl ((qc ls.length).map fun i=>((Y i).1,(za i).2)) ob ((qc ls.length).map fun i=>(Y i).2.1) bk bs ((qc ls.length).map fun i=>(Y i).2.2.1) ((qc ls.length).map fun i=>(Y i).2.2.2):=fun sl ob bk bs c1 c2 c3 c4=>by
    refine⟨by simp,c1,fun hl=>?_,fun i hi=>?_,fun i hi=>?_,c3,fun i hi b hb=>?_,fun F k f1 f2 f3 hk b hb=>?_⟩
    . obtain⟨e1,el,e2⟩:=c2 hl;refine⟨e1,el,?_⟩;rw[e2];have:(qc ls.length).map (fun i=>qe (Y i).1 (ls.getD i []).length (za i).2)=(qc ls.length).map (fun i=>qe (((qc ls.length).map fun i=>((Y i).1,(za i).2)).getD i (none,0)).1 (ls.getD i []).length (((qc ls.length).map fun i=>((Y i).1,(za i).2)).getD i (none,0)).2):=qH fun i hi=>by
        rw[gd _ _ i (qn.1 hi)]
      rw[this]
    . rw[gd _ _ i hi];exact(hY i hi).2.1
    . rw[gd _ _ i hi,gd _ _ i hi];exact(hY i hi).2.2.1
    . rw[gd _ _ i hi]at hb;rw[gd _ _ i hi,gd _ _ i hi];exact(hY i hi).2.2.2 b hb
    . obtain⟨hl,el,pre,post,fr,rfl,r1,r2⟩:=c4 b hb;refine⟨rfl,rfl,fun v hv=>?_,pre,post,fr,?_,by rw[f2];exact r2⟩
      . obtain⟨i,hi,rfl⟩:=List.mem_map.1 hv;have hi:=qn.1 hi;exact((hY i hi).2.1.clo (show p+i<k by omega)).stab F
      . rw[f1];have:((qc ls.length).map (fun i=>qe (Y i).1 (ls.getD i []).length (za i).2)).map (Go.Proofs.Ytkjmaapbeicmkaa.ren F)=(qc ls.length).map (fun i=>qe (za i).1 (ls.getD i []).length (za i).2):=by
          rw[List.map_map];refine qH fun i hi=>?_;have hi:=qn.1 hi;obtain⟨g1,g2,g3⟩:=f3 i hi;rw[gd _ _ i hi]at g1 g2;exact(hY i hi).1 F g1 g2 g3
        rw[this];exact r1
  by_cases hl:0<ls.length
  . obtain⟨x,rfl,hx⟩:=h0 hl;obtain⟨b,off,spot⟩:=x;have hpos:0<((qc ls.length).map fun i=>qe (za i).1 (ls.getD i []).length (za i).2).length:=by simpa using hl
    have hspot:spot=none:=by
      have:=hx 0 hl;simpa[Addr.add] using World.cell?_spot this
    subst hspot;obtain⟨el,pre,post,fr,r1,r2⟩:=zge (w:=w) (b:=b) (off:=off) hpos (fun i hi=>by
      have hi:i<ls.length:=by simpa using hi
      have:=hx i hi;unfold Addr.add at this;split at this
      . rename_i hz;simp only[hz]at this ⊢;simpa[hz,hl] using this
      . simpa[hi] using this)
    exact⟨_,_,_,_,_,_,_,_,base (some ⟨q,0,none⟩) (some ⟨(qc ls.length).map (fun i=>qe (Y i).1 (ls.getD i []).length (za i).2),el,true,none⟩) b off (fun y hy=>by cases hy;rfl) (fun _=>⟨rfl,el,rfl⟩) (fun F f1 f2 f3=>by simp[adr,f1,f2,f3]) fun c hc=>by
      cases hc;exact⟨hl,el,pre,post,fr,rfl,r1,r2⟩⟩
  . cases a with
    | none=>exact⟨_,_,_,_,_,_,_,_,base none none 0 0 (fun y hy=>by cases hy) (fun h=>absurd h hl) (fun F _ _ _=>by simp) fun b hb=>by cases hb⟩
    | some x =>
      obtain⟨b,off,spot⟩:=x;exact⟨_,_,_,_,_,_,_,_,base (some ⟨q,0,spot⟩) none b off (fun y hy=>by cases hy;rfl) (fun h=>absurd h hl) (fun F f1 f2 f3=>by simp[adr,f1,f2,f3]) fun b hb=>by cases hb⟩
theorem zaT:zmG 5 #[] (.bool true):=(zsl []).pure (by simp) rfl
def tlIn(obs:List (Option Blk))(n:Nat):List Row:=(qc n).filterMap fun i=>(obs.getD i none).map fun b=>(2+i,b)
theorem zq1{i:Nat}(hi:i<n)(h:obs.getD i none=some b):(2+i,b)∈tlIn obs n:=qJ.2 ⟨i,qn.2 hi,by rw[h];rfl⟩
theorem zn5{x:Row}(h:x∈tlIn obs n):∃i,i<n/\obs.getD i none=some x.2/\x.1=2+i:=by
  obtain⟨i,hi,h1⟩:=qJ.1 h;cases ho:obs.getD i none with
  | none=>rw[ho]at h1;cases h1
  | some b=>rw[ho]at h1;cases h1;exact⟨i,qn.1 hi,ho,rfl⟩
abbrev zsL(n cap:Nat):Blk:={ cells:=[.slice (some ⟨0,0,none⟩) n cap],elem:=22 }
def tlRW(n cap:Nat)(OB:Blk)(obs:List (Option Blk)):List Row:=(n+2,zsL n cap)::(n+3,tlG)::(0,OB)::tlIn obs n
theorem zn8(h0:OB.ro=true)(hro:∀i b,obs.getD i none=some b->b.ro=true):∀x∈tlRW n cap OB obs,zc0 x.2=false/\(x.2.elem≠39\/x.2.ro=true):=fun x hx=>by
  unfold tlRW at hx;rcases qj.1 hx with rfl|hx
  . exact⟨rfl,.inl (by show(22:Nat)≠39;decide)⟩
  rcases qj.1 hx with rfl|hx
  . exact⟨rfl,.inl (by show(28:Nat)≠39;decide)⟩
  rcases qj.1 hx with rfl|hx
  . exact⟨by unfold zc0;simp[h0],.inr h0⟩
  . obtain⟨i,_,h1,_⟩:=zn5 hx;have:=hro i _ h1;exact⟨by unfold zc0;simp[this],.inr this⟩
def obF1:Option Blk->List Row
  | some B=>[(1,B)]
  | none=>[]
theorem zsq :hndV k=.pointer (some ⟨VB+k,0,none⟩):=rfl
def tbA(ls:List (List zcZ))(i:Nat):List (Int×UInt64):=if i=0 then [] else za8 (ls.getD (i - 1) [])
def tbRW(n cap:Nat)(OB:Blk)(obs:List (Option Blk)):List Row:=(n+4,mrB)::tlRW n cap OB obs
def b1(n:Nat):Nat×Array Value:=(12,#[.pointer (some ⟨n+4,0,none⟩),.pointer (some ⟨n+3,0,none⟩),.pointer (some ⟨n+5,0,none⟩)])
def b2(n:Nat):Nat×Array Value:=(15,#[.pointer (some ⟨n+2,0,none⟩),.pointer (some ⟨n+3,0,none⟩)])
def zgL(n m:Nat):List (Nat×Array Value):=b1 n::qb m (b2 n)
def tbBd(n m:Nat):Blk:=⟨(zgL n m).map bdV,39,false,some (if m=0 then 0 else 1)⟩
theorem zoY(h0:OB.ro=true)(hro:∀i b,obs.getD i none=some b->b.ro=true):∀x∈tbRW n cap OB obs,zc0 x.2=false/\(x.2.elem≠39\/x.2.ro=true):=fun x hx=>by
  unfold tbRW at hx;rcases qj.1 hx with rfl|hx
  . exact⟨rfl,.inl (by show(29:Nat)≠39;decide)⟩
  . exact zn8 h0 hro x hx
theorem zqn{nb:Nat}{ys:List (Option Blk)}(hlq:lf.length<=q)(h:lf[nb]?=some (some (tbBd n 0))):zbe (zaw lf q ys) 1 (.slice (some ⟨nb,0,none⟩) 1 1)=some ((zgL n 0).map bdV):=by
  have hl:=(qa.1 h).1;rw[zfS (by decide) (b:=tbBd n 0) (by simp only;rw[zeU (by omega),h];rfl) rfl (by simp[tbBd,zgL])]
  rfl
def tbPr(ls:List (List zcZ))(n cap:Nat)(OB:Blk)(obs:List (Option Blk)):Proto (PG Unit BP):=(zbK (tbA ls) (tbRW n cap OB obs) (n+5)).pr 0
def tbγ:PG Unit BP:=⟨(),[],[],(0,0),0,fun _=>none,10000⟩
theorem zqI{x:zcZ}:∀c:Nat,c<3->∀y∈actT x,y.1=(c:Int)->y.2=1:=fun c hc y hy e=>by
  unfold actT at hy;split at hy
  . simp only[zMc,zNm,or_false]at hy;rcases hy with rfl|rfl|rfl
    . rfl
    . rfl
    . exact absurd e (by omega)
  split at hy
  . simp only[zMc,zNm,or_false]at hy;rcases hy with rfl|rfl|rfl
    . rfl
    . exact absurd e (by omega)
    . exact absurd e (by omega)
  split at hy
  . obtain rfl:=qg.1 hy;rfl
  . obtain rfl:=qg.1 hy;exact absurd e (by omega)
theorem tbTA{ls:List (List zcZ)}(h4:ls.length<=4)(h10:∀i,i<ls.length->(ls.getD i []).length<=10):TA (tbA ls):=by
  have hl:∀i,(tbA ls i).length<=100:=fun i=>by
    unfold tbA;split
    . decide
    . have h1:=zh8 (ls.getD (i - 1) []);by_cases hj:i - 1<ls.length
      . have:=h10 _ hj;omega
      . have e:ls.getD (i - 1) []=[]:=by simp[qm,qi (show ls.length<=i - 1 by omega)]
        rw[e];simp[za8]
  refine⟨fun i x hx=>?_,fun c hc i x hx=>?_,hl,rfl,fun i hi=>?_⟩
  . unfold tbA at hx;split at hx
    . cases hx
    . exact zpN _ x hx
  . unfold tbA at hx;split at hx
    . cases hx
    . obtain⟨y,_,hy⟩:=List.mem_flatMap.1 hx;exact zqI c hc x hy
  . unfold tbA;split
    . rfl
    . have e:ls.getD (i - 1) []=[]:=by simp[qm,qi (show ls.length<=i - 1 by omega)]
      rw[e];rfl
set_option maxRecDepth 20000 in
theorem ztT(ls:List (List zcZ))(sl0:Option Addr)(cap0:Nat)(ps:List (Option Addr×Nat))(ob:Option Blk)(obs:List (Option Blk))(OB:Blk)(sl1:Option Addr)(rc:Nat)(rw':List Nat)(ob1:Option Blk)(hobs:obs.length=ls.length)(hOB:0<ls.length->ob=some OB)(hat0:SlAt 0 sl0)(hrow0:0<ls.length->sl0=some ⟨0,0,none⟩/\OB.cells=(qc ls.length).map (fun i=>qe (ps.getD i (none,0)).1 (ls.getD i []).length (ps.getD i (none,0)).2)/\OB.ro=true)(hrow:∀i,i<ls.length->znb actC (2+i) (ps.getD i (none,0)).1 (ls.getD i []) (obs.getD i none))(hro:∀i b,obs.getD i none=some b->b.ro=true)(hat1:SlAt 1 sl1)(hrow1:znb u8N 1 sl1 rw' ob1)(hro1:∀b,ob1=some b->b.ro=true)(h6:ls.length<=4)(hlens:∀i,(ls.getD i []).length<=9223372036854775807)(hlen1:rw'.length<=9223372036854775807)(h255:∀x∈rw',x<=255):
    LawRunsO (tbPr ls ls.length cap0 OB obs) 4 #[.slice sl0 ls.length cap0,.slice sl1 rw'.length rc] (ob::ob1::obs) tbγ:=by
  refine LawRunsO.mk Try.func4 rfl ?_ ?_
  . intro u hu;simp only[qL,zMc,zNm,or_false]at hu;rcases hu with rfl|rfl
    . exact hat0.clo (by simp)
    . exact hat1.clo (by simp)
  rw[Try.ntmps4];simp only[zSt,zLc,zLn,qb,zCa,zNa];refine Goes.list fun lf hlf hge=>?_;have hlf:lf.length=ls.length+2:=by rw[hlf];simp[hobs]
  have e2:(ob::ob1::obs).length=ls.length+2:=by simp[hobs]
  rw[e2];obtain⟨n,hn⟩:∃n,n=ls.length:=⟨_,rfl⟩;rw[<-hn]at hobs hOB hrow0 hrow h6 hlf ⊢;have rOB:0<n->lf[0]?=some (some OB):=fun h=>hge 0 _ (by rw[hOB h];rfl)
  have rR:∀B,ob1=some B->lf[1]?=some (some B):=fun B h=>hge 1 _ (by rw[h];rfl)
  have rI:∀x∈tlIn obs n,lf[x.1]?=some (some x.2):=fun x hx=>by
    obtain⟨i,hi,h1,h2⟩:=zn5 hx;refine hge x.1 x.2 ?_;rw[h2,show 2+i=i+1+1 by omega]
    simp only[zGs];have:obs[i]?=some obs[i]:=List.getElem?_eq_getElem (by omega)
    simp only[qm,this,Option.getD_some]at h1;rw[this,h1]
  by_cases h0:n=0
  . refine via ?_;((first|refine qp1 rfl rfl fun K hK=>?_|refine qp3 rfl rfl fun K hK=>?_);simp (disch:=(first|omega|(simp only[sz]<;>omega)|fail)) only [go_sem];(first|refine⟨_,_,(qpd fun w=>zaT),?_⟩|refine⟨_,_,(qpu fun w=>zaT),?_⟩|refine⟨_,_,.com (qpd fun w=>zaT),?_⟩|refine⟨_,_,.com (qpu fun w=>zaT),?_⟩);(try simp only[go_sem]);with_reducible refine hK _ _ ?_;clear hK K)
    refine via ?_;refine qz rfl (by simp (disch:=(first|omega|(simp only[zaa,zLc,zLn,zSt,zad]<;>omega)|fail)) only [go_sem,resA,zaC,Try.results4]<;>rfl) ?_ ?_
    . exact KeepC.refl _
    . exact Idle.nil
  by_cases h200:rw'.length > 200
  . refine via ?_;((first|refine qp1 rfl rfl fun K hK=>?_|refine qp3 rfl rfl fun K hK=>?_);simp (disch:=(first|omega|(simp only[sz]<;>omega)|fail)) only [go_sem];(first|refine⟨_,_,(qpd fun w=>zaT),?_⟩|refine⟨_,_,(qpu fun w=>zaT),?_⟩|refine⟨_,_,.com (qpd fun w=>zaT),?_⟩|refine⟨_,_,.com (qpu fun w=>zaT),?_⟩);(try simp only[go_sem]);with_reducible refine hK _ _ ?_;clear hK K)
    refine via ?_;refine qz rfl (by simp (disch:=(first|omega|(simp only[zaa,zLc,zLn,zSt,zad]<;>omega)|fail)) only [go_sem,resA,zaC,Try.results4]<;>rfl) ?_ ?_
    . exact KeepC.refl _
    . exact Idle.nil
  obtain⟨rfl,hOBc,hOBr⟩:=hrow0 (by omega)
  have hcell:∀i,i<n->OB.cells[i]?=some (.slice (ps.getD i (none,0)).1 (ls.getD i []).length (ps.getD i (none,0)).2):=fun i hi=>by rw[hOBc];simp[hi]
  refine via ?_;refine qr (by omega) fun lg hlg hge2 hrow2=>?_
  have rB:lg[n+2]?=some (some (zsL n cap0)):=hrow2 0;replace rOB:=hge2 _ _ (rOB (by omega))
  have rR:∀B,ob1=some B->lg[1]?=some (some B):=fun B h=>hge2 _ _ (rR B h);have rI:∀x∈tlIn obs n,lg[x.1]?=some (some x.2):=fun x hx=>hge2 _ _ (rI x hx);simp only[zLc,zLn,qh]at hlg ⊢;clear hge hge2 hrow2;refine GE.wh (fun z tmps h S γ=>∃i:Nat,z=n - i/\i<=n/\h=zaw lg (n+3) []/\S=[]/\γ=(tbγ,[])/\(∀j,j<i->(ls.getD j []).length<=10)/\tmps.length=66 /\
      tmps.getD 1 undef=.slice sl1 rw'.length rc/\tmps.getD 2 undef=.pointer (some ⟨n+2,0,none⟩)/\tmps.getD 5 undef=.int .i64 (i:Int)) (m:=n)
    ⟨0,rfl,by omega,rfl,rfl,rfl,fun j hj=>by omega,rfl,rfl,rfl,rfl⟩ ?_
  rintro z tmps h S γ ih ⟨i,rfl,hi,rfl,rfl,rfl,h10,hl,f1,f2,f5⟩;obtain⟨V,hV,hT⟩:=zbR hl;replace hT:_=([V 0,V 1,V 2,V 3,V 4,V 5,V 6,V 7,V 8,V 9,V 10,V 11,V 12,V 13,V 14,V 15,V 16,V 17,V 18,V 19,V 20,V 21,V 22,V 23,V 24,V 25,V 26,V 27,V 28,V 29,V 30,V 31,V 32,V 33,V 34,V 35,V 36,V 37,V 38,V 39,V 40,V 41,V 42,V 43,V 44,V 45,V 46,V 47,V 48,V 49,V 50,V 51,V 52,V 53,V 54,V 55,V 56,V 57,V 58,V 59,V 60,V 61,V 62,V 63,V 64,V 65]:List Value):=hT;rw[hV]at f1 f2 f5;subst hT;simp only[f1,f2,f5];clear hV hl;by_cases hin:i<n
  case pos =>
    have hc:OB.cells[i * 1]?=some (.slice (ps.getD i (none,0)).1 (ls.getD i []).length (ps.getD i (none,0)).2):=by rw[Nat.mul_one];exact hcell i hin
    by_cases hl10:(ls.getD i []).length<=10
    . refine viaF (And.intro rB (And.intro rOB hc)) ?_;refine qA (ih (n - (i+1)) _ _ _ _ (by omega) ⟨i+1,rfl,by omega,rfl,rfl,rfl,fun j hj=>?_,rfl,rfl,rfl,by push_cast;rfl⟩)
      by_cases e:j=i
      . rw[e];exact hl10
      . exact h10 j (by omega)
    . refine viaF (And.intro rB (And.intro rOB hc)) ?_;((first|refine qp1 rfl rfl fun K hK=>?_|refine qp3 rfl rfl fun K hK=>?_);simp (disch:=(first|omega|(simp only[sz]<;>omega)|fail)) only [go_sem];(first|refine⟨_,_,(qpd fun w=>zaT),?_⟩|refine⟨_,_,(qpu fun w=>zaT),?_⟩|refine⟨_,_,.com (qpd fun w=>zaT),?_⟩|refine⟨_,_,.com (qpu fun w=>zaT),?_⟩);(try simp only[go_sem]);with_reducible refine hK _ _ ?_;clear hK K)
      refine via ?_;refine qz rfl (by simp (disch:=(first|omega|(simp only[zaa,zLc,zLn,zSt,zad]<;>omega)|fail)) only [go_sem,resA,zaC,Try.results4]<;>rfl) ?_ ?_
      . exact KeepC.refl _
      . exact Idle.nil
  obtain rfl:i=n:=by omega
  clear ih;refine viaF rB ?_;((first|refine qc1 rfl rfl fun K hK=>?_|refine qc3 rfl rfl fun K hK=>?_);simp (disch:=(first|omega|(simp only[sz]<;>omega)|fail)) only [go_sem];(first|refine⟨_,_,zeA [] 1 6 (by decide) (by decide) (by decide) (by decide) (by decide),?_⟩|refine⟨_,_,Does.com (zeA [] 1 6 (by decide) (by decide) (by decide) (by decide) (by decide)),?_⟩);(try simp only[go_sem]);with_reducible refine hK _ _ ?_;clear hK K)
  refine via ?_;((first|refine qn1 rfl rfl rfl fun K hK=>?_|refine qn3 rfl rfl rfl fun K hK=>?_|refine qt1 rfl rfl rfl fun K hK=>?_|refine qt3 rfl rfl rfl fun K hK=>?_);simp (disch:=(first|omega|(simp only[sz]<;>omega)|fail)) only [go_sem];simp only[hndV];simp only[<-zsq];with_reducible refine hK _ _ ?_;clear hK K)
  refine via ?_;refine qr (by omega) fun lh hlh hge3 hrow3=>?_
  simp only[zLc,zLn,qh]at hlh ⊢;have rG:lh[i+5]?=some (some znh):=hrow3 2;have rF:lh[i+6]?=some (some ⟨[bdV (b1 i)],39,false,some 0⟩):=hrow3 3;have hRWl:Fr (tbRW i cap0 OB obs) lh:=Fr.cons (hrow3 1) (Fr.cons (hge3 _ _ rB) (Fr.cons (hrow3 0) (Fr.cons (hge3 _ _ rOB) fun x hx=>hge3 _ _ (rI x hx))));have rR2:∀B,ob1=some B->lh[1]?=some (some B):=fun B h=>hge3 _ _ (rR B h);have hcl:=zoY (n:=i) (cap:=cap0) (OB:=OB) (obs:=obs) hOBr hro;have q0:i+2<i+3:=by omega
  refine GE.wh (fun z tmps h S γ=>∃(m:Nat) (lf:List (Option Blk)) (q:Nat) (v:Value),z=i - m/\m<=i/\h=zaw lf q []/\S=[.mem (qb (gb 1 6 19) 0) (qb 64 0)]/\γ=(tbγ,[])/\lf.length<=q/\i+7<=q/\q<=100+10 * m/\Fr (tbRW i cap0 OB obs) lf/\lf[i+5]?=some (some znh)/\(∀B,ob1=some B->lf[1]?=some (some B))/\(∃nb,v=.slice (some ⟨nb,0,none⟩) (m+1) (m+1)/\lf[nb]?=some (some (tbBd i m)))/\tmps.length=66 /\
      tmps.getD 1 undef=.slice sl1 rw'.length rc/\tmps.getD 2 undef=.pointer (some ⟨i+2,0,none⟩)/\tmps.getD 6 undef=.pointer (some ⟨i+3,0,none⟩)/\tmps.getD 7 undef=.pointer (some ⟨i+4,0,none⟩)/\tmps.getD 8 undef=.pointer (some ⟨i+5,0,none⟩)/\tmps.getD 9 undef=v/\tmps.getD 10 undef=.int .i64 (m:Int)) (m:=i)
    ⟨0,lh,_,_,rfl,by omega,rfl,rfl,rfl,by omega,by omega,by omega,hRWl,rG,rR2,⟨i+6,rfl,rF⟩,rfl,rfl,rfl,rfl,rfl,rfl,rfl,rfl⟩ ?_
  clear hRWl rR2 hrow3 hge3 hlh rR rI rB rOB hlg rG rF;rintro z tmps h S γ ih ⟨m,lf,q,v,rfl,hm,rfl,rfl,rfl,hlq,hq5,hq,hRW,rG,rR,⟨nb,rfl,hnb⟩,hl,f1,f2,f6,f7,f8,f9,f10⟩;obtain⟨V,hV,hT⟩:=zbR hl;replace hT:_=([V 0,V 1,V 2,V 3,V 4,V 5,V 6,V 7,V 8,V 9,V 10,V 11,V 12,V 13,V 14,V 15,V 16,V 17,V 18,V 19,V 20,V 21,V 22,V 23,V 24,V 25,V 26,V 27,V 28,V 29,V 30,V 31,V 32,V 33,V 34,V 35,V 36,V 37,V 38,V 39,V 40,V 41,V 42,V 43,V 44,V 45,V 46,V 47,V 48,V 49,V 50,V 51,V 52,V 53,V 54,V 55,V 56,V 57,V 58,V 59,V 60,V 61,V 62,V 63,V 64,V 65]:List Value):=hT;rw[hV]at f1 f2 f6 f7 f8 f9 f10;subst hT;simp only[f1,f2,f6,f7,f8,f9,f10];clear hV hl;have rB:=hRW (i+2,zsL i cap0) (by simp[tbRW,tlRW])
  have qB:i+2<q:=by omega
  have hnbl:=(qa.1 hnb).1;have hnbq:nb<q:=by omega
  by_cases hmi:m<i
  case pos =>
    refine viaF rB ?_;by_cases hm0:m=0
    . subst hm0;(refine At.appE rfl rfl rfl rfl (zoI zo1 (zqn hlq hnb) (zfv 0 rfl rfl (by decide)) (by decide) (by decide) (fun x hx=>by cases hx;exact⟨tbBd i 0,by rw[zeU hnbq,hnb];rfl,rfl⟩)) (by simp (disch:=(first|omega|(simp only[sz]<;>omega)|fail)) only [go_sem];(try simp only[sz]);unfold VB;omega) fun K hK=>?_;simp (disch:=(first|omega|(simp only[sz]<;>omega)|fail)) only [go_sem];with_reducible refine hK _ _ ?_;clear hK K)
      refine via ?_;refine qr hlq fun lg hlg hge hrow=>?_;simp only[zLc,zLn,qh,Nat.reduceAdd]at hlg ⊢;refine qA (ih (i - 1) _ _ _ _ (by omega) ⟨1,lg,q+2,_,rfl,by omega,rfl,rfl,rfl,by omega,by omega,by omega,hRW.ge hge,hge _ _ rG,fun B hB=>hge _ _ (rR B hB),⟨q+1,rfl,hrow 1⟩,rfl,rfl,rfl,rfl,rfl,rfl,rfl,rfl⟩)
    . have ebd:tbBd i m=bdB (zgL i m):=by unfold tbBd bdB;rw[if_neg hm0]
      rw[ebd]at hnb;have hkg:∀ys,(zaw lf q ys).get nb=some ⟨(zgL i m).map bdV,39,false,some 1⟩:=fun ys=>by
        rw[zeU (by omega),hnb];rfl
      (refine At.appE rfl rfl rfl rfl (zmc zo1 (hkg _) rfl rfl (by simp[zgL]) (zfv 0 rfl rfl (by decide)) rfl (by decide) (by omega)) (by simp (disch:=(first|omega|(simp only[sz]<;>omega)|fail)) only [go_sem];(try simp only[sz]);unfold VB;omega) fun K hK=>?_;simp (disch:=(first|omega|(simp only[sz]<;>omega)|fail)) only [go_sem];with_reducible refine hK _ _ ?_;clear hK K);refine via ?_
      refine qr (by rw[qP];exact hlq) fun lg hlg hge hrow=>?_
      simp only[zLc,zLn,qh,Nat.reduceAdd]at hlg ⊢;refine qA (ih (i - (m+1)) _ _ _ _ (by omega) ⟨m+1,lg,q+2,_,rfl,by omega,rfl,rfl,rfl,by omega,by omega,by omega,fun x hx=>zit hnb hge (hRW x hx) (zpV (hcl x hx).2),zit hnb hge rG (zpV (.inl (by show(4:Nat)≠39;decide))),fun B hB=>zit hnb hge (rR B hB) (zpV (.inr (hro1 B hB))),⟨q+1,rfl,?_⟩,rfl,rfl,rfl,rfl,rfl,rfl,rfl,by push_cast;rfl⟩)
      refine(hrow 1).trans ?_;unfold tbBd zgL;rw[List.replicate_succ',if_neg (by omega)]
      simp[bdV,b2]
  obtain rfl:m=i:=by omega
  clear ih;have ebd:tbBd m m=bdB (zgL m m):=by unfold tbBd bdB;rw[if_neg (by omega)]
  rw[ebd]at hnb;obtain⟨bds,hbds⟩:∃bds,bds=zgL m m:=⟨_,rfl⟩;rw[<-hbds]at hnb;have hbl:bds.length=m+1:=by rw[hbds];simp[zgL]
  rw[<-hbl];have rM:=hRW (m+4,mrB) (by simp[tbRW])
  have qM:m+4<q:=by omega
  refine viaF (And.intro rB rM) ?_;have hWz:Wd 1 6 (qb (gb 1 6 19) 0) (fun _ _=>0):=Wd.zero (qk 1) (qk _);have hcold:∀x∈(nb,bdB bds)::obF1 ob1,zc0 x.2=false:=fun x hx=>by
    rcases qj.1 hx with rfl|hx
    . rfl
    . cases ob1 with
      | none=>cases hx
      | some B =>
        obtain rfl:x=(1,B):=qg.1 hx;unfold zc0;simp[hro1 B rfl]
  have hPI:PI (zbK (tbA ls) (tbRW m cap0 OB obs) (m+5)) 0 1 [.mem (qb (gb 1 6 19) 0) (qb 64 0)] (tbγ,[]) lf q 1000000 [.mem (qb (gb 1 6 19) 0) (qb 64 0)] (qb (gb 1 6 19) 0) (qb 64 0) ((nb,bdB bds)::obF1 ob1):=by
    refine⟨KeepC.more rfl (KeepC.refl _),rfl,⟨hRW,_,hWz,⟨⟨fun _ _ h=>by simp[tbγ]at h,fun c hc=>rfl⟩,rG,fun _ _ h=>by simp[tbγ]at h⟩⟩,hlq,?_,List.nodup_nil,?_,fun x hx=>?_,fun k hk=>(by cases hk),fun i k h=>by simp[tbγ]at h,fun k hk=>rfl,fun x a b c e f h=>?_,fun j hj hjp=>by omega,by decide,by simp⟩
    . show q+1000 * 10000+1000000<=500000000;omega
    . refine Fr.cons hnb ?_;cases ob1 with
      | none=>exact Fr.nil
      | some B=>exact Fr.cons (rR B rfl) Fr.nil
    . rcases qj.1 hx with rfl|hx
      . rfl
      . cases ob1 with
        | none=>cases hx
        | some B =>
          obtain rfl:x=(1,B):=qg.1 hx;show(_ && !B.ro)=false;rw[hro1 B rfl,Bool.not_true,Bool.and_false]
    . match x,h with
      | 0,h=>cases h
      | x+1,h=>simp at h
  have hA:=tbTA (ls:=ls) (by omega) fun j hj=>h10 j (by omega)
  (refine qg1 rfl rfl fun K hK=>?_;simp (disch:=(first|omega|(simp only[sz]<;>omega)|fail)) only [go_sem]);refine zmX (tbOk hA fun x hx=>(hcl x hx).1) hPI rfl hcold bds (nb:=nb) (BB:=bdB bds) List.mem_cons_self zt8 rw' h255 (fun hne=>?_) 100 (qk 100) (by decide) (by omega) (by omega) (by omega) (by show 2 * (bds.length+rw'.length+bds.length * (100+1))<=10000;omega) (qk _) (fun j b hb kk hp γ' l' q' S' ws' bs' hB' hlen' hnone hborn=>?_) fun γ' l' q' S' ws' bs' hE=>?_
  . obtain⟨h1,el,h2⟩:=hrow1 (List.length_pos_iff.2 hne);refine⟨1,⟨rowC u8N rw',el,true,none⟩,h1,?_,fun j x hj=>?_⟩
    . rw[h2];exact qf _ (qg.2 rfl)
    . have:=zlO (fl:=u8N) (s:=1) (fun _=>rfl) (j:=0) hj (by decide)
      simpa[u8N] using this
  . have hj:=(qa.1 hb).1;rw[hbds]at hb;unfold zgL at hb;cases j with
    | zero =>
      obtain rfl:b1 m=b:=by simpa using hb
      exact zqB hB' hborn rfl (by simp[tbRW]) (by simp[tbRW,tlRW])
    | succ j =>
      rw[List.getElem?_cons_succ,List.getElem?_replicate,if_pos (by omega)]at hb
      cases hb;refine ztC hB' hborn (by omega) (hA.l _) (ls.getD j []) ?_ (h10 j (by omega)) (ab:=m+2) (gb:=m+3) (n:=m) (cap:=cap0) (OB:=OB) (s:=(ps.getD j (none,0)).1) (cp:=(ps.getD j (none,0)).2) (by omega) (by omega) (by simp[tbRW,tlRW]) (by simp[tbRW,tlRW]) (by simp[tbRW,tlRW]) (hcell j (by omega)) fun hpos=>?_
      . unfold tbA;rw[if_neg (by omega),Nat.add_sub_cancel]
      obtain⟨k1,el,k2⟩:=hrow j (by omega) hpos
      exact⟨2+j,_,k1,by unfold tbRW tlRW;exact qf _ (qf _ (qf _ (qf _ (zq1 (by omega) k2)))),rfl⟩
  ((try simp only[go_sem]);with_reducible refine hK _ _ _ _ ?_;clear hK K)
  obtain⟨hRW',W,hW,hT⟩:=hE.inv;have r1:l'[m+5]?=some (some znh):=hT.rh.good;have l1:m+5<q':=qd (qa.1 r1).1 hE.ll;refine viaF r1 ?_;((first|refine qp1 rfl rfl fun K hK=>?_|refine qp3 rfl rfl fun K hK=>?_);simp (disch:=(first|omega|(simp only[sz]<;>omega)|fail)) only [go_sem];(first|refine⟨_,_,(qpd fun w=>zaT),?_⟩|refine⟨_,_,(qpu fun w=>zaT),?_⟩|refine⟨_,_,.com (qpd fun w=>zaT),?_⟩|refine⟨_,_,.com (qpu fun w=>zaT),?_⟩);(try simp only[go_sem]);with_reducible refine hK _ _ ?_;clear hK K)
  refine via ?_;refine qz rfl (by simp (disch:=(first|omega|(simp only[zaa,zLc,zLn,zSt,zad]<;>omega)|fail)) only [go_sem,resA,zaC,Try.results4]<;>rfl) ?_ ?_
  . exact hE.keep
  . exact hE.busy
theorem ztR(ls:List (List zcZ))(n cap0 c0 m rc:Nat)(sl0 sl1:Option Addr)(OB:Blk)(obs:List (Option Blk))(h6:4<n)(hn:n<=9223372036854775807)(hat0:SlAt 0 sl0)(hat1:SlAt 1 sl1):
    LawRunsO (tbPr ls n c0 OB obs) 4 #[.slice sl0 n cap0,.slice sl1 m rc] [none,none] tbγ:=by
  refine LawRunsO.mk Try.func4 rfl ?_ ?_
  . intro u hu;simp only[qL,zMc,zNm,or_false]at hu;rcases hu with rfl|rfl
    . exact hat0.clo (by simp)
    . exact hat1.clo (by simp)
  rw[Try.ntmps4];simp only[zSt,zLc,zLn,qb,zCa,zNa];refine via ?_;((first|refine qp1 rfl rfl fun K hK=>?_|refine qp3 rfl rfl fun K hK=>?_);simp (disch:=(first|omega|(simp only[sz]<;>omega)|fail)) only [go_sem];(first|refine⟨_,_,(qpd fun w=>zaT),?_⟩|refine⟨_,_,(qpu fun w=>zaT),?_⟩|refine⟨_,_,.com (qpd fun w=>zaT),?_⟩|refine⟨_,_,.com (qpu fun w=>zaT),?_⟩);(try simp only[go_sem]);with_reducible refine hK _ _ ?_;clear hK K)
  refine via ?_;refine qz rfl (by simp (disch:=(first|omega|(simp only[zaa,zLc,zLn,zSt,zad]<;>omega)|fail)) only [go_sem,resA,zaC,Try.results4]<;>rfl) ?_ ?_
  . exact KeepC.refl _
  . exact Idle.nil
theorem ztU{len:Nat}(h:RowS [.u8,.i64,.i64] w a len cap z):∃l:List zcZ,l.length=len/\(0<len->∃x,a=some x/\∀(i:Nat) (y:zcZ),l[i]?=some y->∀(j:Nat) (v:Value),(actC y)[j]?=some v->w.cell? (x.add (i * 3+j))=some v):=by
  rcases h with⟨rfl,rfl,rfl⟩|⟨x,rfl,h1,h2,h3⟩
  . exact⟨[],rfl,fun h=>by omega⟩
  . refine⟨(qc len).map fun i=>⟨(z i 0).toNat,z i 1,z i 2⟩,by simp,fun _=>⟨x,rfl,fun i y hy j v hv=>?_⟩⟩
    have hi:i<len:=by have:=(qa.1 hy).1;simpa using this
    simp[qI hi]at hy;subst hy
    match j,hv with
    | 0,hv =>
      simp only[actC,zGz,ql]at hv;have h4:=h3 i hi 0 .u8 rfl;have h5:0<=z i 0/\z i 0<=255:=by simpa[Lit.wf,IntKind.min,IntKind.max,IntKind.signed,IntKind.bits] using h4.2
      rw[<-hv];have e:(((z i 0).toNat:Nat):Int)=z i 0:=by omega
      rw[e];exact h4.1
    | 1,hv =>
      simp only[actC,zGz,zGs,ql]at hv;rw[<-hv];exact(h3 i hi 1 .i64 rfl).1
    | 2,hv =>
      simp only[actC,zGz,zGs,ql]at hv;rw[<-hv];exact(h3 i hi 2 .i64 rfl).1
    | j+3,hv=>simp[actC]at hv
theorem zqa{len:Nat}(h:RowS ks w a len cap z):len<=9223372036854775807:=by
  have hm:maxLen<=9223372036854775807:=by decide
  rcases h with⟨_,rfl,_⟩|⟨_,_,h1,h2,_⟩<;>omega
theorem zfT(a0:Option Addr)(len0 cap0:Nat)(z0:Nat->(Option Addr×Nat×Nat)×(Nat->Nat->Int))(a1:Option Addr)(len1 cap1:Nat)(z1:Nat->Nat->Int)(W:World)(w0:zs4 [.u8,.i64,.i64] W a0 len0 cap0 z0)(w1:RowS [.u8] W a1 len1 cap1 z1):
    ∃M last o w' t',runNT Try.prog (M+1) (solo (qs (qo Try.prog 4 #[.slice a0 len0 cap0,.slice a1 len1 cap1] .normal) []) W) #[]=(.ended o w',t')/\runN Try.prog M (solo (qs (qo Try.prog 4 #[.slice a0 len0 cap0,.slice a1 len1 cap1] .normal) []) W)=.next last /\
      step Try.prog last=.ended o w'/\qO Try.prog (fun v w'=>v=.bool true/\qx W.heap.size W w') last o w' t':=by
  have hlen0:len0<=9223372036854775807:=by
    have hm:maxLen<=9223372036854775807:=by decide
    rcases w0 with⟨_,rfl,_⟩|⟨_,_,h1,h2,_⟩<;>omega
  by_cases h6:4<len0
  . obtain⟨x,rfl,_⟩:∃x,a0=some x/\True:=by
      rcases w0 with⟨_,rfl,_⟩|⟨x,h,_⟩
      . omega
      . exact⟨x,h,trivial⟩
    obtain⟨b,off,spot⟩:=x;obtain⟨s1,b1,o1,hs1,hr1⟩:∃(s1:Option Addr) (b1 o1:Nat),SlAt 1 s1/\∀F:Emb,F.blk 1=b1->F.base 1=o1->F.slack 1=0->ren F (.slice s1 len1 cap1)=.slice a1 len1 cap1:=by
      cases a1 with
      | none=>exact⟨none,0,0,fun y hy=>(by cases hy),fun F _ _ _=>by simp⟩
      | some y=>exact⟨some ⟨1,0,y.spot⟩,y.block,y.off,fun z hz=>by cases hz;rfl,fun F h1 h2 h3=>by simp[adr,h1,h2,h3]⟩
    have L:=(ztR [] len0 cap0 cap0 len1 cap1 (some ⟨0,0,spot⟩) s1 tlG [] h6 hlen0 (fun y hy=>by cases hy;rfl) hs1).runs Try.func4 Try.results4 (by kernel_rfl) ⟨fun n=>if n=0 then b else b1,fun n=>if n=0 then off else o1,fun _=>0⟩ W (fun n c hc=>by
      match n,hc with
      | 0,hc=>simp at hc
      | 1,hc=>simp at hc
      | n+2,hc=>simp at hc) (by simp)
    simp only[qN,zMp,zMn]at L;rw[hr1 _ rfl rfl rfl,show ren (⟨fun n=>if n=0 then b else b1,fun n=>if n=0 then off else o1,fun _=>0⟩:Emb) (.slice (some ⟨0,0,spot⟩) len0 cap0)=.slice (some ⟨b,off,spot⟩) len0 cap0 by simp[adr]]at L
    exact L
  obtain⟨l1,rfl,g1,g2,g3⟩:=zqe w1;have each:∀i,∃l:List zcZ,i<len0->l.length=(z0 i).1.2.1/\(0<l.length->∃x,(z0 i).1.1=some x/\∀(j:Nat) (y:zcZ),l[j]?=some y->∀(m:Nat) (v:Value),(actC y)[m]?=some v->W.cell? (x.add (j * 3+m))=some v)/\l.length<=9223372036854775807:=fun i=>by
    by_cases hi:i<len0
    . rcases w0 with⟨_,rfl,_⟩|⟨x,rfl,_,_,h3⟩
      . omega
      . obtain⟨l,e1,e2⟩:=ztU (h3 i hi).2;exact⟨l,fun _=>⟨e1,by rw[e1];exact e2,by rw[e1];exact zqa (h3 i hi).2⟩⟩
    . exact⟨[],fun h=>absurd h hi⟩
  obtain⟨Y,hY⟩:∃Y:Nat->List zcZ,∀i,i<len0->(Y i).length=(z0 i).1.2.1/\(0<(Y i).length->∃x,(z0 i).1.1=some x/\∀(j:Nat) (y:zcZ),(Y i)[j]?=some y->∀(m:Nat) (v:Value),(actC y)[m]?=some v->W.cell? (x.add (j * 3+m))=some v)/\(Y i).length<=9223372036854775807:=⟨fun i=>qw (each i),fun i hi=>qq (each i) hi⟩;obtain⟨ls,hls⟩:∃ls,ls=(qc len0).map Y:=⟨_,rfl⟩;have hll:ls.length=len0:=by rw[hls];simp
  have hlg:∀i,i<len0->ls.getD i []=Y i:=fun i hi=>by rw[hls];simp[qm,hi]
  subst hll;obtain⟨sl,ps,ob,obs,bk,bs,bks,bss,N⟩:=zqP actC (s:=3) (fun _=>rfl) (by decide) (fun x v hv=>zme x v hv) ls a0 cap0 W 0 2 (fun i=>((z0 i).1.1,(z0 i).1.2.2)) (fun hpos=>by
    rcases w0 with⟨_,h,_⟩|⟨x,rfl,_,_,h3⟩
    . omega
    . exact⟨x,rfl,fun i hi=>by rw[hlg i hi,(hY i hi).1];exact(h3 i hi).1⟩) fun i hi hpos=>by
    rw[hlg i hi]at hpos ⊢;exact(hY i hi).2.1 hpos
  obtain⟨s1,ob1,b1,o1,hren1,hat1,hrow1,hlies1⟩:=zjl u8N (s:=1) (fun _=>rfl) (by decide) (fun x v hv=>by simp[u8N]at hv;subst hv;rfl) l1 a1 cap1 W 1 g3
  obtain⟨n1,n2,n3,n4⟩:=N.len;have hobro:∀i b,obs.getD i none=some b->b.ro=true:=fun i b hb=>by
    by_cases hi:i<ls.length
    . exact(N.lies i hi b hb).1
    . rw[qm,qi (by omega)]at hb;cases hb
  let F:Emb:=⟨fun n=>if n=0 then bk else if n=1 then b1 else bks.getD (n - 2) 0,fun n=>if n=0 then bs else if n=1 then o1 else bss.getD (n - 2) 0,fun _=>0⟩
  have hF:∀i,i<ls.length->F.blk (2+i)=bks.getD i 0/\F.base (2+i)=bss.getD i 0/\F.slack (2+i)=0:=fun i hi=>by
    refine⟨?_,?_,rfl⟩
    . show(if 2+i=0 then bk else if 2+i=1 then b1 else bks.getD (2+i - 2) 0)=_
      rw[if_neg (by omega),if_neg (by omega),qD]
    . show(if 2+i=0 then bs else if 2+i=1 then o1 else bss.getD (2+i - 2) 0)=_
      rw[if_neg (by omega),if_neg (by omega),qD]
  have L:=(ztT ls sl cap0 ps ob obs (ob.getD tlG) s1 cap1 l1 ob1 n2 (fun hpos=>?_) N.at0 (fun hpos=>?_) (fun i hi=>N.row i hi) hobro hat1 hrow1 (fun b hb=>(hlies1 b hb).1) (by omega) (fun i=>?_) g2 g1).runsF Try.func4 Try.results4 (by kernel_rfl) F W (fun n b hb=>?_) (by simp;omega)
  . simp only[qN,zMp,zMn]at L;rw[N.ren F rfl rfl rfl,hren1 F rfl rfl rfl]at L;exact L
  . obtain⟨_,el,h⟩:=N.row0 hpos;rw[h];rfl
  . obtain⟨h1,el,h⟩:=N.row0 hpos;rw[h];exact⟨h1,rfl,rfl⟩
  . by_cases hi:i<ls.length
    . rw[hlg i hi];exact(hY i hi).2.2
    . simp[qm,qi (show ls.length<=i by omega)]
  . match n,hb with
    | 0,hb=>exact N.lies0 F _ rfl rfl hF (by simp;omega) b (by simpa using hb)
    | 1,hb=>exact(hlies1 b (by simpa using hb)).f rfl rfl
    | n+2,hb =>
      have hb:obs[n]?=some (some b):=by simpa using hb
      have hn:=(qa.1 hb).1;have hg:obs.getD n none=some b:=by simp[qm,hb]
      obtain⟨f1,f2,_⟩:=hF n (by omega)
      rw[show n+2=2+n by omega]
      exact(N.lies n (by omega) b hg).f f1 f2
end Go.Proofs.Ytkjmaapbeicmkaa
