/-
  The abstract machine, part 3: one operation, whichever it is: values, calls, new rows, stores.
  No condition: laws.
-/
import Derived.Test.YtpkkfkebnhgaiaaUAx1
import Derived.Laws.MakeOwn
set_option maxHeartbeats 40000000
set_option linter.unusedVariables false
set_option linter.unusedSimpArgs false
open Go.Op renaming operands->qa,call->q8
open Go.Sem renaming run_bind->qb,run_pure->qh
open Go.Result renaming andThen_ok->qc
open Go.Call renaming operands->qd
open Option renaming bind_some->qe,map_some->qS
open Array renaming toArray_toList->qf,toList_map->qi,getElem?_append_left->qj,map_congr_left->qo,length_toList->qs,append_empty->qu,size_extract->qy,ext_getElem?->qz,ext'->qA,map_map->qG,getElem?_extract_of_lt->qV,getElem?_append_right->qY,mapM_eq_mapM_toList->q1,getElem?_eq_none->q6,range->q7,append_assoc->Qc
open Go.Builtin renaming firstCells->qg,append_->qk,lenOf->qn,zeroCells->qC
open List renaming map_congr_left->ql,getElem?_append_right->qp,getElem?_append_left->qr,length_map->qt,take_of_length_le->qv,map_map->qw,mem_map->qx,length_append->qB,getElem?_map->qF,getElem?_take_of_lt->qH,mem_of_mem_take->qL,mem_of_mem_drop->qM,getElem?_drop->qO,mem_toArray->qT,all_eq_true->qU,mem_append->qW,map_append->qX,map_take->q3,map_drop->q4,append_toArray->Qb,append_assoc->Qf
open Go renaming run_underlying->qm,run_firstCells_some->qP
open Nat renaming add_mul->qq,add_assoc->q5,mul_le_mul_right->q_,le_refl->Qa,add_sub_cancel'->Qd
open Go.Instr renaming build->qD,extract->qN,buildSlice->qQ,sureAddr->q0,storeAt->q2,makeInterface->q9,makeFunc->Qg
open Go.Deferred renaming ofValue->qE
open Go.Made renaming depth->qI
open Function renaming comp_apply->qJ
open Go.Value renaming cells->qK,iface->qR,oneCell'->qZ
namespace Go.Proofs.Ytpkkfkebnhgaiaa
open Go
theorem zc8(F:Emb)(v:Value):(ren F v).cells=v.cells.map (ren F):=by
  cases v with
  | pointer a=>cases a<;>simp[qK]
  | slice a n c=>cases a<;>simp[qK]
  | agg cs=>simp[qK]
  | _=>simp[qK,ren]
theorem zdx(l:List Value)(off:Nat)(vs:List Value)(h:off+vs.length<=l.length):(zaP l off vs).length=l.length:=by
  unfold zaP;simp;omega
theorem zg0(l:List Value)(off:Nat)(vs:List Value)(h:off+vs.length<=l.length)(j:Nat):(zaP l off vs)[j]?=if off<=j/\j<off+vs.length then vs[j - off]? else l[j]?:=by
  unfold zaP;have hl:(l.take off).length=off:=by simp;omega
  by_cases h1:j<off
  . rw[Qf,qr (by omega),if_neg (by omega),qH h1]
  . rw[Qf,qp (by omega),hl]
    by_cases h2:j<off+vs.length
    . rw[qr (by omega),if_pos (by omega)]
    . rw[qp (by omega),if_neg (by omega),qO]
      congr 1;omega
theorem zmr(l:List Value)(i:Nat)(v:Value)(h:i<l.length):l.set i v=zaP l i [v]:=by
  apply List.ext_getElem?;intro j;rw[zg0 l i [v] (by simp;omega),List.getElem?_set]
  by_cases hj:i=j
  . subst hj;simp[h]
  . rw[if_neg hj,if_neg (by simp only[zLc,zLn];omega)]
theorem ziC(pre m post:Array Value)(j:Nat):(pre++m++post)[j]?=if j<pre.size then pre[j]? else if j - pre.size<m.size then m[j - pre.size]? else post[j - pre.size - m.size]?:=by
  by_cases h1:j<pre.size
  . rw[if_pos h1,Qc,qj h1]
  . rw[if_neg h1,Qc,qY (by omega)]
    by_cases h2:j - pre.size<m.size
    . rw[if_pos h2,qj h2]
    . rw[if_neg h2,qY (by omega)]
theorem zjd(pre post:Array Value)(cs vs:List Value)(off:Nat)(h:off+vs.length<=cs.length):over (pre++cs.toArray++post) (pre.size+off) vs=pre++(zaP cs off vs).toArray++post:=by
  apply qz;intro j;have hlen:=zdx cs off vs h;rw[ziN _ _ _ _ (by simp only[Array.size_append,zSt];omega),ziC,ziC]
  simp only[zSt,zGt,hlen,zg0 cs off vs h];by_cases h1:j<pre.size
  . rw[if_neg (by omega),if_pos h1,if_pos h1]
  . rw[if_neg h1,if_neg h1];by_cases h2:j - pre.size<cs.length
    . rw[if_pos h2,if_pos h2];by_cases h3:off<=j - pre.size/\j - pre.size<off+vs.length
      . rw[if_pos (by omega),if_pos h3]
        congr 1;omega
      . rw[if_neg (by omega),if_neg h3]
    . rw[if_neg (by omega),if_neg h2,if_neg h2]
theorem zjR(off:Nat):∀(l:List Value) (k:Nat) (cells:Array Value),(l.zipIdx k).foldl (fun(cs:Array Value) (p:Value×Nat)=>cs.setIfInBounds (off+p.2) p.1) cells=over cells (off+k) l
  | [],_,_=>rfl
  | v::l,k,cells=>by
    rw[List.zipIdx_cons,List.foldl_cons,zjR off l (k+1),over];rfl
theorem zfk{F:Emb}(place:Nat->Option (Nat×Nat)):∀(ps:List (Nat×Value)) (cs cs':List Value),zf5 place cs ps=some cs'->Instr.fill place (cs.map (ren F)).toArray (ps.map fun p=>(p.1,ren F p.2))=some (cs'.map (ren F)).toArray
  | [],cs,cs',h=>by cases h;rfl
  | (i,v)::ps,cs,cs',h=>by
    unfold zf5 at h;simp only[zMp];unfold Instr.fill;cases hp:place i with
    | none=>rw[hp]at h;cases h
    | some q =>
      obtain⟨off,size⟩:=q;rw[hp]at h;simp only at h ⊢;split at h
      . cases h
      . rename_i hc;rw[not_or]at hc;have hsz:(ren F v).cells.size=v.cells.size:=by rw[zc8];simp
        rw[if_neg (by simp only[hsz,zSt,qt,ne_eq,Bool.or_eq_true,decide_eq_true_eq,not_or];exact⟨hc.1,hc.2⟩)]
        rw[<-zfk place ps _ _ h];congr 1;rw[<-Array.foldl_toList,Array.toList_zipIdx];rw[zjR off (ren F v).cells.toList 0,zc8];have:=zjd #[] #[] (cs.map (ren F)) (v.cells.toList.map (ren F)) off (by simp only[qt,qs];omega)
        simp only[Array.empty_append,qu,zSt,zLn,Nat.zero_add]at this;rw[qi,Nat.add_zero,this];congr 1;simp[zaP,q3,q4]
theorem zig(z:List Value):∀(n i:Nat),(zbu z n)[i]?=if i<n * z.length then z[i % z.length]? else none
  | 0,i=>by simp[zbu]
  | n+1,i=>by
    unfold zbu;by_cases h:i<z.length
    . rw[qr h,if_pos (by rw[qq];omega),Nat.mod_eq_of_lt h]
    . rw[qp (by omega),zig z n]
      have h1:(i - z.length<n * z.length)↔(i<(n+1) * z.length):=by rw[qq];omega
      simp only[h1];split
      . rw[Nat.mod_eq_sub_mod (a:=i) (b:=z.length) (by omega)]
      . rfl
theorem zis(z:List Value):∀n,(zbu z n).length=n * z.length
  | 0=>by simp[zbu]
  | n+1=>by rw[zbu,qB,zis z n,qq];omega
theorem zgf(z:Array Value)(n s:Nat)(hs:z.size=s):(q7 (n * s)).map (fun i=>z[i % z.size]!)=(zbu z.toList n).toArray:=by
  apply qz;intro i;rw[Array.getElem?_map,show(zbu z.toList n).toArray[i]?=(zbu z.toList n)[i]? by simp,zig,qs,hs]
  by_cases h:i<n * s
  . have h0:0<s:=by rcases Nat.eq_zero_or_pos s with h0|h0;(subst h0;simp at h);exact h0
    have hm:i % s<z.size:=by rw[hs];exact Nat.mod_lt _ h0
    rw[if_pos h];simp[h,hm]
  . rw[if_neg h];simp[Nat.le_of_not_lt h]
theorem zge{F:Emb}{z:List Value}(h:z.map (ren F)=z):∀n,(zbu z n).map (ren F)=zbu z n
  | 0=>rfl
  | n+1=>by rw[zbu,qX,h,zge h n]
variable {z:Value}{ps:List (Nat × Value)}{f:FuncId}{o:Oper}{x:Operand}{h h':AHeap}{fn:Func}
section
variable {P:Program}{ρ:Operand->Value}{e:Operand->Value}{F:Emb}{w:World}
theorem zeL{t:TypeId}(hz:zaz P t=some z):(zeroValue t).run P w=.ok z w:=by
  unfold zaz at hz;cases hi:P.info? t with
  | none=>rw[hi]at hz;cases hz
  | some i=>rw[hi]at hz;simp at hz;simp[zeroValue,typeInfo,hi,hz,qb]
theorem zeG(hp:zac z=true):z.cells.toList.map (ren F)=z.cells.toList:=by
  rw[<-qi,<-zc8,zaA F hp]
theorem zhH:∀(fs:List Field) (l:List (Nat×Nat)),zeB P fs=some l->(fs.mapM fun f=>(do pure (f.offset,<-sizeOf f.type):Sem (Nat×Nat))).run P w=.ok l w
  | [],l,h=>by cases h;simp
  | f::fs,l,h=>by
    unfold zeB at h;split at h
    . rename_i s l' hs hl;cases h;have:=zhH fs l' hl;simp only[List.mapM_cons,qb,zbb hs,qc,qh,this]
    . cases h
theorem zmV{t:TypeId}{v:Value}(h:zg8 P t ps=some v):(qD t (ps.map fun p=>(p.1,ren F p.2)).toArray).run P w=.ok (ren F v) w:=by
  unfold zg8 at h;split at h
  . rename_i z pl hz hpl;split at h
    . rename_i hp;cases hf:zf5 pl z.cells.toList ps with
      | none=>rw[hf]at h;cases h
      | some cs =>
        rw[hf]at h;cases h;have hfill:=zfk (F:=F) pl ps _ _ hf;rw[zeG hp]at hfill;unfold za7 at hpl;split at hpl
        . rename_i fs hu;cases hl:zeB P fs.toList with
          | none=>rw[hl]at hpl;cases hpl
          | some l =>
            rw[hl]at hpl;cases hpl;have hm:=zhH (w:=w) _ _ hl;have hm':(fs.mapM fun f=>(do pure (f.offset,<-sizeOf f.type):Sem (Nat×Nat))).run P w=.ok l.toArray w:=by
              rw[q1];simp only[map_eq_pure_bind,qb,hm,qc,qh]
            have hg:(fun i:Nat=>l.toArray[i]?)=fun i:Nat=>l[i]?:=by funext i;simp
            simp only[qD,qb,zeL hz,qm hu,qc,hm'];rw[hg,show z.cells=z.cells.toList.toArray by simp,hfill]
            simp
        . rename_i n el hu;cases hs:zai P el with
          | none=>rw[hs]at hpl;cases hpl
          | some s =>
            rw[hs]at hpl;cases hpl;simp only[qD,qb,zeL hz,qm hu,qc,zbb hs];rw[show z.cells=z.cells.toList.toArray by simp,hfill]
            simp
        . cases hpl
    . cases h
  . cases h
theorem zfB{t:TypeId}{name:String}(h:zbi P t name=some f):∃i m el,P.info? t=some i/\i.methods.find? (·.name==name)=some m/\m.path=#[]/\m.func=some (f,true)/\P.underlying t=some (.pointer el):=by
  unfold zbi at h;split at h
  . rename_i i el hi hu;split at h
    . rename_i m hm;split at h
      . rename_i hp;split at h
        . rename_i g hf;cases h;exact⟨i,m,el,hi,hm,by simpa using hp,hf,hu⟩
        . cases h
      . cases h
    . cases h
  . cases h
theorem zjW{t:TypeId}{name:String}(h:zbi P t name=some f)(n:Nat)(v:Value):(nilAhead (n+1) t v name).run P w=.ok (some false) w:=by
  obtain⟨i,m,el,hi,hm,hp,hf,hu⟩:=zfB h;unfold nilAhead;simp[qb,typeInfo,hi,hm,hp,followBlind,hf]
theorem zil{t:TypeId}{name:String}(h:zbi P t name=some f)(n:Nat)(v:Value):(method (n+1) t v name).run P w=.ok (f,v) w:=by
  obtain⟨i,m,el,hi,hm,hp,hf,hu⟩:=zfB h;unfold method;simp[qb,typeInfo,hi,hm,hp,follow,hf,receiverAt,qm hu,Place.get]
theorem zi7(xs:Array Value)(i:Nat):(xs.map (ren F))[i]?=(xs[i]?).map (ren F):=by simp
theorem ziD{v:Value}(ho:o.op=.nilCheck x)(hx:ρ x=ren F (e x))(h:zcn P (e x)=some v):(execOp ρ o).run P w=.ok (.value (ren F v)) w:=by
  unfold execOp;simp only[ho];rw[hx];unfold zcn at h;split at h
  . rename_i hv;cases h;rw[hv];simp
  . rename_i hv;cases h;rw[hv];simp
  . rename_i name xs ys hv;split at h
    . rename_i t p hx0;split at h
      . rename_i f hm;cases h;rw[hv,zbE];have h0:(xs.map (ren F))[0]?=some (.iface t (ren F (.pointer p))):=by rw[zi7,hx0];simp
        simp only[h0,qb,program,Sem.run,qc];rw[show P.types.size+qI=(P.types.size+99)+1 from rfl,zjW hm]
        simp
      . cases h
    . cases h
  . rename_i hv;cases h;rw[hv];simp
  . cases h
theorem ziT{v:Value}(H:Holds F h w)(hok:∀x∈o.op.operands,ρ x=ren F (e x))(hv:valA P e h o.op=some v):(execOp ρ o).run P w=.ok (.value (ren F v)) w:=by
  obtain⟨dst,op,ty,pos,after,guard⟩:=o;simp only at hok hv;unfold valA at hv;split at hv
  . rename_i x;cases hv;simp[execOp,hok x (by simp[qa])]
  . rename_i x;cases hv;simp[execOp,hok x (by simp[qa])]
  . rename_i c a b;split at hv
    . rename_i t hc;cases hv;simp only[execOp,hok c (by simp[qa]),hok a (by simp[qa]),hok b (by simp[qa]),hc,za8,asBool,qb,qh,qc]
      cases t<;>rfl
    . cases hv
  . rename_i t i;split at hv
    . rename_i vs hvs;have:(qN (ρ t) i)=pure (ren F v):=by
        rw[hok t (by simp[qa]),hvs,zcP]
        unfold qN;simp only[zi7,hv,qS]
      simp[execOp,this]
    . cases hv
  . rename_i op t x y u;have:=zmz (P:=P) (F:=F) (w:=w) (x:=x) hv;simp only[execOp,hok x (by simp[qa]),hok y (by simp[qa]),qb]at this ⊢
    rw[this];rfl
  . rename_i op t x;have:=zsq (P:=P) (F:=F) (w:=w) hv;simp only[execOp,hok x (by simp[qa]),qb,this];rfl
  . rename_i s d x;have:=zju (P:=P) (F:=F) (w:=w) hv;simp only[execOp,hok x (by simp[qa]),qb,this];rfl
  . rename_i t x i;have:=zmP (P:=P) (F:=F) (w:=w) hv;simp only[execOp,hok x (by simp[qa]),qb,this];rfl
  . rename_i t x i;have:=zmf (P:=P) (F:=F) (w:=w) hv;simp only[execOp,hok x (by simp[qa]),hok i (by simp[qa]),qb,this];rfl
  . rename_i fn xs ys;cases hv;have h1:xs.map ρ=(xs.map e).map (ren F):=by
      rw[qG];exact qo fun x hx=>hok x (by simp[qa,hx])
    have h2:ys.map ρ=(ys.map e).map (ren F):=by
      rw[qG];exact qo fun x hx=>hok x (by simp[qa,hx])
    simp[execOp,Qg,h1,h2]
  . rename_i t x;split at hv
    . cases hv
    . rename_i d hd hu;cases hv;simp only[execOp,hok x (by simp[qa]),qb,q9,qm hu,qc]
      cases d<;>simp_all
    . cases hv
  . rename_i x;exact ziD rfl (hok x (by simp[qa])) hv
  . rename_i t x;split at hv
    . rename_i a ha;have:=zj7 H hv;simp only[execOp,hok x (by simp[qa]),ha,zbd,qb,this];rfl
    . cases hv
  . rename_i t x i;have:=zhZ (P:=P) (F:=F) (w:=w) hv;simp only[execOp,hok x (by simp[qa]),qb,this];rfl
  . rename_i t x i;have:=zh3 (P:=P) (F:=F) (w:=w) hv;simp only[execOp,hok x (by simp[qa]),hok i (by simp[qa]),qb,this];rfl
  . rename_i c;unfold zlp at hv;obtain⟨callee,args,ats⟩:=c;split at hv
    . rename_i hc;simp only at hc;subst hc;split at hv
      . rename_i x t hx ht;simp only at hx ht;obtain rfl:args=#[x]:=by rw[<-qf (xs:=args),hx]
        obtain rfl:ats=#[t]:=by rw[<-qf (xs:=ats),ht]
        have:=zqn (P:=P) (F:=F) (w:=w) (ty:=ty) hv;have hx:=hok x (by simp[qa,qd])
        simp only[execOp,resolve,qb,qh,qc,invoke,builtin];rw[show(#[x].map ρ)=#[ren F (e x)] by simp[hx]]
        rw[this];rfl
      . cases hv
    . rename_i hc;simp only at hc;subst hc;split at hv
      . rename_i x l hx;simp only at hx;obtain rfl:args=(x::l).toArray:=by rw[<-qf (xs:=args),hx]
        have:=zl1 (P:=P) (F:=F) (w:=w) _ _ _ hv;have hx:((x::l).toArray.map ρ).toList=ren F (e x)::(l.map e).map (ren F):=by
          simp only[qi,zMp,qw];rw[hok x (by simp[qa,qd])]
          congr 1;exact ql fun y hy=>hok y (by simp[qa,qd,hy])
        simp only[execOp,resolve,qb,qh,qc,invoke,builtin,Builtin.min_,hx,this]
      . cases hv
    . rename_i hc;simp only at hc;subst hc;split at hv
      . rename_i x l hx;simp only at hx;obtain rfl:args=(x::l).toArray:=by rw[<-qf (xs:=args),hx]
        have:=zlV (P:=P) (F:=F) (w:=w) _ _ _ hv;have hx:((x::l).toArray.map ρ).toList=ren F (e x)::(l.map e).map (ren F):=by
          simp only[qi,zMp,qw];rw[hok x (by simp[qa,qd])]
          congr 1;exact ql fun y hy=>hok y (by simp[qa,qd,hy])
        simp only[execOp,resolve,qb,qh,qc,invoke,builtin,Builtin.max_,hx,this]
      . cases hv
    . cases hv
  . rename_i t ps;have:=zmV (P:=P) (F:=F) (w:=w) hv;have hp:(ps.map fun p=>(p.1,ρ p.2))=(((ps.toList.map fun p=>(p.1,e p.2))).map fun p=>(p.1,ren F p.2)).toArray:=by
      apply qA;simp only[qi,qw];exact ql fun p hp=>by
        simp only[qJ];rw[hok p.2 (by simp only[qa,qT,qx];exact⟨p,hp,rfl⟩)]
    simp only[execOp];rw[show(ps.map fun x=>match x with|(i,x)=>(i,ρ x))=(ps.map fun p=>(p.1,ρ p.2)) from rfl,hp,qb,this];rfl
  . rename_i t x lo hi mx;have:=znt (P:=P) (F:=F) H hv;have hm:∀y:Option Operand,(∀z,y=some z->z∈(Op.slice t x lo hi mx).operands)->y.map ρ=(y.map e).map (ren F):=by
      intro y hy;cases y with
      | none=>rfl
      | some z=>simp[hok z (hy z rfl)]
    simp only[execOp,hok x (by simp[qa])]
    rw[hm lo (by rintro z rfl;simp[qa]),hm hi (by rintro z rfl;simp[qa]),hm mx (by rintro z rfl;simp[qa]),qb,this];rfl
  . rename_i t x;have:=zj1 (P:=P) (F:=F) (w:=w) hv;simp only[execOp,hok x (by simp[qa]),qb,this];rfl
  . cases hv
theorem zer{args : Array Value}(hf : P.funcs[f]? = some fn)(hb : fn.body.isSome = true)(hn : (fn.name == "runtime.NumGoroutine") = false): (callFunc f args).run P w = .ok (.enter f args) w := by
  unfold callFunc;simp only[qb,program,Sem.run,qc,hf,hn,Bool.false_eq_true,if_false];cases h:fn.body with
  | none=>rw[h]at hb;cases hb
  | some c=>simp
theorem zf2{xs:Array Operand}(h:∀x∈xs,ρ x=ren F (e x)):xs.map ρ=(xs.map e).map (ren F):=by
  rw[qG];exact qo fun x hx=>h x hx
theorem zeq{args:Array Value}(hok:∀ x∈o.op.operands,ρ x=ren F (e x))(hv:zaJ P e o.op=some (f,args))(hf : P.funcs[f]? = some fn)(hb : fn.body.isSome = true)(hn : (fn.name == "runtime.NumGoroutine") = false): (execOp ρ o).run P w = .ok (.enter f (args.map (ren F))) w := by
  obtain⟨dst,op,ty,pos,after,guard⟩:=o;simp only at hok hv;unfold zaJ at hv;split at hv
  . rename_i g zs ats;split at hv
    . rename_i k xs ys hg;cases hv;have hg':=hok g (by simp[qa,qd])
      have ha:=zf2 (ρ:=ρ) (e:=e) (F:=F) (xs:=zs) fun x hx=>hok x (by simp[qa,qd,hx])
      simp only[execOp,resolve,qE,hg',hg,zbE,qb,qh,qc,invoke,zer hf hb hn,ha];simp
    . rename_i name xs ys hg;split at hv
      . rename_i t p hx;split at hv
        . rename_i g' hm;cases hv;obtain rfl:xs=#[.iface t (.pointer p)]:=by rw[<-qf (xs:=xs),hx]
          have hg':=hok g (by simp[qa,qd])
          have ha:=zf2 (ρ:=ρ) (e:=e) (F:=F) (xs:=zs) fun x hx=>hok x (by simp[qa,qd,hx])
          simp only[execOp,resolve,qE,hg',hg,zbE,qb,qh,qc,invoke,ha];have h0:((#[qR t (.pointer p)]:Array Value).map (ren F)++(zs.map e).map (ren F))[0]?=some (.iface t (ren F (.pointer p))):=by rw[qj (by simp)];simp
          simp only[h0,callMethod,qb,program,Sem.run,qc];rw[show P.types.size+qI=(P.types.size+99)+1 from rfl,zil hm]
          simp only[qc,zer hf hb hn];congr 2;apply qA;simp[qv]
        . cases hv
      . cases hv
    . cases hv
  . rename_i r name zs ats;split at hv
    . rename_i t p hr;split at hv
      . rename_i g hm;cases hv;have hr':=hok r (by simp[qa,qd])
        have ha:=zf2 (ρ:=ρ) (e:=e) (F:=F) (xs:=zs) fun x hx=>hok x (by simp[qa,qd,hx])
        simp only[execOp,resolve,hr',hr,zdb,qb,qh,qc,invoke,ha];have h0:(#[qR t (ren F (.pointer p))]++(zs.map e).map (ren F))[0]?=some (.iface t (ren F (.pointer p))):=by rw[qj (by simp)];rfl
        simp only[h0,callMethod,qb,program,Sem.run,qc];rw[show P.types.size+qI=(P.types.size+99)+1 from rfl,zil hm]
        simp only[qc,zer hf hb hn];congr 2;apply qA;simp[qv]
      . cases hv
    . cases hv
  . cases hv
structure Grew (w w':World) (o:Obj):Prop where
  heap:w'.heap=w.heap.push o
  os:w'.os=w.os
  tape:w'.tape=w.tape
  output:w'.output=w.output
theorem zeR(w:World)(o:Obj):Grew w (w.alloc o) o:=⟨rfl,rfl,rfl,rfl⟩
theorem zov(w:World)(o:Obj):Grew w (w.drew.alloc o) o:=⟨rfl,rfl,rfl,rfl⟩
theorem zeN{s:Nat}{v:Value}{cs:List Value}(H:Holds F h w)(hv:zcQ h s v=some cs):∃a n c,v=.slice a n c/\(qg s n (ren F v)).run P w=.ok (cs.map (ren F)).toArray w/\cs.length=n * s:=by
  unfold zcQ at hv;split at hv
  . cases hv;exact⟨none,0,0,rfl,by simp[qg],by simp⟩
  . rename_i a n c;refine⟨some a,n,c,rfl,?_⟩;split at hv
    . rename_i hn;cases hv;subst hn;refine⟨?_,by simp⟩
      rw[zay];exact qP w s 0 _ _ _ [] (by simp) (fun j v hj=>by simp at hj)
    . split at hv
      . rename_i hsp;split at hv
        . rename_i b hb;split at hv
          . rename_i hl;cases hv;refine⟨?_,by simp;omega⟩
            rw[zay];have:=qP (P:=P) w s n (adr F a) n (c+F.slack a.block) (((b.cells.drop a.off).take (n * s)).map (ren F)) (by simp;omega) (fun j v hj=>by
              rw[qF]at hj;have hj':j<n * s:=by
                cases hx:((b.cells.drop a.off).take (n * s))[j]? with
                | none=>rw[hx]at hj;cases hj
                | some u=>have:=(List.getElem?_eq_some_iff.1 hx).1;simp at this;omega
              rw[qH hj',qO]at hj;obtain⟨ab,ao,asp⟩:=a;simp only at hsp hb hl hj;subst hsp;rw[zbB _ _ rfl];cases hx:b.cells[ao+j]? with
              | none=>rw[hx]at hj;cases hj
              | some u =>
                rw[hx]at hj;simp only[qS,Option.some.injEq]at hj;subst hj;have:=H.cell hb hx;simp only[adr,q5];exact this)
            exact this
          . cases hv
        . cases hv
      . cases hv
  . cases hv
theorem zgT(t ty el:TypeId)(i:TypeInfo)(z:Value)(ht:P.underlying t=some (.slice el))(hi:P.info? el=some i)(hz:i.zero=some z)(base:Option Addr)(sLen sCap n:Nat)(x:Value)(olds news:Array Value)(hx:qn x=pure n)(ho:(qg i.size sLen (.slice base sLen sCap)).run P w.drew=.ok olds w.drew)(hn:(qg i.size n x).run P w.drew=.ok news w.drew)(hg:sCap<sLen+n)(h63:sLen+n<=16777216)(hfit:i.bytes<=1048576):
    (qk #[t,t] ty #[.slice base sLen sCap,x]).run P w=.ok (.slice (some ⟨w.heap.size,0,none⟩) (sLen+n) (grownCap w (sLen+n) sCap el))
        (w.drew.alloc (.cells (olds++news++qC z.cells (grownCap w (sLen+n) sCap el - (sLen+n))) el)):=by
  have hn':¬ (sLen+n<=sCap):=by omega
  have h63':¬ (9223372036854775807<((sLen:Int)+(n:Int))):=by omega
  have hb:(sLen+n) * i.bytes<=140737488355328:=Nat.le_trans (Nat.mul_le_mul h63 hfit) (by decide)
  have h48':¬ (281474976710656<Builtin.nextslicecap (sLen+n) sCap * i.bytes):=by have:=growslice_fits hg hb;omega
  simp[qk,qm ht,sizeOf,typeInfo,zeroValue,hi,hz,hx,hn',h63',h48',Question.forced,hn,ho,newRow,grownCap]
theorem zdQ{t:TypeId}{s:Nat}(h:zai P t=some s):∃i,P.info? t=some i/\i.size=s:=by
  unfold zai at h;cases hi:P.info? t with
  | none=>rw[hi]at h;cases h
  | some i=>rw[hi]at h;simp at h;exact⟨i,rfl,h⟩
theorem Holds.drew(H:Holds F h w):Holds F h w.drew:=⟨H.row,H.apart⟩
theorem zgs{t:TypeId}{x y:Value}{cs:List Value}{el:TypeId}{need:Nat}{q:Bool}(H:Holds F h w)(hv:zds P h t x y=some (cs,el,need,q)):
    ∃(a:Option Addr) (sl sc:Nat) (b:Option Addr) (n c s:Nat) (olds news:List Value),x=.slice a sl sc/\y=.slice b n c/\need=sl+n/\sc<need/\cs=olds++news/\zby P t=some el/\zai P el=some (s+1)/\cs.length=need * (s+1)/\olds.length=sl * (s+1)/\news.length=n * (s+1) /\
      zcQ h (s+1) x=some olds/\zcQ h (s+1) y=some news /\
      (∀(ty:TypeId) (cap:Nat),cap<need->∃w' sl' post,(qk #[t,t] ty #[.slice (a.map (adr F)) sl cap,ren F y]).run P w=.ok (.slice (some ⟨w.heap.size,0,none⟩) need (need+sl')) w'/\Grew w w' (.cells ((cs.map (ren F)).toArray++post) el (0,0))/\sl' * (s+1)<=post.size) /\
      ((a=none/\q=true)\/∃ad bk,a=some ad/\h.get ad.block=some bk/\((bk.grow=some 0/\q=true)\/(bk.ro=false/\bk.grow=some (s+1)/\bk.elem=el/\ad.spot=none/\ad.off+sc * (s+1)=bk.cells.length/\sl<=sc/\news.all zdu=true/\q=false))):=by
  unfold zds at hv;split at hv
  . rename_i el' hel;split at hv
    . rename_i s bs z olds news a sl sc b n c hs hbs hz hold hnew;rw[hs]at hold hnew;simp only[Option.getD_some]at hold hnew;split at hv
      . rename_i hc;obtain⟨hp,hzs,hbl,hlt,hle⟩:=hc;obtain⟨a1,n1,c1,e1,r1,l1⟩:=zeN (P:=P) H.drew hold;obtain⟨a2,n2,c2,e2,r2,l2⟩:=zeN (P:=P) H.drew hnew;cases e1;cases e2;obtain⟨i,hi,his⟩:=zdQ hs;have hiz:i.zero=some z:=by unfold zaz at hz;rw[hi]at hz;simpa using hz
        have hib:i.bytes<=1048576:=by unfold zap at hbs;rw[hi]at hbs;simp at hbs;omega
        have hrun:∀(ty:TypeId) (cap:Nat),cap<sl+n->∃w' sl' post,(qk #[t,t] ty #[.slice (a.map (adr F)) sl cap,ren F (.slice b n c)]).run P w=.ok (.slice (some ⟨w.heap.size,0,none⟩) (sl+n) ((sl+n)+sl')) w'/\Grew w w' (.cells (((olds++news).map (ren F)).toArray++post) el' (0,0))/\sl' * (s+1)<=post.size:=by
          intro ty cap hcap;have hge:=grownCap_ge w (sl+n) cap el';have hol:(qg i.size sl (.slice (a.map (adr F)) sl cap)).run P w.drew=.ok (olds.map (ren F)).toArray w.drew:=by
            rw[his,<-r1];cases a<;>simp[qg]
          have hln:qn (ren F (.slice b n c))=pure n:=by cases b<;>simp[qn]
          have:=zgT (P:=P) (w:=w) t ty el' i z (zaH hel) hi hiz (a.map (adr F)) sl cap n (ren F (.slice b n c)) _ _ hln hol (by rw[his];exact r2) hcap hle hib
          refine⟨w.drew.alloc (.cells ((olds.map (ren F)).toArray++(news.map (ren F)).toArray++qC z.cells (grownCap w (sl+n) cap el' - (sl+n))) el'),grownCap w (sl+n) cap el' - (sl+n),qC z.cells (grownCap w (sl+n) cap el' - (sl+n)),?_,?_,?_⟩
          . rw[this,Qd hge]
          . have:=zov w (.cells (((olds++news).map (ren F)).toArray++qC z.cells (grownCap w (sl+n) cap el' - (sl+n))) el' (0,0));rw[qX,<-Qb]at this;rw[qX,<-Qb];exact this
          . rw[size_zeroCells,hzs];exact Qa _
        split at hv
        . cases hv;exact⟨none,sl,sc,b,n,c,s,olds,news,rfl,rfl,rfl,hlt,rfl,hel,hs,by rw[qB,l1,l2,qq],l1,l2,hold,hnew,hrun,.inl ⟨rfl,rfl⟩⟩
        . rename_i ad;split at hv
          . rename_i bk hbk;split at hv
            . rename_i hg;cases hv;exact⟨some ad,sl,sc,b,n,c,s,olds,news,rfl,rfl,rfl,hlt,rfl,hel,hs,by rw[qB,l1,l2,qq],l1,l2,hold,hnew,hrun,.inr ⟨ad,bk,rfl,hbk,.inl ⟨hg,rfl⟩⟩⟩
            . split at hv
              . rename_i hc;cases hv;exact⟨some ad,sl,sc,b,n,c,s,olds,news,rfl,rfl,rfl,hlt,rfl,hel,hs,by rw[qB,l1,l2,qq],l1,l2,hold,hnew,hrun,.inr ⟨ad,bk,rfl,hbk,.inr ⟨hc.1,hc.2.1,hc.2.2.1,hc.2.2.2.1,hc.2.2.2.2.1,hc.2.2.2.2.2.1,hc.2.2.2.2.2.2,rfl⟩⟩⟩
              . cases hv
          . cases hv
      . cases hv
    . cases hv
  . cases hv
theorem zpg{ps:Array (Nat×Operand)}(hok:∀p∈ps.toList,ρ p.2=ren F (e p.2)):(ps.map fun x=>match x with|(i,x)=>(i,ρ x))=(((ps.toList.map fun p=>(p.1,e p.2))).map fun p=>(p.1,ren F p.2)).toArray:=by
  apply qA;simp only[qi,qw];exact ql fun p hp=>by
    simp only[qJ];rw[hok p hp]
theorem zlH{n:Nat}{v:Value}{ob:Option Blk}(H:Holds F h w)(hok:∀x∈o.op.operands,ρ x=ren F (e x))(hv:newA P e h n o.op=some (v,ob)):
    ∃(u:Value) (w':World) (bk bs sl:Nat),(execOp ρ o).run P w=.ok (.value u) w'/\(∀F':Emb,F'.blk n=bk->F'.base n=bs->F'.slack n=sl->ren F' v=u) /\
      ((ob=none/\w'=w)\/∃(b:Blk) (post:Array Value),ob=some b/\b.ro=false/\bk=w.heap.size/\bs=0/\Grew w w' (.cells ((b.cells.map (ren F)).toArray++post) b.elem (0,0))/\(b.grow=some 0->sl=0)/\(∀s,b.grow=some (s+1)->sl * (s+1)<=post.size)):=by
  obtain⟨dst,op,ty,pos,after,guard⟩:=o;simp only at hok hv;unfold newA at hv;split at hv
  . rename_i t;split at hv
    . rename_i z hz;split at hv
      . rename_i hp;cases hv;refine⟨.pointer (some ⟨w.heap.size,0,none⟩),_,w.heap.size,0,0,?_,fun F' h1 h2 _=>by simp[adr,h1,h2],.inr ⟨_,#[],rfl,rfl,rfl,rfl,zeR w _,fun _=>rfl,fun s hs=>by cases hs⟩⟩
        simp only[execOp,Instr.alloc,qb,zeL hz,qc,newVar,newRow,newObj,Sem.run,qh,zeG hp,qu];rfl
      . cases hv
    . cases hv
  . rename_i t x;cases hv;refine⟨.pointer (some ⟨w.heap.size,0,none⟩),_,w.heap.size,0,0,?_,fun F' h1 h2 _=>by simp[adr,h1,h2],.inr ⟨_,#[],rfl,rfl,rfl,rfl,zeR w _,fun _=>rfl,fun s hs=>by cases hs⟩⟩
    have hc:((e x).cells.toList.map (ren F)).toArray=(ren F (e x)).cells:=by
      rw[<-qi,<-zc8]
    simp only[execOp,hok x (by simp[qa]),Instr.box,qb,qc,newVar,newRow,newObj,Sem.run,qh,hc,qu]
    rfl
  . rename_i t len ps;split at hv
    . rename_i el hel;split at hv
      . rename_i s z hs hz;split at hv
        . rename_i hc;obtain⟨hp,hzs,hl⟩:=hc;cases hf:zf5 (fun i=>some (i * s,s)) (zbu z.cells.toList len) (ps.toList.map fun p=>(p.1,e p.2)) with
          | none=>rw[hf]at hv;cases hv
          | some cs =>
            rw[hf]at hv;cases hv;refine⟨.slice (some ⟨w.heap.size,0,none⟩) len len,_,w.heap.size,0,0,?_,fun F' h1 h2 h3=>by simp[adr,h1,h2,h3],.inr ⟨_,#[],rfl,rfl,rfl,rfl,zeR w _,fun _=>rfl,fun s hs=>by cases hs⟩⟩
            have hfill:=zfk (F:=F) (fun i=>some (i * s,s)) _ _ _ hf;rw[zge (zeG hp)]at hfill;have hpz:(ps.map fun x=>match x with|(i,x)=>(i,ρ x))=_:=zpg (e:=e) (F:=F) (ρ:=ρ) (ps:=ps) fun p hp=>hok p.2 (by simp only[qa,qT,qx];exact⟨p,hp,rfl⟩)
            have hzr:(q7 (len * s)).map (fun i=>(z.cells)[i % z.cells.size]!)=(zbu z.cells.toList len).toArray:=zgf z.cells len s hzs;have h24:¬ (len * s > 2 ^ 24):=by omega
            simp only[execOp,qQ,hpz,qb,qm (zaH hel),qc,zbb hs,if_neg h24,qu];by_cases h0:len * s=0
            . have hnil:zbu z.cells.toList len=[]:=List.eq_nil_of_length_eq_zero (by rw[zis,qs,hzs];exact h0)
              rw[hnil]at hfill;have hr0:Array.map (fun x:Nat=>(#[]:Array Value)[x % (#[]:Array Value).size]!) (q7 (len * s))=#[]:=by rw[h0];simp
              simp only[if_pos h0,qh,qc,hr0,hfill,newRow,newObj,qb,Sem.run];rfl
            . simp only[if_neg h0,qb,zeL hz,qh,qc,hzr,hfill,newRow,newObj,Sem.run];rfl
        . cases hv
      . cases hv
    . cases hv
  . rename_i t l c;split at hv
    . rename_i el k n k' m hel hl hc;split at hv
      . rename_i s z bs hs hz hbs;split at hv
        . rename_i hcond;obtain⟨hp,hzs,hb,h0,hlc,hc24⟩:=hcond;cases hv;refine⟨.slice (some ⟨w.heap.size,0,none⟩) n.toNat m.toNat,_,w.heap.size,0,0,?_,fun F' h1 h2 h3=>by simp[adr,h1,h2,h3],.inr ⟨_,#[],rfl,rfl,rfl,rfl,zeR w _,fun _=>rfl,fun s hs=>by cases hs⟩⟩
          obtain⟨i,hi,his⟩:=zdQ hs;have hib:i.bytes=bs:=by unfold zap at hbs;rw[hi]at hbs;simpa using hbs
          have hiz:i.zero=some z:=by unfold zaz at hz;rw[hi]at hz;simpa using hz
          have hmul:(bs:Int) * m<=1048576 * 16777216:=Int.mul_le_mul (by omega) hc24 (by omega) (by omega)
          have:=run_make (P:=P) w t el i z (zaH hel) hi hiz k k' n m h0 hlc (by rw[hib];omega) (by omega)
          have hzr:madeCells z.cells (m.toNat * s)=(zbu z.cells.toList m.toNat).toArray:=by
            rw[<-zgf z.cells m.toNat s hzs];rfl
          rw[his,hzr]at this;simp only[execOp,hok l (by simp[qa]),hok c (by simp[qa]),hl,hc,zbr,qb,this,zge (zeG hp),qu]
          rfl
        . cases hv
      . cases hv
    . cases hv
  . rename_i args argTypes;split at hv
    . rename_i x y t t' hargs hts;split at hv
      . rename_i htt;subst htt;split at hv
        . rename_i news el need hap;cases hv;obtain⟨a,sl,sc,b,n',c,s,olds,ns,hx,hy,hneed,hlt,hcs,hel,hs,hlen,hol,hnl,_,_,hrun,hq⟩:=zgs H hap;obtain rfl:args=#[x,y]:=by rw[<-qf (xs:=args),hargs]
          obtain rfl:argTypes=#[t,t]:=by rw[<-qf (xs:=argTypes),hts]
          have hcap:∃cap,cap<need/\ren F (e x)=.slice (a.map (adr F)) sl cap:=by
            rw[hx];rcases hq with⟨rfl,_⟩|⟨ad,bk,rfl,hbk,⟨hg,_⟩|hq⟩
            . exact⟨sc,hlt,by simp⟩
            . refine⟨sc,hlt,?_⟩;obtain⟨_,_,_,_,_,_,hsl,_⟩:=H.row _ _ hbk;simp[hsl hg]
            . exact absurd hq.2.2.2.2.2.2.2 (by simp)
          obtain⟨cap,hcap,hxe⟩:=hcap;obtain⟨w',sl',post,hr,hgrew,hpost⟩:=hrun ty cap hcap;refine⟨.slice (some ⟨w.heap.size,0,none⟩) need (need+sl'),w',w.heap.size,0,sl',?_,fun F' h1 h2 h3=>?_,.inr ⟨_,post,rfl,rfl,rfl,rfl,hgrew,fun hg=>?_,fun s' hg=>?_⟩⟩
          . have ha:(#[x,y].map ρ)=#[.slice (a.map (adr F)) sl cap,ren F (e y)]:=by simp[hok x (by simp[qa,qd]),hok y (by simp[qa,qd]),hxe]
            simp only[execOp,resolve,qb,qh,qc,invoke,builtin,ha,hr]
          . simp[adr,h1,h2,h3]
          . rw[hs]at hg;cases hg
          . rw[hs]at hg;cases hg;exact hpost
        . cases hv
      . cases hv
    . cases hv
  . rename_i t x lo hi;unfold endA at hv;split at hv
    . rename_i el a len cap hel hx;split at hv
      . rename_i l r s hl hr hs;split at hv
        . rename_i hc;obtain⟨h1,h2,h3,h4,h5⟩:=hc;cases hv;have hb:=zcu (P:=P) (F:=F) (w:=w) (b:=true) (cap:=cap+F.slack a.block) hl hr (by omega) (by omega)
          refine⟨.slice (some (if cap+F.slack a.block=l then adr F a else(adr F a).add (l * s))) 0 (F.slack a.block),w,F.blk a.block,(if cap+F.slack a.block=l then F.base a.block+a.off else F.base a.block+a.off+l * s),F.slack a.block,?_,fun F' e1 e2 e3=>?_,.inl ⟨rfl,rfl⟩⟩
          . have hm:∀y:Option Operand,(∀z,y=some z->z∈(Op.slice t x lo hi none).operands)->y.map ρ=(y.map e).map (ren F):=by
              intro y hy;cases y with
              | none=>rfl
              | some z=>simp[hok z (hy z rfl)]
            simp only[execOp,hok x (by simp[qa]),hx]
            rw[hm lo (by rintro z rfl;simp[qa]),hm hi (by rintro z rfl;simp[qa]),Option.map_none,qb,zdT hel]
            simp only[zay,Instr.slice,qb,qm (zaH hel),qc,hb,zbb hs,qh];have e4:r - l=0:=by omega
            have e5:cap+F.slack a.block - l=F.slack a.block:=by omega
            rw[e4,e5];split<;>simp
          . have hsp:(adr F a).spot=none:=h4;rw[zbB _ _ hsp];split at e2<;>rename_i hcc
            . simp only[zay,adr,e1,e2,e3,if_pos hcc];simp[h4]
            . simp only[zay,adr,e1,e2,e3,if_neg hcc];simp
        . cases hv
      . cases hv
    . cases hv
  . cases hv
end
theorem zgU(F:Emb){v:Value}(h:zdu v=true):(ren F v).oneCell'=true:=by
  cases v with
  | pointer a=>cases a<;>simp[qZ]
  | slice a n c=>cases a<;>simp[qZ]
  | agg cs=>cases h
  | tuple cs=>cases h
  | _=>simp[qZ,ren]
def wrote(w:World)(b:Nat)(c:Array Value):World:={ w with heap:=w.heap.modify b fun|.cells _ t fr=>.cells c t fr|o=>o }
variable {P:Program}
theorem zdw{w:World}{B off:Nat}{c:Array Value}{el:TypeId}(hb:w.heap[B]?=some (.cells c el (0,0)))(l:List Value)(hl:off+l.length<=c.size)(hone:∀x∈l,x.oneCell'=true):
    (storeCells ⟨B,off,none⟩ l).run P w=.ok () (wrote w B (over c off l)):=by
  have hcell:∀j,j<l.length->(w.cell? ⟨B,off+0+j,none⟩).isSome=true:=by
    intro j hj;have:off+j<c.size:=by omega
    simp[World.cell?,hb,this]
  have hfree:∀j,j<l.length->w.frozen? ⟨B,off+0+j,none⟩=false:=by
    intro j _;simp only[World.frozen?,hb];simp
  have hst:=run_storeCells_cells (P:=P) B off l 0 w hcell hfree hone;rw[Nat.add_zero]at hst;rw[hst,zfI];congr 1;unfold wrote;congr 1;apply qz;intro j;simp only[Array.getElem?_modify];split
  . rename_i hj;subst hj;rw[hb];rfl
  . rfl
variable {a:Addr}
theorem zjy{F:Emb}{w:World}{t:TypeId}{b:Blk}{vs:List Value}{u:Value}{s:Nat}(H:Holds F h w)(hb:h.get a.block=some b)(hs:zai P t=some s)(hsp:a.spot=none)(hro:b.ro=false)(hu:u.cells.toList=vs.map (ren F))(hl:vs.length=s)(hoff:a.off+s<=b.cells.length)(hone:vs.all zdu=true):
    ∃(pre post:Array Value),w.heap[F.blk a.block]?=some (.cells (pre++(b.cells.map (ren F)).toArray++post) b.elem (0,0))/\pre.size=F.base a.block/\(b.grow=some 0->F.slack a.block=0)/\(∀s,b.grow=some (s+1)->F.slack a.block * (s+1)<=post.size) /\
      (q2 t (.pointer (some (adr F a))) u).run P w=.ok () (wrote w (F.blk a.block) (pre++((zaP b.cells a.off vs).map (ren F)).toArray++post)):=by
  obtain⟨pre,post,fr,hr,hp,hfr,hg0,hg1⟩:=H.row _ _ hb;obtain rfl:=hfr hro;refine⟨pre,post,hr,hp,hg0,hg1,?_⟩;obtain⟨ab,ao,asp⟩:=a;simp only at hsp hb hoff hr hp;subst hsp;have hsz:u.cells.size=s:=by rw[<-qs,hu];simpa using hl
  have hone':∀x∈u.cells.toList,x.oneCell'=true:=by
    intro x hx;rw[hu]at hx;obtain⟨y,hy,rfl⟩:=qx.1 hx;exact zgU F (qU.1 hone y hy)
  have hst:=zdw (P:=P) hr (off:=F.base ab+ao) u.cells.toList (by rw[qs,hsz];simp;omega) hone'
  simp only[q2,q0,adr,storeVar,qb,qh,qc,zbb hs,hsz,ne_eq,not_true_eq_false,if_false];rw[hst,hu,<-hp,zjd pre post (b.cells.map (ren F)) (vs.map (ren F)) ao (by simp;omega)]
  simp[zaP,q3,q4]
theorem zcb{t:TypeId}{v:Value}(hv:zeD P h t a v=some h'):
    ∃(b:Blk) (s:Nat),h.get a.block=some b/\zai P t=some s/\a.spot=none/\b.ro=false/\v.cells.toList.length=s/\a.off+s<=b.cells.length/\v.cells.toList.all zdu=true/\h'=h.put a.block { b with cells:=zaP b.cells a.off v.cells.toList }:=by
  unfold zeD at hv;split at hv
  . rename_i b s hb hs;split at hv
    . rename_i hc;split at hv
      . rename_i cs;split at hv
        . rename_i hcs;cases hv;exact⟨b,s,hb,hs,hc.1,hc.2,by simpa[qK] using hcs.1,hcs.2.1,hcs.2.2,rfl⟩
        . cases hv
      . cases hv
      . rename_i h1 h2;split at hv
        . rename_i hcs;cases hv;have hcell:v.cells=#[v]:=by
            cases v with
            | agg cs=>exact absurd rfl (h1 cs)
            | _=>rfl
          have hone:zdu v=true:=by
            cases v with
            | agg cs=>exact absurd rfl (h1 cs)
            | tuple cs=>exact absurd rfl (h2 cs)
            | _=>rfl
          refine⟨b,s,hb,hs,hc.1,hc.2,by rw[hcell,hcs.1];rfl,by omega,by rw[hcell];simp[hone],?_⟩
          rw[hcell];simp only[zmr _ _ _ hcs.2]
        . cases hv
    . cases hv
  . cases hv
inductive Wrote (F:Emb) (e:Operand->Value) (xs:Array Operand) (h:AHeap) (w:World):Value->AHeap->Value->World->Prop
  | same {v} (hv:v=.slice none 0 0\/∃x∈xs,v=e x):Wrote F e xs h w v h (ren F v) w
  | put {v n b cs pre post} (hv:v=undef\/∃a sl c sc x,x∈xs/\e x=.slice (some a) sl sc/\v=.slice (some a) c sc) (hb:h.get n=some b) (hro:b.ro=false) (hl:cs.length=b.cells.length)
      (hc:∀c∈cs,c∈b.cells\/(∃x∈xs,c∈(e x).cells.toList)\/∃m b',h.get m=some b'/\c∈b'.cells)
      (hr:w.heap[F.blk n]?=some (.cells (pre++(b.cells.map (ren F)).toArray++post) b.elem (0,0))) (hp:pre.size=F.base n) (h0:b.grow=some 0->F.slack n=0) (h1:∀s,b.grow=some (s+1)->F.slack n * (s+1)<=post.size) :
      Wrote F e xs h w v (h.put n { b with cells:=cs }) (ren F v) (wrote w (F.blk n) (pre++(cs.map (ren F)).toArray++post))
  | grew {n b cs s bs sl need pre post post'} {c:Array Value} (hb:h.get n=some b) (hro:b.ro=false) (hg:b.grow=some (s+1))
      (hc:∀c∈cs,∃m b',h.get m=some b'/\c∈b'.cells)
      (hr:w.heap[F.blk n]?=some (.cells c b.elem (0,0))) (hn:pre++(cs.map (ren F)).toArray++post'=post) (hp:pre.size=bs) (h1:sl * (s+1)<=post'.size) :
      Wrote F e xs h w (.slice (some ⟨h.next,0,none⟩) need need) ((h.putO n none).addO (some ⟨cs,b.elem,false,some (s+1)⟩)) (.slice (some ⟨F.blk n,bs,none⟩) need (need+sl)) (wrote w (F.blk n) post)
  | fresh {n b cs s sl need w' post} (hb:h.get n=some b) (hro:b.ro=false) (hg:b.grow=some (s+1))
      (hc:∀c∈cs,∃m b',h.get m=some b'/\c∈b'.cells)
      (hw:Grew w w' (.cells ((cs.map (ren F)).toArray++post) b.elem (0,0))) (h1:sl * (s+1)<=post.size) :
      Wrote F e xs h w (.slice (some ⟨h.next,0,none⟩) need need) ((h.putO n none).addO (some ⟨cs,b.elem,false,some (s+1)⟩)) (.slice (some ⟨w.heap.size,0,none⟩) need (need+sl)) w'
theorem zfP{s:Nat}{v:Value}{cs:List Value}(hv:zcQ h s v=some cs):∀c∈cs,∃m b',h.get m=some b'/\c∈b'.cells:=by
  unfold zcQ at hv;intro c hc;split at hv
  . cases hv;cases hc
  . split at hv
    . cases hv;cases hc
    . split at hv
      . split at hv
        . rename_i b hb;split at hv
          . cases hv;exact⟨_,b,hb,qM (qL hc)⟩
          . cases hv
        . cases hv
      . cases hv
  . cases hv
theorem zoE{s n c:Nat}{b:Blk}{cs:List Value}(hb:h.get a.block=some b)(hv:zcQ h s (.slice (some a) n c)=some cs):cs=(b.cells.drop a.off).take (n * s):=by
  unfold zcQ at hv;simp only[hb]at hv;split at hv
  . rename_i h0;cases hv;rw[h0];simp
  . split at hv
    . split at hv
      . cases hv;rfl
      . cases hv
    . cases hv
section
variable {P:Program}{ρ:Operand->Value}{e:Operand->Value}{F:Emb}{w:World}
theorem zdg(t ty el:TypeId)(i:TypeInfo)(ht:P.underlying t=some (.slice el))(hi:P.info? el=some i)(ad:Addr)(sLen sCap n:Nat)(x:Value)(news:Array Value){w':World}(hx:qn x=pure n)(hn:(qg i.size n x).run P w=.ok news w)(hg:sLen+n<=sCap)(hst:(storeCells (ad.add (sLen * i.size)) news.toList).run P w=.ok () w'):
    (qk #[t,t] ty #[.slice (some ad) sLen sCap,x]).run P w=.ok (.slice (some ad) (sLen+n) sCap) w':=by
  simp[qk,qm ht,sizeOf,typeInfo,hi,hx,hg,hn,hst]
theorem zhT(t ty el:TypeId)(i:TypeInfo)(ht:P.underlying t=some (.slice el))(hi:P.info? el=some i)(x:Value)(news:Array Value)(hx:qn x=pure 0)(hn:(qg i.size 0 x).run P w=.ok news w):
    (qk #[t,t] ty #[.slice none 0 0,x]).run P w=.ok (.slice none 0 0) w:=by
  simp[qk,qm ht,sizeOf,typeInfo,hi,hx,hn]
theorem zfn(F:Emb)(b:Option Addr)(n c:Nat):qn (ren F (.slice b n c))=pure n:=by cases b<;>simp[qn]
theorem zeh(F:Emb)(w:World)(s:Nat)(b:Option Addr)(c:Nat):(qg s 0 (ren F (.slice b 0 c))).run P w=.ok #[] w:=by
  cases b with
  | none=>simp[qg]
  | some b=>rw[zay];exact qP w s 0 _ _ _ [] (by simp) (fun j v hj=>by simp at hj)
theorem zr1{v:Value}(H:Holds F h w)(hok:∀x∈o.op.operands,ρ x=ren F (e x))(hv:wrA P e h o.op=some (v,h')):
    ∃(u:Value) (w':World),((execOp ρ o).run P w=.ok (.value u) w'\/((execOp ρ o).run P w=.ok .skip w'/\u=undef))/\Wrote F e o.op.operands h w v h' u w':=by
  obtain⟨dst,op,ty,pos,after,guard⟩:=o;simp only at hok hv ⊢;unfold wrA at hv;split at hv
  . rename_i t x y;split at hv
    . rename_i a hx;cases hs:zeD P h t a (e y) with
      | none=>rw[hs]at hv;cases hv
      | some h1 =>
        rw[hs]at hv;cases hv;obtain⟨b,s,hb,hsz,hsp,hro,hl,hoff,hone,rfl⟩:=zcb hs;obtain⟨pre,post,hrow,hp,h0,h1,hrun⟩:=zjy (P:=P) (u:=ren F (e y)) H hb hsz hsp hro (by rw[zc8];simp) hl hoff hone
        have:=Wrote.put (e:=e) (xs:=(Op.store t x y).operands) (v:=undef) (cs:=zaP b.cells a.off (e y).cells.toList) (.inl rfl) hb hro (zdx _ _ _ (by rw[hl];exact hoff)) (fun c hc=>by
          simp only[zaP,qW]at hc;rcases hc with(hc|hc)|hc
          . exact .inl (qL hc)
          . exact .inr (.inl ⟨y,by simp[qa],hc⟩)
          . exact .inl (qM hc)) hrow hp h0 h1
        rw[zaW]at this;refine⟨undef,_,.inr ⟨?_,rfl⟩,this⟩;simp only[execOp,hok x (by simp[qa]),hok y (by simp[qa]),hx,zbd,qb,hrun];rfl
    . cases hv
  . rename_i args argTypes;split at hv
    . rename_i x y t t' hargs hts;split at hv
      . rename_i htt;subst htt;obtain rfl:args=#[x,y]:=by rw[<-qf (xs:=args),hargs]
        obtain rfl:argTypes=#[t,t]:=by rw[<-qf (xs:=argTypes),hts]
        have hex:∀{u:Value} {w':World},(qk #[t,t] ty #[ren F (e x),ren F (e y)]).run P w=.ok u w'->(execOp ρ { dst:=dst,op:=.call { callee:=.builtin .append,args:=#[x,y],argTypes:=#[t,t] },type:=ty,pos:=pos,after:=after,guard:=guard }).run P w=.ok (.value u) w':=by
          intro u w' h;have ha:(#[x,y].map ρ)=#[ren F (e x),ren F (e y)]:=by simp[hok x (by simp[qa,qd]),hok y (by simp[qa,qd])]
          simp only[execOp,resolve,qb,qh,qc,invoke,builtin,ha,h]
        have hxm:x∈(q8 { callee:=.builtin .append,args:=#[x,y],argTypes:=#[t,t] }).operands:=by simp[qa,qd]
        split at hv
        . rename_i el b c hx hel hy;split at hv
          . rename_i s hs;cases hv;obtain⟨i,hi,his⟩:=zdQ hs;have hrun:=zhT (P:=P) (w:=w) t ty el i (zaH hel) hi (ren F (e y)) #[] (by rw[hy];exact zfn F _ _ _) (by rw[hy];exact zeh F w i.size _ _)
            refine⟨ren F (.slice none 0 0),w,.inl (hex ?_),.same (.inl rfl)⟩;rw[hx,zcT];exact hrun
          . cases hv
        . rename_i a sl sc el b n c hx hel hy;split at hv
          . rename_i s hs;obtain⟨i,hi,his⟩:=zdQ hs;split at hv
            . rename_i hle;split at hv
              . cases hv;have hrun:=zdg (P:=P) (w:=w) t ty el i (zaH hel) hi (adr F a) sl (sc+F.slack a.block) 0 (ren F (e y)) #[] (w':=w) (by rw[hy];exact zfn F _ _ _) (by rw[hy];exact zeh F w i.size _ _) (by omega) (by simp[storeCells])
                have hS:=Wrote.same (F:=F) (e:=e) (xs:=(q8 { callee:=.builtin .append,args:=#[x,y],argTypes:=#[t,t] }).operands) (h:=h) (w:=w) (v:=.slice (some a) sl sc) (.inr ⟨x,hxm,hx.symm⟩);refine⟨_,w,.inl (hex ?_),hS⟩;rw[hx,zay];exact hrun
              . rename_i n _ _ _ news bk hn0 hbk hnews;split at hv
                . rename_i hc;obtain⟨hro,hsp,hroom,hlen,hone⟩:=hc;cases hv;obtain⟨pre,post,fr,hrow,hp,hfr,h0,h1⟩:=H.row _ _ hbk;obtain rfl:=hfr hro;obtain⟨b2,n2,c2,e2,r2,l2⟩:=zeN (P:=P) H hnews;cases e2;obtain⟨ab,ao,asp⟩:=a;simp only at hsp hroom hbk hrow hp h0 h1;subst hsp;have hst:=zdw (P:=P) hrow (off:=F.base ab+ao+sl * i.size) (news.map (ren F)) (by simp;rw[his,hp];omega) (fun z hz=>by obtain⟨y',hy',rfl⟩:=qx.1 hz;exact zgU F (qU.1 hone y' hy'))
                  have hrun:=zdg (P:=P) (w:=w) t ty el i (zaH hel) hi (adr F ⟨ab,ao,none⟩) sl (sc+F.slack ab) n (ren F (e y)) (news.map (ren F)).toArray (by rw[hy];exact zfn F _ _ _) (by rw[hy,his];exact r2) (by omega) (by rw[zbB _ _ rfl];exact hst)
                  have hov:=zjd pre post (bk.cells.map (ren F)) (news.map (ren F)) (ao+sl * i.size) (by simp;rw[his];omega)
                  rw[hp,<-q5]at hov;rw[hov]at hrun;have hsp':zaP (bk.cells.map (ren F)) (ao+sl * i.size) (news.map (ren F))=(zaP bk.cells (ao+sl * s) news).map (ren F):=by rw[his];simp[zaP,q3,q4]
                  rw[hsp']at hrun;have hS:=Wrote.put (F:=F) (e:=e) (xs:=(q8 { callee:=.builtin .append,args:=#[x,y],argTypes:=#[t,t] }).operands) (h:=h) (w:=w) (v:=.slice (some ⟨ab,ao,none⟩) (sl+n) sc) (cs:=zaP bk.cells (ao+sl * s) news) (pre:=pre) (post:=post) (n:=ab) (.inr ⟨⟨ab,ao,none⟩,sl,sl+n,sc,x,hxm,hx,rfl⟩) hbk hro (zdx _ _ _ hroom) (fun c' hc'=>by
                    simp only[zaP,qW]at hc';rcases hc' with(hc'|hc')|hc'
                    . exact .inl (qL hc')
                    . exact .inr (.inr (zfP hnews c' hc'))
                    . exact .inl (qM hc')) hrow hp h0 h1
                  refine⟨_,_,.inl (hex ?_),hS⟩;rw[hx,zay,zay];exact hrun
                . cases hv
              . cases hv
            . rename_i hle;split at hv
              . rename_i cs el' need hap;cases hv;obtain⟨a',sl',sc',b',n',c',s',olds,news,hx',hy',hneed,hlt,hcs,hel',hs',hlen,hol,hnl,hco,hcn,hrun,hq⟩:=zgs H hap;rw[hx]at hx';rw[hy]at hy';cases hx';cases hy';rw[hel]at hel';cases hel';rcases hq with⟨h0,_⟩|⟨ad,bk,h0,hbk,⟨_,h0'⟩|⟨hro,hg,hbe,hsp,hend,hle',hone,_⟩⟩
                . cases h0
                . cases h0'
                . cases h0;have hmem:∀c∈cs,∃m b',h.get m=some b'/\c∈b'.cells:=by
                    intro c hc;rw[hcs]at hc;rcases qW.1 hc with hc|hc
                    . exact zfP hco c hc
                    . exact zfP hcn c hc
                  rw[hs'];by_cases hreal:need<=sc+F.slack a.block
                  . obtain⟨pre,post,fr,hrow,hp,hfr,_,h1⟩:=H.row _ _ hbk;obtain rfl:=hfr hro;have h1:=h1 _ hg;rw[hx]at hco;have hoe:=zoE hbk hco;obtain⟨b2,n2,c2,e2,r2,l2⟩:=zeN (P:=P) H hcn;rw[hy]at e2;cases e2;obtain⟨ab,ao,asp⟩:=a;simp only at hsp hbk hrow hp hend h1 hreal hoe;subst hsp;have hhi:need * (s'+1)<=(sc+F.slack ab) * (s'+1):=q_ _ hreal;rw[qq]at hhi;have hsc:sl * (s'+1)<=sc * (s'+1):=q_ _ hle';have hnd:need * (s'+1)=sl * (s'+1)+n * (s'+1):=by rw[hneed,qq]
                    have hss:i.size=s'+1:=by rw[hs]at hs';cases hs';exact his
                    have hsz:(pre++(bk.cells.map (ren F)).toArray++post).size=F.base ab+bk.cells.length+post.size:=by simp[hp,q5]
                    have hst:=zdw (P:=P) hrow (off:=F.base ab+ao+sl * i.size) (news.map (ren F)) (by rw[hsz,qt,hnl,hss];omega) (fun z hz=>by obtain⟨y',hy',rfl⟩:=qx.1 hz;exact zgU F (qU.1 hone y' hy'))
                    have hrun:=zdg (P:=P) (w:=w) t ty el i (zaH hel) hi (adr F ⟨ab,ao,none⟩) sl (sc+F.slack ab) n (ren F (e y)) (news.map (ren F)).toArray (by rw[hy];exact zfn F _ _ _) (by rw[hss];exact r2) (by omega) (by rw[zbB _ _ rfl];exact hst)
                    have hgetk:∀{A:Array Value} {j:Nat} (k:Nat) (hk:k<A.size),k=j->some A[k]=A[j]?:=by
                      rintro A j k hk rfl;exact(Array.getElem?_eq_getElem hk).symm
                    have hpost:(pre++(bk.cells.map (ren F)).toArray++post).extract 0 (F.base ab+ao)++(cs.map (ren F)).toArray++(pre++(bk.cells.map (ren F)).toArray++post).extract (F.base ab+ao+need * (s'+1)) (F.base ab+bk.cells.length+post.size)=over (pre++(bk.cells.map (ren F)).toArray++post) (F.base ab+ao+sl * i.size) (news.map (ren F)):=by
                      apply qz;intro j;rw[ziN _ _ _ _ (by rw[hsz,qt,hnl,hss];omega),ziC]
                      have e1:((pre++(bk.cells.map (ren F)).toArray++post).extract 0 (F.base ab+ao)).size=F.base ab+ao:=by rw[qy,hsz];omega
                      have e2:((cs.map (ren F)).toArray).size=need * (s'+1):=by rw[List.size_toArray,qt,hlen]
                      rw[e1,e2,hss,qt,hnl];by_cases j1:j<F.base ab+ao
                      . rw[if_pos j1,if_neg (by omega),qV (by omega)]
                        exact hgetk _ _ (by omega)
                      . rw[if_neg j1];by_cases j2:j - (F.base ab+ao)<need * (s'+1)
                        . rw[if_pos j2,List.getElem?_toArray,qF,hcs];by_cases j3:j - (F.base ab+ao)<sl * (s'+1)
                          . rw[if_neg (by omega),qr (by omega),hoe,qH (by omega),qO,ziC,if_neg (by omega),if_pos (by simp;omega),hp]
                            simp only[zGt,qF];congr 2;omega
                          . rw[if_pos (by omega),qp (by omega),qF,hol]
                            congr 2;omega
                        . rw[if_neg j2,if_neg (by omega)]
                          by_cases j4:j<F.base ab+bk.cells.length+post.size
                          . rw[qV (by omega)]
                            exact hgetk _ _ (by omega)
                          . rw[q6 (by rw[qy,hsz];omega),q6 (by rw[hsz];omega)]
                    have hS:=Wrote.grew (F:=F) (e:=e) (xs:=(q8 { callee:=.builtin .append,args:=#[x,y],argTypes:=#[t,t] }).operands) (h:=h) (w:=w) (n:=ab) (cs:=cs) (need:=need) (sl:=sc+F.slack ab - need) (bs:=F.base ab+ao) hbk hro hg hmem hrow hpost (by rw[qy,hsz];omega) (by
                      rw[qy,hsz,Nat.sub_mul,qq];omega)
                    rw[hbe]at hS;refine⟨_,_,.inl (hex ?_),hS⟩;rw[hx,zay];rw[Qd hreal,hneed];exact hrun
                  . obtain⟨w',sl2,post,hr,hgrew,hpost⟩:=hrun ty (sc+F.slack a.block) (by omega)
                    rw[<-hbe]at hgrew;have hS:=Wrote.fresh (F:=F) (e:=e) (xs:=(q8 { callee:=.builtin .append,args:=#[x,y],argTypes:=#[t,t] }).operands) (h:=h) (w:=w) (n:=a.block) (cs:=cs) (need:=need) hbk hro hg hmem hgrew hpost;rw[hbe]at hS;refine⟨_,w',.inl (hex ?_),hS⟩;rw[hx,zay];simpa using hr
              . cases hv
          . cases hv
        . cases hv
      . cases hv
    . cases hv
  . cases hv
theorem zqD{P:Program}{e:Operand->Value}{o:Op}{v:Value}(hv:wrA P e h o=some (v,h')):h.next<=h'.next:=by
  unfold wrA at hv
  repeat' split at hv
  all_goals first
    | (cases hv;done)
    | (cases hv;exact Qa _)
    | (cases hv;exact Nat.le_succ _)
    | (rename_i a _;cases hs:zeD P h _ a _ with
        | none=>rw[hs]at hv;cases hv
        | some h1 =>
          rw[hs]at hv;cases hv;obtain⟨b,s,_,_,_,_,_,_,_,rfl⟩:=zcb hs;exact Qa _)
end
section
variable {P:Program}{F:Emb}{ρ e:Operand->Value}
theorem zfd{t:TypeId}(hz:zaz P t=some z):calm P (zeroValue t)=some z:=by
  unfold zaz at hz;cases hi:P.info? t with
  | none=>rw[hi]at hz;cases hz
  | some i=>rw[hi]at hz;simp at hz;simp[zeroValue,typeInfo,hi,hz,zad]
theorem zgn:∀(fs:List Field) (l:List (Nat×Nat)),zeB P fs=some l->calm P (fs.mapM fun f=>(do pure (f.offset,<-sizeOf f.type):Sem (Nat×Nat)))=some l
  | [],l,h=>by cases h;simp
  | f::fs,l,h=>by
    unfold zeB at h;split at h
    . rename_i s l' hs hl;cases h;have:=zgn fs l' hl;simp only[List.mapM_cons,zad,zbn hs,qe,zaB,this]
    . cases h
theorem zkP{t:TypeId}{v:Value}(h:zg8 P t ps=some v):calm P (qD t (ps.map fun p=>(p.1,ren F p.2)).toArray)=some (ren F v):=by
  unfold zg8 at h;split at h
  . rename_i z pl hz hpl;split at h
    . rename_i hp;cases hf:zf5 pl z.cells.toList ps with
      | none=>rw[hf]at h;cases h
      | some cs =>
        rw[hf]at h;cases h;have hfill:=zfk (F:=F) pl ps _ _ hf;rw[zeG hp]at hfill;unfold za7 at hpl;split at hpl
        . rename_i fs hu;cases hl:zeB P fs.toList with
          | none=>rw[hl]at hpl;cases hpl
          | some l =>
            rw[hl]at hpl;cases hpl;have hm:=zgn  _ _ hl;have hm':calm P (fs.mapM fun f=>(do pure (f.offset,<-sizeOf f.type):Sem (Nat×Nat)))=some l.toArray:=by
              rw[q1];simp only[map_eq_pure_bind,zad,hm,qe,zaB]
            have hg:(fun i:Nat=>l.toArray[i]?)=fun i:Nat=>l[i]?:=by funext i;simp
            simp only[qD,zad,zfd hz,zae hu,qe,hm'];rw[hg,show z.cells=z.cells.toList.toArray by simp,hfill]
            simp
        . rename_i n el hu;cases hs:zai P el with
          | none=>rw[hs]at hpl;cases hpl
          | some s =>
            rw[hs]at hpl;cases hpl;simp only[qD,zad,zfd hz,zae hu,qe,zbn hs];rw[show z.cells=z.cells.toList.toArray by simp,hfill]
            simp
        . cases hpl
    . cases h
  . cases h
theorem ziL{t:TypeId}{name:String}(h:zbi P t name=some f)(n:Nat)(v:Value):calm P (nilAhead (n+1) t v name)=some (some false):=by
  obtain⟨i,m,el,hi,hm,hp,hf,hu⟩:=zfB h;unfold nilAhead;simp[zad,typeInfo,hi,hm,hp,followBlind,hf]
theorem zg9{t:TypeId}{name:String}(h:zbi P t name=some f)(n:Nat)(v:Value):calm P (method (n+1) t v name)=some (f,v):=by
  obtain⟨i,m,el,hi,hm,hp,hf,hu⟩:=zfB h;unfold method;simp[zad,typeInfo,hi,hm,hp,follow,hf,receiverAt,zae hu,Place.get]
theorem zhR{v:Value}(ho:o.op=.nilCheck x)(hx:ρ x=ren F (e x))(h:zcn P (e x)=some v):calm P (execOp ρ o)=some (.value (ren F v)):=by
  unfold execOp;simp only[ho];rw[hx];unfold zcn at h;split at h
  . rename_i hv;cases h;rw[hv];simp
  . rename_i hv;cases h;rw[hv];simp
  . rename_i name xs ys hv;split at h
    . rename_i t p hx0;split at h
      . rename_i f hm;cases h;rw[hv,zbE];have h0:(xs.map (ren F))[0]?=some (.iface t (ren F (.pointer p))):=by rw[zi7,hx0];simp
        simp only[h0,zad,program,zc2,  qe];rw[show P.types.size+qI=(P.types.size+99)+1 from rfl,ziL hm]
        simp
      . cases h
    . cases h
  . rename_i hv;cases h;rw[hv];simp
  . cases h
theorem zdP{args : Array Value}(hf : P.funcs[f]? = some fn)(hb : fn.body.isSome = true)(hn : (fn.name == "runtime.NumGoroutine") = false): calm P (callFunc f args) = some (.enter f args) := by
  unfold callFunc;simp only[zad,program,zc2,  qe,hf,hn,Bool.false_eq_true,if_false];cases h:fn.body with
  | none=>rw[h]at hb;cases hb
  | some c=>simp
theorem zdE{args:Array Value}(hok:∀ x∈o.op.operands,ρ x=ren F (e x))(hv:zaJ P e o.op=some (f,args))(hf : P.funcs[f]? = some fn)(hb : fn.body.isSome = true)(hn : (fn.name == "runtime.NumGoroutine") = false): calm P (execOp ρ o) = some (.enter f (args.map (ren F))) := by
  obtain⟨dst,op,ty,pos,after,guard⟩:=o;simp only at hok hv;unfold zaJ at hv;split at hv
  . rename_i g zs ats;split at hv
    . rename_i k xs ys hg;cases hv;have hg':=hok g (by simp[qa,qd])
      have ha:=zf2 (ρ:=ρ) (e:=e) (F:=F) (xs:=zs) fun x hx=>hok x (by simp[qa,qd,hx])
      simp only[execOp,resolve,qE,hg',hg,zbE,zad,zaB,qe,invoke,zdP hf hb hn,ha];simp
    . rename_i name xs ys hg;split at hv
      . rename_i t p hx;split at hv
        . rename_i g' hm;cases hv;obtain rfl:xs=#[.iface t (.pointer p)]:=by rw[<-qf (xs:=xs),hx]
          have hg':=hok g (by simp[qa,qd])
          have ha:=zf2 (ρ:=ρ) (e:=e) (F:=F) (xs:=zs) fun x hx=>hok x (by simp[qa,qd,hx])
          simp only[execOp,resolve,qE,hg',hg,zbE,zad,zaB,qe,invoke,ha];have h0:((#[qR t (.pointer p)]:Array Value).map (ren F)++(zs.map e).map (ren F))[0]?=some (.iface t (ren F (.pointer p))):=by rw[qj (by simp)];simp
          simp only[h0,callMethod,zad,program,zc2,  qe];rw[show P.types.size+qI=(P.types.size+99)+1 from rfl,zg9 hm]
          simp only[qe,zdP hf hb hn];congr 2;apply qA;simp[qv]
        . cases hv
      . cases hv
    . cases hv
  . rename_i r name zs ats;split at hv
    . rename_i t p hr;split at hv
      . rename_i g hm;cases hv;have hr':=hok r (by simp[qa,qd])
        have ha:=zf2 (ρ:=ρ) (e:=e) (F:=F) (xs:=zs) fun x hx=>hok x (by simp[qa,qd,hx])
        simp only[execOp,resolve,hr',hr,zdb,zad,zaB,qe,invoke,ha];have h0:(#[qR t (ren F (.pointer p))]++(zs.map e).map (ren F))[0]?=some (.iface t (ren F (.pointer p))):=by rw[qj (by simp)];rfl
        simp only[h0,callMethod,zad,program,zc2,  qe];rw[show P.types.size+qI=(P.types.size+99)+1 from rfl,zg9 hm]
        simp only[qe,zdP hf hb hn];congr 2;apply qA;simp[qv]
      . cases hv
    . cases hv
  . cases hv
end
def _root_.Go.Oper.isLd(o:Oper):Bool:=match o.op with|.load ..=>true|_=>false
section
variable {P:Program}{F:Emb}{ρ e:Operand->Value}{w:World}
theorem zow{v:Value}(H:Holds F h w)(hok:∀x∈o.op.operands,ρ x=ren F (e x))(hl:o.isLd=false)(hv:valA P e h o.op=some v):calm P (execOp ρ o)=some (.value (ren F v)):=by
  obtain⟨dst,op,ty,pos,after,guard⟩:=o;simp only[Oper.isLd]at hok hl hv;unfold valA at hv;split at hv
  . rename_i x;cases hv;simp[execOp,hok x (by simp[qa])]
  . rename_i x;cases hv;simp[execOp,hok x (by simp[qa])]
  . rename_i c a b;split at hv
    . rename_i t hc;cases hv;simp only[execOp,hok c (by simp[qa]),hok a (by simp[qa]),hok b (by simp[qa]),hc,za8,asBool,zad,zaB,qe]
      cases t<;>rfl
    . cases hv
  . rename_i t i;split at hv
    . rename_i vs hvs;have:(qN (ρ t) i)=pure (ren F v):=by
        rw[hok t (by simp[qa]),hvs,zcP]
        unfold qN;simp only[zi7,hv,qS]
      simp[execOp,this]
    . cases hv
  . rename_i op t x y u;have:=zfe (P:=P) (F:=F)  (x:=x) hv;simp only[execOp,hok x (by simp[qa]),hok y (by simp[qa]),zad]at this ⊢
    rw[this];rfl
  . rename_i op t x;have:=zqg (P:=P) (F:=F)  hv;simp only[execOp,hok x (by simp[qa]),zad,this];rfl
  . rename_i s d x;have:=zja (P:=P) (F:=F)  hv;simp only[execOp,hok x (by simp[qa]),zad,this];rfl
  . rename_i t x i;have:=zku (P:=P) (F:=F)  hv;simp only[execOp,hok x (by simp[qa]),zad,this];rfl
  . rename_i t x i;have:=zkt (P:=P) (F:=F)  hv;simp only[execOp,hok x (by simp[qa]),hok i (by simp[qa]),zad,this];rfl
  . rename_i fn xs ys;cases hv;have h1:xs.map ρ=(xs.map e).map (ren F):=by
      rw[qG];exact qo fun x hx=>hok x (by simp[qa,hx])
    have h2:ys.map ρ=(ys.map e).map (ren F):=by
      rw[qG];exact qo fun x hx=>hok x (by simp[qa,hx])
    simp[execOp,Qg,h1,h2]
  . rename_i t x;split at hv
    . cases hv
    . rename_i d hd hu;cases hv;simp only[execOp,hok x (by simp[qa]),zad,q9,zae hu,qe]
      cases d<;>simp_all
    . cases hv
  . rename_i x;exact zhR rfl (hok x (by simp[qa])) hv
  . rename_i t x;split at hv
    . rename_i a ha;cases hl
    . cases hv
  . rename_i t x i;have:=zgP (P:=P) (F:=F)  hv;simp only[execOp,hok x (by simp[qa]),zad,this];rfl
  . rename_i t x i;have:=zhI (P:=P) (F:=F)  hv;simp only[execOp,hok x (by simp[qa]),hok i (by simp[qa]),zad,this];rfl
  . rename_i c;unfold zlp at hv;obtain⟨callee,args,ats⟩:=c;split at hv
    . rename_i hc;simp only at hc;subst hc;split at hv
      . rename_i x t hx ht;simp only at hx ht;obtain rfl:args=#[x]:=by rw[<-qf (xs:=args),hx]
        obtain rfl:ats=#[t]:=by rw[<-qf (xs:=ats),ht]
        have:=znM (P:=P) (F:=F)  (ty:=ty) hv;have hx:=hok x (by simp[qa,qd])
        simp only[execOp,resolve,zad,zaB,qe,invoke,builtin];rw[show(#[x].map ρ)=#[ren F (e x)] by simp[hx]]
        rw[this];rfl
      . cases hv
    . rename_i hc;simp only at hc;subst hc;split at hv
      . rename_i x l hx;simp only at hx;obtain rfl:args=(x::l).toArray:=by rw[<-qf (xs:=args),hx]
        have:=zjz (P:=P) (F:=F)  _ _ _ hv;have hx:((x::l).toArray.map ρ).toList=ren F (e x)::(l.map e).map (ren F):=by
          simp only[qi,zMp,qw];rw[hok x (by simp[qa,qd])]
          congr 1;exact ql fun y hy=>hok y (by simp[qa,qd,hy])
        simp only[execOp,resolve,zad,zaB,qe,invoke,builtin,Builtin.min_,hx,this]
      . cases hv
    . rename_i hc;simp only at hc;subst hc;split at hv
      . rename_i x l hx;simp only at hx;obtain rfl:args=(x::l).toArray:=by rw[<-qf (xs:=args),hx]
        have:=zjv (P:=P) (F:=F)  _ _ _ hv;have hx:((x::l).toArray.map ρ).toList=ren F (e x)::(l.map e).map (ren F):=by
          simp only[qi,zMp,qw];rw[hok x (by simp[qa,qd])]
          congr 1;exact ql fun y hy=>hok y (by simp[qa,qd,hy])
        simp only[execOp,resolve,zad,zaB,qe,invoke,builtin,Builtin.max_,hx,this]
      . cases hv
    . cases hv
  . rename_i t ps;have:=zkP (P:=P) (F:=F)  hv;have hp:(ps.map fun p=>(p.1,ρ p.2))=(((ps.toList.map fun p=>(p.1,e p.2))).map fun p=>(p.1,ren F p.2)).toArray:=by
      apply qA;simp only[qi,qw];exact ql fun p hp=>by
        simp only[qJ];rw[hok p.2 (by simp only[qa,qT,qx];exact⟨p,hp,rfl⟩)]
    simp only[execOp];rw[show(ps.map fun x=>match x with|(i,x)=>(i,ρ x))=(ps.map fun p=>(p.1,ρ p.2)) from rfl,hp,zad,this];rfl
  . rename_i t x lo hi mx;have:=zko (P:=P) (F:=F) H hv;have hm:∀y:Option Operand,(∀z,y=some z->z∈(Op.slice t x lo hi mx).operands)->y.map ρ=(y.map e).map (ren F):=by
      intro y hy;cases y with
      | none=>rfl
      | some z=>simp[hok z (hy z rfl)]
    simp only[execOp,hok x (by simp[qa])]
    rw[hm lo (by rintro z rfl;simp[qa]),hm hi (by rintro z rfl;simp[qa]),hm mx (by rintro z rfl;simp[qa]),zad,this];rfl
  . rename_i t x;have:=zi0 (P:=P) (F:=F)  hv;simp only[execOp,hok x (by simp[qa]),zad,this];rfl
  . cases hv
end
def zir:Obj->Bool
  | .view ..=>true
  | _=>false
def Dead{α:Type}:Sem α->Prop
  | .pure _=>False
  | .load _ _ k=>∀v,Dead (k v)
  | .store _ _ _ k=>Dead k
  | .new _ k=>∀r,Dead (k r)
  | .shape _ k=>∀x,Dead (k x)
  | .freeze _ _ k=>Dead k
  | .frozen _ k=>∀b,Dead (k b)
  | .getObj _ k=>∀o,Dead (k o)
  | .setObj _ _ k=>Dead k
  | .choose _ k=>∀n,Dead (k n)
  | .sys _ k=>∀r,Dead (k r)
  | .program k=>∀p,Dead (k p)
  | .mark _ k=>Dead k
  | .halt _=>True
def Tame(P:Program){α:Type}:Sem α->Prop
  | .pure _=>True
  | .load m _ k=>m=.plain/\∀v,Tame P (k v)
  | .store m _ _ k=>m=.plain/\Tame P k
  | .new o k=>zir o=false/\∀r,Tame P (k r)
  | .choose _ k=>∀n,Tame P (k n)
  | .program k=>Tame P (k P)
  | .halt _=>True
  | .shape _ k=>∀x,Dead (k x)
  | .freeze _ _ k=>Dead k
  | .frozen _ k=>∀b,Dead (k b)
  | .getObj _ k=>∀o,Dead (k o)
  | .setObj _ _ k=>Dead k
  | .sys _ k=>∀r,Dead (k r)
  | .mark m k=>m=.noRoom/\Tame P k
section
variable {P:Program}{α β:Type}
theorem Dead.bind'{x:Sem α}{f:α->Sem β}(h:Dead x):Dead (x.bind f):=by
  induction x with
  | pure a=>exact h.elim
  | halt _=>trivial
  | load m a k ih=>exact fun v=>ih v (h v)
  | store m a v k ih=>exact ih h
  | new o k ih=>exact fun v=>ih v (h v)
  | shape r k ih=>exact fun v=>ih v (h v)
  | freeze a n k ih=>exact ih h
  | frozen a k ih=>exact fun v=>ih v (h v)
  | getObj r k ih=>exact fun v=>ih v (h v)
  | setObj r o k ih=>exact ih h
  | choose q k ih=>exact fun v=>ih v (h v)
  | sys c k ih=>exact fun v=>ih v (h v)
  | program k ih=>exact fun v=>ih v (h v)
  | mark m k ih=>exact ih h
theorem Dead.after'{x:Sem α}{f:α->Sem β}(h:∀a,Dead (f a)):Dead (x.bind f):=by
  induction x with
  | pure a=>exact h a
  | halt _=>trivial
  | load m a k ih=>exact fun v=>ih v
  | store m a v k ih=>exact ih
  | new o k ih=>exact fun v=>ih v
  | shape r k ih=>exact fun v=>ih v
  | freeze a n k ih=>exact ih
  | frozen a k ih=>exact fun v=>ih v
  | getObj r k ih=>exact fun v=>ih v
  | setObj r o k ih=>exact ih
  | choose q k ih=>exact fun v=>ih v
  | sys c k ih=>exact fun v=>ih v
  | program k ih=>exact fun v=>ih v
  | mark m k ih=>exact ih
theorem Dead.after{x:Sem α}{f:α->Sem β}(h:∀a,Dead (f a)):Dead (x >>= f):=Dead.after' h
theorem ziz{x:Sem α}{f:α->Sem β}(h:Tame P x)(hf:∀a,Tame P (f a)):Tame P (x.bind f):=by
  induction x with
  | pure a=>exact hf a
  | load m a k ih=>exact⟨h.1,fun v=>ih v (h.2 v)⟩
  | store m a v k ih=>exact⟨h.1,ih h.2⟩
  | new o k ih=>exact⟨h.1,fun r=>ih r (h.2 r)⟩
  | choose q k ih=>exact fun n=>ih n (h n)
  | program k ih=>exact ih P h
  | halt _=>trivial
  | shape r k ih=>exact fun x=>(h x).bind'
  | freeze a n k ih=>exact Dead.bind' (show Dead k from h)
  | frozen a k ih=>exact fun x=>(h x).bind'
  | getObj r k ih=>exact fun x=>(h x).bind'
  | setObj r o k ih=>exact Dead.bind' (show Dead k from h)
  | sys c k ih=>exact fun x=>(h x).bind'
  | mark m k ih=>exact⟨h.1,ih h.2⟩
theorem zam{x:Sem α}{f:α->Sem β}(h:Tame P x)(hf:∀a,Tame P (f a)):Tame P (x >>= f):=ziz h hf
theorem zqu{x:Sem α}{f:α->β}(h:Tame P x):Tame P (f <$> x):=by
  show Tame P (x.bind fun a=>.pure (f a));exact ziz h fun _=>trivial
theorem zjF(a:α):Tame P (pure a:Sem α):=trivial
theorem zmb{x:Sem α}{a:α}{f:α->Sem β}(h:calm P x=some a)(hf:Tame P (f a)):Tame P (x.bind f):=by
  induction x with
  | pure b=>cases h;exact hf
  | program k ih=>exact ih P h
  | _=>cases h
theorem zfN{x:Sem α}{a:α}{f:α->Sem β}(h:calm P x=some a)(hf:Tame P (f a)):Tame P (x >>= f):=zmb h hf
theorem zce{x:Sem α}{a:α}(h:calm P x=some a):Tame P x:=by
  induction x with
  | pure b=>trivial
  | program k ih=>exact ih P h
  | _=>cases h
theorem zjo(a:Addr):Tame P (load a):=⟨rfl,fun _=>trivial⟩
theorem zm9(a:Addr)(v:Value):Tame P (store a v):=⟨rfl,trivial⟩
theorem zdr(a:Addr):∀(n i:Nat) (acc:Array Value),Tame P (loadCellsFrom a i n acc)
  | 0,_,_=>trivial
  | n+1,i,acc=>zam (zjo _) fun v=>zdr a n (i+1) (acc.push v)
theorem za9(a:Addr)(n:Nat):Tame P (loadCells a n):=zdr a n 0 #[]
theorem zaZ(a:Addr):∀(vs:List Value) (i:Nat),Tame P (storeCells a vs i)
  | [],_=>trivial
  | v::vs,i=>zam (zm9 _ _) fun _=>zaZ a vs (i+1)
theorem zaC(t:TypeId):Tame P (underlying t):=by
  unfold underlying;refine zfN (zcj P) ?_;split<;>trivial
theorem zbm(t:TypeId):Tame P (typeInfo t):=by
  unfold typeInfo;refine zfN (zcj P) ?_;split<;>trivial
theorem za3(t:TypeId):Tame P (sizeOf t):=zam (zbm t) fun _=>trivial
theorem zcC(t:TypeId):Tame P (isAgg t):=zam (zaC t) fun d=>by split<;>trivial
theorem zgg(t:TypeId)(a:Addr):Tame P (loadVar t a):=by
  refine zam (zcC t) fun b=>?_;split
  . exact zam (za3 t) fun n=>zam (za9 a n) fun _=>trivial
  . exact zjo a
theorem zjh(t:TypeId)(a:Addr)(v:Value):Tame P (storeVar t a v):=by
  refine zam (za3 t) fun n=>?_;split
  . exact trivial
  . exact zaZ _ _ _
theorem zd0(v:Value):Tame P (q0 v):=by unfold q0;split<;>trivial
theorem zkz(t:TypeId)(v:Value):Tame P (Instr.loadAt t v):=zam (zd0 v) fun a=>zgg t a
theorem zj3(t:TypeId)(v x:Value):Tame P (q2 t v x):=zam (zd0 v) fun a=>zjh t a x
theorem zbo(t:TypeId)(cs:Array Value):Tame P (newRow t cs):=⟨rfl,fun _=>trivial⟩
theorem zba(t:TypeId):Tame P (zeroValue t):=zam (zbm t) fun i=>by split<;>trivial
theorem zni(t:TypeId):Tame P (Instr.alloc t true (.tuple #[])):=zam (zba t) fun z=>zam (zbo _ _) fun _=>trivial
theorem zqa(t:TypeId)(v:Value):Tame P (Instr.box t v):=zam (zbo _ _) fun _=>trivial
theorem zg3(t:TypeId)(len:Nat)(ps:Array (Nat×Value)):Tame P (qQ t len ps):=by
  unfold qQ
  repeat'(first|exact trivial|exact zaC _|exact za3 _|exact zba _|exact zbo _ _|(refine zam ?_ fun _=>?_)|split|dsimp only)
theorem zbq(s n:Nat)(v:Value):Tame P (qg s n v):=by
  unfold qg;split<;>first|exact za9 _ _|exact trivial
theorem zck(v:Value):Tame P (qn v):=by unfold qn;split<;>exact trivial
theorem zch(n:Nat):Tame P (askRoom n):=by unfold askRoom;split;exact⟨rfl,trivial⟩;exact trivial
theorem zca(q:Question):Tame P (choose q):=fun _=>trivial
theorem zci(v:Value):Tame P (asInt v):=by unfold asInt asIntOf;refine zam ?_ fun _=>trivial;split<;>exact trivial
theorem zcc{α:Type}(e:RuntimeError):Tame P (runtimePanic e:Sem α):=by
  unfold runtimePanic;refine zfN (zcj P) ?_;cases e<;>simp only[]<;>repeat'(first|exact trivial|exact zbo _ _|exact zaC _|(unfold elemOf newVar)|(refine zam ?_ fun _=>?_)|split|dsimp only)
end
end Go.Proofs.Ytpkkfkebnhgaiaa
