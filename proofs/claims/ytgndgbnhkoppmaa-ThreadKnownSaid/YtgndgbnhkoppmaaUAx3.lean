/-
  The abstract machine, part 3: one operation, whichever it is: values, calls, new rows, stores.
  No condition: laws.
-/
import Derived.Test.YtgndgbnhkoppmaaUAx1
import Derived.Laws.MakeOwn
set_option maxHeartbeats 40000000
set_option linter.unusedVariables false
set_option linter.unusedSimpArgs false
namespace Go.Proofs.Ytgndgbnhkoppmaa
open Go
theorem zcO (F:Emb) (v:Value):(ren F v).cells=v.cells.map (ren F):=by
  cases v with
  | pointer a=>cases a<;>simp [Value.cells]
  | slice a n c=>cases a<;>simp [Value.cells]
  | agg cs=>simp [Value.cells]
  | _=>simp [Value.cells,ren]
theorem zdf (l:List Value) (off:Nat) (vs:List Value) (h:off+vs.length<=l.length):(zaQ l off vs).length=l.length:=by
  unfold zaQ;simp;omega
theorem zgT (l:List Value) (off:Nat) (vs:List Value) (h:off+vs.length<=l.length) (j:Nat):(zaQ l off vs)[j]?=if off<=j/\j<off+vs.length then vs[j - off]? else l[j]?:=by
  unfold zaQ;have hl:(l.take off).length=off:=by simp;omega
  by_cases h1:j<off
  . rw [List.append_assoc,List.getElem?_append_left (by omega),if_neg (by omega),List.getElem?_take_of_lt h1]
  . rw [List.append_assoc,List.getElem?_append_right (by omega),hl]
    by_cases h2:j<off+vs.length
    . rw [List.getElem?_append_left (by omega),if_pos (by omega)]
    . rw [List.getElem?_append_right (by omega),if_neg (by omega),List.getElem?_drop]
      congr 1;omega
theorem zl1 (l:List Value) (i:Nat) (v:Value) (h:i<l.length):l.set i v=zaQ l i [v]:=by
  apply List.ext_getElem?;intro j;rw [zgT l i [v] (by simp;omega),List.getElem?_set]
  by_cases hj:i=j
  . subst hj;simp [h]
  . rw [if_neg hj,if_neg (by simp only [List.length_cons,List.length_nil];omega)]
theorem zh5 (pre m post:Array Value) (j:Nat):(pre++m++post)[j]?=if j<pre.size then pre[j]? else if j - pre.size<m.size then m[j - pre.size]? else post[j - pre.size - m.size]?:=by
  by_cases h1:j<pre.size
  . rw [if_pos h1,Array.append_assoc,Array.getElem?_append_left h1]
  . rw [if_neg h1,Array.append_assoc,Array.getElem?_append_right (by omega)]
    by_cases h2:j - pre.size<m.size
    . rw [if_pos h2,Array.getElem?_append_left h2]
    . rw [if_neg h2,Array.getElem?_append_right (by omega)]
theorem ziB (pre post:Array Value) (cs vs:List Value) (off:Nat) (h:off+vs.length<=cs.length):over (pre++cs.toArray++post) (pre.size+off) vs=pre++(zaQ cs off vs).toArray++post:=by
  apply Array.ext_getElem?;intro j;have hlen:=zdf cs off vs h;rw [ziF _ _ _ _ (by simp only [Array.size_append,List.size_toArray];omega),zh5,zh5]
  simp only [List.size_toArray,List.getElem?_toArray,hlen,zgT cs off vs h];by_cases h1:j<pre.size
  . rw [if_neg (by omega),if_pos h1,if_pos h1]
  . rw [if_neg h1,if_neg h1];by_cases h2:j - pre.size<cs.length
    . rw [if_pos h2,if_pos h2];by_cases h3:off<=j - pre.size/\j - pre.size<off+vs.length
      . rw [if_pos (by omega),if_pos h3]
        congr 1;omega
      . rw [if_neg (by omega),if_neg h3]
    . rw [if_neg (by omega),if_neg h2,if_neg h2]
theorem zjs (off:Nat):∀ (l:List Value) (k:Nat) (cells:Array Value),(l.zipIdx k).foldl (fun (cs:Array Value) (p:Value × Nat)=>cs.setIfInBounds (off+p.2) p.1) cells=over cells (off+k) l
  | [],_,_=>rfl
  | v::l,k,cells=>by
    rw [List.zipIdx_cons,List.foldl_cons,zjs off l (k+1),over];rfl
theorem zfm {F:Emb} (place:Nat->Option (Nat × Nat)):∀ (ps:List (Nat × Value)) (cs cs':List Value),zfJ place cs ps=some cs'->Instr.fill place (cs.map (ren F)).toArray (ps.map fun p=>(p.1,ren F p.2))=some (cs'.map (ren F)).toArray
  | [],cs,cs',h=>by cases h;rfl
  | (i,v)::ps,cs,cs',h=>by
    unfold zfJ at h;simp only [List.map_cons];unfold Instr.fill;cases hp:place i with
    | none=>rw [hp] at h;cases h
    | some q =>
      obtain⟨off,size⟩:=q;rw [hp] at h;simp only at h ⊢;split at h
      . cases h
      . rename_i hc;rw [not_or] at hc;have hsz:(ren F v).cells.size=v.cells.size:=by rw [zcO];simp
        rw [if_neg (by simp only [hsz,List.size_toArray,List.length_map,ne_eq,Bool.or_eq_true,decide_eq_true_eq,not_or];exact⟨hc.1,hc.2⟩)]
        rw [<-zfm place ps _ _ h];congr 1;rw [<-Array.foldl_toList,Array.toList_zipIdx];rw [zjs off (ren F v).cells.toList 0,zcO];have:=ziB #[] #[] (cs.map (ren F)) (v.cells.toList.map (ren F)) off (by simp only [List.length_map,Array.length_toList];omega)
        simp only [Array.empty_append,Array.append_empty,List.size_toArray,List.length_nil,Nat.zero_add] at this;rw [Array.toList_map,Nat.add_zero,this];congr 1;simp [zaQ,List.map_take,List.map_drop]
theorem zhO (z:List Value):∀ (n i:Nat),(zbr z n)[i]?=if i<n * z.length then z[i % z.length]? else none
  | 0,i=>by simp [zbr]
  | n+1,i=>by
    unfold zbr;by_cases h:i<z.length
    . rw [List.getElem?_append_left h,if_pos (by rw [Nat.add_mul];omega),Nat.mod_eq_of_lt h]
    . rw [List.getElem?_append_right (by omega),zhO z n]
      have h1:(i - z.length<n * z.length)↔(i<(n+1) * z.length):=by rw [Nat.add_mul];omega
      simp only [h1];split
      . rw [Nat.mod_eq_sub_mod (a:=i) (b:=z.length) (by omega)]
      . rfl
theorem zhF (z:List Value):∀ n,(zbr z n).length=n * z.length
  | 0=>by simp [zbr]
  | n+1=>by rw [zbr,List.length_append,zhF z n,Nat.add_mul];omega
theorem zf2 (z:Array Value) (n s:Nat) (hs:z.size=s):(Array.range (n * s)).map (fun i=>z[i % z.size]!)=(zbr z.toList n).toArray:=by
  apply Array.ext_getElem?;intro i;rw [Array.getElem?_map,show (zbr z.toList n).toArray[i]?=(zbr z.toList n)[i]? by simp,zhO,Array.length_toList,hs]
  by_cases h:i<n * s
  . have h0:0<s:=by rcases Nat.eq_zero_or_pos s with h0|h0;(subst h0;simp at h);exact h0
    have hm:i % s<z.size:=by rw [hs];exact Nat.mod_lt _ h0
    rw [if_pos h];simp [h,hm]
  . rw [if_neg h];simp [Nat.le_of_not_lt h]
theorem zfM {F:Emb} {z:List Value} (h:z.map (ren F)=z):∀ n,(zbr z n).map (ren F)=zbr z n
  | 0=>rfl
  | n+1=>by rw [zbr,List.map_append,h,zfM h n]
section
variable {P:Program} {ρ:Operand->Value} {e:Operand->Value} {F:Emb} {w:World}
theorem zew {t:TypeId} {z:Value} (hz:zaw P t=some z):(zeroValue t).run P w=.ok z w:=by
  unfold zaw at hz;cases hi:P.info? t with
  | none=>rw [hi] at hz;cases hz
  | some i=>rw [hi] at hz;simp at hz;simp [zeroValue,typeInfo,hi,hz,Sem.run_bind]
theorem zek {z:Value} (hp:zac z=true):z.cells.toList.map (ren F)=z.cells.toList:=by
  rw [<-Array.toList_map,<-zcO,zaC F hp]
theorem zgm:∀ (fs:List Field) (l:List (Nat × Nat)),zei P fs=some l->(fs.mapM fun f=>(do pure (f.offset,<-sizeOf f.type):Sem (Nat × Nat))).run P w=.ok l w
  | [],l,h=>by cases h;simp
  | f::fs,l,h=>by
    unfold zei at h;split at h
    . rename_i s l' hs hl;cases h;have:=zgm fs l' hl;simp only [List.mapM_cons,Sem.run_bind,za7 hs,Result.andThen_ok,Sem.run_pure,this]
    . cases h
theorem zl2 {t:TypeId} {ps:List (Nat × Value)} {v:Value} (h:zg2 P t ps=some v):(Instr.build t (ps.map fun p=>(p.1,ren F p.2)).toArray).run P w=.ok (ren F v) w:=by
  unfold zg2 at h;split at h
  . rename_i z pl hz hpl;split at h
    . rename_i hp;cases hf:zfJ pl z.cells.toList ps with
      | none=>rw [hf] at h;cases h
      | some cs =>
        rw [hf] at h;cases h;have hfill:=zfm (F:=F) pl ps _ _ hf;rw [zek hp] at hfill;unfold zbk at hpl;split at hpl
        . rename_i fs hu;cases hl:zei P fs.toList with
          | none=>rw [hl] at hpl;cases hpl
          | some l =>
            rw [hl] at hpl;cases hpl;have hm:=zgm (w:=w) _ _ hl;have hm':(fs.mapM fun f=>(do pure (f.offset,<-sizeOf f.type):Sem (Nat × Nat))).run P w=.ok l.toArray w:=by
              rw [Array.mapM_eq_mapM_toList];simp only [map_eq_pure_bind,Sem.run_bind,hm,Result.andThen_ok,Sem.run_pure]
            have hg:(fun i:Nat=>l.toArray[i]?)=fun i:Nat=>l[i]?:=by funext i;simp
            simp only [Instr.build,Sem.run_bind,zew hz,run_underlying hu,Result.andThen_ok,hm'];rw [hg,show z.cells=z.cells.toList.toArray by simp,hfill]
            simp
        . rename_i n el hu;cases hs:zal P el with
          | none=>rw [hs] at hpl;cases hpl
          | some s =>
            rw [hs] at hpl;cases hpl;simp only [Instr.build,Sem.run_bind,zew hz,run_underlying hu,Result.andThen_ok,za7 hs];rw [show z.cells=z.cells.toList.toArray by simp,hfill]
            simp
        . cases hpl
    . cases h
  . cases h
theorem zfo {t:TypeId} {name:String} {f:FuncId} (h:za9 P t name=some f):∃ i m el,P.info? t=some i/\i.methods.find? (·.name==name)=some m/\m.path=#[]/\m.func=some (f,true)/\P.underlying t=some (.pointer el):=by
  unfold za9 at h;split at h
  . rename_i i el hi hu;split at h
    . rename_i m hm;split at h
      . rename_i hp;split at h
        . rename_i g hf;cases h;exact⟨i,m,el,hi,hm,by simpa using hp,hf,hu⟩
        . cases h
      . cases h
    . cases h
  . cases h
theorem zjc {t:TypeId} {name:String} {f:FuncId} (h:za9 P t name=some f) (n:Nat) (v:Value):(nilAhead (n+1) t v name).run P w=.ok (some false) w:=by
  obtain⟨i,m,el,hi,hm,hp,hf,hu⟩:=zfo h;unfold nilAhead;simp [Sem.run_bind,typeInfo,hi,hm,hp,followBlind,hf]
theorem zhJ {t:TypeId} {name:String} {f:FuncId} (h:za9 P t name=some f) (n:Nat) (v:Value):(method (n+1) t v name).run P w=.ok (f,v) w:=by
  obtain⟨i,m,el,hi,hm,hp,hf,hu⟩:=zfo h;unfold method;simp [Sem.run_bind,typeInfo,hi,hm,hp,follow,hf,receiverAt,run_underlying hu,Place.get]
theorem zh3 (xs:Array Value) (i:Nat):(xs.map (ren F))[i]?=(xs[i]?).map (ren F):=by simp
theorem ziu {o:Oper} {x:Operand} {v:Value} (ho:o.op=.nilCheck x) (hx:ρ x=ren F (e x)) (h:zci P (e x)=some v):(execOp ρ o).run P w=.ok (.value (ren F v)) w:=by
  unfold execOp;simp only [ho];rw [hx];unfold zci at h;split at h
  . rename_i hv;cases h;rw [hv];simp
  . rename_i hv;cases h;rw [hv];simp
  . rename_i name xs ys hv;split at h
    . rename_i t p hx0;split at h
      . rename_i f hm;cases h;rw [hv,zbx];have h0:(xs.map (ren F))[0]?=some (.iface t (ren F (.pointer p))):=by rw [zh3,hx0];simp
        simp only [h0,Sem.run_bind,program,Sem.run,Result.andThen_ok];rw [show P.types.size+Made.depth=(P.types.size+99)+1 from rfl,zjc hm]
        simp
      . cases h
    . cases h
  . rename_i hv;cases h;rw [hv];simp
  . cases h
theorem zin {h:AHeap} {o:Oper} {v:Value} (H:Holds F h w) (hok:∀ x∈o.op.operands,ρ x=ren F (e x)) (hv:valA P e h o.op=some v):(execOp ρ o).run P w=.ok (.value (ren F v)) w:=by
  obtain⟨dst,op,ty,pos,after,guard⟩:=o;simp only at hok hv;unfold valA at hv;split at hv
  . rename_i x;cases hv;simp [execOp,hok x (by simp [Op.operands])]
  . rename_i x;cases hv;simp [execOp,hok x (by simp [Op.operands])]
  . rename_i c a b;split at hv
    . rename_i t hc;cases hv;simp only [execOp,hok c (by simp [Op.operands]),hok a (by simp [Op.operands]),hok b (by simp [Op.operands]),hc,za3,asBool,Sem.run_bind,Sem.run_pure,Result.andThen_ok]
      cases t<;>rfl
    . cases hv
  . rename_i t i;split at hv
    . rename_i vs hvs;have:(Instr.extract (ρ t) i)=pure (ren F v):=by
        rw [hok t (by simp [Op.operands]),hvs,zcQ]
        unfold Instr.extract;simp only [zh3,hv,Option.map_some]
      simp [execOp,this]
    . cases hv
  . rename_i op t x y u;have:=zl5 (P:=P) (F:=F) (w:=w) (x:=x) hv;simp only [execOp,hok x (by simp [Op.operands]),hok y (by simp [Op.operands]),Sem.run_bind] at this ⊢
    rw [this];rfl
  . rename_i op t x;have:=zqP (P:=P) (F:=F) (w:=w) hv;simp only [execOp,hok x (by simp [Op.operands]),Sem.run_bind,this];rfl
  . rename_i s d x;have:=zjf (P:=P) (F:=F) (w:=w) hv;simp only [execOp,hok x (by simp [Op.operands]),Sem.run_bind,this];rfl
  . rename_i t x i;have:=zlV (P:=P) (F:=F) (w:=w) hv;simp only [execOp,hok x (by simp [Op.operands]),Sem.run_bind,this];rfl
  . rename_i t x i;have:=zl7 (P:=P) (F:=F) (w:=w) hv;simp only [execOp,hok x (by simp [Op.operands]),hok i (by simp [Op.operands]),Sem.run_bind,this];rfl
  . rename_i fn xs ys;cases hv;have h1:xs.map ρ=(xs.map e).map (ren F):=by
      rw [Array.map_map];exact Array.map_congr_left fun x hx=>hok x (by simp [Op.operands,hx])
    have h2:ys.map ρ=(ys.map e).map (ren F):=by
      rw [Array.map_map];exact Array.map_congr_left fun x hx=>hok x (by simp [Op.operands,hx])
    simp [execOp,Instr.makeFunc,h1,h2]
  . rename_i t x;split at hv
    . cases hv
    . rename_i d hd hu;cases hv;simp only [execOp,hok x (by simp [Op.operands]),Sem.run_bind,Instr.makeInterface,run_underlying hu,Result.andThen_ok]
      cases d<;>simp_all
    . cases hv
  . rename_i x;exact ziu rfl (hok x (by simp [Op.operands])) hv
  . rename_i t x;split at hv
    . rename_i a ha;have:=zje H hv;simp only [execOp,hok x (by simp [Op.operands]),ha,zba,Sem.run_bind,this];rfl
    . cases hv
  . rename_i t x i;have:=zhs (P:=P) (F:=F) (w:=w) hv;simp only [execOp,hok x (by simp [Op.operands]),Sem.run_bind,this];rfl
  . rename_i t x i;have:=zhl (P:=P) (F:=F) (w:=w) hv;simp only [execOp,hok x (by simp [Op.operands]),hok i (by simp [Op.operands]),Sem.run_bind,this];rfl
  . rename_i c;unfold zoi at hv;obtain⟨callee,args,ats⟩:=c;split at hv
    . rename_i hc;simp only at hc;subst hc;split at hv
      . rename_i x t hx ht;simp only at hx ht;obtain rfl:args=#[x]:=by rw [<-Array.toArray_toList (xs:=args),hx]
        obtain rfl:ats=#[t]:=by rw [<-Array.toArray_toList (xs:=ats),ht]
        have:=zqv (P:=P) (F:=F) (w:=w) (ty:=ty) hv;have hx:=hok x (by simp [Op.operands,Call.operands])
        simp only [execOp,resolve,Sem.run_bind,Sem.run_pure,Result.andThen_ok,invoke,builtin];rw [show (#[x].map ρ)=#[ren F (e x)] by simp [hx]]
        rw [this];rfl
      . cases hv
    . rename_i hc;simp only at hc;subst hc;split at hv
      . rename_i x l hx;simp only at hx;obtain rfl:args=(x::l).toArray:=by rw [<-Array.toArray_toList (xs:=args),hx]
        have:=zkI (P:=P) (F:=F) (w:=w) _ _ _ hv;have hx:((x::l).toArray.map ρ).toList=ren F (e x)::(l.map e).map (ren F):=by
          simp only [Array.toList_map,List.map_cons,List.map_map];rw [hok x (by simp [Op.operands,Call.operands])]
          congr 1;exact List.map_congr_left fun y hy=>hok y (by simp [Op.operands,Call.operands,hy])
        simp only [execOp,resolve,Sem.run_bind,Sem.run_pure,Result.andThen_ok,invoke,builtin,Builtin.min_,hx,this]
      . cases hv
    . rename_i hc;simp only at hc;subst hc;split at hv
      . rename_i x l hx;simp only at hx;obtain rfl:args=(x::l).toArray:=by rw [<-Array.toArray_toList (xs:=args),hx]
        have:=zlh (P:=P) (F:=F) (w:=w) _ _ _ hv;have hx:((x::l).toArray.map ρ).toList=ren F (e x)::(l.map e).map (ren F):=by
          simp only [Array.toList_map,List.map_cons,List.map_map];rw [hok x (by simp [Op.operands,Call.operands])]
          congr 1;exact List.map_congr_left fun y hy=>hok y (by simp [Op.operands,Call.operands,hy])
        simp only [execOp,resolve,Sem.run_bind,Sem.run_pure,Result.andThen_ok,invoke,builtin,Builtin.max_,hx,this]
      . cases hv
    . cases hv
  . rename_i t ps;have:=zl2 (P:=P) (F:=F) (w:=w) hv;have hp:(ps.map fun p=>(p.1,ρ p.2))=(((ps.toList.map fun p=>(p.1,e p.2))).map fun p=>(p.1,ren F p.2)).toArray:=by
      apply Array.ext';simp only [Array.toList_map,List.map_map];exact List.map_congr_left fun p hp=>by
        simp only [Function.comp_apply];rw [hok p.2 (by simp only [Op.operands,List.mem_toArray,List.mem_map];exact⟨p,hp,rfl⟩)]
    simp only [execOp];rw [show (ps.map fun x=>match x with|(i,x)=>(i,ρ x))=(ps.map fun p=>(p.1,ρ p.2)) from rfl,hp,Sem.run_bind,this];rfl
  . rename_i t x lo hi mx;have:=zmM (P:=P) (F:=F) H hv;have hm:∀ y:Option Operand,(∀ z,y=some z->z∈(Op.slice t x lo hi mx).operands)->y.map ρ=(y.map e).map (ren F):=by
      intro y hy;cases y with
      | none=>rfl
      | some z=>simp [hok z (hy z rfl)]
    simp only [execOp,hok x (by simp [Op.operands])]
    rw [hm lo (by rintro z rfl;simp [Op.operands]),hm hi (by rintro z rfl;simp [Op.operands]),hm mx (by rintro z rfl;simp [Op.operands]),Sem.run_bind,this];rfl
  . rename_i t x;have:=zjk (P:=P) (F:=F) (w:=w) hv;simp only [execOp,hok x (by simp [Op.operands]),Sem.run_bind,this];rfl
  . cases hv
theorem zd4 {f : FuncId} {fn : Func} {args : Array Value} (hf : P.funcs[f]? = some fn) (hb : fn.body.isSome = true) (hn : (fn.name == "runtime.NumGoroutine") = false) : (callFunc f args).run P w = .ok (.enter f args) w := by
  unfold callFunc;simp only [Sem.run_bind,program,Sem.run,Result.andThen_ok,hf,hn,Bool.false_eq_true,if_false];cases h:fn.body with
  | none=>rw [h] at hb;cases hb
  | some c=>simp
theorem zfG {xs:Array Operand} (h:∀ x∈xs,ρ x=ren F (e x)):xs.map ρ=(xs.map e).map (ren F):=by
  rw [Array.map_map];exact Array.map_congr_left fun x hx=>h x hx
theorem zd1 {o:Oper} {f:FuncId} {fn:Func} {args:Array Value} (hok:∀ x∈o.op.operands,ρ x=ren F (e x)) (hv:zaW P e o.op=some (f,args))
    (hf : P.funcs[f]? = some fn) (hb : fn.body.isSome = true) (hn : (fn.name == "runtime.NumGoroutine") = false) : (execOp ρ o).run P w = .ok (.enter f (args.map (ren F))) w := by
  obtain⟨dst,op,ty,pos,after,guard⟩:=o;simp only at hok hv;unfold zaW at hv;split at hv
  . rename_i g zs ats;split at hv
    . rename_i k xs ys hg;cases hv;have hg':=hok g (by simp [Op.operands,Call.operands])
      have ha:=zfG (ρ:=ρ) (e:=e) (F:=F) (xs:=zs) fun x hx=>hok x (by simp [Op.operands,Call.operands,hx])
      simp only [execOp,resolve,Deferred.ofValue,hg',hg,zbx,Sem.run_bind,Sem.run_pure,Result.andThen_ok,invoke,zd4 hf hb hn,ha];simp
    . rename_i name xs ys hg;split at hv
      . rename_i t p hx;split at hv
        . rename_i g' hm;cases hv;obtain rfl:xs=#[.iface t (.pointer p)]:=by rw [<-Array.toArray_toList (xs:=xs),hx]
          have hg':=hok g (by simp [Op.operands,Call.operands])
          have ha:=zfG (ρ:=ρ) (e:=e) (F:=F) (xs:=zs) fun x hx=>hok x (by simp [Op.operands,Call.operands,hx])
          simp only [execOp,resolve,Deferred.ofValue,hg',hg,zbx,Sem.run_bind,Sem.run_pure,Result.andThen_ok,invoke,ha];have h0:((#[Value.iface t (.pointer p)]:Array Value).map (ren F)++(zs.map e).map (ren F))[0]?=some (.iface t (ren F (.pointer p))):=by rw [Array.getElem?_append_left (by simp)];simp
          simp only [h0,callMethod,Sem.run_bind,program,Sem.run,Result.andThen_ok];rw [show P.types.size+Made.depth=(P.types.size+99)+1 from rfl,zhJ hm]
          simp only [Result.andThen_ok,zd4 hf hb hn];congr 2;apply Array.ext';simp [List.take_of_length_le]
        . cases hv
      . cases hv
    . cases hv
  . rename_i r name zs ats;split at hv
    . rename_i t p hr;split at hv
      . rename_i g hm;cases hv;have hr':=hok r (by simp [Op.operands,Call.operands])
        have ha:=zfG (ρ:=ρ) (e:=e) (F:=F) (xs:=zs) fun x hx=>hok x (by simp [Op.operands,Call.operands,hx])
        simp only [execOp,resolve,hr',hr,zcZ,Sem.run_bind,Sem.run_pure,Result.andThen_ok,invoke,ha];have h0:(#[Value.iface t (ren F (.pointer p))]++(zs.map e).map (ren F))[0]?=some (.iface t (ren F (.pointer p))):=by rw [Array.getElem?_append_left (by simp)];rfl
        simp only [h0,callMethod,Sem.run_bind,program,Sem.run,Result.andThen_ok];rw [show P.types.size+Made.depth=(P.types.size+99)+1 from rfl,zhJ hm]
        simp only [Result.andThen_ok,zd4 hf hb hn];congr 2;apply Array.ext';simp [List.take_of_length_le]
      . cases hv
    . cases hv
  . cases hv
structure Grew (w w':World) (o:Obj):Prop where
  heap:w'.heap=w.heap.push o
  os:w'.os=w.os
  tape:w'.tape=w.tape
  output:w'.output=w.output
theorem zep (w:World) (o:Obj):Grew w (w.alloc o) o:=⟨rfl,rfl,rfl,rfl⟩
theorem zoC (w:World) (o:Obj):Grew w (w.drew.alloc o) o:=⟨rfl,rfl,rfl,rfl⟩
theorem zen {h:AHeap} {s:Nat} {v:Value} {cs:List Value} (H:Holds F h w) (hv:zcx h s v=some cs):∃ a n c,v=.slice a n c/\(Builtin.firstCells s n (ren F v)).run P w=.ok (cs.map (ren F)).toArray w/\cs.length=n * s:=by
  unfold zcx at hv;split at hv
  . cases hv;exact⟨none,0,0,rfl,by simp [Builtin.firstCells],by simp⟩
  . rename_i a n c;refine⟨some a,n,c,rfl,?_⟩;split at hv
    . rename_i hn;cases hv;subst hn;refine⟨?_,by simp⟩
      rw [zaz];exact run_firstCells_some w s 0 _ _ _ [] (by simp) (fun j v hj=>by simp at hj)
    . split at hv
      . rename_i hsp;split at hv
        . rename_i b hb;split at hv
          . rename_i hl;cases hv;refine⟨?_,by simp;omega⟩
            rw [zaz];have:=run_firstCells_some (P:=P) w s n (adr F a) n (c+F.slack a.block) (((b.cells.drop a.off).take (n * s)).map (ren F)) (by simp;omega) (fun j v hj=>by
              rw [List.getElem?_map] at hj;have hj':j<n * s:=by
                cases hx:((b.cells.drop a.off).take (n * s))[j]? with
                | none=>rw [hx] at hj;cases hj
                | some u=>have:=(List.getElem?_eq_some_iff.1 hx).1;simp at this;omega
              rw [List.getElem?_take_of_lt hj',List.getElem?_drop] at hj;obtain⟨ab,ao,asp⟩:=a;simp only at hsp hb hl hj;subst hsp;rw [zbv _ _ rfl];cases hx:b.cells[ao+j]? with
              | none=>rw [hx] at hj;cases hj
              | some u =>
                rw [hx] at hj;simp only [Option.map_some,Option.some.injEq] at hj;subst hj;have:=H.cell hb hx;simp only [adr,Nat.add_assoc];exact this)
            exact this
          . cases hv
        . cases hv
      . cases hv
  . cases hv
theorem zgE (t ty el:TypeId) (i:TypeInfo) (z:Value) (ht:P.underlying t=some (.slice el)) (hi:P.info? el=some i) (hz:i.zero=some z) (base:Option Addr) (sLen sCap n:Nat) (x:Value) (olds news:Array Value)
    (hx:Builtin.lenOf x=pure n) (ho:(Builtin.firstCells i.size sLen (.slice base sLen sCap)).run P w.drew=.ok olds w.drew) (hn:(Builtin.firstCells i.size n x).run P w.drew=.ok news w.drew)
    (hg:sCap<sLen+n) (h63:sLen+n<=16777216) (hfit:i.bytes<=1048576) :
    (Builtin.append_ #[t,t] ty #[.slice base sLen sCap,x]).run P w=.ok (.slice (some ⟨w.heap.size,0,none⟩) (sLen+n) (grownCap w (sLen+n) sCap el))
        (w.drew.alloc (.cells (olds++news++Builtin.zeroCells z.cells (grownCap w (sLen+n) sCap el - (sLen+n))) el)):=by
  have hn':¬ (sLen+n<=sCap):=by omega
  have h63':¬ (9223372036854775807<((sLen:Int)+(n:Int))):=by omega
  have hb:(sLen+n) * i.bytes<=140737488355328:=Nat.le_trans (Nat.mul_le_mul h63 hfit) (by decide)
  have h48':¬ (281474976710656<Builtin.nextslicecap (sLen+n) sCap * i.bytes):=by have:=growslice_fits hg hb;omega
  simp [Builtin.append_,run_underlying ht,sizeOf,typeInfo,zeroValue,hi,hz,hx,hn',h63',h48',Question.forced,hn,ho,newRow,grownCap]
theorem zdA {t:TypeId} {s:Nat} (h:zal P t=some s):∃ i,P.info? t=some i/\i.size=s:=by
  unfold zal at h;cases hi:P.info? t with
  | none=>rw [hi] at h;cases h
  | some i=>rw [hi] at h;simp at h;exact⟨i,rfl,h⟩
theorem Holds.drew {h:AHeap} (H:Holds F h w):Holds F h w.drew:=⟨H.row,H.apart⟩
theorem zfT {h:AHeap} {t:TypeId} {x y:Value} {cs:List Value} {el:TypeId} {need:Nat} {q:Bool} (H:Holds F h w) (hv:zde P h t x y=some (cs,el,need,q)) :
    ∃ (a:Option Addr) (sl sc:Nat) (b:Option Addr) (n c s:Nat) (olds news:List Value),x=.slice a sl sc/\y=.slice b n c/\need=sl+n/\sc<need/\cs=olds++news/\za8 P t=some el/\zal P el=some (s+1)/\cs.length=need * (s+1)/\olds.length=sl * (s+1)/\news.length=n * (s+1) /\
      zcx h (s+1) x=some olds/\zcx h (s+1) y=some news /\
      (∀ (ty:TypeId) (cap:Nat),cap<need->∃ w' sl' post,(Builtin.append_ #[t,t] ty #[.slice (a.map (adr F)) sl cap,ren F y]).run P w=.ok (.slice (some ⟨w.heap.size,0,none⟩) need (need+sl')) w'/\Grew w w' (.cells ((cs.map (ren F)).toArray++post) el (0,0))/\sl' * (s+1)<=post.size) /\
      ((a=none/\q=true)\/∃ ad bk,a=some ad/\h.get ad.block=some bk/\((bk.grow=some 0/\q=true)\/(bk.ro=false/\bk.grow=some (s+1)/\bk.elem=el/\ad.spot=none/\ad.off+sc * (s+1)=bk.cells.length/\sl<=sc/\news.all zdI=true/\q=false))):=by
  unfold zde at hv;split at hv
  . rename_i el' hel;split at hv
    . rename_i s bs z olds news a sl sc b n c hs hbs hz hold hnew;rw [hs] at hold hnew;simp only [Option.getD_some] at hold hnew;split at hv
      . rename_i hc;obtain⟨hp,hzs,hbl,hlt,hle⟩:=hc;obtain⟨a1,n1,c1,e1,r1,l1⟩:=zen (P:=P) H.drew hold;obtain⟨a2,n2,c2,e2,r2,l2⟩:=zen (P:=P) H.drew hnew;cases e1;cases e2;obtain⟨i,hi,his⟩:=zdA hs;have hiz:i.zero=some z:=by unfold zaw at hz;rw [hi] at hz;simpa using hz
        have hib:i.bytes<=1048576:=by unfold zap at hbs;rw [hi] at hbs;simp at hbs;omega
        have hrun:∀ (ty:TypeId) (cap:Nat),cap<sl+n->∃ w' sl' post,(Builtin.append_ #[t,t] ty #[.slice (a.map (adr F)) sl cap,ren F (.slice b n c)]).run P w=.ok (.slice (some ⟨w.heap.size,0,none⟩) (sl+n) ((sl+n)+sl')) w'/\Grew w w' (.cells (((olds++news).map (ren F)).toArray++post) el' (0,0))/\sl' * (s+1)<=post.size:=by
          intro ty cap hcap;have hge:=grownCap_ge w (sl+n) cap el';have hol:(Builtin.firstCells i.size sl (.slice (a.map (adr F)) sl cap)).run P w.drew=.ok (olds.map (ren F)).toArray w.drew:=by
            rw [his,<-r1];cases a<;>simp [Builtin.firstCells]
          have hln:Builtin.lenOf (ren F (.slice b n c))=pure n:=by cases b<;>simp [Builtin.lenOf]
          have:=zgE (P:=P) (w:=w) t ty el' i z (zaG hel) hi hiz (a.map (adr F)) sl cap n (ren F (.slice b n c)) _ _ hln hol (by rw [his];exact r2) hcap hle hib
          refine⟨w.drew.alloc (.cells ((olds.map (ren F)).toArray++(news.map (ren F)).toArray++Builtin.zeroCells z.cells (grownCap w (sl+n) cap el' - (sl+n))) el'),grownCap w (sl+n) cap el' - (sl+n),Builtin.zeroCells z.cells (grownCap w (sl+n) cap el' - (sl+n)),?_,?_,?_⟩
          . rw [this,Nat.add_sub_cancel' hge]
          . have:=zoC w (.cells (((olds++news).map (ren F)).toArray++Builtin.zeroCells z.cells (grownCap w (sl+n) cap el' - (sl+n))) el' (0,0));rw [List.map_append,<-List.append_toArray] at this;rw [List.map_append,<-List.append_toArray];exact this
          . rw [size_zeroCells,hzs];exact Nat.le_refl _
        split at hv
        . cases hv;exact⟨none,sl,sc,b,n,c,s,olds,news,rfl,rfl,rfl,hlt,rfl,hel,hs,by rw [List.length_append,l1,l2,Nat.add_mul],l1,l2,hold,hnew,hrun,.inl ⟨rfl,rfl⟩⟩
        . rename_i ad;split at hv
          . rename_i bk hbk;split at hv
            . rename_i hg;cases hv;exact⟨some ad,sl,sc,b,n,c,s,olds,news,rfl,rfl,rfl,hlt,rfl,hel,hs,by rw [List.length_append,l1,l2,Nat.add_mul],l1,l2,hold,hnew,hrun,.inr ⟨ad,bk,rfl,hbk,.inl ⟨hg,rfl⟩⟩⟩
            . split at hv
              . rename_i hc;cases hv;exact⟨some ad,sl,sc,b,n,c,s,olds,news,rfl,rfl,rfl,hlt,rfl,hel,hs,by rw [List.length_append,l1,l2,Nat.add_mul],l1,l2,hold,hnew,hrun,.inr ⟨ad,bk,rfl,hbk,.inr ⟨hc.1,hc.2.1,hc.2.2.1,hc.2.2.2.1,hc.2.2.2.2.1,hc.2.2.2.2.2.1,hc.2.2.2.2.2.2,rfl⟩⟩⟩
              . cases hv
          . cases hv
      . cases hv
    . cases hv
  . cases hv
theorem zm3 {ps:Array (Nat × Operand)} (hok:∀ p∈ps.toList,ρ p.2=ren F (e p.2)):(ps.map fun x=>match x with|(i,x)=>(i,ρ x))=(((ps.toList.map fun p=>(p.1,e p.2))).map fun p=>(p.1,ren F p.2)).toArray:=by
  apply Array.ext';simp only [Array.toList_map,List.map_map];exact List.map_congr_left fun p hp=>by
    simp only [Function.comp_apply];rw [hok p hp]
theorem zk5 {o:Oper} {h:AHeap} {n:Nat} {v:Value} {ob:Option Blk} (H:Holds F h w) (hok:∀ x∈o.op.operands,ρ x=ren F (e x)) (hv:newA P e h n o.op=some (v,ob)) :
    ∃ (u:Value) (w':World) (bk bs sl:Nat),(execOp ρ o).run P w=.ok (.value u) w'/\(∀ F':Emb,F'.blk n=bk->F'.base n=bs->F'.slack n=sl->ren F' v=u) /\
      ((ob=none/\w'=w)\/∃ (b:Blk) (post:Array Value),ob=some b/\b.ro=false/\bk=w.heap.size/\bs=0/\Grew w w' (.cells ((b.cells.map (ren F)).toArray++post) b.elem (0,0))/\(b.grow=some 0->sl=0)/\(∀ s,b.grow=some (s+1)->sl * (s+1)<=post.size)):=by
  obtain⟨dst,op,ty,pos,after,guard⟩:=o;simp only at hok hv;unfold newA at hv;split at hv
  . rename_i t;split at hv
    . rename_i z hz;split at hv
      . rename_i hp;cases hv;refine⟨.pointer (some ⟨w.heap.size,0,none⟩),_,w.heap.size,0,0,?_,fun F' h1 h2 _=>by simp [adr,h1,h2],.inr ⟨_,#[],rfl,rfl,rfl,rfl,zep w _,fun _=>rfl,fun s hs=>by cases hs⟩⟩
        simp only [execOp,Instr.alloc,Sem.run_bind,zew hz,Result.andThen_ok,newVar,newRow,newObj,Sem.run,Sem.run_pure,zek hp,Array.append_empty];rfl
      . cases hv
    . cases hv
  . rename_i t x;cases hv;refine⟨.pointer (some ⟨w.heap.size,0,none⟩),_,w.heap.size,0,0,?_,fun F' h1 h2 _=>by simp [adr,h1,h2],.inr ⟨_,#[],rfl,rfl,rfl,rfl,zep w _,fun _=>rfl,fun s hs=>by cases hs⟩⟩
    have hc:((e x).cells.toList.map (ren F)).toArray=(ren F (e x)).cells:=by
      rw [<-Array.toList_map,<-zcO]
    simp only [execOp,hok x (by simp [Op.operands]),Instr.box,Sem.run_bind,Result.andThen_ok,newVar,newRow,newObj,Sem.run,Sem.run_pure,hc,Array.append_empty]
    rfl
  . rename_i t len ps;split at hv
    . rename_i el hel;split at hv
      . rename_i s z hs hz;split at hv
        . rename_i hc;obtain⟨hp,hzs,hl⟩:=hc;cases hf:zfJ (fun i=>some (i * s,s)) (zbr z.cells.toList len) (ps.toList.map fun p=>(p.1,e p.2)) with
          | none=>rw [hf] at hv;cases hv
          | some cs =>
            rw [hf] at hv;cases hv;refine⟨.slice (some ⟨w.heap.size,0,none⟩) len len,_,w.heap.size,0,0,?_,fun F' h1 h2 h3=>by simp [adr,h1,h2,h3],.inr ⟨_,#[],rfl,rfl,rfl,rfl,zep w _,fun _=>rfl,fun s hs=>by cases hs⟩⟩
            have hfill:=zfm (F:=F) (fun i=>some (i * s,s)) _ _ _ hf;rw [zfM (zek hp)] at hfill;have hpz:(ps.map fun x=>match x with|(i,x)=>(i,ρ x))=_:=zm3 (e:=e) (F:=F) (ρ:=ρ) (ps:=ps) fun p hp=>hok p.2 (by simp only [Op.operands,List.mem_toArray,List.mem_map];exact⟨p,hp,rfl⟩)
            have hzr:(Array.range (len * s)).map (fun i=>(z.cells)[i % z.cells.size]!)=(zbr z.cells.toList len).toArray:=zf2 z.cells len s hzs;have h24:¬ (len * s > 2 ^ 24):=by omega
            simp only [execOp,Instr.buildSlice,hpz,Sem.run_bind,run_underlying (zaG hel),Result.andThen_ok,za7 hs,if_neg h24,Array.append_empty];by_cases h0:len * s=0
            . have hnil:zbr z.cells.toList len=[]:=List.eq_nil_of_length_eq_zero (by rw [zhF,Array.length_toList,hzs];exact h0)
              rw [hnil] at hfill;have hr0:Array.map (fun x:Nat=>(#[]:Array Value)[x % (#[]:Array Value).size]!) (Array.range (len * s))=#[]:=by rw [h0];simp
              simp only [if_pos h0,Sem.run_pure,Result.andThen_ok,hr0,hfill,newRow,newObj,Sem.run_bind,Sem.run];rfl
            . simp only [if_neg h0,Sem.run_bind,zew hz,Sem.run_pure,Result.andThen_ok,hzr,hfill,newRow,newObj,Sem.run];rfl
        . cases hv
      . cases hv
    . cases hv
  . rename_i t l c;split at hv
    . rename_i el k n k' m hel hl hc;split at hv
      . rename_i s z bs hs hz hbs;split at hv
        . rename_i hcond;obtain⟨hp,hzs,hb,h0,hlc,hc24⟩:=hcond;cases hv;refine⟨.slice (some ⟨w.heap.size,0,none⟩) n.toNat m.toNat,_,w.heap.size,0,0,?_,fun F' h1 h2 h3=>by simp [adr,h1,h2,h3],.inr ⟨_,#[],rfl,rfl,rfl,rfl,zep w _,fun _=>rfl,fun s hs=>by cases hs⟩⟩
          obtain⟨i,hi,his⟩:=zdA hs;have hib:i.bytes=bs:=by unfold zap at hbs;rw [hi] at hbs;simpa using hbs
          have hiz:i.zero=some z:=by unfold zaw at hz;rw [hi] at hz;simpa using hz
          have hmul:(bs:Int) * m<=1048576 * 16777216:=Int.mul_le_mul (by omega) hc24 (by omega) (by omega)
          have:=run_make (P:=P) w t el i z (zaG hel) hi hiz k k' n m h0 hlc (by rw [hib];omega) (by omega)
          have hzr:madeCells z.cells (m.toNat * s)=(zbr z.cells.toList m.toNat).toArray:=by
            rw [<-zf2 z.cells m.toNat s hzs];rfl
          rw [his,hzr] at this;simp only [execOp,hok l (by simp [Op.operands]),hok c (by simp [Op.operands]),hl,hc,zbp,Sem.run_bind,this,zfM (zek hp),Array.append_empty]
          rfl
        . cases hv
      . cases hv
    . cases hv
  . rename_i args argTypes;split at hv
    . rename_i x y t t' hargs hts;split at hv
      . rename_i htt;subst htt;split at hv
        . rename_i news el need hap;cases hv;obtain⟨a,sl,sc,b,n',c,s,olds,ns,hx,hy,hneed,hlt,hcs,hel,hs,hlen,hol,hnl,_,_,hrun,hq⟩:=zfT H hap;obtain rfl:args=#[x,y]:=by rw [<-Array.toArray_toList (xs:=args),hargs]
          obtain rfl:argTypes=#[t,t]:=by rw [<-Array.toArray_toList (xs:=argTypes),hts]
          have hcap:∃ cap,cap<need/\ren F (e x)=.slice (a.map (adr F)) sl cap:=by
            rw [hx];rcases hq with ⟨rfl,_⟩|⟨ad,bk,rfl,hbk,⟨hg,_⟩|hq⟩
            . exact⟨sc,hlt,by simp⟩
            . refine⟨sc,hlt,?_⟩;obtain⟨_,_,_,_,_,_,hsl,_⟩:=H.row _ _ hbk;simp [hsl hg]
            . exact absurd hq.2.2.2.2.2.2.2 (by simp)
          obtain⟨cap,hcap,hxe⟩:=hcap;obtain⟨w',sl',post,hr,hgrew,hpost⟩:=hrun ty cap hcap;refine⟨.slice (some ⟨w.heap.size,0,none⟩) need (need+sl'),w',w.heap.size,0,sl',?_,fun F' h1 h2 h3=>?_,.inr ⟨_,post,rfl,rfl,rfl,rfl,hgrew,fun hg=>?_,fun s' hg=>?_⟩⟩
          . have ha:(#[x,y].map ρ)=#[.slice (a.map (adr F)) sl cap,ren F (e y)]:=by simp [hok x (by simp [Op.operands,Call.operands]),hok y (by simp [Op.operands,Call.operands]),hxe]
            simp only [execOp,resolve,Sem.run_bind,Sem.run_pure,Result.andThen_ok,invoke,builtin,ha,hr]
          . simp [adr,h1,h2,h3]
          . rw [hs] at hg;cases hg
          . rw [hs] at hg;cases hg;exact hpost
        . cases hv
      . cases hv
    . cases hv
  . rename_i t x lo hi;unfold endA at hv;split at hv
    . rename_i el a len cap hel hx;split at hv
      . rename_i l r s hl hr hs;split at hv
        . rename_i hc;obtain⟨h1,h2,h3,h4,h5⟩:=hc;cases hv;have hb:=zcg (P:=P) (F:=F) (w:=w) (b:=true) (cap:=cap+F.slack a.block) hl hr (by omega) (by omega)
          refine⟨.slice (some (if cap+F.slack a.block=l then adr F a else (adr F a).add (l * s))) 0 (F.slack a.block),w,F.blk a.block,(if cap+F.slack a.block=l then F.base a.block+a.off else F.base a.block+a.off+l * s),F.slack a.block,?_,fun F' e1 e2 e3=>?_,.inl ⟨rfl,rfl⟩⟩
          . have hm:∀ y:Option Operand,(∀ z,y=some z->z∈(Op.slice t x lo hi none).operands)->y.map ρ=(y.map e).map (ren F):=by
              intro y hy;cases y with
              | none=>rfl
              | some z=>simp [hok z (hy z rfl)]
            simp only [execOp,hok x (by simp [Op.operands]),hx]
            rw [hm lo (by rintro z rfl;simp [Op.operands]),hm hi (by rintro z rfl;simp [Op.operands]),Option.map_none,Sem.run_bind,zdD hel]
            simp only [zaz,Instr.slice,Sem.run_bind,run_underlying (zaG hel),Result.andThen_ok,hb,za7 hs,Sem.run_pure];have e4:r - l=0:=by omega
            have e5:cap+F.slack a.block - l=F.slack a.block:=by omega
            rw [e4,e5];split<;>simp
          . have hsp:(adr F a).spot=none:=h4;rw [zbv _ _ hsp];split at e2<;>rename_i hcc
            . simp only [zaz,adr,e1,e2,e3,if_pos hcc];simp [h4]
            . simp only [zaz,adr,e1,e2,e3,if_neg hcc];simp
        . cases hv
      . cases hv
    . cases hv
  . cases hv
end
theorem zgs (F:Emb) {v:Value} (h:zdI v=true):(ren F v).oneCell'=true:=by
  cases v with
  | pointer a=>cases a<;>simp [Value.oneCell']
  | slice a n c=>cases a<;>simp [Value.oneCell']
  | agg cs=>cases h
  | tuple cs=>cases h
  | _=>simp [Value.oneCell',ren]
def wrote (w:World) (b:Nat) (c:Array Value):World:={ w with heap:=w.heap.modify b fun|.cells _ t fr=>.cells c t fr|o=>o }
theorem zc9 {P:Program} {w:World} {B off:Nat} {c:Array Value} {el:TypeId} (hb:w.heap[B]?=some (.cells c el (0,0))) (l:List Value) (hl:off+l.length<=c.size) (hone:∀ x∈l,x.oneCell'=true) :
    (storeCells ⟨B,off,none⟩ l).run P w=.ok () (wrote w B (over c off l)):=by
  have hcell:∀ j,j<l.length->(w.cell? ⟨B,off+0+j,none⟩).isSome=true:=by
    intro j hj;have:off+j<c.size:=by omega
    simp [World.cell?,hb,this]
  have hfree:∀ j,j<l.length->w.frozen? ⟨B,off+0+j,none⟩=false:=by
    intro j _;simp only [World.frozen?,hb];simp
  have hst:=run_storeCells_cells (P:=P) B off l 0 w hcell hfree hone;rw [Nat.add_zero] at hst;rw [hst,zfj];congr 1;unfold wrote;congr 1;apply Array.ext_getElem?;intro j;simp only [Array.getElem?_modify];split
  . rename_i hj;subst hj;rw [hb];rfl
  . rfl
theorem zjE {P:Program} {F:Emb} {h:AHeap} {w:World} {t:TypeId} {a:Addr} {b:Blk} {vs:List Value} {u:Value} {s:Nat} (H:Holds F h w) (hb:h.get a.block=some b) (hs:zal P t=some s) (hsp:a.spot=none) (hro:b.ro=false)
    (hu:u.cells.toList=vs.map (ren F)) (hl:vs.length=s) (hoff:a.off+s<=b.cells.length) (hone:vs.all zdI=true) :
    ∃ (pre post:Array Value),w.heap[F.blk a.block]?=some (.cells (pre++(b.cells.map (ren F)).toArray++post) b.elem (0,0))/\pre.size=F.base a.block/\(b.grow=some 0->F.slack a.block=0)/\(∀ s,b.grow=some (s+1)->F.slack a.block * (s+1)<=post.size) /\
      (Instr.storeAt t (.pointer (some (adr F a))) u).run P w=.ok () (wrote w (F.blk a.block) (pre++((zaQ b.cells a.off vs).map (ren F)).toArray++post)):=by
  obtain⟨pre,post,fr,hr,hp,hfr,hg0,hg1⟩:=H.row _ _ hb;obtain rfl:=hfr hro;refine⟨pre,post,hr,hp,hg0,hg1,?_⟩;obtain⟨ab,ao,asp⟩:=a;simp only at hsp hb hoff hr hp;subst hsp;have hsz:u.cells.size=s:=by rw [<-Array.length_toList,hu];simpa using hl
  have hone':∀ x∈u.cells.toList,x.oneCell'=true:=by
    intro x hx;rw [hu] at hx;obtain⟨y,hy,rfl⟩:=List.mem_map.1 hx;exact zgs F (List.all_eq_true.1 hone y hy)
  have hst:=zc9 (P:=P) hr (off:=F.base ab+ao) u.cells.toList (by rw [Array.length_toList,hsz];simp;omega) hone'
  simp only [Instr.storeAt,Instr.sureAddr,adr,storeVar,Sem.run_bind,Sem.run_pure,Result.andThen_ok,za7 hs,hsz,ne_eq,not_true_eq_false,if_false];rw [hst,hu,<-hp,ziB pre post (b.cells.map (ren F)) (vs.map (ren F)) ao (by simp;omega)]
  simp [zaQ,List.map_take,List.map_drop]
theorem zb0 {P:Program} {h:AHeap} {t:TypeId} {a:Addr} {v:Value} {h':AHeap} (hv:zdV P h t a v=some h') :
    ∃ (b:Blk) (s:Nat),h.get a.block=some b/\zal P t=some s/\a.spot=none/\b.ro=false/\v.cells.toList.length=s/\a.off+s<=b.cells.length/\v.cells.toList.all zdI=true/\h'=h.put a.block { b with cells:=zaQ b.cells a.off v.cells.toList }:=by
  unfold zdV at hv;split at hv
  . rename_i b s hb hs;split at hv
    . rename_i hc;split at hv
      . rename_i cs;split at hv
        . rename_i hcs;cases hv;exact⟨b,s,hb,hs,hc.1,hc.2,by simpa [Value.cells] using hcs.1,hcs.2.1,hcs.2.2,rfl⟩
        . cases hv
      . cases hv
      . rename_i h1 h2;split at hv
        . rename_i hcs;cases hv;have hcell:v.cells=#[v]:=by
            cases v with
            | agg cs=>exact absurd rfl (h1 cs)
            | _=>rfl
          have hone:zdI v=true:=by
            cases v with
            | agg cs=>exact absurd rfl (h1 cs)
            | tuple cs=>exact absurd rfl (h2 cs)
            | _=>rfl
          refine⟨b,s,hb,hs,hc.1,hc.2,by rw [hcell,hcs.1];rfl,by omega,by rw [hcell];simp [hone],?_⟩
          rw [hcell];simp only [zl1 _ _ _ hcs.2]
        . cases hv
    . cases hv
  . cases hv
inductive Wrote (F:Emb) (e:Operand->Value) (xs:Array Operand) (h:AHeap) (w:World):Value->AHeap->Value->World->Prop
  | same {v} (hv:v=.slice none 0 0\/∃ x∈xs,v=e x):Wrote F e xs h w v h (ren F v) w
  | put {v n b cs pre post} (hv:v=undef\/∃ a sl c sc x,x∈xs/\e x=.slice (some a) sl sc/\v=.slice (some a) c sc) (hb:h.get n=some b) (hro:b.ro=false) (hl:cs.length=b.cells.length)
      (hc:∀ c∈cs,c∈b.cells\/(∃ x∈xs,c∈(e x).cells.toList)\/∃ m b',h.get m=some b'/\c∈b'.cells)
      (hr:w.heap[F.blk n]?=some (.cells (pre++(b.cells.map (ren F)).toArray++post) b.elem (0,0))) (hp:pre.size=F.base n) (h0:b.grow=some 0->F.slack n=0) (h1:∀ s,b.grow=some (s+1)->F.slack n * (s+1)<=post.size) :
      Wrote F e xs h w v (h.put n { b with cells:=cs }) (ren F v) (wrote w (F.blk n) (pre++(cs.map (ren F)).toArray++post))
  | grew {n b cs s bs sl need pre post post'} {c:Array Value} (hb:h.get n=some b) (hro:b.ro=false) (hg:b.grow=some (s+1))
      (hc:∀ c∈cs,∃ m b',h.get m=some b'/\c∈b'.cells)
      (hr:w.heap[F.blk n]?=some (.cells c b.elem (0,0))) (hn:pre++(cs.map (ren F)).toArray++post'=post) (hp:pre.size=bs) (h1:sl * (s+1)<=post'.size) :
      Wrote F e xs h w (.slice (some ⟨h.next,0,none⟩) need need) ((h.putO n none).addO (some ⟨cs,b.elem,false,some (s+1)⟩)) (.slice (some ⟨F.blk n,bs,none⟩) need (need+sl)) (wrote w (F.blk n) post)
  | fresh {n b cs s sl need w' post} (hb:h.get n=some b) (hro:b.ro=false) (hg:b.grow=some (s+1))
      (hc:∀ c∈cs,∃ m b',h.get m=some b'/\c∈b'.cells)
      (hw:Grew w w' (.cells ((cs.map (ren F)).toArray++post) b.elem (0,0))) (h1:sl * (s+1)<=post.size) :
      Wrote F e xs h w (.slice (some ⟨h.next,0,none⟩) need need) ((h.putO n none).addO (some ⟨cs,b.elem,false,some (s+1)⟩)) (.slice (some ⟨w.heap.size,0,none⟩) need (need+sl)) w'
theorem zfI {h:AHeap} {s:Nat} {v:Value} {cs:List Value} (hv:zcx h s v=some cs):∀ c∈cs,∃ m b',h.get m=some b'/\c∈b'.cells:=by
  unfold zcx at hv;intro c hc;split at hv
  . cases hv;cases hc
  . split at hv
    . cases hv;cases hc
    . split at hv
      . split at hv
        . rename_i b hb;split at hv
          . cases hv;exact⟨_,b,hb,List.mem_of_mem_drop (List.mem_of_mem_take hc)⟩
          . cases hv
        . cases hv
      . cases hv
  . cases hv
theorem zmZ {h:AHeap} {s n c:Nat} {a:Addr} {b:Blk} {cs:List Value} (hb:h.get a.block=some b) (hv:zcx h s (.slice (some a) n c)=some cs):cs=(b.cells.drop a.off).take (n * s):=by
  unfold zcx at hv;simp only [hb] at hv;split at hv
  . rename_i h0;cases hv;rw [h0];simp
  . split at hv
    . split at hv
      . cases hv;rfl
      . cases hv
    . cases hv
section
variable {P:Program} {ρ:Operand->Value} {e:Operand->Value} {F:Emb} {w:World}
theorem zcV (t ty el:TypeId) (i:TypeInfo) (ht:P.underlying t=some (.slice el)) (hi:P.info? el=some i) (ad:Addr) (sLen sCap n:Nat) (x:Value) (news:Array Value) {w':World}
    (hx:Builtin.lenOf x=pure n) (hn:(Builtin.firstCells i.size n x).run P w=.ok news w) (hg:sLen+n<=sCap) (hst:(storeCells (ad.add (sLen * i.size)) news.toList).run P w=.ok () w') :
    (Builtin.append_ #[t,t] ty #[.slice (some ad) sLen sCap,x]).run P w=.ok (.slice (some ad) (sLen+n) sCap) w':=by
  simp [Builtin.append_,run_underlying ht,sizeOf,typeInfo,hi,hx,hg,hn,hst]
theorem zho (t ty el:TypeId) (i:TypeInfo) (ht:P.underlying t=some (.slice el)) (hi:P.info? el=some i) (x:Value) (news:Array Value)
    (hx:Builtin.lenOf x=pure 0) (hn:(Builtin.firstCells i.size 0 x).run P w=.ok news w) :
    (Builtin.append_ #[t,t] ty #[.slice none 0 0,x]).run P w=.ok (.slice none 0 0) w:=by
  simp [Builtin.append_,run_underlying ht,sizeOf,typeInfo,hi,hx,hn]
theorem ze5 (F:Emb) (b:Option Addr) (n c:Nat):Builtin.lenOf (ren F (.slice b n c))=pure n:=by cases b<;>simp [Builtin.lenOf]
theorem zef (F:Emb) (w:World) (s:Nat) (b:Option Addr) (c:Nat):(Builtin.firstCells s 0 (ren F (.slice b 0 c))).run P w=.ok #[] w:=by
  cases b with
  | none=>simp [Builtin.firstCells]
  | some b=>rw [zaz];exact run_firstCells_some w s 0 _ _ _ [] (by simp) (fun j v hj=>by simp at hj)
theorem zrO {o:Oper} {h h':AHeap} {v:Value} (H:Holds F h w) (hok:∀ x∈o.op.operands,ρ x=ren F (e x)) (hv:wrA P e h o.op=some (v,h')) :
    ∃ (u:Value) (w':World),((execOp ρ o).run P w=.ok (.value u) w'\/((execOp ρ o).run P w=.ok .skip w'/\u=undef))/\Wrote F e o.op.operands h w v h' u w':=by
  obtain⟨dst,op,ty,pos,after,guard⟩:=o;simp only at hok hv ⊢;unfold wrA at hv;split at hv
  . rename_i t x y;split at hv
    . rename_i a hx;cases hs:zdV P h t a (e y) with
      | none=>rw [hs] at hv;cases hv
      | some h1 =>
        rw [hs] at hv;cases hv;obtain⟨b,s,hb,hsz,hsp,hro,hl,hoff,hone,rfl⟩:=zb0 hs;obtain⟨pre,post,hrow,hp,h0,h1,hrun⟩:=zjE (P:=P) (u:=ren F (e y)) H hb hsz hsp hro (by rw [zcO];simp) hl hoff hone
        have:=Wrote.put (e:=e) (xs:=(Op.store t x y).operands) (v:=undef) (cs:=zaQ b.cells a.off (e y).cells.toList) (.inl rfl) hb hro (zdf _ _ _ (by rw [hl];exact hoff)) (fun c hc=>by
          simp only [zaQ,List.mem_append] at hc;rcases hc with (hc|hc)|hc
          . exact .inl (List.mem_of_mem_take hc)
          . exact .inr (.inl ⟨y,by simp [Op.operands],hc⟩)
          . exact .inl (List.mem_of_mem_drop hc)) hrow hp h0 h1
        rw [zaS] at this;refine⟨undef,_,.inr ⟨?_,rfl⟩,this⟩;simp only [execOp,hok x (by simp [Op.operands]),hok y (by simp [Op.operands]),hx,zba,Sem.run_bind,hrun];rfl
    . cases hv
  . rename_i args argTypes;split at hv
    . rename_i x y t t' hargs hts;split at hv
      . rename_i htt;subst htt;obtain rfl:args=#[x,y]:=by rw [<-Array.toArray_toList (xs:=args),hargs]
        obtain rfl:argTypes=#[t,t]:=by rw [<-Array.toArray_toList (xs:=argTypes),hts]
        have hex:∀ {u:Value} {w':World},(Builtin.append_ #[t,t] ty #[ren F (e x),ren F (e y)]).run P w=.ok u w'->(execOp ρ { dst:=dst,op:=.call { callee:=.builtin .append,args:=#[x,y],argTypes:=#[t,t] },type:=ty,pos:=pos,after:=after,guard:=guard }).run P w=.ok (.value u) w':=by
          intro u w' h;have ha:(#[x,y].map ρ)=#[ren F (e x),ren F (e y)]:=by simp [hok x (by simp [Op.operands,Call.operands]),hok y (by simp [Op.operands,Call.operands])]
          simp only [execOp,resolve,Sem.run_bind,Sem.run_pure,Result.andThen_ok,invoke,builtin,ha,h]
        have hxm:x∈(Op.call { callee:=.builtin .append,args:=#[x,y],argTypes:=#[t,t] }).operands:=by simp [Op.operands,Call.operands]
        split at hv
        . rename_i el b c hx hel hy;split at hv
          . rename_i s hs;cases hv;obtain⟨i,hi,his⟩:=zdA hs;have hrun:=zho (P:=P) (w:=w) t ty el i (zaG hel) hi (ren F (e y)) #[] (by rw [hy];exact ze5 F _ _ _) (by rw [hy];exact zef F w i.size _ _)
            refine⟨ren F (.slice none 0 0),w,.inl (hex ?_),.same (.inl rfl)⟩;rw [hx,zcw];exact hrun
          . cases hv
        . rename_i a sl sc el b n c hx hel hy;split at hv
          . rename_i s hs;obtain⟨i,hi,his⟩:=zdA hs;split at hv
            . rename_i hle;split at hv
              . cases hv;have hrun:=zcV (P:=P) (w:=w) t ty el i (zaG hel) hi (adr F a) sl (sc+F.slack a.block) 0 (ren F (e y)) #[] (w':=w) (by rw [hy];exact ze5 F _ _ _) (by rw [hy];exact zef F w i.size _ _) (by omega) (by simp [storeCells])
                have hS:=Wrote.same (F:=F) (e:=e) (xs:=(Op.call { callee:=.builtin .append,args:=#[x,y],argTypes:=#[t,t] }).operands) (h:=h) (w:=w) (v:=.slice (some a) sl sc) (.inr ⟨x,hxm,hx.symm⟩);refine⟨_,w,.inl (hex ?_),hS⟩;rw [hx,zaz];exact hrun
              . rename_i n _ _ _ news bk hn0 hbk hnews;split at hv
                . rename_i hc;obtain⟨hro,hsp,hroom,hlen,hone⟩:=hc;cases hv;obtain⟨pre,post,fr,hrow,hp,hfr,h0,h1⟩:=H.row _ _ hbk;obtain rfl:=hfr hro;obtain⟨b2,n2,c2,e2,r2,l2⟩:=zen (P:=P) H hnews;cases e2;obtain⟨ab,ao,asp⟩:=a;simp only at hsp hroom hbk hrow hp h0 h1;subst hsp;have hst:=zc9 (P:=P) hrow (off:=F.base ab+ao+sl * i.size) (news.map (ren F)) (by simp;rw [his,hp];omega) (fun z hz=>by obtain⟨y',hy',rfl⟩:=List.mem_map.1 hz;exact zgs F (List.all_eq_true.1 hone y' hy'))
                  have hrun:=zcV (P:=P) (w:=w) t ty el i (zaG hel) hi (adr F ⟨ab,ao,none⟩) sl (sc+F.slack ab) n (ren F (e y)) (news.map (ren F)).toArray (by rw [hy];exact ze5 F _ _ _) (by rw [hy,his];exact r2) (by omega) (by rw [zbv _ _ rfl];exact hst)
                  have hov:=ziB pre post (bk.cells.map (ren F)) (news.map (ren F)) (ao+sl * i.size) (by simp;rw [his];omega)
                  rw [hp,<-Nat.add_assoc] at hov;rw [hov] at hrun;have hsp':zaQ (bk.cells.map (ren F)) (ao+sl * i.size) (news.map (ren F))=(zaQ bk.cells (ao+sl * s) news).map (ren F):=by rw [his];simp [zaQ,List.map_take,List.map_drop]
                  rw [hsp'] at hrun;have hS:=Wrote.put (F:=F) (e:=e) (xs:=(Op.call { callee:=.builtin .append,args:=#[x,y],argTypes:=#[t,t] }).operands) (h:=h) (w:=w) (v:=.slice (some ⟨ab,ao,none⟩) (sl+n) sc) (cs:=zaQ bk.cells (ao+sl * s) news) (pre:=pre) (post:=post) (n:=ab) (.inr ⟨⟨ab,ao,none⟩,sl,sl+n,sc,x,hxm,hx,rfl⟩) hbk hro (zdf _ _ _ hroom) (fun c' hc'=>by
                    simp only [zaQ,List.mem_append] at hc';rcases hc' with (hc'|hc')|hc'
                    . exact .inl (List.mem_of_mem_take hc')
                    . exact .inr (.inr (zfI hnews c' hc'))
                    . exact .inl (List.mem_of_mem_drop hc')) hrow hp h0 h1
                  refine⟨_,_,.inl (hex ?_),hS⟩;rw [hx,zaz,zaz];exact hrun
                . cases hv
              . cases hv
            . rename_i hle;split at hv
              . rename_i cs el' need hap;cases hv;obtain⟨a',sl',sc',b',n',c',s',olds,news,hx',hy',hneed,hlt,hcs,hel',hs',hlen,hol,hnl,hco,hcn,hrun,hq⟩:=zfT H hap;rw [hx] at hx';rw [hy] at hy';cases hx';cases hy';rw [hel] at hel';cases hel';rcases hq with ⟨h0,_⟩|⟨ad,bk,h0,hbk,⟨_,h0'⟩|⟨hro,hg,hbe,hsp,hend,hle',hone,_⟩⟩
                . cases h0
                . cases h0'
                . cases h0;have hmem:∀ c∈cs,∃ m b',h.get m=some b'/\c∈b'.cells:=by
                    intro c hc;rw [hcs] at hc;rcases List.mem_append.1 hc with hc|hc
                    . exact zfI hco c hc
                    . exact zfI hcn c hc
                  rw [hs'];by_cases hreal:need<=sc+F.slack a.block
                  . obtain⟨pre,post,fr,hrow,hp,hfr,_,h1⟩:=H.row _ _ hbk;obtain rfl:=hfr hro;have h1:=h1 _ hg;rw [hx] at hco;have hoe:=zmZ hbk hco;obtain⟨b2,n2,c2,e2,r2,l2⟩:=zen (P:=P) H hcn;rw [hy] at e2;cases e2;obtain⟨ab,ao,asp⟩:=a;simp only at hsp hbk hrow hp hend h1 hreal hoe;subst hsp;have hhi:need * (s'+1)<=(sc+F.slack ab) * (s'+1):=Nat.mul_le_mul_right _ hreal;rw [Nat.add_mul] at hhi;have hsc:sl * (s'+1)<=sc * (s'+1):=Nat.mul_le_mul_right _ hle';have hnd:need * (s'+1)=sl * (s'+1)+n * (s'+1):=by rw [hneed,Nat.add_mul]
                    have hss:i.size=s'+1:=by rw [hs] at hs';cases hs';exact his
                    have hsz:(pre++(bk.cells.map (ren F)).toArray++post).size=F.base ab+bk.cells.length+post.size:=by simp [hp,Nat.add_assoc]
                    have hst:=zc9 (P:=P) hrow (off:=F.base ab+ao+sl * i.size) (news.map (ren F)) (by rw [hsz,List.length_map,hnl,hss];omega) (fun z hz=>by obtain⟨y',hy',rfl⟩:=List.mem_map.1 hz;exact zgs F (List.all_eq_true.1 hone y' hy'))
                    have hrun:=zcV (P:=P) (w:=w) t ty el i (zaG hel) hi (adr F ⟨ab,ao,none⟩) sl (sc+F.slack ab) n (ren F (e y)) (news.map (ren F)).toArray (by rw [hy];exact ze5 F _ _ _) (by rw [hss];exact r2) (by omega) (by rw [zbv _ _ rfl];exact hst)
                    have hgetk:∀ {A:Array Value} {j:Nat} (k:Nat) (hk:k<A.size),k=j->some A[k]=A[j]?:=by
                      rintro A j k hk rfl;exact (Array.getElem?_eq_getElem hk).symm
                    have hpost:(pre++(bk.cells.map (ren F)).toArray++post).extract 0 (F.base ab+ao)++(cs.map (ren F)).toArray++(pre++(bk.cells.map (ren F)).toArray++post).extract (F.base ab+ao+need * (s'+1)) (F.base ab+bk.cells.length+post.size)=over (pre++(bk.cells.map (ren F)).toArray++post) (F.base ab+ao+sl * i.size) (news.map (ren F)):=by
                      apply Array.ext_getElem?;intro j;rw [ziF _ _ _ _ (by rw [hsz,List.length_map,hnl,hss];omega),zh5]
                      have e1:((pre++(bk.cells.map (ren F)).toArray++post).extract 0 (F.base ab+ao)).size=F.base ab+ao:=by rw [Array.size_extract,hsz];omega
                      have e2:((cs.map (ren F)).toArray).size=need * (s'+1):=by rw [List.size_toArray,List.length_map,hlen]
                      rw [e1,e2,hss,List.length_map,hnl];by_cases j1:j<F.base ab+ao
                      . rw [if_pos j1,if_neg (by omega),Array.getElem?_extract_of_lt (by omega)]
                        exact hgetk _ _ (by omega)
                      . rw [if_neg j1];by_cases j2:j - (F.base ab+ao)<need * (s'+1)
                        . rw [if_pos j2,List.getElem?_toArray,List.getElem?_map,hcs];by_cases j3:j - (F.base ab+ao)<sl * (s'+1)
                          . rw [if_neg (by omega),List.getElem?_append_left (by omega),hoe,List.getElem?_take_of_lt (by omega),List.getElem?_drop,zh5,if_neg (by omega),if_pos (by simp;omega),hp]
                            simp only [List.getElem?_toArray,List.getElem?_map];congr 2;omega
                          . rw [if_pos (by omega),List.getElem?_append_right (by omega),List.getElem?_map,hol]
                            congr 2;omega
                        . rw [if_neg j2,if_neg (by omega)]
                          by_cases j4:j<F.base ab+bk.cells.length+post.size
                          . rw [Array.getElem?_extract_of_lt (by omega)]
                            exact hgetk _ _ (by omega)
                          . rw [Array.getElem?_eq_none (by rw [Array.size_extract,hsz];omega),Array.getElem?_eq_none (by rw [hsz];omega)]
                    have hS:=Wrote.grew (F:=F) (e:=e) (xs:=(Op.call { callee:=.builtin .append,args:=#[x,y],argTypes:=#[t,t] }).operands) (h:=h) (w:=w) (n:=ab) (cs:=cs) (need:=need) (sl:=sc+F.slack ab - need) (bs:=F.base ab+ao) hbk hro hg hmem hrow hpost (by rw [Array.size_extract,hsz];omega) (by
                      rw [Array.size_extract,hsz,Nat.sub_mul,Nat.add_mul];omega)
                    rw [hbe] at hS;refine⟨_,_,.inl (hex ?_),hS⟩;rw [hx,zaz];rw [Nat.add_sub_cancel' hreal,hneed];exact hrun
                  . obtain⟨w',sl2,post,hr,hgrew,hpost⟩:=hrun ty (sc+F.slack a.block) (by omega)
                    rw [<-hbe] at hgrew;have hS:=Wrote.fresh (F:=F) (e:=e) (xs:=(Op.call { callee:=.builtin .append,args:=#[x,y],argTypes:=#[t,t] }).operands) (h:=h) (w:=w) (n:=a.block) (cs:=cs) (need:=need) hbk hro hg hmem hgrew hpost;rw [hbe] at hS;refine⟨_,w',.inl (hex ?_),hS⟩;rw [hx,zaz];simpa using hr
              . cases hv
          . cases hv
        . cases hv
      . cases hv
    . cases hv
  . cases hv
theorem zqk {P:Program} {e:Operand->Value} {h h':AHeap} {o:Op} {v:Value} (hv:wrA P e h o=some (v,h')):h.next<=h'.next:=by
  unfold wrA at hv
  repeat' split at hv
  all_goals first
    | (cases hv;done)
    | (cases hv;exact Nat.le_refl _)
    | (cases hv;exact Nat.le_succ _)
    | (rename_i a _;cases hs:zdV P h _ a _ with
        | none=>rw [hs] at hv;cases hv
        | some h1 =>
          rw [hs] at hv;cases hv;obtain⟨b,s,_,_,_,_,_,_,_,rfl⟩:=zb0 hs;exact Nat.le_refl _)
end
section
variable {P:Program} {F:Emb} {ρ e:Operand->Value}
theorem zeL {t:TypeId} {z:Value} (hz:zaw P t=some z):calm P (zeroValue t)=some z:=by
  unfold zaw at hz;cases hi:P.info? t with
  | none=>rw [hi] at hz;cases hz
  | some i=>rw [hi] at hz;simp at hz;simp [zeroValue,typeInfo,hi,hz,zae]
theorem zfQ:∀ (fs:List Field) (l:List (Nat × Nat)),zei P fs=some l->calm P (fs.mapM fun f=>(do pure (f.offset,<-sizeOf f.type):Sem (Nat × Nat)))=some l
  | [],l,h=>by cases h;simp
  | f::fs,l,h=>by
    unfold zei at h;split at h
    . rename_i s l' hs hl;cases h;have:=zfQ fs l' hl;simp only [List.mapM_cons,zae,zbm hs,Option.bind_some,zaB,this]
    . cases h
theorem zj8 {t:TypeId} {ps:List (Nat × Value)} {v:Value} (h:zg2 P t ps=some v):calm P (Instr.build t (ps.map fun p=>(p.1,ren F p.2)).toArray)=some (ren F v):=by
  unfold zg2 at h;split at h
  . rename_i z pl hz hpl;split at h
    . rename_i hp;cases hf:zfJ pl z.cells.toList ps with
      | none=>rw [hf] at h;cases h
      | some cs =>
        rw [hf] at h;cases h;have hfill:=zfm (F:=F) pl ps _ _ hf;rw [zek hp] at hfill;unfold zbk at hpl;split at hpl
        . rename_i fs hu;cases hl:zei P fs.toList with
          | none=>rw [hl] at hpl;cases hpl
          | some l =>
            rw [hl] at hpl;cases hpl;have hm:=zfQ  _ _ hl;have hm':calm P (fs.mapM fun f=>(do pure (f.offset,<-sizeOf f.type):Sem (Nat × Nat)))=some l.toArray:=by
              rw [Array.mapM_eq_mapM_toList];simp only [map_eq_pure_bind,zae,hm,Option.bind_some,zaB]
            have hg:(fun i:Nat=>l.toArray[i]?)=fun i:Nat=>l[i]?:=by funext i;simp
            simp only [Instr.build,zae,zeL hz,zaf hu,Option.bind_some,hm'];rw [hg,show z.cells=z.cells.toList.toArray by simp,hfill]
            simp
        . rename_i n el hu;cases hs:zal P el with
          | none=>rw [hs] at hpl;cases hpl
          | some s =>
            rw [hs] at hpl;cases hpl;simp only [Instr.build,zae,zeL hz,zaf hu,Option.bind_some,zbm hs];rw [show z.cells=z.cells.toList.toArray by simp,hfill]
            simp
        . cases hpl
    . cases h
  . cases h
theorem ziz {t:TypeId} {name:String} {f:FuncId} (h:za9 P t name=some f) (n:Nat) (v:Value):calm P (nilAhead (n+1) t v name)=some (some false):=by
  obtain⟨i,m,el,hi,hm,hp,hf,hu⟩:=zfo h;unfold nilAhead;simp [zae,typeInfo,hi,hm,hp,followBlind,hf]
theorem zgP {t:TypeId} {name:String} {f:FuncId} (h:za9 P t name=some f) (n:Nat) (v:Value):calm P (method (n+1) t v name)=some (f,v):=by
  obtain⟨i,m,el,hi,hm,hp,hf,hu⟩:=zfo h;unfold method;simp [zae,typeInfo,hi,hm,hp,follow,hf,receiverAt,zaf hu,Place.get]
theorem zhn {o:Oper} {x:Operand} {v:Value} (ho:o.op=.nilCheck x) (hx:ρ x=ren F (e x)) (h:zci P (e x)=some v):calm P (execOp ρ o)=some (.value (ren F v)):=by
  unfold execOp;simp only [ho];rw [hx];unfold zci at h;split at h
  . rename_i hv;cases h;rw [hv];simp
  . rename_i hv;cases h;rw [hv];simp
  . rename_i name xs ys hv;split at h
    . rename_i t p hx0;split at h
      . rename_i f hm;cases h;rw [hv,zbx];have h0:(xs.map (ren F))[0]?=some (.iface t (ren F (.pointer p))):=by rw [zh3,hx0];simp
        simp only [h0,zae,program,zcM,  Option.bind_some];rw [show P.types.size+Made.depth=(P.types.size+99)+1 from rfl,ziz hm]
        simp
      . cases h
    . cases h
  . rename_i hv;cases h;rw [hv];simp
  . cases h
theorem zdz {f : FuncId} {fn : Func} {args : Array Value} (hf : P.funcs[f]? = some fn) (hb : fn.body.isSome = true) (hn : (fn.name == "runtime.NumGoroutine") = false) : calm P (callFunc f args) = some (.enter f args) := by
  unfold callFunc;simp only [zae,program,zcM,  Option.bind_some,hf,hn,Bool.false_eq_true,if_false];cases h:fn.body with
  | none=>rw [h] at hb;cases hb
  | some c=>simp
theorem zdl {o:Oper} {f:FuncId} {fn:Func} {args:Array Value} (hok:∀ x∈o.op.operands,ρ x=ren F (e x)) (hv:zaW P e o.op=some (f,args))
    (hf : P.funcs[f]? = some fn) (hb : fn.body.isSome = true) (hn : (fn.name == "runtime.NumGoroutine") = false) : calm P (execOp ρ o) = some (.enter f (args.map (ren F))) := by
  obtain⟨dst,op,ty,pos,after,guard⟩:=o;simp only at hok hv;unfold zaW at hv;split at hv
  . rename_i g zs ats;split at hv
    . rename_i k xs ys hg;cases hv;have hg':=hok g (by simp [Op.operands,Call.operands])
      have ha:=zfG (ρ:=ρ) (e:=e) (F:=F) (xs:=zs) fun x hx=>hok x (by simp [Op.operands,Call.operands,hx])
      simp only [execOp,resolve,Deferred.ofValue,hg',hg,zbx,zae,zaB,Option.bind_some,invoke,zdz hf hb hn,ha];simp
    . rename_i name xs ys hg;split at hv
      . rename_i t p hx;split at hv
        . rename_i g' hm;cases hv;obtain rfl:xs=#[.iface t (.pointer p)]:=by rw [<-Array.toArray_toList (xs:=xs),hx]
          have hg':=hok g (by simp [Op.operands,Call.operands])
          have ha:=zfG (ρ:=ρ) (e:=e) (F:=F) (xs:=zs) fun x hx=>hok x (by simp [Op.operands,Call.operands,hx])
          simp only [execOp,resolve,Deferred.ofValue,hg',hg,zbx,zae,zaB,Option.bind_some,invoke,ha];have h0:((#[Value.iface t (.pointer p)]:Array Value).map (ren F)++(zs.map e).map (ren F))[0]?=some (.iface t (ren F (.pointer p))):=by rw [Array.getElem?_append_left (by simp)];simp
          simp only [h0,callMethod,zae,program,zcM,  Option.bind_some];rw [show P.types.size+Made.depth=(P.types.size+99)+1 from rfl,zgP hm]
          simp only [Option.bind_some,zdz hf hb hn];congr 2;apply Array.ext';simp [List.take_of_length_le]
        . cases hv
      . cases hv
    . cases hv
  . rename_i r name zs ats;split at hv
    . rename_i t p hr;split at hv
      . rename_i g hm;cases hv;have hr':=hok r (by simp [Op.operands,Call.operands])
        have ha:=zfG (ρ:=ρ) (e:=e) (F:=F) (xs:=zs) fun x hx=>hok x (by simp [Op.operands,Call.operands,hx])
        simp only [execOp,resolve,hr',hr,zcZ,zae,zaB,Option.bind_some,invoke,ha];have h0:(#[Value.iface t (ren F (.pointer p))]++(zs.map e).map (ren F))[0]?=some (.iface t (ren F (.pointer p))):=by rw [Array.getElem?_append_left (by simp)];rfl
        simp only [h0,callMethod,zae,program,zcM,  Option.bind_some];rw [show P.types.size+Made.depth=(P.types.size+99)+1 from rfl,zgP hm]
        simp only [Option.bind_some,zdz hf hb hn];congr 2;apply Array.ext';simp [List.take_of_length_le]
      . cases hv
    . cases hv
  . cases hv
end
def _root_.Go.Oper.isLd (o:Oper):Bool:=match o.op with|.load ..=>true|_=>false
section
variable {P:Program} {F:Emb} {ρ e:Operand->Value} {w:World}
theorem zm0 {h:AHeap} {o:Oper} {v:Value} (H:Holds F h w) (hok:∀ x∈o.op.operands,ρ x=ren F (e x)) (hl:o.isLd=false) (hv:valA P e h o.op=some v):calm P (execOp ρ o)=some (.value (ren F v)):=by
  obtain⟨dst,op,ty,pos,after,guard⟩:=o;simp only [Oper.isLd] at hok hl hv;unfold valA at hv;split at hv
  . rename_i x;cases hv;simp [execOp,hok x (by simp [Op.operands])]
  . rename_i x;cases hv;simp [execOp,hok x (by simp [Op.operands])]
  . rename_i c a b;split at hv
    . rename_i t hc;cases hv;simp only [execOp,hok c (by simp [Op.operands]),hok a (by simp [Op.operands]),hok b (by simp [Op.operands]),hc,za3,asBool,zae,zaB,Option.bind_some]
      cases t<;>rfl
    . cases hv
  . rename_i t i;split at hv
    . rename_i vs hvs;have:(Instr.extract (ρ t) i)=pure (ren F v):=by
        rw [hok t (by simp [Op.operands]),hvs,zcQ]
        unfold Instr.extract;simp only [zh3,hv,Option.map_some]
      simp [execOp,this]
    . cases hv
  . rename_i op t x y u;have:=zeI (P:=P) (F:=F)  (x:=x) hv;simp only [execOp,hok x (by simp [Op.operands]),hok y (by simp [Op.operands]),zae] at this ⊢
    rw [this];rfl
  . rename_i op t x;have:=zpo (P:=P) (F:=F)  hv;simp only [execOp,hok x (by simp [Op.operands]),zae,this];rfl
  . rename_i s d x;have:=zir (P:=P) (F:=F)  hv;simp only [execOp,hok x (by simp [Op.operands]),zae,this];rfl
  . rename_i t x i;have:=zkk (P:=P) (F:=F)  hv;simp only [execOp,hok x (by simp [Op.operands]),zae,this];rfl
  . rename_i t x i;have:=zjV (P:=P) (F:=F)  hv;simp only [execOp,hok x (by simp [Op.operands]),hok i (by simp [Op.operands]),zae,this];rfl
  . rename_i fn xs ys;cases hv;have h1:xs.map ρ=(xs.map e).map (ren F):=by
      rw [Array.map_map];exact Array.map_congr_left fun x hx=>hok x (by simp [Op.operands,hx])
    have h2:ys.map ρ=(ys.map e).map (ren F):=by
      rw [Array.map_map];exact Array.map_congr_left fun x hx=>hok x (by simp [Op.operands,hx])
    simp [execOp,Instr.makeFunc,h1,h2]
  . rename_i t x;split at hv
    . cases hv
    . rename_i d hd hu;cases hv;simp only [execOp,hok x (by simp [Op.operands]),zae,Instr.makeInterface,zaf hu,Option.bind_some]
      cases d<;>simp_all
    . cases hv
  . rename_i x;exact zhn rfl (hok x (by simp [Op.operands])) hv
  . rename_i t x;split at hv
    . rename_i a ha;cases hl
    . cases hv
  . rename_i t x i;have:=zhb (P:=P) (F:=F)  hv;simp only [execOp,hok x (by simp [Op.operands]),zae,this];rfl
  . rename_i t x i;have:=zgQ (P:=P) (F:=F)  hv;simp only [execOp,hok x (by simp [Op.operands]),hok i (by simp [Op.operands]),zae,this];rfl
  . rename_i c;unfold zoi at hv;obtain⟨callee,args,ats⟩:=c;split at hv
    . rename_i hc;simp only at hc;subst hc;split at hv
      . rename_i x t hx ht;simp only at hx ht;obtain rfl:args=#[x]:=by rw [<-Array.toArray_toList (xs:=args),hx]
        obtain rfl:ats=#[t]:=by rw [<-Array.toArray_toList (xs:=ats),ht]
        have:=znJ (P:=P) (F:=F)  (ty:=ty) hv;have hx:=hok x (by simp [Op.operands,Call.operands])
        simp only [execOp,resolve,zae,zaB,Option.bind_some,invoke,builtin];rw [show (#[x].map ρ)=#[ren F (e x)] by simp [hx]]
        rw [this];rfl
      . cases hv
    . rename_i hc;simp only at hc;subst hc;split at hv
      . rename_i x l hx;simp only at hx;obtain rfl:args=(x::l).toArray:=by rw [<-Array.toArray_toList (xs:=args),hx]
        have:=ziU (P:=P) (F:=F)  _ _ _ hv;have hx:((x::l).toArray.map ρ).toList=ren F (e x)::(l.map e).map (ren F):=by
          simp only [Array.toList_map,List.map_cons,List.map_map];rw [hok x (by simp [Op.operands,Call.operands])]
          congr 1;exact List.map_congr_left fun y hy=>hok y (by simp [Op.operands,Call.operands,hy])
        simp only [execOp,resolve,zae,zaB,Option.bind_some,invoke,builtin,Builtin.min_,hx,this]
      . cases hv
    . rename_i hc;simp only at hc;subst hc;split at hv
      . rename_i x l hx;simp only at hx;obtain rfl:args=(x::l).toArray:=by rw [<-Array.toArray_toList (xs:=args),hx]
        have:=zjv (P:=P) (F:=F)  _ _ _ hv;have hx:((x::l).toArray.map ρ).toList=ren F (e x)::(l.map e).map (ren F):=by
          simp only [Array.toList_map,List.map_cons,List.map_map];rw [hok x (by simp [Op.operands,Call.operands])]
          congr 1;exact List.map_congr_left fun y hy=>hok y (by simp [Op.operands,Call.operands,hy])
        simp only [execOp,resolve,zae,zaB,Option.bind_some,invoke,builtin,Builtin.max_,hx,this]
      . cases hv
    . cases hv
  . rename_i t ps;have:=zj8 (P:=P) (F:=F)  hv;have hp:(ps.map fun p=>(p.1,ρ p.2))=(((ps.toList.map fun p=>(p.1,e p.2))).map fun p=>(p.1,ren F p.2)).toArray:=by
      apply Array.ext';simp only [Array.toList_map,List.map_map];exact List.map_congr_left fun p hp=>by
        simp only [Function.comp_apply];rw [hok p.2 (by simp only [Op.operands,List.mem_toArray,List.mem_map];exact⟨p,hp,rfl⟩)]
    simp only [execOp];rw [show (ps.map fun x=>match x with|(i,x)=>(i,ρ x))=(ps.map fun p=>(p.1,ρ p.2)) from rfl,hp,zae,this];rfl
  . rename_i t x lo hi mx;have:=zkz (P:=P) (F:=F) H hv;have hm:∀ y:Option Operand,(∀ z,y=some z->z∈(Op.slice t x lo hi mx).operands)->y.map ρ=(y.map e).map (ren F):=by
      intro y hy;cases y with
      | none=>rfl
      | some z=>simp [hok z (hy z rfl)]
    simp only [execOp,hok x (by simp [Op.operands])]
    rw [hm lo (by rintro z rfl;simp [Op.operands]),hm hi (by rintro z rfl;simp [Op.operands]),hm mx (by rintro z rfl;simp [Op.operands]),zae,this];rfl
  . rename_i t x;have:=zij (P:=P) (F:=F)  hv;simp only [execOp,hok x (by simp [Op.operands]),zae,this];rfl
  . cases hv
end
def zhV:Obj->Bool
  | .view ..=>true
  | _=>false
def Dead {α:Type}:Sem α->Prop
  | .pure _=>False
  | .load _ _ k=>∀ v,Dead (k v)
  | .store _ _ _ k=>Dead k
  | .new _ k=>∀ r,Dead (k r)
  | .shape _ k=>∀ x,Dead (k x)
  | .freeze _ _ k=>Dead k
  | .frozen _ k=>∀ b,Dead (k b)
  | .getObj _ k=>∀ o,Dead (k o)
  | .setObj _ _ k=>Dead k
  | .choose _ k=>∀ n,Dead (k n)
  | .sys _ k=>∀ r,Dead (k r)
  | .program k=>∀ p,Dead (k p)
  | .mark _ k=>Dead k
  | .halt _=>True
def Tame (P:Program) {α:Type}:Sem α->Prop
  | .pure _=>True
  | .load m _ k=>m=.plain/\∀ v,Tame P (k v)
  | .store m _ _ k=>m=.plain/\Tame P k
  | .new o k=>zhV o=false/\∀ r,Tame P (k r)
  | .choose _ k=>∀ n,Tame P (k n)
  | .program k=>Tame P (k P)
  | .halt _=>True
  | .shape _ k=>∀ x,Dead (k x)
  | .freeze _ _ k=>Dead k
  | .frozen _ k=>∀ b,Dead (k b)
  | .getObj _ k=>∀ o,Dead (k o)
  | .setObj _ _ k=>Dead k
  | .sys _ k=>∀ r,Dead (k r)
  | .mark m k=>m=.noRoom/\Tame P k
section
variable {P:Program} {α β:Type}
theorem Dead.bind' {x:Sem α} {f:α->Sem β} (h:Dead x):Dead (x.bind f):=by
  induction x with
  | pure a=>exact h.elim
  | halt _=>trivial
  | load m a k ih=>exact fun v=>ih v (h v)
  | store m a v k ih=>exact ih h
  | new o k ih=>exact fun v=>ih v (h v)
  | shape r k ih=>exact fun v=>ih v (h v)
  | freeze a n k ih=>exact ih h
  | frozen a k ih=>exact fun v=>ih v (h v)
  | getObj r k ih=>exact fun v=>ih v (h v)
  | setObj r o k ih=>exact ih h
  | choose q k ih=>exact fun v=>ih v (h v)
  | sys c k ih=>exact fun v=>ih v (h v)
  | program k ih=>exact fun v=>ih v (h v)
  | mark m k ih=>exact ih h
theorem Dead.after' {x:Sem α} {f:α->Sem β} (h:∀ a,Dead (f a)):Dead (x.bind f):=by
  induction x with
  | pure a=>exact h a
  | halt _=>trivial
  | load m a k ih=>exact fun v=>ih v
  | store m a v k ih=>exact ih
  | new o k ih=>exact fun v=>ih v
  | shape r k ih=>exact fun v=>ih v
  | freeze a n k ih=>exact ih
  | frozen a k ih=>exact fun v=>ih v
  | getObj r k ih=>exact fun v=>ih v
  | setObj r o k ih=>exact ih
  | choose q k ih=>exact fun v=>ih v
  | sys c k ih=>exact fun v=>ih v
  | program k ih=>exact fun v=>ih v
  | mark m k ih=>exact ih
theorem Dead.after {x:Sem α} {f:α->Sem β} (h:∀ a,Dead (f a)):Dead (x >>= f):=Dead.after' h
theorem zhC {x:Sem α} {f:α->Sem β} (h:Tame P x) (hf:∀ a,Tame P (f a)):Tame P (x.bind f):=by
  induction x with
  | pure a=>exact hf a
  | load m a k ih=>exact⟨h.1,fun v=>ih v (h.2 v)⟩
  | store m a v k ih=>exact⟨h.1,ih h.2⟩
  | new o k ih=>exact⟨h.1,fun r=>ih r (h.2 r)⟩
  | choose q k ih=>exact fun n=>ih n (h n)
  | program k ih=>exact ih P h
  | halt _=>trivial
  | shape r k ih=>exact fun x=>(h x).bind'
  | freeze a n k ih=>exact Dead.bind' (show Dead k from h)
  | frozen a k ih=>exact fun x=>(h x).bind'
  | getObj r k ih=>exact fun x=>(h x).bind'
  | setObj r o k ih=>exact Dead.bind' (show Dead k from h)
  | sys c k ih=>exact fun x=>(h x).bind'
  | mark m k ih=>exact⟨h.1,ih h.2⟩
theorem zao {x:Sem α} {f:α->Sem β} (h:Tame P x) (hf:∀ a,Tame P (f a)):Tame P (x >>= f):=zhC h hf
theorem zqy {x:Sem α} {f:α->β} (h:Tame P x):Tame P (f <$> x):=by
  show Tame P (x.bind fun a=>.pure (f a));exact zhC h fun _=>trivial
theorem zjt (a:α):Tame P (pure a:Sem α):=trivial
theorem zlO {x:Sem α} {a:α} {f:α->Sem β} (h:calm P x=some a) (hf:Tame P (f a)):Tame P (x.bind f):=by
  induction x with
  | pure b=>cases h;exact hf
  | program k ih=>exact ih P h
  | _=>cases h
theorem zfb {x:Sem α} {a:α} {f:α->Sem β} (h:calm P x=some a) (hf:Tame P (f a)):Tame P (x >>= f):=zlO h hf
theorem zb8 {x:Sem α} {a:α} (h:calm P x=some a):Tame P x:=by
  induction x with
  | pure b=>trivial
  | program k ih=>exact ih P h
  | _=>cases h
theorem ziK (a:Addr):Tame P (load a):=⟨rfl,fun _=>trivial⟩
theorem zlS (a:Addr) (v:Value):Tame P (store a v):=⟨rfl,trivial⟩
theorem zc3 (a:Addr):∀ (n i:Nat) (acc:Array Value),Tame P (loadCellsFrom a i n acc)
  | 0,_,_=>trivial
  | n+1,i,acc=>zao (ziK _) fun v=>zc3 a n (i+1) (acc.push v)
theorem za4 (a:Addr) (n:Nat):Tame P (loadCells a n):=zc3 a n 0 #[]
theorem zaY (a:Addr):∀ (vs:List Value) (i:Nat),Tame P (storeCells a vs i)
  | [],_=>trivial
  | v::vs,i=>zao (zlS _ _) fun _=>zaY a vs (i+1)
theorem zaA (t:TypeId):Tame P (underlying t):=by
  unfold underlying;refine zfb (zb2 P) ?_;split<;>trivial
theorem zbh (t:TypeId):Tame P (typeInfo t):=by
  unfold typeInfo;refine zfb (zb2 P) ?_;split<;>trivial
theorem za2 (t:TypeId):Tame P (sizeOf t):=zao (zbh t) fun _=>trivial
theorem zcm (t:TypeId):Tame P (isAgg t):=zao (zaA t) fun d=>by split<;>trivial
theorem zfP (t:TypeId) (a:Addr):Tame P (loadVar t a):=by
  refine zao (zcm t) fun b=>?_;split
  . exact zao (za2 t) fun n=>zao (za4 a n) fun _=>trivial
  . exact ziK a
theorem zh1 (t:TypeId) (a:Addr) (v:Value):Tame P (storeVar t a v):=by
  refine zao (za2 t) fun n=>?_;split
  . exact trivial
  . exact zaY _ _ _
theorem zdF (v:Value):Tame P (Instr.sureAddr v):=by unfold Instr.sureAddr;split<;>trivial
theorem zki (t:TypeId) (v:Value):Tame P (Instr.loadAt t v):=zao (zdF v) fun a=>zfP t a
theorem ziV (t:TypeId) (v x:Value):Tame P (Instr.storeAt t v x):=zao (zdF v) fun a=>zh1 t a x
theorem zbj (t:TypeId) (cs:Array Value):Tame P (newRow t cs):=⟨rfl,fun _=>trivial⟩
theorem za5 (t:TypeId):Tame P (zeroValue t):=zao (zbh t) fun i=>by split<;>trivial
theorem zmp (t:TypeId):Tame P (Instr.alloc t true (.tuple #[])):=zao (za5 t) fun z=>zao (zbj _ _) fun _=>trivial
theorem zpQ (t:TypeId) (v:Value):Tame P (Instr.box t v):=zao (zbj _ _) fun _=>trivial
theorem zgR (t:TypeId) (len:Nat) (ps:Array (Nat × Value)):Tame P (Instr.buildSlice t len ps):=by
  unfold Instr.buildSlice
  repeat' (first|exact trivial|exact zaA _|exact za2 _|exact za5 _|exact zbj _ _|(refine zao ?_ fun _=>?_)|split|dsimp only)
theorem zbq (s n:Nat) (v:Value):Tame P (Builtin.firstCells s n v):=by
  unfold Builtin.firstCells;split<;>first|exact za4 _ _|exact trivial
theorem zb4 (v:Value):Tame P (Builtin.lenOf v):=by unfold Builtin.lenOf;split<;>exact trivial
theorem zb7 (n:Nat):Tame P (askRoom n):=by unfold askRoom;split;exact⟨rfl,trivial⟩;exact trivial
theorem zbX (q:Question):Tame P (choose q):=fun _=>trivial
theorem zb5 (v:Value):Tame P (asInt v):=by unfold asInt asIntOf;refine zao ?_ fun _=>trivial;split<;>exact trivial
theorem zb1 {α:Type} (e:RuntimeError):Tame P (runtimePanic e:Sem α):=by
  unfold runtimePanic;refine zfb (zb2 P) ?_;cases e<;>simp only []<;>repeat' (first|exact trivial|exact zbj _ _|exact zaA _|(unfold elemOf newVar)|(refine zao ?_ fun _=>?_)|split|dsimp only)
end
end Go.Proofs.Ytgndgbnhkoppmaa
