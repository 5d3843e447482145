/-
  The abstract machine over this program's memories and direct ports: what their functions do to a state of them; threads' objects beside them.
  Conditions: where a step count is told, it is below 10^12.
-/
import Derived.Test.YtpkkfkebnhgaiaaUAx10
import Derived.IntWalk
set_option maxHeartbeats 40000000
set_option linter.unusedVariables false
set_option linter.unusedSimpArgs false
open List renaming getElem?_eq_some_iff->qa,getElem?_eq_none->qb,length_map->qc,length_append->qd,mem_of_getElem?->qg,replicate->qh,getElem?_append_left->qi,getElem?_map->qj,map_toArray->ql,all_eq_true->qm,getElem?_append_right->qn,pairwise_iff_getElem->qo,getElem?_eq_getElem->qp,getElem?_set_self->qq,getElem?_set_ne->qr,getElem?_of_mem->qs,map_congr_left->qt
open Nat renaming add_sub_cancel_left->qe
open Go.Region renaming wanted->qf
open Option renaming map_some->qk
namespace Go.Proofs.Ytpkkfkebnhgaiaa
open Go Go.RowKit
def isq:Nat->Nat
  | 0=>0
  | n+1=>if(isq n+1) * (isq n+1)<=n+1 then isq n+1 else isq n
theorem zlx:∀n,isq n * isq n<=n/\n<(isq n+1) * (isq n+1)
  | 0=>by simp[isq]
  | n+1=>by
    obtain⟨h1,h2⟩:=zlx n;unfold isq;split
    . rename_i h;refine⟨h,?_⟩;have:(isq n+1+1) * (isq n+1+1)=(isq n+1) * (isq n+1)+2 * (isq n+1)+1:=by
        simp only[Nat.add_mul,Nat.mul_add];omega
      omega
    . omega
def code(a b:Nat):Nat:=(a+b) * (a+b)+a
theorem zl2(a b:Nat):isq (code a b)=a+b:=by
  obtain⟨h1,h2⟩:=zlx (code a b);have hc:code a b<(a+b+1) * (a+b+1):=by
    unfold code;have:(a+b+1) * (a+b+1)=(a+b) * (a+b)+2 * (a+b)+1:=by simp only[Nat.add_mul,Nat.mul_add];omega
    omega
  have hd:(a+b) * (a+b)<=code a b:=by unfold code;omega
  rcases Nat.lt_trichotomy (isq (code a b)) (a+b) with h|h|h
  . have:=Nat.mul_le_mul (show isq (code a b)+1<=a+b by omega) (show isq (code a b)+1<=a+b by omega)
    omega
  . exact h
  . have:=Nat.mul_le_mul (show a+b+1<=isq (code a b) by omega) (show a+b+1<=isq (code a b) by omega)
    omega
def aux(s:Nat)(i:Nat):Nat:=if i=1 then s - isq s * isq s else isq s - (s - isq s * isq s)
theorem zmn(a b:Nat):aux (code a b) 1=a:=by
  unfold aux;rw[if_pos rfl,zl2];unfold code;omega
theorem zrJ(a b:Nat):aux (code a b) 2=b:=by
  unfold aux;rw[if_neg (by decide),zl2]
  unfold code;omega
inductive Ob where
  | mem (ws:List UInt64) (bs:List UInt8)
  | port (m:Nat) (me:Int) (steps:Nat)
  | thr (self:Int) (quit:Nat) (closed busy:Bool) (cur:Option (Nat×Nat×Nat)) (pend:Option Nat)
  | wp (self:Int) (steps:Nat) (ask grant quit:Nat)
  | acc (c:Nat) (n:Int) (A B:UInt64)
  | box (c:Nat)
abbrev St:=List Ob
def hndV(k:Nat):Value:=.pointer (some ⟨VB+k,0,none⟩)
def prtV(k:Nat):Value:=.iface 39 (hndV k)
def BF(P:Program)(hm:P.follows .mixedOrders=true):Face P Unit where
  mix:=hm
  cnt:=fun _=>0
  rep:=fun _ _ _=>True
  fp:=fun _ _ _=>False
  prim:=fun _ _ _ _ _=>False
  rep_same:=fun _ _ _ _ _ _=>⟨trivial,fun _ h=>h⟩
  rep_kept:=fun _ _ _ _ _ _ _=>trivial
  fp_low:=fun _ _ _ _ _ h=>h.elim
  prim_hand:=fun _ _ _ _ _ h=>h.elim
  prim_ok:=fun _ _ _ _ _ _ _ h=>h.elim
def PureD(f:FuncId)(args:Array Value)(v:Value):Prop:=Does (BF Try.prog Try.mix) f args [] () v ()
def zne(f:FuncId)(args:Array Value)(v:Value):Prop:=∀w,TCalls Try.prog f args w fun e w'=>e=.returned v/\Kept w (fun _=>False) w'
def wr(n:Nat):Int:=IntKind.i64.wrap (n:Int)
def accS(S:St)(p m:Nat)(me:Int)(steps:Nat)(ws:List UInt64)(bs:List UInt8):St:=(S.set p (.port m me steps)).set m (.mem ws bs)
inductive Prim:FuncId->Array Value->St->Value->St->Prop
  | pure {f args v S} (h:∀w:World,zne f args v) (ha:args.all zac=true) (hv:zac v=true):Prim f args S v S
  | word {k:Nat} {ws:List UInt64} {bs:List UInt8} {S:St} (n:Int) (h:S[k]?=some (Ob.mem ws bs)):Prim 12 #[hndV k,.int .i64 n] S (.int .u64 ((wT 1 n 0 ws).toNat:Int)) S
  | do' {k:Nat} {ws:List UInt64} {bs:List UInt8} {S:St} (c:Nat) (n:Int) (A B:UInt64) (h:S[k]?=some (Ob.mem ws bs)) (h1:1<=c) (h4:c<=4) :
      Prim 27 #[hndV k,accV c n A B] S (.tuple #[.int .u64 ((wT c n A ws).toNat:Int),.bool (wAt ws n).isSome]) (S.set k (.mem (wS c n A B ws) bs))
  | load {p m:Nat} {me:Int} {steps:Nat} {ws:List UInt64} {bs:List UInt8} {S:St} (n:Int) (h:S[p]?=some (Ob.port m me steps)) (hm:S[m]?=some (Ob.mem ws bs)) (hs:steps<=1000000000000) :
      Prim 60 #[hndV p,.int .i64 n] S (.int .u64 ((wT 1 n 0 ws).toNat:Int)) (accS S p m me (steps+1) (wS 1 n 0 0 ws) bs)
  | cas {p m:Nat} {me:Int} {steps:Nat} {ws:List UInt64} {bs:List UInt8} {S:St} (n:Int) (A B:UInt64) (h:S[p]?=some (Ob.port m me steps)) (hm:S[m]?=some (Ob.mem ws bs)) (hs:steps<=1000000000000) :
      Prim 57 #[hndV p,.int .i64 n,.int .u64 (A.toNat:Int),.int .u64 (B.toNat:Int)] S (.bool (wT 3 n A ws==1)) (accS S p m me (steps+1) (wS 3 n A B ws) bs)
  | self {p m:Nat} {me:Int} {steps:Nat} {S:St} (h:S[p]?=some (Ob.port m me steps)):Prim 62 #[hndV p] S (.int .i64 me) S
  | steps {p m:Nat} {me:Int} {steps:Nat} {S:St} (h:S[p]?=some (Ob.port m me steps)):Prim 15 #[hndV p] S (.int .i64 (steps:Int)) S
  | dget {k:Nat} {ws:List UInt64} {bs:List UInt8} {S:St} (n:Int) (A B:UInt64) (h:S[k]?=some (Ob.mem ws bs)) :
      Prim 27 #[hndV k,accV 5 n A B] S (.tuple #[.int .u64 ((bT n bs).toNat:Int),.bool (bAt bs n).isSome]) S
  | dput {k:Nat} {ws:List UInt64} {bs:List UInt8} {S:St} (n:Int) (A B:UInt64) (h:S[k]?=some (Ob.mem ws bs)) :
      Prim 27 #[hndV k,accV 6 n A B] S (.tuple #[.int .u64 0,.bool (bAt bs n).isSome]) (S.set k (.mem ws (bS n A.toUInt8 bs)))
  | wself {k:Nat} {me:Int} {steps a b c:Nat} {S:St} (h:S[k]?=some (Ob.wp me steps a b c)):Prim 71 #[hndV k] S (.int .i64 me) S
  | pnew {m:Nat} {me:Int} {ws:List UInt64} {bs:List UInt8} {S:St} (h:S[m]?=some (Ob.mem ws bs)):Prim 14 #[hndV m,.int .i64 me] S (hndV S.length) (S++[.port m me 0])
  | mnew {S:St} (a b:Nat) (ha:a<=2097152) (hb:b<=1048576):Prim 19 #[.int .i64 a,.int .i64 b] S (.tuple #[hndV S.length,.int .i64 0]) (S++[.mem (qh a 0) (qh b 0)])
theorem zcB{args:Array Value}(F:Emb)(h:args.all zac=true):args.map (ren F)=args:=by
  apply Array.ext
  . simp
  . intro i h1 h2;simp only[Array.getElem_map];exact zaA F ((Array.all_eq_true.1 h) i h2)
variable {u a b v0:Value}
theorem Prim.len{f:FuncId}{args:Array Value}{S S':St}{v:Value}(h:Prim f args S v S'):S.length<=S'.length:=by
  cases h<;>simp[accS]
theorem zi3(c k:Nat)(h:k<c):Hand c (hndV k):=by
  intro F F' hs;have:=hs (VB+k) ⟨by omega,by omega⟩
  simp[hndV,adr,this.1,this.2.1]
theorem Prim.hand{f:FuncId}{args:Array Value}{S S':St}{v:Value}(h:Prim f args S v S'):Hand S'.length v:=by
  cases h with
  | pure h ha hv=>exact Hand.plain hv
  | pnew h=>exact zi3 _ _ (by simp)
  | mnew a b ha hb =>
    have h1:=zi3 (S++[Ob.mem (qh a 0) (qh b 0)]).length S.length (by simp)
    intro F F' hs;simp only[zcP,ql,zMp,zMn,zbr];rw[h1 F F' hs]
  | _=>exact Hand.plain (by first|rfl|simp[zac])
variable {m i c s n off k N T nx q:Nat}
theorem zlO{S:St}{p:Nat}{me:Int}{steps:Nat}{ws:List UInt64}{bs:List UInt8}{ob ob2:Ob}(h:S[p]?=some ob)(hm:S[m]?=some ob2)(hne:p≠m):(accS S p m me steps ws bs)[p]?=some (Ob.port m me steps)/\(accS S p m me steps ws bs)[m]?=some (Ob.mem ws bs):=by
  have h1:=(qa.1 h).1;have h2:=(qa.1 hm).1;unfold accS;constructor
  . rw[qr (Ne.symm hne),qq h1]
  . rw[qq (by simpa using h2)]
variable {pl:Nat->Option (Nat × Nat)}
section
variable {P:Program}{e:Operand->Value}{h:AHeap}{t:TypeId}{x y:Operand}{k:IntKind}{a b:Int}
theorem zsP(l:List Value)(t:Nat):evA l (.tmp t)=l.getD t undef:=rfl
theorem zpK(l:List Value)(v:Value):evA l (.const v)=v:=rfl
theorem zri(l:List Value)(f:FuncId):evA l (.func f)=.func (.func f) #[] #[]:=rfl
theorem zpV(d:Nat)(v:Value)(l:List Value):putL (some d) v l=l.set d v:=rfl
theorem zqm(v:Value)(l:List Value):putL none v l=l:=rfl
theorem zth:valA P e h (.move x)=some (e x):=rfl
theorem zqx:valA P e h (.assign x)=some (e x):=rfl
theorem zt1{op:BinOp}{u:TypeId}:valA P e h (.binOp op t x y u)=zaM P op t y (e x) (e y):=rfl
theorem v_un{op:UnOp}:valA P e h (.unOp op t x)=unA op (e x):=rfl
theorem zo9{u:TypeId}:valA P e h (.convert t u x)=zd4 P t u (e x):=rfl
theorem zrV :valA P e h (.field t x i)=zhx P t (e x) i:=rfl
theorem zrw:valA P e h (.index t x y)=zhq P t (e x) (e y):=rfl
theorem zmL{fn:Fn}{xs ys:Array Operand}:valA P e h (.makeFunc fn xs ys)=some (.func fn (xs.map e) (ys.map e)):=rfl
theorem zmh:valA P e h (.nilCheck x)=zcn P (e x):=rfl
theorem zkn :valA P e h (.fieldAddr t x i)=zcE P t (e x) i:=rfl
theorem zk5:valA P e h (.indexAddr t x y)=zcA P t (e x) (e y):=rfl
def zrL(P:Program)(h:AHeap)(t:TypeId):Value->Option Value
  | .pointer (some a)=>zgu P h t a
  | _=>none
theorem ztu:valA P e h (.load t x)=zrL P h t (e x):=by
  show(match e x with|.pointer (some a)=>zgu P h t a|_=>none)=_
  unfold zrL;rfl
theorem zqi{a:Addr}:zrL P h t (.pointer (some a))=zgu P h t a:=rfl
def zrI(c a b:Value):Option Value:=match c with
  | .bool t=>some (if t then a else b)
  | _=>none
theorem ztQ{z:Operand}:valA P e h (.pick x y z)=zrI (e x) (e y) (e z):=rfl
theorem zoI{v:Value}:zrI (.bool true) v u=some v:=rfl
theorem zm6{v:Value}:zrI (.bool false) v u=some u:=rfl
def zlI(v:Value)(i:Nat):Option Value:=match v with
  | .tuple vs=>vs[i]?
  | _=>none
theorem zof :valA P e h (.extract x i)=zlI (e x) i:=rfl
theorem zjb{vs:Array Value}:zlI (.tuple vs) i=vs[i]?:=rfl
theorem zuJ:zaM P .add t y (.int k a) (.int k b)=some (.int k (k.wrap (a+b))):=by simp[zaM,binA,intA]
theorem zt9:zaM P .sub t y (.int k a) (.int k b)=some (.int k (k.wrap (a - b))):=by simp[zaM,binA,intA]
theorem zuQ:zaM P .mul t y (.int k a) (.int k b)=some (.int k (k.wrap (a * b))):=by simp[zaM,binA,intA]
theorem zt6(hb:b≠0):zaM P .rem t y (.int k a) (.int k b)=some (.int k (a.tmod b)):=by simp[zaM,binA,intA,hb]
theorem zuc:zaM P .eql t y (.int k a) (.int k b)=some (.bool (a==b)):=by simp[zaM,binA,intA]
theorem zuz:zaM P .neq t y (.int k a) (.int k b)=some (.bool (a != b)):=by simp[zaM,binA,intA]
theorem zuD:zaM P .lss t y (.int k a) (.int k b)=some (.bool (decide (a<b))):=by simp[zaM,binA,intA]
theorem zuo:zaM P .leq t y (.int k a) (.int k b)=some (.bool (decide (a<=b))):=by simp[zaM,binA,intA]
theorem zur:zaM P .gtr t y (.int k a) (.int k b)=some (.bool (decide (b<a))):=by simp[zaM,binA,intA]
theorem zuu:zaM P .geq t y (.int k a) (.int k b)=some (.bool (decide (b<=a))):=by simp[zaM,binA,intA]
theorem zux{c:Bool}:unA .not (.bool c)=some (.bool !c):=rfl
theorem zus:unA .neg (.int k a)=some (.int k (k.wrap (0 - a))):=rfl
theorem zut:((0:Nat):Int)=0:=rfl
theorem zt8:((1:Nat):Int)=1:=rfl
def znI(b:Option Blk)(g:Option Bool)(s:Option Nat)(a:Addr):Option Value:=match b,g,s with
  | some b,some true,some s=>if a.spot=none/\a.off=0/\b.cells.length=s then some (.agg b.cells.toArray) else if a.spot=none/\a.off+s<=b.cells.length then some (.agg ((b.cells.drop a.off).take s).toArray) else none
  | some b,some false,some _=>if a.spot=none then b.cells[a.off]? else none
  | _,_,_=>none
theorem zpX{a:Addr}:zgu P h t a=znI (h.get a.block) (zaU P t) (zai P t) a:=rfl
theorem zmd{b:Blk}{o:Nat}:znI (some b) (some false) (some s) ⟨n,o,none⟩=b.cells[o]?:=by simp[znI]
theorem zoK{b:Blk}(hl:b.cells.length=s):znI (some b) (some true) (some s) ⟨n,0,none⟩=some (.agg b.cells.toArray):=by simp[znI,hl]
def zh2(P:Program)(t:TypeId):Bool:=match P.underlying t with|some (.pointer _)=>true|_=>false
def zr8(P:Program)(t:TypeId):Bool:=match P.underlying t with|some (.interface _)=>true|_=>false
def zsX(P:Program)(t:TypeId):Bool:=match P.underlying t with|some (.slice _)=>true|_=>false
theorem zsV{a:Option Addr}:zaM P .eql t y (.pointer a) (.pointer none)=cond (zh2 P t) (some (.bool a.isNone)) none:=by
  simp only[zaM,binA,zgX,zfa,zh2];cases P.underlying t with
  | none=>rfl
  | some u=>cases u<;>rfl
theorem zuP{k:Nat}:zaM P .eql t y (hndV k) (.pointer none)=cond (zh2 P t) (some (.bool false)) none:=zsV
theorem zui{a b:Bool}:zaM P .neq t y (.bool a) (.bool b)=cond (zgZ P t) (some (.bool !(a==b))) none:=by
  simp only[zaM,binA,zgX,zfa];cases hu:P.underlying t with
  | none=>simp[zgZ,hu]
  | some u=>cases u<;>simp[zgZ,hu]
def tyMk(P:Program)(t:TypeId):Bool:=match P.underlying t with|some (.interface _)=>false|some _=>true|none=>false
theorem zrv:valA P e h (.makeInterface t x)=cond (tyMk P t) (some (.iface t (e x))) none:=by
  simp only[valA,tyMk];cases P.underlying t with
  | none=>rfl
  | some u=>cases u<;>rfl
theorem zpx{k:Nat}:Value.iface 39 (hndV k)=prtV k:=rfl
theorem zuh{ats:Array TypeId}{z:Operand}:valA P e h (.call { callee:=.builtin .len,args:=#[z],argTypes:=ats })=(match ats.toList with|[t]=>lenA P t (e z)|_=>none):=by
  show(match [z],ats.toList with|[x],[t]=>lenA P t (e x)|_,_=>none)=_
  cases ats.toList with
  | nil=>rfl
  | cons a l=>cases l<;>rfl
def min2:Value->Value->Option Value
  | .int k x,.int _ y=>some (.int k (if y<x then y else x))
  | _,_=>none
def max2:Value->Value->Option Value
  | .int k x,.int _ y=>some (.int k (if y > x then y else x))
  | _,_=>none
theorem zrG{ps:Array (Nat×Operand)}:valA P e h (.build t ps)=zg8 P t (ps.toList.map fun p=>(p.1,e p.2)):=rfl
theorem zrn{lo hi mx:Option Operand}:valA P e h (.slice t x lo hi mx)=ze1 P h t (e x) (lo.map e) (hi.map e) (mx.map e):=rfl
def zjT(o:Option (Nat×Nat))(v:Value)(cells:List Value)(K:List Value->Option (List Value)):Option (List Value):=match o with
  | none=>none
  | some (off,size)=>if v.cells.size≠size\/off+v.cells.size > cells.length then none else K (zaP cells off v.cells.toList)
theorem zny{cells:List Value}{v:Value}{l:List (Nat×Value)}:zf5 pl cells ((i,v)::l)=zjT (pl i) v cells fun c=>zf5 pl c l:=by
  rw[zf5];unfold zjT;rfl
theorem zpO{cells:List Value}:zf5 pl cells []=some cells:=rfl
theorem zfz{v:Value}{cells:List Value}{K:List Value->Option (List Value)}(hv:v.cells=#[v])(hl:off<cells.length):zjT (some (off,1)) v cells K=K (cells.set off v):=by
  have:¬ ((#[v]:Array Value).size≠1\/off+(#[v]:Array Value).size > cells.length):=by simp;omega
  unfold zjT;simp only[hv];rw[if_neg this];congr 1;unfold zaP;rw[List.set_eq_take_append_cons_drop,if_pos hl];simp
theorem zo8{n:Int}{cells:List Value}{K:List Value->Option (List Value)}(hl:off<cells.length):zjT (some (off,1)) (.int k n) cells K=K (cells.set off (.int k n)):=zfz rfl hl
theorem zoq{c:Option Addr}{cells:List Value}{K:List Value->Option (List Value)}(hl:off<cells.length):zjT (some (off,1)) (.pointer c) cells K=K (cells.set off (.pointer c)):=zfz rfl hl
theorem zkG{d:Option Addr}{cells:List Value}{K:List Value->Option (List Value)}(hl:off<cells.length):zjT (some (off,1)) (.slice d n c) cells K=K (cells.set off (.slice d n c)):=zfz rfl hl
theorem znm{fn:Fn}{xs ys:Array Value}{cells:List Value}{K:List Value->Option (List Value)}(hl:off<cells.length):zjT (some (off,1)) (.func fn xs ys) cells K=K (cells.set off (.func fn xs ys)):=zfz rfl hl
theorem ztV{f:FuncId}{args:Array Operand}{ats:Array TypeId}:zaJ P e (.call { callee:=.value (.func f),args:=args,argTypes:=ats })=(match e (.func f) with|.func (.func g) xs ys=>some (g,xs++args.map e++ys)|.func (.method name) xs _=>(match xs.toList with|[.iface t (.pointer p)]=>(match zbi P t name with|some g=>some (g,#[.pointer p]++args.map e)|none=>none)|_=>none)|_=>none):=rfl
def zp5(P:Program)(f:Value)(args:Array Value):Option (FuncId×Array Value):=match f with
  | .func (.func g) xs ys=>some (g,xs++args++ys)
  | .func (.method name) xs _=>(match xs.toList with
    | [.iface t (.pointer p)]=>(match zbi P t name with|some g=>some (g,#[.pointer p]++args)|none=>none)
    | _=>none)
  | _=>none
theorem zsB{f:Operand}{args:Array Operand}{ats:Array TypeId}:zaJ P e (.call { callee:=.value f,args:=args,argTypes:=ats })=zp5 P (e f) (args.map e):=by
  unfold zaJ zp5;rfl
theorem zoD{g:FuncId}{xs ys args:Array Value}:zp5 P (.func (.func g) xs ys) args=some (g,xs++args++ys):=rfl
theorem zpd{name:String}{k:Nat}{ys args:Array Value}:zp5 P (.func (.method name) #[prtV k] ys) args=(match zbi P 39 name with|some f=>some (f,#[hndV k]++args)|none=>none):=rfl
def zjj(P:Program)(r:Value)(name:String)(args:Array Value):Option (FuncId×Array Value):=match r with
  | .iface t (.pointer p)=>(match zbi P t name with|some f=>some (f,#[.pointer p]++args)|none=>none)
  | _=>none
theorem zqE{r:Operand}{name:String}{args:Array Operand}{ats:Array TypeId}:zaJ P e (.call { callee:=.invoke r name,args:=args,argTypes:=ats })=zjj P (e r) name (args.map e):=by
  unfold zaJ zjj;rfl
theorem zt7{k:Nat}{name:String}{args:Array Value}:zjj P (prtV k) name args=(match zbi P 39 name with|some f=>some (f,#[hndV k]++args)|none=>none):=rfl
theorem ztX{k:Nat}{name:String}:zcn P (.func (.method name) #[prtV k] #[])=(match zbi P 39 name with|some _=>some (.func (.method name) #[prtV k] #[])|none=>none):=rfl
theorem zua{a:Addr}:zcn P (.pointer (some a))=some (.pointer (some a)):=rfl
theorem zrA{n0:Nat}(hn:n<n0):(lowH n0 h).get n=h.get n:=by
  unfold lowH;simp[hn]
theorem wrap_i64{n:Int}(h1:-9223372036854775808<=n)(h2:n<=9223372036854775807):IntKind.i64.wrap n=n:=IntWalk.i64_in n ⟨h1,h2⟩
end
def fnOK(P:Program)(f:FuncId):Bool:=match P.funcs[f]? with
  | some g=>goB g
  | none=>false
variable {P:Program}
theorem zhb{f:FuncId}(h:fnOK P f=true):∃g,P.funcs[f]?=some g/\goB g=true:=by
  unfold fnOK at h;split at h
  . rename_i g hg;exact⟨g,hg,h⟩
  . cases h
theorem zsz(n c k:Nat)(h:k<c):Clo (Kn n c) (prtV k):=by
  intro F F' hs;have:=hs (VB+k) (.inr ⟨by omega,by omega⟩)
  simp[prtV,hndV,adr,this.1,this.2.1]
theorem zr4(n c k:Nat)(h:k<c):Clo (Kn n c) (hndV k):=by
  intro F F' hs;have:=hs (VB+k) (.inr ⟨by omega,by omega⟩)
  simp[hndV,adr,this.1,this.2.1]
variable {K:Nat->Prop}
theorem clo0 :∀u∈(#[]:Array Value).toList,Clo K u:=fun u hu=>by cases hu
theorem clo1(ha:Clo K a):∀u∈#[a].toList,Clo K u:=fun u hu=>by
  simp only[zMc,zNm,or_false]at hu;subst hu;exact ha
theorem clo2(ha:Clo K a)(hb:Clo K b):∀u∈#[a,b].toList,Clo K u:=fun u hu=>by
  simp only[zMc,zNm,or_false]at hu;rcases hu with rfl|rfl;exact ha;exact hb
theorem clo3{c:Value}(ha:Clo K a)(hb:Clo K b)(hc:Clo K c):∀u∈#[a,b,c].toList,Clo K u:=fun u hu=>by
  simp only[zMc,zNm,or_false]at hu;rcases hu with rfl|rfl|rfl;exact ha;exact hb;exact hc
theorem zul(ha:Hand c a)(hb:Hand c b):Hand c (.tuple #[a,b]):=fun F F' hs=>by
  simp only[zcP,ql,zMp,zMn,ha F F' hs,hb F F' hs]
theorem zhW(h:k<c):Hand c (hndV k):=zi3 c k h
theorem zuy :Hand c (.agg (geoC N T)):=Hand.plain (by simp[zac,geoC])
theorem iclo{k:IntKind}{n:Int}:Clo K (.int k n):=Clo.plain rfl
theorem gclo  :Clo K (.agg (geoC N T)):=Clo.plain (by simp[zac,geoC])
theorem zaf(N T:Nat):(geoC N T).toList.length=22:=by simp[geoC]
theorem zql(N T:Nat):(geoC N T).size=22:=by simp[geoC]
theorem zse(N T:Nat):(geoC N T).toList.all zdu=true:=by simp[geoC,zdu]
theorem zm2{l vs:List Value}(h:l.length=vs.length):zaP l 0 vs=vs:=by simp[zaP,h]
theorem zmW{l:List Value}(h:l.length=22):zaP l 0 (geoC N T).toList=(geoC N T).toList:=zm2 (by rw[h,zaf])
theorem zk6{v:Value}{l vs:List Value}:zaP (a::l) 0 (v::vs)=v::zaP l 0 vs:=by
  unfold zaP;rw[show 0+(v::vs).length=(0+vs.length)+1 by simp]
  rfl
theorem znb{l:List Value}:zaP l 0 []=l:=by simp[zaP]
theorem znK(k:IntKind)(n:Int):zdu (.int k n)=true:=rfl
theorem zl8(b:Bool):zdu (.bool b)=true:=rfl
theorem zo7(a:Option Addr):zdu (.pointer a)=true:=rfl
theorem zk9(a:Option Addr)(n c:Nat):zdu (.slice a n c)=true:=rfl
theorem zky(t:TypeId)(v:Value):zdu (.iface t v)=true:=rfl
theorem zng(fn:Fn)(xs ys:Array Value):zdu (.func fn xs ys)=true:=rfl
theorem zpm(k:Nat):zdu (hndV k)=true:=rfl
theorem zpn(k:Nat):zdu (prtV k)=true:=rfl
theorem zqy:zdu .nilIface=true:=rfl
theorem zqc:zdu .nilFunc=true:=rfl
theorem zom(cs:Array Value):(Value.agg cs).cells=cs:=rfl
theorem zpG(k:IntKind)(n:Int):(Value.int k n).cells=#[.int k n]:=rfl
theorem zl6(b:Bool):(Value.bool b).cells=#[.bool b]:=rfl
theorem zoL(a:Option Addr):(Value.pointer a).cells=#[.pointer a]:=rfl
theorem zkw(a:Option Addr)(n c:Nat):(Value.slice a n c).cells=#[.slice a n c]:=rfl
theorem zkL(t:TypeId)(v:Value):(Value.iface t v).cells=#[.iface t v]:=rfl
theorem zmU(fn:Fn)(xs ys:Array Value):(Value.func fn xs ys).cells=#[.func fn xs ys]:=rfl
theorem znX(k:Nat):(prtV k).cells=#[prtV k]:=rfl
theorem zo6(k:Nat):(hndV k).cells=#[hndV k]:=rfl
section
variable {P:Program}{σ:Type}{X:Face P σ}{fn:Func}{A:Conf σ->Prop}{ops:Array Oper}{k:List Item}{i:Nat}{tmps:List Value}{h:AHeap}{S:σ}{o:Oper}{n0:Nat}{W:List Nat}{hf:AHeap}{Kf:List Value->AHeap->σ->Prop}{born:List (Nat × Nat)}
def ctl2:List Item->Option (List Item)
  | .code .skip::k|.code (.label _)::k|.inBlock _::k=>some k
  | .code (.seq a b)::k=>some (.code a::.code b::k)
  | .code (.block id b)::k=>some (.code b::.inBlock id::k)
  | .code (.exit id)::k=>exitTo id k
  | .code (.goto l)::k=>gotoIn l k
  | .inRegion _ []::k=>some k
  | .code (.scope b)::k=>some (.code b::.inScope b::k)
  | .inScope _::k=>some k
  | _=>none
theorem ztq{l l':List Item}(hc:ctl2 l=some l'):ctl tmps l=some l':=by
  unfold ctl2 at hc;split at hc<;>first|(cases hc;rfl)|exact hc|cases hc
theorem Goes.ctl2{todo todo':List Item}(hc:Go.Proofs.Ytpkkfkebnhgaiaa.ctl2 todo=some todo')(hk:Goes X fn A (.run todo' tmps h S)):Goes X fn A (.run todo tmps h S):=.ctl (ztq hc) hk
theorem Goes.yes{c:Operand}{x y:Code}(hc:evA tmps c=.bool true)(hk:Goes X fn A (.run (.code x::k) tmps h S)):Goes X fn A (.run (.code (.cond c x y)::k) tmps h S) :=
  .cond hc (fun _=>hk) (fun h=>by cases h)
theorem Goes.no{c:Operand}{x y:Code}(hc:evA tmps c=.bool false)(hk:Goes X fn A (.run (.code y::k) tmps h S)):Goes X fn A (.run (.code (.cond c x y)::k) tmps h S) :=
  .cond hc (fun h=>by cases h) (fun _=>hk)
theorem Goes.loop{b:Code}(hk:Goes X fn A (.run (.code b::.inLoop b::k) tmps h S)):Goes X fn A (.run (.code (.loop b)::k) tmps h S):=.ctl rfl hk
theorem Goes.inLoop{b:Code}(hk:Goes X fn A (.run (.code b::.inLoop b::k) tmps h S)):Goes X fn A (.run (.inLoop b::k) tmps h S):=.ctl rfl hk
theorem At.prim2(ho:ops.toList[i]?=some o)(hw:qf o (zah ops tmps)=true)(hb:opOK o.op=true)(hk:∀K:List Value->σ->Prop,(∀t S',At X fn A ops k (i+1) t h S'->K t S')->zdI (fun f args=>fnOK P f=true/\∃v S',X.prim f args S v S'/\K (putL o.dst v tmps) S') (zaJ P (evA tmps) o.op)):At X fn A ops k i tmps h S:=by
  have:=hk _ fun _ _ h=>h;cases hv:zaJ P (evA tmps) o.op with
  | none=>rw[hv]at this;exact this.elim
  | some x =>
    obtain⟨f,args⟩:=x;rw[hv]at this;obtain⟨hf,hr⟩:=this;obtain⟨g,h1,h2⟩:=zhb hf;exact At.prim (g:=g) (za2 ho) hw (za0 hb) (by rw[hv];exact⟨h1,h2,hr⟩)
theorem At.call2(ho:ops.toList[i]?=some o)(hw:qf o (zah ops tmps)=true)(hb:opOK o.op=true)(hk:∀K:List Value->σ->Prop,(∀t S',At X fn A ops k (i+1) t h S'->K t S')->zdI (fun f args=>∃v S',Does X f args [] S v S'/\K (putL o.dst v tmps) S') (zaJ P (evA tmps) o.op)):At X fn A ops k i tmps h S :=
  At.call (za2 ho) hw (za0 hb) (hk _ fun _ _ h=>h)
theorem RG.prim2(hl:h.Low)(ho:ops.toList[i]?=some o)(hw:qf o (zah ops tmps)=true)(hb:opOK o.op=true)(hq:wrB W i o=false)(hk:∀K:List Value->σ->Prop,(∀t S',RGF X W ops n0 hf Kf (i+1) t h S' born->K t S')->zdI (fun f args=>fnOK P f=true/\∃v S',X.prim f args S v S'/\K (putL o.dst v tmps) S') (zaJ P (evA tmps) o.op))(hnf:farB W i=false:=by rfl):RGF X W ops n0 hf Kf i tmps h S born:=by
  have:=hk _ fun _ _ h=>h;cases hv:zaJ P (evA tmps) o.op with
  | none=>rw[hv]at this;exact this.elim
  | some x =>
    obtain⟨f,args⟩:=x;rw[hv]at this;obtain⟨hf,hr⟩:=this;obtain⟨g,h1,h2⟩:=zhb hf;exact RG.prim (g:=g) hl (za2 ho) hw (za0 hb) hq (by rw[hv];exact⟨h1,h2,hr⟩) hnf
theorem RG.call2(hl:h.Low)(ho:ops.toList[i]?=some o)(hw:qf o (zah ops tmps)=true)(hb:opOK o.op=true)(hq:wrB W i o=false)(hk:∀K:List Value->σ->Prop,(∀t S',RGF X W ops n0 hf Kf (i+1) t h S' born->K t S')->zdI (fun f args=>∃v S',Does X f args [] S v S'/\K (putL o.dst v tmps) S') (zaJ P (evA tmps) o.op))(hnf:farB W i=false:=by rfl):RGF X W ops n0 hf Kf i tmps h S born :=
  RG.call hl (za2 ho) hw (za0 hb) hq (hk _ fun _ _ h=>h) hnf
end
attribute [go_sem] OpK NewK zgh zdI zsP zpK zri zpV zqm zth zqx zt1 v_un zo9 zrV zrw zmL zmh zkn zk5 ztu zqi ztQ zoI zm6 zof zjb zuJ zt9 zuQ zt6 zuc zuz zuD zuo zur zuu zux zus zsB zoD zpd zqE zt7 ztX zua zrA wrap_i64 znj ziv zoe Option.join_some zaN zaa zaf zql zse zmW zom zpG zl6 zoL zkw zkL zmU znX zo6 List.getElem?_cons_zero List.getElem?_cons_succ Array.toArray_toList if_true if_false List.getElem?_toArray List.length_cons List.length_nil ql List.map_cons List.map_nil List.append_toArray List.cons_append List.nil_append true_and List.getD_cons_zero List.getD_cons_succ List.set_cons_zero List.set_cons_succ newA zd4 zcE zcA zhx zhq zkV lenA zcq zeD zpX zmd Int.toNat_natCast
attribute [go_sem high] zoK
attribute [go_sem] zrv zpx eq_self and_false false_and List.drop_succ_cons List.drop_zero List.take_succ_cons List.take_zero zk6 znb znK zl8 zo7 zk9 zky zng zpm zpn zqy zqc List.size_toArray List.all_cons List.all_nil Bool.and_true zut zt8 Int.cast_ofNat_Int decide_true decide_false zsV zuP zui cond_true cond_false Option.isNone_some Option.isNone_none Bool.not_true Bool.not_false zuh zrG zrn zg8 zny zpO zo8 zoq zkG znm zbu qk
attribute [go_sem] and_true Nat.le_refl Nat.zero_add
attribute [go_sem_proc] Nat.reduceLT Nat.reduceGT Nat.reduceEqDiff Int.reduceNatCast Int.reduceEq Int.reduceNe Nat.reduceDiv Nat.reduceMod Int.reduceTDiv Int.reduceTMod Nat.reduceAdd Nat.reduceLeDiff Nat.reduceMul Nat.reduceSub Int.reduceLE Int.reduceLT Int.reduceToNat Int.reduceAdd Int.reduceSub Int.reduceMul Int.reduceBEq Int.reduceBNe Int.reduceNeg
theorem Try.eql7(y:Operand)(a0 b0:Int)(a1 b1:Int)(a2 b2:Bool)(a3 b3:Int):zaM Try.prog .eql 7 y (.agg #[.int .i64 a0,.int .i64 a1,.bool a2,.int .u8 a3]) (.agg #[.int .i64 b0,.int .i64 b1,.bool b2,.int .u8 b3])=some (.bool (a0==b0 && (a1==b1 && (a2==b2 && (a3==b3 && true))))):=by kernel_rfl
theorem Try.neq7(y:Operand)(a0 b0:Int)(a1 b1:Int)(a2 b2:Bool)(a3 b3:Int):zaM Try.prog .neq 7 y (.agg #[.int .i64 a0,.int .i64 a1,.bool a2,.int .u8 a3]) (.agg #[.int .i64 b0,.int .i64 b1,.bool b2,.int .u8 b3])=some (.bool !(a0==b0 && (a1==b1 && (a2==b2 && (a3==b3 && true))))):=by kernel_rfl
theorem Try.eql8(y:Operand)(a0 b0:Int)(a1 b1:Int)(a2 b2:Bool)(a3 b3:Int):zaM Try.prog .eql 8 y (.agg #[.int .i64 a0,.int .i64 a1,.bool a2,.int .u8 a3]) (.agg #[.int .i64 b0,.int .i64 b1,.bool b2,.int .u8 b3])=some (.bool (a0==b0 && (a1==b1 && (a2==b2 && (a3==b3 && true))))):=by kernel_rfl
theorem Try.neq8(y:Operand)(a0 b0:Int)(a1 b1:Int)(a2 b2:Bool)(a3 b3:Int):zaM Try.prog .neq 8 y (.agg #[.int .i64 a0,.int .i64 a1,.bool a2,.int .u8 a3]) (.agg #[.int .i64 b0,.int .i64 b1,.bool b2,.int .u8 b3])=some (.bool !(a0==b0 && (a1==b1 && (a2==b2 && (a3==b3 && true))))):=by kernel_rfl
theorem Try.eql63(y:Operand)(a0 b0:Int)(a1 b1:Int)(a2 b2:Int)(a3 b3:Int):zaM Try.prog .eql 63 y (.agg #[.int .u8 a0,.int .i64 a1,.int .u64 a2,.int .u64 a3]) (.agg #[.int .u8 b0,.int .i64 b1,.int .u64 b2,.int .u64 b3])=some (.bool (a0==b0 && (a1==b1 && (a2==b2 && (a3==b3 && true))))):=by kernel_rfl
theorem Try.neq63(y:Operand)(a0 b0:Int)(a1 b1:Int)(a2 b2:Int)(a3 b3:Int):zaM Try.prog .neq 63 y (.agg #[.int .u8 a0,.int .i64 a1,.int .u64 a2,.int .u64 a3]) (.agg #[.int .u8 b0,.int .i64 b1,.int .u64 b2,.int .u64 b3])=some (.bool !(a0==b0 && (a1==b1 && (a2==b2 && (a3==b3 && true))))):=by kernel_rfl
theorem Try.eql64(y:Operand)(a0 b0:Int)(a1 b1:Int)(a2 b2:Int)(a3 b3:Int):zaM Try.prog .eql 64 y (.agg #[.int .u8 a0,.int .i64 a1,.int .u64 a2,.int .u64 a3]) (.agg #[.int .u8 b0,.int .i64 b1,.int .u64 b2,.int .u64 b3])=some (.bool (a0==b0 && (a1==b1 && (a2==b2 && (a3==b3 && true))))):=by kernel_rfl
theorem Try.neq64(y:Operand)(a0 b0:Int)(a1 b1:Int)(a2 b2:Int)(a3 b3:Int):zaM Try.prog .neq 64 y (.agg #[.int .u8 a0,.int .i64 a1,.int .u64 a2,.int .u64 a3]) (.agg #[.int .u8 b0,.int .i64 b1,.int .u64 b2,.int .u64 b3])=some (.bool !(a0==b0 && (a1==b1 && (a2==b2 && (a3==b3 && true))))):=by kernel_rfl
theorem Try.eql113(y:Operand)(a0 b0:Int)(a1 b1:Int)(a2 b2:Int)(a3 b3:Int)(a4 b4:Int):zaM Try.prog .eql 113 y (.agg #[.int .u64 a0,.int .u64 a1,.int .u64 a2,.int .u64 a3,.int .u64 a4]) (.agg #[.int .u64 b0,.int .u64 b1,.int .u64 b2,.int .u64 b3,.int .u64 b4])=some (.bool (a0==b0 && (a1==b1 && (a2==b2 && (a3==b3 && (a4==b4 && true)))))):=by kernel_rfl
theorem Try.neq113(y:Operand)(a0 b0:Int)(a1 b1:Int)(a2 b2:Int)(a3 b3:Int)(a4 b4:Int):zaM Try.prog .neq 113 y (.agg #[.int .u64 a0,.int .u64 a1,.int .u64 a2,.int .u64 a3,.int .u64 a4]) (.agg #[.int .u64 b0,.int .u64 b1,.int .u64 b2,.int .u64 b3,.int .u64 b4])=some (.bool !(a0==b0 && (a1==b1 && (a2==b2 && (a3==b3 && (a4==b4 && true)))))):=by kernel_rfl
theorem Try.eql114(y:Operand)(a0 b0:Int)(a1 b1:Int)(a2 b2:Int)(a3 b3:Int)(a4 b4:Int):zaM Try.prog .eql 114 y (.agg #[.int .u64 a0,.int .u64 a1,.int .u64 a2,.int .u64 a3,.int .u64 a4]) (.agg #[.int .u64 b0,.int .u64 b1,.int .u64 b2,.int .u64 b3,.int .u64 b4])=some (.bool (a0==b0 && (a1==b1 && (a2==b2 && (a3==b3 && (a4==b4 && true)))))):=by kernel_rfl
theorem Try.neq114(y:Operand)(a0 b0:Int)(a1 b1:Int)(a2 b2:Int)(a3 b3:Int)(a4 b4:Int):zaM Try.prog .neq 114 y (.agg #[.int .u64 a0,.int .u64 a1,.int .u64 a2,.int .u64 a3,.int .u64 a4]) (.agg #[.int .u64 b0,.int .u64 b1,.int .u64 b2,.int .u64 b3,.int .u64 b4])=some (.bool !(a0==b0 && (a1==b1 && (a2==b2 && (a3==b3 && (a4==b4 && true)))))):=by kernel_rfl
theorem Try.ty0 :
  zaU Try.prog 2=some false /\
  zai Try.prog 2=some 1 /\
  tyMk Try.prog 2=true /\
  zap Try.prog 2=some 8 /\
  zaz Try.prog 2=some (.int .i64 0) /\
  zac (.int .i64 0)=true /\
  zaU Try.prog 3=some false /\
  zai Try.prog 3=some 1 /\
  tyMk Try.prog 3=true /\
  zap Try.prog 3=some 8 /\
  zaz Try.prog 3=some (.int .i64 0) /\
  zaU Try.prog 4=some false /\
  zai Try.prog 4=some 1 /\
  tyMk Try.prog 4=true /\
  zgZ Try.prog 4=true /\
  zap Try.prog 4=some 1 /\
  zaz Try.prog 4=some (.bool false) /\
  zac (.bool false)=true /\
  zaU Try.prog 5=some false /\
  zai Try.prog 5=some 1 /\
  tyMk Try.prog 5=true /\
  zap Try.prog 5=some 1 /\
  zaz Try.prog 5=some (.int .u8 0) /\
  zac (.int .u8 0)=true:=by(repeat' apply And.intro)<;>kernel_rfl
theorem Try.ty2 :
  zap Try.prog 8=some 24 /\
  zaz Try.prog 8=some (.agg #[.int .i64 0,.int .i64 0,.bool false,.int .u8 0]) /\
  zaU Try.prog 9=some false /\
  zai Try.prog 9=some 1 /\
  tyMk Try.prog 9=true /\
  zap Try.prog 9=some 16 /\
  zaz Try.prog 9=some (.string ⟨#[]⟩) /\
  zac (.string ⟨#[]⟩)=true /\
  zaU Try.prog 10=some false /\
  zai Try.prog 10=some 1 /\
  zap Try.prog 10=some 16 /\
  zaz Try.prog 10=some (.string ⟨#[]⟩) /\
  zaU Try.prog 11=some false /\
  zai Try.prog 11=some 1 /\
  zap Try.prog 11=some 16 /\
  zaz Try.prog 11=some (.string ⟨#[]⟩) /\
  zaU Try.prog 12=some false /\
  zai Try.prog 12=some 1 /\
  tyMk Try.prog 12=true /\
  zap Try.prog 12=some 8 /\
  zaz Try.prog 12=some (.int .u64 0) /\
  zac (.int .u64 0)=true /\
  zaU Try.prog 13=some true /\
  zai Try.prog 13=some 2:=by(repeat' apply And.intro)<;>kernel_rfl
theorem Try.ty5 :
  zai Try.prog 19=some 1 /\
  zal Try.prog 19 0=some (0,17) /\
  (za7 Try.prog 19=some fun i=>([(0,1)]:List (Nat×Nat))[i]?) /\
  tyMk Try.prog 19=true /\
  zap Try.prog 19=some 8 /\
  zaz Try.prog 19=some (.agg #[.pointer none]) /\
  zaU Try.prog 20=some false /\
  zai Try.prog 20=some 1 /\
  zr8 Try.prog 20=true /\
  zap Try.prog 20=some 16 /\
  zaz Try.prog 20=some (.nilIface) /\
  zac (.nilIface)=true /\
  zaU Try.prog 21=some false /\
  zai Try.prog 21=some 1 /\
  tyMk Try.prog 21=true /\
  zap Try.prog 21=some 4 /\
  zaz Try.prog 21=some (.int .i32 0) /\
  zac (.int .i32 0)=true /\
  zaU Try.prog 22=some true /\
  zai Try.prog 22=some 20 /\
  (za7 Try.prog 22=some fun i=>some (i * 1,1)) /\
  zap Try.prog 22=some 160 /\
  zd7 Try.prog 22=some (20,3) /\
  zaz Try.prog 22=some (.agg #[.int .i64 0,.int .i64 0,.int .i64 0,.int .i64 0,.int .i64 0,.int .i64 0,.int .i64 0,.int .i64 0,.int .i64 0,.int .i64 0,.int .i64 0,.int .i64 0,.int .i64 0,.int .i64 0,.int .i64 0,.int .i64 0,.int .i64 0,.int .i64 0,.int .i64 0,.int .i64 0]):=by(repeat' apply And.intro)<;>kernel_rfl
theorem Try.ty6 :
  zac (.agg #[.int .i64 0,.int .i64 0,.int .i64 0,.int .i64 0,.int .i64 0,.int .i64 0,.int .i64 0,.int .i64 0,.int .i64 0,.int .i64 0,.int .i64 0,.int .i64 0,.int .i64 0,.int .i64 0,.int .i64 0,.int .i64 0,.int .i64 0,.int .i64 0,.int .i64 0,.int .i64 0])=true /\
  zaU Try.prog 23=some true /\
  zai Try.prog 23=some 22 /\
  zal Try.prog 23 0=some (0,3) /\
  zal Try.prog 23 1=some (1,3) /\
  zal Try.prog 23 2=some (2,22) /\
  (za7 Try.prog 23=some fun i=>([(0,1),(1,1),(2,20)]:List (Nat×Nat))[i]?) /\
  tyMk Try.prog 23=true /\
  zap Try.prog 23=some 176 /\
  zaz Try.prog 23=some (.agg #[.int .i64 0,.int .i64 0,.int .i64 0,.int .i64 0,.int .i64 0,.int .i64 0,.int .i64 0,.int .i64 0,.int .i64 0,.int .i64 0,.int .i64 0,.int .i64 0,.int .i64 0,.int .i64 0,.int .i64 0,.int .i64 0,.int .i64 0,.int .i64 0,.int .i64 0,.int .i64 0,.int .i64 0,.int .i64 0]) /\
  zac (.agg #[.int .i64 0,.int .i64 0,.int .i64 0,.int .i64 0,.int .i64 0,.int .i64 0,.int .i64 0,.int .i64 0,.int .i64 0,.int .i64 0,.int .i64 0,.int .i64 0,.int .i64 0,.int .i64 0,.int .i64 0,.int .i64 0,.int .i64 0,.int .i64 0,.int .i64 0,.int .i64 0,.int .i64 0,.int .i64 0])=true /\
  zaU Try.prog 24=some true /\
  zai Try.prog 24=some 22 /\
  zal Try.prog 24 0=some (0,3) /\
  zal Try.prog 24 1=some (1,3) /\
  zal Try.prog 24 2=some (2,22) /\
  (za7 Try.prog 24=some fun i=>([(0,1),(1,1),(2,20)]:List (Nat×Nat))[i]?) /\
  tyMk Try.prog 24=true /\
  zap Try.prog 24=some 176 /\
  zaz Try.prog 24=some (.agg #[.int .i64 0,.int .i64 0,.int .i64 0,.int .i64 0,.int .i64 0,.int .i64 0,.int .i64 0,.int .i64 0,.int .i64 0,.int .i64 0,.int .i64 0,.int .i64 0,.int .i64 0,.int .i64 0,.int .i64 0,.int .i64 0,.int .i64 0,.int .i64 0,.int .i64 0,.int .i64 0,.int .i64 0,.int .i64 0]) /\
  zaU Try.prog 25=some false /\
  zai Try.prog 25=some 1 /\
  tyMk Try.prog 25=true /\
  zh2 Try.prog 25=true:=by(repeat' apply And.intro)<;>kernel_rfl
theorem Try.ty7 :
  zap Try.prog 25=some 8 /\
  zaz Try.prog 25=some (.pointer none) /\
  zbi Try.prog 25 "Bytes" = some 36 ∧
  zbi Try.prog 25 "Do" = some 27 ∧
  zbi Try.prog 25 "Word" = some 12 ∧
  zbi Try.prog 25 "Words" = some 34 ∧
  zaU Try.prog 28=some false /\
  zai Try.prog 28=some 1 /\
  tyMk Try.prog 28=true /\
  zh2 Try.prog 28=true /\
  zap Try.prog 28=some 8 /\
  zaz Try.prog 28=some (.pointer none) /\
  zbi Try.prog 28 "Close" = some 16 ∧
  zbi Try.prog 28 "Grant" = some 28 ∧
  zbi Try.prog 28 "Pending" = some 26 ∧
  zbi Try.prog 28 "Start" = some 6 ∧
  zbi Try.prog 28 "Steps" = some 77 ∧
  zaU Try.prog 31=some false /\
  zai Try.prog 31=some 1 /\
  zr8 Try.prog 31=true /\
  zap Try.prog 31=some 16 /\
  zaz Try.prog 31=some (.nilIface) /\
  zaU Try.prog 32=some false /\
  zai Try.prog 32=some 1:=by(repeat' apply And.intro)<;>kernel_rfl
theorem Try.ty8 :
  zr8 Try.prog 32=true /\
  zap Try.prog 32=some 16 /\
  zaz Try.prog 32=some (.nilIface) /\
  zaU Try.prog 34=some false /\
  zai Try.prog 34=some 1 /\
  tyMk Try.prog 34=true /\
  zap Try.prog 34=some 8 /\
  zaz Try.prog 34=some (.int .u64 0) /\
  zaU Try.prog 39=some false /\
  zai Try.prog 39=some 1 /\
  tyMk Try.prog 39=true /\
  zh2 Try.prog 39=true /\
  zap Try.prog 39=some 8 /\
  zaz Try.prog 39=some (.pointer none) /\
  zbi Try.prog 39 "Add" = some 56 ∧
  zbi Try.prog 39 "CAS" = some 57 ∧
  zbi Try.prog 39 "Fresh" = some 58 ∧
  zbi Try.prog 39 "Get" = some 59 ∧
  zbi Try.prog 39 "Load" = some 60 ∧
  zbi Try.prog 39 "Put" = some 61 ∧
  zbi Try.prog 39 "Self" = some 62 ∧
  zbi Try.prog 39 "Steps" = some 15 ∧
  zbi Try.prog 39 "Store" = some 63 ∧
  zbi Try.prog 39 "Tell" = some 64 := by (repeat' apply And.intro) <;> kernel_rfl
theorem Try.ty9 :
  zaU Try.prog 45=some false /\
  zai Try.prog 45=some 1 /\
  tyMk Try.prog 45=true /\
  zap Try.prog 45=some 8 /\
  zaz Try.prog 45=some (.int .i64 0) /\
  zaU Try.prog 48=some false /\
  zai Try.prog 48=some 1 /\
  zap Try.prog 48=some 8 /\
  zaU Try.prog 49=some false /\
  zai Try.prog 49=some 1 /\
  tyMk Try.prog 49=true /\
  zh2 Try.prog 49=true /\
  zap Try.prog 49=some 8 /\
  zaz Try.prog 49=some (.pointer none) /\
  zbi Try.prog 49 "Add" = some 66 ∧
  zbi Try.prog 49 "CAS" = some 67 ∧
  zbi Try.prog 49 "Get" = some 68 ∧
  zbi Try.prog 49 "Load" = some 69 ∧
  zbi Try.prog 49 "Put" = some 70 ∧
  zbi Try.prog 49 "Self" = some 71 ∧
  zbi Try.prog 49 "Steps" = some 72 ∧
  zbi Try.prog 49 "Store" = some 73 ∧
  zbi Try.prog 49 "Tell" = some 74 ∧
  zaU Try.prog 50=some false:=by(repeat' apply And.intro)<;>kernel_rfl
theorem Try.ty10 :
  zai Try.prog 50=some 1 /\
  zap Try.prog 50=some 8 /\
  zaU Try.prog 51=some false /\
  zai Try.prog 51=some 1 /\
  tyMk Try.prog 51=true /\
  zh2 Try.prog 51=true /\
  zap Try.prog 51=some 8 /\
  zaz Try.prog 51=some (.pointer none) /\
  zaU Try.prog 52=some true /\
  zai Try.prog 52=some 7 /\
  zal Try.prog 52 0=some (0,3) /\
  zal Try.prog 52 1=some (1,49) /\
  zal Try.prog 52 2=some (2,50) /\
  zal Try.prog 52 3=some (3,51) /\
  zal Try.prog 52 4=some (4,4) /\
  zal Try.prog 52 5=some (5,4) /\
  zal Try.prog 52 6=some (6,48) /\
  (za7 Try.prog 52=some fun i=>([(0,1),(1,1),(2,1),(3,1),(4,1),(5,1),(6,1)]:List (Nat×Nat))[i]?) /\
  tyMk Try.prog 52=true /\
  zap Try.prog 52=some 48 /\
  zaU Try.prog 53=some true /\
  zai Try.prog 53=some 7 /\
  zal Try.prog 53 0=some (0,3) /\
  zal Try.prog 53 1=some (1,49):=by(repeat' apply And.intro)<;>kernel_rfl
theorem Try.ty11 :
  zal Try.prog 53 2=some (2,50) /\
  zal Try.prog 53 3=some (3,51) /\
  zal Try.prog 53 4=some (4,4) /\
  zal Try.prog 53 5=some (5,4) /\
  zal Try.prog 53 6=some (6,48) /\
  (za7 Try.prog 53=some fun i=>([(0,1),(1,1),(2,1),(3,1),(4,1),(5,1),(6,1)]:List (Nat×Nat))[i]?) /\
  tyMk Try.prog 53=true /\
  zap Try.prog 53=some 48 /\
  zaU Try.prog 54=some false /\
  zai Try.prog 54=some 1 /\
  zap Try.prog 54=some 8 /\
  zaU Try.prog 55=some false /\
  zai Try.prog 55=some 1 /\
  zap Try.prog 55=some 8 /\
  zaU Try.prog 56=some false /\
  zai Try.prog 56=some 1 /\
  tyMk Try.prog 56=true /\
  zh2 Try.prog 56=true /\
  zap Try.prog 56=some 8 /\
  zaz Try.prog 56=some (.pointer none) /\
  zaU Try.prog 57=some true /\
  zai Try.prog 57=some 6 /\
  zal Try.prog 57 0=some (0,3) /\
  zal Try.prog 57 1=some (1,3):=by(repeat' apply And.intro)<;>kernel_rfl
theorem Try.ty12 :
  zal Try.prog 57 2=some (2,56) /\
  zal Try.prog 57 3=some (3,54) /\
  zal Try.prog 57 4=some (4,55) /\
  zal Try.prog 57 5=some (5,48) /\
  (za7 Try.prog 57=some fun i=>([(0,1),(1,1),(2,1),(3,1),(4,1),(5,1)]:List (Nat×Nat))[i]?) /\
  tyMk Try.prog 57=true /\
  zap Try.prog 57=some 48 /\
  zaU Try.prog 58=some true /\
  zai Try.prog 58=some 6 /\
  zal Try.prog 58 0=some (0,3) /\
  zal Try.prog 58 1=some (1,3) /\
  zal Try.prog 58 2=some (2,56) /\
  zal Try.prog 58 3=some (3,54) /\
  zal Try.prog 58 4=some (4,55) /\
  zal Try.prog 58 5=some (5,48) /\
  (za7 Try.prog 58=some fun i=>([(0,1),(1,1),(2,1),(3,1),(4,1),(5,1)]:List (Nat×Nat))[i]?) /\
  tyMk Try.prog 58=true /\
  zap Try.prog 58=some 48 /\
  zaU Try.prog 63=some true /\
  zai Try.prog 63=some 4 /\
  zal Try.prog 63 0=some (0,5) /\
  zal Try.prog 63 1=some (1,3) /\
  zal Try.prog 63 2=some (2,34) /\
  zal Try.prog 63 3=some (3,34):=by(repeat' apply And.intro)<;>kernel_rfl
theorem Try.ty13 :
  (za7 Try.prog 63=some fun i=>([(0,1),(1,1),(2,1),(3,1)]:List (Nat×Nat))[i]?) /\
  tyMk Try.prog 63=true /\
  zap Try.prog 63=some 32 /\
  zaz Try.prog 63=some (.agg #[.int .u8 0,.int .i64 0,.int .u64 0,.int .u64 0]) /\
  zac (.agg #[.int .u8 0,.int .i64 0,.int .u64 0,.int .u64 0])=true /\
  zaU Try.prog 64=some true /\
  zai Try.prog 64=some 4 /\
  zal Try.prog 64 0=some (0,5) /\
  zal Try.prog 64 1=some (1,3) /\
  zal Try.prog 64 2=some (2,34) /\
  zal Try.prog 64 3=some (3,34) /\
  (za7 Try.prog 64=some fun i=>([(0,1),(1,1),(2,1),(3,1)]:List (Nat×Nat))[i]?) /\
  tyMk Try.prog 64=true /\
  zap Try.prog 64=some 32 /\
  zaz Try.prog 64=some (.agg #[.int .u8 0,.int .i64 0,.int .u64 0,.int .u64 0]) /\
  zaU Try.prog 70=some false /\
  zai Try.prog 70=some 1 /\
  tyMk Try.prog 70=true /\
  zh2 Try.prog 70=true /\
  zap Try.prog 70=some 8 /\
  zaz Try.prog 70=some (.pointer none) /\
  zaU Try.prog 71=some true /\
  zai Try.prog 71=some 2 /\
  zal Try.prog 71 0=some (0,25):=by(repeat' apply And.intro)<;>kernel_rfl
theorem Try.ty14 :
  zal Try.prog 71 1=some (1,3) /\
  (za7 Try.prog 71=some fun i=>([(0,1),(1,1)]:List (Nat×Nat))[i]?) /\
  tyMk Try.prog 71=true /\
  zap Try.prog 71=some 16 /\
  zaz Try.prog 71=some (.agg #[.pointer none,.int .i64 0]) /\
  zac (.agg #[.pointer none,.int .i64 0])=true /\
  zaU Try.prog 72=some true /\
  zai Try.prog 72=some 2 /\
  zal Try.prog 72 0=some (0,25) /\
  zal Try.prog 72 1=some (1,3) /\
  (za7 Try.prog 72=some fun i=>([(0,1),(1,1)]:List (Nat×Nat))[i]?) /\
  tyMk Try.prog 72=true /\
  zap Try.prog 72=some 16 /\
  zaz Try.prog 72=some (.agg #[.pointer none,.int .i64 0]) /\
  zaU Try.prog 73=some true /\
  zai Try.prog 73=some 3 /\
  zal Try.prog 73 0=some (0,70) /\
  zal Try.prog 73 1=some (1,3) /\
  zal Try.prog 73 2=some (2,56) /\
  (za7 Try.prog 73=some fun i=>([(0,1),(1,1),(2,1)]:List (Nat×Nat))[i]?) /\
  tyMk Try.prog 73=true /\
  zap Try.prog 73=some 24 /\
  zaz Try.prog 73=some (.agg #[.pointer none,.int .i64 0,.pointer none]) /\
  zac (.agg #[.pointer none,.int .i64 0,.pointer none])=true:=by(repeat' apply And.intro)<;>kernel_rfl
theorem Try.ty15 :
  zaU Try.prog 74=some true /\
  zai Try.prog 74=some 3 /\
  zal Try.prog 74 0=some (0,70) /\
  zal Try.prog 74 1=some (1,3) /\
  zal Try.prog 74 2=some (2,56) /\
  (za7 Try.prog 74=some fun i=>([(0,1),(1,1),(2,1)]:List (Nat×Nat))[i]?) /\
  tyMk Try.prog 74=true /\
  zap Try.prog 74=some 24 /\
  zaz Try.prog 74=some (.agg #[.pointer none,.int .i64 0,.pointer none]) /\
  zaU Try.prog 77=some true /\
  zai Try.prog 77=some 19 /\
  (za7 Try.prog 77=some fun i=>some (i * 1,1)) /\
  zap Try.prog 77=some 152 /\
  zd7 Try.prog 77=some (19,3) /\
  zaz Try.prog 77=some (.agg #[.int .i64 0,.int .i64 0,.int .i64 0,.int .i64 0,.int .i64 0,.int .i64 0,.int .i64 0,.int .i64 0,.int .i64 0,.int .i64 0,.int .i64 0,.int .i64 0,.int .i64 0,.int .i64 0,.int .i64 0,.int .i64 0,.int .i64 0,.int .i64 0,.int .i64 0]) /\
  zac (.agg #[.int .i64 0,.int .i64 0,.int .i64 0,.int .i64 0,.int .i64 0,.int .i64 0,.int .i64 0,.int .i64 0,.int .i64 0,.int .i64 0,.int .i64 0,.int .i64 0,.int .i64 0,.int .i64 0,.int .i64 0,.int .i64 0,.int .i64 0,.int .i64 0,.int .i64 0])=true /\
  zaU Try.prog 78=some false /\
  zai Try.prog 78=some 1 /\
  zsX Try.prog 78=true /\
  zap Try.prog 78=some 24 /\
  zby Try.prog 78=some 34 /\
  zaz Try.prog 78=some (.slice none 0 0) /\
  zac (.slice none 0 0)=true /\
  zaU Try.prog 79=some false:=by(repeat' apply And.intro)<;>kernel_rfl
theorem Try.ty16 :
  zai Try.prog 79=some 1 /\
  zsX Try.prog 79=true /\
  zap Try.prog 79=some 24 /\
  zby Try.prog 79=some 5 /\
  zaz Try.prog 79=some (.slice none 0 0) /\
  zaU Try.prog 80=some true /\
  zai Try.prog 80=some 2 /\
  zal Try.prog 80 0=some (0,78) /\
  zal Try.prog 80 1=some (1,79) /\
  (za7 Try.prog 80=some fun i=>([(0,1),(1,1)]:List (Nat×Nat))[i]?) /\
  tyMk Try.prog 80=true /\
  zap Try.prog 80=some 48 /\
  zaz Try.prog 80=some (.agg #[.slice none 0 0,.slice none 0 0]) /\
  zac (.agg #[.slice none 0 0,.slice none 0 0])=true /\
  zaU Try.prog 81=some true /\
  zai Try.prog 81=some 2 /\
  zal Try.prog 81 0=some (0,78) /\
  zal Try.prog 81 1=some (1,79) /\
  (za7 Try.prog 81=some fun i=>([(0,1),(1,1)]:List (Nat×Nat))[i]?) /\
  tyMk Try.prog 81=true /\
  zap Try.prog 81=some 48 /\
  zaz Try.prog 81=some (.agg #[.slice none 0 0,.slice none 0 0]) /\
  zaU Try.prog 82=some false /\
  zai Try.prog 82=some 1:=by(repeat' apply And.intro)<;>kernel_rfl
theorem Try.ty17 :
  zap Try.prog 82=some 8 /\
  zaU Try.prog 83=some true /\
  zai Try.prog 83=some 0 /\
  (za7 Try.prog 83=some fun i=>([]:List (Nat×Nat))[i]?) /\
  tyMk Try.prog 83=true /\
  zap Try.prog 83=some 0 /\
  zaz Try.prog 83=some (.agg #[]) /\
  zac (.agg #[])=true /\
  zaU Try.prog 84=some true /\
  zai Try.prog 84=some 0 /\
  (za7 Try.prog 84=some fun i=>([]:List (Nat×Nat))[i]?) /\
  tyMk Try.prog 84=true /\
  zap Try.prog 84=some 0 /\
  zaz Try.prog 84=some (.agg #[]) /\
  zaU Try.prog 89=some true /\
  zai Try.prog 89=some 5 /\
  (za7 Try.prog 89=some fun i=>some (i * 1,1)) /\
  zap Try.prog 89=some 40 /\
  zd7 Try.prog 89=some (5,88) /\
  zaz Try.prog 89=some (.agg #[.nilFunc,.nilFunc,.nilFunc,.nilFunc,.nilFunc]) /\
  zac (.agg #[.nilFunc,.nilFunc,.nilFunc,.nilFunc,.nilFunc])=true /\
  zaU Try.prog 92=some true /\
  zai Try.prog 92=some 4 /\
  zal Try.prog 92 0=some (0,17):=by(repeat' apply And.intro)<;>kernel_rfl
theorem Try.ty24 :
  zal Try.prog 116 0=some (0,3) /\
  zal Try.prog 116 1=some (1,3) /\
  zal Try.prog 116 2=some (2,5) /\
  zal Try.prog 116 3=some (3,114) /\
  zal Try.prog 116 4=some (8,45) /\
  zal Try.prog 116 5=some (9,3) /\
  zal Try.prog 116 6=some (10,3) /\
  (za7 Try.prog 116=some fun i=>([(0,1),(1,1),(2,1),(3,5),(8,1),(9,1),(10,1)]:List (Nat×Nat))[i]?) /\
  tyMk Try.prog 116=true /\
  zap Try.prog 116=some 88 /\
  zaz Try.prog 116=some (.agg #[.int .i64 0,.int .i64 0,.int .u8 0,.int .u64 0,.int .u64 0,.int .u64 0,.int .u64 0,.int .u64 0,.int .i64 0,.int .i64 0,.int .i64 0]) /\
  zaU Try.prog 117=some false /\
  zai Try.prog 117=some 1 /\
  zap Try.prog 117=some 8 /\
  zaz Try.prog 117=some (.pointer none) /\
  zgl Try.prog 3 34=some .u64 /\
  zgl Try.prog 5 3=some .i64 /\
  zgl Try.prog 5 34=some .u64 /\
  zgl Try.prog 34 3=some .i64 /\
  zgl Try.prog 34 5=some .u8 /\
  fnOK Try.prog 2=true /\
  fnOK Try.prog 3=true /\
  fnOK Try.prog 4=true /\
  fnOK Try.prog 5=true:=by(repeat' apply And.intro)<;>kernel_rfl
theorem Try.ty25 :
  fnOK Try.prog 6=true /\
  fnOK Try.prog 7=true /\
  fnOK Try.prog 8=true /\
  fnOK Try.prog 9=true /\
  fnOK Try.prog 10=true /\
  fnOK Try.prog 11=true /\
  fnOK Try.prog 12=true /\
  fnOK Try.prog 13=true /\
  fnOK Try.prog 14=true /\
  fnOK Try.prog 15=true /\
  fnOK Try.prog 16=true /\
  fnOK Try.prog 17=true /\
  fnOK Try.prog 18=true /\
  fnOK Try.prog 19=true /\
  fnOK Try.prog 20=true /\
  fnOK Try.prog 21=true /\
  fnOK Try.prog 22=true /\
  fnOK Try.prog 23=true /\
  fnOK Try.prog 24=true /\
  fnOK Try.prog 25=true /\
  fnOK Try.prog 26=true /\
  fnOK Try.prog 27=true /\
  fnOK Try.prog 28=true /\
  fnOK Try.prog 29=true:=by(repeat' apply And.intro)<;>kernel_rfl
theorem Try.ty26 :
  fnOK Try.prog 30=true /\
  fnOK Try.prog 31=true /\
  fnOK Try.prog 32=true /\
  fnOK Try.prog 33=true /\
  fnOK Try.prog 34=true /\
  fnOK Try.prog 35=true /\
  fnOK Try.prog 36=true /\
  fnOK Try.prog 37=true /\
  fnOK Try.prog 38=true /\
  fnOK Try.prog 39=true /\
  fnOK Try.prog 40=true /\
  fnOK Try.prog 57=true /\
  fnOK Try.prog 60=true /\
  fnOK Try.prog 62=true /\
  fnOK Try.prog 65=true /\
  fnOK Try.prog 67=true /\
  fnOK Try.prog 69=true /\
  fnOK Try.prog 71=true /\
  fnOK Try.prog 75=true:=by(repeat' apply And.intro)<;>kernel_rfl
attribute [go_sem] Try.eql7 Try.neq7 Try.eql8 Try.neq8 Try.eql63 Try.neq63 Try.eql64 Try.neq64 Try.eql113 Try.neq113 Try.eql114 Try.neq114 Try.ty0 Try.ty2 Try.ty5 Try.ty6 Try.ty7 Try.ty8 Try.ty9 Try.ty10 Try.ty11 Try.ty12 Try.ty13 Try.ty14 Try.ty15 Try.ty16 Try.ty17 Try.ty24 Try.ty25 Try.ty26
def upN(ns:List Nat)(nx:Nat)(n:Nat):Nat:=if n<ns.length then ns.getD n 0 else if n<VB then nx+(n - ns.length) else n
def upE(ns:List Nat)(nx:Nat):Emb:=zdi (upN ns nx)
def renB(E:Emb)(b:Blk):Blk:={ b with cells:=b.cells.map (ren E) }
structure Gives (cnt:Nat) (l l' new:List Blk) (ex:List Nat) (R:Nat->Nat) (h1:AHeap) (v0 v:Value):Prop where
  low:∀n,n<l.length->R n=n
  hand:∀n,VB<=n->R n=n
  more:∀(j n:Nat),ex[j]?=some n->l.length<=n/\n<VB/\R n=l.length+j
  nodup:ex.Nodup
  len:ex.length=new.length
  len':l'.length=l.length
  told:v=ren (zdi R) v0
  clo:Clo (fun n=>n<l.length\/n∈ex\/(VB<=n/\n<VB+cnt)) v0
  rows:∀(i:Nat) (b:Blk),l[i]?=some b->b.ro=false->∃b1,h1.get i=some b1/\l'[i]?=some (renB (zdi R) b1)/\b1.ro=false/\∀u∈b1.cells,Clo (fun n=>n<l.length\/n∈ex\/(VB<=n/\n<VB+cnt)) u
  news:∀(j n:Nat),ex[j]?=some n->∃b1,h1.get n=some b1/\new[j]?=some (renB (zdi R) b1)/\b1.ro=false/\∀u∈b1.cells,Clo (fun n=>n<l.length\/n∈ex\/(VB<=n/\n<VB+cnt)) u
variable {l l2:List (Option Blk)}{l' new:List Blk}{h h1:AHeap}{E:Emb}{ns ex:List Nat}{e:Operand->Value}{R:Nat->Nat}
section
variable {P:Program}{σ:Type}{X:Face P σ}
def DoesX(X:Face P σ)(f:FuncId)(args:Array Value)(l:List Blk)(S:σ)(v:Value)(l' new:List Blk)(S':σ):Prop :=
  ∃g c h1 v0 ex R,P.funcs[f]?=some g/\goB g=true/\g.body=some c/\(∀u∈args.toList,Clo (Kn l.length (X.cnt S)) u)/\(∀b∈l,∀u∈b.cells,Clo (Kn l.length (X.cnt S)) u)/\Gives (X.cnt S') l l' new ex R h1 v0 v /\
    Goes X g (fun x=>x=.done v0 h1 S') (.run (zag g c args).1 (zag g c args).2 (zaq (l.map some)) S)
def LendL(h:AHeap)(E:Emb):List Nat->List Blk->Prop
  | [],[]=>True
  | n::ns,b::l=>(∃b0,h.get n=some b0/\b0.elem=b.elem/\b0.cells=b.cells.map (ren E)/\(b.grow=b0.grow\/b.grow=none)/\(b.ro=false->b0.ro=false))/\LendL h E ns l
  | _,_=>False
theorem LendL.spec  :∀{ns:List Nat} {l:List Blk},LendL h E ns l->ns.length=l.length/\∀(i:Nat) (b:Blk),l[i]?=some b->∃n b0,ns[i]?=some n/\h.get n=some b0/\b0.elem=b.elem/\b0.cells=b.cells.map (ren E)/\(b.grow=b0.grow\/b.grow=none)/\(b.ro=false->b0.ro=false)
  | [],[],_=>⟨rfl,fun i b hb=>by simp at hb⟩
  | n::ns,c::l,⟨⟨b0,h0⟩,hr⟩=>by
    obtain⟨h1,h2⟩:=LendL.spec hr;refine⟨by simp[h1],fun i b hb=>?_⟩
    cases i with
    | zero=>simp at hb;subst hb;exact⟨n,b0,by simp,h0⟩
    | succ i=>simp at hb;simpa using h2 i b hb
  | [],_::_,h=>h.elim
  | _::_,[],h=>h.elim
def zd3:List Nat->List Blk->List Blk->Nat->Option Blk
  | n::ns,b::l,b'::l',m=>if n=m/\b.ro=false then some b' else zd3 ns l l' m
  | _,_,_,_=>none
theorem zdO:∀{ns:List Nat} {l l':List Blk} {m:Nat} {b':Blk},zd3 ns l l' m=some b'->∃(i:Nat) (b:Blk),ns[i]?=some m/\l[i]?=some b/\b.ro=false/\l'[i]?=some b'
  | [],_,_,_,_,h=>by simp[zd3]at h
  | _::_,[],_,_,_,h=>by simp[zd3]at h
  | _::_,_::_,[],_,_,h=>by simp[zd3]at h
  | n::ns,b::l,c::l',m,b',h=>by
    simp only[zd3]at h;split at h
    . rename_i hc;cases h;exact⟨0,b,by simp[hc.1],by simp,hc.2,by simp⟩
    . obtain⟨i,b1,h1,h2,h3,h4⟩:=zdO h;exact⟨i+1,b1,by simpa using h1,by simpa using h2,h3,by simpa using h4⟩
theorem ziy:∀{ns:List Nat} {l l':List Blk} {m:Nat},zd3 ns l l' m=none->ns.length=l.length->l'.length=l.length->∀(i:Nat) (b:Blk),l[i]?=some b->b.ro=false->ns[i]?≠some m
  | [],[],_,_,_,_,_,i,b,hb,_=>by simp at hb
  | [],_::_,_,_,_,hl,_,_,_,_,_=>by simp at hl
  | _::_,[],_,_,_,hl,_,_,_,_,_=>by simp at hl
  | _::_,_::_,[],_,_,_,hl,_,_,_,_=>by simp at hl
  | n::ns,c::l,c'::l',m,h,hl,hl',i,b,hb,hr=>by
    simp only[zd3]at h;split at h
    . cases h
    . rename_i hc;cases i with
      | zero =>
        simp at hb;subst hb;simp only[zGz,ne_eq,Option.some.injEq];exact fun h=>hc ⟨h,hr⟩
      | succ i =>
        simp at hb hl hl';simpa using ziy h hl hl' i b hb hr
def zjI(h:AHeap)(E:Emb)(ns:List Nat)(l l' new:List Blk):AHeap :=
  ⟨fun m=>match zd3 ns l l' m with
    | some b=>some (renB E b)
    | none=>if h.next<=m then(new[m - h.next]?).map (renB E) else h.get m,h.next+new.length⟩
theorem zhj(h:ns[i]?=some n):(upE ns nx).blk i=n:=by
  have:=(qa.1 h).1;simp only[upE,zdi,upN,this,if_true];simp[List.getD,h]
theorem zkf(F E:Emb)(b:Blk):renB F (renB E b)={ b with cells:=b.cells.map (ren (F.comp E)) }:=by
  unfold renB;simp only[List.map_map];congr 1;exact qt fun v _=>zct F E v
theorem zp6{l:List Nat}(h:l.Nodup){j:Nat}(hi:i<l.length)(hj:j<l.length)(hne:i≠j):l[i]≠l[j]:=by
  rcases Nat.lt_or_gt_of_ne hne with h1|h1
  . exact qo.1 h i j hi hj h1
  . exact Ne.symm (qo.1 h j i hj hi h1)
theorem zjG{o:Oper}{S S':σ}{f:FuncId}{g:Func}{c:Code}{args:Array Value}{l:List Blk}{v:Value}(hca:zaJ P e o.op=some (f,args.map (ren (upE ns h.next))))(hf:P.funcs[f]?=some g)(hg:goB g=true)(hb:g.body=some c)(hclo:∀u∈args.toList,Clo (Kn l.length (X.cnt S)) u)(hcl:∀b∈l,∀u∈b.cells,Clo (Kn l.length (X.cnt S)) u)(G:Gives (X.cnt S') l l' new ex R h1 v0 v)(hlow:h.Low)(hL:LendL h (upE ns h.next) ns l)(hnd:ns.Nodup)(hlim:l.length+new.length<=VB):
    CallOK X o e h S (ren (upE ns h.next) v) (zjI h (upE ns h.next) ns l l' new) S' f g c args (upE ns h.next) ((upE ns h.next).comp (zdi R)) (zaq (l.map some)) h1 ex v0:=by
  obtain⟨hlen,hlend⟩:=hL.spec;have hget:∀n b,(zaq (l.map some)).get n=some b↔l[n]?=some b:=fun n b=>by
    rw[zaN,qj];cases l[n]?<;>simp
  have zhW:∀n,VB<=n->(upE ns h.next).blk n=n:=fun n hn=>by
    have h1:¬n<ns.length:=by omega
    have h2:¬n<VB:=by omega
    simp only[upE,zdi,upN,h1,h2,if_false]
  have hK:∀n,(n<l.length\/n∈ex\/(VB<=n/\n<VB+X.cnt S'))->((∃b,(zaq (l.map some)).get n=some b)\/n∈ex\/(VB<=n/\n<VB+X.cnt S')):=fun n hn=>by
    rcases hn with hn|hn
    . exact .inl ⟨l[n],(hget _ _).2 (qp hn)⟩
    . exact .inr hn
  have hex:∀(j n:Nat),ex[j]?=some n->j<new.length:=fun j n hj=>by
    rw[<-G.len];exact(qa.1 hj).1
  refine⟨hca,hf,hg,hb,⟨?_,?_,?_,?_,?_,?_⟩,?_,⟨by rw[G.len];rfl,?_,?_,?_,?_,?_,?_,?_,?_,?_,G.nodup⟩⟩
  . intro n b hb v hv;rw[hget]at hb;rw[zaa,qc];exact hcl b (qg hb) v hv
  . intro n b hb;rw[hget]at hb;rw[zaa,qc];exact(qa.1 hb).1
  . intro n b hb;rw[hget]at hb;obtain⟨m,b0,k1,k2,k3,k4,k5,k6⟩:=hlend n b hb;exact⟨b0,by rw[zhj k1];exact k2,k3,.inl ⟨k4,rfl,rfl,k5,k6⟩⟩
  . intro n m b c hb hc hne _;rw[hget]at hb hc;obtain⟨x,_,k1,_⟩:=hlend n b hb;obtain⟨y,_,k2,_⟩:=hlend m c hc;rw[zhj k1,zhj k2];rintro rfl;obtain⟨h1,h1'⟩:=qa.1 k1;obtain⟨h2,h2'⟩:=qa.1 k2;exact zp6 hnd h1 h2 hne (h1'.trans h2'.symm)
  . rw[zaa,qc];omega
  . exact fun n hn=>⟨zhW n hn,rfl,rfl⟩
  . rw[zaa,qc];exact hclo
  . intro n hn;rw[zaa,qc]at hn;simp only[Emb.comp,zdi,G.low n hn,upE,Nat.add_zero,and_self]
  . intro j n hj;obtain⟨k1,k2,k3⟩:=G.more j n hj;have:=hex j n hj;refine⟨by rw[zaa,qc];exact k1,k2,?_,rfl,rfl⟩
    simp only[Emb.comp,zdi,k3,upE,upN,hlen];have h1:¬l.length+j<l.length:=by omega
    have h2:l.length+j<VB:=by omega
    simp only[h1,h2,if_false,if_true];omega
  . intro n hn;refine⟨?_,rfl,rfl⟩;simp only[Emb.comp];rw[show(zdi R).blk n=n from G.hand n hn]
    exact zhW n hn
  . rw[G.told,zct]
  . exact fun F F' hs=>G.clo F F' (hs.mono hK)
  . rintro n b hb hn u hu;rcases hn with⟨b0,hb0,hr⟩|hn
    . rw[hget]at hb0;obtain⟨b1,k1,_,_,k4⟩:=G.rows n b0 hb0 hr;rw[hb]at k1;cases k1;exact fun F F' hs=>k4 u hu F F' (hs.mono hK)
    . obtain⟨j,hj⟩:=qs hn;obtain⟨b1,k1,_,_,k4⟩:=G.news j n hj;rw[hb]at k1;cases k1;exact fun F F' hs=>k4 u hu F F' (hs.mono hK)
  . intro j n hj;obtain⟨b1,k1,k2,_⟩:=G.news j n hj;rw[k1];unfold zjI;simp only;have hbk:zd3 ns l l' (h.next+j)=none:=by
      cases hb':zd3 ns l l' (h.next+j) with
      | none=>rfl
      | some b' =>
        obtain⟨i,b,g1,g2,_⟩:=zdO hb';obtain⟨m,b0,p1,p2,_⟩:=hlend i b g2;rw[g1]at p1;cases p1;have:=hlow _ _ p2;omega
    rw[hbk];simp only;rw[if_pos (by omega),qe,k2,qk,zkf]
    rfl
  . intro m hm;unfold zjI;simp only;cases hb':zd3 ns l l' m with
    | some b' =>
      obtain⟨i,b,g1,g2,g3,g4⟩:=zdO hb';obtain⟨b1,k1,k2,k3,k4⟩:=G.rows i b g2 g3;refine .inr ⟨i,b,(hget _ _).2 g2,g3,zhj g1,?_⟩;rw[g4]at k2;cases k2;rw[k1,qk];simp only[zkf]
    | none =>
      refine .inl ⟨?_,fun n b hb hr=>?_⟩
      . simp only;split
        . rename_i hle;rcases hm with hm|hm
          . omega
          . have hm:h.next+new.length<=m:=hm;rw[qb (by omega)]
            cases hg':h.get m with
            | none=>rfl
            | some b=>have:=hlow _ _ hg';omega
        . rfl
      . rw[hget]at hb;obtain⟨x,_,p1,_⟩:=hlend n b hb;have:=ziy hb' hlen G.len' n b hb hr;rw[zhj p1];rintro rfl;exact this p1
  . rintro n b hb (⟨b0,hb0,hr⟩|hn)
    . rw[hget]at hb0;obtain⟨b1,k1,_,k3,_⟩:=G.rows n b0 hb0 hr;rw[hb]at k1;cases k1;exact k3
    . obtain⟨j,hj⟩:=qs hn;obtain⟨b1,k1,_,k3,_⟩:=G.news j n hj;rw[hb]at k1;cases k1;exact k3
def ziJ(E:Emb)(rows:List (Option Blk)):List Nat->List Blk->List Blk->List (Option Blk)
  | n::ns,b::l,b'::l'=>if b.ro=false then(ziJ E rows ns l l').set n (some (renB E b')) else ziJ E rows ns l l'
  | _,_,_=>rows
theorem zcO{E:Emb}{rows:List (Option Blk)}:∀{ns:List Nat} {l l':List Blk},(ziJ E rows ns l l').length=rows.length
  | [],_,_=>rfl
  | _::_,[],_=>rfl
  | _::_,_::_,[]=>rfl
  | n::ns,b::l,b'::l'=>by
    simp only[ziJ];split
    . rw[List.length_set,zcO]
    . rw[zcO]
theorem zjM{E:Emb}{rows:List (Option Blk)}:∀{ns:List Nat} {l l':List Blk} {m:Nat},(∀n∈ns,n<rows.length)->((ziJ E rows ns l l')[m]?).join=match zd3 ns l l' m with|some b=>some (renB E b)|none=>(rows[m]?).join
  | [],_,_,_,_=>rfl
  | _::_,[],_,_,_=>rfl
  | _::_,_::_,[],_,_=>rfl
  | n::ns,b::l,b'::l',m,hlt=>by
    have ih:=@zjM E rows ns l l' m (fun x hx=>hlt x (by simp[hx]))
    simp only[ziJ,zd3];have hn:n<rows.length:=hlt n (by simp)
    by_cases hr:b.ro=false
    . rw[if_pos hr,List.getElem?_set];by_cases hm:n=m
      . subst hm;simp[hr,zcO,hn]
      . simp only[hm,false_and,if_false];exact ih
    . have hc:¬ (n=m/\b.ro=false):=fun h=>hr h.2;rw[if_neg hr,if_neg hc];exact ih
theorem zrS{rows:List (Option Blk)}{l:List Blk}(hlt:∀n∈ns,n<rows.length):zjI (zaq rows) E ns l l' new=zaq (ziJ E rows ns l l'++new.map fun b=>some (renB E b)):=by
  unfold zjI zaq;simp only[qd,qc,zcO];congr 1;funext m;by_cases hm:rows.length<=m
  . have hbk:zd3 ns l l' m=none:=by
      cases hb':zd3 ns l l' m with
      | none=>rfl
      | some b' =>
        obtain⟨i,b,g1,_⟩:=zdO hb';have:=hlt m (qg g1);omega
    rw[hbk,qn (by rw[zcO];exact hm),zcO,qj]
    simp only[hm,if_true];cases new[m - rows.length]?<;>simp
  . rw[qi (by rw[zcO];omega),zjM hlt]
    cases zd3 ns l l' m with
    | some b=>rfl
    | none=>simp[hm]
variable {fn:Func}{A:Conf σ->Prop}{ops:Array Oper}{k:List Item}{i:Nat}{tmps:List Value}{h:AHeap}{S:σ}{o:Oper}{todo:List Item}{W:List Nat}{n0:Nat}{hf:AHeap}{Kf:List Value->AHeap->σ->Prop}{born:List (Nat × Nat)}
theorem zpw{h h':AHeap}(hg:∀m,h.get m=h'.get m)(hn:h.next=h'.next):h=h':=by
  cases h;cases h';simp only[AHeap.mk.injEq];exact⟨funext hg,hn⟩
theorem zok{h hv:AHeap}:(zdX h hv).get m=if h.next<=m then(if m<hv.next then hv.get m else none) else h.get m:=rfl
def zrT(X:Face P σ)(S:σ)(ns:List Nat)(nx:Nat)(h:AHeap)(K:Value->List Blk->List Blk->List Blk->σ->Prop)(f:FuncId)(args:Array Value):Prop :=
  ∃zs l v l' new S',DoesX X f zs l S v l' new S'/\args=zs.map (ren (upE ns nx))/\LendL h (upE ns nx) ns l/\K v l l' new S'
theorem At.callX{rows:List (Option Blk)}(ns:List Nat)(ho:ops.toList[i]?=some o)(hw:qf o (zah ops tmps)=true)(hb:opOK o.op=true)(hnd:ns.Nodup)(hlt:(ns.all fun n=>decide (n<rows.length))=true)(hk:∀K:List Value->List (Option Blk)->σ->Prop,(∀t rs S',At X fn A ops k (i+1) t (zaq rs) S'->K t rs S') ->
      zdI (zrT X S ns rows.length (zaq rows) fun v l l' new S'=>decide (rows.length+l.length+new.length<1000000)=true/\K (putL o.dst (ren (upE ns rows.length) v) tmps) (ziJ (upE ns rows.length) rows ns l l'++new.map fun b=>some (renB (upE ns rows.length) b)) S') (zaJ P (evA tmps) o.op)):At X fn A ops k i tmps (zaq rows) S:=by
  have hk:=hk _ fun _ _ _ h=>h;have hlt:∀n∈ns,n<rows.length:=fun n hn=>of_decide_eq_true (qm.1 hlt n hn);unfold At;rw[zeO (za2 ho)];cases hv:zaJ P (evA tmps) o.op with
  | none=>rw[hv]at hk;exact hk.elim
  | some x =>
    obtain⟨f,args⟩:=x;rw[hv]at hk;obtain⟨zs,l,v,l',new,S',⟨g,c,h1,v0,ex,R,d1,d2,d3,d4,d5,d6,d7⟩,rfl,hL,hlim,hK⟩:=hk;have hlim:=of_decide_eq_true hlim;have hC:=zjG (ns:=ns) (h:=zaq rows) (o:=o) (e:=evA tmps) (f:=f) (args:=zs) (by rw[zaa];exact hv) d1 d2 d3 d4 d5 d6 (zbA _) (by rw[zaa];exact hL) hnd (by unfold VB;omega)
    rw[zaa,zrS hlt]at hC;exact .call f g c zs _ _ _ h1 ex v0 (za2 ho) hw (za0 hb) hC (.inr (by rw[zaa,qd,zcO,qc];unfold VB;omega)) d7 hK
theorem RG.callX{rows:List (Option Blk)}(ns:List Nat)(ho:ops.toList[i]?=some o)(hw:qf o (zah ops tmps)=true)(hb:opOK o.op=true)(hq:wrB W i o=false)(hnd:ns.Nodup)(hk:∀K:List Value->List (Option Blk)->σ->List (Nat×Nat)->Prop,(∀t rs S' born',RGF X W ops n0 hf Kf (i+1) t (zaq rs) S' born'->K t rs S' born') ->
      zdI (zrT X S ns rows.length (visH n0 born ((zar ops.toList []).getD i 0) (zaq rows)) fun v l _ new S'=>(l.all (·.ro)=true/\decide (rows.length+l.length+new.length<1000000)=true)/\K (putL o.dst (ren (upE ns rows.length) v) tmps) (rows++new.map fun b=>some (renB (upE ns rows.length) b)) S' (zeV i rows.length (rows.length+new.length)++born)) (zaJ P (evA tmps) o.op))(hnf:farB W i=false:=by rfl):RGF X W ops n0 hf Kf i tmps (zaq rows) S born:=by
  have hk:=hk _ fun _ _ _ _ h=>h;cases hv:zaJ P (evA tmps) o.op with
  | none=>rw[hv]at hk;exact hk.elim
  | some x =>
    obtain⟨f,args⟩:=x;rw[hv]at hk;obtain⟨zs,l,v,l',new,S',⟨g,c,h1,v0,ex,R,d1,d2,d3,d4,d5,d6,d7⟩,rfl,hL,⟨hro,hlim⟩,hK⟩:=hk;have hlim:=of_decide_eq_true hlim;have hlowv:(visH n0 born ((zar ops.toList []).getD i 0) (zaq rows)).Low:=by
      intro n b hb;unfold visH at hb ⊢;simp only at hb ⊢;split at hb
      . cases hg:(zaq rows).get n with
        | none=>rw[hg]at hb;cases hb
        | some b0=>exact zbA _ _ _ hg
      . cases hb
    have hnx:(visH n0 born ((zar ops.toList []).getD i 0) (zaq rows)).next=rows.length:=rfl;have hC:=zjG (ns:=ns) (h:=visH n0 born ((zar ops.toList []).getD i 0) (zaq rows)) (o:=o) (e:=evA tmps) (f:=f) (args:=zs) (by rw[hnx];exact hv) d1 d2 d3 d4 d5 d6 hlowv (by rw[hnx];exact hL) hnd (by unfold VB;omega)
    rw[hnx]at hC;have hbl:∀m,zd3 ns l l' m=none:=fun m=>by
      cases hb':zd3 ns l l' m with
      | none=>rfl
      | some b' =>
        obtain⟨j,b,_,g2,g3,_⟩:=zdO hb';have:=qm.1 hro b (qg g2);rw[g3]at this;cases this
    refine .call' (h':=zaq (rows++new.map fun b=>some (renB (upE ns rows.length) b))) false f g c zs _ _ _ h1 ex v0 hnf (za2 ho) hw (za0 hb) (.inr (by rw[zaa,qd,qc];unfold VB;omega)) ⟨hq,_,hC,?_⟩ d7 ?_ ?_
    . refine zpw (fun m=>?_) ?_
      . rw[zok,zaa,zaN,zaN];have hbk:∀E m,(zjI (visH n0 born ((zar ops.toList []).getD i 0) (zaq rows)) E ns l l' new).get m=if rows.length<=m then(new[m - rows.length]?).map (renB E) else(visH n0 born ((zar ops.toList []).getD i 0) (zaq rows)).get m:=fun E m=>by
          unfold zjI;simp only[hbl m];rfl
        rw[hbk];have hbn:∀E,(zjI (visH n0 born ((zar ops.toList []).getD i 0) (zaq rows)) E ns l l' new).next=rows.length+new.length:=fun E=>rfl;rw[hbn];split
        . rename_i hm;rw[qn hm,qj];split
          . cases new[m - rows.length]?<;>simp
          . rw[qb (by omega)];simp
        . rename_i hm;rw[qi (by omega)]
      . show(zaq (rows++_)).next=rows.length+new.length;rw[zaa,qd,qc]
    . intro n b _ q1 q2;rw[zaa]at q2;rw[zaN,zaN,qi (by omega)]
    . rw[zaa,zaa,qd,qc];exact hK
theorem Gives.still{cnt:Nat}{l:List Blk}{v:Value}(hro:l.all (·.ro)=true)(hv:Clo (Kn l.length cnt) v):Gives cnt l l [] [] id h1 v v where
  low:=fun _ _=>rfl
  hand:=fun _ _=>rfl
  more:=fun j n hj=>by simp at hj
  nodup:=List.nodup_nil
  len:=rfl
  len':=rfl
  told:=(zd8 v).symm
  clo:=fun F F' hs=>hv F F' (hs.mono fun n hn=>by
    rcases hn with hn|hn
    . exact .inl hn
    . exact .inr (.inr hn))
  rows:=fun i b hb hr=>by
    have:=qm.1 hro b (qg hb);rw[hr]at this;cases this
  news:=fun j n hj=>by simp at hj
theorem Goes.finX{v:Value}{S':σ}{l:List Blk}(ht:retB todo=true)(hv:resA P fn tmps h=some v0)(hS:S=S')(hG:Gives (X.cnt S') l l' new ex R h v0 v):
    Goes X fn (fun x=>∃v0 h1 ex R,x=.done v0 h1 S'/\Gives (X.cnt S') l l' new ex R h1 v0 v) (.run todo tmps h S) :=
  .ret ht hv (.here ⟨v0,h,ex,R,by rw[hS],hG⟩)
theorem Goes.finS{v:Value}{S':σ}{l:List Blk}(ht:retB todo=true)(hv:resA P fn tmps h=some v)(hS:S=S')(hro:l.all (·.ro)=true)(hc:Clo (Kn l.length (X.cnt S')) v):
    Goes X fn (fun x=>∃v0 h1 ex R,x=.done v0 h1 S'/\Gives (X.cnt S') l l [] ex R h1 v0 v) (.run todo tmps h S) :=
  Goes.finX ht hv hS (Gives.still hro hc)
theorem DoesX.mk{f:FuncId}{g:Func}{c:Code}{args:Array Value}{l:List Blk}{S S':σ}{v:Value}(hf:P.funcs[f]?=some g)(hg:goB g=true)(hb:g.body=some c)(hclo:∀u∈args.toList,Clo (Kn l.length (X.cnt S)) u)(hcl:∀b∈l,∀u∈b.cells,Clo (Kn l.length (X.cnt S)) u)(hrun:Goes X g (fun x=>∃v0 h1 ex R,x=.done v0 h1 S'/\Gives (X.cnt S') l l' new ex R h1 v0 v) (.run [.code c] (args.toList++qh (g.ntmps - args.size) undef) (zaq (l.map some)) S)):DoesX X f args l S v l' new S':=by
  obtain⟨c',⟨v0,h1,ex,R,rfl,hG⟩,G⟩:=hrun.out;exact⟨g,c,h1,v0,ex,R,hf,hg,hb,hclo,hcl,hG,G⟩
theorem zao{cs:List Value}(h:∀u∈cs,zac u=true):cs=cs.map (ren E):=by
  conv=>lhs;rw[<-List.map_id cs]
  exact qt fun u hu=>(zaA E (h u hu)).symm
end
theorem Goes.wh{σ:Type}{X:Face P σ}{fn:Func}{A:Conf σ->Prop}{B:Code}{K:List Item}{tmps:List Value}{S:σ}(Inv:Nat->List Value->AHeap->σ->Prop)(h0:Inv m tmps h S)(step:∀m tmps h S,(∀m' t' h' S',m'<m->Inv m' t' h' S'->Goes X fn A (.run (.inLoop B::K) t' h' S'))->Inv m tmps h S->Goes X fn A (.run (.code B::.inLoop B::K) tmps h S)):Goes X fn A (.run (.code (.loop B)::K) tmps h S):=by
  refine .ctl rfl ?_;have key:∀n,∀m tmps h S,m<n->Inv m tmps h S->Goes X fn A (.run (.code B::.inLoop B::K) tmps h S):=by
    intro n
    induction n with
    | zero=>intro m _ _ _ hm;omega
    | succ n ih =>
      intro m tmps h S hm hI;exact step m tmps h S (fun m' t' h' S' hm' hI'=>.ctl rfl (ih m' t' h' S' (by omega) hI')) hI
  exact key (m+1) m tmps h S (by omega) h0
theorem zfC{tmps:List Value}(h:tmps.length=n):∃V:Nat->Value,(∀i,tmps.getD i undef=V i)/\tmps=(List.range n).map V:=by
  refine⟨fun i=>tmps.getD i undef,fun _=>rfl,?_⟩;apply List.ext_getElem?;intro j;rw[qj];by_cases hj:j<n
  . rw[List.getElem?_range hj];simp[List.getD,qp (show j<tmps.length by omega)]
  . rw[qb (by omega),qb (by simp;omega)]
    rfl
def appV(P:Program)(h:AHeap)(nx:Nat)(t:TypeId)(x y:Value):Option (Value×Option Blk):=match zds P h t x y with
  | some (news,el,need,true)=>some (.slice (some ⟨nx,0,none⟩) need need,some ⟨news,el,false,zai P el⟩)
  | _=>none
theorem zlM{t:TypeId}{x y:Operand}:newA P e h nx (.call { callee:=.builtin .append,args:=#[x,y],argTypes:=#[t,t] })=appV P h nx t (e x) (e y):=by
  unfold newA appV;simp only[if_true];rcases zds P h t (e x) (e y) with _|⟨news,el,need,b⟩
  . rfl
  . cases b<;>rfl
def zdJ(k:IntKind)(ns:List Int):List Value:=ns.map fun n=>.int k n
theorem zaj{k:IntKind}{ns:List Int}:∀u∈zdJ k ns,zac u=true:=fun u hu=>by
  obtain⟨n,_,rfl⟩:=List.mem_map.1 hu;rfl
theorem up_0{a:Nat}:(upE (a::ns) nx).blk 0=a:=by simp[upE,zdi,upN]
theorem up_1{a b:Nat}:(upE (a::b::ns) nx).blk 1=b:=by simp[upE,zdi,upN]
theorem up_2{a b:Nat}:(upE (a::b::c::ns) nx).blk 2=c:=by simp[upE,zdi,upN]
theorem zdC :(upE [] nx).blk 0=nx:=by simp[upE,zdi,upN,VB]
theorem zaF  :(upE ns nx).base n=0:=rfl
theorem zau  :(upE ns nx).slack n=0:=rfl
theorem zq7(h:ns.length<1000000):ren (upE ns nx) (hndV k)=hndV k:=by
  have h1:¬VB+k<ns.length:=by unfold VB;omega
  have h2:¬VB+k<VB:=by omega
  simp only[hndV,zbd,adr,upE,zdi,upN,h1,h2,if_false,Nat.zero_add]
theorem zcg(h:ns.length<1000000):ren (upE ns nx) (prtV k)=prtV k:=by
  simp only[prtV,zdb,zq7 h]
attribute [go_sem high] zlM
attribute [go_sem] zrT ziJ renB up_0 up_1 up_2 zdC zaF zau zq7 zcg za8 zbr zbU zdA zbd zcT zay zdb zbM zdf zcG zcP zbE adr Nat.add_zero List.append_nil
def zaX(l:List (Option Blk))(q:Nat)(l2:List (Option Blk)):AHeap:=⟨fun n=>if n<q then(l[n]?).join else(l2[n - q]?).join,q+l2.length⟩
theorem zik(h:n<q):(zaX l q l2).get n=(l[n]?).join:=if_pos h
theorem zrf   :(zaX l q l2).get q=(l2[0]?).join:=by
  show(if q<q then _ else _)=_
  rw[if_neg (Nat.lt_irrefl q),Nat.sub_self]
theorem ziA    :(zaX l q l2).get (q+i)=(l2[i]?).join:=by
  show(if q+i<q then _ else _)=_
  rw[if_neg (by omega),qe]
theorem zeS(l:List (Option Blk))(q:Nat)(l2:List (Option Blk)):(zaX l q l2).next=q+l2.length:=rfl
theorem zkb{a b:AHeap}(h1:∀n,a.get n=b.get n)(h2:a.next=b.next):a=b:=by
  cases a;cases b;simp only[AHeap.mk.injEq];exact⟨funext h1,h2⟩
theorem zqq(l:List (Option Blk))(q:Nat)(l2:List (Option Blk))(b:Option Blk):(zaX l q l2).addO b=zaX l q (l2++[b]):=by
  refine zkb (fun n=>?_) (by simp[AHeap.addO,zaX];omega)
  rw[AHeap.addO_get,zeS];show _=(if n<q then _ else _)
  by_cases hn:n<q
  . rw[if_neg (by omega),if_pos hn,zik hn]
  . obtain⟨i,rfl⟩:∃i,n=q+i:=⟨n - q,by omega⟩
    rw[ziA,if_neg hn,qe];by_cases hi:i=l2.length
    . subst hi;rw[if_pos rfl];simp
    . rw[if_neg (by omega),List.getElem?_append]
      by_cases h2:i<l2.length
      . rw[if_pos h2]
      . rw[if_neg h2,qb (by omega),qb (by simp;omega)]
theorem zhc{b:Option Blk}(hl:i<l2.length):(zaX l q l2).putO (q+i) b=zaX l q (l2.set i b):=by
  refine zkb (fun m=>?_) (by simp[AHeap.putO,zaX])
  rw[AHeap.putO_get];show _=(if m<q then _ else _)
  by_cases hm:m<q
  . rw[if_neg (by omega),if_pos hm,zik hm]
  . obtain⟨j,rfl⟩:∃j,m=q+j:=⟨m - q,by omega⟩
    rw[ziA,if_neg hm,qe];by_cases hj:j=i
    . subst hj;rw[if_pos rfl];simp[hl]
    . rw[if_neg (by omega),qr (fun e=>hj e.symm)]
theorem zgm{b:Option Blk}(hl:0<l2.length):(zaX l q l2).putO q b=zaX l q (l2.set 0 b):=zhc (i:=0) hl
theorem zkB{b:Blk}(hl:0<l2.length):(zaX l q l2).put q b=zaX l q (l2.set 0 (some b)):=by rw[zlv,zgm hl]
theorem zoi(h:q+l2.length<1000000000):(zaX l q l2).next<VB:=by rw[zeS];unfold VB;omega
theorem zhf(l:List (Option Blk))(q:Nat)(l2:List (Option Blk)):(zaX l q l2).Low:=by
  intro n b hb;rw[zeS];by_cases hn:n<q
  . omega
  . obtain⟨i,rfl⟩:∃i,n=q+i:=⟨n - q,by omega⟩
    rw[ziA]at hb;have:i<l2.length:=by
      apply Nat.lt_of_not_le;intro h;rw[qb h]at hb;simp at hb
    omega
theorem zq6(l:List (Option Blk)):zaq l=zaX l l.length []:=by
  refine zkb (fun n=>?_) (by simp[zaq,zaX])
  rw[zaN];show _=(if n<l.length then _ else _)
  split
  . rfl
  . rw[qb (by omega)];simp
attribute [go_sem] zik zrf ziA zeS zqq zhc zgm zkB
end Go.Proofs.Ytpkkfkebnhgaiaa
