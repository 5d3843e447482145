/-
  The abstract machine over this program's memories and direct ports: what their functions do to a state of them; threads' objects beside them.
  Conditions: where a step count is told, it is below 10^12.
-/
import Derived.Test.YtkjmaapbeicmkaaUAx10
import Derived.IntWalk
set_option maxHeartbeats 40000000
set_option linter.unusedVariables false
set_option linter.unusedSimpArgs false
open List renaming getElem?_eq_some_iff->qa,getElem?_eq_none->qb,length_map->qc,length_append->qd,mem_of_getElem?->qg,replicate->qh,getElem?_append_left->qi,getElem?_map->qj,getElem?_set_ne->qk,map_toArray->qm,all_eq_true->qn,getElem?_append_right->qo,pairwise_iff_getElem->qp,getElem?_eq_getElem->qq,getElem?_set_self->qr,getElem?_of_mem->qs,map_congr_left->qt
open Nat renaming add_sub_cancel_left->qe
open Go.Region renaming wanted->qf
open Option renaming map_some->ql
namespace Go.Proofs.Ytkjmaapbeicmkaa
open Go Go.RowKit
def isq:Nat->Nat
  | 0=>0
  | n+1=>if(isq n+1) * (isq n+1)<=n+1 then isq n+1 else isq n
theorem zln:∀n,isq n * isq n<=n/\n<(isq n+1) * (isq n+1)
  | 0=>by simp[isq]
  | n+1=>by
    obtain⟨h1,h2⟩:=zln n;unfold isq;split
    . rename_i h;refine⟨h,?_⟩;have:(isq n+1+1) * (isq n+1+1)=(isq n+1) * (isq n+1)+2 * (isq n+1)+1:=by
        simp only[Nat.add_mul,Nat.mul_add];omega
      omega
    . omega
def code(a b:Nat):Nat:=(a+b) * (a+b)+a
theorem zlW(a b:Nat):isq (code a b)=a+b:=by
  obtain⟨h1,h2⟩:=zln (code a b);have hc:code a b<(a+b+1) * (a+b+1):=by
    unfold code;have:(a+b+1) * (a+b+1)=(a+b) * (a+b)+2 * (a+b)+1:=by simp only[Nat.add_mul,Nat.mul_add];omega
    omega
  have hd:(a+b) * (a+b)<=code a b:=by unfold code;omega
  rcases Nat.lt_trichotomy (isq (code a b)) (a+b) with h|h|h
  . have:=Nat.mul_le_mul (show isq (code a b)+1<=a+b by omega) (show isq (code a b)+1<=a+b by omega)
    omega
  . exact h
  . have:=Nat.mul_le_mul (show a+b+1<=isq (code a b) by omega) (show a+b+1<=isq (code a b) by omega)
    omega
def aux(s:Nat)(i:Nat):Nat:=if i=1 then s - isq s * isq s else isq s - (s - isq s * isq s)
theorem zmM(a b:Nat):aux (code a b) 1=a:=by
  unfold aux;rw[if_pos rfl,zlW];unfold code;omega
theorem zsb(a b:Nat):aux (code a b) 2=b:=by
  unfold aux;rw[if_neg (by decide),zlW]
  unfold code;omega
inductive Ob where
  | mem (ws:List UInt64) (bs:List UInt8)
  | port (m:Nat) (me:Int) (steps:Nat)
  | thr (self:Int) (quit:Nat) (closed busy:Bool) (cur:Option (Nat×Nat×Nat)) (pend:Option Nat)
  | wp (self:Int) (steps:Nat) (ask grant quit:Nat)
  | acc (c:Nat) (n:Int) (A B:UInt64)
  | box (c:Nat)
abbrev St:=List Ob
def hndV(k:Nat):Value:=.pointer (some ⟨VB+k,0,none⟩)
def prtV(k:Nat):Value:=.iface 41 (hndV k)
def BF(P:Program)(hm:P.follows .mixedOrders=true):Face P Unit where
  mix:=hm
  cnt:=fun _=>0
  rep:=fun _ _ _=>True
  fp:=fun _ _ _=>False
  prim:=fun _ _ _ _ _=>False
  rep_same:=fun _ _ _ _ _ _=>⟨trivial,fun _ h=>h⟩
  rep_kept:=fun _ _ _ _ _ _ _=>trivial
  fp_low:=fun _ _ _ _ _ h=>h.elim
  prim_hand:=fun _ _ _ _ _ h=>h.elim
  prim_ok:=fun _ _ _ _ _ _ _ h=>h.elim
def PureD(f:FuncId)(args:Array Value)(v:Value):Prop:=Does (BF Try.prog Try.mix) f args [] () v ()
def zmG(f:FuncId)(args:Array Value)(v:Value):Prop:=∀w,TCalls Try.prog f args w fun e w'=>e=.returned v/\Kept w (fun _=>False) w'
def wr(n:Nat):Int:=IntKind.i64.wrap (n:Int)
def accS(S:St)(p m:Nat)(me:Int)(steps:Nat)(ws:List UInt64)(bs:List UInt8):St:=(S.set p (.port m me steps)).set m (.mem ws bs)
inductive Prim:FuncId->Array Value->St->Value->St->Prop
  | pure {f args v S} (h:∀w:World,zmG f args v) (ha:args.all zab=true) (hv:zab v=true):Prim f args S v S
  | word {k:Nat} {ws:List UInt64} {bs:List UInt8} {S:St} (n:Int) (h:S[k]?=some (Ob.mem ws bs)):Prim 31 #[hndV k,.int .i64 n] S (.int .u64 ((wT 1 n 0 ws).toNat:Int)) S
  | do' {k:Nat} {ws:List UInt64} {bs:List UInt8} {S:St} (c:Nat) (n:Int) (A B:UInt64) (h:S[k]?=some (Ob.mem ws bs)) (h1:1<=c) (h4:c<=4) :
      Prim 39 #[hndV k,accV c n A B] S (.tuple #[.int .u64 ((wT c n A ws).toNat:Int),.bool (wAt ws n).isSome]) (S.set k (.mem (wS c n A B ws) bs))
  | load {p m:Nat} {me:Int} {steps:Nat} {ws:List UInt64} {bs:List UInt8} {S:St} (n:Int) (h:S[p]?=some (Ob.port m me steps)) (hm:S[m]?=some (Ob.mem ws bs)) (hs:steps<=1000000000000) :
      Prim 70 #[hndV p,.int .i64 n] S (.int .u64 ((wT 1 n 0 ws).toNat:Int)) (accS S p m me (steps+1) (wS 1 n 0 0 ws) bs)
  | add {p m:Nat} {me:Int} {steps:Nat} {ws:List UInt64} {bs:List UInt8} {S:St} (n:Int) (A:UInt64) (h:S[p]?=some (Ob.port m me steps)) (hm:S[m]?=some (Ob.mem ws bs)) (hs:steps<=1000000000000) :
      Prim 66 #[hndV p,.int .i64 n,.int .u64 (A.toNat:Int)] S (.int .u64 ((wT 4 n A ws).toNat:Int)) (accS S p m me (steps+1) (wS 4 n A 0 ws) bs)
  | self {p m:Nat} {me:Int} {steps:Nat} {S:St} (h:S[p]?=some (Ob.port m me steps)):Prim 72 #[hndV p] S (.int .i64 me) S
  | steps {p m:Nat} {me:Int} {steps:Nat} {S:St} (h:S[p]?=some (Ob.port m me steps)):Prim 20 #[hndV p] S (.int .i64 (steps:Int)) S
  | dget {k:Nat} {ws:List UInt64} {bs:List UInt8} {S:St} (n:Int) (A B:UInt64) (h:S[k]?=some (Ob.mem ws bs)) :
      Prim 39 #[hndV k,accV 5 n A B] S (.tuple #[.int .u64 ((bT n bs).toNat:Int),.bool (bAt bs n).isSome]) S
  | dput {k:Nat} {ws:List UInt64} {bs:List UInt8} {S:St} (n:Int) (A B:UInt64) (h:S[k]?=some (Ob.mem ws bs)) :
      Prim 39 #[hndV k,accV 6 n A B] S (.tuple #[.int .u64 0,.bool (bAt bs n).isSome]) (S.set k (.mem ws (bS n A.toUInt8 bs)))
  | wself {k:Nat} {me:Int} {steps a b c:Nat} {S:St} (h:S[k]?=some (Ob.wp me steps a b c)):Prim 82 #[hndV k] S (.int .i64 me) S
  | pnew {m:Nat} {me:Int} {ws:List UInt64} {bs:List UInt8} {S:St} (h:S[m]?=some (Ob.mem ws bs)):Prim 10 #[hndV m,.int .i64 me] S (hndV S.length) (S++[.port m me 0])
  | mnew {S:St} (a b:Nat) (ha:a<=2097152) (hb:b<=1048576):Prim 22 #[.int .i64 a,.int .i64 b] S (.tuple #[hndV S.length,.int .i64 0]) (S++[.mem (qh a 0) (qh b 0)])
theorem zcC{args:Array Value}(F:Emb)(h:args.all zab=true):args.map (ren F)=args:=by
  apply Array.ext
  . simp
  . intro i h1 h2;simp only[Array.getElem_map];exact zaG F ((Array.all_eq_true.1 h) i h2)
variable {u a b v0:Value}
theorem Prim.len{f:FuncId}{args:Array Value}{S S':St}{v:Value}(h:Prim f args S v S'):S.length<=S'.length:=by
  cases h<;>simp[accS]
theorem ziO(c k:Nat)(h:k<c):Hand c (hndV k):=by
  intro F F' hs;have:=hs (VB+k) ⟨by omega,by omega⟩
  simp[hndV,adr,this.1,this.2.1]
theorem Prim.hand{f:FuncId}{args:Array Value}{S S':St}{v:Value}(h:Prim f args S v S'):Hand S'.length v:=by
  cases h with
  | pure h ha hv=>exact Hand.plain hv
  | pnew h=>exact ziO _ _ (by simp)
  | mnew a b ha hb =>
    have h1:=ziO (S++[Ob.mem (qh a 0) (qh b 0)]).length S.length (by simp)
    intro F F' hs;simp only[zcQ,qm,zMp,zMn,zbr];rw[h1 F F' hs]
  | _=>exact Hand.plain (by first|rfl|simp[zab])
variable {m i c s n o off k N T nx q:Nat}
theorem zl1{S:St}{p:Nat}{me:Int}{steps:Nat}{ws:List UInt64}{bs:List UInt8}{ob ob2:Ob}(h:S[p]?=some ob)(hm:S[m]?=some ob2)(hne:p≠m):(accS S p m me steps ws bs)[p]?=some (Ob.port m me steps)/\(accS S p m me steps ws bs)[m]?=some (Ob.mem ws bs):=by
  have h1:=(qa.1 h).1;have h2:=(qa.1 hm).1;unfold accS;constructor
  . rw[qk (Ne.symm hne),qr h1]
  . rw[qr (by simpa using h2)]
variable {pl:Nat->Option (Nat × Nat)}{K:List Value->Option (List Value)}
section
variable {P:Program}{e:Operand->Value}{h:AHeap}{t:TypeId}{x y:Operand}{k:IntKind}{a b:Int}
theorem ztH(l:List Value)(t:Nat):evA l (.tmp t)=l.getD t undef:=rfl
theorem zqu(l:List Value)(v:Value):evA l (.const v)=v:=rfl
theorem ztm(l:List Value)(f:FuncId):evA l (.func f)=.func (.func f) #[] #[]:=rfl
theorem zp7(d:Nat)(v:Value)(l:List Value):putL (some d) v l=l.set d v:=rfl
theorem zp8(v:Value)(l:List Value):putL none v l=l:=rfl
theorem zts:valA P e h (.move x)=some (e x):=rfl
theorem zqv:valA P e h (.assign x)=some (e x):=rfl
theorem zuO{op:BinOp}{u:TypeId}:valA P e h (.binOp op t x y u)=zaH P op t y (e x) (e y):=rfl
theorem v_un{op:UnOp}:valA P e h (.unOp op t x)=unA op (e x):=rfl
theorem zn3{u:TypeId}:valA P e h (.convert t u x)=zdM P t u (e x):=rfl
theorem zsc :valA P e h (.field t x i)=zgR P t (e x) i:=rfl
theorem zsG:valA P e h (.index t x y)=zg4 P t (e x) (e y):=rfl
theorem znt{fn:Fn}{xs ys:Array Operand}:valA P e h (.makeFunc fn xs ys)=some (.func fn (xs.map e) (ys.map e)):=rfl
theorem zmf:valA P e h (.nilCheck x)=zct P (e x):=rfl
theorem zkO :valA P e h (.fieldAddr t x i)=zcy P t (e x) i:=rfl
theorem zkp:valA P e h (.indexAddr t x y)=zcB P t (e x) (e y):=rfl
def ztc(P:Program)(h:AHeap)(t:TypeId):Value->Option Value
  | .pointer (some a)=>zgr P h t a
  | _=>none
theorem zt0:valA P e h (.load t x)=ztc P h t (e x):=by
  show(match e x with|.pointer (some a)=>zgr P h t a|_=>none)=_
  unfold ztc;rfl
theorem zq0{a:Addr}:ztc P h t (.pointer (some a))=zgr P h t a:=rfl
def zrQ(c a b:Value):Option Value:=match c with
  | .bool t=>some (if t then a else b)
  | _=>none
theorem ztq{z:Operand}:valA P e h (.pick x y z)=zrQ (e x) (e y) (e z):=rfl
theorem zpB{v:Value}:zrQ (.bool true) v u=some v:=rfl
theorem zmO{v:Value}:zrQ (.bool false) v u=some u:=rfl
def zlK(v:Value)(i:Nat):Option Value:=match v with
  | .tuple vs=>vs[i]?
  | _=>none
theorem zpz :valA P e h (.extract x i)=zlK (e x) i:=rfl
theorem ziC{vs:Array Value}:zlK (.tuple vs) i=vs[i]?:=rfl
theorem zu1:zaH P .add t y (.int k a) (.int k b)=some (.int k (k.wrap (a+b))):=by simp[zaH,binA,intA]
theorem zva:zaH P .sub t y (.int k a) (.int k b)=some (.int k (k.wrap (a - b))):=by simp[zaH,binA,intA]
theorem zuT:zaH P .mul t y (.int k a) (.int k b)=some (.int k (k.wrap (a * b))):=by simp[zaH,binA,intA]
theorem zuQ(hb:b≠0):zaH P .rem t y (.int k a) (.int k b)=some (.int k (a.tmod b)):=by simp[zaH,binA,intA,hb]
theorem zuy:zaH P .eql t y (.int k a) (.int k b)=some (.bool (a==b)):=by simp[zaH,binA,intA]
theorem zvn:zaH P .neq t y (.int k a) (.int k b)=some (.bool (a != b)):=by simp[zaH,binA,intA]
theorem zvk:zaH P .lss t y (.int k a) (.int k b)=some (.bool (decide (a<b))):=by simp[zaH,binA,intA]
theorem zu7:zaH P .leq t y (.int k a) (.int k b)=some (.bool (decide (a<=b))):=by simp[zaH,binA,intA]
theorem zuP:zaH P .gtr t y (.int k a) (.int k b)=some (.bool (decide (b<a))):=by simp[zaH,binA,intA]
theorem zvm:zaH P .geq t y (.int k a) (.int k b)=some (.bool (decide (b<=a))):=by simp[zaH,binA,intA]
theorem zvf{c:Bool}:unA .not (.bool c)=some (.bool !c):=rfl
theorem zu5:unA .neg (.int k a)=some (.int k (k.wrap (0 - a))):=rfl
theorem zuR:((0:Nat):Int)=0:=rfl
theorem zvt:((1:Nat):Int)=1:=rfl
def zk4(b:Option Blk)(g:Option Bool)(s:Option Nat)(a:Addr):Option Value:=match b,g,s with
  | some b,some true,some s=>if a.spot=none/\a.off=0/\b.cells.length=s then some (.agg b.cells.toArray) else if a.spot=none/\a.off+s<=b.cells.length then some (.agg ((b.cells.drop a.off).take s).toArray) else none
  | some b,some false,some _=>if a.spot=none then b.cells[a.off]? else none
  | _,_,_=>none
theorem zqj{a:Addr}:zgr P h t a=zk4 (h.get a.block) (zaI P t) (zaj P t) a:=rfl
theorem zmA{b:Blk}:zk4 (some b) (some false) (some s) ⟨n,o,none⟩=b.cells[o]?:=by simp[zk4]
theorem zoD{b:Blk}(hl:b.cells.length=s):zk4 (some b) (some true) (some s) ⟨n,0,none⟩=some (.agg b.cells.toArray):=by simp[zk4,hl]
theorem zpv{b:Blk}(hl:o+s<=b.cells.length):zk4 (some b) (some true) (some s) ⟨n,o,none⟩=some (.agg ((b.cells.drop o).take s).toArray):=by
  unfold zk4;simp only[true_and,hl,if_true];split
  . rename_i hc;obtain⟨rfl,rfl⟩:=hc;simp
  . rfl
def zfr(P:Program)(t:TypeId):Bool:=match P.underlying t with|some (.pointer _)=>true|_=>false
def zrJ(P:Program)(t:TypeId):Bool:=match P.underlying t with|some (.interface _)=>true|_=>false
def zjS(P:Program)(t:TypeId):Bool:=match P.underlying t with|some (.slice _)=>true|_=>false
theorem zt2{a:Option Addr}:zaH P .eql t y (.pointer a) (.pointer none)=cond (zfr P t) (some (.bool a.isNone)) none:=by
  simp only[zaH,binA,zhf,zfc,zfr];cases P.underlying t with
  | none=>rfl
  | some u=>cases u<;>rfl
theorem zvu{a:Option Addr}:zaH P .neq t y (.pointer a) (.pointer none)=cond (zfr P t) (some (.bool !a.isNone)) none:=by
  simp only[zaH,binA,zhf,zfc,zfr];cases P.underlying t with
  | none=>rfl
  | some u=>cases u<;>rfl
theorem zuI{k:Nat}:zaH P .eql t y (hndV k) (.pointer none)=cond (zfr P t) (some (.bool false)) none:=zt2
def tyMk(P:Program)(t:TypeId):Bool:=match P.underlying t with|some (.interface _)=>false|some _=>true|none=>false
theorem zsz:valA P e h (.makeInterface t x)=cond (tyMk P t) (some (.iface t (e x))) none:=by
  simp only[valA,tyMk];cases P.underlying t with
  | none=>rfl
  | some u=>cases u<;>rfl
theorem znO{k:Nat}:Value.iface 41 (hndV k)=prtV k:=rfl
theorem zu3{ats:Array TypeId}{z:Operand}:valA P e h (.call { callee:=.builtin .len,args:=#[z],argTypes:=ats })=(match ats.toList with|[t]=>lenA P t (e z)|_=>none):=by
  show(match [z],ats.toList with|[x],[t]=>lenA P t (e x)|_,_=>none)=_
  cases ats.toList with
  | nil=>rfl
  | cons a l=>cases l<;>rfl
def min2:Value->Value->Option Value
  | .int k x,.int _ y=>some (.int k (if y<x then y else x))
  | _,_=>none
def max2:Value->Value->Option Value
  | .int k x,.int _ y=>some (.int k (if y > x then y else x))
  | _,_=>none
theorem zsw{ps:Array (Nat×Operand)}:valA P e h (.build t ps)=zhD P t (ps.toList.map fun p=>(p.1,e p.2)):=rfl
theorem zsS{lo hi mx:Option Operand}:valA P e h (.slice t x lo hi mx)=zeX P h t (e x) (lo.map e) (hi.map e) (mx.map e):=rfl
def zg8(o:Option (Nat×Nat))(v:Value)(cells:List Value)(K:List Value->Option (List Value)):Option (List Value):=match o with
  | none=>none
  | some (off,size)=>if v.cells.size≠size\/off+v.cells.size > cells.length then none else K (zaK cells off v.cells.toList)
theorem zoP{cells:List Value}{v:Value}{l:List (Nat×Value)}:zfM pl cells ((i,v)::l)=zg8 (pl i) v cells fun c=>zfM pl c l:=by
  rw[zfM];unfold zg8;rfl
theorem zqV{cells:List Value}:zfM pl cells []=some cells:=rfl
theorem zer{v:Value}{cells:List Value}(hv:v.cells=#[v])(hl:off<cells.length):zg8 (some (off,1)) v cells K=K (cells.set off v):=by
  have:¬ ((#[v]:Array Value).size≠1\/off+(#[v]:Array Value).size > cells.length):=by simp;omega
  unfold zg8;simp only[hv];rw[if_neg this];congr 1;unfold zaK;rw[List.set_eq_take_append_cons_drop,if_pos hl];simp
theorem zpG{n:Int}{cells:List Value}(hl:off<cells.length):zg8 (some (off,1)) (.int k n) cells K=K (cells.set off (.int k n)):=zer rfl hl
theorem zoJ{c:Option Addr}{cells:List Value}(hl:off<cells.length):zg8 (some (off,1)) (.pointer c) cells K=K (cells.set off (.pointer c)):=zer rfl hl
theorem zkS{d:Option Addr}{cells:List Value}(hl:off<cells.length):zg8 (some (off,1)) (.slice d n c) cells K=K (cells.set off (.slice d n c)):=zer rfl hl
theorem znG{fn:Fn}{xs ys:Array Value}{cells:List Value}(hl:off<cells.length):zg8 (some (off,1)) (.func fn xs ys) cells K=K (cells.set off (.func fn xs ys)):=zer rfl hl
theorem zoq{cells:List Value}(hl:off<cells.length):zg8 (some (off,1)) (hndV m) cells K=K (cells.set off (hndV m)):=zer rfl hl
theorem zpr{cs:Array Value}{cells:List Value}(hs:cs.size=s)(hl:off+s<=cells.length):zg8 (some (off,s)) (.agg cs) cells K=K (zaK cells off cs.toList):=by
  have hc:(Value.agg cs).cells=cs:=rfl;unfold zg8;simp only[hc];rw[if_neg (by omega)]
theorem zuv{f:FuncId}{args:Array Operand}{ats:Array TypeId}:zaQ P e (.call { callee:=.value (.func f),args:=args,argTypes:=ats })=(match e (.func f) with|.func (.func g) xs ys=>some (g,xs++args.map e++ys)|.func (.method name) xs _=>(match xs.toList with|[.iface t (.pointer p)]=>(match zbd P t name with|some g=>some (g,#[.pointer p]++args.map e)|none=>none)|_=>none)|_=>none):=rfl
def zqH(P:Program)(f:Value)(args:Array Value):Option (FuncId×Array Value):=match f with
  | .func (.func g) xs ys=>some (g,xs++args++ys)
  | .func (.method name) xs _=>(match xs.toList with
    | [.iface t (.pointer p)]=>(match zbd P t name with|some g=>some (g,#[.pointer p]++args)|none=>none)
    | _=>none)
  | _=>none
theorem zsk{f:Operand}{args:Array Operand}{ats:Array TypeId}:zaQ P e (.call { callee:=.value f,args:=args,argTypes:=ats })=zqH P (e f) (args.map e):=by
  unfold zaQ zqH;rfl
theorem znU{g:FuncId}{xs ys args:Array Value}:zqH P (.func (.func g) xs ys) args=some (g,xs++args++ys):=rfl
theorem zpY{name:String}{k:Nat}{ys args:Array Value}:zqH P (.func (.method name) #[prtV k] ys) args=(match zbd P 41 name with|some f=>some (f,#[hndV k]++args)|none=>none):=rfl
def zir(P:Program)(r:Value)(name:String)(args:Array Value):Option (FuncId×Array Value):=match r with
  | .iface t (.pointer p)=>(match zbd P t name with|some f=>some (f,#[.pointer p]++args)|none=>none)
  | _=>none
theorem zqZ{r:Operand}{name:String}{args:Array Operand}{ats:Array TypeId}:zaQ P e (.call { callee:=.invoke r name,args:=args,argTypes:=ats })=zir P (e r) name (args.map e):=by
  unfold zaQ zir;rfl
theorem zux{k:Nat}{name:String}{args:Array Value}:zir P (prtV k) name args=(match zbd P 41 name with|some f=>some (f,#[hndV k]++args)|none=>none):=rfl
theorem zvq{k:Nat}{name:String}:zct P (.func (.method name) #[prtV k] #[])=(match zbd P 41 name with|some _=>some (.func (.method name) #[prtV k] #[])|none=>none):=rfl
theorem zvp{a:Addr}:zct P (.pointer (some a))=some (.pointer (some a)):=rfl
theorem zsX{n0:Nat}(hn:n<n0):(lowH n0 h).get n=h.get n:=by
  unfold lowH;simp[hn]
theorem wrap_i64{n:Int}(h1:-9223372036854775808<=n)(h2:n<=9223372036854775807):IntKind.i64.wrap n=n:=IntWalk.i64_in n ⟨h1,h2⟩
end
def fnOK(P:Program)(f:FuncId):Bool:=match P.funcs[f]? with
  | some g=>goB g
  | none=>false
variable {P:Program}
theorem zho{f:FuncId}(h:fnOK P f=true):∃g,P.funcs[f]?=some g/\goB g=true:=by
  unfold fnOK at h;split at h
  . rename_i g hg;exact⟨g,hg,h⟩
  . cases h
theorem zrO(n c k:Nat)(h:k<c):Clo (Kn n c) (prtV k):=by
  intro F F' hs;have:=hs (VB+k) (.inr ⟨by omega,by omega⟩)
  simp[prtV,hndV,adr,this.1,this.2.1]
theorem zsp(n c k:Nat)(h:k<c):Clo (Kn n c) (hndV k):=by
  intro F F' hs;have:=hs (VB+k) (.inr ⟨by omega,by omega⟩)
  simp[hndV,adr,this.1,this.2.1]
theorem clo0{K:Nat->Prop}:∀u∈(#[]:Array Value).toList,Clo K u:=fun u hu=>by cases hu
theorem clo1{K:Nat->Prop}(ha:Clo K a):∀u∈#[a].toList,Clo K u:=fun u hu=>by
  simp only[zMc,zNm,or_false]at hu;subst hu;exact ha
theorem clo2{K:Nat->Prop}(ha:Clo K a)(hb:Clo K b):∀u∈#[a,b].toList,Clo K u:=fun u hu=>by
  simp only[zMc,zNm,or_false]at hu;rcases hu with rfl|rfl;exact ha;exact hb
theorem clo3{K:Nat->Prop}{c:Value}(ha:Clo K a)(hb:Clo K b)(hc:Clo K c):∀u∈#[a,b,c].toList,Clo K u:=fun u hu=>by
  simp only[zMc,zNm,or_false]at hu;rcases hu with rfl|rfl|rfl;exact ha;exact hb;exact hc
theorem clo4{K:Nat->Prop}{c d:Value}(ha:Clo K a)(hb:Clo K b)(hc:Clo K c)(hd:Clo K d):∀u∈#[a,b,c,d].toList,Clo K u:=fun u hu=>by
  simp only[zMc,zNm,or_false]at hu;rcases hu with rfl|rfl|rfl|rfl;exact ha;exact hb;exact hc;exact hd
theorem zu9(ha:Hand c a)(hb:Hand c b):Hand c (.tuple #[a,b]):=fun F F' hs=>by
  simp only[zcQ,qm,zMp,zMn,ha F F' hs,hb F F' hs]
theorem zhM(h:k<c):Hand c (hndV k):=ziO c k h
theorem zuC :Hand c (.agg (geoC N T)):=Hand.plain (by simp[zab,geoC])
theorem iclo{K:Nat->Prop}{k:IntKind}{n:Int}:Clo K (.int k n):=Clo.plain rfl
theorem gclo{K:Nat->Prop}:Clo K (.agg (geoC N T)):=Clo.plain (by simp[zab,geoC])
theorem zow(N T:Nat):zab (.agg (geoC N T))=true:=by simp[zab,geoC]
theorem zad(N T:Nat):(geoC N T).toList.length=22:=by simp[geoC]
theorem zp5(N T:Nat):(geoC N T).size=22:=by simp[geoC]
theorem zrU(N T:Nat):(geoC N T).toList.all zdi=true:=by simp[geoC,zdi]
theorem zng{l vs:List Value}(h:l.length=vs.length):zaK l 0 vs=vs:=by simp[zaK,h]
theorem zny{l:List Value}(h:l.length=22):zaK l 0 (geoC N T).toList=(geoC N T).toList:=zng (by rw[h,zad])
theorem zkj{l vs:List Value}:zaK (a::l) (n+1) vs=a::zaK l n vs:=by
  unfold zaK;rw[show n+1+vs.length=(n+vs.length)+1 by omega]
  rfl
theorem zld{v:Value}{l vs:List Value}:zaK (a::l) 0 (v::vs)=v::zaK l 0 vs:=by
  unfold zaK;rw[show 0+(v::vs).length=(0+vs.length)+1 by simp]
  rfl
theorem zmD{l:List Value}:zaK l 0 []=l:=by simp[zaK]
theorem zok(k:IntKind)(n:Int):zdi (.int k n)=true:=rfl
theorem zmZ(b:Bool):zdi (.bool b)=true:=rfl
theorem zpA(a:Option Addr):zdi (.pointer a)=true:=rfl
theorem zk2(a:Option Addr)(n c:Nat):zdi (.slice a n c)=true:=rfl
theorem zkK(t:TypeId)(v:Value):zdi (.iface t v)=true:=rfl
theorem zml(fn:Fn)(xs ys:Array Value):zdi (.func fn xs ys)=true:=rfl
theorem zo0(k:Nat):zdi (hndV k)=true:=rfl
theorem zob(k:Nat):zdi (prtV k)=true:=rfl
theorem zqF:zdi .nilIface=true:=rfl
theorem zrf:zdi .nilFunc=true:=rfl
theorem zpg(cs:Array Value):(Value.agg cs).cells=cs:=rfl
theorem zof(k:IntKind)(n:Int):(Value.int k n).cells=#[.int k n]:=rfl
theorem zm1(b:Bool):(Value.bool b).cells=#[.bool b]:=rfl
theorem zpT(a:Option Addr):(Value.pointer a).cells=#[.pointer a]:=rfl
theorem zkw(a:Option Addr)(n c:Nat):(Value.slice a n c).cells=#[.slice a n c]:=rfl
theorem zkH(t:TypeId)(v:Value):(Value.iface t v).cells=#[.iface t v]:=rfl
theorem znn(fn:Fn)(xs ys:Array Value):(Value.func fn xs ys).cells=#[.func fn xs ys]:=rfl
theorem zpD(k:Nat):(prtV k).cells=#[prtV k]:=rfl
theorem znN(k:Nat):(hndV k).cells=#[hndV k]:=rfl
section
variable {P:Program}{σ:Type}{X:Face P σ}{fn:Func}{A:Conf σ->Prop}{ops:Array Oper}{k:List Item}{i:Nat}{tmps:List Value}{h:AHeap}{S:σ}{o:Oper}{n0:Nat}{W:List Nat}{hf:AHeap}{Kf:List Value->AHeap->σ->Prop}{born:List (Nat × Nat)}
def ctl2:List Item->Option (List Item)
  | .code .skip::k|.code (.label _)::k|.inBlock _::k=>some k
  | .code (.seq a b)::k=>some (.code a::.code b::k)
  | .code (.block id b)::k=>some (.code b::.inBlock id::k)
  | .code (.exit id)::k=>exitTo id k
  | .code (.goto l)::k=>gotoIn l k
  | .inRegion _ []::k=>some k
  | .code (.scope b)::k=>some (.code b::.inScope b::k)
  | .inScope _::k=>some k
  | _=>none
theorem zt7{l l':List Item}(hc:ctl2 l=some l'):ctl tmps l=some l':=by
  unfold ctl2 at hc;split at hc<;>first|(cases hc;rfl)|exact hc|cases hc
theorem Goes.ctl2{todo todo':List Item}(hc:Go.Proofs.Ytkjmaapbeicmkaa.ctl2 todo=some todo')(hk:Goes X fn A (.run todo' tmps h S)):Goes X fn A (.run todo tmps h S):=.ctl (zt7 hc) hk
theorem Goes.yes{c:Operand}{x y:Code}(hc:evA tmps c=.bool true)(hk:Goes X fn A (.run (.code x::k) tmps h S)):Goes X fn A (.run (.code (.cond c x y)::k) tmps h S) :=
  .cond hc (fun _=>hk) (fun h=>by cases h)
theorem Goes.no{c:Operand}{x y:Code}(hc:evA tmps c=.bool false)(hk:Goes X fn A (.run (.code y::k) tmps h S)):Goes X fn A (.run (.code (.cond c x y)::k) tmps h S) :=
  .cond hc (fun h=>by cases h) (fun _=>hk)
theorem Goes.loop{b:Code}(hk:Goes X fn A (.run (.code b::.inLoop b::k) tmps h S)):Goes X fn A (.run (.code (.loop b)::k) tmps h S):=.ctl rfl hk
theorem Goes.inLoop{b:Code}(hk:Goes X fn A (.run (.code b::.inLoop b::k) tmps h S)):Goes X fn A (.run (.inLoop b::k) tmps h S):=.ctl rfl hk
theorem At.prim2(ho:ops.toList[i]?=some o)(hw:qf o (zak ops tmps)=true)(hb:opOK o.op=true)(hk:∀K:List Value->σ->Prop,(∀t S',At X fn A ops k (i+1) t h S'->K t S')->zdT (fun f args=>fnOK P f=true/\∃v S',X.prim f args S v S'/\K (putL o.dst v tmps) S') (zaQ P (evA tmps) o.op)):At X fn A ops k i tmps h S:=by
  have:=hk _ fun _ _ h=>h;cases hv:zaQ P (evA tmps) o.op with
  | none=>rw[hv]at this;exact this.elim
  | some x =>
    obtain⟨f,args⟩:=x;rw[hv]at this;obtain⟨hf,hr⟩:=this;obtain⟨g,h1,h2⟩:=zho hf;exact At.prim (g:=g) (za1 ho) hw (zaZ hb) (by rw[hv];exact⟨h1,h2,hr⟩)
theorem At.call2(ho:ops.toList[i]?=some o)(hw:qf o (zak ops tmps)=true)(hb:opOK o.op=true)(hk:∀K:List Value->σ->Prop,(∀t S',At X fn A ops k (i+1) t h S'->K t S')->zdT (fun f args=>∃v S',Does X f args [] S v S'/\K (putL o.dst v tmps) S') (zaQ P (evA tmps) o.op)):At X fn A ops k i tmps h S :=
  At.call (za1 ho) hw (zaZ hb) (hk _ fun _ _ h=>h)
theorem RG.prim2(hl:h.Low)(ho:ops.toList[i]?=some o)(hw:qf o (zak ops tmps)=true)(hb:opOK o.op=true)(hq:wrB W i o=false)(hk:∀K:List Value->σ->Prop,(∀t S',RGF X W ops n0 hf Kf (i+1) t h S' born->K t S')->zdT (fun f args=>fnOK P f=true/\∃v S',X.prim f args S v S'/\K (putL o.dst v tmps) S') (zaQ P (evA tmps) o.op))(hnf:farB W i=false:=by rfl):RGF X W ops n0 hf Kf i tmps h S born:=by
  have:=hk _ fun _ _ h=>h;cases hv:zaQ P (evA tmps) o.op with
  | none=>rw[hv]at this;exact this.elim
  | some x =>
    obtain⟨f,args⟩:=x;rw[hv]at this;obtain⟨hf,hr⟩:=this;obtain⟨g,h1,h2⟩:=zho hf;exact RG.prim (g:=g) hl (za1 ho) hw (zaZ hb) hq (by rw[hv];exact⟨h1,h2,hr⟩) hnf
theorem RG.call2(hl:h.Low)(ho:ops.toList[i]?=some o)(hw:qf o (zak ops tmps)=true)(hb:opOK o.op=true)(hq:wrB W i o=false)(hk:∀K:List Value->σ->Prop,(∀t S',RGF X W ops n0 hf Kf (i+1) t h S' born->K t S')->zdT (fun f args=>∃v S',Does X f args [] S v S'/\K (putL o.dst v tmps) S') (zaQ P (evA tmps) o.op))(hnf:farB W i=false:=by rfl):RGF X W ops n0 hf Kf i tmps h S born :=
  RG.call hl (za1 ho) hw (zaZ hb) hq (hk _ fun _ _ h=>h) hnf
end
attribute [go_sem] OpK NewK zgl zdT ztH zqu ztm zp7 zp8 zts zqv zuO v_un zn3 zsc zsG znt zmf zkO zkp zt0 zq0 ztq zpB zmO zpz ziC zu1 zva zuT zuQ zuy zvn zvk zu7 zuP zvm zvf zu5 zsk znU zpY zqZ zux zvq zvp zsX wrap_i64 znf zil zoe Option.join_some zaL zaa zad zp5 zrU zny zpg zof zm1 zpT zkw zkH znn zpD znN List.getElem?_cons_zero List.getElem?_cons_succ Array.toArray_toList if_true if_false List.getElem?_toArray List.length_cons List.length_nil qm List.map_cons List.map_nil List.append_toArray List.cons_append List.nil_append true_and List.getD_cons_zero List.getD_cons_succ List.set_cons_zero List.set_cons_succ newA zdM zcy zcB zgR zg4 zky lenA zcp zed zqj zmA zpv Int.toNat_natCast
attribute [go_sem high] zoD
attribute [go_sem] zsz znO zpr eq_self and_false false_and List.drop_succ_cons List.drop_zero List.take_succ_cons List.take_zero zkj zld zmD zok zmZ zpA zk2 zkK zml zo0 zob zqF zrf List.size_toArray List.all_cons List.all_nil Bool.and_true zuR zvt Int.cast_ofNat_Int decide_true decide_false zt2 zvu zuI cond_true cond_false Option.isNone_some Option.isNone_none Bool.not_true Bool.not_false zu3 zsw zsS zhD zoP zqV zpG zoJ zkS znG zoq zbv ql
attribute [go_sem] and_true Nat.le_refl Nat.zero_add
attribute [go_sem_proc] Nat.reduceLT Nat.reduceGT Nat.reduceEqDiff Int.reduceNatCast Int.reduceEq Int.reduceNe Nat.reduceDiv Nat.reduceMod Int.reduceTDiv Int.reduceTMod Nat.reduceAdd Nat.reduceLeDiff Nat.reduceMul Nat.reduceSub Int.reduceLE Int.reduceLT Int.reduceToNat Int.reduceAdd Int.reduceSub Int.reduceMul Int.reduceBEq Int.reduceBNe Int.reduceNeg
theorem Try.eql7(y:Operand)(a0 b0:Int)(a1 b1:Int)(a2 b2:Bool)(a3 b3:Int):zaH Try.prog .eql 7 y (.agg #[.int .i64 a0,.int .i64 a1,.bool a2,.int .u8 a3]) (.agg #[.int .i64 b0,.int .i64 b1,.bool b2,.int .u8 b3])=some (.bool (a0==b0 && (a1==b1 && (a2==b2 && (a3==b3 && true))))):=by kernel_rfl
theorem Try.neq7(y:Operand)(a0 b0:Int)(a1 b1:Int)(a2 b2:Bool)(a3 b3:Int):zaH Try.prog .neq 7 y (.agg #[.int .i64 a0,.int .i64 a1,.bool a2,.int .u8 a3]) (.agg #[.int .i64 b0,.int .i64 b1,.bool b2,.int .u8 b3])=some (.bool !(a0==b0 && (a1==b1 && (a2==b2 && (a3==b3 && true))))):=by kernel_rfl
theorem Try.eql8(y:Operand)(a0 b0:Int)(a1 b1:Int)(a2 b2:Bool)(a3 b3:Int):zaH Try.prog .eql 8 y (.agg #[.int .i64 a0,.int .i64 a1,.bool a2,.int .u8 a3]) (.agg #[.int .i64 b0,.int .i64 b1,.bool b2,.int .u8 b3])=some (.bool (a0==b0 && (a1==b1 && (a2==b2 && (a3==b3 && true))))):=by kernel_rfl
theorem Try.neq8(y:Operand)(a0 b0:Int)(a1 b1:Int)(a2 b2:Bool)(a3 b3:Int):zaH Try.prog .neq 8 y (.agg #[.int .i64 a0,.int .i64 a1,.bool a2,.int .u8 a3]) (.agg #[.int .i64 b0,.int .i64 b1,.bool b2,.int .u8 b3])=some (.bool !(a0==b0 && (a1==b1 && (a2==b2 && (a3==b3 && true))))):=by kernel_rfl
theorem Try.eql37(y:Operand)(a0 b0:Int)(a1 b1:Int)(a2 b2:Int):zaH Try.prog .eql 37 y (.agg #[.int .u8 a0,.int .i64 a1,.int .i64 a2]) (.agg #[.int .u8 b0,.int .i64 b1,.int .i64 b2])=some (.bool (a0==b0 && (a1==b1 && (a2==b2 && true)))):=by kernel_rfl
theorem Try.neq37(y:Operand)(a0 b0:Int)(a1 b1:Int)(a2 b2:Int):zaH Try.prog .neq 37 y (.agg #[.int .u8 a0,.int .i64 a1,.int .i64 a2]) (.agg #[.int .u8 b0,.int .i64 b1,.int .i64 b2])=some (.bool !(a0==b0 && (a1==b1 && (a2==b2 && true)))):=by kernel_rfl
theorem Try.eql38(y:Operand)(a0 b0:Int)(a1 b1:Int)(a2 b2:Int):zaH Try.prog .eql 38 y (.agg #[.int .u8 a0,.int .i64 a1,.int .i64 a2]) (.agg #[.int .u8 b0,.int .i64 b1,.int .i64 b2])=some (.bool (a0==b0 && (a1==b1 && (a2==b2 && true)))):=by kernel_rfl
theorem Try.neq38(y:Operand)(a0 b0:Int)(a1 b1:Int)(a2 b2:Int):zaH Try.prog .neq 38 y (.agg #[.int .u8 a0,.int .i64 a1,.int .i64 a2]) (.agg #[.int .u8 b0,.int .i64 b1,.int .i64 b2])=some (.bool !(a0==b0 && (a1==b1 && (a2==b2 && true)))):=by kernel_rfl
theorem Try.eql44(y:Operand)(a0 b0:Int)(a1 b1:Int)(a2 b2:Int)(a3 b3:Int)(a4 b4:Int):zaH Try.prog .eql 44 y (.agg #[.int .u64 a0,.int .u64 a1,.int .u64 a2,.int .u64 a3,.int .u64 a4]) (.agg #[.int .u64 b0,.int .u64 b1,.int .u64 b2,.int .u64 b3,.int .u64 b4])=some (.bool (a0==b0 && (a1==b1 && (a2==b2 && (a3==b3 && (a4==b4 && true)))))):=by kernel_rfl
theorem Try.neq44(y:Operand)(a0 b0:Int)(a1 b1:Int)(a2 b2:Int)(a3 b3:Int)(a4 b4:Int):zaH Try.prog .neq 44 y (.agg #[.int .u64 a0,.int .u64 a1,.int .u64 a2,.int .u64 a3,.int .u64 a4]) (.agg #[.int .u64 b0,.int .u64 b1,.int .u64 b2,.int .u64 b3,.int .u64 b4])=some (.bool !(a0==b0 && (a1==b1 && (a2==b2 && (a3==b3 && (a4==b4 && true)))))):=by kernel_rfl
theorem Try.eql45(y:Operand)(a0 b0:Int)(a1 b1:Int)(a2 b2:Int)(a3 b3:Int)(a4 b4:Int):zaH Try.prog .eql 45 y (.agg #[.int .u64 a0,.int .u64 a1,.int .u64 a2,.int .u64 a3,.int .u64 a4]) (.agg #[.int .u64 b0,.int .u64 b1,.int .u64 b2,.int .u64 b3,.int .u64 b4])=some (.bool (a0==b0 && (a1==b1 && (a2==b2 && (a3==b3 && (a4==b4 && true)))))):=by kernel_rfl
theorem Try.neq45(y:Operand)(a0 b0:Int)(a1 b1:Int)(a2 b2:Int)(a3 b3:Int)(a4 b4:Int):zaH Try.prog .neq 45 y (.agg #[.int .u64 a0,.int .u64 a1,.int .u64 a2,.int .u64 a3,.int .u64 a4]) (.agg #[.int .u64 b0,.int .u64 b1,.int .u64 b2,.int .u64 b3,.int .u64 b4])=some (.bool !(a0==b0 && (a1==b1 && (a2==b2 && (a3==b3 && (a4==b4 && true)))))):=by kernel_rfl
theorem Try.eql74(y:Operand)(a0 b0:Int)(a1 b1:Int):zaH Try.prog .eql 74 y (.agg #[.int .i64 a0,.int .i64 a1]) (.agg #[.int .i64 b0,.int .i64 b1])=some (.bool (a0==b0 && (a1==b1 && true))):=by kernel_rfl
theorem Try.neq74(y:Operand)(a0 b0:Int)(a1 b1:Int):zaH Try.prog .neq 74 y (.agg #[.int .i64 a0,.int .i64 a1]) (.agg #[.int .i64 b0,.int .i64 b1])=some (.bool !(a0==b0 && (a1==b1 && true))):=by kernel_rfl
theorem Try.eql75(y:Operand)(a0 b0:Int)(a1 b1:Int):zaH Try.prog .eql 75 y (.agg #[.int .i64 a0,.int .i64 a1]) (.agg #[.int .i64 b0,.int .i64 b1])=some (.bool (a0==b0 && (a1==b1 && true))):=by kernel_rfl
theorem Try.neq75(y:Operand)(a0 b0:Int)(a1 b1:Int):zaH Try.prog .neq 75 y (.agg #[.int .i64 a0,.int .i64 a1]) (.agg #[.int .i64 b0,.int .i64 b1])=some (.bool !(a0==b0 && (a1==b1 && true))):=by kernel_rfl
theorem Try.eql92(y:Operand)(a0 b0:Int)(a1 b1:Int)(a2 b2:Int)(a3 b3:Int):zaH Try.prog .eql 92 y (.agg #[.int .u8 a0,.int .i64 a1,.int .u64 a2,.int .u64 a3]) (.agg #[.int .u8 b0,.int .i64 b1,.int .u64 b2,.int .u64 b3])=some (.bool (a0==b0 && (a1==b1 && (a2==b2 && (a3==b3 && true))))):=by kernel_rfl
theorem Try.neq92(y:Operand)(a0 b0:Int)(a1 b1:Int)(a2 b2:Int)(a3 b3:Int):zaH Try.prog .neq 92 y (.agg #[.int .u8 a0,.int .i64 a1,.int .u64 a2,.int .u64 a3]) (.agg #[.int .u8 b0,.int .i64 b1,.int .u64 b2,.int .u64 b3])=some (.bool !(a0==b0 && (a1==b1 && (a2==b2 && (a3==b3 && true))))):=by kernel_rfl
theorem Try.eql93(y:Operand)(a0 b0:Int)(a1 b1:Int)(a2 b2:Int)(a3 b3:Int):zaH Try.prog .eql 93 y (.agg #[.int .u8 a0,.int .i64 a1,.int .u64 a2,.int .u64 a3]) (.agg #[.int .u8 b0,.int .i64 b1,.int .u64 b2,.int .u64 b3])=some (.bool (a0==b0 && (a1==b1 && (a2==b2 && (a3==b3 && true))))):=by kernel_rfl
theorem Try.neq93(y:Operand)(a0 b0:Int)(a1 b1:Int)(a2 b2:Int)(a3 b3:Int):zaH Try.prog .neq 93 y (.agg #[.int .u8 a0,.int .i64 a1,.int .u64 a2,.int .u64 a3]) (.agg #[.int .u8 b0,.int .i64 b1,.int .u64 b2,.int .u64 b3])=some (.bool !(a0==b0 && (a1==b1 && (a2==b2 && (a3==b3 && true))))):=by kernel_rfl
theorem Try.ty0 :
  zaI Try.prog 2=some false /\
  zaj Try.prog 2=some 1 /\
  tyMk Try.prog 2=true /\
  zal Try.prog 2=some 8 /\
  zar Try.prog 2=some (.int .i64 0) /\
  zab (.int .i64 0)=true /\
  zaI Try.prog 3=some false /\
  zaj Try.prog 3=some 1 /\
  tyMk Try.prog 3=true /\
  zal Try.prog 3=some 8 /\
  zar Try.prog 3=some (.int .i64 0) /\
  zaI Try.prog 4=some false /\
  zaj Try.prog 4=some 1 /\
  tyMk Try.prog 4=true /\
  zlU Try.prog 4=true /\
  zal Try.prog 4=some 1 /\
  zar Try.prog 4=some (.bool false) /\
  zab (.bool false)=true /\
  zaI Try.prog 5=some false /\
  zaj Try.prog 5=some 1 /\
  tyMk Try.prog 5=true /\
  zal Try.prog 5=some 1 /\
  zar Try.prog 5=some (.int .u8 0) /\
  zab (.int .u8 0)=true:=by(repeat' apply And.intro)<;>kernel_rfl
theorem Try.ty2 :
  zal Try.prog 8=some 24 /\
  zar Try.prog 8=some (.agg #[.int .i64 0,.int .i64 0,.bool false,.int .u8 0]) /\
  zaI Try.prog 9=some false /\
  zaj Try.prog 9=some 1 /\
  tyMk Try.prog 9=true /\
  zal Try.prog 9=some 16 /\
  zar Try.prog 9=some (.string ⟨#[]⟩) /\
  zab (.string ⟨#[]⟩)=true /\
  zaI Try.prog 10=some false /\
  zaj Try.prog 10=some 1 /\
  zal Try.prog 10=some 16 /\
  zar Try.prog 10=some (.string ⟨#[]⟩) /\
  zaI Try.prog 11=some false /\
  zaj Try.prog 11=some 1 /\
  zal Try.prog 11=some 16 /\
  zar Try.prog 11=some (.string ⟨#[]⟩) /\
  zaI Try.prog 12=some false /\
  zaj Try.prog 12=some 1 /\
  tyMk Try.prog 12=true /\
  zal Try.prog 12=some 8 /\
  zar Try.prog 12=some (.int .u64 0) /\
  zab (.int .u64 0)=true /\
  zaI Try.prog 13=some true /\
  zaj Try.prog 13=some 2:=by(repeat' apply And.intro)<;>kernel_rfl
theorem Try.ty3 :
  zah Try.prog 13 0=some (0,9) /\
  zah Try.prog 13 1=some (1,12) /\
  (zaO Try.prog 13=some fun i=>([(0,1),(1,1)]:List (Nat×Nat))[i]?) /\
  tyMk Try.prog 13=true /\
  zal Try.prog 13=some 24 /\
  zar Try.prog 13=some (.agg #[.string ⟨#[]⟩,.int .u64 0]) /\
  zab (.agg #[.string ⟨#[]⟩,.int .u64 0])=true /\
  zaI Try.prog 14=some true /\
  zaj Try.prog 14=some 2 /\
  zah Try.prog 14 0=some (0,9) /\
  zah Try.prog 14 1=some (1,12) /\
  (zaO Try.prog 14=some fun i=>([(0,1),(1,1)]:List (Nat×Nat))[i]?) /\
  tyMk Try.prog 14=true /\
  zal Try.prog 14=some 24 /\
  zar Try.prog 14=some (.agg #[.string ⟨#[]⟩,.int .u64 0]) /\
  zaI Try.prog 15=some false /\
  zaj Try.prog 15=some 1 /\
  tyMk Try.prog 15=true /\
  zfr Try.prog 15=true /\
  zal Try.prog 15=some 8 /\
  zar Try.prog 15=some (.pointer none) /\
  zab (.pointer none)=true /\
  zbd Try.prog 15 "Error" = some 58 ∧
  zbd Try.prog 15 "RuntimeError" = some 59 := by (repeat' apply And.intro) <;> kernel_rfl
theorem Try.ty5 :
  zaj Try.prog 19=some 1 /\
  zah Try.prog 19 0=some (0,17) /\
  (zaO Try.prog 19=some fun i=>([(0,1)]:List (Nat×Nat))[i]?) /\
  tyMk Try.prog 19=true /\
  zal Try.prog 19=some 8 /\
  zar Try.prog 19=some (.agg #[.pointer none]) /\
  zaI Try.prog 20=some false /\
  zaj Try.prog 20=some 1 /\
  zrJ Try.prog 20=true /\
  zal Try.prog 20=some 16 /\
  zar Try.prog 20=some (.nilIface) /\
  zab (.nilIface)=true /\
  zaI Try.prog 21=some false /\
  zaj Try.prog 21=some 1 /\
  tyMk Try.prog 21=true /\
  zal Try.prog 21=some 4 /\
  zar Try.prog 21=some (.int .i32 0) /\
  zab (.int .i32 0)=true /\
  zaI Try.prog 22=some false /\
  zaj Try.prog 22=some 1 /\
  zjS Try.prog 22=true /\
  zal Try.prog 22=some 24 /\
  za2 Try.prog 22=some 25 /\
  zar Try.prog 22=some (.slice none 0 0):=by(repeat' apply And.intro)<;>kernel_rfl
theorem Try.ty6 :
  zab (.slice none 0 0)=true /\
  zaI Try.prog 23=some false /\
  zaj Try.prog 23=some 1 /\
  zjS Try.prog 23=true /\
  zal Try.prog 23=some 24 /\
  za2 Try.prog 23=some 5 /\
  zar Try.prog 23=some (.slice none 0 0) /\
  zaI Try.prog 25=some false /\
  zaj Try.prog 25=some 1 /\
  zjS Try.prog 25=true /\
  zal Try.prog 25=some 24 /\
  za2 Try.prog 25=some 38 /\
  zar Try.prog 25=some (.slice none 0 0) /\
  zaI Try.prog 26=some true /\
  zaj Try.prog 26=some 20 /\
  (zaO Try.prog 26=some fun i=>some (i * 1,1)) /\
  zal Try.prog 26=some 160 /\
  zdN Try.prog 26=some (20,3) /\
  zar Try.prog 26=some (.agg #[.int .i64 0,.int .i64 0,.int .i64 0,.int .i64 0,.int .i64 0,.int .i64 0,.int .i64 0,.int .i64 0,.int .i64 0,.int .i64 0,.int .i64 0,.int .i64 0,.int .i64 0,.int .i64 0,.int .i64 0,.int .i64 0,.int .i64 0,.int .i64 0,.int .i64 0,.int .i64 0]) /\
  zab (.agg #[.int .i64 0,.int .i64 0,.int .i64 0,.int .i64 0,.int .i64 0,.int .i64 0,.int .i64 0,.int .i64 0,.int .i64 0,.int .i64 0,.int .i64 0,.int .i64 0,.int .i64 0,.int .i64 0,.int .i64 0,.int .i64 0,.int .i64 0,.int .i64 0,.int .i64 0,.int .i64 0])=true /\
  zaI Try.prog 27=some true /\
  zaj Try.prog 27=some 22 /\
  zah Try.prog 27 0=some (0,3) /\
  zah Try.prog 27 1=some (1,3):=by(repeat' apply And.intro)<;>kernel_rfl
theorem Try.ty7 :
  zah Try.prog 27 2=some (2,26) /\
  (zaO Try.prog 27=some fun i=>([(0,1),(1,1),(2,20)]:List (Nat×Nat))[i]?) /\
  tyMk Try.prog 27=true /\
  zal Try.prog 27=some 176 /\
  zar Try.prog 27=some (.agg #[.int .i64 0,.int .i64 0,.int .i64 0,.int .i64 0,.int .i64 0,.int .i64 0,.int .i64 0,.int .i64 0,.int .i64 0,.int .i64 0,.int .i64 0,.int .i64 0,.int .i64 0,.int .i64 0,.int .i64 0,.int .i64 0,.int .i64 0,.int .i64 0,.int .i64 0,.int .i64 0,.int .i64 0,.int .i64 0]) /\
  zab (.agg #[.int .i64 0,.int .i64 0,.int .i64 0,.int .i64 0,.int .i64 0,.int .i64 0,.int .i64 0,.int .i64 0,.int .i64 0,.int .i64 0,.int .i64 0,.int .i64 0,.int .i64 0,.int .i64 0,.int .i64 0,.int .i64 0,.int .i64 0,.int .i64 0,.int .i64 0,.int .i64 0,.int .i64 0,.int .i64 0])=true /\
  zaI Try.prog 28=some true /\
  zaj Try.prog 28=some 22 /\
  zah Try.prog 28 0=some (0,3) /\
  zah Try.prog 28 1=some (1,3) /\
  zah Try.prog 28 2=some (2,26) /\
  (zaO Try.prog 28=some fun i=>([(0,1),(1,1),(2,20)]:List (Nat×Nat))[i]?) /\
  tyMk Try.prog 28=true /\
  zal Try.prog 28=some 176 /\
  zar Try.prog 28=some (.agg #[.int .i64 0,.int .i64 0,.int .i64 0,.int .i64 0,.int .i64 0,.int .i64 0,.int .i64 0,.int .i64 0,.int .i64 0,.int .i64 0,.int .i64 0,.int .i64 0,.int .i64 0,.int .i64 0,.int .i64 0,.int .i64 0,.int .i64 0,.int .i64 0,.int .i64 0,.int .i64 0,.int .i64 0,.int .i64 0]) /\
  zaI Try.prog 29=some false /\
  zaj Try.prog 29=some 1 /\
  tyMk Try.prog 29=true /\
  zfr Try.prog 29=true /\
  zal Try.prog 29=some 8 /\
  zar Try.prog 29=some (.pointer none) /\
  zbd Try.prog 29 "Bytes" = some 45 ∧
  zbd Try.prog 29 "Do" = some 39 ∧
  zbd Try.prog 29 "Word" = some 31 := by (repeat' apply And.intro) <;> kernel_rfl
theorem Try.ty8 :
  zbd Try.prog 29 "Words" = some 43 ∧
  zaI Try.prog 32=some false /\
  zaj Try.prog 32=some 1 /\
  zjS Try.prog 32=true /\
  zal Try.prog 32=some 24 /\
  za2 Try.prog 32=some 39 /\
  zar Try.prog 32=some (.slice none 0 0) /\
  zaI Try.prog 33=some false /\
  zaj Try.prog 33=some 1 /\
  zrJ Try.prog 33=true /\
  zal Try.prog 33=some 16 /\
  zar Try.prog 33=some (.nilIface) /\
  zaI Try.prog 34=some false /\
  zaj Try.prog 34=some 1 /\
  zrJ Try.prog 34=true /\
  zal Try.prog 34=some 16 /\
  zar Try.prog 34=some (.nilIface) /\
  zaI Try.prog 37=some true /\
  zaj Try.prog 37=some 3 /\
  zah Try.prog 37 0=some (0,5) /\
  zah Try.prog 37 1=some (1,3) /\
  zah Try.prog 37 2=some (2,3) /\
  (zaO Try.prog 37=some fun i=>([(0,1),(1,1),(2,1)]:List (Nat×Nat))[i]?) /\
  tyMk Try.prog 37=true:=by(repeat' apply And.intro)<;>kernel_rfl
theorem Try.ty9 :
  zal Try.prog 37=some 24 /\
  zar Try.prog 37=some (.agg #[.int .u8 0,.int .i64 0,.int .i64 0]) /\
  zab (.agg #[.int .u8 0,.int .i64 0,.int .i64 0])=true /\
  zaI Try.prog 38=some true /\
  zaj Try.prog 38=some 3 /\
  zah Try.prog 38 0=some (0,5) /\
  zah Try.prog 38 1=some (1,3) /\
  zah Try.prog 38 2=some (2,3) /\
  (zaO Try.prog 38=some fun i=>([(0,1),(1,1),(2,1)]:List (Nat×Nat))[i]?) /\
  tyMk Try.prog 38=true /\
  zal Try.prog 38=some 24 /\
  zar Try.prog 38=some (.agg #[.int .u8 0,.int .i64 0,.int .i64 0]) /\
  zaI Try.prog 41=some false /\
  zaj Try.prog 41=some 1 /\
  tyMk Try.prog 41=true /\
  zfr Try.prog 41=true /\
  zal Try.prog 41=some 8 /\
  zar Try.prog 41=some (.pointer none) /\
  zbd Try.prog 41 "Add" = some 66 ∧
  zbd Try.prog 41 "CAS" = some 67 ∧
  zbd Try.prog 41 "Fresh" = some 68 ∧
  zbd Try.prog 41 "Get" = some 69 ∧
  zbd Try.prog 41 "Load" = some 70 ∧
  zbd Try.prog 41 "Put" = some 71 := by (repeat' apply And.intro) <;> kernel_rfl
theorem Try.ty10 :
  zbd Try.prog 41 "Self" = some 72 ∧
  zbd Try.prog 41 "Steps" = some 20 ∧
  zbd Try.prog 41 "Store" = some 73 ∧
  zbd Try.prog 41 "Tell" = some 74 ∧
  zaI Try.prog 43=some false /\
  zaj Try.prog 43=some 1 /\
  tyMk Try.prog 43=true /\
  zal Try.prog 43=some 8 /\
  zar Try.prog 43=some (.int .u64 0) /\
  zaI Try.prog 44=some true /\
  zaj Try.prog 44=some 5 /\
  zah Try.prog 44 0=some (0,43) /\
  zah Try.prog 44 1=some (1,43) /\
  zah Try.prog 44 2=some (2,43) /\
  zah Try.prog 44 3=some (3,43) /\
  zah Try.prog 44 4=some (4,43) /\
  (zaO Try.prog 44=some fun i=>([(0,1),(1,1),(2,1),(3,1),(4,1)]:List (Nat×Nat))[i]?) /\
  tyMk Try.prog 44=true /\
  zal Try.prog 44=some 40 /\
  zar Try.prog 44=some (.agg #[.int .u64 0,.int .u64 0,.int .u64 0,.int .u64 0,.int .u64 0]) /\
  zab (.agg #[.int .u64 0,.int .u64 0,.int .u64 0,.int .u64 0,.int .u64 0])=true /\
  zaI Try.prog 45=some true /\
  zaj Try.prog 45=some 5 /\
  zah Try.prog 45 0=some (0,43):=by(repeat' apply And.intro)<;>kernel_rfl
theorem Try.ty11 :
  zah Try.prog 45 1=some (1,43) /\
  zah Try.prog 45 2=some (2,43) /\
  zah Try.prog 45 3=some (3,43) /\
  zah Try.prog 45 4=some (4,43) /\
  (zaO Try.prog 45=some fun i=>([(0,1),(1,1),(2,1),(3,1),(4,1)]:List (Nat×Nat))[i]?) /\
  tyMk Try.prog 45=true /\
  zal Try.prog 45=some 40 /\
  zar Try.prog 45=some (.agg #[.int .u64 0,.int .u64 0,.int .u64 0,.int .u64 0,.int .u64 0]) /\
  zaI Try.prog 55=some false /\
  zaj Try.prog 55=some 1 /\
  tyMk Try.prog 55=true /\
  zal Try.prog 55=some 8 /\
  zar Try.prog 55=some (.int .i64 0) /\
  zaI Try.prog 58=some false /\
  zaj Try.prog 58=some 1 /\
  zjS Try.prog 58=true /\
  zal Try.prog 58=some 24 /\
  za2 Try.prog 58=some 59 /\
  zar Try.prog 58=some (.slice none 0 0) /\
  zaI Try.prog 59=some false /\
  zaj Try.prog 59=some 1 /\
  tyMk Try.prog 59=true /\
  zfr Try.prog 59=true /\
  zal Try.prog 59=some 8:=by(repeat' apply And.intro)<;>kernel_rfl
theorem Try.ty12 :
  zar Try.prog 59=some (.pointer none) /\
  zbd Try.prog 59 "Busy" = some 28 ∧
  zbd Try.prog 59 "Close" = some 29 ∧
  zbd Try.prog 59 "Grant" = some 40 ∧
  zbd Try.prog 59 "Pending" = some 38 ∧
  zbd Try.prog 59 "Start" = some 26 ∧
  zbd Try.prog 59 "Steps" = some 76 ∧
  zaI Try.prog 63=some false /\
  zaj Try.prog 63=some 1 /\
  tyMk Try.prog 63=true /\
  zfr Try.prog 63=true /\
  zal Try.prog 63=some 8 /\
  zar Try.prog 63=some (.pointer none) /\
  zaI Try.prog 64=some true /\
  zaj Try.prog 64=some 2 /\
  zah Try.prog 64 0=some (0,29) /\
  zah Try.prog 64 1=some (1,3) /\
  (zaO Try.prog 64=some fun i=>([(0,1),(1,1)]:List (Nat×Nat))[i]?) /\
  tyMk Try.prog 64=true /\
  zal Try.prog 64=some 16 /\
  zar Try.prog 64=some (.agg #[.pointer none,.int .i64 0]) /\
  zab (.agg #[.pointer none,.int .i64 0])=true /\
  zaI Try.prog 65=some true /\
  zaj Try.prog 65=some 2:=by(repeat' apply And.intro)<;>kernel_rfl
theorem Try.ty13 :
  zah Try.prog 65 0=some (0,29) /\
  zah Try.prog 65 1=some (1,3) /\
  (zaO Try.prog 65=some fun i=>([(0,1),(1,1)]:List (Nat×Nat))[i]?) /\
  tyMk Try.prog 65=true /\
  zal Try.prog 65=some 16 /\
  zar Try.prog 65=some (.agg #[.pointer none,.int .i64 0]) /\
  zaI Try.prog 66=some false /\
  zaj Try.prog 66=some 1 /\
  tyMk Try.prog 66=true /\
  zfr Try.prog 66=true /\
  zal Try.prog 66=some 8 /\
  zar Try.prog 66=some (.pointer none) /\
  zaI Try.prog 67=some true /\
  zaj Try.prog 67=some 3 /\
  zah Try.prog 67 0=some (0,63) /\
  zah Try.prog 67 1=some (1,3) /\
  zah Try.prog 67 2=some (2,66) /\
  (zaO Try.prog 67=some fun i=>([(0,1),(1,1),(2,1)]:List (Nat×Nat))[i]?) /\
  tyMk Try.prog 67=true /\
  zal Try.prog 67=some 24 /\
  zar Try.prog 67=some (.agg #[.pointer none,.int .i64 0,.pointer none]) /\
  zab (.agg #[.pointer none,.int .i64 0,.pointer none])=true /\
  zaI Try.prog 68=some true /\
  zaj Try.prog 68=some 3:=by(repeat' apply And.intro)<;>kernel_rfl
theorem Try.ty14 :
  zah Try.prog 68 0=some (0,63) /\
  zah Try.prog 68 1=some (1,3) /\
  zah Try.prog 68 2=some (2,66) /\
  (zaO Try.prog 68=some fun i=>([(0,1),(1,1),(2,1)]:List (Nat×Nat))[i]?) /\
  tyMk Try.prog 68=true /\
  zal Try.prog 68=some 24 /\
  zar Try.prog 68=some (.agg #[.pointer none,.int .i64 0,.pointer none]) /\
  zaI Try.prog 69=some false /\
  zaj Try.prog 69=some 1 /\
  tyMk Try.prog 69=true /\
  zfr Try.prog 69=true /\
  zal Try.prog 69=some 8 /\
  zar Try.prog 69=some (.pointer none) /\
  zaI Try.prog 70=some false /\
  zaj Try.prog 70=some 1 /\
  zjS Try.prog 70=true /\
  zal Try.prog 70=some 24 /\
  za2 Try.prog 70=some 69 /\
  zar Try.prog 70=some (.slice none 0 0) /\
  zaI Try.prog 74=some true /\
  zaj Try.prog 74=some 2 /\
  zah Try.prog 74 0=some (0,3) /\
  zah Try.prog 74 1=some (1,3) /\
  (zaO Try.prog 74=some fun i=>([(0,1),(1,1)]:List (Nat×Nat))[i]?):=by(repeat' apply And.intro)<;>kernel_rfl
theorem Try.ty15 :
  tyMk Try.prog 74=true /\
  zal Try.prog 74=some 16 /\
  zar Try.prog 74=some (.agg #[.int .i64 0,.int .i64 0]) /\
  zab (.agg #[.int .i64 0,.int .i64 0])=true /\
  zaI Try.prog 75=some true /\
  zaj Try.prog 75=some 2 /\
  zah Try.prog 75 0=some (0,3) /\
  zah Try.prog 75 1=some (1,3) /\
  (zaO Try.prog 75=some fun i=>([(0,1),(1,1)]:List (Nat×Nat))[i]?) /\
  tyMk Try.prog 75=true /\
  zal Try.prog 75=some 16 /\
  zar Try.prog 75=some (.agg #[.int .i64 0,.int .i64 0]) /\
  zaI Try.prog 77=some true /\
  zaj Try.prog 77=some 19 /\
  (zaO Try.prog 77=some fun i=>some (i * 1,1)) /\
  zal Try.prog 77=some 152 /\
  zdN Try.prog 77=some (19,3) /\
  zar Try.prog 77=some (.agg #[.int .i64 0,.int .i64 0,.int .i64 0,.int .i64 0,.int .i64 0,.int .i64 0,.int .i64 0,.int .i64 0,.int .i64 0,.int .i64 0,.int .i64 0,.int .i64 0,.int .i64 0,.int .i64 0,.int .i64 0,.int .i64 0,.int .i64 0,.int .i64 0,.int .i64 0]) /\
  zab (.agg #[.int .i64 0,.int .i64 0,.int .i64 0,.int .i64 0,.int .i64 0,.int .i64 0,.int .i64 0,.int .i64 0,.int .i64 0,.int .i64 0,.int .i64 0,.int .i64 0,.int .i64 0,.int .i64 0,.int .i64 0,.int .i64 0,.int .i64 0,.int .i64 0,.int .i64 0])=true /\
  zaI Try.prog 78=some false /\
  zaj Try.prog 78=some 1 /\
  zjS Try.prog 78=true /\
  zal Try.prog 78=some 24 /\
  za2 Try.prog 78=some 43:=by(repeat' apply And.intro)<;>kernel_rfl
theorem Try.ty16 :
  zar Try.prog 78=some (.slice none 0 0) /\
  zaI Try.prog 79=some true /\
  zaj Try.prog 79=some 2 /\
  zah Try.prog 79 0=some (0,78) /\
  zah Try.prog 79 1=some (1,23) /\
  (zaO Try.prog 79=some fun i=>([(0,1),(1,1)]:List (Nat×Nat))[i]?) /\
  tyMk Try.prog 79=true /\
  zal Try.prog 79=some 48 /\
  zar Try.prog 79=some (.agg #[.slice none 0 0,.slice none 0 0]) /\
  zab (.agg #[.slice none 0 0,.slice none 0 0])=true /\
  zaI Try.prog 80=some true /\
  zaj Try.prog 80=some 2 /\
  zah Try.prog 80 0=some (0,78) /\
  zah Try.prog 80 1=some (1,23) /\
  (zaO Try.prog 80=some fun i=>([(0,1),(1,1)]:List (Nat×Nat))[i]?) /\
  tyMk Try.prog 80=true /\
  zal Try.prog 80=some 48 /\
  zar Try.prog 80=some (.agg #[.slice none 0 0,.slice none 0 0]) /\
  zaI Try.prog 81=some false /\
  zaj Try.prog 81=some 1 /\
  zal Try.prog 81=some 8 /\
  zaI Try.prog 82=some false /\
  zaj Try.prog 82=some 1 /\
  tyMk Try.prog 82=true:=by(repeat' apply And.intro)<;>kernel_rfl
theorem Try.ty17 :
  zfr Try.prog 82=true /\
  zal Try.prog 82=some 8 /\
  zar Try.prog 82=some (.pointer none) /\
  zbd Try.prog 82 "Add" = some 77 ∧
  zbd Try.prog 82 "CAS" = some 78 ∧
  zbd Try.prog 82 "Get" = some 79 ∧
  zbd Try.prog 82 "Load" = some 80 ∧
  zbd Try.prog 82 "Put" = some 81 ∧
  zbd Try.prog 82 "Self" = some 82 ∧
  zbd Try.prog 82 "Steps" = some 83 ∧
  zbd Try.prog 82 "Store" = some 84 ∧
  zbd Try.prog 82 "Tell" = some 85 ∧
  zaI Try.prog 83=some false /\
  zaj Try.prog 83=some 1 /\
  zal Try.prog 83=some 8 /\
  zaI Try.prog 84=some false /\
  zaj Try.prog 84=some 1 /\
  tyMk Try.prog 84=true /\
  zfr Try.prog 84=true /\
  zal Try.prog 84=some 8 /\
  zar Try.prog 84=some (.pointer none) /\
  zaI Try.prog 85=some true /\
  zaj Try.prog 85=some 7 /\
  zah Try.prog 85 0=some (0,3):=by(repeat' apply And.intro)<;>kernel_rfl
theorem Try.ty18 :
  zah Try.prog 85 1=some (1,82) /\
  zah Try.prog 85 2=some (2,83) /\
  zah Try.prog 85 3=some (3,84) /\
  zah Try.prog 85 4=some (4,4) /\
  zah Try.prog 85 5=some (5,4) /\
  zah Try.prog 85 6=some (6,81) /\
  (zaO Try.prog 85=some fun i=>([(0,1),(1,1),(2,1),(3,1),(4,1),(5,1),(6,1)]:List (Nat×Nat))[i]?) /\
  tyMk Try.prog 85=true /\
  zal Try.prog 85=some 48 /\
  zaI Try.prog 86=some true /\
  zaj Try.prog 86=some 7 /\
  zah Try.prog 86 0=some (0,3) /\
  zah Try.prog 86 1=some (1,82) /\
  zah Try.prog 86 2=some (2,83) /\
  zah Try.prog 86 3=some (3,84) /\
  zah Try.prog 86 4=some (4,4) /\
  zah Try.prog 86 5=some (5,4) /\
  zah Try.prog 86 6=some (6,81) /\
  (zaO Try.prog 86=some fun i=>([(0,1),(1,1),(2,1),(3,1),(4,1),(5,1),(6,1)]:List (Nat×Nat))[i]?) /\
  tyMk Try.prog 86=true /\
  zal Try.prog 86=some 48 /\
  zaI Try.prog 87=some false /\
  zaj Try.prog 87=some 1 /\
  zal Try.prog 87=some 8:=by(repeat' apply And.intro)<;>kernel_rfl
theorem Try.ty19 :
  zaI Try.prog 88=some false /\
  zaj Try.prog 88=some 1 /\
  zal Try.prog 88=some 8 /\
  zaI Try.prog 89=some true /\
  zaj Try.prog 89=some 6 /\
  zah Try.prog 89 0=some (0,3) /\
  zah Try.prog 89 1=some (1,3) /\
  zah Try.prog 89 2=some (2,66) /\
  zah Try.prog 89 3=some (3,87) /\
  zah Try.prog 89 4=some (4,88) /\
  zah Try.prog 89 5=some (5,81) /\
  (zaO Try.prog 89=some fun i=>([(0,1),(1,1),(2,1),(3,1),(4,1),(5,1)]:List (Nat×Nat))[i]?) /\
  tyMk Try.prog 89=true /\
  zal Try.prog 89=some 48 /\
  zaI Try.prog 90=some true /\
  zaj Try.prog 90=some 6 /\
  zah Try.prog 90 0=some (0,3) /\
  zah Try.prog 90 1=some (1,3) /\
  zah Try.prog 90 2=some (2,66) /\
  zah Try.prog 90 3=some (3,87) /\
  zah Try.prog 90 4=some (4,88) /\
  zah Try.prog 90 5=some (5,81) /\
  (zaO Try.prog 90=some fun i=>([(0,1),(1,1),(2,1),(3,1),(4,1),(5,1)]:List (Nat×Nat))[i]?) /\
  tyMk Try.prog 90=true:=by(repeat' apply And.intro)<;>kernel_rfl
theorem Try.ty20 :
  zal Try.prog 90=some 48 /\
  zaI Try.prog 92=some true /\
  zaj Try.prog 92=some 4 /\
  zah Try.prog 92 0=some (0,5) /\
  zah Try.prog 92 1=some (1,3) /\
  zah Try.prog 92 2=some (2,43) /\
  zah Try.prog 92 3=some (3,43) /\
  (zaO Try.prog 92=some fun i=>([(0,1),(1,1),(2,1),(3,1)]:List (Nat×Nat))[i]?) /\
  tyMk Try.prog 92=true /\
  zal Try.prog 92=some 32 /\
  zar Try.prog 92=some (.agg #[.int .u8 0,.int .i64 0,.int .u64 0,.int .u64 0]) /\
  zab (.agg #[.int .u8 0,.int .i64 0,.int .u64 0,.int .u64 0])=true /\
  zaI Try.prog 93=some true /\
  zaj Try.prog 93=some 4 /\
  zah Try.prog 93 0=some (0,5) /\
  zah Try.prog 93 1=some (1,3) /\
  zah Try.prog 93 2=some (2,43) /\
  zah Try.prog 93 3=some (3,43) /\
  (zaO Try.prog 93=some fun i=>([(0,1),(1,1),(2,1),(3,1)]:List (Nat×Nat))[i]?) /\
  tyMk Try.prog 93=true /\
  zal Try.prog 93=some 32 /\
  zar Try.prog 93=some (.agg #[.int .u8 0,.int .i64 0,.int .u64 0,.int .u64 0]) /\
  zaI Try.prog 100=some false /\
  zaj Try.prog 100=some 1:=by(repeat' apply And.intro)<;>kernel_rfl
theorem Try.ty21 :
  zjS Try.prog 100=true /\
  zal Try.prog 100=some 24 /\
  za2 Try.prog 100=some 75 /\
  zar Try.prog 100=some (.slice none 0 0) /\
  zaI Try.prog 102=some false /\
  zaj Try.prog 102=some 1 /\
  zal Try.prog 102=some 8 /\
  zaI Try.prog 103=some true /\
  zaj Try.prog 103=some 0 /\
  (zaO Try.prog 103=some fun i=>([]:List (Nat×Nat))[i]?) /\
  tyMk Try.prog 103=true /\
  zal Try.prog 103=some 0 /\
  zar Try.prog 103=some (.agg #[]) /\
  zab (.agg #[])=true /\
  zaI Try.prog 104=some true /\
  zaj Try.prog 104=some 0 /\
  (zaO Try.prog 104=some fun i=>([]:List (Nat×Nat))[i]?) /\
  tyMk Try.prog 104=true /\
  zal Try.prog 104=some 0 /\
  zar Try.prog 104=some (.agg #[]) /\
  zaI Try.prog 109=some true /\
  zaj Try.prog 109=some 5 /\
  (zaO Try.prog 109=some fun i=>some (i * 1,1)) /\
  zal Try.prog 109=some 40:=by(repeat' apply And.intro)<;>kernel_rfl
theorem Try.ty22 :
  zdN Try.prog 109=some (5,108) /\
  zar Try.prog 109=some (.agg #[.nilFunc,.nilFunc,.nilFunc,.nilFunc,.nilFunc]) /\
  zab (.agg #[.nilFunc,.nilFunc,.nilFunc,.nilFunc,.nilFunc])=true /\
  zaI Try.prog 112=some true /\
  zaj Try.prog 112=some 4 /\
  zah Try.prog 112 0=some (0,17) /\
  zah Try.prog 112 1=some (1,17) /\
  zah Try.prog 112 2=some (2,17) /\
  zah Try.prog 112 3=some (3,9) /\
  (zaO Try.prog 112=some fun i=>([(0,1),(1,1),(2,1),(3,1)]:List (Nat×Nat))[i]?) /\
  tyMk Try.prog 112=true /\
  zal Try.prog 112=some 40 /\
  zar Try.prog 112=some (.agg #[.pointer none,.pointer none,.pointer none,.string ⟨#[]⟩]) /\
  zab (.agg #[.pointer none,.pointer none,.pointer none,.string ⟨#[]⟩])=true /\
  zaI Try.prog 113=some true /\
  zaj Try.prog 113=some 4 /\
  zah Try.prog 113 0=some (0,17) /\
  zah Try.prog 113 1=some (1,17) /\
  zah Try.prog 113 2=some (2,17) /\
  zah Try.prog 113 3=some (3,9) /\
  (zaO Try.prog 113=some fun i=>([(0,1),(1,1),(2,1),(3,1)]:List (Nat×Nat))[i]?) /\
  tyMk Try.prog 113=true /\
  zal Try.prog 113=some 40 /\
  zar Try.prog 113=some (.agg #[.pointer none,.pointer none,.pointer none,.string ⟨#[]⟩]):=by(repeat' apply And.intro)<;>kernel_rfl
theorem Try.ty27 :
  (zaO Try.prog 132=some fun i=>([(0,1),(1,1),(2,1),(3,5),(8,1),(9,1),(10,1)]:List (Nat×Nat))[i]?) /\
  tyMk Try.prog 132=true /\
  zal Try.prog 132=some 88 /\
  zar Try.prog 132=some (.agg #[.int .i64 0,.int .i64 0,.int .u8 0,.int .u64 0,.int .u64 0,.int .u64 0,.int .u64 0,.int .u64 0,.int .i64 0,.int .i64 0,.int .i64 0]) /\
  zab (.agg #[.int .i64 0,.int .i64 0,.int .u8 0,.int .u64 0,.int .u64 0,.int .u64 0,.int .u64 0,.int .u64 0,.int .i64 0,.int .i64 0,.int .i64 0])=true /\
  zaI Try.prog 133=some true /\
  zaj Try.prog 133=some 11 /\
  zah Try.prog 133 0=some (0,3) /\
  zah Try.prog 133 1=some (1,3) /\
  zah Try.prog 133 2=some (2,5) /\
  zah Try.prog 133 3=some (3,45) /\
  zah Try.prog 133 4=some (8,55) /\
  zah Try.prog 133 5=some (9,3) /\
  zah Try.prog 133 6=some (10,3) /\
  (zaO Try.prog 133=some fun i=>([(0,1),(1,1),(2,1),(3,5),(8,1),(9,1),(10,1)]:List (Nat×Nat))[i]?) /\
  tyMk Try.prog 133=true /\
  zal Try.prog 133=some 88 /\
  zar Try.prog 133=some (.agg #[.int .i64 0,.int .i64 0,.int .u8 0,.int .u64 0,.int .u64 0,.int .u64 0,.int .u64 0,.int .u64 0,.int .i64 0,.int .i64 0,.int .i64 0]) /\
  zaI Try.prog 135=some false /\
  zaj Try.prog 135=some 1 /\
  zal Try.prog 135=some 8 /\
  zar Try.prog 135=some (.pointer none) /\
  zha Try.prog 3 43=some .u64 /\
  zha Try.prog 5 3=some .i64:=by(repeat' apply And.intro)<;>kernel_rfl
theorem Try.ty28 :
  zha Try.prog 5 43=some .u64 /\
  zha Try.prog 43 5=some .u8 /\
  fnOK Try.prog 2=true /\
  fnOK Try.prog 3=true /\
  fnOK Try.prog 4=true /\
  fnOK Try.prog 5=true /\
  fnOK Try.prog 6=true /\
  fnOK Try.prog 7=true /\
  fnOK Try.prog 8=true /\
  fnOK Try.prog 9=true /\
  fnOK Try.prog 10=true /\
  fnOK Try.prog 11=true /\
  fnOK Try.prog 12=true /\
  fnOK Try.prog 13=true /\
  fnOK Try.prog 14=true /\
  fnOK Try.prog 15=true /\
  fnOK Try.prog 16=true /\
  fnOK Try.prog 17=true /\
  fnOK Try.prog 18=true /\
  fnOK Try.prog 19=true /\
  fnOK Try.prog 20=true /\
  fnOK Try.prog 21=true /\
  fnOK Try.prog 22=true /\
  fnOK Try.prog 23=true:=by(repeat' apply And.intro)<;>kernel_rfl
theorem Try.ty29 :
  fnOK Try.prog 24=true /\
  fnOK Try.prog 25=true /\
  fnOK Try.prog 26=true /\
  fnOK Try.prog 27=true /\
  fnOK Try.prog 28=true /\
  fnOK Try.prog 29=true /\
  fnOK Try.prog 30=true /\
  fnOK Try.prog 31=true /\
  fnOK Try.prog 32=true /\
  fnOK Try.prog 33=true /\
  fnOK Try.prog 34=true /\
  fnOK Try.prog 35=true /\
  fnOK Try.prog 36=true /\
  fnOK Try.prog 37=true /\
  fnOK Try.prog 38=true /\
  fnOK Try.prog 39=true /\
  fnOK Try.prog 40=true /\
  fnOK Try.prog 41=true /\
  fnOK Try.prog 42=true /\
  fnOK Try.prog 43=true /\
  fnOK Try.prog 44=true /\
  fnOK Try.prog 45=true /\
  fnOK Try.prog 46=true /\
  fnOK Try.prog 47=true:=by(repeat' apply And.intro)<;>kernel_rfl
theorem Try.ty30 :
  fnOK Try.prog 48=true /\
  fnOK Try.prog 49=true /\
  fnOK Try.prog 66=true /\
  fnOK Try.prog 70=true /\
  fnOK Try.prog 72=true /\
  fnOK Try.prog 75=true /\
  fnOK Try.prog 77=true /\
  fnOK Try.prog 80=true /\
  fnOK Try.prog 82=true /\
  fnOK Try.prog 86=true:=by(repeat' apply And.intro)<;>kernel_rfl
attribute [go_sem] Try.eql7 Try.neq7 Try.eql8 Try.neq8 Try.eql37 Try.neq37 Try.eql38 Try.neq38 Try.eql44 Try.neq44 Try.eql45 Try.neq45 Try.eql74 Try.neq74 Try.eql75 Try.neq75 Try.eql92 Try.neq92 Try.eql93 Try.neq93 Try.ty0 Try.ty2 Try.ty3 Try.ty5 Try.ty6 Try.ty7 Try.ty8 Try.ty9 Try.ty10 Try.ty11 Try.ty12 Try.ty13 Try.ty14 Try.ty15 Try.ty16 Try.ty17 Try.ty18 Try.ty19 Try.ty20 Try.ty21 Try.ty22 Try.ty27 Try.ty28 Try.ty29 Try.ty30
def upN(ns:List Nat)(nx:Nat)(n:Nat):Nat:=if n<ns.length then ns.getD n 0 else if n<VB then nx+(n - ns.length) else n
def upE(ns:List Nat)(nx:Nat):Emb:=zdf (upN ns nx)
def renB(E:Emb)(b:Blk):Blk:={ b with cells:=b.cells.map (ren E) }
structure Gives (cnt:Nat) (l l' new:List Blk) (ex:List Nat) (R:Nat->Nat) (h1:AHeap) (v0 v:Value):Prop where
  low:∀n,n<l.length->R n=n
  hand:∀n,VB<=n->R n=n
  more:∀(j n:Nat),ex[j]?=some n->l.length<=n/\n<VB/\R n=l.length+j
  nodup:ex.Nodup
  len:ex.length=new.length
  len':l'.length=l.length
  told:v=ren (zdf R) v0
  clo:Clo (fun n=>n<l.length\/n∈ex\/(VB<=n/\n<VB+cnt)) v0
  rows:∀(i:Nat) (b:Blk),l[i]?=some b->b.ro=false->∃b1,h1.get i=some b1/\l'[i]?=some (renB (zdf R) b1)/\b1.ro=false/\∀u∈b1.cells,Clo (fun n=>n<l.length\/n∈ex\/(VB<=n/\n<VB+cnt)) u
  news:∀(j n:Nat),ex[j]?=some n->∃b1,h1.get n=some b1/\new[j]?=some (renB (zdf R) b1)/\b1.ro=false/\∀u∈b1.cells,Clo (fun n=>n<l.length\/n∈ex\/(VB<=n/\n<VB+cnt)) u
variable {l l2:List (Option Blk)}{l' new:List Blk}{h h1:AHeap}{E:Emb}{ns ex:List Nat}{e:Operand->Value}{R:Nat->Nat}
section
variable {P:Program}{σ:Type}{X:Face P σ}
def DoesX(X:Face P σ)(f:FuncId)(args:Array Value)(l:List Blk)(S:σ)(v:Value)(l' new:List Blk)(S':σ):Prop :=
  ∃g c h1 v0 ex R,P.funcs[f]?=some g/\goB g=true/\g.body=some c/\(∀u∈args.toList,Clo (Kn l.length (X.cnt S)) u)/\(∀b∈l,∀u∈b.cells,Clo (Kn l.length (X.cnt S)) u)/\Gives (X.cnt S') l l' new ex R h1 v0 v /\
    Goes X g (fun x=>x=.done v0 h1 S') (.run (zai g c args).1 (zai g c args).2 (zaq (l.map some)) S)
def LendL(h:AHeap)(E:Emb):List Nat->List Blk->Prop
  | [],[]=>True
  | n::ns,b::l=>(∃b0,h.get n=some b0/\b0.elem=b.elem/\b0.cells=b.cells.map (ren E)/\(b.grow=b0.grow\/b.grow=none)/\(b.ro=false->b0.ro=false))/\LendL h E ns l
  | _,_=>False
theorem LendL.spec  :∀{ns:List Nat} {l:List Blk},LendL h E ns l->ns.length=l.length/\∀(i:Nat) (b:Blk),l[i]?=some b->∃n b0,ns[i]?=some n/\h.get n=some b0/\b0.elem=b.elem/\b0.cells=b.cells.map (ren E)/\(b.grow=b0.grow\/b.grow=none)/\(b.ro=false->b0.ro=false)
  | [],[],_=>⟨rfl,fun i b hb=>by simp at hb⟩
  | n::ns,c::l,⟨⟨b0,h0⟩,hr⟩=>by
    obtain⟨h1,h2⟩:=LendL.spec hr;refine⟨by simp[h1],fun i b hb=>?_⟩
    cases i with
    | zero=>simp at hb;subst hb;exact⟨n,b0,by simp,h0⟩
    | succ i=>simp at hb;simpa using h2 i b hb
  | [],_::_,h=>h.elim
  | _::_,[],h=>h.elim
def zdO:List Nat->List Blk->List Blk->Nat->Option Blk
  | n::ns,b::l,b'::l',m=>if n=m/\b.ro=false then some b' else zdO ns l l' m
  | _,_,_,_=>none
theorem zdE:∀{ns:List Nat} {l l':List Blk} {m:Nat} {b':Blk},zdO ns l l' m=some b'->∃(i:Nat) (b:Blk),ns[i]?=some m/\l[i]?=some b/\b.ro=false/\l'[i]?=some b'
  | [],_,_,_,_,h=>by simp[zdO]at h
  | _::_,[],_,_,_,h=>by simp[zdO]at h
  | _::_,_::_,[],_,_,h=>by simp[zdO]at h
  | n::ns,b::l,c::l',m,b',h=>by
    simp only[zdO]at h;split at h
    . rename_i hc;cases h;exact⟨0,b,by simp[hc.1],by simp,hc.2,by simp⟩
    . obtain⟨i,b1,h1,h2,h3,h4⟩:=zdE h;exact⟨i+1,b1,by simpa using h1,by simpa using h2,h3,by simpa using h4⟩
theorem zif:∀{ns:List Nat} {l l':List Blk} {m:Nat},zdO ns l l' m=none->ns.length=l.length->l'.length=l.length->∀(i:Nat) (b:Blk),l[i]?=some b->b.ro=false->ns[i]?≠some m
  | [],[],_,_,_,_,_,i,b,hb,_=>by simp at hb
  | [],_::_,_,_,_,hl,_,_,_,_,_=>by simp at hl
  | _::_,[],_,_,_,hl,_,_,_,_,_=>by simp at hl
  | _::_,_::_,[],_,_,_,hl,_,_,_,_=>by simp at hl
  | n::ns,c::l,c'::l',m,h,hl,hl',i,b,hb,hr=>by
    simp only[zdO]at h;split at h
    . cases h
    . rename_i hc;cases i with
      | zero =>
        simp at hb;subst hb;simp only[zGz,ne_eq,Option.some.injEq];exact fun h=>hc ⟨h,hr⟩
      | succ i =>
        simp at hb hl hl';simpa using zif h hl hl' i b hb hr
def zjz(h:AHeap)(E:Emb)(ns:List Nat)(l l' new:List Blk):AHeap :=
  ⟨fun m=>match zdO ns l l' m with
    | some b=>some (renB E b)
    | none=>if h.next<=m then(new[m - h.next]?).map (renB E) else h.get m,h.next+new.length⟩
theorem zgJ(h:ns[i]?=some n):(upE ns nx).blk i=n:=by
  have:=(qa.1 h).1;simp only[upE,zdf,upN,this,if_true];simp[List.getD,h]
theorem zju(F E:Emb)(b:Blk):renB F (renB E b)={ b with cells:=b.cells.map (ren (F.comp E)) }:=by
  unfold renB;simp only[List.map_map];congr 1;exact qt fun v _=>zcl F E v
theorem zqJ{l:List Nat}(h:l.Nodup){j:Nat}(hi:i<l.length)(hj:j<l.length)(hne:i≠j):l[i]≠l[j]:=by
  rcases Nat.lt_or_gt_of_ne hne with h1|h1
  . exact qp.1 h i j hi hj h1
  . exact Ne.symm (qp.1 h j i hj hi h1)
theorem zj6{o:Oper}{S S':σ}{f:FuncId}{g:Func}{c:Code}{args:Array Value}{l:List Blk}{v:Value}(hca:zaQ P e o.op=some (f,args.map (ren (upE ns h.next))))(hf:P.funcs[f]?=some g)(hg:goB g=true)(hb:g.body=some c)(hclo:∀u∈args.toList,Clo (Kn l.length (X.cnt S)) u)(hcl:∀b∈l,∀u∈b.cells,Clo (Kn l.length (X.cnt S)) u)(G:Gives (X.cnt S') l l' new ex R h1 v0 v)(hlow:h.Low)(hL:LendL h (upE ns h.next) ns l)(hnd:ns.Nodup)(hlim:l.length+new.length<=VB):
    CallOK X o e h S (ren (upE ns h.next) v) (zjz h (upE ns h.next) ns l l' new) S' f g c args (upE ns h.next) ((upE ns h.next).comp (zdf R)) (zaq (l.map some)) h1 ex v0:=by
  obtain⟨hlen,hlend⟩:=hL.spec;have hget:∀n b,(zaq (l.map some)).get n=some b↔l[n]?=some b:=fun n b=>by
    rw[zaL,qj];cases l[n]?<;>simp
  have zhM:∀n,VB<=n->(upE ns h.next).blk n=n:=fun n hn=>by
    have h1:¬n<ns.length:=by omega
    have h2:¬n<VB:=by omega
    simp only[upE,zdf,upN,h1,h2,if_false]
  have hK:∀n,(n<l.length\/n∈ex\/(VB<=n/\n<VB+X.cnt S'))->((∃b,(zaq (l.map some)).get n=some b)\/n∈ex\/(VB<=n/\n<VB+X.cnt S')):=fun n hn=>by
    rcases hn with hn|hn
    . exact .inl ⟨l[n],(hget _ _).2 (qq hn)⟩
    . exact .inr hn
  have hex:∀(j n:Nat),ex[j]?=some n->j<new.length:=fun j n hj=>by
    rw[<-G.len];exact(qa.1 hj).1
  refine⟨hca,hf,hg,hb,⟨?_,?_,?_,?_,?_,?_⟩,?_,⟨by rw[G.len];rfl,?_,?_,?_,?_,?_,?_,?_,?_,?_,G.nodup⟩⟩
  . intro n b hb v hv;rw[hget]at hb;rw[zaa,qc];exact hcl b (qg hb) v hv
  . intro n b hb;rw[hget]at hb;rw[zaa,qc];exact(qa.1 hb).1
  . intro n b hb;rw[hget]at hb;obtain⟨m,b0,k1,k2,k3,k4,k5,k6⟩:=hlend n b hb;exact⟨b0,by rw[zgJ k1];exact k2,k3,.inl ⟨k4,rfl,rfl,k5,k6⟩⟩
  . intro n m b c hb hc hne _;rw[hget]at hb hc;obtain⟨x,_,k1,_⟩:=hlend n b hb;obtain⟨y,_,k2,_⟩:=hlend m c hc;rw[zgJ k1,zgJ k2];rintro rfl;obtain⟨h1,h1'⟩:=qa.1 k1;obtain⟨h2,h2'⟩:=qa.1 k2;exact zqJ hnd h1 h2 hne (h1'.trans h2'.symm)
  . rw[zaa,qc];omega
  . exact fun n hn=>⟨zhM n hn,rfl,rfl⟩
  . rw[zaa,qc];exact hclo
  . intro n hn;rw[zaa,qc]at hn;simp only[Emb.comp,zdf,G.low n hn,upE,Nat.add_zero,and_self]
  . intro j n hj;obtain⟨k1,k2,k3⟩:=G.more j n hj;have:=hex j n hj;refine⟨by rw[zaa,qc];exact k1,k2,?_,rfl,rfl⟩
    simp only[Emb.comp,zdf,k3,upE,upN,hlen];have h1:¬l.length+j<l.length:=by omega
    have h2:l.length+j<VB:=by omega
    simp only[h1,h2,if_false,if_true];omega
  . intro n hn;refine⟨?_,rfl,rfl⟩;simp only[Emb.comp];rw[show(zdf R).blk n=n from G.hand n hn]
    exact zhM n hn
  . rw[G.told,zcl]
  . exact fun F F' hs=>G.clo F F' (hs.mono hK)
  . rintro n b hb hn u hu;rcases hn with⟨b0,hb0,hr⟩|hn
    . rw[hget]at hb0;obtain⟨b1,k1,_,_,k4⟩:=G.rows n b0 hb0 hr;rw[hb]at k1;cases k1;exact fun F F' hs=>k4 u hu F F' (hs.mono hK)
    . obtain⟨j,hj⟩:=qs hn;obtain⟨b1,k1,_,_,k4⟩:=G.news j n hj;rw[hb]at k1;cases k1;exact fun F F' hs=>k4 u hu F F' (hs.mono hK)
  . intro j n hj;obtain⟨b1,k1,k2,_⟩:=G.news j n hj;rw[k1];unfold zjz;simp only;have hbk:zdO ns l l' (h.next+j)=none:=by
      cases hb':zdO ns l l' (h.next+j) with
      | none=>rfl
      | some b' =>
        obtain⟨i,b,g1,g2,_⟩:=zdE hb';obtain⟨m,b0,p1,p2,_⟩:=hlend i b g2;rw[g1]at p1;cases p1;have:=hlow _ _ p2;omega
    rw[hbk];simp only;rw[if_pos (by omega),qe,k2,ql,zju]
    rfl
  . intro m hm;unfold zjz;simp only;cases hb':zdO ns l l' m with
    | some b' =>
      obtain⟨i,b,g1,g2,g3,g4⟩:=zdE hb';obtain⟨b1,k1,k2,k3,k4⟩:=G.rows i b g2 g3;refine .inr ⟨i,b,(hget _ _).2 g2,g3,zgJ g1,?_⟩;rw[g4]at k2;cases k2;rw[k1,ql];simp only[zju]
    | none =>
      refine .inl ⟨?_,fun n b hb hr=>?_⟩
      . simp only;split
        . rename_i hle;rcases hm with hm|hm
          . omega
          . have hm:h.next+new.length<=m:=hm;rw[qb (by omega)]
            cases hg':h.get m with
            | none=>rfl
            | some b=>have:=hlow _ _ hg';omega
        . rfl
      . rw[hget]at hb;obtain⟨x,_,p1,_⟩:=hlend n b hb;have:=zif hb' hlen G.len' n b hb hr;rw[zgJ p1];rintro rfl;exact this p1
  . rintro n b hb (⟨b0,hb0,hr⟩|hn)
    . rw[hget]at hb0;obtain⟨b1,k1,_,k3,_⟩:=G.rows n b0 hb0 hr;rw[hb]at k1;cases k1;exact k3
    . obtain⟨j,hj⟩:=qs hn;obtain⟨b1,k1,_,k3,_⟩:=G.news j n hj;rw[hb]at k1;cases k1;exact k3
def zi7(E:Emb)(rows:List (Option Blk)):List Nat->List Blk->List Blk->List (Option Blk)
  | n::ns,b::l,b'::l'=>if b.ro=false then(zi7 E rows ns l l').set n (some (renB E b')) else zi7 E rows ns l l'
  | _,_,_=>rows
theorem zcR{E:Emb}{rows:List (Option Blk)}:∀{ns:List Nat} {l l':List Blk},(zi7 E rows ns l l').length=rows.length
  | [],_,_=>rfl
  | _::_,[],_=>rfl
  | _::_,_::_,[]=>rfl
  | n::ns,b::l,b'::l'=>by
    simp only[zi7];split
    . rw[List.length_set,zcR]
    . rw[zcR]
theorem zje{E:Emb}{rows:List (Option Blk)}:∀{ns:List Nat} {l l':List Blk} {m:Nat},(∀n∈ns,n<rows.length)->((zi7 E rows ns l l')[m]?).join=match zdO ns l l' m with|some b=>some (renB E b)|none=>(rows[m]?).join
  | [],_,_,_,_=>rfl
  | _::_,[],_,_,_=>rfl
  | _::_,_::_,[],_,_=>rfl
  | n::ns,b::l,b'::l',m,hlt=>by
    have ih:=@zje E rows ns l l' m (fun x hx=>hlt x (by simp[hx]))
    simp only[zi7,zdO];have hn:n<rows.length:=hlt n (by simp)
    by_cases hr:b.ro=false
    . rw[if_pos hr,List.getElem?_set];by_cases hm:n=m
      . subst hm;simp[hr,zcR,hn]
      . simp only[hm,false_and,if_false];exact ih
    . have hc:¬ (n=m/\b.ro=false):=fun h=>hr h.2;rw[if_neg hr,if_neg hc];exact ih
theorem zrV{rows:List (Option Blk)}{l:List Blk}(hlt:∀n∈ns,n<rows.length):zjz (zaq rows) E ns l l' new=zaq (zi7 E rows ns l l'++new.map fun b=>some (renB E b)):=by
  unfold zjz zaq;simp only[qd,qc,zcR];congr 1;funext m;by_cases hm:rows.length<=m
  . have hbk:zdO ns l l' m=none:=by
      cases hb':zdO ns l l' m with
      | none=>rfl
      | some b' =>
        obtain⟨i,b,g1,_⟩:=zdE hb';have:=hlt m (qg g1);omega
    rw[hbk,qo (by rw[zcR];exact hm),zcR,qj]
    simp only[hm,if_true];cases new[m - rows.length]?<;>simp
  . rw[qi (by rw[zcR];omega),zje hlt]
    cases zdO ns l l' m with
    | some b=>rfl
    | none=>simp[hm]
variable {fn:Func}{A:Conf σ->Prop}{ops:Array Oper}{k:List Item}{i:Nat}{tmps:List Value}{h:AHeap}{S:σ}{o:Oper}{todo:List Item}{W:List Nat}{n0:Nat}{hf:AHeap}{Kf:List Value->AHeap->σ->Prop}{born:List (Nat × Nat)}
theorem zoB{h h':AHeap}(hg:∀m,h.get m=h'.get m)(hn:h.next=h'.next):h=h':=by
  cases h;cases h';simp only[AHeap.mk.injEq];exact⟨funext hg,hn⟩
theorem zpF{h hv:AHeap}:(zd2 h hv).get m=if h.next<=m then(if m<hv.next then hv.get m else none) else h.get m:=rfl
def zsY(X:Face P σ)(S:σ)(ns:List Nat)(nx:Nat)(h:AHeap)(K:Value->List Blk->List Blk->List Blk->σ->Prop)(f:FuncId)(args:Array Value):Prop :=
  ∃zs l v l' new S',DoesX X f zs l S v l' new S'/\args=zs.map (ren (upE ns nx))/\LendL h (upE ns nx) ns l/\K v l l' new S'
theorem At.callX{rows:List (Option Blk)}(ns:List Nat)(ho:ops.toList[i]?=some o)(hw:qf o (zak ops tmps)=true)(hb:opOK o.op=true)(hnd:ns.Nodup)(hlt:(ns.all fun n=>decide (n<rows.length))=true)(hk:∀K:List Value->List (Option Blk)->σ->Prop,(∀t rs S',At X fn A ops k (i+1) t (zaq rs) S'->K t rs S') ->
      zdT (zsY X S ns rows.length (zaq rows) fun v l l' new S'=>decide (rows.length+l.length+new.length<1000000)=true/\K (putL o.dst (ren (upE ns rows.length) v) tmps) (zi7 (upE ns rows.length) rows ns l l'++new.map fun b=>some (renB (upE ns rows.length) b)) S') (zaQ P (evA tmps) o.op)):At X fn A ops k i tmps (zaq rows) S:=by
  have hk:=hk _ fun _ _ _ h=>h;have hlt:∀n∈ns,n<rows.length:=fun n hn=>of_decide_eq_true (qn.1 hlt n hn);unfold At;rw[zeF (za1 ho)];cases hv:zaQ P (evA tmps) o.op with
  | none=>rw[hv]at hk;exact hk.elim
  | some x =>
    obtain⟨f,args⟩:=x;rw[hv]at hk;obtain⟨zs,l,v,l',new,S',⟨g,c,h1,v0,ex,R,d1,d2,d3,d4,d5,d6,d7⟩,rfl,hL,hlim,hK⟩:=hk;have hlim:=of_decide_eq_true hlim;have hC:=zj6 (ns:=ns) (h:=zaq rows) (o:=o) (e:=evA tmps) (f:=f) (args:=zs) (by rw[zaa];exact hv) d1 d2 d3 d4 d5 d6 (zbm _) (by rw[zaa];exact hL) hnd (by unfold VB;omega)
    rw[zaa,zrV hlt]at hC;exact .call f g c zs _ _ _ h1 ex v0 (za1 ho) hw (zaZ hb) hC (.inr (by rw[zaa,qd,zcR,qc];unfold VB;omega)) d7 hK
theorem RG.callX{rows:List (Option Blk)}(ns:List Nat)(ho:ops.toList[i]?=some o)(hw:qf o (zak ops tmps)=true)(hb:opOK o.op=true)(hq:wrB W i o=false)(hnd:ns.Nodup)(hk:∀K:List Value->List (Option Blk)->σ->List (Nat×Nat)->Prop,(∀t rs S' born',RGF X W ops n0 hf Kf (i+1) t (zaq rs) S' born'->K t rs S' born') ->
      zdT (zsY X S ns rows.length (visH n0 born ((zat ops.toList []).getD i 0) (zaq rows)) fun v l _ new S'=>(l.all (·.ro)=true/\decide (rows.length+l.length+new.length<1000000)=true)/\K (putL o.dst (ren (upE ns rows.length) v) tmps) (rows++new.map fun b=>some (renB (upE ns rows.length) b)) S' (zd9 i rows.length (rows.length+new.length)++born)) (zaQ P (evA tmps) o.op))(hnf:farB W i=false:=by rfl):RGF X W ops n0 hf Kf i tmps (zaq rows) S born:=by
  have hk:=hk _ fun _ _ _ _ h=>h;cases hv:zaQ P (evA tmps) o.op with
  | none=>rw[hv]at hk;exact hk.elim
  | some x =>
    obtain⟨f,args⟩:=x;rw[hv]at hk;obtain⟨zs,l,v,l',new,S',⟨g,c,h1,v0,ex,R,d1,d2,d3,d4,d5,d6,d7⟩,rfl,hL,⟨hro,hlim⟩,hK⟩:=hk;have hlim:=of_decide_eq_true hlim;have hlowv:(visH n0 born ((zat ops.toList []).getD i 0) (zaq rows)).Low:=by
      intro n b hb;unfold visH at hb ⊢;simp only at hb ⊢;split at hb
      . cases hg:(zaq rows).get n with
        | none=>rw[hg]at hb;cases hb
        | some b0=>exact zbm _ _ _ hg
      . cases hb
    have hnx:(visH n0 born ((zat ops.toList []).getD i 0) (zaq rows)).next=rows.length:=rfl;have hC:=zj6 (ns:=ns) (h:=visH n0 born ((zat ops.toList []).getD i 0) (zaq rows)) (o:=o) (e:=evA tmps) (f:=f) (args:=zs) (by rw[hnx];exact hv) d1 d2 d3 d4 d5 d6 hlowv (by rw[hnx];exact hL) hnd (by unfold VB;omega)
    rw[hnx]at hC;have hbl:∀m,zdO ns l l' m=none:=fun m=>by
      cases hb':zdO ns l l' m with
      | none=>rfl
      | some b' =>
        obtain⟨j,b,_,g2,g3,_⟩:=zdE hb';have:=qn.1 hro b (qg g2);rw[g3]at this;cases this
    refine .call' (h':=zaq (rows++new.map fun b=>some (renB (upE ns rows.length) b))) false f g c zs _ _ _ h1 ex v0 hnf (za1 ho) hw (zaZ hb) (.inr (by rw[zaa,qd,qc];unfold VB;omega)) ⟨hq,_,hC,?_⟩ d7 ?_ ?_
    . refine zoB (fun m=>?_) ?_
      . rw[zpF,zaa,zaL,zaL];have hbk:∀E m,(zjz (visH n0 born ((zat ops.toList []).getD i 0) (zaq rows)) E ns l l' new).get m=if rows.length<=m then(new[m - rows.length]?).map (renB E) else(visH n0 born ((zat ops.toList []).getD i 0) (zaq rows)).get m:=fun E m=>by
          unfold zjz;simp only[hbl m];rfl
        rw[hbk];have hbn:∀E,(zjz (visH n0 born ((zat ops.toList []).getD i 0) (zaq rows)) E ns l l' new).next=rows.length+new.length:=fun E=>rfl;rw[hbn];split
        . rename_i hm;rw[qo hm,qj];split
          . cases new[m - rows.length]?<;>simp
          . rw[qb (by omega)];simp
        . rename_i hm;rw[qi (by omega)]
      . show(zaq (rows++_)).next=rows.length+new.length;rw[zaa,qd,qc]
    . intro n b _ q1 q2;rw[zaa]at q2;rw[zaL,zaL,qi (by omega)]
    . rw[zaa,zaa,qd,qc];exact hK
theorem Gives.still{cnt:Nat}{l:List Blk}{v:Value}(hro:l.all (·.ro)=true)(hv:Clo (Kn l.length cnt) v):Gives cnt l l [] [] id h1 v v where
  low:=fun _ _=>rfl
  hand:=fun _ _=>rfl
  more:=fun j n hj=>by simp at hj
  nodup:=List.nodup_nil
  len:=rfl
  len':=rfl
  told:=(zd6 v).symm
  clo:=fun F F' hs=>hv F F' (hs.mono fun n hn=>by
    rcases hn with hn|hn
    . exact .inl hn
    . exact .inr (.inr hn))
  rows:=fun i b hb hr=>by
    have:=qn.1 hro b (qg hb);rw[hr]at this;cases this
  news:=fun j n hj=>by simp at hj
theorem Goes.finX{v:Value}{S':σ}{l:List Blk}(ht:retB todo=true)(hv:resA P fn tmps h=some v0)(hS:S=S')(hG:Gives (X.cnt S') l l' new ex R h v0 v):
    Goes X fn (fun x=>∃v0 h1 ex R,x=.done v0 h1 S'/\Gives (X.cnt S') l l' new ex R h1 v0 v) (.run todo tmps h S) :=
  .ret ht hv (.here ⟨v0,h,ex,R,by rw[hS],hG⟩)
theorem Goes.finS{v:Value}{S':σ}{l:List Blk}(ht:retB todo=true)(hv:resA P fn tmps h=some v)(hS:S=S')(hro:l.all (·.ro)=true)(hc:Clo (Kn l.length (X.cnt S')) v):
    Goes X fn (fun x=>∃v0 h1 ex R,x=.done v0 h1 S'/\Gives (X.cnt S') l l [] ex R h1 v0 v) (.run todo tmps h S) :=
  Goes.finX ht hv hS (Gives.still hro hc)
theorem DoesX.mk{f:FuncId}{g:Func}{c:Code}{args:Array Value}{l:List Blk}{S S':σ}{v:Value}(hf:P.funcs[f]?=some g)(hg:goB g=true)(hb:g.body=some c)(hclo:∀u∈args.toList,Clo (Kn l.length (X.cnt S)) u)(hcl:∀b∈l,∀u∈b.cells,Clo (Kn l.length (X.cnt S)) u)(hrun:Goes X g (fun x=>∃v0 h1 ex R,x=.done v0 h1 S'/\Gives (X.cnt S') l l' new ex R h1 v0 v) (.run [.code c] (args.toList++qh (g.ntmps - args.size) undef) (zaq (l.map some)) S)):DoesX X f args l S v l' new S':=by
  obtain⟨c',⟨v0,h1,ex,R,rfl,hG⟩,G⟩:=hrun.out;exact⟨g,c,h1,v0,ex,R,hf,hg,hb,hclo,hcl,hG,G⟩
theorem zh5{l:List Blk}(h:∀b∈l,∀u∈b.cells,zab u=true):∀b∈l,∀u∈b.cells,Clo (Kn n c) u:=fun b hb u hu=>Clo.plain (h b hb u hu)
theorem zan{cs:List Value}(h:∀u∈cs,zab u=true):cs=cs.map (ren E):=by
  conv=>lhs;rw[<-List.map_id cs]
  exact qt fun u hu=>(zaG E (h u hu)).symm
end
theorem Goes.wh{σ:Type}{X:Face P σ}{fn:Func}{A:Conf σ->Prop}{B:Code}{K:List Item}{tmps:List Value}{S:σ}(Inv:Nat->List Value->AHeap->σ->Prop)(h0:Inv m tmps h S)(step:∀m tmps h S,(∀m' t' h' S',m'<m->Inv m' t' h' S'->Goes X fn A (.run (.inLoop B::K) t' h' S'))->Inv m tmps h S->Goes X fn A (.run (.code B::.inLoop B::K) tmps h S)):Goes X fn A (.run (.code (.loop B)::K) tmps h S):=by
  refine .ctl rfl ?_;have key:∀n,∀m tmps h S,m<n->Inv m tmps h S->Goes X fn A (.run (.code B::.inLoop B::K) tmps h S):=by
    intro n
    induction n with
    | zero=>intro m _ _ _ hm;omega
    | succ n ih =>
      intro m tmps h S hm hI;exact step m tmps h S (fun m' t' h' S' hm' hI'=>.ctl rfl (ih m' t' h' S' (by omega) hI')) hI
  exact key (m+1) m tmps h S (by omega) h0
theorem zbR{tmps:List Value}(h:tmps.length=n):∃V:Nat->Value,(∀i,tmps.getD i undef=V i)/\tmps=(List.range n).map V:=by
  refine⟨fun i=>tmps.getD i undef,fun _=>rfl,?_⟩;apply List.ext_getElem?;intro j;rw[qj];by_cases hj:j<n
  . rw[List.getElem?_range hj];simp[List.getD,qq (show j<tmps.length by omega)]
  . rw[qb (by omega),qb (by simp;omega)]
    rfl
theorem zrq{a:Nat}(h:0<n):Clo (Kn n c) (.slice (some ⟨0,0,none⟩) a m):=fun F F' hs=>by
  obtain⟨h1,h2,h3⟩:=hs 0 (.inl h);simp[adr,h1,h2,h3]
def appV(P:Program)(h:AHeap)(nx:Nat)(t:TypeId)(x y:Value):Option (Value×Option Blk):=match zcq P h t x y with
  | some (news,el,need,true)=>some (.slice (some ⟨nx,0,none⟩) need need,some ⟨news,el,false,zaj P el⟩)
  | _=>none
theorem zlF{t:TypeId}{x y:Operand}:newA P e h nx (.call { callee:=.builtin .append,args:=#[x,y],argTypes:=#[t,t] })=appV P h nx t (e x) (e y):=by
  unfold newA appV;simp only[if_true];rcases zcq P h t (e x) (e y) with _|⟨news,el,need,b⟩
  . rfl
  . cases b<;>rfl
theorem zq5{t el:TypeId}{bs sl sc:Nat}{a b:Option Addr}{z:Value}{olds news:List Value}(h1:za2 P t=some el)(h2:zaj P el=some (s+1))(h3:zal P el=some bs)(h4:zar P el=some z)(h5:(zab z && decide (z.cells.size=s+1) && decide (bs<=1048576))=true)(c1:zbe h (s+1) (.slice a sl sc)=some olds)(c2:zbe h (s+1) (.slice b n c)=some news)(h6:sc<sl+n)(h7:sl+n<=16777216)(h8:∀x,a=some x->∃bk,h.get x.block=some bk/\bk.grow=some 0):
    appV P h nx t (.slice a sl sc) (.slice b n c)=some (.slice (some ⟨nx,0,none⟩) (sl+n) (sl+n),some ⟨olds++news,el,false,some (s+1)⟩):=by
  have h5':zab z=true/\z.cells.size=s+1/\bs<=1048576:=by
    rw[Bool.and_eq_true,Bool.and_eq_true,decide_eq_true_eq,decide_eq_true_eq]at h5;exact⟨h5.1.1,h5.1.2,h5.2⟩
  have hc:zab z=true/\z.cells.size=s+1/\bs<=1048576/\sc<sl+n/\sl+n<=16777216:=⟨h5'.1,h5'.2.1,h5'.2.2,h6,h7⟩;have hap:zcq P h t (.slice a sl sc) (.slice b n c)=some (olds++news,el,sl+n,true):=by
    unfold zcq;simp only[h1,h2,h3,h4,Option.getD_some,c1,c2];rw[if_pos hc];cases a with
    | none=>rfl
    | some x =>
      obtain⟨bk,g1,g2⟩:=h8 x rfl;simp only[g1,g2,if_true]
  unfold appV;rw[hap];simp only[h2]
theorem zkn{a:Addr}:zbe h s (.slice (some a) 0 c)=some []:=by simp[zbe]
theorem zfS{a:Addr}{b:Blk}(hn:n≠0)(hg:h.get a.block=some b)(hs:a.spot=none)(hl:a.off+n * s<=b.cells.length):zbe h s (.slice (some a) n c)=some ((b.cells.drop a.off).take (n * s)):=by
  show(if n=0 then some [] else if a.spot=none then(match h.get a.block with
    | some b=>if a.off+n * s<=b.cells.length then some ((b.cells.drop a.off).take (n * s)) else none
    | none=>none) else none)=_
  rw[if_neg hn,if_pos hs,hg];simp only[hl,if_true]
def zdF(k:IntKind)(ns:List Int):List Value:=ns.map fun n=>.int k n
theorem zam{k:IntKind}{ns:List Int}:∀u∈zdF k ns,zab u=true:=fun u hu=>by
  obtain⟨n,_,rfl⟩:=List.mem_map.1 hu;rfl
theorem up_0{a:Nat}:(upE (a::ns) nx).blk 0=a:=by simp[upE,zdf,upN]
theorem up_1{a b:Nat}:(upE (a::b::ns) nx).blk 1=b:=by simp[upE,zdf,upN]
theorem up_2{a b:Nat}:(upE (a::b::c::ns) nx).blk 2=c:=by simp[upE,zdf,upN]
theorem zcX :(upE [] nx).blk 0=nx:=by simp[upE,zdf,upN,VB]
theorem zaz  :(upE ns nx).base n=0:=rfl
theorem zas  :(upE ns nx).slack n=0:=rfl
theorem zrs(h:ns.length<1000000):ren (upE ns nx) (hndV k)=hndV k:=by
  have h1:¬VB+k<ns.length:=by unfold VB;omega
  have h2:¬VB+k<VB:=by omega
  simp only[hndV,zbf,adr,upE,zdf,upN,h1,h2,if_false,Nat.zero_add]
theorem zbG(h:ns.length<1000000):ren (upE ns nx) (prtV k)=prtV k:=by
  simp only[prtV,zdc,zrs h]
theorem zsy  :(geoC N T).map (ren E)=geoC N T:=by
  have:=zaG E (zow N T);rw[zcn]at this;exact(Value.agg.inj this)
attribute [go_sem high] zlF
attribute [go_sem] zsy zsY zi7 renB up_0 up_1 up_2 zcX zaz zas zrs zbG za7 zbr zbW zdz zbf zcM zaB zdc zbN zdb zcn zcQ zbH adr Nat.add_zero List.append_nil
def zaw(l:List (Option Blk))(q:Nat)(l2:List (Option Blk)):AHeap:=⟨fun n=>if n<q then(l[n]?).join else(l2[n - q]?).join,q+l2.length⟩
theorem zeU(h:n<q):(zaw l q l2).get n=(l[n]?).join:=if_pos h
theorem zsg   :(zaw l q l2).get q=(l2[0]?).join:=by
  show(if q<q then _ else _)=_
  rw[if_neg (Nat.lt_irrefl q),Nat.sub_self]
theorem zgV    :(zaw l q l2).get (q+i)=(l2[i]?).join:=by
  show(if q+i<q then _ else _)=_
  rw[if_neg (by omega),qe]
theorem zeB(l:List (Option Blk))(q:Nat)(l2:List (Option Blk)):(zaw l q l2).next=q+l2.length:=rfl
theorem zic{a b:AHeap}(h1:∀n,a.get n=b.get n)(h2:a.next=b.next):a=b:=by
  cases a;cases b;simp only[AHeap.mk.injEq];exact⟨funext h1,h2⟩
theorem zqR(l:List (Option Blk))(q:Nat)(l2:List (Option Blk))(b:Option Blk):(zaw l q l2).addO b=zaw l q (l2++[b]):=by
  refine zic (fun n=>?_) (by simp[AHeap.addO,zaw];omega)
  rw[AHeap.addO_get,zeB];show _=(if n<q then _ else _)
  by_cases hn:n<q
  . rw[if_neg (by omega),if_pos hn,zeU hn]
  . obtain⟨i,rfl⟩:∃i,n=q+i:=⟨n - q,by omega⟩
    rw[zgV,if_neg hn,qe];by_cases hi:i=l2.length
    . subst hi;rw[if_pos rfl];simp
    . rw[if_neg (by omega),List.getElem?_append]
      by_cases h2:i<l2.length
      . rw[if_pos h2]
      . rw[if_neg h2,qb (by omega),qb (by simp;omega)]
theorem zgO{b:Option Blk}(h:n<q)(hl:n<l.length):(zaw l q l2).putO n b=zaw (l.set n b) q l2:=by
  refine zic (fun m=>?_) rfl;rw[AHeap.putO_get];show _=(if m<q then _ else _)
  by_cases hm:m=n
  . subst hm;rw[if_pos rfl,if_pos h];simp[hl]
  . rw[if_neg hm];show(if m<q then _ else _)=_
    rw[qk (fun e=>hm e.symm)]
theorem ze9{b:Option Blk}(hl:i<l2.length):(zaw l q l2).putO (q+i) b=zaw l q (l2.set i b):=by
  refine zic (fun m=>?_) (by simp[AHeap.putO,zaw])
  rw[AHeap.putO_get];show _=(if m<q then _ else _)
  by_cases hm:m<q
  . rw[if_neg (by omega),if_pos hm,zeU hm]
  . obtain⟨j,rfl⟩:∃j,m=q+j:=⟨m - q,by omega⟩
    rw[zgV,if_neg hm,qe];by_cases hj:j=i
    . subst hj;rw[if_pos rfl];simp[hl]
    . rw[if_neg (by omega),qk (fun e=>hj e.symm)]
theorem zf9{b:Option Blk}(hl:0<l2.length):(zaw l q l2).putO q b=zaw l q (l2.set 0 b):=ze9 (i:=0) hl
theorem zmI{b:Blk}(h:n<q)(hl:n<l.length):(zaw l q l2).put n b=zaw (l.set n (some b)) q l2:=by rw[zgC,zgO h hl]
theorem zmE{b:Blk}(hl:i<l2.length):(zaw l q l2).put (q+i) b=zaw l q (l2.set i (some b)):=by rw[zgC,ze9 hl]
theorem zkM{b:Blk}(hl:0<l2.length):(zaw l q l2).put q b=zaw l q (l2.set 0 (some b)):=by rw[zgC,zf9 hl]
theorem znI(h:q+l2.length<1000000000):(zaw l q l2).next<VB:=by rw[zeB];unfold VB;omega
theorem zg7(l:List (Option Blk))(q:Nat)(l2:List (Option Blk)):(zaw l q l2).Low:=by
  intro n b hb;rw[zeB];by_cases hn:n<q
  . omega
  . obtain⟨i,rfl⟩:∃i,n=q+i:=⟨n - q,by omega⟩
    rw[zgV]at hb;have:i<l2.length:=by
      apply Nat.lt_of_not_le;intro h;rw[qb h]at hb;simp at hb
    omega
theorem zrz(l:List (Option Blk)):zaq l=zaw l l.length []:=by
  refine zic (fun n=>?_) (by simp[zaq,zaw])
  rw[zaL];show _=(if n<l.length then _ else _)
  split
  . rfl
  . rw[qb (by omega)];simp
attribute [go_sem] zeU zsg zgV zeB zqR zgO ze9 zf9 zmI zmE zkM
end Go.Proofs.Ytkjmaapbeicmkaa
