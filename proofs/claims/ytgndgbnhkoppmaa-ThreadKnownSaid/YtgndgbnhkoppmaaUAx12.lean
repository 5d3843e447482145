/-
  The abstract machine over this program's memories and direct ports: what their functions do to a state of them; threads' objects beside them.
  Conditions: where a step count is told, it is below 10^12.
-/
import Derived.Test.YtgndgbnhkoppmaaUAx10
import Derived.IntWalk
set_option maxHeartbeats 40000000
set_option linter.unusedVariables false
set_option linter.unusedSimpArgs false
namespace Go.Proofs.Ytgndgbnhkoppmaa
open Go Go.RowKit
def isq:Nat->Nat
  | 0=>0
  | n+1=>if (isq n+1) * (isq n+1)<=n+1 then isq n+1 else isq n
theorem zkZ:∀ n,isq n * isq n<=n/\n<(isq n+1) * (isq n+1)
  | 0=>by simp [isq]
  | n+1=>by
    obtain⟨h1,h2⟩:=zkZ n;unfold isq;split
    . rename_i h;refine⟨h,?_⟩;have:(isq n+1+1) * (isq n+1+1)=(isq n+1) * (isq n+1)+2 * (isq n+1)+1:=by
        simp only [Nat.add_mul,Nat.mul_add];omega
      omega
    . omega
def code (a b:Nat):Nat:=(a+b) * (a+b)+a
theorem zlo (a b:Nat):isq (code a b)=a+b:=by
  obtain⟨h1,h2⟩:=zkZ (code a b);have hc:code a b<(a+b+1) * (a+b+1):=by
    unfold code;have:(a+b+1) * (a+b+1)=(a+b) * (a+b)+2 * (a+b)+1:=by simp only [Nat.add_mul,Nat.mul_add];omega
    omega
  have hd:(a+b) * (a+b)<=code a b:=by unfold code;omega
  rcases Nat.lt_trichotomy (isq (code a b)) (a+b) with h|h|h
  . have:=Nat.mul_le_mul (show isq (code a b)+1<=a+b by omega) (show isq (code a b)+1<=a+b by omega)
    omega
  . exact h
  . have:=Nat.mul_le_mul (show a+b+1<=isq (code a b) by omega) (show a+b+1<=isq (code a b) by omega)
    omega
def aux (s:Nat) (i:Nat):Nat:=if i=1 then s - isq s * isq s else isq s - (s - isq s * isq s)
theorem zmt (a b:Nat):aux (code a b) 1=a:=by
  unfold aux;rw [if_pos rfl,zlo];unfold code;omega
theorem zqT (a b:Nat):aux (code a b) 2=b:=by
  unfold aux;rw [if_neg (by decide),zlo]
  unfold code;omega
inductive Ob where
  | mem (ws:List UInt64) (bs:List UInt8)
  | port (m:Nat) (me:Int) (steps:Nat)
  | thr (self:Int) (quit:Nat) (closed busy:Bool) (cur:Option (Nat × Nat × Nat)) (pend:Option Nat)
  | wp (self:Int) (steps:Nat) (ask grant quit:Nat)
  | acc (c:Nat) (n:Int) (A B:UInt64)
  | box (c:Nat)
abbrev St:=List Ob
def hndV (k:Nat):Value:=.pointer (some ⟨VB+k,0,none⟩)
def prtV (k:Nat):Value:=.iface 62 (hndV k)
def BF (P:Program) (hm:P.follows .mixedOrders=true):Face P Unit where
  mix:=hm
  cnt:=fun _=>0
  rep:=fun _ _ _=>True
  fp:=fun _ _ _=>False
  prim:=fun _ _ _ _ _=>False
  rep_same:=fun _ _ _ _ _ _=>⟨trivial,fun _ h=>h⟩
  rep_kept:=fun _ _ _ _ _ _ _=>trivial
  fp_low:=fun _ _ _ _ _ h=>h.elim
  prim_hand:=fun _ _ _ _ _ h=>h.elim
  prim_ok:=fun _ _ _ _ _ _ _ h=>h.elim
def PureD (f:FuncId) (args:Array Value) (v:Value):Prop:=Does (BF Try.prog Try.mix) f args [] () v ()
def zpB (f:FuncId) (args:Array Value) (v:Value):Prop:=∀ w,TCalls Try.prog f args w fun e w'=>e=.returned v/\Kept w (fun _=>False) w'
def wr (n:Nat):Int:=IntKind.i64.wrap (n:Int)
def accS (S:St) (p m:Nat) (me:Int) (steps:Nat) (ws:List UInt64) (bs:List UInt8):St:=(S.set p (.port m me steps)).set m (.mem ws bs)
inductive Prim:FuncId->Array Value->St->Value->St->Prop
  | pure {f args v S} (h:∀ w:World,zpB f args v) (ha:args.all zac=true) (hv:zac v=true):Prim f args S v S
  | do' {k:Nat} {ws:List UInt64} {bs:List UInt8} {S:St} (c:Nat) (n:Int) (A B:UInt64) (h:S[k]?=some (Ob.mem ws bs)) (h1:1<=c) (h4:c<=4) :
      Prim 24 #[hndV k,accV c n A B] S (.tuple #[.int .u64 ((wT c n A ws).toNat:Int),.bool (wAt ws n).isSome]) (S.set k (.mem (wS c n A B ws) bs))
  | load {p m:Nat} {me:Int} {steps:Nat} {ws:List UInt64} {bs:List UInt8} {S:St} (n:Int) (h:S[p]?=some (Ob.port m me steps)) (hm:S[m]?=some (Ob.mem ws bs)) (hs:steps<=1000000000000) :
      Prim 67 #[hndV p,.int .i64 n] S (.int .u64 ((wT 1 n 0 ws).toNat:Int)) (accS S p m me (steps+1) (wS 1 n 0 0 ws) bs)
  | store {p m:Nat} {me:Int} {steps:Nat} {ws:List UInt64} {bs:List UInt8} {S:St} (n:Int) (A:UInt64) (h:S[p]?=some (Ob.port m me steps)) (hm:S[m]?=some (Ob.mem ws bs)) (hs:steps<=1000000000000) :
      Prim 70 #[hndV p,.int .i64 n,.int .u64 (A.toNat:Int)] S (.tuple #[]) (accS S p m me (steps+1) (wS 2 n A 0 ws) bs)
  | cas {p m:Nat} {me:Int} {steps:Nat} {ws:List UInt64} {bs:List UInt8} {S:St} (n:Int) (A B:UInt64) (h:S[p]?=some (Ob.port m me steps)) (hm:S[m]?=some (Ob.mem ws bs)) (hs:steps<=1000000000000) :
      Prim 64 #[hndV p,.int .i64 n,.int .u64 (A.toNat:Int),.int .u64 (B.toNat:Int)] S (.bool (wT 3 n A ws==1)) (accS S p m me (steps+1) (wS 3 n A B ws) bs)
  | add {p m:Nat} {me:Int} {steps:Nat} {ws:List UInt64} {bs:List UInt8} {S:St} (n:Int) (A:UInt64) (h:S[p]?=some (Ob.port m me steps)) (hm:S[m]?=some (Ob.mem ws bs)) (hs:steps<=1000000000000) :
      Prim 63 #[hndV p,.int .i64 n,.int .u64 (A.toNat:Int)] S (.int .u64 ((wT 4 n A ws).toNat:Int)) (accS S p m me (steps+1) (wS 4 n A 0 ws) bs)
  | self {p m:Nat} {me:Int} {steps:Nat} {S:St} (h:S[p]?=some (Ob.port m me steps)):Prim 69 #[hndV p] S (.int .i64 me) S
  | steps {p m:Nat} {me:Int} {steps:Nat} {S:St} (h:S[p]?=some (Ob.port m me steps)):Prim 29 #[hndV p] S (.int .i64 (steps:Int)) S
  | dget {k:Nat} {ws:List UInt64} {bs:List UInt8} {S:St} (n:Int) (A B:UInt64) (h:S[k]?=some (Ob.mem ws bs)) :
      Prim 24 #[hndV k,accV 5 n A B] S (.tuple #[.int .u64 ((bT n bs).toNat:Int),.bool (bAt bs n).isSome]) S
  | dput {k:Nat} {ws:List UInt64} {bs:List UInt8} {S:St} (n:Int) (A B:UInt64) (h:S[k]?=some (Ob.mem ws bs)) :
      Prim 24 #[hndV k,accV 6 n A B] S (.tuple #[.int .u64 0,.bool (bAt bs n).isSome]) (S.set k (.mem ws (bS n A.toUInt8 bs)))
  | get {p m:Nat} {me:Int} {steps:Nat} {ws:List UInt64} {bs:List UInt8} {S:St} (n:Int) (h:S[p]?=some (Ob.port m me steps)) (hm:S[m]?=some (Ob.mem ws bs)) (hs:steps<=1000000000000) :
      Prim 66 #[hndV p,.int .i64 n] S (.int .u8 ((bT n bs).toNat:Int)) (accS S p m me (steps+1) ws bs)
  | put {p m:Nat} {me:Int} {steps:Nat} {ws:List UInt64} {bs:List UInt8} {S:St} (n:Int) (b:UInt8) (h:S[p]?=some (Ob.port m me steps)) (hm:S[m]?=some (Ob.mem ws bs)) (hs:steps<=1000000000000) :
      Prim 68 #[hndV p,.int .i64 n,.int .u8 (b.toNat:Int)] S (.tuple #[]) (accS S p m me (steps+1) ws (bS n b bs))
  | wself {k:Nat} {me:Int} {steps a b c:Nat} {S:St} (h:S[k]?=some (Ob.wp me steps a b c)):Prim 78 #[hndV k] S (.int .i64 me) S
  | wsteps {k:Nat} {me:Int} {steps a b c:Nat} {S:St} (h:S[k]?=some (Ob.wp me steps a b c)):Prim 79 #[hndV k] S (.int .i64 (wr steps)) S
  | pnew {m:Nat} {me:Int} {ws:List UInt64} {bs:List UInt8} {S:St} (h:S[m]?=some (Ob.mem ws bs)):Prim 25 #[hndV m,.int .i64 me] S (hndV S.length) (S++[.port m me 0])
  | mnew {S:St} (a b:Nat) (ha:a<=2097152) (hb:b<=1048576):Prim 36 #[.int .i64 a,.int .i64 b] S (.tuple #[hndV S.length,.int .i64 0]) (S++[.mem (List.replicate a 0) (List.replicate b 0)])
theorem zcl {args:Array Value} (F:Emb) (h:args.all zac=true):args.map (ren F)=args:=by
  apply Array.ext
  . simp
  . intro i h1 h2;simp only [Array.getElem_map];exact zaC F ((Array.all_eq_true.1 h) i h2)
theorem Prim.len {f:FuncId} {args:Array Value} {S S':St} {v:Value} (h:Prim f args S v S'):S.length<=S'.length:=by
  cases h<;>simp [accS]
theorem zh8 (c k:Nat) (h:k<c):Hand c (hndV k):=by
  intro F F' hs;have:=hs (VB+k) ⟨by omega,by omega⟩
  simp [hndV,adr,this.1,this.2.1]
theorem Prim.hand {f:FuncId} {args:Array Value} {S S':St} {v:Value} (h:Prim f args S v S'):Hand S'.length v:=by
  cases h with
  | pure h ha hv=>exact Hand.plain hv
  | pnew h=>exact zh8 _ _ (by simp)
  | mnew a b ha hb =>
    have h1:=zh8 (S++[Ob.mem (List.replicate a 0) (List.replicate b 0)]).length S.length (by simp)
    intro F F' hs;simp only [zcQ,List.map_toArray,List.map_cons,List.map_nil,zbp];rw [h1 F F' hs]
  | _=>exact Hand.plain (by first|rfl|simp [zac])
section
variable {P:Program} {e:Operand->Value} {h:AHeap} {t:TypeId} {x y:Operand} {k:IntKind} {a b:Int}
theorem zsr (l:List Value) (t:Nat):evA l (.tmp t)=l.getD t undef:=rfl
theorem zqr (l:List Value) (v:Value):evA l (.const v)=v:=rfl
theorem zrn (l:List Value) (f:FuncId):evA l (.func f)=.func (.func f) #[] #[]:=rfl
theorem zpD (d:Nat) (v:Value) (l:List Value):putL (some d) v l=l.set d v:=rfl
theorem zo5 (v:Value) (l:List Value):putL none v l=l:=rfl
theorem zsz:valA P e h (.move x)=some (e x):=rfl
theorem zpR:valA P e h (.assign x)=some (e x):=rfl
theorem zs0 {op:BinOp} {u:TypeId}:valA P e h (.binOp op t x y u)=zaR P op t y (e x) (e y):=rfl
theorem v_un {op:UnOp}:valA P e h (.unOp op t x)=unA op (e x):=rfl
theorem zor {u:TypeId}:valA P e h (.convert t u x)=zdw P t u (e x):=rfl
theorem zrd {i:Nat}:valA P e h (.field t x i)=zgl P t (e x) i:=rfl
theorem zrT:valA P e h (.index t x y)=zgB P t (e x) (e y):=rfl
theorem zme {fn:Fn} {xs ys:Array Operand}:valA P e h (.makeFunc fn xs ys)=some (.func fn (xs.map e) (ys.map e)):=rfl
theorem zmo:valA P e h (.nilCheck x)=zci P (e x):=rfl
theorem zkr {i:Nat}:valA P e h (.fieldAddr t x i)=zcr P t (e x) i:=rfl
theorem zjQ:valA P e h (.indexAddr t x y)=zcq P t (e x) (e y):=rfl
def zrk (P:Program) (h:AHeap) (t:TypeId):Value->Option Value
  | .pointer (some a)=>zf4 P h t a
  | _=>none
theorem zsd:valA P e h (.load t x)=zrk P h t (e x):=by
  show (match e x with|.pointer (some a)=>zf4 P h t a|_=>none)=_
  unfold zrk;rfl
theorem zpV {a:Addr}:zrk P h t (.pointer (some a))=zf4 P h t a:=rfl
def zrR (c a b:Value):Option Value:=match c with
  | .bool t=>some (if t then a else b)
  | _=>none
theorem zsh {z:Operand}:valA P e h (.pick x y z)=zrR (e x) (e y) (e z):=rfl
theorem znz {v u:Value}:zrR (.bool true) v u=some v:=rfl
theorem zlD {v u:Value}:zrR (.bool false) v u=some u:=rfl
def zll (v:Value) (i:Nat):Option Value:=match v with
  | .tuple vs=>vs[i]?
  | _=>none
theorem zn9 {i:Nat}:valA P e h (.extract x i)=zll (e x) i:=rfl
theorem ziI {vs:Array Value} {i:Nat}:zll (.tuple vs) i=vs[i]?:=rfl
theorem ztc:zaR P .add t y (.int k a) (.int k b)=some (.int k (k.wrap (a+b))):=by simp [zaR,binA,intA]
theorem zs4:zaR P .eql t y (.int k a) (.int k b)=some (.bool (a==b)):=by simp [zaR,binA,intA]
theorem zs7:zaR P .neq t y (.int k a) (.int k b)=some (.bool (a != b)):=by simp [zaR,binA,intA]
theorem zth:zaR P .lss t y (.int k a) (.int k b)=some (.bool (decide (a<b))):=by simp [zaR,binA,intA]
theorem zs2:zaR P .gtr t y (.int k a) (.int k b)=some (.bool (decide (b<a))):=by simp [zaR,binA,intA]
theorem ztm:zaR P .geq t y (.int k a) (.int k b)=some (.bool (decide (b<=a))):=by simp [zaR,binA,intA]
theorem zte {c:Bool}:unA .not (.bool c)=some (.bool !c):=rfl
theorem ztl:unA .neg (.int k a)=some (.int k (k.wrap (0 - a))):=rfl
theorem ztn:((0:Nat):Int)=0:=rfl
theorem zs1:((1:Nat):Int)=1:=rfl
def zmT (b:Option Blk) (g:Option Bool) (s:Option Nat) (a:Addr):Option Value:=match b,g,s with
  | some b,some true,some s=>if a.spot=none/\a.off=0/\b.cells.length=s then some (.agg b.cells.toArray) else if a.spot=none/\a.off+s<=b.cells.length then some (.agg ((b.cells.drop a.off).take s).toArray) else none
  | some b,some false,some _=>if a.spot=none then b.cells[a.off]? else none
  | _,_,_=>none
theorem zpt {a:Addr}:zf4 P h t a=zmT (h.get a.block) (zaP P t) (zal P t) a:=rfl
theorem zml {b:Blk} {s n o:Nat}:zmT (some b) (some false) (some s) ⟨n,o,none⟩=b.cells[o]?:=by simp [zmT]
theorem znR {b:Blk} {s n:Nat} (hl:b.cells.length=s):zmT (some b) (some true) (some s) ⟨n,0,none⟩=some (.agg b.cells.toArray):=by simp [zmT,hl]
def zfu (P:Program) (t:TypeId):Bool:=match P.underlying t with|some (.pointer _)=>true|_=>false
def zqX (P:Program) (t:TypeId):Bool:=match P.underlying t with|some (.interface _)=>true|_=>false
def zmI (P:Program) (t:TypeId):Bool:=match P.underlying t with|some (.slice _)=>true|_=>false
theorem zst {a:Option Addr}:zaR P .eql t y (.pointer a) (.pointer none)=cond (zfu P t) (some (.bool a.isNone)) none:=by
  simp only [zaR,binA,zfU,zdT,zfu];cases P.underlying t with
  | none=>rfl
  | some u=>cases u<;>rfl
theorem zs6 {a:Option Addr}:zaR P .neq t y (.pointer a) (.pointer none)=cond (zfu P t) (some (.bool !a.isNone)) none:=by
  simp only [zaR,binA,zfU,zdT,zfu];cases P.underlying t with
  | none=>rfl
  | some u=>cases u<;>rfl
theorem ztf {k:Nat}:zaR P .eql t y (hndV k) (.pointer none)=cond (zfu P t) (some (.bool false)) none:=zst
def tyMk (P:Program) (t:TypeId):Bool:=match P.underlying t with|some (.interface _)=>false|some _=>true|none=>false
theorem zoE {k:Nat}:Value.iface 62 (hndV k)=prtV k:=rfl
theorem ztr {ats:Array TypeId} {z:Operand}:valA P e h (.call { callee:=.builtin .len,args:=#[z],argTypes:=ats })=(match ats.toList with|[t]=>lenA P t (e z)|_=>none):=by
  show (match [z],ats.toList with|[x],[t]=>lenA P t (e x)|_,_=>none)=_
  cases ats.toList with
  | nil=>rfl
  | cons a l=>cases l<;>rfl
def min2:Value->Value->Option Value
  | .int k x,.int _ y=>some (.int k (if y<x then y else x))
  | _,_=>none
def max2:Value->Value->Option Value
  | .int k x,.int _ y=>some (.int k (if y > x then y else x))
  | _,_=>none
theorem zq2 {ps:Array (Nat × Operand)}:valA P e h (.build t ps)=zg2 P t (ps.toList.map fun p=>(p.1,e p.2)):=rfl
theorem zre {lo hi mx:Option Operand}:valA P e h (.slice t x lo hi mx)=zeC P h t (e x) (lo.map e) (hi.map e) (mx.map e):=rfl
def zja (o:Option (Nat × Nat)) (v:Value) (cells:List Value) (K:List Value->Option (List Value)):Option (List Value):=match o with
  | none=>none
  | some (off,size)=>if v.cells.size≠size\/off+v.cells.size > cells.length then none else K (zaQ cells off v.cells.toList)
theorem zoq {pl:Nat->Option (Nat × Nat)} {cells:List Value} {i:Nat} {v:Value} {l:List (Nat × Value)}:zfJ pl cells ((i,v)::l)=zja (pl i) v cells fun c=>zfJ pl c l:=by
  rw [zfJ];unfold zja;rfl
theorem zp0 {pl:Nat->Option (Nat × Nat)} {cells:List Value}:zfJ pl cells []=some cells:=rfl
theorem ze1 {off:Nat} {v:Value} {cells:List Value} {K:List Value->Option (List Value)} (hv:v.cells=#[v]) (hl:off<cells.length):zja (some (off,1)) v cells K=K (cells.set off v):=by
  have:¬ ((#[v]:Array Value).size≠1\/off+(#[v]:Array Value).size > cells.length):=by simp;omega
  unfold zja;simp only [hv];rw [if_neg this];congr 1;unfold zaQ;rw [List.set_eq_take_append_cons_drop,if_pos hl];simp
theorem zov {off:Nat} {n:Int} {cells:List Value} {K:List Value->Option (List Value)} (hl:off<cells.length):zja (some (off,1)) (.int k n) cells K=K (cells.set off (.int k n)):=ze1 rfl hl
theorem zmR {off:Nat} {c:Option Addr} {cells:List Value} {K:List Value->Option (List Value)} (hl:off<cells.length):zja (some (off,1)) (.pointer c) cells K=K (cells.set off (.pointer c)):=ze1 rfl hl
theorem zka {off n c:Nat} {d:Option Addr} {cells:List Value} {K:List Value->Option (List Value)} (hl:off<cells.length):zja (some (off,1)) (.slice d n c) cells K=K (cells.set off (.slice d n c)):=ze1 rfl hl
theorem zmF {off:Nat} {fn:Fn} {xs ys:Array Value} {cells:List Value} {K:List Value->Option (List Value)} (hl:off<cells.length):zja (some (off,1)) (.func fn xs ys) cells K=K (cells.set off (.func fn xs ys)):=ze1 rfl hl
theorem zsU {f:FuncId} {args:Array Operand} {ats:Array TypeId}:zaW P e (.call { callee:=.value (.func f),args:=args,argTypes:=ats })=(match e (.func f) with|.func (.func g) xs ys=>some (g,xs++args.map e++ys)|.func (.method name) xs _=>(match xs.toList with|[.iface t (.pointer p)]=>(match za9 P t name with|some g=>some (g,#[.pointer p]++args.map e)|none=>none)|_=>none)|_=>none):=rfl
def zqa (P:Program) (f:Value) (args:Array Value):Option (FuncId × Array Value):=match f with
  | .func (.func g) xs ys=>some (g,xs++args++ys)
  | .func (.method name) xs _=>(match xs.toList with
    | [.iface t (.pointer p)]=>(match za9 P t name with|some g=>some (g,#[.pointer p]++args)|none=>none)
    | _=>none)
  | _=>none
theorem zrx {f:Operand} {args:Array Operand} {ats:Array TypeId}:zaW P e (.call { callee:=.value f,args:=args,argTypes:=ats })=zqa P (e f) (args.map e):=by
  unfold zaW zqa;rfl
theorem zog {g:FuncId} {xs ys args:Array Value}:zqa P (.func (.func g) xs ys) args=some (g,xs++args++ys):=rfl
theorem znC {name:String} {k:Nat} {ys args:Array Value}:zqa P (.func (.method name) #[prtV k] ys) args=(match za9 P 62 name with|some f=>some (f,#[hndV k]++args)|none=>none):=rfl
def zic (P:Program) (r:Value) (name:String) (args:Array Value):Option (FuncId × Array Value):=match r with
  | .iface t (.pointer p)=>(match za9 P t name with|some f=>some (f,#[.pointer p]++args)|none=>none)
  | _=>none
theorem zqf {r:Operand} {name:String} {args:Array Operand} {ats:Array TypeId}:zaW P e (.call { callee:=.invoke r name,args:=args,argTypes:=ats })=zic P (e r) name (args.map e):=by
  unfold zaW zic;rfl
theorem zsW {k:Nat} {name:String} {args:Array Value}:zic P (prtV k) name args=(match za9 P 62 name with|some f=>some (f,#[hndV k]++args)|none=>none):=rfl
theorem zs9 {k:Nat} {name:String}:zci P (.func (.method name) #[prtV k] #[])=(match za9 P 62 name with|some _=>some (.func (.method name) #[prtV k] #[])|none=>none):=rfl
theorem zsZ {a:Addr}:zci P (.pointer (some a))=some (.pointer (some a)):=rfl
theorem zq9 {n0 n:Nat} (hn:n<n0):(lowH n0 h).get n=h.get n:=by
  unfold lowH;simp [hn]
theorem wrap_i64 {n:Int} (h1:-9223372036854775808<=n) (h2:n<=9223372036854775807):IntKind.i64.wrap n=n:=IntWalk.i64_in n ⟨h1,h2⟩
end
def fnOK (P:Program) (f:FuncId):Bool:=match P.funcs[f]? with
  | some g=>goB g
  | none=>false
theorem ziT {P:Program} {f:FuncId} (h:fnOK P f=true):∃ g,P.funcs[f]?=some g/\goB g=true:=by
  unfold fnOK at h;split at h
  . rename_i g hg;exact⟨g,hg,h⟩
  . cases h
theorem zrt (n c k:Nat) (h:k<c):Clo (Kn n c) (hndV k):=by
  intro F F' hs;have:=hs (VB+k) (.inr ⟨by omega,by omega⟩)
  simp [hndV,adr,this.1,this.2.1]
theorem zim {c k:Nat} (h:k<c):Hand c (hndV k):=zh8 c k h
theorem zad (N T:Nat):(geoC N T).toList.length=22:=by simp [geoC]
theorem zjK {a v:Value} {l vs:List Value}:zaQ (a::l) 0 (v::vs)=v::zaQ l 0 vs:=by
  unfold zaQ;rw [show 0+(v::vs).length=(0+vs.length)+1 by simp]
  rfl
theorem zmE {l:List Value}:zaQ l 0 []=l:=by simp [zaQ]
theorem zoX (k:IntKind) (n:Int):zdI (.int k n)=true:=rfl
theorem zmr (b:Bool):zdI (.bool b)=true:=rfl
theorem zm7 (a:Option Addr):zdI (.pointer a)=true:=rfl
theorem zkl (a:Option Addr) (n c:Nat):zdI (.slice a n c)=true:=rfl
theorem zj7 (t:TypeId) (v:Value):zdI (.iface t v)=true:=rfl
theorem zlt (fn:Fn) (xs ys:Array Value):zdI (.func fn xs ys)=true:=rfl
theorem zns (k:Nat):zdI (hndV k)=true:=rfl
theorem zoY (k:Nat):zdI (prtV k)=true:=rfl
theorem zo1:zdI .nilIface=true:=rfl
theorem zqs:zdI .nilFunc=true:=rfl
theorem zni (cs:Array Value):(Value.agg cs).cells=cs:=rfl
theorem zn1 (k:IntKind) (n:Int):(Value.int k n).cells=#[.int k n]:=rfl
theorem zmg (b:Bool):(Value.bool b).cells=#[.bool b]:=rfl
theorem zny (a:Option Addr):(Value.pointer a).cells=#[.pointer a]:=rfl
theorem zku (a:Option Addr) (n c:Nat):(Value.slice a n c).cells=#[.slice a n c]:=rfl
theorem zj9 (t:TypeId) (v:Value):(Value.iface t v).cells=#[.iface t v]:=rfl
theorem zl8 (fn:Fn) (xs ys:Array Value):(Value.func fn xs ys).cells=#[.func fn xs ys]:=rfl
theorem zoU (k:Nat):(prtV k).cells=#[prtV k]:=rfl
theorem znD (k:Nat):(hndV k).cells=#[hndV k]:=rfl
section
variable {P:Program} {σ:Type} {X:Face P σ} {fn:Func} {A:Conf σ->Prop} {ops:Array Oper} {k:List Item} {i:Nat} {tmps:List Value} {h:AHeap} {S:σ} {o:Oper} {n0:Nat} {W:List Nat} {hf:AHeap} {Kf:List Value->AHeap->σ->Prop} {born:List (Nat × Nat)}
def ctl2:List Item->Option (List Item)
  | .code .skip::k|.code (.label _)::k|.inBlock _::k=>some k
  | .code (.seq a b)::k=>some (.code a::.code b::k)
  | .code (.block id b)::k=>some (.code b::.inBlock id::k)
  | .code (.exit id)::k=>exitTo id k
  | .code (.goto l)::k=>gotoIn l k
  | .inRegion _ []::k=>some k
  | .code (.scope b)::k=>some (.code b::.inScope b::k)
  | .inScope _::k=>some k
  | _=>none
theorem zsp {l l':List Item} (hc:ctl2 l=some l'):ctl tmps l=some l':=by
  unfold ctl2 at hc;split at hc<;>first|(cases hc;rfl)|exact hc|cases hc
theorem Goes.ctl2 {todo todo':List Item} (hc:Go.Proofs.Ytgndgbnhkoppmaa.ctl2 todo=some todo') (hk:Goes X fn A (.run todo' tmps h S)):Goes X fn A (.run todo tmps h S):=.ctl (zsp hc) hk
theorem Goes.yes {c:Operand} {x y:Code} (hc:evA tmps c=.bool true) (hk:Goes X fn A (.run (.code x::k) tmps h S)):Goes X fn A (.run (.code (.cond c x y)::k) tmps h S) :=
  .cond hc (fun _=>hk) (fun h=>by cases h)
theorem Goes.no {c:Operand} {x y:Code} (hc:evA tmps c=.bool false) (hk:Goes X fn A (.run (.code y::k) tmps h S)):Goes X fn A (.run (.code (.cond c x y)::k) tmps h S) :=
  .cond hc (fun h=>by cases h) (fun _=>hk)
theorem Goes.loop {b:Code} (hk:Goes X fn A (.run (.code b::.inLoop b::k) tmps h S)):Goes X fn A (.run (.code (.loop b)::k) tmps h S):=.ctl rfl hk
theorem Goes.inLoop {b:Code} (hk:Goes X fn A (.run (.code b::.inLoop b::k) tmps h S)):Goes X fn A (.run (.inLoop b::k) tmps h S):=.ctl rfl hk
theorem At.prim2 (ho:ops.toList[i]?=some o) (hw:Region.wanted o (zaj ops tmps)=true) (hb:opOK o.op=true)
    (hk:∀ K:List Value->σ->Prop,(∀ t S',At X fn A ops k (i+1) t h S'->K t S')->zd3 (fun f args=>fnOK P f=true/\∃ v S',X.prim f args S v S'/\K (putL o.dst v tmps) S') (zaW P (evA tmps) o.op)):At X fn A ops k i tmps h S:=by
  have:=hk _ fun _ _ h=>h;cases hv:zaW P (evA tmps) o.op with
  | none=>rw [hv] at this;exact this.elim
  | some x =>
    obtain⟨f,args⟩:=x;rw [hv] at this;obtain⟨hf,hr⟩:=this;obtain⟨g,h1,h2⟩:=ziT hf;exact At.prim (g:=g) (zbl ho) hw (zbn hb) (by rw [hv];exact⟨h1,h2,hr⟩)
theorem At.call2 (ho:ops.toList[i]?=some o) (hw:Region.wanted o (zaj ops tmps)=true) (hb:opOK o.op=true)
    (hk:∀ K:List Value->σ->Prop,(∀ t S',At X fn A ops k (i+1) t h S'->K t S')->zd3 (fun f args=>∃ v S',Does X f args [] S v S'/\K (putL o.dst v tmps) S') (zaW P (evA tmps) o.op)):At X fn A ops k i tmps h S :=
  At.call (zbl ho) hw (zbn hb) (hk _ fun _ _ h=>h)
theorem RG.prim2 (hl:h.Low) (ho:ops.toList[i]?=some o) (hw:Region.wanted o (zaj ops tmps)=true) (hb:opOK o.op=true) (hq:wrB W i o=false)
    (hk:∀ K:List Value->σ->Prop,(∀ t S',RGF X W ops n0 hf Kf (i+1) t h S' born->K t S')->zd3 (fun f args=>fnOK P f=true/\∃ v S',X.prim f args S v S'/\K (putL o.dst v tmps) S') (zaW P (evA tmps) o.op)) (hnf:farB W i=false:=by rfl):RGF X W ops n0 hf Kf i tmps h S born:=by
  have:=hk _ fun _ _ h=>h;cases hv:zaW P (evA tmps) o.op with
  | none=>rw [hv] at this;exact this.elim
  | some x =>
    obtain⟨f,args⟩:=x;rw [hv] at this;obtain⟨hf,hr⟩:=this;obtain⟨g,h1,h2⟩:=ziT hf;exact RG.prim (g:=g) hl (zbl ho) hw (zbn hb) hq (by rw [hv];exact⟨h1,h2,hr⟩) hnf
theorem RG.call2 (hl:h.Low) (ho:ops.toList[i]?=some o) (hw:Region.wanted o (zaj ops tmps)=true) (hb:opOK o.op=true) (hq:wrB W i o=false)
    (hk:∀ K:List Value->σ->Prop,(∀ t S',RGF X W ops n0 hf Kf (i+1) t h S' born->K t S')->zd3 (fun f args=>∃ v S',Does X f args [] S v S'/\K (putL o.dst v tmps) S') (zaW P (evA tmps) o.op)) (hnf:farB W i=false:=by rfl):RGF X W ops n0 hf Kf i tmps h S born :=
  RG.call hl (zbl ho) hw (zbn hb) hq (hk _ fun _ _ h=>h) hnf
end
attribute [go_sem] OpK NewK zfY zd3 zsr zqr zrn zpD zo5 zsz zpR zs0 v_un zor zrd zrT zme zmo zkr zjQ zsd zpV zsh znz zlD zn9 ziI ztc zs4 zs7 zth zs2 ztm zte ztl zrx zog znC zqf zsW zs9 zsZ zq9 wrap_i64 zlu zhD zoy Option.join_some zaJ zaa zad zni zn1 zmg zny zku zj9 zl8 zoU znD List.getElem?_cons_zero List.getElem?_cons_succ Array.toArray_toList if_true if_false List.getElem?_toArray List.length_cons List.length_nil List.map_toArray List.map_cons List.map_nil List.append_toArray List.cons_append List.nil_append true_and List.getD_cons_zero List.getD_cons_succ List.set_cons_zero List.set_cons_succ newA zdw zcr zcq zgl zgB zjX lenA zce zdV zpt zml Int.toNat_natCast
attribute [go_sem high] znR
attribute [go_sem] zoE eq_self and_false false_and List.drop_succ_cons List.drop_zero List.take_succ_cons List.take_zero zjK zmE zoX zmr zm7 zkl zj7 zlt zns zoY zo1 zqs List.size_toArray List.all_cons List.all_nil Bool.and_true ztn zs1 Int.cast_ofNat_Int decide_true decide_false zst zs6 ztf cond_true cond_false Option.isNone_some Option.isNone_none Bool.not_true Bool.not_false ztr zq2 zre zg2 zoq zp0 zov zmR zka zmF zbr Option.map_some
attribute [go_sem] and_true Nat.le_refl Nat.zero_add
attribute [go_sem_proc] Nat.reduceLT Nat.reduceGT Nat.reduceEqDiff Int.reduceNatCast Int.reduceEq Int.reduceNe Nat.reduceDiv Nat.reduceMod Int.reduceTDiv Int.reduceTMod Nat.reduceAdd Nat.reduceLeDiff Nat.reduceMul Nat.reduceSub Int.reduceLE Int.reduceLT Int.reduceToNat Int.reduceAdd Int.reduceSub Int.reduceMul Int.reduceBEq Int.reduceBNe Int.reduceNeg
theorem Try.eql7 (y:Operand) (a0 b0:Int) (a1 b1:Int) (a2 b2:Bool) (a3 b3:Int):zaR Try.prog .eql 7 y (.agg #[.int .i64 a0,.int .i64 a1,.bool a2,.int .u8 a3]) (.agg #[.int .i64 b0,.int .i64 b1,.bool b2,.int .u8 b3])=some (.bool (a0==b0 && (a1==b1 && (a2==b2 && (a3==b3 && true))))):=by kernel_rfl
theorem Try.neq7 (y:Operand) (a0 b0:Int) (a1 b1:Int) (a2 b2:Bool) (a3 b3:Int):zaR Try.prog .neq 7 y (.agg #[.int .i64 a0,.int .i64 a1,.bool a2,.int .u8 a3]) (.agg #[.int .i64 b0,.int .i64 b1,.bool b2,.int .u8 b3])=some (.bool !(a0==b0 && (a1==b1 && (a2==b2 && (a3==b3 && true))))):=by kernel_rfl
theorem Try.eql8 (y:Operand) (a0 b0:Int) (a1 b1:Int) (a2 b2:Bool) (a3 b3:Int):zaR Try.prog .eql 8 y (.agg #[.int .i64 a0,.int .i64 a1,.bool a2,.int .u8 a3]) (.agg #[.int .i64 b0,.int .i64 b1,.bool b2,.int .u8 b3])=some (.bool (a0==b0 && (a1==b1 && (a2==b2 && (a3==b3 && true))))):=by kernel_rfl
theorem Try.neq8 (y:Operand) (a0 b0:Int) (a1 b1:Int) (a2 b2:Bool) (a3 b3:Int):zaR Try.prog .neq 8 y (.agg #[.int .i64 a0,.int .i64 a1,.bool a2,.int .u8 a3]) (.agg #[.int .i64 b0,.int .i64 b1,.bool b2,.int .u8 b3])=some (.bool !(a0==b0 && (a1==b1 && (a2==b2 && (a3==b3 && true))))):=by kernel_rfl
theorem Try.eql30 (y:Operand) (a0 b0:Int) (a1 b1:Int) (a2 b2:Int) (a3 b3:Int):zaR Try.prog .eql 30 y (.agg #[.int .u8 a0,.int .i64 a1,.int .u64 a2,.int .u64 a3]) (.agg #[.int .u8 b0,.int .i64 b1,.int .u64 b2,.int .u64 b3])=some (.bool (a0==b0 && (a1==b1 && (a2==b2 && (a3==b3 && true))))):=by kernel_rfl
theorem Try.neq30 (y:Operand) (a0 b0:Int) (a1 b1:Int) (a2 b2:Int) (a3 b3:Int):zaR Try.prog .neq 30 y (.agg #[.int .u8 a0,.int .i64 a1,.int .u64 a2,.int .u64 a3]) (.agg #[.int .u8 b0,.int .i64 b1,.int .u64 b2,.int .u64 b3])=some (.bool !(a0==b0 && (a1==b1 && (a2==b2 && (a3==b3 && true))))):=by kernel_rfl
theorem Try.eql31 (y:Operand) (a0 b0:Int) (a1 b1:Int) (a2 b2:Int) (a3 b3:Int):zaR Try.prog .eql 31 y (.agg #[.int .u8 a0,.int .i64 a1,.int .u64 a2,.int .u64 a3]) (.agg #[.int .u8 b0,.int .i64 b1,.int .u64 b2,.int .u64 b3])=some (.bool (a0==b0 && (a1==b1 && (a2==b2 && (a3==b3 && true))))):=by kernel_rfl
theorem Try.neq31 (y:Operand) (a0 b0:Int) (a1 b1:Int) (a2 b2:Int) (a3 b3:Int):zaR Try.prog .neq 31 y (.agg #[.int .u8 a0,.int .i64 a1,.int .u64 a2,.int .u64 a3]) (.agg #[.int .u8 b0,.int .i64 b1,.int .u64 b2,.int .u64 b3])=some (.bool !(a0==b0 && (a1==b1 && (a2==b2 && (a3==b3 && true))))):=by kernel_rfl
theorem Try.eql36 (y:Operand) (a0 b0:Int) (a1 b1:Int) (a2 b2:Int) (a3 b3:Int) (a4 b4:Int):zaR Try.prog .eql 36 y (.agg #[.int .u64 a0,.int .u64 a1,.int .u64 a2,.int .u64 a3,.int .u64 a4]) (.agg #[.int .u64 b0,.int .u64 b1,.int .u64 b2,.int .u64 b3,.int .u64 b4])=some (.bool (a0==b0 && (a1==b1 && (a2==b2 && (a3==b3 && (a4==b4 && true)))))):=by kernel_rfl
theorem Try.neq36 (y:Operand) (a0 b0:Int) (a1 b1:Int) (a2 b2:Int) (a3 b3:Int) (a4 b4:Int):zaR Try.prog .neq 36 y (.agg #[.int .u64 a0,.int .u64 a1,.int .u64 a2,.int .u64 a3,.int .u64 a4]) (.agg #[.int .u64 b0,.int .u64 b1,.int .u64 b2,.int .u64 b3,.int .u64 b4])=some (.bool !(a0==b0 && (a1==b1 && (a2==b2 && (a3==b3 && (a4==b4 && true)))))):=by kernel_rfl
theorem Try.eql37 (y:Operand) (a0 b0:Int) (a1 b1:Int) (a2 b2:Int) (a3 b3:Int) (a4 b4:Int):zaR Try.prog .eql 37 y (.agg #[.int .u64 a0,.int .u64 a1,.int .u64 a2,.int .u64 a3,.int .u64 a4]) (.agg #[.int .u64 b0,.int .u64 b1,.int .u64 b2,.int .u64 b3,.int .u64 b4])=some (.bool (a0==b0 && (a1==b1 && (a2==b2 && (a3==b3 && (a4==b4 && true)))))):=by kernel_rfl
theorem Try.neq37 (y:Operand) (a0 b0:Int) (a1 b1:Int) (a2 b2:Int) (a3 b3:Int) (a4 b4:Int):zaR Try.prog .neq 37 y (.agg #[.int .u64 a0,.int .u64 a1,.int .u64 a2,.int .u64 a3,.int .u64 a4]) (.agg #[.int .u64 b0,.int .u64 b1,.int .u64 b2,.int .u64 b3,.int .u64 b4])=some (.bool !(a0==b0 && (a1==b1 && (a2==b2 && (a3==b3 && (a4==b4 && true)))))):=by kernel_rfl
theorem Try.ty0 :
  zaP Try.prog 2=some false /\
  zal Try.prog 2=some 1 /\
  tyMk Try.prog 2=true /\
  zap Try.prog 2=some 8 /\
  zaw Try.prog 2=some (.int .i64 0) /\
  zac (.int .i64 0)=true /\
  zaP Try.prog 3=some false /\
  zal Try.prog 3=some 1 /\
  tyMk Try.prog 3=true /\
  zap Try.prog 3=some 8 /\
  zaw Try.prog 3=some (.int .i64 0) /\
  zaP Try.prog 4=some false /\
  zal Try.prog 4=some 1 /\
  tyMk Try.prog 4=true /\
  zlq Try.prog 4=true /\
  zap Try.prog 4=some 1 /\
  zaw Try.prog 4=some (.bool false) /\
  zac (.bool false)=true /\
  zaP Try.prog 5=some false /\
  zal Try.prog 5=some 1 /\
  tyMk Try.prog 5=true /\
  zap Try.prog 5=some 1 /\
  zaw Try.prog 5=some (.int .u8 0) /\
  zac (.int .u8 0)=true:=by (repeat' apply And.intro)<;>kernel_rfl
theorem Try.ty2 :
  zap Try.prog 8=some 24 /\
  zaw Try.prog 8=some (.agg #[.int .i64 0,.int .i64 0,.bool false,.int .u8 0]) /\
  zaP Try.prog 9=some false /\
  zal Try.prog 9=some 1 /\
  tyMk Try.prog 9=true /\
  zap Try.prog 9=some 16 /\
  zaw Try.prog 9=some (.string ⟨#[]⟩) /\
  zac (.string ⟨#[]⟩)=true /\
  zaP Try.prog 10=some false /\
  zal Try.prog 10=some 1 /\
  zap Try.prog 10=some 16 /\
  zaw Try.prog 10=some (.string ⟨#[]⟩) /\
  zaP Try.prog 11=some false /\
  zal Try.prog 11=some 1 /\
  zap Try.prog 11=some 16 /\
  zaw Try.prog 11=some (.string ⟨#[]⟩) /\
  zaP Try.prog 12=some false /\
  zal Try.prog 12=some 1 /\
  tyMk Try.prog 12=true /\
  zap Try.prog 12=some 8 /\
  zaw Try.prog 12=some (.int .u64 0) /\
  zac (.int .u64 0)=true /\
  zaP Try.prog 13=some true /\
  zal Try.prog 13=some 2:=by (repeat' apply And.intro)<;>kernel_rfl
theorem Try.ty5 :
  zal Try.prog 19=some 1 /\
  zak Try.prog 19 0=some (0,17) /\
  (zbk Try.prog 19=some fun i=>([(0,1)]:List (Nat × Nat))[i]?) /\
  tyMk Try.prog 19=true /\
  zap Try.prog 19=some 8 /\
  zaw Try.prog 19=some (.agg #[.pointer none]) /\
  zaP Try.prog 20=some false /\
  zal Try.prog 20=some 1 /\
  zqX Try.prog 20=true /\
  zap Try.prog 20=some 16 /\
  zaw Try.prog 20=some (.nilIface) /\
  zac (.nilIface)=true /\
  zaP Try.prog 21=some false /\
  zal Try.prog 21=some 1 /\
  tyMk Try.prog 21=true /\
  zap Try.prog 21=some 4 /\
  zaw Try.prog 21=some (.int .i32 0) /\
  zac (.int .i32 0)=true /\
  zaP Try.prog 22=some false /\
  zal Try.prog 22=some 1 /\
  tyMk Try.prog 22=true /\
  zfu Try.prog 22=true /\
  zap Try.prog 22=some 8 /\
  zaw Try.prog 22=some (.pointer none):=by (repeat' apply And.intro)<;>kernel_rfl
theorem Try.ty6 :
  za9 Try.prog 22 "Busy" = some 9 ∧
  za9 Try.prog 22 "Close" = some 14 ∧
  za9 Try.prog 22 "Grant" = some 11 ∧
  za9 Try.prog 22 "Pending" = some 10 ∧
  za9 Try.prog 22 "Start" = some 7 ∧
  za9 Try.prog 22 "Steps" = some 18 ∧
  za9 Try.prog 22 "Told" = some 16 ∧
  zaP Try.prog 25=some false /\
  zal Try.prog 25=some 1 /\
  zqX Try.prog 25=true /\
  zap Try.prog 25=some 16 /\
  zaw Try.prog 25=some (.nilIface) /\
  zaP Try.prog 26=some false /\
  zal Try.prog 26=some 1 /\
  zqX Try.prog 26=true /\
  zap Try.prog 26=some 16 /\
  zaw Try.prog 26=some (.nilIface) /\
  zaP Try.prog 29=some false /\
  zal Try.prog 29=some 1 /\
  tyMk Try.prog 29=true /\
  zap Try.prog 29=some 8 /\
  zaw Try.prog 29=some (.int .u64 0) /\
  zaP Try.prog 30=some true /\
  zal Try.prog 30=some 4:=by (repeat' apply And.intro)<;>kernel_rfl
theorem Try.ty7 :
  zak Try.prog 30 0=some (0,5) /\
  zak Try.prog 30 1=some (1,3) /\
  zak Try.prog 30 2=some (2,29) /\
  zak Try.prog 30 3=some (3,29) /\
  (zbk Try.prog 30=some fun i=>([(0,1),(1,1),(2,1),(3,1)]:List (Nat × Nat))[i]?) /\
  tyMk Try.prog 30=true /\
  zap Try.prog 30=some 32 /\
  zaw Try.prog 30=some (.agg #[.int .u8 0,.int .i64 0,.int .u64 0,.int .u64 0]) /\
  zac (.agg #[.int .u8 0,.int .i64 0,.int .u64 0,.int .u64 0])=true /\
  zaP Try.prog 31=some true /\
  zal Try.prog 31=some 4 /\
  zak Try.prog 31 0=some (0,5) /\
  zak Try.prog 31 1=some (1,3) /\
  zak Try.prog 31 2=some (2,29) /\
  zak Try.prog 31 3=some (3,29) /\
  (zbk Try.prog 31=some fun i=>([(0,1),(1,1),(2,1),(3,1)]:List (Nat × Nat))[i]?) /\
  tyMk Try.prog 31=true /\
  zap Try.prog 31=some 32 /\
  zaw Try.prog 31=some (.agg #[.int .u8 0,.int .i64 0,.int .u64 0,.int .u64 0]) /\
  zaP Try.prog 36=some true /\
  zal Try.prog 36=some 5 /\
  zak Try.prog 36 0=some (0,29) /\
  zak Try.prog 36 1=some (1,29) /\
  zak Try.prog 36 2=some (2,29):=by (repeat' apply And.intro)<;>kernel_rfl
theorem Try.ty9 :
  zal Try.prog 39=some 11 /\
  zak Try.prog 39 0=some (0,3) /\
  zak Try.prog 39 1=some (1,3) /\
  zak Try.prog 39 2=some (2,5) /\
  zak Try.prog 39 3=some (3,37) /\
  zak Try.prog 39 4=some (8,38) /\
  zak Try.prog 39 5=some (9,3) /\
  zak Try.prog 39 6=some (10,3) /\
  (zbk Try.prog 39=some fun i=>([(0,1),(1,1),(2,1),(3,5),(8,1),(9,1),(10,1)]:List (Nat × Nat))[i]?) /\
  tyMk Try.prog 39=true /\
  zap Try.prog 39=some 88 /\
  zaw Try.prog 39=some (.agg #[.int .i64 0,.int .i64 0,.int .u8 0,.int .u64 0,.int .u64 0,.int .u64 0,.int .u64 0,.int .u64 0,.int .i64 0,.int .i64 0,.int .i64 0]) /\
  zac (.agg #[.int .i64 0,.int .i64 0,.int .u8 0,.int .u64 0,.int .u64 0,.int .u64 0,.int .u64 0,.int .u64 0,.int .i64 0,.int .i64 0,.int .i64 0])=true /\
  zaP Try.prog 40=some true /\
  zal Try.prog 40=some 11 /\
  zak Try.prog 40 0=some (0,3) /\
  zak Try.prog 40 1=some (1,3) /\
  zak Try.prog 40 2=some (2,5) /\
  zak Try.prog 40 3=some (3,37) /\
  zak Try.prog 40 4=some (8,38) /\
  zak Try.prog 40 5=some (9,3) /\
  zak Try.prog 40 6=some (10,3) /\
  (zbk Try.prog 40=some fun i=>([(0,1),(1,1),(2,1),(3,5),(8,1),(9,1),(10,1)]:List (Nat × Nat))[i]?) /\
  tyMk Try.prog 40=true:=by (repeat' apply And.intro)<;>kernel_rfl
theorem Try.ty10 :
  zap Try.prog 40=some 88 /\
  zaw Try.prog 40=some (.agg #[.int .i64 0,.int .i64 0,.int .u8 0,.int .u64 0,.int .u64 0,.int .u64 0,.int .u64 0,.int .u64 0,.int .i64 0,.int .i64 0,.int .i64 0]) /\
  zaP Try.prog 44=some false /\
  zal Try.prog 44=some 1 /\
  zmI Try.prog 44=true /\
  zap Try.prog 44=some 24 /\
  za8 Try.prog 44=some 46 /\
  zaw Try.prog 44=some (.slice none 0 0) /\
  zac (.slice none 0 0)=true /\
  zaP Try.prog 45=some false /\
  zal Try.prog 45=some 1 /\
  zmI Try.prog 45=true /\
  zap Try.prog 45=some 24 /\
  za8 Try.prog 45=some 5 /\
  zaw Try.prog 45=some (.slice none 0 0) /\
  zaP Try.prog 46=some false /\
  zal Try.prog 46=some 1 /\
  zmI Try.prog 46=true /\
  zap Try.prog 46=some 24 /\
  za8 Try.prog 46=some 31 /\
  zaw Try.prog 46=some (.slice none 0 0) /\
  zaP Try.prog 47=some false /\
  zal Try.prog 47=some 1 /\
  zmI Try.prog 47=true:=by (repeat' apply And.intro)<;>kernel_rfl
theorem Try.ty11 :
  zap Try.prog 47=some 24 /\
  za8 Try.prog 47=some 29 /\
  zaw Try.prog 47=some (.slice none 0 0) /\
  zaP Try.prog 48=some true /\
  zal Try.prog 48=some 2 /\
  zak Try.prog 48 0=some (0,47) /\
  zak Try.prog 48 1=some (1,45) /\
  (zbk Try.prog 48=some fun i=>([(0,1),(1,1)]:List (Nat × Nat))[i]?) /\
  tyMk Try.prog 48=true /\
  zap Try.prog 48=some 48 /\
  zaw Try.prog 48=some (.agg #[.slice none 0 0,.slice none 0 0]) /\
  zac (.agg #[.slice none 0 0,.slice none 0 0])=true /\
  zaP Try.prog 49=some true /\
  zal Try.prog 49=some 2 /\
  zak Try.prog 49 0=some (0,47) /\
  zak Try.prog 49 1=some (1,45) /\
  (zbk Try.prog 49=some fun i=>([(0,1),(1,1)]:List (Nat × Nat))[i]?) /\
  tyMk Try.prog 49=true /\
  zap Try.prog 49=some 48 /\
  zaw Try.prog 49=some (.agg #[.slice none 0 0,.slice none 0 0]) /\
  zaP Try.prog 50=some false /\
  zal Try.prog 50=some 1 /\
  zmI Try.prog 50=true /\
  zap Try.prog 50=some 24:=by (repeat' apply And.intro)<;>kernel_rfl
theorem Try.ty12 :
  za8 Try.prog 50=some 47 /\
  zaw Try.prog 50=some (.slice none 0 0) /\
  zaP Try.prog 53=some false /\
  zal Try.prog 53=some 1 /\
  tyMk Try.prog 53=true /\
  zfu Try.prog 53=true /\
  zap Try.prog 53=some 8 /\
  zaw Try.prog 53=some (.pointer none) /\
  za9 Try.prog 53 "Bytes" = some 41 ∧
  za9 Try.prog 53 "Do" = some 24 ∧
  za9 Try.prog 53 "Words" = some 39 ∧
  zaP Try.prog 55=some false /\
  zal Try.prog 55=some 1 /\
  zmI Try.prog 55=true /\
  zap Try.prog 55=some 24 /\
  za8 Try.prog 55=some 22 /\
  zaw Try.prog 55=some (.slice none 0 0) /\
  zaP Try.prog 57=some false /\
  zal Try.prog 57=some 1 /\
  tyMk Try.prog 57=true /\
  zfu Try.prog 57=true /\
  zap Try.prog 57=some 8 /\
  zaw Try.prog 57=some (.pointer none) /\
  zaP Try.prog 62=some false:=by (repeat' apply And.intro)<;>kernel_rfl
theorem Try.ty13 :
  zal Try.prog 62=some 1 /\
  tyMk Try.prog 62=true /\
  zfu Try.prog 62=true /\
  zap Try.prog 62=some 8 /\
  zaw Try.prog 62=some (.pointer none) /\
  za9 Try.prog 62 "Add" = some 63 ∧
  za9 Try.prog 62 "CAS" = some 64 ∧
  za9 Try.prog 62 "Fresh" = some 65 ∧
  za9 Try.prog 62 "Get" = some 66 ∧
  za9 Try.prog 62 "Load" = some 67 ∧
  za9 Try.prog 62 "Put" = some 68 ∧
  za9 Try.prog 62 "Self" = some 69 ∧
  za9 Try.prog 62 "Steps" = some 29 ∧
  za9 Try.prog 62 "Store" = some 70 ∧
  za9 Try.prog 62 "Tell" = some 71 ∧
  za9 Try.prog 62 "Told" = some 28 ∧
  zaP Try.prog 67=some false /\
  zal Try.prog 67=some 1 /\
  zap Try.prog 67=some 8 /\
  zaP Try.prog 68=some false /\
  zal Try.prog 68=some 1 /\
  tyMk Try.prog 68=true /\
  zfu Try.prog 68=true /\
  zap Try.prog 68=some 8:=by (repeat' apply And.intro)<;>kernel_rfl
theorem Try.ty14 :
  zaw Try.prog 68=some (.pointer none) /\
  za9 Try.prog 68 "Add" = some 73 ∧
  za9 Try.prog 68 "CAS" = some 74 ∧
  za9 Try.prog 68 "Get" = some 75 ∧
  za9 Try.prog 68 "Load" = some 76 ∧
  za9 Try.prog 68 "Put" = some 77 ∧
  za9 Try.prog 68 "Self" = some 78 ∧
  za9 Try.prog 68 "Steps" = some 79 ∧
  za9 Try.prog 68 "Store" = some 80 ∧
  za9 Try.prog 68 "Tell" = some 81 ∧
  zaP Try.prog 69=some false /\
  zal Try.prog 69=some 1 /\
  zap Try.prog 69=some 8 /\
  zaP Try.prog 70=some false /\
  zal Try.prog 70=some 1 /\
  tyMk Try.prog 70=true /\
  zfu Try.prog 70=true /\
  zap Try.prog 70=some 8 /\
  zaw Try.prog 70=some (.pointer none) /\
  zaP Try.prog 71=some true /\
  zal Try.prog 71=some 7 /\
  zak Try.prog 71 0=some (0,3) /\
  zak Try.prog 71 1=some (1,68) /\
  zak Try.prog 71 2=some (2,69):=by (repeat' apply And.intro)<;>kernel_rfl
theorem Try.ty15 :
  zak Try.prog 71 3=some (3,70) /\
  zak Try.prog 71 4=some (4,4) /\
  zak Try.prog 71 5=some (5,4) /\
  zak Try.prog 71 6=some (6,67) /\
  (zbk Try.prog 71=some fun i=>([(0,1),(1,1),(2,1),(3,1),(4,1),(5,1),(6,1)]:List (Nat × Nat))[i]?) /\
  tyMk Try.prog 71=true /\
  zap Try.prog 71=some 48 /\
  zaP Try.prog 72=some true /\
  zal Try.prog 72=some 7 /\
  zak Try.prog 72 0=some (0,3) /\
  zak Try.prog 72 1=some (1,68) /\
  zak Try.prog 72 2=some (2,69) /\
  zak Try.prog 72 3=some (3,70) /\
  zak Try.prog 72 4=some (4,4) /\
  zak Try.prog 72 5=some (5,4) /\
  zak Try.prog 72 6=some (6,67) /\
  (zbk Try.prog 72=some fun i=>([(0,1),(1,1),(2,1),(3,1),(4,1),(5,1),(6,1)]:List (Nat × Nat))[i]?) /\
  tyMk Try.prog 72=true /\
  zap Try.prog 72=some 48 /\
  zaP Try.prog 73=some false /\
  zal Try.prog 73=some 1 /\
  zap Try.prog 73=some 8 /\
  zaP Try.prog 74=some false /\
  zal Try.prog 74=some 1:=by (repeat' apply And.intro)<;>kernel_rfl
theorem Try.ty16 :
  zap Try.prog 74=some 8 /\
  zaP Try.prog 75=some false /\
  zal Try.prog 75=some 1 /\
  tyMk Try.prog 75=true /\
  zfu Try.prog 75=true /\
  zap Try.prog 75=some 8 /\
  zaw Try.prog 75=some (.pointer none) /\
  zaP Try.prog 76=some true /\
  zal Try.prog 76=some 6 /\
  zak Try.prog 76 0=some (0,3) /\
  zak Try.prog 76 1=some (1,3) /\
  zak Try.prog 76 2=some (2,75) /\
  zak Try.prog 76 3=some (3,73) /\
  zak Try.prog 76 4=some (4,74) /\
  zak Try.prog 76 5=some (5,67) /\
  (zbk Try.prog 76=some fun i=>([(0,1),(1,1),(2,1),(3,1),(4,1),(5,1)]:List (Nat × Nat))[i]?) /\
  tyMk Try.prog 76=true /\
  zap Try.prog 76=some 48 /\
  zaP Try.prog 77=some true /\
  zal Try.prog 77=some 6 /\
  zak Try.prog 77 0=some (0,3) /\
  zak Try.prog 77 1=some (1,3) /\
  zak Try.prog 77 2=some (2,75) /\
  zak Try.prog 77 3=some (3,73):=by (repeat' apply And.intro)<;>kernel_rfl
theorem Try.ty17 :
  zak Try.prog 77 4=some (4,74) /\
  zak Try.prog 77 5=some (5,67) /\
  (zbk Try.prog 77=some fun i=>([(0,1),(1,1),(2,1),(3,1),(4,1),(5,1)]:List (Nat × Nat))[i]?) /\
  tyMk Try.prog 77=true /\
  zap Try.prog 77=some 48 /\
  zaP Try.prog 91=some true /\
  zal Try.prog 91=some 5 /\
  (zbk Try.prog 91=some fun i=>some (i * 1,1)) /\
  zap Try.prog 91=some 40 /\
  zeJ Try.prog 91=some (5,90) /\
  zaw Try.prog 91=some (.agg #[.nilFunc,.nilFunc,.nilFunc,.nilFunc,.nilFunc]) /\
  zac (.agg #[.nilFunc,.nilFunc,.nilFunc,.nilFunc,.nilFunc])=true /\
  zaP Try.prog 93=some true /\
  zal Try.prog 93=some 2 /\
  zak Try.prog 93 0=some (0,47) /\
  zak Try.prog 93 1=some (1,45) /\
  (zbk Try.prog 93=some fun i=>([(0,1),(1,1)]:List (Nat × Nat))[i]?) /\
  tyMk Try.prog 93=true /\
  zap Try.prog 93=some 48 /\
  zaw Try.prog 93=some (.agg #[.slice none 0 0,.slice none 0 0]) /\
  zaP Try.prog 94=some true /\
  zal Try.prog 94=some 2 /\
  zak Try.prog 94 0=some (0,47) /\
  zak Try.prog 94 1=some (1,45):=by (repeat' apply And.intro)<;>kernel_rfl
theorem Try.ty18 :
  (zbk Try.prog 94=some fun i=>([(0,1),(1,1)]:List (Nat × Nat))[i]?) /\
  tyMk Try.prog 94=true /\
  zap Try.prog 94=some 48 /\
  zaw Try.prog 94=some (.agg #[.slice none 0 0,.slice none 0 0]) /\
  zaP Try.prog 95=some false /\
  zal Try.prog 95=some 1 /\
  tyMk Try.prog 95=true /\
  zfu Try.prog 95=true /\
  zap Try.prog 95=some 8 /\
  zaw Try.prog 95=some (.pointer none) /\
  zaP Try.prog 96=some true /\
  zal Try.prog 96=some 2 /\
  zak Try.prog 96 0=some (0,53) /\
  zak Try.prog 96 1=some (1,3) /\
  (zbk Try.prog 96=some fun i=>([(0,1),(1,1)]:List (Nat × Nat))[i]?) /\
  tyMk Try.prog 96=true /\
  zap Try.prog 96=some 16 /\
  zaw Try.prog 96=some (.agg #[.pointer none,.int .i64 0]) /\
  zac (.agg #[.pointer none,.int .i64 0])=true /\
  zaP Try.prog 97=some true /\
  zal Try.prog 97=some 2 /\
  zak Try.prog 97 0=some (0,53) /\
  zak Try.prog 97 1=some (1,3) /\
  (zbk Try.prog 97=some fun i=>([(0,1),(1,1)]:List (Nat × Nat))[i]?):=by (repeat' apply And.intro)<;>kernel_rfl
theorem Try.ty19 :
  tyMk Try.prog 97=true /\
  zap Try.prog 97=some 16 /\
  zaw Try.prog 97=some (.agg #[.pointer none,.int .i64 0]) /\
  zaP Try.prog 98=some true /\
  zal Try.prog 98=some 3 /\
  zak Try.prog 98 0=some (0,95) /\
  zak Try.prog 98 1=some (1,3) /\
  zak Try.prog 98 2=some (2,75) /\
  (zbk Try.prog 98=some fun i=>([(0,1),(1,1),(2,1)]:List (Nat × Nat))[i]?) /\
  tyMk Try.prog 98=true /\
  zap Try.prog 98=some 24 /\
  zaw Try.prog 98=some (.agg #[.pointer none,.int .i64 0,.pointer none]) /\
  zac (.agg #[.pointer none,.int .i64 0,.pointer none])=true /\
  zaP Try.prog 99=some true /\
  zal Try.prog 99=some 3 /\
  zak Try.prog 99 0=some (0,95) /\
  zak Try.prog 99 1=some (1,3) /\
  zak Try.prog 99 2=some (2,75) /\
  (zbk Try.prog 99=some fun i=>([(0,1),(1,1),(2,1)]:List (Nat × Nat))[i]?) /\
  tyMk Try.prog 99=true /\
  zap Try.prog 99=some 24 /\
  zaw Try.prog 99=some (.agg #[.pointer none,.int .i64 0,.pointer none]) /\
  zaP Try.prog 101=some false /\
  zal Try.prog 101=some 1:=by (repeat' apply And.intro)<;>kernel_rfl
theorem Try.ty25 :
  zap Try.prog 122=some 48 /\
  zaw Try.prog 122=some (.agg #[.int .u64 0,.int .u64 0,.int .u32 0,.int .u8 0,.int .u8 0,.int .u8 0,.int .u8 0,.nilFunc,.pointer none,.int .i32 0,.int .i32 0]) /\
  zaP Try.prog 125=some false /\
  zal Try.prog 125=some 1 /\
  zap Try.prog 125=some 8 /\
  zaw Try.prog 125=some (.pointer none) /\
  zg5 Try.prog 5 3=some .i64 /\
  zg5 Try.prog 5 29=some .u64 /\
  zg5 Try.prog 29 3=some .i64 /\
  zg5 Try.prog 29 5=some .u8 /\
  fnOK Try.prog 2=true /\
  fnOK Try.prog 3=true /\
  fnOK Try.prog 4=true /\
  fnOK Try.prog 5=true /\
  fnOK Try.prog 6=true /\
  fnOK Try.prog 7=true /\
  fnOK Try.prog 8=true /\
  fnOK Try.prog 9=true /\
  fnOK Try.prog 10=true /\
  fnOK Try.prog 11=true /\
  fnOK Try.prog 12=true /\
  fnOK Try.prog 14=true /\
  fnOK Try.prog 16=true /\
  fnOK Try.prog 18=true:=by (repeat' apply And.intro)<;>kernel_rfl
theorem Try.ty27 :
  fnOK Try.prog 43=true /\
  fnOK Try.prog 44=true /\
  fnOK Try.prog 45=true /\
  fnOK Try.prog 46=true /\
  fnOK Try.prog 47=true /\
  fnOK Try.prog 63=true /\
  fnOK Try.prog 64=true /\
  fnOK Try.prog 66=true /\
  fnOK Try.prog 67=true /\
  fnOK Try.prog 68=true /\
  fnOK Try.prog 69=true /\
  fnOK Try.prog 70=true /\
  fnOK Try.prog 71=true /\
  fnOK Try.prog 72=true /\
  fnOK Try.prog 73=true /\
  fnOK Try.prog 74=true /\
  fnOK Try.prog 75=true /\
  fnOK Try.prog 76=true /\
  fnOK Try.prog 77=true /\
  fnOK Try.prog 78=true /\
  fnOK Try.prog 79=true /\
  fnOK Try.prog 80=true /\
  fnOK Try.prog 81=true /\
  fnOK Try.prog 82=true:=by (repeat' apply And.intro)<;>kernel_rfl
attribute [go_sem] Try.eql7 Try.neq7 Try.eql8 Try.neq8 Try.eql30 Try.neq30 Try.eql31 Try.neq31 Try.eql36 Try.neq36 Try.eql37 Try.neq37 Try.ty0 Try.ty2 Try.ty5 Try.ty6 Try.ty7 Try.ty9 Try.ty10 Try.ty11 Try.ty12 Try.ty13 Try.ty14 Try.ty15 Try.ty16 Try.ty17 Try.ty18 Try.ty19 Try.ty25 Try.ty27
def upN (ns:List Nat) (nx:Nat) (n:Nat):Nat:=if n<ns.length then ns.getD n 0 else if n<VB then nx+(n - ns.length) else n
def upE (ns:List Nat) (nx:Nat):Emb:=zc1 (upN ns nx)
def renB (E:Emb) (b:Blk):Blk:={ b with cells:=b.cells.map (ren E) }
structure Gives (cnt:Nat) (l l' new:List Blk) (ex:List Nat) (R:Nat->Nat) (h1:AHeap) (v0 v:Value):Prop where
  low:∀ n,n<l.length->R n=n
  hand:∀ n,VB<=n->R n=n
  more:∀ (j n:Nat),ex[j]?=some n->l.length<=n/\n<VB/\R n=l.length+j
  nodup:ex.Nodup
  len:ex.length=new.length
  len':l'.length=l.length
  told:v=ren (zc1 R) v0
  clo:Clo (fun n=>n<l.length\/n∈ex\/(VB<=n/\n<VB+cnt)) v0
  rows:∀ (i:Nat) (b:Blk),l[i]?=some b->b.ro=false->∃ b1,h1.get i=some b1/\l'[i]?=some (renB (zc1 R) b1)/\b1.ro=false/\∀ u∈b1.cells,Clo (fun n=>n<l.length\/n∈ex\/(VB<=n/\n<VB+cnt)) u
  news:∀ (j n:Nat),ex[j]?=some n->∃ b1,h1.get n=some b1/\new[j]?=some (renB (zc1 R) b1)/\b1.ro=false/\∀ u∈b1.cells,Clo (fun n=>n<l.length\/n∈ex\/(VB<=n/\n<VB+cnt)) u
section
variable {P:Program} {σ:Type} {X:Face P σ}
def DoesX (X:Face P σ) (f:FuncId) (args:Array Value) (l:List Blk) (S:σ) (v:Value) (l' new:List Blk) (S':σ):Prop :=
  ∃ g c h1 v0 ex R,P.funcs[f]?=some g/\goB g=true/\g.body=some c/\(∀ u∈args.toList,Clo (Kn l.length (X.cnt S)) u)/\(∀ b∈l,∀ u∈b.cells,Clo (Kn l.length (X.cnt S)) u)/\Gives (X.cnt S') l l' new ex R h1 v0 v /\
    Goes X g (fun x=>x=.done v0 h1 S') (.run (zag g c args).1 (zag g c args).2 (zar (l.map some)) S)
def LendL (h:AHeap) (E:Emb):List Nat->List Blk->Prop
  | [],[]=>True
  | n::ns,b::l=>(∃ b0,h.get n=some b0/\b0.elem=b.elem/\b0.cells=b.cells.map (ren E)/\(b.grow=b0.grow\/b.grow=none)/\(b.ro=false->b0.ro=false))/\LendL h E ns l
  | _,_=>False
theorem LendL.spec {h:AHeap} {E:Emb}:∀ {ns:List Nat} {l:List Blk},LendL h E ns l->ns.length=l.length/\∀ (i:Nat) (b:Blk),l[i]?=some b->∃ n b0,ns[i]?=some n/\h.get n=some b0/\b0.elem=b.elem/\b0.cells=b.cells.map (ren E)/\(b.grow=b0.grow\/b.grow=none)/\(b.ro=false->b0.ro=false)
  | [],[],_=>⟨rfl,fun i b hb=>by simp at hb⟩
  | n::ns,c::l,⟨⟨b0,h0⟩,hr⟩=>by
    obtain⟨h1,h2⟩:=LendL.spec hr;refine⟨by simp [h1],fun i b hb=>?_⟩
    cases i with
    | zero=>simp at hb;subst hb;exact⟨n,b0,by simp,h0⟩
    | succ i=>simp at hb;simpa using h2 i b hb
  | [],_::_,h=>h.elim
  | _::_,[],h=>h.elim
def zdv:List Nat->List Blk->List Blk->Nat->Option Blk
  | n::ns,b::l,b'::l',m=>if n=m/\b.ro=false then some b' else zdv ns l l' m
  | _,_,_,_=>none
theorem zdg:∀ {ns:List Nat} {l l':List Blk} {m:Nat} {b':Blk},zdv ns l l' m=some b'->∃ (i:Nat) (b:Blk),ns[i]?=some m/\l[i]?=some b/\b.ro=false/\l'[i]?=some b'
  | [],_,_,_,_,h=>by simp [zdv] at h
  | _::_,[],_,_,_,h=>by simp [zdv] at h
  | _::_,_::_,[],_,_,h=>by simp [zdv] at h
  | n::ns,b::l,c::l',m,b',h=>by
    simp only [zdv] at h;split at h
    . rename_i hc;cases h;exact⟨0,b,by simp [hc.1],by simp,hc.2,by simp⟩
    . obtain⟨i,b1,h1,h2,h3,h4⟩:=zdg h;exact⟨i+1,b1,by simpa using h1,by simpa using h2,h3,by simpa using h4⟩
theorem zhN:∀ {ns:List Nat} {l l':List Blk} {m:Nat},zdv ns l l' m=none->ns.length=l.length->l'.length=l.length->∀ (i:Nat) (b:Blk),l[i]?=some b->b.ro=false->ns[i]?≠some m
  | [],[],_,_,_,_,_,i,b,hb,_=>by simp at hb
  | [],_::_,_,_,_,hl,_,_,_,_,_=>by simp at hl
  | _::_,[],_,_,_,hl,_,_,_,_,_=>by simp at hl
  | _::_,_::_,[],_,_,_,hl,_,_,_,_=>by simp at hl
  | n::ns,c::l,c'::l',m,h,hl,hl',i,b,hb,hr=>by
    simp only [zdv] at h;split at h
    . cases h
    . rename_i hc;cases i with
      | zero =>
        simp at hb;subst hb;simp only [List.getElem?_cons_zero,ne_eq,Option.some.injEq];exact fun h=>hc ⟨h,hr⟩
      | succ i =>
        simp at hb hl hl';simpa using zhN h hl hl' i b hb hr
def ziQ (h:AHeap) (E:Emb) (ns:List Nat) (l l' new:List Blk):AHeap :=
  ⟨fun m=>match zdv ns l l' m with
    | some b=>some (renB E b)
    | none=>if h.next<=m then (new[m - h.next]?).map (renB E) else h.get m,h.next+new.length⟩
theorem zhe {ns:List Nat} {nx i n:Nat} (h:ns[i]?=some n):(upE ns nx).blk i=n:=by
  have:=(List.getElem?_eq_some_iff.1 h).1;simp only [upE,zc1,upN,this,if_true];simp [List.getD,h]
theorem ziP (F E:Emb) (b:Blk):renB F (renB E b)={ b with cells:=b.cells.map (ren (F.comp E)) }:=by
  unfold renB;simp only [List.map_map];congr 1;exact List.map_congr_left fun v _=>zch F E v
theorem zpw {l:List Nat} (h:l.Nodup) {i j:Nat} (hi:i<l.length) (hj:j<l.length) (hne:i≠j):l[i]≠l[j]:=by
  rcases Nat.lt_or_gt_of_ne hne with h1|h1
  . exact List.pairwise_iff_getElem.1 h i j hi hj h1
  . exact Ne.symm (List.pairwise_iff_getElem.1 h j i hj hi h1)
theorem zjq {o:Oper} {e:Operand->Value} {h:AHeap} {S S':σ} {f:FuncId} {g:Func} {c:Code} {args:Array Value} {l l' new:List Blk} {ex:List Nat} {R:Nat->Nat} {v v0:Value} {h1:AHeap} {ns:List Nat} (hca:zaW P e o.op=some (f,args.map (ren (upE ns h.next)))) (hf:P.funcs[f]?=some g) (hg:goB g=true) (hb:g.body=some c)
    (hclo:∀ u∈args.toList,Clo (Kn l.length (X.cnt S)) u) (hcl:∀ b∈l,∀ u∈b.cells,Clo (Kn l.length (X.cnt S)) u) (G:Gives (X.cnt S') l l' new ex R h1 v0 v) (hlow:h.Low) (hL:LendL h (upE ns h.next) ns l) (hnd:ns.Nodup) (hlim:l.length+new.length<=VB) :
    CallOK X o e h S (ren (upE ns h.next) v) (ziQ h (upE ns h.next) ns l l' new) S' f g c args (upE ns h.next) ((upE ns h.next).comp (zc1 R)) (zar (l.map some)) h1 ex v0:=by
  obtain⟨hlen,hlend⟩:=hL.spec;have hget:∀ n b,(zar (l.map some)).get n=some b↔l[n]?=some b:=fun n b=>by
    rw [zaJ,List.getElem?_map];cases l[n]?<;>simp
  have zim:∀ n,VB<=n->(upE ns h.next).blk n=n:=fun n hn=>by
    have h1:¬ n<ns.length:=by omega
    have h2:¬ n<VB:=by omega
    simp only [upE,zc1,upN,h1,h2,if_false]
  have hK:∀ n,(n<l.length\/n∈ex\/(VB<=n/\n<VB+X.cnt S'))->((∃ b,(zar (l.map some)).get n=some b)\/n∈ex\/(VB<=n/\n<VB+X.cnt S')):=fun n hn=>by
    rcases hn with hn|hn
    . exact .inl ⟨l[n],(hget _ _).2 (List.getElem?_eq_getElem hn)⟩
    . exact .inr hn
  have hex:∀ (j n:Nat),ex[j]?=some n->j<new.length:=fun j n hj=>by
    rw [<-G.len];exact (List.getElem?_eq_some_iff.1 hj).1
  refine⟨hca,hf,hg,hb,⟨?_,?_,?_,?_,?_,?_⟩,?_,⟨by rw [G.len];rfl,?_,?_,?_,?_,?_,?_,?_,?_,?_,G.nodup⟩⟩
  . intro n b hb v hv;rw [hget] at hb;rw [zaa,List.length_map];exact hcl b (List.mem_of_getElem? hb) v hv
  . intro n b hb;rw [hget] at hb;rw [zaa,List.length_map];exact (List.getElem?_eq_some_iff.1 hb).1
  . intro n b hb;rw [hget] at hb;obtain⟨m,b0,k1,k2,k3,k4,k5,k6⟩:=hlend n b hb;exact⟨b0,by rw [zhe k1];exact k2,k3,.inl ⟨k4,rfl,rfl,k5,k6⟩⟩
  . intro n m b c hb hc hne _;rw [hget] at hb hc;obtain⟨x,_,k1,_⟩:=hlend n b hb;obtain⟨y,_,k2,_⟩:=hlend m c hc;rw [zhe k1,zhe k2];rintro rfl;obtain⟨h1,h1'⟩:=List.getElem?_eq_some_iff.1 k1;obtain⟨h2,h2'⟩:=List.getElem?_eq_some_iff.1 k2;exact zpw hnd h1 h2 hne (h1'.trans h2'.symm)
  . rw [zaa,List.length_map];omega
  . exact fun n hn=>⟨zim n hn,rfl,rfl⟩
  . rw [zaa,List.length_map];exact hclo
  . intro n hn;rw [zaa,List.length_map] at hn;simp only [Emb.comp,zc1,G.low n hn,upE,Nat.add_zero,and_self]
  . intro j n hj;obtain⟨k1,k2,k3⟩:=G.more j n hj;have:=hex j n hj;refine⟨by rw [zaa,List.length_map];exact k1,k2,?_,rfl,rfl⟩
    simp only [Emb.comp,zc1,k3,upE,upN,hlen];have h1:¬ l.length+j<l.length:=by omega
    have h2:l.length+j<VB:=by omega
    simp only [h1,h2,if_false,if_true];omega
  . intro n hn;refine⟨?_,rfl,rfl⟩;simp only [Emb.comp];rw [show (zc1 R).blk n=n from G.hand n hn]
    exact zim n hn
  . rw [G.told,zch]
  . exact fun F F' hs=>G.clo F F' (hs.mono hK)
  . rintro n b hb hn u hu;rcases hn with ⟨b0,hb0,hr⟩|hn
    . rw [hget] at hb0;obtain⟨b1,k1,_,_,k4⟩:=G.rows n b0 hb0 hr;rw [hb] at k1;cases k1;exact fun F F' hs=>k4 u hu F F' (hs.mono hK)
    . obtain⟨j,hj⟩:=List.getElem?_of_mem hn;obtain⟨b1,k1,_,_,k4⟩:=G.news j n hj;rw [hb] at k1;cases k1;exact fun F F' hs=>k4 u hu F F' (hs.mono hK)
  . intro j n hj;obtain⟨b1,k1,k2,_⟩:=G.news j n hj;rw [k1];unfold ziQ;simp only;have hbk:zdv ns l l' (h.next+j)=none:=by
      cases hb':zdv ns l l' (h.next+j) with
      | none=>rfl
      | some b' =>
        obtain⟨i,b,g1,g2,_⟩:=zdg hb';obtain⟨m,b0,p1,p2,_⟩:=hlend i b g2;rw [g1] at p1;cases p1;have:=hlow _ _ p2;omega
    rw [hbk];simp only;rw [if_pos (by omega),Nat.add_sub_cancel_left,k2,Option.map_some,ziP]
    rfl
  . intro m hm;unfold ziQ;simp only;cases hb':zdv ns l l' m with
    | some b' =>
      obtain⟨i,b,g1,g2,g3,g4⟩:=zdg hb';obtain⟨b1,k1,k2,k3,k4⟩:=G.rows i b g2 g3;refine .inr ⟨i,b,(hget _ _).2 g2,g3,zhe g1,?_⟩;rw [g4] at k2;cases k2;rw [k1,Option.map_some];simp only [ziP]
    | none =>
      refine .inl ⟨?_,fun n b hb hr=>?_⟩
      . simp only;split
        . rename_i hle;rcases hm with hm|hm
          . omega
          . have hm:h.next+new.length<=m:=hm;rw [List.getElem?_eq_none (by omega)]
            cases hg':h.get m with
            | none=>rfl
            | some b=>have:=hlow _ _ hg';omega
        . rfl
      . rw [hget] at hb;obtain⟨x,_,p1,_⟩:=hlend n b hb;have:=zhN hb' hlen G.len' n b hb hr;rw [zhe p1];rintro rfl;exact this p1
  . rintro n b hb (⟨b0,hb0,hr⟩|hn)
    . rw [hget] at hb0;obtain⟨b1,k1,_,k3,_⟩:=G.rows n b0 hb0 hr;rw [hb] at k1;cases k1;exact k3
    . obtain⟨j,hj⟩:=List.getElem?_of_mem hn;obtain⟨b1,k1,_,k3,_⟩:=G.news j n hj;rw [hb] at k1;cases k1;exact k3
def ziA (E:Emb) (rows:List (Option Blk)):List Nat->List Blk->List Blk->List (Option Blk)
  | n::ns,b::l,b'::l'=>if b.ro=false then (ziA E rows ns l l').set n (some (renB E b')) else ziA E rows ns l l'
  | _,_,_=>rows
theorem zcz {E:Emb} {rows:List (Option Blk)}:∀ {ns:List Nat} {l l':List Blk},(ziA E rows ns l l').length=rows.length
  | [],_,_=>rfl
  | _::_,[],_=>rfl
  | _::_,_::_,[]=>rfl
  | n::ns,b::l,b'::l'=>by
    simp only [ziA];split
    . rw [List.length_set,zcz]
    . rw [zcz]
theorem zjd {E:Emb} {rows:List (Option Blk)}:∀ {ns:List Nat} {l l':List Blk} {m:Nat},(∀ n∈ns,n<rows.length)->((ziA E rows ns l l')[m]?).join=match zdv ns l l' m with|some b=>some (renB E b)|none=>(rows[m]?).join
  | [],_,_,_,_=>rfl
  | _::_,[],_,_,_=>rfl
  | _::_,_::_,[],_,_=>rfl
  | n::ns,b::l,b'::l',m,hlt=>by
    have ih:=@zjd E rows ns l l' m (fun x hx=>hlt x (by simp [hx]))
    simp only [ziA,zdv];have hn:n<rows.length:=hlt n (by simp)
    by_cases hr:b.ro=false
    . rw [if_pos hr,List.getElem?_set];by_cases hm:n=m
      . subst hm;simp [hr,zcz,hn]
      . simp only [hm,false_and,if_false];exact ih
    . have hc:¬ (n=m/\b.ro=false):=fun h=>hr h.2;rw [if_neg hr,if_neg hc];exact ih
theorem zrM {E:Emb} {rows:List (Option Blk)} {ns:List Nat} {l l' new:List Blk} (hlt:∀ n∈ns,n<rows.length):ziQ (zar rows) E ns l l' new=zar (ziA E rows ns l l'++new.map fun b=>some (renB E b)):=by
  unfold ziQ zar;simp only [List.length_append,List.length_map,zcz];congr 1;funext m;by_cases hm:rows.length<=m
  . have hbk:zdv ns l l' m=none:=by
      cases hb':zdv ns l l' m with
      | none=>rfl
      | some b' =>
        obtain⟨i,b,g1,_⟩:=zdg hb';have:=hlt m (List.mem_of_getElem? g1);omega
    rw [hbk,List.getElem?_append_right (by rw [zcz];exact hm),zcz,List.getElem?_map]
    simp only [hm,if_true];cases new[m - rows.length]?<;>simp
  . rw [List.getElem?_append_left (by rw [zcz];omega),zjd hlt]
    cases zdv ns l l' m with
    | some b=>rfl
    | none=>simp [hm]
variable {fn:Func} {A:Conf σ->Prop} {ops:Array Oper} {k:List Item} {i:Nat} {tmps:List Value} {h:AHeap} {S:σ} {o:Oper} {todo:List Item} {W:List Nat} {n0:Nat} {hf:AHeap} {Kf:List Value->AHeap->σ->Prop} {born:List (Nat × Nat)}
theorem zoD {h h':AHeap} (hg:∀ m,h.get m=h'.get m) (hn:h.next=h'.next):h=h':=by
  cases h;cases h';simp only [AHeap.mk.injEq];exact⟨funext hg,hn⟩
theorem zn6 {h hv:AHeap} {m:Nat}:(zdC h hv).get m=if h.next<=m then (if m<hv.next then hv.get m else none) else h.get m:=rfl
def zq4 (X:Face P σ) (S:σ) (ns:List Nat) (nx:Nat) (h:AHeap) (K:Value->List Blk->List Blk->List Blk->σ->Prop) (f:FuncId) (args:Array Value):Prop :=
  ∃ zs l v l' new S',DoesX X f zs l S v l' new S'/\args=zs.map (ren (upE ns nx))/\LendL h (upE ns nx) ns l/\K v l l' new S'
theorem At.callX {rows:List (Option Blk)} (ns:List Nat) (ho:ops.toList[i]?=some o) (hw:Region.wanted o (zaj ops tmps)=true) (hb:opOK o.op=true) (hnd:ns.Nodup) (hlt:(ns.all fun n=>decide (n<rows.length))=true)
    (hk:∀ K:List Value->List (Option Blk)->σ->Prop,(∀ t rs S',At X fn A ops k (i+1) t (zar rs) S'->K t rs S') ->
      zd3 (zq4 X S ns rows.length (zar rows) fun v l l' new S'=>decide (rows.length+l.length+new.length<1000000)=true/\K (putL o.dst (ren (upE ns rows.length) v) tmps) (ziA (upE ns rows.length) rows ns l l'++new.map fun b=>some (renB (upE ns rows.length) b)) S') (zaW P (evA tmps) o.op)):At X fn A ops k i tmps (zar rows) S:=by
  have hk:=hk _ fun _ _ _ h=>h;have hlt:∀ n∈ns,n<rows.length:=fun n hn=>of_decide_eq_true (List.all_eq_true.1 hlt n hn);unfold At;rw [zev (zbl ho)];cases hv:zaW P (evA tmps) o.op with
  | none=>rw [hv] at hk;exact hk.elim
  | some x =>
    obtain⟨f,args⟩:=x;rw [hv] at hk;obtain⟨zs,l,v,l',new,S',⟨g,c,h1,v0,ex,R,d1,d2,d3,d4,d5,d6,d7⟩,rfl,hL,hlim,hK⟩:=hk;have hlim:=of_decide_eq_true hlim;have hC:=zjq (ns:=ns) (h:=zar rows) (o:=o) (e:=evA tmps) (f:=f) (args:=zs) (by rw [zaa];exact hv) d1 d2 d3 d4 d5 d6 (zbu _) (by rw [zaa];exact hL) hnd (by unfold VB;omega)
    rw [zaa,zrM hlt] at hC;exact .call f g c zs _ _ _ h1 ex v0 (zbl ho) hw (zbn hb) hC (.inr (by rw [zaa,List.length_append,zcz,List.length_map];unfold VB;omega)) d7 hK
theorem RG.callX {rows:List (Option Blk)} (ns:List Nat) (ho:ops.toList[i]?=some o) (hw:Region.wanted o (zaj ops tmps)=true) (hb:opOK o.op=true) (hq:wrB W i o=false) (hnd:ns.Nodup)
    (hk:∀ K:List Value->List (Option Blk)->σ->List (Nat × Nat)->Prop,(∀ t rs S' born',RGF X W ops n0 hf Kf (i+1) t (zar rs) S' born'->K t rs S' born') ->
      zd3 (zq4 X S ns rows.length (visH n0 born ((zas ops.toList []).getD i 0) (zar rows)) fun v l _ new S'=>(l.all (·.ro)=true/\decide (rows.length+l.length+new.length<1000000)=true)/\K (putL o.dst (ren (upE ns rows.length) v) tmps) (rows++new.map fun b=>some (renB (upE ns rows.length) b)) S' (zex i rows.length (rows.length+new.length)++born)) (zaW P (evA tmps) o.op)) (hnf:farB W i=false:=by rfl):RGF X W ops n0 hf Kf i tmps (zar rows) S born:=by
  have hk:=hk _ fun _ _ _ _ h=>h;cases hv:zaW P (evA tmps) o.op with
  | none=>rw [hv] at hk;exact hk.elim
  | some x =>
    obtain⟨f,args⟩:=x;rw [hv] at hk;obtain⟨zs,l,v,l',new,S',⟨g,c,h1,v0,ex,R,d1,d2,d3,d4,d5,d6,d7⟩,rfl,hL,⟨hro,hlim⟩,hK⟩:=hk;have hlim:=of_decide_eq_true hlim;have hlowv:(visH n0 born ((zas ops.toList []).getD i 0) (zar rows)).Low:=by
      intro n b hb;unfold visH at hb ⊢;simp only at hb ⊢;split at hb
      . cases hg:(zar rows).get n with
        | none=>rw [hg] at hb;cases hb
        | some b0=>exact zbu _ _ _ hg
      . cases hb
    have hnx:(visH n0 born ((zas ops.toList []).getD i 0) (zar rows)).next=rows.length:=rfl;have hC:=zjq (ns:=ns) (h:=visH n0 born ((zas ops.toList []).getD i 0) (zar rows)) (o:=o) (e:=evA tmps) (f:=f) (args:=zs) (by rw [hnx];exact hv) d1 d2 d3 d4 d5 d6 hlowv (by rw [hnx];exact hL) hnd (by unfold VB;omega)
    rw [hnx] at hC;have hbl:∀ m,zdv ns l l' m=none:=fun m=>by
      cases hb':zdv ns l l' m with
      | none=>rfl
      | some b' =>
        obtain⟨j,b,_,g2,g3,_⟩:=zdg hb';have:=List.all_eq_true.1 hro b (List.mem_of_getElem? g2);rw [g3] at this;cases this
    refine .call' (h':=zar (rows++new.map fun b=>some (renB (upE ns rows.length) b))) false f g c zs _ _ _ h1 ex v0 hnf (zbl ho) hw (zbn hb) (.inr (by rw [zaa,List.length_append,List.length_map];unfold VB;omega)) ⟨hq,_,hC,?_⟩ d7 ?_ ?_
    . refine zoD (fun m=>?_) ?_
      . rw [zn6,zaa,zaJ,zaJ];have hbk:∀ E m,(ziQ (visH n0 born ((zas ops.toList []).getD i 0) (zar rows)) E ns l l' new).get m=if rows.length<=m then (new[m - rows.length]?).map (renB E) else (visH n0 born ((zas ops.toList []).getD i 0) (zar rows)).get m:=fun E m=>by
          unfold ziQ;simp only [hbl m];rfl
        rw [hbk];have hbn:∀ E,(ziQ (visH n0 born ((zas ops.toList []).getD i 0) (zar rows)) E ns l l' new).next=rows.length+new.length:=fun E=>rfl;rw [hbn];split
        . rename_i hm;rw [List.getElem?_append_right hm,List.getElem?_map];split
          . cases new[m - rows.length]?<;>simp
          . rw [List.getElem?_eq_none (by omega)];simp
        . rename_i hm;rw [List.getElem?_append_left (by omega)]
      . show (zar (rows++_)).next=rows.length+new.length;rw [zaa,List.length_append,List.length_map]
    . intro n b _ q1 q2;rw [zaa] at q2;rw [zaJ,zaJ,List.getElem?_append_left (by omega)]
    . rw [zaa,zaa,List.length_append,List.length_map];exact hK
theorem Gives.still {cnt:Nat} {l:List Blk} {h1:AHeap} {v:Value} (hro:l.all (·.ro)=true) (hv:Clo (Kn l.length cnt) v):Gives cnt l l [] [] id h1 v v where
  low:=fun _ _=>rfl
  hand:=fun _ _=>rfl
  more:=fun j n hj=>by simp at hj
  nodup:=List.nodup_nil
  len:=rfl
  len':=rfl
  told:=(zdN v).symm
  clo:=fun F F' hs=>hv F F' (hs.mono fun n hn=>by
    rcases hn with hn|hn
    . exact .inl hn
    . exact .inr (.inr hn))
  rows:=fun i b hb hr=>by
    have:=List.all_eq_true.1 hro b (List.mem_of_getElem? hb);rw [hr] at this;cases this
  news:=fun j n hj=>by simp at hj
theorem Goes.finX {v v0:Value} {S':σ} {l l' new:List Blk} {ex:List Nat} {R:Nat->Nat} (ht:retB todo=true) (hv:resA P fn tmps h=some v0) (hS:S=S') (hG:Gives (X.cnt S') l l' new ex R h v0 v) :
    Goes X fn (fun x=>∃ v0 h1 ex R,x=.done v0 h1 S'/\Gives (X.cnt S') l l' new ex R h1 v0 v) (.run todo tmps h S) :=
  .ret ht hv (.here ⟨v0,h,ex,R,by rw [hS],hG⟩)
theorem Goes.finS {v:Value} {S':σ} {l:List Blk} (ht:retB todo=true) (hv:resA P fn tmps h=some v) (hS:S=S') (hro:l.all (·.ro)=true) (hc:Clo (Kn l.length (X.cnt S')) v) :
    Goes X fn (fun x=>∃ v0 h1 ex R,x=.done v0 h1 S'/\Gives (X.cnt S') l l [] ex R h1 v0 v) (.run todo tmps h S) :=
  Goes.finX ht hv hS (Gives.still hro hc)
theorem DoesX.mk {f:FuncId} {g:Func} {c:Code} {args:Array Value} {l l' new:List Blk} {S S':σ} {v:Value} (hf:P.funcs[f]?=some g) (hg:goB g=true) (hb:g.body=some c) (hclo:∀ u∈args.toList,Clo (Kn l.length (X.cnt S)) u) (hcl:∀ b∈l,∀ u∈b.cells,Clo (Kn l.length (X.cnt S)) u)
    (hrun:Goes X g (fun x=>∃ v0 h1 ex R,x=.done v0 h1 S'/\Gives (X.cnt S') l l' new ex R h1 v0 v) (.run [.code c] (args.toList++List.replicate (g.ntmps - args.size) undef) (zar (l.map some)) S)):DoesX X f args l S v l' new S':=by
  obtain⟨c',⟨v0,h1,ex,R,rfl,hG⟩,G⟩:=hrun.out;exact⟨g,c,h1,v0,ex,R,hf,hg,hb,hclo,hcl,hG,G⟩
theorem zai {cs:List Value} {E:Emb} (h:∀ u∈cs,zac u=true):cs=cs.map (ren E):=by
  conv=>lhs;rw [<-List.map_id cs]
  exact List.map_congr_left fun u hu=>(zaC E (h u hu)).symm
end
def appV (P:Program) (h:AHeap) (nx:Nat) (t:TypeId) (x y:Value):Option (Value × Option Blk):=match zde P h t x y with
  | some (news,el,need,true)=>some (.slice (some ⟨nx,0,none⟩) need need,some ⟨news,el,false,zal P el⟩)
  | _=>none
theorem zla {P:Program} {e:Operand->Value} {h:AHeap} {nx:Nat} {t:TypeId} {x y:Operand}:newA P e h nx (.call { callee:=.builtin .append,args:=#[x,y],argTypes:=#[t,t] })=appV P h nx t (e x) (e y):=by
  unfold newA appV;simp only [if_true];rcases zde P h t (e x) (e y) with _|⟨news,el,need,b⟩
  . rfl
  . cases b<;>rfl
def zdr (k:IntKind) (ns:List Int):List Value:=ns.map fun n=>.int k n
theorem zah {k:IntKind} {ns:List Int}:∀ u∈zdr k ns,zac u=true:=fun u hu=>by
  obtain⟨n,_,rfl⟩:=List.mem_map.1 hu;rfl
theorem up_0 {a nx:Nat} {ns:List Nat}:(upE (a::ns) nx).blk 0=a:=by simp [upE,zc1,upN]
theorem up_1 {a b nx:Nat} {ns:List Nat}:(upE (a::b::ns) nx).blk 1=b:=by simp [upE,zc1,upN]
theorem up_2 {a b c nx:Nat} {ns:List Nat}:(upE (a::b::c::ns) nx).blk 2=c:=by simp [upE,zc1,upN]
theorem zcc {nx:Nat}:(upE [] nx).blk 0=nx:=by simp [upE,zc1,upN,VB]
theorem zaq {nx n:Nat} {ns:List Nat}:(upE ns nx).base n=0:=rfl
theorem zam {nx n:Nat} {ns:List Nat}:(upE ns nx).slack n=0:=rfl
theorem zqI {nx k:Nat} {ns:List Nat} (h:ns.length<1000000):ren (upE ns nx) (hndV k)=hndV k:=by
  have h1:¬ VB+k<ns.length:=by unfold VB;omega
  have h2:¬ VB+k<VB:=by omega
  simp only [hndV,zba,adr,upE,zc1,upN,h1,h2,if_false,Nat.zero_add]
theorem zbg {nx k:Nat} {ns:List Nat} (h:ns.length<1000000):ren (upE ns nx) (prtV k)=prtV k:=by
  simp only [prtV,zcZ,zqI h]
attribute [go_sem high] zla
attribute [go_sem] zq4 ziA renB up_0 up_1 up_2 zcc zaq zam zqI zbg za3 zbp zbI zdm zba zcw zaz zcZ zbC zcS zco zcQ zbx adr Nat.add_zero List.append_nil
def zaT (l:List (Option Blk)) (q:Nat) (l2:List (Option Blk)):AHeap:=⟨fun n=>if n<q then (l[n]?).join else (l2[n - q]?).join,q+l2.length⟩
theorem zhu {l:List (Option Blk)} {q:Nat} {l2:List (Option Blk)} {n:Nat} (h:n<q):(zaT l q l2).get n=(l[n]?).join:=if_pos h
theorem zrv {l:List (Option Blk)} {q:Nat} {l2:List (Option Blk)}:(zaT l q l2).get q=(l2[0]?).join:=by
  show (if q<q then _ else _)=_
  rw [if_neg (Nat.lt_irrefl q),Nat.sub_self]
theorem zhR {l:List (Option Blk)} {q:Nat} {l2:List (Option Blk)} {i:Nat}:(zaT l q l2).get (q+i)=(l2[i]?).join:=by
  show (if q+i<q then _ else _)=_
  rw [if_neg (by omega),Nat.add_sub_cancel_left]
theorem zeq (l:List (Option Blk)) (q:Nat) (l2:List (Option Blk)):(zaT l q l2).next=q+l2.length:=rfl
theorem zhI {a b:AHeap} (h1:∀ n,a.get n=b.get n) (h2:a.next=b.next):a=b:=by
  cases a;cases b;simp only [AHeap.mk.injEq];exact⟨funext h1,h2⟩
theorem zpZ (l:List (Option Blk)) (q:Nat) (l2:List (Option Blk)) (b:Option Blk):(zaT l q l2).addO b=zaT l q (l2++[b]):=by
  refine zhI (fun n=>?_) (by simp [AHeap.addO,zaT];omega)
  rw [AHeap.addO_get,zeq];show _=(if n<q then _ else _)
  by_cases hn:n<q
  . rw [if_neg (by omega),if_pos hn,zhu hn]
  . obtain⟨i,rfl⟩:∃ i,n=q+i:=⟨n - q,by omega⟩
    rw [zhR,if_neg hn,Nat.add_sub_cancel_left];by_cases hi:i=l2.length
    . subst hi;rw [if_pos rfl];simp
    . rw [if_neg (by omega),List.getElem?_append]
      by_cases h2:i<l2.length
      . rw [if_pos h2]
      . rw [if_neg h2,List.getElem?_eq_none (by omega),List.getElem?_eq_none (by simp;omega)]
theorem zhd {l:List (Option Blk)} {q:Nat} {l2:List (Option Blk)} {n:Nat} {b:Option Blk} (h:n<q) (hl:n<l.length):(zaT l q l2).putO n b=zaT (l.set n b) q l2:=by
  refine zhI (fun m=>?_) rfl;rw [AHeap.putO_get];show _=(if m<q then _ else _)
  by_cases hm:m=n
  . subst hm;rw [if_pos rfl,if_pos h];simp [hl]
  . rw [if_neg hm];show (if m<q then _ else _)=_
    rw [List.getElem?_set_ne (fun e=>hm e.symm)]
theorem zeT {l:List (Option Blk)} {q:Nat} {l2:List (Option Blk)} {i:Nat} {b:Option Blk} (hl:i<l2.length):(zaT l q l2).putO (q+i) b=zaT l q (l2.set i b):=by
  refine zhI (fun m=>?_) (by simp [AHeap.putO,zaT])
  rw [AHeap.putO_get];show _=(if m<q then _ else _)
  by_cases hm:m<q
  . rw [if_neg (by omega),if_pos hm,zhu hm]
  . obtain⟨j,rfl⟩:∃ j,m=q+j:=⟨m - q,by omega⟩
    rw [zhR,if_neg hm,Nat.add_sub_cancel_left];by_cases hj:j=i
    . subst hj;rw [if_pos rfl];simp [hl]
    . rw [if_neg (by omega),List.getElem?_set_ne (fun e=>hj e.symm)]
theorem zfV {l:List (Option Blk)} {q:Nat} {l2:List (Option Blk)} {b:Option Blk} (hl:0<l2.length):(zaT l q l2).putO q b=zaT l q (l2.set 0 b):=zeT (i:=0) hl
theorem zmu {l:List (Option Blk)} {q:Nat} {l2:List (Option Blk)} {n:Nat} {b:Blk} (h:n<q) (hl:n<l.length):(zaT l q l2).put n b=zaT (l.set n (some b)) q l2:=by rw [zgh,zhd h hl]
theorem zmc {l:List (Option Blk)} {q:Nat} {l2:List (Option Blk)} {i:Nat} {b:Blk} (hl:i<l2.length):(zaT l q l2).put (q+i) b=zaT l q (l2.set i (some b)):=by rw [zgh,zeT hl]
theorem zj1 {l:List (Option Blk)} {q:Nat} {l2:List (Option Blk)} {b:Blk} (hl:0<l2.length):(zaT l q l2).put q b=zaT l q (l2.set 0 (some b)):=by rw [zgh,zfV hl]
theorem zoQ {l:List (Option Blk)} {q:Nat} {l2:List (Option Blk)} (h:q+l2.length<1000000000):(zaT l q l2).next<VB:=by rw [zeq];unfold VB;omega
theorem zg3 (l:List (Option Blk)) (q:Nat) (l2:List (Option Blk)):(zaT l q l2).Low:=by
  intro n b hb;rw [zeq];by_cases hn:n<q
  . omega
  . obtain⟨i,rfl⟩:∃ i,n=q+i:=⟨n - q,by omega⟩
    rw [zhR] at hb;have:i<l2.length:=by
      apply Nat.lt_of_not_le;intro h;rw [List.getElem?_eq_none h] at hb;simp at hb
    omega
theorem zqJ (l:List (Option Blk)):zar l=zaT l l.length []:=by
  refine zhI (fun n=>?_) (by simp [zar,zaT])
  rw [zaJ];show _=(if n<l.length then _ else _)
  split
  . rfl
  . rw [List.getElem?_eq_none (by omega)];simp
attribute [go_sem] zhu zrv zhR zeq zpZ zhd zeT zfV zmu zmc zj1
theorem zer {o:Oper} {y:Nat->Option Bool} (hg:o.guard=none):Region.wanted o y=true:=by
  unfold Region.wanted;rw [hg]
theorem zgd {o:Oper} {ops:Array Oper} {tmps:List Value} {j d:Nat} {b b':Bool} (hg:o.guard=some (j,b)) (hd:(ops[j]?).bind (·.dst)=some d) (hv:tmps[d]?=some (.bool b')):Region.wanted o (zaj ops tmps)=(b'==b):=by
  unfold Region.wanted zaj;rw [hg];simp only [hd,Option.bind_some,hv];cases b<;>cases b'<;>rfl
theorem zlj {o:Oper} {ops:Array Oper} {tmps:List Value} {j d:Nat} {b:Bool} (hg:o.guard=some (j,b)) (hd:(ops[j]?).bind (·.dst)=some d) (hv:tmps[d]?=some undef):Region.wanted o (zaj ops tmps)=false:=by
  unfold Region.wanted zaj;rw [hg];simp only [hd,Option.bind_some,hv];cases b<;>rfl
section
variable {P:Program} {σ:Type} {X:Face P σ} {fn:Func} {A:Conf σ->Prop} {ops:Array Oper} {k:List Item} {i:Nat} {tmps:List Value} {h:AHeap} {S:σ} {o:Oper} {j d:Nat} {b b':Bool}
theorem AtL.valn (ho:ops.toList[i]?=some o) (hg:o.guard=none) (hb:opOK o.op=true)
    (hk:∀ K:List Value->AHeap->Prop,(∀ t h,At X fn A ops k (i+1) t h S->K t h)->OpK K o tmps h (valA P (evA tmps) h o.op)):At X fn A ops k i tmps h S:=AtL.val ho (zer hg) hb hk
theorem AtL.valg (ho:ops.toList[i]?=some o) (hg:o.guard=some (j,b)) (hd:(ops[j]?).bind (·.dst)=some d) (hv:tmps[d]?=some (.bool b')) (hw:(b'==b)=true) (hb:opOK o.op=true)
    (hk:∀ K:List Value->AHeap->Prop,(∀ t h,At X fn A ops k (i+1) t h S->K t h)->OpK K o tmps h (valA P (evA tmps) h o.op)):At X fn A ops k i tmps h S:=AtL.val ho ((zgd hg hd hv).trans hw) hb hk
theorem AtL.skipg (ho:ops.toList[i]?=some o) (hg:o.guard=some (j,b)) (hd:(ops[j]?).bind (·.dst)=some d) (hv:tmps[d]?=some (.bool b')) (hw:(b'==b)=false) (hk:At X fn A ops k (i+1) (putL o.dst undef tmps) h S):At X fn A ops k i tmps h S:=AtL.skip ho ((zgd hg hd hv).trans hw) hk
theorem AtL.skipu (ho:ops.toList[i]?=some o) (hg:o.guard=some (j,b)) (hd:(ops[j]?).bind (·.dst)=some d) (hv:tmps[d]?=some undef) (hk:At X fn A ops k (i+1) (putL o.dst undef tmps) h S):At X fn A ops k i tmps h S:=AtL.skip ho (zlj hg hd hv) hk
theorem AtL.newn (ho:ops.toList[i]?=some o) (hg:o.guard=none) (hb:opOK o.op=true) (hl:h.next<VB)
    (hk:∀ K:List Value->AHeap->Prop,(∀ t h,At X fn A ops k (i+1) t h S->K t h)->NewK K o tmps h (newA P (evA tmps) h h.next o.op)):At X fn A ops k i tmps h S:=AtL.new ho (zer hg) hb hl hk
theorem AtL.storen (ho:ops.toList[i]?=some o) (hg:o.guard=none) (hb:opOK o.op=true)
    (hk:∀ K:List Value->AHeap->Prop,(∀ t h,At X fn A ops k (i+1) t h S->K t h)->zfY K o tmps (zce P (evA tmps) h o.op)):At X fn A ops k i tmps h S:=AtL.store ho (zer hg) hb hk
variable {W:List Nat} {n0:Nat} {hf:AHeap} {Kf:List Value->AHeap->σ->Prop} {born:List (Nat × Nat)}
theorem RGL.valn (hl:h.Low) (ho:ops.toList[i]?=some o) (hg:o.guard=none) (hb:opOK o.op=true) (hq:wrB W i o=false)
    (hk:∀ K:List Value->AHeap->Prop,(∀ t h,RGF X W ops n0 hf Kf (i+1) t h S born->K t h)->OpK K o tmps h (valA P (evA tmps) (lowH n0 h) o.op)) (hnf:farB W i=false:=by rfl):RGF X W ops n0 hf Kf i tmps h S born:=RGL.val hl ho (zer hg) hb hq hk hnf
theorem RGL.valg (hl:h.Low) (ho:ops.toList[i]?=some o) (hg:o.guard=some (j,b)) (hd:(ops[j]?).bind (·.dst)=some d) (hv:tmps[d]?=some (.bool b')) (hw:(b'==b)=true) (hb:opOK o.op=true) (hq:wrB W i o=false)
    (hk:∀ K:List Value->AHeap->Prop,(∀ t h,RGF X W ops n0 hf Kf (i+1) t h S born->K t h)->OpK K o tmps h (valA P (evA tmps) (lowH n0 h) o.op)) (hnf:farB W i=false:=by rfl):RGF X W ops n0 hf Kf i tmps h S born:=RGL.val hl ho ((zgd hg hd hv).trans hw) hb hq hk hnf
theorem RGL.skipg (ho:ops.toList[i]?=some o) (hg:o.guard=some (j,b)) (hd:(ops[j]?).bind (·.dst)=some d) (hv:tmps[d]?=some (.bool b')) (hw:(b'==b)=false) (hk:RGF X W ops n0 hf Kf (i+1) (putL o.dst undef tmps) h S born):RGF X W ops n0 hf Kf i tmps h S born:=RGL.skip ho ((zgd hg hd hv).trans hw) hk
theorem RGL.skipu (ho:ops.toList[i]?=some o) (hg:o.guard=some (j,b)) (hd:(ops[j]?).bind (·.dst)=some d) (hv:tmps[d]?=some undef) (hk:RGF X W ops n0 hf Kf (i+1) (putL o.dst undef tmps) h S born):RGF X W ops n0 hf Kf i tmps h S born:=RGL.skip ho (zlj hg hd hv) hk
theorem RGL.newn (hl:h.Low) (ho:ops.toList[i]?=some o) (hg:o.guard=none) (hb:opOK o.op=true) (hq:wrB W i o=false) (hn:h.next<VB) (hne:zq3 o.op=true)
    (hk:∀ K:List Value->AHeap->Prop,(∀ t h',RGF X W ops n0 hf Kf (i+1) t h' S ((i,h.next)::born)->K t h')->NewK K o tmps h (newA P (evA tmps) (lowH n0 h) h.next o.op)) (hnf:farB W i=false:=by rfl):RGF X W ops n0 hf Kf i tmps h S born:=RGL.new hl ho (zer hg) hb hq hn hne hk hnf
theorem RGL.storen (ho:ops.toList[i]?=some o) (hg:o.guard=none) (hb:opOK o.op=true)
    (hk:∀ K:List Value->AHeap->Prop,(∀ t h,RG X W ops n0 Kf (i+1) t h S born->K t h)->zfY K o tmps (zce P (evA tmps) h o.op)) (hnf:farB W i=false:=by rfl):RG X W ops n0 Kf i tmps h S born:=RGL.store ho (zer hg) hb hk hnf
end
theorem sz:(∀ l:List (Option Blk),(zar l).next=l.length)/\(∀ (l:List (Option Blk)) (q:Nat) (l2:List (Option Blk)),(zaT l q l2).next=q+l2.length)/\(∀ (a:Option Blk) (l:List (Option Blk)),(a::l).length=l.length+1)/\([]:List (Option Blk)).length=0 /\
    (∀ l l2:List (Option Blk),(l++l2).length=l.length+l2.length)/\(∀ (a:Value) (l:List Value),(a::l).length=l.length+1)/\([]:List Value).length=0/\(∀ l:List Value,l.toArray.size=l.length)/\(∀ N T:Nat,(geoC N T).toList.length=22) :=
  ⟨zaa,zeq,fun _ _=>rfl,rfl,fun _ _=>List.length_append,fun _ _=>rfl,rfl,fun _=>List.size_toArray,zad⟩
def vB:Op->Bool
  | .alloc _|.box _ _|.buildSlice _ _ _|.makeSlice _ _ _|.store _ _ _=>false
  | .call c=>(match c.callee with|.builtin .append=>false|.builtin _=>true|_=>false)
  | _=>true
def nB:Op->Bool
  | .alloc _|.box _ _|.buildSlice _ _ _|.makeSlice _ _ _=>true
  | .call c=>(match c.callee with|.builtin .append=>true|_=>false)
  | _=>false
def tB:Op->Bool
  | .store _ _ _=>true
  | _=>false
section
variable {P:Program} {σ:Type} {X:Face P σ} {fn:Func} {A:Conf σ->Prop} {ops:Array Oper} {k:List Item} {i:Nat} {tmps:List Value} {h:AHeap} {S:σ} {o:Oper} {j d:Nat} {b b':Bool}
theorem qv1 (ho:ops.toList[i]?=some o) (hg:o.guard=none) (_:vB o.op=true) (hk:∀ K:List Value->AHeap->Prop,(∀ t h,At X fn A ops k (i+1) t h S->K t h)->OpK K o tmps h (valA P (evA tmps) h o.op)) (hb:opOK o.op=true:=by rfl):At X fn A ops k i tmps h S:=AtL.valn ho hg hb hk
theorem qv2 (ho:ops.toList[i]?=some o) (hg:o.guard=some (j,b)) (hd:(ops[j]?).bind (·.dst)=some d) (hv:tmps[d]?=some (.bool b')) (hw:(b'==b)=true) (_:vB o.op=true)
    (hk:∀ K:List Value->AHeap->Prop,(∀ t h,At X fn A ops k (i+1) t h S->K t h)->OpK K o tmps h (valA P (evA tmps) h o.op)) (hb:opOK o.op=true:=by rfl):At X fn A ops k i tmps h S:=AtL.valg ho hg hd hv hw hb hk
theorem qn1 (ho:ops.toList[i]?=some o) (hg:o.guard=none) (_:nB o.op=true)
    (hk:∀ K:List Value->AHeap->Prop,(∀ t h,At X fn A ops k (i+1) t h S->K t h)->NewK K o tmps h (newA P (evA tmps) h h.next o.op)) (hb:opOK o.op=true:=by rfl) (hl:h.next<VB:=by first|exact ziS rfl|(exact zoQ (by simp only [sz];omega))):At X fn A ops k i tmps h S:=AtL.newn ho hg hb hl hk
theorem qt1 (ho:ops.toList[i]?=some o) (hg:o.guard=none) (_:tB o.op=true)
    (hk:∀ K:List Value->AHeap->Prop,(∀ t h,At X fn A ops k (i+1) t h S->K t h)->zfY K o tmps (zce P (evA tmps) h o.op)) (hb:opOK o.op=true:=by rfl):At X fn A ops k i tmps h S:=AtL.storen ho hg hb hk
theorem qp1 (ho:ops.toList[i]?=some o) (hw:Region.wanted o (zaj ops tmps)=true)
    (hk:∀ K:List Value->σ->Prop,(∀ t S',At X fn A ops k (i+1) t h S'->K t S')->zd3 (fun f args=>fnOK P f=true/\∃ v S',X.prim f args S v S'/\K (putL o.dst v tmps) S') (zaW P (evA tmps) o.op)) (hb:opOK o.op=true:=by rfl):At X fn A ops k i tmps h S:=At.prim2 ho hw hb hk
theorem qc1 (ho:ops.toList[i]?=some o) (hw:Region.wanted o (zaj ops tmps)=true)
    (hk:∀ K:List Value->σ->Prop,(∀ t S',At X fn A ops k (i+1) t h S'->K t S')->zd3 (fun f args=>∃ v S',Does X f args [] S v S'/\K (putL o.dst v tmps) S') (zaW P (evA tmps) o.op)) (hb:opOK o.op=true:=by rfl):At X fn A ops k i tmps h S:=At.call2 ho hw hb hk
variable {W:List Nat} {n0:Nat} {hf:AHeap} {Kf:List Value->AHeap->σ->Prop} {born:List (Nat × Nat)}
theorem qv3 (ho:ops.toList[i]?=some o) (hg:o.guard=none) (_:vB o.op=true) (hk:∀ K:List Value->AHeap->Prop,(∀ t h,RGF X W ops n0 hf Kf (i+1) t h S born->K t h)->OpK K o tmps h (valA P (evA tmps) (lowH n0 h) o.op))
    (hb:opOK o.op=true:=by rfl) (hq:wrB W i o=false:=by rfl) (hl:h.Low:=by first|exact zbu _|exact zg3 _ _ _) (hnf:farB W i=false:=by rfl):RGF X W ops n0 hf Kf i tmps h S born:=RGL.valn hl ho hg hb hq hk hnf
theorem qv4 (ho:ops.toList[i]?=some o) (hg:o.guard=some (j,b)) (hd:(ops[j]?).bind (·.dst)=some d) (hv:tmps[d]?=some (.bool b')) (hw:(b'==b)=true) (_:vB o.op=true)
    (hk:∀ K:List Value->AHeap->Prop,(∀ t h,RGF X W ops n0 hf Kf (i+1) t h S born->K t h)->OpK K o tmps h (valA P (evA tmps) (lowH n0 h) o.op))
    (hb:opOK o.op=true:=by rfl) (hq:wrB W i o=false:=by rfl) (hl:h.Low:=by first|exact zbu _|exact zg3 _ _ _) (hnf:farB W i=false:=by rfl):RGF X W ops n0 hf Kf i tmps h S born:=RGL.valg hl ho hg hd hv hw hb hq hk hnf
theorem qn3 (ho:ops.toList[i]?=some o) (hg:o.guard=none) (_:nB o.op=true)
    (hk:∀ K:List Value->AHeap->Prop,(∀ t h',RGF X W ops n0 hf Kf (i+1) t h' S ((i,h.next)::born)->K t h')->NewK K o tmps h (newA P (evA tmps) (lowH n0 h) h.next o.op))
    (hb:opOK o.op=true:=by rfl) (hq:wrB W i o=false:=by rfl) (hl:h.Low:=by first|exact zbu _|exact zg3 _ _ _) (hn:h.next<VB:=by first|exact ziS rfl|(exact zoQ (by simp only [sz];omega))) (hne:zq3 o.op=true:=by rfl) (hnf:farB W i=false:=by rfl):RGF X W ops n0 hf Kf i tmps h S born:=RGL.newn hl ho hg hb hq hn hne hk hnf
theorem qt3 (ho:ops.toList[i]?=some o) (hg:o.guard=none) (_:tB o.op=true)
    (hk:∀ K:List Value->AHeap->Prop,(∀ t h,RG X W ops n0 Kf (i+1) t h S born->K t h)->zfY K o tmps (zce P (evA tmps) h o.op)) (hb:opOK o.op=true:=by rfl) (hnf:farB W i=false:=by rfl):RG X W ops n0 Kf i tmps h S born:=RGL.storen ho hg hb hk hnf
theorem qp3 (ho:ops.toList[i]?=some o) (hw:Region.wanted o (zaj ops tmps)=true)
    (hk:∀ K:List Value->σ->Prop,(∀ t S',RGF X W ops n0 hf Kf (i+1) t h S' born->K t S')->zd3 (fun f args=>fnOK P f=true/\∃ v S',X.prim f args S v S'/\K (putL o.dst v tmps) S') (zaW P (evA tmps) o.op))
    (hb:opOK o.op=true:=by rfl) (hq:wrB W i o=false:=by rfl) (hl:h.Low:=by first|exact zbu _|exact zg3 _ _ _) (hnf:farB W i=false:=by rfl):RGF X W ops n0 hf Kf i tmps h S born:=RG.prim2 hl ho hw hb hq hk hnf
theorem qc3 (ho:ops.toList[i]?=some o) (hw:Region.wanted o (zaj ops tmps)=true)
    (hk:∀ K:List Value->σ->Prop,(∀ t S',RGF X W ops n0 hf Kf (i+1) t h S' born->K t S')->zd3 (fun f args=>∃ v S',Does X f args [] S v S'/\K (putL o.dst v tmps) S') (zaW P (evA tmps) o.op))
    (hb:opOK o.op=true:=by rfl) (hq:wrB W i o=false:=by rfl) (hl:h.Low:=by first|exact zbu _|exact zg3 _ _ _) (hnf:farB W i=false:=by rfl):RGF X W ops n0 hf Kf i tmps h S born:=RG.call2 hl ho hw hb hq hk hnf
end
theorem zjo {σ:Type} {X:Face Try.prog σ} {f:FuncId} {args:Array Value} {v:Value} {S S1:σ} {F:Emb} {w:World} (D:Does X f args [] S v S1) (ha:args.all zac=true) (hv:zac v=true) (hc:X.cnt S=0) (hR:X.rep F S w) (hfp:∀ b,¬ X.fp F S b) :
    TCalls Try.prog f args w fun e w'=>e=.returned v/\Kept w (fun _=>False) w':=by
  intro cs;obtain⟨g,c,h1,hf,hgo,hbd,_,_,G⟩:=D
  let b:Frame:={ (default:Frame) with fn:=f,kind:=.normal }
  have hpl:args.map (ren F)=args:=zcl F ha;have henter0:Frame.enter Try.prog f (args.map (ren F)) .normal=b.at (actF F (zag g c args).2) (zag g c args).1:=by
    simp [Frame.enter,Frame.at,hf,hbd,b,actF,zag,zaS]
  have henter:Frame.enter Try.prog f args .normal=b.at (actF F (zag g c args).2) (zag g c args).1:=by
    rw [hpl] at henter0;exact henter0
  have hn:(zar (List.map some ([]:List Blk))).next=0:=rfl;have hg0:∀ n bb,(zar (List.map some ([]:List Blk))).get n=some bb->False:=fun n bb hb=>by simp [zar] at hb
  have hI:InvC X F w (fun _=>False) (.run (zag g c args).1 (zag g c args).2 (zar (List.map some ([]:List Blk))) S) w:=by
    refine⟨⟨⟨fun n bb hb=>(hg0 n bb hb).elim,fun n m bb cc hb=>(hg0 n bb hb).elim⟩,hR,fun u hu=>?_,fun n bb hb u hu=>(hg0 n bb hb).elim,fun n bb hb=>(hg0 n bb hb).elim,fun n h1 h2=>.inr ⟨h1,h2⟩,fun n hn'=>?_,Kept.refl _ _,fun n bb hb=>(hg0 n bb hb).elim,fun x hx=>absurd hx (hfp x),fun n bb hb=>(hg0 n bb hb).elim⟩,by show (0:Nat)<=VB;unfold VB;omega⟩
    . have hu:u∈(zag g c args).2:=hu;simp only [zag,List.mem_append] at hu;rcases hu with hu|hu
      . refine Stab.plain ?_;obtain⟨i,hi,rfl⟩:=Array.mem_iff_getElem.1 (Array.mem_toList_iff.1 hu);exact Array.all_eq_true.1 ha i hi
      . rw [List.eq_of_mem_replicate hu];exact Stab.undef
    . rcases hn' with hn'|⟨_,hn'⟩
      . have hn':n<0:=hn';omega
      . exact hn'
  obtain⟨c',F',w',m',hAc,hst',hS,hI',_,_,_⟩:=G.simul b cs F w w _ _ hf rfl rfl hI;subst hAc;obtain⟨fr,rfl,hfn,hleave⟩:=hS;exact⟨.returned (ren F' v),w',fr,⟨by rw [zaC F' hv],hI'.1.kept⟩,by rw [henter];exact hst',hfn,hleave⟩
theorem PureD.t {f:FuncId} {args:Array Value} {v:Value} (h:PureD f args v) (ha:args.all zac=true) (hv:zac v=true):zpB f args v:=fun w=>zjo (X:=BF Try.prog Try.mix) (F:=idE) (w:=w) h ha hv rfl trivial fun _ z=>z
structure Hold (p:Prop):Prop where
  out:p
theorem via {G G':Prop} (k:G') (h:Hold G'->G:=by (intro hk0;(repeat (first|refine Goes.reg ?_|refine Goes.ctl2 rfl ?_|((first|refine qv1 rfl rfl rfl fun K hK=>?_|refine qv3 rfl rfl rfl fun K hK=>?_|refine qv2 rfl rfl rfl rfl rfl rfl fun K hK=>?_|refine qv4 rfl rfl rfl rfl rfl rfl fun K hK=>?_|refine qn1 rfl rfl rfl fun K hK=>?_|refine qn3 rfl rfl rfl fun K hK=>?_|refine qt1 rfl rfl rfl fun K hK=>?_|refine qt3 rfl rfl rfl fun K hK=>?_);simp (disch:=(first|omega|(simp only [sz]<;>omega)|fail)) only [go_sem];with_reducible refine hK _ _ ?_;clear hK K)|refine At.nil rfl ?_|refine RG.nil rfl ?_|((first|refine AtL.skipg rfl rfl rfl rfl rfl ?_|refine RGL.skipg rfl rfl rfl rfl rfl ?_|refine AtL.skipu rfl rfl rfl rfl ?_|refine RGL.skipu rfl rfl rfl rfl ?_);simp only [putL,List.set_cons_zero,List.set_cons_succ])|refine Goes.yes rfl ?_|refine Goes.no rfl ?_|refine Goes.drawR [] (by kernel_rfl) ?_));exact hk0.out)):G:=h ⟨k⟩
theorem viaF {F G G':Prop} (f:F) (k:G') (h:F->Hold G'->G:=by (intro hF0 hk0;(repeat (first|refine Goes.reg ?_|refine Goes.ctl2 rfl ?_|((first|refine qv1 rfl rfl rfl fun K hK=>?_|refine qv3 rfl rfl rfl fun K hK=>?_|refine qv2 rfl rfl rfl rfl rfl rfl fun K hK=>?_|refine qv4 rfl rfl rfl rfl rfl rfl fun K hK=>?_|refine qn1 rfl rfl rfl fun K hK=>?_|refine qn3 rfl rfl rfl fun K hK=>?_|refine qt1 rfl rfl rfl fun K hK=>?_|refine qt3 rfl rfl rfl fun K hK=>?_);simp (disch:=(first|omega|(simp only [sz]<;>omega)|fail)) only [go_sem,hF0];with_reducible refine hK _ _ ?_;clear hK K)|refine At.nil rfl ?_|refine RG.nil rfl ?_|((first|refine AtL.skipg rfl rfl rfl rfl rfl ?_|refine RGL.skipg rfl rfl rfl rfl rfl ?_|refine AtL.skipu rfl rfl rfl rfl ?_|refine RGL.skipu rfl rfl rfl rfl ?_);simp only [putL,List.set_cons_zero,List.set_cons_succ])|refine Goes.yes rfl ?_|refine Goes.no rfl ?_|refine Goes.drawR [] (by kernel_rfl) ?_));exact hk0.out)):G:=h f ⟨k⟩
abbrev BT:Face Try.prog Unit:=BF Try.prog Try.mix
theorem Gives.one {cnt:Nat} {l:List Blk} {h1:AHeap} {v0 v:Value} {n0:Nat} {b0:Blk} (hro:l.all (·.ro)=true) (hn:l.length<=n0) (hn':n0<VB) (hl:l.length<VB) (hg:h1.get n0=some b0) (hb:b0.ro=false) (hp:∀ u∈b0.cells,zac u=true)
    (hv:v=ren (zc1 fun n=>if n=n0 then l.length else n) v0) (hc:Clo (fun n=>n<l.length\/n∈[n0]\/(VB<=n/\n<VB+cnt)) v0):Gives cnt l l [b0] [n0] (fun n=>if n=n0 then l.length else n) h1 v0 v where
  low:=fun n hn2=>if_neg (by omega)
  hand:=fun n hn2=>if_neg (by omega)
  more:=fun j n hj=>by
    match j,hj with
    | 0,hj=>simp at hj;subst hj;exact⟨hn,hn',by simp⟩
    | j+1,hj=>simp at hj
  nodup:=by simp
  len:=rfl
  len':=rfl
  told:=hv
  clo:=hc
  rows:=fun i b hb hr=>by
    have:=List.all_eq_true.1 hro b (List.mem_of_getElem? hb);rw [hr] at this;cases this
  news:=fun j n hj=>by
    match j,hj with
    | 0,hj =>
      simp at hj;subst hj;refine⟨b0,hg,?_,hb,fun u hu=>Clo.plain (hp u hu)⟩;unfold renB;rw [<-zai hp];rfl
    | j+1,hj=>simp at hj
def OF:Face Try.prog St where
  mix:=Try.mix
  cnt:=List.length
  rep:=fun _ _ _=>False
  fp:=fun _ _ _=>False
  prim:=Prim
  rep_same:=fun _ _ _ _ _ h=>h.elim
  rep_kept:=fun _ _ _ _ h=>h.elim
  fp_low:=fun _ _ _ _ h=>h.elim
  prim_hand:=fun _ _ _ _ _ h=>⟨h.len,h.hand⟩
  prim_ok:=fun _ _ _ _ _ _ _ _ h=>h.elim
theorem hclo {n k:Nat} {S:St} (h:k<S.length):Clo (Kn n (OF.cnt S)) (hndV k):=zrt n S.length k h
end Go.Proofs.Ytgndgbnhkoppmaa
