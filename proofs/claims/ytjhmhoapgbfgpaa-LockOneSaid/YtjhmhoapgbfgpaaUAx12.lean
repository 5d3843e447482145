/-
  The abstract machine over this program's memories and direct ports: what their functions do to a state of them; threads' objects beside them.
  Conditions: where a step count is told, it is below 10^12.
-/
import Derived.Test.YtjhmhoapgbfgpaaUAx10
import Derived.IntWalk
set_option maxHeartbeats 40000000
set_option linter.unusedVariables false
set_option linter.unusedSimpArgs false
namespace Go.Proofs.Ytjhmhoapgbfgpaa
open Go Go.RowKit
def isq:Nat->Nat
  | 0=>0
  | n+1=>if (isq n+1) * (isq n+1)<=n+1 then isq n+1 else isq n
theorem zlV:∀ n,isq n * isq n<=n/\n<(isq n+1) * (isq n+1)
  | 0=>by simp [isq]
  | n+1=>by
    obtain⟨h1,h2⟩:=zlV n;unfold isq;split
    . rename_i h;refine⟨h,?_⟩;have:(isq n+1+1) * (isq n+1+1)=(isq n+1) * (isq n+1)+2 * (isq n+1)+1:=by
        simp only [Nat.add_mul,Nat.mul_add];omega
      omega
    . omega
def code (a b:Nat):Nat:=(a+b) * (a+b)+a
theorem zlU (a b:Nat):isq (code a b)=a+b:=by
  obtain⟨h1,h2⟩:=zlV (code a b);have hc:code a b<(a+b+1) * (a+b+1):=by
    unfold code;have:(a+b+1) * (a+b+1)=(a+b) * (a+b)+2 * (a+b)+1:=by simp only [Nat.add_mul,Nat.mul_add];omega
    omega
  have hd:(a+b) * (a+b)<=code a b:=by unfold code;omega
  rcases Nat.lt_trichotomy (isq (code a b)) (a+b) with h|h|h
  . have:=Nat.mul_le_mul (show isq (code a b)+1<=a+b by omega) (show isq (code a b)+1<=a+b by omega)
    omega
  . exact h
  . have:=Nat.mul_le_mul (show a+b+1<=isq (code a b) by omega) (show a+b+1<=isq (code a b) by omega)
    omega
def aux (s:Nat) (i:Nat):Nat:=if i=1 then s - isq s * isq s else isq s - (s - isq s * isq s)
theorem zna (a b:Nat):aux (code a b) 1=a:=by
  unfold aux;rw [if_pos rfl,zlU];unfold code;omega
theorem zru (a b:Nat):aux (code a b) 2=b:=by
  unfold aux;rw [if_neg (by decide),zlU]
  unfold code;omega
inductive Ob where
  | mem (ws:List UInt64) (bs:List UInt8)
  | port (m:Nat) (me:Int) (steps:Nat)
  | thr (self:Int) (quit:Nat) (closed busy:Bool) (cur:Option (Nat × Nat × Nat)) (pend:Option Nat)
  | wp (self:Int) (steps:Nat) (ask grant quit:Nat)
  | acc (c:Nat) (n:Int) (A B:UInt64)
  | box (c:Nat)
abbrev St:=List Ob
def hndV (k:Nat):Value:=.pointer (some ⟨VB+k,0,none⟩)
def prtV (k:Nat):Value:=.iface 42 (hndV k)
def BF (P:Program) (hm:P.follows .mixedOrders=true):Face P Unit where
  mix:=hm
  cnt:=fun _=>0
  rep:=fun _ _ _=>True
  fp:=fun _ _ _=>False
  prim:=fun _ _ _ _ _=>False
  rep_same:=fun _ _ _ _ _ _=>⟨trivial,fun _ h=>h⟩
  rep_kept:=fun _ _ _ _ _ _ _=>trivial
  fp_low:=fun _ _ _ _ _ h=>h.elim
  prim_hand:=fun _ _ _ _ _ h=>h.elim
  prim_ok:=fun _ _ _ _ _ _ _ h=>h.elim
def PureD (f:FuncId) (args:Array Value) (v:Value):Prop:=Does (BF Try.prog Try.mix) f args [] () v ()
def zmR (f:FuncId) (args:Array Value) (v:Value):Prop:=∀ w,TCalls Try.prog f args w fun e w'=>e=.returned v/\Kept w (fun _=>False) w'
def wr (n:Nat):Int:=IntKind.i64.wrap (n:Int)
def accS (S:St) (p m:Nat) (me:Int) (steps:Nat) (ws:List UInt64) (bs:List UInt8):St:=(S.set p (.port m me steps)).set m (.mem ws bs)
inductive Prim:FuncId->Array Value->St->Value->St->Prop
  | pure {f args v S} (h:∀ w:World,zmR f args v) (ha:args.all zac=true) (hv:zac v=true):Prim f args S v S
  | word {k:Nat} {ws:List UInt64} {bs:List UInt8} {S:St} (n:Int) (h:S[k]?=some (Ob.mem ws bs)):Prim 12 #[hndV k,.int .i64 n] S (.int .u64 ((wT 1 n 0 ws).toNat:Int)) S
  | do' {k:Nat} {ws:List UInt64} {bs:List UInt8} {S:St} (c:Nat) (n:Int) (A B:UInt64) (h:S[k]?=some (Ob.mem ws bs)) (h1:1<=c) (h4:c<=4) :
      Prim 27 #[hndV k,accV c n A B] S (.tuple #[.int .u64 ((wT c n A ws).toNat:Int),.bool (wAt ws n).isSome]) (S.set k (.mem (wS c n A B ws) bs))
  | load {p m:Nat} {me:Int} {steps:Nat} {ws:List UInt64} {bs:List UInt8} {S:St} (n:Int) (h:S[p]?=some (Ob.port m me steps)) (hm:S[m]?=some (Ob.mem ws bs)) (hs:steps<=1000000000000) :
      Prim 61 #[hndV p,.int .i64 n] S (.int .u64 ((wT 1 n 0 ws).toNat:Int)) (accS S p m me (steps+1) (wS 1 n 0 0 ws) bs)
  | cas {p m:Nat} {me:Int} {steps:Nat} {ws:List UInt64} {bs:List UInt8} {S:St} (n:Int) (A B:UInt64) (h:S[p]?=some (Ob.port m me steps)) (hm:S[m]?=some (Ob.mem ws bs)) (hs:steps<=1000000000000) :
      Prim 58 #[hndV p,.int .i64 n,.int .u64 (A.toNat:Int),.int .u64 (B.toNat:Int)] S (.bool (wT 3 n A ws==1)) (accS S p m me (steps+1) (wS 3 n A B ws) bs)
  | add {p m:Nat} {me:Int} {steps:Nat} {ws:List UInt64} {bs:List UInt8} {S:St} (n:Int) (A:UInt64) (h:S[p]?=some (Ob.port m me steps)) (hm:S[m]?=some (Ob.mem ws bs)) (hs:steps<=1000000000000) :
      Prim 57 #[hndV p,.int .i64 n,.int .u64 (A.toNat:Int)] S (.int .u64 ((wT 4 n A ws).toNat:Int)) (accS S p m me (steps+1) (wS 4 n A 0 ws) bs)
  | self {p m:Nat} {me:Int} {steps:Nat} {S:St} (h:S[p]?=some (Ob.port m me steps)):Prim 63 #[hndV p] S (.int .i64 me) S
  | dget {k:Nat} {ws:List UInt64} {bs:List UInt8} {S:St} (n:Int) (A B:UInt64) (h:S[k]?=some (Ob.mem ws bs)) :
      Prim 27 #[hndV k,accV 5 n A B] S (.tuple #[.int .u64 ((bT n bs).toNat:Int),.bool (bAt bs n).isSome]) S
  | dput {k:Nat} {ws:List UInt64} {bs:List UInt8} {S:St} (n:Int) (A B:UInt64) (h:S[k]?=some (Ob.mem ws bs)) :
      Prim 27 #[hndV k,accV 6 n A B] S (.tuple #[.int .u64 0,.bool (bAt bs n).isSome]) (S.set k (.mem ws (bS n A.toUInt8 bs)))
  | wself {k:Nat} {me:Int} {steps a b c:Nat} {S:St} (h:S[k]?=some (Ob.wp me steps a b c)):Prim 75 #[hndV k] S (.int .i64 me) S
  | pnew {m:Nat} {me:Int} {ws:List UInt64} {bs:List UInt8} {S:St} (h:S[m]?=some (Ob.mem ws bs)):Prim 14 #[hndV m,.int .i64 me] S (hndV S.length) (S++[.port m me 0])
  | mnew {S:St} (a b:Nat) (ha:a<=2097152) (hb:b<=1048576):Prim 18 #[.int .i64 a,.int .i64 b] S (.tuple #[hndV S.length,.int .i64 0]) (S++[.mem (List.replicate a 0) (List.replicate b 0)])
theorem zcB {args:Array Value} (F:Emb) (h:args.all zac=true):args.map (ren F)=args:=by
  apply Array.ext
  . simp
  . intro i h1 h2;simp only [Array.getElem_map];exact zaE F ((Array.all_eq_true.1 h) i h2)
theorem Prim.len {f:FuncId} {args:Array Value} {S S':St} {v:Value} (h:Prim f args S v S'):S.length<=S'.length:=by
  cases h<;>simp [accS]
theorem ziI (c k:Nat) (h:k<c):Hand c (hndV k):=by
  intro F F' hs;have:=hs (VB+k) ⟨by omega,by omega⟩
  simp [hndV,adr,this.1,this.2.1]
theorem Prim.hand {f:FuncId} {args:Array Value} {S S':St} {v:Value} (h:Prim f args S v S'):Hand S'.length v:=by
  cases h with
  | pure h ha hv=>exact Hand.plain hv
  | pnew h=>exact ziI _ _ (by simp)
  | mnew a b ha hb =>
    have h1:=ziI (S++[Ob.mem (List.replicate a 0) (List.replicate b 0)]).length S.length (by simp)
    intro F F' hs;simp only [zcO,List.map_toArray,List.map_cons,List.map_nil,zbo];rw [h1 F F' hs]
  | _=>exact Hand.plain (by first|rfl|simp [zac])
theorem zlu {S:St} {p m:Nat} {me:Int} {steps:Nat} {ws:List UInt64} {bs:List UInt8} {ob ob2:Ob} (h:S[p]?=some ob) (hm:S[m]?=some ob2) (hne:p≠m):(accS S p m me steps ws bs)[p]?=some (Ob.port m me steps)/\(accS S p m me steps ws bs)[m]?=some (Ob.mem ws bs):=by
  have h1:=(List.getElem?_eq_some_iff.1 h).1;have h2:=(List.getElem?_eq_some_iff.1 hm).1;unfold accS;constructor
  . rw [List.getElem?_set_ne (Ne.symm hne),List.getElem?_set_self h1]
  . rw [List.getElem?_set_self (by simpa using h2)]
section
variable {P:Program} {e:Operand->Value} {h:AHeap} {t:TypeId} {x y:Operand} {k:IntKind} {a b:Int}
theorem ztd (l:List Value) (t:Nat):evA l (.tmp t)=l.getD t undef:=rfl
theorem zpO (l:List Value) (v:Value):evA l (.const v)=v:=rfl
theorem zr0 (l:List Value) (f:FuncId):evA l (.func f)=.func (.func f) #[] #[]:=rfl
theorem zqy (d:Nat) (v:Value) (l:List Value):putL (some d) v l=l.set d v:=rfl
theorem zqD (v:Value) (l:List Value):putL none v l=l:=rfl
theorem ztF:valA P e h (.move x)=some (e x):=rfl
theorem zqn:valA P e h (.assign x)=some (e x):=rfl
theorem ztZ {op:BinOp} {u:TypeId}:valA P e h (.binOp op t x y u)=zaR P op t y (e x) (e y):=rfl
theorem v_un {op:UnOp}:valA P e h (.unOp op t x)=unA op (e x):=rfl
theorem zpu {u:TypeId}:valA P e h (.convert t u x)=zd1 P t u (e x):=rfl
theorem zrP {i:Nat}:valA P e h (.field t x i)=zhh P t (e x) i:=rfl
theorem zr5:valA P e h (.index t x y)=zhv P t (e x) (e y):=rfl
theorem zmH {fn:Fn} {xs ys:Array Operand}:valA P e h (.makeFunc fn xs ys)=some (.func fn (xs.map e) (ys.map e)):=rfl
theorem zl6:valA P e h (.nilCheck x)=zcs P (e x):=rfl
theorem zkE {i:Nat}:valA P e h (.fieldAddr t x i)=zcC P t (e x) i:=rfl
theorem zko:valA P e h (.indexAddr t x y)=zcH P t (e x) (e y):=rfl
def zsA (P:Program) (h:AHeap) (t:TypeId):Value->Option Value
  | .pointer (some a)=>zgp P h t a
  | _=>none
theorem zsW:valA P e h (.load t x)=zsA P h t (e x):=by
  show (match e x with|.pointer (some a)=>zgp P h t a|_=>none)=_
  unfold zsA;rfl
theorem zqM {a:Addr}:zsA P h t (.pointer (some a))=zgp P h t a:=rfl
def zsE (c a b:Value):Option Value:=match c with
  | .bool t=>some (if t then a else b)
  | _=>none
theorem ztb {z:Operand}:valA P e h (.pick x y z)=zsE (e x) (e y) (e z):=rfl
theorem zpq {v u:Value}:zsE (.bool true) v u=some v:=rfl
theorem znp {v u:Value}:zsE (.bool false) v u=some u:=rfl
def zls (v:Value) (i:Nat):Option Value:=match v with
  | .tuple vs=>vs[i]?
  | _=>none
theorem zn3 {i:Nat}:valA P e h (.extract x i)=zls (e x) i:=rfl
theorem zi8 {vs:Array Value} {i:Nat}:zls (.tuple vs) i=vs[i]?:=rfl
theorem zuB:zaR P .add t y (.int k a) (.int k b)=some (.int k (k.wrap (a+b))):=by simp [zaR,binA,intA]
theorem zuI:zaR P .sub t y (.int k a) (.int k b)=some (.int k (k.wrap (a - b))):=by simp [zaR,binA,intA]
theorem zuA:zaR P .mul t y (.int k a) (.int k b)=some (.int k (k.wrap (a * b))):=by simp [zaR,binA,intA]
theorem zuh (hb:b≠0):zaR P .rem t y (.int k a) (.int k b)=some (.int k (a.tmod b)):=by simp [zaR,binA,intA,hb]
theorem zuL:zaR P .eql t y (.int k a) (.int k b)=some (.bool (a==b)):=by simp [zaR,binA,intA]
theorem zus:zaR P .neq t y (.int k a) (.int k b)=some (.bool (a != b)):=by simp [zaR,binA,intA]
theorem zur:zaR P .lss t y (.int k a) (.int k b)=some (.bool (decide (a<b))):=by simp [zaR,binA,intA]
theorem zum:zaR P .gtr t y (.int k a) (.int k b)=some (.bool (decide (b<a))):=by simp [zaR,binA,intA]
theorem zt7:zaR P .geq t y (.int k a) (.int k b)=some (.bool (decide (b<=a))):=by simp [zaR,binA,intA]
theorem zuu {c:Bool}:unA .not (.bool c)=some (.bool !c):=rfl
theorem zt5:unA .neg (.int k a)=some (.int k (k.wrap (0 - a))):=rfl
theorem zuS:((0:Nat):Int)=0:=rfl
theorem zub:((1:Nat):Int)=1:=rfl
def zpA (b:Option Blk) (g:Option Bool) (s:Option Nat) (a:Addr):Option Value:=match b,g,s with
  | some b,some true,some s=>if a.spot=none/\a.off=0/\b.cells.length=s then some (.agg b.cells.toArray) else if a.spot=none/\a.off+s<=b.cells.length then some (.agg ((b.cells.drop a.off).take s).toArray) else none
  | some b,some false,some _=>if a.spot=none then b.cells[a.off]? else none
  | _,_,_=>none
theorem zqg {a:Addr}:zgp P h t a=zpA (h.get a.block) (zaT P t) (zai P t) a:=rfl
theorem zmT {b:Blk} {s n o:Nat}:zpA (some b) (some false) (some s) ⟨n,o,none⟩=b.cells[o]?:=by simp [zpA]
theorem zn7 {b:Blk} {s n:Nat} (hl:b.cells.length=s):zpA (some b) (some true) (some s) ⟨n,0,none⟩=some (.agg b.cells.toArray):=by simp [zpA,hl]
def zfZ (P:Program) (t:TypeId):Bool:=match P.underlying t with|some (.pointer _)=>true|_=>false
def zsl (P:Program) (t:TypeId):Bool:=match P.underlying t with|some (.interface _)=>true|_=>false
def zqW (P:Program) (t:TypeId):Bool:=match P.underlying t with|some (.slice _)=>true|_=>false
theorem zty {a:Option Addr}:zaR P .eql t y (.pointer a) (.pointer none)=cond (zfZ P t) (some (.bool a.isNone)) none:=by
  simp only [zaR,binA,zg9,zeZ,zfZ];cases P.underlying t with
  | none=>rfl
  | some u=>cases u<;>rfl
theorem zuE {a:Option Addr}:zaR P .neq t y (.pointer a) (.pointer none)=cond (zfZ P t) (some (.bool !a.isNone)) none:=by
  simp only [zaR,binA,zg9,zeZ,zfZ];cases P.underlying t with
  | none=>rfl
  | some u=>cases u<;>rfl
theorem zuc {k:Nat}:zaR P .eql t y (hndV k) (.pointer none)=cond (zfZ P t) (some (.bool false)) none:=zty
def tyMk (P:Program) (t:TypeId):Bool:=match P.underlying t with|some (.interface _)=>false|some _=>true|none=>false
theorem zrn:valA P e h (.makeInterface t x)=cond (tyMk P t) (some (.iface t (e x))) none:=by
  simp only [valA,tyMk];cases P.underlying t with
  | none=>rfl
  | some u=>cases u<;>rfl
theorem zn8 {k:Nat}:Value.iface 42 (hndV k)=prtV k:=rfl
theorem zuO {ats:Array TypeId} {z:Operand}:valA P e h (.call { callee:=.builtin .len,args:=#[z],argTypes:=ats })=(match ats.toList with|[t]=>lenA P t (e z)|_=>none):=by
  show (match [z],ats.toList with|[x],[t]=>lenA P t (e x)|_,_=>none)=_
  cases ats.toList with
  | nil=>rfl
  | cons a l=>cases l<;>rfl
def min2:Value->Value->Option Value
  | .int k x,.int _ y=>some (.int k (if y<x then y else x))
  | _,_=>none
def max2:Value->Value->Option Value
  | .int k x,.int _ y=>some (.int k (if y > x then y else x))
  | _,_=>none
theorem zrB {ps:Array (Nat × Operand)}:valA P e h (.build t ps)=zgY P t (ps.toList.map fun p=>(p.1,e p.2)):=rfl
theorem zrv {lo hi mx:Option Operand}:valA P e h (.slice t x lo hi mx)=zeT P h t (e x) (lo.map e) (hi.map e) (mx.map e):=rfl
def zi3 (o:Option (Nat × Nat)) (v:Value) (cells:List Value) (K:List Value->Option (List Value)):Option (List Value):=match o with
  | none=>none
  | some (off,size)=>if v.cells.size≠size\/off+v.cells.size > cells.length then none else K (zaP cells off v.cells.toList)
theorem zoO {pl:Nat->Option (Nat × Nat)} {cells:List Value} {i:Nat} {v:Value} {l:List (Nat × Value)}:zfM pl cells ((i,v)::l)=zi3 (pl i) v cells fun c=>zfM pl c l:=by
  rw [zfM];unfold zi3;rfl
theorem zpS {pl:Nat->Option (Nat × Nat)} {cells:List Value}:zfM pl cells []=some cells:=rfl
theorem zet {off:Nat} {v:Value} {cells:List Value} {K:List Value->Option (List Value)} (hv:v.cells=#[v]) (hl:off<cells.length):zi3 (some (off,1)) v cells K=K (cells.set off v):=by
  have:¬ ((#[v]:Array Value).size≠1\/off+(#[v]:Array Value).size > cells.length):=by simp;omega
  unfold zi3;simp only [hv];rw [if_neg this];congr 1;unfold zaP;rw [List.set_eq_take_append_cons_drop,if_pos hl];simp
theorem zoi {off:Nat} {n:Int} {cells:List Value} {K:List Value->Option (List Value)} (hl:off<cells.length):zi3 (some (off,1)) (.int k n) cells K=K (cells.set off (.int k n)):=zet rfl hl
theorem znJ {off:Nat} {c:Option Addr} {cells:List Value} {K:List Value->Option (List Value)} (hl:off<cells.length):zi3 (some (off,1)) (.pointer c) cells K=K (cells.set off (.pointer c)):=zet rfl hl
theorem zk5 {off n c:Nat} {d:Option Addr} {cells:List Value} {K:List Value->Option (List Value)} (hl:off<cells.length):zi3 (some (off,1)) (.slice d n c) cells K=K (cells.set off (.slice d n c)):=zet rfl hl
theorem znj {off:Nat} {fn:Fn} {xs ys:Array Value} {cells:List Value} {K:List Value->Option (List Value)} (hl:off<cells.length):zi3 (some (off,1)) (.func fn xs ys) cells K=K (cells.set off (.func fn xs ys)):=zet rfl hl
theorem znv {off m:Nat} {cells:List Value} {K:List Value->Option (List Value)} (hl:off<cells.length):zi3 (some (off,1)) (hndV m) cells K=K (cells.set off (hndV m)):=zet rfl hl
theorem ztY {f:FuncId} {args:Array Operand} {ats:Array TypeId}:zaL P e (.call { callee:=.value (.func f),args:=args,argTypes:=ats })=(match e (.func f) with|.func (.func g) xs ys=>some (g,xs++args.map e++ys)|.func (.method name) xs _=>(match xs.toList with|[.iface t (.pointer p)]=>(match zba P t name with|some g=>some (g,#[.pointer p]++args.map e)|none=>none)|_=>none)|_=>none):=rfl
def zqH (P:Program) (f:Value) (args:Array Value):Option (FuncId × Array Value):=match f with
  | .func (.func g) xs ys=>some (g,xs++args++ys)
  | .func (.method name) xs _=>(match xs.toList with
    | [.iface t (.pointer p)]=>(match zba P t name with|some g=>some (g,#[.pointer p]++args)|none=>none)
    | _=>none)
  | _=>none
theorem zrH {f:Operand} {args:Array Operand} {ats:Array TypeId}:zaL P e (.call { callee:=.value f,args:=args,argTypes:=ats })=zqH P (e f) (args.map e):=by
  unfold zaL zqH;rfl
theorem zo0 {g:FuncId} {xs ys args:Array Value}:zqH P (.func (.func g) xs ys) args=some (g,xs++args++ys):=rfl
theorem zoV {name:String} {k:Nat} {ys args:Array Value}:zqH P (.func (.method name) #[prtV k] ys) args=(match zba P 42 name with|some f=>some (f,#[hndV k]++args)|none=>none):=rfl
def ziW (P:Program) (r:Value) (name:String) (args:Array Value):Option (FuncId × Array Value):=match r with
  | .iface t (.pointer p)=>(match zba P t name with|some f=>some (f,#[.pointer p]++args)|none=>none)
  | _=>none
theorem zqq {r:Operand} {name:String} {args:Array Operand} {ats:Array TypeId}:zaL P e (.call { callee:=.invoke r name,args:=args,argTypes:=ats })=ziW P (e r) name (args.map e):=by
  unfold zaL ziW;rfl
theorem zuo {k:Nat} {name:String} {args:Array Value}:ziW P (prtV k) name args=(match zba P 42 name with|some f=>some (f,#[hndV k]++args)|none=>none):=rfl
theorem zuz {k:Nat} {name:String}:zcs P (.func (.method name) #[prtV k] #[])=(match zba P 42 name with|some _=>some (.func (.method name) #[prtV k] #[])|none=>none):=rfl
theorem zul {a:Addr}:zcs P (.pointer (some a))=some (.pointer (some a)):=rfl
theorem zsu {n0 n:Nat} (hn:n<n0):(lowH n0 h).get n=h.get n:=by
  unfold lowH;simp [hn]
theorem wrap_i64 {n:Int} (h1:-9223372036854775808<=n) (h2:n<=9223372036854775807):IntKind.i64.wrap n=n:=IntWalk.i64_in n ⟨h1,h2⟩
end
def fnOK (P:Program) (f:FuncId):Bool:=match P.funcs[f]? with
  | some g=>goB g
  | none=>false
theorem zhz {P:Program} {f:FuncId} (h:fnOK P f=true):∃ g,P.funcs[f]?=some g/\goB g=true:=by
  unfold fnOK at h;split at h
  . rename_i g hg;exact⟨g,hg,h⟩
  . cases h
theorem zsb (n c k:Nat) (h:k<c):Clo (Kn n c) (prtV k):=by
  intro F F' hs;have:=hs (VB+k) (.inr ⟨by omega,by omega⟩)
  simp [prtV,hndV,adr,this.1,this.2.1]
theorem zsI (n c k:Nat) (h:k<c):Clo (Kn n c) (hndV k):=by
  intro F F' hs;have:=hs (VB+k) (.inr ⟨by omega,by omega⟩)
  simp [hndV,adr,this.1,this.2.1]
theorem clo0 {K:Nat->Prop}:∀ u∈(#[]:Array Value).toList,Clo K u:=fun u hu=>by cases hu
theorem clo1 {K:Nat->Prop} {a:Value} (ha:Clo K a):∀ u∈#[a].toList,Clo K u:=fun u hu=>by
  simp only [List.mem_cons,List.not_mem_nil,or_false] at hu;subst hu;exact ha
theorem clo2 {K:Nat->Prop} {a b:Value} (ha:Clo K a) (hb:Clo K b):∀ u∈#[a,b].toList,Clo K u:=fun u hu=>by
  simp only [List.mem_cons,List.not_mem_nil,or_false] at hu;rcases hu with rfl|rfl;exact ha;exact hb
theorem clo3 {K:Nat->Prop} {a b c:Value} (ha:Clo K a) (hb:Clo K b) (hc:Clo K c):∀ u∈#[a,b,c].toList,Clo K u:=fun u hu=>by
  simp only [List.mem_cons,List.not_mem_nil,or_false] at hu;rcases hu with rfl|rfl|rfl;exact ha;exact hb;exact hc
theorem zui {c:Nat} {a b:Value} (ha:Hand c a) (hb:Hand c b):Hand c (.tuple #[a,b]):=fun F F' hs=>by
  simp only [zcO,List.map_toArray,List.map_cons,List.map_nil,ha F F' hs,hb F F' hs]
theorem zhG {c k:Nat} (h:k<c):Hand c (hndV k):=ziI c k h
theorem zua {c N T:Nat}:Hand c (.agg (geoC N T)):=Hand.plain (by simp [zac,geoC])
theorem iclo {K:Nat->Prop} {k:IntKind} {n:Int}:Clo K (.int k n):=Clo.plain rfl
theorem gclo {K:Nat->Prop} {N T:Nat}:Clo K (.agg (geoC N T)):=Clo.plain (by simp [zac,geoC])
theorem zae (N T:Nat):(geoC N T).toList.length=22:=by simp [geoC]
theorem zql (N T:Nat):(geoC N T).size=22:=by simp [geoC]
theorem zr8 (N T:Nat):(geoC N T).toList.all zdh=true:=by simp [geoC,zdh]
theorem znt {l vs:List Value} (h:l.length=vs.length):zaP l 0 vs=vs:=by simp [zaP,h]
theorem zng {l:List Value} {N T:Nat} (h:l.length=22):zaP l 0 (geoC N T).toList=(geoC N T).toList:=znt (by rw [h,zae])
theorem zkg {a v:Value} {l vs:List Value}:zaP (a::l) 0 (v::vs)=v::zaP l 0 vs:=by
  unfold zaP;rw [show 0+(v::vs).length=(0+vs.length)+1 by simp]
  rfl
theorem zmF {l:List Value}:zaP l 0 []=l:=by simp [zaP]
theorem zov (k:IntKind) (n:Int):zdh (.int k n)=true:=rfl
theorem zmA (b:Bool):zdh (.bool b)=true:=rfl
theorem zn4 (a:Option Addr):zdh (.pointer a)=true:=rfl
theorem zkM (a:Option Addr) (n c:Nat):zdh (.slice a n c)=true:=rfl
theorem zkU (t:TypeId) (v:Value):zdh (.iface t v)=true:=rfl
theorem zmm (fn:Fn) (xs ys:Array Value):zdh (.func fn xs ys)=true:=rfl
theorem zn6 (k:Nat):zdh (hndV k)=true:=rfl
theorem zoR (k:Nat):zdh (prtV k)=true:=rfl
theorem zp7:zdh .nilIface=true:=rfl
theorem zqB:zdh .nilFunc=true:=rfl
theorem znK (cs:Array Value):(Value.agg cs).cells=cs:=rfl
theorem zpd (k:IntKind) (n:Int):(Value.int k n).cells=#[.int k n]:=rfl
theorem zmP (b:Bool):(Value.bool b).cells=#[.bool b]:=rfl
theorem zoY (a:Option Addr):(Value.pointer a).cells=#[.pointer a]:=rfl
theorem zk1 (a:Option Addr) (n c:Nat):(Value.slice a n c).cells=#[.slice a n c]:=rfl
theorem zk9 (t:TypeId) (v:Value):(Value.iface t v).cells=#[.iface t v]:=rfl
theorem zmr (fn:Fn) (xs ys:Array Value):(Value.func fn xs ys).cells=#[.func fn xs ys]:=rfl
theorem zn5 (k:Nat):(prtV k).cells=#[prtV k]:=rfl
theorem znZ (k:Nat):(hndV k).cells=#[hndV k]:=rfl
section
variable {P:Program} {σ:Type} {X:Face P σ} {fn:Func} {A:Conf σ->Prop} {ops:Array Oper} {k:List Item} {i:Nat} {tmps:List Value} {h:AHeap} {S:σ} {o:Oper} {n0:Nat} {W:List Nat} {hf:AHeap} {Kf:List Value->AHeap->σ->Prop} {born:List (Nat × Nat)}
def ctl2:List Item->Option (List Item)
  | .code .skip::k|.code (.label _)::k|.inBlock _::k=>some k
  | .code (.seq a b)::k=>some (.code a::.code b::k)
  | .code (.block id b)::k=>some (.code b::.inBlock id::k)
  | .code (.exit id)::k=>exitTo id k
  | .code (.goto l)::k=>gotoIn l k
  | .inRegion _ []::k=>some k
  | .code (.scope b)::k=>some (.code b::.inScope b::k)
  | .inScope _::k=>some k
  | _=>none
theorem ztg {l l':List Item} (hc:ctl2 l=some l'):ctl tmps l=some l':=by
  unfold ctl2 at hc;split at hc<;>first|(cases hc;rfl)|exact hc|cases hc
theorem Goes.ctl2 {todo todo':List Item} (hc:Go.Proofs.Ytjhmhoapgbfgpaa.ctl2 todo=some todo') (hk:Goes X fn A (.run todo' tmps h S)):Goes X fn A (.run todo tmps h S):=.ctl (ztg hc) hk
theorem Goes.yes {c:Operand} {x y:Code} (hc:evA tmps c=.bool true) (hk:Goes X fn A (.run (.code x::k) tmps h S)):Goes X fn A (.run (.code (.cond c x y)::k) tmps h S) :=
  .cond hc (fun _=>hk) (fun h=>by cases h)
theorem Goes.no {c:Operand} {x y:Code} (hc:evA tmps c=.bool false) (hk:Goes X fn A (.run (.code y::k) tmps h S)):Goes X fn A (.run (.code (.cond c x y)::k) tmps h S) :=
  .cond hc (fun h=>by cases h) (fun _=>hk)
theorem Goes.loop {b:Code} (hk:Goes X fn A (.run (.code b::.inLoop b::k) tmps h S)):Goes X fn A (.run (.code (.loop b)::k) tmps h S):=.ctl rfl hk
theorem Goes.inLoop {b:Code} (hk:Goes X fn A (.run (.code b::.inLoop b::k) tmps h S)):Goes X fn A (.run (.inLoop b::k) tmps h S):=.ctl rfl hk
theorem At.prim2 (ho:ops.toList[i]?=some o) (hw:Region.wanted o (zah ops tmps)=true) (hb:opOK o.op=true)
    (hk:∀ K:List Value->σ->Prop,(∀ t S',At X fn A ops k (i+1) t h S'->K t S')->zdL (fun f args=>fnOK P f=true/\∃ v S',X.prim f args S v S'/\K (putL o.dst v tmps) S') (zaL P (evA tmps) o.op)):At X fn A ops k i tmps h S:=by
  have:=hk _ fun _ _ h=>h;cases hv:zaL P (evA tmps) o.op with
  | none=>rw [hv] at this;exact this.elim
  | some x =>
    obtain⟨f,args⟩:=x;rw [hv] at this;obtain⟨hf,hr⟩:=this;obtain⟨g,h1,h2⟩:=zhz hf;exact At.prim (g:=g) (zaZ ho) hw (zaX hb) (by rw [hv];exact⟨h1,h2,hr⟩)
theorem At.call2 (ho:ops.toList[i]?=some o) (hw:Region.wanted o (zah ops tmps)=true) (hb:opOK o.op=true)
    (hk:∀ K:List Value->σ->Prop,(∀ t S',At X fn A ops k (i+1) t h S'->K t S')->zdL (fun f args=>∃ v S',Does X f args [] S v S'/\K (putL o.dst v tmps) S') (zaL P (evA tmps) o.op)):At X fn A ops k i tmps h S :=
  At.call (zaZ ho) hw (zaX hb) (hk _ fun _ _ h=>h)
theorem RG.prim2 (hl:h.Low) (ho:ops.toList[i]?=some o) (hw:Region.wanted o (zah ops tmps)=true) (hb:opOK o.op=true) (hq:wrB W i o=false)
    (hk:∀ K:List Value->σ->Prop,(∀ t S',RGF X W ops n0 hf Kf (i+1) t h S' born->K t S')->zdL (fun f args=>fnOK P f=true/\∃ v S',X.prim f args S v S'/\K (putL o.dst v tmps) S') (zaL P (evA tmps) o.op)) (hnf:farB W i=false:=by rfl):RGF X W ops n0 hf Kf i tmps h S born:=by
  have:=hk _ fun _ _ h=>h;cases hv:zaL P (evA tmps) o.op with
  | none=>rw [hv] at this;exact this.elim
  | some x =>
    obtain⟨f,args⟩:=x;rw [hv] at this;obtain⟨hf,hr⟩:=this;obtain⟨g,h1,h2⟩:=zhz hf;exact RG.prim (g:=g) hl (zaZ ho) hw (zaX hb) hq (by rw [hv];exact⟨h1,h2,hr⟩) hnf
theorem RG.call2 (hl:h.Low) (ho:ops.toList[i]?=some o) (hw:Region.wanted o (zah ops tmps)=true) (hb:opOK o.op=true) (hq:wrB W i o=false)
    (hk:∀ K:List Value->σ->Prop,(∀ t S',RGF X W ops n0 hf Kf (i+1) t h S' born->K t S')->zdL (fun f args=>∃ v S',Does X f args [] S v S'/\K (putL o.dst v tmps) S') (zaL P (evA tmps) o.op)) (hnf:farB W i=false:=by rfl):RGF X W ops n0 hf Kf i tmps h S born :=
  RG.call hl (zaZ ho) hw (zaX hb) hq (hk _ fun _ _ h=>h) hnf
end
attribute [go_sem] OpK NewK zf9 zdL ztd zpO zr0 zqy zqD ztF zqn ztZ v_un zpu zrP zr5 zmH zl6 zkE zko zsW zqM ztb zpq znp zn3 zi8 zuB zuI zuA zuh zuL zus zur zum zt7 zuu zt5 zrH zo0 zoV zqq zuo zuz zul zsu wrap_i64 zmb zif znI Option.join_some zaK zaa zae zql zr8 zng znK zpd zmP zoY zk1 zk9 zmr zn5 znZ List.getElem?_cons_zero List.getElem?_cons_succ Array.toArray_toList if_true if_false List.getElem?_toArray List.length_cons List.length_nil List.map_toArray List.map_cons List.map_nil List.append_toArray List.cons_append List.nil_append true_and List.getD_cons_zero List.getD_cons_succ List.set_cons_zero List.set_cons_succ newA zd1 zcC zcH zhh zhv zkj lenA zcw zem zqg zmT Int.toNat_natCast
attribute [go_sem high] zn7
attribute [go_sem] zrn zn8 eq_self and_false false_and List.drop_succ_cons List.drop_zero List.take_succ_cons List.take_zero zkg zmF zov zmA zn4 zkM zkU zmm zn6 zoR zp7 zqB List.size_toArray List.all_cons List.all_nil Bool.and_true zuS zub Int.cast_ofNat_Int decide_true decide_false zty zuE zuc cond_true cond_false Option.isNone_some Option.isNone_none Bool.not_true Bool.not_false zuO zrB zrv zgY zoO zpS zoi znJ zk5 znj znv zbw Option.map_some
attribute [go_sem] and_true Nat.le_refl Nat.zero_add
attribute [go_sem_proc] Nat.reduceLT Nat.reduceGT Nat.reduceEqDiff Int.reduceNatCast Int.reduceEq Int.reduceNe Nat.reduceDiv Nat.reduceMod Int.reduceTDiv Int.reduceTMod Nat.reduceAdd Nat.reduceLeDiff Nat.reduceMul Nat.reduceSub Int.reduceLE Int.reduceLT Int.reduceToNat Int.reduceAdd Int.reduceSub Int.reduceMul Int.reduceBEq Int.reduceBNe Int.reduceNeg
theorem Try.eql7 (y:Operand) (a0 b0:Int) (a1 b1:Int) (a2 b2:Bool) (a3 b3:Int):zaR Try.prog .eql 7 y (.agg #[.int .i64 a0,.int .i64 a1,.bool a2,.int .u8 a3]) (.agg #[.int .i64 b0,.int .i64 b1,.bool b2,.int .u8 b3])=some (.bool (a0==b0 && (a1==b1 && (a2==b2 && (a3==b3 && true))))):=by kernel_rfl
theorem Try.neq7 (y:Operand) (a0 b0:Int) (a1 b1:Int) (a2 b2:Bool) (a3 b3:Int):zaR Try.prog .neq 7 y (.agg #[.int .i64 a0,.int .i64 a1,.bool a2,.int .u8 a3]) (.agg #[.int .i64 b0,.int .i64 b1,.bool b2,.int .u8 b3])=some (.bool !(a0==b0 && (a1==b1 && (a2==b2 && (a3==b3 && true))))):=by kernel_rfl
theorem Try.eql8 (y:Operand) (a0 b0:Int) (a1 b1:Int) (a2 b2:Bool) (a3 b3:Int):zaR Try.prog .eql 8 y (.agg #[.int .i64 a0,.int .i64 a1,.bool a2,.int .u8 a3]) (.agg #[.int .i64 b0,.int .i64 b1,.bool b2,.int .u8 b3])=some (.bool (a0==b0 && (a1==b1 && (a2==b2 && (a3==b3 && true))))):=by kernel_rfl
theorem Try.neq8 (y:Operand) (a0 b0:Int) (a1 b1:Int) (a2 b2:Bool) (a3 b3:Int):zaR Try.prog .neq 8 y (.agg #[.int .i64 a0,.int .i64 a1,.bool a2,.int .u8 a3]) (.agg #[.int .i64 b0,.int .i64 b1,.bool b2,.int .u8 b3])=some (.bool !(a0==b0 && (a1==b1 && (a2==b2 && (a3==b3 && true))))):=by kernel_rfl
theorem Try.eql60 (y:Operand) (a0 b0:Int) (a1 b1:Int) (a2 b2:Int) (a3 b3:Int):zaR Try.prog .eql 60 y (.agg #[.int .u8 a0,.int .i64 a1,.int .u64 a2,.int .u64 a3]) (.agg #[.int .u8 b0,.int .i64 b1,.int .u64 b2,.int .u64 b3])=some (.bool (a0==b0 && (a1==b1 && (a2==b2 && (a3==b3 && true))))):=by kernel_rfl
theorem Try.neq60 (y:Operand) (a0 b0:Int) (a1 b1:Int) (a2 b2:Int) (a3 b3:Int):zaR Try.prog .neq 60 y (.agg #[.int .u8 a0,.int .i64 a1,.int .u64 a2,.int .u64 a3]) (.agg #[.int .u8 b0,.int .i64 b1,.int .u64 b2,.int .u64 b3])=some (.bool !(a0==b0 && (a1==b1 && (a2==b2 && (a3==b3 && true))))):=by kernel_rfl
theorem Try.eql61 (y:Operand) (a0 b0:Int) (a1 b1:Int) (a2 b2:Int) (a3 b3:Int):zaR Try.prog .eql 61 y (.agg #[.int .u8 a0,.int .i64 a1,.int .u64 a2,.int .u64 a3]) (.agg #[.int .u8 b0,.int .i64 b1,.int .u64 b2,.int .u64 b3])=some (.bool (a0==b0 && (a1==b1 && (a2==b2 && (a3==b3 && true))))):=by kernel_rfl
theorem Try.neq61 (y:Operand) (a0 b0:Int) (a1 b1:Int) (a2 b2:Int) (a3 b3:Int):zaR Try.prog .neq 61 y (.agg #[.int .u8 a0,.int .i64 a1,.int .u64 a2,.int .u64 a3]) (.agg #[.int .u8 b0,.int .i64 b1,.int .u64 b2,.int .u64 b3])=some (.bool !(a0==b0 && (a1==b1 && (a2==b2 && (a3==b3 && true))))):=by kernel_rfl
theorem Try.eql116 (y:Operand) (a0 b0:Int) (a1 b1:Int) (a2 b2:Int) (a3 b3:Int) (a4 b4:Int):zaR Try.prog .eql 116 y (.agg #[.int .u64 a0,.int .u64 a1,.int .u64 a2,.int .u64 a3,.int .u64 a4]) (.agg #[.int .u64 b0,.int .u64 b1,.int .u64 b2,.int .u64 b3,.int .u64 b4])=some (.bool (a0==b0 && (a1==b1 && (a2==b2 && (a3==b3 && (a4==b4 && true)))))):=by kernel_rfl
theorem Try.neq116 (y:Operand) (a0 b0:Int) (a1 b1:Int) (a2 b2:Int) (a3 b3:Int) (a4 b4:Int):zaR Try.prog .neq 116 y (.agg #[.int .u64 a0,.int .u64 a1,.int .u64 a2,.int .u64 a3,.int .u64 a4]) (.agg #[.int .u64 b0,.int .u64 b1,.int .u64 b2,.int .u64 b3,.int .u64 b4])=some (.bool !(a0==b0 && (a1==b1 && (a2==b2 && (a3==b3 && (a4==b4 && true)))))):=by kernel_rfl
theorem Try.eql117 (y:Operand) (a0 b0:Int) (a1 b1:Int) (a2 b2:Int) (a3 b3:Int) (a4 b4:Int):zaR Try.prog .eql 117 y (.agg #[.int .u64 a0,.int .u64 a1,.int .u64 a2,.int .u64 a3,.int .u64 a4]) (.agg #[.int .u64 b0,.int .u64 b1,.int .u64 b2,.int .u64 b3,.int .u64 b4])=some (.bool (a0==b0 && (a1==b1 && (a2==b2 && (a3==b3 && (a4==b4 && true)))))):=by kernel_rfl
theorem Try.neq117 (y:Operand) (a0 b0:Int) (a1 b1:Int) (a2 b2:Int) (a3 b3:Int) (a4 b4:Int):zaR Try.prog .neq 117 y (.agg #[.int .u64 a0,.int .u64 a1,.int .u64 a2,.int .u64 a3,.int .u64 a4]) (.agg #[.int .u64 b0,.int .u64 b1,.int .u64 b2,.int .u64 b3,.int .u64 b4])=some (.bool !(a0==b0 && (a1==b1 && (a2==b2 && (a3==b3 && (a4==b4 && true)))))):=by kernel_rfl
theorem Try.ty0 :
  zaT Try.prog 2=some false /\
  zai Try.prog 2=some 1 /\
  tyMk Try.prog 2=true /\
  zap Try.prog 2=some 8 /\
  zav Try.prog 2=some (.int .i64 0) /\
  zac (.int .i64 0)=true /\
  zaT Try.prog 3=some false /\
  zai Try.prog 3=some 1 /\
  tyMk Try.prog 3=true /\
  zap Try.prog 3=some 8 /\
  zav Try.prog 3=some (.int .i64 0) /\
  zaT Try.prog 4=some false /\
  zai Try.prog 4=some 1 /\
  tyMk Try.prog 4=true /\
  zl2 Try.prog 4=true /\
  zap Try.prog 4=some 1 /\
  zav Try.prog 4=some (.bool false) /\
  zac (.bool false)=true /\
  zaT Try.prog 5=some false /\
  zai Try.prog 5=some 1 /\
  tyMk Try.prog 5=true /\
  zap Try.prog 5=some 1 /\
  zav Try.prog 5=some (.int .u8 0) /\
  zac (.int .u8 0)=true:=by (repeat' apply And.intro)<;>kernel_rfl
theorem Try.ty2 :
  zap Try.prog 8=some 24 /\
  zav Try.prog 8=some (.agg #[.int .i64 0,.int .i64 0,.bool false,.int .u8 0]) /\
  zaT Try.prog 9=some false /\
  zai Try.prog 9=some 1 /\
  tyMk Try.prog 9=true /\
  zap Try.prog 9=some 16 /\
  zav Try.prog 9=some (.string ⟨#[]⟩) /\
  zac (.string ⟨#[]⟩)=true /\
  zaT Try.prog 10=some false /\
  zai Try.prog 10=some 1 /\
  zap Try.prog 10=some 16 /\
  zav Try.prog 10=some (.string ⟨#[]⟩) /\
  zaT Try.prog 11=some false /\
  zai Try.prog 11=some 1 /\
  zap Try.prog 11=some 16 /\
  zav Try.prog 11=some (.string ⟨#[]⟩) /\
  zaT Try.prog 12=some false /\
  zai Try.prog 12=some 1 /\
  tyMk Try.prog 12=true /\
  zap Try.prog 12=some 8 /\
  zav Try.prog 12=some (.int .u64 0) /\
  zac (.int .u64 0)=true /\
  zaT Try.prog 13=some true /\
  zai Try.prog 13=some 2:=by (repeat' apply And.intro)<;>kernel_rfl
theorem Try.ty3 :
  zao Try.prog 13 0=some (0,9) /\
  zao Try.prog 13 1=some (1,12) /\
  (za6 Try.prog 13=some fun i=>([(0,1),(1,1)]:List (Nat × Nat))[i]?) /\
  tyMk Try.prog 13=true /\
  zap Try.prog 13=some 24 /\
  zav Try.prog 13=some (.agg #[.string ⟨#[]⟩,.int .u64 0]) /\
  zac (.agg #[.string ⟨#[]⟩,.int .u64 0])=true /\
  zaT Try.prog 14=some true /\
  zai Try.prog 14=some 2 /\
  zao Try.prog 14 0=some (0,9) /\
  zao Try.prog 14 1=some (1,12) /\
  (za6 Try.prog 14=some fun i=>([(0,1),(1,1)]:List (Nat × Nat))[i]?) /\
  tyMk Try.prog 14=true /\
  zap Try.prog 14=some 24 /\
  zav Try.prog 14=some (.agg #[.string ⟨#[]⟩,.int .u64 0]) /\
  zaT Try.prog 15=some false /\
  zai Try.prog 15=some 1 /\
  tyMk Try.prog 15=true /\
  zfZ Try.prog 15=true /\
  zap Try.prog 15=some 8 /\
  zav Try.prog 15=some (.pointer none) /\
  zac (.pointer none)=true /\
  zba Try.prog 15 "Error" = some 50 ∧
  zba Try.prog 15 "RuntimeError" = some 51 := by (repeat' apply And.intro) <;> kernel_rfl
theorem Try.ty5 :
  zai Try.prog 19=some 1 /\
  zao Try.prog 19 0=some (0,17) /\
  (za6 Try.prog 19=some fun i=>([(0,1)]:List (Nat × Nat))[i]?) /\
  tyMk Try.prog 19=true /\
  zap Try.prog 19=some 8 /\
  zav Try.prog 19=some (.agg #[.pointer none]) /\
  zaT Try.prog 20=some false /\
  zai Try.prog 20=some 1 /\
  zsl Try.prog 20=true /\
  zap Try.prog 20=some 16 /\
  zav Try.prog 20=some (.nilIface) /\
  zac (.nilIface)=true /\
  zaT Try.prog 21=some false /\
  zai Try.prog 21=some 1 /\
  tyMk Try.prog 21=true /\
  zap Try.prog 21=some 4 /\
  zav Try.prog 21=some (.int .i32 0) /\
  zac (.int .i32 0)=true /\
  zaT Try.prog 22=some false /\
  zai Try.prog 22=some 1 /\
  zqW Try.prog 22=true /\
  zap Try.prog 22=some 24 /\
  zbi Try.prog 22=some 5 /\
  zav Try.prog 22=some (.slice none 0 0):=by (repeat' apply And.intro)<;>kernel_rfl
theorem Try.ty6 :
  zac (.slice none 0 0)=true /\
  zaT Try.prog 24=some true /\
  zai Try.prog 24=some 20 /\
  (za6 Try.prog 24=some fun i=>some (i * 1,1)) /\
  zap Try.prog 24=some 160 /\
  zd4 Try.prog 24=some (20,3) /\
  zav Try.prog 24=some (.agg #[.int .i64 0,.int .i64 0,.int .i64 0,.int .i64 0,.int .i64 0,.int .i64 0,.int .i64 0,.int .i64 0,.int .i64 0,.int .i64 0,.int .i64 0,.int .i64 0,.int .i64 0,.int .i64 0,.int .i64 0,.int .i64 0,.int .i64 0,.int .i64 0,.int .i64 0,.int .i64 0]) /\
  zac (.agg #[.int .i64 0,.int .i64 0,.int .i64 0,.int .i64 0,.int .i64 0,.int .i64 0,.int .i64 0,.int .i64 0,.int .i64 0,.int .i64 0,.int .i64 0,.int .i64 0,.int .i64 0,.int .i64 0,.int .i64 0,.int .i64 0,.int .i64 0,.int .i64 0,.int .i64 0,.int .i64 0])=true /\
  zaT Try.prog 25=some true /\
  zai Try.prog 25=some 22 /\
  zao Try.prog 25 0=some (0,3) /\
  zao Try.prog 25 1=some (1,3) /\
  zao Try.prog 25 2=some (2,24) /\
  (za6 Try.prog 25=some fun i=>([(0,1),(1,1),(2,20)]:List (Nat × Nat))[i]?) /\
  tyMk Try.prog 25=true /\
  zap Try.prog 25=some 176 /\
  zav Try.prog 25=some (.agg #[.int .i64 0,.int .i64 0,.int .i64 0,.int .i64 0,.int .i64 0,.int .i64 0,.int .i64 0,.int .i64 0,.int .i64 0,.int .i64 0,.int .i64 0,.int .i64 0,.int .i64 0,.int .i64 0,.int .i64 0,.int .i64 0,.int .i64 0,.int .i64 0,.int .i64 0,.int .i64 0,.int .i64 0,.int .i64 0]) /\
  zac (.agg #[.int .i64 0,.int .i64 0,.int .i64 0,.int .i64 0,.int .i64 0,.int .i64 0,.int .i64 0,.int .i64 0,.int .i64 0,.int .i64 0,.int .i64 0,.int .i64 0,.int .i64 0,.int .i64 0,.int .i64 0,.int .i64 0,.int .i64 0,.int .i64 0,.int .i64 0,.int .i64 0,.int .i64 0,.int .i64 0])=true /\
  zaT Try.prog 26=some true /\
  zai Try.prog 26=some 22 /\
  zao Try.prog 26 0=some (0,3) /\
  zao Try.prog 26 1=some (1,3) /\
  zao Try.prog 26 2=some (2,24) /\
  (za6 Try.prog 26=some fun i=>([(0,1),(1,1),(2,20)]:List (Nat × Nat))[i]?):=by (repeat' apply And.intro)<;>kernel_rfl
theorem Try.ty7 :
  tyMk Try.prog 26=true /\
  zap Try.prog 26=some 176 /\
  zav Try.prog 26=some (.agg #[.int .i64 0,.int .i64 0,.int .i64 0,.int .i64 0,.int .i64 0,.int .i64 0,.int .i64 0,.int .i64 0,.int .i64 0,.int .i64 0,.int .i64 0,.int .i64 0,.int .i64 0,.int .i64 0,.int .i64 0,.int .i64 0,.int .i64 0,.int .i64 0,.int .i64 0,.int .i64 0,.int .i64 0,.int .i64 0]) /\
  zaT Try.prog 27=some false /\
  zai Try.prog 27=some 1 /\
  tyMk Try.prog 27=true /\
  zfZ Try.prog 27=true /\
  zap Try.prog 27=some 8 /\
  zav Try.prog 27=some (.pointer none) /\
  zba Try.prog 27 "Bytes" = some 36 ∧
  zba Try.prog 27 "Do" = some 27 ∧
  zba Try.prog 27 "Word" = some 12 ∧
  zba Try.prog 27 "Words" = some 34 ∧
  zaT Try.prog 30=some false /\
  zai Try.prog 30=some 1 /\
  zqW Try.prog 30=true /\
  zap Try.prog 30=some 24 /\
  zbi Try.prog 30=some 39 /\
  zav Try.prog 30=some (.slice none 0 0) /\
  zaT Try.prog 31=some false /\
  zai Try.prog 31=some 1 /\
  zsl Try.prog 31=true /\
  zap Try.prog 31=some 16 /\
  zav Try.prog 31=some (.nilIface):=by (repeat' apply And.intro)<;>kernel_rfl
theorem Try.ty8 :
  zaT Try.prog 32=some false /\
  zai Try.prog 32=some 1 /\
  zsl Try.prog 32=true /\
  zap Try.prog 32=some 16 /\
  zav Try.prog 32=some (.nilIface) /\
  zaT Try.prog 34=some false /\
  zai Try.prog 34=some 1 /\
  tyMk Try.prog 34=true /\
  zap Try.prog 34=some 8 /\
  zav Try.prog 34=some (.int .u64 0) /\
  zaT Try.prog 42=some false /\
  zai Try.prog 42=some 1 /\
  tyMk Try.prog 42=true /\
  zfZ Try.prog 42=true /\
  zap Try.prog 42=some 8 /\
  zav Try.prog 42=some (.pointer none) /\
  zba Try.prog 42 "Add" = some 57 ∧
  zba Try.prog 42 "CAS" = some 58 ∧
  zba Try.prog 42 "Fresh" = some 59 ∧
  zba Try.prog 42 "Get" = some 60 ∧
  zba Try.prog 42 "Load" = some 61 ∧
  zba Try.prog 42 "Put" = some 62 ∧
  zba Try.prog 42 "Self" = some 63 ∧
  zba Try.prog 42 "Steps" = some 64 := by (repeat' apply And.intro) <;> kernel_rfl
theorem Try.ty9 :
  zba Try.prog 42 "Store" = some 65 ∧
  zba Try.prog 42 "Tell" = some 66 ∧
  zaT Try.prog 47=some false /\
  zai Try.prog 47=some 1 /\
  tyMk Try.prog 47=true /\
  zap Try.prog 47=some 8 /\
  zav Try.prog 47=some (.int .i64 0) /\
  zaT Try.prog 53=some false /\
  zai Try.prog 53=some 1 /\
  zqW Try.prog 53=true /\
  zap Try.prog 53=some 24 /\
  zbi Try.prog 53=some 54 /\
  zav Try.prog 53=some (.slice none 0 0) /\
  zaT Try.prog 54=some false /\
  zai Try.prog 54=some 1 /\
  tyMk Try.prog 54=true /\
  zfZ Try.prog 54=true /\
  zap Try.prog 54=some 8 /\
  zav Try.prog 54=some (.pointer none) /\
  zba Try.prog 54 "Busy" = some 25 ∧
  zba Try.prog 54 "Close" = some 26 ∧
  zba Try.prog 54 "Grant" = some 33 ∧
  zba Try.prog 54 "Pending" = some 32 ∧
  zba Try.prog 54 "Start" = some 23 := by (repeat' apply And.intro) <;> kernel_rfl
theorem Try.ty10 :
  zba Try.prog 54 "Steps" = some 69 ∧
  zaT Try.prog 60=some true /\
  zai Try.prog 60=some 4 /\
  zao Try.prog 60 0=some (0,5) /\
  zao Try.prog 60 1=some (1,3) /\
  zao Try.prog 60 2=some (2,34) /\
  zao Try.prog 60 3=some (3,34) /\
  (za6 Try.prog 60=some fun i=>([(0,1),(1,1),(2,1),(3,1)]:List (Nat × Nat))[i]?) /\
  tyMk Try.prog 60=true /\
  zap Try.prog 60=some 32 /\
  zav Try.prog 60=some (.agg #[.int .u8 0,.int .i64 0,.int .u64 0,.int .u64 0]) /\
  zac (.agg #[.int .u8 0,.int .i64 0,.int .u64 0,.int .u64 0])=true /\
  zaT Try.prog 61=some true /\
  zai Try.prog 61=some 4 /\
  zao Try.prog 61 0=some (0,5) /\
  zao Try.prog 61 1=some (1,3) /\
  zao Try.prog 61 2=some (2,34) /\
  zao Try.prog 61 3=some (3,34) /\
  (za6 Try.prog 61=some fun i=>([(0,1),(1,1),(2,1),(3,1)]:List (Nat × Nat))[i]?) /\
  tyMk Try.prog 61=true /\
  zap Try.prog 61=some 32 /\
  zav Try.prog 61=some (.agg #[.int .u8 0,.int .i64 0,.int .u64 0,.int .u64 0]) /\
  zaT Try.prog 62=some false /\
  zai Try.prog 62=some 1:=by (repeat' apply And.intro)<;>kernel_rfl
theorem Try.ty11 :
  tyMk Try.prog 62=true /\
  zfZ Try.prog 62=true /\
  zap Try.prog 62=some 8 /\
  zav Try.prog 62=some (.pointer none) /\
  zaT Try.prog 63=some true /\
  zai Try.prog 63=some 2 /\
  zao Try.prog 63 0=some (0,27) /\
  zao Try.prog 63 1=some (1,3) /\
  (za6 Try.prog 63=some fun i=>([(0,1),(1,1)]:List (Nat × Nat))[i]?) /\
  tyMk Try.prog 63=true /\
  zap Try.prog 63=some 16 /\
  zav Try.prog 63=some (.agg #[.pointer none,.int .i64 0]) /\
  zac (.agg #[.pointer none,.int .i64 0])=true /\
  zaT Try.prog 64=some true /\
  zai Try.prog 64=some 2 /\
  zao Try.prog 64 0=some (0,27) /\
  zao Try.prog 64 1=some (1,3) /\
  (za6 Try.prog 64=some fun i=>([(0,1),(1,1)]:List (Nat × Nat))[i]?) /\
  tyMk Try.prog 64=true /\
  zap Try.prog 64=some 16 /\
  zav Try.prog 64=some (.agg #[.pointer none,.int .i64 0]) /\
  zaT Try.prog 65=some false /\
  zai Try.prog 65=some 1 /\
  tyMk Try.prog 65=true:=by (repeat' apply And.intro)<;>kernel_rfl
theorem Try.ty12 :
  zfZ Try.prog 65=true /\
  zap Try.prog 65=some 8 /\
  zav Try.prog 65=some (.pointer none) /\
  zaT Try.prog 66=some true /\
  zai Try.prog 66=some 3 /\
  zao Try.prog 66 0=some (0,62) /\
  zao Try.prog 66 1=some (1,3) /\
  zao Try.prog 66 2=some (2,65) /\
  (za6 Try.prog 66=some fun i=>([(0,1),(1,1),(2,1)]:List (Nat × Nat))[i]?) /\
  tyMk Try.prog 66=true /\
  zap Try.prog 66=some 24 /\
  zav Try.prog 66=some (.agg #[.pointer none,.int .i64 0,.pointer none]) /\
  zac (.agg #[.pointer none,.int .i64 0,.pointer none])=true /\
  zaT Try.prog 67=some true /\
  zai Try.prog 67=some 3 /\
  zao Try.prog 67 0=some (0,62) /\
  zao Try.prog 67 1=some (1,3) /\
  zao Try.prog 67 2=some (2,65) /\
  (za6 Try.prog 67=some fun i=>([(0,1),(1,1),(2,1)]:List (Nat × Nat))[i]?) /\
  tyMk Try.prog 67=true /\
  zap Try.prog 67=some 24 /\
  zav Try.prog 67=some (.agg #[.pointer none,.int .i64 0,.pointer none]) /\
  zaT Try.prog 68=some true /\
  zai Try.prog 68=some 19:=by (repeat' apply And.intro)<;>kernel_rfl
theorem Try.ty13 :
  (za6 Try.prog 68=some fun i=>some (i * 1,1)) /\
  zap Try.prog 68=some 152 /\
  zd4 Try.prog 68=some (19,3) /\
  zav Try.prog 68=some (.agg #[.int .i64 0,.int .i64 0,.int .i64 0,.int .i64 0,.int .i64 0,.int .i64 0,.int .i64 0,.int .i64 0,.int .i64 0,.int .i64 0,.int .i64 0,.int .i64 0,.int .i64 0,.int .i64 0,.int .i64 0,.int .i64 0,.int .i64 0,.int .i64 0,.int .i64 0]) /\
  zac (.agg #[.int .i64 0,.int .i64 0,.int .i64 0,.int .i64 0,.int .i64 0,.int .i64 0,.int .i64 0,.int .i64 0,.int .i64 0,.int .i64 0,.int .i64 0,.int .i64 0,.int .i64 0,.int .i64 0,.int .i64 0,.int .i64 0,.int .i64 0,.int .i64 0,.int .i64 0])=true /\
  zaT Try.prog 69=some false /\
  zai Try.prog 69=some 1 /\
  zqW Try.prog 69=true /\
  zap Try.prog 69=some 24 /\
  zbi Try.prog 69=some 34 /\
  zav Try.prog 69=some (.slice none 0 0) /\
  zaT Try.prog 70=some true /\
  zai Try.prog 70=some 2 /\
  zao Try.prog 70 0=some (0,69) /\
  zao Try.prog 70 1=some (1,22) /\
  (za6 Try.prog 70=some fun i=>([(0,1),(1,1)]:List (Nat × Nat))[i]?) /\
  tyMk Try.prog 70=true /\
  zap Try.prog 70=some 48 /\
  zav Try.prog 70=some (.agg #[.slice none 0 0,.slice none 0 0]) /\
  zac (.agg #[.slice none 0 0,.slice none 0 0])=true /\
  zaT Try.prog 71=some true /\
  zai Try.prog 71=some 2 /\
  zao Try.prog 71 0=some (0,69) /\
  zao Try.prog 71 1=some (1,22):=by (repeat' apply And.intro)<;>kernel_rfl
theorem Try.ty14 :
  (za6 Try.prog 71=some fun i=>([(0,1),(1,1)]:List (Nat × Nat))[i]?) /\
  tyMk Try.prog 71=true /\
  zap Try.prog 71=some 48 /\
  zav Try.prog 71=some (.agg #[.slice none 0 0,.slice none 0 0]) /\
  zaT Try.prog 72=some false /\
  zai Try.prog 72=some 1 /\
  zap Try.prog 72=some 8 /\
  zaT Try.prog 73=some false /\
  zai Try.prog 73=some 1 /\
  tyMk Try.prog 73=true /\
  zfZ Try.prog 73=true /\
  zap Try.prog 73=some 8 /\
  zav Try.prog 73=some (.pointer none) /\
  zba Try.prog 73 "Add" = some 70 ∧
  zba Try.prog 73 "CAS" = some 71 ∧
  zba Try.prog 73 "Get" = some 72 ∧
  zba Try.prog 73 "Load" = some 73 ∧
  zba Try.prog 73 "Put" = some 74 ∧
  zba Try.prog 73 "Self" = some 75 ∧
  zba Try.prog 73 "Steps" = some 76 ∧
  zba Try.prog 73 "Store" = some 77 ∧
  zba Try.prog 73 "Tell" = some 78 ∧
  zaT Try.prog 74=some false /\
  zai Try.prog 74=some 1:=by (repeat' apply And.intro)<;>kernel_rfl
theorem Try.ty15 :
  zap Try.prog 74=some 8 /\
  zaT Try.prog 75=some false /\
  zai Try.prog 75=some 1 /\
  tyMk Try.prog 75=true /\
  zfZ Try.prog 75=true /\
  zap Try.prog 75=some 8 /\
  zav Try.prog 75=some (.pointer none) /\
  zaT Try.prog 76=some true /\
  zai Try.prog 76=some 7 /\
  zao Try.prog 76 0=some (0,3) /\
  zao Try.prog 76 1=some (1,73) /\
  zao Try.prog 76 2=some (2,74) /\
  zao Try.prog 76 3=some (3,75) /\
  zao Try.prog 76 4=some (4,4) /\
  zao Try.prog 76 5=some (5,4) /\
  zao Try.prog 76 6=some (6,72) /\
  (za6 Try.prog 76=some fun i=>([(0,1),(1,1),(2,1),(3,1),(4,1),(5,1),(6,1)]:List (Nat × Nat))[i]?) /\
  tyMk Try.prog 76=true /\
  zap Try.prog 76=some 48 /\
  zaT Try.prog 77=some true /\
  zai Try.prog 77=some 7 /\
  zao Try.prog 77 0=some (0,3) /\
  zao Try.prog 77 1=some (1,73) /\
  zao Try.prog 77 2=some (2,74):=by (repeat' apply And.intro)<;>kernel_rfl
theorem Try.ty16 :
  zao Try.prog 77 3=some (3,75) /\
  zao Try.prog 77 4=some (4,4) /\
  zao Try.prog 77 5=some (5,4) /\
  zao Try.prog 77 6=some (6,72) /\
  (za6 Try.prog 77=some fun i=>([(0,1),(1,1),(2,1),(3,1),(4,1),(5,1),(6,1)]:List (Nat × Nat))[i]?) /\
  tyMk Try.prog 77=true /\
  zap Try.prog 77=some 48 /\
  zaT Try.prog 78=some false /\
  zai Try.prog 78=some 1 /\
  zap Try.prog 78=some 8 /\
  zaT Try.prog 79=some false /\
  zai Try.prog 79=some 1 /\
  zap Try.prog 79=some 8 /\
  zaT Try.prog 80=some true /\
  zai Try.prog 80=some 6 /\
  zao Try.prog 80 0=some (0,3) /\
  zao Try.prog 80 1=some (1,3) /\
  zao Try.prog 80 2=some (2,65) /\
  zao Try.prog 80 3=some (3,78) /\
  zao Try.prog 80 4=some (4,79) /\
  zao Try.prog 80 5=some (5,72) /\
  (za6 Try.prog 80=some fun i=>([(0,1),(1,1),(2,1),(3,1),(4,1),(5,1)]:List (Nat × Nat))[i]?) /\
  tyMk Try.prog 80=true /\
  zap Try.prog 80=some 48:=by (repeat' apply And.intro)<;>kernel_rfl
theorem Try.ty17 :
  zaT Try.prog 81=some true /\
  zai Try.prog 81=some 6 /\
  zao Try.prog 81 0=some (0,3) /\
  zao Try.prog 81 1=some (1,3) /\
  zao Try.prog 81 2=some (2,65) /\
  zao Try.prog 81 3=some (3,78) /\
  zao Try.prog 81 4=some (4,79) /\
  zao Try.prog 81 5=some (5,72) /\
  (za6 Try.prog 81=some fun i=>([(0,1),(1,1),(2,1),(3,1),(4,1),(5,1)]:List (Nat × Nat))[i]?) /\
  tyMk Try.prog 81=true /\
  zap Try.prog 81=some 48 /\
  zaT Try.prog 89=some true /\
  zai Try.prog 89=some 5 /\
  (za6 Try.prog 89=some fun i=>some (i * 1,1)) /\
  zap Try.prog 89=some 40 /\
  zd4 Try.prog 89=some (5,88) /\
  zav Try.prog 89=some (.agg #[.nilFunc,.nilFunc,.nilFunc,.nilFunc,.nilFunc]) /\
  zac (.agg #[.nilFunc,.nilFunc,.nilFunc,.nilFunc,.nilFunc])=true /\
  zaT Try.prog 91=some false /\
  zai Try.prog 91=some 1 /\
  zap Try.prog 91=some 8 /\
  zaT Try.prog 92=some true /\
  zai Try.prog 92=some 0 /\
  (za6 Try.prog 92=some fun i=>([]:List (Nat × Nat))[i]?):=by (repeat' apply And.intro)<;>kernel_rfl
theorem Try.ty25 :
  zaT Try.prog 121=some false /\
  zai Try.prog 121=some 1 /\
  zap Try.prog 121=some 8 /\
  zav Try.prog 121=some (.pointer none) /\
  zgf Try.prog 3 34=some .u64 /\
  zgf Try.prog 5 3=some .i64 /\
  zgf Try.prog 5 34=some .u64 /\
  zgf Try.prog 34 3=some .i64 /\
  zgf Try.prog 34 5=some .u8 /\
  fnOK Try.prog 2=true /\
  fnOK Try.prog 3=true /\
  fnOK Try.prog 4=true /\
  fnOK Try.prog 5=true /\
  fnOK Try.prog 6=true /\
  fnOK Try.prog 7=true /\
  fnOK Try.prog 8=true /\
  fnOK Try.prog 9=true /\
  fnOK Try.prog 10=true /\
  fnOK Try.prog 11=true /\
  fnOK Try.prog 12=true /\
  fnOK Try.prog 13=true /\
  fnOK Try.prog 14=true /\
  fnOK Try.prog 15=true /\
  fnOK Try.prog 16=true:=by (repeat' apply And.intro)<;>kernel_rfl
theorem Try.ty26 :
  fnOK Try.prog 17=true /\
  fnOK Try.prog 18=true /\
  fnOK Try.prog 19=true /\
  fnOK Try.prog 20=true /\
  fnOK Try.prog 21=true /\
  fnOK Try.prog 22=true /\
  fnOK Try.prog 23=true /\
  fnOK Try.prog 24=true /\
  fnOK Try.prog 25=true /\
  fnOK Try.prog 26=true /\
  fnOK Try.prog 27=true /\
  fnOK Try.prog 28=true /\
  fnOK Try.prog 29=true /\
  fnOK Try.prog 30=true /\
  fnOK Try.prog 31=true /\
  fnOK Try.prog 32=true /\
  fnOK Try.prog 33=true /\
  fnOK Try.prog 34=true /\
  fnOK Try.prog 35=true /\
  fnOK Try.prog 36=true /\
  fnOK Try.prog 37=true /\
  fnOK Try.prog 38=true /\
  fnOK Try.prog 39=true /\
  fnOK Try.prog 40=true:=by (repeat' apply And.intro)<;>kernel_rfl
theorem Try.ty27 :
  fnOK Try.prog 41=true /\
  fnOK Try.prog 57=true /\
  fnOK Try.prog 58=true /\
  fnOK Try.prog 61=true /\
  fnOK Try.prog 63=true /\
  fnOK Try.prog 67=true /\
  fnOK Try.prog 68=true /\
  fnOK Try.prog 70=true /\
  fnOK Try.prog 71=true /\
  fnOK Try.prog 73=true /\
  fnOK Try.prog 75=true /\
  fnOK Try.prog 79=true:=by (repeat' apply And.intro)<;>kernel_rfl
attribute [go_sem] Try.eql7 Try.neq7 Try.eql8 Try.neq8 Try.eql60 Try.neq60 Try.eql61 Try.neq61 Try.eql116 Try.neq116 Try.eql117 Try.neq117 Try.ty0 Try.ty2 Try.ty3 Try.ty5 Try.ty6 Try.ty7 Try.ty8 Try.ty9 Try.ty10 Try.ty11 Try.ty12 Try.ty13 Try.ty14 Try.ty15 Try.ty16 Try.ty17 Try.ty25 Try.ty26 Try.ty27
def upN (ns:List Nat) (nx:Nat) (n:Nat):Nat:=if n<ns.length then ns.getD n 0 else if n<VB then nx+(n - ns.length) else n
def upE (ns:List Nat) (nx:Nat):Emb:=zdd (upN ns nx)
def renB (E:Emb) (b:Blk):Blk:={ b with cells:=b.cells.map (ren E) }
structure Gives (cnt:Nat) (l l' new:List Blk) (ex:List Nat) (R:Nat->Nat) (h1:AHeap) (v0 v:Value):Prop where
  low:∀ n,n<l.length->R n=n
  hand:∀ n,VB<=n->R n=n
  more:∀ (j n:Nat),ex[j]?=some n->l.length<=n/\n<VB/\R n=l.length+j
  nodup:ex.Nodup
  len:ex.length=new.length
  len':l'.length=l.length
  told:v=ren (zdd R) v0
  clo:Clo (fun n=>n<l.length\/n∈ex\/(VB<=n/\n<VB+cnt)) v0
  rows:∀ (i:Nat) (b:Blk),l[i]?=some b->b.ro=false->∃ b1,h1.get i=some b1/\l'[i]?=some (renB (zdd R) b1)/\b1.ro=false/\∀ u∈b1.cells,Clo (fun n=>n<l.length\/n∈ex\/(VB<=n/\n<VB+cnt)) u
  news:∀ (j n:Nat),ex[j]?=some n->∃ b1,h1.get n=some b1/\new[j]?=some (renB (zdd R) b1)/\b1.ro=false/\∀ u∈b1.cells,Clo (fun n=>n<l.length\/n∈ex\/(VB<=n/\n<VB+cnt)) u
section
variable {P:Program} {σ:Type} {X:Face P σ}
def DoesX (X:Face P σ) (f:FuncId) (args:Array Value) (l:List Blk) (S:σ) (v:Value) (l' new:List Blk) (S':σ):Prop :=
  ∃ g c h1 v0 ex R,P.funcs[f]?=some g/\goB g=true/\g.body=some c/\(∀ u∈args.toList,Clo (Kn l.length (X.cnt S)) u)/\(∀ b∈l,∀ u∈b.cells,Clo (Kn l.length (X.cnt S)) u)/\Gives (X.cnt S') l l' new ex R h1 v0 v /\
    Goes X g (fun x=>x=.done v0 h1 S') (.run (zag g c args).1 (zag g c args).2 (zaq (l.map some)) S)
def LendL (h:AHeap) (E:Emb):List Nat->List Blk->Prop
  | [],[]=>True
  | n::ns,b::l=>(∃ b0,h.get n=some b0/\b0.elem=b.elem/\b0.cells=b.cells.map (ren E)/\(b.grow=b0.grow\/b.grow=none)/\(b.ro=false->b0.ro=false))/\LendL h E ns l
  | _,_=>False
theorem LendL.spec {h:AHeap} {E:Emb}:∀ {ns:List Nat} {l:List Blk},LendL h E ns l->ns.length=l.length/\∀ (i:Nat) (b:Blk),l[i]?=some b->∃ n b0,ns[i]?=some n/\h.get n=some b0/\b0.elem=b.elem/\b0.cells=b.cells.map (ren E)/\(b.grow=b0.grow\/b.grow=none)/\(b.ro=false->b0.ro=false)
  | [],[],_=>⟨rfl,fun i b hb=>by simp at hb⟩
  | n::ns,c::l,⟨⟨b0,h0⟩,hr⟩=>by
    obtain⟨h1,h2⟩:=LendL.spec hr;refine⟨by simp [h1],fun i b hb=>?_⟩
    cases i with
    | zero=>simp at hb;subst hb;exact⟨n,b0,by simp,h0⟩
    | succ i=>simp at hb;simpa using h2 i b hb
  | [],_::_,h=>h.elim
  | _::_,[],h=>h.elim
def zdZ:List Nat->List Blk->List Blk->Nat->Option Blk
  | n::ns,b::l,b'::l',m=>if n=m/\b.ro=false then some b' else zdZ ns l l' m
  | _,_,_,_=>none
theorem zdA:∀ {ns:List Nat} {l l':List Blk} {m:Nat} {b':Blk},zdZ ns l l' m=some b'->∃ (i:Nat) (b:Blk),ns[i]?=some m/\l[i]?=some b/\b.ro=false/\l'[i]?=some b'
  | [],_,_,_,_,h=>by simp [zdZ] at h
  | _::_,[],_,_,_,h=>by simp [zdZ] at h
  | _::_,_::_,[],_,_,h=>by simp [zdZ] at h
  | n::ns,b::l,c::l',m,b',h=>by
    simp only [zdZ] at h;split at h
    . rename_i hc;cases h;exact⟨0,b,by simp [hc.1],by simp,hc.2,by simp⟩
    . obtain⟨i,b1,h1,h2,h3,h4⟩:=zdA h;exact⟨i+1,b1,by simpa using h1,by simpa using h2,h3,by simpa using h4⟩
theorem zib:∀ {ns:List Nat} {l l':List Blk} {m:Nat},zdZ ns l l' m=none->ns.length=l.length->l'.length=l.length->∀ (i:Nat) (b:Blk),l[i]?=some b->b.ro=false->ns[i]?≠some m
  | [],[],_,_,_,_,_,i,b,hb,_=>by simp at hb
  | [],_::_,_,_,_,hl,_,_,_,_,_=>by simp at hl
  | _::_,[],_,_,_,hl,_,_,_,_,_=>by simp at hl
  | _::_,_::_,[],_,_,_,hl,_,_,_,_=>by simp at hl
  | n::ns,c::l,c'::l',m,h,hl,hl',i,b,hb,hr=>by
    simp only [zdZ] at h;split at h
    . cases h
    . rename_i hc;cases i with
      | zero =>
        simp at hb;subst hb;simp only [List.getElem?_cons_zero,ne_eq,Option.some.injEq];exact fun h=>hc ⟨h,hr⟩
      | succ i =>
        simp at hb hl hl';simpa using zib h hl hl' i b hb hr
def zjC (h:AHeap) (E:Emb) (ns:List Nat) (l l' new:List Blk):AHeap :=
  ⟨fun m=>match zdZ ns l l' m with
    | some b=>some (renB E b)
    | none=>if h.next<=m then (new[m - h.next]?).map (renB E) else h.get m,h.next+new.length⟩
theorem zha {ns:List Nat} {nx i n:Nat} (h:ns[i]?=some n):(upE ns nx).blk i=n:=by
  have:=(List.getElem?_eq_some_iff.1 h).1;simp only [upE,zdd,upN,this,if_true];simp [List.getD,h]
theorem zjE (F E:Emb) (b:Blk):renB F (renB E b)={ b with cells:=b.cells.map (ren (F.comp E)) }:=by
  unfold renB;simp only [List.map_map];congr 1;exact List.map_congr_left fun v _=>zcu F E v
theorem zqE {l:List Nat} (h:l.Nodup) {i j:Nat} (hi:i<l.length) (hj:j<l.length) (hne:i≠j):l[i]≠l[j]:=by
  rcases Nat.lt_or_gt_of_ne hne with h1|h1
  . exact List.pairwise_iff_getElem.1 h i j hi hj h1
  . exact Ne.symm (List.pairwise_iff_getElem.1 h j i hj hi h1)
theorem zjD {o:Oper} {e:Operand->Value} {h:AHeap} {S S':σ} {f:FuncId} {g:Func} {c:Code} {args:Array Value} {l l' new:List Blk} {ex:List Nat} {R:Nat->Nat} {v v0:Value} {h1:AHeap} {ns:List Nat} (hca:zaL P e o.op=some (f,args.map (ren (upE ns h.next)))) (hf:P.funcs[f]?=some g) (hg:goB g=true) (hb:g.body=some c)
    (hclo:∀ u∈args.toList,Clo (Kn l.length (X.cnt S)) u) (hcl:∀ b∈l,∀ u∈b.cells,Clo (Kn l.length (X.cnt S)) u) (G:Gives (X.cnt S') l l' new ex R h1 v0 v) (hlow:h.Low) (hL:LendL h (upE ns h.next) ns l) (hnd:ns.Nodup) (hlim:l.length+new.length<=VB) :
    CallOK X o e h S (ren (upE ns h.next) v) (zjC h (upE ns h.next) ns l l' new) S' f g c args (upE ns h.next) ((upE ns h.next).comp (zdd R)) (zaq (l.map some)) h1 ex v0:=by
  obtain⟨hlen,hlend⟩:=hL.spec;have hget:∀ n b,(zaq (l.map some)).get n=some b↔l[n]?=some b:=fun n b=>by
    rw [zaK,List.getElem?_map];cases l[n]?<;>simp
  have zhG:∀ n,VB<=n->(upE ns h.next).blk n=n:=fun n hn=>by
    have h1:¬ n<ns.length:=by omega
    have h2:¬ n<VB:=by omega
    simp only [upE,zdd,upN,h1,h2,if_false]
  have hK:∀ n,(n<l.length\/n∈ex\/(VB<=n/\n<VB+X.cnt S'))->((∃ b,(zaq (l.map some)).get n=some b)\/n∈ex\/(VB<=n/\n<VB+X.cnt S')):=fun n hn=>by
    rcases hn with hn|hn
    . exact .inl ⟨l[n],(hget _ _).2 (List.getElem?_eq_getElem hn)⟩
    . exact .inr hn
  have hex:∀ (j n:Nat),ex[j]?=some n->j<new.length:=fun j n hj=>by
    rw [<-G.len];exact (List.getElem?_eq_some_iff.1 hj).1
  refine⟨hca,hf,hg,hb,⟨?_,?_,?_,?_,?_,?_⟩,?_,⟨by rw [G.len];rfl,?_,?_,?_,?_,?_,?_,?_,?_,?_,G.nodup⟩⟩
  . intro n b hb v hv;rw [hget] at hb;rw [zaa,List.length_map];exact hcl b (List.mem_of_getElem? hb) v hv
  . intro n b hb;rw [hget] at hb;rw [zaa,List.length_map];exact (List.getElem?_eq_some_iff.1 hb).1
  . intro n b hb;rw [hget] at hb;obtain⟨m,b0,k1,k2,k3,k4,k5,k6⟩:=hlend n b hb;exact⟨b0,by rw [zha k1];exact k2,k3,.inl ⟨k4,rfl,rfl,k5,k6⟩⟩
  . intro n m b c hb hc hne _;rw [hget] at hb hc;obtain⟨x,_,k1,_⟩:=hlend n b hb;obtain⟨y,_,k2,_⟩:=hlend m c hc;rw [zha k1,zha k2];rintro rfl;obtain⟨h1,h1'⟩:=List.getElem?_eq_some_iff.1 k1;obtain⟨h2,h2'⟩:=List.getElem?_eq_some_iff.1 k2;exact zqE hnd h1 h2 hne (h1'.trans h2'.symm)
  . rw [zaa,List.length_map];omega
  . exact fun n hn=>⟨zhG n hn,rfl,rfl⟩
  . rw [zaa,List.length_map];exact hclo
  . intro n hn;rw [zaa,List.length_map] at hn;simp only [Emb.comp,zdd,G.low n hn,upE,Nat.add_zero,and_self]
  . intro j n hj;obtain⟨k1,k2,k3⟩:=G.more j n hj;have:=hex j n hj;refine⟨by rw [zaa,List.length_map];exact k1,k2,?_,rfl,rfl⟩
    simp only [Emb.comp,zdd,k3,upE,upN,hlen];have h1:¬ l.length+j<l.length:=by omega
    have h2:l.length+j<VB:=by omega
    simp only [h1,h2,if_false,if_true];omega
  . intro n hn;refine⟨?_,rfl,rfl⟩;simp only [Emb.comp];rw [show (zdd R).blk n=n from G.hand n hn]
    exact zhG n hn
  . rw [G.told,zcu]
  . exact fun F F' hs=>G.clo F F' (hs.mono hK)
  . rintro n b hb hn u hu;rcases hn with ⟨b0,hb0,hr⟩|hn
    . rw [hget] at hb0;obtain⟨b1,k1,_,_,k4⟩:=G.rows n b0 hb0 hr;rw [hb] at k1;cases k1;exact fun F F' hs=>k4 u hu F F' (hs.mono hK)
    . obtain⟨j,hj⟩:=List.getElem?_of_mem hn;obtain⟨b1,k1,_,_,k4⟩:=G.news j n hj;rw [hb] at k1;cases k1;exact fun F F' hs=>k4 u hu F F' (hs.mono hK)
  . intro j n hj;obtain⟨b1,k1,k2,_⟩:=G.news j n hj;rw [k1];unfold zjC;simp only;have hbk:zdZ ns l l' (h.next+j)=none:=by
      cases hb':zdZ ns l l' (h.next+j) with
      | none=>rfl
      | some b' =>
        obtain⟨i,b,g1,g2,_⟩:=zdA hb';obtain⟨m,b0,p1,p2,_⟩:=hlend i b g2;rw [g1] at p1;cases p1;have:=hlow _ _ p2;omega
    rw [hbk];simp only;rw [if_pos (by omega),Nat.add_sub_cancel_left,k2,Option.map_some,zjE]
    rfl
  . intro m hm;unfold zjC;simp only;cases hb':zdZ ns l l' m with
    | some b' =>
      obtain⟨i,b,g1,g2,g3,g4⟩:=zdA hb';obtain⟨b1,k1,k2,k3,k4⟩:=G.rows i b g2 g3;refine .inr ⟨i,b,(hget _ _).2 g2,g3,zha g1,?_⟩;rw [g4] at k2;cases k2;rw [k1,Option.map_some];simp only [zjE]
    | none =>
      refine .inl ⟨?_,fun n b hb hr=>?_⟩
      . simp only;split
        . rename_i hle;rcases hm with hm|hm
          . omega
          . have hm:h.next+new.length<=m:=hm;rw [List.getElem?_eq_none (by omega)]
            cases hg':h.get m with
            | none=>rfl
            | some b=>have:=hlow _ _ hg';omega
        . rfl
      . rw [hget] at hb;obtain⟨x,_,p1,_⟩:=hlend n b hb;have:=zib hb' hlen G.len' n b hb hr;rw [zha p1];rintro rfl;exact this p1
  . rintro n b hb (⟨b0,hb0,hr⟩|hn)
    . rw [hget] at hb0;obtain⟨b1,k1,_,k3,_⟩:=G.rows n b0 hb0 hr;rw [hb] at k1;cases k1;exact k3
    . obtain⟨j,hj⟩:=List.getElem?_of_mem hn;obtain⟨b1,k1,_,k3,_⟩:=G.news j n hj;rw [hb] at k1;cases k1;exact k3
def ziw (E:Emb) (rows:List (Option Blk)):List Nat->List Blk->List Blk->List (Option Blk)
  | n::ns,b::l,b'::l'=>if b.ro=false then (ziw E rows ns l l').set n (some (renB E b')) else ziw E rows ns l l'
  | _,_,_=>rows
theorem zcR {E:Emb} {rows:List (Option Blk)}:∀ {ns:List Nat} {l l':List Blk},(ziw E rows ns l l').length=rows.length
  | [],_,_=>rfl
  | _::_,[],_=>rfl
  | _::_,_::_,[]=>rfl
  | n::ns,b::l,b'::l'=>by
    simp only [ziw];split
    . rw [List.length_set,zcR]
    . rw [zcR]
theorem zkb {E:Emb} {rows:List (Option Blk)}:∀ {ns:List Nat} {l l':List Blk} {m:Nat},(∀ n∈ns,n<rows.length)->((ziw E rows ns l l')[m]?).join=match zdZ ns l l' m with|some b=>some (renB E b)|none=>(rows[m]?).join
  | [],_,_,_,_=>rfl
  | _::_,[],_,_,_=>rfl
  | _::_,_::_,[],_,_=>rfl
  | n::ns,b::l,b'::l',m,hlt=>by
    have ih:=@zkb E rows ns l l' m (fun x hx=>hlt x (by simp [hx]))
    simp only [ziw,zdZ];have hn:n<rows.length:=hlt n (by simp)
    by_cases hr:b.ro=false
    . rw [if_pos hr,List.getElem?_set];by_cases hm:n=m
      . subst hm;simp [hr,zcR,hn]
      . simp only [hm,false_and,if_false];exact ih
    . have hc:¬ (n=m/\b.ro=false):=fun h=>hr h.2;rw [if_neg hr,if_neg hc];exact ih
theorem zr2 {E:Emb} {rows:List (Option Blk)} {ns:List Nat} {l l' new:List Blk} (hlt:∀ n∈ns,n<rows.length):zjC (zaq rows) E ns l l' new=zaq (ziw E rows ns l l'++new.map fun b=>some (renB E b)):=by
  unfold zjC zaq;simp only [List.length_append,List.length_map,zcR];congr 1;funext m;by_cases hm:rows.length<=m
  . have hbk:zdZ ns l l' m=none:=by
      cases hb':zdZ ns l l' m with
      | none=>rfl
      | some b' =>
        obtain⟨i,b,g1,_⟩:=zdA hb';have:=hlt m (List.mem_of_getElem? g1);omega
    rw [hbk,List.getElem?_append_right (by rw [zcR];exact hm),zcR,List.getElem?_map]
    simp only [hm,if_true];cases new[m - rows.length]?<;>simp
  . rw [List.getElem?_append_left (by rw [zcR];omega),zkb hlt]
    cases zdZ ns l l' m with
    | some b=>rfl
    | none=>simp [hm]
variable {fn:Func} {A:Conf σ->Prop} {ops:Array Oper} {k:List Item} {i:Nat} {tmps:List Value} {h:AHeap} {S:σ} {o:Oper} {todo:List Item} {W:List Nat} {n0:Nat} {hf:AHeap} {Kf:List Value->AHeap->σ->Prop} {born:List (Nat × Nat)}
theorem znL {h h':AHeap} (hg:∀ m,h.get m=h'.get m) (hn:h.next=h'.next):h=h':=by
  cases h;cases h';simp only [AHeap.mk.injEq];exact⟨funext hg,hn⟩
theorem zo2 {h hv:AHeap} {m:Nat}:(zdS h hv).get m=if h.next<=m then (if m<hv.next then hv.get m else none) else h.get m:=rfl
def zro (X:Face P σ) (S:σ) (ns:List Nat) (nx:Nat) (h:AHeap) (K:Value->List Blk->List Blk->List Blk->σ->Prop) (f:FuncId) (args:Array Value):Prop :=
  ∃ zs l v l' new S',DoesX X f zs l S v l' new S'/\args=zs.map (ren (upE ns nx))/\LendL h (upE ns nx) ns l/\K v l l' new S'
theorem At.callX {rows:List (Option Blk)} (ns:List Nat) (ho:ops.toList[i]?=some o) (hw:Region.wanted o (zah ops tmps)=true) (hb:opOK o.op=true) (hnd:ns.Nodup) (hlt:(ns.all fun n=>decide (n<rows.length))=true)
    (hk:∀ K:List Value->List (Option Blk)->σ->Prop,(∀ t rs S',At X fn A ops k (i+1) t (zaq rs) S'->K t rs S') ->
      zdL (zro X S ns rows.length (zaq rows) fun v l l' new S'=>decide (rows.length+l.length+new.length<1000000)=true/\K (putL o.dst (ren (upE ns rows.length) v) tmps) (ziw (upE ns rows.length) rows ns l l'++new.map fun b=>some (renB (upE ns rows.length) b)) S') (zaL P (evA tmps) o.op)):At X fn A ops k i tmps (zaq rows) S:=by
  have hk:=hk _ fun _ _ _ h=>h;have hlt:∀ n∈ns,n<rows.length:=fun n hn=>of_decide_eq_true (List.all_eq_true.1 hlt n hn);unfold At;rw [zeH (zaZ ho)];cases hv:zaL P (evA tmps) o.op with
  | none=>rw [hv] at hk;exact hk.elim
  | some x =>
    obtain⟨f,args⟩:=x;rw [hv] at hk;obtain⟨zs,l,v,l',new,S',⟨g,c,h1,v0,ex,R,d1,d2,d3,d4,d5,d6,d7⟩,rfl,hL,hlim,hK⟩:=hk;have hlim:=of_decide_eq_true hlim;have hC:=zjD (ns:=ns) (h:=zaq rows) (o:=o) (e:=evA tmps) (f:=f) (args:=zs) (by rw [zaa];exact hv) d1 d2 d3 d4 d5 d6 (zbu _) (by rw [zaa];exact hL) hnd (by unfold VB;omega)
    rw [zaa,zr2 hlt] at hC;exact .call f g c zs _ _ _ h1 ex v0 (zaZ ho) hw (zaX hb) hC (.inr (by rw [zaa,List.length_append,zcR,List.length_map];unfold VB;omega)) d7 hK
theorem RG.callX {rows:List (Option Blk)} (ns:List Nat) (ho:ops.toList[i]?=some o) (hw:Region.wanted o (zah ops tmps)=true) (hb:opOK o.op=true) (hq:wrB W i o=false) (hnd:ns.Nodup)
    (hk:∀ K:List Value->List (Option Blk)->σ->List (Nat × Nat)->Prop,(∀ t rs S' born',RGF X W ops n0 hf Kf (i+1) t (zaq rs) S' born'->K t rs S' born') ->
      zdL (zro X S ns rows.length (visH n0 born ((zar ops.toList []).getD i 0) (zaq rows)) fun v l _ new S'=>(l.all (·.ro)=true/\decide (rows.length+l.length+new.length<1000000)=true)/\K (putL o.dst (ren (upE ns rows.length) v) tmps) (rows++new.map fun b=>some (renB (upE ns rows.length) b)) S' (zea i rows.length (rows.length+new.length)++born)) (zaL P (evA tmps) o.op)) (hnf:farB W i=false:=by rfl):RGF X W ops n0 hf Kf i tmps (zaq rows) S born:=by
  have hk:=hk _ fun _ _ _ _ h=>h;cases hv:zaL P (evA tmps) o.op with
  | none=>rw [hv] at hk;exact hk.elim
  | some x =>
    obtain⟨f,args⟩:=x;rw [hv] at hk;obtain⟨zs,l,v,l',new,S',⟨g,c,h1,v0,ex,R,d1,d2,d3,d4,d5,d6,d7⟩,rfl,hL,⟨hro,hlim⟩,hK⟩:=hk;have hlim:=of_decide_eq_true hlim;have hlowv:(visH n0 born ((zar ops.toList []).getD i 0) (zaq rows)).Low:=by
      intro n b hb;unfold visH at hb ⊢;simp only at hb ⊢;split at hb
      . cases hg:(zaq rows).get n with
        | none=>rw [hg] at hb;cases hb
        | some b0=>exact zbu _ _ _ hg
      . cases hb
    have hnx:(visH n0 born ((zar ops.toList []).getD i 0) (zaq rows)).next=rows.length:=rfl;have hC:=zjD (ns:=ns) (h:=visH n0 born ((zar ops.toList []).getD i 0) (zaq rows)) (o:=o) (e:=evA tmps) (f:=f) (args:=zs) (by rw [hnx];exact hv) d1 d2 d3 d4 d5 d6 hlowv (by rw [hnx];exact hL) hnd (by unfold VB;omega)
    rw [hnx] at hC;have hbl:∀ m,zdZ ns l l' m=none:=fun m=>by
      cases hb':zdZ ns l l' m with
      | none=>rfl
      | some b' =>
        obtain⟨j,b,_,g2,g3,_⟩:=zdA hb';have:=List.all_eq_true.1 hro b (List.mem_of_getElem? g2);rw [g3] at this;cases this
    refine .call' (h':=zaq (rows++new.map fun b=>some (renB (upE ns rows.length) b))) false f g c zs _ _ _ h1 ex v0 hnf (zaZ ho) hw (zaX hb) (.inr (by rw [zaa,List.length_append,List.length_map];unfold VB;omega)) ⟨hq,_,hC,?_⟩ d7 ?_ ?_
    . refine znL (fun m=>?_) ?_
      . rw [zo2,zaa,zaK,zaK];have hbk:∀ E m,(zjC (visH n0 born ((zar ops.toList []).getD i 0) (zaq rows)) E ns l l' new).get m=if rows.length<=m then (new[m - rows.length]?).map (renB E) else (visH n0 born ((zar ops.toList []).getD i 0) (zaq rows)).get m:=fun E m=>by
          unfold zjC;simp only [hbl m];rfl
        rw [hbk];have hbn:∀ E,(zjC (visH n0 born ((zar ops.toList []).getD i 0) (zaq rows)) E ns l l' new).next=rows.length+new.length:=fun E=>rfl;rw [hbn];split
        . rename_i hm;rw [List.getElem?_append_right hm,List.getElem?_map];split
          . cases new[m - rows.length]?<;>simp
          . rw [List.getElem?_eq_none (by omega)];simp
        . rename_i hm;rw [List.getElem?_append_left (by omega)]
      . show (zaq (rows++_)).next=rows.length+new.length;rw [zaa,List.length_append,List.length_map]
    . intro n b _ q1 q2;rw [zaa] at q2;rw [zaK,zaK,List.getElem?_append_left (by omega)]
    . rw [zaa,zaa,List.length_append,List.length_map];exact hK
theorem Gives.still {cnt:Nat} {l:List Blk} {h1:AHeap} {v:Value} (hro:l.all (·.ro)=true) (hv:Clo (Kn l.length cnt) v):Gives cnt l l [] [] id h1 v v where
  low:=fun _ _=>rfl
  hand:=fun _ _=>rfl
  more:=fun j n hj=>by simp at hj
  nodup:=List.nodup_nil
  len:=rfl
  len':=rfl
  told:=(zd5 v).symm
  clo:=fun F F' hs=>hv F F' (hs.mono fun n hn=>by
    rcases hn with hn|hn
    . exact .inl hn
    . exact .inr (.inr hn))
  rows:=fun i b hb hr=>by
    have:=List.all_eq_true.1 hro b (List.mem_of_getElem? hb);rw [hr] at this;cases this
  news:=fun j n hj=>by simp at hj
theorem Goes.finX {v v0:Value} {S':σ} {l l' new:List Blk} {ex:List Nat} {R:Nat->Nat} (ht:retB todo=true) (hv:resA P fn tmps h=some v0) (hS:S=S') (hG:Gives (X.cnt S') l l' new ex R h v0 v) :
    Goes X fn (fun x=>∃ v0 h1 ex R,x=.done v0 h1 S'/\Gives (X.cnt S') l l' new ex R h1 v0 v) (.run todo tmps h S) :=
  .ret ht hv (.here ⟨v0,h,ex,R,by rw [hS],hG⟩)
theorem Goes.finS {v:Value} {S':σ} {l:List Blk} (ht:retB todo=true) (hv:resA P fn tmps h=some v) (hS:S=S') (hro:l.all (·.ro)=true) (hc:Clo (Kn l.length (X.cnt S')) v) :
    Goes X fn (fun x=>∃ v0 h1 ex R,x=.done v0 h1 S'/\Gives (X.cnt S') l l [] ex R h1 v0 v) (.run todo tmps h S) :=
  Goes.finX ht hv hS (Gives.still hro hc)
theorem DoesX.mk {f:FuncId} {g:Func} {c:Code} {args:Array Value} {l l' new:List Blk} {S S':σ} {v:Value} (hf:P.funcs[f]?=some g) (hg:goB g=true) (hb:g.body=some c) (hclo:∀ u∈args.toList,Clo (Kn l.length (X.cnt S)) u) (hcl:∀ b∈l,∀ u∈b.cells,Clo (Kn l.length (X.cnt S)) u)
    (hrun:Goes X g (fun x=>∃ v0 h1 ex R,x=.done v0 h1 S'/\Gives (X.cnt S') l l' new ex R h1 v0 v) (.run [.code c] (args.toList++List.replicate (g.ntmps - args.size) undef) (zaq (l.map some)) S)):DoesX X f args l S v l' new S':=by
  obtain⟨c',⟨v0,h1,ex,R,rfl,hG⟩,G⟩:=hrun.out;exact⟨g,c,h1,v0,ex,R,hf,hg,hb,hclo,hcl,hG,G⟩
theorem zan {cs:List Value} {E:Emb} (h:∀ u∈cs,zac u=true):cs=cs.map (ren E):=by
  conv=>lhs;rw [<-List.map_id cs]
  exact List.map_congr_left fun u hu=>(zaE E (h u hu)).symm
end
theorem Goes.wh {P:Program} {σ:Type} {X:Face P σ} {fn:Func} {A:Conf σ->Prop} {B:Code} {K:List Item} {tmps:List Value} {h:AHeap} {S:σ} (Inv:Nat->List Value->AHeap->σ->Prop) {m:Nat} (h0:Inv m tmps h S)
    (step:∀ m tmps h S,(∀ m' t' h' S',m'<m->Inv m' t' h' S'->Goes X fn A (.run (.inLoop B::K) t' h' S'))->Inv m tmps h S->Goes X fn A (.run (.code B::.inLoop B::K) tmps h S)):Goes X fn A (.run (.code (.loop B)::K) tmps h S):=by
  refine .ctl rfl ?_;have key:∀ n,∀ m tmps h S,m<n->Inv m tmps h S->Goes X fn A (.run (.code B::.inLoop B::K) tmps h S):=by
    intro n
    induction n with
    | zero=>intro m _ _ _ hm;omega
    | succ n ih =>
      intro m tmps h S hm hI;exact step m tmps h S (fun m' t' h' S' hm' hI'=>.ctl rfl (ih m' t' h' S' (by omega) hI')) hI
  exact key (m+1) m tmps h S (by omega) h0
theorem zcV {tmps:List Value} {n:Nat} (h:tmps.length=n):∃ V:Nat->Value,(∀ i,tmps.getD i undef=V i)/\tmps=(List.range n).map V:=by
  refine⟨fun i=>tmps.getD i undef,fun _=>rfl,?_⟩;apply List.ext_getElem?;intro j;rw [List.getElem?_map];by_cases hj:j<n
  . rw [List.getElem?_range hj];simp [List.getD,List.getElem?_eq_getElem (show j<tmps.length by omega)]
  . rw [List.getElem?_eq_none (by omega),List.getElem?_eq_none (by simp;omega)]
    rfl
def appV (P:Program) (h:AHeap) (nx:Nat) (t:TypeId) (x y:Value):Option (Value × Option Blk):=match zcq P h t x y with
  | some (news,el,need,true)=>some (.slice (some ⟨nx,0,none⟩) need need,some ⟨news,el,false,zai P el⟩)
  | _=>none
theorem zlC {P:Program} {e:Operand->Value} {h:AHeap} {nx:Nat} {t:TypeId} {x y:Operand}:newA P e h nx (.call { callee:=.builtin .append,args:=#[x,y],argTypes:=#[t,t] })=appV P h nx t (e x) (e y):=by
  unfold newA appV;simp only [if_true];rcases zcq P h t (e x) (e y) with _|⟨news,el,need,b⟩
  . rfl
  . cases b<;>rfl
theorem zp8 {P:Program} {h:AHeap} {nx:Nat} {t el:TypeId} {s bs sl sc n c:Nat} {a b:Option Addr} {z:Value} {olds news:List Value} (h1:zbi P t=some el) (h2:zai P el=some (s+1)) (h3:zap P el=some bs) (h4:zav P el=some z)
    (h5:(zac z && decide (z.cells.size=s+1) && decide (bs<=1048576))=true) (c1:zbg h (s+1) (.slice a sl sc)=some olds) (c2:zbg h (s+1) (.slice b n c)=some news) (h6:sc<sl+n) (h7:sl+n<=16777216) (h8:∀ x,a=some x->∃ bk,h.get x.block=some bk/\bk.grow=some 0) :
    appV P h nx t (.slice a sl sc) (.slice b n c)=some (.slice (some ⟨nx,0,none⟩) (sl+n) (sl+n),some ⟨olds++news,el,false,some (s+1)⟩):=by
  have h5':zac z=true/\z.cells.size=s+1/\bs<=1048576:=by
    rw [Bool.and_eq_true,Bool.and_eq_true,decide_eq_true_eq,decide_eq_true_eq] at h5;exact⟨h5.1.1,h5.1.2,h5.2⟩
  have hc:zac z=true/\z.cells.size=s+1/\bs<=1048576/\sc<sl+n/\sl+n<=16777216:=⟨h5'.1,h5'.2.1,h5'.2.2,h6,h7⟩;have hap:zcq P h t (.slice a sl sc) (.slice b n c)=some (olds++news,el,sl+n,true):=by
    unfold zcq;simp only [h1,h2,h3,h4,Option.getD_some,c1,c2];rw [if_pos hc];cases a with
    | none=>rfl
    | some x =>
      obtain⟨bk,g1,g2⟩:=h8 x rfl;simp only [g1,g2,if_true]
  unfold appV;rw [hap];simp only [h2]
theorem zkv {h:AHeap} {s c:Nat} {a:Addr}:zbg h s (.slice (some a) 0 c)=some []:=by simp [zbg]
theorem zig {h:AHeap} {s n c:Nat} {a:Addr} {b:Blk} (hn:n≠0) (hg:h.get a.block=some b) (hs:a.spot=none) (hl:a.off+n * s<=b.cells.length):zbg h s (.slice (some a) n c)=some ((b.cells.drop a.off).take (n * s)):=by
  show (if n=0 then some [] else if a.spot=none then (match h.get a.block with
    | some b=>if a.off+n * s<=b.cells.length then some ((b.cells.drop a.off).take (n * s)) else none
    | none=>none) else none)=_
  rw [if_neg hn,if_pos hs,hg];simp only [hl,if_true]
def zdH (k:IntKind) (ns:List Int):List Value:=ns.map fun n=>.int k n
theorem zaj {k:IntKind} {ns:List Int}:∀ u∈zdH k ns,zac u=true:=fun u hu=>by
  obtain⟨n,_,rfl⟩:=List.mem_map.1 hu;rfl
theorem up_0 {a nx:Nat} {ns:List Nat}:(upE (a::ns) nx).blk 0=a:=by simp [upE,zdd,upN]
theorem up_1 {a b nx:Nat} {ns:List Nat}:(upE (a::b::ns) nx).blk 1=b:=by simp [upE,zdd,upN]
theorem up_2 {a b c nx:Nat} {ns:List Nat}:(upE (a::b::c::ns) nx).blk 2=c:=by simp [upE,zdd,upN]
theorem zdt {nx:Nat}:(upE [] nx).blk 0=nx:=by simp [upE,zdd,upN,VB]
theorem zaA {nx n:Nat} {ns:List Nat}:(upE ns nx).base n=0:=rfl
theorem zas {nx n:Nat} {ns:List Nat}:(upE ns nx).slack n=0:=rfl
theorem zq9 {nx k:Nat} {ns:List Nat} (h:ns.length<1000000):ren (upE ns nx) (hndV k)=hndV k:=by
  have h1:¬ VB+k<ns.length:=by unfold VB;omega
  have h2:¬ VB+k<VB:=by omega
  simp only [hndV,zbd,adr,upE,zdd,upN,h1,h2,if_false,Nat.zero_add]
theorem zb6 {nx k:Nat} {ns:List Nat} (h:ns.length<1000000):ren (upE ns nx) (prtV k)=prtV k:=by
  simp only [prtV,zc9,zq9 h]
attribute [go_sem high] zlC
attribute [go_sem] zro ziw renB up_0 up_1 up_2 zdt zaA zas zq9 zb6 za7 zbo zbY zdD zbd zcU zaz zc9 zbS zc6 zcE zcO zbK adr Nat.add_zero List.append_nil
def zaH (l:List (Option Blk)) (q:Nat) (l2:List (Option Blk)):AHeap:=⟨fun n=>if n<q then (l[n]?).join else (l2[n - q]?).join,q+l2.length⟩
theorem zge {l:List (Option Blk)} {q:Nat} {l2:List (Option Blk)} {n:Nat} (h:n<q):(zaH l q l2).get n=(l[n]?).join:=if_pos h
theorem zsM {l:List (Option Blk)} {q:Nat} {l2:List (Option Blk)}:(zaH l q l2).get q=(l2[0]?).join:=by
  show (if q<q then _ else _)=_
  rw [if_neg (Nat.lt_irrefl q),Nat.sub_self]
theorem zg4 {l:List (Option Blk)} {q:Nat} {l2:List (Option Blk)} {i:Nat}:(zaH l q l2).get (q+i)=(l2[i]?).join:=by
  show (if q+i<q then _ else _)=_
  rw [if_neg (by omega),Nat.add_sub_cancel_left]
theorem zeG (l:List (Option Blk)) (q:Nat) (l2:List (Option Blk)):(zaH l q l2).next=q+l2.length:=rfl
theorem zh1 {a b:AHeap} (h1:∀ n,a.get n=b.get n) (h2:a.next=b.next):a=b:=by
  cases a;cases b;simp only [AHeap.mk.injEq];exact⟨funext h1,h2⟩
theorem zqv (l:List (Option Blk)) (q:Nat) (l2:List (Option Blk)) (b:Option Blk):(zaH l q l2).addO b=zaH l q (l2++[b]):=by
  refine zh1 (fun n=>?_) (by simp [AHeap.addO,zaH];omega)
  rw [AHeap.addO_get,zeG];show _=(if n<q then _ else _)
  by_cases hn:n<q
  . rw [if_neg (by omega),if_pos hn,zge hn]
  . obtain⟨i,rfl⟩:∃ i,n=q+i:=⟨n - q,by omega⟩
    rw [zg4,if_neg hn,Nat.add_sub_cancel_left];by_cases hi:i=l2.length
    . subst hi;rw [if_pos rfl];simp
    . rw [if_neg (by omega),List.getElem?_append]
      by_cases h2:i<l2.length
      . rw [if_pos h2]
      . rw [if_neg h2,List.getElem?_eq_none (by omega),List.getElem?_eq_none (by simp;omega)]
theorem zhC {l:List (Option Blk)} {q:Nat} {l2:List (Option Blk)} {n:Nat} {b:Option Blk} (h:n<q) (hl:n<l.length):(zaH l q l2).putO n b=zaH (l.set n b) q l2:=by
  refine zh1 (fun m=>?_) rfl;rw [AHeap.putO_get];show _=(if m<q then _ else _)
  by_cases hm:m=n
  . subst hm;rw [if_pos rfl,if_pos h];simp [hl]
  . rw [if_neg hm];show (if m<q then _ else _)=_
    rw [List.getElem?_set_ne (fun e=>hm e.symm)]
theorem zgX {l:List (Option Blk)} {q:Nat} {l2:List (Option Blk)} {i:Nat} {b:Option Blk} (hl:i<l2.length):(zaH l q l2).putO (q+i) b=zaH l q (l2.set i b):=by
  refine zh1 (fun m=>?_) (by simp [AHeap.putO,zaH])
  rw [AHeap.putO_get];show _=(if m<q then _ else _)
  by_cases hm:m<q
  . rw [if_neg (by omega),if_pos hm,zge hm]
  . obtain⟨j,rfl⟩:∃ j,m=q+j:=⟨m - q,by omega⟩
    rw [zg4,if_neg hm,Nat.add_sub_cancel_left];by_cases hj:j=i
    . subst hj;rw [if_pos rfl];simp [hl]
    . rw [if_neg (by omega),List.getElem?_set_ne (fun e=>hj e.symm)]
theorem zf8 {l:List (Option Blk)} {q:Nat} {l2:List (Option Blk)} {b:Option Blk} (hl:0<l2.length):(zaH l q l2).putO q b=zaH l q (l2.set 0 b):=zgX (i:=0) hl
theorem zl9 {l:List (Option Blk)} {q:Nat} {l2:List (Option Blk)} {n:Nat} {b:Blk} (h:n<q) (hl:n<l.length):(zaH l q l2).put n b=zaH (l.set n (some b)) q l2:=by rw [zip,zhC h hl]
theorem zk3 {l:List (Option Blk)} {q:Nat} {l2:List (Option Blk)} {b:Blk} (hl:0<l2.length):(zaH l q l2).put q b=zaH l q (l2.set 0 (some b)):=by rw [zip,zf8 hl]
theorem zpk {l:List (Option Blk)} {q:Nat} {l2:List (Option Blk)} (h:q+l2.length<1000000000):(zaH l q l2).next<VB:=by rw [zeG];unfold VB;omega
theorem zho (l:List (Option Blk)) (q:Nat) (l2:List (Option Blk)):(zaH l q l2).Low:=by
  intro n b hb;rw [zeG];by_cases hn:n<q
  . omega
  . obtain⟨i,rfl⟩:∃ i,n=q+i:=⟨n - q,by omega⟩
    rw [zg4] at hb;have:i<l2.length:=by
      apply Nat.lt_of_not_le;intro h;rw [List.getElem?_eq_none h] at hb;simp at hb
    omega
theorem zrg (l:List (Option Blk)):zaq l=zaH l l.length []:=by
  refine zh1 (fun n=>?_) (by simp [zaq,zaH])
  rw [zaK];show _=(if n<l.length then _ else _)
  split
  . rfl
  . rw [List.getElem?_eq_none (by omega)];simp
attribute [go_sem] zge zsM zg4 zeG zqv zhC zgX zf8 zl9 zk3
end Go.Proofs.Ytjhmhoapgbfgpaa
