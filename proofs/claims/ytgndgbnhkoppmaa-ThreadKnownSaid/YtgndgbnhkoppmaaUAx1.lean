/-
  The abstract machine, part 1: values under a renaming of blocks, a heap of named rows, what one operation does there.
  No condition: definitions and small laws.
-/
import Derived.Test.YtgndgbnhkoppmaaRows
import Derived.Laws.Entries
import Derived.Laws.EntriesVeiled
import Derived.Orders
import Derived.Below
import Derived.Deep.MidRow
import Derived.Laws.StructEq
import Derived.Laws.AppendOwn
import Derived.OrdersHeld
import Derived.Still
import Derived.Tactics
import Derived.WalkKit
import Derived.WalkSpells
import Derived.WalkLawsBesides
import Derived.BigQuiet
import Derived.Deep.RegionHeld3
set_option maxHeartbeats 40000000
set_option linter.unusedVariables false
set_option linter.unusedSimpArgs false
namespace Go.Proofs.Ytgndgbnhkoppmaa
open Go
structure Emb where
  blk:Nat->Nat
  base:Nat->Nat
  slack:Nat->Nat
def adr (F:Emb) (a:Addr):Addr:=⟨F.blk a.block,F.base a.block+a.off,a.spot⟩
def ren (F:Emb):Value->Value
  | .pointer (some a)=>.pointer (some (adr F a))
  | .slice (some a) n c=>.slice (some (adr F a)) n (c+F.slack a.block)
  | .iface t v=>.iface t (ren F v)
  | .agg cs=>.agg (cs.attach.map fun x=>ren F x.1)
  | .tuple cs=>.tuple (cs.attach.map fun x=>ren F x.1)
  | .func fn xs ys=>.func fn (xs.attach.map fun x=>ren F x.1) (ys.attach.map fun x=>ren F x.1)
  | v=>v
termination_by v=>SizeOf.sizeOf v
decreasing_by all_goals (simp_wf;first|omega|(have:=Array.sizeOf_lt_of_mem x.2;omega))
section
variable (F:Emb)
@[simp] theorem za3 (b:Bool):ren F (.bool b)=.bool b:=by rw [ren];all_goals simp
@[simp] theorem zbp (k:IntKind) (n:Int):ren F (.int k n)=.int k n:=by rw [ren];all_goals simp
@[simp] theorem zbI (s:ByteArray):ren F (.string s)=.string s:=by rw [ren];all_goals simp
@[simp] theorem zdm:ren F (.pointer none)=.pointer none:=by rw [ren];all_goals simp
@[simp] theorem zba (a:Addr):ren F (.pointer (some a))=.pointer (some (adr F a)):=by rw [ren]
@[simp] theorem zcw (n c:Nat):ren F (.slice none n c)=.slice none n c:=by rw [ren];all_goals simp
@[simp] theorem zaz (a:Addr) (n c:Nat):ren F (.slice (some a) n c)=.slice (some (adr F a)) n (c+F.slack a.block):=by rw [ren]
@[simp] theorem zcZ (t:TypeId) (v:Value):ren F (.iface t v)=.iface t (ren F v):=by rw [ren]
@[simp] theorem zbC:ren F .nilIface=.nilIface:=by rw [ren];all_goals simp
@[simp] theorem zcS:ren F .nilFunc=.nilFunc:=by rw [ren];all_goals simp
@[simp] theorem zco (cs:Array Value):ren F (.agg cs)=.agg (cs.map (ren F)):=by rw [ren];simp
@[simp] theorem zcQ (cs:Array Value):ren F (.tuple cs)=.tuple (cs.map (ren F)):=by rw [ren];simp
@[simp] theorem zbx (fn:Fn) (xs ys:Array Value):ren F (.func fn xs ys)=.func fn (xs.map (ren F)) (ys.map (ren F)):=by rw [ren];simp
theorem zaS:ren F undef=undef:=by simp [undef]
end
def zac:Value->Bool
  | .bool _|.int _ _|.string _|.pointer none|.slice none _ _|.nilIface|.nilFunc=>true
  | .agg cs=>cs.all fun|.bool _|.int _ _|.string _|.pointer none|.slice none _ _|.nilIface|.nilFunc=>true|_=>false
  | .tuple cs=>cs.all fun|.bool _|.int _ _|.string _|.pointer none|.slice none _ _|.nilIface|.nilFunc=>true|.agg ds=>(ds.all fun|.bool _|.int _ _|.string _|.pointer none|.slice none _ _|.nilIface|.nilFunc=>true|_=>false)|_=>false
  | _=>false
theorem zgn {cs:Array Value} (F:Emb) (h:(cs.all fun|.bool _|.int _ _|.string _|.pointer none|.slice none _ _|.nilIface|.nilFunc=>true|_=>false)=true):cs.map (ren F)=cs:=by
  apply Array.ext
  . simp
  . intro i h1 h2;simp only [Array.getElem_map];have:=(Array.all_eq_true.1 h) i h2;revert this;generalize cs[i]=v;intro hv;split at hv<;>simp_all
theorem zj5 {cs:Array Value} (F:Emb) (h:(cs.all fun|.bool _|.int _ _|.string _|.pointer none|.slice none _ _|.nilIface|.nilFunc=>true|.agg ds=>(ds.all fun|.bool _|.int _ _|.string _|.pointer none|.slice none _ _|.nilIface|.nilFunc=>true|_=>false)|_=>false)=true):cs.map (ren F)=cs:=by
  apply Array.ext
  . simp
  . intro i h1 h2;simp only [Array.getElem_map];have:=(Array.all_eq_true.1 h) i h2;revert this;generalize cs[i]=v;intro hv;split at hv
    case h_8 ds=>rw [zco,zgn F hv]
    all_goals simp_all
theorem zaC {v:Value} (F:Emb) (h:zac v=true):ren F v=v:=by
  unfold zac at h;split at h<;>first|(cases h;done)|(simp;done)|(rw [zco,zgn F h];done)|(rw [zcQ,zj5 F h])
structure Blk where
  cells:List Value
  elem:TypeId
  ro:Bool:=false
  grow:Option Nat:=some 0
structure AHeap where
  get:Nat->Option Blk
  next:Nat
def AHeap.none:AHeap:=⟨fun _=>Option.none,0⟩
def AHeap.add (h:AHeap) (b:Blk):AHeap:=⟨fun n=>if n=h.next then some b else h.get n,h.next+1⟩
def AHeap.addO (h:AHeap) (b:Option Blk):AHeap:=⟨fun n=>if n=h.next then b else h.get n,h.next+1⟩
def AHeap.put (h:AHeap) (n:Nat) (b:Blk):AHeap:=⟨fun m=>if m=n then some b else h.get m,h.next⟩
def AHeap.putO (h:AHeap) (n:Nat) (b:Option Blk):AHeap:=⟨fun m=>if m=n then b else h.get m,h.next⟩
theorem AHeap.addO_get (h:AHeap) (b:Option Blk) (n:Nat):(h.addO b).get n=if n=h.next then b else h.get n:=rfl
theorem AHeap.putO_get (h:AHeap) (m:Nat) (b:Option Blk) (n:Nat):(h.putO m b).get n=if n=m then b else h.get n:=rfl
theorem AHeap.put_get (h:AHeap) (m:Nat) (b:Blk) (n:Nat):(h.put m b).get n=if n=m then some b else h.get n:=rfl
theorem AHeap.put_next (h:AHeap) (m:Nat) (b:Blk):(h.put m b).next=h.next:=rfl
def zal (P:Program) (t:TypeId):Option Nat:=(P.info? t).map (·.size)
def zaw (P:Program) (t:TypeId):Option Value:=(P.info? t).bind (·.zero)
def zaP (P:Program) (t:TypeId):Option Bool:=(P.underlying t).map fun|.struct _|.array _ _=>true|_=>false
def zak (P:Program) (t:TypeId) (i:Nat):Option (Nat × TypeId):=match P.underlying t with
  | some (.struct fs)=>(fs[i]?).map fun f=>(f.offset,f.type)
  | _=>none
def za8 (P:Program) (t:TypeId):Option TypeId:=match P.underlying t with|some (.slice e)=>some e|_=>none
def zeJ (P:Program) (t:TypeId):Option (Nat × TypeId):=match P.underlying t with|some (.array n e)=>some (n,e)|_=>none
def zap (P:Program) (t:TypeId):Option Nat:=(P.info? t).map (·.bytes)
def zei (P:Program):List Field->Option (List (Nat × Nat))
  | []=>some []
  | f::fs=>match zal P f.type,zei P fs with
    | some s,some l=>some ((f.offset,s)::l)
    | _,_=>none
def zbk (P:Program) (t:TypeId):Option (Nat->Option (Nat × Nat)):=match P.underlying t with
  | some (.struct fs)=>(zei P fs.toList).map fun l i=>l[i]?
  | some (.array _ e)=>(zal P e).map fun s i=>some (i * s,s)
  | _=>none
def zjX (P:Program) (t:TypeId) (cs:Array Value) (off:Nat):Option Value:=match zaP P t,zal P t with
  | some true,some s=>some (.agg (cs.extract off (off+s)))
  | some false,_=>cs[off]?
  | _,_=>none
def zf4 (P:Program) (h:AHeap) (t:TypeId) (a:Addr):Option Value:=match h.get a.block,zaP P t,zal P t with
  | some b,some true,some s=>if a.spot=none/\a.off=0/\b.cells.length=s then some (.agg b.cells.toArray) else if a.spot=none/\a.off+s<=b.cells.length then some (.agg ((b.cells.drop a.off).take s).toArray) else none
  | some b,some false,some _=>if a.spot=none then b.cells[a.off]? else none
  | _,_,_=>none
def zdI:Value->Bool
  | .agg _|.tuple _=>false
  | _=>true
def zaQ (l:List Value) (off:Nat) (vs:List Value):List Value:=l.take off++vs++l.drop (off+vs.length)
def zdV (P:Program) (h:AHeap) (t:TypeId) (a:Addr) (v:Value):Option AHeap:=match h.get a.block,zal P t with
  | some b,some s =>
    if a.spot=none/\b.ro=false then
      (match v with
      | .agg cs=>if cs.size=s/\a.off+s<=b.cells.length/\cs.toList.all zdI=true then some (h.put a.block { b with cells:=zaQ b.cells a.off cs.toList }) else none
      | .tuple _=>none
      | v=>if s=1/\a.off<b.cells.length then some (h.put a.block { b with cells:=b.cells.set a.off v }) else none)
    else none
  | _,_=>none
def intA (op:BinOp) (k:IntKind) (x y:Int):Option Value:=match op with
  | .add=>some (.int k (k.wrap (x+y)))
  | .sub=>some (.int k (k.wrap (x - y)))
  | .mul=>some (.int k (k.wrap (x * y)))
  | .quo=>if y=0 then none else some (.int k (k.wrap (x.tdiv y)))
  | .rem=>if y=0 then none else some (.int k (x.tmod y))
  | .and=>some (.int k (k.wrap (BitVec.ofInt k.bits x &&& BitVec.ofInt k.bits y).toNat))
  | .or=>some (.int k (k.wrap (BitVec.ofInt k.bits x ||| BitVec.ofInt k.bits y).toNat))
  | .xor=>some (.int k (k.wrap (BitVec.ofInt k.bits x ^^^ BitVec.ofInt k.bits y).toNat))
  | .andNot=>some (.int k (k.wrap (BitVec.ofInt k.bits x &&& ~~~ BitVec.ofInt k.bits y).toNat))
  | .eql=>some (.bool (x==y))
  | .neq=>some (.bool (x != y))
  | .lss=>some (.bool (decide (x<y)))
  | .leq=>some (.bool (decide (x<=y)))
  | .gtr=>some (.bool (decide (x > y)))
  | .geq=>some (.bool (decide (x >= y)))
  | _=>none
def zkX (op:BinOp) (k:IntKind) (x y:Int):Option Value:=match op with
  | .shl=>if y<0 then none else some (.int k (k.wrap (x * 2 ^ min y.toNat k.bits)))
  | .shr=>if y<0 then none else some (.int k (x.fdiv (2 ^ min y.toNat k.bits)))
  | _=>none
def binA (op:BinOp) (x y:Value):Option Value:=match x,y with
  | .int k a,.int k' b=>(match op with
    | .shl|.shr=>zkX op k a b
    | _=>if k=k' then intA op k a b else none)
  | _,_=>none
def unA (op:UnOp) (x:Value):Option Value:=match op,x with
  | .neg,.int k n=>some (.int k (k.wrap (0 - n)))
  | .xor,.int k n=>some (.int k (k.wrap (BitVec.ofInt k.bits (if k.signed then -1 else k.max) ^^^ BitVec.ofInt k.bits n).toNat))
  | .not,.bool b=>some (.bool !b)
  | _,_=>none
def evA (tmps:List Value):Operand->Value
  | .tmp t=>tmps.getD t undef
  | .const v=>v
  | .global _=>undef
  | .func f=>.func (.func f) #[] #[]
def zaN:Operand->Bool
  | .tmp _|.func _=>true
  | .const v=>zac v
  | .global _=>false
def za9 (P:Program) (t:TypeId) (name:String):Option FuncId:=match P.info? t,P.underlying t with
  | some i,some (.pointer _)=>(match i.methods.find? (·.name==name) with
    | some m=>if m.path.isEmpty then (match m.func with|some (f,true)=>some f|_=>none) else none
    | none=>none)
  | _,_=>none
def zfU (P:Program) (t:TypeId) (y:Operand) (a b:Value):Option Bool:=match P.underlying t,a,b with
  | some (.slice _),.slice a _ _,.slice none _ _=>some a.isNone
  | some (.pointer _),.pointer a,.pointer none=>some a.isNone
  | some (.interface _),.iface _ _,.nilIface=>some false
  | some (.interface _),.nilIface,.nilIface=>(match y with|.const _=>some true|_=>none)
  | some (.func _ _ _),.func _ _ _,.nilFunc=>some false
  | some (.func _ _ _),.nilFunc,.nilFunc=>some true
  | _,_,_=>none
def zdo (P:Program) (xs ys:Array Value):List Field->Option Bool
  | []=>some true
  | f :: fs => if f.name ≠ "_" ∧ zaP P f.type = some false then (match xs[f.offset]?, ys[f.offset]?, P.underlying f.type, zdo P xs ys fs with
    | some (.int k a),some (.int k' b),some (.int _),some r=>if k=k' then some (a==b && r) else none
    | some (.bool a),some (.bool b),some .bool,some r=>some (a==b && r)
    | some (.string a),some (.string b),some .string,some r=>some (a==b && r)
    | _,_,_,_=>none) else none
def zn2 (P:Program) (t:TypeId):Bool:=!P.stoodInHeld t && !P.eqGuardType P.depth t
def zgr (P:Program) (t:TypeId):Option (List Field):=match P.underlying t with|some (.struct fs)=>some fs.toList|_=>none
def zlq (P:Program) (t:TypeId):Bool:=match P.underlying t with|some .bool=>true|_=>false
def zoB (P:Program) (t:TypeId):Bool:=match P.underlying t with|some .string=>true|_=>false
def zdT (P:Program) (t:TypeId) (a b:Value):Option Bool:=match a,b with
  | .agg xs,.agg ys=>(match zgr P t with
    | some fs=>if zn2 P t=true then zdo P xs ys fs else none
    | none=>none)
  | .bool a,.bool b=>if zlq P t=true then some (a==b) else none
  | .string a,.string b=>if zoB P t=true then some (a==b) else none
  | _,_=>none
def zaR (P:Program) (op:BinOp) (t:TypeId) (y:Operand) (a b:Value):Option Value:=match binA op a b with
  | some v=>some v
  | none=>(match zfU P t y a b with
    | some r=>(match op with
      | .eql=>some (.bool r)
      | .neq=>some (.bool !r)
      | _=>none)
    | none=>(match op,zdT P t a b with
      | .eql,some r=>some (.bool r)
      | .neq,some r=>some (.bool !r)
      | _,_=>none))
def zfJ (place:Nat->Option (Nat × Nat)) (cells:List Value):List (Nat × Value)->Option (List Value)
  | []=>some cells
  | (i,v)::rest=>match place i with
    | none=>none
    | some (off,size)=>if v.cells.size≠size\/off+v.cells.size > cells.length then none else zfJ place (zaQ cells off v.cells.toList) rest
def zci (P:Program):Value->Option Value
  | .pointer (some a)=>some (.pointer (some a))
  | .func (.func f) xs ys=>some (.func (.func f) xs ys)
  | .func (.method name) xs ys=>(match (xs[0]?:Option Value) with
    | some (.iface t (.pointer _))=>(match za9 P t name with|some _=>some (.func (.method name) xs ys)|none=>none)
    | _=>none)
  | .iface t v=>some (.iface t v)
  | _=>none
def zcr (P:Program) (t:TypeId) (x:Value) (i:Nat):Option Value:=match x,zak P t i with
  | .pointer (some a),some (off,ft)=>(match zal P ft with
    | some (_+1)=>if a.spot=none then some (.pointer (some ⟨a.block,a.off+off,none⟩)) else none
    | _=>none)
  | _,_=>none
def zcq (P:Program) (t:TypeId) (x i:Value):Option Value:=match x,i with
  | .slice (some a) len _,.int _ n=>(match za8 P t with
    | some el=>(match zal P el with
      | some s=>if a.spot=none/\0<=n/\n<len then some (.pointer (some ⟨a.block,a.off+n.toNat * s,none⟩)) else none
      | none=>none)
    | none=>none)
  | .pointer (some a),.int _ n=>(match zeJ P t with
    | some (len,el)=>(match zal P el with
      | some s=>if a.spot=none/\0<=n/\n<len then some (.pointer (some ⟨a.block,a.off+n.toNat * s,none⟩)) else none
      | none=>none)
    | none=>none)
  | _,_=>none
def zg5 (P:Program) (src dst:TypeId):Option IntKind:=match P.underlying src,P.underlying dst with
  | some _,some (.int k)=>some k
  | _,_=>none
def zdw (P:Program) (src dst:TypeId) (x:Value):Option Value:=match x,zg5 P src dst with
  | .int _ n,some k=>some (.int k (k.wrap n))
  | _,_=>none
def zgl (P:Program) (t:TypeId) (x:Value) (i:Nat):Option Value:=match x,zak P t i with
  | .agg cs,some (off,ft)=>zjX P ft cs off
  | _,_=>none
def zgB (P:Program) (t:TypeId) (x i:Value):Option Value:=match x,i,zeJ P t with
  | .agg cs,.int _ n,some (len,el)=>(match zal P el with
    | some s=>if 0<=n/\n<len then zjX P el cs (n.toNat * s) else none
    | none=>none)
  | .string s,.int _ n,none=>(match P.underlying t with
    | some .string=>if 0<=n then (s[n.toNat]?).map (fun b=>.int .u8 b.toNat) else none
    | _=>none)
  | _,_,_=>none
def lenA (P:Program) (t:TypeId) (x:Value):Option Value:=match x,za8 P t with
  | .slice _ n _,some _=>some (.int .i64 n)
  | _,_=>none
def minA:List Value->Value->Option Value
  | [],v=>some v
  | .int _ y::l,.int k x=>minA l (.int k (if y<x then y else x))
  | _,_=>none
def maxA:List Value->Value->Option Value
  | [],v=>some v
  | .int _ y::l,.int k x=>maxA l (.int k (if y > x then y else x))
  | _,_=>none
def zoi (P:Program) (e:Operand->Value) (c:Call):Option Value:=match c.callee with
  | .builtin .len=>(match c.args.toList,c.argTypes.toList with|[x],[t]=>lenA P t (e x)|_,_=>none)
  | .builtin .min=>(match c.args.toList with|x::l=>minA (l.map e) (e x)|_=>none)
  | .builtin .max=>(match c.args.toList with|x::l=>maxA (l.map e) (e x)|_=>none)
  | _=>none
def ze6 (P:Program) (t:TypeId) (x:Value):Option Value:=match x,zeJ P t with
  | .slice (some a) len _,some (n,_)=>if len<n then none else some (.pointer (some a))
  | _,_=>none
def zbL:Option Value->Nat->Option Nat
  | none,d=>some d
  | some (.int _ n),_=>if 0<=n then some n.toNat else none
  | _,_=>none
def zeC (P:Program) (h:AHeap) (t:TypeId) (x:Value) (lo hi mx:Option Value):Option Value:=match mx,za8 P t,zeJ P t,x with
  | none,some el,_,.slice (some a) len cap=>(match zbL lo 0,zbL hi len,zal P el with
    | some l,some r,some s=>if l<=r/\r<=cap/\a.spot=none then
        (if l<cap\/l=0 then (if l=0 then some (.slice (some a) r cap) else some (.slice (some ⟨a.block,a.off+l * s,none⟩) (r - l) (cap - l)))
         else (match h.get a.block with|some b=>if b.grow=some 0 then some (.slice (some a) 0 0) else none|none=>none)) else none
    | _,_,_=>none)
  | none,some el,_,.slice none 0 0=>(match zbL lo 0,zbL hi 0,zal P el with
    | some 0,some 0,some _=>some (.slice none 0 0)
    | _,_,_=>none)
  | none,none,some (n,el),.pointer (some a)=>(match zbL lo 0,zbL hi n,zal P el,h.get a.block with
    | some l,some r,some s,some b=>if l<=r/\r<=n/\a.spot=none/\b.grow=some 0 then
        (if n=l then some (.slice (some a) 0 0) else some (.slice (some ⟨a.block,a.off+l * s,none⟩) (r - l) (n - l))) else none
    | _,_,_,_=>none)
  | _,_,_,_=>none
def zg2 (P:Program) (t:TypeId) (parts:List (Nat × Value)):Option Value:=match zaw P t,zbk P t with
  | some z,some pl=>if zac z then (zfJ pl z.cells.toList parts).map fun cs=>.agg cs.toArray else none
  | _,_=>none
def valA (P:Program) (e:Operand->Value) (h:AHeap):Op->Option Value
  | .move x|.assign x=>some (e x)
  | .pick c a b=>(match e c with|.bool t=>some (if t then e a else e b)|_=>none)
  | .extract t i=>(match e t with|.tuple vs=>vs[i]?|_=>none)
  | .binOp op t x y _=>zaR P op t y (e x) (e y)
  | .unOp op _ x=>unA op (e x)
  | .convert s d x=>zdw P s d (e x)
  | .field t x i=>zgl P t (e x) i
  | .index t x i=>zgB P t (e x) (e i)
  | .makeFunc fn xs ys=>some (.func fn (xs.map e) (ys.map e))
  | .makeInterface t x=>(match P.underlying t with|some (.interface _)=>none|some _=>some (.iface t (e x))|none=>none)
  | .nilCheck x=>zci P (e x)
  | .load t x=>(match e x with|.pointer (some a)=>zf4 P h t a|_=>none)
  | .fieldAddr t x i=>zcr P t (e x) i
  | .indexAddr t x i=>zcq P t (e x) (e i)
  | .call c=>zoi P e c
  | .build t ps=>zg2 P t (ps.toList.map fun p=>(p.1,e p.2))
  | .slice t x lo hi mx=>zeC P h t (e x) (lo.map e) (hi.map e) (mx.map e)
  | .sliceToArrayPointer t x=>ze6 P t (e x)
  | _=>none
def zaW (P:Program) (e:Operand->Value):Op->Option (FuncId × Array Value)
  | .call { callee:=.value f,args,.. }=>(match e f with
    | .func (.func g) xs ys=>some (g,xs++args.map e++ys)
    | .func (.method name) xs _=>(match xs.toList with
      | [.iface t (.pointer p)]=>(match za9 P t name with|some g=>some (g,#[.pointer p]++args.map e)|none=>none)
      | _=>none)
    | _=>none)
  | .call { callee:=.invoke r name,args,.. }=>(match e r with
    | .iface t (.pointer p)=>(match za9 P t name with|some f=>some (f,#[.pointer p]++args.map e)|none=>none)
    | _=>none)
  | _=>none
def zbr (z:List Value):Nat->List Value
  | 0=>[]
  | n+1=>z++zbr z n
def zcx (h:AHeap) (s:Nat):Value->Option (List Value)
  | .slice none 0 0=>some []
  | .slice (some a) n _=>if n=0 then some [] else if a.spot=none then (match h.get a.block with
    | some b=>if a.off+n * s<=b.cells.length then some ((b.cells.drop a.off).take (n * s)) else none
    | none=>none) else none
  | _=>none
def zde (P:Program) (h:AHeap) (t:TypeId) (x y:Value):Option (List Value × TypeId × Nat × Bool):=match za8 P t with
  | some el=>(match zal P el,zap P el,zaw P el,zcx h ((zal P el).getD 0) x,zcx h ((zal P el).getD 0) y,x,y with
    | some (s+1),some bs,some z,some olds,some news,.slice a sl sc,.slice _ n _ =>
      if zac z=true/\z.cells.size=s+1/\bs<=1048576/\sc<sl+n/\sl+n<=16777216 then (match a with
        | none=>some (olds++news,el,sl+n,true)
        | some a=>(match h.get a.block with
          | some b=>if b.grow=some 0 then some (olds++news,el,sl+n,true)
            else if b.ro=false/\b.grow=some (s+1)/\b.elem=el/\a.spot=none/\a.off+sc * (s+1)=b.cells.length/\sl<=sc/\news.all zdI=true then some (olds++news,el,sl+n,false) else none
          | none=>none))
      else none
    | _,_,_,_,_,_,_=>none)
  | none=>none
def endA (P:Program) (h:AHeap) (t:TypeId) (x:Value) (lo hi:Option Value) (n:Nat):Option (Value × Option Blk):=match za8 P t,x with
  | some el,.slice (some a) len cap=>(match zbL lo 0,zbL hi len,zal P el,h.get a.block with
    | some l,some r,some _,b=>if l=r/\r=cap/\0<l/\a.spot=none/\(b.bind (·.grow))≠some 0 then some (.slice (some ⟨n,0,none⟩) 0 0,none) else none
    | _,_,_,_=>none)
  | _,_=>none
def newA (P:Program) (e:Operand->Value) (h:AHeap) (n:Nat):Op->Option (Value × Option Blk)
  | .alloc t=>(match zaw P t with|some z=>if zac z then some (.pointer (some ⟨n,0,none⟩),some ⟨z.cells.toList,t,false,some 0⟩) else none|none=>none)
  | .box t x=>some (.pointer (some ⟨n,0,none⟩),some ⟨(e x).cells.toList,t,false,some 0⟩)
  | .buildSlice t len ps=>(match za8 P t with
    | some el=>(match zal P el,zaw P el with
      | some s,some z=>if zac z=true/\z.cells.size=s/\len * s<=16777216 then
          (zfJ (fun i=>some (i * s,s)) (zbr z.cells.toList len) (ps.toList.map fun p=>(p.1,e p.2))).map fun cs=>(.slice (some ⟨n,0,none⟩) len len,some ⟨cs,el,false,some 0⟩)
        else none
      | _,_=>none)
    | none=>none)
  | .makeSlice t l c=>(match za8 P t,e l,e c with
    | some el,.int _ l,.int _ c=>(match zal P el,zaw P el,zap P el with
      | some s,some z,some bs=>if zac z=true/\z.cells.size=s/\bs<=1048576/\0<=l/\l<=c/\c<=16777216 then some (.slice (some ⟨n,0,none⟩) l.toNat c.toNat,some ⟨zbr z.cells.toList c.toNat,el,false,some 0⟩) else none
      | _,_,_=>none)
    | _,_,_=>none)
  | .call { callee:=.builtin .append,args,argTypes }=>(match args.toList,argTypes.toList with
    | [s,x],[t,t']=>if t=t' then (match zde P h t (e s) (e x) with
      | some (news,el,need,true)=>some (.slice (some ⟨n,0,none⟩) need need,some ⟨news,el,false,zal P el⟩)
      | _=>none) else none
    | _,_=>none)
  | .slice t x lo hi none=>endA P h t (e x) (lo.map e) (hi.map e) n
  | _=>none
def wrA (P:Program) (e:Operand->Value) (h:AHeap):Op->Option (Value × AHeap)
  | .store t x y=>(match e x with|.pointer (some a)=>(zdV P h t a (e y)).map fun h'=>(undef,h')|_=>none)
  | .call { callee:=.builtin .append,args,argTypes }=>(match args.toList,argTypes.toList with
    | [x,y],[t,t']=>if t=t' then (match e x,za8 P t,e y with
      | .slice none 0 0,some el,.slice _ 0 _=>(match zal P el with|some _=>some (.slice none 0 0,h)|none=>none)
      | .slice (some a) sl sc,some el,.slice b n c=>(match zal P el with
        | some s=>if sl+n<=sc then (match n,zcx h s (.slice b n c),h.get a.block with
            | 0,_,_=>some (.slice (some a) sl sc,h)
            | _,some news,some bk=>if bk.ro=false/\a.spot=none/\a.off+sl * s+news.length<=bk.cells.length/\news.length=n * s/\news.all zdI=true then
                some (.slice (some a) (sl+n) sc,h.put a.block { bk with cells:=zaQ bk.cells (a.off+sl * s) news }) else none
            | _,_,_=>none)
          else (match zde P h t (e x) (e y) with
            | some (cs,el,need,false)=>some (.slice (some ⟨h.next,0,none⟩) need need,(h.putO a.block none).addO (some ⟨cs,el,false,zal P el⟩))
            | _=>none)
        | none=>none)
      | _,_,_=>none) else none
    | _,_=>none)
  | _=>none
structure Holds (F:Emb) (h:AHeap) (w:World):Prop where
  row:∀ n b,h.get n=some b->∃ (pre post:Array Value) (fr:Nat × Nat),w.heap[F.blk n]?=some (.cells (pre++(b.cells.map (ren F)).toArray++post) b.elem fr)/\pre.size=F.base n/\(b.ro=false->fr=(0,0))/\(b.grow=some 0->F.slack n=0)/\(∀ s,b.grow=some (s+1)->F.slack n * (s+1)<=post.size)
  apart:∀ n m b c,h.get n=some b->h.get m=some c->n≠m->b.ro=false->F.blk n≠F.blk m
theorem Holds.cell {F:Emb} {h:AHeap} {w:World} (H:Holds F h w) {n:Nat} {b:Blk} (hb:h.get n=some b) {i:Nat} {v:Value} (hv:b.cells[i]?=some v) :
    w.cell? ⟨F.blk n,F.base n+i,none⟩=some (ren F v):=by
  obtain⟨pre,post,fr,hr,hp,_⟩:=H.row n b hb;have hi:i<b.cells.length:=(List.getElem?_eq_some_iff.1 hv).1;simp only [World.cell?,hr,Option.isSome_none,Bool.false_eq_true,if_false];rw [<-hp,Array.append_assoc,Array.getElem?_append_right (by omega),Nat.add_sub_cancel_left,Array.getElem?_append_left (by simpa using hi)]
  simp [hv]
theorem za7 {P:Program} {t:TypeId} {s:Nat} (h:zal P t=some s) (w:World):(sizeOf t).run P w=.ok s w:=by
  unfold zal at h;cases hi:P.info? t with
  | none=>rw [hi] at h;cases h
  | some i=>rw [hi] at h;simp at h;simp [sizeOf,typeInfo,hi,h]
theorem zfr {P:Program} {t:TypeId} {b:Bool} (h:zaP P t=some b) (w:World):(isAgg t).run P w=.ok b w:=by
  unfold zaP at h;cases hi:P.underlying t with
  | none=>rw [hi] at h;cases h
  | some d =>
    rw [hi] at h;simp only [Option.map_some,Option.some.injEq] at h;unfold isAgg;rw [Sem.run_bind,run_underlying hi w];cases d<;>simp_all
theorem zi8 {P:Program} {t:TypeId} {cs:Array Value} {off:Nat} {v:Value} (F:Emb) (h:zjX P t cs off=some v) (w:World) :
    (part t (cs.map (ren F)) off).run P w=.ok (ren F v) w:=by
  unfold zjX at h;split at h
  . rename_i s ha hs;cases h;unfold part;simp [Sem.run_bind,zfr ha,za7 hs]
  . rename_i s ha;unfold part;simp [Sem.run_bind,zfr ha,h]
  . cases h
section
variable {P:Program} {ρ:Operand->Value} {e:Operand->Value} {F:Emb} {w:World}
theorem zlc {op:BinOp} {x y:Value} {v:Value} (t:TypeId) (h:binA op x y=some v):(binOp op t x y).run P w=.ok v w/\zac x=true/\zac y=true/\zac v=true/\(∀ a b,eqGuard op t a b x y=pure ()):=by
  unfold binA at h;split at h
  . rename_i k a k' b;refine⟨?_,rfl,rfl,?_,fun a b=>by cases op<;>rfl⟩
    . cases op<;>simp only [zkX,intA] at h<;>(try split at h)<;>(try split at h)<;>simp_all [binOp,Op.intArith,Op.intBits,Op.intCmp,Op.intDiv,Op.shift]<;>(intro hneg;omega)
    . cases op<;>simp only [zkX,intA] at h<;>(try split at h)<;>(try split at h)<;>(try cases h)<;>rfl
  . cases h
theorem zcA {t:TypeId} {x y:Value} {r:Bool} (h:∀ d,(Op.equalIn (d+1) t x y).run P w=.ok r w):(Op.equal t x y).run P w=.ok r w:=h 9999
theorem zh0 {t:TypeId} {x y:Operand} {a b:Value} {r:Bool} (h:zfU P t y a b=some r) :
    ((do eqGuard .eql t x y (ren F a) (ren F b);binOp .eql t (ren F a) (ren F b):Sem Value).run P w=.ok (.bool r) w)/\((do eqGuard .neq t x y (ren F a) (ren F b);binOp .neq t (ren F a) (ren F b):Sem Value).run P w=.ok (.bool !r) w):=by
  have key:∀ {a' b':Value},(∀ op,eqGuard op t x y a' b'=pure ())->binOp .eql t a' b'=(do pure (.bool (<-Op.equal t a' b')))->binOp .neq t a' b'=(do pure (.bool (!(<-Op.equal t a' b'))))->(Op.equal t a' b').run P w=.ok r w ->
      ((do eqGuard .eql t x y a' b';binOp .eql t a' b':Sem Value).run P w=.ok (.bool r) w)/\((do eqGuard .neq t x y a' b';binOp .neq t a' b':Sem Value).run P w=.ok (.bool !r) w):=by
    intro a' b' hg h1 h2 h3;constructor
    . rw [hg,h1];simp [h3]
    . rw [hg,h2];simp [h3]
  unfold zfU at h;split at h
  . rename_i hu;rename_i a n c n' c';cases h;cases a
    . rw [zcw,zcw];exact key (fun op=>by cases op<;>rfl) (by simp only [binOp]) (by simp only [binOp]) (zcA fun d=>by simp [Op.equalIn,run_underlying hu,Sem.run_bind])
    . rw [zaz,zcw];exact key (fun op=>by cases op<;>rfl) (by simp only [binOp]) (by simp only [binOp]) (zcA fun d=>by simp [Op.equalIn,run_underlying hu,Sem.run_bind])
  . rename_i a hu;cases h;cases a
    . rw [zdm];exact key (fun op=>by cases op<;>rfl) (by simp only [binOp]) (by simp only [binOp]) (zcA fun d=>by simp [Op.equalIn,run_underlying hu,Sem.run_bind])
    . rw [zba,zdm];exact key (fun op=>by cases op<;>rfl) (by simp only [binOp]) (by simp only [binOp]) (zcA fun d=>by simp [Op.equalIn,run_underlying hu,Sem.run_bind])
  . rename_i hu;cases h;rw [zcZ,zbC];exact key (fun op=>by cases op<;>rfl) (by simp only [binOp]) (by simp only [binOp]) (zcA fun d=>by simp [Op.equalIn,run_underlying hu,Sem.run_bind])
  . rename_i hu;split at h
    . cases h;rw [zbC];exact key (fun op=>by cases op<;>cases x<;>rfl) (by simp only [binOp]) (by simp only [binOp]) (zcA fun d=>by simp [Op.equalIn,run_underlying hu,Sem.run_bind])
    . cases h
  . rename_i hu;cases h;rw [zbx,zcS];exact key (fun op=>by cases op<;>rfl) (by simp only [binOp]) (by simp only [binOp]) (zcA fun d=>by simp [Op.equalIn,run_underlying hu,Sem.run_bind])
  . rename_i hu;cases h;rw [zcS];exact key (fun op=>by cases op<;>rfl) (by simp only [binOp]) (by simp only [binOp]) (zcA fun d=>by simp [Op.equalIn,run_underlying hu,Sem.run_bind])
  . cases h
theorem zcK (d:Nat) (xs ys:Array Value):∀ (fs:List Field) (r:Bool),zdo P xs ys fs=some r->(Op.eqFields (d+1) (xs.map (ren F)) (ys.map (ren F)) fs).run P w=.ok r w
  | [],r,h=>by cases h;simp [Op.eqFields]
  | f::fs,r,h=>by
    unfold zdo at h;split at h
    . rename_i hc;have hpart:∀ (cs:Array Value) v,cs[f.offset]?=some v->(part f.type (cs.map (ren F)) f.offset).run P w=.ok (ren F v) w:=fun cs v hv=>by
        unfold part;simp [Sem.run_bind,zfr hc.2,hv]
      have hne:=hc.1;split at h
      . rename_i k a k' b u r' hx hy hu hr;split at h
        . rename_i hk;subst hk;cases h;have:=zcK d xs ys fs r' hr;simp only [Op.eqFields,hne,ne_eq,not_false_eq_true,if_true,Sem.run_bind,hpart xs _ hx,hpart ys _ hy,Result.andThen_ok,zbp,run_equalIn_int _ _ _ _ _ _ _ hu,Sem.run_ite];cases hab:(a==b)<;>simp [this]
        . cases h
      . rename_i a b r' hx hy hu hr;cases h;have:=zcK d xs ys fs r' hr;simp only [Op.eqFields,hne,ne_eq,not_false_eq_true,if_true,Sem.run_bind,hpart xs _ hx,hpart ys _ hy,Result.andThen_ok,za3,run_equalIn_bool _ _ _ _ _ hu,Sem.run_ite];cases hab:(a==b)<;>simp [this]
      . rename_i a b r' hx hy hu hr;cases h;have:=zcK d xs ys fs r' hr;simp only [Op.eqFields,hne,ne_eq,not_false_eq_true,if_true,Sem.run_bind,hpart xs _ hx,hpart ys _ hy,Result.andThen_ok,zbI,run_equalIn_string _ _ _ _ _ hu,Sem.run_ite,<-beq_toListBytes];cases hab:(a==b)<;>simp [this]
      . cases h
    . cases h
theorem zg4 {t:TypeId} {x y:Operand} {a b:Value} {r:Bool} (h:zdT P t a b=some r) :
    ((do eqGuard .eql t x y (ren F a) (ren F b);binOp .eql t (ren F a) (ren F b):Sem Value).run P w=.ok (.bool r) w)/\((do eqGuard .neq t x y (ren F a) (ren F b);binOp .neq t (ren F a) (ren F b):Sem Value).run P w=.ok (.bool !r) w):=by
  unfold zdT at h;split at h
  . rename_i xs ys;split at h
    . rename_i fs hfs;split at h
      . rename_i hok;unfold zn2 at hok;simp only [Bool.and_eq_true,Bool.not_eq_true'] at hok;obtain⟨fs',hu,rfl⟩:∃ fs':Array Field,P.underlying t=some (.struct fs')/\fs'.toList=fs:=by
          unfold zgr at hfs;split at hfs
          . rename_i fs' hu;cases hfs;exact⟨fs',hu,rfl⟩
          . cases hfs
        have hf:P.fieldsOf t=fs':=by unfold Program.fieldsOf;rw [hu]
        have key:(Op.equalIn 10000 t (.agg (xs.map (ren F))) (.agg (ys.map (ren F)))).run P w=.ok r w:=by
          rw [run_equalIn_struct w 9999 t _ _ (by rw [hf];exact hu) hok.1,hf]
          exact zcK 9998 xs ys _ r h
        rw [zco,zco];constructor
        . simp only [Sem.run_bind,run_eqGuard_agg w .eql t x y _ _ hok.2,Result.andThen_ok,run_eql_struct,key]
        . simp only [Sem.run_bind,run_eqGuard_agg w .neq t x y _ _ hok.2,Result.andThen_ok,run_neq_struct,key]
      . cases h
    . cases h
  . rename_i a b;split at h
    . rename_i hb;cases h;have hu:P.underlying t=some .bool:=by
        unfold zlq at hb;split at hb
        . assumption
        . cases hb
      have key:(Op.equal t (.bool a) (.bool b)).run P w=.ok (a==b) w:=run_equalIn_bool w 9999 t a b hu;rw [za3,za3];constructor
      . simp [eqGuard,binOp,key]
      . simp [eqGuard,binOp,key]
    . cases h
  . rename_i a b;split at h
    . rename_i hb;cases h;have hu:P.underlying t=some .string:=by
        unfold zoB at hb;split at hb
        . assumption
        . cases hb
      have key:(Op.equal t (.string a) (.string b)).run P w=.ok (a==b) w:=by
        rw [beq_toListBytes];exact run_equalIn_string w 9999 t a b hu
      rw [zbI,zbI];constructor
      . simp [eqGuard,binOp,Op.stringOp,beq_toListBytes]
      . simp [eqGuard,binOp,Op.stringOp,beq_toListBytes]
    . cases h
  . cases h
theorem zl5 {op:BinOp} {t:TypeId} {x y:Operand} {a b v:Value} (h:zaR P op t y a b=some v) :
    ((do eqGuard op t x y (ren F a) (ren F b);binOp op t (ren F a) (ren F b):Sem Value).run P w=.ok (ren F v) w):=by
  unfold zaR at h;split at h
  . rename_i u hu;cases h;obtain⟨h1,h2,h3,h4,h5⟩:=zlc (P:=P) (w:=w) t hu;rw [zaC F h2,zaC F h3,zaC F h4,h5];simpa [Sem.run_bind] using h1
  . split at h
    . rename_i hr;split at h
      . cases h;rw [za3];exact (zh0 hr).1
      . cases h;rw [za3];exact (zh0 hr).2
      . cases h
    . split at h
      . cases h;rw [za3];exact (zg4 ‹_›).1
      . cases h;rw [za3];exact (zg4 ‹_›).2
      . cases h
theorem zqP {op:UnOp} {x v:Value} (h:unA op x=some v):(Op.unary op (ren F x)).run P w=.ok (ren F v) w:=by
  unfold unA at h;split at h<;>(try cases h)<;>simp [Op.unary,Op.intArith,Op.intBits]
theorem zjf {s d:TypeId} {x v:Value} (h:zdw P s d x=some v):(convert s d (ren F x)).run P w=.ok (ren F v) w:=by
  unfold zdw at h;split at h
  . rename_i k n k' hc;cases h;unfold zg5 at hc;split at hc
    . rename_i t k'' hs hd;cases hc;simp [convert,run_underlying hs,run_underlying hd,Conv.intToInt,Sem.run_bind]
    . cases hc
  . cases h
theorem zdx {t:TypeId} {i off:Nat} {ft:TypeId} (h:zak P t i=some (off,ft)):∃ fs f,P.underlying t=some (.struct fs)/\fs[i]?=some f/\f.offset=off/\f.type=ft:=by
  unfold zak at h;split at h
  . rename_i fs hu;cases hf:fs[i]? with
    | none=>rw [hf] at h;cases h
    | some f=>rw [hf] at h;simp at h;exact⟨fs,f,hu,hf,h.1,h.2⟩
  . cases h
theorem zlV {t:TypeId} {x v:Value} {i:Nat} (h:zgl P t x i=some v):(Instr.field t (ren F x) i).run P w=.ok (ren F v) w:=by
  unfold zgl at h;split at h
  . rename_i cs off ft hf;obtain⟨fs,f,hu,hi,rfl,rfl⟩:=zdx hf;rw [zco];simp only [Instr.field,Sem.run_bind,run_underlying hu,Result.andThen_ok,hi,asAgg,Sem.run_pure];exact zi8 F h w
  . cases h
theorem zbE {t:TypeId} {n:Nat} {el:TypeId} (h:zeJ P t=some (n,el)):P.underlying t=some (.array n el):=by
  unfold zeJ at h;split at h
  . rename_i hu;cases h;exact hu
  . cases h
theorem zaG {t el:TypeId} (h:za8 P t=some el):P.underlying t=some (.slice el):=by
  unfold za8 at h;split at h
  . rename_i hu;cases h;exact hu
  . cases h
theorem zl7 {t:TypeId} {x i v:Value} (h:zgB P t x i=some v):(Instr.index t (ren F x) (ren F i)).run P w=.ok (ren F v) w:=by
  unfold zgB at h;split at h
  . rename_i cs k n len el ha;split at h
    . rename_i s hs;split at h
      . rename_i hn;simp only [zco,zbp,Instr.index,asIntOf,Sem.run_bind,Sem.run_pure,Result.andThen_ok,run_underlying (zbE ha)];rw [if_pos hn];simp only [Sem.run_bind,za7 hs,Result.andThen_ok];exact zi8 F h w
      . cases h
    . cases h
  . rename_i s k n ha;split at h
    . rename_i hu;split at h
      . rename_i hn;cases hs:s[n.toNat]? with
        | none=>rw [hs] at h;cases h
        | some b =>
          rw [hs] at h;cases h;simp only [zbI,zbp,Instr.index,asIntOf,Sem.run_bind,Sem.run_pure,Result.andThen_ok,run_underlying hu,if_pos hn,hs]
      . cases h
    . cases h
  . cases h
theorem zhs {t:TypeId} {x v:Value} {i:Nat} (h:zcr P t x i=some v):(Instr.fieldAt t (ren F x) i).run P w=.ok (ren F v) w:=by
  unfold zcr at h;split at h
  . rename_i a off ft hf;split at h
    . rename_i s hs;split at h
      . rename_i hsp;cases h;obtain⟨fs,f,hu,hi,rfl,rfl⟩:=zdx hf;simp only [zba,Instr.fieldAt,Instr.sureAddr,fieldPlace,Sem.run_bind,Sem.run_pure,Result.andThen_ok,run_underlying hu,hi,za7 hs];simp only [Nat.succ_ne_zero,if_false,Sem.run_pure,Result.andThen_ok];obtain⟨ab,ao,asp⟩:=a;simp only at hsp;subst hsp;by_cases h0:f.offset=0
        . simp [Addr.add,adr,h0]
        . simp [Addr.add,adr,h0,Nat.add_assoc]
      . cases h
    . cases h
  . cases h
theorem zbv (a:Addr) (k:Nat) (h:a.spot=none):a.add k=⟨a.block,a.off+k,none⟩:=by
  obtain⟨ab,ao,asp⟩:=a;simp only at h;subst h;unfold Addr.add;split<;>simp_all
theorem zhl {t:TypeId} {x i v:Value} (h:zcq P t x i=some v):(Instr.indexAt t (ren F x) (ren F i)).run P w=.ok (ren F v) w:=by
  unfold zcq at h;split at h
  . rename_i a len c k n;split at h
    . rename_i el hel;split at h
      . rename_i s hs;split at h
        . rename_i hc;cases h;simp only [zaz,zbp,zba,Instr.indexAt,asIntOf,Sem.run_bind,Sem.run_pure,Result.andThen_ok,run_underlying (zaG hel)];rw [if_pos hc.2];simp only [Sem.run_bind,za7 hs,Result.andThen_ok,Sem.run_pure];rw [zbv _ _ (by simpa [adr] using hc.1)]
          simp [adr,Nat.add_assoc]
        . cases h
      . cases h
    . cases h
  . rename_i a k n;split at h
    . rename_i len el hel;split at h
      . rename_i s hs;split at h
        . rename_i hc;cases h;simp only [zbp,zba,Instr.indexAt,Instr.sureAddr,asIntOf,Sem.run_bind,Sem.run_pure,Result.andThen_ok,run_underlying (zbE hel)];rw [if_pos hc.2];simp only [Sem.run_bind,za7 hs,Result.andThen_ok,Sem.run_pure];rw [zbv _ _ (by simpa [adr] using hc.1)]
          simp [adr,Nat.add_assoc]
        . cases h
      . cases h
    . cases h
  . cases h
theorem zqv {t ty:TypeId} {x v:Value} (h:lenA P t x=some v):(Builtin.len_ #[t] ty #[ren F x]).run P w=.ok (ren F v) w:=by
  unfold lenA at h;split at h
  . rename_i a n c el hel;cases h;cases a<;>simp [Builtin.len_,run_underlying (zaG hel),Sem.run_bind,goInt]
  . cases h
theorem zkI:∀ (l:List Value) (x v:Value),minA l x=some v->((l.map (ren F)).foldlM Builtin.min2 (ren F x)).run P w=.ok (ren F v) w
  | [],x,v,h=>by cases h;simp
  | y::l,x,v,h=>by
    unfold minA at h;split at h
    . rename_i heq;cases heq
    . rename_i heq;cases heq;have:=zkI _ _ _ h;simp only [List.map_cons,List.foldlM_cons,Sem.run_bind,zbp,Builtin.min2,Sem.run_pure,Result.andThen_ok] at this ⊢;exact this
    . cases h
theorem zlh:∀ (l:List Value) (x v:Value),maxA l x=some v->((l.map (ren F)).foldlM Builtin.max2 (ren F x)).run P w=.ok (ren F v) w
  | [],x,v,h=>by cases h;simp
  | y::l,x,v,h=>by
    unfold maxA at h;split at h
    . rename_i heq;cases heq
    . rename_i heq;cases heq;have:=zlh _ _ _ h;simp only [List.map_cons,List.foldlM_cons,Sem.run_bind,zbp,Builtin.max2,Sem.run_pure,Result.andThen_ok] at this ⊢;exact this
    . cases h
theorem zjk {t:TypeId} {x v:Value} (h:ze6 P t x=some v):(Instr.arrayAt t (ren F x)).run P w=.ok (ren F v) w:=by
  unfold ze6 at h;split at h
  . rename_i a len c n el ha;split at h
    . cases h
    . rename_i hn;cases h;simp [Instr.arrayAt,Sem.run_bind,run_underlying (zbE ha),hn]
  . cases h
theorem zcg {b:Bool} {len cap l r:Nat} {lo hi:Option Value} (hl:zbL lo 0=some l) (hr:zbL hi len=some r) (h1:l<=r) (h2:r<=cap) :
    (Instr.sliceBounds b len cap (lo.map (ren F)) (hi.map (ren F)) none).run P w=.ok (l,r,cap) w:=by
  have hl':∀ {m:Nat},l<=m->∀ v,lo=some v->∀ c,(Instr.sliceBound (ren F v) m c).run P w=.ok l w:=by
    intro m hm v hv c;subst hv;unfold zbL at hl;split at hl
    . rename_i heq;cases heq
    . rename_i k n heq;cases heq;split at hl
      . rename_i hn;cases hl;simp [Instr.sliceBound,asIntOf,hn,show n<=(m:Int) by omega]
      . cases hl
    . cases hl
  have hr':∀ v,hi=some v->∀ c,(Instr.sliceBound (ren F v) cap c).run P w=.ok r w:=by
    intro v hv c;subst hv;unfold zbL at hr;split at hr
    . rename_i heq;cases heq
    . rename_i k n heq;cases heq;split at hr
      . rename_i hn;cases hr;simp [Instr.sliceBound,asIntOf,hn,show n<=(cap:Int) by omega]
      . cases hr
    . cases hr
  have hr0:hi=none->r=len:=by rintro rfl;simpa [zbL] using hr.symm
  have hl0:lo=none->l=0:=by rintro rfl;simpa [zbL] using hl.symm
  unfold Instr.sliceBounds;cases hi with
  | none =>
    obtain rfl:=hr0 rfl;cases lo with
    | none=>obtain rfl:=hl0 rfl;simp
    | some v=>simp [hl' h1 v rfl]
  | some u =>
    cases lo with
    | none=>obtain rfl:=hl0 rfl;simp [hr' u rfl]
    | some v=>simp [hr' u rfl,hl' h1 v rfl]
theorem zdD {t el:TypeId} (h:za8 P t=some el) (x:Value) (lo hi mx:Option Value):(Instr.sliceAt t x lo hi mx).run P w=(Instr.slice t x lo hi mx).run P w:=by
  simp [Instr.sliceAt,Sem.run_bind,run_underlying (zaG h)]
theorem zmM {h:AHeap} {t:TypeId} {x v:Value} {lo hi mx:Option Value} (H:Holds F h w) (hv:zeC P h t x lo hi mx=some v):(Instr.sliceAt t (ren F x) (lo.map (ren F)) (hi.map (ren F)) (mx.map (ren F))).run P w=.ok (ren F v) w:=by
  unfold zeC at hv;split at hv
  . rename_i el a len cap hel;split at hv
    . rename_i l r s hl hr hs;split at hv
      . rename_i hc;obtain⟨h1,h2,h3⟩:=hc;have hb:=zcg (P:=P) (F:=F) (w:=w) (b:=true) (cap:=cap+F.slack a.block) hl hr h1 (by omega)
        rw [Option.map_none,zdD hel];simp only [zaz,Instr.slice,Sem.run_bind,run_underlying (zaG hel),Result.andThen_ok,hb,za7 hs,Sem.run_pure];obtain⟨ab,ao,asp⟩:=a;simp only at h3;subst h3;split at hv
        . rename_i hlc;split at hv
          . rename_i h0;cases hv;subst h0;simp [adr,Addr.add]
          . rename_i h0;cases hv;have hne:¬ (cap+F.slack ab=l):=by omega
            simp only [if_neg hne,Option.map_some,zaz];rw [zbv _ _ rfl];simp only [adr,Nat.add_assoc];congr 2;omega
        . rename_i hlc;split at hv
          . rename_i b hb';split at hv
            . rename_i hg;cases hv;obtain⟨_,_,_,_,_,_,hsl,_⟩:=H.row _ _ hb';have hsl:=hsl hg;have he:cap+F.slack ab=l:=by simp only at hsl;omega
              simp only [if_pos he,zaz];congr 2
              . omega
              . simp only at hsl;omega
            . cases hv
          . cases hv
      . cases hv
    . cases hv
  . rename_i el hel;split at hv
    . rename_i s hl hr hs;cases hv;have hb:=zcg (P:=P) (F:=F) (w:=w) (b:=true) (cap:=0) hl hr (Nat.le_refl _) (Nat.le_refl _);rw [Option.map_none,zdD hel];simp [Instr.slice,Sem.run_bind,run_underlying (zaG hel),hb,za7 hs]
    . cases hv
  . rename_i n el a hsl ha;split at hv
    . rename_i l r s b hl hr hs hb';split at hv
      . rename_i hc;obtain⟨h1,h2,h3,hg⟩:=hc;have hslk:F.slack a.block=0:=by obtain⟨_,_,_,_,_,_,hslk,_⟩:=H.row _ _ hb';exact hslk hg
        have hb:=zcg (P:=P) (F:=F) (w:=w) (b:=false) hl hr h1 h2;simp only [Option.map_none,zba,Instr.sliceAt,Sem.run_bind,run_underlying (zbE ha),Instr.sureAddr,Sem.run_pure,Result.andThen_ok,hb,za7 hs];obtain⟨ab,ao,asp⟩:=a;simp only at h3 hslk;subst h3;split at hv
        . rename_i h0;cases hv;simp only [if_pos h0,zaz,hslk];congr 2<;>omega
        . rename_i h0;cases hv;simp only [if_neg h0,zaz,hslk];rw [zbv _ _ rfl];simp [adr,Nat.add_assoc]
      . cases hv
    . cases hv
  . cases hv
theorem zje {h:AHeap} {t:TypeId} {a:Addr} {v:Value} (H:Holds F h w) (hv:zf4 P h t a=some v):(Instr.loadAt t (.pointer (some (adr F a)))).run P w=.ok (ren F v) w:=by
  unfold zf4 at hv;split at hv
  . rename_i b s hb ha hs;have hv:(if a.spot=none/\a.off+s<=b.cells.length then some (Value.agg ((b.cells.drop a.off).take s).toArray) else none)=some v:=by
      split at hv
      . rename_i hc;rw [if_pos ⟨hc.1,by omega⟩,<-hv,hc.2.1,List.drop_zero,List.take_of_length_le (by omega)]
      . exact hv
    split at hv
    . rename_i hc;cases hv;obtain⟨ab,ao,asp⟩:=a;simp only at hc hb;obtain⟨rfl,hlen⟩:=hc;have hagg:=ha;unfold zaP at hagg;cases hu:P.underlying t with
      | none=>rw [hu] at hagg;cases hagg
      | some d =>
        rw [hu] at hagg;simp only [Option.map_some,Option.some.injEq] at hagg;rw [show ren F (.agg ((b.cells.drop ao).take s).toArray)=.agg (((b.cells.drop ao).take s).map (ren F)).toArray by simp]
        refine run_loadAt_mid w (F.blk ab) (F.base ab+ao) t _ d (fun j v hj=>?_) hu (by cases d<;>simp_all [TypeDesc.isRow]) ?_
        . rw [Nat.add_assoc];have hj':=(List.getElem?_eq_some_iff.1 hj).1;simp only [List.length_map,List.length_take,List.length_drop] at hj';simp only [List.getElem?_map,List.getElem?_take,List.getElem?_drop] at hj;rw [if_pos (by omega)] at hj
          cases hx:b.cells[ao+j]? with
          | none=>rw [hx] at hj;cases hj
          | some u =>
            rw [hx] at hj;simp only [Option.map_some,Option.some.injEq] at hj;subst hj;exact H.cell hb hx
        . have:(((b.cells.drop ao).take s).map (ren F)).length=s:=by simp;omega
          rw [this];exact hs
    . cases hv
  . rename_i b s hb ha hs;split at hv
    . rename_i hc;obtain⟨ab,ao,asp⟩:=a;simp only at hc hb hv;subst hc;have hcell:=H.cell hb hv;simp only [Instr.loadAt,Instr.sureAddr,loadVar,Sem.run_bind,Sem.run_pure,Result.andThen_ok,zfr ha,Bool.false_eq_true,if_false];simp only [load,Sem.run,adr,hcell]
    . cases hv
  . cases hv
end
def calm (P:Program) {α:Type}:Sem α->Option α
  | .pure a=>some a
  | .program k=>calm P (k P)
  | _=>none
@[simp] theorem zaB (P:Program) {α:Type} (a:α):calm P (pure a:Sem α)=some a:=rfl
theorem zhH (P:Program) {α β:Type} (x:Sem α) (f:α->Sem β):calm P (x.bind f)=(calm P x).bind fun a=>calm P (f a):=by
  induction x with
  | pure a=>rfl
  | program k ih=>simp only [Sem.bind,calm,ih]
  | _=>rfl
@[simp] theorem zae (P:Program) {α β:Type} (x:Sem α) (f:α->Sem β):calm P (x >>= f)=(calm P x).bind fun a=>calm P (f a):=zhH P x f
@[simp] theorem zkF (P:Program) {α β:Type} (x:Sem α) (f:α->β):calm P (f <$> x)=(calm P x).map f:=by
  show calm P (x.bind fun a=>.pure (f a))=_;rw [zhH];cases calm P x<;>rfl
@[simp] theorem ze4 (P:Program) {α:Type} (c:Prop) [Decidable c] (x y:Sem α):calm P (if c then x else y)=if c then calm P x else calm P y:=by split<;>rfl
@[simp] theorem zb2 (P:Program):calm P program=some P:=rfl
@[simp] theorem zcM (P:Program):calm P (Sem.program Sem.pure:Sem Program)=some P:=rfl
theorem zmP {P:Program} {t:TypeId} {i:TypeInfo} (h:P.info? t=some i):calm P (typeInfo t)=some i:=by
  unfold typeInfo;rw [zae,zb2,Option.bind_some,h];rfl
theorem zaf {P:Program} {t:TypeId} {d:TypeDesc} (h:P.underlying t=some d):calm P (underlying t)=some d:=by
  unfold underlying;rw [zae,zb2,Option.bind_some,h];rfl
theorem zbm {P:Program} {t:TypeId} {s:Nat} (h:zal P t=some s):calm P (sizeOf t)=some s:=by
  unfold zal at h;cases hi:P.info? t with
  | none=>rw [hi] at h;cases h
  | some i=>rw [hi] at h;simp at h;simp [sizeOf,zae,zmP hi,h]
theorem zft {P:Program} {t:TypeId} {b:Bool} (h:zaP P t=some b):calm P (isAgg t)=some b:=by
  unfold zaP at h;cases hi:P.underlying t with
  | none=>rw [hi] at h;cases h
  | some d =>
    rw [hi] at h;simp only [Option.map_some,Option.some.injEq] at h;unfold isAgg;rw [zae,zaf hi];cases d<;>simp_all
theorem zhE {P:Program} {t:TypeId} {cs:Array Value} {off:Nat} {v:Value} (F:Emb) (h:zjX P t cs off=some v):calm P (part t (cs.map (ren F)) off)=some (ren F v):=by
  unfold zjX at h;split at h
  . rename_i s ha hs;cases h;unfold part;simp [zae,zft ha,zbm hs]
  . rename_i s ha;unfold part;simp [zae,zft ha,h]
  . cases h
section
variable {P:Program} {F:Emb} {w:World}
theorem znQ {op:BinOp} {x y:Value} {v:Value} (t:TypeId) (h:binA op x y=some v):calm P (binOp op t x y)=some v:=by
  unfold binA at h;split at h
  . rename_i k a k' b;cases op<;>simp only [zkX,intA] at h<;>(try split at h)<;>(try split at h)<;>simp_all [binOp,Op.intArith,Op.intBits,Op.intCmp,Op.intDiv,Op.shift,ze4,zkF]<;>(intro hneg;omega)
  . cases h
theorem zf5 {d:Nat} {t:TypeId} {k k':IntKind} {a b:Int} (h:P.underlying t=some (.int k')):calm P (Op.equalIn (d+1) t (.int k a) (.int k b))=some (a==b):=by
  simp [Op.equalIn,zaf h]
theorem zdk {d:Nat} {t:TypeId} {a b:Bool} (h:P.underlying t=some .bool):calm P (Op.equalIn (d+1) t (.bool a) (.bool b))=some (a==b):=by
  simp [Op.equalIn,zaf h]
theorem zcR {d:Nat} {t:TypeId} {a b:ByteArray} (h:P.underlying t=some .string):calm P (Op.equalIn (d+1) t (.string a) (.string b))=some (a.toList==b.toList):=by
  simp [Op.equalIn,zaf h,beq_toListBytes]
theorem zdK (op:BinOp) (t:TypeId) (x y:Operand) (xs ys:Array Value) (hm:P.eqGuardType P.depth t=false):calm P (eqGuard op t x y (.agg xs) (.agg ys))=some ():=by
  cases op<;>simp [eqGuard,hm]
theorem zg9 (t:TypeId) (xs ys:Array Value):calm P (binOp .eql t (.agg xs) (.agg ys))=(calm P (Op.equalIn 10000 t (.agg xs) (.agg ys))).map fun b=>.bool b:=by
  simp only [binOp];simp [Op.equal,Op.maxDepth]
theorem zgD (t:TypeId) (xs ys:Array Value):calm P (binOp .neq t (.agg xs) (.agg ys))=(calm P (Op.equalIn 10000 t (.agg xs) (.agg ys))).map fun b=>.bool (!b):=by
  simp only [binOp];simp [Op.equal,Op.maxDepth]
theorem zeN (d:Nat) (t:TypeId) (xs ys:Array Value) (ht:P.underlying t=some (.struct (P.fieldsOf t))) (hp:P.stoodInHeld t=false) :
    calm P (Op.equalIn (d+1) t (.agg xs) (.agg ys))=calm P (Op.eqFields d xs ys (P.fieldsOf t).toList):=by
  simp only [Op.equalIn,zae,zaf ht,Option.bind_some,zb2,hp,Bool.false_eq_true,if_false];rw [<-Array.forIn_toList];generalize (P.fieldsOf t).toList=fs;clear ht
  induction fs with
  | nil=>simp [Op.eqFields]
  | cons f fs ih =>
    simp only [List.forIn_cons,Op.eqFields,zae,ze4];split
    . cases calm P (part f.type xs f.offset) with
      | none=>simp
      | some a =>
        simp only [Option.bind_some];cases calm P (part f.type ys f.offset) with
        | none=>simp
        | some b =>
          simp only [Option.bind_some];cases calm P (Op.equalIn d f.type a b) with
          | none=>simp
          | some r =>
            cases r
            . simp
            . simp only [Option.bind_some,Bool.not_true,Bool.false_eq_true,if_false,zaB];exact ih
    . simp only [zaB,Option.bind_some];exact ih
theorem zb3 {t:TypeId} {x y:Value} {r:Bool} (h:∀ d,calm P (Op.equalIn (d+1) t x y)=some r):calm P (Op.equal t x y)=some r:=h 9999
theorem zgy {t:TypeId} {x y:Operand} {a b:Value} {r:Bool} (h:zfU P t y a b=some r) :
    (calm P (do eqGuard .eql t x y (ren F a) (ren F b);binOp .eql t (ren F a) (ren F b):Sem Value)=some (.bool r))/\(calm P (do eqGuard .neq t x y (ren F a) (ren F b);binOp .neq t (ren F a) (ren F b):Sem Value)=some (.bool !r)):=by
  have key:∀ {a' b':Value},(∀ op,eqGuard op t x y a' b'=pure ())->binOp .eql t a' b'=(do pure (.bool (<-Op.equal t a' b')))->binOp .neq t a' b'=(do pure (.bool (!(<-Op.equal t a' b'))))->calm P (Op.equal t a' b')=some r ->
      (calm P (do eqGuard .eql t x y a' b';binOp .eql t a' b':Sem Value)=some (.bool r))/\(calm P (do eqGuard .neq t x y a' b';binOp .neq t a' b':Sem Value)=some (.bool !r)):=by
    intro a' b' hg h1 h2 h3;constructor
    . rw [hg,h1];simp [h3]
    . rw [hg,h2];simp [h3]
  unfold zfU at h;split at h
  . rename_i hu;rename_i a n c n' c';cases h;cases a
    . rw [zcw,zcw];exact key (fun op=>by cases op<;>rfl) (by simp only [binOp]) (by simp only [binOp]) (zb3 fun d=>by simp [Op.equalIn,zaf hu,zae])
    . rw [zaz,zcw];exact key (fun op=>by cases op<;>rfl) (by simp only [binOp]) (by simp only [binOp]) (zb3 fun d=>by simp [Op.equalIn,zaf hu,zae])
  . rename_i a hu;cases h;cases a
    . rw [zdm];exact key (fun op=>by cases op<;>rfl) (by simp only [binOp]) (by simp only [binOp]) (zb3 fun d=>by simp [Op.equalIn,zaf hu,zae])
    . rw [zba,zdm];exact key (fun op=>by cases op<;>rfl) (by simp only [binOp]) (by simp only [binOp]) (zb3 fun d=>by simp [Op.equalIn,zaf hu,zae])
  . rename_i hu;cases h;rw [zcZ,zbC];exact key (fun op=>by cases op<;>rfl) (by simp only [binOp]) (by simp only [binOp]) (zb3 fun d=>by simp [Op.equalIn,zaf hu,zae])
  . rename_i hu;split at h
    . cases h;rw [zbC];exact key (fun op=>by cases op<;>cases x<;>rfl) (by simp only [binOp]) (by simp only [binOp]) (zb3 fun d=>by simp [Op.equalIn,zaf hu,zae])
    . cases h
  . rename_i hu;cases h;rw [zbx,zcS];exact key (fun op=>by cases op<;>rfl) (by simp only [binOp]) (by simp only [binOp]) (zb3 fun d=>by simp [Op.equalIn,zaf hu,zae])
  . rename_i hu;cases h;rw [zcS];exact key (fun op=>by cases op<;>rfl) (by simp only [binOp]) (by simp only [binOp]) (zb3 fun d=>by simp [Op.equalIn,zaf hu,zae])
  . cases h
theorem zcs (d:Nat) (xs ys:Array Value):∀ (fs:List Field) (r:Bool),zdo P xs ys fs=some r->calm P (Op.eqFields (d+1) (xs.map (ren F)) (ys.map (ren F)) fs)=some r
  | [],r,h=>by cases h;simp [Op.eqFields]
  | f::fs,r,h=>by
    unfold zdo at h;split at h
    . rename_i hc;have hpart:∀ (cs:Array Value) v,cs[f.offset]?=some v->calm P (part f.type (cs.map (ren F)) f.offset)=some (ren F v):=fun cs v hv=>by
        unfold part;simp [zae,zft hc.2,hv]
      have hne:=hc.1;split at h
      . rename_i k a k' b u r' hx hy hu hr;split at h
        . rename_i hk;subst hk;cases h;have:=zcs d xs ys fs r' hr;simp only [Op.eqFields,hne,ne_eq,not_false_eq_true,if_true,zae,hpart xs _ hx,hpart ys _ hy,Option.bind_some,zbp,zf5 hu,ze4];cases hab:(a==b)<;>simp [this]
        . cases h
      . rename_i a b r' hx hy hu hr;cases h;have:=zcs d xs ys fs r' hr;simp only [Op.eqFields,hne,ne_eq,not_false_eq_true,if_true,zae,hpart xs _ hx,hpart ys _ hy,Option.bind_some,za3,zdk hu,ze4];cases hab:(a==b)<;>simp [this]
      . rename_i a b r' hx hy hu hr;cases h;have:=zcs d xs ys fs r' hr;simp only [Op.eqFields,hne,ne_eq,not_false_eq_true,if_true,zae,hpart xs _ hx,hpart ys _ hy,Option.bind_some,zbI,zcR hu,ze4,<-beq_toListBytes];cases hab:(a==b)<;>simp [this]
      . cases h
    . cases h
theorem zfS {t:TypeId} {x y:Operand} {a b:Value} {r:Bool} (h:zdT P t a b=some r) :
    (calm P (do eqGuard .eql t x y (ren F a) (ren F b);binOp .eql t (ren F a) (ren F b):Sem Value)=some (.bool r))/\(calm P (do eqGuard .neq t x y (ren F a) (ren F b);binOp .neq t (ren F a) (ren F b):Sem Value)=some (.bool !r)):=by
  unfold zdT at h;split at h
  . rename_i xs ys;split at h
    . rename_i fs hfs;split at h
      . rename_i hok;unfold zn2 at hok;simp only [Bool.and_eq_true,Bool.not_eq_true'] at hok;obtain⟨fs',hu,rfl⟩:∃ fs':Array Field,P.underlying t=some (.struct fs')/\fs'.toList=fs:=by
          unfold zgr at hfs;split at hfs
          . rename_i fs' hu;cases hfs;exact⟨fs',hu,rfl⟩
          . cases hfs
        have hf:P.fieldsOf t=fs':=by unfold Program.fieldsOf;rw [hu]
        have key:calm P (Op.equalIn 10000 t (.agg (xs.map (ren F))) (.agg (ys.map (ren F))))=some r:=by
          rw [zeN 9999 t _ _ (by rw [hf];exact hu) hok.1,hf]
          exact zcs 9998 xs ys _ r h
        rw [zco,zco];constructor
        . simp only [zae,zdK .eql t x y _ _ hok.2,Option.bind_some,zg9,key,Option.map_some]
        . simp only [zae,zdK .neq t x y _ _ hok.2,Option.bind_some,zgD,key,Option.map_some]
      . cases h
    . cases h
  . rename_i a b;split at h
    . rename_i hb;cases h;have hu:P.underlying t=some .bool:=by
        unfold zlq at hb;split at hb
        . assumption
        . cases hb
      have key:calm P (Op.equal t (.bool a) (.bool b))=some (a==b):=zdk hu;rw [za3,za3];constructor
      . simp [eqGuard,binOp,key]
      . simp [eqGuard,binOp,key]
    . cases h
  . rename_i a b;split at h
    . rename_i hb;cases h;have hu:P.underlying t=some .string:=by
        unfold zoB at hb;split at hb
        . assumption
        . cases hb
      have key:calm P (Op.equal t (.string a) (.string b))=some (a==b):=by
        rw [beq_toListBytes];exact zcR hu
      rw [zbI,zbI];constructor
      . simp [eqGuard,binOp,Op.stringOp,beq_toListBytes]
      . simp [eqGuard,binOp,Op.stringOp,beq_toListBytes]
    . cases h
  . cases h
theorem zeI {op:BinOp} {t:TypeId} {x y:Operand} {a b v:Value} (h:zaR P op t y a b=some v) :
    (calm P (do eqGuard op t x y (ren F a) (ren F b);binOp op t (ren F a) (ren F b):Sem Value)=some (ren F v)):=by
  unfold zaR at h;split at h
  . rename_i u hu;cases h;obtain⟨_,h2,h3,h4,h5⟩:=zlc (P:=P) (w:=default) t hu;have h1:=znQ (P:=P) t hu;rw [zaC F h2,zaC F h3,zaC F h4,h5];simpa [zae] using h1
  . split at h
    . rename_i hr;split at h
      . cases h;rw [za3];exact (zgy hr).1
      . cases h;rw [za3];exact (zgy hr).2
      . cases h
    . split at h
      . cases h;rw [za3];exact (zfS ‹_›).1
      . cases h;rw [za3];exact (zfS ‹_›).2
      . cases h
theorem zpo {op:UnOp} {x v:Value} (h:unA op x=some v):calm P (Op.unary op (ren F x))=some (ren F v):=by
  unfold unA at h;split at h<;>(try cases h)<;>simp [Op.unary,Op.intArith,Op.intBits]
theorem zir {s d:TypeId} {x v:Value} (h:zdw P s d x=some v):calm P (convert s d (ren F x))=some (ren F v):=by
  unfold zdw at h;split at h
  . rename_i k n k' hc;cases h;unfold zg5 at hc;split at hc
    . rename_i t k'' hs hd;cases hc;simp [convert,zaf hs,zaf hd,Conv.intToInt,zae]
    . cases hc
  . cases h
theorem zkk {t:TypeId} {x v:Value} {i:Nat} (h:zgl P t x i=some v):calm P (Instr.field t (ren F x) i)=some (ren F v):=by
  unfold zgl at h;split at h
  . rename_i cs off ft hf;obtain⟨fs,f,hu,hi,rfl,rfl⟩:=zdx hf;rw [zco];simp only [Instr.field,zae,zaf hu,Option.bind_some,hi,asAgg,zaB];exact zhE F h
  . cases h
theorem zjV {t:TypeId} {x i v:Value} (h:zgB P t x i=some v):calm P (Instr.index t (ren F x) (ren F i))=some (ren F v):=by
  unfold zgB at h;split at h
  . rename_i cs k n len el ha;split at h
    . rename_i s hs;split at h
      . rename_i hn;simp only [zco,zbp,Instr.index,asIntOf,zae,zaB,Option.bind_some,zaf (zbE ha)];rw [if_pos hn];simp only [zae,zbm hs,Option.bind_some];exact zhE F h
      . cases h
    . cases h
  . rename_i s k n ha;split at h
    . rename_i hu;split at h
      . rename_i hn;cases hs:s[n.toNat]? with
        | none=>rw [hs] at h;cases h
        | some b =>
          rw [hs] at h;cases h;simp only [zbI,zbp,Instr.index,asIntOf,zae,zaB,Option.bind_some,zaf hu,if_pos hn,hs]
      . cases h
    . cases h
  . cases h
theorem zhb {t:TypeId} {x v:Value} {i:Nat} (h:zcr P t x i=some v):calm P (Instr.fieldAt t (ren F x) i)=some (ren F v):=by
  unfold zcr at h;split at h
  . rename_i a off ft hf;split at h
    . rename_i s hs;split at h
      . rename_i hsp;cases h;obtain⟨fs,f,hu,hi,rfl,rfl⟩:=zdx hf;simp only [zba,Instr.fieldAt,Instr.sureAddr,fieldPlace,zae,zaB,Option.bind_some,zaf hu,hi,zbm hs];simp only [Nat.succ_ne_zero,if_false,zaB,Option.bind_some];obtain⟨ab,ao,asp⟩:=a;simp only at hsp;subst hsp;by_cases h0:f.offset=0
        . simp [Addr.add,adr,h0]
        . simp [Addr.add,adr,h0,Nat.add_assoc]
      . cases h
    . cases h
  . cases h
theorem zgQ {t:TypeId} {x i v:Value} (h:zcq P t x i=some v):calm P (Instr.indexAt t (ren F x) (ren F i))=some (ren F v):=by
  unfold zcq at h;split at h
  . rename_i a len c k n;split at h
    . rename_i el hel;split at h
      . rename_i s hs;split at h
        . rename_i hc;cases h;simp only [zaz,zbp,zba,Instr.indexAt,asIntOf,zae,zaB,Option.bind_some,zaf (zaG hel)];rw [if_pos hc.2];simp only [zae,zbm hs,Option.bind_some,zaB];rw [zbv _ _ (by simpa [adr] using hc.1)]
          simp [adr,Nat.add_assoc]
        . cases h
      . cases h
    . cases h
  . rename_i a k n;split at h
    . rename_i len el hel;split at h
      . rename_i s hs;split at h
        . rename_i hc;cases h;simp only [zbp,zba,Instr.indexAt,Instr.sureAddr,asIntOf,zae,zaB,Option.bind_some,zaf (zbE hel)];rw [if_pos hc.2];simp only [zae,zbm hs,Option.bind_some,zaB];rw [zbv _ _ (by simpa [adr] using hc.1)]
          simp [adr,Nat.add_assoc]
        . cases h
      . cases h
    . cases h
  . cases h
theorem znJ {t ty:TypeId} {x v:Value} (h:lenA P t x=some v):calm P (Builtin.len_ #[t] ty #[ren F x])=some (ren F v):=by
  unfold lenA at h;split at h
  . rename_i a n c el hel;cases h;cases a<;>simp [Builtin.len_,zaf (zaG hel),zae,goInt]
  . cases h
theorem ziU:∀ (l:List Value) (x v:Value),minA l x=some v->calm P ((l.map (ren F)).foldlM Builtin.min2 (ren F x))=some (ren F v)
  | [],x,v,h=>by cases h;simp
  | y::l,x,v,h=>by
    unfold minA at h;split at h
    . rename_i heq;cases heq
    . rename_i heq;cases heq;have:=ziU _ _ _ h;simp only [List.map_cons,List.foldlM_cons,zae,zbp,Builtin.min2,zaB,Option.bind_some] at this ⊢;exact this
    . cases h
theorem zjv:∀ (l:List Value) (x v:Value),maxA l x=some v->calm P ((l.map (ren F)).foldlM Builtin.max2 (ren F x))=some (ren F v)
  | [],x,v,h=>by cases h;simp
  | y::l,x,v,h=>by
    unfold maxA at h;split at h
    . rename_i heq;cases heq
    . rename_i heq;cases heq;have:=zjv _ _ _ h;simp only [List.map_cons,List.foldlM_cons,zae,zbp,Builtin.max2,zaB,Option.bind_some] at this ⊢;exact this
    . cases h
theorem zij {t:TypeId} {x v:Value} (h:ze6 P t x=some v):calm P (Instr.arrayAt t (ren F x))=some (ren F v):=by
  unfold ze6 at h;split at h
  . rename_i a len c n el ha;split at h
    . cases h
    . rename_i hn;cases h;simp [Instr.arrayAt,zae,zaf (zbE ha),hn]
  . cases h
theorem zcC {b:Bool} {len cap l r:Nat} {lo hi:Option Value} (hl:zbL lo 0=some l) (hr:zbL hi len=some r) (h1:l<=r) (h2:r<=cap) :
    calm P (Instr.sliceBounds b len cap (lo.map (ren F)) (hi.map (ren F)) none)=some (l,r,cap):=by
  have hl':∀ {m:Nat},l<=m->∀ v,lo=some v->∀ c,calm P (Instr.sliceBound (ren F v) m c)=some l:=by
    intro m hm v hv c;subst hv;unfold zbL at hl;split at hl
    . rename_i heq;cases heq
    . rename_i k n heq;cases heq;split at hl
      . rename_i hn;cases hl;simp [Instr.sliceBound,asIntOf,hn,show n<=(m:Int) by omega]
      . cases hl
    . cases hl
  have hr':∀ v,hi=some v->∀ c,calm P (Instr.sliceBound (ren F v) cap c)=some r:=by
    intro v hv c;subst hv;unfold zbL at hr;split at hr
    . rename_i heq;cases heq
    . rename_i k n heq;cases heq;split at hr
      . rename_i hn;cases hr;simp [Instr.sliceBound,asIntOf,hn,show n<=(cap:Int) by omega]
      . cases hr
    . cases hr
  have hr0:hi=none->r=len:=by rintro rfl;simpa [zbL] using hr.symm
  have hl0:lo=none->l=0:=by rintro rfl;simpa [zbL] using hl.symm
  unfold Instr.sliceBounds;cases hi with
  | none =>
    obtain rfl:=hr0 rfl;cases lo with
    | none=>obtain rfl:=hl0 rfl;simp
    | some v=>simp [hl' h1 v rfl]
  | some u =>
    cases lo with
    | none=>obtain rfl:=hl0 rfl;simp [hr' u rfl]
    | some v=>simp [hr' u rfl,hl' h1 v rfl]
theorem zf1 {t el:TypeId} (h:za8 P t=some el) (x:Value) (lo hi mx:Option Value):calm P (Instr.sliceAt t x lo hi mx)=calm P (Instr.slice t x lo hi mx):=by
  simp [Instr.sliceAt,zae,zaf (zaG h)]
theorem zkz {h:AHeap} {t:TypeId} {x v:Value} {lo hi mx:Option Value} (H:Holds F h w) (hv:zeC P h t x lo hi mx=some v):calm P (Instr.sliceAt t (ren F x) (lo.map (ren F)) (hi.map (ren F)) (mx.map (ren F)))=some (ren F v):=by
  unfold zeC at hv;split at hv
  . rename_i el a len cap hel;split at hv
    . rename_i l r s hl hr hs;split at hv
      . rename_i hc;obtain⟨h1,h2,h3⟩:=hc;have hb:=zcC (P:=P) (F:=F)  (b:=true) (cap:=cap+F.slack a.block) hl hr h1 (by omega)
        rw [Option.map_none,zf1 hel];simp only [zaz,Instr.slice,zae,zaf (zaG hel),Option.bind_some,hb,zbm hs,zaB];obtain⟨ab,ao,asp⟩:=a;simp only at h3;subst h3;split at hv
        . rename_i hlc;split at hv
          . rename_i h0;cases hv;subst h0;simp [adr,Addr.add]
          . rename_i h0;cases hv;have hne:¬ (cap+F.slack ab=l):=by omega
            simp only [if_neg hne,Option.map_some,zaz];rw [zbv _ _ rfl];simp only [adr,Nat.add_assoc];congr 2;omega
        . rename_i hlc;split at hv
          . rename_i b hb';split at hv
            . rename_i hg;cases hv;obtain⟨_,_,_,_,_,_,hsl,_⟩:=H.row _ _ hb';have hsl:=hsl hg;have he:cap+F.slack ab=l:=by simp only at hsl;omega
              simp only [if_pos he,zaz];congr 2
              . omega
              . simp only at hsl;omega
            . cases hv
          . cases hv
      . cases hv
    . cases hv
  . rename_i el hel;split at hv
    . rename_i s hl hr hs;cases hv;have hb:=zcC (P:=P) (F:=F)  (b:=true) (cap:=0) hl hr (Nat.le_refl _) (Nat.le_refl _);rw [Option.map_none,zf1 hel];simp [Instr.slice,zae,zaf (zaG hel),hb,zbm hs]
    . cases hv
  . rename_i n el a hsl ha;split at hv
    . rename_i l r s b hl hr hs hb';split at hv
      . rename_i hc;obtain⟨h1,h2,h3,hg⟩:=hc;have hslk:F.slack a.block=0:=by obtain⟨_,_,_,_,_,_,hslk,_⟩:=H.row _ _ hb';exact hslk hg
        have hb:=zcC (P:=P) (F:=F)  (b:=false) hl hr h1 h2;simp only [Option.map_none,zba,Instr.sliceAt,zae,zaf (zbE ha),Instr.sureAddr,zaB,Option.bind_some,hb,zbm hs];obtain⟨ab,ao,asp⟩:=a;simp only at h3 hslk;subst h3;split at hv
        . rename_i h0;cases hv;simp only [if_pos h0,zaz,hslk];congr 2<;>omega
        . rename_i h0;cases hv;simp only [if_neg h0,zaz,hslk];rw [zbv _ _ rfl];simp [adr,Nat.add_assoc]
      . cases hv
    . cases hv
  . cases hv
end
def zcY (o:Oper):List Nat:=(o.after.toList.filter (fun e=>Region.binds .any e)).map (·.on)
def zmW (acc:List Nat) (o:Oper):Nat:=(zcY o).foldl (fun s d=>s ||| 2 ^ d ||| acc.getD d 0) 0
def zas:List Oper->List Nat->List Nat
  | [],acc=>acc
  | o::l,acc=>zas l (acc++[zmW acc o])
def zcp (ops:Array Oper) (o:Oper):List Tmp:=o.looksAt ops++o.dst.toList
def ztC (ops:Array Oper) (effs:List Nat) (ms:List Nat) (i j:Nat):Bool :=
  match ops[i]?,ops[j]? with
  | some oi,some oj =>
    let meet:=(match oi.dst with|some d=>(zcp ops oj).contains d|none=>false) || (match oj.dst with|some d=>(zcp ops oi).contains d|none=>false) || effs.contains i
    i != j && (!meet || (ms.getD j 0).testBit i)
  | _,_=>false
theorem zdO (f:Nat->Nat) (k:Nat):∀ (l:List Nat) (s:Nat),(l.foldl (fun s d=>s ||| 2 ^ d ||| f d) s).testBit k=true ->
    s.testBit k=true\/∃ d∈l,d=k\/(f d).testBit k=true
  | [],s,h=>.inl h
  | d::l,s,h=>by
    rcases zdO f k l _ h with h|⟨e,he,h⟩
    . rw [Nat.testBit_or,Nat.testBit_or,Bool.or_eq_true,Bool.or_eq_true] at h;rcases h with (h|h)|h
      . exact .inl h
      . rw [Nat.testBit_two_pow] at h;exact .inr ⟨d,List.mem_cons_self,.inl (by simpa using h)⟩
      . exact .inr ⟨d,List.mem_cons_self,.inr h⟩
    . exact .inr ⟨e,List.mem_cons_of_mem _ he,h⟩
theorem zcW:∀ (l:List Oper) (acc:List Nat) (i:Nat),i<acc.length->(zas l acc).getD i 0=acc.getD i 0
  | [],_,_,_=>rfl
  | o::l,acc,i,h=>by
    rw [zas,zcW l _ i (by simp;omega)]
    simp [List.getElem?_append_left h]
theorem zfW:∀ (l:List Oper) (acc:List Nat) (i:Nat) (o:Oper),l[i]?=some o->∃ acc':List Nat,acc'.length=acc.length+i/\(∀ k,k<acc'.length->acc'.getD k 0=(zas l acc).getD k 0) /\
    (zas l acc).getD (acc.length+i) 0=zmW acc' o
  | [],_,_,_,h=>by simp at h
  | o::l,acc,0,o',h=>by
    simp at h;subst h;refine⟨acc,rfl,fun k hk=>?_,?_⟩
    . rw [zas,zcW l _ k (by simp;omega)];simp [List.getElem?_append_left hk]
    . rw [zas,zcW l _ _ (by simp)];simp
  | o::l,acc,i+1,o',h=>by
    obtain⟨acc',h1,h2,h3⟩:=zfW l (acc++[zmW acc o]) i o' (by simpa using h)
    refine⟨acc',by rw [h1];simp;omega,fun k hk=>by rw [zas];exact h2 k hk,?_⟩
    rw [zas,<-h3];congr 1;simp;omega
theorem zgO {ops:Array Oper} {D:Nat->Prop} (hdn:∀ i o,ops[i]?=some o->D i->∀ d∈zcY o,D d) :
    ∀ (i:Nat) (o:Oper),ops[i]?=some o->(∀ d∈zcY o,D d)->∀ k,((zas ops.toList []).getD i 0).testBit k=true->D k:=by
  intro i
  induction i using Nat.strongRecOn with
  | _ i ih =>
    intro o ho hd k hk;obtain⟨acc,hlen,hat,hm⟩:=zfW ops.toList [] i o (by simpa using ho)
    simp at hlen;simp only [List.length_nil,Nat.zero_add] at hm;rw [hm] at hk;rcases zdO (fun d=>acc.getD d 0) k _ _ hk with h|⟨d,hdm,h⟩
    . simp at h
    . rcases h with rfl|h
      . exact hd _ hdm
      . rcases Nat.lt_or_ge d i with hlt|hge
        . have hlt':d<ops.size:=Nat.lt_trans hlt (Array.getElem?_eq_some_iff.1 ho).1;have h':(acc.getD d 0).testBit k=true:=h;rw [hat d (by omega)] at h'
          exact ih d hlt _ (Array.getElem?_eq_getElem hlt') (hdn d _ (Array.getElem?_eq_getElem hlt') (hd d hdm)) k h'
        . have:acc.getD d 0=0:=by simp [List.getElem?_eq_none (show acc.length<=d by omega)]
          simp only [this] at h;simp at h
def Upon (P:Program) (v:Value) (K:World->Prop):Result Next->Prop
  | .ok (.value u) w=>u=v/\K w
  | .ok .skip w=>v=undef/\K w
  | .ok (.enter f args) w=>Calls P f args w (fun e w'=>e=.returned v/\K w')
  | _=>False
def UponR (P:Program) (K:Value->World->Prop):Result Next->Prop
  | .ok (.value u) w=>K u w
  | .ok .skip w=>K undef w
  | .ok (.enter f args) w=>Calls P f args w (fun e w'=>∃ v,e=.returned v/\K v w')
  | _=>False
attribute [go_sem] Upon UponR
section
variable (P:Program) (ops:Array Oper) (effs:List Nat) (S:World->Prop) (E:World->World->Prop) (Q:Act->World->Prop)
def LexR:List Nat->Act->World->Prop
  | [],a,w1=>∀ w,E w1 w->Q a w
  | i::l,a,w1=>match ops[i]? with
    | none=>False
    | some o =>
      if Region.wanted o (yielded ops a.tmps) then
        if effs.contains i then ∀ w,E w1 w->UponR P (fun v w'=>S w'/\LexR l (a.put o.dst v) w') ((execOp a.eval o).run P w)
        else ∃ v,(∀ w,S w->Upon P v (E w) ((execOp a.eval o).run P w))/\LexR l (a.put o.dst v) w1
      else LexR l (a.put o.dst undef) w1
end
structure Rec where
  want:Bool
  v:Value
  a:Act
def Rec.good (P:Program) (ops:Array Oper) (S:World->Prop) (E:World->World->Prop) (o:Oper) (r:Rec):Prop :=
  Region.wanted o (yielded ops r.a.tmps)=r.want /\
  (r.want=true->∀ w,S w->Upon P r.v (E w) ((execOp r.a.eval o).run P w))/\(r.want=false->r.v=undef)
def zrC (P:Program) (ops:Array Oper) (effs:List Nat) (S:World->Prop) (E:World->World->Prop) (Q:Act->World->Prop) (l:List Nat) (a:Act) (w1:World):Prop :=
  (l=[]/\∀ w,E w1 w->Q a w) \/
  ∃ i l' o,l=i::l'/\ops[i]?=some o/\effs.contains i=true/\Region.wanted o (yielded ops a.tmps)=true /\
    ∀ w,E w1 w->UponR P (fun v w'=>S w'/\LexR P ops effs S E Q l' (a.put o.dst v) w') ((execOp a.eval o).run P w)
theorem zms {P:Program} {ops:Array Oper} {effs:List Nat} {S:World->Prop} {E:World->World->Prop} {Q:Act->World->Prop} {w1:World} :
    ∀ (l:List Nat) (a:Act),LexR P ops effs S E Q l a w1 ->
    ∃ (q:Nat) (r:Nat->Rec),q<=l.length/\(r 0).a=a/\(∀ p,p<q->∃ i o,l[p]?=some i/\ops[i]?=some o/\(r p).good P ops S E o/\(r (p+1)).a=(r p).a.put o.dst (r p).v) /\
      zrC P ops effs S E Q (l.drop q) (r q).a w1
  | [],a,h=>⟨0,fun _=>⟨false,undef,a⟩,Nat.le_refl _,rfl,fun p hp=>by omega,.inl ⟨rfl,h⟩⟩
  | i::l,a,h=>by
    simp only [LexR] at h;cases ho:ops[i]? with
    | none=>rw [ho] at h;exact h.elim
    | some o =>
      rw [ho] at h;simp only [] at h;have key:∀ r0:Rec,r0.a=a->r0.good P ops S E o->LexR P ops effs S E Q l (a.put o.dst r0.v) w1 ->
          ∃ (q:Nat) (r:Nat->Rec),q<=(i::l).length/\(r 0).a=a/\(∀ p,p<q->∃ i' o',(i::l)[p]?=some i'/\ops[i']?=some o'/\(r p).good P ops S E o'/\(r (p+1)).a=(r p).a.put o'.dst (r p).v) /\
            zrC P ops effs S E Q ((i::l).drop q) (r q).a w1:=by
        intro r0 ha hg hl;obtain⟨q,r,h1,h2,h3,h4⟩:=zms l _ hl;refine⟨q+1,fun p=>match p with|0=>r0|p+1=>r p,by simp;omega,ha,?_,by simpa using h4⟩
        intro p hp;cases p with
        | zero=>exact⟨i,o,rfl,ho,hg,by show (r 0).a=_;rw [h2,ha]⟩
        | succ p=>obtain⟨i',o',g1,g2,g3,g4⟩:=h3 p (by omega);exact⟨i',o',by simpa using g1,g2,g3,g4⟩
      by_cases hw:Region.wanted o (yielded ops a.tmps)=true
      . rw [if_pos hw] at h;by_cases he:effs.contains i=true
        . rw [if_pos he] at h;exact⟨0,fun _=>⟨false,undef,a⟩,Nat.zero_le _,rfl,fun p hp=>by omega,.inr ⟨i,l,o,rfl,ho,he,hw,h⟩⟩
        . rw [if_neg he] at h;obtain⟨v,h1,h2⟩:=h;exact key ⟨true,v,a⟩ rfl ⟨hw,fun _=>h1,fun h0=>Bool.noConfusion h0⟩ h2
      . rw [if_neg hw] at h;exact key ⟨false,undef,a⟩ rfl ⟨by simpa using hw,fun h0=>Bool.noConfusion h0,fun _=>rfl⟩ h
def zsq (ops:Array Oper) (row:List Nat) (p:Nat):Option Tmp:=((row[p]?).bind (ops[·]?)).bind (·.dst)
def zbz (dst:Nat->Option Tmp) (val:Nat->Value) (D:Nat->Bool) (a0:Act) (t:Nat):Nat->Value
  | 0=>a0.tmps.getD t undef
  | n+1=>if D n=true/\dst n=some t then val n else zbz dst val D a0 t n
theorem zk6 (a:Act) (d:Option Tmp) (v:Value) (t:Nat) (ht:t<a.tmps.size):(a.put d v).tmps.getD t undef=if d=some t then v else a.tmps.getD t undef:=by
  cases d with
  | none=>simp [Act.put]
  | some d =>
    by_cases h:d=t
    . subst h;simp [Act.put,ht]
    . have:¬ (some d=some t):=by simpa using h
      rw [if_neg this];simp [Act.put,Array.getElem?_setIfInBounds_ne h]
theorem zlg (a:Act) (d:Option Tmp) (v:Value):(a.put d v).tmps.size=a.tmps.size:=by cases d<;>simp [Act.put]
theorem zg1 (a:Act) (d:Option Tmp) (v:Value):(a.put d v).defers=a.defers:=by cases d<;>rfl
theorem zcB {dst:Nat->Option Tmp} {val val':Nat->Value} {D D':Nat->Bool} {a0:Act} {t:Nat}:∀ n,(∀ j,j<n->dst j=some t->D j=D' j/\val j=val' j)->zbz dst val D a0 t n=zbz dst val' D' a0 t n
  | 0,_=>rfl
  | n+1,h=>by
    have ih:=zcB (a0:=a0) n (fun j hj=>h j (Nat.lt_succ_of_lt hj));by_cases hd:dst n=some t
    . simp only [zbz,hd,(h n (Nat.lt_succ_self n) hd).1,(h n (Nat.lt_succ_self n) hd).2,ih]
    . simp only [zbz,hd,and_false,if_false,ih]
theorem zhZ {dst:Nat->Option Tmp} {val:Nat->Value} {D:Nat->Bool} {a0:Act} {t m:Nat}:∀ n,m<=n->(∀ j,m<=j->j<n->dst j=some t->D j=false)->zbz dst val D a0 t n=zbz dst val D a0 t m
  | 0,hm,_=>by rw [Nat.le_zero.1 hm]
  | n+1,hm,h=>by
    by_cases he:m=n+1
    . rw [he]
    . have ih:=zhZ (val:=val) (a0:=a0) n (by omega) (fun j h1 h2=>h j h1 (Nat.lt_succ_of_lt h2))
      rw [zbz,if_neg,ih];rintro ⟨h1,h2⟩;rw [h n (by omega) (Nat.lt_succ_self n) h2] at h1
      exact Bool.noConfusion h1
theorem zra {a b:Act} (hs:a.tmps.size=b.tmps.size) (hd:a.defers=b.defers) (h:∀ t,t<a.tmps.size->a.tmps.getD t undef=b.tmps.getD t undef):a=b:=by
  obtain⟨x,d⟩:=a;obtain⟨y,e⟩:=b;simp only at hs hd h;subst hd;have:x=y:=by
    apply Array.ext hs;intro i h1 h2;have:=h i h1;simpa [h1,h2] using this
  rw [this]
theorem zfD {dst:Nat->Option Tmp} {r:Nat->Rec} {a0:Act} {n:Nat} (h0:(r 0).a=a0) (hs:∀ p,p<n->(r (p+1)).a=(r p).a.put (dst p) (r p).v) :
    ∀ m,m<=n->(r m).a.tmps.size=a0.tmps.size/\(r m).a.defers=a0.defers/\∀ t,t<a0.tmps.size->(r m).a.tmps.getD t undef=zbz dst (fun j=>(r j).v) (fun _=>true) a0 t m
  | 0,_=>⟨by rw [h0],by rw [h0],fun t _=>by rw [h0];rfl⟩
  | m+1,hm=>by
    obtain⟨ih1,ih2,ih3⟩:=zfD h0 hs m (by omega)
    have hm':=hs m (by omega)
    refine⟨by rw [hm',zlg,ih1],by rw [hm',zg1,ih2],fun t ht=>?_⟩
    rw [hm',zk6 _ _ _ _ (by rw [ih1];exact ht),ih3 t ht]
    simp only [zbz,true_and]
theorem zhz {dst:Nat->Option Tmp} {val:Nat->Value} {D:Nat->Bool} {a0:Act} {i:Nat} {t:Nat} (hlater:∀ j,i<j->dst j=some t->dst i=some t->D j=false) :
    ∀ n,i<n->zbz dst val (fun j=>D j || j==i) a0 t n=if dst i=some t then val i else zbz dst val D a0 t n
  | 0,h=>by omega
  | n+1,h=>by
    by_cases he:i=n
    . subst he;by_cases hd:dst i=some t
      . simp [zbz,hd]
      . rw [zbz,if_neg (fun h=>hd h.2),if_neg hd,zbz,if_neg (fun h=>hd h.2)];exact zcB i (fun j hj _=>⟨by simp;intro h;omega,rfl⟩)
    . have hne:(n==i)=false:=by simp;omega
      rw [zbz,zhz hlater n (by omega)]
      by_cases hd:dst i=some t
      . rw [if_pos hd,if_pos hd];by_cases hn:dst n=some t
        . rw [if_neg];rintro ⟨h1,_⟩;rw [hlater n (by omega) hn hd] at h1;simp [hne] at h1
        . rw [if_neg (fun h=>hn h.2)]
      . simp [hd,zbz,hne]
section
variable {P:Program} {ops:Array Oper} {effs:List Nat} {row:List Nat} {S:World->Prop} {E:World->World->Prop}
structure ztu (ops:Array Oper) (effs row:List Nat):Prop where
  sel:Region.noSelect ops=true
  all:∀ j,j<ops.size->∃ p:Nat,row[p]?=some j
  deps:∀ j oj,ops[j]?=some oj->∀ d∈zcY oj,d<j
  bound:∀ (p i:Nat),row[p]?=some i->i<ops.size
  apart:∀ (p q i:Nat),row[p]?=some i->row[q]?=some i->p=q
  meet:∀ (p q i j:Nat) oi oj,p<q->row[p]?=some i->row[q]?=some j->ops[i]?=some oi->ops[j]?=some oj ->
    ((∃ d,oi.dst=some d/\d∈zcp ops oj)\/(∃ d,oj.dst=some d/\d∈zcp ops oi)\/effs.contains i=true)->((zas ops.toList []).getD j 0).testBit i=true
theorem zpq {o:Oper} {e:Edge} (he:e∈o.after) (hb:Region.binds .any e=true):e.on∈zcY o:=by
  unfold zcY;exact List.mem_map.2 ⟨e,List.mem_filter.2 ⟨by simpa using he,hb⟩,rfl⟩
theorem zpX {o:Oper} {d:Nat} (h:d∈zcY o):∃ e∈o.after,Region.binds .any e=true/\e.on=d:=by
  unfold zcY at h;obtain⟨e,h1,h2⟩:=List.mem_map.1 h;obtain⟨h3,h4⟩:=List.mem_filter.1 h1;exact⟨e,by simpa using h3,h4,h2⟩
theorem Upon.wp {o:Oper} {a:Act} {w:World} {v:Value} {K:World->Prop} {next:Act->World->Prop} {Q:Exit->Act->World->Prop}
    (h:Upon P v K ((execOp a.eval o).run P w)) (hn:∀ w',K w'->next (a.put o.dst v) w'):o.wp P a w next Q:=by
  unfold Oper.wp;generalize (execOp a.eval o).run P w=r at *;cases r with
  | ok n w' =>
    cases n<;>simp only [Upon] at h<;>simp only [Oper.upon]
    case value u=>obtain⟨rfl,hk⟩:=h;exact hn _ hk
    case skip=>obtain⟨rfl,hk⟩:=h;exact hn _ hk
    case enter f args=>exact h.mono fun e w'' ⟨he,hk⟩=>by subst he;exact hn _ hk
  | halt x w'=>simp only [Upon] at h
theorem UponR.wp {o:Oper} {a:Act} {w:World} {K:Value->World->Prop} {next:Act->World->Prop} {Q:Exit->Act->World->Prop}
    (h:UponR P K ((execOp a.eval o).run P w)) (hn:∀ v w',K v w'->next (a.put o.dst v) w'):o.wp P a w next Q:=by
  unfold Oper.wp;generalize (execOp a.eval o).run P w=r at *;cases r with
  | ok n w' =>
    cases n<;>simp only [UponR] at h<;>simp only [Oper.upon]
    case value u=>exact hn _ _ h
    case skip=>exact hn _ _ h
    case enter f args=>exact h.mono fun e w'' ⟨v,he,hk⟩=>by subst he;exact hn _ _ hk
  | halt x w'=>simp only [UponR] at h
structure Inv (P:Program) (ops:Array Oper) (effs row:List Nat) (S:World->Prop) (E:World->World->Prop) (Q:Act->World->Prop) (a0:Act) (listed:Array Bool) (a:Act) (w:World) (m:Nat) (r:Nat->Rec) (w1:World):Prop where
  size:listed.size=ops.size
  down:∀ i o,ops[i]?=some o->listed.getD i false=true->∀ d∈zcY o,listed.getD d false=true
  tmps:a.tmps.size=a0.tmps.size
  defers:a.defers=a0.defers
  start:(r 0).a=a0
  steps:∀ p,p<m->(r (p+1)).a=(r p).a.put (zsq ops row p) (r p).v
  open':∀ (p i:Nat) o,p<m->row[p]?=some i->ops[i]?=some o->listed.getD i false=true\/(r p).good P ops S E o
  later:∀ (p i:Nat),m<=p->row[p]?=some i->listed.getD i false=false
  front:zrC P ops effs S E Q (row.drop m) (r m).a w1
  slots:∀ t,t<a0.tmps.size->a.tmps.getD t undef=zbz (zsq ops row) (fun j=>(r j).v) (fun p=>(row[p]?).elim false (fun i=>listed.getD i false)) a0 t m
  grown:E w1 w
  cls:S w
theorem zjZ {listed:Array Bool} {i:Nat} (h:i<listed.size) (b c:Bool):listed.getD i b=listed.getD i c:=by simp [h]
theorem zhY (x:Array Value) (t:Tmp):(match x[t]? with|some (.bool b)=>some b|_=>none)=(match x.getD t undef with|.bool b=>some b|_=>none):=by
  rw [Array.getD_eq_getD_getElem?];cases x[t]? with
  | none=>rfl
  | some v=>cases v<;>rfl
theorem zrE (hsel:Region.noSelect ops=true) {i:Nat} {o:Oper} (ho:ops[i]?=some o) {a b:Act} (h:∀ t,t∈o.looksAt ops->a.tmps.getD t undef=b.tmps.getD t undef) :
    execOp a.eval o=execOp b.eval o/\Region.wanted o (yielded ops a.tmps)=Region.wanted o (yielded ops b.tmps):=by
  refine⟨execOp_congr o (fun cs b=>Region.noSelect_spec hsel i o cs b ho) fun x hx=>?_,?_⟩
  . cases x with
    | tmp t=>exact h t (List.mem_append_left _ (List.mem_filterMap.2 ⟨.tmp t,by simpa using hx,rfl⟩))
    | _=>rfl
  . unfold Region.wanted;cases hg:o.guard with
    | none=>rfl
    | some gw =>
      obtain⟨g,want⟩:=gw;have:yielded ops a.tmps g=yielded ops b.tmps g:=by
        unfold yielded;cases ht:(ops[g]?).bind (·.dst) with
        | none=>rfl
        | some t =>
          have:=h t (List.mem_append_right _ (by simp [hg,ht]))
          exact (zhY a.tmps t).trans ((congrArg (fun x:Value=>match x with|.bool b=>some b|_=>none) this).trans (zhY b.tmps t).symm)
      simp only [this]
def zbS (listed:Array Bool):Nat->Nat
  | 0=>0
  | n+1=>zbS listed n+if listed.getD n true then 0 else 1
theorem zdE {listed:Array Bool} {i:Nat} (hi:listed.getD i true=false):∀ n,i<n->i<listed.size->zbS (listed.setIfInBounds i true) n+1=zbS listed n
  | 0,h,_=>by omega
  | n+1,h,hl=>by
    by_cases he:i=n
    . subst he;have:∀ m,m<=i->zbS (listed.setIfInBounds i true) m=zbS listed m:=by
        intro m hm
        induction m with
        | zero=>rfl
        | succ m ih=>rw [zbS,zbS,ih (by omega),getD_set_ne true (by omega)]
      rw [zbS,zbS,this i (Nat.le_refl _),hi];simp [hl]
    . have ih:=zdE hi n (by omega) hl
      rw [zbS,zbS,getD_set_ne true he];omega
theorem zeU {listed:Array Bool}:∀ n,zbS listed n=0->∀ i,i<n->listed.getD i true=true
  | 0,_,_,h=>by omega
  | n+1,hz,i,h=>by
    rw [zbS] at hz;have h1:zbS listed n=0:=by omega
    have h2:(if listed.getD n true=true then 0 else 1)=0:=by omega
    by_cases he:i=n
    . subst he;cases hb:listed.getD i true
      . rw [hb] at h2;simp at h2
      . rfl
    . exact zeU n h1 i (by omega)
theorem zcF (n m:Nat):zbS (Array.replicate n false) m<=m:=by
  induction m with
  | zero=>exact Nat.le_refl _
  | succ m ih=>rw [zbS];split<;>omega
end
section
variable (P:Program) (ops:Array Oper) (effs:List Nat) {X:Type} (f:X->World) (S:World->Prop) (E:World->World->Prop) (Q:Act->World->Prop)
end
section
variable {P:Program} {ops:Array Oper} {effs:List Nat} {X:Type} {f:X->World} {S:World->Prop} {E:World->World->Prop} {Q:Act->World->Prop} {o:Oper} {l:List Nat} {i:Nat} {a:Act} {w1:World}
theorem UponR.mono {K K':Value->World->Prop} (h:∀ v w,K v w->K' v w) {r:Result Next} (hr:UponR P K r):UponR P K' r:=by
  cases r with
  | ok n w=>cases n<;>simp only [UponR] at hr ⊢<;>first|exact h _ _ hr|exact hr.mono fun e w' ⟨v,he,hk⟩=>⟨v,he,h _ _ hk⟩
  | halt x w=>exact hr
end
attribute [irreducible] LexR
end Go.Proofs.Ytgndgbnhkoppmaa
namespace Go.Proofs.Ytgndgbnhkoppmaa
open Go Go.RowKit
structure Ext (X:List Nat) (w w':World):Prop where
  os:w'.os=w.os
  tape:w'.tape=w.tape
  output:w'.output=w.output
  size:w.heap.size<=w'.heap.size
  block:∀ b,b<w.heap.size->b ∉ X->w'.heap[b]?=w.heap[b]?
theorem Ext.refl (X:List Nat) (w:World):Ext X w w:=⟨rfl,rfl,rfl,Nat.le_refl _,fun _ _ _=>rfl⟩
theorem Ext.trans {X Y Z:List Nat} {a b c:World} (h:Ext X a b) (k:Ext Y b c) (hX:∀ x∈X,x∈Z) (hY:∀ y∈Y,y∈Z\/a.heap.size<=y):Ext Z a c :=
  ⟨k.os.trans h.os,k.tape.trans h.tape,k.output.trans h.output,Nat.le_trans h.size k.size,fun x hx hz =>
    (k.block x (Nat.lt_of_lt_of_le hx h.size) (fun hy=>by rcases hY x hy with h|h;exact hz h;omega)).trans (h.block x hx (fun hx'=>hz (hX x hx')))⟩
theorem Ext.trans0 {X:List Nat} {a b c:World} (h:Ext X a b) (k:Ext [] b c):Ext X a c:=h.trans k (fun _ h=>h) (by simp)
theorem Ext.trans' {X:List Nat} {a b c:World} (h:Ext X a b) (k:Ext X b c):Ext X a c:=h.trans k (fun _ h=>h) (fun _ h=>.inl h)
theorem Ext.mono {X Y:List Nat} {a b:World} (h:Ext X a b) (hX:∀ x∈X,x∈Y):Ext Y a b:=⟨h.os,h.tape,h.output,h.size,fun x hx hy=>h.block x hx (fun h'=>hy (hX x h'))⟩
theorem Ext.drop {X Y:List Nat} {a b:World} (h:Ext X a b) (hX:∀ x∈X,x∈Y\/a.heap.size<=x):Ext Y a b :=
  ⟨h.os,h.tape,h.output,h.size,fun x hx hy=>h.block x hx (fun h'=>by rcases hX x h' with h|h;exact hy h;omega)⟩
theorem Ext.drew {X:List Nat} {a b:World} (h:Ext X a b):Ext X a b.drew:=⟨h.os,h.tape,h.output,h.size,h.block⟩
theorem Ext.alloc {X:List Nat} {a b:World} (h:Ext X a b) (o:Obj):Ext X a (b.alloc o) :=
  ⟨h.os,h.tape,h.output,Nat.le_trans h.size (by simp),fun x hx hn=>(Below.heap_alloc b o x (Nat.lt_of_lt_of_le hx h.size)).trans (h.block x hx hn)⟩
theorem Ext.setCell {X:List Nat} {a b:World} (h:Ext X a b) {p:Addr} (hp:p.block∈X\/a.heap.size<=p.block) (u:Value):Ext X a (b.setCell p u) :=
  ⟨h.os,h.tape,h.output,by simpa [World.setCell] using h.size,fun x hx hn=>(Below.heap_setCell b p u x (by
    rintro rfl;rcases hp with hp|hp
    . exact hn hp
    . omega)).trans (h.block x hx hn)⟩
theorem Ext.at {X:List Nat} {a b:World} (h:Ext X a b) {x:Nat} {o:Obj} (ho:a.heap[x]?=some o) (hx:x ∉ X):b.heap[x]?=some o :=
  (h.block x (lt_of_block ho) hx).trans ho
theorem Ext.cell {X:List Nat} {a b:World} (h:Ext X a b) {p:Addr} (hp:p.block<a.heap.size) (hx:p.block ∉ X):b.cell? p=a.cell? p:=World.cell?_of_block (w:=a) (h.block p.block hp hx)
theorem Ext.frozen {X:List Nat} {a b:World} (h:Ext X a b) {p:Addr} (hp:p.block<a.heap.size) (hx:p.block ∉ X):b.frozen? p=a.frozen? p:=World.frozen?_of_block (w:=a) (h.block p.block hp hx)
theorem hid {p:Prop} (h:p):Hid p:=h
def blk (w:World) (b:Nat):Option Obj:=w.heap[b]?
theorem zql (w:World) (b:Nat):blk w.drew b=blk w b:=rfl
theorem zrV (w:World) (a:Addr) (u:Value) (b:Nat) (h:b≠a.block):blk (w.setCell a u) b=blk w b:=Below.heap_setCell w a u b h
theorem blk_lt {w:World} {b:Nat} {o:Obj} (h:blk w b=some o):b<w.heap.size:=lt_of_block h
theorem zdJ {w:World} {b:Nat} {cs:Array Value} {t:TypeId} {fr:Nat × Nat} (h:blk w b=some (.cells cs t fr)) (i:Nat):w.cell? ⟨b,i,none⟩=cs[i]?:=by
  simp only [World.cell?,show w.heap[b]?=some (.cells cs t fr) from h];rfl
theorem Ext.blk {X:List Nat} {a b:World} (h:Ext X a b) {x:Nat} {o:Obj} (ho:blk a x=some o) (hx:x ∉ X):blk b x=some o:=h.at ho hx
attribute [go_sem] zql
def setRow (w:World) (b:Nat) (cs:Array Value):World :=
  { w with heap:=w.heap.modify b fun|.cells _ t fr=>.cells cs t fr|o=>o }
def over (c:Array Value):Nat->List Value->Array Value
  | _,[]=>c
  | o,v::r=>over (c.setIfInBounds o v) (o+1) r
theorem ziF:∀ (l:List Value) (c:Array Value) (o j:Nat),o+l.length<=c.size->(over c o l)[j]?=if o<=j/\j<o+l.length then l[j - o]? else c[j]?
  | [],c,o,j,_=>by rw [over,if_neg];simp only [List.length_nil];omega
  | v::l,c,o,j,h=>by
    simp only [List.length_cons] at h;rw [over,ziF l _ _ _ (by simp;omega)]
    by_cases h1:o+1<=j/\j<o+1+l.length
    . rw [if_pos h1,if_pos (by simp;omega),show j - o=(j - (o+1))+1 by omega,List.getElem?_cons_succ]
    . rw [if_neg h1];by_cases h2:j=o
      . subst h2;rw [if_pos (by simp),Nat.sub_self,List.getElem?_cons_zero,Array.getElem?_setIfInBounds_self_of_lt (by omega)]
      . rw [if_neg (by simp;omega),Array.getElem?_setIfInBounds_ne (by omega)]
theorem ziq (a:Array Obj) (b:Nat) (f g:Obj->Obj):(a.modify b f).modify b g=a.modify b (fun o=>g (f o)):=by
  apply Array.ext_getElem?;intro j;simp only [Array.getElem?_modify];split
  . cases a[j]?<;>rfl
  . rfl
theorem zfj (b:Nat):∀ (l:List Value) (o:Nat) (w:World),w.setCells b o l={ w with heap:=w.heap.modify b fun|.cells c t fr=>.cells (over c o l) t fr|x=>x }
  | [],o,w=>by
    have:(w.heap.modify b fun|.cells c t fr=>.cells (over c o []) t fr|x=>x)=w.heap:=by
      apply Array.ext_getElem?;intro j;simp only [Array.getElem?_modify];split
      . cases w.heap[j]? with
        | none=>rfl
        | some x=>cases x<;>rfl
      . rfl
    rw [this];rfl
  | v::l,o,w=>by
    rw [World.setCells,zfj b l (o+1)];simp only [World.setCell,ziq];congr 2;funext x;cases x<;>rfl
def zol (t:TypeId) (v:Value):Sem Value:=Instr.loadAt t v
def zlU (t:TypeId) (v u:Value):Sem Unit:=Instr.storeAt t v u
theorem zjI (w:World) (b:Nat) (cs:Array Value):setRow w.drew b cs=(setRow w b cs).drew:=rfl
theorem zhc (w:World) (b:Nat) (cs:Array Value):(setRow w b cs).heap.size=w.heap.size:=by simp [setRow]
theorem zio (w:World) (b x:Nat) (cs:Array Value) (h:x≠b):blk (setRow w b cs) x=blk w x:=by
  show (w.heap.modify b _)[x]?=w.heap[x]?;rw [Array.getElem?_modify,if_neg (fun e=>h e.symm)]
theorem Ext.setRow {X:List Nat} {a b:World} (h:Ext X a b) {x:Nat} (hx:x∈X\/a.heap.size<=x) (cs:Array Value):Ext X a (setRow b x cs) :=
  ⟨h.os,h.tape,h.output,by rw [zhc];exact h.size,fun y hy hn=>(zio b x y cs (by rintro rfl;rcases hx with hx|hx;exact hn hx;omega)).trans (h.block y hy hn)⟩
theorem zjR {w:World} {b:Nat} {cs:Array Value} {t:TypeId} {fr:Nat × Nat} (h:blk w b=some (.cells cs t fr)) (i:Nat) (u:Value):blk (w.setCell ⟨b,i,none⟩ u) b=some (.cells (cs.setIfInBounds i u) t fr):=by
  show (w.heap.modify b _)[b]?=_;rw [Array.getElem?_modify,if_pos rfl,show w.heap[b]?=some (.cells cs t fr) from h];rfl
attribute [go_sem] zjI zhc Value.oneCell'
end Go.Proofs.Ytgndgbnhkoppmaa
