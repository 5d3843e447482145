/-
  The abstract machine, part 13: rules for the evaluation of its operations; calls whose frames are written out.
  No condition: laws.
-/
import Derived.Test.YtkjnamhgemidkaaUAx11
import Derived.IntWalk
namespace Go.Proofs.Ytkjnamhgemidkaa
open Go Go.RowKit
set_option linter.unusedSimpArgs false
set_option linter.unusedVariables false
section
variable {P:Program} {e:Operand→Value} {h:AHeap} {t:TypeId} {x y:Operand} {k:IntKind} {a b:Int}
theorem ev_tmp (l:List Value) (t:Nat):evA l (.tmp t)=l.getD t undef:=rfl
theorem ev_const (l:List Value) (v:Value):evA l (.const v)=v:=rfl
theorem ev_func (l:List Value) (f:FuncId):evA l (.func f)=.func (.func f) #[] #[]:=rfl
theorem put_some (d:Nat) (v:Value) (l:List Value):putL (some d) v l=l.set d v:=rfl
theorem put_none (v:Value) (l:List Value):putL none v l=l:=rfl
theorem v_move:valA P e h (.move x)=some (e x):=rfl
theorem v_assign:valA P e h (.assign x)=some (e x):=rfl
theorem v_bin {op:BinOp} {u:TypeId}:valA P e h (.binOp op t x y u)=binOpA P op t y (e x) (e y):=rfl
theorem v_un {op:UnOp}:valA P e h (.unOp op t x)=unA op (e x):=rfl
theorem v_convert {u:TypeId}:valA P e h (.convert t u x)=convertA P t u (e x):=rfl
theorem v_field {i:Nat}:valA P e h (.field t x i)=fieldA P t (e x) i:=rfl
theorem v_index:valA P e h (.index t x y)=indexA P t (e x) (e y):=rfl
theorem v_makeFunc {fn:Fn} {xs ys:Array Operand}:valA P e h (.makeFunc fn xs ys)=some (.func fn (xs.map e) (ys.map e)):=rfl
theorem v_nilCheck:valA P e h (.nilCheck x)=nilCheckA P (e x):=rfl
theorem v_fieldAddr {i:Nat}:valA P e h (.fieldAddr t x i)=fieldAddrA P t (e x) i:=rfl
theorem v_indexAddr:valA P e h (.indexAddr t x y)=indexAddrA P t (e x) (e y):=rfl
def loadV (P:Program) (h:AHeap) (t:TypeId):Value→Option Value
  | .pointer (some a)=>loadA P h t a
  | _=>none
theorem v_load:valA P e h (.load t x)=loadV P h t (e x):=by
  show (match e x with|.pointer (some a)=>loadA P h t a|_=>none)=_
  unfold loadV
  rfl
theorem load_ptr {a:Addr}:loadV P h t (.pointer (some a))=loadA P h t a:=rfl
def pickV (c a b:Value):Option Value:=match c with
  | .bool t=>some (if t then a else b)
  | _=>none
theorem v_pick {z:Operand}:valA P e h (.pick x y z)=pickV (e x) (e y) (e z):=rfl
theorem pick_true {v u:Value}:pickV (.bool true) v u=some v:=rfl
theorem pick_false {v u:Value}:pickV (.bool false) v u=some u:=rfl
def extractV (v:Value) (i:Nat):Option Value:=match v with
  | .tuple vs=>vs[i]?
  | _=>none
theorem v_extract {i:Nat}:valA P e h (.extract x i)=extractV (e x) i:=rfl
theorem extract_tuple {vs:Array Value} {i:Nat}:extractV (.tuple vs) i=vs[i]?:=rfl
theorem b_add:binOpA P .add t y (.int k a) (.int k b)=some (.int k (k.wrap (a+b))):=by simp [binOpA,binA,intA]
theorem b_sub:binOpA P .sub t y (.int k a) (.int k b)=some (.int k (k.wrap (a - b))):=by simp [binOpA,binA,intA]
theorem b_mul:binOpA P .mul t y (.int k a) (.int k b)=some (.int k (k.wrap (a * b))):=by simp [binOpA,binA,intA]
theorem b_rem (hb:b≠0):binOpA P .rem t y (.int k a) (.int k b)=some (.int k (a.tmod b)):=by simp [binOpA,binA,intA,hb]
theorem b_eql:binOpA P .eql t y (.int k a) (.int k b)=some (.bool (a==b)):=by simp [binOpA,binA,intA]
theorem b_neq:binOpA P .neq t y (.int k a) (.int k b)=some (.bool (a != b)):=by simp [binOpA,binA,intA]
theorem b_lss:binOpA P .lss t y (.int k a) (.int k b)=some (.bool (decide (a<b))):=by simp [binOpA,binA,intA]
theorem b_leq:binOpA P .leq t y (.int k a) (.int k b)=some (.bool (decide (a≤b))):=by simp [binOpA,binA,intA]
theorem b_gtr:binOpA P .gtr t y (.int k a) (.int k b)=some (.bool (decide (b<a))):=by simp [binOpA,binA,intA]
theorem b_geq:binOpA P .geq t y (.int k a) (.int k b)=some (.bool (decide (b≤a))):=by simp [binOpA,binA,intA]
theorem b_not {c:Bool}:unA .not (.bool c)=some (.bool !c):=rfl
theorem b_neg:unA .neg (.int k a)=some (.int k (k.wrap (0 - a))):=rfl
theorem cast0:((0:Nat):Int)=0:=rfl
theorem cast1:((1:Nat):Int)=1:=rfl
def loadR (b:Option Blk) (g:Option Bool) (s:Option Nat) (a:Addr):Option Value:=match b,g,s with
  | some b,some true,some s=>if a.spot=none∧a.off=0∧b.cells.length=s then some (.agg b.cells.toArray) else if a.spot=none∧a.off+s≤b.cells.length then some (.agg ((b.cells.drop a.off).take s).toArray) else none
  | some b,some false,some _=>if a.spot=none then b.cells[a.off]? else none
  | _,_,_=>none
theorem loadA_eq {a:Addr}:loadA P h t a=loadR (h.get a.block) (tyAgg P t) (tySize P t) a:=rfl
theorem loadR_cell {b:Blk} {s n o:Nat}:loadR (some b) (some false) (some s) ⟨n,o,none⟩=b.cells[o]?:=by simp [loadR]
theorem loadR_all {b:Blk} {s n:Nat} (hl:b.cells.length=s):loadR (some b) (some true) (some s) ⟨n,0,none⟩=some (.agg b.cells.toArray):=by simp [loadR,hl]
def tyPtr (P:Program) (t:TypeId):Bool:=match P.underlying t with|some (.pointer _)=>true|_=>false
def tyIfc (P:Program) (t:TypeId):Bool:=match P.underlying t with|some (.interface _)=>true|_=>false
def tySli (P:Program) (t:TypeId):Bool:=match P.underlying t with|some (.slice _)=>true|_=>false
theorem b_eqp {a:Option Addr}:binOpA P .eql t y (.pointer a) (.pointer none)=cond (tyPtr P t) (some (.bool a.isNone)) none:=by
  simp only [binOpA,binA,eqNilA,eqFlatA,tyPtr]
  cases P.underlying t with
  | none=>rfl
  | some u=>cases u<;>rfl
theorem b_nep {a:Option Addr}:binOpA P .neq t y (.pointer a) (.pointer none)=cond (tyPtr P t) (some (.bool !a.isNone)) none:=by
  simp only [binOpA,binA,eqNilA,eqFlatA,tyPtr]
  cases P.underlying t with
  | none=>rfl
  | some u=>cases u<;>rfl
theorem b_eqh {k:Nat}:binOpA P .eql t y (hndV k) (.pointer none)=cond (tyPtr P t) (some (.bool false)) none:=b_eqp
theorem b_eqb {a b:Bool}:binOpA P .eql t y (.bool a) (.bool b)=cond (tyBool P t) (some (.bool (a==b))) none:=by
  simp only [binOpA,binA,eqNilA,eqFlatA]
  cases hu:P.underlying t with
  | none=>simp [tyBool,hu]
  | some u=>cases u<;>simp [tyBool,hu]
def tyMk (P:Program) (t:TypeId):Bool:=match P.underlying t with|some (.interface _)=>false|some _=>true|none=>false
theorem v_iface:valA P e h (.makeInterface t x)=cond (tyMk P t) (some (.iface t (e x))) none:=by
  simp only [valA,tyMk]
  cases P.underlying t with
  | none=>rfl
  | some u=>cases u<;>rfl
theorem iface_prt {k:Nat}:Value.iface 68 (hndV k)=prtV k:=rfl
theorem v_len {ats:Array TypeId} {z:Operand}:valA P e h (.call { callee:=.builtin .len,args:=#[z],argTypes:=ats })=(match ats.toList with|[t]=>lenA P t (e z)|_=>none):=by
  show (match [z],ats.toList with|[x],[t]=>lenA P t (e x)|_,_=>none)=_
  cases ats.toList with
  | nil=>rfl
  | cons a l=>cases l<;>rfl
def min2:Value→Value→Option Value
  | .int k x,.int _ y=>some (.int k (if y<x then y else x))
  | _,_=>none
def max2:Value→Value→Option Value
  | .int k x,.int _ y=>some (.int k (if y > x then y else x))
  | _,_=>none
theorem v_build {ps:Array (Nat × Operand)}:valA P e h (.build t ps)=buildA P t (ps.toList.map fun p=>(p.1,e p.2)):=rfl
theorem v_slice {lo hi mx:Option Operand}:valA P e h (.slice t x lo hi mx)=sliceA P h t (e x) (lo.map e) (hi.map e) (mx.map e):=rfl
def fill1 (o:Option (Nat × Nat)) (v:Value) (cells:List Value) (K:List Value→Option (List Value)):Option (List Value):=match o with
  | none=>none
  | some (off,size)=>if v.cells.size≠size∨off+v.cells.size > cells.length then none else K (spliceA cells off v.cells.toList)
theorem fill_cons {pl:Nat→Option (Nat × Nat)} {cells:List Value} {i:Nat} {v:Value} {l:List (Nat × Value)}:fillA pl cells ((i,v)::l)=fill1 (pl i) v cells fun c=>fillA pl c l:=by
  rw [fillA]
  unfold fill1
  rfl
theorem fill_nil {pl:Nat→Option (Nat × Nat)} {cells:List Value}:fillA pl cells []=some cells:=rfl
theorem fill1_one {off:Nat} {v:Value} {cells:List Value} {K:List Value→Option (List Value)} (hv:v.cells=#[v]) (hl:off<cells.length):fill1 (some (off,1)) v cells K=K (cells.set off v):=by
  have:¬ ((#[v]:Array Value).size≠1∨off+(#[v]:Array Value).size > cells.length):=by simp;omega
  unfold fill1
  simp only [hv]
  rw [if_neg this]
  congr 1
  unfold spliceA
  rw [List.set_eq_take_append_cons_drop,if_pos hl]
  simp
theorem fill1_int {off:Nat} {n:Int} {cells:List Value} {K:List Value→Option (List Value)} (hl:off<cells.length):fill1 (some (off,1)) (.int k n) cells K=K (cells.set off (.int k n)):=fill1_one rfl hl
theorem fill1_ptr {off:Nat} {c:Option Addr} {cells:List Value} {K:List Value→Option (List Value)} (hl:off<cells.length):fill1 (some (off,1)) (.pointer c) cells K=K (cells.set off (.pointer c)):=fill1_one rfl hl
theorem fill1_slice {off n c:Nat} {d:Option Addr} {cells:List Value} {K:List Value→Option (List Value)} (hl:off<cells.length):fill1 (some (off,1)) (.slice d n c) cells K=K (cells.set off (.slice d n c)):=fill1_one rfl hl
theorem fill1_func {off:Nat} {fn:Fn} {xs ys:Array Value} {cells:List Value} {K:List Value→Option (List Value)} (hl:off<cells.length):fill1 (some (off,1)) (.func fn xs ys) cells K=K (cells.set off (.func fn xs ys)):=fill1_one rfl hl
theorem c_static {f:FuncId} {args:Array Operand} {ats:Array TypeId}:callA P e (.call { callee:=.value (.func f),args:=args,argTypes:=ats })=(match e (.func f) with|.func (.func g) xs ys=>some (g,xs++args.map e++ys)|.func (.method name) xs _=>(match xs.toList with|[.iface t (.pointer p)]=>(match methA P t name with|some g=>some (g,#[.pointer p]++args.map e)|none=>none)|_=>none)|_=>none):=rfl
def callV (P:Program) (f:Value) (args:Array Value):Option (FuncId × Array Value):=match f with
  | .func (.func g) xs ys=>some (g,xs++args++ys)
  | .func (.method name) xs _=>(match xs.toList with
    | [.iface t (.pointer p)]=>(match methA P t name with|some g=>some (g,#[.pointer p]++args)|none=>none)
    | _=>none)
  | _=>none
theorem c_value {f:Operand} {args:Array Operand} {ats:Array TypeId}:callA P e (.call { callee:=.value f,args:=args,argTypes:=ats })=callV P (e f) (args.map e):=by
  unfold callA callV
  rfl
theorem call_func {g:FuncId} {xs ys args:Array Value}:callV P (.func (.func g) xs ys) args=some (g,xs++args++ys):=rfl
theorem call_meth {name:String} {k:Nat} {ys args:Array Value}:callV P (.func (.method name) #[prtV k] ys) args=(match methA P 68 name with|some f=>some (f,#[hndV k]++args)|none=>none):=rfl
def invokeV (P:Program) (r:Value) (name:String) (args:Array Value):Option (FuncId × Array Value):=match r with
  | .iface t (.pointer p)=>(match methA P t name with|some f=>some (f,#[.pointer p]++args)|none=>none)
  | _=>none
theorem c_invoke {r:Operand} {name:String} {args:Array Operand} {ats:Array TypeId}:callA P e (.call { callee:=.invoke r name,args:=args,argTypes:=ats })=invokeV P (e r) name (args.map e):=by
  unfold callA invokeV
  rfl
theorem i_prt {k:Nat} {name:String} {args:Array Value}:invokeV P (prtV k) name args=(match methA P 68 name with|some f=>some (f,#[hndV k]++args)|none=>none):=rfl
theorem n_prt {k:Nat} {name:String}:nilCheckA P (.func (.method name) #[prtV k] #[])=(match methA P 68 name with|some _=>some (.func (.method name) #[prtV k] #[])|none=>none):=rfl
theorem n_ptr {a:Addr}:nilCheckA P (.pointer (some a))=some (.pointer (some a)):=rfl
theorem low_get {n0 n:Nat} (hn:n<n0):(lowH n0 h).get n=h.get n:=by
  unfold lowH
  simp [hn]
theorem wrap_i64 {n:Int} (h1:-9223372036854775808≤n) (h2:n≤9223372036854775807):IntKind.i64.wrap n=n:=IntWalk.i64_in n ⟨h1,h2⟩
end
def fnOK (P:Program) (f:FuncId):Bool:=match P.funcs[f]? with
  | some g=>goB g
  | none=>false
theorem fnOK_spec {P:Program} {f:FuncId} (h:fnOK P f=true):∃ g,P.funcs[f]?=some g∧goB g=true:=by
  unfold fnOK at h
  split at h
  · rename_i g hg;exact⟨g,hg,h⟩
  · cases h
theorem prt_clo (n c k:Nat) (h:k<c):Clo (Kn n c) (prtV k):=by
  intro F F' hs
  have:=hs (VB+k) (.inr ⟨by omega,by omega⟩)
  simp [prtV,hndV,adr,this.1,this.2.1]
theorem hnd_clo (n c k:Nat) (h:k<c):Clo (Kn n c) (hndV k):=by
  intro F F' hs
  have:=hs (VB+k) (.inr ⟨by omega,by omega⟩)
  simp [hndV,adr,this.1,this.2.1]
theorem clo0 {K:Nat→Prop}:∀ u∈(#[]:Array Value).toList,Clo K u:=fun u hu=>by cases hu
theorem clo1 {K:Nat→Prop} {a:Value} (ha:Clo K a):∀ u∈#[a].toList,Clo K u:=fun u hu=>by
  simp only [List.mem_cons,List.not_mem_nil,or_false] at hu;subst hu;exact ha
theorem clo2 {K:Nat→Prop} {a b:Value} (ha:Clo K a) (hb:Clo K b):∀ u∈#[a,b].toList,Clo K u:=fun u hu=>by
  simp only [List.mem_cons,List.not_mem_nil,or_false] at hu;rcases hu with rfl|rfl;exact ha;exact hb
theorem clo3 {K:Nat→Prop} {a b c:Value} (ha:Clo K a) (hb:Clo K b) (hc:Clo K c):∀ u∈#[a,b,c].toList,Clo K u:=fun u hu=>by
  simp only [List.mem_cons,List.not_mem_nil,or_false] at hu;rcases hu with rfl|rfl|rfl;exact ha;exact hb;exact hc
theorem clo4 {K:Nat→Prop} {a b c d:Value} (ha:Clo K a) (hb:Clo K b) (hc:Clo K c) (hd:Clo K d):∀ u∈#[a,b,c,d].toList,Clo K u:=fun u hu=>by
  simp only [List.mem_cons,List.not_mem_nil,or_false] at hu;rcases hu with rfl|rfl|rfl|rfl;exact ha;exact hb;exact hc;exact hd
theorem hand2 {c:Nat} {a b:Value} (ha:Hand c a) (hb:Hand c b):Hand c (.tuple #[a,b]):=fun F F' hs=>by
  simp only [ren_tuple,List.map_toArray,List.map_cons,List.map_nil,ha F F' hs,hb F F' hs]
theorem hhand {c k:Nat} (h:k<c):Hand c (hndV k):=hnd_hand c k h
theorem ghand {c N T:Nat}:Hand c (.agg (geoC N T)):=Hand.plain (by simp [plainB,geoC])
theorem iclo {K:Nat→Prop} {k:IntKind} {n:Int}:Clo K (.int k n):=Clo.plain rfl
theorem gclo {K:Nat→Prop} {N T:Nat}:Clo K (.agg (geoC N T)):=Clo.plain (by simp [plainB,geoC])
theorem geo_len (N T:Nat):(geoC N T).toList.length=22:=by simp [geoC]
theorem geo_size (N T:Nat):(geoC N T).size=22:=by simp [geoC]
theorem geo_all (N T:Nat):(geoC N T).toList.all cellB=true:=by simp [geoC,cellB]
theorem splice_all {l vs:List Value} (h:l.length=vs.length):spliceA l 0 vs=vs:=by simp [spliceA,h]
theorem splice_geo {l:List Value} {N T:Nat} (h:l.length=22):spliceA l 0 (geoC N T).toList=(geoC N T).toList:=splice_all (by rw [h,geo_len])
theorem splice_cons {a v:Value} {l vs:List Value}:spliceA (a::l) 0 (v::vs)=v::spliceA l 0 vs:=by
  unfold spliceA
  rw [show 0+(v::vs).length=(0+vs.length)+1 by simp]
  rfl
theorem splice_nil {l:List Value}:spliceA l 0 []=l:=by simp [spliceA]
theorem cellB_int (k:IntKind) (n:Int):cellB (.int k n)=true:=rfl
theorem cellB_bool (b:Bool):cellB (.bool b)=true:=rfl
theorem cellB_ptr (a:Option Addr):cellB (.pointer a)=true:=rfl
theorem cellB_slice (a:Option Addr) (n c:Nat):cellB (.slice a n c)=true:=rfl
theorem cellB_iface (t:TypeId) (v:Value):cellB (.iface t v)=true:=rfl
theorem cellB_func (fn:Fn) (xs ys:Array Value):cellB (.func fn xs ys)=true:=rfl
theorem cellB_hnd (k:Nat):cellB (hndV k)=true:=rfl
theorem cellB_prt (k:Nat):cellB (prtV k)=true:=rfl
theorem cellB_ni:cellB .nilIface=true:=rfl
theorem cellB_nf:cellB .nilFunc=true:=rfl
theorem cells_agg (cs:Array Value):(Value.agg cs).cells=cs:=rfl
theorem cells_int (k:IntKind) (n:Int):(Value.int k n).cells=#[.int k n]:=rfl
theorem cells_bool (b:Bool):(Value.bool b).cells=#[.bool b]:=rfl
theorem cells_ptr (a:Option Addr):(Value.pointer a).cells=#[.pointer a]:=rfl
theorem cells_slice (a:Option Addr) (n c:Nat):(Value.slice a n c).cells=#[.slice a n c]:=rfl
theorem cells_iface (t:TypeId) (v:Value):(Value.iface t v).cells=#[.iface t v]:=rfl
theorem cells_func (fn:Fn) (xs ys:Array Value):(Value.func fn xs ys).cells=#[.func fn xs ys]:=rfl
theorem cells_prt (k:Nat):(prtV k).cells=#[prtV k]:=rfl
theorem cells_hnd (k:Nat):(hndV k).cells=#[hndV k]:=rfl
section
variable {P:Program} {σ:Type} {X:Face P σ} {fn:Func} {A:Conf σ→Prop} {ops:Array Oper} {k:List Item} {i:Nat} {tmps:List Value} {h:AHeap} {S:σ} {o:Oper} {n0:Nat} {W:List Nat} {hf:AHeap} {Kf:List Value→AHeap→σ→Prop} {born:List (Nat × Nat)}
def ctl2:List Item→Option (List Item)
  | .code .skip::k|.code (.label _)::k|.inBlock _::k=>some k
  | .code (.seq a b)::k=>some (.code a::.code b::k)
  | .code (.block id b)::k=>some (.code b::.inBlock id::k)
  | .code (.exit id)::k=>exitTo id k
  | .code (.goto l)::k=>gotoIn l k
  | .inRegion _ []::k=>some k
  | .code (.scope b)::k=>some (.code b::.inScope b::k)
  | .inScope _::k=>some k
  | _=>none
theorem ctl_of {l l':List Item} (hc:ctl2 l=some l'):ctl tmps l=some l':=by
  unfold ctl2 at hc
  split at hc<;>first|(cases hc;rfl)|exact hc|cases hc
theorem Goes.ctl2 {todo todo':List Item} (hc:Go.Proofs.Ytkjnamhgemidkaa.ctl2 todo=some todo') (hk:Goes X fn A (.run todo' tmps h S)):Goes X fn A (.run todo tmps h S):=.ctl (ctl_of hc) hk
theorem Goes.yes {c:Operand} {x y:Code} (hc:evA tmps c=.bool true) (hk:Goes X fn A (.run (.code x::k) tmps h S)):Goes X fn A (.run (.code (.cond c x y)::k) tmps h S) :=
  .cond hc (fun _=>hk) (fun h=>by cases h)
theorem Goes.no {c:Operand} {x y:Code} (hc:evA tmps c=.bool false) (hk:Goes X fn A (.run (.code y::k) tmps h S)):Goes X fn A (.run (.code (.cond c x y)::k) tmps h S) :=
  .cond hc (fun h=>by cases h) (fun _=>hk)
theorem Goes.loop {b:Code} (hk:Goes X fn A (.run (.code b::.inLoop b::k) tmps h S)):Goes X fn A (.run (.code (.loop b)::k) tmps h S):=.ctl rfl hk
theorem Goes.inLoop {b:Code} (hk:Goes X fn A (.run (.code b::.inLoop b::k) tmps h S)):Goes X fn A (.run (.inLoop b::k) tmps h S):=.ctl rfl hk
theorem At.prim2 (ho:ops.toList[i]?=some o) (hw:Region.wanted o (yieldedL ops tmps)=true) (hb:opOK o.op=true)
    (hk:∀ K:List Value→σ→Prop,(∀ t S',At X fn A ops k (i+1) t h S'→K t S')→CallK (fun f args=>fnOK P f=true∧∃ v S',X.prim f args S v S'∧K (putL o.dst v tmps) S') (callA P (evA tmps) o.op)):At X fn A ops k i tmps h S:=by
  have:=hk _ fun _ _ h=>h
  cases hv:callA P (evA tmps) o.op with
  | none=>rw [hv] at this;exact this.elim
  | some x =>
    obtain⟨f,args⟩:=x
    rw [hv] at this
    obtain⟨hf,hr⟩:=this
    obtain⟨g,h1,h2⟩:=fnOK_spec hf
    exact At.prim (g:=g) (at_list ho) hw (opOK_all hb) (by rw [hv];exact⟨h1,h2,hr⟩)
theorem At.call2 (ho:ops.toList[i]?=some o) (hw:Region.wanted o (yieldedL ops tmps)=true) (hb:opOK o.op=true)
    (hk:∀ K:List Value→σ→Prop,(∀ t S',At X fn A ops k (i+1) t h S'→K t S')→CallK (fun f args=>∃ v S',Does X f args [] S v S'∧K (putL o.dst v tmps) S') (callA P (evA tmps) o.op)):At X fn A ops k i tmps h S :=
  At.call (at_list ho) hw (opOK_all hb) (hk _ fun _ _ h=>h)
theorem RG.prim2 (hl:h.Low) (ho:ops.toList[i]?=some o) (hw:Region.wanted o (yieldedL ops tmps)=true) (hb:opOK o.op=true) (hq:wrB W i o=false)
    (hk:∀ K:List Value→σ→Prop,(∀ t S',RGF X W ops n0 hf Kf (i+1) t h S' born→K t S')→CallK (fun f args=>fnOK P f=true∧∃ v S',X.prim f args S v S'∧K (putL o.dst v tmps) S') (callA P (evA tmps) o.op)) (hnf:farB W i=false:=by rfl):RGF X W ops n0 hf Kf i tmps h S born:=by
  have:=hk _ fun _ _ h=>h
  cases hv:callA P (evA tmps) o.op with
  | none=>rw [hv] at this;exact this.elim
  | some x =>
    obtain⟨f,args⟩:=x
    rw [hv] at this
    obtain⟨hf,hr⟩:=this
    obtain⟨g,h1,h2⟩:=fnOK_spec hf
    exact RG.prim (g:=g) hl (at_list ho) hw (opOK_all hb) hq (by rw [hv];exact⟨h1,h2,hr⟩) hnf
theorem RG.call2 (hl:h.Low) (ho:ops.toList[i]?=some o) (hw:Region.wanted o (yieldedL ops tmps)=true) (hb:opOK o.op=true) (hq:wrB W i o=false)
    (hk:∀ K:List Value→σ→Prop,(∀ t S',RGF X W ops n0 hf Kf (i+1) t h S' born→K t S')→CallK (fun f args=>∃ v S',Does X f args [] S v S'∧K (putL o.dst v tmps) S') (callA P (evA tmps) o.op)) (hnf:farB W i=false:=by rfl):RGF X W ops n0 hf Kf i tmps h S born :=
  RG.call hl (at_list ho) hw (opOK_all hb) hq (hk _ fun _ _ h=>h) hnf
end
attribute [go_sem] OpK NewK StoreK CallK ev_tmp ev_const ev_func put_some put_none v_move v_assign v_bin v_un v_convert v_field v_index v_makeFunc v_nilCheck v_fieldAddr v_indexAddr v_load load_ptr v_pick pick_true pick_false v_extract extract_tuple b_add b_sub b_mul b_rem b_eql b_neq b_lss b_leq b_gtr b_geq b_not b_neg c_value call_func call_meth c_invoke i_prt n_prt n_ptr low_get wrap_i64 heapL_addO heapL_putO heapL_put Option.join_some heapL_get heapL_next geo_len geo_size geo_all splice_geo cells_agg cells_int cells_bool cells_ptr cells_slice cells_iface cells_func cells_prt cells_hnd List.getElem?_cons_zero List.getElem?_cons_succ Array.toArray_toList if_true if_false List.getElem?_toArray List.length_cons List.length_nil List.map_toArray List.map_cons List.map_nil List.append_toArray List.cons_append List.nil_append true_and List.getD_cons_zero List.getD_cons_succ List.set_cons_zero List.set_cons_succ newA convertA fieldAddrA indexAddrA fieldA indexA partA lenA storeOp storeA loadA_eq loadR_cell Int.toNat_natCast
attribute [go_sem high] loadR_all
attribute [go_sem] v_iface iface_prt eq_self and_false false_and List.drop_succ_cons List.drop_zero List.take_succ_cons List.take_zero splice_cons splice_nil cellB_int cellB_bool cellB_ptr cellB_slice cellB_iface cellB_func cellB_hnd cellB_prt cellB_ni cellB_nf List.size_toArray List.all_cons List.all_nil Bool.and_true cast0 cast1 Int.cast_ofNat_Int decide_true decide_false b_eqp b_nep b_eqh b_eqb cond_true cond_false Option.isNone_some Option.isNone_none Bool.not_true Bool.not_false v_len v_build v_slice buildA fill_cons fill_nil fill1_int fill1_ptr fill1_slice fill1_func zerosL Option.map_some
attribute [go_sem] and_true Nat.le_refl Nat.zero_add
attribute [go_sem_proc] Nat.reduceLT Nat.reduceGT Nat.reduceEqDiff Int.reduceNatCast Int.reduceEq Int.reduceNe Nat.reduceDiv Nat.reduceMod Int.reduceTDiv Int.reduceTMod Nat.reduceAdd Nat.reduceLeDiff Nat.reduceMul Nat.reduceSub Int.reduceLE Int.reduceLT Int.reduceToNat Int.reduceAdd Int.reduceSub Int.reduceMul Int.reduceBEq Int.reduceBNe Int.reduceNeg
theorem Try.eql7 (y:Operand) (a0 b0:Int) (a1 b1:Int) (a2 b2:Bool) (a3 b3:Int):binOpA Try.prog .eql 7 y (.agg #[.int .i64 a0,.int .i64 a1,.bool a2,.int .u8 a3]) (.agg #[.int .i64 b0,.int .i64 b1,.bool b2,.int .u8 b3])=some (.bool (a0==b0 && (a1==b1 && (a2==b2 && (a3==b3 && true))))):=by kernel_rfl
theorem Try.neq7 (y:Operand) (a0 b0:Int) (a1 b1:Int) (a2 b2:Bool) (a3 b3:Int):binOpA Try.prog .neq 7 y (.agg #[.int .i64 a0,.int .i64 a1,.bool a2,.int .u8 a3]) (.agg #[.int .i64 b0,.int .i64 b1,.bool b2,.int .u8 b3])=some (.bool !(a0==b0 && (a1==b1 && (a2==b2 && (a3==b3 && true))))):=by kernel_rfl
theorem Try.eql8 (y:Operand) (a0 b0:Int) (a1 b1:Int) (a2 b2:Bool) (a3 b3:Int):binOpA Try.prog .eql 8 y (.agg #[.int .i64 a0,.int .i64 a1,.bool a2,.int .u8 a3]) (.agg #[.int .i64 b0,.int .i64 b1,.bool b2,.int .u8 b3])=some (.bool (a0==b0 && (a1==b1 && (a2==b2 && (a3==b3 && true))))):=by kernel_rfl
theorem Try.neq8 (y:Operand) (a0 b0:Int) (a1 b1:Int) (a2 b2:Bool) (a3 b3:Int):binOpA Try.prog .neq 8 y (.agg #[.int .i64 a0,.int .i64 a1,.bool a2,.int .u8 a3]) (.agg #[.int .i64 b0,.int .i64 b1,.bool b2,.int .u8 b3])=some (.bool !(a0==b0 && (a1==b1 && (a2==b2 && (a3==b3 && true))))):=by kernel_rfl
theorem Try.eql35 (y:Operand) (a0 b0:Int) (a1 b1:Int) (a2 b2:Int) (a3 b3:Int):binOpA Try.prog .eql 35 y (.agg #[.int .u8 a0,.int .i64 a1,.int .u64 a2,.int .u64 a3]) (.agg #[.int .u8 b0,.int .i64 b1,.int .u64 b2,.int .u64 b3])=some (.bool (a0==b0 && (a1==b1 && (a2==b2 && (a3==b3 && true))))):=by kernel_rfl
theorem Try.neq35 (y:Operand) (a0 b0:Int) (a1 b1:Int) (a2 b2:Int) (a3 b3:Int):binOpA Try.prog .neq 35 y (.agg #[.int .u8 a0,.int .i64 a1,.int .u64 a2,.int .u64 a3]) (.agg #[.int .u8 b0,.int .i64 b1,.int .u64 b2,.int .u64 b3])=some (.bool !(a0==b0 && (a1==b1 && (a2==b2 && (a3==b3 && true))))):=by kernel_rfl
theorem Try.eql36 (y:Operand) (a0 b0:Int) (a1 b1:Int) (a2 b2:Int) (a3 b3:Int):binOpA Try.prog .eql 36 y (.agg #[.int .u8 a0,.int .i64 a1,.int .u64 a2,.int .u64 a3]) (.agg #[.int .u8 b0,.int .i64 b1,.int .u64 b2,.int .u64 b3])=some (.bool (a0==b0 && (a1==b1 && (a2==b2 && (a3==b3 && true))))):=by kernel_rfl
theorem Try.neq36 (y:Operand) (a0 b0:Int) (a1 b1:Int) (a2 b2:Int) (a3 b3:Int):binOpA Try.prog .neq 36 y (.agg #[.int .u8 a0,.int .i64 a1,.int .u64 a2,.int .u64 a3]) (.agg #[.int .u8 b0,.int .i64 b1,.int .u64 b2,.int .u64 b3])=some (.bool !(a0==b0 && (a1==b1 && (a2==b2 && (a3==b3 && true))))):=by kernel_rfl
theorem Try.eql44 (y:Operand) (a0 b0:Int) (a1 b1:Int) (a2 b2:Int) (a3 b3:Int) (a4 b4:Int):binOpA Try.prog .eql 44 y (.agg #[.int .u64 a0,.int .u64 a1,.int .u64 a2,.int .u64 a3,.int .u64 a4]) (.agg #[.int .u64 b0,.int .u64 b1,.int .u64 b2,.int .u64 b3,.int .u64 b4])=some (.bool (a0==b0 && (a1==b1 && (a2==b2 && (a3==b3 && (a4==b4 && true)))))):=by kernel_rfl
theorem Try.neq44 (y:Operand) (a0 b0:Int) (a1 b1:Int) (a2 b2:Int) (a3 b3:Int) (a4 b4:Int):binOpA Try.prog .neq 44 y (.agg #[.int .u64 a0,.int .u64 a1,.int .u64 a2,.int .u64 a3,.int .u64 a4]) (.agg #[.int .u64 b0,.int .u64 b1,.int .u64 b2,.int .u64 b3,.int .u64 b4])=some (.bool !(a0==b0 && (a1==b1 && (a2==b2 && (a3==b3 && (a4==b4 && true)))))):=by kernel_rfl
theorem Try.eql45 (y:Operand) (a0 b0:Int) (a1 b1:Int) (a2 b2:Int) (a3 b3:Int) (a4 b4:Int):binOpA Try.prog .eql 45 y (.agg #[.int .u64 a0,.int .u64 a1,.int .u64 a2,.int .u64 a3,.int .u64 a4]) (.agg #[.int .u64 b0,.int .u64 b1,.int .u64 b2,.int .u64 b3,.int .u64 b4])=some (.bool (a0==b0 && (a1==b1 && (a2==b2 && (a3==b3 && (a4==b4 && true)))))):=by kernel_rfl
theorem Try.neq45 (y:Operand) (a0 b0:Int) (a1 b1:Int) (a2 b2:Int) (a3 b3:Int) (a4 b4:Int):binOpA Try.prog .neq 45 y (.agg #[.int .u64 a0,.int .u64 a1,.int .u64 a2,.int .u64 a3,.int .u64 a4]) (.agg #[.int .u64 b0,.int .u64 b1,.int .u64 b2,.int .u64 b3,.int .u64 b4])=some (.bool !(a0==b0 && (a1==b1 && (a2==b2 && (a3==b3 && (a4==b4 && true)))))):=by kernel_rfl
theorem Try.eql82 (y:Operand) (a0 b0:Int) (a1 b1:Int) (a2 b2:Int):binOpA Try.prog .eql 82 y (.agg #[.int .u8 a0,.int .i64 a1,.int .i64 a2]) (.agg #[.int .u8 b0,.int .i64 b1,.int .i64 b2])=some (.bool (a0==b0 && (a1==b1 && (a2==b2 && true)))):=by kernel_rfl
theorem Try.neq82 (y:Operand) (a0 b0:Int) (a1 b1:Int) (a2 b2:Int):binOpA Try.prog .neq 82 y (.agg #[.int .u8 a0,.int .i64 a1,.int .i64 a2]) (.agg #[.int .u8 b0,.int .i64 b1,.int .i64 b2])=some (.bool !(a0==b0 && (a1==b1 && (a2==b2 && true)))):=by kernel_rfl
theorem Try.eql83 (y:Operand) (a0 b0:Int) (a1 b1:Int) (a2 b2:Int):binOpA Try.prog .eql 83 y (.agg #[.int .u8 a0,.int .i64 a1,.int .i64 a2]) (.agg #[.int .u8 b0,.int .i64 b1,.int .i64 b2])=some (.bool (a0==b0 && (a1==b1 && (a2==b2 && true)))):=by kernel_rfl
theorem Try.neq83 (y:Operand) (a0 b0:Int) (a1 b1:Int) (a2 b2:Int):binOpA Try.prog .neq 83 y (.agg #[.int .u8 a0,.int .i64 a1,.int .i64 a2]) (.agg #[.int .u8 b0,.int .i64 b1,.int .i64 b2])=some (.bool !(a0==b0 && (a1==b1 && (a2==b2 && true)))):=by kernel_rfl
theorem Try.eql148 (y:Operand) (a0 b0:Int) (a1 b1:Int):binOpA Try.prog .eql 148 y (.agg #[.int .i64 a0,.int .i64 a1]) (.agg #[.int .i64 b0,.int .i64 b1])=some (.bool (a0==b0 && (a1==b1 && true))):=by kernel_rfl
theorem Try.neq148 (y:Operand) (a0 b0:Int) (a1 b1:Int):binOpA Try.prog .neq 148 y (.agg #[.int .i64 a0,.int .i64 a1]) (.agg #[.int .i64 b0,.int .i64 b1])=some (.bool !(a0==b0 && (a1==b1 && true))):=by kernel_rfl
theorem Try.eql149 (y:Operand) (a0 b0:Int) (a1 b1:Int):binOpA Try.prog .eql 149 y (.agg #[.int .i64 a0,.int .i64 a1]) (.agg #[.int .i64 b0,.int .i64 b1])=some (.bool (a0==b0 && (a1==b1 && true))):=by kernel_rfl
theorem Try.neq149 (y:Operand) (a0 b0:Int) (a1 b1:Int):binOpA Try.prog .neq 149 y (.agg #[.int .i64 a0,.int .i64 a1]) (.agg #[.int .i64 b0,.int .i64 b1])=some (.bool !(a0==b0 && (a1==b1 && true))):=by kernel_rfl
theorem Try.ty0 :
  tyAgg Try.prog 2=some false ∧
  tySize Try.prog 2=some 1 ∧
  tyMk Try.prog 2=true ∧
  tyBytes Try.prog 2=some 8 ∧
  tyZero Try.prog 2=some (.int .i64 0) ∧
  plainB (.int .i64 0)=true ∧
  tyAgg Try.prog 3=some false ∧
  tySize Try.prog 3=some 1 ∧
  tyMk Try.prog 3=true ∧
  tyBytes Try.prog 3=some 8 ∧
  tyZero Try.prog 3=some (.int .i64 0) ∧
  tyAgg Try.prog 4=some false ∧
  tySize Try.prog 4=some 1 ∧
  tyMk Try.prog 4=true ∧
  tyBool Try.prog 4=true ∧
  tyBytes Try.prog 4=some 1 ∧
  tyZero Try.prog 4=some (.bool false) ∧
  plainB (.bool false)=true ∧
  tyAgg Try.prog 5=some false ∧
  tySize Try.prog 5=some 1 ∧
  tyMk Try.prog 5=true ∧
  tyBytes Try.prog 5=some 1 ∧
  tyZero Try.prog 5=some (.int .u8 0) ∧
  plainB (.int .u8 0)=true:=by (repeat' apply And.intro)<;>kernel_rfl
theorem Try.ty2 :
  tyBytes Try.prog 8=some 24 ∧
  tyZero Try.prog 8=some (.agg #[.int .i64 0,.int .i64 0,.bool false,.int .u8 0]) ∧
  tyAgg Try.prog 9=some false ∧
  tySize Try.prog 9=some 1 ∧
  tyMk Try.prog 9=true ∧
  tyBytes Try.prog 9=some 16 ∧
  tyZero Try.prog 9=some (.string ⟨#[]⟩) ∧
  plainB (.string ⟨#[]⟩)=true ∧
  tyAgg Try.prog 10=some false ∧
  tySize Try.prog 10=some 1 ∧
  tyBytes Try.prog 10=some 16 ∧
  tyZero Try.prog 10=some (.string ⟨#[]⟩) ∧
  tyAgg Try.prog 11=some false ∧
  tySize Try.prog 11=some 1 ∧
  tyBytes Try.prog 11=some 16 ∧
  tyZero Try.prog 11=some (.string ⟨#[]⟩) ∧
  tyAgg Try.prog 12=some false ∧
  tySize Try.prog 12=some 1 ∧
  tyMk Try.prog 12=true ∧
  tyBytes Try.prog 12=some 8 ∧
  tyZero Try.prog 12=some (.int .u64 0) ∧
  plainB (.int .u64 0)=true ∧
  tyAgg Try.prog 13=some true ∧
  tySize Try.prog 13=some 2:=by (repeat' apply And.intro)<;>kernel_rfl
theorem Try.ty5 :
  tySize Try.prog 19=some 1 ∧
  tyField Try.prog 19 0=some (0,17) ∧
  (tyPlace Try.prog 19=some fun i=>([(0,1)]:List (Nat × Nat))[i]?) ∧
  tyMk Try.prog 19=true ∧
  tyBytes Try.prog 19=some 8 ∧
  tyZero Try.prog 19=some (.agg #[.pointer none]) ∧
  tyAgg Try.prog 20=some false ∧
  tySize Try.prog 20=some 1 ∧
  tyIfc Try.prog 20=true ∧
  tyBytes Try.prog 20=some 16 ∧
  tyZero Try.prog 20=some (.nilIface) ∧
  plainB (.nilIface)=true ∧
  tyAgg Try.prog 21=some false ∧
  tySize Try.prog 21=some 1 ∧
  tyMk Try.prog 21=true ∧
  tyBytes Try.prog 21=some 4 ∧
  tyZero Try.prog 21=some (.int .i32 0) ∧
  plainB (.int .i32 0)=true ∧
  tyAgg Try.prog 22=some false ∧
  tySize Try.prog 22=some 1 ∧
  tyMk Try.prog 22=true ∧
  tyPtr Try.prog 22=true ∧
  tyBytes Try.prog 22=some 8 ∧
  tyZero Try.prog 22=some (.pointer none):=by (repeat' apply And.intro)<;>kernel_rfl
theorem Try.ty6 :
  methA Try.prog 22 "Busy" = some 20 ∧
  methA Try.prog 22 "Close" = some 22 ∧
  methA Try.prog 22 "Grant" = some 18 ∧
  methA Try.prog 22 "Pending" = some 29 ∧
  methA Try.prog 22 "Start" = some 17 ∧
  methA Try.prog 22 "Steps" = some 27 ∧
  methA Try.prog 22 "Told" = some 33 ∧
  tyAgg Try.prog 24=some false ∧
  tySize Try.prog 24=some 1 ∧
  tyIfc Try.prog 24=true ∧
  tyBytes Try.prog 24=some 16 ∧
  tyZero Try.prog 24=some (.nilIface) ∧
  tyAgg Try.prog 25=some false ∧
  tySize Try.prog 25=some 1 ∧
  tyIfc Try.prog 25=true ∧
  tyBytes Try.prog 25=some 16 ∧
  tyZero Try.prog 25=some (.nilIface) ∧
  tyAgg Try.prog 26=some false ∧
  tySize Try.prog 26=some 1 ∧
  tyMk Try.prog 26=true ∧
  tyBytes Try.prog 26=some 8 ∧
  tyZero Try.prog 26=some (.int .u64 0) ∧
  tyAgg Try.prog 34=some false ∧
  tySize Try.prog 34=some 1:=by (repeat' apply And.intro)<;>kernel_rfl
theorem Try.ty7 :
  tySli Try.prog 34=true ∧
  tyBytes Try.prog 34=some 24 ∧
  tySlice Try.prog 34=some 36 ∧
  tyZero Try.prog 34=some (.slice none 0 0) ∧
  plainB (.slice none 0 0)=true ∧
  tyAgg Try.prog 35=some true ∧
  tySize Try.prog 35=some 4 ∧
  tyField Try.prog 35 0=some (0,5) ∧
  tyField Try.prog 35 1=some (1,3) ∧
  tyField Try.prog 35 2=some (2,26) ∧
  tyField Try.prog 35 3=some (3,26) ∧
  (tyPlace Try.prog 35=some fun i=>([(0,1),(1,1),(2,1),(3,1)]:List (Nat × Nat))[i]?) ∧
  tyMk Try.prog 35=true ∧
  tyBytes Try.prog 35=some 32 ∧
  tyZero Try.prog 35=some (.agg #[.int .u8 0,.int .i64 0,.int .u64 0,.int .u64 0]) ∧
  plainB (.agg #[.int .u8 0,.int .i64 0,.int .u64 0,.int .u64 0])=true ∧
  tyAgg Try.prog 36=some true ∧
  tySize Try.prog 36=some 4 ∧
  tyField Try.prog 36 0=some (0,5) ∧
  tyField Try.prog 36 1=some (1,3) ∧
  tyField Try.prog 36 2=some (2,26) ∧
  tyField Try.prog 36 3=some (3,26) ∧
  (tyPlace Try.prog 36=some fun i=>([(0,1),(1,1),(2,1),(3,1)]:List (Nat × Nat))[i]?) ∧
  tyMk Try.prog 36=true:=by (repeat' apply And.intro)<;>kernel_rfl
theorem Try.ty8 :
  tyBytes Try.prog 36=some 32 ∧
  tyZero Try.prog 36=some (.agg #[.int .u8 0,.int .i64 0,.int .u64 0,.int .u64 0]) ∧
  tyAgg Try.prog 44=some true ∧
  tySize Try.prog 44=some 5 ∧
  tyField Try.prog 44 0=some (0,26) ∧
  tyField Try.prog 44 1=some (1,26) ∧
  tyField Try.prog 44 2=some (2,26) ∧
  tyField Try.prog 44 3=some (3,26) ∧
  tyField Try.prog 44 4=some (4,26) ∧
  (tyPlace Try.prog 44=some fun i=>([(0,1),(1,1),(2,1),(3,1),(4,1)]:List (Nat × Nat))[i]?) ∧
  tyMk Try.prog 44=true ∧
  tyBytes Try.prog 44=some 40 ∧
  tyZero Try.prog 44=some (.agg #[.int .u64 0,.int .u64 0,.int .u64 0,.int .u64 0,.int .u64 0]) ∧
  plainB (.agg #[.int .u64 0,.int .u64 0,.int .u64 0,.int .u64 0,.int .u64 0])=true ∧
  tyAgg Try.prog 45=some true ∧
  tySize Try.prog 45=some 5 ∧
  tyField Try.prog 45 0=some (0,26) ∧
  tyField Try.prog 45 1=some (1,26) ∧
  tyField Try.prog 45 2=some (2,26) ∧
  tyField Try.prog 45 3=some (3,26) ∧
  tyField Try.prog 45 4=some (4,26) ∧
  (tyPlace Try.prog 45=some fun i=>([(0,1),(1,1),(2,1),(3,1),(4,1)]:List (Nat × Nat))[i]?) ∧
  tyMk Try.prog 45=true ∧
  tyBytes Try.prog 45=some 40:=by (repeat' apply And.intro)<;>kernel_rfl
theorem Try.ty10 :
  tyField Try.prog 48 2=some (2,5) ∧
  tyField Try.prog 48 3=some (3,45) ∧
  tyField Try.prog 48 4=some (8,46) ∧
  tyField Try.prog 48 5=some (9,3) ∧
  tyField Try.prog 48 6=some (10,3) ∧
  (tyPlace Try.prog 48=some fun i=>([(0,1),(1,1),(2,1),(3,5),(8,1),(9,1),(10,1)]:List (Nat × Nat))[i]?) ∧
  tyMk Try.prog 48=true ∧
  tyBytes Try.prog 48=some 88 ∧
  tyZero Try.prog 48=some (.agg #[.int .i64 0,.int .i64 0,.int .u8 0,.int .u64 0,.int .u64 0,.int .u64 0,.int .u64 0,.int .u64 0,.int .i64 0,.int .i64 0,.int .i64 0]) ∧
  tyAgg Try.prog 51=some false ∧
  tySize Try.prog 51=some 1 ∧
  tySli Try.prog 51=true ∧
  tyBytes Try.prog 51=some 24 ∧
  tySlice Try.prog 51=some 34 ∧
  tyZero Try.prog 51=some (.slice none 0 0) ∧
  tyAgg Try.prog 52=some false ∧
  tySize Try.prog 52=some 1 ∧
  tySli Try.prog 52=true ∧
  tyBytes Try.prog 52=some 24 ∧
  tySlice Try.prog 52=some 5 ∧
  tyZero Try.prog 52=some (.slice none 0 0) ∧
  tyAgg Try.prog 53=some false ∧
  tySize Try.prog 53=some 1 ∧
  tySli Try.prog 53=true:=by (repeat' apply And.intro)<;>kernel_rfl
theorem Try.ty11 :
  tyBytes Try.prog 53=some 24 ∧
  tySlice Try.prog 53=some 26 ∧
  tyZero Try.prog 53=some (.slice none 0 0) ∧
  tyAgg Try.prog 54=some true ∧
  tySize Try.prog 54=some 2 ∧
  tyField Try.prog 54 0=some (0,53) ∧
  tyField Try.prog 54 1=some (1,52) ∧
  (tyPlace Try.prog 54=some fun i=>([(0,1),(1,1)]:List (Nat × Nat))[i]?) ∧
  tyMk Try.prog 54=true ∧
  tyBytes Try.prog 54=some 48 ∧
  tyZero Try.prog 54=some (.agg #[.slice none 0 0,.slice none 0 0]) ∧
  plainB (.agg #[.slice none 0 0,.slice none 0 0])=true ∧
  tyAgg Try.prog 55=some true ∧
  tySize Try.prog 55=some 2 ∧
  tyField Try.prog 55 0=some (0,53) ∧
  tyField Try.prog 55 1=some (1,52) ∧
  (tyPlace Try.prog 55=some fun i=>([(0,1),(1,1)]:List (Nat × Nat))[i]?) ∧
  tyMk Try.prog 55=true ∧
  tyBytes Try.prog 55=some 48 ∧
  tyZero Try.prog 55=some (.agg #[.slice none 0 0,.slice none 0 0]) ∧
  tyAgg Try.prog 56=some false ∧
  tySize Try.prog 56=some 1 ∧
  tySli Try.prog 56=true ∧
  tyBytes Try.prog 56=some 24:=by (repeat' apply And.intro)<;>kernel_rfl
theorem Try.ty12 :
  tySlice Try.prog 56=some 53 ∧
  tyZero Try.prog 56=some (.slice none 0 0) ∧
  tyAgg Try.prog 59=some false ∧
  tySize Try.prog 59=some 1 ∧
  tyMk Try.prog 59=true ∧
  tyPtr Try.prog 59=true ∧
  tyBytes Try.prog 59=some 8 ∧
  tyZero Try.prog 59=some (.pointer none) ∧
  methA Try.prog 59 "Bytes" = some 81 ∧
  methA Try.prog 59 "Do" = some 39 ∧
  methA Try.prog 59 "Word" = some 57 ∧
  methA Try.prog 59 "Words" = some 79 ∧
  tyAgg Try.prog 61=some false ∧
  tySize Try.prog 61=some 1 ∧
  tySli Try.prog 61=true ∧
  tyBytes Try.prog 61=some 24 ∧
  tySlice Try.prog 61=some 22 ∧
  tyZero Try.prog 61=some (.slice none 0 0) ∧
  tyAgg Try.prog 63=some false ∧
  tySize Try.prog 63=some 1 ∧
  tyMk Try.prog 63=true ∧
  tyPtr Try.prog 63=true ∧
  tyBytes Try.prog 63=some 8 ∧
  tyZero Try.prog 63=some (.pointer none):=by (repeat' apply And.intro)<;>kernel_rfl
theorem Try.ty13 :
  tyAgg Try.prog 68=some false ∧
  tySize Try.prog 68=some 1 ∧
  tyMk Try.prog 68=true ∧
  tyPtr Try.prog 68=true ∧
  tyBytes Try.prog 68=some 8 ∧
  tyZero Try.prog 68=some (.pointer none) ∧
  methA Try.prog 68 "Add" = some 118 ∧
  methA Try.prog 68 "CAS" = some 119 ∧
  methA Try.prog 68 "Fresh" = some 120 ∧
  methA Try.prog 68 "Get" = some 121 ∧
  methA Try.prog 68 "Load" = some 122 ∧
  methA Try.prog 68 "Put" = some 123 ∧
  methA Try.prog 68 "Self" = some 124 ∧
  methA Try.prog 68 "Steps" = some 44 ∧
  methA Try.prog 68 "Store" = some 125 ∧
  methA Try.prog 68 "Tell" = some 126 ∧
  methA Try.prog 68 "Told" = some 43 ∧
  tyAgg Try.prog 73=some false ∧
  tySize Try.prog 73=some 1 ∧
  tySli Try.prog 73=true ∧
  tyBytes Try.prog 73=some 24 ∧
  tySlice Try.prog 73=some 74 ∧
  tyZero Try.prog 73=some (.slice none 0 0) ∧
  tyAgg Try.prog 74=some false:=by (repeat' apply And.intro)<;>kernel_rfl
theorem Try.ty14 :
  tySize Try.prog 74=some 1 ∧
  tySli Try.prog 74=true ∧
  tyBytes Try.prog 74=some 24 ∧
  tySlice Try.prog 74=some 83 ∧
  tyZero Try.prog 74=some (.slice none 0 0) ∧
  tyAgg Try.prog 75=some true ∧
  tySize Try.prog 75=some 20 ∧
  (tyPlace Try.prog 75=some fun i=>some (i * 1,1)) ∧
  tyBytes Try.prog 75=some 160 ∧
  tyArray Try.prog 75=some (20,3) ∧
  tyZero Try.prog 75=some (.agg #[.int .i64 0,.int .i64 0,.int .i64 0,.int .i64 0,.int .i64 0,.int .i64 0,.int .i64 0,.int .i64 0,.int .i64 0,.int .i64 0,.int .i64 0,.int .i64 0,.int .i64 0,.int .i64 0,.int .i64 0,.int .i64 0,.int .i64 0,.int .i64 0,.int .i64 0,.int .i64 0]) ∧
  plainB (.agg #[.int .i64 0,.int .i64 0,.int .i64 0,.int .i64 0,.int .i64 0,.int .i64 0,.int .i64 0,.int .i64 0,.int .i64 0,.int .i64 0,.int .i64 0,.int .i64 0,.int .i64 0,.int .i64 0,.int .i64 0,.int .i64 0,.int .i64 0,.int .i64 0,.int .i64 0,.int .i64 0])=true ∧
  tyAgg Try.prog 76=some true ∧
  tySize Try.prog 76=some 22 ∧
  tyField Try.prog 76 0=some (0,3) ∧
  tyField Try.prog 76 1=some (1,3) ∧
  tyField Try.prog 76 2=some (2,75) ∧
  (tyPlace Try.prog 76=some fun i=>([(0,1),(1,1),(2,20)]:List (Nat × Nat))[i]?) ∧
  tyMk Try.prog 76=true ∧
  tyBytes Try.prog 76=some 176 ∧
  tyZero Try.prog 76=some (.agg #[.int .i64 0,.int .i64 0,.int .i64 0,.int .i64 0,.int .i64 0,.int .i64 0,.int .i64 0,.int .i64 0,.int .i64 0,.int .i64 0,.int .i64 0,.int .i64 0,.int .i64 0,.int .i64 0,.int .i64 0,.int .i64 0,.int .i64 0,.int .i64 0,.int .i64 0,.int .i64 0,.int .i64 0,.int .i64 0]) ∧
  plainB (.agg #[.int .i64 0,.int .i64 0,.int .i64 0,.int .i64 0,.int .i64 0,.int .i64 0,.int .i64 0,.int .i64 0,.int .i64 0,.int .i64 0,.int .i64 0,.int .i64 0,.int .i64 0,.int .i64 0,.int .i64 0,.int .i64 0,.int .i64 0,.int .i64 0,.int .i64 0,.int .i64 0,.int .i64 0,.int .i64 0])=true ∧
  tyAgg Try.prog 77=some true ∧
  tySize Try.prog 77=some 22:=by (repeat' apply And.intro)<;>kernel_rfl
theorem Try.ty15 :
  tyField Try.prog 77 0=some (0,3) ∧
  tyField Try.prog 77 1=some (1,3) ∧
  tyField Try.prog 77 2=some (2,75) ∧
  (tyPlace Try.prog 77=some fun i=>([(0,1),(1,1),(2,20)]:List (Nat × Nat))[i]?) ∧
  tyMk Try.prog 77=true ∧
  tyBytes Try.prog 77=some 176 ∧
  tyZero Try.prog 77=some (.agg #[.int .i64 0,.int .i64 0,.int .i64 0,.int .i64 0,.int .i64 0,.int .i64 0,.int .i64 0,.int .i64 0,.int .i64 0,.int .i64 0,.int .i64 0,.int .i64 0,.int .i64 0,.int .i64 0,.int .i64 0,.int .i64 0,.int .i64 0,.int .i64 0,.int .i64 0,.int .i64 0,.int .i64 0,.int .i64 0]) ∧
  tyAgg Try.prog 80=some false ∧
  tySize Try.prog 80=some 1 ∧
  tySli Try.prog 80=true ∧
  tyBytes Try.prog 80=some 24 ∧
  tySlice Try.prog 80=some 28 ∧
  tyZero Try.prog 80=some (.slice none 0 0) ∧
  tyAgg Try.prog 82=some true ∧
  tySize Try.prog 82=some 3 ∧
  tyField Try.prog 82 0=some (0,5) ∧
  tyField Try.prog 82 1=some (1,3) ∧
  tyField Try.prog 82 2=some (2,3) ∧
  (tyPlace Try.prog 82=some fun i=>([(0,1),(1,1),(2,1)]:List (Nat × Nat))[i]?) ∧
  tyMk Try.prog 82=true ∧
  tyBytes Try.prog 82=some 24 ∧
  tyZero Try.prog 82=some (.agg #[.int .u8 0,.int .i64 0,.int .i64 0]) ∧
  plainB (.agg #[.int .u8 0,.int .i64 0,.int .i64 0])=true ∧
  tyAgg Try.prog 83=some true:=by (repeat' apply And.intro)<;>kernel_rfl
theorem Try.ty16 :
  tySize Try.prog 83=some 3 ∧
  tyField Try.prog 83 0=some (0,5) ∧
  tyField Try.prog 83 1=some (1,3) ∧
  tyField Try.prog 83 2=some (2,3) ∧
  (tyPlace Try.prog 83=some fun i=>([(0,1),(1,1),(2,1)]:List (Nat × Nat))[i]?) ∧
  tyMk Try.prog 83=true ∧
  tyBytes Try.prog 83=some 24 ∧
  tyZero Try.prog 83=some (.agg #[.int .u8 0,.int .i64 0,.int .i64 0]) ∧
  tyAgg Try.prog 98=some false ∧
  tySize Try.prog 98=some 1 ∧
  tyBytes Try.prog 98=some 8 ∧
  tyAgg Try.prog 99=some false ∧
  tySize Try.prog 99=some 1 ∧
  tyMk Try.prog 99=true ∧
  tyPtr Try.prog 99=true ∧
  tyBytes Try.prog 99=some 8 ∧
  tyZero Try.prog 99=some (.pointer none) ∧
  methA Try.prog 99 "Add" = some 128 ∧
  methA Try.prog 99 "CAS" = some 129 ∧
  methA Try.prog 99 "Get" = some 130 ∧
  methA Try.prog 99 "Load" = some 131 ∧
  methA Try.prog 99 "Put" = some 132 ∧
  methA Try.prog 99 "Self" = some 133 ∧
  methA Try.prog 99 "Steps" = some 134 := by (repeat' apply And.intro) <;> kernel_rfl
theorem Try.ty17 :
  methA Try.prog 99 "Store" = some 135 ∧
  methA Try.prog 99 "Tell" = some 136 ∧
  tyAgg Try.prog 100=some false ∧
  tySize Try.prog 100=some 1 ∧
  tyBytes Try.prog 100=some 8 ∧
  tyAgg Try.prog 101=some false ∧
  tySize Try.prog 101=some 1 ∧
  tyMk Try.prog 101=true ∧
  tyPtr Try.prog 101=true ∧
  tyBytes Try.prog 101=some 8 ∧
  tyZero Try.prog 101=some (.pointer none) ∧
  tyAgg Try.prog 102=some true ∧
  tySize Try.prog 102=some 7 ∧
  tyField Try.prog 102 0=some (0,3) ∧
  tyField Try.prog 102 1=some (1,99) ∧
  tyField Try.prog 102 2=some (2,100) ∧
  tyField Try.prog 102 3=some (3,101) ∧
  tyField Try.prog 102 4=some (4,4) ∧
  tyField Try.prog 102 5=some (5,4) ∧
  tyField Try.prog 102 6=some (6,98) ∧
  (tyPlace Try.prog 102=some fun i=>([(0,1),(1,1),(2,1),(3,1),(4,1),(5,1),(6,1)]:List (Nat × Nat))[i]?) ∧
  tyMk Try.prog 102=true ∧
  tyBytes Try.prog 102=some 48 ∧
  tyAgg Try.prog 103=some true:=by (repeat' apply And.intro)<;>kernel_rfl
theorem Try.ty18 :
  tySize Try.prog 103=some 7 ∧
  tyField Try.prog 103 0=some (0,3) ∧
  tyField Try.prog 103 1=some (1,99) ∧
  tyField Try.prog 103 2=some (2,100) ∧
  tyField Try.prog 103 3=some (3,101) ∧
  tyField Try.prog 103 4=some (4,4) ∧
  tyField Try.prog 103 5=some (5,4) ∧
  tyField Try.prog 103 6=some (6,98) ∧
  (tyPlace Try.prog 103=some fun i=>([(0,1),(1,1),(2,1),(3,1),(4,1),(5,1),(6,1)]:List (Nat × Nat))[i]?) ∧
  tyMk Try.prog 103=true ∧
  tyBytes Try.prog 103=some 48 ∧
  tyAgg Try.prog 104=some false ∧
  tySize Try.prog 104=some 1 ∧
  tyBytes Try.prog 104=some 8 ∧
  tyAgg Try.prog 105=some false ∧
  tySize Try.prog 105=some 1 ∧
  tyBytes Try.prog 105=some 8 ∧
  tyAgg Try.prog 106=some false ∧
  tySize Try.prog 106=some 1 ∧
  tyMk Try.prog 106=true ∧
  tyPtr Try.prog 106=true ∧
  tyBytes Try.prog 106=some 8 ∧
  tyZero Try.prog 106=some (.pointer none) ∧
  tyAgg Try.prog 107=some true:=by (repeat' apply And.intro)<;>kernel_rfl
theorem Try.ty19 :
  tySize Try.prog 107=some 6 ∧
  tyField Try.prog 107 0=some (0,3) ∧
  tyField Try.prog 107 1=some (1,3) ∧
  tyField Try.prog 107 2=some (2,106) ∧
  tyField Try.prog 107 3=some (3,104) ∧
  tyField Try.prog 107 4=some (4,105) ∧
  tyField Try.prog 107 5=some (5,98) ∧
  (tyPlace Try.prog 107=some fun i=>([(0,1),(1,1),(2,1),(3,1),(4,1),(5,1)]:List (Nat × Nat))[i]?) ∧
  tyMk Try.prog 107=true ∧
  tyBytes Try.prog 107=some 48 ∧
  tyAgg Try.prog 108=some true ∧
  tySize Try.prog 108=some 6 ∧
  tyField Try.prog 108 0=some (0,3) ∧
  tyField Try.prog 108 1=some (1,3) ∧
  tyField Try.prog 108 2=some (2,106) ∧
  tyField Try.prog 108 3=some (3,104) ∧
  tyField Try.prog 108 4=some (4,105) ∧
  tyField Try.prog 108 5=some (5,98) ∧
  (tyPlace Try.prog 108=some fun i=>([(0,1),(1,1),(2,1),(3,1),(4,1),(5,1)]:List (Nat × Nat))[i]?) ∧
  tyMk Try.prog 108=true ∧
  tyBytes Try.prog 108=some 48 ∧
  tyAgg Try.prog 120=some true ∧
  tySize Try.prog 120=some 5 ∧
  (tyPlace Try.prog 120=some fun i=>some (i * 1,1)):=by (repeat' apply And.intro)<;>kernel_rfl
theorem Try.ty20 :
  tyBytes Try.prog 120=some 40 ∧
  tyArray Try.prog 120=some (5,119) ∧
  tyZero Try.prog 120=some (.agg #[.nilFunc,.nilFunc,.nilFunc,.nilFunc,.nilFunc]) ∧
  plainB (.agg #[.nilFunc,.nilFunc,.nilFunc,.nilFunc,.nilFunc])=true ∧
  tyAgg Try.prog 122=some true ∧
  tySize Try.prog 122=some 2 ∧
  tyField Try.prog 122 0=some (0,53) ∧
  tyField Try.prog 122 1=some (1,52) ∧
  (tyPlace Try.prog 122=some fun i=>([(0,1),(1,1)]:List (Nat × Nat))[i]?) ∧
  tyMk Try.prog 122=true ∧
  tyBytes Try.prog 122=some 48 ∧
  tyZero Try.prog 122=some (.agg #[.slice none 0 0,.slice none 0 0]) ∧
  tyAgg Try.prog 123=some true ∧
  tySize Try.prog 123=some 2 ∧
  tyField Try.prog 123 0=some (0,53) ∧
  tyField Try.prog 123 1=some (1,52) ∧
  (tyPlace Try.prog 123=some fun i=>([(0,1),(1,1)]:List (Nat × Nat))[i]?) ∧
  tyMk Try.prog 123=true ∧
  tyBytes Try.prog 123=some 48 ∧
  tyZero Try.prog 123=some (.agg #[.slice none 0 0,.slice none 0 0]) ∧
  tyAgg Try.prog 124=some false ∧
  tySize Try.prog 124=some 1 ∧
  tyMk Try.prog 124=true ∧
  tyPtr Try.prog 124=true:=by (repeat' apply And.intro)<;>kernel_rfl
theorem Try.ty21 :
  tyBytes Try.prog 124=some 8 ∧
  tyZero Try.prog 124=some (.pointer none) ∧
  tyAgg Try.prog 125=some true ∧
  tySize Try.prog 125=some 2 ∧
  tyField Try.prog 125 0=some (0,59) ∧
  tyField Try.prog 125 1=some (1,3) ∧
  (tyPlace Try.prog 125=some fun i=>([(0,1),(1,1)]:List (Nat × Nat))[i]?) ∧
  tyMk Try.prog 125=true ∧
  tyBytes Try.prog 125=some 16 ∧
  tyZero Try.prog 125=some (.agg #[.pointer none,.int .i64 0]) ∧
  plainB (.agg #[.pointer none,.int .i64 0])=true ∧
  tyAgg Try.prog 126=some true ∧
  tySize Try.prog 126=some 2 ∧
  tyField Try.prog 126 0=some (0,59) ∧
  tyField Try.prog 126 1=some (1,3) ∧
  (tyPlace Try.prog 126=some fun i=>([(0,1),(1,1)]:List (Nat × Nat))[i]?) ∧
  tyMk Try.prog 126=true ∧
  tyBytes Try.prog 126=some 16 ∧
  tyZero Try.prog 126=some (.agg #[.pointer none,.int .i64 0]) ∧
  tyAgg Try.prog 127=some true ∧
  tySize Try.prog 127=some 3 ∧
  tyField Try.prog 127 0=some (0,124) ∧
  tyField Try.prog 127 1=some (1,3) ∧
  tyField Try.prog 127 2=some (2,106):=by (repeat' apply And.intro)<;>kernel_rfl
theorem Try.ty22 :
  (tyPlace Try.prog 127=some fun i=>([(0,1),(1,1),(2,1)]:List (Nat × Nat))[i]?) ∧
  tyMk Try.prog 127=true ∧
  tyBytes Try.prog 127=some 24 ∧
  tyZero Try.prog 127=some (.agg #[.pointer none,.int .i64 0,.pointer none]) ∧
  plainB (.agg #[.pointer none,.int .i64 0,.pointer none])=true ∧
  tyAgg Try.prog 128=some true ∧
  tySize Try.prog 128=some 3 ∧
  tyField Try.prog 128 0=some (0,124) ∧
  tyField Try.prog 128 1=some (1,3) ∧
  tyField Try.prog 128 2=some (2,106) ∧
  (tyPlace Try.prog 128=some fun i=>([(0,1),(1,1),(2,1)]:List (Nat × Nat))[i]?) ∧
  tyMk Try.prog 128=true ∧
  tyBytes Try.prog 128=some 24 ∧
  tyZero Try.prog 128=some (.agg #[.pointer none,.int .i64 0,.pointer none]) ∧
  tyAgg Try.prog 135=some false ∧
  tySize Try.prog 135=some 1 ∧
  tyMk Try.prog 135=true ∧
  tyPtr Try.prog 135=true ∧
  tyBytes Try.prog 135=some 8 ∧
  tyZero Try.prog 135=some (.pointer none) ∧
  tyAgg Try.prog 136=some false ∧
  tySize Try.prog 136=some 1 ∧
  tySli Try.prog 136=true ∧
  tyBytes Try.prog 136=some 24:=by (repeat' apply And.intro)<;>kernel_rfl
theorem Try.ty24 :
  tyBytes Try.prog 148=some 16 ∧
  tyZero Try.prog 148=some (.agg #[.int .i64 0,.int .i64 0]) ∧
  plainB (.agg #[.int .i64 0,.int .i64 0])=true ∧
  tyAgg Try.prog 149=some true ∧
  tySize Try.prog 149=some 2 ∧
  tyField Try.prog 149 0=some (0,3) ∧
  tyField Try.prog 149 1=some (1,3) ∧
  (tyPlace Try.prog 149=some fun i=>([(0,1),(1,1)]:List (Nat × Nat))[i]?) ∧
  tyMk Try.prog 149=true ∧
  tyBytes Try.prog 149=some 16 ∧
  tyZero Try.prog 149=some (.agg #[.int .i64 0,.int .i64 0]) ∧
  tyAgg Try.prog 150=some true ∧
  tySize Try.prog 150=some 19 ∧
  (tyPlace Try.prog 150=some fun i=>some (i * 1,1)) ∧
  tyBytes Try.prog 150=some 152 ∧
  tyArray Try.prog 150=some (19,3) ∧
  tyZero Try.prog 150=some (.agg #[.int .i64 0,.int .i64 0,.int .i64 0,.int .i64 0,.int .i64 0,.int .i64 0,.int .i64 0,.int .i64 0,.int .i64 0,.int .i64 0,.int .i64 0,.int .i64 0,.int .i64 0,.int .i64 0,.int .i64 0,.int .i64 0,.int .i64 0,.int .i64 0,.int .i64 0]) ∧
  plainB (.agg #[.int .i64 0,.int .i64 0,.int .i64 0,.int .i64 0,.int .i64 0,.int .i64 0,.int .i64 0,.int .i64 0,.int .i64 0,.int .i64 0,.int .i64 0,.int .i64 0,.int .i64 0,.int .i64 0,.int .i64 0,.int .i64 0,.int .i64 0,.int .i64 0,.int .i64 0])=true ∧
  tyAgg Try.prog 151=some false ∧
  tySize Try.prog 151=some 1 ∧
  tySli Try.prog 151=true ∧
  tyBytes Try.prog 151=some 24 ∧
  tySlice Try.prog 151=some 149 ∧
  tyZero Try.prog 151=some (.slice none 0 0):=by (repeat' apply And.intro)<;>kernel_rfl
theorem Try.ty29 :
  tyField Try.prog 166 3=some (3,159) ∧
  tyField Try.prog 166 4=some (4,5) ∧
  tyField Try.prog 166 5=some (5,5) ∧
  tyField Try.prog 166 6=some (6,160) ∧
  tyField Try.prog 166 7=some (7,161) ∧
  tyField Try.prog 166 8=some (8,162) ∧
  tyField Try.prog 166 9=some (9,163) ∧
  tyField Try.prog 166 10=some (10,164) ∧
  (tyPlace Try.prog 166=some fun i=>([(0,1),(1,1),(2,1),(3,1),(4,1),(5,1),(6,1),(7,1),(8,1),(9,1),(10,1)]:List (Nat × Nat))[i]?) ∧
  tyMk Try.prog 166=true ∧
  tyBytes Try.prog 166=some 48 ∧
  tyZero Try.prog 166=some (.agg #[.int .u64 0,.int .u64 0,.int .u32 0,.int .u8 0,.int .u8 0,.int .u8 0,.int .u8 0,.nilFunc,.pointer none,.int .i32 0,.int .i32 0]) ∧
  tyAgg Try.prog 169=some false ∧
  tySize Try.prog 169=some 1 ∧
  tyBytes Try.prog 169=some 8 ∧
  tyZero Try.prog 169=some (.pointer none) ∧
  tyConv Try.prog 3 26=some .u64 ∧
  tyConv Try.prog 5 3=some .i64 ∧
  tyConv Try.prog 5 26=some .u64 ∧
  tyConv Try.prog 26 3=some .i64 ∧
  tyConv Try.prog 26 5=some .u8 ∧
  fnOK Try.prog 2=true ∧
  fnOK Try.prog 3=true ∧
  fnOK Try.prog 4=true:=by (repeat' apply And.intro)<;>kernel_rfl
theorem Try.ty30 :
  fnOK Try.prog 5=true ∧
  fnOK Try.prog 6=true ∧
  fnOK Try.prog 7=true ∧
  fnOK Try.prog 8=true ∧
  fnOK Try.prog 9=true ∧
  fnOK Try.prog 10=true ∧
  fnOK Try.prog 11=true ∧
  fnOK Try.prog 12=true ∧
  fnOK Try.prog 13=true ∧
  fnOK Try.prog 14=true ∧
  fnOK Try.prog 15=true ∧
  fnOK Try.prog 16=true ∧
  fnOK Try.prog 17=true ∧
  fnOK Try.prog 18=true ∧
  fnOK Try.prog 19=true ∧
  fnOK Try.prog 20=true ∧
  fnOK Try.prog 22=true ∧
  fnOK Try.prog 23=true ∧
  fnOK Try.prog 24=true ∧
  fnOK Try.prog 25=true ∧
  fnOK Try.prog 26=true ∧
  fnOK Try.prog 27=true ∧
  fnOK Try.prog 28=true ∧
  fnOK Try.prog 29=true:=by (repeat' apply And.intro)<;>kernel_rfl
theorem Try.ty31 :
  fnOK Try.prog 30=true ∧
  fnOK Try.prog 33=true ∧
  fnOK Try.prog 35=true ∧
  fnOK Try.prog 36=true ∧
  fnOK Try.prog 37=true ∧
  fnOK Try.prog 38=true ∧
  fnOK Try.prog 39=true ∧
  fnOK Try.prog 40=true ∧
  fnOK Try.prog 41=true ∧
  fnOK Try.prog 42=true ∧
  fnOK Try.prog 43=true ∧
  fnOK Try.prog 44=true ∧
  fnOK Try.prog 45=true ∧
  fnOK Try.prog 46=true ∧
  fnOK Try.prog 47=true ∧
  fnOK Try.prog 48=true ∧
  fnOK Try.prog 49=true ∧
  fnOK Try.prog 50=true ∧
  fnOK Try.prog 51=true ∧
  fnOK Try.prog 52=true ∧
  fnOK Try.prog 53=true ∧
  fnOK Try.prog 54=true ∧
  fnOK Try.prog 55=true ∧
  fnOK Try.prog 56=true:=by (repeat' apply And.intro)<;>kernel_rfl
theorem Try.ty32 :
  fnOK Try.prog 57=true ∧
  fnOK Try.prog 58=true ∧
  fnOK Try.prog 59=true ∧
  fnOK Try.prog 60=true ∧
  fnOK Try.prog 61=true ∧
  fnOK Try.prog 62=true ∧
  fnOK Try.prog 63=true ∧
  fnOK Try.prog 64=true ∧
  fnOK Try.prog 65=true ∧
  fnOK Try.prog 66=true ∧
  fnOK Try.prog 67=true ∧
  fnOK Try.prog 68=true ∧
  fnOK Try.prog 69=true ∧
  fnOK Try.prog 70=true ∧
  fnOK Try.prog 71=true ∧
  fnOK Try.prog 72=true ∧
  fnOK Try.prog 73=true ∧
  fnOK Try.prog 74=true ∧
  fnOK Try.prog 75=true ∧
  fnOK Try.prog 76=true ∧
  fnOK Try.prog 77=true ∧
  fnOK Try.prog 78=true ∧
  fnOK Try.prog 79=true ∧
  fnOK Try.prog 80=true:=by (repeat' apply And.intro)<;>kernel_rfl
theorem Try.ty33 :
  fnOK Try.prog 81=true ∧
  fnOK Try.prog 82=true ∧
  fnOK Try.prog 83=true ∧
  fnOK Try.prog 84=true ∧
  fnOK Try.prog 85=true ∧
  fnOK Try.prog 86=true ∧
  fnOK Try.prog 87=true ∧
  fnOK Try.prog 88=true ∧
  fnOK Try.prog 89=true ∧
  fnOK Try.prog 90=true ∧
  fnOK Try.prog 91=true ∧
  fnOK Try.prog 92=true ∧
  fnOK Try.prog 93=true ∧
  fnOK Try.prog 94=true ∧
  fnOK Try.prog 95=true ∧
  fnOK Try.prog 96=true ∧
  fnOK Try.prog 97=true ∧
  fnOK Try.prog 98=true ∧
  fnOK Try.prog 99=true ∧
  fnOK Try.prog 100=true ∧
  fnOK Try.prog 101=true ∧
  fnOK Try.prog 102=true ∧
  fnOK Try.prog 118=true ∧
  fnOK Try.prog 119=true:=by (repeat' apply And.intro)<;>kernel_rfl
theorem Try.ty34 :
  fnOK Try.prog 121=true ∧
  fnOK Try.prog 122=true ∧
  fnOK Try.prog 123=true ∧
  fnOK Try.prog 124=true ∧
  fnOK Try.prog 125=true ∧
  fnOK Try.prog 126=true ∧
  fnOK Try.prog 127=true ∧
  fnOK Try.prog 128=true ∧
  fnOK Try.prog 129=true ∧
  fnOK Try.prog 130=true ∧
  fnOK Try.prog 131=true ∧
  fnOK Try.prog 132=true ∧
  fnOK Try.prog 133=true ∧
  fnOK Try.prog 134=true ∧
  fnOK Try.prog 135=true ∧
  fnOK Try.prog 136=true ∧
  fnOK Try.prog 137=true:=by (repeat' apply And.intro)<;>kernel_rfl
attribute [go_sem] Try.eql7 Try.neq7 Try.eql8 Try.neq8 Try.eql35 Try.neq35 Try.eql36 Try.neq36 Try.eql44 Try.neq44 Try.eql45 Try.neq45 Try.eql82 Try.neq82 Try.eql83 Try.neq83 Try.eql148 Try.neq148 Try.eql149 Try.neq149 Try.ty0 Try.ty2 Try.ty5 Try.ty6 Try.ty7 Try.ty8 Try.ty10 Try.ty11 Try.ty12 Try.ty13 Try.ty14 Try.ty15 Try.ty16 Try.ty17 Try.ty18 Try.ty19 Try.ty20 Try.ty21 Try.ty22 Try.ty24 Try.ty29 Try.ty30 Try.ty31 Try.ty32 Try.ty33 Try.ty34
def upN (ns:List Nat) (nx:Nat) (n:Nat):Nat:=if n<ns.length then ns.getD n 0 else if n<VB then nx+(n - ns.length) else n
def upE (ns:List Nat) (nx:Nat):Emb:=nameE (upN ns nx)
def renB (E:Emb) (b:Blk):Blk:={ b with cells:=b.cells.map (ren E) }
structure Gives (cnt:Nat) (l l' new:List Blk) (ex:List Nat) (R:Nat→Nat) (h1:AHeap) (v0 v:Value):Prop where
  low:∀ n,n<l.length→R n=n
  hand:∀ n,VB≤n→R n=n
  more:∀ (j n:Nat),ex[j]?=some n→l.length≤n∧n<VB∧R n=l.length+j
  nodup:ex.Nodup
  len:ex.length=new.length
  len':l'.length=l.length
  told:v=ren (nameE R) v0
  clo:Clo (fun n=>n<l.length∨n∈ex∨(VB≤n∧n<VB+cnt)) v0
  rows:∀ (i:Nat) (b:Blk),l[i]?=some b→b.ro=false→∃ b1,h1.get i=some b1∧l'[i]?=some (renB (nameE R) b1)∧b1.ro=false∧∀ u∈b1.cells,Clo (fun n=>n<l.length∨n∈ex∨(VB≤n∧n<VB+cnt)) u
  news:∀ (j n:Nat),ex[j]?=some n→∃ b1,h1.get n=some b1∧new[j]?=some (renB (nameE R) b1)∧b1.ro=false∧∀ u∈b1.cells,Clo (fun n=>n<l.length∨n∈ex∨(VB≤n∧n<VB+cnt)) u
section
variable {P:Program} {σ:Type} {X:Face P σ}
def DoesX (X:Face P σ) (f:FuncId) (args:Array Value) (l:List Blk) (S:σ) (v:Value) (l' new:List Blk) (S':σ):Prop :=
  ∃ g c h1 v0 ex R,P.funcs[f]?=some g∧goB g=true∧g.body=some c∧(∀ u∈args.toList,Clo (Kn l.length (X.cnt S)) u)∧(∀ b∈l,∀ u∈b.cells,Clo (Kn l.length (X.cnt S)) u)∧Gives (X.cnt S') l l' new ex R h1 v0 v ∧
    Goes X g (fun x=>x=.done v0 h1 S') (.run (enterL g c args).1 (enterL g c args).2 (heapL (l.map some)) S)
def LendL (h:AHeap) (E:Emb):List Nat→List Blk→Prop
  | [],[]=>True
  | n::ns,b::l=>(∃ b0,h.get n=some b0∧b0.elem=b.elem∧b0.cells=b.cells.map (ren E)∧(b.grow=b0.grow∨b.grow=none)∧(b.ro=false→b0.ro=false))∧LendL h E ns l
  | _,_=>False
theorem LendL.spec {h:AHeap} {E:Emb}:∀ {ns:List Nat} {l:List Blk},LendL h E ns l→ns.length=l.length∧∀ (i:Nat) (b:Blk),l[i]?=some b→∃ n b0,ns[i]?=some n∧h.get n=some b0∧b0.elem=b.elem∧b0.cells=b.cells.map (ren E)∧(b.grow=b0.grow∨b.grow=none)∧(b.ro=false→b0.ro=false)
  | [],[],_=>⟨rfl,fun i b hb=>by simp at hb⟩
  | n::ns,c::l,⟨⟨b0,h0⟩,hr⟩=>by
    obtain⟨h1,h2⟩:=LendL.spec hr
    refine⟨by simp [h1],fun i b hb=>?_⟩
    cases i with
    | zero=>simp at hb;subst hb;exact⟨n,b0,by simp,h0⟩
    | succ i=>simp at hb;simpa using h2 i b hb
  | [],_::_,h=>h.elim
  | _::_,[],h=>h.elim
def backL:List Nat→List Blk→List Blk→Nat→Option Blk
  | n::ns,b::l,b'::l',m=>if n=m∧b.ro=false then some b' else backL ns l l' m
  | _,_,_,_=>none
theorem backL_some:∀ {ns:List Nat} {l l':List Blk} {m:Nat} {b':Blk},backL ns l l' m=some b'→∃ (i:Nat) (b:Blk),ns[i]?=some m∧l[i]?=some b∧b.ro=false∧l'[i]?=some b'
  | [],_,_,_,_,h=>by simp [backL] at h
  | _::_,[],_,_,_,h=>by simp [backL] at h
  | _::_,_::_,[],_,_,h=>by simp [backL] at h
  | n::ns,b::l,c::l',m,b',h=>by
    simp only [backL] at h
    split at h
    · rename_i hc;cases h;exact⟨0,b,by simp [hc.1],by simp,hc.2,by simp⟩
    · obtain⟨i,b1,h1,h2,h3,h4⟩:=backL_some h
      exact⟨i+1,b1,by simpa using h1,by simpa using h2,h3,by simpa using h4⟩
theorem backL_none:∀ {ns:List Nat} {l l':List Blk} {m:Nat},backL ns l l' m=none→ns.length=l.length→l'.length=l.length→∀ (i:Nat) (b:Blk),l[i]?=some b→b.ro=false→ns[i]?≠some m
  | [],[],_,_,_,_,_,i,b,hb,_=>by simp at hb
  | [],_::_,_,_,_,hl,_,_,_,_,_=>by simp at hl
  | _::_,[],_,_,_,hl,_,_,_,_,_=>by simp at hl
  | _::_,_::_,[],_,_,_,hl,_,_,_,_=>by simp at hl
  | n::ns,c::l,c'::l',m,h,hl,hl',i,b,hb,hr=>by
    simp only [backL] at h
    split at h
    · cases h
    · rename_i hc
      cases i with
      | zero =>
        simp at hb;subst hb
        simp only [List.getElem?_cons_zero,ne_eq,Option.some.injEq]
        exact fun h=>hc ⟨h,hr⟩
      | succ i =>
        simp at hb hl hl'
        simpa using backL_none h hl hl' i b hb hr
def backH (h:AHeap) (E:Emb) (ns:List Nat) (l l' new:List Blk):AHeap :=
  ⟨fun m=>match backL ns l l' m with
    | some b=>some (renB E b)
    | none=>if h.next≤m then (new[m - h.next]?).map (renB E) else h.get m,h.next+new.length⟩
theorem upE_low {ns:List Nat} {nx i n:Nat} (h:ns[i]?=some n):(upE ns nx).blk i=n:=by
  have:=(List.getElem?_eq_some_iff.1 h).1
  simp only [upE,nameE,upN,this,if_true]
  simp [List.getD,h]
theorem renB_comp (F E:Emb) (b:Blk):renB F (renB E b)={ b with cells:=b.cells.map (ren (F.comp E)) }:=by
  unfold renB
  simp only [List.map_map]
  congr 1
  exact List.map_congr_left fun v _=>ren_comp F E v
theorem nodup_ne {l:List Nat} (h:l.Nodup) {i j:Nat} (hi:i<l.length) (hj:j<l.length) (hne:i≠j):l[i]≠l[j]:=by
  rcases Nat.lt_or_gt_of_ne hne with h1|h1
  · exact List.pairwise_iff_getElem.1 h i j hi hj h1
  · exact Ne.symm (List.pairwise_iff_getElem.1 h j i hj hi h1)
theorem call_lent {o:Oper} {e:Operand→Value} {h:AHeap} {S S':σ} {f:FuncId} {g:Func} {c:Code} {args:Array Value} {l l' new:List Blk} {ex:List Nat} {R:Nat→Nat} {v v0:Value} {h1:AHeap} {ns:List Nat} (hca:callA P e o.op=some (f,args.map (ren (upE ns h.next)))) (hf:P.funcs[f]?=some g) (hg:goB g=true) (hb:g.body=some c)
    (hclo:∀ u∈args.toList,Clo (Kn l.length (X.cnt S)) u) (hcl:∀ b∈l,∀ u∈b.cells,Clo (Kn l.length (X.cnt S)) u) (G:Gives (X.cnt S') l l' new ex R h1 v0 v) (hlow:h.Low) (hL:LendL h (upE ns h.next) ns l) (hnd:ns.Nodup) (hlim:l.length+new.length≤VB) :
    CallOK X o e h S (ren (upE ns h.next) v) (backH h (upE ns h.next) ns l l' new) S' f g c args (upE ns h.next) ((upE ns h.next).comp (nameE R)) (heapL (l.map some)) h1 ex v0:=by
  obtain⟨hlen,hlend⟩:=hL.spec
  have hget:∀ n b,(heapL (l.map some)).get n=some b↔l[n]?=some b:=fun n b=>by
    rw [heapL_get,List.getElem?_map]
    cases l[n]?<;>simp
  have hhand:∀ n,VB≤n→(upE ns h.next).blk n=n:=fun n hn=>by
    have h1:¬ n<ns.length:=by omega
    have h2:¬ n<VB:=by omega
    simp only [upE,nameE,upN,h1,h2,if_false]
  have hK:∀ n,(n<l.length∨n∈ex∨(VB≤n∧n<VB+X.cnt S'))→((∃ b,(heapL (l.map some)).get n=some b)∨n∈ex∨(VB≤n∧n<VB+X.cnt S')):=fun n hn=>by
    rcases hn with hn|hn
    · exact .inl ⟨l[n],(hget _ _).2 (List.getElem?_eq_getElem hn)⟩
    · exact .inr hn
  have hex:∀ (j n:Nat),ex[j]?=some n→j<new.length:=fun j n hj=>by
    rw [←G.len];exact (List.getElem?_eq_some_iff.1 hj).1
  refine⟨hca,hf,hg,hb,⟨?_,?_,?_,?_,?_,?_⟩,?_,⟨by rw [G.len];rfl,?_,?_,?_,?_,?_,?_,?_,?_,?_,G.nodup⟩⟩
  · intro n b hb v hv
    rw [hget] at hb
    rw [heapL_next,List.length_map]
    exact hcl b (List.mem_of_getElem? hb) v hv
  · intro n b hb
    rw [hget] at hb
    rw [heapL_next,List.length_map]
    exact (List.getElem?_eq_some_iff.1 hb).1
  · intro n b hb
    rw [hget] at hb
    obtain⟨m,b0,k1,k2,k3,k4,k5,k6⟩:=hlend n b hb
    exact⟨b0,by rw [upE_low k1];exact k2,k3,.inl ⟨k4,rfl,rfl,k5,k6⟩⟩
  · intro n m b c hb hc hne _
    rw [hget] at hb hc
    obtain⟨x,_,k1,_⟩:=hlend n b hb
    obtain⟨y,_,k2,_⟩:=hlend m c hc
    rw [upE_low k1,upE_low k2]
    rintro rfl
    obtain⟨h1,h1'⟩:=List.getElem?_eq_some_iff.1 k1
    obtain⟨h2,h2'⟩:=List.getElem?_eq_some_iff.1 k2
    exact nodup_ne hnd h1 h2 hne (h1'.trans h2'.symm)
  · rw [heapL_next,List.length_map];omega
  · exact fun n hn=>⟨hhand n hn,rfl,rfl⟩
  · rw [heapL_next,List.length_map];exact hclo
  · intro n hn
    rw [heapL_next,List.length_map] at hn
    simp only [Emb.comp,nameE,G.low n hn,upE,Nat.add_zero,and_self]
  · intro j n hj
    obtain⟨k1,k2,k3⟩:=G.more j n hj
    have:=hex j n hj
    refine⟨by rw [heapL_next,List.length_map];exact k1,k2,?_,rfl,rfl⟩
    simp only [Emb.comp,nameE,k3,upE,upN,hlen]
    have h1:¬ l.length+j<l.length:=by omega
    have h2:l.length+j<VB:=by omega
    simp only [h1,h2,if_false,if_true]
    omega
  · intro n hn
    refine⟨?_,rfl,rfl⟩
    simp only [Emb.comp]
    rw [show (nameE R).blk n=n from G.hand n hn]
    exact hhand n hn
  · rw [G.told,ren_comp]
  · exact fun F F' hs=>G.clo F F' (hs.mono hK)
  · rintro n b hb hn u hu
    rcases hn with ⟨b0,hb0,hr⟩|hn
    · rw [hget] at hb0
      obtain⟨b1,k1,_,_,k4⟩:=G.rows n b0 hb0 hr
      rw [hb] at k1;cases k1
      exact fun F F' hs=>k4 u hu F F' (hs.mono hK)
    · obtain⟨j,hj⟩:=List.getElem?_of_mem hn
      obtain⟨b1,k1,_,_,k4⟩:=G.news j n hj
      rw [hb] at k1;cases k1
      exact fun F F' hs=>k4 u hu F F' (hs.mono hK)
  · intro j n hj
    obtain⟨b1,k1,k2,_⟩:=G.news j n hj
    rw [k1]
    unfold backH
    simp only
    have hbk:backL ns l l' (h.next+j)=none:=by
      cases hb':backL ns l l' (h.next+j) with
      | none=>rfl
      | some b' =>
        obtain⟨i,b,g1,g2,_⟩:=backL_some hb'
        obtain⟨m,b0,p1,p2,_⟩:=hlend i b g2
        rw [g1] at p1;cases p1
        have:=hlow _ _ p2
        omega
    rw [hbk]
    simp only
    rw [if_pos (by omega),Nat.add_sub_cancel_left,k2,Option.map_some,renB_comp]
    rfl
  · intro m hm
    unfold backH
    simp only
    cases hb':backL ns l l' m with
    | some b' =>
      obtain⟨i,b,g1,g2,g3,g4⟩:=backL_some hb'
      obtain⟨b1,k1,k2,k3,k4⟩:=G.rows i b g2 g3
      refine .inr ⟨i,b,(hget _ _).2 g2,g3,upE_low g1,?_⟩
      rw [g4] at k2;cases k2
      rw [k1,Option.map_some]
      simp only [renB_comp]
    | none =>
      refine .inl ⟨?_,fun n b hb hr=>?_⟩
      · simp only
        split
        · rename_i hle
          rcases hm with hm|hm
          · omega
          · have hm:h.next+new.length≤m:=hm
            rw [List.getElem?_eq_none (by omega)]
            cases hg':h.get m with
            | none=>rfl
            | some b=>have:=hlow _ _ hg';omega
        · rfl
      · rw [hget] at hb
        obtain⟨x,_,p1,_⟩:=hlend n b hb
        have:=backL_none hb' hlen G.len' n b hb hr
        rw [upE_low p1]
        rintro rfl
        exact this p1
  · rintro n b hb (⟨b0,hb0,hr⟩|hn)
    · rw [hget] at hb0
      obtain⟨b1,k1,_,k3,_⟩:=G.rows n b0 hb0 hr
      rw [hb] at k1;cases k1;exact k3
    · obtain⟨j,hj⟩:=List.getElem?_of_mem hn
      obtain⟨b1,k1,_,k3,_⟩:=G.news j n hj
      rw [hb] at k1;cases k1;exact k3
def backR (E:Emb) (rows:List (Option Blk)):List Nat→List Blk→List Blk→List (Option Blk)
  | n::ns,b::l,b'::l'=>if b.ro=false then (backR E rows ns l l').set n (some (renB E b')) else backR E rows ns l l'
  | _,_,_=>rows
theorem backR_len {E:Emb} {rows:List (Option Blk)}:∀ {ns:List Nat} {l l':List Blk},(backR E rows ns l l').length=rows.length
  | [],_,_=>rfl
  | _::_,[],_=>rfl
  | _::_,_::_,[]=>rfl
  | n::ns,b::l,b'::l'=>by
    simp only [backR]
    split
    · rw [List.length_set,backR_len]
    · rw [backR_len]
theorem backR_get {E:Emb} {rows:List (Option Blk)}:∀ {ns:List Nat} {l l':List Blk} {m:Nat},(∀ n∈ns,n<rows.length)→((backR E rows ns l l')[m]?).join=match backL ns l l' m with|some b=>some (renB E b)|none=>(rows[m]?).join
  | [],_,_,_,_=>rfl
  | _::_,[],_,_,_=>rfl
  | _::_,_::_,[],_,_=>rfl
  | n::ns,b::l,b'::l',m,hlt=>by
    have ih:=@backR_get E rows ns l l' m (fun x hx=>hlt x (by simp [hx]))
    simp only [backR,backL]
    have hn:n<rows.length:=hlt n (by simp)
    by_cases hr:b.ro=false
    · rw [if_pos hr,List.getElem?_set]
      by_cases hm:n=m
      · subst hm
        simp [hr,backR_len,hn]
      · simp only [hm,false_and,if_false]
        exact ih
    · have hc:¬ (n=m∧b.ro=false):=fun h=>hr h.2
      rw [if_neg hr,if_neg hc]
      exact ih
theorem backH_L {E:Emb} {rows:List (Option Blk)} {ns:List Nat} {l l' new:List Blk} (hlt:∀ n∈ns,n<rows.length):backH (heapL rows) E ns l l' new=heapL (backR E rows ns l l'++new.map fun b=>some (renB E b)):=by
  unfold backH heapL
  simp only [List.length_append,List.length_map,backR_len]
  congr 1
  funext m
  by_cases hm:rows.length≤m
  · have hbk:backL ns l l' m=none:=by
      cases hb':backL ns l l' m with
      | none=>rfl
      | some b' =>
        obtain⟨i,b,g1,_⟩:=backL_some hb'
        have:=hlt m (List.mem_of_getElem? g1)
        omega
    rw [hbk,List.getElem?_append_right (by rw [backR_len];exact hm),backR_len,List.getElem?_map]
    simp only [hm,if_true]
    cases new[m - rows.length]?<;>simp
  · rw [List.getElem?_append_left (by rw [backR_len];omega),backR_get hlt]
    cases backL ns l l' m with
    | some b=>rfl
    | none=>simp [hm]
variable {fn:Func} {A:Conf σ→Prop} {ops:Array Oper} {k:List Item} {i:Nat} {tmps:List Value} {h:AHeap} {S:σ} {o:Oper} {todo:List Item} {W:List Nat} {n0:Nat} {hf:AHeap} {Kf:List Value→AHeap→σ→Prop} {born:List (Nat × Nat)}
theorem aheap_ext {h h':AHeap} (hg:∀ m,h.get m=h'.get m) (hn:h.next=h'.next):h=h':=by
  cases h;cases h'
  simp only [AHeap.mk.injEq]
  exact⟨funext hg,hn⟩
theorem glueH_get {h hv:AHeap} {m:Nat}:(glueH h hv).get m=if h.next≤m then (if m<hv.next then hv.get m else none) else h.get m:=rfl
def CallX (X:Face P σ) (S:σ) (ns:List Nat) (nx:Nat) (h:AHeap) (K:Value→List Blk→List Blk→List Blk→σ→Prop) (f:FuncId) (args:Array Value):Prop :=
  ∃ zs l v l' new S',DoesX X f zs l S v l' new S'∧args=zs.map (ren (upE ns nx))∧LendL h (upE ns nx) ns l∧K v l l' new S'
theorem At.callX {rows:List (Option Blk)} (ns:List Nat) (ho:ops.toList[i]?=some o) (hw:Region.wanted o (yieldedL ops tmps)=true) (hb:opOK o.op=true) (hnd:ns.Nodup) (hlt:(ns.all fun n=>decide (n<rows.length))=true)
    (hk:∀ K:List Value→List (Option Blk)→σ→Prop,(∀ t rs S',At X fn A ops k (i+1) t (heapL rs) S'→K t rs S') →
      CallK (CallX X S ns rows.length (heapL rows) fun v l l' new S'=>decide (rows.length+l.length+new.length<1000000)=true∧K (putL o.dst (ren (upE ns rows.length) v) tmps) (backR (upE ns rows.length) rows ns l l'++new.map fun b=>some (renB (upE ns rows.length) b)) S') (callA P (evA tmps) o.op)):At X fn A ops k i tmps (heapL rows) S:=by
  have hk:=hk _ fun _ _ _ h=>h
  have hlt:∀ n∈ns,n<rows.length:=fun n hn=>of_decide_eq_true (List.all_eq_true.1 hlt n hn)
  unfold At
  rw [range_at (at_list ho)]
  cases hv:callA P (evA tmps) o.op with
  | none=>rw [hv] at hk;exact hk.elim
  | some x =>
    obtain⟨f,args⟩:=x
    rw [hv] at hk
    obtain⟨zs,l,v,l',new,S',⟨g,c,h1,v0,ex,R,d1,d2,d3,d4,d5,d6,d7⟩,rfl,hL,hlim,hK⟩:=hk
    have hlim:=of_decide_eq_true hlim
    have hC:=call_lent (ns:=ns) (h:=heapL rows) (o:=o) (e:=evA tmps) (f:=f) (args:=zs) (by rw [heapL_next];exact hv) d1 d2 d3 d4 d5 d6 (heapL_low _) (by rw [heapL_next];exact hL) hnd (by unfold VB;omega)
    rw [heapL_next,backH_L hlt] at hC
    exact .call f g c zs _ _ _ h1 ex v0 (at_list ho) hw (opOK_all hb) hC (.inr (by rw [heapL_next,List.length_append,backR_len,List.length_map];unfold VB;omega)) d7 hK
theorem RG.callX {rows:List (Option Blk)} (ns:List Nat) (ho:ops.toList[i]?=some o) (hw:Region.wanted o (yieldedL ops tmps)=true) (hb:opOK o.op=true) (hq:wrB W i o=false) (hnd:ns.Nodup)
    (hk:∀ K:List Value→List (Option Blk)→σ→List (Nat × Nat)→Prop,(∀ t rs S' born',RGF X W ops n0 hf Kf (i+1) t (heapL rs) S' born'→K t rs S' born') →
      CallK (CallX X S ns rows.length (visH n0 born ((masksFrom ops.toList []).getD i 0) (heapL rows)) fun v l _ new S'=>(l.all (·.ro)=true∧decide (rows.length+l.length+new.length<1000000)=true)∧K (putL o.dst (ren (upE ns rows.length) v) tmps) (rows++new.map fun b=>some (renB (upE ns rows.length) b)) S' (bornN i rows.length (rows.length+new.length)++born)) (callA P (evA tmps) o.op)) (hnf:farB W i=false:=by rfl):RGF X W ops n0 hf Kf i tmps (heapL rows) S born:=by
  have hk:=hk _ fun _ _ _ _ h=>h
  cases hv:callA P (evA tmps) o.op with
  | none=>rw [hv] at hk;exact hk.elim
  | some x =>
    obtain⟨f,args⟩:=x
    rw [hv] at hk
    obtain⟨zs,l,v,l',new,S',⟨g,c,h1,v0,ex,R,d1,d2,d3,d4,d5,d6,d7⟩,rfl,hL,⟨hro,hlim⟩,hK⟩:=hk
    have hlim:=of_decide_eq_true hlim
    have hlowv:(visH n0 born ((masksFrom ops.toList []).getD i 0) (heapL rows)).Low:=by
      intro n b hb
      unfold visH at hb ⊢
      simp only at hb ⊢
      split at hb
      · cases hg:(heapL rows).get n with
        | none=>rw [hg] at hb;cases hb
        | some b0=>exact heapL_low _ _ _ hg
      · cases hb
    have hnx:(visH n0 born ((masksFrom ops.toList []).getD i 0) (heapL rows)).next=rows.length:=rfl
    have hC:=call_lent (ns:=ns) (h:=visH n0 born ((masksFrom ops.toList []).getD i 0) (heapL rows)) (o:=o) (e:=evA tmps) (f:=f) (args:=zs) (by rw [hnx];exact hv) d1 d2 d3 d4 d5 d6 hlowv (by rw [hnx];exact hL) hnd (by unfold VB;omega)
    rw [hnx] at hC
    have hbl:∀ m,backL ns l l' m=none:=fun m=>by
      cases hb':backL ns l l' m with
      | none=>rfl
      | some b' =>
        obtain⟨j,b,_,g2,g3,_⟩:=backL_some hb'
        have:=List.all_eq_true.1 hro b (List.mem_of_getElem? g2)
        rw [g3] at this;cases this
    refine .call' (h':=heapL (rows++new.map fun b=>some (renB (upE ns rows.length) b))) false f g c zs _ _ _ h1 ex v0 hnf (at_list ho) hw (opOK_all hb) (.inr (by rw [heapL_next,List.length_append,List.length_map];unfold VB;omega)) ⟨hq,_,hC,?_⟩ d7 ?_ ?_
    · refine aheap_ext (fun m=>?_) ?_
      · rw [glueH_get,heapL_next,heapL_get,heapL_get]
        have hbk:∀ E m,(backH (visH n0 born ((masksFrom ops.toList []).getD i 0) (heapL rows)) E ns l l' new).get m=if rows.length≤m then (new[m - rows.length]?).map (renB E) else (visH n0 born ((masksFrom ops.toList []).getD i 0) (heapL rows)).get m:=fun E m=>by
          unfold backH
          simp only [hbl m]
          rfl
        rw [hbk]
        have hbn:∀ E,(backH (visH n0 born ((masksFrom ops.toList []).getD i 0) (heapL rows)) E ns l l' new).next=rows.length+new.length:=fun E=>rfl
        rw [hbn]
        split
        · rename_i hm
          rw [List.getElem?_append_right hm,List.getElem?_map]
          split
          · cases new[m - rows.length]?<;>simp
          · rw [List.getElem?_eq_none (by omega)];simp
        · rename_i hm
          rw [List.getElem?_append_left (by omega)]
      · show (heapL (rows++_)).next=rows.length+new.length
        rw [heapL_next,List.length_append,List.length_map]
    · intro n b _ q1 q2
      rw [heapL_next] at q2
      rw [heapL_get,heapL_get,List.getElem?_append_left (by omega)]
    · rw [heapL_next,heapL_next,List.length_append,List.length_map]
      exact hK
theorem Gives.still {cnt:Nat} {l:List Blk} {h1:AHeap} {v:Value} (hro:l.all (·.ro)=true) (hv:Clo (Kn l.length cnt) v):Gives cnt l l [] [] id h1 v v where
  low:=fun _ _=>rfl
  hand:=fun _ _=>rfl
  more:=fun j n hj=>by simp at hj
  nodup:=List.nodup_nil
  len:=rfl
  len':=rfl
  told:=(ren_id v).symm
  clo:=fun F F' hs=>hv F F' (hs.mono fun n hn=>by
    rcases hn with hn|hn
    · exact .inl hn
    · exact .inr (.inr hn))
  rows:=fun i b hb hr=>by
    have:=List.all_eq_true.1 hro b (List.mem_of_getElem? hb)
    rw [hr] at this;cases this
  news:=fun j n hj=>by simp at hj
theorem Goes.finX {v v0:Value} {S':σ} {l l' new:List Blk} {ex:List Nat} {R:Nat→Nat} (ht:retB todo=true) (hv:resA P fn tmps h=some v0) (hS:S=S') (hG:Gives (X.cnt S') l l' new ex R h v0 v) :
    Goes X fn (fun x=>∃ v0 h1 ex R,x=.done v0 h1 S'∧Gives (X.cnt S') l l' new ex R h1 v0 v) (.run todo tmps h S) :=
  .ret ht hv (.here ⟨v0,h,ex,R,by rw [hS],hG⟩)
theorem Goes.finS {v:Value} {S':σ} {l:List Blk} (ht:retB todo=true) (hv:resA P fn tmps h=some v) (hS:S=S') (hro:l.all (·.ro)=true) (hc:Clo (Kn l.length (X.cnt S')) v) :
    Goes X fn (fun x=>∃ v0 h1 ex R,x=.done v0 h1 S'∧Gives (X.cnt S') l l [] ex R h1 v0 v) (.run todo tmps h S) :=
  Goes.finX ht hv hS (Gives.still hro hc)
theorem DoesX.mk {f:FuncId} {g:Func} {c:Code} {args:Array Value} {l l' new:List Blk} {S S':σ} {v:Value} (hf:P.funcs[f]?=some g) (hg:goB g=true) (hb:g.body=some c) (hclo:∀ u∈args.toList,Clo (Kn l.length (X.cnt S)) u) (hcl:∀ b∈l,∀ u∈b.cells,Clo (Kn l.length (X.cnt S)) u)
    (hrun:Goes X g (fun x=>∃ v0 h1 ex R,x=.done v0 h1 S'∧Gives (X.cnt S') l l' new ex R h1 v0 v) (.run [.code c] (args.toList++List.replicate (g.ntmps - args.size) undef) (heapL (l.map some)) S)):DoesX X f args l S v l' new S':=by
  obtain⟨c',⟨v0,h1,ex,R,rfl,hG⟩,G⟩:=hrun.out
  exact⟨g,c,h1,v0,ex,R,hf,hg,hb,hclo,hcl,hG,G⟩
theorem plain_map {cs:List Value} {E:Emb} (h:∀ u∈cs,plainB u=true):cs=cs.map (ren E):=by
  conv=>lhs;rw [←List.map_id cs]
  exact List.map_congr_left fun u hu=>(ren_plain E (h u hu)).symm
end
def appV (P:Program) (h:AHeap) (nx:Nat) (t:TypeId) (x y:Value):Option (Value × Option Blk):=match appendA P h t x y with
  | some (news,el,need,true)=>some (.slice (some ⟨nx,0,none⟩) need need,some ⟨news,el,false,tySize P el⟩)
  | _=>none
theorem n_append {P:Program} {e:Operand→Value} {h:AHeap} {nx:Nat} {t:TypeId} {x y:Operand}:newA P e h nx (.call { callee:=.builtin .append,args:=#[x,y],argTypes:=#[t,t] })=appV P h nx t (e x) (e y):=by
  unfold newA appV
  simp only [if_true]
  rcases appendA P h t (e x) (e y) with _|⟨news,el,need,b⟩
  · rfl
  · cases b<;>rfl
def numRow (k:IntKind) (ns:List Int):List Value:=ns.map fun n=>.int k n
theorem numRow_plain {k:IntKind} {ns:List Int}:∀ u∈numRow k ns,plainB u=true:=fun u hu=>by
  obtain⟨n,_,rfl⟩:=List.mem_map.1 hu;rfl
theorem up_0 {a nx:Nat} {ns:List Nat}:(upE (a::ns) nx).blk 0=a:=by simp [upE,nameE,upN]
theorem up_1 {a b nx:Nat} {ns:List Nat}:(upE (a::b::ns) nx).blk 1=b:=by simp [upE,nameE,upN]
theorem up_2 {a b c nx:Nat} {ns:List Nat}:(upE (a::b::c::ns) nx).blk 2=c:=by simp [upE,nameE,upN]
theorem up_00 {nx:Nat}:(upE [] nx).blk 0=nx:=by simp [upE,nameE,upN,VB]
theorem up_base {nx n:Nat} {ns:List Nat}:(upE ns nx).base n=0:=rfl
theorem up_slack {nx n:Nat} {ns:List Nat}:(upE ns nx).slack n=0:=rfl
theorem up_hnd {nx k:Nat} {ns:List Nat} (h:ns.length<1000000):ren (upE ns nx) (hndV k)=hndV k:=by
  have h1:¬ VB+k<ns.length:=by unfold VB;omega
  have h2:¬ VB+k<VB:=by omega
  simp only [hndV,ren_psome,adr,upE,nameE,upN,h1,h2,if_false,Nat.zero_add]
theorem up_prt {nx k:Nat} {ns:List Nat} (h:ns.length<1000000):ren (upE ns nx) (prtV k)=prtV k:=by
  simp only [prtV,ren_iface,up_hnd h]
attribute [go_sem high] n_append
attribute [go_sem] CallX backR renB up_0 up_1 up_2 up_00 up_base up_slack up_hnd up_prt ren_bool ren_int ren_string ren_pnone ren_psome ren_snone ren_ssome ren_iface ren_nilIface ren_nilFunc ren_agg ren_tuple ren_func adr Nat.add_zero List.append_nil
def heapJ (l:List (Option Blk)) (q:Nat) (l2:List (Option Blk)):AHeap:=⟨fun n=>if n<q then (l[n]?).join else (l2[n - q]?).join,q+l2.length⟩
theorem gap_lo {l:List (Option Blk)} {q:Nat} {l2:List (Option Blk)} {n:Nat} (h:n<q):(heapJ l q l2).get n=(l[n]?).join:=if_pos h
theorem gap_hi0 {l:List (Option Blk)} {q:Nat} {l2:List (Option Blk)}:(heapJ l q l2).get q=(l2[0]?).join:=by
  show (if q<q then _ else _)=_
  rw [if_neg (Nat.lt_irrefl q),Nat.sub_self]
theorem gap_hi {l:List (Option Blk)} {q:Nat} {l2:List (Option Blk)} {i:Nat}:(heapJ l q l2).get (q+i)=(l2[i]?).join:=by
  show (if q+i<q then _ else _)=_
  rw [if_neg (by omega),Nat.add_sub_cancel_left]
theorem gap_next (l:List (Option Blk)) (q:Nat) (l2:List (Option Blk)):(heapJ l q l2).next=q+l2.length:=rfl
theorem ah_ext {a b:AHeap} (h1:∀ n,a.get n=b.get n) (h2:a.next=b.next):a=b:=by
  cases a;cases b
  simp only [AHeap.mk.injEq]
  exact⟨funext h1,h2⟩
theorem gap_addO (l:List (Option Blk)) (q:Nat) (l2:List (Option Blk)) (b:Option Blk):(heapJ l q l2).addO b=heapJ l q (l2++[b]):=by
  refine ah_ext (fun n=>?_) (by simp [AHeap.addO,heapJ];omega)
  rw [AHeap.addO_get,gap_next]
  show _=(if n<q then _ else _)
  by_cases hn:n<q
  · rw [if_neg (by omega),if_pos hn,gap_lo hn]
  · obtain⟨i,rfl⟩:∃ i,n=q+i:=⟨n - q,by omega⟩
    rw [gap_hi,if_neg hn,Nat.add_sub_cancel_left]
    by_cases hi:i=l2.length
    · subst hi;rw [if_pos rfl];simp
    · rw [if_neg (by omega),List.getElem?_append]
      by_cases h2:i<l2.length
      · rw [if_pos h2]
      · rw [if_neg h2,List.getElem?_eq_none (by omega),List.getElem?_eq_none (by simp;omega)]
theorem gap_putO_lo {l:List (Option Blk)} {q:Nat} {l2:List (Option Blk)} {n:Nat} {b:Option Blk} (h:n<q) (hl:n<l.length):(heapJ l q l2).putO n b=heapJ (l.set n b) q l2:=by
  refine ah_ext (fun m=>?_) rfl
  rw [AHeap.putO_get]
  show _=(if m<q then _ else _)
  by_cases hm:m=n
  · subst hm;rw [if_pos rfl,if_pos h];simp [hl]
  · rw [if_neg hm]
    show (if m<q then _ else _)=_
    rw [List.getElem?_set_ne (fun e=>hm e.symm)]
theorem gap_putO_hi {l:List (Option Blk)} {q:Nat} {l2:List (Option Blk)} {i:Nat} {b:Option Blk} (hl:i<l2.length):(heapJ l q l2).putO (q+i) b=heapJ l q (l2.set i b):=by
  refine ah_ext (fun m=>?_) (by simp [AHeap.putO,heapJ])
  rw [AHeap.putO_get]
  show _=(if m<q then _ else _)
  by_cases hm:m<q
  · rw [if_neg (by omega),if_pos hm,gap_lo hm]
  · obtain⟨j,rfl⟩:∃ j,m=q+j:=⟨m - q,by omega⟩
    rw [gap_hi,if_neg hm,Nat.add_sub_cancel_left]
    by_cases hj:j=i
    · subst hj;rw [if_pos rfl];simp [hl]
    · rw [if_neg (by omega),List.getElem?_set_ne (fun e=>hj e.symm)]
theorem gap_putO_hi0 {l:List (Option Blk)} {q:Nat} {l2:List (Option Blk)} {b:Option Blk} (hl:0<l2.length):(heapJ l q l2).putO q b=heapJ l q (l2.set 0 b):=gap_putO_hi (i:=0) hl
theorem gap_put_lo {l:List (Option Blk)} {q:Nat} {l2:List (Option Blk)} {n:Nat} {b:Blk} (h:n<q) (hl:n<l.length):(heapJ l q l2).put n b=heapJ (l.set n (some b)) q l2:=by rw [put_putO,gap_putO_lo h hl]
theorem gap_put_hi0 {l:List (Option Blk)} {q:Nat} {l2:List (Option Blk)} {b:Blk} (hl:0<l2.length):(heapJ l q l2).put q b=heapJ l q (l2.set 0 (some b)):=by rw [put_putO,gap_putO_hi0 hl]
theorem gap_lim {l:List (Option Blk)} {q:Nat} {l2:List (Option Blk)} (h:q+l2.length<1000000000):(heapJ l q l2).next<VB:=by rw [gap_next];unfold VB;omega
theorem gap_low (l:List (Option Blk)) (q:Nat) (l2:List (Option Blk)):(heapJ l q l2).Low:=by
  intro n b hb
  rw [gap_next]
  by_cases hn:n<q
  · omega
  · obtain⟨i,rfl⟩:∃ i,n=q+i:=⟨n - q,by omega⟩
    rw [gap_hi] at hb
    have:i<l2.length:=by
      apply Nat.lt_of_not_le;intro h;rw [List.getElem?_eq_none h] at hb;simp at hb
    omega
theorem gap_of (l:List (Option Blk)):heapL l=heapJ l l.length []:=by
  refine ah_ext (fun n=>?_) (by simp [heapL,heapJ])
  rw [heapL_get]
  show _=(if n<l.length then _ else _)
  split
  · rfl
  · rw [List.getElem?_eq_none (by omega)];simp
attribute [go_sem] gap_lo gap_hi0 gap_hi gap_next gap_addO gap_putO_lo gap_putO_hi gap_putO_hi0 gap_put_lo gap_put_hi0
end Go.Proofs.Ytkjnamhgemidkaa
