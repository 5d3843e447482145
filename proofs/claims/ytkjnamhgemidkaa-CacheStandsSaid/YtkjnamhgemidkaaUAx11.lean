/-
  The abstract machine, part 11: its rules, as they are used.
  No condition: laws.
-/
import Derived.Test.YtkjnamhgemidkaaUAx9
import Derived.Test.YtkjnamhgemidkaaUBase
import Derived.Laws.EntriesVeiled
import Derived.BigRegion
namespace Go.Proofs.Ytkjnamhgemidkaa
open Go Go.RowKit
set_option linter.unusedSimpArgs false
set_option linter.unusedVariables false
def heapL (l:List (Option Blk)):AHeap:=⟨fun n=>(l[n]?).join,l.length⟩
theorem heapL_addO (l:List (Option Blk)) (b:Option Blk):(heapL l).addO b=heapL (l++[b]):=by
  unfold heapL AHeap.addO
  simp only [List.length_append,List.length_singleton]
  congr 1
  funext n
  split
  · rename_i h;subst h;simp
  · rename_i h
    by_cases hn:n<l.length
    · rw [List.getElem?_append_left hn]
    · rw [List.getElem?_eq_none (by omega),List.getElem?_eq_none (by simp;omega)]
theorem heapL_putO (l:List (Option Blk)) (n:Nat) (b:Option Blk) (h:n<l.length):(heapL l).putO n b=heapL (l.set n b):=by
  unfold heapL AHeap.putO
  simp only [List.length_set]
  congr 1
  funext m
  rw [List.getElem?_set]
  by_cases hm:m=n
  · subst hm;simp [h]
  · rw [if_neg hm,if_neg (Ne.symm hm)]
theorem put_putO (h:AHeap) (n:Nat) (b:Blk):h.put n b=h.putO n (some b):=rfl
theorem heapL_put (l:List (Option Blk)) (n:Nat) (b:Blk) (h:n<l.length):(heapL l).put n b=heapL (l.set n (some b)):=by
  rw [put_putO,heapL_putO l n _ h]
theorem heapL_get (l:List (Option Blk)) (n:Nat):(heapL l).get n=(l[n]?).join:=rfl
theorem heapL_next (l:List (Option Blk)):(heapL l).next=l.length:=rfl
theorem heapL_lim {l:List (Option Blk)} (h:decide (l.length<1000000)=true):(heapL l).next<VB:=by
  have:=of_decide_eq_true h
  unfold heapL VB
  simp only
  omega
def AHeap.Low (h:AHeap):Prop:=∀ n b,h.get n=some b→n<h.next
theorem heapL_low (l:List (Option Blk)):(heapL l).Low:=by
  intro n b hb
  rw [heapL_get] at hb
  rw [heapL_next]
  rcases Nat.lt_or_ge n l.length with h|h
  · exact h
  · rw [List.getElem?_eq_none h] at hb;cases hb
theorem ren_id:∀ v:Value,ren (nameE id) v=v
  | .pointer (some a)=>by simp [adr,nameE]
  | .pointer none=>by simp
  | .slice (some a) n c=>by simp [adr,nameE]
  | .slice none n c=>by simp
  | .iface t v=>by simp [ren_id v]
  | .agg cs=>by
    simp only [ren_agg]
    congr 1
    exact (Array.map_congr_left fun x hx=>ren_id x).trans (by simp)
  | .tuple cs=>by
    simp only [ren_tuple]
    congr 1
    exact (Array.map_congr_left fun x hx=>ren_id x).trans (by simp)
  | .func fn xs ys=>by
    simp only [ren_func]
    congr 1
    · exact (Array.map_congr_left fun x hx=>ren_id x).trans (by simp)
    · exact (Array.map_congr_left fun x hx=>ren_id x).trans (by simp)
  | .bool b=>by simp
  | .int k n=>by simp
  | .float k n=>by simp [ren]
  | .complex k n m=>by simp [ren]
  | .string s=>by simp
  | .map r=>by simp [ren]
  | .chan r=>by simp [ren]
  | .nilFunc=>by simp
  | .nilIface=>by simp
termination_by v=>SizeOf.sizeOf v
decreasing_by all_goals (simp_wf;first|omega|(have:=Array.sizeOf_lt_of_mem hx;omega))
section
variable {P:Program} {σ:Type} {X:Face P σ}
def idE:Emb:=nameE id
def Does (X:Face P σ) (f:FuncId) (args:Array Value) (l:List Blk) (S:σ) (v:Value) (S':σ):Prop :=
  ∃ g c h1,P.funcs[f]?=some g∧goB g=true∧g.body=some c∧(∀ u∈args.toList,Clo (Kn l.length (X.cnt S)) u)∧Hand (X.cnt S') v ∧
    Goes X g (fun x=>x=.done v h1 S') (.run (enterL g c args).1 (enterL g c args).2 (heapL (l.map some)) S)
theorem map_id (args:Array Value):args=args.map (ren idE):=by
  conv=>lhs;rw [←Array.map_id args]
  exact Array.map_congr_left fun x _=>(ren_id x).symm
theorem call_bare {o:Oper} {e:Operand→Value} {h:AHeap} {S S':σ} {f:FuncId} {g:Func} {c:Code} {args:Array Value} {v:Value} (h1:AHeap) (hca:callA P e o.op=some (f,args)) (hf:P.funcs[f]?=some g) (hg:goB g=true) (hb:g.body=some c)
    (hclo:∀ u∈args.toList,Clo (Kn 0 (X.cnt S)) u) (hv:Hand (X.cnt S') v):CallOK X o e h S v h S' f g c args idE idE (heapL []) h1 [] v:=by
  refine⟨by rw [←map_id];exact hca,hf,hg,hb,⟨fun n b hb=>by simp [heapL_get] at hb,fun n b hb=>by simp [heapL_get] at hb,fun n b hb=>by simp [heapL_get] at hb,fun n m b c hb=>by simp [heapL_get] at hb,by simp [heapL_next,VB],fun n _=>⟨rfl,rfl,rfl⟩⟩,hclo,
    ⟨rfl,fun n hn=>⟨rfl,rfl,rfl⟩,fun j n hj=>by simp at hj,fun n _=>⟨rfl,rfl,rfl⟩,(ren_id v).symm,?_,?_,fun j n hj=>by simp at hj,fun m _=>.inl ⟨rfl,fun n b hb=>by simp [heapL_get] at hb⟩,?_,List.nodup_nil⟩⟩
  · exact fun F F' hs=>hv F F' (hs.mono fun n hn=>.inr (.inr hn))
  · rintro n b _ (⟨b0,hb0,_⟩|hn)
    · simp [heapL_get] at hb0
    · cases hn
  · rintro n b _ (⟨b0,hb0,_⟩|hn)
    · simp [heapL_get] at hb0
    · cases hn
def OpK (K:List Value→AHeap→Prop) (o:Oper) (tmps:List Value) (h:AHeap):Option Value→Prop
  | some v=>K (putL o.dst v tmps) h
  | none=>False
def NewK (K:List Value→AHeap→Prop) (o:Oper) (tmps:List Value) (h:AHeap):Option (Value × Option Blk)→Prop
  | some (v,b)=>K (putL o.dst v tmps) (h.addO b)
  | none=>False
def WrK (K:List Value→AHeap→Prop) (o:Oper) (tmps:List Value):Option (Value × AHeap)→Prop
  | some (v,h')=>K (putL o.dst v tmps) h'
  | none=>False
def StoreK (K:List Value→AHeap→Prop) (o:Oper) (tmps:List Value):Option AHeap→Prop
  | some h'=>K (putL o.dst undef tmps) h'
  | none=>False
def CallK (K:FuncId→Array Value→Prop):Option (FuncId × Array Value)→Prop
  | some (f,args)=>K f args
  | none=>False
def storeOp (P:Program) (e:Operand→Value) (h:AHeap):Op→Option AHeap
  | .store t x y=>(match e x with|.pointer (some a)=>storeA P h t a (e y)|_=>none)
  | _=>none
theorem storeOp_wr {e:Operand→Value} {h h':AHeap} {o:Op} (hs:storeOp P e h o=some h'):wrA P e h o=some (undef,h'):=by
  unfold storeOp at hs
  split at hs
  · split at hs
    · rename_i a ha
      unfold wrA
      simp only [ha,hs,Option.map_some]
    · cases hs
  · cases hs
theorem wrA_next1 {e:Operand→Value} {h h':AHeap} {o:Op} {v:Value} (hv:wrA P e h o=some (v,h')):h'.next=h.next∨h'.next=h.next+1:=by
  unfold wrA at hv
  repeat' split at hv
  all_goals first
    | (cases hv;done)
    | (cases hv;exact .inl rfl)
    | (cases hv;exact .inr rfl)
    | (rename_i a _;cases hs:storeA P h _ a _ with
        | none=>rw [hs] at hv;cases hv
        | some h1 =>
          rw [hs] at hv
          cases hv
          obtain⟨b,s,_,_,_,_,_,_,_,rfl⟩:=storeA_spec hs
          exact .inl rfl)
theorem storeOp_spec {e:Operand→Value} {h h':AHeap} {o:Op} (hs:storeOp P e h o=some h'):∃ t x y a,o=.store t x y∧e x=.pointer (some a)∧storeA P h t a (e y)=some h':=by
  unfold storeOp at hs
  split at hs
  · rename_i t x y
    split at hs
    · rename_i a ha;exact⟨t,x,y,a,rfl,ha,hs⟩
    · cases hs
  · cases hs
variable (X) in
def At (fn:Func) (A:Conf σ→Prop) (ops:Array Oper) (k:List Item) (i:Nat) (tmps:List Value) (h:AHeap) (S:σ):Prop :=
  Goes X fn A (.run (.inRegion ops (List.range' i (ops.size - i))::k) tmps h S)
variable {fn:Func} {A:Conf σ→Prop} {ops:Array Oper} {k:List Item} {i:Nat} {tmps:List Value} {h:AHeap} {S:σ} {o:Oper} {todo:List Item}
theorem Goes.reg {id:Nat} (hk:At X fn A ops k 0 tmps h S):Goes X fn A (.run (.code (.region id ops false)::k) tmps h S):=by
  refine .ctl (todo':=.inRegion ops (List.range ops.size)::k) rfl ?_
  rw [List.range_eq_range']
  exact hk
theorem range_at (ho:ops[i]?=some o):List.range' i (ops.size - i)=i::List.range' (i+1) (ops.size - (i+1)):=by
  have:=(Array.getElem?_eq_some_iff.1 ho).1
  rw [show ops.size - i=(ops.size - (i+1))+1 by omega,List.range'_succ]
theorem At.nil (hn:decide (ops.size≤i)=true) (hk:Goes X fn A (.run k tmps h S)):At X fn A ops k i tmps h S:=by
  unfold At
  rw [show ops.size - i=0 by have:=of_decide_eq_true hn;omega]
  exact .ctl rfl hk
theorem At.skip (ho:ops[i]?=some o) (hw:Region.wanted o (yieldedL ops tmps)=false) (hk:At X fn A ops k (i+1) (putL o.dst undef tmps) h S):At X fn A ops k i tmps h S:=by
  unfold At
  rw [range_at ho]
  exact .skip ho hw hk
theorem At.op {v:Value} {h':AHeap} {S':σ} (ho:ops[i]?=some o) (hw:Region.wanted o (yieldedL ops tmps)=true) (hb:o.op.operands.all operB=true) (hop:Op0 X o (evA tmps) h S v h' S') (hl:h'.next=h.next∨h'.next≤VB)
    (hk:At X fn A ops k (i+1) (putL o.dst v tmps) h' S'):At X fn A ops k i tmps h S:=by
  unfold At
  rw [range_at ho]
  exact .op ho hw hb hop hl hk
theorem At.val (ho:ops[i]?=some o) (hw:Region.wanted o (yieldedL ops tmps)=true) (hb:o.op.operands.all operB=true)
    (hk:∀ K:List Value→AHeap→Prop,(∀ t h,At X fn A ops k (i+1) t h S→K t h)→OpK K o tmps h (valA P (evA tmps) h o.op)):At X fn A ops k i tmps h S:=by
  have:=hk _ (fun _ _ h=>h)
  cases hv:valA P (evA tmps) h o.op with
  | none=>rw [hv] at this;exact this.elim
  | some v=>rw [hv] at this;exact .op ho hw hb (.inl ⟨hv,rfl,rfl⟩) (.inl rfl) this
theorem At.new (ho:ops[i]?=some o) (hw:Region.wanted o (yieldedL ops tmps)=true) (hb:o.op.operands.all operB=true) (hl:h.next<VB)
    (hk:∀ K:List Value→AHeap→Prop,(∀ t h,At X fn A ops k (i+1) t h S→K t h)→NewK K o tmps h (newA P (evA tmps) h h.next o.op)):At X fn A ops k i tmps h S:=by
  have:=hk _ (fun _ _ h=>h)
  cases hv:newA P (evA tmps) h h.next o.op with
  | none=>rw [hv] at this;exact this.elim
  | some v =>
    obtain⟨v,ob⟩:=v
    rw [hv] at this
    exact .op ho hw hb (.inr (.inl ⟨ob,hv,rfl,rfl⟩)) (.inr hl) this
theorem At.wr (ho:ops[i]?=some o) (hw:Region.wanted o (yieldedL ops tmps)=true) (hb:o.op.operands.all operB=true) (hl:h.next<VB)
    (hk:∀ K:List Value→AHeap→Prop,(∀ t h,At X fn A ops k (i+1) t h S→K t h)→WrK K o tmps (wrA P (evA tmps) h o.op)):At X fn A ops k i tmps h S:=by
  have:=hk _ (fun _ _ h=>h)
  cases hv:wrA P (evA tmps) h o.op with
  | none=>rw [hv] at this;exact this.elim
  | some v =>
    obtain⟨v,h'⟩:=v
    rw [hv] at this
    exact .op ho hw hb (.inr (.inr (.inl ⟨hv,rfl⟩))) (by rcases wrA_next1 hv with h|h<;>omega) this
theorem At.store (ho:ops[i]?=some o) (hw:Region.wanted o (yieldedL ops tmps)=true) (hb:o.op.operands.all operB=true)
    (hk:∀ K:List Value→AHeap→Prop,(∀ t h,At X fn A ops k (i+1) t h S→K t h)→StoreK K o tmps (storeOp P (evA tmps) h o.op)):At X fn A ops k i tmps h S:=by
  have:=hk _ (fun _ _ h=>h)
  cases hv:storeOp P (evA tmps) h o.op with
  | none=>rw [hv] at this;exact this.elim
  | some h' =>
    rw [hv] at this
    obtain⟨t,x,y,a,h1,h2,h3⟩:=storeOp_spec hv
    obtain⟨b,s,_,_,_,_,_,_,_,rfl⟩:=storeA_spec h3
    exact .op ho hw hb (.inr (.inr (.inl ⟨storeOp_wr hv,rfl⟩))) (.inl rfl) this
theorem At.prim {g:Func} (ho:ops[i]?=some o) (hw:Region.wanted o (yieldedL ops tmps)=true) (hb:o.op.operands.all operB=true)
    (hk:CallK (fun f args=>P.funcs[f]?=some g∧goB g=true∧∃ v S',X.prim f args S v S'∧At X fn A ops k (i+1) (putL o.dst v tmps) h S') (callA P (evA tmps) o.op)):At X fn A ops k i tmps h S:=by
  cases hv:callA P (evA tmps) o.op with
  | none=>rw [hv] at hk;exact hk.elim
  | some x =>
    obtain⟨f,args⟩:=x
    rw [hv] at hk
    obtain⟨h1,h2,v,S',h3,h4⟩:=hk
    exact .op ho hw hb (.inr (.inr (.inr ⟨f,g,args,hv,h1,h2,h3,rfl⟩))) (.inl rfl) h4
theorem At.call (ho:ops[i]?=some o) (hw:Region.wanted o (yieldedL ops tmps)=true) (hb:o.op.operands.all operB=true)
    (hk:CallK (fun f args=>∃ v S',Does X f args [] S v S'∧At X fn A ops k (i+1) (putL o.dst v tmps) h S') (callA P (evA tmps) o.op)):At X fn A ops k i tmps h S:=by
  unfold At
  rw [range_at ho]
  cases hv:callA P (evA tmps) o.op with
  | none=>rw [hv] at hk;exact hk.elim
  | some x =>
    obtain⟨f,args⟩:=x
    rw [hv] at hk
    obtain⟨v,S',⟨g,c,h1,d1,d2,d3,d4,d5,d6⟩,h4⟩:=hk
    exact .call f g c args idE idE (heapL []) h1 [] v ho hw hb (call_bare h1 hv d1 d2 d3 d4 d5) (.inl rfl) d6 h4
inductive RGF (X:Face P σ) (W:List Nat) (ops:Array Oper) (n0:Nat) (hf:AHeap) (K:List Value→AHeap→σ→Prop):Nat→List Value→AHeap→σ→List (Nat × Nat)→Prop
  | nil' {i tmps h S born} (hn:ops.size=i) (hk:K tmps h S):RGF X W ops n0 hf K i tmps h S born
  | skip' {i tmps h S born o} (ho:ops[i]?=some o) (hw:Region.wanted o (yieldedL ops tmps)=false) (hk:RGF X W ops n0 hf K (i+1) (putL o.dst undef tmps) h S born):RGF X W ops n0 hf K i tmps h S born
  | far' {i tmps h S born o v} (ho:ops[i]?=some o) (hw:Region.wanted o (yieldedL ops tmps)=true) (hb:o.op.operands.all operB=true) (hq:wrB W i o=false) (hfar:farB W i=true) (hv:valA P (evA tmps) hf o.op=some v)
      (hk:RGF X W ops n0 hf K (i+1) (putL o.dst v tmps) h S born):RGF X W ops n0 hf K i tmps h S born
  | op' {i tmps h S born o v h' S'} (wr:Bool) (hnf:farB W i=false) (ho:ops[i]?=some o) (hw:Region.wanted o (yieldedL ops tmps)=true) (hb:o.op.operands.all operB=true) (hl:h'.next=h.next∨h'.next≤VB)
      (hop:if wr then wrB W i o=true∧Op0 X o (evA tmps) h S v h' S' else wrB W i o=false∧∃ hv,Op0 X o (evA tmps) (visH n0 born ((masksFrom ops.toList []).getD i 0) h) S v hv S'∧h'=glueH h hv)
      (hst:∀ n b,hf.get n=some b→n<n0→n0≤h.next→h'.get n=h.get n)
      (hk:RGF X W ops n0 hf K (i+1) (putL o.dst v tmps) h' S' (bornN i h.next h'.next++born)):RGF X W ops n0 hf K i tmps h S born
  | call' {i tmps h S born o v h' S'} (wr:Bool) (f:FuncId) (g:Func) (c:Code) (zs:Array Value) (E Q:Emb) (hc h1:AHeap) (ex:List Nat) (v0:Value) (hnf:farB W i=false) (ho:ops[i]?=some o) (hw:Region.wanted o (yieldedL ops tmps)=true) (hb:o.op.operands.all operB=true) (hl:h'.next=h.next∨h'.next≤VB)
      (hok:if wr then wrB W i o=true∧CallOK X o (evA tmps) h S v h' S' f g c zs E Q hc h1 ex v0 else wrB W i o=false∧∃ hv,CallOK X o (evA tmps) (visH n0 born ((masksFrom ops.toList []).getD i 0) h) S v hv S' f g c zs E Q hc h1 ex v0∧h'=glueH h hv)
      (hrun:Goes X g (fun x=>x=.done v0 h1 S') (.run (enterL g c zs).1 (enterL g c zs).2 hc S))
      (hst:∀ n b,hf.get n=some b→n<n0→n0≤h.next→h'.get n=h.get n)
      (hk:RGF X W ops n0 hf K (i+1) (putL o.dst v tmps) h' S' (bornN i h.next h'.next++born)):RGF X W ops n0 hf K i tmps h S born
  | callD' {i tmps h S born o v h1 S1} (f:FuncId) (g:Func) (c:Code) (args:Array Value) (hnf:farB W i=false) (ho:ops[i]?=some o) (hw:Region.wanted o (yieldedL ops tmps)=true) (hb:o.op.operands.all operB=true) (hl:h1.next=h.next∨h1.next≤VB) (hq:wrB W i o=true) (hle:h.next≤h1.next) (hlow:∀ n b,h1.get n=some b→n<h1.next)
      (hca:callA P (evA tmps) o.op=some (f,args)) (hfn:P.funcs[f]?=some g) (hg:goB g=true) (hbd:g.body=some c) (hrun:Goes X g (fun x=>x=.done v h1 S1) (.run (enterL g c args).1 (enterL g c args).2 h S))
      (hst:i<farU W ops.size→∀ n b,hf.get n=some b→n<n0→n0≤h.next→h1.get n=h.get n)
      (hk:RGF X W ops n0 hf K (i+1) (putL o.dst v tmps) h1 S1 (bornN i h.next h1.next++born)):RGF X W ops n0 hf K i tmps h S born
  | opU' {i tmps h S born o v h' S'} (hnf:farB W i=false) (ho:ops[i]?=some o) (hw:Region.wanted o (yieldedL ops tmps)=true) (hb:o.op.operands.all operB=true) (hl:h'.next=h.next∨h'.next≤VB)
      (hop:wrB W i o=true∧Op0 X o (evA tmps) h S v h' S') (hst:i<farU W ops.size→∀ n b,hf.get n=some b→n<n0→n0≤h.next→h'.get n=h.get n)
      (hk:RGF X W ops n0 hf K (i+1) (putL o.dst v tmps) h' S' (bornN i h.next h'.next++born)):RGF X W ops n0 hf K i tmps h S born
def RecOK (X:Face P σ) (W:List Nat) (ops:Array Oper) (n0:Nat) (hf:AHeap) (i:Nat) (rec:Nat→DRec σ):Prop :=
  (∀ j o,i≤j→ops[j]?=some o→GoodK X W ops n0 hf j o (rec j) (rec (j+1))) ∧
  (∀ j wr f g c zs E Q hc h1 ex v0,i≤j→j<ops.size→(rec j).kind=.call wr f g c zs E Q hc h1 ex v0→Goes X g (fun x=>x=.done v0 h1 (rec (j+1)).S) (.run (enterL g c zs).1 (enterL g c zs).2 hc (rec j).S)) ∧
  (∀ j,i≤j→j≤ops.size→j≤farU W ops.size→∀ n b,hf.get n=some b→n<n0→n0≤(rec i).h.next→n0≤(rec j).h.next∧(rec j).h.get n=(rec i).h.get n) ∧
  (∀ j f g c args,i≤j→j<ops.size→(rec j).kind=.callD f g c args→Goes X g (fun x=>x=.done (rec j).v (rec (j+1)).h (rec (j+1)).S) (.run (enterL g c args).1 (enterL g c args).2 (rec j).h (rec j).S))
theorem op0_next {o:Oper} {e:Operand→Value} {h h':AHeap} {S S':σ} {v:Value} (H:Op0 X o e h S v h' S'):h.next≤h'.next:=(op0_facts H).1
theorem RGF.recs {W:List Nat} {n0:Nat} {hf:AHeap} {K:List Value→AHeap→σ→Prop} {i:Nat} {tmps:List Value} {h:AHeap} {S:σ} {born:List (Nat × Nat)} (R:RGF X W ops n0 hf K i tmps h S born) :
    ∃ rec:Nat→DRec σ,(rec i).tmps=tmps∧(rec i).h=h∧(rec i).S=S∧(rec i).born=born∧RecOK X W ops n0 hf i rec∧K (rec ops.size).tmps (rec ops.size).h (rec ops.size).S:=by
  have ext:∀ {i:Nat} {tmps:List Value} {h:AHeap} {S:σ} {born:List (Nat × Nat)} {o:Oper} {h':AHeap} {S':σ} {born':List (Nat × Nat)} (v:Value) (kd:Kind),ops[i]?=some o →
      (∃ rec:Nat→DRec σ,(rec (i+1)).tmps=putL o.dst v tmps∧(rec (i+1)).h=h'∧(rec (i+1)).S=S'∧(rec (i+1)).born=born'∧RecOK X W ops n0 hf (i+1) rec∧K (rec ops.size).tmps (rec ops.size).h (rec ops.size).S) →
      (∀ q:DRec σ,q.tmps=putL o.dst v tmps→q.h=h'→q.S=S'→q.born=born'→GoodK X W ops n0 hf i o ⟨tmps,h,S,v,born,kd⟩ q)→(∀ wr f g c zs E Q hc h1 ex v0,kd=.call wr f g c zs E Q hc h1 ex v0→Goes X g (fun x=>x=.done v0 h1 S') (.run (enterL g c zs).1 (enterL g c zs).2 hc S)) →
      (∀ f g c args,kd=.callD f g c args→Goes X g (fun x=>x=.done v h' S') (.run (enterL g c args).1 (enterL g c args).2 h S)) →
      (h.next≤h'.next∧(i<farU W ops.size→∀ n b,hf.get n=some b→n<n0→n0≤h.next→h'.get n=h.get n)) →
      ∃ rec:Nat→DRec σ,(rec i).tmps=tmps∧(rec i).h=h∧(rec i).S=S∧(rec i).born=born∧RecOK X W ops n0 hf i rec∧K (rec ops.size).tmps (rec ops.size).h (rec ops.size).S:=by
    intro i tmps h S born o h' S' born' v kd ho ⟨rec,k1,k2,k3,k4,⟨k5,k6,k8,k9⟩,k7⟩ hq hcl hcd hst
    have hlt:=(Array.getElem?_eq_some_iff.1 ho).1
    refine⟨fun j=>if j=i then ⟨tmps,h,S,v,born,kd⟩ else rec j,by simp,by simp,by simp,by simp,⟨?_,?_,?_,?_⟩,?_⟩
    · intro j oj hj hoj
      by_cases hji:j=i
      · subst hji
        rw [ho] at hoj;cases hoj
        have:¬ j+1=j:=by omega
        simp only [if_true,this,if_false]
        exact hq _ k1 k2 k3 k4
      · have:¬ j+1=i:=by omega
        simp only [hji,this,if_false]
        exact k5 j oj (by omega) hoj
    · intro j wr f g c zs E Q hc h1 ex v0 hj hjl hk
      by_cases hji:j=i
      · subst hji
        have h2:¬ j+1=j:=by omega
        simp only [if_true,h2,if_false] at hk ⊢
        rw [k3]
        exact hcl wr f g c zs E Q hc h1 ex v0 hk
      · have h2:¬ j+1=i:=by omega
        simp only [hji,h2,if_false] at hk ⊢
        exact k6 j wr f g c zs E Q hc h1 ex v0 (by omega) hjl hk
    · intro j hj hjl hju n b hb hn hnx
      simp only [if_true] at hnx ⊢
      by_cases hji:j=i
      · subst hji
        exact⟨by simpa using hnx,by simp⟩
      · simp only [hji,if_false]
        have e1:=hst.2 (by omega) n b hb hn hnx
        obtain⟨q1,q2⟩:=k8 j (by omega) hjl hju n b hb hn (by rw [k2];have:=hst.1;omega)
        exact⟨q1,by rw [q2,k2,e1]⟩
    · intro j f g c args hj hjl hk
      by_cases hji:j=i
      · subst hji
        have h2:¬ j+1=j:=by omega
        simp only [if_true,h2,if_false] at hk ⊢
        rw [k2,k3]
        exact hcd f g c args hk
      · have h2:¬ j+1=i:=by omega
        simp only [hji,h2,if_false] at hk ⊢
        exact k9 j f g c args (by omega) hjl hk
    · have:¬ ops.size=i:=by omega
      simp only [this,if_false]
      exact k7
  induction R with
  | @nil' i tmps h S born hn hk =>
    refine⟨fun _=>⟨tmps,h,S,undef,born,.skip⟩,rfl,rfl,rfl,rfl,⟨fun j o hj hoj=>?_,fun j wr f g c zs E Q hc h1 ex v0 _ _ hk'=>(by cases hk'),fun j _ _ _ n b _ _ h=>⟨h,rfl⟩,fun j f g c args _ _ hk'=>(by cases hk')⟩,hk⟩
    have:=(Array.getElem?_eq_some_iff.1 hoj).1
    omega
  | skip' ho hw hk ih=>exact ext undef .skip ho ih (fun q h1 h2 h3 h4=>⟨h1,hw,rfl,h2,h3,h4⟩) (fun wr f g c zs E Q hc h1 ex v0 hk'=>by cases hk') (fun f g c args hk'=>by cases hk') ⟨Nat.le_refl _,fun _ _ _ _ _ _=>rfl⟩
  | @far' i tmps h S born o v ho hw hb hq hfar hv hk ih=>exact ext v .far ho ih (fun q h1 h2 h3 h4=>⟨h1,hw,hb,hq,hfar,hv,h2,h3,h4⟩) (fun wr f g c zs E Q hc h1 ex v0 hk'=>by cases hk') (fun f g c args hk'=>by cases hk') ⟨Nat.le_refl _,fun _ _ _ _ _ _=>rfl⟩
  | @op' i tmps h S born o v h' S' wr hnf ho hw hb hl hop hst hk ih =>
    refine ext v (.op wr) ho ih (fun q h1 h2 h3 h4=>⟨h1,hnf,hw,hb,by rw [h2];exact hl,by rw [h2];exact h4,by rw [h2,h3];exact hop⟩) (fun wr f g c zs E Q hc h1 ex v0 hk'=>by cases hk') (fun f g c args hk'=>by cases hk') ⟨?_,fun _=>hst⟩
    cases wr with
    | true=>exact op0_next hop.2
    | false =>
      obtain⟨_,hv,h1,rfl⟩:=hop
      have h2:=op0_next h1
      exact h2
  | @call' i tmps h S born o v h' S' wr f g c zs E Q hc h1 ex v0 hnf ho hw hb hl hok hrun hst hk ih =>
    refine ext v (.call wr f g c zs E Q hc h1 ex v0) ho ih (fun q k1 k2 k3 k4=>⟨k1,hnf,hw,hb,by rw [k2];exact hl,by rw [k2];exact k4,by rw [k2,k3];exact hok⟩) (fun wr f' g' c' zs' E' Q' hc' h1' ex' v0' hk'=>by cases hk';exact hrun) (fun f g c args hk'=>by cases hk') ⟨?_,fun _=>hst⟩
    cases wr with
    | true=>have:=hok.2.back.next;omega
    | false =>
      obtain⟨_,hv,k1,rfl⟩:=hok
      have:=k1.back.next
      show h.next≤hv.next
      rw [this]
      show h.next≤h.next+_
      omega
  | @opU' i tmps h S born o v h' S' hnf ho hw hb hl hop hst hk ih =>
    exact ext v (.op true) ho ih (fun q h1 h2 h3 h4=>⟨h1,hnf,hw,hb,by rw [h2];exact hl,by rw [h2];exact h4,by rw [h2,h3];exact hop⟩) (fun wr f g c zs E Q hc h1 ex v0 hk'=>by cases hk') (fun f g c args hk'=>by cases hk') ⟨op0_next hop.2,hst⟩
  | @callD' i tmps h S born o v h1 S1 f g c args hnf ho hw hb hl hq hle hlow hca hfn hg hbd hrun hst hk ih =>
    exact ext v (.callD f g c args) ho ih (fun q k1 k2 k3 k4=>⟨k1,hnf,hw,hb,by rw [k2];exact hl,by rw [k2];exact k4,hq,by rw [k2];exact hle,by rw [k2];exact hlow,hca,hfn,hg,hbd⟩) (fun wr f g c zs E Q hc h1 ex v0 hk'=>by cases hk') (fun f' g' c' args' hk'=>by cases hk';exact hrun) ⟨hle,hst⟩
theorem Goes.drawF {id:Nat} (W:List Nat) (hB:drawB W ops=true) (hf:AHeap) (hst:∀ n b,hf.get n=some b→n<h.next∧∃ b0,b={ b0 with ro:=true }∧h.get n=some b0) (hk:RGF X W ops h.next hf (fun t h S=>Goes X fn A (.run k t h S)) 0 tmps h S []):Goes X fn A (.run (.code (.region id ops true)::k) tmps h S):=by
  obtain⟨rec,h1,h2,h3,h4,⟨h5,h6,h8,h9⟩,h7⟩:=hk.recs
  refine .draw W rec hB ⟨h1,h2,h3,h4⟩ hf (fun n b hb=>?_) (fun j o ho=>h5 j o (Nat.zero_le _) ho) (fun j wr f g c zs E Q hc h1 ex v0 hj hkd=>h6 j wr f g c zs E Q hc h1 ex v0 (Nat.zero_le _) hj hkd) (fun j f g c args hj hkd=>h9 j f g c args (Nat.zero_le _) hj hkd) h7
  obtain⟨k1,b0,k2,k3⟩:=hst n b hb
  refine⟨k1,b0,k2,fun j hj hju=>?_⟩
  rw [(h8 j (Nat.zero_le _) hj hju n b hb k1 (by rw [h2];exact Nat.le_refl _)).2,h2]
  exact k3
abbrev RG (X:Face P σ) (W:List Nat) (ops:Array Oper) (n0:Nat) (K:List Value→AHeap→σ→Prop):Nat→List Value→AHeap→σ→List (Nat × Nat)→Prop:=RGF X W ops n0 AHeap.none K
theorem Goes.drawR {id:Nat} (W:List Nat) (hB:drawB W ops=true) (hk:RG X W ops h.next (fun t h S=>Goes X fn A (.run k t h S)) 0 tmps h S []):Goes X fn A (.run (.code (.region id ops true)::k) tmps h S) :=
  .drawF W hB AHeap.none (fun n b hb=>by cases hb) hk
section
variable {W:List Nat} {n0:Nat} {hf:AHeap} {K:List Value→AHeap→σ→Prop} {born:List (Nat × Nat)}
theorem RG.nil' (hn:ops.size=i) (hk:K tmps h S):RGF X W ops n0 hf K i tmps h S born:=RGF.nil' hn hk
theorem RG.skip' (ho:ops[i]?=some o) (hw:Region.wanted o (yieldedL ops tmps)=false) (hk:RGF X W ops n0 hf K (i+1) (putL o.dst undef tmps) h S born):RGF X W ops n0 hf K i tmps h S born:=RGF.skip' ho hw hk
end
section
variable {n0:Nat} {K:List Value→AHeap→σ→Prop} {born:List (Nat × Nat)} {v:Value} {h':AHeap} {S':σ}
end
variable {W:List Nat} {n0:Nat} {Kf:List Value→AHeap→σ→Prop} {born:List (Nat × Nat)}
theorem glue_vis (hl:h.Low) {n0 mask:Nat}:glueH h (visH n0 born mask h)=h:=by
  unfold glueH visH
  cases h with
  | mk get next =>
    congr 1
    funext n
    simp only
    split
    · rw [if_neg (by omega)]
      cases hg:get n with
      | none=>rfl
      | some b=>have:=hl n b hg;simp only at this;omega
    · rfl
theorem glue_vis_add (hl:h.Low) {n0 mask:Nat} (ob:Option Blk):glueH h ((visH n0 born mask h).addO ob)=h.addO ob:=by
  unfold glueH visH AHeap.addO
  congr 1
  funext n
  simp only
  by_cases h1:n=h.next
  · rw [if_pos (by omega),if_pos (by omega),if_pos h1,if_pos h1]
  · rw [if_neg h1]
    by_cases h2:h.next≤n
    · rw [if_pos h2,if_neg (by omega),if_neg h1]
      cases hg:h.get n with
      | none=>rfl
      | some b=>have:=hl n b hg;omega
    · rw [if_neg h2,if_neg h1]
theorem bornN_one (i n:Nat):bornN i n (n+1)=[(i,n)]:=by
  unfold bornN
  rw [show n+1 - n=1 by omega]
  rfl
variable {hf:AHeap}
theorem RG.nil (hn:(ops.size==i)=true) (hk:Kf tmps h S):RGF X W ops n0 hf Kf i tmps h S born:=.nil' (by simpa using hn) hk
theorem RG.still {v:Value} {S':σ} (hl:h.Low) (ho:ops[i]?=some o) (hw:Region.wanted o (yieldedL ops tmps)=true) (hb:o.op.operands.all operB=true) (hq:wrB W i o=false) (hop:Op0 X o (evA tmps) (visH n0 born ((masksFrom ops.toList []).getD i 0) h) S v (visH n0 born ((masksFrom ops.toList []).getD i 0) h) S')
    (hk:RGF X W ops n0 hf Kf (i+1) (putL o.dst v tmps) h S' born) (hnf:farB W i=false:=by rfl):RGF X W ops n0 hf Kf i tmps h S born :=
  .op' (h':=h) false hnf ho hw hb (.inl rfl) ⟨hq,_,hop,(glue_vis hl).symm⟩ (fun _ _ _ _ _=>rfl) (by rw [bornN_nil];exact hk)
theorem RG.skip (ho:ops[i]?=some o) (hw:Region.wanted o (yieldedL ops tmps)=false) (hk:RGF X W ops n0 hf Kf (i+1) (putL o.dst undef tmps) h S born):RGF X W ops n0 hf Kf i tmps h S born:=.skip' ho hw hk
def lowH (n0:Nat) (h:AHeap):AHeap:=⟨fun n=>if n<n0 then h.get n else none,h.next⟩
theorem low_vis {n0 mask:Nat} {n:Nat} {b:Blk} (hb:(lowH n0 h).get n=some b):(visH n0 born mask h).get n=some { b with ro:=true }:=by
  unfold lowH at hb
  simp only at hb
  split at hb
  · rename_i hn
    unfold visH
    simp only [hn,true_or,if_true,hb,Option.map_some]
  · cases hb
theorem loadA_low {n0 mask:Nat} {t:TypeId} {a:Addr} {v:Value} (hv:loadA P (lowH n0 h) t a=some v):loadA P (visH n0 born mask h) t a=some v:=by
  unfold loadA at hv ⊢
  cases hg:(lowH n0 h).get a.block with
  | none=>rw [hg] at hv;simp at hv
  | some b =>
    rw [hg] at hv;rw [low_vis hg]
    revert hv
    generalize tyAgg P t=q1
    generalize tySize P t=q2
    intro hv
    rcases q1 with _|q1|q1<;>rcases q2 with _|q2<;>exact hv
theorem sliceA_low {n0 mask:Nat} {t:TypeId} {x v:Value} {lo hi mx:Option Value} (hv:sliceA P (lowH n0 h) t x lo hi mx=some v):sliceA P (visH n0 born mask h) t x lo hi mx=some v:=by
  unfold sliceA at hv ⊢
  split at hv
  · rename_i a len cap _
    cases hg:(lowH n0 h).get a.block with
    | none =>
      rw [hg] at hv
      split at hv
      · split at hv
        · split at hv
          · rename_i h1 h2;simp_all
          · cases hv
        · cases hv
      · cases hv
    | some b=>rw [hg] at hv;rw [low_vis hg];exact hv
  · exact hv
  · rename_i n el a _ _
    cases hg:(lowH n0 h).get a.block with
    | none=>rw [hg] at hv;simp at hv
    | some b =>
      rw [hg] at hv;rw [low_vis hg]
      revert hv
      generalize boundA lo 0=q1
      generalize boundA hi n=q2
      generalize tySize P el=q3
      intro hv
      rcases q1 with _|q1<;>rcases q2 with _|q2<;>rcases q3 with _|q3<;>exact hv
  · cases hv
theorem valA_low {n0 mask:Nat} {e:Operand→Value} {v:Value} (hv:valA P e (lowH n0 h) o.op=some v):valA P e (visH n0 born mask h) o.op=some v:=by
  cases hl:isLoadO o with
  | false=>rw [valA_heap (h':=lowH n0 h) hl];exact hv
  | true =>
    unfold isLoadO at hl
    split at hl
    · rename_i t x hop
      rw [hop] at hv ⊢
      simp only [valA] at hv ⊢
      split at hv
      · exact loadA_low hv
      · cases hv
    · rename_i t x lo hi mx hop
      rw [hop] at hv ⊢
      exact sliceA_low hv
    · cases hl
theorem Goes.cond {c:Operand} {x y:Code} {b:Bool} (hc:evA tmps c=.bool b) (h1:b=true→Goes X fn A (.run (.code x::k) tmps h S)) (h2:b=false→Goes X fn A (.run (.code y::k) tmps h S)):Goes X fn A (.run (.code (.cond c x y)::k) tmps h S):=by
  refine .ctl (todo':=.code (if b then x else y)::k) (by simp only [Go.Proofs.Ytkjnamhgemidkaa.ctl,hc]) ?_
  cases b with
  | true=>exact h1 rfl
  | false=>exact h2 rfl
theorem Goes.fin {v:Value} {S':σ} (ht:retB todo=true) (hv:resA P fn tmps h=some v) (hS:S=S'):Goes X fn (fun x=>∃ h1,x=.done v h1 S') (.run todo tmps h S) :=
  .ret ht hv (.here ⟨h,by rw [hS]⟩)
def opOK:Op→Bool
  | .alloc _|.ready _|.waits _=>true
  | .move x|.assign x|.box _ x|.load _ x|.nilCheck x|.unOp _ _ x|.convert _ _ x|.makeInterface _ x|.makeChan _ x|.fieldAddr _ x _|.field _ x _|.extract x _|.panic x=>operB x
  | .pick c a b=>operB c && operB a && operB b
  | .store _ a v|.binOp _ _ a v _|.makeSlice _ a v|.indexAddr _ a v|.index _ a v=>operB a && operB v
  | .makeFunc _ xs ys=>xs.toList.all operB && ys.toList.all operB
  | .build _ ps|.buildSlice _ _ ps=>ps.toList.all fun p=>operB p.2
  | .slice _ x l h m=>operB x && l.all operB && h.all operB && m.all operB
  | .call c=>(match c.callee with|.value f=>operB f|.invoke r _=>operB r|.builtin _=>true) && c.args.toList.all operB
  | _=>false
theorem all_mem {l:Array Operand} (h:l.toList.all operB=true):∀ x∈l,operB x=true:=fun x hx=>List.all_eq_true.1 h x (by simpa using hx)
theorem all_parts {l:Array (Nat × Operand)} (h:(l.toList.all fun p=>operB p.2)=true):∀ x∈(l.toList.map (·.2)).toArray,operB x=true:=fun x hx=>by
  obtain⟨p,hp,rfl⟩:=List.mem_map.1 (by simpa using hx:x∈l.toList.map (·.2))
  exact List.all_eq_true.1 h p hp
theorem opOK_all {o:Op} (h:opOK o=true):o.operands.all operB=true:=by
  rw [Array.all_eq_true_iff_forall_mem]
  intro x hx
  cases o with
  | makeFunc fn xs ys =>
    simp only [opOK,Bool.and_eq_true] at h
    rcases Array.mem_append.1 hx with hx|hx
    · exact all_mem h.1 x hx
    · exact all_mem h.2 x hx
  | build t ps=>exact all_parts h x hx
  | buildSlice t n ps=>exact all_parts h x hx
  | call c =>
    simp only [opOK,Bool.and_eq_true] at h
    unfold Op.operands Call.operands at hx
    rcases Array.mem_append.1 hx with hx|hx
    · have h1:=h.1
      cases hc:c.callee<;>simp_all
    · exact all_mem h.2 x hx
  | slice t x' l hh m =>
    simp only [opOK,Bool.and_eq_true] at h
    obtain⟨⟨⟨h1,h2⟩,h3⟩,h4⟩:=h
    unfold Op.operands at hx
    cases l<;>cases hh<;>cases m<;>simp_all<;>rcases hx with rfl|rfl|rfl|rfl<;>simp_all
  | _=>simp_all [opOK,Op.operands]<;>(try (rcases hx with rfl|rfl|rfl<;>simp_all))<;>(try (rcases hx with rfl|rfl<;>simp_all))
theorem at_list (ho:ops.toList[i]?=some o):ops[i]?=some o:=by rw [←ho];simp
theorem AtL.skip (ho:ops.toList[i]?=some o) (hw:Region.wanted o (yieldedL ops tmps)=false) (hk:At X fn A ops k (i+1) (putL o.dst undef tmps) h S):At X fn A ops k i tmps h S:=At.skip (at_list ho) hw hk
theorem AtL.val (ho:ops.toList[i]?=some o) (hw:Region.wanted o (yieldedL ops tmps)=true) (hb:opOK o.op=true)
    (hk:∀ K:List Value→AHeap→Prop,(∀ t h,At X fn A ops k (i+1) t h S→K t h)→OpK K o tmps h (valA P (evA tmps) h o.op)):At X fn A ops k i tmps h S:=At.val (at_list ho) hw (opOK_all hb) hk
theorem AtL.new (ho:ops.toList[i]?=some o) (hw:Region.wanted o (yieldedL ops tmps)=true) (hb:opOK o.op=true) (hl:h.next<VB)
    (hk:∀ K:List Value→AHeap→Prop,(∀ t h,At X fn A ops k (i+1) t h S→K t h)→NewK K o tmps h (newA P (evA tmps) h h.next o.op)):At X fn A ops k i tmps h S:=At.new (at_list ho) hw (opOK_all hb) hl hk
theorem AtL.wr (ho:ops.toList[i]?=some o) (hw:Region.wanted o (yieldedL ops tmps)=true) (hb:opOK o.op=true) (hl:h.next<VB)
    (hk:∀ K:List Value→AHeap→Prop,(∀ t h,At X fn A ops k (i+1) t h S→K t h)→WrK K o tmps (wrA P (evA tmps) h o.op)):At X fn A ops k i tmps h S:=At.wr (at_list ho) hw (opOK_all hb) hl hk
theorem AtL.store (ho:ops.toList[i]?=some o) (hw:Region.wanted o (yieldedL ops tmps)=true) (hb:opOK o.op=true)
    (hk:∀ K:List Value→AHeap→Prop,(∀ t h,At X fn A ops k (i+1) t h S→K t h)→StoreK K o tmps (storeOp P (evA tmps) h o.op)):At X fn A ops k i tmps h S:=At.store (at_list ho) hw (opOK_all hb) hk
theorem cellsA_low {n0 mask s:Nat} {v:Value} {cs:List Value} (hv:cellsA (lowH n0 h) s v=some cs):cellsA (visH n0 born mask h) s v=some cs:=by
  unfold cellsA at hv ⊢
  split at hv
  · exact hv
  · rename_i a n c
    cases hg:(lowH n0 h).get a.block with
    | none =>
      rw [hg] at hv
      split at hv
      · rename_i h0;simp only [h0,if_true];exact hv
      · split at hv
        · cases hv
        · cases hv
    | some b=>rw [hg] at hv;rw [low_vis hg];exact hv
  · cases hv
theorem appendA_low {n0 mask:Nat} {t:TypeId} {x y:Value} {r:List Value × TypeId × Nat} (hv:appendA P (lowH n0 h) t x y=some (r.1,r.2.1,r.2.2,true)):appendA P (visH n0 born mask h) t x y=some (r.1,r.2.1,r.2.2,true):=by
  unfold appendA at hv ⊢
  cases hsl:tySlice P t with
  | none=>rw [hsl] at hv;cases hv
  | some el =>
    rw [hsl] at hv
    simp only at hv ⊢
    cases h1:cellsA (lowH n0 h) ((tySize P el).getD 0) x with
    | none=>rw [h1] at hv;simp at hv
    | some olds =>
      cases h2:cellsA (lowH n0 h) ((tySize P el).getD 0) y with
      | none=>rw [h1,h2] at hv;simp at hv
      | some news =>
        rw [h1,h2] at hv
        rw [cellsA_low h1,cellsA_low h2]
        split at hv
        · rename_i s bs z olds' news' a sl sc b n c hs hbs hz ho hn
          cases ho;cases hn
          split at hv
          · rename_i hc
            rw [if_pos hc]
            split at hv
            · exact hv
            · rename_i ad
              cases hg:(lowH n0 h).get ad.block with
              | none=>rw [hg] at hv;cases hv
              | some bk =>
                rw [hg] at hv
                simp only [low_vis hg] at hv ⊢
                split at hv
                · rename_i hgr;rw [if_pos hgr];exact hv
                · split at hv
                  · simp at hv
                  · cases hv
          · cases hv
        · cases hv
theorem newA_low {n0 mask n:Nat} {e:Operand→Value} {v:Value × Option Blk} (hv:newA P e (lowH n0 h) n o.op=some v) (hne:∀ t x lo hi mx,o.op≠.slice t x lo hi mx):newA P e (visH n0 born mask h) n o.op=some v:=by
  revert hv
  generalize o.op=op at hne
  intro hv
  unfold newA at hv ⊢
  split at hv
  · exact hv
  · exact hv
  · exact hv
  · exact hv
  · split at hv
    · rename_i x y t t' hx ht
      split at hv
      · rename_i htt
        split at hv
        · rename_i news el need hap
          have:=appendA_low (mask:=mask) (born:=born) (r:=(news,el,need)) hap
          simp only [if_pos htt,this]
          exact hv
        · cases hv
      · cases hv
    · cases hv
  · exact absurd rfl (hne _ _ _ _ _)
  · cases hv
def noEnd:Op→Bool
  | .slice ..=>false
  | _=>true
theorem RGL.skip (ho:ops.toList[i]?=some o) (hw:Region.wanted o (yieldedL ops tmps)=false) (hk:RGF X W ops n0 hf Kf (i+1) (putL o.dst undef tmps) h S born):RGF X W ops n0 hf Kf i tmps h S born:=RG.skip (at_list ho) hw hk
theorem RGL.val (hl:h.Low) (ho:ops.toList[i]?=some o) (hw:Region.wanted o (yieldedL ops tmps)=true) (hb:opOK o.op=true) (hq:wrB W i o=false)
    (hk:∀ K:List Value→AHeap→Prop,(∀ t h,RGF X W ops n0 hf Kf (i+1) t h S born→K t h)→OpK K o tmps h (valA P (evA tmps) (lowH n0 h) o.op)) (hnf:farB W i=false:=by rfl):RGF X W ops n0 hf Kf i tmps h S born:=by
  have:=hk _ (fun _ _ h=>h)
  cases hv:valA P (evA tmps) (lowH n0 h) o.op with
  | none=>rw [hv] at this;exact this.elim
  | some v=>rw [hv] at this;exact RG.still hl (at_list ho) hw (opOK_all hb) hq (.inl ⟨valA_low hv,rfl,rfl⟩) this hnf
theorem RGL.new (hl:h.Low) (ho:ops.toList[i]?=some o) (hw:Region.wanted o (yieldedL ops tmps)=true) (hb:opOK o.op=true) (hq:wrB W i o=false) (hn:h.next<VB) (hne:noEnd o.op=true)
    (hk:∀ K:List Value→AHeap→Prop,(∀ t h',RGF X W ops n0 hf Kf (i+1) t h' S ((i,h.next)::born)→K t h')→NewK K o tmps h (newA P (evA tmps) (lowH n0 h) h.next o.op)) (hnf:farB W i=false:=by rfl):RGF X W ops n0 hf Kf i tmps h S born:=by
  have:=hk _ (fun _ _ h=>h)
  cases hv:newA P (evA tmps) (lowH n0 h) h.next o.op with
  | none=>rw [hv] at this;exact this.elim
  | some v =>
    obtain⟨v,ob⟩:=v
    rw [hv] at this
    refine .op' (h':=h.addO ob) (v:=v) (S':=S) false hnf (at_list ho) hw (opOK_all hb) (.inr hn) ⟨hq,_,.inr (.inl ⟨ob,newA_low hv (fun t x lo hi mx he=>by rw [he] at hne;cases hne),rfl,rfl⟩),(glue_vis_add hl ob).symm⟩ (fun n b _ h1 h2=>by rw [AHeap.addO_get,if_neg (by omega)]) ?_
    rw [show (h.addO ob).next=h.next+1 from rfl,bornN_one]
    exact this
theorem RGL.store (ho:ops.toList[i]?=some o) (hw:Region.wanted o (yieldedL ops tmps)=true) (hb:opOK o.op=true)
    (hk:∀ K:List Value→AHeap→Prop,(∀ t h,RG X W ops n0 Kf (i+1) t h S born→K t h)→StoreK K o tmps (storeOp P (evA tmps) h o.op)) (hnf:farB W i=false:=by rfl):RG X W ops n0 Kf i tmps h S born:=by
  have:=hk _ (fun _ _ h=>h)
  cases hv:storeOp P (evA tmps) h o.op with
  | none=>rw [hv] at this;exact this.elim
  | some h' =>
    rw [hv] at this
    obtain⟨t,x,y,a,h1,h2,h3⟩:=storeOp_spec hv
    obtain⟨b,s,_,_,_,_,_,_,_,rfl⟩:=storeA_spec h3
    have hop:Op0 X o (evA tmps) h S undef (h.put a.block { b with cells:=spliceA b.cells a.off (evA tmps y).cells.toList }) S:=.inr (.inr (.inl ⟨storeOp_wr hv,rfl⟩))
    refine RGF.op' (h':=h.put a.block { b with cells:=spliceA b.cells a.off (evA tmps y).cells.toList }) true hnf (at_list ho) hw (opOK_all hb) (.inl rfl) ⟨by unfold wrB isStoreO;rw [h1];rfl,hop⟩ (fun n b hb=>by cases hb) ?_
    rw [AHeap.put_next,bornN_nil]
    exact this
theorem RGL.wr (ho:ops.toList[i]?=some o) (hw:Region.wanted o (yieldedL ops tmps)=true) (hb:opOK o.op=true) (hn:h.next<VB) (hq:wrB W i o=true)
    (hk:∀ K:List Value→AHeap→Prop,(∀ t h',RG X W ops n0 Kf (i+1) t h' S (bornN i h.next h'.next++born)→K t h')→WrK K o tmps (wrA P (evA tmps) h o.op)) (hnf:farB W i=false:=by rfl):RG X W ops n0 Kf i tmps h S born:=by
  have:=hk _ (fun _ _ h=>h)
  cases hv:wrA P (evA tmps) h o.op with
  | none=>rw [hv] at this;exact this.elim
  | some v =>
    obtain⟨v,h'⟩:=v
    rw [hv] at this
    exact RGF.op' true hnf (at_list ho) hw (opOK_all hb) (by rcases wrA_next1 hv with h|h<;>omega) ⟨hq,.inr (.inr (.inl ⟨hv,rfl⟩))⟩ (fun n b hb=>by cases hb) this
theorem RG.prim {g:Func} (hl:h.Low) (ho:ops[i]?=some o) (hw:Region.wanted o (yieldedL ops tmps)=true) (hb:o.op.operands.all operB=true) (hq:wrB W i o=false)
    (hk:CallK (fun f args=>P.funcs[f]?=some g∧goB g=true∧∃ v S',X.prim f args S v S'∧RGF X W ops n0 hf Kf (i+1) (putL o.dst v tmps) h S' born) (callA P (evA tmps) o.op)) (hnf:farB W i=false:=by rfl):RGF X W ops n0 hf Kf i tmps h S born:=by
  cases hv:callA P (evA tmps) o.op with
  | none=>rw [hv] at hk;exact hk.elim
  | some x =>
    obtain⟨f,args⟩:=x
    rw [hv] at hk
    obtain⟨h1,h2,v,S',h3,h4⟩:=hk
    exact RG.still hl ho hw hb hq (.inr (.inr (.inr ⟨f,g,args,hv,h1,h2,h3,rfl⟩))) h4 hnf
theorem RG.call (hl:h.Low) (ho:ops[i]?=some o) (hw:Region.wanted o (yieldedL ops tmps)=true) (hb:o.op.operands.all operB=true) (hq:wrB W i o=false)
    (hk:CallK (fun f args=>∃ v S',Does X f args [] S v S'∧RGF X W ops n0 hf Kf (i+1) (putL o.dst v tmps) h S' born) (callA P (evA tmps) o.op)) (hnf:farB W i=false:=by rfl):RGF X W ops n0 hf Kf i tmps h S born:=by
  cases hv:callA P (evA tmps) o.op with
  | none=>rw [hv] at hk;exact hk.elim
  | some x =>
    obtain⟨f,args⟩:=x
    rw [hv] at hk
    obtain⟨v,S',⟨g,c,h1,d1,d2,d3,d4,d5,d6⟩,h4⟩:=hk
    refine .call' (h':=h) false f g c args idE idE (heapL []) h1 [] v hnf ho hw hb (.inl rfl) ⟨hq,_,call_bare h1 hv d1 d2 d3 d4 d5,(glue_vis hl).symm⟩ d6 (fun _ _ _ _ _=>rfl) ?_
    rw [bornN_nil]
    exact h4
theorem Goes.trans {B:Conf σ→Prop} {c:Conf σ} (G:Goes X fn A c) (hAB:∀ x,A x→Goes X fn B x):Goes X fn B c:=by
  induction G with
  | here h=>exact hAB _ h
  | ctl hc _ ih=>exact .ctl hc (ih hAB)
  | ret ht hv _ ih=>exact .ret ht hv (ih hAB)
  | skip ho hw _ ih=>exact .skip ho hw (ih hAB)
  | op ho hw hb hop hl _ ih=>exact .op ho hw hb hop hl (ih hAB)
  | call f g c zs E Q hc h1 ex v0 ho hw hb hok hl hrun _ _ ih=>exact .call f g c zs E Q hc h1 ex v0 ho hw hb hok hl hrun (ih hAB)
  | callD f g c args v h1 S1 ho hw hb hca hf hg hbd hrun _ _ ih=>exact .callD f g c args v h1 S1 ho hw hb hca hf hg hbd hrun (ih hAB)
  | draw W rec hB h0 hf hst hgood hcalls hcallsD _ _ _ ih=>exact .draw W rec hB h0 hf hst hgood hcalls hcallsD (ih hAB)
  | weak hs hn _ ih=>exact .weak hs hn (ih hAB)
  | raise hg hn hl _ ih=>exact .raise hg hn hl (ih hAB)
theorem Goes.mono {B:Conf σ→Prop} {c:Conf σ} (G:Goes X fn A c) (hAB:∀ x,A x→B x):Goes X fn B c:=G.trans fun x h=>.here (hAB x h)
theorem Goes.out {c:Conf σ} (G:Goes X fn A c):∃ c',A c'∧Goes X fn (fun x=>x=c') c:=by
  induction G with
  | here h=>exact⟨_,h,.here rfl⟩
  | ctl hc _ ih=>obtain⟨c',h,G⟩:=ih;exact⟨c',h,.ctl hc G⟩
  | ret ht hv _ ih=>obtain⟨c',h,G⟩:=ih;exact⟨c',h,.ret ht hv G⟩
  | skip ho hw _ ih=>obtain⟨c',h,G⟩:=ih;exact⟨c',h,.skip ho hw G⟩
  | op ho hw hb hop hl _ ih=>obtain⟨c',h,G⟩:=ih;exact⟨c',h,.op ho hw hb hop hl G⟩
  | call f g c zs E Q hc h1 ex v0 ho hw hb hok hl hrun _ _ ih=>obtain⟨c',h,G⟩:=ih;exact⟨c',h,.call f g c zs E Q hc h1 ex v0 ho hw hb hok hl hrun G⟩
  | callD f g c args v h1 S1 ho hw hb hca hf hg hbd hrun _ _ ih=>obtain⟨c',h,G⟩:=ih;exact⟨c',h,.callD f g c args v h1 S1 ho hw hb hca hf hg hbd hrun G⟩
  | draw W rec hB h0 hf hst hgood hcalls hcallsD _ _ _ ih=>obtain⟨c',h,G⟩:=ih;exact⟨c',h,.draw W rec hB h0 hf hst hgood hcalls hcallsD G⟩
  | weak hs hn _ ih=>obtain⟨c',h,G⟩:=ih;exact⟨c',h,.weak hs hn G⟩
  | raise hg hn hl _ ih=>obtain⟨c',h,G⟩:=ih;exact⟨c',h,.raise hg hn hl G⟩
theorem Does.mk {f:FuncId} {g:Func} {c:Code} {args:Array Value} {l:List Blk} {S S':σ} {v:Value} (hf:P.funcs[f]?=some g) (hg:goB g=true) (hb:g.body=some c) (hclo:∀ u∈args.toList,Clo (Kn l.length (X.cnt S)) u) (hv:Hand (X.cnt S') v)
    (hrun:Goes X g (fun x=>∃ h1,x=.done v h1 S') (.run [.code c] (args.toList++List.replicate (g.ntmps - args.size) undef) (heapL (l.map some)) S)):Does X f args l S v S':=by
  obtain⟨c',⟨h1,rfl⟩,G⟩:=hrun.out
  exact⟨g,c,h1,hf,hg,hb,hclo,hv,G⟩
end
theorem Try.mix:Try.prog.follows .mixedOrders=true:=by kernel_rfl
def gM (N T:Nat):Nat:=T * 4 * (N+1)+T * (2 * T+3)
def gsz (N T:Nat):Nat→Nat
  | 0=>1|1=>1|2=>5|3=>9|4=>1|5=>4|6=>T|7=>N|8=>N|9=>N|10=>N * 8|11=>N * 8
  | 12=>T * 4 * 2|13=>T * 4|14=>T * 2|15=>T|16=>T * (2 * T+2)|17=>gM N T|18=>gM N T * 8|_=>0
def gsum (N T:Nat):Nat→Nat
  | 0=>0
  | i+1=>gsum N T i+gsz N T i
def gb (N T i:Nat):Nat:=if N=0 then 0 else gsum N T i
def geoC (N T:Nat):Array Value:=#[.int .i64 N,.int .i64 T]++((List.range 20).map fun i=>Value.int .i64 (gb N T i)).toArray
theorem gsz_le (N T i:Nat) (hN:N≤256) (hT:T≤64):gsz N T i≤600000:=by
  have h1:T * 4 * (N+1)≤64 * 4 * 257:=Nat.mul_le_mul (by omega) (by omega)
  have h2:T * (2 * T+3)≤64 * 131:=Nat.mul_le_mul hT (by omega)
  have h3:T * (2 * T+2)≤64 * 130:=Nat.mul_le_mul hT (by omega)
  have h4:gM N T≤74176:=by unfold gM;omega
  unfold gsz;split<;>omega
theorem gsum_le (N T:Nat) (hN:N≤256) (hT:T≤64):∀ i,gsum N T i≤600000 * i
  | 0=>Nat.le_refl _
  | i+1=>by have:=gsum_le N T hN hT i;have:=gsz_le N T i hN hT;rw [gsum];omega
theorem gb_le (N T i:Nat) (hN:N≤256) (hT:T≤64) (hi:i<20):gb N T i≤12000000:=by
  unfold gb;split
  · omega
  · have:=gsum_le N T hN hT i;omega
def gat (N T r:Nat) (n:Int):Int:=if n<0∨(gb N T (r+1):Int) - gb N T r≤n then -1 else gb N T r+n
theorem gat_neg (N T r:Nat) {n:Int} (h:n<0):gat N T r n=-1:=if_pos (.inl h)
theorem gat_far (N T r:Nat) {n:Int} (h:(gb N T (r+1):Int) - gb N T r≤n):gat N T r n=-1:=if_pos (.inr h)
theorem gat_in (N T r:Nat) {n:Int} (h0:0≤n) (h:n<(gb N T (r+1):Int) - gb N T r):gat N T r n=gb N T r+n:=if_neg (by omega)
def gin (n k many:Int):Int:=if n<0∨1073741824<n∨k<0∨many≤k then -1 else n * many+k
theorem loadAt_geo (v:Value):Instr.loadAt 77 v=oldLoadAt 77 v:=rfl
theorem storeAt_geo (v u:Value):Instr.storeAt 77 v u=oldStoreAt 77 v u:=rfl
attribute [go_sem ↓] loadAt_geo storeAt_geo
theorem gM_cast (N T:Nat):(gM N T:Int)=(T:Int) * 4 * (N+1)+(T:Int) * (2 * T+3):=by
  unfold gM;push_cast;rfl
def gCache (N T:Nat) (th cl sl:Int):Int:=gat N T 12 (gin (gin th cl 4) sl 2)
theorem loadAt_sz (v:Value):Instr.loadAt 150 v=oldLoadAt 150 v:=rfl
theorem storeAt_sz (v u:Value):Instr.storeAt 150 v u=oldStoreAt 150 v u:=rfl
attribute [local go_sem ↓] loadAt_sz storeAt_sz
def wcells (ws:List UInt64):Array Value:=(ws.map fun x=>Value.int .u64 (x.toNat:Int)).toArray
def bcells (bs:List UInt8):Array Value:=(bs.map fun x=>Value.int .u8 (x.toNat:Int)).toArray
structure MemId where
  m:Nat
  bw:Nat
  bb:Nat
  pw:Array Value:=#[]
  pb:Array Value:=#[]
def memC (M:MemId) (ws:List UInt64) (bs:List UInt8):Array Value :=
  #[.slice (some ⟨M.bw,0,none⟩) ws.length (ws.length+M.pw.size),.slice (some ⟨M.bb,0,none⟩) bs.length (bs.length+M.pb.size)]
structure MemAt (w:World) (M:MemId) (ws:List UInt64) (bs:List UInt8):Prop where
  hm:blk w M.m=some (.cells (memC M ws bs) 123 (0,0))
  hw:blk w M.bw=some (.cells (wcells ws++M.pw) 26 (0,0))
  hb:blk w M.bb=some (.cells (bcells bs++M.pb) 5 (0,0))
  wl:ws.length≤2097152
  bl:bs.length≤1048576
theorem cells_type {w:World} {a b:Nat} {c d:Array Value} {s t:TypeId} {f g:Nat × Nat} (h:blk w a=some (.cells c s f)) (k:blk w b=some (.cells d t g)) (hne:s≠t):a≠b:=by
  rintro rfl
  rw [h] at k
  injection k with k
  injection k with _ k _
  exact hne k
theorem MemAt.ext {w w':World} {M:MemId} {ws:List UInt64} {bs:List UInt8} {X:List Nat} (h:MemAt w M ws bs) (k:Ext X w w') (h1:M.m ∉ X) (h2:M.bw ∉ X) (h3:M.bb ∉ X):MemAt w' M ws bs :=
  ⟨k.blk h.hm h1,k.blk h.hw h2,k.blk h.hb h3,h.wl,h.bl⟩
theorem MemAt.ext0 {w w':World} {M:MemId} {ws:List UInt64} {bs:List UInt8} (h:MemAt w M ws bs) (k:Ext [] w w'):MemAt w' M ws bs:=h.ext k (by simp) (by simp) (by simp)
theorem MemAt.c0 {w:World} {M:MemId} {ws:List UInt64} {bs:List UInt8} (h:MemAt w M ws bs):w.cell? ⟨M.m,0,none⟩=some (.slice (some ⟨M.bw,0,none⟩) ws.length (ws.length+M.pw.size)):=blk_cell h.hm 0
theorem MemAt.c1 {w:World} {M:MemId} {ws:List UInt64} {bs:List UInt8} (h:MemAt w M ws bs):w.cell? ⟨M.m,1,none⟩=some (.slice (some ⟨M.bb,0,none⟩) bs.length (bs.length+M.pb.size)):=blk_cell h.hm 1
theorem MemAt.drew {w:World} {M:MemId} {ws:List UInt64} {bs:List UInt8} (h:MemAt w M ws bs):MemAt w.drew M ws bs:=⟨h.hm,h.hw,h.hb,h.wl,h.bl⟩
theorem MemAt.alloc {w:World} {M:MemId} {ws:List UInt64} {bs:List UInt8} (h:MemAt w M ws bs) (o:Obj):MemAt (w.alloc o) M ws bs:=h.ext0 ((Ext.refl [] w).alloc o)
def accV (k at':Int) (A B:UInt64):Value:=.agg #[.int .u8 k,.int .i64 at',.int .u64 (A.toNat:Int),.int .u64 (B.toNat:Int)]
theorem u64_add (a b:UInt64):IntKind.u64.wrap ((a.toNat:Int)+(b.toNat:Int))=((a+b).toNat:Int):=by
  have h:=UInt64.toNat_add a b
  rw [IntKind.wrap_u64];omega
theorem u64_eq (a b:UInt64):((a.toNat:Int)==(b.toNat:Int))=(a==b):=by
  rw [Bool.eq_iff_iff];simp only [beq_iff_eq]
  constructor
  · intro h;exact UInt64.toNat_inj.1 (by omega)
  · rintro rfl;rfl
theorem u64_ne (a b:UInt64):((a.toNat:Int) != (b.toNat:Int))=(a != b):=by
  simp only [bne,u64_eq]
theorem kindsAt1 (w:World):(Instr.index 120 (.agg #[.nilFunc,.func (.func 96) #[] #[],.func (.func 97) #[] #[],.func (.func 98) #[] #[],.func (.func 99) #[] #[]]) (.int .u8 1)).run Try.prog w=.ok (.func (.func 96) #[] #[]) w:=by kernel_rfl
theorem kindsAt2 (w:World):(Instr.index 120 (.agg #[.nilFunc,.func (.func 96) #[] #[],.func (.func 97) #[] #[],.func (.func 98) #[] #[],.func (.func 99) #[] #[]]) (.int .u8 2)).run Try.prog w=.ok (.func (.func 97) #[] #[]) w:=by kernel_rfl
theorem kindsAt3 (w:World):(Instr.index 120 (.agg #[.nilFunc,.func (.func 96) #[] #[],.func (.func 97) #[] #[],.func (.func 98) #[] #[],.func (.func 99) #[] #[]]) (.int .u8 3)).run Try.prog w=.ok (.func (.func 98) #[] #[]) w:=by kernel_rfl
theorem kindsAt4 (w:World):(Instr.index 120 (.agg #[.nilFunc,.func (.func 96) #[] #[],.func (.func 97) #[] #[],.func (.func 98) #[] #[],.func (.func 99) #[] #[]]) (.int .u8 4)).run Try.prog w=.ok (.func (.func 99) #[] #[]) w:=by kernel_rfl
attribute [local go_sem] kindsAt1 kindsAt2 kindsAt3 kindsAt4
attribute [local go_sem] kindsAt1 kindsAt2 kindsAt3 kindsAt4
attribute [local go_sem] kindsAt1 kindsAt2 kindsAt3 kindsAt4
def wAt (ws:List UInt64) (n:Int):Option UInt64:=if n<0 then none else ws[n.toNat]?
def kNow (k:Nat) (x A B:UInt64):UInt64:=match k with
  | 1=>x|2=>A|3=>if x=A then B else x|_=>x+A
def kTold (k:Nat) (x A:UInt64):UInt64:=match k with
  | 1=>x|2=>0|3=>if x=A then 1 else 0|_=>x
def wT (k:Nat) (n:Int) (A:UInt64) (ws:List UInt64):UInt64:=match wAt ws n with
  | none=>0|some x=>kTold k x A
def wS (k:Nat) (n:Int) (A B:UInt64) (ws:List UInt64):List UInt64:=match wAt ws n with
  | none=>ws|some x=>ws.set n.toNat (kNow k x A B)
theorem wAt_in {ws:List UInt64} {n:Nat} (h:n<ws.length):wAt ws n=some ws[n]:=by unfold wAt;rw [if_neg (by omega)];simp [h]
theorem wAt_neg {ws:List UInt64} {n:Int} (h:n<0):wAt ws n=none:=if_pos h
theorem wAt_far {ws:List UInt64} {n:Int} (h:(ws.length:Int)≤n):wAt ws n=none:=by unfold wAt;rw [if_neg (by omega)];simp;omega
theorem wS_length (k:Nat) (n:Int) (A B:UInt64) (ws:List UInt64):(wS k n A B ws).length=ws.length:=by unfold wS;split<;>simp
theorem set_same {ws:List UInt64} {n:Nat} (h:n<ws.length):ws.set n ws[n]=ws:=by
  apply List.ext_getElem?;intro j
  rw [List.getElem?_set];split
  · rename_i e;subst e;simp [h]
  · rfl
structure DirId where
  d:Nat
  v:Nat
structure DirAt (w:World) (D:DirId) (m:Nat) (me:Int) (told:Value) (steps:Nat):Prop where
  hd:blk w D.d=some (.cells #[.pointer (some ⟨D.v,0,none⟩),.int .i64 me,told] 128 (0,0))
  hv:blk w D.v=some (.cells #[.pointer (some ⟨m,0,none⟩),.int .i64 (steps:Int)] 126 (0,0))
section
variable {w w':World} {D:DirId} {m:Nat} {me:Int} {told:Value} {steps:Nat} {M:MemId} {ws:List UInt64} {bs:List UInt8}
theorem DirAt.ext {X:List Nat} (h:DirAt w D m me told steps) (k:Ext X w w') (h1:D.d ∉ X) (h2:D.v ∉ X):DirAt w' D m me told steps:=⟨k.blk h.hd h1,k.blk h.hv h2⟩
theorem DirAt.ext0 (h:DirAt w D m me told steps) (k:Ext [] w w'):DirAt w' D m me told steps:=h.ext k (by simp) (by simp)
theorem DirAt.ne_dv (h:DirAt w D m me told steps):D.d≠D.v:=cells_type h.hd h.hv (by decide)
theorem DirAt.c0 (h:DirAt w D m me told steps):w.cell? ⟨D.d,0,none⟩=some (.pointer (some ⟨D.v,0,none⟩)):=blk_cell h.hd 0
theorem DirAt.c1 (h:DirAt w D m me told steps):w.cell? ⟨D.d,1,none⟩=some (.int .i64 me):=blk_cell h.hd 1
theorem DirAt.v0 (h:DirAt w D m me told steps):w.cell? ⟨D.v,0,none⟩=some (.pointer (some ⟨m,0,none⟩)):=blk_cell h.hv 0
theorem DirAt.v1 (h:DirAt w D m me told steps):w.cell? ⟨D.v,1,none⟩=some (.int .i64 (steps:Int)):=blk_cell h.hv 1
theorem DirAt.step (h:DirAt w D m me told steps) (n:Nat):DirAt (w.setCell ⟨D.v,1,none⟩ (.int .i64 (n:Int))) D m me told n :=
  ⟨by rw [blk_set _ _ _ _ h.ne_dv,h.hd],by rw [blk_setCell h.hv];rfl⟩
end
def PS (D:DirId) (M:MemId) (me:Int) (told:Value) (steps:Nat) (ws:List UInt64) (bs:List UInt8) (w:World) (w':World):Prop :=
  DirAt w' D M.m me told steps∧MemAt w' M ws bs∧Ext [D.v,M.bw] w w'
theorem cas_hit {ws:List UInt64} {n:Int} {A:UInt64} (h:wAt ws n=some A) (B:UInt64):(wT 3 n A ws==1)=true∧wS 3 n A B ws=ws.set n.toNat B:=by
  simp [wT,wS,h,kTold,kNow]
theorem wAt_set {ws:List UInt64} {n:Int} {x:UInt64} (h:wAt ws n=some x):ws.set n.toNat x=ws:=by
  unfold wAt at h
  split at h
  · cases h
  · obtain⟨hl,rfl⟩:=List.getElem?_eq_some_iff.1 h
    exact set_same hl
theorem cas_miss {ws:List UInt64} {n:Int} {A:UInt64} (h:wAt ws n≠some A) (B:UInt64):(wT 3 n A ws==1)=false∧wS 3 n A B ws=ws:=by
  cases hx:wAt ws n with
  | none=>simp [wT,wS,hx]
  | some x =>
    have hne:x≠A:=fun e=>h (by rw [hx,e])
    simp [wT,wS,hx,kTold,kNow,hne,wAt_set hx]
theorem load_same (n:Int) (A B:UInt64) (ws:List UInt64):wS 1 n A B ws=ws:=by
  cases hx:wAt ws n with
  | none=>simp [wS,hx]
  | some x=>simp [wS,hx,kNow,wAt_set hx]
theorem PS.trans {D:DirId} {M:MemId} {me:Int} {told:Value} {s s':Nat} {ws ws':List UInt64} {bs bs':List UInt8} {a b c:World} (h:PS D M me told s ws bs a b) (k:PS D M me told s' ws' bs' b c):PS D M me told s' ws' bs' a c :=
  ⟨k.1,k.2.1,h.2.2.trans' k.2.2⟩
theorem PS.ext0 {D:DirId} {M:MemId} {me:Int} {told:Value} {s:Nat} {ws:List UInt64} {bs:List UInt8} {a b c:World} (h:PS D M me told s ws bs a b) (k:Ext [] b c):PS D M me told s ws bs a c :=
  ⟨h.1.ext0 k,h.2.1.ext0 k,h.2.2.trans0 k⟩
theorem PS.refl {D:DirId} {M:MemId} {me:Int} {told:Value} {s:Nat} {ws:List UInt64} {bs:List UInt8} {a:World} (h:DirAt a D M.m me told s) (k:MemAt a M ws bs):PS D M me told s ws bs a a:=⟨h,k,Ext.refl _ _⟩
theorem meth_Load (n : Nat) (a : Addr) (w : World) : (method (n + 1) 68 (.pointer (some a)) "Load").run Try.prog w = .ok (122, .pointer (some a)) w := by kernel_rfl
theorem nila_Load (n : Nat) (a : Addr) (w : World) : (nilAhead (n + 1) 68 (.pointer (some a)) "Load").run Try.prog w = .ok (some false) w := by kernel_rfl
attribute [go_sem] meth_Load nila_Load
theorem meth_Store (n : Nat) (a : Addr) (w : World) : (method (n + 1) 68 (.pointer (some a)) "Store").run Try.prog w = .ok (125, .pointer (some a)) w := by kernel_rfl
theorem nila_Store (n : Nat) (a : Addr) (w : World) : (nilAhead (n + 1) 68 (.pointer (some a)) "Store").run Try.prog w = .ok (some false) w := by kernel_rfl
attribute [go_sem] meth_Store nila_Store
theorem meth_CAS (n : Nat) (a : Addr) (w : World) : (method (n + 1) 68 (.pointer (some a)) "CAS").run Try.prog w = .ok (119, .pointer (some a)) w := by kernel_rfl
theorem nila_CAS (n : Nat) (a : Addr) (w : World) : (nilAhead (n + 1) 68 (.pointer (some a)) "CAS").run Try.prog w = .ok (some false) w := by kernel_rfl
attribute [go_sem] meth_CAS nila_CAS
theorem meth_Add (n : Nat) (a : Addr) (w : World) : (method (n + 1) 68 (.pointer (some a)) "Add").run Try.prog w = .ok (118, .pointer (some a)) w := by kernel_rfl
theorem nila_Add (n : Nat) (a : Addr) (w : World) : (nilAhead (n + 1) 68 (.pointer (some a)) "Add").run Try.prog w = .ok (some false) w := by kernel_rfl
attribute [go_sem] meth_Add nila_Add
theorem meth_Get (n : Nat) (a : Addr) (w : World) : (method (n + 1) 68 (.pointer (some a)) "Get").run Try.prog w = .ok (121, .pointer (some a)) w := by kernel_rfl
theorem nila_Get (n : Nat) (a : Addr) (w : World) : (nilAhead (n + 1) 68 (.pointer (some a)) "Get").run Try.prog w = .ok (some false) w := by kernel_rfl
attribute [go_sem] meth_Get nila_Get
theorem meth_Put (n : Nat) (a : Addr) (w : World) : (method (n + 1) 68 (.pointer (some a)) "Put").run Try.prog w = .ok (123, .pointer (some a)) w := by kernel_rfl
theorem nila_Put (n : Nat) (a : Addr) (w : World) : (nilAhead (n + 1) 68 (.pointer (some a)) "Put").run Try.prog w = .ok (some false) w := by kernel_rfl
attribute [go_sem] meth_Put nila_Put
theorem meth_Self (n : Nat) (a : Addr) (w : World) : (method (n + 1) 68 (.pointer (some a)) "Self").run Try.prog w = .ok (124, .pointer (some a)) w := by kernel_rfl
theorem nila_Self (n : Nat) (a : Addr) (w : World) : (nilAhead (n + 1) 68 (.pointer (some a)) "Self").run Try.prog w = .ok (some false) w := by kernel_rfl
attribute [go_sem] meth_Self nila_Self
theorem meth_Steps (n : Nat) (a : Addr) (w : World) : (method (n + 1) 68 (.pointer (some a)) "Steps").run Try.prog w = .ok (44, .pointer (some a)) w := by kernel_rfl
theorem nila_Steps (n : Nat) (a : Addr) (w : World) : (nilAhead (n + 1) 68 (.pointer (some a)) "Steps").run Try.prog w = .ok (some false) w := by kernel_rfl
attribute [go_sem] meth_Steps nila_Steps
theorem meth_Tell (n : Nat) (a : Addr) (w : World) : (method (n + 1) 68 (.pointer (some a)) "Tell").run Try.prog w = .ok (126, .pointer (some a)) w := by kernel_rfl
theorem nila_Tell (n : Nat) (a : Addr) (w : World) : (nilAhead (n + 1) 68 (.pointer (some a)) "Tell").run Try.prog w = .ok (some false) w := by kernel_rfl
attribute [go_sem] meth_Tell nila_Tell
theorem run_makeFunc' (fn:Fn) (first cap:Array Value) (w:World):(Instr.makeFunc fn first cap).run Try.prog w=.ok (.func fn first cap) w:=rfl
attribute [go_sem] run_makeFunc'
def bAt (bs:List UInt8) (n:Int):Option UInt8:=if n<0 then none else bs[n.toNat]?
def bT (n:Int) (bs:List UInt8):UInt8:=match bAt bs n with|none=>0|some x=>x
def bS (n:Int) (b:UInt8) (bs:List UInt8):List UInt8:=match bAt bs n with|none=>bs|some _=>bs.set n.toNat b
theorem bAt_in {bs:List UInt8} {n:Nat} (h:n<bs.length):bAt bs n=some bs[n]:=by unfold bAt;rw [if_neg (by omega)];simp [h]
theorem bAt_neg {bs:List UInt8} {n:Int} (h:n<0):bAt bs n=none:=if_pos h
theorem bAt_far {bs:List UInt8} {n:Int} (h:(bs.length:Int)≤n):bAt bs n=none:=by unfold bAt;rw [if_neg (by omega)];simp;omega
theorem bS_length (n:Int) (b:UInt8) (bs:List UInt8):(bS n b bs).length=bs.length:=by unfold bS;split<;>simp
theorem u8_wrap (A:UInt64):IntKind.u8.wrap (A.toNat:Int)=(A.toUInt8.toNat:Int):=by
  rw [IntKind.wrap_u8];simp
theorem u64_u8 (b:UInt8):IntKind.u64.wrap (b.toNat:Int)=((b.toUInt64).toNat:Int):=by
  have:=b.toNat_lt
  rw [IntKind.wrap_u64];simp;omega
theorem DirAt.c2 {w:World} {D:DirId} {m:Nat} {me:Int} {told:Value} {steps:Nat} (h:DirAt w D m me told steps):w.cell? ⟨D.d,2,none⟩=some told:=blk_cell h.hd 2
section
theorem loadAt_res (v:Value):Instr.loadAt 48 v=oldLoadAt 48 v:=rfl
theorem storeAt_res (v u:Value):Instr.storeAt 48 v u=oldStoreAt 48 v u:=rfl
attribute [local go_sem ↓] loadAt_res storeAt_res
end
def isq:Nat→Nat
  | 0=>0
  | n+1=>if (isq n+1) * (isq n+1)≤n+1 then isq n+1 else isq n
theorem isq_spec:∀ n,isq n * isq n≤n∧n<(isq n+1) * (isq n+1)
  | 0=>by simp [isq]
  | n+1=>by
    obtain⟨h1,h2⟩:=isq_spec n
    unfold isq
    split
    · rename_i h
      refine⟨h,?_⟩
      have:(isq n+1+1) * (isq n+1+1)=(isq n+1) * (isq n+1)+2 * (isq n+1)+1:=by
        simp only [Nat.add_mul,Nat.mul_add];omega
      omega
    · omega
def code (a b:Nat):Nat:=(a+b) * (a+b)+a
theorem isq_code (a b:Nat):isq (code a b)=a+b:=by
  obtain⟨h1,h2⟩:=isq_spec (code a b)
  have hc:code a b<(a+b+1) * (a+b+1):=by
    unfold code
    have:(a+b+1) * (a+b+1)=(a+b) * (a+b)+2 * (a+b)+1:=by simp only [Nat.add_mul,Nat.mul_add];omega
    omega
  have hd:(a+b) * (a+b)≤code a b:=by unfold code;omega
  rcases Nat.lt_trichotomy (isq (code a b)) (a+b) with h|h|h
  · have:=Nat.mul_le_mul (show isq (code a b)+1≤a+b by omega) (show isq (code a b)+1≤a+b by omega)
    omega
  · exact h
  · have:=Nat.mul_le_mul (show a+b+1≤isq (code a b) by omega) (show a+b+1≤isq (code a b) by omega)
    omega
def aux (s:Nat) (i:Nat):Nat:=if i=1 then s - isq s * isq s else isq s - (s - isq s * isq s)
theorem aux_1 (a b:Nat):aux (code a b) 1=a:=by
  unfold aux
  rw [if_pos rfl,isq_code]
  unfold code;omega
theorem aux_2 (a b:Nat):aux (code a b) 2=b:=by
  unfold aux
  rw [if_neg (by decide),isq_code]
  unfold code;omega
inductive Ob where
  | mem (ws:List UInt64) (bs:List UInt8)
  | port (m:Nat) (me:Int) (steps:Nat)
  | thr (self:Int) (quit:Nat) (closed busy:Bool) (cur:Option (Nat × Nat × Nat)) (pend:Option Nat)
  | wp (self:Int) (steps:Nat) (ask grant quit:Nat)
  | acc (c:Nat) (n:Int) (A B:UInt64)
  | box (c:Nat)
abbrev St:=List Ob
def hndV (k:Nat):Value:=.pointer (some ⟨VB+k,0,none⟩)
def prtV (k:Nat):Value:=.iface 68 (hndV k)
def BF (P:Program) (hm:P.follows .mixedOrders=true):Face P Unit where
  mix:=hm
  cnt:=fun _=>0
  rep:=fun _ _ _=>True
  fp:=fun _ _ _=>False
  prim:=fun _ _ _ _ _=>False
  rep_same:=fun _ _ _ _ _ _=>⟨trivial,fun _ h=>h⟩
  rep_kept:=fun _ _ _ _ _ _ _=>trivial
  fp_low:=fun _ _ _ _ _ h=>h.elim
  prim_hand:=fun _ _ _ _ _ h=>h.elim
  prim_ok:=fun _ _ _ _ _ _ _ h=>h.elim
def PureD (f:FuncId) (args:Array Value) (v:Value):Prop:=Does (BF Try.prog Try.mix) f args [] () v ()
def PureT (f:FuncId) (args:Array Value) (v:Value):Prop:=∀ w,TCalls Try.prog f args w fun e w'=>e=.returned v∧Kept w (fun _=>False) w'
def wr (n:Nat):Int:=IntKind.i64.wrap (n:Int)
def accS (S:St) (p m:Nat) (me:Int) (steps:Nat) (ws:List UInt64) (bs:List UInt8):St:=(S.set p (.port m me steps)).set m (.mem ws bs)
inductive Prim:FuncId→Array Value→St→Value→St→Prop
  | pure {f args v S} (h:∀ w:World,PureT f args v) (ha:args.all plainB=true) (hv:plainB v=true):Prim f args S v S
  | word {k:Nat} {ws:List UInt64} {bs:List UInt8} {S:St} (n:Int) (h:S[k]?=some (Ob.mem ws bs)):Prim 57 #[hndV k,.int .i64 n] S (.int .u64 ((wT 1 n 0 ws).toNat:Int)) S
  | do' {k:Nat} {ws:List UInt64} {bs:List UInt8} {S:St} (c:Nat) (n:Int) (A B:UInt64) (h:S[k]?=some (Ob.mem ws bs)) (h1:1≤c) (h4:c≤4) :
      Prim 39 #[hndV k,accV c n A B] S (.tuple #[.int .u64 ((wT c n A ws).toNat:Int),.bool (wAt ws n).isSome]) (S.set k (.mem (wS c n A B ws) bs))
  | load {p m:Nat} {me:Int} {steps:Nat} {ws:List UInt64} {bs:List UInt8} {S:St} (n:Int) (h:S[p]?=some (Ob.port m me steps)) (hm:S[m]?=some (Ob.mem ws bs)) (hs:steps≤1000000000000) :
      Prim 122 #[hndV p,.int .i64 n] S (.int .u64 ((wT 1 n 0 ws).toNat:Int)) (accS S p m me (steps+1) (wS 1 n 0 0 ws) bs)
  | store {p m:Nat} {me:Int} {steps:Nat} {ws:List UInt64} {bs:List UInt8} {S:St} (n:Int) (A:UInt64) (h:S[p]?=some (Ob.port m me steps)) (hm:S[m]?=some (Ob.mem ws bs)) (hs:steps≤1000000000000) :
      Prim 125 #[hndV p,.int .i64 n,.int .u64 (A.toNat:Int)] S (.tuple #[]) (accS S p m me (steps+1) (wS 2 n A 0 ws) bs)
  | cas {p m:Nat} {me:Int} {steps:Nat} {ws:List UInt64} {bs:List UInt8} {S:St} (n:Int) (A B:UInt64) (h:S[p]?=some (Ob.port m me steps)) (hm:S[m]?=some (Ob.mem ws bs)) (hs:steps≤1000000000000) :
      Prim 119 #[hndV p,.int .i64 n,.int .u64 (A.toNat:Int),.int .u64 (B.toNat:Int)] S (.bool (wT 3 n A ws==1)) (accS S p m me (steps+1) (wS 3 n A B ws) bs)
  | add {p m:Nat} {me:Int} {steps:Nat} {ws:List UInt64} {bs:List UInt8} {S:St} (n:Int) (A:UInt64) (h:S[p]?=some (Ob.port m me steps)) (hm:S[m]?=some (Ob.mem ws bs)) (hs:steps≤1000000000000) :
      Prim 118 #[hndV p,.int .i64 n,.int .u64 (A.toNat:Int)] S (.int .u64 ((wT 4 n A ws).toNat:Int)) (accS S p m me (steps+1) (wS 4 n A 0 ws) bs)
  | self {p m:Nat} {me:Int} {steps:Nat} {S:St} (h:S[p]?=some (Ob.port m me steps)):Prim 124 #[hndV p] S (.int .i64 me) S
  | steps {p m:Nat} {me:Int} {steps:Nat} {S:St} (h:S[p]?=some (Ob.port m me steps)):Prim 44 #[hndV p] S (.int .i64 (steps:Int)) S
  | dget {k:Nat} {ws:List UInt64} {bs:List UInt8} {S:St} (n:Int) (A B:UInt64) (h:S[k]?=some (Ob.mem ws bs)) :
      Prim 39 #[hndV k,accV 5 n A B] S (.tuple #[.int .u64 ((bT n bs).toNat:Int),.bool (bAt bs n).isSome]) S
  | dput {k:Nat} {ws:List UInt64} {bs:List UInt8} {S:St} (n:Int) (A B:UInt64) (h:S[k]?=some (Ob.mem ws bs)) :
      Prim 39 #[hndV k,accV 6 n A B] S (.tuple #[.int .u64 0,.bool (bAt bs n).isSome]) (S.set k (.mem ws (bS n A.toUInt8 bs)))
  | get {p m:Nat} {me:Int} {steps:Nat} {ws:List UInt64} {bs:List UInt8} {S:St} (n:Int) (h:S[p]?=some (Ob.port m me steps)) (hm:S[m]?=some (Ob.mem ws bs)) (hs:steps≤1000000000000) :
      Prim 121 #[hndV p,.int .i64 n] S (.int .u8 ((bT n bs).toNat:Int)) (accS S p m me (steps+1) ws bs)
  | put {p m:Nat} {me:Int} {steps:Nat} {ws:List UInt64} {bs:List UInt8} {S:St} (n:Int) (b:UInt8) (h:S[p]?=some (Ob.port m me steps)) (hm:S[m]?=some (Ob.mem ws bs)) (hs:steps≤1000000000000) :
      Prim 123 #[hndV p,.int .i64 n,.int .u8 (b.toNat:Int)] S (.tuple #[]) (accS S p m me (steps+1) ws (bS n b bs))
  | wself {k:Nat} {me:Int} {steps a b c:Nat} {S:St} (h:S[k]?=some (Ob.wp me steps a b c)):Prim 133 #[hndV k] S (.int .i64 me) S
  | wsteps {k:Nat} {me:Int} {steps a b c:Nat} {S:St} (h:S[k]?=some (Ob.wp me steps a b c)):Prim 134 #[hndV k] S (.int .i64 (wr steps)) S
  | pnew {m:Nat} {me:Int} {ws:List UInt64} {bs:List UInt8} {S:St} (h:S[m]?=some (Ob.mem ws bs)):Prim 40 #[hndV m,.int .i64 me] S (hndV S.length) (S++[.port m me 0])
  | mnew {S:St} (a b:Nat) (ha:a≤2097152) (hb:b≤1048576):Prim 76 #[.int .i64 a,.int .i64 b] S (.tuple #[hndV S.length,.int .i64 0]) (S++[.mem (List.replicate a 0) (List.replicate b 0)])
theorem plain_args {args:Array Value} (F:Emb) (h:args.all plainB=true):args.map (ren F)=args:=by
  apply Array.ext
  · simp
  · intro i h1 h2
    simp only [Array.getElem_map]
    exact ren_plain F ((Array.all_eq_true.1 h) i h2)
theorem Prim.len {f:FuncId} {args:Array Value} {S S':St} {v:Value} (h:Prim f args S v S'):S.length≤S'.length:=by
  cases h<;>simp [accS]
theorem hnd_hand (c k:Nat) (h:k<c):Hand c (hndV k):=by
  intro F F' hs
  have:=hs (VB+k) ⟨by omega,by omega⟩
  simp [hndV,adr,this.1,this.2.1]
theorem Prim.hand {f:FuncId} {args:Array Value} {S S':St} {v:Value} (h:Prim f args S v S'):Hand S'.length v:=by
  cases h with
  | pure h ha hv=>exact Hand.plain hv
  | pnew h=>exact hnd_hand _ _ (by simp)
  | mnew a b ha hb =>
    have h1:=hnd_hand (S++[Ob.mem (List.replicate a 0) (List.replicate b 0)]).length S.length (by simp)
    intro F F' hs
    simp only [ren_tuple,List.map_toArray,List.map_cons,List.map_nil,ren_int]
    rw [h1 F F' hs]
  | _=>exact Hand.plain (by first|rfl|simp [plainB])
theorem accS_get {S:St} {p m:Nat} {me:Int} {steps:Nat} {ws:List UInt64} {bs:List UInt8} {ob ob2:Ob} (h:S[p]?=some ob) (hm:S[m]?=some ob2) (hne:p≠m):(accS S p m me steps ws bs)[p]?=some (Ob.port m me steps)∧(accS S p m me steps ws bs)[m]?=some (Ob.mem ws bs):=by
  have h1:=(List.getElem?_eq_some_iff.1 h).1
  have h2:=(List.getElem?_eq_some_iff.1 hm).1
  unfold accS
  constructor
  · rw [List.getElem?_set_ne (Ne.symm hne),List.getElem?_set_self h1]
  · rw [List.getElem?_set_self (by simpa using h2)]
end Go.Proofs.Ytkjnamhgemidkaa
