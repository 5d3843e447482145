/-
  The abstract machine, part 11: its rules, as they are used.
  No condition: laws.
-/
import Derived.Test.YtjhmhoapgbfgpaaUAx9
import Derived.Test.YtjhmhoapgbfgpaaUBase
import Derived.Laws.EntriesVeiled
import Derived.BigRegion
import Derived.IntWalk
set_option maxHeartbeats 40000000
namespace Go.Proofs.Ytjhmhoapgbfgpaa
open Go Go.RowKit
def zar (l:List (Option Blk)):AHeap:=⟨fun n=>(l[n]?).join,l.length⟩
theorem zmB (l:List (Option Blk)) (b:Option Blk):(zar l).addO b=zar (l++[b]):=by
  unfold zar AHeap.addO
  simp only [List.length_append,List.length_singleton]
  congr 1
  funext n
  split
  · rename_i h;subst h;simp
  · rename_i h
    by_cases hn:n<l.length
    · rw [List.getElem?_append_left hn]
    · rw [List.getElem?_eq_none (by omega),List.getElem?_eq_none (by simp;omega)]
theorem zii (l:List (Option Blk)) (n:Nat) (b:Option Blk) (h:n<l.length):(zar l).putO n b=zar (l.set n b):=by
  unfold zar AHeap.putO
  simp only [List.length_set]
  congr 1
  funext m
  rw [List.getElem?_set]
  by_cases hm:m=n
  · subst hm;simp [h]
  · rw [if_neg hm,if_neg (Ne.symm hm)]
theorem ziQ (h:AHeap) (n:Nat) (b:Blk):h.put n b=h.putO n (some b):=rfl
theorem zoB (l:List (Option Blk)) (n:Nat) (b:Blk) (h:n<l.length):(zar l).put n b=zar (l.set n (some b)):=by
  rw [ziQ,zii l n _ h]
theorem zaM (l:List (Option Blk)) (n:Nat):(zar l).get n=(l[n]?).join:=rfl
theorem zaa (l:List (Option Blk)):(zar l).next=l.length:=rfl
theorem zjG {l:List (Option Blk)} (h:decide (l.length<1000000)=true):(zar l).next<VB:=by
  have:=of_decide_eq_true h
  unfold zar VB
  simp only
  omega
def AHeap.Low (h:AHeap):Prop:=∀ n b,h.get n=some b→n<h.next
theorem zbv (l:List (Option Blk)):(zar l).Low:=by
  intro n b hb
  rw [zaM] at hb
  rw [zaa]
  rcases Nat.lt_or_ge n l.length with h|h
  · exact h
  · rw [List.getElem?_eq_none h] at hb;cases hb
theorem zeb:∀ v:Value,ren (zde id) v=v
  | .pointer (some a)=>by simp [adr,zde]
  | .pointer none=>by simp
  | .slice (some a) n c=>by simp [adr,zde]
  | .slice none n c=>by simp
  | .iface t v=>by simp [zeb v]
  | .agg cs=>by
    simp only [zcK]
    congr 1
    exact (Array.map_congr_left fun x hx=>zeb x).trans (by simp)
  | .tuple cs=>by
    simp only [zcP]
    congr 1
    exact (Array.map_congr_left fun x hx=>zeb x).trans (by simp)
  | .func fn xs ys=>by
    simp only [zbN]
    congr 1
    · exact (Array.map_congr_left fun x hx=>zeb x).trans (by simp)
    · exact (Array.map_congr_left fun x hx=>zeb x).trans (by simp)
  | .bool b=>by simp
  | .int k n=>by simp
  | .float k n=>by simp [ren]
  | .complex k n m=>by simp [ren]
  | .string s=>by simp
  | .map r=>by simp [ren]
  | .chan r=>by simp [ren]
  | .nilFunc=>by simp
  | .nilIface=>by simp
termination_by v=>SizeOf.sizeOf v
decreasing_by all_goals (simp_wf;first|omega|(have:=Array.sizeOf_lt_of_mem hx;omega))
section
variable {P:Program} {σ:Type} {X:Face P σ}
def idE:Emb:=zde id
def Does (X:Face P σ) (f:FuncId) (args:Array Value) (l:List Blk) (S:σ) (v:Value) (S':σ):Prop :=
  ∃ g c h1,P.funcs[f]?=some g∧goB g=true∧g.body=some c∧(∀ u∈args.toList,Clo (Kn l.length (X.cnt S)) u)∧Hand (X.cnt S') v ∧
    Goes X g (fun x=>x=.done v h1 S') (.run (zah g c args).1 (zah g c args).2 (zar (l.map some)) S)
theorem zhZ (args:Array Value):args=args.map (ren idE):=by
  conv=>lhs;rw [←Array.map_id args]
  exact Array.map_congr_left fun x _=>(zeb x).symm
theorem zgX {o:Oper} {e:Operand→Value} {h:AHeap} {S S':σ} {f:FuncId} {g:Func} {c:Code} {args:Array Value} {v:Value} (h1:AHeap) (hca:zaN P e o.op=some (f,args)) (hf:P.funcs[f]?=some g) (hg:goB g=true) (hb:g.body=some c)
    (hclo:∀ u∈args.toList,Clo (Kn 0 (X.cnt S)) u) (hv:Hand (X.cnt S') v):CallOK X o e h S v h S' f g c args idE idE (zar []) h1 [] v:=by
  refine⟨by rw [←zhZ];exact hca,hf,hg,hb,⟨fun n b hb=>by simp [zaM] at hb,fun n b hb=>by simp [zaM] at hb,fun n b hb=>by simp [zaM] at hb,fun n m b c hb=>by simp [zaM] at hb,by simp [zaa,VB],fun n _=>⟨rfl,rfl,rfl⟩⟩,hclo,
    ⟨rfl,fun n hn=>⟨rfl,rfl,rfl⟩,fun j n hj=>by simp at hj,fun n _=>⟨rfl,rfl,rfl⟩,(zeb v).symm,?_,?_,fun j n hj=>by simp at hj,fun m _=>.inl ⟨rfl,fun n b hb=>by simp [zaM] at hb⟩,?_,List.nodup_nil⟩⟩
  · exact fun F F' hs=>hv F F' (hs.mono fun n hn=>.inr (.inr hn))
  · rintro n b _ (⟨b0,hb0,_⟩|hn)
    · simp [zaM] at hb0
    · cases hn
  · rintro n b _ (⟨b0,hb0,_⟩|hn)
    · simp [zaM] at hb0
    · cases hn
def OpK (K:List Value→AHeap→Prop) (o:Oper) (tmps:List Value) (h:AHeap):Option Value→Prop
  | some v=>K (putL o.dst v tmps) h
  | none=>False
def NewK (K:List Value→AHeap→Prop) (o:Oper) (tmps:List Value) (h:AHeap):Option (Value × Option Blk)→Prop
  | some (v,b)=>K (putL o.dst v tmps) (h.addO b)
  | none=>False
def WrK (K:List Value→AHeap→Prop) (o:Oper) (tmps:List Value):Option (Value × AHeap)→Prop
  | some (v,h')=>K (putL o.dst v tmps) h'
  | none=>False
def zgq (K:List Value→AHeap→Prop) (o:Oper) (tmps:List Value):Option AHeap→Prop
  | some h'=>K (putL o.dst undef tmps) h'
  | none=>False
def zdD (K:FuncId→Array Value→Prop):Option (FuncId × Array Value)→Prop
  | some (f,args)=>K f args
  | none=>False
def zcs (P:Program) (e:Operand→Value) (h:AHeap):Op→Option AHeap
  | .store t x y=>(match e x with|.pointer (some a)=>zeF P h t a (e y)|_=>none)
  | _=>none
theorem zh8 {e:Operand→Value} {h h':AHeap} {o:Op} (hs:zcs P e h o=some h'):wrA P e h o=some (undef,h'):=by
  unfold zcs at hs
  split at hs
  · split at hs
    · rename_i a ha
      unfold wrA
      simp only [ha,hs,Option.map_some]
    · cases hs
  · cases hs
theorem zkb {e:Operand→Value} {h h':AHeap} {o:Op} {v:Value} (hv:wrA P e h o=some (v,h')):h'.next=h.next∨h'.next=h.next+1:=by
  unfold wrA at hv
  repeat' split at hv
  all_goals first
    | (cases hv;done)
    | (cases hv;exact .inl rfl)
    | (cases hv;exact .inr rfl)
    | (rename_i a _;cases hs:zeF P h _ a _ with
        | none=>rw [hs] at hv;cases hv
        | some h1 =>
          rw [hs] at hv
          cases hv
          obtain⟨b,s,_,_,_,_,_,_,_,rfl⟩:=zch hs
          exact .inl rfl)
theorem zgs {e:Operand→Value} {h h':AHeap} {o:Op} (hs:zcs P e h o=some h'):∃ t x y a,o=.store t x y∧e x=.pointer (some a)∧zeF P h t a (e y)=some h':=by
  unfold zcs at hs
  split at hs
  · rename_i t x y
    split at hs
    · rename_i a ha;exact⟨t,x,y,a,rfl,ha,hs⟩
    · cases hs
  · cases hs
variable (X) in
def At (fn:Func) (A:Conf σ→Prop) (ops:Array Oper) (k:List Item) (i:Nat) (tmps:List Value) (h:AHeap) (S:σ):Prop :=
  Goes X fn A (.run (.inRegion ops (List.range' i (ops.size - i))::k) tmps h S)
variable {fn:Func} {A:Conf σ→Prop} {ops:Array Oper} {k:List Item} {i:Nat} {tmps:List Value} {h:AHeap} {S:σ} {o:Oper} {todo:List Item}
theorem Goes.reg {id:Nat} (hk:At X fn A ops k 0 tmps h S):Goes X fn A (.run (.code (.region id ops false)::k) tmps h S):=by
  refine .ctl (todo':=.inRegion ops (List.range ops.size)::k) rfl ?_
  rw [List.range_eq_range']
  exact hk
theorem zeQ (ho:ops[i]?=some o):List.range' i (ops.size - i)=i::List.range' (i+1) (ops.size - (i+1)):=by
  have:=(Array.getElem?_eq_some_iff.1 ho).1
  rw [show ops.size - i=(ops.size - (i+1))+1 by omega,List.range'_succ]
theorem At.nil (hn:decide (ops.size≤i)=true) (hk:Goes X fn A (.run k tmps h S)):At X fn A ops k i tmps h S:=by
  unfold At
  rw [show ops.size - i=0 by have:=of_decide_eq_true hn;omega]
  exact .ctl rfl hk
theorem At.skip (ho:ops[i]?=some o) (hw:Region.wanted o (zai ops tmps)=false) (hk:At X fn A ops k (i+1) (putL o.dst undef tmps) h S):At X fn A ops k i tmps h S:=by
  unfold At
  rw [zeQ ho]
  exact .skip ho hw hk
theorem At.op {v:Value} {h':AHeap} {S':σ} (ho:ops[i]?=some o) (hw:Region.wanted o (zai ops tmps)=true) (hb:o.op.operands.all zaP=true) (hop:Op0 X o (evA tmps) h S v h' S') (hl:h'.next=h.next∨h'.next≤VB)
    (hk:At X fn A ops k (i+1) (putL o.dst v tmps) h' S'):At X fn A ops k i tmps h S:=by
  unfold At
  rw [zeQ ho]
  exact .op ho hw hb hop hl hk
theorem At.val (ho:ops[i]?=some o) (hw:Region.wanted o (zai ops tmps)=true) (hb:o.op.operands.all zaP=true)
    (hk:∀ K:List Value→AHeap→Prop,(∀ t h,At X fn A ops k (i+1) t h S→K t h)→OpK K o tmps h (valA P (evA tmps) h o.op)):At X fn A ops k i tmps h S:=by
  have:=hk _ (fun _ _ h=>h)
  cases hv:valA P (evA tmps) h o.op with
  | none=>rw [hv] at this;exact this.elim
  | some v=>rw [hv] at this;exact .op ho hw hb (.inl ⟨hv,rfl,rfl⟩) (.inl rfl) this
theorem At.new (ho:ops[i]?=some o) (hw:Region.wanted o (zai ops tmps)=true) (hb:o.op.operands.all zaP=true) (hl:h.next<VB)
    (hk:∀ K:List Value→AHeap→Prop,(∀ t h,At X fn A ops k (i+1) t h S→K t h)→NewK K o tmps h (newA P (evA tmps) h h.next o.op)):At X fn A ops k i tmps h S:=by
  have:=hk _ (fun _ _ h=>h)
  cases hv:newA P (evA tmps) h h.next o.op with
  | none=>rw [hv] at this;exact this.elim
  | some v =>
    obtain⟨v,ob⟩:=v
    rw [hv] at this
    exact .op ho hw hb (.inr (.inl ⟨ob,hv,rfl,rfl⟩)) (.inr hl) this
theorem At.wr (ho:ops[i]?=some o) (hw:Region.wanted o (zai ops tmps)=true) (hb:o.op.operands.all zaP=true) (hl:h.next<VB)
    (hk:∀ K:List Value→AHeap→Prop,(∀ t h,At X fn A ops k (i+1) t h S→K t h)→WrK K o tmps (wrA P (evA tmps) h o.op)):At X fn A ops k i tmps h S:=by
  have:=hk _ (fun _ _ h=>h)
  cases hv:wrA P (evA tmps) h o.op with
  | none=>rw [hv] at this;exact this.elim
  | some v =>
    obtain⟨v,h'⟩:=v
    rw [hv] at this
    exact .op ho hw hb (.inr (.inr (.inl ⟨hv,rfl⟩))) (by rcases zkb hv with h|h<;>omega) this
theorem At.store (ho:ops[i]?=some o) (hw:Region.wanted o (zai ops tmps)=true) (hb:o.op.operands.all zaP=true)
    (hk:∀ K:List Value→AHeap→Prop,(∀ t h,At X fn A ops k (i+1) t h S→K t h)→zgq K o tmps (zcs P (evA tmps) h o.op)):At X fn A ops k i tmps h S:=by
  have:=hk _ (fun _ _ h=>h)
  cases hv:zcs P (evA tmps) h o.op with
  | none=>rw [hv] at this;exact this.elim
  | some h' =>
    rw [hv] at this
    obtain⟨t,x,y,a,h1,h2,h3⟩:=zgs hv
    obtain⟨b,s,_,_,_,_,_,_,_,rfl⟩:=zch h3
    exact .op ho hw hb (.inr (.inr (.inl ⟨zh8 hv,rfl⟩))) (.inl rfl) this
theorem At.prim {g:Func} (ho:ops[i]?=some o) (hw:Region.wanted o (zai ops tmps)=true) (hb:o.op.operands.all zaP=true)
    (hk:zdD (fun f args=>P.funcs[f]?=some g∧goB g=true∧∃ v S',X.prim f args S v S'∧At X fn A ops k (i+1) (putL o.dst v tmps) h S') (zaN P (evA tmps) o.op)):At X fn A ops k i tmps h S:=by
  cases hv:zaN P (evA tmps) o.op with
  | none=>rw [hv] at hk;exact hk.elim
  | some x =>
    obtain⟨f,args⟩:=x
    rw [hv] at hk
    obtain⟨h1,h2,v,S',h3,h4⟩:=hk
    exact .op ho hw hb (.inr (.inr (.inr ⟨f,g,args,hv,h1,h2,h3,rfl⟩))) (.inl rfl) h4
theorem At.call (ho:ops[i]?=some o) (hw:Region.wanted o (zai ops tmps)=true) (hb:o.op.operands.all zaP=true)
    (hk:zdD (fun f args=>∃ v S',Does X f args [] S v S'∧At X fn A ops k (i+1) (putL o.dst v tmps) h S') (zaN P (evA tmps) o.op)):At X fn A ops k i tmps h S:=by
  unfold At
  rw [zeQ ho]
  cases hv:zaN P (evA tmps) o.op with
  | none=>rw [hv] at hk;exact hk.elim
  | some x =>
    obtain⟨f,args⟩:=x
    rw [hv] at hk
    obtain⟨v,S',⟨g,c,h1,d1,d2,d3,d4,d5,d6⟩,h4⟩:=hk
    exact .call f g c args idE idE (zar []) h1 [] v ho hw hb (zgX h1 hv d1 d2 d3 d4 d5) (.inl rfl) d6 h4
inductive RGF (X:Face P σ) (W:List Nat) (ops:Array Oper) (n0:Nat) (hf:AHeap) (K:List Value→AHeap→σ→Prop):Nat→List Value→AHeap→σ→List (Nat × Nat)→Prop
  | nil' {i tmps h S born} (hn:ops.size=i) (hk:K tmps h S):RGF X W ops n0 hf K i tmps h S born
  | skip' {i tmps h S born o} (ho:ops[i]?=some o) (hw:Region.wanted o (zai ops tmps)=false) (hk:RGF X W ops n0 hf K (i+1) (putL o.dst undef tmps) h S born):RGF X W ops n0 hf K i tmps h S born
  | far' {i tmps h S born o v} (ho:ops[i]?=some o) (hw:Region.wanted o (zai ops tmps)=true) (hb:o.op.operands.all zaP=true) (hq:wrB W i o=false) (hfar:farB W i=true) (hv:valA P (evA tmps) hf o.op=some v)
      (hk:RGF X W ops n0 hf K (i+1) (putL o.dst v tmps) h S born):RGF X W ops n0 hf K i tmps h S born
  | op' {i tmps h S born o v h' S'} (wr:Bool) (hnf:farB W i=false) (ho:ops[i]?=some o) (hw:Region.wanted o (zai ops tmps)=true) (hb:o.op.operands.all zaP=true) (hl:h'.next=h.next∨h'.next≤VB)
      (hop:if wr then wrB W i o=true∧Op0 X o (evA tmps) h S v h' S' else wrB W i o=false∧∃ hv,Op0 X o (evA tmps) (visH n0 born ((zas ops.toList []).getD i 0) h) S v hv S'∧h'=zdT h hv)
      (hst:∀ n b,hf.get n=some b→n<n0→n0≤h.next→h'.get n=h.get n)
      (hk:RGF X W ops n0 hf K (i+1) (putL o.dst v tmps) h' S' (zef i h.next h'.next++born)):RGF X W ops n0 hf K i tmps h S born
  | call' {i tmps h S born o v h' S'} (wr:Bool) (f:FuncId) (g:Func) (c:Code) (zs:Array Value) (E Q:Emb) (hc h1:AHeap) (ex:List Nat) (v0:Value) (hnf:farB W i=false) (ho:ops[i]?=some o) (hw:Region.wanted o (zai ops tmps)=true) (hb:o.op.operands.all zaP=true) (hl:h'.next=h.next∨h'.next≤VB)
      (hok:if wr then wrB W i o=true∧CallOK X o (evA tmps) h S v h' S' f g c zs E Q hc h1 ex v0 else wrB W i o=false∧∃ hv,CallOK X o (evA tmps) (visH n0 born ((zas ops.toList []).getD i 0) h) S v hv S' f g c zs E Q hc h1 ex v0∧h'=zdT h hv)
      (hrun:Goes X g (fun x=>x=.done v0 h1 S') (.run (zah g c zs).1 (zah g c zs).2 hc S))
      (hst:∀ n b,hf.get n=some b→n<n0→n0≤h.next→h'.get n=h.get n)
      (hk:RGF X W ops n0 hf K (i+1) (putL o.dst v tmps) h' S' (zef i h.next h'.next++born)):RGF X W ops n0 hf K i tmps h S born
  | callD' {i tmps h S born o v h1 S1} (f:FuncId) (g:Func) (c:Code) (args:Array Value) (hnf:farB W i=false) (ho:ops[i]?=some o) (hw:Region.wanted o (zai ops tmps)=true) (hb:o.op.operands.all zaP=true) (hl:h1.next=h.next∨h1.next≤VB) (hq:wrB W i o=true) (hle:h.next≤h1.next) (hlow:∀ n b,h1.get n=some b→n<h1.next)
      (hca:zaN P (evA tmps) o.op=some (f,args)) (hfn:P.funcs[f]?=some g) (hg:goB g=true) (hbd:g.body=some c) (hrun:Goes X g (fun x=>x=.done v h1 S1) (.run (zah g c args).1 (zah g c args).2 h S))
      (hst:i<farU W ops.size→∀ n b,hf.get n=some b→n<n0→n0≤h.next→h1.get n=h.get n)
      (hk:RGF X W ops n0 hf K (i+1) (putL o.dst v tmps) h1 S1 (zef i h.next h1.next++born)):RGF X W ops n0 hf K i tmps h S born
  | opU' {i tmps h S born o v h' S'} (hnf:farB W i=false) (ho:ops[i]?=some o) (hw:Region.wanted o (zai ops tmps)=true) (hb:o.op.operands.all zaP=true) (hl:h'.next=h.next∨h'.next≤VB)
      (hop:wrB W i o=true∧Op0 X o (evA tmps) h S v h' S') (hst:i<farU W ops.size→∀ n b,hf.get n=some b→n<n0→n0≤h.next→h'.get n=h.get n)
      (hk:RGF X W ops n0 hf K (i+1) (putL o.dst v tmps) h' S' (zef i h.next h'.next++born)):RGF X W ops n0 hf K i tmps h S born
def zsW (X:Face P σ) (W:List Nat) (ops:Array Oper) (n0:Nat) (hf:AHeap) (i:Nat) (rec:Nat→DRec σ):Prop :=
  (∀ j o,i≤j→ops[j]?=some o→GoodK X W ops n0 hf j o (rec j) (rec (j+1))) ∧
  (∀ j wr f g c zs E Q hc h1 ex v0,i≤j→j<ops.size→(rec j).kind=.call wr f g c zs E Q hc h1 ex v0→Goes X g (fun x=>x=.done v0 h1 (rec (j+1)).S) (.run (zah g c zs).1 (zah g c zs).2 hc (rec j).S)) ∧
  (∀ j,i≤j→j≤ops.size→j≤farU W ops.size→∀ n b,hf.get n=some b→n<n0→n0≤(rec i).h.next→n0≤(rec j).h.next∧(rec j).h.get n=(rec i).h.get n) ∧
  (∀ j f g c args,i≤j→j<ops.size→(rec j).kind=.callD f g c args→Goes X g (fun x=>x=.done (rec j).v (rec (j+1)).h (rec (j+1)).S) (.run (zah g c args).1 (zah g c args).2 (rec j).h (rec j).S))
theorem ziT {o:Oper} {e:Operand→Value} {h h':AHeap} {S S':σ} {v:Value} (H:Op0 X o e h S v h' S'):h.next≤h'.next:=(zey H).1
theorem RGF.recs {W:List Nat} {n0:Nat} {hf:AHeap} {K:List Value→AHeap→σ→Prop} {i:Nat} {tmps:List Value} {h:AHeap} {S:σ} {born:List (Nat × Nat)} (R:RGF X W ops n0 hf K i tmps h S born) :
    ∃ rec:Nat→DRec σ,(rec i).tmps=tmps∧(rec i).h=h∧(rec i).S=S∧(rec i).born=born∧zsW X W ops n0 hf i rec∧K (rec ops.size).tmps (rec ops.size).h (rec ops.size).S:=by
  have ext:∀ {i:Nat} {tmps:List Value} {h:AHeap} {S:σ} {born:List (Nat × Nat)} {o:Oper} {h':AHeap} {S':σ} {born':List (Nat × Nat)} (v:Value) (kd:Kind),ops[i]?=some o →
      (∃ rec:Nat→DRec σ,(rec (i+1)).tmps=putL o.dst v tmps∧(rec (i+1)).h=h'∧(rec (i+1)).S=S'∧(rec (i+1)).born=born'∧zsW X W ops n0 hf (i+1) rec∧K (rec ops.size).tmps (rec ops.size).h (rec ops.size).S) →
      (∀ q:DRec σ,q.tmps=putL o.dst v tmps→q.h=h'→q.S=S'→q.born=born'→GoodK X W ops n0 hf i o ⟨tmps,h,S,v,born,kd⟩ q)→(∀ wr f g c zs E Q hc h1 ex v0,kd=.call wr f g c zs E Q hc h1 ex v0→Goes X g (fun x=>x=.done v0 h1 S') (.run (zah g c zs).1 (zah g c zs).2 hc S)) →
      (∀ f g c args,kd=.callD f g c args→Goes X g (fun x=>x=.done v h' S') (.run (zah g c args).1 (zah g c args).2 h S)) →
      (h.next≤h'.next∧(i<farU W ops.size→∀ n b,hf.get n=some b→n<n0→n0≤h.next→h'.get n=h.get n)) →
      ∃ rec:Nat→DRec σ,(rec i).tmps=tmps∧(rec i).h=h∧(rec i).S=S∧(rec i).born=born∧zsW X W ops n0 hf i rec∧K (rec ops.size).tmps (rec ops.size).h (rec ops.size).S:=by
    intro i tmps h S born o h' S' born' v kd ho ⟨rec,k1,k2,k3,k4,⟨k5,k6,k8,k9⟩,k7⟩ hq hcl hcd hst
    have hlt:=(Array.getElem?_eq_some_iff.1 ho).1
    refine⟨fun j=>if j=i then ⟨tmps,h,S,v,born,kd⟩ else rec j,by simp,by simp,by simp,by simp,⟨?_,?_,?_,?_⟩,?_⟩
    · intro j oj hj hoj
      by_cases hji:j=i
      · subst hji
        rw [ho] at hoj;cases hoj
        have:¬ j+1=j:=by omega
        simp only [if_true,this,if_false]
        exact hq _ k1 k2 k3 k4
      · have:¬ j+1=i:=by omega
        simp only [hji,this,if_false]
        exact k5 j oj (by omega) hoj
    · intro j wr f g c zs E Q hc h1 ex v0 hj hjl hk
      by_cases hji:j=i
      · subst hji
        have h2:¬ j+1=j:=by omega
        simp only [if_true,h2,if_false] at hk ⊢
        rw [k3]
        exact hcl wr f g c zs E Q hc h1 ex v0 hk
      · have h2:¬ j+1=i:=by omega
        simp only [hji,h2,if_false] at hk ⊢
        exact k6 j wr f g c zs E Q hc h1 ex v0 (by omega) hjl hk
    · intro j hj hjl hju n b hb hn hnx
      simp only [if_true] at hnx ⊢
      by_cases hji:j=i
      · subst hji
        exact⟨by simpa using hnx,by simp⟩
      · simp only [hji,if_false]
        have e1:=hst.2 (by omega) n b hb hn hnx
        obtain⟨q1,q2⟩:=k8 j (by omega) hjl hju n b hb hn (by rw [k2];have:=hst.1;omega)
        exact⟨q1,by rw [q2,k2,e1]⟩
    · intro j f g c args hj hjl hk
      by_cases hji:j=i
      · subst hji
        have h2:¬ j+1=j:=by omega
        simp only [if_true,h2,if_false] at hk ⊢
        rw [k2,k3]
        exact hcd f g c args hk
      · have h2:¬ j+1=i:=by omega
        simp only [hji,h2,if_false] at hk ⊢
        exact k9 j f g c args (by omega) hjl hk
    · have:¬ ops.size=i:=by omega
      simp only [this,if_false]
      exact k7
  induction R with
  | @nil' i tmps h S born hn hk =>
    refine⟨fun _=>⟨tmps,h,S,undef,born,.skip⟩,rfl,rfl,rfl,rfl,⟨fun j o hj hoj=>?_,fun j wr f g c zs E Q hc h1 ex v0 _ _ hk'=>(by cases hk'),fun j _ _ _ n b _ _ h=>⟨h,rfl⟩,fun j f g c args _ _ hk'=>(by cases hk')⟩,hk⟩
    have:=(Array.getElem?_eq_some_iff.1 hoj).1
    omega
  | skip' ho hw hk ih=>exact ext undef .skip ho ih (fun q h1 h2 h3 h4=>⟨h1,hw,rfl,h2,h3,h4⟩) (fun wr f g c zs E Q hc h1 ex v0 hk'=>by cases hk') (fun f g c args hk'=>by cases hk') ⟨Nat.le_refl _,fun _ _ _ _ _ _=>rfl⟩
  | @far' i tmps h S born o v ho hw hb hq hfar hv hk ih=>exact ext v .far ho ih (fun q h1 h2 h3 h4=>⟨h1,hw,hb,hq,hfar,hv,h2,h3,h4⟩) (fun wr f g c zs E Q hc h1 ex v0 hk'=>by cases hk') (fun f g c args hk'=>by cases hk') ⟨Nat.le_refl _,fun _ _ _ _ _ _=>rfl⟩
  | @op' i tmps h S born o v h' S' wr hnf ho hw hb hl hop hst hk ih =>
    refine ext v (.op wr) ho ih (fun q h1 h2 h3 h4=>⟨h1,hnf,hw,hb,by rw [h2];exact hl,by rw [h2];exact h4,by rw [h2,h3];exact hop⟩) (fun wr f g c zs E Q hc h1 ex v0 hk'=>by cases hk') (fun f g c args hk'=>by cases hk') ⟨?_,fun _=>hst⟩
    cases wr with
    | true=>exact ziT hop.2
    | false =>
      obtain⟨_,hv,h1,rfl⟩:=hop
      have h2:=ziT h1
      exact h2
  | @call' i tmps h S born o v h' S' wr f g c zs E Q hc h1 ex v0 hnf ho hw hb hl hok hrun hst hk ih =>
    refine ext v (.call wr f g c zs E Q hc h1 ex v0) ho ih (fun q k1 k2 k3 k4=>⟨k1,hnf,hw,hb,by rw [k2];exact hl,by rw [k2];exact k4,by rw [k2,k3];exact hok⟩) (fun wr f' g' c' zs' E' Q' hc' h1' ex' v0' hk'=>by cases hk';exact hrun) (fun f g c args hk'=>by cases hk') ⟨?_,fun _=>hst⟩
    cases wr with
    | true=>have:=hok.2.back.next;omega
    | false =>
      obtain⟨_,hv,k1,rfl⟩:=hok
      have:=k1.back.next
      show h.next≤hv.next
      rw [this]
      show h.next≤h.next+_
      omega
  | @opU' i tmps h S born o v h' S' hnf ho hw hb hl hop hst hk ih =>
    exact ext v (.op true) ho ih (fun q h1 h2 h3 h4=>⟨h1,hnf,hw,hb,by rw [h2];exact hl,by rw [h2];exact h4,by rw [h2,h3];exact hop⟩) (fun wr f g c zs E Q hc h1 ex v0 hk'=>by cases hk') (fun f g c args hk'=>by cases hk') ⟨ziT hop.2,hst⟩
  | @callD' i tmps h S born o v h1 S1 f g c args hnf ho hw hb hl hq hle hlow hca hfn hg hbd hrun hst hk ih =>
    exact ext v (.callD f g c args) ho ih (fun q k1 k2 k3 k4=>⟨k1,hnf,hw,hb,by rw [k2];exact hl,by rw [k2];exact k4,hq,by rw [k2];exact hle,by rw [k2];exact hlow,hca,hfn,hg,hbd⟩) (fun wr f g c zs E Q hc h1 ex v0 hk'=>by cases hk') (fun f' g' c' args' hk'=>by cases hk';exact hrun) ⟨hle,hst⟩
theorem Goes.drawF {id:Nat} (W:List Nat) (hB:znq W ops=true) (hf:AHeap) (hst:∀ n b,hf.get n=some b→n<h.next∧∃ b0,b={ b0 with ro:=true }∧h.get n=some b0) (hk:RGF X W ops h.next hf (fun t h S=>Goes X fn A (.run k t h S)) 0 tmps h S []):Goes X fn A (.run (.code (.region id ops true)::k) tmps h S):=by
  obtain⟨rec,h1,h2,h3,h4,⟨h5,h6,h8,h9⟩,h7⟩:=hk.recs
  refine .draw W rec hB ⟨h1,h2,h3,h4⟩ hf (fun n b hb=>?_) (fun j o ho=>h5 j o (Nat.zero_le _) ho) (fun j wr f g c zs E Q hc h1 ex v0 hj hkd=>h6 j wr f g c zs E Q hc h1 ex v0 (Nat.zero_le _) hj hkd) (fun j f g c args hj hkd=>h9 j f g c args (Nat.zero_le _) hj hkd) h7
  obtain⟨k1,b0,k2,k3⟩:=hst n b hb
  refine⟨k1,b0,k2,fun j hj hju=>?_⟩
  rw [(h8 j (Nat.zero_le _) hj hju n b hb k1 (by rw [h2];exact Nat.le_refl _)).2,h2]
  exact k3
abbrev RG (X:Face P σ) (W:List Nat) (ops:Array Oper) (n0:Nat) (K:List Value→AHeap→σ→Prop):Nat→List Value→AHeap→σ→List (Nat × Nat)→Prop:=RGF X W ops n0 AHeap.none K
theorem Goes.drawR {id:Nat} (W:List Nat) (hB:znq W ops=true) (hk:RG X W ops h.next (fun t h S=>Goes X fn A (.run k t h S)) 0 tmps h S []):Goes X fn A (.run (.code (.region id ops true)::k) tmps h S) :=
  .drawF W hB AHeap.none (fun n b hb=>by cases hb) hk
section
variable {W:List Nat} {n0:Nat} {hf:AHeap} {K:List Value→AHeap→σ→Prop} {born:List (Nat × Nat)}
theorem RG.nil' (hn:ops.size=i) (hk:K tmps h S):RGF X W ops n0 hf K i tmps h S born:=RGF.nil' hn hk
theorem RG.skip' (ho:ops[i]?=some o) (hw:Region.wanted o (zai ops tmps)=false) (hk:RGF X W ops n0 hf K (i+1) (putL o.dst undef tmps) h S born):RGF X W ops n0 hf K i tmps h S born:=RGF.skip' ho hw hk
end
section
variable {n0:Nat} {K:List Value→AHeap→σ→Prop} {born:List (Nat × Nat)} {v:Value} {h':AHeap} {S':σ}
end
variable {W:List Nat} {n0:Nat} {Kf:List Value→AHeap→σ→Prop} {born:List (Nat × Nat)}
theorem zlz (hl:h.Low) {n0 mask:Nat}:zdT h (visH n0 born mask h)=h:=by
  unfold zdT visH
  cases h with
  | mk get next =>
    congr 1
    funext n
    simp only
    split
    · rw [if_neg (by omega)]
      cases hg:get n with
      | none=>rfl
      | some b=>have:=hl n b hg;simp only at this;omega
    · rfl
theorem zjJ (hl:h.Low) {n0 mask:Nat} (ob:Option Blk):zdT h ((visH n0 born mask h).addO ob)=h.addO ob:=by
  unfold zdT visH AHeap.addO
  congr 1
  funext n
  simp only
  by_cases h1:n=h.next
  · rw [if_pos (by omega),if_pos (by omega),if_pos h1,if_pos h1]
  · rw [if_neg h1]
    by_cases h2:h.next≤n
    · rw [if_pos h2,if_neg (by omega),if_neg h1]
      cases hg:h.get n with
      | none=>rfl
      | some b=>have:=hl n b hg;omega
    · rw [if_neg h2,if_neg h1]
theorem znZ (i n:Nat):zef i n (n+1)=[(i,n)]:=by
  unfold zef
  rw [show n+1 - n=1 by omega]
  rfl
variable {hf:AHeap}
theorem RG.nil (hn:(ops.size==i)=true) (hk:Kf tmps h S):RGF X W ops n0 hf Kf i tmps h S born:=.nil' (by simpa using hn) hk
theorem RG.still {v:Value} {S':σ} (hl:h.Low) (ho:ops[i]?=some o) (hw:Region.wanted o (zai ops tmps)=true) (hb:o.op.operands.all zaP=true) (hq:wrB W i o=false) (hop:Op0 X o (evA tmps) (visH n0 born ((zas ops.toList []).getD i 0) h) S v (visH n0 born ((zas ops.toList []).getD i 0) h) S')
    (hk:RGF X W ops n0 hf Kf (i+1) (putL o.dst v tmps) h S' born) (hnf:farB W i=false:=by rfl):RGF X W ops n0 hf Kf i tmps h S born :=
  .op' (h':=h) false hnf ho hw hb (.inl rfl) ⟨hq,_,hop,(zlz hl).symm⟩ (fun _ _ _ _ _=>rfl) (by rw [zez];exact hk)
theorem RG.skip (ho:ops[i]?=some o) (hw:Region.wanted o (zai ops tmps)=false) (hk:RGF X W ops n0 hf Kf (i+1) (putL o.dst undef tmps) h S born):RGF X W ops n0 hf Kf i tmps h S born:=.skip' ho hw hk
def lowH (n0:Nat) (h:AHeap):AHeap:=⟨fun n=>if n<n0 then h.get n else none,h.next⟩
theorem zhi {n0 mask:Nat} {n:Nat} {b:Blk} (hb:(lowH n0 h).get n=some b):(visH n0 born mask h).get n=some { b with ro:=true }:=by
  unfold lowH at hb
  simp only at hb
  split at hb
  · rename_i hn
    unfold visH
    simp only [hn,true_or,if_true,hb,Option.map_some]
  · cases hb
theorem zpC {n0 mask:Nat} {t:TypeId} {a:Addr} {v:Value} (hv:zgv P (lowH n0 h) t a=some v):zgv P (visH n0 born mask h) t a=some v:=by
  unfold zgv at hv ⊢
  cases hg:(lowH n0 h).get a.block with
  | none=>rw [hg] at hv;simp at hv
  | some b =>
    rw [hg] at hv;rw [zhi hg]
    revert hv
    generalize zaV P t=q1
    generalize zaj P t=q2
    intro hv
    rcases q1 with _|q1|q1<;>rcases q2 with _|q2<;>exact hv
theorem zm1 {n0 mask:Nat} {t:TypeId} {x v:Value} {lo hi mx:Option Value} (hv:zeX P (lowH n0 h) t x lo hi mx=some v):zeX P (visH n0 born mask h) t x lo hi mx=some v:=by
  unfold zeX at hv ⊢
  split at hv
  · rename_i a len cap _
    cases hg:(lowH n0 h).get a.block with
    | none =>
      rw [hg] at hv
      split at hv
      · split at hv
        · split at hv
          · rename_i h1 h2;simp_all
          · cases hv
        · cases hv
      · cases hv
    | some b=>rw [hg] at hv;rw [zhi hg];exact hv
  · exact hv
  · rename_i n el a _ _
    cases hg:(lowH n0 h).get a.block with
    | none=>rw [hg] at hv;simp at hv
    | some b =>
      rw [hg] at hv;rw [zhi hg]
      revert hv
      generalize zb2 lo 0=q1
      generalize zb2 hi n=q2
      generalize zaj P el=q3
      intro hv
      rcases q1 with _|q1<;>rcases q2 with _|q2<;>rcases q3 with _|q3<;>exact hv
  · cases hv
theorem zqy {n0 mask:Nat} {e:Operand→Value} {v:Value} (hv:valA P e (lowH n0 h) o.op=some v):valA P e (visH n0 born mask h) o.op=some v:=by
  cases hl:zer o with
  | false=>rw [zju (h':=lowH n0 h) hl];exact hv
  | true =>
    unfold zer at hl
    split at hl
    · rename_i t x hop
      rw [hop] at hv ⊢
      simp only [valA] at hv ⊢
      split at hv
      · exact zpC hv
      · cases hv
    · rename_i t x lo hi mx hop
      rw [hop] at hv ⊢
      exact zm1 hv
    · cases hl
theorem Goes.cond {c:Operand} {x y:Code} {b:Bool} (hc:evA tmps c=.bool b) (h1:b=true→Goes X fn A (.run (.code x::k) tmps h S)) (h2:b=false→Goes X fn A (.run (.code y::k) tmps h S)):Goes X fn A (.run (.code (.cond c x y)::k) tmps h S):=by
  refine .ctl (todo':=.code (if b then x else y)::k) (by simp only [Go.Proofs.Ytjhmhoapgbfgpaa.ctl,hc]) ?_
  cases b with
  | true=>exact h1 rfl
  | false=>exact h2 rfl
theorem Goes.fin {v:Value} {S':σ} (ht:retB todo=true) (hv:resA P fn tmps h=some v) (hS:S=S'):Goes X fn (fun x=>∃ h1,x=.done v h1 S') (.run todo tmps h S) :=
  .ret ht hv (.here ⟨h,by rw [hS]⟩)
def opOK:Op→Bool
  | .alloc _|.ready _|.waits _=>true
  | .move x|.assign x|.box _ x|.load _ x|.nilCheck x|.unOp _ _ x|.convert _ _ x|.makeInterface _ x|.makeChan _ x|.fieldAddr _ x _|.field _ x _|.extract x _|.panic x=>zaP x
  | .pick c a b=>zaP c && zaP a && zaP b
  | .store _ a v|.binOp _ _ a v _|.makeSlice _ a v|.indexAddr _ a v|.index _ a v=>zaP a && zaP v
  | .makeFunc _ xs ys=>xs.toList.all zaP && ys.toList.all zaP
  | .build _ ps|.buildSlice _ _ ps=>ps.toList.all fun p=>zaP p.2
  | .slice _ x l h m=>zaP x && l.all zaP && h.all zaP && m.all zaP
  | .call c=>(match c.callee with|.value f=>zaP f|.invoke r _=>zaP r|.builtin _=>true) && c.args.toList.all zaP
  | _=>false
theorem zk4 {l:Array Operand} (h:l.toList.all zaP=true):∀ x∈l,zaP x=true:=fun x hx=>List.all_eq_true.1 h x (by simpa using hx)
theorem zkg {l:Array (Nat × Operand)} (h:(l.toList.all fun p=>zaP p.2)=true):∀ x∈(l.toList.map (·.2)).toArray,zaP x=true:=fun x hx=>by
  obtain⟨p,hp,rfl⟩:=List.mem_map.1 (by simpa using hx:x∈l.toList.map (·.2))
  exact List.all_eq_true.1 h p hp
theorem zaZ {o:Op} (h:opOK o=true):o.operands.all zaP=true:=by
  rw [Array.all_eq_true_iff_forall_mem]
  intro x hx
  cases o with
  | makeFunc fn xs ys =>
    simp only [opOK,Bool.and_eq_true] at h
    rcases Array.mem_append.1 hx with hx|hx
    · exact zk4 h.1 x hx
    · exact zk4 h.2 x hx
  | build t ps=>exact zkg h x hx
  | buildSlice t n ps=>exact zkg h x hx
  | call c =>
    simp only [opOK,Bool.and_eq_true] at h
    unfold Op.operands Call.operands at hx
    rcases Array.mem_append.1 hx with hx|hx
    · have h1:=h.1
      cases hc:c.callee<;>simp_all
    · exact zk4 h.2 x hx
  | slice t x' l hh m =>
    simp only [opOK,Bool.and_eq_true] at h
    obtain⟨⟨⟨h1,h2⟩,h3⟩,h4⟩:=h
    unfold Op.operands at hx
    cases l<;>cases hh<;>cases m<;>simp_all<;>rcases hx with rfl|rfl|rfl|rfl<;>simp_all
  | _=>simp_all [opOK,Op.operands]<;>(try (rcases hx with rfl|rfl|rfl<;>simp_all))<;>(try (rcases hx with rfl|rfl<;>simp_all))
theorem za2 (ho:ops.toList[i]?=some o):ops[i]?=some o:=by rw [←ho];simp
theorem AtL.skip (ho:ops.toList[i]?=some o) (hw:Region.wanted o (zai ops tmps)=false) (hk:At X fn A ops k (i+1) (putL o.dst undef tmps) h S):At X fn A ops k i tmps h S:=At.skip (za2 ho) hw hk
theorem AtL.val (ho:ops.toList[i]?=some o) (hw:Region.wanted o (zai ops tmps)=true) (hb:opOK o.op=true)
    (hk:∀ K:List Value→AHeap→Prop,(∀ t h,At X fn A ops k (i+1) t h S→K t h)→OpK K o tmps h (valA P (evA tmps) h o.op)):At X fn A ops k i tmps h S:=At.val (za2 ho) hw (zaZ hb) hk
theorem AtL.new (ho:ops.toList[i]?=some o) (hw:Region.wanted o (zai ops tmps)=true) (hb:opOK o.op=true) (hl:h.next<VB)
    (hk:∀ K:List Value→AHeap→Prop,(∀ t h,At X fn A ops k (i+1) t h S→K t h)→NewK K o tmps h (newA P (evA tmps) h h.next o.op)):At X fn A ops k i tmps h S:=At.new (za2 ho) hw (zaZ hb) hl hk
theorem AtL.wr (ho:ops.toList[i]?=some o) (hw:Region.wanted o (zai ops tmps)=true) (hb:opOK o.op=true) (hl:h.next<VB)
    (hk:∀ K:List Value→AHeap→Prop,(∀ t h,At X fn A ops k (i+1) t h S→K t h)→WrK K o tmps (wrA P (evA tmps) h o.op)):At X fn A ops k i tmps h S:=At.wr (za2 ho) hw (zaZ hb) hl hk
theorem AtL.store (ho:ops.toList[i]?=some o) (hw:Region.wanted o (zai ops tmps)=true) (hb:opOK o.op=true)
    (hk:∀ K:List Value→AHeap→Prop,(∀ t h,At X fn A ops k (i+1) t h S→K t h)→zgq K o tmps (zcs P (evA tmps) h o.op)):At X fn A ops k i tmps h S:=At.store (za2 ho) hw (zaZ hb) hk
theorem zit {n0 mask s:Nat} {v:Value} {cs:List Value} (hv:zbi (lowH n0 h) s v=some cs):zbi (visH n0 born mask h) s v=some cs:=by
  unfold zbi at hv ⊢
  split at hv
  · exact hv
  · rename_i a n c
    cases hg:(lowH n0 h).get a.block with
    | none =>
      rw [hg] at hv
      split at hv
      · rename_i h0;simp only [h0,if_true];exact hv
      · split at hv
        · cases hv
        · cases hv
    | some b=>rw [hg] at hv;rw [zhi hg];exact hv
  · cases hv
theorem zkS {n0 mask:Nat} {t:TypeId} {x y:Value} {r:List Value × TypeId × Nat} (hv:zct P (lowH n0 h) t x y=some (r.1,r.2.1,r.2.2,true)):zct P (visH n0 born mask h) t x y=some (r.1,r.2.1,r.2.2,true):=by
  unfold zct at hv ⊢
  cases hsl:zbk P t with
  | none=>rw [hsl] at hv;cases hv
  | some el =>
    rw [hsl] at hv
    simp only at hv ⊢
    cases h1:zbi (lowH n0 h) ((zaj P el).getD 0) x with
    | none=>rw [h1] at hv;simp at hv
    | some olds =>
      cases h2:zbi (lowH n0 h) ((zaj P el).getD 0) y with
      | none=>rw [h1,h2] at hv;simp at hv
      | some news =>
        rw [h1,h2] at hv
        rw [zit h1,zit h2]
        split at hv
        · rename_i s bs z olds' news' a sl sc b n c hs hbs hz ho hn
          cases ho;cases hn
          split at hv
          · rename_i hc
            rw [if_pos hc]
            split at hv
            · exact hv
            · rename_i ad
              cases hg:(lowH n0 h).get ad.block with
              | none=>rw [hg] at hv;cases hv
              | some bk =>
                rw [hg] at hv
                simp only [zhi hg] at hv ⊢
                split at hv
                · rename_i hgr;rw [if_pos hgr];exact hv
                · split at hv
                  · simp at hv
                  · cases hv
          · cases hv
        · cases hv
theorem zqD {n0 mask n:Nat} {e:Operand→Value} {v:Value × Option Blk} (hv:newA P e (lowH n0 h) n o.op=some v) (hne:∀ t x lo hi mx,o.op≠.slice t x lo hi mx):newA P e (visH n0 born mask h) n o.op=some v:=by
  revert hv
  generalize o.op=op at hne
  intro hv
  unfold newA at hv ⊢
  split at hv
  · exact hv
  · exact hv
  · exact hv
  · exact hv
  · split at hv
    · rename_i x y t t' hx ht
      split at hv
      · rename_i htt
        split at hv
        · rename_i news el need hap
          have:=zkS (mask:=mask) (born:=born) (r:=(news,el,need)) hap
          simp only [if_pos htt,this]
          exact hv
        · cases hv
      · cases hv
    · cases hv
  · exact absurd rfl (hne _ _ _ _ _)
  · cases hv
def zrW:Op→Bool
  | .slice ..=>false
  | _=>true
theorem RGL.skip (ho:ops.toList[i]?=some o) (hw:Region.wanted o (zai ops tmps)=false) (hk:RGF X W ops n0 hf Kf (i+1) (putL o.dst undef tmps) h S born):RGF X W ops n0 hf Kf i tmps h S born:=RG.skip (za2 ho) hw hk
theorem RGL.val (hl:h.Low) (ho:ops.toList[i]?=some o) (hw:Region.wanted o (zai ops tmps)=true) (hb:opOK o.op=true) (hq:wrB W i o=false)
    (hk:∀ K:List Value→AHeap→Prop,(∀ t h,RGF X W ops n0 hf Kf (i+1) t h S born→K t h)→OpK K o tmps h (valA P (evA tmps) (lowH n0 h) o.op)) (hnf:farB W i=false:=by rfl):RGF X W ops n0 hf Kf i tmps h S born:=by
  have:=hk _ (fun _ _ h=>h)
  cases hv:valA P (evA tmps) (lowH n0 h) o.op with
  | none=>rw [hv] at this;exact this.elim
  | some v=>rw [hv] at this;exact RG.still hl (za2 ho) hw (zaZ hb) hq (.inl ⟨zqy hv,rfl,rfl⟩) this hnf
theorem RGL.new (hl:h.Low) (ho:ops.toList[i]?=some o) (hw:Region.wanted o (zai ops tmps)=true) (hb:opOK o.op=true) (hq:wrB W i o=false) (hn:h.next<VB) (hne:zrW o.op=true)
    (hk:∀ K:List Value→AHeap→Prop,(∀ t h',RGF X W ops n0 hf Kf (i+1) t h' S ((i,h.next)::born)→K t h')→NewK K o tmps h (newA P (evA tmps) (lowH n0 h) h.next o.op)) (hnf:farB W i=false:=by rfl):RGF X W ops n0 hf Kf i tmps h S born:=by
  have:=hk _ (fun _ _ h=>h)
  cases hv:newA P (evA tmps) (lowH n0 h) h.next o.op with
  | none=>rw [hv] at this;exact this.elim
  | some v =>
    obtain⟨v,ob⟩:=v
    rw [hv] at this
    refine .op' (h':=h.addO ob) (v:=v) (S':=S) false hnf (za2 ho) hw (zaZ hb) (.inr hn) ⟨hq,_,.inr (.inl ⟨ob,zqD hv (fun t x lo hi mx he=>by rw [he] at hne;cases hne),rfl,rfl⟩),(zjJ hl ob).symm⟩ (fun n b _ h1 h2=>by rw [AHeap.addO_get,if_neg (by omega)]) ?_
    rw [show (h.addO ob).next=h.next+1 from rfl,znZ]
    exact this
theorem RGL.store (ho:ops.toList[i]?=some o) (hw:Region.wanted o (zai ops tmps)=true) (hb:opOK o.op=true)
    (hk:∀ K:List Value→AHeap→Prop,(∀ t h,RG X W ops n0 Kf (i+1) t h S born→K t h)→zgq K o tmps (zcs P (evA tmps) h o.op)) (hnf:farB W i=false:=by rfl):RG X W ops n0 Kf i tmps h S born:=by
  have:=hk _ (fun _ _ h=>h)
  cases hv:zcs P (evA tmps) h o.op with
  | none=>rw [hv] at this;exact this.elim
  | some h' =>
    rw [hv] at this
    obtain⟨t,x,y,a,h1,h2,h3⟩:=zgs hv
    obtain⟨b,s,_,_,_,_,_,_,_,rfl⟩:=zch h3
    have hop:Op0 X o (evA tmps) h S undef (h.put a.block { b with cells:=zaR b.cells a.off (evA tmps y).cells.toList }) S:=.inr (.inr (.inl ⟨zh8 hv,rfl⟩))
    refine RGF.op' (h':=h.put a.block { b with cells:=zaR b.cells a.off (evA tmps y).cells.toList }) true hnf (za2 ho) hw (zaZ hb) (.inl rfl) ⟨by unfold wrB zdo;rw [h1];rfl,hop⟩ (fun n b hb=>by cases hb) ?_
    rw [AHeap.put_next,zez]
    exact this
theorem RGL.wr (ho:ops.toList[i]?=some o) (hw:Region.wanted o (zai ops tmps)=true) (hb:opOK o.op=true) (hn:h.next<VB) (hq:wrB W i o=true)
    (hk:∀ K:List Value→AHeap→Prop,(∀ t h',RG X W ops n0 Kf (i+1) t h' S (zef i h.next h'.next++born)→K t h')→WrK K o tmps (wrA P (evA tmps) h o.op)) (hnf:farB W i=false:=by rfl):RG X W ops n0 Kf i tmps h S born:=by
  have:=hk _ (fun _ _ h=>h)
  cases hv:wrA P (evA tmps) h o.op with
  | none=>rw [hv] at this;exact this.elim
  | some v =>
    obtain⟨v,h'⟩:=v
    rw [hv] at this
    exact RGF.op' true hnf (za2 ho) hw (zaZ hb) (by rcases zkb hv with h|h<;>omega) ⟨hq,.inr (.inr (.inl ⟨hv,rfl⟩))⟩ (fun n b hb=>by cases hb) this
theorem RG.prim {g:Func} (hl:h.Low) (ho:ops[i]?=some o) (hw:Region.wanted o (zai ops tmps)=true) (hb:o.op.operands.all zaP=true) (hq:wrB W i o=false)
    (hk:zdD (fun f args=>P.funcs[f]?=some g∧goB g=true∧∃ v S',X.prim f args S v S'∧RGF X W ops n0 hf Kf (i+1) (putL o.dst v tmps) h S' born) (zaN P (evA tmps) o.op)) (hnf:farB W i=false:=by rfl):RGF X W ops n0 hf Kf i tmps h S born:=by
  cases hv:zaN P (evA tmps) o.op with
  | none=>rw [hv] at hk;exact hk.elim
  | some x =>
    obtain⟨f,args⟩:=x
    rw [hv] at hk
    obtain⟨h1,h2,v,S',h3,h4⟩:=hk
    exact RG.still hl ho hw hb hq (.inr (.inr (.inr ⟨f,g,args,hv,h1,h2,h3,rfl⟩))) h4 hnf
theorem RG.call (hl:h.Low) (ho:ops[i]?=some o) (hw:Region.wanted o (zai ops tmps)=true) (hb:o.op.operands.all zaP=true) (hq:wrB W i o=false)
    (hk:zdD (fun f args=>∃ v S',Does X f args [] S v S'∧RGF X W ops n0 hf Kf (i+1) (putL o.dst v tmps) h S' born) (zaN P (evA tmps) o.op)) (hnf:farB W i=false:=by rfl):RGF X W ops n0 hf Kf i tmps h S born:=by
  cases hv:zaN P (evA tmps) o.op with
  | none=>rw [hv] at hk;exact hk.elim
  | some x =>
    obtain⟨f,args⟩:=x
    rw [hv] at hk
    obtain⟨v,S',⟨g,c,h1,d1,d2,d3,d4,d5,d6⟩,h4⟩:=hk
    refine .call' (h':=h) false f g c args idE idE (zar []) h1 [] v hnf ho hw hb (.inl rfl) ⟨hq,_,zgX h1 hv d1 d2 d3 d4 d5,(zlz hl).symm⟩ d6 (fun _ _ _ _ _=>rfl) ?_
    rw [zez]
    exact h4
theorem Goes.trans {B:Conf σ→Prop} {c:Conf σ} (G:Goes X fn A c) (hAB:∀ x,A x→Goes X fn B x):Goes X fn B c:=by
  induction G with
  | here h=>exact hAB _ h
  | ctl hc _ ih=>exact .ctl hc (ih hAB)
  | ret ht hv _ ih=>exact .ret ht hv (ih hAB)
  | skip ho hw _ ih=>exact .skip ho hw (ih hAB)
  | op ho hw hb hop hl _ ih=>exact .op ho hw hb hop hl (ih hAB)
  | call f g c zs E Q hc h1 ex v0 ho hw hb hok hl hrun _ _ ih=>exact .call f g c zs E Q hc h1 ex v0 ho hw hb hok hl hrun (ih hAB)
  | callD f g c args v h1 S1 ho hw hb hca hf hg hbd hrun _ _ ih=>exact .callD f g c args v h1 S1 ho hw hb hca hf hg hbd hrun (ih hAB)
  | draw W rec hB h0 hf hst hgood hcalls hcallsD _ _ _ ih=>exact .draw W rec hB h0 hf hst hgood hcalls hcallsD (ih hAB)
  | weak hs hn _ ih=>exact .weak hs hn (ih hAB)
  | raise hg hn hl _ ih=>exact .raise hg hn hl (ih hAB)
theorem Goes.mono {B:Conf σ→Prop} {c:Conf σ} (G:Goes X fn A c) (hAB:∀ x,A x→B x):Goes X fn B c:=G.trans fun x h=>.here (hAB x h)
theorem Goes.out {c:Conf σ} (G:Goes X fn A c):∃ c',A c'∧Goes X fn (fun x=>x=c') c:=by
  induction G with
  | here h=>exact⟨_,h,.here rfl⟩
  | ctl hc _ ih=>obtain⟨c',h,G⟩:=ih;exact⟨c',h,.ctl hc G⟩
  | ret ht hv _ ih=>obtain⟨c',h,G⟩:=ih;exact⟨c',h,.ret ht hv G⟩
  | skip ho hw _ ih=>obtain⟨c',h,G⟩:=ih;exact⟨c',h,.skip ho hw G⟩
  | op ho hw hb hop hl _ ih=>obtain⟨c',h,G⟩:=ih;exact⟨c',h,.op ho hw hb hop hl G⟩
  | call f g c zs E Q hc h1 ex v0 ho hw hb hok hl hrun _ _ ih=>obtain⟨c',h,G⟩:=ih;exact⟨c',h,.call f g c zs E Q hc h1 ex v0 ho hw hb hok hl hrun G⟩
  | callD f g c args v h1 S1 ho hw hb hca hf hg hbd hrun _ _ ih=>obtain⟨c',h,G⟩:=ih;exact⟨c',h,.callD f g c args v h1 S1 ho hw hb hca hf hg hbd hrun G⟩
  | draw W rec hB h0 hf hst hgood hcalls hcallsD _ _ _ ih=>obtain⟨c',h,G⟩:=ih;exact⟨c',h,.draw W rec hB h0 hf hst hgood hcalls hcallsD G⟩
  | weak hs hn _ ih=>obtain⟨c',h,G⟩:=ih;exact⟨c',h,.weak hs hn G⟩
  | raise hg hn hl _ ih=>obtain⟨c',h,G⟩:=ih;exact⟨c',h,.raise hg hn hl G⟩
theorem Does.mk {f:FuncId} {g:Func} {c:Code} {args:Array Value} {l:List Blk} {S S':σ} {v:Value} (hf:P.funcs[f]?=some g) (hg:goB g=true) (hb:g.body=some c) (hclo:∀ u∈args.toList,Clo (Kn l.length (X.cnt S)) u) (hv:Hand (X.cnt S') v)
    (hrun:Goes X g (fun x=>∃ h1,x=.done v h1 S') (.run [.code c] (args.toList++List.replicate (g.ntmps - args.size) undef) (zar (l.map some)) S)):Does X f args l S v S':=by
  obtain⟨c',⟨h1,rfl⟩,G⟩:=hrun.out
  exact⟨g,c,h1,hf,hg,hb,hclo,hv,G⟩
end
theorem Try.mix:Try.prog.follows .mixedOrders=true:=by kernel_rfl
def gM (N T:Nat):Nat:=T * 4 * (N+1)+T * (2 * T+3)
def gsz (N T:Nat):Nat→Nat
  | 0=>1|1=>1|2=>5|3=>9|4=>1|5=>4|6=>T|7=>N|8=>N|9=>N|10=>N * 8|11=>N * 8
  | 12=>T * 4 * 2|13=>T * 4|14=>T * 2|15=>T|16=>T * (2 * T+2)|17=>gM N T|18=>gM N T * 8|_=>0
def gsum (N T:Nat):Nat→Nat
  | 0=>0
  | i+1=>gsum N T i+gsz N T i
def gb (N T i:Nat):Nat:=if N=0 then 0 else gsum N T i
def geoC (N T:Nat):Array Value:=#[.int .i64 N,.int .i64 T]++((List.range 20).map fun i=>Value.int .i64 (gb N T i)).toArray
theorem ztV (N T i:Nat) (hN:N≤256) (hT:T≤64):gsz N T i≤600000:=by
  have h1:T * 4 * (N+1)≤64 * 4 * 257:=Nat.mul_le_mul (by omega) (by omega)
  have h2:T * (2 * T+3)≤64 * 131:=Nat.mul_le_mul hT (by omega)
  have h3:T * (2 * T+2)≤64 * 130:=Nat.mul_le_mul hT (by omega)
  have h4:gM N T≤74176:=by unfold gM;omega
  unfold gsz;split<;>omega
theorem zk7 (N T:Nat) (hN:N≤256) (hT:T≤64):∀ i,gsum N T i≤600000 * i
  | 0=>Nat.le_refl _
  | i+1=>by have:=zk7 N T hN hT i;have:=ztV N T i hN hT;rw [gsum];omega
theorem zbE (N T i:Nat) (hN:N≤256) (hT:T≤64) (hi:i<20):gb N T i≤12000000:=by
  unfold gb;split
  · omega
  · have:=zk7 N T hN hT i;omega
theorem zoT (N T i:Nat):gb N T (i+1)=gb N T i+if N=0 then 0 else gsz N T i:=by unfold gb;split<;>rfl
theorem zrS (N T i:Nat):gb N T i≤gb N T (i+1):=by rw [zoT];omega
def gat (N T r:Nat) (n:Int):Int:=if n<0∨(gb N T (r+1):Int) - gb N T r≤n then -1 else gb N T r+n
theorem zbD (N T r:Nat) {n:Int} (h:n<0):gat N T r n=-1:=if_pos (.inl h)
theorem zbB (N T r:Nat) {n:Int} (h:(gb N T (r+1):Int) - gb N T r≤n):gat N T r n=-1:=if_pos (.inr h)
theorem zcc (N T r:Nat) {n:Int} (h0:0≤n) (h:n<(gb N T (r+1):Int) - gb N T r):gat N T r n=gb N T r+n:=if_neg (by omega)
theorem zmE (v:Value):Instr.loadAt 26 v=zjM 26 v:=rfl
theorem zla (v u:Value):Instr.storeAt 26 v u=zih 26 v u:=rfl
attribute [go_sem ↓] zmE zla
theorem zsK (N T:Nat):(gM N T:Int)=(T:Int) * 4 * (N+1)+(T:Int) * (2 * T+3):=by
  unfold gM;push_cast;rfl
theorem zo1 (v:Value):Instr.loadAt 68 v=zjM 68 v:=rfl
theorem zmu (v u:Value):Instr.storeAt 68 v u=zih 68 v u:=rfl
attribute [local go_sem ↓] zo1 zmu
def zlC (ws:List UInt64):Array Value:=(ws.map fun x=>Value.int .u64 (x.toNat:Int)).toArray
def zmd (bs:List UInt8):Array Value:=(bs.map fun x=>Value.int .u8 (x.toNat:Int)).toArray
structure zfS where
  m:Nat
  bw:Nat
  bb:Nat
  pw:Array Value:=#[]
  pb:Array Value:=#[]
def memC (M:zfS) (ws:List UInt64) (bs:List UInt8):Array Value :=
  #[.slice (some ⟨M.bw,0,none⟩) ws.length (ws.length+M.pw.size),.slice (some ⟨M.bb,0,none⟩) bs.length (bs.length+M.pb.size)]
structure MemAt (w:World) (M:zfS) (ws:List UInt64) (bs:List UInt8):Prop where
  hm:blk w M.m=some (.cells (memC M ws bs) 71 (0,0))
  hw:blk w M.bw=some (.cells (zlC ws++M.pw) 34 (0,0))
  hb:blk w M.bb=some (.cells (zmd bs++M.pb) 5 (0,0))
  wl:ws.length≤2097152
  bl:bs.length≤1048576
theorem zbe {w:World} {a b:Nat} {c d:Array Value} {s t:TypeId} {f g:Nat × Nat} (h:blk w a=some (.cells c s f)) (k:blk w b=some (.cells d t g)) (hne:s≠t):a≠b:=by
  rintro rfl
  rw [h] at k
  injection k with k
  injection k with _ k _
  exact hne k
theorem MemAt.ext {w w':World} {M:zfS} {ws:List UInt64} {bs:List UInt8} {X:List Nat} (h:MemAt w M ws bs) (k:Ext X w w') (h1:M.m ∉ X) (h2:M.bw ∉ X) (h3:M.bb ∉ X):MemAt w' M ws bs :=
  ⟨k.blk h.hm h1,k.blk h.hw h2,k.blk h.hb h3,h.wl,h.bl⟩
theorem MemAt.ext0 {w w':World} {M:zfS} {ws:List UInt64} {bs:List UInt8} (h:MemAt w M ws bs) (k:Ext [] w w'):MemAt w' M ws bs:=h.ext k (by simp) (by simp) (by simp)
theorem MemAt.c0 {w:World} {M:zfS} {ws:List UInt64} {bs:List UInt8} (h:MemAt w M ws bs):w.cell? ⟨M.m,0,none⟩=some (.slice (some ⟨M.bw,0,none⟩) ws.length (ws.length+M.pw.size)):=zd6 h.hm 0
theorem MemAt.c1 {w:World} {M:zfS} {ws:List UInt64} {bs:List UInt8} (h:MemAt w M ws bs):w.cell? ⟨M.m,1,none⟩=some (.slice (some ⟨M.bb,0,none⟩) bs.length (bs.length+M.pb.size)):=zd6 h.hm 1
theorem MemAt.drew {w:World} {M:zfS} {ws:List UInt64} {bs:List UInt8} (h:MemAt w M ws bs):MemAt w.drew M ws bs:=⟨h.hm,h.hw,h.hb,h.wl,h.bl⟩
theorem MemAt.alloc {w:World} {M:zfS} {ws:List UInt64} {bs:List UInt8} (h:MemAt w M ws bs) (o:Obj):MemAt (w.alloc o) M ws bs:=h.ext0 ((Ext.refl [] w).alloc o)
def accV (k at':Int) (A B:UInt64):Value:=.agg #[.int .u8 k,.int .i64 at',.int .u64 (A.toNat:Int),.int .u64 (B.toNat:Int)]
theorem zr5 (a b:UInt64):IntKind.u64.wrap ((a.toNat:Int)+(b.toNat:Int))=((a+b).toNat:Int):=by
  have h:=UInt64.toNat_add a b
  rw [IntKind.wrap_u64];omega
theorem zi8 (w:World):(Instr.index 89 (.agg #[.nilFunc,.func (.func 38) #[] #[],.func (.func 39) #[] #[],.func (.func 40) #[] #[],.func (.func 41) #[] #[]]) (.int .u8 1)).run Try.prog w=.ok (.func (.func 38) #[] #[]) w:=by kernel_rfl
theorem ziZ (w:World):(Instr.index 89 (.agg #[.nilFunc,.func (.func 38) #[] #[],.func (.func 39) #[] #[],.func (.func 40) #[] #[],.func (.func 41) #[] #[]]) (.int .u8 2)).run Try.prog w=.ok (.func (.func 39) #[] #[]) w:=by kernel_rfl
theorem zjc (w:World):(Instr.index 89 (.agg #[.nilFunc,.func (.func 38) #[] #[],.func (.func 39) #[] #[],.func (.func 40) #[] #[],.func (.func 41) #[] #[]]) (.int .u8 3)).run Try.prog w=.ok (.func (.func 40) #[] #[]) w:=by kernel_rfl
theorem ziY (w:World):(Instr.index 89 (.agg #[.nilFunc,.func (.func 38) #[] #[],.func (.func 39) #[] #[],.func (.func 40) #[] #[],.func (.func 41) #[] #[]]) (.int .u8 4)).run Try.prog w=.ok (.func (.func 41) #[] #[]) w:=by kernel_rfl
attribute [local go_sem] zi8 ziZ zjc ziY
attribute [local go_sem] zi8 ziZ zjc ziY
attribute [local go_sem] zi8 ziZ zjc ziY
def wAt (ws:List UInt64) (n:Int):Option UInt64:=if n<0 then none else ws[n.toNat]?
def kNow (k:Nat) (x A B:UInt64):UInt64:=match k with
  | 1=>x|2=>A|3=>if x=A then B else x|_=>x+A
def zgu (k:Nat) (x A:UInt64):UInt64:=match k with
  | 1=>x|2=>0|3=>if x=A then 1 else 0|_=>x
def wT (k:Nat) (n:Int) (A:UInt64) (ws:List UInt64):UInt64:=match wAt ws n with
  | none=>0|some x=>zgu k x A
def wS (k:Nat) (n:Int) (A B:UInt64) (ws:List UInt64):List UInt64:=match wAt ws n with
  | none=>ws|some x=>ws.set n.toNat (kNow k x A B)
theorem ztq {ws:List UInt64} {n:Nat} (h:n<ws.length):wAt ws n=some ws[n]:=by unfold wAt;rw [if_neg (by omega)];simp [h]
theorem zse {ws:List UInt64} {n:Int} (h:n<0):wAt ws n=none:=if_pos h
theorem zsC {ws:List UInt64} {n:Int} (h:(ws.length:Int)≤n):wAt ws n=none:=by unfold wAt;rw [if_neg (by omega)];simp;omega
theorem zfj (k:Nat) (n:Int) (A B:UInt64) (ws:List UInt64):(wS k n A B ws).length=ws.length:=by unfold wS;split<;>simp
theorem zd3 {ws:List UInt64} {n:Nat} (h:n<ws.length):ws.set n ws[n]=ws:=by
  apply List.ext_getElem?;intro j
  rw [List.getElem?_set];split
  · rename_i e;subst e;simp [h]
  · rfl
structure zkh where
  d:Nat
  v:Nat
structure DirAt (w:World) (D:zkh) (m:Nat) (me:Int) (told:Value) (steps:Nat):Prop where
  hd:blk w D.d=some (.cells #[.pointer (some ⟨D.v,0,none⟩),.int .i64 me,told] 67 (0,0))
  hv:blk w D.v=some (.cells #[.pointer (some ⟨m,0,none⟩),.int .i64 (steps:Int)] 64 (0,0))
section
variable {w w':World} {D:zkh} {m:Nat} {me:Int} {told:Value} {steps:Nat} {M:zfS} {ws:List UInt64} {bs:List UInt8}
theorem DirAt.ext {X:List Nat} (h:DirAt w D m me told steps) (k:Ext X w w') (h1:D.d ∉ X) (h2:D.v ∉ X):DirAt w' D m me told steps:=⟨k.blk h.hd h1,k.blk h.hv h2⟩
theorem DirAt.ext0 (h:DirAt w D m me told steps) (k:Ext [] w w'):DirAt w' D m me told steps:=h.ext k (by simp) (by simp)
theorem DirAt.ne_dv (h:DirAt w D m me told steps):D.d≠D.v:=zbe h.hd h.hv (by decide)
theorem DirAt.c0 (h:DirAt w D m me told steps):w.cell? ⟨D.d,0,none⟩=some (.pointer (some ⟨D.v,0,none⟩)):=zd6 h.hd 0
theorem DirAt.c1 (h:DirAt w D m me told steps):w.cell? ⟨D.d,1,none⟩=some (.int .i64 me):=zd6 h.hd 1
theorem DirAt.v0 (h:DirAt w D m me told steps):w.cell? ⟨D.v,0,none⟩=some (.pointer (some ⟨m,0,none⟩)):=zd6 h.hv 0
theorem DirAt.v1 (h:DirAt w D m me told steps):w.cell? ⟨D.v,1,none⟩=some (.int .i64 (steps:Int)):=zd6 h.hv 1
theorem DirAt.step (h:DirAt w D m me told steps) (n:Nat):DirAt (w.setCell ⟨D.v,1,none⟩ (.int .i64 (n:Int))) D m me told n :=
  ⟨by rw [zrV _ _ _ _ h.ne_dv,h.hd],by rw [zkE h.hv];rfl⟩
end
def PS (D:zkh) (M:zfS) (me:Int) (told:Value) (steps:Nat) (ws:List UInt64) (bs:List UInt8) (w:World) (w':World):Prop :=
  DirAt w' D M.m me told steps∧MemAt w' M ws bs∧Ext [D.v,M.bw] w w'
theorem zk0 {ws:List UInt64} {n:Int} {A:UInt64} (h:wAt ws n=some A) (B:UInt64):(wT 3 n A ws==1)=true∧wS 3 n A B ws=ws.set n.toNat B:=by
  simp [wT,wS,h,zgu,kNow]
theorem zry {ws:List UInt64} {n:Int} {x:UInt64} (h:wAt ws n=some x):ws.set n.toNat x=ws:=by
  unfold wAt at h
  split at h
  · cases h
  · obtain⟨hl,rfl⟩:=List.getElem?_eq_some_iff.1 h
    exact zd3 hl
theorem zd9 {ws:List UInt64} {n:Int} {A:UInt64} (h:wAt ws n≠some A) (B:UInt64):(wT 3 n A ws==1)=false∧wS 3 n A B ws=ws:=by
  cases hx:wAt ws n with
  | none=>simp [wT,wS,hx]
  | some x =>
    have hne:x≠A:=fun e=>h (by rw [hx,e])
    simp [wT,wS,hx,zgu,kNow,hne,zry hx]
theorem PS.trans {D:zkh} {M:zfS} {me:Int} {told:Value} {s s':Nat} {ws ws':List UInt64} {bs bs':List UInt8} {a b c:World} (h:PS D M me told s ws bs a b) (k:PS D M me told s' ws' bs' b c):PS D M me told s' ws' bs' a c :=
  ⟨k.1,k.2.1,h.2.2.trans' k.2.2⟩
theorem PS.ext0 {D:zkh} {M:zfS} {me:Int} {told:Value} {s:Nat} {ws:List UInt64} {bs:List UInt8} {a b c:World} (h:PS D M me told s ws bs a b) (k:Ext [] b c):PS D M me told s ws bs a c :=
  ⟨h.1.ext0 k,h.2.1.ext0 k,h.2.2.trans0 k⟩
theorem PS.refl {D:zkh} {M:zfS} {me:Int} {told:Value} {s:Nat} {ws:List UInt64} {bs:List UInt8} {a:World} (h:DirAt a D M.m me told s) (k:MemAt a M ws bs):PS D M me told s ws bs a a:=⟨h,k,Ext.refl _ _⟩
theorem zoD (n : Nat) (a : Addr) (w : World) : (method (n + 1) 42 (.pointer (some a)) "Load").run Try.prog w = .ok (61, .pointer (some a)) w := by kernel_rfl
theorem zpd (n : Nat) (a : Addr) (w : World) : (nilAhead (n + 1) 42 (.pointer (some a)) "Load").run Try.prog w = .ok (some false) w := by kernel_rfl
attribute [go_sem] zoD zpd
theorem zqc (n : Nat) (a : Addr) (w : World) : (method (n + 1) 42 (.pointer (some a)) "CAS").run Try.prog w = .ok (58, .pointer (some a)) w := by kernel_rfl
theorem zp3 (n : Nat) (a : Addr) (w : World) : (nilAhead (n + 1) 42 (.pointer (some a)) "CAS").run Try.prog w = .ok (some false) w := by kernel_rfl
attribute [go_sem] zqc zp3
theorem zq6 (n : Nat) (a : Addr) (w : World) : (method (n + 1) 42 (.pointer (some a)) "Add").run Try.prog w = .ok (57, .pointer (some a)) w := by kernel_rfl
theorem zqO (n : Nat) (a : Addr) (w : World) : (nilAhead (n + 1) 42 (.pointer (some a)) "Add").run Try.prog w = .ok (some false) w := by kernel_rfl
attribute [go_sem] zq6 zqO
theorem znW (n : Nat) (a : Addr) (w : World) : (method (n + 1) 42 (.pointer (some a)) "Self").run Try.prog w = .ok (63, .pointer (some a)) w := by kernel_rfl
theorem zoR (n : Nat) (a : Addr) (w : World) : (nilAhead (n + 1) 42 (.pointer (some a)) "Self").run Try.prog w = .ok (some false) w := by kernel_rfl
attribute [go_sem] znW zoR
theorem ziB (fn:Fn) (first cap:Array Value) (w:World):(Instr.makeFunc fn first cap).run Try.prog w=.ok (.func fn first cap) w:=rfl
attribute [go_sem] ziB
def bAt (bs:List UInt8) (n:Int):Option UInt8:=if n<0 then none else bs[n.toNat]?
def bT (n:Int) (bs:List UInt8):UInt8:=match bAt bs n with|none=>0|some x=>x
def bS (n:Int) (b:UInt8) (bs:List UInt8):List UInt8:=match bAt bs n with|none=>bs|some _=>bs.set n.toNat b
theorem zrq {bs:List UInt8} {n:Nat} (h:n<bs.length):bAt bs n=some bs[n]:=by unfold bAt;rw [if_neg (by omega)];simp [h]
theorem zpe {bs:List UInt8} {n:Int} (h:n<0):bAt bs n=none:=if_pos h
theorem zoN {bs:List UInt8} {n:Int} (h:(bs.length:Int)≤n):bAt bs n=none:=by unfold bAt;rw [if_neg (by omega)];simp;omega
theorem zjk (n:Int) (b:UInt8) (bs:List UInt8):(bS n b bs).length=bs.length:=by unfold bS;split<;>simp
theorem zsI (A:UInt64):IntKind.u8.wrap (A.toNat:Int)=(A.toUInt8.toNat:Int):=by
  rw [IntKind.wrap_u8];simp
theorem DirAt.c2 {w:World} {D:zkh} {m:Nat} {me:Int} {told:Value} {steps:Nat} (h:DirAt w D m me told steps):w.cell? ⟨D.d,2,none⟩=some told:=zd6 h.hd 2
def isq:Nat→Nat
  | 0=>0
  | n+1=>if (isq n+1) * (isq n+1)≤n+1 then isq n+1 else isq n
theorem zls:∀ n,isq n * isq n≤n∧n<(isq n+1) * (isq n+1)
  | 0=>by simp [isq]
  | n+1=>by
    obtain⟨h1,h2⟩:=zls n
    unfold isq
    split
    · rename_i h
      refine⟨h,?_⟩
      have:(isq n+1+1) * (isq n+1+1)=(isq n+1) * (isq n+1)+2 * (isq n+1)+1:=by
        simp only [Nat.add_mul,Nat.mul_add];omega
      omega
    · omega
def code (a b:Nat):Nat:=(a+b) * (a+b)+a
theorem zl2 (a b:Nat):isq (code a b)=a+b:=by
  obtain⟨h1,h2⟩:=zls (code a b)
  have hc:code a b<(a+b+1) * (a+b+1):=by
    unfold code
    have:(a+b+1) * (a+b+1)=(a+b) * (a+b)+2 * (a+b)+1:=by simp only [Nat.add_mul,Nat.mul_add];omega
    omega
  have hd:(a+b) * (a+b)≤code a b:=by unfold code;omega
  rcases Nat.lt_trichotomy (isq (code a b)) (a+b) with h|h|h
  · have:=Nat.mul_le_mul (show isq (code a b)+1≤a+b by omega) (show isq (code a b)+1≤a+b by omega)
    omega
  · exact h
  · have:=Nat.mul_le_mul (show a+b+1≤isq (code a b) by omega) (show a+b+1≤isq (code a b) by omega)
    omega
def aux (s:Nat) (i:Nat):Nat:=if i=1 then s - isq s * isq s else isq s - (s - isq s * isq s)
theorem zmf (a b:Nat):aux (code a b) 1=a:=by
  unfold aux
  rw [if_pos rfl,zl2]
  unfold code;omega
theorem zrQ (a b:Nat):aux (code a b) 2=b:=by
  unfold aux
  rw [if_neg (by decide),zl2]
  unfold code;omega
inductive Ob where
  | mem (ws:List UInt64) (bs:List UInt8)
  | port (m:Nat) (me:Int) (steps:Nat)
  | thr (self:Int) (quit:Nat) (closed busy:Bool) (cur:Option (Nat × Nat × Nat)) (pend:Option Nat)
  | wp (self:Int) (steps:Nat) (ask grant quit:Nat)
  | acc (c:Nat) (n:Int) (A B:UInt64)
  | box (c:Nat)
abbrev St:=List Ob
def hndV (k:Nat):Value:=.pointer (some ⟨VB+k,0,none⟩)
def prtV (k:Nat):Value:=.iface 42 (hndV k)
def BF (P:Program) (hm:P.follows .mixedOrders=true):Face P Unit where
  mix:=hm
  cnt:=fun _=>0
  rep:=fun _ _ _=>True
  fp:=fun _ _ _=>False
  prim:=fun _ _ _ _ _=>False
  rep_same:=fun _ _ _ _ _ _=>⟨trivial,fun _ h=>h⟩
  rep_kept:=fun _ _ _ _ _ _ _=>trivial
  fp_low:=fun _ _ _ _ _ h=>h.elim
  prim_hand:=fun _ _ _ _ _ h=>h.elim
  zeE:=fun _ _ _ _ _ _ _ h=>h.elim
def PureD (f:FuncId) (args:Array Value) (v:Value):Prop:=Does (BF Try.prog Try.mix) f args [] () v ()
def zm7 (f:FuncId) (args:Array Value) (v:Value):Prop:=∀ w,TCalls Try.prog f args w fun e w'=>e=.returned v∧Kept w (fun _=>False) w'
def wr (n:Nat):Int:=IntKind.i64.wrap (n:Int)
def accS (S:St) (p m:Nat) (me:Int) (steps:Nat) (ws:List UInt64) (bs:List UInt8):St:=(S.set p (.port m me steps)).set m (.mem ws bs)
inductive Prim:FuncId→Array Value→St→Value→St→Prop
  | pure {f args v S} (h:∀ w:World,zm7 f args v) (ha:args.all zac=true) (hv:zac v=true):Prim f args S v S
  | word {k:Nat} {ws:List UInt64} {bs:List UInt8} {S:St} (n:Int) (h:S[k]?=some (Ob.mem ws bs)):Prim 12 #[hndV k,.int .i64 n] S (.int .u64 ((wT 1 n 0 ws).toNat:Int)) S
  | do' {k:Nat} {ws:List UInt64} {bs:List UInt8} {S:St} (c:Nat) (n:Int) (A B:UInt64) (h:S[k]?=some (Ob.mem ws bs)) (h1:1≤c) (h4:c≤4) :
      Prim 27 #[hndV k,accV c n A B] S (.tuple #[.int .u64 ((wT c n A ws).toNat:Int),.bool (wAt ws n).isSome]) (S.set k (.mem (wS c n A B ws) bs))
  | load {p m:Nat} {me:Int} {steps:Nat} {ws:List UInt64} {bs:List UInt8} {S:St} (n:Int) (h:S[p]?=some (Ob.port m me steps)) (hm:S[m]?=some (Ob.mem ws bs)) (hs:steps≤1000000000000) :
      Prim 61 #[hndV p,.int .i64 n] S (.int .u64 ((wT 1 n 0 ws).toNat:Int)) (accS S p m me (steps+1) (wS 1 n 0 0 ws) bs)
  | cas {p m:Nat} {me:Int} {steps:Nat} {ws:List UInt64} {bs:List UInt8} {S:St} (n:Int) (A B:UInt64) (h:S[p]?=some (Ob.port m me steps)) (hm:S[m]?=some (Ob.mem ws bs)) (hs:steps≤1000000000000) :
      Prim 58 #[hndV p,.int .i64 n,.int .u64 (A.toNat:Int),.int .u64 (B.toNat:Int)] S (.bool (wT 3 n A ws==1)) (accS S p m me (steps+1) (wS 3 n A B ws) bs)
  | add {p m:Nat} {me:Int} {steps:Nat} {ws:List UInt64} {bs:List UInt8} {S:St} (n:Int) (A:UInt64) (h:S[p]?=some (Ob.port m me steps)) (hm:S[m]?=some (Ob.mem ws bs)) (hs:steps≤1000000000000) :
      Prim 57 #[hndV p,.int .i64 n,.int .u64 (A.toNat:Int)] S (.int .u64 ((wT 4 n A ws).toNat:Int)) (accS S p m me (steps+1) (wS 4 n A 0 ws) bs)
  | self {p m:Nat} {me:Int} {steps:Nat} {S:St} (h:S[p]?=some (Ob.port m me steps)):Prim 63 #[hndV p] S (.int .i64 me) S
  | dget {k:Nat} {ws:List UInt64} {bs:List UInt8} {S:St} (n:Int) (A B:UInt64) (h:S[k]?=some (Ob.mem ws bs)) :
      Prim 27 #[hndV k,accV 5 n A B] S (.tuple #[.int .u64 ((bT n bs).toNat:Int),.bool (bAt bs n).isSome]) S
  | dput {k:Nat} {ws:List UInt64} {bs:List UInt8} {S:St} (n:Int) (A B:UInt64) (h:S[k]?=some (Ob.mem ws bs)) :
      Prim 27 #[hndV k,accV 6 n A B] S (.tuple #[.int .u64 0,.bool (bAt bs n).isSome]) (S.set k (.mem ws (bS n A.toUInt8 bs)))
  | wself {k:Nat} {me:Int} {steps a b c:Nat} {S:St} (h:S[k]?=some (Ob.wp me steps a b c)):Prim 75 #[hndV k] S (.int .i64 me) S
  | pnew {m:Nat} {me:Int} {ws:List UInt64} {bs:List UInt8} {S:St} (h:S[m]?=some (Ob.mem ws bs)):Prim 14 #[hndV m,.int .i64 me] S (hndV S.length) (S++[.port m me 0])
  | mnew {S:St} (a b:Nat) (ha:a≤2097152) (hb:b≤1048576):Prim 18 #[.int .i64 a,.int .i64 b] S (.tuple #[hndV S.length,.int .i64 0]) (S++[.mem (List.replicate a 0) (List.replicate b 0)])
theorem zcG {args:Array Value} (F:Emb) (h:args.all zac=true):args.map (ren F)=args:=by
  apply Array.ext
  · simp
  · intro i h1 h2
    simp only [Array.getElem_map]
    exact zaG F ((Array.all_eq_true.1 h) i h2)
theorem Prim.len {f:FuncId} {args:Array Value} {S S':St} {v:Value} (h:Prim f args S v S'):S.length≤S'.length:=by
  cases h<;>simp [accS]
theorem ziS (c k:Nat) (h:k<c):Hand c (hndV k):=by
  intro F F' hs
  have:=hs (VB+k) ⟨by omega,by omega⟩
  simp [hndV,adr,this.1,this.2.1]
theorem Prim.hand {f:FuncId} {args:Array Value} {S S':St} {v:Value} (h:Prim f args S v S'):Hand S'.length v:=by
  cases h with
  | pure h ha hv=>exact Hand.plain hv
  | pnew h=>exact ziS _ _ (by simp)
  | mnew a b ha hb =>
    have h1:=ziS (S++[Ob.mem (List.replicate a 0) (List.replicate b 0)]).length S.length (by simp)
    intro F F' hs
    simp only [zcP,List.map_toArray,List.map_cons,List.map_nil,zbq]
    rw [h1 F F' hs]
  | _=>exact Hand.plain (by first|rfl|simp [zac])
theorem zlD {S:St} {p m:Nat} {me:Int} {steps:Nat} {ws:List UInt64} {bs:List UInt8} {ob ob2:Ob} (h:S[p]?=some ob) (hm:S[m]?=some ob2) (hne:p≠m):(accS S p m me steps ws bs)[p]?=some (Ob.port m me steps)∧(accS S p m me steps ws bs)[m]?=some (Ob.mem ws bs):=by
  have h1:=(List.getElem?_eq_some_iff.1 h).1
  have h2:=(List.getElem?_eq_some_iff.1 hm).1
  unfold accS
  constructor
  · rw [List.getElem?_set_ne (Ne.symm hne),List.getElem?_set_self h1]
  · rw [List.getElem?_set_self (by simpa using h2)]
section
variable {P:Program} {e:Operand→Value} {h:AHeap} {t:TypeId} {x y:Operand} {k:IntKind} {a b:Int}
theorem ztQ (l:List Value) (t:Nat):evA l (.tmp t)=l.getD t undef:=rfl
theorem zpX (l:List Value) (v:Value):evA l (.const v)=v:=rfl
theorem zrG (l:List Value) (f:FuncId):evA l (.func f)=.func (.func f) #[] #[]:=rfl
theorem zqr (d:Nat) (v:Value) (l:List Value):putL (some d) v l=l.set d v:=rfl
theorem zqG (v:Value) (l:List Value):putL none v l=l:=rfl
theorem zt2:valA P e h (.move x)=some (e x):=rfl
theorem zqW:valA P e h (.assign x)=some (e x):=rfl
theorem zuu {op:BinOp} {u:TypeId}:valA P e h (.binOp op t x y u)=zaT P op t y (e x) (e y):=rfl
theorem v_un {op:UnOp}:valA P e h (.unOp op t x)=unA op (e x):=rfl
theorem zpQ {u:TypeId}:valA P e h (.convert t u x)=zd1 P t u (e x):=rfl
theorem zsi {i:Nat}:valA P e h (.field t x i)=zg3 P t (e x) i:=rfl
theorem zr6:valA P e h (.index t x y)=zhg P t (e x) (e y):=rfl
theorem zm8 {fn:Fn} {xs ys:Array Operand}:valA P e h (.makeFunc fn xs ys)=some (.func fn (xs.map e) (ys.map e)):=rfl
theorem zmA:valA P e h (.nilCheck x)=zcq P (e x):=rfl
theorem zkU {i:Nat}:valA P e h (.fieldAddr t x i)=zcD P t (e x) i:=rfl
theorem zlb:valA P e h (.indexAddr t x y)=zcM P t (e x) (e y):=rfl
def zrw (P:Program) (h:AHeap) (t:TypeId):Value→Option Value
  | .pointer (some a)=>zgv P h t a
  | _=>none
theorem zs6:valA P e h (.load t x)=zrw P h t (e x):=by
  show (match e x with|.pointer (some a)=>zgv P h t a|_=>none)=_
  unfold zrw
  rfl
theorem zp5 {a:Addr}:zrw P h t (.pointer (some a))=zgv P h t a:=rfl
def zsR (c a b:Value):Option Value:=match c with
  | .bool t=>some (if t then a else b)
  | _=>none
theorem zty {z:Operand}:valA P e h (.pick x y z)=zsR (e x) (e y) (e z):=rfl
theorem zoZ {v u:Value}:zsR (.bool true) v u=some v:=rfl
theorem zm0 {v u:Value}:zsR (.bool false) v u=some u:=rfl
def zlB (v:Value) (i:Nat):Option Value:=match v with
  | .tuple vs=>vs[i]?
  | _=>none
theorem znU {i:Nat}:valA P e h (.extract x i)=zlB (e x) i:=rfl
theorem ziL {vs:Array Value} {i:Nat}:zlB (.tuple vs) i=vs[i]?:=rfl
theorem zu3:zaT P .add t y (.int k a) (.int k b)=some (.int k (k.wrap (a+b))):=by simp [zaT,binA,intA]
theorem zur:zaT P .sub t y (.int k a) (.int k b)=some (.int k (k.wrap (a - b))):=by simp [zaT,binA,intA]
theorem zuB:zaT P .mul t y (.int k a) (.int k b)=some (.int k (k.wrap (a * b))):=by simp [zaT,binA,intA]
theorem zuw (hb:b≠0):zaT P .rem t y (.int k a) (.int k b)=some (.int k (a.tmod b)):=by simp [zaT,binA,intA,hb]
theorem zuF:zaT P .eql t y (.int k a) (.int k b)=some (.bool (a==b)):=by simp [zaT,binA,intA]
theorem zuk:zaT P .neq t y (.int k a) (.int k b)=some (.bool (a != b)):=by simp [zaT,binA,intA]
theorem zum:zaT P .lss t y (.int k a) (.int k b)=some (.bool (decide (a<b))):=by simp [zaT,binA,intA]
theorem zuA:zaT P .gtr t y (.int k a) (.int k b)=some (.bool (decide (b<a))):=by simp [zaT,binA,intA]
theorem zug:zaT P .geq t y (.int k a) (.int k b)=some (.bool (decide (b≤a))):=by simp [zaT,binA,intA]
theorem zuS {c:Bool}:unA .not (.bool c)=some (.bool !c):=rfl
theorem zut:unA .neg (.int k a)=some (.int k (k.wrap (0 - a))):=rfl
theorem zus:((0:Nat):Int)=0:=rfl
theorem zuV:((1:Nat):Int)=1:=rfl
def zpm (b:Option Blk) (g:Option Bool) (s:Option Nat) (a:Addr):Option Value:=match b,g,s with
  | some b,some true,some s=>if a.spot=none∧a.off=0∧b.cells.length=s then some (.agg b.cells.toArray) else if a.spot=none∧a.off+s≤b.cells.length then some (.agg ((b.cells.drop a.off).take s).toArray) else none
  | some b,some false,some _=>if a.spot=none then b.cells[a.off]? else none
  | _,_,_=>none
theorem zqU {a:Addr}:zgv P h t a=zpm (h.get a.block) (zaV P t) (zaj P t) a:=rfl
theorem zm9 {b:Blk} {s n o:Nat}:zpm (some b) (some false) (some s) ⟨n,o,none⟩=b.cells[o]?:=by simp [zpm]
theorem zou {b:Blk} {s n:Nat} (hl:b.cells.length=s):zpm (some b) (some true) (some s) ⟨n,0,none⟩=some (.agg b.cells.toArray):=by simp [zpm,hl]
def zgb (P:Program) (t:TypeId):Bool:=match P.underlying t with|some (.pointer _)=>true|_=>false
def zsu (P:Program) (t:TypeId):Bool:=match P.underlying t with|some (.interface _)=>true|_=>false
def zp9 (P:Program) (t:TypeId):Bool:=match P.underlying t with|some (.slice _)=>true|_=>false
theorem ztI {a:Option Addr}:zaT P .eql t y (.pointer a) (.pointer none)=cond (zgb P t) (some (.bool a.isNone)) none:=by
  simp only [zaT,binA,zhz,ze2,zgb]
  cases P.underlying t with
  | none=>rfl
  | some u=>cases u<;>rfl
theorem zuR {a:Option Addr}:zaT P .neq t y (.pointer a) (.pointer none)=cond (zgb P t) (some (.bool !a.isNone)) none:=by
  simp only [zaT,binA,zhz,ze2,zgb]
  cases P.underlying t with
  | none=>rfl
  | some u=>cases u<;>rfl
theorem zub {k:Nat}:zaT P .eql t y (hndV k) (.pointer none)=cond (zgb P t) (some (.bool false)) none:=ztI
def tyMk (P:Program) (t:TypeId):Bool:=match P.underlying t with|some (.interface _)=>false|some _=>true|none=>false
theorem zrU:valA P e h (.makeInterface t x)=cond (tyMk P t) (some (.iface t (e x))) none:=by
  simp only [valA,tyMk]
  cases P.underlying t with
  | none=>rfl
  | some u=>cases u<;>rfl
theorem zoV {k:Nat}:Value.iface 42 (hndV k)=prtV k:=rfl
theorem zuI {ats:Array TypeId} {z:Operand}:valA P e h (.call { callee:=.builtin .len,args:=#[z],argTypes:=ats })=(match ats.toList with|[t]=>lenA P t (e z)|_=>none):=by
  show (match [z],ats.toList with|[x],[t]=>lenA P t (e x)|_,_=>none)=_
  cases ats.toList with
  | nil=>rfl
  | cons a l=>cases l<;>rfl
def min2:Value→Value→Option Value
  | .int k x,.int _ y=>some (.int k (if y<x then y else x))
  | _,_=>none
def max2:Value→Value→Option Value
  | .int k x,.int _ y=>some (.int k (if y > x then y else x))
  | _,_=>none
theorem zs1 {ps:Array (Nat × Operand)}:valA P e h (.build t ps)=zgM P t (ps.toList.map fun p=>(p.1,e p.2)):=rfl
theorem zsl {lo hi mx:Option Operand}:valA P e h (.slice t x lo hi mx)=zeX P h t (e x) (lo.map e) (hi.map e) (mx.map e):=rfl
def ziR (o:Option (Nat × Nat)) (v:Value) (cells:List Value) (K:List Value→Option (List Value)):Option (List Value):=match o with
  | none=>none
  | some (off,size)=>if v.cells.size≠size∨off+v.cells.size > cells.length then none else K (zaR cells off v.cells.toList)
theorem zpy {pl:Nat→Option (Nat × Nat)} {cells:List Value} {i:Nat} {v:Value} {l:List (Nat × Value)}:zfU pl cells ((i,v)::l)=ziR (pl i) v cells fun c=>zfU pl c l:=by
  rw [zfU]
  unfold ziR
  rfl
theorem zqF {pl:Nat→Option (Nat × Nat)} {cells:List Value}:zfU pl cells []=some cells:=rfl
theorem zeu {off:Nat} {v:Value} {cells:List Value} {K:List Value→Option (List Value)} (hv:v.cells=#[v]) (hl:off<cells.length):ziR (some (off,1)) v cells K=K (cells.set off v):=by
  have:¬ ((#[v]:Array Value).size≠1∨off+(#[v]:Array Value).size > cells.length):=by simp;omega
  unfold ziR
  simp only [hv]
  rw [if_neg this]
  congr 1
  unfold zaR
  rw [List.set_eq_take_append_cons_drop,if_pos hl]
  simp
theorem zpA {off:Nat} {n:Int} {cells:List Value} {K:List Value→Option (List Value)} (hl:off<cells.length):ziR (some (off,1)) (.int k n) cells K=K (cells.set off (.int k n)):=zeu rfl hl
theorem zpH {off:Nat} {c:Option Addr} {cells:List Value} {K:List Value→Option (List Value)} (hl:off<cells.length):ziR (some (off,1)) (.pointer c) cells K=K (cells.set off (.pointer c)):=zeu rfl hl
theorem zku {off n c:Nat} {d:Option Addr} {cells:List Value} {K:List Value→Option (List Value)} (hl:off<cells.length):ziR (some (off,1)) (.slice d n c) cells K=K (cells.set off (.slice d n c)):=zeu rfl hl
theorem zmr {off:Nat} {fn:Fn} {xs ys:Array Value} {cells:List Value} {K:List Value→Option (List Value)} (hl:off<cells.length):ziR (some (off,1)) (.func fn xs ys) cells K=K (cells.set off (.func fn xs ys)):=zeu rfl hl
theorem zpz {off m:Nat} {cells:List Value} {K:List Value→Option (List Value)} (hl:off<cells.length):ziR (some (off,1)) (hndV m) cells K=K (cells.set off (hndV m)):=zeu rfl hl
theorem zt7 {f:FuncId} {args:Array Operand} {ats:Array TypeId}:zaN P e (.call { callee:=.value (.func f),args:=args,argTypes:=ats })=(match e (.func f) with|.func (.func g) xs ys=>some (g,xs++args.map e++ys)|.func (.method name) xs _=>(match xs.toList with|[.iface t (.pointer p)]=>(match zbd P t name with|some g=>some (g,#[.pointer p]++args.map e)|none=>none)|_=>none)|_=>none):=rfl
def zrb (P:Program) (f:Value) (args:Array Value):Option (FuncId × Array Value):=match f with
  | .func (.func g) xs ys=>some (g,xs++args++ys)
  | .func (.method name) xs _=>(match xs.toList with
    | [.iface t (.pointer p)]=>(match zbd P t name with|some g=>some (g,#[.pointer p]++args)|none=>none)
    | _=>none)
  | _=>none
theorem zsF {f:Operand} {args:Array Operand} {ats:Array TypeId}:zaN P e (.call { callee:=.value f,args:=args,argTypes:=ats })=zrb P (e f) (args.map e):=by
  unfold zaN zrb
  rfl
theorem zoG {g:FuncId} {xs ys args:Array Value}:zrb P (.func (.func g) xs ys) args=some (g,xs++args++ys):=rfl
theorem zov {name:String} {k:Nat} {ys args:Array Value}:zrb P (.func (.method name) #[prtV k] ys) args=(match zbd P 42 name with|some f=>some (f,#[hndV k]++args)|none=>none):=rfl
def ziI (P:Program) (r:Value) (name:String) (args:Array Value):Option (FuncId × Array Value):=match r with
  | .iface t (.pointer p)=>(match zbd P t name with|some f=>some (f,#[.pointer p]++args)|none=>none)
  | _=>none
theorem zra {r:Operand} {name:String} {args:Array Operand} {ats:Array TypeId}:zaN P e (.call { callee:=.invoke r name,args:=args,argTypes:=ats })=ziI P (e r) name (args.map e):=by
  unfold zaN ziI
  rfl
theorem zuq {k:Nat} {name:String} {args:Array Value}:ziI P (prtV k) name args=(match zbd P 42 name with|some f=>some (f,#[hndV k]++args)|none=>none):=rfl
theorem zt9 {k:Nat} {name:String}:zcq P (.func (.method name) #[prtV k] #[])=(match zbd P 42 name with|some _=>some (.func (.method name) #[prtV k] #[])|none=>none):=rfl
theorem zuP {a:Addr}:zcq P (.pointer (some a))=some (.pointer (some a)):=rfl
theorem zr2 {n0 n:Nat} (hn:n<n0):(lowH n0 h).get n=h.get n:=by
  unfold lowH
  simp [hn]
theorem zav {n:Int} (h1:-9223372036854775808≤n) (h2:n≤9223372036854775807):IntKind.i64.wrap n=n:=IntWalk.i64_in n ⟨h1,h2⟩
end
def fnOK (P:Program) (f:FuncId):Bool:=match P.funcs[f]? with
  | some g=>goB g
  | none=>false
theorem zg2 {P:Program} {f:FuncId} (h:fnOK P f=true):∃ g,P.funcs[f]?=some g∧goB g=true:=by
  unfold fnOK at h
  split at h
  · rename_i g hg;exact⟨g,hg,h⟩
  · cases h
theorem zrX (n c k:Nat) (h:k<c):Clo (Kn n c) (prtV k):=by
  intro F F' hs
  have:=hs (VB+k) (.inr ⟨by omega,by omega⟩)
  simp [prtV,hndV,adr,this.1,this.2.1]
theorem zrH (n c k:Nat) (h:k<c):Clo (Kn n c) (hndV k):=by
  intro F F' hs
  have:=hs (VB+k) (.inr ⟨by omega,by omega⟩)
  simp [hndV,adr,this.1,this.2.1]
theorem clo0 {K:Nat→Prop}:∀ u∈(#[]:Array Value).toList,Clo K u:=fun u hu=>by cases hu
theorem clo1 {K:Nat→Prop} {a:Value} (ha:Clo K a):∀ u∈#[a].toList,Clo K u:=fun u hu=>by
  simp only [List.mem_cons,List.not_mem_nil,or_false] at hu;subst hu;exact ha
theorem clo2 {K:Nat→Prop} {a b:Value} (ha:Clo K a) (hb:Clo K b):∀ u∈#[a,b].toList,Clo K u:=fun u hu=>by
  simp only [List.mem_cons,List.not_mem_nil,or_false] at hu;rcases hu with rfl|rfl;exact ha;exact hb
theorem clo3 {K:Nat→Prop} {a b c:Value} (ha:Clo K a) (hb:Clo K b) (hc:Clo K c):∀ u∈#[a,b,c].toList,Clo K u:=fun u hu=>by
  simp only [List.mem_cons,List.not_mem_nil,or_false] at hu;rcases hu with rfl|rfl|rfl;exact ha;exact hb;exact hc
theorem zuU {c:Nat} {a b:Value} (ha:Hand c a) (hb:Hand c b):Hand c (.tuple #[a,b]):=fun F F' hs=>by
  simp only [zcP,List.map_toArray,List.map_cons,List.map_nil,ha F F' hs,hb F F' hs]
theorem zhQ {c k:Nat} (h:k<c):Hand c (hndV k):=ziS c k h
theorem zue {c N T:Nat}:Hand c (.agg (geoC N T)):=Hand.plain (by simp [zac,geoC])
theorem iclo {K:Nat→Prop} {k:IntKind} {n:Int}:Clo K (.int k n):=Clo.plain rfl
theorem gclo {K:Nat→Prop} {N T:Nat}:Clo K (.agg (geoC N T)):=Clo.plain (by simp [zac,geoC])
theorem zaf (N T:Nat):(geoC N T).toList.length=22:=by simp [geoC]
theorem zqw (N T:Nat):(geoC N T).size=22:=by simp [geoC]
theorem zrI (N T:Nat):(geoC N T).toList.all zdm=true:=by simp [geoC,zdm]
theorem zmS {l vs:List Value} (h:l.length=vs.length):zaR l 0 vs=vs:=by simp [zaR,h]
theorem znu {l:List Value} {N T:Nat} (h:l.length=22):zaR l 0 (geoC N T).toList=(geoC N T).toList:=zmS (by rw [h,zaf])
theorem zk9 {a v:Value} {l vs:List Value}:zaR (a::l) 0 (v::vs)=v::zaR l 0 vs:=by
  unfold zaR
  rw [show 0+(v::vs).length=(0+vs.length)+1 by simp]
  rfl
theorem zmR {l:List Value}:zaR l 0 []=l:=by simp [zaR]
theorem zoX (k:IntKind) (n:Int):zdm (.int k n)=true:=rfl
theorem znx (b:Bool):zdm (.bool b)=true:=rfl
theorem zpp (a:Option Addr):zdm (.pointer a)=true:=rfl
theorem zkF (a:Option Addr) (n c:Nat):zdm (.slice a n c)=true:=rfl
theorem zk1 (t:TypeId) (v:Value):zdm (.iface t v)=true:=rfl
theorem znn (fn:Fn) (xs ys:Array Value):zdm (.func fn xs ys)=true:=rfl
theorem znF (k:Nat):zdm (hndV k)=true:=rfl
theorem zn8 (k:Nat):zdm (prtV k)=true:=rfl
theorem zq8:zdm .nilIface=true:=rfl
theorem zqi:zdm .nilFunc=true:=rfl
theorem zpq (cs:Array Value):(Value.agg cs).cells=cs:=rfl
theorem zpF (k:IntKind) (n:Int):(Value.int k n).cells=#[.int k n]:=rfl
theorem zmo (b:Bool):(Value.bool b).cells=#[.bool b]:=rfl
theorem zoW (a:Option Addr):(Value.pointer a).cells=#[.pointer a]:=rfl
theorem zlg (a:Option Addr) (n c:Nat):(Value.slice a n c).cells=#[.slice a n c]:=rfl
theorem zkX (t:TypeId) (v:Value):(Value.iface t v).cells=#[.iface t v]:=rfl
theorem zmQ (fn:Fn) (xs ys:Array Value):(Value.func fn xs ys).cells=#[.func fn xs ys]:=rfl
theorem znL (k:Nat):(prtV k).cells=#[prtV k]:=rfl
theorem zoi (k:Nat):(hndV k).cells=#[hndV k]:=rfl
section
variable {P:Program} {σ:Type} {X:Face P σ} {fn:Func} {A:Conf σ→Prop} {ops:Array Oper} {k:List Item} {i:Nat} {tmps:List Value} {h:AHeap} {S:σ} {o:Oper} {n0:Nat} {W:List Nat} {hf:AHeap} {Kf:List Value→AHeap→σ→Prop} {born:List (Nat × Nat)}
def ctl2:List Item→Option (List Item)
  | .code .skip::k|.code (.label _)::k|.inBlock _::k=>some k
  | .code (.seq a b)::k=>some (.code a::.code b::k)
  | .code (.block id b)::k=>some (.code b::.inBlock id::k)
  | .code (.exit id)::k=>exitTo id k
  | .code (.goto l)::k=>gotoIn l k
  | .inRegion _ []::k=>some k
  | .code (.scope b)::k=>some (.code b::.inScope b::k)
  | .inScope _::k=>some k
  | _=>none
theorem zts {l l':List Item} (hc:ctl2 l=some l'):ctl tmps l=some l':=by
  unfold ctl2 at hc
  split at hc<;>first|(cases hc;rfl)|exact hc|cases hc
theorem Goes.ctl2 {todo todo':List Item} (hc:Go.Proofs.Ytjhmhoapgbfgpaa.ctl2 todo=some todo') (hk:Goes X fn A (.run todo' tmps h S)):Goes X fn A (.run todo tmps h S):=.ctl (zts hc) hk
theorem Goes.yes {c:Operand} {x y:Code} (hc:evA tmps c=.bool true) (hk:Goes X fn A (.run (.code x::k) tmps h S)):Goes X fn A (.run (.code (.cond c x y)::k) tmps h S) :=
  .cond hc (fun _=>hk) (fun h=>by cases h)
theorem Goes.no {c:Operand} {x y:Code} (hc:evA tmps c=.bool false) (hk:Goes X fn A (.run (.code y::k) tmps h S)):Goes X fn A (.run (.code (.cond c x y)::k) tmps h S) :=
  .cond hc (fun h=>by cases h) (fun _=>hk)
theorem Goes.loop {b:Code} (hk:Goes X fn A (.run (.code b::.inLoop b::k) tmps h S)):Goes X fn A (.run (.code (.loop b)::k) tmps h S):=.ctl rfl hk
theorem Goes.inLoop {b:Code} (hk:Goes X fn A (.run (.code b::.inLoop b::k) tmps h S)):Goes X fn A (.run (.inLoop b::k) tmps h S):=.ctl rfl hk
theorem At.prim2 (ho:ops.toList[i]?=some o) (hw:Region.wanted o (zai ops tmps)=true) (hb:opOK o.op=true)
    (hk:∀ K:List Value→σ→Prop,(∀ t S',At X fn A ops k (i+1) t h S'→K t S')→zdD (fun f args=>fnOK P f=true∧∃ v S',X.prim f args S v S'∧K (putL o.dst v tmps) S') (zaN P (evA tmps) o.op)):At X fn A ops k i tmps h S:=by
  have:=hk _ fun _ _ h=>h
  cases hv:zaN P (evA tmps) o.op with
  | none=>rw [hv] at this;exact this.elim
  | some x =>
    obtain⟨f,args⟩:=x
    rw [hv] at this
    obtain⟨hf,hr⟩:=this
    obtain⟨g,h1,h2⟩:=zg2 hf
    exact At.prim (g:=g) (za2 ho) hw (zaZ hb) (by rw [hv];exact⟨h1,h2,hr⟩)
theorem At.call2 (ho:ops.toList[i]?=some o) (hw:Region.wanted o (zai ops tmps)=true) (hb:opOK o.op=true)
    (hk:∀ K:List Value→σ→Prop,(∀ t S',At X fn A ops k (i+1) t h S'→K t S')→zdD (fun f args=>∃ v S',Does X f args [] S v S'∧K (putL o.dst v tmps) S') (zaN P (evA tmps) o.op)):At X fn A ops k i tmps h S :=
  At.call (za2 ho) hw (zaZ hb) (hk _ fun _ _ h=>h)
theorem RG.prim2 (hl:h.Low) (ho:ops.toList[i]?=some o) (hw:Region.wanted o (zai ops tmps)=true) (hb:opOK o.op=true) (hq:wrB W i o=false)
    (hk:∀ K:List Value→σ→Prop,(∀ t S',RGF X W ops n0 hf Kf (i+1) t h S' born→K t S')→zdD (fun f args=>fnOK P f=true∧∃ v S',X.prim f args S v S'∧K (putL o.dst v tmps) S') (zaN P (evA tmps) o.op)) (hnf:farB W i=false:=by rfl):RGF X W ops n0 hf Kf i tmps h S born:=by
  have:=hk _ fun _ _ h=>h
  cases hv:zaN P (evA tmps) o.op with
  | none=>rw [hv] at this;exact this.elim
  | some x =>
    obtain⟨f,args⟩:=x
    rw [hv] at this
    obtain⟨hf,hr⟩:=this
    obtain⟨g,h1,h2⟩:=zg2 hf
    exact RG.prim (g:=g) hl (za2 ho) hw (zaZ hb) hq (by rw [hv];exact⟨h1,h2,hr⟩) hnf
theorem RG.call2 (hl:h.Low) (ho:ops.toList[i]?=some o) (hw:Region.wanted o (zai ops tmps)=true) (hb:opOK o.op=true) (hq:wrB W i o=false)
    (hk:∀ K:List Value→σ→Prop,(∀ t S',RGF X W ops n0 hf Kf (i+1) t h S' born→K t S')→zdD (fun f args=>∃ v S',Does X f args [] S v S'∧K (putL o.dst v tmps) S') (zaN P (evA tmps) o.op)) (hnf:farB W i=false:=by rfl):RGF X W ops n0 hf Kf i tmps h S born :=
  RG.call hl (za2 ho) hw (zaZ hb) hq (hk _ fun _ _ h=>h) hnf
end
attribute [go_sem] OpK NewK zgq zdD ztQ zpX zrG zqr zqG zt2 zqW zuu v_un zpQ zsi zr6 zm8 zmA zkU zlb zs6 zp5 zty zoZ zm0 znU ziL zu3 zur zuB zuw zuF zuk zum zuA zug zuS zut zsF zoG zov zra zuq zt9 zuP zr2 zav zmB zii zoB Option.join_some zaM zaa zaf zqw zrI znu zpq zpF zmo zoW zlg zkX zmQ znL zoi List.getElem?_cons_zero List.getElem?_cons_succ Array.toArray_toList if_true if_false List.getElem?_toArray List.length_cons List.length_nil List.map_toArray List.map_cons List.map_nil List.append_toArray List.cons_append List.nil_append true_and List.getD_cons_zero List.getD_cons_succ List.set_cons_zero List.set_cons_succ newA zd1 zcD zcM zg3 zhg zkz lenA zcs zeF zqU zm9 Int.toNat_natCast
attribute [go_sem high] zou
attribute [go_sem] zrU zoV eq_self and_false false_and List.drop_succ_cons List.drop_zero List.take_succ_cons List.take_zero zk9 zmR zoX znx zpp zkF zk1 znn znF zn8 zq8 zqi List.size_toArray List.all_cons List.all_nil Bool.and_true zus zuV Int.cast_ofNat_Int decide_true decide_false ztI zuR zub cond_true cond_false Option.isNone_some Option.isNone_none Bool.not_true Bool.not_false zuI zs1 zsl zgM zpy zqF zpA zpH zku zmr zpz zbA Option.map_some
attribute [go_sem] and_true Nat.le_refl Nat.zero_add
attribute [go_sem_proc] Nat.reduceLT Nat.reduceGT Nat.reduceEqDiff Int.reduceNatCast Int.reduceEq Int.reduceNe Nat.reduceDiv Nat.reduceMod Int.reduceTDiv Int.reduceTMod Nat.reduceAdd Nat.reduceLeDiff Nat.reduceMul Nat.reduceSub Int.reduceLE Int.reduceLT Int.reduceToNat Int.reduceAdd Int.reduceSub Int.reduceMul Int.reduceBEq Int.reduceBNe Int.reduceNeg
end Go.Proofs.Ytjhmhoapgbfgpaa
