/-
  goes, from its select to its return.
  No condition: steps of the program.
-/
import Derived.Test.YtkjnamhgemidkaaUThr9
import Derived.Test.YtkjnamhgemidkaaUPm7
namespace Go.Proofs.Ytkjnamhgemidkaa
open Go Go.Conc
set_option linter.unusedSimpArgs false
set_option linter.unusedVariables false
open Go.ConcN (sumTo upd sumTo_upd upd_ne upd_same)
section
variable {OB WB:Nat→Prop} {Inb:Nat→Option Seat}
set_option maxRecDepth 100000 in
theorem goesOps_dst:(goesOps[0]?).bind (·.dst)=some 18:=by
  simp only [goesOps,goesC,cOps,cL,cR,Try.f72,Option.getD_some]
  rfl
abbrev goesT1 (tb wb dn ak:Nat) (z:Value):Array Value:=#[pt tb,undef,undef,undef,pt tb,pt tb,pt tb 3,pt tb,pt tb,pt tb 1,pt wb,pt wb,pt wb 3,.chan (some ak),pt tb,pt tb,pt tb 2,.chan (some dn),z,undef,undef,undef,undef,undef,undef,undef,undef,undef,undef,undef,undef,undef,undef]
noncomputable def goesG1 (tb wb dn ak:Nat) (z:Value) (cs:List Frame):Goroutine:=Go.Conc.G ((base 72).at ⟨goesT1 tb wb dn ak z,[]⟩ [.inRegion goesOps [1,2,3],.code goesRest]) cs
theorem goes_asked (tb wb dn ak:Nat) (v:Value) (cs:List Frame):(goesG tb wb dn ak cs).finishComm Try.prog (seatG tb wb dn ak cs).cases (seatG tb wb dn ak cs).shape ((0:Nat):Int) v true=goesG1 tb wb dn ak (.tuple #[.int .i64 0,.bool true,v,.nilIface]) cs:=by
  have h2:commResult (seatG tb wb dn ak cs).cases (seatG tb wb dn ak cs).shape ((0:Nat):Int) v true=.tuple #[.int .i64 0,.bool true,v,.nilIface]:=by
    simp [seatG,commResult,rcase,List.zipIdx_cons,goInt]
  simp only [Goroutine.finishComm]
  rw [h2]
  simp only [goesG,goesG1,Go.Conc.G,Frame.finish_at,goesOps_dst]
  rfl
theorem goes_done (tb wb dn ak:Nat) (v:Value) (cs:List Frame):(goesG tb wb dn ak cs).finishComm Try.prog (seatG tb wb dn ak cs).cases (seatG tb wb dn ak cs).shape ((1:Nat):Int) v true=goesG1 tb wb dn ak (.tuple #[.int .i64 1,.bool true,accZ,v]) cs:=by
  have h2:commResult (seatG tb wb dn ak cs).cases (seatG tb wb dn ak cs).shape ((1:Nat):Int) v true=.tuple #[.int .i64 1,.bool true,accZ,v]:=by
    simp [seatG,commResult,rcase,List.zipIdx_cons,goInt]
  simp only [Goroutine.finishComm]
  rw [h2]
  simp only [goesG,goesG1,Go.Conc.G,Frame.finish_at,goesOps_dst]
  rfl
structure KA (OB WB:Nat→Prop) (Inb:Nat→Option Seat) (n0:Nat) (w0 w:World):Prop where
  heap:w.heap=w0.heap
  low:∀ b,Leant OB WB Inb b→b<n0
  size:n0≤w0.heap.size
theorem KA.rely {n0:Nat} {w0 w w1:World} (K:KA OB WB Inb n0 w0 w) (r:Ro OB 0 w w1):KA OB WB Inb n0 w0 w1:=⟨by rw [r.heap0];exact K.heap,K.low,K.size⟩
theorem KA.cell {n0:Nat} {w0 w:World} (K:KA OB WB Inb n0 w0 w) {a:Addr} {v:Value} (h:w0.cell? a=some v):w.cell? a=some v:=(cell_at w0 w a (by rw [K.heap])).trans h
theorem KA.alloc {n0:Nat} {w0 w:World} (K:KA OB WB Inb n0 w0 w) {o:Obj}:KA OB WB Inb n0 (w0.alloc o) (w.alloc o):=⟨by rw [alloc_heap,alloc_heap,K.heap],K.low,by rw [alloc_size];have:=K.size;omega⟩
theorem setCell_size (w:World) (a:Addr) (v:Value):(w.setCell a v).heap.size=w.heap.size:=by simp [World.setCell]
theorem setCell_heap {w w0:World} (h:w.heap=w0.heap) (a:Addr) (v:Value):(w.setCell a v).heap=(w0.setCell a v).heap:=by
  refine Array.ext_getElem? fun b=>?_
  rw [heap_setCell,heap_setCell,h]
theorem KA.set {n0:Nat} {w0 w:World} (K:KA OB WB Inb n0 w0 w) {a:Addr} {v:Value}:KA OB WB Inb n0 (w0.setCell a v) (w.setCell a v):=⟨setCell_heap K.heap a v,K.low,by rw [setCell_size];exact K.size⟩
theorem KA.set_do {n0:Nat} {w0 w:World} (K:KA OB WB Inb n0 w0 w) {a:Addr} {v:Value} {es:Array Event} (ha:n0≤a.block∨((∀ i s,Inb i=some s→¬ s.has a.block)∧¬ WB a.block)) (hs:∀ e∈es,EvO OB WB 0 (w.setCell a v) e):DO OB WB Inb 0 w (w.setCell a v) es:=by
  refine⟨fun i s c hi hc=>?_,fun b hb h3=>?_,fun h=>absurd rfl h,by rw [setCell_size];exact Nat.le_refl _,rfl,hs⟩
  · rw [heap_setCell,if_neg]
    rintro rfl
    rcases ha with ha|ha
    · have:=K.low _ (.inr (.inr ⟨i,s,hi,hc⟩));omega
    · exact ha.1 i s hi hc
  · refine cell_at _ _ _ ?_
    rw [heap_setCell,if_neg]
    intro e
    rcases ha with ha|ha
    · have:=K.low _ (.inr (.inl hb));omega
    · exact ha.2 (e ▸ hb)
theorem evO_wr {w:World} {a:Addr} {v:Value} (hW:¬ WB a.block) (hb:a.block<w.heap.size):EvO OB WB 0 (w.setCell a v) ⟨.cell a,true,false⟩:=.inr ⟨rfl,a,rfl,by rw [setCell_size];exact hb,fun _ z=>hW z.1,fun _=>rfl⟩
theorem set_row {w:World} {nb o:Nat} {cur:Array Value} {el:TypeId} (h:w.heap[nb]?=some (.cells cur el (0,0))) (v:Value):(w.setCell ⟨nb,o,none⟩ v).heap[nb]?=some (.cells (cur.setIfInBounds o v) el (0,0)):=by
  rw [heap_setCell,if_pos rfl,h];rfl
theorem store_int {P:Program} {α:Type} {w:World} {nb o:Nat} {cur:Array Value} {el:TypeId} {es:Array Event} {k:IntKind} {n:Int} {f:Unit→Sem α} (h:w.heap[nb]?=some (.cells cur el (0,0))) (ho:o<cur.size):(Sem.bind (store ⟨nb,o,none⟩ (.int k n)) f).runT P w es=(f ()).runT P (w.setCell ⟨nb,o,none⟩ (.int k n)) (es.push ⟨.cell ⟨nb,o,none⟩,true,false⟩):=by
  have hc:w.cell? ⟨nb,o,none⟩=some (cur[o]'ho):=by simp [World.cell?,h,ho]
  have hf:w.frozen? ⟨nb,o,none⟩=false:=by simp [World.frozen?,h]
  show (Sem.store .plain ⟨nb,o,none⟩ (.int k n) (f ())).runT P w es=_
  simp only [Sem.runT,hc,hf]
  rfl
theorem store_acc {P:Program} {w:World} {nb:Nat} {x0 x1 x2 x3:Value} {el:TypeId} {es:Array Event} (h:w.heap[nb]?=some (.cells #[x0,x1,x2,x3] el (0,0))) (c n A B:Int) :
    (storeCells ⟨nb,0,none⟩ [.int .u8 c,.int .i64 n,.int .u64 A,.int .u64 B]).runT P w es=(.ok () ((((w.setCell ⟨nb,0,none⟩ (.int .u8 c)).setCell ⟨nb,1,none⟩ (.int .i64 n)).setCell ⟨nb,2,none⟩ (.int .u64 A)).setCell ⟨nb,3,none⟩ (.int .u64 B)),(((es.push ⟨.cell ⟨nb,0,none⟩,true,false⟩).push ⟨.cell ⟨nb,1,none⟩,true,false⟩).push ⟨.cell ⟨nb,2,none⟩,true,false⟩).push ⟨.cell ⟨nb,3,none⟩,true,false⟩):=by
  have h0:=h
  show (Sem.bind (store ⟨nb,0,none⟩ (.int .u8 c)) fun _=>Sem.bind (store ⟨nb,1,none⟩ (.int .i64 n)) fun _=>Sem.bind (store ⟨nb,2,none⟩ (.int .u64 A)) fun _=>Sem.bind (store ⟨nb,3,none⟩ (.int .u64 B)) fun _=>.pure ()).runT P w es=_
  have h1:=set_row (o:=0) h0 (.int .u8 c)
  have h2:=set_row (o:=1) h1 (.int .i64 n)
  have h3:=set_row (o:=2) h2 (.int .u64 A)
  rw [store_int h0 (by simp),store_int h1 (by simp),store_int h2 (by simp),store_int h3 (by simp)]
  rfl
set_option maxRecDepth 100000 in
theorem goes_ask {n0:Nat} {w0 w:World} {tb wb dn ak cc:Nat} {n:Int} {A B:UInt64} (hK:KA OB WB Inb n0 w0 w) (ht:(∀ i s,Inb i=some s→¬ s.has tb)∧¬ WB tb) {z3:Value} (h3:w0.cell? ⟨tb,3,none⟩=some z3) (hz:w0.frozen? ⟨tb,3,none⟩=false) (c0:Frame) (cs:List Frame) :
    Conc.Goes Try.prog true (Ro OB 0) (DO OB WB Inb 0) (fun g w'=>g=Go.Conc.G (c0.finish (.tuple #[])) cs∧KA OB WB Inb n0 ((w0.alloc (.cells (accRow cc n A B) 36)).setCell ⟨tb,3,none⟩ (.pointer (some ⟨w0.heap.size,0,none⟩))) w') 60 (goesG1 tb wb dn ak (.tuple #[.int .i64 0,.bool true,accV cc n A B,.nilIface]) (c0::cs)) w:=by
  simp only [goesG1,goesOps,goesRest,goesC,cOps,cL,cR,Try.f72,Option.getD_some]
  (refine Conc.Goes.step rfl (fun w₁ h₁=>?_);replace hK:=hK.rely h₁;clear h₁;refine goes_oper_k rfl rfl (by decide) (fun K hK'=>?_);go_simp;refine hK' _ _ ⟨DO.quiet (fun e he=>(by have hm:=mem_listed he;simp [go_sem,Instr.makeInterface,Instr.makeFunc] at hm)),?_⟩;clear hK' K)
  (refine Conc.Goes.step rfl (fun w₁ h₁=>?_);replace hK:=hK.rely h₁;clear h₁;refine goes_oper_k rfl rfl (by decide) (fun K hK'=>?_);go_simp;refine hK' _ _ ⟨DO.quiet (fun e he=>(by have hm:=mem_listed he;simp [go_sem,Instr.makeInterface,Instr.makeFunc] at hm)),?_⟩;clear hK' K)
  (refine Conc.Goes.step rfl (fun w₁ h₁=>?_);replace hK:=hK.rely h₁;clear h₁;refine goes_oper_k rfl rfl (by decide) (fun K hK'=>?_);go_simp;refine hK' _ _ ⟨DO.quiet (fun e he=>(by have hm:=mem_listed he;simp [go_sem,Instr.makeInterface,Instr.makeFunc] at hm)),?_⟩;clear hK' K)
  (refine Conc.Goes.step rfl (fun w₁ h₁=>?_);replace hK:=hK.rely h₁;clear h₁;rw [stepG_region_end];simp only [goes_go];refine⟨DO.none _,?_⟩)
  (refine Conc.Goes.step rfl (fun w₁ h₁=>?_);replace hK:=hK.rely h₁;clear h₁;rw [stepG_block];simp only [goes_go];refine⟨DO.none _,?_⟩)
  (refine Conc.Goes.step rfl (fun w₁ h₁=>?_);replace hK:=hK.rely h₁;clear h₁;rw [stepG_cond (t:=true) rfl];simp only [goes_go,if_true,if_false,Bool.false_eq_true,↓reduceIte];refine⟨DO.none _,?_⟩)
  (refine Conc.Goes.step rfl (fun w₁ h₁=>?_);replace hK:=hK.rely h₁;clear h₁;rw [stepG_seq];simp only [goes_go];refine⟨DO.none _,?_⟩)
  (refine Conc.Goes.step rfl (fun w₁ h₁=>?_);replace hK:=hK.rely h₁;clear h₁;rw [stepG_region];simp only [goes_go,List.size_toArray,List.length_cons,List.length_nil,Nat.reduceAdd,Nat.zero_add,List.range,List.range.loop];refine⟨DO.none _,?_⟩)
  (refine Conc.Goes.step rfl (fun w₁ h₁=>?_);replace hK:=hK.rely h₁;clear h₁;refine goes_oper_k rfl rfl (by decide) (fun K hK'=>?_);go_simp;refine hK' _ _ ⟨DO.quiet (fun e he=>(by have hm:=mem_listed he;simp [go_sem,Instr.makeInterface,Instr.makeFunc] at hm)),?_⟩;clear hK' K)
  refine Conc.Goes.step rfl (fun w₁ h₁=>?_)
  replace hK:=hK.rely h₁;clear h₁
  refine goes_oper_k rfl rfl (by decide) (fun K hK'=>?_)
  go_simp
  refine hK' _ _ ⟨DO.alloc (fun b hb=>by have:=hK.low b hb;have:=hK.size;rw [hK.heap];omega) (fun e he=>(by have hm:=mem_listed he;simp [go_sem] at hm)),?_⟩
  clear hK' K
  rw [show w₁.heap.size=w0.heap.size by rw [hK.heap]]
  have hn0:=hK.size
  replace hK:=hK.alloc (o:=.cells #[.int .u8 0,.int .i64 0,.int .u64 0,.int .u64 0] 36)
  refine Conc.Goes.step rfl (fun w₁ h₁=>?_)
  replace hK:=hK.rely h₁;clear h₁
  refine goes_oper_k rfl rfl (by decide) (fun K hK'=>?_)
  go_simp
  have hnew:w₁.heap[w0.heap.size]?=some (.cells #[.int .u8 0,.int .i64 0,.int .u64 0,.int .u64 0] 36 (0,0)):=by rw [hK.heap];exact alloc_new _ _
  have hst:=store_acc (P:=Try.prog) (es:=#[]) hnew (cc:Int) n (A.toNat:Int) (B.toNat:Int)
  simp only [accV,List.size_toArray,List.length_cons,List.length_nil,Nat.reduceAdd,if_true]
  have hrun:=congrArg Prod.fst hst
  rw [Sem.runT_eq] at hrun
  simp only at hrun
  rw [hrun]
  have hev:=congrArg Prod.snd hst
  have e1:=set_row (o:=0) hnew (.int .u8 (cc:Int))
  have e2:=set_row (o:=1) e1 (.int .i64 n)
  have e3:=set_row (o:=2) e2 (.int .u64 (A.toNat:Int))
  have e4:=set_row (o:=3) e3 (.int .u64 (B.toNat:Int))
  have hoth:∀ b,b≠w0.heap.size→((((w₁.setCell ⟨w0.heap.size,0,none⟩ (.int .u8 cc)).setCell ⟨w0.heap.size,1,none⟩ (.int .i64 n)).setCell ⟨w0.heap.size,2,none⟩ (.int .u64 A.toNat)).setCell ⟨w0.heap.size,3,none⟩ (.int .u64 B.toNat)).heap[b]?=w₁.heap[b]?:=fun b hb=>by
    rw [heap_setCell,if_neg (fun e=>hb e.symm),heap_setCell,if_neg (fun e=>hb e.symm),heap_setCell,if_neg (fun e=>hb e.symm),heap_setCell,if_neg (fun e=>hb e.symm)]
  have hsz:((((w₁.setCell ⟨w0.heap.size,0,none⟩ (.int .u8 cc)).setCell ⟨w0.heap.size,1,none⟩ (.int .i64 n)).setCell ⟨w0.heap.size,2,none⟩ (.int .u64 A.toNat)).setCell ⟨w0.heap.size,3,none⟩ (.int .u64 B.toNat)).heap.size=w₁.heap.size:=by simp only [setCell_size]
  have hrest:∃ H,((((w₁.setCell ⟨w0.heap.size,0,none⟩ (.int .u8 cc)).setCell ⟨w0.heap.size,1,none⟩ (.int .i64 n)).setCell ⟨w0.heap.size,2,none⟩ (.int .u64 A.toNat)).setCell ⟨w0.heap.size,3,none⟩ (.int .u64 B.toNat))={ w₁ with heap:=H }:=⟨_,rfl⟩
  generalize hW:((((w₁.setCell ⟨w0.heap.size,0,none⟩ (.int .u8 cc)).setCell ⟨w0.heap.size,1,none⟩ (.int .i64 n)).setCell ⟨w0.heap.size,2,none⟩ (.int .u64 A.toNat)).setCell ⟨w0.heap.size,3,none⟩ (.int .u64 B.toNat))=W at *
  have hKW:KA OB WB Inb n0 (w0.alloc (.cells (accRow cc n A B) 36)) W:=by
    refine⟨Array.ext_getElem? fun b=>?_,hK.low,by rw [alloc_size];omega⟩
    by_cases hb:b=w0.heap.size
    · rw [hb,e4,alloc_new];rfl
    · rw [hoth b hb,hK.heap,alloc_heap,alloc_heap,Array.getElem?_push,Array.getElem?_push,if_neg hb,if_neg hb]
  go_simp
  refine hK' _ _ ⟨⟨fun i s c hi hc=>hoth c fun e=>?_,fun a ha _=>cell_at _ _ _ (hoth _ fun e=>?_),fun h=>absurd rfl h,Nat.le_of_eq hsz.symm,?_,fun e he=>?_⟩,?_⟩
  · have:=hK.low _ (.inr (.inr ⟨i,s,hi,hc⟩));omega
  · have:=hK.low _ (.inr (.inl ha));omega
  · obtain⟨H,rfl⟩:=hrest;rfl
  · have hm:=mem_listed he
    simp [go_sem] at hm
    have hm2:e∈((storeCells ⟨w0.heap.size,0,none⟩ [.int .u8 (cc:Int),.int .i64 n,.int .u64 (A.toNat:Int),.int .u64 (B.toNat:Int)]).runT Try.prog w₁ #[]).2:=hm.2
    rw [hev] at hm2
    have hb:w0.heap.size<W.heap.size:=by rw [hsz,hK.heap,alloc_size];omega
    have hw:¬ WB w0.heap.size:=fun z=>by have:=hK.low _ (.inr (.inl z));omega
    simp at hm2
    rcases hm2 with rfl|rfl|rfl|rfl
    · exact .inr ⟨rfl,_,rfl,hb,fun _ z=>hw z.1,fun _=>rfl⟩
    · exact .inr ⟨rfl,_,rfl,hb,fun _ z=>hw z.1,fun _=>rfl⟩
    · exact .inr ⟨rfl,_,rfl,hb,fun _ z=>hw z.1,fun _=>rfl⟩
    · exact .inr ⟨rfl,_,rfl,hb,fun _ z=>hw z.1,fun _=>rfl⟩
  clear hK' K hev e1 e2 e3 e4 hst hrun hnew hoth hsz hrest hW
  replace hK:=hKW
  clear hKW
  have htl:tb<w0.heap.size:=by obtain⟨_,_,_,hb,_⟩:=cell_block h3;exact block_low hb
  have h3':(w0.alloc (.cells (accRow cc n A B) 36)).cell? ⟨tb,3,none⟩=some z3:=(cell_at _ _ _ (alloc_at _ _ _ htl)).trans h3
  have hz':(w0.alloc (.cells (accRow cc n A B) 36)).frozen? ⟨tb,3,none⟩=false:=(frozen_at _ _ _ (alloc_at _ _ _ htl)).trans hz
  (refine Conc.Goes.step rfl (fun w₁ h₁=>?_);replace hK:=hK.rely h₁;clear h₁;rw [stepG_region_end];simp only [goes_go];refine⟨DO.none _,?_⟩)
  (refine Conc.Goes.step rfl (fun w₁ h₁=>?_);replace hK:=hK.rely h₁;clear h₁;rw [stepG_region];simp only [goes_go,List.size_toArray,List.length_cons,List.length_nil,Nat.reduceAdd,Nat.zero_add,List.range,List.range.loop];refine⟨DO.none _,?_⟩)
  (refine Conc.Goes.step rfl (fun w₁ h₁=>?_);replace hK:=hK.rely h₁;clear h₁;refine goes_oper_k rfl rfl (by decide) (fun K hK'=>?_);go_simp;refine hK' _ _ ⟨DO.quiet (fun e he=>(by have hm:=mem_listed he;simp [go_sem,Instr.makeInterface,Instr.makeFunc] at hm)),?_⟩;clear hK' K)
  (refine Conc.Goes.step rfl (fun w₁ h₁=>?_);replace hK:=hK.rely h₁;clear h₁;refine goes_oper_k rfl rfl (by decide) (fun K hK'=>?_);go_simp;refine hK' _ _ ⟨DO.quiet (fun e he=>(by have hm:=mem_listed he;simp [go_sem,Instr.makeInterface,Instr.makeFunc] at hm)),?_⟩;clear hK' K)
  (refine Conc.Goes.step rfl (fun w₁ h₁=>?_);replace hK:=hK.rely h₁;clear h₁;refine goes_oper_k rfl rfl (by decide) (fun K hK'=>?_);go_simp;refine hK' _ _ ⟨DO.quiet (fun e he=>(by have hm:=mem_listed he;simp [go_sem,Instr.makeInterface,Instr.makeFunc] at hm)),?_⟩;clear hK' K)
  refine Conc.Goes.step rfl (fun w₁ h₁=>?_)
  replace hK:=hK.rely h₁;clear h₁
  have hc3:=hK.cell h3'
  have hz3:w₁.frozen? ⟨tb,3,none⟩=false:=(frozen_at _ _ _ (by rw [hK.heap])).trans hz'
  refine goes_oper_k rfl rfl (by decide) (fun K hK'=>?_)
  go_simp
  refine hK' _ _ ⟨hK.set_do (.inr ht) (fun e he=>(by have hm:=mem_listed he;simp [go_sem,events_store_ptr,storedEv,hc3,hz3] at hm;subst hm;exact evO_wr ht.2 (by obtain⟨_,_,_,hb,_⟩:=cell_block hc3;exact block_low hb))),?_⟩
  clear hK' K hc3 hz3
  replace hK:=hK.set (a:=⟨tb,3,none⟩) (v:=.pointer (some ⟨w0.heap.size,0,none⟩))
  (refine Conc.Goes.step rfl (fun w₁ h₁=>?_);replace hK:=hK.rely h₁;clear h₁;rw [stepG_region_end];simp only [goes_go];refine⟨DO.none _,?_⟩)
  (refine Conc.Goes.step rfl (fun w₁ h₁=>?_);replace hK:=hK.rely h₁;clear h₁;rw [stepG_inBlock];simp only [goes_go];refine⟨DO.none _,?_⟩)
  (refine Conc.Goes.step rfl (fun w₁ h₁=>?_);replace hK:=hK.rely h₁;clear h₁;rw [stepG_end];simp only [goes_go];refine⟨DO.none _,?_⟩)
  refine Conc.Goes.step rfl (fun w₁ h₁=>?_)
  replace hK:=hK.rely h₁;clear h₁
  rw [stepG_leave rfl rfl Try.func72 (results_none Try.results72 _ _ _) (events_results_none Try.results72 _ _)]
  simp only [goes_go]
  refine⟨DO.none _,?_⟩
  exact Conc.Goes.stop (fun w₁ h₁=>⟨rfl,hK.rely h₁⟩)
end
theorem events_store_bool (P:Program) (w:World) (es:Array Event) (a:Addr) (m:Mode) (x:Bool):(store a (.bool x) m).events P w es=storedEv P w es a (.bool x) m:=events_store P w es a _ m rfl
section
variable {OB WB:Nat→Prop} {Inb:Nat→Option Seat}
set_option maxRecDepth 100000 in
theorem goes_fin {n0:Nat} {w0 w:World} {tb wb dn ak:Nat} (hK:KA OB WB Inb n0 w0 w) (ht:(∀ i s,Inb i=some s→¬ s.has tb)∧¬ WB tb) {z4:Value} (h4:w0.cell? ⟨tb,4,none⟩=some z4) (hz:w0.frozen? ⟨tb,4,none⟩=false) (c0:Frame) (cs:List Frame) :
    Conc.Goes Try.prog true (Ro OB 0) (DO OB WB Inb 0) (fun g w'=>g=Go.Conc.G (c0.finish (.tuple #[])) cs∧KA OB WB Inb n0 (w0.setCell ⟨tb,4,none⟩ (.bool false)) w') 60 (goesG1 tb wb dn ak (.tuple #[.int .i64 1,.bool true,accZ,.nilIface]) (c0::cs)) w:=by
  simp only [goesG1,goesOps,goesRest,goesC,cOps,cL,cR,Try.f72,Option.getD_some]
  (refine Conc.Goes.step rfl (fun w₁ h₁=>?_);replace hK:=hK.rely h₁;clear h₁;refine goes_oper_k rfl rfl (by decide) (fun K hK'=>?_);go_simp;refine hK' _ _ ⟨DO.quiet (fun e he=>(by have hm:=mem_listed he;simp [go_sem,Instr.makeInterface,Instr.makeFunc] at hm)),?_⟩;clear hK' K)
  (refine Conc.Goes.step rfl (fun w₁ h₁=>?_);replace hK:=hK.rely h₁;clear h₁;refine goes_oper_k rfl rfl (by decide) (fun K hK'=>?_);go_simp;refine hK' _ _ ⟨DO.quiet (fun e he=>(by have hm:=mem_listed he;simp [go_sem,Instr.makeInterface,Instr.makeFunc] at hm)),?_⟩;clear hK' K)
  (refine Conc.Goes.step rfl (fun w₁ h₁=>?_);replace hK:=hK.rely h₁;clear h₁;refine goes_oper_k rfl rfl (by decide) (fun K hK'=>?_);go_simp;refine hK' _ _ ⟨DO.quiet (fun e he=>(by have hm:=mem_listed he;simp [go_sem,Instr.makeInterface,Instr.makeFunc] at hm)),?_⟩;clear hK' K)
  (refine Conc.Goes.step rfl (fun w₁ h₁=>?_);replace hK:=hK.rely h₁;clear h₁;rw [stepG_region_end];simp only [goes_go];refine⟨DO.none _,?_⟩)
  (refine Conc.Goes.step rfl (fun w₁ h₁=>?_);replace hK:=hK.rely h₁;clear h₁;rw [stepG_block];simp only [goes_go];refine⟨DO.none _,?_⟩)
  (refine Conc.Goes.step rfl (fun w₁ h₁=>?_);replace hK:=hK.rely h₁;clear h₁;rw [stepG_cond (t:=false) rfl];simp only [goes_go,if_true,if_false,Bool.false_eq_true,↓reduceIte];refine⟨DO.none _,?_⟩)
  (refine Conc.Goes.step rfl (fun w₁ h₁=>?_);replace hK:=hK.rely h₁;clear h₁;rw [stepG_cond (t:=true) rfl];simp only [goes_go,if_true,if_false,Bool.false_eq_true,↓reduceIte];refine⟨DO.none _,?_⟩)
  (refine Conc.Goes.step rfl (fun w₁ h₁=>?_);replace hK:=hK.rely h₁;clear h₁;rw [stepG_seq];simp only [goes_go];refine⟨DO.none _,?_⟩)
  (refine Conc.Goes.step rfl (fun w₁ h₁=>?_);replace hK:=hK.rely h₁;clear h₁;rw [stepG_region];simp only [goes_go,List.size_toArray,List.length_cons,List.length_nil,Nat.reduceAdd,Nat.zero_add,List.range,List.range.loop];refine⟨DO.none _,?_⟩)
  (refine Conc.Goes.step rfl (fun w₁ h₁=>?_);replace hK:=hK.rely h₁;clear h₁;refine goes_oper_k rfl rfl (by decide) (fun K hK'=>?_);go_simp;refine hK' _ _ ⟨DO.quiet (fun e he=>(by have hm:=mem_listed he;simp [go_sem,Instr.makeInterface,Instr.makeFunc] at hm)),?_⟩;clear hK' K)
  (refine Conc.Goes.step rfl (fun w₁ h₁=>?_);replace hK:=hK.rely h₁;clear h₁;refine goes_oper_k rfl rfl (by decide) (fun K hK'=>?_);go_simp;refine hK' _ _ ⟨DO.quiet (fun e he=>(by have hm:=mem_listed he;simp [go_sem,Instr.makeInterface,Instr.makeFunc] at hm)),?_⟩;clear hK' K)
  (refine Conc.Goes.step rfl (fun w₁ h₁=>?_);replace hK:=hK.rely h₁;clear h₁;rw [stepG_region_end];simp only [goes_go];refine⟨DO.none _,?_⟩)
  (refine Conc.Goes.step rfl (fun w₁ h₁=>?_);replace hK:=hK.rely h₁;clear h₁;rw [stepG_seq];simp only [goes_go];refine⟨DO.none _,?_⟩)
  (refine Conc.Goes.step rfl (fun w₁ h₁=>?_);replace hK:=hK.rely h₁;clear h₁;rw [stepG_region];simp only [goes_go,List.size_toArray,List.length_cons,List.length_nil,Nat.reduceAdd,Nat.zero_add,List.range,List.range.loop];refine⟨DO.none _,?_⟩)
  (refine Conc.Goes.step rfl (fun w₁ h₁=>?_);replace hK:=hK.rely h₁;clear h₁;refine goes_oper_k rfl rfl (by decide) (fun K hK'=>?_);go_simp;refine hK' _ _ ⟨DO.quiet (fun e he=>(by have hm:=mem_listed he;simp [go_sem,Instr.makeInterface,Instr.makeFunc] at hm)),?_⟩;clear hK' K)
  (refine Conc.Goes.step rfl (fun w₁ h₁=>?_);replace hK:=hK.rely h₁;clear h₁;refine goes_oper_k rfl rfl (by decide) (fun K hK'=>?_);go_simp;refine hK' _ _ ⟨DO.quiet (fun e he=>(by have hm:=mem_listed he;simp [go_sem,Instr.makeInterface,Instr.makeFunc] at hm)),?_⟩;clear hK' K)
  (refine Conc.Goes.step rfl (fun w₁ h₁=>?_);replace hK:=hK.rely h₁;clear h₁;refine goes_oper_k rfl rfl (by decide) (fun K hK'=>?_);go_simp;refine hK' _ _ ⟨DO.quiet (fun e he=>(by have hm:=mem_listed he;simp [go_sem,Instr.makeInterface,Instr.makeFunc] at hm)),?_⟩;clear hK' K)
  refine Conc.Goes.step rfl (fun w₁ h₁=>?_)
  replace hK:=hK.rely h₁;clear h₁
  have hc3:=hK.cell h4
  have hz3:w₁.frozen? ⟨tb,4,none⟩=false:=(frozen_at _ _ _ (by rw [hK.heap])).trans hz
  refine goes_oper_k rfl rfl (by decide) (fun K hK'=>?_)
  go_simp
  refine hK' _ _ ⟨hK.set_do (.inr ht) (fun e he=>(by have hm:=mem_listed he;simp [go_sem,events_store_bool,storedEv,hc3,hz3] at hm;subst hm;exact evO_wr ht.2 (by obtain⟨_,_,_,hb,_⟩:=cell_block hc3;exact block_low hb))),?_⟩
  clear hK' K hc3 hz3
  replace hK:=hK.set (a:=⟨tb,4,none⟩) (v:=.bool false)
  (refine Conc.Goes.step rfl (fun w₁ h₁=>?_);replace hK:=hK.rely h₁;clear h₁;rw [stepG_region_end];simp only [goes_go];refine⟨DO.none _,?_⟩)
  (refine Conc.Goes.step rfl (fun w₁ h₁=>?_);replace hK:=hK.rely h₁;clear h₁;rw [stepG_seq];simp only [goes_go];refine⟨DO.none _,?_⟩)
  (refine Conc.Goes.step rfl (fun w₁ h₁=>?_);replace hK:=hK.rely h₁;clear h₁;rw [stepG_region];simp only [goes_go,List.size_toArray,List.length_cons,List.length_nil,Nat.reduceAdd,Nat.zero_add,List.range,List.range.loop];refine⟨DO.none _,?_⟩)
  (refine Conc.Goes.step rfl (fun w₁ h₁=>?_);replace hK:=hK.rely h₁;clear h₁;refine goes_oper_k rfl rfl (by decide) (fun K hK'=>?_);go_simp;refine hK' _ _ ⟨DO.quiet (fun e he=>(by have hm:=mem_listed he;simp [go_sem,Instr.makeInterface,Instr.makeFunc] at hm)),?_⟩;clear hK' K)
  refine Conc.Goes.step rfl (fun w₁ h₁=>?_)
  replace hK:=hK.rely h₁;clear h₁
  refine goes_oper_k rfl rfl (by decide) (fun K hK'=>?_)
  go_simp
  refine hK' _ _ ⟨DO.quiet (fun e he=>(by rw [listed_bin (u:=.nilIface) (v:=.nilIface) rfl rfl rfl (ren_nilIface _) (ren_nilIface _) rfl] at he;simp at he)),?_⟩
  clear hK' K
  (refine Conc.Goes.step rfl (fun w₁ h₁=>?_);replace hK:=hK.rely h₁;clear h₁;rw [stepG_region_end];simp only [goes_go];refine⟨DO.none _,?_⟩)
  (refine Conc.Goes.step rfl (fun w₁ h₁=>?_);replace hK:=hK.rely h₁;clear h₁;rw [stepG_cond (t:=false) rfl];simp only [goes_go,if_true,if_false,Bool.false_eq_true,↓reduceIte];refine⟨DO.none _,?_⟩)
  (refine Conc.Goes.step rfl (fun w₁ h₁=>?_);replace hK:=hK.rely h₁;clear h₁;rw [stepG_skip];simp only [goes_go];refine⟨DO.none _,?_⟩)
  (refine Conc.Goes.step rfl (fun w₁ h₁=>?_);replace hK:=hK.rely h₁;clear h₁;rw [stepG_inBlock];simp only [goes_go];refine⟨DO.none _,?_⟩)
  (refine Conc.Goes.step rfl (fun w₁ h₁=>?_);replace hK:=hK.rely h₁;clear h₁;rw [stepG_end];simp only [goes_go];refine⟨DO.none _,?_⟩)
  refine Conc.Goes.step rfl (fun w₁ h₁=>?_)
  replace hK:=hK.rely h₁;clear h₁
  rw [stepG_leave rfl rfl Try.func72 (results_none Try.results72 _ _ _) (events_results_none Try.results72 _ _)]
  simp only [goes_go]
  refine⟨DO.none _,?_⟩
  exact Conc.Goes.stop (fun w₁ h₁=>⟨rfl,hK.rely h₁⟩)
theorem grant_back (tb wb gr:Nat) (pb:Addr) (v:Value):(grantFr4 tb wb gr pb v [1]).finish (.tuple #[])=(base 18).at ⟨(grantT tb wb gr pb v (pt tb)).set 23 (.tuple #[]),[]⟩ [.inRegion grantOps4 [],.code grantR5]:=by
  simp only [grantFr4,Frame.finish_at,grantOps4,grantR5,grantR,grantC,cOps,cL,cR,Try.f18,Option.getD_some]
  rfl
set_option maxRecDepth 100000 in
theorem grant_ret {n0:Nat} {w0 w:World} {tb wb gr:Nat} {pb:Addr} {v:Value} (hK:KA OB WB Inb n0 w0 w) (c0:Frame) (cs:List Frame) :
    Conc.Goes Try.prog true (Ro OB 0) (DO OB WB Inb 0) (fun g w'=>g=Go.Conc.G (c0.finish (.bool true)) cs∧KA OB WB Inb n0 w0 w') 20 (Go.Conc.G ((grantFr4 tb wb gr pb v [1]).finish (.tuple #[])) (c0::cs)) w:=by
  rw [grant_back]
  simp only [grantOps4,grantR5,grantR,grantC,cOps,cL,cR,Try.f18,Option.getD_some]
  (refine Conc.Goes.step rfl (fun w₁ h₁=>?_);replace hK:=hK.rely h₁;clear h₁;rw [stepG_region_end];simp only [goes_go];refine⟨DO.none _,?_⟩)
  (refine Conc.Goes.step rfl (fun w₁ h₁=>?_);replace hK:=hK.rely h₁;clear h₁;rw [stepG_seq];simp only [goes_go];refine⟨DO.none _,?_⟩)
  (refine Conc.Goes.step rfl (fun w₁ h₁=>?_);replace hK:=hK.rely h₁;clear h₁;rw [stepG_region];simp only [goes_go,List.size_toArray,List.length_cons,List.length_nil,Nat.reduceAdd,Nat.zero_add,List.range,List.range.loop];refine⟨DO.none _,?_⟩)
  (refine Conc.Goes.step rfl (fun w₁ h₁=>?_);replace hK:=hK.rely h₁;clear h₁;refine goes_oper_k rfl rfl (by decide) (fun K hK'=>?_);go_simp;refine hK' _ _ ⟨DO.quiet (fun e he=>(by have hm:=mem_listed he;simp [go_sem,Instr.makeInterface,Instr.makeFunc] at hm)),?_⟩;clear hK' K)
  (refine Conc.Goes.step rfl (fun w₁ h₁=>?_);replace hK:=hK.rely h₁;clear h₁;rw [stepG_region_end];simp only [goes_go];refine⟨DO.none _,?_⟩)
  (refine Conc.Goes.step rfl (fun w₁ h₁=>?_);replace hK:=hK.rely h₁;clear h₁;rw [stepG_ret'];simp only [goes_go];refine⟨DO.none _,?_⟩)
  refine Conc.Goes.step rfl (fun w₁ h₁=>?_)
  replace hK:=hK.rely h₁;clear h₁
  rw [stepG_leave rfl rfl Try.func18 (results_tmp Try.results18 _ _ _) (events_results_tmp Try.results18 _ _)]
  simp only [goes_go]
  refine⟨DO.none _,?_⟩
  exact Conc.Goes.stop (fun w₁ h₁=>⟨rfl,hK.rely h₁⟩)
end
structure KeepC (S S':St):Prop where
  thr:∀ (k:Nat) a b c d e f,S'[k]?=some (Ob.thr a b c d e f)→∃ f',S[k]?=some (Ob.thr a b c d e f')
  thr':∀ (k:Nat) a b c d e f,S[k]?=some (Ob.thr a b c d e f)→∃ f',S'[k]?=some (Ob.thr a b c d e f')
  wp:∀ (k:Nat) a b c d e,S'[k]?=some (Ob.wp a b c d e)↔S[k]?=some (Ob.wp a b c d e)
  box:∀ (k:Nat) c,S[k]?=some (Ob.box c)→S'[k]?=some (Ob.box c)
theorem KeepC.refl (S:St):KeepC S S:=⟨fun _ _ _ _ _ _ f h=>⟨f,h⟩,fun _ _ _ _ _ _ f h=>⟨f,h⟩,fun _ _ _ _ _ _=>Iff.rfl,fun _ _ h=>h⟩
theorem KeepC.trans {A B C:St} (h:KeepC A B) (h':KeepC B C):KeepC A C :=
  ⟨fun k a b c d e f x=>by obtain⟨f',y⟩:=h'.thr _ _ _ _ _ _ _ x;exact h.thr _ _ _ _ _ _ _ y,fun k a b c d e f x=>by obtain⟨f',y⟩:=h.thr' _ _ _ _ _ _ _ x;exact h'.thr' _ _ _ _ _ _ _ y,fun k a b c d e=>(h'.wp k a b c d e).trans (h.wp k a b c d e),fun k c x=>h'.box k c (h.box k c x)⟩
def looseB:Ob→Bool
  | .mem _ _|.port _ _ _|.acc _ _ _ _=>true
  | _=>false
theorem KeepC.set {S:St} {k:Nat} {o o':Ob} (h:S[k]?=some o) (ho:looseB o=true) (ho':looseB o'=true):KeepC S (S.set k o'):=by
  have hk:=ob_lt h
  have e:∀ i,(S.set k o')[i]?=if k=i then some o' else S[i]?:=fun i=>by
    rw [List.getElem?_set];split
    · rename_i e;subst e;simp [hk]
    · rfl
  refine⟨fun i a b c d x f z=>?_,fun i a b c d x f z=>?_,fun i a b c d x=>?_,fun i c z=>?_⟩
  · rw [e] at z;split at z
    · cases z;cases ho'
    · exact⟨f,z⟩
  · rw [e];split
    · rename_i w;subst w;rw [h] at z;cases z;cases ho
    · exact⟨f,z⟩
  · rw [e];split
    · rename_i w;subst w;rw [h];constructor<;>intro z<;>cases z
      · cases ho'
      · cases ho
    · exact Iff.rfl
  · rw [e];split
    · rename_i w;subst w;rw [h] at z;cases z;cases ho
    · exact z
theorem KeepC.push {S:St} {o:Ob} (ho:looseB o=true):KeepC S (S++[o]):=by
  have e:∀ i,(S++[o])[i]?=if i<S.length then S[i]? else if i=S.length then some o else none:=fun i=>by
    rw [List.getElem?_append];split
    · rfl
    · split
      · rename_i e;subst e;simp
      · rw [List.getElem?_eq_none];simp;omega
  refine⟨fun i a b c d x f z=>?_,fun i a b c d x f z=>?_,fun i a b c d x=>?_,fun i c z=>?_⟩
  · rw [e] at z;split at z
    · exact⟨f,z⟩
    · split at z
      · cases z;cases ho
      · cases z
  · rw [e,if_pos (ob_lt z)];exact⟨f,z⟩
  · rw [e];split
    · exact Iff.rfl
    · rename_i hn
      split
      · rw [List.getElem?_eq_none (by omega)];constructor<;>intro z<;>cases z
        cases ho
      · rw [List.getElem?_eq_none (by omega)]
  · rw [e,if_pos (ob_lt z)];exact z
theorem KeepC.pend {S:St} {k:Nat} {a b c d e f} (h:S[k]?=some (Ob.thr a b c d e f)) (f':Option Nat):KeepC S (S.set k (.thr a b c d e f')):=by
  have hk:=ob_lt h
  have e:∀ i,(S.set k (.thr a b c d e f'))[i]?=if k=i then some (.thr a b c d e f') else S[i]?:=fun i=>by
    rw [List.getElem?_set];split
    · rename_i e;subst e;simp [hk]
    · rfl
  refine⟨fun i a b c d x f z=>?_,fun i a b c d x f z=>?_,fun i a b c d x=>?_,fun i c z=>?_⟩
  · rw [e] at z;split at z
    · rename_i w;subst w;cases z;exact⟨_,h⟩
    · exact⟨f,z⟩
  · rw [e];split
    · rename_i w;subst w;rw [h] at z;cases z;exact⟨_,rfl⟩
    · exact⟨f,z⟩
  · rw [e];split
    · rename_i w;subst w;rw [h];constructor<;>intro z<;>cases z
    · exact Iff.rfl
  · rw [e];split
    · rename_i w;subst w;rw [h] at z;cases z
    · exact z
section
variable {p:Par} {Su:SuT} {S S':St} {F:Emb} {N C:Nat} {Inb:Nat→Option Seat} {gs:Array Goroutine} {w:World} {T:Trace}
theorem KeepC.ch (h:KeepC S S') {k s c:Nat} (z:ChS S' k s c):ChS S k s c:=by
  cases z with
  | quit z=>obtain⟨_,z⟩:=h.thr _ _ _ _ _ _ _ z;exact .quit z
  | done z=>obtain⟨_,z⟩:=h.thr _ _ _ _ _ _ _ z;exact .done z
  | ask z=>exact .ask ((h.wp _ _ _ _ _ _).1 z)
  | grant z=>exact .grant ((h.wp _ _ _ _ _ _).1 z)
theorem Com.keep (k:KeepC S S') (hC:S'.length≤C) (H:Com p Su S F N C Inb gs w T):Com p Su S' F N C Inb gs w T:=by
  have t:=H.tab
  refine⟨H.ring,⟨fun b=>?_,fun b=>?_,fun a s c a' s' h1 h2=>t.dist _ _ _ _ _ (k.ch h1) (k.ch h2),fun a s c h=>t.far _ _ _ (k.ch h),t.olow,fun i a b c d e h=>?_,fun i a b c d e h=>?_⟩,H.main,fun i se hi=>?_,fun i a b c d e f g h=>?_,H.n0,hC⟩
  · rw [t.obs b]
    constructor
    · rintro ⟨i,a1,a2,a3,a4,a5,a6,a7,a8⟩;obtain⟨f,z⟩:=k.thr' _ _ _ _ _ _ _ a7;exact⟨i,a1,a2,a3,a4,a5,f,z,a8⟩
    · rintro ⟨i,a1,a2,a3,a4,a5,a6,a7,a8⟩;obtain⟨f,z⟩:=k.thr _ _ _ _ _ _ _ a7;exact⟨i,a1,a2,a3,a4,a5,f,z,a8⟩
  · rw [t.wbs b]
    constructor
    · rintro ⟨i,a1,a2,a3,a4,a5,a7,a8⟩;exact⟨i,a1,a2,a3,a4,a5,(k.wp _ _ _ _ _ _).2 a7,a8⟩
    · rintro ⟨i,a1,a2,a3,a4,a5,a7,a8⟩;exact⟨i,a1,a2,a3,a4,a5,(k.wp _ _ _ _ _ _).1 a7,a8⟩
  · obtain⟨_,z⟩:=k.thr _ _ _ _ _ _ _ h
    exact t.quit _ _ _ _ _ _ z
  · obtain⟨_,z⟩:=k.thr _ _ _ _ _ _ _ h
    obtain⟨h1,hp,gid,dn,ws,st,ak,gr,h2,h3,h4,h5,h6,h7,h8,h9⟩:=t.busy _ _ _ _ _ _ z
    exact⟨h1,hp,gid,dn,ws,st,ak,gr,h2,(k.wp _ _ _ _ _ _).2 h3,h4,h5,h6,h7,h8,k.box _ _ h9⟩
  · obtain⟨h1,h2,h3⟩:=H.seats i se hi
    refine⟨h1,h2,fun h0=>?_⟩
    obtain⟨j,a1,a2,a3,a4,a5,a6,a7,a8⟩:=h3 h0
    obtain⟨f,z⟩:=k.thr' _ _ _ _ _ _ _ a8
    exact⟨j,a1,a2,a3,a4,a5,f,a7,z⟩
  · obtain⟨_,z⟩:=k.thr _ _ _ _ _ _ _ h
    obtain⟨h1,h2⟩:=H.waits _ _ _ _ _ _ _ _ z
    refine⟨h1,fun hne=>?_⟩
    obtain⟨ws,st,ak,gr,ab,x,y,cs,h3,h4,h5⟩:=h2 hne
    exact⟨ws,st,ak,gr,ab,x,y,cs,(k.wp _ _ _ _ _ _).2 h3,h4,h5⟩
theorem Com.su {Su':SuT} (H:Com p Su S F N C Inb gs w T) (h:∀ (k:Nat) self quit closed hp gid dn pend ob g,S[k]?=some (Ob.thr self quit closed true (some (hp,gid,dn)) pend)→p.run≠some k→Su F N C k hp ob g→Su' F N C k hp ob g):Com p Su' S F N C Inb gs w T:=by
  refine⟨H.ring,H.tab,H.main,H.seats,fun i a b c d e f g z=>?_,H.n0,H.c0⟩
  obtain⟨h1,h2⟩:=H.waits i a b c d e f g z
  refine⟨h1,fun hne=>?_⟩
  obtain⟨ws,st,ak,gr,ab,x,y,cs,h3,h4,h5⟩:=h2 hne
  exact⟨ws,st,ak,gr,ab,x,y,cs,h3,h4,h _ _ _ _ _ _ _ _ _ _ z hne h5⟩
end
section
variable (hok:∀ mn OB WB,PrimOK mn OB WB)
variable {Γ:Type} (Pr:Proto Γ)
def ClM (n00:Nat) (w00:World) (_:Unit) (_:Γ × St) (p:Par):Prop:=p.h=0∧p.run=none∧p.seat0=none∧(∀ x,¬ p.PX x)∧p.n0=n00∧p.w0=w00
def SuM (_:Unit) (γ:Γ):SuT:=fun F1 N1 C1 i hp ob g=>∃ (q:Pr.Ph) (F0:Emb) (n0 c0 n:Nat),Pr.ph γ i=some q∧Same (Kn n0 c0) F0 F1∧n0≤N1∧c0≤C1∧Pr.fuel γ≤n∧BSusp hok Pr F0 n0 c0 n i hp ob q g
theorem SuM.mono (u:Unit) (γ:Γ):SuMono (SuM hok Pr u γ):=by
  rintro F N C F' N' C' k hp ob g ⟨q,F0,n0,c0,n,h1,h2,h3,h4,h5,h6⟩ hF hN hC
  exact⟨q,F0,n0,c0,n,h1,h2.trans (hF.mono fun x hx=>hx.mono h3 h4),by omega,by omega,h5,h6⟩
variable {Pr}
theorem SuM.step {u:Unit} {γ γ':Γ} {k:Nat} (hph:∀ i,i≠k→Pr.ph γ' i=Pr.ph γ i) (hf:Pr.fuel γ'≤Pr.fuel γ) {F:Emb} {N C i hp:Nat} {ob:Ob} {g:Goroutine} (hi:i≠k) (h:SuM hok Pr u γ F N C i hp ob g):SuM hok Pr u γ' F N C i hp ob g:=by
  obtain⟨q,F0,n0,c0,n,h1,h2,h3,h4,h5,h6⟩:=h
  exact⟨q,F0,n0,c0,n,by rw [hph i hi];exact h1,h2,h3,h4,by omega,h6⟩
end
section
variable (hok:∀ mn OB WB,PrimOK mn OB WB)
def XM (hok:∀ mn OB WB,PrimOK mn OB WB) (OB WB:Nat→Prop):Face Try.prog St:=XF true OB WB (hok _ _ _)
theorem X_main {p:Par} (h0:p.h=0):p.X hok=XM hok p.OB p.WB:=by
  have e:p.mn=true:=by simp [Par.mn,h0]
  have h:∀ (m:Bool) (hm:PrimOK m p.OB p.WB),m=true→XF m p.OB p.WB hm=XM hok p.OB p.WB:=by
    rintro _ _ rfl;rfl
  exact h _ _ e
variable {OB WB:Nat→Prop} {F:Emb} {hs hs' hs2:AHeap} {S:St} {w w':World}
theorem obBlk_false {k:Nat} {ob:Ob} {b:Nat} (h:b∈obBlk false F k ob):b∈obBlk true F k ob:=by
  cases ob<;>first|exact h|simp [obBlk] at h
theorem obBlk_true {k:Nat} {ob:Ob} {b:Nat} (hn:∀ a b c d e f,ob≠.thr a b c d e f) (h:b∈obBlk true F k ob):b∈obBlk false F k ob:=by
  cases ob<;>first|exact h|exact absurd rfl (hn _ _ _ _ _ _)
theorem obAt_false {k:Nat} {ob:Ob} (h:obAt true OB WB F S w k ob):obAt false OB WB F S w k ob:=by
  cases ob with
  | thr=>intro z;cases z
  | _=>exact h
theorem obAt_true {k:Nat} {ob:Ob} (hn:∀ a b c d e f,ob≠.thr a b c d e f) (h:obAt false OB WB F S w k ob):obAt true OB WB F S w k ob:=by
  cases ob with
  | thr=>exact absurd rfl (hn _ _ _ _ _ _)
  | _=>exact h
structure LendH (hs hs':AHeap):Prop where
  sub:∀ n b,hs'.get n=some b→hs.get n=some b
  next:hs'.next=hs.next
  mix:∀ n b m c,hs'.get n=some b→hs.get m=some c→hs'.get m=none→b.ro=false∨c.ro=false
def Kept0 (F:Emb) (hs hs':AHeap) (x:Nat):Prop:=∃ n c,hs.get n=some c∧hs'.get n=none∧x=F.blk n
theorem rep_lend (R:Rep true OB WB F S w):Rep false OB WB F S w :=
  ⟨R.base,fun k ob hk=>obAt_false (R.at' k ob hk),fun k k' ob ob' hne hk hk' b hb hb'=>R.apart k k' ob ob' hne hk hk' b (obBlk_false hb) (obBlk_false hb'),fun k ob hk b hb=>R.waits k ob hk b (obBlk_false hb),R.wlow⟩
theorem rinv_lend (H:RInv (XM hok OB WB) F (.run [] [] hs S) w) (hl:LendH hs hs'):RInv (XB hok OB WB) F (.run [] [] hs' S) w:=by
  obtain⟨I,hV⟩:=H
  have I:AInv (XM hok OB WB) F w (fun _=>True) (Kn hs.next S.length) (fun v=>v∈([]:List Value)) hs S w:=I
  have R:Rep true OB WB F S w:=I.rep
  have hV:hs.next≤VB:=hV
  refine⟨?_,by show hs'.next≤VB;rw [hl.next];exact hV⟩
  show AInv (XB hok OB WB) F w (fun _=>True) (Kn hs'.next S.length) (fun v=>v∈([]:List Value)) hs' S w
  rw [hl.next]
  exact⟨I.holds.sub hl.sub,rep_lend R,fun v hv=>(by cases hv),fun n b hb=>I.hst n b (hl.sub n b hb),fun n b hb=>I.hk n b (hl.sub n b hb),I.hand,I.klim,Kept.refl _ _,fun _ _ _ _ _=>trivial,fun _ _ _=>trivial,fun n b hb hf=>I.sep n b (hl.sub n b hb) (by
    obtain⟨k,ob,hk,hx⟩:=hf
    exact⟨k,ob,hk,obBlk_false hx⟩)⟩
theorem lend_ov (H:RInv (XM hok OB WB) F (.run [] [] hs S) w) (hl:LendH hs hs') {n:Nat} (t:Tab OB WB S F n w) {x:Nat} (hx:OB x):¬ Vis (XB hok OB WB) F (.run [] [] hs' S) x:=by
  obtain⟨I,_⟩:=H
  have R:Rep true OB WB F S w:=I.rep
  obtain⟨k,a1,a2,a3,a4,a5,a6,a7,rfl⟩:=(t.obs x).1 hx
  rintro (⟨m,r,h1,h2⟩|⟨k',ob,h1,h2⟩)
  · refine I.sep m r (hl.sub m r h1) ?_
    rw [h2]
    exact⟨k,_,a7,by simp [obBlk]⟩
  · by_cases e:k'=k
    · subst e
      have h1:S[k']?=some ob:=h1
      rw [a7] at h1
      cases h1
      simp [obBlk] at h2
    · exact R.apart k' k _ _ e h1 a7 _ (obBlk_false h2) (by simp [obBlk])
theorem lend_prot (H:RInv (XM hok OB WB) F (.run [] [] hs S) w) (hl:LendH hs hs') {n:Nat} (t:Tab OB WB S F n w) {x:Nat} (hx:Kept0 F hs hs' x):x<w.heap.size∧¬ Vis (XB hok OB WB) F (.run [] [] hs' S) x∧¬ OB x∧∃ cc el fr,w.heap[x]?=some (.cells cc el fr):=by
  obtain⟨I,_⟩:=H
  obtain⟨m,c,h1,h2,rfl⟩:=hx
  obtain⟨pre,post,fr,h3,_⟩:=I.holds.row m c h1
  refine⟨block_low h3,?_,fun hO=>?_,_,_,_,h3⟩
  · rintro (⟨m',r,h4,h5⟩|⟨k',ob,h4,h5⟩)
    · have hne:m'≠m:=fun e=>by
        have h4:hs'.get m'=some r:=h4
        rw [e,h2] at h4;cases h4
      rcases hl.mix m' r m c h4 h1 h2 with z|z
      · exact I.holds.apart m' m r c (hl.sub m' r h4) h1 hne z h5
      · exact I.holds.apart m m' c r h1 (hl.sub m' r h4) (Ne.symm hne) z h5.symm
    · exact I.sep m c h1 ⟨k',ob,h4,obBlk_false h5⟩
  · obtain⟨k,a1,a2,a3,a4,a5,a6,a7,h6⟩:=(t.obs _).1 hO
    exact I.sep m c h1 ⟨k,_,a7,by rw [h6];simp [obBlk]⟩
def uniH (hs hs' hs2:AHeap):AHeap:=⟨fun n=>match hs2.get n with|some b=>some b|none=>if (hs'.get n).isSome then none else hs.get n,hs2.next⟩
theorem uni_get {n:Nat} {b:Blk} (h:(uniH hs hs' hs2).get n=some b):hs2.get n=some b∨(hs2.get n=none∧hs'.get n=none∧hs.get n=some b):=by
  simp only [uniH] at h
  cases h2:hs2.get n with
  | some c=>rw [h2] at h;exact .inl h
  | none =>
    rw [h2] at h
    simp only at h
    split at h
    · cases h
    · rename_i h3
      exact .inr ⟨rfl,by simpa using h3,h⟩
theorem rinv_back {F0:Emb} {w0:World} {S0:St} (H0:RInv (XM hok OB WB) F0 (.run [] [] hs S0) w0) (hlen:S0.length=S.length) (hF:Same (Kn hs.next S0.length) F0 F) (hn:hs.next≤hs2.next)
    (hR:Rep true OB WB F S w) (H:RInv (XB hok OB WB) F (.run [] [] hs2 S) w) (ho:∀ x,OB x→¬ Vis (XB hok OB WB) F (.run [] [] hs2 S) x)
    (hp:∀ x,Kept0 F0 hs hs' x→x<w.heap.size∧¬ Vis (XB hok OB WB) F (.run [] [] hs2 S) x∧¬ OB x∧w.heap[x]?=w0.heap[x]?) (hob:∀ k a b c d e f,S[k]?=some (Ob.thr a b c d e f)→OB (F.blk (VB+k))):RInv (XM hok OB WB) F (.run [] [] (uniH hs hs' hs2) S) w:=by
  obtain⟨I0,_⟩:=H0
  obtain⟨I,hV⟩:=H
  have I0:AInv (XM hok OB WB) F0 w0 (fun _=>True) (Kn hs.next S0.length) (fun v=>v∈([]:List Value)) hs S0 w0:=I0
  have I:AInv (XB hok OB WB) F w (fun _=>True) (Kn hs2.next S.length) (fun v=>v∈([]:List Value)) hs2 S w:=I
  have hb:∀ n c,hs.get n=some c→F.blk n=F0.blk n:=fun n c hc=>((hF n (I0.hk n c hc).1).1).symm
  have hpv:∀ n c,hs.get n=some c→hs'.get n=none→F.blk n<w.heap.size∧¬ Vis (XB hok OB WB) F (.run [] [] hs2 S) (F.blk n)∧¬ OB (F.blk n)∧w.heap[F.blk n]?=w0.heap[F.blk n]?:=fun n c h1 h2=>by
    rw [hb n c h1];exact hp _ ⟨n,c,h1,h2,rfl⟩
  have hKK:∀ n,Kn hs.next S0.length n→Kn hs2.next S.length n:=fun n h=>h.mono hn (by omega)
  have hH0:Holds F hs w0:=I0.holds.same (fun n c hc=>(I0.hk n c hc).1) I0.hst hF
  refine⟨?_,hV⟩
  show AInv (XM hok OB WB) F w (fun _=>True) (Kn hs2.next S.length) (fun v=>v∈([]:List Value)) (uniH hs hs' hs2) S w
  refine⟨⟨fun n b h=>?_,fun n m b c h1 h2 hne hro e=>?_⟩,hR,fun v hv=>(by cases hv),fun n b h=>?_,fun n b h=>?_,I.hand,I.klim,Kept.refl _ _,fun _ _ _ _ _=>trivial,fun _ _ _=>trivial,fun n b h hf=>?_⟩
  · rcases uni_get h with h|⟨_,h2,h⟩
    · exact I.holds.row n b h
    · obtain⟨pre,post,fr,h3,h4⟩:=hH0.row n b h
      exact⟨pre,post,fr,(hpv n b h h2).2.2.2.trans h3,h4⟩
  · rcases uni_get h1 with h1|⟨_,h3,h1⟩<;>rcases uni_get h2 with h2|⟨_,h4,h2⟩
    · exact I.holds.apart n m b c h1 h2 hne hro e
    · exact (hpv m c h2 h4).2.1 (.inl ⟨n,b,h1,e⟩)
    · exact (hpv n b h1 h3).2.1 (.inl ⟨m,c,h2,e.symm⟩)
    · exact hH0.apart n m b c h1 h2 hne hro e
  · rcases uni_get h with h|⟨_,_,h⟩
    · exact I.hst n b h
    · exact fun v hv=>(I0.hst n b h v hv).move hF hKK
  · rcases uni_get h with h|⟨_,_,h⟩
    · exact I.hk n b h
    · exact⟨hKK n (I0.hk n b h).1,(I0.hk n b h).2⟩
  · obtain⟨k,ob,hk,hx⟩:=hf
    by_cases ht:∃ a b c d e f,ob=.thr a b c d e f
    · obtain⟨a,b',c,d,e,f,rfl⟩:=ht
      have hO:=hob _ _ _ _ _ _ _ hk
      simp only [obBlk,if_true,List.mem_cons,List.not_mem_nil,or_false] at hx
      rcases uni_get h with h|⟨_,h2,h⟩
      · exact ho _ hO (.inl ⟨n,b,h,hx⟩)
      · exact (hpv n b h h2).2.2.1 (hx ▸ hO)
    · have hx':=obBlk_true (fun a b c d e f z=>ht ⟨a,b,c,d,e,f,z⟩) hx
      rcases uni_get h with h|⟨_,h2,h⟩
      · exact I.sep n b h ⟨k,ob,hk,hx'⟩
      · exact (hpv n b h h2).2.1 (.inr ⟨k,ob,hk,hx'⟩)
end
section
variable (hok:∀ mn OB WB,PrimOK mn OB WB)
variable {OB WB OB' WB':Nat→Prop} {F F':Emb} {hs:AHeap} {S:St} {w w':World}
theorem rep_thr {k:Nat} {a b c d e f a' b' c' d' e' f'} (hk:S[k]?=some (Ob.thr a b c d e f)) (he:∀ c,e'=some c→c.1<S.length) (hf:∀ p,f'=some p→p<S.length) (R:Rep true OB WB F S w)
    (hw:∀ x,fpS true F S x→x≠F.blk (VB+k)→w'.heap[x]?=w.heap[x]?) (hr:w'.heap[F.blk (VB+k)]?=some (.cells (thrRow F a' b' c' d' e' f') 103 (0,0))) (hsz:w.heap.size≤w'.heap.size):Rep true OB WB F (S.set k (.thr a' b' c' d' e' f')) w'∧∀ x,fpS true F (S.set k (.thr a' b' c' d' e' f')) x→fpS true F S x:=by
  have hlen:(S.set k (Ob.thr a' b' c' d' e' f')).length=S.length:=by simp
  have hself:(S.set k (Ob.thr a' b' c' d' e' f'))[k]?=some (.thr a' b' c' d' e' f'):=List.getElem?_set_self (ob_lt hk)
  have hne:∀ i,i≠k→(S.set k (Ob.thr a' b' c' d' e' f'))[i]?=S[i]?:=fun i hi=>List.getElem?_set_ne (Ne.symm hi)
  have hblk:∀ (i:Nat) ob2,(S.set k (Ob.thr a' b' c' d' e' f'))[i]?=some ob2→∃ ob,S[i]?=some ob∧obBlk true F i ob2=obBlk true F i ob:=fun i ob2 hi=>by
    by_cases z:i=k
    · subst z;rw [hself] at hi;cases hi;exact⟨_,hk,rfl⟩
    · rw [hne i z] at hi;exact⟨_,hi,rfl⟩
  have hk0:=R.at' _ _ hk rfl
  refine⟨⟨fun i ob2 hi hr=>?_,fun i ob2 hi=>?_,fun i i' ob ob' hne' hi hi' x hx hx'=>?_,fun i ob2 hi x hx hW=>?_,fun b hb=>Nat.lt_of_lt_of_le (R.wlow b hb) hsz⟩,fun x ⟨i,ob2,hi,hx⟩=>?_⟩
  · by_cases z:i=k
    · subst z;exact R.base i _ hk rfl
    · rw [hne i z] at hi;exact R.base i _ hi hr
  · by_cases z:i=k
    · subst z;rw [hself] at hi;cases hi
      intro _
      exact⟨hk0.1,fun c hc=>by rw [hlen];exact he c hc,fun p hp=>by rw [hlen];exact hf p hp,hr⟩
    · rw [hne i z] at hi
      refine obAt_S (S:=S) (fun m ws bs hm=>?_) hlen (obAt_kept (R.at' i _ hi) fun x hx=>hw x ⟨i,_,hi,hx⟩ fun e=>R.apart i k _ _ z hi hk x hx (by rw [e];simp [obBlk]))
      rw [hne]
      · exact hm
      rintro rfl
      rw [hk] at hm;cases hm
  · obtain⟨o1,g1,g2⟩:=hblk i ob hi
    obtain⟨o2,g3,g4⟩:=hblk i' ob' hi'
    exact R.apart i i' o1 o2 hne' g1 g3 x (g2 ▸ hx) (g4 ▸ hx')
  · by_cases z:i=k
    · subst z;rw [hself] at hi;cases hi
      have:=R.waits i _ hk x hx hW
      obtain⟨_,_,_,_,_,h⟩:=this
      cases h
    · rw [hne i z] at hi;exact R.waits i _ hi x hx hW
  · obtain⟨ob,h1,h2⟩:=hblk i ob2 hi
    exact⟨i,ob,h1,h2 ▸ hx⟩
theorem rinv_thr {k:Nat} {a b c d e f a' b' c' d' e' f'} (hk:S[k]?=some (Ob.thr a b c d e f)) (he:∀ c,e'=some c→c.1<S.length) (hf:∀ p,f'=some p→p<S.length) (H:RInv (XM hok OB WB) F (.run [] [] hs S) w)
    (hw:∀ x,Vis (XM hok OB WB) F (.run [] [] hs S) x→x≠F.blk (VB+k)→w'.heap[x]?=w.heap[x]?) (hr:w'.heap[F.blk (VB+k)]?=some (.cells (thrRow F a' b' c' d' e' f') 103 (0,0))) (hsz:w.heap.size≤w'.heap.size):RInv (XM hok OB WB) F (.run [] [] hs (S.set k (.thr a' b' c' d' e' f'))) w':=by
  obtain⟨I,hV⟩:=H
  have I:AInv (XM hok OB WB) F w (fun _=>True) (Kn hs.next S.length) (fun v=>v∈([]:List Value)) hs S w:=I
  obtain⟨h1,h2⟩:=rep_thr (w':=w') hk he hf I.rep (fun x hx hne=>hw x (.inr hx) hne) hr hsz
  refine⟨?_,hV⟩
  show AInv (XM hok OB WB) F w' (fun _=>True) (Kn hs.next (S.set k (Ob.thr a' b' c' d' e' f')).length) (fun v=>v∈([]:List Value)) hs (S.set k (.thr a' b' c' d' e' f')) w'
  rw [show (S.set k (Ob.thr a' b' c' d' e' f')).length=S.length by simp]
  refine⟨I.holds.kept fun n r hr=>hw _ (.inl ⟨n,r,hr,rfl⟩) fun z=>I.sep n r hr (by rw [z];exact⟨k,_,hk,by simp [obBlk]⟩),h1,fun v hv=>(by cases hv),I.hst,I.hk,?_,?_,Kept.refl _ _,fun _ _ _ _ _=>trivial,fun _ _ _=>trivial,fun n r hr hf=>I.sep n r hr (h2 _ hf)⟩
  · intro n hn1 hn2
    refine I.hand n hn1 ?_
    have hn2:n<VB+(S.set k (Ob.thr a' b' c' d' e' f')).length:=hn2
    show n<VB+S.length
    simpa using hn2
  · intro n hn
    have:n<VB+S.length:=I.klim n hn
    show n<VB+(S.set k (Ob.thr a' b' c' d' e' f')).length
    simpa using this
def soloB:Ob→Bool
  | .thr _ _ _ _ _ _|.wp _ _ _ _ _|.acc _ _ _ _|.box _=>true
  | _=>false
theorem solo_blk {o:Ob} (h:soloB o=true) (k:Nat):obBlk true F k o=[F.blk (VB+k)]:=by
  cases o with
  | mem=>cases h
  | port=>cases h
  | thr=>simp [obBlk]
  | wp=>rfl
  | acc=>rfl
  | box=>rfl
theorem rinv_add {o:Ob} (ho:soloB o=true) (hO:∀ b,OB b→OB' b) (hW:∀ b,WB b→WB' b) (hF:Same (Kn hs.next S.length) F F') (hb:F'.base (VB+S.length)=0) (H:RInv (XM hok OB WB) F (.run [] [] hs S) w)
    (hnv:¬ Vis (XM hok OB WB) F (.run [] [] hs S) (F'.blk (VB+S.length))) (hWn:∀ b,WB' b→WB b∨(b=F'.blk (VB+S.length)∧∃ a s x y z,o=Ob.wp a s x y z)) (hw:∀ x,Vis (XM hok OB WB) F (.run [] [] hs S) x→w'.heap[x]?=w.heap[x]?)
    (hat:obAt true OB' WB' F' (S++[o]) w' S.length o) (hWnew:WB (F'.blk (VB+S.length))→∃ a s x y z,o=Ob.wp a s x y z) (hsz:w.heap.size≤w'.heap.size):RInv (XM hok OB' WB') F' (.run [] [] hs (S++[o])) w':=by
  obtain⟨I,hV⟩:=H
  have I:AInv (XM hok OB WB) F w (fun _=>True) (Kn hs.next S.length) (fun v=>v∈([]:List Value)) hs S w:=I
  have hF':Same (fun n=>VB≤n∧n<VB+S.length) F F':=hF.mono fun n hn=>.inr hn
  obtain⟨R,hfp⟩:Rep true OB WB F' S w∧∀ b,fpS true F' S b→fpS true F S b:=Rep.same hF' I.rep
  have hlen:(S++[o]).length=S.length+1:=by simp
  have hnew:(S++[o])[S.length]?=some o:=by simp
  have hold:∀ i,i<S.length→(S++[o])[i]?=S[i]?:=fun i hi=>List.getElem?_append_left hi
  have hcase:∀ (i:Nat) ob,(S++[o])[i]?=some ob→S[i]?=some ob∨(i=S.length∧ob=o):=fun i ob hi=>by
    have:=ob_lt hi
    rw [hlen] at this
    by_cases z:i<S.length
    · rw [hold i z] at hi;exact .inl hi
    · have z:i=S.length:=by omega
      subst z;rw [hnew] at hi;exact .inr ⟨rfl,(Option.some.inj hi).symm⟩
  have hnf:¬ fpS true F' S (F'.blk (VB+S.length)):=fun z=>hnv (.inr (hfp _ z))
  have hw':∀ x,fpS true F' S x→w'.heap[x]?=w.heap[x]?:=fun x hx=>hw x (.inr (hfp x hx))
  have hbl:=solo_blk (F:=F') ho S.length
  have hfp2:∀ x,fpS true F' (S++[o]) x→fpS true F S x∨x=F'.blk (VB+S.length):=fun x ⟨i,ob,hi,hx⟩=>by
    rcases hcase i ob hi with h|⟨rfl,rfl⟩
    · exact .inl (hfp x ⟨i,ob,h,hx⟩)
    · rw [hbl] at hx;exact .inr (by simpa using hx)
  have hH:Holds F' hs w':=(I.holds.same (fun n c hc=>(I.hk n c hc).1) I.hst hF).kept fun n r hr=>by
    rw [←(hF n (I.hk n r hr).1).1]
    exact hw _ (.inl ⟨n,r,hr,rfl⟩)
  refine⟨?_,hV⟩
  show AInv (XM hok OB' WB') F' w' (fun _=>True) (Kn hs.next (S++[o]).length) (fun v=>v∈([]:List Value)) hs (S++[o]) w'
  have hKK:∀ n,Kn hs.next S.length n→Kn hs.next (S++[o]).length n:=fun n h=>h.mono (Nat.le_refl _) (by omega)
  refine⟨hH,⟨fun i ob hi hr=>?_,fun i ob hi=>?_,fun i i' ob ob' hne hi hi' x hx hx'=>?_,fun i ob hi x hx hWx=>?_,fun b hb=>?_⟩,fun v hv=>(by cases hv),fun n c hc v hv=>(I.hst n c hc v hv).move hF hKK,fun n c hc=>⟨hKK n (I.hk n c hc).1,(I.hk n c hc).2⟩,fun n h1 h2=>.inr ⟨h1,h2⟩,fun n hn=>?_,Kept.refl _ _,fun _ _ _ _ _=>trivial,fun _ _ _=>trivial,fun n c hc hf=>?_⟩
  · rcases hcase i ob hi with h|⟨rfl,rfl⟩
    · exact R.base i ob h hr
    · exact hb
  · rcases hcase i ob hi with h|⟨rfl,rfl⟩
    · have h1:=obAt_kept (R.at' i ob h) fun x hx=>hw' x ⟨i,ob,h,hx⟩
      show obAt true OB' WB' F' (S++[o]) w' i ob
      cases ob with
      | mem=>exact h1
      | port m me steps=>obtain⟨z1,ws,bs,z2⟩:=h1;exact⟨z1,ws,bs,by rw [hold m (ob_lt z2)];exact z2⟩
      | thr=>intro z;obtain⟨a1,a2,a3,a4⟩:=h1 z;exact⟨hO _ a1,fun c hc=>by rw [hlen];have:=a2 c hc;omega,fun c hc=>by rw [hlen];have:=a3 c hc;omega,a4⟩
      | wp=>obtain⟨z1,z2⟩:=h1;exact⟨hW _ z1,z2⟩
      | acc=>exact h1
      | box=>exact h1
    · exact hat
  · rcases hcase i ob hi with h|⟨rfl,rfl⟩<;>rcases hcase i' ob' hi' with h'|⟨rfl,rfl⟩
    · exact R.apart i i' ob ob' hne h h' x hx hx'
    · rw [hbl] at hx'
      have:x=F'.blk (VB+S.length):=by simpa using hx'
      subst this
      exact hnf ⟨i,ob,h,hx⟩
    · rw [hbl] at hx
      have:x=F'.blk (VB+S.length):=by simpa using hx
      subst this
      exact hnf ⟨i',ob',h',hx'⟩
    · exact hne rfl
  · rcases hcase i ob hi with h|⟨rfl,rfl⟩
    · rcases hWn x hWx with z|⟨z,_⟩
      · exact R.waits i ob h x hx z
      · subst z
        exact absurd ⟨i,ob,h,hx⟩ hnf
    · rcases hWn x hWx with z|⟨_,z⟩
      · rw [hbl] at hx
        have:x=F'.blk (VB+S.length):=by simpa using hx
        subst this
        exact hWnew z
      · exact z
  · rcases hWn b hb with z|⟨z,a,s,x,y,v,e⟩
    · exact Nat.lt_of_lt_of_le (R.wlow b z) hsz
    · subst e
      obtain⟨_,_,_,h⟩:=hat
      rw [z];exact block_low h
  · rcases hn with hn|⟨_,hn⟩
    · have:=I.klim n (.inl hn)
      have this:n<VB+S.length:=this
      show n<VB+(S++[o]).length
      omega
    · exact hn
  · rcases hfp2 _ hf with z|z
    · exact I.sep n c hc (by rw [(hF n (I.hk n c hc).1).1];exact z)
    · exact hnv (.inl ⟨n,c,hc,(hF n (I.hk n c hc).1).1.trans z⟩)
end
end Go.Proofs.Ytkjnamhgemidkaa
namespace Go.Proofs.Ytkjnamhgemidkaa
open Go Go.RowKit
set_option linter.unusedSimpArgs false
set_option linter.unusedVariables false
section
variable {mn:Bool} {OB WB:Nat→Prop} {F F':Emb} {S:St} {w w':World}
theorem read_post {v:Value} (R:Rep mn OB WB F S w) (K:Kept w (fun _=>False) w') (hv:plainB v=true):PrimPost mn OB WB F S w S v (.returned v) w' :=
  ⟨F,Same.refl _ _,by rw [ren_plain _ hv],R.kept K.size fun b ⟨k,ob,hk,hb⟩=>K.block b (by
    obtain⟨c,el,fr,h1⟩:=obAt_row (R.at' k ob hk) b hb
    exact block_low h1) id,⟨K.os,K.tape,K.output,K.size,fun b hl _=>K.block b hl id⟩,fun b hb=>.inl hb⟩
theorem reads_calls {f:FuncId} {args:Array Value} {l:List (Option Blk)} {v:Value} {Ft:Emb} (D:ReadsI f args l v) (hH:Holds Ft (heapL l) w) (hst:∀ u∈args,Clo (Kn l.length 0) u) (hc:∀ n b,(heapL l).get n=some b→∀ u∈b.cells,Clo (Kn l.length 0) u) (hl:l.length≤VB) (hro:∀ n b,(heapL l).get n=some b→b.ro=true) (hv:plainB v=true) :
    TCalls Try.prog f (args.map (ren Ft)) w fun e w'=>e=.returned v∧Kept w (fun _=>False) w':=by
  obtain⟨g,c,h1,h2,G⟩:=D
  refine (goes_calls (Q:=fun v' _=>v'=v) h1 h2 G (fun x ⟨h',hx⟩=>⟨v,h',hx,rfl⟩) hH (fun u hu=>(hst u hu).stab Ft) (fun n b hb u hu=>(hc n b hb u hu).stab Ft) hl).mono fun e w' ⟨v',h',Ft',e1,e2,_,_,e6,_⟩=>?_
  subst e2
  exact⟨by rw [e1,ren_plain _ hv],⟨e6.os,e6.tape,e6.output,e6.size,fun b hb _=>e6.block b hb fun⟨n,bb,z1,z2,_⟩=>by rw [hro n bb z1] at z2;cases z2⟩⟩
theorem pure_prim {f:FuncId} {args:Array Value} {v:Value} (R:Rep mn OB WB F S w) (D:PureT f args v) (ha:args.all plainB=true) (hv:plainB v=true):TCalls Try.prog f (args.map (ren F)) w (PrimPost mn OB WB F S w S v):=by
  rw [plain_args F ha]
  refine (D w).mono fun e w' ⟨e1,K⟩=>?_
  rw [e1];exact read_post R K hv
theorem dI_read {f:FuncId} {args:Array Value} {l l':List Blk} {v:Value} {Ft:Emb} (D:DoesI f args l v l') (hH:Holds Ft (heapL (l.map some)) w) (hl:l.length≤VB) (hro:l.all (·.ro)=true) (hv:plainB v=true) :
    TCalls Try.prog f (args.map (ren Ft)) w fun e w'=>e=.returned v∧Kept w (fun _=>False) w' :=
  (doesI_calls D hH hl).mono fun e w' ⟨h1,Ft',e1,_,_,_,e6⟩=>⟨by rw [e1,ren_plain _ hv],⟨e6.os,e6.tape,e6.output,e6.size,fun b hb _=>e6.block b hb fun⟨n,bb,z1,z2,_⟩=>by
    have:=List.all_eq_true.1 hro bb (List.mem_of_getElem? z1)
    rw [this] at z2;cases z2⟩⟩
theorem port_read {f:FuncId} {v:Value} {p:Nat} {me:Int} {s:Nat} (R:Rep mn OB WB F S w) (hp:S[p]?=some (.port me.natAbs me s)∨∃ m,S[p]?=some (.port m me s)) (D:∀ ws bs wc bc,DoesI f #[.pointer (some ⟨4,0,none⟩)] (dRo ws bs wc bc s me) v (dRo ws bs wc bc s me)) (hv:plainB v=true) :
    TCalls Try.prog f (#[hndV p].map (ren F)) w (PrimPost mn OB WB F S w S v):=by
  obtain⟨m,hp⟩:∃ m,S[p]?=some (.port m me s):=hp.elim (fun h=>⟨_,h⟩) id
  obtain⟨⟨Y,hd⟩,ws,bs,hm⟩:=R.at' _ _ hp
  obtain⟨X,hM⟩:=R.at' _ _ hm
  have ha:#[hndV p].map (ren F)=#[Value.pointer (some ⟨4,0,none⟩)].map (ren (embM (F.blk (VB+m)) (F.base (VB+m)) (aux (F.slack (VB+m)) 1) X (aux (F.slack (VB+m)) 2) [(aux (F.slack (VB+p)) 1,Y.vpre.size),(F.blk (VB+p),F.base (VB+p))])):=by
    simp [hndV,adr,embC]
  rw [ha]
  refine (dI_read (D ws bs X.wcap X.bcap) (port_holds hM hd) (by simp [VB]) rfl hv).mono fun e w' ⟨e1,K⟩=>?_
  rw [e1];exact read_post R K hv
theorem wp_read {f:FuncId} {v:Value} {k:Nat} {me:Int} {s a g q:Nat} (R:Rep mn OB WB F S w) (h:S[k]?=some (.wp me s a g q)) (D:ReadsI f #[.pointer (some ⟨0,0,none⟩)] [some (wpR me s)] v) (hv:plainB v=true) :
    TCalls Try.prog f (#[hndV k].map (ren F)) w (PrimPost mn OB WB F S w S v):=by
  obtain⟨_,told,fr,hr⟩:=R.at' _ _ h
  have h0:=R.base _ _ h rfl
  have ha:#[hndV k].map (ren F)=#[Value.pointer (some ⟨0,0,none⟩)].map (ren (embB [F.blk (VB+k)])):=by
    simp [hndV,adr,embB,h0]
  rw [ha]
  refine (reads_calls D (rows_at (fun _=>rfl) (fun n b hn=>?_) (fun n n' b c h1 h2 hne _=>?_)) (fun u hu=>?_) (fun n b hb u hu=>?_) (by simp [VB]) (fun n b hb=>?_) hv).mono fun e w' ⟨e1,K⟩=>(by rw [e1];exact read_post R K hv)
  · match n,hn with
    | 0,hn =>
      obtain rfl:b=wpR me s:=by simpa using hn.symm
      exact⟨rfl,_,fr,by show w.heap[F.blk (VB+k)]?=_;rw [hr];simp [wpRow];rfl,fun z=>by cases z⟩
    | n+1,hn=>simp at hn
  · have l1:=(List.getElem?_eq_some_iff.1 h1).1
    have l2:=(List.getElem?_eq_some_iff.1 h2).1
    simp at l1 l2
    omega
  · simp only [List.mem_toArray,List.mem_cons,List.not_mem_nil,or_false] at hu
    subst hu
    exact clo_p (by simp)
  · match n,hb with
    | 0,hb =>
      obtain rfl:b=wpR me s:=by simpa [heapL] using hb.symm
      simp only [List.mem_cons,List.not_mem_nil,or_false] at hu
      rcases hu with rfl|rfl<;>exact Clo.plain rfl
    | n+1,hb=>simp [heapL] at hb
  · match n,hb with
    | 0,hb =>
      obtain rfl:b=wpR me s:=by simpa [heapL] using hb.symm
      rfl
    | n+1,hb=>simp [heapL] at hb
def wOf (o:Option Nat) (i:Nat):Value:=match o with|none=>.pointer none|some _=>.pointer (some ⟨i,0,none⟩)
theorem wOf_clo {o:Option Nat} {i n c:Nat} (h:i<n):Clo (Kn n c) (wOf o i):=by
  cases o with
  | none=>exact Clo.plain rfl
  | some _=>exact clo_p h
abbrev embT (F:Emb) (k:Nat) (o1 o2:Option Nat):Emb:=embB [F.blk (VB+k),(o1.map fun c=>F.blk (VB+c)).getD 0,(o2.map fun c=>F.blk (VB+c)).getD 0]
theorem wOf_1 (F:Emb) (k:Nat) (o1 o2:Option Nat):ren (embT F k o1 o2) (wOf o1 1)=ptrO F o1:=by
  cases o1<;>simp [wOf,ptrO,adr,embB]
theorem wOf_2 (F:Emb) (k:Nat) (o1 o2:Option Nat):ren (embT F k o1 o2) (wOf o2 2)=ptrO F o2:=by
  cases o2<;>simp [wOf,ptrO,adr,embB]
theorem thr_read {f:FuncId} {v:Value} {k:Nat} {self:Int} {quit:Nat} {closed busy:Bool} {cur:Option (Nat × Nat × Nat)} {pend:Option Nat} {x1 x2:Option Blk} (R:Rep true OB WB F S w) (h:S[k]?=some (.thr self quit closed busy cur pend)) (D:ReadsI f #[.pointer (some ⟨0,0,none⟩)] [some (thB self (wOf (cur.map (·.1)) 1) (cur.map (·.2.2)) (wOf pend 2) busy),x1,x2] v)
    (h1:∀ b,x1=some b→b.grow=none∧b.ro=true∧(∀ u∈b.cells,plainB u=true)∧∃ (c:Nat) (post:Array Value) (fr:Nat × Nat),cur.map (·.1)=some c∧w.heap[F.blk (VB+c)]?=some (.cells (b.cells.toArray++post) b.elem fr))
    (h2:∀ b,x2=some b→b.grow=none∧b.ro=true∧(∀ u∈b.cells,plainB u=true)∧∃ (c:Nat) (post:Array Value) (fr:Nat × Nat),pend=some c∧w.heap[F.blk (VB+c)]?=some (.cells (b.cells.toArray++post) b.elem fr)) (hv:plainB v=true) :
    TCalls Try.prog f (#[hndV k].map (ren F)) w (PrimPost true OB WB F S w S v):=by
  obtain⟨_,_,_,hr⟩:=R.at' _ _ h rfl
  have h0:=R.base _ _ h rfl
  have ha:#[hndV k].map (ren F)=#[Value.pointer (some ⟨0,0,none⟩)].map (ren (embT F k (cur.map (·.1)) pend)):=by
    simp [hndV,adr,embB,h0]
  rw [ha]
  have hpl:∀ b:Blk,(∀ u∈b.cells,plainB u=true)→b.cells.map (ren (embT F k (cur.map (·.1)) pend))=b.cells:=fun b hb=>by
    have:b.cells.map (ren (embT F k (cur.map (·.1)) pend))=b.cells.map id:=List.map_congr_left fun u hu=>ren_plain _ (hb u hu)
    rw [this,List.map_id]
  have hall:∀ (n:Nat) b,([some (thB self (wOf (cur.map (·.1)) 1) (cur.map (·.2.2)) (wOf pend 2) busy),x1,x2]:List (Option Blk))[n]?=some (some b)→b.grow=none∧b.ro=true∧(∀ u∈b.cells,Clo (Kn 3 0) u)∧∃ (post:Array Value) (fr:Nat × Nat),w.heap[(embT F k (cur.map (·.1)) pend).blk n]?=some (.cells ((b.cells.map (ren (embT F k (cur.map (·.1)) pend))).toArray++post) b.elem fr):=fun n b hn=>by
    match n,hn with
    | 0,hn =>
      obtain rfl:b=thB self (wOf (cur.map (·.1)) 1) (cur.map (·.2.2)) (wOf pend 2) busy:=by simpa using hn.symm
      refine⟨rfl,rfl,fun u hu=>?_,#[.bool closed,chV quit],(0,0),?_⟩
      · simp only [List.mem_cons,List.not_mem_nil,or_false] at hu
        rcases hu with rfl|rfl|rfl|rfl|rfl
        · exact Clo.plain rfl
        · exact wOf_clo (by decide)
        · exact fun F F' _=>(by rw [ren_chan,ren_chan])
        · exact wOf_clo (by decide)
        · exact Clo.plain rfl
      · show w.heap[F.blk (VB+k)]?=_
        rw [hr]
        simp only [List.map_cons,List.map_nil,wOf_1,wOf_2,ren_int,ren_bool,ren_chan]
        rfl
    | 1,hn =>
      obtain⟨g1,g2,g3,c,post,fr,g4,g5⟩:=h1 b (by simpa using hn)
      refine⟨g1,g2,fun u hu=>Clo.plain (g3 u hu),post,fr,?_⟩
      rw [hpl b g3]
      have:(embT F k (cur.map (·.1)) pend).blk 1=F.blk (VB+c):=by simp [embB,g4]
      rw [this];exact g5
    | 2,hn =>
      obtain⟨g1,g2,g3,c,post,fr,g4,g5⟩:=h2 b (by simpa using hn)
      refine⟨g1,g2,fun u hu=>Clo.plain (g3 u hu),post,fr,?_⟩
      rw [hpl b g3]
      have:(embT F k (cur.map (·.1)) pend).blk 2=F.blk (VB+c):=by simp [embB,g4]
      rw [this];exact g5
    | n+3,hn=>simp at hn
  have hget:∀ n b,(heapL ([some (thB self (wOf (cur.map (·.1)) 1) (cur.map (·.2.2)) (wOf pend 2) busy),x1,x2]:List (Option Blk))).get n=some b→([some (thB self (wOf (cur.map (·.1)) 1) (cur.map (·.2.2)) (wOf pend 2) busy),x1,x2]:List (Option Blk))[n]?=some (some b):=fun n b hb=>by
    rw [heapL_get] at hb
    cases hx:([some (thB self (wOf (cur.map (·.1)) 1) (cur.map (·.2.2)) (wOf pend 2) busy),x1,x2]:List (Option Blk))[n]? with
    | none=>rw [hx] at hb;cases hb
    | some y=>rw [hx] at hb;exact congrArg some hb
  refine (reads_calls D (rows_at (fun _=>rfl) (fun n b hn=>?_) (fun n n' b c h1 h2 hne hro=>?_)) (fun u hu=>?_) (fun n b hb u hu=>(hall n b (hget n b hb)).2.2.1 u hu) (by simp [VB]) (fun n b hb=>(hall n b (hget n b hb)).2.1) hv).mono fun e w' ⟨e1,K⟩=>(by rw [e1];exact read_post R K hv)
  · obtain⟨g1,g2,_,post,fr,g3⟩:=hall n b hn
    exact⟨g1,post,fr,g3,fun z=>by rw [g2] at z;cases z⟩
  · rw [(hall n b h1).2.1] at hro;cases hro
  · simp only [List.mem_toArray,List.mem_cons,List.not_mem_nil,or_false] at hu
    subst hu
    exact clo_p (by simp)
theorem rep_push {o:Ob} (R:Rep mn OB WB F S w) (hF:Same (fun n=>n<VB+S.length) F F') (K:Kept w (fun _=>False) w') (hbs:rowB o=true→F'.base (VB+S.length)=0) (hat:obAt mn OB WB F' (S++[o]) w' S.length o) (hnew:∀ b∈obBlk mn F' S.length o,w.heap.size≤b) :
    Rep mn OB WB F' (S++[o]) w'∧Kept w (fpS mn F S) w'∧∀ b,fpS mn F' (S++[o]) b→fpS mn F S b∨w.heap.size≤b:=by
  obtain⟨R',hfp⟩:Rep mn OB WB F' S w∧∀ b,fpS mn F' S b→fpS mn F S b:=Rep.same (hF.mono fun n hn=>hn.2) R
  have hlen:(S++[o]).length=S.length+1:=by simp
  have hself:(S++[o])[S.length]?=some o:=by simp
  have hold:∀ i,i<S.length→(S++[o])[i]?=S[i]?:=fun i hi=>List.getElem?_append_left hi
  have hcase:∀ (i:Nat) ob,(S++[o])[i]?=some ob→S[i]?=some ob∨(i=S.length∧ob=o):=fun i ob hi=>by
    have:=ob_lt hi
    rw [hlen] at this
    by_cases z:i<S.length
    · rw [hold i z] at hi;exact .inl hi
    · have z:i=S.length:=by omega
      subst z;rw [hself] at hi;exact .inr ⟨rfl,(Option.some.inj hi).symm⟩
  have hlow:∀ (i:Nat) ob,S[i]?=some ob→∀ b∈obBlk mn F' i ob,b<w.heap.size:=fun i ob ho b hb=>by
    obtain⟨c,el,fr,h1⟩:=obAt_row (R'.at' i ob ho) b hb
    exact block_low h1
  refine⟨⟨fun i ob hi hr=>?_,fun i ob hi=>?_,fun i i' ob ob' hne hi hi' x hx hx'=>?_,fun i ob hi x hx hW=>?_,fun b hb=>Nat.lt_of_lt_of_le (R.wlow b hb) K.size⟩,⟨K.os,K.tape,K.output,K.size,fun b hl _=>K.block b hl id⟩,fun b ⟨i,ob,hi,hb⟩=>?_⟩
  · rcases hcase i ob hi with h|⟨rfl,rfl⟩
    · exact R'.base i ob h hr
    · exact hbs hr
  · rcases hcase i ob hi with h|⟨rfl,rfl⟩
    · have h1:=obAt_kept (R'.at' i ob h) fun x hx=>K.block x (hlow i ob h x hx) id
      cases ob with
      | port m me st=>obtain⟨z1,ws0,bs0,z2⟩:=h1;exact⟨z1,ws0,bs0,(hold m (ob_lt z2)).trans z2⟩
      | thr a b c d e f=>intro y;obtain⟨a1,a2,a3,a4⟩:=h1 y;exact⟨a1,fun c hc=>by rw [hlen];have:=a2 c hc;omega,fun c hc=>by rw [hlen];have:=a3 c hc;omega,a4⟩
      | mem=>exact h1
      | wp=>exact h1
      | acc=>exact h1
      | box=>exact h1
    · exact hat
  · rcases hcase i ob hi with h|⟨rfl,rfl⟩<;>rcases hcase i' ob' hi' with h'|⟨rfl,rfl⟩
    · exact R'.apart i i' ob ob' hne h h' x hx hx'
    · have:=hlow i ob h x hx;have:=hnew x hx';omega
    · have:=hlow i' ob' h' x hx';have:=hnew x hx;omega
    · exact hne rfl
  · rcases hcase i ob hi with h|⟨rfl,rfl⟩
    · exact R'.waits i ob h x hx hW
    · have:=hnew x hx;have:=R.wlow x hW;omega
  · rcases hcase i ob hi with h|⟨rfl,rfl⟩
    · exact .inl (hfp b ⟨i,ob,h,hb⟩)
    · exact .inr (hnew b hb)
def Emb.addE (F:Emb) (k:Nat) (b o s:Nat):Emb:=⟨fun n=>if n=k then b else F.blk n,fun n=>if n=k then o else F.base n,fun n=>if n=k then s else F.slack n⟩
theorem Emb.addE_same {F:Emb} {k b o s:Nat}:Same (fun n=>n<k) F (F.addE k b o s):=fun n hn=>by
  have hn:n<k:=hn
  have:n≠k:=by omega
  simp [Emb.addE,this]
theorem makes_calls {f:FuncId} {args:Array Value} {l l1:List (Option Blk)} {v:Value} {Ft:Emb} (D:MakesI f args l v l1) (hl:∀ x∈l,x=none) (hst:∀ u∈args,Clo (Kn l.length 0) u) (hL:l.length≤VB) :
    TCalls Try.prog f (args.map (ren Ft)) w fun e w'=>∃ Ft',e=.returned (ren Ft' v)∧Holds Ft' (heapL l1) w'∧Same (Kn l.length 0) Ft Ft'∧Kept w (fun _=>False) w'∧∀ n b,(heapL l1).get n=some b→b.ro=false→w.heap.size≤Ft'.blk n:=by
  obtain⟨g,c,h1,h2,G⟩:=D
  have hg0:∀ n b,(heapL l).get n=some b→False:=fun n b hb=>by
    rw [heapL_get] at hb
    cases hx:l[n]? with
    | none=>rw [hx] at hb;cases hb
    | some y =>
      rw [hl y (List.mem_of_getElem? hx)] at hx
      rw [hx] at hb;cases hb
  refine (goes_calls (Q:=fun v' h'=>v'=v∧h'=heapL l1) h1 h2 G (fun x hx=>⟨v,_,hx,rfl,rfl⟩) ⟨fun n b hb=>(hg0 n b hb).elim,fun n m b c hb=>(hg0 n b hb).elim⟩ (fun u hu=>(hst u hu).stab Ft) (fun n b hb u hu=>(hg0 n b hb).elim) hL).mono fun e w' ⟨v',h',Ft',e1,⟨e2,e3⟩,e4,e5,e6,e7⟩=>?_
  subst e2 e3
  refine⟨Ft',e1,e4,e5,⟨e6.os,e6.tape,e6.output,e6.size,fun b hb _=>e6.block b hb fun⟨n,bb,z1,_⟩=>hg0 n bb z1⟩,fun n b hb hro=>?_⟩
  refine Nat.le_of_not_lt fun hlt=>?_
  obtain⟨n',bb,z1,_⟩:=e7 n b hb hro hlt
  exact hg0 n' bb z1
theorem pnew_prim {m:Nat} {me:Int} {ws:List UInt64} {bs:List UInt8} (R:Rep mn OB WB F S w) (h:S[m]?=some (Ob.mem ws bs)):TCalls Try.prog 40 (#[hndV m,.int .i64 me].map (ren F)) w (PrimPost mn OB WB F S w (S++[.port m me 0]) (hndV S.length)):=by
  have hml:=ob_lt h
  have ha:#[hndV m,.int .i64 me].map (ren F)=#[Value.pointer (some ⟨0,0,none⟩),.int .i64 me].map (ren (embC [(F.blk (VB+m),F.base (VB+m))])):=by
    simp [hndV,adr,embC]
  rw [ha]
  refine (makes_calls (pnew_m me) (fun x hx=>by simpa using hx) (fun u hu=>?_) (by simp [VB])).mono fun e w' ⟨Ft',e1,H,hs,K,hfr⟩=>?_
  · simp only [List.mem_toArray,List.mem_cons,List.not_mem_nil,or_false] at hu
    rcases hu with rfl|rfl
    · exact clo_p (by simp)
    · exact Clo.plain rfl
  obtain⟨s1,s2,_⟩:=hs 0 (.inl (by simp))
  have s1:F.blk (VB+m)=Ft'.blk 0:=s1
  have s2:F.base (VB+m)=Ft'.base 0:=s2
  obtain⟨p1,q1,fr1,r1,r2,r3,_⟩:=H.row 1 _ rfl
  obtain⟨p2,q2,fr2,t1,t2,t3,_⟩:=H.row 2 _ rfl
  have f1:=hfr 1 _ rfl rfl
  have f2:=hfr 2 _ rfl rfl
  rw [r3 rfl] at r1
  rw [t3 rfl] at t1
  have hne:∀ i,i<S.length→VB+i≠VB+S.length:=fun i hi=>by omega
  have hE:Same (fun n=>n<VB+S.length) F (F.addE (VB+S.length) (Ft'.blk 2) (Ft'.base 2) (code (Ft'.blk 1) 0)):=Emb.addE_same
  have eb:(F.addE (VB+S.length) (Ft'.blk 2) (Ft'.base 2) (code (Ft'.blk 1) 0)).blk (VB+S.length)=Ft'.blk 2:=if_pos rfl
  have eo:(F.addE (VB+S.length) (Ft'.blk 2) (Ft'.base 2) (code (Ft'.blk 1) 0)).base (VB+S.length)=Ft'.base 2:=if_pos rfl
  have es:(F.addE (VB+S.length) (Ft'.blk 2) (Ft'.base 2) (code (Ft'.blk 1) 0)).slack (VB+S.length)=code (Ft'.blk 1) 0:=if_pos rfl
  have em:(F.addE (VB+S.length) (Ft'.blk 2) (Ft'.base 2) (code (Ft'.blk 1) 0)).blk (VB+m)=Ft'.blk 0:=(if_neg (hne m hml)).trans s1
  have en:(F.addE (VB+S.length) (Ft'.blk 2) (Ft'.base 2) (code (Ft'.blk 1) 0)).base (VB+m)=Ft'.base 0:=(if_neg (hne m hml)).trans s2
  generalize F.addE (VB+S.length) (Ft'.blk 2) (Ft'.base 2) (code (Ft'.blk 1) 0)=F' at *
  obtain⟨z1,z2,z3⟩:=rep_push (o:=.port m me 0) R hE K (fun z=>by cases z) ⟨⟨(⟨p2,#[.pointer none]++q2,p1,q1,by rw [eo];exact t2⟩:DirP (F'.base (VB+S.length))),⟨by
      show w'.heap[F'.blk (VB+S.length)]?=_
      rw [eb,t1,es,aux_1]
      simp [adr,r2],by
      show w'.heap[aux (F'.slack (VB+S.length)) 1]?=_
      rw [es,aux_1,r1,em,en]
      simp [adr]⟩⟩,ws,bs,by rw [List.getElem?_append_left hml];exact h⟩ (fun b hb=>by
      simp only [obBlk,List.mem_cons,List.not_mem_nil,or_false] at hb
      rcases hb with rfl|rfl
      · rw [eb];exact f2
      · rw [es,aux_1];exact f1)
  exact⟨F',hE,by rw [e1];simp [hndV,adr,eb,eo],z1,z2,z3⟩
theorem zero_words (a:Nat):zerosL [Value.int .u64 0] a=wL (List.replicate a 0):=by
  induction a with
  | zero=>rfl
  | succ n ih=>simp only [zerosL,ih,List.replicate_succ];rfl
theorem zero_bytes (a:Nat):zerosL [Value.int .u8 0] a=bL (List.replicate a 0):=by
  induction a with
  | zero=>rfl
  | succ n ih=>simp only [zerosL,ih,List.replicate_succ];rfl
theorem mnew_prim {a b:Nat} (R:Rep mn OB WB F S w) (ha:a≤2097152) (hb:b≤1048576):TCalls Try.prog 76 (#[.int .i64 (a:Int),.int .i64 (b:Int)].map (ren F)) w (PrimPost mn OB WB F S w (S++[.mem (List.replicate a 0) (List.replicate b 0)]) (.tuple #[hndV S.length,.int .i64 0])):=by
  refine (makes_calls (Ft:=F) (mnew_m a b ha hb) (fun x hx=>by cases hx) (fun u hu=>?_) (by simp)).mono fun e w' ⟨Ft',e1,H,hs,K,hfr⟩=>?_
  · simp only [List.mem_toArray,List.mem_cons,List.not_mem_nil,or_false] at hu
    rcases hu with rfl|rfl<;>exact Clo.plain rfl
  obtain⟨p0,q0,fr0,o1,o2,o3,_⟩:=H.row 0 _ rfl
  obtain⟨p1,q1,fr1,r1,r2,r3,_⟩:=H.row 1 _ rfl
  obtain⟨p2,q2,fr2,t1,t2,t3,_⟩:=H.row 2 _ rfl
  have f0:=hfr 0 _ rfl rfl
  have f1:=hfr 1 _ rfl rfl
  have f2:=hfr 2 _ rfl rfl
  rw [o3 rfl] at o1
  rw [r3 rfl] at r1
  rw [t3 rfl] at t1
  have hE:Same (fun n=>n<VB+S.length) F (F.addE (VB+S.length) (Ft'.blk 2) (Ft'.base 2) (code (Ft'.blk 0) (Ft'.blk 1))):=Emb.addE_same
  have eb:(F.addE (VB+S.length) (Ft'.blk 2) (Ft'.base 2) (code (Ft'.blk 0) (Ft'.blk 1))).blk (VB+S.length)=Ft'.blk 2:=if_pos rfl
  have eo:(F.addE (VB+S.length) (Ft'.blk 2) (Ft'.base 2) (code (Ft'.blk 0) (Ft'.blk 1))).base (VB+S.length)=Ft'.base 2:=if_pos rfl
  have es:(F.addE (VB+S.length) (Ft'.blk 2) (Ft'.base 2) (code (Ft'.blk 0) (Ft'.blk 1))).slack (VB+S.length)=code (Ft'.blk 0) (Ft'.blk 1):=if_pos rfl
  generalize F.addE (VB+S.length) (Ft'.blk 2) (Ft'.base 2) (code (Ft'.blk 0) (Ft'.blk 1))=F' at *
  obtain⟨z1,z2,z3⟩:=rep_push (o:=.mem (List.replicate a 0) (List.replicate b 0)) R hE K (fun z=>by cases z) ⟨(⟨p2,q2,p0,q0,a+Ft'.slack 0,p1,q1,b+Ft'.slack 1,by rw [eo];exact t2⟩:MemP (F'.base (VB+S.length))),⟨by
      show w'.heap[F'.blk (VB+S.length)]?=_
      rw [eb,t1,es,aux_1,aux_2]
      simp [adr,o2,r2],by
      show w'.heap[aux (F'.slack (VB+S.length)) 1]?=_
      rw [es,aux_1,o1]
      simp only [zero_words,map_row]
      rw [wL_cells],by
      show w'.heap[aux (F'.slack (VB+S.length)) 2]?=_
      rw [es,aux_2,r1]
      simp only [zero_bytes,map_row]
      rw [bL_cells],by simpa using ha,by simpa using hb⟩⟩ (fun x hx=>by
      simp only [obBlk,List.mem_cons,List.not_mem_nil,or_false] at hx
      rcases hx with rfl|rfl|rfl
      · rw [eb];exact f2
      · rw [es,aux_1];exact f0
      · rw [es,aux_2];exact f1)
  exact⟨F',hE,by rw [e1];simp [hndV,adr,eb,eo],z1,z2,z3⟩
theorem prim_ok {f:FuncId} {args:Array Value} {v:Value} {S':St} (h:Prim f args S v S') (R:Rep mn OB WB F S w):TCalls Try.prog f (args.map (ren F)) w (PrimPost mn OB WB F S w S' v):=by
  cases h with
  | pure h ha hv=>exact pure_prim R (h w) ha hv
  | @word k ws bs S n h =>
    have h1:=mem_prim (zs:=#[.int .i64 n]) R h (fun wc bc=>word_x ws bs wc bc n) (by simp [plainB]) (by simp [plainB]) rfl rfl
    rw [set_same_ob h] at h1
    exact h1
  | @do' k ws bs S c n A B h h1 h4=>exact mem_prim (zs:=#[accV c n A B]) R h (fun wc bc=>do_x' ws bs wc bc c n A B h1 h4) (by simp [plainB,accV]) (by simp [plainB]) (wS_length ..) rfl
  | @load p m me st ws bs S n h hm hs =>
    rw [wS_load]
    exact port_prim (zs:=#[.int .i64 n]) R h hm (fun wc bc=>pload_x ws bs wc bc st me n hs) (by simp [plainB]) (by simp [plainB]) rfl rfl
  | @store p m me st ws bs S n A h hm hs=>exact port_prim (zs:=#[.int .i64 n,.int .u64 (A.toNat:Int)]) R h hm (fun wc bc=>pstore_x ws bs wc bc st me n A hs) (by simp [plainB]) (by simp [plainB]) (wS_length ..) rfl
  | @cas p m me st ws bs S n A B h hm hs=>exact port_prim (zs:=#[.int .i64 n,.int .u64 (A.toNat:Int),.int .u64 (B.toNat:Int)]) R h hm (fun wc bc=>pcas_x ws bs wc bc st me n A B hs) (by simp [plainB]) (by simp [plainB]) (wS_length ..) rfl
  | @add p m me st ws bs S n A h hm hs=>exact port_prim (zs:=#[.int .i64 n,.int .u64 (A.toNat:Int)]) R h hm (fun wc bc=>padd_x ws bs wc bc st me n A hs) (by simp [plainB]) (by simp [plainB]) (wS_length ..) rfl
  | @self p m me st S h=>exact port_read (s:=st) R (.inr ⟨m,h⟩) (fun ws bs wc bc=>pself_x ws bs wc bc st me) rfl
  | @steps p m me st S h=>exact port_read (s:=st) R (.inr ⟨m,h⟩) (fun ws bs wc bc=>psteps_x ws bs wc bc st me) rfl
  | @dget k ws bs S n A B h =>
    have h1:=mem_prim (zs:=#[accV 5 n A B]) R h (fun wc bc=>dget_x' ws bs wc bc n A B) (by simp [plainB,accV]) (by simp [plainB]) rfl rfl
    rw [set_same_ob h] at h1
    exact h1
  | @dput k ws bs S n A B h=>exact mem_prim (zs:=#[accV 6 n A B]) R h (fun wc bc=>dput_x' ws bs wc bc n A B) (by simp [plainB,accV]) (by simp [plainB]) rfl (bS_length ..)
  | @get p m me st ws bs S n h hm hs=>exact port_prim (zs:=#[.int .i64 n]) R h hm (fun wc bc=>pget_x ws bs wc bc st me n hs) (by simp [plainB]) (by simp [plainB]) rfl rfl
  | @put p m me st ws bs S n b h hm hs=>exact port_prim (zs:=#[.int .i64 n,.int .u8 (b.toNat:Int)]) R h hm (fun wc bc=>pput_x ws bs wc bc st me n b hs) (by simp [plainB]) (by simp [plainB]) rfl (bS_length ..)
  | @wself k me st a b c S h=>exact wp_read R h (wself_r me st) rfl
  | @wsteps k me st a b c S h=>exact wp_read R h (wsteps_r me st) rfl
  | @pnew m me ws bs S h=>exact pnew_prim R h
  | mnew a b ha hb=>exact mnew_prim R ha hb
theorem prim_okM {f:FuncId} {args:Array Value} {v:Value} {S':St} (h:PrimM f args S v S') (R:Rep true OB WB F S w):TCalls Try.prog f (args.map (ren F)) w (PrimPost true OB WB F S w S' v):=by
  cases h with
  | com h=>exact prim_ok h R
  | busy h=>exact thr_read R h (busy_r _ _ _ _ _) (fun _ z=>by cases z) (fun _ z=>by cases z) rfl
  | idle h=>exact thr_read R h (idle_r _ _ _ _) (fun _ z=>by cases z) (fun _ z=>by cases z) (by simp [plainB,accZ,accV])
  | @pend k p self quit closed b cur S c n A B h hp =>
    refine thr_read (x1:=none) (x2:=some (aR c n A B)) R h (pend_r _ _ _ _ _ _ _ _) (fun _ z=>by cases z) (fun b z=>?_) (by simp [plainB,accV])
    obtain rfl:=Option.some.inj z
    exact⟨rfl,rfl,fun u hu=>by simp only [List.mem_cons,List.not_mem_nil,or_false] at hu;rcases hu with rfl|rfl|rfl|rfl<;>rfl,p,#[],(0,0),rfl,by simpa [accRow] using show w.heap[F.blk (VB+p)]?=some (.cells (accRow c n A B) 36 (0,0)) from R.at' _ _ hp⟩
  | @steps k hp gid dn self ws quit st x y z closed b pend S h hw =>
    obtain⟨_,told,fr,hr⟩:=R.at' _ _ hw
    refine thr_read (x1:=some (wpR ws st)) (x2:=none) R h (tsteps_r _ _ _ _ _ _) (fun b e=>?_) (fun _ z=>by cases z) rfl
    obtain rfl:=Option.some.inj e
    refine⟨rfl,rfl,fun u hu=>by simp only [List.mem_cons,List.not_mem_nil,or_false] at hu;rcases hu with rfl|rfl<;>rfl,hp,#[.pointer told,chV x,chV y,chV z],fr,rfl,?_⟩
    rw [hr];rfl
end
theorem primOK (mn:Bool) (OB WB:Nat→Prop):PrimOK mn OB WB:=by
  intro f args S v S' F w h R
  cases mn with
  | true=>exact prim_okM h R
  | false=>exact prim_ok h R
end Go.Proofs.Ytkjnamhgemidkaa
namespace Go.Proofs.Ytkjnamhgemidkaa
open Go Go.Conc
set_option linter.unusedSimpArgs false
set_option linter.unusedVariables false
open Go.ConcN (sumTo upd sumTo_upd upd_ne upd_same)
section
variable (hok:∀ mn OB WB,PrimOK mn OB WB)
variable {OB WB:Nat→Prop} {F:Emb} {hs hs' hs2:AHeap} {S:St} {w w':World}
theorem repB_thr {k:Nat} {a b c d e f a' b' c' d' e' f'} (hk:S[k]?=some (Ob.thr a b c d e f)) (R:Rep false OB WB F S w):Rep false OB WB F (S.set k (.thr a' b' c' d' e' f')) w∧∀ x,fpS false F (S.set k (.thr a' b' c' d' e' f')) x→fpS false F S x:=by
  have hlen:(S.set k (Ob.thr a' b' c' d' e' f')).length=S.length:=by simp
  have hself:(S.set k (Ob.thr a' b' c' d' e' f'))[k]?=some (.thr a' b' c' d' e' f'):=List.getElem?_set_self (ob_lt hk)
  have hne:∀ i,i≠k→(S.set k (Ob.thr a' b' c' d' e' f'))[i]?=S[i]?:=fun i hi=>List.getElem?_set_ne (Ne.symm hi)
  have hblk:∀ (i:Nat) ob2,(S.set k (Ob.thr a' b' c' d' e' f'))[i]?=some ob2→∃ ob,S[i]?=some ob∧obBlk false F i ob2=obBlk false F i ob:=fun i ob2 hi=>by
    by_cases z:i=k
    · subst z;rw [hself] at hi;cases hi;exact⟨_,hk,rfl⟩
    · rw [hne i z] at hi;exact⟨_,hi,rfl⟩
  refine⟨⟨fun i ob2 hi hr=>?_,fun i ob2 hi=>?_,fun i i' ob ob' hne' hi hi' x hx hx'=>?_,fun i ob2 hi x hx hW=>?_,R.wlow⟩,fun x ⟨i,ob2,hi,hx⟩=>?_⟩
  · by_cases z:i=k
    · subst z;exact R.base i _ hk rfl
    · rw [hne i z] at hi;exact R.base i _ hi hr
  · by_cases z:i=k
    · subst z;rw [hself] at hi;cases hi
      intro z;cases z
    · rw [hne i z] at hi
      refine obAt_S (S:=S) (fun m ws bs hm=>?_) hlen (R.at' i _ hi)
      rw [hne]
      · exact hm
      rintro rfl
      rw [hk] at hm;cases hm
  · obtain⟨o1,g1,g2⟩:=hblk i ob hi
    obtain⟨o2,g3,g4⟩:=hblk i' ob' hi'
    exact R.apart i i' o1 o2 hne' g1 g3 x (g2 ▸ hx) (g4 ▸ hx')
  · by_cases z:i=k
    · subst z;rw [hself] at hi;cases hi
      simp [obBlk] at hx
    · rw [hne i z] at hi;exact R.waits i _ hi x hx hW
  · obtain⟨ob,h1,h2⟩:=hblk i ob2 hi
    exact⟨i,ob,h1,h2 ▸ hx⟩
theorem rinvB_thr {k:Nat} {a b c d e f a' b' c' d' e' f'} (hk:S[k]?=some (Ob.thr a b c d e f)) (H:RInv (XB hok OB WB) F (.run [] [] hs S) w):RInv (XB hok OB WB) F (.run [] [] hs (S.set k (.thr a' b' c' d' e' f'))) w:=by
  obtain⟨I,hV⟩:=H
  have I:AInv (XB hok OB WB) F w (fun _=>True) (Kn hs.next S.length) (fun v=>v∈([]:List Value)) hs S w:=I
  obtain⟨h1,h2⟩:=repB_thr (a':=a') (b':=b') (c':=c') (d':=d') (e':=e') (f':=f') hk I.rep
  refine⟨?_,hV⟩
  show AInv (XB hok OB WB) F w (fun _=>True) (Kn hs.next (S.set k (Ob.thr a' b' c' d' e' f')).length) (fun v=>v∈([]:List Value)) hs (S.set k (.thr a' b' c' d' e' f')) w
  rw [show (S.set k (Ob.thr a' b' c' d' e' f')).length=S.length by simp]
  refine⟨I.holds,h1,fun v hv=>(by cases hv),I.hst,I.hk,?_,?_,Kept.refl _ _,fun _ _ _ _ _=>trivial,fun _ _ _=>trivial,fun n r hr hf=>I.sep n r hr (h2 _ hf)⟩
  · intro n hn1 hn2
    refine I.hand n hn1 ?_
    have hn2:n<VB+(S.set k (Ob.thr a' b' c' d' e' f')).length:=hn2
    show n<VB+S.length
    simpa using hn2
  · intro n hn
    have:n<VB+S.length:=I.klim n hn
    show n<VB+(S.set k (Ob.thr a' b' c' d' e' f')).length
    simpa using this
theorem rep_back (R:Rep false OB WB F S w) (hO:∀ (k:Nat) a b c d e f,S[k]?=some (Ob.thr a b c d e f)→OB (F.blk (VB+k))) (ht:∀ (k:Nat) a b c d e f,S[k]?=some (Ob.thr a b c d e f)→obAt true OB WB F S w k (.thr a b c d e f))
    (hv:∀ x,OB x→¬ fpS false F S x) (hd:∀ (k k':Nat) a b c d e f a' b' c' d' e' f',k≠k'→S[k]?=some (Ob.thr a b c d e f)→S[k']?=some (Ob.thr a' b' c' d' e' f')→F.blk (VB+k)≠F.blk (VB+k')) (hap:∀ x,OB x→¬ WB x):Rep true OB WB F S w:=by
  have hthr:∀ ob:Ob,(∃ a b c d e f,ob=.thr a b c d e f)∨∀ a b c d e f,ob≠.thr a b c d e f:=fun ob=>by
    cases ob with
    | thr a b c d e f=>exact .inl ⟨a,b,c,d,e,f,rfl⟩
    | _=>exact .inr fun _ _ _ _ _ _ z=>by cases z
  refine⟨R.base,fun k ob hk=>?_,fun k k' ob ob' hne hk hk' x hx hx'=>?_,fun k ob hk x hx hW=>?_,R.wlow⟩
  · rcases hthr ob with ⟨a,b,c,d,e,f,rfl⟩|h
    · exact ht _ _ _ _ _ _ _ hk
    · exact obAt_true h (R.at' k ob hk)
  · rcases hthr ob with ⟨a,b,c,d,e,f,rfl⟩|h<;>rcases hthr ob' with ⟨a',b',c',d',e',f',rfl⟩|h'
    · simp only [obBlk,if_true,List.mem_cons,List.not_mem_nil,or_false] at hx hx'
      exact hd _ _ _ _ _ _ _ _ _ _ _ _ _ _ hne hk hk' (hx.symm.trans hx')
    · simp only [obBlk,if_true,List.mem_cons,List.not_mem_nil,or_false] at hx
      exact hv x (hx ▸ hO _ _ _ _ _ _ _ hk) ⟨k',ob',hk',obBlk_true h' hx'⟩
    · simp only [obBlk,if_true,List.mem_cons,List.not_mem_nil,or_false] at hx'
      exact hv x (hx' ▸ hO _ _ _ _ _ _ _ hk') ⟨k,ob,hk,obBlk_true h hx⟩
    · exact R.apart k k' ob ob' hne hk hk' x (obBlk_true h hx) (obBlk_true h' hx')
  · rcases hthr ob with ⟨a,b,c,d,e,f,rfl⟩|h
    · simp only [obBlk,if_true,List.mem_cons,List.not_mem_nil,or_false] at hx
      exact absurd hW (hap x (hx ▸ hO _ _ _ _ _ _ _ hk))
    · exact R.waits k ob hk x (obBlk_true h hx) hW
structure LentM {Γ:Type} (Pr:Proto Γ) (d:BD Γ) (γ:Γ) (hs hs':AHeap) (S0:St):Prop where
  ok:d.Ok
  lend:LendH hs hs'
  inv:RInv (XM hok d.p.OB d.p.WB) d.p.FR (.run [] [] hs S0) d.p.wR
  len:S0.length=d.S.length
  nr:d.p.NR=hs.next
  cr:d.p.CR=S0.length
  px:∀ x,Kept0 d.p.FR hs hs' x→d.p.PX x
  tb:d.tb=d.p.FR.blk (VB+d.k)
  wro:∀ n r,hs.get n=some r→d.p.WB (d.p.FR.blk n)→r.ro=true
  rows:∀ (i:Nat) a b c x e f,(d.S.set d.k (.thr d.self d.quit false true (some (d.hp,d.p.h,d.dn)) none))[i]?=some (Ob.thr a b c x e f)→(∀ c,e=some c→c.1<d.S.length)∧(∀ p,f=some p→p<d.S.length)∧d.wN.heap[d.p.FR.blk (VB+i)]?=some (.cells (thrRow d.p.FR a b c x e f) 103 (0,0))
  dist:∀ k k':Nat,k≠k'→(∃ a b c x e f,(d.S.set d.k (.thr d.self d.quit false true (some (d.hp,d.p.h,d.dn)) none))[k]?=some (Ob.thr a b c x e f))→(∃ a b c x e f,(d.S.set d.k (.thr d.self d.quit false true (some (d.hp,d.p.h,d.dn)) none))[k']?=some (Ob.thr a b c x e f))→d.p.FR.blk (VB+k)≠d.p.FR.blk (VB+k')
  su:d.Su=SuM hok Pr () γ
  ph:∀ i,i≠d.k→Pr.ph d.γ i=Pr.ph γ i
  fuel:Pr.fuel d.γ≤Pr.fuel γ
  base0:∀ n r,hs.get n=some r→r.ro=false→d.p.n0≤d.p.FR.blk n
end
end Go.Proofs.Ytkjnamhgemidkaa
