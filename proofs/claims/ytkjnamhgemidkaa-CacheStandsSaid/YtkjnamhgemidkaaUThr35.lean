/-
  Start: its drawn region with two channels, to the port's row.
  No condition: steps of the program.
-/
import Derived.Test.YtkjnamhgemidkaaUThr26
namespace Go.Proofs.Ytkjnamhgemidkaa
open Go Go.Conc
set_option linter.unusedSimpArgs false
set_option linter.unusedVariables false
open Go.ConcN (sumTo upd sumTo_upd upd_ne upd_same)
def valS (tb:Nat) (me:Int) (quit ask gr wb:Nat):Nat→Value
  | 0|1|2|7|8|13=>pt tb
  | 3=>pt tb 0
  | 4=>.int .i64 me
  | 5=>.chan (some ask)
  | 6=>.chan (some gr)
  | 9=>pt tb 6
  | 10=>.chan (some quit)
  | 11=>.agg #[.int .i64 me,.int .i64 0,.pointer none,.chan (some ask),.chan (some gr),.chan (some quit)]
  | 12=>pt wb
  | 14=>pt tb 1
  | _=>undef
def vS (l:Array Bool) (tb:Nat) (me:Int) (quit ask gr wb:Nat) (j:Nat):Value:=if l.getD j false=true then valS tb me quit ask gr wb j else undef
structure InvA (w0:World) (tb:Nat) (fv:Value) (me:Int) (quit:Nat) (l:Array Bool) (a:Act) (w:World):Prop where
  ex:∃ ask gr,a=⟨startT tb fv (vS l tb me quit ask gr 0),[]⟩∧(l.getD 5 false=true→w0.heap.size≤ask∧w.heap[ask]?=some (.chan 0 #[] false 0 0 false))∧(l.getD 6 false=true→w0.heap.size≤gr∧w.heap[gr]?=some (.chan 0 #[] false 0 0 false))∧(l.getD 5 false=true→l.getD 6 false=true→ask≠gr)
  size:w.heap.size=w0.heap.size+(if l.getD 5 false=true then 1 else 0)+(if l.getD 6 false=true then 1 else 0)
  old:∀ x,x<w0.heap.size→w.heap[x]?=w0.heap[x]?
  no12:l.getD 12 false=false
  no15:l.getD 15 false=false
  d11:l.getD 11 false=true→l.getD 5 false=true∧l.getD 6 false=true
theorem ops3_back:backB startOps3=true:=by kernel_rfl
theorem ops3_size:startOps3.size=16:=by kernel_rfl
theorem startT_put {tb:Nat} {fv x:Value} {v:Nat→Value}:∀ {j:Nat},j<15→(⟨startT tb fv v,[]⟩:Act).put (some (23+j)) x=⟨startT tb fv (fun i=>if i=j then x else v i),[]⟩
  | 0,_|1,_|2,_|3,_|4,_|5,_|6,_|7,_|8,_|9,_|10,_|11,_|12,_|13,_|14,_=>by simp [Act.put,startT]
  | j+15,h=>absurd h (by omega)
theorem getD_other {l:Array Bool} {j i:Nat} (h:i≠j):(l.setIfInBounds j true).getD i false=l.getD i false:=by
  rw [Array.getD_eq_getD_getElem?,Array.getElem?_setIfInBounds_ne (fun z=>h z.symm),Array.getD_eq_getD_getElem?]
theorem vS_set {l:Array Bool} {tb:Nat} {me:Int} {quit ask gr wb j:Nat} (hj:j<l.size):vS (l.setIfInBounds j true) tb me quit ask gr wb=fun i=>if i=j then valS tb me quit ask gr wb j else vS l tb me quit ask gr wb i:=by
  funext i
  unfold vS
  by_cases e:i=j
  · subst e
    rw [if_pos rfl,if_pos]
    rw [Array.getD_eq_getD_getElem?,Array.getElem?_setIfInBounds_self_of_lt hj];rfl
  · rw [getD_other e,if_neg e]
theorem vS_done {l:Array Bool} {tb:Nat} {me:Int} {quit ask gr wb j:Nat} (h:l.getD j false=true):vS l tb me quit ask gr wb j=valS tb me quit ask gr wb j:=if_pos h
section
variable {OB WB:Nat→Prop} {Inb:Nat→Option Seat}
theorem vstep {ops:Array Oper} {b:Frame} {k:List Item} {cs:List Frame} {a a':Act} {w w':World} {i:Nat} {o:Oper} {v:Value} {Q:Act→World→Prop} (ho:ops[i]?=some o) (hg:o.guard=none) (hk:b.kind≠.early) (hr:(execOp a.eval o).run Try.prog w=.ok (.value v) w') (ha:a.put o.dst v=a') (D:DO OB WB Inb 0 w w' (listed Try.prog b.fn a o w)) (hI:Q a' w') :
    ∃ a' w' es,(∀ rest,stepG Try.prog true (Go.Conc.G (b.at a (.inRegion ops (i::rest)::k)) cs) w=.go (Go.Conc.G (b.at a' (.inRegion ops rest::k)) cs) w' es)∧DO OB WB Inb 0 w w' es∧Q a' w':=by
  subst ha
  exact⟨_,_,_,fun rest=>stepG_value ho (by simp [Region.wanted,hg]) hk hr,D,hI⟩
theorem InvA.pure {w0:World} {tb:Nat} {fv:Value} {me:Int} {quit:Nat} {l:Array Bool} {w:World} {ask gr j:Nat} (I:InvA w0 tb fv me quit l ⟨startT tb fv (vS l tb me quit ask gr 0),[]⟩ w) (I5:l.getD 5 false=true→w0.heap.size≤ask∧w.heap[ask]?=some (.chan 0 #[] false 0 0 false)) (I6:l.getD 6 false=true→w0.heap.size≤gr∧w.heap[gr]?=some (.chan 0 #[] false 0 0 false)) (I56:l.getD 5 false=true→l.getD 6 false=true→ask≠gr) (hj:j<15) (h5:j≠5) (h6:j≠6) (h12:j≠12) (hl:l.size=16) (h11:j=11→l.getD 5 false=true∧l.getD 6 false=true) :
    InvA w0 tb fv me quit (l.setIfInBounds j true) ⟨startT tb fv (fun i=>if i=j then valS tb me quit ask gr 0 j else vS l tb me quit ask gr 0 i),[]⟩ w:=by
  refine⟨⟨ask,gr,by rw [vS_set (by omega)],?_,?_,?_⟩,?_,I.old,?_,?_,?_⟩
  · rw [getD_other (by omega)];exact I5
  · rw [getD_other (by omega)];exact I6
  · rw [getD_other (by omega),getD_other (by omega)];exact I56
  · rw [getD_other (by omega),getD_other (by omega)];exact I.size
  · rw [getD_other (by omega)];exact I.no12
  · rw [getD_other (l:=l) (i:=15) (by omega)];exact I.no15
  · rw [getD_other (l:=l) (i:=5) (by omega),getD_other (l:=l) (i:=6) (by omega)]
    by_cases e:j=11
    · exact fun _=>h11 e
    · rw [getD_other (by omega)];exact I.d11
theorem valS_ask {tb:Nat} {me:Int} {quit ask ask' gr wb:Nat}:∀ {i:Nat},i≠5→i≠11→valS tb me quit ask gr wb i=valS tb me quit ask' gr wb i
  | 0,_,_|1,_,_|2,_,_|3,_,_|4,_,_|6,_,_|7,_,_|8,_,_|9,_,_|10,_,_|12,_,_|13,_,_|14,_,_=>rfl
  | 5,h,_=>absurd rfl h
  | 11,_,h=>absurd rfl h
  | i+15,_,_=>rfl
theorem valS_gr {tb:Nat} {me:Int} {quit ask gr gr' wb:Nat}:∀ {i:Nat},i≠6→i≠11→valS tb me quit ask gr wb i=valS tb me quit ask gr' wb i
  | 0,_,_|1,_,_|2,_,_|3,_,_|4,_,_|5,_,_|7,_,_|8,_,_|9,_,_|10,_,_|12,_,_|13,_,_|14,_,_=>rfl
  | 6,h,_=>absurd rfl h
  | 11,_,h=>absurd rfl h
  | i+15,_,_=>rfl
theorem InvA.chan5 {w0:World} {tb:Nat} {fv:Value} {me:Int} {quit:Nat} {l:Array Bool} {w:World} {ask gr:Nat} (I:InvA w0 tb fv me quit l ⟨startT tb fv (vS l tb me quit ask gr 0),[]⟩ w) (I5:l.getD 5 false=true→w0.heap.size≤ask∧w.heap[ask]?=some (.chan 0 #[] false 0 0 false)) (I6:l.getD 6 false=true→w0.heap.size≤gr∧w.heap[gr]?=some (.chan 0 #[] false 0 0 false)) (I56:l.getD 5 false=true→l.getD 6 false=true→ask≠gr) (hu:l.getD 5 true=false) (hl:l.size=16)
    :
    InvA w0 tb fv me quit (l.setIfInBounds 5 true) ⟨startT tb fv (fun i=>if i=5 then .chan (some w.heap.size) else vS l tb me quit ask gr 0 i),[]⟩ (w.alloc (.chan 0 #[] false 0 0 false)):=by
  have hu':l.getD 5 false=false:=by
    rw [Array.getD_eq_getD_getElem?,Array.getElem?_eq_getElem (by omega)] at hu ⊢;exact hu
  have hs:(l.setIfInBounds 5 true).getD 5 false=true:=by
    rw [Array.getD_eq_getD_getElem?,Array.getElem?_setIfInBounds_self_of_lt (by omega)];rfl
  have hno:∀ i,i≠5→vS l tb me quit ask gr 0 i=vS l tb me quit w.heap.size gr 0 i:=fun i hi=>by
    unfold vS
    by_cases h:l.getD i false=true
    · rw [if_pos h,if_pos h]
      refine valS_ask hi fun e=>?_
      subst e
      have:=(I.d11 h).1
      rw [hu'] at this;cases this
    · rw [if_neg h,if_neg h]
  have hsz:=I.size
  simp only [hu',Bool.false_eq_true,if_false,Nat.add_zero] at hsz
  refine⟨⟨w.heap.size,gr,?_,?_,?_,?_⟩,?_,fun x hx=>?_,?_,?_,?_⟩
  · rw [vS_set (by omega)]
    congr 2
    funext i
    by_cases e:i=5
    · subst e;rw [if_pos rfl,if_pos rfl];rfl
    · rw [if_neg e,if_neg e,hno i e]
  · intro _
    exact⟨by omega,alloc_new _ _⟩
  · rw [getD_other (l:=l) (i:=6) (by omega)]
    intro h
    obtain⟨h1,h2⟩:=I6 h
    exact⟨h1,(alloc_at _ _ _ (block_low h2)).trans h2⟩
  · rw [getD_other (l:=l) (i:=6) (by omega)]
    intro _ h
    have:=block_low (I6 h).2
    omega
  · rw [alloc_size,hs,getD_other (l:=l) (i:=6) (by omega),hsz];simp;omega
  · rw [alloc_at _ _ _ (by omega)];exact I.old x hx
  · rw [getD_other (l:=l) (i:=12) (by omega)];exact I.no12
  · rw [getD_other (l:=l) (i:=15) (by omega)];exact I.no15
  · rw [getD_other (l:=l) (i:=11) (by omega)]
    intro h
    have:=(I.d11 h).1
    rw [hu'] at this;cases this
theorem InvA.chan6 {w0:World} {tb:Nat} {fv:Value} {me:Int} {quit:Nat} {l:Array Bool} {w:World} {ask gr:Nat} (I:InvA w0 tb fv me quit l ⟨startT tb fv (vS l tb me quit ask gr 0),[]⟩ w) (I5:l.getD 5 false=true→w0.heap.size≤ask∧w.heap[ask]?=some (.chan 0 #[] false 0 0 false)) (I6:l.getD 6 false=true→w0.heap.size≤gr∧w.heap[gr]?=some (.chan 0 #[] false 0 0 false)) (I56:l.getD 5 false=true→l.getD 6 false=true→ask≠gr) (hu:l.getD 6 true=false) (hl:l.size=16)
    :
    InvA w0 tb fv me quit (l.setIfInBounds 6 true) ⟨startT tb fv (fun i=>if i=6 then .chan (some w.heap.size) else vS l tb me quit ask gr 0 i),[]⟩ (w.alloc (.chan 0 #[] false 0 0 false)):=by
  have hu':l.getD 6 false=false:=by
    rw [Array.getD_eq_getD_getElem?,Array.getElem?_eq_getElem (by omega)] at hu ⊢;exact hu
  have hs:(l.setIfInBounds 6 true).getD 6 false=true:=by
    rw [Array.getD_eq_getD_getElem?,Array.getElem?_setIfInBounds_self_of_lt (by omega)];rfl
  have hno:∀ i,i≠6→vS l tb me quit ask gr 0 i=vS l tb me quit ask w.heap.size 0 i:=fun i hi=>by
    unfold vS
    by_cases h:l.getD i false=true
    · rw [if_pos h,if_pos h]
      refine valS_gr hi fun e=>?_
      subst e
      have:=(I.d11 h).2
      rw [hu'] at this;cases this
    · rw [if_neg h,if_neg h]
  have hsz:=I.size
  simp only [hu',Bool.false_eq_true,if_false,Nat.add_zero] at hsz
  refine⟨⟨ask,w.heap.size,?_,?_,?_,?_⟩,?_,fun x hx=>?_,?_,?_,?_⟩
  · rw [vS_set (by omega)]
    congr 2
    funext i
    by_cases e:i=6
    · subst e;rw [if_pos rfl,if_pos rfl];rfl
    · rw [if_neg e,if_neg e,hno i e]
  · rw [getD_other (l:=l) (i:=5) (by omega)]
    intro h
    obtain⟨h1,h2⟩:=I5 h
    exact⟨h1,(alloc_at _ _ _ (block_low h2)).trans h2⟩
  · intro _
    exact⟨by omega,alloc_new _ _⟩
  · rw [getD_other (l:=l) (i:=5) (by omega)]
    intro h _
    have:=block_low (I5 h).2
    omega
  · rw [alloc_size,hs,getD_other (l:=l) (i:=5) (by omega),hsz];simp
  · rw [alloc_at _ _ _ (by omega)];exact I.old x hx
  · rw [getD_other (l:=l) (i:=12) (by omega)];exact I.no12
  · rw [getD_other (l:=l) (i:=15) (by omega)];exact I.no15
  · rw [getD_other (l:=l) (i:=11) (by omega)]
    intro h
    have:=(I.d11 h).2
    rw [hu'] at this;cases this
set_option maxRecDepth 100000 in
theorem stepA {w0:World} {tb:Nat} {fv:Value} {me:Int} {quit:Nat} (h0:w0.cell? ⟨tb,0,none⟩=some (.int .i64 me)) (h6:w0.cell? ⟨tb,6,none⟩=some (.chan (some quit))) (hW:∀ b,WB b→b<w0.heap.size) (hS:∀ i s c,Inb i=some s→s.has c→c<w0.heap.size) {k:List Item} {cs:List Frame}
    {l:Array Bool} {a:Act} {w:World} {i:Nat} {o:Oper} (hl:l.size=startOps3.size) (ho:startOps3[i]?=some o) (hu:l.getD i true=false) (hd:∀ e∈o.after,Region.binds .any e=true→l.getD e.on false=true) (hz:(i==12)=false) (I:InvA w0 tb fv me quit l a w) :
    ∃ a' w' es,(∀ rest,stepG Try.prog true (Go.Conc.G ((base 17).at a (.inRegion startOps3 (i::rest)::k)) cs) w=.go (Go.Conc.G ((base 17).at a' (.inRegion startOps3 rest::k)) cs) w' es)∧DO OB WB Inb 0 w w' es∧InvA w0 tb fv me quit (l.setIfInBounds i true) a' w':=by
  have hlt:i<16:=by rw [←ops3_size];exact (Array.getElem?_eq_some_iff.1 ho).1
  have hl':l.size=16:=by rw [hl,ops3_size]
  obtain⟨ask,gr,rfl,I5,I6,I56⟩:=I.ex
  have ho':=ho
  simp only [startOps3,startR3,startC,cOps,cL,cR,Try.f17,Option.getD_some] at ho'
  have hcell:∀ (x:Addr) {v:Value},w0.cell? x=some v→w.cell? x=some v:=fun x v h=>by
    obtain⟨_,_,_,hb,_⟩:=cell_block h
    exact (cell_at w0 w x (I.old _ (block_low hb))).trans h
  match i,hlt,ho' with
  | 0,_,ho' =>
    simp only [List.getElem?_toArray,List.getElem?_cons_succ,List.getElem?_cons_zero,Option.some.injEq] at ho'
    subst ho'
    exact vstep ho rfl (by decide) (v:=pt tb) (w':=w) (by simp [go_sem,execOp,Act.eval,startT]) (startT_put (j:=0) (by omega)) (DO.quiet fun e he=>by have hm:=mem_listed he;simp [go_sem,execOp,Act.eval,startT] at hm) (I.pure I5 I6 I56 (by omega) (by omega) (by omega) (by omega) hl' (fun e=>absurd e (by omega)))
  | 1,_,ho' =>
    simp only [List.getElem?_toArray,List.getElem?_cons_succ,List.getElem?_cons_zero,Option.some.injEq] at ho'
    subst ho'
    exact vstep ho rfl (by decide) (v:=pt tb) (w':=w) (by simp [go_sem,execOp,Act.eval,startT]) (startT_put (j:=1) (by omega)) (DO.quiet fun e he=>by have hm:=mem_listed he;simp [go_sem,execOp,Act.eval,startT] at hm) (I.pure I5 I6 I56 (by omega) (by omega) (by omega) (by omega) hl' (fun e=>absurd e (by omega)))
  | 2,_,ho' =>
    simp only [List.getElem?_toArray,List.getElem?_cons_succ,List.getElem?_cons_zero,Option.some.injEq] at ho'
    subst ho'
    have hv1:vS l tb me quit ask gr 0 1=pt tb:=vS_done (hd ⟨1,.data⟩ (by simp) rfl)
    exact vstep ho rfl (by decide) (v:=pt tb) (w':=w) (by simp [go_sem,execOp,Act.eval,startT,hv1]) (startT_put (j:=2) (by omega)) (DO.quiet fun e he=>by have hm:=mem_listed he;simp [go_sem,execOp,Act.eval,startT,hv1] at hm) (I.pure I5 I6 I56 (by omega) (by omega) (by omega) (by omega) hl' (fun e=>absurd e (by omega)))
  | 3,_,ho' =>
    simp only [List.getElem?_toArray,List.getElem?_cons_succ,List.getElem?_cons_zero,Option.some.injEq] at ho'
    subst ho'
    have hv2:vS l tb me quit ask gr 0 2=pt tb:=vS_done (hd ⟨2,.data⟩ (by simp) rfl)
    exact vstep ho rfl (by decide) (v:=pt tb 0) (w':=w) (by simp [go_sem,execOp,Act.eval,startT,hv2]) (startT_put (j:=3) (by omega)) (DO.quiet fun e he=>by have hm:=mem_listed he;simp [go_sem,execOp,Act.eval,startT,hv2] at hm) (I.pure I5 I6 I56 (by omega) (by omega) (by omega) (by omega) hl' (fun e=>absurd e (by omega)))
  | 4,_,ho' =>
    simp only [List.getElem?_toArray,List.getElem?_cons_succ,List.getElem?_cons_zero,Option.some.injEq] at ho'
    subst ho'
    have hv3:vS l tb me quit ask gr 0 3=pt tb 0:=vS_done (hd ⟨3,.data⟩ (by simp) rfl)
    have hF:=hcell _ h0
    exact vstep ho rfl (by decide) (v:=.int .i64 me) (w':=w) (by simp [go_sem,execOp,Act.eval,startT,hv3,hF]) (startT_put (j:=4) (by omega)) (DO.quiet fun e he=>by have hm:=mem_listed he;simp [go_sem,execOp,Act.eval,startT,hv3,hF] at hm;subst hm;exact evO_cell hF) (I.pure I5 I6 I56 (by omega) (by omega) (by omega) (by omega) hl' (fun e=>absurd e (by omega)))
  | 7,_,ho' =>
    simp only [List.getElem?_toArray,List.getElem?_cons_succ,List.getElem?_cons_zero,Option.some.injEq] at ho'
    subst ho'
    exact vstep ho rfl (by decide) (v:=pt tb) (w':=w) (by simp [go_sem,execOp,Act.eval,startT]) (startT_put (j:=7) (by omega)) (DO.quiet fun e he=>by have hm:=mem_listed he;simp [go_sem,execOp,Act.eval,startT] at hm) (I.pure I5 I6 I56 (by omega) (by omega) (by omega) (by omega) hl' (fun e=>absurd e (by omega)))
  | 8,_,ho' =>
    simp only [List.getElem?_toArray,List.getElem?_cons_succ,List.getElem?_cons_zero,Option.some.injEq] at ho'
    subst ho'
    have hv7:vS l tb me quit ask gr 0 7=pt tb:=vS_done (hd ⟨7,.data⟩ (by simp) rfl)
    exact vstep ho rfl (by decide) (v:=pt tb) (w':=w) (by simp [go_sem,execOp,Act.eval,startT,hv7]) (startT_put (j:=8) (by omega)) (DO.quiet fun e he=>by have hm:=mem_listed he;simp [go_sem,execOp,Act.eval,startT,hv7] at hm) (I.pure I5 I6 I56 (by omega) (by omega) (by omega) (by omega) hl' (fun e=>absurd e (by omega)))
  | 9,_,ho' =>
    simp only [List.getElem?_toArray,List.getElem?_cons_succ,List.getElem?_cons_zero,Option.some.injEq] at ho'
    subst ho'
    have hv8:vS l tb me quit ask gr 0 8=pt tb:=vS_done (hd ⟨8,.data⟩ (by simp) rfl)
    exact vstep ho rfl (by decide) (v:=pt tb 6) (w':=w) (by simp [go_sem,execOp,Act.eval,startT,hv8]) (startT_put (j:=9) (by omega)) (DO.quiet fun e he=>by have hm:=mem_listed he;simp [go_sem,execOp,Act.eval,startT,hv8] at hm) (I.pure I5 I6 I56 (by omega) (by omega) (by omega) (by omega) hl' (fun e=>absurd e (by omega)))
  | 10,_,ho' =>
    simp only [List.getElem?_toArray,List.getElem?_cons_succ,List.getElem?_cons_zero,Option.some.injEq] at ho'
    subst ho'
    have hv9:vS l tb me quit ask gr 0 9=pt tb 6:=vS_done (hd ⟨9,.data⟩ (by simp) rfl)
    have hF:=hcell _ h6
    exact vstep ho rfl (by decide) (v:=.chan (some quit)) (w':=w) (by simp [go_sem,execOp,Act.eval,startT,hv9,hF]) (startT_put (j:=10) (by omega)) (DO.quiet fun e he=>by have hm:=mem_listed he;simp [go_sem,execOp,Act.eval,startT,hv9,hF] at hm;subst hm;exact evO_cell hF) (I.pure I5 I6 I56 (by omega) (by omega) (by omega) (by omega) hl' (fun e=>absurd e (by omega)))
  | 11,_,ho' =>
    simp only [List.getElem?_toArray,List.getElem?_cons_succ,List.getElem?_cons_zero,Option.some.injEq] at ho'
    subst ho'
    have hv4:vS l tb me quit ask gr 0 4=.int .i64 me:=vS_done (hd ⟨4,.data⟩ (by simp) rfl)
    have hv5:vS l tb me quit ask gr 0 5=.chan (some ask):=vS_done (hd ⟨5,.data⟩ (by simp) rfl)
    have hv6:vS l tb me quit ask gr 0 6=.chan (some gr):=vS_done (hd ⟨6,.data⟩ (by simp) rfl)
    have hv10:vS l tb me quit ask gr 0 10=.chan (some quit):=vS_done (hd ⟨10,.data⟩ (by simp) rfl)
    exact vstep ho rfl (by decide) (v:=.agg #[.int .i64 me,.int .i64 0,.pointer none,.chan (some ask),.chan (some gr),.chan (some quit)]) (w':=w) (by simp [go_sem,execOp,Act.eval,startT,hv4,hv5,hv6,hv10]) (startT_put (j:=11) (by omega)) (DO.quiet fun e he=>by have hm:=mem_listed he;simp [go_sem,execOp,Act.eval,startT,hv4,hv5,hv6,hv10] at hm) (I.pure I5 I6 I56 (by omega) (by omega) (by omega) (by omega) hl' (fun _=>⟨hd ⟨5,.data⟩ (by simp) rfl,hd ⟨6,.data⟩ (by simp) rfl⟩))
  | 5,_,ho' =>
    simp only [List.getElem?_toArray,List.getElem?_cons_succ,List.getElem?_cons_zero,Option.some.injEq] at ho'
    subst ho'
    have hr:∀ w:World,(Instr.makeChan _ (.int .i64 0)).run Try.prog w=.ok (.chan (some w.heap.size)) (w.alloc (.chan 0 #[] false 0 0 false)):=fun w=>mk_run (n:=0) (t:=104) rfl rfl (by omega) (by decide) w
    exact vstep ho rfl (by decide) (v:=.chan (some w.heap.size)) (w':=w.alloc (.chan 0 #[] false 0 0 false)) (by simp [go_sem,execOp,Act.eval,hr]) (startT_put (j:=5) (by omega)) (DO.alloc0 (fun b hb=>by have:=hW b hb;have:=I.size;omega) (fun i s c hi hc=>by have:=hS i s c hi hc;have:=I.size;omega) (fun e he=>by rw [mk_listed (n:=0) rfl rfl rfl rfl (by omega) (by decide)] at he;simp at he)) (I.chan5 I5 I6 I56 hu hl')
  | 6,_,ho' =>
    simp only [List.getElem?_toArray,List.getElem?_cons_succ,List.getElem?_cons_zero,Option.some.injEq] at ho'
    subst ho'
    have hr:∀ w:World,(Instr.makeChan _ (.int .i64 0)).run Try.prog w=.ok (.chan (some w.heap.size)) (w.alloc (.chan 0 #[] false 0 0 false)):=fun w=>mk_run (n:=0) (t:=105) rfl rfl (by omega) (by decide) w
    exact vstep ho rfl (by decide) (v:=.chan (some w.heap.size)) (w':=w.alloc (.chan 0 #[] false 0 0 false)) (by simp [go_sem,execOp,Act.eval,hr]) (startT_put (j:=6) (by omega)) (DO.alloc0 (fun b hb=>by have:=hW b hb;have:=I.size;omega) (fun i s c hi hc=>by have:=hS i s c hi hc;have:=I.size;omega) (fun e he=>by rw [mk_listed (n:=0) rfl rfl rfl rfl (by omega) (by decide)] at he;simp at he)) (I.chan6 I5 I6 I56 hu hl')
  | 12,_,_=>exact absurd hz (by decide)
  | 13,_,ho' =>
    simp only [List.getElem?_toArray,List.getElem?_cons_succ,List.getElem?_cons_zero,Option.some.injEq] at ho'
    subst ho'
    have:=hd ⟨12,.phase⟩ (by simp) rfl
    rw [I.no12] at this
    cases this
  | 14,_,ho' =>
    simp only [List.getElem?_toArray,List.getElem?_cons_succ,List.getElem?_cons_zero,Option.some.injEq] at ho'
    subst ho'
    have:=hd ⟨12,.phase⟩ (by simp) rfl
    rw [I.no12] at this
    cases this
  | 15,_,ho' =>
    simp only [List.getElem?_toArray,List.getElem?_cons_succ,List.getElem?_cons_zero,Option.some.injEq] at ho'
    subst ho'
    have:=hd ⟨12,.phase⟩ (by simp) rfl
    rw [I.no12] at this
    cases this
end
end Go.Proofs.Ytkjnamhgemidkaa
namespace Go.Proofs.Ytkjnamhgemidkaa
open Go Go.Conc
set_option linter.unusedSimpArgs false
set_option linter.unusedVariables false
open Go.ConcN (sumTo upd sumTo_upd upd_ne upd_same)
set_option maxRecDepth 100000 in
theorem startR3_eq:startR3=.region 3 startOps3 true:=by
  simp only [startOps3,startR3,startC,cOps,cL,cR,Try.f17,Option.getD_some]
theorem InvA.same {w0:World} {tb:Nat} {fv:Value} {me:Int} {quit:Nat} {l:Array Bool} {a:Act} {w w1:World} (I:InvA w0 tb fv me quit l a w) (h:w1.heap=w.heap):InvA w0 tb fv me quit l a w1:=by
  obtain⟨⟨ask,gr,h1,h2,h3,h4⟩,h5,h6,h7,h9,h8⟩:=I
  exact⟨⟨ask,gr,h1,by rw [h];exact h2,by rw [h];exact h3,h4⟩,by rw [h];exact h5,fun x hx=>by rw [h];exact h6 x hx,h7,h9,h8⟩
theorem sched_left (t:Nat):Region.schedule (Try.prog.follows .mixedOrders) startOps3 t=leftD startOps3 startOps3.size t (Array.replicate startOps3.size false):=by
  simp only [Region.schedule,Try.mix,Bool.true_or,if_true];rfl
theorem vS_none (n:Nat) (tb:Nat) (me:Int) (quit ask gr wb:Nat):vS (Array.replicate n false) tb me quit ask gr wb=fun _=>undef:=by
  funext j
  unfold vS
  rw [if_neg]
  rcases Nat.lt_or_ge j n with h|h<;>simp [h]
theorem rep_getD (n i:Nat):(Array.replicate n false).getD i false=false:=by
  rcases Nat.lt_or_ge i n with h|h<;>simp [h]
section
variable {OB WB:Nat→Prop} {Inb:Nat→Option Seat}
def AtBox (w0:World) (tb:Nat) (fv:Value) (me:Int) (quit:Nat) (k:List Item) (cs:List Frame) (g:Goroutine) (w:World):Prop :=
  ∃ (l:Array Bool) (a:Act) (fuel t:Nat),g=Go.Conc.G ((base 17).at a (.inRegion startOps3 (12::leftD startOps3 fuel t (l.setIfInBounds 12 true))::k)) cs∧l.size=16∧InvA w0 tb fv me quit l a w∧l.getD 11 false=true∧undone (l.setIfInBounds 12 true) 16≤fuel
set_option maxRecDepth 100000 in
theorem start_way2 {w0 w:World} {tb:Nat} {fv:Value} {me:Int} {quit:Nat} (h0:w0.cell? ⟨tb,0,none⟩=some (.int .i64 me)) (h6:w0.cell? ⟨tb,6,none⟩=some (.chan (some quit))) (hW:∀ b,WB b→b<w0.heap.size) (hS:∀ i s c,Inb i=some s→s.has c→c<w0.heap.size) (hK:KM w0 w) (k:List Item) (cs:List Frame) :
    Conc.Goes Try.prog true (Ro OB 0) (DO OB WB Inb 0) (AtBox w0 tb fv me quit k cs) 20 (Go.Conc.G ((base 17).at ⟨startT tb fv (fun _=>undef),[]⟩ (.code startR3::k)) cs) w:=by
  rw [startR3_eq]
  refine Conc.Goes.step rfl (fun w₁ h₁=>?_)
  replace hK:=hK.rely h₁;clear h₁
  rw [stepG_region_draw,goes_go,sched_left]
  refine⟨⟨fun _ _ _ _ _=>rfl,fun _ _ _=>rfl,fun _ _ _=>rfl,Nat.le_refl _,rfl,fun e he=>by simp at he⟩,?_⟩
  refine sched_goes (n:=3) (Inv:=InvA w0 tb fv me quit) (Z:=fun i=>i==12) ops3_back (fun l a w w1 I h=>I.same (by rw [h.heap0])) (fun l a w i o fuel t hl ho hu hd hz I hf=>?_) (fun l a w i o hl ho hu hd hz I=>stepA h0 h6 hW hS hl ho hu hd hz I) (fun l a w hl hall I=>?_) 16 _ _ _ _ (by simp) (by rw [ops3_size];exact undone_replicate _ _) ?_
  · obtain rfl:i=12:=by simpa using hz
    have hl':l.size=16:=by rw [hl,ops3_size]
    have h11:l.getD 11 false=true:=by
      have ho':=ho
      simp only [startOps3,startR3,startC,cOps,cL,cR,Try.f17,Option.getD_some] at ho'
      simp only [List.getElem?_toArray,List.getElem?_cons_succ,List.getElem?_cons_zero,Option.some.injEq] at ho'
      subst ho'
      exact hd ⟨11,.data⟩ (by simp) rfl
    exact⟨l,a,fuel,t,rfl,hl',I,h11,by rw [←ops3_size];exact hf⟩
  · have h:=hall 12 (by rw [ops3_size];omega)
    have h2:=I.no12
    rw [ops3_size] at hl
    rw [Array.getD_eq_getD_getElem?,Array.getElem?_eq_getElem (by omega)] at h h2
    have h:l[12]'(by omega)=true:=h
    have h2:l[12]'(by omega)=false:=h2
    rw [h] at h2;cases h2
  · refine⟨⟨0,0,by rw [vS_none],fun h=>?_,fun h=>?_,fun h=>?_⟩,?_,fun x _=>by show w₁.heap[x]?=_;rw [hK.heap],rep_getD _ _,rep_getD _ _,fun h=>?_⟩
    · rw [rep_getD] at h;cases h
    · rw [rep_getD] at h;cases h
    · rw [rep_getD] at h;cases h
    · rw [rep_getD,rep_getD];show w₁.heap.size=_;rw [hK.heap];simp
    · rw [rep_getD] at h;cases h
end
end Go.Proofs.Ytkjnamhgemidkaa
namespace Go.Proofs.Ytkjnamhgemidkaa
open Go Go.Conc
set_option linter.unusedSimpArgs false
set_option linter.unusedVariables false
open Go.ConcN (sumTo upd sumTo_upd upd_ne upd_same)
abbrev wpNew (me:Int) (ask gr quit:Nat):Array Value:=#[.int .i64 me,.int .i64 0,.pointer none,.chan (some ask),.chan (some gr),.chan (some quit)]
structure InvB (w0:World) (tb:Nat) (fv:Value) (me:Int) (quit ask gr:Nat) (l:Array Bool) (a:Act) (w:World):Prop where
  act:a=⟨startT tb fv (vS l tb me quit ask gr (w0.heap.size+2)),[]⟩
  hask:w0.heap.size≤ask∧w.heap[ask]?=some (.chan 0 #[] false 0 0 false)
  hgr:w0.heap.size≤gr∧w.heap[gr]?=some (.chan 0 #[] false 0 0 false)
  hne:ask≠gr
  size:w.heap.size=w0.heap.size+3
  old:∀ x,x<w0.heap.size→x≠tb→w.heap[x]?=w0.heap[x]?
  row:w.heap[w0.heap.size+2]?=some (.cells (wpNew me ask gr quit) 108 (0,0))
  thr:w.heap[tb]?=if l.getD 15 false=true then (w0.setCell ⟨tb,1,none⟩ (pt (w0.heap.size+2))).heap[tb]? else w0.heap[tb]?
  d5:l.getD 5 false=true
  d6:l.getD 6 false=true
  d12:l.getD 12 false=true
theorem valS_wb {tb:Nat} {me:Int} {quit ask gr wb wb':Nat}:∀ {i:Nat},i≠12→valS tb me quit ask gr wb i=valS tb me quit ask gr wb' i
  | 0,_|1,_|2,_|3,_|4,_|5,_|6,_|7,_|8,_|9,_|10,_|11,_|13,_|14,_=>rfl
  | 12,h=>absurd rfl h
  | i+15,_=>rfl
set_option maxRecDepth 100000 in
theorem box_step {w0:World} {tb:Nat} {fv:Value} {me:Int} {quit:Nat} {l:Array Bool} {a:Act} {w:World} {k:List Item} {cs:List Frame} (hl:l.size=16) (I:InvA w0 tb fv me quit l a w) (h11:l.getD 11 false=true) (htb:tb<w0.heap.size) :
    ∃ ask gr,∀ w1:World,w1.heap=w.heap→∃ a',(∀ main rest,stepG Try.prog main (Go.Conc.G ((base 17).at a (.inRegion startOps3 (12::rest)::k)) cs) w1=.go (Go.Conc.G ((base 17).at a' (.inRegion startOps3 rest::k)) cs) (w1.alloc (.cells (wpNew me ask gr quit) 108)) #[]) ∧
      InvB w0 tb fv me quit ask gr (l.setIfInBounds 12 true) a' (w1.alloc (.cells (wpNew me ask gr quit) 108)):=by
  obtain⟨ask,gr,rfl,I5,I6,I56⟩:=I.ex
  obtain⟨d5,d6⟩:=I.d11 h11
  have hsz:w.heap.size=w0.heap.size+2:=by have:=I.size;simp only [d5,d6,if_true] at this;omega
  have hv:vS l tb me quit ask gr 0 11=.agg (wpNew me ask gr quit):=vS_done h11
  have hfun:(fun i=>if i=12 then pt (w0.heap.size+2) else vS l tb me quit ask gr 0 i)=vS (l.setIfInBounds 12 true) tb me quit ask gr (w0.heap.size+2):=by
    rw [vS_set (by omega)]
    funext i
    by_cases e:i=12
    · rw [if_pos e,if_pos e];rfl
    · rw [if_neg e,if_neg e]
      unfold vS
      rw [valS_wb e]
  obtain⟨o,ho⟩:∃ o,startOps3[12]?=some o:=⟨_,Array.getElem?_eq_getElem (by rw [ops3_size];omega)⟩
  refine⟨ask,gr,fun w1 hw1=>⟨⟨startT tb fv (vS (l.setIfInBounds 12 true) tb me quit ask gr (w0.heap.size+2)),[]⟩,fun main rest=>?_,?_⟩⟩
  · have ho':=ho
    simp only [startOps3,startR3,startC,cOps,cL,cR,Try.f17,Option.getD_some] at ho'
    simp only [List.getElem?_toArray,List.getElem?_cons_succ,List.getElem?_cons_zero,Option.some.injEq] at ho'
    subst ho'
    have hs1:w1.heap.size=w0.heap.size+2:=by rw [hw1,hsz]
    rw [stepG_value ho (v:=pt (w0.heap.size+2)) (w':=w1.alloc (.cells (wpNew me ask gr quit) 108)) (by simp [Region.wanted]) (by decide) (by simp [go_sem,execOp,Act.eval,startT,hv,hs1]),listed_none (by simp [go_sem,execOp,Act.eval,startT,hv])]
    rw [show (some 35:Option Tmp)=some (23+12) from rfl,startT_put (j:=12) (by omega),hfun]
  · refine⟨rfl,⟨(I5 d5).1,(alloc_at _ _ _ ?_).trans ?_⟩,⟨(I6 d6).1,(alloc_at _ _ _ ?_).trans ?_⟩,I56 d5 d6,?_,fun x hx _=>?_,?_,?_,?_,?_,?_⟩
    · rw [hw1];exact block_low (I5 d5).2
    · rw [hw1];exact (I5 d5).2
    · rw [hw1];exact block_low (I6 d6).2
    · rw [hw1];exact (I6 d6).2
    · rw [alloc_size,hw1];omega
    · rw [alloc_at _ _ _ (by rw [hw1];omega),hw1];exact I.old x hx
    · rw [show w0.heap.size+2=w1.heap.size by rw [hw1];omega];exact alloc_new _ _
    · rw [getD_other (by omega),I.no15,if_neg (by simp),alloc_at _ _ _ (by rw [hw1];omega),hw1];exact I.old tb htb
    · rw [getD_other (by omega)];exact d5
    · rw [getD_other (by omega)];exact d6
    · rw [Array.getD_eq_getD_getElem?,Array.getElem?_setIfInBounds_self_of_lt (by omega)];rfl
theorem InvB.pure {w0:World} {tb:Nat} {fv:Value} {me:Int} {quit ask gr:Nat} {l:Array Bool} {w:World} {j:Nat} (I:InvB w0 tb fv me quit ask gr l ⟨startT tb fv (vS l tb me quit ask gr (w0.heap.size+2)),[]⟩ w) (hj:j<15) (hl:l.size=16) (h5:j≠5) (h6:j≠6) (h12:j≠12) :
    InvB w0 tb fv me quit ask gr (l.setIfInBounds j true) ⟨startT tb fv (fun i=>if i=j then valS tb me quit ask gr (w0.heap.size+2) j else vS l tb me quit ask gr (w0.heap.size+2) i),[]⟩ w :=
  ⟨by rw [vS_set (by omega)],I.hask,I.hgr,I.hne,I.size,I.old,I.row,by rw [getD_other (by omega)];exact I.thr,by rw [getD_other (by omega)];exact I.d5,by rw [getD_other (by omega)];exact I.d6,by rw [getD_other (by omega)];exact I.d12⟩
section
variable {OB WB:Nat→Prop} {Inb:Nat→Option Seat}
set_option maxRecDepth 100000 in
theorem stepB {w0:World} {tb:Nat} {fv:Value} {me:Int} {quit ask gr:Nat} (h0:w0.cell? ⟨tb,0,none⟩=some (.int .i64 me)) (h6:w0.cell? ⟨tb,6,none⟩=some (.chan (some quit))) (hW:∀ b,WB b→b<w0.heap.size+3) (hS:∀ i s c,Inb i=some s→s.has c→c<w0.heap.size) (ht:(∀ i s,Inb i=some s→¬ s.has tb)∧¬ WB tb) {z1:Value} (h1:w0.cell? ⟨tb,1,none⟩=some z1) (hz1:w0.frozen? ⟨tb,1,none⟩=false) {k:List Item} {cs:List Frame}
    {l:Array Bool} {a:Act} {w:World} {i:Nat} {o:Oper} (hl:l.size=startOps3.size) (ho:startOps3[i]?=some o) (hu:l.getD i true=false) (hd:∀ e∈o.after,Region.binds .any e=true→l.getD e.on false=true) (I:InvB w0 tb fv me quit ask gr l a w) :
    ∃ a' w' es,(∀ rest,stepG Try.prog true (Go.Conc.G ((base 17).at a (.inRegion startOps3 (i::rest)::k)) cs) w=.go (Go.Conc.G ((base 17).at a' (.inRegion startOps3 rest::k)) cs) w' es)∧DO OB WB Inb 0 w w' es∧InvB w0 tb fv me quit ask gr (l.setIfInBounds i true) a' w':=by
  have hlt:i<16:=by rw [←ops3_size];exact (Array.getElem?_eq_some_iff.1 ho).1
  have hl':l.size=16:=by rw [hl,ops3_size]
  obtain rfl:=I.act
  have ho':=ho
  simp only [startOps3,startR3,startC,cOps,cL,cR,Try.f17,Option.getD_some] at ho'
  have hcell:∀ (o:Nat) {v:Value},1≠o→w0.cell? ⟨tb,o,none⟩=some v→w.cell? ⟨tb,o,none⟩=some v:=fun o v h1 h=>by
    have ht:=I.thr
    split at ht
    · rw [cell_at (w0.setCell ⟨tb,1,none⟩ (pt (w0.heap.size+2))) w _ ht,cell_setCell_off _ _ _ _ _ h1];exact h
    · exact (cell_at w0 w _ ht).trans h
  match i,hlt,ho' with
  | 0,_,ho' =>
    simp only [List.getElem?_toArray,List.getElem?_cons_succ,List.getElem?_cons_zero,Option.some.injEq] at ho'
    subst ho'
    exact vstep ho rfl (by decide) (v:=pt tb) (w':=w) (by simp [go_sem,execOp,Act.eval,startT]) (startT_put (j:=0) (by omega)) (DO.quiet fun e he=>by have hm:=mem_listed he;simp [go_sem,execOp,Act.eval,startT] at hm) (I.pure (by omega) hl' (by omega) (by omega) (by omega))
  | 1,_,ho' =>
    simp only [List.getElem?_toArray,List.getElem?_cons_succ,List.getElem?_cons_zero,Option.some.injEq] at ho'
    subst ho'
    exact vstep ho rfl (by decide) (v:=pt tb) (w':=w) (by simp [go_sem,execOp,Act.eval,startT]) (startT_put (j:=1) (by omega)) (DO.quiet fun e he=>by have hm:=mem_listed he;simp [go_sem,execOp,Act.eval,startT] at hm) (I.pure (by omega) hl' (by omega) (by omega) (by omega))
  | 2,_,ho' =>
    simp only [List.getElem?_toArray,List.getElem?_cons_succ,List.getElem?_cons_zero,Option.some.injEq] at ho'
    subst ho'
    have hv1:vS l tb me quit ask gr (w0.heap.size+2) 1=pt tb:=vS_done (hd ⟨1,.data⟩ (by simp) rfl)
    exact vstep ho rfl (by decide) (v:=pt tb) (w':=w) (by simp [go_sem,execOp,Act.eval,startT,hv1]) (startT_put (j:=2) (by omega)) (DO.quiet fun e he=>by have hm:=mem_listed he;simp [go_sem,execOp,Act.eval,startT,hv1] at hm) (I.pure (by omega) hl' (by omega) (by omega) (by omega))
  | 3,_,ho' =>
    simp only [List.getElem?_toArray,List.getElem?_cons_succ,List.getElem?_cons_zero,Option.some.injEq] at ho'
    subst ho'
    have hv2:vS l tb me quit ask gr (w0.heap.size+2) 2=pt tb:=vS_done (hd ⟨2,.data⟩ (by simp) rfl)
    exact vstep ho rfl (by decide) (v:=pt tb 0) (w':=w) (by simp [go_sem,execOp,Act.eval,startT,hv2]) (startT_put (j:=3) (by omega)) (DO.quiet fun e he=>by have hm:=mem_listed he;simp [go_sem,execOp,Act.eval,startT,hv2] at hm) (I.pure (by omega) hl' (by omega) (by omega) (by omega))
  | 4,_,ho' =>
    simp only [List.getElem?_toArray,List.getElem?_cons_succ,List.getElem?_cons_zero,Option.some.injEq] at ho'
    subst ho'
    have hv3:vS l tb me quit ask gr (w0.heap.size+2) 3=pt tb 0:=vS_done (hd ⟨3,.data⟩ (by simp) rfl)
    have hF:=hcell 0 (by omega) h0
    exact vstep ho rfl (by decide) (v:=.int .i64 me) (w':=w) (by simp [go_sem,execOp,Act.eval,startT,hv3,hF]) (startT_put (j:=4) (by omega)) (DO.quiet fun e he=>by have hm:=mem_listed he;simp [go_sem,execOp,Act.eval,startT,hv3,hF] at hm;subst hm;exact evO_cell hF) (I.pure (by omega) hl' (by omega) (by omega) (by omega))
  | 7,_,ho' =>
    simp only [List.getElem?_toArray,List.getElem?_cons_succ,List.getElem?_cons_zero,Option.some.injEq] at ho'
    subst ho'
    exact vstep ho rfl (by decide) (v:=pt tb) (w':=w) (by simp [go_sem,execOp,Act.eval,startT]) (startT_put (j:=7) (by omega)) (DO.quiet fun e he=>by have hm:=mem_listed he;simp [go_sem,execOp,Act.eval,startT] at hm) (I.pure (by omega) hl' (by omega) (by omega) (by omega))
  | 8,_,ho' =>
    simp only [List.getElem?_toArray,List.getElem?_cons_succ,List.getElem?_cons_zero,Option.some.injEq] at ho'
    subst ho'
    have hv7:vS l tb me quit ask gr (w0.heap.size+2) 7=pt tb:=vS_done (hd ⟨7,.data⟩ (by simp) rfl)
    exact vstep ho rfl (by decide) (v:=pt tb) (w':=w) (by simp [go_sem,execOp,Act.eval,startT,hv7]) (startT_put (j:=8) (by omega)) (DO.quiet fun e he=>by have hm:=mem_listed he;simp [go_sem,execOp,Act.eval,startT,hv7] at hm) (I.pure (by omega) hl' (by omega) (by omega) (by omega))
  | 9,_,ho' =>
    simp only [List.getElem?_toArray,List.getElem?_cons_succ,List.getElem?_cons_zero,Option.some.injEq] at ho'
    subst ho'
    have hv8:vS l tb me quit ask gr (w0.heap.size+2) 8=pt tb:=vS_done (hd ⟨8,.data⟩ (by simp) rfl)
    exact vstep ho rfl (by decide) (v:=pt tb 6) (w':=w) (by simp [go_sem,execOp,Act.eval,startT,hv8]) (startT_put (j:=9) (by omega)) (DO.quiet fun e he=>by have hm:=mem_listed he;simp [go_sem,execOp,Act.eval,startT,hv8] at hm) (I.pure (by omega) hl' (by omega) (by omega) (by omega))
  | 10,_,ho' =>
    simp only [List.getElem?_toArray,List.getElem?_cons_succ,List.getElem?_cons_zero,Option.some.injEq] at ho'
    subst ho'
    have hv9:vS l tb me quit ask gr (w0.heap.size+2) 9=pt tb 6:=vS_done (hd ⟨9,.data⟩ (by simp) rfl)
    have hF:=hcell 6 (by omega) h6
    exact vstep ho rfl (by decide) (v:=.chan (some quit)) (w':=w) (by simp [go_sem,execOp,Act.eval,startT,hv9,hF]) (startT_put (j:=10) (by omega)) (DO.quiet fun e he=>by have hm:=mem_listed he;simp [go_sem,execOp,Act.eval,startT,hv9,hF] at hm;subst hm;exact evO_cell hF) (I.pure (by omega) hl' (by omega) (by omega) (by omega))
  | 11,_,ho' =>
    simp only [List.getElem?_toArray,List.getElem?_cons_succ,List.getElem?_cons_zero,Option.some.injEq] at ho'
    subst ho'
    have hv4:vS l tb me quit ask gr (w0.heap.size+2) 4=.int .i64 me:=vS_done (hd ⟨4,.data⟩ (by simp) rfl)
    have hv5:vS l tb me quit ask gr (w0.heap.size+2) 5=.chan (some ask):=vS_done (hd ⟨5,.data⟩ (by simp) rfl)
    have hv6:vS l tb me quit ask gr (w0.heap.size+2) 6=.chan (some gr):=vS_done (hd ⟨6,.data⟩ (by simp) rfl)
    have hv10:vS l tb me quit ask gr (w0.heap.size+2) 10=.chan (some quit):=vS_done (hd ⟨10,.data⟩ (by simp) rfl)
    exact vstep ho rfl (by decide) (v:=.agg #[.int .i64 me,.int .i64 0,.pointer none,.chan (some ask),.chan (some gr),.chan (some quit)]) (w':=w) (by simp [go_sem,execOp,Act.eval,startT,hv4,hv5,hv6,hv10]) (startT_put (j:=11) (by omega)) (DO.quiet fun e he=>by have hm:=mem_listed he;simp [go_sem,execOp,Act.eval,startT,hv4,hv5,hv6,hv10] at hm) (I.pure (by omega) hl' (by omega) (by omega) (by omega))
  | 5,_,_=>rw [Array.getD_eq_getD_getElem?,Array.getElem?_eq_getElem (by omega)] at hu;have:=I.d5;rw [Array.getD_eq_getD_getElem?,Array.getElem?_eq_getElem (by omega)] at this;exact absurd (hu.symm.trans this) (by decide)
  | 6,_,_=>rw [Array.getD_eq_getD_getElem?,Array.getElem?_eq_getElem (by omega)] at hu;have:=I.d6;rw [Array.getD_eq_getD_getElem?,Array.getElem?_eq_getElem (by omega)] at this;exact absurd (hu.symm.trans this) (by decide)
  | 12,_,_=>rw [Array.getD_eq_getD_getElem?,Array.getElem?_eq_getElem (by omega)] at hu;have:=I.d12;rw [Array.getD_eq_getD_getElem?,Array.getElem?_eq_getElem (by omega)] at this;exact absurd (hu.symm.trans this) (by decide)
  | 13,_,ho' =>
    simp only [List.getElem?_toArray,List.getElem?_cons_succ,List.getElem?_cons_zero,Option.some.injEq] at ho'
    subst ho'
    have hv0:vS l tb me quit ask gr (w0.heap.size+2) 0=pt tb:=vS_done (hd ⟨0,.data⟩ (by simp) rfl)
    exact vstep ho rfl (by decide) (v:=pt tb) (w':=w) (by simp [go_sem,execOp,Act.eval,startT,hv0]) (startT_put (j:=13) (by omega)) (DO.quiet fun e he=>by have hm:=mem_listed he;simp [go_sem,execOp,Act.eval,startT,hv0] at hm) (I.pure (by omega) hl' (by omega) (by omega) (by omega))
  | 14,_,ho' =>
    simp only [List.getElem?_toArray,List.getElem?_cons_succ,List.getElem?_cons_zero,Option.some.injEq] at ho'
    subst ho'
    have hv13:vS l tb me quit ask gr (w0.heap.size+2) 13=pt tb:=vS_done (hd ⟨13,.data⟩ (by simp) rfl)
    exact vstep ho rfl (by decide) (v:=pt tb 1) (w':=w) (by simp [go_sem,execOp,Act.eval,startT,hv13]) (startT_put (j:=14) (by omega)) (DO.quiet fun e he=>by have hm:=mem_listed he;simp [go_sem,execOp,Act.eval,startT,hv13] at hm) (I.pure (by omega) hl' (by omega) (by omega) (by omega))
  | 15,_,ho' =>
    simp only [List.getElem?_toArray,List.getElem?_cons_succ,List.getElem?_cons_zero,Option.some.injEq] at ho'
    subst ho'
    have hv12:vS l tb me quit ask gr (w0.heap.size+2) 12=pt (w0.heap.size+2):=vS_done I.d12
    have hv14:vS l tb me quit ask gr (w0.heap.size+2) 14=pt tb 1:=vS_done (hd ⟨14,.data⟩ (by simp) rfl)
    have h15:l.getD 15 false=false:=by
      rw [Array.getD_eq_getD_getElem?,Array.getElem?_eq_getElem (by omega)] at hu ⊢;exact hu
    have hth:=I.thr
    rw [h15,if_neg (by simp)] at hth
    have hF:w.cell? ⟨tb,1,none⟩=some z1:=(cell_at w0 w _ hth).trans h1
    have hz:w.frozen? ⟨tb,1,none⟩=false:=(frozen_at w0 w _ hth).trans hz1
    have htl:tb<w0.heap.size:=by obtain⟨_,_,_,hb,_⟩:=cell_block h1;exact block_low hb
    refine⟨_,w.setCell ⟨tb,1,none⟩ (pt (w0.heap.size+2)),_,fun rest=>stepG_none ho (by simp [Region.wanted]) (by decide) (by simp [go_sem,execOp,Act.eval,startT,hv12,hv14,hF,hz]),⟨fun i s c hi hc=>?_,fun b hb h3=>?_,fun h=>absurd rfl h,by rw [setCell_size];exact Nat.le_refl _,rfl,fun e he=>?_⟩,?_⟩
    · rw [heap_setCell,if_neg (fun (e:tb=c)=>ht.1 i s hi (e ▸ hc))]
    · exact cell_at _ _ _ (by rw [heap_setCell,if_neg (fun (e:tb=b.block)=>ht.2 (e ▸ hb))])
    · have hm:=mem_listed he
      simp [go_sem,execOp,Act.eval,startT,hv12,hv14,events_store_ptr,storedEv,hF,hz] at hm
      subst hm
      exact evO_wr ht.2 (by obtain⟨_,_,_,hb,_⟩:=cell_block hF;exact block_low hb)
    · have hne:∀ x,x≠tb→(w.setCell ⟨tb,1,none⟩ (pt (w0.heap.size+2))).heap[x]?=w.heap[x]?:=fun x hx=>by rw [heap_setCell,if_neg (fun (e:tb=x)=>hx e.symm)]
      have hs15:(l.setIfInBounds 15 true).getD 15 false=true:=by
        rw [Array.getD_eq_getD_getElem?,Array.getElem?_setIfInBounds_self_of_lt (by omega)];rfl
      refine⟨by rw [vS_set (by omega)];simp [startT,Act.put],⟨I.hask.1,(hne _ (by have:=I.hask.1;omega)).trans I.hask.2⟩,⟨I.hgr.1,(hne _ (by have:=I.hgr.1;omega)).trans I.hgr.2⟩,I.hne,by rw [setCell_size];exact I.size,fun x hx hx2=>(hne x hx2).trans (I.old x hx hx2),(hne _ (by omega)).trans I.row,?_,?_,?_,?_⟩
      · rw [hs15,if_pos rfl,heap_setCell,heap_setCell,if_pos rfl,if_pos rfl,hth]
      · rw [getD_other (by omega)];exact I.d5
      · rw [getD_other (by omega)];exact I.d6
      · rw [getD_other (by omega)];exact I.d12
end
theorem InvB.same {w0:World} {tb:Nat} {fv:Value} {me:Int} {quit ask gr:Nat} {l:Array Bool} {a:Act} {w w1:World} (I:InvB w0 tb fv me quit ask gr l a w) (h:w1.heap=w.heap):InvB w0 tb fv me quit ask gr l a w1 :=
  ⟨I.act,by rw [h];exact I.hask,by rw [h];exact I.hgr,I.hne,by rw [h];exact I.size,fun x h1 h2=>by rw [h];exact I.old x h1 h2,by rw [h];exact I.row,by rw [h];exact I.thr,I.d5,I.d6,I.d12⟩
section
variable {OB WB:Nat→Prop} {Inb:Nat→Option Seat}
theorem start_way3 {w0 w:World} {tb:Nat} {fv:Value} {me:Int} {quit ask gr:Nat} (h0:w0.cell? ⟨tb,0,none⟩=some (.int .i64 me)) (h6:w0.cell? ⟨tb,6,none⟩=some (.chan (some quit))) (hW:∀ b,WB b→b<w0.heap.size+3) (hS:∀ i s c,Inb i=some s→s.has c→c<w0.heap.size) (ht:(∀ i s,Inb i=some s→¬ s.has tb)∧¬ WB tb) {z1:Value} (h1:w0.cell? ⟨tb,1,none⟩=some z1) (hz1:w0.frozen? ⟨tb,1,none⟩=false)
    {l:Array Bool} {a:Act} (hl:l.size=16) (I:InvB w0 tb fv me quit ask gr l a w) {fuel t:Nat} (hf:undone l 16≤fuel) (k:List Item) (cs:List Frame) :
    Conc.Goes Try.prog true (Ro OB 0) (DO OB WB Inb 0) (fun g w'=>∃ l a,g=Go.Conc.G ((base 17).at a (.inRegion startOps3 []::k)) cs∧InvB w0 tb fv me quit ask gr l a w'∧∀ i,i<16→l.getD i false=true) (0+fuel) (Go.Conc.G ((base 17).at a (.inRegion startOps3 (leftD startOps3 fuel t l)::k)) cs) w:=by
  refine sched_goes (n:=0) (Inv:=InvB w0 tb fv me quit ask gr) (Z:=fun _=>false) ops3_back (fun l a w w1 I h=>I.same (by rw [h.heap0])) (fun l a w i o fuel t hl ho hu hd hz I hf=>by cases hz) (fun l a w i o hl ho hu hd hz I=>stepB h0 h6 hW hS ht h1 hz1 hl ho hu hd I) (fun l a w hl hall I w1 hw1=>?_) fuel t l a w (by rw [ops3_size];exact hl) (by rw [ops3_size];exact hf) I
  refine⟨l,a,rfl,I.same (by rw [hw1.heap0]),fun i hi=>?_⟩
  have h:=hall i (by rw [ops3_size];exact hi)
  rw [ops3_size] at hl
  rw [Array.getD_eq_getD_getElem?,Array.getElem?_eq_getElem (by omega)] at h ⊢
  exact h
end
theorem events_store_chan (P:Program) (w:World) (es:Array Event) (a:Addr) (m:Mode) (x:Option Nat):(store a (.chan x) m).events P w es=storedEv P w es a (.chan x) m:=events_store P w es a _ m rfl
noncomputable def startR6:Code:=cL (cR (cR startR4))
noncomputable def startR7:Code:=cR (cR (cR startR4))
abbrev startT6 (tb:Nat) (fv:Value) (dn:Nat) (v u:Nat→Value):Array Value:=#[pt tb,fv,undef,undef,.bool false,pt tb,.bool false,.bool false,pt tb,pt tb,pt tb 5,.bool false,.bool false,.bool false,pt tb,pt tb,pt tb 4,.bool false,.bool false,.bool false,fv,.bool false,.bool false,v 0,v 1,v 2,v 3,v 4,v 5,v 6,v 7,v 8,v 9,v 10,v 11,v 12,v 13,v 14,pt tb,.chan (some dn),pt tb,pt tb 2,pt tb,pt tb,pt tb 4,u 0,u 1,u 2,u 3,u 4,u 5,u 6,u 7,u 8,undef,undef]
section
variable {OB WB:Nat→Prop} {Inb:Nat→Option Seat}
set_option maxRecDepth 100000 in
theorem start_way4 {n0:Nat} {w0 w:World} {tb:Nat} {fv:Value} {v:Nat→Value} (hK:KA OB WB Inb n0 w0 w) (ht:(∀ i s,Inb i=some s→¬ s.has tb)∧¬ WB tb) {z2 z4:Value} (h2:w0.cell? ⟨tb,2,none⟩=some z2) (h4:w0.cell? ⟨tb,4,none⟩=some z4) (hz:∀ o,w0.frozen? ⟨tb,o,none⟩=false) (cs:List Frame) :
    Conc.Goes Try.prog true (Ro OB 0) (DO OB WB Inb 0) (fun g w'=>g=Go.Conc.G ((base 17).at ⟨startT6 tb fv w0.heap.size v (fun _=>undef),[]⟩ [.code startR6,.code startR7]) cs∧KA OB WB Inb n0 (((w0.alloc (.chan 1 #[] false 0 0 false)).setCell ⟨tb,2,none⟩ (.chan (some w0.heap.size))).setCell ⟨tb,4,none⟩ (.bool true)) w') 60 (Go.Conc.G ((base 17).at ⟨startT tb fv v,[]⟩ [.inRegion startOps3 [],.code startR4]) cs) w:=by
  simp only [startR4,startC,cOps,cL,cR,Try.f17,Option.getD_some]
  (refine Conc.Goes.step rfl (fun w₁ h₁=>?_);replace hK:=hK.rely h₁;clear h₁;rw [stepG_region_end];simp only [goes_go];refine⟨DO.none _,?_⟩)
  (refine Conc.Goes.step rfl (fun w₁ h₁=>?_);replace hK:=hK.rely h₁;clear h₁;rw [stepG_seq];simp only [goes_go];refine⟨DO.none _,?_⟩)
  (refine Conc.Goes.step rfl (fun w₁ h₁=>?_);replace hK:=hK.rely h₁;clear h₁;rw [stepG_region];simp only [goes_go,List.size_toArray,List.length_cons,List.length_nil,Nat.reduceAdd,Nat.zero_add,List.range,List.range.loop];refine⟨DO.none _,?_⟩)
  (refine Conc.Goes.step rfl (fun w₁ h₁=>?_);replace hK:=hK.rely h₁;clear h₁;refine goes_oper_k rfl rfl (by decide) (fun K hK'=>?_);go_simp;refine hK' _ _ ⟨DO.quiet (fun e he=>(by have hm:=mem_listed he;simp [go_sem,Instr.makeInterface,Instr.makeFunc] at hm)),?_⟩;clear hK' K)
  have htl:tb<w0.heap.size:=by obtain⟨_,_,_,hb,_⟩:=cell_block h2;exact block_low hb
  refine Conc.Goes.step rfl (fun w₁ h₁=>?_)
  replace hK:=hK.rely h₁;clear h₁
  refine goes_oper_k rfl rfl (by decide) (fun K hK'=>?_)
  go_simp
  rw [show (Value.int IntKind.i64 1)=.int .i64 ((1:Nat):Int) from rfl,mk_run rfl rfl (by omega) (by decide)]
  refine hK' _ _ ⟨DO.alloc (fun b hb=>by have:=hK.low b hb;have:=hK.size;rw [hK.heap];omega) (fun e he=>(by rw [mk_listed (n:=1) rfl rfl rfl rfl (by omega) (by decide)] at he;simp at he)),?_⟩
  clear hK' K
  rw [show w₁.heap.size=w0.heap.size by rw [hK.heap]]
  replace hK:=hK.alloc (o:=.chan 1 #[] false 0 0 false)
  have h2':(w0.alloc (.chan 1 #[] false 0 0 false)).cell? ⟨tb,2,none⟩=some z2:=(cell_at _ _ _ (alloc_at _ _ _ htl)).trans h2
  have h4':(w0.alloc (.chan 1 #[] false 0 0 false)).cell? ⟨tb,4,none⟩=some z4:=(cell_at _ _ _ (alloc_at _ _ _ htl)).trans h4
  have hz':∀ o,(w0.alloc (.chan 1 #[] false 0 0 false)).frozen? ⟨tb,o,none⟩=false:=fun o=>(frozen_at _ _ _ (alloc_at _ _ _ htl)).trans (hz o)
  (refine Conc.Goes.step rfl (fun w₁ h₁=>?_);replace hK:=hK.rely h₁;clear h₁;refine goes_oper_k rfl rfl (by decide) (fun K hK'=>?_);go_simp;refine hK' _ _ ⟨DO.quiet (fun e he=>(by have hm:=mem_listed he;simp [go_sem,Instr.makeInterface,Instr.makeFunc] at hm)),?_⟩;clear hK' K)
  (refine Conc.Goes.step rfl (fun w₁ h₁=>?_);replace hK:=hK.rely h₁;clear h₁;refine goes_oper_k rfl rfl (by decide) (fun K hK'=>?_);go_simp;refine hK' _ _ ⟨DO.quiet (fun e he=>(by have hm:=mem_listed he;simp [go_sem,Instr.makeInterface,Instr.makeFunc] at hm)),?_⟩;clear hK' K)
  refine Conc.Goes.step rfl (fun w₁ h₁=>?_)
  replace hK:=hK.rely h₁;clear h₁
  have hc3:=hK.cell h2'
  have hz3:w₁.frozen? ⟨tb,2,none⟩=false:=(frozen_at _ _ _ (by rw [hK.heap])).trans (hz' 2)
  refine goes_oper_k rfl rfl (by decide) (fun K hK'=>?_)
  go_simp
  refine hK' _ _ ⟨hK.set_do (.inr ht) (fun e he=>(by have hm:=mem_listed he;simp [go_sem,events_store_chan,storedEv,hc3,hz3] at hm;subst hm;exact evO_wr ht.2 (by obtain⟨_,_,_,hb,_⟩:=cell_block hc3;exact block_low hb))),?_⟩
  clear hK' K hc3 hz3
  replace hK:=hK.set (a:=⟨tb,2,none⟩) (v:=.chan (some w0.heap.size))
  have h4'':((w0.alloc (.chan 1 #[] false 0 0 false)).setCell ⟨tb,2,none⟩ (.chan (some w0.heap.size))).cell? ⟨tb,4,none⟩=some z4:=by rw [cell_setCell_off _ _ _ _ _ (by decide)];exact h4'
  have hz'':((w0.alloc (.chan 1 #[] false 0 0 false)).setCell ⟨tb,2,none⟩ (.chan (some w0.heap.size))).frozen? ⟨tb,4,none⟩=false:=by
    obtain⟨c,el,fr,hb,_⟩:=cell_block h2'
    have h:=hz' 4
    unfold World.frozen? at h ⊢
    rw [heap_setCell,if_pos rfl]
    simp only [hb,Option.map_some] at h ⊢
    exact h
  (refine Conc.Goes.step rfl (fun w₁ h₁=>?_);replace hK:=hK.rely h₁;clear h₁;rw [stepG_region_end];simp only [goes_go];refine⟨DO.none _,?_⟩)
  (refine Conc.Goes.step rfl (fun w₁ h₁=>?_);replace hK:=hK.rely h₁;clear h₁;rw [stepG_seq];simp only [goes_go];refine⟨DO.none _,?_⟩)
  (refine Conc.Goes.step rfl (fun w₁ h₁=>?_);replace hK:=hK.rely h₁;clear h₁;rw [stepG_region];simp only [goes_go,List.size_toArray,List.length_cons,List.length_nil,Nat.reduceAdd,Nat.zero_add,List.range,List.range.loop];refine⟨DO.none _,?_⟩)
  (refine Conc.Goes.step rfl (fun w₁ h₁=>?_);replace hK:=hK.rely h₁;clear h₁;refine goes_oper_k rfl rfl (by decide) (fun K hK'=>?_);go_simp;refine hK' _ _ ⟨DO.quiet (fun e he=>(by have hm:=mem_listed he;simp [go_sem,Instr.makeInterface,Instr.makeFunc] at hm)),?_⟩;clear hK' K)
  (refine Conc.Goes.step rfl (fun w₁ h₁=>?_);replace hK:=hK.rely h₁;clear h₁;refine goes_oper_k rfl rfl (by decide) (fun K hK'=>?_);go_simp;refine hK' _ _ ⟨DO.quiet (fun e he=>(by have hm:=mem_listed he;simp [go_sem,Instr.makeInterface,Instr.makeFunc] at hm)),?_⟩;clear hK' K)
  (refine Conc.Goes.step rfl (fun w₁ h₁=>?_);replace hK:=hK.rely h₁;clear h₁;refine goes_oper_k rfl rfl (by decide) (fun K hK'=>?_);go_simp;refine hK' _ _ ⟨DO.quiet (fun e he=>(by have hm:=mem_listed he;simp [go_sem,Instr.makeInterface,Instr.makeFunc] at hm)),?_⟩;clear hK' K)
  refine Conc.Goes.step rfl (fun w₁ h₁=>?_)
  replace hK:=hK.rely h₁;clear h₁
  have hc3:=hK.cell h4''
  have hz3:w₁.frozen? ⟨tb,4,none⟩=false:=(frozen_at _ _ _ (by rw [hK.heap])).trans hz''
  refine goes_oper_k rfl rfl (by decide) (fun K hK'=>?_)
  go_simp
  refine hK' _ _ ⟨hK.set_do (.inr ht) (fun e he=>(by have hm:=mem_listed he;simp [go_sem,events_store_bool,storedEv,hc3,hz3] at hm;subst hm;exact evO_wr ht.2 (by obtain⟨_,_,_,hb,_⟩:=cell_block hc3;exact block_low hb))),?_⟩
  clear hK' K hc3 hz3
  replace hK:=hK.set (a:=⟨tb,4,none⟩) (v:=.bool true)
  (refine Conc.Goes.step rfl (fun w₁ h₁=>?_);replace hK:=hK.rely h₁;clear h₁;rw [stepG_region_end];simp only [goes_go];refine⟨DO.none _,?_⟩)
  (refine Conc.Goes.step rfl (fun w₁ h₁=>?_);replace hK:=hK.rely h₁;clear h₁;rw [stepG_seq];simp only [goes_go];refine⟨DO.none _,?_⟩)
  exact Conc.Goes.stop (fun w₁ h₁=>⟨by simp only [startR6,startR7,startR4,startC,cOps,cL,cR,Try.f17,Option.getD_some],hK.rely h₁⟩)
end
def Closed (ops:Array Oper) (l:Array Bool):Prop:=∀ i o,ops[i]?=some o→l.getD i false=true→∀ e∈o.after,Region.binds .any e=true→l.getD e.on false=true
theorem Closed.set {ops:Array Oper} {l:Array Bool} (h:Closed ops l) {i:Nat} {o:Oper} (ho:ops[i]?=some o) (hd:∀ e∈o.after,Region.binds .any e=true→l.getD e.on false=true):Closed ops (l.setIfInBounds i true):=fun j oj hj hl e he hb=>by
  have key:l.getD e.on false=true:=by
    by_cases z:j=i
    · subst z
      rw [ho] at hj
      cases hj
      exact hd e he hb
    · rw [getD_other z] at hl
      exact h j oj hj hl e he hb
  by_cases z:e.on=i
  · rw [z,Array.getD_eq_getD_getElem?]
    have hlt:i<l.size:=by
      apply Nat.lt_of_not_le;intro hn
      rw [z,Array.getD_eq_getD_getElem?,Array.getElem?_eq_none hn] at key
      cases key
    rw [Array.getElem?_setIfInBounds_self_of_lt hlt];rfl
  · rw [getD_other z];exact key
theorem left_none {ops:Array Oper} {l:Array Bool} (h:∀ i,i<ops.size→l.getD i true=true):∀ fuel t,leftD ops fuel t l=[]
  | 0,t=>rfl
  | fuel+1,t=>by
    have hr:Region.ready .any ops l=[]:=by
      rw [List.eq_nil_iff_forall_not_mem]
      intro i hi
      obtain⟨hu,o,ho,_⟩:=mem_ready.1 hi
      rw [h i (Array.getElem?_eq_some_iff.1 ho).1] at hu
      cases hu
    unfold leftD
    simp only [Region.linearise.go]
    change (match (Region.ready .any ops l)[t % (Region.ready .any ops l).length]? with
        | some i=>Region.linearise.go .any ops fuel (t / (Region.ready .any ops l).length) (l.setIfInBounds i true) [i]
        | none=>[].reverse)=[]
    rw [hr]
    rfl
noncomputable def startOps6:Array Oper:=cOps startR6
set_option maxRecDepth 100000 in
theorem startR6_eq:startR6=.region 6 startOps6 true:=by
  simp only [startOps6,startR6,startR4,startC,cOps,cL,cR,Try.f17,Option.getD_some]
theorem ops6_back:backB startOps6=true:=by kernel_rfl
theorem ops6_size:startOps6.size=10:=by kernel_rfl
def valC (tb:Nat) (fv:Value) (wb dn:Nat):Nat→Value
  | 0=>fv
  | 1|2|5|6=>pt tb
  | 3=>pt tb 1
  | 4=>pt wb
  | 7=>pt tb 2
  | 8=>.chan (some dn)
  | _=>undef
def uS (l:Array Bool) (tb:Nat) (fv:Value) (wb dn:Nat) (j:Nat):Value:=if l.getD j false=true then valC tb fv wb dn j else undef
theorem uS_done {l:Array Bool} {tb:Nat} {fv:Value} {wb dn j:Nat} (h:l.getD j false=true):uS l tb fv wb dn j=valC tb fv wb dn j:=if_pos h
theorem uS_set {l:Array Bool} {tb:Nat} {fv:Value} {wb dn j:Nat} (hj:j<l.size):uS (l.setIfInBounds j true) tb fv wb dn=fun i=>if i=j then valC tb fv wb dn j else uS l tb fv wb dn i:=by
  funext i
  unfold uS
  by_cases e:i=j
  · subst e
    rw [if_pos rfl,if_pos]
    rw [Array.getD_eq_getD_getElem?,Array.getElem?_setIfInBounds_self_of_lt hj];rfl
  · rw [getD_other e,if_neg e]
theorem startT6_put {tb dn:Nat} {fv x:Value} {v u:Nat→Value}:∀ {j:Nat},j<9→(⟨startT6 tb fv dn v u,[]⟩:Act).put (some (45+j)) x=⟨startT6 tb fv dn v (fun i=>if i=j then x else u i),[]⟩
  | 0,_|1,_|2,_|3,_|4,_|5,_|6,_|7,_|8,_=>by simp [Act.put,startT6]
  | j+9,h=>absurd h (by omega)
structure InvG (w0:World) (tb:Nat) (fv:Value) (wb dn:Nat) (v:Nat→Value) (l:Array Bool) (a:Act) (w:World):Prop where
  act:a=⟨startT6 tb fv dn v (uS l tb fv wb dn),[]⟩
  heap:w.heap=w0.heap
  closed:Closed startOps6 l
theorem InvG.cell {w0:World} {tb:Nat} {fv:Value} {wb dn:Nat} {v:Nat→Value} {l:Array Bool} {a:Act} {w:World} (I:InvG w0 tb fv wb dn v l a w) {x:Addr} {y:Value} (h:w0.cell? x=some y):w.cell? x=some y:=(cell_at w0 w x (by rw [I.heap])).trans h
section
variable {OB WB:Nat→Prop} {Inb:Nat→Option Seat}
set_option maxRecDepth 100000 in
theorem stepC {w0:World} {tb:Nat} {fv:Value} {wb dn:Nat} {v:Nat→Value} (h1:w0.cell? ⟨tb,1,none⟩=some (pt wb)) (h2:w0.cell? ⟨tb,2,none⟩=some (.chan (some dn))) {k:List Item} {cs:List Frame}
    {l:Array Bool} {a:Act} {w:World} {i:Nat} {o:Oper} (hl:l.size=startOps6.size) (ho:startOps6[i]?=some o) (hd:∀ e∈o.after,Region.binds .any e=true→l.getD e.on false=true) (hz:(i==9)=false) (I:InvG w0 tb fv wb dn v l a w) :
    ∃ a' w' es,(∀ rest,stepG Try.prog true (Go.Conc.G ((base 17).at a (.inRegion startOps6 (i::rest)::k)) cs) w=.go (Go.Conc.G ((base 17).at a' (.inRegion startOps6 rest::k)) cs) w' es)∧DO OB WB Inb 0 w w' es∧InvG w0 tb fv wb dn v (l.setIfInBounds i true) a' w':=by
  have hlt:i<10:=by rw [←ops6_size];exact (Array.getElem?_eq_some_iff.1 ho).1
  have hl':l.size=10:=by rw [hl,ops6_size]
  have hcl:Closed startOps6 (l.setIfInBounds i true):=I.closed.set ho hd
  obtain rfl:=I.act
  have ho':=ho
  simp only [startOps6,startR6,startR4,startC,cOps,cL,cR,Try.f17,Option.getD_some] at ho'
  match i,hlt,ho' with
  | 0,_,ho' =>
    simp only [List.getElem?_toArray,List.getElem?_cons_succ,List.getElem?_cons_zero,Option.some.injEq] at ho'
    subst ho'
    exact vstep ho rfl (by decide) (v:=fv) (w':=w) (by simp [go_sem,execOp,Act.eval,startT6]) (startT6_put (j:=0) (by omega)) (DO.quiet fun e he=>by have hm:=mem_listed he;simp [go_sem,execOp,Act.eval,startT6] at hm) ⟨by rw [uS_set (by omega)];rfl,I.heap,hcl⟩
  | 1,_,ho' =>
    simp only [List.getElem?_toArray,List.getElem?_cons_succ,List.getElem?_cons_zero,Option.some.injEq] at ho'
    subst ho'
    exact vstep ho rfl (by decide) (v:=pt tb) (w':=w) (by simp [go_sem,execOp,Act.eval,startT6]) (startT6_put (j:=1) (by omega)) (DO.quiet fun e he=>by have hm:=mem_listed he;simp [go_sem,execOp,Act.eval,startT6] at hm) ⟨by rw [uS_set (by omega)];rfl,I.heap,hcl⟩
  | 2,_,ho' =>
    simp only [List.getElem?_toArray,List.getElem?_cons_succ,List.getElem?_cons_zero,Option.some.injEq] at ho'
    subst ho'
    have hv1:uS l tb fv wb dn 1=pt tb:=uS_done (hd ⟨1,.data⟩ (by simp) rfl)
    exact vstep ho rfl (by decide) (v:=pt tb) (w':=w) (by simp [go_sem,execOp,Act.eval,startT6,hv1]) (startT6_put (j:=2) (by omega)) (DO.quiet fun e he=>by have hm:=mem_listed he;simp [go_sem,execOp,Act.eval,startT6,hv1] at hm) ⟨by rw [uS_set (by omega)];rfl,I.heap,hcl⟩
  | 3,_,ho' =>
    simp only [List.getElem?_toArray,List.getElem?_cons_succ,List.getElem?_cons_zero,Option.some.injEq] at ho'
    subst ho'
    have hv2:uS l tb fv wb dn 2=pt tb:=uS_done (hd ⟨2,.data⟩ (by simp) rfl)
    exact vstep ho rfl (by decide) (v:=pt tb 1) (w':=w) (by simp [go_sem,execOp,Act.eval,startT6,hv2]) (startT6_put (j:=3) (by omega)) (DO.quiet fun e he=>by have hm:=mem_listed he;simp [go_sem,execOp,Act.eval,startT6,hv2] at hm) ⟨by rw [uS_set (by omega)];rfl,I.heap,hcl⟩
  | 4,_,ho' =>
    simp only [List.getElem?_toArray,List.getElem?_cons_succ,List.getElem?_cons_zero,Option.some.injEq] at ho'
    subst ho'
    have hv3:uS l tb fv wb dn 3=pt tb 1:=uS_done (hd ⟨3,.data⟩ (by simp) rfl)
    have hF:=I.cell h1
    exact vstep ho rfl (by decide) (v:=pt wb) (w':=w) (by simp [go_sem,execOp,Act.eval,startT6,hv3,hF]) (startT6_put (j:=4) (by omega)) (DO.quiet fun e he=>by have hm:=mem_listed he;simp [go_sem,execOp,Act.eval,startT6,hv3,hF] at hm;subst hm;exact evO_cell hF) ⟨by rw [uS_set (by omega)];rfl,I.heap,hcl⟩
  | 5,_,ho' =>
    simp only [List.getElem?_toArray,List.getElem?_cons_succ,List.getElem?_cons_zero,Option.some.injEq] at ho'
    subst ho'
    exact vstep ho rfl (by decide) (v:=pt tb) (w':=w) (by simp [go_sem,execOp,Act.eval,startT6]) (startT6_put (j:=5) (by omega)) (DO.quiet fun e he=>by have hm:=mem_listed he;simp [go_sem,execOp,Act.eval,startT6] at hm) ⟨by rw [uS_set (by omega)];rfl,I.heap,hcl⟩
  | 6,_,ho' =>
    simp only [List.getElem?_toArray,List.getElem?_cons_succ,List.getElem?_cons_zero,Option.some.injEq] at ho'
    subst ho'
    have hv5:uS l tb fv wb dn 5=pt tb:=uS_done (hd ⟨5,.data⟩ (by simp) rfl)
    exact vstep ho rfl (by decide) (v:=pt tb) (w':=w) (by simp [go_sem,execOp,Act.eval,startT6,hv5]) (startT6_put (j:=6) (by omega)) (DO.quiet fun e he=>by have hm:=mem_listed he;simp [go_sem,execOp,Act.eval,startT6,hv5] at hm) ⟨by rw [uS_set (by omega)];rfl,I.heap,hcl⟩
  | 7,_,ho' =>
    simp only [List.getElem?_toArray,List.getElem?_cons_succ,List.getElem?_cons_zero,Option.some.injEq] at ho'
    subst ho'
    have hv6:uS l tb fv wb dn 6=pt tb:=uS_done (hd ⟨6,.data⟩ (by simp) rfl)
    exact vstep ho rfl (by decide) (v:=pt tb 2) (w':=w) (by simp [go_sem,execOp,Act.eval,startT6,hv6]) (startT6_put (j:=7) (by omega)) (DO.quiet fun e he=>by have hm:=mem_listed he;simp [go_sem,execOp,Act.eval,startT6,hv6] at hm) ⟨by rw [uS_set (by omega)];rfl,I.heap,hcl⟩
  | 8,_,ho' =>
    simp only [List.getElem?_toArray,List.getElem?_cons_succ,List.getElem?_cons_zero,Option.some.injEq] at ho'
    subst ho'
    have hv7:uS l tb fv wb dn 7=pt tb 2:=uS_done (hd ⟨7,.data⟩ (by simp) rfl)
    have hF:=I.cell h2
    exact vstep ho rfl (by decide) (v:=.chan (some dn)) (w':=w) (by simp [go_sem,execOp,Act.eval,startT6,hv7,hF]) (startT6_put (j:=8) (by omega)) (DO.quiet fun e he=>by have hm:=mem_listed he;simp [go_sem,execOp,Act.eval,startT6,hv7,hF] at hm;subst hm;exact evO_cell hF) ⟨by rw [uS_set (by omega)];rfl,I.heap,hcl⟩
  | 9,_,_=>exact absurd hz (by decide)
end
theorem InvG.same {w0:World} {tb:Nat} {fv:Value} {wb dn:Nat} {v:Nat→Value} {l:Array Bool} {a:Act} {w w1:World} (I:InvG w0 tb fv wb dn v l a w) (h:w1.heap=w.heap):InvG w0 tb fv wb dn v l a w1:=⟨I.act,h.trans I.heap,I.closed⟩
theorem sched_left6 (t:Nat):Region.schedule (Try.prog.follows .mixedOrders) startOps6 t=leftD startOps6 startOps6.size t (Array.replicate startOps6.size false):=by
  simp only [Region.schedule,Try.mix,Bool.true_or,if_true];rfl
theorem uS_none (n:Nat) (tb:Nat) (fv:Value) (wb dn:Nat):uS (Array.replicate n false) tb fv wb dn=fun _=>undef:=by
  funext j
  unfold uS
  rw [if_neg]
  rw [rep_getD];simp
theorem closed_none {ops:Array Oper} (n:Nat):Closed ops (Array.replicate n false):=fun i o _ h=>by rw [rep_getD] at h;cases h
noncomputable def goFr (tb:Nat) (fv:Value) (wb dn:Nat) (v:Nat→Value) (rest:List Nat):Frame:=(base 17).at ⟨startT6 tb fv dn v (valC tb fv wb dn),[]⟩ [.inRegion startOps6 rest,.code startR7]
section
variable {OB WB:Nat→Prop} {Inb:Nat→Option Seat}
set_option maxRecDepth 100000 in
theorem start_way5 {w0 w:World} {tb:Nat} {fv:Value} {wb dn:Nat} {v:Nat→Value} (h1:w0.cell? ⟨tb,1,none⟩=some (pt wb)) (h2:w0.cell? ⟨tb,2,none⟩=some (.chan (some dn))) (hK:KM w0 w) (cs:List Frame) :
    Conc.Goes Try.prog true (Ro OB 0) (DO OB WB Inb 0) (fun g w'=>g=Go.Conc.G (goFr tb fv wb dn v [9]) cs∧KM w0 w') 12 (Go.Conc.G ((base 17).at ⟨startT6 tb fv dn v (fun _=>undef),[]⟩ [.code startR6,.code startR7]) cs) w:=by
  rw [startR6_eq]
  refine Conc.Goes.step rfl (fun w₁ h₁=>?_)
  replace hK:=hK.rely h₁;clear h₁
  rw [stepG_region_draw,goes_go,sched_left6]
  refine⟨⟨fun _ _ _ _ _=>rfl,fun _ _ _=>rfl,fun _ _ _=>rfl,Nat.le_refl _,rfl,fun e he=>by simp at he⟩,?_⟩
  have chain:∀ (l:Array Bool),Closed startOps6 l→(l.getD 0 false=true∧l.getD 4 false=true∧l.getD 8 false=true)→∀ j,j<9→l.getD j false=true:=fun l hc ⟨d0,d4,d8⟩=>by
    have step:∀ i j,startOps6[i]?.any (fun o=>o.after.any fun e=>Region.binds .any e && e.on==j)=true→l.getD i false=true→l.getD j false=true:=fun i j h hi=>by
      cases ho:startOps6[i]? with
      | none=>rw [ho] at h;cases h
      | some o =>
        rw [ho] at h
        obtain⟨e,he,h2⟩:=Array.any_eq_true'.1 h
        simp only [Bool.and_eq_true,beq_iff_eq] at h2
        rw [←h2.2]
        exact hc i o ho hi e he h2.1
    have d3:=step 4 3 (by kernel_rfl) d4
    have d2:=step 3 2 (by kernel_rfl) d3
    have d1:=step 2 1 (by kernel_rfl) d2
    have d7:=step 8 7 (by kernel_rfl) d8
    have d6:=step 7 6 (by kernel_rfl) d7
    have d5:=step 6 5 (by kernel_rfl) d6
    intro j hj
    match j,hj with
    | 0,_=>exact d0
    | 1,_=>exact d1
    | 2,_=>exact d2
    | 3,_=>exact d3
    | 4,_=>exact d4
    | 5,_=>exact d5
    | 6,_=>exact d6
    | 7,_=>exact d7
    | 8,_=>exact d8
  have dep:∀ (l:Array Bool),(∀ e∈(startOps6[9]'(by rw [ops6_size];omega)).after,Region.binds .any e=true→l.getD e.on false=true)→∀ j,(startOps6[9]'(by rw [ops6_size];omega)).after.any (fun e=>Region.binds .any e && e.on==j)=true→l.getD j false=true:=fun l hd j hj=>by
    obtain⟨e,he,h2⟩:=Array.any_eq_true'.1 hj
    simp only [Bool.and_eq_true,beq_iff_eq] at h2
    rw [←h2.2]
    exact hd e he h2.1
  have fin:∀ (t:Nat) (W:World),W.heap=w₁.heap→Conc.Goes Try.prog true (Ro OB 0) (DO OB WB Inb 0) (fun g w'=>g=Go.Conc.G (goFr tb fv wb dn v [9]) cs∧KM w0 w') (1+startOps6.size) (Go.Conc.G ((base 17).at ⟨startT6 tb fv dn v (fun _=>undef),[]⟩ [.inRegion startOps6 (leftD startOps6 startOps6.size t (Array.replicate startOps6.size false)),   .code startR7]) cs) W:=fun t W hW=>by
    refine sched_goes (Inv:=fun l a w'=>InvG w0 tb fv wb dn v l a w'∧l.getD 9 false=false) (Z:=fun i=>i==9) ops6_back (fun l a w w1 h hr=>⟨h.1.same (by rw [hr.heap0]),h.2⟩) (fun l a w i o fuel t hl ho hu hd hz I hf=>?_) (fun l a w i o hl ho hu hd hz I=>?_) (n:=1) (fun l a w hl hall I=>?_) startOps6.size _ _ _ _ (by simp) (undone_replicate _ _) ⟨⟨by rw [uS_none],hW.trans hK.heap,closed_none _⟩,rep_getD _ _⟩
    · obtain rfl:i=9:=by simpa using hz
      have hl':l.size=10:=by rw [hl,ops6_size]
      obtain rfl:o=startOps6[9]'(by rw [ops6_size];omega):=(Array.getElem?_eq_some_iff.1 ho).2.symm
      have d0:=dep l hd 0 (by kernel_rfl)
      have d4:=dep l hd 4 (by kernel_rfl)
      have d8:=dep l hd 8 (by kernel_rfl)
      have hall:=chain l I.1.closed ⟨d0,d4,d8⟩
      have hu:uS l tb fv wb dn=valC tb fv wb dn:=by
        funext j
        rcases Nat.lt_or_ge j 9 with h|h
        · exact uS_done (hall j h)
        · unfold uS
          rw [if_neg]
          · match j,h with
            | j+9,_=>rfl
          · rcases Nat.eq_or_lt_of_le h with h|h
            · rw [←h,I.2];simp
            · rw [Array.getD_eq_getD_getElem?,Array.getElem?_eq_none (by omega)];simp
      rw [left_none]
      · obtain rfl:=I.1.act
        rw [hu]
        exact⟨rfl,⟨I.1.heap⟩⟩
      · intro i hi
        rw [ops6_size] at hi
        rcases Nat.lt_or_ge i 9 with h|h
        · have:=hall i h
          rw [Array.getD_eq_getD_getElem?,Array.getElem?_setIfInBounds_ne (by omega),Array.getElem?_eq_getElem (by omega)]
          rw [Array.getD_eq_getD_getElem?,Array.getElem?_eq_getElem (by omega)] at this
          exact this
        · obtain rfl:i=9:=by omega
          rw [Array.getD_eq_getD_getElem?,Array.getElem?_setIfInBounds_self_of_lt (by omega)];rfl
    · obtain⟨a',w',es,q1,q2,q3⟩:=stepC (v:=v) (fv:=fv) h1 h2 (k:=[.code startR7]) (cs:=cs) (OB:=OB) (WB:=WB) (Inb:=Inb) hl ho hd hz I.1
      refine⟨a',w',es,q1,q2,q3,?_⟩
      rw [getD_other (fun h=>by rw [←h] at hz;cases hz)];exact I.2
    · have h:=hall 9 (by rw [ops6_size];omega)
      have h2:=I.2
      rw [ops6_size] at hl
      rw [Array.getD_eq_getD_getElem?,Array.getElem?_eq_getElem (by omega)] at h h2
      have h:l[9]'(by omega)=true:=h
      have h2:l[9]'(by omega)=false:=h2
      rw [h] at h2;cases h2
  exact goes_more (fin _ _ rfl) (by rw [ops6_size];omega)
end
noncomputable def startOps7:Array Oper:=cOps (cL startR7)
noncomputable def startR8:Code:=cR startR7
abbrev startT7 (tb:Nat) (fv:Value) (dn:Nat) (v u:Nat→Value) (z:Value):Array Value:=#[pt tb,fv,undef,undef,.bool false,pt tb,.bool false,.bool false,pt tb,pt tb,pt tb 5,.bool false,.bool false,.bool false,pt tb,pt tb,pt tb 4,.bool false,.bool false,.bool false,fv,.bool false,.bool false,v 0,v 1,v 2,v 3,v 4,v 5,v 6,v 7,v 8,v 9,v 10,v 11,v 12,v 13,v 14,pt tb,.chan (some dn),pt tb,pt tb 2,pt tb,pt tb,pt tb 4,u 0,u 1,u 2,u 3,u 4,u 5,u 6,u 7,u 8,pt tb,z]
noncomputable def startFr7 (tb:Nat) (fv:Value) (wb dn:Nat) (v:Nat→Value) (rest:List Nat):Frame:=(base 17).at ⟨startT7 tb fv dn v (valC tb fv wb dn) undef,[]⟩ [.inRegion startOps7 rest,.code startR8]
set_option maxRecDepth 100000 in
theorem start_spawn (tb:Nat) (fv:Value) (wb dn:Nat) (v:Nat→Value) (cs:List Frame) (main:Bool) (w:World) :
    stepG Try.prog main (Go.Conc.G (goFr tb fv wb dn v [9]) cs) w=.spawn (Go.Conc.G (goFr tb fv wb dn v []) cs) (born Try.prog (rootD fv (pt wb) (.chan (some dn)))) w:=by
  simp only [goFr,startOps6,startR6,startR4,startC,cOps,cL,cR,Try.f17,Option.getD_some]
  rw [stepG_spawn (d:=rootD fv (pt wb) (.chan (some dn))) (w':=w) (f:=.func 71) (c:=#[]) rfl rfl (by decide) (by simp [go_sem,execOp,resolve,Deferred.ofValue,Act.eval,rootD,dcall,startT6,valC]) rfl,listed_none (by simp [go_sem,execOp,Act.eval])]
  rfl
section
variable {OB WB:Nat→Prop} {Inb:Nat→Option Seat} {B:Nat}
set_option maxRecDepth 100000 in
theorem start_goes {w0 w:World} {tb:Nat} {fv:Value} {wb dn ak:Nat} {v:Nat→Value} (hK:KG OB WB w0 tb wb dn ak w) (hne:wb≠tb) (htB:tb<B) (hwB:wb<B) (cs:List Frame) :
    Conc.Goes Try.prog true (Rl OB WB 0) (Dw OB WB B 0) (fun g w=>(∃ g₂,AtS Try.prog (seatG tb wb dn ak (startFr7 tb fv wb dn v [1]::cs)) g g₂)∧KG OB WB (w0.setCell ⟨tb,3,none⟩ (.pointer none)) tb wb dn ak w) 45 (Go.Conc.G (goFr tb fv wb dn v []) cs) w:=by
  simp only [goFr,startOps6,startR6,startR7,startR4,startC,cOps,cL,cR,Try.f17,Option.getD_some]
  (refine Conc.Goes.step rfl (fun w₁ h₁=>?_);replace hK:=hK.rely h₁;clear h₁;rw [stepG_region_end];simp only [goes_go];refine⟨Dw.none _,?_⟩)
  (refine Conc.Goes.step rfl (fun w₁ h₁=>?_);replace hK:=hK.rely h₁;clear h₁;rw [stepG_seq];simp only [goes_go];refine⟨Dw.none _,?_⟩)
  (refine Conc.Goes.step rfl (fun w₁ h₁=>?_);replace hK:=hK.rely h₁;clear h₁;rw [stepG_region];simp only [goes_go,List.size_toArray,List.length_cons,List.length_nil,Nat.reduceAdd,Nat.zero_add,List.range,List.range.loop];refine⟨Dw.none _,?_⟩)
  (refine Conc.Goes.step rfl (fun w₁ h₁=>?_);replace hK:=hK.rely h₁;clear h₁;refine goes_oper_k rfl rfl (by decide) (fun K hK'=>?_);go_simp;refine hK' _ _ ⟨Dw.quiet (fun e he=>(by have hm:=mem_listed he;simp [go_sem,Instr.makeInterface,Instr.makeFunc] at hm)),?_⟩;clear hK' K)
  refine Conc.Goes.step rfl (fun w₁ h₁=>?_)
  replace hK:=hK.rely h₁;clear h₁
  refine goes_call (c:=goesC) rfl rfl (by decide) rfl Try.func72 rfl rfl ⟨Dw.none _,?_⟩
  rw [Try.ntmps72]
  walk_nrm
  have hgo:=way_goes (OB:=OB) (WB:=WB) (B:=B) hK hne htB hwB (startFr7 tb fv wb dn v [1]::cs)
  simp only [startFr7,startOps7,startR8,startR7,startR4,startC,cOps,cL,cR,Try.f17,Option.getD_some] at hgo ⊢
  exact hgo
theorem start_back (tb:Nat) (fv:Value) (wb dn:Nat) (v:Nat→Value):(startFr7 tb fv wb dn v [1]).finish (.tuple #[])=(base 17).at ⟨startT7 tb fv dn v (valC tb fv wb dn) (.tuple #[]),[]⟩ [.inRegion startOps7 [],.code startR8]:=by
  simp only [startFr7,Frame.finish_at,startOps7,startR8,startR7,startR4,startC,cOps,cL,cR,Try.f17,Option.getD_some]
  rfl
set_option maxRecDepth 100000 in
theorem start_ret {n0:Nat} {w0 w:World} {tb:Nat} {fv:Value} {wb dn:Nat} {v:Nat→Value} (hK:KA OB WB Inb n0 w0 w) (c0:Frame) (cs:List Frame) :
    Conc.Goes Try.prog true (Ro OB 0) (DO OB WB Inb 0) (fun g w'=>g=Go.Conc.G (c0.finish (.bool true)) cs∧KA OB WB Inb n0 w0 w') 20 (Go.Conc.G ((startFr7 tb fv wb dn v [1]).finish (.tuple #[])) (c0::cs)) w:=by
  rw [start_back]
  simp only [startOps7,startR8,startR7,startR4,startC,cOps,cL,cR,Try.f17,Option.getD_some]
  (refine Conc.Goes.step rfl (fun w₁ h₁=>?_);replace hK:=hK.rely h₁;clear h₁;rw [stepG_region_end];simp only [goes_go];refine⟨DO.none _,?_⟩)
  (refine Conc.Goes.step rfl (fun w₁ h₁=>?_);replace hK:=hK.rely h₁;clear h₁;rw [stepG_seq];simp only [goes_go];refine⟨DO.none _,?_⟩)
  (refine Conc.Goes.step rfl (fun w₁ h₁=>?_);replace hK:=hK.rely h₁;clear h₁;rw [stepG_region];simp only [goes_go,List.size_toArray,List.length_cons,List.length_nil,Nat.reduceAdd,Nat.zero_add,List.range,List.range.loop];refine⟨DO.none _,?_⟩)
  (refine Conc.Goes.step rfl (fun w₁ h₁=>?_);replace hK:=hK.rely h₁;clear h₁;refine goes_oper_k rfl rfl (by decide) (fun K hK'=>?_);go_simp;refine hK' _ _ ⟨DO.quiet (fun e he=>(by have hm:=mem_listed he;simp [go_sem,Instr.makeInterface,Instr.makeFunc] at hm)),?_⟩;clear hK' K)
  (refine Conc.Goes.step rfl (fun w₁ h₁=>?_);replace hK:=hK.rely h₁;clear h₁;rw [stepG_region_end];simp only [goes_go];refine⟨DO.none _,?_⟩)
  (refine Conc.Goes.step rfl (fun w₁ h₁=>?_);replace hK:=hK.rely h₁;clear h₁;rw [stepG_ret'];simp only [goes_go];refine⟨DO.none _,?_⟩)
  refine Conc.Goes.step rfl (fun w₁ h₁=>?_)
  replace hK:=hK.rely h₁;clear h₁
  rw [stepG_leave rfl rfl Try.func17 (results_tmp Try.results17 _ _ _) (events_results_tmp Try.results17 _ _)]
  simp only [goes_go]
  refine⟨DO.none _,?_⟩
  exact Conc.Goes.stop (fun w₁ h₁=>⟨rfl,hK.rely h₁⟩)
end
section
variable {OB WB:Nat→Prop} {B:Nat} {Iv:Nat→World→Prop} {Mem:Nat→Prop} {Inb:Nat→Option Seat} {T:Trace} {gs:Array Goroutine} {w:World} {q:Nat→Nat} {sl:Option (Nat × Nat)}
abbrev thrOld (self:Int) (z1 z2:Value) (quit:Nat):Array Value:=#[.int .i64 self,z1,z2,.pointer none,.bool false,.bool false,.chan (some quit)]
abbrev thrNew (self:Int) (wb dn quit:Nat):Array Value:=#[.int .i64 self,pt wb,.chan (some dn),.pointer none,.bool true,.bool false,.chan (some quit)]
structure BornW (w:World) (tb:Nat) (me:Int) (quit ask gr:Nat) (w2:World):Prop where
  old:∀ x,x<w.heap.size→x≠tb→w2.heap[x]?=w.heap[x]?
  size:w2.heap.size=w.heap.size+4
  ask0:w.heap.size≤ask
  ask1:ask<w.heap.size+2
  gr0:w.heap.size≤gr
  gr1:gr<w.heap.size+2
  ne:ask≠gr
  hask:w2.heap[ask]?=some (.chan 0 #[] false 0 0 false)
  hgr:w2.heap[gr]?=some (.chan 0 #[] false 0 0 false)
  wb:w2.heap[w.heap.size+2]?=some (.cells (wpNew me ask gr quit) 108 (0,0))
  dn:w2.heap[w.heap.size+3]?=some (.chan 1 #[] false 0 0 false)
  thr:w2.heap[tb]?=some (.cells (thrNew me (w.heap.size+2) (w.heap.size+3) quit) 103 (0,0))
set_option maxRecDepth 100000 in
theorem start_at_go {tb:Nat} {self:Int} {z1 z2:Value} {quit:Nat} {fn:Fn} {xs ys:Array Value} {cs:List Frame} (R:RingO Try.prog OB WB B Iv Mem Inb 0 T gs w q) (hlow:∀ b,Leant OB WB Inb b→b<w.heap.size) (hO:OB tb)
    (hrow:w.heap[tb]?=some (.cells (thrOld self z1 z2 quit) 103 (0,0)))
    (hg:gs[0]?=some (Go.Conc.G ((base 17).at ⟨#[pt tb,.func fn xs ys,undef,undef,undef,undef,undef,undef,undef,undef,undef,undef,undef,undef,undef,undef,undef,undef,undef,undef,undef,undef,undef,undef,undef,undef,undef,undef,undef,undef,undef,undef,undef,undef,undef,undef,undef,undef,undef,undef,undef,undef,undef,undef,undef,undef,undef,undef,undef,undef,undef,undef,undef,undef,undef,undef],[]⟩ [.code startC]) cs)) :
    Reach Try.prog (crowd gs w sl) T fun m T'=>∃ gs2 w2 sl2 q2 B2 ask gr v,m=crowd gs2 w2 sl2∧gs2.size=gs.size∧gs2[0]?=some (Go.Conc.G (goFr tb (.func fn xs ys) (w.heap.size+2) (w.heap.size+3) v [9]) cs)∧BornW w tb self quit ask gr w2∧RingO Try.prog OB (fun b=>WB b∨b=w.heap.size+2) B2 Iv Mem Inb 0 T' gs2 w2 q2:=by
  have hcell:∀ i v,(thrOld self z1 z2 quit)[i]?=some v→w.cell? ⟨tb,i,none⟩=some v:=fun i v h=>by simp only [World.cell?,hrow];simpa using h
  have hfz:∀ o,w.frozen? ⟨tb,o,none⟩=false:=fun o=>by simp [World.frozen?,hrow]
  have htl:tb<w.heap.size:=block_low hrow
  have hWl:∀ b,WB b→b<w.heap.size:=fun b hb=>hlow b (.inr (.inl hb))
  have hSl:∀ i s c,Inb i=some s→s.has c→c<w.heap.size:=fun i s c hi hc=>hlow c (.inr (.inr ⟨i,s,hi,hc⟩))
  have ht:(∀ i s,Inb i=some s→¬ s.has tb)∧¬ WB tb:=⟨fun i s hi hs=>R.far i s tb hi hs hO,R.apart tb hO⟩
  have hc0:=hcell 0 _ rfl
  have hc1:=hcell 1 _ rfl
  have hc2:=hcell 2 _ rfl
  have hc4:=hcell 4 _ rfl
  have hc5:=hcell 5 _ rfl
  have hc6:=hcell 6 _ rfl
  refine (hold_goes (sl:=sl) (h:=0) 60 hg (start_way1 (w0:=w) hc5 hc4 ⟨rfl⟩ cs) R).bind fun m1 T1=>?_
  rintro ⟨gs1,g1,w1,sl1,q1,B1,rfl,s1,k1,⟨rfl,K1⟩,R1⟩
  refine (hold_goes (sl:=sl1) (h:=0) 20 k1 (start_way2 (w0:=w) (quit:=quit) (me:=self) hc0 hc6 hWl hSl K1 _ cs) R1).bind fun m2 T2=>?_
  rintro ⟨gs2,g2,w2,sl2,q2,B2,rfl,s2,k2,⟨l,a,fuel,t,rfl,hl,I,h11,hf⟩,R2⟩
  obtain⟨ask,gr,hbox⟩:=box_step (k:=[.code startR4]) (cs:=cs) hl I h11 htl
  obtain⟨d5,d6⟩:=I.d11 h11
  have hsz2:w2.heap.size=w.heap.size+2:=by have:=I.size;simp only [d5,d6,if_true] at this;omega
  refine (hold_quiet (OB:=OB) (WB:=WB) (B:=B2) (Iv:=Iv) (Mem:=Mem) (Inb:=Inb) (h:=0) (a':=Go.Conc.G ((base 17).at ⟨startT tb (.func fn xs ys) (vS (l.setIfInBounds 12 true) tb self quit ask gr (w.heap.size+2)),[]⟩ (.inRegion startOps3 (leftD startOps3 fuel t (l.setIfInBounds 12 true))::[.code startR4])) cs) (w0:=w2) (St:=fun w'=>InvB w tb (.func fn xs ys) self quit ask gr (l.setIfInBounds 12 true) ⟨startT tb (.func fn xs ys) (vS (l.setIfInBounds 12 true) tb self quit ask gr (w.heap.size+2)),[]⟩ w') (sl:=sl2) rfl (fun w1 hw1=>?_) _ rfl (Ro.refl _) k2 R2).bind fun m3 T3=>?_
  · obtain⟨a',h1,h2⟩:=hbox w1 (by rw [hw1.heap0])
    obtain rfl:=h2.act
    refine⟨_,h1 _ _,DO.alloc (fun b hb=>?_) (fun e he=>by simp at he),h2⟩
    have:=hlow b hb
    rw [hw1.size,hsz2];omega
  rintro ⟨gs3,w3,sl3,q3,rfl,s3,k3,I3,R3⟩
  have R4:RingO Try.prog OB (fun b=>WB b∨b=w.heap.size+2) B2 Iv Mem Inb 0 T3 gs3 w3 q3:=by
    refine CoF.grow R3 (fun b h=>h) (fun b h=>.inl h) (fun b hb hW=>?_) (fun i s c hi hc hb=>R3.far i s c hi hc hb) (fun i a ha hO=>R3.past.own i a ha hO) (fun i a ha hw hS=>?_)
    · rcases hW with hW|rfl
      · exact R3.apart b hb hW
      · have:=hlow _ (.inl hb);omega
    · obtain⟨x,hx,hx2,hx3⟩:=hS
      rcases hx2 with hx2|hx2
      · exact⟨x,hx,hx2,hx3⟩
      · have h1:=low_touch R3.past.seen ha hx
        have h2:=R2.lowB
        omega
  have ht':(∀ i s,Inb i=some s→¬ s.has tb)∧¬ (WB tb∨tb=w.heap.size+2):=⟨ht.1,fun z=>z.elim ht.2 (by omega)⟩
  have hlow':∀ b,Leant OB (fun b=>WB b∨b=w.heap.size+2) Inb b→b<w.heap.size+3:=fun b hb=>by
    rcases hb with hb|(hb|rfl)|hb
    · have:=hlow b (.inl hb);omega
    · have:=hlow b (.inr (.inl hb));omega
    · omega
    · have:=hlow b (.inr (.inr hb));omega
  refine (hold_goes (sl:=sl3) (h:=0) _ k3 (start_way3 (w0:=w) hc0 hc6 (fun b hb=>hlow' b (.inr (.inl hb))) hSl ht' hc1 (hfz 1) (by simpa using hl) I3 hf _ cs) R4).bind fun m4 T4=>?_
  rintro ⟨gs4,g4,w4,sl4,q4,B4,rfl,s4,k4,⟨l4,a4,rfl,I4,hall⟩,R5⟩
  obtain rfl:=I4.act
  have d15:l4.getD 15 false=true:=hall 15 (by omega)
  have hthr4:w4.heap[tb]?=some (.cells (#[.int .i64 self,pt (w.heap.size+2),z2,.pointer none,.bool false,.bool false,.chan (some quit)]) 103 (0,0)):=by
    rw [I4.thr,if_pos d15,heap_setCell,if_pos rfl,hrow]
    simp [thrOld]
  have hsz4:=I4.size
  have hcell4:∀ i v,(#[.int .i64 self,pt (w.heap.size+2),z2,.pointer none,.bool false,.bool false,.chan (some quit)]:Array Value)[i]?=some v→w4.cell? ⟨tb,i,none⟩=some v:=fun i v h=>by simp only [World.cell?,hthr4];simpa using h
  refine (hold_goes (sl:=sl4) (h:=0) 60 k4 (start_way4 (n0:=w4.heap.size) (w0:=w4) ⟨rfl,fun b hb=>by have:=hlow' b hb;omega,Nat.le_refl _⟩ ht' (hcell4 2 _ rfl) (hcell4 4 _ rfl) (fun o=>by simp [World.frozen?,hthr4]) cs) R5).bind fun m5 T5=>?_
  rintro ⟨gs5,g5,w5,sl5,q5,B5,rfl,s5,k5,⟨rfl,K5⟩,R6⟩
  have hthr5:w5.heap[tb]?=some (.cells (thrNew self (w.heap.size+2) w4.heap.size quit) 103 (0,0)):=by
    rw [K5.heap,heap_setCell,if_pos rfl,heap_setCell,if_pos rfl,alloc_at _ _ _ (by omega),hthr4]
    simp [thrNew]
  have hold5:∀ x,x<w4.heap.size→x≠tb→w5.heap[x]?=w4.heap[x]?:=fun x hx hn=>by
    rw [K5.heap,heap_setCell,if_neg (fun (e:tb=x)=>hn e.symm),heap_setCell,if_neg (fun (e:tb=x)=>hn e.symm),alloc_at _ _ _ hx]
  have hdn5:w5.heap[w4.heap.size]?=some (.chan 1 #[] false 0 0 false):=by
    rw [K5.heap,heap_setCell,if_neg (show tb≠w4.heap.size by omega),heap_setCell,if_neg (show tb≠w4.heap.size by omega)];exact alloc_new _ _
  have hsz5:w5.heap.size=w4.heap.size+1:=by rw [K5.heap,setCell_size,setCell_size,alloc_size]
  rw [hsz4] at k5 hthr5 hdn5
  refine (hold_goes (sl:=sl5) (h:=0) 12 k5 (start_way5 (w0:=w5) (wb:=w.heap.size+2) (dn:=w.heap.size+3) (by simp [World.cell?,hthr5,thrNew]) (by simp [World.cell?,hthr5,thrNew]) ⟨rfl⟩ cs) R6).bind fun m6 T6=>?_
  rintro ⟨gs6,g6,w6,sl6,q6,B6,rfl,s6,k6,⟨rfl,K6⟩,R7⟩
  have hne:∀ x,w.heap.size≤x→x≠tb:=fun x hx e=>by omega
  refine .here ⟨gs6,w6,sl6,q6,B6,ask,gr,_,rfl,by omega,k6,⟨fun x hx hn=>?_,by rw [K6.heap];omega,I4.hask.1,?_,I4.hgr.1,?_,I4.hne,?_,?_,?_,?_,?_⟩,R7⟩
  · rw [K6.heap,hold5 x (by omega) hn,I4.old x hx hn]
  · have h1:=block_low I4.hask.2
    have h2:ask≠w.heap.size+2:=fun e=>by have:=I4.hask.2;rw [e,I4.row] at this;cases this
    omega
  · have h1:=block_low I4.hgr.2
    have h2:gr≠w.heap.size+2:=fun e=>by have:=I4.hgr.2;rw [e,I4.row] at this;cases this
    omega
  · rw [K6.heap,hold5 _ (block_low I4.hask.2) (hne _ I4.hask.1)];exact I4.hask.2
  · rw [K6.heap,hold5 _ (block_low I4.hgr.2) (hne _ I4.hgr.1)];exact I4.hgr.2
  · rw [K6.heap,hold5 _ (block_low I4.row) (hne _ (by omega))];exact I4.row
  · rw [K6.heap];exact hdn5
  · rw [K6.heap];exact hthr5
end
section
variable {OB WB:Nat→Prop} {B:Nat} {Iv:Nat→World→Prop} {Mem:Nat→Prop} {Inb:Nat→Option Seat} {T:Trace} {gs:Array Goroutine} {w:World} {q:Nat→Nat} {sl:Option (Nat × Nat)}
theorem child_goes {OB WB:Nat→Prop} {Inb:Nat→Option Seat} {h:Nat} {fb:FuncId} {xs ys:Array Value} {wb dn:Nat} (w0 w:World) (hK:KR0 OB WB Inb w0 w) :
    Conc.Goes Try.prog false (Ro OB h) (DO OB WB Inb h) (fun g w'=>g=Go.Conc.G (rootFr (.func (.func fb) xs ys) wb dn w0.heap.size [3]) [botF]∧KR1 OB WB Inb w0 dn w') 41 (born Try.prog (rootD (.func (.func fb) xs ys) (pt wb) (.chan (some dn)))) w:=by
  refine Conc.Goes.step rfl (fun w₁ h₁=>?_)
  replace hK:=hK.rely h₁;clear h₁
  rw [root_born]
  simp only [goes_go]
  exact⟨DO.none _,root_begin w0 w₁ hK⟩
set_option maxRecDepth 100000 in
theorem start_child {tb:Nat} {self:Int} {quit:Nat} {fb:FuncId} {xs ys:Array Value} {cs:List Frame} {w2:World} {ask gr:Nat} {v:Nat→Value} {wb dn:Nat} (R:RingO Try.prog OB WB B Iv Mem Inb 0 T gs w2 q) (hM0:Mem 0) (hlow:∀ b,Leant OB WB Inb b→b<wb+1) (hO:OB tb) (hW:WB wb) (h0:wb<w2.heap.size)
    (hgsN:∀ i,gs.size≤i→Inb i=none) (hfr:∀ i s c,Inb i=some s→s.has c→c≠ask∧c≠dn) (hOa:¬ OB ask) (hOd:¬ OB dn) (hne:ask≠dn)
    (hask:w2.heap[ask]?=some (.chan 0 #[] false 0 0 false)) (hdn:w2.heap[dn]?=some (.chan 1 #[] false 0 0 false)) (hwb:w2.heap[wb]?=some (.cells (wpNew self ask gr quit) 108 (0,0))) (hthr:w2.heap[tb]?=some (.cells (thrNew self wb dn quit) 103 (0,0)))
    (hg:gs[0]?=some (Go.Conc.G (goFr tb (.func (.func fb) xs ys) wb dn v [9]) cs)) :
    Reach Try.prog (crowd gs w2 sl) T fun m T'=>∃ gs2 w3 sl2 q2 B2,m=crowd gs2 w3 sl2∧gs2.size=gs.size+1∧gs2[gs.size]?=some (Go.Conc.G (rootFr (.func (.func fb) xs ys) wb dn w2.heap.size [3]) [botF]) ∧
      (∀ b,¬ OB b→b<w2.heap.size→w3.heap[b]?=w2.heap[b]?)∧w3.heap.size=w2.heap.size+1∧w3.heap[w2.heap.size]?=some (.cells #[.chan (some dn)] 142 (0,0))∧¬ OB w2.heap.size ∧
      RingO Try.prog OB WB B2 (IvN OB (w2.setCell ⟨tb,3,none⟩ (.pointer none))) (fun g=>Mem g∨g=gs.size) (fun i=>if i=0 then some (seatG tb wb dn ask (startFr7 tb (.func (.func fb) xs ys) wb dn v [1]::cs)) else Inb i) gs.size T' gs2 w3 q2:=by
  let sG:Seat:=seatG tb wb dn ask (startFr7 tb (.func (.func fb) xs ys) wb dn v [1]::cs)
  let wN:World:=w2.setCell ⟨tb,3,none⟩ (.pointer none)
  let Inb1:Nat→Option Seat:=fun i=>if i=0 then some sG else Inb i
  have htl:tb<w2.heap.size:=block_low hthr
  have hal:ask<w2.heap.size:=block_low hask
  have hdl:dn<w2.heap.size:=block_low hdn
  have hgl:0<gs.size:=(Array.getElem?_eq_some_iff.1 hg).1
  have hap:=R.apart
  have R3:RingO Try.prog OB WB w2.heap.size (IvN OB wN) Mem Inb 0 T gs w2 q:=(CoF.mono R.lowB (Nat.le_refl _) R).iv (fun i w w1 hr hi h b hb=>(hr.2 h b hb).trans (hi h b hb)) (fun i s w' hi _ _ h=>absurd h hi)
  have R4:RingO Try.prog OB WB w2.heap.size (IvN OB wN) Mem Inb1 0 T gs w2 q:=R3.reseat hM0 sG (seatG_wf _ _ _ _ _ hne)
    (fun c hcc=>by rcases seatG_has hcc with rfl|rfl;exact⟨_,_,hask⟩;exact⟨_,_,hdn⟩)
    (fun c hcc=>by rcases seatG_has hcc with rfl|rfl;exact hOa;exact hOd)
    (fun c hcc=>by rcases seatG_has hcc with rfl|rfl;exact hal;exact hdl)
    (fun i s' c hi hs hx hcc=>by
      obtain⟨h1,h2⟩:=hfr i s' c hs hx
      rcases seatG_has hcc with z|z
      · exact h1 z
      · exact h2 z)
  refine (hireO (P:=Try.prog) (gs:=gs) (h:=0) (nh:=46) (Inb:=Inb1) hM0 rfl (fun main w=>start_spawn tb _ wb dn v cs main w) (fun i hi=>?_) (by show (if 0=0 then some sG else _)≠none;simp) w2 (fun T' w1 _ hw1=>?_) _ (sl:=sl) rfl rfl (SideD.refl _) hg R4).bind fun m T3=>?_
  · show (if i=0 then some sG else Inb i)=none
    rw [if_neg (by omega)];exact hgsN i hi
  · have hh1:w1.heap=w2.heap:=Array.ext_getElem? fun b=>hw1.only b fun z=>z.2 rfl
    have hKG:KG OB WB w2 tb wb dn ask w1:=⟨fun b _=>by rw [hh1],hO,hW,by simp [World.cell?,hthr,thrNew],by simp [World.cell?,hthr,thrNew],⟨.pointer none,by simp [World.cell?,hthr,thrNew]⟩,by simp [World.frozen?,hthr],by rw [cell_at w2 _ _ (by rw [hh1])];simp [World.cell?,hwb,wpNew]⟩
    refine .inl ⟨45,rfl,?_⟩
    exact goes_post (fun g w h=>⟨h.1,fun _ b hb=>h.2.own b hb⟩) (start_goes (B:=w2.heap.size) (v:=v) hKG (fun e=>hap tb hO (e ▸ hW)) htl h0 cs)
  rintro ⟨gs3,w1,sl3,q3,rfl,b1,b2,b3,R5⟩
  have hh1:w1.heap=w2.heap:=Array.ext_getElem? fun b=>b3.only b fun z=>z.2 rfl
  have hb0:(gs.size==0)=false:=beq_eq_false_iff_ne.2 (by omega)
  have hlow1:∀ b,Leant OB WB Inb1 b→b<w1.heap.size:=fun b hb=>by
    rw [hh1]
    rcases hb with hb|hb|⟨i,s,hi,hs⟩
    · have:=hlow b (.inl hb);omega
    · have:=hlow b (.inr (.inl hb));omega
    · have hi:(if i=0 then some sG else Inb i)=some s:=hi
      by_cases z:i=0
      · rw [if_pos z] at hi
        cases hi
        rcases seatG_has hs with rfl|rfl
        · exact hal
        · exact hdl
      · rw [if_neg z] at hi
        have:=hlow b (.inr (.inr ⟨i,s,hi,hs⟩));omega
  have hgo:=child_goes (OB:=OB) (WB:=WB) (Inb:=Inb1) (h:=gs.size) (fb:=fb) (xs:=xs) (ys:=ys) (wb:=wb) (dn:=dn) w1 w1 ⟨hlow1,fun _ _=>rfl,rfl⟩
  rw [←hb0] at hgo
  refine (hold_goes (sl:=sl3) (h:=gs.size) 41 b2 hgo R5).bind fun m4 T4=>?_
  rintro ⟨gs4,g4,w4,sl4,q4,B4,rfl,s4,k4,⟨rfl,K4⟩,R6⟩
  rw [hh1] at k4
  refine .here ⟨gs4,w4,sl4,q4,B4,rfl,by omega,k4,fun b hb hl=>?_,?_,?_,?_,R6⟩
  · rw [K4.old b hb (by rw [hh1];exact hl),hh1]
  · rw [K4.size,hh1]
  · rw [←hh1];exact K4.box
  · rw [←hh1];exact K4.bO
end
end Go.Proofs.Ytkjnamhgemidkaa
