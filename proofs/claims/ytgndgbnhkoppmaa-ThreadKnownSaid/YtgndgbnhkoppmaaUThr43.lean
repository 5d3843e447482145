/-
  Start: to its go.
  No condition: steps of the program.
-/
import Derived.Test.YtgndgbnhkoppmaaUThr31
import Derived.Conc.TokenWalk
set_option maxHeartbeats 40000000
set_option linter.unusedVariables false
set_option linter.unusedSimpArgs false
namespace Go.Proofs.Ytgndgbnhkoppmaa
open Go Go.Conc
open Go.ConcN (sumTo upd sumTo_upd upd_ne upd_same)
theorem InvG.same {w0:World} {tb:Nat} {fv:Value} {wb dn:Nat} {v:Nat->Value} {l:Array Bool} {a:Act} {w w1:World} (I:InvG w0 tb fv wb dn v l a w) (h:w1.heap=w.heap):InvG w0 tb fv wb dn v l a w1:=⟨I.act,h.trans I.heap,I.closed⟩
theorem zkn (t:Nat):Region.schedule (Try.prog.follows .mixedOrders) startOps6 t=zhf startOps6 startOps6.size t (Array.replicate startOps6.size false):=by
  simp only [Region.schedule,Try.mix,Bool.true_or,if_true];rfl
theorem zrX (n:Nat) (tb:Nat) (fv:Value) (wb dn:Nat):uS (Array.replicate n false) tb fv wb dn=fun _=>undef:=by
  funext j;unfold uS;rw [if_neg];rw [zcb];simp
theorem zks {ops:Array Oper} (n:Nat):Closed ops (Array.replicate n false):=fun i o _ h=>by rw [zcb] at h;cases h
noncomputable def goFr (tb:Nat) (fv:Value) (wb dn:Nat) (v:Nat->Value) (rest:List Nat):Frame:=(base 7).at ⟨zaV tb fv dn v (valC tb fv wb dn),[]⟩ [.inRegion startOps6 rest,.code zcG]
section
variable {OB WB:Nat->Prop} {Inb:Nat->Option Seat}
set_option maxRecDepth 100000 in
theorem zl6 {w0 w:World} {tb:Nat} {fv:Value} {wb dn:Nat} {v:Nat->Value} (h1:w0.cell? ⟨tb,1,none⟩=some (pt wb)) (h2:w0.cell? ⟨tb,2,none⟩=some (.chan (some dn))) (hK:KM w0 w) (cs:List Frame) :
    Conc.Goes Try.prog true (Ro OB 0) (DO OB WB Inb 0) (fun g w'=>g=Go.Conc.G (goFr tb fv wb dn v [9]) cs/\KM w0 w') 12 (Go.Conc.G ((base 7).at ⟨zaV tb fv dn v (fun _=>undef),[]⟩ [.code zdG,.code zcG]) cs) w:=by
  rw [zmh];refine Conc.Goes.step rfl (fun w₁ h₁=>?_);replace hK:=hK.rely h₁;clear h₁;rw [stepG_region_draw,goes_go,zkn];refine⟨⟨fun _ _ _ _ _=>rfl,fun _ _ _=>rfl,fun _ _ _=>rfl,Nat.le_refl _,rfl,fun e he=>by simp at he⟩,?_⟩
  have chain:∀ (l:Array Bool),Closed startOps6 l->(l.getD 0 false=true/\l.getD 4 false=true/\l.getD 8 false=true)->∀ j,j<9->l.getD j false=true:=fun l hc ⟨d0,d4,d8⟩=>by
    have step:∀ i j,startOps6[i]?.any (fun o=>o.after.any fun e=>Region.binds .any e && e.on==j)=true->l.getD i false=true->l.getD j false=true:=fun i j h hi=>by
      cases ho:startOps6[i]? with
      | none=>rw [ho] at h;cases h
      | some o =>
        rw [ho] at h;obtain⟨e,he,h2⟩:=Array.any_eq_true'.1 h;simp only [Bool.and_eq_true,beq_iff_eq] at h2;rw [<-h2.2];exact hc i o ho hi e he h2.1
    have d3:=step 4 3 (by kernel_rfl) d4
    have d2:=step 3 2 (by kernel_rfl) d3
    have d1:=step 2 1 (by kernel_rfl) d2
    have d7:=step 8 7 (by kernel_rfl) d8
    have d6:=step 7 6 (by kernel_rfl) d7
    have d5:=step 6 5 (by kernel_rfl) d6
    intro j hj
    match j,hj with
    | 0,_=>exact d0
    | 1,_=>exact d1
    | 2,_=>exact d2
    | 3,_=>exact d3
    | 4,_=>exact d4
    | 5,_=>exact d5
    | 6,_=>exact d6
    | 7,_=>exact d7
    | 8,_=>exact d8
  have dep:∀ (l:Array Bool),(∀ e∈(startOps6[9]'(by rw [zbO];omega)).after,Region.binds .any e=true->l.getD e.on false=true)->∀ j,(startOps6[9]'(by rw [zbO];omega)).after.any (fun e=>Region.binds .any e && e.on==j)=true->l.getD j false=true:=fun l hd j hj=>by
    obtain⟨e,he,h2⟩:=Array.any_eq_true'.1 hj;simp only [Bool.and_eq_true,beq_iff_eq] at h2;rw [<-h2.2];exact hd e he h2.1
  have fin:∀ (t:Nat) (W:World),W.heap=w₁.heap->Conc.Goes Try.prog true (Ro OB 0) (DO OB WB Inb 0) (fun g w'=>g=Go.Conc.G (goFr tb fv wb dn v [9]) cs/\KM w0 w') (1+startOps6.size) (Go.Conc.G ((base 7).at ⟨zaV tb fv dn v (fun _=>undef),[]⟩ [.inRegion startOps6 (zhf startOps6 startOps6.size t (Array.replicate startOps6.size false)),   .code zcG]) cs) W:=fun t W hW=>by
    refine zfF (Inv:=fun l a w'=>InvG w0 tb fv wb dn v l a w'/\l.getD 9 false=false) (Z:=fun i=>i==9) znL (fun l a w w1 h hr=>⟨h.1.same (by rw [hr.heap0]),h.2⟩) (fun l a w i o fuel t hl ho hu hd hz I hf=>?_) (fun l a w i o hl ho hu hd hz I=>?_) (n:=1) (fun l a w hl hall I=>?_) startOps6.size _ _ _ _ (by simp) (zcF _ _) ⟨⟨by rw [zrX],hW.trans hK.heap,zks _⟩,zcb _ _⟩
    . obtain rfl:i=9:=by simpa using hz
      have hl':l.size=10:=by rw [hl,zbO]
      obtain rfl:o=startOps6[9]'(by rw [zbO];omega):=(Array.getElem?_eq_some_iff.1 ho).2.symm
      have d0:=dep l hd 0 (by kernel_rfl)
      have d4:=dep l hd 4 (by kernel_rfl)
      have d8:=dep l hd 8 (by kernel_rfl)
      have hall:=chain l I.1.closed ⟨d0,d4,d8⟩;have hu:uS l tb fv wb dn=valC tb fv wb dn:=by
        funext j;rcases Nat.lt_or_ge j 9 with h|h
        . exact zeP (hall j h)
        . unfold uS;rw [if_neg]
          . match j,h with
            | j+9,_=>rfl
          . rcases Nat.eq_or_lt_of_le h with h|h
            . rw [<-h,I.2];simp
            . rw [Array.getD_eq_getD_getElem?,Array.getElem?_eq_none (by omega)];simp
      rw [zna]
      . obtain rfl:=I.1.act;rw [hu];exact⟨rfl,⟨I.1.heap⟩⟩
      . intro i hi;rw [zbO] at hi;rcases Nat.lt_or_ge i 9 with h|h
        . have:=hall i h;rw [Array.getD_eq_getD_getElem?,Array.getElem?_setIfInBounds_ne (by omega),Array.getElem?_eq_getElem (by omega)]
          rw [Array.getD_eq_getD_getElem?,Array.getElem?_eq_getElem (by omega)] at this
          exact this
        . obtain rfl:i=9:=by omega
          rw [Array.getD_eq_getD_getElem?,Array.getElem?_setIfInBounds_self_of_lt (by omega)];rfl
    . obtain⟨a',w',es,q1,q2,q3⟩:=ztx (v:=v) (fv:=fv) h1 h2 (k:=[.code zcG]) (cs:=cs) (OB:=OB) (WB:=WB) (Inb:=Inb) hl ho hd hz I.1;refine⟨a',w',es,q1,q2,q3,?_⟩;rw [zan (fun h=>by rw [<-h] at hz;cases hz)];exact I.2
    . have h:=hall 9 (by rw [zbO];omega)
      have h2:=I.2;rw [zbO] at hl;rw [Array.getD_eq_getD_getElem?,Array.getElem?_eq_getElem (by omega)] at h h2
      have h:l[9]'(by omega)=true:=h
      have h2:l[9]'(by omega)=false:=h2
      rw [h] at h2;cases h2
  exact zgA (fin _ _ rfl) (by rw [zbO];omega)
end
noncomputable def zd5:Array Oper:=cOps (cL zcG)
noncomputable def zg7:Code:=cR zcG
abbrev znY (tb:Nat) (fv:Value) (dn:Nat) (v u:Nat->Value) (z:Value):Array Value:=#[pt tb,fv,undef,undef,.bool false,pt tb,.bool false,.bool false,pt tb,pt tb,pt tb 5,.bool false,.bool false,.bool false,pt tb,pt tb,pt tb 4,.bool false,.bool false,.bool false,fv,.bool false,.bool false,v 0,v 1,v 2,v 3,v 4,v 5,v 6,v 7,v 8,v 9,v 10,v 11,v 12,v 13,v 14,pt tb,.chan (some dn),pt tb,pt tb 2,pt tb,pt tb,pt tb 4,u 0,u 1,u 2,u 3,u 4,u 5,u 6,u 7,u 8,pt tb,z]
noncomputable def zct (tb:Nat) (fv:Value) (wb dn:Nat) (v:Nat->Value) (rest:List Nat):Frame:=(base 7).at ⟨znY tb fv dn v (valC tb fv wb dn) undef,[]⟩ [.inRegion zd5 rest,.code zg7]
set_option maxRecDepth 100000 in
theorem zjJ (tb:Nat) (fv:Value) (wb dn:Nat) (v:Nat->Value) (cs:List Frame) (main:Bool) (w:World) :
    stepG Try.prog main (Go.Conc.G (goFr tb fv wb dn v [9]) cs) w=.spawn (Go.Conc.G (goFr tb fv wb dn v []) cs) (born Try.prog (zlR fv (pt wb) (.chan (some dn)))) w:=by
  simp only [goFr,startOps6,zdG,zbN,zbD,cOps,cL,cR,Try.f7,Option.getD_some];rw [stepG_spawn (d:=zlR fv (pt wb) (.chan (some dn))) (w':=w) (f:=.func 30) (c:=#[]) rfl rfl (by decide) (by simp [go_sem,execOp,resolve,Deferred.ofValue,Act.eval,zlR,dcall,zaV,valC]) rfl,listed_none (by simp [go_sem,execOp,Act.eval])]
  rfl
section
variable {OB WB:Nat->Prop} {Inb:Nat->Option Seat} {B:Nat}
set_option maxRecDepth 100000 in
theorem zmv {w0 w:World} {tb:Nat} {fv:Value} {wb dn ak:Nat} {v:Nat->Value} (hK:KG OB WB w0 tb wb dn ak w) (hne:wb≠tb) (htB:tb<B) (hwB:wb<B) (cs:List Frame) :
    Conc.Goes Try.prog true (Rl OB WB 0) (Dw OB WB B 0) (fun g w=>(∃ gq,AtS Try.prog (zbR tb wb dn ak (zct tb fv wb dn v [1]::cs)) g gq)/\KG OB WB (w0.setCell ⟨tb,3,none⟩ (.pointer none)) tb wb dn ak w) 45 (Go.Conc.G (goFr tb fv wb dn v []) cs) w:=by
  simp only [goFr,startOps6,zdG,zcG,zbN,zbD,cOps,cL,cR,Try.f7,Option.getD_some];(refine Conc.Goes.step rfl (fun w₁ h₁=>?_);replace hK:=hK.rely h₁;clear h₁;rw [stepG_region_end];simp only [goes_go];refine⟨Dw.none _,?_⟩);(refine Conc.Goes.step rfl (fun w₁ h₁=>?_);replace hK:=hK.rely h₁;clear h₁;rw [stepG_seq];simp only [goes_go];refine⟨Dw.none _,?_⟩);(refine Conc.Goes.step rfl (fun w₁ h₁=>?_);replace hK:=hK.rely h₁;clear h₁;rw [stepG_region];simp only [goes_go,List.size_toArray,List.length_cons,List.length_nil,Nat.reduceAdd,Nat.zero_add,List.range,List.range.loop];refine⟨Dw.none _,?_⟩);(refine Conc.Goes.step rfl (fun w₁ h₁=>?_);replace hK:=hK.rely h₁;clear h₁;refine goes_oper_k rfl rfl (by decide) (fun K hK'=>?_);go_simp;refine hK' _ _ ⟨Dw.quiet (fun e he=>(by have hm:=mem_listed he;simp [go_sem,Instr.makeInterface,Instr.makeFunc] at hm)),?_⟩;clear hK' K)
  refine Conc.Goes.step rfl (fun w₁ h₁=>?_);replace hK:=hK.rely h₁;clear h₁;refine goes_call (c:=zhj) rfl rfl (by decide) rfl Try.func31 rfl rfl ⟨Dw.none _,?_⟩
  rw [Try.ntmps31]
  walk_nrm
  have hgo:=zk4 (OB:=OB) (WB:=WB) (B:=B) hK hne htB hwB (zct tb fv wb dn v [1]::cs);simp only [zct,zd5,zg7,zcG,zbN,zbD,cOps,cL,cR,Try.f7,Option.getD_some] at hgo ⊢;exact hgo
theorem zmB (tb:Nat) (fv:Value) (wb dn:Nat) (v:Nat->Value):(zct tb fv wb dn v [1]).finish (.tuple #[])=(base 7).at ⟨znY tb fv dn v (valC tb fv wb dn) (.tuple #[]),[]⟩ [.inRegion zd5 [],.code zg7]:=by
  simp only [zct,Frame.finish_at,zd5,zg7,zcG,zbN,zbD,cOps,cL,cR,Try.f7,Option.getD_some];rfl
set_option maxRecDepth 100000 in
theorem znt {n0:Nat} {w0 w:World} {tb:Nat} {fv:Value} {wb dn:Nat} {v:Nat->Value} (hK:KA OB WB Inb n0 w0 w) (c0:Frame) (cs:List Frame) :
    Conc.Goes Try.prog true (Ro OB 0) (DO OB WB Inb 0) (fun g w'=>g=Go.Conc.G (c0.finish (.bool true)) cs/\KA OB WB Inb n0 w0 w') 20 (Go.Conc.G ((zct tb fv wb dn v [1]).finish (.tuple #[])) (c0::cs)) w:=by
  rw [zmB];simp only [zd5,zg7,zcG,zbN,zbD,cOps,cL,cR,Try.f7,Option.getD_some];(refine Conc.Goes.step rfl (fun w₁ h₁=>?_);replace hK:=hK.rely h₁;clear h₁;rw [stepG_region_end];simp only [goes_go];refine⟨DO.none _,?_⟩);(refine Conc.Goes.step rfl (fun w₁ h₁=>?_);replace hK:=hK.rely h₁;clear h₁;rw [stepG_seq];simp only [goes_go];refine⟨DO.none _,?_⟩);(refine Conc.Goes.step rfl (fun w₁ h₁=>?_);replace hK:=hK.rely h₁;clear h₁;rw [stepG_region];simp only [goes_go,List.size_toArray,List.length_cons,List.length_nil,Nat.reduceAdd,Nat.zero_add,List.range,List.range.loop];refine⟨DO.none _,?_⟩);(refine Conc.Goes.step rfl (fun w₁ h₁=>?_);replace hK:=hK.rely h₁;clear h₁;refine goes_oper_k rfl rfl (by decide) (fun K hK'=>?_);go_simp;refine hK' _ _ ⟨DO.quiet (fun e he=>(by have hm:=mem_listed he;simp [go_sem,Instr.makeInterface,Instr.makeFunc] at hm)),?_⟩;clear hK' K)
  (refine Conc.Goes.step rfl (fun w₁ h₁=>?_);replace hK:=hK.rely h₁;clear h₁;rw [stepG_region_end];simp only [goes_go];refine⟨DO.none _,?_⟩);(refine Conc.Goes.step rfl (fun w₁ h₁=>?_);replace hK:=hK.rely h₁;clear h₁;rw [stepG_ret'];simp only [goes_go];refine⟨DO.none _,?_⟩);refine Conc.Goes.step rfl (fun w₁ h₁=>?_);replace hK:=hK.rely h₁;clear h₁
  rw [stepG_leave rfl rfl Try.func7 (results_tmp Try.results7 _ _ _) (events_results_tmp Try.results7 _ _)];simp only [goes_go];refine⟨DO.none _,?_⟩;exact Conc.Goes.stop (fun w₁ h₁=>⟨rfl,hK.rely h₁⟩)
end
section
variable {OB WB:Nat->Prop} {B:Nat} {Iv:Nat->World->Prop} {Mem:Nat->Prop} {Inb:Nat->Option Seat} {T:Trace} {gs:Array Goroutine} {w:World} {q:Nat->Nat} {sl:Option (Nat × Nat)}
abbrev zoV (self:Int) (z1 z2:Value) (quit:Nat):Array Value:=#[.int .i64 self,z1,z2,.pointer none,.bool false,.bool false,.chan (some quit)]
abbrev zdM (self:Int) (wb dn quit:Nat):Array Value:=#[.int .i64 self,pt wb,.chan (some dn),.pointer none,.bool true,.bool false,.chan (some quit)]
structure ztv (w:World) (tb:Nat) (me:Int) (quit ask gr:Nat) (w2:World):Prop where
  old:∀ x,x<w.heap.size->x≠tb->w2.heap[x]?=w.heap[x]?
  size:w2.heap.size=w.heap.size+4
  ask0:w.heap.size<=ask
  ask1:ask<w.heap.size+2
  gr0:w.heap.size<=gr
  gr1:gr<w.heap.size+2
  ne:ask≠gr
  hask:w2.heap[ask]?=some (.chan 0 #[] false 0 0 false)
  hgr:w2.heap[gr]?=some (.chan 0 #[] false 0 0 false)
  wb:w2.heap[w.heap.size+2]?=some (.cells (zhr me ask gr quit) 77 (0,0))
  dn:w2.heap[w.heap.size+3]?=some (.chan 1 #[] false 0 0 false)
  thr:w2.heap[tb]?=some (.cells (zdM me (w.heap.size+2) (w.heap.size+3) quit) 72 (0,0))
set_option maxRecDepth 100000 in
theorem zj2 {tb:Nat} {self:Int} {z1 z2:Value} {quit:Nat} {fn:Fn} {xs ys:Array Value} {cs:List Frame} (R:RingO Try.prog OB WB B Iv Mem Inb 0 T gs w q) (hlow:∀ b,zfv OB WB Inb b->b<w.heap.size) (hO:OB tb)
    (hrow:w.heap[tb]?=some (.cells (zoV self z1 z2 quit) 72 (0,0)))
    (hg:gs[0]?=some (Go.Conc.G ((base 7).at ⟨#[pt tb,.func fn xs ys,undef,undef,undef,undef,undef,undef,undef,undef,undef,undef,undef,undef,undef,undef,undef,undef,undef,undef,undef,undef,undef,undef,undef,undef,undef,undef,undef,undef,undef,undef,undef,undef,undef,undef,undef,undef,undef,undef,undef,undef,undef,undef,undef,undef,undef,undef,undef,undef,undef,undef,undef,undef,undef,undef],[]⟩ [.code zbD]) cs)) :
    Reach Try.prog (crowd gs w sl) T fun m T'=>∃ gs2 w2 sl2 q2 B2 ask gr v,m=crowd gs2 w2 sl2/\gs2.size=gs.size/\gs2[0]?=some (Go.Conc.G (goFr tb (.func fn xs ys) (w.heap.size+2) (w.heap.size+3) v [9]) cs)/\ztv w tb self quit ask gr w2/\RingO Try.prog OB (fun b=>WB b\/b=w.heap.size+2) B2 Iv Mem Inb 0 T' gs2 w2 q2:=by
  have hcell:∀ i v,(zoV self z1 z2 quit)[i]?=some v->w.cell? ⟨tb,i,none⟩=some v:=fun i v h=>by simp only [World.cell?,hrow];simpa using h
  have hfz:∀ o,w.frozen? ⟨tb,o,none⟩=false:=fun o=>by simp [World.frozen?,hrow]
  have htl:tb<w.heap.size:=zab hrow;have hWl:∀ b,WB b->b<w.heap.size:=fun b hb=>hlow b (.inr (.inl hb));have hSl:∀ i s c,Inb i=some s->s.has c->c<w.heap.size:=fun i s c hi hc=>hlow c (.inr (.inr ⟨i,s,hi,hc⟩));have ht:(∀ i s,Inb i=some s->¬ s.has tb)/\¬ WB tb:=⟨fun i s hi hs=>R.far i s tb hi hs hO,R.apart tb hO⟩;have hc0:=hcell 0 _ rfl;have hc1:=hcell 1 _ rfl;have hc2:=hcell 2 _ rfl;have hc4:=hcell 4 _ rfl;have hc5:=hcell 5 _ rfl;have hc6:=hcell 6 _ rfl;refine (zaM (sl:=sl) (h:=0) 60 hg (zmn (w0:=w) hc5 hc4 ⟨rfl⟩ cs) R).bind fun m1 T1=>?_;rintro ⟨gs1,g1,w1,sl1,q1,B1,rfl,s1,k1,⟨rfl,K1⟩,R1⟩;refine (zaM (sl:=sl1) (h:=0) 20 k1 (zlM (w0:=w) (quit:=quit) (me:=self) hc0 hc6 hWl hSl K1 _ cs) R1).bind fun m2 T2=>?_;rintro ⟨gs2,g2,w2,sl2,q2,B2,rfl,s2,k2,⟨l,a,fuel,t,rfl,hl,I,h11,hf⟩,R2⟩;obtain⟨ask,gr,hbox⟩:=zpf (k:=[.code zbN]) (cs:=cs) hl I h11 htl;obtain⟨d5,d6⟩:=I.d11 h11;have hsz2:w2.heap.size=w.heap.size+2:=by have:=I.size;simp only [d5,d6,if_true] at this;omega
  refine (zmw (OB:=OB) (WB:=WB) (B:=B2) (Iv:=Iv) (Mem:=Mem) (Inb:=Inb) (h:=0) (a':=Go.Conc.G ((base 7).at ⟨zat tb (.func fn xs ys) (vS (l.setIfInBounds 12 true) tb self quit ask gr (w.heap.size+2)),[]⟩ (.inRegion startOps3 (zhf startOps3 fuel t (l.setIfInBounds 12 true))::[.code zbN])) cs) (w0:=w2) (St:=fun w'=>InvB w tb (.func fn xs ys) self quit ask gr (l.setIfInBounds 12 true) ⟨zat tb (.func fn xs ys) (vS (l.setIfInBounds 12 true) tb self quit ask gr (w.heap.size+2)),[]⟩ w') (sl:=sl2) rfl (fun w1 hw1=>?_) _ rfl (Ro.refl _) k2 R2).bind fun m3 T3=>?_
  . obtain⟨a',h1,h2⟩:=hbox w1 (by rw [hw1.heap0])
    obtain rfl:=h2.act;refine⟨_,h1 _ _,DO.alloc (fun b hb=>?_) (fun e he=>by simp at he),h2⟩
    have:=hlow b hb;rw [hw1.size,hsz2];omega
  rintro ⟨gs3,w3,sl3,q3,rfl,s3,k3,I3,R3⟩;have R4:RingO Try.prog OB (fun b=>WB b\/b=w.heap.size+2) B2 Iv Mem Inb 0 T3 gs3 w3 q3:=by
    refine CoF.grow R3 (fun b h=>h) (fun b h=>.inl h) (fun b hb hW=>?_) (fun i s c hi hc hb=>R3.far i s c hi hc hb) (fun i a ha hO=>R3.past.own i a ha hO) (fun i a ha hw hS=>?_)
    . rcases hW with hW|rfl
      . exact R3.apart b hb hW
      . have:=hlow _ (.inl hb);omega
    . obtain⟨x,hx,hx2,hx3⟩:=hS;rcases hx2 with hx2|hx2
      . exact⟨x,hx,hx2,hx3⟩
      . have h1:=ziM R3.past.seen ha hx;have h2:=R2.lowB;omega
  have ht':(∀ i s,Inb i=some s->¬ s.has tb)/\¬ (WB tb\/tb=w.heap.size+2):=⟨ht.1,fun z=>z.elim ht.2 (by omega)⟩
  have hlow':∀ b,zfv OB (fun b=>WB b\/b=w.heap.size+2) Inb b->b<w.heap.size+3:=fun b hb=>by
    rcases hb with hb|(hb|rfl)|hb
    . have:=hlow b (.inl hb);omega
    . have:=hlow b (.inr (.inl hb));omega
    . omega
    . have:=hlow b (.inr (.inr hb));omega
  refine (zaM (sl:=sl3) (h:=0) _ k3 (zlE (w0:=w) hc0 hc6 (fun b hb=>hlow' b (.inr (.inl hb))) hSl ht' hc1 (hfz 1) (by simpa using hl) I3 hf _ cs) R4).bind fun m4 T4=>?_
  rintro ⟨gs4,g4,w4,sl4,q4,B4,rfl,s4,k4,⟨l4,a4,rfl,I4,hall⟩,R5⟩;obtain rfl:=I4.act;have d15:l4.getD 15 false=true:=hall 15 (by omega)
  have hthr4:w4.heap[tb]?=some (.cells (#[.int .i64 self,pt (w.heap.size+2),z2,.pointer none,.bool false,.bool false,.chan (some quit)]) 72 (0,0)):=by
    rw [I4.thr,if_pos d15,heap_setCell,if_pos rfl,hrow];simp [zoV]
  have hsz4:=I4.size;have hcell4:∀ i v,(#[.int .i64 self,pt (w.heap.size+2),z2,.pointer none,.bool false,.bool false,.chan (some quit)]:Array Value)[i]?=some v->w4.cell? ⟨tb,i,none⟩=some v:=fun i v h=>by simp only [World.cell?,hthr4];simpa using h
  refine (zaM (sl:=sl4) (h:=0) 60 k4 (zl3 (n0:=w4.heap.size) (w0:=w4) ⟨rfl,fun b hb=>by have:=hlow' b hb;omega,Nat.le_refl _⟩ ht' (hcell4 2 _ rfl) (hcell4 4 _ rfl) (fun o=>by simp [World.frozen?,hthr4]) cs) R5).bind fun m5 T5=>?_
  rintro ⟨gs5,g5,w5,sl5,q5,B5,rfl,s5,k5,⟨rfl,K5⟩,R6⟩;have hthr5:w5.heap[tb]?=some (.cells (zdM self (w.heap.size+2) w4.heap.size quit) 72 (0,0)):=by
    rw [K5.heap,heap_setCell,if_pos rfl,heap_setCell,if_pos rfl,zaD _ _ _ (by omega),hthr4]
    simp [zdM]
  have hold5:∀ x,x<w4.heap.size->x≠tb->w5.heap[x]?=w4.heap[x]?:=fun x hx hn=>by
    rw [K5.heap,heap_setCell,if_neg (fun (e:tb=x)=>hn e.symm),heap_setCell,if_neg (fun (e:tb=x)=>hn e.symm),zaD _ _ _ hx]
  have hdn5:w5.heap[w4.heap.size]?=some (.chan 1 #[] false 0 0 false):=by
    rw [K5.heap,heap_setCell,if_neg (show tb≠w4.heap.size by omega),heap_setCell,if_neg (show tb≠w4.heap.size by omega)];exact zbw _ _
  have hsz5:w5.heap.size=w4.heap.size+1:=by rw [K5.heap,zaE,zaE,zaH]
  rw [hsz4] at k5 hthr5 hdn5;refine (zaM (sl:=sl5) (h:=0) 12 k5 (zl6 (w0:=w5) (wb:=w.heap.size+2) (dn:=w.heap.size+3) (by simp [World.cell?,hthr5,zdM]) (by simp [World.cell?,hthr5,zdM]) ⟨rfl⟩ cs) R6).bind fun m6 T6=>?_
  rintro ⟨gs6,g6,w6,sl6,q6,B6,rfl,s6,k6,⟨rfl,K6⟩,R7⟩;have hne:∀ x,w.heap.size<=x->x≠tb:=fun x hx e=>by omega
  refine .here ⟨gs6,w6,sl6,q6,B6,ask,gr,_,rfl,by omega,k6,⟨fun x hx hn=>?_,by rw [K6.heap];omega,I4.hask.1,?_,I4.hgr.1,?_,I4.hne,?_,?_,?_,?_,?_⟩,R7⟩
  . rw [K6.heap,hold5 x (by omega) hn,I4.old x hx hn]
  . have h1:=zab I4.hask.2;have h2:ask≠w.heap.size+2:=fun e=>by have:=I4.hask.2;rw [e,I4.row] at this;cases this
    omega
  . have h1:=zab I4.hgr.2;have h2:gr≠w.heap.size+2:=fun e=>by have:=I4.hgr.2;rw [e,I4.row] at this;cases this
    omega
  . rw [K6.heap,hold5 _ (zab I4.hask.2) (hne _ I4.hask.1)];exact I4.hask.2
  . rw [K6.heap,hold5 _ (zab I4.hgr.2) (hne _ I4.hgr.1)];exact I4.hgr.2
  . rw [K6.heap,hold5 _ (zab I4.row) (hne _ (by omega))];exact I4.row
  . rw [K6.heap];exact hdn5
  . rw [K6.heap];exact hthr5
end
section
variable {OB WB:Nat->Prop} {B:Nat} {Iv:Nat->World->Prop} {Mem:Nat->Prop} {Inb:Nat->Option Seat} {T:Trace} {gs:Array Goroutine} {w:World} {q:Nat->Nat} {sl:Option (Nat × Nat)}
theorem zlP {OB WB:Nat->Prop} {Inb:Nat->Option Seat} {h:Nat} {fb:FuncId} {xs ys:Array Value} {wb dn:Nat} (w0 w:World) (hK:KR0 OB WB Inb w0 w) :
    Conc.Goes Try.prog false (Ro OB h) (DO OB WB Inb h) (fun g w'=>g=Go.Conc.G (zcd (.func (.func fb) xs ys) wb dn w0.heap.size [3]) [botF]/\KR1 OB WB Inb w0 dn w') 41 (born Try.prog (zlR (.func (.func fb) xs ys) (pt wb) (.chan (some dn)))) w:=by
  refine Conc.Goes.step rfl (fun w₁ h₁=>?_);replace hK:=hK.rely h₁;clear h₁;rw [zmY];simp only [goes_go];exact⟨DO.none _,zmA w0 w₁ hK⟩
set_option maxRecDepth 100000 in
theorem zko {tb:Nat} {self:Int} {quit:Nat} {fb:FuncId} {xs ys:Array Value} {cs:List Frame} {w2:World} {ask gr:Nat} {v:Nat->Value} {wb dn:Nat} (R:RingO Try.prog OB WB B Iv Mem Inb 0 T gs w2 q) (hM0:Mem 0) (hlow:∀ b,zfv OB WB Inb b->b<wb+1) (hO:OB tb) (hW:WB wb) (h0:wb<w2.heap.size)
    (hgsN:∀ i,gs.size<=i->Inb i=none) (hfr:∀ i s c,Inb i=some s->s.has c->c≠ask/\c≠dn) (hOa:¬ OB ask) (hOd:¬ OB dn) (hne:ask≠dn)
    (hask:w2.heap[ask]?=some (.chan 0 #[] false 0 0 false)) (hdn:w2.heap[dn]?=some (.chan 1 #[] false 0 0 false)) (hwb:w2.heap[wb]?=some (.cells (zhr self ask gr quit) 77 (0,0))) (hthr:w2.heap[tb]?=some (.cells (zdM self wb dn quit) 72 (0,0)))
    (hg:gs[0]?=some (Go.Conc.G (goFr tb (.func (.func fb) xs ys) wb dn v [9]) cs)) :
    Reach Try.prog (crowd gs w2 sl) T fun m T'=>∃ gs2 w3 sl2 q2 B2,m=crowd gs2 w3 sl2/\gs2.size=gs.size+1/\gs2[gs.size]?=some (Go.Conc.G (zcd (.func (.func fb) xs ys) wb dn w2.heap.size [3]) [botF]) /\
      (∀ b,¬ OB b->b<w2.heap.size->w3.heap[b]?=w2.heap[b]?)/\w3.heap.size=w2.heap.size+1/\w3.heap[w2.heap.size]?=some (.cells #[.chan (some dn)] 101 (0,0))/\¬ OB w2.heap.size /\
      RingO Try.prog OB WB B2 (IvN OB (w2.setCell ⟨tb,3,none⟩ (.pointer none))) (fun g=>Mem g\/g=gs.size) (fun i=>if i=0 then some (zbR tb wb dn ask (zct tb (.func (.func fb) xs ys) wb dn v [1]::cs)) else Inb i) gs.size T' gs2 w3 q2:=by
  let sG:Seat:=zbR tb wb dn ask (zct tb (.func (.func fb) xs ys) wb dn v [1]::cs)
  let wN:World:=w2.setCell ⟨tb,3,none⟩ (.pointer none)
  let Inb1:Nat->Option Seat:=fun i=>if i=0 then some sG else Inb i
  have htl:tb<w2.heap.size:=zab hthr;have hal:ask<w2.heap.size:=zab hask;have hdl:dn<w2.heap.size:=zab hdn;have hgl:0<gs.size:=(Array.getElem?_eq_some_iff.1 hg).1;have hap:=R.apart;have R3:RingO Try.prog OB WB w2.heap.size (IvN OB wN) Mem Inb 0 T gs w2 q:=(CoF.mono R.lowB (Nat.le_refl _) R).iv (fun i w w1 hr hi h b hb=>(hr.2 h b hb).trans (hi h b hb)) (fun i s w' hi _ _ h=>absurd h hi);have R4:RingO Try.prog OB WB w2.heap.size (IvN OB wN) Mem Inb1 0 T gs w2 q:=R3.reseat hM0 sG (zk7 _ _ _ _ _ hne)
    (fun c hcc=>by rcases zbT hcc with rfl|rfl;exact⟨_,_,hask⟩;exact⟨_,_,hdn⟩)
    (fun c hcc=>by rcases zbT hcc with rfl|rfl;exact hOa;exact hOd)
    (fun c hcc=>by rcases zbT hcc with rfl|rfl;exact hal;exact hdl)
    (fun i s' c hi hs hx hcc=>by
      obtain⟨h1,h2⟩:=hfr i s' c hs hx;rcases zbT hcc with z|z
      . exact h1 z
      . exact h2 z)
  refine (zsX (P:=Try.prog) (gs:=gs) (h:=0) (nh:=46) (Inb:=Inb1) hM0 rfl (fun main w=>zjJ tb _ wb dn v cs main w) (fun i hi=>?_) (by show (if 0=0 then some sG else _)≠none;simp) w2 (fun T' w1 _ hw1=>?_) _ (sl:=sl) rfl rfl (SideD.refl _) hg R4).bind fun m T3=>?_
  . show (if i=0 then some sG else Inb i)=none
    rw [if_neg (by omega)];exact hgsN i hi
  . have hh1:w1.heap=w2.heap:=Array.ext_getElem? fun b=>hw1.only b fun z=>z.2 rfl;have hKG:KG OB WB w2 tb wb dn ask w1:=⟨fun b _=>by rw [hh1],hO,hW,by simp [World.cell?,hthr,zdM],by simp [World.cell?,hthr,zdM],⟨.pointer none,by simp [World.cell?,hthr,zdM]⟩,by simp [World.frozen?,hthr],by rw [zaZ w2 _ _ (by rw [hh1])];simp [World.cell?,hwb,zhr]⟩
    refine .inl ⟨45,rfl,?_⟩;exact zd2 (fun g w h=>⟨h.1,fun _ b hb=>h.2.own b hb⟩) (zmv (B:=w2.heap.size) (v:=v) hKG (fun e=>hap tb hO (e ▸ hW)) htl h0 cs)
  rintro ⟨gs3,w1,sl3,q3,rfl,b1,b2,b3,R5⟩;have hh1:w1.heap=w2.heap:=Array.ext_getElem? fun b=>b3.only b fun z=>z.2 rfl;have hb0:(gs.size==0)=false:=beq_eq_false_iff_ne.2 (by omega)
  have hlow1:∀ b,zfv OB WB Inb1 b->b<w1.heap.size:=fun b hb=>by
    rw [hh1];rcases hb with hb|hb|⟨i,s,hi,hs⟩
    . have:=hlow b (.inl hb);omega
    . have:=hlow b (.inr (.inl hb));omega
    . have hi:(if i=0 then some sG else Inb i)=some s:=hi
      by_cases z:i=0
      . rw [if_pos z] at hi;cases hi;rcases zbT hs with rfl|rfl
        . exact hal
        . exact hdl
      . rw [if_neg z] at hi;have:=hlow b (.inr (.inr ⟨i,s,hi,hs⟩));omega
  have hgo:=zlP (OB:=OB) (WB:=WB) (Inb:=Inb1) (h:=gs.size) (fb:=fb) (xs:=xs) (ys:=ys) (wb:=wb) (dn:=dn) w1 w1 ⟨hlow1,fun _ _=>rfl,rfl⟩;rw [<-hb0] at hgo;refine (zaM (sl:=sl3) (h:=gs.size) 41 b2 hgo R5).bind fun m4 T4=>?_;rintro ⟨gs4,g4,w4,sl4,q4,B4,rfl,s4,k4,⟨rfl,K4⟩,R6⟩;rw [hh1] at k4;refine .here ⟨gs4,w4,sl4,q4,B4,rfl,by omega,k4,fun b hb hl=>?_,?_,?_,?_,R6⟩
  . rw [K4.old b hb (by rw [hh1];exact hl),hh1]
  . rw [K4.size,hh1]
  . rw [<-hh1];exact K4.box
  . rw [<-hh1];exact K4.bO
end
abbrev zdS (S:St) (k:Nat) (self:Int) (quit ask gr gid dn:Nat):St:=S.set k (.thr self quit false true (some (S.length,gid,dn)) none)++[.wp self 0 ask gr quit]++[.box dn]
section
variable {S:St} {k:Nat} {self:Int} {quit ask gr gid dn:Nat} {cl bz:Bool} {cur:Option (Nat × Nat × Nat)} {pend:Option Nat}
theorem zeY:(zdS S k self quit ask gr gid dn).length=S.length+2:=by simp
theorem zeu (hk:k<S.length):(zdS S k self quit ask gr gid dn)[k]?=some (.thr self quit false true (some (S.length,gid,dn)) none):=by
  rw [List.getElem?_append_left (by simp;omega),List.getElem?_append_left (by simpa using hk),List.getElem?_set_self hk]
theorem zfC:(zdS S k self quit ask gr gid dn)[S.length]?=some (.wp self 0 ask gr quit):=by
  rw [List.getElem?_append_left (by simp),List.getElem?_append_right (by simp)];simp
theorem zlr:(zdS S k self quit ask gr gid dn)[S.length+1]?=some (.box dn):=by
  rw [List.getElem?_append_right (by simp)];simp
theorem zem {i:Nat} {ob:Ob} (hi:S[i]?=some ob) (hne:i≠k):(zdS S k self quit ask gr gid dn)[i]?=some ob:=by
  have:=zaL hi;rw [List.getElem?_append_left (by simp;omega),List.getElem?_append_left (by simpa using this),List.getElem?_set_ne (Ne.symm hne)];exact hi
theorem zbV {i:Nat} {ob:Ob} (h:(zdS S k self quit ask gr gid dn)[i]?=some ob):(i=k/\ob=.thr self quit false true (some (S.length,gid,dn)) none)\/(i≠k/\S[i]?=some ob)\/(i=S.length/\ob=.wp self 0 ask gr quit)\/(i=S.length+1/\ob=.box dn):=by
  have hl:=zaL h;rw [zeY] at hl;rcases Nat.lt_or_ge i S.length with hi|hi
  . by_cases e:i=k
    . subst e;rw [zeu hi] at h;exact .inl ⟨rfl,(Option.some.inj h).symm⟩
    . refine .inr (.inl ⟨e,?_⟩);rw [List.getElem?_append_left (by simp;omega),List.getElem?_append_left (by simpa using hi),List.getElem?_set_ne (Ne.symm e)] at h;exact h
  . rcases Nat.eq_or_lt_of_le hi with e|e
    . subst e;rw [zfC] at h;exact .inr (.inr (.inl ⟨rfl,(Option.some.inj h).symm⟩))
    . obtain rfl:i=S.length+1:=by omega
      rw [zlr] at h;exact .inr (.inr (.inr ⟨rfl,(Option.some.inj h).symm⟩))
variable (hthr:S[k]?=some (Ob.thr self quit cl bz cur pend))
include hthr
theorem zip {i s c:Nat} (h:ChS (zdS S k self quit ask gr gid dn) i s c):ChS S i s c\/(i=k/\s=3/\c=dn)\/(i=S.length/\s=1/\c=ask)\/(i=S.length/\s=2/\c=gr):=by
  cases h with
  | quit h =>
    rcases zbV h with ⟨rfl,z⟩|⟨_,z⟩|⟨_,z⟩|⟨_,z⟩
    . cases z;exact .inl (.quit hthr)
    . exact .inl (.quit z)
    . cases z
    . cases z
  | done h =>
    rcases zbV h with ⟨rfl,z⟩|⟨_,z⟩|⟨_,z⟩|⟨_,z⟩
    . cases z;exact .inr (.inl ⟨rfl,rfl,rfl⟩)
    . exact .inl (.done z)
    . cases z
    . cases z
  | ask h =>
    rcases zbV h with ⟨rfl,z⟩|⟨_,z⟩|⟨e,z⟩|⟨_,z⟩
    . cases z
    . exact .inl (.ask z)
    . cases z;exact .inr (.inr (.inl ⟨e,rfl,rfl⟩))
    . cases z
  | grant h =>
    rcases zbV h with ⟨rfl,z⟩|⟨_,z⟩|⟨e,z⟩|⟨_,z⟩
    . cases z
    . exact .inl (.grant z)
    . cases z;exact .inr (.inr (.inr ⟨e,rfl,rfl⟩))
    . cases z
end
section
variable {p:Par} {Su:SuT} {S:St} {F F':Emb} {N C:Nat} {Inb:Nat->Option Seat} {gs gs':Array Goroutine} {w w':World} {T T':Trace}
theorem Com.born (H:Com p Su S F N C Inb gs w T) (hr:p.run=none) (hs0:p.seat0=none) (hSu:zcu Su) (hC:C=S.length) {k:Nat} {self:Int} {quit ask gr dn wb:Nat} {cur:Option (Nat × Nat × Nat)} {pend:Option Nat} (hthr:S[k]?=some (.thr self quit false false cur pend)) {sG:Seat} {Iv:Nat->World->Prop} {PX:Nat->Prop} {wR:World} {FR:Emb} {NR CR n0':Nat} {w0':World}
    (hgs:0<gs.size) (hF:Same (Kn N C) F F') (hb:F'.blk (VB+S.length)=wb) (hs:w.heap.size<=w'.heap.size) (hsz:gs'.size=gs.size+1) (hW:∀ b,p.WB b->b<w.heap.size) (hk:∀ x,x<w.heap.size->¬ p.OB x->w'.heap[x]?=w.heap[x]?)
    (ha:w.heap.size<=ask) (hg:w.heap.size<=gr) (hd:w.heap.size<=dn) (hwn:w.heap.size<=wb) (hag:ask≠gr) (had:ask≠dn) (hgd:gr≠dn) (hwa:wb≠ask) (hwg:wb≠gr) (hwd:wb≠dn) (cask:ChanO w' ask 0) (cgr:ChanO w' gr 0) (cdn:ChanO w' dn 1)
    (hring:∃ B Mem q,RingO Try.prog p.OB (fun b=>p.WB b\/b=wb) B Iv Mem (fun i=>if i=0 then some sG else Inb i) gs.size T' gs' w' q/\Mem 0/\Mem gs.size) :
    Com ⟨gs.size,some k,p.OB,fun b=>p.WB b\/b=wb,Iv,some sG,PX,wR,FR,NR,CR,n0',w0'⟩ Su (zdS S k self quit ask gr gs.size dn) F' N (C+2) (fun i=>if i=0 then some sG else Inb i) gs' w' T':=by
  subst hC;have t:=H.tab;have hkl:=zaL hthr;have hbl:∀ i,i<S.length->F'.blk (VB+i)=F.blk (VB+i):=fun i hi=>((hF (VB+i) (.inr ⟨by omega,by omega⟩)).1).symm
  have hclow:∀ {i s c},ChS S i s c->c<w.heap.size:=fun {i s c} h=>by
    obtain⟨⟨_,_,_,_,_,_,h1⟩,_⟩:=t.far _ _ _ h;exact zab h1
  have hkc:∀ {i s c cap},ChS S i s c->ChanO w c cap->ChanO w' c cap:=fun {i s c cap} hc ⟨m,hm⟩=>⟨m,(hk c (hclow hc) (t.far _ _ _ hc).2.1).trans hm⟩;have hnew:∀ {c cap},w.heap.size<=c->wb≠c->ChanO w' c cap->zbd w' c/\¬ p.OB c/\¬ (p.WB c\/c=wb):=fun {c cap} h1 h2 h3=>⟨h3.is,fun z=>by have:=t.olow _ z;omega,fun z=>z.elim (fun z=>by have:=hW _ z;omega) fun z=>h2 z.symm⟩
  refine⟨hring,⟨fun b=>?_,fun b=>?_,fun k s c k' s' h1 h2=>?_,fun k s c h=>?_,fun b hO=>Nat.lt_of_lt_of_le (t.olow b hO) hs,fun k a b c d e h=>?_,fun i a b c d e h=>?_⟩,?_,fun i se hi=>?_,fun i a b c d e f g h=>?_,H.n0,by rw [zeY];exact Nat.le_refl _⟩
  . constructor
    . intro h;obtain⟨i,a1,a2,a3,a4,a5,a6,a7,a8⟩:=(t.obs b).1 h;by_cases z:i=k
      . subst z;exact⟨i,_,_,_,_,_,_,zeu hkl,by rw [hbl i hkl];exact a8⟩
      . exact⟨i,_,_,_,_,_,_,zem a7 z,by rw [hbl i (zaL a7)];exact a8⟩
    . rintro ⟨i,a1,a2,a3,a4,a5,a6,a7,a8⟩;rcases zbV a7 with ⟨rfl,_⟩|⟨_,h⟩|⟨_,h⟩|⟨_,h⟩
      . exact (t.obs b).2 ⟨i,_,_,_,_,_,_,hthr,by rw [<-hbl i hkl];exact a8⟩
      . exact (t.obs b).2 ⟨i,_,_,_,_,_,_,h,by rw [<-hbl i (zaL h)];exact a8⟩
      . cases h
      . cases h
  . constructor
    . rintro (h|rfl)
      . obtain⟨i,a1,a2,a3,a4,a5,a7,a8⟩:=(t.wbs b).1 h;refine⟨i,_,_,_,_,_,zem a7 (fun e=>?_),by rw [hbl i (zaL a7)];exact a8⟩
        rw [e,hthr] at a7;cases a7
      . exact⟨S.length,_,_,_,_,_,zfC,hb.symm⟩
    . rintro ⟨i,a1,a2,a3,a4,a5,a7,a8⟩;rcases zbV a7 with ⟨_,h⟩|⟨_,h⟩|⟨rfl,_⟩|⟨_,h⟩
      . cases h
      . exact .inl ((t.wbs b).2 ⟨i,_,_,_,_,_,h,by rw [<-hbl i (zaL h)];exact a8⟩)
      . exact .inr (a8.trans hb)
      . cases h
  . rcases zip hthr h1 with h1|⟨e1,e2,e3⟩|⟨e1,e2,e3⟩|⟨e1,e2,e3⟩<;>rcases zip hthr h2 with h2|⟨f1,f2,f3⟩|⟨f1,f2,f3⟩|⟨f1,f2,f3⟩
    . exact t.dist _ _ _ _ _ h1 h2
    all_goals first
      | exact⟨by omega,by omega⟩
      | (have:=hclow h1;omega)
      | (have:=hclow h2;omega)
      | omega
  . rcases zip hthr h with h|⟨_,_,rfl⟩|⟨_,_,rfl⟩|⟨_,_,rfl⟩
    . obtain⟨h1,h2,h3⟩:=t.far _ _ _ h;have:=hclow h;refine⟨?_,h2,fun z=>z.elim h3 fun z=>?_⟩
      . obtain⟨b1,b2,b3,b4,b5,b6,b7⟩:=h1;exact⟨b1,b2,b3,b4,b5,b6,(hk c this h2).trans b7⟩
      . omega
    . exact hnew hd hwd cdn
    . exact hnew ha hwa cask
    . exact hnew hg hwg cgr
  . rcases zbV h with ⟨_,h⟩|⟨_,h⟩|⟨_,h⟩|⟨_,h⟩
    . cases h;exact hkc (.quit hthr) (t.quit _ _ _ _ _ _ hthr)
    . exact hkc (.quit h) (t.quit _ _ _ _ _ _ h)
    . cases h
    . cases h
  . rcases zbV h with ⟨_,h⟩|⟨_,h⟩|⟨_,h⟩|⟨_,h⟩
    . cases h;exact⟨rfl,_,_,_,_,_,_,_,rfl,zfC,cask,cgr,cdn,hgs,by omega,zlr⟩
    . obtain⟨h1,hp,gid,dn,ws,st,ak,gr,rfl,h3,h4,h5,h6,h7,h8,h9⟩:=t.busy _ _ _ _ _ _ h;refine⟨h1,hp,gid,dn,ws,st,ak,gr,rfl,zem h3 (fun z=>?_),hkc (.ask h3) h4,hkc (.grant h3) h5,hkc (.done h) h6,h7,by omega,zem h9 (fun z=>?_)⟩
      . rw [z,hthr] at h3;cases h3
      . rw [z,hthr] at h9;cases h9
    . cases h
    . cases h
  . show (if 0=0 then some sG else _)=some sG
    rw [if_pos rfl]
  . show i≠gs.size/\i<gs'.size/\_;by_cases z0:i=0
    . exact⟨by omega,by omega,fun h=>absurd z0 h⟩
    have hi:(if i=0 then some sG else Inb i)=some se:=hi
    rw [if_neg z0] at hi;obtain⟨_,h2,h3⟩:=H.seats i se hi;refine⟨by omega,by omega,fun _=>?_⟩
    obtain⟨j,a1,a2,a3,a4,a5,a6,_,a8⟩:=h3 z0;have hjk:j≠k:=fun e=>by
      rw [e,hthr] at a8;cases a8
    exact⟨j,a1,a2,a3,a4,a5,a6,fun e=>hjk (Option.some.inj e).symm,zem a8 hjk⟩
  . rcases zbV h with ⟨rfl,y⟩|⟨hne,h⟩|⟨_,h⟩|⟨_,h⟩
    . cases y;exact⟨fun _=>rfl,fun z=>absurd rfl z⟩
    . obtain⟨_,h2⟩:=H.waits _ _ _ _ _ _ _ _ h;refine⟨fun e=>absurd (Option.some.inj e).symm hne,fun _=>?_⟩;obtain⟨ws,st,ak,gr,ab,x,y,cs,h3,h4,h5⟩:=h2 (by rw [hr];simp)
      obtain⟨_,_,_,_,_,_,_,_,z1,_,_,_,_,z2,_⟩:=t.busy _ _ _ _ _ _ h;cases z1;refine⟨ws,st,ak,gr,ab,x,y,cs,zem h3 (fun z=>?_),?_,?_⟩
      . rw [z,hthr] at h3;cases h3
      . show (if e=0 then some sG else Inb e)=_
        rw [if_neg (by omega),hbl d (zaL h3)];exact h4
      . rw [hbl d (zaL h3)];exact hSu _ _ _ _ _ _ _ _ _ _ h5 hF (Nat.le_refl _) (by omega)
    . cases h
    . cases h
end
section
variable (hok:∀ mn OB WB,zau mn OB WB)
variable {OB WB:Nat->Prop} {F F':Emb} {hs:AHeap} {S:St} {w w2:World}
theorem zoa {k:Nat} {self:Int} {quit ask gr gid dn wb:Nat} {cl bz:Bool} {cur:Option (Nat × Nat × Nat)} {pend:Option Nat} (hthr:S[k]?=some (Ob.thr self quit cl bz cur pend)) (H:RInv (XM hok OB WB) F (.run [] [] hs S) w)
    (hF:Same (Kn hs.next S.length) F F') (hb1:F'.blk (VB+S.length)=wb) (hb2:F'.base (VB+S.length)=0) (hb3:F'.blk (VB+(S.length+1))=w2.heap.size) (hb4:F'.base (VB+(S.length+1))=0) (hwb:w.heap.size<=wb) (hWl:∀ b,WB b->b<w.heap.size) (hwl:wb<w2.heap.size)
    (hold:∀ x,x<w.heap.size->x≠F.blk (VB+k)->w2.heap[x]?=w.heap[x]?) (hrwb:w2.heap[wb]?=some (.cells (zhr self ask gr quit) 77 (0,0))) (hrtb:w2.heap[F.blk (VB+k)]?=some (.cells (zdM self wb dn quit) 72 (0,0))) :
    RInv (XM hok OB fun b=>WB b\/b=wb) F' (.run [] [] hs (zdS S k self quit ask gr gid dn)) (w2.alloc (.cells #[.chan (some dn)] 101)):=by
  have hkl:=zaL hthr;have R:Rep true OB WB F S w:=H.1.rep;obtain⟨_,_,_,hrow⟩:=R.at' _ _ hthr rfl;have htl:F.blk (VB+k)<w.heap.size:=zab hrow;have hvl:∀ x,Vis (XM hok OB WB) F (.run [] [] hs S) x->x<w.heap.size:=fun x hx=>by
    obtain⟨_,_,_,h1⟩:=zcX (XF.soft (hok _ _ _)) H hx;exact zab h1
  generalize htb:F.blk (VB+k)=tb at *;have htb':F'.blk (VB+k)=tb:=by rw [<-htb];exact ((hF (VB+k) (.inr ⟨by omega,by omega⟩)).1).symm
  have htl2:tb<w2.heap.size:=zab hrtb
  -- the port's row comes
  let wA:World:={ w2 with heap:=w2.heap.setIfInBounds tb (.cells (zaO F self quit cl bz cur pend) 72 (0,0)) }
  have hA:∀ x,x≠tb->wA.heap[x]?=w2.heap[x]?:=fun x hx=>Array.getElem?_setIfInBounds_ne (Ne.symm hx);have hAt:wA.heap[tb]?=w.heap[tb]?:=by
    rw [hrow];exact Array.getElem?_setIfInBounds_self_of_lt htl2
  have h1:RInv (XM hok OB fun b=>WB b\/b=wb) F' (.run [] [] hs (S++[.wp self 0 ask gr quit])) wA:=by
    refine zgc hok (w:=w) rfl (fun _ h=>h) (fun _ h=>.inl h) hF hb2 H (fun hv=>?_) (fun b hb=>?_) (fun x hx=>?_) ?_ (fun z=>?_) (by show _<=(w2.heap.setIfInBounds _ _).size;rw [Array.size_setIfInBounds];omega)
    . have:=hvl _ hv;omega
    . rcases hb with hb|rfl
      . exact .inl hb
      . exact .inr ⟨hb1.symm,_,_,_,_,_,rfl⟩
    . by_cases e:x=tb
      . rw [e];exact hAt
      . rw [hA x e];exact hold x (hvl x hx) e
    . refine⟨.inr hb1,none,(0,0),?_⟩;rw [hb1,hA wb (by omega),hrwb]
      rfl
    . rw [hb1] at z;have:=hWl _ z;omega
  -- the thread's row turns
  have hk1:(S++[Ob.wp self 0 ask gr quit])[k]?=some (.thr self quit cl bz cur pend):=by rw [List.getElem?_append_left hkl];exact hthr
  have h2:=ze9 hok (w':=w2) (a':=self) (b':=quit) (c':=false) (d':=true) (e':=some (S.length,gid,dn)) (f':=none) hk1 (fun c hc=>by cases hc;simp) (fun p hp=>by cases hp) h1 (fun x _ hx=>by rw [htb'] at hx;exact (hA x hx).symm) (by
    rw [htb',hrtb];simp [zaO,zdM,ptrO,hb1,chV]) (by show (w2.heap.setIfInBounds _ _).size<=_;rw [Array.size_setIfInBounds];exact Nat.le_refl _)
  rw [List.set_append_left _ _ hkl] at h2;have hl2:(S.set k (.thr self quit false true (some (S.length,gid,dn)) none)++[Ob.wp self 0 ask gr quit]).length=S.length+1:=by simp
  have hvl2:∀ x,Vis (XM hok OB fun b=>WB b\/b=wb) F' (.run [] [] hs (S.set k (.thr self quit false true (some (S.length,gid,dn)) none)++[Ob.wp self 0 ask gr quit])) x->x<w2.heap.size:=fun x hx=>by
    obtain⟨_,_,_,h1⟩:=zcX (XF.soft (hok _ _ _)) h2 hx;exact zab h1
  -- the box comes
  refine zgc hok (w:=w2) (OB:=OB) (WB:=fun b=>WB b\/b=wb) rfl (fun _ h=>h) (fun _ h=>h) (Same.refl _ _) (by rw [hl2];exact hb4) h2 (fun hv=>?_) (fun b hb=>.inl hb) (fun x hx=>zaD _ _ _ (hvl2 x hx)) ?_ (fun z=>?_) (by rw [zaH];omega)
  . have:=hvl2 _ hv;rw [hl2,hb3] at this;omega
  . show (w2.alloc _).heap[F'.blk (VB+(S.set k _++[Ob.wp self 0 ask gr quit]).length)]?=_;rw [hl2,hb3];exact zbw _ _
  . rw [hl2,hb3] at z;rcases z with z|z
    . have:=hWl _ z;omega
    . omega
end
section
variable {P:Program} {main:Bool} {b:Frame} {a:Act} {k:List Item} {cs:List Frame} {w:World}
theorem zjS {ops:Array Oper} {i:Nat} {rest:List Nat} {o:Oper} {f:FuncId} {fn:Func} {x:Operand} {args:Array Operand} {ats:Array TypeId} {xs ys:Array Value} (ho:ops[i]?=some o) (hw:Region.wanted o (yielded ops a.tmps)=true) (hk:b.kind≠.early) (hop:o.op=.call { callee:=.value x,args,argTypes:=ats })
    (ef:a.eval x=.func (.func f) xs ys) (hf:P.funcs[f]?=some fn) (hgo:goB fn=true) :
    stepG P main (Go.Conc.G (b.at a (.inRegion ops (i::rest)::k)) cs) w=.go (Go.Conc.G (Frame.enter P f (xs++args.map a.eval++ys) .normal) (b.at a (.inRegion ops (i::rest)::k)::cs)) w #[]:=by
  unfold goB at hgo;rw [Bool.and_eq_true] at hgo;have h1 : ¬ fn.name = "runtime.NumGoroutine" := by simpa using hgo.2
  have h2:¬ fn.body=none:=by have:=hgo.1;cases hx:fn.body<;>simp_all
  have hr:(execOp a.eval o).run P w=.ok (.enter f (xs++args.map a.eval++ys)) w:=by
    unfold execOp;simp [hop,resolve,Deferred.ofValue,ef,invoke,callFunc,hf,h1,h2]
  have he:listed P b.fn a o w=#[]:=by
    unfold listed;have:(execOp a.eval o).events P w #[]=#[]:=by
      unfold execOp;simp [hop,resolve,Deferred.ofValue,ef,invoke,callFunc,hf,h1,h2]
    rw [this];exact seen_none P _
  rw [stepG_enter ho hw hk hr,he]
end
theorem ziv:rootOps2.size=4:=by kernel_rfl
set_option maxRecDepth 100000 in
theorem znG {fb:FuncId} {fn:Func} {xs ys:Array Value} {wb dn bx:Nat} (hf:Try.prog.funcs[fb]?=some fn) (hgo:goB fn=true) (main:Bool) (w:World) :
    stepG Try.prog main (Go.Conc.G (zcd (.func (.func fb) xs ys) wb dn bx [3]) [botF]) w=.go (Go.Conc.G (Frame.enter Try.prog fb (xs++#[.iface 68 (pt wb)]++ys) .normal) [zcd (.func (.func fb) xs ys) wb dn bx [3],botF]) w #[]:=by
  obtain⟨o,ho⟩:∃ o,rootOps2[3]?=some o:=⟨_,Array.getElem?_eq_getElem (by rw [ziv];omega)⟩
  have ho':=ho;simp only [rootOps2,ziJ,cOps,cL,cR,Try.f30,Option.getD_some] at ho';simp only [List.getElem?_toArray,List.getElem?_cons_succ,List.getElem?_cons_zero,Option.some.injEq] at ho';subst ho';unfold zcd;rw [zjS ho (by simp [Region.wanted]) (by decide) rfl rfl hf hgo]
  simp [Act.eval]
section
variable (hok:∀ mn OB WB,zau mn OB WB)
variable {Γ:Type} {Pr:Proto Γ}
variable {n00:Nat} {w00:World}
variable {p:Par} {S:St} {F:Emb} {Inb:Nat->Option Seat} {gs:Array Goroutine} {w:World} {T:Trace} {sl:Option (Nat × Nat)}
def zeX (Pr:Proto Γ) (k hp:Nat) (fb:FuncId) (xs ys:Array Value) (hs:AHeap) (S:St) (γ:Γ):Prop :=
  ∃ (fn:Func) (cd:Code),Try.prog.funcs[fb]?=some fn/\goB fn=true/\fn.body=some cd/\GE OF (SpB Pr k hp) fn (fun c γ'=>∃ v h1 S1,c=.done v h1 S1/\EndB Pr k h1 S1 γ') (.run (zag fn cd (xs++#[Value.iface 68 (hndV hp)]++ys)).1 (zag fn cd (xs++#[Value.iface 68 (hndV hp)]++ys)).2 hs S) (γ,S)
theorem zlv {γ γ1:Γ} {hs hs':AHeap} {k fb quit:Nat} {self:Int} {xs ys:Array Value} {cur:Option (Nat × Nat × Nat)} {fr:Frame} {cs:List Frame} (hC:ClM n00 w00 () (γ,S) p) (hthr:S[k]?=some (.thr self quit false false cur none)) (hl:LendH hs hs') (hfu:Pr.fuel γ1<=Pr.fuel γ) (hph1:∀ i,i≠k->Pr.ph γ1 i=Pr.ph γ i)
    (hrun:∀ ask gr gid dn,zeX Pr k S.length fb xs ys hs' (zdS S k self quit ask gr gid dn) γ1) (hxs:∀ u∈xs,Stab (Kn hs.next S.length) F u) (hys:∀ u∈ys,Stab (Kn hs.next S.length) F u) (H:Standing p hok (SuM hok Pr () γ) S F (.run [] [] hs S) Inb gs w T)
    (hg:gs[0]?=some (Go.Conc.G ((base 7).at ⟨#[pt (F.blk (VB+k)),.func (.func fb) (xs.map (ren F)) (ys.map (ren F)),undef,undef,undef,undef,undef,undef,undef,undef,undef,undef,undef,undef,undef,undef,undef,undef,undef,undef,undef,undef,undef,undef,undef,undef,undef,undef,undef,undef,undef,undef,undef,undef,undef,undef,undef,undef,undef,undef,undef,undef,undef,undef,undef,undef,undef,undef,undef,undef,undef,undef,undef,undef,undef,undef],[]⟩ [.code zbD]) (fr::cs))) :
    Reach Try.prog (crowd gs w sl) T fun m T'=>∃ (d:BD Γ) (F':Emb) (tb wb ask gr dn:Nat) (fv:Value) (v:Nat->Value),Same (Kn hs.next S.length) F F'/\d.p.FR=F'/\d.k=k/\d.hp=S.length/\d.self=self/\d.quit=quit/\d.p.h=gs.size/\d.dn=dn/\d.S=zdS S k self quit ask gr gs.size dn/\d.γ=γ1/\zm6 hok Pr n00 w00 d hs hs' hs.next (S.length+2) (zct tb fv wb dn v [1]) (fr::cs) m T':=by
  obtain⟨h0,hrun0,hseat,hPX,hn00,hw00⟩:=hC;have hX:=zdh hok h0;have hinv:RInv (XM hok p.OB p.WB) F (.run [] [] hs S) w:=hX ▸ H.inv;have Rp:Rep true p.OB p.WB F S w:=hinv.1.rep;obtain⟨hOtb,_,_,hrtb⟩:=Rp.at' _ _ hthr rfl;have hkl:=zaL hthr;have hV:hs.next<=VB:=hinv.2;obtain⟨B0,Mem0,q0,R0,hM0,_⟩:=H.com.ring;rw [h0] at R0;have hlow:=zfE H.com H.wrow;have t:=H.com.tab;have hgl:0<gs.size:=(Array.getElem?_eq_some_iff.1 hg).1;have hgsN:∀ i,gs.size<=i->Inb i=none:=fun i hi=>by
    cases e:Inb i with
    | none=>rfl
    | some s=>have:=(H.com.seats i s e).2.1;omega
  have hWl:∀ b,p.WB b->b<w.heap.size:=fun b hb=>hlow b (.inr (.inl hb));have hvl:∀ x,Vis (XM hok p.OB p.WB) F (.run [] [] hs S) x->x<w.heap.size:=fun x hx=>by
    obtain⟨_,_,_,h1⟩:=zcX (XF.soft (hok _ _ _)) hinv hx;exact zab h1
  generalize htbE:F.blk (VB+k)=tb at *;have htl:tb<w.heap.size:=zab hrtb;refine (zj2 (sl:=sl) (self:=self) (quit:=quit) R0 hlow hOtb hrtb hg).bind fun m2 T2=>?_;rintro ⟨gs2,w2,sl2,q2,B2,ask,gr,v,rfl,s2,k2,Bw,R2⟩;have hap2:=R2.apart;refine (zko (sl:=sl2) (self:=self) (quit:=quit) (ask:=ask) (gr:=gr) R2 hM0 (fun b hb=>?_) hOtb (.inr rfl) (by rw [Bw.size];omega) (fun i hi=>hgsN i (by omega)) (fun i s c hi hc=>?_) (fun z=>?_) (fun z=>?_) (by have:=Bw.ask1;omega) Bw.hask Bw.dn Bw.wb Bw.thr k2).bind fun m4 T4=>?_
  . rcases hb with hb|(hb|rfl)|hb
    . have:=hlow b (.inl hb);omega
    . have:=hlow b (.inr (.inl hb));omega
    . omega
    . have:=hlow b (.inr (.inr hb));omega
  . have:=hlow c (.inr (.inr ⟨i,s,hi,hc⟩));have:=Bw.ask0;omega
  . have:=t.olow _ z;have:=Bw.ask0;omega
  . have:=t.olow _ z;omega
  rintro ⟨gs4,w4,sl4,q4,B4,rfl,s4,k4,hold4,hsz4,hbox4,hObx,R4⟩;rw [s2] at k4 s4 R4
  -- names
  let F':Emb:=⟨fun n=>if n=VB+S.length then w.heap.size+2 else if n=VB+(S.length+1) then w2.heap.size else F.blk n,fun n=>if n=VB+S.length then 0 else if n=VB+(S.length+1) then 0 else F.base n,F.slack⟩
  have hFF:Same (Kn hs.next S.length) F F':=fun n hn=>by
    have h1:n≠VB+S.length:=by
      rcases hn with hn|⟨_,hn⟩<;>omega
    have h2:n≠VB+(S.length+1):=by
      rcases hn with hn|⟨_,hn⟩<;>omega
    simp [F',h1,h2]
  have hb1:F'.blk (VB+S.length)=w.heap.size+2:=if_pos rfl;have hb3:F'.blk (VB+(S.length+1))=w2.heap.size:=by simp [F']
  have hbk:F'.blk (VB+k)=tb:=by rw [<-htbE];exact ((hFF (VB+k) (.inr ⟨by omega,by omega⟩)).1).symm
  -- goroutine 0's standing, as it was
  let wR:World:=w2.alloc (.cells #[.chan (some (w.heap.size+3))] 101)
  let SB:St:=zdS S k self quit ask gr gs.size (w.heap.size+3)
  have hinvR:RInv (XM hok p.OB fun b=>p.WB b\/b=w.heap.size+2) F' (.run [] [] hs SB) wR:=zoa hok hthr hinv hFF hb1 (if_pos rfl) hb3 (by simp [F']) (by omega) hWl (by rw [Bw.size];omega) (fun x hx hn=>Bw.old x hx (by rw [<-htbE];exact hn)) Bw.wb (by rw [htbE];exact Bw.thr)
  have hwR:∀ x,¬ p.OB x->x<w4.heap.size->w4.heap[x]?=wR.heap[x]?:=fun x hx hl=>by
    by_cases z:x<w2.heap.size
    . rw [hold4 x hx z,zaD _ _ _ z]
    . obtain rfl:x=w2.heap.size:=by omega
      rw [hbox4];exact (zbw _ _).symm
  have hwRs:wR.heap.size=w4.heap.size:=by rw [hsz4];exact zaH _ _
  have hnO:∀ x,w.heap.size<=x->¬ p.OB x:=fun x hx z=>by have:=t.olow _ z;omega
  have hrow4:∀ x,w.heap.size<=x->x<w2.heap.size->w4.heap[x]?=w2.heap[x]?:=fun x h1 h2=>hold4 x (hnO x h1) h2;have hnt:∀ x,¬ p.OB x->x≠tb:=fun x hx e=>hx (e ▸ hOtb)
  -- the body goes on
  let cs0:List Frame:=zct tb (.func (.func fb) (xs.map (ren F)) (ys.map (ren F))) (w.heap.size+2) (w.heap.size+3) v [1]::fr::cs
  let sG:Seat:=zbR tb (w.heap.size+2) (w.heap.size+3) ask cs0
  let wN:World:=w2.setCell ⟨tb,3,none⟩ (.pointer none)
  let d:BD Γ:=⟨⟨gs.size,some k,p.OB,fun b=>p.WB b\/b=w.heap.size+2,IvN p.OB wN,some sG,zmS F' hs hs',wR,F',hs.next,S.length+2,p.n0,p.w0⟩,SuM hok Pr () γ,k,S.length,self,quit,w.heap.size+3,none,self,0,ask,gr,γ1,SB,wN,tb,cs0⟩
  have hcom4:Com d.p (SuM hok Pr () γ) SB F' hs.next (S.length+2) (fun i=>if i=0 then some sG else Inb i) gs4 w4 T4:=by
    refine H.com.born (C:=S.length) hrun0 hseat (SuM.mono hok Pr () γ) rfl hthr hgl hFF hb1 (by have:=Bw.size;omega) (by omega) hWl (fun x hx hO=>by rw [hold4 x hO (by have:=Bw.size;omega),Bw.old x hx (hnt x hO)]) Bw.ask0 Bw.gr0 (by omega) (by omega) Bw.ne (by have:=Bw.ask1;omega) (by have:=Bw.gr1;omega) (by have:=Bw.ask1;omega) (by have:=Bw.gr1;omega) (by omega) ⟨0,?_⟩ ⟨0,?_⟩ ⟨0,?_⟩ ⟨_,_,_,R4,.inl hM0,.inr rfl⟩
    . rw [hrow4 _ Bw.ask0 (zab Bw.hask)];exact Bw.hask
    . rw [hrow4 _ Bw.gr0 (zab Bw.hgr)];exact Bw.hgr
    . rw [hrow4 _ (by omega) (zab Bw.dn)];exact Bw.dn
  have hSBl:SB.length=S.length+2:=zeY;have tR:Tab p.OB (fun b=>p.WB b\/b=w.heap.size+2) SB F' gs4.size wR:=hcom4.tab.turn (p:=d.p) (C:=S.length+2) (N:=hs.next) (by rw [hSBl];exact Nat.le_refl _) (Same.refl _ _) (Nat.le_of_eq hwRs.symm) (zd9 fun x (hx:zbd w4 x) hO=>(hwR x hO (by obtain⟨_,_,_,_,_,_,h1⟩:=hx;exact zab h1)).symm)
  have hdok:d.Ok:=by
    refine⟨SuM.mono hok Pr () γ,rfl,by show gs.size≠0;omega,rfl,?_,zeu hkl,zfC,hSBl.symm,fun x hx=>(zfg hok hinvR hl tR hx).2.2.2⟩
    show some sG=some (zbR tb (F'.blk (VB+S.length)) (w.heap.size+3) ask cs0);rw [hb1]
  have hXb:=zkD hok (p:=d.p) (by show gs.size≠0;omega)
  have hwro:∀ n r,hs.get n=some r->(p.WB (F'.blk n)\/F'.blk n=w.heap.size+2)->r.ro=true:=fun n r hr hW=>by
    have e:F'.blk n=F.blk n:=((hFF n (hinv.1.hk n r hr).1).1).symm;rw [e] at hW;rcases hW with hW|hW
    . exact H.wro n r hr hW
    . have:=hvl _ (.inl ⟨n,r,hr,hW⟩);omega
  have hfpB:∀ x,fpS false F' SB x->fpS true F S x\/w.heap.size<=x:=fun x hx=>by
    have hx:fpS true F' SB x:=by obtain⟨i,ob,h1,h2⟩:=hx;exact⟨i,ob,h1,zbF h2⟩
    have hl1:(S.set k (Ob.thr self quit false true (some (S.length,gs.size,w.heap.size+3)) none)).length=S.length:=by simp
    have hl2:(S.set k (Ob.thr self quit false true (some (S.length,gs.size,w.heap.size+3)) none)++[Ob.wp self 0 ask gr quit]).length=S.length+1:=by simp
    rcases zgf (F:=F') rfl (Same.refl _ _) hx with hx|hx
    . rcases zgf (F:=F) rfl (by rw [hl1];exact hFF.mono fun n hn=>.inr hn) hx with hx|hx
      . exact .inl (zgJ hthr hx)
      . rw [hl1,hb1] at hx;exact .inr (by omega)
    . rw [hl2,hb3] at hx;exact .inr (by have:=Bw.size;omega)
  have hstand:Standing d.p hok d.Su SB F' (.run [] [] hs' SB) (fun i=>if i=0 then some sG else Inb i) gs4 w4 T4:=by
    refine⟨?_,hXb ▸ zeo (Nat.le_of_eq hwRs) (fun x hx=>?_) (zgk hok hinvR hl),fun _ x hx=>hXb ▸ zke hok hinvR hl tR hx,fun x hx=>?_,fun x hx=>?_,fun n r hr hW=>hwro n r (hl.sub n r hr) hW,⟨fun x hx=>?_,fun i s c h=>?_⟩,Same.refl _ _,Nat.le_of_eq hl.next.symm,Nat.le_of_eq hSBl.symm⟩
    . show Com d.p (SuM hok Pr () γ) SB F' hs'.next SB.length _ gs4 w4 T4;rw [hl.next,hSBl];exact hcom4
    . refine hwR x (fun hO=>zke hok hinvR hl tR hO hx) ?_;obtain⟨_,_,_,h1⟩:=zcX (XF.soft (hok _ _ _)) (zgk hok hinvR hl) hx;rw [<-hwRs];exact zab h1
    . obtain⟨y1,y2,y3,_⟩:=zfg hok hinvR hl tR hx;have y1':x<w4.heap.size:=by rw [<-hwRs];exact y1
      exact⟨y1',hXb ▸ y2,y3,hwR x y3 y1'⟩
    . rcases hx with hx|rfl
      . obtain⟨cc,el,y1,y2⟩:=H.wrow x hx;have hO:¬ p.OB x:=fun z=>hap2 x z (.inl hx);exact⟨cc,el,by rw [hold4 x hO (by have:=Bw.size;have:=zab y1;omega),Bw.old x (zab y1) (hnt x hO)];exact y1,y2⟩
      . exact⟨_,_,by rw [hrow4 _ (by omega) (zab Bw.wb)];exact Bw.wb,by simp [zhr]⟩
    . obtain⟨y1,y2,y3,y4⟩:=H.base.low x hx;have y5:w4.heap[x]?=w.heap[x]?:=by rw [hold4 x y3 (by have:=Bw.size;omega),Bw.old x y1 (hnt x y3)]
      refine⟨by have:=Bw.size;omega,fun hT=>?_,y3,y5.trans y4⟩
      rw [hXb] at hT;rw [hX] at y2;rcases hT with ⟨n,r,z1,z2,rfl⟩|z
      . have z1:hs'.get n=some r:=z1;exact y2 (.inl ⟨n,r,hl.sub n r z1,z2,(hFF n (hinv.1.hk n r (hl.sub n r z1)).1).1⟩)
      . rcases hfpB x z with z|z
        . exact y2 (.inr z)
        . omega
    . have hb:=H.base.size;rcases zip hthr h with h|⟨_,_,rfl⟩|⟨_,_,rfl⟩|⟨_,_,rfl⟩
      . exact H.base.ch i s c h
      . show p.n0<=_;omega
      . have:=Bw.ask0;show p.n0<=_;omega
      . have:=Bw.gr0;show p.n0<=_;omega
  obtain⟨fn,cd,hfb,hgB,hbd,hGE⟩:=hrun ask gr gs.size (w.heap.size+3)
  -- the call of the body
  have hargs:(xs.map (ren F))++#[Value.iface 68 (pt (w.heap.size+2))]++(ys.map (ren F))=(xs++#[Value.iface 68 (hndV S.length)]++ys).map (ren F'):=by
    have e1:xs.map (ren F)=xs.map (ren F'):=Array.map_congr_left fun u hu=>(hxs u hu F' hFF).symm;have e2:ys.map (ren F)=ys.map (ren F'):=Array.map_congr_left fun u hu=>(hys u hu F' hFF).symm;rw [e1,e2];simp [hndV,adr,F']
  have hstF:∀ u∈(zag fn cd (xs++#[Value.iface 68 (hndV S.length)]++ys)).2,Stab (Kn hs'.next SB.length) F' u:=fun u hu=>by
    have hKK:∀ x,Kn hs.next S.length x->Kn hs'.next SB.length x:=fun x hx=>hx.mono (Nat.le_of_eq hl.next.symm) (by rw [hSBl];omega)
    simp only [zag,List.mem_append,Array.toList_append] at hu;rcases hu with ((hu|hu)|hu)|hu
    . exact (hxs u (by simpa using hu)).move hFF hKK
    . obtain rfl:u=Value.iface 68 (hndV S.length):=by simpa using hu
      intro F2 hs2;have h:=zi2 (F:=F') (N:=hs'.next) (n:=SB.length) (k:=S.length) (by omega) F2 hs2
      simp only [zcZ,h]
    . exact (hys u (by simpa using hu)).move hFF hKK
    . rw [List.eq_of_mem_replicate hu];exact Stab.undef
  have hst2:=zet hok (SuM.mono hok Pr () γ) (sl:=sl4) (c':=.run (zag fn cd (xs++#[Value.iface 68 (hndV S.length)]++ys)).1 (zag fn cd (xs++#[Value.iface 68 (hndV S.length)]++ys)).2 hs' SB) hstand k4 rfl (fun w1 _=>⟨#[],znG hfb hgB _ w1,fun e he=>by simp at he⟩) rfl rfl hstF
  refine hst2.bind fun m5 T5=>?_;rintro ⟨gs5,w5,sl5,rfl,k5,_,H5⟩;rw [hargs,zfL hfb hbd] at k5;have hbx:d.p.FR.blk (VB+(S.length+1))=w2.heap.size:=hb3;have hsafe:=GE.safe hok (ClB k S.length w2.heap.size) SuB (FinB hok Pr) (Stk:=zi5 (zcd (.func (.func fb) (xs.map (ren F)) (ys.map (ren F))) (w.heap.size+2) (w.heap.size+3) w2.heap.size [3])) (fun b fn t todo cs hf hk h=>.frame hf rfl rfl h) (fun d γ p hcl=>hcl.2.2.1.mono) (fun d γ p hcl f a S v S' hp=>?_) rfl (zr4 hok Pr k S.length w2.heap.size) hGE (zhm fb) [zcd (.func (.func fb) (xs.map (ren F)) (ys.map (ren F))) (w.heap.size+2) (w.heap.size+3) w2.heap.size [3],botF] F' hs'.next SB.length hfb rfl .root (fun c' γ' hA=>?_)
  . refine (hsafe d d.p _ F' gs5 w5 sl5 T5 _ ⟨rfl,rfl,hdok,rfl,rfl,hbx⟩ H5 k5 rfl (Same.refl _ _) (Nat.le_refl _) (Nat.le_refl _)).bind fun m6 T6 hCame=>?_;have RR:Rep true p.OB (fun b=>p.WB b\/b=w.heap.size+2) F' SB wR:=hinvR.1.rep;have hset:SB.set k (.thr self quit false true (some (S.length,gs.size,w.heap.size+3)) none)=SB:=List.ext_getElem? fun j=>by
      by_cases z:k=j
      . subst z;rw [List.getElem?_set_self (by rw [hSBl];omega)];exact (zeu hkl).symm
      . rw [List.getElem?_set_ne z]
    have L:zqY hok Pr d γ hs hs' SB:=by
      refine⟨hdok,hl,hinvR,rfl,rfl,hSBl.symm,fun x hx=>hx,hbk.symm,hwro,fun i a b c x e f hi=>?_,fun i i' hne hi hi'=>?_,rfl,hph1,hfu,fun n r hr hro=>Nat.le_of_not_lt fun hlt=>(H.base.low _ hlt).2.1 (by rw [hX];exact .inl ⟨n,r,hr,hro,(hFF n (hinv.1.hk n r hr).1).1⟩)⟩
      . have hi:(SB.set k (.thr self quit false true (some (S.length,gs.size,w.heap.size+3)) none))[i]?=some (Ob.thr a b c x e f):=hi;rw [hset] at hi;obtain⟨y1,y2,y3,y4⟩:=RR.at' i _ hi rfl;refine⟨y2,y3,?_⟩;show (w2.setCell ⟨tb,3,none⟩ (.pointer none)).heap[F'.blk (VB+i)]?=_;by_cases zi:i=k
        . subst zi;rw [show SB[i]?=_ from zeu hkl] at hi
          cases hi;rw [hbk,heap_setCell,if_pos rfl,Bw.thr];simp only [Option.map_some];simp [zaO,zdM,ptrO,chV];exact hb1.symm
        . have hne:F'.blk (VB+i)≠tb:=fun z=>RR.apart i k _ _ zi hi (zeu hkl) (F'.blk (VB+i)) (by simp [zay]) (by rw [z,<-hbk];simp [zay])
          have hlt:F'.blk (VB+i)<w2.heap.size:=by have:=t.olow _ y1;have:=Bw.size;omega
          rw [heap_setCell,if_neg (fun (e:tb=_)=>hne e.symm),<-zaD w2 (.cells #[.chan (some (w.heap.size+3))] 101) _ hlt];exact y4
      . have key:∀ j:Nat,(∃ a b c x e f,(SB.set k (.thr self quit false true (some (S.length,gs.size,w.heap.size+3)) none))[j]?=some (Ob.thr a b c x e f))->∃ a b c x e f,SB[j]?=some (Ob.thr a b c x e f):=fun j hj=>by rw [hset] at hj;exact hj
        obtain⟨_,_,_,_,_,_,y1⟩:=key i hi;obtain⟨_,_,_,_,_,_,y2⟩:=key i' hi';exact fun e=>RR.apart i i' _ _ hne y1 y2 (F'.blk (VB+i)) (by simp [zay]) (by simp only [zay,if_true,List.mem_cons,List.not_mem_nil,or_false];exact e)
    exact (zjH hok L rfl hn00 hw00 hCame).mono fun m7 T7 hB=>⟨d,F',tb,w.heap.size+2,ask,gr,w.heap.size+3,_,v,hFF,rfl,rfl,rfl,rfl,rfl,rfl,rfl,rfl,rfl,hSBl ▸ hB⟩
  . obtain⟨rfl,_,hd,_⟩:=hcl;have:d.p.mn=false:=by simp [Par.mn,hd.h0]
    rw [this];exact hp
  . obtain⟨v1,h1,S1,rfl,hE⟩:=hA;exact znM hok Pr hE
end
section
variable (hok:∀ mn OB WB,zau mn OB WB)
variable {Γ:Type} (Pr:Proto Γ)
def zmV:SpT Γ:=fun f args hs S γ Q=>∃ (k fb quit:Nat) (self:Int) (xs ys:Array Value) (cur:Option (Nat × Nat × Nat)) (hs':AHeap) (γ1:Γ),f=7/\args=#[hndV k,.func (.func fb) xs ys]/\KeepC γ.2 S/\S[k]?=some (.thr self quit false false cur none) /\
  LendH hs hs'/\Pr.fuel γ1<=Pr.fuel γ.1/\(∀ i,i≠k->Pr.ph γ1 i=Pr.ph γ.1 i)/\(∀ ask gr gid dn,zeX Pr k S.length fb xs ys hs' (zdS S k self quit ask gr gid dn) γ1)/\∀ ask gr gid dn,zkd Pr Q (.bool true) hs hs' k self quit S.length gid dn (zdS S k self quit ask gr gid dn) γ1
variable {Pr}
theorem zmk:Try.f7.body=some zbD:=rfl
set_option maxRecDepth 100000 in
theorem zjY {F:Emb} {k fb:Nat} {xs ys:Array Value} (hb:F.base (VB+k)=0):actF F (zag Try.f7 zbD #[hndV k,.func (.func fb) xs ys]).2=⟨#[pt (F.blk (VB+k)),.func (.func fb) (xs.map (ren F)) (ys.map (ren F)),undef,undef,undef,undef,undef,undef,undef,undef,undef,undef,undef,undef,undef,undef,undef,undef,undef,undef,undef,undef,undef,undef,undef,undef,undef,undef,undef,undef,undef,undef,undef,undef,undef,undef,undef,undef,undef,undef,undef,undef,undef,undef,undef,undef,undef,undef,undef,undef,undef,undef,undef,undef,undef,undef],[]⟩:=by
  simp only [zag,Try.ntmps7];simp [actF,adr,hndV,zaS,hb,List.replicate]
theorem znc {K:Nat->Prop} {F:Emb} {fn:Fn} {xs ys:Array Value} (h:Stab K F (.func fn xs ys)):(∀ u∈xs,Stab K F u)/\∀ u∈ys,Stab K F u:=by
  have key:∀ {zs:Array Value} {F':Emb},zs.map (ren F')=zs.map (ren F)->∀ u∈zs,ren F' u=ren F u:=fun {zs F'} e u hu=>by
    obtain⟨i,hi,rfl⟩:=Array.mem_iff_getElem.1 hu;have:=congrArg (fun a:Array Value=>a[i]?) e;simpa [hi] using this
  refine⟨fun u hu F' hs=>?_,fun u hu F' hs=>?_⟩
  . have:=h F' hs;simp only [zbx,Value.func.injEq] at this;exact key this.2.1 u hu
  . have:=h F' hs;simp only [zbx,Value.func.injEq] at this;exact key this.2.2 u hu
theorem zqu {n00:Nat} {w00:World} {Fin:Unit->Machine->Trace->Prop} {Stk:List Frame->Prop}:SpOK hok (ClM n00 w00) (SuM hok Pr) Fin Stk (zmV Pr):=by
  intro f args hs S γ Q hsp b cs F0 N0 C0 fn ops i rest kk tmps o hfn hkd hsk ho hw hb' hca K d p Inb F gs w sl T g hC H hg hgS hF hN hC0;obtain⟨k,fb,quit,self,xs,ys,cur,hs',γ1,rfl,rfl,hkeep,hthr,hl,hfu,hph1,hrun,hbk⟩:=hsp;obtain⟨h0,hrun0,hseat,hPX,hn00,hw00⟩:=id hC;have hst:∀ u∈tmps,Stab (Kn hs.next S.length) F u:=fun u hu=>H.inv.1.vst u hu;refine (zbY hok (SuM.mono hok Pr d γ.1) ho hw hb' hca Try.func7 rfl zmk hkd H hg hgS).bind fun m1 T1=>?_;rintro ⟨gs1,w1,sl1,rfl,k1,H1⟩;have hfst:=znc (H1.inv.1.vst (.func (.func fb) xs ys) (by show _∈(zag _ _ _).2;simp [zag]))
  have H1:Standing p hok (SuM hok Pr d γ.1) S F (.run [] [] hs S) Inb gs1 w1 T1:=Standing.keep (c:=.run [] [] hs S) hok hkeep (Standing.conf hok H1 rfl rfl (fun v hv=>by cases hv))
  have Rp:Rep p.mn p.OB p.WB F S w1:=H1.inv.1.rep;rw [zjY (Rp.base _ _ hthr rfl)] at k1;refine (zlv hok (sl:=sl1) ⟨h0,hrun0,hseat,hPX,hn00,hw00⟩ hthr hl hfu hph1 hrun hfst.1 hfst.2 H1 (h0 ▸ k1)).bind fun m2 T2=>?_;rintro ⟨d',F',tb,wb,ask,gr,dn,fv,v,hFF,rfl,e2,e3,e4,e5,e6,e7,e8,e9,hB⟩;have hKK:∀ x,Kn hs.next S.length x->Kn hs.next (S.length+2) x:=fun x hx=>hx.mono (Nat.le_refl _) (by omega)
  rw [<-zbo hst hFF] at hB;exact znK hok (hbk ask gr gs1.size dn) ⟨rfl,e2,e3,e4,e5,e6,e7,e8,e9⟩ ho rfl (fun u hu=>(hst u hu).move hFF hKK) rfl (by rw [zeY];exact Nat.le_refl _) (fun c0 cs hK=>znt hK c0 cs) (hF.trans (hFF.mono fun x hx=>hx.mono hN hC0)) hN (by have:C0<=S.length:=hC0;omega) K hB
end
section
variable {P:Program} {OB WB:Nat->Prop} {B:Nat} {Iv:Nat->World->Prop} {Mem:Nat->Prop} {Inb:Nat->Option Seat} {T:Trace} {gs:Array Goroutine} {w:World} {q:Nat->Nat} {h c:Nat}
theorem RingO.ownCl (C:RingO P OB WB B Iv Mem Inb h T gs w q) (hcB:c<B) {a a':Goroutine} {w':World} (ha:gs[h]?=some a) (D:DO OB WB Inb h w w' #[]) :
    RingO P OB WB B Iv Mem Inb h (T++MemOp.ofEvents h a.frame.fn a.frame.place (closeEvents c)) ((gs.map (woken P a a' w')).setIfInBounds h a') w' q/\((gs.map (woken P a a' w')).setIfInBounds h a')[h]?=some a':=by
  have hlt:h<gs.size:=(Array.getElem?_eq_some_iff.1 ha).1;have hrl:∀ x,x≠h->Rl OB WB x w w':=fun x hx=>⟨fun ad had h3=>D.still ad had h3,fun e b hb=>D.own (by omega) b hb⟩
  have hEv:∀ e∈closeEvents c,EvHd (zcf WB) B e:=closeEvents_ok hcB;obtain⟨hops,hs,hl,hdf⟩:=evHd_ops (Still:=zcf WB) (B:=B) (i:=h) (fn:=a.frame.fn) (pos:=a.frame.place) hEv;have hown:∀ op∈MemOp.ofEvents h a.frame.fn a.frame.place (closeEvents c),∀ b,op.act.touch?=some b->(zcf WB b.loc->b.write=false)/\(ownL OB b.loc->h=0):=fun op hop b hb=>⟨hs op hop b hb,fun⟨a,e,_⟩=>by
    rw [closeOps] at hop;simp only [List.mem_toArray,List.mem_cons,List.not_mem_nil,or_false] at hop;rcases hop with rfl|rfl
    . simp only [MemAct.touch?,Option.some.injEq] at hb;subst hb;cases e
    . simp [MemAct.touch?] at hb⟩
  have hDeaf:∀ x,Deaf (T++MemOp.ofEvents h a.frame.fn a.frame.place (closeEvents c)) x=Deaf T x:=fun x=>by
    by_cases ex:x=h
    . subst ex;exact hdf T
    . exact Deaf_other T (fun z=>ex z.symm) _ hops
  have p1:=PastO.appH C.past hops hown (hdf T) hl;refine⟨⟨fun x y hx hy=>?_,fun i s c _ hi hc=>?_,C.far,C.wf,fun _ _ hx=>hx.elim,C.inj,fun j hj=>?_,C.mem,C.nomem,C.lo,p1,C.apart,C.ivst,Nat.le_trans C.lowB D.size⟩,Array.getElem?_setIfInBounds_self_of_lt (by simpa using hlt)⟩
  . rw [Array.getElem?_setIfInBounds_ne (fun e=>hx e.symm),Array.getElem?_map] at hy;obtain⟨yq,hyq,rfl⟩:=Option.map_eq_some_iff.1 hy;rw [woken_of_again (CoF.fixed' C D.seats hx hyq)];have hi:=C.idle x yq hx hyq;cases es':Inb x with
    | none=>rw [es'] at hi;exact⟨hi.1,by rw [hDeaf];exact hi.2⟩
    | some s=>rw [es'] at hi;exact SitsO.rely C.ivst hi (hrl x hx)
  . obtain⟨cap,k,hk⟩:=C.chans i s c (fun z=>z) hi hc;exact⟨cap,k,by rw [D.seats i s c hi hc];exact hk⟩
  . simp only [Array.size_setIfInBounds,Array.size_map] at hj;rw [hDeaf];exact C.above j hj
theorem zmf {a a':Goroutine} {St:World->Prop} (hcB:c<B) (hrun:a.status=.running) {w0:World} (hstep:∀ w1,Ro OB h w0 w1->∃ w',stepG P (h==0) a w1=.go a' w' (closeEvents c)/\DO OB WB Inb h w1 w' #[]/\St w') :
    ∀ (n:Nat) {T:Trace} {gs:Array Goroutine} {w:World} {q:Nat->Nat} {sl:Option (Nat × Nat)},sumTo gs.size q=n->Ro OB h w0 w->gs[h]?=some a->RingO P OB WB B Iv Mem Inb h T gs w q ->
      Reach P (crowd gs w sl) T fun m' T'=>∃ gs' w' sl' q',m'=crowd gs' w' sl'/\gs'.size=gs.size/\gs'[h]?=some a'/\St w'/\RingO P OB WB B Iv Mem Inb h T' gs' w' q':=by
  intro n
  induction n using Nat.strongRecOn with
  | _ m ihm =>
    intro T gs w q sl hm hw ha C;obtain⟨i,g,d,sl',hi,hg,hst⟩:=crowd_pick (P:=P) (w:=w) (sl:=sl) (CoF.awake C fun x g hx hgx=>by subst hx;rw [ha] at hgx;obtain rfl:=Option.some.inj hgx;exact .inl hrun) ⟨h,a,ha,hrun⟩
    have Cd:RingO P OB WB B Iv Mem Inb h T gs (w.at d) q:=CoF.at C d;have hRd:Ro OB h w (w.at d):=⟨fun _ _=>rfl,rfl,rfl⟩;by_cases e:i=h
    . subst e;obtain rfl:g=a:=by rw [ha] at hi;exact (Option.some.inj hi).symm
      obtain⟨w',h1,h2,h3⟩:=hstep (w.at d) (hw.trans _ _ _ hRd);obtain⟨C',ha'⟩:=RingO.ownCl (a':=a') Cd hcB ha h2;refine .head (ho:=by exact .of h2.rest) (by rw [hst];exact runT_crowd_go (sl:=sl') ha h1) (.here ⟨_,w',sl',q,rfl,by simp,ha',h3,C'⟩)
    . obtain⟨gs',ops,q',w',hrt,hsz',hsp,hS,hw0,_,_,C',hlt⟩:=CoF.by_step (sl:=sl') (fun t u i=>Knows.app u) Cd hi e hg
        (fun x gx w' hx hgx _=>by subst hx;rw [ha] at hgx;obtain rfl:=Option.some.inj hgx;exact again_of_running (.inl hrun) _) (fun hD=>hD.elim)
        (fun s gq _ _=>⟨fun hD=>hD,fun x gx c hx hgx _=>by subst hx;rw [ha] at hgx;obtain rfl:=Option.some.inj hgx;exact offersAt_of_not_blocked (by rw [hrun];simp) _ _⟩)
      have hR:Ro OB h w w':=hRd.trans _ _ _ (hS.by' hw0 e);refine .head (ho:=by exact .side hS.rest) (by rw [hst];exact hrt) ?_
      refine (ihm (sumTo gs'.size q') (by rw [hsz',<-hm];exact hlt) rfl (hw.trans _ _ _ hR) (by rw [hsp h rfl];exact ha) C').bind fun m' T'=>?_
      rintro ⟨gs2,w2,sl2,q2,rfl,k1,k2,k3,k4⟩;exact .here ⟨gs2,w2,sl2,q2,rfl,by omega,k2,k3,k4⟩
end
abbrev zr0 (tb qt:Nat):Array Value:=znq tb qt (pt tb) (.bool false) (.bool false) (pt tb) (pt tb) (pt tb 5) (.bool false) (.bool false) (pt tb) (pt tb) (pt tb) (pt tb 5) (pt tb) (pt tb 3)
noncomputable def zcE (tb qt:Nat) (rest:List Nat):Frame:=(base 14).at ⟨zr0 tb qt,[]⟩ [.inRegion closeOps2 rest,.code zgw]
section
variable {OB WB:Nat->Prop} {Inb:Nat->Option Seat}
set_option maxRecDepth 100000 in
theorem zi3 {n0:Nat} {w0 w:World} {tb qt:Nat} {z3:Value} (hK:KA OB WB Inb n0 w0 w) (ht:(∀ i s,Inb i=some s->¬ s.has tb)/\¬ WB tb) (h3:w0.cell? ⟨tb,3,none⟩=some z3) (h5:w0.cell? ⟨tb,5,none⟩=some (.bool false)) (h6:w0.cell? ⟨tb,6,none⟩=some (.chan (some qt))) (hz:∀ o,w0.frozen? ⟨tb,o,none⟩=false) (cs:List Frame) :
    Conc.Goes Try.prog true (Ro OB 0) (DO OB WB Inb 0) (fun g w'=>g=Go.Conc.G (zcE tb qt [4]) cs/\KA OB WB Inb n0 ((w0.setCell ⟨tb,5,none⟩ (.bool true)).setCell ⟨tb,3,none⟩ (.pointer none)) w') 60 (Go.Conc.G ((base 14).at ⟨#[pt tb,undef,undef,undef,undef,undef,undef,undef,undef,undef,undef,undef,undef,undef,undef,undef,undef,undef,undef,undef,undef,undef,undef,undef,undef,undef,undef,undef,undef,undef,undef,undef],[]⟩ [.code zcT]) cs) w:=by
  simp only [zcT,Try.f14,Option.getD_some];(refine Conc.Goes.step rfl (fun w₁ h₁=>?_);replace hK:=hK.rely h₁;clear h₁;rw [stepG_seq];simp only [goes_go];refine⟨DO.none _,?_⟩);(refine Conc.Goes.step rfl (fun w₁ h₁=>?_);replace hK:=hK.rely h₁;clear h₁;rw [stepG_seq];simp only [goes_go];refine⟨DO.none _,?_⟩);(refine Conc.Goes.step rfl (fun w₁ h₁=>?_);replace hK:=hK.rely h₁;clear h₁;rw [stepG_region];simp only [goes_go,List.size_toArray,List.length_cons,List.length_nil,Nat.reduceAdd,Nat.zero_add,List.range,List.range.loop];refine⟨DO.none _,?_⟩);(refine Conc.Goes.step rfl (fun w₁ h₁=>?_);replace hK:=hK.rely h₁;clear h₁;refine goes_oper_k rfl rfl (by decide) (fun K hK'=>?_);go_simp;refine hK' _ _ ⟨DO.quiet (fun e he=>(by have hm:=mem_listed he;simp [go_sem,Instr.makeInterface,Instr.makeFunc] at hm)),?_⟩;clear hK' K)
  refine Conc.Goes.step rfl (fun w₁ h₁=>?_);replace hK:=hK.rely h₁;clear h₁;refine goes_oper_k rfl rfl (by decide) (fun K hK'=>?_)
  go_simp
  refine hK' _ _ ⟨DO.quiet (fun e he=>(by rw [zdB rfl rfl rfl rfl] at he;simp at he)),?_⟩
  clear hK' K;(refine Conc.Goes.step rfl (fun w₁ h₁=>?_);replace hK:=hK.rely h₁;clear h₁;refine goes_oper_k rfl rfl (by decide) (fun K hK'=>?_);go_simp;refine hK' _ _ ⟨DO.quiet (fun e he=>(by have hm:=mem_listed he;simp [go_sem,Instr.makeInterface,Instr.makeFunc] at hm)),?_⟩;clear hK' K)
  (refine Conc.Goes.step rfl (fun w₁ h₁=>?_);replace hK:=hK.rely h₁;clear h₁;refine goes_oper_k rfl rfl (by decide) (fun K hK'=>?_);go_simp;refine hK' _ _ ⟨DO.quiet (fun e he=>(by have hm:=mem_listed he;simp [go_sem,Instr.makeInterface,Instr.makeFunc] at hm)),?_⟩;clear hK' K);(refine Conc.Goes.step rfl (fun w₁ h₁=>?_);replace hK:=hK.rely h₁;clear h₁;refine goes_oper_k rfl rfl (by decide) (fun K hK'=>?_);go_simp;refine hK' _ _ ⟨DO.quiet (fun e he=>(by have hm:=mem_listed he;simp [go_sem,Instr.makeInterface,Instr.makeFunc] at hm)),?_⟩;clear hK' K);(refine Conc.Goes.step rfl (fun w₁ h₁=>?_);replace hK:=hK.rely h₁;clear h₁;refine goes_oper_k rfl rfl (by decide) (fun K hK'=>?_);go_simp;refine hK' _ _ ⟨DO.quiet (fun e he=>(by have hm:=mem_listed he;simp [go_sem,Instr.makeInterface,Instr.makeFunc] at hm)),?_⟩;clear hK' K);(refine Conc.Goes.step rfl (fun w₁ h₁=>?_);replace hK:=hK.rely h₁;clear h₁;have hF:=(hK.cell h5);refine goes_oper_k rfl rfl (by decide) (fun K hK'=>?_);go_simp;refine hK' _ _ ⟨DO.quiet (fun e he=>(by have hm:=mem_listed he;simp [go_sem,hF] at hm;subst hm;exact zby (hK.cell h5))),?_⟩;clear hK' K hF);(refine Conc.Goes.step rfl (fun w₁ h₁=>?_);replace hK:=hK.rely h₁;clear h₁;refine goes_oper_k rfl rfl (by decide) (fun K hK'=>?_);go_simp;refine hK' _ _ ⟨DO.quiet (fun e he=>(by have hm:=mem_listed he;simp [go_sem,Instr.makeInterface,Instr.makeFunc] at hm)),?_⟩;clear hK' K);(refine Conc.Goes.step rfl (fun w₁ h₁=>?_);replace hK:=hK.rely h₁;clear h₁;rw [stepG_region_end];simp only [goes_go];refine⟨DO.none _,?_⟩);(refine Conc.Goes.step rfl (fun w₁ h₁=>?_);replace hK:=hK.rely h₁;clear h₁;rw [stepG_cond (t:=false) rfl];simp only [goes_go,if_true,if_false,Bool.false_eq_true,↓reduceIte];refine⟨DO.none _,?_⟩);(refine Conc.Goes.step rfl (fun w₁ h₁=>?_);replace hK:=hK.rely h₁;clear h₁;rw [stepG_skip];simp only [goes_go];refine⟨DO.none _,?_⟩);(refine Conc.Goes.step rfl (fun w₁ h₁=>?_);replace hK:=hK.rely h₁;clear h₁;rw [stepG_seq];simp only [goes_go];refine⟨DO.none _,?_⟩);(refine Conc.Goes.step rfl (fun w₁ h₁=>?_);replace hK:=hK.rely h₁;clear h₁;rw [stepG_region];simp only [goes_go,List.size_toArray,List.length_cons,List.length_nil,Nat.reduceAdd,Nat.zero_add,List.range,List.range.loop];refine⟨DO.none _,?_⟩);(refine Conc.Goes.step rfl (fun w₁ h₁=>?_);replace hK:=hK.rely h₁;clear h₁;refine goes_oper_k rfl rfl (by decide) (fun K hK'=>?_);go_simp;refine hK' _ _ ⟨DO.quiet (fun e he=>(by have hm:=mem_listed he;simp [go_sem,Instr.makeInterface,Instr.makeFunc] at hm)),?_⟩;clear hK' K);(refine Conc.Goes.step rfl (fun w₁ h₁=>?_);replace hK:=hK.rely h₁;clear h₁;refine goes_oper_k rfl rfl (by decide) (fun K hK'=>?_);go_simp;refine hK' _ _ ⟨DO.quiet (fun e he=>(by have hm:=mem_listed he;simp [go_sem,Instr.makeInterface,Instr.makeFunc] at hm)),?_⟩;clear hK' K);(refine Conc.Goes.step rfl (fun w₁ h₁=>?_);replace hK:=hK.rely h₁;clear h₁;refine goes_oper_k rfl rfl (by decide) (fun K hK'=>?_);go_simp;refine hK' _ _ ⟨DO.quiet (fun e he=>(by have hm:=mem_listed he;simp [go_sem,Instr.makeInterface,Instr.makeFunc] at hm)),?_⟩;clear hK' K);(refine Conc.Goes.step rfl (fun w₁ h₁=>?_);replace hK:=hK.rely h₁;clear h₁;refine goes_oper_k rfl rfl (by decide) (fun K hK'=>?_);go_simp;refine hK' _ _ ⟨DO.quiet (fun e he=>(by have hm:=mem_listed he;simp [go_sem,Instr.makeInterface,Instr.makeFunc] at hm)),?_⟩;clear hK' K);refine Conc.Goes.step rfl (fun w₁ h₁=>?_);replace hK:=hK.rely h₁;clear h₁
  have hc3:=hK.cell h5;have hz3:w₁.frozen? ⟨tb,5,none⟩=false:=(zbB _ _ _ (by rw [hK.heap])).trans (hz 5)
  refine goes_oper_k rfl rfl (by decide) (fun K hK'=>?_)
  go_simp
  refine hK' _ _ ⟨hK.set_do (.inr ht) (fun e he=>(by have hm:=mem_listed he;simp [go_sem,zbK,storedEv,hc3,hz3] at hm;subst hm;exact zfZ ht.2 (by obtain⟨_,_,_,hb,_⟩:=zaK hc3;exact zab hb))),?_⟩
  clear hK' K hc3 hz3;replace hK:=hK.set (a:=⟨tb,5,none⟩) (v:=.bool true);have h3':(w0.setCell ⟨tb,5,none⟩ (.bool true)).cell? ⟨tb,3,none⟩=some z3:=by rw [za0 _ _ _ _ _ (by decide)];exact h3
  have h6':((w0.setCell ⟨tb,5,none⟩ (.bool true)).setCell ⟨tb,3,none⟩ (.pointer none)).cell? ⟨tb,6,none⟩=some (.chan (some qt)):=by rw [za0 _ _ _ _ _ (by decide),za0 _ _ _ _ _ (by decide)];exact h6
  have hz':(w0.setCell ⟨tb,5,none⟩ (.bool true)).frozen? ⟨tb,3,none⟩=false:=by
    obtain⟨c,el,fr,hb,_⟩:=zaK h5;have h:=hz 3;unfold World.frozen? at h ⊢;rw [heap_setCell,if_pos rfl];simp only [hb,Option.map_some] at h ⊢;exact h
  (refine Conc.Goes.step rfl (fun w₁ h₁=>?_);replace hK:=hK.rely h₁;clear h₁;refine goes_oper_k rfl rfl (by decide) (fun K hK'=>?_);go_simp;refine hK' _ _ ⟨DO.quiet (fun e he=>(by have hm:=mem_listed he;simp [go_sem,Instr.makeInterface,Instr.makeFunc] at hm)),?_⟩;clear hK' K);(refine Conc.Goes.step rfl (fun w₁ h₁=>?_);replace hK:=hK.rely h₁;clear h₁;refine goes_oper_k rfl rfl (by decide) (fun K hK'=>?_);go_simp;refine hK' _ _ ⟨DO.quiet (fun e he=>(by have hm:=mem_listed he;simp [go_sem,Instr.makeInterface,Instr.makeFunc] at hm)),?_⟩;clear hK' K);refine Conc.Goes.step rfl (fun w₁ h₁=>?_);replace hK:=hK.rely h₁;clear h₁
  have hc3:=hK.cell h3';have hz3:w₁.frozen? ⟨tb,3,none⟩=false:=(zbB _ _ _ (by rw [hK.heap])).trans hz'
  refine goes_oper_k rfl rfl (by decide) (fun K hK'=>?_)
  go_simp
  refine hK' _ _ ⟨hK.set_do (.inr ht) (fun e he=>(by have hm:=mem_listed he;simp [go_sem,zbW,storedEv,hc3,hz3] at hm;subst hm;exact zfZ ht.2 (by obtain⟨_,_,_,hb,_⟩:=zaK hc3;exact zab hb))),?_⟩
  clear hK' K hc3 hz3;replace hK:=hK.set (a:=⟨tb,3,none⟩) (v:=.pointer none);(refine Conc.Goes.step rfl (fun w₁ h₁=>?_);replace hK:=hK.rely h₁;clear h₁;rw [stepG_region_end];simp only [goes_go];refine⟨DO.none _,?_⟩);(refine Conc.Goes.step rfl (fun w₁ h₁=>?_);replace hK:=hK.rely h₁;clear h₁;rw [stepG_seq];simp only [goes_go];refine⟨DO.none _,?_⟩);(refine Conc.Goes.step rfl (fun w₁ h₁=>?_);replace hK:=hK.rely h₁;clear h₁;rw [stepG_region];simp only [goes_go,List.size_toArray,List.length_cons,List.length_nil,Nat.reduceAdd,Nat.zero_add,List.range,List.range.loop];refine⟨DO.none _,?_⟩);(refine Conc.Goes.step rfl (fun w₁ h₁=>?_);replace hK:=hK.rely h₁;clear h₁;refine goes_oper_k rfl rfl (by decide) (fun K hK'=>?_);go_simp;refine hK' _ _ ⟨DO.quiet (fun e he=>(by have hm:=mem_listed he;simp [go_sem,Instr.makeInterface,Instr.makeFunc] at hm)),?_⟩;clear hK' K)
  (refine Conc.Goes.step rfl (fun w₁ h₁=>?_);replace hK:=hK.rely h₁;clear h₁;refine goes_oper_k rfl rfl (by decide) (fun K hK'=>?_);go_simp;refine hK' _ _ ⟨DO.quiet (fun e he=>(by have hm:=mem_listed he;simp [go_sem,Instr.makeInterface,Instr.makeFunc] at hm)),?_⟩;clear hK' K);(refine Conc.Goes.step rfl (fun w₁ h₁=>?_);replace hK:=hK.rely h₁;clear h₁;refine goes_oper_k rfl rfl (by decide) (fun K hK'=>?_);go_simp;refine hK' _ _ ⟨DO.quiet (fun e he=>(by have hm:=mem_listed he;simp [go_sem,Instr.makeInterface,Instr.makeFunc] at hm)),?_⟩;clear hK' K);(refine Conc.Goes.step rfl (fun w₁ h₁=>?_);replace hK:=hK.rely h₁;clear h₁;have hF:=(hK.cell h6');refine goes_oper_k rfl rfl (by decide) (fun K hK'=>?_);go_simp;refine hK' _ _ ⟨DO.quiet (fun e he=>(by have hm:=mem_listed he;simp [go_sem,hF] at hm;subst hm;exact zby (hK.cell h6'))),?_⟩;clear hK' K hF);exact Conc.Goes.stop (fun w₁ h₁=>⟨by simp only [zcE,closeOps2,zgw,zcT,cOps,cL,cR,Try.f14,Option.getD_some],hK.rely h₁⟩)
theorem zhP (tb qt:Nat) (cs:List Frame) {w:World} {cap s r:Nat} {buf:Array Value} {tm:Bool} (hc:w.heap[qt]?=some (.chan cap buf false s r tm)) (main:Bool) :
    stepG Try.prog main (Go.Conc.G (zcE tb qt [4]) cs) w=.go (Go.Conc.G (zcE tb qt []) cs) (w.setChan qt cap buf true s r tm) (closeEvents qt):=by
  obtain⟨o,ho⟩:∃ o,closeOps2[4]?=some o:=⟨_,Array.getElem?_eq_getElem (by rw [show closeOps2.size=5 by kernel_rfl];omega)⟩
  have ho':=ho;simp only [closeOps2,zcT,cOps,cL,cR,Try.f14,Option.getD_some] at ho';simp only [List.getElem?_toArray,List.getElem?_cons_succ,List.getElem?_cons_zero,Option.some.injEq] at ho';subst ho';unfold zcE;rw [stepG_close ho (by simp [Region.wanted]) (by decide) rfl (by simp [Act.eval]) hc (by simp only [base,Frame.at,Try.func14];rfl)]
  rfl
set_option maxRecDepth 100000 in
theorem zlK {n0:Nat} {w0 w:World} {tb qt:Nat} (hK:KA OB WB Inb n0 w0 w) (h4:w0.cell? ⟨tb,4,none⟩=some (.bool false)) (c0:Frame) (cs:List Frame) :
    Conc.Goes Try.prog true (Ro OB 0) (DO OB WB Inb 0) (fun g w'=>g=Go.Conc.G (c0.finish (.tuple #[])) cs/\KA OB WB Inb n0 w0 w') 30 (Go.Conc.G (zcE tb qt []) (c0::cs)) w:=by
  simp only [zcE,closeOps2,zgw,zcT,cOps,cL,cR,Try.f14,Option.getD_some];(refine Conc.Goes.step rfl (fun w₁ h₁=>?_);replace hK:=hK.rely h₁;clear h₁;rw [stepG_region_end];simp only [goes_go];refine⟨DO.none _,?_⟩);(refine Conc.Goes.step rfl (fun w₁ h₁=>?_);replace hK:=hK.rely h₁;clear h₁;rw [stepG_seq];simp only [goes_go];refine⟨DO.none _,?_⟩);(refine Conc.Goes.step rfl (fun w₁ h₁=>?_);replace hK:=hK.rely h₁;clear h₁;rw [stepG_region];simp only [goes_go,List.size_toArray,List.length_cons,List.length_nil,Nat.reduceAdd,Nat.zero_add,List.range,List.range.loop];refine⟨DO.none _,?_⟩);(refine Conc.Goes.step rfl (fun w₁ h₁=>?_);replace hK:=hK.rely h₁;clear h₁;refine goes_oper_k rfl rfl (by decide) (fun K hK'=>?_);go_simp;refine hK' _ _ ⟨DO.quiet (fun e he=>(by have hm:=mem_listed he;simp [go_sem,Instr.makeInterface,Instr.makeFunc] at hm)),?_⟩;clear hK' K)
  (refine Conc.Goes.step rfl (fun w₁ h₁=>?_);replace hK:=hK.rely h₁;clear h₁;refine goes_oper_k rfl rfl (by decide) (fun K hK'=>?_);go_simp;refine hK' _ _ ⟨DO.quiet (fun e he=>(by have hm:=mem_listed he;simp [go_sem,Instr.makeInterface,Instr.makeFunc] at hm)),?_⟩;clear hK' K);(refine Conc.Goes.step rfl (fun w₁ h₁=>?_);replace hK:=hK.rely h₁;clear h₁;refine goes_oper_k rfl rfl (by decide) (fun K hK'=>?_);go_simp;refine hK' _ _ ⟨DO.quiet (fun e he=>(by have hm:=mem_listed he;simp [go_sem,Instr.makeInterface,Instr.makeFunc] at hm)),?_⟩;clear hK' K);(refine Conc.Goes.step rfl (fun w₁ h₁=>?_);replace hK:=hK.rely h₁;clear h₁;have hF:=(hK.cell h4);refine goes_oper_k rfl rfl (by decide) (fun K hK'=>?_);go_simp;refine hK' _ _ ⟨DO.quiet (fun e he=>(by have hm:=mem_listed he;simp [go_sem,hF] at hm;subst hm;exact zby (hK.cell h4))),?_⟩;clear hK' K hF);(refine Conc.Goes.step rfl (fun w₁ h₁=>?_);replace hK:=hK.rely h₁;clear h₁;rw [stepG_region_end];simp only [goes_go];refine⟨DO.none _,?_⟩);(refine Conc.Goes.step rfl (fun w₁ h₁=>?_);replace hK:=hK.rely h₁;clear h₁;rw [stepG_cond (t:=false) rfl];simp only [goes_go,if_true,if_false,Bool.false_eq_true,↓reduceIte];refine⟨DO.none _,?_⟩);(refine Conc.Goes.step rfl (fun w₁ h₁=>?_);replace hK:=hK.rely h₁;clear h₁;rw [stepG_skip];simp only [goes_go];refine⟨DO.none _,?_⟩);(refine Conc.Goes.step rfl (fun w₁ h₁=>?_);replace hK:=hK.rely h₁;clear h₁;rw [stepG_end];simp only [goes_go];refine⟨DO.none _,?_⟩);refine Conc.Goes.step rfl (fun w₁ h₁=>?_);replace hK:=hK.rely h₁;clear h₁
  rw [stepG_leave rfl rfl Try.func14 (results_none Try.results14 _ _ _) (events_results_none Try.results14 _ _)];simp only [goes_go];refine⟨DO.none _,?_⟩;exact Conc.Goes.stop (fun w₁ h₁=>⟨rfl,hK.rely h₁⟩)
end
end Go.Proofs.Ytgndgbnhkoppmaa
