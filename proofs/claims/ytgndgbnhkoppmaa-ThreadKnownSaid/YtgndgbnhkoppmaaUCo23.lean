/-
  Memories, ports and threads in a world: the faces of goroutine 0 (mn = true), and of a body.
  Condition: each call that is known does what is said of it (zau).
-/
import Derived.Test.YtgndgbnhkoppmaaUCo15
import Derived.Test.YtgndgbnhkoppmaaUAx12
import Derived.Deep.Slices
import Derived.Deep.Fields
import Derived.ChangeSame
set_option maxHeartbeats 40000000
set_option linter.unusedVariables false
set_option linter.unusedSimpArgs false
namespace Go.Proofs.Ytgndgbnhkoppmaa
open Go Go.Conc
open Go.ConcN (sumTo upd sumTo_upd upd_ne upd_same)
section
variable {OB WB:Nat->Prop} {B i h:Nat}
noncomputable def doC:Code:=(Try.f82.body).getD .skip
noncomputable def zdn:Array Oper:=cOps (cL (cR (cL (cR doC))))
noncomputable def zdU:Code:=cR (cR (cL (cR doC)))
noncomputable def doY:Code:=cR (cR doC)
noncomputable def zfq:Array Oper:=cOps (cL (cR (cR (cR doC))))
noncomputable def zdQ:Code:=cR (cR (cR (cR doC)))
structure KDo (WB:Nat->Prop) (wb gr qt:Nat) (w:World):Prop where
  hW:WB wb
  grant:w.cell? ⟨wb,4,none⟩=some (.chan (some gr))
  quit:w.cell? ⟨wb,5,none⟩=some (.chan (some qt))
theorem KDo.rely {w w1:World} {wb gr qt j:Nat} (K:KDo WB wb gr qt w) (h:Rl OB WB j w w1):KDo WB wb gr qt w1 :=
  ⟨K.hW,(h.1 _ K.hW (by show 3<=4;omega)).trans K.grant,(h.1 _ K.hW (by show 3<=5;omega)).trans K.quit⟩
abbrev doT1 (wb:Nat) (ab:Nat × Nat) (ak qt:Nat) (x y:Value):Array Value:=#[pt wb,x,undef,pt ab.1 ab.2,.int .u64 0,undef,pt wb,pt wb,pt wb 3,.chan (some ak),y,pt wb,pt wb,pt wb 5,.chan (some qt),undef,undef,undef,undef,undef,undef,undef,undef,undef,undef,undef,undef,undef,undef,undef,undef,undef,undef,undef,undef,undef,undef,undef,undef,undef,undef,undef,undef,undef]
abbrev zsE (wb:Nat) (ab:Nat × Nat) (ak qt:Nat) (x y:Value):Array Value:=#[pt wb,x,undef,pt ab.1 ab.2,.int .u64 0,undef,pt wb,pt wb,pt wb 3,.chan (some ak),y,pt wb,pt wb,pt wb 5,.chan (some qt),.tuple #[.int .i64 0,.bool false,.agg #[]],undef,undef,undef,undef,undef,undef,undef,undef,undef,undef,undef,undef,undef,undef,undef,undef,undef,undef,undef,undef,undef,undef,undef,undef,undef,undef,undef,undef]
abbrev doT2 (wb:Nat) (ab:Nat × Nat) (ak qt gr:Nat) (x y:Value):Array Value:=#[pt wb,x,undef,pt ab.1 ab.2,.int .u64 0,undef,pt wb,pt wb,pt wb 3,.chan (some ak),y,pt wb,pt wb,pt wb 5,.chan (some qt),.tuple #[.int .i64 0,.bool false,.agg #[]],.int .i64 0,.bool true,.bool false,undef,undef,pt wb,pt wb,pt wb 4,.chan (some gr),pt wb,pt wb,pt wb 5,.chan (some qt),undef,undef,undef,undef,undef,undef,undef,undef,undef,undef,undef,undef,undef,undef,undef]
noncomputable def doG (wb:Nat) (ab:Nat × Nat) (ak qt gr:Nat) (x y:Value) (cs:List Frame):Goroutine:=G ((base 82).at ⟨doT2 wb ab ak qt gr x y,[]⟩ [.inRegion zfq [0,1,2,3],.code zdQ]) cs
noncomputable def zcH (wb:Nat) (ab:Nat × Nat) (ak qt gr:Nat) (x y:Value) (cs:List Frame):Seat:={ cases:=#[rcase gr (.int .u64 0),rcase qt (.agg #[])],shape:=.select,home:=fun g=>g=doG wb ab ak qt gr x y cs }
set_option maxRecDepth 100000 in
theorem zr6 {w:World} {wb ak qt gr j:Nat} {ab:Nat × Nat} {x y:Value} (hK:KDo WB wb gr qt w) (hwB:wb<B) (cs:List Frame) :
    Conc.Goes Try.prog false (Rl OB WB j) (Dw OB WB B j) (fun g w=>∃ gq,AtS Try.prog (zcH wb ab ak qt gr x y cs) g gq) 60 (G ((base 82).at ⟨zsE wb ab ak qt x y,[]⟩ [.inRegion zdn [1,2,3],.code zdU,.code doY]) cs) w:=by
  simp only [zdn,zdU,doY,doC,cOps,cL,cR,Try.f82,Option.getD_some];(refine Conc.Goes.step rfl (fun w₁ h₁=>?_);replace hK:=hK.rely h₁;clear h₁;refine goes_oper_k rfl rfl (by decide) (fun K hK'=>?_);go_simp;refine hK' _ _ ⟨Dw.quiet (fun e he=>(by have hm:=mem_listed he;simp [go_sem,Instr.makeInterface,Instr.makeFunc] at hm)),?_⟩;clear hK' K)
  (refine Conc.Goes.step rfl (fun w₁ h₁=>?_);replace hK:=hK.rely h₁;clear h₁;refine goes_oper_k rfl rfl (by decide) (fun K hK'=>?_);go_simp;refine hK' _ _ ⟨Dw.quiet (fun e he=>(by have hm:=mem_listed he;simp [go_sem,Instr.makeInterface,Instr.makeFunc] at hm)),?_⟩;clear hK' K);(refine Conc.Goes.step rfl (fun w₁ h₁=>?_);replace hK:=hK.rely h₁;clear h₁;refine goes_oper_k rfl rfl (by decide) (fun K hK'=>?_);go_simp;refine hK' _ _ ⟨Dw.quiet (fun e he=>(by have hm:=mem_listed he;simp [go_sem,Instr.makeInterface,Instr.makeFunc] at hm)),?_⟩;clear hK' K);(refine Conc.Goes.step rfl (fun w₁ h₁=>?_);replace hK:=hK.rely h₁;clear h₁;rw [stepG_region_end];simp only [goes_go];refine⟨Dw.none _,?_⟩);(refine Conc.Goes.step rfl (fun w₁ h₁=>?_);replace hK:=hK.rely h₁;clear h₁;rw [stepG_block];simp only [goes_go];refine⟨Dw.none _,?_⟩);(refine Conc.Goes.step rfl (fun w₁ h₁=>?_);replace hK:=hK.rely h₁;clear h₁;rw [stepG_cond (t:=true) rfl];simp only [goes_go,if_true,if_false,Bool.false_eq_true,↓reduceIte];refine⟨Dw.none _,?_⟩);(refine Conc.Goes.step rfl (fun w₁ h₁=>?_);replace hK:=hK.rely h₁;clear h₁;rw [stepG_skip];simp only [goes_go];refine⟨Dw.none _,?_⟩);(refine Conc.Goes.step rfl (fun w₁ h₁=>?_);replace hK:=hK.rely h₁;clear h₁;rw [stepG_inBlock];simp only [goes_go];refine⟨Dw.none _,?_⟩);(refine Conc.Goes.step rfl (fun w₁ h₁=>?_);replace hK:=hK.rely h₁;clear h₁;rw [stepG_seq];simp only [goes_go];refine⟨Dw.none _,?_⟩);(refine Conc.Goes.step rfl (fun w₁ h₁=>?_);replace hK:=hK.rely h₁;clear h₁;rw [stepG_seq];simp only [goes_go];refine⟨Dw.none _,?_⟩);(refine Conc.Goes.step rfl (fun w₁ h₁=>?_);replace hK:=hK.rely h₁;clear h₁;rw [stepG_region];simp only [goes_go,List.size_toArray,List.length_cons,List.length_nil,Nat.reduceAdd,Nat.zero_add,List.range,List.range.loop];refine⟨Dw.none _,?_⟩);(refine Conc.Goes.step rfl (fun w₁ h₁=>?_);replace hK:=hK.rely h₁;clear h₁;refine goes_oper_k rfl rfl (by decide) (fun K hK'=>?_);go_simp;refine hK' _ _ ⟨Dw.quiet (fun e he=>(by have hm:=mem_listed he;simp [go_sem,Instr.makeInterface,Instr.makeFunc] at hm)),?_⟩;clear hK' K);(refine Conc.Goes.step rfl (fun w₁ h₁=>?_);replace hK:=hK.rely h₁;clear h₁;refine goes_oper_k rfl rfl (by decide) (fun K hK'=>?_);go_simp;refine hK' _ _ ⟨Dw.quiet (fun e he=>(by have hm:=mem_listed he;simp [go_sem,Instr.makeInterface,Instr.makeFunc] at hm)),?_⟩;clear hK' K);(refine Conc.Goes.step rfl (fun w₁ h₁=>?_);replace hK:=hK.rely h₁;clear h₁;refine goes_oper_k rfl rfl (by decide) (fun K hK'=>?_);go_simp;refine hK' _ _ ⟨Dw.quiet (fun e he=>(by have hm:=mem_listed he;simp [go_sem,Instr.makeInterface,Instr.makeFunc] at hm)),?_⟩;clear hK' K);(refine Conc.Goes.step rfl (fun w₁ h₁=>?_);replace hK:=hK.rely h₁;clear h₁;have hF:=hK.grant;refine goes_oper_k rfl rfl (by decide) (fun K hK'=>?_);go_simp;refine hK' _ _ ⟨Dw.quiet (fun e he=>(by have hm:=mem_listed he;simp [go_sem,hF] at hm;subst hm;exact zgU hK.hW (by show 3<=4;omega) hwB)),?_⟩;clear hK' K hF);(refine Conc.Goes.step rfl (fun w₁ h₁=>?_);replace hK:=hK.rely h₁;clear h₁;rw [stepG_region_end];simp only [goes_go];refine⟨Dw.none _,?_⟩);(refine Conc.Goes.step rfl (fun w₁ h₁=>?_);replace hK:=hK.rely h₁;clear h₁;rw [stepG_region];simp only [goes_go,List.size_toArray,List.length_cons,List.length_nil,Nat.reduceAdd,Nat.zero_add,List.range,List.range.loop];refine⟨Dw.none _,?_⟩);(refine Conc.Goes.step rfl (fun w₁ h₁=>?_);replace hK:=hK.rely h₁;clear h₁;refine goes_oper_k rfl rfl (by decide) (fun K hK'=>?_);go_simp;refine hK' _ _ ⟨Dw.quiet (fun e he=>(by have hm:=mem_listed he;simp [go_sem,Instr.makeInterface,Instr.makeFunc] at hm)),?_⟩;clear hK' K);(refine Conc.Goes.step rfl (fun w₁ h₁=>?_);replace hK:=hK.rely h₁;clear h₁;refine goes_oper_k rfl rfl (by decide) (fun K hK'=>?_);go_simp;refine hK' _ _ ⟨Dw.quiet (fun e he=>(by have hm:=mem_listed he;simp [go_sem,Instr.makeInterface,Instr.makeFunc] at hm)),?_⟩;clear hK' K)
  (refine Conc.Goes.step rfl (fun w₁ h₁=>?_);replace hK:=hK.rely h₁;clear h₁;refine goes_oper_k rfl rfl (by decide) (fun K hK'=>?_);go_simp;refine hK' _ _ ⟨Dw.quiet (fun e he=>(by have hm:=mem_listed he;simp [go_sem,Instr.makeInterface,Instr.makeFunc] at hm)),?_⟩;clear hK' K);(refine Conc.Goes.step rfl (fun w₁ h₁=>?_);replace hK:=hK.rely h₁;clear h₁;have hF:=hK.quit;refine goes_oper_k rfl rfl (by decide) (fun K hK'=>?_);go_simp;refine hK' _ _ ⟨Dw.quiet (fun e he=>(by have hm:=mem_listed he;simp [go_sem,hF] at hm;subst hm;exact zgU hK.hW (by show 3<=5;omega) hwB)),?_⟩;clear hK' K hF);(refine Conc.Goes.step rfl (fun w₁ h₁=>?_);replace hK:=hK.rely h₁;clear h₁;rw [stepG_region_end];simp only [goes_go];refine⟨Dw.none _,?_⟩);(refine Conc.Goes.step rfl (fun w₁ h₁=>?_);replace hK:=hK.rely h₁;clear h₁;rw [stepG_seq];simp only [goes_go];refine⟨Dw.none _,?_⟩);(refine Conc.Goes.step rfl (fun w₁ h₁=>?_);replace hK:=hK.rely h₁;clear h₁;rw [stepG_region];simp only [goes_go,List.size_toArray,List.length_cons,List.length_nil,Nat.reduceAdd,Nat.zero_add,List.range,List.range.loop];refine⟨Dw.none _,?_⟩);refine Conc.Goes.stop (fun w₁ h₁=>⟨_,zoT rfl rfl (by decide) (fun w=>by simp [go_sem,execOp,rcase,Act.eval,zcH]) (fun w=>by simp [go_sem,execOp,Act.eval]) (by simp only [zcH,doG,zfq,zdQ,doC,cOps,cL,cR,Try.f82,Option.getD_some])⟩)
noncomputable def zcT:Code:=(Try.f14.body).getD .skip
noncomputable def closeOps2:Array Oper:=cOps (cL (cR (cR zcT)))
noncomputable def zgw:Code:=cR (cR (cR zcT))
noncomputable def zgC:Code:=cR (cR (cR (cR zcT)))
def zhi:Code->Code|.cond _ x _=>x|c=>c
noncomputable def zds:Array Oper:=cOps (cL (zhi zgC))
noncomputable def zgF:Code:=cR (zhi zgC)
structure KCl (OB:Nat->Prop) (w0:World) (tb dn:Nat) (w:World):Prop where
  own:∀ b,OB b->w.heap[b]?=w0.heap[b]?
  hO:OB tb
  done:w0.cell? ⟨tb,2,none⟩=some (.chan (some dn))
  busy:w0.cell? ⟨tb,4,none⟩=some (.bool true)
theorem KCl.rely {w0 w w1:World} {tb dn:Nat} (K:KCl OB w0 tb dn w) (h:Rl OB WB 0 w w1):KCl OB w0 tb dn w1 :=
  ⟨fun b hb=>(h.2 rfl b hb).trans (K.own b hb),K.hO,K.done,K.busy⟩
theorem KCl.done' {w0 w:World} {tb dn:Nat} (K:KCl OB w0 tb dn w):w.cell? ⟨tb,2,none⟩=some (.chan (some dn)):=(zaZ w0 w _ (K.own tb K.hO)).trans K.done
theorem KCl.busy' {w0 w:World} {tb dn:Nat} (K:KCl OB w0 tb dn w):w.cell? ⟨tb,4,none⟩=some (.bool true):=(zaZ w0 w _ (K.own tb K.hO)).trans K.busy
abbrev znq (tb qt:Nat) (z2 z3 z4 z5 z6 z7 z8 z9 z10 z11 z12 z13 z14 z15:Value):Array Value:=#[pt tb,undef,z2,z3,z4,z5,z6,z7,z8,z9,z10,z11,z12,z13,z14,z15,pt tb,pt tb,pt tb 6,.chan (some qt),undef,undef,undef,undef,undef,undef,undef,undef,undef,undef,undef,undef]
abbrev zrL (tb qt dn:Nat) (z2 z3 z4 z5 z6 z7 z8 z9 z10 z11 z12 z13 z14 z15:Value):Array Value:=#[pt tb,undef,z2,z3,z4,z5,z6,z7,z8,z9,z10,z11,z12,z13,z14,z15,pt tb,pt tb,pt tb 6,.chan (some qt),pt tb,pt tb,pt tb 4,.bool true,pt tb,pt tb,pt tb 2,.chan (some dn),undef,undef,undef,undef]
noncomputable def zlm (tb qt dn:Nat) (z2 z3 z4 z5 z6 z7 z8 z9 z10 z11 z12 z13 z14 z15:Value) (cs:List Frame):Goroutine:=G ((base 14).at ⟨zrL tb qt dn z2 z3 z4 z5 z6 z7 z8 z9 z10 z11 z12 z13 z14 z15,[]⟩ [.inRegion zds [4],.code zgF]) cs
noncomputable def zjx (tb qt dn:Nat) (z2 z3 z4 z5 z6 z7 z8 z9 z10 z11 z12 z13 z14 z15:Value) (cs:List Frame):Seat:={ cases:=#[rcase dn .nilIface],shape:=.recv false,home:=fun g=>g=zlm tb qt dn z2 z3 z4 z5 z6 z7 z8 z9 z10 z11 z12 z13 z14 z15 cs }
set_option maxRecDepth 100000 in
theorem zox {w0 w:World} {tb dn qt:Nat} {z2 z3 z4 z5 z6 z7 z8 z9 z10 z11 z12 z13 z14 z15:Value} (hK:KCl OB w0 tb dn w) (htB:tb<B) (cs:List Frame) :
    Conc.Goes Try.prog true (Rl OB WB 0) (Dw OB WB B 0) (fun g w=>(∃ gq,AtS Try.prog (zjx tb qt dn z2 z3 z4 z5 z6 z7 z8 z9 z10 z11 z12 z13 z14 z15 cs) g gq)/\KCl OB w0 tb dn w) 40 (G ((base 14).at ⟨znq tb qt z2 z3 z4 z5 z6 z7 z8 z9 z10 z11 z12 z13 z14 z15,[]⟩ [.inRegion closeOps2 [],.code zgw]) cs) w:=by
  simp only [closeOps2,zgw,zcT,cOps,cL,cR,Try.f14,Option.getD_some];(refine Conc.Goes.step rfl (fun w₁ h₁=>?_);replace hK:=hK.rely h₁;clear h₁;rw [stepG_region_end];simp only [goes_go];refine⟨Dw.none _,?_⟩);(refine Conc.Goes.step rfl (fun w₁ h₁=>?_);replace hK:=hK.rely h₁;clear h₁;rw [stepG_seq];simp only [goes_go];refine⟨Dw.none _,?_⟩);(refine Conc.Goes.step rfl (fun w₁ h₁=>?_);replace hK:=hK.rely h₁;clear h₁;rw [stepG_region];simp only [goes_go,List.size_toArray,List.length_cons,List.length_nil,Nat.reduceAdd,Nat.zero_add,List.range,List.range.loop];refine⟨Dw.none _,?_⟩);(refine Conc.Goes.step rfl (fun w₁ h₁=>?_);replace hK:=hK.rely h₁;clear h₁;refine goes_oper_k rfl rfl (by decide) (fun K hK'=>?_);go_simp;refine hK' _ _ ⟨Dw.quiet (fun e he=>(by have hm:=mem_listed he;simp [go_sem,Instr.makeInterface,Instr.makeFunc] at hm)),?_⟩;clear hK' K)
  (refine Conc.Goes.step rfl (fun w₁ h₁=>?_);replace hK:=hK.rely h₁;clear h₁;refine goes_oper_k rfl rfl (by decide) (fun K hK'=>?_);go_simp;refine hK' _ _ ⟨Dw.quiet (fun e he=>(by have hm:=mem_listed he;simp [go_sem,Instr.makeInterface,Instr.makeFunc] at hm)),?_⟩;clear hK' K);(refine Conc.Goes.step rfl (fun w₁ h₁=>?_);replace hK:=hK.rely h₁;clear h₁;refine goes_oper_k rfl rfl (by decide) (fun K hK'=>?_);go_simp;refine hK' _ _ ⟨Dw.quiet (fun e he=>(by have hm:=mem_listed he;simp [go_sem,Instr.makeInterface,Instr.makeFunc] at hm)),?_⟩;clear hK' K);(refine Conc.Goes.step rfl (fun w₁ h₁=>?_);replace hK:=hK.rely h₁;clear h₁;have hF:=hK.busy';refine goes_oper_k rfl rfl (by decide) (fun K hK'=>?_);go_simp;refine hK' _ _ ⟨Dw.quiet (fun e he=>(by have hm:=mem_listed he;simp [go_sem,hF] at hm;subst hm;exact zgt rfl hK.hO htB)),?_⟩;clear hK' K hF);(refine Conc.Goes.step rfl (fun w₁ h₁=>?_);replace hK:=hK.rely h₁;clear h₁;rw [stepG_region_end];simp only [goes_go];refine⟨Dw.none _,?_⟩);(refine Conc.Goes.step rfl (fun w₁ h₁=>?_);replace hK:=hK.rely h₁;clear h₁;rw [stepG_cond (t:=true) rfl];simp only [goes_go,if_true,if_false,Bool.false_eq_true,↓reduceIte];refine⟨Dw.none _,?_⟩);(refine Conc.Goes.step rfl (fun w₁ h₁=>?_);replace hK:=hK.rely h₁;clear h₁;rw [stepG_seq];simp only [goes_go];refine⟨Dw.none _,?_⟩);(refine Conc.Goes.step rfl (fun w₁ h₁=>?_);replace hK:=hK.rely h₁;clear h₁;rw [stepG_region];simp only [goes_go,List.size_toArray,List.length_cons,List.length_nil,Nat.reduceAdd,Nat.zero_add,List.range,List.range.loop];refine⟨Dw.none _,?_⟩);(refine Conc.Goes.step rfl (fun w₁ h₁=>?_);replace hK:=hK.rely h₁;clear h₁;refine goes_oper_k rfl rfl (by decide) (fun K hK'=>?_);go_simp;refine hK' _ _ ⟨Dw.quiet (fun e he=>(by have hm:=mem_listed he;simp [go_sem,Instr.makeInterface,Instr.makeFunc] at hm)),?_⟩;clear hK' K);(refine Conc.Goes.step rfl (fun w₁ h₁=>?_);replace hK:=hK.rely h₁;clear h₁;refine goes_oper_k rfl rfl (by decide) (fun K hK'=>?_);go_simp;refine hK' _ _ ⟨Dw.quiet (fun e he=>(by have hm:=mem_listed he;simp [go_sem,Instr.makeInterface,Instr.makeFunc] at hm)),?_⟩;clear hK' K);(refine Conc.Goes.step rfl (fun w₁ h₁=>?_);replace hK:=hK.rely h₁;clear h₁;refine goes_oper_k rfl rfl (by decide) (fun K hK'=>?_);go_simp;refine hK' _ _ ⟨Dw.quiet (fun e he=>(by have hm:=mem_listed he;simp [go_sem,Instr.makeInterface,Instr.makeFunc] at hm)),?_⟩;clear hK' K);(refine Conc.Goes.step rfl (fun w₁ h₁=>?_);replace hK:=hK.rely h₁;clear h₁;have hF:=hK.done';refine goes_oper_k rfl rfl (by decide) (fun K hK'=>?_);go_simp;refine hK' _ _ ⟨Dw.quiet (fun e he=>(by have hm:=mem_listed he;simp [go_sem,hF] at hm;subst hm;exact zgt rfl hK.hO htB)),?_⟩;clear hK' K hF);refine Conc.Goes.stop (fun w₁ h₁=>⟨⟨_,zoT rfl rfl (by decide) (fun w=>by simp [go_sem,execOp,rcase,Act.eval,zjx]) (fun w=>by simp [go_sem,execOp,Act.eval]) (by simp only [zjx,zlm,zds,zgF,zgC,zhi,zcT,cOps,cL,cR,Try.f14,Option.getD_some])⟩,hK.rely h₁⟩)
end
end Go.Proofs.Ytgndgbnhkoppmaa
namespace Go.Proofs.Ytgndgbnhkoppmaa
open Go Go.RowKit
def chV (c:Nat):Value:=.chan (some c)
def ptrO (F:Emb):Option Nat->Value
  | none=>.pointer none
  | some k=>.pointer (some ⟨F.blk (VB+k),0,none⟩)
def zaO (F:Emb) (self:Int) (quit:Nat) (closed busy:Bool) (cur:Option (Nat × Nat × Nat)) (pend:Option Nat):Array Value :=
  #[.int .i64 self,ptrO F (cur.map (·.1)),.chan (cur.map (·.2.2)),ptrO F pend,.bool busy,.bool closed,chV quit]
def zdp (self:Int) (steps:Nat) (told:Value) (ask grant quit:Nat):Array Value:=#[.int .i64 self,.int .i64 (wr steps),told,chV ask,chV grant,chV quit]
def zf0 (c:Nat) (n:Int) (A B:UInt64):Array Value:=#[.int .u8 (c:Int),.int .i64 n,.int .u64 (A.toNat:Int),.int .u64 (B.toNat:Int)]
structure MemP (n:Nat) where
  pre:Array Value
  post:Array Value
  wpre:Array Value
  wpost:Array Value
  wcap:Nat
  bpre:Array Value
  bpost:Array Value
  bcap:Nat
  hn:pre.size=n
structure MemO (w:World) (m bw bb:Nat) {n:Nat} (X:MemP n) (ws:List UInt64) (bs:List UInt8):Prop where
  hm:w.heap[m]?=some (.cells (X.pre++#[.slice (some ⟨bw,X.wpre.size,none⟩) ws.length X.wcap,.slice (some ⟨bb,X.bpre.size,none⟩) bs.length X.bcap]++X.post) 94 (0,0))
  hw:w.heap[bw]?=some (.cells (X.wpre++zkQ ws++X.wpost) 29 (0,0))
  hb:w.heap[bb]?=some (.cells (X.bpre++zkT bs++X.bpost) 5 (0,0))
  wl:ws.length<=2097152
  bl:bs.length<=1048576
structure DirP (n:Nat) where
  pre:Array Value
  post:Array Value
  vpre:Array Value
  vpost:Array Value
  hn:pre.size=n
structure DirO (w:World) (D:zjF) (mb mo:Nat) (me:Int) {n:Nat} (Y:DirP n) (steps:Nat):Prop where
  hd:w.heap[D.d]?=some (.cells (Y.pre++#[.pointer (some ⟨D.v,Y.vpre.size,none⟩),.int .i64 me]++Y.post) 99 (0,0))
  hv:w.heap[D.v]?=some (.cells (Y.vpre++#[.pointer (some ⟨mb,mo,none⟩),.int .i64 (steps:Int)]++Y.vpost) 97 (0,0))
def rowB:Ob->Bool
  | .mem _ _|.port _ _ _=>false
  | _=>true
def zay (mn:Bool) (F:Emb) (k:Nat):Ob->List Nat
  | .mem _ _=>[F.blk (VB+k),aux (F.slack (VB+k)) 1,aux (F.slack (VB+k)) 2]
  | .port _ _ _=>[F.blk (VB+k),aux (F.slack (VB+k)) 1]
  | .thr _ _ _ _ _ _=>if mn then [F.blk (VB+k)] else []
  | .wp _ _ _ _ _=>[F.blk (VB+k)]
  | .acc _ _ _ _=>[F.blk (VB+k)]
  | .box _=>[F.blk (VB+k)]
def obAt (mn:Bool) (OB WB:Nat->Prop) (F:Emb) (S:St) (w:World) (k:Nat):Ob->Prop
  | .mem ws bs=>∃ X:MemP (F.base (VB+k)),MemO w (F.blk (VB+k)) (aux (F.slack (VB+k)) 1) (aux (F.slack (VB+k)) 2) X ws bs
  | .port m me steps=>(∃ Y:DirP (F.base (VB+k)),DirO w ⟨F.blk (VB+k),aux (F.slack (VB+k)) 1⟩ (F.blk (VB+m)) (F.base (VB+m)) me Y steps)/\∃ ws bs,S[m]?=some (Ob.mem ws bs)
  | .thr self quit closed busy cur pend=>mn=true->(OB (F.blk (VB+k))/\(∀ c,cur=some c->c.1<S.length)/\(∀ p,pend=some p->p<S.length)/\w.heap[F.blk (VB+k)]?=some (.cells (zaO F self quit closed busy cur pend) 72 (0,0)))
  | .wp self steps ask grant quit=>WB (F.blk (VB+k))/\∃ (told:Option Addr) (fr:Nat × Nat),w.heap[F.blk (VB+k)]?=some (.cells (zdp self steps (.pointer told) ask grant quit) 77 fr)
  | .acc c n A B=>w.heap[F.blk (VB+k)]?=some (.cells (zf0 c n A B) 31 (0,0))
  | .box c=>w.heap[F.blk (VB+k)]?=some (.cells #[chV c] 101 (0,0))
structure Rep (mn:Bool) (OB WB:Nat->Prop) (F:Emb) (S:St) (w:World):Prop where
  base:∀ k ob,S[k]?=some ob->rowB ob=true->F.base (VB+k)=0
  at':∀ k ob,S[k]?=some ob->obAt mn OB WB F S w k ob
  apart:∀ k k' ob ob',k≠k'->S[k]?=some ob->S[k']?=some ob'->∀ b∈zay mn F k ob,b ∉ zay mn F k' ob'
  waits:∀ k ob,S[k]?=some ob->∀ b∈zay mn F k ob,WB b->∃ a s x y z,ob=Ob.wp a s x y z
  wlow:∀ b,WB b->b<w.heap.size
def fpS (mn:Bool) (F:Emb) (S:St) (b:Nat):Prop:=∃ k ob,S[k]?=some ob/\b∈zay mn F k ob
section
variable {mn:Bool} {OB WB:Nat->Prop} {F F':Emb} {S S':St} {w w':World} {k:Nat} {ob:Ob}
theorem zfa (h:obAt mn OB WB F S w k ob):∀ b∈zay mn F k ob,∃ c el fr,w.heap[b]?=some (.cells c el fr):=by
  intro b hb;cases ob with
  | mem ws bs =>
    obtain⟨X,h⟩:=h;simp only [zay,List.mem_cons,List.not_mem_nil,or_false] at hb;rcases hb with rfl|rfl|rfl
    . exact⟨_,_,_,h.hm⟩
    . exact⟨_,_,_,h.hw⟩
    . exact⟨_,_,_,h.hb⟩
  | port m me steps =>
    obtain⟨⟨td,h⟩,_⟩:=h;simp only [zay,List.mem_cons,List.not_mem_nil,or_false] at hb;rcases hb with rfl|rfl
    . exact⟨_,_,_,h.hd⟩
    . exact⟨_,_,_,h.hv⟩
  | thr =>
    cases mn with
    | false=>simp [zay] at hb
    | true =>
      simp only [zay,if_true,List.mem_cons,List.not_mem_nil,or_false] at hb;subst hb;exact⟨_,_,_,(h rfl).2.2.2⟩
  | wp =>
    simp only [zay,List.mem_cons,List.not_mem_nil,or_false] at hb;subst hb;obtain⟨_,told,fr,h⟩:=h;exact⟨_,_,_,h⟩
  | acc =>
    simp only [zay,List.mem_cons,List.not_mem_nil,or_false] at hb;subst hb;exact⟨_,_,_,h⟩
  | box =>
    simp only [zay,List.mem_cons,List.not_mem_nil,or_false] at hb;subst hb;exact⟨_,_,_,h⟩
theorem zoJ (h:obAt mn OB WB F S w k ob) (hw:∀ b∈zay mn F k ob,WB b->∃ a s x y z,ob=Ob.wp a s x y z)
    (hk:∀ b∈zay mn F k ob,∃ c el fr fr',w.heap[b]?=some (.cells c el fr)/\w'.heap[b]?=some (.cells c el fr')/\(WB b\/fr'=fr)):obAt mn OB WB F S w' k ob:=by
  have key:(∀ a s x y z,ob≠Ob.wp a s x y z)->∀ b∈zay mn F k ob,w'.heap[b]?=w.heap[b]?:=fun hn b hb=>by
    obtain⟨c,el,fr,fr',h1,h2,h3⟩:=hk b hb;rcases h3 with h3|rfl
    . obtain⟨a,s,x,y,z,rfl⟩:=hw b hb h3;exact absurd rfl (hn a s x y z)
    . rw [h1,h2]
  cases ob with
  | mem ws bs =>
    have key:=key (fun _ _ _ _ _ h=>by cases h)
    obtain⟨X,h⟩:=h;exact⟨X,⟨(key _ (by simp [zay])).trans h.hm,(key _ (by simp [zay])).trans h.hw,(key _ (by simp [zay])).trans h.hb,h.wl,h.bl⟩⟩
  | port m me steps =>
    have key:=key (fun _ _ _ _ _ h=>by cases h)
    obtain⟨⟨td,h⟩,h2⟩:=h;exact⟨⟨td,(key _ (by simp [zay])).trans h.hd,(key _ (by simp [zay])).trans h.hv⟩,h2⟩
  | thr =>
    have key:=key (fun _ _ _ _ _ h=>by cases h)
    intro hm;obtain⟨h1,h2,h3,h4⟩:=h hm;exact⟨h1,h2,h3,(key _ (by simp [zay,hm])).trans h4⟩
  | wp self steps ask grant quit =>
    obtain⟨h1,told,fr,h2⟩:=h;obtain⟨c,el,fr0,fr',h3,h4,_⟩:=hk (F.blk (VB+k)) (by simp [zay])
    rw [h2] at h3;cases h3;exact⟨h1,told,fr',h4⟩
  | acc =>
    have key:=key (fun _ _ _ _ _ h=>by cases h)
    exact (key _ (by simp [zay])).trans h
  | box =>
    have key:=key (fun _ _ _ _ _ h=>by cases h)
    exact (key _ (by simp [zay])).trans h
theorem zdj (h:obAt mn OB WB F S w k ob) (hk:∀ b∈zay mn F k ob,w'.heap[b]?=w.heap[b]?):obAt mn OB WB F S w' k ob:=by
  cases ob with
  | mem ws bs =>
    obtain⟨X,h⟩:=h;exact⟨X,⟨(hk _ (by simp [zay])).trans h.hm,(hk _ (by simp [zay])).trans h.hw,(hk _ (by simp [zay])).trans h.hb,h.wl,h.bl⟩⟩
  | port m me steps =>
    obtain⟨⟨td,h⟩,h2⟩:=h;exact⟨⟨td,(hk _ (by simp [zay])).trans h.hd,(hk _ (by simp [zay])).trans h.hv⟩,h2⟩
  | thr =>
    intro hm;obtain⟨h1,h2,h3,h4⟩:=h hm;exact⟨h1,h2,h3,(hk _ (by simp [zay,hm])).trans h4⟩
  | wp self steps ask grant quit =>
    obtain⟨h1,told,fr,h2⟩:=h;exact⟨h1,told,fr,(hk _ (by simp [zay])).trans h2⟩
  | acc=>exact (hk _ (by simp [zay])).trans h
  | box=>exact (hk _ (by simp [zay])).trans h
theorem Same.hnd (hs:Same (fun n=>VB<=n/\n<VB+S.length) F F') (hk:k<S.length):F.blk (VB+k)=F'.blk (VB+k)/\F.base (VB+k)=F'.base (VB+k)/\F.slack (VB+k)=F'.slack (VB+k) :=
  hs (VB+k) ⟨by omega,by omega⟩
theorem zaL (hk:S[k]?=some ob):k<S.length:=(List.getElem?_eq_some_iff.1 hk).1
theorem zdt (hs:Same (fun n=>VB<=n/\n<VB+S.length) F F') (hk:k<S.length):zay mn F' k ob=zay mn F k ob:=by
  obtain⟨h1,h2,h3⟩:=hs.hnd hk;cases ob<;>simp [zay,h1,h3]
theorem ziL (hs:Same (fun n=>VB<=n/\n<VB+S.length) F F') {o:Option Nat} (h:∀ p,o=some p->p<S.length):ptrO F' o=ptrO F o:=by
  cases o with
  | none=>rfl
  | some p=>simp only [ptrO];rw [(hs.hnd (h p rfl)).1]
theorem zgq (hs:Same (fun n=>VB<=n/\n<VB+S.length) F F') {self:Int} {quit:Nat} {closed busy:Bool} {cur:Option (Nat × Nat × Nat)} {pend:Option Nat} (h1:∀ c,cur=some c->c.1<S.length) (h2:∀ p,pend=some p->p<S.length) :
    zaO F' self quit closed busy cur pend=zaO F self quit closed busy cur pend:=by
  unfold zaO;rw [ziL hs h2,ziL hs (o:=cur.map (·.1)) (fun p hp=>by
    obtain⟨c,hc,rfl⟩:=Option.map_eq_some_iff.1 hp;exact h1 c hc)]
theorem zn0 (hs:Same (fun n=>VB<=n/\n<VB+S.length) F F') (hk:k<S.length) (h:obAt mn OB WB F S w k ob):obAt mn OB WB F' S w k ob:=by
  obtain⟨h1,h2,h3⟩:=hs.hnd hk;cases ob with
  | mem ws bs=>unfold obAt at h ⊢;rw [<-h1,<-h2,<-h3];exact h
  | port m me steps =>
    obtain⟨hd,ws,bs,hm⟩:=h;obtain⟨k1,k2,_⟩:=hs.hnd (zaL hm);show (∃ Y:DirP (F'.base (VB+k)),DirO w ⟨F'.blk (VB+k),aux (F'.slack (VB+k)) 1⟩ (F'.blk (VB+m)) (F'.base (VB+m)) me Y steps)/\_;rw [<-h1,<-h2,<-h3,<-k1,<-k2];exact⟨hd,ws,bs,hm⟩
  | thr self quit closed busy cur pend =>
    intro hm;obtain⟨a1,a2,a3,a4⟩:=h hm;refine⟨h1 ▸ a1,a2,a3,?_⟩;rw [<-h1,zgq hs a2 a3];exact a4
  | wp=>unfold obAt at h ⊢;rw [<-h1];exact h
  | acc=>unfold obAt at h ⊢;rw [<-h1];exact h
  | box=>unfold obAt at h ⊢;rw [<-h1];exact h
theorem Rep.same (hs:Same (fun n=>VB<=n/\n<VB+S.length) F F') (h:Rep mn OB WB F S w):Rep mn OB WB F' S w/\∀ b,fpS mn F' S b->fpS mn F S b :=
  ⟨⟨fun k ob hk hr=>by rw [<-(hs.hnd (zaL hk)).2.1];exact h.base k ob hk hr,fun k ob hk=>zn0 hs (zaL hk) (h.at' k ob hk),fun k k' ob ob' hne hk hk' b hb=>by
    rw [zdt hs (zaL hk)] at hb;rw [zdt hs (zaL hk')];exact h.apart k k' ob ob' hne hk hk' b hb,fun k ob hk b hb=>by
    rw [zdt hs (zaL hk)] at hb;exact h.waits k ob hk b hb,h.wlow⟩,fun b ⟨k,ob,hk,hb⟩=>⟨k,ob,hk,by rw [zdt hs (zaL hk)] at hb;exact hb⟩⟩
theorem Rep.kept (h:Rep mn OB WB F S w) (hsz:w.heap.size<=w'.heap.size) (hk:∀ b,fpS mn F S b->w'.heap[b]?=w.heap[b]?):Rep mn OB WB F S w' :=
  ⟨h.base,fun k ob hob=>zdj (h.at' k ob hob) (fun b hb=>hk b ⟨k,ob,hob,hb⟩),h.apart,h.waits,fun b hb=>Nat.lt_of_lt_of_le (h.wlow b hb) hsz⟩
end
inductive PrimM:FuncId->Array Value->St->Value->St->Prop
  | com {f args S v S'} (h:Prim f args S v S'):PrimM f args S v S'
  | busy {k:Nat} {self:Int} {quit:Nat} {closed b:Bool} {cur:Option (Nat × Nat × Nat)} {pend:Option Nat} {S:St} (h:S[k]?=some (Ob.thr self quit closed b cur pend)):PrimM 9 #[hndV k] S (.bool b) S
  | idle {k:Nat} {self:Int} {quit:Nat} {closed b:Bool} {cur:Option (Nat × Nat × Nat)} {S:St} (h:S[k]?=some (Ob.thr self quit closed b cur none)):PrimM 10 #[hndV k] S (.tuple #[accZ,.bool false]) S
  | pend {k p:Nat} {self:Int} {quit:Nat} {closed b:Bool} {cur:Option (Nat × Nat × Nat)} {S:St} {c:Nat} {n:Int} {A B:UInt64} (h:S[k]?=some (Ob.thr self quit closed b cur (some p))) (hp:S[p]?=some (Ob.acc c n A B)):PrimM 10 #[hndV k] S (.tuple #[accV c n A B,.bool true]) S
  | grantNo {k:Nat} {self:Int} {quit:Nat} {closed b:Bool} {cur:Option (Nat × Nat × Nat)} {S:St} {v:UInt64} (h:S[k]?=some (Ob.thr self quit closed b cur none)):PrimM 11 #[hndV k,.int .u64 (v.toNat:Int)] S (.bool false) S
  | startShut {k:Nat} {self:Int} {quit:Nat} {b:Bool} {cur:Option (Nat × Nat × Nat)} {pend:Option Nat} {S:St} {fv:Value} (hf:∀ F:Emb,ren F fv=fv) (h:S[k]?=some (Ob.thr self quit true b cur pend)):PrimM 7 #[hndV k,fv] S (.bool false) S
  | startBusy {k:Nat} {self:Int} {quit:Nat} {cur:Option (Nat × Nat × Nat)} {pend:Option Nat} {S:St} {fv:Value} (hf:∀ F:Emb,ren F fv=fv) (h:S[k]?=some (Ob.thr self quit false true cur pend)):PrimM 7 #[hndV k,fv] S (.bool false) S
  | startNil {k:Nat} {self:Int} {quit:Nat} {cur:Option (Nat × Nat × Nat)} {pend:Option Nat} {S:St} (h:S[k]?=some (Ob.thr self quit false false cur pend)):PrimM 7 #[hndV k,.nilFunc] S (.bool false) S
  | closeNo {k:Nat} {self:Int} {quit:Nat} {b:Bool} {cur:Option (Nat × Nat × Nat)} {pend:Option Nat} {S:St} (h:S[k]?=some (Ob.thr self quit true b cur pend)):PrimM 14 #[hndV k] S (.tuple #[]) S
  | steps {k hp gid dn:Nat} {self wself:Int} {quit s x y z:Nat} {closed b:Bool} {pend:Option Nat} {S:St} (h:S[k]?=some (Ob.thr self quit closed b (some (hp,gid,dn)) pend)) (hw:S[hp]?=some (Ob.wp wself s x y z)):PrimM 18 #[hndV k] S (.int .i64 (wr s)) S
theorem PrimM.len {f:FuncId} {args:Array Value} {S S':St} {v:Value} (h:PrimM f args S v S'):S.length<=S'.length:=by
  cases h with
  | com h=>exact h.len
  | _=>exact Nat.le_refl _
theorem PrimM.hand {f:FuncId} {args:Array Value} {S S':St} {v:Value} (h:PrimM f args S v S'):Hand S'.length v:=by
  cases h with
  | com h=>exact h.hand
  | _=>exact Hand.plain (by first|rfl|simp [zac,accV])
def PrimV:Bool->FuncId->Array Value->St->Value->St->Prop
  | true=>PrimM
  | false=>Prim
theorem PrimV.len {mn:Bool} {f:FuncId} {args:Array Value} {S S':St} {v:Value} (h:PrimV mn f args S v S'):S.length<=S'.length:=by
  cases mn with
  | true=>exact PrimM.len h
  | false=>exact Prim.len h
theorem PrimV.hand {mn:Bool} {f:FuncId} {args:Array Value} {S S':St} {v:Value} (h:PrimV mn f args S v S'):Hand S'.length v:=by
  cases mn with
  | true=>exact PrimM.hand h
  | false=>exact Prim.hand h
def zau (mn:Bool) (OB WB:Nat->Prop):Prop:=∀ f args S v S' F w,PrimV mn f args S v S'->Rep mn OB WB F S w->TCalls Try.prog f (args.map (ren F)) w fun e w'=>∃ F',Same (fun n=>n<VB+S.length) F F'/\e=.returned (ren F' v)/\Rep mn OB WB F' S' w'/\Kept w (fpS mn F S) w'/\∀ b,fpS mn F' S' b->fpS mn F S b\/w.heap.size<=b
def XF (mn:Bool) (OB WB:Nat->Prop) (hok:zau mn OB WB):Face Try.prog St where
  mix:=Try.mix
  cnt:=List.length
  rep:=Rep mn OB WB
  fp:=fpS mn
  prim:=PrimV mn
  rep_same:=fun _ _ _ _ hs h=>h.same hs
  rep_kept:=fun F S w w' R hsz hk=>R.kept hsz hk
  fp_low:=fun F S w b R ⟨k,ob,hk,hb⟩=>by
    obtain⟨c,el,fr,ho⟩:=zfa (R.at' k ob hk) b hb;exact zab ho
  prim_hand:=fun _ _ _ _ _ h=>⟨h.len,h.hand⟩
  prim_ok:=fun f args S v S' F w h R=>hok f args S v S' F w h R
theorem XF.soft {mn:Bool} {OB WB:Nat->Prop} (hok:zau mn OB WB):zpr (XF mn OB WB hok) WB where
  cell:=fun F S w b R ⟨k,ob,hk,hb⟩=>zfa (R.at' k ob hk) b hb
  soft:=fun F S w w' R hsz hk=>⟨R.base,fun k ob hob=>zoJ (R.at' k ob hob) (R.waits k ob hob) (fun b hb=>hk b ⟨k,ob,hob,hb⟩),R.apart,R.waits,fun b hb=>Nat.lt_of_lt_of_le (R.wlow b hb) hsz⟩
theorem zsY {a b:Int} (h:a=b):(a==b)=true:=by rw [h];exact beq_self_eq_true _
theorem ztw {a b:Int} (h:a<b\/b<a):(a==b)=false:=by rw [beq_eq_false_iff_ne];omega
theorem zta {a b:Int} (h:a<=b):(a<=b)=True:=eq_true h
theorem ztg {a b:Int} (h:a<b):(a<b)=True:=eq_true h
theorem ztp {a b:Nat} (h:a<=b):(a<=b)=True:=eq_true h
theorem zsV {a b:Nat} (h:a<b):(a<b)=True:=eq_true h
attribute [go_sem] zsY ztw zta ztg ztp zsV
section
variable {P:Program} {σ:Type} {X:Face P σ} {fn:Func} {A:Conf σ->Prop} {ops:Array Oper} {k:List Item} {i:Nat} {tmps:List Value} {h:AHeap} {S:σ} {o:Oper}
end
def SlAt (q:Nat) (sl:Option Addr):Prop:=∀ a,sl=some a->a.block=q
theorem SlAt.clo {q:Nat} {sl:Option Addr} (h:SlAt q sl) {n c k:Nat} (hq:q<k):Clo (Kn k 0) (.slice sl n c):=by
  cases sl with
  | none=>exact Clo.plain rfl
  | some a =>
    intro F F' hs;have:=h a rfl;obtain⟨h1,h2,h3⟩:=hs q (.inl hq);simp [adr,this,h1,h2,h3]
section
open Go.ChangeShapes Go.WideShapes Go.Deep
variable {H:Type} {enc:TypeId × Value->H} {P:Program} {w:World} {base:Nat} {spare:Nat->Bool} {held:Bool}
end
def zrI (P:Program) (h:AHeap) (t:TypeId) (X Y:Value):Option (Value × AHeap):=match X,za8 P t,Y with
  | .slice none 0 0,some el,.slice _ 0 _=>(match zal P el with|some _=>some (.slice none 0 0,h)|none=>none)
  | .slice (some a) sl sc,some el,.slice b n c=>(match zal P el with
    | some s=>if sl+n<=sc then (match n,zcx h s (.slice b n c),h.get a.block with
        | 0,_,_=>some (.slice (some a) sl sc,h)
        | _,some news,some bk=>if bk.ro=false/\a.spot=none/\a.off+sl * s+news.length<=bk.cells.length/\news.length=n * s/\news.all zdI=true then
            some (.slice (some a) (sl+n) sc,h.put a.block { bk with cells:=zaQ bk.cells (a.off+sl * s) news }) else none
        | _,_,_=>none)
      else (match zde P h t X Y with
        | some (cs,el,need,false)=>some (.slice (some ⟨h.next,0,none⟩) need need,(h.putO a.block none).addO (some ⟨cs,el,false,zal P el⟩))
        | _=>none)
    | none=>none)
  | _,_,_=>none
def AppTo (P:Program) (h:AHeap) (t:TypeId) (X Y:Value) (v:Value) (h':AHeap):Prop:=zrI P h t X Y=some (v,h')\/∃ ob,appV P h h.next t X Y=some (v,ob)/\h'=h.addO ob
structure AppT (P:Program) (t el:TypeId) (s:Nat):Prop where
  sl:za8 P t=some el
  sz:zal P el=some (s+1)
  bs:∃ bs,zap P el=some bs/\bs<=1048576
  z:∃ z,zaw P el=some z/\zac z=true/\z.cells.size=s+1
theorem AppT.of {P:Program} {t el:TypeId} {s bs:Nat} {z:Value} (h1:za8 P t=some el) (h2:zal P el=some (s+1)) (h3:zap P el=some bs) (h4:zaw P el=some z) (h5:(zac z && decide (z.cells.size=s+1) && decide (bs<=1048576))=true):AppT P t el s:=by
  rw [Bool.and_eq_true,Bool.and_eq_true,decide_eq_true_eq,decide_eq_true_eq] at h5;exact⟨h1,h2,⟨bs,h3,h5.2⟩,⟨z,h4,h5.1.1,h5.1.2⟩⟩
section
variable {P:Program} {h:AHeap} {t el:TypeId} {s:Nat}
attribute [go_sem] Int.toNat_zero Int.toNat_one Option.map_some Option.map_none
end
section
variable {P:Program} {σ:Type} {X:Face P σ} {fn:Func} {A:Conf σ->Prop} {ops:Array Oper} {k:List Item} {i:Nat} {tmps:List Value} {h h':AHeap} {S:σ} {o:Oper} {x y:Operand} {t:TypeId} {v:Value}
theorem zn7 {e:Operand->Value}:wrA P e h (.call { callee:=.builtin .append,args:=#[x,y],argTypes:=#[t,t] })=zrI P h t (e x) (e y):=by
  unfold wrA zrI;simp only [if_true];rfl
theorem AppTo.op (e:AppTo P h t (evA tmps x) (evA tmps y) v h') (hop:o.op=.call { callee:=.builtin .append,args:=#[x,y],argTypes:=#[t,t] }):Op0 X o (evA tmps) h S v h' S:=by
  rcases e with e|⟨ob,e,rfl⟩
  . exact .inr (.inr (.inl ⟨by rw [hop,zn7];exact e,rfl⟩))
  . exact .inr (.inl ⟨ob,by rw [hop,zla];exact e,rfl,rfl⟩)
variable {W:List Nat} {n0:Nat} {hf:AHeap} {Kf:List Value->AHeap->σ->Prop} {born:List (Nat × Nat)}
end
section
variable {P:Program} {σ:Type} {X:Face P σ} {fn:Func} {A:Conf σ->Prop} {ops:Array Oper} {k:List Item} {i:Nat} {tmps:List Value} {S:σ} {o:Oper} {l ys:List (Option Blk)} {q:Nat}
variable {W:List Nat} {n0:Nat} {Kf:List Value->AHeap->σ->Prop} {born:List (Nat × Nat)} {hf:AHeap}
end
abbrev wL (ws:List UInt64):List Value:=zdr .u64 (ws.map fun x=>(x.toNat:Int))
abbrev bL (bs:List UInt8):List Value:=zdr .u8 (bs.map fun x=>(x.toNat:Int))
theorem zln (ws:List UInt64):(wL ws).length=ws.length:=by simp [zdr]
theorem zqF (bs:List UInt8):(bL bs).length=bs.length:=by simp [zdr]
abbrev mB (wn wc bn bc:Nat):Blk:=⟨[.slice (some ⟨1,0,none⟩) wn wc,.slice (some ⟨2,0,none⟩) bn bc],94,true,none⟩
abbrev wB (ws:List UInt64):Blk:=⟨wL ws,29,false,none⟩
abbrev bB (bs:List UInt8):Blk:=⟨bL bs,5,false,none⟩
abbrev zaI (ws:List UInt64) (bs:List UInt8) (wc bc:Nat):List Blk:=[mB ws.length wc bs.length bc,wB ws,bB bs]
theorem zeF {n c q o:Nat} (h:q<n):Clo (Kn n c) (.pointer (some ⟨q,o,none⟩)):=fun F F' hs=>by
  obtain⟨h1,h2,h3⟩:=hs q (.inl h);simp [adr,h1,h2,h3]
theorem zji {n c q a b:Nat} (h:q<n):Clo (Kn n c) (.slice (some ⟨q,0,none⟩) a b):=fun F F' hs=>by
  obtain⟨h1,h2,h3⟩:=hs q (.inl h);simp [adr,h1,h2,h3]
theorem zaU (ws:List UInt64) (bs:List UInt8) (wc bc:Nat):∀ b∈zaI ws bs wc bc,∀ u∈b.cells,Clo (Kn (zaI ws bs wc bc).length 0) u:=by
  intro b hb u hu;simp only [List.mem_cons,List.not_mem_nil,or_false] at hb;rcases hb with rfl|rfl|rfl
  . simp only [List.mem_cons,List.not_mem_nil,or_false] at hu;rcases hu with rfl|rfl
    . exact zji (by simp)
    . exact zji (by simp)
  . exact Clo.plain (zah u hu)
  . exact Clo.plain (zah u hu)
theorem up_3 {a b c d nx:Nat} {ns:List Nat}:(upE (a::b::c::d::ns) nx).blk 3=d:=by simp [upE,zc1,upN]
theorem up_4 {a b c d e nx:Nat} {ns:List Nat}:(upE (a::b::c::d::e::ns) nx).blk 4=e:=by simp [upE,zc1,upN]
theorem Gives.turn {cnt:Nat} {l l':List Blk} {h1:AHeap} {v:Value} (hlen:l'.length=l.length) (hv:Clo (Kn l.length cnt) v) (hr:∀ (i:Nat) b,l[i]?=some b->b.ro=false->∃ b1,h1.get i=some b1/\l'[i]?=some b1/\b1.ro=false/\∀ u∈b1.cells,Clo (Kn l.length cnt) u):Gives cnt l l' [] [] id h1 v v where
  low:=fun _ _=>rfl
  hand:=fun _ _=>rfl
  more:=fun j n hj=>by simp at hj
  nodup:=List.nodup_nil
  len:=rfl
  len':=hlen
  told:=(zdN v).symm
  clo:=fun F F' hs=>hv F F' fun n hn=>hs n (by rcases hn with hn|hn;exact .inl hn;exact .inr (.inr hn))
  rows:=fun i b hb hro=>by
    obtain⟨b1,h1,h2,h3,h4⟩:=hr i b hb hro;refine⟨b1,h1,?_,h3,fun u hu F F' hs=>h4 u hu F F' fun n hn=>hs n (by rcases hn with hn|hn;exact .inl hn;exact .inr (.inr hn))⟩
    rw [h2];congr 1;obtain⟨cs,el,ro,gr⟩:=b1;simp only [renB,Blk.mk.injEq,and_true];have h5:cs.map (ren (zc1 id))=cs.map id:=List.map_congr_left fun u hu=>zdN u;rw [h5,List.map_id]
  news:=fun j n hj=>by simp at hj
def zlx (m:Nat) (l l':List Blk) (h1:AHeap):Prop:=∀ (i:Nat) b,l[i]?=some b->b.ro=false->∃ b1,h1.get i=some b1/\l'[i]?=some b1/\b1.ro=false/\∀ u∈b1.cells,Clo (Kn m 0) u
def DoesI (f:FuncId) (args:Array Value) (l:List Blk) (v:Value) (l':List Blk):Prop :=
  ∃ g c h1,Try.prog.funcs[f]?=some g/\goB g=true/\g.body=some c/\(∀ u∈args.toList,Clo (Kn l.length 0) u)/\(∀ b∈l,∀ u∈b.cells,Clo (Kn l.length 0) u)/\l'.length=l.length/\Clo (Kn l.length 0) v/\zlx l.length l l' h1 /\
    Goes BT g (fun x=>x=.done v h1 ()) (.run (zag g c args).1 (zag g c args).2 (zar (l.map some)) ())
theorem DoesI.x {f:FuncId} {args:Array Value} {l l':List Blk} {v:Value} (h:DoesI f args l v l'):DoesX BT f args l () v l' [] ():=by
  obtain⟨g,c,h1,a1,a2,a3,a4,a5,a6,a7,a8,G⟩:=h;exact⟨g,c,h1,v,[],id,a1,a2,a3,a4,a5,Gives.turn a6 a7 a8,G⟩
def EndI (l l':List Blk) (v:Value) (x:Conf Unit):Prop:=∃ h1,x=.done v h1 ()/\l'.length=l.length/\Clo (Kn l.length 0) v/\zlx l.length l l' h1
theorem DoesI.mk {f:FuncId} {g:Func} {c:Code} {args:Array Value} {l l':List Blk} {v:Value} (hf:Try.prog.funcs[f]?=some g) (hg:goB g=true) (hb:g.body=some c) (hclo:∀ u∈args.toList,Clo (Kn l.length 0) u) (hcl:∀ b∈l,∀ u∈b.cells,Clo (Kn l.length 0) u)
    (hrun:Goes BT g (EndI l l' v) (.run [.code c] (args.toList++List.replicate (g.ntmps - args.size) undef) (zar (l.map some)) ())):DoesI f args l v l':=by
  obtain⟨c',⟨h1,rfl,b1,b2,b3⟩,G⟩:=hrun.out;exact⟨g,c,h1,hf,hg,hb,hclo,hcl,b1,b2,b3,G⟩
theorem Goes.finI {fn:Func} {todo:List Item} {tmps:List Value} {h:AHeap} {v:Value} {l l':List Blk} (ht:retB todo=true) (hv:resA Try.prog fn tmps h=some v) (hS:(():Unit)=()) (hlen:l'.length=l.length) (hc:Clo (Kn l.length 0) v) (hr:zlx l.length l l' h) :
    Goes BT fn (EndI l l' v) (.run todo tmps h ()):=.ret ht hv (.here ⟨h,rfl,hlen,hc,hr⟩)
theorem zos {m:Nat} {l l':List Blk} {h1:AHeap} (h:l.all (·.ro)=true):zlx m l l' h1:=fun i b hb hro=>by
  have:=List.all_eq_true.1 h b (List.mem_of_getElem? hb);rw [hro] at this;cases this
theorem zii (ws:List UInt64):∀ u∈wL ws,zac u=true:=zah
theorem zix (bs:List UInt8):∀ u∈bL bs,zac u=true:=zah
theorem zck {ws ws':List UInt64} {bs bs':List UInt8} {wn wc bn bc m:Nat} {l:List (Option Blk)}:∀ (i:Nat) b,[mB wn wc bn bc,wB ws,bB bs][i]?=some b->b.ro=false->∃ b1,(zar (some (mB wn wc bn bc)::some (wB ws')::some (bB bs')::l)).get i=some b1/\[mB wn wc bn bc,wB ws',bB bs'][i]?=some b1/\b1.ro=false/\∀ u∈b1.cells,Clo (Kn m 0) u
  | 0,b,hb,hro=>by simp at hb;subst hb;cases hro
  | 1,b,_,_=>⟨wB ws',rfl,rfl,rfl,fun u hu=>Clo.plain (zii ws' u hu)⟩
  | 2,b,_,_=>⟨bB bs',rfl,rfl,rfl,fun u hu=>Clo.plain (zix bs' u hu)⟩
  | i+3,b,hb,_=>by simp at hb
abbrev wBr (ws:List UInt64):Blk:=⟨wL ws,29,true,none⟩
abbrev bBr (bs:List UInt8):Blk:=⟨bL bs,5,true,none⟩
abbrev mRo (ws:List UInt64) (bs:List UInt8) (wc bc:Nat):List Blk:=[mB ws.length wc bs.length bc,wBr ws,bBr bs]
theorem znm (ws:List UInt64) (bs:List UInt8) (wc bc:Nat):∀ b∈mRo ws bs wc bc,∀ u∈b.cells,Clo (Kn (mRo ws bs wc bc).length 0) u:=by
  intro b hb u hu;simp only [List.mem_cons,List.not_mem_nil,or_false] at hb;rcases hb with rfl|rfl|rfl
  . simp only [List.mem_cons,List.not_mem_nil,or_false] at hu;rcases hu with rfl|rfl
    . exact zji (by simp)
    . exact zji (by simp)
  . exact Clo.plain (zah u hu)
  . exact Clo.plain (zah u hu)
theorem zeg (ws:List UInt64) (bs:List UInt8) (wc bc:Nat):DoesX BT 39 #[.pointer (some ⟨0,0,none⟩)] (mRo ws bs wc bc) () (.int .i64 (ws.length:Int)) (mRo ws bs wc bc) [] ():=by
  refine DoesX.mk Try.func39 rfl rfl ?clo ?rows ?_
  case clo=>exact fun u hu=>(by simp only [List.mem_cons,List.not_mem_nil,or_false] at hu;subst hu;exact zeF (by simp))
  case rows=>exact znm ws bs wc bc
  rw [Try.ntmps39];simp only [List.size_toArray,List.length_cons,List.length_nil,List.replicate,List.cons_append,List.nil_append];simp only [mRo,List.map_cons,List.map_nil];refine via ?_;refine Goes.finS rfl (by simp (disch:=(first|omega|(simp only [zaa,List.length_cons,List.length_nil,List.size_toArray,zad]<;>omega)|fail)) only [go_sem,resA,zaF,Try.results39]<;>rfl) ?_ rfl ?_
  . rfl
  . exact Clo.plain rfl
theorem zil (ws:List UInt64) (bs:List UInt8) (wc bc:Nat):DoesX BT 41 #[.pointer (some ⟨0,0,none⟩)] (mRo ws bs wc bc) () (.int .i64 (bs.length:Int)) (mRo ws bs wc bc) [] ():=by
  refine DoesX.mk Try.func41 rfl rfl ?clo ?rows ?_
  case clo=>exact fun u hu=>(by simp only [List.mem_cons,List.not_mem_nil,or_false] at hu;subst hu;exact zeF (by simp))
  case rows=>exact znm ws bs wc bc
  rw [Try.ntmps41];simp only [List.size_toArray,List.length_cons,List.length_nil,List.replicate,List.cons_append,List.nil_append];simp only [mRo,List.map_cons,List.map_nil];refine via ?_;refine Goes.finS rfl (by simp (disch:=(first|omega|(simp only [zaa,List.length_cons,List.length_nil,List.size_toArray,zad]<;>omega)|fail)) only [go_sem,resA,zaF,Try.results41]<;>rfl) ?_ rfl ?_
  . rfl
  . exact Clo.plain rfl
abbrev zhx:Value:=.agg #[.nilFunc,.func (.func 44) #[] #[],.func (.func 45) #[] #[],.func (.func 46) #[] #[],.func (.func 47) #[] #[]]
theorem zga:zal Try.prog 90=some 1:=by kernel_rfl
theorem ziH:zaP Try.prog 90=some false:=by kernel_rfl
theorem zdW:Does BT 40 #[] [] () zhx ():=by
  refine Does.mk Try.func40 rfl rfl ?clo ?hand ?_
  case clo=>exact fun u hu=>by simp at hu
  case hand=>exact fun F F' _=>(by simp [zhx])
  rw [Try.ntmps40];simp only [List.size_toArray,List.length_cons,List.length_nil,List.replicate,List.cons_append,List.nil_append];simp only [List.map_nil];refine via ?_;refine Goes.fin rfl (by simp (disch:=(first|omega|(simp only [zaa,List.length_cons,List.length_nil,List.size_toArray,zad]<;>omega)|fail)) only [go_sem,resA,zaF,Try.results40]<;>rfl) ?_
  rfl
theorem zlp (x:UInt64) (c:Nat) (n:Int) (A B:UInt64):Does BT 44 #[.int .u64 (x.toNat:Int),accV c n A B] [] () (.tuple #[.int .u64 (x.toNat:Int),.int .u64 (x.toNat:Int)]) ():=by
  refine Does.mk Try.func44 rfl rfl ?clo ?hand ?_
  case clo=>exact fun u hu=>(by simp only [List.mem_cons,List.not_mem_nil,or_false] at hu;rcases hu with rfl|rfl;exact Clo.plain rfl;exact Clo.plain (by simp [zac,accV]))
  case hand=>exact Hand.plain (by simp [zac])
  rw [Try.ntmps44];simp only [List.size_toArray,List.length_cons,List.length_nil,List.replicate,List.cons_append,List.nil_append];simp only [List.map_nil,accV];refine via ?_;refine Goes.fin rfl (by simp (disch:=(first|omega|(simp only [zaa,List.length_cons,List.length_nil,List.size_toArray,zad]<;>omega)|fail)) only [go_sem,resA,zaF,Try.results44]<;>rfl) ?_
  rfl
theorem zkK (x:UInt64) (c:Nat) (n:Int) (A B:UInt64):Does BT 45 #[.int .u64 (x.toNat:Int),accV c n A B] [] () (.tuple #[.int .u64 (A.toNat:Int),.int .u64 0]) ():=by
  refine Does.mk Try.func45 rfl rfl ?clo ?hand ?_
  case clo=>exact fun u hu=>(by simp only [List.mem_cons,List.not_mem_nil,or_false] at hu;rcases hu with rfl|rfl;exact Clo.plain rfl;exact Clo.plain (by simp [zac,accV]))
  case hand=>exact Hand.plain (by simp [zac])
  rw [Try.ntmps45];simp only [List.size_toArray,List.length_cons,List.length_nil,List.replicate,List.cons_append,List.nil_append];simp only [List.map_nil,accV];refine via ?_;refine Goes.fin rfl (by simp (disch:=(first|omega|(simp only [zaa,List.length_cons,List.length_nil,List.size_toArray,zad]<;>omega)|fail)) only [go_sem,resA,zaF,Try.results45]<;>rfl) ?_
  rfl
theorem zkP (x:UInt64) (c:Nat) (n:Int) (A B:UInt64):Does BT 46 #[.int .u64 (x.toNat:Int),accV c n A B] [] () (.tuple #[.int .u64 ((kNow 3 x A B).toNat:Int),.int .u64 ((zm5 3 x A).toNat:Int)]) ():=by
  refine Does.mk Try.func46 rfl rfl ?clo ?hand ?_
  case clo=>exact fun u hu=>(by simp only [List.mem_cons,List.not_mem_nil,or_false] at hu;rcases hu with rfl|rfl;exact Clo.plain rfl;exact Clo.plain (by simp [zac,accV]))
  case hand=>exact Hand.plain (by simp [zac])
  rw [Try.ntmps46];simp only [List.size_toArray,List.length_cons,List.length_nil,List.replicate,List.cons_append,List.nil_append];simp only [List.map_nil,accV];by_cases h:x=A
  . have h2:((x.toNat:Int) != (A.toNat:Int))=false:=by simp [h]
    refine viaF h2 ?_;simp only [kNow,zm5,h,if_true];refine Goes.fin rfl (by simp (disch:=(first|omega|(simp only [zaa,List.length_cons,List.length_nil,List.size_toArray,zad]<;>omega)|fail)) only [go_sem,resA,zaF,Try.results46]<;>rfl) ?_
    rfl
  . have h2:((x.toNat:Int) != (A.toNat:Int))=true:=by
      simp only [bne_iff_ne,ne_eq];intro z;exact h (UInt64.toNat_inj.1 (by omega))
    refine viaF h2 ?_;simp only [kNow,zm5,h,if_false];refine Goes.fin rfl (by simp (disch:=(first|omega|(simp only [zaa,List.length_cons,List.length_nil,List.size_toArray,zad]<;>omega)|fail)) only [go_sem,resA,zaF,Try.results46]<;>rfl) ?_
    rfl
theorem zkG (x:UInt64) (c:Nat) (n:Int) (A B:UInt64):Does BT 47 #[.int .u64 (x.toNat:Int),accV c n A B] [] () (.tuple #[.int .u64 ((x+A).toNat:Int),.int .u64 (x.toNat:Int)]) ():=by
  refine Does.mk Try.func47 rfl rfl ?clo ?hand ?_
  case clo=>exact fun u hu=>(by simp only [List.mem_cons,List.not_mem_nil,or_false] at hu;rcases hu with rfl|rfl;exact Clo.plain rfl;exact Clo.plain (by simp [zac,accV]))
  case hand=>exact Hand.plain (by simp [zac])
  rw [Try.ntmps47];simp only [List.size_toArray,List.length_cons,List.length_nil,List.replicate,List.cons_append,List.nil_append];simp only [List.map_nil,accV];have h2:IntKind.u64.wrap ((x.toNat:Int)+(A.toNat:Int))=((x+A).toNat:Int):=zri x A;refine viaF h2 ?_;refine Goes.fin rfl (by simp (disch:=(first|omega|(simp only [zaa,List.length_cons,List.length_nil,List.size_toArray,zad]<;>omega)|fail)) only [go_sem,resA,zaF,Try.results47]<;>rfl) ?_
  rfl
theorem zpl {ws:List UInt64} {k:Nat} (h:k<ws.length):(wL ws)[k]?=some (.int .u64 (ws[k].toNat:Int)):=by simp [zdr,h]
theorem zle {ws:List UInt64} {k:Nat} {x:UInt64}:(wL ws).set k (.int .u64 (x.toNat:Int))=wL (ws.set k x):=by simp [zdr,List.map_set]
theorem zrg {n m c:Nat} {k:Int} {A B:UInt64}:Clo (Kn n m) (accV c k A B):=Clo.plain (by simp [zac,accV])
theorem zbb {c:Nat} {k:Int} {A B:UInt64} {n:Nat} (h:0<n):∀ u∈(#[.pointer (some ⟨0,0,none⟩),accV c k A B]:Array Value).toList,Clo (Kn n 0) u:=fun u hu=>by
  simp only [List.mem_cons,List.not_mem_nil,or_false] at hu;rcases hu with rfl|rfl
  . exact zeF h
  . exact zrg
theorem zs3 {bs:List UInt8} {k:Nat} (h:k<bs.length):(bL bs)[k]?=some (.int .u8 (bs[k].toNat:Int)):=by simp [zdr,h]
theorem zsl {bs:List UInt8} {k:Nat} {x:UInt8}:(bL bs).set k (.int .u8 (x.toNat:Int))=bL (bs.set k x):=by simp [zdr,List.map_set]
theorem zoe (b:UInt8):IntKind.u64.wrap (b.toNat:Int)=(b.toNat:Int):=by
  have:=b.toNat_lt;rw [IntKind.wrap_u64];omega
set_option maxRecDepth 100000 in
theorem zrb (ws:List UInt64) (bs:List UInt8) (wc bc:Nat) (n:Int) (A B:UInt64) (hn:n<0):DoesI 24 #[.pointer (some ⟨0,0,none⟩),accV 1 n A B] (zaI ws bs wc bc) (.tuple #[.int .u64 0,.bool false]) (zaI ws bs wc bc):=by
  refine DoesI.mk Try.func24 rfl rfl ?clo ?rows ?_
  case clo=>exact zbb (by simp)
  case rows=>exact zaU ws bs wc bc
  rw [Try.ntmps24];simp only [List.size_toArray,List.length_cons,List.length_nil,List.replicate,List.cons_append,List.nil_append];simp only [zaI,List.map_cons,List.map_nil,accV,List.length_set];have hd1:decide (n<0)=true:=decide_eq_true hn;refine viaF hd1 ?_;refine Goes.finI rfl (by simp (disch:=(first|omega|(simp only [zaa,List.length_cons,List.length_nil,List.size_toArray,zad]<;>omega)|fail)) only [go_sem,resA,zaF,Try.results24]<;>rfl) rfl rfl ?_ ?_
  . exact Clo.plain (by simp [zac])
  . exact zck
set_option maxRecDepth 100000 in
theorem zru (ws:List UInt64) (bs:List UInt8) (wc bc:Nat) (n:Int) (A B:UInt64) (hn:(ws.length:Int)<=n):DoesI 24 #[.pointer (some ⟨0,0,none⟩),accV 1 n A B] (zaI ws bs wc bc) (.tuple #[.int .u64 0,.bool false]) (zaI ws bs wc bc):=by
  refine DoesI.mk Try.func24 rfl rfl ?clo ?rows ?_
  case clo=>exact zbb (by simp)
  case rows=>exact zaU ws bs wc bc
  rw [Try.ntmps24];simp only [List.size_toArray,List.length_cons,List.length_nil,List.replicate,List.cons_append,List.nil_append];simp only [zaI,List.map_cons,List.map_nil,accV,List.length_set];have hd1:decide (n<0)=false:=decide_eq_false (by omega)
  have hd2:decide (n >= (ws.length:Int))=true:=decide_eq_true (by omega)
  refine viaF (And.intro hd1 hd2) ?_;((first|refine At.callX [0,1,2] rfl rfl rfl (by decide) rfl (fun K hK=>?_)|refine RG.callX [0,1,2] rfl rfl rfl rfl (by decide) (fun K hK=>?_));simp (disch:=(first|omega|(simp only [zaa,List.length_cons,List.length_nil,List.size_toArray,zad]<;>omega)|fail)) only [go_sem];refine⟨_,_,_,_,_,_,(zeg ws bs wc bc),by first|rfl|simp (disch:=(first|omega|(simp only [zaa,List.length_cons,List.length_nil,List.size_toArray,zad]<;>omega)|fail)) only [go_sem],by ((repeat (refine⟨⟨_,rfl,rfl,?_,(by first|exact .inr rfl|exact .inl rfl),(by first|exact fun h=>h|exact fun _=>rfl|(intro h;cases h))⟩,?_⟩;· first|exact zai zah|(simp [up_0,up_1,up_2,up_3,up_4,zaq,zam,adr];done)|(simp [zbg];done)|exact zai (by simp [zac];done)|simp [up_0,up_1,up_2,zcc,zaq,zam,adr]));exact trivial),by first|exact⟨rfl,rfl⟩|rfl,?_⟩;(try simp only [go_sem]);(first|refine hK _ _ _ ?_|refine hK _ _ _ _ ?_);clear hK K)
  refine viaF (And.intro hd1 hd2) ?_;refine Goes.finI rfl (by simp (disch:=(first|omega|(simp only [zaa,List.length_cons,List.length_nil,List.size_toArray,zad]<;>omega)|fail)) only [go_sem,resA,zaF,Try.results24]<;>rfl) rfl rfl ?_ ?_
  . exact Clo.plain (by simp [zac])
  . exact zck
set_option maxRecDepth 100000 in
theorem zsB (ws:List UInt64) (bs:List UInt8) (wc bc k:Nat) (A B:UInt64) (hk:k<ws.length):DoesI 24 #[.pointer (some ⟨0,0,none⟩),accV 1 (k:Int) A B] (zaI ws bs wc bc) (.tuple #[.int .u64 (ws[k].toNat:Int),.bool true]) (zaI (ws.set k ws[k]) bs wc bc):=by
  refine DoesI.mk Try.func24 rfl rfl ?clo ?rows ?_
  case clo=>exact zbb (by simp)
  case rows=>exact zaU ws bs wc bc
  rw [Try.ntmps24];simp only [List.size_toArray,List.length_cons,List.length_nil,List.replicate,List.cons_append,List.nil_append];simp only [zaI,List.map_cons,List.map_nil,accV,List.length_set];have hd1:decide ((k:Int)<0)=false:=decide_eq_false (by omega)
  have hd2:decide ((k:Int) >= (ws.length:Int))=false:=decide_eq_false (by omega)
  have hx:=zpl hk;have hll:=zln ws;refine viaF (And.intro hd1 (And.intro hd2 (And.intro hx hll))) ?_;((first|refine At.callX [0,1,2] rfl rfl rfl (by decide) rfl (fun K hK=>?_)|refine RG.callX [0,1,2] rfl rfl rfl rfl (by decide) (fun K hK=>?_));simp (disch:=(first|omega|(simp only [zaa,List.length_cons,List.length_nil,List.size_toArray,zad]<;>omega)|fail)) only [go_sem];refine⟨_,_,_,_,_,_,(zeg ws bs wc bc),by first|rfl|simp (disch:=(first|omega|(simp only [zaa,List.length_cons,List.length_nil,List.size_toArray,zad]<;>omega)|fail)) only [go_sem],by ((repeat (refine⟨⟨_,rfl,rfl,?_,(by first|exact .inr rfl|exact .inl rfl),(by first|exact fun h=>h|exact fun _=>rfl|(intro h;cases h))⟩,?_⟩;· first|exact zai zah|(simp [up_0,up_1,up_2,up_3,up_4,zaq,zam,adr];done)|(simp [zbg];done)|exact zai (by simp [zac];done)|simp [up_0,up_1,up_2,zcc,zaq,zam,adr]));exact trivial),by first|exact⟨rfl,rfl⟩|rfl,?_⟩;(try simp only [go_sem]);(first|refine hK _ _ _ ?_|refine hK _ _ _ _ ?_);clear hK K)
  refine viaF (And.intro hd1 (And.intro hd2 (And.intro hx hll))) ?_;((first|refine qc1 rfl rfl fun K hK=>?_|refine qc3 rfl rfl fun K hK=>?_);simp (disch:=(first|omega|(simp only [sz]<;>omega)|fail)) only [go_sem];(first|refine⟨_,_,zdW,?_⟩|refine⟨_,_,Does.com (zdW),?_⟩);(try simp only [go_sem]);with_reducible refine hK _ _ ?_;clear hK K)
  simp only [zhx];have hts:=zga;have hta:=ziH;have hk1:=Nat.mul_one k;refine viaF (And.intro hd1 (And.intro hd2 (And.intro hx (And.intro hll (And.intro hts (And.intro hta hk1)))))) ?_;((first|refine qc1 rfl rfl fun K hK=>?_|refine qc3 rfl rfl fun K hK=>?_);simp (disch:=(first|omega|(simp only [sz]<;>omega)|fail)) only [go_sem];(first|refine⟨_,_,zlp ws[k] 1 (k:Int) A B,?_⟩|refine⟨_,_,Does.com (zlp ws[k] 1 (k:Int) A B),?_⟩);(try simp only [go_sem]);with_reducible refine hK _ _ ?_;clear hK K)
  refine viaF (And.intro hd1 (And.intro hd2 (And.intro hx (And.intro hll hk1)))) ?_;rw [zle];refine Goes.finI rfl (by simp (disch:=(first|omega|(simp only [zaa,List.length_cons,List.length_nil,List.size_toArray,zad]<;>omega)|fail)) only [go_sem,resA,zaF,Try.results24]<;>rfl) rfl rfl ?_ ?_
  . exact Clo.plain (by simp [zac])
  . exact zck
set_option maxRecDepth 100000 in
theorem zrw (ws:List UInt64) (bs:List UInt8) (wc bc:Nat) (n:Int) (A B:UInt64) (hn:n<0):DoesI 24 #[.pointer (some ⟨0,0,none⟩),accV 2 n A B] (zaI ws bs wc bc) (.tuple #[.int .u64 0,.bool false]) (zaI ws bs wc bc):=by
  refine DoesI.mk Try.func24 rfl rfl ?clo ?rows ?_
  case clo=>exact zbb (by simp)
  case rows=>exact zaU ws bs wc bc
  rw [Try.ntmps24];simp only [List.size_toArray,List.length_cons,List.length_nil,List.replicate,List.cons_append,List.nil_append];simp only [zaI,List.map_cons,List.map_nil,accV,List.length_set];have hd1:decide (n<0)=true:=decide_eq_true hn;refine viaF hd1 ?_;refine Goes.finI rfl (by simp (disch:=(first|omega|(simp only [zaa,List.length_cons,List.length_nil,List.size_toArray,zad]<;>omega)|fail)) only [go_sem,resA,zaF,Try.results24]<;>rfl) rfl rfl ?_ ?_
  . exact Clo.plain (by simp [zac])
  . exact zck
set_option maxRecDepth 100000 in
theorem zqV (ws:List UInt64) (bs:List UInt8) (wc bc:Nat) (n:Int) (A B:UInt64) (hn:(ws.length:Int)<=n):DoesI 24 #[.pointer (some ⟨0,0,none⟩),accV 2 n A B] (zaI ws bs wc bc) (.tuple #[.int .u64 0,.bool false]) (zaI ws bs wc bc):=by
  refine DoesI.mk Try.func24 rfl rfl ?clo ?rows ?_
  case clo=>exact zbb (by simp)
  case rows=>exact zaU ws bs wc bc
  rw [Try.ntmps24];simp only [List.size_toArray,List.length_cons,List.length_nil,List.replicate,List.cons_append,List.nil_append];simp only [zaI,List.map_cons,List.map_nil,accV,List.length_set];have hd1:decide (n<0)=false:=decide_eq_false (by omega)
  have hd2:decide (n >= (ws.length:Int))=true:=decide_eq_true (by omega)
  refine viaF (And.intro hd1 hd2) ?_;((first|refine At.callX [0,1,2] rfl rfl rfl (by decide) rfl (fun K hK=>?_)|refine RG.callX [0,1,2] rfl rfl rfl rfl (by decide) (fun K hK=>?_));simp (disch:=(first|omega|(simp only [zaa,List.length_cons,List.length_nil,List.size_toArray,zad]<;>omega)|fail)) only [go_sem];refine⟨_,_,_,_,_,_,(zeg ws bs wc bc),by first|rfl|simp (disch:=(first|omega|(simp only [zaa,List.length_cons,List.length_nil,List.size_toArray,zad]<;>omega)|fail)) only [go_sem],by ((repeat (refine⟨⟨_,rfl,rfl,?_,(by first|exact .inr rfl|exact .inl rfl),(by first|exact fun h=>h|exact fun _=>rfl|(intro h;cases h))⟩,?_⟩;· first|exact zai zah|(simp [up_0,up_1,up_2,up_3,up_4,zaq,zam,adr];done)|(simp [zbg];done)|exact zai (by simp [zac];done)|simp [up_0,up_1,up_2,zcc,zaq,zam,adr]));exact trivial),by first|exact⟨rfl,rfl⟩|rfl,?_⟩;(try simp only [go_sem]);(first|refine hK _ _ _ ?_|refine hK _ _ _ _ ?_);clear hK K)
  refine viaF (And.intro hd1 hd2) ?_;refine Goes.finI rfl (by simp (disch:=(first|omega|(simp only [zaa,List.length_cons,List.length_nil,List.size_toArray,zad]<;>omega)|fail)) only [go_sem,resA,zaF,Try.results24]<;>rfl) rfl rfl ?_ ?_
  . exact Clo.plain (by simp [zac])
  . exact zck
set_option maxRecDepth 100000 in
theorem zsb (ws:List UInt64) (bs:List UInt8) (wc bc k:Nat) (A B:UInt64) (hk:k<ws.length):DoesI 24 #[.pointer (some ⟨0,0,none⟩),accV 2 (k:Int) A B] (zaI ws bs wc bc) (.tuple #[.int .u64 0,.bool true]) (zaI (ws.set k A) bs wc bc):=by
  refine DoesI.mk Try.func24 rfl rfl ?clo ?rows ?_
  case clo=>exact zbb (by simp)
  case rows=>exact zaU ws bs wc bc
  rw [Try.ntmps24];simp only [List.size_toArray,List.length_cons,List.length_nil,List.replicate,List.cons_append,List.nil_append];simp only [zaI,List.map_cons,List.map_nil,accV,List.length_set];have hd1:decide ((k:Int)<0)=false:=decide_eq_false (by omega)
  have hd2:decide ((k:Int) >= (ws.length:Int))=false:=decide_eq_false (by omega)
  have hx:=zpl hk;have hll:=zln ws;refine viaF (And.intro hd1 (And.intro hd2 (And.intro hx hll))) ?_;((first|refine At.callX [0,1,2] rfl rfl rfl (by decide) rfl (fun K hK=>?_)|refine RG.callX [0,1,2] rfl rfl rfl rfl (by decide) (fun K hK=>?_));simp (disch:=(first|omega|(simp only [zaa,List.length_cons,List.length_nil,List.size_toArray,zad]<;>omega)|fail)) only [go_sem];refine⟨_,_,_,_,_,_,(zeg ws bs wc bc),by first|rfl|simp (disch:=(first|omega|(simp only [zaa,List.length_cons,List.length_nil,List.size_toArray,zad]<;>omega)|fail)) only [go_sem],by ((repeat (refine⟨⟨_,rfl,rfl,?_,(by first|exact .inr rfl|exact .inl rfl),(by first|exact fun h=>h|exact fun _=>rfl|(intro h;cases h))⟩,?_⟩;· first|exact zai zah|(simp [up_0,up_1,up_2,up_3,up_4,zaq,zam,adr];done)|(simp [zbg];done)|exact zai (by simp [zac];done)|simp [up_0,up_1,up_2,zcc,zaq,zam,adr]));exact trivial),by first|exact⟨rfl,rfl⟩|rfl,?_⟩;(try simp only [go_sem]);(first|refine hK _ _ _ ?_|refine hK _ _ _ _ ?_);clear hK K)
  refine viaF (And.intro hd1 (And.intro hd2 (And.intro hx hll))) ?_;((first|refine qc1 rfl rfl fun K hK=>?_|refine qc3 rfl rfl fun K hK=>?_);simp (disch:=(first|omega|(simp only [sz]<;>omega)|fail)) only [go_sem];(first|refine⟨_,_,zdW,?_⟩|refine⟨_,_,Does.com (zdW),?_⟩);(try simp only [go_sem]);with_reducible refine hK _ _ ?_;clear hK K)
  simp only [zhx];have hts:=zga;have hta:=ziH;have hk1:=Nat.mul_one k;refine viaF (And.intro hd1 (And.intro hd2 (And.intro hx (And.intro hll (And.intro hts (And.intro hta hk1)))))) ?_;((first|refine qc1 rfl rfl fun K hK=>?_|refine qc3 rfl rfl fun K hK=>?_);simp (disch:=(first|omega|(simp only [sz]<;>omega)|fail)) only [go_sem];(first|refine⟨_,_,zkK ws[k] 2 (k:Int) A B,?_⟩|refine⟨_,_,Does.com (zkK ws[k] 2 (k:Int) A B),?_⟩);(try simp only [go_sem]);with_reducible refine hK _ _ ?_;clear hK K)
  refine viaF (And.intro hd1 (And.intro hd2 (And.intro hx (And.intro hll hk1)))) ?_;rw [zle];refine Goes.finI rfl (by simp (disch:=(first|omega|(simp only [zaa,List.length_cons,List.length_nil,List.size_toArray,zad]<;>omega)|fail)) only [go_sem,resA,zaF,Try.results24]<;>rfl) rfl rfl ?_ ?_
  . exact Clo.plain (by simp [zac])
  . exact zck
set_option maxRecDepth 100000 in
theorem zqM (ws:List UInt64) (bs:List UInt8) (wc bc:Nat) (n:Int) (A B:UInt64) (hn:n<0):DoesI 24 #[.pointer (some ⟨0,0,none⟩),accV 3 n A B] (zaI ws bs wc bc) (.tuple #[.int .u64 0,.bool false]) (zaI ws bs wc bc):=by
  refine DoesI.mk Try.func24 rfl rfl ?clo ?rows ?_
  case clo=>exact zbb (by simp)
  case rows=>exact zaU ws bs wc bc
  rw [Try.ntmps24];simp only [List.size_toArray,List.length_cons,List.length_nil,List.replicate,List.cons_append,List.nil_append];simp only [zaI,List.map_cons,List.map_nil,accV,List.length_set];have hd1:decide (n<0)=true:=decide_eq_true hn;refine viaF hd1 ?_;refine Goes.finI rfl (by simp (disch:=(first|omega|(simp only [zaa,List.length_cons,List.length_nil,List.size_toArray,zad]<;>omega)|fail)) only [go_sem,resA,zaF,Try.results24]<;>rfl) rfl rfl ?_ ?_
  . exact Clo.plain (by simp [zac])
  . exact zck
set_option maxRecDepth 100000 in
theorem zqZ (ws:List UInt64) (bs:List UInt8) (wc bc:Nat) (n:Int) (A B:UInt64) (hn:(ws.length:Int)<=n):DoesI 24 #[.pointer (some ⟨0,0,none⟩),accV 3 n A B] (zaI ws bs wc bc) (.tuple #[.int .u64 0,.bool false]) (zaI ws bs wc bc):=by
  refine DoesI.mk Try.func24 rfl rfl ?clo ?rows ?_
  case clo=>exact zbb (by simp)
  case rows=>exact zaU ws bs wc bc
  rw [Try.ntmps24];simp only [List.size_toArray,List.length_cons,List.length_nil,List.replicate,List.cons_append,List.nil_append];simp only [zaI,List.map_cons,List.map_nil,accV,List.length_set];have hd1:decide (n<0)=false:=decide_eq_false (by omega)
  have hd2:decide (n >= (ws.length:Int))=true:=decide_eq_true (by omega)
  refine viaF (And.intro hd1 hd2) ?_;((first|refine At.callX [0,1,2] rfl rfl rfl (by decide) rfl (fun K hK=>?_)|refine RG.callX [0,1,2] rfl rfl rfl rfl (by decide) (fun K hK=>?_));simp (disch:=(first|omega|(simp only [zaa,List.length_cons,List.length_nil,List.size_toArray,zad]<;>omega)|fail)) only [go_sem];refine⟨_,_,_,_,_,_,(zeg ws bs wc bc),by first|rfl|simp (disch:=(first|omega|(simp only [zaa,List.length_cons,List.length_nil,List.size_toArray,zad]<;>omega)|fail)) only [go_sem],by ((repeat (refine⟨⟨_,rfl,rfl,?_,(by first|exact .inr rfl|exact .inl rfl),(by first|exact fun h=>h|exact fun _=>rfl|(intro h;cases h))⟩,?_⟩;· first|exact zai zah|(simp [up_0,up_1,up_2,up_3,up_4,zaq,zam,adr];done)|(simp [zbg];done)|exact zai (by simp [zac];done)|simp [up_0,up_1,up_2,zcc,zaq,zam,adr]));exact trivial),by first|exact⟨rfl,rfl⟩|rfl,?_⟩;(try simp only [go_sem]);(first|refine hK _ _ _ ?_|refine hK _ _ _ _ ?_);clear hK K)
  refine viaF (And.intro hd1 hd2) ?_;refine Goes.finI rfl (by simp (disch:=(first|omega|(simp only [zaa,List.length_cons,List.length_nil,List.size_toArray,zad]<;>omega)|fail)) only [go_sem,resA,zaF,Try.results24]<;>rfl) rfl rfl ?_ ?_
  . exact Clo.plain (by simp [zac])
  . exact zck
set_option maxRecDepth 100000 in
theorem zr5 (ws:List UInt64) (bs:List UInt8) (wc bc k:Nat) (A B:UInt64) (hk:k<ws.length):DoesI 24 #[.pointer (some ⟨0,0,none⟩),accV 3 (k:Int) A B] (zaI ws bs wc bc) (.tuple #[.int .u64 ((zm5 3 ws[k] A).toNat:Int),.bool true]) (zaI (ws.set k (kNow 3 ws[k] A B)) bs wc bc):=by
  refine DoesI.mk Try.func24 rfl rfl ?clo ?rows ?_
  case clo=>exact zbb (by simp)
  case rows=>exact zaU ws bs wc bc
  rw [Try.ntmps24];simp only [List.size_toArray,List.length_cons,List.length_nil,List.replicate,List.cons_append,List.nil_append];simp only [zaI,List.map_cons,List.map_nil,accV,List.length_set];have hd1:decide ((k:Int)<0)=false:=decide_eq_false (by omega)
  have hd2:decide ((k:Int) >= (ws.length:Int))=false:=decide_eq_false (by omega)
  have hx:=zpl hk;have hll:=zln ws;refine viaF (And.intro hd1 (And.intro hd2 (And.intro hx hll))) ?_;((first|refine At.callX [0,1,2] rfl rfl rfl (by decide) rfl (fun K hK=>?_)|refine RG.callX [0,1,2] rfl rfl rfl rfl (by decide) (fun K hK=>?_));simp (disch:=(first|omega|(simp only [zaa,List.length_cons,List.length_nil,List.size_toArray,zad]<;>omega)|fail)) only [go_sem];refine⟨_,_,_,_,_,_,(zeg ws bs wc bc),by first|rfl|simp (disch:=(first|omega|(simp only [zaa,List.length_cons,List.length_nil,List.size_toArray,zad]<;>omega)|fail)) only [go_sem],by ((repeat (refine⟨⟨_,rfl,rfl,?_,(by first|exact .inr rfl|exact .inl rfl),(by first|exact fun h=>h|exact fun _=>rfl|(intro h;cases h))⟩,?_⟩;· first|exact zai zah|(simp [up_0,up_1,up_2,up_3,up_4,zaq,zam,adr];done)|(simp [zbg];done)|exact zai (by simp [zac];done)|simp [up_0,up_1,up_2,zcc,zaq,zam,adr]));exact trivial),by first|exact⟨rfl,rfl⟩|rfl,?_⟩;(try simp only [go_sem]);(first|refine hK _ _ _ ?_|refine hK _ _ _ _ ?_);clear hK K)
  refine viaF (And.intro hd1 (And.intro hd2 (And.intro hx hll))) ?_;((first|refine qc1 rfl rfl fun K hK=>?_|refine qc3 rfl rfl fun K hK=>?_);simp (disch:=(first|omega|(simp only [sz]<;>omega)|fail)) only [go_sem];(first|refine⟨_,_,zdW,?_⟩|refine⟨_,_,Does.com (zdW),?_⟩);(try simp only [go_sem]);with_reducible refine hK _ _ ?_;clear hK K)
  simp only [zhx];have hts:=zga;have hta:=ziH;have hk1:=Nat.mul_one k;refine viaF (And.intro hd1 (And.intro hd2 (And.intro hx (And.intro hll (And.intro hts (And.intro hta hk1)))))) ?_;((first|refine qc1 rfl rfl fun K hK=>?_|refine qc3 rfl rfl fun K hK=>?_);simp (disch:=(first|omega|(simp only [sz]<;>omega)|fail)) only [go_sem];(first|refine⟨_,_,zkP ws[k] 3 (k:Int) A B,?_⟩|refine⟨_,_,Does.com (zkP ws[k] 3 (k:Int) A B),?_⟩);(try simp only [go_sem]);with_reducible refine hK _ _ ?_;clear hK K)
  refine viaF (And.intro hd1 (And.intro hd2 (And.intro hx (And.intro hll hk1)))) ?_;rw [zle];refine Goes.finI rfl (by simp (disch:=(first|omega|(simp only [zaa,List.length_cons,List.length_nil,List.size_toArray,zad]<;>omega)|fail)) only [go_sem,resA,zaF,Try.results24]<;>rfl) rfl rfl ?_ ?_
  . exact Clo.plain (by simp [zac])
  . exact zck
set_option maxRecDepth 100000 in
theorem zqQ (ws:List UInt64) (bs:List UInt8) (wc bc:Nat) (n:Int) (A B:UInt64) (hn:n<0):DoesI 24 #[.pointer (some ⟨0,0,none⟩),accV 4 n A B] (zaI ws bs wc bc) (.tuple #[.int .u64 0,.bool false]) (zaI ws bs wc bc):=by
  refine DoesI.mk Try.func24 rfl rfl ?clo ?rows ?_
  case clo=>exact zbb (by simp)
  case rows=>exact zaU ws bs wc bc
  rw [Try.ntmps24];simp only [List.size_toArray,List.length_cons,List.length_nil,List.replicate,List.cons_append,List.nil_append];simp only [zaI,List.map_cons,List.map_nil,accV,List.length_set];have hd1:decide (n<0)=true:=decide_eq_true hn;refine viaF hd1 ?_;refine Goes.finI rfl (by simp (disch:=(first|omega|(simp only [zaa,List.length_cons,List.length_nil,List.size_toArray,zad]<;>omega)|fail)) only [go_sem,resA,zaF,Try.results24]<;>rfl) rfl rfl ?_ ?_
  . exact Clo.plain (by simp [zac])
  . exact zck
set_option maxRecDepth 100000 in
theorem zqW (ws:List UInt64) (bs:List UInt8) (wc bc:Nat) (n:Int) (A B:UInt64) (hn:(ws.length:Int)<=n):DoesI 24 #[.pointer (some ⟨0,0,none⟩),accV 4 n A B] (zaI ws bs wc bc) (.tuple #[.int .u64 0,.bool false]) (zaI ws bs wc bc):=by
  refine DoesI.mk Try.func24 rfl rfl ?clo ?rows ?_
  case clo=>exact zbb (by simp)
  case rows=>exact zaU ws bs wc bc
  rw [Try.ntmps24];simp only [List.size_toArray,List.length_cons,List.length_nil,List.replicate,List.cons_append,List.nil_append];simp only [zaI,List.map_cons,List.map_nil,accV,List.length_set];have hd1:decide (n<0)=false:=decide_eq_false (by omega)
  have hd2:decide (n >= (ws.length:Int))=true:=decide_eq_true (by omega)
  refine viaF (And.intro hd1 hd2) ?_;((first|refine At.callX [0,1,2] rfl rfl rfl (by decide) rfl (fun K hK=>?_)|refine RG.callX [0,1,2] rfl rfl rfl rfl (by decide) (fun K hK=>?_));simp (disch:=(first|omega|(simp only [zaa,List.length_cons,List.length_nil,List.size_toArray,zad]<;>omega)|fail)) only [go_sem];refine⟨_,_,_,_,_,_,(zeg ws bs wc bc),by first|rfl|simp (disch:=(first|omega|(simp only [zaa,List.length_cons,List.length_nil,List.size_toArray,zad]<;>omega)|fail)) only [go_sem],by ((repeat (refine⟨⟨_,rfl,rfl,?_,(by first|exact .inr rfl|exact .inl rfl),(by first|exact fun h=>h|exact fun _=>rfl|(intro h;cases h))⟩,?_⟩;· first|exact zai zah|(simp [up_0,up_1,up_2,up_3,up_4,zaq,zam,adr];done)|(simp [zbg];done)|exact zai (by simp [zac];done)|simp [up_0,up_1,up_2,zcc,zaq,zam,adr]));exact trivial),by first|exact⟨rfl,rfl⟩|rfl,?_⟩;(try simp only [go_sem]);(first|refine hK _ _ _ ?_|refine hK _ _ _ _ ?_);clear hK K)
  refine viaF (And.intro hd1 hd2) ?_;refine Goes.finI rfl (by simp (disch:=(first|omega|(simp only [zaa,List.length_cons,List.length_nil,List.size_toArray,zad]<;>omega)|fail)) only [go_sem,resA,zaF,Try.results24]<;>rfl) rfl rfl ?_ ?_
  . exact Clo.plain (by simp [zac])
  . exact zck
set_option maxRecDepth 100000 in
theorem zr2 (ws:List UInt64) (bs:List UInt8) (wc bc k:Nat) (A B:UInt64) (hk:k<ws.length):DoesI 24 #[.pointer (some ⟨0,0,none⟩),accV 4 (k:Int) A B] (zaI ws bs wc bc) (.tuple #[.int .u64 (ws[k].toNat:Int),.bool true]) (zaI (ws.set k (ws[k]+A)) bs wc bc):=by
  refine DoesI.mk Try.func24 rfl rfl ?clo ?rows ?_
  case clo=>exact zbb (by simp)
  case rows=>exact zaU ws bs wc bc
  rw [Try.ntmps24];simp only [List.size_toArray,List.length_cons,List.length_nil,List.replicate,List.cons_append,List.nil_append];simp only [zaI,List.map_cons,List.map_nil,accV,List.length_set];have hd1:decide ((k:Int)<0)=false:=decide_eq_false (by omega)
  have hd2:decide ((k:Int) >= (ws.length:Int))=false:=decide_eq_false (by omega)
  have hx:=zpl hk;have hll:=zln ws;refine viaF (And.intro hd1 (And.intro hd2 (And.intro hx hll))) ?_;((first|refine At.callX [0,1,2] rfl rfl rfl (by decide) rfl (fun K hK=>?_)|refine RG.callX [0,1,2] rfl rfl rfl rfl (by decide) (fun K hK=>?_));simp (disch:=(first|omega|(simp only [zaa,List.length_cons,List.length_nil,List.size_toArray,zad]<;>omega)|fail)) only [go_sem];refine⟨_,_,_,_,_,_,(zeg ws bs wc bc),by first|rfl|simp (disch:=(first|omega|(simp only [zaa,List.length_cons,List.length_nil,List.size_toArray,zad]<;>omega)|fail)) only [go_sem],by ((repeat (refine⟨⟨_,rfl,rfl,?_,(by first|exact .inr rfl|exact .inl rfl),(by first|exact fun h=>h|exact fun _=>rfl|(intro h;cases h))⟩,?_⟩;· first|exact zai zah|(simp [up_0,up_1,up_2,up_3,up_4,zaq,zam,adr];done)|(simp [zbg];done)|exact zai (by simp [zac];done)|simp [up_0,up_1,up_2,zcc,zaq,zam,adr]));exact trivial),by first|exact⟨rfl,rfl⟩|rfl,?_⟩;(try simp only [go_sem]);(first|refine hK _ _ _ ?_|refine hK _ _ _ _ ?_);clear hK K)
  refine viaF (And.intro hd1 (And.intro hd2 (And.intro hx hll))) ?_;((first|refine qc1 rfl rfl fun K hK=>?_|refine qc3 rfl rfl fun K hK=>?_);simp (disch:=(first|omega|(simp only [sz]<;>omega)|fail)) only [go_sem];(first|refine⟨_,_,zdW,?_⟩|refine⟨_,_,Does.com (zdW),?_⟩);(try simp only [go_sem]);with_reducible refine hK _ _ ?_;clear hK K)
  simp only [zhx];have hts:=zga;have hta:=ziH;have hk1:=Nat.mul_one k;refine viaF (And.intro hd1 (And.intro hd2 (And.intro hx (And.intro hll (And.intro hts (And.intro hta hk1)))))) ?_;((first|refine qc1 rfl rfl fun K hK=>?_|refine qc3 rfl rfl fun K hK=>?_);simp (disch:=(first|omega|(simp only [sz]<;>omega)|fail)) only [go_sem];(first|refine⟨_,_,zkG ws[k] 4 (k:Int) A B,?_⟩|refine⟨_,_,Does.com (zkG ws[k] 4 (k:Int) A B),?_⟩);(try simp only [go_sem]);with_reducible refine hK _ _ ?_;clear hK K)
  refine viaF (And.intro hd1 (And.intro hd2 (And.intro hx (And.intro hll hk1)))) ?_;rw [zle];refine Goes.finI rfl (by simp (disch:=(first|omega|(simp only [zaa,List.length_cons,List.length_nil,List.size_toArray,zad]<;>omega)|fail)) only [go_sem,resA,zaF,Try.results24]<;>rfl) rfl rfl ?_ ?_
  . exact Clo.plain (by simp [zac])
  . exact zck
set_option maxRecDepth 100000 in
theorem zrJ (ws:List UInt64) (bs:List UInt8) (wc bc:Nat) (n:Int) (A B:UInt64) (hn:n<0):DoesI 24 #[.pointer (some ⟨0,0,none⟩),accV 5 n A B] (zaI ws bs wc bc) (.tuple #[.int .u64 0,.bool false]) (zaI ws bs wc bc):=by
  refine DoesI.mk Try.func24 rfl rfl ?clo ?rows ?_
  case clo=>exact zbb (by simp)
  case rows=>exact zaU ws bs wc bc
  rw [Try.ntmps24];simp only [List.size_toArray,List.length_cons,List.length_nil,List.replicate,List.cons_append,List.nil_append];simp only [zaI,List.map_cons,List.map_nil,accV,List.length_set];have hd1:decide (n<0)=true:=decide_eq_true hn;refine viaF hd1 ?_;refine Goes.finI rfl (by simp (disch:=(first|omega|(simp only [zaa,List.length_cons,List.length_nil,List.size_toArray,zad]<;>omega)|fail)) only [go_sem,resA,zaF,Try.results24]<;>rfl) rfl rfl ?_ ?_
  . exact Clo.plain (by simp [zac])
  . exact zck
set_option maxRecDepth 100000 in
theorem zrQ (ws:List UInt64) (bs:List UInt8) (wc bc:Nat) (n:Int) (A B:UInt64) (hn:(bs.length:Int)<=n):DoesI 24 #[.pointer (some ⟨0,0,none⟩),accV 5 n A B] (zaI ws bs wc bc) (.tuple #[.int .u64 0,.bool false]) (zaI ws bs wc bc):=by
  refine DoesI.mk Try.func24 rfl rfl ?clo ?rows ?_
  case clo=>exact zbb (by simp)
  case rows=>exact zaU ws bs wc bc
  rw [Try.ntmps24];simp only [List.size_toArray,List.length_cons,List.length_nil,List.replicate,List.cons_append,List.nil_append];simp only [zaI,List.map_cons,List.map_nil,accV,List.length_set];have hd1:decide (n<0)=false:=decide_eq_false (by omega)
  have hd2:decide (n >= (bs.length:Int))=true:=decide_eq_true (by omega)
  refine viaF (And.intro hd1 hd2) ?_;((first|refine At.callX [0,1,2] rfl rfl rfl (by decide) rfl (fun K hK=>?_)|refine RG.callX [0,1,2] rfl rfl rfl rfl (by decide) (fun K hK=>?_));simp (disch:=(first|omega|(simp only [zaa,List.length_cons,List.length_nil,List.size_toArray,zad]<;>omega)|fail)) only [go_sem];refine⟨_,_,_,_,_,_,(zil ws bs wc bc),by first|rfl|simp (disch:=(first|omega|(simp only [zaa,List.length_cons,List.length_nil,List.size_toArray,zad]<;>omega)|fail)) only [go_sem],by ((repeat (refine⟨⟨_,rfl,rfl,?_,(by first|exact .inr rfl|exact .inl rfl),(by first|exact fun h=>h|exact fun _=>rfl|(intro h;cases h))⟩,?_⟩;· first|exact zai zah|(simp [up_0,up_1,up_2,up_3,up_4,zaq,zam,adr];done)|(simp [zbg];done)|exact zai (by simp [zac];done)|simp [up_0,up_1,up_2,zcc,zaq,zam,adr]));exact trivial),by first|exact⟨rfl,rfl⟩|rfl,?_⟩;(try simp only [go_sem]);(first|refine hK _ _ _ ?_|refine hK _ _ _ _ ?_);clear hK K)
  refine viaF (And.intro hd1 hd2) ?_;refine Goes.finI rfl (by simp (disch:=(first|omega|(simp only [zaa,List.length_cons,List.length_nil,List.size_toArray,zad]<;>omega)|fail)) only [go_sem,resA,zaF,Try.results24]<;>rfl) rfl rfl ?_ ?_
  . exact Clo.plain (by simp [zac])
  . exact zck
set_option maxRecDepth 100000 in
theorem zsw (ws:List UInt64) (bs:List UInt8) (wc bc k:Nat) (A B:UInt64) (hk:k<bs.length):DoesI 24 #[.pointer (some ⟨0,0,none⟩),accV 5 (k:Int) A B] (zaI ws bs wc bc) (.tuple #[.int .u64 (bs[k].toNat:Int),.bool true]) (zaI ws bs wc bc):=by
  refine DoesI.mk Try.func24 rfl rfl ?clo ?rows ?_
  case clo=>exact zbb (by simp)
  case rows=>exact zaU ws bs wc bc
  rw [Try.ntmps24];simp only [List.size_toArray,List.length_cons,List.length_nil,List.replicate,List.cons_append,List.nil_append];simp only [zaI,List.map_cons,List.map_nil,accV,List.length_set];have hd1:decide ((k:Int)<0)=false:=decide_eq_false (by omega)
  have hd2:decide ((k:Int) >= (bs.length:Int))=false:=decide_eq_false (by omega)
  have hx:=zs3 hk;have hll:=zqF bs;have hk1:=Nat.mul_one k;have hw:=zoe bs[k];refine viaF (And.intro hd1 (And.intro hd2 (And.intro hx (And.intro hll (And.intro hk1 hw))))) ?_;((first|refine At.callX [0,1,2] rfl rfl rfl (by decide) rfl (fun K hK=>?_)|refine RG.callX [0,1,2] rfl rfl rfl rfl (by decide) (fun K hK=>?_));simp (disch:=(first|omega|(simp only [zaa,List.length_cons,List.length_nil,List.size_toArray,zad]<;>omega)|fail)) only [go_sem];refine⟨_,_,_,_,_,_,(zil ws bs wc bc),by first|rfl|simp (disch:=(first|omega|(simp only [zaa,List.length_cons,List.length_nil,List.size_toArray,zad]<;>omega)|fail)) only [go_sem],by ((repeat (refine⟨⟨_,rfl,rfl,?_,(by first|exact .inr rfl|exact .inl rfl),(by first|exact fun h=>h|exact fun _=>rfl|(intro h;cases h))⟩,?_⟩;· first|exact zai zah|(simp [up_0,up_1,up_2,up_3,up_4,zaq,zam,adr];done)|(simp [zbg];done)|exact zai (by simp [zac];done)|simp [up_0,up_1,up_2,zcc,zaq,zam,adr]));exact trivial),by first|exact⟨rfl,rfl⟩|rfl,?_⟩;(try simp only [go_sem]);(first|refine hK _ _ _ ?_|refine hK _ _ _ _ ?_);clear hK K)
  refine viaF (And.intro hd1 (And.intro hd2 (And.intro hx (And.intro hll (And.intro hk1 hw))))) ?_;refine Goes.finI rfl (by simp (disch:=(first|omega|(simp only [zaa,List.length_cons,List.length_nil,List.size_toArray,zad]<;>omega)|fail)) only [go_sem,resA,zaF,Try.results24]<;>rfl) rfl rfl ?_ ?_
  . exact Clo.plain (by simp [zac])
  . exact zck
set_option maxRecDepth 100000 in
theorem zrh (ws:List UInt64) (bs:List UInt8) (wc bc:Nat) (n:Int) (A B:UInt64) (hn:n<0):DoesI 24 #[.pointer (some ⟨0,0,none⟩),accV 6 n A B] (zaI ws bs wc bc) (.tuple #[.int .u64 0,.bool false]) (zaI ws bs wc bc):=by
  refine DoesI.mk Try.func24 rfl rfl ?clo ?rows ?_
  case clo=>exact zbb (by simp)
  case rows=>exact zaU ws bs wc bc
  rw [Try.ntmps24];simp only [List.size_toArray,List.length_cons,List.length_nil,List.replicate,List.cons_append,List.nil_append];simp only [zaI,List.map_cons,List.map_nil,accV,List.length_set];have hd1:decide (n<0)=true:=decide_eq_true hn;refine viaF hd1 ?_;refine Goes.finI rfl (by simp (disch:=(first|omega|(simp only [zaa,List.length_cons,List.length_nil,List.size_toArray,zad]<;>omega)|fail)) only [go_sem,resA,zaF,Try.results24]<;>rfl) rfl rfl ?_ ?_
  . exact Clo.plain (by simp [zac])
  . exact zck
set_option maxRecDepth 100000 in
theorem zqR (ws:List UInt64) (bs:List UInt8) (wc bc:Nat) (n:Int) (A B:UInt64) (hn:(bs.length:Int)<=n):DoesI 24 #[.pointer (some ⟨0,0,none⟩),accV 6 n A B] (zaI ws bs wc bc) (.tuple #[.int .u64 0,.bool false]) (zaI ws bs wc bc):=by
  refine DoesI.mk Try.func24 rfl rfl ?clo ?rows ?_
  case clo=>exact zbb (by simp)
  case rows=>exact zaU ws bs wc bc
  rw [Try.ntmps24];simp only [List.size_toArray,List.length_cons,List.length_nil,List.replicate,List.cons_append,List.nil_append];simp only [zaI,List.map_cons,List.map_nil,accV,List.length_set];have hd1:decide (n<0)=false:=decide_eq_false (by omega)
  have hd2:decide (n >= (bs.length:Int))=true:=decide_eq_true (by omega)
  refine viaF (And.intro hd1 hd2) ?_;((first|refine At.callX [0,1,2] rfl rfl rfl (by decide) rfl (fun K hK=>?_)|refine RG.callX [0,1,2] rfl rfl rfl rfl (by decide) (fun K hK=>?_));simp (disch:=(first|omega|(simp only [zaa,List.length_cons,List.length_nil,List.size_toArray,zad]<;>omega)|fail)) only [go_sem];refine⟨_,_,_,_,_,_,(zil ws bs wc bc),by first|rfl|simp (disch:=(first|omega|(simp only [zaa,List.length_cons,List.length_nil,List.size_toArray,zad]<;>omega)|fail)) only [go_sem],by ((repeat (refine⟨⟨_,rfl,rfl,?_,(by first|exact .inr rfl|exact .inl rfl),(by first|exact fun h=>h|exact fun _=>rfl|(intro h;cases h))⟩,?_⟩;· first|exact zai zah|(simp [up_0,up_1,up_2,up_3,up_4,zaq,zam,adr];done)|(simp [zbg];done)|exact zai (by simp [zac];done)|simp [up_0,up_1,up_2,zcc,zaq,zam,adr]));exact trivial),by first|exact⟨rfl,rfl⟩|rfl,?_⟩;(try simp only [go_sem]);(first|refine hK _ _ _ ?_|refine hK _ _ _ _ ?_);clear hK K)
  refine viaF (And.intro hd1 hd2) ?_;refine Goes.finI rfl (by simp (disch:=(first|omega|(simp only [zaa,List.length_cons,List.length_nil,List.size_toArray,zad]<;>omega)|fail)) only [go_sem,resA,zaF,Try.results24]<;>rfl) rfl rfl ?_ ?_
  . exact Clo.plain (by simp [zac])
  . exact zck
set_option maxRecDepth 100000 in
theorem zsH (ws:List UInt64) (bs:List UInt8) (wc bc k:Nat) (A B:UInt64) (hk:k<bs.length):DoesI 24 #[.pointer (some ⟨0,0,none⟩),accV 6 (k:Int) A B] (zaI ws bs wc bc) (.tuple #[.int .u64 0,.bool true]) (zaI ws (bs.set k A.toUInt8) wc bc):=by
  refine DoesI.mk Try.func24 rfl rfl ?clo ?rows ?_
  case clo=>exact zbb (by simp)
  case rows=>exact zaU ws bs wc bc
  rw [Try.ntmps24];simp only [List.size_toArray,List.length_cons,List.length_nil,List.replicate,List.cons_append,List.nil_append];simp only [zaI,List.map_cons,List.map_nil,accV,List.length_set];have hd1:decide ((k:Int)<0)=false:=decide_eq_false (by omega)
  have hd2:decide ((k:Int) >= (bs.length:Int))=false:=decide_eq_false (by omega)
  have hll:=zqF bs;have hk1:=Nat.mul_one k;have hw:=zrU A;refine viaF (And.intro hd1 (And.intro hd2 (And.intro hll (And.intro hk1 hw)))) ?_;((first|refine At.callX [0,1,2] rfl rfl rfl (by decide) rfl (fun K hK=>?_)|refine RG.callX [0,1,2] rfl rfl rfl rfl (by decide) (fun K hK=>?_));simp (disch:=(first|omega|(simp only [zaa,List.length_cons,List.length_nil,List.size_toArray,zad]<;>omega)|fail)) only [go_sem];refine⟨_,_,_,_,_,_,(zil ws bs wc bc),by first|rfl|simp (disch:=(first|omega|(simp only [zaa,List.length_cons,List.length_nil,List.size_toArray,zad]<;>omega)|fail)) only [go_sem],by ((repeat (refine⟨⟨_,rfl,rfl,?_,(by first|exact .inr rfl|exact .inl rfl),(by first|exact fun h=>h|exact fun _=>rfl|(intro h;cases h))⟩,?_⟩;· first|exact zai zah|(simp [up_0,up_1,up_2,up_3,up_4,zaq,zam,adr];done)|(simp [zbg];done)|exact zai (by simp [zac];done)|simp [up_0,up_1,up_2,zcc,zaq,zam,adr]));exact trivial),by first|exact⟨rfl,rfl⟩|rfl,?_⟩;(try simp only [go_sem]);(first|refine hK _ _ _ ?_|refine hK _ _ _ _ ?_);clear hK K)
  refine viaF (And.intro hd1 (And.intro hd2 (And.intro hll (And.intro hk1 hw)))) ?_;rw [zsl];refine Goes.finI rfl (by simp (disch:=(first|omega|(simp only [zaa,List.length_cons,List.length_nil,List.size_toArray,zad]<;>omega)|fail)) only [go_sem,resA,zaF,Try.results24]<;>rfl) rfl rfl ?_ ?_
  . exact Clo.plain (by simp [zac])
  . exact zck
end Go.Proofs.Ytgndgbnhkoppmaa
