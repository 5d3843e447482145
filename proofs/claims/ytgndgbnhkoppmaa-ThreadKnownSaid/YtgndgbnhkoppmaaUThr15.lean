/-
  A body's goroutine: its end.
  Condition: each call that is known does what is said of it (zau).
-/
import Derived.Test.YtgndgbnhkoppmaaUThr4
set_option maxHeartbeats 40000000
set_option linter.unusedVariables false
set_option linter.unusedSimpArgs false
namespace Go.Proofs.Ytgndgbnhkoppmaa
open Go Go.Conc
open Go.ConcN (sumTo upd sumTo_upd upd_ne upd_same)
section
variable {P:Program} {main:Bool} {b:Frame} {a:Act} {k:List Item} {cs:List Frame} {w:World}
theorem ze0 {ops:Array Oper} {i:Nat} {rest:List Nat} {o:Oper} {c0:Frame} {ats:Array TypeId} (ho:ops[i]?=some o) (hw:Region.wanted o (yielded ops a.tmps)=true) (hk:b.kind=.deferred) (hro:b.roundOf=none) (hc:c0.mode=.returning)
    (hop:o.op=.call { callee:=.builtin .recover,args:=#[],argTypes:=ats }) :
    stepG P main (Go.Conc.G (b.at a (.inRegion ops (i::rest)::k)) (c0::cs)) w=.go (Go.Conc.G (b.at (a.put o.dst .nilIface) (.inRegion ops rest::k)) (c0::cs)) w #[]:=by
  have hr:(execOp a.eval o).run P w=.ok .recover w:=by
    unfold execOp;simp [hop,resolve,invoke,builtin]
  have he:(execOp a.eval o).events P w #[]=#[]:=by
    unfold execOp;simp [hop,resolve,invoke,builtin]
  have hfin:(b.at a (.inRegion ops (i::rest)::k)).finish .nilIface=b.at (a.put o.dst .nilIface) (.inRegion ops rest::k):=by rw [Frame.finish_at,ho];rfl
  have ht:tryRecover (b.at a (.inRegion ops (i::rest)::k)) (c0::cs)=none:=by
    simp [tryRecover,Frame.at,hk,hc]
  rw [stepG_oper ho hw,<-hfin];have ht':=ht;simp only [Frame.at,hk] at ht';simp [stepG.apply,hr,he,Go.Conc.G,Frame.at,hk,hro,ht',GStep.after,seen_none]
end
section
variable {P:Program} {α:Type}
theorem ze2 {s:Sem α} {a:α} (h:calm P s=some a) (w:World) (es:Array Event):s.runT P w es=(.ok a w,es)/\s.run P w=.ok a w:=by
  induction s with
  | pure b=>simp only [calm,Option.some.injEq] at h;subst h;exact⟨rfl,rfl⟩
  | program k ih=>exact ih P h
  | _=>simp [calm] at h
theorem zd8 {x t:TypeId} {fs:Array Field} {z:Value} (hu:P.underlying t=some (.struct fs)) (hz:zaw P t=some z):calm P (Instr.typeAssert .nilIface x t true)=some (.tuple #[z,.bool false]):=by
  unfold Instr.typeAssert;simp only [zae,zaf hu,Option.bind_some,zeL hz,if_true,zaB]
end
section
variable {P:Program}
theorem zfh {fn:FuncId} {a:Act} {o:Oper} {x:Operand} {t t':TypeId} {v r:Value} {w:World} {c:Bool} (ho:o.op=.typeAssert x t t' c) (hc:calm P (Instr.typeAssert v t t' c)=some r) (hv:a.eval x=v:=by rfl):listed P fn a o w=#[]:=by
  have hx:calm P (execOp a.eval o)=some (.value r):=by
    unfold execOp;simp only [ho,hv,zae,hc,Option.bind_some,zaB,zkF,Option.map_some]
  show seen P fn ((execOp a.eval o).events P w #[])=#[];rw [show (execOp a.eval o).events P w #[]=#[] from by show ((execOp a.eval o).runT P w #[]).2=#[];rw [(ze2 hx w #[]).1],seen_none]
end
theorem zg6 {w:World} {b n:Nat} {v:Value} {t:TypeId} (h:w.heap[b]?=some (.cells #[v] t (0,n))):w.cell? { block:=b,off:=0 }=some v:=by
  simp [World.cell?,h]
noncomputable def zdX:Code:=(Try.f43.body).getD .skip
noncomputable def zcy:Array Oper:=cOps (cR (cR zdX))
section
variable {OB WB:Nat->Prop} {Inb:Nat->Option Seat} {h:Nat}
structure KE (OB WB:Nat->Prop) (Inb:Nat->Option Seat) (w0:World) (bx dn:Nat) (w:World):Prop where
  low:∀ b,zfv OB WB Inb b->b<w.heap.size
  old:∀ b,¬ OB b->b<w0.heap.size->w.heap[b]?=w0.heap[b]?
  size:w0.heap.size<=w.heap.size
  box:w.heap[bx]?=some (.cells #[.chan (some dn)] 101 (0,0))
  bO:¬ OB bx
theorem KE.rely {w0 w w1:World} {bx dn:Nat} (K:KE OB WB Inb w0 bx dn w) (r:Ro OB h w w1):KE OB WB Inb w0 bx dn w1:=⟨fun b hb=>by rw [r.size];exact K.low b hb,fun b hb hl=>(r.heap hb).trans (K.old b hb hl),by rw [r.size];exact K.size,(r.heap K.bO).trans K.box,K.bO⟩
theorem KE.alloc {w0 w:World} {bx dn:Nat} {o:Obj} (K:KE OB WB Inb w0 bx dn w):KE OB WB Inb w0 bx dn (w.alloc o) :=
  ⟨fun b hb=>by have:=K.low b hb;rw [zaH];omega,fun b hb hl=>by rw [zaD _ _ _ (Nat.lt_of_lt_of_le hl K.size)];exact K.old b hb hl,by rw [zaH];have:=K.size;omega,by rw [zaD _ _ _ (zab K.box)];exact K.box,K.bO⟩
noncomputable def zeW (fv z:Value) (wb dn bx:Nat):Frame:={ (baseD 30).at ⟨zoH fv wb dn bx z,[]⟩ [] with mode:=.returning }
noncomputable def zdd (bx dn n:Nat) (rest:List Nat):Frame:=(baseD 43).at ⟨#[pt bx,.nilIface,pt n,.bool false,.nilIface,.tuple #[.agg #[],.bool false],.nilIface,.tuple #[.agg #[],.bool false],.agg #[],.bool false,.bool false,.chan (some dn),.nilIface],[]⟩ [.inRegion zcy rest]
set_option maxRecDepth 100000 in
theorem zpg {fv z:Value} {wb dn0 dn bx:Nat} (w0 w:World) (hK:KE OB WB Inb w0 bx dn w) :
    Conc.Goes Try.prog false (Ro OB h) (DO OB WB Inb h) (fun g w'=>(∃ n,g=Go.Conc.G (zdd bx dn n [2]) [zeW fv z wb dn0 bx,botF])/\KE OB WB Inb w0 bx dn w') 60 (Go.Conc.G ((baseD 30).at ⟨zoH fv wb dn0 bx z,[zgV 43 #[pt bx]]⟩ [.inRegion rootOps2 []]) [botF]) w:=by
  (refine Conc.Goes.step rfl (fun w₁ h₁=>?_);replace hK:=hK.rely h₁;clear h₁;rw [stepG_region_end];simp only [goes_go];refine⟨DO.none _,?_⟩);(refine Conc.Goes.step rfl (fun w₁ h₁=>?_);replace hK:=hK.rely h₁;clear h₁;rw [stepG_end];simp only [goes_go];refine⟨DO.none _,?_⟩);refine Conc.Goes.step rfl (fun w₁ h₁=>?_);replace hK:=hK.rely h₁;clear h₁
  rw [zeV (fn:=Try.f43) (c:=zdX) rfl Try.func43 rfl rfl];simp only [goes_go];refine⟨DO.none _,?_⟩;rw [Try.ntmps43,show (#[pt bx]++Array.replicate (13 - (#[pt bx]:Array Value).size) undef:Array Value)=#[pt bx,undef,undef,undef,undef,undef,undef,undef,undef,undef,undef,undef,undef] from rfl]
  simp only [zdX,Try.f43,Option.getD_some];(refine Conc.Goes.step rfl (fun w₁ h₁=>?_);replace hK:=hK.rely h₁;clear h₁;rw [stepG_seq];simp only [goes_go];refine⟨DO.none _,?_⟩);(refine Conc.Goes.step rfl (fun w₁ h₁=>?_);replace hK:=hK.rely h₁;clear h₁;rw [stepG_region];simp only [goes_go,List.size_toArray,List.length_cons,List.length_nil,Nat.reduceAdd,Nat.zero_add,List.range,List.range.loop];refine⟨DO.none _,?_⟩);refine Conc.Goes.step rfl (fun w₁ h₁=>?_);replace hK:=hK.rely h₁;clear h₁;rw [ze0 rfl rfl rfl rfl rfl rfl];simp only [goes_go];refine⟨DO.none _,?_⟩
  walk_nrm
  (refine Conc.Goes.step rfl (fun w₁ h₁=>?_);replace hK:=hK.rely h₁;clear h₁;refine goes_oper_k rfl rfl (by decide) (fun K hK'=>?_);go_simp;refine hK' _ _ ⟨DO.quiet (fun e he=>(by have hm:=mem_listed he;simp [go_sem,Instr.makeInterface,Instr.makeFunc] at hm)),?_⟩;clear hK' K);(refine Conc.Goes.step rfl (fun w₁ h₁=>?_);replace hK:=hK.rely h₁;clear h₁;rw [stepG_region_end];simp only [goes_go];refine⟨DO.none _,?_⟩);(refine Conc.Goes.step rfl (fun w₁ h₁=>?_);replace hK:=hK.rely h₁;clear h₁;rw [stepG_seq];simp only [goes_go];refine⟨DO.none _,?_⟩);(refine Conc.Goes.step rfl (fun w₁ h₁=>?_);replace hK:=hK.rely h₁;clear h₁;rw [stepG_seq];simp only [goes_go];refine⟨DO.none _,?_⟩);(refine Conc.Goes.step rfl (fun w₁ h₁=>?_);replace hK:=hK.rely h₁;clear h₁;rw [stepG_region];simp only [goes_go,List.size_toArray,List.length_cons,List.length_nil,Nat.reduceAdd,Nat.zero_add,List.range,List.range.loop];refine⟨DO.none _,?_⟩);(refine Conc.Goes.step rfl (fun w₁ h₁=>?_);replace hK:=hK.rely h₁;clear h₁;refine goes_oper_k rfl rfl (by decide) (fun K hK'=>?_);go_simp;refine hK' _ _ ⟨DO.quiet (fun e he=>(by have hm:=mem_listed he;simp [go_sem,Instr.makeInterface,Instr.makeFunc] at hm)),?_⟩;clear hK' K);refine Conc.Goes.step rfl (fun w₁ h₁=>?_);replace hK:=hK.rely h₁;clear h₁
  refine goes_oper_k rfl rfl (by decide) (fun K hK'=>?_)
  go_simp
  rw [(ze2 (zd8 (P:=Try.prog) (x:=20) (t:=103) (z:=.agg #[]) rfl rfl) _ #[]).2];refine hK' _ _ ⟨?_,?_⟩
  . rw [show listed Try.prog (baseD 43).fn _ _ w₁=#[] from zfh (x:=.tmp 6) (t:=20) (t':=103) rfl (zd8 (P:=Try.prog) (z:=.agg #[]) rfl rfl)]
    exact DO.none _
  clear hK' K
  go_simp
  (refine Conc.Goes.step rfl (fun w₁ h₁=>?_);replace hK:=hK.rely h₁;clear h₁;refine goes_oper_k rfl rfl (by decide) (fun K hK'=>?_);go_simp;refine hK' _ _ ⟨DO.quiet (fun e he=>(by have hm:=mem_listed he;simp [go_sem,Instr.makeInterface,Instr.makeFunc] at hm)),?_⟩;clear hK' K);(refine Conc.Goes.step rfl (fun w₁ h₁=>?_);replace hK:=hK.rely h₁;clear h₁;refine goes_oper_k rfl rfl (by decide) (fun K hK'=>?_);go_simp;refine hK' _ _ ⟨DO.quiet (fun e he=>(by have hm:=mem_listed he;simp [go_sem,Instr.makeInterface,Instr.makeFunc] at hm)),?_⟩;clear hK' K);(refine Conc.Goes.step rfl (fun w₁ h₁=>?_);replace hK:=hK.rely h₁;clear h₁;refine goes_oper_k rfl rfl (by decide) (fun K hK'=>?_);go_simp;refine hK' _ _ ⟨DO.quiet (fun e he=>(by have hm:=mem_listed he;simp [go_sem,Instr.makeInterface,Instr.makeFunc] at hm)),?_⟩;clear hK' K);refine Conc.Goes.step rfl (fun w₁ h₁=>?_);replace hK:=hK.rely h₁;clear h₁
  refine goes_oper_k rfl rfl (by decide) (fun K hK'=>?_)
  go_simp
  refine hK' _ _ ⟨DO.alloc hK.low (fun e he=>(by have hm:=mem_listed he;simp [go_sem] at hm)),?_⟩
  clear hK' K;replace hK:=KE.alloc (o:=.cells #[] 103) hK;refine Conc.Goes.step rfl (fun w₁ h₁=>?_);replace hK:=hK.rely h₁;clear h₁;refine goes_oper_k rfl rfl (by decide) (fun K hK'=>?_)
  go_simp
  refine hK' _ _ ⟨DO.quiet (fun e he=>(by have hm:=mem_listed he;simp [go_sem] at hm)),?_⟩
  clear hK' K;(refine Conc.Goes.step rfl (fun w₁ h₁=>?_);replace hK:=hK.rely h₁;clear h₁;refine goes_oper_k rfl rfl (by decide) (fun K hK'=>?_);go_simp;refine hK' _ _ ⟨DO.quiet (fun e he=>(by have hm:=mem_listed he;simp [go_sem,Instr.makeInterface,Instr.makeFunc] at hm)),?_⟩;clear hK' K)
  (refine Conc.Goes.step rfl (fun w₁ h₁=>?_);replace hK:=hK.rely h₁;clear h₁;rw [stepG_region_end];simp only [goes_go];refine⟨DO.none _,?_⟩);(refine Conc.Goes.step rfl (fun w₁ h₁=>?_);replace hK:=hK.rely h₁;clear h₁;rw [stepG_seq];simp only [goes_go];refine⟨DO.none _,?_⟩);(refine Conc.Goes.step rfl (fun w₁ h₁=>?_);replace hK:=hK.rely h₁;clear h₁;rw [stepG_region];simp only [goes_go,List.size_toArray,List.length_cons,List.length_nil,Nat.reduceAdd,Nat.zero_add,List.range,List.range.loop];refine⟨DO.none _,?_⟩);(refine Conc.Goes.step rfl (fun w₁ h₁=>?_);replace hK:=hK.rely h₁;clear h₁;refine goes_oper_k rfl rfl (by decide) (fun K hK'=>?_);go_simp;refine hK' _ _ ⟨DO.quiet (fun e he=>(by have hm:=mem_listed he;simp [go_sem,Instr.makeInterface,Instr.makeFunc] at hm)),?_⟩;clear hK' K);(refine Conc.Goes.step rfl (fun w₁ h₁=>?_);replace hK:=hK.rely h₁;clear h₁;rw [stepG_region_end];simp only [goes_go];refine⟨DO.none _,?_⟩);(refine Conc.Goes.step rfl (fun w₁ h₁=>?_);replace hK:=hK.rely h₁;clear h₁;rw [stepG_cond (t:=false) rfl];simp only [goes_go,if_true,if_false,Bool.false_eq_true,↓reduceIte];refine⟨DO.none _,?_⟩);(refine Conc.Goes.step rfl (fun w₁ h₁=>?_);replace hK:=hK.rely h₁;clear h₁;rw [stepG_skip];simp only [goes_go];refine⟨DO.none _,?_⟩);(refine Conc.Goes.step rfl (fun w₁ h₁=>?_);replace hK:=hK.rely h₁;clear h₁;rw [stepG_region];simp only [goes_go,List.size_toArray,List.length_cons,List.length_nil,Nat.reduceAdd,Nat.zero_add,List.range,List.range.loop];refine⟨DO.none _,?_⟩);(refine Conc.Goes.step rfl (fun w₁ h₁=>?_);replace hK:=hK.rely h₁;clear h₁;have hF:=(show _=_ from zg6 hK.box);refine goes_oper_k rfl rfl (by decide) (fun K hK'=>?_);go_simp;refine hK' _ _ ⟨DO.quiet (fun e he=>(by have hm:=mem_listed he;simp [go_sem,hF] at hm;subst hm;exact .inr ⟨rfl,_,rfl,zab hK.box,nofun,fun z=>absurd z hK.bO⟩)),?_⟩;clear hK' K hF);(refine Conc.Goes.step rfl (fun w₁ h₁=>?_);replace hK:=hK.rely h₁;clear h₁;refine goes_oper_k rfl rfl (by decide) (fun K hK'=>?_);go_simp;refine hK' _ _ ⟨DO.quiet (fun e he=>(by have hm:=mem_listed he;simp [go_sem,Instr.makeInterface,Instr.makeFunc] at hm)),?_⟩;clear hK' K);exact Conc.Goes.stop (fun w₁ h₁=>⟨⟨_,by simp only [zdd,zeW,zcy,zdX,cOps,cL,cR,Try.f43,Option.getD_some];rfl⟩,hK.rely h₁⟩)
end
end Go.Proofs.Ytgndgbnhkoppmaa
namespace Go.Proofs.Ytgndgbnhkoppmaa
open Go Go.Conc
open Go.ConcN (sumTo upd sumTo_upd upd_ne upd_same)
set_option maxRecDepth 100000 in
theorem zm1 (bx dn n:Nat) (cs:List Frame) (main:Bool) (w:World) :
    stepG Try.prog main (Go.Conc.G (zdd bx dn n [2]) cs) w=.comm (Go.Conc.G (zdd bx dn n [2]) cs) #[scase dn .nilIface (.tuple #[])] true .send w:=by
  simp only [zdd,zcy,zdX,cOps,cL,cR,Try.f43,Option.getD_some];rw [stepG_comm (w':=w) (cases:=#[scase dn .nilIface (.tuple #[])]) (blocking:=true) (shape:=.send) rfl rfl (by decide) (by simp [go_sem,execOp,scase,Act.eval]),listed_none (by simp [go_sem,execOp,Act.eval])]
set_option maxRecDepth 100000 in
theorem zma (bx dn dn0 n wb:Nat) (fv z:Value):QuitsD Try.prog 5 0 ((Go.Conc.G (zdd bx dn n [2]) [zeW fv z wb dn0 bx,botF]).finishComm Try.prog #[scase dn .nilIface (.tuple #[])] .send 0 undef false):=by
  have h:(Go.Conc.G (zdd bx dn n [2]) [zeW fv z wb dn0 bx,botF]).finishComm Try.prog #[scase dn .nilIface (.tuple #[])] .send 0 undef false=Go.Conc.G (zdd bx dn n []) [zeW fv z wb dn0 bx,botF]:=by
    simp only [Goroutine.finishComm,zdd,zcy,zdX,cOps,cL,cR,Try.f43,Option.getD_some,Go.Conc.G,Frame.finish_at];rfl
  rw [h];refine QuitsD.ctl rfl (fun _=>stepG_region_end) ?_;refine QuitsD.ctl rfl (fun _=>stepG_end) ?_;refine QuitsD.leaveD rfl rfl Try.func43 rfl rfl ?_;refine QuitsD.ctl (g':=Go.Conc.G botF []) rfl (fun w=>?_) ?_
  . simp [Go.Conc.G,zeW,stepG,unwind,doReturn,results,Frame.at,baseD,botF,Try.func30,Try.results30,seen,GStep.after,goexitEntry]
  refine QuitsD.ctl (g':={ Go.Conc.G botF [] with status:=.finished }) rfl (fun w=>?_) ⟨rfl,rfl⟩
  simp [Go.Conc.G,stepG,unwind,botF,goexitEntry,Frame.catches];rfl
end Go.Proofs.Ytgndgbnhkoppmaa
namespace Go.Proofs.Ytgndgbnhkoppmaa
open Go Go.Conc
open Go.ConcN (sumTo upd sumTo_upd upd_ne upd_same)
section
variable {S:St} {k:Nat} {self:Int} {quit:Nat} {closed closed' busy busy':Bool} {hp gid dn:Nat} {pend pend':Option Nat}
abbrev endS (S:St) (k:Nat) (self:Int) (quit:Nat) (closed busy:Bool) (c:Nat × Nat × Nat) (pend:Option Nat):St:=S.set k (.thr self quit closed busy (some c) pend)
theorem zff (hS:S[k]?=some (.thr self quit closed busy (some (hp,gid,dn)) pend)):(endS S k self quit closed' busy' (hp,gid,dn) pend')[k]?=some (.thr self quit closed' busy' (some (hp,gid,dn)) pend'):=List.getElem?_set_self (zaL hS)
theorem zeA {i:Nat} (hi:i≠k):(endS S k self quit closed' busy' (hp,gid,dn) pend')[i]?=S[i]?:=List.getElem?_set_ne (Ne.symm hi)
theorem zjU (hS:S[k]?=some (.thr self quit closed busy (some (hp,gid,dn)) pend)) {i:Nat} {ob:Ob} (ho:∀ a b c d e f,ob≠.thr a b c d e f):(endS S k self quit closed' busy' (hp,gid,dn) pend')[i]?=some ob↔S[i]?=some ob:=by
  by_cases hi:i=k
  . subst hi;rw [zff hS,hS];exact⟨fun h=>absurd (Option.some.inj h).symm (ho _ _ _ _ _ _),fun h=>absurd (Option.some.inj h).symm (ho _ _ _ _ _ _)⟩
  . rw [zeA hi]
theorem zkN (hS:S[k]?=some (.thr self quit closed busy (some (hp,gid,dn)) pend)) {i s c:Nat} (h:ChS (endS S k self quit closed' busy' (hp,gid,dn) pend') i s c):ChS S i s c:=by
  cases h with
  | quit h =>
    by_cases hi:i=k
    . subst hi;rw [zff hS] at h;cases h;exact .quit hS
    . rw [zeA hi] at h;exact .quit h
  | done h =>
    by_cases hi:i=k
    . subst hi;rw [zff hS] at h;cases h;exact .done hS
    . rw [zeA hi] at h;exact .done h
  | ask h=>exact .ask ((zjU hS (fun _ _ _ _ _ _ e=>by cases e)).1 h)
  | grant h=>exact .grant ((zjU hS (fun _ _ _ _ _ _ e=>by cases e)).1 h)
end
section
variable {F:Emb} {Inb:Nat->Option Seat} {gs gs':Array Goroutine} {w w':World} {T T':Trace}
variable (hok:∀ mn OB WB,zau mn OB WB)
variable {Γ:Type} {Pr:Proto Γ}
theorem ended (d:BD Γ) (hd:d.Ok) {hs:AHeap} {sl:Option (Nat × Nat)} {γ:Γ} {bx wb dn0 n:Nat} {fv z:Value}
    (H:Standing d.p hok d.Su d.S F (.run [] [] hs d.S) Inb gs w T)
    (hg:gs[d.p.h]?=some (Go.Conc.G (zdd bx d.dn n [2]) [zeW fv z wb dn0 bx,botF]))
    (hInv:Pr.Inv γ hs d.S) (hph:Pr.ph γ d.k=none) (hoth:∀ i,i≠d.k->Pr.ph γ i=Pr.ph d.γ i) (hfuel:Pr.FC γ d.γ) :
    Reach Try.prog (crowd gs w sl) T (Came hok Pr (BSusp hok Pr) d):=by
  have hc:=H.com;have t:=hc.tab;obtain⟨B0,Mem,q0,R0,hM0,hMh⟩:=hc.ring;have hthr:=hd.thr;have hwp:=hd.wp;obtain⟨_,hp',gid',dn',ws',st',ak',gr',e1,e2,cask,cgr,cdn,hgid,hgsz,hbox⟩:=t.busy _ _ _ _ _ _ hthr;cases e1;rw [hwp] at e2;cases e2;have fdn:=t.far _ _ _ (.done hthr);have hI0:Inb 0=some (zbR d.tb (d.p.FR.blk (VB+d.hp)) d.dn d.ask d.cs0):=by rw [hc.main,hd.seat]
  obtain⟨kd,hkd⟩:=cdn;have hsz0:0<gs.size:=by omega
  refine (zr8 (P:=Try.prog) (kk:=1) (cap:=1) (c:=d.dn) (v:=.nilIface) (z:=.nilIface) (z':=.tuple #[]) (by omega) (fun e=>hd.h0 e.symm) hI0 rfl hMh rfl fdn.2.2 (fun main w=>zm1 bx d.dn n _ main w) (nh:=5) (by have:=hd.h0;omega) (zma bx d.dn dn0 n wb fv z) w _ (sl:=sl) rfl hsz0 (SideD.refl w) hkd hg R0).mono fun m T'=>?_
  rintro ⟨gs',gq,w1,k1,sl',q',rfl,b1,b2,b3,b4,b5,b6,R3⟩;have b3:gq=zh7 d.tb (d.p.FR.blk (VB+d.hp)) d.dn d.ask d.cs0:=b3;subst b3;have hX:=zkD hok (p:=d.p) hd.h0;have b5:IvN d.p.OB d.wN 0 w1:=hd.iv ▸ b5;have hsz2:(w1.setChan d.dn 1 #[] false (k1+1) (k1+1) false).heap.size=w.heap.size:=by rw [<-b4.size];simp [World.setChan]
  have hset:∀ x,x≠d.dn->¬ d.p.OB x->(w1.setChan d.dn 1 #[] false (k1+1) (k1+1) false).heap[x]?=w.heap[x]?:=fun x hx hO=>by
    rw [heap_setChan_ne _ _ _ _ _ _ _ (fun e=>hx e.symm),b4.only x hO hx]
  have hdn:∃ a,w1.heap[d.dn]?=some a:=⟨_,Array.getElem?_eq_getElem b6⟩;obtain⟨odn,hodn⟩:=hdn;have hset1:(w1.setChan d.dn 1 #[] false (k1+1) (k1+1) false).heap[d.dn]?=some (.chan 1 #[] false (k1+1) (k1+1) false):=heap_setChan_self w1 hodn _ _ _ _ _ _;have hvne:∀ x,Vis (d.p.X hok) F (.run [] [] hs d.S) x->x≠d.dn:=fun x hx e=>H.chan_out hok fdn.1 (e ▸ hx);have hvis:∀ x,Vis (d.p.X hok) F (.run [] [] hs d.S) x->(w1.setChan d.dn 1 #[] false (k1+1) (k1+1) false).heap[x]?=w.heap[x]?:=fun x hx=>hset x (hvne x hx) fun z=>H.ov hd.h0 x z hx;generalize hw2:w1.setChan d.dn 1 #[] false (k1+1) (k1+1) false=w2 at *;have hap:∀ x,d.p.OB x->¬ d.p.WB x:=R0.apart;have hch:∀ c,¬ d.p.OB c->(zbd w c->zbd w2 c)/\∀ cap,ChanO w c cap->ChanO w2 c cap:=fun c hO=>by
    by_cases e:c=d.dn
    . subst e;refine⟨fun _=>⟨_,_,_,_,_,_,hset1⟩,fun cap h=>?_⟩;obtain⟨m,hm⟩:=h;rw [hkd] at hm;cases hm;exact⟨_,hset1⟩
    . refine⟨fun h=>?_,fun cap h=>?_⟩
      . obtain⟨a1,a2,a3,a4,a5,a6,a7⟩:=h;exact⟨a1,a2,a3,a4,a5,a6,by rw [hset c e hO];exact a7⟩
      . obtain⟨m,hm⟩:=h;exact⟨m,by rw [hset c e hO];exact hm⟩
  have t2:Tab d.p.OB d.p.WB d.S F gs'.size w2:=by rw [b1];exact t.turn (p:=d.p) (Nat.le_refl _) (Same.refl (Kn 0 d.S.length) F) (Nat.le_of_eq hsz2.symm) hch
  have hlen:(endS d.S d.k d.self d.quit false false (d.hp,d.p.h,d.dn) none).length=d.S.length:=by simp
  have hoth':∀ {i:Nat} {ob:Ob},(∀ a b c d e f,ob≠.thr a b c d e f)->((endS d.S d.k d.self d.quit false false (d.hp,d.p.h,d.dn) none)[i]?=some ob↔d.S[i]?=some ob):=fun ho=>zjU hthr ho;refine⟨gs',w2,sl',F,hs,γ,1,.nilIface,fun i=>if i=0 then none else (if i=d.p.h then none else Inb i),endS d.S d.k d.self d.quit false false (d.hp,d.p.h,d.dn) none,d.Su,d.p.Iv,rfl,b2,hoth,hfuel,hInv,H.same.1,H.same.2.1,fun b hb=>?_,hX ▸ zeo (Nat.le_of_eq hsz2.symm) hvis H.inv,fun x hx=>hX ▸ H.ov hd.h0 x hx,fun x hx=>?_,fun x hx=>?_,H.wro,H.base.move (Nat.le_of_eq hsz2.symm) (fun x _ hx=>hX.symm ▸ hx) (fun _ _ h=>h) (fun x _ _ h2 h3=>hset x (h3 _ _ _ (.done hthr)) h2) (fun _ _ _ h=>.inl h),⟨⟨_,_,_,R3.unseat,⟨hM0,fun e=>hd.h0 e.symm,by rw [hI0];simp⟩,⟨hM0,fun e=>hd.h0 e.symm,by rw [hI0];simp⟩⟩,?_,if_pos rfl,fun i s hi=>?_,fun k self quit closed hp gid dn pend hq=>?_,hc.n0,Nat.le_of_eq hlen⟩,.inr ⟨rfl,hph,rfl,rfl,rfl⟩⟩
  . have hne3:b≠d.dn:=fun e=>fdn.2.1 (e ▸ hb);rw [<-hw2,heap_setChan_ne _ _ _ _ _ _ _ (fun e=>hne3 e.symm)];exact b5 rfl b hb
  . obtain⟨h1,h2,h3,h4⟩:=H.prot x hx;obtain⟨cc',el,fr,h5⟩:=hd.px x hx;rw [hsz2];refine⟨h1,hX ▸ h2,h3,(hset x (fun e=>?_) h3).trans h4⟩;rw [e] at h4 h5;rw [h5,hkd] at h4;cases h4
  . obtain⟨cc',el,h1,h2⟩:=H.wrow x hx;exact⟨cc',el,(hset x (fun e=>by rw [e,hkd] at h1;cases h1) fun z=>hap x z hx).trans h1,h2⟩
  . refine⟨fun b=>?_,fun b=>?_,fun k s c k' s' h1 h2=>t2.dist k s c k' s' (zkN hthr h1) (zkN hthr h2),fun k s c h=>t2.far k s c (zkN hthr h),t2.olow,fun k a b c d' e h=>?_,fun k a b c d' e h=>?_⟩
    . refine (t2.obs b).trans ⟨?_,?_⟩
      . rintro ⟨k,a1,a2,a3,a4,a5,a6,a7,a8⟩;by_cases e:k=d.k
        . subst e;exact⟨d.k,_,_,_,_,_,_,zff hthr,a8⟩
        . exact⟨k,a1,a2,a3,a4,a5,a6,(zeA e).trans a7,a8⟩
      . rintro ⟨k,a1,a2,a3,a4,a5,a6,a7,a8⟩;by_cases e:k=d.k
        . subst e;exact⟨d.k,_,_,_,_,_,_,hthr,a8⟩
        . exact⟨k,a1,a2,a3,a4,a5,a6,(zeA e).symm.trans a7,a8⟩
    . refine (t2.wbs b).trans ⟨?_,?_⟩
      . rintro ⟨k,a1,a2,a3,a4,a5,a7,a8⟩;exact⟨k,a1,a2,a3,a4,a5,(hoth' (fun _ _ _ _ _ _ e=>by cases e)).2 a7,a8⟩
      . rintro ⟨k,a1,a2,a3,a4,a5,a7,a8⟩;exact⟨k,a1,a2,a3,a4,a5,(hoth' (fun _ _ _ _ _ _ e=>by cases e)).1 a7,a8⟩
    . by_cases e':k=d.k
      . subst e';rw [zff hthr] at h;cases h;exact t2.quit _ _ _ _ _ _ hthr
      . rw [zeA e'] at h;exact t2.quit _ _ _ _ _ _ h
    . by_cases e':k=d.k
      . subst e';rw [zff hthr] at h;cases h
      . rw [zeA e'] at h;obtain⟨h1,hp',gid,dn,ws,st,ak,gr,h2,h3,h4,h5,h6,h7,h8,h9⟩:=t2.busy _ _ _ _ _ _ h;exact⟨h1,hp',gid,dn,ws,st,ak,gr,h2,(hoth' (fun _ _ _ _ _ _ e=>by cases e)).2 h3,h4,h5,h6,h7,h8,(hoth' (fun _ _ _ _ _ _ e=>by cases e)).2 h9⟩
  . show i≠0/\i<gs'.size/\_;by_cases h0:i=0
    . simp [h0] at hi
    rw [if_neg h0] at hi;by_cases e:i=d.p.h
    . rw [if_pos e] at hi;cases hi
    rw [if_neg e] at hi;refine⟨h0,by rw [b1];exact (hc.seats i s hi).2.1,fun _=>?_⟩
    obtain⟨k,c1,c2,c3,c4,c5,c6,c7,c8⟩:=(hc.seats i s hi).2.2 h0;refine⟨k,c1,c2,c3,c4,c5,c6,by simp,?_⟩
    rw [zeA]
    . exact c8
    rintro rfl;exact c7 hd.run
  . refine⟨fun e=>(by cases e),fun _=>?_⟩
    by_cases e:k=d.k
    . subst e;rw [zff hthr] at hq;cases hq
    . rw [zeA e] at hq;obtain⟨ws,st,ak,gr,ab',x,y,cs',h3,h4,h5⟩:=(hc.waits k self quit closed hp gid dn pend hq).2 (by rw [hd.run];simpa using fun z=>e z.symm)
      obtain⟨h6,h7,h8⟩:=hc.seats gid _ h4;obtain⟨hp3,gid3,dn3,_,_,_,_,z1,_,_,_,_,z2,_⟩:=(t.busy _ _ _ _ _ _ hq).2;cases z1;refine⟨ws,st,ak,gr,ab',x,y,cs',(hoth' (fun _ _ _ _ _ _ e=>by cases e)).2 h3,?_,h5⟩
      show (if gid=0 then none else if gid=d.p.h then none else Inb gid)=_
      rw [if_neg (by omega),if_neg h6,h4]
end
section
variable (hok:∀ mn OB WB,zau mn OB WB)
variable {Γ:Type} (Pr:Proto Γ)
def EndB (k:Nat) (hs:AHeap) (S:St) (γ:Γ × St):Prop:=S=γ.2/\∃ γ1,Pr.Inv γ1 hs S/\Pr.ph γ1 k=none/\(∀ i,i≠k->Pr.ph γ1 i=Pr.ph γ.1 i)/\Pr.FC γ1 γ.1
set_option maxRecDepth 100000 in
theorem zjw:(rootOps2[3]?).bind (·.dst)=some 10:=by
  simp only [rootOps2,ziJ,cOps,cL,cR,Try.f30,Option.getD_some];rfl
theorem zoz (fv v:Value) (wb dn bx:Nat):(zcd fv wb dn bx [3]).finish v=(baseD 30).at ⟨zoH fv wb dn bx v,[zgV 43 #[pt bx]]⟩ [.inRegion rootOps2 []]:=by
  simp only [zcd,Frame.finish_at,zjw];rfl
theorem znM {k hp bx:Nat} {fv:Value} {wbr dn0:Nat} {b:Frame} {F0:Emb} {N0 C0:Nat} {v:Value} {hs:AHeap} {S:St} {γ:Γ × St} (hE:EndB Pr k hs S γ):Safe hok (ClB k hp bx) SuB (FinB hok Pr) b [zcd fv wbr dn0 bx [3],botF] F0 N0 C0 (.done v hs S) γ:=by
  intro d p Inb F gs w sl T g hC H hg hS _ _ _;obtain⟨rfl,hγ,hd,rfl,rfl,hbx⟩:=hC;subst hγ;obtain⟨hSγ,γ1,hInv,hph,hoth,hfuel⟩:=hE;have hSγ:S=d.S:=hSγ;subst hSγ;have H:Standing d.p hok d.Su d.S F (.done v hs d.S) Inb gs w T:=H;obtain⟨fr,rfl,_,_,hl⟩:=hS;have hl:=hl _ _ rfl;rw [zoz] at hl;refine (zet hok hd.mono (c':=.run [] [] hs d.S) (sl:=sl) H hg rfl hl rfl rfl (fun v hv=>by cases hv)).bind fun m1 T1=>?_
  rintro ⟨gs1,w1,sl1,rfl,k1,_,H1⟩;obtain⟨B,Mem,q,R,hM0,hMh⟩:=H1.com.ring;have t:=H1.com.tab;obtain⟨_,hp',gid',dn',ws',st',ak',gr',e1,e2,cask,cgr,cdn,hgid,hgsz,hbox⟩:=t.busy _ _ _ _ _ _ hd.thr;cases e1;have hbF:F.blk (VB+(d.hp+1))=bx:=by
    rw [<-hbx];exact ((H1.same.1 (VB+(d.hp+1)) (.inr ⟨by omega,by rw [hd.cr];have:=zaL hbox;omega⟩)).1).symm
  have Rp:Rep d.p.mn d.p.OB d.p.WB F d.S w1:=H1.inv.1.rep;have hrow:w1.heap[bx]?=some (.cells #[.chan (some d.dn)] 101 (0,0)):=by
    have:=Rp.at' _ _ hbox;rw [<-hbF];exact this
  have hOb:¬ d.p.OB bx:=fun z=>H1.ov hd.h0 bx z (.inr ⟨d.hp+1,_,hbox,by rw [<-hbF];simp [zay]⟩)
  have hb0:(d.p.h==0)=false:=by simp [hd.h0]
  have hlow:∀ b,zfv d.p.OB d.p.WB Inb b->b<w1.heap.size:=fun b hb=>by
    rcases hb with hb|hb|⟨i,s,hi,hs⟩
    . exact t.olow b hb
    . obtain⟨_,_,h1,_⟩:=H1.wrow b hb;exact zab h1
    . obtain⟨cap,k,hx⟩:=R.chans i s b (fun z=>z) hi hs;exact zab hx
  have hgo:=zpg (OB:=d.p.OB) (WB:=d.p.WB) (Inb:=Inb) (h:=d.p.h) (fv:=fv) (z:=ren F v) (wb:=wbr) (dn0:=dn0) (dn:=d.dn) (bx:=bx) w1 w1 ⟨hlow,fun _ _ _=>rfl,Nat.le_refl _,hrow,hOb⟩;rw [<-hb0] at hgo;refine (zaM (sl:=sl1) 60 k1 hgo R).bind fun m2 T2=>?_;rintro ⟨gs2,g2,w2,sl2,q2,B2,rfl,j1,j2,⟨⟨n,rfl⟩,hK⟩,R2⟩;have H2:Standing d.p hok d.Su d.S F (.run [] [] hs d.S) Inb gs2 w2 T2:=H1.grown hok hd.mono (fun x hx hO=>hK.old x (fun z=>hO ⟨z,hd.h0⟩) hx) hK.size j1 ⟨B2,Mem,q2,R2,hM0,hMh⟩;exact ended hok d hd H2 j2 hInv hph hoth hfuel
end
section
variable {P:Program}
theorem zha {fn:FuncId} {a:Act} {o:Oper} {w:World} {r:Next} (h:calm P (execOp a.eval o)=some r):listed P fn a o w=#[]:=by
  show seen P fn ((execOp a.eval o).events P w #[])=#[];rw [show (execOp a.eval o).events P w #[]=#[] from by show ((execOp a.eval o).runT P w #[]).2=#[];rw [(ze2 h w #[]).1],seen_none]
theorem zhy {fn:FuncId} {a:Act} {o:Oper} {w:World} {t yt:TypeId} {op:BinOp} {x y:Operand} {u v r:Value} (ho:o.op=.binOp op t x y yt) (hx:a.eval x=u) (hy:a.eval y=v) (hu:ren ⟨id,fun _=>0,fun _=>0⟩ u=u) (hv:ren ⟨id,fun _=>0,fun _=>0⟩ v=v) (h:zaR P op t y u v=some r):listed P fn a o w=#[]:=by
  have hc:=zeI (P:=P) (F:=⟨id,fun _=>0,fun _=>0⟩) (x:=x) h;rw [hu,hv] at hc;refine zha (r:=.value (ren ⟨id,fun _=>0,fun _=>0⟩ r)) ?_;simp only [execOp,ho,hx,hy];rw [zae,hc];rfl
theorem zdB {fn:FuncId} {a:Act} {o:Oper} {w:World} {t yt:TypeId} {x y:Operand} {p:Option Addr} {r:Value} (ho:o.op=.binOp .eql t x y yt) (hx:a.eval x=.pointer p) (hy:a.eval y=.pointer none) (h:zaR P .eql t y (.pointer p) (.pointer none)=some r):listed P fn a o w=#[]:=by
  have hr:ren ⟨id,fun _=>0,fun _=>0⟩ (.pointer p)=.pointer p:=by
    cases p with
    | none=>simp
    | some a=>simp [adr]
  have hc:=zeI (P:=P) (F:=⟨id,fun _=>0,fun _=>0⟩) (x:=x) h;rw [hr,zdm] at hc;refine zha (r:=.value (ren ⟨id,fun _=>0,fun _=>0⟩ r)) ?_;simp only [execOp,ho,hx,hy];rw [zae,hc];rfl
end
section
variable {OB WB:Nat->Prop} {Inb:Nat->Option Seat}
structure KM (w0 w:World):Prop where
  heap:w.heap=w0.heap
theorem KM.rely {w0 w w1:World} (K:KM w0 w) (r:Ro OB 0 w w1):KM w0 w1:=⟨by rw [r.heap0];exact K.heap⟩
theorem KM.cell {w0 w:World} (K:KM w0 w) {a:Addr} {v:Value} (h:w0.cell? a=some v):w.cell? a=some v:=(zaZ w0 w a (by rw [K.heap])).trans h
theorem zby {w:World} {a:Addr} {v:Value} (h:w.cell? a=some v):EvO OB WB 0 w ⟨.cell a,false,false⟩:=by
  obtain⟨c,el,fr,hb,_⟩:=zaK h;exact .inr ⟨rfl,a,rfl,zab hb,nofun,fun _=>rfl⟩
noncomputable def zc6:Code:=(Try.f11.body).getD .skip
noncomputable def zeh:Array Oper:=cOps (cL (cR (cR zc6)))
noncomputable def zeB:Code:=cR (cR (cR zc6))
noncomputable def zdY:Array Oper:=cOps (cL zeB)
noncomputable def zg0:Code:=cR zeB
abbrev zoM (tb wb gr:Nat) (pb:Addr) (v z:Value):Array Value:=#[pt tb,v,undef,undef,.bool false,pt tb,.bool false,.bool false,pt tb,pt tb,pt tb 3,.pointer (some pb),.bool false,.bool false,pt tb,pt tb,pt tb 1,pt wb,pt wb,pt wb 4,.chan (some gr),v,z,undef]
noncomputable def zda (tb wb gr:Nat) (pb:Addr) (v:Value) (rest:List Nat):Frame:=(base 11).at ⟨zoM tb wb gr pb v undef,[]⟩ [.inRegion zeh rest,.code zeB]
noncomputable def zc7 (tb wb gr:Nat) (pb:Addr) (v:Value) (rest:List Nat):Frame:=(base 11).at ⟨zoM tb wb gr pb v (pt tb),[]⟩ [.inRegion zdY rest,.code zg0]
structure KGr (w:World) (tb wb dn ak gr:Nat) (pb:Addr):Prop where
  port:w.cell? ⟨tb,1,none⟩=some (.pointer (some ⟨wb,0,none⟩))
  pend:w.cell? ⟨tb,3,none⟩=some (.pointer (some pb))
  grant:w.cell? ⟨wb,4,none⟩=some (.chan (some gr))
set_option maxRecDepth 100000 in
theorem zok {w0 w:World} {tb wb dn ak gr:Nat} {pb:Addr} {v:Value} (hG:KGr w0 tb wb dn ak gr pb) (hK:KM w0 w) (cs:List Frame) :
    Conc.Goes Try.prog true (Ro OB 0) (DO OB WB Inb 0) (fun g w'=>g=Go.Conc.G (zda tb wb gr pb v [8]) cs/\KM w0 w') 60 (Go.Conc.G ((base 11).at ⟨#[pt tb,v,undef,undef,undef,undef,undef,undef,undef,undef,undef,undef,undef,undef,undef,undef,undef,undef,undef,undef,undef,undef,undef,undef],[]⟩ [.code zc6]) cs) w:=by
  simp only [zc6,Try.f11,Option.getD_some];(refine Conc.Goes.step rfl (fun w₁ h₁=>?_);replace hK:=hK.rely h₁;clear h₁;rw [stepG_seq];simp only [goes_go];refine⟨DO.none _,?_⟩);(refine Conc.Goes.step rfl (fun w₁ h₁=>?_);replace hK:=hK.rely h₁;clear h₁;rw [stepG_region];simp only [goes_go,List.size_toArray,List.length_cons,List.length_nil,Nat.reduceAdd,Nat.zero_add,List.range,List.range.loop];refine⟨DO.none _,?_⟩);(refine Conc.Goes.step rfl (fun w₁ h₁=>?_);replace hK:=hK.rely h₁;clear h₁;refine goes_oper_k rfl rfl (by decide) (fun K hK'=>?_);go_simp;refine hK' _ _ ⟨DO.quiet (fun e he=>(by have hm:=mem_listed he;simp [go_sem,Instr.makeInterface,Instr.makeFunc] at hm)),?_⟩;clear hK' K)
  (refine Conc.Goes.step rfl (fun w₁ h₁=>?_);replace hK:=hK.rely h₁;clear h₁;rw [stepG_region_end];simp only [goes_go];refine⟨DO.none _,?_⟩);(refine Conc.Goes.step rfl (fun w₁ h₁=>?_);replace hK:=hK.rely h₁;clear h₁;rw [stepG_seq];simp only [goes_go];refine⟨DO.none _,?_⟩);(refine Conc.Goes.step rfl (fun w₁ h₁=>?_);replace hK:=hK.rely h₁;clear h₁;rw [stepG_seq];simp only [goes_go];refine⟨DO.none _,?_⟩);(refine Conc.Goes.step rfl (fun w₁ h₁=>?_);replace hK:=hK.rely h₁;clear h₁;rw [stepG_region];simp only [goes_go,List.size_toArray,List.length_cons,List.length_nil,Nat.reduceAdd,Nat.zero_add,List.range,List.range.loop];refine⟨DO.none _,?_⟩);(refine Conc.Goes.step rfl (fun w₁ h₁=>?_);replace hK:=hK.rely h₁;clear h₁;refine goes_oper_k rfl rfl (by decide) (fun K hK'=>?_);go_simp;refine hK' _ _ ⟨DO.quiet (fun e he=>(by have hm:=mem_listed he;simp [go_sem,Instr.makeInterface,Instr.makeFunc] at hm)),?_⟩;clear hK' K);refine Conc.Goes.step rfl (fun w₁ h₁=>?_);replace hK:=hK.rely h₁;clear h₁
  refine goes_oper_k rfl rfl (by decide) (fun K hK'=>?_)
  go_simp
  refine hK' _ _ ⟨DO.quiet (fun e he=>(by rw [zdB rfl rfl rfl rfl] at he;simp at he)),?_⟩
  clear hK' K;(refine Conc.Goes.step rfl (fun w₁ h₁=>?_);replace hK:=hK.rely h₁;clear h₁;refine goes_oper_k rfl rfl (by decide) (fun K hK'=>?_);go_simp;refine hK' _ _ ⟨DO.quiet (fun e he=>(by have hm:=mem_listed he;simp [go_sem,Instr.makeInterface,Instr.makeFunc] at hm)),?_⟩;clear hK' K)
  (refine Conc.Goes.step rfl (fun w₁ h₁=>?_);replace hK:=hK.rely h₁;clear h₁;refine goes_oper_k rfl rfl (by decide) (fun K hK'=>?_);go_simp;refine hK' _ _ ⟨DO.quiet (fun e he=>(by have hm:=mem_listed he;simp [go_sem,Instr.makeInterface,Instr.makeFunc] at hm)),?_⟩;clear hK' K);(refine Conc.Goes.step rfl (fun w₁ h₁=>?_);replace hK:=hK.rely h₁;clear h₁;refine goes_oper_k rfl rfl (by decide) (fun K hK'=>?_);go_simp;refine hK' _ _ ⟨DO.quiet (fun e he=>(by have hm:=mem_listed he;simp [go_sem,Instr.makeInterface,Instr.makeFunc] at hm)),?_⟩;clear hK' K);(refine Conc.Goes.step rfl (fun w₁ h₁=>?_);replace hK:=hK.rely h₁;clear h₁;refine goes_oper_k rfl rfl (by decide) (fun K hK'=>?_);go_simp;refine hK' _ _ ⟨DO.quiet (fun e he=>(by have hm:=mem_listed he;simp [go_sem,Instr.makeInterface,Instr.makeFunc] at hm)),?_⟩;clear hK' K);(refine Conc.Goes.step rfl (fun w₁ h₁=>?_);replace hK:=hK.rely h₁;clear h₁;have hF:=(hK.cell hG.pend);refine goes_oper_k rfl rfl (by decide) (fun K hK'=>?_);go_simp;refine hK' _ _ ⟨DO.quiet (fun e he=>(by have hm:=mem_listed he;simp [go_sem,hF] at hm;subst hm;exact zby (hK.cell hG.pend))),?_⟩;clear hK' K hF);refine Conc.Goes.step rfl (fun w₁ h₁=>?_);replace hK:=hK.rely h₁;clear h₁
  refine goes_oper_k rfl rfl (by decide) (fun K hK'=>?_)
  go_simp
  refine hK' _ _ ⟨DO.quiet (fun e he=>(by rw [zdB rfl rfl rfl rfl] at he;simp at he)),?_⟩
  clear hK' K;(refine Conc.Goes.step rfl (fun w₁ h₁=>?_);replace hK:=hK.rely h₁;clear h₁;refine goes_oper_k rfl rfl (by decide) (fun K hK'=>?_);go_simp;refine hK' _ _ ⟨DO.quiet (fun e he=>(by have hm:=mem_listed he;simp [go_sem,Instr.makeInterface,Instr.makeFunc] at hm)),?_⟩;clear hK' K)
  (refine Conc.Goes.step rfl (fun w₁ h₁=>?_);replace hK:=hK.rely h₁;clear h₁;rw [stepG_region_end];simp only [goes_go];refine⟨DO.none _,?_⟩);(refine Conc.Goes.step rfl (fun w₁ h₁=>?_);replace hK:=hK.rely h₁;clear h₁;rw [stepG_cond (t:=false) rfl];simp only [goes_go,if_true,if_false,Bool.false_eq_true,↓reduceIte];refine⟨DO.none _,?_⟩);(refine Conc.Goes.step rfl (fun w₁ h₁=>?_);replace hK:=hK.rely h₁;clear h₁;rw [stepG_skip];simp only [goes_go];refine⟨DO.none _,?_⟩);(refine Conc.Goes.step rfl (fun w₁ h₁=>?_);replace hK:=hK.rely h₁;clear h₁;rw [stepG_seq];simp only [goes_go];refine⟨DO.none _,?_⟩);(refine Conc.Goes.step rfl (fun w₁ h₁=>?_);replace hK:=hK.rely h₁;clear h₁;rw [stepG_region];simp only [goes_go,List.size_toArray,List.length_cons,List.length_nil,Nat.reduceAdd,Nat.zero_add,List.range,List.range.loop];refine⟨DO.none _,?_⟩);(refine Conc.Goes.step rfl (fun w₁ h₁=>?_);replace hK:=hK.rely h₁;clear h₁;refine goes_oper_k rfl rfl (by decide) (fun K hK'=>?_);go_simp;refine hK' _ _ ⟨DO.quiet (fun e he=>(by have hm:=mem_listed he;simp [go_sem,Instr.makeInterface,Instr.makeFunc] at hm)),?_⟩;clear hK' K);(refine Conc.Goes.step rfl (fun w₁ h₁=>?_);replace hK:=hK.rely h₁;clear h₁;refine goes_oper_k rfl rfl (by decide) (fun K hK'=>?_);go_simp;refine hK' _ _ ⟨DO.quiet (fun e he=>(by have hm:=mem_listed he;simp [go_sem,Instr.makeInterface,Instr.makeFunc] at hm)),?_⟩;clear hK' K);(refine Conc.Goes.step rfl (fun w₁ h₁=>?_);replace hK:=hK.rely h₁;clear h₁;refine goes_oper_k rfl rfl (by decide) (fun K hK'=>?_);go_simp;refine hK' _ _ ⟨DO.quiet (fun e he=>(by have hm:=mem_listed he;simp [go_sem,Instr.makeInterface,Instr.makeFunc] at hm)),?_⟩;clear hK' K);(refine Conc.Goes.step rfl (fun w₁ h₁=>?_);replace hK:=hK.rely h₁;clear h₁;have hF:=(hK.cell hG.port);refine goes_oper_k rfl rfl (by decide) (fun K hK'=>?_);go_simp;refine hK' _ _ ⟨DO.quiet (fun e he=>(by have hm:=mem_listed he;simp [go_sem,hF] at hm;subst hm;exact zby (hK.cell hG.port))),?_⟩;clear hK' K hF);(refine Conc.Goes.step rfl (fun w₁ h₁=>?_);replace hK:=hK.rely h₁;clear h₁;refine goes_oper_k rfl rfl (by decide) (fun K hK'=>?_);go_simp;refine hK' _ _ ⟨DO.quiet (fun e he=>(by have hm:=mem_listed he;simp [go_sem,Instr.makeInterface,Instr.makeFunc] at hm)),?_⟩;clear hK' K);(refine Conc.Goes.step rfl (fun w₁ h₁=>?_);replace hK:=hK.rely h₁;clear h₁;refine goes_oper_k rfl rfl (by decide) (fun K hK'=>?_);go_simp;refine hK' _ _ ⟨DO.quiet (fun e he=>(by have hm:=mem_listed he;simp [go_sem,Instr.makeInterface,Instr.makeFunc] at hm)),?_⟩;clear hK' K);(refine Conc.Goes.step rfl (fun w₁ h₁=>?_);replace hK:=hK.rely h₁;clear h₁;have hF:=(hK.cell hG.grant);refine goes_oper_k rfl rfl (by decide) (fun K hK'=>?_);go_simp;refine hK' _ _ ⟨DO.quiet (fun e he=>(by have hm:=mem_listed he;simp [go_sem,hF] at hm;subst hm;exact zby (hK.cell hG.grant))),?_⟩;clear hK' K hF);(refine Conc.Goes.step rfl (fun w₁ h₁=>?_);replace hK:=hK.rely h₁;clear h₁;refine goes_oper_k rfl rfl (by decide) (fun K hK'=>?_);go_simp;refine hK' _ _ ⟨DO.quiet (fun e he=>(by have hm:=mem_listed he;simp [go_sem,Instr.makeInterface,Instr.makeFunc] at hm)),?_⟩;clear hK' K);exact Conc.Goes.stop (fun w₁ h₁=>⟨by simp only [zda,zeh,zeB,zc6,cOps,cL,cR,Try.f11,Option.getD_some],hK.rely h₁⟩)
set_option maxRecDepth 100000 in
theorem zmj (tb wb gr:Nat) (pb:Addr) (v:Value) (cs:List Frame) (main:Bool) (w:World) :
    stepG Try.prog main (Go.Conc.G (zda tb wb gr pb v [8]) cs) w=.comm (Go.Conc.G (zda tb wb gr pb v [8]) cs) #[scase gr v (.tuple #[])] true .send w:=by
  simp only [zda,zeh,zeB,zc6,cOps,cL,cR,Try.f11,Option.getD_some];rw [stepG_comm (w':=w) (cases:=#[scase gr v (.tuple #[])]) (blocking:=true) (shape:=.send) rfl rfl (by decide) (by simp [go_sem,execOp,scase,Act.eval]),listed_none (by simp [go_sem,execOp,Act.eval])]
theorem zlZ (tb wb gr:Nat) (pb:Addr) (v:Value) (cs:List Frame):(Go.Conc.G (zda tb wb gr pb v [8]) cs).finishComm Try.prog #[scase gr v (.tuple #[])] .send ((0:Nat):Int) undef false=Go.Conc.G (zda tb wb gr pb v []) cs:=by
  simp only [Goroutine.finishComm,zda,zeh,zeB,zc6,cOps,cL,cR,Try.f11,Option.getD_some,Go.Conc.G,Frame.finish_at];rfl
variable {B:Nat}
set_option maxRecDepth 100000 in
theorem zmd {w0 w:World} {tb wb dn ak gr:Nat} {pb:Addr} {v:Value} (hK:KG OB WB w0 tb wb dn ak w) (hne:wb≠tb) (htB:tb<B) (hwB:wb<B) (cs:List Frame) :
    Conc.Goes Try.prog true (Rl OB WB 0) (Dw OB WB B 0) (fun g w=>(∃ gq,AtS Try.prog (zbR tb wb dn ak (zc7 tb wb gr pb v [1]::cs)) g gq)/\KG OB WB (w0.setCell ⟨tb,3,none⟩ (.pointer none)) tb wb dn ak w) 45 (Go.Conc.G (zda tb wb gr pb v []) cs) w:=by
  simp only [zda,zeh,zeB,zc6,cOps,cL,cR,Try.f11,Option.getD_some];(refine Conc.Goes.step rfl (fun w₁ h₁=>?_);replace hK:=hK.rely h₁;clear h₁;rw [stepG_region_end];simp only [goes_go];refine⟨Dw.none _,?_⟩);(refine Conc.Goes.step rfl (fun w₁ h₁=>?_);replace hK:=hK.rely h₁;clear h₁;rw [stepG_seq];simp only [goes_go];refine⟨Dw.none _,?_⟩);(refine Conc.Goes.step rfl (fun w₁ h₁=>?_);replace hK:=hK.rely h₁;clear h₁;rw [stepG_region];simp only [goes_go,List.size_toArray,List.length_cons,List.length_nil,Nat.reduceAdd,Nat.zero_add,List.range,List.range.loop];refine⟨Dw.none _,?_⟩);(refine Conc.Goes.step rfl (fun w₁ h₁=>?_);replace hK:=hK.rely h₁;clear h₁;refine goes_oper_k rfl rfl (by decide) (fun K hK'=>?_);go_simp;refine hK' _ _ ⟨Dw.quiet (fun e he=>(by have hm:=mem_listed he;simp [go_sem,Instr.makeInterface,Instr.makeFunc] at hm)),?_⟩;clear hK' K)
  refine Conc.Goes.step rfl (fun w₁ h₁=>?_);replace hK:=hK.rely h₁;clear h₁;refine goes_call (c:=zhj) rfl rfl (by decide) rfl Try.func31 rfl rfl ⟨Dw.none _,?_⟩
  rw [Try.ntmps31]
  walk_nrm
  have hgo:=zk4 (OB:=OB) (WB:=WB) (B:=B) hK hne htB hwB (zc7 tb wb gr pb v [1]::cs);simp only [zc7,zdY,zg0,zeB,zc6,cOps,cL,cR,Try.f11,Option.getD_some] at hgo ⊢;exact hgo
end
section
variable {OB WB:Nat->Prop} {Inb:Nat->Option Seat}
set_option maxRecDepth 100000 in
theorem zgN:(zeS[0]?).bind (·.dst)=some 18:=by
  simp only [zeS,zhj,cOps,cL,cR,Try.f31,Option.getD_some];rfl
abbrev zsS (tb wb dn ak:Nat) (z:Value):Array Value:=#[pt tb,undef,undef,undef,pt tb,pt tb,pt tb 3,pt tb,pt tb,pt tb 1,pt wb,pt wb,pt wb 3,.chan (some ak),pt tb,pt tb,pt tb 2,.chan (some dn),z,undef,undef,undef,undef,undef,undef,undef,undef,undef,undef,undef,undef,undef,undef]
noncomputable def zfR (tb wb dn ak:Nat) (z:Value) (cs:List Frame):Goroutine:=Go.Conc.G ((base 31).at ⟨zsS tb wb dn ak z,[]⟩ [.inRegion zeS [1,2,3],.code ze7]) cs
theorem zls (tb wb dn ak:Nat) (v:Value) (cs:List Frame):(zh7 tb wb dn ak cs).finishComm Try.prog (zbR tb wb dn ak cs).cases (zbR tb wb dn ak cs).shape ((0:Nat):Int) v true=zfR tb wb dn ak (.tuple #[.int .i64 0,.bool true,v,.nilIface]) cs:=by
  have h2:commResult (zbR tb wb dn ak cs).cases (zbR tb wb dn ak cs).shape ((0:Nat):Int) v true=.tuple #[.int .i64 0,.bool true,v,.nilIface]:=by
    simp [zbR,commResult,rcase,List.zipIdx_cons,goInt]
  simp only [Goroutine.finishComm];rw [h2];simp only [zh7,zfR,Go.Conc.G,Frame.finish_at,zgN];rfl
theorem zne (tb wb dn ak:Nat) (v:Value) (cs:List Frame):(zh7 tb wb dn ak cs).finishComm Try.prog (zbR tb wb dn ak cs).cases (zbR tb wb dn ak cs).shape ((1:Nat):Int) v true=zfR tb wb dn ak (.tuple #[.int .i64 1,.bool true,accZ,v]) cs:=by
  have h2:commResult (zbR tb wb dn ak cs).cases (zbR tb wb dn ak cs).shape ((1:Nat):Int) v true=.tuple #[.int .i64 1,.bool true,accZ,v]:=by
    simp [zbR,commResult,rcase,List.zipIdx_cons,goInt]
  simp only [Goroutine.finishComm];rw [h2];simp only [zh7,zfR,Go.Conc.G,Frame.finish_at,zgN];rfl
structure KA (OB WB:Nat->Prop) (Inb:Nat->Option Seat) (n0:Nat) (w0 w:World):Prop where
  heap:w.heap=w0.heap
  low:∀ b,zfv OB WB Inb b->b<n0
  size:n0<=w0.heap.size
theorem KA.rely {n0:Nat} {w0 w w1:World} (K:KA OB WB Inb n0 w0 w) (r:Ro OB 0 w w1):KA OB WB Inb n0 w0 w1:=⟨by rw [r.heap0];exact K.heap,K.low,K.size⟩
theorem KA.cell {n0:Nat} {w0 w:World} (K:KA OB WB Inb n0 w0 w) {a:Addr} {v:Value} (h:w0.cell? a=some v):w.cell? a=some v:=(zaZ w0 w a (by rw [K.heap])).trans h
theorem KA.alloc {n0:Nat} {w0 w:World} (K:KA OB WB Inb n0 w0 w) {o:Obj}:KA OB WB Inb n0 (w0.alloc o) (w.alloc o):=⟨by rw [zbH,zbH,K.heap],K.low,by rw [zaH];have:=K.size;omega⟩
theorem zaE (w:World) (a:Addr) (v:Value):(w.setCell a v).heap.size=w.heap.size:=by simp [World.setCell]
theorem zjr {w w0:World} (h:w.heap=w0.heap) (a:Addr) (v:Value):(w.setCell a v).heap=(w0.setCell a v).heap:=by
  refine Array.ext_getElem? fun b=>?_;rw [heap_setCell,heap_setCell,h]
theorem KA.set {n0:Nat} {w0 w:World} (K:KA OB WB Inb n0 w0 w) {a:Addr} {v:Value}:KA OB WB Inb n0 (w0.setCell a v) (w.setCell a v):=⟨zjr K.heap a v,K.low,by rw [zaE];exact K.size⟩
theorem KA.set_do {n0:Nat} {w0 w:World} (K:KA OB WB Inb n0 w0 w) {a:Addr} {v:Value} {es:Array Event} (ha:n0<=a.block\/((∀ i s,Inb i=some s->¬ s.has a.block)/\¬ WB a.block)) (hs:∀ e∈es,EvO OB WB 0 (w.setCell a v) e):DO OB WB Inb 0 w (w.setCell a v) es:=by
  refine⟨fun i s c hi hc=>?_,fun b hb h3=>?_,fun h=>absurd rfl h,by rw [zaE];exact Nat.le_refl _,rfl,hs⟩
  . rw [heap_setCell,if_neg];rintro rfl;rcases ha with ha|ha
    . have:=K.low _ (.inr (.inr ⟨i,s,hi,hc⟩));omega
    . exact ha.1 i s hi hc
  . refine zaZ _ _ _ ?_;rw [heap_setCell,if_neg];intro e;rcases ha with ha|ha
    . have:=K.low _ (.inr (.inl hb));omega
    . exact ha.2 (e ▸ hb)
theorem zfZ {w:World} {a:Addr} {v:Value} (hW:¬ WB a.block) (hb:a.block<w.heap.size):EvO OB WB 0 (w.setCell a v) ⟨.cell a,true,false⟩:=.inr ⟨rfl,a,rfl,by rw [zaE];exact hb,fun _ z=>hW z.1,fun _=>rfl⟩
theorem zeR {w:World} {nb o:Nat} {cur:Array Value} {el:TypeId} (h:w.heap[nb]?=some (.cells cur el (0,0))) (v:Value):(w.setCell ⟨nb,o,none⟩ v).heap[nb]?=some (.cells (cur.setIfInBounds o v) el (0,0)):=by
  rw [heap_setCell,if_pos rfl,h];rfl
theorem zfe {P:Program} {α:Type} {w:World} {nb o:Nat} {cur:Array Value} {el:TypeId} {es:Array Event} {k:IntKind} {n:Int} {f:Unit->Sem α} (h:w.heap[nb]?=some (.cells cur el (0,0))) (ho:o<cur.size):(Sem.bind (store ⟨nb,o,none⟩ (.int k n)) f).runT P w es=(f ()).runT P (w.setCell ⟨nb,o,none⟩ (.int k n)) (es.push ⟨.cell ⟨nb,o,none⟩,true,false⟩):=by
  have hc:w.cell? ⟨nb,o,none⟩=some (cur[o]'ho):=by simp [World.cell?,h,ho]
  have hf:w.frozen? ⟨nb,o,none⟩=false:=by simp [World.frozen?,h]
  show (Sem.store .plain ⟨nb,o,none⟩ (.int k n) (f ())).runT P w es=_;simp only [Sem.runT,hc,hf];rfl
theorem znb {P:Program} {w:World} {nb:Nat} {x0 x1 x2 x3:Value} {el:TypeId} {es:Array Event} (h:w.heap[nb]?=some (.cells #[x0,x1,x2,x3] el (0,0))) (c n A B:Int) :
    (storeCells ⟨nb,0,none⟩ [.int .u8 c,.int .i64 n,.int .u64 A,.int .u64 B]).runT P w es=(.ok () ((((w.setCell ⟨nb,0,none⟩ (.int .u8 c)).setCell ⟨nb,1,none⟩ (.int .i64 n)).setCell ⟨nb,2,none⟩ (.int .u64 A)).setCell ⟨nb,3,none⟩ (.int .u64 B)),(((es.push ⟨.cell ⟨nb,0,none⟩,true,false⟩).push ⟨.cell ⟨nb,1,none⟩,true,false⟩).push ⟨.cell ⟨nb,2,none⟩,true,false⟩).push ⟨.cell ⟨nb,3,none⟩,true,false⟩):=by
  have h0:=h;show (Sem.bind (store ⟨nb,0,none⟩ (.int .u8 c)) fun _=>Sem.bind (store ⟨nb,1,none⟩ (.int .i64 n)) fun _=>Sem.bind (store ⟨nb,2,none⟩ (.int .u64 A)) fun _=>Sem.bind (store ⟨nb,3,none⟩ (.int .u64 B)) fun _=>.pure ()).runT P w es=_;have h1:=zeR (o:=0) h0 (.int .u8 c);have h2:=zeR (o:=1) h1 (.int .i64 n);have h3:=zeR (o:=2) h2 (.int .u64 A);rw [zfe h0 (by simp),zfe h1 (by simp),zfe h2 (by simp),zfe h3 (by simp)]
  rfl
set_option maxRecDepth 100000 in
theorem zpy {n0:Nat} {w0 w:World} {tb wb dn ak cc:Nat} {n:Int} {A B:UInt64} (hK:KA OB WB Inb n0 w0 w) (ht:(∀ i s,Inb i=some s->¬ s.has tb)/\¬ WB tb) {z3:Value} (h3:w0.cell? ⟨tb,3,none⟩=some z3) (hz:w0.frozen? ⟨tb,3,none⟩=false) (c0:Frame) (cs:List Frame) :
    Conc.Goes Try.prog true (Ro OB 0) (DO OB WB Inb 0) (fun g w'=>g=Go.Conc.G (c0.finish (.tuple #[])) cs/\KA OB WB Inb n0 ((w0.alloc (.cells (zf0 cc n A B) 31)).setCell ⟨tb,3,none⟩ (.pointer (some ⟨w0.heap.size,0,none⟩))) w') 60 (zfR tb wb dn ak (.tuple #[.int .i64 0,.bool true,accV cc n A B,.nilIface]) (c0::cs)) w:=by
  simp only [zfR,zeS,ze7,zhj,cOps,cL,cR,Try.f31,Option.getD_some];(refine Conc.Goes.step rfl (fun w₁ h₁=>?_);replace hK:=hK.rely h₁;clear h₁;refine goes_oper_k rfl rfl (by decide) (fun K hK'=>?_);go_simp;refine hK' _ _ ⟨DO.quiet (fun e he=>(by have hm:=mem_listed he;simp [go_sem,Instr.makeInterface,Instr.makeFunc] at hm)),?_⟩;clear hK' K)
  (refine Conc.Goes.step rfl (fun w₁ h₁=>?_);replace hK:=hK.rely h₁;clear h₁;refine goes_oper_k rfl rfl (by decide) (fun K hK'=>?_);go_simp;refine hK' _ _ ⟨DO.quiet (fun e he=>(by have hm:=mem_listed he;simp [go_sem,Instr.makeInterface,Instr.makeFunc] at hm)),?_⟩;clear hK' K);(refine Conc.Goes.step rfl (fun w₁ h₁=>?_);replace hK:=hK.rely h₁;clear h₁;refine goes_oper_k rfl rfl (by decide) (fun K hK'=>?_);go_simp;refine hK' _ _ ⟨DO.quiet (fun e he=>(by have hm:=mem_listed he;simp [go_sem,Instr.makeInterface,Instr.makeFunc] at hm)),?_⟩;clear hK' K);(refine Conc.Goes.step rfl (fun w₁ h₁=>?_);replace hK:=hK.rely h₁;clear h₁;rw [stepG_region_end];simp only [goes_go];refine⟨DO.none _,?_⟩);(refine Conc.Goes.step rfl (fun w₁ h₁=>?_);replace hK:=hK.rely h₁;clear h₁;rw [stepG_block];simp only [goes_go];refine⟨DO.none _,?_⟩);(refine Conc.Goes.step rfl (fun w₁ h₁=>?_);replace hK:=hK.rely h₁;clear h₁;rw [stepG_cond (t:=true) rfl];simp only [goes_go,if_true,if_false,Bool.false_eq_true,↓reduceIte];refine⟨DO.none _,?_⟩);(refine Conc.Goes.step rfl (fun w₁ h₁=>?_);replace hK:=hK.rely h₁;clear h₁;rw [stepG_seq];simp only [goes_go];refine⟨DO.none _,?_⟩);(refine Conc.Goes.step rfl (fun w₁ h₁=>?_);replace hK:=hK.rely h₁;clear h₁;rw [stepG_region];simp only [goes_go,List.size_toArray,List.length_cons,List.length_nil,Nat.reduceAdd,Nat.zero_add,List.range,List.range.loop];refine⟨DO.none _,?_⟩);(refine Conc.Goes.step rfl (fun w₁ h₁=>?_);replace hK:=hK.rely h₁;clear h₁;refine goes_oper_k rfl rfl (by decide) (fun K hK'=>?_);go_simp;refine hK' _ _ ⟨DO.quiet (fun e he=>(by have hm:=mem_listed he;simp [go_sem,Instr.makeInterface,Instr.makeFunc] at hm)),?_⟩;clear hK' K);refine Conc.Goes.step rfl (fun w₁ h₁=>?_);replace hK:=hK.rely h₁;clear h₁
  refine goes_oper_k rfl rfl (by decide) (fun K hK'=>?_)
  go_simp
  refine hK' _ _ ⟨DO.alloc (fun b hb=>by have:=hK.low b hb;have:=hK.size;rw [hK.heap];omega) (fun e he=>(by have hm:=mem_listed he;simp [go_sem] at hm)),?_⟩
  clear hK' K;rw [show w₁.heap.size=w0.heap.size by rw [hK.heap]]
  have hn0:=hK.size;replace hK:=hK.alloc (o:=.cells #[.int .u8 0,.int .i64 0,.int .u64 0,.int .u64 0] 31);refine Conc.Goes.step rfl (fun w₁ h₁=>?_);replace hK:=hK.rely h₁;clear h₁;refine goes_oper_k rfl rfl (by decide) (fun K hK'=>?_)
  go_simp
  have hnew:w₁.heap[w0.heap.size]?=some (.cells #[.int .u8 0,.int .i64 0,.int .u64 0,.int .u64 0] 31 (0,0)):=by rw [hK.heap];exact zbw _ _
  have hst:=znb (P:=Try.prog) (es:=#[]) hnew (cc:Int) n (A.toNat:Int) (B.toNat:Int);simp only [accV,List.size_toArray,List.length_cons,List.length_nil,Nat.reduceAdd,if_true];have hrun:=congrArg Prod.fst hst;rw [Sem.runT_eq] at hrun;simp only at hrun;rw [hrun];have hev:=congrArg Prod.snd hst;have e1:=zeR (o:=0) hnew (.int .u8 (cc:Int));have e2:=zeR (o:=1) e1 (.int .i64 n);have e3:=zeR (o:=2) e2 (.int .u64 (A.toNat:Int));have e4:=zeR (o:=3) e3 (.int .u64 (B.toNat:Int));have hoth:∀ b,b≠w0.heap.size->((((w₁.setCell ⟨w0.heap.size,0,none⟩ (.int .u8 cc)).setCell ⟨w0.heap.size,1,none⟩ (.int .i64 n)).setCell ⟨w0.heap.size,2,none⟩ (.int .u64 A.toNat)).setCell ⟨w0.heap.size,3,none⟩ (.int .u64 B.toNat)).heap[b]?=w₁.heap[b]?:=fun b hb=>by
    rw [heap_setCell,if_neg (fun e=>hb e.symm),heap_setCell,if_neg (fun e=>hb e.symm),heap_setCell,if_neg (fun e=>hb e.symm),heap_setCell,if_neg (fun e=>hb e.symm)]
  have hsz:((((w₁.setCell ⟨w0.heap.size,0,none⟩ (.int .u8 cc)).setCell ⟨w0.heap.size,1,none⟩ (.int .i64 n)).setCell ⟨w0.heap.size,2,none⟩ (.int .u64 A.toNat)).setCell ⟨w0.heap.size,3,none⟩ (.int .u64 B.toNat)).heap.size=w₁.heap.size:=by simp only [zaE]
  have hrest:∃ H,((((w₁.setCell ⟨w0.heap.size,0,none⟩ (.int .u8 cc)).setCell ⟨w0.heap.size,1,none⟩ (.int .i64 n)).setCell ⟨w0.heap.size,2,none⟩ (.int .u64 A.toNat)).setCell ⟨w0.heap.size,3,none⟩ (.int .u64 B.toNat))={ w₁ with heap:=H }:=⟨_,rfl⟩
  generalize hW:((((w₁.setCell ⟨w0.heap.size,0,none⟩ (.int .u8 cc)).setCell ⟨w0.heap.size,1,none⟩ (.int .i64 n)).setCell ⟨w0.heap.size,2,none⟩ (.int .u64 A.toNat)).setCell ⟨w0.heap.size,3,none⟩ (.int .u64 B.toNat))=W at *;have hKW:KA OB WB Inb n0 (w0.alloc (.cells (zf0 cc n A B) 31)) W:=by
    refine⟨Array.ext_getElem? fun b=>?_,hK.low,by rw [zaH];omega⟩
    by_cases hb:b=w0.heap.size
    . rw [hb,e4,zbw];rfl
    . rw [hoth b hb,hK.heap,zbH,zbH,Array.getElem?_push,Array.getElem?_push,if_neg hb,if_neg hb]
  go_simp
  refine hK' _ _ ⟨⟨fun i s c hi hc=>hoth c fun e=>?_,fun a ha _=>zaZ _ _ _ (hoth _ fun e=>?_),fun h=>absurd rfl h,Nat.le_of_eq hsz.symm,?_,fun e he=>?_⟩,?_⟩
  . have:=hK.low _ (.inr (.inr ⟨i,s,hi,hc⟩));omega
  . have:=hK.low _ (.inr (.inl ha));omega
  . obtain⟨H,rfl⟩:=hrest;rfl
  . have hm:=mem_listed he;simp [go_sem] at hm;have hm2:e∈((storeCells ⟨w0.heap.size,0,none⟩ [.int .u8 (cc:Int),.int .i64 n,.int .u64 (A.toNat:Int),.int .u64 (B.toNat:Int)]).runT Try.prog w₁ #[]).2:=hm.2;rw [hev] at hm2;have hb:w0.heap.size<W.heap.size:=by rw [hsz,hK.heap,zaH];omega
    have hw:¬ WB w0.heap.size:=fun z=>by have:=hK.low _ (.inr (.inl z));omega
    simp at hm2;rcases hm2 with rfl|rfl|rfl|rfl
    . exact .inr ⟨rfl,_,rfl,hb,fun _ z=>hw z.1,fun _=>rfl⟩
    . exact .inr ⟨rfl,_,rfl,hb,fun _ z=>hw z.1,fun _=>rfl⟩
    . exact .inr ⟨rfl,_,rfl,hb,fun _ z=>hw z.1,fun _=>rfl⟩
    . exact .inr ⟨rfl,_,rfl,hb,fun _ z=>hw z.1,fun _=>rfl⟩
  clear hK' K hev e1 e2 e3 e4 hst hrun hnew hoth hsz hrest hW;replace hK:=hKW;clear hKW;have htl:tb<w0.heap.size:=by obtain⟨_,_,_,hb,_⟩:=zaK h3;exact zab hb
  have h3':(w0.alloc (.cells (zf0 cc n A B) 31)).cell? ⟨tb,3,none⟩=some z3:=(zaZ _ _ _ (zaD _ _ _ htl)).trans h3;have hz':(w0.alloc (.cells (zf0 cc n A B) 31)).frozen? ⟨tb,3,none⟩=false:=(zbB _ _ _ (zaD _ _ _ htl)).trans hz;(refine Conc.Goes.step rfl (fun w₁ h₁=>?_);replace hK:=hK.rely h₁;clear h₁;rw [stepG_region_end];simp only [goes_go];refine⟨DO.none _,?_⟩);(refine Conc.Goes.step rfl (fun w₁ h₁=>?_);replace hK:=hK.rely h₁;clear h₁;rw [stepG_region];simp only [goes_go,List.size_toArray,List.length_cons,List.length_nil,Nat.reduceAdd,Nat.zero_add,List.range,List.range.loop];refine⟨DO.none _,?_⟩);(refine Conc.Goes.step rfl (fun w₁ h₁=>?_);replace hK:=hK.rely h₁;clear h₁;refine goes_oper_k rfl rfl (by decide) (fun K hK'=>?_);go_simp;refine hK' _ _ ⟨DO.quiet (fun e he=>(by have hm:=mem_listed he;simp [go_sem,Instr.makeInterface,Instr.makeFunc] at hm)),?_⟩;clear hK' K)
  (refine Conc.Goes.step rfl (fun w₁ h₁=>?_);replace hK:=hK.rely h₁;clear h₁;refine goes_oper_k rfl rfl (by decide) (fun K hK'=>?_);go_simp;refine hK' _ _ ⟨DO.quiet (fun e he=>(by have hm:=mem_listed he;simp [go_sem,Instr.makeInterface,Instr.makeFunc] at hm)),?_⟩;clear hK' K);(refine Conc.Goes.step rfl (fun w₁ h₁=>?_);replace hK:=hK.rely h₁;clear h₁;refine goes_oper_k rfl rfl (by decide) (fun K hK'=>?_);go_simp;refine hK' _ _ ⟨DO.quiet (fun e he=>(by have hm:=mem_listed he;simp [go_sem,Instr.makeInterface,Instr.makeFunc] at hm)),?_⟩;clear hK' K);refine Conc.Goes.step rfl (fun w₁ h₁=>?_);replace hK:=hK.rely h₁;clear h₁
  have hc3:=hK.cell h3';have hz3:w₁.frozen? ⟨tb,3,none⟩=false:=(zbB _ _ _ (by rw [hK.heap])).trans hz'
  refine goes_oper_k rfl rfl (by decide) (fun K hK'=>?_)
  go_simp
  refine hK' _ _ ⟨hK.set_do (.inr ht) (fun e he=>(by have hm:=mem_listed he;simp [go_sem,zbW,storedEv,hc3,hz3] at hm;subst hm;exact zfZ ht.2 (by obtain⟨_,_,_,hb,_⟩:=zaK hc3;exact zab hb))),?_⟩
  clear hK' K hc3 hz3;replace hK:=hK.set (a:=⟨tb,3,none⟩) (v:=.pointer (some ⟨w0.heap.size,0,none⟩));(refine Conc.Goes.step rfl (fun w₁ h₁=>?_);replace hK:=hK.rely h₁;clear h₁;rw [stepG_region_end];simp only [goes_go];refine⟨DO.none _,?_⟩);(refine Conc.Goes.step rfl (fun w₁ h₁=>?_);replace hK:=hK.rely h₁;clear h₁;rw [stepG_inBlock];simp only [goes_go];refine⟨DO.none _,?_⟩);(refine Conc.Goes.step rfl (fun w₁ h₁=>?_);replace hK:=hK.rely h₁;clear h₁;rw [stepG_end];simp only [goes_go];refine⟨DO.none _,?_⟩);refine Conc.Goes.step rfl (fun w₁ h₁=>?_);replace hK:=hK.rely h₁;clear h₁;rw [stepG_leave rfl rfl Try.func31 (results_none Try.results31 _ _ _) (events_results_none Try.results31 _ _)];simp only [goes_go];refine⟨DO.none _,?_⟩;exact Conc.Goes.stop (fun w₁ h₁=>⟨rfl,hK.rely h₁⟩)
end
theorem zbK (P:Program) (w:World) (es:Array Event) (a:Addr) (m:Mode) (x:Bool):(store a (.bool x) m).events P w es=storedEv P w es a (.bool x) m:=events_store P w es a _ m rfl
section
variable {OB WB:Nat->Prop} {Inb:Nat->Option Seat}
set_option maxRecDepth 100000 in
theorem zpU {n0:Nat} {w0 w:World} {tb wb dn ak:Nat} (hK:KA OB WB Inb n0 w0 w) (ht:(∀ i s,Inb i=some s->¬ s.has tb)/\¬ WB tb) {z4:Value} (h4:w0.cell? ⟨tb,4,none⟩=some z4) (hz:w0.frozen? ⟨tb,4,none⟩=false) (c0:Frame) (cs:List Frame) :
    Conc.Goes Try.prog true (Ro OB 0) (DO OB WB Inb 0) (fun g w'=>g=Go.Conc.G (c0.finish (.tuple #[])) cs/\KA OB WB Inb n0 (w0.setCell ⟨tb,4,none⟩ (.bool false)) w') 60 (zfR tb wb dn ak (.tuple #[.int .i64 1,.bool true,accZ,.nilIface]) (c0::cs)) w:=by
  simp only [zfR,zeS,ze7,zhj,cOps,cL,cR,Try.f31,Option.getD_some];(refine Conc.Goes.step rfl (fun w₁ h₁=>?_);replace hK:=hK.rely h₁;clear h₁;refine goes_oper_k rfl rfl (by decide) (fun K hK'=>?_);go_simp;refine hK' _ _ ⟨DO.quiet (fun e he=>(by have hm:=mem_listed he;simp [go_sem,Instr.makeInterface,Instr.makeFunc] at hm)),?_⟩;clear hK' K)
  (refine Conc.Goes.step rfl (fun w₁ h₁=>?_);replace hK:=hK.rely h₁;clear h₁;refine goes_oper_k rfl rfl (by decide) (fun K hK'=>?_);go_simp;refine hK' _ _ ⟨DO.quiet (fun e he=>(by have hm:=mem_listed he;simp [go_sem,Instr.makeInterface,Instr.makeFunc] at hm)),?_⟩;clear hK' K);(refine Conc.Goes.step rfl (fun w₁ h₁=>?_);replace hK:=hK.rely h₁;clear h₁;refine goes_oper_k rfl rfl (by decide) (fun K hK'=>?_);go_simp;refine hK' _ _ ⟨DO.quiet (fun e he=>(by have hm:=mem_listed he;simp [go_sem,Instr.makeInterface,Instr.makeFunc] at hm)),?_⟩;clear hK' K);(refine Conc.Goes.step rfl (fun w₁ h₁=>?_);replace hK:=hK.rely h₁;clear h₁;rw [stepG_region_end];simp only [goes_go];refine⟨DO.none _,?_⟩);(refine Conc.Goes.step rfl (fun w₁ h₁=>?_);replace hK:=hK.rely h₁;clear h₁;rw [stepG_block];simp only [goes_go];refine⟨DO.none _,?_⟩);(refine Conc.Goes.step rfl (fun w₁ h₁=>?_);replace hK:=hK.rely h₁;clear h₁;rw [stepG_cond (t:=false) rfl];simp only [goes_go,if_true,if_false,Bool.false_eq_true,↓reduceIte];refine⟨DO.none _,?_⟩);(refine Conc.Goes.step rfl (fun w₁ h₁=>?_);replace hK:=hK.rely h₁;clear h₁;rw [stepG_cond (t:=true) rfl];simp only [goes_go,if_true,if_false,Bool.false_eq_true,↓reduceIte];refine⟨DO.none _,?_⟩);(refine Conc.Goes.step rfl (fun w₁ h₁=>?_);replace hK:=hK.rely h₁;clear h₁;rw [stepG_seq];simp only [goes_go];refine⟨DO.none _,?_⟩);(refine Conc.Goes.step rfl (fun w₁ h₁=>?_);replace hK:=hK.rely h₁;clear h₁;rw [stepG_region];simp only [goes_go,List.size_toArray,List.length_cons,List.length_nil,Nat.reduceAdd,Nat.zero_add,List.range,List.range.loop];refine⟨DO.none _,?_⟩);(refine Conc.Goes.step rfl (fun w₁ h₁=>?_);replace hK:=hK.rely h₁;clear h₁;refine goes_oper_k rfl rfl (by decide) (fun K hK'=>?_);go_simp;refine hK' _ _ ⟨DO.quiet (fun e he=>(by have hm:=mem_listed he;simp [go_sem,Instr.makeInterface,Instr.makeFunc] at hm)),?_⟩;clear hK' K);(refine Conc.Goes.step rfl (fun w₁ h₁=>?_);replace hK:=hK.rely h₁;clear h₁;refine goes_oper_k rfl rfl (by decide) (fun K hK'=>?_);go_simp;refine hK' _ _ ⟨DO.quiet (fun e he=>(by have hm:=mem_listed he;simp [go_sem,Instr.makeInterface,Instr.makeFunc] at hm)),?_⟩;clear hK' K);(refine Conc.Goes.step rfl (fun w₁ h₁=>?_);replace hK:=hK.rely h₁;clear h₁;rw [stepG_region_end];simp only [goes_go];refine⟨DO.none _,?_⟩);(refine Conc.Goes.step rfl (fun w₁ h₁=>?_);replace hK:=hK.rely h₁;clear h₁;rw [stepG_seq];simp only [goes_go];refine⟨DO.none _,?_⟩);(refine Conc.Goes.step rfl (fun w₁ h₁=>?_);replace hK:=hK.rely h₁;clear h₁;rw [stepG_region];simp only [goes_go,List.size_toArray,List.length_cons,List.length_nil,Nat.reduceAdd,Nat.zero_add,List.range,List.range.loop];refine⟨DO.none _,?_⟩);(refine Conc.Goes.step rfl (fun w₁ h₁=>?_);replace hK:=hK.rely h₁;clear h₁;refine goes_oper_k rfl rfl (by decide) (fun K hK'=>?_);go_simp;refine hK' _ _ ⟨DO.quiet (fun e he=>(by have hm:=mem_listed he;simp [go_sem,Instr.makeInterface,Instr.makeFunc] at hm)),?_⟩;clear hK' K);(refine Conc.Goes.step rfl (fun w₁ h₁=>?_);replace hK:=hK.rely h₁;clear h₁;refine goes_oper_k rfl rfl (by decide) (fun K hK'=>?_);go_simp;refine hK' _ _ ⟨DO.quiet (fun e he=>(by have hm:=mem_listed he;simp [go_sem,Instr.makeInterface,Instr.makeFunc] at hm)),?_⟩;clear hK' K);(refine Conc.Goes.step rfl (fun w₁ h₁=>?_);replace hK:=hK.rely h₁;clear h₁;refine goes_oper_k rfl rfl (by decide) (fun K hK'=>?_);go_simp;refine hK' _ _ ⟨DO.quiet (fun e he=>(by have hm:=mem_listed he;simp [go_sem,Instr.makeInterface,Instr.makeFunc] at hm)),?_⟩;clear hK' K);refine Conc.Goes.step rfl (fun w₁ h₁=>?_);replace hK:=hK.rely h₁;clear h₁
  have hc3:=hK.cell h4;have hz3:w₁.frozen? ⟨tb,4,none⟩=false:=(zbB _ _ _ (by rw [hK.heap])).trans hz
  refine goes_oper_k rfl rfl (by decide) (fun K hK'=>?_)
  go_simp
  refine hK' _ _ ⟨hK.set_do (.inr ht) (fun e he=>(by have hm:=mem_listed he;simp [go_sem,zbK,storedEv,hc3,hz3] at hm;subst hm;exact zfZ ht.2 (by obtain⟨_,_,_,hb,_⟩:=zaK hc3;exact zab hb))),?_⟩
  clear hK' K hc3 hz3;replace hK:=hK.set (a:=⟨tb,4,none⟩) (v:=.bool false);(refine Conc.Goes.step rfl (fun w₁ h₁=>?_);replace hK:=hK.rely h₁;clear h₁;rw [stepG_region_end];simp only [goes_go];refine⟨DO.none _,?_⟩);(refine Conc.Goes.step rfl (fun w₁ h₁=>?_);replace hK:=hK.rely h₁;clear h₁;rw [stepG_seq];simp only [goes_go];refine⟨DO.none _,?_⟩);(refine Conc.Goes.step rfl (fun w₁ h₁=>?_);replace hK:=hK.rely h₁;clear h₁;rw [stepG_region];simp only [goes_go,List.size_toArray,List.length_cons,List.length_nil,Nat.reduceAdd,Nat.zero_add,List.range,List.range.loop];refine⟨DO.none _,?_⟩);(refine Conc.Goes.step rfl (fun w₁ h₁=>?_);replace hK:=hK.rely h₁;clear h₁;refine goes_oper_k rfl rfl (by decide) (fun K hK'=>?_);go_simp;refine hK' _ _ ⟨DO.quiet (fun e he=>(by have hm:=mem_listed he;simp [go_sem,Instr.makeInterface,Instr.makeFunc] at hm)),?_⟩;clear hK' K)
  refine Conc.Goes.step rfl (fun w₁ h₁=>?_);replace hK:=hK.rely h₁;clear h₁;refine goes_oper_k rfl rfl (by decide) (fun K hK'=>?_)
  go_simp
  refine hK' _ _ ⟨DO.quiet (fun e he=>(by rw [zhy (u:=.nilIface) (v:=.nilIface) rfl rfl rfl (zbC _) (zbC _) rfl] at he;simp at he)),?_⟩
  clear hK' K;(refine Conc.Goes.step rfl (fun w₁ h₁=>?_);replace hK:=hK.rely h₁;clear h₁;rw [stepG_region_end];simp only [goes_go];refine⟨DO.none _,?_⟩);(refine Conc.Goes.step rfl (fun w₁ h₁=>?_);replace hK:=hK.rely h₁;clear h₁;rw [stepG_cond (t:=false) rfl];simp only [goes_go,if_true,if_false,Bool.false_eq_true,↓reduceIte];refine⟨DO.none _,?_⟩);(refine Conc.Goes.step rfl (fun w₁ h₁=>?_);replace hK:=hK.rely h₁;clear h₁;rw [stepG_skip];simp only [goes_go];refine⟨DO.none _,?_⟩);(refine Conc.Goes.step rfl (fun w₁ h₁=>?_);replace hK:=hK.rely h₁;clear h₁;rw [stepG_inBlock];simp only [goes_go];refine⟨DO.none _,?_⟩);(refine Conc.Goes.step rfl (fun w₁ h₁=>?_);replace hK:=hK.rely h₁;clear h₁;rw [stepG_end];simp only [goes_go];refine⟨DO.none _,?_⟩);refine Conc.Goes.step rfl (fun w₁ h₁=>?_);replace hK:=hK.rely h₁;clear h₁;rw [stepG_leave rfl rfl Try.func31 (results_none Try.results31 _ _ _) (events_results_none Try.results31 _ _)];simp only [goes_go];refine⟨DO.none _,?_⟩;exact Conc.Goes.stop (fun w₁ h₁=>⟨rfl,hK.rely h₁⟩)
theorem zmL (tb wb gr:Nat) (pb:Addr) (v:Value):(zc7 tb wb gr pb v [1]).finish (.tuple #[])=(base 11).at ⟨(zoM tb wb gr pb v (pt tb)).set 23 (.tuple #[]),[]⟩ [.inRegion zdY [],.code zg0]:=by
  simp only [zc7,Frame.finish_at,zdY,zg0,zeB,zc6,cOps,cL,cR,Try.f11,Option.getD_some];rfl
set_option maxRecDepth 100000 in
theorem znp {n0:Nat} {w0 w:World} {tb wb gr:Nat} {pb:Addr} {v:Value} (hK:KA OB WB Inb n0 w0 w) (c0:Frame) (cs:List Frame) :
    Conc.Goes Try.prog true (Ro OB 0) (DO OB WB Inb 0) (fun g w'=>g=Go.Conc.G (c0.finish (.bool true)) cs/\KA OB WB Inb n0 w0 w') 20 (Go.Conc.G ((zc7 tb wb gr pb v [1]).finish (.tuple #[])) (c0::cs)) w:=by
  rw [zmL];simp only [zdY,zg0,zeB,zc6,cOps,cL,cR,Try.f11,Option.getD_some];(refine Conc.Goes.step rfl (fun w₁ h₁=>?_);replace hK:=hK.rely h₁;clear h₁;rw [stepG_region_end];simp only [goes_go];refine⟨DO.none _,?_⟩);(refine Conc.Goes.step rfl (fun w₁ h₁=>?_);replace hK:=hK.rely h₁;clear h₁;rw [stepG_seq];simp only [goes_go];refine⟨DO.none _,?_⟩);(refine Conc.Goes.step rfl (fun w₁ h₁=>?_);replace hK:=hK.rely h₁;clear h₁;rw [stepG_region];simp only [goes_go,List.size_toArray,List.length_cons,List.length_nil,Nat.reduceAdd,Nat.zero_add,List.range,List.range.loop];refine⟨DO.none _,?_⟩);(refine Conc.Goes.step rfl (fun w₁ h₁=>?_);replace hK:=hK.rely h₁;clear h₁;refine goes_oper_k rfl rfl (by decide) (fun K hK'=>?_);go_simp;refine hK' _ _ ⟨DO.quiet (fun e he=>(by have hm:=mem_listed he;simp [go_sem,Instr.makeInterface,Instr.makeFunc] at hm)),?_⟩;clear hK' K)
  (refine Conc.Goes.step rfl (fun w₁ h₁=>?_);replace hK:=hK.rely h₁;clear h₁;rw [stepG_region_end];simp only [goes_go];refine⟨DO.none _,?_⟩);(refine Conc.Goes.step rfl (fun w₁ h₁=>?_);replace hK:=hK.rely h₁;clear h₁;rw [stepG_ret'];simp only [goes_go];refine⟨DO.none _,?_⟩);refine Conc.Goes.step rfl (fun w₁ h₁=>?_);replace hK:=hK.rely h₁;clear h₁
  rw [stepG_leave rfl rfl Try.func11 (results_tmp Try.results11 _ _ _) (events_results_tmp Try.results11 _ _)];simp only [goes_go];refine⟨DO.none _,?_⟩;exact Conc.Goes.stop (fun w₁ h₁=>⟨rfl,hK.rely h₁⟩)
end
structure KeepC (S S':St):Prop where
  thr:∀ (k:Nat) a b c d e f,S'[k]?=some (Ob.thr a b c d e f)->∃ f',S[k]?=some (Ob.thr a b c d e f')
  thr':∀ (k:Nat) a b c d e f,S[k]?=some (Ob.thr a b c d e f)->∃ f',S'[k]?=some (Ob.thr a b c d e f')
  wp:∀ (k:Nat) a b c d e,S'[k]?=some (Ob.wp a b c d e)↔S[k]?=some (Ob.wp a b c d e)
  box:∀ (k:Nat) c,S[k]?=some (Ob.box c)->S'[k]?=some (Ob.box c)
theorem KeepC.refl (S:St):KeepC S S:=⟨fun _ _ _ _ _ _ f h=>⟨f,h⟩,fun _ _ _ _ _ _ f h=>⟨f,h⟩,fun _ _ _ _ _ _=>Iff.rfl,fun _ _ h=>h⟩
theorem KeepC.trans {A B C:St} (h:KeepC A B) (h':KeepC B C):KeepC A C :=
  ⟨fun k a b c d e f x=>by obtain⟨f',y⟩:=h'.thr _ _ _ _ _ _ _ x;exact h.thr _ _ _ _ _ _ _ y,fun k a b c d e f x=>by obtain⟨f',y⟩:=h.thr' _ _ _ _ _ _ _ x;exact h'.thr' _ _ _ _ _ _ _ y,fun k a b c d e=>(h'.wp k a b c d e).trans (h.wp k a b c d e),fun k c x=>h'.box k c (h.box k c x)⟩
def zhB:Ob->Bool
  | .mem _ _|.port _ _ _|.acc _ _ _ _=>true
  | _=>false
theorem KeepC.set {S:St} {k:Nat} {o o':Ob} (h:S[k]?=some o) (ho:zhB o=true) (ho':zhB o'=true):KeepC S (S.set k o'):=by
  have hk:=zaL h;have e:∀ i,(S.set k o')[i]?=if k=i then some o' else S[i]?:=fun i=>by
    rw [List.getElem?_set];split
    . rename_i e;subst e;simp [hk]
    . rfl
  refine⟨fun i a b c d x f z=>?_,fun i a b c d x f z=>?_,fun i a b c d x=>?_,fun i c z=>?_⟩
  . rw [e] at z;split at z
    . cases z;cases ho'
    . exact⟨f,z⟩
  . rw [e];split
    . rename_i w;subst w;rw [h] at z;cases z;cases ho
    . exact⟨f,z⟩
  . rw [e];split
    . rename_i w;subst w;rw [h];constructor<;>intro z<;>cases z
      . cases ho'
      . cases ho
    . exact Iff.rfl
  . rw [e];split
    . rename_i w;subst w;rw [h] at z;cases z;cases ho
    . exact z
theorem KeepC.push {S:St} {o:Ob} (ho:zhB o=true):KeepC S (S++[o]):=by
  have e:∀ i,(S++[o])[i]?=if i<S.length then S[i]? else if i=S.length then some o else none:=fun i=>by
    rw [List.getElem?_append];split
    . rfl
    . split
      . rename_i e;subst e;simp
      . rw [List.getElem?_eq_none];simp;omega
  refine⟨fun i a b c d x f z=>?_,fun i a b c d x f z=>?_,fun i a b c d x=>?_,fun i c z=>?_⟩
  . rw [e] at z;split at z
    . exact⟨f,z⟩
    . split at z
      . cases z;cases ho
      . cases z
  . rw [e,if_pos (zaL z)];exact⟨f,z⟩
  . rw [e];split
    . exact Iff.rfl
    . rename_i hn;split
      . rw [List.getElem?_eq_none (by omega)];constructor<;>intro z<;>cases z
        cases ho
      . rw [List.getElem?_eq_none (by omega)]
  . rw [e,if_pos (zaL z)];exact z
theorem KeepC.pend {S:St} {k:Nat} {a b c d e f} (h:S[k]?=some (Ob.thr a b c d e f)) (f':Option Nat):KeepC S (S.set k (.thr a b c d e f')):=by
  have hk:=zaL h;have e:∀ i,(S.set k (.thr a b c d e f'))[i]?=if k=i then some (.thr a b c d e f') else S[i]?:=fun i=>by
    rw [List.getElem?_set];split
    . rename_i e;subst e;simp [hk]
    . rfl
  refine⟨fun i a b c d x f z=>?_,fun i a b c d x f z=>?_,fun i a b c d x=>?_,fun i c z=>?_⟩
  . rw [e] at z;split at z
    . rename_i w;subst w;cases z;exact⟨_,h⟩
    . exact⟨f,z⟩
  . rw [e];split
    . rename_i w;subst w;rw [h] at z;cases z;exact⟨_,rfl⟩
    . exact⟨f,z⟩
  . rw [e];split
    . rename_i w;subst w;rw [h];constructor<;>intro z<;>cases z
    . exact Iff.rfl
  . rw [e];split
    . rename_i w;subst w;rw [h] at z;cases z
    . exact z
section
variable {p:Par} {Su:SuT} {S S':St} {F:Emb} {N C:Nat} {Inb:Nat->Option Seat} {gs:Array Goroutine} {w:World} {T:Trace}
theorem KeepC.ch (h:KeepC S S') {k s c:Nat} (z:ChS S' k s c):ChS S k s c:=by
  cases z with
  | quit z=>obtain⟨_,z⟩:=h.thr _ _ _ _ _ _ _ z;exact .quit z
  | done z=>obtain⟨_,z⟩:=h.thr _ _ _ _ _ _ _ z;exact .done z
  | ask z=>exact .ask ((h.wp _ _ _ _ _ _).1 z)
  | grant z=>exact .grant ((h.wp _ _ _ _ _ _).1 z)
theorem Com.keep (k:KeepC S S') (hC:S'.length<=C) (H:Com p Su S F N C Inb gs w T):Com p Su S' F N C Inb gs w T:=by
  have t:=H.tab;refine⟨H.ring,⟨fun b=>?_,fun b=>?_,fun a s c a' s' h1 h2=>t.dist _ _ _ _ _ (k.ch h1) (k.ch h2),fun a s c h=>t.far _ _ _ (k.ch h),t.olow,fun i a b c d e h=>?_,fun i a b c d e h=>?_⟩,H.main,fun i se hi=>?_,fun i a b c d e f g h=>?_,H.n0,hC⟩
  . rw [t.obs b];constructor
    . rintro ⟨i,a1,a2,a3,a4,a5,a6,a7,a8⟩;obtain⟨f,z⟩:=k.thr' _ _ _ _ _ _ _ a7;exact⟨i,a1,a2,a3,a4,a5,f,z,a8⟩
    . rintro ⟨i,a1,a2,a3,a4,a5,a6,a7,a8⟩;obtain⟨f,z⟩:=k.thr _ _ _ _ _ _ _ a7;exact⟨i,a1,a2,a3,a4,a5,f,z,a8⟩
  . rw [t.wbs b];constructor
    . rintro ⟨i,a1,a2,a3,a4,a5,a7,a8⟩;exact⟨i,a1,a2,a3,a4,a5,(k.wp _ _ _ _ _ _).2 a7,a8⟩
    . rintro ⟨i,a1,a2,a3,a4,a5,a7,a8⟩;exact⟨i,a1,a2,a3,a4,a5,(k.wp _ _ _ _ _ _).1 a7,a8⟩
  . obtain⟨_,z⟩:=k.thr _ _ _ _ _ _ _ h;exact t.quit _ _ _ _ _ _ z
  . obtain⟨_,z⟩:=k.thr _ _ _ _ _ _ _ h;obtain⟨h1,hp,gid,dn,ws,st,ak,gr,h2,h3,h4,h5,h6,h7,h8,h9⟩:=t.busy _ _ _ _ _ _ z;exact⟨h1,hp,gid,dn,ws,st,ak,gr,h2,(k.wp _ _ _ _ _ _).2 h3,h4,h5,h6,h7,h8,k.box _ _ h9⟩
  . obtain⟨h1,h2,h3⟩:=H.seats i se hi;refine⟨h1,h2,fun h0=>?_⟩;obtain⟨j,a1,a2,a3,a4,a5,a6,a7,a8⟩:=h3 h0;obtain⟨f,z⟩:=k.thr' _ _ _ _ _ _ _ a8;exact⟨j,a1,a2,a3,a4,a5,f,a7,z⟩
  . obtain⟨_,z⟩:=k.thr _ _ _ _ _ _ _ h;obtain⟨h1,h2⟩:=H.waits _ _ _ _ _ _ _ _ z;refine⟨h1,fun hne=>?_⟩;obtain⟨ws,st,ak,gr,ab,x,y,cs,h3,h4,h5⟩:=h2 hne;exact⟨ws,st,ak,gr,ab,x,y,cs,(k.wp _ _ _ _ _ _).2 h3,h4,h5⟩
theorem Com.su {Su':SuT} (H:Com p Su S F N C Inb gs w T) (h:∀ (k:Nat) self quit closed hp gid dn pend ob g,S[k]?=some (Ob.thr self quit closed true (some (hp,gid,dn)) pend)->p.run≠some k->Su F N C k hp ob g->Su' F N C k hp ob g):Com p Su' S F N C Inb gs w T:=by
  refine⟨H.ring,H.tab,H.main,H.seats,fun i a b c d e f g z=>?_,H.n0,H.c0⟩;obtain⟨h1,h2⟩:=H.waits i a b c d e f g z;refine⟨h1,fun hne=>?_⟩;obtain⟨ws,st,ak,gr,ab,x,y,cs,h3,h4,h5⟩:=h2 hne;exact⟨ws,st,ak,gr,ab,x,y,cs,h3,h4,h _ _ _ _ _ _ _ _ _ _ z hne h5⟩
end
section
variable (hok:∀ mn OB WB,zau mn OB WB)
variable {Γ:Type} (Pr:Proto Γ)
def ClM (n00:Nat) (w00:World) (_:Unit) (_:Γ × St) (p:Par):Prop:=p.h=0/\p.run=none/\p.seat0=none/\(∀ x,¬ p.PX x)/\p.n0=n00/\p.w0=w00
def SuM (_:Unit) (γ:Γ):SuT:=fun F1 N1 C1 i hp ob g=>∃ (q:Pr.Ph) (F0:Emb) (n0 c0 n:Nat),Pr.ph γ i=some q/\Same (Kn n0 c0) F0 F1/\n0<=N1/\c0<=C1/\Pr.fuel γ<=n/\BSusp hok Pr F0 n0 c0 n i hp ob q g
theorem SuM.mono (u:Unit) (γ:Γ):zcu (SuM hok Pr u γ):=by
  rintro F N C F' N' C' k hp ob g ⟨q,F0,n0,c0,n,h1,h2,h3,h4,h5,h6⟩ hF hN hC;exact⟨q,F0,n0,c0,n,h1,h2.trans (hF.mono fun x hx=>hx.mono h3 h4),by omega,by omega,h5,h6⟩
variable {Pr}
theorem SuM.step {u:Unit} {γ γ':Γ} {k:Nat} (hph:∀ i,i≠k->Pr.ph γ' i=Pr.ph γ i) (hf:Pr.fuel γ'<=Pr.fuel γ) {F:Emb} {N C i hp:Nat} {ob:Ob} {g:Goroutine} (hi:i≠k) (h:SuM hok Pr u γ F N C i hp ob g):SuM hok Pr u γ' F N C i hp ob g:=by
  obtain⟨q,F0,n0,c0,n,h1,h2,h3,h4,h5,h6⟩:=h;exact⟨q,F0,n0,c0,n,by rw [hph i hi];exact h1,h2,h3,h4,by omega,h6⟩
end
section
variable (hok:∀ mn OB WB,zau mn OB WB)
def XM (hok:∀ mn OB WB,zau mn OB WB) (OB WB:Nat->Prop):Face Try.prog St:=XF true OB WB (hok _ _ _)
theorem zdh {p:Par} (h0:p.h=0):p.X hok=XM hok p.OB p.WB:=by
  have e:p.mn=true:=by simp [Par.mn,h0]
  have h:∀ (m:Bool) (hm:zau m p.OB p.WB),m=true->XF m p.OB p.WB hm=XM hok p.OB p.WB:=by
    rintro _ _ rfl;rfl
  exact h _ _ e
variable {OB WB:Nat->Prop} {F:Emb} {hs hs' hs2:AHeap} {S:St} {w w':World}
theorem zbF {k:Nat} {ob:Ob} {b:Nat} (h:b∈zay false F k ob):b∈zay true F k ob:=by
  cases ob<;>first|exact h|simp [zay] at h
theorem zcN {k:Nat} {ob:Ob} {b:Nat} (hn:∀ a b c d e f,ob≠.thr a b c d e f) (h:b∈zay true F k ob):b∈zay false F k ob:=by
  cases ob<;>first|exact h|exact absurd rfl (hn _ _ _ _ _ _)
theorem zmO {k:Nat} {ob:Ob} (h:obAt true OB WB F S w k ob):obAt false OB WB F S w k ob:=by
  cases ob with
  | thr=>intro z;cases z
  | _=>exact h
theorem znV {k:Nat} {ob:Ob} (hn:∀ a b c d e f,ob≠.thr a b c d e f) (h:obAt false OB WB F S w k ob):obAt true OB WB F S w k ob:=by
  cases ob with
  | thr=>exact absurd rfl (hn _ _ _ _ _ _)
  | _=>exact h
structure LendH (hs hs':AHeap):Prop where
  sub:∀ n b,hs'.get n=some b->hs.get n=some b
  next:hs'.next=hs.next
  mix:∀ n b m c,hs'.get n=some b->hs.get m=some c->hs'.get m=none->b.ro=false\/c.ro=false
def zmS (F:Emb) (hs hs':AHeap) (x:Nat):Prop:=∃ n c,hs.get n=some c/\hs'.get n=none/\x=F.blk n
theorem zqi (R:Rep true OB WB F S w):Rep false OB WB F S w :=
  ⟨R.base,fun k ob hk=>zmO (R.at' k ob hk),fun k k' ob ob' hne hk hk' b hb hb'=>R.apart k k' ob ob' hne hk hk' b (zbF hb) (zbF hb'),fun k ob hk b hb=>R.waits k ob hk b (zbF hb),R.wlow⟩
theorem zgk (H:RInv (XM hok OB WB) F (.run [] [] hs S) w) (hl:LendH hs hs'):RInv (XB hok OB WB) F (.run [] [] hs' S) w:=by
  obtain⟨I,hV⟩:=H;have I:AInv (XM hok OB WB) F w (fun _=>True) (Kn hs.next S.length) (fun v=>v∈([]:List Value)) hs S w:=I;have R:Rep true OB WB F S w:=I.rep;have hV:hs.next<=VB:=hV;refine⟨?_,by show hs'.next<=VB;rw [hl.next];exact hV⟩
  show AInv (XB hok OB WB) F w (fun _=>True) (Kn hs'.next S.length) (fun v=>v∈([]:List Value)) hs' S w;rw [hl.next];exact⟨I.holds.sub hl.sub,zqi R,fun v hv=>(by cases hv),fun n b hb=>I.hst n b (hl.sub n b hb),fun n b hb=>I.hk n b (hl.sub n b hb),I.hand,I.klim,Kept.refl _ _,fun _ _ _ _ _=>trivial,fun _ _ _=>trivial,fun n b hb hf=>I.sep n b (hl.sub n b hb) (by
    obtain⟨k,ob,hk,hx⟩:=hf;exact⟨k,ob,hk,zbF hx⟩)⟩
theorem zke (H:RInv (XM hok OB WB) F (.run [] [] hs S) w) (hl:LendH hs hs') {n:Nat} (t:Tab OB WB S F n w) {x:Nat} (hx:OB x):¬ Vis (XB hok OB WB) F (.run [] [] hs' S) x:=by
  obtain⟨I,_⟩:=H;have R:Rep true OB WB F S w:=I.rep;obtain⟨k,a1,a2,a3,a4,a5,a6,a7,rfl⟩:=(t.obs x).1 hx;rintro (⟨m,r,h1,h2⟩|⟨k',ob,h1,h2⟩)
  . refine I.sep m r (hl.sub m r h1) ?_;rw [h2];exact⟨k,_,a7,by simp [zay]⟩
  . by_cases e:k'=k
    . subst e;have h1:S[k']?=some ob:=h1;rw [a7] at h1;cases h1;simp [zay] at h2
    . exact R.apart k' k _ _ e h1 a7 _ (zbF h2) (by simp [zay])
theorem zfg (H:RInv (XM hok OB WB) F (.run [] [] hs S) w) (hl:LendH hs hs') {n:Nat} (t:Tab OB WB S F n w) {x:Nat} (hx:zmS F hs hs' x):x<w.heap.size/\¬ Vis (XB hok OB WB) F (.run [] [] hs' S) x/\¬ OB x/\∃ cc el fr,w.heap[x]?=some (.cells cc el fr):=by
  obtain⟨I,_⟩:=H;obtain⟨m,c,h1,h2,rfl⟩:=hx;obtain⟨pre,post,fr,h3,_⟩:=I.holds.row m c h1;refine⟨zab h3,?_,fun hO=>?_,_,_,_,h3⟩
  . rintro (⟨m',r,h4,h5⟩|⟨k',ob,h4,h5⟩)
    . have hne:m'≠m:=fun e=>by
        have h4:hs'.get m'=some r:=h4;rw [e,h2] at h4;cases h4
      rcases hl.mix m' r m c h4 h1 h2 with z|z
      . exact I.holds.apart m' m r c (hl.sub m' r h4) h1 hne z h5
      . exact I.holds.apart m m' c r h1 (hl.sub m' r h4) (Ne.symm hne) z h5.symm
    . exact I.sep m c h1 ⟨k',ob,h4,zbF h5⟩
  . obtain⟨k,a1,a2,a3,a4,a5,a6,a7,h6⟩:=(t.obs _).1 hO;exact I.sep m c h1 ⟨k,_,a7,by rw [h6];simp [zay]⟩
def uniH (hs hs' hs2:AHeap):AHeap:=⟨fun n=>match hs2.get n with|some b=>some b|none=>if (hs'.get n).isSome then none else hs.get n,hs2.next⟩
theorem zdu {n:Nat} {b:Blk} (h:(uniH hs hs' hs2).get n=some b):hs2.get n=some b\/(hs2.get n=none/\hs'.get n=none/\hs.get n=some b):=by
  simp only [uniH] at h;cases h2:hs2.get n with
  | some c=>rw [h2] at h;exact .inl h
  | none =>
    rw [h2] at h;simp only at h;split at h
    . cases h
    . rename_i h3;exact .inr ⟨rfl,by simpa using h3,h⟩
theorem zoL {F0:Emb} {w0:World} {S0:St} (H0:RInv (XM hok OB WB) F0 (.run [] [] hs S0) w0) (hlen:S0.length=S.length) (hF:Same (Kn hs.next S0.length) F0 F) (hn:hs.next<=hs2.next)
    (hR:Rep true OB WB F S w) (H:RInv (XB hok OB WB) F (.run [] [] hs2 S) w) (ho:∀ x,OB x->¬ Vis (XB hok OB WB) F (.run [] [] hs2 S) x)
    (hp:∀ x,zmS F0 hs hs' x->x<w.heap.size/\¬ Vis (XB hok OB WB) F (.run [] [] hs2 S) x/\¬ OB x/\w.heap[x]?=w0.heap[x]?) (hob:∀ k a b c d e f,S[k]?=some (Ob.thr a b c d e f)->OB (F.blk (VB+k))):RInv (XM hok OB WB) F (.run [] [] (uniH hs hs' hs2) S) w:=by
  obtain⟨I0,_⟩:=H0;obtain⟨I,hV⟩:=H;have I0:AInv (XM hok OB WB) F0 w0 (fun _=>True) (Kn hs.next S0.length) (fun v=>v∈([]:List Value)) hs S0 w0:=I0;have I:AInv (XB hok OB WB) F w (fun _=>True) (Kn hs2.next S.length) (fun v=>v∈([]:List Value)) hs2 S w:=I;have hb:∀ n c,hs.get n=some c->F.blk n=F0.blk n:=fun n c hc=>((hF n (I0.hk n c hc).1).1).symm;have hpv:∀ n c,hs.get n=some c->hs'.get n=none->F.blk n<w.heap.size/\¬ Vis (XB hok OB WB) F (.run [] [] hs2 S) (F.blk n)/\¬ OB (F.blk n)/\w.heap[F.blk n]?=w0.heap[F.blk n]?:=fun n c h1 h2=>by
    rw [hb n c h1];exact hp _ ⟨n,c,h1,h2,rfl⟩
  have hKK:∀ n,Kn hs.next S0.length n->Kn hs2.next S.length n:=fun n h=>h.mono hn (by omega)
  have hH0:Holds F hs w0:=I0.holds.same (fun n c hc=>(I0.hk n c hc).1) I0.hst hF;refine⟨?_,hV⟩;show AInv (XM hok OB WB) F w (fun _=>True) (Kn hs2.next S.length) (fun v=>v∈([]:List Value)) (uniH hs hs' hs2) S w;refine⟨⟨fun n b h=>?_,fun n m b c h1 h2 hne hro e=>?_⟩,hR,fun v hv=>(by cases hv),fun n b h=>?_,fun n b h=>?_,I.hand,I.klim,Kept.refl _ _,fun _ _ _ _ _=>trivial,fun _ _ _=>trivial,fun n b h hf=>?_⟩
  . rcases zdu h with h|⟨_,h2,h⟩
    . exact I.holds.row n b h
    . obtain⟨pre,post,fr,h3,h4⟩:=hH0.row n b h;exact⟨pre,post,fr,(hpv n b h h2).2.2.2.trans h3,h4⟩
  . rcases zdu h1 with h1|⟨_,h3,h1⟩<;>rcases zdu h2 with h2|⟨_,h4,h2⟩
    . exact I.holds.apart n m b c h1 h2 hne hro e
    . exact (hpv m c h2 h4).2.1 (.inl ⟨n,b,h1,e⟩)
    . exact (hpv n b h1 h3).2.1 (.inl ⟨m,c,h2,e.symm⟩)
    . exact hH0.apart n m b c h1 h2 hne hro e
  . rcases zdu h with h|⟨_,_,h⟩
    . exact I.hst n b h
    . exact fun v hv=>(I0.hst n b h v hv).move hF hKK
  . rcases zdu h with h|⟨_,_,h⟩
    . exact I.hk n b h
    . exact⟨hKK n (I0.hk n b h).1,(I0.hk n b h).2⟩
  . obtain⟨k,ob,hk,hx⟩:=hf;by_cases ht:∃ a b c d e f,ob=.thr a b c d e f
    . obtain⟨a,b',c,d,e,f,rfl⟩:=ht;have hO:=hob _ _ _ _ _ _ _ hk;simp only [zay,if_true,List.mem_cons,List.not_mem_nil,or_false] at hx;rcases zdu h with h|⟨_,h2,h⟩
      . exact ho _ hO (.inl ⟨n,b,h,hx⟩)
      . exact (hpv n b h h2).2.2.1 (hx ▸ hO)
    . have hx':=zcN (fun a b c d e f z=>ht ⟨a,b,c,d,e,f,z⟩) hx;rcases zdu h with h|⟨_,h2,h⟩
      . exact I.sep n b h ⟨k,ob,hk,hx'⟩
      . exact (hpv n b h h2).2.1 (.inr ⟨k,ob,hk,hx'⟩)
end
section
variable (hok:∀ mn OB WB,zau mn OB WB)
variable {OB WB OB' WB':Nat->Prop} {F F':Emb} {hs:AHeap} {S:St} {w w':World}
theorem zrB {k:Nat} {a b c d e f a' b' c' d' e' f'} (hk:S[k]?=some (Ob.thr a b c d e f)) (he:∀ c,e'=some c->c.1<S.length) (hf:∀ p,f'=some p->p<S.length) (R:Rep true OB WB F S w)
    (hw:∀ x,fpS true F S x->x≠F.blk (VB+k)->w'.heap[x]?=w.heap[x]?) (hr:w'.heap[F.blk (VB+k)]?=some (.cells (zaO F a' b' c' d' e' f') 72 (0,0))) (hsz:w.heap.size<=w'.heap.size):Rep true OB WB F (S.set k (.thr a' b' c' d' e' f')) w'/\∀ x,fpS true F (S.set k (.thr a' b' c' d' e' f')) x->fpS true F S x:=by
  have hlen:(S.set k (Ob.thr a' b' c' d' e' f')).length=S.length:=by simp
  have hself:(S.set k (Ob.thr a' b' c' d' e' f'))[k]?=some (.thr a' b' c' d' e' f'):=List.getElem?_set_self (zaL hk);have hne:∀ i,i≠k->(S.set k (Ob.thr a' b' c' d' e' f'))[i]?=S[i]?:=fun i hi=>List.getElem?_set_ne (Ne.symm hi);have hblk:∀ (i:Nat) ob2,(S.set k (Ob.thr a' b' c' d' e' f'))[i]?=some ob2->∃ ob,S[i]?=some ob/\zay true F i ob2=zay true F i ob:=fun i ob2 hi=>by
    by_cases z:i=k
    . subst z;rw [hself] at hi;cases hi;exact⟨_,hk,rfl⟩
    . rw [hne i z] at hi;exact⟨_,hi,rfl⟩
  have hk0:=R.at' _ _ hk rfl;refine⟨⟨fun i ob2 hi hr=>?_,fun i ob2 hi=>?_,fun i i' ob ob' hne' hi hi' x hx hx'=>?_,fun i ob2 hi x hx hW=>?_,fun b hb=>Nat.lt_of_lt_of_le (R.wlow b hb) hsz⟩,fun x ⟨i,ob2,hi,hx⟩=>?_⟩
  . by_cases z:i=k
    . subst z;exact R.base i _ hk rfl
    . rw [hne i z] at hi;exact R.base i _ hi hr
  . by_cases z:i=k
    . subst z;rw [hself] at hi;cases hi;intro _;exact⟨hk0.1,fun c hc=>by rw [hlen];exact he c hc,fun p hp=>by rw [hlen];exact hf p hp,hr⟩
    . rw [hne i z] at hi;refine znT (S:=S) (fun m ws bs hm=>?_) hlen (zdj (R.at' i _ hi) fun x hx=>hw x ⟨i,_,hi,hx⟩ fun e=>R.apart i k _ _ z hi hk x hx (by rw [e];simp [zay]))
      rw [hne]
      . exact hm
      rintro rfl;rw [hk] at hm;cases hm
  . obtain⟨o1,g1,g2⟩:=hblk i ob hi;obtain⟨o2,g3,g4⟩:=hblk i' ob' hi';exact R.apart i i' o1 o2 hne' g1 g3 x (g2 ▸ hx) (g4 ▸ hx')
  . by_cases z:i=k
    . subst z;rw [hself] at hi;cases hi;have:=R.waits i _ hk x hx hW;obtain⟨_,_,_,_,_,h⟩:=this;cases h
    . rw [hne i z] at hi;exact R.waits i _ hi x hx hW
  . obtain⟨ob,h1,h2⟩:=hblk i ob2 hi;exact⟨i,ob,h1,h2 ▸ hx⟩
theorem ze9 {k:Nat} {a b c d e f a' b' c' d' e' f'} (hk:S[k]?=some (Ob.thr a b c d e f)) (he:∀ c,e'=some c->c.1<S.length) (hf:∀ p,f'=some p->p<S.length) (H:RInv (XM hok OB WB) F (.run [] [] hs S) w)
    (hw:∀ x,Vis (XM hok OB WB) F (.run [] [] hs S) x->x≠F.blk (VB+k)->w'.heap[x]?=w.heap[x]?) (hr:w'.heap[F.blk (VB+k)]?=some (.cells (zaO F a' b' c' d' e' f') 72 (0,0))) (hsz:w.heap.size<=w'.heap.size):RInv (XM hok OB WB) F (.run [] [] hs (S.set k (.thr a' b' c' d' e' f'))) w':=by
  obtain⟨I,hV⟩:=H;have I:AInv (XM hok OB WB) F w (fun _=>True) (Kn hs.next S.length) (fun v=>v∈([]:List Value)) hs S w:=I;obtain⟨h1,h2⟩:=zrB (w':=w') hk he hf I.rep (fun x hx hne=>hw x (.inr hx) hne) hr hsz;refine⟨?_,hV⟩;show AInv (XM hok OB WB) F w' (fun _=>True) (Kn hs.next (S.set k (Ob.thr a' b' c' d' e' f')).length) (fun v=>v∈([]:List Value)) hs (S.set k (.thr a' b' c' d' e' f')) w';rw [show (S.set k (Ob.thr a' b' c' d' e' f')).length=S.length by simp]
  refine⟨I.holds.kept fun n r hr=>hw _ (.inl ⟨n,r,hr,rfl⟩) fun z=>I.sep n r hr (by rw [z];exact⟨k,_,hk,by simp [zay]⟩),h1,fun v hv=>(by cases hv),I.hst,I.hk,?_,?_,Kept.refl _ _,fun _ _ _ _ _=>trivial,fun _ _ _=>trivial,fun n r hr hf=>I.sep n r hr (h2 _ hf)⟩
  . intro n hn1 hn2;refine I.hand n hn1 ?_;have hn2:n<VB+(S.set k (Ob.thr a' b' c' d' e' f')).length:=hn2;show n<VB+S.length;simpa using hn2
  . intro n hn;have:n<VB+S.length:=I.klim n hn;show n<VB+(S.set k (Ob.thr a' b' c' d' e' f')).length;simpa using this
def zrY:Ob->Bool
  | .thr _ _ _ _ _ _|.wp _ _ _ _ _|.acc _ _ _ _|.box _=>true
  | _=>false
theorem zlf {o:Ob} (h:zrY o=true) (k:Nat):zay true F k o=[F.blk (VB+k)]:=by
  cases o with
  | mem=>cases h
  | port=>cases h
  | thr=>simp [zay]
  | wp=>rfl
  | acc=>rfl
  | box=>rfl
theorem zgc {o:Ob} (ho:zrY o=true) (hO:∀ b,OB b->OB' b) (hW:∀ b,WB b->WB' b) (hF:Same (Kn hs.next S.length) F F') (hb:F'.base (VB+S.length)=0) (H:RInv (XM hok OB WB) F (.run [] [] hs S) w)
    (hnv:¬ Vis (XM hok OB WB) F (.run [] [] hs S) (F'.blk (VB+S.length))) (hWn:∀ b,WB' b->WB b\/(b=F'.blk (VB+S.length)/\∃ a s x y z,o=Ob.wp a s x y z)) (hw:∀ x,Vis (XM hok OB WB) F (.run [] [] hs S) x->w'.heap[x]?=w.heap[x]?)
    (hat:obAt true OB' WB' F' (S++[o]) w' S.length o) (hWnew:WB (F'.blk (VB+S.length))->∃ a s x y z,o=Ob.wp a s x y z) (hsz:w.heap.size<=w'.heap.size):RInv (XM hok OB' WB') F' (.run [] [] hs (S++[o])) w':=by
  obtain⟨I,hV⟩:=H;have I:AInv (XM hok OB WB) F w (fun _=>True) (Kn hs.next S.length) (fun v=>v∈([]:List Value)) hs S w:=I;have hF':Same (fun n=>VB<=n/\n<VB+S.length) F F':=hF.mono fun n hn=>.inr hn;obtain⟨R,hfp⟩:Rep true OB WB F' S w/\∀ b,fpS true F' S b->fpS true F S b:=Rep.same hF' I.rep;have hlen:(S++[o]).length=S.length+1:=by simp
  have hnew:(S++[o])[S.length]?=some o:=by simp
  have hold:∀ i,i<S.length->(S++[o])[i]?=S[i]?:=fun i hi=>List.getElem?_append_left hi;have hcase:∀ (i:Nat) ob,(S++[o])[i]?=some ob->S[i]?=some ob\/(i=S.length/\ob=o):=fun i ob hi=>by
    have:=zaL hi;rw [hlen] at this;by_cases z:i<S.length
    . rw [hold i z] at hi;exact .inl hi
    . have z:i=S.length:=by omega
      subst z;rw [hnew] at hi;exact .inr ⟨rfl,(Option.some.inj hi).symm⟩
  have hnf:¬ fpS true F' S (F'.blk (VB+S.length)):=fun z=>hnv (.inr (hfp _ z));have hw':∀ x,fpS true F' S x->w'.heap[x]?=w.heap[x]?:=fun x hx=>hw x (.inr (hfp x hx));have hbl:=zlf (F:=F') ho S.length;have hfp2:∀ x,fpS true F' (S++[o]) x->fpS true F S x\/x=F'.blk (VB+S.length):=fun x ⟨i,ob,hi,hx⟩=>by
    rcases hcase i ob hi with h|⟨rfl,rfl⟩
    . exact .inl (hfp x ⟨i,ob,h,hx⟩)
    . rw [hbl] at hx;exact .inr (by simpa using hx)
  have hH:Holds F' hs w':=(I.holds.same (fun n c hc=>(I.hk n c hc).1) I.hst hF).kept fun n r hr=>by
    rw [<-(hF n (I.hk n r hr).1).1];exact hw _ (.inl ⟨n,r,hr,rfl⟩)
  refine⟨?_,hV⟩;show AInv (XM hok OB' WB') F' w' (fun _=>True) (Kn hs.next (S++[o]).length) (fun v=>v∈([]:List Value)) hs (S++[o]) w';have hKK:∀ n,Kn hs.next S.length n->Kn hs.next (S++[o]).length n:=fun n h=>h.mono (Nat.le_refl _) (by omega)
  refine⟨hH,⟨fun i ob hi hr=>?_,fun i ob hi=>?_,fun i i' ob ob' hne hi hi' x hx hx'=>?_,fun i ob hi x hx hWx=>?_,fun b hb=>?_⟩,fun v hv=>(by cases hv),fun n c hc v hv=>(I.hst n c hc v hv).move hF hKK,fun n c hc=>⟨hKK n (I.hk n c hc).1,(I.hk n c hc).2⟩,fun n h1 h2=>.inr ⟨h1,h2⟩,fun n hn=>?_,Kept.refl _ _,fun _ _ _ _ _=>trivial,fun _ _ _=>trivial,fun n c hc hf=>?_⟩
  . rcases hcase i ob hi with h|⟨rfl,rfl⟩
    . exact R.base i ob h hr
    . exact hb
  . rcases hcase i ob hi with h|⟨rfl,rfl⟩
    . have h1:=zdj (R.at' i ob h) fun x hx=>hw' x ⟨i,ob,h,hx⟩;show obAt true OB' WB' F' (S++[o]) w' i ob;cases ob with
      | mem=>exact h1
      | port m me steps=>obtain⟨z1,ws,bs,z2⟩:=h1;exact⟨z1,ws,bs,by rw [hold m (zaL z2)];exact z2⟩
      | thr=>intro z;obtain⟨a1,a2,a3,a4⟩:=h1 z;exact⟨hO _ a1,fun c hc=>by rw [hlen];have:=a2 c hc;omega,fun c hc=>by rw [hlen];have:=a3 c hc;omega,a4⟩
      | wp=>obtain⟨z1,z2⟩:=h1;exact⟨hW _ z1,z2⟩
      | acc=>exact h1
      | box=>exact h1
    . exact hat
  . rcases hcase i ob hi with h|⟨rfl,rfl⟩<;>rcases hcase i' ob' hi' with h'|⟨rfl,rfl⟩
    . exact R.apart i i' ob ob' hne h h' x hx hx'
    . rw [hbl] at hx';have:x=F'.blk (VB+S.length):=by simpa using hx'
      subst this;exact hnf ⟨i,ob,h,hx⟩
    . rw [hbl] at hx;have:x=F'.blk (VB+S.length):=by simpa using hx
      subst this;exact hnf ⟨i',ob',h',hx'⟩
    . exact hne rfl
  . rcases hcase i ob hi with h|⟨rfl,rfl⟩
    . rcases hWn x hWx with z|⟨z,_⟩
      . exact R.waits i ob h x hx z
      . subst z;exact absurd ⟨i,ob,h,hx⟩ hnf
    . rcases hWn x hWx with z|⟨_,z⟩
      . rw [hbl] at hx;have:x=F'.blk (VB+S.length):=by simpa using hx
        subst this;exact hWnew z
      . exact z
  . rcases hWn b hb with z|⟨z,a,s,x,y,v,e⟩
    . exact Nat.lt_of_lt_of_le (R.wlow b z) hsz
    . subst e;obtain⟨_,_,_,h⟩:=hat;rw [z];exact zab h
  . rcases hn with hn|⟨_,hn⟩
    . have:=I.klim n (.inl hn);have this:n<VB+S.length:=this;show n<VB+(S++[o]).length;omega
    . exact hn
  . rcases hfp2 _ hf with z|z
    . exact I.sep n c hc (by rw [(hF n (I.hk n c hc).1).1];exact z)
    . exact hnv (.inl ⟨n,c,hc,(hF n (I.hk n c hc).1).1.trans z⟩)
end
end Go.Proofs.Ytgndgbnhkoppmaa
