/-
  A body's port: from where it is answered to its return.
  Condition: each call that is known does what is said of it (PrimOK).
-/
import Derived.Test.YtkjnamhgemidkaaUPm7
namespace Go.Proofs.Ytkjnamhgemidkaa
open Go Go.Conc
set_option linter.unusedSimpArgs false
set_option linter.unusedVariables false
open Go.ConcN (sumTo upd sumTo_upd upd_ne upd_same)
section
variable {p:Par} {Su:SuT} {S0:St} {F F' Ft:Emb} {c:Conf St} {Inb:Nat→Option Seat} {gs gs':Array Goroutine} {w w':World} {T T':Trace}
variable (hok:∀ mn OB WB,PrimOK mn OB WB)
set_option maxRecDepth 100000 in
theorem doOps2_dst:(doOps2[0]?).bind (·.dst)=some 29:=by
  simp only [doOps2,doC,cOps,cL,cR,Try.f137,Option.getD_some]
  rfl
theorem doD_res (wb:Nat) (ab:Nat × Nat) (ak qt gr:Nat) (x y v:Value) (cs:List Frame):commResult (seatD wb ab ak qt gr x y cs).cases (seatD wb ab ak qt gr x y cs).shape ((0:Nat):Int) v true=.tuple #[.int .i64 0,.bool true,v,.agg #[]]:=by
  simp [seatD,commResult,rcase,List.zipIdx_cons,goInt]
theorem ren_accV (F:Emb) (c:Nat) (n:Int) (A B:UInt64):ren F (accV c n A B)=accV c n A B:=by simp [accV]
set_option maxRecDepth 100000 in
theorem doG_served (wb:Nat) (ab:Nat × Nat) (ak qt gr c:Nat) (n:Int) (A B v:UInt64) (told:Option Addr) (cs:List Frame) :
    (doG wb ab ak qt gr (accV c n A B) (accV c n A B) cs).finishComm Try.prog (seatD wb ab ak qt gr (accV c n A B) (accV c n A B) cs).cases (seatD wb ab ak qt gr (accV c n A B) (accV c n A B) cs).shape 0 (.int .u64 (v.toNat:Int)) true =
      Go.Conc.G ((base 137).at (actF (embW wb told ab) (doL1' c n A B v ak gr qt)) [.inRegion doOps2 [1,2,3],.code doBlk1]) cs:=by
  have h2:=doD_res wb ab ak qt gr (accV c n A B) (accV c n A B) (.int .u64 (v.toNat:Int)) cs
  simp only [Goroutine.finishComm] at h2 ⊢
  rw [show (0:Int)=((0:Nat):Int) from rfl,h2]
  simp only [doG,Go.Conc.G,Frame.finish_at,doOps2_dst]
  congr 1
  simp [actF,Act.put,doL1',embW,adr,ren_accV,ren_chan,ren_undef]
set_option maxRecDepth 100000 in
theorem actF_doL2 (wb:Nat) (ab:Nat × Nat) (ak qt gr c steps:Nat) (n:Int) (A B v:UInt64) (told:Option Addr):actF (embW wb told ab) (doL2 c n A B v steps ak gr qt) =
    ⟨#[pt wb,accV c n A B,undef,pt ab.1 ab.2,.int .u64 0,.int .u64 (v.toNat:Int),pt wb,pt wb,pt wb 3,.chan (some ak),accV c n A B,pt wb,pt wb,pt wb 5,.chan (some qt),.tuple #[.int .i64 0,.bool false,.agg #[]],.int .i64 0,.bool true,.bool false,undef,undef,pt wb,pt wb,pt wb 4,.chan (some gr),pt wb,pt wb,pt wb 5,.chan (some qt),.tuple #[.int .i64 0,.bool true,.int .u64 (v.toNat:Int),.agg #[]],.int .i64 0,.bool true,.bool false,.int .u64 (v.toNat:Int),pt wb,pt wb,pt wb 1,.int .i64 (wr steps),.int .i64 (wr (steps+1)),pt wb,pt wb 1,undef,undef,undef],[]⟩:=by
  simp [actF,doL2,embW,adr,ren_accV,ren_chan,ren_undef]
set_option maxRecDepth 100000 in
theorem do_counts {OB WB:Nat→Prop} {h:Nat} {wb ak qt gr c steps:Nat} {ab:Nat × Nat} {n:Int} {A B v:UInt64} {told:Option Addr} {wself:Int} {tl:Value} (cs:List Frame) (w:World) (hW:WB wb) (hO:¬ OB wb) (hr:w.heap[wb]?=some (.cells (wpRow wself steps tl ak gr qt) 108 (0,0))) (hseat:∀ i s,Inb i=some s→¬ s.has wb) :
    Conc.Goes Try.prog (h==0) (Ro OB h) (DO OB WB Inb h) (fun g w'=>g=Go.Conc.G ((base 137).at (actF (embW wb told ab) (doL2 c n A B v steps ak gr qt)) [.inRegion doOps10 [],.code doR11,.inBlock 1]) cs∧(∀ x,x≠wb→¬ OB x→w'.heap[x]?=w.heap[x]?)∧w'.heap[wb]?=some (.cells (wpRow wself (steps+1) tl ak gr qt) 108 (0,0))∧w'.heap.size=w.heap.size) 1
      (Go.Conc.G ((base 137).at (actF (embW wb told ab) (doL2 c n A B v steps ak gr qt)) [.inRegion doOps10 [7],.code doR11,.inBlock 1]) cs) w:=by
  rw [actF_doL2]
  simp only [doOps10,doR11,doBlk1,cIn,cThen,doC,cOps,cL,cR,Try.f137,Option.getD_some]
  refine Conc.Goes.step rfl (fun w₁ h₁=>?_)
  have hr1:w₁.heap[wb]?=some (.cells (wpRow wself steps tl ak gr qt) 108 (0,0)):=(h₁.heap hO).trans hr
  have hv3:w₁.cell? ⟨wb,1,none⟩=some (.int .i64 (wr steps)):=by simp [World.cell?,hr1,wpRow]
  have hz:w₁.frozen? ⟨wb,1,none⟩=false:=by simp [World.frozen?,hr1]
  refine goes_oper_k rfl rfl (by decide) (fun K hK'=>?_)
  go_simp
  have hset:∀ x,(w₁.setCell ⟨wb,1,none⟩ (.int .i64 (wr (steps+1)))).heap[x]?=if x=wb then some (.cells (wpRow wself (steps+1) tl ak gr qt) 108 (0,0)) else w₁.heap[x]?:=fun x=>by
    rw [heap_setCell]
    by_cases e:wb=x
    · subst e;simp [hr1,wpRow]
    · rw [if_neg e,if_neg (fun z=>e z.symm)]
  refine hK' _ _ ⟨⟨fun i s x hi hs=>?_,fun a ha h3=>?_,fun h0 b hb=>?_,by simp [World.setCell],rfl,fun e he=>?_⟩,?_⟩
  · rw [hset,if_neg]
    rintro rfl
    exact hseat _ _ hi hs
  · obtain⟨ab',ao,asp⟩:=a
    simp only at h3
    by_cases e:ab'=wb
    · subst e
      unfold World.cell?
      simp only [hset,if_true,hr1]
      split
      · rfl
      · rcases ao with _|_|ao
        · omega
        · omega
        · simp [wpRow]
    · exact cell_at _ _ _ (by rw [hset,if_neg e])
  · rw [hset,if_neg (fun (e:b=wb)=>hO (e ▸ hb))]
  · have hm:=mem_listed he
    simp [go_sem,storedEv,hv3,hz] at hm
    subst hm
    refine .inr ⟨rfl,_,rfl,?_,fun _ z=>?_,fun z=>absurd z hO⟩
    · have:=block_low hr1
      simpa [World.setCell] using this
    · have h3:3≤1:=z.2
      omega
  · refine fun w2 hw2=>⟨rfl,fun x hx hOx=>?_,?_,?_⟩
    · rw [hw2.heap hOx,hset,if_neg hx];exact h₁.heap hOx
    · rw [hw2.heap hO,hset,if_pos rfl]
    · rw [hw2.size,←h₁.size];simp [World.setCell]
def stB (N:Nat):Value→Bool
  | .pointer (some a)=>decide (a.block<N)
  | .chan _=>true
  | v=>plainB v
theorem stB_stab {N C:Nat} {v:Value} (h:stB N v=true):Stab (Kn N C) Ft v:=by
  unfold stB at h
  split at h
  · rename_i a
    obtain⟨b,o,sp⟩:=a
    exact stab_ptr (by simpa using h)
  · exact stab_chan
  · exact Stab.plain h
theorem stB_all {N C:Nat} {l:List Value} (h:l.all (stB N)=true):∀ v∈l,Stab (Kn N C) Ft v:=fun v hv=>stB_stab (List.all_eq_true.1 h v hv)
theorem wp_cells {self:Int} {steps ak gr qt:Nat} {told:Option Addr} {l:List (Option Blk)} (hl:∀ (i:Nat) (b:Option Blk),l[i]?=some b→b=none) {N:Nat} (hN:1<N):∀ n b,(heapL (some (wpB self steps (toldA told) ak gr qt)::l)).get n=some b→(b.ro=true∧n=0)∧∀ v∈b.cells,Stab (Kn N 0) Ft v:=fun n b hb=>by
  rw [heapL_get] at hb
  cases n with
  | zero =>
    simp at hb
    subst hb
    refine⟨⟨rfl,rfl⟩,fun v hv=>?_⟩
    simp only [List.mem_cons,List.not_mem_nil,or_false] at hv
    rcases hv with rfl|rfl|rfl|rfl|rfl|rfl
    · exact Stab.plain rfl
    · exact Stab.plain rfl
    · exact stab_toldA hN
    · exact stab_chan
    · exact stab_chan
    · exact stab_chan
  | succ n =>
    simp only [List.getElem?_cons_succ] at hb
    cases hx:l[n]? with
    | none=>rw [hx] at hb;cases hb
    | some y=>rw [hx,hl n y hx] at hb;cases hb
theorem resume_tail (hSu:SuMono Su) (h0:p.h≠0) {S:St} {hs:AHeap} {hp:Nat} {wself:Int} {s ask grant quit:Nat} {k0 gid0 dn0:Nat} {self0:Int} {closed0:Bool} {pend0:Option Nat} (hrun:p.run=some k0) (hthr:S[k0]?=some (.thr self0 quit closed0 true (some (hp,gid0,dn0)) pend0)) (hS:S[hp]?=some (.wp wself s ask grant quit)) {cc:Nat} {ab:Nat × Nat} {n:Int} {A B v:UInt64} {c0:Frame} {cs0:List Frame} {sl:Option (Nat × Nat)} (H:Standing p hok Su S F (.run [] [] hs S) Inb gs w T)
    (hg:gs[p.h]?=some ((doG (F.blk (VB+hp)) ab ask quit grant (accV cc n A B) (accV cc n A B) (c0::cs0)).finishComm Try.prog (seatD (F.blk (VB+hp)) ab ask quit grant (accV cc n A B) (accV cc n A B) (c0::cs0)).cases (seatD (F.blk (VB+hp)) ab ask quit grant (accV cc n A B) (accV cc n A B) (c0::cs0)).shape 0 (.int .u64 (v.toNat:Int)) true)) :
    Reach Try.prog (crowd gs w sl) T fun m' T'=>∃ gs' w' sl',m'=crowd gs' w' sl'∧gs'[p.h]?=some (Go.Conc.G (c0.finish (.int .u64 (v.toNat:Int))) cs0)∧Standing p hok Su (cntS S hp wself (s+1) ask grant quit) F (.run [] [] hs (cntS S hp wself (s+1) ask grant quit)) Inb gs' w' T':=by
  obtain⟨hW,told,hrow⟩:=H.wp hok hS
  have hap:¬ p.OB (F.blk (VB+hp)):=fun z=>by obtain⟨_,_,_,R,_⟩:=H.com.ring;exact R.apart _ z hW
  generalize hwb:F.blk (VB+hp)=wb at *
  rw [doG_served wb ab ask quit grant cc n A B v told] at hg
  have hn2:∀ (i:Nat) (b:Option Blk),([none,none]:List (Option Blk))[i]?=some b→b=none:=fun i b hb=>by
    match i,hb with
    | 0,hb=>simpa using hb.symm
    | 1,hb=>simpa using hb.symm
    | i+2,hb=>simp at hb
  have hVB:(3:Nat)≤VB:=by unfold VB;omega
  refine (tiny_ro hok hSu (Ft:=embW wb told ab) (do2_goes wself s (toldA told) ask grant quit cc n A B v) (b:=base 137) Try.func137 rfl H hg rfl (wp_holds [none,none] hn2 hrow) (stB_all (by simp [stB,plainB,accV,heapL_next,undef])) (fun n b hb=>(wp_cells hn2 (by show 1<3;omega) n b hb).2) (heapL_low _) hVB (fun n r hr=>(wp_cells (Ft:=embW wb told ab) hn2 (N:=3) (by omega) n r hr).1.1) (fun n r hr _=>by
    obtain⟨⟨_,rfl⟩,_⟩:=wp_cells (Ft:=embW wb told ab) hn2 (N:=3) (by omega) n r hr
    exact hap)).bind fun m1 T1=>?_
  rintro ⟨gs1,g1,w1,sl1,c1,Ft1,rfl,k1,rfl,k2,H1,k3,_⟩
  have hg1:g1=Go.Conc.G ((base 137).at (actF (embW wb told ab) (doL2 cc n A B v s ask grant quit)) [.inRegion doOps10 [7],.code doR11,.inBlock 1]) (c0::cs0):=by
    rw [show g1=_ from k2,actF_congr (K:=Kn 3 0) (F:=embW wb told ab) (stB_all (by simp [stB,plainB,accV,undef])) k3]
  subst hg1
  -- the count
  obtain⟨_,told1,hrow1⟩:=H1.wp hok hS
  rw [hwb] at hrow1
  obtain⟨B1,Mem1,q1,R1,hM01,hMh1⟩:=H1.com.ring
  have hseat:∀ i se,Inb i=some se→¬ se.has wb:=fun i se hi hs=>by
    obtain⟨cap,k,hx⟩:=R1.chans i se wb (fun z=>z) hi hs
    rw [hrow1] at hx;cases hx
  refine (hold_goes (sl:=sl1) 1 k1 (do_counts (h:=p.h) (Inb:=Inb) (told:=told) (c0::cs0) w1 hW hap hrow1 hseat) R1).bind fun m2 T2=>?_
  rintro ⟨gs2,g2,w2,sl2,q2,B2,rfl,j1,j2,⟨rfl,j3,j4,j5⟩,R2⟩
  have H2:Standing p hok Su (cntS S hp wself (s+1) ask grant quit) F (.run [] [] hs (cntS S hp wself (s+1) ask grant quit)) Inb gs2 w2 T2:=H1.count hok hrun hthr hSu h0 hS (by rw [hwb];exact j3) (by rw [hwb];exact j4) j1 j5 ⟨B2,Mem1,q2,R2,hM01,hMh1⟩
  -- to the return
  rw [show actF (embW wb told ab) (doL2 cc n A B v s ask grant quit)=actF (embW wb told1 ab) (doL2 cc n A B v s ask grant quit) by rw [actF_doL2,actF_doL2]] at j2
  refine (tiny_ro hok hSu (sl:=sl2) (Ft:=embW wb told1 ab) (do3_goes wself s (s+1) (toldA told1) ask grant quit cc n A B v) (b:=base 137) Try.func137 rfl H2 j2 rfl (wp_holds [none,none] hn2 j4) (stB_all (by simp [stB,plainB,accV,heapL_next,undef])) (fun n b hb=>(wp_cells hn2 (by show 1<3;omega) n b hb).2) (heapL_low _) hVB (fun n r hr=>(wp_cells (Ft:=embW wb told1 ab) hn2 (N:=3) (by omega) n r hr).1.1) (fun n r hr _=>by
    obtain⟨⟨_,rfl⟩,_⟩:=wp_cells (Ft:=embW wb told1 ab) hn2 (N:=3) (by omega) n r hr
    exact hap)).bind fun m3 T3=>?_
  rintro ⟨gs3,g3,w3,sl3,c3,Ft3,rfl,i1,⟨h3,rfl⟩,i2,H3,_⟩
  obtain⟨fr,rfl,_,_,hl⟩:=i2
  refine (stand_step hok hSu (sl:=sl3) (c':=.run [] [] hs (cntS S hp wself (s+1) ask grant quit)) H3 i1 rfl (hl c0 cs0 rfl) rfl rfl (fun v hv=>by cases hv)).bind fun m4 T4=>?_
  rintro ⟨gs4,w4,sl4,rfl,l1,_,H4⟩
  exact .here ⟨gs4,w4,sl4,rfl,by rw [ren_int] at l1;exact l1,H4⟩
end
theorem goes_post {P:Program} {main:Bool} {R:World→World→Prop} {D:World→World→Array Event→Prop} {S S':Goroutine→World→Prop} (hS:∀ g w,S g w→S' g w):∀ {n:Nat} {g:Goroutine} {w:World},Conc.Goes P main R D S n g w→Conc.Goes P main R D S' n g w
  | 0,_,_,h=>fun w1 h1=>hS _ _ (h w1 h1)
  | n+1,g,w,h=>by
    rcases h with h|⟨hs,h⟩
    · exact .inl fun w1 h1=>hS _ _ (h w1 h1)
    · refine .inr ⟨hs,fun w1 h1=>?_⟩
      have:=h w1 h1
      cases hgo:stepG P main g w1 with
      | go g' w' es =>
        rw [hgo,goes_go] at this
        rw [goes_go]
        exact⟨this.1,goes_post hS this.2⟩
      | _=>rw [hgo] at this;exact this.elim
set_option maxRecDepth 100000 in
theorem do_sel1 (wb:Nat) (ab:Nat × Nat) (ak qt:Nat) (x y:Value) (cs:List Frame) (main:Bool) (w:World) :
    stepG Try.prog main (Go.Conc.G ((base 137).at ⟨doT1 wb ab ak qt x y,[]⟩ [.inRegion doOps1 [0,1,2,3],.code doBlk0,.code doY]) cs) w =
      .comm (Go.Conc.G ((base 137).at ⟨doT1 wb ab ak qt x y,[]⟩ [.inRegion doOps1 [0,1,2,3],.code doBlk0,.code doY]) cs) #[scase ak y accZ,rcase qt (.agg #[])] true .select w:=by
  simp only [doOps1,doBlk0,doY,doC,cOps,cL,cR,Try.f137,Option.getD_some]
  rw [stepG_comm (w':=w) (cases:=#[scase ak y accZ,rcase qt (.agg #[])]) (blocking:=true) (shape:=.select) rfl rfl (by decide) (by simp [go_sem,execOp,rcase,scase,Act.eval]),listed_none (by simp [go_sem,execOp,Act.eval])]
set_option maxRecDepth 100000 in
theorem doOps1_dst:(doOps1[0]?).bind (·.dst)=some 15:=by
  simp only [doOps1,doC,cOps,cL,cR,Try.f137,Option.getD_some]
  rfl
theorem do_gave (wb:Nat) (ab:Nat × Nat) (ak qt:Nat) (x y:Value) (cs:List Frame) :
    (Go.Conc.G ((base 137).at ⟨doT1 wb ab ak qt x y,[]⟩ [.inRegion doOps1 [0,1,2,3],.code doBlk0,.code doY]) cs).finishComm Try.prog #[scase ak y accZ,rcase qt (.agg #[])] .select ((0:Nat):Int) undef false =
      Go.Conc.G ((base 137).at ⟨doT1' wb ab ak qt x y,[]⟩ [.inRegion doOps1 [1,2,3],.code doBlk0,.code doY]) cs:=by
  have h2:commResult #[scase ak y accZ,rcase qt (.agg #[])] .select ((0:Nat):Int) undef false=.tuple #[.int .i64 0,.bool false,.agg #[]]:=by
    simp [commResult,rcase,scase,List.zipIdx_cons,goInt]
  simp only [Goroutine.finishComm]
  rw [h2]
  simp only [Go.Conc.G,Frame.finish_at,doOps1_dst]
  congr 1
theorem seatD_wf (wb:Nat) (ab:Nat × Nat) (ak qt gr:Nat) (x y:Value) (cs:List Frame) (h:gr≠qt):(seatD wb ab ak qt gr x y cs).Wf:=by
  refine⟨fun cc h=>?_,fun k m c z z' h1 h2=>?_⟩
  · simp only [seatD,List.mem_toArray,List.mem_cons,List.not_mem_nil,or_false] at h
    rcases h with rfl|rfl
    · exact⟨_,_,rfl⟩
    · exact⟨_,_,rfl⟩
  · rcases k with _|_|k<;>rcases m with _|_|m<;>simp [seatD,rcase] at h1 h2 ⊢<;>omega
theorem seatD_has {wb:Nat} {ab:Nat × Nat} {ak qt gr:Nat} {x y:Value} {cs:List Frame} {c:Nat} (h:(seatD wb ab ak qt gr x y cs).has c):c=gr∨c=qt:=by
  obtain⟨k,z,hk⟩:=h
  rcases k with _|_|k<;>simp [seatD,rcase] at hk<;>omega
theorem seatG_has {tb wb dn ak:Nat} {cs:List Frame} {c:Nat} (h:(seatG tb wb dn ak cs).has c):c=ak∨c=dn:=by
  obtain⟨k,z,hk⟩:=h
  rcases k with _|_|k<;>simp [seatG,rcase] at hk<;>omega
section
variable {p:Par} {Su:SuT} {S0:St} {F F' Ft:Emb} {c:Conf St} {Inb:Nat→Option Seat} {gs gs':Array Goroutine} {w w':World} {T T':Trace}
variable (hok:∀ mn OB WB,PrimOK mn OB WB)
theorem X_body (h0:p.h≠0):p.X hok=XB hok p.OB p.WB:=by
  have e:p.mn=false:=by simp [Par.mn,h0]
  have h:∀ (m:Bool) (hm:PrimOK m p.OB p.WB),m=false→XF m p.OB p.WB hm=XB hok p.OB p.WB:=by
    rintro _ _ rfl;rfl
  exact h _ _ e
theorem Tab.dist' {OB WB:Nat→Prop} {n:Nat} (t:Tab OB WB S0 F n w) {k s c k' s' c':Nat} (h1:ChS S0 k s c) (h2:ChS S0 k' s' c') (e:c=c'):k=k'∧s=s':=by
  subst e;exact t.dist _ _ _ _ _ h1 h2
theorem rinv_world {X:Face Try.prog St} (hs:w.heap.size≤w'.heap.size) (hv:∀ x,Vis X F c x→w'.heap[x]?=w.heap[x]?) (H:RInv X F c w):RInv X F c w':=by
  obtain⟨I,hl⟩:=H
  exact⟨⟨I.holds.kept fun n r hr=>hv _ (.inl ⟨n,r,hr,rfl⟩),X.rep_kept _ _ _ _ I.rep hs fun b hb=>hv b (.inr hb),I.vst,I.hst,I.hk,I.hand,I.klim,Kept.refl _ _,fun _ _ _ _ _=>trivial,fun _ _ _=>trivial,I.sep⟩,hl⟩
theorem Com.apartD {N C:Nat} (H:Com p Su S0 F N C Inb gs w T) {k hp dn:Nat} {self wself:Int} {quit steps ask grant:Nat} {closed:Bool} {pend:Option Nat} (hr:p.run=some k) (hthr:S0[k]?=some (.thr self quit closed true (some (hp,p.h,dn)) pend)) (hwp:S0[hp]?=some (.wp wself steps ask grant quit)) {tb wb:Nat} {cs0:List Frame} (hs0:p.seat0=some (seatG tb wb dn ask cs0)) :
    ∀ i s' c,i≠p.h→Inb i=some s'→s'.has c→c≠grant∧c≠quit:=by
  intro i s' c hi hs hc
  have t:=H.tab
  by_cases h0:i=0
  · subst h0
    rw [H.main,hs0] at hs
    cases hs
    rcases seatG_has hc with rfl|rfl
    · exact⟨fun e=>absurd (t.dist' (.ask hwp) (.grant hwp) e).2 (by decide),fun e=>absurd (t.dist' (.ask hwp) (.quit hthr) e).2 (by decide)⟩
    · exact⟨fun e=>absurd (t.dist' (.done hthr) (.grant hwp) e).2 (by decide),fun e=>absurd (t.dist' (.done hthr) (.quit hthr) e).2 (by decide)⟩
  · obtain⟨_,_,h3⟩:=H.seats i s' hs
    obtain⟨k2,a1,a2,a3,hp2,dn2,pe2,b1,b2⟩:=h3 h0
    obtain⟨_,h4⟩:=H.waits k2 _ _ _ _ _ _ _ b2
    obtain⟨ws2,st2,ak2,gr2,ab2,x2,y2,cs2,c1,c2,_⟩:=h4 b1
    rw [c2] at hs
    cases hs
    have hk2:k2≠k:=fun e=>b1 (by rw [e];exact hr)
    rcases seatD_has hc with rfl|rfl
    · refine⟨fun e=>?_,fun e=>absurd (t.dist' (.grant c1) (.quit hthr) e).2 (by decide)⟩
      have e1:=(t.dist' (.grant c1) (.grant hwp) e).1
      subst e1
      rw [c1] at hwp
      cases hwp
      exact hk2 (t.dist _ _ _ _ _ (.quit b2) (.quit hthr)).1
    · exact⟨fun e=>absurd (t.dist' (.quit b2) (.grant hwp) e).2 (by decide),fun e=>hk2 (t.dist' (.quit b2) (.quit hthr) e).1⟩
end
section
variable {p:Par} {Su:SuT} {S0:St} {F F' Ft:Emb} {c:Conf St} {Inb:Nat→Option Seat} {gs gs':Array Goroutine} {w w':World} {T T':Trace}
variable (hok:∀ mn OB WB,PrimOK mn OB WB)
abbrev doL0 (c:Nat) (n:Int) (A B:UInt64):List Value:=[.pointer (some ⟨0,0,none⟩),accV c n A B,undef,undef,undef,undef,undef,undef,undef,undef,undef,undef,undef,undef,undef,undef,undef,undef,undef,undef,undef,undef,undef,undef,undef,undef,undef,undef,undef,undef,undef,undef,undef,undef,undef,undef,undef,undef,undef,undef,undef,undef,undef,undef]
set_option maxRecDepth 100000 in
theorem do_begin {hp c:Nat} {n:Int} {A B:UInt64} {told:Option Addr} {ab:Nat × Nat} (hb:F.base (VB+hp)=0) :
    actF F (enterL Try.f137 doC #[hndV hp,accV c n A B]).2=actF (embW (F.blk (VB+hp)) told ab) (doL0 c n A B):=by
  simp only [enterL,Try.ntmps137]
  simp [actF,doL0,embW,adr,hndV,ren_accV,ren_undef,hb,List.replicate]
set_option maxRecDepth 100000 in
theorem actF_doL1 {Ft:Emb} {wb c ak qt:Nat} {n:Int} {A B:UInt64} (h0:Ft.blk 0=wb) (hb:Ft.base 0=0):actF Ft (doL1 c n A B ak qt)=⟨doT1 wb (Ft.blk 2,Ft.base 2) ak qt (accV c n A B) (accV c n A B),[]⟩:=by
  simp [actF,doL1,adr,ren_accV,ren_chan,ren_undef,h0,hb]
theorem wp_body:Try.f137.body=some doC:=rfl
variable {ops:Array Oper} {i:Nat} {rest:List Nat} {k:List Item} {tmps:List Value} {hs:AHeap} {S:St} {o:Oper} {b:Frame} {cs:List Frame} {g:Goroutine} {sl:Option (Nat × Nat)}
theorem ask_sel (hSu:SuMono Su) {hp cc:Nat} {n:Int} {A B:UInt64} {wself:Int} {steps ask grant quit:Nat} (hS:S[hp]?=some (.wp wself steps ask grant quit)) (ho:ops[i]?=some o) (hw:Region.wanted o (yieldedL ops tmps)=true) (hb':o.op.operands.all operB=true) (hca:callA Try.prog (evA tmps) o.op=some (137,#[hndV hp,accV cc n A B])) (hk:b.kind=.normal)
    (H:Standing p hok Su S0 F (.run (.inRegion ops (i::rest)::k) tmps hs S) Inb gs w T) (hg:gs[p.h]?=some g) (hgS:g=Go.Conc.G (b.at (actF F tmps) (.inRegion ops (i::rest)::k)) cs) :
    Reach Try.prog (crowd gs w sl) T fun m' T'=>∃ gs' w' sl' ab,m'=crowd gs' w' sl'∧gs'[p.h]?=some (Go.Conc.G ((base 137).at ⟨doT1 (F.blk (VB+hp)) ab ask quit (accV cc n A B) (accV cc n A B),[]⟩ [.inRegion doOps1 [0,1,2,3],.code doBlk0,.code doY]) (b.at (actF F tmps) (.inRegion ops (i::rest)::k)::cs)) ∧
      Standing p hok Su S0 F (.run [] [] hs S) Inb gs' w' T':=by
  refine (stand_enter hok hSu ho hw hb' hca Try.func137 rfl wp_body hk H hg hgS).bind fun m1 T1=>?_
  rintro ⟨gs1,w1,sl1,rfl,k1,H1⟩
  have H1:Standing p hok Su S0 F (.run [] [] hs S) Inb gs1 w1 T1:=Standing.conf hok H1 rfl rfl (fun v hv=>by cases hv)
  obtain⟨hW,told,hrow⟩:=H1.wp hok hS
  have R:Rep p.mn p.OB p.WB F S w1:=H1.inv.1.rep
  have hap:¬ p.OB (F.blk (VB+hp)):=fun z=>by obtain⟨_,_,_,R,_⟩:=H1.com.ring;exact R.apart _ z hW
  rw [do_begin (told:=told) (ab:=(0,0)) (R.base _ _ hS rfl)] at k1
  have hn2:∀ (i:Nat) (b:Option Blk),([none]:List (Option Blk))[i]?=some b→b=none:=fun i b hb=>by
    match i,hb with
    | 0,hb=>simpa using hb.symm
    | i+1,hb=>simp at hb
  have hVB:(2:Nat)≤VB:=by unfold VB;omega
  refine (tiny_ro hok hSu (sl:=sl1) (Ft:=embW (F.blk (VB+hp)) told (0,0)) (do1_goes wself steps (toldA told) ask grant quit cc n A B) (b:=base 137) Try.func137 rfl H1 k1 rfl (wp_holds [none] hn2 hrow) (stB_all (by simp [stB,plainB,accV,heapL_next,undef])) (fun n b hb=>(wp_cells hn2 (by show 1<2;omega) n b hb).2) (heapL_low _) hVB (fun n r hr=>(wp_cells (Ft:=embW (F.blk (VB+hp)) told (0,0)) hn2 (N:=2) (by omega) n r hr).1.1) (fun n r hr _=>by
    obtain⟨⟨_,rfl⟩,_⟩:=wp_cells (Ft:=embW (F.blk (VB+hp)) told (0,0)) hn2 (N:=2) (by omega) n r hr
    exact hap)).bind fun m2 T2=>?_
  rintro ⟨gs2,g2,w2,sl2,c2,Ft2,rfl,j1,rfl,j2,H2,j3,_⟩
  obtain⟨e1,e2,_⟩:=j3 0 (.inl (by show 0<2;omega))
  refine .here ⟨gs2,w2,sl2,(Ft2.blk 2,Ft2.base 2),rfl,?_,H2⟩
  rw [j1,show g2=_ from j2,actF_doL1 (wb:=F.blk (VB+hp)) (by rw [←e1];rfl) (by rw [←e2];rfl)]
end
section
variable {F:Emb} {Inb:Nat→Option Seat} {gs gs':Array Goroutine} {w w':World} {T T':Trace}
variable (hok:∀ mn OB WB,PrimOK mn OB WB)
variable {Γ:Type} {Pr:Proto Γ}
theorem gave (d:BD Γ) (hd:d.Ok) {cc:Nat} {n:Int} {A B:UInt64} {hs:AHeap} {ab:Nat × Nat} {cs:List Frame} {sl:Option (Nat × Nat)} {γ:Γ} {q:Pr.Ph}
    (H:Standing d.p hok d.Su d.S F (.run [] [] hs d.S) Inb gs w T)
    (hg:gs[d.p.h]?=some (Go.Conc.G ((base 137).at ⟨doT1 (F.blk (VB+d.hp)) ab d.ask d.quit (accV cc n A B) (accV cc n A B),[]⟩ [.inRegion doOps1 [0,1,2,3],.code doBlk0,.code doY]) cs))
    (hInv:Pr.Inv γ hs d.S) (hph:Pr.ph γ d.k=some q) (hacc:Pr.acc q=(cc,n,A,B)) (hoth:∀ i,i≠d.k→Pr.ph γ i=Pr.ph d.γ i) (hfuel:Pr.fuel γ=Pr.fuel d.γ)
    (hQ:BSusp hok Pr F hs.next d.S.length (Pr.fuel γ) d.k d.hp (.wp d.wself d.steps d.ask d.grant d.quit) q (doG (F.blk (VB+d.hp)) ab d.ask d.quit d.grant (accV cc n A B) (accV cc n A B) cs)) :
    Reach Try.prog (crowd gs w sl) T (Came hok Pr (BSusp hok Pr) d):=by
  have hc:=H.com
  have t:=hc.tab
  obtain⟨B0,Mem,q0,R0,hM0,hMh⟩:=hc.ring
  have hthr:=hd.thr
  have hwp:=hd.wp
  obtain⟨_,hp',gid',dn',ws',st',ak',gr',e1,e2,cask,cgr,cdn,hgid,hgsz,hbox⟩:=t.busy _ _ _ _ _ _ hthr
  cases e1
  rw [hwp] at e2
  cases e2
  have cqt:=t.quit _ _ _ _ _ _ hthr
  obtain⟨hW,told,hrow⟩:=H.wp hok hwp
  -- the embedding at the beginning
  have hFR:F.blk (VB+d.hp)=d.p.FR.blk (VB+d.hp):=((H.same.1 (VB+d.hp) (.inr ⟨by omega,by rw [hd.cr];have:=ob_lt hwp;omega⟩)).1).symm
  generalize hwb:F.blk (VB+d.hp)=wb at *
  -- its seat
  have fask:=t.far _ _ _ (.ask hwp)
  have fgr:=t.far _ _ _ (.grant hwp)
  have fqt:=t.far _ _ _ (.quit hthr)
  have hne:d.grant≠d.quit:=fun e=>absurd (t.dist' (.grant hwp) (.quit hthr) e).2 (by decide)
  have hlow:∀ {x},IsChan w x→x<w.heap.size:=fun {x} hx=>by obtain⟨_,_,_,_,_,_,h1⟩:=hx;exact block_low h1
  have R1:RingO Try.prog d.p.OB d.p.WB (max B0 w.heap.size) d.p.Iv Mem Inb d.p.h T gs w q0:=CoF.mono (Nat.le_max_left _ _) (Nat.max_le.2 ⟨R0.lowB,Nat.le_refl _⟩) R0
  let sD:=seatD wb ab d.ask d.quit d.grant (accV cc n A B) (accV cc n A B) cs
  let Inb1:Nat→Option Seat:=fun i=>if i=d.p.h then some sD else Inb i
  have R2:RingO Try.prog d.p.OB d.p.WB (max B0 w.heap.size) d.p.Iv Mem Inb1 d.p.h T gs w q0:=R1.reseat hMh sD (seatD_wf _ _ _ _ _ _ _ _ hne)
    (fun c hcc=>by rcases seatD_has hcc with rfl|rfl;exact⟨_,cgr⟩;exact⟨_,cqt⟩)
    (fun c hcc=>by rcases seatD_has hcc with rfl|rfl;exact fgr.2.1;exact fqt.2.1)
    (fun c hcc=>by
      have:c<w.heap.size:=by rcases seatD_has hcc with rfl|rfl;exact hlow fgr.1;exact hlow fqt.1
      omega)
    (fun i s' c hi hs hx hcc=>by
      obtain⟨h1,h2⟩:=hc.apartD hd.run hthr hwp hd.seat i s' c hi hs hx
      rcases seatD_has hcc with z|z
      · exact h1 z
      · exact h2 z)
  have hI0:Inb1 0=some (seatG d.tb (d.p.FR.blk (VB+d.hp)) d.dn d.ask d.cs0):=by
    show (if 0=d.p.h then some sD else Inb 0)=_
    rw [if_neg (fun e=>hd.h0 e.symm),hc.main,hd.seat]
  have hIh:Inb1 d.p.h=some sD:=if_pos rfl
  obtain⟨ka,hka⟩:=cask
  have hsz0:0<gs.size:=by omega
  refine (giveO (P:=Try.prog) (kh:=0) (kk:=0) (c:=d.ask) (v:=accV cc n A B) (z:=accZ) (z':=accZ) (cases:=#[scase d.ask (accV cc n A B) accZ,rcase d.quit (.agg #[])]) (shape:=.select) (fun e=>hd.h0 e.symm) hI0 rfl hMh rfl fask.2.2 (fun main w=>do_sel1 wb ab d.ask d.quit (accV cc n A B) (accV cc n A B) cs main w) rfl (fun m c' hm hc'=>?_) (Inb':=Inb1) (fun _ _=>rfl) (.inl rfl) (nh:=61) w (fun T' w1 k1 _ hw1 _=>?_) _ (sl:=sl) false rfl hsz0 (SideD.refl w) hka hg (fun z=>by cases z) R2).mono fun m T'=>?_
  · rcases m with _|_|m
    · exact absurd rfl hm
    · simp at hc'
      exact⟨sD,d.quit,.agg #[],hc'.symm,hIh,⟨1,.agg #[],by simp [sD,seatD]⟩⟩
    · simp at hc'
  · rw [do_gave,hIh]
    have hOwb:¬ d.p.OB wb:=fun z=>R0.apart _ z hW
    have hne2:wb≠d.ask:=fun e=>by
      rw [←e,hrow] at hka;cases hka
    have hrow1:(w1.setChan d.ask 0 #[] false (k1+1) (k1+1) false).heap[wb]?=some (.cells (wpRow d.wself d.steps (.pointer told) d.ask d.grant d.quit) 108 (0,0)):=by
      rw [heap_setChan_ne _ _ _ _ _ _ _ (fun e=>hne2 e.symm),hw1.only wb (fun z=>hOwb z.1)];exact hrow
    refine .inl ⟨60,rfl,?_⟩
    have hb0:(d.p.h==0)=false:=by simp [hd.h0]
    rw [hb0]
    exact goes_post (fun g w h=>⟨h,by rw [hd.iv];exact fun e=>absurd e hd.h0⟩) (way_do (x:=accV cc n A B) (y:=accV cc n A B) ⟨hW,by simp [World.cell?,hrow1,wpRow,chV],by simp [World.cell?,hrow1,wpRow,chV]⟩ (by have:=block_low hrow;omega) cs)
  rintro ⟨gs',g₂,w1,k1,sl',q',rfl,b1,b2,b3,b4,b5,b6,R3⟩
  have b3:g₂=goesG d.tb (d.p.FR.blk (VB+d.hp)) d.dn d.ask d.cs0:=b3
  subst b3
  have hX:=X_body hok (p:=d.p) hd.h0
  have b5:IvN d.p.OB d.wN 0 w1:=hd.iv ▸ b5
  have hsz2:(w1.setChan d.ask 0 #[] false (k1+1) (k1+1) false).heap.size=w.heap.size:=by rw [←b4.size];simp [World.setChan]
  have hset:∀ x,x≠d.ask→¬ d.p.OB x→(w1.setChan d.ask 0 #[] false (k1+1) (k1+1) false).heap[x]?=w.heap[x]?:=fun x hx hO=>by
    rw [heap_setChan_ne _ _ _ _ _ _ _ (fun e=>hx e.symm),b4.only x (fun z=>hO z.1)]
  have hask:(w1.setChan d.ask 0 #[] false (k1+1) (k1+1) false).heap[d.ask]?=some (.chan 0 #[] false (k1+1) (k1+1) false):=heap_setChan_self w1 b6 _ _ _ _ _ _
  have hvne:∀ x,Vis (d.p.X hok) F (.run [] [] hs d.S) x→x≠d.ask:=fun x hx e=>H.chan_out hok fask.1 (e ▸ hx)
  have hvis:∀ x,Vis (d.p.X hok) F (.run [] [] hs d.S) x→(w1.setChan d.ask 0 #[] false (k1+1) (k1+1) false).heap[x]?=w.heap[x]?:=fun x hx=>hset x (hvne x hx) fun z=>H.ov hd.h0 x z hx
  generalize hw2:w1.setChan d.ask 0 #[] false (k1+1) (k1+1) false=w2 at *
  have hap:∀ x,d.p.OB x→¬ d.p.WB x:=R0.apart
  have hch:∀ c,¬ d.p.OB c→(IsChan w c→IsChan w2 c)∧∀ cap,ChanO w c cap→ChanO w2 c cap:=fun c hO=>by
    by_cases e:c=d.ask
    · subst e
      refine⟨fun _=>⟨_,_,_,_,_,_,hask⟩,fun cap h=>?_⟩
      obtain⟨m,hm⟩:=h
      rw [hka] at hm
      cases hm
      exact⟨_,hask⟩
    · refine⟨fun h=>?_,fun cap h=>?_⟩
      · obtain⟨a1,a2,a3,a4,a5,a6,a7⟩:=h;exact⟨a1,a2,a3,a4,a5,a6,by rw [hset c e hO];exact a7⟩
      · obtain⟨m,hm⟩:=h;exact⟨m,by rw [hset c e hO];exact hm⟩
  refine⟨gs',w2,sl',F,hs,γ,0,accV cc n A B,fun i=>if i=0 then none else Inb1 i,d.S,fun F1 N1 C1 i hp ob g=>if i=d.k then ∃ F0 n0 c0,Same (Kn n0 c0) F0 F1∧n0≤N1∧c0≤C1∧BSusp hok Pr F0 n0 c0 (Pr.fuel γ) d.k hp ob q g else d.Su F1 N1 C1 i hp ob g,d.p.Iv,rfl,b2,hoth,hfuel,hInv,H.same.1,H.same.2.1,fun b hb=>?_,hX ▸ rinv_world (Nat.le_of_eq hsz2.symm) hvis H.inv,fun x hx=>hX ▸ H.ov hd.h0 x hx,fun x hx=>?_,fun x hx=>?_,H.wro,H.base.move (Nat.le_of_eq hsz2.symm) (fun x _ hx=>hX.symm ▸ hx) (fun _ _ h=>h) (fun x _ _ h2 h3=>hset x (h3 _ _ _ (.ask hwp)) h2) (fun _ _ _ h=>.inl h),⟨⟨_,_,_,R3.unseat,⟨hM0,.inr rfl⟩,⟨hM0,.inr rfl⟩⟩,?_,if_pos rfl,fun i s hi=>?_,fun k self quit closed hp gid dn pend hq=>?_,hc.n0,Nat.le_refl _⟩,.inl ⟨rfl,q,hph,?_,rfl,fun F1 N1 C1 i hp ob g hg=>?_⟩⟩
  · have hne3:b≠d.ask:=fun e=>fask.2.1 (e ▸ hb)
    rw [←hw2,heap_setChan_ne _ _ _ _ _ _ _ (fun e=>hne3 e.symm)]
    exact b5 rfl b hb
  · obtain⟨h1,h2,h3,h4⟩:=H.prot x hx
    obtain⟨cc',el,fr,h5⟩:=hd.px x hx
    rw [hsz2]
    refine⟨h1,hX ▸ h2,h3,(hset x (fun e=>?_) h3).trans h4⟩
    rw [e] at h4 h5
    rw [h5,hka] at h4
    cases h4
  · obtain⟨cc',el,h1,h2⟩:=H.wrow x hx
    exact⟨cc',el,(hset x (fun e=>by rw [e,hka] at h1;cases h1) fun z=>hap x z hx).trans h1,h2⟩
  · rw [b1];exact t.turn (p:=d.p) (Nat.le_refl _) (Same.refl (Kn 0 d.S.length) F) (Nat.le_of_eq hsz2.symm) hch
  · show i≠0∧i<gs'.size∧_
    by_cases h0:i=0
    · simp [h0] at hi
    rw [if_neg h0] at hi
    refine⟨h0,?_,fun _=>?_⟩
    · rw [b1]
      by_cases e:i=d.p.h
      · rw [e];exact hgsz
      · rw [show Inb1 i=Inb i from if_neg e] at hi
        exact (hc.seats i s hi).2.1
    · by_cases e:i=d.p.h
      · exact⟨d.k,_,_,_,_,_,_,by simp,by rw [e];exact hthr⟩
      · rw [show Inb1 i=Inb i from if_neg e] at hi
        obtain⟨k,c1,c2,c3,c4,c5,c6,_,c8⟩:=(hc.seats i s hi).2.2 h0
        exact⟨k,c1,c2,c3,c4,c5,c6,by simp,c8⟩
  · refine⟨fun e=>(by cases e),fun _=>?_⟩
    by_cases e:k=d.k
    · subst e
      rw [hthr] at hq
      cases hq
      refine⟨d.wself,d.steps,d.ask,d.grant,ab,accV cc n A B,accV cc n A B,cs,hwp,?_,?_⟩
      · show (if d.p.h=0 then none else Inb1 d.p.h)=_
        rw [if_neg hd.h0,hIh,hwb]
      · show if d.k=d.k then _ else _
        rw [if_pos rfl,hwb]
        exact⟨F,hs.next,d.S.length,Same.refl _ _,Nat.le_refl _,Nat.le_refl _,hQ⟩
    · obtain⟨ws,st,ak,gr,ab',x,y,cs',h3,h4,h5⟩:=(hc.waits k self quit closed hp gid dn pend hq).2 (by rw [hd.run];simpa using fun z=>e z.symm)
      obtain⟨h6,h7,h8⟩:=hc.seats gid _ h4
      obtain⟨hp3,gid3,dn3,_,_,_,_,z1,_,_,_,_,z2,_⟩:=(t.busy _ _ _ _ _ _ hq).2
      cases z1
      refine⟨ws,st,ak,gr,ab',x,y,cs',h3,?_,?_⟩
      · show (if gid=0 then none else Inb1 gid)=_
        rw [if_neg (by omega),show Inb1 gid=Inb gid from if_neg h6,h4]
      · show if k=d.k then _ else _
        rw [if_neg e]
        exact h5
  · simp [accQ,hacc]
  · exact hg
end
section
variable (hok:∀ mn OB WB,PrimOK mn OB WB)
variable {Γ:Type} (Pr:Proto Γ)
def ClB (k hp bx:Nat) (d:BD Γ) (γ:Γ × St) (p:Par):Prop:=p=d.p∧γ=(d.γ,d.S)∧d.Ok∧d.k=k∧d.hp=hp∧d.p.FR.blk (VB+(hp+1))=bx
def SuB (d:BD Γ) (_:Γ):SuT:=d.Su
def FinB (d:BD Γ):Machine→Trace→Prop:=Came hok Pr (BSusp hok Pr) d
def SpB (k hp:Nat):SpT Γ:=fun f args hs S γ Q=>∃ (γ1:Γ) (q:Pr.Ph) (wself:Int) (steps ask grant quit:Nat),f=137∧args=#[hndV hp,accQ (Pr.acc q)]∧S=γ.2∧S[hp]?=some (.wp wself steps ask grant quit)∧Pr.Inv γ1 hs S∧Pr.ph γ1 k=some q∧(∀ i,i≠k→Pr.ph γ1 i=Pr.ph γ.1 i)∧Pr.fuel γ1=Pr.fuel γ.1 ∧
  ∀ (v:UInt64) (h1:AHeap) (γ2:Γ) (S1:St),Pr.Run k q v γ2 h1 S1→Pr.fuel γ2<Pr.fuel γ1→hs.next≤h1.next→S.length≤S1.length→S1[hp]?=some (.wp wself (steps+1) ask grant quit)→Q (.int .u64 (v.toNat:Int)) h1 S1 (γ2,S1)
theorem cnt_len {S:St} {hp:Nat} {wself:Int} {s2 ask grant quit:Nat}:(cntS S hp wself s2 ask grant quit).length=S.length:=by simp
theorem SpB_ok (k hp bx:Nat) {fv:Value} {wbr dn0:Nat}:SpOK hok (ClB k hp bx) SuB (FinB hok Pr) (Downs (rootFr fv wbr dn0 bx [3])) (SpB Pr k hp):=by
  intro f args hs S γ Q hsp b cs F0 N0 C0 fn ops i rest kk tmps o hfn hkd hsk ho hw hb' hca K d p Inb F gs w sl T g hC H hg hgS hF hN hC0
  obtain⟨γ1,q,wself,steps,ask,grant,quit,rfl,rfl,hSγ,hwp,hInv,hph,hoth,hfuel,hQ⟩:=hsp
  obtain⟨rfl,hγ,hd,rfl,rfl,hbx⟩:=hC
  subst hγ
  have hSγ:S=d.S:=hSγ
  subst hSγ
  have hwp':=hd.wp
  rw [hwp] at hwp'
  cases hwp'
  have H:Standing d.p hok d.Su d.S F (.run (.inRegion ops (i::rest)::kk) tmps hs d.S) Inb gs w T:=H
  rcases hacc:Pr.acc q with ⟨c,n,A,B⟩
  have hca:callA Try.prog (evA tmps) o.op=some (137,#[hndV d.hp,accV c n A B]):=by rw [hca,hacc];rfl
  refine (ask_sel hok hd.mono hwp ho hw hb' hca hkd H hg hgS).bind fun m1 T1=>?_
  rintro ⟨gs1,w1,sl1,ab,rfl,k1,H1⟩
  have hbl:d.hp+1<d.S.length:=by
    obtain⟨_,hp',gid',dn',_,_,_,_,e1,_,_,_,_,_,_,hbox⟩:=H.com.tab.busy _ _ _ _ _ _ hd.thr
    cases e1
    exact ob_lt hbox
  have hbxF:F.blk (VB+(d.hp+1))=bx:=by
    rw [←hbx]
    exact ((H.same.1 (VB+(d.hp+1)) (.inr ⟨by omega,by rw [hd.cr];omega⟩)).1).symm
  refine gave hok d hd H1 k1 hInv hph hacc hoth hfuel (BSusp.fold hok ?_ ?_)
  rotate_left
  · exact⟨_,_,_,_,_,_,_,_,fv,wbr,dn0,rfl,.frame hfn rfl rfl (hbxF ▸ hsk)⟩
  intro d2 s2 S2 F2 hs2 Inb2 gs2 w2 sl2 T2 v hd2 hk2 hhp2 hst2 hob hS2 hdS H2 hg2 hsame hn hc hRun hfu
  injection hob with e1 e2 e3 e4 e5
  have hstab:∀ u∈tmps,Stab (Kn hs.next d.S.length) F u:=fun u hu=>H.inv.1.vst u hu
  have hthr2:S2[d2.k]?=some (.thr d2.self d2.quit false true (some (d2.hp,d2.p.h,d2.dn)) d2.pend):=by
    have:=hd2.thr
    rw [hdS] at this
    exact (cnt_thr (s:=s2) (by rw [hS2,e1,e2,e3,e4,e5])).1 this
  have hblk:F2.blk (VB+d.hp)=F.blk (VB+d.hp):=((hsame (VB+d.hp) (.inr ⟨by omega,by have:=ob_lt hwp;omega⟩)).1).symm
  refine (resume_tail hok (sl:=sl2) (c0:=b.at (actF F tmps) (.inRegion ops (i::rest)::kk)) (cs0:=cs) (cc:=c) (ab:=ab) (n:=n) (A:=A) (B:=B) (v:=v) (hp:=d.hp) (wself:=d2.wself) (s:=s2) (ask:=d2.ask) (grant:=d2.grant) (quit:=d2.quit) hd2.mono hd2.h0 hd2.run (by rw [←hhp2];exact hthr2) (by rw [hS2,e1,e2,e3,e4,e5]) H2 ?_).bind fun m3 T3=>?_
  · rw [hblk,←e3,←e4,←e5]
    rw [←e4,←e5] at hg2
    exact hg2
  rintro ⟨gs3,w3,sl3,rfl,k3,H3⟩
  rw [←hst2,←hdS] at H3
  have hlen:S2.length=d2.S.length:=by rw [hdS,cnt_len]
  have hfin:(b.at (actF F tmps) (.inRegion ops (i::rest)::kk)).finish (.int .u64 (v.toNat:Int))=b.at (actF F2 (putL o.dst (.int .u64 (v.toNat:Int)) tmps)) (.inRegion ops rest::kk):=by
    rw [Frame.finish_at,ho]
    show b.at ((actF F tmps).put o.dst (.int .u64 (v.toNat:Int))) (.inRegion ops rest::kk)=_
    rw [←actF_congr hstab hsame,←actF_put,ren_int]
  rw [hfin] at k3
  have hwp2:d2.S[d.hp]?=some (.wp d.wself (d.steps+1) d.ask d.grant d.quit):=by
    have:=hd2.wp
    rw [hhp2,hst2,←e1,←e2,←e3,←e4,←e5] at this
    exact this
  have hbx2:d2.p.FR.blk (VB+(d.hp+1))=bx:=by
    rw [←hbxF,((hsame (VB+(d.hp+1)) (.inr ⟨by omega,by omega⟩)).1)]
    exact (H2.same.1 (VB+(d.hp+1)) (.inr ⟨by omega,by rw [hd2.cr,←hlen];omega⟩)).1
  have hKK:∀ x,Kn hs.next d.S.length x→Kn hs2.next d2.S.length x:=fun x hx=>hx.mono hn (by rw [←hlen];exact hc)
  refine K _ hs2 d2.S (d2.γ,d2.S) (hQ v hs2 d2.γ d2.S hRun hfu hn (by rw [←hlen];exact hc) hwp2) d2 d2.p Inb2 F2 gs3 w3 sl3 T3 _ ⟨rfl,rfl,hd2,hk2,hhp2,hbx2⟩ (Standing.conf hok H3 rfl rfl (putL_stab (fun u hu=>(hstab u hu).move hsame hKK) (Stab.plain rfl) o.dst)) k3 rfl (hF.trans (hsame.mono fun x hx=>hx.mono hN hC0)) (Nat.le_trans hN hn) (Nat.le_trans hC0 (by show d.S.length≤d2.S.length;rw [←hlen];exact hc))
end
abbrev rootD (fv pw cd:Value):Deferred:=dcall 71 #[fv,pw,cd]
theorem root_born (fv pw cd:Value) (w:World):stepG Try.prog false (born Try.prog (rootD fv pw cd)) w =
    .go (Go.Conc.G ((baseD 71).at ⟨#[fv,pw,cd,undef,undef,undef,undef,undef,undef,undef,undef],[]⟩ [.code rootC]) [botF]) w #[]:=by
  have hb:Try.f71.body=some rootC:=rfl
  have hn : ¬ Try.f71.name = "runtime.NumGoroutine" := by
    have h : (Try.f71.name == "runtime.NumGoroutine") = false := rfl
    simpa using h
  simp [born,rootD,dcall,stepG,unwind,callDeferred,invoke,callFunc,Try.func71,hb,seen_none,GStep.after,Go.Conc.G,Frame.enter,Frame.at,baseD,botF,Try.ntmps71,hn]
section
variable {P:Program} {main:Bool} {b:Frame} {a:Act} {k:List Item} {cs:List Frame} {w:World}
theorem stepG_deferC {ops:Array Oper} {i:Nat} {rest:List Nat} {o:Oper} {f:FuncId} {x:Operand} {ats:Array TypeId} {ys:Array Value} (ho:ops[i]?=some o) (hw:Region.wanted o (yielded ops a.tmps)=true) (hk:b.kind≠.early)
    (hop:o.op=.defer { callee:=.value x,args:=#[],argTypes:=ats }) (ef:a.eval x=.func (.func f) #[] ys) :
    stepG P main (Go.Conc.G (b.at a (.inRegion ops (i::rest)::k)) cs) w=.go (Go.Conc.G (b.at (Act.put ⟨a.tmps,dclos f ys::a.defers⟩ o.dst undef) (.inRegion ops rest::k)) cs) w #[]:=by
  have hr:(execOp a.eval o).run P w=.ok (.defer (dclos f ys)) w:=by
    unfold execOp
    simp [hop,resolve,Deferred.ofValue,ef]
  have he:(execOp a.eval o).events P w #[]=#[]:=by
    unfold execOp
    simp [hop,resolve,Deferred.ofValue,ef]
  have hfin:(b.at ⟨a.tmps,dclos f ys::a.defers⟩ (.inRegion ops (i::rest)::k)).finish undef=b.at (Act.put ⟨a.tmps,dclos f ys::a.defers⟩ o.dst undef) (.inRegion ops rest::k):=by rw [Frame.finish_at,ho];rfl
  have hk':(b.kind==CallKind.early)=false:=by simpa using hk
  rw [stepG_oper ho hw,←hfin]
  simp [stepG.apply,hr,he,Go.Conc.G,Frame.at,hk',GStep.after,seen_none]
theorem stepG_unwind_enterC {todo : List Item} {ds : List Deferred} {f : FuncId} {fn : Func} {ys : Array Value} {c : Code} (hd : a.defers = dclos f ys :: ds) (hf : P.funcs[f]? = some fn) (hname : (fn.name == "runtime.NumGoroutine") = false) (hb : fn.body = some c) :
    stepG P main (Go.Conc.G { b.at a todo with mode:=.returning } cs) w =
      .go (Go.Conc.G ((baseD f).at { tmps:=ys++Array.replicate (fn.ntmps - ys.size) undef,defers:=[] } [.code c]) ({ b.at ⟨a.tmps,ds⟩ todo with mode:=.returning }::cs)) w #[]:=by
  have h1 : ¬ fn.name = "runtime.NumGoroutine" := by simpa using hname
  rw [←enter_atD ys hf hb]
  simp [Go.Conc.G,stepG,unwind,callDeferred,Frame.at,hd,dclos,invoke,callFunc,hf,h1,hb,GStep.after,seen_none]
end
section
variable {OB WB:Nat→Prop} {Inb:Nat→Option Seat} {h:Nat}
def Leant (OB WB:Nat→Prop) (Inb:Nat→Option Seat) (b:Nat):Prop:=OB b∨WB b∨∃ i s,Inb i=some s∧s.has b
theorem alloc_heap (w:World) (o:Obj):(w.alloc o).heap=w.heap.push o:=rfl
theorem alloc_at (w:World) (o:Obj) (b:Nat) (hb:b<w.heap.size):(w.alloc o).heap[b]?=w.heap[b]?:=by
  rw [alloc_heap,Array.getElem?_push,if_neg (by omega)]
theorem alloc_size (w:World) (o:Obj):(w.alloc o).heap.size=w.heap.size+1:=by rw [alloc_heap,Array.size_push]
theorem alloc_new (w:World) (o:Obj):(w.alloc o).heap[w.heap.size]?=some o:=by rw [alloc_heap,Array.getElem?_push,if_pos rfl]
theorem DO.alloc {w:World} {o:Obj} {es:Array Event} (hl:∀ b,Leant OB WB Inb b→b<w.heap.size) (hs:∀ e∈es,EvO OB WB h (w.alloc o) e):DO OB WB Inb h w (w.alloc o) es :=
  ⟨fun i s c hi hc=>alloc_at w o c (hl c (.inr (.inr ⟨i,s,hi,hc⟩))),fun a ha _=>cell_at _ _ _ (alloc_at w o _ (hl _ (.inr (.inl ha)))),fun _ b hb=>alloc_at w o b (hl b (.inl hb)),by rw [alloc_size];omega,rfl,hs⟩
structure KR0 (OB WB:Nat→Prop) (Inb:Nat→Option Seat) (w0 w:World):Prop where
  low:∀ b,Leant OB WB Inb b→b<w.heap.size
  old:∀ b,¬ OB b→w.heap[b]?=w0.heap[b]?
  size:w.heap.size=w0.heap.size
theorem KR0.rely {w0 w w1:World} (K:KR0 OB WB Inb w0 w) (r:Ro OB h w w1):KR0 OB WB Inb w0 w1:=⟨fun b hb=>by rw [r.size];exact K.low b hb,fun b hb=>(r.heap hb).trans (K.old b hb),r.size.trans K.size⟩
structure KR1 (OB WB:Nat→Prop) (Inb:Nat→Option Seat) (w0:World) (dn:Nat) (w:World):Prop where
  low:∀ b,Leant OB WB Inb b→b<w.heap.size
  old:∀ b,¬ OB b→b<w0.heap.size→w.heap[b]?=w0.heap[b]?
  size:w.heap.size=w0.heap.size+1
  box:w.heap[w0.heap.size]?=some (.cells #[.chan (some dn)] 142 (0,0))
  bO:¬ OB w0.heap.size
theorem KR1.rely {w0 w w1:World} {dn:Nat} (K:KR1 OB WB Inb w0 dn w) (r:Ro OB h w w1):KR1 OB WB Inb w0 dn w1:=⟨fun b hb=>by rw [r.size];exact K.low b hb,fun b hb hl=>(r.heap hb).trans (K.old b hb hl),r.size.trans K.size,(r.heap K.bO).trans K.box,K.bO⟩
theorem KR0.alloc {w0 w:World} {dn:Nat} (K:KR0 OB WB Inb w0 w):KR1 OB WB Inb w0 dn (w.alloc (.cells #[.chan (some dn)] 142)):=by
  refine⟨fun b hb=>?_,fun b hb hl=>?_,?_,?_,fun z=>?_⟩
  · have:=K.low b hb
    rw [alloc_size];omega
  · rw [alloc_at _ _ _ (by rw [K.size];exact hl)];exact K.old b hb
  · rw [alloc_size,K.size]
  · rw [←K.size];exact alloc_new _ _
  · have:=K.low _ (.inl z)
    rw [K.size] at this
    omega
set_option maxRecDepth 100000 in
theorem root_begin {fb:FuncId} {xs ys:Array Value} {wb dn:Nat} (w0 w:World) (hK:KR0 OB WB Inb w0 w) :
    Conc.Goes Try.prog false (Ro OB h) (DO OB WB Inb h) (fun g w'=>g=Go.Conc.G (rootFr (.func (.func fb) xs ys) wb dn w0.heap.size [3]) [botF]∧KR1 OB WB Inb w0 dn w') 40 (Go.Conc.G ((baseD 71).at ⟨#[.func (.func fb) xs ys,pt wb,.chan (some dn),undef,undef,undef,undef,undef,undef,undef,undef],[]⟩ [.code rootC]) [botF]) w:=by
  simp only [rootC,Try.f71,Option.getD_some]
  (refine Conc.Goes.step rfl (fun w₁ h₁=>?_);replace hK:=hK.rely h₁;clear h₁;rw [stepG_seq];simp only [goes_go];refine⟨DO.none _,?_⟩)
  (refine Conc.Goes.step rfl (fun w₁ h₁=>?_);replace hK:=hK.rely h₁;clear h₁;rw [stepG_region];simp only [goes_go,List.size_toArray,List.length_cons,List.length_nil,Nat.reduceAdd,Nat.zero_add,List.range,List.range.loop];refine⟨DO.none _,?_⟩)
  refine Conc.Goes.step rfl (fun w₁ h₁=>?_)
  replace hK:=hK.rely h₁;clear h₁
  refine goes_oper_k rfl rfl (by decide) (fun K hK'=>?_)
  go_simp
  refine hK' _ _ ⟨DO.alloc hK.low (fun e he=>(by have hm:=mem_listed he;simp [go_sem] at hm)),?_⟩
  clear hK' K
  rw [hK.size]
  replace hK:=KR0.alloc (dn:=dn) hK
  (refine Conc.Goes.step rfl (fun w₁ h₁=>?_);replace hK:=hK.rely h₁;clear h₁;rw [stepG_region_end];simp only [goes_go];refine⟨DO.none _,?_⟩)
  (refine Conc.Goes.step rfl (fun w₁ h₁=>?_);replace hK:=hK.rely h₁;clear h₁;rw [stepG_seq];simp only [goes_go];refine⟨DO.none _,?_⟩)
  (refine Conc.Goes.step rfl (fun w₁ h₁=>?_);replace hK:=hK.rely h₁;clear h₁;rw [stepG_region];simp only [goes_go,List.size_toArray,List.length_cons,List.length_nil,Nat.reduceAdd,Nat.zero_add,List.range,List.range.loop];refine⟨DO.none _,?_⟩)
  (refine Conc.Goes.step rfl (fun w₁ h₁=>?_);replace hK:=hK.rely h₁;clear h₁;refine goes_oper_k rfl rfl (by decide) (fun K hK'=>?_);go_simp;refine hK' _ _ ⟨DO.quiet (fun e he=>(by have hm:=mem_listed he;simp [go_sem,Instr.makeInterface,Instr.makeFunc] at hm)),?_⟩;clear hK' K)
  refine Conc.Goes.step rfl (fun w₁ h₁=>?_)
  replace hK:=hK.rely h₁;clear h₁
  rw [stepG_deferC (ys:=#[pt w0.heap.size]) rfl rfl (by decide) rfl rfl]
  simp only [goes_go]
  refine⟨DO.none _,?_⟩
  walk_nrm
  (refine Conc.Goes.step rfl (fun w₁ h₁=>?_);replace hK:=hK.rely h₁;clear h₁;rw [stepG_region_end];simp only [goes_go];refine⟨DO.none _,?_⟩)
  (refine Conc.Goes.step rfl (fun w₁ h₁=>?_);replace hK:=hK.rely h₁;clear h₁;rw [stepG_region];simp only [goes_go,List.size_toArray,List.length_cons,List.length_nil,Nat.reduceAdd,Nat.zero_add,List.range,List.range.loop];refine⟨DO.none _,?_⟩)
  (refine Conc.Goes.step rfl (fun w₁ h₁=>?_);replace hK:=hK.rely h₁;clear h₁;refine goes_oper_k rfl rfl (by decide) (fun K hK'=>?_);go_simp;refine hK' _ _ ⟨DO.quiet (fun e he=>(by have hm:=mem_listed he;simp [go_sem,Instr.makeInterface,Instr.makeFunc] at hm)),?_⟩;clear hK' K)
  (refine Conc.Goes.step rfl (fun w₁ h₁=>?_);replace hK:=hK.rely h₁;clear h₁;refine goes_oper_k rfl rfl (by decide) (fun K hK'=>?_);go_simp;refine hK' _ _ ⟨DO.quiet (fun e he=>(by have hm:=mem_listed he;simp [go_sem,Instr.makeInterface,Instr.makeFunc] at hm)),?_⟩;clear hK' K)
  (refine Conc.Goes.step rfl (fun w₁ h₁=>?_);replace hK:=hK.rely h₁;clear h₁;refine goes_oper_k rfl rfl (by decide) (fun K hK'=>?_);go_simp;refine hK' _ _ ⟨DO.quiet (fun e he=>(by have hm:=mem_listed he;simp [go_sem,Instr.makeInterface,Instr.makeFunc] at hm)),?_⟩;clear hK' K)
  exact Conc.Goes.stop (fun w₁ h₁=>⟨by simp only [rootFr,rootOps2,rootC,cOps,cL,cR,Try.f71,Option.getD_some],hK.rely h₁⟩)
end
section
variable {P:Program} {main:Bool} {b:Frame} {a:Act} {k:List Item} {cs:List Frame} {w:World}
theorem stepG_recover_none {ops:Array Oper} {i:Nat} {rest:List Nat} {o:Oper} {c0:Frame} {ats:Array TypeId} (ho:ops[i]?=some o) (hw:Region.wanted o (yielded ops a.tmps)=true) (hk:b.kind=.deferred) (hro:b.roundOf=none) (hc:c0.mode=.returning)
    (hop:o.op=.call { callee:=.builtin .recover,args:=#[],argTypes:=ats }) :
    stepG P main (Go.Conc.G (b.at a (.inRegion ops (i::rest)::k)) (c0::cs)) w=.go (Go.Conc.G (b.at (a.put o.dst .nilIface) (.inRegion ops rest::k)) (c0::cs)) w #[]:=by
  have hr:(execOp a.eval o).run P w=.ok .recover w:=by
    unfold execOp
    simp [hop,resolve,invoke,builtin]
  have he:(execOp a.eval o).events P w #[]=#[]:=by
    unfold execOp
    simp [hop,resolve,invoke,builtin]
  have hfin:(b.at a (.inRegion ops (i::rest)::k)).finish .nilIface=b.at (a.put o.dst .nilIface) (.inRegion ops rest::k):=by rw [Frame.finish_at,ho];rfl
  have ht:tryRecover (b.at a (.inRegion ops (i::rest)::k)) (c0::cs)=none:=by
    simp [tryRecover,Frame.at,hk,hc]
  rw [stepG_oper ho hw,←hfin]
  have ht':=ht
  simp only [Frame.at,hk] at ht'
  simp [stepG.apply,hr,he,Go.Conc.G,Frame.at,hk,hro,ht',GStep.after,seen_none]
end
section
variable {P:Program} {α:Type}
theorem calm_runT {s:Sem α} {a:α} (h:calm P s=some a) (w:World) (es:Array Event):s.runT P w es=(.ok a w,es)∧s.run P w=.ok a w:=by
  induction s with
  | pure b=>simp only [calm,Option.some.injEq] at h;subst h;exact⟨rfl,rfl⟩
  | program k ih=>exact ih P h
  | _=>simp [calm] at h
theorem nil_struct_calm {x t:TypeId} {fs:Array Field} {z:Value} (hu:P.underlying t=some (.struct fs)) (hz:tyZero P t=some z):calm P (Instr.typeAssert .nilIface x t true)=some (.tuple #[z,.bool false]):=by
  unfold Instr.typeAssert
  simp only [calm_bind,calm_underlying hu,Option.bind_some,tyZero_calm hz,if_true,calm_pure]
end
section
variable {P:Program}
theorem listed_assert {fn:FuncId} {a:Act} {o:Oper} {x:Operand} {t t':TypeId} {v r:Value} {w:World} {c:Bool} (ho:o.op=.typeAssert x t t' c) (hc:calm P (Instr.typeAssert v t t' c)=some r) (hv:a.eval x=v:=by rfl):listed P fn a o w=#[]:=by
  have hx:calm P (execOp a.eval o)=some (.value r):=by
    unfold execOp
    simp only [ho,hv,calm_bind,hc,Option.bind_some,calm_pure,calm_map,Option.map_some]
  show seen P fn ((execOp a.eval o).events P w #[])=#[]
  rw [show (execOp a.eval o).events P w #[]=#[] from by show ((execOp a.eval o).runT P w #[]).2=#[];rw [(calm_runT hx w #[]).1],seen_none]
end
theorem cell_at_row {w:World} {b n:Nat} {v:Value} {t:TypeId} (h:w.heap[b]?=some (.cells #[v] t (0,n))):w.cell? { block:=b,off:=0 }=some v:=by
  simp [World.cell?,h]
noncomputable def root1C:Code:=(Try.f95.body).getD .skip
noncomputable def root1Ops4:Array Oper:=cOps (cR (cR root1C))
section
variable {OB WB:Nat→Prop} {Inb:Nat→Option Seat} {h:Nat}
structure KE (OB WB:Nat→Prop) (Inb:Nat→Option Seat) (w0:World) (bx dn:Nat) (w:World):Prop where
  low:∀ b,Leant OB WB Inb b→b<w.heap.size
  old:∀ b,¬ OB b→b<w0.heap.size→w.heap[b]?=w0.heap[b]?
  size:w0.heap.size≤w.heap.size
  box:w.heap[bx]?=some (.cells #[.chan (some dn)] 142 (0,0))
  bO:¬ OB bx
theorem KE.rely {w0 w w1:World} {bx dn:Nat} (K:KE OB WB Inb w0 bx dn w) (r:Ro OB h w w1):KE OB WB Inb w0 bx dn w1:=⟨fun b hb=>by rw [r.size];exact K.low b hb,fun b hb hl=>(r.heap hb).trans (K.old b hb hl),by rw [r.size];exact K.size,(r.heap K.bO).trans K.box,K.bO⟩
theorem KE.alloc {w0 w:World} {bx dn:Nat} {o:Obj} (K:KE OB WB Inb w0 bx dn w):KE OB WB Inb w0 bx dn (w.alloc o) :=
  ⟨fun b hb=>by have:=K.low b hb;rw [alloc_size];omega,fun b hb hl=>by rw [alloc_at _ _ _ (Nat.lt_of_lt_of_le hl K.size)];exact K.old b hb hl,by rw [alloc_size];have:=K.size;omega,by rw [alloc_at _ _ _ (block_low K.box)];exact K.box,K.bO⟩
noncomputable def rootEnd (fv z:Value) (wb dn bx:Nat):Frame:={ (baseD 71).at ⟨rootT fv wb dn bx z,[]⟩ [] with mode:=.returning }
noncomputable def root1Fr (bx dn n:Nat) (rest:List Nat):Frame:=(baseD 95).at ⟨#[pt bx,.nilIface,pt n,.bool false,.nilIface,.tuple #[.agg #[],.bool false],.nilIface,.tuple #[.agg #[],.bool false],.agg #[],.bool false,.bool false,.chan (some dn),.nilIface],[]⟩ [.inRegion root1Ops4 rest]
set_option maxRecDepth 100000 in
theorem root_end {fv z:Value} {wb dn0 dn bx:Nat} (w0 w:World) (hK:KE OB WB Inb w0 bx dn w) :
    Conc.Goes Try.prog false (Ro OB h) (DO OB WB Inb h) (fun g w'=>(∃ n,g=Go.Conc.G (root1Fr bx dn n [2]) [rootEnd fv z wb dn0 bx,botF])∧KE OB WB Inb w0 bx dn w') 60 (Go.Conc.G ((baseD 71).at ⟨rootT fv wb dn0 bx z,[dclos 95 #[pt bx]]⟩ [.inRegion rootOps2 []]) [botF]) w:=by
  (refine Conc.Goes.step rfl (fun w₁ h₁=>?_);replace hK:=hK.rely h₁;clear h₁;rw [stepG_region_end];simp only [goes_go];refine⟨DO.none _,?_⟩)
  (refine Conc.Goes.step rfl (fun w₁ h₁=>?_);replace hK:=hK.rely h₁;clear h₁;rw [stepG_end];simp only [goes_go];refine⟨DO.none _,?_⟩)
  refine Conc.Goes.step rfl (fun w₁ h₁=>?_)
  replace hK:=hK.rely h₁;clear h₁
  rw [stepG_unwind_enterC (fn:=Try.f95) (c:=root1C) rfl Try.func95 rfl rfl]
  simp only [goes_go]
  refine⟨DO.none _,?_⟩
  rw [Try.ntmps95,show (#[pt bx]++Array.replicate (13 - (#[pt bx]:Array Value).size) undef:Array Value)=#[pt bx,undef,undef,undef,undef,undef,undef,undef,undef,undef,undef,undef,undef] from rfl]
  simp only [root1C,Try.f95,Option.getD_some]
  (refine Conc.Goes.step rfl (fun w₁ h₁=>?_);replace hK:=hK.rely h₁;clear h₁;rw [stepG_seq];simp only [goes_go];refine⟨DO.none _,?_⟩)
  (refine Conc.Goes.step rfl (fun w₁ h₁=>?_);replace hK:=hK.rely h₁;clear h₁;rw [stepG_region];simp only [goes_go,List.size_toArray,List.length_cons,List.length_nil,Nat.reduceAdd,Nat.zero_add,List.range,List.range.loop];refine⟨DO.none _,?_⟩)
  refine Conc.Goes.step rfl (fun w₁ h₁=>?_)
  replace hK:=hK.rely h₁;clear h₁
  rw [stepG_recover_none rfl rfl rfl rfl rfl rfl]
  simp only [goes_go]
  refine⟨DO.none _,?_⟩
  walk_nrm
  (refine Conc.Goes.step rfl (fun w₁ h₁=>?_);replace hK:=hK.rely h₁;clear h₁;refine goes_oper_k rfl rfl (by decide) (fun K hK'=>?_);go_simp;refine hK' _ _ ⟨DO.quiet (fun e he=>(by have hm:=mem_listed he;simp [go_sem,Instr.makeInterface,Instr.makeFunc] at hm)),?_⟩;clear hK' K)
  (refine Conc.Goes.step rfl (fun w₁ h₁=>?_);replace hK:=hK.rely h₁;clear h₁;rw [stepG_region_end];simp only [goes_go];refine⟨DO.none _,?_⟩)
  (refine Conc.Goes.step rfl (fun w₁ h₁=>?_);replace hK:=hK.rely h₁;clear h₁;rw [stepG_seq];simp only [goes_go];refine⟨DO.none _,?_⟩)
  (refine Conc.Goes.step rfl (fun w₁ h₁=>?_);replace hK:=hK.rely h₁;clear h₁;rw [stepG_seq];simp only [goes_go];refine⟨DO.none _,?_⟩)
  (refine Conc.Goes.step rfl (fun w₁ h₁=>?_);replace hK:=hK.rely h₁;clear h₁;rw [stepG_region];simp only [goes_go,List.size_toArray,List.length_cons,List.length_nil,Nat.reduceAdd,Nat.zero_add,List.range,List.range.loop];refine⟨DO.none _,?_⟩)
  (refine Conc.Goes.step rfl (fun w₁ h₁=>?_);replace hK:=hK.rely h₁;clear h₁;refine goes_oper_k rfl rfl (by decide) (fun K hK'=>?_);go_simp;refine hK' _ _ ⟨DO.quiet (fun e he=>(by have hm:=mem_listed he;simp [go_sem,Instr.makeInterface,Instr.makeFunc] at hm)),?_⟩;clear hK' K)
  refine Conc.Goes.step rfl (fun w₁ h₁=>?_)
  replace hK:=hK.rely h₁;clear h₁
  refine goes_oper_k rfl rfl (by decide) (fun K hK'=>?_)
  go_simp
  rw [(calm_runT (nil_struct_calm (P:=Try.prog) (x:=20) (t:=144) (z:=.agg #[]) rfl rfl) _ #[]).2]
  refine hK' _ _ ⟨?_,?_⟩
  · rw [show listed Try.prog (baseD 95).fn _ _ w₁=#[] from listed_assert (x:=.tmp 6) (t:=20) (t':=144) rfl (nil_struct_calm (P:=Try.prog) (z:=.agg #[]) rfl rfl)]
    exact DO.none _
  clear hK' K
  go_simp
  (refine Conc.Goes.step rfl (fun w₁ h₁=>?_);replace hK:=hK.rely h₁;clear h₁;refine goes_oper_k rfl rfl (by decide) (fun K hK'=>?_);go_simp;refine hK' _ _ ⟨DO.quiet (fun e he=>(by have hm:=mem_listed he;simp [go_sem,Instr.makeInterface,Instr.makeFunc] at hm)),?_⟩;clear hK' K)
  (refine Conc.Goes.step rfl (fun w₁ h₁=>?_);replace hK:=hK.rely h₁;clear h₁;refine goes_oper_k rfl rfl (by decide) (fun K hK'=>?_);go_simp;refine hK' _ _ ⟨DO.quiet (fun e he=>(by have hm:=mem_listed he;simp [go_sem,Instr.makeInterface,Instr.makeFunc] at hm)),?_⟩;clear hK' K)
  (refine Conc.Goes.step rfl (fun w₁ h₁=>?_);replace hK:=hK.rely h₁;clear h₁;refine goes_oper_k rfl rfl (by decide) (fun K hK'=>?_);go_simp;refine hK' _ _ ⟨DO.quiet (fun e he=>(by have hm:=mem_listed he;simp [go_sem,Instr.makeInterface,Instr.makeFunc] at hm)),?_⟩;clear hK' K)
  refine Conc.Goes.step rfl (fun w₁ h₁=>?_)
  replace hK:=hK.rely h₁;clear h₁
  refine goes_oper_k rfl rfl (by decide) (fun K hK'=>?_)
  go_simp
  refine hK' _ _ ⟨DO.alloc hK.low (fun e he=>(by have hm:=mem_listed he;simp [go_sem] at hm)),?_⟩
  clear hK' K
  replace hK:=KE.alloc (o:=.cells #[] 144) hK
  refine Conc.Goes.step rfl (fun w₁ h₁=>?_)
  replace hK:=hK.rely h₁;clear h₁
  refine goes_oper_k rfl rfl (by decide) (fun K hK'=>?_)
  go_simp
  refine hK' _ _ ⟨DO.quiet (fun e he=>(by have hm:=mem_listed he;simp [go_sem] at hm)),?_⟩
  clear hK' K
  (refine Conc.Goes.step rfl (fun w₁ h₁=>?_);replace hK:=hK.rely h₁;clear h₁;refine goes_oper_k rfl rfl (by decide) (fun K hK'=>?_);go_simp;refine hK' _ _ ⟨DO.quiet (fun e he=>(by have hm:=mem_listed he;simp [go_sem,Instr.makeInterface,Instr.makeFunc] at hm)),?_⟩;clear hK' K)
  (refine Conc.Goes.step rfl (fun w₁ h₁=>?_);replace hK:=hK.rely h₁;clear h₁;rw [stepG_region_end];simp only [goes_go];refine⟨DO.none _,?_⟩)
  (refine Conc.Goes.step rfl (fun w₁ h₁=>?_);replace hK:=hK.rely h₁;clear h₁;rw [stepG_seq];simp only [goes_go];refine⟨DO.none _,?_⟩)
  (refine Conc.Goes.step rfl (fun w₁ h₁=>?_);replace hK:=hK.rely h₁;clear h₁;rw [stepG_region];simp only [goes_go,List.size_toArray,List.length_cons,List.length_nil,Nat.reduceAdd,Nat.zero_add,List.range,List.range.loop];refine⟨DO.none _,?_⟩)
  (refine Conc.Goes.step rfl (fun w₁ h₁=>?_);replace hK:=hK.rely h₁;clear h₁;refine goes_oper_k rfl rfl (by decide) (fun K hK'=>?_);go_simp;refine hK' _ _ ⟨DO.quiet (fun e he=>(by have hm:=mem_listed he;simp [go_sem,Instr.makeInterface,Instr.makeFunc] at hm)),?_⟩;clear hK' K)
  (refine Conc.Goes.step rfl (fun w₁ h₁=>?_);replace hK:=hK.rely h₁;clear h₁;rw [stepG_region_end];simp only [goes_go];refine⟨DO.none _,?_⟩)
  (refine Conc.Goes.step rfl (fun w₁ h₁=>?_);replace hK:=hK.rely h₁;clear h₁;rw [stepG_cond (t:=false) rfl];simp only [goes_go,if_true,if_false,Bool.false_eq_true,↓reduceIte];refine⟨DO.none _,?_⟩)
  (refine Conc.Goes.step rfl (fun w₁ h₁=>?_);replace hK:=hK.rely h₁;clear h₁;rw [stepG_skip];simp only [goes_go];refine⟨DO.none _,?_⟩)
  (refine Conc.Goes.step rfl (fun w₁ h₁=>?_);replace hK:=hK.rely h₁;clear h₁;rw [stepG_region];simp only [goes_go,List.size_toArray,List.length_cons,List.length_nil,Nat.reduceAdd,Nat.zero_add,List.range,List.range.loop];refine⟨DO.none _,?_⟩)
  (refine Conc.Goes.step rfl (fun w₁ h₁=>?_);replace hK:=hK.rely h₁;clear h₁;have hF:=(show _=_ from cell_at_row hK.box);refine goes_oper_k rfl rfl (by decide) (fun K hK'=>?_);go_simp;refine hK' _ _ ⟨DO.quiet (fun e he=>(by have hm:=mem_listed he;simp [go_sem,hF] at hm;subst hm;exact .inr ⟨rfl,_,rfl,block_low hK.box,nofun,fun z=>absurd z hK.bO⟩)),?_⟩;clear hK' K hF)
  (refine Conc.Goes.step rfl (fun w₁ h₁=>?_);replace hK:=hK.rely h₁;clear h₁;refine goes_oper_k rfl rfl (by decide) (fun K hK'=>?_);go_simp;refine hK' _ _ ⟨DO.quiet (fun e he=>(by have hm:=mem_listed he;simp [go_sem,Instr.makeInterface,Instr.makeFunc] at hm)),?_⟩;clear hK' K)
  exact Conc.Goes.stop (fun w₁ h₁=>⟨⟨_,by simp only [root1Fr,rootEnd,root1Ops4,root1C,cOps,cL,cR,Try.f95,Option.getD_some];rfl⟩,hK.rely h₁⟩)
end
end Go.Proofs.Ytkjnamhgemidkaa
namespace Go.Proofs.Ytkjnamhgemidkaa
open Go Go.Conc
set_option linter.unusedSimpArgs false
set_option linter.unusedVariables false
open Go.ConcN (sumTo upd sumTo_upd upd_ne upd_same)
set_option maxRecDepth 100000 in
theorem root_send (bx dn n:Nat) (cs:List Frame) (main:Bool) (w:World) :
    stepG Try.prog main (Go.Conc.G (root1Fr bx dn n [2]) cs) w=.comm (Go.Conc.G (root1Fr bx dn n [2]) cs) #[scase dn .nilIface (.tuple #[])] true .send w:=by
  simp only [root1Fr,root1Ops4,root1C,cOps,cL,cR,Try.f95,Option.getD_some]
  rw [stepG_comm (w':=w) (cases:=#[scase dn .nilIface (.tuple #[])]) (blocking:=true) (shape:=.send) rfl rfl (by decide) (by simp [go_sem,execOp,scase,Act.eval]),listed_none (by simp [go_sem,execOp,Act.eval])]
set_option maxRecDepth 100000 in
theorem root_quits (bx dn dn0 n wb:Nat) (fv z:Value):QuitsD Try.prog 5 0 ((Go.Conc.G (root1Fr bx dn n [2]) [rootEnd fv z wb dn0 bx,botF]).finishComm Try.prog #[scase dn .nilIface (.tuple #[])] .send 0 undef false):=by
  have h:(Go.Conc.G (root1Fr bx dn n [2]) [rootEnd fv z wb dn0 bx,botF]).finishComm Try.prog #[scase dn .nilIface (.tuple #[])] .send 0 undef false=Go.Conc.G (root1Fr bx dn n []) [rootEnd fv z wb dn0 bx,botF]:=by
    simp only [Goroutine.finishComm,root1Fr,root1Ops4,root1C,cOps,cL,cR,Try.f95,Option.getD_some,Go.Conc.G,Frame.finish_at]
    rfl
  rw [h]
  refine QuitsD.ctl rfl (fun _=>stepG_region_end) ?_
  refine QuitsD.ctl rfl (fun _=>stepG_end) ?_
  refine QuitsD.leaveD rfl rfl Try.func95 rfl rfl ?_
  refine QuitsD.ctl (g':=Go.Conc.G botF []) rfl (fun w=>?_) ?_
  · simp [Go.Conc.G,rootEnd,stepG,unwind,doReturn,results,Frame.at,baseD,botF,Try.func71,Try.results71,seen,GStep.after,goexitEntry]
  refine QuitsD.ctl (g':={ Go.Conc.G botF [] with status:=.finished }) rfl (fun w=>?_) ⟨rfl,rfl⟩
  simp [Go.Conc.G,stepG,unwind,botF,goexitEntry,Frame.catches]
  rfl
end Go.Proofs.Ytkjnamhgemidkaa
namespace Go.Proofs.Ytkjnamhgemidkaa
open Go Go.Conc
set_option linter.unusedSimpArgs false
set_option linter.unusedVariables false
open Go.ConcN (sumTo upd sumTo_upd upd_ne upd_same)
section
variable {S:St} {k:Nat} {self:Int} {quit:Nat} {closed closed' busy busy':Bool} {hp gid dn:Nat} {pend pend':Option Nat}
abbrev endS (S:St) (k:Nat) (self:Int) (quit:Nat) (closed busy:Bool) (c:Nat × Nat × Nat) (pend:Option Nat):St:=S.set k (.thr self quit closed busy (some c) pend)
theorem end_at (hS:S[k]?=some (.thr self quit closed busy (some (hp,gid,dn)) pend)):(endS S k self quit closed' busy' (hp,gid,dn) pend')[k]?=some (.thr self quit closed' busy' (some (hp,gid,dn)) pend'):=List.getElem?_set_self (ob_lt hS)
theorem end_ne {i:Nat} (hi:i≠k):(endS S k self quit closed' busy' (hp,gid,dn) pend')[i]?=S[i]?:=List.getElem?_set_ne (Ne.symm hi)
theorem end_oth (hS:S[k]?=some (.thr self quit closed busy (some (hp,gid,dn)) pend)) {i:Nat} {ob:Ob} (ho:∀ a b c d e f,ob≠.thr a b c d e f):(endS S k self quit closed' busy' (hp,gid,dn) pend')[i]?=some ob↔S[i]?=some ob:=by
  by_cases hi:i=k
  · subst hi;rw [end_at hS,hS];exact⟨fun h=>absurd (Option.some.inj h).symm (ho _ _ _ _ _ _),fun h=>absurd (Option.some.inj h).symm (ho _ _ _ _ _ _)⟩
  · rw [end_ne hi]
theorem end_ch (hS:S[k]?=some (.thr self quit closed busy (some (hp,gid,dn)) pend)) {i s c:Nat} (h:ChS (endS S k self quit closed' busy' (hp,gid,dn) pend') i s c):ChS S i s c:=by
  cases h with
  | quit h =>
    by_cases hi:i=k
    · subst hi;rw [end_at hS] at h;cases h;exact .quit hS
    · rw [end_ne hi] at h;exact .quit h
  | done h =>
    by_cases hi:i=k
    · subst hi;rw [end_at hS] at h;cases h;exact .done hS
    · rw [end_ne hi] at h;exact .done h
  | ask h=>exact .ask ((end_oth hS (fun _ _ _ _ _ _ e=>by cases e)).1 h)
  | grant h=>exact .grant ((end_oth hS (fun _ _ _ _ _ _ e=>by cases e)).1 h)
end
section
variable {F:Emb} {Inb:Nat→Option Seat} {gs gs':Array Goroutine} {w w':World} {T T':Trace}
variable (hok:∀ mn OB WB,PrimOK mn OB WB)
variable {Γ:Type} {Pr:Proto Γ}
theorem ended (d:BD Γ) (hd:d.Ok) {hs:AHeap} {sl:Option (Nat × Nat)} {γ:Γ} {bx wb dn0 n:Nat} {fv z:Value}
    (H:Standing d.p hok d.Su d.S F (.run [] [] hs d.S) Inb gs w T)
    (hg:gs[d.p.h]?=some (Go.Conc.G (root1Fr bx d.dn n [2]) [rootEnd fv z wb dn0 bx,botF]))
    (hInv:Pr.Inv γ hs d.S) (hph:Pr.ph γ d.k=none) (hoth:∀ i,i≠d.k→Pr.ph γ i=Pr.ph d.γ i) (hfuel:Pr.fuel γ=Pr.fuel d.γ) :
    Reach Try.prog (crowd gs w sl) T (Came hok Pr (BSusp hok Pr) d):=by
  have hc:=H.com
  have t:=hc.tab
  obtain⟨B0,Mem,q0,R0,hM0,hMh⟩:=hc.ring
  have hthr:=hd.thr
  have hwp:=hd.wp
  obtain⟨_,hp',gid',dn',ws',st',ak',gr',e1,e2,cask,cgr,cdn,hgid,hgsz,hbox⟩:=t.busy _ _ _ _ _ _ hthr
  cases e1
  rw [hwp] at e2
  cases e2
  have fdn:=t.far _ _ _ (.done hthr)
  have hI0:Inb 0=some (seatG d.tb (d.p.FR.blk (VB+d.hp)) d.dn d.ask d.cs0):=by rw [hc.main,hd.seat]
  obtain⟨kd,hkd⟩:=cdn
  have hsz0:0<gs.size:=by omega
  refine (giveB (P:=Try.prog) (kk:=1) (cap:=1) (c:=d.dn) (v:=.nilIface) (z:=.nilIface) (z':=.tuple #[]) (by omega) (fun e=>hd.h0 e.symm) hI0 rfl hMh rfl fdn.2.2 (fun main w=>root_send bx d.dn n _ main w) (nh:=5) (by have:=hd.h0;omega) (root_quits bx d.dn dn0 n wb fv z) w _ (sl:=sl) rfl hsz0 (SideD.refl w) hkd hg R0).mono fun m T'=>?_
  rintro ⟨gs',g₂,w1,k1,sl',q',rfl,b1,b2,b3,b4,b5,b6,R3⟩
  have b3:g₂=goesG d.tb (d.p.FR.blk (VB+d.hp)) d.dn d.ask d.cs0:=b3
  subst b3
  have hX:=X_body hok (p:=d.p) hd.h0
  have b5:IvN d.p.OB d.wN 0 w1:=hd.iv ▸ b5
  have hsz2:(w1.setChan d.dn 1 #[] false (k1+1) (k1+1) false).heap.size=w.heap.size:=by rw [←b4.size];simp [World.setChan]
  have hset:∀ x,x≠d.dn→¬ d.p.OB x→(w1.setChan d.dn 1 #[] false (k1+1) (k1+1) false).heap[x]?=w.heap[x]?:=fun x hx hO=>by
    rw [heap_setChan_ne _ _ _ _ _ _ _ (fun e=>hx e.symm),b4.only x hO hx]
  have hdn:∃ a,w1.heap[d.dn]?=some a:=⟨_,Array.getElem?_eq_getElem b6⟩
  obtain⟨odn,hodn⟩:=hdn
  have hset1:(w1.setChan d.dn 1 #[] false (k1+1) (k1+1) false).heap[d.dn]?=some (.chan 1 #[] false (k1+1) (k1+1) false):=heap_setChan_self w1 hodn _ _ _ _ _ _
  have hvne:∀ x,Vis (d.p.X hok) F (.run [] [] hs d.S) x→x≠d.dn:=fun x hx e=>H.chan_out hok fdn.1 (e ▸ hx)
  have hvis:∀ x,Vis (d.p.X hok) F (.run [] [] hs d.S) x→(w1.setChan d.dn 1 #[] false (k1+1) (k1+1) false).heap[x]?=w.heap[x]?:=fun x hx=>hset x (hvne x hx) fun z=>H.ov hd.h0 x z hx
  generalize hw2:w1.setChan d.dn 1 #[] false (k1+1) (k1+1) false=w2 at *
  have hap:∀ x,d.p.OB x→¬ d.p.WB x:=R0.apart
  have hch:∀ c,¬ d.p.OB c→(IsChan w c→IsChan w2 c)∧∀ cap,ChanO w c cap→ChanO w2 c cap:=fun c hO=>by
    by_cases e:c=d.dn
    · subst e
      refine⟨fun _=>⟨_,_,_,_,_,_,hset1⟩,fun cap h=>?_⟩
      obtain⟨m,hm⟩:=h
      rw [hkd] at hm
      cases hm
      exact⟨_,hset1⟩
    · refine⟨fun h=>?_,fun cap h=>?_⟩
      · obtain⟨a1,a2,a3,a4,a5,a6,a7⟩:=h;exact⟨a1,a2,a3,a4,a5,a6,by rw [hset c e hO];exact a7⟩
      · obtain⟨m,hm⟩:=h;exact⟨m,by rw [hset c e hO];exact hm⟩
  have t2:Tab d.p.OB d.p.WB d.S F gs'.size w2:=by rw [b1];exact t.turn (p:=d.p) (Nat.le_refl _) (Same.refl (Kn 0 d.S.length) F) (Nat.le_of_eq hsz2.symm) hch
  have hlen:(endS d.S d.k d.self d.quit false false (d.hp,d.p.h,d.dn) none).length=d.S.length:=by simp
  have hoth':∀ {i:Nat} {ob:Ob},(∀ a b c d e f,ob≠.thr a b c d e f)→((endS d.S d.k d.self d.quit false false (d.hp,d.p.h,d.dn) none)[i]?=some ob↔d.S[i]?=some ob):=fun ho=>end_oth hthr ho
  refine⟨gs',w2,sl',F,hs,γ,1,.nilIface,fun i=>if i=0 then none else (if i=d.p.h then none else Inb i),endS d.S d.k d.self d.quit false false (d.hp,d.p.h,d.dn) none,d.Su,d.p.Iv,rfl,b2,hoth,hfuel,hInv,H.same.1,H.same.2.1,fun b hb=>?_,hX ▸ rinv_world (Nat.le_of_eq hsz2.symm) hvis H.inv,fun x hx=>hX ▸ H.ov hd.h0 x hx,fun x hx=>?_,fun x hx=>?_,H.wro,H.base.move (Nat.le_of_eq hsz2.symm) (fun x _ hx=>hX.symm ▸ hx) (fun _ _ h=>h) (fun x _ _ h2 h3=>hset x (h3 _ _ _ (.done hthr)) h2) (fun _ _ _ h=>.inl h),⟨⟨_,_,_,R3.unseat,⟨hM0,fun e=>hd.h0 e.symm,by rw [hI0];simp⟩,⟨hM0,fun e=>hd.h0 e.symm,by rw [hI0];simp⟩⟩,?_,if_pos rfl,fun i s hi=>?_,fun k self quit closed hp gid dn pend hq=>?_,hc.n0,Nat.le_of_eq hlen⟩,.inr ⟨rfl,hph,rfl,rfl,rfl⟩⟩
  · have hne3:b≠d.dn:=fun e=>fdn.2.1 (e ▸ hb)
    rw [←hw2,heap_setChan_ne _ _ _ _ _ _ _ (fun e=>hne3 e.symm)]
    exact b5 rfl b hb
  · obtain⟨h1,h2,h3,h4⟩:=H.prot x hx
    obtain⟨cc',el,fr,h5⟩:=hd.px x hx
    rw [hsz2]
    refine⟨h1,hX ▸ h2,h3,(hset x (fun e=>?_) h3).trans h4⟩
    rw [e] at h4 h5
    rw [h5,hkd] at h4
    cases h4
  · obtain⟨cc',el,h1,h2⟩:=H.wrow x hx
    exact⟨cc',el,(hset x (fun e=>by rw [e,hkd] at h1;cases h1) fun z=>hap x z hx).trans h1,h2⟩
  · refine⟨fun b=>?_,fun b=>?_,fun k s c k' s' h1 h2=>t2.dist k s c k' s' (end_ch hthr h1) (end_ch hthr h2),fun k s c h=>t2.far k s c (end_ch hthr h),t2.olow,fun k a b c d' e h=>?_,fun k a b c d' e h=>?_⟩
    · refine (t2.obs b).trans ⟨?_,?_⟩
      · rintro ⟨k,a1,a2,a3,a4,a5,a6,a7,a8⟩
        by_cases e:k=d.k
        · subst e;exact⟨d.k,_,_,_,_,_,_,end_at hthr,a8⟩
        · exact⟨k,a1,a2,a3,a4,a5,a6,(end_ne e).trans a7,a8⟩
      · rintro ⟨k,a1,a2,a3,a4,a5,a6,a7,a8⟩
        by_cases e:k=d.k
        · subst e;exact⟨d.k,_,_,_,_,_,_,hthr,a8⟩
        · exact⟨k,a1,a2,a3,a4,a5,a6,(end_ne e).symm.trans a7,a8⟩
    · refine (t2.wbs b).trans ⟨?_,?_⟩
      · rintro ⟨k,a1,a2,a3,a4,a5,a7,a8⟩;exact⟨k,a1,a2,a3,a4,a5,(hoth' (fun _ _ _ _ _ _ e=>by cases e)).2 a7,a8⟩
      · rintro ⟨k,a1,a2,a3,a4,a5,a7,a8⟩;exact⟨k,a1,a2,a3,a4,a5,(hoth' (fun _ _ _ _ _ _ e=>by cases e)).1 a7,a8⟩
    · by_cases e':k=d.k
      · subst e'
        rw [end_at hthr] at h
        cases h
        exact t2.quit _ _ _ _ _ _ hthr
      · rw [end_ne e'] at h;exact t2.quit _ _ _ _ _ _ h
    · by_cases e':k=d.k
      · subst e'
        rw [end_at hthr] at h
        cases h
      · rw [end_ne e'] at h
        obtain⟨h1,hp',gid,dn,ws,st,ak,gr,h2,h3,h4,h5,h6,h7,h8,h9⟩:=t2.busy _ _ _ _ _ _ h
        exact⟨h1,hp',gid,dn,ws,st,ak,gr,h2,(hoth' (fun _ _ _ _ _ _ e=>by cases e)).2 h3,h4,h5,h6,h7,h8,(hoth' (fun _ _ _ _ _ _ e=>by cases e)).2 h9⟩
  · show i≠0∧i<gs'.size∧_
    by_cases h0:i=0
    · simp [h0] at hi
    rw [if_neg h0] at hi
    by_cases e:i=d.p.h
    · rw [if_pos e] at hi;cases hi
    rw [if_neg e] at hi
    refine⟨h0,by rw [b1];exact (hc.seats i s hi).2.1,fun _=>?_⟩
    obtain⟨k,c1,c2,c3,c4,c5,c6,c7,c8⟩:=(hc.seats i s hi).2.2 h0
    refine⟨k,c1,c2,c3,c4,c5,c6,by simp,?_⟩
    rw [end_ne]
    · exact c8
    rintro rfl
    exact c7 hd.run
  · refine⟨fun e=>(by cases e),fun _=>?_⟩
    by_cases e:k=d.k
    · subst e
      rw [end_at hthr] at hq
      cases hq
    · rw [end_ne e] at hq
      obtain⟨ws,st,ak,gr,ab',x,y,cs',h3,h4,h5⟩:=(hc.waits k self quit closed hp gid dn pend hq).2 (by rw [hd.run];simpa using fun z=>e z.symm)
      obtain⟨h6,h7,h8⟩:=hc.seats gid _ h4
      obtain⟨hp3,gid3,dn3,_,_,_,_,z1,_,_,_,_,z2,_⟩:=(t.busy _ _ _ _ _ _ hq).2
      cases z1
      refine⟨ws,st,ak,gr,ab',x,y,cs',(hoth' (fun _ _ _ _ _ _ e=>by cases e)).2 h3,?_,h5⟩
      show (if gid=0 then none else if gid=d.p.h then none else Inb gid)=_
      rw [if_neg (by omega),if_neg h6,h4]
end
section
variable (hok:∀ mn OB WB,PrimOK mn OB WB)
variable {Γ:Type} (Pr:Proto Γ)
def EndB (k:Nat) (hs:AHeap) (S:St) (γ:Γ × St):Prop:=S=γ.2∧∃ γ1,Pr.Inv γ1 hs S∧Pr.ph γ1 k=none∧(∀ i,i≠k→Pr.ph γ1 i=Pr.ph γ.1 i)∧Pr.fuel γ1=Pr.fuel γ.1
set_option maxRecDepth 100000 in
theorem rootOps2_dst:(rootOps2[3]?).bind (·.dst)=some 10:=by
  simp only [rootOps2,rootC,cOps,cL,cR,Try.f71,Option.getD_some]
  rfl
theorem root_back (fv v:Value) (wb dn bx:Nat):(rootFr fv wb dn bx [3]).finish v=(baseD 71).at ⟨rootT fv wb dn bx v,[dclos 95 #[pt bx]]⟩ [.inRegion rootOps2 []]:=by
  simp only [rootFr,Frame.finish_at,rootOps2_dst]
  rfl
theorem body_ends {k hp bx:Nat} {fv:Value} {wbr dn0:Nat} {b:Frame} {F0:Emb} {N0 C0:Nat} {v:Value} {hs:AHeap} {S:St} {γ:Γ × St} (hE:EndB Pr k hs S γ):Safe hok (ClB k hp bx) SuB (FinB hok Pr) b [rootFr fv wbr dn0 bx [3],botF] F0 N0 C0 (.done v hs S) γ:=by
  intro d p Inb F gs w sl T g hC H hg hS _ _ _
  obtain⟨rfl,hγ,hd,rfl,rfl,hbx⟩:=hC
  subst hγ
  obtain⟨hSγ,γ1,hInv,hph,hoth,hfuel⟩:=hE
  have hSγ:S=d.S:=hSγ
  subst hSγ
  have H:Standing d.p hok d.Su d.S F (.done v hs d.S) Inb gs w T:=H
  obtain⟨fr,rfl,_,_,hl⟩:=hS
  have hl:=hl _ _ rfl
  rw [root_back] at hl
  refine (stand_step hok hd.mono (c':=.run [] [] hs d.S) (sl:=sl) H hg rfl hl rfl rfl (fun v hv=>by cases hv)).bind fun m1 T1=>?_
  rintro ⟨gs1,w1,sl1,rfl,k1,_,H1⟩
  obtain⟨B,Mem,q,R,hM0,hMh⟩:=H1.com.ring
  have t:=H1.com.tab
  obtain⟨_,hp',gid',dn',ws',st',ak',gr',e1,e2,cask,cgr,cdn,hgid,hgsz,hbox⟩:=t.busy _ _ _ _ _ _ hd.thr
  cases e1
  have hbF:F.blk (VB+(d.hp+1))=bx:=by
    rw [←hbx]
    exact ((H1.same.1 (VB+(d.hp+1)) (.inr ⟨by omega,by rw [hd.cr];have:=ob_lt hbox;omega⟩)).1).symm
  have Rp:Rep d.p.mn d.p.OB d.p.WB F d.S w1:=H1.inv.1.rep
  have hrow:w1.heap[bx]?=some (.cells #[.chan (some d.dn)] 142 (0,0)):=by
    have:=Rp.at' _ _ hbox
    rw [←hbF];exact this
  have hOb:¬ d.p.OB bx:=fun z=>H1.ov hd.h0 bx z (.inr ⟨d.hp+1,_,hbox,by rw [←hbF];simp [obBlk]⟩)
  have hb0:(d.p.h==0)=false:=by simp [hd.h0]
  have hlow:∀ b,Leant d.p.OB d.p.WB Inb b→b<w1.heap.size:=fun b hb=>by
    rcases hb with hb|hb|⟨i,s,hi,hs⟩
    · exact t.olow b hb
    · obtain⟨_,_,h1,_⟩:=H1.wrow b hb;exact block_low h1
    · obtain⟨cap,k,hx⟩:=R.chans i s b (fun z=>z) hi hs
      exact block_low hx
  have hgo:=root_end (OB:=d.p.OB) (WB:=d.p.WB) (Inb:=Inb) (h:=d.p.h) (fv:=fv) (z:=ren F v) (wb:=wbr) (dn0:=dn0) (dn:=d.dn) (bx:=bx) w1 w1 ⟨hlow,fun _ _ _=>rfl,Nat.le_refl _,hrow,hOb⟩
  rw [←hb0] at hgo
  refine (hold_goes (sl:=sl1) 60 k1 hgo R).bind fun m2 T2=>?_
  rintro ⟨gs2,g2,w2,sl2,q2,B2,rfl,j1,j2,⟨⟨n,rfl⟩,hK⟩,R2⟩
  have H2:Standing d.p hok d.Su d.S F (.run [] [] hs d.S) Inb gs2 w2 T2:=H1.grown hok hd.mono (fun x hx hO=>hK.old x (fun z=>hO ⟨z,hd.h0⟩) hx) hK.size j1 ⟨B2,Mem,q2,R2,hM0,hMh⟩
  exact ended hok d hd H2 j2 hInv hph hoth hfuel
end
section
variable {P:Program}
theorem listed_calm {fn:FuncId} {a:Act} {o:Oper} {w:World} {r:Next} (h:calm P (execOp a.eval o)=some r):listed P fn a o w=#[]:=by
  show seen P fn ((execOp a.eval o).events P w #[])=#[]
  rw [show (execOp a.eval o).events P w #[]=#[] from by show ((execOp a.eval o).runT P w #[]).2=#[];rw [(calm_runT h w #[]).1],seen_none]
theorem listed_bin {fn:FuncId} {a:Act} {o:Oper} {w:World} {t yt:TypeId} {op:BinOp} {x y:Operand} {u v r:Value} (ho:o.op=.binOp op t x y yt) (hx:a.eval x=u) (hy:a.eval y=v) (hu:ren ⟨id,fun _=>0,fun _=>0⟩ u=u) (hv:ren ⟨id,fun _=>0,fun _=>0⟩ v=v) (h:binOpA P op t y u v=some r):listed P fn a o w=#[]:=by
  have hc:=binOpA_calm (P:=P) (F:=⟨id,fun _=>0,fun _=>0⟩) (x:=x) h
  rw [hu,hv] at hc
  refine listed_calm (r:=.value (ren ⟨id,fun _=>0,fun _=>0⟩ r)) ?_
  simp only [execOp,ho,hx,hy]
  rw [calm_bind,hc]
  rfl
theorem listed_nilp {fn:FuncId} {a:Act} {o:Oper} {w:World} {t yt:TypeId} {x y:Operand} {p:Option Addr} {r:Value} (ho:o.op=.binOp .eql t x y yt) (hx:a.eval x=.pointer p) (hy:a.eval y=.pointer none) (h:binOpA P .eql t y (.pointer p) (.pointer none)=some r):listed P fn a o w=#[]:=by
  have hr:ren ⟨id,fun _=>0,fun _=>0⟩ (.pointer p)=.pointer p:=by
    cases p with
    | none=>simp
    | some a=>simp [adr]
  have hc:=binOpA_calm (P:=P) (F:=⟨id,fun _=>0,fun _=>0⟩) (x:=x) h
  rw [hr,ren_pnone] at hc
  refine listed_calm (r:=.value (ren ⟨id,fun _=>0,fun _=>0⟩ r)) ?_
  simp only [execOp,ho,hx,hy]
  rw [calm_bind,hc]
  rfl
end
section
variable {OB WB:Nat→Prop} {Inb:Nat→Option Seat}
structure KM (w0 w:World):Prop where
  heap:w.heap=w0.heap
theorem KM.rely {w0 w w1:World} (K:KM w0 w) (r:Ro OB 0 w w1):KM w0 w1:=⟨by rw [r.heap0];exact K.heap⟩
theorem KM.cell {w0 w:World} (K:KM w0 w) {a:Addr} {v:Value} (h:w0.cell? a=some v):w.cell? a=some v:=(cell_at w0 w a (by rw [K.heap])).trans h
theorem evO_cell {w:World} {a:Addr} {v:Value} (h:w.cell? a=some v):EvO OB WB 0 w ⟨.cell a,false,false⟩:=by
  obtain⟨c,el,fr,hb,_⟩:=cell_block h
  exact .inr ⟨rfl,a,rfl,block_low hb,nofun,fun _=>rfl⟩
noncomputable def grantC:Code:=(Try.f18.body).getD .skip
noncomputable def grantOps3:Array Oper:=cOps (cL (cR (cR grantC)))
noncomputable def grantR:Code:=cR (cR (cR grantC))
noncomputable def grantOps4:Array Oper:=cOps (cL grantR)
noncomputable def grantR5:Code:=cR grantR
abbrev grantT (tb wb gr:Nat) (pb:Addr) (v z:Value):Array Value:=#[pt tb,v,undef,undef,.bool false,pt tb,.bool false,.bool false,pt tb,pt tb,pt tb 3,.pointer (some pb),.bool false,.bool false,pt tb,pt tb,pt tb 1,pt wb,pt wb,pt wb 4,.chan (some gr),v,z,undef]
noncomputable def grantFr (tb wb gr:Nat) (pb:Addr) (v:Value) (rest:List Nat):Frame:=(base 18).at ⟨grantT tb wb gr pb v undef,[]⟩ [.inRegion grantOps3 rest,.code grantR]
noncomputable def grantFr4 (tb wb gr:Nat) (pb:Addr) (v:Value) (rest:List Nat):Frame:=(base 18).at ⟨grantT tb wb gr pb v (pt tb),[]⟩ [.inRegion grantOps4 rest,.code grantR5]
structure KGr (w:World) (tb wb dn ak gr:Nat) (pb:Addr):Prop where
  port:w.cell? ⟨tb,1,none⟩=some (.pointer (some ⟨wb,0,none⟩))
  pend:w.cell? ⟨tb,3,none⟩=some (.pointer (some pb))
  grant:w.cell? ⟨wb,4,none⟩=some (.chan (some gr))
set_option maxRecDepth 100000 in
theorem grant_way {w0 w:World} {tb wb dn ak gr:Nat} {pb:Addr} {v:Value} (hG:KGr w0 tb wb dn ak gr pb) (hK:KM w0 w) (cs:List Frame) :
    Conc.Goes Try.prog true (Ro OB 0) (DO OB WB Inb 0) (fun g w'=>g=Go.Conc.G (grantFr tb wb gr pb v [8]) cs∧KM w0 w') 60 (Go.Conc.G ((base 18).at ⟨#[pt tb,v,undef,undef,undef,undef,undef,undef,undef,undef,undef,undef,undef,undef,undef,undef,undef,undef,undef,undef,undef,undef,undef,undef],[]⟩ [.code grantC]) cs) w:=by
  simp only [grantC,Try.f18,Option.getD_some]
  (refine Conc.Goes.step rfl (fun w₁ h₁=>?_);replace hK:=hK.rely h₁;clear h₁;rw [stepG_seq];simp only [goes_go];refine⟨DO.none _,?_⟩)
  (refine Conc.Goes.step rfl (fun w₁ h₁=>?_);replace hK:=hK.rely h₁;clear h₁;rw [stepG_region];simp only [goes_go,List.size_toArray,List.length_cons,List.length_nil,Nat.reduceAdd,Nat.zero_add,List.range,List.range.loop];refine⟨DO.none _,?_⟩)
  (refine Conc.Goes.step rfl (fun w₁ h₁=>?_);replace hK:=hK.rely h₁;clear h₁;refine goes_oper_k rfl rfl (by decide) (fun K hK'=>?_);go_simp;refine hK' _ _ ⟨DO.quiet (fun e he=>(by have hm:=mem_listed he;simp [go_sem,Instr.makeInterface,Instr.makeFunc] at hm)),?_⟩;clear hK' K)
  (refine Conc.Goes.step rfl (fun w₁ h₁=>?_);replace hK:=hK.rely h₁;clear h₁;rw [stepG_region_end];simp only [goes_go];refine⟨DO.none _,?_⟩)
  (refine Conc.Goes.step rfl (fun w₁ h₁=>?_);replace hK:=hK.rely h₁;clear h₁;rw [stepG_seq];simp only [goes_go];refine⟨DO.none _,?_⟩)
  (refine Conc.Goes.step rfl (fun w₁ h₁=>?_);replace hK:=hK.rely h₁;clear h₁;rw [stepG_seq];simp only [goes_go];refine⟨DO.none _,?_⟩)
  (refine Conc.Goes.step rfl (fun w₁ h₁=>?_);replace hK:=hK.rely h₁;clear h₁;rw [stepG_region];simp only [goes_go,List.size_toArray,List.length_cons,List.length_nil,Nat.reduceAdd,Nat.zero_add,List.range,List.range.loop];refine⟨DO.none _,?_⟩)
  (refine Conc.Goes.step rfl (fun w₁ h₁=>?_);replace hK:=hK.rely h₁;clear h₁;refine goes_oper_k rfl rfl (by decide) (fun K hK'=>?_);go_simp;refine hK' _ _ ⟨DO.quiet (fun e he=>(by have hm:=mem_listed he;simp [go_sem,Instr.makeInterface,Instr.makeFunc] at hm)),?_⟩;clear hK' K)
  refine Conc.Goes.step rfl (fun w₁ h₁=>?_)
  replace hK:=hK.rely h₁;clear h₁
  refine goes_oper_k rfl rfl (by decide) (fun K hK'=>?_)
  go_simp
  refine hK' _ _ ⟨DO.quiet (fun e he=>(by rw [listed_nilp rfl rfl rfl rfl] at he;simp at he)),?_⟩
  clear hK' K
  (refine Conc.Goes.step rfl (fun w₁ h₁=>?_);replace hK:=hK.rely h₁;clear h₁;refine goes_oper_k rfl rfl (by decide) (fun K hK'=>?_);go_simp;refine hK' _ _ ⟨DO.quiet (fun e he=>(by have hm:=mem_listed he;simp [go_sem,Instr.makeInterface,Instr.makeFunc] at hm)),?_⟩;clear hK' K)
  (refine Conc.Goes.step rfl (fun w₁ h₁=>?_);replace hK:=hK.rely h₁;clear h₁;refine goes_oper_k rfl rfl (by decide) (fun K hK'=>?_);go_simp;refine hK' _ _ ⟨DO.quiet (fun e he=>(by have hm:=mem_listed he;simp [go_sem,Instr.makeInterface,Instr.makeFunc] at hm)),?_⟩;clear hK' K)
  (refine Conc.Goes.step rfl (fun w₁ h₁=>?_);replace hK:=hK.rely h₁;clear h₁;refine goes_oper_k rfl rfl (by decide) (fun K hK'=>?_);go_simp;refine hK' _ _ ⟨DO.quiet (fun e he=>(by have hm:=mem_listed he;simp [go_sem,Instr.makeInterface,Instr.makeFunc] at hm)),?_⟩;clear hK' K)
  (refine Conc.Goes.step rfl (fun w₁ h₁=>?_);replace hK:=hK.rely h₁;clear h₁;refine goes_oper_k rfl rfl (by decide) (fun K hK'=>?_);go_simp;refine hK' _ _ ⟨DO.quiet (fun e he=>(by have hm:=mem_listed he;simp [go_sem,Instr.makeInterface,Instr.makeFunc] at hm)),?_⟩;clear hK' K)
  (refine Conc.Goes.step rfl (fun w₁ h₁=>?_);replace hK:=hK.rely h₁;clear h₁;have hF:=(hK.cell hG.pend);refine goes_oper_k rfl rfl (by decide) (fun K hK'=>?_);go_simp;refine hK' _ _ ⟨DO.quiet (fun e he=>(by have hm:=mem_listed he;simp [go_sem,hF] at hm;subst hm;exact evO_cell (hK.cell hG.pend))),?_⟩;clear hK' K hF)
  refine Conc.Goes.step rfl (fun w₁ h₁=>?_)
  replace hK:=hK.rely h₁;clear h₁
  refine goes_oper_k rfl rfl (by decide) (fun K hK'=>?_)
  go_simp
  refine hK' _ _ ⟨DO.quiet (fun e he=>(by rw [listed_nilp rfl rfl rfl rfl] at he;simp at he)),?_⟩
  clear hK' K
  (refine Conc.Goes.step rfl (fun w₁ h₁=>?_);replace hK:=hK.rely h₁;clear h₁;refine goes_oper_k rfl rfl (by decide) (fun K hK'=>?_);go_simp;refine hK' _ _ ⟨DO.quiet (fun e he=>(by have hm:=mem_listed he;simp [go_sem,Instr.makeInterface,Instr.makeFunc] at hm)),?_⟩;clear hK' K)
  (refine Conc.Goes.step rfl (fun w₁ h₁=>?_);replace hK:=hK.rely h₁;clear h₁;rw [stepG_region_end];simp only [goes_go];refine⟨DO.none _,?_⟩)
  (refine Conc.Goes.step rfl (fun w₁ h₁=>?_);replace hK:=hK.rely h₁;clear h₁;rw [stepG_cond (t:=false) rfl];simp only [goes_go,if_true,if_false,Bool.false_eq_true,↓reduceIte];refine⟨DO.none _,?_⟩)
  (refine Conc.Goes.step rfl (fun w₁ h₁=>?_);replace hK:=hK.rely h₁;clear h₁;rw [stepG_skip];simp only [goes_go];refine⟨DO.none _,?_⟩)
  (refine Conc.Goes.step rfl (fun w₁ h₁=>?_);replace hK:=hK.rely h₁;clear h₁;rw [stepG_seq];simp only [goes_go];refine⟨DO.none _,?_⟩)
  (refine Conc.Goes.step rfl (fun w₁ h₁=>?_);replace hK:=hK.rely h₁;clear h₁;rw [stepG_region];simp only [goes_go,List.size_toArray,List.length_cons,List.length_nil,Nat.reduceAdd,Nat.zero_add,List.range,List.range.loop];refine⟨DO.none _,?_⟩)
  (refine Conc.Goes.step rfl (fun w₁ h₁=>?_);replace hK:=hK.rely h₁;clear h₁;refine goes_oper_k rfl rfl (by decide) (fun K hK'=>?_);go_simp;refine hK' _ _ ⟨DO.quiet (fun e he=>(by have hm:=mem_listed he;simp [go_sem,Instr.makeInterface,Instr.makeFunc] at hm)),?_⟩;clear hK' K)
  (refine Conc.Goes.step rfl (fun w₁ h₁=>?_);replace hK:=hK.rely h₁;clear h₁;refine goes_oper_k rfl rfl (by decide) (fun K hK'=>?_);go_simp;refine hK' _ _ ⟨DO.quiet (fun e he=>(by have hm:=mem_listed he;simp [go_sem,Instr.makeInterface,Instr.makeFunc] at hm)),?_⟩;clear hK' K)
  (refine Conc.Goes.step rfl (fun w₁ h₁=>?_);replace hK:=hK.rely h₁;clear h₁;refine goes_oper_k rfl rfl (by decide) (fun K hK'=>?_);go_simp;refine hK' _ _ ⟨DO.quiet (fun e he=>(by have hm:=mem_listed he;simp [go_sem,Instr.makeInterface,Instr.makeFunc] at hm)),?_⟩;clear hK' K)
  (refine Conc.Goes.step rfl (fun w₁ h₁=>?_);replace hK:=hK.rely h₁;clear h₁;have hF:=(hK.cell hG.port);refine goes_oper_k rfl rfl (by decide) (fun K hK'=>?_);go_simp;refine hK' _ _ ⟨DO.quiet (fun e he=>(by have hm:=mem_listed he;simp [go_sem,hF] at hm;subst hm;exact evO_cell (hK.cell hG.port))),?_⟩;clear hK' K hF)
  (refine Conc.Goes.step rfl (fun w₁ h₁=>?_);replace hK:=hK.rely h₁;clear h₁;refine goes_oper_k rfl rfl (by decide) (fun K hK'=>?_);go_simp;refine hK' _ _ ⟨DO.quiet (fun e he=>(by have hm:=mem_listed he;simp [go_sem,Instr.makeInterface,Instr.makeFunc] at hm)),?_⟩;clear hK' K)
  (refine Conc.Goes.step rfl (fun w₁ h₁=>?_);replace hK:=hK.rely h₁;clear h₁;refine goes_oper_k rfl rfl (by decide) (fun K hK'=>?_);go_simp;refine hK' _ _ ⟨DO.quiet (fun e he=>(by have hm:=mem_listed he;simp [go_sem,Instr.makeInterface,Instr.makeFunc] at hm)),?_⟩;clear hK' K)
  (refine Conc.Goes.step rfl (fun w₁ h₁=>?_);replace hK:=hK.rely h₁;clear h₁;have hF:=(hK.cell hG.grant);refine goes_oper_k rfl rfl (by decide) (fun K hK'=>?_);go_simp;refine hK' _ _ ⟨DO.quiet (fun e he=>(by have hm:=mem_listed he;simp [go_sem,hF] at hm;subst hm;exact evO_cell (hK.cell hG.grant))),?_⟩;clear hK' K hF)
  (refine Conc.Goes.step rfl (fun w₁ h₁=>?_);replace hK:=hK.rely h₁;clear h₁;refine goes_oper_k rfl rfl (by decide) (fun K hK'=>?_);go_simp;refine hK' _ _ ⟨DO.quiet (fun e he=>(by have hm:=mem_listed he;simp [go_sem,Instr.makeInterface,Instr.makeFunc] at hm)),?_⟩;clear hK' K)
  exact Conc.Goes.stop (fun w₁ h₁=>⟨by simp only [grantFr,grantOps3,grantR,grantC,cOps,cL,cR,Try.f18,Option.getD_some],hK.rely h₁⟩)
set_option maxRecDepth 100000 in
theorem grant_send (tb wb gr:Nat) (pb:Addr) (v:Value) (cs:List Frame) (main:Bool) (w:World) :
    stepG Try.prog main (Go.Conc.G (grantFr tb wb gr pb v [8]) cs) w=.comm (Go.Conc.G (grantFr tb wb gr pb v [8]) cs) #[scase gr v (.tuple #[])] true .send w:=by
  simp only [grantFr,grantOps3,grantR,grantC,cOps,cL,cR,Try.f18,Option.getD_some]
  rw [stepG_comm (w':=w) (cases:=#[scase gr v (.tuple #[])]) (blocking:=true) (shape:=.send) rfl rfl (by decide) (by simp [go_sem,execOp,scase,Act.eval]),listed_none (by simp [go_sem,execOp,Act.eval])]
theorem grant_gave (tb wb gr:Nat) (pb:Addr) (v:Value) (cs:List Frame):(Go.Conc.G (grantFr tb wb gr pb v [8]) cs).finishComm Try.prog #[scase gr v (.tuple #[])] .send ((0:Nat):Int) undef false=Go.Conc.G (grantFr tb wb gr pb v []) cs:=by
  simp only [Goroutine.finishComm,grantFr,grantOps3,grantR,grantC,cOps,cL,cR,Try.f18,Option.getD_some,Go.Conc.G,Frame.finish_at]
  rfl
variable {B:Nat}
set_option maxRecDepth 100000 in
theorem grant_goes {w0 w:World} {tb wb dn ak gr:Nat} {pb:Addr} {v:Value} (hK:KG OB WB w0 tb wb dn ak w) (hne:wb≠tb) (htB:tb<B) (hwB:wb<B) (cs:List Frame) :
    Conc.Goes Try.prog true (Rl OB WB 0) (Dw OB WB B 0) (fun g w=>(∃ g₂,AtS Try.prog (seatG tb wb dn ak (grantFr4 tb wb gr pb v [1]::cs)) g g₂)∧KG OB WB (w0.setCell ⟨tb,3,none⟩ (.pointer none)) tb wb dn ak w) 45 (Go.Conc.G (grantFr tb wb gr pb v []) cs) w:=by
  simp only [grantFr,grantOps3,grantR,grantC,cOps,cL,cR,Try.f18,Option.getD_some]
  (refine Conc.Goes.step rfl (fun w₁ h₁=>?_);replace hK:=hK.rely h₁;clear h₁;rw [stepG_region_end];simp only [goes_go];refine⟨Dw.none _,?_⟩)
  (refine Conc.Goes.step rfl (fun w₁ h₁=>?_);replace hK:=hK.rely h₁;clear h₁;rw [stepG_seq];simp only [goes_go];refine⟨Dw.none _,?_⟩)
  (refine Conc.Goes.step rfl (fun w₁ h₁=>?_);replace hK:=hK.rely h₁;clear h₁;rw [stepG_region];simp only [goes_go,List.size_toArray,List.length_cons,List.length_nil,Nat.reduceAdd,Nat.zero_add,List.range,List.range.loop];refine⟨Dw.none _,?_⟩)
  (refine Conc.Goes.step rfl (fun w₁ h₁=>?_);replace hK:=hK.rely h₁;clear h₁;refine goes_oper_k rfl rfl (by decide) (fun K hK'=>?_);go_simp;refine hK' _ _ ⟨Dw.quiet (fun e he=>(by have hm:=mem_listed he;simp [go_sem,Instr.makeInterface,Instr.makeFunc] at hm)),?_⟩;clear hK' K)
  refine Conc.Goes.step rfl (fun w₁ h₁=>?_)
  replace hK:=hK.rely h₁;clear h₁
  refine goes_call (c:=goesC) rfl rfl (by decide) rfl Try.func72 rfl rfl ⟨Dw.none _,?_⟩
  rw [Try.ntmps72]
  walk_nrm
  have hgo:=way_goes (OB:=OB) (WB:=WB) (B:=B) hK hne htB hwB (grantFr4 tb wb gr pb v [1]::cs)
  simp only [grantFr4,grantOps4,grantR5,grantR,grantC,cOps,cL,cR,Try.f18,Option.getD_some] at hgo ⊢
  exact hgo
end
end Go.Proofs.Ytkjnamhgemidkaa
