/-
  The company, with a thread whose body begins.
  No condition: laws.
-/
import Derived.Test.YtkjnamhgemidkaaUThr35
import Derived.Conc.TokenWalk
import Derived.Below
import Derived.Test.YtkjnamhgemidkaaUQuick
import Derived.Test.YtkjnamhgemidkaaUCo21
namespace Go.Proofs.Ytkjnamhgemidkaa
open Go Go.Conc
set_option linter.unusedSimpArgs false
set_option linter.unusedVariables false
open Go.ConcN (sumTo upd sumTo_upd upd_ne upd_same)
abbrev bornS (S:St) (k:Nat) (self:Int) (quit ask gr gid dn:Nat):St:=S.set k (.thr self quit false true (some (S.length,gid,dn)) none)++[.wp self 0 ask gr quit]++[.box dn]
section
variable {S:St} {k:Nat} {self:Int} {quit ask gr gid dn:Nat} {cl bz:Bool} {cur:Option (Nat × Nat × Nat)} {pend:Option Nat}
theorem born_len:(bornS S k self quit ask gr gid dn).length=S.length+2:=by simp
theorem born_thr (hk:k<S.length):(bornS S k self quit ask gr gid dn)[k]?=some (.thr self quit false true (some (S.length,gid,dn)) none):=by
  rw [List.getElem?_append_left (by simp;omega),List.getElem?_append_left (by simpa using hk),List.getElem?_set_self hk]
theorem born_wp:(bornS S k self quit ask gr gid dn)[S.length]?=some (.wp self 0 ask gr quit):=by
  rw [List.getElem?_append_left (by simp),List.getElem?_append_right (by simp)];simp
theorem born_box:(bornS S k self quit ask gr gid dn)[S.length+1]?=some (.box dn):=by
  rw [List.getElem?_append_right (by simp)];simp
theorem born_old {i:Nat} {ob:Ob} (hi:S[i]?=some ob) (hne:i≠k):(bornS S k self quit ask gr gid dn)[i]?=some ob:=by
  have:=ob_lt hi
  rw [List.getElem?_append_left (by simp;omega),List.getElem?_append_left (by simpa using this),List.getElem?_set_ne (Ne.symm hne)];exact hi
theorem born_case {i:Nat} {ob:Ob} (h:(bornS S k self quit ask gr gid dn)[i]?=some ob):(i=k∧ob=.thr self quit false true (some (S.length,gid,dn)) none)∨(i≠k∧S[i]?=some ob)∨(i=S.length∧ob=.wp self 0 ask gr quit)∨(i=S.length+1∧ob=.box dn):=by
  have hl:=ob_lt h
  rw [born_len] at hl
  rcases Nat.lt_or_ge i S.length with hi|hi
  · by_cases e:i=k
    · subst e
      rw [born_thr hi] at h
      exact .inl ⟨rfl,(Option.some.inj h).symm⟩
    · refine .inr (.inl ⟨e,?_⟩)
      rw [List.getElem?_append_left (by simp;omega),List.getElem?_append_left (by simpa using hi),List.getElem?_set_ne (Ne.symm e)] at h;exact h
  · rcases Nat.eq_or_lt_of_le hi with e|e
    · subst e
      rw [born_wp] at h
      exact .inr (.inr (.inl ⟨rfl,(Option.some.inj h).symm⟩))
    · obtain rfl:i=S.length+1:=by omega
      rw [born_box] at h
      exact .inr (.inr (.inr ⟨rfl,(Option.some.inj h).symm⟩))
variable (hthr:S[k]?=some (Ob.thr self quit cl bz cur pend))
include hthr
theorem born_ch {i s c:Nat} (h:ChS (bornS S k self quit ask gr gid dn) i s c):ChS S i s c∨(i=k∧s=3∧c=dn)∨(i=S.length∧s=1∧c=ask)∨(i=S.length∧s=2∧c=gr):=by
  cases h with
  | quit h =>
    rcases born_case h with ⟨rfl,z⟩|⟨_,z⟩|⟨_,z⟩|⟨_,z⟩
    · cases z;exact .inl (.quit hthr)
    · exact .inl (.quit z)
    · cases z
    · cases z
  | done h =>
    rcases born_case h with ⟨rfl,z⟩|⟨_,z⟩|⟨_,z⟩|⟨_,z⟩
    · cases z;exact .inr (.inl ⟨rfl,rfl,rfl⟩)
    · exact .inl (.done z)
    · cases z
    · cases z
  | ask h =>
    rcases born_case h with ⟨rfl,z⟩|⟨_,z⟩|⟨e,z⟩|⟨_,z⟩
    · cases z
    · exact .inl (.ask z)
    · cases z;exact .inr (.inr (.inl ⟨e,rfl,rfl⟩))
    · cases z
  | grant h =>
    rcases born_case h with ⟨rfl,z⟩|⟨_,z⟩|⟨e,z⟩|⟨_,z⟩
    · cases z
    · exact .inl (.grant z)
    · cases z;exact .inr (.inr (.inr ⟨e,rfl,rfl⟩))
    · cases z
end
section
variable {p:Par} {Su:SuT} {S:St} {F F':Emb} {N C:Nat} {Inb:Nat→Option Seat} {gs gs':Array Goroutine} {w w':World} {T T':Trace}
theorem Com.born (H:Com p Su S F N C Inb gs w T) (hr:p.run=none) (hs0:p.seat0=none) (hSu:SuMono Su) (hC:C=S.length) {k:Nat} {self:Int} {quit ask gr dn wb:Nat} {cur:Option (Nat × Nat × Nat)} {pend:Option Nat} (hthr:S[k]?=some (.thr self quit false false cur pend)) {sG:Seat} {Iv:Nat→World→Prop} {PX:Nat→Prop} {wR:World} {FR:Emb} {NR CR n0':Nat} {w0':World}
    (hgs:0<gs.size) (hF:Same (Kn N C) F F') (hb:F'.blk (VB+S.length)=wb) (hs:w.heap.size≤w'.heap.size) (hsz:gs'.size=gs.size+1) (hW:∀ b,p.WB b→b<w.heap.size) (hk:∀ x,x<w.heap.size→¬ p.OB x→w'.heap[x]?=w.heap[x]?)
    (ha:w.heap.size≤ask) (hg:w.heap.size≤gr) (hd:w.heap.size≤dn) (hwn:w.heap.size≤wb) (hag:ask≠gr) (had:ask≠dn) (hgd:gr≠dn) (hwa:wb≠ask) (hwg:wb≠gr) (hwd:wb≠dn) (cask:ChanO w' ask 0) (cgr:ChanO w' gr 0) (cdn:ChanO w' dn 1)
    (hring:∃ B Mem q,RingO Try.prog p.OB (fun b=>p.WB b∨b=wb) B Iv Mem (fun i=>if i=0 then some sG else Inb i) gs.size T' gs' w' q∧Mem 0∧Mem gs.size) :
    Com ⟨gs.size,some k,p.OB,fun b=>p.WB b∨b=wb,Iv,some sG,PX,wR,FR,NR,CR,n0',w0'⟩ Su (bornS S k self quit ask gr gs.size dn) F' N (C+2) (fun i=>if i=0 then some sG else Inb i) gs' w' T':=by
  subst hC
  have t:=H.tab
  have hkl:=ob_lt hthr
  have hbl:∀ i,i<S.length→F'.blk (VB+i)=F.blk (VB+i):=fun i hi=>((hF (VB+i) (.inr ⟨by omega,by omega⟩)).1).symm
  have hclow:∀ {i s c},ChS S i s c→c<w.heap.size:=fun {i s c} h=>by
    obtain⟨⟨_,_,_,_,_,_,h1⟩,_⟩:=t.far _ _ _ h
    exact block_low h1
  have hkc:∀ {i s c cap},ChS S i s c→ChanO w c cap→ChanO w' c cap:=fun {i s c cap} hc ⟨m,hm⟩=>⟨m,(hk c (hclow hc) (t.far _ _ _ hc).2.1).trans hm⟩
  have hnew:∀ {c cap},w.heap.size≤c→wb≠c→ChanO w' c cap→IsChan w' c∧¬ p.OB c∧¬ (p.WB c∨c=wb):=fun {c cap} h1 h2 h3=>⟨h3.is,fun z=>by have:=t.olow _ z;omega,fun z=>z.elim (fun z=>by have:=hW _ z;omega) fun z=>h2 z.symm⟩
  refine⟨hring,⟨fun b=>?_,fun b=>?_,fun k s c k' s' h1 h2=>?_,fun k s c h=>?_,fun b hO=>Nat.lt_of_lt_of_le (t.olow b hO) hs,fun k a b c d e h=>?_,fun i a b c d e h=>?_⟩,?_,fun i se hi=>?_,fun i a b c d e f g h=>?_,H.n0,by rw [born_len];exact Nat.le_refl _⟩
  · constructor
    · intro h
      obtain⟨i,a1,a2,a3,a4,a5,a6,a7,a8⟩:=(t.obs b).1 h
      by_cases z:i=k
      · subst z
        exact⟨i,_,_,_,_,_,_,born_thr hkl,by rw [hbl i hkl];exact a8⟩
      · exact⟨i,_,_,_,_,_,_,born_old a7 z,by rw [hbl i (ob_lt a7)];exact a8⟩
    · rintro ⟨i,a1,a2,a3,a4,a5,a6,a7,a8⟩
      rcases born_case a7 with ⟨rfl,_⟩|⟨_,h⟩|⟨_,h⟩|⟨_,h⟩
      · exact (t.obs b).2 ⟨i,_,_,_,_,_,_,hthr,by rw [←hbl i hkl];exact a8⟩
      · exact (t.obs b).2 ⟨i,_,_,_,_,_,_,h,by rw [←hbl i (ob_lt h)];exact a8⟩
      · cases h
      · cases h
  · constructor
    · rintro (h|rfl)
      · obtain⟨i,a1,a2,a3,a4,a5,a7,a8⟩:=(t.wbs b).1 h
        refine⟨i,_,_,_,_,_,born_old a7 (fun e=>?_),by rw [hbl i (ob_lt a7)];exact a8⟩
        rw [e,hthr] at a7;cases a7
      · exact⟨S.length,_,_,_,_,_,born_wp,hb.symm⟩
    · rintro ⟨i,a1,a2,a3,a4,a5,a7,a8⟩
      rcases born_case a7 with ⟨_,h⟩|⟨_,h⟩|⟨rfl,_⟩|⟨_,h⟩
      · cases h
      · exact .inl ((t.wbs b).2 ⟨i,_,_,_,_,_,h,by rw [←hbl i (ob_lt h)];exact a8⟩)
      · exact .inr (a8.trans hb)
      · cases h
  · rcases born_ch hthr h1 with h1|⟨e1,e2,e3⟩|⟨e1,e2,e3⟩|⟨e1,e2,e3⟩<;>rcases born_ch hthr h2 with h2|⟨f1,f2,f3⟩|⟨f1,f2,f3⟩|⟨f1,f2,f3⟩
    · exact t.dist _ _ _ _ _ h1 h2
    all_goals first
      | exact⟨by omega,by omega⟩
      | (have:=hclow h1;omega)
      | (have:=hclow h2;omega)
      | omega
  · rcases born_ch hthr h with h|⟨_,_,rfl⟩|⟨_,_,rfl⟩|⟨_,_,rfl⟩
    · obtain⟨h1,h2,h3⟩:=t.far _ _ _ h
      have:=hclow h
      refine⟨?_,h2,fun z=>z.elim h3 fun z=>?_⟩
      · obtain⟨b1,b2,b3,b4,b5,b6,b7⟩:=h1
        exact⟨b1,b2,b3,b4,b5,b6,(hk c this h2).trans b7⟩
      · omega
    · exact hnew hd hwd cdn
    · exact hnew ha hwa cask
    · exact hnew hg hwg cgr
  · rcases born_case h with ⟨_,h⟩|⟨_,h⟩|⟨_,h⟩|⟨_,h⟩
    · cases h
      exact hkc (.quit hthr) (t.quit _ _ _ _ _ _ hthr)
    · exact hkc (.quit h) (t.quit _ _ _ _ _ _ h)
    · cases h
    · cases h
  · rcases born_case h with ⟨_,h⟩|⟨_,h⟩|⟨_,h⟩|⟨_,h⟩
    · cases h
      exact⟨rfl,_,_,_,_,_,_,_,rfl,born_wp,cask,cgr,cdn,hgs,by omega,born_box⟩
    · obtain⟨h1,hp,gid,dn,ws,st,ak,gr,rfl,h3,h4,h5,h6,h7,h8,h9⟩:=t.busy _ _ _ _ _ _ h
      refine⟨h1,hp,gid,dn,ws,st,ak,gr,rfl,born_old h3 (fun z=>?_),hkc (.ask h3) h4,hkc (.grant h3) h5,hkc (.done h) h6,h7,by omega,born_old h9 (fun z=>?_)⟩
      · rw [z,hthr] at h3;cases h3
      · rw [z,hthr] at h9;cases h9
    · cases h
    · cases h
  · show (if 0=0 then some sG else _)=some sG
    rw [if_pos rfl]
  · show i≠gs.size∧i<gs'.size∧_
    by_cases z0:i=0
    · exact⟨by omega,by omega,fun h=>absurd z0 h⟩
    have hi:(if i=0 then some sG else Inb i)=some se:=hi
    rw [if_neg z0] at hi
    obtain⟨_,h2,h3⟩:=H.seats i se hi
    refine⟨by omega,by omega,fun _=>?_⟩
    obtain⟨j,a1,a2,a3,a4,a5,a6,_,a8⟩:=h3 z0
    have hjk:j≠k:=fun e=>by
      rw [e,hthr] at a8;cases a8
    exact⟨j,a1,a2,a3,a4,a5,a6,fun e=>hjk (Option.some.inj e).symm,born_old a8 hjk⟩
  · rcases born_case h with ⟨rfl,y⟩|⟨hne,h⟩|⟨_,h⟩|⟨_,h⟩
    · cases y
      exact⟨fun _=>rfl,fun z=>absurd rfl z⟩
    · obtain⟨_,h2⟩:=H.waits _ _ _ _ _ _ _ _ h
      refine⟨fun e=>absurd (Option.some.inj e).symm hne,fun _=>?_⟩
      obtain⟨ws,st,ak,gr,ab,x,y,cs,h3,h4,h5⟩:=h2 (by rw [hr];simp)
      obtain⟨_,_,_,_,_,_,_,_,z1,_,_,_,_,z2,_⟩:=t.busy _ _ _ _ _ _ h
      cases z1
      refine⟨ws,st,ak,gr,ab,x,y,cs,born_old h3 (fun z=>?_),?_,?_⟩
      · rw [z,hthr] at h3;cases h3
      · show (if e=0 then some sG else Inb e)=_
        rw [if_neg (by omega),hbl d (ob_lt h3)];exact h4
      · rw [hbl d (ob_lt h3)];exact hSu _ _ _ _ _ _ _ _ _ _ h5 hF (Nat.le_refl _) (by omega)
    · cases h
    · cases h
end
section
variable (hok:∀ mn OB WB,PrimOK mn OB WB)
variable {OB WB:Nat→Prop} {F F':Emb} {hs:AHeap} {S:St} {w w2:World}
theorem rinv_born {k:Nat} {self:Int} {quit ask gr gid dn wb:Nat} {cl bz:Bool} {cur:Option (Nat × Nat × Nat)} {pend:Option Nat} (hthr:S[k]?=some (Ob.thr self quit cl bz cur pend)) (H:RInv (XM hok OB WB) F (.run [] [] hs S) w)
    (hF:Same (Kn hs.next S.length) F F') (hb1:F'.blk (VB+S.length)=wb) (hb2:F'.base (VB+S.length)=0) (hb3:F'.blk (VB+(S.length+1))=w2.heap.size) (hb4:F'.base (VB+(S.length+1))=0) (hwb:w.heap.size≤wb) (hWl:∀ b,WB b→b<w.heap.size) (hwl:wb<w2.heap.size)
    (hold:∀ x,x<w.heap.size→x≠F.blk (VB+k)→w2.heap[x]?=w.heap[x]?) (hrwb:w2.heap[wb]?=some (.cells (wpNew self ask gr quit) 108 (0,0))) (hrtb:w2.heap[F.blk (VB+k)]?=some (.cells (thrNew self wb dn quit) 103 (0,0))) :
    RInv (XM hok OB fun b=>WB b∨b=wb) F' (.run [] [] hs (bornS S k self quit ask gr gid dn)) (w2.alloc (.cells #[.chan (some dn)] 142)):=by
  have hkl:=ob_lt hthr
  have R:Rep true OB WB F S w:=H.1.rep
  obtain⟨_,_,_,hrow⟩:=R.at' _ _ hthr rfl
  have htl:F.blk (VB+k)<w.heap.size:=block_low hrow
  have hvl:∀ x,Vis (XM hok OB WB) F (.run [] [] hs S) x→x<w.heap.size:=fun x hx=>by
    obtain⟨_,_,_,h1⟩:=vis_row (XF.soft (hok _ _ _)) H hx
    exact block_low h1
  generalize htb:F.blk (VB+k)=tb at *
  have htb':F'.blk (VB+k)=tb:=by rw [←htb];exact ((hF (VB+k) (.inr ⟨by omega,by omega⟩)).1).symm
  have htl2:tb<w2.heap.size:=block_low hrtb
  -- the port's row comes
  let wA:World:={ w2 with heap:=w2.heap.setIfInBounds tb (.cells (thrRow F self quit cl bz cur pend) 103 (0,0)) }
  have hA:∀ x,x≠tb→wA.heap[x]?=w2.heap[x]?:=fun x hx=>Array.getElem?_setIfInBounds_ne (Ne.symm hx)
  have hAt:wA.heap[tb]?=w.heap[tb]?:=by
    rw [hrow];exact Array.getElem?_setIfInBounds_self_of_lt htl2
  have h1:RInv (XM hok OB fun b=>WB b∨b=wb) F' (.run [] [] hs (S++[.wp self 0 ask gr quit])) wA:=by
    refine rinv_add hok (w:=w) rfl (fun _ h=>h) (fun _ h=>.inl h) hF hb2 H (fun hv=>?_) (fun b hb=>?_) (fun x hx=>?_) ?_ (fun z=>?_) (by show _≤(w2.heap.setIfInBounds _ _).size;rw [Array.size_setIfInBounds];omega)
    · have:=hvl _ hv
      omega
    · rcases hb with hb|rfl
      · exact .inl hb
      · exact .inr ⟨hb1.symm,_,_,_,_,_,rfl⟩
    · by_cases e:x=tb
      · rw [e];exact hAt
      · rw [hA x e];exact hold x (hvl x hx) e
    · refine⟨.inr hb1,none,(0,0),?_⟩
      rw [hb1,hA wb (by omega),hrwb]
      rfl
    · rw [hb1] at z
      have:=hWl _ z
      omega
  -- the thread's row turns
  have hk1:(S++[Ob.wp self 0 ask gr quit])[k]?=some (.thr self quit cl bz cur pend):=by rw [List.getElem?_append_left hkl];exact hthr
  have h2:=rinv_thr hok (w':=w2) (a':=self) (b':=quit) (c':=false) (d':=true) (e':=some (S.length,gid,dn)) (f':=none) hk1 (fun c hc=>by cases hc;simp) (fun p hp=>by cases hp) h1 (fun x _ hx=>by rw [htb'] at hx;exact (hA x hx).symm) (by
    rw [htb',hrtb]
    simp [thrRow,thrNew,ptrO,hb1,chV]) (by show (w2.heap.setIfInBounds _ _).size≤_;rw [Array.size_setIfInBounds];exact Nat.le_refl _)
  rw [List.set_append_left _ _ hkl] at h2
  have hl2:(S.set k (.thr self quit false true (some (S.length,gid,dn)) none)++[Ob.wp self 0 ask gr quit]).length=S.length+1:=by simp
  have hvl2:∀ x,Vis (XM hok OB fun b=>WB b∨b=wb) F' (.run [] [] hs (S.set k (.thr self quit false true (some (S.length,gid,dn)) none)++[Ob.wp self 0 ask gr quit])) x→x<w2.heap.size:=fun x hx=>by
    obtain⟨_,_,_,h1⟩:=vis_row (XF.soft (hok _ _ _)) h2 hx
    exact block_low h1
  -- the box comes
  refine rinv_add hok (w:=w2) (OB:=OB) (WB:=fun b=>WB b∨b=wb) rfl (fun _ h=>h) (fun _ h=>h) (Same.refl _ _) (by rw [hl2];exact hb4) h2 (fun hv=>?_) (fun b hb=>.inl hb) (fun x hx=>alloc_at _ _ _ (hvl2 x hx)) ?_ (fun z=>?_) (by rw [alloc_size];omega)
  · have:=hvl2 _ hv
    rw [hl2,hb3] at this
    omega
  · show (w2.alloc _).heap[F'.blk (VB+(S.set k _++[Ob.wp self 0 ask gr quit]).length)]?=_
    rw [hl2,hb3]
    exact alloc_new _ _
  · rw [hl2,hb3] at z
    rcases z with z|z
    · have:=hWl _ z
      omega
    · omega
end
section
variable {P:Program} {main:Bool} {b:Frame} {a:Act} {k:List Item} {cs:List Frame} {w:World}
theorem stepG_callV {ops:Array Oper} {i:Nat} {rest:List Nat} {o:Oper} {f:FuncId} {fn:Func} {x:Operand} {args:Array Operand} {ats:Array TypeId} {xs ys:Array Value} (ho:ops[i]?=some o) (hw:Region.wanted o (yielded ops a.tmps)=true) (hk:b.kind≠.early) (hop:o.op=.call { callee:=.value x,args,argTypes:=ats })
    (ef:a.eval x=.func (.func f) xs ys) (hf:P.funcs[f]?=some fn) (hgo:goB fn=true) :
    stepG P main (Go.Conc.G (b.at a (.inRegion ops (i::rest)::k)) cs) w=.go (Go.Conc.G (Frame.enter P f (xs++args.map a.eval++ys) .normal) (b.at a (.inRegion ops (i::rest)::k)::cs)) w #[]:=by
  unfold goB at hgo
  rw [Bool.and_eq_true] at hgo
  have h1 : ¬ fn.name = "runtime.NumGoroutine" := by simpa using hgo.2
  have h2:¬ fn.body=none:=by have:=hgo.1;cases hx:fn.body<;>simp_all
  have hr:(execOp a.eval o).run P w=.ok (.enter f (xs++args.map a.eval++ys)) w:=by
    unfold execOp
    simp [hop,resolve,Deferred.ofValue,ef,invoke,callFunc,hf,h1,h2]
  have he:listed P b.fn a o w=#[]:=by
    unfold listed
    have:(execOp a.eval o).events P w #[]=#[]:=by
      unfold execOp
      simp [hop,resolve,Deferred.ofValue,ef,invoke,callFunc,hf,h1,h2]
    rw [this];exact seen_none P _
  rw [stepG_enter ho hw hk hr,he]
end
theorem rootOps2_size:rootOps2.size=4:=by kernel_rfl
set_option maxRecDepth 100000 in
theorem root_call {fb:FuncId} {fn:Func} {xs ys:Array Value} {wb dn bx:Nat} (hf:Try.prog.funcs[fb]?=some fn) (hgo:goB fn=true) (main:Bool) (w:World) :
    stepG Try.prog main (Go.Conc.G (rootFr (.func (.func fb) xs ys) wb dn bx [3]) [botF]) w=.go (Go.Conc.G (Frame.enter Try.prog fb (xs++#[.iface 99 (pt wb)]++ys) .normal) [rootFr (.func (.func fb) xs ys) wb dn bx [3],botF]) w #[]:=by
  obtain⟨o,ho⟩:∃ o,rootOps2[3]?=some o:=⟨_,Array.getElem?_eq_getElem (by rw [rootOps2_size];omega)⟩
  have ho':=ho
  simp only [rootOps2,rootC,cOps,cL,cR,Try.f71,Option.getD_some] at ho'
  simp only [List.getElem?_toArray,List.getElem?_cons_succ,List.getElem?_cons_zero,Option.some.injEq] at ho'
  subst ho'
  unfold rootFr
  rw [stepG_callV ho (by simp [Region.wanted]) (by decide) rfl rfl hf hgo]
  simp [Act.eval]
section
variable (hok:∀ mn OB WB,PrimOK mn OB WB)
variable {Γ:Type} {Pr:Proto Γ}
variable {n00:Nat} {w00:World}
variable {p:Par} {S:St} {F:Emb} {Inb:Nat→Option Seat} {gs:Array Goroutine} {w:World} {T:Trace} {sl:Option (Nat × Nat)}
def BodyRuns (Pr:Proto Γ) (k hp:Nat) (fb:FuncId) (xs ys:Array Value) (hs:AHeap) (S:St) (γ:Γ):Prop :=
  ∃ (fn:Func) (cd:Code),Try.prog.funcs[fb]?=some fn∧goB fn=true∧fn.body=some cd∧GE OF (SpB Pr k hp) fn (fun c γ'=>∃ v h1 S1,c=.done v h1 S1∧EndB Pr k h1 S1 γ') (.run (enterL fn cd (xs++#[Value.iface 99 (hndV hp)]++ys)).1 (enterL fn cd (xs++#[Value.iface 99 (hndV hp)]++ys)).2 hs S) (γ,S)
theorem start_lent {γ γ1:Γ} {hs hs':AHeap} {k fb quit:Nat} {self:Int} {xs ys:Array Value} {cur:Option (Nat × Nat × Nat)} {fr:Frame} {cs:List Frame} (hC:ClM n00 w00 () (γ,S) p) (hthr:S[k]?=some (.thr self quit false false cur none)) (hl:LendH hs hs') (hfu:Pr.fuel γ1≤Pr.fuel γ) (hph1:∀ i,i≠k→Pr.ph γ1 i=Pr.ph γ i)
    (hrun:∀ ask gr gid dn,BodyRuns Pr k S.length fb xs ys hs' (bornS S k self quit ask gr gid dn) γ1) (hxs:∀ u∈xs,Stab (Kn hs.next S.length) F u) (hys:∀ u∈ys,Stab (Kn hs.next S.length) F u) (H:Standing p hok (SuM hok Pr () γ) S F (.run [] [] hs S) Inb gs w T)
    (hg:gs[0]?=some (Go.Conc.G ((base 17).at ⟨#[pt (F.blk (VB+k)),.func (.func fb) (xs.map (ren F)) (ys.map (ren F)),undef,undef,undef,undef,undef,undef,undef,undef,undef,undef,undef,undef,undef,undef,undef,undef,undef,undef,undef,undef,undef,undef,undef,undef,undef,undef,undef,undef,undef,undef,undef,undef,undef,undef,undef,undef,undef,undef,undef,undef,undef,undef,undef,undef,undef,undef,undef,undef,undef,undef,undef,undef,undef,undef],[]⟩ [.code startC]) (fr::cs))) :
    Reach Try.prog (crowd gs w sl) T fun m T'=>∃ (d:BD Γ) (F':Emb) (tb wb ask gr dn:Nat) (fv:Value) (v:Nat→Value),Same (Kn hs.next S.length) F F'∧d.p.FR=F'∧d.k=k∧d.hp=S.length∧d.self=self∧d.quit=quit∧d.p.h=gs.size∧d.dn=dn∧d.S=bornS S k self quit ask gr gs.size dn∧d.γ=γ1∧BackM hok Pr n00 w00 d hs hs' hs.next (S.length+2) (startFr7 tb fv wb dn v [1]) (fr::cs) m T':=by
  obtain⟨h0,hrun0,hseat,hPX,hn00,hw00⟩:=hC
  have hX:=X_main hok h0
  have hinv:RInv (XM hok p.OB p.WB) F (.run [] [] hs S) w:=hX ▸ H.inv
  have Rp:Rep true p.OB p.WB F S w:=hinv.1.rep
  obtain⟨hOtb,_,_,hrtb⟩:=Rp.at' _ _ hthr rfl
  have hkl:=ob_lt hthr
  have hV:hs.next≤VB:=hinv.2
  obtain⟨B0,Mem0,q0,R0,hM0,_⟩:=H.com.ring
  rw [h0] at R0
  have hlow:=com_low H.com H.wrow
  have t:=H.com.tab
  have hgl:0<gs.size:=(Array.getElem?_eq_some_iff.1 hg).1
  have hgsN:∀ i,gs.size≤i→Inb i=none:=fun i hi=>by
    cases e:Inb i with
    | none=>rfl
    | some s=>have:=(H.com.seats i s e).2.1;omega
  have hWl:∀ b,p.WB b→b<w.heap.size:=fun b hb=>hlow b (.inr (.inl hb))
  have hvl:∀ x,Vis (XM hok p.OB p.WB) F (.run [] [] hs S) x→x<w.heap.size:=fun x hx=>by
    obtain⟨_,_,_,h1⟩:=vis_row (XF.soft (hok _ _ _)) hinv hx
    exact block_low h1
  generalize htbE:F.blk (VB+k)=tb at *
  have htl:tb<w.heap.size:=block_low hrtb
  refine (start_at_go (sl:=sl) (self:=self) (quit:=quit) R0 hlow hOtb hrtb hg).bind fun m2 T2=>?_
  rintro ⟨gs2,w2,sl2,q2,B2,ask,gr,v,rfl,s2,k2,Bw,R2⟩
  have hap2:=R2.apart
  refine (start_child (sl:=sl2) (self:=self) (quit:=quit) (ask:=ask) (gr:=gr) R2 hM0 (fun b hb=>?_) hOtb (.inr rfl) (by rw [Bw.size];omega) (fun i hi=>hgsN i (by omega)) (fun i s c hi hc=>?_) (fun z=>?_) (fun z=>?_) (by have:=Bw.ask1;omega) Bw.hask Bw.dn Bw.wb Bw.thr k2).bind fun m4 T4=>?_
  · rcases hb with hb|(hb|rfl)|hb
    · have:=hlow b (.inl hb);omega
    · have:=hlow b (.inr (.inl hb));omega
    · omega
    · have:=hlow b (.inr (.inr hb));omega
  · have:=hlow c (.inr (.inr ⟨i,s,hi,hc⟩))
    have:=Bw.ask0
    omega
  · have:=t.olow _ z
    have:=Bw.ask0
    omega
  · have:=t.olow _ z
    omega
  rintro ⟨gs4,w4,sl4,q4,B4,rfl,s4,k4,hold4,hsz4,hbox4,hObx,R4⟩
  rw [s2] at k4 s4 R4
  -- names
  let F':Emb:=⟨fun n=>if n=VB+S.length then w.heap.size+2 else if n=VB+(S.length+1) then w2.heap.size else F.blk n,fun n=>if n=VB+S.length then 0 else if n=VB+(S.length+1) then 0 else F.base n,F.slack⟩
  have hFF:Same (Kn hs.next S.length) F F':=fun n hn=>by
    have h1:n≠VB+S.length:=by
      rcases hn with hn|⟨_,hn⟩<;>omega
    have h2:n≠VB+(S.length+1):=by
      rcases hn with hn|⟨_,hn⟩<;>omega
    simp [F',h1,h2]
  have hb1:F'.blk (VB+S.length)=w.heap.size+2:=if_pos rfl
  have hb3:F'.blk (VB+(S.length+1))=w2.heap.size:=by simp [F']
  have hbk:F'.blk (VB+k)=tb:=by rw [←htbE];exact ((hFF (VB+k) (.inr ⟨by omega,by omega⟩)).1).symm
  -- goroutine 0's standing, as it was
  let wR:World:=w2.alloc (.cells #[.chan (some (w.heap.size+3))] 142)
  let SB:St:=bornS S k self quit ask gr gs.size (w.heap.size+3)
  have hinvR:RInv (XM hok p.OB fun b=>p.WB b∨b=w.heap.size+2) F' (.run [] [] hs SB) wR:=rinv_born hok hthr hinv hFF hb1 (if_pos rfl) hb3 (by simp [F']) (by omega) hWl (by rw [Bw.size];omega) (fun x hx hn=>Bw.old x hx (by rw [←htbE];exact hn)) Bw.wb (by rw [htbE];exact Bw.thr)
  have hwR:∀ x,¬ p.OB x→x<w4.heap.size→w4.heap[x]?=wR.heap[x]?:=fun x hx hl=>by
    by_cases z:x<w2.heap.size
    · rw [hold4 x hx z,alloc_at _ _ _ z]
    · obtain rfl:x=w2.heap.size:=by omega
      rw [hbox4];exact (alloc_new _ _).symm
  have hwRs:wR.heap.size=w4.heap.size:=by rw [hsz4];exact alloc_size _ _
  have hnO:∀ x,w.heap.size≤x→¬ p.OB x:=fun x hx z=>by have:=t.olow _ z;omega
  have hrow4:∀ x,w.heap.size≤x→x<w2.heap.size→w4.heap[x]?=w2.heap[x]?:=fun x h1 h2=>hold4 x (hnO x h1) h2
  have hnt:∀ x,¬ p.OB x→x≠tb:=fun x hx e=>hx (e ▸ hOtb)
  -- the body goes on
  let cs0:List Frame:=startFr7 tb (.func (.func fb) (xs.map (ren F)) (ys.map (ren F))) (w.heap.size+2) (w.heap.size+3) v [1]::fr::cs
  let sG:Seat:=seatG tb (w.heap.size+2) (w.heap.size+3) ask cs0
  let wN:World:=w2.setCell ⟨tb,3,none⟩ (.pointer none)
  let d:BD Γ:=⟨⟨gs.size,some k,p.OB,fun b=>p.WB b∨b=w.heap.size+2,IvN p.OB wN,some sG,Kept0 F' hs hs',wR,F',hs.next,S.length+2,p.n0,p.w0⟩,SuM hok Pr () γ,k,S.length,self,quit,w.heap.size+3,none,self,0,ask,gr,γ1,SB,wN,tb,cs0⟩
  have hcom4:Com d.p (SuM hok Pr () γ) SB F' hs.next (S.length+2) (fun i=>if i=0 then some sG else Inb i) gs4 w4 T4:=by
    refine H.com.born (C:=S.length) hrun0 hseat (SuM.mono hok Pr () γ) rfl hthr hgl hFF hb1 (by have:=Bw.size;omega) (by omega) hWl (fun x hx hO=>by rw [hold4 x hO (by have:=Bw.size;omega),Bw.old x hx (hnt x hO)]) Bw.ask0 Bw.gr0 (by omega) (by omega) Bw.ne (by have:=Bw.ask1;omega) (by have:=Bw.gr1;omega) (by have:=Bw.ask1;omega) (by have:=Bw.gr1;omega) (by omega) ⟨0,?_⟩ ⟨0,?_⟩ ⟨0,?_⟩ ⟨_,_,_,R4,.inl hM0,.inr rfl⟩
    · rw [hrow4 _ Bw.ask0 (block_low Bw.hask)];exact Bw.hask
    · rw [hrow4 _ Bw.gr0 (block_low Bw.hgr)];exact Bw.hgr
    · rw [hrow4 _ (by omega) (block_low Bw.dn)];exact Bw.dn
  have hSBl:SB.length=S.length+2:=born_len
  have tR:Tab p.OB (fun b=>p.WB b∨b=w.heap.size+2) SB F' gs4.size wR:=hcom4.tab.turn (p:=d.p) (C:=S.length+2) (N:=hs.next) (by rw [hSBl];exact Nat.le_refl _) (Same.refl _ _) (Nat.le_of_eq hwRs.symm) (chan_keep fun x (hx:IsChan w4 x) hO=>(hwR x hO (by obtain⟨_,_,_,_,_,_,h1⟩:=hx;exact block_low h1)).symm)
  have hdok:d.Ok:=by
    refine⟨SuM.mono hok Pr () γ,rfl,by show gs.size≠0;omega,rfl,?_,born_thr hkl,born_wp,hSBl.symm,fun x hx=>(lend_prot hok hinvR hl tR hx).2.2.2⟩
    show some sG=some (seatG tb (F'.blk (VB+S.length)) (w.heap.size+3) ask cs0)
    rw [hb1]
  have hXb:=X_body hok (p:=d.p) (by show gs.size≠0;omega)
  have hwro:∀ n r,hs.get n=some r→(p.WB (F'.blk n)∨F'.blk n=w.heap.size+2)→r.ro=true:=fun n r hr hW=>by
    have e:F'.blk n=F.blk n:=((hFF n (hinv.1.hk n r hr).1).1).symm
    rw [e] at hW
    rcases hW with hW|hW
    · exact H.wro n r hr hW
    · have:=hvl _ (.inl ⟨n,r,hr,hW⟩)
      omega
  have hfpB:∀ x,fpS false F' SB x→fpS true F S x∨w.heap.size≤x:=fun x hx=>by
    have hx:fpS true F' SB x:=by obtain⟨i,ob,h1,h2⟩:=hx;exact⟨i,ob,h1,obBlk_false h2⟩
    have hl1:(S.set k (Ob.thr self quit false true (some (S.length,gs.size,w.heap.size+3)) none)).length=S.length:=by simp
    have hl2:(S.set k (Ob.thr self quit false true (some (S.length,gs.size,w.heap.size+3)) none)++[Ob.wp self 0 ask gr quit]).length=S.length+1:=by simp
    rcases fps_push (F:=F') rfl (Same.refl _ _) hx with hx|hx
    · rcases fps_push (F:=F) rfl (by rw [hl1];exact hFF.mono fun n hn=>.inr hn) hx with hx|hx
      · exact .inl (fps_set hthr hx)
      · rw [hl1,hb1] at hx;exact .inr (by omega)
    · rw [hl2,hb3] at hx;exact .inr (by have:=Bw.size;omega)
  have hstand:Standing d.p hok d.Su SB F' (.run [] [] hs' SB) (fun i=>if i=0 then some sG else Inb i) gs4 w4 T4:=by
    refine⟨?_,hXb ▸ rinv_world (Nat.le_of_eq hwRs) (fun x hx=>?_) (rinv_lend hok hinvR hl),fun _ x hx=>hXb ▸ lend_ov hok hinvR hl tR hx,fun x hx=>?_,fun x hx=>?_,fun n r hr hW=>hwro n r (hl.sub n r hr) hW,⟨fun x hx=>?_,fun i s c h=>?_⟩,Same.refl _ _,Nat.le_of_eq hl.next.symm,Nat.le_of_eq hSBl.symm⟩
    · show Com d.p (SuM hok Pr () γ) SB F' hs'.next SB.length _ gs4 w4 T4
      rw [hl.next,hSBl];exact hcom4
    · refine hwR x (fun hO=>lend_ov hok hinvR hl tR hO hx) ?_
      obtain⟨_,_,_,h1⟩:=vis_row (XF.soft (hok _ _ _)) (rinv_lend hok hinvR hl) hx
      rw [←hwRs];exact block_low h1
    · obtain⟨y1,y2,y3,_⟩:=lend_prot hok hinvR hl tR hx
      have y1':x<w4.heap.size:=by rw [←hwRs];exact y1
      exact⟨y1',hXb ▸ y2,y3,hwR x y3 y1'⟩
    · rcases hx with hx|rfl
      · obtain⟨cc,el,y1,y2⟩:=H.wrow x hx
        have hO:¬ p.OB x:=fun z=>hap2 x z (.inl hx)
        exact⟨cc,el,by rw [hold4 x hO (by have:=Bw.size;have:=block_low y1;omega),Bw.old x (block_low y1) (hnt x hO)];exact y1,y2⟩
      · exact⟨_,_,by rw [hrow4 _ (by omega) (block_low Bw.wb)];exact Bw.wb,by simp [wpNew]⟩
    · obtain⟨y1,y2,y3,y4⟩:=H.base.low x hx
      have y5:w4.heap[x]?=w.heap[x]?:=by rw [hold4 x y3 (by have:=Bw.size;omega),Bw.old x y1 (hnt x y3)]
      refine⟨by have:=Bw.size;omega,fun hT=>?_,y3,y5.trans y4⟩
      rw [hXb] at hT
      rw [hX] at y2
      rcases hT with ⟨n,r,z1,z2,rfl⟩|z
      · have z1:hs'.get n=some r:=z1
        exact y2 (.inl ⟨n,r,hl.sub n r z1,z2,(hFF n (hinv.1.hk n r (hl.sub n r z1)).1).1⟩)
      · rcases hfpB x z with z|z
        · exact y2 (.inr z)
        · omega
    · have hb:=H.base.size
      rcases born_ch hthr h with h|⟨_,_,rfl⟩|⟨_,_,rfl⟩|⟨_,_,rfl⟩
      · exact H.base.ch i s c h
      · show p.n0≤_;omega
      · have:=Bw.ask0;show p.n0≤_;omega
      · have:=Bw.gr0;show p.n0≤_;omega
  obtain⟨fn,cd,hfb,hgB,hbd,hGE⟩:=hrun ask gr gs.size (w.heap.size+3)
  -- the call of the body
  have hargs:(xs.map (ren F))++#[Value.iface 99 (pt (w.heap.size+2))]++(ys.map (ren F))=(xs++#[Value.iface 99 (hndV S.length)]++ys).map (ren F'):=by
    have e1:xs.map (ren F)=xs.map (ren F'):=Array.map_congr_left fun u hu=>(hxs u hu F' hFF).symm
    have e2:ys.map (ren F)=ys.map (ren F'):=Array.map_congr_left fun u hu=>(hys u hu F' hFF).symm
    rw [e1,e2]
    simp [hndV,adr,F']
  have hstF:∀ u∈(enterL fn cd (xs++#[Value.iface 99 (hndV S.length)]++ys)).2,Stab (Kn hs'.next SB.length) F' u:=fun u hu=>by
    have hKK:∀ x,Kn hs.next S.length x→Kn hs'.next SB.length x:=fun x hx=>hx.mono (Nat.le_of_eq hl.next.symm) (by rw [hSBl];omega)
    simp only [enterL,List.mem_append,Array.toList_append] at hu
    rcases hu with ((hu|hu)|hu)|hu
    · exact (hxs u (by simpa using hu)).move hFF hKK
    · obtain rfl:u=Value.iface 99 (hndV S.length):=by simpa using hu
      intro F2 hs2
      have h:=hndV_stab (F:=F') (N:=hs'.next) (n:=SB.length) (k:=S.length) (by omega) F2 hs2
      simp only [ren_iface,h]
    · exact (hys u (by simpa using hu)).move hFF hKK
    · rw [List.eq_of_mem_replicate hu];exact Stab.undef
  have hst2:=stand_step hok (SuM.mono hok Pr () γ) (sl:=sl4) (c':=.run (enterL fn cd (xs++#[Value.iface 99 (hndV S.length)]++ys)).1 (enterL fn cd (xs++#[Value.iface 99 (hndV S.length)]++ys)).2 hs' SB) hstand k4 rfl (fun w1 _=>⟨#[],root_call hfb hgB _ w1,fun e he=>by simp at he⟩) rfl rfl hstF
  refine hst2.bind fun m5 T5=>?_
  rintro ⟨gs5,w5,sl5,rfl,k5,_,H5⟩
  rw [hargs,enter_actF hfb hbd] at k5
  have hbx:d.p.FR.blk (VB+(S.length+1))=w2.heap.size:=hb3
  have hsafe:=GE.safe hok (ClB k S.length w2.heap.size) SuB (FinB hok Pr) (Stk:=Downs (rootFr (.func (.func fb) (xs.map (ren F)) (ys.map (ren F))) (w.heap.size+2) (w.heap.size+3) w2.heap.size [3])) (fun b fn t todo cs hf hk h=>.frame hf rfl rfl h) (fun d γ p hcl=>hcl.2.2.1.mono) (fun d γ p hcl f a S v S' hp=>?_) rfl (SpB_ok hok Pr k S.length w2.heap.size) hGE (baseF fb) [rootFr (.func (.func fb) (xs.map (ren F)) (ys.map (ren F))) (w.heap.size+2) (w.heap.size+3) w2.heap.size [3],botF] F' hs'.next SB.length hfb rfl .root (fun c' γ' hA=>?_)
  · refine (hsafe d d.p _ F' gs5 w5 sl5 T5 _ ⟨rfl,rfl,hdok,rfl,rfl,hbx⟩ H5 k5 rfl (Same.refl _ _) (Nat.le_refl _) (Nat.le_refl _)).bind fun m6 T6 hCame=>?_
    have RR:Rep true p.OB (fun b=>p.WB b∨b=w.heap.size+2) F' SB wR:=hinvR.1.rep
    have hset:SB.set k (.thr self quit false true (some (S.length,gs.size,w.heap.size+3)) none)=SB:=List.ext_getElem? fun j=>by
      by_cases z:k=j
      · subst z
        rw [List.getElem?_set_self (by rw [hSBl];omega)];exact (born_thr hkl).symm
      · rw [List.getElem?_set_ne z]
    have L:LentM hok Pr d γ hs hs' SB:=by
      refine⟨hdok,hl,hinvR,rfl,rfl,hSBl.symm,fun x hx=>hx,hbk.symm,hwro,fun i a b c x e f hi=>?_,fun i i' hne hi hi'=>?_,rfl,hph1,hfu,fun n r hr hro=>Nat.le_of_not_lt fun hlt=>(H.base.low _ hlt).2.1 (by rw [hX];exact .inl ⟨n,r,hr,hro,(hFF n (hinv.1.hk n r hr).1).1⟩)⟩
      · have hi:(SB.set k (.thr self quit false true (some (S.length,gs.size,w.heap.size+3)) none))[i]?=some (Ob.thr a b c x e f):=hi
        rw [hset] at hi
        obtain⟨y1,y2,y3,y4⟩:=RR.at' i _ hi rfl
        refine⟨y2,y3,?_⟩
        show (w2.setCell ⟨tb,3,none⟩ (.pointer none)).heap[F'.blk (VB+i)]?=_
        by_cases zi:i=k
        · subst zi
          rw [show SB[i]?=_ from born_thr hkl] at hi
          cases hi
          rw [hbk,heap_setCell,if_pos rfl,Bw.thr]
          simp only [Option.map_some]
          simp [thrRow,thrNew,ptrO,chV]
          exact hb1.symm
        · have hne:F'.blk (VB+i)≠tb:=fun z=>RR.apart i k _ _ zi hi (born_thr hkl) (F'.blk (VB+i)) (by simp [obBlk]) (by rw [z,←hbk];simp [obBlk])
          have hlt:F'.blk (VB+i)<w2.heap.size:=by have:=t.olow _ y1;have:=Bw.size;omega
          rw [heap_setCell,if_neg (fun (e:tb=_)=>hne e.symm),←alloc_at w2 (.cells #[.chan (some (w.heap.size+3))] 142) _ hlt]
          exact y4
      · have key:∀ j:Nat,(∃ a b c x e f,(SB.set k (.thr self quit false true (some (S.length,gs.size,w.heap.size+3)) none))[j]?=some (Ob.thr a b c x e f))→∃ a b c x e f,SB[j]?=some (Ob.thr a b c x e f):=fun j hj=>by rw [hset] at hj;exact hj
        obtain⟨_,_,_,_,_,_,y1⟩:=key i hi
        obtain⟨_,_,_,_,_,_,y2⟩:=key i' hi'
        exact fun e=>RR.apart i i' _ _ hne y1 y2 (F'.blk (VB+i)) (by simp [obBlk]) (by simp only [obBlk,if_true,List.mem_cons,List.not_mem_nil,or_false];exact e)
    exact (came_back hok L rfl hn00 hw00 hCame).mono fun m7 T7 hB=>⟨d,F',tb,w.heap.size+2,ask,gr,w.heap.size+3,_,v,hFF,rfl,rfl,rfl,rfl,rfl,rfl,rfl,rfl,rfl,hSBl ▸ hB⟩
  · obtain⟨rfl,_,hd,_⟩:=hcl
    have:d.p.mn=false:=by simp [Par.mn,hd.h0]
    rw [this];exact hp
  · obtain⟨v1,h1,S1,rfl,hE⟩:=hA
    exact body_ends hok Pr hE
end
section
variable (hok:∀ mn OB WB,PrimOK mn OB WB)
variable {Γ:Type} (Pr:Proto Γ)
def SpStart:SpT Γ:=fun f args hs S γ Q=>∃ (k fb quit:Nat) (self:Int) (xs ys:Array Value) (cur:Option (Nat × Nat × Nat)) (hs':AHeap) (γ1:Γ),f=17∧args=#[hndV k,.func (.func fb) xs ys]∧KeepC γ.2 S∧S[k]?=some (.thr self quit false false cur none) ∧
  LendH hs hs'∧Pr.fuel γ1≤Pr.fuel γ.1∧(∀ i,i≠k→Pr.ph γ1 i=Pr.ph γ.1 i)∧(∀ ask gr gid dn,BodyRuns Pr k S.length fb xs ys hs' (bornS S k self quit ask gr gid dn) γ1)∧∀ ask gr gid dn,BackQ Pr Q (.bool true) hs hs' k self quit S.length gid dn (bornS S k self quit ask gr gid dn) γ1
variable {Pr}
theorem start_body:Try.f17.body=some startC:=rfl
set_option maxRecDepth 100000 in
theorem start_begin {F:Emb} {k fb:Nat} {xs ys:Array Value} (hb:F.base (VB+k)=0):actF F (enterL Try.f17 startC #[hndV k,.func (.func fb) xs ys]).2=⟨#[pt (F.blk (VB+k)),.func (.func fb) (xs.map (ren F)) (ys.map (ren F)),undef,undef,undef,undef,undef,undef,undef,undef,undef,undef,undef,undef,undef,undef,undef,undef,undef,undef,undef,undef,undef,undef,undef,undef,undef,undef,undef,undef,undef,undef,undef,undef,undef,undef,undef,undef,undef,undef,undef,undef,undef,undef,undef,undef,undef,undef,undef,undef,undef,undef,undef,undef,undef,undef],[]⟩:=by
  simp only [enterL,Try.ntmps17]
  simp [actF,adr,hndV,ren_undef,hb,List.replicate]
theorem stab_func {K:Nat→Prop} {F:Emb} {fn:Fn} {xs ys:Array Value} (h:Stab K F (.func fn xs ys)):(∀ u∈xs,Stab K F u)∧∀ u∈ys,Stab K F u:=by
  have key:∀ {zs:Array Value} {F':Emb},zs.map (ren F')=zs.map (ren F)→∀ u∈zs,ren F' u=ren F u:=fun {zs F'} e u hu=>by
    obtain⟨i,hi,rfl⟩:=Array.mem_iff_getElem.1 hu
    have:=congrArg (fun a:Array Value=>a[i]?) e
    simpa [hi] using this
  refine⟨fun u hu F' hs=>?_,fun u hu F' hs=>?_⟩
  · have:=h F' hs
    simp only [ren_func,Value.func.injEq] at this
    exact key this.2.1 u hu
  · have:=h F' hs
    simp only [ren_func,Value.func.injEq] at this
    exact key this.2.2 u hu
theorem start_ok {n00:Nat} {w00:World} {Fin:Unit→Machine→Trace→Prop} {Stk:List Frame→Prop}:SpOK hok (ClM n00 w00) (SuM hok Pr) Fin Stk (SpStart Pr):=by
  intro f args hs S γ Q hsp b cs F0 N0 C0 fn ops i rest kk tmps o hfn hkd hsk ho hw hb' hca K d p Inb F gs w sl T g hC H hg hgS hF hN hC0
  obtain⟨k,fb,quit,self,xs,ys,cur,hs',γ1,rfl,rfl,hkeep,hthr,hl,hfu,hph1,hrun,hbk⟩:=hsp
  obtain⟨h0,hrun0,hseat,hPX,hn00,hw00⟩:=id hC
  have hst:∀ u∈tmps,Stab (Kn hs.next S.length) F u:=fun u hu=>H.inv.1.vst u hu
  refine (stand_enter hok (SuM.mono hok Pr d γ.1) ho hw hb' hca Try.func17 rfl start_body hkd H hg hgS).bind fun m1 T1=>?_
  rintro ⟨gs1,w1,sl1,rfl,k1,H1⟩
  have hfst:=stab_func (H1.inv.1.vst (.func (.func fb) xs ys) (by show _∈(enterL _ _ _).2;simp [enterL]))
  have H1:Standing p hok (SuM hok Pr d γ.1) S F (.run [] [] hs S) Inb gs1 w1 T1:=Standing.keep (c:=.run [] [] hs S) hok hkeep (Standing.conf hok H1 rfl rfl (fun v hv=>by cases hv))
  have Rp:Rep p.mn p.OB p.WB F S w1:=H1.inv.1.rep
  rw [start_begin (Rp.base _ _ hthr rfl)] at k1
  refine (start_lent hok (sl:=sl1) ⟨h0,hrun0,hseat,hPX,hn00,hw00⟩ hthr hl hfu hph1 hrun hfst.1 hfst.2 H1 (h0 ▸ k1)).bind fun m2 T2=>?_
  rintro ⟨d',F',tb,wb,ask,gr,dn,fv,v,hFF,rfl,e2,e3,e4,e5,e6,e7,e8,e9,hB⟩
  have hKK:∀ x,Kn hs.next S.length x→Kn hs.next (S.length+2) x:=fun x hx=>hx.mono (Nat.le_refl _) (by omega)
  rw [←actF_congr hst hFF] at hB
  exact back_on hok (hbk ask gr gs1.size dn) ⟨rfl,e2,e3,e4,e5,e6,e7,e8,e9⟩ ho rfl (fun u hu=>(hst u hu).move hFF hKK) rfl (by rw [born_len];exact Nat.le_refl _) (fun c0 cs hK=>start_ret hK c0 cs) (hF.trans (hFF.mono fun x hx=>hx.mono hN hC0)) hN (by have:C0≤S.length:=hC0;omega) K hB
end
section
variable {P:Program} {OB WB:Nat→Prop} {B:Nat} {Iv:Nat→World→Prop} {Mem:Nat→Prop} {Inb:Nat→Option Seat} {T:Trace} {gs:Array Goroutine} {w:World} {q:Nat→Nat} {h c:Nat}
theorem RingO.ownCl (C:RingO P OB WB B Iv Mem Inb h T gs w q) (hcB:c<B) {a a':Goroutine} {w':World} (ha:gs[h]?=some a) (D:DO OB WB Inb h w w' #[]) :
    RingO P OB WB B Iv Mem Inb h (T++MemOp.ofEvents h a.frame.fn a.frame.place (closeEvents c)) ((gs.map (woken P a a' w')).setIfInBounds h a') w' q∧((gs.map (woken P a a' w')).setIfInBounds h a')[h]?=some a':=by
  have hlt:h<gs.size:=(Array.getElem?_eq_some_iff.1 ha).1
  have hrl:∀ x,x≠h→Rl OB WB x w w':=fun x hx=>⟨fun ad had h3=>D.still ad had h3,fun e b hb=>D.own (by omega) b hb⟩
  have hEv:∀ e∈closeEvents c,EvHd (stillL WB) B e:=closeEvents_ok hcB
  obtain⟨hops,hs,hl,hdf⟩:=evHd_ops (Still:=stillL WB) (B:=B) (i:=h) (fn:=a.frame.fn) (pos:=a.frame.place) hEv
  have hown:∀ op∈MemOp.ofEvents h a.frame.fn a.frame.place (closeEvents c),∀ b,op.act.touch?=some b→(stillL WB b.loc→b.write=false)∧(ownL OB b.loc→h=0):=fun op hop b hb=>⟨hs op hop b hb,fun⟨a,e,_⟩=>by
    rw [closeOps] at hop
    simp only [List.mem_toArray,List.mem_cons,List.not_mem_nil,or_false] at hop
    rcases hop with rfl|rfl
    · simp only [MemAct.touch?,Option.some.injEq] at hb
      subst hb
      cases e
    · simp [MemAct.touch?] at hb⟩
  have hDeaf:∀ x,Deaf (T++MemOp.ofEvents h a.frame.fn a.frame.place (closeEvents c)) x=Deaf T x:=fun x=>by
    by_cases ex:x=h
    · subst ex;exact hdf T
    · exact Deaf_other T (fun z=>ex z.symm) _ hops
  have p1:=PastO.appH C.past hops hown (hdf T) hl
  refine⟨⟨fun x y hx hy=>?_,fun i s c _ hi hc=>?_,C.far,C.wf,fun _ _ hx=>hx.elim,C.inj,fun j hj=>?_,C.mem,C.nomem,C.lo,p1,C.apart,C.ivst,Nat.le_trans C.lowB D.size⟩,Array.getElem?_setIfInBounds_self_of_lt (by simpa using hlt)⟩
  · rw [Array.getElem?_setIfInBounds_ne (fun e=>hx e.symm),Array.getElem?_map] at hy
    obtain⟨y₀,hy₀,rfl⟩:=Option.map_eq_some_iff.1 hy
    rw [woken_of_again (CoF.fixed' C D.seats hx hy₀)]
    have hi:=C.idle x y₀ hx hy₀
    cases es':Inb x with
    | none=>rw [es'] at hi;exact⟨hi.1,by rw [hDeaf];exact hi.2⟩
    | some s=>rw [es'] at hi;exact SitsO.rely C.ivst hi (hrl x hx)
  · obtain⟨cap,k,hk⟩:=C.chans i s c (fun z=>z) hi hc
    exact⟨cap,k,by rw [D.seats i s c hi hc];exact hk⟩
  · simp only [Array.size_setIfInBounds,Array.size_map] at hj
    rw [hDeaf]
    exact C.above j hj
theorem hold_close {a a':Goroutine} {St:World→Prop} (hcB:c<B) (hrun:a.status=.running) {w0:World} (hstep:∀ w1,Ro OB h w0 w1→∃ w',stepG P (h==0) a w1=.go a' w' (closeEvents c)∧DO OB WB Inb h w1 w' #[]∧St w') :
    ∀ (n:Nat) {T:Trace} {gs:Array Goroutine} {w:World} {q:Nat→Nat} {sl:Option (Nat × Nat)},sumTo gs.size q=n→Ro OB h w0 w→gs[h]?=some a→RingO P OB WB B Iv Mem Inb h T gs w q →
      Reach P (crowd gs w sl) T fun m' T'=>∃ gs' w' sl' q',m'=crowd gs' w' sl'∧gs'.size=gs.size∧gs'[h]?=some a'∧St w'∧RingO P OB WB B Iv Mem Inb h T' gs' w' q':=by
  intro n
  induction n using Nat.strongRecOn with
  | _ m ihm =>
    intro T gs w q sl hm hw ha C
    obtain⟨i,g,d,sl',hi,hg,hst⟩:=crowd_pick (P:=P) (w:=w) (sl:=sl) (CoF.awake C fun x g hx hgx=>by subst hx;rw [ha] at hgx;obtain rfl:=Option.some.inj hgx;exact .inl hrun) ⟨h,a,ha,hrun⟩
    have Cd:RingO P OB WB B Iv Mem Inb h T gs (w.at d) q:=CoF.at C d
    have hRd:Ro OB h w (w.at d):=⟨fun _ _=>rfl,rfl,rfl⟩
    by_cases e:i=h
    · subst e
      obtain rfl:g=a:=by rw [ha] at hi;exact (Option.some.inj hi).symm
      obtain⟨w',h1,h2,h3⟩:=hstep (w.at d) (hw.trans _ _ _ hRd)
      obtain⟨C',ha'⟩:=RingO.ownCl (a':=a') Cd hcB ha h2
      refine .head (ho:=by exact .of h2.rest) (by rw [hst];exact runT_crowd_go (sl:=sl') ha h1) (.here ⟨_,w',sl',q,rfl,by simp,ha',h3,C'⟩)
    · obtain⟨gs',ops,q',w',hrt,hsz',hsp,hS,hw0,_,_,C',hlt⟩:=CoF.by_step (sl:=sl') (fun t u i=>Knows.app u) Cd hi e hg
        (fun x gx w' hx hgx _=>by subst hx;rw [ha] at hgx;obtain rfl:=Option.some.inj hgx;exact again_of_running (.inl hrun) _) (fun hD=>hD.elim)
        (fun s g₂ _ _=>⟨fun hD=>hD,fun x gx c hx hgx _=>by subst hx;rw [ha] at hgx;obtain rfl:=Option.some.inj hgx;exact offersAt_of_not_blocked (by rw [hrun];simp) _ _⟩)
      have hR:Ro OB h w w':=hRd.trans _ _ _ (hS.by' hw0 e)
      refine .head (ho:=by exact .side hS.rest) (by rw [hst];exact hrt) ?_
      refine (ihm (sumTo gs'.size q') (by rw [hsz',←hm];exact hlt) rfl (hw.trans _ _ _ hR) (by rw [hsp h rfl];exact ha) C').bind fun m' T'=>?_
      rintro ⟨gs2,w2,sl2,q2,rfl,k1,k2,k3,k4⟩
      exact .here ⟨gs2,w2,sl2,q2,rfl,by omega,k2,k3,k4⟩
end
abbrev closeTc (tb qt:Nat):Array Value:=closeT2 tb qt (pt tb) (.bool false) (.bool false) (pt tb) (pt tb) (pt tb 5) (.bool false) (.bool false) (pt tb) (pt tb) (pt tb) (pt tb 5) (pt tb) (pt tb 3)
noncomputable def closeFr (tb qt:Nat) (rest:List Nat):Frame:=(base 22).at ⟨closeTc tb qt,[]⟩ [.inRegion closeOps2 rest,.code closeR]
section
variable {OB WB:Nat→Prop} {Inb:Nat→Option Seat}
set_option maxRecDepth 100000 in
theorem close_way {n0:Nat} {w0 w:World} {tb qt:Nat} {z3:Value} (hK:KA OB WB Inb n0 w0 w) (ht:(∀ i s,Inb i=some s→¬ s.has tb)∧¬ WB tb) (h3:w0.cell? ⟨tb,3,none⟩=some z3) (h5:w0.cell? ⟨tb,5,none⟩=some (.bool false)) (h6:w0.cell? ⟨tb,6,none⟩=some (.chan (some qt))) (hz:∀ o,w0.frozen? ⟨tb,o,none⟩=false) (cs:List Frame) :
    Conc.Goes Try.prog true (Ro OB 0) (DO OB WB Inb 0) (fun g w'=>g=Go.Conc.G (closeFr tb qt [4]) cs∧KA OB WB Inb n0 ((w0.setCell ⟨tb,5,none⟩ (.bool true)).setCell ⟨tb,3,none⟩ (.pointer none)) w') 60 (Go.Conc.G ((base 22).at ⟨#[pt tb,undef,undef,undef,undef,undef,undef,undef,undef,undef,undef,undef,undef,undef,undef,undef,undef,undef,undef,undef,undef,undef,undef,undef,undef,undef,undef,undef,undef,undef,undef,undef],[]⟩ [.code closeC]) cs) w:=by
  simp only [closeC,Try.f22,Option.getD_some]
  (refine Conc.Goes.step rfl (fun w₁ h₁=>?_);replace hK:=hK.rely h₁;clear h₁;rw [stepG_seq];simp only [goes_go];refine⟨DO.none _,?_⟩)
  (refine Conc.Goes.step rfl (fun w₁ h₁=>?_);replace hK:=hK.rely h₁;clear h₁;rw [stepG_seq];simp only [goes_go];refine⟨DO.none _,?_⟩)
  (refine Conc.Goes.step rfl (fun w₁ h₁=>?_);replace hK:=hK.rely h₁;clear h₁;rw [stepG_region];simp only [goes_go,List.size_toArray,List.length_cons,List.length_nil,Nat.reduceAdd,Nat.zero_add,List.range,List.range.loop];refine⟨DO.none _,?_⟩)
  (refine Conc.Goes.step rfl (fun w₁ h₁=>?_);replace hK:=hK.rely h₁;clear h₁;refine goes_oper_k rfl rfl (by decide) (fun K hK'=>?_);go_simp;refine hK' _ _ ⟨DO.quiet (fun e he=>(by have hm:=mem_listed he;simp [go_sem,Instr.makeInterface,Instr.makeFunc] at hm)),?_⟩;clear hK' K)
  refine Conc.Goes.step rfl (fun w₁ h₁=>?_)
  replace hK:=hK.rely h₁;clear h₁
  refine goes_oper_k rfl rfl (by decide) (fun K hK'=>?_)
  go_simp
  refine hK' _ _ ⟨DO.quiet (fun e he=>(by rw [listed_nilp rfl rfl rfl rfl] at he;simp at he)),?_⟩
  clear hK' K
  (refine Conc.Goes.step rfl (fun w₁ h₁=>?_);replace hK:=hK.rely h₁;clear h₁;refine goes_oper_k rfl rfl (by decide) (fun K hK'=>?_);go_simp;refine hK' _ _ ⟨DO.quiet (fun e he=>(by have hm:=mem_listed he;simp [go_sem,Instr.makeInterface,Instr.makeFunc] at hm)),?_⟩;clear hK' K)
  (refine Conc.Goes.step rfl (fun w₁ h₁=>?_);replace hK:=hK.rely h₁;clear h₁;refine goes_oper_k rfl rfl (by decide) (fun K hK'=>?_);go_simp;refine hK' _ _ ⟨DO.quiet (fun e he=>(by have hm:=mem_listed he;simp [go_sem,Instr.makeInterface,Instr.makeFunc] at hm)),?_⟩;clear hK' K)
  (refine Conc.Goes.step rfl (fun w₁ h₁=>?_);replace hK:=hK.rely h₁;clear h₁;refine goes_oper_k rfl rfl (by decide) (fun K hK'=>?_);go_simp;refine hK' _ _ ⟨DO.quiet (fun e he=>(by have hm:=mem_listed he;simp [go_sem,Instr.makeInterface,Instr.makeFunc] at hm)),?_⟩;clear hK' K)
  (refine Conc.Goes.step rfl (fun w₁ h₁=>?_);replace hK:=hK.rely h₁;clear h₁;refine goes_oper_k rfl rfl (by decide) (fun K hK'=>?_);go_simp;refine hK' _ _ ⟨DO.quiet (fun e he=>(by have hm:=mem_listed he;simp [go_sem,Instr.makeInterface,Instr.makeFunc] at hm)),?_⟩;clear hK' K)
  (refine Conc.Goes.step rfl (fun w₁ h₁=>?_);replace hK:=hK.rely h₁;clear h₁;have hF:=(hK.cell h5);refine goes_oper_k rfl rfl (by decide) (fun K hK'=>?_);go_simp;refine hK' _ _ ⟨DO.quiet (fun e he=>(by have hm:=mem_listed he;simp [go_sem,hF] at hm;subst hm;exact evO_cell (hK.cell h5))),?_⟩;clear hK' K hF)
  (refine Conc.Goes.step rfl (fun w₁ h₁=>?_);replace hK:=hK.rely h₁;clear h₁;refine goes_oper_k rfl rfl (by decide) (fun K hK'=>?_);go_simp;refine hK' _ _ ⟨DO.quiet (fun e he=>(by have hm:=mem_listed he;simp [go_sem,Instr.makeInterface,Instr.makeFunc] at hm)),?_⟩;clear hK' K)
  (refine Conc.Goes.step rfl (fun w₁ h₁=>?_);replace hK:=hK.rely h₁;clear h₁;rw [stepG_region_end];simp only [goes_go];refine⟨DO.none _,?_⟩)
  (refine Conc.Goes.step rfl (fun w₁ h₁=>?_);replace hK:=hK.rely h₁;clear h₁;rw [stepG_cond (t:=false) rfl];simp only [goes_go,if_true,if_false,Bool.false_eq_true,↓reduceIte];refine⟨DO.none _,?_⟩)
  (refine Conc.Goes.step rfl (fun w₁ h₁=>?_);replace hK:=hK.rely h₁;clear h₁;rw [stepG_skip];simp only [goes_go];refine⟨DO.none _,?_⟩)
  (refine Conc.Goes.step rfl (fun w₁ h₁=>?_);replace hK:=hK.rely h₁;clear h₁;rw [stepG_seq];simp only [goes_go];refine⟨DO.none _,?_⟩)
  (refine Conc.Goes.step rfl (fun w₁ h₁=>?_);replace hK:=hK.rely h₁;clear h₁;rw [stepG_region];simp only [goes_go,List.size_toArray,List.length_cons,List.length_nil,Nat.reduceAdd,Nat.zero_add,List.range,List.range.loop];refine⟨DO.none _,?_⟩)
  (refine Conc.Goes.step rfl (fun w₁ h₁=>?_);replace hK:=hK.rely h₁;clear h₁;refine goes_oper_k rfl rfl (by decide) (fun K hK'=>?_);go_simp;refine hK' _ _ ⟨DO.quiet (fun e he=>(by have hm:=mem_listed he;simp [go_sem,Instr.makeInterface,Instr.makeFunc] at hm)),?_⟩;clear hK' K)
  (refine Conc.Goes.step rfl (fun w₁ h₁=>?_);replace hK:=hK.rely h₁;clear h₁;refine goes_oper_k rfl rfl (by decide) (fun K hK'=>?_);go_simp;refine hK' _ _ ⟨DO.quiet (fun e he=>(by have hm:=mem_listed he;simp [go_sem,Instr.makeInterface,Instr.makeFunc] at hm)),?_⟩;clear hK' K)
  (refine Conc.Goes.step rfl (fun w₁ h₁=>?_);replace hK:=hK.rely h₁;clear h₁;refine goes_oper_k rfl rfl (by decide) (fun K hK'=>?_);go_simp;refine hK' _ _ ⟨DO.quiet (fun e he=>(by have hm:=mem_listed he;simp [go_sem,Instr.makeInterface,Instr.makeFunc] at hm)),?_⟩;clear hK' K)
  (refine Conc.Goes.step rfl (fun w₁ h₁=>?_);replace hK:=hK.rely h₁;clear h₁;refine goes_oper_k rfl rfl (by decide) (fun K hK'=>?_);go_simp;refine hK' _ _ ⟨DO.quiet (fun e he=>(by have hm:=mem_listed he;simp [go_sem,Instr.makeInterface,Instr.makeFunc] at hm)),?_⟩;clear hK' K)
  refine Conc.Goes.step rfl (fun w₁ h₁=>?_)
  replace hK:=hK.rely h₁;clear h₁
  have hc3:=hK.cell h5
  have hz3:w₁.frozen? ⟨tb,5,none⟩=false:=(frozen_at _ _ _ (by rw [hK.heap])).trans (hz 5)
  refine goes_oper_k rfl rfl (by decide) (fun K hK'=>?_)
  go_simp
  refine hK' _ _ ⟨hK.set_do (.inr ht) (fun e he=>(by have hm:=mem_listed he;simp [go_sem,events_store_bool,storedEv,hc3,hz3] at hm;subst hm;exact evO_wr ht.2 (by obtain⟨_,_,_,hb,_⟩:=cell_block hc3;exact block_low hb))),?_⟩
  clear hK' K hc3 hz3
  replace hK:=hK.set (a:=⟨tb,5,none⟩) (v:=.bool true)
  have h3':(w0.setCell ⟨tb,5,none⟩ (.bool true)).cell? ⟨tb,3,none⟩=some z3:=by rw [cell_setCell_off _ _ _ _ _ (by decide)];exact h3
  have h6':((w0.setCell ⟨tb,5,none⟩ (.bool true)).setCell ⟨tb,3,none⟩ (.pointer none)).cell? ⟨tb,6,none⟩=some (.chan (some qt)):=by rw [cell_setCell_off _ _ _ _ _ (by decide),cell_setCell_off _ _ _ _ _ (by decide)];exact h6
  have hz':(w0.setCell ⟨tb,5,none⟩ (.bool true)).frozen? ⟨tb,3,none⟩=false:=by
    obtain⟨c,el,fr,hb,_⟩:=cell_block h5
    have h:=hz 3
    unfold World.frozen? at h ⊢
    rw [heap_setCell,if_pos rfl]
    simp only [hb,Option.map_some] at h ⊢
    exact h
  (refine Conc.Goes.step rfl (fun w₁ h₁=>?_);replace hK:=hK.rely h₁;clear h₁;refine goes_oper_k rfl rfl (by decide) (fun K hK'=>?_);go_simp;refine hK' _ _ ⟨DO.quiet (fun e he=>(by have hm:=mem_listed he;simp [go_sem,Instr.makeInterface,Instr.makeFunc] at hm)),?_⟩;clear hK' K)
  (refine Conc.Goes.step rfl (fun w₁ h₁=>?_);replace hK:=hK.rely h₁;clear h₁;refine goes_oper_k rfl rfl (by decide) (fun K hK'=>?_);go_simp;refine hK' _ _ ⟨DO.quiet (fun e he=>(by have hm:=mem_listed he;simp [go_sem,Instr.makeInterface,Instr.makeFunc] at hm)),?_⟩;clear hK' K)
  refine Conc.Goes.step rfl (fun w₁ h₁=>?_)
  replace hK:=hK.rely h₁;clear h₁
  have hc3:=hK.cell h3'
  have hz3:w₁.frozen? ⟨tb,3,none⟩=false:=(frozen_at _ _ _ (by rw [hK.heap])).trans hz'
  refine goes_oper_k rfl rfl (by decide) (fun K hK'=>?_)
  go_simp
  refine hK' _ _ ⟨hK.set_do (.inr ht) (fun e he=>(by have hm:=mem_listed he;simp [go_sem,events_store_ptr,storedEv,hc3,hz3] at hm;subst hm;exact evO_wr ht.2 (by obtain⟨_,_,_,hb,_⟩:=cell_block hc3;exact block_low hb))),?_⟩
  clear hK' K hc3 hz3
  replace hK:=hK.set (a:=⟨tb,3,none⟩) (v:=.pointer none)
  (refine Conc.Goes.step rfl (fun w₁ h₁=>?_);replace hK:=hK.rely h₁;clear h₁;rw [stepG_region_end];simp only [goes_go];refine⟨DO.none _,?_⟩)
  (refine Conc.Goes.step rfl (fun w₁ h₁=>?_);replace hK:=hK.rely h₁;clear h₁;rw [stepG_seq];simp only [goes_go];refine⟨DO.none _,?_⟩)
  (refine Conc.Goes.step rfl (fun w₁ h₁=>?_);replace hK:=hK.rely h₁;clear h₁;rw [stepG_region];simp only [goes_go,List.size_toArray,List.length_cons,List.length_nil,Nat.reduceAdd,Nat.zero_add,List.range,List.range.loop];refine⟨DO.none _,?_⟩)
  (refine Conc.Goes.step rfl (fun w₁ h₁=>?_);replace hK:=hK.rely h₁;clear h₁;refine goes_oper_k rfl rfl (by decide) (fun K hK'=>?_);go_simp;refine hK' _ _ ⟨DO.quiet (fun e he=>(by have hm:=mem_listed he;simp [go_sem,Instr.makeInterface,Instr.makeFunc] at hm)),?_⟩;clear hK' K)
  (refine Conc.Goes.step rfl (fun w₁ h₁=>?_);replace hK:=hK.rely h₁;clear h₁;refine goes_oper_k rfl rfl (by decide) (fun K hK'=>?_);go_simp;refine hK' _ _ ⟨DO.quiet (fun e he=>(by have hm:=mem_listed he;simp [go_sem,Instr.makeInterface,Instr.makeFunc] at hm)),?_⟩;clear hK' K)
  (refine Conc.Goes.step rfl (fun w₁ h₁=>?_);replace hK:=hK.rely h₁;clear h₁;refine goes_oper_k rfl rfl (by decide) (fun K hK'=>?_);go_simp;refine hK' _ _ ⟨DO.quiet (fun e he=>(by have hm:=mem_listed he;simp [go_sem,Instr.makeInterface,Instr.makeFunc] at hm)),?_⟩;clear hK' K)
  (refine Conc.Goes.step rfl (fun w₁ h₁=>?_);replace hK:=hK.rely h₁;clear h₁;have hF:=(hK.cell h6');refine goes_oper_k rfl rfl (by decide) (fun K hK'=>?_);go_simp;refine hK' _ _ ⟨DO.quiet (fun e he=>(by have hm:=mem_listed he;simp [go_sem,hF] at hm;subst hm;exact evO_cell (hK.cell h6'))),?_⟩;clear hK' K hF)
  exact Conc.Goes.stop (fun w₁ h₁=>⟨by simp only [closeFr,closeOps2,closeR,closeC,cOps,cL,cR,Try.f22,Option.getD_some],hK.rely h₁⟩)
theorem close_step (tb qt:Nat) (cs:List Frame) {w:World} {cap s r:Nat} {buf:Array Value} {tm:Bool} (hc:w.heap[qt]?=some (.chan cap buf false s r tm)) (main:Bool) :
    stepG Try.prog main (Go.Conc.G (closeFr tb qt [4]) cs) w=.go (Go.Conc.G (closeFr tb qt []) cs) (w.setChan qt cap buf true s r tm) (closeEvents qt):=by
  obtain⟨o,ho⟩:∃ o,closeOps2[4]?=some o:=⟨_,Array.getElem?_eq_getElem (by rw [show closeOps2.size=5 by kernel_rfl];omega)⟩
  have ho':=ho
  simp only [closeOps2,closeC,cOps,cL,cR,Try.f22,Option.getD_some] at ho'
  simp only [List.getElem?_toArray,List.getElem?_cons_succ,List.getElem?_cons_zero,Option.some.injEq] at ho'
  subst ho'
  unfold closeFr
  rw [stepG_close ho (by simp [Region.wanted]) (by decide) rfl (by simp [Act.eval]) hc (by simp only [base,Frame.at,Try.func22];rfl)]
  rfl
set_option maxRecDepth 100000 in
theorem close_idle {n0:Nat} {w0 w:World} {tb qt:Nat} (hK:KA OB WB Inb n0 w0 w) (h4:w0.cell? ⟨tb,4,none⟩=some (.bool false)) (c0:Frame) (cs:List Frame) :
    Conc.Goes Try.prog true (Ro OB 0) (DO OB WB Inb 0) (fun g w'=>g=Go.Conc.G (c0.finish (.tuple #[])) cs∧KA OB WB Inb n0 w0 w') 30 (Go.Conc.G (closeFr tb qt []) (c0::cs)) w:=by
  simp only [closeFr,closeOps2,closeR,closeC,cOps,cL,cR,Try.f22,Option.getD_some]
  (refine Conc.Goes.step rfl (fun w₁ h₁=>?_);replace hK:=hK.rely h₁;clear h₁;rw [stepG_region_end];simp only [goes_go];refine⟨DO.none _,?_⟩)
  (refine Conc.Goes.step rfl (fun w₁ h₁=>?_);replace hK:=hK.rely h₁;clear h₁;rw [stepG_seq];simp only [goes_go];refine⟨DO.none _,?_⟩)
  (refine Conc.Goes.step rfl (fun w₁ h₁=>?_);replace hK:=hK.rely h₁;clear h₁;rw [stepG_region];simp only [goes_go,List.size_toArray,List.length_cons,List.length_nil,Nat.reduceAdd,Nat.zero_add,List.range,List.range.loop];refine⟨DO.none _,?_⟩)
  (refine Conc.Goes.step rfl (fun w₁ h₁=>?_);replace hK:=hK.rely h₁;clear h₁;refine goes_oper_k rfl rfl (by decide) (fun K hK'=>?_);go_simp;refine hK' _ _ ⟨DO.quiet (fun e he=>(by have hm:=mem_listed he;simp [go_sem,Instr.makeInterface,Instr.makeFunc] at hm)),?_⟩;clear hK' K)
  (refine Conc.Goes.step rfl (fun w₁ h₁=>?_);replace hK:=hK.rely h₁;clear h₁;refine goes_oper_k rfl rfl (by decide) (fun K hK'=>?_);go_simp;refine hK' _ _ ⟨DO.quiet (fun e he=>(by have hm:=mem_listed he;simp [go_sem,Instr.makeInterface,Instr.makeFunc] at hm)),?_⟩;clear hK' K)
  (refine Conc.Goes.step rfl (fun w₁ h₁=>?_);replace hK:=hK.rely h₁;clear h₁;refine goes_oper_k rfl rfl (by decide) (fun K hK'=>?_);go_simp;refine hK' _ _ ⟨DO.quiet (fun e he=>(by have hm:=mem_listed he;simp [go_sem,Instr.makeInterface,Instr.makeFunc] at hm)),?_⟩;clear hK' K)
  (refine Conc.Goes.step rfl (fun w₁ h₁=>?_);replace hK:=hK.rely h₁;clear h₁;have hF:=(hK.cell h4);refine goes_oper_k rfl rfl (by decide) (fun K hK'=>?_);go_simp;refine hK' _ _ ⟨DO.quiet (fun e he=>(by have hm:=mem_listed he;simp [go_sem,hF] at hm;subst hm;exact evO_cell (hK.cell h4))),?_⟩;clear hK' K hF)
  (refine Conc.Goes.step rfl (fun w₁ h₁=>?_);replace hK:=hK.rely h₁;clear h₁;rw [stepG_region_end];simp only [goes_go];refine⟨DO.none _,?_⟩)
  (refine Conc.Goes.step rfl (fun w₁ h₁=>?_);replace hK:=hK.rely h₁;clear h₁;rw [stepG_cond (t:=false) rfl];simp only [goes_go,if_true,if_false,Bool.false_eq_true,↓reduceIte];refine⟨DO.none _,?_⟩)
  (refine Conc.Goes.step rfl (fun w₁ h₁=>?_);replace hK:=hK.rely h₁;clear h₁;rw [stepG_skip];simp only [goes_go];refine⟨DO.none _,?_⟩)
  (refine Conc.Goes.step rfl (fun w₁ h₁=>?_);replace hK:=hK.rely h₁;clear h₁;rw [stepG_end];simp only [goes_go];refine⟨DO.none _,?_⟩)
  refine Conc.Goes.step rfl (fun w₁ h₁=>?_)
  replace hK:=hK.rely h₁;clear h₁
  rw [stepG_leave rfl rfl Try.func22 (results_none Try.results22 _ _ _) (events_results_none Try.results22 _ _)]
  simp only [goes_go]
  refine⟨DO.none _,?_⟩
  exact Conc.Goes.stop (fun w₁ h₁=>⟨rfl,hK.rely h₁⟩)
end
theorem shut_ch {S:St} {k:Nat} {self:Int} {quit:Nat} {closed:Bool} {cur:Option (Nat × Nat × Nat)} {pend pend':Option Nat} (hthr:S[k]?=some (.thr self quit closed false cur pend)) {i s c:Nat} (h:ChS (S.set k (.thr self quit true false cur pend')) i s c):ChS S i s c:=by
  have hcase:∀ (i:Nat) ob,(S.set k (Ob.thr self quit true false cur pend'))[i]?=some ob→(i=k∧ob=.thr self quit true false cur pend')∨S[i]?=some ob:=fun i ob hi=>by
    by_cases z:i=k
    · subst z;rw [List.getElem?_set_self (ob_lt hthr)] at hi;exact .inl ⟨rfl,(Option.some.inj hi).symm⟩
    · rw [List.getElem?_set_ne (Ne.symm z)] at hi;exact .inr hi
  cases h with
  | quit h =>
    rcases hcase _ _ h with ⟨rfl,z⟩|z
    · cases z;exact .quit hthr
    · exact .quit z
  | done h =>
    rcases hcase _ _ h with ⟨rfl,z⟩|z
    · cases z;exact .done hthr
    · exact .done z
  | ask h =>
    rcases hcase _ _ h with ⟨_,z⟩|z
    · cases z
    · exact .ask z
  | grant h =>
    rcases hcase _ _ h with ⟨_,z⟩|z
    · cases z
    · exact .grant z
section
variable {p:Par} {Su:SuT} {S:St} {F:Emb} {N C:Nat} {Inb:Nat→Option Seat} {gs gs':Array Goroutine} {w w':World} {T T':Trace}
theorem Com.quitFree (H:Com p Su S F N C Inb gs w T) (hs0:p.seat0=none) (hr:p.run=none) {k:Nat} {self:Int} {quit:Nat} {closed:Bool} {cur:Option (Nat × Nat × Nat)} {pend:Option Nat} (hthr:S[k]?=some (.thr self quit closed false cur pend)):∀ i s,Inb i=some s→¬ s.has quit:=by
  intro i s hi hc
  have t:=H.tab
  by_cases z:i=0
  · have:=H.main
    rw [z,this,hs0] at hi
    cases hi
  · obtain⟨_,_,h3⟩:=H.seats i s hi
    obtain⟨k2,a1,a2,a3,hp2,dn2,pe2,b1,b2⟩:=h3 z
    obtain⟨_,h4⟩:=H.waits k2 _ _ _ _ _ _ _ b2
    obtain⟨ws2,st2,ak2,gr2,ab2,x2,y2,cs2,c1,c2,_⟩:=h4 b1
    rw [c2] at hi
    cases hi
    rcases seatD_has hc with e|e
    · exact absurd (t.dist' (.grant c1) (.quit hthr) e.symm).2 (by decide)
    · have:=(t.dist' (.quit b2) (.quit hthr) e.symm).1
      rw [this,hthr] at b2
      cases b2
theorem Com.shut (H:Com p Su S F N C Inb gs w T) {k:Nat} {self:Int} {quit:Nat} {closed:Bool} {cur:Option (Nat × Nat × Nat)} {pend pend':Option Nat} (hthr:S[k]?=some (.thr self quit closed false cur pend))
    (hs:w.heap.size≤w'.heap.size) (hsz:gs'.size=gs.size) (hk:∀ x,x<w.heap.size→¬ p.OB x→x≠quit→w'.heap[x]?=w.heap[x]?) (hq:IsChan w' quit) (hring:∃ B Mem q,RingO Try.prog p.OB p.WB B p.Iv Mem Inb p.h T' gs' w' q∧Mem 0∧Mem p.h) :
    Com p Su (S.set k (.thr self quit true false cur pend')) F N C Inb gs' w' T':=by
  have t:=H.tab
  have hkl:=ob_lt hthr
  have hself:(S.set k (Ob.thr self quit true false cur pend'))[k]?=some (.thr self quit true false cur pend'):=List.getElem?_set_self hkl
  have hne:∀ i,i≠k→(S.set k (Ob.thr self quit true false cur pend'))[i]?=S[i]?:=fun i hi=>List.getElem?_set_ne (Ne.symm hi)
  have hcase:∀ (i:Nat) ob,(S.set k (Ob.thr self quit true false cur pend'))[i]?=some ob→(i=k∧ob=.thr self quit true false cur pend')∨(i≠k∧S[i]?=some ob):=fun i ob hi=>by
    by_cases z:i=k
    · subst z;rw [hself] at hi;exact .inl ⟨rfl,(Option.some.inj hi).symm⟩
    · rw [hne i z] at hi;exact .inr ⟨z,hi⟩
  have hold:∀ {i:Nat} {ob},S[i]?=some ob→(∀ a b c d e f,ob≠.thr a b c d e f)→(S.set k (Ob.thr self quit true false cur pend'))[i]?=some ob:=fun {i ob} hi hn=>by
    rw [hne i (fun e=>by rw [e,hthr] at hi;exact hn _ _ _ _ _ _ (Option.some.inj hi).symm)];exact hi
  have hch:∀ i s c,ChS (S.set k (Ob.thr self quit true false cur pend')) i s c→ChS S i s c:=fun i s c h=>by
    cases h with
    | quit h =>
      rcases hcase _ _ h with ⟨rfl,z⟩|⟨_,z⟩
      · cases z;exact .quit hthr
      · exact .quit z
    | done h =>
      rcases hcase _ _ h with ⟨rfl,z⟩|⟨_,z⟩
      · cases z;exact .done hthr
      · exact .done z
    | ask h =>
      rcases hcase _ _ h with ⟨_,z⟩|⟨_,z⟩
      · cases z
      · exact .ask z
    | grant h =>
      rcases hcase _ _ h with ⟨_,z⟩|⟨_,z⟩
      · cases z
      · exact .grant z
  have hkc:∀ {i s c cap},ChS S i s c→c≠quit→ChanO w c cap→ChanO w' c cap:=fun {i s c cap} hc hn ⟨m,hm⟩=>⟨m,(hk c (block_low hm) (t.far _ _ _ hc).2.1 hn).trans hm⟩
  refine⟨hring,⟨fun b=>?_,fun b=>?_,fun k s c k' s' h1 h2=>t.dist _ _ _ _ _ (hch _ _ _ h1) (hch _ _ _ h2),fun k s c h=>?_,fun b hO=>Nat.lt_of_lt_of_le (t.olow b hO) hs,fun i a b c d e h=>?_,fun i a b c d e h=>?_⟩,H.main,fun i se hi=>?_,fun i a b c d e f g h=>?_,H.n0,by rw [List.length_set];exact H.c0⟩
  · rw [t.obs b]
    constructor
    · rintro ⟨i,a1,a2,a3,a4,a5,a6,a7,a8⟩
      by_cases z:i=k
      · subst z;exact⟨i,_,_,_,_,_,_,hself,a8⟩
      · exact⟨i,_,_,_,_,_,_,(hne i z).trans a7,a8⟩
    · rintro ⟨i,a1,a2,a3,a4,a5,a6,a7,a8⟩
      rcases hcase _ _ a7 with ⟨rfl,_⟩|⟨_,z⟩
      · exact⟨i,_,_,_,_,_,_,hthr,a8⟩
      · exact⟨i,_,_,_,_,_,_,z,a8⟩
  · rw [t.wbs b]
    constructor
    · rintro ⟨i,a1,a2,a3,a4,a5,a7,a8⟩
      exact⟨i,_,_,_,_,_,hold a7 (fun _ _ _ _ _ _ z=>by cases z),a8⟩
    · rintro ⟨i,a1,a2,a3,a4,a5,a7,a8⟩
      rcases hcase _ _ a7 with ⟨_,z⟩|⟨_,z⟩
      · cases z
      · exact⟨i,_,_,_,_,_,z,a8⟩
  · obtain⟨h1,h2,h3⟩:=t.far _ _ _ (hch _ _ _ h)
    refine⟨?_,h2,h3⟩
    by_cases e:c=quit
    · rw [e];exact hq
    · obtain⟨b1,b2,b3,b4,b5,b6,b7⟩:=h1
      exact⟨b1,b2,b3,b4,b5,b6,(hk c (block_low b7) h2 e).trans b7⟩
  · rcases hcase _ _ h with ⟨_,z⟩|⟨hn,z⟩
    · cases z
    · exact hkc (.quit z) (fun e=>hn (t.dist' (.quit z) (.quit hthr) e).1) (t.quit _ _ _ _ _ _ z)
  · rcases hcase _ _ h with ⟨_,z⟩|⟨hn,z⟩
    · cases z
    · obtain⟨h1,hp,gid,dn,ws,st,ak,gr,rfl,h3,h4,h5,h6,h7,h8,h9⟩:=t.busy _ _ _ _ _ _ z
      exact⟨h1,hp,gid,dn,ws,st,ak,gr,rfl,hold h3 (fun _ _ _ _ _ _ z=>by cases z),hkc (.ask h3) (fun e=>absurd (t.dist' (.ask h3) (.quit hthr) e).2 (by decide)) h4,hkc (.grant h3) (fun e=>absurd (t.dist' (.grant h3) (.quit hthr) e).2 (by decide)) h5,hkc (.done z) (fun e=>absurd (t.dist' (.done z) (.quit hthr) e).2 (by decide)) h6,h7,by omega,hold h9 (fun _ _ _ _ _ _ z=>by cases z)⟩
  · obtain⟨h1,h2,h3⟩:=H.seats i se hi
    refine⟨h1,by omega,fun h0=>?_⟩
    obtain⟨j,a1,a2,a3,a4,a5,a6,a7,a8⟩:=h3 h0
    have hjk:j≠k:=fun e=>by rw [e,hthr] at a8;cases a8
    exact⟨j,a1,a2,a3,a4,a5,a6,a7,(hne j hjk).trans a8⟩
  · rcases hcase _ _ h with ⟨_,z⟩|⟨hn,z⟩
    · cases z
    · obtain⟨h1,h2⟩:=H.waits _ _ _ _ _ _ _ _ z
      refine⟨h1,fun hne=>?_⟩
      obtain⟨ws,st,ak,gr,ab,x,y,cs,h3,h4,h5⟩:=h2 hne
      exact⟨ws,st,ak,gr,ab,x,y,cs,hold h3 (fun _ _ _ _ _ _ z=>by cases z),h4,h5⟩
end
section
variable (hok:∀ mn OB WB,PrimOK mn OB WB)
variable {Γ:Type} (Pr:Proto Γ)
def SpIdle:SpT Γ:=fun f args hs S γ Q=>∃ (k quit:Nat) (self:Int) (cur:Option (Nat × Nat × Nat)) (pend:Option Nat),f=22∧args=#[hndV k]∧KeepC γ.2 S∧S[k]?=some (.thr self quit false false cur pend)∧Q (.tuple #[]) hs (S.set k (.thr self quit true false cur none)) (γ.1,S.set k (.thr self quit true false cur none))
variable {Pr}
theorem close_body:Try.f22.body=some closeC:=rfl
set_option maxRecDepth 100000 in
theorem close_begin {F:Emb} {k:Nat} (hb:F.base (VB+k)=0):actF F (enterL Try.f22 closeC #[hndV k]).2=⟨#[pt (F.blk (VB+k)),undef,undef,undef,undef,undef,undef,undef,undef,undef,undef,undef,undef,undef,undef,undef,undef,undef,undef,undef,undef,undef,undef,undef,undef,undef,undef,undef,undef,undef,undef,undef],[]⟩:=by
  simp only [enterL,Try.ntmps22]
  simp [actF,adr,hndV,ren_undef,hb,List.replicate]
theorem close_ok {n00:Nat} {w00:World} {Fin:Unit→Machine→Trace→Prop} {Stk:List Frame→Prop}:SpOK hok (ClM n00 w00) (SuM hok Pr) Fin Stk (SpIdle (Γ:=Γ)):=by
  intro f args hs S γ Q hsp b cs F0 N0 C0 fn ops i rest kk tmps o hfn hkd hsk ho hw hb' hca K d p Inb F gs w sl T g hC H hg hgS hF hN hC0
  obtain⟨k,quit,self,cur,pend,rfl,rfl,hkeep,hthr,hQ⟩:=hsp
  obtain⟨h0,hrun,hseat,hPX,hn00,hw00⟩:=id hC
  have hst:∀ u∈tmps,Stab (Kn hs.next S.length) F u:=fun u hu=>H.inv.1.vst u hu
  refine (stand_enter hok (SuM.mono hok Pr d γ.1) ho hw hb' hca Try.func22 rfl close_body hkd H hg hgS).bind fun m1 T1=>?_
  rintro ⟨gs1,w1,sl1,rfl,k1,H1⟩
  have H1:Standing p hok (SuM hok Pr d γ.1) S F (.run [] [] hs S) Inb gs1 w1 T1:=Standing.keep (c:=.run [] [] hs S) hok hkeep (Standing.conf hok H1 rfl rfl (fun v hv=>by cases hv))
  have hX:=X_main hok h0
  have hinv:RInv (XM hok p.OB p.WB) F (.run [] [] hs S) w1:=hX ▸ H1.inv
  have Rp:Rep true p.OB p.WB F S w1:=hinv.1.rep
  obtain⟨hOtb,hcur,_,hrtb⟩:=Rp.at' _ _ hthr rfl
  rw [close_begin (Rp.base _ _ hthr rfl),h0] at k1
  obtain⟨B0,Mem0,q0,R0,hM0,_⟩:=H1.com.ring
  rw [h0] at R0
  have hlow:=com_low H1.com H1.wrow
  have t:=H1.com.tab
  have htb:=seats_tb H1.com hOtb
  have hqf:=H1.com.quitFree hseat hrun hthr
  obtain⟨m,hm⟩:=t.quit _ _ _ _ _ _ hthr
  obtain⟨_,hqO,hqW⟩:=t.far _ _ _ (.quit hthr)
  generalize htbE:F.blk (VB+k)=tb at *
  have hqt:quit≠tb:=fun e=>hqO (e ▸ hOtb)
  refine (hold_goes (sl:=sl1) (h:=0) 60 k1 (close_way (n0:=w1.heap.size) (w0:=w1) (qt:=quit) ⟨rfl,hlow,Nat.le_refl _⟩ htb (by simp [World.cell?,hrtb,thrRow];rfl) (by simp [World.cell?,hrtb,thrRow]) (by simp [World.cell?,hrtb,thrRow,chV]) (fun o=>by simp [World.frozen?,hrtb]) _) R0).bind fun m2 T2=>?_
  rintro ⟨gs2,g2,w2,sl2,q2,B2,rfl,s2,k2,⟨rfl,K2⟩,R2⟩
  have hsz2:w2.heap.size=w1.heap.size:=by rw [K2.heap,setCell_size,setCell_size]
  have hold2:∀ x,x≠tb→w2.heap[x]?=w1.heap[x]?:=fun x hx=>by
    rw [K2.heap,heap_setCell,if_neg (fun (e:tb=x)=>hx e.symm),heap_setCell,if_neg (fun (e:tb=x)=>hx e.symm)]
  have hrtb2:w2.heap[tb]?=some (.cells (thrRow F self quit true false cur none) 103 (0,0)):=by
    rw [K2.heap,heap_setCell,if_pos rfl,heap_setCell,if_pos rfl,hrtb]
    simp [thrRow,ptrO]
  have hm2:w2.heap[quit]?=some (.chan 0 #[] false m m false):=(hold2 _ hqt).trans hm
  have R2':RingO Try.prog p.OB p.WB w2.heap.size p.Iv Mem0 Inb 0 T2 gs2 w2 q2:=CoF.mono R2.lowB (Nat.le_refl _) R2
  refine (hold_close (c:=quit) (B:=w2.heap.size) (OB:=p.OB) (WB:=p.WB) (Iv:=p.Iv) (Mem:=Mem0) (Inb:=Inb) (h:=0) (a':=Go.Conc.G (closeFr tb quit []) (b.at (actF F tmps) (.inRegion ops (i::rest)::kk)::cs)) (w0:=w2) (St:=fun w'=>w'.heap=(w2.setChan quit 0 #[] true m m false).heap) (sl:=sl2) (block_low hm2) rfl (fun w3 hw3=>?_) _ rfl (Ro.refl _) k2 R2').bind fun m3 T3=>?_
  · have hh:w3.heap=w2.heap:=by rw [hw3.heap0]
    refine⟨w3.setChan quit 0 #[] true m m false,close_step tb quit _ (by rw [hh];exact hm2) _,⟨fun i s c hi hc=>heap_setChan_ne _ _ _ _ _ _ _ (fun e=>hqf i s hi (e ▸ hc)),fun a ha _=>cell_at _ _ _ (heap_setChan_ne _ _ _ _ _ _ _ (fun e=>hqW (e ▸ ha))),fun z=>absurd rfl z,by simp [World.setChan],rfl,fun e he=>by simp at he⟩,by simp [World.setChan,hh]⟩
  rintro ⟨gs3,w3,sl3,q3,rfl,s3,k3,hh3,R3⟩
  have hsz3:w3.heap.size=w2.heap.size:=by rw [hh3];simp [World.setChan]
  have hold3:∀ x,x≠quit→w3.heap[x]?=w2.heap[x]?:=fun x hx=>by rw [hh3];exact heap_setChan_ne _ _ _ _ _ _ _ (fun e=>hx e.symm)
  have hrtb3:w3.heap[tb]?=some (.cells (thrRow F self quit true false cur none) 103 (0,0)):=(hold3 _ (Ne.symm hqt)).trans hrtb2
  have hq3:w3.heap[quit]?=some (.chan 0 #[] true m m false):=by rw [hh3];exact heap_setChan_self w2 hm2 _ _ _ _ _ _
  refine (hold_goes (sl:=sl3) (h:=0) 30 k3 (close_idle (n0:=w3.heap.size) (w0:=w3) ⟨rfl,fun b hb=>by rw [hsz3,hsz2];exact hlow b hb,Nat.le_refl _⟩ (by simp [World.cell?,hrtb3,thrRow]) _ _) R3).bind fun m4 T4=>?_
  rintro ⟨gs4,g4,w4,sl4,q4,B4,rfl,s4,k4,⟨rfl,K4⟩,R4⟩
  have hold4:∀ x,x≠quit→x≠tb→w4.heap[x]?=w1.heap[x]?:=fun x h1 h2=>by rw [K4.heap,hold3 x h1,hold2 x h2]
  have hsz4:w4.heap.size=w1.heap.size:=by rw [K4.heap,hsz3,hsz2]
  have hinv4:RInv (XM hok p.OB p.WB) F (.run [] [] hs (S.set k (.thr self quit true false cur none))) w4:=by
    refine rinv_thr hok hthr hcur (fun p hp=>by cases hp) hinv (fun x hx hne=>?_) (by rw [htbE,K4.heap];exact hrtb3) (Nat.le_of_eq hsz4.symm)
    rw [htbE] at hne
    refine hold4 x (fun e=>?_) hne
    obtain⟨_,_,_,h1⟩:=vis_row (XF.soft (hok _ _ _)) hinv hx
    rw [e,hm] at h1;cases h1
  have hlen:(S.set k (Ob.thr self quit true false cur none)).length=S.length:=by simp
  let p':Par:=⟨p.h,p.run,p.OB,p.WB,p.Iv,p.seat0,p.PX,w4,F,0,0,p.n0,p.w0⟩
  have hcomP:Com p' (SuM hok Pr d γ.1) S F hs.next S.length Inb gs1 w1 T1:=⟨H1.com.ring,H1.com.tab,H1.com.main,H1.com.seats,H1.com.waits,H1.com.n0,H1.com.c0⟩
  have hcom4:Com p' (SuM hok Pr d γ.1) (S.set k (.thr self quit true false cur none)) F hs.next S.length Inb gs4 w4 T4 :=
    hcomP.shut hthr (Nat.le_of_eq hsz4.symm) (by omega) (fun x hx hO hn=>hold4 x hn (fun e=>hO (e ▸ hOtb))) ⟨_,_,_,_,_,_,by rw [K4.heap];exact hq3⟩ ⟨B4,Mem0,q4,by show RingO _ _ _ _ _ _ _ p.h _ _ _ _;rw [h0];exact R4,hM0,by show Mem0 p.h;rw [h0];exact hM0⟩
  have hstand:Standing p' hok (SuM hok Pr d γ.1) (S.set k (.thr self quit true false cur none)) F (.run [] [] hs (S.set k (.thr self quit true false cur none))) Inb gs4 w4 T4:=by
    refine⟨?_,(X_main hok (p:=p') h0) ▸ hinv4,fun z=>absurd h0 z,fun x hx=>absurd hx (hPX x),fun x hx=>?_,H1.wro,H1.base.move (Nat.le_of_eq hsz4.symm) (fun x _ hT=>?_) (fun _ _ h=>h) (fun x _ _ h2 h3=>hold4 x (h3 _ _ _ (.quit hthr)) (fun e=>h2 (e ▸ hOtb))) (fun i s c h=>.inl (shut_ch hthr h)),Same.refl _ _,Nat.zero_le _,Nat.zero_le _⟩
    · show Com p' _ _ F hs.next (S.set k (Ob.thr self quit true false cur none)).length Inb gs4 w4 T4
      rw [hlen];exact hcom4
    · obtain⟨cc,el,y1,y2⟩:=H1.wrow x hx
      exact⟨cc,el,(hold4 x (fun e=>hqW (e ▸ hx)) (fun e=>htb.2 (e ▸ hx))).trans y1,y2⟩
    · rw [X_main hok (p:=p') h0] at hT
      rw [hX]
      exact hT.imp id (fun z=>fps_set hthr z)
  have hfin:(b.at (actF F tmps) (.inRegion ops (i::rest)::kk)).finish (.tuple #[])=b.at (actF F (putL o.dst (.tuple #[]) tmps)) (.inRegion ops rest::kk):=by
    rw [Frame.finish_at,ho]
    show b.at ((actF F tmps).put o.dst (.tuple #[])) (.inRegion ops rest::kk)=_
    rw [←actF_put]
    simp
  rw [hfin] at k4
  exact K _ hs _ _ hQ d p' Inb F gs4 w4 sl4 T4 _ ⟨h0,hrun,hseat,hPX,hn00,hw00⟩ (Standing.conf hok hstand rfl rfl (by
    show ∀ v∈_,Stab (Kn hs.next (S.set k (Ob.thr self quit true false cur none)).length) F v
    rw [hlen];exact putL_stab hst (fun F2 _=>by simp) o.dst)) (by rw [show p'.h=0 from h0];exact k4) rfl hF hN (by show C0≤(S.set k (Ob.thr self quit true false cur none)).length;rw [hlen];exact hC0)
end
def RunEnds (w00:World) (v:Value) (m:Machine) (T:Trace):Prop :=
  ∃ N last o w' t',runNT Try.prog (N+1) m T=(.ended o w',t')∧runN Try.prog N m=.next last∧step Try.prog last=.ended o w'∧Conc.Good Try.prog (fun r w'=>r=v∧Go.RowKit.Below w00.heap.size w00 w') last o w' t'
def FinL (w00:World) (v:Value) (_:Unit) (m:Machine) (T:Trace):Prop:=SOs w00 m.world→RunEnds w00 v m T
theorem reach_ended {w00:World} {v:Value} {m:Machine} {T:Trace} (hm:m.world=w00) (h:Reach Try.prog m T (FinL w00 v ())):RunEnds w00 v m T:=by
  obtain⟨N0,m',t0,hr,hso,hF⟩:=h
  rw [hm] at hso
  obtain⟨M,last,o,w',t',e1,e2,e3,e4⟩:=hF hso
  refine⟨N0+M,last,o,w',t',?_,?_,e3,e4⟩
  · rw [Nat.add_assoc,runNT_add,hr];exact e1
  · rw [runN_add,←runNT_fst Try.prog _ _ T,hr];exact e2
section
variable (hok:∀ mn OB WB,PrimOK mn OB WB)
variable {Γ:Type} (Pr:Proto Γ)
theorem nil_at {k:Nat} {ob:Ob} (h:([]:St)[k]?=some ob):False:=by simp at h
theorem stepG_ends {P:Program} {fr:Frame} {v:Value} {w:World} {fn:Func} {t:Tmp} (hl:fr.leaving P w (.returned v)) (hf:P.funcs[fr.fn]?=some fn) (hr:fn.results=#[.tmp t]) (hi:P.inits.idxOf? fr.fn=none):stepG P true (Go.Conc.G fr []) w=.ended (.done v) w #[]:=by
  obtain⟨h1,h2,h3,fn',h4,h5⟩:=hl
  rw [hf] at h4
  cases h4
  have he:=events_results_tmp (P:=P) (w:=w) hr fr.tmps #[]
  obtain⟨fnI,tmps,todo,defers,mode,kind,_⟩:=fr
  simp only at h1 h2 h3 hf h5 he hi
  subst h1 h2 h3
  simp [Go.Conc.G,stepG,unwind,doReturn,hf,h5,he,hi,seen,GStep.after]
theorem law_ends {w00:World} {v:Value} (hv:plainB v=true) {b:Frame} {fn:Func} {t:Tmp} (hf:Try.prog.funcs[b.fn]?=some fn) (hr:fn.results=#[.tmp t]) (hi:Try.prog.inits.idxOf? b.fn=none) {F0:Emb} {N0 C0:Nat} {hs:AHeap} {S:St} {γ:Γ × St} (hkeep:KeepC γ.2 S)
    (hidle:∀ (k:Nat) a b c d e f,S[k]?=some (Ob.thr a b c d e f)→d=false):Safe hok (ClM w00.heap.size w00) (SuM hok Pr) (FinL w00 v) b [] F0 N0 C0 (.done v hs S) γ:=by
  intro d p Inb F gs w sl T g hC H hg hS _ _ _
  refine .here fun hso=>?_
  obtain⟨h0,hrun,hseat,hPX,hn00,hw00⟩:=id hC
  have H:Standing p hok (SuM hok Pr d γ.1) S F (.done v hs S) Inb gs w T:=Standing.keep (c:=.done v hs S) hok hkeep H
  obtain⟨fr,rfl,hfn,hl,_⟩:=hS
  rw [ren_plain F hv] at hl
  obtain⟨B,Mem,q,R,hM0,_⟩:=H.com.ring
  rw [h0] at R hg hl
  have hnone:∀ i,i≠0→Inb i=none:=fun i hi=>by
    cases e:Inb i with
    | none=>rfl
    | some s =>
      obtain⟨k,a1,a2,a3,a4,a5,a6,_,a8⟩:=(H.com.seats i s e).2.2 hi
      have:=hidle _ _ _ _ _ _ _ a8
      cases this
  obtain⟨L,Pp⟩:=ringO_end R hM0 hnone
  refine beside_ends (P:=Try.prog) (Shun:=fun _=>False) (B:=B) (D:=fun _ _ _=>False) (Post:=fun r w'=>r=v∧Go.RowKit.Below w00.heap.size w00 w') (n:=0) (fun _ _ _ h=>h.elim) hg L Pp ?_
  intro w1 hw1
  obtain⟨dd,rfl⟩:=hw1
  refine⟨rfl,v,#[],stepG_ends (hl _ ⟨fun _ _=>rfl,rfl,rfl⟩) (by rw [hfn];exact hf) hr (by rw [hfn];exact hi),fun e he=>by simp at he,rfl,?_⟩
  have hb:=H.base
  rw [hn00,hw00] at hb
  exact⟨hso.os,hso.tape,hso.output,hb.size,fun x hx=>(hb.low x hx).2.2.2⟩
theorem law_starts {Fin:Unit→Machine→Trace→Prop} {F:Emb} {f:FuncId} {fg:Func} {cd:Code} {args:Array Value} {hs:AHeap} {w00:World} {γ:Γ} (hf:Try.prog.funcs[f]?=some fg) (hbd:fg.body=some cd) (hH:Holds F hs w00) (hl:hs.Low) (hV:hs.next≤VB) (hro:∀ n r,hs.get n=some r→r.ro=true)
    (hst:∀ u∈args,Stab (Kn hs.next 0) F u) (hc:∀ n r,hs.get n=some r→∀ v∈r.cells,Stab (Kn hs.next 0) F v) {F0:Emb} (hF0:Same (Kn 0 0) F0 F) (h:Safe hok (ClM w00.heap.size w00) (SuM hok Pr) Fin (baseF f) [] F0 0 0 (.run (enterL fg cd args).1 (enterL fg cd args).2 hs []) (γ,[])) :
    Reach Try.prog (solo (Go.Conc.G (Frame.enter Try.prog f (args.map (ren F)) .normal) []) w00) #[] (Fin ()):=by
  rw [enter_actF hf hbd,solo_eq_crowd]
  let p:Par:=⟨0,none,fun _=>False,fun _=>False,fun _ _=>True,none,fun _=>False,w00,F,0,0,w00.heap.size,w00⟩
  have hp:p.mn=true:=rfl
  have R0:RingO Try.prog (fun _=>False) (fun _=>False) 0 (fun _ _=>True) (fun g=>g=0) (fun _=>none) 0 #[] #[Go.Conc.G ((baseF f).at (actF F (enterL fg cd args).2) (enterL fg cd args).1) []] w00 (fun _=>0):=ringO_begin (leavers_one _ _) past_nil _ (fun _ _ _ _ _=>trivial) (Nat.zero_le _)
  have hV':hs.next≤VB:=hV
  have hI:RInv (p.X hok) F (.run (enterL fg cd args).1 (enterL fg cd args).2 hs []) w00:=by
    refine⟨⟨hH,⟨fun k ob hk _=>(nil_at hk).elim,fun k ob hk=>(nil_at hk).elim,fun k k' ob ob' _ hk=>(nil_at hk).elim,fun k ob hk=>(nil_at hk).elim,fun b hb=>hb.elim⟩,fun u hu=>?_,hc,fun n r hr=>⟨.inl (hl n r hr),by have:=hl n r hr;omega⟩,fun n h1 h2=>?_,fun n hn=>?_,Kept.refl _ _,fun _ _ _ _ _=>trivial,fun _ _ _=>trivial,fun n r hr hf=>?_⟩,hV⟩
    · have hu:u∈(enterL fg cd args).2:=hu
      simp only [enterL,List.mem_append] at hu
      rcases hu with hu|hu
      · exact hst u (by simpa using hu)
      · rw [List.eq_of_mem_replicate hu];exact Stab.undef
    · have h2:n<VB+0:=h2
      omega
    · rcases hn with hn|⟨h1,hn⟩
      · have hn:n<hs.next:=hn
        show n<VB+0
        omega
      · have hn:n<VB+0:=hn
        omega
    · obtain⟨k,ob,hk,_⟩:=hf
      exact nil_at hk
  have hno:∀ {k s c},¬ ChS ([]:St) k s c:=fun {k s c} h=>by
    cases h with
    | quit h=>exact nil_at h
    | done h=>exact nil_at h
    | ask h=>exact nil_at h
    | grant h=>exact nil_at h
  have H:Standing p hok (SuM hok Pr () γ) [] F (.run (enterL fg cd args).1 (enterL fg cd args).2 hs []) (fun _=>none) #[Go.Conc.G ((baseF f).at (actF F (enterL fg cd args).2) (enterL fg cd args).1) []] w00 #[]:=by
    refine⟨⟨⟨0,(fun g=>g=0),(fun _=>0),R0,rfl,rfl⟩,⟨fun b=>⟨fun z=>z.elim,fun⟨k,_,_,_,_,_,_,hk,_⟩=>(nil_at hk).elim⟩,fun b=>⟨fun z=>z.elim,fun⟨k,_,_,_,_,_,hk,_⟩=>(nil_at hk).elim⟩,fun _ _ _ _ _ h=>absurd h hno,fun _ _ _ h=>absurd h hno,fun _ z=>z.elim,fun _ _ _ _ _ _ h=>(nil_at h).elim,fun _ _ _ _ _ _ h=>(nil_at h).elim⟩,rfl,fun _ _ h=>(by cases h),fun _ _ _ _ _ _ _ _ h=>(nil_at h).elim,hV,Nat.le_refl _⟩,hI,fun z=>absurd rfl z,fun _ z=>z.elim,fun _ z=>z.elim,fun _ _ _ z=>z.elim,⟨fun x hx=>⟨hx,fun hT=>?_,fun z=>z,rfl⟩,fun _ _ _ h=>absurd h hno⟩,Same.refl _ _,Nat.zero_le _,Nat.zero_le _⟩
    rcases hT with ⟨n,r,h1,h2,_⟩|⟨k,ob,hk,_⟩
    · have:=hro n r h1
      rw [h2] at this;cases this
    · exact nil_at hk
  exact h () p _ F _ w00 none #[] _ ⟨rfl,rfl,rfl,fun _ z=>z,rfl,rfl⟩ H rfl rfl hF0 (Nat.zero_le _) (Nat.zero_le _)
end
end Go.Proofs.Ytkjnamhgemidkaa
namespace Go.Proofs.Ytkjnamhgemidkaa
open Go Go.RowKit
set_option linter.unusedSimpArgs false
set_option linter.unusedVariables false
abbrev geo0 (N T:Nat):Array Value:=#[.int .i64 N,.int .i64 T,.int .i64 0,.int .i64 0,.int .i64 0,.int .i64 0,.int .i64 0,.int .i64 0,.int .i64 0,.int .i64 0,.int .i64 0,.int .i64 0,.int .i64 0,.int .i64 0,.int .i64 0,.int .i64 0,.int .i64 0,.int .i64 0,.int .i64 0,.int .i64 0,.int .i64 0,.int .i64 0]
theorem room0_pure (N T:Nat) (w:World) (hT:T≤64):PureD 101 #[.agg (geo0 N T)] (.int .i64 (2 * (T:Int)+2)):=by
  unfold PureD
  refine Does.mk Try.func101 rfl rfl ?clo ?hand ?_
  case clo=>exact clo1 (Clo.plain (by simp [plainB]))
  case hand=>exact Hand.plain rfl
  rw [Try.ntmps101];simp only [List.size_toArray,List.length_cons,List.length_nil,List.replicate,List.cons_append,List.nil_append]
  have w4:IntKind.i64.wrap (2 * (T:Int))=2 * (T:Int):=wrap_i64 (by omega) (by omega)
  have w5:IntKind.i64.wrap (2 * (T:Int)+2)=2 * (T:Int)+2:=wrap_i64 (by omega) (by omega)
  refine viaF (And.intro w4 w5) ?_
  exact Goes.fin rfl rfl rfl
theorem nodes0_pure (N T:Nat) (w:World) (h:1≤N) (hN:N≤256) (hT:T≤64):PureD 102 #[.agg (geo0 N T)] (.int .i64 (gM N T:Int)):=by
  unfold PureD
  refine Does.mk Try.func102 rfl rfl ?clo ?hand ?_
  case clo=>exact clo1 (Clo.plain (by simp [plainB]))
  case hand=>exact Hand.plain rfl
  rw [Try.ntmps102];simp only [List.size_toArray,List.length_cons,List.length_nil,List.replicate,List.cons_append,List.nil_append]
  have h0:((N:Int)==0)=false:=by simp;omega
  have e1:(T:Int) * 4≤256:=by omega
  have e2:(T:Int) * 4 * (N+1)≤256 * 257:=Int.mul_le_mul e1 (by omega) (by omega) (by omega)
  have e3:(T:Int) * (2 * T+3)≤64 * 131:=Int.mul_le_mul (by omega) (by omega) (by omega) (by omega)
  have e4:(0:Int)≤(T:Int) * 4 * (N+1):=Int.mul_nonneg (by omega) (by omega)
  have e5:(0:Int)≤(T:Int) * (2 * T+3):=Int.mul_nonneg (by omega) (by omega)
  have w1:IntKind.i64.wrap ((T:Int) * 4)=(T:Int) * 4:=wrap_i64 (by omega) (by omega)
  have w2:IntKind.i64.wrap ((N:Int)+1)=(N:Int)+1:=wrap_i64 (by omega) (by omega)
  have w3:IntKind.i64.wrap ((T:Int) * 4 * (N+1))=(T:Int) * 4 * (N+1):=wrap_i64 (by omega) (by omega)
  have w4:IntKind.i64.wrap (2 * (T:Int))=2 * (T:Int):=wrap_i64 (by omega) (by omega)
  have w5:IntKind.i64.wrap (2 * (T:Int)+3)=2 * (T:Int)+3:=wrap_i64 (by omega) (by omega)
  have w6:IntKind.i64.wrap ((T:Int) * (2 * T+3))=(T:Int) * (2 * T+3):=wrap_i64 (by omega) (by omega)
  have w7:IntKind.i64.wrap ((T:Int) * 4 * (N+1)+(T:Int) * (2 * T+3))=(T:Int) * 4 * (N+1)+(T:Int) * (2 * T+3):=wrap_i64 (by omega) (by omega)
  rw [gM_cast]
  refine viaF (And.intro h0 (And.intro w1 (And.intro w2 (And.intro w3 (And.intro w4 (And.intro w5 (And.intro w6 w7))))))) ?_
  exact Goes.fin rfl rfl rfl
set_option maxHeartbeats 16000000 in
theorem gNew_pure (N T:Nat) (w:World) (hN1:1≤N) (hN:N≤256) (hT1:1≤T) (hT:T≤64):PureD 87 #[.int .i64 N,.int .i64 T] (.tuple #[.agg (geoC N T),.bool true]):=by
  unfold PureD
  refine Does.mk Try.func87 rfl rfl ?clo ?hand ?_
  case clo=>exact clo2 iclo iclo
  case hand=>exact Hand.plain (by simp [plainB,geoC])
  rw [Try.ntmps87];simp only [List.size_toArray,List.length_cons,List.length_nil,List.replicate,List.cons_append,List.nil_append]
  have m3:(T:Int) * (2 * T+2)≤64 * 130:=Int.mul_le_mul (by omega) (by omega) (by omega) (by omega)
  have m4:(0:Int)≤(T:Int) * (2 * T+2):=Int.mul_nonneg (by omega) (by omega)
  have m5:(gM N T:Int)≤74176:=by
    have h1:T * 4 * (N+1)≤64 * 4 * 257:=Nat.mul_le_mul (by omega) (by omega)
    have h2:T * (2 * T+3)≤64 * 131:=Nat.mul_le_mul hT (by omega)
    unfold gM;omega
  have w1:IntKind.i64.wrap ((N:Int) * 8)=(N:Int) * 8:=wrap_i64 (by omega) (by omega)
  have w2:IntKind.i64.wrap ((T:Int) * 4)=(T:Int) * 4:=wrap_i64 (by omega) (by omega)
  have w3:IntKind.i64.wrap ((T:Int) * 4 * 2)=(T:Int) * 4 * 2:=wrap_i64 (by omega) (by omega)
  have w4:IntKind.i64.wrap ((T:Int) * 2)=(T:Int) * 2:=wrap_i64 (by omega) (by omega)
  have w5:IntKind.i64.wrap ((T:Int) * (2 * T+2))=(T:Int) * (2 * T+2):=wrap_i64 (by omega) (by omega)
  have w6:IntKind.i64.wrap ((gM N T:Int) * 8)=(gM N T:Int) * 8:=wrap_i64 (by omega) (by omega)
  have gl:∀ i,i≤19→(gsum N T i:Int)≤11400000:=fun i hi=>by have:=gsum_le N T hN hT i;omega
  have g0:∀ {i:Nat} {x:Int},i<19→x=(gsz N T i:Int)→IntKind.i64.wrap ((gsum N T i:Int)+x)=(gsum N T (i+1):Int):=fun {i x} hi hx=>by
    have h1:=gl (i+1) (by omega)
    rw [hx,show ((gsum N T i:Int)+(gsz N T i:Int))=((gsum N T (i+1):Nat):Int) from by rw [gsum];push_cast;rfl]
    exact wrap_i64 (by omega) (by omega)
  have s6:IntKind.i64.wrap ((gsum N T 6:Int)+(T:Int))=(gsum N T 7:Int):=g0 (by omega) (by simp [gsz])
  have s7:IntKind.i64.wrap ((gsum N T 7:Int)+(N:Int))=(gsum N T 8:Int):=g0 (by omega) (by simp [gsz])
  have s8:IntKind.i64.wrap ((gsum N T 8:Int)+(N:Int))=(gsum N T 9:Int):=g0 (by omega) (by simp [gsz])
  have s9:IntKind.i64.wrap ((gsum N T 9:Int)+(N:Int))=(gsum N T 10:Int):=g0 (by omega) (by simp [gsz])
  have s10:IntKind.i64.wrap ((gsum N T 10:Int)+(N:Int) * 8)=(gsum N T 11:Int):=g0 (by omega) (by simp [gsz])
  have s11:IntKind.i64.wrap ((gsum N T 11:Int)+(N:Int) * 8)=(gsum N T 12:Int):=g0 (by omega) (by simp [gsz])
  have s12:IntKind.i64.wrap ((gsum N T 12:Int)+(T:Int) * 4 * 2)=(gsum N T 13:Int):=g0 (by omega) (by simp [gsz])
  have s13:IntKind.i64.wrap ((gsum N T 13:Int)+(T:Int) * 4)=(gsum N T 14:Int):=g0 (by omega) (by simp [gsz])
  have s14:IntKind.i64.wrap ((gsum N T 14:Int)+(T:Int) * 2)=(gsum N T 15:Int):=g0 (by omega) (by simp [gsz])
  have s15:IntKind.i64.wrap ((gsum N T 15:Int)+(T:Int))=(gsum N T 16:Int):=g0 (by omega) (by simp [gsz])
  have s16:IntKind.i64.wrap ((gsum N T 16:Int)+(T:Int) * (2 * T+2))=(gsum N T 17:Int):=g0 (by omega) (by simp [gsz])
  have s17:IntKind.i64.wrap ((gsum N T 17:Int)+(gM N T:Int))=(gsum N T 18:Int):=g0 (by omega) (by simp [gsz])
  have s18:IntKind.i64.wrap ((gsum N T 18:Int)+(gM N T:Int) * 8)=(gsum N T 19:Int):=g0 (by omega) (by simp [gsz])
  have e6:(21:Int)=(gsum N T 6:Int):=by simp [gsum,gsz]
  rw [←e6] at s6
  refine viaF (And.intro w1 (And.intro w2 (And.intro w3 (And.intro w4 (And.intro w5 w6))))) ?_
  ((first|refine qc1 rfl rfl fun K hK=>?_|refine qc3 rfl rfl fun K hK=>?_);simp (disch:=(first|omega|(simp only [sz]<;>omega)|fail)) only [go_sem];(first|refine⟨_,_,room0_pure N T w hT,?_⟩|refine⟨_,_,Does.com (room0_pure N T w hT),?_⟩);(try simp only [go_sem]);with_reducible refine hK _ _ ?_;clear hK K)
  refine viaF (And.intro w1 (And.intro w2 (And.intro w3 (And.intro w4 (And.intro w5 w6))))) ?_
  ((first|refine qc1 rfl rfl fun K hK=>?_|refine qc3 rfl rfl fun K hK=>?_);simp (disch:=(first|omega|(simp only [sz]<;>omega)|fail)) only [go_sem];(first|refine⟨_,_,nodes0_pure N T w hN1 hN hT,?_⟩|refine⟨_,_,Does.com (nodes0_pure N T w hN1 hN hT),?_⟩);(try simp only [go_sem]);with_reducible refine hK _ _ ?_;clear hK K)
  refine viaF (And.intro w1 (And.intro w2 (And.intro w3 (And.intro w4 (And.intro w5 w6))))) ?_
  ((first|refine qc1 rfl rfl fun K hK=>?_|refine qc3 rfl rfl fun K hK=>?_);simp (disch:=(first|omega|(simp only [sz]<;>omega)|fail)) only [go_sem];(first|refine⟨_,_,nodes0_pure N T w hN1 hN hT,?_⟩|refine⟨_,_,Does.com (nodes0_pure N T w hN1 hN hT),?_⟩);(try simp only [go_sem]);with_reducible refine hK _ _ ?_;clear hK K)
  refine viaLF (And.intro w1 (And.intro w2 (And.intro w3 (And.intro w4 (And.intro w5 (And.intro w6 (And.intro s6 (And.intro s7 (And.intro s8 (And.intro s9 (And.intro s10 (And.intro s11 (And.intro s12 (And.intro s13 (And.intro s14 (And.intro s15 (And.intro s16 (And.intro s17 s18)))))))))))))))))) ?_
  have hb:∀ i,gb N T i=gsum N T i:=fun i=>if_neg (by omega)
  have b0:(gb N T 0:Int)=0:=by rw [hb];simp [gsum]
  have b1:(gb N T 1:Int)=1:=by rw [hb];simp [gsum,gsz]
  have b2:(gb N T 2:Int)=2:=by rw [hb];simp [gsum,gsz]
  have b3:(gb N T 3:Int)=7:=by rw [hb];simp [gsum,gsz]
  have b4:(gb N T 4:Int)=16:=by rw [hb];simp [gsum,gsz]
  have b5:(gb N T 5:Int)=17:=by rw [hb];simp [gsum,gsz]
  have b6:(gb N T 6:Int)=21:=by rw [hb];simp [gsum,gsz]
  rw [geo_lit,b0,b1,b2,b3,b4,b5,b6,hb 7,hb 8,hb 9,hb 10,hb 11,hb 12,hb 13,hb 14,hb 15,hb 16,hb 17,hb 18,hb 19]
  refine Goes.fin rfl (by simp (disch:=(first|omega|(simp only [heapL_next,List.length_cons,List.length_nil,List.size_toArray,geo_len]<;>omega)|fail)) only [go_sem,resA,res1A,Try.results87]<;>rfl) ?_
  rfl
end Go.Proofs.Ytkjnamhgemidkaa
