/-
  From what has come back to goroutine 0, to the return of goes.
  Condition: each call that is known does what is said of it (PrimOK).
-/
import Derived.Test.YtkjnamhgemidkaaUThr20
import Derived.Conc.SmallLaws
namespace Go.Proofs.Ytkjnamhgemidkaa
open Go Go.Conc
set_option linter.unusedSimpArgs false
set_option linter.unusedVariables false
open Go.ConcN (sumTo upd sumTo_upd upd_ne upd_same)
section
variable {F F':Emb} {S:St} {x:Nat}
theorem fps_set {k:Nat} {a b c d e f a' b' c' d' e' f'} (hk:S[k]?=some (Ob.thr a b c d e f)) (h:fpS true F (S.set k (.thr a' b' c' d' e' f')) x):fpS true F S x:=by
  obtain⟨i,ob,hi,hx⟩:=h
  by_cases z:i=k
  · subst z
    rw [List.getElem?_set_self (ob_lt hk)] at hi
    cases hi
    exact⟨i,_,hk,hx⟩
  · rw [List.getElem?_set_ne (Ne.symm z)] at hi;exact⟨i,ob,hi,hx⟩
theorem fps_push {o:Ob} (ho:soloB o=true) (hF:Same (fun n=>VB≤n∧n<VB+S.length) F F') (h:fpS true F' (S++[o]) x):fpS true F S x∨x=F'.blk (VB+S.length):=by
  obtain⟨i,ob,hi,hx⟩:=h
  by_cases z:i<S.length
  · rw [List.getElem?_append_left z] at hi
    rw [obBlk_same hF z] at hx
    exact .inl ⟨i,ob,hi,hx⟩
  · have:=ob_lt hi
    have z:i=S.length:=by simp at this;omega
    subst z
    rw [List.getElem?_append_right (Nat.le_refl _),Nat.sub_self] at hi
    cases hi
    rw [solo_blk ho] at hx
    exact .inr (by simpa using hx)
theorem fps_false (h:fpS true F S x):(∃ k a b c d e f,S[k]?=some (Ob.thr a b c d e f)∧x=F.blk (VB+k))∨fpS false F S x:=by
  obtain⟨i,ob,hi,hx⟩:=h
  cases ob with
  | thr a b c d e f=>exact .inl ⟨i,_,_,_,_,_,_,hi,by simpa [obBlk] using hx⟩
  | _=>exact .inr ⟨i,_,hi,hx⟩
end
section
variable (hok:∀ mn OB WB,PrimOK mn OB WB)
variable {Γ:Type} (Pr:Proto Γ)
def BackM (n00:Nat) (w00:World) (d:BD Γ) (hs hs':AHeap) (n0 c0:Nat) (fr:Frame) (cs:List Frame) (m:Machine) (T:Trace):Prop :=
  ∃ (gs:Array Goroutine) (w:World) (sl:Option (Nat × Nat)) (F:Emb) (hs2:AHeap) (γ2:Γ) (Inb:Nat→Option Seat) (p:Par) (S3:St),m=crowd gs w sl∧gs[0]?=some (Go.Conc.G (fr.finish (.tuple #[])) cs)∧ClM n00 w00 () (γ2,S3) p∧Standing p hok (SuM hok Pr () γ2) S3 F (.run [] [] (uniH hs hs' hs2) S3) Inb gs w T ∧
    Same (Kn n0 c0) d.p.FR F∧n0≤hs2.next∧Pr.Inv γ2 hs2 d.S∧Pr.fuel γ2=Pr.fuel d.γ∧(∀ i,i≠d.k→Pr.ph γ2 i=Pr.ph d.γ i) ∧
    ((∃ q,Pr.ph γ2 d.k=some q∧S3=d.S.set d.k (.thr d.self d.quit false true (some (d.hp,d.p.h,d.dn)) (some d.S.length))++[.acc (Pr.acc q).1 (Pr.acc q).2.1 (Pr.acc q).2.2.1 (Pr.acc q).2.2.2]) ∨
      (Pr.ph γ2 d.k=none∧S3=d.S.set d.k (.thr d.self d.quit false false (some (d.hp,d.p.h,d.dn)) none)))
variable {Pr}
theorem seats_tb {p:Par} {Su:SuT} {S:St} {F:Emb} {N C:Nat} {Inb:Nat→Option Seat} {gs:Array Goroutine} {w:World} {T:Trace} (H:Com p Su S F N C Inb gs w T) {x:Nat} (hx:p.OB x):(∀ i s,Inb i=some s→¬ s.has x)∧¬ p.WB x:=by
  obtain⟨B,Mem,q,R,_⟩:=H.ring
  exact⟨fun i s hi hs=>R.far i s x hi hs hx,R.apart x hx⟩
theorem com_low {p:Par} {Su:SuT} {S:St} {F:Emb} {N C:Nat} {Inb:Nat→Option Seat} {gs:Array Goroutine} {w:World} {T:Trace} (H:Com p Su S F N C Inb gs w T) (hW:∀ x,p.WB x→∃ cc el,w.heap[x]?=some (.cells cc el (0,0))∧cc.size≠0):∀ b,Leant p.OB p.WB Inb b→b<w.heap.size:=fun b hb=>by
  obtain⟨B,Mem,q,R,_⟩:=H.ring
  rcases hb with hb|hb|⟨i,s,hi,hs⟩
  · exact H.tab.olow b hb
  · obtain⟨_,_,h1,_⟩:=hW b hb;exact block_low h1
  · obtain⟨cap,k,hx⟩:=R.chans i s b (fun z=>z) hi hs
    exact block_low hx
theorem came_back {n00:Nat} {w00:World} {d:BD Γ} {γ:Γ} {hs hs':AHeap} {S0:St} (L:LentM hok Pr d γ hs hs' S0) {fr:Frame} {cs:List Frame} (hcs:d.cs0=fr::cs) {m:Machine} {T:Trace} (hn00:d.p.n0=n00) (hw00:d.p.w0=w00) (H:Came hok Pr (BSusp hok Pr) d m T):Reach Try.prog m T (BackM hok Pr n00 w00 d hs hs' hs.next S0.length fr cs):=by
  obtain⟨gs,w,sl,F,hs2,γ2,kk,val,Inb,S',Su',Iv',rfl,hg,hph,hfu,hInv,hF,hnx,hown,hB,hov,hpx,hwr,hro,hbase,hCom,hcase⟩:=H
  rw [L.nr,L.cr] at hF
  rw [L.nr] at hnx
  have hthr:=L.ok.thr
  have hkl:=ob_lt hthr
  have hlenS:=L.len
  -- the state with nothing pending
  let S1:St:=d.S.set d.k (.thr d.self d.quit false true (some (d.hp,d.p.h,d.dn)) none)
  have hS1:S1[d.k]?=some (.thr d.self d.quit false true (some (d.hp,d.p.h,d.dn)) none):=List.getElem?_set_self hkl
  have hl1:S1.length=d.S.length:=by simp [S1]
  have hkc:KeepC d.S S1:=KeepC.pend hthr none
  have hbl:∀ i,i<d.S.length→F.blk (VB+i)=d.p.FR.blk (VB+i):=fun i hi=>((hF (VB+i) (.inr ⟨by omega,by omega⟩)).1).symm
  have htb:d.tb=F.blk (VB+d.k):=by rw [L.tb,hbl _ hkl]
  have t:=hCom.tab
  have hthr':∃ a b c x e f,S'[d.k]?=some (Ob.thr a b c x e f):=by
    rcases hcase with ⟨_,q,_,_,rfl,_⟩|⟨_,_,_,rfl,_⟩
    · exact⟨_,_,_,_,_,_,hthr⟩
    · exact⟨_,_,_,_,_,_,end_at hthr⟩
  have hOBk:∀ (i:Nat) a b c x e f,S1[i]?=some (Ob.thr a b c x e f)→d.p.OB (F.blk (VB+i)):=fun i a b c x e f hi=>by
    refine (t.obs _).2 ?_
    by_cases z:i=d.k
    · obtain⟨a1,a2,a3,a4,a5,a6,h⟩:=hthr'
      exact⟨d.k,a1,a2,a3,a4,a5,a6,h,by rw [z]⟩
    · have h0:d.S[i]?=some (Ob.thr a b c x e f):=by
        have:S1[i]?=d.S[i]?:=List.getElem?_set_ne (Ne.symm z)
        rw [←this];exact hi
      refine⟨i,a,b,c,x,e,f,?_,rfl⟩
      rcases hcase with ⟨_,q,_,_,rfl,_⟩|⟨_,_,_,rfl,_⟩
      · exact h0
      · rw [end_ne z];exact h0
  have hOtb:d.p.OB d.tb:=by rw [htb];exact hOBk _ _ _ _ _ _ _ hS1
  have hB1:RInv (XB hok d.p.OB d.p.WB) F (.run [] [] hs2 S1) w:=rinvB_thr hok hthr hB
  have hov1:∀ x,d.p.OB x→¬ Vis (XB hok d.p.OB d.p.WB) F (.run [] [] hs2 S1) x:=fun x hx hv=>hov x hx (hv.imp id fun h=>(repB_thr hthr hB.1.rep).2 x h)
  have hrow:∀ (i:Nat) a b c x e f,S1[i]?=some (Ob.thr a b c x e f)→obAt true d.p.OB d.p.WB F S1 w i (.thr a b c x e f):=fun i a b c x e f hi=>by
    have hil:i<d.S.length:=by rw [←hl1];exact ob_lt hi
    obtain⟨h1,h2,h3⟩:=L.rows i a b c x e f hi
    intro _
    refine⟨hOBk _ _ _ _ _ _ _ hi,fun c hc=>by rw [hl1];exact h1 c hc,fun c hc=>by rw [hl1];exact h2 c hc,?_⟩
    rw [hown _ (hOBk _ _ _ _ _ _ _ hi),hbl i hil,h3]
    rw [thrRow_same (F:=d.p.FR) (F':=F) (S:=S0) (hF.mono fun n hn=>.inr hn) (fun c hc=>by rw [hlenS];exact h1 c hc) (fun c hc=>by rw [hlenS];exact h2 c hc)]
  have hap:∀ x,d.p.OB x→¬ d.p.WB x:=by obtain⟨_,_,_,R,_⟩:=hCom.ring;exact R.apart
  have hinv:=L.inv
  have hdist:∀ (k k':Nat) a b c x e f a' b' c' x' e' f',k≠k'→S1[k]?=some (Ob.thr a b c x e f)→S1[k']?=some (Ob.thr a' b' c' x' e' f')→F.blk (VB+k)≠F.blk (VB+k'):=fun k k' a b c x e f a' b' c' x' e' f' hne h1 h2=>by
    have R0:Rep true d.p.OB d.p.WB d.p.FR S0 d.p.wR:=hinv.1.rep
    rw [hbl k (by rw [←hl1];exact ob_lt h1),hbl k' (by rw [←hl1];exact ob_lt h2)]
    exact L.dist k k' hne ⟨_,_,_,_,_,_,h1⟩ ⟨_,_,_,_,_,_,h2⟩
  have hRep:Rep true d.p.OB d.p.WB F S1 w:=rep_back hB1.1.rep hOBk hrow (fun x hx hv=>hov1 x hx (.inr hv)) hdist hap
  have hM:RInv (XM hok d.p.OB d.p.WB) F (.run [] [] (uniH hs hs' hs2) S1) w:=rinv_back hok hinv (by rw [hl1];exact hlenS) hF hnx hRep hB1 hov1 (fun x hx=>by
    obtain⟨h1,h2,h3,h4⟩:=hpx x (L.px x hx)
    exact⟨h1,fun hv=>h2 (hv.imp id fun h=>(repB_thr hthr hB.1.rep).2 x h),h3,h4⟩) hOBk
  have hwro:∀ n r,(uniH hs hs' hs2).get n=some r→d.p.WB (F.blk n)→r.ro=true:=fun n r hr hW=>by
    rcases uni_get hr with h|⟨_,_,h⟩
    · exact hro n r h hW
    · refine L.wro n r h ?_
      have:=(hinv.1.hk n r h).1
      rw [(hF n this).1];exact hW
  have hrtb:w.heap[d.tb]?=some (.cells (thrRow F d.self d.quit false true (some (d.hp,d.p.h,d.dn)) none) 103 (0,0)):=by
    rw [htb];exact (hrow _ _ _ _ _ _ _ hS1 rfl).2.2.2
  obtain⟨B,Mem,q0,R,hM0,_⟩:=hCom.ring
  have hst:=seats_tb hCom (x:=d.tb) hOtb
  have hlow:=com_low hCom hwr
  have hK:KA d.p.OB d.p.WB Inb w.heap.size w w:=⟨rfl,hlow,Nat.le_refl _⟩
  have hhpl:d.hp<d.S.length:=ob_lt L.ok.wp
  have hV:hs2.next≤VB:=hM.2
  have hfγ:Pr.fuel γ2≤Pr.fuel γ:=by rw [hfu];exact L.fuel
  have hphγ:∀ i,i≠d.k→Pr.ph γ2 i=Pr.ph γ i:=fun i hi=>(hph i hi).trans (L.ph i hi)
  have hComS:Com ⟨0,none,d.p.OB,d.p.WB,Iv',none,fun _=>False,w,F,0,0,d.p.n0,d.p.w0⟩ (SuM hok Pr () γ2) S' F hs2.next d.S.length Inb gs w T:=by
    refine hCom.su fun i self quit closed hp gid dn pend ob g hi _ hsu=>?_
    rcases hcase with ⟨_,q,hq,_,rfl,hQ⟩|⟨_,_,_,rfl,rfl⟩
    · have:=hQ _ _ _ _ _ _ _ hsu
      by_cases z:i=d.k
      · subst z
        rw [if_pos rfl] at this
        obtain⟨F0,n0,c0,z1,z2,z3,z4⟩:=this
        exact⟨q,F0,n0,c0,_,hq,z1,z2,z3,Nat.le_refl _,z4⟩
      · rw [if_neg z,L.su] at this
        exact SuM.step hok hphγ hfγ z this
    · by_cases z:i=d.k
      · subst z
        rw [end_at hthr] at hi
        cases hi
      · rw [L.su] at hsu
        exact SuM.step hok hphγ hfγ z hsu
  have hfpM:∀ x,fpS true F S1 x→d.p.OB x∨fpS false F d.S x:=fun x hx=>by
    rcases fps_false hx with ⟨i,a,b,c,x',e,f,hi,rfl⟩|h
    · exact .inl (hOBk _ _ _ _ _ _ _ hi)
    · exact .inr ((repB_thr hthr hB.1.rep).2 x h)
  have hchS:∀ k s c,ChS S' k s c→ChS d.S k s c:=fun k s c h=>by
    rcases hcase with ⟨_,q,_,_,rfl,_⟩|⟨_,_,_,rfl,_⟩
    · exact h
    · exact end_ch hthr h
  have fin:∀ (S3:St) (F3:Emb) (gs2:Array Goroutine) (w2:World) (T2:Trace) (sl2:Option (Nat × Nat)),KeepC S' S3→RInv (XM hok d.p.OB d.p.WB) F3 (.run [] [] (uniH hs hs' hs2) S3) w2→Same (Kn hs2.next d.S.length) F F3→d.S.length≤S3.length→w.heap.size≤w2.heap.size→(∀ x,¬ d.p.OB x→x<w.heap.size→w2.heap[x]?=w.heap[x]?)→gs2.size=gs.size→(∀ x,fpS true F3 S3 x→d.p.OB x∨fpS false F d.S x∨w.heap.size≤x) →
      (∃ B Mem q,RingO Try.prog d.p.OB d.p.WB B Iv' Mem Inb 0 T2 gs2 w2 q∧Mem 0∧Mem 0)→gs2[0]?=some (Go.Conc.G (fr.finish (.tuple #[])) cs)→((∃ q,Pr.ph γ2 d.k=some q∧S3=d.S.set d.k (.thr d.self d.quit false true (some (d.hp,d.p.h,d.dn)) (some d.S.length))++[.acc (Pr.acc q).1 (Pr.acc q).2.1 (Pr.acc q).2.2.1 (Pr.acc q).2.2.2]) ∨
      (Pr.ph γ2 d.k=none∧S3=d.S.set d.k (.thr d.self d.quit false false (some (d.hp,d.p.h,d.dn)) none)))→BackM hok Pr n00 w00 d hs hs' hs.next S0.length fr cs (crowd gs2 w2 sl2) T2:=by
    intro S3 F3 gs2 w2 T2 sl2 hk hI hFF hlen hws hkp hgz hfp3 hring hg2 hfin
    let p':Par:=⟨0,none,d.p.OB,d.p.WB,Iv',none,fun _=>False,w2,F3,0,0,d.p.n0,d.p.w0⟩
    have hC2:Com p' (SuM hok Pr () γ2) S' F hs2.next d.S.length Inb gs w T:=⟨hComS.ring,hComS.tab,hComS.main,hComS.seats,hComS.waits,hComS.n0,hComS.c0⟩
    have hC3:Com p' (SuM hok Pr () γ2) S3 F3 hs2.next S3.length Inb gs2 w2 T2:=Com.keep hk (Nat.le_refl _) (hC2.turn (SuM.mono hok Pr () γ2) hFF (Nat.le_refl _) hlen hV hws (chan_keep fun c hc hO=>hkp c hO (by obtain⟨_,_,_,_,_,_,h1⟩:=hc;exact block_low h1)) hgz hring)
    have hwro3:∀ n r,(uniH hs hs' hs2).get n=some r→d.p.WB (F3.blk n)→r.ro=true:=fun n r hr hW=>hwro n r hr (by
      rw [(hFF n ((hM.1.hk n r hr).1.mono (Nat.le_refl _) (by show S1.length≤_;omega))).1];exact hW)
    refine⟨gs2,w2,sl2,F3,hs2,γ2,Inb,p',S3,rfl,hg2,⟨rfl,rfl,rfl,fun _ z=>z,hn00,hw00⟩,⟨hC3,(X_main hok (p:=p') rfl) ▸ hI,fun z=>absurd rfl z,fun x hx=>hx.elim,fun x hx=>?_,hwro3,?_,Same.refl _ _,Nat.zero_le _,Nat.zero_le _⟩,?_,hnx,hInv,hfu,hph,hfin⟩
    · obtain⟨cc,el,h1,h2⟩:=hwr x hx
      exact⟨cc,el,(hkp x (fun z=>hap x z hx) (block_low h1)).trans h1,h2⟩
    · refine⟨fun x hx=>?_,fun k s c h=>hbase.ch k s c (hchS k s c (hk.ch h))⟩
      obtain⟨h1,h2,h3,h4⟩:=hbase.low x hx
      refine⟨Nat.lt_of_lt_of_le h1 hws,fun hT=>?_,h3,(hkp x h3 h1).trans h4⟩
      rw [X_main hok (p:=p') rfl] at hT
      rcases hT with ⟨n,r,hr,hro',rfl⟩|hf
      · have hr:(uniH hs hs' hs2).get n=some r:=hr
        have e:F3.blk n=F.blk n:=((hFF n ((hM.1.hk n r hr).1.mono (Nat.le_refl _) (by show S1.length≤_;omega))).1).symm
        rcases uni_get hr with h|⟨_,_,h⟩
        · exact h2 (.inl ⟨n,r,h,hro',e.symm⟩)
        · have:=L.base0 n r h hro'
          have e2:F.blk n=d.p.FR.blk n:=(hF n (hinv.1.hk n r h).1).1.symm
          have hx:F3.blk n<d.p.n0:=hx
          omega
      · rcases hfp3 x hf with z|z|z
        · exact h3 z
        · exact h2 (.inr z)
        · omega
    · exact hF.trans (hFF.mono fun n hn=>hn.mono hnx (Nat.le_of_eq hlenS))
  have hk3:w.cell? ⟨d.tb,3,none⟩=some (.pointer none):=by simp [World.cell?,hrtb,thrRow,ptrO]
  have hk4:w.cell? ⟨d.tb,4,none⟩=some (.bool true):=by simp [World.cell?,hrtb,thrRow]
  have hfz:∀ o,w.frozen? ⟨d.tb,o,none⟩=false:=fun o=>by simp [World.frozen?,hrtb]
  have hvk:∀ x,Vis (XM hok d.p.OB d.p.WB) F (.run [] [] (uniH hs hs' hs2) S1) x→x<w.heap.size:=fun x hx=>by
    obtain⟨_,_,_,h1⟩:=vis_row (XF.soft (hok _ _ _)) hM hx
    exact block_low h1
  rw [hcs] at hg
  rcases hcase with ⟨rfl,q,hq,rfl,rfl,hQ⟩|⟨rfl,hnone,rfl,rfl,rfl⟩
  · rcases hacc:Pr.acc q with ⟨c,n,A,B'⟩
    rw [show accQ (Pr.acc q)=accV c n A B' by rw [hacc];rfl,goes_asked] at hg
    refine (hold_goes (sl:=sl) (h:=0) 60 hg (goes_ask hK hst hk3 (hfz 3) fr cs) R).bind fun m2 T2=>?_
    rintro ⟨gs2,g2,w2,sl2,q2,B2,rfl,j1,j2,⟨rfl,hK2⟩,R2⟩
    let F3:Emb:=⟨fun n=>if n=VB+d.S.length then w.heap.size else F.blk n,fun n=>if n=VB+d.S.length then 0 else F.base n,F.slack⟩
    have hFF:Same (Kn hs2.next d.S.length) F F3:=fun n hn=>by
      have:n≠VB+d.S.length:=by
        rcases hn with hn|⟨_,hn⟩
        · omega
        · omega
      simp [F3,this]
    have hb3:F3.blk (VB+d.S.length)=w.heap.size:=if_pos rfl
    have htl:d.tb<w.heap.size:=block_low hrtb
    -- the access comes
    let w3:World:=w.alloc (.cells (accRow c n A B') 36)
    have hA:RInv (XM hok d.p.OB d.p.WB) F3 (.run [] [] (uniH hs hs' hs2) (S1++[.acc c n A B'])) w3:=by
      refine rinv_add hok (OB:=d.p.OB) (WB:=d.p.WB) rfl (fun _ h=>h) (fun _ h=>h) (by rw [hl1];exact hFF) (by rw [hl1];exact if_pos rfl) hM (fun hv=>?_) (fun b hb=>.inl hb) (fun x hx=>alloc_at _ _ _ (hvk x hx)) ?_ (fun z=>?_) (by rw [alloc_size];omega)
      · have:=hvk _ hv
        rw [hl1,hb3] at this
        omega
      · show w3.heap[F3.blk (VB+S1.length)]?=_
        rw [hl1,hb3];exact alloc_new _ _
      · rw [hl1,hb3] at z
        obtain⟨_,_,h1,_⟩:=hwr _ z
        have:=block_low h1
        omega
    have hlA:(S1++[Ob.acc c n A B']).length=d.S.length+1:=by simp [S1]
    have hSA:(S1++[Ob.acc c n A B'])[d.k]?=some (.thr d.self d.quit false true (some (d.hp,d.p.h,d.dn)) none):=by
      rw [List.getElem?_append_left (by rw [hl1];exact hkl)];exact hS1
    have hbk3:F3.blk (VB+d.k)=d.tb:=by
      rw [htb];exact ((hFF (VB+d.k) (.inr ⟨by omega,by omega⟩)).1).symm
    have hbp3:F3.blk (VB+d.hp)=F.blk (VB+d.hp):=((hFF (VB+d.hp) (.inr ⟨by omega,by omega⟩)).1).symm
    have hS3:(S1++[Ob.acc c n A B']).set d.k (.thr d.self d.quit false true (some (d.hp,d.p.h,d.dn)) (some d.S.length))=d.S.set d.k (.thr d.self d.quit false true (some (d.hp,d.p.h,d.dn)) (some d.S.length))++[.acc c n A B']:=by
      rw [List.set_append_left _ _ (by rw [hl1];exact hkl)]
      simp [S1]
    have hI3:=rinv_thr hok (w':=w2) (a':=d.self) (b':=d.quit) (c':=false) (d':=true) (e':=some (d.hp,d.p.h,d.dn)) (f':=some d.S.length) hSA (fun c hc=>by cases hc;rw [hlA];show d.hp<_;omega) (fun p hp=>by cases hp;rw [hlA];omega) hA (fun x hx hne=>?_) ?_ (by rw [hK2.heap,setCell_size];exact Nat.le_refl _)
    · rw [hS3] at hI3
      refine .here (fin _ F3 gs2 w2 T2 sl2 ?_ hI3 hFF (by simp) ?_ (fun x hx hlt=>?_) j1 (fun x hx=>?_) ⟨B2,Mem,q2,R2,hM0,hM0⟩ j2 (.inl ⟨q,hq,by rw [hacc]⟩))
      · exact (KeepC.pend hthr _).trans (KeepC.push rfl)
      · rw [hK2.heap,setCell_size,alloc_size];omega
      · rw [hK2.heap,heap_setCell,if_neg (fun (e:d.tb=x)=>hx (e ▸ hOtb)),alloc_at _ _ _ hlt]
      · rw [←hS3] at hx
        rcases fps_push (S:=S1) rfl (by rw [hl1];exact hFF.mono fun n hn=>.inr hn) (fps_set hSA hx) with h|h
        · exact (hfpM x h).imp id .inl
        · rw [hl1,hb3] at h;exact .inr (.inr (Nat.le_of_eq h.symm))
    · rw [hbk3] at hne
      rw [hK2.heap,heap_setCell,if_neg (fun (e:d.tb=x)=>hne e.symm)]
    · rw [hbk3,hK2.heap,heap_setCell,if_pos rfl,alloc_at _ _ _ htl,hrtb]
      simp [thrRow,ptrO,hb3,hbp3]
  · rw [goes_done] at hg
    refine (hold_goes (sl:=sl) (h:=0) 60 hg (goes_fin hK hst hk4 (hfz 4) fr cs) R).bind fun m2 T2=>?_
    rintro ⟨gs2,g2,w2,sl2,q2,B2,rfl,j1,j2,⟨rfl,hK2⟩,R2⟩
    have hS3:S1.set d.k (.thr d.self d.quit false false (some (d.hp,d.p.h,d.dn)) none)=d.S.set d.k (.thr d.self d.quit false false (some (d.hp,d.p.h,d.dn)) none):=by simp [S1]
    have hI3:=rinv_thr hok (w':=w2) (a':=d.self) (b':=d.quit) (c':=false) (d':=false) (e':=some (d.hp,d.p.h,d.dn)) (f':=none) hS1 (fun c hc=>by cases hc;rw [hl1];exact hhpl) (fun p hp=>by cases hp) hM (fun x hx hne=>?_) ?_ (by rw [hK2.heap,setCell_size];exact Nat.le_refl _)
    · rw [hS3] at hI3
      refine .here (fin _ F gs2 w2 T2 sl2 (KeepC.refl _) hI3 (Same.refl _ _) (by simp) ?_ (fun x hx hlt=>?_) j1 (fun x hx=>?_) ⟨B2,Mem,q2,R2,hM0,hM0⟩ j2 (.inr ⟨hnone,rfl⟩))
      · rw [hK2.heap,setCell_size];omega
      · rw [hK2.heap,heap_setCell,if_neg (fun (e:d.tb=x)=>hx (e ▸ hOtb))]
      · rw [←hS3] at hx
        exact (hfpM x (fps_set hS1 hx)).imp id .inl
    · rw [←htb] at hne
      rw [hK2.heap,heap_setCell,if_neg (fun (e:d.tb=x)=>hne e.symm)]
    · rw [←htb,hK2.heap,heap_setCell,if_pos rfl,hrtb]
      simp [thrRow]
end
section
variable {p:Par} {Su:SuT} {S S0:St} {F:Emb} {N C:Nat} {Inb:Nat→Option Seat} {gs gs':Array Goroutine} {w w':World} {T T':Trace}
theorem Com.apartG (H:Com p Su S F N C Inb gs w T) (hr:p.run=none) {k hp gid dn:Nat} {self wself:Int} {quit steps ask grant:Nat} {closed bz:Bool} {pend:Option Nat} (hthr:S[k]?=some (.thr self quit closed bz (some (hp,gid,dn)) pend)) (hwp:S[hp]?=some (.wp wself steps ask grant quit)) :
    ∀ i s' c,i≠0→Inb i=some s'→s'.has c→c≠ask∧c≠dn:=by
  intro i s' c h0 hi hc
  have t:=H.tab
  obtain⟨_,_,h3⟩:=H.seats i s' hi
  obtain⟨k2,a1,a2,a3,hp2,dn2,pe2,b1,b2⟩:=h3 h0
  obtain⟨_,h4⟩:=H.waits k2 _ _ _ _ _ _ _ b2
  obtain⟨ws2,st2,ak2,gr2,ab2,x2,y2,cs2,c1,c2,_⟩:=h4 b1
  rw [c2] at hi
  cases hi
  rcases seatD_has hc with rfl|rfl
  · exact⟨fun e=>absurd (t.dist' (.grant c1) (.ask hwp) e).2 (by decide),fun e=>absurd (t.dist' (.grant c1) (.done hthr) e).2 (by decide)⟩
  · exact⟨fun e=>absurd (t.dist' (.quit b2) (.ask hwp) e).2 (by decide),fun e=>absurd (t.dist' (.quit b2) (.done hthr) e).2 (by decide)⟩
theorem seatD_quit {wb wb':Nat} {ab ab':Nat × Nat} {ak qt gr ak' qt' gr':Nat} {x y x' y':Value} {cs cs':List Frame} (h:seatD wb ab ak qt gr x y cs=seatD wb' ab' ak' qt' gr' x' y' cs'):qt=qt':=by
  have h1:=congrArg Seat.cases h
  simp only [seatD] at h1
  have h2:=congrArg (fun a:Array CommCase=>(a[1]?).map (·.chan)) h1
  simpa [rcase] using h2
theorem Com.lend (H:Com p Su S F N C Inb gs w T) (hr:p.run=none) (hSu:SuMono Su) {k hp gid dn:Nat} {self:Int} {quit:Nat} {closed:Bool} {pend:Option Nat} (hthr:S[k]?=some (.thr self quit closed true (some (hp,gid,dn)) pend)) {sG:Seat} {Iv:Nat→World→Prop} {PX:Nat→Prop} {wR:World} {FR:Emb} {NR CR n0':Nat} {w0':World}
    (hs:w.heap.size≤w'.heap.size) (hk:∀ c,¬ p.OB c→(IsChan w c→IsChan w' c)∧∀ cap,ChanO w c cap→ChanO w' c cap) (hsz:gs'.size=gs.size)
    (hring:∃ B Mem q,RingO Try.prog p.OB p.WB B Iv Mem (fun i=>if i=gid then none else if i=0 then some sG else Inb i) gid T' gs' w' q∧Mem 0∧Mem gid):Com ⟨gid,some k,p.OB,p.WB,Iv,some sG,PX,wR,FR,NR,CR,n0',w0'⟩ Su S F N C (fun i=>if i=gid then none else if i=0 then some sG else Inb i) gs' w' T':=by
  have t:=H.tab
  obtain⟨_,hp',gid',dn',ws',st',ak',gr',e1,e2,_,_,_,hgid,hgsz,_⟩:=t.busy _ _ _ _ _ _ hthr
  cases e1
  have huniq:∀ (k':Nat) a b c hp' dn' f,S[k']?=some (Ob.thr a b c true (some (hp',gid,dn')) f)→k'=k:=fun k' a b c hp' dn' f hk'=>by
    obtain⟨ws1,st1,ak1,gr1,ab1,x1,y1,cs1,c1,c2,_⟩:=(H.waits k _ _ _ _ _ _ _ hthr).2 (by rw [hr];simp)
    obtain⟨ws2,st2,ak2,gr2,ab2,x2,y2,cs2,d1,d2,_⟩:=(H.waits k' _ _ _ _ _ _ _ hk').2 (by rw [hr];simp)
    have:=seatD_quit (Option.some.inj (d2.symm.trans c2))
    subst this
    exact (t.dist _ _ _ _ _ (.quit hk') (.quit hthr)).1
  refine⟨hring,by rw [hsz];exact t.turn (p:=p) H.c0 (Same.refl (Kn N C) F) hs hk,?_,fun i s hi=>?_,fun k' a b c hp' gid' dn' f hk'=>?_,H.n0,H.c0⟩
  · show (if 0=gid then none else if 0=0 then some sG else Inb 0)=some sG
    rw [if_neg (by omega),if_pos rfl]
  · show i≠gid∧i<gs'.size∧_
    by_cases z:i=gid
    · simp [z] at hi
    rw [if_neg z] at hi
    by_cases z0:i=0
    · refine⟨z,by omega,fun h=>absurd z0 h⟩
    rw [if_neg z0] at hi
    obtain⟨_,h2,h3⟩:=H.seats i s hi
    refine⟨z,by omega,fun _=>?_⟩
    obtain⟨k',a1,a2,a3,a4,a5,a6,a7,a8⟩:=h3 z0
    refine⟨k',a1,a2,a3,a4,a5,a6,fun e=>?_,a8⟩
    have e:some k=some k':=e
    cases e
    rw [hthr] at a8
    cases a8
    exact z rfl
  · refine⟨fun e=>?_,fun hne=>?_⟩
    · have e:some k=some k':=e
      cases e
      rw [hthr] at hk'
      cases hk'
      rfl
    · obtain⟨ws2,st2,ak2,gr2,ab2,x2,y2,cs2,d1,d2,d3⟩:=(H.waits k' _ _ _ _ _ _ _ hk').2 (by rw [hr];simp)
      refine⟨ws2,st2,ak2,gr2,ab2,x2,y2,cs2,d1,?_,d3⟩
      have z:gid'≠gid:=fun e=>by
        subst e
        exact hne (by rw [huniq _ _ _ _ _ _ _ hk'])
      obtain⟨_,_,_,_,_,_,_,_,z1,_,_,_,_,z2,_⟩:=t.busy _ _ _ _ _ _ hk'
      cases z1
      show (if gid'=gid then none else if gid'=0 then some sG else Inb gid')=_
      rw [if_neg z,if_neg (by omega)]
      exact d2
end
theorem seatG_wf (tb wb dn ak:Nat) (cs:List Frame) (h:ak≠dn):(seatG tb wb dn ak cs).Wf:=by
  refine⟨fun cc h=>?_,fun k m c z z' h1 h2=>?_⟩
  · simp only [seatG,List.mem_toArray,List.mem_cons,List.not_mem_nil,or_false] at h
    rcases h with rfl|rfl
    · exact⟨_,_,rfl⟩
    · exact⟨_,_,rfl⟩
  · rcases k with _|_|k<;>rcases m with _|_|m<;>simp [seatG,rcase] at h1 h2<;>omega
section
variable (hok:∀ mn OB WB,PrimOK mn OB WB)
variable {Γ:Type} {Pr:Proto Γ}
variable {n00:Nat} {w00:World}
variable {p:Par} {S:St} {F:Emb} {Inb:Nat→Option Seat} {gs:Array Goroutine} {w:World} {T:Trace} {sl:Option (Nat × Nat)}
theorem grant_lent {γ γ1:Γ} {hs hs':AHeap} {k hp gid dn pd s ask grant quit:Nat} {self wself:Int} {q:Pr.Ph} {v:UInt64} {fr:Frame} {cs:List Frame} (hC:ClM n00 w00 () (γ,S) p) (hthr:S[k]?=some (.thr self quit false true (some (hp,gid,dn)) (some pd))) (hwp:S[hp]?=some (.wp wself s ask grant quit))
    (hph:Pr.ph γ k=some q) (hl:LendH hs hs') (hRun:Pr.Run k q v γ1 hs' (cntS S hp wself (s+1) ask grant quit)) (hfu:Pr.fuel γ1<Pr.fuel γ) (hph1:∀ i,i≠k→Pr.ph γ1 i=Pr.ph γ i) (H:Standing p hok (SuM hok Pr () γ) S F (.run [] [] hs S) Inb gs w T)
    (hg:gs[0]?=some (Go.Conc.G ((base 18).at ⟨#[pt (F.blk (VB+k)),.int .u64 (v.toNat:Int),undef,undef,undef,undef,undef,undef,undef,undef,undef,undef,undef,undef,undef,undef,undef,undef,undef,undef,undef,undef,undef,undef],[]⟩ [.code grantC]) (fr::cs))) :
    Reach Try.prog (crowd gs w sl) T fun m T'=>∃ d:BD Γ,d.p.FR=F∧d.k=k∧d.hp=hp∧d.self=self∧d.quit=quit∧d.p.h=gid∧d.dn=dn∧d.S=cntS S hp wself (s+1) ask grant quit∧d.γ=γ1∧BackM hok Pr n00 w00 d hs hs' hs.next S.length (grantFr4 (F.blk (VB+k)) (F.blk (VB+hp)) grant ⟨F.blk (VB+pd),0,none⟩ (.int .u64 (v.toNat:Int)) [1]) (fr::cs) m T':=by
  obtain⟨h0,hrun,hseat,hPX,hn00,hw00⟩:=hC
  have hX:=X_main hok h0
  have Rp:Rep true p.OB p.WB F S w:=by
    have:=H.inv.1.rep
    rw [hX] at this;exact this
  obtain⟨hOtb,_,_,hrtb⟩:=Rp.at' _ _ hthr rfl
  obtain⟨hWwb,told,hrwb⟩:=H.wp hok hwp
  generalize htbE:F.blk (VB+k)=tb at *
  generalize hwbE:F.blk (VB+hp)=wb at *
  have hG:KGr w tb wb dn ask grant ⟨F.blk (VB+pd),0,none⟩:=⟨by simp [World.cell?,hrtb,thrRow,ptrO,hwbE],by simp [World.cell?,hrtb,thrRow,ptrO],by simp [World.cell?,hrwb,wpRow,chV]⟩
  obtain⟨B0,Mem0,q0,R0,hM0,_⟩:=H.com.ring
  rw [h0] at R0
  refine (hold_goes (sl:=sl) (h:=0) 60 hg (grant_way hG ⟨rfl⟩ (fr::cs)) R0).bind fun m2 T2=>?_
  rintro ⟨gs2,g2,w2,sl2,q2,B2,rfl,j1,j2,⟨rfl,hKM⟩,R2⟩
  have H2:Standing p hok (SuM hok Pr () γ) S F (.run [] [] hs S) Inb gs2 w2 T2:=H.grown hok (SuM.mono hok Pr () γ) (fun x _ _=>by rw [hKM.heap]) (by rw [hKM.heap];exact Nat.le_refl _) j1 ⟨B2,Mem0,q2,h0 ▸ R2,hM0,h0 ▸ hM0⟩
  have hrtb2:w2.heap[tb]?=some (.cells (thrRow F self quit false true (some (hp,gid,dn)) (some pd)) 103 (0,0)):=by rw [hKM.heap];exact hrtb
  have hrwb2:w2.heap[wb]?=some (.cells (wpRow wself s (.pointer told) ask grant quit) 108 (0,0)):=by rw [hKM.heap];exact hrwb
  have hc:=H2.com
  have t:=hc.tab
  obtain⟨_,hp',gid',dn',ws',st',ak',gr',e1,e2,cask,cgr,cdn,hgid,hgsz,hbox⟩:=t.busy _ _ _ _ _ _ hthr
  cases e1
  rw [hwp] at e2
  cases e2
  have cqt:=t.quit _ _ _ _ _ _ hthr
  have fask:=t.far _ _ _ (.ask hwp)
  have fgr:=t.far _ _ _ (.grant hwp)
  have fdn:=t.far _ _ _ (.done hthr)
  have hap:∀ x,p.OB x→¬ p.WB x:=R2.apart
  have hne:ask≠dn:=fun e=>absurd (t.dist' (.ask hwp) (.done hthr) e).2 (by decide)
  have hlow:∀ {x},IsChan w2 x→x<w2.heap.size:=fun {x} hx=>by obtain⟨_,_,_,_,_,_,h1⟩:=hx;exact block_low h1
  have htl:tb<w2.heap.size:=block_low hrtb2
  have hwl:wb<w2.heap.size:=block_low hrwb2
  -- goroutine 0 takes its seat
  let pb:Addr:=⟨F.blk (VB+pd),0,none⟩
  let vv:Value:=.int .u64 (v.toNat:Int)
  let cs0:List Frame:=grantFr4 tb wb grant pb vv [1]::fr::cs
  let sG:Seat:=seatG tb wb dn ask cs0
  let wN:World:=w2.setCell ⟨tb,3,none⟩ (.pointer none)
  let Inb1:Nat→Option Seat:=fun i=>if i=0 then some sG else Inb i
  have R3:RingO Try.prog p.OB p.WB (max B2 w2.heap.size) (IvN p.OB wN) Mem0 Inb 0 T2 gs2 w2 q2:=(CoF.mono (Nat.le_max_left _ _) (Nat.max_le.2 ⟨R2.lowB,Nat.le_refl _⟩) R2).iv (fun i w w1 hr hi h b hb=>(hr.2 h b hb).trans (hi h b hb)) (fun i s w' hi _ _ h=>absurd h hi)
  have R4:RingO Try.prog p.OB p.WB (max B2 w2.heap.size) (IvN p.OB wN) Mem0 Inb1 0 T2 gs2 w2 q2:=R3.reseat hM0 sG (seatG_wf _ _ _ _ _ hne)
    (fun c hcc=>by rcases seatG_has hcc with rfl|rfl;exact⟨_,cask⟩;exact⟨_,cdn⟩)
    (fun c hcc=>by rcases seatG_has hcc with rfl|rfl;exact fask.2.1;exact fdn.2.1)
    (fun c hcc=>by
      have:c<w2.heap.size:=by rcases seatG_has hcc with rfl|rfl;exact hlow fask.1;exact hlow fdn.1
      omega)
    (fun i s' c hi hs hx hcc=>by
      obtain⟨h1,h2⟩:=hc.apartG hrun hthr hwp i s' c hi hs hx
      rcases seatG_has hcc with z|z
      · exact h1 z
      · exact h2 z)
  obtain⟨wsx,stx,akx,grx,ab,x,y,csb,c1,c2,hSuk⟩:=(hc.waits _ _ _ _ _ _ _ _ hthr).2 (by rw [hrun];simp)
  rw [hwp] at c1
  cases c1
  rw [hwbE] at c2 hSuk
  have hIg:Inb1 gid=some (seatD wb ab ask quit grant x y csb):=by
    show (if gid=0 then _ else _)=_
    rw [if_neg (by omega)];exact c2
  obtain⟨kg,hkg⟩:=cgr
  refine (giveO (P:=Try.prog) (h:=0) (j:=gid) (kk:=0) (kh:=0) (c:=grant) (v:=vv) (z:=.int .u64 0) (z':=.tuple #[]) (cases:=#[scase grant vv (.tuple #[])]) (shape:=.send) (by omega) hIg rfl hM0 rfl fgr.2.2 (fun main w=>grant_send tb wb grant pb vv (fr::cs) main w) rfl (fun m c' hm hc'=>?_) (Inb':=Inb1) (fun _ _=>rfl) (.inl rfl) (nh:=46) w2 (fun T' w1 k1 _ hw1 _=>?_) _ (sl:=sl2) false rfl hgsz (SideD.refl w2) hkg j2 (fun z=>by cases z) R4).bind fun m T3=>?_
  · rcases m with _|m
    · exact absurd rfl hm
    · simp at hc'
  · rw [grant_gave]
    have hh1:w1.heap=w2.heap:=Array.ext_getElem? fun b=>hw1.only b fun z=>z.2 rfl
    have hneg:∀ b,p.OB b∨b=wb→(w1.setChan grant 0 #[] false (k1+1) (k1+1) false).heap[b]?=w2.heap[b]?:=fun b hb=>by
      rw [heap_setChan_ne _ _ _ _ _ _ _ (fun e=>?_),hh1]
      rcases hb with hb|rfl
      · exact fgr.2.1 (e ▸ hb)
      · exact fgr.2.2 (e ▸ hWwb)
    have hKG:KG p.OB p.WB w2 tb wb dn ask (w1.setChan grant 0 #[] false (k1+1) (k1+1) false):=⟨fun b hb=>hneg b (.inl hb),hOtb,hWwb,by simp [World.cell?,hrtb2,thrRow,ptrO,hwbE],by simp [World.cell?,hrtb2,thrRow],⟨_,by simp [World.cell?,hrtb2,thrRow];rfl⟩,by simp [World.frozen?,hrtb2],by rw [cell_at w2 _ _ (hneg _ (.inr rfl))];simp [World.cell?,hrwb2,wpRow,chV]⟩
    refine .inl ⟨45,rfl,?_⟩
    exact goes_post (fun g w h=>⟨h.1,fun _ b hb=>h.2.own b hb⟩) (grant_goes (B:=max B2 w2.heap.size) (pb:=pb) (v:=vv) hKG (fun e=>hap tb hOtb (e ▸ hWwb)) (by omega) (by omega) (fr::cs))
  rintro ⟨gs3,g₂,w1,k1,sl3,q3,rfl,b1,b2,b3,b4,b5,b6,R5⟩
  have b3:g₂=doG wb ab ask quit grant x y csb:=b3
  subst b3
  have hh1:w1.heap=w2.heap:=Array.ext_getElem? fun b=>b4.only b fun z=>z.2 rfl
  have hset:∀ x,x≠grant→(w1.setChan grant 0 #[] false (k1+1) (k1+1) false).heap[x]?=w2.heap[x]?:=fun x hx=>by
    rw [heap_setChan_ne _ _ _ _ _ _ _ (fun e=>hx e.symm),hh1]
  have hgr3:(w1.setChan grant 0 #[] false (k1+1) (k1+1) false).heap[grant]?=some (.chan 0 #[] false (k1+1) (k1+1) false):=heap_setChan_self w1 b6 _ _ _ _ _ _
  have hsz3:(w1.setChan grant 0 #[] false (k1+1) (k1+1) false).heap.size=w2.heap.size:=by rw [←hh1];simp [World.setChan]
  generalize hw3:w1.setChan grant 0 #[] false (k1+1) (k1+1) false=w3 at *
  have hvis:∀ x,Vis (XM hok p.OB p.WB) F (.run [] [] hs S) x→w3.heap[x]?=w2.heap[x]?:=fun x hx=>hset x fun e=>H2.chan_out hok fgr.1 (hX ▸ e ▸ hx)
  have hinv2:RInv (XM hok p.OB p.WB) F (.run [] [] hs S) w2:=hX ▸ H2.inv
  have hinv3:RInv (XM hok p.OB p.WB) F (.run [] [] hs S) w3:=rinv_world (Nat.le_of_eq hsz3.symm) hvis hinv2
  have hch:∀ c,¬ p.OB c→(IsChan w2 c→IsChan w3 c)∧∀ cap,ChanO w2 c cap→ChanO w3 c cap:=fun c hO=>by
    by_cases e:c=grant
    · subst e
      refine⟨fun _=>⟨_,_,_,_,_,_,hgr3⟩,fun cap h=>?_⟩
      obtain⟨m,hm⟩:=h
      rw [hkg] at hm
      cases hm
      exact⟨_,hgr3⟩
    · refine⟨fun h=>?_,fun cap h=>?_⟩
      · obtain⟨a1,a2,a3,a4,a5,a6,a7⟩:=h;exact⟨a1,a2,a3,a4,a5,a6,by rw [hset c e];exact a7⟩
      · obtain⟨m,hm⟩:=h;exact⟨m,by rw [hset c e];exact hm⟩
  -- the body goes on
  obtain⟨q',F0,n0,c0,n,z1,z2,z3,z4,z5,z6⟩:=hSuk
  rw [hph] at z1
  cases z1
  let d:BD Γ:=⟨⟨gid,some k,p.OB,p.WB,IvN p.OB wN,some sG,Kept0 F hs hs',w3,F,hs.next,S.length,p.n0,p.w0⟩,SuM hok Pr () γ,k,hp,self,quit,dn,some pd,wself,s+1,ask,grant,γ1,cntS S hp wself (s+1) ask grant quit,wN,tb,cs0⟩
  have hcom3:Com d.p (SuM hok Pr () γ) S F hs.next S.length (fun i=>if i=gid then none else if i=0 then some sG else Inb i) gs3 w3 T3:=hc.lend hrun (SuM.mono hok Pr () γ) hthr (Nat.le_of_eq hsz3.symm) hch b1 ⟨_,_,_,R5.unseat,⟨hM0,.inl (by show (if 0=0 then some sG else _)≠none;simp)⟩,⟨(R4.mem gid _ hIg).1,.inr rfl⟩⟩
  have t3:=hcom3.tab
  have hXb:=X_body hok (p:=d.p) (by show gid≠0;omega)
  have hdok:d.Ok:=by
    refine⟨SuM.mono hok Pr () γ,rfl,by show gid≠0;omega,rfl,?_,(cnt_thr hwp).2 hthr,cnt_at hwp,cnt_len.symm,fun x hx=>(lend_prot hok hinv3 hl t3 hx).2.2.2⟩
    show some sG=some (seatG tb (F.blk (VB+hp)) dn ask cs0)
    rw [hwbE]
  have hstand:Standing d.p hok d.Su S F (.run [] [] hs' S) (fun i=>if i=gid then none else if i=0 then some sG else Inb i) gs3 w3 T3:=by
    refine⟨?_,hXb ▸ rinv_lend hok hinv3 hl,fun _ x hx=>hXb ▸ lend_ov hok hinv3 hl t3 hx,fun x hx=>?_,fun x hx=>?_,fun n r hr hW=>H2.wro n r (hl.sub n r hr) hW,H2.base.move (Nat.le_of_eq hsz3.symm) (fun x _ hx=>?_) (fun _ _ h=>h) (fun x _ _ _ h4=>hset x (h4 _ _ _ (.grant hwp))) (fun _ _ _ h=>.inl h),Same.refl _ _,Nat.le_of_eq hl.next.symm,Nat.le_refl _⟩
    · show Com d.p (SuM hok Pr () γ) S F hs'.next S.length _ gs3 w3 T3
      rw [hl.next];exact hcom3
    · obtain⟨y1,y2,y3,_⟩:=lend_prot hok hinv3 hl t3 hx
      exact⟨y1,hXb ▸ y2,y3,rfl⟩
    · obtain⟨cc,el,y1,y2⟩:=H2.wrow x hx
      exact⟨cc,el,(hset x fun e=>by rw [e,hkg] at y1;cases y1).trans y1,y2⟩
    · rw [hXb] at hx
      rw [hX]
      rcases hx with ⟨n,r,h1,h2,h3⟩|⟨i,ob,h1,h2⟩
      · exact .inl ⟨n,r,hl.sub n r h1,h2,h3⟩
      · exact .inr ⟨i,ob,h1,obBlk_false h2⟩
  refine ((BSusp.unfold hok z6).1 d s S F hs' _ gs3 w3 sl3 T3 v hdok rfl rfl rfl rfl hwp rfl hstand ?_ z2 (by rw [hl.next];exact z3) z4 hRun (by show Pr.fuel γ1<n;omega)).bind fun m4 T4 hCame=>?_
  · exact b2
  have L:LentM hok Pr d γ hs hs' S:=by
    refine⟨hdok,hl,hinv3,cnt_len.symm,rfl,rfl,fun x hx=>hx,htbE.symm,H2.wro,fun i a b c e f g hi=>?_,fun i i' hne hi hi'=>?_,rfl,hph1,Nat.le_of_lt hfu,fun n r hr hro=>Nat.le_of_not_lt fun hlt=>(H2.base.low _ hlt).2.1 (by rw [hX];exact .inl ⟨n,r,hr,hro,rfl⟩)⟩
    · have hi:((cntS S hp wself (s+1) ask grant quit).set k (.thr self quit false true (some (hp,gid,dn)) none))[i]?=some (Ob.thr a b c e f g):=hi
      have hlc:(cntS S hp wself (s+1) ask grant quit).length=S.length:=cnt_len
      have Rp2:Rep true p.OB p.WB F S w2:=hinv2.1.rep
      show _∧_∧(w2.setCell ⟨tb,3,none⟩ (.pointer none)).heap[F.blk (VB+i)]?=some (.cells (thrRow F a b c e f g) 103 (0,0))
      by_cases zi:i=k
      · subst zi
        rw [List.getElem?_set_self (by rw [hlc];exact ob_lt hthr)] at hi
        cases hi
        refine⟨fun c hc=>(by cases hc;rw [hlc];exact ob_lt hwp),fun p hp=>(by cases hp),?_⟩
        rw [htbE,heap_setCell,if_pos rfl,hrtb2]
        simp [thrRow,ptrO,hwbE]
      · rw [List.getElem?_set_ne (Ne.symm zi)] at hi
        have hi':=(cnt_thr hwp).1 hi
        obtain⟨y1,y2,y3,y4⟩:=Rp2.at' _ _ hi' rfl
        refine⟨fun c hc=>by rw [hlc];exact y2 c hc,fun c hc=>by rw [hlc];exact y3 c hc,?_⟩
        rw [heap_setCell,if_neg]
        · exact y4
        intro e
        have e:tb=F.blk (VB+i):=e
        exact Rp2.apart i k _ _ zi hi' hthr (F.blk (VB+i)) (by simp [obBlk]) (by rw [←e,←htbE];simp [obBlk])
    · have Rp2:Rep true p.OB p.WB F S w2:=hinv2.1.rep
      have key:∀ j:Nat,(∃ a b c x e f,((cntS S hp wself (s+1) ask grant quit).set k (.thr self quit false true (some (hp,gid,dn)) none))[j]?=some (Ob.thr a b c x e f))→∃ a b c x e f,S[j]?=some (Ob.thr a b c x e f):=by
        rintro j ⟨a,b,c,x,e,f,hj⟩
        by_cases zj:j=k
        · subst zj;exact⟨_,_,_,_,_,_,hthr⟩
        · rw [List.getElem?_set_ne (Ne.symm zj)] at hj
          exact⟨_,_,_,_,_,_,(cnt_thr hwp).1 hj⟩
      obtain⟨_,_,_,_,_,_,y1⟩:=key i hi
      obtain⟨_,_,_,_,_,_,y2⟩:=key i' hi'
      exact fun e=>Rp2.apart i i' _ _ hne y1 y2 (F.blk (VB+i)) (by simp [obBlk]) (by simp only [obBlk,if_true,List.mem_cons,List.not_mem_nil,or_false];exact e)
  exact (came_back hok L rfl hn00 hw00 hCame).mono fun m5 T5 hB=>⟨d,rfl,rfl,rfl,rfl,rfl,rfl,rfl,rfl,rfl,hB⟩
end
section
variable (hok:∀ mn OB WB,PrimOK mn OB WB)
variable {Γ:Type} (Pr:Proto Γ)
def BackQ (Q:Value→AHeap→St→Γ × St→Prop) (r:Value) (hs hs':AHeap) (k:Nat) (self:Int) (quit hp gid dn:Nat) (S:St) (γ1:Γ):Prop :=
  ∀ (γ2:Γ) (hs2:AHeap),Pr.Inv γ2 hs2 S→Pr.fuel γ2=Pr.fuel γ1→(∀ i,i≠k→Pr.ph γ2 i=Pr.ph γ1 i)→hs.next≤hs2.next →
    (∀ q,Pr.ph γ2 k=some q→Q r (uniH hs hs' hs2) (S.set k (.thr self quit false true (some (hp,gid,dn)) (some S.length))++[.acc (Pr.acc q).1 (Pr.acc q).2.1 (Pr.acc q).2.2.1 (Pr.acc q).2.2.2]) (γ2,S.set k (.thr self quit false true (some (hp,gid,dn)) (some S.length))++[.acc (Pr.acc q).1 (Pr.acc q).2.1 (Pr.acc q).2.2.1 (Pr.acc q).2.2.2])) ∧
    (Pr.ph γ2 k=none→Q r (uniH hs hs' hs2) (S.set k (.thr self quit false false (some (hp,gid,dn)) none)) (γ2,S.set k (.thr self quit false false (some (hp,gid,dn)) none)))
def SpGrant:SpT Γ:=fun f args hs S γ Q=>∃ (k hp gid dn pd s ask grant quit:Nat) (self wself:Int) (v:UInt64) (q:Pr.Ph) (hs':AHeap) (γ1:Γ),f=18∧args=#[hndV k,.int .u64 (v.toNat:Int)]∧KeepC γ.2 S∧S[k]?=some (.thr self quit false true (some (hp,gid,dn)) (some pd))∧S[hp]?=some (.wp wself s ask grant quit) ∧
  Pr.ph γ.1 k=some q∧LendH hs hs'∧Pr.Run k q v γ1 hs' (cntS S hp wself (s+1) ask grant quit)∧Pr.fuel γ1<Pr.fuel γ.1∧(∀ i,i≠k→Pr.ph γ1 i=Pr.ph γ.1 i)∧BackQ Pr Q (.bool true) hs hs' k self quit hp gid dn (cntS S hp wself (s+1) ask grant quit) γ1
variable {Pr}
variable {n00:Nat} {w00:World}
variable {p:Par} {Su:SuT} {S S0:St} {F:Emb} {c:Conf St} {Inb:Nat→Option Seat} {gs:Array Goroutine} {w:World} {T:Trace} {sl:Option (Nat × Nat)}
theorem Standing.keep (k:KeepC S0 (st c)) (H:Standing p hok Su S0 F c Inb gs w T):Standing p hok Su (st c) F c Inb gs w T:=⟨H.com.keep k (Nat.le_refl _),H.inv,H.ov,H.prot,H.wrow,H.wro,⟨H.base.low,fun a b c h=>H.base.ch a b c (k.ch h)⟩,H.same⟩
theorem grant_body:Try.f18.body=some grantC:=rfl
set_option maxRecDepth 100000 in
theorem grant_begin {k:Nat} {v:Int} (hb:F.base (VB+k)=0):actF F (enterL Try.f18 grantC #[hndV k,.int .u64 v]).2=⟨#[pt (F.blk (VB+k)),.int .u64 v,undef,undef,undef,undef,undef,undef,undef,undef,undef,undef,undef,undef,undef,undef,undef,undef,undef,undef,undef,undef,undef,undef],[]⟩:=by
  simp only [enterL,Try.ntmps18]
  simp [actF,adr,hndV,ren_undef,hb,List.replicate]
theorem back_on {Fin:Unit→Machine→Trace→Prop} {hs:AHeap} {d:BD Γ} {hs':AHeap} {fr:Frame} {r:Value} {Q:Value→AHeap→St→Γ × St→Prop} {k hp gid dn quit:Nat} {self:Int} {S1:St} {γ1:Γ} (hbk:BackQ Pr Q r hs hs' k self quit hp gid dn S1 γ1)
    (hd:d.p.FR=F∧d.k=k∧d.hp=hp∧d.self=self∧d.quit=quit∧d.p.h=gid∧d.dn=dn∧d.S=S1∧d.γ=γ1) {b:Frame} {cs:List Frame} {F0:Emb} {N0 C0 n0 c0:Nat} {ops:Array Oper} {i:Nat} {rest:List Nat} {kk:List Item} {tmps:List Value} {o:Oper} (ho:ops[i]?=some o) (hN:hs.next=n0) (hst:∀ u∈tmps,Stab (Kn n0 c0) F u) (hr:plainB r=true) (hc0:c0≤S1.length)
    (hret:∀ {OB WB:Nat→Prop} {Inb:Nat→Option Seat} {n0:Nat} {w0 w:World} (c0:Frame) (cs:List Frame),KA OB WB Inb n0 w0 w→Conc.Goes Try.prog true (Ro OB 0) (DO OB WB Inb 0) (fun g w'=>g=Go.Conc.G (c0.finish r) cs∧KA OB WB Inb n0 w0 w') 20 (Go.Conc.G (fr.finish (.tuple #[])) (c0::cs)) w)
    (hF:Same (Kn N0 C0) F0 F) (hN0:N0≤n0) (hC0:C0≤c0) (K:∀ v h1 S1 γ',Q v h1 S1 γ'→Safe hok (ClM n00 w00) (SuM hok Pr) Fin b cs F0 N0 C0 (.run (.inRegion ops rest::kk) (putL o.dst v tmps) h1 S1) γ') {m:Machine}
    (hB:BackM hok Pr n00 w00 d hs hs' n0 c0 fr (b.at (actF F tmps) (.inRegion ops (i::rest)::kk)::cs) m T):Reach Try.prog m T (Fin ()):=by
  obtain⟨rfl,rfl,rfl,rfl,rfl,rfl,rfl,rfl,rfl⟩:=hd
  obtain⟨gs,w,sl,F2,hs2,γ2,Inb,p,S3,rfl,hg,hC,H,hsame,hn,hInv,hfu,hph,hS3⟩:=hB
  obtain⟨h0,hrun,hseat,hPX,hn00,hw00⟩:=id hC
  obtain⟨B,Mem,q0,R,hM0,_⟩:=H.com.ring
  rw [h0] at R
  have hlow:=com_low H.com H.wrow
  refine (hold_goes (sl:=sl) (h:=0) 20 hg (hret _ cs ⟨rfl,hlow,Nat.le_refl _⟩) R).bind fun m2 T2=>?_
  rintro ⟨gs2,g2,w2,sl2,q2,B2,rfl,j1,j2,⟨rfl,hK⟩,R2⟩
  have H2:=H.grown hok (SuM.mono hok Pr () γ2) (w':=w2) (gs':=gs2) (T':=T2) (fun x _ _=>by rw [hK.heap]) (by rw [hK.heap];exact Nat.le_refl _) j1 ⟨B2,Mem,q2,h0 ▸ R2,hM0,h0 ▸ hM0⟩
  obtain⟨hq1,hq2⟩:=hbk γ2 hs2 hInv hfu hph (by rw [hN];exact hn)
  have hlen:d.S.length≤S3.length:=by
    rcases hS3 with ⟨q,_,rfl⟩|⟨_,rfl⟩
    · simp
    · simp
  have hQ:Q r (uniH hs hs' hs2) S3 (γ2,S3):=by
    rcases hS3 with ⟨q,hq,rfl⟩|⟨hq,rfl⟩
    · exact hq1 q hq
    · exact hq2 hq
  have hfin:(b.at (actF d.p.FR tmps) (.inRegion ops (i::rest)::kk)).finish r=b.at (actF F2 (putL o.dst r tmps)) (.inRegion ops rest::kk):=by
    rw [Frame.finish_at,ho]
    show b.at ((actF d.p.FR tmps).put o.dst r) (.inRegion ops rest::kk)=_
    rw [←actF_congr hst hsame,←actF_put,ren_plain F2 hr]
  rw [hfin] at j2
  have hKK:∀ x,Kn n0 c0 x→Kn hs2.next S3.length x:=fun x hx=>hx.mono hn (by omega)
  exact K r _ S3 (γ2,S3) hQ () p Inb F2 gs2 w2 sl2 T2 _ hC (Standing.conf hok H2 rfl rfl (putL_stab (fun u hu=>(hst u hu).move hsame hKK) (Stab.plain hr) o.dst)) (h0 ▸ j2) rfl (hF.trans (hsame.mono fun x hx=>hx.mono hN0 hC0)) (Nat.le_trans hN0 hn) (by show C0≤S3.length;omega)
theorem grant_ok {Fin:Unit→Machine→Trace→Prop} {Stk:List Frame→Prop}:SpOK hok (ClM n00 w00) (SuM hok Pr) Fin Stk (SpGrant Pr):=by
  intro f args hs S γ Q hsp b cs F0 N0 C0 fn ops i rest kk tmps o hfn hkd hsk ho hw hb' hca K d p Inb F gs w sl T g hC H hg hgS hF hN hC0
  obtain⟨k,hp,gid,dn,pd,s,ask,grant,quit,self,wself,v,q,hs',γ1,rfl,rfl,hkeep,hthr,hwp,hph,hl,hRun,hfu,hph1,hbk⟩:=hsp
  obtain⟨h0,hrun,hseat,hPX,hn00,hw00⟩:=id hC
  have hst:∀ u∈tmps,Stab (Kn hs.next S.length) F u:=fun u hu=>H.inv.1.vst u hu
  refine (stand_enter hok (SuM.mono hok Pr d γ.1) ho hw hb' hca Try.func18 rfl grant_body hkd H hg hgS).bind fun m1 T1=>?_
  rintro ⟨gs1,w1,sl1,rfl,k1,H1⟩
  have H1:Standing p hok (SuM hok Pr d γ.1) S F (.run [] [] hs S) Inb gs1 w1 T1:=Standing.keep (c:=.run [] [] hs S) hok hkeep (Standing.conf hok H1 rfl rfl (fun v hv=>by cases hv))
  have Rp:Rep p.mn p.OB p.WB F S w1:=H1.inv.1.rep
  rw [grant_begin (Rp.base _ _ hthr rfl)] at k1
  refine (grant_lent hok (sl:=sl1) ⟨h0,hrun,hseat,hPX,hn00,hw00⟩ hthr hwp hph hl hRun hfu hph1 H1 (h0 ▸ k1)).bind fun m2 T2=>?_
  rintro ⟨d',e1,e2,e3,e4,e5,e6,e7,e8,e9,hB⟩
  exact back_on hok hbk ⟨e1,e2,e3,e4,e5,e6,e7,e8,e9⟩ ho rfl hst rfl (Nat.le_of_eq cnt_len.symm) (fun c0 cs hK=>grant_ret hK c0 cs) hF hN hC0 K hB
end
section
variable {OB WB:Nat→Prop} {Inb:Nat→Option Seat}
theorem DO.alloc0 {w:World} {o:Obj} {es:Array Event} (hW:∀ b,WB b→b<w.heap.size) (hS:∀ i s c,Inb i=some s→s.has c→c<w.heap.size) (hs:∀ e∈es,EvO OB WB 0 (w.alloc o) e):DO OB WB Inb 0 w (w.alloc o) es :=
  ⟨fun i s c hi hc=>alloc_at w o c (hS i s c hi hc),fun a ha _=>cell_at _ _ _ (alloc_at w o _ (hW _ ha)),fun h=>absurd rfl h,by rw [alloc_size];omega,rfl,hs⟩
noncomputable def newC:Code:=(Try.f13.body).getD .skip
noncomputable def newOps1:Array Oper:=cOps (cL (cR newC))
noncomputable def newR:Code:=cR (cR newC)
abbrev thrV (self:Int) (qc:Nat):Value:=.agg #[.int .i64 self,.pointer none,.chan none,.pointer none,.bool false,.bool false,.chan (some qc)]
noncomputable def newFr (self:Int) (qc:Nat) (rest:List Nat):Frame:=(base 13).at ⟨#[.int .i64 self,undef,.pointer none,.int .i64 self,.chan (some qc),thrV self qc,undef],[]⟩ [.inRegion newOps1 rest,.code newR]
theorem mk_run {P:Program} {t:TypeId} {n:Nat} {dir:ChanDir} {e:TypeId} {i:TypeInfo} (ht:P.underlying t=some (.chan dir e)) (hi:P.info? e=some i) (hn:n≤1) (hb:i.bytes≤1000) (w:World):(Instr.makeChan t (.int .i64 (n:Int))).run P w=.ok (.chan (some w.heap.size)) (w.alloc (.chan n #[] false 0 0 false)):=run_makeChan ht hi .i64 n (by omega) (by
  have h1:i.bytes * n≤1000 * 1:=Nat.mul_le_mul hb hn
  have:(i.bytes:Int) * n=((i.bytes * n:Nat):Int):=by push_cast;rfl
  rw [this];omega)
theorem mk_listed {P:Program} {fn:FuncId} {a:Act} {o:Oper} {w:World} {t:TypeId} {n:Nat} {x:Operand} {dir:ChanDir} {e:TypeId} {i:TypeInfo} (ho:o.op=.makeChan t x) (hx:a.eval x=.int .i64 (n:Int)) (ht:P.underlying t=some (.chan dir e)) (hi:P.info? e=some i) (hn:n≤1) (hb:i.bytes≤1000):listed P fn a o w=#[]:=by
  have hev:=events_makeChan (P:=P) (w:=w) ht hi .i64 n (by omega) (by
    have h1:i.bytes * n≤1000 * 1:=Nat.mul_le_mul hb hn
    have:(i.bytes:Int) * n=((i.bytes * n:Nat):Int):=by push_cast;rfl
    rw [this];omega) #[]
  have he:(execOp a.eval o).events P w #[]=#[]:=by
    unfold execOp
    simp only [ho,hx]
    simp [go_sem,hev]
  show seen P fn ((execOp a.eval o).events P w #[])=#[]
  rw [he,seen_none]
theorem KM.alloc {w0 w:World} (K:KM w0 w) {o:Obj}:KM (w0.alloc o) (w.alloc o):=⟨by rw [alloc_heap,alloc_heap,K.heap]⟩
set_option maxRecDepth 100000 in
theorem new_way1 {n0:Nat} {w0 w:World} {self:Int} (hK:KA OB WB Inb n0 w0 w) (cs:List Frame) :
    Conc.Goes Try.prog true (Ro OB 0) (DO OB WB Inb 0) (fun g w'=>g=Go.Conc.G (newFr self w0.heap.size [3,4]) cs∧KA OB WB Inb n0 (w0.alloc (.chan 0 #[] false 0 0 false)) w') 60 (Go.Conc.G ((base 13).at ⟨#[.int .i64 self,undef,undef,undef,undef,undef,undef],[]⟩ [.code newC]) cs) w:=by
  simp only [newC,Try.f13,Option.getD_some]
  (refine Conc.Goes.step rfl (fun w₁ h₁=>?_);replace hK:=hK.rely h₁;clear h₁;rw [stepG_seq];simp only [goes_go];refine⟨DO.none _,?_⟩)
  (refine Conc.Goes.step rfl (fun w₁ h₁=>?_);replace hK:=hK.rely h₁;clear h₁;rw [stepG_region];simp only [goes_go,List.size_toArray,List.length_cons,List.length_nil,Nat.reduceAdd,Nat.zero_add,List.range,List.range.loop];refine⟨DO.none _,?_⟩)
  (refine Conc.Goes.step rfl (fun w₁ h₁=>?_);replace hK:=hK.rely h₁;clear h₁;refine goes_oper_k rfl rfl (by decide) (fun K hK'=>?_);go_simp;refine hK' _ _ ⟨DO.quiet (fun e he=>(by have hm:=mem_listed he;simp [go_sem,Instr.makeInterface,Instr.makeFunc] at hm)),?_⟩;clear hK' K)
  (refine Conc.Goes.step rfl (fun w₁ h₁=>?_);replace hK:=hK.rely h₁;clear h₁;rw [stepG_region_end];simp only [goes_go];refine⟨DO.none _,?_⟩)
  (refine Conc.Goes.step rfl (fun w₁ h₁=>?_);replace hK:=hK.rely h₁;clear h₁;rw [stepG_seq];simp only [goes_go];refine⟨DO.none _,?_⟩)
  (refine Conc.Goes.step rfl (fun w₁ h₁=>?_);replace hK:=hK.rely h₁;clear h₁;rw [stepG_region];simp only [goes_go,List.size_toArray,List.length_cons,List.length_nil,Nat.reduceAdd,Nat.zero_add,List.range,List.range.loop];refine⟨DO.none _,?_⟩)
  (refine Conc.Goes.step rfl (fun w₁ h₁=>?_);replace hK:=hK.rely h₁;clear h₁;refine goes_oper_k rfl rfl (by decide) (fun K hK'=>?_);go_simp;refine hK' _ _ ⟨DO.quiet (fun e he=>(by have hm:=mem_listed he;simp [go_sem,Instr.makeInterface,Instr.makeFunc] at hm)),?_⟩;clear hK' K)
  refine Conc.Goes.step rfl (fun w₁ h₁=>?_)
  replace hK:=hK.rely h₁;clear h₁
  refine goes_oper_k rfl rfl (by decide) (fun K hK'=>?_)
  go_simp
  rw [show (Value.int IntKind.i64 0)=.int .i64 ((0:Nat):Int) from rfl,mk_run rfl rfl (by omega) (by decide)]
  refine hK' _ _ ⟨DO.alloc (fun b hb=>by have:=hK.low b hb;have:=hK.size;rw [hK.heap];omega) (fun e he=>(by rw [mk_listed (n:=0) rfl rfl rfl rfl (by omega) (by decide)] at he;simp at he)),?_⟩
  clear hK' K
  rw [show w₁.heap.size=w0.heap.size by rw [hK.heap]]
  have hn0:=hK.size
  replace hK:=hK.alloc (o:=.chan 0 #[] false 0 0 false)
  refine Conc.Goes.step rfl (fun w₁ h₁=>?_)
  replace hK:=hK.rely h₁;clear h₁
  refine goes_oper_k rfl rfl (by decide) (fun K hK'=>?_)
  go_simp
  refine hK' _ _ ⟨DO.quiet (fun e he=>(by have hm:=mem_listed he;simp [go_sem,Act.put] at hm)),?_⟩
  clear hK' K
  exact Conc.Goes.stop (fun w₁ h₁=>⟨by simp only [newFr,newOps1,newR,newC,cOps,cL,cR,Try.f13,Option.getD_some,thrV],hK.rely h₁⟩)
set_option maxRecDepth 100000 in
theorem new_way2 {w0 w:World} {self:Int} {qc:Nat} (hK:KM w0 w) (hW:∀ b,WB b→b<w0.heap.size) (hS:∀ i s c,Inb i=some s→s.has c→c<w0.heap.size) (c0:Frame) (cs:List Frame) :
    Conc.Goes Try.prog true (Ro OB 0) (DO OB WB Inb 0) (fun g w'=>g=Go.Conc.G (c0.finish (pt w0.heap.size)) cs∧KM (w0.alloc (.cells #[.int .i64 self,.pointer none,.chan none,.pointer none,.bool false,.bool false,.chan (some qc)] 103)) w') 60 (Go.Conc.G (newFr self qc [3,4]) (c0::cs)) w:=by
  simp only [newFr,newOps1,newR,newC,cOps,cL,cR,Try.f13,Option.getD_some,thrV]
  refine Conc.Goes.step rfl (fun w₁ h₁=>?_)
  replace hK:=hK.rely h₁;clear h₁
  refine goes_oper_k rfl rfl (by decide) (fun K hK'=>?_)
  go_simp
  have hsz:w₁.heap.size=w0.heap.size:=by rw [hK.heap]
  refine hK' _ _ ⟨DO.alloc0 (fun b hb=>by rw [hsz];exact hW b hb) (fun i s c hi hc=>by rw [hsz];exact hS i s c hi hc) (fun e he=>(by have hm:=mem_listed he;simp [go_sem] at hm)),?_⟩
  clear hK' K
  rw [hsz]
  replace hK:=hK.alloc (o:=.cells #[.int .i64 self,.pointer none,.chan none,.pointer none,.bool false,.bool false,.chan (some qc)] 103)
  (refine Conc.Goes.step rfl (fun w₁ h₁=>?_);replace hK:=hK.rely h₁;clear h₁;refine goes_oper_k rfl rfl (by decide) (fun K hK'=>?_);go_simp;refine hK' _ _ ⟨DO.quiet (fun e he=>(by have hm:=mem_listed he;simp [go_sem,Instr.makeInterface,Instr.makeFunc] at hm)),?_⟩;clear hK' K)
  (refine Conc.Goes.step rfl (fun w₁ h₁=>?_);replace hK:=hK.rely h₁;clear h₁;rw [stepG_region_end];simp only [goes_go];refine⟨DO.none _,?_⟩)
  (refine Conc.Goes.step rfl (fun w₁ h₁=>?_);replace hK:=hK.rely h₁;clear h₁;rw [stepG_ret'];simp only [goes_go];refine⟨DO.none _,?_⟩)
  refine Conc.Goes.step rfl (fun w₁ h₁=>?_)
  replace hK:=hK.rely h₁;clear h₁
  rw [stepG_leave rfl rfl Try.func13 (results_tmp Try.results13 _ _ _) (events_results_tmp Try.results13 _ _)]
  simp only [goes_go]
  refine⟨DO.none _,?_⟩
  exact Conc.Goes.stop (fun w₁ h₁=>⟨rfl,hK.rely h₁⟩)
end
theorem low_touch {t:Trace} {B i:Nat} {a:Touch} {x:Addr} (hs:∀ op∈t,op.act.low B) (h:touchAt t i=some a) (hl:a.loc=.cell x):x.block<B:=by
  unfold touchAt Trace.act? at h
  cases hop:t[i]? with
  | none=>rw [hop] at h;cases h
  | some op =>
    rw [hop] at h
    have h:op.act.touch?=some a:=h
    have hlow:=hs op (Array.mem_of_getElem? hop)
    cases hact:op.act with
    | access e =>
      rw [hact] at h hlow
      simp only [MemAct.touch?,Option.some.injEq] at h
      subst h
      have hl:e.loc=.cell x:=hl
      simp only [MemAct.low,hl] at hlow
      exact hlow
    | mark m =>
      rw [hact] at h hlow
      cases m<;>simp only [MemAct.touch?,Option.some.injEq] at h<;>try cases h
      all_goals
        simp only [Loc.cell.injEq] at hl
        subst hl
        exact hlow
    | _=>rw [hact] at h;cases h
theorem addThr_ch {S:St} {self:Int} {qc i s c:Nat} (h:ChS (S++[.thr self qc false false none none]) i s c):ChS S i s c∨(i=S.length∧s=0∧c=qc):=by
  have hcase:∀ (i:Nat) ob,(S++[Ob.thr self qc false false none none])[i]?=some ob→S[i]?=some ob∨(i=S.length∧ob=.thr self qc false false none none):=fun i ob hi=>by
    have:=ob_lt hi
    by_cases z:i<S.length
    · rw [List.getElem?_append_left z] at hi;exact .inl hi
    · have z:i=S.length:=by simp at this;omega
      subst z
      rw [List.getElem?_append_right (Nat.le_refl _),Nat.sub_self] at hi
      exact .inr ⟨rfl,(Option.some.inj hi).symm⟩
  cases h with
  | quit h =>
      rcases hcase _ _ h with h|⟨h1,h2⟩
      · exact .inl (.quit h)
      · cases h2;exact .inr ⟨h1,rfl,rfl⟩
  | done h =>
      rcases hcase _ _ h with h|⟨h1,h2⟩
      · exact .inl (.done h)
      · cases h2
  | ask h =>
      rcases hcase _ _ h with h|⟨h1,h2⟩
      · exact .inl (.ask h)
      · cases h2
  | grant h =>
      rcases hcase _ _ h with h|⟨h1,h2⟩
      · exact .inl (.grant h)
      · cases h2
section
variable {p:Par} {Su:SuT} {S:St} {F F':Emb} {N C:Nat} {Inb:Nat→Option Seat} {gs gs':Array Goroutine} {w w':World} {T T':Trace}
theorem Com.addThr (H:Com p Su S F N C Inb gs w T) (hSu:SuMono Su) (hC:S.length=C) {self:Int} {nb qc:Nat} (hF:Same (Kn N C) F F') (hb:F'.blk (VB+S.length)=nb) (hs:w.heap.size≤w'.heap.size) (hsz:gs'.size=gs.size) (hW:∀ b,p.WB b→b<w.heap.size)
    (hk:∀ x,x<w.heap.size→w'.heap[x]?=w.heap[x]?) (hqn:w.heap.size≤qc) (hnn:w.heap.size≤nb) (hnl:nb<w'.heap.size) (hne:qc≠nb) (hq:ChanO w' qc 0)
    (hring:∃ B Mem q,RingO Try.prog (fun b=>p.OB b∨b=nb) p.WB B p.Iv Mem Inb p.h T' gs' w' q∧Mem 0∧Mem p.h) {wR:World} {FR:Emb} {NR CR n0':Nat} {w0':World} :
    Com ⟨p.h,p.run,fun b=>p.OB b∨b=nb,p.WB,p.Iv,p.seat0,p.PX,wR,FR,NR,CR,n0',w0'⟩ Su (S++[.thr self qc false false none none]) F' N (C+1) Inb gs' w' T':=by
  have t:=H.tab
  have hold:∀ i,i<S.length→(S++[Ob.thr self qc false false none none])[i]?=S[i]?:=fun i hi=>List.getElem?_append_left hi
  have hnew:(S++[Ob.thr self qc false false none none])[S.length]?=some (.thr self qc false false none none):=by simp
  have hcase:∀ (i:Nat) ob,(S++[Ob.thr self qc false false none none])[i]?=some ob→S[i]?=some ob∨(i=S.length∧ob=.thr self qc false false none none):=fun i ob hi=>by
    have:=ob_lt hi
    by_cases z:i<S.length
    · rw [hold i z] at hi;exact .inl hi
    · have z:i=S.length:=by simp at this;omega
      subst z;rw [hnew] at hi;exact .inr ⟨rfl,(Option.some.inj hi).symm⟩
  have hup:∀ (i:Nat) ob,S[i]?=some ob→(S++[Ob.thr self qc false false none none])[i]?=some ob:=fun i ob hi=>(hold i (ob_lt hi)).trans hi
  have hbl:∀ i,i<S.length→F'.blk (VB+i)=F.blk (VB+i):=fun i hi=>((hF (VB+i) (.inr ⟨by omega,by omega⟩)).1).symm
  have hch:∀ i s c,ChS (S++[Ob.thr self qc false false none none]) i s c→ChS S i s c∨(i=S.length∧s=0∧c=qc):=fun i s c h=>by
    cases h with
    | quit h =>
        rcases hcase _ _ h with h|⟨h1,h2⟩
        · exact .inl (.quit h)
        · cases h2;exact .inr ⟨h1,rfl,rfl⟩
    | done h =>
        rcases hcase _ _ h with h|⟨h1,h2⟩
        · exact .inl (.done h)
        · cases h2
    | ask h =>
        rcases hcase _ _ h with h|⟨h1,h2⟩
        · exact .inl (.ask h)
        · cases h2
    | grant h =>
        rcases hcase _ _ h with h|⟨h1,h2⟩
        · exact .inl (.grant h)
        · cases h2
  have hclow:∀ i s c,ChS S i s c→c<w.heap.size:=fun i s c h=>by
    obtain⟨⟨_,_,_,_,_,_,h1⟩,_⟩:=t.far _ _ _ h
    exact block_low h1
  have hkc:∀ c cap,c<w.heap.size→ChanO w c cap→ChanO w' c cap:=fun c cap hc ⟨m,hm⟩=>⟨m,(hk c hc).trans hm⟩
  refine⟨hring,⟨fun b=>?_,fun b=>?_,fun k s c k' s' h1 h2=>?_,fun k s c h=>?_,fun b hO=>?_,fun k a b c d e h=>?_,fun k a b c d e h=>?_⟩,H.main,fun i se hi=>?_,fun k a b c d e f g h=>?_,H.n0,by simp;omega⟩
  · constructor
    · rintro (h|rfl)
      · obtain⟨k,a1,a2,a3,a4,a5,a6,a7,a8⟩:=(t.obs b).1 h
        exact⟨k,a1,a2,a3,a4,a5,a6,hup _ _ a7,by rw [hbl k (ob_lt a7)];exact a8⟩
      · exact⟨S.length,_,_,_,_,_,_,hnew,hb.symm⟩
    · rintro ⟨k,a1,a2,a3,a4,a5,a6,a7,a8⟩
      rcases hcase _ _ a7 with h|⟨rfl,_⟩
      · exact .inl ((t.obs b).2 ⟨k,a1,a2,a3,a4,a5,a6,h,by rw [←hbl k (ob_lt h)];exact a8⟩)
      · exact .inr (a8.trans hb)
  · constructor
    · intro h
      obtain⟨k,a1,a2,a3,a4,a5,a7,a8⟩:=(t.wbs b).1 h
      exact⟨k,a1,a2,a3,a4,a5,hup _ _ a7,by rw [hbl k (ob_lt a7)];exact a8⟩
    · rintro ⟨k,a1,a2,a3,a4,a5,a7,a8⟩
      rcases hcase _ _ a7 with h|⟨_,h⟩
      · exact (t.wbs b).2 ⟨k,a1,a2,a3,a4,a5,h,by rw [←hbl k (ob_lt h)];exact a8⟩
      · cases h
  · rcases hch _ _ _ h1 with h1|⟨rfl,rfl,rfl⟩<;>rcases hch _ _ _ h2 with h2|⟨rfl,rfl,h2⟩
    · exact t.dist _ _ _ _ _ h1 h2
    · have:=hclow _ _ _ h1;omega
    · have:=hclow _ _ _ h2;omega
    · exact⟨rfl,rfl⟩
  · rcases hch _ _ _ h with h|⟨_,_,rfl⟩
    · obtain⟨h1,h2,h3⟩:=t.far _ _ _ h
      have:=hclow _ _ _ h
      refine⟨?_,fun z=>z.elim h2 fun z=>by omega,h3⟩
      obtain⟨b1,b2,b3,b4,b5,b6,b7⟩:=h1
      exact⟨b1,b2,b3,b4,b5,b6,(hk c this).trans b7⟩
    · refine⟨hq.is,fun z=>?_,fun z=>?_⟩
      · rcases z with z|z
        · have:=t.olow _ z;omega
        · exact hne z
      · have:=hW _ z;omega
  · rcases hO with h|rfl
    · exact Nat.lt_of_lt_of_le (t.olow b h) hs
    · exact hnl
  · rcases hcase _ _ h with h|⟨_,h2⟩
    · exact hkc _ _ (hclow _ _ _ (.quit h)) (t.quit _ _ _ _ _ _ h)
    · cases h2;exact hq
  · rcases hcase _ _ h with h|⟨_,h2⟩
    · obtain⟨h1,hp,gid,dn,ws,st,ak,gr,rfl,h3,h4,h5,h6,h7,h8,h9⟩:=t.busy _ _ _ _ _ _ h
      exact⟨h1,hp,gid,dn,ws,st,ak,gr,rfl,hup _ _ h3,hkc _ _ (hclow _ _ _ (.ask h3)) h4,hkc _ _ (hclow _ _ _ (.grant h3)) h5,hkc _ _ (hclow _ _ _ (.done h)) h6,h7,by rw [hsz];exact h8,hup _ _ h9⟩
    · cases h2
  · obtain⟨h1,h2,h3⟩:=H.seats i se hi
    refine⟨h1,by rw [hsz];exact h2,fun h0=>?_⟩
    obtain⟨j,a1,a2,a3,a4,a5,a6,a7,a8⟩:=h3 h0
    exact⟨j,a1,a2,a3,a4,a5,a6,a7,hup _ _ a8⟩
  · rcases hcase _ _ h with h|⟨_,h2⟩
    · obtain⟨h1,h2⟩:=H.waits _ _ _ _ _ _ _ _ h
      refine⟨h1,fun hne=>?_⟩
      obtain⟨ws,st,ak,gr,ab,x,y,cs,h3,h4,h5⟩:=h2 hne
      exact⟨ws,st,ak,gr,ab,x,y,cs,hup _ _ h3,by rw [hbl d (ob_lt h3)];exact h4,by rw [hbl d (ob_lt h3)];exact hSu _ _ _ _ _ _ _ _ _ _ h5 hF (Nat.le_refl _) (Nat.le_succ _)⟩
    · cases h2
end
section
variable (hok:∀ mn OB WB,PrimOK mn OB WB)
variable {Γ:Type} (Pr:Proto Γ)
def SpNew:SpT Γ:=fun f args hs S γ Q=>∃ self:Int,f=13∧args=#[.int .i64 self]∧KeepC γ.2 S∧∀ qc,Q (hndV S.length) hs (S++[.thr self qc false false none none]) (γ.1,S++[.thr self qc false false none none])
theorem new_body:Try.f13.body=some newC:=rfl
set_option maxRecDepth 100000 in
theorem new_begin {F:Emb} {v:Int}:actF F (enterL Try.f13 newC #[.int .i64 v]).2=⟨#[.int .i64 v,undef,undef,undef,undef,undef,undef],[]⟩:=by
  simp only [enterL,Try.ntmps13]
  simp [actF,ren_undef,List.replicate]
variable {Pr}
theorem hndV_stab {F:Emb} {N n k:Nat} (h:k<n):Stab (Kn N n) F (hndV k):=fun F' hs=>by
  obtain⟨h1,h2,_⟩:=hs (VB+k) (.inr ⟨by omega,by omega⟩)
  simp [hndV,adr,h1,h2]
theorem new_ok {n00:Nat} {w00:World} {Fin:Unit→Machine→Trace→Prop} {Stk:List Frame→Prop}:SpOK hok (ClM n00 w00) (SuM hok Pr) Fin Stk (SpNew (Γ:=Γ)):=by
  intro f args hs S γ Q hsp b cs F0 N0 C0 fn ops i rest kk tmps o hfn hkd hsk ho hw hb' hca K d p Inb F gs w sl T g hC H hg hgS hF hN hC0
  obtain⟨self,rfl,rfl,hkeep,hQ⟩:=hsp
  obtain⟨h0,hrun,hseat,hPX,hn00,hw00⟩:=id hC
  have hst:∀ u∈tmps,Stab (Kn hs.next S.length) F u:=fun u hu=>H.inv.1.vst u hu
  refine (stand_enter hok (SuM.mono hok Pr d γ.1) ho hw hb' hca Try.func13 rfl new_body hkd H hg hgS).bind fun m1 T1=>?_
  rintro ⟨gs1,w1,sl1,rfl,k1,H1⟩
  have H1:Standing p hok (SuM hok Pr d γ.1) S F (.run [] [] hs S) Inb gs1 w1 T1:=Standing.keep (c:=.run [] [] hs S) hok hkeep (Standing.conf hok H1 rfl rfl (fun v hv=>by cases hv))
  rw [new_begin,h0] at k1
  obtain⟨B0,Mem0,q0,R0,hM0,_⟩:=H1.com.ring
  rw [h0] at R0
  have hlow:=com_low H1.com H1.wrow
  refine (hold_goes (sl:=sl1) (h:=0) 60 k1 (new_way1 (w0:=w1) ⟨rfl,hlow,Nat.le_refl _⟩ _) R0).bind fun m2 T2=>?_
  rintro ⟨gs2,g2,w2,sl2,q2,B2,rfl,j1,j2,⟨rfl,hK2⟩,R2⟩
  have hsz2:w2.heap.size=w1.heap.size+1:=by rw [hK2.heap,alloc_size]
  generalize hnb:w2.heap.size=nb at *
  have hWl:∀ b,p.WB b→b<w1.heap.size:=fun b hb=>hlow b (.inr (.inl hb))
  have hSl:∀ i s c,Inb i=some s→s.has c→c<w1.heap.size:=fun i s c hi hc=>hlow c (.inr (.inr ⟨i,s,hi,hc⟩))
  have R3:RingO Try.prog (fun b=>p.OB b∨b=nb) p.WB B2 p.Iv Mem0 Inb 0 T2 gs2 w2 q2:=by
    refine CoF.grow R2 (fun b h=>.inl h) (fun b h=>h) (fun b hb hW=>?_) (fun i s c hi hc hb=>?_) (fun i a ha hO=>?_) (fun i a _ _ h=>h)
    · rcases hb with hb|rfl
      · exact R2.apart b hb hW
      · have:=hWl _ hW;omega
    · rcases hb with hb|rfl
      · exact R2.far i s c hi hc hb
      · have:=hSl _ _ _ hi hc;omega
    · obtain⟨x,hx,hx2⟩:=hO
      rcases hx2 with hx2|hx2
      · exact R2.past.own i a ha ⟨x,hx,hx2⟩
      · have h1:=low_touch R2.past.seen ha hx
        have h2:=R2.lowB
        omega
  refine (hold_goes (sl:=sl2) (h:=0) 60 j2 (new_way2 (self:=self) (w0:=w2) ⟨rfl⟩ (fun b hb=>by have:=hWl b hb;omega) (fun i s c hi hc=>by have:=hSl i s c hi hc;omega) _ cs) R3).bind fun m3 T3=>?_
  rintro ⟨gs3,g3,w3,sl3,q3,B3,rfl,l1,l2,⟨rfl,hK3⟩,R4⟩
  rw [hnb] at l2
  have hold:∀ x,x<w1.heap.size→w3.heap[x]?=w1.heap[x]?:=fun x hx=>by
    rw [hK3.heap,alloc_at _ _ _ (by omega),hK2.heap,alloc_at _ _ _ hx]
  have hqc:w3.heap[w1.heap.size]?=some (.chan 0 #[] false 0 0 false):=by
    rw [hK3.heap,alloc_at _ _ _ (by omega),hK2.heap];exact alloc_new _ _
  have hrow:w3.heap[nb]?=some (.cells #[.int .i64 self,.pointer none,.chan none,.pointer none,.bool false,.bool false,.chan (some w1.heap.size)] 103 (0,0)):=by
    rw [hK3.heap,←hnb];exact alloc_new _ _
  have hsz3:w3.heap.size=w1.heap.size+2:=by rw [hK3.heap,alloc_size];omega
  let F3:Emb:=⟨fun n=>if n=VB+S.length then nb else F.blk n,fun n=>if n=VB+S.length then 0 else F.base n,F.slack⟩
  have hV:hs.next≤VB:=H1.inv.2
  have hFF:Same (Kn hs.next S.length) F F3:=fun n hn=>by
    have:n≠VB+S.length:=by
      rcases hn with hn|⟨_,hn⟩
      · omega
      · omega
    simp [F3,this]
  have hb3:F3.blk (VB+S.length)=nb:=if_pos rfl
  have hX:=X_main hok h0
  have hinv1:RInv (XM hok p.OB p.WB) F (.run [] [] hs S) w1:=hX ▸ H1.inv
  have hvk:∀ x,Vis (XM hok p.OB p.WB) F (.run [] [] hs S) x→x<w1.heap.size:=fun x hx=>by
    obtain⟨_,_,_,h1⟩:=vis_row (XF.soft (hok _ _ _)) hinv1 hx
    exact block_low h1
  have hinv3:RInv (XM hok (fun b=>p.OB b∨b=nb) p.WB) F3 (.run [] [] hs (S++[.thr self w1.heap.size false false none none])) w3:=by
    refine rinv_add hok rfl (fun b h=>.inl h) (fun b h=>h) hFF (if_pos rfl) hinv1 (fun hv=>?_) (fun b hb=>.inl hb) (fun x hx=>hold x (hvk x hx)) ?_ (fun z=>?_) (by omega)
    · have:=hvk _ hv
      rw [hb3] at this;omega
    · intro _
      refine⟨.inr hb3,fun c hc=>(by cases hc),fun c hc=>(by cases hc),?_⟩
      rw [hb3,hrow]
      rfl
    · rw [hb3] at z
      have:=hWl _ z;omega
  let p':Par:=⟨p.h,p.run,fun b=>p.OB b∨b=nb,p.WB,p.Iv,p.seat0,p.PX,w3,F3,0,0,p.n0,p.w0⟩
  have hcom3:Com p' (SuM hok Pr d γ.1) (S++[.thr self w1.heap.size false false none none]) F3 hs.next (S.length+1) Inb gs3 w3 T3 :=
    H1.com.addThr (SuM.mono hok Pr d γ.1) rfl hFF hb3 (by omega) (by omega) hWl hold (Nat.le_refl _) (by omega) (by omega) (by omega) ⟨_,hqc⟩ ⟨B3,Mem0,q3,by rw [h0];exact R4,hM0,by rw [h0];exact hM0⟩
  have hlen:(S++[Ob.thr self w1.heap.size false false none none]).length=S.length+1:=by simp
  have hstand:Standing p' hok (SuM hok Pr d γ.1) (S++[.thr self w1.heap.size false false none none]) F3 (.run [] [] hs (S++[.thr self w1.heap.size false false none none])) Inb gs3 w3 T3:=by
    refine⟨?_,(X_main hok (p:=p') h0) ▸ hinv3,fun z=>absurd h0 z,fun x hx=>absurd hx (hPX x),fun x hx=>?_,fun n r hr hW=>?_,⟨fun x hx=>?_,fun k s c h=>?_⟩,Same.refl _ _,Nat.zero_le _,Nat.zero_le _⟩
    · show Com p' _ _ F3 hs.next (S++[Ob.thr self w1.heap.size false false none none]).length Inb gs3 w3 T3
      rw [hlen];exact hcom3
    · obtain⟨cc,el,h1,h2⟩:=H1.wrow x hx
      exact⟨cc,el,(hold x (block_low h1)).trans h1,h2⟩
    · refine H1.wro n r hr ?_
      rw [(hFF n (hinv1.1.hk n r hr).1).1];exact hW
    · obtain⟨y1,y2,y3,y4⟩:=H1.base.low x hx
      refine⟨by omega,fun hT=>?_,fun z=>z.elim y3 fun z=>by omega,(hold x y1).trans y4⟩
      rw [X_main hok (p:=p') h0] at hT
      rw [hX] at y2
      rcases hT with ⟨n,r,z1,z2,rfl⟩|z
      · exact y2 (.inl ⟨n,r,z1,z2,(hFF n (hinv1.1.hk n r z1).1).1⟩)
      · rcases fps_push rfl (hFF.mono fun n hn=>.inr hn) z with z|z
        · exact y2 (.inr z)
        · rw [hb3] at z;omega
    · have hb:=H1.base.size
      rcases addThr_ch h with h|⟨_,_,rfl⟩
      · exact H1.base.ch k s c h
      · exact hb
  have hfin:(b.at (actF F tmps) (.inRegion ops (i::rest)::kk)).finish (pt nb)=b.at (actF F3 (putL o.dst (hndV S.length) tmps)) (.inRegion ops rest::kk):=by
    rw [Frame.finish_at,ho]
    show b.at ((actF F tmps).put o.dst (pt nb)) (.inRegion ops rest::kk)=_
    rw [←actF_congr hst hFF,←actF_put]
    simp [hndV,adr,F3]
  rw [hfin] at l2
  have hKK:∀ x,Kn hs.next S.length x→Kn hs.next (S++[Ob.thr self w1.heap.size false false none none]).length x:=fun x hx=>hx.mono (Nat.le_refl _) (by omega)
  exact K _ hs _ _ (hQ w1.heap.size) d p' Inb F3 gs3 w3 sl3 T3 _ ⟨h0,hrun,hseat,hPX,hn00,hw00⟩ (Standing.conf hok hstand rfl rfl (putL_stab (fun u hu=>(hst u hu).move hFF hKK) (hndV_stab (by rw [hlen];omega)) o.dst)) (by rw [show p'.h=0 from h0];exact l2) rfl (hF.trans (hFF.mono fun x hx=>hx.mono hN hC0)) hN (by show C0≤(S++[Ob.thr self w1.heap.size false false none none]).length;rw [hlen];have:C0≤S.length:=hC0;omega)
end
section
variable {P:Program} {main:Bool} {R:World→World→Prop} {D:World→World→Array Event→Prop} {Stop:Goroutine→World→Prop}
theorem goes_more:∀ {n m:Nat} {g:Goroutine} {w:World},Conc.Goes P main R D Stop n g w→n≤m→Conc.Goes P main R D Stop m g w
  | 0,0,_,_,h,_=>h
  | 0,m+1,_,_,h,_=>.inl h
  | n+1,0,_,_,_,hm=>absurd hm (by omega)
  | n+1,m+1,g,w,h,hm=>by
    rcases h with h|⟨hs,h⟩
    · exact .inl h
    · refine .inr ⟨hs,fun w1 h1=>?_⟩
      have:=h w1 h1
      cases hgo:stepG P main g w1 with
      | go g' w' es =>
        rw [hgo,goes_go] at this
        rw [goes_go]
        exact⟨this.1,goes_more this.2 (by omega)⟩
      | _=>rw [hgo] at this;exact this.elim
variable {ops:Array Oper} {b:Frame} {k:List Item} {cs:List Frame}
def backB (ops:Array Oper):Bool:=(List.range ops.size).all fun i=>((ops[i]?).map fun o=>o.after.all fun e=>!Region.binds .any e || decide (e.on<i)).getD true
theorem ready_all (hb:backB ops=true) {l:Array Bool} (hnil:Region.ready .any ops l=[]):∀ i,i<ops.size→l.getD i true=true:=by
  intro i
  induction i using Nat.strongRecOn with
  | _ i ih =>
    intro hlt
    cases hl:l.getD i true
    · exfalso
      have:i∈Region.ready .any ops l:=mem_ready.2 ⟨hl,_,Array.getElem?_eq_getElem hlt,fun e he hbd=>by
        have h1:=List.all_eq_true.1 hb i (List.mem_range.2 hlt)
        rw [Array.getElem?_eq_getElem hlt] at h1
        have h2:=(Array.all_eq_true_iff_forall_mem.1 h1) e he
        simp only [hbd,Bool.not_true,Bool.false_or,decide_eq_true_eq] at h2
        have h3:=ih e.on h2 (by omega)
        have hsz:e.on<l.size:=by
          apply Nat.lt_of_not_le;intro h
          have:i<l.size:=by
            apply Nat.lt_of_not_le;intro h4
            rw [Array.getD_eq_getD_getElem?,Array.getElem?_eq_none h4] at hl;cases hl
          omega
        rw [Array.getD_eq_getD_getElem?,Array.getElem?_eq_getElem hsz] at h3 ⊢
        exact h3⟩
      rw [hnil] at this
      cases this
    · rfl
def leftD (ops:Array Oper) (fuel t:Nat) (l:Array Bool):List Nat:=Region.linearise.go .any ops fuel t l []
theorem sched_goes {Inv:Array Bool→Act→World→Prop} (hb:backB ops=true) (hR:∀ l a w w1,Inv l a w→R w w1→Inv l a w1)
    {Z:Nat→Bool} (hstop:∀ l a w i o fuel t,l.size=ops.size→ops[i]?=some o→l.getD i true=false→(∀ e∈o.after,Region.binds .any e=true→l.getD e.on false=true)→Z i=true→Inv l a w→undone (l.setIfInBounds i true) ops.size≤fuel→Stop (Go.Conc.G (b.at a (.inRegion ops (i::leftD ops fuel t (l.setIfInBounds i true))::k)) cs) w)
    (hstep:∀ l a w i o,l.size=ops.size→ops[i]?=some o→l.getD i true=false→(∀ e∈o.after,Region.binds .any e=true→l.getD e.on false=true)→Z i=false→Inv l a w →
      ∃ a' w' es,(∀ rest,stepG P main (Go.Conc.G (b.at a (.inRegion ops (i::rest)::k)) cs) w=.go (Go.Conc.G (b.at a' (.inRegion ops rest::k)) cs) w' es)∧D w w' es∧Inv (l.setIfInBounds i true) a' w')
    {n:Nat} (hend:∀ l a w,l.size=ops.size→(∀ i,i<ops.size→l.getD i true=true)→Inv l a w→Conc.Goes P main R D Stop n (Go.Conc.G (b.at a (.inRegion ops []::k)) cs) w) :
    ∀ (fuel t:Nat) (l:Array Bool) (a:Act) (w:World),l.size=ops.size→undone l ops.size≤fuel→Inv l a w→Conc.Goes P main R D Stop (n+fuel) (Go.Conc.G (b.at a (.inRegion ops (leftD ops fuel t l)::k)) cs) w:=by
  intro fuel
  induction fuel with
  | zero =>
    intro t l a w hl hf hI
    exact hend l a w hl (undone_zero ops.size (Nat.le_zero.1 hf)) hI
  | succ fuel ih =>
    intro t l a w hl hf hI
    unfold leftD
    simp only [Region.linearise.go]
    change Conc.Goes P main R D Stop (n+(fuel+1)) (Go.Conc.G (b.at a (.inRegion ops (match (Region.ready .any ops l)[t % (Region.ready .any ops l).length]? with
        | some i=>Region.linearise.go .any ops fuel (t / (Region.ready .any ops l).length) (l.setIfInBounds i true) [i]
        | none=>[].reverse)::k)) cs) w
    cases hi:(Region.ready .any ops l)[t % (Region.ready .any ops l).length]? with
    | none =>
      have hnil:Region.ready .any ops l=[]:=by
        cases hr:Region.ready .any ops l with
        | nil=>rfl
        | cons x xs =>
          rw [hr] at hi
          have hlt:t % (x::xs).length<(x::xs).length:=Nat.mod_lt _ (by simp)
          simp at hi
          simp at hlt
          omega
      exact goes_more (hend l a w hl (ready_all hb hnil) hI) (by omega)
    | some i =>
      simp only []
      rw [linearise_go_acc,List.reverse_singleton,List.singleton_append]
      have hir:i∈Region.ready .any ops l:=List.mem_of_getElem? hi
      obtain⟨hun,o,ho,hdep⟩:=mem_ready.1 hir
      have hlt:=(Array.getElem?_eq_some_iff.1 ho).1
      have hund:=undone_le_set hun ops.size hlt (by rw [hl];exact hlt)
      cases hz:Z i with
      | true=>exact .inl fun w1 h1=>hstop l a w1 i o fuel _ hl ho hun hdep hz (hR _ _ _ _ hI h1) (by omega)
      | false =>
        refine .inr ⟨rfl,fun w1 h1=>?_⟩
        obtain⟨a',w',es,h2,h3,h4⟩:=hstep l a w1 i o hl ho hun hdep hz (hR _ _ _ _ hI h1)
        rw [h2,goes_go]
        exact⟨h3,ih _ _ a' w' (by simpa using hl) (by omega) h4⟩
end
section
variable {P:Program} {OB WB:Nat→Prop} {B:Nat} {Iv:Nat→World→Prop} {Mem:Nat→Prop} {Inb:Nat→Option Seat} {T:Trace} {gs:Array Goroutine} {w:World} {q:Nat→Nat} {h:Nat}
theorem RingO.ownQ (C:RingO P OB WB B Iv Mem Inb h T gs w q) {a a':Goroutine} {w':World} (ha:gs[h]?=some a) (D:DO OB WB Inb h w w' #[]) :
    RingO P OB WB B Iv Mem Inb h (T++MemOp.ofEvents h a.frame.fn a.frame.place #[]) ((gs.map (woken P a a' w')).setIfInBounds h a') w' q∧((gs.map (woken P a a' w')).setIfInBounds h a')[h]?=some a':=by
  have hlt:h<gs.size:=(Array.getElem?_eq_some_iff.1 ha).1
  have hrl:∀ x,x≠h→Rl OB WB x w w':=fun x hx=>⟨fun ad had h3=>D.still ad had h3,fun e b hb=>D.own (by omega) b hb⟩
  rw [show MemOp.ofEvents h a.frame.fn a.frame.place #[]=#[] from rfl,Array.append_empty]
  refine⟨⟨fun x y hx hy=>?_,fun i s c _ hi hc=>?_,C.far,C.wf,fun _ _ hx=>hx.elim,C.inj,fun j hj=>?_,C.mem,C.nomem,C.lo,C.past,C.apart,C.ivst,Nat.le_trans C.lowB D.size⟩,Array.getElem?_setIfInBounds_self_of_lt (by simpa using hlt)⟩
  · rw [Array.getElem?_setIfInBounds_ne (fun e=>hx e.symm),Array.getElem?_map] at hy
    obtain⟨y₀,hy₀,rfl⟩:=Option.map_eq_some_iff.1 hy
    rw [woken_of_again (CoF.fixed' C D.seats hx hy₀)]
    have hi:=C.idle x y₀ hx hy₀
    cases es':Inb x with
    | none=>rw [es'] at hi;exact hi
    | some s=>rw [es'] at hi;exact SitsO.rely C.ivst hi (hrl x hx)
  · obtain⟨cap,k,hk⟩:=C.chans i s c (fun z=>z) hi hc
    exact⟨cap,k,by rw [D.seats i s c hi hc];exact hk⟩
  · simp only [Array.size_setIfInBounds,Array.size_map] at hj
    exact C.above j hj
theorem hold_quiet {a a':Goroutine} {St:World→Prop} (hrun:a.status=.running) {w0:World} (hstep:∀ w1,Ro OB h w0 w1→∃ w',stepG P (h==0) a w1=.go a' w' #[]∧DO OB WB Inb h w1 w' #[]∧St w') :
    ∀ (n:Nat) {T:Trace} {gs:Array Goroutine} {w:World} {q:Nat→Nat} {sl:Option (Nat × Nat)},sumTo gs.size q=n→Ro OB h w0 w→gs[h]?=some a→RingO P OB WB B Iv Mem Inb h T gs w q →
      Reach P (crowd gs w sl) T fun m' T'=>∃ gs' w' sl' q',m'=crowd gs' w' sl'∧gs'.size=gs.size∧gs'[h]?=some a'∧St w'∧RingO P OB WB B Iv Mem Inb h T' gs' w' q':=by
  intro n
  induction n using Nat.strongRecOn with
  | _ m ihm =>
    intro T gs w q sl hm hw ha C
    obtain⟨i,g,d,sl',hi,hg,hst⟩:=crowd_pick (P:=P) (w:=w) (sl:=sl) (CoF.awake C fun x g hx hgx=>by subst hx;rw [ha] at hgx;obtain rfl:=Option.some.inj hgx;exact .inl hrun) ⟨h,a,ha,hrun⟩
    have Cd:RingO P OB WB B Iv Mem Inb h T gs (w.at d) q:=CoF.at C d
    have hRd:Ro OB h w (w.at d):=⟨fun _ _=>rfl,rfl,rfl⟩
    by_cases e:i=h
    · subst e
      obtain rfl:g=a:=by rw [ha] at hi;exact (Option.some.inj hi).symm
      obtain⟨w',h1,h2,h3⟩:=hstep (w.at d) (hw.trans _ _ _ hRd)
      obtain⟨C',ha'⟩:=RingO.ownQ (a':=a') Cd ha h2
      refine .head (ho:=by exact .of h2.rest) (by rw [hst];exact runT_crowd_go (sl:=sl') ha h1) (.here ⟨_,w',sl',q,rfl,by simp,ha',h3,C'⟩)
    · obtain⟨gs',ops,q',w',hrt,hsz',hsp,hS,hw0,_,_,C',hlt⟩:=CoF.by_step (sl:=sl') (fun t u i=>Knows.app u) Cd hi e hg
        (fun x gx w' hx hgx _=>by subst hx;rw [ha] at hgx;obtain rfl:=Option.some.inj hgx;exact again_of_running (.inl hrun) _) (fun hD=>hD.elim)
        (fun s g₂ _ _=>⟨fun hD=>hD,fun x gx c hx hgx _=>by subst hx;rw [ha] at hgx;obtain rfl:=Option.some.inj hgx;exact offersAt_of_not_blocked (by rw [hrun];simp) _ _⟩)
      have hR:Ro OB h w w':=hRd.trans _ _ _ (hS.by' hw0 e)
      refine .head (ho:=by exact .side hS.rest) (by rw [hst];exact hrt) ?_
      refine (ihm (sumTo gs'.size q') (by rw [hsz',←hm];exact hlt) rfl (hw.trans _ _ _ hR) (by rw [hsp h rfl];exact ha) C').bind fun m' T'=>?_
      rintro ⟨gs2,w2,sl2,q2,rfl,k1,k2,k3,k4⟩
      exact .here ⟨gs2,w2,sl2,q2,rfl,by omega,k2,k3,k4⟩
end
noncomputable def startC:Code:=(Try.f17.body).getD .skip
noncomputable def startR3:Code:=cL (cR (cR startC))
noncomputable def startOps3:Array Oper:=cOps startR3
noncomputable def startR4:Code:=cR (cR (cR startC))
abbrev startT (tb:Nat) (fv:Value) (v:Nat→Value):Array Value:=#[pt tb,fv,undef,undef,.bool false,pt tb,.bool false,.bool false,pt tb,pt tb,pt tb 5,.bool false,.bool false,.bool false,pt tb,pt tb,pt tb 4,.bool false,.bool false,.bool false,fv,.bool false,.bool false,v 0,v 1,v 2,v 3,v 4,v 5,v 6,v 7,v 8,v 9,v 10,v 11,v 12,v 13,v 14,undef,undef,undef,undef,undef,undef,undef,undef,undef,undef,undef,undef,undef,undef,undef,undef,undef,undef]
section
variable {OB WB:Nat→Prop} {Inb:Nat→Option Seat}
set_option maxRecDepth 100000 in
theorem start_way1 {w0 w:World} {tb:Nat} {fn:Fn} {xs ys:Array Value} (hc:w0.cell? ⟨tb,5,none⟩=some (.bool false)) (hb:w0.cell? ⟨tb,4,none⟩=some (.bool false)) (hK:KM w0 w) (cs:List Frame) :
    Conc.Goes Try.prog true (Ro OB 0) (DO OB WB Inb 0) (fun g w'=>g=Go.Conc.G ((base 17).at ⟨startT tb (.func fn xs ys) (fun _=>undef),[]⟩ [.code startR3,.code startR4]) cs∧KM w0 w') 60 (Go.Conc.G ((base 17).at ⟨#[pt tb,.func fn xs ys,undef,undef,undef,undef,undef,undef,undef,undef,undef,undef,undef,undef,undef,undef,undef,undef,undef,undef,undef,undef,undef,undef,undef,undef,undef,undef,undef,undef,undef,undef,undef,undef,undef,undef,undef,undef,undef,undef,undef,undef,undef,undef,undef,undef,undef,undef,undef,undef,undef,undef,undef,undef,undef,undef],[]⟩ [.code startC]) cs) w:=by
  simp only [startC,Try.f17,Option.getD_some]
  (refine Conc.Goes.step rfl (fun w₁ h₁=>?_);replace hK:=hK.rely h₁;clear h₁;rw [stepG_seq];simp only [goes_go];refine⟨DO.none _,?_⟩)
  (refine Conc.Goes.step rfl (fun w₁ h₁=>?_);replace hK:=hK.rely h₁;clear h₁;rw [stepG_region];simp only [goes_go,List.size_toArray,List.length_cons,List.length_nil,Nat.reduceAdd,Nat.zero_add,List.range,List.range.loop];refine⟨DO.none _,?_⟩)
  (refine Conc.Goes.step rfl (fun w₁ h₁=>?_);replace hK:=hK.rely h₁;clear h₁;refine goes_oper_k rfl rfl (by decide) (fun K hK'=>?_);go_simp;refine hK' _ _ ⟨DO.quiet (fun e he=>(by have hm:=mem_listed he;simp [go_sem,Instr.makeInterface,Instr.makeFunc] at hm)),?_⟩;clear hK' K)
  (refine Conc.Goes.step rfl (fun w₁ h₁=>?_);replace hK:=hK.rely h₁;clear h₁;rw [stepG_region_end];simp only [goes_go];refine⟨DO.none _,?_⟩)
  (refine Conc.Goes.step rfl (fun w₁ h₁=>?_);replace hK:=hK.rely h₁;clear h₁;rw [stepG_seq];simp only [goes_go];refine⟨DO.none _,?_⟩)
  (refine Conc.Goes.step rfl (fun w₁ h₁=>?_);replace hK:=hK.rely h₁;clear h₁;rw [stepG_seq];simp only [goes_go];refine⟨DO.none _,?_⟩)
  (refine Conc.Goes.step rfl (fun w₁ h₁=>?_);replace hK:=hK.rely h₁;clear h₁;rw [stepG_region];simp only [goes_go,List.size_toArray,List.length_cons,List.length_nil,Nat.reduceAdd,Nat.zero_add,List.range,List.range.loop];refine⟨DO.none _,?_⟩)
  (refine Conc.Goes.step rfl (fun w₁ h₁=>?_);replace hK:=hK.rely h₁;clear h₁;refine goes_oper_k rfl rfl (by decide) (fun K hK'=>?_);go_simp;refine hK' _ _ ⟨DO.quiet (fun e he=>(by have hm:=mem_listed he;simp [go_sem,Instr.makeInterface,Instr.makeFunc] at hm)),?_⟩;clear hK' K)
  refine Conc.Goes.step rfl (fun w₁ h₁=>?_)
  replace hK:=hK.rely h₁;clear h₁
  refine goes_oper_k rfl rfl (by decide) (fun K hK'=>?_)
  go_simp
  refine hK' _ _ ⟨DO.quiet (fun e he=>(by rw [listed_nilp rfl rfl rfl rfl] at he;simp at he)),?_⟩
  clear hK' K
  (refine Conc.Goes.step rfl (fun w₁ h₁=>?_);replace hK:=hK.rely h₁;clear h₁;refine goes_oper_k rfl rfl (by decide) (fun K hK'=>?_);go_simp;refine hK' _ _ ⟨DO.quiet (fun e he=>(by have hm:=mem_listed he;simp [go_sem,Instr.makeInterface,Instr.makeFunc] at hm)),?_⟩;clear hK' K)
  (refine Conc.Goes.step rfl (fun w₁ h₁=>?_);replace hK:=hK.rely h₁;clear h₁;refine goes_oper_k rfl rfl (by decide) (fun K hK'=>?_);go_simp;refine hK' _ _ ⟨DO.quiet (fun e he=>(by have hm:=mem_listed he;simp [go_sem,Instr.makeInterface,Instr.makeFunc] at hm)),?_⟩;clear hK' K)
  (refine Conc.Goes.step rfl (fun w₁ h₁=>?_);replace hK:=hK.rely h₁;clear h₁;refine goes_oper_k rfl rfl (by decide) (fun K hK'=>?_);go_simp;refine hK' _ _ ⟨DO.quiet (fun e he=>(by have hm:=mem_listed he;simp [go_sem,Instr.makeInterface,Instr.makeFunc] at hm)),?_⟩;clear hK' K)
  (refine Conc.Goes.step rfl (fun w₁ h₁=>?_);replace hK:=hK.rely h₁;clear h₁;refine goes_oper_k rfl rfl (by decide) (fun K hK'=>?_);go_simp;refine hK' _ _ ⟨DO.quiet (fun e he=>(by have hm:=mem_listed he;simp [go_sem,Instr.makeInterface,Instr.makeFunc] at hm)),?_⟩;clear hK' K)
  (refine Conc.Goes.step rfl (fun w₁ h₁=>?_);replace hK:=hK.rely h₁;clear h₁;have hF:=(hK.cell hc);refine goes_oper_k rfl rfl (by decide) (fun K hK'=>?_);go_simp;refine hK' _ _ ⟨DO.quiet (fun e he=>(by have hm:=mem_listed he;simp [go_sem,hF] at hm;subst hm;exact evO_cell (hK.cell hc))),?_⟩;clear hK' K hF)
  (refine Conc.Goes.step rfl (fun w₁ h₁=>?_);replace hK:=hK.rely h₁;clear h₁;refine goes_oper_k rfl rfl (by decide) (fun K hK'=>?_);go_simp;refine hK' _ _ ⟨DO.quiet (fun e he=>(by have hm:=mem_listed he;simp [go_sem,Instr.makeInterface,Instr.makeFunc] at hm)),?_⟩;clear hK' K)
  (refine Conc.Goes.step rfl (fun w₁ h₁=>?_);replace hK:=hK.rely h₁;clear h₁;refine goes_oper_k rfl rfl (by decide) (fun K hK'=>?_);go_simp;refine hK' _ _ ⟨DO.quiet (fun e he=>(by have hm:=mem_listed he;simp [go_sem,Instr.makeInterface,Instr.makeFunc] at hm)),?_⟩;clear hK' K)
  (refine Conc.Goes.step rfl (fun w₁ h₁=>?_);replace hK:=hK.rely h₁;clear h₁;refine goes_oper_k rfl rfl (by decide) (fun K hK'=>?_);go_simp;refine hK' _ _ ⟨DO.quiet (fun e he=>(by have hm:=mem_listed he;simp [go_sem,Instr.makeInterface,Instr.makeFunc] at hm)),?_⟩;clear hK' K)
  (refine Conc.Goes.step rfl (fun w₁ h₁=>?_);replace hK:=hK.rely h₁;clear h₁;refine goes_oper_k rfl rfl (by decide) (fun K hK'=>?_);go_simp;refine hK' _ _ ⟨DO.quiet (fun e he=>(by have hm:=mem_listed he;simp [go_sem,Instr.makeInterface,Instr.makeFunc] at hm)),?_⟩;clear hK' K)
  (refine Conc.Goes.step rfl (fun w₁ h₁=>?_);replace hK:=hK.rely h₁;clear h₁;refine goes_oper_k rfl rfl (by decide) (fun K hK'=>?_);go_simp;refine hK' _ _ ⟨DO.quiet (fun e he=>(by have hm:=mem_listed he;simp [go_sem,Instr.makeInterface,Instr.makeFunc] at hm)),?_⟩;clear hK' K)
  (refine Conc.Goes.step rfl (fun w₁ h₁=>?_);replace hK:=hK.rely h₁;clear h₁;have hF:=(hK.cell hb);refine goes_oper_k rfl rfl (by decide) (fun K hK'=>?_);go_simp;refine hK' _ _ ⟨DO.quiet (fun e he=>(by have hm:=mem_listed he;simp [go_sem,hF] at hm;subst hm;exact evO_cell (hK.cell hb))),?_⟩;clear hK' K hF)
  (refine Conc.Goes.step rfl (fun w₁ h₁=>?_);replace hK:=hK.rely h₁;clear h₁;refine goes_oper_k rfl rfl (by decide) (fun K hK'=>?_);go_simp;refine hK' _ _ ⟨DO.quiet (fun e he=>(by have hm:=mem_listed he;simp [go_sem,Instr.makeInterface,Instr.makeFunc] at hm)),?_⟩;clear hK' K)
  (refine Conc.Goes.step rfl (fun w₁ h₁=>?_);replace hK:=hK.rely h₁;clear h₁;refine goes_oper_k rfl rfl (by decide) (fun K hK'=>?_);go_simp;refine hK' _ _ ⟨DO.quiet (fun e he=>(by have hm:=mem_listed he;simp [go_sem,Instr.makeInterface,Instr.makeFunc] at hm)),?_⟩;clear hK' K)
  (refine Conc.Goes.step rfl (fun w₁ h₁=>?_);replace hK:=hK.rely h₁;clear h₁;refine goes_oper_k rfl rfl (by decide) (fun K hK'=>?_);go_simp;refine hK' _ _ ⟨DO.quiet (fun e he=>(by have hm:=mem_listed he;simp [go_sem,Instr.makeInterface,Instr.makeFunc] at hm)),?_⟩;clear hK' K)
  refine Conc.Goes.step rfl (fun w₁ h₁=>?_)
  replace hK:=hK.rely h₁;clear h₁
  refine goes_oper_k rfl rfl (by decide) (fun K hK'=>?_)
  go_simp
  refine hK' _ _ ⟨DO.quiet (fun e he=>(by rw [listed_bin (u:=.func fn xs ys) (v:=.nilFunc) rfl rfl rfl (ren_id _) (ren_id _) rfl] at he;simp at he)),?_⟩
  clear hK' K
  (refine Conc.Goes.step rfl (fun w₁ h₁=>?_);replace hK:=hK.rely h₁;clear h₁;refine goes_oper_k rfl rfl (by decide) (fun K hK'=>?_);go_simp;refine hK' _ _ ⟨DO.quiet (fun e he=>(by have hm:=mem_listed he;simp [go_sem,Instr.makeInterface,Instr.makeFunc] at hm)),?_⟩;clear hK' K)
  (refine Conc.Goes.step rfl (fun w₁ h₁=>?_);replace hK:=hK.rely h₁;clear h₁;rw [stepG_region_end];simp only [goes_go];refine⟨DO.none _,?_⟩)
  (refine Conc.Goes.step rfl (fun w₁ h₁=>?_);replace hK:=hK.rely h₁;clear h₁;rw [stepG_cond (t:=false) rfl];simp only [goes_go,if_true,if_false,Bool.false_eq_true,↓reduceIte];refine⟨DO.none _,?_⟩)
  (refine Conc.Goes.step rfl (fun w₁ h₁=>?_);replace hK:=hK.rely h₁;clear h₁;rw [stepG_skip];simp only [goes_go];refine⟨DO.none _,?_⟩)
  (refine Conc.Goes.step rfl (fun w₁ h₁=>?_);replace hK:=hK.rely h₁;clear h₁;rw [stepG_seq];simp only [goes_go];refine⟨DO.none _,?_⟩)
  exact Conc.Goes.stop (fun w₁ h₁=>⟨by simp only [startR3,startR4,startC,cOps,cL,cR,Try.f17,Option.getD_some],hK.rely h₁⟩)
end
end Go.Proofs.Ytkjnamhgemidkaa
