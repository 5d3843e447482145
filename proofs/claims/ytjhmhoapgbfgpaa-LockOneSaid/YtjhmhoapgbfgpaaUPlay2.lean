/-
  Bodies that are played: a thread comes, its body begins; the access at which a thread waits is done.
  No condition beyond those of each law.
-/
import Derived.Test.YtjhmhoapgbfgpaaUThr54
set_option maxHeartbeats 40000000
set_option linter.unusedVariables false
set_option linter.unusedSimpArgs false
namespace Go.Proofs.Ytjhmhoapgbfgpaa
open Go Go.Conc
open Go.RowKit
section
variable {G P:Type} {U:Sys G P} {pm n0:Nat} {S0:St}
theorem PI.new {γ:PG G P × St} {l:List (Option Blk)} {q c:Nat} {S:St} {ws:List UInt64} {bs:List UInt8} {fr:List Row} (H:PI U pm n0 S0 γ l q c S ws bs fr) (me:Int) (qc:Nat):PI U pm n0 S0 (γ.1,S++[.thr me qc false false none none]) l q c (S++[.thr me qc false false none none]) ws bs fr:=by
  have hs:zqf S (S++[.thr me qc false false none none]) S.length S.length:=by
    refine⟨fun j _ _ _ _ _ _ _ _ h=>zc0 h,fun j _ _ _ _ h=>zc0 h,fun j _ _ _ _ _ h=>⟨_,_,_,_,zc0 h⟩,fun j _ _ _ _ _ h1 _ h=>?_⟩;by_cases hj:j<S.length
    . rw [zku hj] at h;exact h
    . have:=zaG h;simp at this;omega
  have hlt:∀ i k,γ.1.ks[i]?=some k->k<S.length:=fun i k hk=>by
    have:=H.thr i k hk;cases hx:γ.1.pk k with
    | some p=>rw [hx] at this;obtain⟨_,qt,hp,gid,dn,pd,w,st,ask,gr,h1,h2,h3,h4⟩:=this;exact zaG h2
    | none=>rw [hx] at this;obtain⟨_,qt,cur,h2⟩:=this;exact zaG h2
  refine⟨KeepC.refl _,zc0 H.hm,H.inv,H.ll,H.bud,H.nd,H.frl,H.cold,H.rows,fun i k hk=>?_,H.out,fun k a b c e f h=>?_,fun j hj hjp=>?_,H.pm0,by have:=H.len;simp;omega⟩
  . have:=hlt i k hk;exact (H.thr i k hk).same hs (by omega) (by omega)
  . by_cases hj:k<S.length
    . rw [zku hj] at h;exact H.busy _ _ _ _ _ _ h
    . have hl:=zaG h;rw [List.getElem?_append_right (by omega)] at h
      obtain e:k - S.length=0:=by simp at hl;omega
      rw [e] at h;cases h
  . rw [zku (by have:=H.len;omega)];exact H.old j hj hjp
theorem zgP {S:St} {k:Nat} {self:Int} {quit ask gr gid dn:Nat} {x1:Int} {x2:Nat} {x3 x4:Bool} {x5:Option (Nat × Nat × Nat)} {x6:Option Nat} {X:Ob} {L:List Ob} (h1:S[k]?=some (.thr x1 x2 x3 x4 x5 x6)) (hL:∀ y∈L,∀ a b c d e f,y≠.thr a b c d e f) :
    zqf S ((zcP S k self quit ask gr gid dn).set k X++L) k k/\(∀ j o,S[j]?=some o->j≠k->((zcP S k self quit ask gr gid dn).set k X++L)[j]?=some o)/\((zcP S k self quit ask gr gid dn).set k X++L)[k]?=some X/\((zcP S k self quit ask gr gid dn).set k X++L)[S.length]?=some (.wp self 0 ask gr quit):=by
  have lk:=zaG h1;have gen:∀ j o,S[j]?=some o->j≠k->((zcP S k self quit ask gr gid dn).set k X++L)[j]?=some o:=fun j o h z=>zc0 (set_at (zc0 (zc0 (set_at h z.symm))) z.symm);have g3:((zcP S k self quit ask gr gid dn).set k X++L)[S.length]?=some (.wp self 0 ask gr quit):=zc0 (set_at zfO (by omega))
  refine⟨⟨fun j _ _ _ _ _ _ z1 _ h=>gen j _ h z1,fun j _ _ _ _ h=>gen j _ h (fun e=>by subst e;rw [h1] at h;cases h),fun j y1 y2 y3 y4 y5 h=>⟨_,_,_,_,gen j _ h (fun e=>by subst e;rw [h1] at h;cases h)⟩,fun j _ _ _ _ _ z1 _ h=>?_⟩,gen,zc0 (List.getElem?_set_self (by simp;omega)),g3⟩
  by_cases hj:j<S.length
  . obtain⟨o,ho⟩:∃ o,S[j]?=some o:=⟨_,List.getElem?_eq_getElem hj⟩;rw [gen j o ho z1] at h;rw [ho,h]
  . by_cases e1:j=S.length
    . subst e1;rw [g3] at h;cases h
    by_cases e2:j=S.length+1
    . subst e2;rw [zc0 (set_at ziP (by omega))] at h;cases h
    . rw [List.getElem?_append_right (by simp;omega)] at h
      exact absurd rfl (hL _ (List.mem_of_getElem? h) _ _ _ _ _ _)
theorem PI.start (ok:U.Ok) {γ:PG G P × St} {l l1:List (Option Blk)} {q q1 c:Nat} {S:St} {ws:List UInt64} {bs:List UInt8} {fr fr1:List Row} (H:PI U pm n0 S0 γ l q c S ws bs fr) {i k qt:Nat} (hk:S[k]?=some (.thr (i:Int) qt false false none none)) (hkn:k ∉ γ.1.ks) (hk0:n0<=k) (hi:i=γ.1.ks.length) (hfu:2<=γ.1.fuel)
    (hg:∀ (n:Nat) (b:Blk),l[n]?=some (some b)->zei b=false->l1[n]?=some (some b)) (hl1:l1.length<=q1) (hq1:q1<=q+900) (hfr:Fr fr1 l1) (hcold:∀ x∈fr1,U.hot x.2=false) {fb:Nat} {xs ys:Array Value} {Q:Value->AHeap->St->PG G P × St->Prop}
    (hbody:∀ (hp:Nat) (γ':PG G P × St) (S':St),BH U pm i k hp (i:Int) 0 (U.most+1) γ' l1 q1 1000 S' ws bs->γ'.1.ps.length=i+1->γ'.1.ps[i]?=some none->U.born i γ'.1.g ws bs γ'.1.ps l1->zfw (U.pr pm) k hp fb xs ys (zaH l1 q1 []) S' γ'.1)
    (hQ:∀ (γ':PG G P × St) (l':List (Option Blk)) (q':Nat) (S':St),PI U pm n0 S0 γ' l' q' c S' ws bs fr1->γ'.1.ks=γ.1.ks++[k]->γ'.1.fuel=γ.1.fuel - 2->q1<=q'->Q (.bool true) (zaH l' q' []) S' γ') :
    SpM (U.pr pm) 23 #[hndV k,.func (.func fb) xs ys] (zaH l1 q1 []) S γ Q:=by
  have hpk:=H.out k hkn;have hinv:=ok.rows (l':=l1) H.inv hg;obtain⟨g',hb⟩:=ok.birth hinv;have hpsl:γ.1.ps.length=i:=by simp [PG.ps,hi]
  rw [hpsl] at hb;have hps:∀ fr lim sl fu,(PG.mk g' (γ.1.ks++[k]) fr lim sl γ.1.pk fu).ps=γ.1.ps++[none]:=fun fr lim sl fu=>by simp [PG.ps,hpk]
  have hki:(γ.1.ks++[k])[i]?=some k:=by rw [hi,List.getElem?_append_right (Nat.le_refl _),Nat.sub_self];rfl
  have hnd:(γ.1.ks++[k]).Nodup:=List.nodup_append.2 ⟨H.nd,List.nodup_cons.2 ⟨by simp,List.nodup_nil⟩,fun a ha b hb=>by simp at hb;subst hb;exact fun e=>hkn (e ▸ ha)⟩
  have hrows:∀ k'∈γ.1.ks++[k],∀ p,γ.1.pk k'=some p->(γ.1.ks++[k])[p.2.1]?=some k'/\Fr p.2.2 l1/\∀ x∈p.2.2,U.hot x.2=false/\zei x.2=false:=fun k' hk' p' hp'=>by
    rcases List.mem_append.1 hk' with hk'|hk'
    . obtain⟨z1,z2,z3⟩:=H.rows k' hk' p' hp';exact⟨by rw [List.getElem?_append_left (List.getElem?_eq_some_iff.1 z1).1];exact z1,fun x hx=>hg _ _ (z2 x hx) (z3 x hx).2,z3⟩
    . obtain rfl:k'=k:=by simpa using hk'
      rw [hpk] at hp';cases hp'
  have hpmk:pm≠k:=by have:=H.pm0;omega
  have hm:∀ ask gr gid dn,(zcP S k (i:Int) qt ask gr gid dn)[pm]?=some (.mem ws bs):=fun ask gr gid dn=>zc0 (zc0 (set_at H.hm hpmk.symm));refine .inr (.inl ⟨k,fb,qt,(i:Int),xs,ys,none,zaH l1 q1 [],PG.mk g' (γ.1.ks++[k]) fr1 (i,U.most+1) c γ.1.pk (γ.1.fuel - 2),rfl,rfl,H.keep,hk,LendH.all _,?_,fun _ _=>rfl,fun ask gr gid dn=>?_,fun ask gr gid dn=>?_⟩)
  . show γ.1.fuel - 2<=γ.1.fuel;omega
  . refine hbody S.length (PG.mk g' (γ.1.ks++[k]) fr1 (i,U.most+1) c γ.1.pk (γ.1.fuel - 2),zcP S k (i:Int) qt ask gr gid dn) _ ⟨rfl,⟨_,_,_,zfO⟩,hm ask gr gid dn,hki,⟨rfl,Nat.le_refl _⟩,⟨hl1,hnd,hfr,hcold,hrows⟩,?_⟩ ?_ ?_ ?_
    . have:=H.bud;show q1+1000 * (γ.1.fuel - 2)+c+1000<=LIM;omega
    . show (PG.mk g' (γ.1.ks++[k]) fr1 (i,U.most+1) c γ.1.pk (γ.1.fuel - 2)).ps.length=i+1;rw [hps,List.length_append,hpsl];rfl
    . show (PG.mk g' (γ.1.ks++[k]) fr1 (i,U.most+1) c γ.1.pk (γ.1.fuel - 2)).ps[i]?=some none;rw [hps,List.getElem?_append_right (Nat.le_of_eq hpsl),hpsl,Nat.sub_self];rfl
    . show U.born i g' ws bs (PG.mk g' (γ.1.ks++[k]) fr1 (i,U.most+1) c γ.1.pk (γ.1.fuel - 2)).ps l1;rw [hps];exact hb
  . intro γ2 hs2 hInv hFC hph hnx;obtain⟨l2,q2,ws2,bs2,rfl,hd,hbud,hm2,hinv2,hl2⟩:=hInv;obtain⟨hfu2,hcon⟩:=hFC;have hcon:(γ2.ks,γ2.fr,γ2.lim,γ2.slack)=(γ.1.ks++[k],fr1,(i,U.most+1),c):=hcon;obtain⟨c1,c2,c3,c4⟩:γ2.ks=γ.1.ks++[k]/\γ2.fr=fr1/\γ2.lim=(i,U.most+1)/\γ2.slack=c:=by
      injection hcon with a b;injection b with b d;injection d with d e;exact⟨a,b,d,e⟩
    have hfu2:γ2.fuel=γ.1.fuel - 2:=hfu2;have hph:∀ j,j≠k->γ2.pk j=γ.1.pk j:=hph;have hnx:(zaH l1 q1 []).next<=(zaH l2 q2 []).next:=hnx;simp only [sz,List.length_nil,Nat.add_zero] at hnx;rw [hm ask gr gid dn] at hm2;cases hm2;rw [zpI];have hold:∀ (X:Ob) (L:List Ob),(∀ y∈L,∀ a b c d e f,y≠.thr a b c d e f)->TAt U n0 ((zcP S k (i:Int) qt ask gr gid dn).set k X++L) k i (γ2.pk k)->PI U pm n0 S0 (γ2,(zcP S k (i:Int) qt ask gr gid dn).set k X++L) l2 q2 c ((zcP S k (i:Int) qt ask gr gid dn).set k X++L) ws bs fr1:=fun X L hL hT=>by
      obtain⟨s1,s2,s3,s4⟩:=zgP (self:=(i:Int)) (quit:=qt) (ask:=ask) (gr:=gr) (gid:=gid) (dn:=dn) (X:=X) (L:=L) hk hL;refine⟨KeepC.refl _,s2 _ _ H.hm hpmk,hinv2,hd.ll,c4 ▸ hbud,hd.nd,c2 ▸ hd.fr,c2 ▸ hd.cold,hd.rows,fun j k' hk'=>?_,fun k' hk'=>?_,fun k' a b c e f hk'=>?_,fun j hj hjp=>?_,H.pm0,by have:=H.len;simp;omega⟩
      . have hk2:γ2.ks[j]?=some k':=hk';rw [c1] at hk2;clear hk';by_cases e:k'=k
        . subst e;have ej:i=j:=zo1 hnd hki hk2;subst ej;exact hT
        . show TAt U n0 _ k' j (γ2.pk k');rw [hph k' e];have hk3:γ.1.ks[j]?=some k':=by
            by_cases hj:j<γ.1.ks.length
            . rw [List.getElem?_append_left hj] at hk2;exact hk2
            . have:=(List.getElem?_eq_some_iff.1 hk2).1;simp at this;obtain rfl:j=i:=by omega
              rw [hki] at hk2;exact absurd (Option.some.inj hk2).symm e
          exact (H.thr j k' hk3).same s1 e e
      . have hk':k' ∉ γ2.ks:=hk';rw [c1] at hk';show γ2.pk k'=none;rw [hph k' fun e=>hk' (by simp [e])]
        exact H.out k' fun h=>hk' (by simp [h])
      . show k'∈γ2.ks;rw [c1];by_cases e:k'=k
        . subst e;simp
        . exact List.mem_append_left _ (H.busy _ _ _ _ _ _ (s1.thr' _ _ _ _ _ _ e e hk'))
      . have hjl:j<S.length:=by
          have:=zaG hk;omega
        obtain⟨o,ho⟩:∃ o,S[j]?=some o:=⟨_,List.getElem?_eq_getElem hjl⟩;rw [s2 j o ho (by omega),<-ho]
        exact H.old j hj hjp
    refine⟨fun p' hp'=>?_,fun hp'=>?_⟩
    . have hp':γ2.pk k=some p':=hp';obtain⟨s1,s2,s3,s4⟩:=zgP (self:=(i:Int)) (quit:=qt) (ask:=ask) (gr:=gr) (gid:=gid) (dn:=dn) (X:=.thr (i:Int) qt false true (some (S.length,gid,dn)) (some (zcP S k (i:Int) qt ask gr gid dn).length)) (L:=[.acc (U.acc p'.1).1 (U.acc p'.1).2.1 (U.acc p'.1).2.2.1 (U.acc p'.1).2.2.2]) hk (by intro y hy;simp at hy;subst hy;intro a b c d e f z;cases z)
      refine hQ _ l2 q2 _ (hold _ _ (by intro y hy;simp at hy;subst hy;intro a b c d e f z;cases z) ?_) c1 hfu2 hnx
      rw [hp'];have:=zaG hk;refine⟨hk0,qt,S.length,gid,dn,_,(i:Int),0,ask,gr,by omega,s3,?_,s4⟩
      rw [List.getElem?_append_right (by simp)]
      simp only [List.length_set,Nat.sub_self,List.getElem?_cons_zero];rfl
    . have hp':γ2.pk k=none:=hp';obtain⟨s1,s2,s3,s4⟩:=zgP (self:=(i:Int)) (quit:=qt) (ask:=ask) (gr:=gr) (gid:=gid) (dn:=dn) (X:=.thr (i:Int) qt false false (some (S.length,gid,dn)) none) (L:=[]) hk (by intro y hy;cases hy)
      have hh:=hold (.thr (i:Int) qt false false (some (S.length,gid,dn)) none) [] (by intro y hy;cases hy)
      simp only [List.append_nil] at hh s3;refine hQ _ l2 q2 _ (hh ?_) c1 hfu2 hnx;rw [hp'];exact⟨hk0,qt,_,s3⟩
end
theorem zqL (a:Acc4) {k:Nat} {ws:List UInt64} {bs:List UInt8} {S:St} (h:S[k]?=some (.mem ws bs)) (h1:1<=a.1) (h6:a.1<=6):∃ b,Prim 27 #[hndV k,accV a.1 a.2.1 a.2.2.1 a.2.2.2] S (.tuple #[.int .u64 ((zg6 a ws bs).toNat:Int),.bool b]) (S.set k (.mem (wdsQ a ws) (bytQ a bs))):=by
  obtain⟨c,n,A,B⟩:=a;have h1:1<=c:=h1;have h6:c<=6:=h6;by_cases h4:c<=4
  . have e1:zg6 (c,n,A,B) ws bs=wT c n A ws:=if_pos h4;have e2:wdsQ (c,n,A,B) ws=wS c n A B ws:=if_pos h4;have e3:bytQ (c,n,A,B) bs=bs:=if_neg (by show ¬ c=6;omega)
    rw [e1,e2,e3];exact⟨_,Prim.do' c n A B h h1 h4⟩
  . have e5:c=5\/c=6:=by omega
    rcases e5 with rfl|rfl
    . have e1:((zg6 (5,n,A,B) ws bs).toNat:Int)=((bT n bs).toNat:Int):=by
        show (((bT n bs).toUInt64).toNat:Int)=_;rw [UInt8.toNat_toUInt64]
      have e2:wdsQ (5,n,A,B) ws=ws:=rfl;have e3:bytQ (5,n,A,B) bs=bs:=rfl;rw [e1,e2,e3,zfb h];exact⟨_,Prim.dget n A B h⟩
    . have e1:zg6 (6,n,A,B) ws bs=0:=rfl;have e2:wdsQ (6,n,A,B) ws=ws:=rfl;have e3:bytQ (6,n,A,B) bs=bS n A.toUInt8 bs:=rfl;rw [e1,e2,e3];exact⟨_,Prim.dput n A B h⟩
theorem GE.wh {Γ:Type} {X:Face Try.prog St} {Sp:SpT Γ} {fn:Func} {A:Conf St->Γ × St->Prop} {B:Code} {K:List Item} {tmps:List Value} {h:AHeap} {S:St} {γ:Γ × St} (Inv:Nat->List Value->AHeap->St->Γ × St->Prop) {m:Nat} (h0:Inv m tmps h S γ)
    (step:∀ m tmps h S γ,(∀ m' t' h' S' γ',m'<m->Inv m' t' h' S' γ'->GE X Sp fn A (.run (.inLoop B::K) t' h' S') γ')->Inv m tmps h S γ->Goes X fn (fun c=>GE X Sp fn A c γ) (.run (.code B::.inLoop B::K) tmps h S)):Goes X fn (fun c=>GE X Sp fn A c γ) (.run (.code (.loop B)::K) tmps h S):=by
  refine .ctl rfl ?_;have key:∀ n,∀ m tmps h S γ,m<n->Inv m tmps h S γ->Goes X fn (fun c=>GE X Sp fn A c γ) (.run (.code B::.inLoop B::K) tmps h S):=by
    intro n
    induction n with
    | zero=>intro m _ _ _ _ hm;omega
    | succ n ih =>
      intro m tmps h S γ hm hI;exact step m tmps h S γ (fun m' t' h' S' γ' hm' hI'=>GE.go (.ctl rfl (ih m' t' h' S' γ' (by omega) hI'))) hI
  exact key (m+1) m tmps h S γ (by omega) h0
theorem Goes.again {Γ:Type} {X:Face Try.prog St} {Sp:SpT Γ} {fn:Func} {A:Conf St->Γ × St->Prop} {c:Conf St} {γ:Γ × St} (h:GE X Sp fn A c γ):Goes X fn (fun c=>GE X Sp fn A c γ) c:=.here h
section
variable {G P:Type} {U:Sys G P} {pm n0:Nat} {S0:St}
theorem PI.sub1 {γ:PG G P × St} {l:List (Option Blk)} {q c d:Nat} {S:St} {ws:List UInt64} {bs:List UInt8} {fr:List Row} (H:PI U pm n0 S0 γ l q c S ws bs fr) (hd:d<=c):PI U pm n0 S0 γ l q d S ws bs fr :=
  ⟨H.keep,H.hm,H.inv,H.ll,by have:=H.bud;omega,H.nd,H.frl,H.cold,H.rows,H.thr,H.out,H.busy,H.old,H.pm0,H.len⟩
set_option maxRecDepth 10000 in
theorem zjm (ok:U.Ok) {γ:PG G P × St} {l:List (Option Blk)} {q c:Nat} {S:St} {ws:List UInt64} {bs:List UInt8} {fr:List Row} {c0:Nat} (H:PI U pm n0 S0 γ l q c0 S ws bs fr) {i k:Nat} (hc0:γ.1.pk k=none->c+1<=c0) (hc1:c<=c0) (hi:γ.1.ks[i]?=some k) (hfu:2<=γ.1.fuel) (lim2:Nat) (hlim:∀ p,γ.1.pk k=some p->U.rank ws p.1<=lim2) {Q:Value->AHeap->St->PG G P × St->Prop}
    (hQ:∀ (γ':PG G P × St) (l':List (Option Blk)) (q':Nat) (S':St) (ws':List UInt64) (bs':List UInt8),PI U pm n0 S0 γ' l' q' c S' ws' bs' fr->γ'.1.ks=γ.1.ks->γ.1.fuel - 2<=γ'.1.fuel->(∀ j,j≠k->γ'.1.pk j=γ.1.pk j)->(∀ p',γ'.1.pk k=some p'->U.rank ws' p'.1<lim2)->Q (.tuple #[]) (zaH l' q' []) S' γ') :
    Runs MF (SpM (U.pr pm)) 24 #[hndV pm,hndV k] (zaH l q []) S γ Q:=by
  have hT:=H.thr i k hi;have hql:q<=500000000:=by have:=H.bud;have:=zhj;omega
  cases hp:γ.1.pk k with
  | none =>
    rw [hp] at hT;obtain⟨_,qt,cur,h1⟩:=hT;refine Runs.mk Try.func24 rfl rfl ?_;rw [Try.ntmps24];simp only [List.size_toArray,List.length_cons,List.length_nil,List.replicate,List.cons_append,List.nil_append];refine via ?_;((first|refine qp1 rfl rfl fun K hK=>?_|refine qp3 rfl rfl fun K hK=>?_);simp (disch:=(first|omega|(simp only [sz]<;>omega)|fail)) only [go_sem];(first|refine⟨_,_,.idle h1,?_⟩|refine⟨_,_,.com (.idle h1),?_⟩);(try simp only [go_sem]);with_reducible refine hK _ _ ?_;clear hK K)
    refine via ?_;refine Goes.folds H.ll fun lf hlen hge hrow=>?_;refine Goes.retG rfl (by simp (disch:=(first|omega|(simp only [zaa,List.length_cons,List.length_nil,List.size_toArray,zae]<;>omega)|fail)) only [go_sem,resA,zaJ,Try.results24]<;>rfl) ?_
    refine hQ _ _ _ _ _ _ ⟨H.keep,H.hm,ok.rows H.inv fun n b h _=>hge n b h,Nat.le_of_eq hlen,?_,H.nd,H.frl.ge hge,H.cold,fun k' hk' p' hp'=>⟨(H.rows k' hk' p' hp').1,(H.rows k' hk' p' hp').2.1.ge hge,(H.rows k' hk' p' hp').2.2⟩,H.thr,H.out,H.busy,H.old,H.pm0,H.len⟩ rfl (Nat.sub_le _ _) (fun _ _=>rfl) (fun p' hp'=>?_)
    . have:=H.bud;have:=hc0 hp;simp only [List.length_cons,List.length_nil];omega
    . rw [hp] at hp';cases hp'
  | some p =>
    rw [hp] at hT;obtain⟨_,qt,hpp,gid,dn,pd,wsf,st,ask,gr,hhp,h1,h2,h3⟩:=hT;obtain⟨b,hprim⟩:=zqL (U.acc p.1) H.hm (ok.acc p.1).1 (ok.acc p.1).2;refine Runs.mk Try.func24 rfl rfl ?_;rw [Try.ntmps24];simp only [List.size_toArray,List.length_cons,List.length_nil,List.replicate,List.cons_append,List.nil_append];refine via ?_;((first|refine qp1 rfl rfl fun K hK=>?_|refine qp3 rfl rfl fun K hK=>?_);simp (disch:=(first|omega|(simp only [sz]<;>omega)|fail)) only [go_sem];(first|refine⟨_,_,.pend h1 h2,?_⟩|refine⟨_,_,.com (.pend h1 h2),?_⟩);(try simp only [go_sem]);with_reducible refine hK _ _ ?_;clear hK K)
    simp only [accV];refine via ?_;((first|refine qp1 rfl rfl fun K hK=>?_|refine qp3 rfl rfl fun K hK=>?_);simp (disch:=(first|omega|(simp only [sz]<;>omega)|fail)) only [go_sem];(first|refine⟨_,_,hprim,?_⟩|refine⟨_,_,.com (hprim),?_⟩);(try simp only [go_sem]);with_reducible refine hK _ _ ?_;clear hK K)
    refine via ?_;refine At.folds H.ll fun lf hlen hge hrow=>?_;(refine qs1 rfl rfl fun K hK=>?_;simp (disch:=(first|omega|(simp only [sz]<;>omega)|fail)) only [go_sem])
    refine PI.grant ok (H.sub1 hc1) hi hp hfu (fun n b h _=>hge n b h) (Nat.le_of_eq hlen) (by simp only [List.length_cons,List.length_nil];omega) (H.frl.ge hge) H.cold lim2 (hlim p hp) fun γ' l' q' S' k1 k2 k3 k4 k5 k6=>?_
    ((try simp only [go_sem]);with_reducible refine hK _ _ _ _ ?_;clear hK K)
    refine via ?_;refine Goes.retG rfl (by simp (disch:=(first|omega|(simp only [zaa,List.length_cons,List.length_nil,List.size_toArray,zae]<;>omega)|fail)) only [go_sem,resA,zaJ,Try.results24]<;>rfl) ?_
    exact hQ _ _ _ _ _ _ k1 k2 (by omega) k4 k5
end
theorem bty:zaT Try.prog 39=some false/\zai Try.prog 39=some 1/\zap Try.prog 39=some 8/\zav Try.prog 39=some .nilFunc:=by (repeat' apply And.intro)<;>kernel_rfl
attribute [go_sem] bty
section
variable {G P:Type} {U:Sys G P} {pm n0:Nat} {S0:St}
theorem PI.rowsT {γ:PG G P × St} {l l1:List (Option Blk)} {q q1 c d:Nat} {S:St} {ws:List UInt64} {bs:List UInt8} {fr fr1:List Row} (ok:U.Ok) (H:PI U pm n0 S0 γ l q c S ws bs fr) (hg:∀ (n:Nat) (b:Blk),l[n]?=some (some b)->zei b=false->l1[n]?=some (some b)) (hl1:l1.length<=q1) (hq1:q1+d<=q+c) (hfr:Fr fr1 l1) (hcold:∀ x∈fr1,U.hot x.2=false):PI U pm n0 S0 γ l1 q1 d S ws bs fr1 :=
  ⟨H.keep,H.hm,ok.rows H.inv hg,hl1,by have:=H.bud;omega,H.nd,hfr,hcold,fun k hk p hp=>⟨(H.rows k hk p hp).1,fun x hx=>hg _ _ ((H.rows k hk p hp).2.1 x hx) ((H.rows k hk p hp).2.2 x hx).2,(H.rows k hk p hp).2.2⟩,H.thr,H.out,H.busy,H.old,H.pm0,H.len⟩
theorem PI.sub {γ:PG G P × St} {l:List (Option Blk)} {q c d:Nat} {S:St} {ws:List UInt64} {bs:List UInt8} {fr fr1:List Row} (H:PI U pm n0 S0 γ l q c S ws bs fr) (h:∀ x∈fr1,x∈fr) (hd:d<=c):PI U pm n0 S0 γ l q d S ws bs fr1 :=
  ⟨H.keep,H.hm,H.inv,H.ll,by have:=H.bud;omega,H.nd,fun x hx=>H.frl x (h x hx),fun x hx=>H.cold x (h x hx),H.rows,H.thr,H.out,H.busy,H.old,H.pm0,H.len⟩
theorem PI.idle {γ:PG G P × St} {l:List (Option Blk)} {q c:Nat} {S:St} {ws:List UInt64} {bs:List UInt8} {fr:List Row} (H:PI U pm n0 S0 γ l q c S ws bs fr) {i k:Nat} (hi:γ.1.ks[i]?=some k):∃ (qt:Nat) (cur:Option (Nat × Nat × Nat)) (pe:Option Nat),S[k]?=some (.thr (i:Int) qt false (γ.1.pk k).isSome cur pe):=by
  have:=H.thr i k hi;cases hp:γ.1.pk k with
  | none=>rw [hp] at this;obtain⟨_,qt,cur,h⟩:=this;exact⟨_,_,_,h⟩
  | some p=>rw [hp] at this;obtain⟨_,qt,hpp,gid,dn,pd,w,st,ask,gr,_,h,_⟩:=this;exact⟨_,_,_,h⟩
theorem PI.klt {γ:PG G P × St} {l:List (Option Blk)} {q c:Nat} {S:St} {ws:List UInt64} {bs:List UInt8} {fr:List Row} (H:PI U pm n0 S0 γ l q c S ws bs fr) {k:Nat} (hk:k∈γ.1.ks):k<S.length:=by
  obtain⟨i,hi⟩:=List.getElem?_of_mem hk;obtain⟨_,_,_,h⟩:=H.idle hi;exact zaG h
def thrB (ks:List Nat):Blk:=⟨ks.map hndV,54,false,some 1⟩
def TRow (ks:List Nat) (l:List (Option Blk)) (v:Value) (tr:List Row):Prop:=(ks=[]/\v=.slice none 0 0/\tr=[])\/(ks≠[]/\∃ nt,v=.slice (some ⟨nt,0,none⟩) ks.length ks.length/\tr=[(nt,thrB ks)]/\l[nt]?=some (some (thrB ks)))
theorem TRow.fr {ks:List Nat} {l:List (Option Blk)} {v:Value} {tr fr:List Row} (h:TRow ks l v tr) (hf:Fr fr l):Fr (tr++fr) l:=fun x hx=>by
  rcases List.mem_append.1 hx with hx|hx
  . rcases h with ⟨_,_,rfl⟩|⟨_,nt,_,rfl,h1⟩
    . cases hx
    . simp at hx;subst hx;exact h1
  . exact hf x hx
theorem TRow.back {ks:List Nat} {l l':List (Option Blk)} {v:Value} {tr fr:List Row} (h:TRow ks l v tr) (hf:Fr (tr++fr) l'):TRow ks l' v tr:=by
  rcases h with ⟨h1,h2,rfl⟩|⟨h1,nt,h2,rfl,_⟩
  . exact .inl ⟨h1,h2,rfl⟩
  . exact .inr ⟨h1,nt,h2,rfl,hf (nt,thrB ks) (by simp)⟩
theorem TRow.mine {ks:List Nat} {l:List (Option Blk)} {v:Value} {tr:List Row} (h:TRow ks l v tr):∀ x∈tr,zei x.2=true:=fun x hx=>by
  rcases h with ⟨_,_,rfl⟩|⟨_,nt,_,rfl,_⟩
  . cases hx
  . simp at hx;subst hx;rfl
theorem zjj (ok:U.Ok) {tr fr:List Row} (h:∀ x∈tr,zei x.2=true) (hf:∀ x∈fr,U.hot x.2=false):∀ x∈tr++fr,U.hot x.2=false:=fun x hx=>by
  rcases List.mem_append.1 hx with hx|hx
  . cases hh:U.hot x.2 with
    | false=>rfl
    | true=>have:=ok.hot _ hh;rw [h x hx] at this;cases this
  . exact hf x hx
theorem zlT:AppT Try.prog 53 54 0:=AppT.of (bs:=8) (z:=.pointer none) (by simp only [go_sem]) (by simp only [go_sem]) (by simp only [go_sem]) (by simp only [go_sem]) (by simp [zac,Value.cells])
structure PEnd (U:Sys G P) (pm n0:Nat) (S0:St) (n:Nat) (γ:PG G P × St) (l:List (Option Blk)) (q:Nat) (S:St) (ws:List UInt64) (bs:List UInt8) (fr:List Row):Prop where
  keep:KeepC γ.2 S
  hm:S[pm]?=some (.mem ws bs)
  inv:U.inv γ.1.g ws bs (List.replicate n none) l
  ll:l.length<=q
  ql:q<=500000000
  frl:Fr fr l
  busy:∀ (k:Nat) a b c d e f,S[k]?=some (.thr a b c d e f)->d=false
  old:∀ j,j<n0->j≠pm->S[j]?=S0[j]?
  len:n0<=S.length
set_option maxRecDepth 10000 in
theorem znd (ok:U.Ok) {γ:PG G P × St} {l:List (Option Blk)} {q c:Nat} {S:St} {ws:List UInt64} {bs:List UInt8} {fr:List Row} (H:PI U pm n0 S0 γ l q c S ws bs fr) (h0:γ.1.ks=[]) (hfm:∀ x∈fr,zei x.2=false)
    (bds:List (Nat × Array Value)) {nb:Nat} {BB:Blk} (hnb:(nb,BB)∈fr) (hbb:∀ (j:Nat) b,bds[j]?=some b->BB.cells[j]?=some (.func (.func b.1) #[] b.2))
    {sl:Option Addr} {rc:Nat} (rw':List Nat) (hrw:∀ x∈rw',x<=255) (hrow:rw'≠[]->∃ nr B,sl=some ⟨nr,0,none⟩/\(nr,B)∈fr/\∀ (j x:Nat),rw'[j]?=some x->B.cells[j]?=some (.int .u8 (x:Int)))
    (most:Nat) (hmost:U.most<=most) (hmost2:most<=5000) (hn1:0<bds.length) (hn:bds.length<=20) (hlen:rw'.length<=1000) (hfu:2 * (bds.length+rw'.length+bds.length * (most+1))<=γ.1.fuel) (hc:1000000<=c)
    (hbody:∀ (i:Nat) b,bds[i]?=some b->∀ (k hp:Nat) (γ':PG G P × St) (l':List (Option Blk)) (q':Nat) (S':St) (ws':List UInt64) (bs':List UInt8),BH U pm i k hp (i:Int) 0 (U.most+1) γ' l' q' 1000 S' ws' bs'->γ'.1.ps.length=i+1->γ'.1.ps[i]?=some none->U.born i γ'.1.g ws' bs' γ'.1.ps l'->zfw (U.pr pm) k hp b.1 #[] b.2 (zaH l' q' []) S' γ'.1)
    {Q:Value->AHeap->St->PG G P × St->Prop} (hQ:∀ (γ':PG G P × St) (l':List (Option Blk)) (q':Nat) (S':St) (ws':List UInt64) (bs':List UInt8),PEnd U pm n0 S0 bds.length γ' l' q' S' ws' bs' fr->Q (.bool true) (zaH l' q' []) S' γ') :
    Runs MF (SpM (U.pr pm)) 11 #[hndV pm,.slice (some ⟨nb,0,none⟩) bds.length bds.length,.slice sl rw'.length rc,.int .i64 (most:Int)] (zaH l q []) S γ Q:=by
  refine Runs.mk Try.func11 rfl rfl ?_;rw [Try.ntmps11];simp only [List.size_toArray,List.length_cons,List.length_nil,List.replicate,List.cons_append,List.nil_append];refine via ?_;obtain⟨n,hnn⟩:∃ n,n=bds.length:=⟨_,rfl⟩;rw [<-hnn] at hn1 hn hfu hQ ⊢;have hfu':2 * n+2 * rw'.length+2 * n * (most+1)<=γ.1.fuel:=by
    have e:2 * (n+rw'.length+n * (most+1))=2 * n+2 * rw'.length+2 * n * (most+1):=by rw [Nat.mul_add,Nat.mul_add,Nat.mul_assoc]
    omega
  refine GE.wh (fun z tmps h S γ=>∃ (i:Nat) (l:List (Option Blk)) (q:Nat) (ws:List UInt64) (bs:List UInt8) (v:Value) (tr:List Row),z=n - i/\i<=n/\h=zaH l q []/\PI U pm n0 S0 γ l q (900000+10 * (n - i)) S ws bs fr/\γ.1.ks.length=i/\TRow γ.1.ks l v tr/\2 * (n - i)+2 * rw'.length+2 * n * (most+1)<=γ.1.fuel/\tmps.length=106 /\
      tmps.getD 0 undef=hndV pm/\tmps.getD 1 undef=.slice (some ⟨nb,0,none⟩) n n/\tmps.getD 2 undef=.slice sl rw'.length rc/\tmps.getD 3 undef=.int .i64 (most:Int)/\tmps.getD 9 undef=v/\tmps.getD 10 undef=.int .i64 (i:Int)) (m:=n)
    ⟨0,l,q,ws,bs,.slice none 0 0,[],rfl,by omega,rfl,H.sub (fun _ h=>h) (by omega),by rw [h0];rfl,.inl ⟨h0,rfl,rfl⟩,by rw [Nat.sub_zero];exact hfu',rfl,rfl,rfl,rfl,rfl,rfl,rfl⟩ ?_
  rintro z tmps h S γ ih ⟨i,l,q,ws,bs,v,tr,rfl,hi,rfl,H,hks,hT,hfu,hl,f0,f1,f2,f3,f9,f10⟩;have hql:q<=500000000:=by have:=H.bud;have:=zhj;omega
  obtain⟨V,hV,hT⟩:=zcV hl;replace hT:_=([V 0,V 1,V 2,V 3,V 4,V 5,V 6,V 7,V 8,V 9,V 10,V 11,V 12,V 13,V 14,V 15,V 16,V 17,V 18,V 19,V 20,V 21,V 22,V 23,V 24,V 25,V 26,V 27,V 28,V 29,V 30,V 31,V 32,V 33,V 34,V 35,V 36,V 37,V 38,V 39,V 40,V 41,V 42,V 43,V 44,V 45,V 46,V 47,V 48,V 49,V 50,V 51,V 52,V 53,V 54,V 55,V 56,V 57,V 58,V 59,V 60,V 61,V 62,V 63,V 64,V 65,V 66,V 67,V 68,V 69,V 70,V 71,V 72,V 73,V 74,V 75,V 76,V 77,V 78,V 79,V 80,V 81,V 82,V 83,V 84,V 85,V 86,V 87,V 88,V 89,V 90,V 91,V 92,V 93,V 94,V 95,V 96,V 97,V 98,V 99,V 100,V 101,V 102,V 103,V 104,V 105]:List Value):=hT;rw [hV] at f0 f1 f2 f3 f9 f10;subst hT;simp only [f0,f1,f2,f3,f9,f10];clear hV hl;by_cases hin:i<n
  case pos =>
    refine via ?_;(refine qs1 rfl rfl fun K hK=>?_;simp (disch:=(first|omega|(simp only [sz]<;>omega)|fail)) only [go_sem])
    refine .inl ⟨(i:Int),rfl,rfl,H.keep,fun qc=>?_⟩
    ((try simp only [go_sem]);with_reducible refine hK _ _ _ _ ?_;clear hK K)
    have hbs:∃ b,bds[i]?=some b:=⟨_,List.getElem?_eq_getElem (by omega)⟩
    obtain⟨b,hb⟩:=hbs;have hcell:BB.cells[i * 1]?=some (.func (.func b.1) #[] b.2):=by rw [Nat.mul_one];exact hbb i b hb
    have hnbl:l[nb]?=some (some BB):=H.frl _ hnb;have hnq:nb<q:=Nat.lt_of_lt_of_le (List.getElem?_eq_some_iff.1 hnbl).1 H.ll;have H1:=H.new (i:Int) qc;refine viaF (And.intro hnbl hcell) ?_;(refine qs1 rfl rfl fun K hK=>?_;simp (disch:=(first|omega|(simp only [sz]<;>omega)|fail)) only [go_sem])
    refine PI.start ok H1 (i:=i) (qt:=qc) (by simp) (fun hm=>Nat.lt_irrefl _ (H.klt hm)) H.len hks.symm (by show 2<=γ.1.fuel;omega) (fun _ _ h _=>h) H.ll (by omega) (hT.fr H.frl) (zjj ok hT.mine H.cold) (fun hp γ' S' hB hl hn hb'=>hbody i b hb S.length hp γ' l q S' ws bs hB hl hn hb') fun γ' l' q' S' H2 hks2 hfu2 hqq=>?_
    have hks2:γ'.1.ks=γ.1.ks++[S.length]:=hks2;have hfu2:γ'.1.fuel=γ.1.fuel - 2:=hfu2;have hql':q'<=500000000:=by have:=H2.bud;have:=zhj;omega
    ((try simp only [go_sem]);with_reducible refine hK _ _ _ _ ?_;clear hK K)
    refine via ?_;have hT2:=hT.back H2.frl;have hmine:=hT.mine;rcases hT2 with ⟨e1,e2,e3⟩|⟨e1,nt,e2,e3,hnt⟩
    . subst e2 e3;(refine At.appE rfl rfl rfl rfl (zg1 zlT (zfq 0 rfl rfl (by decide)) (by decide) (by decide)) (by simp (disch:=(first|omega|(simp only [sz]<;>omega)|fail)) only [go_sem];(try simp only [sz]);unfold VB;omega) fun K hK=>?_;simp (disch:=(first|omega|(simp only [sz]<;>omega)|fail)) only [go_sem];with_reducible refine hK _ _ ?_;clear hK K)
      refine via ?_;refine Goes.folds H2.ll fun lf hlf hge hrow=>?_;have hks3:γ'.1.ks=[S.length]:=by rw [hks2,e1];rfl
      refine Goes.again (ih (n - (i+1)) _ _ _ _ (by omega) ⟨i+1,lf,_,ws,bs,.slice (some ⟨q'+1,0,none⟩) 1 1,[(q'+1,thrB [S.length])],rfl,by omega,rfl,(H2.sub (fun _ h=>h) (Nat.le_refl _)).rowsT ok (fun x y h _=>hge x y h) (Nat.le_of_eq hlf) (by simp only [List.length_cons,List.length_nil];omega) (H2.frl.ge hge) H2.cold,by rw [hks3,<-hks,e1];rfl,.inr ⟨by rw [hks3];simp,_,by rw [hks3];rfl,by rw [hks3],by rw [hks3];exact hrow 1⟩,by omega,rfl,rfl,rfl,rfl,rfl,rfl,rfl⟩)
    . subst e2 e3;have hntl:=(List.getElem?_eq_some_iff.1 hnt).1;have hntq:nt<q':=Nat.lt_of_lt_of_le (List.getElem?_eq_some_iff.1 hnt).1 H2.ll;have hkg:∀ ys,(zaH l' q' ys).get nt=some ⟨γ.1.ks.map hndV,54,false,some 1⟩:=fun ys=>by
        rw [zge (by omega),hnt];rfl
      (refine At.appE rfl rfl rfl rfl (zli zlT (hkg _) rfl rfl (by rw [List.length_map,Nat.zero_add,Nat.mul_one]) (zfq 0 rfl rfl (by decide)) rfl (by decide) (by omega)) (by simp (disch:=(first|omega|(simp only [sz]<;>omega)|fail)) only [go_sem];(try simp only [sz]);unfold VB;omega) fun K hK=>?_;simp (disch:=(first|omega|(simp only [sz]<;>omega)|fail)) only [go_sem];with_reducible refine hK _ _ ?_;clear hK K);refine via ?_
      refine Goes.folds (by rw [List.length_set];exact H2.ll) fun lf hlf hge hrow=>?_
      have hgm:∀ (x:Nat) (y:Blk),l'[x]?=some (some y)->zei y=false->lf[x]?=some (some y):=fun x y h hm=>hge x y (by
        rw [List.getElem?_set_ne fun e=>?_]
        . exact h
        . subst e;rw [hnt] at h;cases h;cases hm)
      refine Goes.again (ih (n - (i+1)) _ _ _ _ (by omega) ⟨i+1,lf,_,ws,bs,.slice (some ⟨q'+1,0,none⟩) (γ.1.ks.length+1) (γ.1.ks.length+1),[(q'+1,thrB (γ.1.ks++[S.length]))],rfl,by omega,rfl,H2.rowsT ok hgm (Nat.le_of_eq hlf) (by simp only [List.length_cons,List.length_nil];omega) (fun x hx=>hgm _ _ (H2.frl x (List.mem_append_right _ hx)) (hfm x hx)) (fun x hx=>H2.cold x (List.mem_append_right _ hx)),by rw [hks2];simp [hks],.inr ⟨by rw [hks2];simp,q'+1,by rw [hks2];simp,by rw [hks2],by rw [hks2];refine (hrow 1).trans ?_;simp [thrB]⟩,by omega,rfl,rfl,rfl,rfl,rfl,rfl,by push_cast;rfl⟩)
  obtain rfl:i=n:=by omega
  refine via ?_;have hksn:γ.1.ks.length=i:=hks;rcases hT with ⟨e1,_⟩|⟨e1,nt,rfl,rfl,hnt⟩
  . rw [e1] at hks;simp at hks;omega
  rw [hks];clear ih;refine GE.wh (fun z tmps h S γ=>∃ (j:Nat) (l:List (Option Blk)) (q:Nat) (ws:List UInt64) (bs:List UInt8) (ks:List Nat),z=rw'.length - j/\j<=rw'.length/\h=zaH l q []/\γ.1.ks=ks/\ks.length=i/\PI U pm n0 S0 γ l q (800000+(rw'.length - j)) S ws bs ((nt,thrB ks)::fr)/\2 * (rw'.length - j)+2 * i * (most+1)<=γ.1.fuel/\tmps.length=106 /\
      tmps.getD 0 undef=hndV pm/\tmps.getD 2 undef=.slice sl rw'.length rc/\tmps.getD 3 undef=.int .i64 (most:Int)/\tmps.getD 9 undef=.slice (some ⟨nt,0,none⟩) i i/\tmps.getD 12 undef=.int .i64 (j:Int)) (m:=rw'.length)
    ⟨0,l,q,ws,bs,γ.1.ks,rfl,by omega,rfl,rfl,hks,⟨H.keep,H.hm,H.inv,H.ll,by have:=H.bud;omega,H.nd,Fr.cons hnt H.frl,fun x hx=>?_,H.rows,H.thr,H.out,H.busy,H.old,H.pm0,H.len⟩,by omega,rfl,rfl,rfl,rfl,rfl,rfl⟩ ?_
  . rcases List.mem_cons.1 hx with rfl|hx
    . exact zjj ok (tr:=[(nt,thrB γ.1.ks)]) (fr:=fr) (fun x hx=>by simp at hx;subst hx;rfl) H.cold _ (List.mem_append_left _ (List.mem_singleton.2 rfl))
    . exact H.cold x hx
  clear hnt hfu hfu' H;rintro z tmps h S γ ih ⟨j,l,q,ws,bs,ks,rfl,hj,rfl,rfl,hks,H,hfu,hl,f0,f2,f3,f9,f12⟩;have hql:q<=500000000:=by have:=H.bud;have:=zhj;omega
  obtain⟨V,hV,hT⟩:=zcV hl;replace hT:_=([V 0,V 1,V 2,V 3,V 4,V 5,V 6,V 7,V 8,V 9,V 10,V 11,V 12,V 13,V 14,V 15,V 16,V 17,V 18,V 19,V 20,V 21,V 22,V 23,V 24,V 25,V 26,V 27,V 28,V 29,V 30,V 31,V 32,V 33,V 34,V 35,V 36,V 37,V 38,V 39,V 40,V 41,V 42,V 43,V 44,V 45,V 46,V 47,V 48,V 49,V 50,V 51,V 52,V 53,V 54,V 55,V 56,V 57,V 58,V 59,V 60,V 61,V 62,V 63,V 64,V 65,V 66,V 67,V 68,V 69,V 70,V 71,V 72,V 73,V 74,V 75,V 76,V 77,V 78,V 79,V 80,V 81,V 82,V 83,V 84,V 85,V 86,V 87,V 88,V 89,V 90,V 91,V 92,V 93,V 94,V 95,V 96,V 97,V 98,V 99,V 100,V 101,V 102,V 103,V 104,V 105]:List Value):=hT;rw [hV] at f0 f2 f3 f9 f12;subst hT;simp only [f0,f2,f3,f9,f12];clear hV hl;have hnt:l[nt]?=some (some (thrB γ.1.ks)):=H.frl (nt,thrB γ.1.ks) List.mem_cons_self;have hntq:nt<q:=Nat.lt_of_lt_of_le (List.getElem?_eq_some_iff.1 hnt).1 H.ll;by_cases hjn:j<rw'.length
  case pos =>
    obtain⟨x,hx⟩:∃ x,rw'[j]?=some x:=⟨_,List.getElem?_eq_getElem hjn⟩;obtain⟨nr,B,rfl,hB,hcells⟩:=hrow (fun e=>by rw [e] at hjn;simp at hjn)
    have hBl:l[nr]?=some (some B):=H.frl _ (List.mem_cons_of_mem _ hB);have hBq:nr<q:=Nat.lt_of_lt_of_le (List.getElem?_eq_some_iff.1 hBl).1 H.ll;have hxc:B.cells[j * 1]?=some (.int .u8 (x:Int)):=by rw [Nat.mul_one];exact hcells j x hx
    have hx8:=hrw x (List.mem_of_getElem? hx);have hxi:x % i<i:=Nat.mod_lt _ (by omega)
    have et:(x:Int).tmod (i:Int)=((x % i:Nat):Int):=zoB x i;obtain⟨k,hk⟩:∃ k,γ.1.ks[x % i]?=some k:=⟨_,List.getElem?_eq_getElem (by omega)⟩
    have hnt2:l[nt]?=some (some ⟨γ.1.ks.map hndV,54,false,some 1⟩):=hnt;have hkc:(γ.1.ks.map hndV)[x % i * 1]?=some (hndV k):=by rw [Nat.mul_one];simp [hk]
    generalize hm:x % i=m at hxi et hk hkc;refine viaF (And.intro hBl (And.intro hxc (And.intro et (And.intro hnt2 hkc)))) ?_;(refine qg1 rfl rfl fun K hK=>?_;simp (disch:=(first|omega|(simp only [sz]<;>omega)|fail)) only [go_sem])
    refine zjm ok (c:=800000+(rw'.length - (j+1))) H (fun _=>by omega) (by omega) hk (by omega) U.most (fun p hp=>(ok.rank (i:=m) H.inv (by rw [zqT hk,hp];rfl)).2) fun γ' l' q' S' ws' bs' k1 k2 k3 k4 k5=>?_
    ((try simp only [go_sem]);with_reducible refine hK _ _ _ _ ?_;clear hK K)
    refine via ?_;refine Goes.again (ih (rw'.length - (j+1)) _ _ _ _ (by omega) ⟨j+1,l',q',ws',bs',γ'.1.ks,rfl,by omega,rfl,rfl,by rw [k2];exact hks,by rw [k2];exact k1,by omega,rfl,rfl,rfl,rfl,rfl,by push_cast;rfl⟩)
  obtain rfl:j=rw'.length:=by omega
  refine via ?_;clear ih;have hrk:∀ {γ:PG G P × St} {l:List (Option Blk)} {q c:Nat} {S:St} {ws:List UInt64} {bs:List UInt8} {fr:List Row} {m k:Nat} {p:P × Nat × List Row},PI U pm n0 S0 γ l q c S ws bs fr->γ.1.ks[m]?=some k->γ.1.pk k=some p->1<=U.rank ws p.1/\U.rank ws p.1<=U.most:=fun {γ l q c S ws bs fr m k p} H hk hp=>ok.rank (i:=m) H.inv (by rw [zqT hk,hp];rfl)
  refine GE.wh (fun z tmps h S γ=>∃ (j:Nat) (l:List (Option Blk)) (q:Nat) (ws:List UInt64) (bs:List UInt8) (ks:List Nat),z=i - j/\j<=i/\h=zaH l q []/\γ.1.ks=ks/\ks.length=i/\PI U pm n0 S0 γ l q 700000 S ws bs ((nt,thrB ks)::fr)/\(∀ (x k:Nat),x<j->ks[x]?=some k->γ.1.pk k=none)/\2 * ((i - j) * (most+1))<=γ.1.fuel/\tmps.length=106 /\
      tmps.getD 0 undef=hndV pm/\tmps.getD 3 undef=.int .i64 (most:Int)/\tmps.getD 9 undef=.slice (some ⟨nt,0,none⟩) i i/\tmps.getD 13 undef=.bool true/\tmps.getD 14 undef=.int .i64 (j:Int)) (m:=i)
    ⟨0,l,q,ws,bs,γ.1.ks,rfl,by omega,rfl,rfl,hks,H.sub1 (by omega),fun _ _ h=>by omega,by rw [Nat.sub_zero,<-Nat.mul_assoc];omega,rfl,rfl,rfl,rfl,rfl,rfl⟩ ?_
  clear hnt hfu hntq hql H;rintro z tmps h S γ ih ⟨j,l,q,ws,bs,ks,rfl,hj,rfl,rfl,hks,H,hno,hfu,hl,f0,f3,f9,f13,f14⟩;have hql:q<=500000000:=by have:=H.bud;have:=zhj;omega
  obtain⟨V,hV,hT⟩:=zcV hl;replace hT:_=([V 0,V 1,V 2,V 3,V 4,V 5,V 6,V 7,V 8,V 9,V 10,V 11,V 12,V 13,V 14,V 15,V 16,V 17,V 18,V 19,V 20,V 21,V 22,V 23,V 24,V 25,V 26,V 27,V 28,V 29,V 30,V 31,V 32,V 33,V 34,V 35,V 36,V 37,V 38,V 39,V 40,V 41,V 42,V 43,V 44,V 45,V 46,V 47,V 48,V 49,V 50,V 51,V 52,V 53,V 54,V 55,V 56,V 57,V 58,V 59,V 60,V 61,V 62,V 63,V 64,V 65,V 66,V 67,V 68,V 69,V 70,V 71,V 72,V 73,V 74,V 75,V 76,V 77,V 78,V 79,V 80,V 81,V 82,V 83,V 84,V 85,V 86,V 87,V 88,V 89,V 90,V 91,V 92,V 93,V 94,V 95,V 96,V 97,V 98,V 99,V 100,V 101,V 102,V 103,V 104,V 105]:List Value):=hT;rw [hV] at f0 f3 f9 f13 f14;subst hT;simp only [f0,f3,f9,f13,f14];clear hV hl;by_cases hji:j<i
  case pos =>
    refine via ?_;obtain⟨k0,hk0⟩:∃ k,γ.1.ks[j]?=some k:=⟨_,List.getElem?_eq_getElem (by omega)⟩
    have efu:(i - j) * (most+1)=(i - (j+1)) * (most+1)+(most+1):=by rw [<-Nat.succ_mul];congr 1;omega
    refine GE.wh (fun z tmps h S γ=>∃ (x:Nat) (l:List (Option Blk)) (q:Nat) (ws:List UInt64) (bs:List UInt8) (ks:List Nat),z=most - x/\x<=most/\h=zaH l q []/\γ.1.ks=ks/\ks.length=i/\ks[j]?=some k0/\PI U pm n0 S0 γ l q 700000 S ws bs ((nt,thrB ks)::fr)/\(∀ (x k:Nat),x<j->ks[x]?=some k->γ.1.pk k=none)/\(∀ p,γ.1.pk k0=some p->x+U.rank ws p.1<=most)/\2 * ((i - (j+1)) * (most+1))+2 * (most+1 - x)<=γ.1.fuel/\tmps.length=106 /\
        tmps.getD 0 undef=hndV pm/\tmps.getD 3 undef=.int .i64 (most:Int)/\tmps.getD 9 undef=.slice (some ⟨nt,0,none⟩) i i/\tmps.getD 13 undef=.bool true/\tmps.getD 14 undef=.int .i64 (j:Int)/\tmps.getD 15 undef=.int .i64 (x:Int)) (m:=most)
      ⟨0,l,q,ws,bs,γ.1.ks,rfl,by omega,rfl,rfl,hks,hk0,H,hno,fun p hp=>by have:=(hrk H hk0 hp).2;omega,by omega,rfl,rfl,rfl,rfl,rfl,rfl,rfl⟩ ?_
    clear hfu hno H hql hks hk0;rintro z tmps h S γ ih2 ⟨x,l,q,ws,bs,ks,rfl,hx,rfl,rfl,hks,hk0,H,hno,hra,hfu,hl,f0,f3,f9,f13,f14,f15⟩;have hql:q<=500000000:=by have:=H.bud;have:=zhj;omega
    obtain⟨V,hV,hT⟩:=zcV hl;replace hT:_=([V 0,V 1,V 2,V 3,V 4,V 5,V 6,V 7,V 8,V 9,V 10,V 11,V 12,V 13,V 14,V 15,V 16,V 17,V 18,V 19,V 20,V 21,V 22,V 23,V 24,V 25,V 26,V 27,V 28,V 29,V 30,V 31,V 32,V 33,V 34,V 35,V 36,V 37,V 38,V 39,V 40,V 41,V 42,V 43,V 44,V 45,V 46,V 47,V 48,V 49,V 50,V 51,V 52,V 53,V 54,V 55,V 56,V 57,V 58,V 59,V 60,V 61,V 62,V 63,V 64,V 65,V 66,V 67,V 68,V 69,V 70,V 71,V 72,V 73,V 74,V 75,V 76,V 77,V 78,V 79,V 80,V 81,V 82,V 83,V 84,V 85,V 86,V 87,V 88,V 89,V 90,V 91,V 92,V 93,V 94,V 95,V 96,V 97,V 98,V 99,V 100,V 101,V 102,V 103,V 104,V 105]:List Value):=hT;rw [hV] at f0 f3 f9 f13 f14 f15;subst hT;simp only [f0,f3,f9,f13,f14,f15];clear hV hl;have hnt:l[nt]?=some (some ⟨γ.1.ks.map hndV,54,false,some 1⟩):=H.frl (nt,thrB γ.1.ks) List.mem_cons_self;have hntq:nt<q:=Nat.lt_of_lt_of_le (List.getElem?_eq_some_iff.1 hnt).1 H.ll;have hkc:(γ.1.ks.map hndV)[j * 1]?=some (hndV k0):=by rw [Nat.mul_one];simp [hk0]
    obtain⟨qt,cur,pe,hS⟩:=H.idle hk0;cases hp:γ.1.pk k0 with
    | none =>
      rw [hp] at hS;have hno2:∀ (y k:Nat),y<j+1->γ.1.ks[y]?=some k->γ.1.pk k=none:=fun y k hy hk=>by
        by_cases e:y=j
        . subst e;rw [hk0] at hk;cases hk;exact hp
        . exact hno y k (by omega) hk
      by_cases hxm:x<most
      . refine viaF (And.intro hnt hkc) ?_;((first|refine qp1 rfl rfl fun K hK=>?_|refine qp3 rfl rfl fun K hK=>?_);simp (disch:=(first|omega|(simp only [sz]<;>omega)|fail)) only [go_sem];(first|refine⟨_,_,.busy hS,?_⟩|refine⟨_,_,.com (.busy hS),?_⟩);(try simp only [go_sem]);with_reducible refine hK _ _ ?_;clear hK K)
        refine viaF (And.intro hnt hkc) ?_;((first|refine qp1 rfl rfl fun K hK=>?_|refine qp3 rfl rfl fun K hK=>?_);simp (disch:=(first|omega|(simp only [sz]<;>omega)|fail)) only [go_sem];(first|refine⟨_,_,.busy hS,?_⟩|refine⟨_,_,.com (.busy hS),?_⟩);(try simp only [go_sem]);with_reducible refine hK _ _ ?_;clear hK K)
        refine viaF (And.intro hnt hkc) ?_;refine Goes.again (ih (i - (j+1)) _ _ _ _ (by omega) ⟨j+1,l,q,ws,bs,γ.1.ks,rfl,by omega,rfl,rfl,hks,H,hno2,by omega,rfl,rfl,rfl,rfl,rfl,by push_cast;rfl⟩)
      . refine viaF (And.intro hnt hkc) ?_;((first|refine qp1 rfl rfl fun K hK=>?_|refine qp3 rfl rfl fun K hK=>?_);simp (disch:=(first|omega|(simp only [sz]<;>omega)|fail)) only [go_sem];(first|refine⟨_,_,.busy hS,?_⟩|refine⟨_,_,.com (.busy hS),?_⟩);(try simp only [go_sem]);with_reducible refine hK _ _ ?_;clear hK K)
        refine viaF (And.intro hnt hkc) ?_;refine Goes.again (ih (i - (j+1)) _ _ _ _ (by omega) ⟨j+1,l,q,ws,bs,γ.1.ks,rfl,by omega,rfl,rfl,hks,H,hno2,by omega,rfl,rfl,rfl,rfl,rfl,by push_cast;rfl⟩)
    | some p =>
      rw [hp] at hS;have h1:=hra p hp;have h2:=hrk H hk0 hp;have hxm:x<most:=by omega
      refine viaF (And.intro hnt hkc) ?_;((first|refine qp1 rfl rfl fun K hK=>?_|refine qp3 rfl rfl fun K hK=>?_);simp (disch:=(first|omega|(simp only [sz]<;>omega)|fail)) only [go_sem];(first|refine⟨_,_,.busy hS,?_⟩|refine⟨_,_,.com (.busy hS),?_⟩);(try simp only [go_sem]);with_reducible refine hK _ _ ?_;clear hK K)
      refine viaF (And.intro hnt hkc) ?_;(refine qg1 rfl rfl fun K hK=>?_;simp (disch:=(first|omega|(simp only [sz]<;>omega)|fail)) only [go_sem])
      refine zjm ok (c:=700000) H (fun hn=>by rw [hp] at hn;cases hn) (by omega) hk0 (by omega) (U.rank ws p.1) (fun p' hp'=>by rw [hp] at hp';cases hp';exact Nat.le_refl _) fun γ' l' q' S' ws' bs' k1 k2 k3 k4 k5=>?_
      ((try simp only [go_sem]);with_reducible refine hK _ _ _ _ ?_;clear hK K)
      refine via ?_;refine Goes.again (ih2 (most - (x+1)) _ _ _ _ (by omega) ⟨x+1,l',q',ws',bs',γ'.1.ks,rfl,by omega,rfl,rfl,by rw [k2];exact hks,by rw [k2];exact hk0,by rw [k2];exact k1,fun y k hy hk=>?_,fun p' hp'=>by have:=k5 p' hp';omega,by omega,rfl,rfl,rfl,rfl,rfl,rfl,by push_cast;rfl⟩)
      rw [k2] at hk;rw [k4 k fun e=>?_]
      . exact hno y k hy hk
      . subst e;have:=zo1 H.nd hk hk0;omega
  obtain rfl:j=i:=by omega
  refine via ?_;clear ih hrk;have hbusy:∀ (k:Nat) a b c d e f,S[k]?=some (.thr a b c d e f)->d=false:=fun k a b c d e f h=>by
    cases d with
    | false=>rfl
    | true =>
      obtain⟨x,hx⟩:=List.getElem?_of_mem (H.busy _ _ _ _ _ _ h);have hlt:=(List.getElem?_eq_some_iff.1 hx).1;obtain⟨qt,cur,pe,h2⟩:=H.idle hx;rw [hno x k (by omega) hx] at h2
      rw [h] at h2;cases h2
  have hidle:∀ (x k:Nat),γ.1.ks[x]?=some k->∃ qt cur,S[k]?=some (.thr (x:Int) qt false false cur none):=fun x k hx=>by
    have hlt:=(List.getElem?_eq_some_iff.1 hx).1;have:=H.thr x k hx;rw [hno x k (by omega) hx] at this
    obtain⟨_,qt,cur,h⟩:=this;exact⟨qt,cur,h⟩
  have hk0:∀ k∈γ.1.ks,n0<=k:=fun k hk=>by
    obtain⟨x,hx⟩:=List.getElem?_of_mem hk;have:=H.thr x k hx;rw [hno x k (by have:=(List.getElem?_eq_some_iff.1 hx).1;omega) hx] at this
    exact this.1
  have hps:γ.1.ps=List.replicate j none:=by
    rw [<-hks];refine List.eq_replicate_iff.2 ⟨by simp [PG.ps],fun y hy=>?_⟩
    obtain⟨k,hk,rfl⟩:=List.mem_map.1 hy;obtain⟨x,hx⟩:=List.getElem?_of_mem hk;rw [hno x k (by have:=(List.getElem?_eq_some_iff.1 hx).1;omega) hx];rfl
  have hnt:l[nt]?=some (some ⟨γ.1.ks.map hndV,54,false,some 1⟩):=H.frl (nt,thrB γ.1.ks) List.mem_cons_self;have hntq:nt<q:=Nat.lt_of_lt_of_le (List.getElem?_eq_some_iff.1 hnt).1 H.ll;refine GE.wh (fun z tmps h S' γ'=>∃ m:Nat,z=j - m/\m<=j/\h=zaH l q []/\γ'.1=γ.1/\KeepC γ'.2 S'/\S'[pm]?=some (.mem ws bs)/\(∀ (x k:Nat),m<=x->γ.1.ks[x]?=some k->∃ qt cur,S'[k]?=some (.thr (x:Int) qt false false cur none))/\(∀ (k:Nat) a b c d e f,S'[k]?=some (.thr a b c d e f)->d=false)/\(∀ x,x<n0->x≠pm->S'[x]?=S0[x]?)/\n0<=S'.length/\tmps.length=106 /\
      tmps.getD 9 undef=.slice (some ⟨nt,0,none⟩) j j/\tmps.getD 13 undef=.bool true/\tmps.getD 16 undef=.int .i64 (m:Int)) (m:=j)
    ⟨0,rfl,by omega,rfl,rfl,H.keep,H.hm,fun x k _ hx=>hidle x k hx,hbusy,H.old,H.len,rfl,rfl,rfl,rfl⟩ ?_
  rintro z tmps h S' γ' ih ⟨m,rfl,hm,rfl,hγ,c1,c2,c3,c4,c5,c6,hl,f9,f13,f16⟩;obtain⟨V,hV,hT⟩:=zcV hl;replace hT:_=([V 0,V 1,V 2,V 3,V 4,V 5,V 6,V 7,V 8,V 9,V 10,V 11,V 12,V 13,V 14,V 15,V 16,V 17,V 18,V 19,V 20,V 21,V 22,V 23,V 24,V 25,V 26,V 27,V 28,V 29,V 30,V 31,V 32,V 33,V 34,V 35,V 36,V 37,V 38,V 39,V 40,V 41,V 42,V 43,V 44,V 45,V 46,V 47,V 48,V 49,V 50,V 51,V 52,V 53,V 54,V 55,V 56,V 57,V 58,V 59,V 60,V 61,V 62,V 63,V 64,V 65,V 66,V 67,V 68,V 69,V 70,V 71,V 72,V 73,V 74,V 75,V 76,V 77,V 78,V 79,V 80,V 81,V 82,V 83,V 84,V 85,V 86,V 87,V 88,V 89,V 90,V 91,V 92,V 93,V 94,V 95,V 96,V 97,V 98,V 99,V 100,V 101,V 102,V 103,V 104,V 105]:List Value):=hT;rw [hV] at f9 f13 f16;subst hT;simp only [f9,f13,f16];clear hV hl;by_cases hmj:m<j
  case pos =>
    obtain⟨k0,hk2⟩:∃ k,γ.1.ks[m]?=some k:=⟨_,List.getElem?_eq_getElem (by omega)⟩
    have hkc:(γ.1.ks.map hndV)[m * 1]?=some (hndV k0):=by rw [Nat.mul_one];simp [hk2]
    obtain⟨qt,cur,hS⟩:=c3 m k0 (Nat.le_refl _) hk2;have hkl:=zaG hS;have hkn:=hk0 k0 (List.mem_of_getElem? hk2);refine viaF (And.intro hnt hkc) ?_;(refine qs1 rfl rfl fun K hK=>?_;simp (disch:=(first|omega|(simp only [sz]<;>omega)|fail)) only [go_sem])
    refine .inr (.inr (.inr ⟨k0,qt,(m:Int),cur,none,rfl,rfl,c1,hS,?_⟩))
    ((try simp only [go_sem]);with_reducible refine hK _ _ _ _ ?_;clear hK K)
    refine via ?_;refine Goes.again (ih (j - (m+1)) _ _ _ _ (by omega) ⟨m+1,rfl,by omega,rfl,hγ,KeepC.refl _,?_,fun x k hx hk=>?_,fun k a b c d e f h=>?_,fun x hx hxp=>?_,by simpa using c6,rfl,rfl,rfl,by push_cast;rfl⟩)
    . rw [List.getElem?_set_ne fun e=>?_]
      . exact c2
      . subst e;rw [hS] at c2;cases c2
    . rw [List.getElem?_set_ne fun e=>?_]
      . exact c3 x k (by omega) hk
      . subst e;have:=zo1 H.nd hk hk2;omega
    . by_cases e2:k0=k
      . subst e2;rw [List.getElem?_set_self hkl] at h;cases h;rfl
      . rw [List.getElem?_set_ne e2] at h;exact c4 _ _ _ _ _ _ _ h
    . rw [List.getElem?_set_ne (by omega)]
      exact c5 x hx hxp
  refine via ?_;refine Goes.retG rfl (by simp (disch:=(first|omega|(simp only [zaa,List.length_cons,List.length_nil,List.size_toArray,zae]<;>omega)|fail)) only [go_sem,resA,zaJ,Try.results11]<;>rfl) ?_
  exact hQ _ _ _ _ _ _ ⟨c1,c2,by rw [hγ,<-hps];exact H.inv,H.ll,hql,fun x hx=>H.frl x (List.mem_cons_of_mem _ hx),c4,c5,c6⟩
end
end Go.Proofs.Ytjhmhoapgbfgpaa
namespace Go.Proofs.Ytjhmhoapgbfgpaa
open Go Go.RowKit
theorem ld_w {ws:List UInt64} {n:Int} {x:UInt64} (h:wAt ws n=some x):wT 1 n 0 ws=x:=by unfold wT;rw [h];rfl
theorem zts {c:Nat} {n:Int} {A B x:UInt64} {ws:List UInt64} (h:wAt ws n=some x) (m:Int):wAt (wS c n A B ws) m=if m=n then some (kNow c x A B) else wAt ws m:=by
  have hs:wS c n A B ws=ws.set n.toNat (kNow c x A B):=by unfold wS;rw [h]
  rw [hs];unfold wAt at h ⊢;by_cases hn:n<0
  . rw [if_pos hn] at h;cases h
  rw [if_neg hn] at h;have hlt:=(List.getElem?_eq_some_iff.1 h).1;by_cases e:m=n
  . subst e;rw [if_neg hn,if_pos rfl,List.getElem?_set_self hlt]
  . rw [if_neg e];by_cases hm:m<0
    . rw [if_pos hm,if_pos hm]
    . rw [if_neg hm,if_neg hm,List.getElem?_set_ne (by omega)]
theorem zi4 {N T r:Nat} (hN:1<=N):gb N T (r+1)=gb N T r+gsz N T r:=by rw [zo3,if_neg (by omega)]
theorem zos {N T r n:Nat} (hN:1<=N) (h:n<gsz N T r):gat N T r n=((gb N T r+n:Nat):Int):=by
  rw [zcb N T r (by omega) (by rw [zi4 hN];omega)];push_cast;rfl
theorem zgx {N T:Nat}:∀ {r r':Nat},r<=r'->gb N T r<=gb N T r'
  | r,0,h=>by
    obtain rfl:r=0:=by omega
    exact Nat.le_refl _
  | r,r'+1,h=>by
    by_cases e:r=r'+1
    . rw [e];exact Nat.le_refl _
    . exact Nat.le_trans (zgx (by omega)) (zrA N T r')
theorem zst {N T r n r' n':Nat} (hN:1<=N) (h:n<gsz N T r) (h':n'<gsz N T r') (e:gat N T r n=gat N T r' n'):r=r'/\n=n':=by
  rw [zos hN h,zos hN h'] at e;have e1:=zi4 (r:=r) (T:=T) hN;have e2:=zi4 (r:=r') (T:=T) hN;rcases Nat.lt_trichotomy r r' with k|k|k
  . have:=zgx (N:=N) (T:=T) (show r+1<=r' from k);omega
  . subst k;exact⟨rfl,by omega⟩
  . have:=zgx (N:=N) (T:=T) (show r'+1<=r from k);omega
def Wd (N T:Nat) (ws:List UInt64) (W:Nat->Nat->UInt64):Prop:=∀ r n:Nat,r<19->n<gsz N T r->wAt ws (gat N T r n)=some (W r n)
def up2 (W:Nat->Nat->UInt64) (r n:Nat) (v:UInt64):Nat->Nat->UInt64:=fun r' n'=>if r'=r/\n'=n then v else W r' n'
theorem zhY {W:Nat->Nat->UInt64} {r n:Nat} {v:UInt64}:up2 W r n v r n=v:=if_pos ⟨rfl,rfl⟩
theorem zla {W:Nat->Nat->UInt64} {r n r' n':Nat} {v:UInt64} (h:r'≠r):up2 W r n v r' n'=W r' n':=if_neg fun e=>h e.1
theorem Wd.put {N T:Nat} {ws:List UInt64} {W:Nat->Nat->UInt64} (h:Wd N T ws W) (hN:1<=N) {r n:Nat} (hr:r<19) (hn:n<gsz N T r) (c:Nat) (A B:UInt64):Wd N T (wS c (gat N T r n) A B ws) (up2 W r n (kNow c (W r n) A B)):=by
  intro r' n' hr' hn';rw [zts (h r n hr hn)];by_cases e:gat N T r' n'=gat N T r n
  . obtain⟨rfl,rfl⟩:=zst hN hn' hn e;rw [if_pos rfl,zhY]
  . rw [if_neg e,h r' n' hr' hn'];refine congrArg some (if_neg ?_).symm;rintro ⟨rfl,rfl⟩;exact e rfl
theorem Wd.store {N T:Nat} {ws:List UInt64} {W:Nat->Nat->UInt64} (h:Wd N T ws W) (hN:1<=N) {r n:Nat} (hr:r<19) (hn:n<gsz N T r) (A:UInt64):Wd N T (wS 2 (gat N T r n) A 0 ws) (up2 W r n A):=h.put hN hr hn 2 A 0
theorem Wd.cas {N T:Nat} {ws:List UInt64} {W:Nat->Nat->UInt64} (h:Wd N T ws W) (hN:1<=N) {r n:Nat} (hr:r<19) (hn:n<gsz N T r) {A:UInt64} (hA:W r n=A) (B:UInt64):Wd N T (wS 3 (gat N T r n) A B ws) (up2 W r n B):=by
  have:=h.put hN hr hn 3 A B;rw [hA] at this;simpa only [kNow,if_true] using this
theorem Wd.add {N T:Nat} {ws:List UInt64} {W:Nat->Nat->UInt64} (h:Wd N T ws W) (hN:1<=N) {r n:Nat} (hr:r<19) (hn:n<gsz N T r) (A:UInt64):Wd N T (wS 4 (gat N T r n) A 0 ws) (up2 W r n (W r n+A)):=h.put hN hr hn 4 A 0
theorem Wd.tells {N T:Nat} {ws:List UInt64} {W:Nat->Nat->UInt64} (h:Wd N T ws W) {r n:Nat} (hr:r<19) (hn:n<gsz N T r):wT 1 (gat N T r n) 0 ws=W r n:=ld_w (h r n hr hn)
theorem Wd.zero {N T n:Nat} (hN:1<=N) (h:gb N T 19<=n):Wd N T (List.replicate n 0) (fun _ _=>0):=by
  intro r k hr hk;rw [zos hN hk];have e1:=zi4 (r:=r) (T:=T) hN;have:=zgx (N:=N) (T:=T) (show r+1<=19 by omega)
  unfold wAt;rw [if_neg (by omega)]
  simp only [Int.toNat_natCast];rw [List.getElem?_replicate,if_pos (by omega)]
theorem Wd.congr {N T:Nat} {ws:List UInt64} {W W':Nat->Nat->UInt64} (h:Wd N T ws W) (e:∀ r n,r<19->n<gsz N T r->W r n=W' r n):Wd N T ws W':=fun r n hr hn=>by rw [h r n hr hn,e r n hr hn]
end Go.Proofs.Ytjhmhoapgbfgpaa
namespace Go.Proofs.Ytjhmhoapgbfgpaa
open Go Go.Conc
open Go.RowKit
inductive LS
  | tri (j:Nat)
  | addc
  | loade
  | subc
  | drop
  | fin
structure LP where
  i:Nat
  x:Nat
  s:LS
def LS.hold:LS->Bool
  | .addc|.loade|.subc|.drop=>true
  | _=>false
def LS.cnt:LS->UInt64
  | .loade|.subc=>1
  | _=>0
def LS.isFin:LS->Bool
  | .fin=>true
  | _=>false
def dnO (k:Nat):Option LP->Nat
  | none=>k
  | some p=>p.x
def sumD (k:Nat) (ps:List (Option LP)):Nat:=(ps.map (dnO k)).sum
theorem zgM {f:Option LP->Nat}:∀ {ps:List (Option LP)} {i:Nat} {y z:Option LP},ps[i]?=some y->((ps.set i z).map f).sum+f y=(ps.map f).sum+f z
  | [],i,y,z,h=>by simp at h
  | a::ps,0,y,z,h=>by
    obtain rfl:a=y:=by simpa using h
    simp;omega
  | a::ps,i+1,y,z,h=>by
    have:=zgM (f:=f) (z:=z) (show ps[i]?=some y by simpa using h)
    simp only [List.set_cons_succ,List.map_cons,List.sum_cons];omega
theorem zra {f:Option LP->Nat} {k:Nat}:∀ {ps:List (Option LP)},(∀ y∈ps,f y<=k)->(ps.map f).sum<=ps.length * k
  | [],_=>by simp
  | a::ps,h=>by
    have h1:=h a (by simp)
    have h2:=zra (f:=f) (k:=k) (ps:=ps) fun y hy=>h y (by simp [hy])
    rw [List.map_cons,List.sum_cons,List.length_cons,Nat.succ_mul];omega
theorem zbr {ps:List (Option LP)} {i:Nat} {y:Option LP} (hi:i<ps.length) (z:Option LP) (j:Nat):(ps.set i z)[j]?=if j=i then some z else ps[j]?:=by
  by_cases e:j=i
  . subst e;rw [if_pos rfl,List.getElem?_set_self hi]
  . rw [if_neg e,List.getElem?_set_ne fun h=>e h.symm]
theorem zp0 {i:Nat} (h:i<100):zaS i≠0:=fun e=>by
  have:=congrArg UInt64.toNat e;simp [zaS] at this;omega
abbrev lkN (x:Nat):Blk:={ cells:=[.int .i64 (x:Int)],elem:=3 }
abbrev lkG (n:Nat):Blk:={ cells:=(geoC 1 n).toList,elem:=26 }
structure LkI (n k a b c d:Nat) (W:Nat->Nat->UInt64) (got:Nat) (ps:List (Option LP)) (l:List (Option Blk)):Prop where
  ga:l[a]?=some (some (lkN k))
  gb:l[b]?=some (some (lkG n))
  gc:l[c]?=some (some (lkN 0))
  gd:l[d]?=some (some (lkN got))
  ne:c≠d/\a≠d
  idx:∀ (i:Nat) p,ps[i]?=some (some p)->p.i=i/\p.x<k
  len:ps.length<=n
  lk:(W 0 0=0/\W 2 0=0/\∀ (i:Nat) p,ps[i]?=some (some p)->p.s.hold=false)\/∃ (i:Nat) (p:LP),ps[i]?=some (some p)/\p.s.hold=true/\W 0 0=zaS i/\W 2 0=p.s.cnt/\∀ (j:Nat) p',ps[j]?=some (some p')->p'.s.hold=true->j=i
  ever:(∀ y∈ps,∃ i,y=some ⟨i,0,.tri 0⟩)\/0<got\/∃ (i:Nat) (p:LP),ps[i]?=some (some p)/\(p.s.hold=true\/p.s.isFin=true)
  sum:got<=sumD k ps
  solo:n=1->got=sumD k ps/\∀ (i:Nat) p j,ps[i]?=some (some p)->p.s=.tri j->j=0
section
variable {n k a b c d got:Nat} {W:Nat->Nat->UInt64} {ps:List (Option LP)} {l:List (Option Blk)} {i:Nat} {p:LP}
theorem LkI.got_le (H:LkI n k a b c d W got ps l):got<=n * k:=by
  refine Nat.le_trans H.sum (Nat.le_trans (zra (k:=k) fun y hy=>?_) (Nat.mul_le_mul_right k H.len));cases y with
  | none=>exact Nat.le_refl _
  | some p =>
    obtain⟨i,hi⟩:=List.getElem?_of_mem hy;exact Nat.le_of_lt (H.idx i p hi).2
theorem LkI.move (H:LkI n k a b c d W got ps l) (hi:ps[i]?=some (some p)) {s:LS} (hh:s.hold=p.s.hold) {W':Nat->Nat->UInt64} (h0:W' 0 0=W 0 0) (h2:p.s.hold=true->W' 2 0=s.cnt) (h2':p.s.hold=false->W' 2 0=W 2 0) (hf:p.s.isFin=false) (hn:n=1->∀ j,s=.tri j->j=0) (hne:p.s.hold=false->0<got\/∃ (i':Nat) (p':LP),ps[i']?=some (some p')/\i'≠i/\(p'.s.hold=true\/p'.s.isFin=true)):LkI n k a b c d W' got (ps.set i (some { p with s:=s })) l:=by
  have hil:=(List.getElem?_eq_some_iff.1 hi).1;have hs:sumD k (ps.set i (some { p with s:=s }))=sumD k ps:=by
    have:=zgM (f:=dnO k) (z:=some { p with s:=s }) hi
    simp only [dnO] at this;unfold sumD;omega
  refine⟨H.ga,H.gb,H.gc,H.gd,H.ne,fun j q hj=>?_,by simpa using H.len,?_,?_,by rw [hs];exact H.sum,fun h1=>⟨by rw [hs];exact (H.solo h1).1,fun j q x hj hq=>?_⟩⟩
  . rw [zbr (y:=none) hil] at hj;split at hj
    . rename_i e;subst e;cases hj;exact⟨(H.idx j p hi).1,(H.idx j p hi).2⟩
    . exact H.idx _ _ hj
  . rcases H.lk with ⟨l1,l2,l3⟩|⟨i',p',l1,l2,l3,l4,l5⟩
    . refine .inl ⟨h0.trans l1,(h2' (l3 i p hi)).trans l2,fun j q hj=>?_⟩;rw [zbr (y:=none) hil] at hj;split at hj
      . cases hj;exact hh.trans (l3 i p hi)
      . exact l3 _ _ hj
    . by_cases e:i'=i
      . subst e;rw [hi] at l1;cases l1;refine .inr ⟨i',{ p with s:=s },by rw [zbr (y:=none) hil,if_pos rfl],hh.trans l2,h0.trans l3,h2 l2,fun j q hj hq=>?_⟩
        rw [zbr (y:=none) hil] at hj;split at hj
        . assumption
        . exact l5 _ _ hj hq
      . have hp:p.s.hold=false:=by
          cases hx:p.s.hold with
          | false=>rfl
          | true=>exact absurd (l5 i p hi hx).symm e
        refine .inr ⟨i',p',by rw [zbr (y:=none) hil,if_neg e];exact l1,l2,h0.trans l3,(h2' hp).trans l4,fun j q hj hq=>?_⟩
        rw [zbr (y:=none) hil] at hj;split at hj
        . cases hj;rw [show ({ p with s:=s }:LP).s.hold=s.hold from rfl,hh,hp] at hq;cases hq
        . exact l5 _ _ hj hq
  . cases hx:p.s.hold with
    | true=>exact .inr (.inr ⟨i,{ p with s:=s },by rw [zbr (y:=none) hil,if_pos rfl],.inl (hh.trans hx)⟩)
    | false =>
      rcases hne hx with h|⟨i',p',g1,g2,g3⟩
      . exact .inr (.inl h)
      . exact .inr (.inr ⟨i',p',by rw [zbr (y:=none) hil,if_neg g2];exact g1,g3⟩)
  . rw [zbr (y:=none) hil] at hj;split at hj
    . cases hj;exact hn h1 x hq
    . exact (H.solo h1).2 _ _ _ hj hq
theorem LkI.hit (H:LkI n k a b c d W got ps l) (hi:ps[i]?=some (some p)) {j:Nat} (hs:p.s=.tri j) (h0:W 0 0=0) {W':Nat->Nat->UInt64} (h1:W' 0 0=zaS i) (h2:W' 2 0=W 2 0) (hn:n<=100):LkI n k a b c d W' got (ps.set i (some { p with s:=.addc })) l:=by
  have hil:=(List.getElem?_eq_some_iff.1 hi).1;have hsm:sumD k (ps.set i (some { p with s:=.addc }))=sumD k ps:=by
    have:=zgM (f:=dnO k) (z:=some { p with s:=.addc }) hi
    simp only [dnO] at this;unfold sumD;omega
  have hfree:W 2 0=0/\∀ (i:Nat) p,ps[i]?=some (some p)->p.s.hold=false:=by
    rcases H.lk with ⟨l1,l2,l3⟩|⟨i',p',l1,l2,l3,l4,l5⟩
    . exact⟨l2,l3⟩
    . rw [h0] at l3;have hi':=(List.getElem?_eq_some_iff.1 l1).1;have:=H.len;exact absurd l3.symm (zp0 (by omega))
  refine⟨H.ga,H.gb,H.gc,H.gd,H.ne,fun j q hj=>?_,by simpa using H.len,?_,?_,by rw [hsm];exact H.sum,fun h1=>⟨by rw [hsm];exact (H.solo h1).1,fun j q x hj hq=>?_⟩⟩
  . rw [zbr (y:=none) hil] at hj;split at hj
    . rename_i e;subst e;cases hj;exact⟨(H.idx j p hi).1,(H.idx j p hi).2⟩
    . exact H.idx _ _ hj
  . refine .inr ⟨i,{ p with s:=.addc },by rw [zbr (y:=none) hil,if_pos rfl],rfl,h1,h2.trans hfree.1,fun j q hj hq=>?_⟩
    rw [zbr (y:=none) hil] at hj;split at hj
    . assumption
    . rw [hfree.2 _ _ hj] at hq;cases hq
  . exact .inr (.inr ⟨i,{ p with s:=.addc },by rw [zbr (y:=none) hil,if_pos rfl],.inl rfl⟩)
  . rw [zbr (y:=none) hil] at hj;split at hj
    . cases hj;cases hq
    . exact (H.solo h1).2 _ _ _ hj hq
theorem LkI.leave (H:LkI n k a b c d W got ps l) (hi:ps[i]?=some (some p)) (hs:p.s=.drop) {W':Nat->Nat->UInt64} (h1:W' 0 0=0) (h2:W' 2 0=W 2 0):LkI n k a b c d W' got (ps.set i (some { p with s:=.fin })) l:=by
  have hil:=(List.getElem?_eq_some_iff.1 hi).1;have hsm:sumD k (ps.set i (some { p with s:=.fin }))=sumD k ps:=by
    have:=zgM (f:=dnO k) (z:=some { p with s:=.fin }) hi
    simp only [dnO] at this;unfold sumD;omega
  have hh:p.s.hold=true:=by rw [hs];rfl
  obtain⟨h20,honly⟩:W 2 0=0/\∀ (j:Nat) p',ps[j]?=some (some p')->p'.s.hold=true->j=i:=by
    rcases H.lk with ⟨l1,l2,l3⟩|⟨i',p',l1,l2,l3,l4,l5⟩
    . rw [l3 i p hi] at hh;cases hh
    . obtain rfl:=l5 i p hi hh;rw [hi] at l1;cases l1;exact⟨by rw [l4,hs];rfl,l5⟩
  refine⟨H.ga,H.gb,H.gc,H.gd,H.ne,fun j q hj=>?_,by simpa using H.len,?_,?_,by rw [hsm];exact H.sum,fun h1=>⟨by rw [hsm];exact (H.solo h1).1,fun j q x hj hq=>?_⟩⟩
  . rw [zbr (y:=none) hil] at hj;split at hj
    . rename_i e;subst e;cases hj;exact⟨(H.idx j p hi).1,(H.idx j p hi).2⟩
    . exact H.idx _ _ hj
  . refine .inl ⟨h1,h2.trans h20,fun j q hj=>?_⟩;rw [zbr (y:=none) hil] at hj;split at hj
    . cases hj;rfl
    . rename_i e;cases hq:q.s.hold with
      | false=>rfl
      | true=>exact absurd (honly _ _ hj hq) e
  . exact .inr (.inr ⟨i,{ p with s:=.fin },by rw [zbr (y:=none) hil,if_pos rfl],.inr rfl⟩)
  . rw [zbr (y:=none) hil] at hj;split at hj
    . cases hj;cases hq
    . exact (H.solo h1).2 _ _ _ hj hq
theorem LkI.next (H:LkI n k a b c d W got ps l) (hi:ps[i]?=some (some p)) (hh:p.s.hold=false) {y:Option LP} (hy:(p.x+1<k/\y=some ⟨i,p.x+1,.tri 0⟩)\/(p.x+1=k/\y=none)) {g:Nat} (hg:(p.s.isFin=true/\g=got+1)\/(n≠1/\g=got/\(0<got\/∃ (i':Nat) (p':LP),ps[i']?=some (some p')/\i'≠i/\(p'.s.hold=true\/p'.s.isFin=true)))) {l':List (Option Blk)} (ha:l'[a]?=l[a]?) (hb:l'[b]?=l[b]?) (hc:l'[c]?=l[c]?) (hd:l'[d]?=some (some (lkN g))):LkI n k a b c d W g (ps.set i y) l':=by
  have hil:=(List.getElem?_eq_some_iff.1 hi).1;have hdy:dnO k y=p.x+1:=by
    rcases hy with ⟨_,rfl⟩|⟨e,rfl⟩
    . rfl
    . exact e.symm
  have hsm:sumD k (ps.set i y)=sumD k ps+1:=by
    have:=zgM (f:=dnO k) (z:=y) hi;rw [hdy] at this;simp only [dnO] at this;unfold sumD;omega
  have hys:∀ q,y=some q->q.i=i/\q.x<k/\q.s=.tri 0:=fun q hq=>by
    rcases hy with ⟨h1,rfl⟩|⟨_,rfl⟩
    . cases hq;exact⟨rfl,h1,rfl⟩
    . cases hq
  have hget:∀ (j:Nat) q,(ps.set i y)[j]?=some (some q)->(j=i/\y=some q)\/(j≠i/\ps[j]?=some (some q)):=fun j q hj=>by
    rw [zbr (y:=none) hil] at hj;split at hj
    . rename_i e;exact .inl ⟨e,Option.some.inj hj⟩
    . rename_i e;exact .inr ⟨e,hj⟩
  refine⟨ha.trans H.ga,hb.trans H.gb,hc.trans H.gc,hd,H.ne,fun j q hj=>?_,by simpa using H.len,?_,?_,?_,fun h1=>⟨?_,fun j q x hj hq=>?_⟩⟩
  . rcases hget j q hj with ⟨rfl,e⟩|⟨_,e⟩
    . exact⟨(hys q e).1,(hys q e).2.1⟩
    . exact H.idx _ _ e
  . rcases H.lk with ⟨l1,l2,l3⟩|⟨i',p',l1,l2,l3,l4,l5⟩
    . refine .inl ⟨l1,l2,fun j q hj=>?_⟩;rcases hget j q hj with ⟨rfl,e⟩|⟨_,e⟩
      . rw [(hys q e).2.2];rfl
      . exact l3 _ _ e
    . have hne:i'≠i:=fun e=>by
        subst e;rw [hi] at l1;cases l1;rw [hh] at l2;cases l2
      refine .inr ⟨i',p',by rw [zbr (y:=none) hil,if_neg hne];exact l1,l2,l3,l4,fun j q hj hq=>?_⟩
      rcases hget j q hj with ⟨rfl,e⟩|⟨_,e⟩
      . rw [(hys q e).2.2] at hq;cases hq
      . exact l5 _ _ e hq
  . rcases hg with ⟨_,rfl⟩|⟨_,rfl,h⟩
    . exact .inr (.inl (Nat.succ_pos _))
    . rcases h with h|⟨i',p',g1,g2,g3⟩
      . exact .inr (.inl h)
      . exact .inr (.inr ⟨i',p',by rw [zbr (y:=none) hil,if_neg g2];exact g1,g3⟩)
  . have:=H.sum;rcases hg with ⟨_,rfl⟩|⟨_,rfl,_⟩<;>omega
  . have:=(H.solo h1).1;rcases hg with ⟨_,rfl⟩|⟨hn,_⟩
    . omega
    . exact absurd h1 hn
  . rcases hget j q hj with ⟨rfl,e⟩|⟨_,e⟩
    . rw [(hys q e).2.2] at hq;cases hq;rfl
    . exact (H.solo h1).2 _ _ _ e hq
theorem LkI.begin (H:LkI n k a b c d W got ps l) (hk:0<k) (hn:ps.length<n):LkI n k a b c d W got (ps++[some ⟨ps.length,0,.tri 0⟩]) l:=by
  have hget:∀ (j:Nat) q,(ps++[some (⟨ps.length,0,.tri 0⟩:LP)])[j]?=some (some q)->(j=ps.length/\q=⟨ps.length,0,.tri 0⟩)\/ps[j]?=some (some q):=fun j q hj=>by
    by_cases h:j<ps.length
    . rw [List.getElem?_append_left h] at hj;exact .inr hj
    . rw [List.getElem?_append_right (by omega)] at hj
      have h0:j - ps.length=0:=by
        have:=(List.getElem?_eq_some_iff.1 hj).1;simp at this;omega
      rw [h0] at hj;cases hj;exact .inl ⟨by omega,rfl⟩
  have hsm:sumD k (ps++[some ⟨ps.length,0,.tri 0⟩])=sumD k ps:=by unfold sumD;simp [dnO]
  have hold:∀ (j:Nat) q,ps[j]?=some q->(ps++[some (⟨ps.length,0,.tri 0⟩:LP)])[j]?=some q:=fun j q h=>by
    rw [List.getElem?_append_left (List.getElem?_eq_some_iff.1 h).1];exact h
  refine⟨H.ga,H.gb,H.gc,H.gd,H.ne,fun j q hj=>?_,by simp;omega,?_,?_,by rw [hsm];exact H.sum,fun h1=>⟨by rw [hsm];exact (H.solo h1).1,fun j q x hj hq=>?_⟩⟩
  . rcases hget j q hj with ⟨rfl,rfl⟩|e
    . exact⟨rfl,hk⟩
    . exact H.idx _ _ e
  . rcases H.lk with ⟨l1,l2,l3⟩|⟨i',p',l1,l2,l3,l4,l5⟩
    . refine .inl ⟨l1,l2,fun j q hj=>?_⟩;rcases hget j q hj with ⟨rfl,rfl⟩|e
      . rfl
      . exact l3 _ _ e
    . refine .inr ⟨i',p',hold _ _ l1,l2,l3,l4,fun j q hj hq=>?_⟩;rcases hget j q hj with ⟨rfl,rfl⟩|e
      . cases hq
      . exact l5 _ _ e hq
  . rcases H.ever with h|h|⟨i',p',h1,h2⟩
    . refine .inl fun y hy=>?_;rcases List.mem_append.1 hy with hy|hy
      . exact h y hy
      . exact⟨_,by simpa using hy⟩
    . exact .inr (.inl h)
    . exact .inr (.inr ⟨i',p',hold _ _ h1,h2⟩)
  . rcases hget j q hj with ⟨rfl,rfl⟩|e
    . cases hq;rfl
    . exact (H.solo h1).2 _ _ _ e hq
theorem LkI.rows {l':List (Option Blk)} (H:LkI n k a b c d W got ps l) (h:∀ (x:Nat) (y:Blk),l[x]?=some (some y)->zei y=false->l'[x]?=some (some y)):LkI n k a b c d W got ps l' :=
  ⟨h _ _ H.ga rfl,h _ _ H.gb rfl,h _ _ H.gc rfl,h _ _ H.gd rfl,H.ne,H.idx,H.len,H.lk,H.ever,H.sum,H.solo⟩
theorem LkI.done (H:LkI n k a b c d W got (List.replicate n none) l) (hn:0<n):W 0 0=0/\W 2 0=0/\0<got/\(n=1->got=k):=by
  have hno:∀ (i:Nat) p,(List.replicate n (none:Option LP))[i]?≠some (some p):=fun i p h=>by
    rw [List.getElem?_replicate] at h;split at h<;>cases h
  refine⟨?_,?_,?_,fun h1=>?_⟩
  . rcases H.lk with h|⟨i,p,h,_⟩
    . exact h.1
    . exact absurd h (hno _ _)
  . rcases H.lk with h|⟨i,p,h,_⟩
    . exact h.2.1
    . exact absurd h (hno _ _)
  . rcases H.ever with h|h|⟨i,p,h,_⟩
    . obtain⟨i,hi⟩:=h none (List.mem_replicate.2 ⟨by omega,rfl⟩)
      cases hi
    . exact h
    . exact absurd h (hno _ _)
  . subst h1;have:=(H.solo rfl).1;simpa [sumD,dnO] using this
end
theorem zh5 {P:Program} {e e':Operand->Value} {h0:AHeap} {op:Op} (h:∀ x∈op.operands,e x=e' x):valA P e h0 op=valA P e' h0 op:=by
  cases op with
  | call c =>
    simp only [valA,zlS];have ha:∀ x∈c.args.toList,e x=e' x:=fun x hx=>h x (by simp only [Op.operands,Call.operands];(try simp only [Array.mem_append]);first|exact .inr (by simpa using hx)|exact .inl (by simpa using hx)|(simpa using hx))
    cases c.callee with
    | builtin b =>
      cases b<;>try rfl
      . rcases hl:c.args.toList with _|⟨x,_|⟨y,l⟩⟩<;>simp only []<;>rcases c.argTypes.toList with _|⟨t,_|⟨t',l'⟩⟩<;>simp only []
        rw [ha x (by rw [hl];simp)]
      . rcases hl:c.args.toList with _|⟨x,l⟩<;>simp only []
        rw [ha x (by rw [hl];simp),List.map_congr_left fun y hy=>ha y (by rw [hl];simp [hy])]
      . rcases hl:c.args.toList with _|⟨x,l⟩<;>simp only []
        rw [ha x (by rw [hl];simp),List.map_congr_left fun y hy=>ha y (by rw [hl];simp [hy])]
    | _=>rfl
  | build t ps =>
    simp only [valA];have:ps.toList.map (fun p=>(p.1,e p.2))=ps.toList.map (fun p=>(p.1,e' p.2)):=List.map_congr_left fun p hp=>by rw [h p.2 (by simp only [Op.operands];simp;exact⟨p.1,by simpa using hp⟩)]
    rw [this]
  | makeFunc fn xs ys =>
    simp only [valA];have e1:xs.map e=xs.map e':=Array.map_congr_left fun x hx=>h x (by simp [Op.operands,hx])
    have e2:ys.map e=ys.map e':=Array.map_congr_left fun x hx=>h x (by simp [Op.operands,hx])
    rw [e1,e2]
  | slice t x lo hi mx =>
    simp only [valA];have e1:e x=e' x:=h x (by simp [Op.operands])
    have e2:lo.map e=lo.map e':=by cases lo with|none=>rfl|some a=>exact congrArg some (h a (by simp [Op.operands]))
    have e3:hi.map e=hi.map e':=by cases hi with|none=>rfl|some a=>exact congrArg some (h a (by simp [Op.operands]))
    have e4:mx.map e=mx.map e':=by cases mx with|none=>rfl|some a=>exact congrArg some (h a (by simp [Op.operands]))
    rw [e1,e2,e3,e4]
  | _=>simp only [valA]<;>simp_all [Op.operands]
theorem zeW {P:Program} {e e':Operand->Value} {op:Op} (h:∀ x∈op.operands,e x=e' x):zaL P e op=zaL P e' op:=by
  cases op with
  | call c =>
    have ha:∀ x∈c.args,e x=e' x:=fun x hx=>h x (by simp only [Op.operands,Call.operands];(try simp only [Array.mem_append]);first|exact .inr hx|exact .inl hx|exact hx)
    obtain⟨callee,args,ats⟩:=c;have hm:args.map e=args.map e':=Array.map_congr_left ha;cases callee with
    | value f =>
      have hf:e f=e' f:=h f (by simp [Op.operands,Call.operands])
      simp only [zaL,hf,hm]
    | invoke r nm =>
      have hf:e r=e' r:=h r (by simp [Op.operands,Call.operands])
      simp only [zaL,hf,hm]
    | _=>rfl
  | _=>rfl
section
variable {Γ:Type} {X:Face Try.prog St} {Sp:SpT Γ} {fn:Func} {A:Conf St->Γ × St->Prop} {ops:Array Oper} {k:List Item}
inductive Quiet (X:Face Try.prog St) (o:Oper) (e:Operand->Value) (h:AHeap) (S:St) (v:Value):Prop
  | val (hv:valA Try.prog e h o.op=some v)
  | prim (f:FuncId) (g:Func) (args:Array Value) (hca:zaL Try.prog e o.op=some (f,args)) (hf:Try.prog.funcs[f]?=some g) (hg:goB g=true) (hp:X.prim f args S v S)
  | call (f:FuncId) (args:Array Value) (hca:zaL Try.prog e o.op=some (f,args)) (D:Does X f args [] S v S)
theorem Quiet.congr {o:Oper} {e e':Operand->Value} {h:AHeap} {S:St} {v:Value} (H:Quiet X o e h S v) (he:∀ x∈o.op.operands,e x=e' x):Quiet X o e' h S v:=by
  cases H with
  | val hv=>exact .val ((zh5 he).symm.trans hv)
  | prim f g args hca hf hg hp=>exact .prim f g args ((zeW he).symm.trans hca) hf hg hp
  | call f args hca D=>exact .call f args ((zeW he).symm.trans hca) D
theorem Quiet.go {o:Oper} {i:Nat} {rest:List Nat} {tmps:List Value} {h:AHeap} {S:St} {v:Value} {B:Conf St->Prop} (H:Quiet X o (evA tmps) h S v) (ho:ops[i]?=some o) (hg:o.guard=none) (hb:o.op.operands.all zaN=true)
    (hk:Goes X fn B (.run (.inRegion ops rest::k) (putL o.dst v tmps) h S)):Goes X fn B (.run (.inRegion ops (i::rest)::k) tmps h S):=by
  cases H with
  | val hv=>exact .op ho (zbU hg) hb (.inl ⟨hv,rfl,rfl⟩) (.inl rfl) hk
  | prim f g args hca hf hgo hp=>exact .op ho (zbU hg) hb (.inr (.inr (.inr ⟨f,g,args,hca,hf,hgo,hp,rfl⟩))) (.inl rfl) hk
  | call f args hca D =>
    obtain⟨g,c,h1,d1,d2,d3,d4,d5,d6⟩:=D;exact .call f g c args idE idE (zaq []) h1 [] v ho (zbU hg) hb (zgL h1 hca d1 d2 d3 d4 d5) (.inl rfl) d6 hk
inductive PreW (X:Face Try.prog St) (ops:Array Oper) (h:AHeap) (S:St) (Kf:List Value->Prop) (c:Nat):Nat->List Value->Prop
  | nil {tmps} (hk:Kf tmps):PreW X ops h S Kf c c tmps
  | op {i tmps o v} (hi:i<c) (ho:ops[i]?=some o) (hg:o.guard=none) (hb:o.op.operands.all zaN=true) (hq:Quiet X o (evA tmps) h S v) (hk:PreW X ops h S Kf c (i+1) (putL o.dst v tmps)):PreW X ops h S Kf c i tmps
structure WalkT (X:Face Try.prog St) (ops:Array Oper) (h:AHeap) (S:St) (c i:Nat) (vs:Nat->Value) (T:Nat->List Value):Prop where
  step:∀ j,i<=j->j<c->∃ o,ops[j]?=some o/\o.guard=none/\o.op.operands.all zaN=true/\Quiet X o (evA (T j)) h S (vs j)/\T (j+1)=putL o.dst (vs j) (T j)
theorem PreW.rows {h:AHeap} {S:St} {Kf:List Value->Prop} {c i:Nat} {tmps:List Value} (H:PreW X ops h S Kf c i tmps):i<=c/\∃ vs T,T i=tmps/\WalkT X ops h S c i vs T/\Kf (T c):=by
  induction H with
  | nil hk=>exact⟨Nat.le_refl _,fun _=>undef,fun _=>_,rfl,⟨fun j h1 h2=>by omega⟩,hk⟩
  | @op i tmps o v hi ho hg hb hq _ ih =>
    obtain⟨_,vs,T,h1,h2,h3⟩:=ih;refine⟨by omega,fun j=>if j=i then v else vs j,fun j=>if j=i then tmps else T j,if_pos rfl,⟨fun j h4 h5=>?_⟩,?_⟩
    . by_cases e:j=i
      . subst e;refine⟨o,ho,hg,hb,?_,?_⟩
        . simp only [if_true];exact hq
        . simp only [if_true];rw [if_neg (by omega)];exact h1
      . obtain⟨o',a1,a2,a3,a4,a5⟩:=h2.step j (by omega) h5
        refine⟨o',a1,a2,a3,?_,?_⟩
        . simp only [if_neg e];exact a4
        . simp only [if_neg e];rw [if_neg (by omega)];exact a5
    . simp only [];rw [if_neg (by omega)];exact h3
def zpm:Op->Bool
  | .move _=>true
  | _=>false
def zbX (ops:Array Oper) (j:Nat):Option Nat:=(ops[j]?).bind (·.dst)
def zeo (ops:Array Oper) (i:Nat):Nat:=(zar ops.toList []).getD i 0
def tmpB (ops:Array Oper) (c i:Nat) (x:Operand):Bool:=match x with
  | .tmp t=>(List.range (c+1)).all fun j=>!(zbX ops j==some t) || ((zeo ops i).testBit j && decide (j<i))
  | _=>true
def zop (ops:Array Oper) (c:Nat):Bool :=
  decide (c<ops.size) && zmV ops && (List.range ops.size).all fun i=>match ops[i]? with
    | none=>false
    | some o=>(zb0 o).all (fun d=>decide (d<i)) && (if i<=c then
        o.op.operands.all (tmpB ops c i) && ((List.range i).all fun j=>(zbX ops j).isNone || !(zbX ops j==zbX ops i)) && (i==c || (zeo ops c).testBit i || zpm o.op)
      else (List.range i).all fun j=>(zeo ops i).testBit j)
structure zjn (ops:Array Oper) (c:Nat):Prop where
  lt:c<ops.size
  back:zmV ops=true
  dep:∀ i o,ops[i]?=some o->∀ d∈zb0 o,d<i
  tmp:∀ i o t,ops[i]?=some o->i<=c->.tmp t∈o.op.operands->∀ j,j<=c->zbX ops j=some t->(zeo ops i).testBit j=true/\j<i
  dst:∀ i j t,i<=c->j<=c->zbX ops i=some t->zbX ops j=some t->i=j
  anc:∀ i o,ops[i]?=some o->i<c->(zeo ops c).testBit i=true\/zpm o.op=true
  post:∀ i o,ops[i]?=some o->c<i->∀ j,j<i->(zeo ops i).testBit j=true
theorem zqX {c:Nat} (h:zop ops c=true):zjn ops c:=by
  simp only [zop,Bool.and_eq_true,decide_eq_true_eq] at h;obtain⟨⟨h0,hbk⟩,h⟩:=h;have key:∀ i o,ops[i]?=some o->(zb0 o).all (fun d=>decide (d<i))=true/\(if i<=c then
        o.op.operands.all (tmpB ops c i) && ((List.range i).all fun j=>(zbX ops j).isNone || !(zbX ops j==zbX ops i)) && (i==c || (zeo ops c).testBit i || zpm o.op)
      else (List.range i).all fun j=>(zeo ops i).testBit j)=true:=fun i o ho=>by
    have:=List.all_eq_true.1 h i (List.mem_range.2 (Array.getElem?_eq_some_iff.1 ho).1);rw [ho] at this;simpa only [Bool.and_eq_true] using this
  have kle:∀ i o,ops[i]?=some o->i<=c->(o.op.operands.all (tmpB ops c i)=true/\((List.range i).all fun j=>(zbX ops j).isNone || !(zbX ops j==zbX ops i))=true)/\(i==c || (zeo ops c).testBit i || zpm o.op)=true:=fun i o ho hi=>by
    have:=(key i o ho).2;rw [if_pos hi,Bool.and_eq_true,Bool.and_eq_true] at this;exact this
  have dd:∀ i j t,i<j->j<=c->zbX ops i=some t->zbX ops j=some t->False:=fun i j t hij hj hi hj'=>by
    obtain⟨o,ho⟩:∃ o,ops[j]?=some o:=⟨_,Array.getElem?_eq_getElem (by omega)⟩
    have:=List.all_eq_true.1 (kle j o ho hj).1.2 i (List.mem_range.2 hij);rw [hi,hj'] at this;simp at this
  refine⟨h0,hbk,fun i o ho d hd=>?_,fun i o t ho hi ht j hj hd=>?_,fun i j t hi hj h1 h2=>?_,fun i o ho hi=>?_,fun i o ho hi j hj=>?_⟩
  . simpa using List.all_eq_true.1 (key i o ho).1 d hd
  . have h1:=Array.all_eq_true_iff_forall_mem.1 (kle i o ho hi).1.1 _ ht;simp only [tmpB] at h1;have h2:=List.all_eq_true.1 h1 j (List.mem_range.2 (by omega))
    rw [hd] at h2;simpa using h2
  . rcases Nat.lt_trichotomy i j with h|h|h
    . exact (dd i j t h hj h1 h2).elim
    . exact h
    . exact (dd j i t h hi h2 h1).elim
  . have:=(kle i o ho (by omega)).2
    simp only [Bool.or_eq_true,beq_iff_eq] at this;rcases this with (h|h)|h
    . omega
    . exact .inl h
    . exact .inr h
  . have:=(key i o ho).2;rw [if_neg (by omega)] at this
    exact List.all_eq_true.1 this j (List.mem_range.2 hj)
structure Ag (ops:Array Oper) (c:Nat) (vs:Nat->Value) (t0:List Value) (l:Nat->Bool) (tm:List Value):Prop where
  len:tm.length=t0.length
  set:∀ j x,j<c->l j=true->zbX ops j=some x->x<t0.length->tm.getD x undef=vs j
  old:∀ x,(∀ j,j<c->zbX ops j=some x->l j=false)->tm.getD x undef=t0.getD x undef
theorem put_len {d:Option Nat} {v:Value} {t:List Value}:(putL d v t).length=t.length:=by cases d<;>simp [putL]
theorem ztS {x:Nat} {v:Value} {t:List Value} (h:x<t.length):(putL (some x) v t).getD x undef=v:=by simp [putL,List.getD,h]
theorem zpj {d:Option Nat} {x:Nat} {v:Value} {t:List Value} (h:d≠some x):(putL d v t).getD x undef=t.getD x undef:=by
  cases d with
  | none=>rfl
  | some y =>
    have:y≠x:=fun e=>h (by rw [e])
    simp [putL,List.getD,List.getElem?_set_ne this]
theorem Ag.put {c:Nat} {vs:Nat->Value} {t0 tm:List Value} {l:Nat->Bool} {i:Nat} (L:zjn ops c) (H:Ag ops c vs t0 l tm) (hi:i<c) (hl:l i=false):Ag ops c vs t0 (fun j=>l j || j==i) (putL (zbX ops i) (vs i) tm):=by
  refine⟨put_len.trans H.len,fun j x hj hlj hx hxl=>?_,fun x hx=>?_⟩
  . by_cases e:zbX ops i=some x
    . have:i=j:=L.dst i j x (by omega) (by omega) e hx
      subst this;rw [e];exact ztS (by rw [H.len];exact hxl)
    . rw [zpj e];simp only [Bool.or_eq_true,beq_iff_eq] at hlj;rcases hlj with hlj|rfl
      . exact H.set j x hj hlj hx hxl
      . exact absurd hx e
  . by_cases e:zbX ops i=some x
    . have:=hx i hi e;simp at this
    . rw [zpj e];refine H.old x fun j hj hd=>?_;have:=hx j hj hd;simp only [Bool.or_eq_false_iff] at this;exact this.1
theorem Ag.ext {c:Nat} {vs:Nat->Value} {t0 tm tm':List Value} {l l':Nat->Bool} (H:Ag ops c vs t0 l tm) (H':Ag ops c vs t0 l' tm') (hl:∀ j,j<c->l j=l' j):tm=tm':=by
  refine List.ext_getElem (H.len.trans H'.len.symm) fun x h1 h2=>?_;have hg:∀ (t:List Value) (h:x<t.length),t[x]=t.getD x undef:=fun t h=>by simp [List.getD,h]
  rw [hg tm h1,hg tm' h2];by_cases e:∃ j,j<c/\zbX ops j=some x/\l j=true
  . obtain⟨j,a1,a2,a3⟩:=e;rw [H.set j x a1 a3 a2 (by rw [<-H.len];exact h1),H'.set j x a1 (by rw [<-hl j a1];exact a3) a2 (by rw [<-H.len];exact h1)]
  . have e:∀ j,j<c->zbX ops j=some x->l j=false:=fun j a1 a2=>by
      cases hj:l j with
      | false=>rfl
      | true=>exact absurd ⟨j,a1,a2,hj⟩ e
    rw [H.old x e,H'.old x fun j a1 a2=>by rw [<-hl j a1];exact e j a1 a2]
theorem Ag.ev {c i:Nat} {vs:Nat->Value} {t0 tm tm':List Value} {l l':Nat->Bool} {o:Oper} (L:zjn ops c) (H:Ag ops c vs t0 l tm) (H':Ag ops c vs t0 l' tm') (ho:ops[i]?=some o) (hi:i<=c) (h1:∀ j,(zeo ops i).testBit j=true->l j=true) (h2:∀ j,j<i->(zeo ops i).testBit j=true->l' j=true):∀ x∈o.op.operands,evA tm x=evA tm' x:=by
  intro x hx;cases x with
  | tmp t =>
    simp only [evA];by_cases hlen:t<t0.length
    . by_cases e:∃ j,j<c/\zbX ops j=some t
      . obtain⟨j,a1,a2⟩:=e;obtain⟨b1,b2⟩:=L.tmp i o t ho hi hx j (by omega) a2
        rw [H.set j t a1 (h1 j b1) a2 hlen,H'.set j t a1 (h2 j b2 b1) a2 hlen]
      . rw [H.old t fun j a1 a2=>absurd ⟨j,a1,a2⟩ e,H'.old t fun j a1 a2=>absurd ⟨j,a1,a2⟩ e]
    . have g:∀ u:List Value,u.length=t0.length->u.getD t undef=undef:=fun u hu=>by
        have hle:u.length<=t:=by rw [hu];exact Nat.le_of_not_lt hlen
        simp [List.getD,List.getElem?_eq_none hle]
      rw [g tm H.len,g tm' H'.len]
  | _=>rfl
end
end Go.Proofs.Ytjhmhoapgbfgpaa
