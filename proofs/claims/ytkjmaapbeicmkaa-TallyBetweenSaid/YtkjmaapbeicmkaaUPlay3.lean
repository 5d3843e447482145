/-
  Bodies that are played: one step of one of them (quilletlaw07.step); loops of runs that hand over.
  No condition beyond those of each law.
-/
import Derived.Test.YtkjmaapbeicmkaaUThr54
set_option maxHeartbeats 40000000
set_option linter.unusedVariables false
set_option linter.unusedSimpArgs false
open List renaming getElem?_eq_some_iff->qa,getElem?_set_ne->qb,getElem?_eq_getElem->qg,replicate->qi,all_eq_true->qj,getElem?_of_mem->qm,range->qo,mem_range->qu,mem_of_getElem?->qv,map_congr_left->qw,mem_cons_self->qy,getD->qD,getElem?_set_self->qE,mem_append_right->qF,mem_cons_of_mem->qG,mem_append->qO
open Go.Region renaming ready->qd,schedule->qJ
open Go.Op renaming operands->qe
open Nat renaming le_refl->qf,lt_of_lt_of_le->qh,le_of_not_lt->qk,mul_one->qq,le_of_eq->qz,le_antisymm->qB,le_zero->qH,eq_or_lt_of_le->qK,lt_trichotomy->qM
open Array renaming getElem?_eq_some_iff->qn,map_congr_left->qs,replicate->qA,getElem?_eq_getElem->qC,mem_append->qL
open Go.Region.linearise renaming go->qp
open Bool renaming and_eq_true->qr,or_eq_true->qP
open Go.Call renaming operands->qx
namespace Go.Proofs.Ytkjmaapbeicmkaa
open Go Go.Conc
open Go.RowKit
variable {d x:Nat}
theorem zqr(a:Acc4){k:Nat}{ws:List UInt64}{bs:List UInt8}{S:St}(h:S[k]?=some (.mem ws bs))(h1:1<=a.1)(h6:a.1<=6):∃b,Prim 39 #[hndV k,accV a.1 a.2.1 a.2.2.1 a.2.2.2] S (.tuple #[.int .u64 ((zkJ a ws bs).toNat:Int),.bool b]) (S.set k (.mem (wdsQ a ws) (bytQ a bs))):=by
  obtain⟨c,n,A,B⟩:=a;have h1:1<=c:=h1;have h6:c<=6:=h6;by_cases h4:c<=4
  . have e1:zkJ (c,n,A,B) ws bs=wT c n A ws:=if_pos h4;have e2:wdsQ (c,n,A,B) ws=wS c n A B ws:=if_pos h4;have e3:bytQ (c,n,A,B) bs=bs:=if_neg (by show ¬c=6;omega)
    rw[e1,e2,e3];exact⟨_,Prim.do' c n A B h h1 h4⟩
  . have e5:c=5\/c=6:=by omega
    rcases e5 with rfl|rfl
    . have e1:((zkJ (5,n,A,B) ws bs).toNat:Int)=((bT n bs).toNat:Int):=by
        show(((bT n bs).toUInt64).toNat:Int)=_;rw[UInt8.toNat_toUInt64]
      have e2:wdsQ (5,n,A,B) ws=ws:=rfl;have e3:bytQ (5,n,A,B) bs=bs:=rfl;rw[e1,e2,e3,zfe h];exact⟨_,Prim.dget n A B h⟩
    . have e1:zkJ (6,n,A,B) ws bs=0:=rfl;have e2:wdsQ (6,n,A,B) ws=ws:=rfl;have e3:bytQ (6,n,A,B) bs=bS n A.toUInt8 bs:=rfl;rw[e1,e2,e3];exact⟨_,Prim.dput n A B h⟩
variable {X:Face Try.prog St}{h:AHeap}{t t0 tm tm':List Value}
theorem GE.wh{Γ:Type}{Sp:SpT Γ}{fn:Func}{A:Conf St->Γ×St->Prop}{B:Code}{K:List Item}{tmps:List Value}{S:St}{γ:Γ×St}(Inv:Nat->List Value->AHeap->St->Γ×St->Prop){m:Nat}(h0:Inv m tmps h S γ)(step:∀m tmps h S γ,(∀m' t' h' S' γ',m'<m->Inv m' t' h' S' γ'->GE X Sp fn A (.run (.inLoop B::K) t' h' S') γ')->Inv m tmps h S γ->Goes X fn (fun c=>GE X Sp fn A c γ) (.run (.code B::.inLoop B::K) tmps h S)):Goes X fn (fun c=>GE X Sp fn A c γ) (.run (.code (.loop B)::K) tmps h S):=by
  refine .ctl rfl ?_;have key:∀n,∀m tmps h S γ,m<n->Inv m tmps h S γ->Goes X fn (fun c=>GE X Sp fn A c γ) (.run (.code B::.inLoop B::K) tmps h S):=by
    intro n
    induction n with
    | zero=>intro m _ _ _ _ hm;omega
    | succ n ih =>
      intro m tmps h S γ hm hI;exact step m tmps h S γ (fun m' t' h' S' γ' hm' hI'=>GE.go (.ctl rfl (ih m' t' h' S' γ' (by omega) hI'))) hI
  exact key (m+1) m tmps h S γ (by omega) h0
theorem Goes.again{Γ:Type}{Sp:SpT Γ}{fn:Func}{A:Conf St->Γ×St->Prop}{c:Conf St}{γ:Γ×St}(h:GE X Sp fn A c γ):Goes X fn (fun c=>GE X Sp fn A c γ) c:=.here h
section
variable {G P:Type}{U:Sys G P}{pm n0:Nat}{S0:St}
theorem PI.sub1{γ:PG G P×St}{l:List (Option Blk)}{q c:Nat}{S:St}{ws:List UInt64}{bs:List UInt8}{fr:List Row}(H:PI U pm n0 S0 γ l q c S ws bs fr)(hd:d<=c):PI U pm n0 S0 γ l q d S ws bs fr :=
  ⟨H.keep,H.hm,H.inv,H.ll,by have:=H.bud;omega,H.nd,H.frl,H.cold,H.rows,H.thr,H.out,H.busy,H.old,H.pm0,H.len⟩
set_option maxRecDepth 10000 in
theorem zkb(ok:U.Ok){γ:PG G P×St}{l:List (Option Blk)}{q c:Nat}{S:St}{ws:List UInt64}{bs:List UInt8}{fr:List Row}{c0:Nat}(H:PI U pm n0 S0 γ l q c0 S ws bs fr){i k:Nat}(hc0:γ.1.pk k=none->c+1<=c0)(hc1:c<=c0)(hi:γ.1.ks[i]?=some k)(hfu:2<=γ.1.fuel)(lim2:Nat)(hlim:∀p,γ.1.pk k=some p->U.rank ws p.1<=lim2){Q:Value->AHeap->St->PG G P×St->Prop}(hQ:∀(γ':PG G P×St) (l':List (Option Blk)) (q':Nat) (S':St) (ws':List UInt64) (bs':List UInt8),PI U pm n0 S0 γ' l' q' c S' ws' bs' fr->γ'.1.ks=γ.1.ks->γ.1.fuel - 2<=γ'.1.fuel->(∀j,j≠k->γ'.1.pk j=γ.1.pk j)->(∀p',γ'.1.pk k=some p'->U.rank ws' p'.1<lim2)->Q (.tuple #[]) (zaw l' q' []) S' γ'):
    Runs MF (SpM (U.pr pm)) 27 #[hndV pm,hndV k] (zaw l q []) S γ Q:=by
  have hT:=H.thr i k hi;have hql:q<=500000000:=by have:=H.bud;have:=zhc;omega
  cases hp:γ.1.pk k with
  | none =>
    rw[hp]at hT;obtain⟨_,qt,cur,h1⟩:=hT;refine Runs.mk Try.func27 rfl rfl ?_;rw[Try.ntmps27];simp only[zSt,zLc,zLn,qi,zCa,zNa];refine via ?_;((first|refine qp1 rfl rfl fun K hK=>?_|refine qp3 rfl rfl fun K hK=>?_);simp (disch:=(first|omega|(simp only[sz]<;>omega)|fail)) only [go_sem];(first|refine⟨_,_,.idle h1,?_⟩|refine⟨_,_,.com (.idle h1),?_⟩);(try simp only[go_sem]);with_reducible refine hK _ _ ?_;clear hK K)
    refine via ?_;refine Goes.folds H.ll fun lf hlen hge hrow=>?_;refine Goes.retG rfl (by simp (disch:=(first|omega|(simp only[zaa,zLc,zLn,zSt,zad]<;>omega)|fail)) only [go_sem,resA,zaC,Try.results27]<;>rfl) ?_
    refine hQ _ _ _ _ _ _ ⟨H.keep,H.hm,ok.rows H.inv fun n b h _=>hge n b h,qz hlen,?_,H.nd,H.frl.ge hge,H.cold,fun k' hk' p' hp'=>⟨(H.rows k' hk' p' hp').1,(H.rows k' hk' p' hp').2.1.ge hge,(H.rows k' hk' p' hp').2.2⟩,H.thr,H.out,H.busy,H.old,H.pm0,H.len⟩ rfl (Nat.sub_le _ _) (fun _ _=>rfl) (fun p' hp'=>?_)
    . have:=H.bud;have:=hc0 hp;simp only[zLc,zLn];omega
    . rw[hp]at hp';cases hp'
  | some p =>
    rw[hp]at hT;obtain⟨_,qt,hpp,gid,dn,pd,wsf,st,ask,gr,hhp,h1,h2,h3⟩:=hT;obtain⟨b,hprim⟩:=zqr (U.acc p.1) H.hm (ok.acc p.1).1 (ok.acc p.1).2;refine Runs.mk Try.func27 rfl rfl ?_;rw[Try.ntmps27];simp only[zSt,zLc,zLn,qi,zCa,zNa];refine via ?_;((first|refine qp1 rfl rfl fun K hK=>?_|refine qp3 rfl rfl fun K hK=>?_);simp (disch:=(first|omega|(simp only[sz]<;>omega)|fail)) only [go_sem];(first|refine⟨_,_,.pend h1 h2,?_⟩|refine⟨_,_,.com (.pend h1 h2),?_⟩);(try simp only[go_sem]);with_reducible refine hK _ _ ?_;clear hK K)
    simp only[accV];refine via ?_;((first|refine qp1 rfl rfl fun K hK=>?_|refine qp3 rfl rfl fun K hK=>?_);simp (disch:=(first|omega|(simp only[sz]<;>omega)|fail)) only [go_sem];(first|refine⟨_,_,hprim,?_⟩|refine⟨_,_,.com (hprim),?_⟩);(try simp only[go_sem]);with_reducible refine hK _ _ ?_;clear hK K)
    refine via ?_;refine At.folds H.ll fun lf hlen hge hrow=>?_;(refine qs1 rfl rfl fun K hK=>?_;simp (disch:=(first|omega|(simp only[sz]<;>omega)|fail)) only [go_sem])
    refine PI.grant ok (H.sub1 hc1) hi hp hfu (fun n b h _=>hge n b h) (qz hlen) (by simp only[zLc,zLn];omega) (H.frl.ge hge) H.cold lim2 (hlim p hp) fun γ' l' q' S' k1 k2 k3 k4 k5 k6=>?_
    ((try simp only[go_sem]);with_reducible refine hK _ _ _ _ ?_;clear hK K)
    refine via ?_;refine Goes.retG rfl (by simp (disch:=(first|omega|(simp only[zaa,zLc,zLn,zSt,zad]<;>omega)|fail)) only [go_sem,resA,zaC,Try.results27]<;>rfl) ?_
    exact hQ _ _ _ _ _ _ k1 k2 (by omega) k4 k5
end
theorem bty:zaI Try.prog 39=some false/\zaj Try.prog 39=some 1/\zal Try.prog 39=some 8/\zar Try.prog 39=some .nilFunc:=by(repeat' apply And.intro)<;>kernel_rfl
attribute [go_sem] bty
variable {ks:List Nat}
section
variable {G P:Type}{U:Sys G P}{pm n0:Nat}{S0:St}
theorem PI.rowsT{γ:PG G P×St}{l l1:List (Option Blk)}{q q1 c:Nat}{S:St}{ws:List UInt64}{bs:List UInt8}{fr fr1:List Row}(ok:U.Ok)(H:PI U pm n0 S0 γ l q c S ws bs fr)(hg:∀(n:Nat) (b:Blk),l[n]?=some (some b)->zc0 b=false->l1[n]?=some (some b))(hl1:l1.length<=q1)(hq1:q1+d<=q+c)(hfr:Fr fr1 l1)(hcold:∀x∈fr1,U.hot x.2=false):PI U pm n0 S0 γ l1 q1 d S ws bs fr1 :=
  ⟨H.keep,H.hm,ok.rows H.inv hg,hl1,by have:=H.bud;omega,H.nd,hfr,hcold,fun k hk p hp=>⟨(H.rows k hk p hp).1,fun x hx=>hg _ _ ((H.rows k hk p hp).2.1 x hx) ((H.rows k hk p hp).2.2 x hx).2,(H.rows k hk p hp).2.2⟩,H.thr,H.out,H.busy,H.old,H.pm0,H.len⟩
theorem PI.sub{γ:PG G P×St}{l:List (Option Blk)}{q c:Nat}{S:St}{ws:List UInt64}{bs:List UInt8}{fr fr1:List Row}(H:PI U pm n0 S0 γ l q c S ws bs fr)(h:∀x∈fr1,x∈fr)(hd:d<=c):PI U pm n0 S0 γ l q d S ws bs fr1 :=
  ⟨H.keep,H.hm,H.inv,H.ll,by have:=H.bud;omega,H.nd,fun x hx=>H.frl x (h x hx),fun x hx=>H.cold x (h x hx),H.rows,H.thr,H.out,H.busy,H.old,H.pm0,H.len⟩
theorem PI.idle{γ:PG G P×St}{l:List (Option Blk)}{q c:Nat}{S:St}{ws:List UInt64}{bs:List UInt8}{fr:List Row}(H:PI U pm n0 S0 γ l q c S ws bs fr){i k:Nat}(hi:γ.1.ks[i]?=some k):∃(qt:Nat) (cur:Option (Nat×Nat×Nat)) (pe:Option Nat),S[k]?=some (.thr (i:Int) qt false (γ.1.pk k).isSome cur pe):=by
  have:=H.thr i k hi;cases hp:γ.1.pk k with
  | none=>rw[hp]at this;obtain⟨_,qt,cur,h⟩:=this;exact⟨_,_,_,h⟩
  | some p=>rw[hp]at this;obtain⟨_,qt,hpp,gid,dn,pd,w,st,ask,gr,_,h,_⟩:=this;exact⟨_,_,_,h⟩
theorem PI.klt{γ:PG G P×St}{l:List (Option Blk)}{q c:Nat}{S:St}{ws:List UInt64}{bs:List UInt8}{fr:List Row}(H:PI U pm n0 S0 γ l q c S ws bs fr){k:Nat}(hk:k∈γ.1.ks):k<S.length:=by
  obtain⟨i,hi⟩:=qm hk;obtain⟨_,_,_,h⟩:=H.idle hi;exact zaM h
def thrB(ks:List Nat):Blk:=⟨ks.map hndV,59,false,some 1⟩
def TRow(ks:List Nat)(l:List (Option Blk))(v:Value)(tr:List Row):Prop:=(ks=[]/\v=.slice none 0 0/\tr=[])\/(ks≠[]/\∃nt,v=.slice (some ⟨nt,0,none⟩) ks.length ks.length/\tr=[(nt,thrB ks)]/\l[nt]?=some (some (thrB ks)))
theorem TRow.fr{ks:List Nat}{l:List (Option Blk)}{v:Value}{tr fr:List Row}(h:TRow ks l v tr)(hf:Fr fr l):Fr (tr++fr) l:=fun x hx=>by
  rcases qO.1 hx with hx|hx
  . rcases h with⟨_,_,rfl⟩|⟨_,nt,_,rfl,h1⟩
    . cases hx
    . simp at hx;subst hx;exact h1
  . exact hf x hx
theorem TRow.back{l l':List (Option Blk)}{v:Value}{tr fr:List Row}(h:TRow ks l v tr)(hf:Fr (tr++fr) l'):TRow ks l' v tr:=by
  rcases h with⟨h1,h2,rfl⟩|⟨h1,nt,h2,rfl,_⟩
  . exact .inl ⟨h1,h2,rfl⟩
  . exact .inr ⟨h1,nt,h2,rfl,hf (nt,thrB ks) (by simp)⟩
theorem TRow.mine{l:List (Option Blk)}{v:Value}{tr:List Row}(h:TRow ks l v tr):∀x∈tr,zc0 x.2=true:=fun x hx=>by
  rcases h with⟨_,_,rfl⟩|⟨_,nt,_,rfl,_⟩
  . cases hx
  . simp at hx;subst hx;rfl
theorem zjh(ok:U.Ok){tr fr:List Row}(h:∀x∈tr,zc0 x.2=true)(hf:∀x∈fr,U.hot x.2=false):∀x∈tr++fr,U.hot x.2=false:=fun x hx=>by
  rcases qO.1 hx with hx|hx
  . cases hh:U.hot x.2 with
    | false=>rfl
    | true=>have:=ok.hot _ hh;rw[h x hx]at this;cases this
  . exact hf x hx
theorem zlg:AppT Try.prog 58 59 0:=AppT.of (bs:=8) (z:=.pointer none) (by simp only[go_sem]) (by simp only[go_sem]) (by simp only[go_sem]) (by simp only[go_sem]) (by simp[zab,Value.cells])
structure PEnd (U:Sys G P) (pm n0:Nat) (S0:St) (n:Nat) (γ:PG G P×St) (l:List (Option Blk)) (q:Nat) (S:St) (ws:List UInt64) (bs:List UInt8) (fr:List Row):Prop where
  keep:KeepC γ.2 S
  hm:S[pm]?=some (.mem ws bs)
  inv:U.inv γ.1.g ws bs (qi n none) l
  ll:l.length<=q
  ql:q<=500000000
  frl:Fr fr l
  busy:∀(k:Nat) a b c d e f,S[k]?=some (.thr a b c d e f)->d=false
  old:∀j,j<n0->j≠pm->S[j]?=S0[j]?
  len:n0<=S.length
set_option maxRecDepth 10000 in
theorem zmX(ok:U.Ok){γ:PG G P×St}{l:List (Option Blk)}{q c:Nat}{S:St}{ws:List UInt64}{bs:List UInt8}{fr:List Row}(H:PI U pm n0 S0 γ l q c S ws bs fr)(h0:γ.1.ks=[])(hfm:∀x∈fr,zc0 x.2=false)(bds:List (Nat×Array Value)){nb:Nat}{BB:Blk}(hnb:(nb,BB)∈fr)(hbb:∀(j:Nat) b,bds[j]?=some b->BB.cells[j]?=some (.func (.func b.1) #[] b.2)){sl:Option Addr}{rc:Nat}(rw':List Nat)(hrw:∀x∈rw',x<=255)(hrow:rw'≠[]->∃nr B,sl=some ⟨nr,0,none⟩/\(nr,B)∈fr/\∀(j x:Nat),rw'[j]?=some x->B.cells[j]?=some (.int .u8 (x:Int)))(most:Nat)(hmost:U.most<=most)(hmost2:most<=5000)(hn1:0<bds.length)(hn:bds.length<=20)(hlen:rw'.length<=1000)(hfu:2 * (bds.length+rw'.length+bds.length * (most+1))<=γ.1.fuel)(hc:1000000<=c)(hbody:∀(i:Nat) b,bds[i]?=some b->∀(k hp:Nat) (γ':PG G P×St) (l':List (Option Blk)) (q':Nat) (S':St) (ws':List UInt64) (bs':List UInt8),BH U pm i k hp (i:Int) 0 (U.most+1) γ' l' q' 1000 S' ws' bs'->γ'.1.ps.length=i+1->γ'.1.ps[i]?=some none->U.born i γ'.1.g ws' bs' γ'.1.ps l'->zeC (U.pr pm) k hp b.1 #[] b.2 (zaw l' q' []) S' γ'.1){Q:Value->AHeap->St->PG G P×St->Prop}(hQ:∀(γ':PG G P×St) (l':List (Option Blk)) (q':Nat) (S':St) (ws':List UInt64) (bs':List UInt8),PEnd U pm n0 S0 bds.length γ' l' q' S' ws' bs' fr->Q (.bool true) (zaw l' q' []) S' γ'):
    Runs MF (SpM (U.pr pm)) 9 #[hndV pm,.slice (some ⟨nb,0,none⟩) bds.length bds.length,.slice sl rw'.length rc,.int .i64 (most:Int)] (zaw l q []) S γ Q:=by
  refine Runs.mk Try.func9 rfl rfl ?_;rw[Try.ntmps9];simp only[zSt,zLc,zLn,qi,zCa,zNa];refine via ?_;obtain⟨n,hnn⟩:∃n,n=bds.length:=⟨_,rfl⟩;rw[<-hnn]at hn1 hn hfu hQ ⊢;have hfu':2 * n+2 * rw'.length+2 * n * (most+1)<=γ.1.fuel:=by
    have e:2 * (n+rw'.length+n * (most+1))=2 * n+2 * rw'.length+2 * n * (most+1):=by rw[Nat.mul_add,Nat.mul_add,Nat.mul_assoc]
    omega
  refine GE.wh (fun z tmps h S γ=>∃(i:Nat) (l:List (Option Blk)) (q:Nat) (ws:List UInt64) (bs:List UInt8) (v:Value) (tr:List Row),z=n - i/\i<=n/\h=zaw l q []/\PI U pm n0 S0 γ l q (900000+10 * (n - i)) S ws bs fr/\γ.1.ks.length=i/\TRow γ.1.ks l v tr/\2 * (n - i)+2 * rw'.length+2 * n * (most+1)<=γ.1.fuel/\tmps.length=106 /\
      tmps.getD 0 undef=hndV pm/\tmps.getD 1 undef=.slice (some ⟨nb,0,none⟩) n n/\tmps.getD 2 undef=.slice sl rw'.length rc/\tmps.getD 3 undef=.int .i64 (most:Int)/\tmps.getD 9 undef=v/\tmps.getD 10 undef=.int .i64 (i:Int)) (m:=n)
    ⟨0,l,q,ws,bs,.slice none 0 0,[],rfl,by omega,rfl,H.sub (fun _ h=>h) (by omega),by rw[h0];rfl,.inl ⟨h0,rfl,rfl⟩,by rw[Nat.sub_zero];exact hfu',rfl,rfl,rfl,rfl,rfl,rfl,rfl⟩ ?_
  rintro z tmps h S γ ih ⟨i,l,q,ws,bs,v,tr,rfl,hi,rfl,H,hks,hT,hfu,hl,f0,f1,f2,f3,f9,f10⟩;have hql:q<=500000000:=by have:=H.bud;have:=zhc;omega
  obtain⟨V,hV,hT⟩:=zbR hl;replace hT:_=([V 0,V 1,V 2,V 3,V 4,V 5,V 6,V 7,V 8,V 9,V 10,V 11,V 12,V 13,V 14,V 15,V 16,V 17,V 18,V 19,V 20,V 21,V 22,V 23,V 24,V 25,V 26,V 27,V 28,V 29,V 30,V 31,V 32,V 33,V 34,V 35,V 36,V 37,V 38,V 39,V 40,V 41,V 42,V 43,V 44,V 45,V 46,V 47,V 48,V 49,V 50,V 51,V 52,V 53,V 54,V 55,V 56,V 57,V 58,V 59,V 60,V 61,V 62,V 63,V 64,V 65,V 66,V 67,V 68,V 69,V 70,V 71,V 72,V 73,V 74,V 75,V 76,V 77,V 78,V 79,V 80,V 81,V 82,V 83,V 84,V 85,V 86,V 87,V 88,V 89,V 90,V 91,V 92,V 93,V 94,V 95,V 96,V 97,V 98,V 99,V 100,V 101,V 102,V 103,V 104,V 105]:List Value):=hT;rw[hV]at f0 f1 f2 f3 f9 f10;subst hT;simp only[f0,f1,f2,f3,f9,f10];clear hV hl;by_cases hin:i<n
  case pos =>
    refine via ?_;(refine qs1 rfl rfl fun K hK=>?_;simp (disch:=(first|omega|(simp only[sz]<;>omega)|fail)) only [go_sem])
    refine .inl ⟨(i:Int),rfl,rfl,H.keep,fun qc=>?_⟩
    ((try simp only[go_sem]);with_reducible refine hK _ _ _ _ ?_;clear hK K)
    have hbs:∃b,bds[i]?=some b:=⟨_,qg (by omega)⟩
    obtain⟨b,hb⟩:=hbs;have hcell:BB.cells[i * 1]?=some (.func (.func b.1) #[] b.2):=by rw[qq];exact hbb i b hb
    have hnbl:l[nb]?=some (some BB):=H.frl _ hnb;have hnq:nb<q:=qh (qa.1 hnbl).1 H.ll;have H1:=H.new (i:Int) qc;refine viaF (And.intro hnbl hcell) ?_;(refine qs1 rfl rfl fun K hK=>?_;simp (disch:=(first|omega|(simp only[sz]<;>omega)|fail)) only [go_sem])
    refine PI.start ok H1 (i:=i) (qt:=qc) (by simp) (fun hm=>Nat.lt_irrefl _ (H.klt hm)) H.len hks.symm (by show 2<=γ.1.fuel;omega) (fun _ _ h _=>h) H.ll (by omega) (hT.fr H.frl) (zjh ok hT.mine H.cold) (fun hp γ' S' hB hl hn hb'=>hbody i b hb S.length hp γ' l q S' ws bs hB hl hn hb') fun γ' l' q' S' H2 hks2 hfu2 hqq=>?_
    have hks2:γ'.1.ks=γ.1.ks++[S.length]:=hks2;have hfu2:γ'.1.fuel=γ.1.fuel - 2:=hfu2;have hql':q'<=500000000:=by have:=H2.bud;have:=zhc;omega
    ((try simp only[go_sem]);with_reducible refine hK _ _ _ _ ?_;clear hK K)
    refine via ?_;have hT2:=hT.back H2.frl;have hmine:=hT.mine;rcases hT2 with⟨e1,e2,e3⟩|⟨e1,nt,e2,e3,hnt⟩
    . subst e2 e3;(refine At.appE rfl rfl rfl rfl (zkA zlg (zfv 0 rfl rfl (by decide)) (by decide) (by decide)) (by simp (disch:=(first|omega|(simp only[sz]<;>omega)|fail)) only [go_sem];(try simp only[sz]);unfold VB;omega) fun K hK=>?_;simp (disch:=(first|omega|(simp only[sz]<;>omega)|fail)) only [go_sem];with_reducible refine hK _ _ ?_;clear hK K)
      refine via ?_;refine Goes.folds H2.ll fun lf hlf hge hrow=>?_;have hks3:γ'.1.ks=[S.length]:=by rw[hks2,e1];rfl
      refine Goes.again (ih (n - (i+1)) _ _ _ _ (by omega) ⟨i+1,lf,_,ws,bs,.slice (some ⟨q'+1,0,none⟩) 1 1,[(q'+1,thrB [S.length])],rfl,by omega,rfl,(H2.sub (fun _ h=>h) (qf _)).rowsT ok (fun x y h _=>hge x y h) (qz hlf) (by simp only[zLc,zLn];omega) (H2.frl.ge hge) H2.cold,by rw[hks3,<-hks,e1];rfl,.inr ⟨by rw[hks3];simp,_,by rw[hks3];rfl,by rw[hks3],by rw[hks3];exact hrow 1⟩,by omega,rfl,rfl,rfl,rfl,rfl,rfl,rfl⟩)
    . subst e2 e3;have hntl:=(qa.1 hnt).1;have hntq:nt<q':=qh (qa.1 hnt).1 H2.ll;have hkg:∀ys,(zaw l' q' ys).get nt=some ⟨γ.1.ks.map hndV,59,false,some 1⟩:=fun ys=>by
        rw[zeU (by omega),hnt];rfl
      (refine At.appE rfl rfl rfl rfl (zmc zlg (hkg _) rfl rfl (by rw[List.length_map,Nat.zero_add,qq]) (zfv 0 rfl rfl (by decide)) rfl (by decide) (by omega)) (by simp (disch:=(first|omega|(simp only[sz]<;>omega)|fail)) only [go_sem];(try simp only[sz]);unfold VB;omega) fun K hK=>?_;simp (disch:=(first|omega|(simp only[sz]<;>omega)|fail)) only [go_sem];with_reducible refine hK _ _ ?_;clear hK K);refine via ?_
      refine Goes.folds (by rw[List.length_set];exact H2.ll) fun lf hlf hge hrow=>?_
      have hgm:∀(x:Nat) (y:Blk),l'[x]?=some (some y)->zc0 y=false->lf[x]?=some (some y):=fun x y h hm=>hge x y (by
        rw[qb fun e=>?_]
        . exact h
        . subst e;rw[hnt]at h;cases h;cases hm)
      refine Goes.again (ih (n - (i+1)) _ _ _ _ (by omega) ⟨i+1,lf,_,ws,bs,.slice (some ⟨q'+1,0,none⟩) (γ.1.ks.length+1) (γ.1.ks.length+1),[(q'+1,thrB (γ.1.ks++[S.length]))],rfl,by omega,rfl,H2.rowsT ok hgm (qz hlf) (by simp only[zLc,zLn];omega) (fun x hx=>hgm _ _ (H2.frl x (qF _ hx)) (hfm x hx)) (fun x hx=>H2.cold x (qF _ hx)),by rw[hks2];simp[hks],.inr ⟨by rw[hks2];simp,q'+1,by rw[hks2];simp,by rw[hks2],by rw[hks2];refine(hrow 1).trans ?_;simp[thrB]⟩,by omega,rfl,rfl,rfl,rfl,rfl,rfl,by push_cast;rfl⟩)
  obtain rfl:i=n:=by omega
  refine via ?_;have hksn:γ.1.ks.length=i:=hks;rcases hT with⟨e1,_⟩|⟨e1,nt,rfl,rfl,hnt⟩
  . rw[e1]at hks;simp at hks;omega
  rw[hks];clear ih;refine GE.wh (fun z tmps h S γ=>∃(j:Nat) (l:List (Option Blk)) (q:Nat) (ws:List UInt64) (bs:List UInt8) (ks:List Nat),z=rw'.length - j/\j<=rw'.length/\h=zaw l q []/\γ.1.ks=ks/\ks.length=i/\PI U pm n0 S0 γ l q (800000+(rw'.length - j)) S ws bs ((nt,thrB ks)::fr)/\2 * (rw'.length - j)+2 * i * (most+1)<=γ.1.fuel/\tmps.length=106 /\
      tmps.getD 0 undef=hndV pm/\tmps.getD 2 undef=.slice sl rw'.length rc/\tmps.getD 3 undef=.int .i64 (most:Int)/\tmps.getD 9 undef=.slice (some ⟨nt,0,none⟩) i i/\tmps.getD 12 undef=.int .i64 (j:Int)) (m:=rw'.length)
    ⟨0,l,q,ws,bs,γ.1.ks,rfl,by omega,rfl,rfl,hks,⟨H.keep,H.hm,H.inv,H.ll,by have:=H.bud;omega,H.nd,Fr.cons hnt H.frl,fun x hx=>?_,H.rows,H.thr,H.out,H.busy,H.old,H.pm0,H.len⟩,by omega,rfl,rfl,rfl,rfl,rfl,rfl⟩ ?_
  . rcases List.mem_cons.1 hx with rfl|hx
    . exact zjh ok (tr:=[(nt,thrB γ.1.ks)]) (fr:=fr) (fun x hx=>by simp at hx;subst hx;rfl) H.cold _ (List.mem_append_left _ (List.mem_singleton.2 rfl))
    . exact H.cold x hx
  clear hnt hfu hfu' H;rintro z tmps h S γ ih ⟨j,l,q,ws,bs,ks,rfl,hj,rfl,rfl,hks,H,hfu,hl,f0,f2,f3,f9,f12⟩;have hql:q<=500000000:=by have:=H.bud;have:=zhc;omega
  obtain⟨V,hV,hT⟩:=zbR hl;replace hT:_=([V 0,V 1,V 2,V 3,V 4,V 5,V 6,V 7,V 8,V 9,V 10,V 11,V 12,V 13,V 14,V 15,V 16,V 17,V 18,V 19,V 20,V 21,V 22,V 23,V 24,V 25,V 26,V 27,V 28,V 29,V 30,V 31,V 32,V 33,V 34,V 35,V 36,V 37,V 38,V 39,V 40,V 41,V 42,V 43,V 44,V 45,V 46,V 47,V 48,V 49,V 50,V 51,V 52,V 53,V 54,V 55,V 56,V 57,V 58,V 59,V 60,V 61,V 62,V 63,V 64,V 65,V 66,V 67,V 68,V 69,V 70,V 71,V 72,V 73,V 74,V 75,V 76,V 77,V 78,V 79,V 80,V 81,V 82,V 83,V 84,V 85,V 86,V 87,V 88,V 89,V 90,V 91,V 92,V 93,V 94,V 95,V 96,V 97,V 98,V 99,V 100,V 101,V 102,V 103,V 104,V 105]:List Value):=hT;rw[hV]at f0 f2 f3 f9 f12;subst hT;simp only[f0,f2,f3,f9,f12];clear hV hl;have hnt:l[nt]?=some (some (thrB γ.1.ks)):=H.frl (nt,thrB γ.1.ks) qy;have hntq:nt<q:=qh (qa.1 hnt).1 H.ll;by_cases hjn:j<rw'.length
  case pos =>
    obtain⟨x,hx⟩:∃x,rw'[j]?=some x:=⟨_,qg hjn⟩;obtain⟨nr,B,rfl,hB,hcells⟩:=hrow (fun e=>by rw[e]at hjn;simp at hjn)
    have hBl:l[nr]?=some (some B):=H.frl _ (qG _ hB);have hBq:nr<q:=qh (qa.1 hBl).1 H.ll;have hxc:B.cells[j * 1]?=some (.int .u8 (x:Int)):=by rw[qq];exact hcells j x hx
    have hx8:=hrw x (qv hx);have hxi:x % i<i:=Nat.mod_lt _ (by omega)
    have et:(x:Int).tmod (i:Int)=((x % i:Nat):Int):=ztn x i;obtain⟨k,hk⟩:∃k,γ.1.ks[x % i]?=some k:=⟨_,qg (by omega)⟩
    have hnt2:l[nt]?=some (some ⟨γ.1.ks.map hndV,59,false,some 1⟩):=hnt;have hkc:(γ.1.ks.map hndV)[x % i * 1]?=some (hndV k):=by rw[qq];simp[hk]
    generalize hm:x % i=m at hxi et hk hkc;refine viaF (And.intro hBl (And.intro hxc (And.intro et (And.intro hnt2 hkc)))) ?_;(refine qg1 rfl rfl fun K hK=>?_;simp (disch:=(first|omega|(simp only[sz]<;>omega)|fail)) only [go_sem])
    refine zkb ok (c:=800000+(rw'.length - (j+1))) H (fun _=>by omega) (by omega) hk (by omega) U.most (fun p hp=>(ok.rank (i:=m) H.inv (by rw[zq4 hk,hp];rfl)).2) fun γ' l' q' S' ws' bs' k1 k2 k3 k4 k5=>?_
    ((try simp only[go_sem]);with_reducible refine hK _ _ _ _ ?_;clear hK K)
    refine via ?_;refine Goes.again (ih (rw'.length - (j+1)) _ _ _ _ (by omega) ⟨j+1,l',q',ws',bs',γ'.1.ks,rfl,by omega,rfl,rfl,by rw[k2];exact hks,by rw[k2];exact k1,by omega,rfl,rfl,rfl,rfl,rfl,by push_cast;rfl⟩)
  obtain rfl:j=rw'.length:=by omega
  refine via ?_;clear ih;have hrk:∀{γ:PG G P×St} {l:List (Option Blk)} {q c:Nat} {S:St} {ws:List UInt64} {bs:List UInt8} {fr:List Row} {m k:Nat} {p:P×Nat×List Row},PI U pm n0 S0 γ l q c S ws bs fr->γ.1.ks[m]?=some k->γ.1.pk k=some p->1<=U.rank ws p.1/\U.rank ws p.1<=U.most:=fun {γ l q c S ws bs fr m k p} H hk hp=>ok.rank (i:=m) H.inv (by rw[zq4 hk,hp];rfl)
  refine GE.wh (fun z tmps h S γ=>∃(j:Nat) (l:List (Option Blk)) (q:Nat) (ws:List UInt64) (bs:List UInt8) (ks:List Nat),z=i - j/\j<=i/\h=zaw l q []/\γ.1.ks=ks/\ks.length=i/\PI U pm n0 S0 γ l q 700000 S ws bs ((nt,thrB ks)::fr)/\(∀(x k:Nat),x<j->ks[x]?=some k->γ.1.pk k=none)/\2 * ((i - j) * (most+1))<=γ.1.fuel/\tmps.length=106 /\
      tmps.getD 0 undef=hndV pm/\tmps.getD 3 undef=.int .i64 (most:Int)/\tmps.getD 9 undef=.slice (some ⟨nt,0,none⟩) i i/\tmps.getD 13 undef=.bool true/\tmps.getD 14 undef=.int .i64 (j:Int)) (m:=i)
    ⟨0,l,q,ws,bs,γ.1.ks,rfl,by omega,rfl,rfl,hks,H.sub1 (by omega),fun _ _ h=>by omega,by rw[Nat.sub_zero,<-Nat.mul_assoc];omega,rfl,rfl,rfl,rfl,rfl,rfl⟩ ?_
  clear hnt hfu hntq hql H;rintro z tmps h S γ ih ⟨j,l,q,ws,bs,ks,rfl,hj,rfl,rfl,hks,H,hno,hfu,hl,f0,f3,f9,f13,f14⟩;have hql:q<=500000000:=by have:=H.bud;have:=zhc;omega
  obtain⟨V,hV,hT⟩:=zbR hl;replace hT:_=([V 0,V 1,V 2,V 3,V 4,V 5,V 6,V 7,V 8,V 9,V 10,V 11,V 12,V 13,V 14,V 15,V 16,V 17,V 18,V 19,V 20,V 21,V 22,V 23,V 24,V 25,V 26,V 27,V 28,V 29,V 30,V 31,V 32,V 33,V 34,V 35,V 36,V 37,V 38,V 39,V 40,V 41,V 42,V 43,V 44,V 45,V 46,V 47,V 48,V 49,V 50,V 51,V 52,V 53,V 54,V 55,V 56,V 57,V 58,V 59,V 60,V 61,V 62,V 63,V 64,V 65,V 66,V 67,V 68,V 69,V 70,V 71,V 72,V 73,V 74,V 75,V 76,V 77,V 78,V 79,V 80,V 81,V 82,V 83,V 84,V 85,V 86,V 87,V 88,V 89,V 90,V 91,V 92,V 93,V 94,V 95,V 96,V 97,V 98,V 99,V 100,V 101,V 102,V 103,V 104,V 105]:List Value):=hT;rw[hV]at f0 f3 f9 f13 f14;subst hT;simp only[f0,f3,f9,f13,f14];clear hV hl;by_cases hji:j<i
  case pos =>
    refine via ?_;obtain⟨k0,hk0⟩:∃k,γ.1.ks[j]?=some k:=⟨_,qg (by omega)⟩
    have efu:(i - j) * (most+1)=(i - (j+1)) * (most+1)+(most+1):=by rw[<-Nat.succ_mul];congr 1;omega
    refine GE.wh (fun z tmps h S γ=>∃(x:Nat) (l:List (Option Blk)) (q:Nat) (ws:List UInt64) (bs:List UInt8) (ks:List Nat),z=most - x/\x<=most/\h=zaw l q []/\γ.1.ks=ks/\ks.length=i/\ks[j]?=some k0/\PI U pm n0 S0 γ l q 700000 S ws bs ((nt,thrB ks)::fr)/\(∀(x k:Nat),x<j->ks[x]?=some k->γ.1.pk k=none)/\(∀p,γ.1.pk k0=some p->x+U.rank ws p.1<=most)/\2 * ((i - (j+1)) * (most+1))+2 * (most+1 - x)<=γ.1.fuel/\tmps.length=106 /\
        tmps.getD 0 undef=hndV pm/\tmps.getD 3 undef=.int .i64 (most:Int)/\tmps.getD 9 undef=.slice (some ⟨nt,0,none⟩) i i/\tmps.getD 13 undef=.bool true/\tmps.getD 14 undef=.int .i64 (j:Int)/\tmps.getD 15 undef=.int .i64 (x:Int)) (m:=most)
      ⟨0,l,q,ws,bs,γ.1.ks,rfl,by omega,rfl,rfl,hks,hk0,H,hno,fun p hp=>by have:=(hrk H hk0 hp).2;omega,by omega,rfl,rfl,rfl,rfl,rfl,rfl,rfl⟩ ?_
    clear hfu hno H hql hks hk0;rintro z tmps h S γ ih2 ⟨x,l,q,ws,bs,ks,rfl,hx,rfl,rfl,hks,hk0,H,hno,hra,hfu,hl,f0,f3,f9,f13,f14,f15⟩;have hql:q<=500000000:=by have:=H.bud;have:=zhc;omega
    obtain⟨V,hV,hT⟩:=zbR hl;replace hT:_=([V 0,V 1,V 2,V 3,V 4,V 5,V 6,V 7,V 8,V 9,V 10,V 11,V 12,V 13,V 14,V 15,V 16,V 17,V 18,V 19,V 20,V 21,V 22,V 23,V 24,V 25,V 26,V 27,V 28,V 29,V 30,V 31,V 32,V 33,V 34,V 35,V 36,V 37,V 38,V 39,V 40,V 41,V 42,V 43,V 44,V 45,V 46,V 47,V 48,V 49,V 50,V 51,V 52,V 53,V 54,V 55,V 56,V 57,V 58,V 59,V 60,V 61,V 62,V 63,V 64,V 65,V 66,V 67,V 68,V 69,V 70,V 71,V 72,V 73,V 74,V 75,V 76,V 77,V 78,V 79,V 80,V 81,V 82,V 83,V 84,V 85,V 86,V 87,V 88,V 89,V 90,V 91,V 92,V 93,V 94,V 95,V 96,V 97,V 98,V 99,V 100,V 101,V 102,V 103,V 104,V 105]:List Value):=hT;rw[hV]at f0 f3 f9 f13 f14 f15;subst hT;simp only[f0,f3,f9,f13,f14,f15];clear hV hl;have hnt:l[nt]?=some (some ⟨γ.1.ks.map hndV,59,false,some 1⟩):=H.frl (nt,thrB γ.1.ks) qy;have hntq:nt<q:=qh (qa.1 hnt).1 H.ll;have hkc:(γ.1.ks.map hndV)[j * 1]?=some (hndV k0):=by rw[qq];simp[hk0]
    obtain⟨qt,cur,pe,hS⟩:=H.idle hk0;cases hp:γ.1.pk k0 with
    | none =>
      rw[hp]at hS;have hno2:∀(y k:Nat),y<j+1->γ.1.ks[y]?=some k->γ.1.pk k=none:=fun y k hy hk=>by
        by_cases e:y=j
        . subst e;rw[hk0]at hk;cases hk;exact hp
        . exact hno y k (by omega) hk
      by_cases hxm:x<most
      . refine viaF (And.intro hnt hkc) ?_;((first|refine qp1 rfl rfl fun K hK=>?_|refine qp3 rfl rfl fun K hK=>?_);simp (disch:=(first|omega|(simp only[sz]<;>omega)|fail)) only [go_sem];(first|refine⟨_,_,.busy hS,?_⟩|refine⟨_,_,.com (.busy hS),?_⟩);(try simp only[go_sem]);with_reducible refine hK _ _ ?_;clear hK K)
        refine viaF (And.intro hnt hkc) ?_;((first|refine qp1 rfl rfl fun K hK=>?_|refine qp3 rfl rfl fun K hK=>?_);simp (disch:=(first|omega|(simp only[sz]<;>omega)|fail)) only [go_sem];(first|refine⟨_,_,.busy hS,?_⟩|refine⟨_,_,.com (.busy hS),?_⟩);(try simp only[go_sem]);with_reducible refine hK _ _ ?_;clear hK K)
        refine viaF (And.intro hnt hkc) ?_;refine Goes.again (ih (i - (j+1)) _ _ _ _ (by omega) ⟨j+1,l,q,ws,bs,γ.1.ks,rfl,by omega,rfl,rfl,hks,H,hno2,by omega,rfl,rfl,rfl,rfl,rfl,by push_cast;rfl⟩)
      . refine viaF (And.intro hnt hkc) ?_;((first|refine qp1 rfl rfl fun K hK=>?_|refine qp3 rfl rfl fun K hK=>?_);simp (disch:=(first|omega|(simp only[sz]<;>omega)|fail)) only [go_sem];(first|refine⟨_,_,.busy hS,?_⟩|refine⟨_,_,.com (.busy hS),?_⟩);(try simp only[go_sem]);with_reducible refine hK _ _ ?_;clear hK K)
        refine viaF (And.intro hnt hkc) ?_;refine Goes.again (ih (i - (j+1)) _ _ _ _ (by omega) ⟨j+1,l,q,ws,bs,γ.1.ks,rfl,by omega,rfl,rfl,hks,H,hno2,by omega,rfl,rfl,rfl,rfl,rfl,by push_cast;rfl⟩)
    | some p =>
      rw[hp]at hS;have h1:=hra p hp;have h2:=hrk H hk0 hp;have hxm:x<most:=by omega
      refine viaF (And.intro hnt hkc) ?_;((first|refine qp1 rfl rfl fun K hK=>?_|refine qp3 rfl rfl fun K hK=>?_);simp (disch:=(first|omega|(simp only[sz]<;>omega)|fail)) only [go_sem];(first|refine⟨_,_,.busy hS,?_⟩|refine⟨_,_,.com (.busy hS),?_⟩);(try simp only[go_sem]);with_reducible refine hK _ _ ?_;clear hK K)
      refine viaF (And.intro hnt hkc) ?_;(refine qg1 rfl rfl fun K hK=>?_;simp (disch:=(first|omega|(simp only[sz]<;>omega)|fail)) only [go_sem])
      refine zkb ok (c:=700000) H (fun hn=>by rw[hp]at hn;cases hn) (by omega) hk0 (by omega) (U.rank ws p.1) (fun p' hp'=>by rw[hp]at hp';cases hp';exact qf _) fun γ' l' q' S' ws' bs' k1 k2 k3 k4 k5=>?_
      ((try simp only[go_sem]);with_reducible refine hK _ _ _ _ ?_;clear hK K)
      refine via ?_;refine Goes.again (ih2 (most - (x+1)) _ _ _ _ (by omega) ⟨x+1,l',q',ws',bs',γ'.1.ks,rfl,by omega,rfl,rfl,by rw[k2];exact hks,by rw[k2];exact hk0,by rw[k2];exact k1,fun y k hy hk=>?_,fun p' hp'=>by have:=k5 p' hp';omega,by omega,rfl,rfl,rfl,rfl,rfl,rfl,by push_cast;rfl⟩)
      rw[k2]at hk;rw[k4 k fun e=>?_]
      . exact hno y k hy hk
      . subst e;have:=znJ H.nd hk hk0;omega
  obtain rfl:j=i:=by omega
  refine via ?_;clear ih hrk;have hbusy:∀(k:Nat) a b c d e f,S[k]?=some (.thr a b c d e f)->d=false:=fun k a b c d e f h=>by
    cases d with
    | false=>rfl
    | true =>
      obtain⟨x,hx⟩:=qm (H.busy _ _ _ _ _ _ h);have hlt:=(qa.1 hx).1;obtain⟨qt,cur,pe,h2⟩:=H.idle hx;rw[hno x k (by omega) hx]at h2
      rw[h]at h2;cases h2
  have hidle:∀(x k:Nat),γ.1.ks[x]?=some k->∃qt cur,S[k]?=some (.thr (x:Int) qt false false cur none):=fun x k hx=>by
    have hlt:=(qa.1 hx).1;have:=H.thr x k hx;rw[hno x k (by omega) hx]at this
    obtain⟨_,qt,cur,h⟩:=this;exact⟨qt,cur,h⟩
  have hk0:∀k∈γ.1.ks,n0<=k:=fun k hk=>by
    obtain⟨x,hx⟩:=qm hk;have:=H.thr x k hx;rw[hno x k (by have:=(qa.1 hx).1;omega) hx]at this
    exact this.1
  have hps:γ.1.ps=qi j none:=by
    rw[<-hks];refine List.eq_replicate_iff.2 ⟨by simp[PG.ps],fun y hy=>?_⟩
    obtain⟨k,hk,rfl⟩:=List.mem_map.1 hy;obtain⟨x,hx⟩:=qm hk;rw[hno x k (by have:=(qa.1 hx).1;omega) hx];rfl
  have hnt:l[nt]?=some (some ⟨γ.1.ks.map hndV,59,false,some 1⟩):=H.frl (nt,thrB γ.1.ks) qy;have hntq:nt<q:=qh (qa.1 hnt).1 H.ll;refine GE.wh (fun z tmps h S' γ'=>∃m:Nat,z=j - m/\m<=j/\h=zaw l q []/\γ'.1=γ.1/\KeepC γ'.2 S'/\S'[pm]?=some (.mem ws bs)/\(∀(x k:Nat),m<=x->γ.1.ks[x]?=some k->∃qt cur,S'[k]?=some (.thr (x:Int) qt false false cur none))/\(∀(k:Nat) a b c d e f,S'[k]?=some (.thr a b c d e f)->d=false)/\(∀x,x<n0->x≠pm->S'[x]?=S0[x]?)/\n0<=S'.length/\tmps.length=106 /\
      tmps.getD 9 undef=.slice (some ⟨nt,0,none⟩) j j/\tmps.getD 13 undef=.bool true/\tmps.getD 16 undef=.int .i64 (m:Int)) (m:=j)
    ⟨0,rfl,by omega,rfl,rfl,H.keep,H.hm,fun x k _ hx=>hidle x k hx,hbusy,H.old,H.len,rfl,rfl,rfl,rfl⟩ ?_
  rintro z tmps h S' γ' ih ⟨m,rfl,hm,rfl,hγ,c1,c2,c3,c4,c5,c6,hl,f9,f13,f16⟩;obtain⟨V,hV,hT⟩:=zbR hl;replace hT:_=([V 0,V 1,V 2,V 3,V 4,V 5,V 6,V 7,V 8,V 9,V 10,V 11,V 12,V 13,V 14,V 15,V 16,V 17,V 18,V 19,V 20,V 21,V 22,V 23,V 24,V 25,V 26,V 27,V 28,V 29,V 30,V 31,V 32,V 33,V 34,V 35,V 36,V 37,V 38,V 39,V 40,V 41,V 42,V 43,V 44,V 45,V 46,V 47,V 48,V 49,V 50,V 51,V 52,V 53,V 54,V 55,V 56,V 57,V 58,V 59,V 60,V 61,V 62,V 63,V 64,V 65,V 66,V 67,V 68,V 69,V 70,V 71,V 72,V 73,V 74,V 75,V 76,V 77,V 78,V 79,V 80,V 81,V 82,V 83,V 84,V 85,V 86,V 87,V 88,V 89,V 90,V 91,V 92,V 93,V 94,V 95,V 96,V 97,V 98,V 99,V 100,V 101,V 102,V 103,V 104,V 105]:List Value):=hT;rw[hV]at f9 f13 f16;subst hT;simp only[f9,f13,f16];clear hV hl;by_cases hmj:m<j
  case pos =>
    obtain⟨k0,hk2⟩:∃k,γ.1.ks[m]?=some k:=⟨_,qg (by omega)⟩
    have hkc:(γ.1.ks.map hndV)[m * 1]?=some (hndV k0):=by rw[qq];simp[hk2]
    obtain⟨qt,cur,hS⟩:=c3 m k0 (qf _) hk2;have hkl:=zaM hS;have hkn:=hk0 k0 (qv hk2);refine viaF (And.intro hnt hkc) ?_;(refine qs1 rfl rfl fun K hK=>?_;simp (disch:=(first|omega|(simp only[sz]<;>omega)|fail)) only [go_sem])
    refine .inr (.inr (.inr ⟨k0,qt,(m:Int),cur,none,rfl,rfl,c1,hS,?_⟩))
    ((try simp only[go_sem]);with_reducible refine hK _ _ _ _ ?_;clear hK K)
    refine via ?_;refine Goes.again (ih (j - (m+1)) _ _ _ _ (by omega) ⟨m+1,rfl,by omega,rfl,hγ,KeepC.refl _,?_,fun x k hx hk=>?_,fun k a b c d e f h=>?_,fun x hx hxp=>?_,by simpa using c6,rfl,rfl,rfl,by push_cast;rfl⟩)
    . rw[qb fun e=>?_]
      . exact c2
      . subst e;rw[hS]at c2;cases c2
    . rw[qb fun e=>?_]
      . exact c3 x k (by omega) hk
      . subst e;have:=znJ H.nd hk hk2;omega
    . by_cases e2:k0=k
      . subst e2;rw[qE hkl]at h;cases h;rfl
      . rw[qb e2]at h;exact c4 _ _ _ _ _ _ _ h
    . rw[qb (by omega)]
      exact c5 x hx hxp
  refine via ?_;refine Goes.retG rfl (by simp (disch:=(first|omega|(simp only[zaa,zLc,zLn,zSt,zad]<;>omega)|fail)) only [go_sem,resA,zaC,Try.results9]<;>rfl) ?_
  exact hQ _ _ _ _ _ _ ⟨c1,c2,by rw[hγ,<-hps];exact H.inv,H.ll,hql,fun x hx=>H.frl x (qG _ hx),c4,c5,c6⟩
end
variable {P:Program}{e e':Operand->Value}
theorem zik{h0:AHeap}{op:Op}(h:∀x∈op.operands,e x=e' x):valA P e h0 op=valA P e' h0 op:=by
  cases op with
  | call c =>
    simp only[valA,zlv];have ha:∀x∈c.args.toList,e x=e' x:=fun x hx=>h x (by simp only[qe,qx];(try simp only[qL]);first|exact .inr (by simpa using hx)|exact .inl (by simpa using hx)|(simpa using hx))
    cases c.callee with
    | builtin b =>
      cases b<;>try rfl
      . rcases hl:c.args.toList with _|⟨x,_|⟨y,l⟩⟩<;>simp only[]<;>rcases c.argTypes.toList with _|⟨t,_|⟨t',l'⟩⟩<;>simp only[]
        rw[ha x (by rw[hl];simp)]
      . rcases hl:c.args.toList with _|⟨x,l⟩<;>simp only[]
        rw[ha x (by rw[hl];simp),qw fun y hy=>ha y (by rw[hl];simp[hy])]
      . rcases hl:c.args.toList with _|⟨x,l⟩<;>simp only[]
        rw[ha x (by rw[hl];simp),qw fun y hy=>ha y (by rw[hl];simp[hy])]
    | _=>rfl
  | build t ps =>
    simp only[valA];have:ps.toList.map (fun p=>(p.1,e p.2))=ps.toList.map (fun p=>(p.1,e' p.2)):=qw fun p hp=>by rw[h p.2 (by simp only[qe];simp;exact⟨p.1,by simpa using hp⟩)]
    rw[this]
  | makeFunc fn xs ys =>
    simp only[valA];have e1:xs.map e=xs.map e':=qs fun x hx=>h x (by simp[qe,hx])
    have e2:ys.map e=ys.map e':=qs fun x hx=>h x (by simp[qe,hx])
    rw[e1,e2]
  | slice t x lo hi mx =>
    simp only[valA];have e1:e x=e' x:=h x (by simp[qe])
    have e2:lo.map e=lo.map e':=by cases lo with|none=>rfl|some a=>exact congrArg some (h a (by simp[qe]))
    have e3:hi.map e=hi.map e':=by cases hi with|none=>rfl|some a=>exact congrArg some (h a (by simp[qe]))
    have e4:mx.map e=mx.map e':=by cases mx with|none=>rfl|some a=>exact congrArg some (h a (by simp[qe]))
    rw[e1,e2,e3,e4]
  | _=>simp only[valA]<;>simp_all [qe]
theorem ze3{op:Op}(h:∀x∈op.operands,e x=e' x):zaQ P e op=zaQ P e' op:=by
  cases op with
  | call c =>
    have ha:∀x∈c.args,e x=e' x:=fun x hx=>h x (by simp only[qe,qx];(try simp only[qL]);first|exact .inr hx|exact .inl hx|exact hx)
    obtain⟨callee,args,ats⟩:=c;have hm:args.map e=args.map e':=qs ha;cases callee with
    | value f =>
      have hf:e f=e' f:=h f (by simp[qe,qx])
      simp only[zaQ,hf,hm]
    | invoke r nm =>
      have hf:e r=e' r:=h r (by simp[qe,qx])
      simp only[zaQ,hf,hm]
    | _=>rfl
  | _=>rfl
variable {vs:Nat->Value}
section
variable {Γ:Type}{X:Face Try.prog St}{Sp:SpT Γ}{fn:Func}{A:Conf St->Γ × St->Prop}{ops:Array Oper}{k:List Item}
inductive Quiet (X:Face Try.prog St) (o:Oper) (e:Operand->Value) (h:AHeap) (S:St) (v:Value):Prop
  | val (hv:valA Try.prog e h o.op=some v)
  | prim (f:FuncId) (g:Func) (args:Array Value) (hca:zaQ Try.prog e o.op=some (f,args)) (hf:Try.prog.funcs[f]?=some g) (hg:goB g=true) (hp:X.prim f args S v S)
  | call (f:FuncId) (args:Array Value) (hca:zaQ Try.prog e o.op=some (f,args)) (D:Does X f args [] S v S)
theorem Quiet.congr{o:Oper}{S:St}{v:Value}(H:Quiet X o e h S v)(he:∀x∈o.op.operands,e x=e' x):Quiet X o e' h S v:=by
  cases H with
  | val hv=>exact .val ((zik he).symm.trans hv)
  | prim f g args hca hf hg hp=>exact .prim f g args ((ze3 he).symm.trans hca) hf hg hp
  | call f args hca D=>exact .call f args ((ze3 he).symm.trans hca) D
theorem Quiet.go{o:Oper}{i:Nat}{rest:List Nat}{tmps:List Value}{S:St}{v:Value}{B:Conf St->Prop}(H:Quiet X o (evA tmps) h S v)(ho:ops[i]?=some o)(hg:o.guard=none)(hb:o.op.operands.all zaR=true)(hk:Goes X fn B (.run (.inRegion ops rest::k) (putL o.dst v tmps) h S)):Goes X fn B (.run (.inRegion ops (i::rest)::k) tmps h S):=by
  cases H with
  | val hv=>exact .op ho (zbX hg) hb (.inl ⟨hv,rfl,rfl⟩) (.inl rfl) hk
  | prim f g args hca hf hgo hp=>exact .op ho (zbX hg) hb (.inr (.inr (.inr ⟨f,g,args,hca,hf,hgo,hp,rfl⟩))) (.inl rfl) hk
  | call f args hca D =>
    obtain⟨g,c,h1,d1,d2,d3,d4,d5,d6⟩:=D;exact .call f g c args idE idE (zaq []) h1 [] v ho (zbX hg) hb (zgU h1 hca d1 d2 d3 d4 d5) (.inl rfl) d6 hk
inductive PreW (X:Face Try.prog St) (ops:Array Oper) (h:AHeap) (S:St) (Kf:List Value->Prop) (c:Nat):Nat->List Value->Prop
  | nil {tmps} (hk:Kf tmps):PreW X ops h S Kf c c tmps
  | op {i tmps o v} (hi:i<c) (ho:ops[i]?=some o) (hg:o.guard=none) (hb:o.op.operands.all zaR=true) (hq:Quiet X o (evA tmps) h S v) (hk:PreW X ops h S Kf c (i+1) (putL o.dst v tmps)):PreW X ops h S Kf c i tmps
structure WalkT (X:Face Try.prog St) (ops:Array Oper) (h:AHeap) (S:St) (c i:Nat) (vs:Nat->Value) (T:Nat->List Value):Prop where
  step:∀j,i<=j->j<c->∃o,ops[j]?=some o/\o.guard=none/\o.op.operands.all zaR=true/\Quiet X o (evA (T j)) h S (vs j)/\T (j+1)=putL o.dst (vs j) (T j)
theorem PreW.rows{S:St}{Kf:List Value->Prop}{c i:Nat}{tmps:List Value}(H:PreW X ops h S Kf c i tmps):i<=c/\∃vs T,T i=tmps/\WalkT X ops h S c i vs T/\Kf (T c):=by
  induction H with
  | nil hk=>exact⟨qf _,fun _=>undef,fun _=>_,rfl,⟨fun j h1 h2=>by omega⟩,hk⟩
  | @op i tmps o v hi ho hg hb hq _ ih =>
    obtain⟨_,vs,T,h1,h2,h3⟩:=ih;refine⟨by omega,fun j=>if j=i then v else vs j,fun j=>if j=i then tmps else T j,if_pos rfl,⟨fun j h4 h5=>?_⟩,?_⟩
    . by_cases e:j=i
      . subst e;refine⟨o,ho,hg,hb,?_,?_⟩
        . simp only[if_true];exact hq
        . simp only[if_true];rw[if_neg (by omega)];exact h1
      . obtain⟨o',a1,a2,a3,a4,a5⟩:=h2.step j (by omega) h5
        refine⟨o',a1,a2,a3,?_,?_⟩
        . simp only[if_neg e];exact a4
        . simp only[if_neg e];rw[if_neg (by omega)];exact a5
    . simp only[];rw[if_neg (by omega)];exact h3
def zpE:Op->Bool
  | .move _=>true
  | _=>false
def zbS(ops:Array Oper)(j:Nat):Option Nat:=(ops[j]?).bind (·.dst)
def zex(ops:Array Oper)(i:Nat):Nat:=(zat ops.toList []).getD i 0
def tmpB(ops:Array Oper)(c i:Nat)(x:Operand):Bool:=match x with
  | .tmp t=>(qo (c+1)).all fun j=>!(zbS ops j==some t) || ((zex ops i).testBit j && decide (j<i))
  | _=>true
def zo4(ops:Array Oper)(c:Nat):Bool :=
  decide (c<ops.size) && znA ops && (qo ops.size).all fun i=>match ops[i]? with
    | none=>false
    | some o=>(zbY o).all (fun d=>decide (d<i)) && (if i<=c then
        o.op.operands.all (tmpB ops c i) && ((qo i).all fun j=>(zbS ops j).isNone || !(zbS ops j==zbS ops i)) && (i==c || (zex ops c).testBit i || zpE o.op)
      else(qo i).all fun j=>(zex ops i).testBit j)
structure zjp (ops:Array Oper) (c:Nat):Prop where
  lt:c<ops.size
  back:znA ops=true
  dep:∀i o,ops[i]?=some o->∀d∈zbY o,d<i
  tmp:∀i o t,ops[i]?=some o->i<=c->.tmp t∈o.op.operands->∀j,j<=c->zbS ops j=some t->(zex ops i).testBit j=true/\j<i
  dst:∀i j t,i<=c->j<=c->zbS ops i=some t->zbS ops j=some t->i=j
  anc:∀i o,ops[i]?=some o->i<c->(zex ops c).testBit i=true\/zpE o.op=true
  post:∀i o,ops[i]?=some o->c<i->∀j,j<i->(zex ops i).testBit j=true
theorem zqN{c:Nat}(h:zo4 ops c=true):zjp ops c:=by
  simp only[zo4,qr,decide_eq_true_eq]at h;obtain⟨⟨h0,hbk⟩,h⟩:=h;have key:∀i o,ops[i]?=some o->(zbY o).all (fun d=>decide (d<i))=true/\(if i<=c then
        o.op.operands.all (tmpB ops c i) && ((qo i).all fun j=>(zbS ops j).isNone || !(zbS ops j==zbS ops i)) && (i==c || (zex ops c).testBit i || zpE o.op)
      else(qo i).all fun j=>(zex ops i).testBit j)=true:=fun i o ho=>by
    have:=qj.1 h i (qu.2 (qn.1 ho).1);rw[ho]at this;simpa only[qr] using this
  have kle:∀i o,ops[i]?=some o->i<=c->(o.op.operands.all (tmpB ops c i)=true/\((qo i).all fun j=>(zbS ops j).isNone || !(zbS ops j==zbS ops i))=true)/\(i==c || (zex ops c).testBit i || zpE o.op)=true:=fun i o ho hi=>by
    have:=(key i o ho).2;rw[if_pos hi,qr,qr]at this;exact this
  have dd:∀i j t,i<j->j<=c->zbS ops i=some t->zbS ops j=some t->False:=fun i j t hij hj hi hj'=>by
    obtain⟨o,ho⟩:∃o,ops[j]?=some o:=⟨_,qC (by omega)⟩
    have:=qj.1 (kle j o ho hj).1.2 i (qu.2 hij);rw[hi,hj']at this;simp at this
  refine⟨h0,hbk,fun i o ho d hd=>?_,fun i o t ho hi ht j hj hd=>?_,fun i j t hi hj h1 h2=>?_,fun i o ho hi=>?_,fun i o ho hi j hj=>?_⟩
  . simpa using qj.1 (key i o ho).1 d hd
  . have h1:=Array.all_eq_true_iff_forall_mem.1 (kle i o ho hi).1.1 _ ht;simp only[tmpB]at h1;have h2:=qj.1 h1 j (qu.2 (by omega))
    rw[hd]at h2;simpa using h2
  . rcases qM i j with h|h|h
    . exact(dd i j t h hj h1 h2).elim
    . exact h
    . exact(dd j i t h hi h2 h1).elim
  . have:=(kle i o ho (by omega)).2
    simp only[qP,beq_iff_eq]at this;rcases this with(h|h)|h
    . omega
    . exact .inl h
    . exact .inr h
  . have:=(key i o ho).2;rw[if_neg (by omega)]at this
    exact qj.1 this j (qu.2 hj)
structure Ag (ops:Array Oper) (c:Nat) (vs:Nat->Value) (t0:List Value) (l:Nat->Bool) (tm:List Value):Prop where
  len:tm.length=t0.length
  set:∀j x,j<c->l j=true->zbS ops j=some x->x<t0.length->tm.getD x undef=vs j
  old:∀x,(∀j,j<c->zbS ops j=some x->l j=false)->tm.getD x undef=t0.getD x undef
theorem put_len{d:Option Nat}{v:Value}:(putL d v t).length=t.length:=by cases d<;>simp[putL]
theorem zt1{v:Value}(h:x<t.length):(putL (some x) v t).getD x undef=v:=by simp[putL,qD,h]
theorem zpQ{d:Option Nat}{v:Value}(h:d≠some x):(putL d v t).getD x undef=t.getD x undef:=by
  cases d with
  | none=>rfl
  | some y =>
    have:y≠x:=fun e=>h (by rw[e])
    simp[putL,qD,qb this]
theorem Ag.put{c:Nat}{vs:Nat->Value}{t0 tm:List Value}{l:Nat->Bool}{i:Nat}(L:zjp ops c)(H:Ag ops c vs t0 l tm)(hi:i<c)(hl:l i=false):Ag ops c vs t0 (fun j=>l j || j==i) (putL (zbS ops i) (vs i) tm):=by
  refine⟨put_len.trans H.len,fun j x hj hlj hx hxl=>?_,fun x hx=>?_⟩
  . by_cases e:zbS ops i=some x
    . have:i=j:=L.dst i j x (by omega) (by omega) e hx
      subst this;rw[e];exact zt1 (by rw[H.len];exact hxl)
    . rw[zpQ e];simp only[qP,beq_iff_eq]at hlj;rcases hlj with hlj|rfl
      . exact H.set j x hj hlj hx hxl
      . exact absurd hx e
  . by_cases e:zbS ops i=some x
    . have:=hx i hi e;simp at this
    . rw[zpQ e];refine H.old x fun j hj hd=>?_;have:=hx j hj hd;simp only[Bool.or_eq_false_iff]at this;exact this.1
theorem Ag.ext{c:Nat}{l l':Nat->Bool}(H:Ag ops c vs t0 l tm)(H':Ag ops c vs t0 l' tm')(hl:∀j,j<c->l j=l' j):tm=tm':=by
  refine List.ext_getElem (H.len.trans H'.len.symm) fun x h1 h2=>?_;have hg:∀(t:List Value) (h:x<t.length),t[x]=t.getD x undef:=fun t h=>by simp[qD,h]
  rw[hg tm h1,hg tm' h2];by_cases e:∃j,j<c/\zbS ops j=some x/\l j=true
  . obtain⟨j,a1,a2,a3⟩:=e;rw[H.set j x a1 a3 a2 (by rw[<-H.len];exact h1),H'.set j x a1 (by rw[<-hl j a1];exact a3) a2 (by rw[<-H.len];exact h1)]
  . have e:∀j,j<c->zbS ops j=some x->l j=false:=fun j a1 a2=>by
      cases hj:l j with
      | false=>rfl
      | true=>exact absurd ⟨j,a1,a2,hj⟩ e
    rw[H.old x e,H'.old x fun j a1 a2=>by rw[<-hl j a1];exact e j a1 a2]
theorem Ag.ev{c i:Nat}{l l':Nat->Bool}{o:Oper}(L:zjp ops c)(H:Ag ops c vs t0 l tm)(H':Ag ops c vs t0 l' tm')(ho:ops[i]?=some o)(hi:i<=c)(h1:∀j,(zex ops i).testBit j=true->l j=true)(h2:∀j,j<i->(zex ops i).testBit j=true->l' j=true):∀x∈o.op.operands,evA tm x=evA tm' x:=by
  intro x hx;cases x with
  | tmp t =>
    simp only[evA];by_cases hlen:t<t0.length
    . by_cases e:∃j,j<c/\zbS ops j=some t
      . obtain⟨j,a1,a2⟩:=e;obtain⟨b1,b2⟩:=L.tmp i o t ho hi hx j (by omega) a2
        rw[H.set j t a1 (h1 j b1) a2 hlen,H'.set j t a1 (h2 j b2 b1) a2 hlen]
      . rw[H.old t fun j a1 a2=>absurd ⟨j,a1,a2⟩ e,H'.old t fun j a1 a2=>absurd ⟨j,a1,a2⟩ e]
    . have g:∀u:List Value,u.length=t0.length->u.getD t undef=undef:=fun u hu=>by
        have hle:u.length<=t:=by rw[hu];exact qk hlen
        simp[qD,List.getElem?_eq_none hle]
      rw[g tm H.len,g tm' H'.len]
  | _=>rfl
end
section
variable {Γ:Type}{X:Face Try.prog St}{Sp:SpT Γ}{fn:Func}{A:Conf St->Γ × St->Prop}{ops:Array Oper}{k:List Item}{c:Nat}
theorem zbF{l:Array Bool}{i:Nat}(hi:i<l.size)(j:Nat)(b:Bool):(l.setIfInBounds i true).getD j b=if j=i then true else l.getD j b:=by
  by_cases e:j=i
  . subst e;rw[if_pos rfl];simp[hi]
  . rw[if_neg e,getD_set_ne b fun h=>e h.symm]
theorem zjB{l:Array Bool}:∀n,zbw l n<=n
  | 0=>qf _
  | n+1=>by rw[zbw];have:=zjB (l:=l) n;split<;>omega
theorem zon{a b:Option Nat}{u v:Value}(h:∀x,a=some x->b=some x->False):putL a u (putL b v t)=putL b v (putL a u t):=by
  cases a with
  | none=>rfl
  | some x=>cases b with
    | none=>rfl
    | some y=>exact List.set_comm _ _ fun e=>h x rfl (by rw[e])
def ClosedD(ops:Array Oper)(l:Array Bool):Prop:=∀i o,ops[i]?=some o->l.getD i false=true->∀d∈zbY o,l.getD d false=true
theorem ClosedD.add{l:Array Bool}{i:Nat}{o:Oper}(H:ClosedD ops l)(hi:i<l.size)(ho:ops[i]?=some o)(hd:∀d∈zbY o,l.getD d false=true):ClosedD ops (l.setIfInBounds i true):=fun j o' hj hl d hdm=>by
  rw[zbF hi]at hl ⊢;split
  . rfl
  . by_cases e:j=i
    . subst e;rw[ho]at hj;cases hj;exact hd d hdm
    . rw[if_neg e]at hl;exact H j o' hj hl d hdm
theorem zix(L:zjp ops c){l:Array Bool}(hl:l.size=ops.size)(fuel t:Nat):(zdh ops (fuel+1) t l=[]/\∀i,i<ops.size->l.getD i true=true)\/∃i o t',i<ops.size/\ops[i]?=some o/\l.getD i true=false/\(∀d∈zbY o,l.getD d false=true)/\zdh ops (fuel+1) t l=i::zdh ops fuel t' (l.setIfInBounds i true):=by
  unfold zdh;simp only[qp];change ((match (qd .any ops l)[t % (qd .any ops l).length]? with
        | some i=>qp .any ops fuel (t / (qd .any ops l).length) (l.setIfInBounds i true) [i]
        | none=>[].reverse)=[]/\_)\/∃i o t',_/\_/\_/\_/\(match (qd .any ops l)[t % (qd .any ops l).length]? with
        | some i=>qp .any ops fuel (t / (qd .any ops l).length) (l.setIfInBounds i true) [i]
        | none=>[].reverse)=_
  cases hi:(qd .any ops l)[t % (qd .any ops l).length]? with
  | none =>
    have hnil:qd .any ops l=[]:=by
      cases hr:qd .any ops l with
      | nil=>rfl
      | cons x xs =>
        rw[hr]at hi;have hlt:t % (x::xs).length<(x::xs).length:=Nat.mod_lt _ (by simp)
        simp at hi;simp at hlt;omega
    exact .inl ⟨rfl,zjN L.back hnil⟩
  | some i =>
    obtain⟨hun,o,ho,hdep⟩:=mem_ready.1 (qv hi);refine .inr ⟨i,o,t / (qd .any ops l).length,(qn.1 ho).1,ho,hun,fun d hd=>?_,?_⟩
    . obtain⟨e,he,hb,rfl⟩:=zlz hd;exact hdep e he hb
    . simp only[];rw[linearise_go_acc,List.reverse_singleton,List.singleton_append]
theorem zfN(L:zjp ops c):∀(fuel t j:Nat) (l:Array Bool),l.size=ops.size->zbw l ops.size<=fuel->c<j->j<=ops.size->(∀i,i<ops.size->l.getD i true=decide (i<j))->zdh ops fuel t l=List.range' j (ops.size - j)
  | 0,t,j,l,hl,hu,hc,hj,hd=>by
    have:j=ops.size:=by
      apply qB hj;apply qk;intro h;have h1:=zcD ops.size (qH.1 hu) j h;rw[hd j h]at h1;simp at h1
    rw[this,Nat.sub_self];rfl
  | fuel+1,t,j,l,hl,hu,hc,hj,hd=>by
    have hff:∀i,i<ops.size->l.getD i false=decide (i<j):=fun i hi=>by rw[zc8 (by rw[hl];exact hi) false true];exact hd i hi
    have hdn:∀i o,ops[i]?=some o->l.getD i false=true->∀d∈zbY o,l.getD d false=true:=fun i o ho hi d hdm=>by
      have hi2:=(qn.1 ho).1;rw[hff i hi2]at hi;have:=L.dep i o ho d hdm;rw[hff d (by omega)]
      simp at hi ⊢;omega
    rcases zix L hl fuel t with⟨h1,h2⟩|⟨i,o,t',hi,ho,hun,hdep,heq⟩
    . have:j=ops.size:=by
        apply qB hj;apply qk;intro h;have h3:=h2 j h;rw[hd j h]at h3;simp at h3
      rw[h1,this,Nat.sub_self];rfl
    . have hij:j<=i:=by
        rw[hd i hi]at hun;simpa using hun
      have e:i=j:=by
        apply qB _ hij;apply qk;intro h;have h3:=zcL (D:=fun x=>l.getD x false=true) hdn i o ho hdep j (L.post i o ho (by omega) j h)
        rw[hff j (by omega)]at h3
        simp at h3
      subst e;have hund:=zbU hun ops.size hi (by rw[hl];exact hi)
      rw[heq,zfN L fuel t' (i+1) _ (by simpa using hl) (by omega) (by omega) (by omega) fun x hx=>?_]
      . rw[show ops.size - i=(ops.size - (i+1))+1 from by omega,List.range'_succ]
      . rw[zbF (by rw[hl];exact hi),hd x hx]
        by_cases e:x=i
        . subst e;simp
        . rw[if_neg e];simp;omega
def zr4(X:Face Try.prog St)(Sp:SpT Γ)(fn:Func)(A:Conf St->Γ×St->Prop)(ops:Array Oper)(k:List Item)(c:Nat)(h:AHeap)(S:St)(γ:Γ×St)(t:List Value):Prop :=
  ∃(o:Oper) (f:FuncId) (args:Array Value) (Q:Value->AHeap->St->Γ×St->Prop),ops[c]?=some o/\o.guard=none/\o.op.operands.all zaR=true/\zaQ Try.prog (evA t) o.op=some (f,args)/\(Runs X Sp f args h S γ Q\/Sp f args h S γ Q) /\
    ∀v h1 S1 γ',Q v h1 S1 γ'->At X fn (fun cf=>GE X Sp fn A cf γ') ops k (c+1) (putL o.dst v t) h1 S1
variable {h:AHeap}{S:St}{γ:Γ × St}{vs:Nat->Value}{T:Nat->List Value}
theorem WalkT.ag(L:zjp ops c)(W:WalkT X ops h S c 0 vs T):∀i,i<=c->Ag ops c vs (T 0) (fun j=>decide (j<i)) (T i)
  | 0,_=>⟨rfl,fun j x _ hj=>by simp at hj,fun _ _=>rfl⟩
  | i+1,hi=>by
    obtain⟨o,a1,a2,a3,a4,a5⟩:=W.step i (by omega) (by omega)
    have:=(W.ag L i (by omega)).put L (i:=i) (by omega) (by simp)
    rw[a5,show o.dst=zbS ops i from by simp[zbS,a1]]
    have e:(fun j=>decide (j<i) || j==i)=fun j=>decide (j<i+1):=by
      funext j;by_cases h1:j<i
      . have h3:j<i+1:=by omega
        simp[h1,h3]
      . by_cases h2:j=i
        . subst h2;simp
        . have h3:¬j<i+1:=by omega
          simp[h1,h2,h3]
    rw[<-e];exact this
theorem zuk(L:zjp ops c)(W:WalkT X ops h S c 0 vs T){v:Value}{h1:AHeap}{S1:St}{γ1:Γ×St}(hpost:At X fn (fun cf=>GE X Sp fn A cf γ1) ops k (c+1) (putL (zbS ops c) v (T c)) h1 S1):
    ∀(fuel t:Nat) (l:Array Bool) (tm:List Value),l.size=ops.size->zbw l ops.size<=fuel->ClosedD ops l->l.getD c false=true->(∀i,c<i->i<ops.size->l.getD i true=false)->Ag ops c vs (T 0) (fun j=>l.getD j false) tm->GE X Sp fn A (.run (.inRegion ops (zdh ops fuel t l)::k) (putL (zbS ops c) v tm) h1 S1) γ1:=by
  intro fuel
  induction fuel with
  | zero =>
    intro t l tm hl hu hcl hc hnp hag;refine GE.go ?_;have hall:=zcD ops.size (qH.1 hu);have e:tm=T c:=hag.ext (W.ag L c (qf _)) fun j hj=>by
      have:=hall j (by have:=L.lt;omega)
      rw[zc8 (by rw[hl];have:=L.lt;omega) true false]at this
      simp[this,hj]
    rw[e,zfN L 0 t (c+1) l hl hu (by omega) (by have:=L.lt;omega) fun i hi=>?_]
    . exact hpost
    . rw[hall i hi];by_cases hic:c<i
      . have:=hnp i hic hi;rw[hall i hi]at this;cases this
      . simp;omega
  | succ fuel ih =>
    intro t l tm hl hu hcl hc hnp hag;have hlt:=L.lt;by_cases hall:∀j,j<c->l.getD j false=true
    . refine GE.go ?_;have e:tm=T c:=hag.ext (W.ag L c (qf _)) fun j hj=>by simp[hall j hj,hj]
      rw[e,zfN L (fuel+1) t (c+1) l hl hu (by omega) (by omega) fun i hi=>?_]
      . exact hpost
      . by_cases hic:c<i
        . rw[hnp i hic hi];simp;omega
        . have:l.getD i true=true:=by
            rw[zc8 (by rw[hl];exact hi) true false]
            by_cases e:i=c
            . rw[e];exact hc
            . exact hall i (by omega)
          rw[this];simp;omega
    . rcases zix L hl fuel t with⟨_,h2⟩|⟨i,o,t',hi,ho,hun,hdep,heq⟩
      . exact absurd (fun j hj=>by rw[zc8 (by rw[hl];omega) false true];exact h2 j (by omega)) hall
      . have hunf:l.getD i false=false:=by rw[zc8 (by rw[hl];exact hi) false true];exact hun
        have hic:i<c:=by
          apply Nat.lt_of_not_le;intro hle;rcases qK hle with e|hlt2
          . rw[<-e,hc]at hunf;cases hunf
          . refine hall fun j hj=>zcL (D:=fun x=>l.getD x false=true) hcl i o ho hdep j (L.post i o ho hlt2 j (by omega))
        have hmove:zpE o.op=true:=by
          rcases L.anc i o ho hic with hb|hb
          . obtain⟨oc,hoc⟩:∃oc,ops[c]?=some oc:=⟨_,qC hlt⟩;have:=zcL (D:=fun x=>l.getD x false=true) hcl c oc hoc (hcl c oc hoc hc) i hb;rw[hunf]at this;cases this
          . exact hb
        obtain⟨o',a1,a2,a3,a4,a5⟩:=W.step i (Nat.zero_le _) hic;rw[ho]at a1;cases a1;have hd:o.dst=zbS ops i:=by simp[zbS,ho]
        have hev:∀x∈o.op.operands,evA tm x=evA (T i) x:=hag.ev L (W.ag L i (by omega)) ho (by omega) (fun j hj=>zcL (D:=fun x=>l.getD x false=true) hcl i o ho hdep j hj) fun j hj _=>by simp[hj]
        have hev2:∀x∈o.op.operands,evA (T i) x=evA (putL (zbS ops c) v tm) x:=fun x hx=>by
          rw[<-hev x hx];cases x with
          | tmp tt =>
            simp only[evA];rw[zpQ fun e=>?_];have:=(L.tmp i o tt ho (by omega) hx c (qf _) e).2
            omega
          | _=>rfl
        have hval:valA Try.prog (evA (T i)) h o.op=some (vs i):=by
          cases a4 with
          | val hv=>exact hv
          | prim f g args hca=>cases ho':o.op<;>rw[ho']at hca hmove<;>first|(cases hmove;done)|(simp[zaQ]at hca)
          | call f args hca=>cases ho':o.op<;>rw[ho']at hca hmove<;>first|(cases hmove;done)|(simp[zaQ]at hca)
        have hval1:valA Try.prog (evA (putL (zbS ops c) v tm)) h1 o.op=some (vs i):=by
          rw[<-zik (h0:=h1) hev2];cases ho':o.op<;>rw[ho']at hval hmove<;>first|(cases hmove;done)|exact hval
        rw[heq];refine .plain (fun c'=>c'=.run (.inRegion ops (zdh ops fuel t' (l.setIfInBounds i true))::k) (putL o.dst (vs i) (putL (zbS ops c) v tm)) h1 S1) (Quiet.go (.val hval1) ho a2 a3 (.here rfl)) fun c' hc'=>?_;subst hc';rw[hd,zon fun x e1 e2=>by have:=L.dst i c x (by omega) (qf _) e1 e2;omega]
        have hsz:i<l.size:=by rw[hl];exact hi
        have hund:=zbU hun ops.size hi hsz;refine ih t' _ _ (by simpa using hl) (by omega) (hcl.add hsz ho hdep) ?_ (fun j hj hj2=>?_) ?_
        . rw[zbF hsz,hc];split<;>rfl
        . rw[zbF hsz,if_neg (by omega)];exact hnp j hj hj2
        . have:=hag.put L hic hunf;refine⟨this.len,fun j x hj hlj=>this.set j x hj ?_,fun x hx=>this.old x fun j hj hdj=>?_⟩
          . rw[zbF hsz]at hlj;by_cases e:j=i
            . simp[e]
            . rw[if_neg e]at hlj;simp[hlj]
          . have h3:=hx j hj hdj;rw[zbF hsz]at h3;by_cases e:j=i
            . rw[if_pos e]at h3;cases h3
            . rw[if_neg e]at h3;simp[h3,e]
theorem zum(L:zjp ops c)(W:WalkT X ops h S c 0 vs T)(HC:zr4 X Sp fn A ops k c h S γ (T c)):
    ∀(fuel t:Nat) (l:Array Bool) (tm:List Value),l.size=ops.size->zbw l ops.size<=fuel->ClosedD ops l->l.getD c false=false->(∀i,c<i->i<ops.size->l.getD i true=false)->Ag ops c vs (T 0) (fun j=>l.getD j false) tm->GE X Sp fn A (.run (.inRegion ops (zdh ops fuel t l)::k) tm h S) γ:=by
  intro fuel;have hlt:=L.lt
  induction fuel with
  | zero =>
    intro t l tm hl hu hcl hc hnp hag;have hall:=zcD ops.size (qH.1 hu) c hlt;rw[zc8 (by rw[hl];exact hlt) true false,hc]at hall
    cases hall
  | succ fuel ih =>
    intro t l tm hl hu hcl hc hnp hag;rcases zix L hl fuel t with⟨_,h2⟩|⟨i,o,t',hi,ho,hun,hdep,heq⟩
    . have:=h2 c hlt;rw[zc8 (by rw[hl];exact hlt) true false,hc]at this
      cases this
    . have hunf:l.getD i false=false:=by rw[zc8 (by rw[hl];exact hi) false true];exact hun
      have hmask:=zcL (D:=fun x=>l.getD x false=true) hcl i o ho hdep;have hic:i<=c:=by
        apply qk;intro hlt2;have:=hmask c (L.post i o ho hlt2 c hlt2);rw[hc]at this;cases this
      have hd:o.dst=zbS ops i:=by simp[zbS,ho]
      have hsz:i<l.size:=by rw[hl];exact hi
      have hund:=zbU hun ops.size hi hsz;have hev:∀x∈o.op.operands,evA (T i) x=evA tm x:=fun x hx=>(hag.ev L (W.ag L i (by omega)) ho hic hmask (fun j hj _=>by simp[hj]) x hx).symm
      rw[heq];rcases qK hic with e|hic
      . subst e;obtain⟨o',f,args,Q,b1,b2,b3,b4,b5,b6⟩:=HC;rw[ho]at b1;cases b1;have hca:zaQ Try.prog (evA tm) o.op=some (f,args):=(ze3 hev).symm.trans b4;have hk:∀v h1 S1 γ',Q v h1 S1 γ'->GE X Sp fn A (.run (.inRegion ops (zdh ops fuel t' (l.setIfInBounds i true))::k) (putL o.dst v tm) h1 S1) γ':=fun v h1 S1 γ' hq=>by
          rw[hd];refine zuk L W (by rw[<-hd];exact b6 v h1 S1 γ' hq) fuel t' _ tm (by simpa using hl) (by omega) (hcl.add hsz ho hdep) ?_ (fun j hj hj2=>?_) ⟨hag.len,fun j x hj hlj=>hag.set j x hj ?_,fun x hx=>hag.old x fun j hj hdj=>?_⟩
          . rw[zbF hsz,if_pos rfl]
          . rw[zbF hsz,if_neg (by omega)];exact hnp j hj hj2
          . rw[zbF hsz,if_neg (by omega)]at hlj;exact hlj
          . have h3:=hx j hj hdj;rw[zbF hsz,if_neg (by omega)]at h3;exact h3
        rcases b5 with⟨g,cd,c1,c2,c3,c4⟩|b5
        . exact .call f g cd args Q ho (zbX b2) b3 hca c1 c2 c3 c4 hk
        . exact .spec f args Q ho (zbX b2) b3 hca b5 hk
      . obtain⟨o',a1,a2,a3,a4,a5⟩:=W.step i (Nat.zero_le _) hic;rw[ho]at a1;cases a1;refine .plain (fun c'=>c'=.run (.inRegion ops (zdh ops fuel t' (l.setIfInBounds i true))::k) (putL o.dst (vs i) tm) h S) (Quiet.go (a4.congr hev) ho a2 a3 (.here rfl)) fun c' hc'=>?_;subst hc';rw[hd];refine ih t' _ _ (by simpa using hl) (by omega) (hcl.add hsz ho hdep) ?_ (fun j hj hj2=>?_) ?_
        . rw[zbF hsz,if_neg (by omega)];exact hc
        . rw[zbF hsz,if_neg (by omega)];exact hnp j hj hj2
        . have:=hag.put L hic hunf;refine⟨this.len,fun j x hj hlj=>this.set j x hj ?_,fun x hx=>this.old x fun j hj hdj=>?_⟩
          . rw[zbF hsz]at hlj;by_cases e:j=i
            . simp[e]
            . rw[if_neg e]at hlj;simp[hlj]
          . have h3:=hx j hj hdj;rw[zbF hsz]at h3;by_cases e:j=i
            . rw[if_pos e]at h3;cases h3
            . rw[if_neg e]at h3;simp[h3,e]
theorem Goes.drawC{id:Nat}{tmps:List Value}(c:Nat)(hB:zo4 ops c=true)(hk:PreW X ops h S (zr4 X Sp fn A ops k c h S γ) c 0 tmps):Goes X fn (fun cf=>GE X Sp fn A cf γ) (.run (.code (.region id ops true)::k) tmps h S):=by
  have L:=zqN hB;obtain⟨_,vs,T,h0,W,HC⟩:=hk.rows;refine .here (GE.draws fun t=>?_);have e:qJ (Try.prog.follows .mixedOrders) ops t=zdh ops ops.size t (qA ops.size false):=by
    simp only[qJ,Try.mix,Bool.true_or,if_true];rfl
  have hrep:∀i b,i<ops.size->(qA ops.size false).getD i b=false:=fun i b hi=>by simp[hi]
  have hrf:∀i,(qA ops.size false).getD i false=false:=fun i=>by
    by_cases hi:i<ops.size
    . exact hrep i false hi
    . simp[hi]
  rw[e];refine zum L W HC ops.size t _ tmps (by simp) (zjB _) (fun i o ho hi=>by(rw[hrf i]at hi;cases hi)) (hrf c) (fun i _ hi=>hrep i true hi) ?_
  rw[<-h0];exact⟨rfl,fun j x _ hj=>by(rw[hrf j]at hj;cases hj),fun _ _=>rfl⟩
variable {i:Nat}{tmps:List Value}{o:Oper}{Kf:List Value->Prop}
theorem qw1(ho:ops.toList[i]?=some o)(hg:o.guard=none)(_:vB o.op=true)(hk:∀K:List Value->AHeap->Prop,(∀t h',PreW X ops h S Kf c (i+1) t->K t h')->OpK K o tmps h (valA Try.prog (evA tmps) h o.op))(hb:opOK o.op=true:=by rfl)(hi:i<c:=by decide):PreW X ops h S Kf c i tmps:=by
  have:=hk (fun t _=>PreW X ops h S Kf c (i+1) t) fun _ _ h=>h;cases hv:valA Try.prog (evA tmps) h o.op with
  | none=>rw[hv]at this;exact this.elim
  | some v=>rw[hv]at this;exact .op hi (za1 ho) hg (zaZ hb) (.val hv) this
theorem qwp(ho:ops.toList[i]?=some o)(hg:o.guard=none)(hk:∀K:List Value->St->Prop,(∀t,PreW X ops h S Kf c (i+1) t->K t S)->zdT (fun f args=>fnOK Try.prog f=true/\∃v S',X.prim f args S v S'/\K (putL o.dst v tmps) S') (zaQ Try.prog (evA tmps) o.op))(hb:opOK o.op=true:=by rfl)(hi:i<c:=by decide):PreW X ops h S Kf c i tmps:=by
  have:=hk (fun t S'=>S'=S/\PreW X ops h S Kf c (i+1) t) fun _ h=>⟨rfl,h⟩;cases hv:zaQ Try.prog (evA tmps) o.op with
  | none=>rw[hv]at this;exact this.elim
  | some x =>
    obtain⟨f,args⟩:=x;rw[hv]at this;obtain⟨hf,v,S',h1,rfl,h3⟩:=this;obtain⟨g,g1,g2⟩:=zho hf;exact .op hi (za1 ho) hg (zaZ hb) (.prim f g args hv g1 g2 h1) h3
theorem qg2(ho:ops.toList[c]?=some o)(hg:o.guard=none)(hk:∀K:List Value->AHeap->St->Γ×St->Prop,(∀t h1 S1 γ',At X fn (fun cf=>GE X Sp fn A cf γ') ops k (c+1) t h1 S1->K t h1 S1 γ')->zdT (fun f args=>Runs X Sp f args h S γ (fun v h1 S1 γ'=>K (putL o.dst v tmps) h1 S1 γ')) (zaQ Try.prog (evA tmps) o.op))(hb:opOK o.op=true:=by rfl):
    PreW X ops h S (zr4 X Sp fn A ops k c h S γ) c c tmps:=by
  refine .nil ?_;have:=hk _ fun _ _ _ _ h=>h;cases hv:zaQ Try.prog (evA tmps) o.op with
  | none=>rw[hv]at this;exact this.elim
  | some x =>
    obtain⟨f,args⟩:=x;rw[hv]at this;exact⟨o,f,args,_,za1 ho,hg,zaZ hb,hv,.inl this,fun _ _ _ _ hq=>hq⟩
end
end Go.Proofs.Ytkjmaapbeicmkaa
namespace Go.Proofs.Ytkjmaapbeicmkaa
open Go Go.RowKit
theorem ld_w{ws:List UInt64}{n:Int}{x:UInt64}(h:wAt ws n=some x):wT 1 n 0 ws=x:=by unfold wT;rw[h];rfl
variable {n N T r r' n':Nat}
theorem zug{c:Nat}{n:Int}{A B x:UInt64}{ws:List UInt64}(h:wAt ws n=some x)(m:Int):wAt (wS c n A B ws) m=if m=n then some (kNow c x A B) else wAt ws m:=by
  have hs:wS c n A B ws=ws.set n.toNat (kNow c x A B):=by unfold wS;rw[h]
  rw[hs];unfold wAt at h ⊢;by_cases hn:n<0
  . rw[if_pos hn]at h;cases h
  rw[if_neg hn]at h;have hlt:=(qa.1 h).1;by_cases e:m=n
  . subst e;rw[if_neg hn,if_pos rfl,qE hlt]
  . rw[if_neg e];by_cases hm:m<0
    . rw[if_pos hm,if_pos hm]
    . rw[if_neg hm,if_neg hm,qb (by omega)]
theorem zi2(hN:1<=N):gb N T (r+1)=gb N T r+gsz N T r:=by rw[zn0,if_neg (by omega)]
theorem zoN(hN:1<=N)(h:n<gsz N T r):gat N T r n=((gb N T r+n:Nat):Int):=by
  rw[zce N T r (by omega) (by rw[zi2 hN];omega)];push_cast;rfl
theorem zgz{N T:Nat}:∀{r r':Nat},r<=r'->gb N T r<=gb N T r'
  | r,0,h=>by
    obtain rfl:r=0:=by omega
    exact qf _
  | r,r'+1,h=>by
    by_cases e:r=r'+1
    . rw[e];exact qf _
    . exact Nat.le_trans (zgz (by omega)) (zsJ N T r')
theorem zr6(hN:1<=N)(h:n<gsz N T r)(h':n'<gsz N T r')(e:gat N T r n=gat N T r' n'):r=r'/\n=n':=by
  rw[zoN hN h,zoN hN h']at e;have e1:=zi2 (r:=r) (T:=T) hN;have e2:=zi2 (r:=r') (T:=T) hN;rcases qM r r' with k|k|k
  . have:=zgz (N:=N) (T:=T) (show r+1<=r' from k);omega
  . subst k;exact⟨rfl,by omega⟩
  . have:=zgz (N:=N) (T:=T) (show r'+1<=r from k);omega
def Wd(N T:Nat)(ws:List UInt64)(W:Nat->Nat->UInt64):Prop:=∀r n:Nat,r<19->n<gsz N T r->wAt ws (gat N T r n)=some (W r n)
def up2(W:Nat->Nat->UInt64)(r n:Nat)(v:UInt64):Nat->Nat->UInt64:=fun r' n'=>if r'=r/\n'=n then v else W r' n'
variable {W:Nat->Nat->UInt64}
theorem zrH{v:UInt64}:up2 W r n v r n=v:=if_pos ⟨rfl,rfl⟩
theorem zvh{v:UInt64}(h:n'≠n):up2 W r n v r' n'=W r' n':=if_neg fun e=>h e.2
theorem Wd.put{N T:Nat}{ws:List UInt64}{W:Nat->Nat->UInt64}(h:Wd N T ws W)(hN:1<=N){r n:Nat}(hr:r<19)(hn:n<gsz N T r)(c:Nat)(A B:UInt64):Wd N T (wS c (gat N T r n) A B ws) (up2 W r n (kNow c (W r n) A B)):=by
  intro r' n' hr' hn';rw[zug (h r n hr hn)];by_cases e:gat N T r' n'=gat N T r n
  . obtain⟨rfl,rfl⟩:=zr6 hN hn' hn e;rw[if_pos rfl,zrH]
  . rw[if_neg e,h r' n' hr' hn'];refine congrArg some (if_neg ?_).symm;rintro⟨rfl,rfl⟩;exact e rfl
theorem Wd.store{ws:List UInt64}(h:Wd N T ws W)(hN:1<=N)(hr:r<19)(hn:n<gsz N T r)(A:UInt64):Wd N T (wS 2 (gat N T r n) A 0 ws) (up2 W r n A):=h.put hN hr hn 2 A 0
theorem Wd.add{N T:Nat}{ws:List UInt64}{W:Nat->Nat->UInt64}(h:Wd N T ws W)(hN:1<=N){r n:Nat}(hr:r<19)(hn:n<gsz N T r)(A:UInt64):Wd N T (wS 4 (gat N T r n) A 0 ws) (up2 W r n (W r n+A)):=h.put hN hr hn 4 A 0
theorem Wd.tells{ws:List UInt64}(h:Wd N T ws W)(hr:r<19)(hn:n<gsz N T r):wT 1 (gat N T r n) 0 ws=W r n:=ld_w (h r n hr hn)
theorem Wd.zero(hN:1<=N)(h:gb N T 19<=n):Wd N T (qi n 0) (fun _ _=>0):=by
  intro r k hr hk;rw[zoN hN hk];have e1:=zi2 (r:=r) (T:=T) hN;have:=zgz (N:=N) (T:=T) (show r+1<=19 by omega)
  unfold wAt;rw[if_neg (by omega)]
  simp only[Int.toNat_natCast];rw[List.getElem?_replicate,if_pos (by omega)]
theorem Wd.congr{ws:List UInt64}{W':Nat->Nat->UInt64}(h:Wd N T ws W)(e:∀r n,r<19->n<gsz N T r->W r n=W' r n):Wd N T ws W':=fun r n hr hn=>by rw[h r n hr hn,e r n hr hn]
end Go.Proofs.Ytkjmaapbeicmkaa
