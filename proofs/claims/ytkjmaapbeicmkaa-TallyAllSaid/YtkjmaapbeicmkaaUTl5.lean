/-
  Layer 18: TallyAll.
  No condition.
-/
import Derived.Test.YtkjmaapbeicmkaaUTally
set_option maxHeartbeats 40000000
set_option linter.unusedVariables false
set_option linter.unusedSimpArgs false
namespace Go.Proofs.Ytkjmaapbeicmkaa
open Go Go.Conc
open Go.RowKit
theorem zaU:zmT 5 #[] (.bool true):=(zsE []).pure (by simp) rfl
def tlIn (obs:List (Option Blk)) (n:Nat):List Row:=(List.range n).filterMap fun i=>(obs.getD i none).map fun b=>(2+i,b)
theorem zmc {obs:List (Option Blk)} {n i:Nat} {b:Blk} (hi:i<n) (h:obs.getD i none=some b):(2+i,b)∈tlIn obs n:=List.mem_filterMap.2 ⟨i,List.mem_range.2 hi,by rw [h];rfl⟩
theorem zot {obs:List (Option Blk)} {n:Nat} {x:Row} (h:x∈tlIn obs n):∃ i,i<n/\obs.getD i none=some x.2/\x.1=2+i:=by
  obtain⟨i,hi,h1⟩:=List.mem_filterMap.1 h;cases ho:obs.getD i none with
  | none=>rw [ho] at h1;cases h1
  | some b=>rw [ho] at h1;cases h1;exact⟨i,List.mem_range.1 hi,ho,rfl⟩
abbrev zmM (n cap:Nat):Blk:={ cells:=[.slice (some ⟨0,0,none⟩) n cap],elem:=22 }
def tlRW (n cap:Nat) (OB:Blk) (obs:List (Option Blk)):List Row:=(n+2,zmM n cap)::(n+3,tlG)::(0,OB)::tlIn obs n
def tlA (ls:List (List zc1)) (i:Nat):List (Int × UInt64):=zaX (ls.getD i [])
def tlPr (ls:List (List zc1)) (n cap:Nat) (OB:Blk) (obs:List (Option Blk)):Proto (PG Unit TP):=(zcx (tlA ls) (tlRW n cap OB obs)).pr 0
theorem zo5 {n cap:Nat} {OB:Blk} {obs:List (Option Blk)} (h0:OB.ro=true) (hro:∀ i b,obs.getD i none=some b->b.ro=true):∀ x∈tlRW n cap OB obs,zd3 x.2=false/\(x.2.elem≠39\/x.2.ro=true):=fun x hx=>by
  unfold tlRW at hx;rcases List.mem_cons.1 hx with rfl|hx
  . exact⟨rfl,.inl (by show (22:Nat)≠39;decide)⟩
  rcases List.mem_cons.1 hx with rfl|hx
  . exact⟨rfl,.inl (by show (28:Nat)≠39;decide)⟩
  rcases List.mem_cons.1 hx with rfl|hx
  . exact⟨by unfold zd3;simp [h0],.inr h0⟩
  . obtain⟨i,_,h1,_⟩:=zot hx;have:=hro i _ h1;exact⟨by unfold zd3;simp [this],.inr this⟩
theorem Wd.tAdd:∀ {ts:List (Int × UInt64)} {ws:List UInt64} {W:Nat->Nat->UInt64},Wd 1 6 ws W->(∀ x∈ts,∃ n:Nat,n<5/\x.1=(n:Int))->∃ W',Wd 1 6 (Go.Proofs.Ytkjmaapbeicmkaa.tAdd 1 6 ts ws) W'/\∀ c,c<5->W' 2 c=W 2 c+cntT c ts
  | [],ws,W,hW,_=>⟨W,hW,fun c _=>by simp [cntT]⟩
  | x::ts,ws,W,hW,h=>by
    obtain⟨n,hn,hx⟩:=h x (by simp)
    have h1:Wd 1 6 (wS 4 (gat 1 6 2 x.1) x.2 0 ws) (up2 W 2 n (W 2 n+x.2)):=by
      rw [hx];exact hW.add (Nat.le_refl 1) (by decide) (by simpa [gsz] using hn) x.2
    obtain⟨W',h2,h3⟩:=Wd.tAdd (ts:=ts) h1 fun y hy=>h y (by simp [hy])
    refine⟨W',h2,fun c hc=>?_⟩;rw [h3 c hc];simp only [cntT];by_cases e:c=n
    . subst e;rw [zpW,if_pos hx,UInt64.add_assoc]
    . rw [zte e,if_neg fun hh=>e (by omega)];simp
theorem Idle.of {S S':St} (h:Idle S) (hs:∀ (k:Nat) a b c d e f,S'[k]?=some (.thr a b c d e f)->S[k]?=some (.thr a b c d e f)):Idle S':=fun k a b c d e f z=>h k a b c d e f (hs _ _ _ _ _ _ _ z)
theorem zqZ {S:St} {m:Nat} {me:Int} {st:Nat}:∀ (k:Nat) a b c d e f,(S++[Ob.port m me st])[k]?=some (.thr a b c d e f)->S[k]?=some (.thr a b c d e f):=fun k a b c d e f z=>by
  by_cases h:k<S.length
  . rw [List.getElem?_append_left h] at z;exact z
  . rw [List.getElem?_append_right (by omega)] at z
    have:=List.mem_of_getElem? z;simp at this
theorem zof {S:St} {j:Nat} {o:Ob} (ho:∀ a b c d e f,o≠.thr a b c d e f):∀ (k:Nat) a b c d e f,(S.set j o)[k]?=some (.thr a b c d e f)->S[k]?=some (.thr a b c d e f):=fun k a b c d e f z=>by
  by_cases h:j=k
  . subst h;by_cases hl:j<S.length
    . rw [List.getElem?_set_self hl] at z;cases z;exact absurd rfl (ho _ _ _ _ _ _)
    . rw [List.getElem?_eq_none (by simp;omega)] at z;cases z
  . rw [List.getElem?_set_ne h] at z;exact z
theorem zi1 {S:St} {m:Nat} {me:Int} {st:Nat} {ws w2:List UInt64} {bs:List UInt8} (hm:S[m]?=some (.mem ws bs)):KeepC S (accS (S++[.port m me 0]) S.length m me st w2 bs)/\(Idle S->Idle (accS (S++[.port m me 0]) S.length m me st w2 bs))/\(accS (S++[.port m me 0]) S.length m me st w2 bs)[m]?=some (.mem w2 bs)/\(∀ (j:Nat) o,j≠m->S[j]?=some o->(accS (S++[.port m me 0]) S.length m me st w2 bs)[j]?=some o)/\(accS (S++[.port m me 0]) S.length m me st w2 bs).length=S.length+1:=by
  have hl:=zaH hm;have h1:(S++[Ob.port m me 0])[S.length]?=some (.port m me 0):=by simp
  have h2:((S++[Ob.port m me 0]).set S.length (.port m me st))[m]?=some (.mem ws bs):=by rw [List.getElem?_set_ne (by omega),List.getElem?_append_left hl];exact hm
  unfold accS;refine⟨(KeepC.push rfl).trans ((KeepC.set h1 rfl rfl).trans (KeepC.set h2 rfl rfl)),fun h=>h.of fun k a b c d e f z=>zqZ _ _ _ _ _ _ _ (zof (fun _ _ _ _ _ _ h=>by cases h) _ _ _ _ _ _ _ (zof (fun _ _ _ _ _ _ h=>by cases h) _ _ _ _ _ _ _ z)),?_,fun j o hj ho=>?_,by simp⟩
  . rw [List.getElem?_set_self (by simp;omega)]
  . have:=zaH ho;rw [List.getElem?_set_ne hj.symm,List.getElem?_set_ne (by omega),List.getElem?_append_left this];exact ho
theorem zgU {ws:List UInt64} {W:Nat->Nat->UInt64} (hW:Wd 1 6 ws W):zfd 1 6 ws=.agg #[.int .u64 ((W 2 0).toNat:Int),.int .u64 ((W 2 1).toNat:Int),.int .u64 ((W 2 2).toNat:Int),.int .u64 ((W 2 3).toNat:Int),.int .u64 ((W 2 4).toNat:Int)]:=by
  have h:∀ k:Nat,k<5->wT 1 (gat 1 6 2 k) 0 ws=W 2 k:=fun k hk=>hW.tells (r:=2) (by decide) (by simpa [gsz] using hk)
  unfold zfd zel;rw [show (0:Int)=((0:Nat):Int) from rfl,show (1:Int)=((1:Nat):Int) from rfl,show (2:Int)=((2:Nat):Int) from rfl,show (3:Int)=((3:Nat):Int) from rfl,show (4:Int)=((4:Nat):Int) from rfl,h 0 (by decide),h 1 (by decide),h 2 (by decide),h 3 (by decide),h 4 (by decide)]
def obF1:Option Blk->List Row
  | some B=>[(1,B)]
  | none=>[]
def tlγ:PG Unit TP:=⟨(),[],[],(0,0),0,fun _=>none,10000⟩
set_option maxRecDepth 20000 in
theorem ztj (ls:List (List zc1)) (sl0:Option Addr) (cap0:Nat) (ps:List (Option Addr × Nat)) (ob:Option Blk) (obs:List (Option Blk)) (OB:Blk) (sl1:Option Addr) (rc:Nat) (rw':List Nat) (ob1:Option Blk) (hobs:obs.length=ls.length) (hOB:0<ls.length->ob=some OB) (hat0:SlAt 0 sl0) (hrow0:0<ls.length->sl0=some ⟨0,0,none⟩/\OB.cells=(List.range ls.length).map (fun i=>Value.slice (ps.getD i (none,0)).1 (ls.getD i []).length (ps.getD i (none,0)).2)/\OB.ro=true)
    (hrow:∀ i,i<ls.length->znx actC (2+i) (ps.getD i (none,0)).1 (ls.getD i []) (obs.getD i none)) (hro:∀ i b,obs.getD i none=some b->b.ro=true) (hat1:SlAt 1 sl1) (hrow1:znx u8N 1 sl1 rw' ob1) (hro1:∀ b,ob1=some b->b.ro=true) (h6:ls.length<=6) (hlens:∀ i,(ls.getD i []).length<=9223372036854775807) (hlen1:rw'.length<=9223372036854775807) (h255:∀ x∈rw',x<=255) :
    LawRunsO (tlPr ls ls.length cap0 OB obs) 3 #[.slice sl0 ls.length cap0,.slice sl1 rw'.length rc] (ob::ob1::obs) tlγ:=by
  refine LawRunsO.mk Try.func3 rfl ?_ ?_
  . intro u hu;simp only [List.mem_toArray,zMc,zNm,or_false] at hu;rcases hu with rfl|rfl
    . exact hat0.clo (by simp)
    . exact hat1.clo (by simp)
  rw [Try.ntmps3];simp only [zSt,zLc,zLn,List.replicate,zCa,zNa];refine Goes.list fun lf hlf hge=>?_;have hlf:lf.length=ls.length+2:=by rw [hlf];simp [hobs]
  have e2:(ob::ob1::obs).length=ls.length+2:=by simp [hobs]
  rw [e2];obtain⟨n,hn⟩:∃ n,n=ls.length:=⟨_,rfl⟩;rw [<-hn] at hobs hOB hrow0 hrow h6 hlf ⊢;have rOB:0<n->lf[0]?=some (some OB):=fun h=>hge 0 _ (by rw [hOB h];rfl)
  have rR:∀ B,ob1=some B->lf[1]?=some (some B):=fun B h=>hge 1 _ (by rw [h];rfl)
  have rI:∀ x∈tlIn obs n,lf[x.1]?=some (some x.2):=fun x hx=>by
    obtain⟨i,hi,h1,h2⟩:=zot hx;refine hge x.1 x.2 ?_;rw [h2,show 2+i=i+1+1 by omega]
    simp only [zGs];have:obs[i]?=some obs[i]:=List.getElem?_eq_getElem (by omega)
    simp only [List.getD,this,Option.getD_some] at h1;rw [this,h1]
  by_cases h0:n=0
  . refine via ?_;((first|refine qp1 rfl rfl fun K hK=>?_|refine qp3 rfl rfl fun K hK=>?_);simp (disch:=(first|omega|(simp only [sz]<;>omega)|fail)) only [go_sem];(first|refine⟨_,_,(qpd fun w=>zaU),?_⟩|refine⟨_,_,(qpu fun w=>zaU),?_⟩|refine⟨_,_,.com (qpd fun w=>zaU),?_⟩|refine⟨_,_,.com (qpu fun w=>zaU),?_⟩);(try simp only [go_sem]);with_reducible refine hK _ _ ?_;clear hK K)
    refine via ?_;refine Goes.endL rfl (by simp (disch:=(first|omega|(simp only [zaa,zLc,zLn,zSt,zad]<;>omega)|fail)) only [go_sem,resA,zaB,Try.results3]<;>rfl) ?_ ?_
    . exact KeepC.refl _
    . exact Idle.nil
  by_cases h200:rw'.length > 200
  . refine via ?_;((first|refine qp1 rfl rfl fun K hK=>?_|refine qp3 rfl rfl fun K hK=>?_);simp (disch:=(first|omega|(simp only [sz]<;>omega)|fail)) only [go_sem];(first|refine⟨_,_,(qpd fun w=>zaU),?_⟩|refine⟨_,_,(qpu fun w=>zaU),?_⟩|refine⟨_,_,.com (qpd fun w=>zaU),?_⟩|refine⟨_,_,.com (qpu fun w=>zaU),?_⟩);(try simp only [go_sem]);with_reducible refine hK _ _ ?_;clear hK K)
    refine via ?_;refine Goes.endL rfl (by simp (disch:=(first|omega|(simp only [zaa,zLc,zLn,zSt,zad]<;>omega)|fail)) only [go_sem,resA,zaB,Try.results3]<;>rfl) ?_ ?_
    . exact KeepC.refl _
    . exact Idle.nil
  obtain⟨rfl,hOBc,hOBr⟩:=hrow0 (by omega)
  have hcell:∀ i,i<n->OB.cells[i]?=some (.slice (ps.getD i (none,0)).1 (ls.getD i []).length (ps.getD i (none,0)).2):=fun i hi=>by rw [hOBc];simp [hi]
  refine via ?_;refine Goes.folds (by omega) fun lg hlg hge2 hrow2=>?_
  have rB:lg[n+2]?=some (some (zmM n cap0)):=hrow2 0;replace rOB:=hge2 _ _ (rOB (by omega))
  have rR:∀ B,ob1=some B->lg[1]?=some (some B):=fun B h=>hge2 _ _ (rR B h);have rI:∀ x∈tlIn obs n,lg[x.1]?=some (some x.2):=fun x hx=>hge2 _ _ (rI x hx);simp only [zLc,zLn,Nat.zero_add] at hlg ⊢;clear hge hge2 hrow2;refine GE.wh (fun z tmps h S γ=>∃ i:Nat,z=n - i/\i<=n/\h=zaE lg (n+3) []/\S=[]/\γ=(tlγ,[])/\(∀ j,j<i->(ls.getD j []).length<=10)/\tmps.length=113 /\
      tmps.getD 1 undef=.slice sl1 rw'.length rc/\tmps.getD 2 undef=.pointer (some ⟨n+2,0,none⟩)/\tmps.getD 5 undef=.int .i64 (i:Int)) (m:=n)
    ⟨0,rfl,by omega,rfl,rfl,rfl,fun j hj=>by omega,rfl,rfl,rfl,rfl⟩ ?_
  rintro z tmps h S γ ih ⟨i,rfl,hi,rfl,rfl,rfl,h10,hl,f1,f2,f5⟩;obtain⟨V,hV,hT⟩:=zbL hl;replace hT:_=([V 0,V 1,V 2,V 3,V 4,V 5,V 6,V 7,V 8,V 9,V 10,V 11,V 12,V 13,V 14,V 15,V 16,V 17,V 18,V 19,V 20,V 21,V 22,V 23,V 24,V 25,V 26,V 27,V 28,V 29,V 30,V 31,V 32,V 33,V 34,V 35,V 36,V 37,V 38,V 39,V 40,V 41,V 42,V 43,V 44,V 45,V 46,V 47,V 48,V 49,V 50,V 51,V 52,V 53,V 54,V 55,V 56,V 57,V 58,V 59,V 60,V 61,V 62,V 63,V 64,V 65,V 66,V 67,V 68,V 69,V 70,V 71,V 72,V 73,V 74,V 75,V 76,V 77,V 78,V 79,V 80,V 81,V 82,V 83,V 84,V 85,V 86,V 87,V 88,V 89,V 90,V 91,V 92,V 93,V 94,V 95,V 96,V 97,V 98,V 99,V 100,V 101,V 102,V 103,V 104,V 105,V 106,V 107,V 108,V 109,V 110,V 111,V 112]:List Value):=hT;rw [hV] at f1 f2 f5;subst hT;simp only [f1,f2,f5];clear hV hl;by_cases hin:i<n
  case pos =>
    have hc:OB.cells[i * 1]?=some (.slice (ps.getD i (none,0)).1 (ls.getD i []).length (ps.getD i (none,0)).2):=by rw [Nat.mul_one];exact hcell i hin
    by_cases hl10:(ls.getD i []).length<=10
    . refine viaF (And.intro rB (And.intro rOB hc)) ?_;refine Goes.again (ih (n - (i+1)) _ _ _ _ (by omega) ⟨i+1,rfl,by omega,rfl,rfl,rfl,fun j hj=>?_,rfl,rfl,rfl,by push_cast;rfl⟩)
      by_cases e:j=i
      . rw [e];exact hl10
      . exact h10 j (by omega)
    . refine viaF (And.intro rB (And.intro rOB hc)) ?_;((first|refine qp1 rfl rfl fun K hK=>?_|refine qp3 rfl rfl fun K hK=>?_);simp (disch:=(first|omega|(simp only [sz]<;>omega)|fail)) only [go_sem];(first|refine⟨_,_,(qpd fun w=>zaU),?_⟩|refine⟨_,_,(qpu fun w=>zaU),?_⟩|refine⟨_,_,.com (qpd fun w=>zaU),?_⟩|refine⟨_,_,.com (qpu fun w=>zaU),?_⟩);(try simp only [go_sem]);with_reducible refine hK _ _ ?_;clear hK K)
      refine via ?_;refine Goes.endL rfl (by simp (disch:=(first|omega|(simp only [zaa,zLc,zLn,zSt,zad]<;>omega)|fail)) only [go_sem,resA,zaB,Try.results3]<;>rfl) ?_ ?_
      . exact KeepC.refl _
      . exact Idle.nil
  obtain rfl:i=n:=by omega
  clear ih;refine viaF rB ?_;((first|refine qc1 rfl rfl fun K hK=>?_|refine qc3 rfl rfl fun K hK=>?_);simp (disch:=(first|omega|(simp only [sz]<;>omega)|fail)) only [go_sem];(first|refine⟨_,_,zc3 [] 1 6 (by decide) (by decide) (by decide) (by decide) (by decide),?_⟩|refine⟨_,_,Does.com (zc3 [] 1 6 (by decide) (by decide) (by decide) (by decide) (by decide)),?_⟩);(try simp only [go_sem]);with_reducible refine hK _ _ ?_;clear hK K)
  refine via ?_;((first|refine qc1 rfl rfl fun K hK=>?_|refine qc3 rfl rfl fun K hK=>?_);simp (disch:=(first|omega|(simp only [sz]<;>omega)|fail)) only [go_sem];(first|refine⟨_,_,zc3 [.mem (List.replicate (gb 1 6 19) 0) (List.replicate 64 0)] 1 6 (by decide) (by decide) (by decide) (by decide) (by decide),?_⟩|refine⟨_,_,Does.com (zc3 [.mem (List.replicate (gb 1 6 19) 0) (List.replicate 64 0)] 1 6 (by decide) (by decide) (by decide) (by decide) (by decide)),?_⟩);(try simp only [go_sem]);with_reducible refine hK _ _ ?_;clear hK K)
  refine via ?_;refine Goes.folds (by omega) fun lh hlh hge3 hrow3=>?_
  simp only [zLc,zLn,Nat.zero_add] at hlh ⊢;have hRWl:Fr (tlRW i cap0 OB obs) lh:=Fr.cons (hge3 _ _ rB) (Fr.cons (hrow3 0) (Fr.cons (hge3 _ _ rOB) fun x hx=>hge3 _ _ (rI x hx)));have rR2:∀ B,ob1=some B->lh[1]?=some (some B):=fun B h=>hge3 _ _ (rR B h);have hcl:=zo5 (n:=i) (cap:=cap0) (OB:=OB) (obs:=obs) hOBr hro;have q0:i+2<i+3:=by omega
  refine GE.wh (fun z tmps h S γ=>∃ (m:Nat) (lf:List (Option Blk)) (q:Nat) (v:Value),z=i - m/\m<=i/\h=zaE lf q []/\S=[.mem (List.replicate (gb 1 6 19) 0) (List.replicate 64 0),.mem (List.replicate (gb 1 6 19) 0) (List.replicate 64 0)]/\γ=(tlγ,[])/\lf.length<=q/\i+4<=q/\q<=100+10 * m/\Fr (tlRW i cap0 OB obs) lf/\(∀ B,ob1=some B->lf[1]?=some (some B))/\BdR (List.replicate m (7,(#[.pointer (some ⟨i+2,0,none⟩),.pointer (some ⟨i+3,0,none⟩)]:Array Value))) lf v/\tmps.length=113 /\
      tmps.getD 1 undef=.slice sl1 rw'.length rc/\tmps.getD 2 undef=.pointer (some ⟨i+2,0,none⟩)/\tmps.getD 6 undef=.pointer (some ⟨i+3,0,none⟩)/\tmps.getD 7 undef=hndV 0/\tmps.getD 9 undef=hndV 1/\tmps.getD 10 undef=v/\tmps.getD 11 undef=.int .i64 (m:Int)) (m:=i)
    ⟨0,lh,_,.slice none 0 0,rfl,by omega,rfl,rfl,rfl,by omega,by omega,by omega,hRWl,rR2,.inl ⟨rfl,rfl⟩,rfl,rfl,rfl,rfl,rfl,rfl,rfl,rfl⟩ ?_
  clear hRWl rR2 hrow3 hge3 hlh rR rI rB rOB hlg;rintro z tmps h S γ ih ⟨m,lf,q,v,rfl,hm,rfl,rfl,rfl,hlq,hq5,hq,hRW,rR,hB,hl,f1,f2,f6,f7,f9,f10,f11⟩;obtain⟨V,hV,hT⟩:=zbL hl;replace hT:_=([V 0,V 1,V 2,V 3,V 4,V 5,V 6,V 7,V 8,V 9,V 10,V 11,V 12,V 13,V 14,V 15,V 16,V 17,V 18,V 19,V 20,V 21,V 22,V 23,V 24,V 25,V 26,V 27,V 28,V 29,V 30,V 31,V 32,V 33,V 34,V 35,V 36,V 37,V 38,V 39,V 40,V 41,V 42,V 43,V 44,V 45,V 46,V 47,V 48,V 49,V 50,V 51,V 52,V 53,V 54,V 55,V 56,V 57,V 58,V 59,V 60,V 61,V 62,V 63,V 64,V 65,V 66,V 67,V 68,V 69,V 70,V 71,V 72,V 73,V 74,V 75,V 76,V 77,V 78,V 79,V 80,V 81,V 82,V 83,V 84,V 85,V 86,V 87,V 88,V 89,V 90,V 91,V 92,V 93,V 94,V 95,V 96,V 97,V 98,V 99,V 100,V 101,V 102,V 103,V 104,V 105,V 106,V 107,V 108,V 109,V 110,V 111,V 112]:List Value):=hT;rw [hV] at f1 f2 f6 f7 f9 f10 f11;subst hT;simp only [f1,f2,f6,f7,f9,f10,f11];clear hV hl;have rB:=hRW (i+2,zmM i cap0) (by simp [tlRW])
  have qB:i+2<q:=by omega
  by_cases hmi:m<i
  case pos =>
    refine viaF rB ?_;rcases hB with ⟨e1,rfl⟩|⟨e1,nb,rfl,hnb⟩
    . obtain rfl:m=0:=by simpa using congrArg List.length e1
      (refine At.appE rfl rfl rfl rfl (zgJ znS (zfF 0 rfl rfl (by decide)) (by decide) (by decide)) (by simp (disch:=(first|omega|(simp only [sz]<;>omega)|fail)) only [go_sem];(try simp only [sz]);unfold VB;omega) fun K hK=>?_;simp (disch:=(first|omega|(simp only [sz]<;>omega)|fail)) only [go_sem];with_reducible refine hK _ _ ?_;clear hK K);refine via ?_
      refine Goes.folds hlq fun lg hlg hge hrow=>?_;simp only [zLc,zLn,Nat.zero_add,Nat.reduceAdd] at hlg ⊢;refine Goes.again (ih (i - 1) _ _ _ _ (by omega) ⟨1,lg,q+2,_,rfl,by omega,rfl,rfl,rfl,by omega,by omega,by omega,hRW.ge hge,fun B hB=>hge _ _ (rR B hB),.inr ⟨by simp,q+1,rfl,hrow 1⟩,rfl,rfl,rfl,rfl,rfl,rfl,rfl,rfl⟩)
    . simp only [List.length_replicate] at e1 ⊢;have hnbl:=(List.getElem?_eq_some_iff.1 hnb).1;have hnbq:nb<q:=by omega
      have hkg:∀ ys,(zaE lf q ys).get nb=some ⟨(List.replicate m (7,(#[.pointer (some ⟨i+2,0,none⟩),.pointer (some ⟨i+3,0,none⟩)]:Array Value))).map bdV,39,false,some 1⟩:=fun ys=>by
        rw [zga (by omega),hnb];rfl
      (refine At.appE rfl rfl rfl rfl (zlx znS (hkg _) rfl rfl (by simp) (zfF 0 rfl rfl (by decide)) rfl (by decide) (by omega)) (by simp (disch:=(first|omega|(simp only [sz]<;>omega)|fail)) only [go_sem];(try simp only [sz]);unfold VB;omega) fun K hK=>?_;simp (disch:=(first|omega|(simp only [sz]<;>omega)|fail)) only [go_sem];with_reducible refine hK _ _ ?_;clear hK K);refine via ?_
      refine Goes.folds (by rw [List.length_set];exact hlq) fun lg hlg hge hrow=>?_
      simp only [zLc,zLn,Nat.zero_add,Nat.reduceAdd] at hlg ⊢;refine Goes.again (ih (i - (m+1)) _ _ _ _ (by omega) ⟨m+1,lg,q+2,_,rfl,by omega,rfl,rfl,rfl,by omega,by omega,by omega,fun x hx=>zl0 hnb hge (hRW x hx) (zrl (hcl x hx).2),fun B hB=>zl0 hnb hge (rR B hB) (zrl (.inr (hro1 B hB))),.inr ⟨by simp,q+1,by rw [List.length_replicate];rfl,?_⟩,rfl,rfl,rfl,rfl,rfl,rfl,rfl,by push_cast;rfl⟩)
      refine (hrow 1).trans ?_;rw [List.replicate_succ'];simp [bdB]
  obtain rfl:m=i:=by omega
  clear ih;obtain⟨bds,hbds⟩:∃ bds,bds=List.replicate m (7,(#[.pointer (some ⟨m+2,0,none⟩),.pointer (some ⟨m+3,0,none⟩)]:Array Value)):=⟨_,rfl⟩;rw [<-hbds] at hB;have hbl:bds.length=m:=by rw [hbds,List.length_replicate]
  obtain⟨nb,rfl,hnb⟩:=hB.nb (by omega)
  refine viaF rB ?_;have hWz:Wd 1 6 (List.replicate (gb 1 6 19) 0) (fun _ _=>0):=Wd.zero (Nat.le_refl 1) (Nat.le_refl _);have hcold:∀ x∈(nb,bdB bds)::obF1 ob1,zd3 x.2=false:=fun x hx=>by
    rcases List.mem_cons.1 hx with rfl|hx
    . rfl
    . cases ob1 with
      | none=>cases hx
      | some B =>
        obtain rfl:x=(1,B):=List.mem_singleton.1 hx;unfold zd3;simp [hro1 B rfl]
  have hPI:PI (zcx (tlA ls) (tlRW m cap0 OB obs)) 0 2 [.mem (List.replicate (gb 1 6 19) 0) (List.replicate 64 0),.mem (List.replicate (gb 1 6 19) 0) (List.replicate 64 0)] (tlγ,[]) lf q 1000000 [.mem (List.replicate (gb 1 6 19) 0) (List.replicate 64 0),.mem (List.replicate (gb 1 6 19) 0) (List.replicate 64 0)] (List.replicate (gb 1 6 19) 0) (List.replicate 64 0) ((nb,bdB bds)::obF1 ob1):=by
    refine⟨KeepC.more rfl (KeepC.more rfl (KeepC.refl _)),rfl,⟨hRW,_,hWz,⟨fun _ _ h=>by simp [tlγ] at h,fun c hc=>rfl⟩⟩,hlq,?_,List.nodup_nil,?_,fun x hx=>rfl,fun k hk=>(by cases hk),fun i k h=>by simp [tlγ] at h,fun k hk=>rfl,fun x a b c e f h=>?_,fun j hj hjp=>rfl,by decide,by simp⟩
    . show q+1000 * 10000+1000000<=500000000;omega
    . refine Fr.cons hnb ?_;cases ob1 with
      | none=>exact Fr.nil
      | some B=>exact Fr.cons (rR B rfl) Fr.nil
    . match x,h with
      | 0,h=>cases h
      | 1,h=>cases h
      | x+2,h=>simp at h
  have hA100:∀ j,(tlA ls j).length<=100:=fun j=>by
    have h1:=zh3 (ls.getD j []);by_cases hj:j<m
    . have:=h10 j hj;show (zaX (ls.getD j [])).length<=100;omega
    . have:ls.getD j []=[]:=by simp [List.getD,List.getElem?_eq_none (show ls.length<=j by omega)]
      show (zaX (ls.getD j [])).length<=100;rw [this];simp [zaX]
  (refine qg1 rfl rfl fun K hK=>?_;simp (disch:=(first|omega|(simp only [sz]<;>omega)|fail)) only [go_sem]);refine znI (tlOk (fun j=>zka _) (fun j=>?_) fun x hx=>(hcl x hx).1) hPI rfl hcold bds (nb:=nb) (BB:=bdB bds) List.mem_cons_self zue rw' h255 (fun hne=>?_) 100 (Nat.le_refl 100) (by decide) (by omega) (by omega) (by omega) (by show 2 * (bds.length+rw'.length+bds.length * (100+1))<=10000;omega) (Nat.le_refl _) (fun j b hb kk hp γ' l' q' S' ws' bs' hB' hlen' hnone hborn=>?_) fun γ' l' q' S' ws' bs' hE=>?_
  . exact hA100 j
  . obtain⟨h1,el,h2⟩:=hrow1 (List.length_pos_iff.2 hne);refine⟨1,⟨rowC u8N rw',el,true,none⟩,h1,?_,fun j x hj=>?_⟩
    . rw [h2];exact List.mem_cons_of_mem _ (List.mem_singleton.2 rfl)
    . have:=zlL (fl:=u8N) (s:=1) (fun _=>rfl) (j:=0) hj (by decide)
      simpa [u8N] using this
  . have hj:=(List.getElem?_eq_some_iff.1 hb).1;rw [hbds,List.getElem?_replicate,if_pos (by omega)] at hb
    cases hb;refine ztv hB' hborn (hA100 j) (ls.getD j []) rfl (h10 j (by omega)) (ab:=m+2) (gb:=m+3) (n:=m) (cap:=cap0) (OB:=OB) (s:=(ps.getD j (none,0)).1) (cp:=(ps.getD j (none,0)).2) (by omega) (by simp [tlRW]) (by simp [tlRW]) (by simp [tlRW]) (hcell j (by omega)) fun hpos=>?_
    obtain⟨k1,el,k2⟩:=hrow j (by omega) hpos
    exact⟨2+j,_,k1,by unfold tlRW;exact List.mem_cons_of_mem _ (List.mem_cons_of_mem _ (List.mem_cons_of_mem _ (zmc (by omega) k2))),rfl⟩
  ((try simp only [go_sem]);with_reducible refine hK _ _ _ _ ?_;clear hK K)
  rw [hbl] at hE;obtain⟨hRW',W,hW,hT⟩:=hE.inv;have hq':=hE.ql;have hl':=hE.ll;have r1:=hRW' (m+2,zmM m cap0) (by simp [tlRW])
  have l1:m+2<q':=Nat.lt_of_lt_of_le (List.getElem?_eq_some_iff.1 r1).1 hl';have hm1:S'[1]?=some (.mem (List.replicate (gb 1 6 19) 0) (List.replicate 64 0)):=hE.old 1 (by decide) (by decide)
  refine viaF r1 ?_;have hcells:=hcell;have hsum:∀ (c:Nat),totC (tlA ls) c 0 (List.replicate m none)=totC (tlA ls) c (m - m) (List.replicate m none):=fun c=>by rw [Nat.sub_self]
  refine GE.wh (fun z tmps h S γ=>∃ (x q:Nat) (l:List (Option Blk)) (w1:List UInt64) (W1:Nat->Nat->UInt64),z=m - x/\x<=m/\h=zaE l q []/\l.length<=q/\q<=500000000+0 * x/\Fr (tlRW m cap0 OB obs) l/\KeepC γ.2 S/\Idle S/\S[0]?=some (.mem ws' bs')/\S[1]?=some (.mem w1 (List.replicate 64 0))/\Wd 1 6 w1 W1/\(∀ c,c<5->W1 2 c=totC (tlA ls) c (m - x) (List.replicate x none))/\tmps.length=113 /\
      tmps.getD 2 undef=.pointer (some ⟨m+2,0,none⟩)/\tmps.getD 6 undef=.pointer (some ⟨m+3,0,none⟩)/\tmps.getD 7 undef=hndV 0/\tmps.getD 9 undef=hndV 1/\tmps.getD 12 undef=.int .i64 ((m:Int) - 1 - (x:Int))) (m:=m)
    ⟨0,q',l',_,_,rfl,by omega,rfl,hl',by omega,hRW',hE.keep,hE.busy,hE.hm,hm1,hWz,fun c _=>rfl,rfl,rfl,rfl,rfl,rfl,by simp⟩ ?_
  clear hm1 hE r1 l1 hl' hq' hRW';rintro z tmps h S γ ih ⟨x,q,l,w1,W1,rfl,hx,rfl,hlq,hq,hRW,hK,hI,hm0,hm1,hW1,hc1,hl,f2,f6,f7,f9,f12⟩;obtain⟨V,hV,hT⟩:=zbL hl;replace hT:_=([V 0,V 1,V 2,V 3,V 4,V 5,V 6,V 7,V 8,V 9,V 10,V 11,V 12,V 13,V 14,V 15,V 16,V 17,V 18,V 19,V 20,V 21,V 22,V 23,V 24,V 25,V 26,V 27,V 28,V 29,V 30,V 31,V 32,V 33,V 34,V 35,V 36,V 37,V 38,V 39,V 40,V 41,V 42,V 43,V 44,V 45,V 46,V 47,V 48,V 49,V 50,V 51,V 52,V 53,V 54,V 55,V 56,V 57,V 58,V 59,V 60,V 61,V 62,V 63,V 64,V 65,V 66,V 67,V 68,V 69,V 70,V 71,V 72,V 73,V 74,V 75,V 76,V 77,V 78,V 79,V 80,V 81,V 82,V 83,V 84,V 85,V 86,V 87,V 88,V 89,V 90,V 91,V 92,V 93,V 94,V 95,V 96,V 97,V 98,V 99,V 100,V 101,V 102,V 103,V 104,V 105,V 106,V 107,V 108,V 109,V 110,V 111,V 112]:List Value):=hT;rw [hV] at f2 f6 f7 f9 f12;subst hT;simp only [f2,f6,f7,f9,f12];clear hV hl;have r1:=hRW (m+2,zmM m cap0) (by simp [tlRW])
  have r2:=hRW (m+3,tlG) (by simp [tlRW])
  have r3:=hRW (0,OB) (by simp [tlRW])
  have l2:m+3<q:=Nat.lt_of_lt_of_le (List.getElem?_eq_some_iff.1 r2).1 hlq;by_cases hxm:x<m
  case pos =>
    obtain⟨d,hd⟩:∃ d,d=m - 1 - x:=⟨_,rfl⟩;have ed:(m:Int) - 1 - (x:Int)=(d:Int):=by omega
    have hdm:d<m:=by omega
    simp only [ed];refine via ?_;refine GE.wh (fun z tmps h S γ=>∃ (k q:Nat) (l:List (Option Blk)) (w1:List UInt64) (W1:Nat->Nat->UInt64),z=(ls.getD d []).length - k/\k<=(ls.getD d []).length/\h=zaE l q []/\l.length<=q/\q<=500000000/\Fr (tlRW m cap0 OB obs) l/\KeepC γ.2 S/\Idle S/\S[0]?=some (.mem ws' bs')/\S[1]?=some (.mem w1 (List.replicate 64 0))/\Wd 1 6 w1 W1/\(∀ c,c<5->W1 2 c=totC (tlA ls) c (m - x) (List.replicate x none)+cntT c (zaX ((ls.getD d []).take k)))/\tmps.length=113 /\
        tmps.getD 2 undef=.pointer (some ⟨m+2,0,none⟩)/\tmps.getD 6 undef=.pointer (some ⟨m+3,0,none⟩)/\tmps.getD 7 undef=hndV 0/\tmps.getD 9 undef=hndV 1/\tmps.getD 12 undef=.int .i64 (d:Int)/\tmps.getD 13 undef=.int .i64 (k:Int)) (m:=(ls.getD d []).length)
      ⟨0,q,l,w1,W1,rfl,by omega,rfl,hlq,by omega,hRW,hK,hI,hm0,hm1,hW1,fun c hc=>by rw [hc1 c hc];simp [zaX,cntT],rfl,rfl,rfl,rfl,rfl,rfl,rfl⟩ ?_
    clear hm0 hm1 hW1 hc1 hK hI hRW hlq hq r1 r2 r3 l2;rintro z tmps h S γ ih2 ⟨k,q,l,w1,W1,rfl,hk,rfl,hlq,hq,hRW,hK,hI,hm0,hm1,hW1,hc1,hl,f2,f6,f7,f9,f12,f13⟩;obtain⟨V,hV,hT⟩:=zbL hl;replace hT:_=([V 0,V 1,V 2,V 3,V 4,V 5,V 6,V 7,V 8,V 9,V 10,V 11,V 12,V 13,V 14,V 15,V 16,V 17,V 18,V 19,V 20,V 21,V 22,V 23,V 24,V 25,V 26,V 27,V 28,V 29,V 30,V 31,V 32,V 33,V 34,V 35,V 36,V 37,V 38,V 39,V 40,V 41,V 42,V 43,V 44,V 45,V 46,V 47,V 48,V 49,V 50,V 51,V 52,V 53,V 54,V 55,V 56,V 57,V 58,V 59,V 60,V 61,V 62,V 63,V 64,V 65,V 66,V 67,V 68,V 69,V 70,V 71,V 72,V 73,V 74,V 75,V 76,V 77,V 78,V 79,V 80,V 81,V 82,V 83,V 84,V 85,V 86,V 87,V 88,V 89,V 90,V 91,V 92,V 93,V 94,V 95,V 96,V 97,V 98,V 99,V 100,V 101,V 102,V 103,V 104,V 105,V 106,V 107,V 108,V 109,V 110,V 111,V 112]:List Value):=hT;rw [hV] at f2 f6 f7 f9 f12 f13;subst hT;simp only [f2,f6,f7,f9,f12,f13];clear hV hl;have r1:=hRW (m+2,zmM m cap0) (by simp [tlRW])
    have r2:=hRW (m+3,tlG) (by simp [tlRW])
    have r3:=hRW (0,OB) (by simp [tlRW])
    have l2:m+3<q:=Nat.lt_of_lt_of_le (List.getElem?_eq_some_iff.1 r2).1 hlq;have hc:OB.cells[d * 1]?=some (.slice (ps.getD d (none,0)).1 (ls.getD d []).length (ps.getD d (none,0)).2):=by rw [Nat.mul_one];exact hcells d hdm
    by_cases hkl:k<(ls.getD d []).length
    case pos =>
      obtain⟨y,hy⟩:∃ y,(ls.getD d [])[k]?=some y:=⟨_,List.getElem?_eq_getElem hkl⟩;obtain⟨hy1,hy2⟩:=zlq hy;have hk10:=h10 d hdm;obtain⟨k1,el,k2⟩:=hrow d hdm (by omega)
      have rIn:l[2+d]?=some (some ⟨rowC actC (ls.getD d []),el,true,none⟩):=hRW (2+d,_) (by unfold tlRW;exact List.mem_cons_of_mem _ (List.mem_cons_of_mem _ (List.mem_cons_of_mem _ (zmc hdm k2))))
      have lIn:2+d<q:=by omega
      have hlen3:(rowC actC (ls.getD d [])).length=(ls.getD d []).length * 3:=zgv (fl:=actC) (s:=3) (fun _=>rfl) _;have cl:(List.take 3 (List.drop (k * 3) (rowC actC (ls.getD d [])))).toArray=#[.int .u8 y.d,.int .i64 y.a,.int .i64 y.b]:=by rw [zjb (fl:=actC) (s:=3) (fun _=>rfl) hy];rfl
      refine viaF (And.intro r1 (And.intro r3 (And.intro hc r2))) ?_;((first|refine qp1 rfl rfl fun K hK=>?_|refine qp3 rfl rfl fun K hK=>?_);simp (disch:=(first|omega|(simp only [sz]<;>omega)|fail)) only [go_sem];(first|refine⟨_,_,.pnew hm1,?_⟩|refine⟨_,_,.com (.pnew hm1),?_⟩);(try simp only [go_sem]);with_reducible refine hK _ _ ?_;clear hK K)
      rw [k1] at hc;refine viaF (And.intro r1 (And.intro r3 (And.intro hc (And.intro r2 (And.intro k1 (And.intro rIn cl)))))) ?_;have hl1:=zaH hm1;((first|refine qc1 rfl rfl fun K hK=>?_|refine qc3 rfl rfl fun K hK=>?_);simp (disch:=(first|omega|(simp only [sz]<;>omega)|fail)) only [go_sem];(first|refine⟨_,_,znL _ S.length 1 d 0 w1 _ 1 6 y (by simp) (by rw [List.getElem?_append_left hl1];exact hm1) (by decide) (by decide) (by decide),?_⟩|refine⟨_,_,Does.com (znL _ S.length 1 d 0 w1 _ 1 6 y (by simp) (by rw [List.getElem?_append_left hl1];exact hm1) (by decide) (by decide) (by decide)),?_⟩);(try simp only [go_sem]);with_reducible refine hK _ _ ?_;clear hK K)
      refine via ?_;obtain⟨p1,p2,p3,p4,p5⟩:=zi1 (me:=(d:Int)) (st:=(actT y).length) (w2:=tAdd 1 6 (actT y) w1) hm1;obtain⟨W2,hW2,hc2⟩:=hW1.tAdd (ts:=actT y) fun z hz=>zka (ls.getD d []) z (List.mem_flatMap.2 ⟨y,List.mem_of_getElem? hy,hz⟩);refine Goes.again (ih2 ((ls.getD d []).length - (k+1)) _ _ _ _ (by omega) ⟨k+1,q,l,_,W2,rfl,by omega,rfl,hlq,hq,hRW,hK.trans p1,p2 hI,p4 0 _ (by decide) hm0,p3,hW2,fun c hc=>?_,rfl,rfl,rfl,rfl,rfl,rfl,by push_cast;rfl⟩)
      rw [hc2 c hc,hc1 c hc,hy1,ziP,UInt64.add_assoc]
    refine viaF (And.intro r1 (And.intro r3 hc)) ?_;refine Goes.again (ih (m - (x+1)) _ _ _ _ (by omega) ⟨x+1,q,l,w1,W1,rfl,by omega,rfl,hlq,by omega,hRW,hK,hI,hm0,hm1,hW1,fun c hc=>?_,rfl,rfl,rfl,rfl,rfl,?_⟩)
    . rw [hc1 c hc,show k=(ls.getD d []).length by omega,List.take_length,List.replicate_succ]
      simp only [totC];rw [show m - (x+1)=d by omega,show m - x=d+1 by omega]
      show _=cntT c ((tlA ls d).take (tlA ls d).length)+_;rw [List.take_length,UInt64.add_comm];rfl
    . have:(d:Int) - 1=(m:Int) - 1 - ((x+1:Nat):Int):=by omega
      rw [<-this];rfl
  obtain rfl:x=m:=by omega
  refine via ?_;((first|refine qp1 rfl rfl fun K hK=>?_|refine qp3 rfl rfl fun K hK=>?_);simp (disch:=(first|omega|(simp only [sz]<;>omega)|fail)) only [go_sem];(first|refine⟨_,_,.pnew hm0,?_⟩|refine⟨_,_,.com (.pnew hm0),?_⟩);(try simp only [go_sem]);with_reducible refine hK _ _ ?_;clear hK K)
  refine viaF r2 ?_;have hl0:=zaH hm0;obtain⟨p1,p2,p3,p4,p5⟩:=zi1 (me:=0) (st:=5) (w2:=ws') hm0;((first|refine qc1 rfl rfl fun K hK=>?_|refine qc3 rfl rfl fun K hK=>?_);simp (disch:=(first|omega|(simp only [sz]<;>omega)|fail)) only [go_sem];(first|refine⟨_,_,zmx _ S.length 0 0 0 ws' bs' 1 6 (by simp) (by rw [List.getElem?_append_left hl0];exact hm0) (by decide) (by decide) (by decide),?_⟩|refine⟨_,_,Does.com (zmx _ S.length 0 0 0 ws' bs' 1 6 (by simp) (by rw [List.getElem?_append_left hl0];exact hm0) (by decide) (by decide) (by decide)),?_⟩);(try simp only [go_sem]);with_reducible refine hK _ _ ?_;clear hK K)
  refine viaF r2 ?_;have hm1':=p4 1 _ (by decide) hm1
  ((first|refine qp1 rfl rfl fun K hK=>?_|refine qp3 rfl rfl fun K hK=>?_);simp (disch:=(first|omega|(simp only [sz]<;>omega)|fail)) only [go_sem];(first|refine⟨_,_,.pnew hm1',?_⟩|refine⟨_,_,.com (.pnew hm1'),?_⟩);(try simp only [go_sem]);with_reducible refine hK _ _ ?_;clear hK K)
  refine viaF r2 ?_;obtain⟨u1,u2,u3,u4,u5⟩:=zi1 (me:=1) (st:=5) (w2:=w1) hm1';generalize accS (S++[Ob.port 0 0 0]) S.length 0 0 5 ws' bs'=S2 at *;have hl1:=zaH hm1';((first|refine qc1 rfl rfl fun K hK=>?_|refine qc3 rfl rfl fun K hK=>?_);simp (disch:=(first|omega|(simp only [sz]<;>omega)|fail)) only [go_sem];(first|refine⟨_,_,zmx _ S2.length 1 1 0 w1 _ 1 6 (by simp) (by rw [List.getElem?_append_left hl1];exact hm1') (by decide) (by decide) (by decide),?_⟩|refine⟨_,_,Does.com (zmx _ S2.length 1 1 0 w1 _ 1 6 (by simp) (by rw [List.getElem?_append_left hl1];exact hm1') (by decide) (by decide) (by decide)),?_⟩);(try simp only [go_sem]);with_reducible refine hK _ _ ?_;clear hK K)
  have hcs:∀ c,c<5->W1 2 c=W 2 c:=fun c hc=>by rw [hc1 c hc,hT.cnt c hc,Nat.sub_self];rfl
  have ecs:zfd 1 6 w1=zfd 1 6 ws':=by rw [zgU hW1,zgU hW,hcs 0 (by decide),hcs 1 (by decide),hcs 2 (by decide),hcs 3 (by decide),hcs 4 (by decide)]
  rw [ecs,zgU hW]
  repeat (first|refine Goes.reg ?_|refine Goes.ctl2 rfl ?_|((first|refine qv1 rfl rfl rfl fun K hK=>?_|refine qv3 rfl rfl rfl fun K hK=>?_|refine qv2 rfl rfl rfl rfl rfl rfl fun K hK=>?_|refine qv4 rfl rfl rfl rfl rfl rfl fun K hK=>?_|refine qn1 rfl rfl rfl fun K hK=>?_|refine qn3 rfl rfl rfl fun K hK=>?_|refine qt1 rfl rfl rfl fun K hK=>?_|refine qt3 rfl rfl rfl fun K hK=>?_);simp (disch:=(first|omega|(simp only [sz]<;>omega)|fail)) only [go_sem,beq_self_eq_true];with_reducible refine hK _ _ ?_;clear hK K)|refine At.nil rfl ?_|refine RG.nil rfl ?_|((first|refine AtL.skipg rfl rfl rfl rfl rfl ?_|refine RGL.skipg rfl rfl rfl rfl rfl ?_|refine AtL.skipu rfl rfl rfl rfl ?_|refine RGL.skipu rfl rfl rfl rfl ?_);simp only [putL,List.set_cons_zero,List.set_cons_succ])|refine Goes.yes rfl ?_|refine Goes.no rfl ?_|refine Goes.drawR [] (by kernel_rfl) ?_)
  ((first|refine qp1 rfl rfl fun K hK=>?_|refine qp3 rfl rfl fun K hK=>?_);simp (disch:=(first|omega|(simp only [sz]<;>omega)|fail)) only [go_sem];(first|refine⟨_,_,(qpd fun w=>zaU),?_⟩|refine⟨_,_,(qpu fun w=>zaU),?_⟩|refine⟨_,_,.com (qpd fun w=>zaU),?_⟩|refine⟨_,_,.com (qpu fun w=>zaU),?_⟩);(try simp only [go_sem]);with_reducible refine hK _ _ ?_;clear hK K)
  refine via ?_;refine Goes.endL rfl (by simp (disch:=(first|omega|(simp only [zaa,zLc,zLn,zSt,zad]<;>omega)|fail)) only [go_sem,resA,zaB,Try.results3]<;>rfl) ?_ ?_
  . exact hK.trans (p1.trans u1)
  . exact u2 (p2 hI)
theorem ztw (ls:List (List zc1)) (n cap0 c0 m rc:Nat) (sl0 sl1:Option Addr) (OB:Blk) (obs:List (Option Blk)) (h6:6<n) (hn:n<=9223372036854775807) (hat0:SlAt 0 sl0) (hat1:SlAt 1 sl1) :
    LawRunsO (tlPr ls n c0 OB obs) 3 #[.slice sl0 n cap0,.slice sl1 m rc] [none,none] tlγ:=by
  refine LawRunsO.mk Try.func3 rfl ?_ ?_
  . intro u hu;simp only [List.mem_toArray,zMc,zNm,or_false] at hu;rcases hu with rfl|rfl
    . exact hat0.clo (by simp)
    . exact hat1.clo (by simp)
  rw [Try.ntmps3];simp only [zSt,zLc,zLn,List.replicate,zCa,zNa];refine via ?_;((first|refine qp1 rfl rfl fun K hK=>?_|refine qp3 rfl rfl fun K hK=>?_);simp (disch:=(first|omega|(simp only [sz]<;>omega)|fail)) only [go_sem];(first|refine⟨_,_,(qpd fun w=>zaU),?_⟩|refine⟨_,_,(qpu fun w=>zaU),?_⟩|refine⟨_,_,.com (qpd fun w=>zaU),?_⟩|refine⟨_,_,.com (qpu fun w=>zaU),?_⟩);(try simp only [go_sem]);with_reducible refine hK _ _ ?_;clear hK K)
  refine via ?_;refine Goes.endL rfl (by simp (disch:=(first|omega|(simp only [zaa,zLc,zLn,zSt,zad]<;>omega)|fail)) only [go_sem,resA,zaB,Try.results3]<;>rfl) ?_ ?_
  . exact KeepC.refl _
  . exact Idle.nil
theorem zta {len:Nat} {z:Nat->Nat->Int} {w:World} {a:Option Addr} {cap:Nat} (h:RowS [.u8,.i64,.i64] w a len cap z):∃ l:List zc1,l.length=len/\(0<len->∃ x,a=some x/\∀ (i:Nat) (y:zc1),l[i]?=some y->∀ (j:Nat) (v:Value),(actC y)[j]?=some v->w.cell? (x.add (i * 3+j))=some v):=by
  rcases h with ⟨rfl,rfl,rfl⟩|⟨x,rfl,h1,h2,h3⟩
  . exact⟨[],rfl,fun h=>by omega⟩
  . refine⟨(List.range len).map fun i=>⟨(z i 0).toNat,z i 1,z i 2⟩,by simp,fun _=>⟨x,rfl,fun i y hy j v hv=>?_⟩⟩
    have hi:i<len:=by have:=(List.getElem?_eq_some_iff.1 hy).1;simpa using this
    simp [List.getElem?_range hi] at hy;subst hy
    match j,hv with
    | 0,hv =>
      simp only [actC,zGz,Option.some.injEq] at hv;have h4:=h3 i hi 0 .u8 rfl;have h5:0<=z i 0/\z i 0<=255:=by simpa [Lit.wf,IntKind.min,IntKind.max,IntKind.signed,IntKind.bits] using h4.2
      rw [<-hv];have e:(((z i 0).toNat:Nat):Int)=z i 0:=by omega
      rw [e];exact h4.1
    | 1,hv =>
      simp only [actC,zGz,zGs,Option.some.injEq] at hv;rw [<-hv];exact (h3 i hi 1 .i64 rfl).1
    | 2,hv =>
      simp only [actC,zGz,zGs,Option.some.injEq] at hv;rw [<-hv];exact (h3 i hi 2 .i64 rfl).1
    | j+3,hv=>simp [actC] at hv
theorem zq1 {ks:List IntKind} {w:World} {a:Option Addr} {len cap:Nat} {z:Nat->Nat->Int} (h:RowS ks w a len cap z):len<=9223372036854775807:=by
  have hm:maxLen<=9223372036854775807:=by decide
  rcases h with ⟨_,rfl,_⟩|⟨_,_,h1,h2,_⟩<;>omega
theorem ziU (a0:Option Addr) (len0 cap0:Nat) (z0:Nat->(Option Addr × Nat × Nat) × (Nat->Nat->Int)) (a1:Option Addr) (len1 cap1:Nat) (z1:Nat->Nat->Int) (W:World) (w0:zsl [.u8,.i64,.i64] W a0 len0 cap0 z0) (w1:RowS [.u8] W a1 len1 cap1 z1) :
    ∃ M last o w' t',runNT Try.prog (M+1) (solo (Go.Conc.G (Frame.enter Try.prog 3 #[.slice a0 len0 cap0,.slice a1 len1 cap1] .normal) []) W) #[]=(.ended o w',t')/\runN Try.prog M (solo (Go.Conc.G (Frame.enter Try.prog 3 #[.slice a0 len0 cap0,.slice a1 len1 cap1] .normal) []) W)=.next last /\
      step Try.prog last=.ended o w'/\Conc.Good Try.prog (fun v w'=>v=.bool true/\Go.RowKit.Below W.heap.size W w') last o w' t':=by
  have hlen0:len0<=9223372036854775807:=by
    have hm:maxLen<=9223372036854775807:=by decide
    rcases w0 with ⟨_,rfl,_⟩|⟨_,_,h1,h2,_⟩<;>omega
  by_cases h6:6<len0
  . obtain⟨x,rfl,_⟩:∃ x,a0=some x/\True:=by
      rcases w0 with ⟨_,rfl,_⟩|⟨x,h,_⟩
      . omega
      . exact⟨x,h,trivial⟩
    obtain⟨b,off,spot⟩:=x;obtain⟨s1,b1,o1,hs1,hr1⟩:∃ (s1:Option Addr) (b1 o1:Nat),SlAt 1 s1/\∀ F:Emb,F.blk 1=b1->F.base 1=o1->F.slack 1=0->ren F (.slice s1 len1 cap1)=.slice a1 len1 cap1:=by
      cases a1 with
      | none=>exact⟨none,0,0,fun y hy=>(by cases hy),fun F _ _ _=>by simp⟩
      | some y=>exact⟨some ⟨1,0,y.spot⟩,y.block,y.off,fun z hz=>by cases hz;rfl,fun F h1 h2 h3=>by simp [adr,h1,h2,h3]⟩
    have L:=(ztw [] len0 cap0 cap0 len1 cap1 (some ⟨0,0,spot⟩) s1 tlG [] h6 hlen0 (fun y hy=>by cases hy;rfl) hs1).runs Try.func3 Try.results3 (by kernel_rfl) ⟨fun n=>if n=0 then b else b1,fun n=>if n=0 then off else o1,fun _=>0⟩ W (fun n c hc=>by
      match n,hc with
      | 0,hc=>simp at hc
      | 1,hc=>simp at hc
      | n+2,hc=>simp at hc) (by simp)
    simp only [List.map_toArray,zMp,zMn] at L;rw [hr1 _ rfl rfl rfl,show ren (⟨fun n=>if n=0 then b else b1,fun n=>if n=0 then off else o1,fun _=>0⟩:Emb) (.slice (some ⟨0,0,spot⟩) len0 cap0)=.slice (some ⟨b,off,spot⟩) len0 cap0 by simp [adr]] at L
    exact L
  obtain⟨l1,rfl,g1,g2,g3⟩:=zq3 w1;have each:∀ i,∃ l:List zc1,i<len0->l.length=(z0 i).1.2.1/\(0<l.length->∃ x,(z0 i).1.1=some x/\∀ (j:Nat) (y:zc1),l[j]?=some y->∀ (m:Nat) (v:Value),(actC y)[m]?=some v->W.cell? (x.add (j * 3+m))=some v)/\l.length<=9223372036854775807:=fun i=>by
    by_cases hi:i<len0
    . rcases w0 with ⟨_,rfl,_⟩|⟨x,rfl,_,_,h3⟩
      . omega
      . obtain⟨l,e1,e2⟩:=zta (h3 i hi).2;exact⟨l,fun _=>⟨e1,by rw [e1];exact e2,by rw [e1];exact zq1 (h3 i hi).2⟩⟩
    . exact⟨[],fun h=>absurd h hi⟩
  obtain⟨Y,hY⟩:∃ Y:Nat->List zc1,∀ i,i<len0->(Y i).length=(z0 i).1.2.1/\(0<(Y i).length->∃ x,(z0 i).1.1=some x/\∀ (j:Nat) (y:zc1),(Y i)[j]?=some y->∀ (m:Nat) (v:Value),(actC y)[m]?=some v->W.cell? (x.add (j * 3+m))=some v)/\(Y i).length<=9223372036854775807:=⟨fun i=>Classical.choose (each i),fun i hi=>Classical.choose_spec (each i) hi⟩;obtain⟨ls,hls⟩:∃ ls,ls=(List.range len0).map Y:=⟨_,rfl⟩;have hll:ls.length=len0:=by rw [hls];simp
  have hlg:∀ i,i<len0->ls.getD i []=Y i:=fun i hi=>by rw [hls];simp [List.getD,hi]
  subst hll;obtain⟨sl,ps,ob,obs,bk,bs,bks,bss,N⟩:=zqD actC (s:=3) (fun _=>rfl) (by decide) (fun x v hv=>zmp x v hv) ls a0 cap0 W 0 2 (fun i=>((z0 i).1.1,(z0 i).1.2.2)) (fun hpos=>by
    rcases w0 with ⟨_,h,_⟩|⟨x,rfl,_,_,h3⟩
    . omega
    . exact⟨x,rfl,fun i hi=>by rw [hlg i hi,(hY i hi).1];exact (h3 i hi).1⟩) fun i hi hpos=>by
    rw [hlg i hi] at hpos ⊢;exact (hY i hi).2.1 hpos
  obtain⟨s1,ob1,b1,o1,hren1,hat1,hrow1,hlies1⟩:=zjj u8N (s:=1) (fun _=>rfl) (by decide) (fun x v hv=>by simp [u8N] at hv;subst hv;rfl) l1 a1 cap1 W 1 g3
  obtain⟨n1,n2,n3,n4⟩:=N.len;have hobro:∀ i b,obs.getD i none=some b->b.ro=true:=fun i b hb=>by
    by_cases hi:i<ls.length
    . exact (N.lies i hi b hb).1
    . rw [List.getD,List.getElem?_eq_none (by omega)] at hb;cases hb
  let F:Emb:=⟨fun n=>if n=0 then bk else if n=1 then b1 else bks.getD (n - 2) 0,fun n=>if n=0 then bs else if n=1 then o1 else bss.getD (n - 2) 0,fun _=>0⟩
  have hF:∀ i,i<ls.length->F.blk (2+i)=bks.getD i 0/\F.base (2+i)=bss.getD i 0/\F.slack (2+i)=0:=fun i hi=>by
    refine⟨?_,?_,rfl⟩
    . show (if 2+i=0 then bk else if 2+i=1 then b1 else bks.getD (2+i - 2) 0)=_
      rw [if_neg (by omega),if_neg (by omega),Nat.add_sub_cancel_left]
    . show (if 2+i=0 then bs else if 2+i=1 then o1 else bss.getD (2+i - 2) 0)=_
      rw [if_neg (by omega),if_neg (by omega),Nat.add_sub_cancel_left]
  have L:=(ztj ls sl cap0 ps ob obs (ob.getD tlG) s1 cap1 l1 ob1 n2 (fun hpos=>?_) N.at0 (fun hpos=>?_) (fun i hi=>N.row i hi) hobro hat1 hrow1 (fun b hb=>(hlies1 b hb).1) (by omega) (fun i=>?_) g2 g1).runsF Try.func3 Try.results3 (by kernel_rfl) F W (fun n b hb=>?_) (by simp;omega)
  . simp only [List.map_toArray,zMp,zMn] at L;rw [N.ren F rfl rfl rfl,hren1 F rfl rfl rfl] at L;exact L
  . obtain⟨_,el,h⟩:=N.row0 hpos;rw [h];rfl
  . obtain⟨h1,el,h⟩:=N.row0 hpos;rw [h];exact⟨h1,rfl,rfl⟩
  . by_cases hi:i<ls.length
    . rw [hlg i hi];exact (hY i hi).2.2
    . simp [List.getD,List.getElem?_eq_none (show ls.length<=i by omega)]
  . match n,hb with
    | 0,hb=>exact N.lies0 F _ rfl rfl hF (by simp;omega) b (by simpa using hb)
    | 1,hb=>exact (hlies1 b (by simpa using hb)).f rfl rfl
    | n+2,hb =>
      have hb:obs[n]?=some (some b):=by simpa using hb
      have hn:=(List.getElem?_eq_some_iff.1 hb).1;have hg:obs.getD n none=some b:=by simp [List.getD,hb]
      obtain⟨f1,f2,_⟩:=hF n (by omega)
      rw [show n+2=2+n by omega]
      exact (N.lies n (by omega) b hg).f f1 f2
end Go.Proofs.Ytkjmaapbeicmkaa
